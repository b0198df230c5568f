/-
  No cell of these rows narrows 'for every input' (looked for: loops, veiled, ifaces, maps, wideKeys, modest, calm, conditions, laid).
  DERIVED. THE GIVEN ROWS OF THIS SEAT. 3 by the template 'for every input the law returns true; each argument reads behind the call as it read before'; 0 by the template 'total and deterministic' (their statements: YtkccnhkhjncpkaaGreatTotals.lean).
  GIVEN WITH THE SEED: the statements are not yours to turn. If you find one false, say at which input.
  Laid BY PROGRAM, IN A SANDBOX (cutbox-rows.mjs): the forced cells as the released guide's own fill.sh prints them over the translation 88356305b5828356… (all of the seat's roots in one cut). By AI agents, Wed Nov 11 2026. No macro, syntax, notation, axiom, sorry.
-/
import Derived.Test.YtkccnhkhjncpkaaGreatChecked
import GoSem.Claim
import GoSem.ClaimJoined
import GoSem.ClaimMapViews
import Derived.JoinedTies
import Derived.KernelRfl
namespace Go.Proofs.YtkccnhkhjncpkaaGreat
/- THE CELL 'sum', in the pinned program and in every row, IS THE sha256 OF THE DUMP (.gsa) THAT YtkccnhkhjncpkaaGreatProg.lean LOADS. Nothing in Lean hashes anything: it is a label: what it is worth is what the hold of that sum in a sandbox is worth. -/
noncomputable def Tryz.pinned : Pinned := { name := "ytkccnhkhjncpkaagreat", sum := "88356305b5828356978d3d7b89043100d344f4e7840cf22c3de4399752f013a2", checked := Tryz.checked }
namespace Rows
def none {H : Type} : Left H := { results := [], args := [] }

/-- 'incunablelaw13.PageTones': WHATEVER THE INPUT: true; the input reads as it did. -/
def pageTonesSpec : ChangeSpec := { name := "pageTones", fn := fun _ => fun
  | [d] => { results := [.lit (.bool true)], args := [d] }
  | _ => none }
def pageTonesRow : OpenClaim := { program := "ytkccnhkhjncpkaagreat", sum := "88356305b5828356978d3d7b89043100d344f4e7840cf22c3de4399752f013a2", func := "incunable/incunablelaw13.PageTones", spec := "pageTones", unfollowed := true, recurses := true, apart := false }
def PageTonesSaid : Prop := pageTonesRow.holds Tryz.pinned (OpenSpec.ofChange pageTonesSpec)

/-- ITS FALSE NEIGHBOUR: 'it returns false'. Refute it at one input. -/
def pageTonesWrong : ChangeSpec := { name := "pageTones", fn := fun _ => fun
  | [d] => { results := [.lit (.bool false)], args := [d] }
  | _ => none }
def PageTonesWrongFalsely : Prop := pageTonesRow.holds Tryz.pinned (OpenSpec.ofChange pageTonesWrong)

/-- 'incunablelaw13.PageRegions': WHATEVER THE INPUT: true; the input reads as it did. -/
def pageRegionsSpec : ChangeSpec := { name := "pageRegions", fn := fun _ => fun
  | [d] => { results := [.lit (.bool true)], args := [d] }
  | _ => none }
def pageRegionsRow : OpenClaim := { program := "ytkccnhkhjncpkaagreat", sum := "88356305b5828356978d3d7b89043100d344f4e7840cf22c3de4399752f013a2", func := "incunable/incunablelaw13.PageRegions", spec := "pageRegions", apart := false }
def PageRegionsSaid : Prop := pageRegionsRow.holds Tryz.pinned (OpenSpec.ofChange pageRegionsSpec)

/-- ITS FALSE NEIGHBOUR: 'it returns false'. Refute it at one input. -/
def pageRegionsWrong : ChangeSpec := { name := "pageRegions", fn := fun _ => fun
  | [d] => { results := [.lit (.bool false)], args := [d] }
  | _ => none }
def PageRegionsWrongFalsely : Prop := pageRegionsRow.holds Tryz.pinned (OpenSpec.ofChange pageRegionsWrong)

/-- 'incunablelaw13.PageShapes': WHATEVER THE INPUT: true; the input reads as it did. -/
def pageShapesSpec : ChangeSpec := { name := "pageShapes", fn := fun _ => fun
  | [d] => { results := [.lit (.bool true)], args := [d] }
  | _ => none }
def pageShapesRow : OpenClaim := { program := "ytkccnhkhjncpkaagreat", sum := "88356305b5828356978d3d7b89043100d344f4e7840cf22c3de4399752f013a2", func := "incunable/incunablelaw13.PageShapes", spec := "pageShapes", unfollowed := true, recurses := true, apart := false }
def PageShapesSaid : Prop := pageShapesRow.holds Tryz.pinned (OpenSpec.ofChange pageShapesSpec)

/-- ITS FALSE NEIGHBOUR: 'it returns false'. Refute it at one input. -/
def pageShapesWrong : ChangeSpec := { name := "pageShapes", fn := fun _ => fun
  | [d] => { results := [.lit (.bool false)], args := [d] }
  | _ => none }
def PageShapesWrongFalsely : Prop := pageShapesRow.holds Tryz.pinned (OpenSpec.ofChange pageShapesWrong)

/- THE SECOND FORM. 'bulk': how many values and letters a reading holds, each counted each time it is reached (what is shared counts as often as it is met; a slice's spare places count too). A statement '..UptoSaid' is the law's where the arguments, and the package variables that the reading takes, are together of bulk at most 1048576: NARROWER than '..Said'. Prove '..Said' where nothing that the law and all that it calls make is longer than what came in: it says more and counts as full. Else prove '..UptoSaid'. A law counts once. -/
mutual
def uptoBulk {H : Type} : DataW H → Nat
  | .lit (.string bytes) => bytes.length + 1
  | .lit _ => 1
  | .nil => 1
  | .ptr d => uptoBulk d + 1
  | .slice elems spare => uptoBulkAll elems + uptoBulkAll spare + 1
  | .agg parts => uptoBulkAll parts + 1
  | .iface _ d => uptoBulk d + 1
  | .map entries => uptoBulkEntries entries + 1
  | .held _ => 1
def uptoBulkAll {H : Type} : List (DataW H) → Nat
  | [] => 0
  | d :: r => uptoBulk d + uptoBulkAll r
def uptoBulkEntries {H : Type} : List (Lit × DataW H) → Nat
  | [] => 0
  | x :: r => uptoBulkEntry x + uptoBulkEntries r
def uptoBulkEntry {H : Type} : Lit × DataW H → Nat
  | (.string bytes, d) => bytes.length + uptoBulk d + 1
  | (_, d) => uptoBulk d + 1
 end
def uptoSmall : (H : Type) → List (DataW H) → Bool := fun _ ds => decide (uptoBulkAll ds ≤ 1048576)
def OpenSpec.upto (s : _root_.Go.ChangeSpec) : _root_.Go.OpenSpec := { _root_.Go.OpenSpec.ofChange s with cond := some uptoSmall }

/-- 'incunablelaw13.PageTones', WHERE WHAT IT READS IS OF BULK AT MOST 1048576: true; the input reads as it did. -/
def pageTonesUptoRow : OpenClaim := { program := "ytkccnhkhjncpkaagreat", sum := "88356305b5828356978d3d7b89043100d344f4e7840cf22c3de4399752f013a2", func := "incunable/incunablelaw13.PageTones", spec := "pageTones", unfollowed := true, recurses := true, apart := false, narrowed := true }
def PageTonesUptoSaid : Prop := pageTonesUptoRow.holds Tryz.pinned (OpenSpec.upto pageTonesSpec)

/-- 'incunablelaw13.PageRegions', WHERE WHAT IT READS IS OF BULK AT MOST 1048576: true; the input reads as it did. -/
def pageRegionsUptoRow : OpenClaim := { program := "ytkccnhkhjncpkaagreat", sum := "88356305b5828356978d3d7b89043100d344f4e7840cf22c3de4399752f013a2", func := "incunable/incunablelaw13.PageRegions", spec := "pageRegions", apart := false, narrowed := true }
def PageRegionsUptoSaid : Prop := pageRegionsUptoRow.holds Tryz.pinned (OpenSpec.upto pageRegionsSpec)

/-- 'incunablelaw13.PageShapes', WHERE WHAT IT READS IS OF BULK AT MOST 1048576: true; the input reads as it did. -/
def pageShapesUptoRow : OpenClaim := { program := "ytkccnhkhjncpkaagreat", sum := "88356305b5828356978d3d7b89043100d344f4e7840cf22c3de4399752f013a2", func := "incunable/incunablelaw13.PageShapes", spec := "pageShapes", unfollowed := true, recurses := true, apart := false, narrowed := true }
def PageShapesUptoSaid : Prop := pageShapesUptoRow.holds Tryz.pinned (OpenSpec.upto pageShapesSpec)

end Rows
end Go.Proofs.YtkccnhkhjncpkaaGreat
