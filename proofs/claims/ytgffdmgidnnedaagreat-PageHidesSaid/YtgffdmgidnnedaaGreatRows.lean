/-
  No cell of these rows narrows 'for every input' (looked for: loops, veiled, ifaces, maps, wideKeys, modest, calm, conditions, laid).
  DERIVED. THE GIVEN ROWS OF THIS SEAT. 4 by the template 'for every input the law returns true; each argument reads behind the call as it read before'; 0 by the template 'total and deterministic' (their statements: YtgffdmgidnnedaaGreatTotals.lean).
  GIVEN WITH THE SEED: the statements are not yours to turn. If you find one false, say at which input.
  Laid BY PROGRAM, IN A SANDBOX (cutbox-rows.mjs): the forced cells as the released guide's own fill.sh prints them over the translation 9cbfdb88020aef66… (all of the seat's roots in one cut). By AI agents, Wed Nov 11 2026. No macro, syntax, notation, axiom, sorry.
-/
import Derived.Test.YtgffdmgidnnedaaGreatChecked
import GoSem.Claim
import GoSem.ClaimJoined
import GoSem.ClaimMapViews
import Derived.JoinedTies
import Derived.KernelRfl
namespace Go.Proofs.YtgffdmgidnnedaaGreat
/- THE CELL 'sum', in the pinned program and in every row, IS THE sha256 OF THE DUMP (.gsa) THAT YtgffdmgidnnedaaGreatProg.lean LOADS. Nothing in Lean hashes anything: it is a label: what it is worth is what the hold of that sum in a sandbox is worth. -/
noncomputable def Tryz.pinned : Pinned := { name := "ytgffdmgidnnedaagreat", sum := "9cbfdb88020aef66ba82e98cbefbbfedc4b85a22a124c06553111f50078f1b1b", checked := Tryz.checked }
namespace Rows
def none {H : Type} : Left H := { results := [], args := [] }

/-- 'incunablelaw13.PageOrders': WHATEVER THE INPUT: true; the input reads as it did. -/
def pageOrdersSpec : ChangeSpec := { name := "pageOrders", fn := fun _ => fun
  | [d1, d2, d3] => { results := [.lit (.bool true)], args := [d1, d2, d3] }
  | _ => none }
def pageOrdersRow : OpenClaim := { program := "ytgffdmgidnnedaagreat", sum := "9cbfdb88020aef66ba82e98cbefbbfedc4b85a22a124c06553111f50078f1b1b", func := "incunable/incunablelaw13.PageOrders", spec := "pageOrders", unfollowed := true, recurses := true, apart := false }
def PageOrdersSaid : Prop := pageOrdersRow.holds Tryz.pinned (OpenSpec.ofChange pageOrdersSpec)

/-- ITS FALSE NEIGHBOUR: 'it returns false'. Refute it at one input. -/
def pageOrdersWrong : ChangeSpec := { name := "pageOrders", fn := fun _ => fun
  | [d1, d2, d3] => { results := [.lit (.bool false)], args := [d1, d2, d3] }
  | _ => none }
def PageOrdersWrongFalsely : Prop := pageOrdersRow.holds Tryz.pinned (OpenSpec.ofChange pageOrdersWrong)

/-- 'incunablelaw13.PageHeights': WHATEVER THE INPUT: true; the input reads as it did. -/
def pageHeightsSpec : ChangeSpec := { name := "pageHeights", fn := fun _ => fun
  | [d] => { results := [.lit (.bool true)], args := [d] }
  | _ => none }
def pageHeightsRow : OpenClaim := { program := "ytgffdmgidnnedaagreat", sum := "9cbfdb88020aef66ba82e98cbefbbfedc4b85a22a124c06553111f50078f1b1b", func := "incunable/incunablelaw13.PageHeights", spec := "pageHeights", unfollowed := true, recurses := true, apart := false }
def PageHeightsSaid : Prop := pageHeightsRow.holds Tryz.pinned (OpenSpec.ofChange pageHeightsSpec)

/-- ITS FALSE NEIGHBOUR: 'it returns false'. Refute it at one input. -/
def pageHeightsWrong : ChangeSpec := { name := "pageHeights", fn := fun _ => fun
  | [d] => { results := [.lit (.bool false)], args := [d] }
  | _ => none }
def PageHeightsWrongFalsely : Prop := pageHeightsRow.holds Tryz.pinned (OpenSpec.ofChange pageHeightsWrong)

/-- 'incunablelaw13.PageShows': WHATEVER THE INPUT: true; the input reads as it did. -/
def pageShowsSpec : ChangeSpec := { name := "pageShows", fn := fun _ => fun
  | [d] => { results := [.lit (.bool true)], args := [d] }
  | _ => none }
def pageShowsRow : OpenClaim := { program := "ytgffdmgidnnedaagreat", sum := "9cbfdb88020aef66ba82e98cbefbbfedc4b85a22a124c06553111f50078f1b1b", func := "incunable/incunablelaw13.PageShows", spec := "pageShows", unfollowed := true, recurses := true, apart := false }
def PageShowsSaid : Prop := pageShowsRow.holds Tryz.pinned (OpenSpec.ofChange pageShowsSpec)

/-- ITS FALSE NEIGHBOUR: 'it returns false'. Refute it at one input. -/
def pageShowsWrong : ChangeSpec := { name := "pageShows", fn := fun _ => fun
  | [d] => { results := [.lit (.bool false)], args := [d] }
  | _ => none }
def PageShowsWrongFalsely : Prop := pageShowsRow.holds Tryz.pinned (OpenSpec.ofChange pageShowsWrong)

/-- 'incunablelaw13.PageHides': WHATEVER THE INPUT: true; the input reads as it did. -/
def pageHidesSpec : ChangeSpec := { name := "pageHides", fn := fun _ => fun
  | [d1, d2, d3] => { results := [.lit (.bool true)], args := [d1, d2, d3] }
  | _ => none }
def pageHidesRow : OpenClaim := { program := "ytgffdmgidnnedaagreat", sum := "9cbfdb88020aef66ba82e98cbefbbfedc4b85a22a124c06553111f50078f1b1b", func := "incunable/incunablelaw13.PageHides", spec := "pageHides", unfollowed := true, recurses := true, apart := false }
def PageHidesSaid : Prop := pageHidesRow.holds Tryz.pinned (OpenSpec.ofChange pageHidesSpec)

/-- ITS FALSE NEIGHBOUR: 'it returns false'. Refute it at one input. -/
def pageHidesWrong : ChangeSpec := { name := "pageHides", fn := fun _ => fun
  | [d1, d2, d3] => { results := [.lit (.bool false)], args := [d1, d2, d3] }
  | _ => none }
def PageHidesWrongFalsely : Prop := pageHidesRow.holds Tryz.pinned (OpenSpec.ofChange pageHidesWrong)

/- THE SECOND FORM. 'bulk': how many values and letters a reading holds, each counted each time it is reached (what is shared counts as often as it is met; a slice's spare places count too). A statement '..UptoSaid' is the law's where the arguments, and the package variables that the reading takes, are together of bulk at most 1048576: NARROWER than '..Said'. Prove '..Said' where nothing that the law and all that it calls make is longer than what came in: it says more and counts as full. Else prove '..UptoSaid'. A law counts once. -/
mutual
def uptoBulk {H : Type} : DataW H → Nat
  | .lit (.string bytes) => bytes.length + 1
  | .lit _ => 1
  | .nil => 1
  | .ptr d => uptoBulk d + 1
  | .slice elems spare => uptoBulkAll elems + uptoBulkAll spare + 1
  | .agg parts => uptoBulkAll parts + 1
  | .iface _ d => uptoBulk d + 1
  | .map entries => uptoBulkEntries entries + 1
  | .held _ => 1
def uptoBulkAll {H : Type} : List (DataW H) → Nat
  | [] => 0
  | d :: r => uptoBulk d + uptoBulkAll r
def uptoBulkEntries {H : Type} : List (Lit × DataW H) → Nat
  | [] => 0
  | x :: r => uptoBulkEntry x + uptoBulkEntries r
def uptoBulkEntry {H : Type} : Lit × DataW H → Nat
  | (.string bytes, d) => bytes.length + uptoBulk d + 1
  | (_, d) => uptoBulk d + 1
 end
def uptoSmall : (H : Type) → List (DataW H) → Bool := fun _ ds => decide (uptoBulkAll ds ≤ 1048576)
def OpenSpec.upto (s : _root_.Go.ChangeSpec) : _root_.Go.OpenSpec := { _root_.Go.OpenSpec.ofChange s with cond := some uptoSmall }

/-- 'incunablelaw13.PageOrders', WHERE WHAT IT READS IS OF BULK AT MOST 1048576: true; the input reads as it did. -/
def pageOrdersUptoRow : OpenClaim := { program := "ytgffdmgidnnedaagreat", sum := "9cbfdb88020aef66ba82e98cbefbbfedc4b85a22a124c06553111f50078f1b1b", func := "incunable/incunablelaw13.PageOrders", spec := "pageOrders", unfollowed := true, recurses := true, apart := false, narrowed := true }
def PageOrdersUptoSaid : Prop := pageOrdersUptoRow.holds Tryz.pinned (OpenSpec.upto pageOrdersSpec)

/-- 'incunablelaw13.PageHeights', WHERE WHAT IT READS IS OF BULK AT MOST 1048576: true; the input reads as it did. -/
def pageHeightsUptoRow : OpenClaim := { program := "ytgffdmgidnnedaagreat", sum := "9cbfdb88020aef66ba82e98cbefbbfedc4b85a22a124c06553111f50078f1b1b", func := "incunable/incunablelaw13.PageHeights", spec := "pageHeights", unfollowed := true, recurses := true, apart := false, narrowed := true }
def PageHeightsUptoSaid : Prop := pageHeightsUptoRow.holds Tryz.pinned (OpenSpec.upto pageHeightsSpec)

/-- 'incunablelaw13.PageShows', WHERE WHAT IT READS IS OF BULK AT MOST 1048576: true; the input reads as it did. -/
def pageShowsUptoRow : OpenClaim := { program := "ytgffdmgidnnedaagreat", sum := "9cbfdb88020aef66ba82e98cbefbbfedc4b85a22a124c06553111f50078f1b1b", func := "incunable/incunablelaw13.PageShows", spec := "pageShows", unfollowed := true, recurses := true, apart := false, narrowed := true }
def PageShowsUptoSaid : Prop := pageShowsUptoRow.holds Tryz.pinned (OpenSpec.upto pageShowsSpec)

/-- 'incunablelaw13.PageHides', WHERE WHAT IT READS IS OF BULK AT MOST 1048576: true; the input reads as it did. -/
def pageHidesUptoRow : OpenClaim := { program := "ytgffdmgidnnedaagreat", sum := "9cbfdb88020aef66ba82e98cbefbbfedc4b85a22a124c06553111f50078f1b1b", func := "incunable/incunablelaw13.PageHides", spec := "pageHides", unfollowed := true, recurses := true, apart := false, narrowed := true }
def PageHidesUptoSaid : Prop := pageHidesUptoRow.holds Tryz.pinned (OpenSpec.upto pageHidesSpec)

end Rows
end Go.Proofs.YtgffdmgidnnedaaGreat
