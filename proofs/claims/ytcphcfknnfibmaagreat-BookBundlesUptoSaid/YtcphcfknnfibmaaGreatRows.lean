/-
  NARROWER THAN 'FOR EVERY INPUT', by the rows' own cells (each row's printed sentence says how): ViewServes: loops · BookDirectories: loops · BookBundles: loops · BookAdds: loops · BookChanges: loops.
  DERIVED. THE GIVEN ROWS OF THIS SEAT. 5 by the template 'for every input the law returns true; each argument reads behind the call as it read before'; 0 by the template 'total and deterministic' (their statements: YtcphcfknnfibmaaGreatTotals.lean).
  GIVEN WITH THE SEED: the statements are not yours to turn. If you find one false, say at which input.
  Laid BY PROGRAM, IN A SANDBOX (cutbox-rows.mjs): the forced cells as the released guide's own fill.sh prints them over the translation 1ea42fee08e2338f… (all of the seat's roots in one cut). By AI agents, Wed Nov 11 2026. No macro, syntax, notation, axiom, sorry.
-/
import Derived.Test.YtcphcfknnfibmaaGreatChecked
import GoSem.Claim
import GoSem.ClaimJoined
import GoSem.ClaimMapViews
import Derived.JoinedTies
import Derived.KernelRfl
namespace Go.Proofs.YtcphcfknnfibmaaGreat
/- THE CELL 'sum', in the pinned program and in every row, IS THE sha256 OF THE DUMP (.gsa) THAT YtcphcfknnfibmaaGreatProg.lean LOADS. Nothing in Lean hashes anything: it is a label: what it is worth is what the hold of that sum in a sandbox is worth. -/
noncomputable def Tryz.pinned : Pinned := { name := "ytcphcfknnfibmaagreat", sum := "1ea42fee08e2338f0cbbddd8a02e9da160ce7fe1a0b0b67f47dbb758246f5034", checked := Tryz.checked }
namespace Rows
def none {H : Type} : Left H := { results := [], args := [] }

/-- 'incunablelaw28.ViewServes': WHATEVER THE INPUT: true; the input reads as it did. -/
def viewServesSpec : ChangeSpec := { name := "viewServes", fn := fun _ => fun
  | [d1, d2] => { results := [.lit (.bool true)], args := [d1, d2] }
  | _ => none }
def viewServesRow : OpenClaim := { program := "ytcphcfknnfibmaagreat", sum := "1ea42fee08e2338f0cbbddd8a02e9da160ce7fe1a0b0b67f47dbb758246f5034", func := "incunable/incunablelaw28.ViewServes", spec := "viewServes", inPlace := ["internal/bytealg.Compare"], unfollowed := true, recurses := true, loops := true, apart := false }
def ViewServesSaid : Prop := viewServesRow.holds Tryz.pinned (OpenSpec.ofChange viewServesSpec)

/-- ITS FALSE NEIGHBOUR: 'it returns false'. Refute it at one input. -/
def viewServesWrong : ChangeSpec := { name := "viewServes", fn := fun _ => fun
  | [d1, d2] => { results := [.lit (.bool false)], args := [d1, d2] }
  | _ => none }
def ViewServesWrongFalsely : Prop := viewServesRow.holds Tryz.pinned (OpenSpec.ofChange viewServesWrong)

/-- 'incunablelaw27.BookDirectories': WHATEVER THE INPUT: true; the input reads as it did. -/
def bookDirectoriesSpec : ChangeSpec := { name := "bookDirectories", fn := fun _ => fun
  | [d] => { results := [.lit (.bool true)], args := [d] }
  | _ => none }
def bookDirectoriesRow : OpenClaim := { program := "ytcphcfknnfibmaagreat", sum := "1ea42fee08e2338f0cbbddd8a02e9da160ce7fe1a0b0b67f47dbb758246f5034", func := "incunable/incunablelaw27.BookDirectories", spec := "bookDirectories", inPlace := ["internal/bytealg.Compare", "slices.overlaps[incunable/api.File]"], unfollowed := true, recurses := true, loops := true, apart := false }
def BookDirectoriesSaid : Prop := bookDirectoriesRow.holds Tryz.pinned (OpenSpec.ofChange bookDirectoriesSpec)

/-- ITS FALSE NEIGHBOUR: 'it returns false'. Refute it at one input. -/
def bookDirectoriesWrong : ChangeSpec := { name := "bookDirectories", fn := fun _ => fun
  | [d] => { results := [.lit (.bool false)], args := [d] }
  | _ => none }
def BookDirectoriesWrongFalsely : Prop := bookDirectoriesRow.holds Tryz.pinned (OpenSpec.ofChange bookDirectoriesWrong)

/-- 'incunablelaw27.BookBundles': WHATEVER THE INPUT: true; the input reads as it did. -/
def bookBundlesSpec : ChangeSpec := { name := "bookBundles", fn := fun _ => fun
  | [d] => { results := [.lit (.bool true)], args := [d] }
  | _ => none }
def bookBundlesRow : OpenClaim := { program := "ytcphcfknnfibmaagreat", sum := "1ea42fee08e2338f0cbbddd8a02e9da160ce7fe1a0b0b67f47dbb758246f5034", func := "incunable/incunablelaw27.BookBundles", spec := "bookBundles", inPlace := ["internal/bytealg.Compare", "slices.overlaps[incunable/api.File]"], unfollowed := true, recurses := true, loops := true, apart := false }
def BookBundlesSaid : Prop := bookBundlesRow.holds Tryz.pinned (OpenSpec.ofChange bookBundlesSpec)

/-- ITS FALSE NEIGHBOUR: 'it returns false'. Refute it at one input. -/
def bookBundlesWrong : ChangeSpec := { name := "bookBundles", fn := fun _ => fun
  | [d] => { results := [.lit (.bool false)], args := [d] }
  | _ => none }
def BookBundlesWrongFalsely : Prop := bookBundlesRow.holds Tryz.pinned (OpenSpec.ofChange bookBundlesWrong)

/-- 'incunablelaw27.BookAdds': WHATEVER THE INPUT: true; the input reads as it did. -/
def bookAddsSpec : ChangeSpec := { name := "bookAdds", fn := fun _ => fun
  | [d1, d2] => { results := [.lit (.bool true)], args := [d1, d2] }
  | _ => none }
def bookAddsRow : OpenClaim := { program := "ytcphcfknnfibmaagreat", sum := "1ea42fee08e2338f0cbbddd8a02e9da160ce7fe1a0b0b67f47dbb758246f5034", func := "incunable/incunablelaw27.BookAdds", spec := "bookAdds", inPlace := ["internal/bytealg.Compare", "slices.overlaps[incunable/api.File]"], unfollowed := true, recurses := true, loops := true, apart := false }
def BookAddsSaid : Prop := bookAddsRow.holds Tryz.pinned (OpenSpec.ofChange bookAddsSpec)

/-- ITS FALSE NEIGHBOUR: 'it returns false'. Refute it at one input. -/
def bookAddsWrong : ChangeSpec := { name := "bookAdds", fn := fun _ => fun
  | [d1, d2] => { results := [.lit (.bool false)], args := [d1, d2] }
  | _ => none }
def BookAddsWrongFalsely : Prop := bookAddsRow.holds Tryz.pinned (OpenSpec.ofChange bookAddsWrong)

/-- 'incunablelaw27.BookChanges': WHATEVER THE INPUT: true; the input reads as it did. -/
def bookChangesSpec : ChangeSpec := { name := "bookChanges", fn := fun _ => fun
  | [d] => { results := [.lit (.bool true)], args := [d] }
  | _ => none }
def bookChangesRow : OpenClaim := { program := "ytcphcfknnfibmaagreat", sum := "1ea42fee08e2338f0cbbddd8a02e9da160ce7fe1a0b0b67f47dbb758246f5034", func := "incunable/incunablelaw27.BookChanges", spec := "bookChanges", inPlace := ["internal/bytealg.Compare", "slices.overlaps[incunable/api.File]"], unfollowed := true, recurses := true, loops := true, apart := false }
def BookChangesSaid : Prop := bookChangesRow.holds Tryz.pinned (OpenSpec.ofChange bookChangesSpec)

/-- ITS FALSE NEIGHBOUR: 'it returns false'. Refute it at one input. -/
def bookChangesWrong : ChangeSpec := { name := "bookChanges", fn := fun _ => fun
  | [d] => { results := [.lit (.bool false)], args := [d] }
  | _ => none }
def BookChangesWrongFalsely : Prop := bookChangesRow.holds Tryz.pinned (OpenSpec.ofChange bookChangesWrong)

/- THE SECOND FORM. 'bulk': how many values and letters a reading holds, each counted each time it is reached (what is shared counts as often as it is met; a slice's spare places count too). A statement '..UptoSaid' is the law's where the arguments, and the package variables that the reading takes, are together of bulk at most 1048576: NARROWER than '..Said'. Prove '..Said' where nothing that the law and all that it calls make is longer than what came in: it says more and counts as full. Else prove '..UptoSaid'. A law counts once. -/
mutual
def uptoBulk {H : Type} : DataW H → Nat
  | .lit (.string bytes) => bytes.length + 1
  | .lit _ => 1
  | .nil => 1
  | .ptr d => uptoBulk d + 1
  | .slice elems spare => uptoBulkAll elems + uptoBulkAll spare + 1
  | .agg parts => uptoBulkAll parts + 1
  | .iface _ d => uptoBulk d + 1
  | .map entries => uptoBulkEntries entries + 1
  | .held _ => 1
def uptoBulkAll {H : Type} : List (DataW H) → Nat
  | [] => 0
  | d :: r => uptoBulk d + uptoBulkAll r
def uptoBulkEntries {H : Type} : List (Lit × DataW H) → Nat
  | [] => 0
  | x :: r => uptoBulkEntry x + uptoBulkEntries r
def uptoBulkEntry {H : Type} : Lit × DataW H → Nat
  | (.string bytes, d) => bytes.length + uptoBulk d + 1
  | (_, d) => uptoBulk d + 1
 end
def uptoSmall : (H : Type) → List (DataW H) → Bool := fun _ ds => decide (uptoBulkAll ds ≤ 1048576)
def OpenSpec.upto (s : _root_.Go.ChangeSpec) : _root_.Go.OpenSpec := { _root_.Go.OpenSpec.ofChange s with cond := some uptoSmall }

/-- 'incunablelaw28.ViewServes', WHERE WHAT IT READS IS OF BULK AT MOST 1048576: true; the input reads as it did. -/
def viewServesUptoRow : OpenClaim := { program := "ytcphcfknnfibmaagreat", sum := "1ea42fee08e2338f0cbbddd8a02e9da160ce7fe1a0b0b67f47dbb758246f5034", func := "incunable/incunablelaw28.ViewServes", spec := "viewServes", inPlace := ["internal/bytealg.Compare"], unfollowed := true, recurses := true, loops := true, apart := false, narrowed := true }
def ViewServesUptoSaid : Prop := viewServesUptoRow.holds Tryz.pinned (OpenSpec.upto viewServesSpec)

/-- 'incunablelaw27.BookDirectories', WHERE WHAT IT READS IS OF BULK AT MOST 1048576: true; the input reads as it did. -/
def bookDirectoriesUptoRow : OpenClaim := { program := "ytcphcfknnfibmaagreat", sum := "1ea42fee08e2338f0cbbddd8a02e9da160ce7fe1a0b0b67f47dbb758246f5034", func := "incunable/incunablelaw27.BookDirectories", spec := "bookDirectories", inPlace := ["internal/bytealg.Compare", "slices.overlaps[incunable/api.File]"], unfollowed := true, recurses := true, loops := true, apart := false, narrowed := true }
def BookDirectoriesUptoSaid : Prop := bookDirectoriesUptoRow.holds Tryz.pinned (OpenSpec.upto bookDirectoriesSpec)

/-- 'incunablelaw27.BookBundles', WHERE WHAT IT READS IS OF BULK AT MOST 1048576: true; the input reads as it did. -/
def bookBundlesUptoRow : OpenClaim := { program := "ytcphcfknnfibmaagreat", sum := "1ea42fee08e2338f0cbbddd8a02e9da160ce7fe1a0b0b67f47dbb758246f5034", func := "incunable/incunablelaw27.BookBundles", spec := "bookBundles", inPlace := ["internal/bytealg.Compare", "slices.overlaps[incunable/api.File]"], unfollowed := true, recurses := true, loops := true, apart := false, narrowed := true }
def BookBundlesUptoSaid : Prop := bookBundlesUptoRow.holds Tryz.pinned (OpenSpec.upto bookBundlesSpec)

/-- 'incunablelaw27.BookAdds', WHERE WHAT IT READS IS OF BULK AT MOST 1048576: true; the input reads as it did. -/
def bookAddsUptoRow : OpenClaim := { program := "ytcphcfknnfibmaagreat", sum := "1ea42fee08e2338f0cbbddd8a02e9da160ce7fe1a0b0b67f47dbb758246f5034", func := "incunable/incunablelaw27.BookAdds", spec := "bookAdds", inPlace := ["internal/bytealg.Compare", "slices.overlaps[incunable/api.File]"], unfollowed := true, recurses := true, loops := true, apart := false, narrowed := true }
def BookAddsUptoSaid : Prop := bookAddsUptoRow.holds Tryz.pinned (OpenSpec.upto bookAddsSpec)

/-- 'incunablelaw27.BookChanges', WHERE WHAT IT READS IS OF BULK AT MOST 1048576: true; the input reads as it did. -/
def bookChangesUptoRow : OpenClaim := { program := "ytcphcfknnfibmaagreat", sum := "1ea42fee08e2338f0cbbddd8a02e9da160ce7fe1a0b0b67f47dbb758246f5034", func := "incunable/incunablelaw27.BookChanges", spec := "bookChanges", inPlace := ["internal/bytealg.Compare", "slices.overlaps[incunable/api.File]"], unfollowed := true, recurses := true, loops := true, apart := false, narrowed := true }
def BookChangesUptoSaid : Prop := bookChangesUptoRow.holds Tryz.pinned (OpenSpec.upto bookChangesSpec)

end Rows
end Go.Proofs.YtcphcfknnfibmaaGreat
