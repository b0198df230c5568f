/-
  NARROWER THAN 'FOR EVERY INPUT', by the rows' own cells (each row's printed sentence says how): ChunkTogether: loops · ChunkPuts: loops · ChunkFinds: loops · ChunkReplaces: loops · ChunkBack: loops.
  DERIVED. THE GIVEN ROWS OF THIS SEAT. 9 by the template 'for every input the law returns true; each argument reads behind the call as it read before'; 0 by the template 'total and deterministic' (their statements: YtjabpjkomgakbaaTotals.lean).
  GIVEN WITH THE SEED: the statements are not yours to turn. If you find one false, say at which input.
  Laid BY PROGRAM, IN A SANDBOX (cutbox-rows.mjs): the forced cells as the released guide's own fill.sh prints them over the translation 2c2a95a14a58717e… (all of the seat's roots in one cut). By AI agents, Wed Nov 11 2026. No macro, syntax, notation, axiom, sorry.
-/
import Derived.Test.YtjabpjkomgakbaaChecked
import GoSem.Claim
import GoSem.ClaimJoined
import GoSem.ClaimMapViews
import Derived.JoinedTies
import Derived.KernelRfl
namespace Go.Proofs.Ytjabpjkomgakbaa
/- THE CELL 'sum', in the pinned program and in every row, IS THE sha256 OF THE DUMP (.gsa) THAT YtjabpjkomgakbaaProg.lean LOADS. Nothing in Lean hashes anything: it is a label: what it is worth is what the hold of that sum in a sandbox is worth. -/
noncomputable def Try.pinned : Pinned := { name := "ytjabpjkomgakbaa", sum := "2c2a95a14a58717e19ec144efadf7b641faabf06d3534b3419e70358384183f4", checked := Try.checked }
namespace Rows
def none {H : Type} : Left H := { results := [], args := [] }

/-- 'incunablelaw13.PageInfos': WHATEVER THE INPUT: true; the input reads as it did. -/
def pageInfosSpec : ChangeSpec := { name := "pageInfos", fn := fun _ => fun
  | [d] => { results := [.lit (.bool true)], args := [d] }
  | _ => none }
def pageInfosRow : OpenClaim := { program := "ytjabpjkomgakbaa", sum := "2c2a95a14a58717e19ec144efadf7b641faabf06d3534b3419e70358384183f4", func := "incunable/incunablelaw13.PageInfos", spec := "pageInfos", apart := false }
def PageInfosSaid : Prop := pageInfosRow.holds Try.pinned (OpenSpec.ofChange pageInfosSpec)

/-- ITS FALSE NEIGHBOUR: 'it returns false'. Refute it at one input. -/
def pageInfosWrong : ChangeSpec := { name := "pageInfos", fn := fun _ => fun
  | [d] => { results := [.lit (.bool false)], args := [d] }
  | _ => none }
def PageInfosWrongFalsely : Prop := pageInfosRow.holds Try.pinned (OpenSpec.ofChange pageInfosWrong)

/-- 'incunablelaw26.ChunkTogether': WHATEVER THE INPUT: true; the input reads as it did. -/
def chunkTogetherSpec : ChangeSpec := { name := "chunkTogether", fn := fun _ => fun
  | [d1, d2] => { results := [.lit (.bool true)], args := [d1, d2] }
  | _ => none }
def chunkTogetherRow : OpenClaim := { program := "ytjabpjkomgakbaa", sum := "2c2a95a14a58717e19ec144efadf7b641faabf06d3534b3419e70358384183f4", func := "incunable/incunablelaw26.ChunkTogether", spec := "chunkTogether", recurses := true, loops := true, apart := false }
def ChunkTogetherSaid : Prop := chunkTogetherRow.holds Try.pinned (OpenSpec.ofChange chunkTogetherSpec)

/-- ITS FALSE NEIGHBOUR: 'it returns false'. Refute it at one input. -/
def chunkTogetherWrong : ChangeSpec := { name := "chunkTogether", fn := fun _ => fun
  | [d1, d2] => { results := [.lit (.bool false)], args := [d1, d2] }
  | _ => none }
def ChunkTogetherWrongFalsely : Prop := chunkTogetherRow.holds Try.pinned (OpenSpec.ofChange chunkTogetherWrong)

/-- 'incunablelaw26.ChunkPuts': WHATEVER THE INPUT: true; the input reads as it did. -/
def chunkPutsSpec : ChangeSpec := { name := "chunkPuts", fn := fun _ => fun
  | [d1, d2] => { results := [.lit (.bool true)], args := [d1, d2] }
  | _ => none }
def chunkPutsRow : OpenClaim := { program := "ytjabpjkomgakbaa", sum := "2c2a95a14a58717e19ec144efadf7b641faabf06d3534b3419e70358384183f4", func := "incunable/incunablelaw26.ChunkPuts", spec := "chunkPuts", unfollowed := true, recurses := true, loops := true, apart := false }
def ChunkPutsSaid : Prop := chunkPutsRow.holds Try.pinned (OpenSpec.ofChange chunkPutsSpec)

/-- ITS FALSE NEIGHBOUR: 'it returns false'. Refute it at one input. -/
def chunkPutsWrong : ChangeSpec := { name := "chunkPuts", fn := fun _ => fun
  | [d1, d2] => { results := [.lit (.bool false)], args := [d1, d2] }
  | _ => none }
def ChunkPutsWrongFalsely : Prop := chunkPutsRow.holds Try.pinned (OpenSpec.ofChange chunkPutsWrong)

/-- 'incunablelaw26.ChunkFinds': WHATEVER THE INPUT: true; the input reads as it did. -/
def chunkFindsSpec : ChangeSpec := { name := "chunkFinds", fn := fun _ => fun
  | [d1, d2, d3] => { results := [.lit (.bool true)], args := [d1, d2, d3] }
  | _ => none }
def chunkFindsRow : OpenClaim := { program := "ytjabpjkomgakbaa", sum := "2c2a95a14a58717e19ec144efadf7b641faabf06d3534b3419e70358384183f4", func := "incunable/incunablelaw26.ChunkFinds", spec := "chunkFinds", unfollowed := true, recurses := true, loops := true, apart := false }
def ChunkFindsSaid : Prop := chunkFindsRow.holds Try.pinned (OpenSpec.ofChange chunkFindsSpec)

/-- ITS FALSE NEIGHBOUR: 'it returns false'. Refute it at one input. -/
def chunkFindsWrong : ChangeSpec := { name := "chunkFinds", fn := fun _ => fun
  | [d1, d2, d3] => { results := [.lit (.bool false)], args := [d1, d2, d3] }
  | _ => none }
def ChunkFindsWrongFalsely : Prop := chunkFindsRow.holds Try.pinned (OpenSpec.ofChange chunkFindsWrong)

/-- 'incunablelaw26.ChunkReplaces': WHATEVER THE INPUT: true; the input reads as it did. -/
def chunkReplacesSpec : ChangeSpec := { name := "chunkReplaces", fn := fun _ => fun
  | [d1, d2, d3] => { results := [.lit (.bool true)], args := [d1, d2, d3] }
  | _ => none }
def chunkReplacesRow : OpenClaim := { program := "ytjabpjkomgakbaa", sum := "2c2a95a14a58717e19ec144efadf7b641faabf06d3534b3419e70358384183f4", func := "incunable/incunablelaw26.ChunkReplaces", spec := "chunkReplaces", unfollowed := true, recurses := true, loops := true, apart := false }
def ChunkReplacesSaid : Prop := chunkReplacesRow.holds Try.pinned (OpenSpec.ofChange chunkReplacesSpec)

/-- ITS FALSE NEIGHBOUR: 'it returns false'. Refute it at one input. -/
def chunkReplacesWrong : ChangeSpec := { name := "chunkReplaces", fn := fun _ => fun
  | [d1, d2, d3] => { results := [.lit (.bool false)], args := [d1, d2, d3] }
  | _ => none }
def ChunkReplacesWrongFalsely : Prop := chunkReplacesRow.holds Try.pinned (OpenSpec.ofChange chunkReplacesWrong)

/-- 'incunablelaw26.ChunkGets': WHATEVER THE INPUT: true; the input reads as it did. -/
def chunkGetsSpec : ChangeSpec := { name := "chunkGets", fn := fun _ => fun
  | [d] => { results := [.lit (.bool true)], args := [d] }
  | _ => none }
def chunkGetsRow : OpenClaim := { program := "ytjabpjkomgakbaa", sum := "2c2a95a14a58717e19ec144efadf7b641faabf06d3534b3419e70358384183f4", func := "incunable/incunablelaw26.ChunkGets", spec := "chunkGets", unfollowed := true, recurses := true, apart := false }
def ChunkGetsSaid : Prop := chunkGetsRow.holds Try.pinned (OpenSpec.ofChange chunkGetsSpec)

/-- ITS FALSE NEIGHBOUR: 'it returns false'. Refute it at one input. -/
def chunkGetsWrong : ChangeSpec := { name := "chunkGets", fn := fun _ => fun
  | [d] => { results := [.lit (.bool false)], args := [d] }
  | _ => none }
def ChunkGetsWrongFalsely : Prop := chunkGetsRow.holds Try.pinned (OpenSpec.ofChange chunkGetsWrong)

/-- 'incunablelaw26.ChunkAgain': WHATEVER THE INPUT: true; the input reads as it did. -/
def chunkAgainSpec : ChangeSpec := { name := "chunkAgain", fn := fun _ => fun
  | [d] => { results := [.lit (.bool true)], args := [d] }
  | _ => none }
def chunkAgainRow : OpenClaim := { program := "ytjabpjkomgakbaa", sum := "2c2a95a14a58717e19ec144efadf7b641faabf06d3534b3419e70358384183f4", func := "incunable/incunablelaw26.ChunkAgain", spec := "chunkAgain", unfollowed := true, recurses := true, apart := false }
def ChunkAgainSaid : Prop := chunkAgainRow.holds Try.pinned (OpenSpec.ofChange chunkAgainSpec)

/-- ITS FALSE NEIGHBOUR: 'it returns false'. Refute it at one input. -/
def chunkAgainWrong : ChangeSpec := { name := "chunkAgain", fn := fun _ => fun
  | [d] => { results := [.lit (.bool false)], args := [d] }
  | _ => none }
def ChunkAgainWrongFalsely : Prop := chunkAgainRow.holds Try.pinned (OpenSpec.ofChange chunkAgainWrong)

/-- 'incunablelaw26.ChunkHeals': WHATEVER THE INPUT: true; the input reads as it did. -/
def chunkHealsSpec : ChangeSpec := { name := "chunkHeals", fn := fun _ => fun
  | [d] => { results := [.lit (.bool true)], args := [d] }
  | _ => none }
def chunkHealsRow : OpenClaim := { program := "ytjabpjkomgakbaa", sum := "2c2a95a14a58717e19ec144efadf7b641faabf06d3534b3419e70358384183f4", func := "incunable/incunablelaw26.ChunkHeals", spec := "chunkHeals", unfollowed := true, recurses := true, apart := false }
def ChunkHealsSaid : Prop := chunkHealsRow.holds Try.pinned (OpenSpec.ofChange chunkHealsSpec)

/-- ITS FALSE NEIGHBOUR: 'it returns false'. Refute it at one input. -/
def chunkHealsWrong : ChangeSpec := { name := "chunkHeals", fn := fun _ => fun
  | [d] => { results := [.lit (.bool false)], args := [d] }
  | _ => none }
def ChunkHealsWrongFalsely : Prop := chunkHealsRow.holds Try.pinned (OpenSpec.ofChange chunkHealsWrong)

/-- 'incunablelaw26.ChunkBack': WHATEVER THE INPUT: true; the input reads as it did. -/
def chunkBackSpec : ChangeSpec := { name := "chunkBack", fn := fun _ => fun
  | [d] => { results := [.lit (.bool true)], args := [d] }
  | _ => none }
def chunkBackRow : OpenClaim := { program := "ytjabpjkomgakbaa", sum := "2c2a95a14a58717e19ec144efadf7b641faabf06d3534b3419e70358384183f4", func := "incunable/incunablelaw26.ChunkBack", spec := "chunkBack", unfollowed := true, recurses := true, loops := true, apart := false }
def ChunkBackSaid : Prop := chunkBackRow.holds Try.pinned (OpenSpec.ofChange chunkBackSpec)

/-- ITS FALSE NEIGHBOUR: 'it returns false'. Refute it at one input. -/
def chunkBackWrong : ChangeSpec := { name := "chunkBack", fn := fun _ => fun
  | [d] => { results := [.lit (.bool false)], args := [d] }
  | _ => none }
def ChunkBackWrongFalsely : Prop := chunkBackRow.holds Try.pinned (OpenSpec.ofChange chunkBackWrong)

/- THE SECOND FORM. 'bulk': how many values and letters a reading holds, each counted each time it is reached (what is shared counts as often as it is met; a slice's spare places count too). A statement '..UptoSaid' is the law's where the arguments, and the package variables that the reading takes, are together of bulk at most 1048576: NARROWER than '..Said'. Prove '..Said' where nothing that the law and all that it calls make is longer than what came in: it says more and counts as full. Else prove '..UptoSaid'. A law counts once. -/
mutual
def uptoBulk {H : Type} : DataW H → Nat
  | .lit (.string bytes) => bytes.length + 1
  | .lit _ => 1
  | .nil => 1
  | .ptr d => uptoBulk d + 1
  | .slice elems spare => uptoBulkAll elems + uptoBulkAll spare + 1
  | .agg parts => uptoBulkAll parts + 1
  | .iface _ d => uptoBulk d + 1
  | .map entries => uptoBulkEntries entries + 1
  | .held _ => 1
def uptoBulkAll {H : Type} : List (DataW H) → Nat
  | [] => 0
  | d :: r => uptoBulk d + uptoBulkAll r
def uptoBulkEntries {H : Type} : List (Lit × DataW H) → Nat
  | [] => 0
  | x :: r => uptoBulkEntry x + uptoBulkEntries r
def uptoBulkEntry {H : Type} : Lit × DataW H → Nat
  | (.string bytes, d) => bytes.length + uptoBulk d + 1
  | (_, d) => uptoBulk d + 1
 end
def uptoSmall : (H : Type) → List (DataW H) → Bool := fun _ ds => decide (uptoBulkAll ds ≤ 1048576)
def OpenSpec.upto (s : _root_.Go.ChangeSpec) : _root_.Go.OpenSpec := { _root_.Go.OpenSpec.ofChange s with cond := some uptoSmall }

/-- 'incunablelaw13.PageInfos', WHERE WHAT IT READS IS OF BULK AT MOST 1048576: true; the input reads as it did. -/
def pageInfosUptoRow : OpenClaim := { program := "ytjabpjkomgakbaa", sum := "2c2a95a14a58717e19ec144efadf7b641faabf06d3534b3419e70358384183f4", func := "incunable/incunablelaw13.PageInfos", spec := "pageInfos", apart := false, narrowed := true }
def PageInfosUptoSaid : Prop := pageInfosUptoRow.holds Try.pinned (OpenSpec.upto pageInfosSpec)

/-- 'incunablelaw26.ChunkTogether', WHERE WHAT IT READS IS OF BULK AT MOST 1048576: true; the input reads as it did. -/
def chunkTogetherUptoRow : OpenClaim := { program := "ytjabpjkomgakbaa", sum := "2c2a95a14a58717e19ec144efadf7b641faabf06d3534b3419e70358384183f4", func := "incunable/incunablelaw26.ChunkTogether", spec := "chunkTogether", recurses := true, loops := true, apart := false, narrowed := true }
def ChunkTogetherUptoSaid : Prop := chunkTogetherUptoRow.holds Try.pinned (OpenSpec.upto chunkTogetherSpec)

/-- 'incunablelaw26.ChunkPuts', WHERE WHAT IT READS IS OF BULK AT MOST 1048576: true; the input reads as it did. -/
def chunkPutsUptoRow : OpenClaim := { program := "ytjabpjkomgakbaa", sum := "2c2a95a14a58717e19ec144efadf7b641faabf06d3534b3419e70358384183f4", func := "incunable/incunablelaw26.ChunkPuts", spec := "chunkPuts", unfollowed := true, recurses := true, loops := true, apart := false, narrowed := true }
def ChunkPutsUptoSaid : Prop := chunkPutsUptoRow.holds Try.pinned (OpenSpec.upto chunkPutsSpec)

/-- 'incunablelaw26.ChunkFinds', WHERE WHAT IT READS IS OF BULK AT MOST 1048576: true; the input reads as it did. -/
def chunkFindsUptoRow : OpenClaim := { program := "ytjabpjkomgakbaa", sum := "2c2a95a14a58717e19ec144efadf7b641faabf06d3534b3419e70358384183f4", func := "incunable/incunablelaw26.ChunkFinds", spec := "chunkFinds", unfollowed := true, recurses := true, loops := true, apart := false, narrowed := true }
def ChunkFindsUptoSaid : Prop := chunkFindsUptoRow.holds Try.pinned (OpenSpec.upto chunkFindsSpec)

/-- 'incunablelaw26.ChunkReplaces', WHERE WHAT IT READS IS OF BULK AT MOST 1048576: true; the input reads as it did. -/
def chunkReplacesUptoRow : OpenClaim := { program := "ytjabpjkomgakbaa", sum := "2c2a95a14a58717e19ec144efadf7b641faabf06d3534b3419e70358384183f4", func := "incunable/incunablelaw26.ChunkReplaces", spec := "chunkReplaces", unfollowed := true, recurses := true, loops := true, apart := false, narrowed := true }
def ChunkReplacesUptoSaid : Prop := chunkReplacesUptoRow.holds Try.pinned (OpenSpec.upto chunkReplacesSpec)

/-- 'incunablelaw26.ChunkGets', WHERE WHAT IT READS IS OF BULK AT MOST 1048576: true; the input reads as it did. -/
def chunkGetsUptoRow : OpenClaim := { program := "ytjabpjkomgakbaa", sum := "2c2a95a14a58717e19ec144efadf7b641faabf06d3534b3419e70358384183f4", func := "incunable/incunablelaw26.ChunkGets", spec := "chunkGets", unfollowed := true, recurses := true, apart := false, narrowed := true }
def ChunkGetsUptoSaid : Prop := chunkGetsUptoRow.holds Try.pinned (OpenSpec.upto chunkGetsSpec)

/-- 'incunablelaw26.ChunkAgain', WHERE WHAT IT READS IS OF BULK AT MOST 1048576: true; the input reads as it did. -/
def chunkAgainUptoRow : OpenClaim := { program := "ytjabpjkomgakbaa", sum := "2c2a95a14a58717e19ec144efadf7b641faabf06d3534b3419e70358384183f4", func := "incunable/incunablelaw26.ChunkAgain", spec := "chunkAgain", unfollowed := true, recurses := true, apart := false, narrowed := true }
def ChunkAgainUptoSaid : Prop := chunkAgainUptoRow.holds Try.pinned (OpenSpec.upto chunkAgainSpec)

/-- 'incunablelaw26.ChunkHeals', WHERE WHAT IT READS IS OF BULK AT MOST 1048576: true; the input reads as it did. -/
def chunkHealsUptoRow : OpenClaim := { program := "ytjabpjkomgakbaa", sum := "2c2a95a14a58717e19ec144efadf7b641faabf06d3534b3419e70358384183f4", func := "incunable/incunablelaw26.ChunkHeals", spec := "chunkHeals", unfollowed := true, recurses := true, apart := false, narrowed := true }
def ChunkHealsUptoSaid : Prop := chunkHealsUptoRow.holds Try.pinned (OpenSpec.upto chunkHealsSpec)

/-- 'incunablelaw26.ChunkBack', WHERE WHAT IT READS IS OF BULK AT MOST 1048576: true; the input reads as it did. -/
def chunkBackUptoRow : OpenClaim := { program := "ytjabpjkomgakbaa", sum := "2c2a95a14a58717e19ec144efadf7b641faabf06d3534b3419e70358384183f4", func := "incunable/incunablelaw26.ChunkBack", spec := "chunkBack", unfollowed := true, recurses := true, loops := true, apart := false, narrowed := true }
def ChunkBackUptoSaid : Prop := chunkBackUptoRow.holds Try.pinned (OpenSpec.upto chunkBackSpec)

end Rows
end Go.Proofs.Ytjabpjkomgakbaa
