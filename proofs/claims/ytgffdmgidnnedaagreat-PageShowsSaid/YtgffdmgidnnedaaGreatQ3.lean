/- The equations of functions. Printed by wip/tool/vsym.py. -/
import Derived.Test.YtgffdmgidnnedaaGreatG
import Derived.Test.YtgffdmgidnnedaaGreatLib
namespace Go.Proofs.YtgffdmgidnnedaaGreat.P
open Go Go.Proofs.YtgffdmgidnnedaaGreat.V
set_option linter.unusedVariables false
set_option linter.unusedSimpArgs false
set_option maxRecDepth 100000
noncomputable section
noncomputable def runs_reader_word_1_b (strings_HasPrefix : type_of% @strings_HasPrefix) (w1 b2 : List Int) : Option (Bool × (List Int)) :=
 (strings_HasPrefix w1 b2).bind fun q3 =>
 some (q3, b2)
theorem runs_reader_word_1_eq w1 b2 : runs_reader_word_1 w1 b2 = runs_reader_word_1_b @strings_HasPrefix w1 b2 := (call_eq ..).trans (by kernel_rfl)

noncomputable def strings_HasPrefix_b (internal_stringslite_HasPrefix : type_of% @internal_stringslite_HasPrefix) (s1 prefix2 : List Int) : Option Bool :=
 (internal_stringslite_HasPrefix s1 prefix2).bind fun q3 =>
 some q3
theorem strings_HasPrefix_eq s1 prefix2 : strings_HasPrefix s1 prefix2 = strings_HasPrefix_b @internal_stringslite_HasPrefix s1 prefix2 := (call_eq ..).trans (by kernel_rfl)

noncomputable def internal_stringslite_HasPrefix_b (s1 prefix2 : List Int) : Option Bool :=
 (if (decide (((s1.length : Nat) : Int) ≥ ((prefix2.length : Nat) : Int))) = true then
 (if 0 ≤ ((prefix2.length : Nat) : Int) ∧ ((prefix2.length : Nat) : Int) ≤ ((s1.length : Nat) : Int) then
 let t3 : List Int := cutL s1 0 (((prefix2.length : Nat) : Int).toNat);
 some (decide (t3 = prefix2))
 else
 none)
 else
 some false)
theorem internal_stringslite_HasPrefix_eq s1 prefix2 : internal_stringslite_HasPrefix s1 prefix2 = internal_stringslite_HasPrefix_b s1 prefix2 := (call_eq ..).trans (by kernel_rfl)
end
end Go.Proofs.YtgffdmgidnnedaaGreat.P
