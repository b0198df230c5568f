/- Runs of lines: bits of runs: the program against its reference. -/
import Derived.Test.YtkccnhkhjncpkaaGreatPureRef2
import Derived.Test.YtkccnhkhjncpkaaGreatF
import Derived.KernelRfl
namespace Go.Proofs.YtkccnhkhjncpkaaGreat.P
open Go Go.Proofs.YtkccnhkhjncpkaaGreat.V
set_option linter.unusedVariables false
set_option linter.unusedSimpArgs false

def tabS : List Line := [⟨1, 0, 0, 0⟩, ⟨2, 1, 1, 0⟩, ⟨3, 3, 3, 0⟩, ⟨4, 5, 11, 0⟩, ⟨5, 8, 43, 0⟩, ⟨5, 20, 299, 0⟩]
def tabR (c : Int) : List Line := if c = 0 then [⟨2, 2, 0, 0⟩, ⟨2, 3, 4, 0⟩, ⟨2, 4, 12, 0⟩, ⟨2, 6, 28, 0⟩] else [⟨1, 1, 0, 0⟩, ⟨2, 1, 2, 0⟩, ⟨3, 2, 4, 0⟩, ⟨3, 6, 8, 0⟩]
def allBit (l : List Int) : Bool := l.all fun x => decide (x = 0) || decide (x = 1)
noncomputable def agreeB (T : List Line) (n : Nat) : Bool := match prefix_Bits_F 100 T false n, ref04_Bits_F 100 T false n with
  | some (e, l), some (l', ok) => decide (e = 0) && (ok && (decide (l = l') && (Nat.ble l.length 30 && allBit l)))
  | _, _ => false
theorem agree_S : (List.range 4).all (agreeB tabS) = true := by kernel_rfl
theorem agree_0 : (List.range 64).all (agreeB (tabR 0)) = true := by kernel_rfl
theorem agree_1 : (List.range 64).all (agreeB (tabR 1)) = true := by kernel_rfl
theorem agreeB_spec {T : List Line} {n : Nat} (h : agreeB T n = true) : ∃ l, prefix_Bits T false n = some (0, l) ∧ ref04_Bits T false n = some (l, true) ∧ l.length ≤ 30 ∧ allBit l = true := by
  unfold agreeB at h
  split at h
  · rename_i e l l' ok h1 h2
    rw [Bool.and_eq_true, Bool.and_eq_true, Bool.and_eq_true, Bool.and_eq_true] at h
    obtain ⟨a, b, c, d, f⟩ := h
    have a := of_decide_eq_true a
    have c := of_decide_eq_true c
    subst a b c
    exact ⟨l, prefix_Bits_F_le _ _ _ _ _ h1, ref04_Bits_F_le _ _ _ _ _ h2, Nat.le_of_ble_eq_true d, f⟩
  · cases h
theorem standard_is : prefix_Standard 0 = some (tabS, 0) := prefix_Standard_F_le 100 _ _ (by kernel_rfl)
theorem allBit_app {a b : List Int} (h : allBit a = true) (g : allBit b = true) : allBit (a ++ b) = true := by
  unfold allBit at *
  rw [List.all_append, h, g]; rfl
theorem allBit_mem {l : List Int} (h : allBit l = true) : ∀ x ∈ l, x = 0 ∨ x = 1 := by
  intro x hx
  have := List.all_eq_true.1 h x hx
  simpa using this
/-- the bits of a run -/
theorem runBits_is {n c : Int} (h0 : 0 ≤ n) (h1 : n ≤ 200) (hc : c = 0 ∨ c = 1) : ∃ l, runs_runBits n c = some l ∧ ref06_RunBits n c = some l ∧ l.length ≤ 60 ∧ allBit l = true := by
  obtain ⟨a, a1, a2, a3, a4⟩ := agreeB_spec (List.all_eq_true.1 agree_S (n / 64).toNat (List.mem_range.2 (by omega)))
  have hT : ∀ c : Int, c = 0 ∨ c = 1 → (List.range 64).all (agreeB (tabR c)) = true := by
    rintro c (rfl | rfl)
    · exact agree_0
    · exact agree_1
  obtain ⟨b, b1, b2, b3, b4⟩ := agreeB_spec (List.all_eq_true.1 (hT c hc) (n % 64).toNat (List.mem_range.2 (by omega)))
  rw [show (((n / 64).toNat : Nat) : Int) = n / 64 by omega] at a1 a2
  rw [show (((n % 64).toNat : Nat) : Int) = n % 64 by omega] at b1 b2
  have e1 : runs_remains c = some (tabR c) := by rw [runs_remains_eq]; unfold tabR; simp only [iteD]; split <;> rfl
  have e2 : ref06_table c = some (tabR c) := by rw [ref06_table_eq]; unfold tabR; simp only [iteD]; split <;> rfl
  have e3 : ref04_Standard 0 = some tabS := by rw [ref04_Standard_eq]; rfl
  refine ⟨a ++ b, ?_, ?_, by rw [List.length_append]; omega, allBit_app a4 b4⟩
  · rw [runs_runBits_eq, standard_is, tdiv_pos h0, tmod_pos h0]
    simp only [Option.bind_some]
    rw [w64 (n := n / 64) (by omega), a1, e1]
    simp only [Option.bind_some]
    rw [b1]
    simp only [Option.bind_some]
    rw [if_pos (by omega)]
  · rw [ref06_RunBits_eq, e3, tdiv_pos h0, tmod_pos h0]
    simp only [Option.bind_some]
    rw [w64 (n := n / 64) (by omega), a2, e2]
    simp only [Option.bind_some]
    rw [b2]
    simp only [Option.bind_some, List.length_nil, List.nil_append]
    rw [if_pos (by omega), if_pos (by omega)]
end Go.Proofs.YtkccnhkhjncpkaaGreat.P
