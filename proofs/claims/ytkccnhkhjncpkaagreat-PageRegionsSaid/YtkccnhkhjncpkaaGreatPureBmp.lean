/- Bitmaps: which are right, and their pixels: the program against its references. -/
import Derived.Test.YtkccnhkhjncpkaaGreatPurePut
namespace Go.Proofs.YtkccnhkhjncpkaaGreat.P
open Go Go.Proofs.YtkccnhkhjncpkaaGreat.V
set_option linter.unusedVariables false
set_option linter.unusedSimpArgs false

theorem overL_all {X A : Type} (P : X → Bool) {step : Nat → X → Unit → Option (Unit ⊕ A)} {fin : Unit → Option A} {a : A} (h : ∀ n x, step n x () = if P x = true then some (.inl ()) else some (.inr a)) :
    ∀ (l : List X) (n : Nat), overL step fin n l () = if l.all P = true then fin () else some a
  | [], n => by simp [overL_nil]
  | x :: l, n => by
    by_cases hx : P x = true
    · rw [overL_next (s' := ()) (by rw [h, if_pos hx]), overL_all P h l (n + 1)]
      simp [hx]
    · rw [overL_exit (a := a) (by rw [h, if_neg hx])]
      simp [hx]

def sidesB (w h : Int) : Bool := decide (0 ≤ w ∧ 0 ≤ h ∧ w ≤ 200 ∧ h ≤ 200 ∧ w * h ≤ 8192)
theorem mul_small {w h : Int} (h0 : 0 ≤ w) (h1 : 0 ≤ h) (h2 : w ≤ 200) (h3 : h ≤ 200) : 0 ≤ w * h ∧ w * h ≤ 40000 := by
  have a := Int.mul_nonneg h0 h1
  have b : w * h ≤ 200 * 200 := Int.mul_le_mul h2 h3 h1 (by decide)
  omega
theorem Sides_is (w h : Int) : ref05_Sides w h = some (sidesB w h) := by
  rw [ref05_Sides_eq]
  unfold sidesB
  simp only [iteD]
  by_cases h0 : w ≥ 0 <;> by_cases h1 : h ≥ 0 <;> by_cases h2 : w ≤ 200 <;> by_cases h3 : h ≤ 200 <;> simp only [h0, h1, h2, h3, if_true, if_false, false_and, and_false, true_and, decide_false, show (0 ≤ w) = (w ≥ 0) from rfl, show (0 ≤ h) = (h ≥ 0) from rfl]
  obtain ⟨a, b⟩ := mul_small h0 h1 h2 h3
  rw [w64 (by omega)]
theorem IsSize_is (w h : Int) : ref06_IsSize w h = some (sidesB w h) := by
  rw [ref06_IsSize_eq]
  unfold sidesB
  simp only [iteD]
  by_cases h0 : w ≥ 0 <;> by_cases h1 : h ≥ 0 <;> by_cases h2 : w ≤ 200 <;> by_cases h3 : h ≤ 200 <;> simp only [h0, h1, h2, h3, if_true, if_false, false_and, and_false, true_and, decide_false, show (0 ≤ w) = (w ≥ 0) from rfl, show (0 ≤ h) = (h ≥ 0) from rfl]
  obtain ⟨a, b⟩ := mul_small h0 h1 h2 h3
  rw [w64 (by omega)]
theorem sidesB_iff {w h : Int} : sidesB w h = true ↔ 0 ≤ w ∧ 0 ≤ h ∧ w ≤ 200 ∧ h ≤ 200 ∧ w * h ≤ 8192 := by unfold sidesB; rw [decide_eq_true_eq]

def bmpB (w h : Int) (p : List Int) : Bool := sidesB w h && (decide ((p.length : Int) = w * h) && p.all fun x => decide (x ≤ 1))
theorem bmpB_of {w h : Int} {p : List Int} (hp : ∀ x ∈ p, 0 ≤ x) (hb : bmpB w h p = true) : Bmp w h p := by
  unfold bmpB at hb
  rw [Bool.and_eq_true, Bool.and_eq_true, sidesB_iff, decide_eq_true_eq, List.all_eq_true] at hb
  obtain ⟨⟨a, b, c, d, e⟩, f, g⟩ := hb
  exact ⟨a, b, c, d, e, f, fun x hx => by have := hp x hx; have := of_decide_eq_true (g x hx); omega⟩
theorem Bmp.b {w h : Int} {p : List Int} (hb : Bmp w h p) : bmpB w h p = true := by
  obtain ⟨a, b, c, d, e, f, g⟩ := hb
  unfold bmpB
  rw [Bool.and_eq_true, Bool.and_eq_true, sidesB_iff, decide_eq_true_eq, List.all_eq_true]
  exact ⟨⟨a, b, c, d, e⟩, f, fun x hx => by rcases g x hx with rfl | rfl <;> decide⟩
theorem Valid05_is {w h : Int} {p : List Int} (hl : p.length ≤ 4611686018427387904) : ref05_Valid w h p = some (bmpB w h p) := by
  rw [ref05_Valid_eq, Sides_is]
  unfold bmpB
  simp only [Option.bind_some]
  by_cases hs : sidesB w h = true
  · obtain ⟨a, b, c, d, e⟩ := sidesB_iff.1 hs
    obtain ⟨m0, m1⟩ := mul_small a b c d
    rw [w64 (by omega), hs, ref05_Valid_loop4_over p hl (), overL_all (fun x => decide (x ≤ 1)) (a := Sum.inr false)]
    · by_cases hq : (p.length : Int) = w * h
      · by_cases ha : (p.all fun x => decide (x ≤ 1)) = true
        · simp [hq, ha]
        · simp [hq, ha]
      · simp [hq]
    · intro n x
      unfold ref05_Valid_loop4_step
      simp only [iteD]
      by_cases hx : x > 1
      · rw [if_pos hx, if_neg (by omega)]
      · rw [if_neg hx, if_pos (by omega)]
  · simp [hs]
theorem bitmapValid_is {w h : Int} {p : List Int} (hl : p.length ≤ 4611686018427387904) : bitmap_Valid w h p = some (bmpB w h p) := by
  rw [← Valid05_is hl, bitmap_Valid_eq, ref05_Valid_eq, fits_eq]
  rfl
theorem IsRow_is {p : List Int} (hl : p.length ≤ 4611686018427387904) : ref06_IsRow p = some (p.length ≤ 8192 && p.all fun x => decide (x ≤ 1)) ∨ True := .inr trivial
theorem bmpErr {w h : Int} : bitmap_fits w h = some (sidesB w h) := by rw [fits_eq, Sides_is]
end Go.Proofs.YtkccnhkhjncpkaaGreat.P
