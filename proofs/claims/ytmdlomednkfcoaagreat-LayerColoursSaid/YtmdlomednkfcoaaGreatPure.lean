/- Texts PureBase, PureReach, PureShape, PureFlood, PureFlood2, PureSpread, PureSpread2, PureTrim, PureComp, PureBits06, PureCol, PureMean, PureCols, PureLayer, one behind the other. -/
import Derived.Test.YtmdlomednkfcoaaGreatQs
import Derived.Test.YtmdlomednkfcoaaGreatLib
import Derived.Test.YtmdlomednkfcoaaGreatF
import Derived.Test.YtmdlomednkfcoaaGreatRow
import Derived.KernelRfl
/- What goes together, loops, bitmaps: plain lemmas for the program against its references. -/
namespace Go.Proofs.YtmdlomednkfcoaaGreat.P
open Go Go.Proofs.YtmdlomednkfcoaaGreat.V
set_option linter.unusedVariables false
set_option linter.unusedSimpArgs false

/-! ### Two that go together -/
/-- both come to something, and these two go together -/
def Both {α β : Type} (x : Option α) (y : Option β) (P : α → β → Prop) : Prop := ∃ a b, x = some a ∧ y = some b ∧ P a b
theorem Both.mk {α β : Type} {a : α} {b : β} {P : α → β → Prop} (h : P a b) : Both (some a) (some b) P := ⟨a, b, rfl, rfl, h⟩
theorem Both.bind {α β γ δ : Type} {x : Option α} {y : Option β} {P : α → β → Prop} {f : α → Option γ} {g : β → Option δ} {Q : γ → δ → Prop} (h : Both x y P) (k : ∀ a b, P a b → Both (f a) (g b) Q) : Both (x.bind f) (y.bind g) Q := by
  obtain ⟨a, b, rfl, rfl, hp⟩ := h
  exact k a b hp
theorem Both.imp {α β : Type} {x : Option α} {y : Option β} {P Q : α → β → Prop} (h : Both x y P) (k : ∀ a b, P a b → Q a b) : Both x y Q := by
  obtain ⟨a, b, h1, h2, hp⟩ := h
  exact ⟨a, b, h1, h2, k a b hp⟩
theorem Both.eq {α : Type} {x y : Option α} (h : Both x y Eq) : x = y := by
  obtain ⟨a, b, h1, h2, rfl⟩ := h
  rw [h1, h2]
/-- a step of two loops -/
def StepTo {S S' A A' : Type} (R : S → S' → Prop) (Q : A → A' → Prop) : S ⊕ A → S' ⊕ A' → Prop
  | .inl s, .inl t => R s t
  | .inr a, .inr b => Q a b
  | _, _ => False
theorem Both.loop {S S' A A' : Type} {f : S → Option (S ⊕ A)} {g : S' → Option (S' ⊕ A')} (R : S → S' → Prop) (Q : A → A' → Prop) (m : S → Nat)
    (h : ∀ s t, R s t → Both (f s) (g t) (StepTo (fun s' t' => R s' t' ∧ m s' < m s) Q)) : ∀ s t, R s t → Both (V.loop f s) (V.loop g t) Q := by
  refine loop_sim R Q m fun s t hr => ?_
  obtain ⟨a, b, h1, h2, hp⟩ := h s t hr
  cases a with
  | inl s' =>
    cases b with
    | inl t' => exact .inl ⟨s', t', h1, h2, hp.1, hp.2⟩
    | inr _ => exact hp.elim
  | inr a =>
    cases b with
    | inl _ => exact hp.elim
    | inr b => exact .inr ⟨a, b, h1, h2, hp⟩

/-! ### Loops through lists -/
theorem overL_both {X S S' A A' : Type} {f : Nat → X → S → Option (S ⊕ A)} {g : Nat → X → S' → Option (S' ⊕ A')} {fin : S → Option A} {fin' : S' → Option A'} (R : Nat → S → S' → Prop) (Q : A → A' → Prop) :
    ∀ (l : List X) (n : Nat) (s : S) (t : S'), (∀ k x s t, l[k]? = some x → R (n + k) s t → Both (f (n + k) x s) (g (n + k) x t) (StepTo (R (n + k + 1)) Q)) → (∀ s t, R (n + l.length) s t → Both (fin s) (fin' t) Q) →
      R n s t → Both (overL f fin n l s) (overL g fin' n l t) Q
  | [], n, s, t, _, hf, hr => by rw [overL_nil, overL_nil]; exact hf s t hr
  | x :: l, n, s, t, h, hf, hr => by
    obtain ⟨a, b, h1, h2, hp⟩ := h 0 x s t rfl hr
    rw [Nat.add_zero] at h1 h2 hp
    cases a with
    | inl s' =>
      cases b with
      | inl t' =>
        rw [overL_next h1, overL_next h2]
        refine overL_both R Q l (n + 1) s' t' (fun k x s t hk hr => ?_) (fun s t hr => hf s t (by rw [List.length_cons]; rwa [show n + (l.length + 1) = n + 1 + l.length by omega])) hp
        have := h (k + 1) x s t (by simpa using hk) (by rwa [show n + (k + 1) = n + 1 + k by omega])
        rwa [show n + (k + 1) = n + 1 + k by omega] at this
      | inr b => exact hp.elim
    | inr a =>
      cases b with
      | inl _ => exact hp.elim
      | inr b => rw [overL_exit h1, overL_exit h2]; exact .mk hp
/-- a loop that always goes on -/
theorem overL_inv {X S A : Type} {f : Nat → X → S → Option (S ⊕ A)} {fin : S → Option A} (F : Nat → S) : ∀ (l : List X) (n : Nat), (∀ k x, l[k]? = some x → f (n + k) x (F (n + k)) = some (.inl (F (n + k + 1)))) → overL f fin n l (F n) = fin (F (n + l.length))
  | [], n, _ => by rw [overL_nil]; rfl
  | x :: l, n, h => by
    have h0 := h 0 x rfl
    rw [Nat.add_zero] at h0
    rw [overL_next h0, overL_inv F l (n + 1) (fun k x hk => ?_), List.length_cons, show n + (l.length + 1) = n + 1 + l.length by omega]
    have := h (k + 1) x (by simpa using hk)
    rwa [show n + (k + 1) = n + 1 + k by omega] at this

theorem some_dec {b : Bool} {p : Prop} [Decidable p] (h : b = true ↔ p) : some b = some (decide p) := by
  congr 1
  cases b <;> simp_all
/-! ### Bitmaps -/
def Bmp (w h : Int) (p : List Int) : Prop := 0 ≤ w ∧ 0 ≤ h ∧ w ≤ 200 ∧ h ≤ 200 ∧ w * h ≤ 8192 ∧ (p.length : Int) = w * h ∧ ∀ x ∈ p, x = 0 ∨ x = 1
/-- a pixel, white outside -/
def pixA (w h : Int) (p : List Int) (x y : Int) : Int := if 0 ≤ x ∧ 0 ≤ y ∧ x < w ∧ y < h then rd p (y * w + x) else 0
theorem idx_in {w h x y : Int} (hx : 0 ≤ x) (hxw : x < w) (hy : 0 ≤ y) (hyh : y < h) : 0 ≤ y * w ∧ 0 ≤ y * w + x ∧ y * w + x < w * h := by
  have h1 : 0 ≤ y * w := Int.mul_nonneg hy (by omega)
  have h2 : (y + 1) * w ≤ h * w := Int.mul_le_mul_of_nonneg_right (by omega) (by omega)
  rw [Int.add_mul, Int.one_mul, Int.mul_comm h w] at h2
  exact ⟨h1, by omega, by omega⟩
theorem rd_mem {l : List Int} {i : Int} (h0 : 0 ≤ i) (h1 : i < (l.length : Int)) : rd l i ∈ l := List.mem_of_getElem? (rd_get h0 h1)
theorem Bmp.pix {w h : Int} {p : List Int} (hb : Bmp w h p) {x y : Int} : pixA w h p x y = 0 ∨ pixA w h p x y = 1 := by
  obtain ⟨h0, h1, h2, h3, h4, h5, h6⟩ := hb
  unfold pixA
  split
  · rename_i q
    obtain ⟨q0, q1, q2, q3⟩ := q
    have := idx_in q0 q2 q1 q3
    exact h6 _ (rd_mem this.2.1 (by omega))
  · exact .inl rfl
theorem inside_is {w h x y : Int} {p : List Int} : ref05_inside w h p x y = some (decide (0 ≤ x ∧ 0 ≤ y ∧ x < w ∧ y < h)) := by
  rw [ref05_inside_eq]
  simp only [iteD]
  by_cases h1 : x ≥ 0 <;> by_cases h2 : y ≥ 0 <;> by_cases h3 : x < w <;> simp [h1, h2, h3] <;> omega
theorem At_is {w h : Int} {p : List Int} (hb : Bmp w h p) (x y : Int) : ref05_At w h p x y = some (pixA w h p x y) := by
  obtain ⟨h0, h1, h2, h3, h4, h5, h6⟩ := hb
  rw [ref05_At_eq, inside_is]
  unfold pixA
  by_cases q : 0 ≤ x ∧ 0 ≤ y ∧ x < w ∧ y < h
  · obtain ⟨a0, a1, a2⟩ := idx_in q.1 q.2.2.1 q.2.1 q.2.2.2
    have hr := h6 _ (rd_mem a1 (l := p) (by omega))
    simp only [q, decide_true, Option.bind_some, Bool.not_true, Bool.false_eq_true, if_false, if_true, and_self]
    rw [w64 (n := y * w) (by omega), w64 (n := y * w + x) (by omega), if_pos (by omega), w64 (by omega)]
  · simp only [q, decide_false, Option.bind_some, Bool.not_false, if_true, if_false]
theorem fits_eq (w h : Int) : bitmap_fits w h = ref05_Sides w h := by rw [bitmap_fits_eq, ref05_Sides_eq]
theorem sides_some (w h : Int) : ∃ b, ref05_Sides w h = some b ∧ (b = true → 0 ≤ w ∧ 0 ≤ h ∧ w ≤ 200 ∧ h ≤ 200 ∧ w * h ≤ 8192) := by
  rw [ref05_Sides_eq]
  simp only [iteD]
  by_cases h1 : w ≥ 0
  · by_cases h2 : h ≥ 0
    · by_cases h3 : w ≤ 200
      · by_cases h4 : h ≤ 200
        · refine ⟨_, by rw [if_pos h1, if_pos h2, if_pos h3, if_pos h4], fun hh => ?_⟩
          have b1 : w * h ≤ 200 * h := Int.mul_le_mul_of_nonneg_right h3 h2
          have b0 : 0 ≤ w * h := Int.mul_nonneg h1 h2
          rw [w64 (by omega)] at hh
          exact ⟨h1, h2, h3, h4, of_decide_eq_true hh⟩
        · exact ⟨false, by rw [if_pos h1, if_pos h2, if_pos h3, if_neg h4], fun h => by cases h⟩
      · exact ⟨false, by rw [if_pos h1, if_pos h2, if_neg h3], fun h => by cases h⟩
    · exact ⟨false, by rw [if_pos h1, if_neg h2], fun h => by cases h⟩
  · exact ⟨false, by rw [if_neg h1], fun h => by cases h⟩

theorem overL_all {X A : Type} (P : X → Bool) {step : Nat → X → Unit → Option (Unit ⊕ A)} {fin : Unit → Option A} {a : A} (h : ∀ n x, step n x () = if P x = true then some (.inl ()) else some (.inr a)) :
    ∀ (l : List X) (n : Nat), overL step fin n l () = if l.all P = true then fin () else some a
  | [], n => by simp [overL_nil]
  | x :: l, n => by
    by_cases hx : P x = true
    · rw [overL_next (s' := ()) (by rw [h, if_pos hx]), overL_all P h l (n + 1)]
      simp [hx]
    · rw [overL_exit (a := a) (by rw [h, if_neg hx])]
      simp [hx]

def sidesB (w h : Int) : Bool := decide (0 ≤ w ∧ 0 ≤ h ∧ w ≤ 200 ∧ h ≤ 200 ∧ w * h ≤ 8192)
theorem mul_small {w h : Int} (h0 : 0 ≤ w) (h1 : 0 ≤ h) (h2 : w ≤ 200) (h3 : h ≤ 200) : 0 ≤ w * h ∧ w * h ≤ 40000 := by
  have a := Int.mul_nonneg h0 h1
  have b : w * h ≤ 200 * 200 := Int.mul_le_mul h2 h3 h1 (by decide)
  omega
theorem Sides_is (w h : Int) : ref05_Sides w h = some (sidesB w h) := by
  rw [ref05_Sides_eq]
  unfold sidesB
  simp only [iteD]
  by_cases h0 : w ≥ 0 <;> by_cases h1 : h ≥ 0 <;> by_cases h2 : w ≤ 200 <;> by_cases h3 : h ≤ 200 <;> simp only [h0, h1, h2, h3, if_true, if_false, false_and, and_false, true_and, decide_false, show (0 ≤ w) = (w ≥ 0) from rfl, show (0 ≤ h) = (h ≥ 0) from rfl]
  obtain ⟨a, b⟩ := mul_small h0 h1 h2 h3
  rw [w64 (by omega)]
theorem sidesB_iff {w h : Int} : sidesB w h = true ↔ 0 ≤ w ∧ 0 ≤ h ∧ w ≤ 200 ∧ h ≤ 200 ∧ w * h ≤ 8192 := by unfold sidesB; rw [decide_eq_true_eq]

def bmpB (w h : Int) (p : List Int) : Bool := sidesB w h && (decide ((p.length : Int) = w * h) && p.all fun x => decide (x ≤ 1))
theorem bmpB_of {w h : Int} {p : List Int} (hp : ∀ x ∈ p, 0 ≤ x) (hb : bmpB w h p = true) : Bmp w h p := by
  unfold bmpB at hb
  rw [Bool.and_eq_true, Bool.and_eq_true, sidesB_iff, decide_eq_true_eq, List.all_eq_true] at hb
  obtain ⟨⟨a, b, c, d, e⟩, f, g⟩ := hb
  exact ⟨a, b, c, d, e, f, fun x hx => by have := hp x hx; have := of_decide_eq_true (g x hx); omega⟩
theorem Bmp.b {w h : Int} {p : List Int} (hb : Bmp w h p) : bmpB w h p = true := by
  obtain ⟨a, b, c, d, e, f, g⟩ := hb
  unfold bmpB
  rw [Bool.and_eq_true, Bool.and_eq_true, sidesB_iff, decide_eq_true_eq, List.all_eq_true]
  exact ⟨⟨a, b, c, d, e⟩, f, fun x hx => by rcases g x hx with rfl | rfl <;> decide⟩
theorem Valid05_is {w h : Int} {p : List Int} (hl : p.length ≤ 9223372036854775807) : ref05_Valid w h p = some (bmpB w h p) := by
  rw [ref05_Valid_eq, Sides_is]
  unfold bmpB
  simp only [Option.bind_some]
  by_cases hs : sidesB w h = true
  · obtain ⟨a, b, c, d, e⟩ := sidesB_iff.1 hs
    obtain ⟨m0, m1⟩ := mul_small a b c d
    rw [w64 (by omega), hs, ref05_Valid_loop4_over p hl (), overL_all (fun x => decide (x ≤ 1)) (a := Sum.inr false)]
    · by_cases hq : (p.length : Int) = w * h
      · by_cases ha : (p.all fun x => decide (x ≤ 1)) = true
        · simp [hq, ha]
        · simp [hq, ha]
      · simp [hq]
    · intro n x
      unfold ref05_Valid_loop4_step
      simp only [iteD]
      by_cases hx : x > 1
      · rw [if_pos hx, if_neg (by omega)]
      · rw [if_neg hx, if_pos (by omega)]
  · simp [hs]
theorem bitmapValid_is {w h : Int} {p : List Int} (hl : p.length ≤ 9223372036854775807) : bitmap_Valid w h p = some (bmpB w h p) := by
  rw [← Valid05_is hl, bitmap_Valid_eq, ref05_Valid_eq, fits_eq]
  rfl
theorem bmpErr {w h : Int} : bitmap_fits w h = some (sidesB w h) := by rw [fits_eq, Sides_is]
theorem new_loop (n : Nat) (hn : n ≤ 100000) : ∀ s : Int × List Int, 0 ≤ s.1 ∧ s.1 ≤ (n : Int) ∧ s.2 = List.replicate n 0 → ∃ a, loop (bitmap_New_loop5 0 (List.replicate n 0)) s = some a ∧ a = List.replicate n 0 := by
  refine loop_ind (fun (s : Int × List Int) => 0 ≤ s.1 ∧ s.1 ≤ (n : Int) ∧ s.2 = List.replicate n 0) (fun (s : Int × List Int) => ((n : Int) - s.1).toNat) (fun (a : List Int) => a = List.replicate n 0) ?_
  rintro ⟨i, b⟩ ⟨h1, h2, h3⟩
  simp only at h1 h2 h3
  subst h3
  unfold bitmap_New_loop5
  simp only [iteD, List.length_replicate]
  by_cases h : i < (n : Int)
  · rw [if_pos h, if_pos ⟨h1, by omega⟩, w8, w64 (by omega)]
    refine .inl ⟨_, rfl, ⟨by show 0 ≤ i + 1; omega, by show i + 1 ≤ _; omega, ?_⟩, ?_⟩
    · show (List.replicate n (0 : Int)).set i.toNat (0 % 256) = _
      simp
    · show ((n : Int) - (i + 1)).toNat < ((n : Int) - i).toNat
      omega
  · rw [if_neg h]
    exact .inr ⟨_, rfl, rfl⟩
def blankP (w h : Int) : List Int := List.replicate (w * h).toNat 0
theorem new_ok {w h : Int} (hs : sidesB w h = true) : bitmap_New w h 0 = some (w, h, 0, blankP w h) := by
  obtain ⟨h0, h1, h2, h3, h4⟩ := sidesB_iff.1 hs
  obtain ⟨m0, m1⟩ := mul_small h0 h1 h2 h3
  have n0 : ¬ w < 0 := by omega
  have n1 : ¬ h < 0 := by omega
  rw [bitmap_New_eq]
  simp only [iteD, n0, n1, if_false, decide_true, Bool.not_true, Bool.false_eq_true, Option.bind_some]
  rw [bitmap_blank_eq, bmpErr, hs]
  simp only [Option.bind_some, Bool.not_true, Bool.false_eq_true, if_false]
  rw [w64 (by omega), if_pos (by omega)]
  simp only [Option.bind_some]
  obtain ⟨a, e1, e2⟩ := new_loop (w * h).toNat (by omega) (0, List.replicate (w * h).toNat 0) ⟨by simp, by show (0 : Int) ≤ _; omega, rfl⟩
  rw [e1, e2]
  rfl
theorem new_bad {w h : Int} (hs : ¬ sidesB w h = true) : ∃ e, e ≠ 0 ∧ bitmap_New w h 0 = some (0, 0, e, []) := by
  have hsf : sidesB w h = false := by simpa using hs
  rw [bitmap_New_eq]
  have e4 : (bitmap_blank w h) = some (0, 0, 4, []) := by
    rw [bitmap_blank_eq, bmpErr, hsf]; simp
  have el : loop (bitmap_New_loop5 0 []) (0, []) = some [] := by
    obtain ⟨a, e1, e2⟩ := new_loop 0 (by decide) (0, []) ⟨by simp, by simp, rfl⟩
    exact e1.trans (by rw [e2]; rfl)
  simp only [iteD]
  by_cases n0 : w < 0
  · exact ⟨2, by decide, by simp [n0]⟩
  · by_cases n1 : h < 0
    · exact ⟨2, by decide, by simp [n0, n1]⟩
    · refine ⟨4, by decide, ?_⟩
      simp only [n0, n1, if_false, decide_true, Bool.not_true, Bool.false_eq_true, Option.bind_some, e4, el]
/-- what New's error says -/
theorem new_err (w h : Int) : ∃ a b c e, bitmap_New w h 0 = some (a, b, e, c) ∧ ref05_Sides w h = some (decide (e = 0)) := by
  rw [Sides_is]
  by_cases hs : sidesB w h = true
  · exact ⟨_, _, _, _, new_ok hs, by rw [hs]; rfl⟩
  · obtain ⟨e, he, h1⟩ := new_bad hs
    exact ⟨_, _, _, _, h1, by simp [he, hs]⟩
theorem make2_loop {w h : Int} (m0 : 0 ≤ w * h) (m1 : w * h ≤ 40000) : ∀ s : Int × Int × Int × List Int, (0 ≤ s.1 ∧ s.1 ≤ w * h) ∧ s.2 = (w, h, List.replicate s.1.toNat 0) → ∃ a, loop (ref05_make2_loop3 w h 0) s = some a ∧ a = (w, h, blankP w h) := by
  refine loop_ind (fun (s : Int × Int × Int × List Int) => (0 ≤ s.1 ∧ s.1 ≤ w * h) ∧ s.2 = (w, h, List.replicate s.1.toNat 0)) (fun s => (w * h - s.1).toNat) (fun a => a = (w, h, blankP w h)) ?_
  rintro ⟨i, b⟩ ⟨⟨h1, h2⟩, h3⟩
  simp only at h1 h2 h3
  subst h3
  unfold ref05_make2_loop3
  simp only [iteD, List.length_replicate, List.length_singleton]
  rw [w64 (n := w * h) (by omega)]
  by_cases hi : i < w * h
  · rw [if_pos hi, if_pos (by omega), w8, w64 (by omega)]
    refine .inl ⟨_, rfl, ⟨⟨by show 0 ≤ i + 1; omega, by show i + 1 ≤ _; omega⟩, ?_⟩, ?_⟩
    · show (_, _, List.replicate i.toNat (0 : Int) ++ [0 % 256]) = (_, _, List.replicate (i + 1).toNat 0)
      rw [show (i + 1).toNat = i.toNat + 1 by omega, List.replicate_succ']
      rfl
    · show (w * h - (i + 1)).toNat < (w * h - i).toNat
      omega
  · rw [if_neg hi]
    refine .inr ⟨_, rfl, ?_⟩
    rw [show i = w * h by omega]
    rfl
theorem blank_bmp {w h : Int} (hs : sidesB w h = true) : Bmp w h (blankP w h) := by
  obtain ⟨h0, h1, h2, h3, h4⟩ := sidesB_iff.1 hs
  obtain ⟨m0, m1⟩ := mul_small h0 h1 h2 h3
  refine ⟨h0, h1, h2, h3, h4, by simp [blankP]; omega, fun x hx => ?_⟩
  exact .inl (List.eq_of_mem_replicate hx)

/-! ### Loops that test -/
theorem overL_allN {X A : Type} {P : Nat → X → Prop} {step : Nat → X → Unit → Option (Unit ⊕ A)} {fin : Unit → Option A} {a : A} : ∀ (l : List X) (n : Nat),
    (∀ k x, l[k]? = some x → P (n + k) x ∧ step (n + k) x () = some (.inl ()) ∨ ¬ P (n + k) x ∧ step (n + k) x () = some (.inr a)) →
    (∀ k x, l[k]? = some x → P (n + k) x) ∧ overL step fin n l () = fin () ∨ (¬ ∀ k x, l[k]? = some x → P (n + k) x) ∧ overL step fin n l () = some a
  | [], n, _ => .inl ⟨fun k x h => by simp at h, rfl⟩
  | x :: l, n, h => by
    have h0 := h 0 x rfl
    rw [Nat.add_zero] at h0
    rcases h0 with ⟨h1, h2⟩ | ⟨h1, h2⟩
    · rw [overL_next h2]
      rcases overL_allN l (n + 1) (fun k y hk => by have := h (k + 1) y (by simpa using hk); rwa [show n + (k + 1) = n + 1 + k by omega] at this) with ⟨g1, g2⟩ | ⟨g1, g2⟩
      · refine .inl ⟨fun k y hk => ?_, g2⟩
        cases k with
        | zero => simp at hk; subst hk; rw [Nat.add_zero]; exact h1
        | succ k => have := g1 k y (by simpa using hk); rwa [show n + 1 + k = n + (k + 1) by omega] at this
      · refine .inr ⟨fun q => g1 fun k y hk => ?_, g2⟩
        have := q (k + 1) y (by simpa using hk)
        rwa [show n + (k + 1) = n + 1 + k by omega] at this
    · exact .inr ⟨fun q => h1 (by simpa using q 0 x rfl), overL_exit h2⟩
/-- an invariant of a loop through a list -/
theorem overL_keep {X S : Type} {step : Nat → X → S → Option (S ⊕ S)} (P : Nat → S → Prop) : ∀ (l : List X) (n : Nat) (s : S), P n s → (∀ k x s, l[k]? = some x → P (n + k) s → ∃ s', step (n + k) x s = some (.inl s') ∧ P (n + k + 1) s') →
    ∃ s', overL step (fun s => some s) n l s = some s' ∧ P (n + l.length) s'
  | [], n, s, h, _ => ⟨s, rfl, h⟩
  | x :: l, n, s, h, hs => by
    obtain ⟨s', h1, h2⟩ := hs 0 x s rfl h
    rw [Nat.add_zero] at h1 h2
    obtain ⟨r, h3, h4⟩ := overL_keep P l (n + 1) s' h2 (fun k y t hk ht => by
      have := hs (k + 1) y t (by simpa using hk) (by rwa [show n + (k + 1) = n + 1 + k by omega])
      rwa [show n + (k + 1) = n + 1 + k by omega] at this)
    rw [overL_next h1]
    exact ⟨r, h3, by rw [List.length_cons, show n + (l.length + 1) = n + 1 + l.length by omega]; exact h4⟩
/-- a loop that goes through a list and always goes on -/
theorem overL_ends {X S : Type} {step : Nat → X → S → Option (S ⊕ S)} (h : ∀ n x s, ∃ s', step n x s = some (.inl s')) : ∀ (l : List X) (n : Nat) (s : S), ∃ r, overL step (fun s => some s) n l s = some r
  | [], n, s => ⟨s, rfl⟩
  | x :: l, n, s => by
    obtain ⟨s', h1⟩ := h n x s
    rw [overL_next h1]
    exact overL_ends h l (n + 1) s'
theorem Bmp.set {w h : Int} {p : List Int} (hb : Bmp w h p) {i : Nat} {b : Int} (h01 : b = 0 ∨ b = 1) : Bmp w h (p.set i b) := by
  obtain ⟨h0, h1, h2, h3, h4, h5, h6⟩ := hb
  refine ⟨h0, h1, h2, h3, h4, by rw [List.length_set]; exact h5, fun x hx => ?_⟩
  rcases List.mem_or_eq_of_mem_set hx with q | rfl
  · exact h6 x q
  · exact h01
theorem refSet_is {w h x y b : Int} {p : List Int} (hb : Bmp w h p) (hx : 0 ≤ x ∧ x < w) (hy : 0 ≤ y ∧ y < h) (h01 : b = 0 ∨ b = 1) : ref05_Put w h x y b p = some (p.set (y * w + x).toNat b) := by
  obtain ⟨h0, h1, h2, h3, h4, h5, h6⟩ := hb
  obtain ⟨a0, a1, a2⟩ := idx_in hx.1 hx.2 hy.1 hy.2
  rw [ref05_Put_eq]
  simp only
  rw [w64 (n := y * w) (by omega), w64 (n := y * w + x) (by omega), if_pos (by omega), w8, show b % 256 = b by omega]
end Go.Proofs.YtmdlomednkfcoaaGreat.P

/- Pixels that are come to from one: what a search has found when it ends. -/
namespace Go.Proofs.YtmdlomednkfcoaaGreat.P
open Go Go.Proofs.YtmdlomednkfcoaaGreat.V
set_option linter.unusedVariables false
set_option linter.unusedSimpArgs false

abbrev Pt := Int × Int
def InB (w h : Int) (q : Pt) : Prop := 0 ≤ q.1 ∧ q.1 < w ∧ 0 ≤ q.2 ∧ q.2 < h
instance (w h : Int) (q : Pt) : Decidable (InB w h q) := by unfold InB; infer_instance
/-- at most one step away, also across a corner -/
def By1 (a b : Pt) : Prop := a.1 - 1 ≤ b.1 ∧ b.1 ≤ a.1 + 1 ∧ a.2 - 1 ≤ b.2 ∧ b.2 ≤ a.2 + 1
inductive Reach (blk : Pt → Prop) (old : Pt → Prop) (s : Pt) : Pt → Prop
  | start : Reach blk old s s
  | step {a b : Pt} : Reach blk old s a → By1 a b → blk b → ¬ old b → Reach blk old s b

/-- a search on its way: what is marked (M), what is listed (L), the first i of which are done -/
structure Search (w h : Int) (blk old : Pt → Prop) (s : Pt) (M : Pt → Prop) (L : List Pt) : Prop where
  mark : ∀ q, InB w h q → (M q ↔ old q ∨ q ∈ L)
  sound : ∀ q ∈ L, InB w h q ∧ Reach blk old s q
  first : s ∈ L
def Done (blk M : Pt → Prop) (a : Pt) : Prop := ∀ b, By1 a b → blk b → M b
theorem Search.visit {w h : Int} {blk old : Pt → Prop} {s : Pt} {M M' : Pt → Prop} {L : List Pt} (hs : Search w h blk old s M L) {a b : Pt} (ha : a ∈ L) (hab : By1 a b) (hb : blk b) (hin : InB w h b) (hm : ¬ M b)
    (hM : ∀ q, InB w h q → (M' q ↔ M q ∨ q = b)) : Search w h blk old s M' (L ++ [b]) := by
  refine ⟨fun q hq => ?_, fun q hq => ?_, List.mem_append_left _ hs.first⟩
  · rw [hM q hq, hs.mark q hq, List.mem_append, List.mem_singleton, or_assoc]
  · rcases List.mem_append.1 hq with h | h
    · exact hs.sound q h
    · rw [List.mem_singleton] at h
      subst h
      refine ⟨hin, .step (hs.sound a ha).2 hab hb fun ho => hm ((hs.mark _ hin).2 (.inl ho))⟩
theorem Search.all {w h : Int} {blk old : Pt → Prop} {s : Pt} {M : Pt → Prop} {L : List Pt} (hs : Search w h blk old s M L) (hblk : ∀ q, blk q → InB w h q) (hd : ∀ a ∈ L, Done blk M a) (q : Pt) : q ∈ L ↔ Reach blk old s q := by
  refine ⟨fun hq => (hs.sound q hq).2, fun hr => ?_⟩
  induction hr with
  | start => exact hs.first
  | step _ hab hb ho ih =>
    rcases (hs.mark _ (hblk _ hb)).1 (hd _ ih _ hab hb) with h | h
    · exact absurd h ho
    · exact h
theorem Reach.congr {blk old old' : Pt → Prop} (h : ∀ q, blk q → (old q ↔ old' q)) {s q : Pt} (hr : Reach blk old s q) : Reach blk old' s q := by
  induction hr with
  | start => exact .start
  | step _ hab hb ho ih => exact .step ih hab hb fun q => ho ((h _ hb).2 q)
theorem Reach.black {blk old : Pt → Prop} {s q : Pt} (hr : Reach blk old s q) (hs : blk s) : blk q := by
  cases hr with
  | start => exact hs
  | step _ _ hb _ => exact hb
theorem Reach.fresh {blk old : Pt → Prop} {s q : Pt} (hr : Reach blk old s q) (hs : ¬ old s) : ¬ old q := by
  cases hr with
  | start => exact hs
  | step _ _ _ ho => exact ho

/-! ### Places in a list of rows -/
def ix (w : Int) (q : Pt) : Int := q.2 * w + q.1
theorem ix_in {w h : Int} {q : Pt} (hq : InB w h q) : 0 ≤ q.2 * w ∧ 0 ≤ ix w q ∧ ix w q < w * h := idx_in hq.1 hq.2.1 hq.2.2.1 hq.2.2.2
theorem ix_inj {w h : Int} {a b : Pt} (ha : InB w h a) (hb : InB w h b) (e : ix w a = ix w b) : a = b := by
  obtain ⟨a0, a1, a2, a3⟩ := ha
  obtain ⟨b0, b1, b2, b3⟩ := hb
  unfold ix at e
  have e1 : (a.2 * w + a.1) / w = a.2 := by
    rw [Int.add_comm, Int.add_mul_ediv_right _ _ (by omega), Int.ediv_eq_zero_of_lt a0 a1, Int.zero_add]
  have e2 : (b.2 * w + b.1) / w = b.2 := by
    rw [Int.add_comm, Int.add_mul_ediv_right _ _ (by omega), Int.ediv_eq_zero_of_lt b0 b1, Int.zero_add]
  have e3 : a.2 = b.2 := by rw [← e1, e, e2]
  have e4 : a.1 = b.1 := by rw [e3] at e; omega
  exact Prod.ext e4 e3
/-- the place of an index -/
def pl (w : Int) (i : Int) : Pt := (i % w, i / w)
theorem pl_in {w h : Int} {i : Int} (hw : 0 < w) (h0 : 0 ≤ i) (h1 : i < w * h) : InB w h (pl w i) ∧ ix w (pl w i) = i := by
  have m0 := Int.emod_nonneg i (show w ≠ 0 by omega)
  have m1 := Int.emod_lt_of_pos i hw
  have d := Int.emod_add_mul_ediv i w
  have q0 : 0 ≤ i / w := Int.ediv_nonneg h0 (by omega)
  have q1 : i / w < h := by
    apply Int.ediv_lt_of_lt_mul hw
    rw [Int.mul_comm]; exact h1
  refine ⟨⟨m0, m1, q0, q1⟩, ?_⟩
  unfold ix pl
  simp only
  rw [Int.mul_comm (i / w) w]
  omega
theorem pl_ix {w h : Int} {q : Pt} (hq : InB w h q) : pl w (ix w q) = q := by
  obtain ⟨a, b, c⟩ := ix_in hq
  have hw : 0 < w := by have := hq.1; have := hq.2.1; omega
  obtain ⟨g1, g2⟩ := pl_in (h := h) hw b c
  exact ix_inj g1 hq g2

/-! ### The least bitmap of some pixels -/
structure IsBox (S : Pt → Prop) (l t r b : Int) : Prop where
  inside : ∀ q, S q → l ≤ q.1 ∧ q.1 ≤ r ∧ t ≤ q.2 ∧ q.2 ≤ b
  hl : ∃ q, S q ∧ q.1 = l
  ht : ∃ q, S q ∧ q.2 = t
  hr : ∃ q, S q ∧ q.1 = r
  hb : ∃ q, S q ∧ q.2 = b
theorem IsBox.unique {S : Pt → Prop} {l t r b l' t' r' b' : Int} (h : IsBox S l t r b) (h' : IsBox S l' t' r' b') : l = l' ∧ t = t' ∧ r = r' ∧ b = b' := by
  obtain ⟨q1, s1, e1⟩ := h.hl
  obtain ⟨q2, s2, e2⟩ := h.ht
  obtain ⟨q3, s3, e3⟩ := h.hr
  obtain ⟨q4, s4, e4⟩ := h.hb
  obtain ⟨p1, t1, f1⟩ := h'.hl
  obtain ⟨p2, t2, f2⟩ := h'.ht
  obtain ⟨p3, t3, f3⟩ := h'.hr
  obtain ⟨p4, t4, f4⟩ := h'.hb
  have a1 := h'.inside _ s1; have a2 := h'.inside _ s2; have a3 := h'.inside _ s3; have a4 := h'.inside _ s4
  have b1 := h.inside _ t1; have b2 := h.inside _ t2; have b3 := h.inside _ t3; have b4 := h.inside _ t4
  omega
structure IsShape (S : Pt → Prop) (W H : Int) (P : List Int) (X Y : Int) : Prop where
  box : IsBox S X Y (X + W - 1) (Y + H - 1)
  len : (P.length : Int) = W * H
  black : ∀ q, InB W H q → S (X + q.1, Y + q.2) → rd P (ix W q) = 1
  white : ∀ q, InB W H q → ¬ S (X + q.1, Y + q.2) → rd P (ix W q) = 0
theorem IsShape.unique {S S' : Pt → Prop} (hS : ∀ q, S q ↔ S' q) {W H X Y W' H' X' Y' : Int} {P P' : List Int} (h : IsShape S W H P X Y) (h' : IsShape S' W' H' P' X' Y') : W = W' ∧ H = H' ∧ P = P' ∧ X = X' ∧ Y = Y' := by
  obtain rfl : S = S' := funext fun q => propext (hS q)
  obtain ⟨e1, e2, e3, e4⟩ := h.box.unique h'.box
  obtain rfl := e1
  obtain rfl := e2
  obtain rfl : W = W' := by omega
  obtain rfl : H = H' := by omega
  refine ⟨rfl, rfl, ?_, rfl, rfl⟩
  have l1 := h.len
  have l2 := h'.len
  have hW : 0 < W ∨ P.length = 0 := by
    rcases Int.lt_or_le 0 W with q | q
    · exact .inl q
    · obtain ⟨a, s1, f1⟩ := h.box.hl
      have := h.box.inside a s1
      omega
  rcases hW with hW | hW
  · refine List.ext_getElem? fun i => ?_
    by_cases hi : i < P.length
    · obtain ⟨g1, g2⟩ := pl_in (w := W) (h := H) (i := (i : Int)) hW (by omega) (by omega)
      have hi' : i < P'.length := by omega
      have key : rd P (i : Int) = rd P' (i : Int) := by
        rw [← g2]
        by_cases hs : S (X + (pl W (i : Int)).1, Y + (pl W (i : Int)).2)
        · rw [h.black _ g1 hs, h'.black _ g1 hs]
        · rw [h.white _ g1 hs, h'.white _ g1 hs]
      rw [List.getElem?_eq_getElem hi, List.getElem?_eq_getElem hi']
      have r1 := rd_nat (List.getElem?_eq_getElem hi)
      have r2 := rd_nat (List.getElem?_eq_getElem hi')
      rw [← r1, ← r2, key]
    · rw [List.getElem?_eq_none (by omega), List.getElem?_eq_none (by omega)]
  · have h2 : P'.length = 0 := by omega
    rw [List.length_eq_zero_iff.1 hW, List.length_eq_zero_iff.1 h2]
end Go.Proofs.YtmdlomednkfcoaaGreat.P

/- The least bitmap of pixels that are listed. -/
namespace Go.Proofs.YtmdlomednkfcoaaGreat.P
open Go Go.Proofs.YtmdlomednkfcoaaGreat.V
set_option linter.unusedVariables false
set_option linter.unusedSimpArgs false

theorem rd_set {P : List Int} {i j : Nat} {v : Int} (hi : i < P.length) : rd (P.set i v) (j : Int) = if j = i then v else rd P (j : Int) := by
  unfold rd
  rw [Int.toNat_natCast, List.getD_eq_getElem?_getD, List.getD_eq_getElem?_getD, List.getElem?_set]
  by_cases h : i = j
  · subst h; simp [hi]
  · have h' : ¬ j = i := fun e => h e.symm
    simp [h, h']
theorem rd_setI {P : List Int} {i j v : Int} (h0 : 0 ≤ i) (hi : i < (P.length : Int)) (hj : 0 ≤ j) : rd (P.set i.toNat v) j = if j = i then v else rd P j := by
  obtain ⟨m, rfl⟩ := Int.eq_ofNat_of_zero_le h0
  obtain ⟨n, rfl⟩ := Int.eq_ofNat_of_zero_le hj
  rw [Int.toNat_natCast, rd_set (by omega)]
  by_cases h : n = m
  · rw [if_pos h, if_pos (by omega)]
  · rw [if_neg h, if_neg (by omega)]
theorem rd_blank {n : Nat} {j : Int} : rd (List.replicate n (0 : Int)) j = 0 := by
  unfold rd
  rw [List.getD_eq_getElem?_getD, List.getElem?_replicate]
  split <;> rfl

/-! ### The box -/
theorem IsBox.one (q : Pt) : IsBox (· = q) q.1 q.2 q.1 q.2 :=
  ⟨fun p hp => by subst hp; omega, ⟨q, rfl, rfl⟩, ⟨q, rfl, rfl⟩, ⟨q, rfl, rfl⟩, ⟨q, rfl, rfl⟩⟩
theorem IsBox.add {S S' : Pt → Prop} {l t r b : Int} (h : IsBox S l t r b) {q : Pt} (hS : ∀ p, S' p ↔ S p ∨ p = q) : IsBox S' (min l q.1) (min t q.2) (max r q.1) (max b q.2) := by
  obtain ⟨hin, ⟨q1, s1, e1⟩, ⟨q2, s2, e2⟩, ⟨q3, s3, e3⟩, ⟨q4, s4, e4⟩⟩ := h
  have hq : S' q := (hS q).2 (.inr rfl)
  have up : ∀ p, S p → S' p := fun p hp => (hS p).2 (.inl hp)
  refine ⟨fun p hp => ?_, ?_, ?_, ?_, ?_⟩
  · rcases (hS p).1 hp with h | h
    · have := hin p h; omega
    · subst h; omega
  · rcases Int.le_total l q.1 with h | h
    · exact ⟨q1, up _ s1, by omega⟩
    · exact ⟨q, hq, by omega⟩
  · rcases Int.le_total t q.2 with h | h
    · exact ⟨q2, up _ s2, by omega⟩
    · exact ⟨q, hq, by omega⟩
  · rcases Int.le_total r q.1 with h | h
    · exact ⟨q, hq, by omega⟩
    · exact ⟨q3, up _ s3, by omega⟩
  · rcases Int.le_total b q.2 with h | h
    · exact ⟨q, hq, by omega⟩
    · exact ⟨q4, up _ s4, by omega⟩
theorem IsBox.congr {S S' : Pt → Prop} {l t r b : Int} (h : IsBox S l t r b) (hS : ∀ p, S p ↔ S' p) : IsBox S' l t r b := by
  obtain rfl : S = S' := funext fun q => propext (hS q)
  exact h
/-- a box as a search through a bitmap has it -/
def BoxOr (w h : Int) (S : Pt → Prop) (l t r b : Int) : Prop := (∀ q, ¬ S q) ∧ l = w ∧ t = h ∧ r = -1 ∧ b = -1 ∨ IsBox S l t r b
theorem BoxOr.add {w h : Int} {S S' : Pt → Prop} {l t r b : Int} (hb : BoxOr w h S l t r b) {q : Pt} (hq : InB w h q) (hS : ∀ p, S' p ↔ S p ∨ p = q) : BoxOr w h S' (min l q.1) (min t q.2) (max r q.1) (max b q.2) := by
  obtain ⟨q0, q1, q2, q3⟩ := hq
  rcases hb with ⟨hn, rfl, rfl, rfl, rfl⟩ | hb
  · refine .inr ?_
    have := (IsBox.one q).congr (S' := S') (fun p => by rw [hS p]; exact ⟨.inr, fun h => h.resolve_left (hn p)⟩)
    rw [show min l q.1 = q.1 by omega, show min t q.2 = q.2 by omega, show max (-1) q.1 = q.1 by omega, show max (-1) q.2 = q.2 by omega]
    exact this
  · exact .inr (hb.add hS)

/-! ### What is set -/
/-- a bitmap of W columns whose corner lies at (X, Y), with the pixels of a list set -/
structure SetTo (S : Pt → Prop) (W H X Y : Int) (P : List Int) : Prop where
  len : (P.length : Int) = W * H
  black : ∀ q, InB W H q → S (X + q.1, Y + q.2) → rd P (ix W q) = 1
  white : ∀ q, InB W H q → ¬ S (X + q.1, Y + q.2) → rd P (ix W q) = 0
theorem SetTo.none {W H X Y : Int} (h : 0 ≤ W * H) : SetTo (fun _ => False) W H X Y (blankP W H) :=
  ⟨by unfold blankP; rw [List.length_replicate]; omega, fun _ _ h => h.elim, fun _ _ _ => rd_blank⟩
theorem SetTo.add {S S' : Pt → Prop} {W H X Y : Int} {P : List Int} (h : SetTo S W H X Y P) {p : Pt} (hp : InB W H (p.1 - X, p.2 - Y)) (hS : ∀ q, S' q ↔ S q ∨ q = p) : SetTo S' W H X Y (P.set (ix W (p.1 - X, p.2 - Y)).toNat 1) := by
  obtain ⟨a0, a1, a2⟩ := ix_in hp
  refine ⟨by rw [List.length_set]; exact h.len, fun q hq hs => ?_, fun q hq hs => ?_⟩
  · rw [rd_setI a1 (by rw [h.len]; exact a2) (ix_in hq).2.1]
    split
    · rfl
    · rename_i hne
      rcases (hS _).1 hs with h1 | h1
      · exact h.black q hq h1
      · refine absurd ?_ hne
        have : q = (p.1 - X, p.2 - Y) := by rw [← h1]; exact Prod.ext (by show q.1 = X + q.1 - X; omega) (by show q.2 = Y + q.2 - Y; omega)
        rw [this]
  · have hn := fun h1 => hs ((hS _).2 h1)
    rw [rd_setI a1 (by rw [h.len]; exact a2) (ix_in hq).2.1, if_neg]
    · exact h.white q hq fun h1 => hn (.inl h1)
    · intro e
      have := ix_inj hq hp e
      refine hn (.inr ?_)
      rw [this]
      exact Prod.ext (by show X + (p.1 - X) = p.1; omega) (by show Y + (p.2 - Y) = p.2; omega)
theorem SetTo.congr {S S' : Pt → Prop} {W H X Y : Int} {P : List Int} (h : SetTo S W H X Y P) (hS : ∀ p, S p ↔ S' p) : SetTo S' W H X Y P := by
  obtain rfl : S = S' := funext fun q => propext (hS q)
  exact h
theorem SetTo.bits {S : Pt → Prop} {W H X Y : Int} {P : List Int} (h : SetTo S W H X Y P) (hW : 0 < W) : ∀ x ∈ P, x = 0 ∨ x = 1 := by
  intro x hx
  obtain ⟨i, hi⟩ := List.getElem?_of_mem hx
  have hlt := lt_len_of_get hi
  have := h.len
  obtain ⟨g1, g2⟩ := pl_in (w := W) (h := H) (i := (i : Int)) hW (by omega) (by omega)
  rw [← rd_nat hi, ← g2]
  by_cases hs : S (X + (pl W (i : Int)).1, Y + (pl W (i : Int)).2)
  · exact .inr (h.black _ g1 hs)
  · exact .inl (h.white _ g1 hs)
theorem SetTo.shape {S : Pt → Prop} {W H X Y : Int} {P : List Int} (h : SetTo S W H X Y P) (hb : IsBox S X Y (X + W - 1) (Y + H - 1)) : IsShape S W H P X Y := ⟨hb, h.len, h.black, h.white⟩
end Go.Proofs.YtmdlomednkfcoaaGreat.P

/- A component: what the program's search finds. -/
namespace Go.Proofs.YtmdlomednkfcoaaGreat.P
open Go Go.Proofs.YtmdlomednkfcoaaGreat.V
set_option linter.unusedVariables false
set_option linter.unusedSimpArgs false

def ptOf (x : Point) : Pt := (x.x, x.y)
def Blk (w h : Int) (p : List Int) (q : Pt) : Prop := InB w h q ∧ rd p (ix w q) = 1
def Mb (w : Int) (mark : List Bool) (q : Pt) : Prop := mark[(ix w q).toNat]? = some true
theorem Mb.set {w h : Int} {mark : List Bool} {b q : Pt} (hb : InB w h b) (hq : InB w h q) (hl : (mark.length : Int) = w * h) : Mb w (mark.set (ix w b).toNat true) q ↔ Mb w mark q ∨ q = b := by
  obtain ⟨b0, b1, b2⟩ := ix_in hb
  obtain ⟨q0, q1, q2⟩ := ix_in hq
  unfold Mb
  rw [List.getElem?_set]
  by_cases e : (ix w b).toNat = (ix w q).toNat
  · rw [if_pos e, if_pos (by omega)]
    have : q = b := ix_inj hq hb (by omega)
    simp [this]
  · rw [if_neg e]
    have : ¬ q = b := fun h => e (by rw [h])
    simp [this]
theorem countP_setT {mark : List Bool} {i : Nat} (h : mark[i]? = some false) : (mark.set i true).countP id = mark.countP id + 1 := by
  obtain ⟨hl, hv⟩ := List.getElem?_eq_some_iff.1 h
  rw [List.countP_set hl, hv]
  simp

def eightL : List Point := [⟨-1, 0⟩, ⟨1, 0⟩, ⟨0, -1⟩, ⟨0, 1⟩, ⟨-1, -1⟩, ⟨1, -1⟩, ⟨-1, 1⟩, ⟨1, 1⟩]
theorem eight_is : shape_eight = some eightL := by
  rw [shape_eight_eq, shape_four_eq]
  simp only [Option.bind_some]
  rw [if_pos (by decide)]
  rfl
theorem eight_all {a b : Pt} (h : By1 a b) : b = a ∨ ∃ (k : Nat) (st : Point), eightL[k]? = some st ∧ b = (a.1 + st.x, a.2 + st.y) := by
  obtain ⟨h1, h2, h3, h4⟩ := h
  have hx : b.1 = a.1 - 1 ∨ b.1 = a.1 ∨ b.1 = a.1 + 1 := by omega
  have hy : b.2 = a.2 - 1 ∨ b.2 = a.2 ∨ b.2 = a.2 + 1 := by omega
  have mk : ∀ (k : Nat) (st : Point), eightL[k]? = some st → b.1 = a.1 + st.x → b.2 = a.2 + st.y → b = a ∨ ∃ (k : Nat) (st : Point), eightL[k]? = some st ∧ b = (a.1 + st.x, a.2 + st.y) := fun k st h h1 h2 => .inr ⟨k, st, h, Prod.ext h1 h2⟩
  rcases hx with hx | hx | hx <;> rcases hy with hy | hy | hy
  · exact mk 4 _ rfl hx hy
  · exact mk 0 _ rfl hx (by show b.2 = a.2 + 0; omega)
  · exact mk 6 _ rfl hx hy
  · exact mk 2 _ rfl (by show b.1 = a.1 + 0; omega) hy
  · exact .inl (Prod.ext hx hy)
  · exact mk 3 _ rfl (by show b.1 = a.1 + 0; omega) hy
  · exact mk 5 _ rfl hx hy
  · exact mk 1 _ rfl hx (by show b.2 = a.2 + 0; omega)
  · exact mk 7 _ rfl hx hy
theorem eight_by1 {a : Pt} {k : Nat} {st : Point} (h : eightL[k]? = some st) : (-1 ≤ st.x ∧ st.x ≤ 1 ∧ -1 ≤ st.y ∧ st.y ≤ 1) ∧ By1 a (a.1 + st.x, a.2 + st.y) := by
  have hm := List.mem_of_getElem? h
  have : -1 ≤ st.x ∧ st.x ≤ 1 ∧ -1 ≤ st.y ∧ st.y ≤ 1 := by
    have hall : ∀ s ∈ eightL, -1 ≤ s.x ∧ s.x ≤ 1 ∧ -1 ≤ s.y ∧ s.y ≤ 1 := by unfold eightL; decide
    exact hall st hm
  exact ⟨this, by unfold By1; simp only; omega⟩

/-- the state of a search -/
structure Flood (w h : Int) (p : List Int) (old : Pt → Prop) (s : Pt) (K : Nat) (mark : List Bool) (out : List Point) : Prop where
  len : (mark.length : Int) = w * h
  srch : Search w h (Blk w h p) old s (Mb w mark) (out.map ptOf)
  cnt : out.length + K = mark.countP id

theorem flood_inner {w h : Int} {p : List Int} {old : Pt → Prop} {s : Pt} {K : Nat} (hb : Bmp w h p) {t9 : Int} (ht9 : rd p t9 = 1) {mark : List Bool} {out : List Point} {i : Nat} {a : Point} (ha : out[i]? = some a) (hf : Flood w h p old s K mark out) :
    ∃ mark' out', loop (shape_flood_loop8 w h p eightL t9 (i : Int)) (0, mark, out) = some (mark', out') ∧ Flood w h p old s K mark' out' ∧ (∀ q, InB w h q → Mb w mark q → Mb w mark' q) ∧ (∃ more, out' = out ++ more) ∧ Done (Blk w h p) (Mb w mark') (ptOf a) := by
  obtain ⟨w0, h0, w2, h2, wh, hlen, _⟩ := hb
  have hin := (hf.srch.sound (ptOf a) (List.mem_map.2 ⟨a, List.mem_of_getElem? ha, rfl⟩)).1
  obtain ⟨x0, x1, y0, y1⟩ := hin
  simp only [ptOf] at x0 x1 y0 y1
  have lo := shape_flood_loop8_over w h p eightL t9 (i : Int) (by unfold eightL; decide) (mark, out)
  simp only at lo
  rw [lo]
  obtain ⟨⟨mark', out'⟩, e1, e2⟩ := overL_keep (step := shape_flood_loop8_step w h p t9 (i : Int)) (fun n (st : List Bool × List Point) =>
      Flood w h p old s K st.1 st.2 ∧ (∀ q, InB w h q → Mb w mark q → Mb w st.1 q) ∧ (∃ more, st.2 = out ++ more) ∧ ∀ k sp, k < n → eightL[k]? = some sp → Blk w h p (a.x + sp.x, a.y + sp.y) → Mb w st.1 (a.x + sp.x, a.y + sp.y)) eightL 0 (mark, out)
    ⟨hf, fun _ _ h => h, ⟨[], by simp⟩, fun k _ hk => absurd hk (Nat.not_lt_zero k)⟩ (fun n sp st hn hP => by
      obtain ⟨m, o⟩ := st
      obtain ⟨fl, mono, ⟨more, hmore⟩, done⟩ := hP
      simp only at fl mono hmore done
      rw [Nat.zero_add] at done ⊢
      obtain ⟨⟨s1, s2, s3, s4⟩, hby⟩ := eight_by1 (a := ptOf a) hn
      simp only [ptOf] at hby
      have hoi : o[i]? = some a := by rw [hmore, List.getElem?_append_left (lt_len_of_get ha)]; exact ha
      have hoil := lt_len_of_get hoi
      have hml := fl.len
      have cl : o.length ≤ m.length := by have := fl.cnt; have := List.countP_le_length (p := id) (l := m); omega
      have z : (0 : Int) ≤ (i : Int) ∧ (i : Int) < (o.length : Int) := by omega
      have zt := eq_true z
      -- nothing is to be done here
      have keep : (Blk w h p (a.x + sp.x, a.y + sp.y) → Mb w m (a.x + sp.x, a.y + sp.y)) → ∀ k sp', k < n + 1 → eightL[k]? = some sp' → Blk w h p (a.x + sp'.x, a.y + sp'.y) → Mb w m (a.x + sp'.x, a.y + sp'.y) := fun hk k sp' hlt hg hB => by
        rcases Nat.lt_or_ge k n with q | q
        · exact done k sp' q hg hB
        · obtain rfl : k = n := by omega
          rw [hn] at hg
          cases hg
          exact hk hB
      unfold shape_flood_loop8_step
      simp only [zt, if_true, Int.toNat_natCast, hoi, Option.bind_some, iteD]
      rw [w64 (n := a.x + sp.x) (by omega), w64 (n := a.y + sp.y) (by omega)]
      by_cases hib : InB w h (a.x + sp.x, a.y + sp.y)
      · obtain ⟨i0, i1, i2⟩ := ix_in hib
        obtain ⟨b0, b1, b2, b3⟩ := hib
        simp only at b0 b1 b2 b3
        have hib : InB w h (a.x + sp.x, a.y + sp.y) := ⟨b0, b1, b2, b3⟩
        have hix : ix w (a.x + sp.x, a.y + sp.y) = (a.y + sp.y) * w + (a.x + sp.x) := rfl
        rw [if_neg (by omega), if_neg (by omega), if_neg (by omega), if_neg (by omega)]
        rw [w64 (n := (a.y + sp.y) * w) (by rw [hix] at i1 i2; omega), w64 (n := (a.y + sp.y) * w + (a.x + sp.x)) (by rw [hix] at i1 i2; omega), ← hix]
        have r1 : (0 ≤ ix w (a.x + sp.x, a.y + sp.y) ∧ ix w (a.x + sp.x, a.y + sp.y) < (m.length : Int)) = True := eq_true (by omega)
        have r2 : (0 ≤ ix w (a.x + sp.x, a.y + sp.y) ∧ ix w (a.x + sp.x, a.y + sp.y) < (p.length : Int)) = True := eq_true (by omega)
        simp only [r1, r2, if_true]
        have hg : m[(ix w (a.x + sp.x, a.y + sp.y)).toNat]? = some (m[(ix w (a.x + sp.x, a.y + sp.y)).toNat]'(by omega)) := List.getElem?_eq_getElem _
        cases hv : m[(ix w (a.x + sp.x, a.y + sp.y)).toNat]'(by omega) with
        | true =>
          rw [hv] at hg
          rw [hg]
          simp only [Option.bind_some, if_true]
          exact ⟨_, rfl, fl, mono, ⟨more, hmore⟩, keep fun _ => hg⟩
        | false =>
          rw [hv] at hg
          rw [hg]
          simp only [Option.bind_some, Bool.false_eq_true, if_false]
          by_cases hc : rd p (ix w (a.x + sp.x, a.y + sp.y)) = rd p t9
          · have hcs : (!decide (rd p (ix w (a.x + sp.x, a.y + sp.y)) = rd p t9)) = false := by simp [hc]
            have hblk : Blk w h p (a.x + sp.x, a.y + sp.y) := ⟨hib, by rw [hc, ht9]⟩
            have hnm : ¬ Mb w m (a.x + sp.x, a.y + sp.y) := fun q => by unfold Mb at q; rw [hg] at q; cases q
            rw [hcs]
            simp only [Bool.false_eq_true, if_false, List.length_singleton]
            rw [if_pos (by omega)]
            refine ⟨_, rfl, ⟨?_, ?_, ?_⟩, ?_, ?_, ?_⟩
            · simp only [List.length_set]; exact hml
            · simp only [List.map_append, List.map_cons, List.map_nil]
              exact fl.srch.visit (a := ptOf a) (List.mem_map.2 ⟨a, List.mem_of_getElem? hoi, rfl⟩) hby hblk hib hnm (fun q hq => Mb.set hib hq hml)
            · simp only [List.length_append, List.length_singleton]
              rw [countP_setT hg]
              have := fl.cnt
              omega
            · exact fun q hq hm => (Mb.set hib hq hml).2 (.inl (mono q hq hm))
            · exact ⟨more ++ [⟨a.x + sp.x, a.y + sp.y⟩], by simp only [hmore, List.append_assoc]⟩
            · intro k sp' hlt hg' hB
              simp only
              rcases Nat.lt_or_ge k n with q | q
              · exact (Mb.set hib hB.1 hml).2 (.inl (done k sp' q hg' hB))
              · obtain rfl : k = n := by omega
                rw [hn] at hg'
                cases hg'
                exact (Mb.set hib hB.1 hml).2 (.inr rfl)
          · have hcs : (!decide (rd p (ix w (a.x + sp.x, a.y + sp.y)) = rd p t9)) = true := by simp [hc]
            rw [hcs]
            simp only [if_true]
            exact ⟨_, rfl, fl, mono, ⟨more, hmore⟩, keep fun hB => absurd (hB.2.trans ht9.symm) hc⟩
      · have e : ∀ X : Option Bool, (if a.x + sp.x < 0 then some true else if a.y + sp.y < 0 then some true else if a.x + sp.x ≥ w then some true else if a.y + sp.y ≥ h then some true else X) = some true := by
          intro X
          repeat' split
          all_goals first | rfl | (exfalso; exact hib (by unfold InB; simp only; omega))
        rw [e]
        simp only [Option.bind_some, if_true]
        exact ⟨_, rfl, fl, mono, ⟨more, hmore⟩, keep fun hB => absurd hB.1 hib⟩)
  obtain ⟨f1, f2, f3, f4⟩ := e2
  simp only at f1 f2 f3 f4
  refine ⟨mark', out', e1, f1, f2, f3, fun b hab hB => ?_⟩
  rcases eight_all hab with rfl | ⟨k, sp, hk, rfl⟩
  · exact f2 _ hB.1 ((hf.srch.mark _ hB.1).2 (.inr (List.mem_map.2 ⟨a, List.mem_of_getElem? ha, rfl⟩)))
  · exact f4 k sp (by have := lt_len_of_get hk; simpa using this) hk hB
end Go.Proofs.YtmdlomednkfcoaaGreat.P

/- A component: all that the program's search finds, and its least bitmap. -/
namespace Go.Proofs.YtmdlomednkfcoaaGreat.P
open Go Go.Proofs.YtmdlomednkfcoaaGreat.V
set_option linter.unusedVariables false
set_option linter.unusedSimpArgs false

theorem flood_is {w h : Int} {p : List Int} {mark : List Bool} {s : Pt} (hb : Bmp w h p) (hl : (mark.length : Int) = w * h) (hs : Blk w h p s) (hm : mark[(ix w s).toNat]? = some false) :
    ∃ out mark', shape_flood w h p s.1 s.2 eightL mark = some (out, mark') ∧ (mark'.length : Int) = w * h ∧ (∃ r, out = ⟨s.1, s.2⟩ :: r) ∧ out.length ≤ 8192 ∧
      (∀ q, q ∈ out.map ptOf ↔ Reach (Blk w h p) (Mb w mark) s q) ∧ (∀ q ∈ out.map ptOf, InB w h q) ∧ ∀ q, InB w h q → (Mb w mark' q ↔ Mb w mark q ∨ q ∈ out.map ptOf) := by
  have hb' := hb
  obtain ⟨w0, h0, w2, h2, wh, hlen, _⟩ := hb'
  obtain ⟨i0, i1, i2⟩ := ix_in hs.1
  have hix : ix w s = s.2 * w + s.1 := rfl
  have hpt : ptOf ⟨s.1, s.2⟩ = s := rfl
  have start : Flood w h p (Mb w mark) s (mark.countP id) (mark.set (ix w s).toNat true) [⟨s.1, s.2⟩] := by
    refine ⟨by rw [List.length_set]; exact hl, ⟨fun q hq => ?_, fun q hq => ?_, by simp [ptOf]⟩, ?_⟩
    · rw [Mb.set hs.1 hq hl]
      simp [ptOf]
    · simp only [List.map_cons, List.map_nil, List.mem_singleton] at hq
      rw [hq, hpt]
      exact ⟨hs.1, .start⟩
    · rw [countP_setT hm, List.length_singleton]; omega
  obtain ⟨⟨mark', out⟩, e1, fl, ⟨r, hr⟩, hd⟩ := loop_ind (f := shape_flood_loop5 w h p eightL (ix w s)) (fun (st : Int × List Bool × List Point) => Flood w h p (Mb w mark) s (mark.countP id) st.2.1 st.2.2 ∧ (∃ r, st.2.2 = ⟨s.1, s.2⟩ :: r) ∧ 0 ≤ st.1 ∧ st.1 ≤ (st.2.2.length : Int) ∧
      ∀ (k : Nat) (a : Point), (k : Int) < st.1 → st.2.2[k]? = some a → Done (Blk w h p) (Mb w st.2.1) (ptOf a)) (fun st => (w * h - st.1).toNat)
    (fun (a : List Bool × List Point) => Flood w h p (Mb w mark) s (mark.countP id) a.1 a.2 ∧ (∃ r, a.2 = ⟨s.1, s.2⟩ :: r) ∧ ∀ q ∈ a.2.map ptOf, Done (Blk w h p) (Mb w a.1) q) (fun st hP => by
      obtain ⟨i, m, o⟩ := st
      obtain ⟨fl, ⟨r, hr⟩, hi0, hi1, hd⟩ := hP
      simp only at fl hr hi0 hi1 hd
      have ml := fl.len
      have cl : o.length ≤ m.length := by have := fl.cnt; have := List.countP_le_length (p := id) (l := m); omega
      unfold shape_flood_loop5
      simp only [iteD]
      by_cases hlt : i < (o.length : Int)
      · rw [if_pos hlt]
        obtain ⟨n, rfl⟩ := Int.eq_ofNat_of_zero_le hi0
        have hn : n < o.length := by omega
        obtain ⟨m', o', e1, f1, f2, ⟨more, f3⟩, f4⟩ := flood_inner hb (t9 := ix w s) hs.2 (List.getElem?_eq_getElem hn) fl
        rw [e1]
        simp only [Option.bind_some]
        rw [w64 (by omega)]
        have ml' := f1.len
        refine .inl ⟨_, rfl, ⟨f1, ⟨r ++ more, by simp only [f3, hr, List.cons_append]⟩, by show (0 : Int) ≤ (n : Int) + 1; omega, ?_, ?_⟩, by show (w * h - ((n : Int) + 1)).toNat < (w * h - (n : Int)).toNat; omega⟩
        · show (n : Int) + 1 ≤ (o'.length : Int)
          rw [f3, List.length_append]; omega
        · intro k a hk ha
          simp only at hk ha ⊢
          rcases Nat.lt_or_ge k n with q | q
          · have ha' : o[k]? = some a := by rw [f3, List.getElem?_append_left (by omega)] at ha; exact ha
            intro b hab hB
            exact f2 _ hB.1 (hd k a (by omega) ha' b hab hB)
          · obtain rfl : k = n := by omega
            rw [f3, List.getElem?_append_left hn, List.getElem?_eq_getElem hn] at ha
            cases ha
            exact f4
      · rw [if_neg hlt]
        refine .inr ⟨_, rfl, fl, ⟨r, hr⟩, fun q hq => ?_⟩
        obtain ⟨a, ha, rfl⟩ := List.mem_map.1 hq
        obtain ⟨k, hk⟩ := List.getElem?_of_mem ha
        have hkl : k < o.length := lt_len_of_get hk
        exact hd k a (by omega) hk) (0, mark.set (ix w s).toNat true, [⟨s.1, s.2⟩])
    ⟨start, ⟨[], rfl⟩, by show (0 : Int) ≤ 0; decide, by show (0 : Int) ≤ 1; decide, fun k a hk => by simp only at hk; omega⟩
  simp only at fl hr hd
  have cl : out.length ≤ mark'.length := by have := fl.cnt; have := List.countP_le_length (p := id) (l := mark'); omega
  have ml := fl.len
  refine ⟨out, mark', ?_, fl.len, ⟨r, hr⟩, by omega, fl.srch.all (fun q hq => hq.1) hd, fun q hq => (fl.srch.sound q hq).1, fun q hq => fl.srch.mark q hq⟩
  have s0 := hs.1.1
  rw [shape_flood_eq]
  simp only
  rw [w64 (n := s.2 * w) (by rw [hix] at i1 i2; omega), w64 (n := s.2 * w + s.1) (by rw [hix] at i1 i2; omega), ← hix, if_pos (by omega), if_pos (by omega), hm]
  simp only [Option.bind_some]
  rw [e1]
  rfl

/-! ### Its least bitmap -/
theorem placed_is {w h : Int} {l : List Point} {a : Point} {r : List Point} (hr : l = a :: r) (hs : sidesB w h = true) (hl : l.length ≤ 8192) (hin : ∀ q ∈ l.map ptOf, InB w h q) :
    ∃ W H P X Y, shape_placed l = some (W, H, P, X, Y) ∧ IsShape (fun q => q ∈ l.map ptOf) W H P X Y := by
  obtain ⟨w0, h0, w2, h2, wh⟩ := sidesB_iff.1 hs
  have z0 : l[(0 : Int).toNat]? = some a := by rw [hr]; rfl
  have z1 : (0 : Int) ≤ 0 := by decide
  rw [shape_placed_eq]
  simp only [z0, z1, if_true, Option.bind_some]
  have l1 := shape_placed_loop3_over l (by omega) (a.x, a.y, a.x, a.y)
  simp only at l1
  rw [l1]
  have ha : InB w h (ptOf a) := hin _ (by rw [hr]; simp)
  obtain ⟨⟨L, T, R, B⟩, e1, e2⟩ := overL_keep (step := shape_placed_loop3_step) (fun n (st : Int × Int × Int × Int) => IsBox (fun q => q = ptOf a ∨ q ∈ (l.take n).map ptOf) st.1 st.2.1 st.2.2.1 st.2.2.2) l 0 (a.x, a.y, a.x, a.y)
    ((IsBox.one (ptOf a)).congr fun q => by simp) (fun n x st hn hP => by
      obtain ⟨L, T, R, B⟩ := st
      rw [Nat.zero_add] at hP ⊢
      unfold shape_placed_loop3_step
      simp only [imin_eq, imax_eq]
      refine ⟨_, rfl, ?_⟩
      simp only at hP ⊢
      exact hP.add (q := ptOf x) fun q => by
        rw [List.take_add_one, hn, List.map_append]
        simp only [Option.toList_some, List.map_cons, List.map_nil, List.mem_append, List.mem_singleton, or_assoc])
  have e1' : overL shape_placed_loop3_step (fun (s20 : Int × Int × Int × Int) => let b21 := s20.1; let b22 := s20.2.1; let b23 := s20.2.2.1; let b24 := s20.2.2.2; some (b21, b22, b23, b24)) 0 l (a.x, a.y, a.x, a.y) = some (L, T, R, B) := e1
  simp only at e1'
  rw [e1']
  simp only [Option.bind_some]
  have box : IsBox (fun q => q ∈ l.map ptOf) L T R B := by
    simp only [Nat.zero_add, List.take_length] at e2
    refine e2.congr fun q => ⟨fun h => ?_, .inr⟩
    rcases h with rfl | h
    · rw [hr]; simp
    · exact h
  -- where the box lies
  obtain ⟨q1, s1, f1⟩ := box.hl
  obtain ⟨q2, s2, f2⟩ := box.ht
  obtain ⟨q3, s3, f3⟩ := box.hr
  obtain ⟨q4, s4, f4⟩ := box.hb
  have i1 := hin _ s1
  have i2 := hin _ s2
  have i3 := hin _ s3
  have i4 := hin _ s4
  have b1 := box.inside _ s1
  have b2 := box.inside _ s2
  unfold InB at i1 i2 i3 i4
  have m1 : (R - L + 1) * (B - T + 1) ≤ w * h := Int.mul_le_mul (by omega) (by omega) (by omega) w0
  have hs' : sidesB (R - L + 1) (B - T + 1) = true := sidesB_iff.2 ⟨by omega, by omega, by omega, by omega, by omega⟩
  have m0 : 0 ≤ (R - L + 1) * (B - T + 1) := Int.mul_nonneg (by omega) (by omega)
  rw [w64 (n := R - L) (by omega), w64 (n := R - L + 1) (by omega), w64 (n := B - T) (by omega), w64 (n := B - T + 1) (by omega), new_ok hs']
  simp only [Option.bind_some]
  rw [shape_placed_loop10_over l L T (R - L + 1) (by omega) (blankP (R - L + 1) (B - T + 1))]
  obtain ⟨P, e3, e4⟩ := overL_keep (step := shape_placed_loop10_step L T (R - L + 1)) (fun n (P : List Int) => SetTo (fun q => q ∈ (l.take n).map ptOf) (R - L + 1) (B - T + 1) L T P) l 0 (blankP (R - L + 1) (B - T + 1))
    ((SetTo.none m0).congr fun q => by simp) (fun n x P hn hP => by
      rw [Nat.zero_add] at hP ⊢
      have hx : ptOf x ∈ l.map ptOf := List.mem_map.2 ⟨x, List.mem_of_getElem? hn, rfl⟩
      have hb := box.inside _ hx
      have hi := hin _ hx
      simp only [ptOf] at hb
      have hxin : InB (R - L + 1) (B - T + 1) ((ptOf x).1 - L, (ptOf x).2 - T) := by unfold InB ptOf; simp only; omega
      obtain ⟨j0, j1, j2⟩ := ix_in hxin
      have hix : ix (R - L + 1) ((ptOf x).1 - L, (ptOf x).2 - T) = (x.y - T) * (R - L + 1) + (x.x - L) := rfl
      have hlenP := hP.len
      have jb : 0 ≤ (x.y - T) * (R - L + 1) := j0
      unfold shape_placed_loop10_step
      simp only
      rw [w64 (n := x.y - T) (by omega), w64 (n := (x.y - T) * (R - L + 1)) (by rw [hix] at j1 j2; omega), w64 (n := (x.y - T) * (R - L + 1) + x.x) (by rw [hix] at j1 j2; omega), w64 (n := (x.y - T) * (R - L + 1) + x.x - L) (by rw [hix] at j1 j2; omega)]
      rw [show (x.y - T) * (R - L + 1) + x.x - L = ix (R - L + 1) ((ptOf x).1 - L, (ptOf x).2 - T) by rw [hix]; omega, if_pos (by omega)]
      refine ⟨_, rfl, hP.add hxin fun q => ?_⟩
      rw [List.take_add_one, hn, List.map_append]
      simp only [Option.toList_some, List.map_cons, List.map_nil, List.mem_append, List.mem_singleton])
  rw [e3]
  simp only [Nat.zero_add, List.take_length] at e4
  refine ⟨_, _, _, _, _, rfl, e4.shape ?_⟩
  rw [show L + (R - L + 1) - 1 = R by omega, show T + (B - T + 1) - 1 = B by omega]
  exact box
end Go.Proofs.YtmdlomednkfcoaaGreat.P

/- A component: what the reference's search finds. -/
namespace Go.Proofs.YtmdlomednkfcoaaGreat.P
open Go Go.Proofs.YtmdlomednkfcoaaGreat.V
set_option linter.unusedVariables false
set_option linter.unusedSimpArgs false

def Mi (w : Int) (marks : List Int) (q : Pt) : Prop := rd marks (ix w q) ≠ 0
def nzB (x : Int) : Bool := decide (x ≠ 0)
theorem countP_setN {marks : List Int} {i k : Int} (h0 : 0 ≤ i) (hl : i < (marks.length : Int)) (hz : rd marks i = 0) (hk : k ≠ 0) : (marks.set i.toNat k).countP nzB = marks.countP nzB + 1 := by
  have hlt : i.toNat < marks.length := by omega
  have hg : marks[i.toNat] = 0 := by
    have := rd_get h0 hl
    rw [hz, List.getElem?_eq_getElem hlt] at this
    exact Option.some.inj this
  rw [List.countP_set hlt, hg]
  simp [nzB, hk]
structure Spread (w h : Int) (p : List Int) (old : Pt → Prop) (s : Pt) (K : Nat) (k : Int) (marks0 : List Int) (marks todo : List Int) : Prop where
  len : (marks.length : Int) = w * h
  rng : ∀ t ∈ todo, 0 ≤ t ∧ t < w * h
  srch : Search w h (Blk w h p) old s (Mi w marks) (todo.map (pl w))
  cnt : todo.length + K = marks.countP nzB
  val : ∀ q, InB w h q → (q ∈ todo.map (pl w) → rd marks (ix w q) = k) ∧ (q ∉ todo.map (pl w) → rd marks (ix w q) = rd marks0 (ix w q))
theorem Mi.set {w h : Int} {marks : List Int} {k : Int} {b q : Pt} (hb : InB w h b) (hq : InB w h q) (hl : (marks.length : Int) = w * h) (hk : k ≠ 0) : Mi w (marks.set (ix w b).toNat k) q ↔ Mi w marks q ∨ q = b := by
  obtain ⟨b0, b1, b2⟩ := ix_in hb
  obtain ⟨q0, q1, q2⟩ := ix_in hq
  unfold Mi
  rw [rd_setI b1 (by omega) q1]
  by_cases e : ix w q = ix w b
  · rw [if_pos e]
    have : q = b := ix_inj hq hb e
    simp [this, hk]
  · rw [if_neg e]
    have : ¬ q = b := fun h => e (by rw [h])
    simp [this]
theorem Spread.visit {w h : Int} {p : List Int} {old : Pt → Prop} {s : Pt} {K : Nat} {k : Int} {marks0 marks todo : List Int} (hf : Spread w h p old s K k marks0 marks todo) (hk : k ≠ 0) {a b : Pt} (ha : a ∈ todo.map (pl w)) (hab : By1 a b) (hB : Blk w h p b) (hm : ¬ Mi w marks b) :
    Spread w h p old s K k marks0 (marks.set (ix w b).toNat k) (todo ++ [ix w b]) := by
  obtain ⟨i0, i1, i2⟩ := ix_in hB.1
  have hl := hf.len
  have hz : rd marks (ix w b) = 0 := Decidable.not_not.1 hm
  have hpl : pl w (ix w b) = b := pl_ix hB.1
  refine ⟨by rw [List.length_set]; exact hl, fun t ht => ?_, ?_, ?_, fun q hq => ?_⟩
  · rcases List.mem_append.1 ht with h | h
    · exact hf.rng t h
    · rw [List.mem_singleton] at h; subst h; exact ⟨i1, i2⟩
  · rw [List.map_append, List.map_cons, List.map_nil, hpl]
    exact hf.srch.visit ha hab hB hB.1 hm fun q hq => Mi.set hB.1 hq hl hk
  · rw [List.length_append, List.length_singleton, countP_setN i1 (by omega) hz hk]
    have := hf.cnt
    omega
  · rw [rd_setI i1 (by omega) (ix_in hq).2.1, List.map_append, List.map_cons, List.map_nil, hpl, List.mem_append, List.mem_singleton]
    by_cases e : ix w q = ix w b
    · rw [if_pos e]
      have := ix_inj hq hB.1 e
      exact ⟨fun _ => rfl, fun hn => absurd (.inr this) hn⟩
    · rw [if_neg e]
      have hne : ¬ q = b := fun h => e (by rw [h])
      exact ⟨fun hm => (hf.val q hq).1 (hm.resolve_right hne), fun hn => (hf.val q hq).2 fun h => hn (.inl h)⟩

section
variable {w h : Int} {p : List Int} {old : Pt → Prop} {s : Pt} {K : Nat} {k : Int} {marks0 : List Int}
/-- what a part of the search leaves as it was -/
def Grown (w h : Int) (m t m' t' : List Int) : Prop := (∀ q, InB w h q → Mi w m q → Mi w m' q) ∧ ∃ more, t' = t ++ more
theorem Grown.refl (m t : List Int) : Grown w h m t m t := ⟨fun _ _ h => h, [], by simp⟩
theorem Grown.trans {m t m' t' m'' t'' : List Int} (a : Grown w h m t m' t') (b : Grown w h m' t' m'' t'') : Grown w h m t m'' t'' := by
  obtain ⟨a1, x, rfl⟩ := a
  obtain ⟨b1, y, rfl⟩ := b
  exact ⟨fun q hq hm => b1 q hq (a1 q hq hm), x ++ y, by rw [List.append_assoc]⟩
theorem Grown.mem {m t m' t' : List Int} (g : Grown w h m t m' t') {q : Pt} (hq : q ∈ t.map (pl w)) : q ∈ t'.map (pl w) := by
  obtain ⟨_, x, rfl⟩ := g
  rw [List.map_append]; exact List.mem_append_left _ hq

theorem spread_row (hb : Bmp w h p) (hk : k ≠ 0) {x y v : Int} (hin : InB w h (x, y)) (hv : y - 1 ≤ v ∧ v ≤ y + 1) {marks todo : List Int} (ha : (x, y) ∈ todo.map (pl w)) (hf : Spread w h p old s K k marks0 marks todo) :
    ∃ m' t', loop (ref15_spread_loop11 w h p k 1 true x y v) (x - 1, marks, todo) = some (m', t') ∧ Spread w h p old s K k marks0 m' t' ∧ Grown w h marks todo m' t' ∧ ∀ u, x - 1 ≤ u → u ≤ x + 1 → Blk w h p (u, v) → Mi w m' (u, v) := by
  obtain ⟨w0, h0, w2, h2, wh, hlen, hbit⟩ := hb
  obtain ⟨x0, x1, y0, y1⟩ := hin
  simp only at x0 x1 y0 y1
  obtain ⟨⟨m', t'⟩, e1, e2⟩ := loop_ind (f := ref15_spread_loop11 w h p k 1 true x y v) (fun (st : Int × List Int × List Int) => (x - 1 ≤ st.1 ∧ st.1 ≤ x + 2) ∧ Spread w h p old s K k marks0 st.2.1 st.2.2 ∧ Grown w h marks todo st.2.1 st.2.2 ∧ ∀ u, x - 1 ≤ u → u < st.1 → Blk w h p (u, v) → Mi w st.2.1 (u, v))
    (fun st => (x + 2 - st.1).toNat) (fun (a : List Int × List Int) => Spread w h p old s K k marks0 a.1 a.2 ∧ Grown w h marks todo a.1 a.2 ∧ ∀ u, x - 1 ≤ u → u ≤ x + 1 → Blk w h p (u, v) → Mi w a.1 (u, v)) (fun st hP => by
      obtain ⟨u, m, t⟩ := st
      obtain ⟨⟨hu0, hu1⟩, fl, gr, done⟩ := hP
      simp only at hu0 hu1 fl gr done
      have hml := fl.len
      have cl : t.length ≤ m.length := by have := fl.cnt; have := List.countP_le_length (p := nzB) (l := m); omega
      unfold ref15_spread_loop11
      simp only [iteD, Bool.not_true, Bool.false_eq_true, if_false]
      rw [w64 (n := x + 1) (by omega)]
      by_cases hle : u ≤ x + 1
      · rw [if_pos hle, w64 (n := u + 1) (by omega)]
        -- nothing is to be done here
        have keep : (Blk w h p (u, v) → Mi w m (u, v)) → ∀ u', x - 1 ≤ u' → u' < u + 1 → Blk w h p (u', v) → Mi w m (u', v) := fun hkk u' h1 h2 hB => by
          rcases Int.lt_or_le u' u with q | q
          · exact done u' h1 q hB
          · obtain rfl : u' = u := by omega
            exact hkk hB
        have meas : (x + 2 - (u + 1)).toNat < (x + 2 - u).toNat := by omega
        by_cases hib : InB w h (u, v)
        · obtain ⟨i0, i1, i2⟩ := ix_in hib
          have hix : ix w (u, v) = v * w + u := rfl
          obtain ⟨b0, b1, b2, b3⟩ := hib
          simp only at b0 b1 b2 b3
          have hib : InB w h (u, v) := ⟨b0, b1, b2, b3⟩
          rw [if_neg (show ¬ u < 0 by omega), if_neg (show ¬ v < 0 by omega), if_neg (show ¬ u ≥ w by omega), if_neg (show ¬ v ≥ h by omega)]
          simp only [Option.bind_some, Bool.false_eq_true, if_false]
          rw [w64 (n := v * w) (by rw [hix] at i1 i2; omega), w64 (n := v * w + u) (by rw [hix] at i1 i2; omega), ← hix]
          have r1 : (0 ≤ ix w (u, v) ∧ ix w (u, v) < (m.length : Int)) = True := eq_true (by omega)
          have r2 : (0 ≤ ix w (u, v) ∧ ix w (u, v) < (p.length : Int)) = True := eq_true (by omega)
          have hp01 := hbit _ (rd_mem i1 (l := p) (by omega))
          simp only [r1, r2, if_true]
          rw [w64 (n := rd p (ix w (u, v))) (by omega)]
          by_cases hc : rd p (ix w (u, v)) = 1
          · rw [if_pos hc]
            by_cases hz : rd m (ix w (u, v)) = 0
            · have hB : Blk w h p (u, v) := ⟨hib, hc⟩
              simp only [hz, decide_true, Option.bind_some, if_true, List.length_singleton]
              rw [if_pos (by omega)]
              have hnm : ¬ Mi w m (u, v) := fun q => q hz
              refine .inl ⟨_, rfl, ⟨by simp only; omega, fl.visit hk (gr.mem ha) (by unfold By1; simp only; omega) hB hnm, gr.trans ⟨fun q hq hm => (Mi.set hib hq hml hk).2 (.inl hm), [ix w (u, v)], rfl⟩, fun u' h1 h2 hB' => ?_⟩, meas⟩
              simp only at h2 ⊢
              rcases Int.lt_or_le u' u with q | q
              · exact (Mi.set hib hB'.1 hml hk).2 (.inl (done u' h1 q hB'))
              · obtain rfl : u' = u := by omega
                exact (Mi.set hib hB'.1 hml hk).2 (.inr rfl)
            · simp only [hz, decide_false, Option.bind_some, Bool.false_eq_true, if_false]
              exact .inl ⟨_, rfl, ⟨by simp only; omega, fl, gr, keep fun _ => hz⟩, meas⟩
          · rw [if_neg hc]
            simp only [Option.bind_some, Bool.false_eq_true, if_false]
            exact .inl ⟨_, rfl, ⟨by simp only; omega, fl, gr, keep fun hB => absurd hB.2 hc⟩, meas⟩
        · have e : ∀ X : Option Bool, (if u < 0 then some true else if v < 0 then some true else if u ≥ w then some true else if v ≥ h then some true else X) = some true := by
            intro X
            repeat' split
            all_goals first | rfl | (exfalso; exact hib (by unfold InB; simp only; omega))
          rw [e]
          simp only [Option.bind_some, if_true]
          exact .inl ⟨_, rfl, ⟨by simp only; omega, fl, gr, keep fun hB => absurd hB.1 hib⟩, meas⟩
      · rw [if_neg hle]
        exact .inr ⟨_, rfl, fl, gr, fun u' h1 h2 hB => done u' h1 (by omega) hB⟩) (x - 1, marks, todo) ⟨by simp only; omega, hf, .refl _ _, fun u h1 h2 => by simp only at h2; omega⟩
  exact ⟨m', t', e1, e2⟩
end
end Go.Proofs.YtmdlomednkfcoaaGreat.P

/- A component: all that the reference's search finds. -/
namespace Go.Proofs.YtmdlomednkfcoaaGreat.P
open Go Go.Proofs.YtmdlomednkfcoaaGreat.V
set_option linter.unusedVariables false
set_option linter.unusedSimpArgs false

section
variable {w h : Int} {p : List Int} {old : Pt → Prop} {s : Pt} {K : Nat} {k : Int} {marks0 : List Int}
theorem spread_around (hb : Bmp w h p) (hk : k ≠ 0) {x y : Int} (hin : InB w h (x, y)) {marks todo : List Int} (ha : (x, y) ∈ todo.map (pl w)) (hf : Spread w h p old s K k marks0 marks todo) :
    ∃ m' t', loop (ref15_spread_loop8 w h p k 1 true x y) (y - 1, marks, todo) = some (m', t') ∧ Spread w h p old s K k marks0 m' t' ∧ Grown w h marks todo m' t' ∧ Done (Blk w h p) (Mi w m') (x, y) := by
  have hin' := hin
  obtain ⟨x0, x1, y0, y1⟩ := hin'
  simp only at x0 x1 y0 y1
  have hw2 := hb.2.2.1
  have hh2 := hb.2.2.2.1
  obtain ⟨⟨m', t'⟩, e1, f1, f2, f3⟩ := loop_ind (f := ref15_spread_loop8 w h p k 1 true x y) (fun (st : Int × List Int × List Int) => (y - 1 ≤ st.1 ∧ st.1 ≤ y + 2) ∧ Spread w h p old s K k marks0 st.2.1 st.2.2 ∧ Grown w h marks todo st.2.1 st.2.2 ∧ ∀ v, y - 1 ≤ v → v < st.1 → ∀ u, x - 1 ≤ u → u ≤ x + 1 → Blk w h p (u, v) → Mi w st.2.1 (u, v))
    (fun st => (y + 2 - st.1).toNat) (fun (a : List Int × List Int) => Spread w h p old s K k marks0 a.1 a.2 ∧ Grown w h marks todo a.1 a.2 ∧ ∀ v, y - 1 ≤ v → v ≤ y + 1 → ∀ u, x - 1 ≤ u → u ≤ x + 1 → Blk w h p (u, v) → Mi w a.1 (u, v)) (fun st hP => by
      obtain ⟨v, m, t⟩ := st
      obtain ⟨⟨hv0, hv1⟩, fl, gr, done⟩ := hP
      simp only at hv0 hv1 fl gr done
      unfold ref15_spread_loop8
      simp only [iteD]
      rw [w64 (n := y + 1) (by omega)]
      by_cases hle : v ≤ y + 1
      · rw [if_pos hle, w64 (n := x - 1) (by omega)]
        obtain ⟨m', t', e1, f1, f2, f3⟩ := spread_row hb hk hin (v := v) ⟨hv0, hle⟩ (gr.mem ha) fl
        rw [e1]
        simp only [Option.bind_some]
        rw [w64 (n := v + 1) (by omega)]
        refine .inl ⟨_, rfl, ⟨by simp only; omega, f1, gr.trans f2, fun v' h1 h2 u hu1 hu2 hB => ?_⟩, by show (y + 2 - (v + 1)).toNat < (y + 2 - v).toNat; omega⟩
        simp only at h2 ⊢
        rcases Int.lt_or_le v' v with q | q
        · exact f2.1 _ hB.1 (done v' h1 q u hu1 hu2 hB)
        · obtain rfl : v' = v := by omega
          exact f3 u hu1 hu2 hB
      · rw [if_neg hle]
        exact .inr ⟨_, rfl, fl, gr, fun v' h1 h2 => done v' h1 (by omega)⟩) (y - 1, marks, todo) ⟨by simp only; omega, hf, .refl _ _, fun v h1 h2 => by simp only at h2; omega⟩
  refine ⟨m', t', e1, f1, f2, fun b hab hB => ?_⟩
  obtain ⟨a1, a2, a3, a4⟩ := hab
  exact f3 b.2 a3 a4 b.1 a1 a2 hB
end
theorem spread_is {w h : Int} {p : List Int} {marks : List Int} {k : Int} {s : Pt} (hb : Bmp w h p) (hl : (marks.length : Int) = w * h) (hk : k ≠ 0) (hs : Blk w h p s) (hm : rd marks (ix w s) = 0) :
    ∃ n marks', ref15_spread w h p (ix w s) k 1 true marks = some (n, marks') ∧ (marks'.length : Int) = w * h ∧
      (∀ q, InB w h q → (Reach (Blk w h p) (Mi w marks) s q → rd marks' (ix w q) = k) ∧ (¬ Reach (Blk w h p) (Mi w marks) s q → rd marks' (ix w q) = rd marks (ix w q))) := by
  have hb' := hb
  obtain ⟨w0, h0, w2, h2, wh, hlen, _⟩ := hb'
  obtain ⟨i0, i1, i2⟩ := ix_in hs.1
  have s0 := hs.1.1
  have s1 := hs.1.2.1
  have hw : 0 < w := by omega
  have hpl : pl w (ix w s) = s := pl_ix hs.1
  have start : Spread w h p (Mi w marks) s (marks.countP nzB) k marks (marks.set (ix w s).toNat k) [ix w s] := by
    refine ⟨by rw [List.length_set]; exact hl, fun t ht => ?_, ⟨fun q hq => ?_, fun q hq => ?_, by simp [hpl]⟩, ?_, fun q hq => ?_⟩
    · rw [List.mem_singleton] at ht; subst ht; exact ⟨i1, i2⟩
    · rw [Mi.set hs.1 hq hl hk]
      simp [hpl]
    · simp only [List.map_cons, List.map_nil, List.mem_singleton, hpl] at hq
      rw [hq]
      exact ⟨hs.1, .start⟩
    · rw [countP_setN i1 (by omega) hm hk, List.length_singleton]; omega
    · simp only [List.map_cons, List.map_nil, List.mem_singleton, hpl]
      rw [rd_setI i1 (by omega) (ix_in hq).2.1]
      refine ⟨fun e => by rw [e, if_pos rfl], fun e => ?_⟩
      rw [if_neg fun e' => e (ix_inj hq hs.1 e')]
  obtain ⟨⟨marks', todo⟩, e1, fl, hd⟩ := loop_ind (f := ref15_spread_loop4 w h p k 1 true) (fun (st : Int × List Int × List Int) => Spread w h p (Mi w marks) s (marks.countP nzB) k marks st.2.1 st.2.2 ∧ 0 ≤ st.1 ∧ st.1 ≤ (st.2.2.length : Int) ∧
      ∀ (n : Nat) (t : Int), (n : Int) < st.1 → st.2.2[n]? = some t → Done (Blk w h p) (Mi w st.2.1) (pl w t)) (fun st => (w * h - st.1).toNat)
    (fun (a : List Int × List Int) => Spread w h p (Mi w marks) s (marks.countP nzB) k marks a.1 a.2 ∧ ∀ q ∈ a.2.map (pl w), Done (Blk w h p) (Mi w a.1) q) (fun st hP => by
      obtain ⟨i, m, t⟩ := st
      obtain ⟨fl, hi0, hi1, hd⟩ := hP
      simp only at fl hi0 hi1 hd
      have ml := fl.len
      have cl : t.length ≤ m.length := by have := fl.cnt; have := List.countP_le_length (p := nzB) (l := m); omega
      unfold ref15_spread_loop4
      simp only [iteD]
      by_cases hlt : i < (t.length : Int)
      · obtain ⟨n, rfl⟩ := Int.eq_ofNat_of_zero_le hi0
        have hn : n < t.length := by omega
        have hget : t[n]? = some t[n] := List.getElem?_eq_getElem hn
        have hr := rd_nat hget
        obtain ⟨t0, t1⟩ := fl.rng _ (List.getElem_mem hn)
        obtain ⟨g1, g2⟩ := pl_in hw t0 t1
        have hw0 : ¬ w = 0 := by omega
        have z : (0 : Int) ≤ (n : Int) ∧ (n : Int) < (t.length : Int) := by omega
        have zt := eq_true z
        have hdiv : 0 ≤ t[n] / w ∧ t[n] / w < h := ⟨g1.2.2.1, g1.2.2.2⟩
        have hmod : 0 ≤ t[n] % w ∧ t[n] % w < w := ⟨g1.1, g1.2.1⟩
        rw [if_pos hlt]
        simp only [zt, if_true, hr, hw0, if_false]
        rw [tmod_pos t0, tdiv_pos t0, w64 (n := t[n] / w) (by omega), w64 (n := t[n] / w - 1) (by omega)]
        obtain ⟨m', t', e1, f1, f2, f4⟩ := spread_around hb hk (x := t[n] % w) (y := t[n] / w) g1 (List.mem_map.2 ⟨t[n], List.getElem_mem hn, rfl⟩) fl
        rw [e1]
        simp only [Option.bind_some]
        rw [w64 (n := (n : Int) + 1) (by omega)]
        obtain ⟨mono, more, f3⟩ := f2
        refine .inl ⟨_, rfl, ⟨f1, by show (0 : Int) ≤ (n : Int) + 1; omega, ?_, ?_⟩, by show (w * h - ((n : Int) + 1)).toNat < (w * h - (n : Int)).toNat; omega⟩
        · show (n : Int) + 1 ≤ (t'.length : Int)
          rw [f3, List.length_append]; omega
        · intro j a hj ha
          simp only at hj ha ⊢
          rcases Nat.lt_or_ge j n with q | q
          · have ha' : t[j]? = some a := by rw [f3, List.getElem?_append_left (by omega)] at ha; exact ha
            intro b hab hB
            exact mono _ hB.1 (hd j a (by omega) ha' b hab hB)
          · obtain rfl : j = n := by omega
            rw [f3, List.getElem?_append_left hn, hget] at ha
            cases ha
            exact f4
      · rw [if_neg hlt]
        refine .inr ⟨_, rfl, fl, fun q hq => ?_⟩
        obtain ⟨a, ha, rfl⟩ := List.mem_map.1 hq
        obtain ⟨j, hj⟩ := List.getElem?_of_mem ha
        have hjl : j < t.length := lt_len_of_get hj
        exact hd j a (by omega) hj) (0, marks.set (ix w s).toNat k, [ix w s])
    ⟨start, by show (0 : Int) ≤ 0; decide, by show (0 : Int) ≤ 1; decide, fun n a hn => by simp only at hn; omega⟩
  simp only at fl hd
  have hall := fl.srch.all (fun q hq => hq.1) hd
  refine ⟨((todo.length : Nat) : Int), marks', ?_, fl.len, fun q hq => ⟨fun hr => (fl.val q hq).1 ((hall q).2 hr), fun hr => (fl.val q hq).2 fun h => hr ((hall q).1 h)⟩⟩
  rw [ref15_spread_eq, if_pos (by omega)]
  simp only
  rw [e1]
  rfl
end Go.Proofs.YtmdlomednkfcoaaGreat.P

/- The least bitmap as the reference has it. -/
namespace Go.Proofs.YtmdlomednkfcoaaGreat.P
open Go Go.Proofs.YtmdlomednkfcoaaGreat.V
set_option linter.unusedVariables false
set_option linter.unusedSimpArgs false

theorem pix_blk {w h : Int} {b : List Int} {q : Pt} : pixA w h b q.1 q.2 = 1 ↔ Blk w h b q := by
  unfold pixA Blk InB ix
  split
  · rename_i g
    exact ⟨fun e => ⟨⟨g.1, g.2.2.1, g.2.1, g.2.2.2⟩, e⟩, fun e => e.2⟩
  · rename_i g
    exact ⟨fun e => by omega, fun e => absurd ⟨e.1.1, e.1.2.2.1, e.1.2.1, e.1.2.2.2⟩ g⟩
theorem part_is' {w h X Y W H : Int} {b : List Int} (hb : Bmp w h b) (hX : 0 ≤ X ∧ X + W ≤ w) (hY : 0 ≤ Y ∧ Y + H ≤ h) (hs : sidesB W H = true) :
    ∃ P, ref05_Part w h b X Y W H = some (W, H, P) ∧ SetTo (Blk w h b) W H X Y P := by
  obtain ⟨w0, h0, w2, h2, wh, hlen, hbit⟩ := hb
  obtain ⟨W0, H0, W2, H2, WH⟩ := sidesB_iff.1 hs
  obtain ⟨m0, m1⟩ := mul_small W0 H0 W2 H2
  obtain ⟨a, e1, e2⟩ := make2_loop m0 m1 (0, W, H, []) ⟨⟨by simp, m0⟩, rfl⟩
  rw [ref05_Part_eq, ref05_make2_eq, e1, e2]
  simp only [Option.bind_some]
  rw [ref05_Part_loop3_over w h b X Y W H W H (by rw [List.length_range]; omega) (blankP W H)]
  obtain ⟨P, e3, hP, e4⟩ := overL_keep (step := ref05_Part_loop3_step w h b X Y W W H) (fun n (P : List Int) => Bmp W H P ∧ ∀ q, InB W H q → q.2 < (n : Int) → rd P (ix W q) = pixA w h b (X + q.1) (Y + q.2)) (List.range H.toNat) 0 (blankP W H)
    ⟨blank_bmp hs, fun q hq hn => by have := hq.2.2.1; omega⟩ (fun v x P hn hP => by
      have hk := lt_len_of_get hn
      rw [List.length_range] at hk
      rw [Nat.zero_add] at hP ⊢
      obtain ⟨hB, hd⟩ := hP
      unfold ref05_Part_loop3_step
      rw [ref05_Part_loop6_over w h b X Y W W H _ (by rw [List.length_range]; omega) P]
      obtain ⟨P', e5, hB', hd'⟩ := overL_keep (step := ref05_Part_loop6_step w h b X Y W H (v : Int)) (fun n (P' : List Int) => Bmp W H P' ∧ (∀ q, InB W H q → q.2 < (v : Int) ∨ q.2 = (v : Int) ∧ q.1 < (n : Int) → rd P' (ix W q) = pixA w h b (X + q.1) (Y + q.2))) (List.range W.toNat) 0 P
        ⟨hB, fun q hq hn => hd q hq (by rcases hn with hn | hn; exact hn; have := hq.1; omega)⟩ (fun u x P' hn hP' => by
          have hku := lt_len_of_get hn
          rw [List.length_range] at hku
          rw [Nat.zero_add] at hP' ⊢
          obtain ⟨hB', hd'⟩ := hP'
          have hp := Bmp.pix (w := w) (h := h) (p := b) ⟨w0, h0, w2, h2, wh, hlen, hbit⟩ (x := X + (u : Int)) (y := Y + (v : Int))
          have hin : InB W H ((u : Int), (v : Int)) := ⟨by show (0 : Int) ≤ (u : Int); omega, by show (u : Int) < W; omega, by show (0 : Int) ≤ (v : Int); omega, by show (v : Int) < H; omega⟩
          obtain ⟨j0, j1, j2⟩ := ix_in hin
          unfold ref05_Part_loop6_step
          simp only
          rw [w64 (n := X + (u : Int)) (by omega), w64 (n := Y + (v : Int)) (by omega), At_is ⟨w0, h0, w2, h2, wh, hlen, hbit⟩]
          simp only [Option.bind_some]
          rw [refSet_is hB' ⟨hin.1, hin.2.1⟩ ⟨hin.2.2.1, hin.2.2.2⟩ hp]
          simp only [Option.bind_some]
          refine ⟨_, rfl, hB'.set hp, fun q hq hn' => ?_⟩
          have hix : (v : Int) * W + (u : Int) = ix W ((u : Int), (v : Int)) := rfl
          rw [hix, rd_setI j1 (by rw [hB'.2.2.2.2.2.1]; exact j2) (ix_in hq).2.1]
          by_cases e : ix W q = ix W ((u : Int), (v : Int))
          · rw [if_pos e]
            have := ix_inj hq hin e
            rw [this]
          · rw [if_neg e]
            refine hd' q hq ?_
            rcases hn' with g | ⟨g1, g2⟩
            · exact .inl g
            · refine .inr ⟨g1, ?_⟩
              rcases Int.lt_or_le q.1 (u : Int) with z | z
              · exact z
              · refine absurd ?_ e
                have : q = ((u : Int), (v : Int)) := Prod.ext (by show q.1 = (u : Int); omega) g1
                rw [this])
      rw [e5]
      refine ⟨_, rfl, hB', fun q hq hn => ?_⟩
      refine hd' q hq ?_
      rw [List.length_range]
      have := hq.2.1
      omega)
  rw [e3]
  refine ⟨P, rfl, ⟨hP.2.2.2.2.2.1, fun q hq hS => ?_, fun q hq hS => ?_⟩⟩
  · rw [e4 q hq (by rw [List.length_range]; have := hq.2.2.2; omega)]
    exact pix_blk.2 hS
  · rw [e4 q hq (by rw [List.length_range]; have := hq.2.2.2; omega)]
    rcases Bmp.pix (w := w) (h := h) (p := b) ⟨w0, h0, w2, h2, wh, hlen, hbit⟩ (x := X + q.1) (y := Y + q.2) with e | e
    · exact e
    · exact absurd (pix_blk (q := (X + q.1, Y + q.2)).1 e) hS
theorem trim_is {w h : Int} {b : List Int} (hb : Bmp w h b) {s : Pt} (hs : Blk w h b s) :
    ∃ W H P X Y, ref05_Trim w h b = some (W, H, P, X, Y, 0) ∧ IsShape (Blk w h b) W H P X Y := by
  have hb' := hb
  obtain ⟨w0, h0, w2, h2, wh, hlen, hbit⟩ := hb'
  rw [ref05_Trim_eq, Valid05_is (by omega), hb.b]
  simp only [Option.bind_some, Bool.not_true, Bool.false_eq_true, if_false]
  have l1 := ref05_Trim_loop5_over w h b (by rw [List.length_range]; omega) (w, h, -1, -1)
  simp only at l1
  rw [l1]
  obtain ⟨⟨L, T, R, B⟩, e1, e2⟩ := overL_keep (step := ref05_Trim_loop5_step w h b) (fun n (st : Int × Int × Int × Int) => BoxOr w h (fun q => Blk w h b q ∧ q.2 < (n : Int)) st.1 st.2.1 st.2.2.1 st.2.2.2) (List.range h.toNat) 0 (w, h, -1, -1)
    (.inl ⟨fun q hq => by have := hq.1.1.2.2.1; have := hq.2; omega, rfl, rfl, rfl, rfl⟩) (fun v x st hn hP => by
      obtain ⟨L, T, R, B⟩ := st
      have hk := lt_len_of_get hn
      rw [List.length_range] at hk
      rw [Nat.zero_add] at hP ⊢
      unfold ref05_Trim_loop5_step
      simp only at hP ⊢
      have l2 := ref05_Trim_loop8_over w h b (v : Int) (by rw [List.length_range]; omega) (L, T, R, B)
      simp only at l2
      rw [l2]
      obtain ⟨⟨L', T', R', B'⟩, e3, e4⟩ := overL_keep (step := ref05_Trim_loop8_step w h b (v : Int)) (fun n (st : Int × Int × Int × Int) => BoxOr w h (fun q => Blk w h b q ∧ (q.2 < (v : Int) ∨ q.2 = (v : Int) ∧ q.1 < (n : Int))) st.1 st.2.1 st.2.2.1 st.2.2.2) (List.range w.toNat) 0 (L, T, R, B)
        (by
          have e : (fun q : Pt => Blk w h b q ∧ q.2 < (v : Int)) = fun q => Blk w h b q ∧ (q.2 < (v : Int) ∨ q.2 = (v : Int) ∧ q.1 < ((0 : Nat) : Int)) := funext fun q => propext ⟨fun g => ⟨g.1, .inl g.2⟩, fun g => ⟨g.1, by have := g.1.1.1; omega⟩⟩
          rw [← e]; exact hP) (fun u x st hn hP => by
          obtain ⟨L, T, R, B⟩ := st
          have hku := lt_len_of_get hn
          rw [List.length_range] at hku
          rw [Nat.zero_add] at hP ⊢
          unfold ref05_Trim_loop8_step
          rw [At_is hb]
          simp only [Option.bind_some, iteD, imin_eq, imax_eq] at hP ⊢
          have hin : InB w h ((u : Int), (v : Int)) := ⟨by show (0 : Int) ≤ (u : Int); omega, by show (u : Int) < w; omega, by show (0 : Int) ≤ (v : Int); omega, by show (v : Int) < h; omega⟩
          by_cases hc : pixA w h b (u : Int) (v : Int) = 1
          · rw [if_pos hc]
            have hB : Blk w h b ((u : Int), (v : Int)) := pix_blk.1 hc
            refine ⟨_, rfl, hP.add hin fun q => ⟨fun g => ?_, fun g => ?_⟩⟩
            · rcases g.2 with g2 | ⟨g2, g3⟩
              · exact .inl ⟨g.1, .inl g2⟩
              · rcases Int.lt_or_le q.1 (u : Int) with z | z
                · exact .inl ⟨g.1, .inr ⟨g2, z⟩⟩
                · exact .inr (Prod.ext (by show q.1 = (u : Int); omega) g2)
            · rcases g with g | rfl
              · exact ⟨g.1, by have := g.2; omega⟩
              · exact ⟨hB, .inr ⟨rfl, by show (u : Int) < ((u + 1 : Nat) : Int); omega⟩⟩
          · rw [if_neg hc]
            refine ⟨_, rfl, ?_⟩
            have e : (fun q : Pt => Blk w h b q ∧ (q.2 < (v : Int) ∨ q.2 = (v : Int) ∧ q.1 < (u : Int))) = fun q => Blk w h b q ∧ (q.2 < (v : Int) ∨ q.2 = (v : Int) ∧ q.1 < ((u + 1 : Nat) : Int)) := funext fun q => propext ⟨fun g => ⟨g.1, by have := g.2; omega⟩, fun g => ⟨g.1, by
              rcases g.2 with g2 | ⟨g2, g3⟩
              · exact .inl g2
              · refine .inr ⟨g2, ?_⟩
                rcases Int.lt_or_le q.1 (u : Int) with z | z
                · exact z
                · have e : q = ((u : Int), (v : Int)) := Prod.ext (by show q.1 = (u : Int); omega) g2
                  exact absurd (pix_blk.2 (e ▸ g.1)) hc⟩⟩
            rw [← e]; exact hP)
      have e3' : overL (ref05_Trim_loop8_step w h b (v : Int)) (fun (s26 : Int × Int × Int × Int) => let b27 := s26.1; let b28 := s26.2.1; let b29 := s26.2.2.1; let b30 := s26.2.2.2; some (b27, b28, b29, b30)) 0 (List.range w.toNat) (L, T, R, B) = some (L', T', R', B') := e3
      simp only at e3'
      rw [e3']
      refine ⟨_, rfl, ?_⟩
      simp only [Nat.zero_add, List.length_range] at e4 ⊢
      have e : (fun q : Pt => Blk w h b q ∧ (q.2 < (v : Int) ∨ q.2 = (v : Int) ∧ q.1 < ((w.toNat : Nat) : Int))) = fun q => Blk w h b q ∧ q.2 < ((v + 1 : Nat) : Int) := funext fun q => propext ⟨fun g => ⟨g.1, by have := g.2; omega⟩, fun g => ⟨g.1, by have := g.2; have := g.1.1.2.1; omega⟩⟩
      rw [← e]; exact e4)
  have e1' : overL (ref05_Trim_loop5_step w h b) (fun (s39 : Int × Int × Int × Int) => let b40 := s39.1; let b41 := s39.2.1; let b42 := s39.2.2.1; let b43 := s39.2.2.2; some (b40, b41, b42, b43)) 0 (List.range h.toNat) (w, h, -1, -1) = some (L, T, R, B) := e1
  simp only at e1'
  rw [e1']
  simp only [Option.bind_some, iteD]
  have e : (fun q : Pt => Blk w h b q ∧ q.2 < (((List.range h.toNat).length : Nat) : Int)) = Blk w h b := funext fun q => propext ⟨fun g => g.1, fun g => ⟨g, by rw [List.length_range]; have := g.1.2.2.2; omega⟩⟩
  simp only [Nat.zero_add] at e2
  rw [e] at e2
  rcases e2 with ⟨hn, _⟩ | box
  · exact absurd hs (hn s)
  · obtain ⟨q1, s1, f1⟩ := box.hl
    obtain ⟨q2, s2, f2⟩ := box.ht
    obtain ⟨q3, s3, f3⟩ := box.hr
    obtain ⟨q4, s4, f4⟩ := box.hb
    have i1 := s1.1
    have i2 := s2.1
    have i3 := s3.1
    have i4 := s4.1
    have b1 := box.inside _ s1
    have b2 := box.inside _ s2
    unfold InB at i1 i2 i3 i4
    have m1 : (R - L + 1) * (B - T + 1) ≤ w * h := Int.mul_le_mul (by omega) (by omega) (by omega) w0
    have hs' : sidesB (R - L + 1) (B - T + 1) = true := sidesB_iff.2 ⟨by omega, by omega, by omega, by omega, by omega⟩
    rw [if_neg (by omega), w64 (n := R - L) (by omega), w64 (n := R - L + 1) (by omega), w64 (n := B - T) (by omega), w64 (n := B - T + 1) (by omega)]
    obtain ⟨P, e5, e6⟩ := part_is' hb (X := L) (Y := T) (W := R - L + 1) (H := B - T + 1) (by omega) (by omega) hs'
    rw [e5]
    refine ⟨_, _, _, _, _, rfl, e6.shape ?_⟩
    rw [show L + (R - L + 1) - 1 = R by omega, show T + (B - T + 1) - 1 = B by omega]
    exact box
end Go.Proofs.YtmdlomednkfcoaaGreat.P

/- Components of a bitmap: the program against its reference. -/
namespace Go.Proofs.YtmdlomednkfcoaaGreat.P
open Go Go.Proofs.YtmdlomednkfcoaaGreat.V
set_option linter.unusedVariables false
set_option linter.unusedSimpArgs false

def ShapeOf (S : Pt → Prop) (x : Placed) : Prop := IsShape S x.pix_w x.pix_h x.pix_pix x.x x.y
/-- the pixels of a mark -/
def Marked (w h : Int) (marks : List Int) (k : Int) (q : Pt) : Prop := InB w h q ∧ rd marks (ix w q) = k
structure Comp (w h : Int) (p : List Int) (mark : List Bool) (out : List Placed) (k : Int) (marks : List Int) : Prop where
  len1 : (mark.length : Int) = w * h
  len2 : (marks.length : Int) = w * h
  same : ∀ q, InB w h q → (Mb w mark q ↔ Mi w marks q)
  num : k = (out.length : Int)
  rng : ∀ q, InB w h q → 0 ≤ rd marks (ix w q) ∧ rd marks (ix w q) ≤ k
  black : ∀ q, InB w h q → rd marks (ix w q) ≠ 0 → rd p (ix w q) = 1
  shape : ∀ (j : Nat) (x : Placed), out[j]? = some x → ShapeOf (Marked w h marks ((j : Int) + 1)) x
theorem comp_step {w h : Int} {p : List Int} (hb : Bmp w h p) {n : Nat} {v : Int} (hn : p[n]? = some v) {mark : List Bool} {out : List Placed} {k : Int} {marks : List Int} (hc : Comp w h p mark out k marks) (hk : out.length ≤ n) :
    ∃ mark' out' k' marks', shape_components_loop4_step w h p n v (mark, out) = some (.inl (mark', out')) ∧ ref15_Marks_loop4_step w h p n v (k, marks) = some (.inl (k', marks')) ∧ Comp w h p mark' out' k' marks' ∧ out'.length ≤ n + 1 := by
  have hb' := hb
  obtain ⟨w0, h0, w2, h2, wh, hlen, hbit⟩ := hb'
  have hlt := lt_len_of_get hn
  have hw : 0 < w := by
    rcases Int.lt_or_le 0 w with q | q
    · exact q
    · have : w = 0 := by omega
      rw [this, Int.zero_mul] at hlen
      omega
  obtain ⟨g1, g2⟩ := pl_in hw (show 0 ≤ (n : Int) by omega) (show (n : Int) < w * h by omega)
  have hr := rd_nat hn
  have l1 := hc.len1
  have l2 := hc.len2
  unfold shape_components_loop4_step ref15_Marks_loop4_step
  simp only [iteD]
  by_cases h1 : v = 1
  · have hB : Blk w h p (pl w (n : Int)) := ⟨g1, by rw [g2, hr, h1]⟩
    have z1 : (0 ≤ (n : Int) ∧ (n : Int) < (mark.length : Int)) = True := eq_true (by omega)
    have z2 : (0 ≤ (n : Int) ∧ (n : Int) < (marks.length : Int)) = True := eq_true (by omega)
    rw [if_pos h1, if_pos h1]
    simp only [z1, z2, if_true, Int.toNat_natCast]
    have hg : mark[n]? = some (mark[n]'(by omega)) := List.getElem?_eq_getElem _
    rw [hg]
    simp only [Option.bind_some]
    have hmb : Mb w mark (pl w (n : Int)) ↔ mark[n]? = some true := by unfold Mb; rw [g2, Int.toNat_natCast]
    have hmi : Mi w marks (pl w (n : Int)) ↔ rd marks (n : Int) ≠ 0 := by unfold Mi; rw [g2]
    have hsame := hc.same _ g1
    rw [hmb, hmi] at hsame
    cases hv : mark[n]'(by omega) with
    | true =>
      rw [hv] at hg
      have hz : ¬ rd marks (n : Int) = 0 := hsame.1 hg
      simp only [Bool.not_true, Bool.false_eq_true, if_false, hz]
      exact ⟨_, _, _, _, rfl, rfl, hc, by omega⟩
    | false =>
      rw [hv] at hg
      have hz : rd marks (n : Int) = 0 := by
        rcases Decidable.em (rd marks (n : Int) = 0) with q | q
        · exact q
        · have := hsame.2 q
          rw [hg] at this
          cases this
      have hw0 : ¬ w = 0 := by omega
      have hk' := hc.num
      have hd0 := g1.2.2.1
      have hd1 := g1.2.2.2
      simp only [pl] at hd0 hd1
      simp only [Bool.not_false, if_true, hz, hw0, if_false]
      rw [tmod_pos (by omega), tdiv_pos (by omega), w64 (n := (n : Int) / w) (by omega), eight_is]
      simp only [Option.bind_some]
      obtain ⟨o, m', f1, f2, ⟨rest, f3⟩, f4, f5, f6, f7⟩ := flood_is (mark := mark) (s := pl w (n : Int)) hb l1 hB (by rw [g2, Int.toNat_natCast]; exact hg)
      simp only [pl] at f1
      rw [f1]
      simp only [Option.bind_some]
      obtain ⟨W, H, P, X, Y, p1, p2⟩ := placed_is f3 (sidesB_iff.2 ⟨w0, h0, w2, h2, wh⟩) f4 f6
      rw [p1]
      simp only [Option.bind_some, List.length_singleton]
      rw [if_pos (by omega), w64 (n := k + 1) (by omega)]
      obtain ⟨cnt, marks', s1, s2, s3⟩ := spread_is (marks := marks) (k := k + 1) (s := pl w (n : Int)) hb l2 (by omega) hB (by rw [g2]; exact hz)
      rw [g2] at s1
      rw [s1]
      simp only [Option.bind_some]
      -- both searches come to the same pixels
      have hreach : ∀ q, Reach (Blk w h p) (Mb w mark) (pl w (n : Int)) q ↔ Reach (Blk w h p) (Mi w marks) (pl w (n : Int)) q := fun q => ⟨fun g => g.congr fun b hb => hc.same b hb.1, fun g => g.congr fun b hb => (hc.same b hb.1).symm⟩
      have hfresh : ∀ q, Reach (Blk w h p) (Mi w marks) (pl w (n : Int)) q → rd marks (ix w q) = 0 := fun q g => Decidable.not_not.1 (g.fresh (by rw [hmi]; exact fun hh => hh hz))
      refine ⟨_, _, _, _, rfl, rfl, ⟨f2, s2, fun q hq => ?_, ?_, fun q hq => ?_, fun q hq hne => ?_, fun j x hx => ?_⟩, by rw [List.length_append, List.length_singleton]; omega⟩
      · rw [f7 q hq, f5 q, hreach q, hc.same q hq]
        by_cases g : Reach (Blk w h p) (Mi w marks) (pl w (n : Int)) q
        · have := (s3 q hq).1 g
          unfold Mi
          rw [this]
          exact ⟨fun _ => by omega, fun _ => .inr g⟩
        · have := (s3 q hq).2 g
          unfold Mi
          rw [this]
          exact ⟨fun hh => hh.resolve_right g, .inl⟩
      · rw [List.length_append, List.length_singleton]; omega
      · have := hc.rng q hq
        by_cases g : Reach (Blk w h p) (Mi w marks) (pl w (n : Int)) q
        · rw [(s3 q hq).1 g]; omega
        · rw [(s3 q hq).2 g]; omega
      · by_cases g : Reach (Blk w h p) (Mi w marks) (pl w (n : Int)) q
        · exact (g.black hB).2
        · rw [(s3 q hq).2 g] at hne; exact hc.black q hq hne
      · have conv : ∀ S S' : Pt → Prop, (∀ q, S q ↔ S' q) → ShapeOf S x → ShapeOf S' x := fun S S' e hh => by
          obtain rfl : S = S' := funext fun q => propext (e q)
          exact hh
        rcases Nat.lt_or_ge j out.length with q | q
        · rw [List.getElem?_append_left q] at hx
          refine conv _ _ (fun a => ?_) (hc.shape j x hx)
          unfold Marked
          refine and_congr_right fun ha => ?_
          by_cases g : Reach (Blk w h p) (Mi w marks) (pl w (n : Int)) a
          · rw [(s3 a ha).1 g, hfresh a g]; omega
          · rw [(s3 a ha).2 g]
        · rw [List.getElem?_append_right q] at hx
          have hj : j - out.length = 0 := by
            have := lt_len_of_get hx
            simpa using this
          rw [hj] at hx
          cases hx
          have hj' : (j : Int) + 1 = k + 1 := by omega
          rw [hj']
          have hsh : ShapeOf (fun q => q ∈ o.map ptOf) ⟨W, H, P, X, Y⟩ := p2
          refine conv _ _ (fun a => ?_) hsh
          unfold Marked
          refine ⟨fun ha => ?_, fun ha => ?_⟩
          · have hin := f6 a ha
            exact ⟨hin, (s3 a hin).1 ((hreach a).1 ((f5 a).1 ha))⟩
          · refine (f5 a).2 ((hreach a).2 ?_)
            by_cases g : Reach (Blk w h p) (Mi w marks) (pl w (n : Int)) a
            · exact g
            · have e1 := (s3 a ha.1).2 g
              have e2 := hc.rng a ha.1
              have e3 := ha.2
              omega
  · rw [if_neg h1, if_neg h1]
    simp only [Option.bind_some, Bool.false_eq_true, if_false]
    exact ⟨_, _, _, _, rfl, rfl, hc, by omega⟩

/-- a shape that lies in a bitmap -/
def PlacedOk (w h : Int) (x : Placed) : Prop := ∃ S, ShapeOf S x ∧ ∀ q, S q → InB w h q
theorem alone_is {w h : Int} {p marks : List Int} (hb : Bmp w h p) (hl : (marks.length : Int) = w * h) (k : Int) :
    ∃ b, loop (ref15_Components_loop10 marks k) (0, p) = some b ∧ Bmp w h b ∧ ∀ q, InB w h q → rd b (ix w q) = if rd marks (ix w q) = k then rd p (ix w q) else 0 := by
  obtain ⟨w0, h0, w2, h2, wh, hlen, hbit⟩ := hb
  rw [ref15_Components_loop10_over marks k (by omega) p]
  obtain ⟨b, e1, e2, e3⟩ := overL_keep (step := ref15_Components_loop10_step k) (fun n (b : List Int) => Bmp w h b ∧ ∀ i : Int, 0 ≤ i → i < w * h → rd b i = if i < (n : Int) then (if rd marks i = k then rd p i else 0) else rd p i) marks 0 p
    ⟨⟨w0, h0, w2, h2, wh, hlen, hbit⟩, fun i h0 h1 => by rw [if_neg (by omega)]⟩ (fun n x b hn hP => by
      have hlt := lt_len_of_get hn
      have hr := rd_nat hn
      obtain ⟨hB, hd⟩ := hP
      rw [Nat.zero_add] at hd ⊢
      have hbl := hB.2.2.2.2.2.1
      unfold ref15_Components_loop10_step
      simp only [iteND]
      by_cases e : x = k
      · rw [if_pos e]
        refine ⟨_, rfl, hB, fun i h0 h1 => ?_⟩
        rw [hd i h0 h1]
        by_cases c : i < (n : Int)
        · rw [if_pos c, if_pos (show i < ((n + 1 : Nat) : Int) by omega)]
        · rw [if_neg c]
          by_cases c2 : i < ((n + 1 : Nat) : Int)
          · have : i = (n : Int) := by omega
            rw [if_pos c2, this, hr, if_pos e]
          · rw [if_neg c2]
      · rw [if_neg e, if_pos (by omega)]
        refine ⟨_, rfl, hB.set (.inl rfl), fun i h0 h1 => ?_⟩
        rw [rd_setI (by omega) (by omega) h0]
        by_cases c : i = (n : Int)
        · rw [if_pos c, if_pos (show i < ((n + 1 : Nat) : Int) by omega), c, hr, if_neg e]
        · rw [if_neg c, hd i h0 h1]
          by_cases c2 : i < (n : Int)
          · rw [if_pos c2, if_pos (show i < ((n + 1 : Nat) : Int) by omega)]
          · rw [if_neg c2, if_neg (show ¬ i < ((n + 1 : Nat) : Int) by omega)])
  refine ⟨b, e1, e2, fun q hq => ?_⟩
  obtain ⟨i0, i1, i2⟩ := ix_in hq
  rw [e3 _ i1 i2, if_pos (by omega)]
theorem components_is {w h : Int} {p : List Int} (hp : ∀ x ∈ p, 0 ≤ x) (hl : p.length ≤ 9223372036854775807) :
    ∃ L e, shape_Components w h p = some (L, e) ∧ ref15_Components w h p = some (L, e) ∧ (bmpB w h p = true → L.length ≤ 8192 ∧ ∀ x ∈ L, PlacedOk w h x) := by
  rw [shape_Components_eq, ref15_Components_eq, bitmapValid_is hl, Valid05_is hl]
  simp only [Option.bind_some]
  by_cases hbb : bmpB w h p = true
  · have hb := bmpB_of hp hbb
    have hb' := hb
    obtain ⟨w0, h0, w2, h2, wh, hlen, hbit⟩ := hb'
    rw [hbb]
    simp only [Bool.not_true, Bool.false_eq_true, if_false]
    rw [shape_components_eq, ref15_Marks_eq, if_pos (by omega), if_pos (by omega)]
    simp only [Int.toNat_natCast]
    have l1 := shape_components_loop4_over w h p (by omega) (List.replicate p.length false, [])
    have l2 := ref15_Marks_loop4_over w h p (by omega) (0, List.replicate p.length 0)
    simp only at l1 l2
    rw [l1, l2]
    have main := overL_both (f := shape_components_loop4_step w h p) (g := ref15_Marks_loop4_step w h p) (fin := fun s => some (s.1, s.2)) (fin' := fun s => some (s.1, s.2)) (fun n s t => Comp w h p s.1 s.2 t.1 t.2 ∧ s.2.length ≤ n) (fun s t => Comp w h p s.1 s.2 t.1 t.2 ∧ s.2.length ≤ p.length) p 0 (List.replicate p.length false, []) (0, List.replicate p.length 0)
      (fun n x s t hn hr => by
        obtain ⟨m, o⟩ := s
        obtain ⟨k, ms⟩ := t
        rw [Nat.zero_add] at hr ⊢
        obtain ⟨m', o', k', ms', e1, e2, e3, e4⟩ := comp_step hb hn hr.1 hr.2
        rw [e1, e2]
        exact .mk ⟨e3, e4⟩) (fun s t hr => by rw [Nat.zero_add] at hr; exact .mk hr)
      ⟨⟨by simp; exact hlen, by simp; exact hlen, fun q hq => by
          unfold Mb Mi
          rw [rd_blank, List.getElem?_replicate]
          simp, rfl, fun q hq => by simp only; rw [rd_blank]; omega, fun q hq hne => absurd rd_blank hne, fun j x hx => by simp at hx⟩, by simp⟩
    obtain ⟨⟨mark, out⟩, ⟨k, marks⟩, e1, e2, hc, hol⟩ := main
    simp only at hc hol
    rw [e1, e2]
    simp only [Option.bind_some]
    have hnum := hc.num
    obtain ⟨L, e3, e4⟩ := loop_ind (f := ref15_Components_loop6 w h p marks k) (fun (st : Int × List Placed) => (1 ≤ st.1 ∧ st.1 ≤ k + 1) ∧ st.2 = out.take (st.1 - 1).toNat) (fun st => (k + 1 - st.1).toNat) (fun a => a = out) (fun st hP => by
      obtain ⟨j, o⟩ := st
      obtain ⟨⟨j0, j1⟩, ho⟩ := hP
      simp only at j0 j1 ho
      subst ho
      unfold ref15_Components_loop6
      simp only [iteD]
      by_cases hle : j ≤ k
      · rw [if_pos hle, ref05_Copy_eq, if_pos (by simp; omega)]
        simp only [Option.bind_some, List.nil_append]
        obtain ⟨n, rfl⟩ : ∃ n : Nat, j = (n : Int) + 1 := ⟨(j - 1).toNat, by omega⟩
        have hn : n < out.length := by omega
        have hget : out[n]? = some out[n] := List.getElem?_eq_getElem hn
        obtain ⟨b, a1, a2, a3⟩ := alone_is hb hc.len2 ((n : Int) + 1)
        rw [a1]
        simp only [Option.bind_some]
        have hsh := hc.shape n _ hget
        -- the pixels that are alone are those of the mark
        have hS : ∀ q, Blk w h b q ↔ Marked w h marks ((n : Int) + 1) q := fun q => by
          unfold Blk Marked
          refine and_congr_right fun hq => ?_
          rw [a3 q hq]
          by_cases c : rd marks (ix w q) = (n : Int) + 1
          · rw [if_pos c]
            exact ⟨fun _ => c, fun _ => hc.black q hq (by omega)⟩
          · rw [if_neg c]
            exact ⟨fun hh => absurd hh (by decide), fun hh => absurd hh c⟩
        obtain ⟨s, s1, _⟩ := hsh.box.hl
        obtain ⟨W, H, P, X, Y, t1, t2⟩ := trim_is a2 ((hS s).2 s1)
        rw [t1]
        simp only [Option.bind_some, List.length_singleton, List.length_take]
        obtain ⟨u1, u2, u3, u4, u5⟩ := t2.unique hS hsh
        rw [if_pos (by omega), w64 (n := (n : Int) + 1 + 1) (by omega)]
        have hx : (⟨W, H, P, X, Y⟩ : Placed) = out[n] := by rw [u1, u2, u3, u4, u5]
        refine .inl ⟨_, rfl, ⟨by simp only; omega, ?_⟩, by show (k + 1 - ((n : Int) + 1 + 1)).toNat < (k + 1 - ((n : Int) + 1)).toNat; omega⟩
        show out.take ((n : Int) + 1 - 1).toNat ++ [_] = out.take ((n : Int) + 1 + 1 - 1).toNat
        rw [hx, show ((n : Int) + 1 - 1).toNat = n by omega, show ((n : Int) + 1 + 1 - 1).toNat = n + 1 by omega, List.take_add_one, hget]
        rfl
      · rw [if_neg hle]
        refine .inr ⟨_, rfl, ?_⟩
        rw [List.take_of_length_le (by omega)]) (1, []) ⟨by simp only; omega, by simp⟩
    rw [e3, e4]
    refine ⟨out, 0, rfl, rfl, fun _ => ⟨by omega, fun x hx => ?_⟩⟩
    obtain ⟨j, hj⟩ := List.getElem?_of_mem hx
    exact ⟨_, hc.shape j x hj, fun q hq => hq.1⟩
  · have hf : bmpB w h p = false := by simpa using hbb
    rw [hf]
    exact ⟨[], 30, rfl, rfl, fun h => by cases h⟩
end Go.Proofs.YtmdlomednkfcoaaGreat.P

/- Which bitmaps are right, by the reference of runs. -/
namespace Go.Proofs.YtmdlomednkfcoaaGreat.P
open Go Go.Proofs.YtmdlomednkfcoaaGreat.V
set_option linter.unusedVariables false
set_option linter.unusedSimpArgs false

theorem IsSize_is (w h : Int) : ref06_IsSize w h = some (sidesB w h) := by
  rw [ref06_IsSize_eq]
  unfold sidesB
  simp only [iteD]
  by_cases h0 : w ≥ 0 <;> by_cases h1 : h ≥ 0 <;> by_cases h2 : w ≤ 200 <;> by_cases h3 : h ≤ 200 <;> simp only [h0, h1, h2, h3, if_true, if_false, false_and, and_false, true_and, decide_false, show (0 ≤ w) = (w ≥ 0) from rfl, show (0 ≤ h) = (h ≥ 0) from rfl]
  obtain ⟨a, b⟩ := mul_small h0 h1 h2 h3
  rw [w64 (by omega)]
theorem IsBitmap_is {w h : Int} {p : List Int} (hl : p.length ≤ 9223372036854775807) : ref06_IsBitmap w h p = some (bmpB w h p) := by
  rw [ref06_IsBitmap_eq, IsSize_is]
  unfold bmpB
  simp only [Option.bind_some]
  by_cases hs : sidesB w h = true
  · obtain ⟨a, b, c, d, e⟩ := sidesB_iff.1 hs
    obtain ⟨m0, m1⟩ := mul_small a b c d
    rw [w64 (by omega), hs, ref06_IsRow_eq, ref06_IsRow_loop2_over p hl (), overL_all (fun x => decide (x ≤ 1)) (a := Sum.inr false)]
    · by_cases hq : (p.length : Int) = w * h
      · by_cases ha : (p.all fun x => decide (x ≤ 1)) = true
        · simp [hq, ha]
        · simp [hq, ha]
      · simp [hq]
    · intro n x
      unfold ref06_IsRow_loop2_step
      simp only [iteD]
      by_cases hx : x > 1
      · rw [if_pos hx, if_neg (by omega)]
      · rw [if_neg hx, if_pos (by omega)]
  · simp [hs]

end Go.Proofs.YtmdlomednkfcoaaGreat.P

/- Images that are right, and the mean colour under a shape: the program against its reference. -/
namespace Go.Proofs.YtmdlomednkfcoaaGreat.P
open Go Go.Proofs.YtmdlomednkfcoaaGreat.V
set_option linter.unusedVariables false
set_option linter.unusedSimpArgs false

/-- a loop that looks for the first of a kind -/
theorem overL_find {X A : Type} {Q : X → Prop} {step : Nat → X → Unit → Option (Unit ⊕ A)} {fin : Unit → Option A} (a : Nat → A) : ∀ (l : List X) (n : Nat),
    (∀ (k : Nat) (x : X), l[k]? = some x → ¬ Q x ∧ step (n + k) x () = some (.inl ()) ∨ Q x ∧ step (n + k) x () = some (.inr (a (n + k)))) →
    (∀ (k : Nat) (x : X), l[k]? = some x → ¬ Q x) ∧ overL step fin n l () = fin () ∨ ∃ (k : Nat) (x : X), l[k]? = some x ∧ Q x ∧ (∀ (j : Nat) (y : X), j < k → l[j]? = some y → ¬ Q y) ∧ overL step fin n l () = some (a (n + k))
  | [], n, _ => .inl ⟨fun k x h => by simp at h, rfl⟩
  | x :: l, n, h => by
    have h0 := h 0 x rfl
    rw [Nat.add_zero] at h0
    rcases h0 with ⟨h1, h2⟩ | ⟨h1, h2⟩
    · rw [overL_next h2]
      rcases overL_find a l (n + 1) (fun k y hk => by have := h (k + 1) y (by simpa using hk); rwa [show n + (k + 1) = n + 1 + k by omega] at this) with ⟨g1, g2⟩ | ⟨k, y, g1, g2, g3, g4⟩
      · refine .inl ⟨fun k y hk => ?_, g2⟩
        cases k with
        | zero => simp at hk; subst hk; exact h1
        | succ k => exact g1 k y (by simpa using hk)
      · refine .inr ⟨k + 1, y, by simpa using g1, g2, fun j z hj hz => ?_, by rw [g4, show n + 1 + k = n + (k + 1) by omega]⟩
        cases j with
        | zero => simp at hz; subst hz; exact h1
        | succ j => exact g3 j z (by omega) (by simpa using hz)
    · exact .inr ⟨0, x, rfl, h1, fun j y hj => absurd hj (Nat.not_lt_zero j), overL_exit h2⟩

def ValL (l : List Int) : Prop := ∀ x ∈ l, 0 ≤ x ∧ x ≤ 255
theorem value_is (n : Int) : colour_isValue n = some (decide (0 ≤ n ∧ n ≤ 255)) ∧ ref19_isValue n = some (decide (0 ≤ n ∧ n ≤ 255)) := by
  rw [colour_isValue_eq, ref19_isValue_eq]
  have : ((if decide (n ≥ 0) = true then some (decide (n ≤ 255)) else some false) : Option Bool) = some (decide (0 ≤ n ∧ n ≤ 255)) := by
    simp only [iteD]
    split
    · refine some_dec ?_; simp only [decide_eq_true_eq]; omega
    · refine some_dec ?_; simp only [Bool.false_eq_true, false_iff]; omega
  exact ⟨this, this⟩
theorem rightValues_is {l : List Int} {n : Int} (hl : l.length ≤ 9223372036854775807) : ∃ v, colour_rightValues l n = some v ∧ (v = true ↔ (l.length : Int) = n ∧ ValL l) := by
  rw [colour_rightValues_eq, slices_ContainsFunc_int_int_2_eq, slices_IndexFunc_int_int_2_eq, slices_IndexFunc_int_int_2_loop2_over l hl ()]
  simp only [iteD]
  by_cases hn : (l.length : Int) = n
  · rw [if_pos hn]
    rcases overL_find (Q := fun x : Int => ¬ (0 ≤ x ∧ x ≤ 255)) (step := slices_IndexFunc_int_int_2_loop2_step) (fin := fun _ => some (Sum.inl ())) (fun k => Sum.inr ((k : Nat) : Int)) l 0 (fun k x hk => by
      unfold slices_IndexFunc_int_int_2_loop2_step
      rw [colour_rightValues_1_eq, (value_is x).1]
      simp only [Option.bind_some]
      by_cases c : 0 ≤ x ∧ x ≤ 255
      · exact .inl ⟨fun h => h c, by simp [c]⟩
      · exact .inr ⟨c, by simp [c]⟩) with ⟨g1, g2⟩ | ⟨k, x, g1, g2, g3, g4⟩
    · rw [g2]
      refine ⟨true, rfl, fun _ => ⟨hn, fun x hx => ?_⟩, fun _ => rfl⟩
      obtain ⟨k, hk⟩ := List.getElem?_of_mem hx
      exact Decidable.not_not.1 (g1 k x hk)
    · rw [g4]
      refine ⟨false, ?_, fun h => by simp at h, fun h => absurd (h.2 x (List.mem_of_getElem? g1)) g2⟩
      simp only [Option.bind_some, Sum.elim_inr, Nat.zero_add]
      have : ((k : Nat) : Int) ≥ 0 := by omega
      simp [this]
  · rw [if_neg hn]
    exact ⟨false, rfl, fun h => by simp at h, fun h => absurd h.1 hn⟩
def ImgOk (w h : Int) (r g b : List Int) : Prop := sidesB w h = true ∧ ((r.length : Int) = w * h ∧ ValL r) ∧ ((g.length : Int) = w * h ∧ ValL g) ∧ ((b.length : Int) = w * h ∧ ValL b)
theorem imageValid_is {w h : Int} {r g b : List Int} (hr : r.length ≤ 9223372036854775807) (hg : g.length ≤ 9223372036854775807) (hb : b.length ≤ 9223372036854775807) :
    ∃ v, colour_Valid w h r g b = some v ∧ ref19_Valid w h r g b = some v ∧ (v = true → ImgOk w h r g b) := by
  have hside : colour_rightSides w h = some (sidesB w h) := by rw [← Sides_is, colour_rightSides_eq, ref05_Sides_eq]
  rw [colour_Valid_eq, ref19_Valid_eq, hside, Sides_is]
  simp only [Option.bind_some]
  by_cases hs : sidesB w h = true
  · obtain ⟨w0, h0, w2, h2, wh⟩ := sidesB_iff.1 hs
    obtain ⟨m0, m1⟩ := mul_small w0 h0 w2 h2
    rw [hs, w64 (by omega)]
    simp only [if_true, Bool.not_true, Bool.false_eq_true, if_false]
    obtain ⟨v1, e1, q1⟩ := rightValues_is (l := r) (n := w * h) hr
    obtain ⟨v2, e2, q2⟩ := rightValues_is (l := g) (n := w * h) hg
    obtain ⟨v3, e3, q3⟩ := rightValues_is (l := b) (n := w * h) hb
    rw [e1, e2, e3]
    have lhs : ((some v1).bind fun q8 => if q8 = true then (some v2).bind fun q9 => (if q9 = true then (some v3).bind fun q10 => some q10 else some false) else some false) = some (v1 && (v2 && v3)) := by
      cases v1 <;> cases v2 <;> cases v3 <;> rfl
    rw [lhs]
    have rhs : ∃ v, ((if (!decide (((r.length : Nat) : Int) = w * h)) = true then some true else if (!decide (((g.length : Nat) : Int) = w * h)) = true then some true else some (!decide (((b.length : Nat) : Int) = w * h))) : Option Bool) = some (!decide ((r.length : Int) = w * h ∧ (g.length : Int) = w * h ∧ (b.length : Int) = w * h)) ∧ v = v := ⟨true, by
      simp only [iteND]
      by_cases c1 : (r.length : Int) = w * h <;> by_cases c2 : (g.length : Int) = w * h <;> by_cases c3 : (b.length : Int) = w * h <;> simp [c1, c2, c3], rfl⟩
    obtain ⟨_, rhs, _⟩ := rhs
    rw [rhs]
    simp only [Option.bind_some]
    by_cases hlen : (r.length : Int) = w * h ∧ (g.length : Int) = w * h ∧ (b.length : Int) = w * h
    · obtain ⟨l1, l2, l3⟩ := hlen
      have : (!decide ((r.length : Int) = w * h ∧ (g.length : Int) = w * h ∧ (b.length : Int) = w * h)) = false := by simp [l1, l2, l3]
      rw [this]
      simp only [Bool.false_eq_true, if_false]
      rw [ref19_Valid_loop7_over r g b (w * h) (by rw [List.length_range]; omega) ()]
      rcases overL_allN (P := fun k (_ : Nat) => (0 ≤ rd r ((k : Nat) : Int) ∧ rd r ((k : Nat) : Int) ≤ 255) ∧ (0 ≤ rd g ((k : Nat) : Int) ∧ rd g ((k : Nat) : Int) ≤ 255) ∧ (0 ≤ rd b ((k : Nat) : Int) ∧ rd b ((k : Nat) : Int) ≤ 255)) (step := ref19_Valid_loop7_step r g b) (fin := fun _ => some (Sum.inl ())) (a := Sum.inr false) (List.range (w * h).toNat) 0 (fun k x hk => by
        have hlt := lt_len_of_get hk
        rw [List.length_range] at hlt
        have z1 : (0 ≤ (k : Int) ∧ (k : Int) < (r.length : Int)) = True := eq_true (by omega)
        have z2 : (0 ≤ (k : Int) ∧ (k : Int) < (g.length : Int)) = True := eq_true (by omega)
        have z3 : (0 ≤ (k : Int) ∧ (k : Int) < (b.length : Int)) = True := eq_true (by omega)
        rw [Nat.zero_add]
        unfold ref19_Valid_loop7_step
        simp only [z1, z2, z3, if_true, (value_is _).2, Option.bind_some]
        by_cases c1 : 0 ≤ rd r (k : Int) ∧ rd r (k : Int) ≤ 255
        · by_cases c2 : 0 ≤ rd g (k : Int) ∧ rd g (k : Int) ≤ 255
          · by_cases c3 : 0 ≤ rd b (k : Int) ∧ rd b (k : Int) ≤ 255
            · exact .inl ⟨⟨c1, c2, c3⟩, by simp [c1, c2, c3]⟩
            · exact .inr ⟨fun q => c3 q.2.2, by simp [c1, c2, c3]⟩
          · exact .inr ⟨fun q => c2 q.2.1, by simp [c1, c2]⟩
        · exact .inr ⟨fun q => c1 q.1, by simp [c1]⟩) with ⟨g1, g2⟩ | ⟨g1, g2⟩
      · have key : ∀ (l : List Int), (l.length : Int) = w * h → (∀ k : Nat, k < (w * h).toNat → 0 ≤ rd l (k : Int) ∧ rd l (k : Int) ≤ 255) → ValL l := fun l hl hv x hx => by
          obtain ⟨k, hk⟩ := List.getElem?_of_mem hx
          have := lt_len_of_get hk
          have := hv k (by omega)
          rwa [rd_nat hk] at this
        have all : ∀ k : Nat, k < (w * h).toNat → _ := fun k hk => by have := g1 k k (by rw [List.getElem?_range hk]); rwa [Nat.zero_add] at this
        have a1 := q1.2 ⟨l1, key r l1 fun k hk => (all k hk).1⟩
        have a2 := q2.2 ⟨l2, key g l2 fun k hk => (all k hk).2.1⟩
        have a3 := q3.2 ⟨l3, key b l3 fun k hk => (all k hk).2.2⟩
        rw [g2, a1, a2, a3]
        exact ⟨true, rfl, rfl, fun _ => ⟨hs, q1.1 a1, q2.1 a2, q3.1 a3⟩⟩
      · have hf : (v1 && (v2 && v3)) = false := by
          rcases Bool.eq_false_or_eq_true (v1 && (v2 && v3)) with q | q
          · rw [Bool.and_eq_true, Bool.and_eq_true] at q
            refine absurd (fun k x hk => ?_) g1
            have hlt := lt_len_of_get hk
            rw [List.length_range] at hlt
            rw [Nat.zero_add]
            have b1 := (q1.1 q.1).2 _ (rd_mem (l := r) (show (0 : Int) ≤ (k : Int) by omega) (by omega))
            have b2 := (q2.1 q.2.1).2 _ (rd_mem (l := g) (show (0 : Int) ≤ (k : Int) by omega) (by omega))
            have b3 := (q3.1 q.2.2).2 _ (rd_mem (l := b) (show (0 : Int) ≤ (k : Int) by omega) (by omega))
            exact ⟨b1, b2, b3⟩
          · exact q
        rw [g2, hf]
        exact ⟨false, rfl, rfl, fun h => by cases h⟩
    · have : (!decide ((r.length : Int) = w * h ∧ (g.length : Int) = w * h ∧ (b.length : Int) = w * h)) = true := by simp only [hlen, decide_false, Bool.not_false]
      rw [this]
      have hf : (v1 && (v2 && v3)) = false := by
        rcases Bool.eq_false_or_eq_true (v1 && (v2 && v3)) with q | q
        · rw [Bool.and_eq_true, Bool.and_eq_true] at q
          exact absurd ⟨(q1.1 q.1).1, (q2.1 q.2.1).1, (q3.1 q.2.2).1⟩ hlen
        · exact q
      rw [hf]
      exact ⟨false, rfl, rfl, fun h => by cases h⟩
  · have hf : sidesB w h = false := by simpa using hs
    rw [hf]
    exact ⟨false, rfl, rfl, fun h => by cases h⟩
end Go.Proofs.YtmdlomednkfcoaaGreat.P

/- The mean colour under a shape: the program against its reference. -/
namespace Go.Proofs.YtmdlomednkfcoaaGreat.P
open Go Go.Proofs.YtmdlomednkfcoaaGreat.V
set_option linter.unusedVariables false
set_option linter.unusedSimpArgs false

abbrev Acc := Int × Int × Int × Int
/-- what is summed up of the first i cells of a shape -/
def sumTo (iw : Int) (r g b : List Int) (W : Int) (P : List Int) (X Y : Int) : Nat → Acc
  | 0 => (0, 0, 0, 0)
  | i + 1 => if rd P (i : Int) = 1 then
      ((sumTo iw r g b W P X Y i).1 + 1, (sumTo iw r g b W P X Y i).2.1 + rd r ((Y + (i : Int) / W) * iw + X + (i : Int) % W), (sumTo iw r g b W P X Y i).2.2.1 + rd g ((Y + (i : Int) / W) * iw + X + (i : Int) % W), (sumTo iw r g b W P X Y i).2.2.2 + rd b ((Y + (i : Int) / W) * iw + X + (i : Int) % W))
    else sumTo iw r g b W P X Y i
def SumOk (i : Nat) (a : Acc) : Prop := (0 ≤ a.1 ∧ a.1 ≤ (i : Int)) ∧ (0 ≤ a.2.1 ∧ a.2.1 ≤ 255 * a.1) ∧ (0 ≤ a.2.2.1 ∧ a.2.2.1 ≤ 255 * a.1) ∧ (0 ≤ a.2.2.2 ∧ a.2.2.2 ≤ 255 * a.1)
section
variable {iw ih : Int} {r g b : List Int} {x : Placed}
theorem cell_in (hi : ImgOk iw ih r g b) (hx : PlacedOk iw ih x) {q : Pt} (hq : InB x.pix_w x.pix_h q) (h1 : rd x.pix_pix (ix x.pix_w q) = 1) : 0 ≤ (x.y + q.2) * iw + x.x + q.1 ∧ (x.y + q.2) * iw + x.x + q.1 < iw * ih ∧ 0 ≤ x.y + q.2 ∧ x.y + q.2 < ih ∧ 0 ≤ (x.y + q.2) * iw ∧ 0 ≤ x.x + q.1 ∧ x.x + q.1 < iw := by
  obtain ⟨S, hs, hin⟩ := hx
  have hS : S (x.x + q.1, x.y + q.2) := by
    rcases Classical.em (S (x.x + q.1, x.y + q.2)) with c | c
    · exact c
    · have := hs.white q hq c
      omega
  have hb := hin _ hS
  obtain ⟨a0, a1, a2⟩ := ix_in hb
  unfold ix at a1 a2
  unfold InB at hb
  simp only at a0 a1 a2 hb
  omega
theorem shape_small (hi : ImgOk iw ih r g b) (hx : PlacedOk iw ih x) : (0 < x.pix_w ∧ x.pix_w ≤ 200) ∧ (0 < x.pix_h ∧ x.pix_h ≤ 200) ∧ x.pix_w * x.pix_h ≤ 8192 ∧ (x.pix_pix.length : Int) = x.pix_w * x.pix_h ∧ (-1000 ≤ x.x ∧ x.x ≤ 1000) ∧ (-1000 ≤ x.y ∧ x.y ≤ 1000) := by
  obtain ⟨S, hs, hin⟩ := hx
  obtain ⟨q1, s1, f1⟩ := hs.box.hl
  obtain ⟨q2, s2, f2⟩ := hs.box.ht
  obtain ⟨q3, s3, f3⟩ := hs.box.hr
  obtain ⟨q4, s4, f4⟩ := hs.box.hb
  have i1 := hin _ s1
  have i2 := hin _ s2
  have i3 := hin _ s3
  have i4 := hin _ s4
  have b1 := hs.box.inside _ s1
  have b2 := hs.box.inside _ s2
  have b3 := hs.box.inside _ s3
  have b4 := hs.box.inside _ s4
  unfold InB at i1 i2 i3 i4
  obtain ⟨w0, h0, w2, h2, wh⟩ := sidesB_iff.1 hi.1
  have m1 : x.pix_w * x.pix_h ≤ iw * ih := Int.mul_le_mul (by omega) (by omega) (by omega) w0
  exact ⟨by omega, by omega, by omega, hs.len, by omega, by omega⟩
theorem sum_ok (hi : ImgOk iw ih r g b) (hx : PlacedOk iw ih x) : ∀ i : Nat, (i : Int) ≤ x.pix_w * x.pix_h → SumOk i (sumTo iw r g b x.pix_w x.pix_pix x.x x.y i)
  | 0, _ => by unfold SumOk sumTo; simp
  | i + 1, h => by
    have ih' := sum_ok hi hx i (by omega)
    obtain ⟨⟨pw, _⟩, ⟨ph, _⟩, wh, hl, _, _⟩ := shape_small hi hx
    unfold sumTo
    by_cases c : rd x.pix_pix (i : Int) = 1
    · rw [if_pos c]
      obtain ⟨g1, g2⟩ := pl_in (w := x.pix_w) (h := x.pix_h) (i := (i : Int)) pw (by omega) (by omega)
      obtain ⟨k0, k1, _⟩ := cell_in hi hx g1 (by rw [g2]; exact c)
      simp only [pl] at k0 k1
      obtain ⟨_, ⟨lr, vr⟩, ⟨lg, vg⟩, ⟨lb, vb⟩⟩ := hi
      have e1 := vr _ (rd_mem (l := r) k0 (by omega))
      have e2 := vg _ (rd_mem (l := g) k0 (by omega))
      have e3 := vb _ (rd_mem (l := b) k0 (by omega))
      unfold SumOk at ih' ⊢
      simp only
      omega
    · rw [if_neg c]
      unfold SumOk at ih' ⊢
      omega
theorem sum_pos (hi : ImgOk iw ih r g b) (hx : PlacedOk iw ih x) {j : Nat} (h1 : rd x.pix_pix (j : Int) = 1) : ∀ i : Nat, j < i → (i : Int) ≤ x.pix_w * x.pix_h → 0 < (sumTo iw r g b x.pix_w x.pix_pix x.x x.y i).1
  | i + 1, hj, h => by
    have so := sum_ok hi hx i (by omega)
    unfold sumTo
    rcases Nat.lt_or_ge j i with q | q
    · have := sum_pos hi hx h1 i q (by omega)
      split
      · simp only; omega
      · exact this
    · obtain rfl : j = i := by omega
      rw [if_pos h1]
      unfold SumOk at so
      simp only
      omega
theorem ink_loop (hi : ImgOk iw ih r g b) (hx : PlacedOk iw ih x) : loop (layer_ink_loop4 iw r g b x.pix_w x.pix_pix x.x x.y) (0, 0, 0, 0, 0) = some (sumTo iw r g b x.pix_w x.pix_pix x.x x.y (x.pix_w * x.pix_h).toNat) := by
  obtain ⟨⟨pw, pw2⟩, ⟨ph, ph2⟩, wh, hl, hxx, hyy⟩ := shape_small hi hx
  obtain ⟨w0, h0, w2, h2, wh'⟩ := sidesB_iff.1 hi.1
  have l1 := layer_ink_loop4_over iw r g b x.pix_w x.pix_pix x.x x.y (by omega) (0, 0, 0, 0)
  simp only at l1
  rw [l1]
  have := overL_inv (f := layer_ink_loop4_step iw r g b x.pix_w x.x x.y) (fin := fun s => some (s.1, s.2.1, s.2.2.1, s.2.2.2)) (sumTo iw r g b x.pix_w x.pix_pix x.x x.y) x.pix_pix 0 (fun i v hn => by
    have hlt := lt_len_of_get hn
    have hr := rd_nat hn
    have so := sum_ok hi hx i (by omega)
    have hw0 : ¬ x.pix_w = 0 := by omega
    rw [Nat.zero_add]
    unfold layer_ink_loop4_step
    simp only [iteD, hw0, if_false]
    unfold SumOk at so
    by_cases c : v = 1
    · rw [if_pos c]
      obtain ⟨g1, g2⟩ := pl_in (w := x.pix_w) (h := x.pix_h) (i := (i : Int)) pw (by omega) (by omega)
      obtain ⟨k0, k1, k2, k3, k4, k5, k6⟩ := cell_in hi hx g1 (by rw [g2, hr]; exact c)
      have gd := g1.2.2
      have gm := g1
      unfold InB at gm
      simp only [pl] at k0 k1 k2 k3 k4 k5 k6 gm
      obtain ⟨_, ⟨lr, vr⟩, ⟨lg, vg⟩, ⟨lb, vb⟩⟩ := hi
      have e1 := vr _ (rd_mem (l := r) k0 (by omega))
      have e2 := vg _ (rd_mem (l := g) k0 (by omega))
      have e3 := vb _ (rd_mem (l := b) k0 (by omega))
      rw [tdiv_pos (by omega), tmod_pos (by omega), w64 (n := (i : Int) / x.pix_w) (by omega), w64 (n := x.y + (i : Int) / x.pix_w) (by omega), w64 (n := (x.y + (i : Int) / x.pix_w) * iw) (by omega), w64 (n := (x.y + (i : Int) / x.pix_w) * iw + x.x) (by omega), w64 (n := (x.y + (i : Int) / x.pix_w) * iw + x.x + (i : Int) % x.pix_w) (by omega)]
      rw [if_pos (by omega), if_pos (by omega), if_pos (by omega)]
      rw [show i + 1 = i + 1 from rfl]
      conv => rhs; rw [sumTo, if_pos (by rw [hr]; exact c)]
      rw [w64 (by omega), w64 (by omega), w64 (by omega), w64 (by omega)]
    · rw [if_neg c]
      conv => rhs; rw [sumTo, if_neg (by rw [hr]; exact c)])
  rw [Nat.zero_add] at this
  have e : x.pix_pix.length = (x.pix_w * x.pix_h).toNat := by omega
  rw [e] at this
  exact this
theorem pix06_is {W H : Int} {P : List Int} {u v : Int} (hq : InB W H (u, v)) (hl : (P.length : Int) = W * H) (hs : W * H ≤ 8192) : ref06_Pix W H P u v = some (rd P (ix W (u, v))) := by
  obtain ⟨i0, i1, i2⟩ := ix_in hq
  have hix : ix W (u, v) = v * W + u := rfl
  unfold InB at hq
  simp only at hq i0
  rw [ref06_Pix_eq]
  simp only [iteD]
  rw [if_neg (show ¬ u < 0 by omega), if_neg (show ¬ v < 0 by omega), if_neg (show ¬ u ≥ W by omega)]
  have e : ¬ v ≥ H := by omega
  simp only [e, decide_false, Option.bind_some, Bool.false_eq_true, if_false]
  rw [w64 (n := v * W) (by rw [hix] at i1 i2; omega), w64 (n := v * W + u) (by rw [hix] at i1 i2; omega), ← hix, if_pos (by omega)]
theorem mean_loop (hi : ImgOk iw ih r g b) (hx : PlacedOk iw ih x) : loop (ref22_mean_loop3 iw r g b x.pix_w x.pix_h x.pix_pix x.x x.y) (0, 0, 0, 0, 0) = some (sumTo iw r g b x.pix_w x.pix_pix x.x x.y (x.pix_w * x.pix_h).toNat) := by
  obtain ⟨⟨pw, pw2⟩, ⟨ph, ph2⟩, wh, hl, hxx, hyy⟩ := shape_small hi hx
  obtain ⟨w0, h0, w2, h2, wh'⟩ := sidesB_iff.1 hi.1
  have l1 := ref22_mean_loop3_over iw r g b x.pix_w x.pix_h x.pix_pix x.x x.y (by rw [List.length_range]; omega) (0, 0, 0, 0)
  simp only at l1
  rw [l1]
  have main := overL_inv (f := ref22_mean_loop3_step iw r g b x.pix_w x.pix_h x.pix_pix x.x x.y) (fin := fun s => some (s.1, s.2.1, s.2.2.1, s.2.2.2)) (fun n => sumTo iw r g b x.pix_w x.pix_pix x.x x.y (n * x.pix_w.toNat)) (List.range x.pix_h.toNat) 0 (fun v y hn => by
    have hk := lt_len_of_get hn
    rw [List.length_range] at hk
    rw [Nat.zero_add]
    unfold ref22_mean_loop3_step
    have l2 := ref22_mean_loop6_over iw r g b x.pix_w x.pix_h x.pix_pix x.x x.y (v : Int) (by rw [List.length_range]; omega) (sumTo iw r g b x.pix_w x.pix_pix x.x x.y (v * x.pix_w.toNat))
    simp only at l2 ⊢
    rw [l2]
    have inner := overL_inv (f := ref22_mean_loop6_step iw r g b x.pix_w x.pix_h x.pix_pix x.x x.y (v : Int)) (fin := fun s => some (s.1, s.2.1, s.2.2.1, s.2.2.2)) (fun u => sumTo iw r g b x.pix_w x.pix_pix x.x x.y (v * x.pix_w.toNat + u)) (List.range x.pix_w.toNat) 0 (fun u y hn => by
      have hku := lt_len_of_get hn
      rw [List.length_range] at hku
      rw [Nat.zero_add]
      have hq : InB x.pix_w x.pix_h ((u : Int), (v : Int)) := ⟨by show (0 : Int) ≤ (u : Int); omega, by show (u : Int) < x.pix_w; omega, by show (0 : Int) ≤ (v : Int); omega, by show (v : Int) < x.pix_h; omega⟩
      obtain ⟨i0, i1, i2⟩ := ix_in hq
      have hii : (((v * x.pix_w.toNat + u : Nat)) : Int) = ix x.pix_w ((u : Int), (v : Int)) := by
        unfold ix
        simp only
        rw [Int.natCast_add, Int.natCast_mul, Int.toNat_of_nonneg (by omega)]
      have hpl := pl_ix hq
      unfold pl at hpl
      have hm := congrArg Prod.fst hpl
      have hd := congrArg Prod.snd hpl
      simp only at hm hd
      have so := sum_ok hi hx (v * x.pix_w.toNat + u) (by rw [hii]; omega)
      unfold SumOk at so
      rw [hii] at so
      unfold ref22_mean_loop6_step
      rw [pix06_is hq hl wh]
      simp only [Option.bind_some, iteD]
      by_cases c : rd x.pix_pix (ix x.pix_w ((u : Int), (v : Int))) = 1
      · rw [if_pos c]
        obtain ⟨k0, k1, k2, k3, k4, k5, k6⟩ := cell_in hi hx hq c
        simp only at k0 k1 k2 k3 k4 k5 k6
        obtain ⟨_, ⟨lr, vr⟩, ⟨lg, vg⟩, ⟨lb, vb⟩⟩ := hi
        have e1 := vr _ (rd_mem (l := r) k0 (by omega))
        have e2 := vg _ (rd_mem (l := g) k0 (by omega))
        have e3 := vb _ (rd_mem (l := b) k0 (by omega))
        rw [w64 (n := x.y + (v : Int)) (by omega), w64 (n := (x.y + (v : Int)) * iw) (by omega), w64 (n := (x.y + (v : Int)) * iw + x.x) (by omega), w64 (n := (x.y + (v : Int)) * iw + x.x + (u : Int)) (by omega)]
        rw [if_pos (by omega), if_pos (by omega), if_pos (by omega)]
        rw [show v * x.pix_w.toNat + (u + 1) = (v * x.pix_w.toNat + u) + 1 by omega]
        conv => rhs; rw [sumTo, hii, if_pos c, hm, hd]
        rw [w64 (by omega), w64 (by omega), w64 (by omega), w64 (by omega)]
      · rw [if_neg c]
        rw [show v * x.pix_w.toNat + (u + 1) = (v * x.pix_w.toNat + u) + 1 by omega]
        conv => rhs; rw [sumTo, hii, if_neg c])
    simp only [Nat.add_zero, List.length_range, Nat.zero_add] at inner
    have inner' : overL (ref22_mean_loop6_step iw r g b x.pix_w x.pix_h x.pix_pix x.x x.y (v : Int)) (fun (s36 : Int × Int × Int × Int) => let n37 := s36.1; let r38 := s36.2.1; let g39 := s36.2.2.1; let b40 := s36.2.2.2; some (n37, r38, g39, b40)) 0 (List.range x.pix_w.toNat) (sumTo iw r g b x.pix_w x.pix_pix x.x x.y (v * x.pix_w.toNat)) = _ := inner
    simp only at inner'
    rw [inner']
    simp only [Option.bind_some]
    rw [show (v + 1) * x.pix_w.toNat = v * x.pix_w.toNat + x.pix_w.toNat by rw [Nat.add_mul, Nat.one_mul]])
  simp only [Nat.zero_mul, Nat.zero_add, List.length_range] at main
  have e : x.pix_h.toNat * x.pix_w.toNat = (x.pix_w * x.pix_h).toNat := by
    have : ((x.pix_h.toNat * x.pix_w.toNat : Nat) : Int) = x.pix_w * x.pix_h := by
      rw [Int.natCast_mul, Int.toNat_of_nonneg (by omega), Int.toNat_of_nonneg (by omega), Int.mul_comm]
    omega
  rw [e] at main
  exact main
theorem mean_same {s n : Int} (hn : 0 < n) (h8 : n ≤ 8192) (hs : 0 ≤ s ∧ s ≤ 255 * n) : ∃ m, layer_mean s n = some m ∧ ref19_Mean s n = some m ∧ 0 ≤ m ∧ m ≤ 255 := by
  have hz : ¬ 2 * n = 0 := by omega
  have q0 : 0 ≤ (2 * s + n) / (2 * n) := Int.ediv_nonneg (by omega) (by omega)
  have q1 : (2 * s + n) / (2 * n) < 256 := Int.ediv_lt_of_lt_mul (by omega) (by omega)
  have qm : ¬ (2 * s + n) % (2 * n) < 0 := by have := Int.emod_nonneg (2 * s + n) hz; omega
  refine ⟨(2 * s + n) / (2 * n), ?_, ?_, q0, by omega⟩
  · rw [layer_mean_eq]
    simp only
    rw [w64 (n := 2 * s) (by omega), w64 (n := 2 * s + n) (by omega), w64 (n := 2 * n) (by omega), if_neg hz, tdiv_pos (by omega), w64 (by omega)]
  · rw [ref19_Mean_eq]
    simp only
    rw [w64 (n := 2 * s) (by omega), w64 (n := 2 * s + n) (by omega), w64 (n := 2 * n) (by omega), ref19_Down_eq, if_neg hz, if_neg hz, tdiv_pos (by omega), tmod_pos (by omega)]
    simp only [iteD]
    rw [if_neg qm, w64 (by omega)]
    rfl
def RgbOk (c : Rgb) : Prop := (0 ≤ c.r ∧ c.r ≤ 255) ∧ (0 ≤ c.g ∧ c.g ≤ 255) ∧ (0 ≤ c.b ∧ c.b ≤ 255)
theorem mean_is (hi : ImgOk iw ih r g b) (hx : PlacedOk iw ih x) : ∃ c : Rgb, layer_ink iw ih r g b x.pix_w x.pix_h x.pix_pix x.x x.y = some (c.r, c.g, c.b) ∧ ref22_mean iw ih r g b x.pix_w x.pix_h x.pix_pix x.x x.y = some (c.r, c.g, c.b) ∧ RgbOk c := by
  obtain ⟨⟨pw, pw2⟩, ⟨ph, ph2⟩, wh, hl, hxx, hyy⟩ := shape_small hi hx
  have m0 : 0 ≤ x.pix_w * x.pix_h := Int.mul_nonneg (by omega) (by omega)
  have so := sum_ok hi hx (x.pix_w * x.pix_h).toNat (by omega)
  -- one pixel at least is black
  have pos : 0 < (sumTo iw r g b x.pix_w x.pix_pix x.x x.y (x.pix_w * x.pix_h).toNat).1 := by
    obtain ⟨S, hs, hin⟩ := hx
    obtain ⟨q, s1, f1⟩ := hs.box.hl
    have bi := hs.box.inside _ s1
    have hq : InB x.pix_w x.pix_h (q.1 - x.x, q.2 - x.y) := by unfold InB; simp only; omega
    have hb := hs.black _ hq (by
      have : (x.x + (q.1 - x.x, q.2 - x.y).1, x.y + (q.1 - x.x, q.2 - x.y).2) = q := Prod.ext (by show x.x + (q.1 - x.x) = q.1; omega) (by show x.y + (q.2 - x.y) = q.2; omega)
      rw [this]; exact s1)
    obtain ⟨i0, i1, i2⟩ := ix_in hq
    exact sum_pos hi ⟨S, hs, hin⟩ (j := (ix x.pix_w (q.1 - x.x, q.2 - x.y)).toNat) (by rw [Int.toNat_of_nonneg i1]; exact hb) _ (by omega) (by omega)
  rw [layer_ink_eq, ref22_mean_eq, ink_loop hi hx, mean_loop hi hx]
  simp only [Option.bind_some]
  obtain ⟨⟨n0, n1⟩, s1, s2, s3⟩ := so
  have h8 : (sumTo iw r g b x.pix_w x.pix_pix x.x x.y (x.pix_w * x.pix_h).toNat).1 ≤ 8192 := by omega
  obtain ⟨a, a1, a2, a3⟩ := mean_same pos h8 s1
  obtain ⟨b', b1, b2, b3⟩ := mean_same pos h8 s2
  obtain ⟨c, c1, c2, c3⟩ := mean_same pos h8 s3
  rw [a1, a2, b1, b2, c1, c2]
  exact ⟨⟨a, b', c⟩, rfl, rfl, a3, b3, c3⟩
end
end Go.Proofs.YtmdlomednkfcoaaGreat.P

/- Colours and marks of shapes: the program against its reference; the law of colours. -/
namespace Go.Proofs.YtmdlomednkfcoaaGreat.P
open Go Go.Proofs.YtmdlomednkfcoaaGreat.V
set_option linter.unusedVariables false
set_option linter.unusedSimpArgs false

def dist (c x : Rgb) : Int := max (c.r - x.r) (x.r - c.r) + max (c.g - x.g) (x.g - c.g) + max (c.b - x.b) (x.b - c.b)
theorem dist_small {c x : Rgb} (hc : RgbOk c) (hx : RgbOk x) : 0 ≤ dist c x ∧ dist c x ≤ 1000 := by
  unfold RgbOk at hc hx
  unfold dist
  omega
theorem dist_zero {c x : Rgb} : dist c x = 0 ↔ c.r = x.r ∧ c.g = x.g ∧ c.b = x.b := by unfold dist; omega
theorem far_is {c x : Rgb} (hc : RgbOk c) (hx : RgbOk x) : ref22_far c.r c.g c.b x.r x.g x.b = some (dist c x) := by
  unfold RgbOk at hc hx
  rw [ref22_far_eq]
  simp only [imax_eq]
  rw [w64 (n := c.r - x.r) (by omega), w64 (n := x.r - c.r) (by omega), w64 (n := c.g - x.g) (by omega), w64 (n := x.g - c.g) (by omega), w64 (n := c.b - x.b) (by omega), w64 (n := x.b - c.b) (by omega)]
  rw [w64 (n := max (c.r - x.r) (x.r - c.r) + max (c.g - x.g) (x.g - c.g)) (by omega), w64 (by omega)]
  rfl
/-- the first that is nearest, of the first n -/
def First (c : Rgb) (l : List Rgb) (n : Nat) (best d : Int) : Prop :=
  ∃ (k : Nat) (y : Rgb), best = (k : Int) ∧ k < n ∧ l[k]? = some y ∧ d = dist c y ∧ (∀ (j : Nat) (z : Rgb), j < n → l[j]? = some z → d ≤ dist c z) ∧ ∀ (j : Nat) (z : Rgb), j < k → l[j]? = some z → d < dist c z
theorem First.start {c : Rgb} {l : List Rgb} {x : Rgb} (h : l[0]? = some x) : First c l 1 0 (dist c x) :=
  ⟨0, x, rfl, by decide, h, rfl, fun j z hj hz => (by
    obtain rfl : j = 0 := by omega
    rw [h] at hz; cases hz; exact Int.le_refl _), fun j z hj => absurd hj (Nat.not_lt_zero j)⟩
theorem First.less {c : Rgb} {l : List Rgb} {n : Nat} {best d : Int} {x : Rgb} (h : First c l n best d) (hx : l[n]? = some x) (hlt : dist c x < d) : First c l (n + 1) (n : Int) (dist c x) := by
  obtain ⟨k, y, rfl, hk, hy, rfl, h1, h2⟩ := h
  refine ⟨n, x, rfl, by omega, hx, rfl, fun j z hj hz => ?_, fun j z hj hz => Int.lt_of_lt_of_le hlt (h1 j z hj hz)⟩
  rcases Nat.lt_or_ge j n with q | q
  · have := h1 j z q hz; omega
  · obtain rfl : j = n := by omega
    rw [hx] at hz; cases hz; exact Int.le_refl _
theorem First.more {c : Rgb} {l : List Rgb} {n : Nat} {best d : Int} {x : Rgb} (h : First c l n best d) (hx : l[n]? = some x) (hge : ¬ dist c x < d) : First c l (n + 1) best d := by
  obtain ⟨k, y, rfl, hk, hy, rfl, h1, h2⟩ := h
  refine ⟨k, y, rfl, by omega, hy, rfl, fun j z hj hz => ?_, h2⟩
  rcases Nat.lt_or_ge j n with q | q
  · exact h1 j z q hz
  · obtain rfl : j = n := by omega
    rw [hx] at hz; cases hz; omega
theorem First.unique {c : Rgb} {l : List Rgb} {n : Nat} {b d b' d' : Int} (h : First c l n b d) (h' : First c l n b' d') : b = b' ∧ d = d' := by
  obtain ⟨k, y, rfl, hk, hy, rfl, h1, h2⟩ := h
  obtain ⟨k', y', rfl, hk', hy', rfl, h1', h2'⟩ := h'
  have a1 := h1 k' y' hk' hy'
  have a2 := h1' k y hk hy
  rcases Nat.lt_trichotomy k k' with q | q | q
  · have := h2' k y q hy; omega
  · subst q; exact ⟨rfl, by omega⟩
  · have := h2 k' y' q hy'; omega
theorem best_is {c : Rgb} {l : List Rgb} (hc : RgbOk c) (hl : ∀ x ∈ l, RgbOk x) (hn : l.length ≤ 100) : ∃ best, loop (ref22_Colours_loop11 l c.r c.g c.b) (-1, 0) = some best ∧ (l = [] ∧ best = -1 ∨ ∃ d, First c l l.length best d) := by
  have lo := ref22_Colours_loop11_over l c.r c.g c.b (by omega) (-1)
  rw [lo]
  obtain ⟨best, e1, e2⟩ := overL_keep (step := ref22_Colours_loop11_step l c.r c.g c.b) (fun n (best : Int) => n = 0 ∧ best = -1 ∨ ∃ d, First c l n best d) l 0 (-1) (.inl ⟨rfl, rfl⟩) (fun n x best hk hP => by
    rw [Nat.zero_add] at hP ⊢
    have hx := hl x (List.mem_of_getElem? hk)
    have hlt := lt_len_of_get hk
    unfold ref22_Colours_loop11_step
    simp only [Int.toNat_natCast, hk, Option.bind_some, iteD]
    rcases hP with ⟨rfl, rfl⟩ | ⟨d, hf⟩
    · rw [if_pos (by decide)]
      exact ⟨_, rfl, .inr ⟨_, First.start hk⟩⟩
    · have hf' := hf
      obtain ⟨k, y, rfl, hk', hy, rfl, h1, h2⟩ := hf'
      rw [if_neg (by omega), far_is hc hx]
      simp only [Option.bind_some, Int.toNat_natCast, hy]
      rw [if_pos (by omega), far_is hc (hl y (List.mem_of_getElem? hy))]
      simp only [Option.bind_some]
      by_cases q : dist c x < dist c y
      · rw [if_pos q]
        exact ⟨_, rfl, .inr ⟨_, hf.less hk q⟩⟩
      · rw [if_neg q]
        exact ⟨_, rfl, .inr ⟨_, hf.more hk q⟩⟩)
  refine ⟨best, e1, ?_⟩
  rw [Nat.zero_add] at e2
  rcases e2 with ⟨h1, h2⟩ | h
  · exact .inl ⟨List.length_eq_zero_iff.1 h1, h2⟩
  · exact .inr h
theorem nearest_is {c : Rgb} {l : List Rgb} (hc : RgbOk c) (hl : ∀ x ∈ l, RgbOk x) (hn : l.length ≤ 100) (hne : l ≠ []) : ∃ best d, layer_nearest l c.r c.g c.b = some best ∧ First c l l.length best d := by
  rw [layer_nearest_eq]
  have lo := layer_nearest_loop3_over l c.r c.g c.b (by omega) (0, -1)
  simp only at lo
  rw [lo]
  have key : ∀ x ∈ l, ∀ (i : Nat) (s : Int × Int), layer_nearest_loop3_step c.r c.g c.b i x s = if s.2 < 0 then some (Sum.inl ((i : Int), dist c x)) else if dist c x < s.2 then some (Sum.inl ((i : Int), dist c x)) else some (Sum.inl s) := by
    intro x hx i s
    have hx := hl x hx
    have ds := dist_small hc hx
    unfold RgbOk at hc hx
    unfold layer_nearest_loop3_step
    simp only [layer_abs_eq, imax_eq, Option.bind_some, iteD]
    rw [w64 (n := x.r - c.r) (by omega), w64 (n := x.g - c.g) (by omega), w64 (n := x.b - c.b) (by omega), w64 (n := 0 - (x.r - c.r)) (by omega), w64 (n := 0 - (x.g - c.g)) (by omega), w64 (n := 0 - (x.b - c.b)) (by omega)]
    rw [w64 (n := max (x.r - c.r) (0 - (x.r - c.r)) + max (x.g - c.g) (0 - (x.g - c.g))) (by omega), w64 (n := max (x.r - c.r) (0 - (x.r - c.r)) + max (x.g - c.g) (0 - (x.g - c.g)) + max (x.b - c.b) (0 - (x.b - c.b))) (by omega)]
    have e : max (x.r - c.r) (0 - (x.r - c.r)) + max (x.g - c.g) (0 - (x.g - c.g)) + max (x.b - c.b) (0 - (x.b - c.b)) = dist c x := by unfold dist; omega
    rw [e]
  -- the loop keeps the best
  have run : ∀ (m : List Rgb) (n : Nat) (s : Int × Int), l.drop n = m → (n = 0 ∧ s = (0, -1) ∨ First c l n s.1 s.2) → ∃ best d, overL (layer_nearest_loop3_step c.r c.g c.b) (fun s => some s.1) n m s = some best ∧ (l.length = 0 ∨ First c l l.length best d) := by
    intro m
    induction m with
    | nil =>
      intro n s hd hP
      have hln : l.length ≤ n := by
        have := congrArg List.length hd
        rw [List.length_drop, List.length_nil] at this
        omega
      refine ⟨s.1, s.2, rfl, ?_⟩
      rcases hP with ⟨rfl, _⟩ | hf
      · exact .inl (by omega)
      · obtain ⟨k, y, e, hk, hy, hd', h1, h2⟩ := hf
        exact .inr ⟨k, y, e, lt_len_of_get hy, hy, hd', fun j z hj hz => h1 j z (by omega) hz, h2⟩
    | cons x m ih =>
      intro n s hd hP
      have hget : l[n]? = some x := by
        have : (l.drop n)[0]? = some x := by rw [hd]; rfl
        simpa using this
      have hd' : l.drop (n + 1) = m := by rw [← List.drop_drop, hd]; rfl
      have hx := List.mem_of_getElem? hget
      have ds := dist_small hc (hl x hx)
      have hk := key x hx n s
      rcases hP with ⟨rfl, rfl⟩ | hf
      · rw [if_pos (by decide)] at hk
        rw [overL_next hk]
        exact ih _ _ hd' (.inr (First.start hget))
      · have hs2 : ¬ s.2 < 0 := by
          obtain ⟨k, y, e, hk, hy, hd', h1, h2⟩ := hf
          have := dist_small hc (hl y (List.mem_of_getElem? hy))
          omega
        rw [if_neg hs2] at hk
        by_cases q : dist c x < s.2
        · rw [if_pos q] at hk
          rw [overL_next hk]
          exact ih _ _ hd' (.inr (hf.less hget q))
        · rw [if_neg q] at hk
          rw [overL_next hk]
          exact ih _ _ hd' (.inr (hf.more hget q))
  obtain ⟨best, d, e1, e2⟩ := run l 0 (0, -1) rfl (.inl ⟨rfl, rfl⟩)
  have e1' : overL (layer_nearest_loop3_step c.r c.g c.b) (fun (s23 : Int × Int) => let best24 := s23.1; let least25 := s23.2; some best24) 0 l (0, -1) = some best := e1
  simp only at e1'
  rw [e1']
  refine ⟨best, d, rfl, e2.resolve_left fun h => hne (List.length_eq_zero_iff.1 h)⟩
theorem index_is {c : Rgb} {l : List Rgb} (hn : l.length ≤ 100) : (∀ (k : Nat) (x : Rgb), l[k]? = some x → dist c x ≠ 0) ∧ slices_Index_api_Rgb_api_Rgb l c.r c.g c.b = some (-1)
    ∨ ∃ (k : Nat), slices_Index_api_Rgb_api_Rgb l c.r c.g c.b = some (k : Int) ∧ ∃ x, l[k]? = some x ∧ dist c x = 0 ∧ ∀ (j : Nat) (y : Rgb), j < k → l[j]? = some y → dist c y ≠ 0 := by
  rw [slices_Index_api_Rgb_api_Rgb_eq, slices_Index_api_Rgb_api_Rgb_loop2_over l c.r c.g c.b (by omega) ()]
  rcases overL_find (Q := fun x : Rgb => dist c x = 0) (step := slices_Index_api_Rgb_api_Rgb_loop2_step c.r c.g c.b) (fin := fun _ => some (Sum.inl ())) (fun k => Sum.inr ((k : Nat) : Int)) l 0 (fun k x hk => by
    unfold slices_Index_api_Rgb_api_Rgb_loop2_step
    by_cases q : dist c x = 0
    · obtain ⟨q1, q2, q3⟩ := dist_zero.1 q
      exact .inr ⟨q, by simp [q1, q2, q3]⟩
    · refine .inl ⟨q, ?_⟩
      have : ¬ (c.r = x.r ∧ c.g = x.g ∧ c.b = x.b) := fun h => q (dist_zero.2 h)
      rw [if_neg]
      simp only [Bool.and_true, Bool.and_eq_true, decide_eq_true_eq]
      exact this) with ⟨g1, g2⟩ | ⟨k, x, g1, g2, g3, g4⟩
  · rw [g2]
    exact .inl ⟨g1, rfl⟩
  · rw [g4]
    refine .inr ⟨k, ?_, x, g1, g2, g3⟩
    simp

/-! ### One shape -/
theorem colour_step {iw ih n : Int} {r g b : List Int} {x : Placed} (hi : ImgOk iw ih r g b) (hx : PlacedOk iw ih x) (hn : 1 ≤ n ∧ n ≤ 16) {l : List Rgb} {marks : List Int} {k : Nat} (hl : ∀ x ∈ l, RgbOk x) (hln : (l.length : Int) ≤ n) (hm : marks.length ≤ k) (hk : k ≤ 10000) :
    ∃ l' marks', layer_Colours_loop9_step iw ih r g b n k x (l, marks) = some (.inl (l', marks')) ∧ ref22_Colours_loop6_step iw ih r g b n k x (l, marks) = some (.inl (l', marks')) ∧ (∀ x ∈ l', RgbOk x) ∧ (l'.length : Int) ≤ n ∧ marks'.length ≤ k + 1 := by
  obtain ⟨c, e1, e2, hc⟩ := mean_is hi hx
  unfold layer_Colours_loop9_step ref22_Colours_loop6_step
  simp only
  rw [e1, e2]
  simp only [Option.bind_some]
  have lo : l.length ≤ 100 := by omega
  obtain ⟨best, b1, b2⟩ := best_is hc hl lo
  rw [b1]
  simp only [Option.bind_some, iteD, List.length_singleton]
  have app : ∀ y ∈ l ++ [(⟨c.r, c.g, c.b⟩ : Rgb)], RgbOk y := fun y hy => by
    rcases List.mem_append.1 hy with q | q
    · exact hl y q
    · rw [List.mem_singleton] at q; subst q; exact hc
  have al : (l.length + 1) * 24 ≤ 140737488355328 := by omega
  have ml : (marks.length + 1) * 8 ≤ 140737488355328 := by omega
  -- a colour that is new
  have hnew : (l.length : Int) < n → ∃ l' marks', l' = l ++ [(⟨c.r, c.g, c.b⟩ : Rgb)] ∧ marks' = marks ++ [(l.length : Int)] ∧ (∀ x ∈ l', RgbOk x) ∧ (l'.length : Int) ≤ n ∧ marks'.length ≤ k + 1 := fun h => ⟨_, _, rfl, rfl, app, by rw [List.length_append, List.length_singleton]; omega, by rw [List.length_append, List.length_singleton]; omega⟩
  have elen : IntKind.i64.wrap ((((l ++ [(⟨c.r, c.g, c.b⟩ : Rgb)]).length : Nat) : Int) - 1) = (l.length : Int) := by
    rw [List.length_append, List.length_singleton, w64 (by omega)]; omega
  rcases index_is (c := c) lo with ⟨i1, i2⟩ | ⟨m, i2, y, i3, i4, i5⟩
  · -- no colour is the same
    rw [i2]
    simp only [Option.bind_some, show (-1 : Int) < 0 by decide, if_true]
    rcases b2 with ⟨rfl, rfl⟩ | ⟨d, hf⟩
    · have h0 : (([] : List Rgb).length : Int) < n := by simp; omega
      obtain ⟨l', marks', rfl, rfl, q1, q2, q3⟩ := hnew h0
      simp only [h0, decide_true, if_true, show (-1 : Int) < 0 by decide, Option.bind_some]
      rw [if_pos al, if_pos al]
      simp only [Option.bind_some]
      rw [elen, if_pos ml]
      exact ⟨_, _, rfl, rfl, q1, q2, q3⟩
    · have hf' := hf
      obtain ⟨j, y, rfl, hj, hy, rfl, h1, h2⟩ := hf'
      have hyok := hl y (List.mem_of_getElem? hy)
      have dpos : dist c y > 0 := by have := dist_small hc hyok; have := i1 j y hy; omega
      have hne : l ≠ [] := fun h => by rw [h] at hj; simp at hj
      have jn : ¬ ((j : Nat) : Int) < 0 := by omega
      have jr : (0 ≤ ((j : Nat) : Int) ∧ ((j : Nat) : Int) < (l.length : Int)) = True := eq_true (by omega)
      simp only [jn, if_false, jr, if_true, Int.toNat_natCast, hy, Option.bind_some, far_is hc hyok, dpos]
      by_cases hlt : (l.length : Int) < n
      · obtain ⟨l', marks', rfl, rfl, q1, q2, q3⟩ := hnew hlt
        simp only [hlt, decide_true, if_true, Option.bind_some]
        rw [if_pos al, if_pos al]
        simp only [Option.bind_some]
        rw [elen, if_pos ml]
        exact ⟨_, _, rfl, rfl, q1, q2, q3⟩
      · obtain ⟨best', d', n1, n2⟩ := nearest_is hc hl lo hne
        obtain ⟨u1, u2⟩ := n2.unique hf
        simp only [hlt, decide_false, Bool.false_eq_true, if_false, n1, u1, Option.bind_some]
        rw [if_pos ml]
        exact ⟨_, _, rfl, rfl, hl, hln, by rw [List.length_append, List.length_singleton]; omega⟩
  · -- a colour is the same
    rw [i2]
    have mn : ¬ ((m : Nat) : Int) < 0 := by omega
    have hlt := lt_len_of_get i3
    rcases b2 with ⟨rfl, _⟩ | ⟨d, hf⟩
    · simp at hlt
    · have hf' := hf
      obtain ⟨j, z, rfl, hj, hz, rfl, h1, h2⟩ := hf'
      have hzok := hl z (List.mem_of_getElem? hz)
      have dz : dist c z = 0 := by have := h1 m y hlt i3; have := dist_small hc hzok; omega
      have hjm : j = m := by
        rcases Nat.lt_trichotomy j m with q | q | q
        · exact absurd dz (i5 j z q hz)
        · exact q
        · have := h2 m y q i3; omega
      subst hjm
      have jr : (0 ≤ ((j : Nat) : Int) ∧ ((j : Nat) : Int) < (l.length : Int)) = True := eq_true (by omega)
      have dn : ¬ dist c z > 0 := by omega
      simp only [mn, if_false, jr, if_true, Int.toNat_natCast, hz, Option.bind_some, far_is hc hzok, dn, decide_false, Bool.false_eq_true]
      rw [if_pos ml]
      exact ⟨_, _, rfl, rfl, hl, hln, by rw [List.length_append, List.length_singleton]; omega⟩
end Go.Proofs.YtmdlomednkfcoaaGreat.P

/- The law of colours and marks. -/
namespace Go.Proofs.YtmdlomednkfcoaaGreat.P
open Go Go.Proofs.YtmdlomednkfcoaaGreat.V
set_option linter.unusedVariables false
set_option linter.unusedSimpArgs false

theorem awake22 : law22_Awake = some true := law22_Awake_F_le 300 _ (by kernel_rfl)
theorem good_len {k : IntKind} {l : List Int} (h : V.Good E (.ints k l)) : l.length ≤ 9223372036854775807 := by
  cases h with
  | ints _ hp => exact hp
theorem good_pos {l : List Int} (h : V.Good E (.ints .u8 l)) : ∀ x ∈ l, 0 ≤ x := by
  cases h with
  | ints h _ => intro x hx; have := h x hx; simp [IntKind.has, IntKind.min, IntKind.max, IntKind.signed, IntKind.bits] at this; omega
theorem rightMask_is {iw ih mw mh : Int} {r g b p : List Int} (hl : p.length ≤ 9223372036854775807) : layer_rightMask iw ih r g b mw mh p = some (decide (bmpB mw mh p = true ∧ (mw = 0 ∧ mh = 0 ∨ mw = iw ∧ mh = ih))) := by
  rw [layer_rightMask_eq, bitmapValid_is hl]
  simp only [Option.bind_some, iteD]
  by_cases h0 : bmpB mw mh p = true
  · rw [if_pos h0]
    repeat' split
    all_goals
      refine some_dec ?_
      simp only [decide_eq_true_eq, Bool.false_eq_true, true_iff, false_iff, h0, true_and]
      omega
  · rw [if_neg h0]
    refine some_dec ?_
    simp only [Bool.false_eq_true, false_iff]
    exact fun h => h0 h.1
theorem asked_is {iw ih mw mh n : Int} {r g b p : List Int} {v : Bool} (hv : ref19_Valid iw ih r g b = some v) (hl : p.length ≤ 9223372036854775807) :
    ref22_asked iw ih r g b mw mh p n = some (if v = true then (if (bmpB mw mh p = true ∧ (mw = 0 ∧ mh = 0 ∨ mw = iw ∧ mh = ih)) ∧ 1 ≤ n ∧ n ≤ 16 then 0 else 2) else 75) := by
  rw [ref22_asked_eq, hv, IsBitmap_is hl, ref22_none_eq]
  simp only [Option.bind_some]
  cases v with
  | false => rfl
  | true =>
    simp only [Bool.not_true, Bool.false_eq_true, if_false, if_true]
    by_cases h0 : bmpB mw mh p = true
    · simp only [h0, Bool.not_true, Bool.false_eq_true, if_false, true_and]
      have e : ((if decide (mw = 0) = true then some (decide (mh = 0)) else some false) : Option Bool) = some (decide (mw = 0 ∧ mh = 0)) := by
        simp only [iteD]
        split
        · refine some_dec ?_; simp only [decide_eq_true_eq]; omega
        · refine some_dec ?_; simp only [Bool.false_eq_true, false_iff]; omega
      rw [e]
      simp only [Option.bind_some, iteND, iteD]
      by_cases c0 : mw = 0 ∧ mh = 0
      · rw [if_pos c0]
        by_cases c3 : n < 1
        · rw [if_pos c3, if_neg (by omega)]
        · by_cases c4 : n > 16
          · rw [if_neg c3, if_pos c4, if_neg (by omega)]
          · rw [if_neg c3, if_neg c4, if_pos (by omega)]
      · rw [if_neg c0]
        by_cases c1 : mw = iw
        · rw [if_pos c1]
          by_cases c2 : mh = ih
          · rw [if_pos c2]
            by_cases c3 : n < 1
            · rw [if_pos c3, if_neg (by omega)]
            · by_cases c4 : n > 16
              · rw [if_neg c3, if_pos c4, if_neg (by omega)]
              · rw [if_neg c3, if_neg c4, if_pos (by omega)]
          · rw [if_neg c2, if_neg (by omega)]
        · rw [if_neg c1, if_neg (by omega)]
    · have hf : bmpB mw mh p = false := by simpa using h0
      simp [hf]
theorem colours_is {iw ih mw mh n : Int} {r g b p : List Int} (hr : r.length ≤ 9223372036854775807) (hg : g.length ≤ 9223372036854775807) (hb : b.length ≤ 9223372036854775807) (hp : ∀ x ∈ p, 0 ≤ x) (hl : p.length ≤ 9223372036854775807) :
    ∃ l marks e, layer_Colours iw ih r g b mw mh p n = some (l, marks, e) ∧ ref22_Colours iw ih r g b mw mh p n = some (l, marks, e) ∧ l.length ≤ 100 ∧ marks.length ≤ 10000 ∧ (e = 0 → (l.length : Int) ≤ n) := by
  obtain ⟨v, v1, v2, v3⟩ := imageValid_is (w := iw) (h := ih) hr hg hb
  rw [layer_Colours_eq, ref22_Colours_eq, v1, asked_is v2 hl, rightMask_is hl]
  simp only [Option.bind_some]
  cases v with
  | false => exact ⟨[], [], 75, rfl, rfl, by simp, by simp, fun h => by simp at h⟩
  | true =>
    have hi := v3 rfl
    simp only [Bool.not_true, Bool.false_eq_true, if_false, if_true]
    by_cases hq : bmpB mw mh p = true ∧ (mw = 0 ∧ mh = 0 ∨ mw = iw ∧ mh = ih)
    · by_cases hn : 1 ≤ n ∧ n ≤ 16
      · have n1 : ¬ n < 1 := by omega
        have n2 : ¬ n > 16 := by omega
        have hq' := eq_true hq
        simp only [hq', n1, n2, hn, and_self, decide_true, decide_false, Bool.not_true, Bool.false_eq_true, if_false, if_true, Option.bind_some, Sum.elim_inl]
        obtain ⟨L, e, c1, c2, c3⟩ := components_is (w := mw) (h := mh) hp hl
        obtain ⟨c4, c5⟩ := c3 hq.1
        rw [c1, c2]
        simp only [Option.bind_some]
        have l1 := layer_Colours_loop9_over iw ih r g b n L (by omega) ([], [])
        have l2 := ref22_Colours_loop6_over iw ih r g b n L (by omega) ([], [])
        simp only at l1 l2
        rw [l1, l2]
        have placed : ∀ x ∈ L, PlacedOk iw ih x := fun x hx => by
          obtain ⟨S, hs, hin⟩ := c5 x hx
          refine ⟨S, hs, fun q hS => ?_⟩
          have := hin q hS
          unfold InB at this ⊢
          rcases hq.2 with ⟨z1, z2⟩ | ⟨z1, z2⟩ <;> omega
        have main := overL_both (f := layer_Colours_loop9_step iw ih r g b n) (g := ref22_Colours_loop6_step iw ih r g b n) (fin := fun s => some (s.1, s.2)) (fin' := fun s => some (s.1, s.2)) (fun k s t => s = t ∧ (∀ x ∈ s.1, RgbOk x) ∧ (s.1.length : Int) ≤ n ∧ s.2.length ≤ k) (fun s t => s = t ∧ (s.1.length : Int) ≤ n ∧ s.2.length ≤ 8192) L 0 ([], []) ([], [])
          (fun k x s t hk hr' => by
            have hlt := lt_len_of_get hk
            rw [Nat.zero_add] at hr' ⊢
            obtain ⟨rfl, a1, a2, a3⟩ := hr'
            obtain ⟨l, marks⟩ := s
            obtain ⟨l', marks', s1, s2, s3, s4, s5⟩ := colour_step hi (placed x (List.mem_of_getElem? hk)) hn a1 a2 a3 (by omega)
            rw [s1, s2]
            exact .mk ⟨rfl, s3, s4, s5⟩) (fun s t hr' => by
            obtain ⟨rfl, a1, a2, a3⟩ := hr'
            rw [Nat.zero_add] at a3
            exact .mk ⟨rfl, a2, by show s.2.length ≤ 8192; omega⟩) ⟨rfl, by simp, by simp; omega, by simp⟩
        obtain ⟨⟨l, marks⟩, _, m1, m2, rfl, m3, m4⟩ := main
        rw [m1, m2]
        simp only at m3 m4
        exact ⟨l, marks, 0, rfl, rfl, by omega, by omega, fun _ => m3⟩
      · have hn' : ¬ ((bmpB mw mh p = true ∧ (mw = 0 ∧ mh = 0 ∨ mw = iw ∧ mh = ih)) ∧ 1 ≤ n ∧ n ≤ 16) := fun h => hn h.2
        rw [if_neg hn']
        have e : ((if decide (n < 1) = true then some true else some (decide (n > 16))) : Option Bool) = some true := by
          simp only [iteD]
          split
          · rfl
          · have : n > 16 := by omega
            simp [this]
        simp only [hq, and_self, decide_true, Bool.not_true, Bool.false_eq_true, if_false]
        rw [e]
        exact ⟨[], [], 2, rfl, rfl, by simp, by simp, fun h => by simp at h⟩
    · have hn' : ¬ ((bmpB mw mh p = true ∧ (mw = 0 ∧ mh = 0 ∨ mw = iw ∧ mh = ih)) ∧ 1 ≤ n ∧ n ≤ 16) := fun h => hq h.1
      rw [if_neg hn']
      simp only [hq, decide_false, Bool.not_false, if_true]
      exact ⟨[], [], 2, rfl, rfl, by simp, by simp, fun h => by simp at h⟩
theorem sameInts_is {l : List Int} (hl : l.length ≤ 10000) : ref02_SameInts l l = some true := by
  rw [ref02_SameInts_eq]
  simp only [decide_true, Bool.not_true, Bool.false_eq_true, if_false]
  rw [ref02_SameInts_loop4_over l l (by omega) ()]
  rw [overL_inv (f := ref02_SameInts_loop4_step l) (fun _ => ()) l 0 (fun k x hk => by
    have hlt := lt_len_of_get hk
    have hr := rd_nat hk
    rw [Nat.zero_add]
    unfold ref02_SameInts_loop4_step
    rw [if_pos (by omega), hr]
    simp)]
  rfl
theorem layerColours_true (i1 i2 : Int) (i3 i4 i5 : List Int) (m1 m2 : Int) (m3 : List Int) (n : Int) (h0 : GoodP E (.agg [.int .i64 i1, .int .i64 i2, .ints .i64 i3, .ints .i64 i4, .ints .i64 i5])) (h1 : GoodP E (.agg [.int .i64 m1, .int .i64 m2, .ints .u8 m3])) (h2 : GoodP E (.int .i64 n)) :
    law22_LayerColours i1 i2 i3 i4 i5 m1 m2 m3 n = some true := by
  obtain ⟨_, _, g3, g4, g5, _⟩ := h0
  obtain ⟨_, _, q3, _⟩ := h1
  rw [law22_LayerColours_eq, awake22]
  have e0 : ∃ b : Bool, ((if decide (((i3.length : Nat) : Int) > 2500) = true then some true else some (decide (((m3.length : Nat) : Int) > 2500))) : Option Bool) = some b := by
    split
    · exact ⟨_, rfl⟩
    · exact ⟨_, rfl⟩
  obtain ⟨bb, eb⟩ := e0
  rw [eb]
  simp only [Option.bind_some]
  cases bb with
  | true => rfl
  | false =>
    obtain ⟨l, marks, e, c1, c2, c3, c4, c5⟩ := colours_is (iw := i1) (ih := i2) (mw := m1) (mh := m2) (n := n) (good_len g3) (good_len g4) (good_len g5) (good_pos q3) (good_len q3)
    rw [c1, c2]
    simp only [Option.bind_some, Bool.false_eq_true, if_false, decide_true, Bool.not_true, sameInts_is c4]
    rw [law22_LayerColours_loop8_over l l (by omega) ()]
    rw [overL_inv (f := law22_LayerColours_loop8_step l) (fun _ => ()) l 0 (fun k x hk => by
      rw [Nat.zero_add]
      unfold law22_LayerColours_loop8_step
      rw [if_pos (by omega), Int.toNat_natCast, hk]
      simp)]
    simp only [Option.bind_some, Sum.elim_inl, iteND, iteD]
    by_cases he : e = 0
    · rw [if_pos he, if_pos (c5 he)]
    · rw [if_neg he]
end Go.Proofs.YtmdlomednkfcoaaGreat.P
