/- Generic regions: pixels' contexts, rows that are the same, and what is put: the program against its reference. -/
import Derived.Test.YtkccnhkhjncpkaaGreatPureBmp
namespace Go.Proofs.YtkccnhkhjncpkaaGreat.P
open Go Go.Proofs.YtkccnhkhjncpkaaGreat.V
set_option linter.unusedVariables false
set_option linter.unusedSimpArgs false

/-! ### Loops through lists -/
theorem overL_both {X S S' A A' : Type} {f : Nat → X → S → Option (S ⊕ A)} {g : Nat → X → S' → Option (S' ⊕ A')} {fin : S → Option A} {fin' : S' → Option A'} (R : Nat → S → S' → Prop) (Q : A → A' → Prop) :
    ∀ (l : List X) (n : Nat) (s : S) (t : S'), (∀ k x s t, l[k]? = some x → R (n + k) s t → Both (f (n + k) x s) (g (n + k) x t) (StepTo (R (n + k + 1)) Q)) → (∀ s t, R (n + l.length) s t → Both (fin s) (fin' t) Q) →
      R n s t → Both (overL f fin n l s) (overL g fin' n l t) Q
  | [], n, s, t, _, hf, hr => by rw [overL_nil, overL_nil]; exact hf s t hr
  | x :: l, n, s, t, h, hf, hr => by
    obtain ⟨a, b, h1, h2, hp⟩ := h 0 x s t rfl hr
    rw [Nat.add_zero] at h1 h2 hp
    cases a with
    | inl s' =>
      cases b with
      | inl t' =>
        rw [overL_next h1, overL_next h2]
        refine overL_both R Q l (n + 1) s' t' (fun k x s t hk hr => ?_) (fun s t hr => hf s t (by rw [List.length_cons]; rwa [show n + (l.length + 1) = n + 1 + l.length by omega])) hp
        have := h (k + 1) x s t (by simpa using hk) (by rwa [show n + (k + 1) = n + 1 + k by omega])
        rwa [show n + (k + 1) = n + 1 + k by omega] at this
      | inr b => exact hp.elim
    | inr a =>
      cases b with
      | inl _ => exact hp.elim
      | inr b => rw [overL_exit h1, overL_exit h2]; exact .mk hp
/-- a loop that always goes on -/
theorem overL_inv {X S A : Type} {f : Nat → X → S → Option (S ⊕ A)} {fin : S → Option A} (F : Nat → S) : ∀ (l : List X) (n : Nat), (∀ k x, l[k]? = some x → f (n + k) x (F (n + k)) = some (.inl (F (n + k + 1)))) → overL f fin n l (F n) = fin (F (n + l.length))
  | [], n, _ => by rw [overL_nil]; rfl
  | x :: l, n, h => by
    have h0 := h 0 x rfl
    rw [Nat.add_zero] at h0
    rw [overL_next h0, overL_inv F l (n + 1) (fun k x hk => ?_), List.length_cons, show n + (l.length + 1) = n + 1 + l.length by omega]
    have := h (k + 1) x (by simpa using hk)
    rwa [show n + (k + 1) = n + 1 + k by omega] at this

/-! ### Contexts -/
theorem plane_at_is {w h : Int} {p : List Int} {ar : List Arr2} (hb : Bmp w h p) (x y : Int) : generic_plane_at x y w h p ar = some (pixA w h p x y, w, h, p, ar) := by
  have hb' := hb
  obtain ⟨h0, h1, h2, h3, h4, h5, h6⟩ := hb
  rw [generic_plane_at_eq]
  unfold pixA
  by_cases q : 0 ≤ x ∧ 0 ≤ y ∧ x < w ∧ y < h
  · obtain ⟨a0, a1, a2⟩ := idx_in q.1 q.2.2.1 q.2.1 q.2.2.2
    obtain ⟨q0, q1, q2, q3⟩ := q
    have e : ((if decide (x < 0) = true then some true else if decide (y < 0) = true then some true else if decide (x ≥ w) = true then some true else some (decide (y ≥ h))) : Option Bool) = some false := by
      rw [if_neg (by simp; omega), if_neg (by simp; omega), if_neg (by simp; omega)]; simp; omega
    have hr : (if 0 ≤ x ∧ 0 ≤ y ∧ x < w ∧ y < h then rd p (y * w + x) else 0) = rd p (y * w + x) := if_pos ⟨q0, q1, q2, q3⟩
    rw [e, hr]
    simp only [Option.bind_some, Bool.false_eq_true, if_false]
    rw [w64 (n := y * w) (by omega), w64 (n := y * w + x) (by omega), if_pos (by omega)]
  · have e : ((if decide (x < 0) = true then some true else if decide (y < 0) = true then some true else if decide (x ≥ w) = true then some true else some (decide (y ≥ h))) : Option Bool) = some true := by
      simp only [iteD]
      by_cases q0 : x < 0
      · rw [if_pos q0]
      · by_cases q1 : y < 0
        · rw [if_neg q0, if_pos q1]
        · by_cases q2 : x ≥ w
          · rw [if_neg q0, if_neg q1, if_pos q2]
          · rw [if_neg q0, if_neg q1, if_neg q2]; simp; omega
    rw [e, if_neg q]
    simp

def tmplL (t : Int) : List (Int × Int) :=
  if t = 0 then [(-1, -2), (0, -2), (1, -2), (-2, -1), (-1, -1), (0, -1), (1, -1), (2, -1), (-2, 0), (-1, 0)]
  else if t = 1 then [(-1, -2), (0, -2), (-1, -1), (0, -1), (1, -1), (-2, 0), (-1, 0)]
  else if t = 2 then [(-2, -1), (-1, -1), (0, -1), (1, -1), (2, -1), (-2, 0), (-1, 0)]
  else [(-1, -1), (0, -1), (1, -1), (-1, 0)]
def ar2 (d : Int × Int) : Arr2 := ⟨d.1, d.2⟩
def px2 (d : Int × Int) : Pixel := ⟨d.1, d.2⟩
theorem tmplL_small (t : Int) : (tmplL t).length ≤ 10 ∧ ∀ d ∈ tmplL t, -8 ≤ d.1 ∧ d.1 ≤ 8 ∧ -8 ≤ d.2 ∧ d.2 ≤ 8 := by
  unfold tmplL
  split
  · decide
  · split
    · decide
    · split <;> decide
theorem pixels_is (t : Int) : generic_pixels t = some ((tmplL t).map ar2) := by
  rw [generic_pixels_eq]
  unfold tmplL
  simp only [iteD]
  by_cases h0 : t = 0
  · simp [h0, ar2]
  · by_cases h1 : t = 1
    · simp [h1, ar2]
    · by_cases h2 : t = 2
      · simp [h2, ar2]
      · simp [h0, h1, h2, ar2]
theorem template_is (t : Int) : ref07_template t = some ((tmplL t).map px2) := by
  rw [ref07_template_eq]
  unfold tmplL
  simp only [iteD]
  by_cases h0 : t = 0
  · simp [h0, px2]
  · by_cases h1 : t = 1
    · simp [h1, px2]
    · by_cases h2 : t = 2
      · simp [h2, px2]
      · simp [h0, h1, h2, px2]
/-- how many contexts there are, without the last one -/
def ctxN (t : Int) : Int := 2 ^ ((tmplL t).length + 1)
theorem ctxN_small (t : Int) : 0 < ctxN t ∧ ctxN t ≤ 2048 := by
  unfold ctxN tmplL
  split
  · decide
  · split
    · decide
    · split <;> decide
theorem contexts_is (t o2 o3 : Int) (o4 : Bool) (o5 : Int) : generic_contexts t o2 o3 o4 o5 = some (ctxN t) := by
  rw [generic_contexts_eq, pixels_is]
  simp only [Option.bind_some, List.length_map]
  rw [if_neg (by omega)]
  congr 1
  unfold ctxN tmplL
  split
  · decide
  · split
    · decide
    · split <;> decide
/-- all offsets of a context -/
def offs (t a b : Int) : List (Int × Int) := tmplL t ++ [(a, b)]
theorem offs_len (t a b : Int) : (offs t a b).length = (tmplL t).length + 1 := by simp [offs]
theorem rpixels_is (t a b : Int) (o4 : Bool) (o5 : Int) : ref07_pixels t a b o4 o5 = some ((offs t a b).map px2) := by
  rw [ref07_pixels_eq, template_is]
  have := (tmplL_small t).1
  simp only [Option.bind_some, List.length_map, List.length_singleton]
  rw [if_pos (by decide), if_pos (by decide), if_pos (by omega)]
  simp [offs, px2]
theorem newPlane_is {t a b w h : Int} {o4 : Bool} {o5 : Int} (hs : sidesB w h = true) : generic_newPlane t a b o4 o5 w h = some (w, h, List.replicate (w * h).toNat 0, (offs t a b).map ar2) := by
  obtain ⟨h0, h1, h2, h3, h4⟩ := sidesB_iff.1 hs
  obtain ⟨m0, m1⟩ := mul_small h0 h1 h2 h3
  have := (tmplL_small t).1
  rw [generic_newPlane_eq, w64 (n := w * h) (by omega), pixels_is]
  simp only [Option.bind_some, List.length_map, List.length_singleton]
  rw [if_pos (by omega), if_pos (by omega)]
  simp [offs, ar2]

/-- the context of a pixel -/
def ctxV (w h : Int) (p : List Int) (x y : Int) : List (Int × Int) → Int → Int
  | [], n => n
  | d :: l, n => ctxV w h p x y l (2 * n + pixA w h p (x + d.1) (y + d.2))
theorem ctxV_range {w h : Int} {p : List Int} (hb : Bmp w h p) {x y : Int} : ∀ (l : List (Int × Int)) (n : Int) (m : Nat), 0 ≤ n → n < 2 ^ m → 0 ≤ ctxV w h p x y l n ∧ ctxV w h p x y l n < 2 ^ (m + l.length)
  | [], n, m, h0, h1 => ⟨h0, h1⟩
  | d :: l, n, m, h0, h1 => by
    have hp := hb.pix (x := x + d.1) (y := y + d.2)
    have := ctxV_range hb (x := x) (y := y) l (2 * n + pixA w h p (x + d.1) (y + d.2)) (m + 1) (by omega) (by rw [Int.pow_succ]; omega)
    simp only [ctxV, List.length_cons]
    rwa [show m + (l.length + 1) = m + 1 + l.length by omega]
theorem pow_small {m : Nat} (h : m ≤ 40) : (2 : Int) ^ m ≤ 1099511627776 := by
  have := Nat.pow_le_pow_right (n := 2) (by decide) h
  have e : (2 : Nat) ^ m ≤ 1099511627776 := Nat.le_trans this (by decide)
  have e2 := Int.ofNat_le.2 e
  rw [Int.natCast_pow] at e2
  exact e2
theorem ctx_over {w h : Int} {p : List Int} (hb : Bmp w h p) {x y : Int} (hx : -1000 ≤ x ∧ x ≤ 1000) (hy : -1000 ≤ y ∧ y ≤ 1000) {ar : List Arr2} :
    ∀ (l : List (Int × Int)) (n : Int) (m k : Nat), (∀ d ∈ l, -8 ≤ d.1 ∧ d.1 ≤ 8 ∧ -8 ≤ d.2 ∧ d.2 ≤ 8) → 0 ≤ n → n < 2 ^ m → m + l.length ≤ 40 →
    overL (generic_plane_context_loop3_step x y) (fun s => some s) k (l.map ar2) (n, w, h, p, ar) = some (ctxV w h p x y l n, w, h, p, ar)
  | [], n, m, k, _, h0, h1, _ => by simp [overL_nil, ctxV]
  | d :: l, n, m, k, hd, h0, h1, hm => by
    have hp := hb.pix (x := x + d.1) (y := y + d.2)
    obtain ⟨d1, d2, d3, d4⟩ := hd d (List.mem_cons_self ..)
    simp only [List.length_cons] at hm
    have hs := pow_small (m := m) (by omega)
    rw [List.map_cons, overL_next (s' := (2 * n + pixA w h p (x + d.1) (y + d.2), w, h, p, ar))]
    · rw [ctx_over hb hx hy l _ (m + 1) (k + 1) (fun e he => hd e (List.mem_cons_of_mem _ he)) (by omega) (by rw [Int.pow_succ]; omega) (by omega)]
      rfl
    · unfold generic_plane_context_loop3_step
      simp only [ar2]
      rw [if_pos (by decide), if_pos (by decide), w64 (n := x + d.1) (by omega), w64 (n := y + d.2) (by omega), plane_at_is hb]
      simp only [Option.bind_some]
      rw [w64 (n := 2 * n) (by omega), w64 (n := pixA w h p (x + d.1) (y + d.2)) (by omega), w64 (by omega)]
theorem ctx_loop {w h : Int} {p : List Int} (hb : Bmp w h p) {x y : Int} (hx : -1000 ≤ x ∧ x ≤ 1000) (hy : -1000 ≤ y ∧ y ≤ 1000) (L : List (Int × Int)) (hd : ∀ d ∈ L, -8 ≤ d.1 ∧ d.1 ≤ 8 ∧ -8 ≤ d.2 ∧ d.2 ≤ 8) (hL : L.length ≤ 40) :
    ∀ (l : List (Int × Int)) (n : Int) (k : Nat), L.drop k = l → 0 ≤ n → n < 2 ^ k → k + l.length = L.length → loop (ref07_context_loop4 w h p x y (L.map px2)) (n, (k : Int)) = some (ctxV w h p x y l n)
  | [], n, k, hk, h0, h1, hl => by
    refine loop_done ?_
    unfold ref07_context_loop4
    simp only [List.length_map]
    simp only [List.length_nil] at hl
    rw [if_neg (by simp; omega)]
    rfl
  | d :: l, n, k, hk, h0, h1, hl => by
    have hp := hb.pix (x := x + d.1) (y := y + d.2)
    have hget : L[k]? = some d := by
      have : (L.drop k)[0]? = some d := by rw [hk]; rfl
      simpa using this
    obtain ⟨d1, d2, d3, d4⟩ := hd d (List.mem_of_getElem? hget)
    simp only [List.length_cons] at hl
    have hs := pow_small (m := k) (by omega)
    rw [loop_step (s' := (2 * n + pixA w h p (x + d.1) (y + d.2), ((k + 1 : Nat) : Int)))]
    · rw [ctx_loop hb hx hy L hd hL l _ (k + 1) (by rw [← List.drop_drop, hk]; rfl) (by omega) (by rw [Int.pow_succ]; omega) (by omega)]
      rfl
    · unfold ref07_context_loop4
      simp only [List.length_map, Int.toNat_natCast, List.getElem?_map, hget, Option.map_some, Option.bind_some, px2]
      rw [if_pos (by simp; omega), if_pos (by omega), if_pos (by omega), w64 (n := x + d.1) (by omega), w64 (n := y + d.2) (by omega), At_is hb]
      simp only [Option.bind_some]
      rw [w64 (n := 2 * n) (by omega), w64 (n := (k : Int) + 1) (by omega), w64 (by omega)]
      rfl

/-- options that are right -/
def OptOk (t a b k : Int) : Prop := 0 ≤ t ∧ t ≤ 3 ∧ -8 ≤ a ∧ a ≤ 8 ∧ -8 ≤ b ∧ b ≤ 0 ∧ (b < 0 ∨ a < 0) ∧ (k = 0 ∨ k = 1)
theorem offs_small {t a b k : Int} (h : OptOk t a b k) : (offs t a b).length ≤ 11 ∧ ∀ d ∈ offs t a b, -8 ≤ d.1 ∧ d.1 ≤ 8 ∧ -8 ≤ d.2 ∧ d.2 ≤ 8 := by
  obtain ⟨h1, h2⟩ := tmplL_small t
  obtain ⟨_, _, a1, a2, b1, b2, _, _⟩ := h
  refine ⟨by rw [offs_len]; omega, fun d hd => ?_⟩
  rcases List.mem_append.1 hd with hd | hd
  · exact h2 d hd
  · rw [List.mem_singleton] at hd
    subst hd
    exact ⟨a1, a2, b1, by show b ≤ 8; omega⟩
def ctx (t a b w h : Int) (p : List Int) (x y : Int) : Int := ctxV w h p x y (offs t a b) 0
theorem ctx_range {t a b w h : Int} {p : List Int} (hb : Bmp w h p) (x y : Int) : 0 ≤ ctx t a b w h p x y ∧ ctx t a b w h p x y < ctxN t := by
  have := ctxV_range hb (x := x) (y := y) (offs t a b) 0 0 (by decide) (by decide)
  rw [offs_len, Nat.zero_add] at this
  exact this
theorem context_is {t a b k w h : Int} {p : List Int} (ho : OptOk t a b k) (hb : Bmp w h p) {x y : Int} (hx : -1000 ≤ x ∧ x ≤ 1000) (hy : -1000 ≤ y ∧ y ≤ 1000) :
    generic_plane_context x y w h p ((offs t a b).map ar2) = some (ctx t a b w h p x y, w, h, p, (offs t a b).map ar2) := by
  obtain ⟨h1, h2⟩ := offs_small ho
  rw [generic_plane_context_eq]
  have := generic_plane_context_loop3_over x y ((offs t a b).map ar2) (by simp; omega) (0, w, h, p, (offs t a b).map ar2)
  simp only at this
  rw [this, ctx_over hb hx hy (offs t a b) 0 0 0 h2 (by decide) (by decide) (by omega)]
  rfl
theorem rcontext_is {t a b k w h : Int} {p : List Int} {o4 : Bool} (ho : OptOk t a b k) (hb : Bmp w h p) {x y : Int} (hx : -1000 ≤ x ∧ x ≤ 1000) (hy : -1000 ≤ y ∧ y ≤ 1000) :
    ref07_context t a b o4 k w h p x y = some (ctx t a b w h p x y) := by
  obtain ⟨h1, h2⟩ := offs_small ho
  rw [ref07_context_eq, rpixels_is]
  simp only [Option.bind_some]
  rw [show ((0 : Int), (0 : Int)) = (0, ((0 : Nat) : Int)) from rfl, ctx_loop hb hx hy (offs t a b) h2 (by omega) _ 0 0 rfl (by decide) (by decide) (by simp)]
  rfl
end Go.Proofs.YtkccnhkhjncpkaaGreat.P
