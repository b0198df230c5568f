/- A bit that is put: the program's encoder and the reference's come to the same. Bitmaps and their pixels. -/
import Derived.Test.YtkccnhkhjncpkaaGreatPureCoder
import Derived.Test.YtkccnhkhjncpkaaGreatPureSizes
namespace Go.Proofs.YtkccnhkhjncpkaaGreat.P
open Go Go.Proofs.YtkccnhkhjncpkaaGreat.V
set_option linter.unusedVariables false
set_option linter.unusedSimpArgs false

/-! ### Two that go together -/
/-- both come to something, and these two go together -/
def Both {α β : Type} (x : Option α) (y : Option β) (P : α → β → Prop) : Prop := ∃ a b, x = some a ∧ y = some b ∧ P a b
theorem Both.mk {α β : Type} {a : α} {b : β} {P : α → β → Prop} (h : P a b) : Both (some a) (some b) P := ⟨a, b, rfl, rfl, h⟩
theorem Both.bind {α β γ δ : Type} {x : Option α} {y : Option β} {P : α → β → Prop} {f : α → Option γ} {g : β → Option δ} {Q : γ → δ → Prop} (h : Both x y P) (k : ∀ a b, P a b → Both (f a) (g b) Q) : Both (x.bind f) (y.bind g) Q := by
  obtain ⟨a, b, rfl, rfl, hp⟩ := h
  exact k a b hp
theorem Both.imp {α β : Type} {x : Option α} {y : Option β} {P Q : α → β → Prop} (h : Both x y P) (k : ∀ a b, P a b → Q a b) : Both x y Q := by
  obtain ⟨a, b, h1, h2, hp⟩ := h
  exact ⟨a, b, h1, h2, k a b hp⟩
theorem Both.eq {α : Type} {x y : Option α} (h : Both x y Eq) : x = y := by
  obtain ⟨a, b, h1, h2, rfl⟩ := h
  rw [h1, h2]
/-- a step of two loops -/
def StepTo {S S' A A' : Type} (R : S → S' → Prop) (Q : A → A' → Prop) : S ⊕ A → S' ⊕ A' → Prop
  | .inl s, .inl t => R s t
  | .inr a, .inr b => Q a b
  | _, _ => False
theorem Both.loop {S S' A A' : Type} {f : S → Option (S ⊕ A)} {g : S' → Option (S' ⊕ A')} (R : S → S' → Prop) (Q : A → A' → Prop) (m : S → Nat)
    (h : ∀ s t, R s t → Both (f s) (g t) (StepTo (fun s' t' => R s' t' ∧ m s' < m s) Q)) : ∀ s t, R s t → Both (V.loop f s) (V.loop g t) Q := by
  refine loop_sim R Q m fun s t hr => ?_
  obtain ⟨a, b, h1, h2, hp⟩ := h s t hr
  cases a with
  | inl s' =>
    cases b with
    | inl t' => exact .inl ⟨s', t', h1, h2, hp.1, hp.2⟩
    | inr _ => exact hp.elim
  | inr a =>
    cases b with
    | inl _ => exact hp.elim
    | inr b => exact .inr ⟨a, b, h1, h2, hp⟩

/-! ### Put -/
theorem same_is {kind lo hi : Int} {st out : List Int} : coder_interval_same kind lo hi st out = some (decide (lo / 16777216 = hi / 16777216), kind, lo, hi, st, out) := by
  rw [coder_interval_same_eq]
  simp only [ushr24]
theorem put_loop {kind : Int} {st : List Int} : ∀ (n : Nat) (lo hi : Int) (out : List Int), Iv lo hi → gapOf n ≤ hi - lo → out.length + n ≤ 140737488355328 →
    loop coder_Encoder_Put_loop6 (kind, lo, hi, st, out) = some (kind, (flush n lo hi out).1, (flush n lo hi out).2.1, st, (flush n lo hi out).2.2)
  | 0, lo, hi, out, h, hg, hl => by
    refine loop_done ?_
    unfold coder_Encoder_Put_loop6
    simp only [same_is, Option.bind_some]
    simp only [gapOf] at hg
    have hne : ¬ lo / 16777216 = hi / 16777216 := by obtain ⟨h0, h1, h2⟩ := h; omega
    simp only [hne, decide_false, Bool.false_eq_true, if_false, flush]
  | n + 1, lo, hi, out, h, hg, hl => by
    by_cases e : lo / 16777216 = hi / 16777216
    · obtain ⟨h1, h2⟩ := h.shift e
      rw [loop_step (s' := (kind, lo % 16777216 * 256, hi % 16777216 * 256 + 255, st, out ++ [hi / 16777216]))]
      · rw [put_loop n _ _ _ h1 (by rw [h2]; exact gap_step hg (by have := h.2.1; omega)) (by simp; omega)]
        simp only [flush, e, if_true]
      · unfold coder_Encoder_Put_loop6
        simp only [same_is, Option.bind_some, lose_is h]
        simp only [e, decide_true, if_true, List.length_singleton]
        rw [if_pos (by omega)]
    · refine loop_done ?_
      unfold coder_Encoder_Put_loop6
      simp only [same_is, Option.bind_some]
      simp only [e, decide_false, Bool.false_eq_true, if_false, flush]

theorem put_is {ctx bit kind lo hi : Int} {st out : List Int} (h : EncOk kind lo hi st) (hc : 0 ≤ ctx ∧ ctx < (st.length : Int)) (hb : bit = 0 ∨ bit = 1) (hl : out.length + 4 ≤ 140737488355328) :
    ∃ lo' hi' st' out', coder_Encoder_Put ctx bit kind lo hi st out = some (0, kind, lo', hi', st', out') ∧ ref02_Encoder_Put ctx bit kind lo hi st out = some (0, kind, lo', hi', st', out') ∧
      EncOk kind lo' hi' st' ∧ st'.length = st.length ∧ out'.length ≤ out.length + 4 := by
  obtain ⟨p, s, lo1, hi1, hp, hp0, hp1, ha, hs', hpart, hiv, href⟩ := refPut_is h hc hb hl
  have hs : StateOk kind (rd st ctx) := h.states _ (List.mem_of_getElem? (rd_get hc.1 hc.2))
  have hlt : lo < hi := by
    rcases Int.lt_or_le lo hi with q | q
    · exact q
    · exact absurd (by rw [show lo = hi by have := h.iv.2.1; omega]) h.open_
  have hm := midV_ge h.iv.2.1 hp0
  have hm2 := midV_lt hlt hp0 hp1
  obtain ⟨i0, i1, i2⟩ := h.iv
  have hgap : gapOf 4 ≤ hi1 - lo1 := by simp only [gapOf]; have := hiv.2.1; omega
  obtain ⟨f1, f2, f3, f4⟩ := flush_is 4 lo1 hi1 out hiv hgap
  refine ⟨_, _, _, _, ?_, href, ⟨h.two, f1, f2, fun x hx => ?_⟩, by simp, f3⟩
  · rw [coder_Encoder_Put_eq, coder_Encoder_none_eq]
    have c1 : ¬ ctx < 0 := by omega
    have c2 : ¬ ctx ≥ ((st.length : Nat) : Int) := by omega
    have c3 : (if (!decide (bit = 0)) = true then some (!decide (bit = 1)) else some false) = some false := by rcases hb with rfl | rfl <;> rfl
    simp only [c1, c2, c3, decide_false, Bool.false_eq_true, if_false, Option.bind_some, mid_is h.iv hc hp hs hp0 hp1, take_is hb hc hs ⟨show 0 ≤ midV lo hi p by omega, by omega⟩, ha, Sum.elim_inl]
    have e : (if bit = 1 then (kind, lo, midV lo hi p, st.set ctx.toNat s, out) else (kind, midV lo hi p + 1, hi, st.set ctx.toNat s, out)) = (kind, lo1, hi1, st.set ctx.toNat s, out) := by
      split at hpart <;> rename_i q <;> simp only [Prod.mk.injEq] at hpart <;> obtain ⟨rfl, rfl⟩ := hpart <;> simp [q]
    rw [e]
    simp only
    rw [put_loop 4 _ _ _ hiv hgap (by omega)]
    rfl
  · rcases List.mem_or_eq_of_mem_set hx with q | rfl
    · exact h.states x q
    · exact hs'

/-! ### Bitmaps -/
def Bmp (w h : Int) (p : List Int) : Prop := 0 ≤ w ∧ 0 ≤ h ∧ w ≤ 200 ∧ h ≤ 200 ∧ w * h ≤ 8192 ∧ (p.length : Int) = w * h ∧ ∀ x ∈ p, x = 0 ∨ x = 1
/-- a pixel, white outside -/
def pixA (w h : Int) (p : List Int) (x y : Int) : Int := if 0 ≤ x ∧ 0 ≤ y ∧ x < w ∧ y < h then rd p (y * w + x) else 0
theorem idx_in {w h x y : Int} (hx : 0 ≤ x) (hxw : x < w) (hy : 0 ≤ y) (hyh : y < h) : 0 ≤ y * w ∧ 0 ≤ y * w + x ∧ y * w + x < w * h := by
  have h1 : 0 ≤ y * w := Int.mul_nonneg hy (by omega)
  have h2 : (y + 1) * w ≤ h * w := Int.mul_le_mul_of_nonneg_right (by omega) (by omega)
  rw [Int.add_mul, Int.one_mul, Int.mul_comm h w] at h2
  exact ⟨h1, by omega, by omega⟩
theorem rd_mem {l : List Int} {i : Int} (h0 : 0 ≤ i) (h1 : i < (l.length : Int)) : rd l i ∈ l := List.mem_of_getElem? (rd_get h0 h1)
theorem Bmp.pix {w h : Int} {p : List Int} (hb : Bmp w h p) {x y : Int} : pixA w h p x y = 0 ∨ pixA w h p x y = 1 := by
  obtain ⟨h0, h1, h2, h3, h4, h5, h6⟩ := hb
  unfold pixA
  split
  · rename_i q
    obtain ⟨q0, q1, q2, q3⟩ := q
    have := idx_in q0 q2 q1 q3
    exact h6 _ (rd_mem this.2.1 (by omega))
  · exact .inl rfl
theorem inside_is {w h x y : Int} {p : List Int} : ref05_inside w h p x y = some (decide (0 ≤ x ∧ 0 ≤ y ∧ x < w ∧ y < h)) := by
  rw [ref05_inside_eq]
  simp only [iteD]
  by_cases h1 : x ≥ 0 <;> by_cases h2 : y ≥ 0 <;> by_cases h3 : x < w <;> simp [h1, h2, h3] <;> omega
theorem At_is {w h : Int} {p : List Int} (hb : Bmp w h p) (x y : Int) : ref05_At w h p x y = some (pixA w h p x y) := by
  obtain ⟨h0, h1, h2, h3, h4, h5, h6⟩ := hb
  rw [ref05_At_eq, inside_is]
  unfold pixA
  by_cases q : 0 ≤ x ∧ 0 ≤ y ∧ x < w ∧ y < h
  · obtain ⟨a0, a1, a2⟩ := idx_in q.1 q.2.2.1 q.2.1 q.2.2.2
    have hr := h6 _ (rd_mem a1 (l := p) (by omega))
    simp only [q, decide_true, Option.bind_some, Bool.not_true, Bool.false_eq_true, if_false, if_true, and_self]
    rw [w64 (n := y * w) (by omega), w64 (n := y * w + x) (by omega), if_pos (by omega), w64 (by omega)]
  · simp only [q, decide_false, Option.bind_some, Bool.not_false, if_true, if_false]
end Go.Proofs.YtkccnhkhjncpkaaGreat.P
