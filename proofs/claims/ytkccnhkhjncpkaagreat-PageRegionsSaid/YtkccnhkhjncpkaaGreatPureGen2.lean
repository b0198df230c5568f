/- Generic regions: what is put, row by row, is the same in the program and in its reference. -/
import Derived.Test.YtkccnhkhjncpkaaGreatPureGen
namespace Go.Proofs.YtkccnhkhjncpkaaGreat.P
open Go Go.Proofs.YtkccnhkhjncpkaaGreat.V
set_option linter.unusedVariables false
set_option linter.unusedSimpArgs false

theorem some_dec {b : Bool} {p : Prop} [Decidable p] (h : b = true ↔ p) : some b = some (decide p) := by
  congr 1
  cases b <;> simp_all
instance (t a b k : Int) : Decidable (OptOk t a b k) := by unfold OptOk; infer_instance
theorem genValid_is (t a b : Int) (o4 : Bool) (k : Int) : generic_Valid t a b o4 k = some (decide (OptOk t a b k)) := by
  rw [generic_Valid_eq, if_pos (by decide), if_pos (by decide)]
  simp only [iteD]
  repeat' split
  all_goals
    refine some_dec ?_
    unfold OptOk
    simp only [decide_eq_true_eq, Bool.false_eq_true, true_iff, false_iff]
    omega
theorem refValid_is (t a b : Int) (o4 : Bool) (k : Int) : ref07_Valid t a b o4 k = some (decide (OptOk t a b k)) := by
  rw [ref07_Valid_eq]
  have e1 : ((if decide (t < 0) = true then some true else if decide (t > 3) = true then some true else if decide (k < 0) = true then some true else some (decide (k > 1))) : Option Bool) = some (decide (¬ (0 ≤ t ∧ t ≤ 3 ∧ (k = 0 ∨ k = 1)))) := by
    simp only [iteD]
    repeat' split
    all_goals
      refine some_dec ?_
      simp only [decide_eq_true_eq, Bool.false_eq_true, true_iff, false_iff]
      omega
  rw [e1]
  simp only [Option.bind_some]
  have z : ((0 : Int) ≤ 0 ∧ (0 : Int) < ((2 : Nat) : Int)) = True := by simp
  have z1 : ((0 : Int) ≤ 1 ∧ (1 : Int) < ((2 : Nat) : Int)) = True := by simp
  simp only [z, z1, if_true, iteD]
  by_cases h1 : ¬ (0 ≤ t ∧ t ≤ 3 ∧ (k = 0 ∨ k = 1))
  · rw [if_pos h1]
    refine some_dec ?_
    unfold OptOk
    simp only [Bool.false_eq_true, false_iff]
    omega
  · rw [if_neg h1]
    have e2 : ((if a < -8 then some true else if a > 8 then some true else if b < -8 then some true else some (decide (b > 0))) : Option Bool) = some (decide (¬ (-8 ≤ a ∧ a ≤ 8 ∧ -8 ≤ b ∧ b ≤ 0))) := by
      repeat' split
      all_goals
        refine some_dec ?_
        simp only [decide_eq_true_eq, Bool.false_eq_true, true_iff, false_iff]
        omega
    rw [e2]
    simp only [Option.bind_some, iteD]
    repeat' split
    all_goals
      refine some_dec ?_
      unfold OptOk
      simp only [decide_eq_true_eq, Bool.false_eq_true, true_iff, false_iff]
      omega
theorem size07_is (t a b : Int) (o4 : Bool) (k : Int) : ref07_Size t a b o4 k = some (if OptOk t a b k then (ctxN t + 1, 0) else (0, 2)) := by
  rw [ref07_Size_eq, refValid_is]
  simp only [Option.bind_some]
  by_cases h : OptOk t a b k
  · simp only [h, decide_true, Bool.not_true, Bool.false_eq_true, if_false, if_true, rpixels_is, Option.bind_some, List.length_map, offs_len]
    rw [if_neg (by omega)]
    have := ctxN_small t
    have e : ishl .i64 1 (((tmplL t).length + 1 : Nat) : Int) = ctxN t := by
      unfold ctxN tmplL
      split
      · decide
      · split
        · decide
        · split <;> decide
    rw [e, w64 (by omega)]
  · simp only [h, decide_false, Bool.not_false, if_true, if_false]

/-! ### What is skipped -/
def SkipOk (w h sw sh : Int) (sp : List Int) : Prop := Bmp sw sh sp ∧ (sw = 0 ∧ sh = 0 ∨ sw = w ∧ sh = h)
theorem skips_is {w h sw sh : Int} {sp : List Int} (hs : SkipOk w h sw sh sp) {x y : Int} (hx : 0 ≤ x) (hxw : x < w) (hy : 0 ≤ y) (hyh : y < h) :
    generic_skips sw sh sp (y * w + x) = some (decide (pixA sw sh sp x y = 1)) := by
  obtain ⟨hb, hq⟩ := hs
  obtain ⟨a0, a1, a2⟩ := idx_in hx hxw hy hyh
  rw [generic_skips_eq]
  unfold pixA
  rcases hq with ⟨rfl, rfl⟩ | ⟨rfl, rfl⟩
  · have := hb.2.2.2.2.2.1
    rw [if_neg (by simp at this ⊢; exact this), if_neg (by omega)]
    simp
  · have := hb.2.2.2.2.2.1
    rw [if_pos (by simp; omega), if_pos (by omega), if_pos ⟨hx, hy, hxw, hyh⟩]

/-! ### A row as it is foretold -/
def rowF (w h : Int) (p : List Int) (sw sh : Int) (sp : List Int) (y : Int) (x : Nat) : Int := if pixA sw sh sp x y = 1 then 0 else pixA w h p x (y - 1)
def rowA (w h : Int) (p : List Int) (sw sh : Int) (sp : List Int) (y : Int) : List Int := (List.range w.toNat).map (rowF w h p sw sh sp y)
theorem rowF_bit {w h sw sh : Int} {p sp : List Int} (hb : Bmp w h p) {y : Int} {x : Nat} : rowF w h p sw sh sp y x = 0 ∨ rowF w h p sw sh sp y x = 1 := by
  unfold rowF
  split
  · exact .inl rfl
  · exact hb.pix
theorem typical_is {w h sw sh : Int} {p sp : List Int} (hb : Bmp w h p) (hs : SkipOk w h sw sh sp) {y : Int} (hy : 0 ≤ y ∧ y < h) : ref07_typical w h p sw sh sp y = some (rowA w h p sw sh sp y) := by
  have hw := hb.1
  have hw2 := hb.2.2.1
  have hh2 := hb.2.2.2.1
  rw [ref07_typical_eq, ref07_typical_loop3_over w h p sw sh sp y (by rw [List.length_range]; omega) []]
  have := overL_inv (f := ref07_typical_loop3_step w h p sw sh sp y) (fin := fun s => some s) (fun n => (List.range n).map (rowF w h p sw sh sp y)) (List.range w.toNat) 0 (fun k x hk => ?_)
  · rw [List.length_range, Nat.zero_add] at this
    exact (by rw [show ([] : List Int) = (List.range 0).map (rowF w h p sw sh sp y) from rfl, this]; rfl)
  · have hk' := lt_len_of_get hk
    rw [List.length_range] at hk'
    have hr := rowF_bit (sw := sw) (sh := sh) (sp := sp) hb (y := y) (x := k)
    unfold ref07_typical_loop3_step
    simp only [Nat.zero_add]
    rw [w64 (n := y - 1) (by omega), At_is hb, At_is hs.1]
    simp only [Option.bind_some, iteD]
    have e : ((if pixA sw sh sp (k : Int) y = 1 then some 0 else some (pixA w h p (k : Int) (y - 1))) : Option Int) = some (rowF w h p sw sh sp y k) := by unfold rowF; split <;> rfl
    rw [e]
    simp only [Option.bind_some, List.length_map, List.length_range, List.length_singleton]
    rw [if_pos (by omega), w8, show rowF w h p sw sh sp y k % 256 = rowF w h p sw sh sp y k by omega, List.range_succ, List.map_append]
    rfl
theorem above_is {w h sw sh : Int} {p sp : List Int} {ar : List Arr2} (hb : Bmp w h p) (hs : SkipOk w h sw sh sp) {y : Int} (hy : 0 ≤ y ∧ y < h) : generic_plane_above y sw sh sp w h p ar = some (rowA w h p sw sh sp y, w, h, p, ar) := by
  have hw := hb.1
  have hw2 := hb.2.2.1
  have hh2 := hb.2.2.2.1
  rw [generic_plane_above_eq, if_pos (by omega)]
  simp only
  have h1 := generic_plane_above_loop3_over y sw sh sp (List.replicate w.toNat 0) (by rw [List.length_replicate]; omega) (w, h, p, ar, List.replicate w.toNat 0)
  simp only at h1
  rw [h1]
  have := overL_inv (f := generic_plane_above_loop3_step y sw sh sp) (fin := fun s => some s) (fun n => (w, h, p, ar, (List.range n).map (rowF w h p sw sh sp y) ++ List.replicate (w.toNat - n) 0)) (List.replicate w.toNat 0) 0 (fun k x hk => ?_)
  · rw [List.length_replicate, Nat.zero_add] at this
    simp only [List.range_zero, List.map_nil, List.nil_append, Nat.sub_zero, Nat.sub_self, List.replicate_zero, List.append_nil] at this
    simp only [this]
    rfl
  · have hk' := lt_len_of_get hk
    rw [List.length_replicate] at hk'
    obtain ⟨a0, a1, a2⟩ := idx_in (show (0 : Int) ≤ (k : Int) by omega) (show (k : Int) < w by omega) hy.1 hy.2
    have hwh := hb.2.2.2.2.1
    unfold generic_plane_above_loop3_step
    simp only [Nat.zero_add]
    rw [w64 (n := y * w) (by omega), w64 (n := y * w + (k : Int)) (by omega), skips_is hs (by omega) (by omega) hy.1 hy.2]
    simp only [Option.bind_some]
    have hrep : List.replicate (w.toNat - k) (0 : Int) = 0 :: List.replicate (w.toNat - (k + 1)) 0 := by rw [show w.toNat - k = (w.toNat - (k + 1)) + 1 by omega, List.replicate_succ]
    by_cases hq : pixA sw sh sp (k : Int) y = 1
    · simp only [hq, decide_true, Bool.not_true, Bool.false_eq_true, if_false]
      rw [hrep, List.range_succ, List.map_append, List.append_assoc]
      simp [rowF, hq]
    · simp only [hq, decide_false, Bool.not_false, if_true]
      rw [w64 (n := y - 1) (by omega), plane_at_is hb]
      simp only [Option.bind_some, List.length_append, List.length_map, List.length_range, List.length_replicate]
      rw [if_pos (by omega), hrep, List.set_append_right _ _ (by simp), List.range_succ, List.map_append]
      simp [rowF, hq]

/-! ### Puts -/
abbrev EncS := Int × Int × Int × List Int × List Int
def EncAt (N B : Nat) (s : EncS) : Prop := EncOk s.1 s.2.1 s.2.2.1 s.2.2.2.1 ∧ s.2.2.2.1.length = N ∧ s.2.2.2.2.length ≤ B
theorem put_at {N B : Nat} {s : EncS} (h : EncAt N B s) {c b : Int} (hc : 0 ≤ c ∧ c < (N : Int)) (hb : b = 0 ∨ b = 1) (hB : B ≤ 1000000000) :
    ∃ s', coder_Encoder_Put c b s.1 s.2.1 s.2.2.1 s.2.2.2.1 s.2.2.2.2 = some (0, s') ∧ ref02_Encoder_Put c b s.1 s.2.1 s.2.2.1 s.2.2.2.1 s.2.2.2.2 = some (0, s') ∧ EncAt N (B + 4) s' := by
  obtain ⟨h1, h2, h3⟩ := h
  obtain ⟨lo', hi', st', out', e1, e2, e3, e4, e5⟩ := put_is (out := s.2.2.2.2) h1 (by rw [h2]; exact hc) hb (by omega)
  exact ⟨(s.1, lo', hi', st', out'), e1, e2, e3, by rw [e4, h2], by show out'.length ≤ B + 4; omega⟩
/-- an encoder and a plane -/
def withP (e : EncS) (w h : Int) (p : List Int) (ar : List Arr2) : Int × Int × Int × List Int × List Int × Int × Int × List Int × List Arr2 := (e.1, e.2.1, e.2.2.1, e.2.2.2.1, e.2.2.2.2, w, h, p, ar)

theorem rd_pix {w h : Int} {p : List Int} (hb : Bmp w h p) {x y : Int} (hx : 0 ≤ x) (hxw : x < w) (hy : 0 ≤ y) (hyh : y < h) : rd p (y * w + x) = pixA w h p x y := by
  unfold pixA; rw [if_pos ⟨hx, hy, hxw, hyh⟩]

theorem put_row {t a b k base w h sw sh : Int} {p sp : List Int} {o4 : Bool} {N B : Nat} (ho : OptOk t a b k) (hb : Bmp w h p) (hs : SkipOk w h sw sh sp) (hbase : 0 ≤ base ∧ base + ctxN t < (N : Int)) (hN : N ≤ 1000000) {y : Int} (hy : 0 ≤ y ∧ y < h) (hB : B ≤ 900000000)
    {e : EncS} (he : EncAt N B e) :
    Both (loop (generic_put_loop13 base w p sw sh sp y) (0, withP e w h p ((offs t a b).map ar2))) (loop (ref07_Put_loop27 base t a b o4 k w h p sw sh sp y) (0, e))
      (fun q r => q = withP r w h p ((offs t a b).map ar2) ∧ EncAt N (B + 800) r) := by
  have hw := hb.1
  have hw2 := hb.2.2.1
  have hh2 := hb.2.2.2.1
  have hwh := hb.2.2.2.2.1
  have hlen := hb.2.2.2.2.2.1
  have hctx := ctxN_small t
  have l1 := generic_put_loop13_over base w p sw sh sp y (by rw [List.length_range]; omega) (withP e w h p ((offs t a b).map ar2))
  have l2 := ref07_Put_loop27_over base t a b o4 k w h p sw sh sp y (by rw [List.length_range]; omega) e
  simp only [withP] at l1 l2 ⊢
  rw [l1, l2]
  refine overL_both (fun n s r => s = withP r w h p ((offs t a b).map ar2) ∧ EncAt N (B + 4 * n) r) _ (List.range w.toNat) 0 _ _ (fun n x s r hn hr => ?_) (fun s r hr => ?_) ⟨rfl, by simpa using he⟩
  · have hk := lt_len_of_get hn
    rw [List.length_range] at hk
    rw [Nat.zero_add] at hr ⊢
    obtain ⟨rfl, hr⟩ := hr
    obtain ⟨a0, a1, a2⟩ := idx_in (show (0 : Int) ≤ (n : Int) by omega) (show (n : Int) < w by omega) hy.1 hy.2
    have hcx := ctx_range (t := t) (a := a) (b := b) hb n y
    unfold generic_put_loop13_step ref07_Put_loop27_step
    simp only [withP]
    rw [w64 (n := y * w) (by omega), w64 (n := y * w + (n : Int)) (by omega), skips_is hs (by omega) (by omega) hy.1 hy.2, At_is hs.1]
    simp only [Option.bind_some]
    have hsp := hs.1.pix (x := (n : Int)) (y := y)
    by_cases hq : pixA sw sh sp (n : Int) y = 1
    · rw [hq]
      simp only [decide_true, Bool.not_true, Bool.false_eq_true, if_false, show ¬ ((1 : Int) = 0) by decide, decide_false]
      exact .mk ⟨rfl, hr.1, hr.2.1, by have := hr.2.2; show r.2.2.2.2.length ≤ _; omega⟩
    · have hq0 : pixA sw sh sp (n : Int) y = 0 := by omega
      rw [hq0]
      simp only [show ¬ ((0 : Int) = 1) by decide, decide_true, decide_false, Bool.not_false, if_true]
      rw [context_is ho hb (by omega) (by omega), rcontext_is ho hb (by omega) (by omega)]
      simp only [Option.bind_some]
      have hp := hb.pix (x := (n : Int)) (y := y)
      rw [w64 (n := base + ctx t a b w h p (n : Int) y) (by omega), if_pos (by omega), rd_pix hb (by omega) (by omega) hy.1 hy.2, At_is hb, w64 (n := pixA w h p (n : Int) y) (by omega)]
      simp only [Option.bind_some]
      obtain ⟨s', e1, e2, e3⟩ := put_at hr (c := base + ctx t a b w h p (n : Int) y) (by omega) hp (by omega)
      rw [e1, e2]
      exact .mk ⟨rfl, by rw [show B + 4 * (n + 1) = B + 4 * n + 4 by omega]; exact e3⟩
  · obtain ⟨rfl, hr⟩ := hr
    refine .mk ⟨rfl, hr.1, hr.2.1, ?_⟩
    have := hr.2.2
    rw [List.length_range] at this
    show r.2.2.2.2.length ≤ B + 800
    omega

theorem put_rows {t a b k base w h sw sh : Int} {p sp : List Int} {o4 : Bool} {N : Nat} (ho : OptOk t a b k) (hb : Bmp w h p) (hs : SkipOk w h sw sh sp) (hbase : 0 ≤ base ∧ base + ctxN t < (N : Int)) (hN : N ≤ 1000000) {B : Nat} (hB : B ≤ 100000000)
    {e : EncS} (he : EncAt N B e) :
    Both (loop (generic_put_loop4 base t a b o4 k w h p sw sh sp) (0, withP e w h p ((offs t a b).map ar2))) (loop (ref07_Put_loop18 base t a b o4 k w h p sw sh sp (ctxN t + 1)) (0, e))
      (fun q r => q = withP r w h p ((offs t a b).map ar2) ∧ EncAt N (B + 804 * 200) r) := by
  have hw := hb.1
  have hh := hb.2.1
  have hw2 := hb.2.2.1
  have hh2 := hb.2.2.2.1
  have hwh := hb.2.2.2.2.1
  have hlen := hb.2.2.2.2.2.1
  have hctx := ctxN_small t
  have l1 := generic_put_loop4_over base t a b o4 k w h p sw sh sp (by rw [List.length_range]; omega) (withP e w h p ((offs t a b).map ar2))
  have l2 := ref07_Put_loop18_over base t a b o4 k w h p sw sh sp (ctxN t + 1) (by rw [List.length_range]; omega) e
  simp only [withP] at l1 l2 ⊢
  rw [l1, l2]
  refine overL_both (fun n s r => s = withP r w h p ((offs t a b).map ar2) ∧ EncAt N (B + 804 * n) r) _ (List.range h.toNat) 0 _ _ (fun n x s r hn hr => ?_) (fun s r hr => ?_) ⟨rfl, by simpa using he⟩
  · have hk := lt_len_of_get hn
    rw [List.length_range] at hk
    rw [Nat.zero_add] at hr ⊢
    obtain ⟨rfl, hr⟩ := hr
    have hy : (0 : Int) ≤ (n : Int) ∧ (n : Int) < h := by omega
    have b1 : 0 ≤ (n : Int) * w := Int.mul_nonneg hy.1 hw
    have b2 : ((n : Int) + 1) * w ≤ h * w := Int.mul_le_mul_of_nonneg_right (by omega) hw
    have b3 : ((n : Int) + 1) * w = (n : Int) * w + w := by rw [Int.add_mul, Int.one_mul]
    rw [Int.mul_comm h w] at b2
    unfold generic_put_loop4_step ref07_Put_loop18_step
    simp only [withP]
    -- one row
    have row : ∀ (e' : EncS), EncAt N (B + 804 * n + 4) e' → Both ((loop (generic_put_loop13 base w p sw sh sp ((n : Nat) : Int)) (0, withP e' w h p ((offs t a b).map ar2))).bind fun q => some (Sum.inl q : _ ⊕ (Int × Int × Int × List Int × List Int × Int × Int × List Int × List Arr2)))
        ((loop (ref07_Put_loop27 base t a b o4 k w h p sw sh sp ((n : Nat) : Int)) (0, e')).bind fun r => some (Sum.inl r : _ ⊕ EncS))
        (StepTo (fun s r => s = withP r w h p ((offs t a b).map ar2) ∧ EncAt N (B + 804 * (n + 1)) r) (fun q r => q = withP r w h p ((offs t a b).map ar2) ∧ EncAt N (B + 804 * 200) r)) := by
      intro e' he'
      refine (put_row ho hb hs hbase hN hy (by omega) he').bind fun q r hqr => .mk ⟨hqr.1, ?_⟩
      rw [show B + 804 * (n + 1) = B + 804 * n + 4 + 800 by omega]
      exact hqr.2
    cases o4 with
    | false =>
      simp only [Bool.false_eq_true, if_false, Option.bind_some, Sum.elim_inl]
      exact row r ⟨hr.1, hr.2.1, by have := hr.2.2; omega⟩
    | true =>
      simp only [if_true]
      rw [above_is hb hs hy, typical_is hb hs hy]
      simp only [Option.bind_some]
      rw [w64 (n := (n : Int) * w) (by omega), w64 (n := (n : Int) + 1) (by omega), w64 (n := ((n : Int) + 1) * w) (by omega)]
      rw [if_pos (by omega), if_pos (by omega), if_pos (by omega), if_pos (by omega), bytes_Equal_eq, contexts_is]
      simp only [Option.bind_some, decide_eq_true_eq]
      have ebit : ∀ c : Prop, [Decidable c] → ((if c then some 1 else some 0) : Option Int) = some (if c then 1 else 0) := fun c _ => by split <;> rfl
      rw [ebit]
      simp only [Option.bind_some]
      generalize hbit : (if rowA w h p sw sh sp (n : Int) = cutL p ((n : Int) * w).toNat (((n : Int) + 1) * w).toNat then (1 : Int) else 0) = bit
      have hb01 : bit = 0 ∨ bit = 1 := by rw [← hbit]; split <;> simp
      rw [w64 (n := base + ctxN t) (by omega), w64 (n := base + (ctxN t + 1)) (by omega), w64 (n := base + (ctxN t + 1) - 1) (by omega), show base + (ctxN t + 1) - 1 = base + ctxN t by omega]
      obtain ⟨s', e1, e2, e3⟩ := put_at hr (c := base + ctxN t) (by omega) hb01 (by omega)
      rw [e1, e2]
      simp only [Option.bind_some]
      by_cases h1 : bit = 1
      · simp only [h1, if_true, Option.bind_some, Sum.elim_inr]
        exact .mk ⟨rfl, e3.1, e3.2.1, by have := e3.2.2; show s'.2.2.2.2.length ≤ _; omega⟩
      · simp only [h1, if_false, Option.bind_some, Sum.elim_inl]
        exact row s' e3
  · obtain ⟨rfl, hr⟩ := hr
    refine .mk ⟨rfl, hr.1, hr.2.1, ?_⟩
    have := hr.2.2
    rw [List.length_range] at this
    show r.2.2.2.2.length ≤ B + 804 * 200
    omega
end Go.Proofs.YtkccnhkhjncpkaaGreat.P
