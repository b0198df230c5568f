/- A refined region's code: the program against its reference. -/
import Derived.Test.YtkccnhkhjncpkaaGreatPureRef
namespace Go.Proofs.YtkccnhkhjncpkaaGreat.P
open Go Go.Proofs.YtkccnhkhjncpkaaGreat.V
set_option linter.unusedVariables false
set_option linter.unusedSimpArgs false

theorem size08_is (t : Int) : ref08_size t = some (rctxN t + 1) := by
  rw [ref08_size_eq]
  unfold rctxN
  simp only [iteD]
  split <;> rfl
theorem rput_rows {t dx dy k base w h rw rh : Int} {p rp : List Int} {o4 : Bool} {N B : Nat} (ho : RefOk t dx dy k) (hb : Bmp w h p) (hr : Bmp rw rh rp) (hbase : 0 ≤ base ∧ base + rctxN t < (N : Int)) (hN : N ≤ 1000000) (hB : B ≤ 100000000)
    {e : EncS} (he : EncAt N B e) :
    Both (loop (refine_Put_loop11 base t o4 w h) (0, withR e t dx dy o4 k w h p rw rh rp)) (loop (ref08_Put_loop8 base t dx dy o4 k w h p rw rh rp (base + rctxN t)) (0, e))
      (fun q r => q = withR r t dx dy o4 k w h p rw rh rp ∧ EncAt N (B + 804 * 200) r) := by
  have hw := hb.1
  have hh := hb.2.1
  have hw2 := hb.2.2.1
  have hh2 := hb.2.2.2.1
  have hc : 0 < rctxN t ∧ rctxN t ≤ 512 := by unfold rctxN; split <;> decide
  refine Both.loop (fun s r => ∃ (n : Nat) (e : EncS), (n : Int) ≤ h ∧ s = ((n : Int), withR e t dx dy o4 k w h p rw rh rp) ∧ r = ((n : Int), e) ∧ EncAt N (B + 804 * n) e) _ (fun s => (h - s.1).toNat) ?_ _ _ ⟨0, e, by omega, rfl, rfl, by simpa using he⟩
  rintro s r ⟨n, e, hn, rfl, rfl, he⟩
  unfold refine_Put_loop11 ref08_Put_loop8
  simp only [withR]
  by_cases hlt : (n : Int) < h
  · simp only [hlt, decide_true, if_true, typicalR_is ho hb hr (show -1000 ≤ (n : Int) ∧ (n : Int) ≤ 1000 by omega)]
    obtain ⟨ty, hty⟩ := row_some (o4 := o4) ho hb hr (y := (n : Int)) (by omega)
    rw [hty, w64 (n := (n : Int) + 1) (by omega)]
    have row : ∀ (e' : EncS) (ty : Bool), EncAt N (B + 804 * n + 4) e' → Both ((loop (refine_Put_loop20 base w (n : Int) ty) (0, withR e' t dx dy o4 k w h p rw rh rp)).bind fun q => some (Sum.inl ((n : Int) + 1, q) : _ ⊕ (Int × Int × Int × List Int × List Int × Int × Int × Int × Bool × Int × Int × Int × List Int × Int × Int × List Int)))
        ((loop (ref08_Put_loop17 base t dx dy o4 k w h p rw rh rp (n : Int) ty) (0, e')).bind fun r => some (Sum.inl ((n : Int) + 1, r) : _ ⊕ EncS))
        (StepTo (fun s' r' => (∃ (m : Nat) (e : EncS), (m : Int) ≤ h ∧ s' = ((m : Int), withR e t dx dy o4 k w h p rw rh rp) ∧ r' = ((m : Int), e) ∧ EncAt N (B + 804 * m) e) ∧ (h - s'.1).toNat < (h - (n : Int)).toNat) (fun q r => q = withR r t dx dy o4 k w h p rw rh rp ∧ EncAt N (B + 804 * 200) r)) := by
      intro e' ty he'
      refine (rput_row ho hb hr hbase hN ⟨by omega, hlt⟩ (by omega) ty he').bind fun q r hqr => .mk ⟨⟨n + 1, r, by omega, by rw [hqr.1]; rfl, rfl, ?_⟩, by show (h - ((n : Int) + 1)).toNat < _; omega⟩
      rw [show B + 804 * (n + 1) = B + 804 * n + 4 + 800 by omega]
      exact hqr.2
    cases o4 with
    | false =>
      simp only [Bool.false_eq_true, if_false, Option.bind_some]
      exact row e false ⟨he.1, he.2.1, by have := he.2.2; omega⟩
    | true =>
      simp only [if_true, Option.bind_some]
      have ebit : ((if ty = true then some 1 else some 0) : Option Int) = some (if ty = true then 1 else 0) := by split <;> rfl
      rw [ebit, rcontexts_is]
      simp only [Option.bind_some]
      rw [w64 (n := base + rctxN t) (by omega)]
      obtain ⟨s', e1, e2, e3⟩ := put_at he (c := base + rctxN t) (b := if ty = true then 1 else 0) (by omega) (by split <;> simp) (by omega)
      rw [e1, e2]
      simp only [Option.bind_some]
      exact row s' ty e3
  · simp only [hlt, decide_false, Bool.false_eq_true, if_false]
    exact .mk ⟨rfl, he.1, he.2.1, by have := he.2.2; show e.2.2.2.2.length ≤ _; omega⟩

theorem put_bad {kind lo hi : Int} {st out : List Int} : coder_Encoder_Put (-1) 0 kind lo hi st out = some (2, kind, lo, hi, st, out) := by
  rw [coder_Encoder_Put_eq, coder_Encoder_none_eq]
  simp only [Option.bind_some, Bool.false_eq_true, if_false, show (-1 : Int) < 0 by decide, decide_true, if_true, Sum.elim_inr]
theorem refineEncode_is {t dx dy k w h rw rh : Int} {o4 : Bool} {p rp : List Int} (hp : ∀ x ∈ p, 0 ≤ x) (hrp : ∀ x ∈ rp, 0 ≤ x) (hl : p.length ≤ 4611686018427387904) (hrl : rp.length ≤ 4611686018427387904) :
    ∃ c e, refine_Encode t dx dy o4 k w h p rw rh rp = some (c, e) ∧ ref08_Encode t dx dy o4 k w h p rw rh rp = some (c, e) ∧ c.length ≤ 200000 := by
  rw [refine_Encode_eq, ref08_Encode_eq, refineValid_is, ref08Valid_is]
  simp only [Option.bind_some]
  by_cases ho : RefOk t dx dy k
  · have hk : k = 0 ∨ k = 1 := ho.2.1
    have hc : 0 < rctxN t ∧ rctxN t ≤ 512 := by unfold rctxN; split <;> decide
    simp only [ho, decide_true, Bool.not_true, Bool.false_eq_true, if_false]
    rw [refine_model_eq, rcontexts_is, IsBitmap_is hl, IsBitmap_is hrl]
    simp only [Option.bind_some]
    rw [w64 (n := rctxN t + 1) (by omega), (new_is hk (n := rctxN t + 1) (by omega) (by omega)).1]
    simp only [Option.bind_some]
    obtain ⟨n1, n2, n3⟩ := newEncoder_is hk (st := List.replicate (rctxN t + 1).toNat 0) (by simp; omega) (new_states hk _)
    rw [n1]
    simp only [Option.bind_some, Sum.elim_inl]
    rw [refine_Put_eq, put_bad]
    simp only [Option.bind_some]
    rw [refineValid_is, bitmapValid_is hl, bitmapValid_is hrl]
    simp only [ho, decide_true, Option.bind_some, Bool.not_true, Bool.false_eq_true, if_false, show ¬ ((2 : Int) = 7) by decide, decide_false]
    have ebad : ∀ (a b : Bool), ((if (!a) = true then some true else some (!b)) : Option Bool) = some (!(a && b)) := fun a b => by cases a <;> cases b <;> rfl
    rw [ebad]
    simp only [Option.bind_some]
    by_cases hv : (bmpB w h p && bmpB rw rh rp) = true
    · have hv' := hv
      rw [Bool.and_eq_true] at hv'
      have hb := bmpB_of hp hv'.1
      have hr := bmpB_of hrp hv'.2
      simp only [hv, Bool.not_true, Bool.false_eq_true, if_false]
      rw [coder_Encoder_Model_eq, coder_Encoder_none_eq]
      simp only [Option.bind_some, Bool.false_eq_true, if_false]
      rw [(clone_is (kind := k) (st := List.replicate (rctxN t + 1).toNat 0) (by simp; omega)).1]
      simp only [Option.bind_some]
      rw [refine_fits_eq, rcontexts_is, ref08_fresh_eq, size08_is]
      simp only [Option.bind_some, List.length_replicate, show (0 : Int) ≥ 0 by decide, decide_true, if_true]
      rw [show (((rctxN t + 1).toNat : Nat) : Int) = rctxN t + 1 by omega, w64 (n := rctxN t + 1 - rctxN t) (by omega), w64 (n := rctxN t + 1 - rctxN t - 1) (by omega)]
      have d1 : (0 : Int) ≤ rctxN t + 1 - rctxN t - 1 := by omega
      simp only [d1, decide_true, Bool.not_true, Bool.false_eq_true, if_false, Option.bind_some, Sum.elim_inl]
      rw [if_pos (by omega), refine_newRegion_eq]
      simp only [Option.bind_some]
      rw [n2]
      simp only [Option.bind_some, Sum.elim_inl]
      rw [ref08_Put_eq, IsBitmap_is hl, IsBitmap_is hrl, hv'.1, hv'.2]
      simp only [Option.bind_some, if_true]
      rw [ref08_asked_eq, ref08Valid_is, size08_is]
      simp only [ho, decide_true, Option.bind_some, Bool.not_true, Bool.false_eq_true, if_false, List.length_replicate, show ¬ (0 : Int) < 0 by decide, decide_false]
      rw [show (((rctxN t + 1).toNat : Nat) : Int) = rctxN t + 1 by omega, w64 (n := rctxN t + 1 - (rctxN t + 1)) (by omega)]
      have d2 : ¬ (0 : Int) > rctxN t + 1 - (rctxN t + 1) := by omega
      simp only [d2, decide_false, Bool.false_eq_true, if_false, Option.bind_some, decide_true, Bool.not_true]
      rw [w64 (n := 0 + (rctxN t + 1)) (by omega), w64 (n := 0 + (rctxN t + 1) - 1) (by omega), show 0 + (rctxN t + 1) - 1 = 0 + rctxN t by omega]
      have hf := fresh_at hk (n := rctxN t + 1) (by omega) (by omega)
      obtain ⟨q, r, e1, e2, rfl, hq⟩ := rput_rows (o4 := o4) ho hb hr (base := 0) (N := (rctxN t + 1).toNat) (by omega) (by omega) (B := 0) (by decide) hf
      simp only [withR] at e1
      rw [e1, e2]
      simp only [Option.bind_some, decide_true, Bool.not_true, Bool.false_eq_true, if_false]
      obtain ⟨c, g1, g2, g3⟩ := end_at hq (by decide)
      rw [g1, g2]
      exact ⟨c, 0, rfl, rfl, by omega⟩
    · simp only [hv, Bool.not_false, if_true, Option.bind_some, Sum.elim_inr]
      exact ⟨[], 30, by simp, by simp, by simp⟩
  · simp only [ho, decide_false, Bool.not_false, if_true]
    exact ⟨[], 2, rfl, rfl, by simp⟩
end Go.Proofs.YtkccnhkhjncpkaaGreat.P
