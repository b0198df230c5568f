/- A generic region's code: the program against its reference. -/
import Derived.Test.YtkccnhkhjncpkaaGreatPureGen2
namespace Go.Proofs.YtkccnhkhjncpkaaGreat.P
open Go Go.Proofs.YtkccnhkhjncpkaaGreat.V
set_option linter.unusedVariables false
set_option linter.unusedSimpArgs false

theorem bmp0 : Bmp 0 0 [] := ⟨by decide, by decide, by decide, by decide, by decide, by decide, by simp⟩
theorem skip0 (w h : Int) : SkipOk w h 0 0 [] := ⟨bmp0, .inl ⟨rfl, rfl⟩⟩
/-- the end of a code: both the same, and not long -/
theorem end_at {N B : Nat} {s : EncS} (h : EncAt N B s) (hB : B ≤ 1000000000) : ∃ c, coder_Encoder_End s.1 s.2.1 s.2.2.1 s.2.2.2.1 s.2.2.2.2 = some (c, s) ∧ ref02_Encoder_End s.1 s.2.1 s.2.2.1 s.2.2.2.1 s.2.2.2.2 = some (c, s) ∧ c.length ≤ B + 4 := by
  obtain ⟨h1, h2, h3⟩ := h
  have hr := refEnd_is (kind := s.1) (st := s.2.2.2.1) (out := s.2.2.2.2) h1.iv (by omega)
  refine ⟨_, (end_is h1.iv (by omega)).trans hr, hr, ?_⟩
  have := (endN_is h1.iv).1
  rw [List.length_append, tbl_len]; omega
/-- a new encoder of a new model of n contexts -/
theorem fresh_at {k n : Int} (hk : k = 0 ∨ k = 1) (h0 : 0 ≤ n) (h1 : n ≤ 8192) : EncAt n.toNat 0 (k, 0, 4294967295, List.replicate n.toNat 0, []) :=
  ⟨(newEncoder_is hk (by simp; omega) (new_states hk _)).2.2, by simp, by simp⟩

theorem genericEncode_is {t a b k w h : Int} {o4 : Bool} {p : List Int} (hp : ∀ x ∈ p, 0 ≤ x) (hl : p.length ≤ 4611686018427387904) :
    ∃ c e, generic_Encode t a b o4 k w h p = some (c, e) ∧ ref07_Encode t a b o4 k w h p = some (c, e) ∧ c.length ≤ 200000 := by
  rw [generic_Encode_eq, ref07_Encode_eq, genValid_is, size07_is]
  simp only [Option.bind_some]
  by_cases ho : OptOk t a b k
  · obtain ⟨c0, c1⟩ := ctxN_small t
    have hk : k = 0 ∨ k = 1 := ho.2.2.2.2.2.2.2
    have hkind := hk
    simp only [ho, decide_true, Bool.not_true, Bool.false_eq_true, if_false, if_true, contexts_is, Option.bind_some]
    rw [w64 (n := ctxN t + 1) (by omega), (new_is hk (n := ctxN t + 1) (by omega) (by omega)).1, (new_is hk (n := ctxN t + 1) (by omega) (by omega)).2, bitmapValid_is hl]
    simp only [Option.bind_some]
    obtain ⟨n1, n2, n3⟩ := newEncoder_is hk (st := List.replicate (ctxN t + 1).toNat 0) (by simp; omega) (new_states hk _)
    rw [n1, n2]
    simp only [Option.bind_some, Sum.elim_inl]
    rw [ref07_Put_eq, refValid_is, Valid05_is hl, Valid05_is (by simp), bmp0.b]
    simp only [ho, decide_true, Bool.not_true, Bool.false_eq_true, if_false, Option.bind_some]
    by_cases hb : bmpB w h p = true
    · have hB := bmpB_of hp hb
      simp only [hb, Bool.not_true, Bool.false_eq_true, if_false, Option.bind_some]
      have hloop : loop (ref07_Put_loop6 w h p 0 0 []) 0 = some (Sum.inl ()) := by
        refine loop_done ?_
        unfold ref07_Put_loop6
        have e : ((if decide ((0 : Int) < h) = true then (if decide (w = 0) = true then some (decide (h = 0)) else some false) else some false) : Option Bool) = some false := by
          simp only [iteD]
          by_cases h0 : 0 < h
          · rw [if_pos h0]
            split
            · simp; omega
            · rfl
          · rw [if_neg h0]
        rw [e]
        rfl
      rw [hloop]
      simp only [Option.bind_some, Sum.elim_inl]
      rw [ref02_Encoder_Model_eq, (clone_is (kind := k) (st := List.replicate (ctxN t + 1).toNat 0) (by simp; omega)).2]
      simp only [Option.bind_some, List.length_replicate]
      rw [ref07_room_eq, size07_is, ref07_none_eq]
      simp only [ho, if_true, Option.bind_some, decide_true, Bool.not_true, Bool.false_eq_true, if_false]
      rw [show (((ctxN t + 1).toNat : Nat) : Int) = ctxN t + 1 by omega, show ctxN t + 1 - 0 = ctxN t + 1 by omega, w64 (n := ctxN t + 1) (by omega)]
      have d1 : ¬ (0 : Int) < 0 := by decide
      have d2 : ¬ (0 : Int) > ctxN t + 1 := by omega
      have d3 : ¬ ctxN t + 1 > ctxN t + 1 := by omega
      simp only [d1, d2, d3, decide_false, Bool.false_eq_true, if_false, Option.bind_some, decide_true, Bool.not_true, size07_is, ho, if_true]
      have hf := fresh_at hk (n := ctxN t + 1) (by omega) (by omega)
      obtain ⟨q, r, e1, e2, rfl, hr⟩ := put_rows (o4 := o4) ho hB (skip0 w h) (base := 0) (N := (ctxN t + 1).toNat) (by omega) (by omega) (B := 0) (by decide) hf
      simp only [withP] at e1
      rw [generic_put_eq, newPlane_is (by have := hb; unfold bmpB at this; rw [Bool.and_eq_true] at this; exact this.1)]
      simp only [Option.bind_some]
      rw [e1, e2]
      simp only [Option.bind_some, decide_true, Bool.not_true, Bool.false_eq_true, if_false]
      obtain ⟨c, g1, g2, g3⟩ := end_at hr (by decide)
      rw [g1, g2]
      exact ⟨c, 0, rfl, rfl, by omega⟩
    · simp only [hb, Bool.not_false, if_true, Option.bind_some]
      exact ⟨[], 30, by simp, by simp, by simp⟩
  · simp only [ho, decide_false, Bool.not_false, if_true, if_false]
    exact ⟨[], 2, rfl, by simp, by simp⟩
end Go.Proofs.YtkccnhkhjncpkaaGreat.P
