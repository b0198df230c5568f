/- Texts PureId, PureBase4, PureSym, PureSym2, PureSym3, PureSym4, PureSym5, PureSym6, PureTxt, PureTxt2, PureTxt3, PureTxt4, PureTxt5, PureTxt6, PureShapes, one behind the other. -/
import Derived.Test.YtkccnhkhjncpkaaGreatPure1
import Derived.Test.YtkccnhkhjncpkaaGreatF
set_option linter.unusedVariables false
set_option linter.unusedSimpArgs false
set_option maxRecDepth 10000
namespace Go.Proofs.YtkccnhkhjncpkaaGreat.P
open Go Go.Proofs.YtkccnhkhjncpkaaGreat.V
def widN (n : Nat) : Int := if n ≤ 1 then 0 else if n ≤ 2 then 1 else if n ≤ 4 then 2 else if n ≤ 8 then 3 else if n ≤ 16 then 4 else if n ≤ 32 then 5 else 6
theorem wid_num : ∀ n : Fin 65, number_Width ((n.val : Nat) : Int) = some (widN n.val) := by
 intro n
 rw [number_Width_eq]
 by_cases h : (((n.val : Nat) : Int) < 1)
 ·rw [if_pos (by simpa using h)]
  have : n.val ≤ 1 := by omega
  unfold widN; rw [if_pos this]
 rw [if_neg (by simpa using h)]
 show (math_bits_Len (IntKind.u64.wrap (IntKind.i64.wrap (((n.val : Nat) : Int) - 1)))).bind (fun q => some q) = _
 rw [math_bits_Len_eq, math_bits_Len64_eq]
 revert n
 decide +kernel
theorem wid_loop : ∀ n : Fin 65, V.iter (ref03_Width_loop2 ((n.val : Nat) : Int)) 8 0 = some (widN n.val) := by decide +kernel
theorem wid_after : ∀ n : Fin 65, (0 ≤ widN n.val ∧ widN n.val ≤ 6) ∧ ((n.val : Nat) : Int) ≤ ishl .i64 1 (widN n.val) := by decide +kernel
theorem wid_is {n : Nat} (h2 : n ≤ 64) : number_Width (n : Int) = some (widN n) ∧ ref03_Width (n : Int) = some (widN n) ∧ (0 ≤ widN n ∧ widN n ≤ 6) ∧ (n : Int) ≤ ishl .i64 1 (widN n) := by
 obtain ⟨g1, g2⟩ := wid_after ⟨n, by omega⟩
 refine ⟨wid_num ⟨n, by omega⟩, ?_, g1, g2⟩
 rw [ref03_Width_eq, loop_of_iter (wid_loop ⟨n, by omega⟩)]
 simp only [Option.bind_some, iteD]
 simp only at g1 g2
 rw [if_neg (by omega), if_neg (by omega)]
theorem pow_wid : ∀ k : Fin 7, ishl .i64 1 ((k.val : Nat) : Int) = 2 ^ k.val := by decide +kernel
theorem ipow_le {a b : Nat} (h : a ≤ b) : (2 : Int) ^ a ≤ 2 ^ b := by
 have := Nat.pow_le_pow_right (show 0 < 2 by decide) h
 exact_mod_cast this
theorem p128 {p : Int} {i : Nat} (h : p < 2 ^ (6 - i + 1)) : p < 128 := by
 have : (2 : Int) ^ (6 - i + 1) ≤ 2 ^ 7 := ipow_le (by omega)
 rw [show (2 : Int) ^ 7 = 128 by decide] at this
 omega
/-- the events of an id -/
def idEv (id : Int) : Nat → Int → List Event
 | 0, _ => []
 | i + 1, p => ⟨p - 1, iand .i64 (ishr .i64 id (i : Int)) 1⟩ :: idEv id i (2 * p + iand .i64 (ishr .i64 id (i : Int)) 1)
theorem bit01 (a : Int) : iand .i64 a 1 = 0 ∨ iand .i64 a 1 = 1 := by
 unfold iand
 rw [show IntKind.i64.bits = 64 from rfl, show BitVec.ofInt 64 1 = 1#64 from rfl, BitVec.toNat_and]
 have h : (BitVec.ofInt 64 a).toNat &&& (1#64).toNat < 2 := Nat.lt_of_le_of_lt Nat.and_le_right (by decide)
 rw [w64 (by omega)]
 omega
theorem id_events {base id : Int} (hb : 0 ≤ base ∧ base ≤ 100000) : ∀ (i : Nat) (p : Int) (acc : List Event), i ≤ 6 → 1 ≤ p → p < 2 ^ (6 - i + 1) → acc.length + i ≤ 100 →
  loop (number_PutId_loop11 base id) (p, (i : Int) - 1, acc) = some (acc ++ (idEv id i p).map (shiftE base))
 | 0, p, acc, _, _, _, _ => by
  refine loop_done ?_
  unfold number_PutId_loop11
  simp [idEv]
 | i + 1, p, acc, hi, h1, h2, hl => by
  have hp6 : p < 128 := p128 h2
  have e : (((i + 1 : Nat) : Int) - 1) = (i : Int) := by omega
  rw [e]
  have hbit := bit01 (ishr .i64 id (i : Int))
  rw [loop_step (s' := (2 * p + iand .i64 (ishr .i64 id (i : Int)) 1, (i : Int) - 1, acc ++ [⟨base + (p - 1), iand .i64 (ishr .i64 id (i : Int)) 1⟩]))]
  ·rw [id_events hb i _ _ (by omega) (by omega) ?_ (by simp; omega)]
   ·simp [idEv, shiftE]
   ·have : (2 : Int) ^ (6 - i + 1) = 2 * 2 ^ (6 - (i + 1) + 1) := by rw [show 6 - i + 1 = (6 - (i + 1) + 1) + 1 by omega, Int.pow_succ]; omega
    omega
  ·unfold number_PutId_loop11
   simp only [iteD]
   rw [if_pos (by omega), if_neg (by omega), w64 (n := base + p) (by omega), w64 (n := base + p - 1) (by omega), w64 (n := 2 * p) (by omega), w64 (n := 2 * p + _) (by omega), w64 (n := (i : Int) - 1) (by omega), if_pos (by simp; omega),
    show base + p - 1 = base + (p - 1) by omega]
theorem idEv_len (id : Int) : ∀ i p, (idEv id i p).length = i
 | 0, _ => rfl
 | i + 1, p => by simp [idEv, idEv_len id i]
theorem idEv_ok {base id : Int} {N : Nat} {k : Nat} (hb : 0 ≤ base ∧ base + (2 ^ k - 1) ≤ (N : Int)) : ∀ (i : Nat) (p : Int), i ≤ k → 1 ≤ p → p < 2 ^ (k - i + 1) → p * 2 ^ i < 2 ^ (k + 1) → ∀ e ∈ idEv id i p, EvOk base N e
 | 0, p, _, _, _, _, e, he => by simp [idEv] at he
 | i + 1, p, hi, h1, h2, h3, e, he => by
  have hbit := bit01 (ishr .i64 id (i : Int))
  have e2 : (2 : Int) ^ (k - i) ≤ 2 ^ k := ipow_le (by omega)
  rw [show k - (i + 1) + 1 = k - i by omega] at h2
  have e1 : (2 : Int) ^ (k - i + 1) = 2 * 2 ^ (k - i) := by rw [Int.pow_succ]; omega
  have e3 : (2 : Int) ^ (k + 1) = 2 * 2 ^ k := by rw [Int.pow_succ]; omega
  have e4 : (2 : Int) ^ (k - i) * 2 ^ i = 2 ^ k := by rw [← Int.pow_add, show k - i + i = k by omega]
  simp only [idEv, List.mem_cons] at he
  rcases he with rfl | he
  ·exact ⟨⟨by show 0 ≤ base + (p - 1); omega, by show base + (p - 1) < _; omega⟩, hbit⟩
  ·refine idEv_ok hb i _ (by omega) (by omega) (by omega) ?_ e he
   have h0 : (0 : Int) < 2 ^ i := Int.pow_pos (by decide)
   have : (2 * p + iand .i64 (ishr .i64 id (i : Int)) 1) * 2 ^ i < (2 * 2 ^ (k - i)) * 2 ^ i := Int.mul_lt_mul_of_pos_right (by omega) h0
   rw [Int.mul_assoc, e4] at this
   omega
theorem id_put {base id : Int} {N : Nat} (hb : 0 ≤ base ∧ base ≤ 100000) (hN : N ≤ 1000000) : ∀ (i : Nat) (p : Int) (B : Nat) (s : EncS) (r : EncS), i ≤ 6 → 1 ≤ p → p < 2 ^ (6 - i + 1) → (∀ e ∈ idEv id i p, EvOk base N e) → EncAt N B s → B ≤ 100000000 →
  overL number_put_loop2_step (fun s => some (Sum.inl (s.1, s.2.1, s.2.2.1, s.2.2.2.1, s.2.2.2.2))) 0 ((idEv id i p).map (shiftE base)) s = some (Sum.inl r) →
  loop (ref03_PutId_loop5 base id) (p, (i : Int) - 1, s) = some r := by
 intro i
 suffices H : ∀ (n : Nat) (p : Int) (B : Nat) (s : EncS) (r : EncS), i ≤ 6 → 1 ≤ p → p < 2 ^ (6 - i + 1) → (∀ e ∈ idEv id i p, EvOk base N e) → EncAt N B s → B ≤ 1000000000 - 4 * i →
  overL number_put_loop2_step (fun s => some (Sum.inl (s.1, s.2.1, s.2.2.1, s.2.2.2.1, s.2.2.2.2))) n ((idEv id i p).map (shiftE base)) s = some (Sum.inl r) →
  loop (ref03_PutId_loop5 base id) (p, (i : Int) - 1, s) = some r by
  intro p B s r h1 h2 h3 h4 h5 h6 h7
  exact H 0 p B s r h1 h2 h3 h4 h5 (by omega) h7
 induction i with
 | zero =>
  intro n p B s r _ _ _ _ _ _ h
  simp only [idEv, List.map_nil, overL_nil, Option.some.injEq, Sum.inl.injEq] at h
  refine loop_done ?_
  unfold ref03_PutId_loop5
  simp [← h]
 | succ i ih =>
  intro n p B s r hi h1 h2 he hs hB h
  have hp6 : p < 128 := p128 h2
  have e : (((i + 1 : Nat) : Int) - 1) = (i : Int) := by omega
  rw [e]
  have hbit := bit01 (ishr .i64 id (i : Int))
  obtain ⟨⟨c0, c1⟩, _⟩ := he _ (by rw [idEv]; exact List.mem_cons_self)
  simp only at c0 c1
  obtain ⟨s', e1, e2, e3⟩ := put_at hs (c := base + (p - 1)) ⟨c0, c1⟩ hbit (by omega)
  rw [idEv, List.map_cons, overL_next (s' := s') (by
   unfold number_put_loop2_step shiftE
   simp only
   rw [e1]
   rfl)] at h
  rw [loop_step (s' := (2 * p + iand .i64 (ishr .i64 id (i : Int)) 1, (i : Int) - 1, s'))]
  ·refine ih (n + 1) _ (B + 4) s' r (by omega) (by omega) ?_ (fun e q => he e (by rw [idEv]; exact List.mem_cons_of_mem _ q)) e3 (by omega) h
   have : (2 : Int) ^ (6 - i + 1) = 2 * 2 ^ (6 - (i + 1) + 1) := by rw [show 6 - i + 1 = (6 - (i + 1) + 1) + 1 by omega, Int.pow_succ]; omega
   omega
  ·unfold ref03_PutId_loop5
   simp only [iteD]
   rw [if_pos (by omega), if_neg (by omega), w64 (n := base + p) (by omega), w64 (n := base + p - 1) (by omega), show base + p - 1 = base + (p - 1) by omega, e2]
   simp only [Option.bind_some]
   rw [w64 (n := 2 * p) (by omega), w64 (n := 2 * p + _) (by omega), w64 (n := (i : Int) - 1) (by omega)]
/-- an id that fits its place -/
theorem numberPutId_is {base id : Int} {k N B : Nat} {s : EncS} (hk : k ≤ 6) (hb : 0 ≤ base ∧ base + (2 ^ k - 1) ≤ (N : Int)) (hN : N ≤ 8192) (hi : 0 ≤ id ∧ id < 2 ^ k) (h : EncAt N B s) (hB : B ≤ 100000000) :
  ∃ r, number_PutId base (k : Int) id s.1 s.2.1 s.2.2.1 s.2.2.2.1 s.2.2.2.2 = some (0, r) ∧ ref03_PutId base (k : Int) id s.1 s.2.1 s.2.2.1 s.2.2.2.1 s.2.2.2.2 = some (0, r) ∧ EncAt N (B + 400) r := by
 have hlen := h.2.1
 have ec := clone_is (kind := s.1) (st := s.2.2.2.1) (by rw [hlen]; exact hN)
 have hpow := pow_wid ⟨k, by omega⟩
 simp only at hpow
 have h0 : (0 : Int) < 2 ^ k := Int.pow_pos (by decide)
 have h64 : (2 : Int) ^ k ≤ 64 := by have := ipow_le hk; rwa [show (2 : Int) ^ 6 = 64 by decide] at this
 have hev : ∀ e ∈ idEv id k 1, EvOk base N e := idEv_ok hb k 1 (Nat.le_refl _) (by decide) (by rw [Nat.sub_self]; decide) (by rw [Int.one_mul, Int.pow_succ]; omega)
 have hone : (1 : Int) < 2 ^ (6 - k + 1) := by
  have : (2 : Int) ^ 1 ≤ 2 ^ (6 - k + 1) := ipow_le (by omega)
  omega
 obtain ⟨r, r1, r2, r3⟩ := put_overs (l := idEv id k 1) (by rw [idEv_len]; omega) (show -1000000 ≤ base ∧ base ≤ 1000000 by omega) (show N ≤ 1000000 by omega) hev (idEv id k 1) 0 B s rfl h (by rw [idEv_len]; omega)
 rw [idEv_len] at r3
 refine ⟨r, ?_, ?_, r3.1, r3.2.1, by have := r3.2.2; omega⟩
 ·rw [number_PutId_eq, putNone_is]
  simp only [Option.bind_some, show ¬ ((2 : Int) = 7) by decide, decide_false, Bool.false_eq_true, if_false, iteD, hpow]
  rw [if_neg (by omega), if_neg (by omega), if_neg (by omega), if_neg (by omega)]
  have hn : ¬ id ≥ 2 ^ k := by omega
  simp only [Option.bind_some, hn, decide_false, Bool.false_eq_true, if_false]
  rw [coder_Encoder_Model_eq, coder_Encoder_none_eq]
  simp only [Option.bind_some, Bool.false_eq_true, if_false, ec.1]
  rw [if_neg (by omega), number_fits_eq]
  simp only [iteD]
  rw [w64 (n := 2 ^ k - 1) (by omega), if_neg (by omega), w64 (by omega), if_neg (by omega)]
  simp only [Option.bind_some, decide_true, Bool.not_true, Bool.false_eq_true, if_false]
  rw [w64 (n := (k : Int) - 1) (by omega), id_events (show 0 ≤ base ∧ base ≤ 100000 by omega) k 1 [] hk (by decide) hone (by simp; omega), List.nil_append]
  simp only [Option.bind_some]
  rw [number_put_eq]
  have lo := number_put_loop2_over ((idEv id k 1).map (shiftE base)) (by rw [List.length_map, idEv_len]; omega) s
  rw [lo]
  have r1' : overL number_put_loop2_step (fun (s25 : Int × Int × Int × (List Int) × (List Int)) => let b26 := s25.1; let b27 := s25.2.1; let b28 := s25.2.2.1; let b29 := s25.2.2.2.1; let b30 := s25.2.2.2.2; some (Sum.inl (b26, b27, b28, b29, b30))) 0 ((idEv id k 1).map (shiftE base)) s = some (Sum.inl r) := r1
  simp only at r1'
  rw [r1']
  rfl
 ·rw [ref03_PutId_eq, ref03_isId_eq]
  simp only [iteD, hpow]
  rw [if_pos (by omega), if_pos (by omega), if_pos (by omega), if_neg (by omega)]
  have hn : id < 2 ^ k := hi.2
  simp only [Option.bind_some, hn, decide_true, Bool.not_true, Bool.false_eq_true, if_false]
  rw [ref02_Encoder_Model_eq, ec.2]
  simp only [Option.bind_some]
  rw [if_neg (by omega), ref03_room_eq, w64 (n := 2 ^ k - 1) (by omega)]
  simp only [iteD]
  rw [if_pos (by omega), if_pos (by omega), w64 (by omega)]
  have : (2 ^ k - 1 : Int) ≤ ((s.2.2.2.1.length : Nat) : Int) - base := by omega
  simp only [this, decide_true, Option.bind_some, Bool.not_true, Bool.false_eq_true, if_false]
  rw [w64 (n := (k : Int) - 1) (by omega), id_put (show 0 ≤ base ∧ base ≤ 100000 by omega) (show N ≤ 1000000 by omega) k 1 B s r hk (by decide) hone hev h hB r1]
  rfl
theorem clash0 {w h : Int} {p : List Int} (hl : p.length ≤ 9223372036854775807) : generic_clash w h p 0 0 [] = some false := by
 rw [generic_clash_eq, generic_clash_loop2_over w h p 0 0 [] hl ()]
 rw [overL_inv (f := generic_clash_loop2_step w h 0 0 []) (fun _ => ()) p 0 (fun k x hk => by
  unfold generic_clash_loop2_step
  simp only [iteD]
  by_cases g : x = 1
  ·rw [if_pos g, generic_sides_eq]
   simp only [decide_true, if_true, Option.bind_some]
   rw [generic_skips_eq]
   simp
  ·rw [if_neg g])]
 rfl
theorem clashR0 {w h : Int} {p : List Int} : loop (ref07_Put_loop6 w h p 0 0 []) 0 = some (Sum.inl ()) := by
 refine loop_done ?_
 unfold ref07_Put_loop6
 have e : ((if decide ((0 : Int) < h) = true then (if decide (w = 0) = true then some (decide (h = 0)) else some false) else some false) : Option Bool) = some false := by
  simp only [iteD]
  by_cases h0 : 0 < h
  ·rw [if_pos h0]
   split
   ·simp; omega
   ·rfl
  ·rw [if_neg h0]
 rw [e]
 rfl
theorem genSize0_is {t a b k : Int} {o4 : Bool} (ho : OptOk t a b k) : generic_Size t a b o4 k = some (ctxN t + 1, 0) := by
 have := ctxN_small t
 rw [generic_Size_eq, genValid_is, contexts_is]
 simp only [ho, decide_true, Bool.not_true, Bool.false_eq_true, if_false, Option.bind_some]
 rw [w64 (by omega)]
/-- a region that is put from a base on -/
theorem genPut_is {t a b k base w h : Int} {o4 : Bool} {p : List Int} {N B : Nat} (ho : OptOk t a b k) (hp : Bmp w h p) (hb : 0 ≤ base ∧ base + ctxN t < (N : Int)) (hN : N ≤ 8192) (hB : B ≤ 100000000) {s : EncS} (hs : EncAt N B s) :
  ∃ r, generic_Put base t a b o4 k w h p 0 0 [] s.1 s.2.1 s.2.2.1 s.2.2.2.1 s.2.2.2.2 = some (0, r) ∧ ref07_Put base t a b o4 k w h p 0 0 [] s.1 s.2.1 s.2.2.1 s.2.2.2.1 s.2.2.2.2 = some (0, r) ∧ EncAt N (B + 804 * 200) r := by
 obtain ⟨c0, c1⟩ := ctxN_small t
 have hlen := hs.2.1
 have lp := hp.2.2.2.2.2.1
 have l3 := hp.2.2.2.2.1
 obtain ⟨q, r, e1, e2, rfl, hr⟩ := put_rows (o4 := o4) ho hp (skip0 w h) hb (by omega) hB hs
 simp only [withP] at e1
 have hside : sidesB w h = true := sidesB_iff.2 ⟨hp.1, hp.2.1, hp.2.2.1, hp.2.2.2.1, hp.2.2.2.2.1⟩
 have ec := clone_is (kind := s.1) (st := s.2.2.2.1) (by rw [hlen]; omega)
 refine ⟨r, ?_, ?_, hr⟩
 ·rw [generic_Put_eq, putNone_is]
  simp only [Option.bind_some]
  rw [genValid_is, bitmapValid_is (by omega), bitmapValid_is (by simp), hp.b, bmp0.b, clash0 (by omega), generic_sides_eq, coder_Encoder_Model_eq, coder_Encoder_none_eq]
  simp only [Option.bind_some, ho, decide_true, Bool.not_true, Bool.false_eq_true, if_false, if_true, show ¬ ((2 : Int) = 7) by decide, decide_false, ec.1]
  rw [generic_fits_eq, contexts_is]
  simp only [Option.bind_some]
  rw [w64 (n := ((s.2.2.2.1.length : Nat) : Int) - ctxN t) (by omega), w64 (n := ((s.2.2.2.1.length : Nat) : Int) - ctxN t - 1) (by omega)]
  have f1 : base ≥ 0 := by omega
  have f2 : base ≤ ((s.2.2.2.1.length : Nat) : Int) - ctxN t - 1 := by omega
  simp only [f1, f2, decide_true, if_true, Option.bind_some, Bool.not_true, Bool.false_eq_true, if_false]
  rw [generic_put_eq, newPlane_is hside]
  simp only [Option.bind_some]
  rw [e1]
  rfl
 ·rw [ref07_Put_eq, refValid_is, Valid05_is (by omega), Valid05_is (by simp), hp.b, bmp0.b, clashR0]
  simp only [Option.bind_some, ho, decide_true, Bool.not_true, Bool.false_eq_true, if_false, Sum.elim_inl]
  rw [ref02_Encoder_Model_eq, ec.2]
  simp only [Option.bind_some]
  rw [ref07_room_eq, size07_is, ref07_none_eq]
  have d1 : ¬ base < 0 := by omega
  have d2 : ¬ base > ((s.2.2.2.1.length : Nat) : Int) := by omega
  have d3 : ¬ ctxN t + 1 > ((s.2.2.2.1.length : Nat) : Int) - base := by omega
  simp only [ho, if_true, Option.bind_some, decide_true, Bool.not_true, Bool.false_eq_true, if_false]
  rw [w64 (n := ((s.2.2.2.1.length : Nat) : Int) - base) (by omega)]
  simp only [d1, d2, d3, decide_true, decide_false, Bool.not_true, Bool.false_eq_true, if_false, Option.bind_some]
  rw [e2]
  rfl
theorem rctxN_small (t : Int) : 0 < rctxN t ∧ rctxN t ≤ 512 := by unfold rctxN; split <;> decide
/-- a refinement that is put from a base on -/
theorem refPut08_is {t dx dy k base w h rw rh : Int} {o4 : Bool} {p rp : List Int} {N B : Nat} (ho : RefOk t dx dy k) (hp : Bmp w h p) (hr : Bmp rw rh rp) (hb : 0 ≤ base ∧ base + rctxN t < (N : Int)) (hN : N ≤ 8192) (hB : B ≤ 100000000) {s : EncS} (hs : EncAt N B s) :
  ∃ r, refine_Put base t dx dy o4 k w h p rw rh rp s.1 s.2.1 s.2.2.1 s.2.2.2.1 s.2.2.2.2 = some (0, r) ∧ ref08_Put base t dx dy o4 k w h p rw rh rp s.1 s.2.1 s.2.2.1 s.2.2.2.1 s.2.2.2.2 = some (0, r) ∧ EncAt N (B + 804 * 200) r := by
 obtain ⟨c0, c1⟩ := rctxN_small t
 have hlen := hs.2.1
 have lp := hp.2.2.2.2.2.1
 have l3 := hp.2.2.2.2.1
 have lr := hr.2.2.2.2.2.1
 have l4 := hr.2.2.2.2.1
 obtain ⟨q, r, e1, e2, rfl, hq⟩ := rput_rows (o4 := o4) ho hp hr hb (by omega) hB hs
 simp only [withR] at e1
 have ec := clone_is (kind := s.1) (st := s.2.2.2.1) (by rw [hlen]; omega)
 refine ⟨r, ?_, ?_, hq⟩
 ·rw [refine_Put_eq, putNone_is]
  simp only [Option.bind_some]
  rw [refineValid_is, bitmapValid_is (by omega), bitmapValid_is (by omega), hp.b, hr.b, coder_Encoder_Model_eq, coder_Encoder_none_eq]
  simp only [Option.bind_some, ho, decide_true, Bool.not_true, Bool.false_eq_true, if_false, show ¬ ((2 : Int) = 7) by decide, decide_false, ec.1]
  rw [refine_fits_eq, rcontexts_is]
  simp only [Option.bind_some]
  rw [w64 (n := ((s.2.2.2.1.length : Nat) : Int) - rctxN t) (by omega), w64 (n := ((s.2.2.2.1.length : Nat) : Int) - rctxN t - 1) (by omega)]
  have f1 : base ≥ 0 := by omega
  have f2 : base ≤ ((s.2.2.2.1.length : Nat) : Int) - rctxN t - 1 := by omega
  simp only [f1, f2, decide_true, if_true, Option.bind_some, Bool.not_true, Bool.false_eq_true, if_false, Sum.elim_inl]
  rw [refine_newRegion_eq]
  simp only [Option.bind_some]
  rw [e1]
  rfl
 ·rw [ref08_Put_eq, IsBitmap_is (by omega), IsBitmap_is (by omega), hp.b, hr.b]
  simp only [Option.bind_some, if_true]
  rw [ref08_asked_eq, ref08Valid_is, size08_is]
  simp only [ho, decide_true, Option.bind_some, Bool.not_true, Bool.false_eq_true, if_false]
  rw [w64 (n := ((s.2.2.2.1.length : Nat) : Int) - (rctxN t + 1)) (by omega)]
  have d1 : ¬ base < 0 := by omega
  have d2 : ¬ base > ((s.2.2.2.1.length : Nat) : Int) - (rctxN t + 1) := by omega
  simp only [d1, d2, decide_false, Bool.false_eq_true, if_false, Option.bind_some, decide_true, Bool.not_true]
  rw [w64 (n := base + (rctxN t + 1)) (by omega), w64 (n := base + (rctxN t + 1) - 1) (by omega), show base + (rctxN t + 1) - 1 = base + rctxN t by omega, e2]
  rfl
/-! ### Where contexts lie -/
def dirN (kk : Nat) : Int := 240 + 2 ^ kk
def likN (kk : Nat) (t : Int) : Int := dirN kk + (ctxN t + 1)
def sizN (kk : Nat) (t o6 : Int) : Int := likN kk t + (rctxN o6 + 1)
theorem dirN_small {kk : Nat} (h : kk ≤ 6) : 241 ≤ dirN kk ∧ dirN kk ≤ 304 := by
 have h0 : (2 : Int) ^ 0 ≤ 2 ^ kk := ipow_le (by omega)
 have h6 : (2 : Int) ^ kk ≤ 2 ^ 6 := ipow_le h
 rw [show (2 : Int) ^ 6 = 64 by decide] at h6
 rw [show (2 : Int) ^ 0 = 1 by decide] at h0
 unfold dirN; omega
theorem sizN_small {kk : Nat} (h : kk ≤ 6) (t o6 : Int) : likN kk t = dirN kk + (ctxN t + 1) ∧ sizN kk t o6 = likN kk t + (rctxN o6 + 1) ∧ (0 < ctxN t ∧ ctxN t ≤ 2048) ∧ (0 < rctxN o6 ∧ rctxN o6 ≤ 512) ∧ 241 ≤ dirN kk ∧ dirN kk ≤ 304 :=
 ⟨rfl, rfl, ctxN_small t, rctxN_small o6, dirN_small h⟩
/-! ### A writer -/
abbrev WS := Int × Int × Int × Bool × Int × Int × Int × Int × Int × Int × Int × Int × Int × List Int × List Int × List Bitmap
def withW (t a b : Int) (o4 : Bool) (k o6 : Int) (kk : Nat) (s : EncS) (all : List Bitmap) : WS :=
 (t, a, b, o4, k, o6, (kk : Int), dirN kk, likN kk t, sizN kk t o6, s.1, s.2.1, s.2.2.1, s.2.2.2.1, s.2.2.2.2, all)
def wW {R : Type} (f : Int → Int → Int → Bool → Int → Int → Int → Int → Int → Int → Int → Int → Int → List Int → List Int → List Bitmap → R) (w : WS) : R :=
 f w.1 w.2.1 w.2.2.1 w.2.2.2.1 w.2.2.2.2.1 w.2.2.2.2.2.1 w.2.2.2.2.2.2.1 w.2.2.2.2.2.2.2.1 w.2.2.2.2.2.2.2.2.1 w.2.2.2.2.2.2.2.2.2.1 w.2.2.2.2.2.2.2.2.2.2.1 w.2.2.2.2.2.2.2.2.2.2.2.1 w.2.2.2.2.2.2.2.2.2.2.2.2.1 w.2.2.2.2.2.2.2.2.2.2.2.2.2.1 w.2.2.2.2.2.2.2.2.2.2.2.2.2.2.1 w.2.2.2.2.2.2.2.2.2.2.2.2.2.2.2
def SymOk (t a b : Int) (o4 : Bool) (k o6 : Int) : Prop := OptOk t a b k ∧ o4 = false ∧ (o6 = 0 ∨ o6 = 1)
def mkB (x : Shape) : Bitmap := ⟨x.pix_w, x.pix_h, x.pix_pix⟩
def ShpOk (w h : Int) (p : List Int) : Prop := Bmp w h p ∧ 1 ≤ w ∧ w ≤ 40 ∧ 1 ≤ h ∧ h ≤ 40
section
variable {t a b k o6 : Int} {o4 : Bool} {kk : Nat}
theorem wput_is {at_ n : Int} {s : EncS} {all : List Bitmap} {B : Nat} (hk : kk ≤ 6) (ha : 0 ≤ at_ ∧ at_ ≤ 192) (hn : -1000000 ≤ n ∧ n ≤ 1000000) (hs : EncAt (sizN kk t o6).toNat B s) (hB : B ≤ 100000000) :
  ∃ r, wW (symbol_writer_put at_ n) (withW t a b o4 k o6 kk s all) = some (withW t a b o4 k o6 kk r all) ∧ ref03_Put at_ false n s.1 s.2.1 s.2.2.1 s.2.2.2.1 s.2.2.2.2 = some (0, r) ∧ EncAt (sizN kk t o6).toNat (B + 400) r := by
 obtain ⟨e1, e2, c1, c2, d1⟩ := sizN_small hk t o6
 obtain ⟨r, r1, r2, r3⟩ := numberPut_is (base := at_) (n := n) (none_ := false) (by omega) (by omega) (by simp; omega) hs hB
 refine ⟨r, ?_, r2, r3⟩
 simp only [wW, withW]
 rw [symbol_writer_put_eq, r1]
 rfl
/-- what follows a shape's width -/
theorem wshape_is {x : Shape} {s : EncS} {all : List Bitmap} {B : Nat} {f : Bitmap} (hk : kk ≤ 6) (ho : SymOk t a b o4 k o6) (hx : ShpOk x.pix_w x.pix_h x.pix_pix) (hf : x.from_ < 0 ∨ 0 ≤ x.from_ ∧ x.from_ < 2 ^ kk ∧ all[x.from_.toNat]? = some f ∧ Bmp f.w f.h f.pix)
  (hall : all.length ≤ 1000) (hs : EncAt (sizN kk t o6).toNat B s) (hB : B ≤ 90000000) :
  ∃ r, wW (symbol_writer_shape x.pix_w x.pix_h x.pix_pix x.from_) (withW t a b o4 k o6 kk s all) = some (withW t a b o4 k o6 kk r (all ++ [mkB x])) ∧ EncAt (sizN kk t o6).toNat (B + 165000) r ∧
   (x.from_ < 0 ∧ (∃ s1, ref02_Encoder_Put 240 0 s.1 s.2.1 s.2.2.1 s.2.2.2.1 s.2.2.2.2 = some (0, s1) ∧ ref07_Put (dirN kk) t a b o4 k x.pix_w x.pix_h x.pix_pix 0 0 [] s1.1 s1.2.1 s1.2.2.1 s1.2.2.2.1 s1.2.2.2.2 = some (0, r))
   ∨ ¬ x.from_ < 0 ∧ ∃ s1 s2 s3 s4, ref02_Encoder_Put 240 1 s.1 s.2.1 s.2.2.1 s.2.2.2.1 s.2.2.2.2 = some (0, s1) ∧ ref03_PutId 241 (kk : Int) x.from_ s1.1 s1.2.1 s1.2.2.1 s1.2.2.2.1 s1.2.2.2.2 = some (0, s2) ∧ ref03_Put 96 false 0 s2.1 s2.2.1 s2.2.2.1 s2.2.2.2.1 s2.2.2.2.2 = some (0, s3) ∧
    ref03_Put 144 false 0 s3.1 s3.2.1 s3.2.2.1 s3.2.2.2.1 s3.2.2.2.2 = some (0, s4) ∧ ref08_Put (likN kk t) o6 0 0 false k x.pix_w x.pix_h x.pix_pix f.w f.h f.pix s4.1 s4.2.1 s4.2.2.1 s4.2.2.2.1 s4.2.2.2.2 = some (0, r)) := by
 obtain ⟨e1, e2, c1, c2, d1⟩ := sizN_small hk t o6
 obtain ⟨hopt, ho4, ho6⟩ := ho
 have hlen : (all.length + ([Bitmap.mk x.pix_w x.pix_h x.pix_pix] : List Bitmap).length) * 40 ≤ 140737488355328 := by simp; omega
 by_cases hneg : x.from_ < 0
 ·obtain ⟨s1, p1, p2, p3⟩ := put_at hs (c := 240) (b := 0) (by omega) (.inl rfl) (by omega)
  obtain ⟨r, r1, r2, r3⟩ := genPut_is (o4 := o4) hopt hx.1 (base := dirN kk) (by omega) (by omega) (by omega) p3
  refine ⟨r, ?_, ⟨r3.1, r3.2.1, by have := r3.2.2; omega⟩, .inl ⟨hneg, s1, p2, r2⟩⟩
  simp only [wW, withW]
  rw [symbol_writer_shape_eq, p1]
  simp only [hneg, decide_true, if_true, Option.bind_some, r1]
  rw [if_pos hlen]
  rfl
 ·rcases hf with hf | ⟨f0, f1, f2, f3⟩
  ·exact absurd hf hneg
  obtain ⟨s1, p1, p2, p3⟩ := put_at hs (c := 240) (b := 1) (by omega) (.inr rfl) (by omega)
  obtain ⟨s2, q1, q2, q3⟩ := numberPutId_is (base := 241) (id := x.from_) (k := kk) hk (by unfold dirN at *; omega) (by omega) ⟨f0, f1⟩ p3 (by omega)
  obtain ⟨s3, u1, u2, u3⟩ := wput_is (a := a) (b := b) (o4 := o4) (k := k) (all := all) hk (at_ := 96) (n := 0) (by decide) (by decide) q3 (by omega)
  obtain ⟨s4, v1, v2, v3⟩ := wput_is (a := a) (b := b) (o4 := o4) (k := k) (all := all) hk (at_ := 144) (n := 0) (by decide) (by decide) u3 (by omega)
  have hro : RefOk o6 0 0 k := ⟨ho6, hopt.2.2.2.2.2.2.2, by decide, by decide, by decide, by decide⟩
  obtain ⟨r, r1, r2, r3⟩ := refPut08_is (o4 := false) hro hx.1 f3 (base := likN kk t) (by omega) (by omega) (by omega) v3
  refine ⟨r, ?_, ⟨r3.1, r3.2.1, by have := r3.2.2; omega⟩, .inr ⟨hneg, s1, s2, s3, s4, p2, q2, u2, v2, r2⟩⟩
  simp only [wW, withW] at u1 v1 ⊢
  rw [symbol_writer_shape_eq, p1]
  simp only [hneg, decide_false, Bool.false_eq_true, if_false, Option.bind_some, q1, u1, v1]
  rw [symbol_layout_options_eq]
  have hlt := lt_len_of_get f2
  simp only [Option.bind_some]
  rw [if_pos (by omega), f2]
  simp only [Option.bind_some, r1]
  rw [if_pos hlen]
  rfl
end
def pixN (old : List Bitmap) (l : List Shape) (i : Nat) : List Bitmap := old ++ (l.take i).map mkB
theorem pixN_full (old : List Bitmap) (l : List Shape) : pixN old l l.length = old ++ l.map mkB := by unfold pixN; rw [List.take_length]
theorem pixN_get {old : List Bitmap} {l : List Shape} {i : Nat} (hi : i ≤ l.length) {n : Nat} (hn : n < old.length + i) : ∃ f, (pixN old l i)[n]? = some f ∧ (old ++ l.map mkB)[n]? = some f ∧ f ∈ old ++ l.map mkB := by
 have hlen : n < (pixN old l i).length := by unfold pixN; simp; omega
 have e : old ++ l.map mkB = pixN old l i ++ (l.drop i).map mkB := by
  unfold pixN
  rw [List.append_assoc, ← List.map_append, List.take_append_drop]
 refine ⟨(pixN old l i)[n], List.getElem?_eq_getElem hlen, ?_, ?_⟩
 ·rw [e, List.getElem?_append_left hlen, List.getElem?_eq_getElem hlen]
 ·rw [e]; exact List.mem_append_left _ (List.getElem_mem hlen)
theorem pixN_succ {old : List Bitmap} {l : List Shape} {i : Nat} {x : Shape} (h : l[i]? = some x) : pixN old l (i + 1) = pixN old l i ++ [mkB x] := by
 have hlt := lt_len_of_get h
 have hx : l[i] = x := by rw [List.getElem?_eq_getElem hlt] at h; exact Option.some.inj h
 unfold pixN
 rw [List.take_succ_eq_append_getElem hlt, hx]
 simp
theorem pixN_len {old : List Bitmap} {l : List Shape} {i : Nat} : (pixN old l i).length ≤ old.length + l.length := by
 unfold pixN; simp; omega
/-- which new shapes are right -/
def ShapesOk (old : List Bitmap) (l : List Shape) : Prop := (∀ f ∈ old, ShpOk f.w f.h f.pix) ∧ (∀ (i : Nat) x, l[i]? = some x → ShpOk x.pix_w x.pix_h x.pix_pix ∧ -1 ≤ x.from_ ∧ x.from_ < ((old.length : Nat) : Int) + (i : Int)) ∧ old.length + l.length ≤ 60
theorem ShapesOk.all {old : List Bitmap} {l : List Shape} (h : ShapesOk old l) : ∀ f ∈ old ++ l.map mkB, Bmp f.w f.h f.pix := by
 intro f hf
 rcases List.mem_append.1 hf with q | q
 ·exact (h.1 f q).1
 ·obtain ⟨x, hx, rfl⟩ := List.mem_map.1 q
  obtain ⟨i, hi⟩ := List.getElem?_of_mem hx
  exact (h.2.1 i x hi).1.1
section
variable {t a b k o6 : Int} {o4 : Bool} {kk : Nat} {old : List Bitmap} {l : List Shape}
/-- how the reference comes to a shape's width -/
def PreR (x : Shape) (i : Nat) (h0 w0 h W : Int) (s0 s : EncS) : Prop :=
 (0 < i ∧ x.pix_h = h0 ∧ h = h0 ∧ W = w0 ∧ s = s0) ∨
 (i = 0 ∧ ref03_Put 0 false (x.pix_h - h0) s0.1 s0.2.1 s0.2.2.1 s0.2.2.2.1 s0.2.2.2.2 = some (0, s) ∧ h = x.pix_h ∧ W = 0) ∨
 (0 < i ∧ x.pix_h ≠ h0 ∧ (∃ s1 : EncS, ref03_Put 48 true 0 s0.1 s0.2.1 s0.2.2.1 s0.2.2.2.1 s0.2.2.2.2 = some (0, s1) ∧ ref03_Put 0 false (x.pix_h - h0) s1.1 s1.2.1 s1.2.2.1 s1.2.2.2.1 s1.2.2.2.2 = some (0, s)) ∧ h = x.pix_h ∧ W = 0)
theorem shape_step {x : Shape} {i B : Nat} {h0 w0 h W : Int} {s0 s : EncS} (hk : kk ≤ 6) (ho : SymOk t a b o4 k o6) (hS : ShapesOk old l) (hw : ((old.length + l.length : Nat) : Int) ≤ 2 ^ kk) (hw2 : ref03_Width (((old ++ l.map mkB).length : Nat) : Int) = some (kk : Int))
  (hi : l[i]? = some x) (hW : 0 ≤ W ∧ W ≤ 40) (hh0 : 0 ≤ h0 ∧ h0 ≤ 40) (pre : PreR x i h0 w0 h W s0 s) (hs : EncAt (sizN kk t o6).toNat B s) (hB : B ≤ 80000000) :
  ∃ s1 r, wW (symbol_writer_put 48 (x.pix_w - W)) (withW t a b o4 k o6 kk s (pixN old l i)) = some (withW t a b o4 k o6 kk s1 (pixN old l i)) ∧
   wW (symbol_writer_shape x.pix_w x.pix_h x.pix_pix x.from_) (withW t a b o4 k o6 kk s1 (pixN old l i)) = some (withW t a b o4 k o6 kk r (pixN old l (i + 1))) ∧
   EncAt (sizN kk t o6).toNat (B + 165500) r ∧
   ref09_Encode_loop12 t a b o4 k o6 l (dirN kk) (ctxN t + 1) (old ++ l.map mkB) (h0, w0, (i : Int), s0) = some (.inl (h, x.pix_w, ((i + 1 : Nat) : Int), r)) := by
 obtain ⟨e1, e2, c1, c2, d1⟩ := sizN_small hk t o6
 obtain ⟨hx, hf1, hf2⟩ := hS.2.1 i x hi
 have hlt := lt_len_of_get hi
 have h60 := hS.2.2
 obtain ⟨f, hf⟩ : ∃ f : Bitmap, x.from_ < 0 ∨ 0 ≤ x.from_ ∧ (x.from_ < 2 ^ kk ∧ (pixN old l i)[x.from_.toNat]? = some f ∧ Bmp f.w f.h f.pix) ∧ (old ++ l.map mkB)[x.from_.toNat]? = some f := by
  by_cases q : x.from_ < 0
  ·exact ⟨⟨0, 0, []⟩, .inl q⟩
  ·obtain ⟨f, g1, g2, g3⟩ := pixN_get (old := old) (l := l) (i := i) (by omega) (n := x.from_.toNat) (by omega)
   exact ⟨f, .inr ⟨by omega, ⟨by omega, g1, hS.all f g3⟩, g2⟩⟩
 obtain ⟨s1, p1, p2, p3⟩ := wput_is (a := a) (b := b) (o4 := o4) (k := k) (all := pixN old l i) hk (at_ := 48) (n := x.pix_w - W) (by decide) (by have := hx.2; omega) hs (by omega)
 obtain ⟨r, r1, r2, r3⟩ := wshape_is (all := pixN old l i) (f := f) hk ho hx (by rcases hf with q | ⟨q0, q1, _⟩; exact .inl q; exact .inr ⟨q0, q1⟩) (by have := pixN_len (old := old) (l := l) (i := i); omega) p3 (by omega)
 refine ⟨s1, r, p1, by rw [pixN_succ hi]; exact r1, ⟨r2.1, r2.2.1, by have := r2.2.2; omega⟩, ?_⟩
 have z : (0 : Int) ≤ (i : Int) := by omega
 have zl : (i : Int) < ((l.length : Nat) : Int) := by omega
 have tailEq : ∀ P : Option (Int × Int × Int × Int × Int × List Int × List Int), P = some (h, W, s) →
   (P.bind fun p73 => (ref09_num (IntKind.i64.wrap (x.pix_w - p73.2.1))).bind fun q82 => (ref03_Put 48 q82.1 q82.2 p73.2.2.1 p73.2.2.2.1 p73.2.2.2.2.1 p73.2.2.2.2.2.1 p73.2.2.2.2.2.2).bind fun q85 =>
    if (x.from_ < 0) then (ref02_Encoder_Put 240 0 q85.2.1 q85.2.2.1 q85.2.2.2.1 q85.2.2.2.2.1 q85.2.2.2.2.2).bind fun q93 => (ref07_Put (dirN kk) t a b o4 k x.pix_w x.pix_h x.pix_pix 0 0 [] q93.2.1 q93.2.2.1 q93.2.2.2.1 q93.2.2.2.2.1 q93.2.2.2.2.2).bind fun q100 =>
      some (Sum.inl (p73.1, x.pix_w, IntKind.i64.wrap ((i : Int) + 1), q100.2.1, q100.2.2.1, q100.2.2.2.1, q100.2.2.2.2.1, q100.2.2.2.2.2))
    else (ref02_Encoder_Put 240 1 q85.2.1 q85.2.2.1 q85.2.2.2.1 q85.2.2.2.2.1 q85.2.2.2.2.2).bind fun q108 => (ref03_Width (((old ++ l.map mkB).length : Nat) : Int)).bind fun q115 =>
     (ref03_PutId 241 q115 x.from_ q108.2.1 q108.2.2.1 q108.2.2.2.1 q108.2.2.2.2.1 q108.2.2.2.2.2).bind fun q117 => (ref09_num 0).bind fun q124 => (ref03_Put 96 q124.1 q124.2 q117.2.1 q117.2.2.1 q117.2.2.2.1 q117.2.2.2.2.1 q117.2.2.2.2.2).bind fun q127 =>
     (ref09_num 0).bind fun q134 => (ref03_Put 144 q134.1 q134.2 q127.2.1 q127.2.2.1 q127.2.2.2.1 q127.2.2.2.2.1 q127.2.2.2.2.2).bind fun q137 => (ref09_refined t a b o4 k o6 0 0).bind fun q145 =>
     if 0 ≤ x.from_ then ((old ++ l.map mkB)[x.from_.toNat]?).bind fun e152 => (ref08_Put (IntKind.i64.wrap (dirN kk + (ctxN t + 1))) q145.1 q145.2.1 q145.2.2.1 q145.2.2.2.1 q145.2.2.2.2 x.pix_w x.pix_h x.pix_pix e152.w e152.h e152.pix q137.2.1 q137.2.2.1 q137.2.2.2.1 q137.2.2.2.2.1 q137.2.2.2.2.2).bind fun q153 =>
      some (Sum.inl (p73.1, x.pix_w, IntKind.i64.wrap ((i : Int) + 1), q153.2.1, q153.2.2.1, q153.2.2.2.1, q153.2.2.2.2.1, q153.2.2.2.2.2)) else none)
   = some (.inl (h, x.pix_w, ((i + 1 : Nat) : Int), r) : (Int × Int × Int × Int × Int × Int × List Int × List Int) ⊕ (Int × Int × Int × List Int × List Int)) := by
  rintro P rfl
  simp only [Option.bind_some, ref09_num_eq, ref09_refined_eq, hw2]
  rw [w64 (n := x.pix_w - W) (by have := hx.2; omega), p2, w64 (n := (i : Int) + 1) (by omega), w64 (n := dirN kk + (ctxN t + 1)) (by omega)]
  simp only [Option.bind_some]
  rcases r3 with ⟨g0, s2, g1, g2⟩ | ⟨g0, s2, s3, s4, s5, g1, g2, g3, g4, g5⟩
  ·rw [if_pos g0, g1]
   simp only [Option.bind_some]
   rw [g2]
   rfl
  ·rcases hf with hf | ⟨f0, _, f2⟩
   ·exact absurd hf g0
   rw [if_neg g0, g1]
   simp only [Option.bind_some]
   rw [g2]
   simp only [Option.bind_some]
   rw [g3]
   simp only [Option.bind_some]
   rw [g4]
   simp only [Option.bind_some]
   rw [if_pos f0, f2]
   simp only [Option.bind_some]
   rw [show dirN kk + (ctxN t + 1) = likN kk t from rfl, g5]
   rfl
 unfold ref09_Encode_loop12
 simp only [zl, decide_true, if_true, z, Int.toNat_natCast, hi, Option.bind_some, iteD]
 rcases pre with ⟨q0, q1, rfl, rfl, rfl⟩ | ⟨q0, q1, rfl, rfl⟩ | ⟨q0, q1, ⟨s2, q2, q3⟩, rfl, rfl⟩
 ·have n0 : ¬ (i : Int) = 0 := by omega
  rw [if_neg n0, Option.bind_some]
  refine tailEq _ ?_
  simp only [q1, decide_true, Bool.not_true, Bool.false_eq_true, if_false]
 ·have n0 : (i : Int) = 0 := by omega
  have n1 : ¬ (i : Int) > 0 := by omega
  rw [if_pos n0, Option.bind_some]
  refine tailEq _ ?_
  rw [if_pos rfl, if_neg n1]
  simp only [Option.bind_some, ref09_num_eq]
  rw [w64 (n := x.pix_h - h0) (by have := hx.2; omega), q1]
  rfl
 ·have n0 : ¬ (i : Int) = 0 := by omega
  have n1 : (i : Int) > 0 := by omega
  rw [if_neg n0, Option.bind_some]
  refine tailEq _ ?_
  simp only [q1, decide_false, Bool.not_false, if_true]
  rw [if_pos n1, q2]
  simp only [Option.bind_some, ref09_num_eq]
  rw [w64 (n := x.pix_h - h0) (by have := hx.2; omega), q3]
  rfl
end
theorem cut1 {α : Type} (x : α) (m : List α) : cutL (x :: m) ((1 : Int).toNat) (x :: m).length = m := by
 show ((x :: m).take (x :: m).length).drop 1 = m
 rw [List.take_length]; rfl
theorem drop_get {α : Type} {l m : List α} {x : α} {i : Nat} (h : l.drop i = x :: m) : l[i]? = some x ∧ l.drop (i + 1) = m := by
 constructor
 ·have : (l.drop i)[0]? = some x := by rw [h]; rfl
  simpa using this
 ·rw [← List.drop_drop, h]; rfl
section
variable {t a b k o6 : Int} {o4 : Bool} {kk : Nat} {old : List Bitmap} {l : List Shape}
theorem inner_step {e x : Shape} {m : List Shape} {W : Int} {s s1 r : EncS} {A A' : List Bitmap} (hx : -1000 ≤ x.pix_w - W ∧ x.pix_w - W ≤ 1000) (hq : x.pix_h = e.pix_h) (p1 : wW (symbol_writer_put 48 (x.pix_w - W)) (withW t a b o4 k o6 kk s A) = some (withW t a b o4 k o6 kk s1 A))
  (p2 : wW (symbol_writer_shape x.pix_w x.pix_h x.pix_pix x.from_) (withW t a b o4 k o6 kk s1 A) = some (withW t a b o4 k o6 kk r A')) :
  loop (symbol_writer_shapes_loop6 e) (x :: m, W, withW t a b o4 k o6 kk s A) = loop (symbol_writer_shapes_loop6 e) (m, x.pix_w, withW t a b o4 k o6 kk r A') := by
 refine loop_step ?_
 have hlen : (((x :: m).length : Nat) : Int) > 0 := by simp
 have z : (0 : Int) ≤ 0 := by decide
 have z0 : (x :: m)[(0 : Int).toNat]? = some x := rfl
 have z1 : 0 ≤ (1 : Int) ∧ (1 : Int) ≤ (((x :: m).length : Nat) : Int) := by simp; omega
 unfold symbol_writer_shapes_loop6
 simp only [hlen, decide_true, if_true, z, z0, Option.bind_some, hq, z1, and_self, cut1]
 rw [w64 (n := x.pix_w - W) (by omega)]
 simp only [wW] at p1 p2
 rw [show symbol_writer_put 48 (x.pix_w - W) (withW t a b o4 k o6 kk s A).1 _ _ _ _ _ _ _ _ _ _ _ _ _ _ _ = _ from p1]
 simp only [Option.bind_some]
 rw [hq] at p2
 rw [show symbol_writer_shape x.pix_w e.pix_h x.pix_pix x.from_ (withW t a b o4 k o6 kk s1 A).1 _ _ _ _ _ _ _ _ _ _ _ _ _ _ _ = _ from p2]
 rfl
theorem inner_is (hk : kk ≤ 6) (ho : SymOk t a b o4 k o6) (hS : ShapesOk old l) (hw : ((old.length + l.length : Nat) : Int) ≤ 2 ^ kk) (hw2 : ref03_Width (((old ++ l.map mkB).length : Nat) : Int) = some (kk : Int)) (e : Shape) (he : 0 ≤ e.pix_h ∧ e.pix_h ≤ 40) :
  ∀ (m : List Shape) (i B : Nat) (W : Int) (s : EncS), l.drop i = m → 0 < i → (0 ≤ W ∧ W ≤ 40) → EncAt (sizN kk t o6).toNat B s → B + 166000 * m.length ≤ 80000000 →
   ∃ j mj Wj r, l.drop j = mj ∧ i ≤ j ∧ mj.length ≤ m.length ∧ (∀ y, mj.head? = some y → y.pix_h ≠ e.pix_h) ∧ EncAt (sizN kk t o6).toNat (B + 166000 * (m.length - mj.length)) r ∧
    loop (symbol_writer_shapes_loop6 e) (m, W, withW t a b o4 k o6 kk s (pixN old l i)) = some (mj, withW t a b o4 k o6 kk r (pixN old l j)) ∧
    loop (ref09_Encode_loop12 t a b o4 k o6 l (dirN kk) (ctxN t + 1) (old ++ l.map mkB)) (e.pix_h, W, (i : Int), s) = loop (ref09_Encode_loop12 t a b o4 k o6 l (dirN kk) (ctxN t + 1) (old ++ l.map mkB)) (e.pix_h, Wj, (j : Int), r)
 | [], i, B, W, s, hd, hi, hW, hs, hB => by
  refine ⟨i, [], W, s, hd, Nat.le_refl _, Nat.le_refl _, by simp, by simpa using hs, ?_, rfl⟩
  refine loop_done ?_
  unfold symbol_writer_shapes_loop6
  rfl
 | x :: m, i, B, W, s, hd, hi, hW, hs, hB => by
  obtain ⟨hget, hd'⟩ := drop_get hd
  simp only [List.length_cons] at hB
  have hx := (hS.2.1 i x hget).1
  by_cases hq : x.pix_h = e.pix_h
  ·obtain ⟨s1, r, p1, p2, p3, p4⟩ := shape_step (h0 := e.pix_h) (w0 := W) (h := e.pix_h) (W := W) (s0 := s) (s := s) hk ho hS hw hw2 hget hW he (.inl ⟨hi, hq, rfl, rfl, rfl⟩) hs (by omega)
   obtain ⟨j, mj, Wj, r', g1, g2, g3, g4, g5, g6, g7⟩ := inner_is hk ho hS hw hw2 e he m (i + 1) (B + 165500) x.pix_w r hd' (by omega) (by have := hx.2; omega) p3 (by omega)
   refine ⟨j, mj, Wj, r', g1, by omega, by simp; omega, g4, ⟨g5.1, g5.2.1, by have := g5.2.2; simp only [List.length_cons]; omega⟩, ?_, ?_⟩
   ·rw [← g6]
    exact inner_step (by have := hx.2; omega) hq p1 p2
   ·rw [← g7]
    exact loop_step p4
  ·refine ⟨i, x :: m, W, s, hd, Nat.le_refl _, Nat.le_refl _, fun y hy => by simp at hy; subst hy; exact hq, by simpa using hs, ?_, rfl⟩
   refine loop_done ?_
   have hlen : (((x :: m).length : Nat) : Int) > 0 := by simp
   have z : (0 : Int) ≤ 0 := by decide
   have z0 : (x :: m)[(0 : Int).toNat]? = some x := rfl
   unfold symbol_writer_shapes_loop6
   simp only [hlen, decide_true, if_true, z, z0, Option.bind_some, hq, decide_false, Bool.false_eq_true, if_false]
theorem none_is {N B : Nat} {s : EncS} (hN : 96 ≤ N ∧ N ≤ 8192) (hs : EncAt N B s) (hB : B ≤ 100000000) : ∃ r, number_Put 48 true 0 s.1 s.2.1 s.2.2.1 s.2.2.2.1 s.2.2.2.2 = some (0, r) ∧ ref03_Put 48 true 0 s.1 s.2.1 s.2.2.1 s.2.2.2.1 s.2.2.2.2 = some (0, r) ∧ EncAt N (B + 400) r :=
 numberPut_is (base := 48) (n := 0) (none_ := true) (by omega) hN.2 (by simp) hs hB
/-- at the begin, or behind a class's end -/
def Behind (l : List Shape) (i : Nat) (m : List Shape) (h : Int) (s0 s : EncS) : Prop :=
 (i = 0 ∧ h = 0 ∧ s0 = s) ∨ (0 < i ∧ l ≠ [] ∧ (∀ y, m.head? = some y → y.pix_h ≠ h) ∧ ref03_Put 48 true 0 s0.1 s0.2.1 s0.2.2.1 s0.2.2.2.1 s0.2.2.2.2 = some (0, s))
theorem outer_is (hk : kk ≤ 6) (ho : SymOk t a b o4 k o6) (hS : ShapesOk old l) (hw : ((old.length + l.length : Nat) : Int) ≤ 2 ^ kk) (hw2 : ref03_Width (((old ++ l.map mkB).length : Nat) : Int) = some (kk : Int)) :
  ∀ (n : Nat) (m : List Shape) (i B : Nat) (h w : Int) (s0 s : EncS), m.length ≤ n → l.drop i = m → (0 ≤ h ∧ h ≤ 40) → Behind l i m h s0 s → EncAt (sizN kk t o6).toNat B s → B + 167000 * m.length ≤ 80000000 →
   ∃ r r0, loop symbol_writer_shapes_loop1 (m, h, withW t a b o4 k o6 kk s (pixN old l i)) = some (withW t a b o4 k o6 kk r (old ++ l.map mkB)) ∧
    loop (ref09_Encode_loop12 t a b o4 k o6 l (dirN kk) (ctxN t + 1) (old ++ l.map mkB)) (h, w, (i : Int), s0) = some r0 ∧
    (l = [] ∧ r0 = r ∨ l ≠ [] ∧ ref03_Put 48 true 0 r0.1 r0.2.1 r0.2.2.1 r0.2.2.2.1 r0.2.2.2.2 = some (0, r)) ∧ EncAt (sizN kk t o6).toNat (B + 167000 * m.length) r
 | n, [], i, B, h, w, s0, s, hn, hd, hh, hb, hs, hB => by
  have hil : l.length ≤ i := by have := congrArg List.length hd; simp at this; omega
  have epix : pixN old l i = old ++ l.map mkB := by unfold pixN; rw [List.take_of_length_le hil]
  refine ⟨s, s0, ?_, ?_, ?_, by simpa using hs⟩
  ·rw [epix]
   refine loop_done ?_
   unfold symbol_writer_shapes_loop1
   rfl
  ·refine loop_done ?_
   have q : ¬ (i : Int) < ((l.length : Nat) : Int) := by omega
   unfold ref09_Encode_loop12
   simp only [q, decide_false, Bool.false_eq_true, if_false]
  ·rcases hb with ⟨q0, q1, q2⟩ | ⟨q0, q1, q2, q3⟩
   ·subst q0
    exact .inl ⟨List.eq_nil_of_length_eq_zero (by omega), q2⟩
   ·exact .inr ⟨q1, q3⟩
 | 0, x :: m, _, _, _, _, _, _, hn, _, _, _, _, _ => by simp at hn
 | n + 1, x :: m, i, B, h, w, s0, s, hn, hd, hh, hb, hs, hB => by
  obtain ⟨e1, e2, c1, c2, d1⟩ := sizN_small hk t o6
  obtain ⟨hget, hd'⟩ := drop_get hd
  simp only [List.length_cons] at hB hn
  have hx := (hS.2.1 i x hget).1
  have hne : l ≠ [] := fun q => by rw [q] at hget; simp at hget
  obtain ⟨s1, p1, p2, p3⟩ := wput_is (a := a) (b := b) (o4 := o4) (k := k) (all := pixN old l i) hk (at_ := 0) (n := x.pix_h - h) (by decide) (by have := hx.2; omega) hs (by omega)
  have hB4 : B + 400 ≤ 80000000 := Nat.le_trans (Nat.add_le_add_left (by rw [Nat.mul_add]; exact Nat.le_trans (show 400 ≤ 167000 * 1 by decide) (Nat.le_add_left _ _)) B) hB
  have pre : PreR x i h w x.pix_h 0 s0 s1 := by
   rcases hb with ⟨q0, q1, q2⟩ | ⟨q0, q1, q2, q3⟩
   ·subst q2
    exact .inr (.inl ⟨q0, p2, rfl, rfl⟩)
   ·exact .inr (.inr ⟨q0, q2 x rfl, ⟨s, q3, p2⟩, rfl, rfl⟩)
  obtain ⟨s2, r1, u1, u2, u3, u4⟩ := shape_step (B := B + 400) (h0 := h) (w0 := w) (h := x.pix_h) (W := 0) (s0 := s0) (s := s1) hk ho hS hw hw2 hget (by decide) hh pre p3 hB4
  obtain ⟨j, mj, Wj, r2, g1, g2, g3, g4, g5, g6, g7⟩ := inner_is hk ho hS hw hw2 x (by have := hx.2; omega) m (i + 1) (B + 400 + 165500) x.pix_w r1 hd' (by omega) (by have := hx.2; omega) u3 (by omega)
  obtain ⟨r3, v1, v2, v3⟩ := none_is (by omega) g5 (by omega)
  obtain ⟨r, r0, o1, o2, o3, o4'⟩ := outer_is hk ho hS hw hw2 n mj j (B + 400 + 165500 + 166000 * (m.length - mj.length) + 400) x.pix_h Wj r2 r3 (by omega) g1 (by have := hx.2; omega) (.inr ⟨by omega, hne, g4, v2⟩) v3 (by omega)
  refine ⟨r, r0, ?_, ?_, o3, o4'.1, o4'.2.1, by have := o4'.2.2; simp only [List.length_cons]; omega⟩
  ·rw [← o1]
   refine loop_step ?_
   have hlen : (((x :: m).length : Nat) : Int) > 0 := by simp
   have z : (0 : Int) ≤ 0 := by decide
   have z0 : (x :: m)[(0 : Int).toNat]? = some x := rfl
   unfold symbol_writer_shapes_loop1
   simp only [hlen, decide_true, if_true, z, z0, Option.bind_some]
   rw [w64 (n := x.pix_h - h) (by have := hx.2; omega)]
   simp only [wW] at p1
   rw [show symbol_writer_put 0 (x.pix_h - h) (withW t a b o4 k o6 kk s (pixN old l i)).1 _ _ _ _ _ _ _ _ _ _ _ _ _ _ _ = _ from p1]
   simp only [Option.bind_some]
   rw [show loop (symbol_writer_shapes_loop6 x) (x :: m, 0, _) = _ from (inner_step (by have := hx.2; omega) rfl u1 u2).trans g6]
   simp only [Option.bind_some]
   simp only [withW]
   rw [v1]
   rfl
  ·rw [← o2, ← g7]
   exact loop_step u4
end
/-! ### Loops that test, two side by side -/
theorem tests2 {X A A' : Type} {P : Nat → X → Prop} {f : Nat → X → Unit → Option (Unit ⊕ A)} {g : Nat → X → Unit → Option (Unit ⊕ A')} {fin : Unit → Option A} {fin' : Unit → Option A'} {a : A} {a' : A'} (l : List X)
  (hf : ∀ k x, l[k]? = some x → P k x ∧ f k x () = some (.inl ()) ∨ ¬ P k x ∧ f k x () = some (.inr a))
  (hg : ∀ k x, l[k]? = some x → P k x ∧ g k x () = some (.inl ()) ∨ ¬ P k x ∧ g k x () = some (.inr a')) :
  (∀ k x, l[k]? = some x → P k x) ∧ overL f fin 0 l () = fin () ∧ overL g fin' 0 l () = fin' () ∨ overL f fin 0 l () = some a ∧ overL g fin' 0 l () = some a' := by
 have a1 := overL_allN (P := P) (step := f) (fin := fin) (a := a) l 0 (fun k x hk => by rw [Nat.zero_add]; exact hf k x hk)
 have a2 := overL_allN (P := P) (step := g) (fin := fin') (a := a') l 0 (fun k x hk => by rw [Nat.zero_add]; exact hg k x hk)
 simp only [Nat.zero_add] at a1 a2
 rcases a1 with ⟨p1, e1⟩ | ⟨p1, e1⟩ <;> rcases a2 with ⟨p2, e2⟩ | ⟨p2, e2⟩
 ·exact .inl ⟨p1, e1, e2⟩
 ·exact absurd p1 p2
 ·exact absurd p2 p1
 ·exact .inr ⟨e1, e2⟩
/-- a loop that looks for one -/
theorem overL_any {X A : Type} {P : X → Prop} {step : Nat → X → Unit → Option (Unit ⊕ A)} {fin : Unit → Option A} {a : Nat → A} : ∀ (l : List X) (n : Nat),
  (∀ k x, x ∈ l → P x ∧ step k x () = some (.inl ()) ∨ ¬ P x ∧ step k x () = some (.inr (a k))) →
  (∀ x ∈ l, P x) ∧ overL step fin n l () = fin () ∨ (¬ ∀ x ∈ l, P x) ∧ ∃ k, overL step fin n l () = some (a k)
 | [], n, _ => .inl ⟨by simp, rfl⟩
 | x :: l, n, h => by
  rcases h n x List.mem_cons_self with ⟨h1, h2⟩ | ⟨h1, h2⟩
  ·rw [overL_next h2]
   rcases overL_any l (n + 1) (fun k y hy => h k y (List.mem_cons_of_mem _ hy)) with ⟨g1, g2⟩ | ⟨g1, g2⟩
   ·exact .inl ⟨by simpa using ⟨h1, g1⟩, g2⟩
   ·exact .inr ⟨fun q => g1 fun y hy => q y (List.mem_cons_of_mem _ hy), g2⟩
  ·exact .inr ⟨fun q => h1 (q x List.mem_cons_self), n, overL_exit h2⟩
/-! ### Models -/
theorem inRange {st : List Int} (e : Int) (hl : st.length ≤ 9223372036854775807) : (∀ (k : Nat) x, st[k]? = some x → 0 ≤ x ∧ x < e) ∧ loop (coder_Valid_loop7 st e) 0 = some (Sum.inl ()) ∧ loop (ref02_Valid_loop7 st (e - 1)) 0 = some (Sum.inl ()) ∨ loop (coder_Valid_loop7 st e) 0 = some (Sum.inr false) ∧ loop (ref02_Valid_loop7 st (e - 1)) 0 = some (Sum.inr false) := by
 rw [coder_Valid_loop7_over st e hl (), ref02_Valid_loop7_over st (e - 1) hl ()]
 refine tests2 (P := fun _ x => 0 ≤ x ∧ x < e) st (fun k x hk => ?_) (fun k x hk => ?_)
 ·unfold coder_Valid_loop7_step
  simp only [iteD]
  by_cases g1 : x < 0
  ·exact .inr ⟨by omega, by rw [if_pos g1]⟩
  by_cases g2 : x ≥ e
  ·exact .inr ⟨by omega, by rw [if_neg g1, if_pos g2]⟩
  ·exact .inl ⟨by omega, by rw [if_neg g1, if_neg g2]⟩
 ·unfold ref02_Valid_loop7_step
  simp only [iteD]
  by_cases g1 : x < 0
  ·exact .inr ⟨by omega, by rw [if_pos g1]⟩
  by_cases g2 : x > e - 1
  ·exact .inr ⟨by omega, by rw [if_neg g1, if_pos g2]⟩
  ·exact .inl ⟨by omega, by rw [if_neg g1, if_neg g2]⟩
theorem valids_is (kind : Int) (st : List Int) (hl : st.length ≤ 9223372036854775807) :
  ∃ v, coder_Valid kind st = some v ∧ ref02_Valid kind st = some v ∧ (v = true → (kind = 0 ∨ kind = 1) ∧ st.length ≤ 8192 ∧ ∀ s ∈ st, StateOk kind s) := by
 rw [coder_Valid_eq, ref02_Valid_eq]
 by_cases hk : kind = 0 ∨ kind = 1
 ·have e1 : ((if (!decide (kind = 0)) = true then (if (!decide (kind = 1)) = true then some true else some (decide (((st.length : Nat) : Int) > 8192))) else some (decide (((st.length : Nat) : Int) > 8192))) : Option Bool) = some (decide (((st.length : Nat) : Int) > 8192)) := by
   rcases hk with rfl | rfl <;> rfl
  rw [e1]
  by_cases h8 : ((st.length : Nat) : Int) > 8192
  ·refine ⟨false, ?_, ?_, fun h => by cases h⟩ <;> simp only [h8, decide_true, if_true, Option.bind_some]
   split <;> rfl
  ·simp only [h8, decide_false, Bool.false_eq_true, if_false, Option.bind_some]
   rcases hk with rfl | rfl
   ·simp only [show ¬ ((0 : Int) = 1) by decide, decide_false, Bool.false_eq_true, if_false, Option.bind_some]
    have := inRange (st := st) 64 hl
    rw [show (64 : Int) - 1 = 63 by decide] at this
    rcases this with ⟨p1, e1, e2⟩ | ⟨e1, e2⟩
    ·exact ⟨true, by rw [e1]; rfl, by rw [e2]; rfl, fun _ => ⟨by simp, by omega, fun s hs => by obtain ⟨i, hi⟩ := List.getElem?_of_mem hs; exact .inl ⟨rfl, p1 i s hi⟩⟩⟩
    ·exact ⟨false, by rw [e1]; rfl, by rw [e2]; rfl, fun h => by cases h⟩
   ·simp only [decide_true, if_true, Option.bind_some]
    have := inRange (st := st) 65536 hl
    rw [show (65536 : Int) - 1 = 65535 by decide] at this
    rcases this with ⟨p1, e1, e2⟩ | ⟨e1, e2⟩
    ·exact ⟨true, by rw [e1]; rfl, by rw [e2]; rfl, fun _ => ⟨by simp, by omega, fun s hs => by obtain ⟨i, hi⟩ := List.getElem?_of_mem hs; exact .inr ⟨rfl, p1 i s hi⟩⟩⟩
    ·exact ⟨false, by rw [e1]; rfl, by rw [e2]; rfl, fun h => by cases h⟩
 ·have k0 : ¬ kind = 0 := fun h => hk (.inl h)
  have k1 : ¬ kind = 1 := fun h => hk (.inr h)
  refine ⟨false, ?_, ?_, fun h => by cases h⟩ <;> simp only [k0, k1, decide_false, Bool.not_false, if_true, Option.bind_some, Bool.false_eq_true, if_false]
/-! ### Options and shapes -/
instance (t a b : Int) (o4 : Bool) (k o6 : Int) : Decidable (SymOk t a b o4 k o6) := by unfold SymOk; infer_instance
theorem symValid_is (t a b : Int) (o4 : Bool) (k o6 : Int) : symbol_Valid t a b o4 k o6 = some (decide (SymOk t a b o4 k o6)) ∧ ref09_Valid t a b o4 k o6 = some (decide (SymOk t a b o4 k o6)) := by
 rw [symbol_Valid_eq, ref09_Valid_eq, genValid_is, refValid_is]
 unfold SymOk
 by_cases h : OptOk t a b k <;> cases o4 <;> by_cases h0 : o6 = 0 <;> by_cases h1 : o6 = 1 <;> simp [h, h0, h1]
def shpB (w h : Int) (p : List Int) : Bool := bmpB w h p && decide (1 ≤ w ∧ w ≤ 40 ∧ 1 ≤ h ∧ h ≤ 40)
theorem shpB_of {w h : Int} {p : List Int} (hp : ∀ x ∈ p, 0 ≤ x) (hb : shpB w h p = true) : ShpOk w h p := by
 unfold shpB at hb
 rw [Bool.and_eq_true, decide_eq_true_eq] at hb
 exact ⟨bmpB_of hp hb.1, hb.2⟩
theorem isShape_is {w h : Int} {p : List Int} (hl : p.length ≤ 9223372036854775807) : symbol_isShape w h p = some (shpB w h p) ∧ ref09_IsShape w h p = some (shpB w h p) := by
 rw [symbol_isShape_eq, ref09_IsShape_eq, bitmapValid_is hl, Valid05_is hl]
 unfold shpB
 cases bmpB w h p with
 | false => exact ⟨rfl, rfl⟩
 | true =>
  simp only [Option.bind_some, if_true, iteD, Bool.true_and]
  by_cases h1 : w ≥ 1 <;> by_cases h2 : w ≤ 40 <;> by_cases h3 : h ≥ 1 <;> by_cases h4 : h ≤ 40 <;> simp [h1, h2, h3, h4] <;> omega
def GoodB (w h : Int) (p : List Int) : Prop := p.length ≤ 9223372036854775807 ∧ ∀ x ∈ p, 0 ≤ x
theorem lay_is {t a b k o6 : Int} {o4 : Bool} {n : Nat} (ho : SymOk t a b o4 k o6) (hn : n ≤ 64) : ∃ kk : Nat, kk ≤ 6 ∧ ref03_Width (n : Int) = some (kk : Int) ∧ (n : Int) ≤ 2 ^ kk ∧ ishl .i64 1 (kk : Int) = 2 ^ kk ∧
  symbol_lay t a b o4 k o6 (n : Int) = some (t, a, b, o4, k, o6, (kk : Int), dirN kk, likN kk t, sizN kk t o6) := by
 obtain ⟨w1, w2, w3, w4⟩ := wid_is hn
 have hkk : (((widN n).toNat : Nat) : Int) = widN n := by omega
 have hp := pow_wid ⟨(widN n).toNat, by omega⟩
 simp only [hkk] at hp
 obtain ⟨e1, e2, c1, c2, d1⟩ := sizN_small (kk := (widN n).toNat) (by omega) t o6
 refine ⟨(widN n).toNat, by omega, by rw [hkk]; exact w2, by rw [← hp]; exact w4, by rw [hkk]; exact hp, ?_⟩
 rw [symbol_lay_eq, w1, genSize0_is ho.1, refine_Size_eq, rcontexts_is]
 have er : ((if (!decide (o6 = 0)) = true then some (!decide (o6 = 1)) else some false) : Option Bool) = some false := by rcases ho.2.2 with rfl | rfl <;> rfl
 rw [er]
 simp only [Option.bind_some, Bool.false_eq_true, if_false]
 have hp2 : (2 : Int) ^ (widN n).toNat = dirN (widN n).toNat - 240 := by unfold dirN; omega
 rw [if_neg (by omega), hp, hp2, w64 (n := 241 + _) (by omega), w64 (n := 241 + (dirN (widN n).toNat - 240) - 1) (by omega), show 241 + (dirN (widN n).toNat - 240) - 1 = dirN (widN n).toNat by omega,
  w64 (n := dirN (widN n).toNat + (ctxN t + 1)) (by omega), ← e1, w64 (n := rctxN o6 + 1) (by omega), w64 (n := likN (widN n).toNat t + (rctxN o6 + 1)) (by omega), ← e2, hkk]
def keptN (t o6 : Int) : Int := ctxN t + 1 + (rctxN o6 + 1)
theorem kept_is (t a b : Int) (o4 : Bool) (k o6 : Int) : symbol_Kept t a b o4 k o6 = some (if SymOk t a b o4 k o6 then (keptN t o6, 0) else (0, 2)) ∧ ref09_Kept t a b o4 k o6 = some (if SymOk t a b o4 k o6 then (keptN t o6, 0) else (0, 2)) := by
 rw [symbol_Kept_eq, ref09_Kept_eq, (symValid_is t a b o4 k o6).1, (symValid_is t a b o4 k o6).2]
 by_cases ho : SymOk t a b o4 k o6
 ·obtain ⟨kk, h1, h2, h3, h4, h5⟩ := lay_is ho (show 0 ≤ 64 by decide)
  obtain ⟨e1, e2, c1, c2, d1⟩ := sizN_small h1 t o6
  simp only [ho, decide_true, Option.bind_some, Bool.not_true, Bool.false_eq_true, if_false, if_true]
  rw [show (0 : Int) = ((0 : Nat) : Int) from rfl, h5, ref09_sizes_eq, size07_is, ref08_Size_eq, size08_is]
  have a1 : ¬ o6 < 0 := by rcases ho.2.2 with rfl | rfl <;> decide
  have a2 : ¬ o6 > 1 := by rcases ho.2.2 with rfl | rfl <;> decide
  simp only [ho.1, if_true, Option.bind_some, a1, a2, decide_false, Bool.false_eq_true, if_false]
  rw [w64 (by omega), w64 (by omega)]
  unfold keptN
  constructor
  ·congr 2; omega
  ·rfl
 ·simp [ho]
/-- what is right of a kept model -/
def KeptOk (t k o6 kk : Int) (st : List Int) : Prop := st = [] ∨ kk = k ∧ ((st.length : Nat) : Int) = keptN t o6 ∧ ∀ s ∈ st, StateOk k s
theorem begunSym_is {t a b k o6 kept : Int} {o4 : Bool} {st : List Int} {old : List Bitmap} (hst : st.length ≤ 9223372036854775807) (hol : old.length ≤ 9223372036854775807) (hg : ∀ f ∈ old, GoodB f.w f.h f.pix) :
  ∃ e, symbol_begun t a b o4 k o6 kept st old = some e ∧ ref09_given t a b o4 k o6 kept st old = some e ∧ (e = 0 → SymOk t a b o4 k o6 ∧ KeptOk t k o6 kept st ∧ ∀ f ∈ old, ShpOk f.w f.h f.pix) := by
 obtain ⟨k1, k2⟩ := kept_is t a b o4 k o6
 rw [symbol_begun_eq, ref09_given_eq, k1, (symValid_is t a b o4 k o6).2, ref09_Fits_eq, k2]
 by_cases ho : SymOk t a b o4 k o6
 ·simp only [ho, if_true, decide_true, Option.bind_some, Bool.not_true, Bool.false_eq_true, if_false]
  obtain ⟨v, v1, v2, v3⟩ := valids_is kept st hst
  have hfit : ∃ q : Bool, ((if decide (((st.length : Nat) : Int) > 0) = true then (coder_Valid kept st).bind fun q13 => if (!q13) = true then some true else if (!decide (kept = k)) = true then some true else some (!decide (((st.length : Nat) : Int) = keptN t o6)) else some false) : Option Bool) = some (!q) ∧
    ((if decide (((st.length : Nat) : Int) = 0) = true then some true else (ref02_Valid kept st).bind fun q12 => if q12 = true then (if decide (kept = k) = true then some (decide (((st.length : Nat) : Int) = keptN t o6)) else some false) else some false) : Option Bool) = some q ∧ (q = true → KeptOk t k o6 kept st) := by
   rw [v1, v2]
   simp only [Option.bind_some, iteD]
   by_cases h0 : ((st.length : Nat) : Int) = 0
   ·exact ⟨true, by rw [if_neg (by omega)]; rfl, by rw [if_pos h0], fun _ => .inl (List.eq_nil_of_length_eq_zero (by omega))⟩
   ·rw [if_pos (show ((st.length : Nat) : Int) > 0 by omega), if_neg h0]
    cases v with
    | false => exact ⟨false, rfl, rfl, fun h => by cases h⟩
    | true =>
     simp only [Bool.not_true, Bool.false_eq_true, if_false, if_true]
     by_cases hk : kept = k
     ·simp only [hk, decide_true, Bool.not_true, Bool.false_eq_true, if_false, if_true]
      exact ⟨_, rfl, rfl, fun h => .inr ⟨rfl, of_decide_eq_true h, hk ▸ (v3 rfl).2.2⟩⟩
     ·simp only [hk, decide_false, Bool.not_false, if_true, if_false]
      exact ⟨false, rfl, rfl, fun h => by cases h⟩
  obtain ⟨q, q1, q2, q3⟩ := hfit
  rw [q1, q2]
  simp only [Option.bind_some, Bool.not_not]
  cases q with
  | false => exact ⟨10, rfl, rfl, fun h => by cases h⟩
  | true =>
   simp only [Bool.not_true, Bool.false_eq_true, if_false]
   rw [slices_ContainsFunc_api_Bitmap_api_Bitmap_eq, slices_IndexFunc_api_Bitmap_api_Bitmap_eq, slices_IndexFunc_api_Bitmap_api_Bitmap_loop2_over old hol (), ref09_given_loop6_over old hol ()]
   have a1 := overL_any (P := fun x : Bitmap => shpB x.w x.h x.pix = true) (step := slices_IndexFunc_api_Bitmap_api_Bitmap_loop2_step) (fin := fun _ => some (Sum.inl ())) (a := fun k => Sum.inr (k : Int)) old 0 (fun k x hx => by
    unfold slices_IndexFunc_api_Bitmap_api_Bitmap_loop2_step
    rw [symbol_begun_1_eq, (isShape_is (hg x hx).1).1]
    by_cases hs : shpB x.w x.h x.pix = true
    ·exact .inl ⟨hs, by simp [hs]⟩
    ·exact .inr ⟨hs, by simp [hs]⟩)
   have a2 := overL_any (P := fun x : Bitmap => shpB x.w x.h x.pix = true) (step := ref09_given_loop6_step) (fin := fun _ => some (Sum.inl ())) (a := fun k => Sum.inr (30 : Int)) old 0 (fun k x hx => by
    unfold ref09_given_loop6_step
    rw [(isShape_is (hg x hx).1).2]
    by_cases hs : shpB x.w x.h x.pix = true
    ·exact .inl ⟨hs, by simp [hs]⟩
    ·exact .inr ⟨hs, by simp [hs]⟩)
   rcases a1 with ⟨p1, e1⟩ | ⟨p1, i, e1⟩ <;> rcases a2 with ⟨p2, e2⟩ | ⟨p2, i2, e2⟩
   ·rw [e1, e2]
    exact ⟨0, rfl, rfl, fun _ => ⟨trivial, q3 rfl, fun f hf => shpB_of (hg f hf).2 (p1 f hf)⟩⟩
   ·exact absurd p1 p2
   ·exact absurd p2 p1
   ·rw [e1, e2]
    refine ⟨30, ?_, rfl, fun h => by cases h⟩
    have : ((i : Nat) : Int) ≥ 0 := by omega
    simp [this]
 ·exact ⟨2, by simp [ho], by simp [ho], fun h => by cases h⟩
def OrdOk (old : List Bitmap) (l : List Shape) (i : Nat) (x : Shape) : Prop := -1 ≤ x.from_ ∧ x.from_ < ((old.length : Nat) : Int) + (i : Int) ∧ (0 < i → ∀ y, l[i - 1]? = some y → y.pix_h ≤ x.pix_h)
theorem ord_tests {old : List Bitmap} {l : List Shape} (ho : old.length ≤ 70) (hl : l.length ≤ 70) :
  (∀ k x, l[k]? = some x → OrdOk old l k x) ∧ overL (symbol_rightShapes_loop8_step old l) (fun _ => some (Sum.inl ())) 0 l () = some (Sum.inl ()) ∧ overL (ref09_shapes_loop7_step old l) (fun _ => some (Sum.inl ())) 0 l () = some (Sum.inl ())
  ∨ overL (symbol_rightShapes_loop8_step old l) (fun _ => some (Sum.inl ())) 0 l () = some (Sum.inr 2) ∧ overL (ref09_shapes_loop7_step old l) (fun _ => some (Sum.inl ())) 0 l () = some (Sum.inr 2) := by
 refine tests2 (P := OrdOk old l) l (fun k x hk => ?_) (fun k x hk => ?_)
 ·have hlt := lt_len_of_get hk
  unfold symbol_rightShapes_loop8_step OrdOk
  simp only [iteD]
  rw [w64 (n := ((old.length : Nat) : Int) + (k : Int)) (by omega)]
  by_cases g1 : x.from_ < -1
  ·exact .inr ⟨by omega, by rw [if_pos g1]⟩
  by_cases g2 : x.from_ ≥ ((old.length : Nat) : Int) + (k : Int)
  ·exact .inr ⟨by omega, by rw [if_neg g1, if_pos g2]⟩
  by_cases g3 : (k : Int) > 0
  ·obtain ⟨y, hy⟩ : ∃ y, l[k - 1]? = some y := ⟨_, List.getElem?_eq_getElem (by omega)⟩
   rw [w64 (n := (k : Int) - 1) (by omega), if_neg g1, if_neg g2, if_pos g3, if_pos (by omega), show ((k : Int) - 1).toNat = k - 1 by omega, hy]
   simp only [Option.bind_some]
   by_cases g4 : x.pix_h < y.pix_h
   ·exact .inr ⟨fun q => by have := q.2.2 (by omega) y rfl; omega, by rw [if_pos g4]⟩
   ·exact .inl ⟨⟨by omega, by omega, fun _ z hz => by cases hz; omega⟩, by rw [if_neg g4]⟩
  ·exact .inl ⟨⟨by omega, by omega, fun q => by omega⟩, by rw [if_neg g1, if_neg g2, if_neg g3]⟩
 ·have hlt := lt_len_of_get hk
  unfold ref09_shapes_loop7_step OrdOk
  simp only [iteD]
  rw [w64 (n := ((old.length : Nat) : Int) + (k : Int)) (by omega)]
  by_cases g1 : x.from_ < -1
  ·exact .inr ⟨by omega, by rw [if_pos g1]⟩
  by_cases g2 : x.from_ ≥ ((old.length : Nat) : Int) + (k : Int)
  ·exact .inr ⟨by omega, by rw [if_neg g1, if_pos g2]⟩
  by_cases g3 : (k : Int) > 0
  ·obtain ⟨y, hy⟩ : ∃ y, l[k - 1]? = some y := ⟨_, List.getElem?_eq_getElem (by omega)⟩
   rw [w64 (n := (k : Int) - 1) (by omega), if_neg g1, if_neg g2, if_pos g3, if_pos (by omega), show ((k : Int) - 1).toNat = k - 1 by omega, hy]
   simp only [Option.bind_some]
   by_cases g4 : x.pix_h < y.pix_h
   ·exact .inr ⟨fun q => by have := q.2.2 (by omega) y rfl; omega, by rw [if_pos g4]⟩
   ·exact .inl ⟨⟨by omega, by omega, fun _ z hz => by cases hz; omega⟩, by rw [if_neg g4]⟩
  ·exact .inl ⟨⟨by omega, by omega, fun q => by omega⟩, by rw [if_neg g1, if_neg g2, if_neg g3]⟩
theorem shapes_is {old : List Bitmap} {l : List Shape} {ex : List Bool} (ho : old.length ≤ 70) (hl : l.length ≤ 70) (hg : ∀ x ∈ l, GoodB x.pix_w x.pix_h x.pix_pix) (hold : ∀ f ∈ old, ShpOk f.w f.h f.pix) :
  ∃ e, symbol_rightShapes old l = some e ∧ ref09_shapes old l ex = some (if e = 0 then (if ((ex.length : Nat) : Int) = ((old.length : Nat) : Int) + ((l.length : Nat) : Int) then 0 else 2) else e) ∧ (e = 0 → ShapesOk old l) := by
 rw [symbol_rightShapes_eq, ref09_shapes_eq, symbol_rightShapes_loop2_over l (by omega) (), ref09_shapes_loop2_over l (by omega) (), symbol_rightShapes_loop8_over old l (by omega) (), ref09_shapes_loop7_over old l (by omega) ()]
 have a1 := tests2 (P := fun _ x => shpB x.pix_w x.pix_h x.pix_pix = true) (f := symbol_rightShapes_loop2_step) (g := ref09_shapes_loop2_step) (fin := fun _ => some (Sum.inl ())) (fin' := fun _ => some (Sum.inl ())) (a := Sum.inr (30 : Int)) (a' := Sum.inr (30 : Int)) l
  (fun k x hk => by
   unfold symbol_rightShapes_loop2_step
   rw [(isShape_is (hg x (List.mem_of_getElem? hk)).1).1]
   by_cases hs : shpB x.pix_w x.pix_h x.pix_pix = true
   ·exact .inl ⟨hs, by simp [hs]⟩
   ·exact .inr ⟨hs, by simp [hs]⟩)
  (fun k x hk => by
   unfold ref09_shapes_loop2_step
   rw [(isShape_is (hg x (List.mem_of_getElem? hk)).1).2]
   by_cases hs : shpB x.pix_w x.pix_h x.pix_pix = true
   ·exact .inl ⟨hs, by simp [hs]⟩
   ·exact .inr ⟨hs, by simp [hs]⟩)
 rcases a1 with ⟨p1, e1, e2⟩ | ⟨e1, e2⟩
 ·rw [e1, e2]
  simp only [Option.bind_some, Sum.elim_inl]
  rcases ord_tests (old := old) (l := l) ho hl with ⟨p2, g1, g2⟩ | ⟨g1, g2⟩
  ·rw [g1, g2]
   simp only [Option.bind_some, Sum.elim_inl]
   rw [w64 (by omega)]
   simp only [iteD, iteND]
   by_cases h60 : ((old.length : Nat) : Int) + ((l.length : Nat) : Int) > 60
   ·exact ⟨2, by rw [if_pos h60], by rw [if_pos h60]; rfl, fun h => by cases h⟩
   ·refine ⟨0, by rw [if_neg h60], by rw [if_neg h60]; split <;> rfl, fun _ => ⟨hold, fun i x hi => ⟨shpB_of (hg x (List.mem_of_getElem? hi)).2 (p1 i x hi), (p2 i x hi).1, (p2 i x hi).2.1⟩, by omega⟩⟩
  ·rw [g1, g2]
   exact ⟨2, rfl, rfl, fun h => by cases h⟩
 ·rw [e1, e2]
  exact ⟨30, rfl, rfl, fun h => by cases h⟩
/-! ### Flags -/
def runN (v : Bool) : List Bool → Nat
 | [] => 0
 | x :: m => if x = v then runN v m + 1 else 0
theorem runN_le (v : Bool) : ∀ m, runN v m ≤ m.length
 | [] => Nat.le_refl _
 | x :: m => by unfold runN; split <;> simp [runN_le v m]
theorem runN_pos {v x : Bool} {m : List Bool} (h : x = v) : runN v (x :: m) = runN v m + 1 := if_pos h
theorem runN_neg {v x : Bool} {m : List Bool} (h : ¬ x = v) : runN v (x :: m) = 0 := if_neg h
theorem runP {ex : List Bool} {v : Bool} (hl : ex.length ≤ 1000) : ∀ (m : List Bool) (k : Nat), ex.drop k = m → loop (symbol_writer_flags_loop4 ex v) (k : Int) = some (((k + runN v m : Nat) : Nat) : Int)
 | [], k, h => by
  have hk : ex.length ≤ k := by have := congrArg List.length h; simp at this; omega
  refine loop_done ?_
  unfold symbol_writer_flags_loop4
  simp only [iteD]
  rw [if_neg (by omega)]; rfl
 | x :: m, k, h => by
  obtain ⟨g1, g2⟩ := drop_get h
  have hlt := lt_len_of_get g1
  by_cases hx : x = v
  ·rw [loop_step (s' := (((k + 1 : Nat) : Nat) : Int)), runP hl m (k + 1) g2]
   ·rw [runN_pos hx]; congr 2; omega
   ·unfold symbol_writer_flags_loop4
    simp only [iteD]
    rw [if_pos (by omega), if_pos (by omega), Int.toNat_natCast, g1]
    simp only [Option.bind_some]
    rw [if_pos hx, w64 (by omega)]; rfl
  ·refine loop_done ?_
   unfold symbol_writer_flags_loop4
   simp only [iteD]
   rw [if_pos (by omega), if_pos (by omega), Int.toNat_natCast, g1]
   simp only [Option.bind_some]
   rw [if_neg hx, runN_neg hx]; rfl
theorem runR {ex : List Bool} {v : Bool} (hl : ex.length ≤ 1000) : ∀ (m : List Bool) (k n : Nat), ex.drop k = m → n ≤ k → loop (ref09_Encode_loop36 ex v) ((k : Int), (n : Int)) = some ((((k + runN v m : Nat) : Nat) : Int), (((n + runN v m : Nat) : Nat) : Int))
 | [], k, n, h, hn => by
  have hk : ex.length ≤ k := by have := congrArg List.length h; simp at this; omega
  refine loop_done ?_
  unfold ref09_Encode_loop36
  simp only [iteD]
  rw [if_neg (by omega)]; rfl
 | x :: m, k, n, h, hn => by
  obtain ⟨g1, g2⟩ := drop_get h
  have hlt := lt_len_of_get g1
  by_cases hx : x = v
  ·rw [loop_step (s' := ((((k + 1 : Nat) : Nat) : Int), (((n + 1 : Nat) : Nat) : Int))), runR hl m (k + 1) (n + 1) g2 (by omega)]
   ·rw [runN_pos hx]; congr 2 <;> omega
   ·unfold ref09_Encode_loop36
    simp only [iteD]
    rw [if_pos (by omega), if_pos (by omega), Int.toNat_natCast, g1]
    simp only [Option.bind_some, hx, decide_true, if_true]
    rw [w64 (by omega), w64 (by omega)]; rfl
  ·refine loop_done ?_
   unfold ref09_Encode_loop36
   simp only [iteD]
   rw [if_pos (by omega), if_pos (by omega), Int.toNat_natCast, g1]
   simp only [Option.bind_some, hx, decide_false, Bool.false_eq_true, if_false]
   rw [runN_neg hx]; rfl
def flagM (v : Bool) : List Bool → Nat
 | [] => 0
 | x :: m => 2 * (m.length + 1) + (if x = v then 0 else 1)
theorem flags_is {t a b k o6 : Int} {o4 : Bool} {kk : Nat} {all : List Bitmap} {ex : List Bool} (hk : kk ≤ 6) (hl : ex.length ≤ 1000) : ∀ (n : Nat) (m : List Bool) (v : Bool) (i B : Nat) (s : EncS), flagM v m ≤ n → ex.drop i = m → EncAt (sizN kk t o6).toNat B s → B + 400 * n ≤ 90000000 →
  ∃ r, loop symbol_writer_flags_loop1 (m, v, withW t a b o4 k o6 kk s all) = some (withW t a b o4 k o6 kk r all) ∧ loop (ref09_Encode_loop34 ex) (v, (i : Int), s) = some r ∧ EncAt (sizN kk t o6).toNat (B + 400 * n) r
 | n, [], v, i, B, s, hn, hd, hs, hB => by
  have hk : ex.length ≤ i := by have := congrArg List.length hd; simp at this; omega
  refine ⟨s, ?_, ?_, hs.1, hs.2.1, by have := hs.2.2; omega⟩
  ·refine loop_done ?_
   unfold symbol_writer_flags_loop1
   rfl
  ·refine loop_done ?_
   have q : ¬ (i : Int) < ((ex.length : Nat) : Int) := by omega
   unfold ref09_Encode_loop34
   simp only [q, decide_false, Bool.false_eq_true, if_false]
 | 0, x :: m, v, i, B, s, hn, hd, hs, hB => by simp [flagM] at hn
 | n + 1, x :: m, v, i, B, s, hn, hd, hs, hB => by
  obtain ⟨g1, g2⟩ := drop_get hd
  have hlt := lt_len_of_get g1
  have hml : (x :: m).length = ex.length - i := by rw [← hd, List.length_drop]
  have hrl := runN_le v (x :: m)
  obtain ⟨r1, p1, p2, p3⟩ := wput_is (a := a) (b := b) (o4 := o4) (k := k) (all := all) hk (at_ := 192) (n := ((runN v (x :: m) : Nat) : Int)) (by decide) (by omega) hs (by omega)
  have hdec : flagM (!v) ((x :: m).drop (runN v (x :: m))) ≤ n := by
   cases hq : (x :: m).drop (runN v (x :: m)) with
   | nil => exact Nat.zero_le _
   | cons y m' =>
    have hlen : m'.length + 1 = (x :: m).length - runN v (x :: m) := by rw [← List.length_cons (a := y), ← hq, List.length_drop]
    simp only [flagM] at hn ⊢
    simp only [List.length_cons] at hlen
    by_cases hx : x = v
    ·have : 1 ≤ runN v (x :: m) := by rw [runN_pos hx]; omega
     split <;> omega
    ·have h0 : runN v (x :: m) = 0 := runN_neg hx
     rw [h0] at hq hlen
     cases hq
     rw [if_neg hx] at hn
     have : x = !v := Bool.eq_not.2 hx
     rw [if_pos this]; omega
  obtain ⟨r, o1, o2, o3⟩ := flags_is hk hl n ((x :: m).drop (runN v (x :: m))) (!v) (i + runN v (x :: m)) (B + 400) r1 hdec (by rw [← List.drop_drop, hd]) p3 (by omega)
  refine ⟨r, ?_, ?_, o3.1, o3.2.1, by have := o3.2.2; omega⟩
  ·rw [← o1]
   refine loop_step ?_
   have hlen : (((x :: m).length : Nat) : Int) > 0 := by simp
   have hb : 0 ≤ ((runN v (x :: m) : Nat) : Int) ∧ ((runN v (x :: m) : Nat) : Int) ≤ (((x :: m).length : Nat) : Int) := by omega
   have hloop := runP (ex := x :: m) (v := v) (by omega) (x :: m) 0 rfl
   rw [Nat.zero_add, show ((0 : Nat) : Int) = 0 from rfl] at hloop
   unfold symbol_writer_flags_loop1
   simp only [hlen, decide_true, if_true, hloop, Option.bind_some]
   simp only [wW] at p1
   rw [show symbol_writer_put 192 _ (withW t a b o4 k o6 kk s all).1 _ _ _ _ _ _ _ _ _ _ _ _ _ _ _ = _ from p1]
   simp only [Option.bind_some]
   rw [if_pos hb, Int.toNat_natCast]
   have : cutL (x :: m) (runN v (x :: m)) (x :: m).length = (x :: m).drop (runN v (x :: m)) := by unfold cutL; rw [List.take_length]
   rw [this]
  ·rw [← o2]
   refine loop_step ?_
   have q : (i : Int) < ((ex.length : Nat) : Int) := by omega
   have hloop := runR (ex := ex) (v := v) hl (x :: m) i 0 hd (Nat.zero_le _)
   rw [Nat.zero_add, show ((0 : Nat) : Int) = 0 from rfl] at hloop
   unfold ref09_Encode_loop34
   simp only [q, decide_true, if_true, hloop, Option.bind_some, ref09_num_eq]
   rw [p2]
   rfl
theorem cloneB_is (l : List Bitmap) (hl : l.length ≤ 1000000) : slices_Clone_api_Bitmap_api_Bitmap l = some l := by
 rw [slices_Clone_api_Bitmap_api_Bitmap_eq]
 have h : (([] : List Bitmap).length + l.length) * 40 ≤ 140737488355328 := by simp; omega
 simp only [h, if_true, List.nil_append]
 split
 ·rename_i q
  rw [List.eq_nil_of_length_eq_zero q, demon_same]
 ·rfl
theorem cloneI_is (l : List Int) (hl : l.length ≤ 1000000) : slices_Clone_int_int l = some l := by
 rw [slices_Clone_int_int_eq]
 have h : (([] : List Int).length + l.length) * 8 ≤ 140737488355328 := by simp; omega
 simp only [h, if_true, List.nil_append]
 split
 ·rename_i q
  rw [List.eq_nil_of_length_eq_zero q, demon_same]
 ·rfl
theorem all_is (old : List Bitmap) (l : List Shape) (ho : old.length ≤ 70) (hl : l.length ≤ 70) : ref09_all old l = some (old ++ l.map mkB) := by
 rw [ref09_all_eq, if_pos (by simp; omega), List.nil_append]
 simp only
 rw [ref09_all_loop3_over l (by omega) old]
 have := overL_inv (f := ref09_all_loop3_step) (fin := fun s => some s) (fun i => old ++ (l.take i).map mkB) l 0 (fun k x hk => by
  have hlt := lt_len_of_get hk
  have hx : l[k] = x := by rw [List.getElem?_eq_getElem hlt] at hk; exact Option.some.inj hk
  unfold ref09_all_loop3_step
  rw [Nat.zero_add, if_pos (by simp; omega), List.take_succ_eq_append_getElem hlt, hx]
  simp [mkB])
 simp only [List.take_zero, List.map_nil, List.append_nil, Nat.zero_add, List.take_length] at this
 rw [this]
 rfl
/-- a model with a part that was kept -/
def keptW (d : Nat) (R st : List Int) : List Int := R.take d ++ st.take (min st.length (R.length - d)) ++ R.drop (d + min st.length (R.length - d))
theorem keptW_nil (d : Nat) (R : List Int) : keptW d R [] = R := by unfold keptW; simp
theorem keptW_len {d : Nat} {R st : List Int} (h : d ≤ R.length) : (keptW d R st).length = R.length := by unfold keptW; simp; omega
theorem keptW_mem {d : Nat} {R st : List Int} {P : Int → Prop} (hR : ∀ x ∈ R, P x) (hs : ∀ x ∈ st, P x) : ∀ x ∈ keptW d R st, P x := by
 intro x hx
 unfold keptW at hx
 rcases List.mem_append.1 hx with h | h
 ·rcases List.mem_append.1 h with g | g
  ·exact hR x (List.mem_of_mem_take g)
  ·exact hs x (List.mem_of_mem_take g)
 ·exact hR x (List.mem_of_mem_drop h)
theorem after_len {st : List Int} {d : Nat} : cutL st d st.length = st.drop d := by unfold cutL; rw [List.take_length]
theorem symEncode_is {t a b k o6 kept : Int} {o4 : Bool} {st : List Int} {old : List Bitmap} {l : List Shape} {ex : List Bool} (hst : st.length ≤ 9223372036854775807) (ho : old.length ≤ 70) (hl : l.length ≤ 70) (hg1 : ∀ f ∈ old, GoodB f.w f.h f.pix) (hg2 : ∀ x ∈ l, GoodB x.pix_w x.pix_h x.pix_pix) :
  ∃ c m1 m2 e, symbol_Encode t a b o4 k o6 kept st old l ex = some (c, m1, m2, e) ∧ ref09_Encode t a b o4 k o6 kept st old l ex = some (c, m1, m2, e) ∧ c.length ≤ 100000000 := by
 obtain ⟨e, q1, q2, q3⟩ := begunSym_is (t := t) (a := a) (b := b) (k := k) (o6 := o6) (kept := kept) (o4 := o4) hst (by omega) hg1
 rw [symbol_Encode_eq, ref09_Encode_eq, q1, q2]
 simp only [Option.bind_some, iteD, iteND]
 by_cases he : e = 0
 ·obtain ⟨hok, hkept, hold⟩ := q3 he
  obtain ⟨e', s1, s2, s3⟩ := shapes_is (ex := ex) ho hl hg2 hold
  rw [if_pos he, if_pos he, s1, s2, w64 (n := ((old.length : Nat) : Int) + ((l.length : Nat) : Int)) (by omega)]
  simp only [Option.bind_some]
  by_cases he' : e' = 0
  ·have hS := s3 he'
   rw [if_pos he', if_pos he']
   simp only [Option.bind_some]
   by_cases hex : ((ex.length : Nat) : Int) = ((old.length : Nat) : Int) + ((l.length : Nat) : Int)
   ·have h60 := hS.2.2
    simp only [hex, if_true, decide_true, Bool.not_true, Bool.false_eq_true, if_false, Option.bind_some, he']
    have hexn : ((old.length : Nat) : Int) + ((l.length : Nat) : Int) = ((ex.length : Nat) : Int) := hex.symm
    rw [hexn]
    obtain ⟨kk, k1, k2, k3, k4, k5⟩ := lay_is (t := t) (a := a) (b := b) (k := k) (o6 := o6) (o4 := o4) (n := ex.length) hok (by omega)
    obtain ⟨z1, z2, c1, c2, d1⟩ := sizN_small k1 t o6
    have hk : k = 0 ∨ k = 1 := hok.1.2.2.2.2.2.2.2
    rw [k5, ref09_whole_eq, k2, (kept_is t a b o4 k o6).2, ref09_sizes_eq, size07_is, ref08_Size_eq, size08_is]
    have a1 : ¬ o6 < 0 := by rcases hok.2.2 with rfl | rfl <;> decide
    have a2 : ¬ o6 > 1 := by rcases hok.2.2 with rfl | rfl <;> decide
    simp only [hok, hok.1, if_true, Option.bind_some, a1, a2, decide_false, Bool.false_eq_true, if_false]
    have hp2 : (2 : Int) ^ kk = dirN kk - 240 := by unfold dirN; omega
    have hsz : dirN kk + keptN t o6 = sizN kk t o6 := by unfold keptN; omega
    rw [if_neg (by omega), k4, hp2, w64 (n := 241 + (dirN kk - 240)) (by omega), w64 (n := 241 + (dirN kk - 240) - 1) (by omega), show 241 + (dirN kk - 240) - 1 = dirN kk by omega, hsz, w64 (n := sizN kk t o6) (by omega), symbol_layout_model_eq,
     (new_is hk (n := sizN kk t o6) (by omega) (by omega)).1, (new_is hk (n := sizN kk t o6) (by omega) (by omega)).2]
    simp only [Option.bind_some]
    generalize hR : List.replicate (sizN kk t o6).toNat (0 : Int) = R
    have hRl : R.length = (sizN kk t o6).toNat := by rw [← hR, List.length_replicate]
    have hdl : 0 ≤ dirN kk ∧ dirN kk ≤ ((R.length : Nat) : Int) := by omega
    have hRs : ∀ s ∈ R, StateOk k s := hR ▸ new_states hk _
    have hsts : ∀ s ∈ st, StateOk k s := by
     rcases hkept with rfl | ⟨_, _, h⟩
     ·simp
     ·exact h
    have eW : (if ((st.length : Nat) : Int) > 0 then (if 0 ≤ dirN kk ∧ dirN kk ≤ ((R.length : Nat) : Int) then some (k, R.take (dirN kk).toNat ++ st.take (min st.length (R.length - (dirN kk).toNat)) ++ R.drop ((dirN kk).toNat + min st.length (R.length - (dirN kk).toNat)), dirN kk) else none) else some (k, R, dirN kk)) = some (k, keptW (dirN kk).toNat R st, dirN kk) := by
     by_cases h0 : ((st.length : Nat) : Int) > 0
     ·rw [if_pos h0, if_pos hdl]; rfl
     ·have : st = [] := List.eq_nil_of_length_eq_zero (by omega)
      subst this
      rw [if_neg h0, keptW_nil]
    simp only [iteD]
    rw [eW, if_pos hdl]
    simp only [Option.bind_some]
    have hWl : (keptW (dirN kk).toNat R st).length = (sizN kk t o6).toNat := by rw [keptW_len (by omega), hRl]
    have hWs := keptW_mem (d := (dirN kk).toNat) hRs hsts
    obtain ⟨n1, n2, n3⟩ := newEncoder_is hk (st := keptW (dirN kk).toNat R st) (by omega) hWs
    rw [show R.take (dirN kk).toNat ++ st.take (min st.length (R.length - (dirN kk).toNat)) ++ R.drop ((dirN kk).toNat + min st.length (R.length - (dirN kk).toNat)) = keptW (dirN kk).toNat R st from rfl, n1, n2, cloneB_is old (by omega), all_is old l ho hl]
    simp only [Option.bind_some, Sum.elim_inl]
    have hs0 : EncAt (sizN kk t o6).toNat 0 (k, 0, 4294967295, keptW (dirN kk).toNat R st, []) := ⟨n3, hWl, Nat.zero_le _⟩
    have hwid : ref03_Width (((old ++ l.map mkB).length : Nat) : Int) = some (kk : Int) := by rw [← k2]; congr 2; simp; omega
    obtain ⟨r, r0, o1, o2, o3, o4'⟩ := outer_is (a := a) (b := b) (o4 := o4) (k := k) k1 hok hS (by omega) hwid l.length l 0 0 0 0 (k, 0, 4294967295, keptW (dirN kk).toNat R st, []) (k, 0, 4294967295, keptW (dirN kk).toNat R st, []) (Nat.le_refl _) rfl (by decide) (.inl ⟨rfl, rfl, rfl⟩) hs0 (by omega)
    have hM : flagM false ex ≤ 2 * ex.length + 1 := by
     cases ex with
     | nil => simp [flagM]
     | cons x m => simp only [flagM, List.length_cons]; split <;> omega
    obtain ⟨r', f1, f2, f3⟩ := flags_is (a := a) (b := b) (o4 := o4) (k := k) (all := old ++ l.map mkB) (ex := ex) k1 (by omega) (2 * ex.length + 1) ex false 0 (167000 * l.length) r hM rfl ⟨o4'.1, o4'.2.1, by have := o4'.2.2; omega⟩ (by omega)
    have e0 : pixN old l 0 = old := by unfold pixN; simp
    rw [e0] at o1
    rw [show ((0 : Nat) : Int) = 0 from rfl] at o2 f2
    simp only [withW] at o1
    rw [symbol_writer_shapes_eq]
    rw [show loop symbol_writer_shapes_loop1 _ = _ from o1, show loop (ref09_Encode_loop12 _ _ _ _ _ _ _ _ _ _) _ = _ from o2]
    simp only [Option.bind_some]
    have ep : ((if ((l.length : Nat) : Int) > 0 then (ref03_Put 48 true 0 r0.1 r0.2.1 r0.2.2.1 r0.2.2.2.1 r0.2.2.2.2).bind fun q177 => some (q177.2.1, q177.2.2.1, q177.2.2.2.1, q177.2.2.2.2.1, q177.2.2.2.2.2) else some (r0.1, r0.2.1, r0.2.2.1, r0.2.2.2.1, r0.2.2.2.2)) : Option EncS) = some r := by
     rcases o3 with ⟨g1, rfl⟩ | ⟨g1, g2⟩
     ·subst g1; rfl
     ·rw [if_pos (by have := List.length_pos_iff.2 g1; omega), g2]; rfl
    rw [ep, symbol_writer_flags_eq]
    simp only [withW] at f1
    simp only [Option.bind_some]
    rw [show loop symbol_writer_flags_loop1 _ = _ from f1, show loop (ref09_Encode_loop34 ex) _ = _ from f2]
    simp only [Option.bind_some]
    obtain ⟨c, g1, g2, g3⟩ := end_at f3 (by omega)
    have hrl := f3.2.1
    have ec := clone_is (kind := r'.1) (st := r'.2.2.2.1) (by omega)
    rw [g1, g2]
    simp only [Option.bind_some]
    rw [coder_Encoder_Model_eq, coder_Encoder_none_eq, ref02_Encoder_Model_eq]
    simp only [Option.bind_some, Bool.false_eq_true, if_false, ec.1, ec.2]
    have hdr : 0 ≤ dirN kk ∧ dirN kk ≤ ((r'.2.2.2.1.length : Nat) : Int) := by omega
    rw [symbol_layout_after_eq, ref09_tail_eq, if_pos hdr, if_pos hdr, after_len]
    simp only
    rw [cloneI_is _ (by rw [List.length_drop]; omega), if_pos (by rw [List.length_drop]; simp; omega)]
    exact ⟨c, r'.1, r'.2.2.2.1.drop (dirN kk).toNat, 0, rfl, rfl, by omega⟩
   ·exact ⟨[], 0, [], 2, by simp [hex, he'], by simp [hex, he'], by simp⟩
  ·refine ⟨[], 0, [], e', ?_, ?_, by simp⟩
   ·rw [if_neg he']; simp [he']
   ·simp [he']
 ·refine ⟨[], 0, [], e, ?_, ?_, by simp⟩
  ·simp [he]
  ·simp [he]
/-! ### Strips -/
def Strip4 (o : Int) : Prop := o = 1 ∨ o = 2 ∨ o = 4 ∨ o = 8
def In64 (x : Int) : Prop := -9223372036854775808 ≤ x ∧ x ≤ 9223372036854775807
theorem tdiv_of {t o : Int} (ho : 0 < o) : t.tdiv o = if t < 0 ∧ t % o ≠ 0 then t / o + 1 else t / o := by
 rcases Int.lt_or_le t 0 with h | h
 ·rw [Int.tdiv_eq_ediv]
  have h1 : ¬ 0 ≤ t := by omega
  have hs : o.sign = 1 := Int.sign_eq_one_of_pos ho
  by_cases hd : o ∣ t
  ·have : t % o = 0 := Int.emod_eq_zero_of_dvd hd
   simp [hd, this]
  ·have : t % o ≠ 0 := fun q => hd (Int.dvd_of_emod_eq_zero q)
   simp [hd, h1, hs, this, h]
 ·rw [Int.tdiv_eq_ediv_of_nonneg h, if_neg (by omega)]
theorem strip_is {o1 o2 o4 o5 o6 o8 i1 i2 t i5 i6 i7 i8 : Int} {o3 o7 i4 : Bool} {i9 : List Int} (ho : Strip4 o1) (ht : In64 t) :
  text_strip o1 o2 o3 o4 o5 o6 o7 o8 i1 i2 t i4 i5 i6 i7 i8 i9 = some (t / o1) ∧ ref10_Strip o1 o2 o3 o4 o5 o6 o7 o8 t = some (t / o1) := by
 have ho1 : 0 < o1 := by rcases ho with h | h | h | h <;> omega
 obtain ⟨h0, h1⟩ := ht
 have hm : t.tmod o1 = t - o1 * t.tdiv o1 := by have := Int.tmod_add_mul_tdiv t o1; omega
 have htd := tdiv_of (t := t) ho1
 have hb : -9223372036854775808 ≤ t / o1 ∧ t / o1 ≤ 9223372036854775807 ∧ -9223372036854775808 ≤ t.tdiv o1 ∧ t.tdiv o1 ≤ 9223372036854775807 ∧ (t % o1 = t - o1 * (t / o1)) ∧ 0 ≤ t % o1 ∧ t % o1 < o1 ∧ o1 * t.tdiv o1 = t.tdiv o1 * o1 := by
  have e1 := Int.emod_add_mul_ediv t o1
  have e2 := Int.emod_nonneg t (show o1 ≠ 0 by omega)
  have e3 := Int.emod_lt_of_pos t ho1
  rw [htd]
  refine ⟨?_, ?_, ?_, ?_, by omega, e2, e3, Int.mul_comm _ _⟩ <;> rcases ho with h | h | h | h <;> subst h <;> (try split) <;> omega
 obtain ⟨b1, b2, b3, b4, b5, b6, b7, b8⟩ := hb
 constructor
 ·rw [text_strip_eq, text_floor_eq]
  simp only [iteD, iteND]
  rw [if_neg (by omega), w64 (n := t.tdiv o1) ⟨b3, b4⟩, if_neg (by omega), hm, htd]
  by_cases q : t < 0 ∧ t % o1 ≠ 0
  ·rw [if_pos q, if_neg ?_, if_pos q.1, w64 (by omega), show t / o1 + 1 - 1 = t / o1 by omega]
   ·rfl
   ·intro z
    rw [Int.mul_add] at z
    omega
  ·rw [if_neg q]
   by_cases q2 : t - o1 * (t / o1) = 0
   ·rw [if_pos q2]; rfl
   ·rw [if_neg q2, if_neg (by omega)]; rfl
 ·rw [ref10_Strip_eq]
  simp only [iteD]
  have hp : -9223372036854775808 ≤ t.tdiv o1 * o1 ∧ t.tdiv o1 * o1 ≤ 9223372036854775807 := by
   rw [← b8, htd]
   split
   ·rename_i q; rw [Int.mul_add]; rcases ho with h | h | h | h <;> subst h <;> omega
   ·rename_i q; rcases ho with h | h | h | h <;> subst h <;> omega
  rw [if_neg (by omega), w64 (n := t.tdiv o1) ⟨b3, b4⟩, w64 hp, ← b8, htd]
  by_cases q : t < 0 ∧ t % o1 ≠ 0
  ·rw [if_pos q, if_pos ?_, w64 (by omega), show t / o1 + 1 - 1 = t / o1 by omega]
   rw [Int.mul_add]; omega
  ·rw [if_neg q, if_neg (by omega)]
/-! ### Where contexts lie -/
def dirT (kk : Nat) : Int := 384 + 2 ^ kk
def sizT (kk : Nat) (o7 : Bool) (o8 : Int) : Int := if o7 = true then dirT kk + (rctxN o8 + 1) else dirT kk
theorem sizT_small {kk : Nat} (h : kk ≤ 6) (o7 : Bool) (o8 : Int) : 385 ≤ dirT kk ∧ dirT kk ≤ 448 ∧ (0 < rctxN o8 ∧ rctxN o8 ≤ 512) ∧ dirT kk ≤ sizT kk o7 o8 ∧ sizT kk o7 o8 ≤ 1000 ∧ (o7 = true → sizT kk o7 o8 = dirT kk + (rctxN o8 + 1)) := by
 have h0 : (2 : Int) ^ 0 ≤ 2 ^ kk := ipow_le (by omega)
 have h6 : (2 : Int) ^ kk ≤ 2 ^ 6 := ipow_le h
 rw [show (2 : Int) ^ 6 = 64 by decide] at h6
 rw [show (2 : Int) ^ 0 = 1 by decide] at h0
 have := rctxN_small o8
 refine ⟨by unfold dirT; omega, by unfold dirT; omega, this, ?_, ?_, fun q => if_pos q⟩ <;> unfold sizT dirT <;> split <;> omega
/-- which options are right -/
def TxtOk (o1 o2 o4 o5 o6 o8 : Int) : Prop := Strip4 o1 ∧ (0 ≤ o2 ∧ o2 ≤ 3) ∧ (-16 ≤ o4 ∧ o4 ≤ 16) ∧ (0 ≤ o5 ∧ o5 ≤ 4) ∧ (o6 = 0 ∨ o6 = 1) ∧ (o8 = 0 ∨ o8 = 1)
/-- which items are right, of so many symbols -/
def ItmOk (o7 : Bool) (n : Int) (x : Item) : Prop := (0 ≤ x.symbol ∧ x.symbol < n) ∧ (-100000 ≤ x.s ∧ x.s ≤ 100000) ∧ (-100000 ≤ x.t ∧ x.t ≤ 100000) ∧
 (x.refined = true → o7 = true ∧ (-200 ≤ x.dX ∧ x.dX ≤ 200) ∧ (-200 ≤ x.dY ∧ x.dY ≤ 200)) ∧ (x.refined = false → x.dX = 0 ∧ x.dY = 0 ∧ x.pix_w = 0 ∧ x.pix_h = 0 ∧ ((x.pix_pix.length : Nat) : Int) = 0)
section
variable {o1 o2 o4 o5 o6 o8 : Int} {o3 o7 : Bool} {kk : Nat} {syms : List Bitmap}
theorem tput_is {at_ n : Int} {s : EncS} {B : Nat} (hk : kk ≤ 6) (ha : 0 ≤ at_ ∧ at_ ≤ 336) (hn : -1000000 ≤ n ∧ n ≤ 1000000) (hs : EncAt (sizT kk o7 o8).toNat B s) (hB : B ≤ 100000000) :
  ∃ r : EncS, text_writer_put at_ n o1 o2 o3 o4 o5 o6 o7 o8 (kk : Int) (dirT kk) (sizT kk o7 o8) syms s.1 s.2.1 s.2.2.1 s.2.2.2.1 s.2.2.2.2 = some (o1, o2, o3, o4, o5, o6, o7, o8, (kk : Int), dirT kk, sizT kk o7 o8, syms, r) ∧ ref10_put at_ n s.1 s.2.1 s.2.2.1 s.2.2.2.1 s.2.2.2.2 = some r ∧ EncAt (sizT kk o7 o8).toNat (B + 400) r := by
 obtain ⟨d1, d2, c1, d3, d4, d5⟩ := sizT_small hk o7 o8
 obtain ⟨r, r1, r2, r3⟩ := numberPut_is (base := at_) (n := n) (none_ := false) (by omega) (by omega) (by simp; omega) hs hB
 refine ⟨r, ?_, ?_, r3⟩
 ·rw [text_writer_put_eq, r1]; rfl
 ·rw [ref10_put_eq, r2]; rfl
/-- what the reference puts behind an item's place -/
def TailR (o1 o6 o8 : Int) (o7 : Bool) (kk : Nat) (syms : List Bitmap) (x : Item) (s r : EncS) : Prop :=
 ∃ s1 s2 : EncS, (o1 > 1 ∧ ref10_put 144 (x.t - x.t / o1 * o1) s.1 s.2.1 s.2.2.1 s.2.2.2.1 s.2.2.2.2 = some s1 ∨ ¬ o1 > 1 ∧ s1 = s) ∧ ref03_PutId 385 (kk : Int) x.symbol s1.1 s1.2.1 s1.2.2.1 s1.2.2.2.1 s1.2.2.2.2 = some (0, s2) ∧
  (o7 = false ∧ r = s2 ∨ o7 = true ∧ x.refined = false ∧ ref02_Encoder_Put 384 0 s2.1 s2.2.1 s2.2.2.1 s2.2.2.2.1 s2.2.2.2.2 = some (0, r) ∨
   o7 = true ∧ x.refined = true ∧ ∃ (f : Bitmap) (s3 s4 s5 s6 s7 : EncS), syms[x.symbol.toNat]? = some f ∧ ref02_Encoder_Put 384 1 s2.1 s2.2.1 s2.2.2.1 s2.2.2.2.1 s2.2.2.2.2 = some (0, s3) ∧ (-1000 ≤ x.pix_w - f.w ∧ x.pix_w - f.w ≤ 1000) ∧ (-1000 ≤ x.pix_h - f.h ∧ x.pix_h - f.h ≤ 1000) ∧
    ref10_put 192 (x.pix_w - f.w) s3.1 s3.2.1 s3.2.2.1 s3.2.2.2.1 s3.2.2.2.2 = some s4 ∧ ref10_put 240 (x.pix_h - f.h) s4.1 s4.2.1 s4.2.2.1 s4.2.2.2.1 s4.2.2.2.2 = some s5 ∧ ref10_put 288 x.dX s5.1 s5.2.1 s5.2.2.1 s5.2.2.2.1 s5.2.2.2.2 = some s6 ∧ ref10_put 336 x.dY s6.1 s6.2.1 s6.2.2.1 s6.2.2.2.1 s6.2.2.2.2 = some s7 ∧
    ref08_Put (dirT kk) o8 x.dX x.dY false o6 x.pix_w x.pix_h x.pix_pix f.w f.h f.pix s7.1 s7.2.1 s7.2.2.1 s7.2.2.2.1 s7.2.2.2.2 = some (0, r))
theorem item_is {x : Item} {s : EncS} {B : Nat} (hk : kk ≤ 6) (ho : TxtOk o1 o2 o4 o5 o6 o8) (hx : ItmOk o7 ((syms.length : Nat) : Int) x) (hsym : ∀ f ∈ syms, ShpOk f.w f.h f.pix) (hp : x.refined = true → ShpOk x.pix_w x.pix_h x.pix_pix) (hw : ((syms.length : Nat) : Int) ≤ 2 ^ kk)
  (hs : EncAt (sizT kk o7 o8).toNat B s) (hB : B ≤ 90000000) :
  ∃ r : EncS, text_writer_item x.symbol x.s x.t x.refined x.dX x.dY x.pix_w x.pix_h x.pix_pix o1 o2 o3 o4 o5 o6 o7 o8 (kk : Int) (dirT kk) (sizT kk o7 o8) syms s.1 s.2.1 s.2.2.1 s.2.2.2.1 s.2.2.2.2 = some (o1, o2, o3, o4, o5, o6, o7, o8, (kk : Int), dirT kk, sizT kk o7 o8, syms, r) ∧
   TailR o1 o6 o8 o7 kk syms x s r ∧ EncAt (sizT kk o7 o8).toNat (B + 165000) r := by
 obtain ⟨d1, d2, c1, d3, d4, d5⟩ := sizT_small hk o7 o8
 obtain ⟨h1, h2, h3, h4, h5⟩ := hx
 have ho1 : 0 < o1 ∧ o1 ≤ 8 := by rcases ho.1 with h | h | h | h <;> omega
 have hm : x.t - x.t / o1 * o1 = x.t % o1 := by have := Int.emod_add_mul_ediv x.t o1; rw [Int.mul_comm]; omega
 have hm0 := Int.emod_nonneg x.t (show o1 ≠ 0 by omega)
 have hm1 := Int.emod_lt_of_pos x.t ho1.1
 obtain ⟨s1, g1, g2, g3⟩ : ∃ s1 : EncS, ((if decide (o1 > 1) = true then (text_strip o1 o2 o3 o4 o5 o6 o7 o8 x.symbol x.s x.t x.refined x.dX x.dY x.pix_w x.pix_h x.pix_pix).bind fun q27 => (text_writer_put 144 (IntKind.i64.wrap (x.t - IntKind.i64.wrap (q27 * o1))) o1 o2 o3 o4 o5 o6 o7 o8 (kk : Int) (dirT kk) (sizT kk o7 o8) syms s.1 s.2.1 s.2.2.1 s.2.2.2.1 s.2.2.2.2).bind fun q30 =>
   some (q30.1, q30.2.1, q30.2.2.1, q30.2.2.2.1, q30.2.2.2.2.1, q30.2.2.2.2.2.1, q30.2.2.2.2.2.2.1, q30.2.2.2.2.2.2.2.1, q30.2.2.2.2.2.2.2.2.1, q30.2.2.2.2.2.2.2.2.2.1, q30.2.2.2.2.2.2.2.2.2.2.1, q30.2.2.2.2.2.2.2.2.2.2.2.1, q30.2.2.2.2.2.2.2.2.2.2.2.2.1, q30.2.2.2.2.2.2.2.2.2.2.2.2.2.1, q30.2.2.2.2.2.2.2.2.2.2.2.2.2.2.1, q30.2.2.2.2.2.2.2.2.2.2.2.2.2.2.2.1, q30.2.2.2.2.2.2.2.2.2.2.2.2.2.2.2.2)
   else some (o1, o2, o3, o4, o5, o6, o7, o8, (kk : Int), dirT kk, sizT kk o7 o8, syms, s.1, s.2.1, s.2.2.1, s.2.2.2.1, s.2.2.2.2)) : Option _) = some (o1, o2, o3, o4, o5, o6, o7, o8, (kk : Int), dirT kk, sizT kk o7 o8, syms, s1) ∧
   (o1 > 1 ∧ ref10_put 144 (x.t - x.t / o1 * o1) s.1 s.2.1 s.2.2.1 s.2.2.2.1 s.2.2.2.2 = some s1 ∨ ¬ o1 > 1 ∧ s1 = s) ∧ EncAt (sizT kk o7 o8).toNat (B + 400) s1 := by
  by_cases q : o1 > 1
  ·obtain ⟨r, r1, r2, r3⟩ := tput_is (o1 := o1) (o2 := o2) (o3 := o3) (o4 := o4) (o5 := o5) (o6 := o6) (syms := syms) hk (at_ := 144) (n := x.t - x.t / o1 * o1) (by decide) (by omega) hs (by omega)
   refine ⟨r, ?_, .inl ⟨q, r2⟩, r3⟩
   have hb : -1000000 ≤ x.t / o1 * o1 ∧ x.t / o1 * o1 ≤ 1000000 := by omega
   rw [if_pos (by simpa using q), (strip_is ho.1 (by unfold In64; omega)).1]
   simp only [Option.bind_some]
   rw [w64 (n := x.t / o1 * o1) (by omega), w64 (n := x.t - x.t / o1 * o1) (by omega), r1]
   rfl
  ·exact ⟨s, by rw [if_neg (by simpa using q)], .inr ⟨q, rfl⟩, hs.1, hs.2.1, by have := hs.2.2; omega⟩
 obtain ⟨s2, p1, p2, p3⟩ := numberPutId_is (base := 385) (id := x.symbol) (k := kk) hk (by unfold dirT at *; omega) (by omega) (by omega) g3 (by omega)
 rw [text_writer_item_eq, g1]
 simp only [Option.bind_some]
 rw [p1]
 simp only [Option.bind_some]
 cases ho7 : o7 with
 | false =>
  subst ho7
  exact ⟨s2, rfl, ⟨s1, s2, g2, p2, .inl ⟨rfl, rfl⟩⟩, p3.1, p3.2.1, by have := p3.2.2; omega⟩
 | true =>
  subst ho7
  have hsz := d5 rfl
  cases hr : x.refined with
  | false =>
   obtain ⟨s3, u1, u2, u3⟩ := put_at p3 (c := 384) (b := 0) (by omega) (.inl rfl) (by omega)
   refine ⟨s3, ?_, ⟨s1, s2, g2, p2, .inr (.inl ⟨rfl, hr, u2⟩)⟩, u3.1, u3.2.1, by have := u3.2.2; omega⟩
   simp only [Bool.not_true, Bool.not_false, Bool.false_eq_true, if_false, if_true, u1]
   rfl
  | true =>
   obtain ⟨_, hdx, hdy⟩ := h4 hr
   have hpx := hp hr
   have hget : syms[x.symbol.toNat]? = some (syms[x.symbol.toNat]'(by omega)) := List.getElem?_eq_getElem _
   generalize hf : syms[x.symbol.toNat]'(by omega) = f at hget
   have hfo := hsym f (List.mem_of_getElem? hget)
   obtain ⟨s3, u1, u2, u3⟩ := put_at p3 (c := 384) (b := 1) (by omega) (.inr rfl) (by omega)
   obtain ⟨s4, v1, v2, v3⟩ := tput_is (o1 := o1) (o2 := o2) (o3 := o3) (o4 := o4) (o5 := o5) (o6 := o6) (syms := syms) hk (at_ := 192) (n := x.pix_w - f.w) (by decide) (by have := hpx.2; have := hfo.2; omega) u3 (by omega)
   obtain ⟨s5, w1, w2, w3⟩ := tput_is (o1 := o1) (o2 := o2) (o3 := o3) (o4 := o4) (o5 := o5) (o6 := o6) (syms := syms) hk (at_ := 240) (n := x.pix_h - f.h) (by decide) (by have := hpx.2; have := hfo.2; omega) v3 (by omega)
   obtain ⟨s6, y1, y2, y3⟩ := tput_is (o1 := o1) (o2 := o2) (o3 := o3) (o4 := o4) (o5 := o5) (o6 := o6) (syms := syms) hk (at_ := 288) (n := x.dX) (by decide) (by omega) w3 (by omega)
   obtain ⟨s7, z1, z2, z3⟩ := tput_is (o1 := o1) (o2 := o2) (o3 := o3) (o4 := o4) (o5 := o5) (o6 := o6) (syms := syms) hk (at_ := 336) (n := x.dY) (by decide) (by omega) y3 (by omega)
   have hro : RefOk o8 x.dX x.dY o6 := ⟨ho.2.2.2.2.2, ho.2.2.2.2.1, hdx.1, hdx.2, hdy.1, hdy.2⟩
   obtain ⟨r, r1, r2, r3⟩ := refPut08_is (o4 := false) hro hpx.1 hfo.1 (base := dirT kk) (by omega) (by omega) (by omega) z3
   refine ⟨r, ?_, ⟨s1, s2, g2, p2, .inr (.inr ⟨rfl, hr, f, s3, s4, s5, s6, s7, hget, u2, by have := hpx.2; have := hfo.2; omega, by have := hpx.2; have := hfo.2; omega, v2, w2, y2, z2, r2⟩)⟩, r3.1, r3.2.1, by have := r3.2.2; omega⟩
   simp only [Bool.not_true, Bool.false_eq_true, if_false, u1, Option.bind_some]
   rw [if_pos h1.1, hget]
   simp only [Option.bind_some]
   rw [w64 (n := x.pix_w - f.w) (by have := hpx.2; have := hfo.2; omega), v1]
   simp only [Option.bind_some]
   rw [w64 (n := x.pix_h - f.h) (by have := hpx.2; have := hfo.2; omega), w1]
   simp only [Option.bind_some]
   rw [y1]
   simp only [Option.bind_some]
   rw [z1]
   simp only [Option.bind_some]
   rw [text_layout_options_eq]
   simp only [Option.bind_some]
   rw [r1]
   rfl
end
abbrev TS := Int × Int × Int × List Int × List Int × Int × Int × Bool × Int × Int × Int × Bool × Int × Int × Int × Int × List Bitmap
def tW (o1 o2 : Int) (o3 : Bool) (o4 o5 o6 : Int) (o7 : Bool) (o8 : Int) (kk : Nat) (syms : List Bitmap) (s : EncS) : TS :=
 (s.1, s.2.1, s.2.2.1, s.2.2.2.1, s.2.2.2.2, o1, o2, o3, o4, o5, o6, o7, o8, (kk : Int), dirT kk, sizT kk o7 o8, syms)
def ItemsOk (o7 : Bool) (syms : List Bitmap) (l : List Item) : Prop := (∀ x ∈ l, ItmOk o7 ((syms.length : Nat) : Int) x ∧ (x.refined = true → ShpOk x.pix_w x.pix_h x.pix_pix)) ∧ (∀ f ∈ syms, ShpOk f.w f.h f.pix) ∧ syms.length ≤ 60 ∧ l.length ≤ 300
section
variable {o1 o2 o4 o5 o6 o8 : Int} {o3 o7 : Bool} {kk : Nat} {syms : List Bitmap} {l : List Item}
/-- how the reference comes to what follows an item's place -/
def PreT (o1 o4 : Int) (x : Item) (i : Nat) (was beg sp was' beg' : Int) (s0 s : EncS) : Prop :=
 (0 < i ∧ x.t / o1 = was ∧ was' = was ∧ beg' = beg ∧ ref10_put 96 (x.s - sp - o4) s0.1 s0.2.1 s0.2.2.1 s0.2.2.2.1 s0.2.2.2.2 = some s) ∨
 ((i = 0 ∧ ∃ s1 : EncS, ref10_put 0 (x.t / o1 - was) s0.1 s0.2.1 s0.2.2.1 s0.2.2.2.1 s0.2.2.2.2 = some s1 ∧ ref10_put 48 (x.s - beg) s1.1 s1.2.1 s1.2.2.1 s1.2.2.2.1 s1.2.2.2.2 = some s) ∧ was' = x.t / o1 ∧ beg' = x.s) ∨
 ((0 < i ∧ x.t / o1 ≠ was ∧ ∃ s2 s1 : EncS, ref03_Put 96 true 0 s0.1 s0.2.1 s0.2.2.1 s0.2.2.2.1 s0.2.2.2.2 = some (0, s2) ∧ ref10_put 0 (x.t / o1 - was) s2.1 s2.2.1 s2.2.2.1 s2.2.2.2.1 s2.2.2.2.2 = some s1 ∧ ref10_put 48 (x.s - beg) s1.1 s1.2.1 s1.2.2.1 s1.2.2.2.1 s1.2.2.2.2 = some s) ∧ was' = x.t / o1 ∧ beg' = x.s)
def Near (x : Int) : Prop := -100000 ≤ x ∧ x ≤ 100000
theorem strip_near {o1 t : Int} (ho : Strip4 o1) (h : Near t) : Near (t / o1) := by
 obtain ⟨h0, h1⟩ := h
 unfold Near
 rcases ho with q | q | q | q <;> subst q <;> omega
theorem ref_step {x : Item} {i : Nat} {was beg sp was' beg' : Int} {s0 s r : EncS} (hk : kk ≤ 6) (ho : TxtOk o1 o2 o4 o5 o6 o8) (hpow : ishl .i64 1 (kk : Int) = 2 ^ kk) (hI : ItemsOk o7 syms l) (hi : l[i]? = some x) (hn : Near was ∧ Near beg ∧ Near sp)
  (pre : PreT o1 o4 x i was beg sp was' beg' s0 s) (tl : TailR o1 o6 o8 o7 kk syms x s r) :
  ref10_Encode_loop13 o1 o2 o3 o4 o5 o6 o7 o8 syms l (kk : Int) (was, beg, sp, (i : Int), s0) = some (.inl (was', beg', x.s, ((i + 1 : Nat) : Int), r)) := by
 obtain ⟨d1, d2, c1, d3, d4, d5⟩ := sizT_small hk o7 o8
 have hx := (hI.1 x (List.mem_of_getElem? hi)).1
 have hlt := lt_len_of_get hi
 have hl := hI.2.2.2
 have z : (0 : Int) ≤ (i : Int) := by omega
 have zl : (i : Int) < ((l.length : Nat) : Int) := by omega
 have hsn := strip_near ho.1 (show Near x.t from hx.2.2.1)
 obtain ⟨n1, n2, n3⟩ := hn
 unfold Near at n1 n2 n3 hsn
 have ho1 : 0 < o1 ∧ o1 ≤ 8 := by rcases ho.1 with h | h | h | h <;> omega
 have hm : x.t - x.t / o1 * o1 = x.t % o1 := by have := Int.emod_add_mul_ediv x.t o1; rw [Int.mul_comm]; omega
 have hm0 := Int.emod_nonneg x.t (show o1 ≠ 0 by omega)
 have hm1 := Int.emod_lt_of_pos x.t ho1.1
 have hx3 := hx.2.2.1
 have hb : -1000000 ≤ x.t / o1 * o1 ∧ x.t / o1 * o1 ≤ 1000000 := by omega
 have tailEq : ∀ P : Option (Int × Int × Int × Int × Int × List Int × List Int), P = some (was', beg', s) →
   (P.bind fun p93 => ((if (o1 > 1) then (ref10_put 144 (IntKind.i64.wrap (x.t - IntKind.i64.wrap (x.t / o1 * o1))) p93.2.2.1 p93.2.2.2.1 p93.2.2.2.2.1 p93.2.2.2.2.2.1 p93.2.2.2.2.2.2).bind fun q103 => some (q103.1, q103.2.1, q103.2.2.1, q103.2.2.2.1, q103.2.2.2.2)
     else some (p93.2.2.1, p93.2.2.2.1, p93.2.2.2.2.1, p93.2.2.2.2.2.1, p93.2.2.2.2.2.2)) : Option (Int × Int × Int × List Int × List Int)).bind fun p109 =>
    (ref03_PutId 385 (kk : Int) x.symbol p109.1 p109.2.1 p109.2.2.1 p109.2.2.2.1 p109.2.2.2.2).bind fun q115 =>
    if (!o7) = true then some (Sum.inl (p93.1, p93.2.1, x.s, IntKind.i64.wrap ((i : Int) + 1), q115.2.1, q115.2.2.1, q115.2.2.2.1, q115.2.2.2.2.1, q115.2.2.2.2.2))
    else if (!x.refined) = true then (ref02_Encoder_Put 384 0 q115.2.1 q115.2.2.1 q115.2.2.2.1 q115.2.2.2.2.1 q115.2.2.2.2.2).bind fun q123 => some (Sum.inl (p93.1, p93.2.1, x.s, IntKind.i64.wrap ((i : Int) + 1), q123.2.1, q123.2.2.1, q123.2.2.2.1, q123.2.2.2.2.1, q123.2.2.2.2.2))
    else (ref02_Encoder_Put 384 1 q115.2.1 q115.2.2.1 q115.2.2.2.1 q115.2.2.2.2.1 q115.2.2.2.2.2).bind fun q131 =>
     if 0 ≤ x.symbol then (syms[x.symbol.toNat]?).bind fun e138 => (ref10_put 192 (IntKind.i64.wrap (x.pix_w - e138.w)) q131.2.1 q131.2.2.1 q131.2.2.2.1 q131.2.2.2.2.1 q131.2.2.2.2.2).bind fun q140 =>
      (ref10_put 240 (IntKind.i64.wrap (x.pix_h - e138.h)) q140.1 q140.2.1 q140.2.2.1 q140.2.2.2.1 q140.2.2.2.2).bind fun q147 => (ref10_put 288 x.dX q147.1 q147.2.1 q147.2.2.1 q147.2.2.2.1 q147.2.2.2.2).bind fun q153 =>
      (ref10_put 336 x.dY q153.1 q153.2.1 q153.2.2.1 q153.2.2.2.1 q153.2.2.2.2).bind fun q159 => if (kk : Int) < 0 then none else
      (ref10_refine o1 o2 o3 o4 o5 o6 o7 o8 x.dX x.dY).bind fun q168 =>
      (ref08_Put (IntKind.i64.wrap (IntKind.i64.wrap (385 + ishl .i64 1 (kk : Int)) - 1)) q168.1 q168.2.1 q168.2.2.1 q168.2.2.2.1 q168.2.2.2.2 x.pix_w x.pix_h x.pix_pix e138.w e138.h e138.pix q159.1 q159.2.1 q159.2.2.1 q159.2.2.2.1 q159.2.2.2.2).bind fun q174 =>
      some (Sum.inl (p93.1, p93.2.1, x.s, IntKind.i64.wrap ((i : Int) + 1), q174.2.1, q174.2.2.1, q174.2.2.2.1, q174.2.2.2.2.1, q174.2.2.2.2.2)) else none)
   = some (.inl (was', beg', x.s, ((i + 1 : Nat) : Int), r) : (Int × Int × Int × Int × Int × Int × Int × List Int × List Int) ⊕ (Int × Int × Int × List Int × List Int)) := by
  rintro P rfl
  obtain ⟨s1, s2, g1, g2, g3⟩ := tl
  simp only [Option.bind_some]
  rw [w64 (n := (i : Int) + 1) (by omega), w64 (n := x.t / o1 * o1) (by omega), w64 (n := x.t - x.t / o1 * o1) (by omega)]
  have e1 : ((if (o1 > 1) then (ref10_put 144 (x.t - x.t / o1 * o1) s.1 s.2.1 s.2.2.1 s.2.2.2.1 s.2.2.2.2).bind fun q103 => some (q103.1, q103.2.1, q103.2.2.1, q103.2.2.2.1, q103.2.2.2.2)
     else some (s.1, s.2.1, s.2.2.1, s.2.2.2.1, s.2.2.2.2)) : Option EncS) = some s1 := by
   rcases g1 with ⟨q, q1⟩ | ⟨q, rfl⟩
   ·rw [if_pos q, q1]; rfl
   ·rw [if_neg q]
  rw [e1]
  simp only [Option.bind_some]
  rw [g2]
  simp only [Option.bind_some]
  rcases g3 with ⟨q, rfl⟩ | ⟨q, q1, q2⟩ | ⟨q, q1, f, s3, s4, s5, s6, s7, u1, u2, u3, u4, u5, u6, u7, u8, u9⟩
  ·rw [q]; rfl
  ·rw [q, q1, q2]; rfl
  ·rw [q, q1, u2]
   simp only [Bool.not_true, Bool.false_eq_true, if_false, Option.bind_some]
   rw [if_pos hx.1.1, u1]
   simp only [Option.bind_some]
   rw [w64 (n := x.pix_w - f.w) (by omega), u5]
   simp only [Option.bind_some]
   rw [w64 (n := x.pix_h - f.h) (by omega), u6]
   simp only [Option.bind_some]
   rw [u7]
   simp only [Option.bind_some]
   rw [u8]
   simp only [Option.bind_some]
   have hp2 : (2 : Int) ^ kk = dirT kk - 384 := by unfold dirT; omega
   rw [if_neg (by omega), ref10_refine_eq, hpow, hp2, w64 (n := 385 + (dirT kk - 384)) (by omega), w64 (n := 385 + (dirT kk - 384) - 1) (by omega), show 385 + (dirT kk - 384) - 1 = dirT kk by omega]
   simp only [Option.bind_some]
   rw [u9]
   rfl
 unfold ref10_Encode_loop13
 simp only [zl, decide_true, if_true, z, Int.toNat_natCast, hi, Option.bind_some, iteD]
 rw [(strip_is (o2 := o2) (o3 := o3) (o4 := o4) (o5 := o5) (o6 := o6) (o7 := o7) (o8 := o8) (i1 := 0) (i2 := 0) (i4 := false) (i5 := 0) (i6 := 0) (i7 := 0) (i8 := 0) (i9 := []) ho.1 (show In64 x.t by unfold In64; omega)).2, Option.bind_some]
 have hx2 := hx.2.1
 have ho4 := ho.2.2.1
 rcases pre with ⟨q0, q1, rfl, rfl, q2⟩ | ⟨⟨q0, s1, q1, q2⟩, rfl, rfl⟩ | ⟨⟨q0, q1, s2, s1, q2, q3, q4⟩, rfl, rfl⟩
 ·have n0 : ¬ (i : Int) = 0 := by omega
  rw [if_neg n0, Option.bind_some]
  refine tailEq _ ?_
  simp only [q1, decide_true, Bool.not_true, Bool.false_eq_true, if_false]
  rw [w64 (n := x.s - sp) (by omega), w64 (n := x.s - sp - o4) (by omega), q2]
  rfl
 ·have n0 : (i : Int) = 0 := by omega
  have n1 : ¬ (i : Int) > 0 := by omega
  rw [if_pos n0, Option.bind_some]
  refine tailEq _ ?_
  rw [if_pos rfl, if_neg n1]
  simp only [Option.bind_some]
  rw [w64 (n := x.t / o1 - was) (by omega), q1]
  simp only [Option.bind_some]
  rw [w64 (n := x.s - beg) (by omega), q2]
  rfl
 ·have n0 : ¬ (i : Int) = 0 := by omega
  have n1 : (i : Int) > 0 := by omega
  rw [if_neg n0, Option.bind_some]
  refine tailEq _ ?_
  simp only [q1, decide_false, Bool.not_false, if_true]
  rw [if_pos n1, q2]
  simp only [Option.bind_some]
  rw [w64 (n := x.t / o1 - was) (by omega), q3]
  simp only [Option.bind_some]
  rw [w64 (n := x.s - beg) (by omega), q4]
  rfl
end
section
variable {o1 o2 o4 o5 o6 o8 : Int} {o3 o7 : Bool} {kk : Nat} {syms : List Bitmap} {l : List Item}
/-- one turn of the inner loop; the number is put unless it is the first -/
theorem strip_step {x : Item} {m : List Item} {n sp : Int} {at_ : Nat} {s s1 r : EncS} (ho : TxtOk o1 o2 o4 o5 o6 o8) (hx : ItmOk o7 ((syms.length : Nat) : Int) x) (hq : x.t / o1 = n) (hsp : Near sp) (hat : at_ ≤ 1000)
  (p1 : 0 < at_ ∧ text_writer_put 96 (x.s - sp - o4) o1 o2 o3 o4 o5 o6 o7 o8 (kk : Int) (dirT kk) (sizT kk o7 o8) syms s.1 s.2.1 s.2.2.1 s.2.2.2.1 s.2.2.2.2 = some (o1, o2, o3, o4, o5, o6, o7, o8, (kk : Int), dirT kk, sizT kk o7 o8, syms, s1) ∨ at_ = 0 ∧ s1 = s)
  (p2 : text_writer_item x.symbol x.s x.t x.refined x.dX x.dY x.pix_w x.pix_h x.pix_pix o1 o2 o3 o4 o5 o6 o7 o8 (kk : Int) (dirT kk) (sizT kk o7 o8) syms s1.1 s1.2.1 s1.2.2.1 s1.2.2.2.1 s1.2.2.2.2 = some (o1, o2, o3, o4, o5, o6, o7, o8, (kk : Int), dirT kk, sizT kk o7 o8, syms, r)) :
  loop (text_Encode_loop19 o1 o2 o3 o4 o5 o6 o7 o8 n) (x :: m, sp, (at_ : Int), tW o1 o2 o3 o4 o5 o6 o7 o8 kk syms s) = loop (text_Encode_loop19 o1 o2 o3 o4 o5 o6 o7 o8 n) (m, x.s, ((at_ + 1 : Nat) : Int), tW o1 o2 o3 o4 o5 o6 o7 o8 kk syms r) := by
 refine loop_step ?_
 have hlen : (((x :: m).length : Nat) : Int) > 0 := by simp
 have z : (0 : Int) ≤ 0 := by decide
 have z0 : (x :: m)[(0 : Int).toNat]? = some x := rfl
 have z1 : 0 ≤ (1 : Int) ∧ (1 : Int) ≤ (((x :: m).length : Nat) : Int) := by simp; omega
 have hx2 := hx.2.1
 have hx3 := hx.2.2.1
 unfold Near at hsp
 have ho4 := ho.2.2.1
 unfold text_Encode_loop19
 simp only [hlen, decide_true, if_true, z, z0, Option.bind_some, z1, and_self, cut1, iteD]
 rw [(strip_is (o2 := o2) (o3 := o3) (o4 := o4) (o5 := o5) (o6 := o6) (o7 := o7) (o8 := o8) ho.1 (show In64 x.t by unfold In64; omega)).1]
 simp only [Option.bind_some, hq, decide_true, if_true]
 rw [w64 (n := x.s - sp) (by omega), w64 (n := x.s - sp - o4) (by omega), w64 (n := (at_ : Int) + 1) (by omega)]
 have e1 : ((if ((at_ : Int) > 0) then (text_writer_put 96 (x.s - sp - o4) o1 o2 o3 o4 o5 o6 o7 o8 (kk : Int) (dirT kk) (sizT kk o7 o8) syms s.1 s.2.1 s.2.2.1 s.2.2.2.1 s.2.2.2.2).bind fun q144 =>
   some (q144.2.2.2.2.2.2.2.2.2.2.2.2.1, q144.2.2.2.2.2.2.2.2.2.2.2.2.2.1, q144.2.2.2.2.2.2.2.2.2.2.2.2.2.2.1, q144.2.2.2.2.2.2.2.2.2.2.2.2.2.2.2.1, q144.2.2.2.2.2.2.2.2.2.2.2.2.2.2.2.2, q144.1, q144.2.1, q144.2.2.1, q144.2.2.2.1, q144.2.2.2.2.1, q144.2.2.2.2.2.1, q144.2.2.2.2.2.2.1, q144.2.2.2.2.2.2.2.1, q144.2.2.2.2.2.2.2.2.1, q144.2.2.2.2.2.2.2.2.2.1, q144.2.2.2.2.2.2.2.2.2.2.1, q144.2.2.2.2.2.2.2.2.2.2.2.1)
  else some (s.1, s.2.1, s.2.2.1, s.2.2.2.1, s.2.2.2.2, o1, o2, o3, o4, o5, o6, o7, o8, (kk : Int), dirT kk, sizT kk o7 o8, syms)) : Option TS) = some (tW o1 o2 o3 o4 o5 o6 o7 o8 kk syms s1) := by
  rcases p1 with ⟨q, q1⟩ | ⟨q, rfl⟩
  ·rw [if_pos (by omega), q1]; rfl
  ·rw [if_neg (by omega)]; rfl
 simp only [tW] at e1 ⊢
 rw [e1]
 simp only [Option.bind_some]
 rw [p2]
 rfl
theorem inT_is (hk : kk ≤ 6) (ho : TxtOk o1 o2 o4 o5 o6 o8) (hpow : ishl .i64 1 (kk : Int) = 2 ^ kk) (hI : ItemsOk o7 syms l) (hw : ((syms.length : Nat) : Int) ≤ 2 ^ kk) (n beg : Int) (hn : Near n) (hbeg : Near beg) :
  ∀ (m : List Item) (i B : Nat) (sp : Int) (at_ : Nat) (s : EncS), l.drop i = m → 0 < i → 0 < at_ → at_ + m.length ≤ 1000 → Near sp → EncAt (sizT kk o7 o8).toNat B s → B + 166000 * m.length ≤ 80000000 →
   ∃ j mj spj r, l.drop j = mj ∧ i ≤ j ∧ mj.length ≤ m.length ∧ Near spj ∧ (∀ y, mj.head? = some y → y.t / o1 ≠ n) ∧ EncAt (sizT kk o7 o8).toNat (B + 166000 * (m.length - mj.length)) r ∧
    loop (text_Encode_loop19 o1 o2 o3 o4 o5 o6 o7 o8 n) (m, sp, (at_ : Int), tW o1 o2 o3 o4 o5 o6 o7 o8 kk syms s) = some (mj, tW o1 o2 o3 o4 o5 o6 o7 o8 kk syms r) ∧
    loop (ref10_Encode_loop13 o1 o2 o3 o4 o5 o6 o7 o8 syms l (kk : Int)) (n, beg, sp, (i : Int), s) = loop (ref10_Encode_loop13 o1 o2 o3 o4 o5 o6 o7 o8 syms l (kk : Int)) (n, beg, spj, (j : Int), r)
 | [], i, B, sp, at_, s, hd, hi, _, _, hsp, hs, hB => by
  refine ⟨i, [], sp, s, hd, Nat.le_refl _, Nat.le_refl _, hsp, by simp, by simpa using hs, ?_, rfl⟩
  refine loop_done ?_
  unfold text_Encode_loop19
  rfl
 | x :: m, i, B, sp, at_, s, hd, hi, ha, hal, hsp, hs, hB => by
  obtain ⟨hget, hd'⟩ := drop_get hd
  simp only [List.length_cons] at hB hal
  obtain ⟨hx, hxp⟩ := hI.1 x (List.mem_of_getElem? hget)
  have hx2 := hx.2.1
  have hx3 := hx.2.2.1
  have ho4 := ho.2.2.1
  by_cases hq : x.t / o1 = n
  ·obtain ⟨s1, p1, p2, p3⟩ := tput_is (o1 := o1) (o2 := o2) (o3 := o3) (o4 := o4) (o5 := o5) (o6 := o6) (syms := syms) hk (at_ := 96) (n := x.s - sp - o4) (by decide) (by unfold Near at hsp; omega) hs (by omega)
   obtain ⟨r, r1, r2, r3⟩ := item_is (o3 := o3) hk ho hx hI.2.1 hxp hw p3 (by omega)
   obtain ⟨j, mj, spj, r', g1, g2, g3, g4, g5, g6, g7, g8⟩ := inT_is hk ho hpow hI hw n beg hn hbeg m (i + 1) (B + 400 + 165000) x.s (at_ + 1) r hd' (by omega) (by omega) (by omega) hx2 r3 (by omega)
   refine ⟨j, mj, spj, r', g1, by omega, by simp; omega, g4, g5, ⟨g6.1, g6.2.1, by have := g6.2.2; simp only [List.length_cons]; omega⟩, ?_, ?_⟩
   ·rw [← g7]
    exact strip_step ho hx hq hsp (by omega) (.inl ⟨ha, p1⟩) r1
   ·rw [← g8]
    exact loop_step (ref_step hk ho hpow hI hget ⟨hn, hbeg, hsp⟩ (.inl ⟨hi, hq, rfl, rfl, p2⟩) r2)
  ·refine ⟨i, x :: m, sp, s, hd, Nat.le_refl _, Nat.le_refl _, hsp, fun y hy => by simp at hy; subst hy; exact hq, by simpa using hs, ?_, rfl⟩
   refine loop_done ?_
   have hlen : (((x :: m).length : Nat) : Int) > 0 := by simp
   have z : (0 : Int) ≤ 0 := by decide
   have z0 : (x :: m)[(0 : Int).toNat]? = some x := rfl
   unfold text_Encode_loop19
   simp only [hlen, decide_true, if_true, z, z0, Option.bind_some]
   rw [(strip_is (o2 := o2) (o3 := o3) (o4 := o4) (o5 := o5) (o6 := o6) (o7 := o7) (o8 := o8) ho.1 (show In64 x.t by unfold In64; omega)).1]
   simp only [Option.bind_some, hq, decide_false, Bool.false_eq_true, if_false]
theorem noneT_is {N B : Nat} {s : EncS} (hN : 144 ≤ N ∧ N ≤ 8192) (hs : EncAt N B s) (hB : B ≤ 100000000) : ∃ r, number_Put 96 true 0 s.1 s.2.1 s.2.2.1 s.2.2.2.1 s.2.2.2.2 = some (0, r) ∧ ref03_Put 96 true 0 s.1 s.2.1 s.2.2.1 s.2.2.2.1 s.2.2.2.2 = some (0, r) ∧ EncAt N (B + 400) r :=
 numberPut_is (base := 96) (n := 0) (none_ := true) (by omega) hN.2 (by simp) hs hB
/-- at the begin, or behind a strip's end -/
def BehindT (o1 : Int) (l : List Item) (i : Nat) (m : List Item) (last : Int) (s0 s : EncS) : Prop :=
 (i = 0 ∧ s0 = s) ∨ (0 < i ∧ l ≠ [] ∧ (∀ y, m.head? = some y → y.t / o1 ≠ last) ∧ ref03_Put 96 true 0 s0.1 s0.2.1 s0.2.2.1 s0.2.2.2.1 s0.2.2.2.2 = some (0, s))
theorem outT_is (hk : kk ≤ 6) (ho : TxtOk o1 o2 o4 o5 o6 o8) (hpow : ishl .i64 1 (kk : Int) = 2 ^ kk) (hI : ItemsOk o7 syms l) (hw : ((syms.length : Nat) : Int) ≤ 2 ^ kk) :
  ∀ (n : Nat) (m : List Item) (i B : Nat) (last first sp : Int) (s0 s : EncS), m.length ≤ n → l.drop i = m → (Near last ∧ Near first ∧ Near sp) → BehindT o1 l i m last s0 s → EncAt (sizT kk o7 o8).toNat B s → B + 167000 * m.length ≤ 80000000 →
   ∃ r r0, loop (text_Encode_loop12 o1 o2 o3 o4 o5 o6 o7 o8) (m, last, first, tW o1 o2 o3 o4 o5 o6 o7 o8 kk syms s) = some (tW o1 o2 o3 o4 o5 o6 o7 o8 kk syms r) ∧
    loop (ref10_Encode_loop13 o1 o2 o3 o4 o5 o6 o7 o8 syms l (kk : Int)) (last, first, sp, (i : Int), s0) = some r0 ∧
    (l = [] ∧ r0 = r ∨ l ≠ [] ∧ ref03_Put 96 true 0 r0.1 r0.2.1 r0.2.2.1 r0.2.2.2.1 r0.2.2.2.2 = some (0, r)) ∧ EncAt (sizT kk o7 o8).toNat (B + 167000 * m.length) r
 | n, [], i, B, last, first, sp, s0, s, hn, hd, hh, hb, hs, hB => by
  have hil : l.length ≤ i := by have := congrArg List.length hd; simp at this; omega
  refine ⟨s, s0, ?_, ?_, ?_, by simpa using hs⟩
  ·refine loop_done ?_
   unfold text_Encode_loop12
   rfl
  ·refine loop_done ?_
   have q : ¬ (i : Int) < ((l.length : Nat) : Int) := by omega
   unfold ref10_Encode_loop13
   simp only [q, decide_false, Bool.false_eq_true, if_false]
  ·rcases hb with ⟨q0, q1⟩ | ⟨q0, q1, q2, q3⟩
   ·subst q0
    exact .inl ⟨List.eq_nil_of_length_eq_zero (by omega), q1⟩
   ·exact .inr ⟨q1, q3⟩
 | 0, x :: m, _, _, _, _, _, _, _, hn, _, _, _, _, _ => by simp at hn
 | n + 1, x :: m, i, B, last, first, sp, s0, s, hn, hd, hh, hb, hs, hB => by
  obtain ⟨d1, d2, c1, d3, d4, d5⟩ := sizT_small hk o7 o8
  obtain ⟨hget, hd'⟩ := drop_get hd
  simp only [List.length_cons] at hB hn
  have hlt := lt_len_of_get hget
  have h300 := hI.2.2.2
  have hml : m.length + 1 = l.length - i := by rw [← List.length_cons (a := x), ← hd, List.length_drop]
  obtain ⟨hx, hxp⟩ := hI.1 x (List.mem_of_getElem? hget)
  have hx2 := hx.2.1
  have hx3 := hx.2.2.1
  have hne : l ≠ [] := fun q => by rw [q] at hget; simp at hget
  have hsn := strip_near ho.1 (show Near x.t from hx3)
  obtain ⟨nl, nf, ns⟩ := hh
  have nl' := nl; have nf' := nf; have hsn' := hsn
  unfold Near at nl' nf' hsn'
  obtain ⟨s1, p1, p2, p3⟩ := tput_is (o1 := o1) (o2 := o2) (o3 := o3) (o4 := o4) (o5 := o5) (o6 := o6) (syms := syms) hk (at_ := 0) (n := x.t / o1 - last) (by decide) (by omega) hs (by omega)
  obtain ⟨s2, u1, u2, u3⟩ := tput_is (o1 := o1) (o2 := o2) (o3 := o3) (o4 := o4) (o5 := o5) (o6 := o6) (syms := syms) hk (at_ := 48) (n := x.s - first) (by decide) (by omega) p3 (by omega)
  obtain ⟨r1, v1, v2, v3⟩ := item_is (o3 := o3) hk ho hx hI.2.1 hxp hw u3 (by omega)
  have pre : PreT o1 o4 x i last first sp (x.t / o1) x.s s0 s2 := by
   rcases hb with ⟨q0, rfl⟩ | ⟨q0, q1, q2, q3⟩
   ·exact .inr (.inl ⟨⟨q0, s1, p2, u2⟩, rfl, rfl⟩)
   ·exact .inr (.inr ⟨⟨q0, q2 x rfl, s, s1, q3, p2, u2⟩, rfl, rfl⟩)
  obtain ⟨j, mj, spj, r2, g1, g2, g3, g4, g5, g6, g7, g8⟩ := inT_is (o3 := o3) hk ho hpow hI hw (x.t / o1) x.s hsn hx2 m (i + 1) (B + 400 + 400 + 165000) x.s 1 r1 hd' (by omega) (by omega) (by omega) hx2 v3 (by omega)
  obtain ⟨r3, w1, w2, w3⟩ := noneT_is (by omega) g6 (by omega)
  obtain ⟨r, r0, y1, y2, y3, y4⟩ := outT_is hk ho hpow hI hw n mj j (B + 400 + 400 + 165000 + 166000 * (m.length - mj.length) + 400) (x.t / o1) x.s spj r2 r3 (by omega) g1 ⟨hsn, hx2, g4⟩ (.inr ⟨by omega, hne, g5, w2⟩) w3 (by omega)
  refine ⟨r, r0, ?_, ?_, y3, y4.1, y4.2.1, by have := y4.2.2; simp only [List.length_cons]; omega⟩
  ·rw [← y1]
   refine loop_step ?_
   have hlen : (((x :: m).length : Nat) : Int) > 0 := by simp
   have z : (0 : Int) ≤ 0 := by decide
   have z0 : (x :: m)[(0 : Int).toNat]? = some x := rfl
   unfold text_Encode_loop12
   simp only [hlen, decide_true, if_true, z, z0, Option.bind_some]
   rw [(strip_is (o2 := o2) (o3 := o3) (o4 := o4) (o5 := o5) (o6 := o6) (o7 := o7) (o8 := o8) ho.1 (show In64 x.t by unfold In64; omega)).1]
   simp only [Option.bind_some]
   rw [w64 (n := x.t / o1 - last) (by omega)]
   simp only [tW]
   rw [p1]
   simp only [Option.bind_some]
   rw [w64 (n := x.s - first) (by omega), u1]
   simp only [Option.bind_some]
   have e0 := (strip_step (m := m) (sp := x.s) (at_ := 0) (s := s2) ho hx rfl hx2 (by decide) (.inr ⟨rfl, rfl⟩) v1).trans g7
   simp only [tW] at e0
   rw [show loop (text_Encode_loop19 o1 o2 o3 o4 o5 o6 o7 o8 (x.t / o1)) (x :: m, x.s, 0, _) = _ from e0]
   simp only [Option.bind_some]
   rw [w1]
   rfl
  ·rw [← y2, ← g8]
   exact loop_step (ref_step hk ho hpow hI hget ⟨nl, nf, ns⟩ pre v2)
end
instance (o : Int) : Decidable (Strip4 o) := by unfold Strip4; infer_instance
instance (o1 o2 o4 o5 o6 o8 : Int) : Decidable (TxtOk o1 o2 o4 o5 o6 o8) := by unfold TxtOk; infer_instance
theorem contains4 (v : Int) : slices_Contains_int_int [1, 2, 4, 8] v = some (decide (Strip4 v)) := by
 rw [slices_Contains_int_int_eq, slices_Index_int_int_eq, slices_Index_int_int_loop2_over [1, 2, 4, 8] v (by simp) ()]
 unfold Strip4
 by_cases h1 : v = 1
 ·subst h1; rfl
 by_cases h2 : v = 2
 ·subst h2; rfl
 by_cases h4 : v = 4
 ·subst h4; rfl
 by_cases h8 : v = 8
 ·subst h8; rfl
 simp [overL, slices_Index_int_int_loop2_step, h1, h2, h4, h8]
theorem txtValid_is (o1 o2 o4 o5 o6 o8 : Int) (o3 o7 : Bool) : text_Valid o1 o2 o3 o4 o5 o6 o7 o8 = some (decide (TxtOk o1 o2 o4 o5 o6 o8)) ∧ ref10_Valid o1 o2 o3 o4 o5 o6 o7 o8 = some (decide (TxtOk o1 o2 o4 o5 o6 o8)) := by
 rw [text_Valid_eq, ref10_Valid_eq, contains4]
 simp only [Option.bind_some, iteD, iteND]
 by_cases hs : Strip4 o1
 ·have e : ((if o1 = 1 then some false else if o1 = 2 then some false else if o1 = 4 then some false else some (!decide (o1 = 8))) : Option Bool) = some false := by
   rcases hs with rfl | rfl | rfl | rfl <;> rfl
  rw [e]
  simp only [Option.bind_some, Bool.false_eq_true, if_false, hs, if_true]
  constructor
  ·unfold TxtOk
   simp only [hs, true_and]
   repeat' split
   all_goals (refine congrArg some ?_; symm; first | (rw [decide_eq_false_iff_not]; omega) | (rw [decide_eq_true_eq]; omega) | (rw [decide_eq_decide]; omega))
  ·have e2 : ∃ q : Bool, ((if o2 ≥ 0 then if o2 ≤ 3 then if o4 ≥ -16 then if o4 ≤ 16 then if o5 ≥ 0 then some (decide (o5 ≤ 4)) else some false else some false else some false else some false else some false) : Option Bool) = some q ∧ (q = true ↔ (0 ≤ o2 ∧ o2 ≤ 3) ∧ (-16 ≤ o4 ∧ o4 ≤ 16) ∧ (0 ≤ o5 ∧ o5 ≤ 4)) := by
    repeat' split
    all_goals (refine ⟨_, rfl, ?_⟩; first | (rw [decide_eq_true_eq]; omega) | (simp only [Bool.false_eq_true, false_iff]; omega))
   obtain ⟨q, q1, q2⟩ := e2
   rw [q1]
   simp only [Option.bind_some]
   unfold TxtOk
   simp only [hs, true_and]
   cases q with
   | true =>
    have q3 := q2.1 rfl
    simp only [q3.1, q3.2.1, q3.2.2, if_true, true_and, and_self]
    repeat' split
    all_goals (refine congrArg some ?_; symm; first | (rw [decide_eq_false_iff_not]; omega) | (rw [decide_eq_decide]; omega))
   | false =>
    have q3 : ¬ _ := fun h => absurd (q2.2 h) (by decide)
    simp only [Bool.false_eq_true, if_false]
    refine congrArg some ?_; symm
    rw [decide_eq_false_iff_not]
    exact fun h => q3 ⟨h.1, h.2.1, h.2.2.1⟩
 ·have e : ((if o1 = 1 then some false else if o1 = 2 then some false else if o1 = 4 then some false else some (!decide (o1 = 8))) : Option Bool) = some true := by
   unfold Strip4 at hs
   rw [if_neg (by omega), if_neg (by omega), if_neg (by omega), decide_eq_false (by omega)]; rfl
  have hn : ¬ TxtOk o1 o2 o4 o5 o6 o8 := fun h => hs h.1
  rw [e]
  simp [hs, hn]
theorem isShapeT_is {w h : Int} {p : List Int} (hl : p.length ≤ 9223372036854775807) : text_isShape w h p = some (shpB w h p) ∧ ref10_IsShape w h p = some (shpB w h p) := by
 rw [text_isShape_eq, ref10_IsShape_eq, bitmapValid_is hl, IsBitmap_is hl]
 unfold shpB
 cases bmpB w h p with
 | false => exact ⟨rfl, rfl⟩
 | true =>
  simp only [Option.bind_some, if_true, iteD, Bool.true_and]
  by_cases h1 : w ≥ 1 <;> by_cases h2 : w ≤ 40 <;> by_cases h3 : h ≥ 1 <;> by_cases h4 : h ≤ 40 <;> simp [h1, h2, h3, h4] <;> omega
instance (o7 : Bool) (n : Int) (x : Item) : Decidable (ItmOk o7 n x) := by unfold ItmOk; infer_instance
theorem rightItem_is (o1 o2 o4 o5 o6 o8 n : Int) (o3 o7 : Bool) (x : Item) : text_rightItem o1 o2 o3 o4 o5 o6 o7 o8 n x.symbol x.s x.t x.refined x.dX x.dY x.pix_w x.pix_h x.pix_pix = some (decide (ItmOk o7 n x)) ∧ ref10_isItem o1 o2 o3 o4 o5 o6 o7 o8 n x.symbol x.s x.t x.refined x.dX x.dY x.pix_w x.pix_h x.pix_pix = some (decide (ItmOk o7 n x)) := by
 have n1 : ∀ v : Int, text_near v 100000 = some (decide (-100000 ≤ v ∧ v ≤ 100000)) := fun v => by
  rw [text_near_eq]; simp only [iteD]; rw [w64 (by omega)]
  by_cases h : v ≥ 0 - 100000
  ·rw [if_pos h]; congr 1; rw [decide_eq_decide]; omega
  ·rw [if_neg h]; congr 1; symm; rw [decide_eq_false_iff_not]; omega
 have n2 : ∀ v : Int, text_near v 200 = some (decide (-200 ≤ v ∧ v ≤ 200)) := fun v => by
  rw [text_near_eq]; simp only [iteD]; rw [w64 (by omega)]
  by_cases h : v ≥ 0 - 200
  ·rw [if_pos h]; congr 1; rw [decide_eq_decide]; omega
  ·rw [if_neg h]; congr 1; symm; rw [decide_eq_false_iff_not]; omega
 have m1 : ∀ v : Int, ref10_isShift v = some (decide (-100000 ≤ v ∧ v ≤ 100000)) := fun v => by
  rw [ref10_isShift_eq]; simp only [iteD]
  by_cases h : v ≥ -100000
  ·rw [if_pos h]; congr 1; rw [decide_eq_decide]; omega
  ·rw [if_neg h]; congr 1; symm; rw [decide_eq_false_iff_not]; omega
 have m2 : ∀ v : Int, ref10_isSide v = some (decide (-200 ≤ v ∧ v ≤ 200)) := fun v => by
  rw [ref10_isSide_eq]; simp only [iteD]
  by_cases h : v ≥ -200
  ·rw [if_pos h]; congr 1; rw [decide_eq_decide]; omega
  ·rw [if_neg h]; congr 1; symm; rw [decide_eq_false_iff_not]; omega
 rw [text_rightItem_eq, ref10_isItem_eq]
 simp only [n1, n2, m1, m2, Option.bind_some, iteD, iteND]
 have e1 : ∃ q : Bool, ((if x.symbol < 0 then some true else if x.symbol ≥ n then some true else if (-100000 ≤ x.s ∧ x.s ≤ 100000) then some (!decide (-100000 ≤ x.t ∧ x.t ≤ 100000)) else some true) : Option Bool) = some q ∧ (q = false ↔ (0 ≤ x.symbol ∧ x.symbol < n) ∧ (-100000 ≤ x.s ∧ x.s ≤ 100000) ∧ (-100000 ≤ x.t ∧ x.t ≤ 100000)) := by
  repeat' split
  all_goals (refine ⟨_, rfl, ?_⟩; first | (rw [Bool.not_eq_false', decide_eq_true_eq]; omega) | (simp only [Bool.true_eq_false, false_iff]; omega))
 obtain ⟨q, q1, q2⟩ := e1
 rw [q1]
 simp only [Option.bind_some]
 unfold ItmOk
 cases q with
 | true =>
  have hn : ¬ _ := fun h => absurd (q2.2 h) (by decide)
  simp only [if_true]
  have e : decide ((0 ≤ x.symbol ∧ x.symbol < n) ∧ (-100000 ≤ x.s ∧ x.s ≤ 100000) ∧ (-100000 ≤ x.t ∧ x.t ≤ 100000) ∧ (x.refined = true → o7 = true ∧ (-200 ≤ x.dX ∧ x.dX ≤ 200) ∧ (-200 ≤ x.dY ∧ x.dY ≤ 200)) ∧ (x.refined = false → x.dX = 0 ∧ x.dY = 0 ∧ x.pix_w = 0 ∧ x.pix_h = 0 ∧ ((x.pix_pix.length : Nat) : Int) = 0)) = false := by
   rw [decide_eq_false_iff_not]; exact fun h => hn ⟨h.1, h.2.1, h.2.2.1⟩
  rw [e]; exact ⟨rfl, rfl⟩
 | false =>
  obtain ⟨r1, r2, r3⟩ := q2.1 rfl
  simp only [Bool.false_eq_true, if_false, r1, r2, r3, true_and, and_self]
  cases hr : x.refined with
  | false =>
   simp only [Bool.not_false, if_true, Bool.false_eq_true, if_false, false_implies, true_and, forall_const]
   constructor <;> (repeat' split) <;> (first | rw [Option.bind_some] | skip) <;> refine congrArg some ?_ <;> symm <;> first | (rw [decide_eq_false_iff_not]; omega) | (rw [decide_eq_decide]; omega)
  | true =>
   simp only [Bool.not_true, Bool.false_eq_true, if_false, if_true, Bool.true_eq_false, false_implies, and_true, forall_const]
   cases o7 with
   | false => simp
   | true =>
    simp only [if_true, true_and]
    constructor <;> (repeat' split) <;> (first | rw [Option.bind_some] | skip) <;> refine congrArg some ?_ <;> symm <;> first | (rw [decide_eq_false_iff_not]; omega) | (rw [decide_eq_decide]; omega)
/-! ### What is asked -/
theorem overL_acc {X A : Type} {P : X → Bool} {step : Nat → X → Bool → Option (Bool ⊕ A)} {fin : Bool → Option A} : ∀ (l : List X) (n : Nat) (b : Bool), (∀ k x b, x ∈ l → step k x b = some (.inl (b && P x))) → overL step fin n l b = fin (b && l.all P)
 | [], n, b, _ => by simp [overL_nil]
 | x :: l, n, b, h => by
  rw [overL_next (h n x b List.mem_cons_self), overL_acc l (n + 1) (b && P x) (fun k y c hy => h k y c (List.mem_cons_of_mem _ hy))]
  simp [Bool.and_assoc]
def ItmGood (x : Item) : Prop := GoodB x.pix_w x.pix_h x.pix_pix ∧ In64 x.t
def itmB (x : Item) : Bool := !x.refined || shpB x.pix_w x.pix_h x.pix_pix
theorem begunTxt_is {o1 o2 o4 o5 o6 o8 : Int} {o3 o7 : Bool} {syms : List Bitmap} {l : List Item} (hsl : syms.length ≤ 9223372036854775807) (hll : l.length ≤ 9223372036854775807) (hg : ∀ f ∈ syms, GoodB f.w f.h f.pix) (hgl : ∀ x ∈ l, ItmGood x) :
  ∃ e, text_begun o1 o2 o3 o4 o5 o6 o7 o8 syms l = some e ∧
   (e ≠ 0 ∧ ref10_asked o1 o2 o3 o4 o5 o6 o7 o8 syms l true ((syms.length : Nat) : Int) = some e ∨
    e = 0 ∧ TxtOk o1 o2 o4 o5 o6 o8 ∧ (∀ f ∈ syms, ShpOk f.w f.h f.pix) ∧ (∀ x ∈ l, x.refined = true → ShpOk x.pix_w x.pix_h x.pix_pix) ∧
     ∃ b, text_right o1 o2 o3 o4 o5 o6 o7 o8 ((syms.length : Nat) : Int) l = some b ∧ ref10_asked o1 o2 o3 o4 o5 o6 o7 o8 syms l true ((syms.length : Nat) : Int) = some (if b = true then 0 else 2) ∧ (b = true → syms.length ≤ 60 ∧ l.length ≤ 300 ∧ ∀ x ∈ l, ItmOk o7 ((syms.length : Nat) : Int) x)) := by
 rw [text_begun_eq, ref10_asked_eq, (txtValid_is o1 o2 o4 o5 o6 o8 o3 o7).1, (txtValid_is o1 o2 o4 o5 o6 o8 o3 o7).2]
 by_cases ho : TxtOk o1 o2 o4 o5 o6 o8
 ·simp only [ho, decide_true, Option.bind_some, Bool.not_true, Bool.false_eq_true, if_false]
  rw [slices_ContainsFunc_api_Bitmap_api_Bitmap_2_eq, slices_IndexFunc_api_Bitmap_api_Bitmap_2_eq, slices_IndexFunc_api_Bitmap_api_Bitmap_2_loop2_over syms hsl (), slices_ContainsFunc_api_Item_api_Item_eq, slices_IndexFunc_api_Item_api_Item_eq, slices_IndexFunc_api_Item_api_Item_loop2_over l hll (),
   ref10_asked_loop4_over syms hsl true]
  have a1 := overL_any (P := fun x : Bitmap => shpB x.w x.h x.pix = true) (step := slices_IndexFunc_api_Bitmap_api_Bitmap_2_loop2_step) (fin := fun _ => some (Sum.inl ())) (a := fun k => Sum.inr (k : Int)) syms 0 (fun k x hx => by
   unfold slices_IndexFunc_api_Bitmap_api_Bitmap_2_loop2_step
   rw [text_begun_1_eq, (isShapeT_is (hg x hx).1).1]
   by_cases hs : shpB x.w x.h x.pix = true
   ·exact .inl ⟨hs, by simp [hs]⟩
   ·exact .inr ⟨hs, by simp [hs]⟩)
  have a2 := overL_any (P := fun x : Item => itmB x = true) (step := slices_IndexFunc_api_Item_api_Item_loop2_step) (fin := fun _ => some (Sum.inl ())) (a := fun k => Sum.inr (k : Int)) l 0 (fun k x hx => by
   unfold slices_IndexFunc_api_Item_api_Item_loop2_step itmB
   rw [text_begun_2_eq, (isShapeT_is (hgl x hx).1.1).1]
   cases x.refined with
   | false => exact .inl ⟨rfl, rfl⟩
   | true =>
    by_cases hs : shpB x.pix_w x.pix_h x.pix_pix = true
    ·exact .inl ⟨by simp [hs], by simp [hs]⟩
    ·exact .inr ⟨by simp [hs], by simp [hs]⟩)
  have b1 := overL_acc (P := fun x : Bitmap => shpB x.w x.h x.pix) (step := ref10_asked_loop4_step) (fin := fun s => some s) syms 0 true (fun k x b hx => by
   unfold ref10_asked_loop4_step
   rw [(isShapeT_is (hg x hx).1).2]
   cases b <;> rfl)
  have b2 := fun b => overL_acc (P := itmB) (step := ref10_asked_loop9_step) (fin := fun s => some s) l 0 b (fun k x b hx => by
   unfold ref10_asked_loop9_step itmB
   rw [(isShapeT_is (hgl x hx).1.1).2]
   cases b <;> cases x.refined <;> rfl)
  rw [b1]
  simp only [Option.bind_some, Bool.true_and]
  rw [ref10_asked_loop9_over l hll, b2]
  simp only [Option.bind_some]
  rcases a1 with ⟨p1, e1⟩ | ⟨p1, i, e1⟩
  ·have t1 : syms.all (fun x => shpB x.w x.h x.pix) = true := List.all_eq_true.2 p1
   rw [e1, t1]
   simp only [Option.bind_some, Sum.elim_inl, show ¬ ((-1 : Int) ≥ 0) by decide, decide_false, Bool.false_eq_true, if_false, Bool.true_and]
   rcases a2 with ⟨p2, e2⟩ | ⟨p2, i, e2⟩
   ·have t2 : l.all itmB = true := List.all_eq_true.2 p2
    rw [e2, t2]
    simp only [Option.bind_some, Sum.elim_inl, show ¬ ((-1 : Int) ≥ 0) by decide, decide_false, Bool.false_eq_true, if_false, Bool.not_true, iteD]
    refine ⟨0, rfl, .inr ⟨rfl, trivial, fun f hf => shpB_of (hg f hf).2 (p1 f hf), fun x hx hr => ?_, ?_⟩⟩
    ·have := p2 x hx
     unfold itmB at this
     rw [hr] at this
     exact shpB_of (hgl x hx).1.2 (by simpa using this)
    ·rw [text_right_eq]
     simp only [iteD]
     by_cases h60 : ((syms.length : Nat) : Int) ≤ 60
     ·by_cases h300 : ((l.length : Nat) : Int) ≤ 300
      ·rw [if_pos h60, if_pos h300, if_neg (by omega)]
       have h3 : ¬ ((l.length : Nat) : Int) > 300 := by omega
       simp only [h3, decide_false, Option.bind_some, Bool.false_eq_true, if_false]
       rw [slices_ContainsFunc_api_Item_api_Item_2_eq, slices_IndexFunc_api_Item_api_Item_2_eq, ref10_asked_loop18_over _ _ _ _ _ _ _ _ l _ hll ()]
       have lo := slices_IndexFunc_api_Item_api_Item_2_loop2_over l hll (o1, o2, o3, o4, o5, o6, o7, o8, ((syms.length : Nat) : Int))
       simp only at lo
       rw [lo]
       have c1 : ∀ (m : List Item) (n : Nat), (∀ x ∈ m, x ∈ l) → (∀ x ∈ m, ItmOk o7 ((syms.length : Nat) : Int) x) ∧ overL slices_IndexFunc_api_Item_api_Item_2_loop2_step (fun s37 => some (Sum.inl (s37.1, s37.2.1, s37.2.2.1, s37.2.2.2.1, s37.2.2.2.2.1, s37.2.2.2.2.2.1, s37.2.2.2.2.2.2.1, s37.2.2.2.2.2.2.2.1, s37.2.2.2.2.2.2.2.2))) n m (o1, o2, o3, o4, o5, o6, o7, o8, ((syms.length : Nat) : Int)) = some (Sum.inl (o1, o2, o3, o4, o5, o6, o7, o8, ((syms.length : Nat) : Int)))
         ∨ (¬ ∀ x ∈ m, ItmOk o7 ((syms.length : Nat) : Int) x) ∧ ∃ k : Nat, overL slices_IndexFunc_api_Item_api_Item_2_loop2_step (fun s37 => some (Sum.inl (s37.1, s37.2.1, s37.2.2.1, s37.2.2.2.1, s37.2.2.2.2.1, s37.2.2.2.2.2.1, s37.2.2.2.2.2.2.1, s37.2.2.2.2.2.2.2.1, s37.2.2.2.2.2.2.2.2))) n m (o1, o2, o3, o4, o5, o6, o7, o8, ((syms.length : Nat) : Int)) = some (Sum.inr ((k : Int), o1, o2, o3, o4, o5, o6, o7, o8, ((syms.length : Nat) : Int))) := by
        intro m
        induction m with
        | nil => exact fun n _ => .inl ⟨by simp, rfl⟩
        | cons x m ih =>
         intro n hm
         have hstep : slices_IndexFunc_api_Item_api_Item_2_loop2_step n x (o1, o2, o3, o4, o5, o6, o7, o8, ((syms.length : Nat) : Int)) = if ItmOk o7 ((syms.length : Nat) : Int) x then some (Sum.inl (o1, o2, o3, o4, o5, o6, o7, o8, ((syms.length : Nat) : Int))) else some (Sum.inr (Sum.inr ((n : Int), o1, o2, o3, o4, o5, o6, o7, o8, ((syms.length : Nat) : Int)))) := by
          unfold slices_IndexFunc_api_Item_api_Item_2_loop2_step
          simp only
          rw [text_right_1_eq, (rightItem_is o1 o2 o4 o5 o6 o8 _ o3 o7 x).1]
          by_cases hi : ItmOk o7 ((syms.length : Nat) : Int) x <;> simp [hi]
         by_cases hi : ItmOk o7 ((syms.length : Nat) : Int) x
         ·rw [if_pos hi] at hstep
          rw [overL_next hstep]
          rcases ih (n + 1) (fun y hy => hm y (List.mem_cons_of_mem _ hy)) with ⟨g1, g2⟩ | ⟨g1, g2⟩
          ·exact .inl ⟨by simpa using ⟨hi, g1⟩, g2⟩
          ·exact .inr ⟨fun q => g1 fun y hy => q y (List.mem_cons_of_mem _ hy), g2⟩
         ·rw [if_neg hi] at hstep
          exact .inr ⟨fun q => hi (q x List.mem_cons_self), n, overL_exit hstep⟩
       have c2 := overL_any (P := fun x : Item => ItmOk o7 ((syms.length : Nat) : Int) x) (step := ref10_asked_loop18_step o1 o2 o3 o4 o5 o6 o7 o8 ((syms.length : Nat) : Int)) (fin := fun _ => some (Sum.inl ())) (a := fun _ => Sum.inr (2 : Int)) l 0 (fun k x hx => by
        unfold ref10_asked_loop18_step
        rw [(rightItem_is o1 o2 o4 o5 o6 o8 _ o3 o7 x).2]
        by_cases hi : ItmOk o7 ((syms.length : Nat) : Int) x
        ·exact .inl ⟨hi, by simp [hi]⟩
        ·exact .inr ⟨hi, by simp [hi]⟩)
       rcases c1 l 0 (fun x hx => hx) with ⟨u1, u2⟩ | ⟨u1, k, u2⟩ <;> rcases c2 with ⟨w1, w2⟩ | ⟨w1, k2, w2⟩
       ·rw [u2, w2]
        exact ⟨true, rfl, rfl, fun _ => ⟨by omega, by omega, u1⟩⟩
       ·exact absurd u1 w1
       ·exact absurd w1 u1
       ·rw [u2, w2]
        refine ⟨false, ?_, rfl, fun h => by cases h⟩
        have : (k : Int) ≥ 0 := by omega
        simp [this]
      ·rw [if_pos h60, if_neg h300, if_neg (by omega)]
       have h3 : ((l.length : Nat) : Int) > 300 := by omega
       exact ⟨false, rfl, by simp [h3], fun h => by cases h⟩
     ·rw [if_neg h60, if_pos (by omega)]
      exact ⟨false, rfl, rfl, fun h => by cases h⟩
   ·have t2 : l.all itmB = false := by rw [Bool.eq_false_iff]; exact fun q => p2 (List.all_eq_true.1 q)
    rw [e2, t2]
    have : (i : Int) ≥ 0 := by omega
    exact ⟨30, by simp [this], .inl ⟨by decide, rfl⟩⟩
  ·have t1 : syms.all (fun x => shpB x.w x.h x.pix) = false := by rw [Bool.eq_false_iff]; exact fun q => p1 (List.all_eq_true.1 q)
   rw [e1, t1]
   have : (i : Int) ≥ 0 := by omega
   exact ⟨30, by simp [this], .inl ⟨by decide, rfl⟩⟩
 ·exact ⟨2, by simp [ho], .inl ⟨by decide, by simp [ho]⟩⟩
/-! ### Are they in order? -/
def stN (o1 : Int) (l : List Item) (i : Nat) : Int := match l[i]? with
 | some x => x.t / o1
 | none => 0
theorem stN_get {o1 : Int} {l : List Item} {i : Nat} {x : Item} (h : l[i]? = some x) : stN o1 l i = x.t / o1 := by unfold stN; rw [h]
theorem sortP {o1 o2 o4 o5 o6 o8 : Int} {o3 o7 : Bool} {l : List Item} (ho : Strip4 o1) (hg : ∀ x ∈ l, In64 x.t) (hl : l.length ≤ 9223372036854775807) : ∀ k : Nat, k < l.length →
  loop (slices_IsSortedFunc_api_Item_api_Item_loop2 l) ((k : Int), o1, o2, o3, o4, o5, o6, o7, o8) = some (.inl (o1, o2, o3, o4, o5, o6, o7, o8)) ∧ (∀ i, 1 ≤ i → i ≤ k → ¬ IntKind.i64.wrap (stN o1 l i - stN o1 l (i - 1)) < 0)
  ∨ loop (slices_IsSortedFunc_api_Item_api_Item_loop2 l) ((k : Int), o1, o2, o3, o4, o5, o6, o7, o8) = some (.inr (false, o1, o2, o3, o4, o5, o6, o7, o8)) ∧ ¬ ∀ i, 1 ≤ i → i ≤ k → ¬ IntKind.i64.wrap (stN o1 l i - stN o1 l (i - 1)) < 0
 | 0, h => by
  refine .inl ⟨loop_done ?_, fun i h1 h2 => by omega⟩
  unfold slices_IsSortedFunc_api_Item_api_Item_loop2
  rfl
 | k + 1, h => by
  have hx : l[k + 1]? = some l[k + 1] := List.getElem?_eq_getElem h
  have hy : l[k]? = some (l[k]'(by omega)) := List.getElem?_eq_getElem _
  have e1 := stN_get (o1 := o1) hx
  have e2 := stN_get (o1 := o1) hy
  have z : (((k + 1 : Nat) : Nat) : Int) > 0 := by omega
  have z2 : (0 : Int) ≤ ((k + 1 : Nat) : Int) := by omega
  have z3 : IntKind.i64.wrap (((k + 1 : Nat) : Int) - 1) = (k : Int) := by rw [w64 (by omega)]; omega
  have z4 : (0 : Int) ≤ (k : Int) := by omega
  have hbody : slices_IsSortedFunc_api_Item_api_Item_loop2 l (((k + 1 : Nat) : Int), o1, o2, o3, o4, o5, o6, o7, o8) = if IntKind.i64.wrap (stN o1 l (k + 1) - stN o1 l k) < 0 then some (.inr (.inr (false, o1, o2, o3, o4, o5, o6, o7, o8))) else some (.inl ((k : Int), o1, o2, o3, o4, o5, o6, o7, o8)) := by
   unfold slices_IsSortedFunc_api_Item_api_Item_loop2
   simp only [z, decide_true, if_true, z2, Int.toNat_natCast, hx, Option.bind_some, z3, z4, hy]
   rw [text_Encode_1_eq, (strip_is ho (hg _ (List.getElem_mem _))).1, (strip_is ho (hg _ (List.getElem_mem _))).1, e1, e2]
   simp only [Option.bind_some, iteD]
  by_cases q : IntKind.i64.wrap (stN o1 l (k + 1) - stN o1 l k) < 0
  ·rw [if_pos q] at hbody
   exact .inr ⟨loop_done hbody, fun p => p (k + 1) (by omega) (by omega) q⟩
  ·rw [if_neg q] at hbody
   rw [loop_step hbody]
   rcases sortP ho hg hl k (by omega) with ⟨g1, g2⟩ | ⟨g1, g2⟩
   ·refine .inl ⟨g1, fun i h1 h2 => ?_⟩
    by_cases hi : i = k + 1
    ·subst hi; exact q
    ·exact g2 i h1 (by omega)
   ·exact .inr ⟨g1, fun p => g2 fun i h1 h2 => p i h1 (by omega)⟩
theorem sortR {o1 o2 o4 o5 o6 o8 : Int} {o3 o7 : Bool} {l : List Item} (ho : Strip4 o1) (hg : ∀ x ∈ l, In64 x.t) (hl : l.length ≤ 300) : ∀ (d k : Nat), 1 ≤ k → l.length ≤ k + d →
  loop (ref10_Encode_loop5 o1 o2 o3 o4 o5 o6 o7 o8 l) (k : Int) = some (.inl ()) ∧ (∀ i, k ≤ i → i < l.length → ¬ stN o1 l i < stN o1 l (i - 1))
  ∨ loop (ref10_Encode_loop5 o1 o2 o3 o4 o5 o6 o7 o8 l) (k : Int) = some (.inr ([], 2)) ∧ ¬ ∀ i, k ≤ i → i < l.length → ¬ stN o1 l i < stN o1 l (i - 1)
 | 0, k, hk, h => by
  refine .inl ⟨loop_done ?_, fun i h1 h2 => by omega⟩
  unfold ref10_Encode_loop5
  simp only [iteD]
  rw [if_neg (by omega)]
 | d + 1, k, hk, h => by
  by_cases hlt : k < l.length
  ·have hx : l[k]? = some l[k] := List.getElem?_eq_getElem hlt
   have hy : l[k - 1]? = some (l[k - 1]'(by omega)) := List.getElem?_eq_getElem _
   have e1 := stN_get (o1 := o1) hx
   have e2 := stN_get (o1 := o1) hy
   have hbody : ref10_Encode_loop5 o1 o2 o3 o4 o5 o6 o7 o8 l (k : Int) = if stN o1 l k < stN o1 l (k - 1) then some (.inr (.inr ([], 2))) else some (.inl ((k + 1 : Nat) : Int)) := by
    unfold ref10_Encode_loop5
    simp only [iteD]
    have z0 : (k : Int) < ((l.length : Nat) : Int) := by omega
    have z1 : (0 : Int) ≤ (k : Int) := by omega
    have z2 : (0 : Int) ≤ (k : Int) - 1 := by omega
    have z3 : ((k : Int) - 1).toNat = k - 1 := by omega
    simp only [z0, z1, if_true, Int.toNat_natCast, hx, Option.bind_some, w64 (n := (k : Int) - 1) (by omega), z2, z3, hy]
    rw [(strip_is (i1 := 0) (i2 := 0) (i4 := false) (i5 := 0) (i6 := 0) (i7 := 0) (i8 := 0) (i9 := []) ho (hg _ (List.getElem_mem _))).2, (strip_is (i1 := 0) (i2 := 0) (i4 := false) (i5 := 0) (i6 := 0) (i7 := 0) (i8 := 0) (i9 := []) ho (hg _ (List.getElem_mem _))).2, e1, e2, w64 (n := (k : Int) + 1) (by omega)]
    rfl
   by_cases q : stN o1 l k < stN o1 l (k - 1)
   ·rw [if_pos q] at hbody
    exact .inr ⟨loop_done hbody, fun p => p k (Nat.le_refl _) hlt q⟩
   ·rw [if_neg q] at hbody
    rw [loop_step hbody]
    rcases sortR ho hg hl d (k + 1) (by omega) (by omega) with ⟨g1, g2⟩ | ⟨g1, g2⟩
    ·refine .inl ⟨g1, fun i h1 h2 => ?_⟩
     by_cases hi : i = k
     ·subst hi; exact q
     ·exact g2 i (by omega) h2
    ·exact .inr ⟨g1, fun p => g2 fun i h1 h2 => p i (by omega) h2⟩
  ·refine .inl ⟨loop_done ?_, fun i h1 h2 => by omega⟩
   unfold ref10_Encode_loop5
   simp only [iteD]
   rw [if_neg (by omega)]
theorem sorted_is {o1 o2 o4 o5 o6 o8 : Int} {o3 o7 : Bool} {l : List Item} (ho : Strip4 o1) (hg : ∀ x ∈ l, In64 x.t) (hl : l.length ≤ 9223372036854775807) :
  ∃ b, slices_IsSortedFunc_api_Item_api_Item l o1 o2 o3 o4 o5 o6 o7 o8 = some (b, o1, o2, o3, o4, o5, o6, o7, o8) ∧ (l.length ≤ 300 → (∀ x ∈ l, Near x.t) → loop (ref10_Encode_loop5 o1 o2 o3 o4 o5 o6 o7 o8 l) 1 = some (if b = true then .inl () else .inr ([], 2))) := by
 have hnear : (∀ x ∈ l, Near x.t) → ∀ i, -100000 ≤ stN o1 l i ∧ stN o1 l i ≤ 100000 := fun h i => by
  unfold stN
  cases hi : l[i]? with
  | none => exact ⟨by show (-100000 : Int) ≤ 0; decide, by show (0 : Int) ≤ 100000; decide⟩
  | some x => exact strip_near ho (h x (List.mem_of_getElem? hi))
 rw [slices_IsSortedFunc_api_Item_api_Item_eq, w64 (n := ((l.length : Nat) : Int) - 1) (by omega)]
 by_cases h0 : l.length = 0
 ·refine ⟨true, ?_, fun h1 h2 => ?_⟩
  ·have : loop (slices_IsSortedFunc_api_Item_api_Item_loop2 l) (((l.length : Nat) : Int) - 1, o1, o2, o3, o4, o5, o6, o7, o8) = some (.inl (o1, o2, o3, o4, o5, o6, o7, o8)) := by
    refine loop_done ?_
    have q : ¬ ((l.length : Nat) : Int) - 1 > 0 := by omega
    unfold slices_IsSortedFunc_api_Item_api_Item_loop2
    simp only [q, decide_false, Bool.false_eq_true, if_false]
   simp only [this]
   rfl
  ·rcases sortR (o2 := o2) (o3 := o3) (o4 := o4) (o5 := o5) (o6 := o6) (o7 := o7) (o8 := o8) ho hg h1 0 1 (Nat.le_refl _) (by omega) with ⟨g1, _⟩ | ⟨_, g2⟩
   ·exact g1
   ·exact absurd (fun i q1 q2 => by omega) g2
 ·rw [show ((l.length : Nat) : Int) - 1 = ((l.length - 1 : Nat) : Int) by omega]
  rcases sortP (o2 := o2) (o3 := o3) (o4 := o4) (o5 := o5) (o6 := o6) (o7 := o7) (o8 := o8) ho hg hl (l.length - 1) (by omega) with ⟨g1, g2⟩ | ⟨g1, g2⟩
  ·refine ⟨true, by simp only [g1]; rfl, fun h1 h2 => ?_⟩
   rcases sortR (o2 := o2) (o3 := o3) (o4 := o4) (o5 := o5) (o6 := o6) (o7 := o7) (o8 := o8) ho hg h1 l.length 1 (Nat.le_refl _) (by omega) with ⟨u1, _⟩ | ⟨_, u2⟩
   ·exact u1
   ·refine absurd (fun i q1 q2 => ?_) u2
    have := g2 i q1 (by omega)
    have n1 := hnear h2 i
    have n2 := hnear h2 (i - 1)
    rw [w64 (by omega)] at this
    omega
  ·refine ⟨false, by simp only [g1]; rfl, fun h1 h2 => ?_⟩
   rcases sortR (o2 := o2) (o3 := o3) (o4 := o4) (o5 := o5) (o6 := o6) (o7 := o7) (o8 := o8) ho hg h1 l.length 1 (Nat.le_refl _) (by omega) with ⟨_, u2⟩ | ⟨u1, _⟩
   ·refine absurd (fun i q1 q2 => ?_) g2
    have := u2 i q1 (by omega)
    have n1 := hnear h2 i
    have n2 := hnear h2 (i - 1)
    rw [w64 (by omega)]
    omega
   ·exact u1
theorem txtEncode_is {o1 o2 o4 o5 o6 o8 : Int} {o3 o7 : Bool} {syms : List Bitmap} {l : List Item} (hsl : syms.length ≤ 9223372036854775807) (hll : l.length ≤ 9223372036854775807) (hg : ∀ f ∈ syms, GoodB f.w f.h f.pix) (hgl : ∀ x ∈ l, ItmGood x) :
  ∃ c e, text_Encode o1 o2 o3 o4 o5 o6 o7 o8 syms l = some (c, e) ∧ ref10_Encode o1 o2 o3 o4 o5 o6 o7 o8 syms l = some (c, e) ∧ c.length ≤ 100000000 ∧ (e = 0 → TxtOk o1 o2 o4 o5 o6 o8) := by
 obtain ⟨e, b1, b2⟩ := begunTxt_is (o1 := o1) (o2 := o2) (o3 := o3) (o4 := o4) (o5 := o5) (o6 := o6) (o7 := o7) (o8 := o8) hsl hll hg hgl
 rw [text_Encode_eq, ref10_Encode_eq, b1]
 rcases b2 with ⟨he, b2⟩ | ⟨he, ho, hsh, hit, b, b2, b3, b4⟩
 ·rw [b2]
  simp only [Option.bind_some, iteND, he, if_false]
  exact ⟨[], e, rfl, rfl, by simp, fun h => absurd h he⟩
 ·obtain ⟨so, s1, s2⟩ := sorted_is (o2 := o2) (o3 := o3) (o4 := o4) (o5 := o5) (o6 := o6) (o7 := o7) (o8 := o8) ho.1 (fun x hx => (hgl x hx).2) hll
  rw [b3, s1]
  simp only [Option.bind_some, he, decide_true, Bool.not_true, Bool.false_eq_true, if_false]
  rw [b2]
  simp only [Option.bind_some]
  cases b with
  | false =>
   simp only [Bool.not_false, if_true, Bool.false_eq_true, if_false, show ¬ ((2 : Int) = 0) by decide, decide_false]
   exact ⟨[], 2, rfl, rfl, by simp, fun h => by cases h⟩
  | true =>
   obtain ⟨h60, h300, hitm⟩ := b4 rfl
   have s3 := s2 h300 (fun x hx => (hitm x hx).2.2.1)
   simp only [Bool.not_true, Bool.false_eq_true, if_false, if_true, decide_true, Option.bind_some]
   rw [s3]
   cases so with
   | false => exact ⟨[], 2, rfl, rfl, by simp, fun h => by cases h⟩
   | true =>
    simp only [if_true, Option.bind_some, Sum.elim_inl, Bool.not_true, Bool.false_eq_true, if_false]
    obtain ⟨w1, w2, w3, w4⟩ := wid_is (n := syms.length) (by omega)
    obtain ⟨kk, hkk⟩ := Int.eq_ofNat_of_zero_le w3.1
    have k6 : kk ≤ 6 := by omega
    have hpow := pow_wid ⟨kk, by omega⟩
    simp only at hpow
    rw [hkk] at w1 w2 w4
    rw [hpow] at w4
    obtain ⟨d1, d2, c1, d3, d4, d5⟩ := sizT_small k6 o7 o8
    have hk : o6 = 0 ∨ o6 = 1 := ho.2.2.2.2.1
    have hp2 : (2 : Int) ^ kk = dirT kk - 384 := by unfold dirT; omega
    have elay : text_lay o1 o2 o3 o4 o5 o6 o7 o8 ((syms.length : Nat) : Int) = some (o1, o2, o3, o4, o5, o6, o7, o8, (kk : Int), dirT kk, sizT kk o7 o8) := by
     rw [text_lay_eq, w1, refine_Size_eq, rcontexts_is]
     have er : ((if (!decide (o8 = 0)) = true then some (!decide (o8 = 1)) else some false) : Option Bool) = some false := by rcases ho.2.2.2.2.2 with rfl | rfl <;> rfl
     rw [er]
     simp only [Option.bind_some, Bool.false_eq_true, if_false]
     rw [if_neg (by omega), hpow, hp2, w64 (n := 385 + (dirT kk - 384)) (by omega), w64 (n := 385 + (dirT kk - 384) - 1) (by omega), show 385 + (dirT kk - 384) - 1 = dirT kk by omega, w64 (n := rctxN o8 + 1) (by omega), w64 (n := dirT kk + (rctxN o8 + 1)) (by omega)]
     cases o7 <;> rfl
    have emod : ref10_Model o1 o2 o3 o4 o5 o6 o7 o8 ((syms.length : Nat) : Int) = some (o6, List.replicate (sizT kk o7 o8).toNat 0, (kk : Int)) := by
     rw [ref10_Model_eq, w2, ref08_Size_eq, size08_is]
     have a1 : ¬ o8 < 0 := by rcases ho.2.2.2.2.2 with rfl | rfl <;> decide
     have a2 : ¬ o8 > 1 := by rcases ho.2.2.2.2.2 with rfl | rfl <;> decide
     simp only [Option.bind_some, a1, a2, decide_false, Bool.false_eq_true, if_false]
     rw [if_neg (by omega), hpow, hp2, w64 (n := 385 + (dirT kk - 384)) (by omega), w64 (n := 385 + (dirT kk - 384) - 1) (by omega), show 385 + (dirT kk - 384) - 1 = dirT kk by omega, w64 (n := dirT kk + (rctxN o8 + 1)) (by omega)]
     have e2 : ((if o7 = true then some (dirT kk + (rctxN o8 + 1)) else some (dirT kk)) : Option Int) = some (sizT kk o7 o8) := by cases o7 <;> rfl
     rw [e2]
     simp only [Option.bind_some]
     rw [if_pos (by omega)]
    rw [elay, emod]
    simp only [Option.bind_some]
    obtain ⟨n1, n2, n3⟩ := newEncoder_is hk (st := List.replicate (sizT kk o7 o8).toNat 0) (by simp; omega) (new_states hk _)
    rw [(new_is hk (n := sizT kk o7 o8) (by omega) (by omega)).1, n2]
    simp only [Option.bind_some, Sum.elim_inl]
    rw [n1]
    simp only [Option.bind_some, Sum.elim_inl]
    have hf := fresh_at hk (n := sizT kk o7 o8) (by omega) (by omega)
    have hI : ItemsOk o7 syms l := ⟨fun x hx => ⟨hitm x hx, hit x hx⟩, hsh, h60, h300⟩
    obtain ⟨r, r0, y1, y2, y3, y4⟩ := outT_is (o3 := o3) k6 ho hpow hI w4 l.length l 0 0 0 0 0 _ _ (Nat.le_refl _) rfl (by unfold Near; decide) (.inl ⟨rfl, rfl⟩) hf (by omega)
    rw [show ((0 : Nat) : Int) = 0 from rfl] at y2
    simp only [tW] at y1
    rw [show loop (text_Encode_loop12 o1 o2 o3 o4 o5 o6 o7 o8) _ = _ from y1, show loop (ref10_Encode_loop13 o1 o2 o3 o4 o5 o6 o7 o8 syms l (kk : Int)) _ = _ from y2]
    simp only [Option.bind_some]
    obtain ⟨c, g1, g2, g3⟩ := end_at y4 (by omega)
    rw [g1]
    simp only [Option.bind_some, iteD]
    rcases y3 with ⟨q1, q2⟩ | ⟨q1, q2⟩
    ·subst q1
     subst q2
     rw [if_neg (by simp), g2]
     exact ⟨c, 0, rfl, rfl, by omega, fun _ => ho⟩
    ·rw [if_pos (by have := List.length_pos_iff.2 q1; omega), q2]
     simp only [Option.bind_some]
     rw [g2]
     exact ⟨c, 0, rfl, rfl, by omega, fun _ => ho⟩
theorem sizes1 {x : Int} {b s : List Int} {e : Int} (hs : ref01_Size x = some (s, e)) (hl : s.length ≤ 2147483650) (hb : b.length ≤ 50000000000) : page_writer_size [x] b = some (b ++ s) := by
 rw [page_writer_size_eq, writer_over _ (by simp)]
 simp only [overL, hs, Option.bind_some]
 rw [if_pos (by omega)]
 rfl
theorem signed1 {x : Int} {b s : List Int} {e : Int} (hx : In64 x) (hs : ref01_Signed x = some (s, e)) (hl : s.length ≤ 2147483650) (hb : b.length ≤ 50000000000) : page_writer_signed [x] b = some (b ++ s) := by
 rw [page_writer_signed_eq, wsigned_over _ (by simp) (fun y hy => by rw [List.mem_singleton] at hy; subst hy; exact hx)]
 simp only [overL, hs, Option.bind_some]
 rw [if_pos (by omega)]
 rfl
theorem len_some (x : Int) : ∃ n, math_bits_Len x = some n := by
 rw [math_bits_Len_eq, math_bits_Len64_eq]
 have hi : ∀ {α : Type} (c : Bool) (a b : α), (if c = true then some a else some b) = some (if c = true then a else b) := by intro α c a b; split <;> rfl
 simp only [hi, Option.bind_some]
 rw [if_pos (by rw [w8]; exact ⟨by omega, Int.lt_of_lt_of_le (Int.emod_lt_of_pos _ (by decide)) (by decide)⟩)]
 exact ⟨_, rfl⟩
theorem dictionary_is {t a b k o6 kept : Int} {o4 : Bool} {st : List Int} {old : List Bitmap} {l : List Shape} {ex : List Bool} (hst : st.length ≤ 9223372036854775807) (ho : old.length ≤ 70) (hl : l.length ≤ 70) (hg1 : ∀ f ∈ old, GoodB f.w f.h f.pix) (hg2 : ∀ x ∈ l, GoodB x.pix_w x.pix_h x.pix_pix) :
  ∃ c e, page_Dictionary t a b o4 k o6 kept st old l ex = some (c, e) ∧ ref13_Dictionary t a b o4 k o6 kept st old l ex = some (c, e) := by
 obtain ⟨c, m1, m2, e, q1, q2, q3⟩ := symEncode_is (t := t) (a := a) (b := b) (k := k) (o6 := o6) (kept := kept) (o4 := o4) (ex := ex) hst ho hl hg1 hg2
 have c0 : 0 ≤ (0 : Int) ∧ (0 : Int) < ((2 : Nat) : Int) := by decide
 have c1 : 0 ≤ (1 : Int) ∧ (1 : Int) < ((2 : Nat) : Int) := by decide
 obtain ⟨s1, f1, z1, l1, _⟩ := size_some ((l.length : Nat) : Int)
 rw [page_Dictionary_eq, ref13_Dictionary_eq, q1, q2, flag_is, bit_is]
 simp only [Option.bind_some, c0, c1, and_self, if_true]
 rw [byte_all _ _ (by simp) (by simp)]
 simp only [Option.bind_some]
 rw [sizes1 z1 l1 (by simp)]
 simp only [Option.bind_some, iteND, ref13_adaptive_eq, c0, c1, and_self, if_true, ref13_size_eq, z1]
 by_cases he : e = 0
 ·subst he
  rw [with_ok (by simp; omega)]
  simp only [Option.bind_some, if_true]
  rw [join_all _ (by simp) (by simp; omega)]
  have ew : IntKind.i64.wrap (16 * (if decide (((st.length : Nat) : Int) > 0) = true then 1 else 0)) = if decide (((st.length : Nat) : Int) > 0) = true then 16 else 0 := by split <;> rfl
  rw [ew]
  exact ⟨_, _, rfl, by simp⟩
 ·rw [with_bad he]
  simp only [Option.bind_some, he, if_false]
  exact ⟨_, _, rfl, rfl⟩
theorem log2_is {o : Int} (ho : Strip4 o) : ∃ n : Int, ref13_log2 o = some n ∧ (math_bits_Len (IntKind.u64.wrap o)).bind (fun q => some (IntKind.i64.wrap (q - 1))) = some n := by
 have key : ∀ k : Fin 4, V.iter (ref13_log2_loop2 (2 ^ k.val)) 8 0 = some ((k.val : Nat) : Int) ∧ (math_bits_Len (IntKind.u64.wrap (2 ^ k.val))).bind (fun q => some (IntKind.i64.wrap (q - 1))) = some ((k.val : Nat) : Int) := by
  simp only [math_bits_Len_eq, math_bits_Len64_eq]
  decide +kernel
 have go : ∀ k : Fin 4, o = 2 ^ k.val → ∃ n : Int, ref13_log2 o = some n ∧ (math_bits_Len (IntKind.u64.wrap o)).bind (fun q => some (IntKind.i64.wrap (q - 1))) = some n := fun k h => by
  obtain ⟨g1, g2⟩ := key k
  subst h
  exact ⟨_, by rw [ref13_log2_eq, loop_of_iter g1]; rfl, g2⟩
 rcases ho with h | h | h | h
 ·exact go 0 (by rw [h]; rfl)
 ·exact go 1 (by rw [h]; rfl)
 ·exact go 2 (by rw [h]; rfl)
 ·exact go 3 (by rw [h]; rfl)
theorem text_is {g1 g2 g3 g4 g5 o1 o2 o4 o5 o6 o8 : Int} {g6 o3 o7 : Bool} {syms : List Bitmap} {l : List Item} (h4 : In64 o4) (hsl : syms.length ≤ 9223372036854775807) (hll : l.length ≤ 9223372036854775807) (hg : ∀ f ∈ syms, GoodB f.w f.h f.pix) (hgl : ∀ x ∈ l, ItmGood x) :
  ∃ c e, page_Text g1 g2 g3 g4 g5 g6 o1 o2 o3 o4 o5 o6 o7 o8 syms l = some (c, e) ∧ ref13_Text g1 g2 g3 g4 g5 g6 o1 o2 o3 o4 o5 o6 o7 o8 syms l = some (c, e) := by
 rw [page_Text_eq, ref13_Text_eq, rightBegin_is, isBegin_is]
 simp only [Option.bind_some]
 generalize hv : ((if (!decide (BeginOk g1 g2 g3 g4 g5)) = true then some true else some (!decide (o5 = 1))) : Option Bool) = v
 by_cases hb : BeginOk g1 g2 g3 g4 g5
 ·have hvs : v = some (!decide (o5 = 1)) := by rw [← hv]; simp [hb]
  rw [hvs]
  simp only [Option.bind_some]
  cases hd : !decide (o5 = 1) with
  | true => exact ⟨_, _, rfl, rfl⟩
  | false =>
   simp only [Bool.false_eq_true, if_false]
   rw [new_ok (sidesB_iff.2 hb.1)]
   obtain ⟨c, e, t1, t2, t3, t4⟩ := txtEncode_is (o1 := o1) (o2 := o2) (o3 := o3) (o4 := o4) (o5 := o5) (o6 := o6) (o7 := o7) (o8 := o8) hsl hll hg hgl
   rw [t1, t2]
   simp only [Option.bind_some, decide_true, Bool.not_true, Bool.false_eq_true, if_false]
   obtain ⟨bl, b1, b2, b3⟩ := begin_is (hid := g6) hb
   obtain ⟨s1, f1, z1, l1⟩ := signed_some o4
   obtain ⟨s2, f2, z2, l2, _⟩ := size_some ((l.length : Nat) : Int)
   obtain ⟨n, hn⟩ := len_some (IntKind.u64.wrap o1)
   rw [b1, hn]
   simp only [Option.bind_some]
   rw [flag_is, flag_is]
   simp only [Option.bind_some]
   rw [byte_all _ _ (by simp) (by omega)]
   simp only [Option.bind_some]
   rw [signed1 h4 z1 l1 (by simp; omega)]
   simp only [Option.bind_some]
   rw [sizes1 z2 l2 (by simp; omega)]
   simp only [Option.bind_some, iteND]
   by_cases he : e = 0
   ·subst he
    obtain ⟨n2, g1', g2'⟩ := log2_is (t4 rfl).1
    rw [hn] at g2'
    simp only [Option.bind_some, Option.some.injEq] at g2'
    rw [with_ok (by simp; omega), g1', bit_is, bit_is, b2, g2']
    simp only [Option.bind_some, if_true, ref13_signed_eq, ref13_size_eq, z1, z2]
    rw [join_all _ (by simp) (by simp; omega)]
    have ew1 : IntKind.i64.wrap (16 * (if o3 = true then 1 else 0)) = if o3 = true then 16 else 0 := by split <;> rfl
    have ew2 : IntKind.i64.wrap (64 * (if o7 = true then 1 else 0)) = if o7 = true then 64 else 0 := by split <;> rfl
    rw [ew1, ew2]
    exact ⟨_, _, rfl, by simp⟩
   ·rw [with_bad he]
    simp only [Option.bind_some, he, if_false]
    exact ⟨_, _, rfl, rfl⟩
 ·have hvs : v = some true := by rw [← hv]; simp [hb]
  rw [hvs]
  exact ⟨_, _, rfl, rfl⟩
/-! ### The law -/
theorem sane13 : law13_Sane = some true := law13_Sane_F_le 300 _ (by kernel_rfl)
theorem goodB_of {l : List Int} {w h : Int} (hg : V.Good E (.ints .u8 l)) : GoodB w h l := by
 refine ⟨?_, good_u8 hg⟩
 cases hg with
 | ints _ hp => exact hp
theorem good_rows0 {l : List Bitmap} (h : V.Good E (.rows 0 l)) : l.length ≤ 9223372036854775807 ∧ ∀ f ∈ l, GoodB f.w f.h f.pix := by
 cases h with
 | rows hl hx => exact ⟨hl, fun x hm => goodB_of (hx x hm (.ints .u8 x.pix) (List.mem_cons_of_mem _ (List.mem_cons_of_mem _ (List.mem_cons_self ..))))⟩
theorem good_rows1 {l : List Shape} (h : V.Good E (.rows 1 l)) : l.length ≤ 9223372036854775807 ∧ ∀ x ∈ l, GoodB x.pix_w x.pix_h x.pix_pix := by
 cases h with
 | rows hl hx => exact ⟨hl, fun x hm => goodB_of (hx x hm (.ints .u8 x.pix_pix) (List.mem_cons_of_mem _ (List.mem_cons_of_mem _ (List.mem_cons_self ..))))⟩
theorem good_rows3 {l : List Item} (h : V.Good E (.rows 3 l)) : l.length ≤ 9223372036854775807 ∧ ∀ x ∈ l, ItmGood x := by
 cases h with
 | rows hl hx =>
  refine ⟨hl, fun x hm => ⟨goodB_of (hx x hm (.ints .u8 x.pix_pix) (List.mem_cons_of_mem _ (List.mem_cons_of_mem _ (List.mem_cons_of_mem _ (List.mem_cons_of_mem _ (List.mem_cons_of_mem _ (List.mem_cons_of_mem _ (List.mem_cons_of_mem _ (List.mem_cons_of_mem _ (List.mem_cons_self ..)))))))))), good_int (hx x hm (.int .i64 x.t) (List.mem_cons_of_mem _ (List.mem_cons_of_mem _ (List.mem_cons_self ..))))⟩⟩
theorem manyS_some (l : List Bitmap) (hl : l.length ≤ 9223372036854775807) : ∃ n, law13_many l = some n := by
 rw [law13_many_eq, law13_many_loop3_over l hl 0]
 obtain ⟨r, hr⟩ := overL_ends (step := law13_many_loop3_step) (fun n x s => ⟨_, rfl⟩) l 0 0
 exact ⟨r, by rw [hr]; rfl⟩
theorem pageShapes_true (a1 a2 a3 : Int) (a4 : Bool) (a5 a6 a7 : Int) (a8 : List Int) (a9 : List Bitmap) (a10 : List Shape) (a11 : List Bool) (a12 a13 a14 a15 a16 : Int) (a17 : Bool) (a18 a19 : Int) (a20 : Bool) (a21 a22 a23 : Int) (a24 : Bool) (a25 : Int) (a26 : List Item)
  (h : GoodP E (.agg [.int .i64 a1, .int .i64 a2, .int .i64 a3, .bool a4, .int .i64 a5, .int .i64 a6, .int .i64 a7, .ints .i64 a8, .rows 0 a9, .rows 1 a10, .rows 2 a11, .int .i64 a12, .int .i64 a13, .int .i64 a14, .int .i64 a15, .int .i64 a16, .bool a17, .int .i64 a18, .int .i64 a19, .bool a20, .int .i64 a21, .int .i64 a22, .int .i64 a23, .bool a24, .int .i64 a25, .rows 3 a26])) :
  law13_PageShapes a1 a2 a3 a4 a5 a6 a7 a8 a9 a10 a11 a12 a13 a14 a15 a16 a17 a18 a19 a20 a21 a22 a23 a24 a25 a26 = some true := by
 obtain ⟨_, _, _, _, _, _, _, g8, g9, g10, _, _, _, _, _, _, _, _, _, _, g21, _, _, _, _, g26, _⟩ := h
 obtain ⟨l9, h9⟩ := good_rows0 g9
 obtain ⟨l10, h10⟩ := good_rows1 g10
 obtain ⟨l26, h26⟩ := good_rows3 g26
 have l8 : a8.length ≤ 9223372036854775807 := by cases g8 with | ints _ hp => exact hp
 rw [law13_PageShapes_eq, sane13]
 obtain ⟨n, hn⟩ := manyS_some a9 l9
 rw [hn]
 simp only [Option.bind_some]
 obtain ⟨n2, hn2⟩ := overL_ends (step := law13_PageShapes_loop3_step) (fun n x s => ⟨_, rfl⟩) a10 0 (IntKind.i64.wrap (IntKind.i64.wrap (n + ((a8.length : Nat) : Int)) + ((a11.length : Nat) : Int)))
 have e2 := law13_PageShapes_loop3_over a10 l10 (IntKind.i64.wrap (IntKind.i64.wrap (n + ((a8.length : Nat) : Int)) + ((a11.length : Nat) : Int)))
 rw [hn2] at e2
 rw [e2]
 simp only [Option.bind_some]
 obtain ⟨n3, hn3⟩ := overL_ends (step := law13_PageShapes_loop7_step) (fun n x s => ⟨_, rfl⟩) a26 0 n2
 have e3 := law13_PageShapes_loop7_over a26 l26 n2
 rw [hn3] at e3
 rw [e3]
 simp only [Option.bind_some]
 have e0 : ∃ b : Bool, ((if decide (n3 > 4000) = true then some true else if decide (((a10.length : Nat) : Int) > 70) = true then some true else if decide (((a9.length : Nat) : Int) > 70) = true then some true else some (decide (((a26.length : Nat) : Int) > 320))) : Option Bool) = some b ∧ (b = false → a10.length ≤ 70 ∧ a9.length ≤ 70) := by
  simp only [iteD]
  by_cases h1 : n3 > 4000
  ·exact ⟨true, by rw [if_pos h1], fun h => by cases h⟩
  ·rw [if_neg h1]
   by_cases h2 : ((a10.length : Nat) : Int) > 70
   ·exact ⟨true, by rw [if_pos h2], fun h => by cases h⟩
   ·rw [if_neg h2]
    by_cases h3 : ((a9.length : Nat) : Int) > 70
    ·exact ⟨true, by rw [if_pos h3], fun h => by cases h⟩
    ·rw [if_neg h3]
     exact ⟨_, rfl, fun _ => by omega⟩
 obtain ⟨b, eb, hb⟩ := e0
 rw [eb]
 simp only [Option.bind_some]
 cases b with
 | true => rfl
 | false =>
  obtain ⟨hb1, hb2⟩ := hb rfl
  obtain ⟨c1, e1, u1, u2⟩ := dictionary_is (t := a1) (a := a2) (b := a3) (o4 := a4) (k := a5) (o6 := a6) (kept := a7) (ex := a11) l8 hb2 hb1 h9 h10
  obtain ⟨c2, e2, u3, u4⟩ := text_is (g1 := a12) (g2 := a13) (g3 := a14) (g4 := a15) (g5 := a16) (g6 := a17) (o1 := a18) (o2 := a19) (o3 := a20) (o4 := a21) (o5 := a22) (o6 := a23) (o7 := a24) (o8 := a25) (good_int g21) l9 l26 h9 h26
  rw [u1, u2, u3, u4]
  simp only [Option.bind_some, ref01_SameBytes_eq, decide_true, Bool.not_true, Bool.false_eq_true, if_false, if_true]
end Go.Proofs.YtkccnhkhjncpkaaGreat.P
