/- Texts PureCoder, PureSizes, PureBase, PurePut, PureGen, PureGen2, PureBegin, PureGen3, PureBits06, PureRef, PureRef2, PureNum, PureLen, PureDig, PureEv, Bits, PureEv2, PureEv3, PureEv4, PureNumPut, one behind the other. -/
import Derived.Test.YtkccnhkhjncpkaaGreatQs
import Derived.Test.YtkccnhkhjncpkaaGreatLib
set_option linter.unusedVariables false
set_option linter.unusedSimpArgs false
namespace Go.Proofs.YtkccnhkhjncpkaaGreat.P
open Go Go.Proofs.YtkccnhkhjncpkaaGreat.V
/-- q(k) for each k -/
def QL : List Int := [2048, 1792, 1568, 1372, 1201, 1051, 920, 805, 705, 617, 540, 473, 414, 363, 318, 279, 245, 215, 189, 166, 146, 128, 112, 98, 86, 76, 67, 59, 52, 46, 41, 36]
theorem QL_next : ∀ i : Fin 31, IntKind.i64.wrap (rd QL ((i : Nat) : Int) - IntKind.i64.wrap ((rd QL ((i : Nat) : Int)).tdiv 8)) = rd QL (((i : Nat) + 1 : Nat) : Int) := by decide +kernel
theorem QL_range : ∀ i : Fin 32, 36 ≤ rd QL ((i : Nat) : Int) ∧ rd QL ((i : Nat) : Int) ≤ 2048 := by decide +kernel
theorem unlikely_loop {k : Nat} (hk : k < 32) : ∀ (d i : Nat), i + d = k → loop (ref02_unlikely_loop3 (k : Int)) (rd QL (i : Int), (i : Int)) = some (rd QL (k : Int))
 | 0, i, h => by
  have : i = k := by omega
  subst this
  refine loop_done ?_
  unfold ref02_unlikely_loop3
  simp
 | d + 1, i, h => by
  have hq := QL_next ⟨i, by omega⟩
  simp only at hq
  rw [loop_step (s' := (rd QL ((i + 1 : Nat) : Int), ((i + 1 : Nat) : Int)))]
  ·exact unlikely_loop hk d (i + 1) (by omega)
  ·unfold ref02_unlikely_loop3
   have h1 : (i : Int) < (k : Int) := by omega
   simp only [h1, decide_true, if_true, hq]
   rw [w64 (by omega)]; rfl
theorem unlikely_is {k : Int} (h0 : 0 ≤ k) (h1 : k < 32) : ref02_unlikely k = some (rd QL k) := by
 obtain ⟨n, rfl⟩ := Int.eq_ofNat_of_zero_le h0
 rw [ref02_unlikely_eq]
 have := unlikely_loop (k := n) (by omega) n 0 (by omega)
 have h2 : rd QL ((0 : Nat) : Int) = 2048 := by decide
 rw [h2] at this
 rw [show ((0 : Nat) : Int) = 0 from rfl] at this
 rw [this]; rfl
/-- a model's state -/
def StateOk (kind s : Int) : Prop := (kind = 0 ∧ 0 ≤ s ∧ s < 64) ∨ (kind = 1 ∧ 0 ≤ s ∧ s < 65536)
theorem chance_is {kind s : Int} (h : StateOk kind s) : coder_table_chance kind s = ref02_Likely kind s := by
 rw [coder_table_chance_eq, ref02_Likely_eq]
 rcases h with ⟨rfl, h0, h1⟩ | ⟨rfl, h0, h1⟩
 ·simp only [tmod_pos h0]
  simp only [show ¬ ((0 : Int) = 1) by decide, decide_true, decide_false, Bool.false_eq_true, if_true, if_false]
  rw [unlikely_is (by omega) (by omega)]
  by_cases h2 : s < 32
  ·have h3 : ¬ s ≥ 32 := by omega
   have h4 : s % 32 = s := by omega
   have h5 : s < ((32 : Nat) : Int) := by omega
   simp only [h2, h3, h4, h5, h0, decide_true, decide_false, Bool.false_eq_true, if_true, if_false, and_self, Option.bind_some]
   rfl
  ·have h3 : s ≥ 32 := by omega
   have h4 : s % 32 = s - 32 := by omega
   rw [w64 (n := s - 32) (by omega)]
   have h5 : 0 ≤ s - 32 := by omega
   have h6 : s - 32 < ((32 : Nat) : Int) := by omega
   simp only [h2, h3, h4, h5, h6, decide_true, decide_false, Bool.false_eq_true, if_true, if_false, and_self, Option.bind_some]
   rfl
 ·simp only [show ¬ ((1 : Int) = 0) by decide, decide_true, decide_false, Bool.false_eq_true, if_true, if_false]
theorem next_is {kind s bit : Int} (h : StateOk kind s) (hb : bit = 0 ∨ bit = 1) : coder_next kind s bit = ref02_After kind s bit := by
 rw [coder_next_eq, ref02_After_eq]
 rcases h with ⟨rfl, h0, h1⟩ | ⟨rfl, h0, h1⟩
 ·simp only [tmod_pos h0, tdiv_pos h0]
  simp only [show ¬ ((0 : Int) = 1) by decide, decide_true, decide_false, Bool.false_eq_true, if_true, if_false]
  by_cases h2 : bit = IntKind.i64.wrap (s / 32)
  ·simp only [h2, decide_true, if_true]
  ·simp only [h2, decide_false, Bool.false_eq_true, if_false]
   by_cases h3 : s % 32 = 0
   ·simp only [h3, decide_true, if_true]
    rw [w64 (n := 32 * bit) (by omega), Int.add_zero, w64 (by omega)]
   ·simp only [h3, decide_false, Bool.false_eq_true, if_false]
    rw [tdiv_pos (by omega)]
    simp only [w64s]
    congr 1
    omega
 ·simp only [show ¬ ((1 : Int) = 0) by decide, decide_true, decide_false, Bool.false_eq_true, if_true, if_false]
/-! ### The interval: two numbers of 32 bits -/
theorem ushr24 (n : Int) : ishr .u64 n 24 = n / 16777216 := by
 unfold ishr
 rw [show (2 : Int) ^ (min (24 : Int).toNat IntKind.u64.bits) = 16777216 by decide, Int.fdiv_eq_ediv_of_nonneg _ (by decide)]
theorem ushl8 {n : Int} (h0 : 0 ≤ n) (h1 : n < 4294967296) : ishl .u64 n 8 = n * 256 := by
 unfold ishl
 rw [show (2 : Int) ^ (min (8 : Int).toNat IntKind.u64.bits) = 256 by decide, wu64]
 omega
theorem ubv (m : Nat) : BitVec.ofInt 64 (m : Int) = BitVec.ofNat 64 m := by simp
theorem uand32 {n : Int} (h0 : 0 ≤ n) (h1 : n < 18446744073709551616) : iand .u64 n 4294967295 = n % 4294967296 := by
 obtain ⟨m, rfl⟩ := Int.eq_ofNat_of_zero_le h0
 unfold iand
 rw [show IntKind.u64.bits = 64 from rfl, show (4294967295 : Int) = ((4294967295 : Nat) : Int) from rfl, ubv, ubv, BitVec.toNat_and, BitVec.toNat_ofNat, BitVec.toNat_ofNat, wu64]
 rw [Nat.mod_eq_of_lt (show m < 2 ^ 64 by omega), show (4294967295 : Nat) % 2 ^ 64 = 2 ^ 32 - 1 by decide, Nat.and_two_pow_sub_one_eq_mod]
 omega
theorem uor255 {n : Int} (h0 : 0 ≤ n) (h1 : n < 18446744073709551616) (h : n % 256 = 0) : ior .u64 n 255 = n + 255 := by
 obtain ⟨m, rfl⟩ := Int.eq_ofNat_of_zero_le h0
 unfold ior
 rw [show IntKind.u64.bits = 64 from rfl, show (255 : Int) = ((255 : Nat) : Int) from rfl, ubv, ubv, BitVec.toNat_or, BitVec.toNat_ofNat, BitVec.toNat_ofNat, wu64]
 rw [Nat.mod_eq_of_lt (show m < 2 ^ 64 by omega), show (255 : Nat) % 2 ^ 64 = 255 by decide]
 obtain ⟨k, hk⟩ : ∃ k, m = 2 ^ 8 * k := ⟨m / 256, by omega⟩
 subst hk
 rw [← Nat.two_pow_add_eq_or_of_lt (show 255 < 2 ^ 8 by decide)]
 omega
/-- low and high -/
def Iv (lo hi : Int) : Prop := 0 ≤ lo ∧ lo ≤ hi ∧ hi < 4294967296
theorem lose_is {kind lo hi : Int} {st out : List Int} (h : Iv lo hi) : coder_interval_lose kind lo hi st out = some (lo / 16777216, kind, lo % 16777216 * 256, hi % 16777216 * 256 + 255, st, out) := by
 obtain ⟨h0, h1, h2⟩ := h
 rw [coder_interval_lose_eq]
 simp only
 rw [ushr24, ushl8 h0 (by omega), ushl8 (by omega) h2, uand32 (by omega) (by omega), uand32 (by omega) (by omega), uor255 (by omega) (by omega) (by omega), w8]
 congr 2
 ·omega
 ·congr 1
  congr 1
  ·omega
  ·congr 1
   omega
theorem shifted_is {lo hi : Int} (h : Iv lo hi) : ref02_Interval_Shifted lo hi = some (lo % 16777216 * 256, hi % 16777216 * 256 + 255) := by
 obtain ⟨h0, h1, h2⟩ := h
 rw [ref02_Interval_Shifted_eq]
 simp only [tmod_pos h0, tmod_pos (show (0 : Int) ≤ hi by omega), wu64]
 congr 2 <;> omega
theorem fixed_is {lo hi : Int} : ref02_Interval_Fixed lo hi = some (decide (lo / 16777216 = hi / 16777216)) := by
 rw [ref02_Interval_Fixed_eq]
 simp only [ushr24]
/-- where a chance cuts an interval -/
def midV (lo hi p : Int) : Int := lo + (hi - lo) / 4096 * p + (hi - lo) % 4096 * p / 4096
theorem midV_ge {lo hi p : Int} (h : lo ≤ hi) (hp : 0 ≤ p) : lo ≤ midV lo hi p := by
 unfold midV
 have h1 : 0 ≤ (hi - lo) / 4096 * p := Int.mul_nonneg (by omega) hp
 have h2 : 0 ≤ (hi - lo) % 4096 * p := Int.mul_nonneg (by omega) hp
 omega
theorem midV_lt {lo hi p : Int} (h : lo < hi) (hp : 0 ≤ p) (hp2 : p < 4096) : midV lo hi p < hi := by
 unfold midV
 have h1 : (hi - lo) / 4096 * p ≤ (hi - lo) / 4096 * 4095 := Int.mul_le_mul_of_nonneg_left (by omega) (by omega)
 have h2 : (hi - lo) % 4096 * p ≤ (hi - lo) % 4096 * 4095 := Int.mul_le_mul_of_nonneg_left (by omega) (by omega)
 omega
theorem refMid_is {lo hi p : Int} (h : Iv lo hi) (hp : 0 ≤ p) (hp2 : p < 4096) : ref02_Interval_Mid lo hi p = some (midV lo hi p) := by
 obtain ⟨h0, h1, h2⟩ := h
 have a1 : 0 ≤ (hi - lo) / 4096 * p := Int.mul_nonneg (by omega) hp
 have a2 : (hi - lo) / 4096 * p ≤ (hi - lo) / 4096 * 4095 := Int.mul_le_mul_of_nonneg_left (by omega) (by omega)
 have a3 : 0 ≤ (hi - lo) % 4096 * p := Int.mul_nonneg (by omega) hp
 have a4 : (hi - lo) % 4096 * p ≤ (hi - lo) % 4096 * 4095 := Int.mul_le_mul_of_nonneg_left (by omega) (by omega)
 rw [ref02_Interval_Mid_eq]
 unfold midV
 simp only [wu64, show (hi - lo) % 18446744073709551616 = hi - lo by omega, tdiv_pos (show 0 ≤ hi - lo by omega), tmod_pos (show 0 ≤ hi - lo by omega), show p % 18446744073709551616 = p by omega,
  show (hi - lo) / 4096 % 18446744073709551616 = (hi - lo) / 4096 by omega]
 rw [show (hi - lo) % 4096 * p % 18446744073709551616 = (hi - lo) % 4096 * p by omega, tdiv_pos a3]
 congr 1
 omega
theorem part_is {lo hi p bit : Int} (h : Iv lo hi) (hp : 0 ≤ p) (hp2 : p < 4096) : ref02_Interval_Part lo hi p bit = some (if bit = 1 then (lo, midV lo hi p) else (midV lo hi p + 1, hi)) := by
 have hm := midV_ge h.2.1 hp
 have hm2 : midV lo hi p ≤ hi := by
  rcases Int.lt_or_le lo hi with h1 | h1
  ·have := midV_lt h1 hp hp2; omega
  ·have : hi = lo := by have := h.2.1; omega
   subst this
   unfold midV; simp
 have h2 := h.2.2
 have h0 := h.1
 rw [ref02_Interval_Part_eq, refMid_is h hp hp2]
 by_cases hb : bit = 1
 ·simp only [hb, decide_true, if_true, Option.bind_some]
 ·simp only [hb, decide_false, Bool.false_eq_true, if_false, Option.bind_some, wu64]
  congr 2
  omega
theorem mid_is {ctx kind lo hi p : Int} {st out : List Int} (h : Iv lo hi) (hc : 0 ≤ ctx ∧ ctx < (st.length : Int)) (hq : ref02_Likely kind (rd st ctx) = some p) (hs : StateOk kind (rd st ctx)) (hp : 0 ≤ p) (hp2 : p < 4096) :
  coder_interval_mid ctx kind lo hi st out = some (midV lo hi p, kind, lo, hi, st, out) := by
 have hr := refMid_is h hp hp2
 rw [ref02_Interval_Mid_eq] at hr
 have hr := Option.some.inj hr
 rw [coder_interval_mid_eq]
 simp only [hc, and_self, if_true, chance_is hs, hq, Option.bind_some]
 rw [hr]
/-- how likely a 1 is, in a state -/
theorem likely_is {kind s : Int} (h : StateOk kind s) : ∃ p, ref02_Likely kind s = some p ∧ 0 ≤ p ∧ p < 4096 := by
 rw [ref02_Likely_eq]
 rcases h with ⟨rfl, h0, h1⟩ | ⟨rfl, h0, h1⟩
 ·simp only [tmod_pos h0, decide_true, if_true]
  rw [unlikely_is (by omega) (by omega)]
  have hr := QL_range ⟨(s % 32).toNat, by omega⟩
  simp only [show (((s % 32).toNat : Nat) : Int) = s % 32 by omega] at hr
  by_cases h2 : s < 32
  ·simp only [h2, decide_true, if_true, Option.bind_some]
   exact ⟨_, rfl, by omega, by omega⟩
  ·simp only [h2, decide_false, Bool.false_eq_true, if_false, Option.bind_some]
   exact ⟨_, rfl, by rw [w64 (by omega)]; omega, by rw [w64 (by omega)]; omega⟩
 ·simp only [tmod_pos h0, tdiv_pos h0, show ¬ ((1 : Int) = 0) by decide, decide_false, Bool.false_eq_true, if_false]
  have e1 : IntKind.i64.wrap (s / 256) = s / 256 := w64 (by omega)
  have e2 : IntKind.i64.wrap (2 * (s % 256)) = 2 * (s % 256) := w64 (by omega)
  have e3 : IntKind.i64.wrap (2 * (s / 256)) = 2 * (s / 256) := w64 (by omega)
  rw [e1, e2, e3, w64 (n := 2 * (s / 256) + 2 * (s % 256)) (by omega), w64 (n := 2 * (s / 256) + 2 * (s % 256) + 2) (by omega), if_neg (by omega)]
  refine ⟨_, rfl, ?_, ?_⟩ <;> rw [imin_eq, imax_eq] <;> omega
theorem take_is {ctx bit mid kind lo hi : Int} {st out : List Int} (hb : bit = 0 ∨ bit = 1) (hc : 0 ≤ ctx ∧ ctx < (st.length : Int)) (hs : StateOk kind (rd st ctx)) (hm : 0 ≤ mid ∧ mid < 4294967296) :
  coder_interval_take ctx bit mid kind lo hi st out = (ref02_After kind (rd st ctx) bit).bind fun s => some (if bit = 1 then (kind, lo, mid, st.set ctx.toNat s, out) else (kind, mid + 1, hi, st.set ctx.toNat s, out)) := by
 rw [coder_interval_take_eq]
 have hw : IntKind.u64.wrap (mid + 1) = mid + 1 := by rw [wu64]; omega
 by_cases h1 : bit = 1
 ·simp only [h1, decide_true, if_true, Option.bind_some, hc, and_self]
  rw [next_is hs (.inr rfl)]
 ·simp only [h1, decide_false, Bool.false_eq_true, if_false, Option.bind_some, hc, and_self, if_true, hw]
  rw [next_is hs hb]
theorem after_is {kind s bit : Int} (h : StateOk kind s) (hb : bit = 0 ∨ bit = 1) : ∃ s', ref02_After kind s bit = some s' ∧ StateOk kind s' := by
 rw [ref02_After_eq]
 rcases h with ⟨rfl, h0, h1⟩ | ⟨rfl, h0, h1⟩
 ·simp only [tmod_pos h0, tdiv_pos h0, decide_true, if_true]
  rw [tdiv_pos (show 0 ≤ s % 32 by omega)]
  have e1 : IntKind.i64.wrap (s / 32) = s / 32 := w64 (by omega)
  simp only [e1]
  by_cases h2 : bit = s / 32
  ·simp only [h2, decide_true, if_true]
   refine ⟨_, rfl, .inl ⟨rfl, ?_⟩⟩
   rw [w64 (n := 32 * (s / 32)) (by omega), w64 (n := s % 32 + 1) (by omega), imin_eq, w64 (by omega)]
   omega
  ·simp only [h2, decide_false, Bool.false_eq_true, if_false]
   by_cases h3 : s % 32 = 0
   ·simp only [h3, decide_true, if_true]
    exact ⟨_, rfl, .inl ⟨rfl, by rw [w64 (by omega)]; omega⟩⟩
   ·simp only [h3, decide_false, Bool.false_eq_true, if_false]
    refine ⟨_, rfl, .inl ⟨rfl, ?_⟩⟩
    rw [w64 (n := 32 * (s / 32)) (by omega), w64 (n := 32 * (s / 32) + s % 32) (by omega), w64 (n := 32 * (s / 32) + s % 32 - 1) (by omega), w64 (n := s % 32 / 4) (by omega), w64 (by omega)]
    omega
 ·simp only [tmod_pos h0, tdiv_pos h0, show ¬ ((1 : Int) = 0) by decide, decide_false, Bool.false_eq_true, if_false]
  have e1 : IntKind.i64.wrap (s / 256) = s / 256 := w64 (by omega)
  have e2 : IntKind.i64.wrap ((s / 256).tdiv 2) = s / 256 / 2 := by rw [tdiv_pos (by omega), w64 (by omega)]
  have e3 : IntKind.i64.wrap ((s % 256).tdiv 2) = s % 256 / 2 := by rw [tdiv_pos (by omega), w64 (by omega)]
  have c0 : 0 ≤ (0 : Int) ∧ (0 : Int) < ((2 : Nat) : Int) := by decide
  have c1 : 0 ≤ (1 : Int) ∧ (1 : Int) < ((2 : Nat) : Int) := by decide
  have r0 : ∀ a b : Int, rd [a, b] 0 = a := fun a b => rfl
  have r1 : ∀ a b : Int, rd [a, b] 1 = b := fun a b => rfl
  rcases hb with rfl | rfl
  ·simp only [c0, c1, and_self, if_true, e1, e2, e3, r0]
   by_cases h2 : s / 256 = 255
   ·simp only [h2, decide_true, if_true, Option.bind_some, r0]
    refine ⟨_, rfl, .inr ⟨rfl, ?_⟩⟩
    simp only [show ¬ ((0 : Int) = 1) by decide, if_false, w64s]
    omega
   ·simp only [h2, decide_false, Bool.false_eq_true, if_false, Option.bind_some, r0]
    refine ⟨_, rfl, .inr ⟨rfl, ?_⟩⟩
    simp only [show ¬ ((0 : Int) = 1) by decide, if_false, if_true, w64s]
    omega
  ·simp only [c0, c1, and_self, if_true, e1, e2, e3, r1]
   by_cases h2 : s % 256 = 255
   ·simp only [h2, decide_true, if_true, Option.bind_some, r1]
    refine ⟨_, rfl, .inr ⟨rfl, ?_⟩⟩
    simp only [show ¬ ((1 : Int) = 0) by decide, if_false, if_true, w64s]
    omega
   ·simp only [h2, decide_false, Bool.false_eq_true, if_false, Option.bind_some, r1]
    refine ⟨_, rfl, .inr ⟨rfl, ?_⟩⟩
    simp only [show ¬ ((1 : Int) = 0) by decide, if_false, if_true, w64s]
    omega
/-! ### Bytes that are known leave -/
def flush : Nat → Int → Int → List Int → Int × Int × List Int
 | 0, lo, hi, out => (lo, hi, out)
 | n + 1, lo, hi, out => if lo / 16777216 = hi / 16777216 then flush n (lo % 16777216 * 256) (hi % 16777216 * 256 + 255) (out ++ [hi / 16777216]) else (lo, hi, out)
def gapOf : Nat → Int
 | 0 => 4294967295
 | 1 => 16777215
 | 2 => 65535
 | 3 => 255
 | _ => 0
theorem gap_step {n : Nat} {d : Int} (h : gapOf (n + 1) ≤ d) (h0 : 0 ≤ d) : gapOf n ≤ 256 * d + 255 := by
 match n with
 | 0 => simp only [gapOf] at h ⊢; omega
 | 1 => simp only [gapOf] at h ⊢; omega
 | 2 => simp only [gapOf] at h ⊢; omega
 | 3 => simp only [gapOf] at h ⊢; omega
 | n + 4 => simp only [gapOf]; omega
theorem Iv.shift {lo hi : Int} (h : Iv lo hi) (e : lo / 16777216 = hi / 16777216) : Iv (lo % 16777216 * 256) (hi % 16777216 * 256 + 255) ∧ hi % 16777216 * 256 + 255 - lo % 16777216 * 256 = 256 * (hi - lo) + 255 := by
 obtain ⟨h0, h1, h2⟩ := h
 exact ⟨⟨by omega, by omega, by omega⟩, by omega⟩
theorem refPut_loop {kind : Int} {st : List Int} : ∀ (n : Nat) (lo hi : Int) (out : List Int), Iv lo hi → gapOf n ≤ hi - lo → out.length + n ≤ 140737488355328 →
  loop ref02_Encoder_Put_loop8 (kind, lo, hi, st, out) = some (kind, (flush n lo hi out).1, (flush n lo hi out).2.1, st, (flush n lo hi out).2.2)
 | 0, lo, hi, out, h, hg, hl => by
  refine loop_done ?_
  unfold ref02_Encoder_Put_loop8
  simp only [fixed_is, Option.bind_some]
  simp only [gapOf] at hg
  have hne : ¬ lo / 16777216 = hi / 16777216 := by obtain ⟨h0, h1, h2⟩ := h; omega
  simp only [hne, decide_false, Bool.false_eq_true, if_false, flush]
 | n + 1, lo, hi, out, h, hg, hl => by
  by_cases e : lo / 16777216 = hi / 16777216
  ·obtain ⟨h1, h2⟩ := h.shift e
   rw [loop_step (s' := (kind, lo % 16777216 * 256, hi % 16777216 * 256 + 255, st, out ++ [hi / 16777216]))]
   ·rw [refPut_loop n _ _ _ h1 (by rw [h2]; exact gap_step hg (by have := h.2.1; omega)) (by simp; omega)]
    simp only [flush, e, if_true]
   ·have hb : IntKind.u8.wrap (hi / 16777216) = hi / 16777216 := by obtain ⟨q0, q1, q2⟩ := h; rw [w8]; omega
    unfold ref02_Encoder_Put_loop8
    simp only [fixed_is, Option.bind_some, ushr24, hb, shifted_is h]
    simp only [e, decide_true, if_true, List.length_singleton]
    rw [if_pos (by omega)]
  ·refine loop_done ?_
   unfold ref02_Encoder_Put_loop8
   simp only [fixed_is, Option.bind_some]
   simp only [e, decide_false, Bool.false_eq_true, if_false, flush]
theorem flush_is : ∀ (n : Nat) (lo hi : Int) (out : List Int), Iv lo hi → gapOf n ≤ hi - lo → Iv (flush n lo hi out).1 (flush n lo hi out).2.1 ∧ (flush n lo hi out).1 / 16777216 ≠ (flush n lo hi out).2.1 / 16777216 ∧ (flush n lo hi out).2.2.length ≤ out.length + n ∧ out.length ≤ (flush n lo hi out).2.2.length
 | 0, lo, hi, out, h, hg => by
  simp only [gapOf] at hg
  refine ⟨h, ?_, Nat.le_refl _, Nat.le_refl _⟩
  show lo / 16777216 ≠ hi / 16777216
  obtain ⟨h0, h1, h2⟩ := h
  omega
 | n + 1, lo, hi, out, h, hg => by
  by_cases e : lo / 16777216 = hi / 16777216
  ·obtain ⟨h1, h2⟩ := h.shift e
   have := flush_is n _ _ (out ++ [hi / 16777216]) h1 (by rw [h2]; exact gap_step hg (by have := h.2.1; omega))
   simp only [flush, e, if_true]
   simp only [List.length_append, List.length_singleton] at this
   exact ⟨this.1, this.2.1, by omega, by omega⟩
  ·simp only [flush, e, if_false]
   exact ⟨h, e, by omega, Nat.le_refl _⟩
/-- what an encoder is, between two calls -/
structure EncOk (kind lo hi : Int) (st : List Int) : Prop where
 two : kind = 0 ∨ kind = 1
 iv : Iv lo hi
 open_ : lo / 16777216 ≠ hi / 16777216
 states : ∀ s ∈ st, StateOk kind s
/-- a bit that is put -/
theorem refPut_is {ctx bit kind lo hi : Int} {st out : List Int} (h : EncOk kind lo hi st) (hc : 0 ≤ ctx ∧ ctx < (st.length : Int)) (hb : bit = 0 ∨ bit = 1) (hl : out.length + 4 ≤ 140737488355328) :
  ∃ p s lo1 hi1, ref02_Likely kind (rd st ctx) = some p ∧ 0 ≤ p ∧ p < 4096 ∧ ref02_After kind (rd st ctx) bit = some s ∧ StateOk kind s ∧ (lo1, hi1) = (if bit = 1 then (lo, midV lo hi p) else (midV lo hi p + 1, hi)) ∧ Iv lo1 hi1 ∧
   ref02_Encoder_Put ctx bit kind lo hi st out = some (0, kind, (flush 4 lo1 hi1 out).1, (flush 4 lo1 hi1 out).2.1, st.set ctx.toNat s, (flush 4 lo1 hi1 out).2.2) := by
 have hs : StateOk kind (rd st ctx) := h.states _ (List.mem_of_getElem? (rd_get hc.1 hc.2))
 obtain ⟨p, hp, hp0, hp1⟩ := likely_is hs
 obtain ⟨s, ha, hs'⟩ := after_is hs hb
 have hlt : lo < hi := by
  have := h.open_
  have := h.iv.2.1
  rcases Int.lt_or_le lo hi with q | q
  ·exact q
  ·exact absurd (by rw [show lo = hi by omega]) h.open_
 have hm := midV_ge h.iv.2.1 hp0
 have hm2 := midV_lt hlt hp0 hp1
 obtain ⟨i0, i1, i2⟩ := h.iv
 refine ⟨p, s, (if bit = 1 then (lo, midV lo hi p) else (midV lo hi p + 1, hi)).1, (if bit = 1 then (lo, midV lo hi p) else (midV lo hi p + 1, hi)).2, hp, hp0, hp1, ha, hs', rfl, ?_, ?_⟩
 ·split
  ·exact ⟨i0, hm, by omega⟩
  ·exact ⟨by show 0 ≤ midV lo hi p + 1; omega, by show midV lo hi p + 1 ≤ hi; omega, i2⟩
 ·have hiv : Iv (if bit = 1 then (lo, midV lo hi p) else (midV lo hi p + 1, hi)).1 (if bit = 1 then (lo, midV lo hi p) else (midV lo hi p + 1, hi)).2 := by
   split
   ·exact ⟨i0, hm, by omega⟩
   ·exact ⟨by show 0 ≤ midV lo hi p + 1; omega, by show midV lo hi p + 1 ≤ hi; omega, i2⟩
  rw [ref02_Encoder_Put_eq]
  have c1 : ¬ ctx < 0 := by omega
  have c2 : ¬ ctx ≥ ((st.length : Nat) : Int) := by omega
  have c3 : (if (!decide (bit = 0)) = true then some (!decide (bit = 1)) else some false) = some false := by rcases hb with rfl | rfl <;> rfl
  simp only [c1, c2, c3, decide_false, Bool.false_eq_true, if_false, Option.bind_some, hc, and_self, if_true, hp, ha, part_is h.iv hp0 hp1]
  rw [refPut_loop 4 _ _ _ hiv (by simp only [gapOf]; have := hiv.2.1; omega) (by omega)]
  rfl
/-! ### The end of a code: as few bytes of high as can be -/
theorem ushr_lit {n s m : Int} (hm : (2 : Int) ^ (min s.toNat IntKind.u64.bits) = m) (h0 : 0 ≤ m) : ishr .u64 n s = n / m := by
 unfold ishr; rw [hm, Int.fdiv_eq_ediv_of_nonneg _ h0]
theorem ushl_lit {n s m : Int} (hm : (2 : Int) ^ (min s.toNat IntKind.u64.bits) = m) (h : 0 ≤ n * m ∧ n * m < 18446744073709551616) : ishl .u64 n s = n * m := by
 unfold ishl; rw [hm, wu64]; omega
def tbyte (hi : Int) : Nat → Int
 | 0 => hi / 16777216 % 256
 | 1 => hi / 65536 % 256
 | 2 => hi / 256 % 256
 | _ => hi / 1 % 256
def cutH (hi : Int) : Nat → Int
 | 0 => 0
 | 1 => hi / 16777216 * 16777216
 | 2 => hi / 65536 * 65536
 | 3 => hi / 256 * 256
 | _ => hi
def tbl (hi : Int) : Nat → List Int
 | 0 => []
 | n + 1 => tbl hi n ++ [tbyte hi n]
theorem tbl_len (hi : Int) : ∀ n, (tbl hi n).length = n
 | 0 => rfl
 | n + 1 => by simp [tbl, tbl_len hi n]
theorem refEnd_step {lo hi : Int} (h : Iv lo hi) : ∀ k, k < 4 → cutH hi k < lo → ref02_Interval_End_loop3 lo hi (cutH hi k, tbl hi k) = some (.inl (cutH hi (k + 1), tbl hi (k + 1))) := by
 intro k hk hlt
 obtain ⟨h0, h1, h2⟩ := h
 have hh : 0 ≤ hi := by omega
 unfold ref02_Interval_End_loop3
 simp only [hlt, decide_true, if_true, tbl_len, List.length_singleton]
 rcases k with _ | _ | _ | _ | k
 ·have e : IntKind.i64.wrap (24 - IntKind.i64.wrap (8 * ((0 : Nat) : Int))) = 24 := by decide
  rw [e, ushr_lit (m := 16777216) (by decide) (by decide), tmod_pos (by omega), ushl_lit (m := 16777216) (by decide) (by omega), wu64, w8]
  simp only [cutH, tbl, tbyte, List.nil_append]
  rw [if_neg (by decide), if_pos (by decide), if_neg (by decide), if_neg (by decide)]
  congr 3
  omega
 ·have e : IntKind.i64.wrap (24 - IntKind.i64.wrap (8 * ((0 + 1 : Nat) : Int))) = 16 := by decide
  rw [e, ushr_lit (m := 65536) (by decide) (by decide), tmod_pos (by omega), ushl_lit (m := 65536) (by decide) (by omega), wu64, w8]
  simp only [cutH, tbl, tbyte, List.nil_append]
  rw [if_neg (by decide), if_pos (by decide), if_neg (by decide), if_neg (by decide)]
  congr 3
  omega
 ·have e : IntKind.i64.wrap (24 - IntKind.i64.wrap (8 * ((0 + 1 + 1 : Nat) : Int))) = 8 := by decide
  rw [e, ushr_lit (m := 256) (by decide) (by decide), tmod_pos (by omega), ushl_lit (m := 256) (by decide) (by omega), wu64, w8]
  simp only [cutH, tbl, tbyte, List.nil_append]
  rw [if_neg (by decide), if_pos (by decide), if_neg (by decide), if_neg (by decide)]
  congr 3
  omega
 ·have e : IntKind.i64.wrap (24 - IntKind.i64.wrap (8 * ((0 + 1 + 1 + 1 : Nat) : Int))) = 0 := by decide
  rw [e, ushr_lit (m := 1) (by decide) (by decide), tmod_pos (by omega), ushl_lit (m := 1) (by decide) (by omega), wu64, w8]
  simp only [cutH, tbl, tbyte, List.nil_append]
  rw [if_neg (by decide), if_pos (by decide), if_neg (by decide), if_neg (by decide)]
  congr 3
  omega
 ·omega
/-- how many bytes an end takes -/
def endN (lo hi : Int) : Nat := if lo ≤ cutH hi 0 then 0 else if lo ≤ cutH hi 1 then 1 else if lo ≤ cutH hi 2 then 2 else if lo ≤ cutH hi 3 then 3 else 4
theorem endN_is {lo hi : Int} (h : Iv lo hi) : endN lo hi ≤ 4 ∧ (∀ k, k < endN lo hi → cutH hi k < lo) ∧ lo ≤ cutH hi (endN lo hi) := by
 unfold endN
 split
 ·exact ⟨by omega, fun k hk => by omega, ‹_›⟩
 ·split
  ·exact ⟨by omega, fun k hk => by obtain rfl : k = 0 := by omega
                                   omega, ‹_›⟩
  ·split
   ·refine ⟨by omega, fun k hk => ?_, ‹_›⟩
    rcases k with _ | _ | k <;> (try simp only [Nat.zero_add]) <;> omega
   ·split
    ·refine ⟨by omega, fun k hk => ?_, ‹_›⟩
     rcases k with _ | _ | _ | k <;> (try simp only [Nat.zero_add, Nat.reduceAdd]) <;> omega
    ·refine ⟨by omega, fun k hk => ?_, h.2.1⟩
     rcases k with _ | _ | _ | _ | k <;> (try simp only [Nat.zero_add, Nat.reduceAdd]) <;> omega
theorem refEnd_loop {lo hi : Int} (h : Iv lo hi) : ∀ d k, k + d = endN lo hi → loop (ref02_Interval_End_loop3 lo hi) (cutH hi k, tbl hi k) = some (tbl hi (endN lo hi))
 | 0, k, hk => by
  obtain ⟨_, _, h3⟩ := endN_is h
  rw [Nat.add_zero] at hk
  rw [← hk] at h3 ⊢
  refine loop_done ?_
  unfold ref02_Interval_End_loop3
  have : ¬ cutH hi k < lo := by omega
  simp only [this, decide_false, Bool.false_eq_true, if_false]
 | d + 1, k, hk => by
  obtain ⟨h1, h2, _⟩ := endN_is h
  rw [loop_step (refEnd_step h k (by omega) (h2 k (by omega)))]
  exact refEnd_loop h d (k + 1) (by omega)
theorem refEnd_is {kind lo hi : Int} {st out : List Int} (h : Iv lo hi) (hl : out.length + 4 ≤ 140737488355328) : ref02_Encoder_End kind lo hi st out = some (out ++ tbl hi (endN lo hi), kind, lo, hi, st, out) := by
 have h1 := (endN_is h).1
 rw [ref02_Encoder_End_eq, ref02_Interval_End_eq]
 have := refEnd_loop h (endN lo hi) 0 (by omega)
 rw [show cutH hi 0 = 0 from rfl, show tbl hi 0 = [] from rfl] at this
 rw [this]
 simp only [List.length_nil, List.nil_append, Option.bind_some, tbl_len]
 rw [if_pos (by omega), if_pos (by omega)]
theorem endIn_loop {lo hi : Int} (h : Iv lo hi) {n : Nat} (hn : n ≤ 4) {out : List Int} (hl : out.length + 4 ≤ 140737488355328) : ∀ d k, k + d = n → loop (coder_Encoder_End_loop10 hi (n : Int)) ((k : Int), out ++ tbl hi k) = some (out ++ tbl hi n)
 | 0, k, hk => by
  rw [Nat.add_zero] at hk
  subst hk
  refine loop_done ?_
  unfold coder_Encoder_End_loop10
  simp
 | d + 1, k, hk => by
  rw [loop_step (s' := (((k + 1 : Nat) : Int), out ++ tbl hi (k + 1)))]
  ·exact endIn_loop h hn hl d (k + 1) (by omega)
  ·obtain ⟨h0, h1, h2⟩ := h
   unfold coder_Encoder_End_loop10
   have h3 : (k : Int) < (n : Int) := by omega
   simp only [h3, decide_true, if_true, List.length_append, tbl_len, List.length_singleton]
   have hw : IntKind.i64.wrap ((k : Int) + 1) = ((k + 1 : Nat) : Int) := by rw [w64 (by omega)]; rfl
   have e : IntKind.i64.wrap (24 - IntKind.i64.wrap (8 * (k : Int))) = 24 - 8 * (k : Int) := by rw [w64 (n := 8 * (k : Int)) (by omega), w64 (by omega)]
   have hb : IntKind.u8.wrap (ishr .u64 hi (24 - 8 * (k : Int))) = tbyte hi k := by
    rcases k with _ | _ | _ | _ | k
    ·rw [ushr_lit (m := 16777216) (by decide) (by decide), w8]; rfl
    ·rw [ushr_lit (m := 65536) (by decide) (by decide), w8]; rfl
    ·rw [ushr_lit (m := 256) (by decide) (by decide), w8]; rfl
    ·rw [ushr_lit (m := 1) (by decide) (by decide), w8]; rfl
    ·omega
   rw [e, hb, hw, if_neg (by omega), if_pos (by omega)]
   simp only [tbl, List.append_assoc]
theorem endOut_loop {lo hi : Int} (h : Iv lo hi) {out : List Int} (hl : out.length + 4 ≤ 140737488355328) : ∀ d k, k + d = endN lo hi → loop (coder_Encoder_End_loop5 lo hi) ((k : Int), out) = some (Sum.inr (out ++ tbl hi (endN lo hi)))
 | d, k, hk => by
  obtain ⟨q1, q2, q3⟩ := endN_is h
  have hk4 : k ≤ 4 := by omega
  have e : IntKind.u64.wrap (IntKind.i64.wrap (32 - IntKind.i64.wrap (8 * (k : Int)))) = 32 - 8 * (k : Int) := by rw [w64 (n := 8 * (k : Int)) (by omega), w64 (by omega), wu64]; omega
  have hc : ishl .u64 (ishr .u64 hi (32 - 8 * (k : Int))) (32 - 8 * (k : Int)) = cutH hi k := by
   obtain ⟨h0, h1, h2⟩ := h
   rcases k with _ | _ | _ | _ | _ | k
   ·rw [ushr_lit (m := 4294967296) (by decide) (by decide), ushl_lit (m := 4294967296) (by decide) (by omega)]
    show _ = (0 : Int)
    omega
   ·rw [ushr_lit (m := 16777216) (by decide) (by decide), ushl_lit (m := 16777216) (by decide) (by omega)]; rfl
   ·rw [ushr_lit (m := 65536) (by decide) (by decide), ushl_lit (m := 65536) (by decide) (by omega)]; rfl
   ·rw [ushr_lit (m := 256) (by decide) (by decide), ushl_lit (m := 256) (by decide) (by omega)]; rfl
   ·rw [ushr_lit (m := 1) (by decide) (by decide), ushl_lit (m := 1) (by decide) (by omega)]
    show _ = hi
    omega
   ·omega
  have h5 : (k : Int) < 5 := by omega
  cases d with
  | zero =>
   rw [Nat.add_zero] at hk
   subst hk
   refine loop_done ?_
   unfold coder_Encoder_End_loop5
   simp only [h5, decide_true, if_true, e, hc]
   rw [if_neg (by omega), if_neg (by omega)]
   have h6 : cutH hi (endN lo hi) ≥ lo := q3
   simp only [h6, decide_true, if_true]
   have := endIn_loop h q1 hl (endN lo hi) 0 (by omega)
   simp only [tbl, List.append_nil] at this
   rw [show ((0 : Nat) : Int) = 0 from rfl] at this
   rw [this]; rfl
  | succ d =>
   rw [loop_step (s' := (((k + 1 : Nat) : Int), out))]
   ·exact endOut_loop h hl d (k + 1) (by omega)
   ·unfold coder_Encoder_End_loop5
    simp only [h5, decide_true, if_true, e, hc]
    rw [if_neg (by omega), if_neg (by omega)]
    have h6 : ¬ cutH hi k ≥ lo := by have := q2 k (by omega); omega
    have hw : IntKind.i64.wrap ((k : Int) + 1) = ((k + 1 : Nat) : Int) := by rw [w64 (by omega)]; rfl
    simp only [h6, decide_false, Bool.false_eq_true, if_false, hw]
theorem end_is {kind lo hi : Int} {st out : List Int} (h : Iv lo hi) (hl : out.length + 4 ≤ 140737488355328) : coder_Encoder_End kind lo hi st out = ref02_Encoder_End kind lo hi st out := by
 rw [refEnd_is h hl, coder_Encoder_End_eq, coder_Encoder_none_eq]
 have := endOut_loop h hl (endN lo hi) 0 (by omega)
 rw [show ((0 : Nat) : Int) = 0 from rfl] at this
 simp only [Option.bind_some, Bool.false_eq_true, if_false, List.length_nil, List.nil_append, this]
 rw [if_pos (by omega)]
 rfl
/-! ### New models -/
theorem valid_loop {st : List Int} {e : Int} (hl : st.length ≤ 8192) (hs : ∀ s ∈ st, 0 ≤ s ∧ s < e) : ∀ d k, k + d = st.length → loop (coder_Valid_loop7 st e) (k : Int) = some (Sum.inl ())
 | 0, k, hk => by
  refine loop_done ?_
  unfold coder_Valid_loop7
  have : ¬ (k : Int) < ((st.length : Nat) : Int) := by omega
  simp only [this, decide_false, Bool.false_eq_true, if_false]
 | d + 1, k, hk => by
  rw [loop_step (s' := ((k + 1 : Nat) : Int))]
  ·exact valid_loop hl hs d (k + 1) (by omega)
  ·have h1 : (k : Int) < ((st.length : Nat) : Int) := by omega
   have h0 : (0 : Int) ≤ (k : Int) := by omega
   obtain ⟨a1, a2⟩ := hs _ (List.mem_of_getElem? (rd_get h0 h1))
   have n1 : ¬ rd st (k : Int) < 0 := by omega
   have n2 : ¬ rd st (k : Int) ≥ e := by omega
   have hw : IntKind.i64.wrap ((k : Int) + 1) = ((k + 1 : Nat) : Int) := by rw [w64 (by omega)]; rfl
   unfold coder_Valid_loop7
   simp only [h1, h0, n1, n2, hw, decide_true, decide_false, Bool.false_eq_true, if_true, if_false, and_self]
theorem validR_loop {st : List Int} {e : Int} (hl : st.length ≤ 8192) (hs : ∀ s ∈ st, 0 ≤ s ∧ s ≤ e) : ∀ d k, k + d = st.length → loop (ref02_Valid_loop7 st e) (k : Int) = some (Sum.inl ())
 | 0, k, hk => by
  refine loop_done ?_
  unfold ref02_Valid_loop7
  have : ¬ (k : Int) < ((st.length : Nat) : Int) := by omega
  simp only [this, decide_false, Bool.false_eq_true, if_false]
 | d + 1, k, hk => by
  rw [loop_step (s' := ((k + 1 : Nat) : Int))]
  ·exact validR_loop hl hs d (k + 1) (by omega)
  ·have h1 : (k : Int) < ((st.length : Nat) : Int) := by omega
   have h0 : (0 : Int) ≤ (k : Int) := by omega
   obtain ⟨a1, a2⟩ := hs _ (List.mem_of_getElem? (rd_get h0 h1))
   have n1 : ¬ rd st (k : Int) < 0 := by omega
   have n2 : ¬ rd st (k : Int) > e := by omega
   have hw : IntKind.i64.wrap ((k : Int) + 1) = ((k + 1 : Nat) : Int) := by rw [w64 (by omega)]; rfl
   unfold ref02_Valid_loop7
   simp only [h1, h0, n1, n2, hw, decide_true, decide_false, Bool.false_eq_true, if_true, if_false, and_self]
theorem valid_is {kind : Int} {st : List Int} (hk : kind = 0 ∨ kind = 1) (hl : st.length ≤ 8192) (hs : ∀ s ∈ st, StateOk kind s) : coder_Valid kind st = some true ∧ ref02_Valid kind st = some true := by
 have hn : ¬ ((st.length : Nat) : Int) > 8192 := by omega
 rw [coder_Valid_eq, ref02_Valid_eq]
 rcases hk with rfl | rfl
 ·have h1 := valid_loop (e := 64) hl (fun s h => by rcases hs s h with q | q <;> omega) st.length 0 (by omega)
  have h2 := validR_loop (e := 63) hl (fun s h => by rcases hs s h with q | q <;> omega) st.length 0 (by omega)
  rw [show ((0 : Nat) : Int) = 0 from rfl] at h1 h2
  constructor
  ·simp only [hn, show ¬ ((0 : Int) = 1) by decide, decide_true, decide_false, Bool.not_true, Bool.not_false, Bool.false_eq_true, if_true, if_false, Option.bind_some, h1, Sum.elim_inl]
  ·simp only [hn, show ¬ ((0 : Int) = 1) by decide, decide_true, decide_false, Bool.not_true, Bool.not_false, Bool.false_eq_true, if_true, if_false, Option.bind_some, h2, Sum.elim_inl]
 ·have h1 := valid_loop (e := 65536) hl (fun s h => by rcases hs s h with q | q <;> omega) st.length 0 (by omega)
  have h2 := validR_loop (e := 65535) hl (fun s h => by rcases hs s h with q | q <;> omega) st.length 0 (by omega)
  rw [show ((0 : Nat) : Int) = 0 from rfl] at h1 h2
  constructor
  ·simp only [hn, show ¬ ((1 : Int) = 0) by decide, decide_true, decide_false, Bool.not_true, Bool.not_false, Bool.false_eq_true, if_true, if_false, Option.bind_some, h1, Sum.elim_inl]
  ·simp only [hn, show ¬ ((1 : Int) = 0) by decide, decide_true, decide_false, Bool.not_true, Bool.not_false, Bool.false_eq_true, if_true, if_false, Option.bind_some, h2, Sum.elim_inl]
theorem clone_is {kind : Int} {st : List Int} (hl : st.length ≤ 8192) : coder_clone kind st = some (kind, st) ∧ ref02_Copy kind st = some (kind, st) := by
 rw [coder_clone_eq, ref02_Copy_eq]
 simp only [List.length_nil, List.nil_append, Nat.zero_add]
 rw [if_pos (by omega)]
 exact ⟨rfl, rfl⟩
/-- a new encoder of a valid model: the same in both -/
theorem newEncoder_is {kind : Int} {st : List Int} (hk : kind = 0 ∨ kind = 1) (hl : st.length ≤ 8192) (hs : ∀ s ∈ st, StateOk kind s) :
  coder_NewEncoder kind st = some (Sum.inl (kind, 0, 4294967295, st, [])) ∧ ref02_NewEncoder kind st = some (Sum.inl (kind, 0, 4294967295, st, [])) ∧ EncOk kind 0 4294967295 st := by
 obtain ⟨h1, h2⟩ := valid_is hk hl hs
 obtain ⟨c1, c2⟩ := clone_is (kind := kind) hl
 refine ⟨?_, ?_, ⟨hk, ⟨by decide, by decide, by decide⟩, by decide, hs⟩⟩
 ·rw [coder_NewEncoder_eq, h1, coder_begin_eq, c1, coder_chances_eq]; rfl
 ·rw [ref02_NewEncoder_eq, h2, c2, ref02_Whole_eq]; rfl
theorem new_is {kind n : Int} (hk : kind = 0 ∨ kind = 1) (h0 : 0 ≤ n) (h1 : n ≤ 8192) : coder_New kind n = some (kind, 0, List.replicate n.toNat 0) ∧ ref02_New kind n = some (kind, 0, List.replicate n.toNat 0) := by
 have a1 : ¬ n < 0 := by omega
 have a2 : ¬ n > 8192 := by omega
 have a3 : 0 ≤ n ∧ n ≤ n ∧ ((8 : Nat) : Int) * n ≤ 281474976710656 := ⟨h0, Int.le_refl _, by omega⟩
 rw [coder_New_eq, ref02_New_eq]
 rcases hk with rfl | rfl
 ·simp only [a1, a2, a3, decide_true, decide_false, Bool.not_true, Bool.not_false, Bool.false_eq_true, if_true, if_false, Option.bind_some, and_self]
 ·simp only [a1, a2, a3, show ¬ ((1 : Int) = 0) by decide, decide_true, decide_false, Bool.not_true, Bool.not_false, Bool.false_eq_true, if_true, if_false, Option.bind_some, and_self]
theorem new_states {kind : Int} (hk : kind = 0 ∨ kind = 1) (n : Nat) : ∀ s ∈ List.replicate n (0 : Int), StateOk kind s := by
 intro s hs
 rw [(List.mem_replicate.1 hs).2]
 rcases hk with rfl | rfl
 ·exact .inl ⟨rfl, by decide, by decide⟩
 ·exact .inr ⟨rfl, by decide, by decide⟩
theorem size_loop_eq : bits_Size_loop5 = ref01_Size_loop5 := by
 funext s
 unfold bits_Size_loop5 ref01_Size_loop5
 simp only [iteD]
 split
 ·rename_i h
  have e1 : s.1.tmod 128 = s.1 % 128 := tmod_pos (by omega)
  have : IntKind.u8.wrap (IntKind.u8.wrap (s.1.tmod 128) + 128) = IntKind.u8.wrap (IntKind.i64.wrap (128 + s.1.tmod 128)) := by
   rw [e1, w8, w8, w64 (by omega), w8]; omega
  rw [this]
 ·rfl
theorem size_eq (n : Int) : bits_Size n = ref01_Size n := by rw [bits_Size_eq, ref01_Size_eq, size_loop_eq]
theorem size_loop_some : ∀ s : Int × List Int, 0 ≤ s.1 ∧ (s.2.length : Int) + s.1 ≤ 2147483650 → ∃ a, loop ref01_Size_loop5 s = some a ∧ a.length ≤ 2147483650 := by
 refine loop_ind (fun (s : Int × List Int) => 0 ≤ s.1 ∧ (s.2.length : Int) + s.1 ≤ 2147483650) (fun (s : Int × List Int) => s.1.toNat) (fun (a : List Int) => a.length ≤ 2147483650) ?_
 rintro ⟨n, out⟩ ⟨h1, h2⟩
 simp only at h1 h2
 unfold ref01_Size_loop5
 simp only [iteD]
 by_cases h : n > 0
 ·have e2 : n.tdiv 128 = n / 128 := tdiv_pos (by omega)
  rw [if_pos h, if_pos (by simp only [List.length_cons, List.length_nil]; omega)]
  refine .inl ⟨_, rfl, ?_, ?_⟩
  ·simp only [e2, List.length_append, List.length_cons, List.length_nil]
   rw [w64 (by omega)]
   omega
  ·simp only [e2]
   rw [w64 (by omega)]
   omega
 ·rw [if_neg h]
  exact .inr ⟨_, rfl, by omega⟩
theorem size_some (n : Int) : ∃ l e, ref01_Size n = some (l, e) ∧ l.length ≤ 2147483650 ∧ (0 ≤ n → n ≤ 2147483647 → e = 0) := by
 rw [ref01_Size_eq]
 simp only [iteD]
 by_cases h1 : n < 0
 ·exact ⟨[], 2, by simp [h1], by simp, fun h => by omega⟩
 ·by_cases h2 : n > 2147483647
  ·exact ⟨[], 2, by simp [h1, h2], by simp, fun _ h => by omega⟩
  ·obtain ⟨a, ha, hl⟩ := size_loop_some (IntKind.i64.wrap (n.tdiv 128), [IntKind.u8.wrap (n.tmod 128)]) (by
    simp only [List.length_cons, List.length_nil]
    rw [tdiv_pos (by omega), w64 (by omega)]; omega)
   exact ⟨a, 0, by simp [h1, h2, ha], hl, fun _ _ => rfl⟩
theorem writer_over (l : List Int) (hl : l.length ≤ 1000) (b : List Int) : loop (page_writer_size_loop1 l) (0, b) =
  overL (fun _ x b => (ref01_Size x).bind fun q => if (b.length + q.1.length) * 1 ≤ 140737488355328 then some (.inl (b ++ q.1)) else none) some 0 l b := by
 refine loop_over l (fun n b => ((n : Int), b)) _ _ (fun s => ?_) (fun i x s h => ?_) 0 b (by omega)
 ·unfold page_writer_size_loop1; simp
 ·have hl := lt_len_of_get h
  unfold page_writer_size_loop1
  simp only [iteD]
  rw [if_pos (by omega), if_pos ⟨by omega, by omega⟩, rd_nat h, size_eq]
  cases ref01_Size x with
  | none => rfl
  | some q =>
   simp only [Option.bind_some]
   split
   ·rw [w64 (by omega)]; rfl
   ·rfl
theorem writer1 (x : Int) {s : List Int} {e : Int} (hs : ref01_Size x = some (s, e)) (hl : s.length ≤ 2147483650) : page_writer_size [x] [] = some s := by
 rw [page_writer_size_eq, writer_over _ (by simp)]
 simp only [overL, hs, Option.bind_some]
 rw [if_pos (by simp; omega)]
 simp
theorem writer2 (x y : Int) {s t : List Int} {e f : Int} (hs : ref01_Size x = some (s, e)) (hl : s.length ≤ 2147483650) (ht : ref01_Size y = some (t, f)) (hm : t.length ≤ 2147483650) :
  page_writer_size [x, y] [] = some (s ++ t) := by
 rw [page_writer_size_eq, writer_over _ (by simp)]
 simp only [overL, hs, ht, Option.bind_some]
 rw [if_pos (by simp; omega)]
 simp only
 rw [if_pos (by simp; omega)]
 simp
theorem byte_over (l : List Int) (hl : l.length ≤ 1000) (b : List Int) : loop (page_writer_byte_loop1 l) (0, b) =
  overL (fun _ x b => if (b.length + 1) * 1 ≤ 140737488355328 then some (.inl (b ++ [IntKind.u8.wrap x])) else none) some 0 l b := by
 refine loop_over l (fun n b => ((n : Int), b)) _ _ (fun s => ?_) (fun i x s h => ?_) 0 b (by omega)
 ·unfold page_writer_byte_loop1; simp
 ·have hl := lt_len_of_get h
  unfold page_writer_byte_loop1
  simp only [iteD]
  rw [if_pos (by omega), if_pos ⟨by omega, by omega⟩, rd_nat h]
  simp only [List.length_cons, List.length_nil, Nat.zero_add]
  split
  ·rw [w64 (by omega)]; rfl
  ·rfl
theorem byte1 (x : Int) (b : List Int) (hb : b.length ≤ 5000000000) : page_writer_byte [x] b = some (b ++ [IntKind.u8.wrap x]) := by
 rw [page_writer_byte_eq, byte_over _ (by simp)]
 simp only [overL]
 rw [if_pos (by omega)]
 simp
theorem join_over (l : List (List Int)) (hl : l.length ≤ 1000) (b : List Int) : loop (ref13_join_loop3 l) (0, b) =
  overL (fun _ x b => if (b.length + x.length) * 1 ≤ 140737488355328 then some (.inl (b ++ x)) else none) some 0 l b := by
 refine loop_over l (fun n b => ((n : Int), b)) _ _ (fun s => ?_) (fun i x s h => ?_) 0 b (by omega)
 ·unfold ref13_join_loop3; simp
 ·have hl := lt_len_of_get h
  unfold ref13_join_loop3
  simp only [iteD]
  rw [if_pos (by omega), if_pos (by omega), Int.toNat_natCast, h]
  simp only [Option.bind_some]
  split
  ·rw [w64 (by omega)]; rfl
  ·rfl
theorem join3 (x y z : List Int) (hx : x.length ≤ 5000000000) (hy : y.length ≤ 5000000000) (hz : z.length ≤ 5000000000) : ref13_join [x, y, z] = some (x ++ y ++ z) := by
 rw [ref13_join_eq, join_over _ (by simp)]
 simp only [overL]
 rw [if_pos (by simp; omega)]
 simp only
 rw [if_pos (by simp; omega)]
 simp only
 rw [if_pos (by simp; omega)]
 simp
/-! ### Two that go together -/
/-- both come to something, and these two go together -/
def Both {α β : Type} (x : Option α) (y : Option β) (P : α → β → Prop) : Prop := ∃ a b, x = some a ∧ y = some b ∧ P a b
theorem Both.mk {α β : Type} {a : α} {b : β} {P : α → β → Prop} (h : P a b) : Both (some a) (some b) P := ⟨a, b, rfl, rfl, h⟩
theorem Both.bind {α β γ δ : Type} {x : Option α} {y : Option β} {P : α → β → Prop} {f : α → Option γ} {g : β → Option δ} {Q : γ → δ → Prop} (h : Both x y P) (k : ∀ a b, P a b → Both (f a) (g b) Q) : Both (x.bind f) (y.bind g) Q := by
 obtain ⟨a, b, rfl, rfl, hp⟩ := h
 exact k a b hp
theorem Both.imp {α β : Type} {x : Option α} {y : Option β} {P Q : α → β → Prop} (h : Both x y P) (k : ∀ a b, P a b → Q a b) : Both x y Q := by
 obtain ⟨a, b, h1, h2, hp⟩ := h
 exact ⟨a, b, h1, h2, k a b hp⟩
theorem Both.eq {α : Type} {x y : Option α} (h : Both x y Eq) : x = y := by
 obtain ⟨a, b, h1, h2, rfl⟩ := h
 rw [h1, h2]
/-- a step of two loops -/
def StepTo {S S' A A' : Type} (R : S → S' → Prop) (Q : A → A' → Prop) : S ⊕ A → S' ⊕ A' → Prop
 | .inl s, .inl t => R s t
 | .inr a, .inr b => Q a b
 | _, _ => False
theorem Both.loop {S S' A A' : Type} {f : S → Option (S ⊕ A)} {g : S' → Option (S' ⊕ A')} (R : S → S' → Prop) (Q : A → A' → Prop) (m : S → Nat)
  (h : ∀ s t, R s t → Both (f s) (g t) (StepTo (fun s' t' => R s' t' ∧ m s' < m s) Q)) : ∀ s t, R s t → Both (V.loop f s) (V.loop g t) Q := by
 refine loop_sim R Q m fun s t hr => ?_
 obtain ⟨a, b, h1, h2, hp⟩ := h s t hr
 cases a with
 | inl s' =>
  cases b with
  | inl t' => exact .inl ⟨s', t', h1, h2, hp.1, hp.2⟩
  | inr _ => exact hp.elim
 | inr a =>
  cases b with
  | inl _ => exact hp.elim
  | inr b => exact .inr ⟨a, b, h1, h2, hp⟩
/-! ### Loops through lists -/
theorem overL_both {X S S' A A' : Type} {f : Nat → X → S → Option (S ⊕ A)} {g : Nat → X → S' → Option (S' ⊕ A')} {fin : S → Option A} {fin' : S' → Option A'} (R : Nat → S → S' → Prop) (Q : A → A' → Prop) :
  ∀ (l : List X) (n : Nat) (s : S) (t : S'), (∀ k x s t, l[k]? = some x → R (n + k) s t → Both (f (n + k) x s) (g (n + k) x t) (StepTo (R (n + k + 1)) Q)) → (∀ s t, R (n + l.length) s t → Both (fin s) (fin' t) Q) →
   R n s t → Both (overL f fin n l s) (overL g fin' n l t) Q
 | [], n, s, t, _, hf, hr => by rw [overL_nil, overL_nil]; exact hf s t hr
 | x :: l, n, s, t, h, hf, hr => by
  obtain ⟨a, b, h1, h2, hp⟩ := h 0 x s t rfl hr
  rw [Nat.add_zero] at h1 h2 hp
  cases a with
  | inl s' =>
   cases b with
   | inl t' =>
    rw [overL_next h1, overL_next h2]
    refine overL_both R Q l (n + 1) s' t' (fun k x s t hk hr => ?_) (fun s t hr => hf s t (by rw [List.length_cons]; rwa [show n + (l.length + 1) = n + 1 + l.length by omega])) hp
    have := h (k + 1) x s t (by simpa using hk) (by rwa [show n + (k + 1) = n + 1 + k by omega])
    rwa [show n + (k + 1) = n + 1 + k by omega] at this
   | inr b => exact hp.elim
  | inr a =>
   cases b with
   | inl _ => exact hp.elim
   | inr b => rw [overL_exit h1, overL_exit h2]; exact .mk hp
/-- a loop that always goes on -/
theorem overL_inv {X S A : Type} {f : Nat → X → S → Option (S ⊕ A)} {fin : S → Option A} (F : Nat → S) : ∀ (l : List X) (n : Nat), (∀ k x, l[k]? = some x → f (n + k) x (F (n + k)) = some (.inl (F (n + k + 1)))) → overL f fin n l (F n) = fin (F (n + l.length))
 | [], n, _ => by rw [overL_nil]; rfl
 | x :: l, n, h => by
  have h0 := h 0 x rfl
  rw [Nat.add_zero] at h0
  rw [overL_next h0, overL_inv F l (n + 1) (fun k x hk => ?_), List.length_cons, show n + (l.length + 1) = n + 1 + l.length by omega]
  have := h (k + 1) x (by simpa using hk)
  rwa [show n + (k + 1) = n + 1 + k by omega] at this
theorem some_dec {b : Bool} {p : Prop} [Decidable p] (h : b = true ↔ p) : some b = some (decide p) := by
 congr 1
 cases b <;> simp_all
/-! ### Bitmaps -/
def Bmp (w h : Int) (p : List Int) : Prop := 0 ≤ w ∧ 0 ≤ h ∧ w ≤ 200 ∧ h ≤ 200 ∧ w * h ≤ 8192 ∧ (p.length : Int) = w * h ∧ ∀ x ∈ p, x = 0 ∨ x = 1
/-- a pixel, white outside -/
def pixA (w h : Int) (p : List Int) (x y : Int) : Int := if 0 ≤ x ∧ 0 ≤ y ∧ x < w ∧ y < h then rd p (y * w + x) else 0
theorem idx_in {w h x y : Int} (hx : 0 ≤ x) (hxw : x < w) (hy : 0 ≤ y) (hyh : y < h) : 0 ≤ y * w ∧ 0 ≤ y * w + x ∧ y * w + x < w * h := by
 have h1 : 0 ≤ y * w := Int.mul_nonneg hy (by omega)
 have h2 : (y + 1) * w ≤ h * w := Int.mul_le_mul_of_nonneg_right (by omega) (by omega)
 rw [Int.add_mul, Int.one_mul, Int.mul_comm h w] at h2
 exact ⟨h1, by omega, by omega⟩
theorem rd_mem {l : List Int} {i : Int} (h0 : 0 ≤ i) (h1 : i < (l.length : Int)) : rd l i ∈ l := List.mem_of_getElem? (rd_get h0 h1)
theorem Bmp.pix {w h : Int} {p : List Int} (hb : Bmp w h p) {x y : Int} : pixA w h p x y = 0 ∨ pixA w h p x y = 1 := by
 obtain ⟨h0, h1, h2, h3, h4, h5, h6⟩ := hb
 unfold pixA
 split
 ·rename_i q
  obtain ⟨q0, q1, q2, q3⟩ := q
  have := idx_in q0 q2 q1 q3
  exact h6 _ (rd_mem this.2.1 (by omega))
 ·exact .inl rfl
theorem inside_is {w h x y : Int} {p : List Int} : ref05_inside w h p x y = some (decide (0 ≤ x ∧ 0 ≤ y ∧ x < w ∧ y < h)) := by
 rw [ref05_inside_eq]
 simp only [iteD]
 by_cases h1 : x ≥ 0 <;> by_cases h2 : y ≥ 0 <;> by_cases h3 : x < w <;> simp [h1, h2, h3] <;> omega
theorem At_is {w h : Int} {p : List Int} (hb : Bmp w h p) (x y : Int) : ref05_At w h p x y = some (pixA w h p x y) := by
 obtain ⟨h0, h1, h2, h3, h4, h5, h6⟩ := hb
 rw [ref05_At_eq, inside_is]
 unfold pixA
 by_cases q : 0 ≤ x ∧ 0 ≤ y ∧ x < w ∧ y < h
 ·obtain ⟨a0, a1, a2⟩ := idx_in q.1 q.2.2.1 q.2.1 q.2.2.2
  have hr := h6 _ (rd_mem a1 (l := p) (by omega))
  simp only [q, decide_true, Option.bind_some, Bool.not_true, Bool.false_eq_true, if_false, if_true, and_self]
  rw [w64 (n := y * w) (by omega), w64 (n := y * w + x) (by omega), if_pos (by omega), w64 (by omega)]
 ·simp only [q, decide_false, Option.bind_some, Bool.not_false, if_true, if_false]
theorem fits_eq (w h : Int) : bitmap_fits w h = ref05_Sides w h := by rw [bitmap_fits_eq, ref05_Sides_eq]
theorem sides_some (w h : Int) : ∃ b, ref05_Sides w h = some b ∧ (b = true → 0 ≤ w ∧ 0 ≤ h ∧ w ≤ 200 ∧ h ≤ 200 ∧ w * h ≤ 8192) := by
 rw [ref05_Sides_eq]
 simp only [iteD]
 by_cases h1 : w ≥ 0
 ·by_cases h2 : h ≥ 0
  ·by_cases h3 : w ≤ 200
   ·by_cases h4 : h ≤ 200
    ·refine ⟨_, by rw [if_pos h1, if_pos h2, if_pos h3, if_pos h4], fun hh => ?_⟩
     have b1 : w * h ≤ 200 * h := Int.mul_le_mul_of_nonneg_right h3 h2
     have b0 : 0 ≤ w * h := Int.mul_nonneg h1 h2
     rw [w64 (by omega)] at hh
     exact ⟨h1, h2, h3, h4, of_decide_eq_true hh⟩
    ·exact ⟨false, by rw [if_pos h1, if_pos h2, if_pos h3, if_neg h4], fun h => by cases h⟩
   ·exact ⟨false, by rw [if_pos h1, if_pos h2, if_neg h3], fun h => by cases h⟩
  ·exact ⟨false, by rw [if_pos h1, if_neg h2], fun h => by cases h⟩
 ·exact ⟨false, by rw [if_neg h1], fun h => by cases h⟩
theorem overL_all {X A : Type} (P : X → Bool) {step : Nat → X → Unit → Option (Unit ⊕ A)} {fin : Unit → Option A} {a : A} (h : ∀ n x, step n x () = if P x = true then some (.inl ()) else some (.inr a)) :
  ∀ (l : List X) (n : Nat), overL step fin n l () = if l.all P = true then fin () else some a
 | [], n => by simp [overL_nil]
 | x :: l, n => by
  by_cases hx : P x = true
  ·rw [overL_next (s' := ()) (by rw [h, if_pos hx]), overL_all P h l (n + 1)]
   simp [hx]
  ·rw [overL_exit (a := a) (by rw [h, if_neg hx])]
   simp [hx]
def sidesB (w h : Int) : Bool := decide (0 ≤ w ∧ 0 ≤ h ∧ w ≤ 200 ∧ h ≤ 200 ∧ w * h ≤ 8192)
theorem mul_small {w h : Int} (h0 : 0 ≤ w) (h1 : 0 ≤ h) (h2 : w ≤ 200) (h3 : h ≤ 200) : 0 ≤ w * h ∧ w * h ≤ 40000 := by
 have a := Int.mul_nonneg h0 h1
 have b : w * h ≤ 200 * 200 := Int.mul_le_mul h2 h3 h1 (by decide)
 omega
theorem Sides_is (w h : Int) : ref05_Sides w h = some (sidesB w h) := by
 rw [ref05_Sides_eq]
 unfold sidesB
 simp only [iteD]
 by_cases h0 : w ≥ 0 <;> by_cases h1 : h ≥ 0 <;> by_cases h2 : w ≤ 200 <;> by_cases h3 : h ≤ 200 <;> simp only [h0, h1, h2, h3, if_true, if_false, false_and, and_false, true_and, decide_false, show (0 ≤ w) = (w ≥ 0) from rfl, show (0 ≤ h) = (h ≥ 0) from rfl]
 obtain ⟨a, b⟩ := mul_small h0 h1 h2 h3
 rw [w64 (by omega)]
theorem sidesB_iff {w h : Int} : sidesB w h = true ↔ 0 ≤ w ∧ 0 ≤ h ∧ w ≤ 200 ∧ h ≤ 200 ∧ w * h ≤ 8192 := by unfold sidesB; rw [decide_eq_true_eq]
def bmpB (w h : Int) (p : List Int) : Bool := sidesB w h && (decide ((p.length : Int) = w * h) && p.all fun x => decide (x ≤ 1))
theorem bmpB_of {w h : Int} {p : List Int} (hp : ∀ x ∈ p, 0 ≤ x) (hb : bmpB w h p = true) : Bmp w h p := by
 unfold bmpB at hb
 rw [Bool.and_eq_true, Bool.and_eq_true, sidesB_iff, decide_eq_true_eq, List.all_eq_true] at hb
 obtain ⟨⟨a, b, c, d, e⟩, f, g⟩ := hb
 exact ⟨a, b, c, d, e, f, fun x hx => by have := hp x hx; have := of_decide_eq_true (g x hx); omega⟩
theorem Bmp.b {w h : Int} {p : List Int} (hb : Bmp w h p) : bmpB w h p = true := by
 obtain ⟨a, b, c, d, e, f, g⟩ := hb
 unfold bmpB
 rw [Bool.and_eq_true, Bool.and_eq_true, sidesB_iff, decide_eq_true_eq, List.all_eq_true]
 exact ⟨⟨a, b, c, d, e⟩, f, fun x hx => by rcases g x hx with rfl | rfl <;> decide⟩
theorem Valid05_is {w h : Int} {p : List Int} (hl : p.length ≤ 9223372036854775807) : ref05_Valid w h p = some (bmpB w h p) := by
 rw [ref05_Valid_eq, Sides_is]
 unfold bmpB
 simp only [Option.bind_some]
 by_cases hs : sidesB w h = true
 ·obtain ⟨a, b, c, d, e⟩ := sidesB_iff.1 hs
  obtain ⟨m0, m1⟩ := mul_small a b c d
  rw [w64 (by omega), hs, ref05_Valid_loop4_over p hl (), overL_all (fun x => decide (x ≤ 1)) (a := Sum.inr false)]
  ·by_cases hq : (p.length : Int) = w * h
   ·by_cases ha : (p.all fun x => decide (x ≤ 1)) = true
    ·simp [hq, ha]
    ·simp [hq, ha]
   ·simp [hq]
  ·intro n x
   unfold ref05_Valid_loop4_step
   simp only [iteD]
   by_cases hx : x > 1
   ·rw [if_pos hx, if_neg (by omega)]
   ·rw [if_neg hx, if_pos (by omega)]
 ·simp [hs]
theorem bitmapValid_is {w h : Int} {p : List Int} (hl : p.length ≤ 9223372036854775807) : bitmap_Valid w h p = some (bmpB w h p) := by
 rw [← Valid05_is hl, bitmap_Valid_eq, ref05_Valid_eq, fits_eq]
 rfl
theorem bmpErr {w h : Int} : bitmap_fits w h = some (sidesB w h) := by rw [fits_eq, Sides_is]
theorem new_loop (n : Nat) (hn : n ≤ 100000) : ∀ s : Int × List Int, 0 ≤ s.1 ∧ s.1 ≤ (n : Int) ∧ s.2 = List.replicate n 0 → ∃ a, loop (bitmap_New_loop5 0 (List.replicate n 0)) s = some a ∧ a = List.replicate n 0 := by
 refine loop_ind (fun (s : Int × List Int) => 0 ≤ s.1 ∧ s.1 ≤ (n : Int) ∧ s.2 = List.replicate n 0) (fun (s : Int × List Int) => ((n : Int) - s.1).toNat) (fun (a : List Int) => a = List.replicate n 0) ?_
 rintro ⟨i, b⟩ ⟨h1, h2, h3⟩
 simp only at h1 h2 h3
 subst h3
 unfold bitmap_New_loop5
 simp only [iteD, List.length_replicate]
 by_cases h : i < (n : Int)
 ·rw [if_pos h, if_pos ⟨h1, by omega⟩, w8, w64 (by omega)]
  refine .inl ⟨_, rfl, ⟨by show 0 ≤ i + 1; omega, by show i + 1 ≤ _; omega, ?_⟩, ?_⟩
  ·show (List.replicate n (0 : Int)).set i.toNat (0 % 256) = _
   simp
  ·show ((n : Int) - (i + 1)).toNat < ((n : Int) - i).toNat
   omega
 ·rw [if_neg h]
  exact .inr ⟨_, rfl, rfl⟩
def blankP (w h : Int) : List Int := List.replicate (w * h).toNat 0
theorem new_ok {w h : Int} (hs : sidesB w h = true) : bitmap_New w h 0 = some (w, h, 0, blankP w h) := by
 obtain ⟨h0, h1, h2, h3, h4⟩ := sidesB_iff.1 hs
 obtain ⟨m0, m1⟩ := mul_small h0 h1 h2 h3
 have n0 : ¬ w < 0 := by omega
 have n1 : ¬ h < 0 := by omega
 rw [bitmap_New_eq]
 simp only [iteD, n0, n1, if_false, decide_true, Bool.not_true, Bool.false_eq_true, Option.bind_some]
 rw [bitmap_blank_eq, bmpErr, hs]
 simp only [Option.bind_some, Bool.not_true, Bool.false_eq_true, if_false]
 rw [w64 (by omega), if_pos (by omega)]
 simp only [Option.bind_some]
 obtain ⟨a, e1, e2⟩ := new_loop (w * h).toNat (by omega) (0, List.replicate (w * h).toNat 0) ⟨by simp, by show (0 : Int) ≤ _; omega, rfl⟩
 rw [e1, e2]
 rfl
theorem new_bad {w h : Int} (hs : ¬ sidesB w h = true) : ∃ e, e ≠ 0 ∧ bitmap_New w h 0 = some (0, 0, e, []) := by
 have hsf : sidesB w h = false := by simpa using hs
 rw [bitmap_New_eq]
 have e4 : (bitmap_blank w h) = some (0, 0, 4, []) := by
  rw [bitmap_blank_eq, bmpErr, hsf]; simp
 have el : loop (bitmap_New_loop5 0 []) (0, []) = some [] := by
  obtain ⟨a, e1, e2⟩ := new_loop 0 (by decide) (0, []) ⟨by simp, by simp, rfl⟩
  exact e1.trans (by rw [e2]; rfl)
 simp only [iteD]
 by_cases n0 : w < 0
 ·exact ⟨2, by decide, by simp [n0]⟩
 ·by_cases n1 : h < 0
  ·exact ⟨2, by decide, by simp [n0, n1]⟩
  ·refine ⟨4, by decide, ?_⟩
   simp only [n0, n1, if_false, decide_true, Bool.not_true, Bool.false_eq_true, Option.bind_some, e4, el]
/-- what New's error says -/
theorem new_err (w h : Int) : ∃ a b c e, bitmap_New w h 0 = some (a, b, e, c) ∧ ref05_Sides w h = some (decide (e = 0)) := by
 rw [Sides_is]
 by_cases hs : sidesB w h = true
 ·exact ⟨_, _, _, _, new_ok hs, by rw [hs]; rfl⟩
 ·obtain ⟨e, he, h1⟩ := new_bad hs
  exact ⟨_, _, _, _, h1, by simp [he, hs]⟩
theorem blank_bmp {w h : Int} (hs : sidesB w h = true) : Bmp w h (blankP w h) := by
 obtain ⟨h0, h1, h2, h3, h4⟩ := sidesB_iff.1 hs
 obtain ⟨m0, m1⟩ := mul_small h0 h1 h2 h3
 refine ⟨h0, h1, h2, h3, h4, by simp [blankP]; omega, fun x hx => ?_⟩
 exact .inl (List.eq_of_mem_replicate hx)
/-! ### Loops that test -/
theorem overL_allN {X A : Type} {P : Nat → X → Prop} {step : Nat → X → Unit → Option (Unit ⊕ A)} {fin : Unit → Option A} {a : A} : ∀ (l : List X) (n : Nat),
  (∀ k x, l[k]? = some x → P (n + k) x ∧ step (n + k) x () = some (.inl ()) ∨ ¬ P (n + k) x ∧ step (n + k) x () = some (.inr a)) →
  (∀ k x, l[k]? = some x → P (n + k) x) ∧ overL step fin n l () = fin () ∨ (¬ ∀ k x, l[k]? = some x → P (n + k) x) ∧ overL step fin n l () = some a
 | [], n, _ => .inl ⟨fun k x h => by simp at h, rfl⟩
 | x :: l, n, h => by
  have h0 := h 0 x rfl
  rw [Nat.add_zero] at h0
  rcases h0 with ⟨h1, h2⟩ | ⟨h1, h2⟩
  ·rw [overL_next h2]
   rcases overL_allN l (n + 1) (fun k y hk => by have := h (k + 1) y (by simpa using hk); rwa [show n + (k + 1) = n + 1 + k by omega] at this) with ⟨g1, g2⟩ | ⟨g1, g2⟩
   ·refine .inl ⟨fun k y hk => ?_, g2⟩
    cases k with
    | zero => simp at hk; subst hk; rw [Nat.add_zero]; exact h1
    | succ k => have := g1 k y (by simpa using hk); rwa [show n + 1 + k = n + (k + 1) by omega] at this
   ·refine .inr ⟨fun q => g1 fun k y hk => ?_, g2⟩
    have := q (k + 1) y (by simpa using hk)
    rwa [show n + (k + 1) = n + 1 + k by omega] at this
  ·exact .inr ⟨fun q => h1 (by simpa using q 0 x rfl), overL_exit h2⟩
/-- an invariant of a loop through a list -/
theorem overL_keep {X S : Type} {step : Nat → X → S → Option (S ⊕ S)} (P : Nat → S → Prop) : ∀ (l : List X) (n : Nat) (s : S), P n s → (∀ k x s, l[k]? = some x → P (n + k) s → ∃ s', step (n + k) x s = some (.inl s') ∧ P (n + k + 1) s') →
  ∃ s', overL step (fun s => some s) n l s = some s' ∧ P (n + l.length) s'
 | [], n, s, h, _ => ⟨s, rfl, h⟩
 | x :: l, n, s, h, hs => by
  obtain ⟨s', h1, h2⟩ := hs 0 x s rfl h
  rw [Nat.add_zero] at h1 h2
  obtain ⟨r, h3, h4⟩ := overL_keep P l (n + 1) s' h2 (fun k y t hk ht => by
   have := hs (k + 1) y t (by simpa using hk) (by rwa [show n + (k + 1) = n + 1 + k by omega])
   rwa [show n + (k + 1) = n + 1 + k by omega] at this)
  rw [overL_next h1]
  exact ⟨r, h3, by rw [List.length_cons, show n + (l.length + 1) = n + 1 + l.length by omega]; exact h4⟩
/-- a loop that goes through a list and always goes on -/
theorem overL_ends {X S : Type} {step : Nat → X → S → Option (S ⊕ S)} (h : ∀ n x s, ∃ s', step n x s = some (.inl s')) : ∀ (l : List X) (n : Nat) (s : S), ∃ r, overL step (fun s => some s) n l s = some r
 | [], n, s => ⟨s, rfl⟩
 | x :: l, n, s => by
  obtain ⟨s', h1⟩ := h n x s
  rw [overL_next h1]
  exact overL_ends h l (n + 1) s'
theorem Bmp.set {w h : Int} {p : List Int} (hb : Bmp w h p) {i : Nat} {b : Int} (h01 : b = 0 ∨ b = 1) : Bmp w h (p.set i b) := by
 obtain ⟨h0, h1, h2, h3, h4, h5, h6⟩ := hb
 refine ⟨h0, h1, h2, h3, h4, by rw [List.length_set]; exact h5, fun x hx => ?_⟩
 rcases List.mem_or_eq_of_mem_set hx with q | rfl
 ·exact h6 x q
 ·exact h01
/-! ### Put -/
theorem same_is {kind lo hi : Int} {st out : List Int} : coder_interval_same kind lo hi st out = some (decide (lo / 16777216 = hi / 16777216), kind, lo, hi, st, out) := by
 rw [coder_interval_same_eq]
 simp only [ushr24]
theorem put_loop {kind : Int} {st : List Int} : ∀ (n : Nat) (lo hi : Int) (out : List Int), Iv lo hi → gapOf n ≤ hi - lo → out.length + n ≤ 140737488355328 →
  loop coder_Encoder_Put_loop6 (kind, lo, hi, st, out) = some (kind, (flush n lo hi out).1, (flush n lo hi out).2.1, st, (flush n lo hi out).2.2)
 | 0, lo, hi, out, h, hg, hl => by
  refine loop_done ?_
  unfold coder_Encoder_Put_loop6
  simp only [same_is, Option.bind_some]
  simp only [gapOf] at hg
  have hne : ¬ lo / 16777216 = hi / 16777216 := by obtain ⟨h0, h1, h2⟩ := h; omega
  simp only [hne, decide_false, Bool.false_eq_true, if_false, flush]
 | n + 1, lo, hi, out, h, hg, hl => by
  by_cases e : lo / 16777216 = hi / 16777216
  ·obtain ⟨h1, h2⟩ := h.shift e
   rw [loop_step (s' := (kind, lo % 16777216 * 256, hi % 16777216 * 256 + 255, st, out ++ [hi / 16777216]))]
   ·rw [put_loop n _ _ _ h1 (by rw [h2]; exact gap_step hg (by have := h.2.1; omega)) (by simp; omega)]
    simp only [flush, e, if_true]
   ·unfold coder_Encoder_Put_loop6
    simp only [same_is, Option.bind_some, lose_is h]
    simp only [e, decide_true, if_true, List.length_singleton]
    rw [if_pos (by omega)]
  ·refine loop_done ?_
   unfold coder_Encoder_Put_loop6
   simp only [same_is, Option.bind_some]
   simp only [e, decide_false, Bool.false_eq_true, if_false, flush]
theorem put_is {ctx bit kind lo hi : Int} {st out : List Int} (h : EncOk kind lo hi st) (hc : 0 ≤ ctx ∧ ctx < (st.length : Int)) (hb : bit = 0 ∨ bit = 1) (hl : out.length + 4 ≤ 140737488355328) :
  ∃ lo' hi' st' out', coder_Encoder_Put ctx bit kind lo hi st out = some (0, kind, lo', hi', st', out') ∧ ref02_Encoder_Put ctx bit kind lo hi st out = some (0, kind, lo', hi', st', out') ∧
   EncOk kind lo' hi' st' ∧ st'.length = st.length ∧ out'.length ≤ out.length + 4 := by
 obtain ⟨p, s, lo1, hi1, hp, hp0, hp1, ha, hs', hpart, hiv, href⟩ := refPut_is h hc hb hl
 have hs : StateOk kind (rd st ctx) := h.states _ (List.mem_of_getElem? (rd_get hc.1 hc.2))
 have hlt : lo < hi := by
  rcases Int.lt_or_le lo hi with q | q
  ·exact q
  ·exact absurd (by rw [show lo = hi by have := h.iv.2.1; omega]) h.open_
 have hm := midV_ge h.iv.2.1 hp0
 have hm2 := midV_lt hlt hp0 hp1
 obtain ⟨i0, i1, i2⟩ := h.iv
 have hgap : gapOf 4 ≤ hi1 - lo1 := by simp only [gapOf]; have := hiv.2.1; omega
 obtain ⟨f1, f2, f3, f4⟩ := flush_is 4 lo1 hi1 out hiv hgap
 refine ⟨_, _, _, _, ?_, href, ⟨h.two, f1, f2, fun x hx => ?_⟩, by simp, f3⟩
 ·rw [coder_Encoder_Put_eq, coder_Encoder_none_eq]
  have c1 : ¬ ctx < 0 := by omega
  have c2 : ¬ ctx ≥ ((st.length : Nat) : Int) := by omega
  have c3 : (if (!decide (bit = 0)) = true then some (!decide (bit = 1)) else some false) = some false := by rcases hb with rfl | rfl <;> rfl
  simp only [c1, c2, c3, decide_false, Bool.false_eq_true, if_false, Option.bind_some, mid_is h.iv hc hp hs hp0 hp1, take_is hb hc hs ⟨show 0 ≤ midV lo hi p by omega, by omega⟩, ha, Sum.elim_inl]
  have e : (if bit = 1 then (kind, lo, midV lo hi p, st.set ctx.toNat s, out) else (kind, midV lo hi p + 1, hi, st.set ctx.toNat s, out)) = (kind, lo1, hi1, st.set ctx.toNat s, out) := by
   split at hpart <;> rename_i q <;> simp only [Prod.mk.injEq] at hpart <;> obtain ⟨rfl, rfl⟩ := hpart <;> simp [q]
  rw [e]
  simp only
  rw [put_loop 4 _ _ _ hiv hgap (by omega)]
  rfl
 ·rcases List.mem_or_eq_of_mem_set hx with q | rfl
  ·exact h.states x q
  ·exact hs'
/-! ### Contexts -/
theorem plane_at_is {w h : Int} {p : List Int} {ar : List Arr2} (hb : Bmp w h p) (x y : Int) : generic_plane_at x y w h p ar = some (pixA w h p x y, w, h, p, ar) := by
 have hb' := hb
 obtain ⟨h0, h1, h2, h3, h4, h5, h6⟩ := hb
 rw [generic_plane_at_eq]
 unfold pixA
 by_cases q : 0 ≤ x ∧ 0 ≤ y ∧ x < w ∧ y < h
 ·obtain ⟨a0, a1, a2⟩ := idx_in q.1 q.2.2.1 q.2.1 q.2.2.2
  obtain ⟨q0, q1, q2, q3⟩ := q
  have e : ((if decide (x < 0) = true then some true else if decide (y < 0) = true then some true else if decide (x ≥ w) = true then some true else some (decide (y ≥ h))) : Option Bool) = some false := by
   rw [if_neg (by simp; omega), if_neg (by simp; omega), if_neg (by simp; omega)]; simp; omega
  have hr : (if 0 ≤ x ∧ 0 ≤ y ∧ x < w ∧ y < h then rd p (y * w + x) else 0) = rd p (y * w + x) := if_pos ⟨q0, q1, q2, q3⟩
  rw [e, hr]
  simp only [Option.bind_some, Bool.false_eq_true, if_false]
  rw [w64 (n := y * w) (by omega), w64 (n := y * w + x) (by omega), if_pos (by omega)]
 ·have e : ((if decide (x < 0) = true then some true else if decide (y < 0) = true then some true else if decide (x ≥ w) = true then some true else some (decide (y ≥ h))) : Option Bool) = some true := by
   simp only [iteD]
   by_cases q0 : x < 0
   ·rw [if_pos q0]
   ·by_cases q1 : y < 0
    ·rw [if_neg q0, if_pos q1]
    ·by_cases q2 : x ≥ w
     ·rw [if_neg q0, if_neg q1, if_pos q2]
     ·rw [if_neg q0, if_neg q1, if_neg q2]; simp; omega
  rw [e, if_neg q]
  simp
def tmplL (t : Int) : List (Int × Int) :=
 if t = 0 then [(-1, -2), (0, -2), (1, -2), (-2, -1), (-1, -1), (0, -1), (1, -1), (2, -1), (-2, 0), (-1, 0)]
 else if t = 1 then [(-1, -2), (0, -2), (-1, -1), (0, -1), (1, -1), (-2, 0), (-1, 0)]
 else if t = 2 then [(-2, -1), (-1, -1), (0, -1), (1, -1), (2, -1), (-2, 0), (-1, 0)]
 else [(-1, -1), (0, -1), (1, -1), (-1, 0)]
def ar2 (d : Int × Int) : Arr2 := ⟨d.1, d.2⟩
def px2 (d : Int × Int) : Pixel := ⟨d.1, d.2⟩
theorem tmplL_small (t : Int) : (tmplL t).length ≤ 10 ∧ ∀ d ∈ tmplL t, -8 ≤ d.1 ∧ d.1 ≤ 8 ∧ -8 ≤ d.2 ∧ d.2 ≤ 8 := by
 unfold tmplL
 split
 ·decide
 ·split
  ·decide
  ·split <;> decide
theorem pixels_is (t : Int) : generic_pixels t = some ((tmplL t).map ar2) := by
 rw [generic_pixels_eq]
 unfold tmplL
 simp only [iteD]
 by_cases h0 : t = 0
 ·simp [h0, ar2]
 ·by_cases h1 : t = 1
  ·simp [h1, ar2]
  ·by_cases h2 : t = 2
   ·simp [h2, ar2]
   ·simp [h0, h1, h2, ar2]
theorem template_is (t : Int) : ref07_template t = some ((tmplL t).map px2) := by
 rw [ref07_template_eq]
 unfold tmplL
 simp only [iteD]
 by_cases h0 : t = 0
 ·simp [h0, px2]
 ·by_cases h1 : t = 1
  ·simp [h1, px2]
  ·by_cases h2 : t = 2
   ·simp [h2, px2]
   ·simp [h0, h1, h2, px2]
/-- how many contexts there are, without the last one -/
def ctxN (t : Int) : Int := 2 ^ ((tmplL t).length + 1)
theorem ctxN_small (t : Int) : 0 < ctxN t ∧ ctxN t ≤ 2048 := by
 unfold ctxN tmplL
 split
 ·decide
 ·split
  ·decide
  ·split <;> decide
theorem contexts_is (t o2 o3 : Int) (o4 : Bool) (o5 : Int) : generic_contexts t o2 o3 o4 o5 = some (ctxN t) := by
 rw [generic_contexts_eq, pixels_is]
 simp only [Option.bind_some, List.length_map]
 rw [if_neg (by omega)]
 congr 1
 unfold ctxN tmplL
 split
 ·decide
 ·split
  ·decide
  ·split <;> decide
/-- all offsets of a context -/
def offs (t a b : Int) : List (Int × Int) := tmplL t ++ [(a, b)]
theorem offs_len (t a b : Int) : (offs t a b).length = (tmplL t).length + 1 := by simp [offs]
theorem rpixels_is (t a b : Int) (o4 : Bool) (o5 : Int) : ref07_pixels t a b o4 o5 = some ((offs t a b).map px2) := by
 rw [ref07_pixels_eq, template_is]
 have := (tmplL_small t).1
 simp only [Option.bind_some, List.length_map, List.length_singleton]
 rw [if_pos (by decide), if_pos (by decide), if_pos (by omega)]
 simp [offs, px2]
theorem newPlane_is {t a b w h : Int} {o4 : Bool} {o5 : Int} (hs : sidesB w h = true) : generic_newPlane t a b o4 o5 w h = some (w, h, List.replicate (w * h).toNat 0, (offs t a b).map ar2) := by
 obtain ⟨h0, h1, h2, h3, h4⟩ := sidesB_iff.1 hs
 obtain ⟨m0, m1⟩ := mul_small h0 h1 h2 h3
 have := (tmplL_small t).1
 rw [generic_newPlane_eq, w64 (n := w * h) (by omega), pixels_is]
 simp only [Option.bind_some, List.length_map, List.length_singleton]
 rw [if_pos (by omega), if_pos (by omega)]
 simp [offs, ar2]
/-- the context of a pixel -/
def ctxV (w h : Int) (p : List Int) (x y : Int) : List (Int × Int) → Int → Int
 | [], n => n
 | d :: l, n => ctxV w h p x y l (2 * n + pixA w h p (x + d.1) (y + d.2))
theorem ctxV_range {w h : Int} {p : List Int} (hb : Bmp w h p) {x y : Int} : ∀ (l : List (Int × Int)) (n : Int) (m : Nat), 0 ≤ n → n < 2 ^ m → 0 ≤ ctxV w h p x y l n ∧ ctxV w h p x y l n < 2 ^ (m + l.length)
 | [], n, m, h0, h1 => ⟨h0, h1⟩
 | d :: l, n, m, h0, h1 => by
  have hp := hb.pix (x := x + d.1) (y := y + d.2)
  have := ctxV_range hb (x := x) (y := y) l (2 * n + pixA w h p (x + d.1) (y + d.2)) (m + 1) (by omega) (by rw [Int.pow_succ]; omega)
  simp only [ctxV, List.length_cons]
  rwa [show m + (l.length + 1) = m + 1 + l.length by omega]
theorem pow_small {m : Nat} (h : m ≤ 40) : (2 : Int) ^ m ≤ 1099511627776 := by
 have := Nat.pow_le_pow_right (n := 2) (by decide) h
 have e : (2 : Nat) ^ m ≤ 1099511627776 := Nat.le_trans this (by decide)
 have e2 := Int.ofNat_le.2 e
 rw [Int.natCast_pow] at e2
 exact e2
theorem ctx_over {w h : Int} {p : List Int} (hb : Bmp w h p) {x y : Int} (hx : -1000 ≤ x ∧ x ≤ 1000) (hy : -1000 ≤ y ∧ y ≤ 1000) {ar : List Arr2} :
  ∀ (l : List (Int × Int)) (n : Int) (m k : Nat), (∀ d ∈ l, -8 ≤ d.1 ∧ d.1 ≤ 8 ∧ -8 ≤ d.2 ∧ d.2 ≤ 8) → 0 ≤ n → n < 2 ^ m → m + l.length ≤ 40 →
  overL (generic_plane_context_loop3_step x y) (fun s => some s) k (l.map ar2) (n, w, h, p, ar) = some (ctxV w h p x y l n, w, h, p, ar)
 | [], n, m, k, _, h0, h1, _ => by simp [overL_nil, ctxV]
 | d :: l, n, m, k, hd, h0, h1, hm => by
  have hp := hb.pix (x := x + d.1) (y := y + d.2)
  obtain ⟨d1, d2, d3, d4⟩ := hd d (List.mem_cons_self ..)
  simp only [List.length_cons] at hm
  have hs := pow_small (m := m) (by omega)
  rw [List.map_cons, overL_next (s' := (2 * n + pixA w h p (x + d.1) (y + d.2), w, h, p, ar))]
  ·rw [ctx_over hb hx hy l _ (m + 1) (k + 1) (fun e he => hd e (List.mem_cons_of_mem _ he)) (by omega) (by rw [Int.pow_succ]; omega) (by omega)]
   rfl
  ·unfold generic_plane_context_loop3_step
   simp only [ar2]
   rw [if_pos (by decide), if_pos (by decide), w64 (n := x + d.1) (by omega), w64 (n := y + d.2) (by omega), plane_at_is hb]
   simp only [Option.bind_some]
   rw [w64 (n := 2 * n) (by omega), w64 (n := pixA w h p (x + d.1) (y + d.2)) (by omega), w64 (by omega)]
theorem ctx_loop {w h : Int} {p : List Int} (hb : Bmp w h p) {x y : Int} (hx : -1000 ≤ x ∧ x ≤ 1000) (hy : -1000 ≤ y ∧ y ≤ 1000) (L : List (Int × Int)) (hd : ∀ d ∈ L, -8 ≤ d.1 ∧ d.1 ≤ 8 ∧ -8 ≤ d.2 ∧ d.2 ≤ 8) (hL : L.length ≤ 40) :
  ∀ (l : List (Int × Int)) (n : Int) (k : Nat), L.drop k = l → 0 ≤ n → n < 2 ^ k → k + l.length = L.length → loop (ref07_context_loop4 w h p x y (L.map px2)) (n, (k : Int)) = some (ctxV w h p x y l n)
 | [], n, k, hk, h0, h1, hl => by
  refine loop_done ?_
  unfold ref07_context_loop4
  simp only [List.length_map]
  simp only [List.length_nil] at hl
  rw [if_neg (by simp; omega)]
  rfl
 | d :: l, n, k, hk, h0, h1, hl => by
  have hp := hb.pix (x := x + d.1) (y := y + d.2)
  have hget : L[k]? = some d := by
   have : (L.drop k)[0]? = some d := by rw [hk]; rfl
   simpa using this
  obtain ⟨d1, d2, d3, d4⟩ := hd d (List.mem_of_getElem? hget)
  simp only [List.length_cons] at hl
  have hs := pow_small (m := k) (by omega)
  rw [loop_step (s' := (2 * n + pixA w h p (x + d.1) (y + d.2), ((k + 1 : Nat) : Int)))]
  ·rw [ctx_loop hb hx hy L hd hL l _ (k + 1) (by rw [← List.drop_drop, hk]; rfl) (by omega) (by rw [Int.pow_succ]; omega) (by omega)]
   rfl
  ·unfold ref07_context_loop4
   simp only [List.length_map, Int.toNat_natCast, List.getElem?_map, hget, Option.map_some, Option.bind_some, px2]
   rw [if_pos (by simp; omega), if_pos (by omega), if_pos (by omega), w64 (n := x + d.1) (by omega), w64 (n := y + d.2) (by omega), At_is hb]
   simp only [Option.bind_some]
   rw [w64 (n := 2 * n) (by omega), w64 (n := (k : Int) + 1) (by omega), w64 (by omega)]
   rfl
/-- options that are right -/
def OptOk (t a b k : Int) : Prop := 0 ≤ t ∧ t ≤ 3 ∧ -8 ≤ a ∧ a ≤ 8 ∧ -8 ≤ b ∧ b ≤ 0 ∧ (b < 0 ∨ a < 0) ∧ (k = 0 ∨ k = 1)
theorem offs_small {t a b k : Int} (h : OptOk t a b k) : (offs t a b).length ≤ 11 ∧ ∀ d ∈ offs t a b, -8 ≤ d.1 ∧ d.1 ≤ 8 ∧ -8 ≤ d.2 ∧ d.2 ≤ 8 := by
 obtain ⟨h1, h2⟩ := tmplL_small t
 obtain ⟨_, _, a1, a2, b1, b2, _, _⟩ := h
 refine ⟨by rw [offs_len]; omega, fun d hd => ?_⟩
 rcases List.mem_append.1 hd with hd | hd
 ·exact h2 d hd
 ·rw [List.mem_singleton] at hd
  subst hd
  exact ⟨a1, a2, b1, by show b ≤ 8; omega⟩
def ctx (t a b w h : Int) (p : List Int) (x y : Int) : Int := ctxV w h p x y (offs t a b) 0
theorem ctx_range {t a b w h : Int} {p : List Int} (hb : Bmp w h p) (x y : Int) : 0 ≤ ctx t a b w h p x y ∧ ctx t a b w h p x y < ctxN t := by
 have := ctxV_range hb (x := x) (y := y) (offs t a b) 0 0 (by decide) (by decide)
 rw [offs_len, Nat.zero_add] at this
 exact this
theorem context_is {t a b k w h : Int} {p : List Int} (ho : OptOk t a b k) (hb : Bmp w h p) {x y : Int} (hx : -1000 ≤ x ∧ x ≤ 1000) (hy : -1000 ≤ y ∧ y ≤ 1000) :
  generic_plane_context x y w h p ((offs t a b).map ar2) = some (ctx t a b w h p x y, w, h, p, (offs t a b).map ar2) := by
 obtain ⟨h1, h2⟩ := offs_small ho
 rw [generic_plane_context_eq]
 have := generic_plane_context_loop3_over x y ((offs t a b).map ar2) (by simp; omega) (0, w, h, p, (offs t a b).map ar2)
 simp only at this
 rw [this, ctx_over hb hx hy (offs t a b) 0 0 0 h2 (by decide) (by decide) (by omega)]
 rfl
theorem rcontext_is {t a b k w h : Int} {p : List Int} {o4 : Bool} (ho : OptOk t a b k) (hb : Bmp w h p) {x y : Int} (hx : -1000 ≤ x ∧ x ≤ 1000) (hy : -1000 ≤ y ∧ y ≤ 1000) :
  ref07_context t a b o4 k w h p x y = some (ctx t a b w h p x y) := by
 obtain ⟨h1, h2⟩ := offs_small ho
 rw [ref07_context_eq, rpixels_is]
 simp only [Option.bind_some]
 rw [show ((0 : Int), (0 : Int)) = (0, ((0 : Nat) : Int)) from rfl, ctx_loop hb hx hy (offs t a b) h2 (by omega) _ 0 0 rfl (by decide) (by decide) (by simp)]
 rfl
instance (t a b k : Int) : Decidable (OptOk t a b k) := by unfold OptOk; infer_instance
theorem genValid_is (t a b : Int) (o4 : Bool) (k : Int) : generic_Valid t a b o4 k = some (decide (OptOk t a b k)) := by
 rw [generic_Valid_eq, if_pos (by decide), if_pos (by decide)]
 simp only [iteD]
 repeat' split
 all_goals
  refine some_dec ?_
  unfold OptOk
  simp only [decide_eq_true_eq, Bool.false_eq_true, true_iff, false_iff]
  omega
theorem refValid_is (t a b : Int) (o4 : Bool) (k : Int) : ref07_Valid t a b o4 k = some (decide (OptOk t a b k)) := by
 rw [ref07_Valid_eq]
 have e1 : ((if decide (t < 0) = true then some true else if decide (t > 3) = true then some true else if decide (k < 0) = true then some true else some (decide (k > 1))) : Option Bool) = some (decide (¬ (0 ≤ t ∧ t ≤ 3 ∧ (k = 0 ∨ k = 1)))) := by
  simp only [iteD]
  repeat' split
  all_goals
   refine some_dec ?_
   simp only [decide_eq_true_eq, Bool.false_eq_true, true_iff, false_iff]
   omega
 rw [e1]
 simp only [Option.bind_some]
 have z : ((0 : Int) ≤ 0 ∧ (0 : Int) < ((2 : Nat) : Int)) = True := by simp
 have z1 : ((0 : Int) ≤ 1 ∧ (1 : Int) < ((2 : Nat) : Int)) = True := by simp
 simp only [z, z1, if_true, iteD]
 by_cases h1 : ¬ (0 ≤ t ∧ t ≤ 3 ∧ (k = 0 ∨ k = 1))
 ·rw [if_pos h1]
  refine some_dec ?_
  unfold OptOk
  simp only [Bool.false_eq_true, false_iff]
  omega
 ·rw [if_neg h1]
  have e2 : ((if a < -8 then some true else if a > 8 then some true else if b < -8 then some true else some (decide (b > 0))) : Option Bool) = some (decide (¬ (-8 ≤ a ∧ a ≤ 8 ∧ -8 ≤ b ∧ b ≤ 0))) := by
   repeat' split
   all_goals
    refine some_dec ?_
    simp only [decide_eq_true_eq, Bool.false_eq_true, true_iff, false_iff]
    omega
  rw [e2]
  simp only [Option.bind_some, iteD]
  repeat' split
  all_goals
   refine some_dec ?_
   unfold OptOk
   simp only [decide_eq_true_eq, Bool.false_eq_true, true_iff, false_iff]
   omega
theorem size07_is (t a b : Int) (o4 : Bool) (k : Int) : ref07_Size t a b o4 k = some (if OptOk t a b k then (ctxN t + 1, 0) else (0, 2)) := by
 rw [ref07_Size_eq, refValid_is]
 simp only [Option.bind_some]
 by_cases h : OptOk t a b k
 ·simp only [h, decide_true, Bool.not_true, Bool.false_eq_true, if_false, if_true, rpixels_is, Option.bind_some, List.length_map, offs_len]
  rw [if_neg (by omega)]
  have := ctxN_small t
  have e : ishl .i64 1 (((tmplL t).length + 1 : Nat) : Int) = ctxN t := by
   unfold ctxN tmplL
   split
   ·decide
   ·split
    ·decide
    ·split <;> decide
  rw [e, w64 (by omega)]
 ·simp only [h, decide_false, Bool.not_false, if_true, if_false]
/-! ### What is skipped -/
def SkipOk (w h sw sh : Int) (sp : List Int) : Prop := Bmp sw sh sp ∧ (sw = 0 ∧ sh = 0 ∨ sw = w ∧ sh = h)
theorem skips_is {w h sw sh : Int} {sp : List Int} (hs : SkipOk w h sw sh sp) {x y : Int} (hx : 0 ≤ x) (hxw : x < w) (hy : 0 ≤ y) (hyh : y < h) :
  generic_skips sw sh sp (y * w + x) = some (decide (pixA sw sh sp x y = 1)) := by
 obtain ⟨hb, hq⟩ := hs
 obtain ⟨a0, a1, a2⟩ := idx_in hx hxw hy hyh
 rw [generic_skips_eq]
 unfold pixA
 rcases hq with ⟨rfl, rfl⟩ | ⟨rfl, rfl⟩
 ·have := hb.2.2.2.2.2.1
  rw [if_neg (by simp at this ⊢; exact this), if_neg (by omega)]
  simp
 ·have := hb.2.2.2.2.2.1
  rw [if_pos (by simp; omega), if_pos (by omega), if_pos ⟨hx, hy, hxw, hyh⟩]
/-! ### A row as it is foretold -/
def rowF (w h : Int) (p : List Int) (sw sh : Int) (sp : List Int) (y : Int) (x : Nat) : Int := if pixA sw sh sp x y = 1 then 0 else pixA w h p x (y - 1)
def rowA (w h : Int) (p : List Int) (sw sh : Int) (sp : List Int) (y : Int) : List Int := (List.range w.toNat).map (rowF w h p sw sh sp y)
theorem rowF_bit {w h sw sh : Int} {p sp : List Int} (hb : Bmp w h p) {y : Int} {x : Nat} : rowF w h p sw sh sp y x = 0 ∨ rowF w h p sw sh sp y x = 1 := by
 unfold rowF
 split
 ·exact .inl rfl
 ·exact hb.pix
theorem typical_is {w h sw sh : Int} {p sp : List Int} (hb : Bmp w h p) (hs : SkipOk w h sw sh sp) {y : Int} (hy : 0 ≤ y ∧ y < h) : ref07_typical w h p sw sh sp y = some (rowA w h p sw sh sp y) := by
 have hw := hb.1
 have hw2 := hb.2.2.1
 have hh2 := hb.2.2.2.1
 rw [ref07_typical_eq, ref07_typical_loop3_over w h p sw sh sp y (by rw [List.length_range]; omega) []]
 have := overL_inv (f := ref07_typical_loop3_step w h p sw sh sp y) (fin := fun s => some s) (fun n => (List.range n).map (rowF w h p sw sh sp y)) (List.range w.toNat) 0 (fun k x hk => ?_)
 ·rw [List.length_range, Nat.zero_add] at this
  exact (by rw [show ([] : List Int) = (List.range 0).map (rowF w h p sw sh sp y) from rfl, this]; rfl)
 ·have hk' := lt_len_of_get hk
  rw [List.length_range] at hk'
  have hr := rowF_bit (sw := sw) (sh := sh) (sp := sp) hb (y := y) (x := k)
  unfold ref07_typical_loop3_step
  simp only [Nat.zero_add]
  rw [w64 (n := y - 1) (by omega), At_is hb, At_is hs.1]
  simp only [Option.bind_some, iteD]
  have e : ((if pixA sw sh sp (k : Int) y = 1 then some 0 else some (pixA w h p (k : Int) (y - 1))) : Option Int) = some (rowF w h p sw sh sp y k) := by unfold rowF; split <;> rfl
  rw [e]
  simp only [Option.bind_some, List.length_map, List.length_range, List.length_singleton]
  rw [if_pos (by omega), w8, show rowF w h p sw sh sp y k % 256 = rowF w h p sw sh sp y k by omega, List.range_succ, List.map_append]
  rfl
theorem above_is {w h sw sh : Int} {p sp : List Int} {ar : List Arr2} (hb : Bmp w h p) (hs : SkipOk w h sw sh sp) {y : Int} (hy : 0 ≤ y ∧ y < h) : generic_plane_above y sw sh sp w h p ar = some (rowA w h p sw sh sp y, w, h, p, ar) := by
 have hw := hb.1
 have hw2 := hb.2.2.1
 have hh2 := hb.2.2.2.1
 rw [generic_plane_above_eq, if_pos (by omega)]
 simp only
 have h1 := generic_plane_above_loop3_over y sw sh sp (List.replicate w.toNat 0) (by rw [List.length_replicate]; omega) (w, h, p, ar, List.replicate w.toNat 0)
 simp only at h1
 rw [h1]
 have := overL_inv (f := generic_plane_above_loop3_step y sw sh sp) (fin := fun s => some s) (fun n => (w, h, p, ar, (List.range n).map (rowF w h p sw sh sp y) ++ List.replicate (w.toNat - n) 0)) (List.replicate w.toNat 0) 0 (fun k x hk => ?_)
 ·rw [List.length_replicate, Nat.zero_add] at this
  simp only [List.range_zero, List.map_nil, List.nil_append, Nat.sub_zero, Nat.sub_self, List.replicate_zero, List.append_nil] at this
  simp only [this]
  rfl
 ·have hk' := lt_len_of_get hk
  rw [List.length_replicate] at hk'
  obtain ⟨a0, a1, a2⟩ := idx_in (show (0 : Int) ≤ (k : Int) by omega) (show (k : Int) < w by omega) hy.1 hy.2
  have hwh := hb.2.2.2.2.1
  unfold generic_plane_above_loop3_step
  simp only [Nat.zero_add]
  rw [w64 (n := y * w) (by omega), w64 (n := y * w + (k : Int)) (by omega), skips_is hs (by omega) (by omega) hy.1 hy.2]
  simp only [Option.bind_some]
  have hrep : List.replicate (w.toNat - k) (0 : Int) = 0 :: List.replicate (w.toNat - (k + 1)) 0 := by rw [show w.toNat - k = (w.toNat - (k + 1)) + 1 by omega, List.replicate_succ]
  by_cases hq : pixA sw sh sp (k : Int) y = 1
  ·simp only [hq, decide_true, Bool.not_true, Bool.false_eq_true, if_false]
   rw [hrep, List.range_succ, List.map_append, List.append_assoc]
   simp [rowF, hq]
  ·simp only [hq, decide_false, Bool.not_false, if_true]
   rw [w64 (n := y - 1) (by omega), plane_at_is hb]
   simp only [Option.bind_some, List.length_append, List.length_map, List.length_range, List.length_replicate]
   rw [if_pos (by omega), hrep, List.set_append_right _ _ (by simp), List.range_succ, List.map_append]
   simp [rowF, hq]
/-! ### Puts -/
abbrev EncS := Int × Int × Int × List Int × List Int
def EncAt (N B : Nat) (s : EncS) : Prop := EncOk s.1 s.2.1 s.2.2.1 s.2.2.2.1 ∧ s.2.2.2.1.length = N ∧ s.2.2.2.2.length ≤ B
theorem put_at {N B : Nat} {s : EncS} (h : EncAt N B s) {c b : Int} (hc : 0 ≤ c ∧ c < (N : Int)) (hb : b = 0 ∨ b = 1) (hB : B ≤ 1000000000) :
  ∃ s', coder_Encoder_Put c b s.1 s.2.1 s.2.2.1 s.2.2.2.1 s.2.2.2.2 = some (0, s') ∧ ref02_Encoder_Put c b s.1 s.2.1 s.2.2.1 s.2.2.2.1 s.2.2.2.2 = some (0, s') ∧ EncAt N (B + 4) s' := by
 obtain ⟨h1, h2, h3⟩ := h
 obtain ⟨lo', hi', st', out', e1, e2, e3, e4, e5⟩ := put_is (out := s.2.2.2.2) h1 (by rw [h2]; exact hc) hb (by omega)
 exact ⟨(s.1, lo', hi', st', out'), e1, e2, e3, by rw [e4, h2], by show out'.length ≤ B + 4; omega⟩
/-- an encoder and a plane -/
def withP (e : EncS) (w h : Int) (p : List Int) (ar : List Arr2) : Int × Int × Int × List Int × List Int × Int × Int × List Int × List Arr2 := (e.1, e.2.1, e.2.2.1, e.2.2.2.1, e.2.2.2.2, w, h, p, ar)
theorem rd_pix {w h : Int} {p : List Int} (hb : Bmp w h p) {x y : Int} (hx : 0 ≤ x) (hxw : x < w) (hy : 0 ≤ y) (hyh : y < h) : rd p (y * w + x) = pixA w h p x y := by
 unfold pixA; rw [if_pos ⟨hx, hy, hxw, hyh⟩]
theorem put_row {t a b k base w h sw sh : Int} {p sp : List Int} {o4 : Bool} {N B : Nat} (ho : OptOk t a b k) (hb : Bmp w h p) (hs : SkipOk w h sw sh sp) (hbase : 0 ≤ base ∧ base + ctxN t < (N : Int)) (hN : N ≤ 1000000) {y : Int} (hy : 0 ≤ y ∧ y < h) (hB : B ≤ 900000000)
  {e : EncS} (he : EncAt N B e) :
  Both (loop (generic_put_loop13 base w p sw sh sp y) (0, withP e w h p ((offs t a b).map ar2))) (loop (ref07_Put_loop27 base t a b o4 k w h p sw sh sp y) (0, e))
   (fun q r => q = withP r w h p ((offs t a b).map ar2) ∧ EncAt N (B + 800) r) := by
 have hw := hb.1
 have hw2 := hb.2.2.1
 have hh2 := hb.2.2.2.1
 have hwh := hb.2.2.2.2.1
 have hlen := hb.2.2.2.2.2.1
 have hctx := ctxN_small t
 have l1 := generic_put_loop13_over base w p sw sh sp y (by rw [List.length_range]; omega) (withP e w h p ((offs t a b).map ar2))
 have l2 := ref07_Put_loop27_over base t a b o4 k w h p sw sh sp y (by rw [List.length_range]; omega) e
 simp only [withP] at l1 l2 ⊢
 rw [l1, l2]
 refine overL_both (fun n s r => s = withP r w h p ((offs t a b).map ar2) ∧ EncAt N (B + 4 * n) r) _ (List.range w.toNat) 0 _ _ (fun n x s r hn hr => ?_) (fun s r hr => ?_) ⟨rfl, by simpa using he⟩
 ·have hk := lt_len_of_get hn
  rw [List.length_range] at hk
  rw [Nat.zero_add] at hr ⊢
  obtain ⟨rfl, hr⟩ := hr
  obtain ⟨a0, a1, a2⟩ := idx_in (show (0 : Int) ≤ (n : Int) by omega) (show (n : Int) < w by omega) hy.1 hy.2
  have hcx := ctx_range (t := t) (a := a) (b := b) hb n y
  unfold generic_put_loop13_step ref07_Put_loop27_step
  simp only [withP]
  rw [w64 (n := y * w) (by omega), w64 (n := y * w + (n : Int)) (by omega), skips_is hs (by omega) (by omega) hy.1 hy.2, At_is hs.1]
  simp only [Option.bind_some]
  have hsp := hs.1.pix (x := (n : Int)) (y := y)
  by_cases hq : pixA sw sh sp (n : Int) y = 1
  ·rw [hq]
   simp only [decide_true, Bool.not_true, Bool.false_eq_true, if_false, show ¬ ((1 : Int) = 0) by decide, decide_false]
   exact .mk ⟨rfl, hr.1, hr.2.1, by have := hr.2.2; show r.2.2.2.2.length ≤ _; omega⟩
  ·have hq0 : pixA sw sh sp (n : Int) y = 0 := by omega
   rw [hq0]
   simp only [show ¬ ((0 : Int) = 1) by decide, decide_true, decide_false, Bool.not_false, if_true]
   rw [context_is ho hb (by omega) (by omega), rcontext_is ho hb (by omega) (by omega)]
   simp only [Option.bind_some]
   have hp := hb.pix (x := (n : Int)) (y := y)
   rw [w64 (n := base + ctx t a b w h p (n : Int) y) (by omega), if_pos (by omega), rd_pix hb (by omega) (by omega) hy.1 hy.2, At_is hb, w64 (n := pixA w h p (n : Int) y) (by omega)]
   simp only [Option.bind_some]
   obtain ⟨s', e1, e2, e3⟩ := put_at hr (c := base + ctx t a b w h p (n : Int) y) (by omega) hp (by omega)
   rw [e1, e2]
   exact .mk ⟨rfl, by rw [show B + 4 * (n + 1) = B + 4 * n + 4 by omega]; exact e3⟩
 ·obtain ⟨rfl, hr⟩ := hr
  refine .mk ⟨rfl, hr.1, hr.2.1, ?_⟩
  have := hr.2.2
  rw [List.length_range] at this
  show r.2.2.2.2.length ≤ B + 800
  omega
theorem put_rows {t a b k base w h sw sh : Int} {p sp : List Int} {o4 : Bool} {N : Nat} (ho : OptOk t a b k) (hb : Bmp w h p) (hs : SkipOk w h sw sh sp) (hbase : 0 ≤ base ∧ base + ctxN t < (N : Int)) (hN : N ≤ 1000000) {B : Nat} (hB : B ≤ 100000000)
  {e : EncS} (he : EncAt N B e) :
  Both (loop (generic_put_loop4 base t a b o4 k w h p sw sh sp) (0, withP e w h p ((offs t a b).map ar2))) (loop (ref07_Put_loop18 base t a b o4 k w h p sw sh sp (ctxN t + 1)) (0, e))
   (fun q r => q = withP r w h p ((offs t a b).map ar2) ∧ EncAt N (B + 804 * 200) r) := by
 have hw := hb.1
 have hh := hb.2.1
 have hw2 := hb.2.2.1
 have hh2 := hb.2.2.2.1
 have hwh := hb.2.2.2.2.1
 have hlen := hb.2.2.2.2.2.1
 have hctx := ctxN_small t
 have l1 := generic_put_loop4_over base t a b o4 k w h p sw sh sp (by rw [List.length_range]; omega) (withP e w h p ((offs t a b).map ar2))
 have l2 := ref07_Put_loop18_over base t a b o4 k w h p sw sh sp (ctxN t + 1) (by rw [List.length_range]; omega) e
 simp only [withP] at l1 l2 ⊢
 rw [l1, l2]
 refine overL_both (fun n s r => s = withP r w h p ((offs t a b).map ar2) ∧ EncAt N (B + 804 * n) r) _ (List.range h.toNat) 0 _ _ (fun n x s r hn hr => ?_) (fun s r hr => ?_) ⟨rfl, by simpa using he⟩
 ·have hk := lt_len_of_get hn
  rw [List.length_range] at hk
  rw [Nat.zero_add] at hr ⊢
  obtain ⟨rfl, hr⟩ := hr
  have hy : (0 : Int) ≤ (n : Int) ∧ (n : Int) < h := by omega
  have b1 : 0 ≤ (n : Int) * w := Int.mul_nonneg hy.1 hw
  have b2 : ((n : Int) + 1) * w ≤ h * w := Int.mul_le_mul_of_nonneg_right (by omega) hw
  have b3 : ((n : Int) + 1) * w = (n : Int) * w + w := by rw [Int.add_mul, Int.one_mul]
  rw [Int.mul_comm h w] at b2
  unfold generic_put_loop4_step ref07_Put_loop18_step
  simp only [withP]
  -- one row
  have row : ∀ (e' : EncS), EncAt N (B + 804 * n + 4) e' → Both ((loop (generic_put_loop13 base w p sw sh sp ((n : Nat) : Int)) (0, withP e' w h p ((offs t a b).map ar2))).bind fun q => some (Sum.inl q : _ ⊕ (Int × Int × Int × List Int × List Int × Int × Int × List Int × List Arr2)))
    ((loop (ref07_Put_loop27 base t a b o4 k w h p sw sh sp ((n : Nat) : Int)) (0, e')).bind fun r => some (Sum.inl r : _ ⊕ EncS))
    (StepTo (fun s r => s = withP r w h p ((offs t a b).map ar2) ∧ EncAt N (B + 804 * (n + 1)) r) (fun q r => q = withP r w h p ((offs t a b).map ar2) ∧ EncAt N (B + 804 * 200) r)) := by
   intro e' he'
   refine (put_row ho hb hs hbase hN hy (by omega) he').bind fun q r hqr => .mk ⟨hqr.1, ?_⟩
   rw [show B + 804 * (n + 1) = B + 804 * n + 4 + 800 by omega]
   exact hqr.2
  cases o4 with
  | false =>
   simp only [Bool.false_eq_true, if_false, Option.bind_some, Sum.elim_inl]
   exact row r ⟨hr.1, hr.2.1, by have := hr.2.2; omega⟩
  | true =>
   simp only [if_true]
   rw [above_is hb hs hy, typical_is hb hs hy]
   simp only [Option.bind_some]
   rw [w64 (n := (n : Int) * w) (by omega), w64 (n := (n : Int) + 1) (by omega), w64 (n := ((n : Int) + 1) * w) (by omega)]
   rw [if_pos (by omega), if_pos (by omega), if_pos (by omega), if_pos (by omega), bytes_Equal_eq, contexts_is]
   simp only [Option.bind_some, decide_eq_true_eq]
   have ebit : ∀ c : Prop, [Decidable c] → ((if c then some 1 else some 0) : Option Int) = some (if c then 1 else 0) := fun c _ => by split <;> rfl
   rw [ebit]
   simp only [Option.bind_some]
   generalize hbit : (if rowA w h p sw sh sp (n : Int) = cutL p ((n : Int) * w).toNat (((n : Int) + 1) * w).toNat then (1 : Int) else 0) = bit
   have hb01 : bit = 0 ∨ bit = 1 := by rw [← hbit]; split <;> simp
   rw [w64 (n := base + ctxN t) (by omega), w64 (n := base + (ctxN t + 1)) (by omega), w64 (n := base + (ctxN t + 1) - 1) (by omega), show base + (ctxN t + 1) - 1 = base + ctxN t by omega]
   obtain ⟨s', e1, e2, e3⟩ := put_at hr (c := base + ctxN t) (by omega) hb01 (by omega)
   rw [e1, e2]
   simp only [Option.bind_some]
   by_cases h1 : bit = 1
   ·simp only [h1, if_true, Option.bind_some, Sum.elim_inr]
    exact .mk ⟨rfl, e3.1, e3.2.1, by have := e3.2.2; show s'.2.2.2.2.length ≤ _; omega⟩
   ·simp only [h1, if_false, Option.bind_some, Sum.elim_inl]
    exact row s' e3
 ·obtain ⟨rfl, hr⟩ := hr
  refine .mk ⟨rfl, hr.1, hr.2.1, ?_⟩
  have := hr.2.2
  rw [List.length_range] at this
  show r.2.2.2.2.length ≤ B + 804 * 200
  omega
/-! ### What is written -/
theorem signed_eq (n : Int) (hn : -9223372036854775808 ≤ n ∧ n ≤ 9223372036854775807) : bits_Signed n = ref01_Signed n := by
 rw [bits_Signed_eq, ref01_Signed_eq]
 simp only [size_eq]
 have e1 : ((if decide (n ≥ 0) = true then some (decide (n < 1073741824)) else some false) : Option Bool) = some (decide (0 ≤ n ∧ n < 1073741824)) := by
  simp only [iteD]
  split
  ·refine some_dec ?_; simp only [decide_eq_true_eq]; omega
  ·refine some_dec ?_; simp only [Bool.false_eq_true, false_iff]; omega
 have e2 : ((if decide (n < 0) = true then some (decide (n ≥ -1073741824)) else some false) : Option Bool) = some (decide (n < 0 ∧ -1073741824 ≤ n)) := by
  simp only [iteD]
  split
  ·refine some_dec ?_; simp only [decide_eq_true_eq]; omega
  ·refine some_dec ?_; simp only [Bool.false_eq_true, false_iff]; omega
 have e3 : ((if decide (n < -1073741824) = true then some true else some (decide (n ≥ 1073741824))) : Option Bool) = some (decide (n < -1073741824 ∨ 1073741824 ≤ n)) := by
  simp only [iteD]
  split
  ·refine some_dec ?_; simp only [true_iff]; omega
  ·refine some_dec ?_; simp only [decide_eq_true_eq]; omega
 rw [e1, e2, e3]
 simp only [Option.bind_some, iteD]
 by_cases h1 : 0 ≤ n ∧ n < 1073741824
 ·rw [if_pos h1, if_neg (by omega), if_neg (by omega)]
 ·by_cases h2 : n < 0 ∧ -1073741824 ≤ n
  ·rw [if_neg h1, if_pos h2, if_neg (by omega), if_pos h2.1]
  ·rw [if_neg h1, if_neg h2, if_pos (by omega)]
theorem signed_some (n : Int) : ∃ l e, ref01_Signed n = some (l, e) ∧ l.length ≤ 2147483650 := by
 rw [ref01_Signed_eq]
 have e3 : ((if decide (n < -1073741824) = true then some true else some (decide (n ≥ 1073741824))) : Option Bool) = some (decide (n < -1073741824 ∨ 1073741824 ≤ n)) := by
  simp only [iteD]
  split
  ·refine some_dec ?_; simp only [true_iff]; omega
  ·refine some_dec ?_; simp only [decide_eq_true_eq]; omega
 rw [e3]
 simp only [Option.bind_some, iteD]
 split
 ·exact ⟨[], 2, rfl, by simp⟩
 ·split
  ·obtain ⟨l, e, h, hl, _⟩ := size_some (IntKind.i64.wrap (IntKind.i64.wrap (-2 * n) - 1))
   rw [h]; exact ⟨l, e, rfl, hl⟩
  ·obtain ⟨l, e, h, hl, _⟩ := size_some (IntKind.i64.wrap (2 * n))
   rw [h]; exact ⟨l, e, rfl, hl⟩
theorem wsigned_over (l : List Int) (hl : l.length ≤ 1000) (hr : ∀ x ∈ l, -9223372036854775808 ≤ x ∧ x ≤ 9223372036854775807) (b : List Int) : loop (page_writer_signed_loop1 l) (0, b) =
  overL (fun _ x b => (ref01_Signed x).bind fun q => if (b.length + q.1.length) * 1 ≤ 140737488355328 then some (.inl (b ++ q.1)) else none) some 0 l b := by
 refine loop_over l (fun n b => ((n : Int), b)) _ _ (fun s => ?_) (fun i x s h => ?_) 0 b (by omega)
 ·unfold page_writer_signed_loop1; simp
 ·have hl := lt_len_of_get h
  unfold page_writer_signed_loop1
  simp only [iteD]
  rw [if_pos (by omega), if_pos ⟨by omega, by omega⟩, rd_nat h, signed_eq x (hr x (List.mem_of_getElem? h))]
  cases ref01_Signed x with
  | none => rfl
  | some q =>
   simp only [Option.bind_some]
   split
   ·rw [w64 (by omega)]; rfl
   ·rfl
theorem wsigned2 (x y : Int) {b s t : List Int} {e f : Int} (hx : -9223372036854775808 ≤ x ∧ x ≤ 9223372036854775807) (hy : -9223372036854775808 ≤ y ∧ y ≤ 9223372036854775807) (hs : ref01_Signed x = some (s, e)) (hl : s.length ≤ 2147483650) (ht : ref01_Signed y = some (t, f)) (hm : t.length ≤ 2147483650) (hb : b.length ≤ 50000000000) :
  page_writer_signed [x, y] b = some (b ++ s ++ t) := by
 rw [page_writer_signed_eq, wsigned_over _ (by simp) (by simp; exact ⟨hx, hy⟩)]
 simp only [overL, hs, ht, Option.bind_some]
 rw [if_pos (by omega)]
 simp only
 rw [if_pos (by simp; omega)]
 rfl
/-- lists one behind the other -/
theorem join_is : ∀ (l : List (List Int)) (b : List Int) (n : Nat), b.length + l.flatten.length ≤ 140737488355328 → overL (fun _ (x : List Int) (b : List Int) => if (b.length + x.length) * 1 ≤ 140737488355328 then (some (.inl (b ++ x)) : Option (List Int ⊕ List Int)) else none) some n l b = some (b ++ l.flatten)
 | [], b, n, _ => by simp [overL]
 | x :: l, b, n, h => by
  simp only [List.flatten_cons, List.length_append] at h
  rw [overL_next (s' := b ++ x) (by rw [if_pos (by omega)]), join_is l (b ++ x) (n + 1) (by rw [List.length_append]; omega)]
  simp
theorem join_all (l : List (List Int)) (hl : l.length ≤ 1000) (h : l.flatten.length ≤ 140737488355328) : ref13_join l = some l.flatten := by
 rw [ref13_join_eq, join_over _ hl, join_is l [] 0 (by simpa using h)]
 rfl
theorem byte_is : ∀ (l : List Int) (b : List Int) (n : Nat), b.length + l.length ≤ 140737488355328 → overL (fun _ (x : Int) (b : List Int) => if (b.length + 1) * 1 ≤ 140737488355328 then (some (.inl (b ++ [IntKind.u8.wrap x])) : Option (List Int ⊕ List Int)) else none) some n l b = some (b ++ l.map IntKind.u8.wrap)
 | [], b, n, _ => by simp [overL]
 | x :: l, b, n, h => by
  simp only [List.length_cons] at h
  rw [overL_next (s' := b ++ [IntKind.u8.wrap x]) (by rw [if_pos (by omega)]), byte_is l _ (n + 1) (by rw [List.length_append, List.length_singleton]; omega)]
  simp
theorem byte_all (l : List Int) (b : List Int) (hl : l.length ≤ 1000) (h : b.length ≤ 100000000000) : page_writer_byte l b = some (b ++ l.map IntKind.u8.wrap) := by
 rw [page_writer_byte_eq, byte_over _ hl, byte_is l b 0 (by omega)]; rfl
/-! ### Begins -/
def BeginOk (w h x y op : Int) : Prop := (0 ≤ w ∧ 0 ≤ h ∧ w ≤ 200 ∧ h ≤ 200 ∧ w * h ≤ 8192) ∧ -100000 ≤ x ∧ x ≤ 100000 ∧ -100000 ≤ y ∧ y ≤ 100000 ∧ 0 ≤ op ∧ op ≤ 4
instance (w h x y op : Int) : Decidable (BeginOk w h x y op) := by unfold BeginOk; infer_instance
theorem rightBegin_is (w h x y op : Int) (hid : Bool) : page_rightBegin w h x y op hid = some (decide (BeginOk w h x y op)) := by
 obtain ⟨a, b, c, e, h1, h2⟩ := new_err w h
 rw [page_rightBegin_eq, h1]
 rw [Sides_is] at h2
 have h3 : (e = 0) = (sidesB w h = true) := by have := Option.some.inj h2; rw [this, decide_eq_true_eq]
 simp only [Option.bind_some, iteD]
 rw [page_near_eq, page_near_eq]
 simp only [iteD]
 simp only [h3, sidesB_iff]
 by_cases hs : 0 ≤ w ∧ 0 ≤ h ∧ w ≤ 200 ∧ h ≤ 200 ∧ w * h ≤ 8192
 ·rw [if_pos hs]
  by_cases g1 : x ≥ -100000
  ·by_cases g2 : x ≤ 100000
   ·by_cases g3 : y ≥ -100000
    ·by_cases g4 : y ≤ 100000
     ·simp only [g1, g2, g3, g4, if_true, decide_true, Option.bind_some]
      split
      ·refine some_dec ?_; unfold BeginOk; simp only [decide_eq_true_eq]; exact ⟨fun q => ⟨hs, by omega, by omega, by omega, by omega, by omega, q⟩, fun q => q.2.2.2.2.2.2⟩
      ·refine some_dec ?_; unfold BeginOk; simp only [Bool.false_eq_true, false_iff]; omega
     ·simp only [g1, g2, g3, g4, if_true, decide_true, decide_false, Bool.false_eq_true, if_false, Option.bind_some]
      refine some_dec ?_; unfold BeginOk; simp only [Bool.false_eq_true, false_iff]; omega
    ·simp only [g1, g2, g3, if_true, decide_true, Bool.false_eq_true, if_false, Option.bind_some]
     refine some_dec ?_; unfold BeginOk; simp only [Bool.false_eq_true, false_iff]; omega
   ·simp only [g1, g2, if_true, decide_false, Bool.false_eq_true, if_false, Option.bind_some]
    refine some_dec ?_; unfold BeginOk; simp only [Bool.false_eq_true, false_iff]; omega
  ·simp only [g1, Bool.false_eq_true, if_false, Option.bind_some]
   refine some_dec ?_; unfold BeginOk; simp only [Bool.false_eq_true, false_iff]; omega
 ·rw [if_neg hs]
  refine some_dec ?_; unfold BeginOk; simp only [Bool.false_eq_true, false_iff]; exact fun q => hs q.1
theorem isBegin_is (w h x y op : Int) (hid : Bool) : ref13_isBegin w h x y op hid = some (decide (BeginOk w h x y op)) := by
 rw [ref13_isBegin_eq, Sides_is]
 simp only [Option.bind_some]
 have e1 : ((if (!sidesB w h) = true then some true else if decide (op < 0) = true then some true else some (decide (op > 4))) : Option Bool) = some (decide (¬ ((0 ≤ w ∧ 0 ≤ h ∧ w ≤ 200 ∧ h ≤ 200 ∧ w * h ≤ 8192) ∧ 0 ≤ op ∧ op ≤ 4))) := by
  simp only [iteD]
  by_cases hs : sidesB w h = true
  ·rw [if_neg (by simp [hs])]
   rw [sidesB_iff] at hs
   split
   ·refine some_dec ?_; simp only [true_iff]; omega
   ·refine some_dec ?_; simp only [decide_eq_true_eq]; exact ⟨fun q r => by omega, fun q => by
     rcases Int.lt_or_le 4 op with r | r
     ·exact r
     ·exact absurd ⟨hs, by omega, r⟩ q⟩
  ·rw [if_pos (by simp [hs])]
   rw [sidesB_iff] at hs
   refine some_dec ?_; simp only [true_iff]; exact fun q => hs q.1
 rw [e1]
 simp only [Option.bind_some, iteD]
 by_cases hq : ¬ ((0 ≤ w ∧ 0 ≤ h ∧ w ≤ 200 ∧ h ≤ 200 ∧ w * h ≤ 8192) ∧ 0 ≤ op ∧ op ≤ 4)
 ·rw [if_pos hq]
  refine some_dec ?_; unfold BeginOk; simp only [Bool.false_eq_true, false_iff]; exact fun r => hq ⟨r.1, by omega, by omega⟩
 ·rw [if_neg hq]
  have hq := Decidable.not_not.1 hq
  repeat' split
  all_goals
   refine some_dec ?_
   unfold BeginOk
   simp only [decide_eq_true_eq, Bool.false_eq_true, true_iff, false_iff]
   omega
/-- the bytes of a begin -/
theorem begin_is {w h x y op : Int} {hid : Bool} (hb : BeginOk w h x y op) : ∃ l, page_writer_begin w h x y op hid [] = some l ∧ ref13_begin w h x y op hid = some l ∧ l.length ≤ 10000000000 := by
 obtain ⟨_, x1, x2, y1, y2, o1, o2⟩ := hb
 obtain ⟨s, e1, hs1, hl1, _⟩ := size_some w
 obtain ⟨t, e2, hs2, hl2, _⟩ := size_some h
 obtain ⟨u, e3, hs3, hl3⟩ := signed_some x
 obtain ⟨v, e4, hs4, hl4⟩ := signed_some y
 rw [page_writer_begin_eq, writer2 w h hs1 hl1 hs2 hl2]
 simp only [Option.bind_some]
 rw [wsigned2 x y (by omega) (by omega) hs3 hl3 hs4 hl4 (by rw [List.length_append]; omega), page_flag_eq]
 rw [ref13_begin_eq, ref13_size_eq, ref13_size_eq, ref13_signed_eq, ref13_signed_eq, hs1, hs2, hs3, hs4, ref13_bit_eq]
 have ef : ((if hid = true then some 8 else some 0) : Option Int) = some (if hid = true then 8 else 0) := by split <;> rfl
 have eb : ((if hid = true then some 1 else some 0) : Option Int) = some (if hid = true then 1 else 0) := by split <;> rfl
 rw [ef, eb]
 simp only [Option.bind_some]
 have ew : IntKind.i64.wrap (op + IntKind.i64.wrap (8 * (if hid = true then 1 else 0))) = IntKind.i64.wrap (op + (if hid = true then 8 else 0)) := by
  split
  ·rw [w64 (n := 8 * 1) (by omega)]; rfl
  ·rw [w64 (n := 8 * 0) (by omega)]; rfl
 rw [ew, byte_all _ _ (by simp) (by simp; omega), join_all _ (by simp) (by simp; omega)]
 refine ⟨_, rfl, by simp, by simp; omega⟩
theorem flag_is (b : Bool) (n : Int) : page_flag b n = some (if b = true then n else 0) := by rw [page_flag_eq]; split <;> rfl
theorem bit_is (b : Bool) : ref13_bit b = some (if b = true then 1 else 0) := by rw [ref13_bit_eq]; split <;> rfl
theorem with_bad {c b : List Int} {e : Int} (he : e ≠ 0) : page_writer_with c e b = some ([], e) := by rw [page_writer_with_eq, if_pos (by simp [he])]
theorem with_ok {c b : List Int} (h : b.length + c.length ≤ 140737488355328) : page_writer_with c 0 b = some (b ++ c, 0) := by rw [page_writer_with_eq, if_neg (by simp), if_pos (by omega)]
theorem good_int {n : Int} (h : V.Good E (.int .i64 n)) : -9223372036854775808 ≤ n ∧ n ≤ 9223372036854775807 := by
 cases h with
 | int h => simpa [IntKind.has, IntKind.min, IntKind.max, IntKind.signed, IntKind.bits] using h
theorem good_u8 {l : List Int} (h : V.Good E (.ints .u8 l)) : ∀ x ∈ l, 0 ≤ x := by
 cases h with
 | ints h _ => intro x hx; have := h x hx; simp [IntKind.has, IntKind.min, IntKind.max, IntKind.signed, IntKind.bits] at this; omega
theorem bmp0 : Bmp 0 0 [] := ⟨by decide, by decide, by decide, by decide, by decide, by decide, by simp⟩
theorem skip0 (w h : Int) : SkipOk w h 0 0 [] := ⟨bmp0, .inl ⟨rfl, rfl⟩⟩
/-- the end of a code: both the same, and not long -/
theorem end_at {N B : Nat} {s : EncS} (h : EncAt N B s) (hB : B ≤ 1000000000) : ∃ c, coder_Encoder_End s.1 s.2.1 s.2.2.1 s.2.2.2.1 s.2.2.2.2 = some (c, s) ∧ ref02_Encoder_End s.1 s.2.1 s.2.2.1 s.2.2.2.1 s.2.2.2.2 = some (c, s) ∧ c.length ≤ B + 4 := by
 obtain ⟨h1, h2, h3⟩ := h
 have hr := refEnd_is (kind := s.1) (st := s.2.2.2.1) (out := s.2.2.2.2) h1.iv (by omega)
 refine ⟨_, (end_is h1.iv (by omega)).trans hr, hr, ?_⟩
 have := (endN_is h1.iv).1
 rw [List.length_append, tbl_len]; omega
/-- a new encoder of a new model of n contexts -/
theorem fresh_at {k n : Int} (hk : k = 0 ∨ k = 1) (h0 : 0 ≤ n) (h1 : n ≤ 8192) : EncAt n.toNat 0 (k, 0, 4294967295, List.replicate n.toNat 0, []) :=
 ⟨(newEncoder_is hk (by simp; omega) (new_states hk _)).2.2, by simp, by simp⟩
theorem IsSize_is (w h : Int) : ref06_IsSize w h = some (sidesB w h) := by
 rw [ref06_IsSize_eq]
 unfold sidesB
 simp only [iteD]
 by_cases h0 : w ≥ 0 <;> by_cases h1 : h ≥ 0 <;> by_cases h2 : w ≤ 200 <;> by_cases h3 : h ≤ 200 <;> simp only [h0, h1, h2, h3, if_true, if_false, false_and, and_false, true_and, decide_false, show (0 ≤ w) = (w ≥ 0) from rfl, show (0 ≤ h) = (h ≥ 0) from rfl]
 obtain ⟨a, b⟩ := mul_small h0 h1 h2 h3
 rw [w64 (by omega)]
theorem IsBitmap_is {w h : Int} {p : List Int} (hl : p.length ≤ 9223372036854775807) : ref06_IsBitmap w h p = some (bmpB w h p) := by
 rw [ref06_IsBitmap_eq, IsSize_is]
 unfold bmpB
 simp only [Option.bind_some]
 by_cases hs : sidesB w h = true
 ·obtain ⟨a, b, c, d, e⟩ := sidesB_iff.1 hs
  obtain ⟨m0, m1⟩ := mul_small a b c d
  rw [w64 (by omega), hs, ref06_IsRow_eq, ref06_IsRow_loop2_over p hl (), overL_all (fun x => decide (x ≤ 1)) (a := Sum.inr false)]
  ·by_cases hq : (p.length : Int) = w * h
   ·by_cases ha : (p.all fun x => decide (x ≤ 1)) = true
    ·simp [hq, ha]
    ·simp [hq, ha]
   ·simp [hq]
  ·intro n x
   unfold ref06_IsRow_loop2_step
   simp only [iteD]
   by_cases hx : x > 1
   ·rw [if_pos hx, if_neg (by omega)]
   ·rw [if_neg hx, if_pos (by omega)]
 ·simp [hs]
def RefOk (t dx dy k : Int) : Prop := (t = 0 ∨ t = 1) ∧ (k = 0 ∨ k = 1) ∧ -200 ≤ dx ∧ dx ≤ 200 ∧ -200 ≤ dy ∧ dy ≤ 200
instance (t dx dy k : Int) : Decidable (RefOk t dx dy k) := by unfold RefOk; infer_instance
theorem refineValid_is (t dx dy : Int) (o4 : Bool) (k : Int) : refine_Valid t dx dy o4 k = some (decide (RefOk t dx dy k)) := by
 rw [refine_Valid_eq]
 simp only [iteD, imax_eq, imin_eq, w64s]
 repeat' split
 all_goals
  refine some_dec ?_
  unfold RefOk
  simp only [decide_eq_true_eq, Bool.false_eq_true, true_iff, false_iff]
  omega
theorem ref08Valid_is (t dx dy : Int) (o4 : Bool) (k : Int) : ref08_Valid t dx dy o4 k = some (decide (RefOk t dx dy k)) := by
 rw [ref08_Valid_eq]
 have e1 : ((if decide (dx ≥ -200) = true then (if decide (dx ≤ 200) = true then (if decide (dy ≥ -200) = true then some (decide (dy ≤ 200)) else some false) else some false) else some false) : Option Bool) = some (decide (-200 ≤ dx ∧ dx ≤ 200 ∧ -200 ≤ dy ∧ dy ≤ 200)) := by
  simp only [iteD]
  repeat' split
  all_goals
   refine some_dec ?_
   simp only [decide_eq_true_eq, Bool.false_eq_true, true_iff, false_iff]
   omega
 rw [e1]
 simp only [Option.bind_some, iteD]
 repeat' split
 all_goals
  refine some_dec ?_
  unfold RefOk
  simp only [decide_eq_true_eq, Bool.false_eq_true, true_iff, false_iff]
  omega
theorem grid_pix : refine_grid_at = ref06_Pix := by
 funext a b c d e
 rw [refine_grid_at_eq, ref06_Pix_eq]
theorem Pix_is {w h : Int} {p : List Int} (hb : Bmp w h p) (x y : Int) : ref06_Pix w h p x y = some (pixA w h p x y) := by
 have := plane_at_is (ar := []) hb x y
 rw [generic_plane_at_eq] at this
 rw [ref06_Pix_eq]
 cases hq : ((if decide (x < 0) = true then some true else if decide (y < 0) = true then some true else if decide (x ≥ w) = true then some true else some (decide (y ≥ h))) : Option Bool) with
 | none => rw [hq] at this; simp at this
 | some v =>
  rw [hq] at this
  cases v with
  | true => simp only [Option.bind_some, if_true, Option.some.injEq, Prod.mk.injEq] at this ⊢; exact this.1
  | false =>
   simp only [Option.bind_some, Bool.false_eq_true, if_false] at this ⊢
   split at this
   ·rename_i hi; rw [if_pos hi]; simp only [Option.some.injEq, Prod.mk.injEq] at this ⊢; exact this.1
   ·cases this
/-! ### Contexts -/
def newL (t : Int) : List (Int × Int) := if t = 0 then [(-1, -1), (0, -1), (1, -1), (-1, 0)] else [(0, -1), (-1, 0)]
def besL : List (Int × Int) := [(0, 0), (-1, 0), (1, 0), (0, -1), (0, 1)]
def rctxN (t : Int) : Int := if t = 0 then 512 else 128
theorem newL_small (t : Int) : (newL t).length ≤ 4 ∧ ∀ d ∈ newL t, -8 ≤ d.1 ∧ d.1 ≤ 8 ∧ -8 ≤ d.2 ∧ d.2 ≤ 8 := by
 unfold newL
 split <;> decide
theorem rfresh_is (t : Int) : refine_fresh t = some ((newL t).map ar2) := by
 rw [refine_fresh_eq]
 unfold newL
 simp only [iteD]
 by_cases h : t = 0 <;> simp [h, ar2]
theorem rcontexts_is (t : Int) : refine_contexts t = some (rctxN t) := by
 rw [refine_contexts_eq, rfresh_is]
 simp only [Option.bind_some, List.length_map]
 rw [if_neg (by omega)]
 congr 1
 unfold newL rctxN
 split <;> decide
theorem ctxLoopF {F : Int × Int → Option ((Int × Int) ⊕ Int)} {w h : Int} {p : List Int} {x y : Int} (hb : Bmp w h p) (L : List (Int × Int))
  (hstep : ∀ (k : Nat) d n, L[k]? = some d → 0 ≤ n → n ≤ 1099511627776 → F (n, (k : Int)) = some (.inl (2 * n + pixA w h p (x + d.1) (y + d.2), ((k + 1 : Nat) : Int)))) (hend : ∀ n, F (n, (L.length : Int)) = some (.inr n)) :
  ∀ (l : List (Int × Int)) (n : Int) (k m : Nat), L.drop k = l → k + l.length = L.length → 0 ≤ n → n < 2 ^ m → m + l.length ≤ 40 → loop F (n, (k : Int)) = some (ctxV w h p x y l n)
 | [], n, k, m, hk, hl, h0, h1, _ => by
  rw [List.length_nil, Nat.add_zero] at hl
  rw [hl]
  exact loop_done (hend n)
 | d :: l, n, k, m, hk, hl, h0, h1, hm => by
  have hp := hb.pix (x := x + d.1) (y := y + d.2)
  have hget : L[k]? = some d := by
   have : (L.drop k)[0]? = some d := by rw [hk]; rfl
   simpa using this
  simp only [List.length_cons] at hl hm
  have hs := pow_small (m := m) (by omega)
  rw [loop_step (hstep k d n hget h0 (by omega))]
  rw [ctxLoopF hb L hstep hend l _ (k + 1) (m + 1) (by rw [← List.drop_drop, hk]; rfl) (by omega) (by omega) (by rw [Int.pow_succ]; omega) (by omega)]
  rfl
def rctx (t dx dy w h : Int) (p : List Int) (rw rh : Int) (rp : List Int) (x y : Int) : Int := ctxV rw rh rp (x - dx) (y - dy) besL (ctxV w h p x y (newL t) 0)
theorem rctx_range {t dx dy w h rw rh : Int} {p rp : List Int} (hb : Bmp w h p) (hr : Bmp rw rh rp) (x y : Int) : 0 ≤ rctx t dx dy w h p rw rh rp x y ∧ rctx t dx dy w h p rw rh rp x y < rctxN t := by
 have h1 := ctxV_range hb (x := x) (y := y) (newL t) 0 0 (by decide) (by decide)
 have h2 := ctxV_range hr (x := x - dx) (y := y - dy) besL _ _ h1.1 h1.2
 refine ⟨h2.1, ?_⟩
 have e : (2 : Int) ^ (0 + (newL t).length + besL.length) = rctxN t := by
  unfold newL rctxN
  split <;> decide
 rw [← e]; exact h2.2
theorem getL_len {α : Type} {l : List α} {k : Nat} {a : α} (h : l[k]? = some a) : k < l.length := lt_len_of_get h
theorem region_context_is {t dx dy k w h rw rh : Int} {p rp : List Int} {o4 : Bool} (ho : RefOk t dx dy k) (hb : Bmp w h p) (hr : Bmp rw rh rp) {x y : Int} (hx : -1000 ≤ x ∧ x ≤ 1000) (hy : -1000 ≤ y ∧ y ≤ 1000) :
  refine_region_context x y t dx dy o4 k w h p rw rh rp = some (rctx t dx dy w h p rw rh rp x y, t, dx, dy, o4, k, w, h, p, rw, rh, rp) := by
 obtain ⟨n1, n2⟩ := newL_small t
 obtain ⟨_, _, d1, d2, d3, d4⟩ := ho
 rw [refine_region_context_eq, rfresh_is, refine_beside_eq]
 simp only [Option.bind_some]
 have l1 := ctxLoopF (F := refine_region_context_loop3 x y w h p ((newL t).map ar2)) (x := x) (y := y) hb (newL t) (fun k d n hk h0 h1 => by
   have hk' := getL_len hk
   obtain ⟨q1, q2, q3, q4⟩ := n2 d (List.mem_of_getElem? hk)
   have hp := hb.pix (x := x + d.1) (y := y + d.2)
   unfold refine_region_context_loop3
   simp only [List.length_map, Int.toNat_natCast, List.getElem?_map, hk, Option.map_some, Option.bind_some, ar2, grid_pix]
   rw [if_pos (by simp; omega), if_pos (by omega), if_pos (by decide), if_pos (by decide), w64 (n := x + d.1) (by omega), w64 (n := y + d.2) (by omega), Pix_is hb]
   simp only [Option.bind_some]
   rw [w64 (n := 2 * n) (by omega), w64 (n := (k : Int) + 1) (by omega), w64 (n := pixA w h p (x + d.1) (y + d.2)) (by omega), w64 (by omega)]
   rfl) (fun n => by
   unfold refine_region_context_loop3
   simp only [List.length_map]
   rw [if_neg (by simp)]) (newL t) 0 0 0 rfl (by simp) (by decide) (by decide) (by omega)
 rw [show ((0 : Int), (0 : Int)) = (0, ((0 : Nat) : Int)) from rfl, l1]
 simp only [Option.bind_some]
 have r1 := ctxV_range hb (x := x) (y := y) (newL t) 0 0 (by decide) (by decide)
 have l2 := ctxLoopF (F := refine_region_context_loop8 x y dx dy rw rh rp (besL.map ar2)) (x := x - dx) (y := y - dy) hr besL (fun k d n hk h0 h1 => by
   have hk' := getL_len hk
   obtain ⟨q1, q2, q3, q4⟩ : -8 ≤ d.1 ∧ d.1 ≤ 8 ∧ -8 ≤ d.2 ∧ d.2 ≤ 8 := (show ∀ d ∈ besL, -8 ≤ d.1 ∧ d.1 ≤ 8 ∧ -8 ≤ d.2 ∧ d.2 ≤ 8 by decide) d (List.mem_of_getElem? hk)
   have hp := hr.pix (x := x - dx + d.1) (y := y - dy + d.2)
   unfold refine_region_context_loop8
   simp only [List.length_map, Int.toNat_natCast, List.getElem?_map, hk, Option.map_some, Option.bind_some, ar2, grid_pix]
   rw [if_pos (by simp; omega), if_pos (by omega), if_pos (by decide), if_pos (by decide), w64 (n := x - dx) (by omega), w64 (n := y - dy) (by omega), w64 (n := x - dx + d.1) (by omega), w64 (n := y - dy + d.2) (by omega), Pix_is hr]
   simp only [Option.bind_some]
   rw [w64 (n := 2 * n) (by omega), w64 (n := (k : Int) + 1) (by have : besL.length = 5 := rfl; omega), w64 (n := pixA rw rh rp (x - dx + d.1) (y - dy + d.2)) (by omega), w64 (by omega)]
   rfl) (fun n => by
   unfold refine_region_context_loop8
   simp only [List.length_map]
   rw [if_neg (by simp)]) besL (ctxV w h p x y (newL t) 0) 0 _ rfl rfl r1.1 r1.2 (by have : besL.length = 5 := rfl; omega)
 rw [show ((0 : Nat) : Int) = 0 from rfl] at l2
 rw [show [(Arr2.mk 0 0), (Arr2.mk (-1) 0), (Arr2.mk 1 0), (Arr2.mk 0 (-1)), (Arr2.mk 0 1)] = besL.map ar2 from rfl, l2]
 rfl
theorem ref08Context_is {t dx dy k w h rw rh : Int} {p rp : List Int} {o4 : Bool} (ho : RefOk t dx dy k) (hb : Bmp w h p) (hr : Bmp rw rh rp) {x y : Int} (hx : -1000 ≤ x ∧ x ≤ 1000) (hy : -1000 ≤ y ∧ y ≤ 1000) :
  ref08_Context t dx dy o4 k w h p rw rh rp x y = some (rctx t dx dy w h p rw rh rp x y) := by
 obtain ⟨n1, n2⟩ := newL_small t
 obtain ⟨ht, _, d1, d2, d3, d4⟩ := ho
 rw [ref08_Context_eq]
 have e0 : ((if decide (t = 1) = true then some [(Arr2.mk 0 (-1)), (Arr2.mk (-1) 0)] else some [(Arr2.mk (-1) (-1)), (Arr2.mk 0 (-1)), (Arr2.mk 1 (-1)), (Arr2.mk (-1) 0)]) : Option (List Arr2)) = some ((newL t).map ar2) := by
  unfold newL
  rcases ht with rfl | rfl <;> rfl
 rw [e0]
 simp only [Option.bind_some]
 have l1 := ctxLoopF (F := ref08_Context_loop6 w h p x y ((newL t).map ar2)) (x := x) (y := y) hb (newL t) (fun k d n hk h0 h1 => by
   have hk' := getL_len hk
   obtain ⟨q1, q2, q3, q4⟩ := n2 d (List.mem_of_getElem? hk)
   have hp := hb.pix (x := x + d.1) (y := y + d.2)
   unfold ref08_Context_loop6
   simp only [List.length_map, Int.toNat_natCast, List.getElem?_map, hk, Option.map_some, Option.bind_some, ar2]
   rw [if_pos (by simp; omega), if_pos (by omega), if_pos (by decide), if_pos (by decide), w64 (n := x + d.1) (by omega), w64 (n := y + d.2) (by omega), Pix_is hb]
   simp only [Option.bind_some]
   rw [w64 (n := 2 * n) (by omega), w64 (n := (k : Int) + 1) (by omega), w64 (n := pixA w h p (x + d.1) (y + d.2)) (by omega), w64 (by omega)]
   rfl) (fun n => by
   unfold ref08_Context_loop6
   simp only [List.length_map]
   rw [if_neg (by simp)]) (newL t) 0 0 0 rfl (by simp) (by decide) (by decide) (by omega)
 rw [show ((0 : Int), (0 : Int)) = (0, ((0 : Nat) : Int)) from rfl, l1]
 simp only [Option.bind_some]
 have r1 := ctxV_range hb (x := x) (y := y) (newL t) 0 0 (by decide) (by decide)
 have l2 := ctxLoopF (F := ref08_Context_loop11 dx dy rw rh rp x y) (x := x - dx) (y := y - dy) hr besL (fun k d n hk h0 h1 => by
   have hk' := getL_len hk
   obtain ⟨q1, q2, q3, q4⟩ : -8 ≤ d.1 ∧ d.1 ≤ 8 ∧ -8 ≤ d.2 ∧ d.2 ≤ 8 := (show ∀ d ∈ besL, -8 ≤ d.1 ∧ d.1 ≤ 8 ∧ -8 ≤ d.2 ∧ d.2 ≤ 8 by decide) d (List.mem_of_getElem? hk)
   have hp := hr.pix (x := x - dx + d.1) (y := y - dy + d.2)
   unfold ref08_Context_loop11
   rw [show [(Arr2.mk 0 0), (Arr2.mk (-1) 0), (Arr2.mk 1 0), (Arr2.mk 0 (-1)), (Arr2.mk 0 1)] = besL.map ar2 from rfl]
   simp only [List.length_map, Int.toNat_natCast, List.getElem?_map, hk, Option.map_some, Option.bind_some, ar2]
   rw [if_pos (by simp; omega), if_pos (by omega), if_pos (by decide), if_pos (by decide), w64 (n := x - dx) (by omega), w64 (n := y - dy) (by omega), w64 (n := x - dx + d.1) (by omega), w64 (n := y - dy + d.2) (by omega), Pix_is hr]
   simp only [Option.bind_some]
   rw [w64 (n := 2 * n) (by omega), w64 (n := (k : Int) + 1) (by have : besL.length = 5 := rfl; omega), w64 (n := pixA rw rh rp (x - dx + d.1) (y - dy + d.2)) (by omega), w64 (by omega)]
   rfl) (fun n => by
   unfold ref08_Context_loop11
   rw [if_neg (by simp [besL])]) besL (ctxV w h p x y (newL t) 0) 0 _ rfl rfl r1.1 r1.2 (by have : besL.length = 5 := rfl; omega)
 rw [show ((0 : Nat) : Int) = 0 from rfl] at l2
 rw [l2]
 rfl
/-! ### Nine that are alike -/
theorem flat_loop_eq (x y dx dy rw rh : Int) (rp : List Int) (c : Int) : refine_region_flat_loop3 x y dx dy rw rh rp c = ref08_Alike_loop3 dx dy rw rh rp x y c := by
 funext i
 unfold refine_region_flat_loop3 ref08_Alike_loop3
 rw [grid_pix]
theorem flat_is (t dx dy k w h rw rh x y : Int) (p rp : List Int) (o4 : Bool) : refine_region_flat x y t dx dy o4 k w h p rw rh rp = (ref08_Alike t dx dy o4 k rw rh rp x y).bind fun q => some (q.1, q.2, t, dx, dy, o4, k, w, h, p, rw, rh, rp) := by
 rw [refine_region_flat_eq, ref08_Alike_eq, grid_pix]
 simp only [flat_loop_eq, Option.bind_assoc]
 congr 1
 funext c
 congr 1
 funext o
 cases o <;> rfl
theorem overL_some {X S A : Type} {f : Nat → X → S → Option (S ⊕ A)} {fin : S → Option A} : ∀ (l : List X) (n : Nat) (s : S), (∀ k x s, k < l.length → ∃ r, f (n + k) x s = some r) → (∀ s, ∃ a, fin s = some a) → ∃ a, overL f fin n l s = some a
 | [], n, s, _, hf => by rw [overL_nil]; exact hf s
 | x :: l, n, s, h, hf => by
  obtain ⟨r, hr⟩ := h 0 x s (by simp)
  rw [Nat.add_zero] at hr
  cases r with
  | inl s' =>
   rw [overL_next hr]
   exact overL_some l (n + 1) s' (fun k x s hk => by
    have := h (k + 1) x s (by simpa using hk)
    rwa [show n + (k + 1) = n + 1 + k by omega] at this) hf
  | inr a => exact ⟨a, overL_exit hr⟩
theorem alike_some {t dx dy k rw rh : Int} {rp : List Int} {o4 : Bool} (ho : RefOk t dx dy k) (hr : Bmp rw rh rp) {x y : Int} (hx : -1000 ≤ x ∧ x ≤ 1000) (hy : -1000 ≤ y ∧ y ≤ 1000) :
  ∃ q, ref08_Alike t dx dy o4 k rw rh rp x y = some q := by
 obtain ⟨_, _, d1, d2, d3, d4⟩ := ho
 rw [ref08_Alike_eq, w64 (n := x - dx) (by omega), w64 (n := y - dy) (by omega)]
 simp only
 rw [Pix_is hr]
 simp only [Option.bind_some]
 obtain ⟨a, ha⟩ := overL_some (f := ref08_Alike_loop3_step dx dy rw rh rp x y (pixA rw rh rp (x - dx) (y - dy))) (fin := fun _ => some (Sum.inl ())) (List.range 9) 0 () (fun k z s hk => by
  rw [List.length_range] at hk
  unfold ref08_Alike_loop3_step
  simp only [Nat.zero_add]
  rw [Pix_is hr]
  simp only [Option.bind_some]
  split
  ·exact ⟨_, rfl⟩
  ·exact ⟨_, rfl⟩) (fun _ => ⟨_, rfl⟩)
 rw [ref08_Alike_loop3_over _ _ _ _ _ _ _ _ (by decide) (), ha]
 cases a <;> exact ⟨_, rfl⟩
theorem row_some {t dx dy k w h rw rh : Int} {p rp : List Int} {o4 : Bool} (ho : RefOk t dx dy k) (hb : Bmp w h p) (hr : Bmp rw rh rp) {y : Int} (hy : -1000 ≤ y ∧ y ≤ 1000) :
  ∃ q, ref08_Row t dx dy o4 k w h p rw rh rp y = some q := by
 have hw := hb.1
 have hw2 := hb.2.2.1
 rw [ref08_Row_eq]
 obtain ⟨a, ha⟩ := overL_some (f := ref08_Row_loop2_step t dx dy o4 k w h p rw rh rp y) (fin := fun _ => some (Sum.inl ())) (List.range w.toNat) 0 () (fun j z s hk => by
  rw [List.length_range] at hk
  unfold ref08_Row_loop2_step
  simp only [Nat.zero_add]
  obtain ⟨q, hq⟩ := alike_some (o4 := o4) ho hr (x := (j : Int)) (y := y) (by omega) hy
  rw [hq, Pix_is hb]
  simp only [Option.bind_some]
  split
  ·split <;> exact ⟨_, rfl⟩
  ·exact ⟨_, rfl⟩) (fun _ => ⟨_, rfl⟩)
 rw [ref08_Row_loop2_over _ _ _ _ _ _ _ _ _ _ _ _ (by rw [List.length_range]; omega) (), ha]
 cases a <;> exact ⟨_, rfl⟩
theorem typicalR_is {t dx dy k w h rw rh : Int} {p rp : List Int} {o4 : Bool} (ho : RefOk t dx dy k) (hb : Bmp w h p) (hr : Bmp rw rh rp) {y : Int} (hy : -1000 ≤ y ∧ y ≤ 1000) :
  refine_region_typical y t dx dy o4 k w h p rw rh rp = (ref08_Row t dx dy o4 k w h p rw rh rp y).bind fun q => some (q, t, dx, dy, o4, k, w, h, p, rw, rh, rp) := by
 have hw := hb.1
 have hw2 := hb.2.2.1
 rw [refine_region_typical_eq, ref08_Row_eq]
 have l1 := refine_region_typical_loop2_over y w (by rw [List.length_range]; omega) (t, dx, dy, o4, k, w, h, p, rw, rh, rp)
 simp only at l1
 rw [l1, ref08_Row_loop2_over _ _ _ _ _ _ _ _ _ _ _ _ (by rw [List.length_range]; omega) ()]
 obtain ⟨a, b, e1, e2, hq⟩ := overL_both (f := refine_region_typical_loop2_step y) (g := ref08_Row_loop2_step t dx dy o4 k w h p rw rh rp y) (fin := fun s => some (Sum.inl s)) (fin' := fun _ => some (Sum.inl ()))
  (fun _ s _ => s = (t, dx, dy, o4, k, w, h, p, rw, rh, rp)) (fun q r => q = Sum.elim (fun _ => Sum.inl (t, dx, dy, o4, k, w, h, p, rw, rh, rp)) (fun v => Sum.inr (v, t, dx, dy, o4, k, w, h, p, rw, rh, rp)) r) (List.range w.toNat) 0 (t, dx, dy, o4, k, w, h, p, rw, rh, rp) () (fun j z s u hj hs => by
   have hk := lt_len_of_get hj
   rw [List.length_range] at hk
   rw [Nat.zero_add]
   subst hs
   unfold refine_region_typical_loop2_step ref08_Row_loop2_step
   simp only [flat_is]
   obtain ⟨q, hq⟩ := alike_some (o4 := o4) ho hr (x := (j : Int)) (y := y) (by omega) hy
   rw [hq, grid_pix]
   simp only [Option.bind_some, Pix_is hb]
   by_cases h1 : q.2 = true
   ·simp only [h1, if_true]
    by_cases h2 : q.1 = pixA w h p (j : Int) y
    ·simp only [h2, decide_true, Bool.not_true, Bool.false_eq_true, if_false]
     exact .mk rfl
    ·have h3 : ¬ pixA w h p (j : Int) y = q.1 := fun e => h2 e.symm
     simp only [h2, h3, decide_false, Bool.not_false, if_true]
     exact .mk rfl
   ·simp only [h1, if_false]
    exact .mk rfl) (fun s u hs => by subst hs; exact .mk rfl) rfl
 have e1' : overL (refine_region_typical_loop2_step y) (fun (s45 : Int × Int × Int × Bool × Int × Int × Int × (List Int) × Int × Int × (List Int)) => some (Sum.inl (s45.1, s45.2.1, s45.2.2.1, s45.2.2.2.1, s45.2.2.2.2.1, s45.2.2.2.2.2.1, s45.2.2.2.2.2.2.1, s45.2.2.2.2.2.2.2.1, s45.2.2.2.2.2.2.2.2.1, s45.2.2.2.2.2.2.2.2.2.1, s45.2.2.2.2.2.2.2.2.2.2))) 0 (List.range w.toNat) (t, dx, dy, o4, k, w, h, p, rw, rh, rp) = some a := e1
 rw [e1', e2]
 subst hq
 cases b <;> rfl
/-! ### Puts -/
def withR (e : EncS) (t dx dy : Int) (o4 : Bool) (k w h : Int) (p : List Int) (rw rh : Int) (rp : List Int) : Int × Int × Int × List Int × List Int × Int × Int × Int × Bool × Int × Int × Int × List Int × Int × Int × List Int :=
 (e.1, e.2.1, e.2.2.1, e.2.2.2.1, e.2.2.2.2, t, dx, dy, o4, k, w, h, p, rw, rh, rp)
theorem rput_row {t dx dy k base w h rw rh : Int} {p rp : List Int} {o4 : Bool} {N B : Nat} (ho : RefOk t dx dy k) (hb : Bmp w h p) (hr : Bmp rw rh rp) (hbase : 0 ≤ base ∧ base + rctxN t < (N : Int)) (hN : N ≤ 1000000) {y : Int} (hy : 0 ≤ y ∧ y < h) (hB : B ≤ 900000000) (ty : Bool)
  {e : EncS} (he : EncAt N B e) :
  Both (loop (refine_Put_loop20 base w y ty) (0, withR e t dx dy o4 k w h p rw rh rp)) (loop (ref08_Put_loop17 base t dx dy o4 k w h p rw rh rp y ty) (0, e))
   (fun q r => q = withR r t dx dy o4 k w h p rw rh rp ∧ EncAt N (B + 800) r) := by
 have hw := hb.1
 have hw2 := hb.2.2.1
 have hh2 := hb.2.2.2.1
 refine Both.loop (fun s r => ∃ (n : Nat) (e : EncS), (n : Int) ≤ w ∧ s = ((n : Int), withR e t dx dy o4 k w h p rw rh rp) ∧ r = ((n : Int), e) ∧ EncAt N (B + 4 * n) e) _ (fun s => (w - s.1).toNat) ?_ _ _ ⟨0, e, by omega, rfl, rfl, by simpa using he⟩
 rintro s r ⟨n, e, hn, rfl, rfl, he⟩
 unfold refine_Put_loop20 ref08_Put_loop17
 simp only [withR]
 by_cases hlt : (n : Int) < w
 ·simp only [hlt, decide_true, if_true, flat_is]
  obtain ⟨q, hq⟩ := alike_some (o4 := o4) ho hr (x := (n : Int)) (y := y) (by omega) (by omega)
  rw [hq]
  simp only [Option.bind_some]
  have ev : ((if (!ty) = true then some true else some (!q.2)) : Option Bool) = some (!ty || !q.2) := by cases ty <;> simp
  rw [ev]
  simp only [Option.bind_some]
  rw [w64 (n := (n : Int) + 1) (by omega)]
  by_cases hv : (!ty || !q.2) = true
  ·simp only [hv, if_true, region_context_is ho hb hr (show -1000 ≤ (n : Int) ∧ (n : Int) ≤ 1000 by omega) (show -1000 ≤ y ∧ y ≤ 1000 by omega), ref08Context_is ho hb hr (show -1000 ≤ (n : Int) ∧ (n : Int) ≤ 1000 by omega) (show -1000 ≤ y ∧ y ≤ 1000 by omega), Option.bind_some, grid_pix, Pix_is hb, demon_same]
   have hcx := rctx_range (t := t) (dx := dx) (dy := dy) hb hr (n : Int) y
   have hp := hb.pix (x := (n : Int)) (y := y)
   have hc : rctxN t ≤ 512 := by unfold rctxN; split <;> decide
   rw [w64 (n := base + rctx t dx dy w h p rw rh rp (n : Int) y) (by omega), w64 (n := pixA w h p (n : Int) y) (by omega)]
   obtain ⟨s', e1, e2, e3⟩ := put_at he (c := base + rctx t dx dy w h p rw rh rp (n : Int) y) (by omega) hp (by omega)
   rw [e1, e2]
   exact .mk ⟨⟨n + 1, s', by omega, rfl, rfl, by rw [show B + 4 * (n + 1) = B + 4 * n + 4 by omega]; exact e3⟩, by show (w - ((n : Int) + 1)).toNat < (w - (n : Int)).toNat; omega⟩
  ·simp only [hv, if_false]
   exact .mk ⟨⟨n + 1, e, by omega, rfl, rfl, he.1, he.2.1, by have := he.2.2; show e.2.2.2.2.length ≤ _; omega⟩, by show (w - ((n : Int) + 1)).toNat < (w - (n : Int)).toNat; omega⟩
 ·simp only [hlt, decide_false, Bool.false_eq_true, if_false]
  exact .mk ⟨rfl, he.1, he.2.1, by have := he.2.2; show e.2.2.2.2.length ≤ _; omega⟩
theorem size08_is (t : Int) : ref08_size t = some (rctxN t + 1) := by
 rw [ref08_size_eq]
 unfold rctxN
 simp only [iteD]
 split <;> rfl
theorem rput_rows {t dx dy k base w h rw rh : Int} {p rp : List Int} {o4 : Bool} {N B : Nat} (ho : RefOk t dx dy k) (hb : Bmp w h p) (hr : Bmp rw rh rp) (hbase : 0 ≤ base ∧ base + rctxN t < (N : Int)) (hN : N ≤ 1000000) (hB : B ≤ 100000000)
  {e : EncS} (he : EncAt N B e) :
  Both (loop (refine_Put_loop11 base t o4 w h) (0, withR e t dx dy o4 k w h p rw rh rp)) (loop (ref08_Put_loop8 base t dx dy o4 k w h p rw rh rp (base + rctxN t)) (0, e))
   (fun q r => q = withR r t dx dy o4 k w h p rw rh rp ∧ EncAt N (B + 804 * 200) r) := by
 have hw := hb.1
 have hh := hb.2.1
 have hw2 := hb.2.2.1
 have hh2 := hb.2.2.2.1
 have hc : 0 < rctxN t ∧ rctxN t ≤ 512 := by unfold rctxN; split <;> decide
 refine Both.loop (fun s r => ∃ (n : Nat) (e : EncS), (n : Int) ≤ h ∧ s = ((n : Int), withR e t dx dy o4 k w h p rw rh rp) ∧ r = ((n : Int), e) ∧ EncAt N (B + 804 * n) e) _ (fun s => (h - s.1).toNat) ?_ _ _ ⟨0, e, by omega, rfl, rfl, by simpa using he⟩
 rintro s r ⟨n, e, hn, rfl, rfl, he⟩
 unfold refine_Put_loop11 ref08_Put_loop8
 simp only [withR]
 by_cases hlt : (n : Int) < h
 ·simp only [hlt, decide_true, if_true, typicalR_is ho hb hr (show -1000 ≤ (n : Int) ∧ (n : Int) ≤ 1000 by omega)]
  obtain ⟨ty, hty⟩ := row_some (o4 := o4) ho hb hr (y := (n : Int)) (by omega)
  rw [hty, w64 (n := (n : Int) + 1) (by omega)]
  have row : ∀ (e' : EncS) (ty : Bool), EncAt N (B + 804 * n + 4) e' → Both ((loop (refine_Put_loop20 base w (n : Int) ty) (0, withR e' t dx dy o4 k w h p rw rh rp)).bind fun q => some (Sum.inl ((n : Int) + 1, q) : _ ⊕ (Int × Int × Int × List Int × List Int × Int × Int × Int × Bool × Int × Int × Int × List Int × Int × Int × List Int)))
    ((loop (ref08_Put_loop17 base t dx dy o4 k w h p rw rh rp (n : Int) ty) (0, e')).bind fun r => some (Sum.inl ((n : Int) + 1, r) : _ ⊕ EncS))
    (StepTo (fun s' r' => (∃ (m : Nat) (e : EncS), (m : Int) ≤ h ∧ s' = ((m : Int), withR e t dx dy o4 k w h p rw rh rp) ∧ r' = ((m : Int), e) ∧ EncAt N (B + 804 * m) e) ∧ (h - s'.1).toNat < (h - (n : Int)).toNat) (fun q r => q = withR r t dx dy o4 k w h p rw rh rp ∧ EncAt N (B + 804 * 200) r)) := by
   intro e' ty he'
   refine (rput_row ho hb hr hbase hN ⟨by omega, hlt⟩ (by omega) ty he').bind fun q r hqr => .mk ⟨⟨n + 1, r, by omega, by rw [hqr.1]; rfl, rfl, ?_⟩, by show (h - ((n : Int) + 1)).toNat < _; omega⟩
   rw [show B + 804 * (n + 1) = B + 804 * n + 4 + 800 by omega]
   exact hqr.2
  cases o4 with
  | false =>
   simp only [Bool.false_eq_true, if_false, Option.bind_some]
   exact row e false ⟨he.1, he.2.1, by have := he.2.2; omega⟩
  | true =>
   simp only [if_true, Option.bind_some]
   have ebit : ((if ty = true then some 1 else some 0) : Option Int) = some (if ty = true then 1 else 0) := by split <;> rfl
   rw [ebit, rcontexts_is]
   simp only [Option.bind_some]
   rw [w64 (n := base + rctxN t) (by omega)]
   obtain ⟨s', e1, e2, e3⟩ := put_at he (c := base + rctxN t) (b := if ty = true then 1 else 0) (by omega) (by split <;> simp) (by omega)
   rw [e1, e2]
   simp only [Option.bind_some]
   exact row s' ty e3
 ·simp only [hlt, decide_false, Bool.false_eq_true, if_false]
  exact .mk ⟨rfl, he.1, he.2.1, by have := he.2.2; show e.2.2.2.2.length ≤ _; omega⟩
theorem put_bad {kind lo hi : Int} {st out : List Int} : coder_Encoder_Put (-1) 0 kind lo hi st out = some (2, kind, lo, hi, st, out) := by
 rw [coder_Encoder_Put_eq, coder_Encoder_none_eq]
 simp only [Option.bind_some, Bool.false_eq_true, if_false, show (-1 : Int) < 0 by decide, decide_true, if_true, Sum.elim_inr]
/-! ### Events that are put -/
def shiftE (base : Int) (e : Event) : Event := ⟨base + e.ctx, e.bit⟩
def EvOk (base : Int) (N : Nat) (e : Event) : Prop := (0 ≤ base + e.ctx ∧ base + e.ctx < (N : Int)) ∧ (e.bit = 0 ∨ e.bit = 1)
theorem put_overs {base : Int} {N : Nat} {l : List Event} (hl : l.length ≤ 100000) (hbase : -1000000 ≤ base ∧ base ≤ 1000000) (hN : N ≤ 1000000) (he : ∀ e ∈ l, EvOk base N e) : ∀ (m : List Event) (n B : Nat) (s : EncS), l.drop n = m → EncAt N B s → B + 4 * m.length ≤ 1000000000 →
  ∃ r, overL number_put_loop2_step (fun s => some (Sum.inl (s.1, s.2.1, s.2.2.1, s.2.2.2.1, s.2.2.2.2))) n (m.map (shiftE base)) s = some (Sum.inl r) ∧ loop (ref03_Put_loop5 base l) ((n : Int), s) = some r ∧ EncAt N (B + 4 * m.length) r
 | [], n, B, s, hd, h, _ => by
  have hln : l.length ≤ n := by
   have := congrArg List.length hd
   rw [List.length_drop, List.length_nil] at this
   omega
  refine ⟨s, rfl, loop_done ?_, h⟩
  unfold ref03_Put_loop5
  simp only [iteD]
  rw [if_neg (by omega)]
 | e :: m, n, B, s, hd, h, hB => by
  have hget : l[n]? = some e := by
   have : (l.drop n)[0]? = some e := by rw [hd]; rfl
   simpa using this
  have hd' : l.drop (n + 1) = m := by rw [← List.drop_drop, hd]; rfl
  have hlt := lt_len_of_get hget
  obtain ⟨⟨c0, c1⟩, hb⟩ := he e (List.mem_of_getElem? hget)
  simp only [List.length_cons] at hB
  obtain ⟨s', e1, e2, e3⟩ := put_at h (c := base + e.ctx) ⟨c0, c1⟩ hb (by omega)
  obtain ⟨r, r1, r2, r3⟩ := put_overs hl hbase hN he m (n + 1) (B + 4) s' hd' e3 (by omega)
  refine ⟨r, ?_, ?_, by rw [List.length_cons, show B + 4 * (m.length + 1) = B + 4 + 4 * m.length by omega]; exact r3⟩
  ·rw [List.map_cons, overL_next (s' := s')]
   ·exact r1
   ·unfold number_put_loop2_step shiftE
    simp only
    rw [e1]
    rfl
  ·rw [loop_step (s' := (((n + 1 : Nat) : Int), s'))]
   ·exact r2
   ·unfold ref03_Put_loop5
    simp only [iteD]
    have z : (0 : Int) ≤ (n : Int) := by omega
    rw [if_pos (by omega), if_pos z, Int.toNat_natCast, hget]
    simp only [Option.bind_some]
    rw [if_pos z, w64 (n := base + e.ctx) (by omega), e2]
    simp only [Option.bind_some]
    rw [w64 (n := (n : Int) + 1) (by omega)]
    rfl
/-- events that are put, one after the other -/
theorem put_events {base : Int} {N B : Nat} {l : List Event} {s : EncS} (hl : l.length ≤ 100) (hbase : -1000000 ≤ base ∧ base ≤ 1000000) (hN : N ≤ 1000000) (he : ∀ e ∈ l, EvOk base N e) (h : EncAt N B s) (hB : B ≤ 100000000) :
  ∃ r, number_put (l.map (shiftE base)) s.1 s.2.1 s.2.2.1 s.2.2.2.1 s.2.2.2.2 = some (0, r) ∧ loop (ref03_Put_loop5 base l) (0, s) = some r ∧ EncAt N (B + 400) r := by
 obtain ⟨r, r1, r2, r3⟩ := put_overs (by omega) hbase hN he l 0 B s rfl h (by omega)
 refine ⟨r, ?_, r2, r3.1, r3.2.1, by have := r3.2.2; omega⟩
 rw [number_put_eq]
 have lo := number_put_loop2_over (l.map (shiftE base)) (by rw [List.length_map]; omega) s
 rw [lo]
 have r1' : overL number_put_loop2_step (fun (s25 : Int × Int × Int × (List Int) × (List Int)) => let b26 := s25.1; let b27 := s25.2.1; let b28 := s25.2.2.1; let b29 := s25.2.2.2.1; let b30 := s25.2.2.2.2; some (Sum.inl (b26, b27, b28, b29, b30))) 0 (l.map (shiftE base)) s = some (Sum.inl r) := r1
 simp only at r1'
 rw [r1']
 rfl
/-- L bits: the highest is set -/
def Bits (x : Int) (L : Nat) : Prop := 1 ≤ L ∧ (2 : Int) ^ (L - 1) ≤ x ∧ x < 2 ^ L
theorem Bits.up {x : Int} {L k : Nat} (h : Bits (x / 2 ^ k) L) : Bits x (L + k) := by
 obtain ⟨h1, h2, h3⟩ := h
 have hk : (0 : Int) < 2 ^ k := Int.pow_pos (by decide)
 refine ⟨by omega, ?_, ?_⟩
 ·rw [show L + k - 1 = (L - 1) + k by omega, Int.pow_add]
  have := Int.mul_le_mul_of_nonneg_right h2 (Int.le_of_lt hk)
  exact Int.le_trans this (Int.ediv_mul_le x (by omega))
 ·rw [Int.pow_add]
  exact Int.lt_mul_of_ediv_lt hk h3
def len8L : List Int := [0, 1, 2, 2, 3, 3, 3, 3, 4, 4, 4, 4, 4, 4, 4, 4] ++ List.replicate 16 5 ++ List.replicate 32 6 ++ List.replicate 64 7 ++ List.replicate 128 8
theorem len8_bits : ∀ y : Fin 256, 1 ≤ y.val → Bits ((y.val : Nat) : Int) (rd len8L ((y.val : Nat) : Int)).toNat ∧ rd len8L ((y.val : Nat) : Int) ≤ 8 ∧ 0 ≤ rd len8L ((y.val : Nat) : Int) := by
 unfold Bits
 decide +kernel
set_option maxRecDepth 20000 in
theorem len_is {x : Int} (h0 : 1 ≤ x) (h1 : x < 16777216) : ∃ L : Nat, math_bits_Len x = some (L : Int) ∧ Bits x L ∧ L ≤ 24 := by
 have tab : ∀ (y : Int), 1 ≤ y → y < 256 → ∃ l : Nat, rd len8L y = (l : Int) ∧ Bits y l ∧ l ≤ 8 := fun y a b => by
  obtain ⟨m, rfl⟩ := Int.eq_ofNat_of_zero_le (show 0 ≤ y by omega)
  obtain ⟨c1, c2, c3⟩ := len8_bits ⟨m, by omega⟩ (by show 1 ≤ m; omega)
  have c2' : rd len8L (m : Int) ≤ 8 := c2
  exact ⟨(rd len8L (m : Int)).toNat, (Int.toNat_of_nonneg c3).symm, c1, by omega⟩
 have hlen : (len8L.length : Int) = 256 := by decide +kernel
 have s16 : ishr .u64 x 16 = x / 65536 := by unfold ishr; exact Int.fdiv_eq_ediv_of_nonneg _ (by decide)
 have fin : ∀ (y n : Int), 1 ≤ y → y < 256 → 0 ≤ n → n ≤ 16 → ∃ l : Nat, ((if 0 ≤ IntKind.u8.wrap y ∧ IntKind.u8.wrap y < (len8L.length : Int) then some (IntKind.i64.wrap (n + IntKind.i64.wrap (rd len8L (IntKind.u8.wrap y)))) else none) : Option Int) = some (n + (l : Int)) ∧ Bits y l ∧ l ≤ 8 := fun y n a b c d => by
  obtain ⟨l, e1, e2, e3⟩ := tab y a b
  rw [w8, show y % 256 = y by omega, if_pos (by omega), e1, w64 (n := (l : Int)) (by omega), w64 (by omega)]
  exact ⟨l, rfl, e2, e3⟩
 rw [math_bits_Len_eq, math_bits_Len64_eq]
 simp only [iteD]
 rw [if_neg (by omega)]
 simp only [Option.bind_some]
 by_cases c1 : x ≥ 65536
 ·rw [if_pos c1, s16, w64 (n := 0 + 16) (by omega)]
  simp only [Option.bind_some]
  have d1 : 1 ≤ x / 65536 ∧ x / 65536 < 256 := by omega
  rw [if_neg (by omega)]
  simp only [Option.bind_some]
  obtain ⟨l, f1, f2, f3⟩ := fin (x / 65536) (0 + 16) d1.1 d1.2 (by omega) (by omega)
  refine ⟨l + 16, ?_, f2.up (k := 16), by omega⟩
  refine (congrArg (fun o : Option Int => o.bind fun q => some q) f1).trans ?_
  simp only [Option.bind_some]; congr 1; omega
 ·rw [if_neg c1]
  simp only [Option.bind_some]
  have s8 : ishr .u64 x 8 = x / 256 := by unfold ishr; exact Int.fdiv_eq_ediv_of_nonneg _ (by decide)
  by_cases c2 : x ≥ 256
  ·rw [if_pos c2, s8, w64 (n := 0 + 8) (by omega)]
   simp only [Option.bind_some]
   have d1 : 1 ≤ x / 256 ∧ x / 256 < 256 := by omega
   obtain ⟨l, f1, f2, f3⟩ := fin (x / 256) (0 + 8) d1.1 d1.2 (by omega) (by omega)
   refine ⟨l + 8, ?_, f2.up (k := 8), by omega⟩
   refine (congrArg (fun o : Option Int => o.bind fun q => some q) f1).trans ?_
   simp only [Option.bind_some]; congr 1; omega
  ·rw [if_neg c2]
   simp only [Option.bind_some]
   obtain ⟨l, f1, f2, f3⟩ := fin x 0 h0 (by omega) (by omega) (by omega)
   refine ⟨l, ?_, f2, by omega⟩
   refine (congrArg (fun o : Option Int => o.bind fun q => some q) f1).trans ?_
   simp only [Option.bind_some]; congr 1; omega
/-- the i-th bit -/
def bitN (x : Int) (i : Nat) : Int := x / 2 ^ i % 2
theorem Bits.half {x : Int} {L : Nat} (h : Bits x (L + 2)) : Bits (x / 2) (L + 1) := by
 obtain ⟨_, h2, h3⟩ := h
 rw [show L + 2 - 1 = L + 1 by omega, Int.pow_succ] at h2
 rw [show L + 2 = (L + 1) + 1 by omega, Int.pow_succ] at h3
 refine ⟨by omega, ?_, ?_⟩
 ·rw [show L + 1 - 1 = L by omega]; omega
 ·omega
theorem bitN_half {x : Int} {i : Nat} : bitN (x / 2) i = bitN x (i + 1) := by
 unfold bitN
 rw [Int.pow_succ, Int.mul_comm, ← Int.ediv_ediv_of_nonneg (show (0 : Int) ≤ 2 by decide)]
theorem digits_loop : ∀ (L : Nat) (x : Int) (out : List Int), Bits x (L + 1) → L ≤ 24 → out.length + L ≤ 100 → 0 ≤ x → x < 16777216 → loop ref03_events_loop9 (x, out) = some (out ++ (List.range (L + 1)).map (bitN x))
 | 0, x, out, h, _, ho, h0, h1 => by
  obtain ⟨_, h2, h3⟩ := h
  have hx : x = 1 := by simp at h2 h3; omega
  subst hx
  rw [loop_step (s' := (0, out ++ [1]))]
  ·refine loop_done ?_
   unfold ref03_events_loop9
   rfl
  ·unfold ref03_events_loop9
   simp only [List.length_singleton]
   rw [if_pos (show decide ((1 : Int) > 0) = true from rfl), if_pos (by omega)]
   rfl
 | L + 1, x, out, h, hL, ho, h0, h1 => by
  have hpos : x > 0 := by
   have := h.2.1
   have hp : (0 : Int) < 2 ^ (L + 1 + 1 - 1) := Int.pow_pos (by decide)
   omega
  rw [loop_step (s' := (x / 2, out ++ [x % 2]))]
  ·rw [digits_loop L (x / 2) (out ++ [x % 2]) h.half (by omega) (by rw [List.length_append, List.length_singleton]; omega) (by omega) (by omega)]
   rw [List.range_succ_eq_map (n := L + 1), List.map_cons, List.map_map, List.append_assoc]
   congr 2
   simp only [List.singleton_append, List.cons.injEq]
   refine ⟨by unfold bitN; simp, List.map_congr_left fun i _ => bitN_half⟩
  ·unfold ref03_events_loop9
   simp only [List.length_singleton]
   rw [if_pos (by simpa using hpos), if_pos (by omega), tmod_pos h0, tdiv_pos h0, w64 (by omega)]
/-- how many bits, told by ones -/
def evOnes (t : Nat) : List Event := (List.range t).map fun (v : Nat) => ⟨1 + (v : Int), 1⟩
/-- the bits below the highest -/
def evMid (t : Nat) (x : Int) : List Event := (List.range t).map fun (j : Nat) => ⟨if j = 0 then 23 + (t : Int) else min (43 + (j : Int)) 47, bitN x (t - 1 - j)⟩
theorem ones_ref {t : Nat} (ht : t ≤ 24) {out : List Event} (ho : out.length ≤ 100) : loop (ref03_events_loop14 (t : Int)) (0, out) = some (out ++ evOnes t) := by
 rw [ref03_events_loop14_over (t : Int) (by rw [List.length_range]; omega) out]
 have := overL_inv (f := ref03_events_loop14_step) (fin := fun s => some s) (fun n => out ++ evOnes n) (List.range (t : Int).toNat) 0 (fun k x hk => by
  have hlt := lt_len_of_get hk
  rw [List.length_range] at hlt
  rw [Nat.zero_add]
  unfold ref03_events_loop14_step evOnes
  simp only [List.length_append, List.length_map, List.length_range, List.length_singleton]
  rw [if_pos (by omega), w64 (by omega), List.range_succ, List.map_append, List.append_assoc]
  rfl)
 simp only [evOnes, List.range_zero, List.map_nil, List.append_nil, Nat.zero_add, List.length_range, Int.toNat_natCast] at this ⊢
 exact this
theorem ones_prog {base : Int} {t : Nat} (hb : -1000000 ≤ base ∧ base ≤ 1000000) (ht : t ≤ 24) {out : List Event} (ho : out.length ≤ 100) : loop (number_events_loop7 base (t : Int)) (0, out) = some (out ++ (evOnes t).map (shiftE base)) := by
 rw [number_events_loop7_over base (t : Int) (by rw [List.length_range]; omega) out]
 have := overL_inv (f := number_events_loop7_step base) (fin := fun s => some s) (fun n => out ++ (evOnes n).map (shiftE base)) (List.range (t : Int).toNat) 0 (fun k x hk => by
  have hlt := lt_len_of_get hk
  rw [List.length_range] at hlt
  rw [Nat.zero_add]
  unfold number_events_loop7_step evOnes
  simp only [List.length_append, List.length_map, List.length_range, List.length_singleton]
  rw [if_pos (by omega), w64 (n := base + 1) (by omega), w64 (by omega), List.range_succ, List.map_append, List.map_append, List.append_assoc]
  simp only [List.map_cons, List.map_nil, shiftE, Int.add_assoc])
 simp only [evOnes, List.range_zero, List.map_nil, List.append_nil, Nat.zero_add, List.length_range, Int.toNat_natCast] at this ⊢
 exact this
theorem mid_ref {x : Int} {t : Nat} (ht : t ≤ 24) {out : List Event} (ho : out.length ≤ 100) : loop (ref03_events_loop20 ((List.range (t + 1)).map (bitN x)) (t : Int)) (0, out) = some (out ++ evMid t x) := by
 rw [ref03_events_loop20_over _ (t : Int) (by rw [List.length_range]; omega) out]
 have := overL_inv (f := ref03_events_loop20_step ((List.range (t + 1)).map (bitN x)) (t : Int)) (fin := fun s => some s) (fun n => out ++ (evMid t x).take n) (List.range (t : Int).toNat) 0 (fun k y hk => by
  have hlt := lt_len_of_get hk
  rw [List.length_range] at hlt
  rw [Nat.zero_add]
  have hget : (evMid t x)[k]? = some ⟨if k = 0 then 23 + (t : Int) else min (43 + (k : Int)) 47, bitN x (t - 1 - k)⟩ := by
   unfold evMid
   rw [List.getElem?_map, List.getElem?_range (by omega)]
   rfl
  have hdig : ((List.range (t + 1)).map (bitN x))[t - 1 - k]? = some (bitN x (t - 1 - k)) := by
   rw [List.getElem?_map, List.getElem?_range (by omega)]; rfl
  have e : (t : Int) - 1 - (k : Int) = ((t - 1 - k : Nat) : Int) := by omega
  have hc : ((if decide ((k : Int) = 0) = true then some (IntKind.i64.wrap (23 + (t : Int))) else some (imin (IntKind.i64.wrap (43 + (k : Int))) 47)) : Option Int) = some (if k = 0 then 23 + (t : Int) else min (43 + (k : Int)) 47) := by
   simp only [iteD, imin_eq]
   by_cases c : k = 0
   ·rw [if_pos (by omega), if_pos c, w64 (by omega)]
   ·rw [if_neg (by omega), if_neg c, w64 (by omega)]
  unfold ref03_events_loop20_step
  simp only
  rw [hc]
  simp only [Option.bind_some, List.length_append, List.length_map, List.length_range, List.length_singleton, List.length_take]
  rw [w64 (n := (t : Int) - 1) (by omega), w64 (n := (t : Int) - 1 - (k : Int)) (by omega), e, if_pos (by omega), rd_nat hdig, if_pos (by omega), List.take_add_one, hget, List.append_assoc]
  rfl)
 have hl : (evMid t x).length = t := by simp [evMid]
 simp only [List.take_zero, List.append_nil, Nat.zero_add, List.length_range, Int.toNat_natCast] at this ⊢
 rw [this, List.take_of_length_le (by omega)]
end Go.Proofs.YtkccnhkhjncpkaaGreat.P
namespace Go.Proofs.YtkccnhkhjncpkaaGreat.V
open Go Go.Proofs.YtkccnhkhjncpkaaGreat.V
open Go
theorem ishr_div {n : Int} {k : Nat} (hk : k ≤ 64) : ishr .i64 n (k : Int) = n / (2 ^ k : Int) := by
 unfold ishr
 rw [Int.toNat_natCast, show min k IntKind.i64.bits = k from by simp [IntKind.bits]; omega]
 exact Int.fdiv_eq_ediv_of_nonneg _ (by exact_mod_cast Nat.zero_le (2 ^ k))
theorem ishl_mul {n : Int} {k : Nat} (hk : k ≤ 64) : ishl .i64 n (k : Int) = IntKind.i64.wrap (n * 2 ^ k) := by
 unfold ishl
 rw [Int.toNat_natCast, show min k IntKind.i64.bits = k from by simp [IntKind.bits]; omega]
theorem bv_nat (m : Nat) (h : m < 18446744073709551616) : (BitVec.ofInt 64 (m : Int)) = BitVec.ofNat 64 m := by
 rw [BitVec.ofInt_natCast]
theorem ior_nat (a b : Nat) (ha : a < 9223372036854775808) (hb : b < 9223372036854775808) : ior .i64 (a : Int) (b : Int) = ((a ||| b : Nat) : Int) := by
 show IntKind.i64.wrap ((BitVec.ofInt 64 (a : Int) ||| BitVec.ofInt 64 (b : Int) : BitVec 64).toNat : Int) = _
 rw [bv_nat a (by omega), bv_nat b (by omega), BitVec.toNat_or, BitVec.toNat_ofNat, BitVec.toNat_ofNat, Nat.mod_eq_of_lt (by omega), Nat.mod_eq_of_lt (by omega)]
 have : a ||| b < 2 ^ 63 := Nat.or_lt_two_pow (by omega) (by omega)
 exact w64 (by omega)
theorem iand_nat (a b : Nat) (ha : a < 9223372036854775808) (hb : b < 9223372036854775808) : iand .i64 (a : Int) (b : Int) = ((a &&& b : Nat) : Int) := by
 show IntKind.i64.wrap ((BitVec.ofInt 64 (a : Int) &&& BitVec.ofInt 64 (b : Int) : BitVec 64).toNat : Int) = _
 rw [bv_nat a (by omega), bv_nat b (by omega), BitVec.toNat_and, BitVec.toNat_ofNat, BitVec.toNat_ofNat, Nat.mod_eq_of_lt (by omega), Nat.mod_eq_of_lt (by omega)]
 have : a &&& b ≤ a := Nat.and_le_left
 exact w64 (by omega)
theorem ixor_nat (a b : Nat) (ha : a < 9223372036854775808) (hb : b < 9223372036854775808) : ixor .i64 (a : Int) (b : Int) = ((a ^^^ b : Nat) : Int) := by
 show IntKind.i64.wrap ((BitVec.ofInt 64 (a : Int) ^^^ BitVec.ofInt 64 (b : Int) : BitVec 64).toNat : Int) = _
 rw [bv_nat a (by omega), bv_nat b (by omega), BitVec.toNat_xor, BitVec.toNat_ofNat, BitVec.toNat_ofNat, Nat.mod_eq_of_lt (by omega), Nat.mod_eq_of_lt (by omega)]
 have : a ^^^ b < 2 ^ 63 := Nat.xor_lt_two_pow (by omega) (by omega)
 exact w64 (by omega)
/-- a number shifted up by a byte, and a byte below it -/
theorem ior_byte {n d : Int} (hn : 0 ≤ n) (hn2 : n < 4294967296) (hd : 0 ≤ d) (hd2 : d < 256) : ior .i64 (ishl .i64 n 8) d = 256 * n + d := by
 obtain ⟨m, rfl⟩ := Int.eq_ofNat_of_zero_le hn
 obtain ⟨e, rfl⟩ := Int.eq_ofNat_of_zero_le hd
 have h0 : m <<< 8 = m * 256 := by rw [Nat.shiftLeft_eq]
 have h1 : ishl .i64 (m : Int) 8 = ((m <<< 8 : Nat) : Int) := by
  rw [show (8 : Int) = ((8 : Nat) : Int) from rfl, ishl_mul (by omega), h0, show ((2 : Int) ^ 8) = 256 from rfl, w64 (by omega)]
  omega
 rw [h1, ior_nat _ _ (by omega) (by omega), ← Nat.shiftLeft_add_eq_or_of_lt (by omega), h0]
 omega
/-! ### Parts of lists -/
section
variable {α : Type}
theorem cutL_len (xs : List α) (i j : Nat) : (cutL xs i j).length = min j xs.length - i := by simp [cutL]
theorem cutL_append (xs : List α) {i j k : Nat} (h1 : i ≤ j) (h2 : j ≤ k) : cutL xs i j ++ cutL xs j k = cutL xs i k := by
 unfold cutL
 by_cases hj : j ≤ xs.length
 ·have e1 : xs.take k = xs.take j ++ (xs.take k).drop j := by
   conv => lhs; rw [← List.take_append_drop j (xs.take k)]
   rw [List.take_take, Nat.min_eq_left h2]
  conv => rhs; rw [e1]
  rw [List.drop_append_of_le_length (by rw [List.length_take]; omega)]
 ·have e1 : xs.take j = xs := List.take_of_length_le (by omega)
  have e2 : xs.take k = xs := List.take_of_length_le (by omega)
  rw [e1, e2, List.drop_eq_nil_of_le (by omega : xs.length ≤ j), List.append_nil]
theorem cutL_self (xs : List α) (i : Nat) : cutL xs i i = [] := by
 unfold cutL
 exact List.drop_eq_nil_of_le (by rw [List.length_take]; omega)
theorem cutL_all (xs : List α) : cutL xs 0 xs.length = xs := by simp [cutL]
theorem cutL_zero (xs : List α) (n : Nat) : cutL xs 0 n = xs.take n := by simp [cutL]
theorem cutL_cons {xs : List α} {i j : Nat} {x : α} (h : xs[i]? = some x) (hj : i < j) : cutL xs i j = x :: cutL xs (i + 1) j := by
 have hl := (List.getElem?_eq_some_iff.1 h).1
 have hx := (List.getElem?_eq_some_iff.1 h).2
 unfold cutL
 rw [List.drop_eq_getElem_cons (by rw [List.length_take]; omega)]
 congr 1
 rw [List.getElem_take]; exact hx
theorem cutL_mem {xs : List α} {i j : Nat} {x : α} (h : x ∈ cutL xs i j) : x ∈ xs := List.mem_of_mem_take (List.mem_of_mem_drop h)
end
theorem cutL_four {b : List Int} {i : Nat} (h : i + 4 ≤ b.length) : cutL b i (i + 4) = [rd b i, rd b ((i + 1 : Nat) : Int), rd b ((i + 2 : Nat) : Int), rd b ((i + 3 : Nat) : Int)] := by
 have g : ∀ k, k < b.length → b[k]? = some (rd b (k : Int)) := fun k hk => by
  have := rd_get (xs := b) (i := (k : Int)) (by omega) (by omega)
  simpa using this
 rw [cutL_cons (g i (by omega)) (by omega), cutL_cons (g (i + 1) (by omega)) (by omega), cutL_cons (g (i + 2) (by omega)) (by omega), cutL_cons (g (i + 3) (by omega)) (by omega), cutL_self]
end Go.Proofs.YtkccnhkhjncpkaaGreat.V
namespace Go.Proofs.YtkccnhkhjncpkaaGreat.P
open Go Go.Proofs.YtkccnhkhjncpkaaGreat.V
theorem bit_shift {x : Int} (h0 : 0 ≤ x) (h1 : x < 16777216) {i : Nat} (hi : i ≤ 24) : iand .i64 (ishr .i64 x (i : Int)) 1 = bitN x i := by
 have hp : (0 : Int) < 2 ^ i := Int.pow_pos (by decide)
 have q0 : 0 ≤ x / 2 ^ i := Int.ediv_nonneg h0 (Int.le_of_lt hp)
 have q1 : x / 2 ^ i ≤ x := Int.ediv_le_self _ h0
 rw [ishr_div (by omega)]
 unfold bitN
 obtain ⟨m, hm⟩ := Int.eq_ofNat_of_zero_le q0
 rw [hm] at q1 ⊢
 have := iand_nat m 1 (by omega) (by omega)
 rw [show ((1 : Nat) : Int) = 1 from rfl] at this
 rw [this, Nat.and_one_is_mod]
 omega
def tailB (k : Nat) : Int := if k ≤ 1 then 44 else min (43 + (k : Int)) 47
theorem mid_prog {base x : Int} {t : Nat} (hb : -1000000 ≤ base ∧ base ≤ 1000000) (ht : t ≤ 24) (h0 : 0 ≤ x) (h1 : x < 16777216) {out : List Event} (ho : out.length ≤ 100) : ∀ (d k : Nat), k + d = t →
  ∃ b, loop (number_events_loop15 base x (t : Int)) ((t : Int) - 1 - (k : Int), out ++ ((evMid t x).take k).map (shiftE base), tailB k) = some (out ++ (evMid t x).map (shiftE base), b)
 | 0, k, h => by
  have hl : (evMid t x).length = t := by simp [evMid]
  refine ⟨tailB k, loop_done ?_⟩
  unfold number_events_loop15
  simp only [iteD]
  rw [if_neg (by omega), List.take_of_length_le (by omega)]
 | d + 1, k, h => by
  obtain ⟨b, hb'⟩ := mid_prog hb ht h0 h1 ho d (k + 1) (by omega)
  refine ⟨b, ?_⟩
  have hget : (evMid t x)[k]? = some ⟨if k = 0 then 23 + (t : Int) else min (43 + (k : Int)) 47, bitN x (t - 1 - k)⟩ := by
   unfold evMid
   rw [List.getElem?_map, List.getElem?_range (by omega)]
   rfl
  have e : (t : Int) - 1 - (k : Int) = ((t - 1 - k : Nat) : Int) := by omega
  have hl : (evMid t x).length = t := by simp [evMid]
  rw [loop_step (s' := ((t : Int) - 1 - ((k + 1 : Nat) : Int), out ++ ((evMid t x).take (k + 1)).map (shiftE base), tailB (k + 1))), hb']
  have hc : ((if decide ((t : Int) - 1 - (k : Int) < IntKind.i64.wrap ((t : Int) - 1)) = true then (number_tail_take (tailB k)).bind fun q32 => some (q32.1, q32.2) else some (IntKind.i64.wrap (23 + (t : Int)), tailB k)) : Option (Int × Int)) = some (if k = 0 then 23 + (t : Int) else min (43 + (k : Int)) 47, tailB (k + 1)) := by
   simp only [iteD]
   rw [w64 (n := (t : Int) - 1) (by omega), w64 (n := 23 + (t : Int)) (by omega)]
   by_cases c : k = 0
   ·rw [if_neg (by omega), if_pos c]
    subst c
    rfl
   ·rw [if_pos (by omega), if_neg c, number_tail_take_eq]
    have hk : -100 ≤ tailB k ∧ tailB k ≤ 47 := by unfold tailB; split <;> omega
    simp only [Option.bind_some, imin_eq]
    rw [w64 (n := tailB k + 1) (by omega)]
    unfold tailB
    by_cases c1 : k ≤ 1
    ·have : k = 1 := by omega
     subst this; rfl
    ·rw [if_neg c1, if_neg (by omega)]
     congr 2
     omega
  unfold number_events_loop15
  simp only
  rw [hc]
  rw [if_pos (by simp; omega)]
  simp only [Option.bind_some, List.length_append, List.length_map, List.length_singleton, List.length_take]
  rw [if_neg (by omega), e, bit_shift h0 h1 (by omega), if_pos (by omega)]
  have hctx : -1000 ≤ (if k = 0 then 23 + (t : Int) else min (43 + (k : Int)) 47) ∧ (if k = 0 then 23 + (t : Int) else min (43 + (k : Int)) 47) ≤ 1000 := by split <;> omega
  rw [w64 (n := base + (if k = 0 then 23 + (t : Int) else min (43 + (k : Int)) 47)) (by omega), w64 (by omega), List.take_add_one, hget, List.map_append, List.append_assoc]
  rw [show ((t - 1 - k : Nat) : Int) - 1 = (t : Int) - 1 - ((k + 1 : Nat) : Int) by omega]
  rfl
def absN (n : Int) : Int := max n (0 - n)
def evAll (n : Int) (t : Nat) : List Event :=
 ([⟨0, 0⟩] ++ evOnes t ++ (if t < 20 then [⟨1 + (t : Int), 0⟩] else [])) ++ evMid t (absN n + 1) ++ (if n = 0 then [] else [⟨22, if n < 0 then 1 else 0⟩])
theorem evAll_ok {n : Int} {t : Nat} (ht : t ≤ 20) : (evAll n t).length ≤ 50 ∧ ∀ e ∈ evAll n t, (0 ≤ e.ctx ∧ e.ctx < 48) ∧ (e.bit = 0 ∨ e.bit = 1) := by
 refine ⟨?_, fun e he => ?_⟩
 ·unfold evAll evOnes evMid
  simp only [List.length_append, List.length_map, List.length_range, List.length_singleton]
  split <;> split <;> simp <;> omega
 ·unfold evAll at he
  rcases List.mem_append.1 he with he | he
  ·rcases List.mem_append.1 he with he | he
   ·rcases List.mem_append.1 he with he | he
    ·rcases List.mem_append.1 he with he | he
     ·rw [List.mem_singleton] at he; subst he; simp
     ·unfold evOnes at he
      obtain ⟨v, hv, rfl⟩ := List.mem_map.1 he
      rw [List.mem_range] at hv
      exact ⟨by show 0 ≤ 1 + (v : Int) ∧ 1 + (v : Int) < 48; omega, .inr rfl⟩
    ·split at he
     ·rw [List.mem_singleton] at he; subst he
      exact ⟨by show 0 ≤ 1 + (t : Int) ∧ 1 + (t : Int) < 48; omega, .inl rfl⟩
     ·simp at he
   ·unfold evMid at he
    obtain ⟨j, hj, rfl⟩ := List.mem_map.1 he
    rw [List.mem_range] at hj
    simp only
    refine ⟨by split <;> omega, ?_⟩
    unfold bitN
    omega
  ·split at he
   ·simp at he
   ·rw [List.mem_singleton] at he; subst he
    simp only
    refine ⟨by omega, ?_⟩
    split <;> simp
theorem events_ref {n : Int} (hn : -1048576 ≤ n ∧ n ≤ 1048576) : ∃ t : Nat, t ≤ 20 ∧ Bits (absN n + 1) (t + 1) ∧ ref03_events false n = some (evAll n t) := by
 have ha : 0 ≤ absN n ∧ absN n ≤ 1048576 := by unfold absN; omega
 obtain ⟨L, _, hB, hL⟩ := len_is (x := absN n + 1) (by omega) (by omega)
 obtain ⟨t, rfl⟩ : ∃ t, L = t + 1 := ⟨L - 1, by have := hB.1; omega⟩
 have ht : t ≤ 20 := by
  rcases Nat.lt_or_ge t 21 with q | q
  ·omega
  ·have h2 := hB.2.1
   rw [show t + 1 - 1 = t by omega] at h2
   have : (2 : Int) ^ 21 ≤ 2 ^ t := by
    have := Nat.pow_le_pow_right (n := 2) (by decide) q
    exact_mod_cast this
   have e : (2 : Int) ^ 21 = 2097152 := by decide
   omega
 refine ⟨t, ht, hB, ?_⟩
 rw [ref03_events_eq]
 have e1 : ((if decide (n < 0) = true then (let t3 := IntKind.i64.wrap (0 - n); some (t3, 1)) else some (n, 0)) : Option (Int × Int)) = some (absN n, if n < 0 then 1 else 0) := by
  unfold absN
  simp only [iteD]
  by_cases c : n < 0
  ·rw [if_pos c, if_pos c, w64 (by omega)]
   congr 2; omega
  ·rw [if_neg c, if_neg c]
   congr 2; omega
 rw [e1]
 simp only [Bool.false_eq_true, if_false, Option.bind_some]
 rw [w64 (n := absN n + 1) (by omega), digits_loop t (absN n + 1) [] hB (by omega) (by simp; omega) (by omega) (by omega)]
 simp only [Option.bind_some, List.nil_append, List.length_map, List.length_range]
 rw [w64 (n := ((t + 1 : Nat) : Int) - 1) (by omega), show ((t + 1 : Nat) : Int) - 1 = (t : Int) by omega, ones_ref (by omega) (by simp)]
 simp only [Option.bind_some, iteD, iteND]
 have hl1 : (evOnes t).length = t := by simp [evOnes]
 have hl2 : (evMid t (absN n + 1)).length = t := by simp [evMid]
 have e2 : ((if (t : Int) < 20 then (if (([(⟨0, 0⟩ : Event)] ++ evOnes t).length + ([(Event.mk (IntKind.i64.wrap (1 + (t : Int))) 0)] : List Event).length) * 16 ≤ 140737488355328 then some ([(⟨0, 0⟩ : Event)] ++ evOnes t ++ [(Event.mk (IntKind.i64.wrap (1 + (t : Int))) 0)]) else none) else some ([(⟨0, 0⟩ : Event)] ++ evOnes t)) : Option (List Event)) = some ([(⟨0, 0⟩ : Event)] ++ evOnes t ++ (if t < 20 then [(⟨1 + (t : Int), 0⟩ : Event)] else [])) := by
  simp only [List.length_append, List.length_singleton, hl1]
  by_cases c : t < 20
  ·rw [if_pos (by omega), if_pos (by omega), if_pos c, w64 (by omega)]
  ·rw [if_neg (by omega), if_neg c, List.append_nil]
 rw [e2]
 simp only [Option.bind_some]
 rw [mid_ref (by omega) (by simp only [List.length_append, List.length_singleton, hl1]; split <;> simp <;> omega)]
 simp only [Option.bind_some]
 unfold evAll
 by_cases c : n = 0
 ·have : absN n = 0 := by unfold absN; omega
  rw [if_pos this, if_pos c, List.append_nil]
 ·have : ¬ absN n = 0 := by unfold absN; omega
  rw [if_neg this, if_neg c, if_pos]
  simp only [List.length_append, List.length_singleton, hl1, hl2]
  split <;> simp <;> omega
theorem Bits.unique {x : Int} {L M : Nat} (h : Bits x L) (h' : Bits x M) : L = M := by
 obtain ⟨a1, a2, a3⟩ := h
 obtain ⟨b1, b2, b3⟩ := h'
 have mono : ∀ {i j : Nat}, i ≤ j → (2 : Int) ^ i ≤ 2 ^ j := fun {i j} hij => by
  have := Nat.pow_le_pow_right (n := 2) (by decide) hij
  exact_mod_cast this
 rcases Nat.lt_trichotomy L M with q | q | q
 ·have := mono (show L ≤ M - 1 by omega); omega
 ·exact q
 ·have := mono (show M ≤ L - 1 by omega); omega
theorem events_prog {base n : Int} {t : Nat} (hb : -1000000 ≤ base ∧ base ≤ 1000000) (hn : -1048576 ≤ n ∧ n ≤ 1048576) (ht : t ≤ 20) (hB : Bits (absN n + 1) (t + 1)) : number_events base false n = some ((evAll n t).map (shiftE base)) := by
 have ha : 0 ≤ absN n ∧ absN n ≤ 1048576 := by unfold absN; omega
 obtain ⟨L, e0, hB', _⟩ := len_is (x := absN n + 1) (by omega) (by omega)
 obtain rfl := hB'.unique hB
 have em : imax n (0 - n) = absN n := by rw [imax_eq]; rfl
 have hl1 : (evOnes t).length = t := by simp [evOnes]
 have hl2 : (evMid t (absN n + 1)).length = t := by simp [evMid]
 rw [number_events_eq]
 simp only [Bool.false_eq_true, if_false]
 rw [w64 (n := 0 - n) (by omega), em, w64 (n := absN n + 1) (by omega), wu64, show (absN n + 1) % 18446744073709551616 = absN n + 1 by omega, e0]
 simp only [Option.bind_some]
 rw [w64 (n := ((t + 1 : Nat) : Int) - 1) (by omega), show ((t + 1 : Nat) : Int) - 1 = (t : Int) by omega, ones_prog hb (by omega) (by simp)]
 simp only [Option.bind_some, iteD, iteND]
 have e2 : ((if (t : Int) < 20 then (if (([(⟨base, 0⟩ : Event)] ++ (evOnes t).map (shiftE base)).length + ([(Event.mk (IntKind.i64.wrap (IntKind.i64.wrap (base + 1) + (t : Int))) 0)] : List Event).length) * 16 ≤ 140737488355328 then some ([(⟨base, 0⟩ : Event)] ++ (evOnes t).map (shiftE base) ++ [(Event.mk (IntKind.i64.wrap (IntKind.i64.wrap (base + 1) + (t : Int))) 0)]) else none) else some ([(⟨base, 0⟩ : Event)] ++ (evOnes t).map (shiftE base))) : Option (List Event)) = some (([(⟨0, 0⟩ : Event)] ++ evOnes t ++ (if t < 20 then [(⟨1 + (t : Int), 0⟩ : Event)] else [])).map (shiftE base)) := by
  simp only [List.length_append, List.length_singleton, List.length_map, hl1]
  rw [w64 (n := base + 1) (by omega), w64 (n := base + 1 + (t : Int)) (by omega)]
  by_cases c : t < 20
  ·rw [if_pos (by omega), if_pos (by omega), if_pos c]
   simp [shiftE, Int.add_assoc]
  ·rw [if_neg (by omega), if_neg c, List.append_nil]
   simp [shiftE]
 rw [e2]
 simp only [Option.bind_some]
 obtain ⟨b, e3⟩ := mid_prog (x := absN n + 1) (t := t) hb (by omega) (by omega) (by omega) (out := ([(⟨0, 0⟩ : Event)] ++ evOnes t ++ (if t < 20 then [(⟨1 + (t : Int), 0⟩ : Event)] else [])).map (shiftE base)) (by rw [List.length_map]; simp only [List.length_append, List.length_singleton, hl1]; split <;> simp <;> omega) t 0 (by omega)
 have e3' : loop (number_events_loop15 base (absN n + 1) (t : Int)) (IntKind.i64.wrap ((t : Int) - 1), ([(⟨0, 0⟩ : Event)] ++ evOnes t ++ (if t < 20 then [(⟨1 + (t : Int), 0⟩ : Event)] else [])).map (shiftE base), 44) = some ((([(⟨0, 0⟩ : Event)] ++ evOnes t ++ (if t < 20 then [(⟨1 + (t : Int), 0⟩ : Event)] else [])).map (shiftE base)) ++ (evMid t (absN n + 1)).map (shiftE base), b) := by
  rw [w64 (n := (t : Int) - 1) (by omega), ← e3, List.take_zero, List.map_nil, List.append_nil]
  rw [show (t : Int) - 1 - ((0 : Nat) : Int) = (t : Int) - 1 by omega]
  rfl
 rw [e3']
 simp only [Option.bind_some]
 unfold evAll
 by_cases c : n = 0
 ·rw [if_pos c, if_pos c, List.append_nil]
  simp only [List.map_append]
 ·rw [if_neg c, if_neg c, w64 (n := base + 22) (by omega)]
  have e4 : ((if n < 0 then some (base + 22, 1) else some (base + 22, 0)) : Option (Int × Int)) = some (base + 22, if n < 0 then 1 else 0) := by split <;> rfl
  rw [e4]
  simp only [Option.bind_some]
  rw [if_pos]
  ·simp [shiftE]
  ·simp only [List.length_append, List.length_map, List.length_singleton, hl1, hl2]
   split <;> simp <;> omega
theorem putNone_is {s : EncS} : coder_Encoder_Put (-1) 0 s.1 s.2.1 s.2.2.1 s.2.2.2.1 s.2.2.2.2 = some (2, s.1, s.2.1, s.2.2.1, s.2.2.2.1, s.2.2.2.2) := by
 rw [coder_Encoder_Put_eq, coder_Encoder_none_eq]
 rfl
/-- a number, or none, that fits its place -/
theorem numberPut_is {base n : Int} {none_ : Bool} {N B : Nat} {s : EncS} (hb : 0 ≤ base ∧ base + 48 ≤ (N : Int)) (hN : N ≤ 8192) (hn : if none_ = true then n = 0 else -1048576 ≤ n ∧ n ≤ 1048576) (h : EncAt N B s) (hB : B ≤ 100000000) :
  ∃ r, number_Put base none_ n s.1 s.2.1 s.2.2.1 s.2.2.2.1 s.2.2.2.2 = some (0, r) ∧ ref03_Put base none_ n s.1 s.2.1 s.2.2.1 s.2.2.2.1 s.2.2.2.2 = some (0, r) ∧ EncAt N (B + 400) r := by
 have hlen := h.2.1
 have ec := clone_is (kind := s.1) (st := s.2.2.2.1) (by rw [hlen]; exact hN)
 have hv : number_Valid none_ n = some true ∧ ref03_Valid none_ n = some true := by
  rw [number_Valid_eq, ref03_Valid_eq]
  cases none_ with
  | true => simp only [if_true] at hn ⊢; subst hn; exact ⟨rfl, rfl⟩
  | false =>
   simp only [Bool.false_eq_true, if_false, iteD] at hn ⊢
   rw [if_pos (show n ≥ -1048576 from hn.1)]
   simp [hn.2]
 obtain ⟨l, l1, l2, l3, l4⟩ : ∃ l, number_events base none_ n = some (l.map (shiftE base)) ∧ ref03_events none_ n = some l ∧ l.length ≤ 100 ∧ ∀ e ∈ l, EvOk base N e := by
  cases none_ with
  | true =>
   refine ⟨[⟨0, 1⟩], ?_, ?_, by simp, fun e he => ?_⟩
   ·rw [number_events_eq]; simp [shiftE]
   ·rw [ref03_events_eq]; rfl
   ·rw [List.mem_singleton] at he; subst he
    exact ⟨⟨by show 0 ≤ base + 0; omega, by show base + 0 < _; omega⟩, .inr rfl⟩
  | false =>
   simp only [Bool.false_eq_true, if_false] at hn
   obtain ⟨t, t1, t2, t3⟩ := events_ref hn
   obtain ⟨o1, o2⟩ := evAll_ok (n := n) t1
   refine ⟨evAll n t, events_prog (by omega) hn t1 t2, t3, by omega, fun e he => ?_⟩
   obtain ⟨⟨c0, c1⟩, c2⟩ := o2 e he
   exact ⟨⟨by omega, by omega⟩, c2⟩
 obtain ⟨r, r1, r2, r3⟩ := put_events l3 (by omega) (by omega) l4 h hB
 refine ⟨r, ?_, ?_, r3⟩
 ·rw [number_Put_eq, putNone_is]
  simp only [Option.bind_some, show ¬ ((2 : Int) = 7) by decide, decide_false, Bool.false_eq_true, if_false, hv.1, Bool.not_true]
  rw [coder_Encoder_Model_eq, coder_Encoder_none_eq]
  simp only [Option.bind_some, Bool.false_eq_true, if_false, ec.1]
  rw [number_fits_eq]
  simp only [iteD]
  rw [if_neg (by omega), w64 (by omega), if_neg (by omega)]
  simp only [Option.bind_some, decide_true, Bool.not_true, Bool.false_eq_true, if_false, l1]
  rw [r1]
  rfl
 ·rw [ref03_Put_eq, hv.2]
  simp only [Option.bind_some, Bool.not_true, Bool.false_eq_true, if_false]
  rw [ref02_Encoder_Model_eq, ec.2]
  simp only [Option.bind_some]
  rw [ref03_room_eq]
  simp only [iteD]
  rw [if_pos (by omega), if_pos (by omega), w64 (by omega)]
  have : (48 : Int) ≤ ((s.2.2.2.1.length : Nat) : Int) - base := by omega
  simp only [this, decide_true, Option.bind_some, Bool.not_true, Bool.false_eq_true, if_false, l2]
  rw [r2]
  rfl
end Go.Proofs.YtkccnhkhjncpkaaGreat.P
