/- The coder against its reference: how likely a bit is, the state behind it, the parts of an interval. -/
import Derived.Test.YtkccnhkhjncpkaaGreatQs
namespace Go.Proofs.YtkccnhkhjncpkaaGreat.P
open Go Go.Proofs.YtkccnhkhjncpkaaGreat.V
set_option linter.unusedVariables false
set_option linter.unusedSimpArgs false

/-- q(k) for each k -/
def QL : List Int := [2048, 1792, 1568, 1372, 1201, 1051, 920, 805, 705, 617, 540, 473, 414, 363, 318, 279, 245, 215, 189, 166, 146, 128, 112, 98, 86, 76, 67, 59, 52, 46, 41, 36]
theorem QL_next : ∀ i : Fin 31, IntKind.i64.wrap (rd QL ((i : Nat) : Int) - IntKind.i64.wrap ((rd QL ((i : Nat) : Int)).tdiv 8)) = rd QL (((i : Nat) + 1 : Nat) : Int) := by decide +kernel
theorem QL_range : ∀ i : Fin 32, 36 ≤ rd QL ((i : Nat) : Int) ∧ rd QL ((i : Nat) : Int) ≤ 2048 := by decide +kernel

theorem unlikely_loop {k : Nat} (hk : k < 32) : ∀ (d i : Nat), i + d = k → loop (ref02_unlikely_loop3 (k : Int)) (rd QL (i : Int), (i : Int)) = some (rd QL (k : Int))
  | 0, i, h => by
    have : i = k := by omega
    subst this
    refine loop_done ?_
    unfold ref02_unlikely_loop3
    simp
  | d + 1, i, h => by
    have hq := QL_next ⟨i, by omega⟩
    simp only at hq
    rw [loop_step (s' := (rd QL ((i + 1 : Nat) : Int), ((i + 1 : Nat) : Int)))]
    · exact unlikely_loop hk d (i + 1) (by omega)
    · unfold ref02_unlikely_loop3
      have h1 : (i : Int) < (k : Int) := by omega
      simp only [h1, decide_true, if_true, hq]
      rw [w64 (by omega)]; rfl
theorem unlikely_is {k : Int} (h0 : 0 ≤ k) (h1 : k < 32) : ref02_unlikely k = some (rd QL k) := by
  obtain ⟨n, rfl⟩ := Int.eq_ofNat_of_zero_le h0
  rw [ref02_unlikely_eq]
  have := unlikely_loop (k := n) (by omega) n 0 (by omega)
  have h2 : rd QL ((0 : Nat) : Int) = 2048 := by decide
  rw [h2] at this
  rw [show ((0 : Nat) : Int) = 0 from rfl] at this
  rw [this]; rfl

/-- a model's state -/
def StateOk (kind s : Int) : Prop := (kind = 0 ∧ 0 ≤ s ∧ s < 64) ∨ (kind = 1 ∧ 0 ≤ s ∧ s < 65536)

theorem chance_is {kind s : Int} (h : StateOk kind s) : coder_table_chance kind s = ref02_Likely kind s := by
  rw [coder_table_chance_eq, ref02_Likely_eq]
  rcases h with ⟨rfl, h0, h1⟩ | ⟨rfl, h0, h1⟩
  · simp only [tmod_pos h0]
    simp only [show ¬ ((0 : Int) = 1) by decide, decide_true, decide_false, Bool.false_eq_true, if_true, if_false]
    rw [unlikely_is (by omega) (by omega)]
    by_cases h2 : s < 32
    · have h3 : ¬ s ≥ 32 := by omega
      have h4 : s % 32 = s := by omega
      have h5 : s < ((32 : Nat) : Int) := by omega
      simp only [h2, h3, h4, h5, h0, decide_true, decide_false, Bool.false_eq_true, if_true, if_false, and_self, Option.bind_some]
      rfl
    · have h3 : s ≥ 32 := by omega
      have h4 : s % 32 = s - 32 := by omega
      rw [w64 (n := s - 32) (by omega)]
      have h5 : 0 ≤ s - 32 := by omega
      have h6 : s - 32 < ((32 : Nat) : Int) := by omega
      simp only [h2, h3, h4, h5, h6, decide_true, decide_false, Bool.false_eq_true, if_true, if_false, and_self, Option.bind_some]
      rfl
  · simp only [show ¬ ((1 : Int) = 0) by decide, decide_true, decide_false, Bool.false_eq_true, if_true, if_false]

theorem next_is {kind s bit : Int} (h : StateOk kind s) (hb : bit = 0 ∨ bit = 1) : coder_next kind s bit = ref02_After kind s bit := by
  rw [coder_next_eq, ref02_After_eq]
  rcases h with ⟨rfl, h0, h1⟩ | ⟨rfl, h0, h1⟩
  · simp only [tmod_pos h0, tdiv_pos h0]
    simp only [show ¬ ((0 : Int) = 1) by decide, decide_true, decide_false, Bool.false_eq_true, if_true, if_false]
    by_cases h2 : bit = IntKind.i64.wrap (s / 32)
    · simp only [h2, decide_true, if_true]
    · simp only [h2, decide_false, Bool.false_eq_true, if_false]
      by_cases h3 : s % 32 = 0
      · simp only [h3, decide_true, if_true]
        rw [w64 (n := 32 * bit) (by omega), Int.add_zero, w64 (by omega)]
      · simp only [h3, decide_false, Bool.false_eq_true, if_false]
        rw [tdiv_pos (by omega)]
        simp only [w64s]
        congr 1
        omega
  · simp only [show ¬ ((1 : Int) = 0) by decide, decide_true, decide_false, Bool.false_eq_true, if_true, if_false]

/-! ### The interval: two numbers of 32 bits -/
theorem ushr24 (n : Int) : ishr .u64 n 24 = n / 16777216 := by
  unfold ishr
  rw [show (2 : Int) ^ (min (24 : Int).toNat IntKind.u64.bits) = 16777216 by decide, Int.fdiv_eq_ediv_of_nonneg _ (by decide)]
theorem ushl8 {n : Int} (h0 : 0 ≤ n) (h1 : n < 4294967296) : ishl .u64 n 8 = n * 256 := by
  unfold ishl
  rw [show (2 : Int) ^ (min (8 : Int).toNat IntKind.u64.bits) = 256 by decide, wu64]
  omega
theorem ubv (m : Nat) : BitVec.ofInt 64 (m : Int) = BitVec.ofNat 64 m := by simp
theorem uand32 {n : Int} (h0 : 0 ≤ n) (h1 : n < 18446744073709551616) : iand .u64 n 4294967295 = n % 4294967296 := by
  obtain ⟨m, rfl⟩ := Int.eq_ofNat_of_zero_le h0
  unfold iand
  rw [show IntKind.u64.bits = 64 from rfl, show (4294967295 : Int) = ((4294967295 : Nat) : Int) from rfl, ubv, ubv, BitVec.toNat_and, BitVec.toNat_ofNat, BitVec.toNat_ofNat, wu64]
  rw [Nat.mod_eq_of_lt (show m < 2 ^ 64 by omega), show (4294967295 : Nat) % 2 ^ 64 = 2 ^ 32 - 1 by decide, Nat.and_two_pow_sub_one_eq_mod]
  omega
theorem uor255 {n : Int} (h0 : 0 ≤ n) (h1 : n < 18446744073709551616) (h : n % 256 = 0) : ior .u64 n 255 = n + 255 := by
  obtain ⟨m, rfl⟩ := Int.eq_ofNat_of_zero_le h0
  unfold ior
  rw [show IntKind.u64.bits = 64 from rfl, show (255 : Int) = ((255 : Nat) : Int) from rfl, ubv, ubv, BitVec.toNat_or, BitVec.toNat_ofNat, BitVec.toNat_ofNat, wu64]
  rw [Nat.mod_eq_of_lt (show m < 2 ^ 64 by omega), show (255 : Nat) % 2 ^ 64 = 255 by decide]
  obtain ⟨k, hk⟩ : ∃ k, m = 2 ^ 8 * k := ⟨m / 256, by omega⟩
  subst hk
  rw [← Nat.two_pow_add_eq_or_of_lt (show 255 < 2 ^ 8 by decide)]
  omega

/-- low and high -/
def Iv (lo hi : Int) : Prop := 0 ≤ lo ∧ lo ≤ hi ∧ hi < 4294967296

theorem lose_is {kind lo hi : Int} {st out : List Int} (h : Iv lo hi) : coder_interval_lose kind lo hi st out = some (lo / 16777216, kind, lo % 16777216 * 256, hi % 16777216 * 256 + 255, st, out) := by
  obtain ⟨h0, h1, h2⟩ := h
  rw [coder_interval_lose_eq]
  simp only
  rw [ushr24, ushl8 h0 (by omega), ushl8 (by omega) h2, uand32 (by omega) (by omega), uand32 (by omega) (by omega), uor255 (by omega) (by omega) (by omega), w8]
  congr 2
  · omega
  · congr 1
    congr 1
    · omega
    · congr 1
      omega
theorem shifted_is {lo hi : Int} (h : Iv lo hi) : ref02_Interval_Shifted lo hi = some (lo % 16777216 * 256, hi % 16777216 * 256 + 255) := by
  obtain ⟨h0, h1, h2⟩ := h
  rw [ref02_Interval_Shifted_eq]
  simp only [tmod_pos h0, tmod_pos (show (0 : Int) ≤ hi by omega), wu64]
  congr 2 <;> omega
theorem fixed_is {lo hi : Int} : ref02_Interval_Fixed lo hi = some (decide (lo / 16777216 = hi / 16777216)) := by
  rw [ref02_Interval_Fixed_eq]
  simp only [ushr24]

/-- where a chance cuts an interval -/
def midV (lo hi p : Int) : Int := lo + (hi - lo) / 4096 * p + (hi - lo) % 4096 * p / 4096
theorem midV_ge {lo hi p : Int} (h : lo ≤ hi) (hp : 0 ≤ p) : lo ≤ midV lo hi p := by
  unfold midV
  have h1 : 0 ≤ (hi - lo) / 4096 * p := Int.mul_nonneg (by omega) hp
  have h2 : 0 ≤ (hi - lo) % 4096 * p := Int.mul_nonneg (by omega) hp
  omega
theorem midV_lt {lo hi p : Int} (h : lo < hi) (hp : 0 ≤ p) (hp2 : p < 4096) : midV lo hi p < hi := by
  unfold midV
  have h1 : (hi - lo) / 4096 * p ≤ (hi - lo) / 4096 * 4095 := Int.mul_le_mul_of_nonneg_left (by omega) (by omega)
  have h2 : (hi - lo) % 4096 * p ≤ (hi - lo) % 4096 * 4095 := Int.mul_le_mul_of_nonneg_left (by omega) (by omega)
  omega
theorem refMid_is {lo hi p : Int} (h : Iv lo hi) (hp : 0 ≤ p) (hp2 : p < 4096) : ref02_Interval_Mid lo hi p = some (midV lo hi p) := by
  obtain ⟨h0, h1, h2⟩ := h
  have a1 : 0 ≤ (hi - lo) / 4096 * p := Int.mul_nonneg (by omega) hp
  have a2 : (hi - lo) / 4096 * p ≤ (hi - lo) / 4096 * 4095 := Int.mul_le_mul_of_nonneg_left (by omega) (by omega)
  have a3 : 0 ≤ (hi - lo) % 4096 * p := Int.mul_nonneg (by omega) hp
  have a4 : (hi - lo) % 4096 * p ≤ (hi - lo) % 4096 * 4095 := Int.mul_le_mul_of_nonneg_left (by omega) (by omega)
  rw [ref02_Interval_Mid_eq]
  unfold midV
  simp only [wu64, show (hi - lo) % 18446744073709551616 = hi - lo by omega, tdiv_pos (show 0 ≤ hi - lo by omega), tmod_pos (show 0 ≤ hi - lo by omega), show p % 18446744073709551616 = p by omega,
    show (hi - lo) / 4096 % 18446744073709551616 = (hi - lo) / 4096 by omega]
  rw [show (hi - lo) % 4096 * p % 18446744073709551616 = (hi - lo) % 4096 * p by omega, tdiv_pos a3]
  congr 1
  omega
theorem part_is {lo hi p bit : Int} (h : Iv lo hi) (hp : 0 ≤ p) (hp2 : p < 4096) : ref02_Interval_Part lo hi p bit = some (if bit = 1 then (lo, midV lo hi p) else (midV lo hi p + 1, hi)) := by
  have hm := midV_ge h.2.1 hp
  have hm2 : midV lo hi p ≤ hi := by
    rcases Int.lt_or_le lo hi with h1 | h1
    · have := midV_lt h1 hp hp2; omega
    · have : hi = lo := by have := h.2.1; omega
      subst this
      unfold midV; simp
  have h2 := h.2.2
  have h0 := h.1
  rw [ref02_Interval_Part_eq, refMid_is h hp hp2]
  by_cases hb : bit = 1
  · simp only [hb, decide_true, if_true, Option.bind_some]
  · simp only [hb, decide_false, Bool.false_eq_true, if_false, Option.bind_some, wu64]
    congr 2
    omega
theorem mid_is {ctx kind lo hi p : Int} {st out : List Int} (h : Iv lo hi) (hc : 0 ≤ ctx ∧ ctx < (st.length : Int)) (hq : ref02_Likely kind (rd st ctx) = some p) (hs : StateOk kind (rd st ctx)) (hp : 0 ≤ p) (hp2 : p < 4096) :
    coder_interval_mid ctx kind lo hi st out = some (midV lo hi p, kind, lo, hi, st, out) := by
  have hr := refMid_is h hp hp2
  rw [ref02_Interval_Mid_eq] at hr
  have hr := Option.some.inj hr
  rw [coder_interval_mid_eq]
  simp only [hc, and_self, if_true, chance_is hs, hq, Option.bind_some]
  rw [hr]

/-- how likely a 1 is, in a state -/
theorem likely_is {kind s : Int} (h : StateOk kind s) : ∃ p, ref02_Likely kind s = some p ∧ 0 ≤ p ∧ p < 4096 := by
  rw [ref02_Likely_eq]
  rcases h with ⟨rfl, h0, h1⟩ | ⟨rfl, h0, h1⟩
  · simp only [tmod_pos h0, decide_true, if_true]
    rw [unlikely_is (by omega) (by omega)]
    have hr := QL_range ⟨(s % 32).toNat, by omega⟩
    simp only [show (((s % 32).toNat : Nat) : Int) = s % 32 by omega] at hr
    by_cases h2 : s < 32
    · simp only [h2, decide_true, if_true, Option.bind_some]
      exact ⟨_, rfl, by omega, by omega⟩
    · simp only [h2, decide_false, Bool.false_eq_true, if_false, Option.bind_some]
      exact ⟨_, rfl, by rw [w64 (by omega)]; omega, by rw [w64 (by omega)]; omega⟩
  · simp only [tmod_pos h0, tdiv_pos h0, show ¬ ((1 : Int) = 0) by decide, decide_false, Bool.false_eq_true, if_false]
    have e1 : IntKind.i64.wrap (s / 256) = s / 256 := w64 (by omega)
    have e2 : IntKind.i64.wrap (2 * (s % 256)) = 2 * (s % 256) := w64 (by omega)
    have e3 : IntKind.i64.wrap (2 * (s / 256)) = 2 * (s / 256) := w64 (by omega)
    rw [e1, e2, e3, w64 (n := 2 * (s / 256) + 2 * (s % 256)) (by omega), w64 (n := 2 * (s / 256) + 2 * (s % 256) + 2) (by omega), if_neg (by omega)]
    refine ⟨_, rfl, ?_, ?_⟩ <;> rw [imin_eq, imax_eq] <;> omega

theorem take_is {ctx bit mid kind lo hi : Int} {st out : List Int} (hb : bit = 0 ∨ bit = 1) (hc : 0 ≤ ctx ∧ ctx < (st.length : Int)) (hs : StateOk kind (rd st ctx)) (hm : 0 ≤ mid ∧ mid < 4294967296) :
    coder_interval_take ctx bit mid kind lo hi st out = (ref02_After kind (rd st ctx) bit).bind fun s => some (if bit = 1 then (kind, lo, mid, st.set ctx.toNat s, out) else (kind, mid + 1, hi, st.set ctx.toNat s, out)) := by
  rw [coder_interval_take_eq]
  have hw : IntKind.u64.wrap (mid + 1) = mid + 1 := by rw [wu64]; omega
  by_cases h1 : bit = 1
  · simp only [h1, decide_true, if_true, Option.bind_some, hc, and_self]
    rw [next_is hs (.inr rfl)]
  · simp only [h1, decide_false, Bool.false_eq_true, if_false, Option.bind_some, hc, and_self, if_true, hw]
    rw [next_is hs hb]

theorem after_is {kind s bit : Int} (h : StateOk kind s) (hb : bit = 0 ∨ bit = 1) : ∃ s', ref02_After kind s bit = some s' ∧ StateOk kind s' := by
  rw [ref02_After_eq]
  rcases h with ⟨rfl, h0, h1⟩ | ⟨rfl, h0, h1⟩
  · simp only [tmod_pos h0, tdiv_pos h0, decide_true, if_true]
    rw [tdiv_pos (show 0 ≤ s % 32 by omega)]
    have e1 : IntKind.i64.wrap (s / 32) = s / 32 := w64 (by omega)
    simp only [e1]
    by_cases h2 : bit = s / 32
    · simp only [h2, decide_true, if_true]
      refine ⟨_, rfl, .inl ⟨rfl, ?_⟩⟩
      rw [w64 (n := 32 * (s / 32)) (by omega), w64 (n := s % 32 + 1) (by omega), imin_eq, w64 (by omega)]
      omega
    · simp only [h2, decide_false, Bool.false_eq_true, if_false]
      by_cases h3 : s % 32 = 0
      · simp only [h3, decide_true, if_true]
        exact ⟨_, rfl, .inl ⟨rfl, by rw [w64 (by omega)]; omega⟩⟩
      · simp only [h3, decide_false, Bool.false_eq_true, if_false]
        refine ⟨_, rfl, .inl ⟨rfl, ?_⟩⟩
        rw [w64 (n := 32 * (s / 32)) (by omega), w64 (n := 32 * (s / 32) + s % 32) (by omega), w64 (n := 32 * (s / 32) + s % 32 - 1) (by omega), w64 (n := s % 32 / 4) (by omega), w64 (by omega)]
        omega
  · simp only [tmod_pos h0, tdiv_pos h0, show ¬ ((1 : Int) = 0) by decide, decide_false, Bool.false_eq_true, if_false]
    have e1 : IntKind.i64.wrap (s / 256) = s / 256 := w64 (by omega)
    have e2 : IntKind.i64.wrap ((s / 256).tdiv 2) = s / 256 / 2 := by rw [tdiv_pos (by omega), w64 (by omega)]
    have e3 : IntKind.i64.wrap ((s % 256).tdiv 2) = s % 256 / 2 := by rw [tdiv_pos (by omega), w64 (by omega)]
    have c0 : 0 ≤ (0 : Int) ∧ (0 : Int) < ((2 : Nat) : Int) := by decide
    have c1 : 0 ≤ (1 : Int) ∧ (1 : Int) < ((2 : Nat) : Int) := by decide
    have r0 : ∀ a b : Int, rd [a, b] 0 = a := fun a b => rfl
    have r1 : ∀ a b : Int, rd [a, b] 1 = b := fun a b => rfl
    rcases hb with rfl | rfl
    · simp only [c0, c1, and_self, if_true, e1, e2, e3, r0]
      by_cases h2 : s / 256 = 255
      · simp only [h2, decide_true, if_true, Option.bind_some, r0]
        refine ⟨_, rfl, .inr ⟨rfl, ?_⟩⟩
        simp only [show ¬ ((0 : Int) = 1) by decide, if_false, w64s]
        omega
      · simp only [h2, decide_false, Bool.false_eq_true, if_false, Option.bind_some, r0]
        refine ⟨_, rfl, .inr ⟨rfl, ?_⟩⟩
        simp only [show ¬ ((0 : Int) = 1) by decide, if_false, if_true, w64s]
        omega
    · simp only [c0, c1, and_self, if_true, e1, e2, e3, r1]
      by_cases h2 : s % 256 = 255
      · simp only [h2, decide_true, if_true, Option.bind_some, r1]
        refine ⟨_, rfl, .inr ⟨rfl, ?_⟩⟩
        simp only [show ¬ ((1 : Int) = 0) by decide, if_false, if_true, w64s]
        omega
      · simp only [h2, decide_false, Bool.false_eq_true, if_false, Option.bind_some, r1]
        refine ⟨_, rfl, .inr ⟨rfl, ?_⟩⟩
        simp only [show ¬ ((1 : Int) = 0) by decide, if_false, if_true, w64s]
        omega

/-! ### Bytes that are known leave -/
def flush : Nat → Int → Int → List Int → Int × Int × List Int
  | 0, lo, hi, out => (lo, hi, out)
  | n + 1, lo, hi, out => if lo / 16777216 = hi / 16777216 then flush n (lo % 16777216 * 256) (hi % 16777216 * 256 + 255) (out ++ [hi / 16777216]) else (lo, hi, out)
def gapOf : Nat → Int
  | 0 => 4294967295
  | 1 => 16777215
  | 2 => 65535
  | 3 => 255
  | _ => 0
theorem gap_step {n : Nat} {d : Int} (h : gapOf (n + 1) ≤ d) (h0 : 0 ≤ d) : gapOf n ≤ 256 * d + 255 := by
  match n with
  | 0 => simp only [gapOf] at h ⊢; omega
  | 1 => simp only [gapOf] at h ⊢; omega
  | 2 => simp only [gapOf] at h ⊢; omega
  | 3 => simp only [gapOf] at h ⊢; omega
  | n + 4 => simp only [gapOf]; omega
theorem Iv.shift {lo hi : Int} (h : Iv lo hi) (e : lo / 16777216 = hi / 16777216) : Iv (lo % 16777216 * 256) (hi % 16777216 * 256 + 255) ∧ hi % 16777216 * 256 + 255 - lo % 16777216 * 256 = 256 * (hi - lo) + 255 := by
  obtain ⟨h0, h1, h2⟩ := h
  exact ⟨⟨by omega, by omega, by omega⟩, by omega⟩
theorem refPut_loop {kind : Int} {st : List Int} : ∀ (n : Nat) (lo hi : Int) (out : List Int), Iv lo hi → gapOf n ≤ hi - lo → out.length + n ≤ 140737488355328 →
    loop ref02_Encoder_Put_loop8 (kind, lo, hi, st, out) = some (kind, (flush n lo hi out).1, (flush n lo hi out).2.1, st, (flush n lo hi out).2.2)
  | 0, lo, hi, out, h, hg, hl => by
    refine loop_done ?_
    unfold ref02_Encoder_Put_loop8
    simp only [fixed_is, Option.bind_some]
    simp only [gapOf] at hg
    have hne : ¬ lo / 16777216 = hi / 16777216 := by obtain ⟨h0, h1, h2⟩ := h; omega
    simp only [hne, decide_false, Bool.false_eq_true, if_false, flush]
  | n + 1, lo, hi, out, h, hg, hl => by
    by_cases e : lo / 16777216 = hi / 16777216
    · obtain ⟨h1, h2⟩ := h.shift e
      rw [loop_step (s' := (kind, lo % 16777216 * 256, hi % 16777216 * 256 + 255, st, out ++ [hi / 16777216]))]
      · rw [refPut_loop n _ _ _ h1 (by rw [h2]; exact gap_step hg (by have := h.2.1; omega)) (by simp; omega)]
        simp only [flush, e, if_true]
      · have hb : IntKind.u8.wrap (hi / 16777216) = hi / 16777216 := by obtain ⟨q0, q1, q2⟩ := h; rw [w8]; omega
        unfold ref02_Encoder_Put_loop8
        simp only [fixed_is, Option.bind_some, ushr24, hb, shifted_is h]
        simp only [e, decide_true, if_true, List.length_singleton]
        rw [if_pos (by omega)]
    · refine loop_done ?_
      unfold ref02_Encoder_Put_loop8
      simp only [fixed_is, Option.bind_some]
      simp only [e, decide_false, Bool.false_eq_true, if_false, flush]
theorem flush_is : ∀ (n : Nat) (lo hi : Int) (out : List Int), Iv lo hi → gapOf n ≤ hi - lo → Iv (flush n lo hi out).1 (flush n lo hi out).2.1 ∧ (flush n lo hi out).1 / 16777216 ≠ (flush n lo hi out).2.1 / 16777216 ∧ (flush n lo hi out).2.2.length ≤ out.length + n ∧ out.length ≤ (flush n lo hi out).2.2.length
  | 0, lo, hi, out, h, hg => by
    simp only [gapOf] at hg
    refine ⟨h, ?_, Nat.le_refl _, Nat.le_refl _⟩
    show lo / 16777216 ≠ hi / 16777216
    obtain ⟨h0, h1, h2⟩ := h
    omega
  | n + 1, lo, hi, out, h, hg => by
    by_cases e : lo / 16777216 = hi / 16777216
    · obtain ⟨h1, h2⟩ := h.shift e
      have := flush_is n _ _ (out ++ [hi / 16777216]) h1 (by rw [h2]; exact gap_step hg (by have := h.2.1; omega))
      simp only [flush, e, if_true]
      simp only [List.length_append, List.length_singleton] at this
      exact ⟨this.1, this.2.1, by omega, by omega⟩
    · simp only [flush, e, if_false]
      exact ⟨h, e, by omega, Nat.le_refl _⟩

/-- what an encoder is, between two calls -/
structure EncOk (kind lo hi : Int) (st : List Int) : Prop where
  two : kind = 0 ∨ kind = 1
  iv : Iv lo hi
  open_ : lo / 16777216 ≠ hi / 16777216
  states : ∀ s ∈ st, StateOk kind s

/-- a bit that is put -/
theorem refPut_is {ctx bit kind lo hi : Int} {st out : List Int} (h : EncOk kind lo hi st) (hc : 0 ≤ ctx ∧ ctx < (st.length : Int)) (hb : bit = 0 ∨ bit = 1) (hl : out.length + 4 ≤ 140737488355328) :
    ∃ p s lo1 hi1, ref02_Likely kind (rd st ctx) = some p ∧ 0 ≤ p ∧ p < 4096 ∧ ref02_After kind (rd st ctx) bit = some s ∧ StateOk kind s ∧ (lo1, hi1) = (if bit = 1 then (lo, midV lo hi p) else (midV lo hi p + 1, hi)) ∧ Iv lo1 hi1 ∧
      ref02_Encoder_Put ctx bit kind lo hi st out = some (0, kind, (flush 4 lo1 hi1 out).1, (flush 4 lo1 hi1 out).2.1, st.set ctx.toNat s, (flush 4 lo1 hi1 out).2.2) := by
  have hs : StateOk kind (rd st ctx) := h.states _ (List.mem_of_getElem? (rd_get hc.1 hc.2))
  obtain ⟨p, hp, hp0, hp1⟩ := likely_is hs
  obtain ⟨s, ha, hs'⟩ := after_is hs hb
  have hlt : lo < hi := by
    have := h.open_
    have := h.iv.2.1
    rcases Int.lt_or_le lo hi with q | q
    · exact q
    · exact absurd (by rw [show lo = hi by omega]) h.open_
  have hm := midV_ge h.iv.2.1 hp0
  have hm2 := midV_lt hlt hp0 hp1
  obtain ⟨i0, i1, i2⟩ := h.iv
  refine ⟨p, s, (if bit = 1 then (lo, midV lo hi p) else (midV lo hi p + 1, hi)).1, (if bit = 1 then (lo, midV lo hi p) else (midV lo hi p + 1, hi)).2, hp, hp0, hp1, ha, hs', rfl, ?_, ?_⟩
  · split
    · exact ⟨i0, hm, by omega⟩
    · exact ⟨by show 0 ≤ midV lo hi p + 1; omega, by show midV lo hi p + 1 ≤ hi; omega, i2⟩
  · have hiv : Iv (if bit = 1 then (lo, midV lo hi p) else (midV lo hi p + 1, hi)).1 (if bit = 1 then (lo, midV lo hi p) else (midV lo hi p + 1, hi)).2 := by
      split
      · exact ⟨i0, hm, by omega⟩
      · exact ⟨by show 0 ≤ midV lo hi p + 1; omega, by show midV lo hi p + 1 ≤ hi; omega, i2⟩
    rw [ref02_Encoder_Put_eq]
    have c1 : ¬ ctx < 0 := by omega
    have c2 : ¬ ctx ≥ ((st.length : Nat) : Int) := by omega
    have c3 : (if (!decide (bit = 0)) = true then some (!decide (bit = 1)) else some false) = some false := by rcases hb with rfl | rfl <;> rfl
    simp only [c1, c2, c3, decide_false, Bool.false_eq_true, if_false, Option.bind_some, hc, and_self, if_true, hp, ha, part_is h.iv hp0 hp1]
    rw [refPut_loop 4 _ _ _ hiv (by simp only [gapOf]; have := hiv.2.1; omega) (by omega)]
    rfl

/-! ### The end of a code: as few bytes of high as can be -/
theorem ushr_lit {n s m : Int} (hm : (2 : Int) ^ (min s.toNat IntKind.u64.bits) = m) (h0 : 0 ≤ m) : ishr .u64 n s = n / m := by
  unfold ishr; rw [hm, Int.fdiv_eq_ediv_of_nonneg _ h0]
theorem ushl_lit {n s m : Int} (hm : (2 : Int) ^ (min s.toNat IntKind.u64.bits) = m) (h : 0 ≤ n * m ∧ n * m < 18446744073709551616) : ishl .u64 n s = n * m := by
  unfold ishl; rw [hm, wu64]; omega
def tbyte (hi : Int) : Nat → Int
  | 0 => hi / 16777216 % 256
  | 1 => hi / 65536 % 256
  | 2 => hi / 256 % 256
  | _ => hi / 1 % 256
def cutH (hi : Int) : Nat → Int
  | 0 => 0
  | 1 => hi / 16777216 * 16777216
  | 2 => hi / 65536 * 65536
  | 3 => hi / 256 * 256
  | _ => hi
def tbl (hi : Int) : Nat → List Int
  | 0 => []
  | n + 1 => tbl hi n ++ [tbyte hi n]
theorem tbl_len (hi : Int) : ∀ n, (tbl hi n).length = n
  | 0 => rfl
  | n + 1 => by simp [tbl, tbl_len hi n]
theorem refEnd_step {lo hi : Int} (h : Iv lo hi) : ∀ k, k < 4 → cutH hi k < lo → ref02_Interval_End_loop3 lo hi (cutH hi k, tbl hi k) = some (.inl (cutH hi (k + 1), tbl hi (k + 1))) := by
  intro k hk hlt
  obtain ⟨h0, h1, h2⟩ := h
  have hh : 0 ≤ hi := by omega
  unfold ref02_Interval_End_loop3
  simp only [hlt, decide_true, if_true, tbl_len, List.length_singleton]
  rcases k with _ | _ | _ | _ | k
  · have e : IntKind.i64.wrap (24 - IntKind.i64.wrap (8 * ((0 : Nat) : Int))) = 24 := by decide
    rw [e, ushr_lit (m := 16777216) (by decide) (by decide), tmod_pos (by omega), ushl_lit (m := 16777216) (by decide) (by omega), wu64, w8]
    simp only [cutH, tbl, tbyte, List.nil_append]
    rw [if_neg (by decide), if_pos (by decide), if_neg (by decide), if_neg (by decide)]
    congr 3
    omega
  · have e : IntKind.i64.wrap (24 - IntKind.i64.wrap (8 * ((0 + 1 : Nat) : Int))) = 16 := by decide
    rw [e, ushr_lit (m := 65536) (by decide) (by decide), tmod_pos (by omega), ushl_lit (m := 65536) (by decide) (by omega), wu64, w8]
    simp only [cutH, tbl, tbyte, List.nil_append]
    rw [if_neg (by decide), if_pos (by decide), if_neg (by decide), if_neg (by decide)]
    congr 3
    omega
  · have e : IntKind.i64.wrap (24 - IntKind.i64.wrap (8 * ((0 + 1 + 1 : Nat) : Int))) = 8 := by decide
    rw [e, ushr_lit (m := 256) (by decide) (by decide), tmod_pos (by omega), ushl_lit (m := 256) (by decide) (by omega), wu64, w8]
    simp only [cutH, tbl, tbyte, List.nil_append]
    rw [if_neg (by decide), if_pos (by decide), if_neg (by decide), if_neg (by decide)]
    congr 3
    omega
  · have e : IntKind.i64.wrap (24 - IntKind.i64.wrap (8 * ((0 + 1 + 1 + 1 : Nat) : Int))) = 0 := by decide
    rw [e, ushr_lit (m := 1) (by decide) (by decide), tmod_pos (by omega), ushl_lit (m := 1) (by decide) (by omega), wu64, w8]
    simp only [cutH, tbl, tbyte, List.nil_append]
    rw [if_neg (by decide), if_pos (by decide), if_neg (by decide), if_neg (by decide)]
    congr 3
    omega
  · omega
/-- how many bytes an end takes -/
def endN (lo hi : Int) : Nat := if lo ≤ cutH hi 0 then 0 else if lo ≤ cutH hi 1 then 1 else if lo ≤ cutH hi 2 then 2 else if lo ≤ cutH hi 3 then 3 else 4
theorem endN_is {lo hi : Int} (h : Iv lo hi) : endN lo hi ≤ 4 ∧ (∀ k, k < endN lo hi → cutH hi k < lo) ∧ lo ≤ cutH hi (endN lo hi) := by
  unfold endN
  split
  · exact ⟨by omega, fun k hk => by omega, ‹_›⟩
  · split
    · exact ⟨by omega, fun k hk => by obtain rfl : k = 0 := by omega
                                      omega, ‹_›⟩
    · split
      · refine ⟨by omega, fun k hk => ?_, ‹_›⟩
        rcases k with _ | _ | k <;> (try simp only [Nat.zero_add]) <;> omega
      · split
        · refine ⟨by omega, fun k hk => ?_, ‹_›⟩
          rcases k with _ | _ | _ | k <;> (try simp only [Nat.zero_add, Nat.reduceAdd]) <;> omega
        · refine ⟨by omega, fun k hk => ?_, h.2.1⟩
          rcases k with _ | _ | _ | _ | k <;> (try simp only [Nat.zero_add, Nat.reduceAdd]) <;> omega
theorem refEnd_loop {lo hi : Int} (h : Iv lo hi) : ∀ d k, k + d = endN lo hi → loop (ref02_Interval_End_loop3 lo hi) (cutH hi k, tbl hi k) = some (tbl hi (endN lo hi))
  | 0, k, hk => by
    obtain ⟨_, _, h3⟩ := endN_is h
    rw [Nat.add_zero] at hk
    rw [← hk] at h3 ⊢
    refine loop_done ?_
    unfold ref02_Interval_End_loop3
    have : ¬ cutH hi k < lo := by omega
    simp only [this, decide_false, Bool.false_eq_true, if_false]
  | d + 1, k, hk => by
    obtain ⟨h1, h2, _⟩ := endN_is h
    rw [loop_step (refEnd_step h k (by omega) (h2 k (by omega)))]
    exact refEnd_loop h d (k + 1) (by omega)
theorem refEnd_is {kind lo hi : Int} {st out : List Int} (h : Iv lo hi) (hl : out.length + 4 ≤ 140737488355328) : ref02_Encoder_End kind lo hi st out = some (out ++ tbl hi (endN lo hi), kind, lo, hi, st, out) := by
  have h1 := (endN_is h).1
  rw [ref02_Encoder_End_eq, ref02_Interval_End_eq]
  have := refEnd_loop h (endN lo hi) 0 (by omega)
  rw [show cutH hi 0 = 0 from rfl, show tbl hi 0 = [] from rfl] at this
  rw [this]
  simp only [List.length_nil, List.nil_append, Option.bind_some, tbl_len]
  rw [if_pos (by omega), if_pos (by omega)]
theorem endIn_loop {lo hi : Int} (h : Iv lo hi) {n : Nat} (hn : n ≤ 4) {out : List Int} (hl : out.length + 4 ≤ 140737488355328) : ∀ d k, k + d = n → loop (coder_Encoder_End_loop10 hi (n : Int)) ((k : Int), out ++ tbl hi k) = some (out ++ tbl hi n)
  | 0, k, hk => by
    rw [Nat.add_zero] at hk
    subst hk
    refine loop_done ?_
    unfold coder_Encoder_End_loop10
    simp
  | d + 1, k, hk => by
    rw [loop_step (s' := (((k + 1 : Nat) : Int), out ++ tbl hi (k + 1)))]
    · exact endIn_loop h hn hl d (k + 1) (by omega)
    · obtain ⟨h0, h1, h2⟩ := h
      unfold coder_Encoder_End_loop10
      have h3 : (k : Int) < (n : Int) := by omega
      simp only [h3, decide_true, if_true, List.length_append, tbl_len, List.length_singleton]
      have hw : IntKind.i64.wrap ((k : Int) + 1) = ((k + 1 : Nat) : Int) := by rw [w64 (by omega)]; rfl
      have e : IntKind.i64.wrap (24 - IntKind.i64.wrap (8 * (k : Int))) = 24 - 8 * (k : Int) := by rw [w64 (n := 8 * (k : Int)) (by omega), w64 (by omega)]
      have hb : IntKind.u8.wrap (ishr .u64 hi (24 - 8 * (k : Int))) = tbyte hi k := by
        rcases k with _ | _ | _ | _ | k
        · rw [ushr_lit (m := 16777216) (by decide) (by decide), w8]; rfl
        · rw [ushr_lit (m := 65536) (by decide) (by decide), w8]; rfl
        · rw [ushr_lit (m := 256) (by decide) (by decide), w8]; rfl
        · rw [ushr_lit (m := 1) (by decide) (by decide), w8]; rfl
        · omega
      rw [e, hb, hw, if_neg (by omega), if_pos (by omega)]
      simp only [tbl, List.append_assoc]
theorem endOut_loop {lo hi : Int} (h : Iv lo hi) {out : List Int} (hl : out.length + 4 ≤ 140737488355328) : ∀ d k, k + d = endN lo hi → loop (coder_Encoder_End_loop5 lo hi) ((k : Int), out) = some (Sum.inr (out ++ tbl hi (endN lo hi)))
  | d, k, hk => by
    obtain ⟨q1, q2, q3⟩ := endN_is h
    have hk4 : k ≤ 4 := by omega
    have e : IntKind.u64.wrap (IntKind.i64.wrap (32 - IntKind.i64.wrap (8 * (k : Int)))) = 32 - 8 * (k : Int) := by rw [w64 (n := 8 * (k : Int)) (by omega), w64 (by omega), wu64]; omega
    have hc : ishl .u64 (ishr .u64 hi (32 - 8 * (k : Int))) (32 - 8 * (k : Int)) = cutH hi k := by
      obtain ⟨h0, h1, h2⟩ := h
      rcases k with _ | _ | _ | _ | _ | k
      · rw [ushr_lit (m := 4294967296) (by decide) (by decide), ushl_lit (m := 4294967296) (by decide) (by omega)]
        show _ = (0 : Int)
        omega
      · rw [ushr_lit (m := 16777216) (by decide) (by decide), ushl_lit (m := 16777216) (by decide) (by omega)]; rfl
      · rw [ushr_lit (m := 65536) (by decide) (by decide), ushl_lit (m := 65536) (by decide) (by omega)]; rfl
      · rw [ushr_lit (m := 256) (by decide) (by decide), ushl_lit (m := 256) (by decide) (by omega)]; rfl
      · rw [ushr_lit (m := 1) (by decide) (by decide), ushl_lit (m := 1) (by decide) (by omega)]
        show _ = hi
        omega
      · omega
    have h5 : (k : Int) < 5 := by omega
    cases d with
    | zero =>
      rw [Nat.add_zero] at hk
      subst hk
      refine loop_done ?_
      unfold coder_Encoder_End_loop5
      simp only [h5, decide_true, if_true, e, hc]
      rw [if_neg (by omega), if_neg (by omega)]
      have h6 : cutH hi (endN lo hi) ≥ lo := q3
      simp only [h6, decide_true, if_true]
      have := endIn_loop h q1 hl (endN lo hi) 0 (by omega)
      simp only [tbl, List.append_nil] at this
      rw [show ((0 : Nat) : Int) = 0 from rfl] at this
      rw [this]; rfl
    | succ d =>
      rw [loop_step (s' := (((k + 1 : Nat) : Int), out))]
      · exact endOut_loop h hl d (k + 1) (by omega)
      · unfold coder_Encoder_End_loop5
        simp only [h5, decide_true, if_true, e, hc]
        rw [if_neg (by omega), if_neg (by omega)]
        have h6 : ¬ cutH hi k ≥ lo := by have := q2 k (by omega); omega
        have hw : IntKind.i64.wrap ((k : Int) + 1) = ((k + 1 : Nat) : Int) := by rw [w64 (by omega)]; rfl
        simp only [h6, decide_false, Bool.false_eq_true, if_false, hw]
theorem end_is {kind lo hi : Int} {st out : List Int} (h : Iv lo hi) (hl : out.length + 4 ≤ 140737488355328) : coder_Encoder_End kind lo hi st out = ref02_Encoder_End kind lo hi st out := by
  rw [refEnd_is h hl, coder_Encoder_End_eq, coder_Encoder_none_eq]
  have := endOut_loop h hl (endN lo hi) 0 (by omega)
  rw [show ((0 : Nat) : Int) = 0 from rfl] at this
  simp only [Option.bind_some, Bool.false_eq_true, if_false, List.length_nil, List.nil_append, this]
  rw [if_pos (by omega)]
  rfl

/-! ### New models -/
theorem valid_loop {st : List Int} {e : Int} (hl : st.length ≤ 8192) (hs : ∀ s ∈ st, 0 ≤ s ∧ s < e) : ∀ d k, k + d = st.length → loop (coder_Valid_loop7 st e) (k : Int) = some (Sum.inl ())
  | 0, k, hk => by
    refine loop_done ?_
    unfold coder_Valid_loop7
    have : ¬ (k : Int) < ((st.length : Nat) : Int) := by omega
    simp only [this, decide_false, Bool.false_eq_true, if_false]
  | d + 1, k, hk => by
    rw [loop_step (s' := ((k + 1 : Nat) : Int))]
    · exact valid_loop hl hs d (k + 1) (by omega)
    · have h1 : (k : Int) < ((st.length : Nat) : Int) := by omega
      have h0 : (0 : Int) ≤ (k : Int) := by omega
      obtain ⟨a1, a2⟩ := hs _ (List.mem_of_getElem? (rd_get h0 h1))
      have n1 : ¬ rd st (k : Int) < 0 := by omega
      have n2 : ¬ rd st (k : Int) ≥ e := by omega
      have hw : IntKind.i64.wrap ((k : Int) + 1) = ((k + 1 : Nat) : Int) := by rw [w64 (by omega)]; rfl
      unfold coder_Valid_loop7
      simp only [h1, h0, n1, n2, hw, decide_true, decide_false, Bool.false_eq_true, if_true, if_false, and_self]
theorem validR_loop {st : List Int} {e : Int} (hl : st.length ≤ 8192) (hs : ∀ s ∈ st, 0 ≤ s ∧ s ≤ e) : ∀ d k, k + d = st.length → loop (ref02_Valid_loop7 st e) (k : Int) = some (Sum.inl ())
  | 0, k, hk => by
    refine loop_done ?_
    unfold ref02_Valid_loop7
    have : ¬ (k : Int) < ((st.length : Nat) : Int) := by omega
    simp only [this, decide_false, Bool.false_eq_true, if_false]
  | d + 1, k, hk => by
    rw [loop_step (s' := ((k + 1 : Nat) : Int))]
    · exact validR_loop hl hs d (k + 1) (by omega)
    · have h1 : (k : Int) < ((st.length : Nat) : Int) := by omega
      have h0 : (0 : Int) ≤ (k : Int) := by omega
      obtain ⟨a1, a2⟩ := hs _ (List.mem_of_getElem? (rd_get h0 h1))
      have n1 : ¬ rd st (k : Int) < 0 := by omega
      have n2 : ¬ rd st (k : Int) > e := by omega
      have hw : IntKind.i64.wrap ((k : Int) + 1) = ((k + 1 : Nat) : Int) := by rw [w64 (by omega)]; rfl
      unfold ref02_Valid_loop7
      simp only [h1, h0, n1, n2, hw, decide_true, decide_false, Bool.false_eq_true, if_true, if_false, and_self]
theorem valid_is {kind : Int} {st : List Int} (hk : kind = 0 ∨ kind = 1) (hl : st.length ≤ 8192) (hs : ∀ s ∈ st, StateOk kind s) : coder_Valid kind st = some true ∧ ref02_Valid kind st = some true := by
  have hn : ¬ ((st.length : Nat) : Int) > 8192 := by omega
  rw [coder_Valid_eq, ref02_Valid_eq]
  rcases hk with rfl | rfl
  · have h1 := valid_loop (e := 64) hl (fun s h => by rcases hs s h with q | q <;> omega) st.length 0 (by omega)
    have h2 := validR_loop (e := 63) hl (fun s h => by rcases hs s h with q | q <;> omega) st.length 0 (by omega)
    rw [show ((0 : Nat) : Int) = 0 from rfl] at h1 h2
    constructor
    · simp only [hn, show ¬ ((0 : Int) = 1) by decide, decide_true, decide_false, Bool.not_true, Bool.not_false, Bool.false_eq_true, if_true, if_false, Option.bind_some, h1, Sum.elim_inl]
    · simp only [hn, show ¬ ((0 : Int) = 1) by decide, decide_true, decide_false, Bool.not_true, Bool.not_false, Bool.false_eq_true, if_true, if_false, Option.bind_some, h2, Sum.elim_inl]
  · have h1 := valid_loop (e := 65536) hl (fun s h => by rcases hs s h with q | q <;> omega) st.length 0 (by omega)
    have h2 := validR_loop (e := 65535) hl (fun s h => by rcases hs s h with q | q <;> omega) st.length 0 (by omega)
    rw [show ((0 : Nat) : Int) = 0 from rfl] at h1 h2
    constructor
    · simp only [hn, show ¬ ((1 : Int) = 0) by decide, decide_true, decide_false, Bool.not_true, Bool.not_false, Bool.false_eq_true, if_true, if_false, Option.bind_some, h1, Sum.elim_inl]
    · simp only [hn, show ¬ ((1 : Int) = 0) by decide, decide_true, decide_false, Bool.not_true, Bool.not_false, Bool.false_eq_true, if_true, if_false, Option.bind_some, h2, Sum.elim_inl]
theorem clone_is {kind : Int} {st : List Int} (hl : st.length ≤ 8192) : coder_clone kind st = some (kind, st) ∧ ref02_Copy kind st = some (kind, st) := by
  rw [coder_clone_eq, ref02_Copy_eq]
  simp only [List.length_nil, List.nil_append, Nat.zero_add]
  rw [if_pos (by omega)]
  exact ⟨rfl, rfl⟩
/-- a new encoder of a valid model: the same in both -/
theorem newEncoder_is {kind : Int} {st : List Int} (hk : kind = 0 ∨ kind = 1) (hl : st.length ≤ 8192) (hs : ∀ s ∈ st, StateOk kind s) :
    coder_NewEncoder kind st = some (Sum.inl (kind, 0, 4294967295, st, [])) ∧ ref02_NewEncoder kind st = some (Sum.inl (kind, 0, 4294967295, st, [])) ∧ EncOk kind 0 4294967295 st := by
  obtain ⟨h1, h2⟩ := valid_is hk hl hs
  obtain ⟨c1, c2⟩ := clone_is (kind := kind) hl
  refine ⟨?_, ?_, ⟨hk, ⟨by decide, by decide, by decide⟩, by decide, hs⟩⟩
  · rw [coder_NewEncoder_eq, h1, coder_begin_eq, c1, coder_chances_eq]; rfl
  · rw [ref02_NewEncoder_eq, h2, c2, ref02_Whole_eq]; rfl
theorem new_is {kind n : Int} (hk : kind = 0 ∨ kind = 1) (h0 : 0 ≤ n) (h1 : n ≤ 8192) : coder_New kind n = some (kind, List.replicate n.toNat 0, 0) ∧ ref02_New kind n = some (kind, List.replicate n.toNat 0, 0) := by
  have a1 : ¬ n < 0 := by omega
  have a2 : ¬ n > 8192 := by omega
  have a3 : 0 ≤ n ∧ n ≤ n ∧ ((8 : Nat) : Int) * n ≤ 281474976710656 := ⟨h0, Int.le_refl _, by omega⟩
  rw [coder_New_eq, ref02_New_eq]
  rcases hk with rfl | rfl
  · simp only [a1, a2, a3, decide_true, decide_false, Bool.not_true, Bool.not_false, Bool.false_eq_true, if_true, if_false, Option.bind_some, and_self]
  · simp only [a1, a2, a3, show ¬ ((1 : Int) = 0) by decide, decide_true, decide_false, Bool.not_true, Bool.not_false, Bool.false_eq_true, if_true, if_false, Option.bind_some, and_self]
theorem new_states {kind : Int} (hk : kind = 0 ∨ kind = 1) (n : Nat) : ∀ s ∈ List.replicate n (0 : Int), StateOk kind s := by
  intro s hs
  rw [(List.mem_replicate.1 hs).2]
  rcases hk with rfl | rfl
  · exact .inl ⟨rfl, by decide, by decide⟩
  · exact .inr ⟨rfl, by decide, by decide⟩
end Go.Proofs.YtkccnhkhjncpkaaGreat.P
