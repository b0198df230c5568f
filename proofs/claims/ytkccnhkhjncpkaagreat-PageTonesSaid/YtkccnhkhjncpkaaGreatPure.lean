/- Texts Bits, PureCoder, PureSizes, PurePut, PureBmp, PureGen, PureGen2, PureNew, PureBegin, PureGen3, PurePat, PureDraw, PurePat2, PureTone, PureTone2, PureTone3, PureTones, one behind the other. -/
import Derived.Test.YtkccnhkhjncpkaaGreatLib
import Derived.Test.YtkccnhkhjncpkaaGreatQs
import Derived.KernelRfl
import Derived.Test.YtkccnhkhjncpkaaGreatF
import Derived.Test.YtkccnhkhjncpkaaGreatRow
/- Shifts and ors as sums. -/
namespace Go.Proofs.YtkccnhkhjncpkaaGreat.V
open Go
set_option linter.unusedVariables false
set_option linter.unusedSimpArgs false

theorem ishr_div {n : Int} {k : Nat} (hk : k ≤ 64) : ishr .i64 n (k : Int) = n / (2 ^ k : Int) := by
  unfold ishr
  rw [Int.toNat_natCast, show min k IntKind.i64.bits = k from by simp [IntKind.bits]; omega]
  exact Int.fdiv_eq_ediv_of_nonneg _ (by exact_mod_cast Nat.zero_le (2 ^ k))
theorem ishl_mul {n : Int} {k : Nat} (hk : k ≤ 64) : ishl .i64 n (k : Int) = IntKind.i64.wrap (n * 2 ^ k) := by
  unfold ishl
  rw [Int.toNat_natCast, show min k IntKind.i64.bits = k from by simp [IntKind.bits]; omega]
theorem bv_nat (m : Nat) (h : m < 18446744073709551616) : (BitVec.ofInt 64 (m : Int)) = BitVec.ofNat 64 m := by
  rw [BitVec.ofInt_natCast]
theorem ior_nat (a b : Nat) (ha : a < 9223372036854775808) (hb : b < 9223372036854775808) : ior .i64 (a : Int) (b : Int) = ((a ||| b : Nat) : Int) := by
  show IntKind.i64.wrap ((BitVec.ofInt 64 (a : Int) ||| BitVec.ofInt 64 (b : Int) : BitVec 64).toNat : Int) = _
  rw [bv_nat a (by omega), bv_nat b (by omega), BitVec.toNat_or, BitVec.toNat_ofNat, BitVec.toNat_ofNat, Nat.mod_eq_of_lt (by omega), Nat.mod_eq_of_lt (by omega)]
  have : a ||| b < 2 ^ 63 := Nat.or_lt_two_pow (by omega) (by omega)
  exact w64 (by omega)
theorem iand_nat (a b : Nat) (ha : a < 9223372036854775808) (hb : b < 9223372036854775808) : iand .i64 (a : Int) (b : Int) = ((a &&& b : Nat) : Int) := by
  show IntKind.i64.wrap ((BitVec.ofInt 64 (a : Int) &&& BitVec.ofInt 64 (b : Int) : BitVec 64).toNat : Int) = _
  rw [bv_nat a (by omega), bv_nat b (by omega), BitVec.toNat_and, BitVec.toNat_ofNat, BitVec.toNat_ofNat, Nat.mod_eq_of_lt (by omega), Nat.mod_eq_of_lt (by omega)]
  have : a &&& b ≤ a := Nat.and_le_left
  exact w64 (by omega)
theorem ixor_nat (a b : Nat) (ha : a < 9223372036854775808) (hb : b < 9223372036854775808) : ixor .i64 (a : Int) (b : Int) = ((a ^^^ b : Nat) : Int) := by
  show IntKind.i64.wrap ((BitVec.ofInt 64 (a : Int) ^^^ BitVec.ofInt 64 (b : Int) : BitVec 64).toNat : Int) = _
  rw [bv_nat a (by omega), bv_nat b (by omega), BitVec.toNat_xor, BitVec.toNat_ofNat, BitVec.toNat_ofNat, Nat.mod_eq_of_lt (by omega), Nat.mod_eq_of_lt (by omega)]
  have : a ^^^ b < 2 ^ 63 := Nat.xor_lt_two_pow (by omega) (by omega)
  exact w64 (by omega)
/-- a number shifted up by a byte, and a byte below it -/
theorem ior_byte {n d : Int} (hn : 0 ≤ n) (hn2 : n < 4294967296) (hd : 0 ≤ d) (hd2 : d < 256) : ior .i64 (ishl .i64 n 8) d = 256 * n + d := by
  obtain ⟨m, rfl⟩ := Int.eq_ofNat_of_zero_le hn
  obtain ⟨e, rfl⟩ := Int.eq_ofNat_of_zero_le hd
  have h0 : m <<< 8 = m * 256 := by rw [Nat.shiftLeft_eq]
  have h1 : ishl .i64 (m : Int) 8 = ((m <<< 8 : Nat) : Int) := by
    rw [show (8 : Int) = ((8 : Nat) : Int) from rfl, ishl_mul (by omega), h0, show ((2 : Int) ^ 8) = 256 from rfl, w64 (by omega)]
    omega
  rw [h1, ior_nat _ _ (by omega) (by omega), ← Nat.shiftLeft_add_eq_or_of_lt (by omega), h0]
  omega
/-! ### Parts of lists -/
section
variable {α : Type}
theorem cutL_len (xs : List α) (i j : Nat) : (cutL xs i j).length = min j xs.length - i := by simp [cutL]
theorem cutL_append (xs : List α) {i j k : Nat} (h1 : i ≤ j) (h2 : j ≤ k) : cutL xs i j ++ cutL xs j k = cutL xs i k := by
  unfold cutL
  by_cases hj : j ≤ xs.length
  · have e1 : xs.take k = xs.take j ++ (xs.take k).drop j := by
      conv => lhs; rw [← List.take_append_drop j (xs.take k)]
      rw [List.take_take, Nat.min_eq_left h2]
    conv => rhs; rw [e1]
    rw [List.drop_append_of_le_length (by rw [List.length_take]; omega)]
  · have e1 : xs.take j = xs := List.take_of_length_le (by omega)
    have e2 : xs.take k = xs := List.take_of_length_le (by omega)
    rw [e1, e2, List.drop_eq_nil_of_le (by omega : xs.length ≤ j), List.append_nil]
theorem cutL_self (xs : List α) (i : Nat) : cutL xs i i = [] := by
  unfold cutL
  exact List.drop_eq_nil_of_le (by rw [List.length_take]; omega)
theorem cutL_all (xs : List α) : cutL xs 0 xs.length = xs := by simp [cutL]
theorem cutL_zero (xs : List α) (n : Nat) : cutL xs 0 n = xs.take n := by simp [cutL]
theorem cutL_cons {xs : List α} {i j : Nat} {x : α} (h : xs[i]? = some x) (hj : i < j) : cutL xs i j = x :: cutL xs (i + 1) j := by
  have hl := (List.getElem?_eq_some_iff.1 h).1
  have hx := (List.getElem?_eq_some_iff.1 h).2
  unfold cutL
  rw [List.drop_eq_getElem_cons (by rw [List.length_take]; omega)]
  congr 1
  rw [List.getElem_take]; exact hx
theorem cutL_mem {xs : List α} {i j : Nat} {x : α} (h : x ∈ cutL xs i j) : x ∈ xs := List.mem_of_mem_take (List.mem_of_mem_drop h)
end
theorem cutL_four {b : List Int} {i : Nat} (h : i + 4 ≤ b.length) : cutL b i (i + 4) = [rd b i, rd b ((i + 1 : Nat) : Int), rd b ((i + 2 : Nat) : Int), rd b ((i + 3 : Nat) : Int)] := by
  have g : ∀ k, k < b.length → b[k]? = some (rd b (k : Int)) := fun k hk => by
    have := rd_get (xs := b) (i := (k : Int)) (by omega) (by omega)
    simpa using this
  rw [cutL_cons (g i (by omega)) (by omega), cutL_cons (g (i + 1) (by omega)) (by omega), cutL_cons (g (i + 2) (by omega)) (by omega), cutL_cons (g (i + 3) (by omega)) (by omega), cutL_self]
end Go.Proofs.YtkccnhkhjncpkaaGreat.V

/- The coder against its reference: how likely a bit is, the state behind it, the parts of an interval. -/
namespace Go.Proofs.YtkccnhkhjncpkaaGreat.P
open Go Go.Proofs.YtkccnhkhjncpkaaGreat.V
set_option linter.unusedVariables false
set_option linter.unusedSimpArgs false

/-- q(k) for each k -/
def QL : List Int := [2048, 1792, 1568, 1372, 1201, 1051, 920, 805, 705, 617, 540, 473, 414, 363, 318, 279, 245, 215, 189, 166, 146, 128, 112, 98, 86, 76, 67, 59, 52, 46, 41, 36]
theorem QL_next : ∀ i : Fin 31, IntKind.i64.wrap (rd QL ((i : Nat) : Int) - IntKind.i64.wrap ((rd QL ((i : Nat) : Int)).tdiv 8)) = rd QL (((i : Nat) + 1 : Nat) : Int) := by decide +kernel
theorem QL_range : ∀ i : Fin 32, 36 ≤ rd QL ((i : Nat) : Int) ∧ rd QL ((i : Nat) : Int) ≤ 2048 := by decide +kernel

theorem unlikely_loop {k : Nat} (hk : k < 32) : ∀ (d i : Nat), i + d = k → loop (ref02_unlikely_loop3 (k : Int)) (rd QL (i : Int), (i : Int)) = some (rd QL (k : Int))
  | 0, i, h => by
    have : i = k := by omega
    subst this
    refine loop_done ?_
    unfold ref02_unlikely_loop3
    simp
  | d + 1, i, h => by
    have hq := QL_next ⟨i, by omega⟩
    simp only at hq
    rw [loop_step (s' := (rd QL ((i + 1 : Nat) : Int), ((i + 1 : Nat) : Int)))]
    · exact unlikely_loop hk d (i + 1) (by omega)
    · unfold ref02_unlikely_loop3
      have h1 : (i : Int) < (k : Int) := by omega
      simp only [h1, decide_true, if_true, hq]
      rw [w64 (by omega)]; rfl
theorem unlikely_is {k : Int} (h0 : 0 ≤ k) (h1 : k < 32) : ref02_unlikely k = some (rd QL k) := by
  obtain ⟨n, rfl⟩ := Int.eq_ofNat_of_zero_le h0
  rw [ref02_unlikely_eq]
  have := unlikely_loop (k := n) (by omega) n 0 (by omega)
  have h2 : rd QL ((0 : Nat) : Int) = 2048 := by decide
  rw [h2] at this
  rw [show ((0 : Nat) : Int) = 0 from rfl] at this
  rw [this]; rfl

/-- a model's state -/
def StateOk (kind s : Int) : Prop := (kind = 0 ∧ 0 ≤ s ∧ s < 64) ∨ (kind = 1 ∧ 0 ≤ s ∧ s < 65536)

theorem chance_is {kind s : Int} (h : StateOk kind s) : coder_table_chance kind s = ref02_Likely kind s := by
  rw [coder_table_chance_eq, ref02_Likely_eq]
  rcases h with ⟨rfl, h0, h1⟩ | ⟨rfl, h0, h1⟩
  · simp only [tmod_pos h0]
    simp only [show ¬ ((0 : Int) = 1) by decide, decide_true, decide_false, Bool.false_eq_true, if_true, if_false]
    rw [unlikely_is (by omega) (by omega)]
    by_cases h2 : s < 32
    · have h3 : ¬ s ≥ 32 := by omega
      have h4 : s % 32 = s := by omega
      have h5 : s < ((32 : Nat) : Int) := by omega
      simp only [h2, h3, h4, h5, h0, decide_true, decide_false, Bool.false_eq_true, if_true, if_false, and_self, Option.bind_some]
      rfl
    · have h3 : s ≥ 32 := by omega
      have h4 : s % 32 = s - 32 := by omega
      rw [w64 (n := s - 32) (by omega)]
      have h5 : 0 ≤ s - 32 := by omega
      have h6 : s - 32 < ((32 : Nat) : Int) := by omega
      simp only [h2, h3, h4, h5, h6, decide_true, decide_false, Bool.false_eq_true, if_true, if_false, and_self, Option.bind_some]
      rfl
  · simp only [show ¬ ((1 : Int) = 0) by decide, decide_true, decide_false, Bool.false_eq_true, if_true, if_false]

theorem next_is {kind s bit : Int} (h : StateOk kind s) (hb : bit = 0 ∨ bit = 1) : coder_next kind s bit = ref02_After kind s bit := by
  rw [coder_next_eq, ref02_After_eq]
  rcases h with ⟨rfl, h0, h1⟩ | ⟨rfl, h0, h1⟩
  · simp only [tmod_pos h0, tdiv_pos h0]
    simp only [show ¬ ((0 : Int) = 1) by decide, decide_true, decide_false, Bool.false_eq_true, if_true, if_false]
    by_cases h2 : bit = IntKind.i64.wrap (s / 32)
    · simp only [h2, decide_true, if_true]
    · simp only [h2, decide_false, Bool.false_eq_true, if_false]
      by_cases h3 : s % 32 = 0
      · simp only [h3, decide_true, if_true]
        rw [w64 (n := 32 * bit) (by omega), Int.add_zero, w64 (by omega)]
      · simp only [h3, decide_false, Bool.false_eq_true, if_false]
        rw [tdiv_pos (by omega)]
        simp only [w64s]
        congr 1
        omega
  · simp only [show ¬ ((1 : Int) = 0) by decide, decide_true, decide_false, Bool.false_eq_true, if_true, if_false]

/-! ### The interval: two numbers of 32 bits -/
theorem ushr24 (n : Int) : ishr .u64 n 24 = n / 16777216 := by
  unfold ishr
  rw [show (2 : Int) ^ (min (24 : Int).toNat IntKind.u64.bits) = 16777216 by decide, Int.fdiv_eq_ediv_of_nonneg _ (by decide)]
theorem ushl8 {n : Int} (h0 : 0 ≤ n) (h1 : n < 4294967296) : ishl .u64 n 8 = n * 256 := by
  unfold ishl
  rw [show (2 : Int) ^ (min (8 : Int).toNat IntKind.u64.bits) = 256 by decide, wu64]
  omega
theorem ubv (m : Nat) : BitVec.ofInt 64 (m : Int) = BitVec.ofNat 64 m := by simp
theorem uand32 {n : Int} (h0 : 0 ≤ n) (h1 : n < 18446744073709551616) : iand .u64 n 4294967295 = n % 4294967296 := by
  obtain ⟨m, rfl⟩ := Int.eq_ofNat_of_zero_le h0
  unfold iand
  rw [show IntKind.u64.bits = 64 from rfl, show (4294967295 : Int) = ((4294967295 : Nat) : Int) from rfl, ubv, ubv, BitVec.toNat_and, BitVec.toNat_ofNat, BitVec.toNat_ofNat, wu64]
  rw [Nat.mod_eq_of_lt (show m < 2 ^ 64 by omega), show (4294967295 : Nat) % 2 ^ 64 = 2 ^ 32 - 1 by decide, Nat.and_two_pow_sub_one_eq_mod]
  omega
theorem uor255 {n : Int} (h0 : 0 ≤ n) (h1 : n < 18446744073709551616) (h : n % 256 = 0) : ior .u64 n 255 = n + 255 := by
  obtain ⟨m, rfl⟩ := Int.eq_ofNat_of_zero_le h0
  unfold ior
  rw [show IntKind.u64.bits = 64 from rfl, show (255 : Int) = ((255 : Nat) : Int) from rfl, ubv, ubv, BitVec.toNat_or, BitVec.toNat_ofNat, BitVec.toNat_ofNat, wu64]
  rw [Nat.mod_eq_of_lt (show m < 2 ^ 64 by omega), show (255 : Nat) % 2 ^ 64 = 255 by decide]
  obtain ⟨k, hk⟩ : ∃ k, m = 2 ^ 8 * k := ⟨m / 256, by omega⟩
  subst hk
  rw [← Nat.two_pow_add_eq_or_of_lt (show 255 < 2 ^ 8 by decide)]
  omega

/-- low and high -/
def Iv (lo hi : Int) : Prop := 0 ≤ lo ∧ lo ≤ hi ∧ hi < 4294967296

theorem lose_is {kind lo hi : Int} {st out : List Int} (h : Iv lo hi) : coder_interval_lose kind lo hi st out = some (lo / 16777216, kind, lo % 16777216 * 256, hi % 16777216 * 256 + 255, st, out) := by
  obtain ⟨h0, h1, h2⟩ := h
  rw [coder_interval_lose_eq]
  simp only
  rw [ushr24, ushl8 h0 (by omega), ushl8 (by omega) h2, uand32 (by omega) (by omega), uand32 (by omega) (by omega), uor255 (by omega) (by omega) (by omega), w8]
  congr 2
  · omega
  · congr 1
    congr 1
    · omega
    · congr 1
      omega
theorem shifted_is {lo hi : Int} (h : Iv lo hi) : ref02_Interval_Shifted lo hi = some (lo % 16777216 * 256, hi % 16777216 * 256 + 255) := by
  obtain ⟨h0, h1, h2⟩ := h
  rw [ref02_Interval_Shifted_eq]
  simp only [tmod_pos h0, tmod_pos (show (0 : Int) ≤ hi by omega), wu64]
  congr 2 <;> omega
theorem fixed_is {lo hi : Int} : ref02_Interval_Fixed lo hi = some (decide (lo / 16777216 = hi / 16777216)) := by
  rw [ref02_Interval_Fixed_eq]
  simp only [ushr24]

/-- where a chance cuts an interval -/
def midV (lo hi p : Int) : Int := lo + (hi - lo) / 4096 * p + (hi - lo) % 4096 * p / 4096
theorem midV_ge {lo hi p : Int} (h : lo ≤ hi) (hp : 0 ≤ p) : lo ≤ midV lo hi p := by
  unfold midV
  have h1 : 0 ≤ (hi - lo) / 4096 * p := Int.mul_nonneg (by omega) hp
  have h2 : 0 ≤ (hi - lo) % 4096 * p := Int.mul_nonneg (by omega) hp
  omega
theorem midV_lt {lo hi p : Int} (h : lo < hi) (hp : 0 ≤ p) (hp2 : p < 4096) : midV lo hi p < hi := by
  unfold midV
  have h1 : (hi - lo) / 4096 * p ≤ (hi - lo) / 4096 * 4095 := Int.mul_le_mul_of_nonneg_left (by omega) (by omega)
  have h2 : (hi - lo) % 4096 * p ≤ (hi - lo) % 4096 * 4095 := Int.mul_le_mul_of_nonneg_left (by omega) (by omega)
  omega
theorem refMid_is {lo hi p : Int} (h : Iv lo hi) (hp : 0 ≤ p) (hp2 : p < 4096) : ref02_Interval_Mid lo hi p = some (midV lo hi p) := by
  obtain ⟨h0, h1, h2⟩ := h
  have a1 : 0 ≤ (hi - lo) / 4096 * p := Int.mul_nonneg (by omega) hp
  have a2 : (hi - lo) / 4096 * p ≤ (hi - lo) / 4096 * 4095 := Int.mul_le_mul_of_nonneg_left (by omega) (by omega)
  have a3 : 0 ≤ (hi - lo) % 4096 * p := Int.mul_nonneg (by omega) hp
  have a4 : (hi - lo) % 4096 * p ≤ (hi - lo) % 4096 * 4095 := Int.mul_le_mul_of_nonneg_left (by omega) (by omega)
  rw [ref02_Interval_Mid_eq]
  unfold midV
  simp only [wu64, show (hi - lo) % 18446744073709551616 = hi - lo by omega, tdiv_pos (show 0 ≤ hi - lo by omega), tmod_pos (show 0 ≤ hi - lo by omega), show p % 18446744073709551616 = p by omega,
    show (hi - lo) / 4096 % 18446744073709551616 = (hi - lo) / 4096 by omega]
  rw [show (hi - lo) % 4096 * p % 18446744073709551616 = (hi - lo) % 4096 * p by omega, tdiv_pos a3]
  congr 1
  omega
theorem part_is {lo hi p bit : Int} (h : Iv lo hi) (hp : 0 ≤ p) (hp2 : p < 4096) : ref02_Interval_Part lo hi p bit = some (if bit = 1 then (lo, midV lo hi p) else (midV lo hi p + 1, hi)) := by
  have hm := midV_ge h.2.1 hp
  have hm2 : midV lo hi p ≤ hi := by
    rcases Int.lt_or_le lo hi with h1 | h1
    · have := midV_lt h1 hp hp2; omega
    · have : hi = lo := by have := h.2.1; omega
      subst this
      unfold midV; simp
  have h2 := h.2.2
  have h0 := h.1
  rw [ref02_Interval_Part_eq, refMid_is h hp hp2]
  by_cases hb : bit = 1
  · simp only [hb, decide_true, if_true, Option.bind_some]
  · simp only [hb, decide_false, Bool.false_eq_true, if_false, Option.bind_some, wu64]
    congr 2
    omega
theorem mid_is {ctx kind lo hi p : Int} {st out : List Int} (h : Iv lo hi) (hc : 0 ≤ ctx ∧ ctx < (st.length : Int)) (hq : ref02_Likely kind (rd st ctx) = some p) (hs : StateOk kind (rd st ctx)) (hp : 0 ≤ p) (hp2 : p < 4096) :
    coder_interval_mid ctx kind lo hi st out = some (midV lo hi p, kind, lo, hi, st, out) := by
  have hr := refMid_is h hp hp2
  rw [ref02_Interval_Mid_eq] at hr
  have hr := Option.some.inj hr
  rw [coder_interval_mid_eq]
  simp only [hc, and_self, if_true, chance_is hs, hq, Option.bind_some]
  rw [hr]

/-- how likely a 1 is, in a state -/
theorem likely_is {kind s : Int} (h : StateOk kind s) : ∃ p, ref02_Likely kind s = some p ∧ 0 ≤ p ∧ p < 4096 := by
  rw [ref02_Likely_eq]
  rcases h with ⟨rfl, h0, h1⟩ | ⟨rfl, h0, h1⟩
  · simp only [tmod_pos h0, decide_true, if_true]
    rw [unlikely_is (by omega) (by omega)]
    have hr := QL_range ⟨(s % 32).toNat, by omega⟩
    simp only [show (((s % 32).toNat : Nat) : Int) = s % 32 by omega] at hr
    by_cases h2 : s < 32
    · simp only [h2, decide_true, if_true, Option.bind_some]
      exact ⟨_, rfl, by omega, by omega⟩
    · simp only [h2, decide_false, Bool.false_eq_true, if_false, Option.bind_some]
      exact ⟨_, rfl, by rw [w64 (by omega)]; omega, by rw [w64 (by omega)]; omega⟩
  · simp only [tmod_pos h0, tdiv_pos h0, show ¬ ((1 : Int) = 0) by decide, decide_false, Bool.false_eq_true, if_false]
    have e1 : IntKind.i64.wrap (s / 256) = s / 256 := w64 (by omega)
    have e2 : IntKind.i64.wrap (2 * (s % 256)) = 2 * (s % 256) := w64 (by omega)
    have e3 : IntKind.i64.wrap (2 * (s / 256)) = 2 * (s / 256) := w64 (by omega)
    rw [e1, e2, e3, w64 (n := 2 * (s / 256) + 2 * (s % 256)) (by omega), w64 (n := 2 * (s / 256) + 2 * (s % 256) + 2) (by omega), if_neg (by omega)]
    refine ⟨_, rfl, ?_, ?_⟩ <;> rw [imin_eq, imax_eq] <;> omega

theorem take_is {ctx bit mid kind lo hi : Int} {st out : List Int} (hb : bit = 0 ∨ bit = 1) (hc : 0 ≤ ctx ∧ ctx < (st.length : Int)) (hs : StateOk kind (rd st ctx)) (hm : 0 ≤ mid ∧ mid < 4294967296) :
    coder_interval_take ctx bit mid kind lo hi st out = (ref02_After kind (rd st ctx) bit).bind fun s => some (if bit = 1 then (kind, lo, mid, st.set ctx.toNat s, out) else (kind, mid + 1, hi, st.set ctx.toNat s, out)) := by
  rw [coder_interval_take_eq]
  have hw : IntKind.u64.wrap (mid + 1) = mid + 1 := by rw [wu64]; omega
  by_cases h1 : bit = 1
  · simp only [h1, decide_true, if_true, Option.bind_some, hc, and_self]
    rw [next_is hs (.inr rfl)]
  · simp only [h1, decide_false, Bool.false_eq_true, if_false, Option.bind_some, hc, and_self, if_true, hw]
    rw [next_is hs hb]

theorem after_is {kind s bit : Int} (h : StateOk kind s) (hb : bit = 0 ∨ bit = 1) : ∃ s', ref02_After kind s bit = some s' ∧ StateOk kind s' := by
  rw [ref02_After_eq]
  rcases h with ⟨rfl, h0, h1⟩ | ⟨rfl, h0, h1⟩
  · simp only [tmod_pos h0, tdiv_pos h0, decide_true, if_true]
    rw [tdiv_pos (show 0 ≤ s % 32 by omega)]
    have e1 : IntKind.i64.wrap (s / 32) = s / 32 := w64 (by omega)
    simp only [e1]
    by_cases h2 : bit = s / 32
    · simp only [h2, decide_true, if_true]
      refine ⟨_, rfl, .inl ⟨rfl, ?_⟩⟩
      rw [w64 (n := 32 * (s / 32)) (by omega), w64 (n := s % 32 + 1) (by omega), imin_eq, w64 (by omega)]
      omega
    · simp only [h2, decide_false, Bool.false_eq_true, if_false]
      by_cases h3 : s % 32 = 0
      · simp only [h3, decide_true, if_true]
        exact ⟨_, rfl, .inl ⟨rfl, by rw [w64 (by omega)]; omega⟩⟩
      · simp only [h3, decide_false, Bool.false_eq_true, if_false]
        refine ⟨_, rfl, .inl ⟨rfl, ?_⟩⟩
        rw [w64 (n := 32 * (s / 32)) (by omega), w64 (n := 32 * (s / 32) + s % 32) (by omega), w64 (n := 32 * (s / 32) + s % 32 - 1) (by omega), w64 (n := s % 32 / 4) (by omega), w64 (by omega)]
        omega
  · simp only [tmod_pos h0, tdiv_pos h0, show ¬ ((1 : Int) = 0) by decide, decide_false, Bool.false_eq_true, if_false]
    have e1 : IntKind.i64.wrap (s / 256) = s / 256 := w64 (by omega)
    have e2 : IntKind.i64.wrap ((s / 256).tdiv 2) = s / 256 / 2 := by rw [tdiv_pos (by omega), w64 (by omega)]
    have e3 : IntKind.i64.wrap ((s % 256).tdiv 2) = s % 256 / 2 := by rw [tdiv_pos (by omega), w64 (by omega)]
    have c0 : 0 ≤ (0 : Int) ∧ (0 : Int) < ((2 : Nat) : Int) := by decide
    have c1 : 0 ≤ (1 : Int) ∧ (1 : Int) < ((2 : Nat) : Int) := by decide
    have r0 : ∀ a b : Int, rd [a, b] 0 = a := fun a b => rfl
    have r1 : ∀ a b : Int, rd [a, b] 1 = b := fun a b => rfl
    rcases hb with rfl | rfl
    · simp only [c0, c1, and_self, if_true, e1, e2, e3, r0]
      by_cases h2 : s / 256 = 255
      · simp only [h2, decide_true, if_true, Option.bind_some, r0]
        refine ⟨_, rfl, .inr ⟨rfl, ?_⟩⟩
        simp only [show ¬ ((0 : Int) = 1) by decide, if_false, w64s]
        omega
      · simp only [h2, decide_false, Bool.false_eq_true, if_false, Option.bind_some, r0]
        refine ⟨_, rfl, .inr ⟨rfl, ?_⟩⟩
        simp only [show ¬ ((0 : Int) = 1) by decide, if_false, if_true, w64s]
        omega
    · simp only [c0, c1, and_self, if_true, e1, e2, e3, r1]
      by_cases h2 : s % 256 = 255
      · simp only [h2, decide_true, if_true, Option.bind_some, r1]
        refine ⟨_, rfl, .inr ⟨rfl, ?_⟩⟩
        simp only [show ¬ ((1 : Int) = 0) by decide, if_false, if_true, w64s]
        omega
      · simp only [h2, decide_false, Bool.false_eq_true, if_false, Option.bind_some, r1]
        refine ⟨_, rfl, .inr ⟨rfl, ?_⟩⟩
        simp only [show ¬ ((1 : Int) = 0) by decide, if_false, if_true, w64s]
        omega

/-! ### Bytes that are known leave -/
def flush : Nat → Int → Int → List Int → Int × Int × List Int
  | 0, lo, hi, out => (lo, hi, out)
  | n + 1, lo, hi, out => if lo / 16777216 = hi / 16777216 then flush n (lo % 16777216 * 256) (hi % 16777216 * 256 + 255) (out ++ [hi / 16777216]) else (lo, hi, out)
def gapOf : Nat → Int
  | 0 => 4294967295
  | 1 => 16777215
  | 2 => 65535
  | 3 => 255
  | _ => 0
theorem gap_step {n : Nat} {d : Int} (h : gapOf (n + 1) ≤ d) (h0 : 0 ≤ d) : gapOf n ≤ 256 * d + 255 := by
  match n with
  | 0 => simp only [gapOf] at h ⊢; omega
  | 1 => simp only [gapOf] at h ⊢; omega
  | 2 => simp only [gapOf] at h ⊢; omega
  | 3 => simp only [gapOf] at h ⊢; omega
  | n + 4 => simp only [gapOf]; omega
theorem Iv.shift {lo hi : Int} (h : Iv lo hi) (e : lo / 16777216 = hi / 16777216) : Iv (lo % 16777216 * 256) (hi % 16777216 * 256 + 255) ∧ hi % 16777216 * 256 + 255 - lo % 16777216 * 256 = 256 * (hi - lo) + 255 := by
  obtain ⟨h0, h1, h2⟩ := h
  exact ⟨⟨by omega, by omega, by omega⟩, by omega⟩
theorem refPut_loop {kind : Int} {st : List Int} : ∀ (n : Nat) (lo hi : Int) (out : List Int), Iv lo hi → gapOf n ≤ hi - lo → out.length + n ≤ 140737488355328 →
    loop ref02_Encoder_Put_loop8 (kind, lo, hi, st, out) = some (kind, (flush n lo hi out).1, (flush n lo hi out).2.1, st, (flush n lo hi out).2.2)
  | 0, lo, hi, out, h, hg, hl => by
    refine loop_done ?_
    unfold ref02_Encoder_Put_loop8
    simp only [fixed_is, Option.bind_some]
    simp only [gapOf] at hg
    have hne : ¬ lo / 16777216 = hi / 16777216 := by obtain ⟨h0, h1, h2⟩ := h; omega
    simp only [hne, decide_false, Bool.false_eq_true, if_false, flush]
  | n + 1, lo, hi, out, h, hg, hl => by
    by_cases e : lo / 16777216 = hi / 16777216
    · obtain ⟨h1, h2⟩ := h.shift e
      rw [loop_step (s' := (kind, lo % 16777216 * 256, hi % 16777216 * 256 + 255, st, out ++ [hi / 16777216]))]
      · rw [refPut_loop n _ _ _ h1 (by rw [h2]; exact gap_step hg (by have := h.2.1; omega)) (by simp; omega)]
        simp only [flush, e, if_true]
      · have hb : IntKind.u8.wrap (hi / 16777216) = hi / 16777216 := by obtain ⟨q0, q1, q2⟩ := h; rw [w8]; omega
        unfold ref02_Encoder_Put_loop8
        simp only [fixed_is, Option.bind_some, ushr24, hb, shifted_is h]
        simp only [e, decide_true, if_true, List.length_singleton]
        rw [if_pos (by omega)]
    · refine loop_done ?_
      unfold ref02_Encoder_Put_loop8
      simp only [fixed_is, Option.bind_some]
      simp only [e, decide_false, Bool.false_eq_true, if_false, flush]
theorem flush_is : ∀ (n : Nat) (lo hi : Int) (out : List Int), Iv lo hi → gapOf n ≤ hi - lo → Iv (flush n lo hi out).1 (flush n lo hi out).2.1 ∧ (flush n lo hi out).1 / 16777216 ≠ (flush n lo hi out).2.1 / 16777216 ∧ (flush n lo hi out).2.2.length ≤ out.length + n ∧ out.length ≤ (flush n lo hi out).2.2.length
  | 0, lo, hi, out, h, hg => by
    simp only [gapOf] at hg
    refine ⟨h, ?_, Nat.le_refl _, Nat.le_refl _⟩
    show lo / 16777216 ≠ hi / 16777216
    obtain ⟨h0, h1, h2⟩ := h
    omega
  | n + 1, lo, hi, out, h, hg => by
    by_cases e : lo / 16777216 = hi / 16777216
    · obtain ⟨h1, h2⟩ := h.shift e
      have := flush_is n _ _ (out ++ [hi / 16777216]) h1 (by rw [h2]; exact gap_step hg (by have := h.2.1; omega))
      simp only [flush, e, if_true]
      simp only [List.length_append, List.length_singleton] at this
      exact ⟨this.1, this.2.1, by omega, by omega⟩
    · simp only [flush, e, if_false]
      exact ⟨h, e, by omega, Nat.le_refl _⟩

/-- what an encoder is, between two calls -/
structure EncOk (kind lo hi : Int) (st : List Int) : Prop where
  two : kind = 0 ∨ kind = 1
  iv : Iv lo hi
  open_ : lo / 16777216 ≠ hi / 16777216
  states : ∀ s ∈ st, StateOk kind s

/-- a bit that is put -/
theorem refPut_is {ctx bit kind lo hi : Int} {st out : List Int} (h : EncOk kind lo hi st) (hc : 0 ≤ ctx ∧ ctx < (st.length : Int)) (hb : bit = 0 ∨ bit = 1) (hl : out.length + 4 ≤ 140737488355328) :
    ∃ p s lo1 hi1, ref02_Likely kind (rd st ctx) = some p ∧ 0 ≤ p ∧ p < 4096 ∧ ref02_After kind (rd st ctx) bit = some s ∧ StateOk kind s ∧ (lo1, hi1) = (if bit = 1 then (lo, midV lo hi p) else (midV lo hi p + 1, hi)) ∧ Iv lo1 hi1 ∧
      ref02_Encoder_Put ctx bit kind lo hi st out = some (0, kind, (flush 4 lo1 hi1 out).1, (flush 4 lo1 hi1 out).2.1, st.set ctx.toNat s, (flush 4 lo1 hi1 out).2.2) := by
  have hs : StateOk kind (rd st ctx) := h.states _ (List.mem_of_getElem? (rd_get hc.1 hc.2))
  obtain ⟨p, hp, hp0, hp1⟩ := likely_is hs
  obtain ⟨s, ha, hs'⟩ := after_is hs hb
  have hlt : lo < hi := by
    have := h.open_
    have := h.iv.2.1
    rcases Int.lt_or_le lo hi with q | q
    · exact q
    · exact absurd (by rw [show lo = hi by omega]) h.open_
  have hm := midV_ge h.iv.2.1 hp0
  have hm2 := midV_lt hlt hp0 hp1
  obtain ⟨i0, i1, i2⟩ := h.iv
  refine ⟨p, s, (if bit = 1 then (lo, midV lo hi p) else (midV lo hi p + 1, hi)).1, (if bit = 1 then (lo, midV lo hi p) else (midV lo hi p + 1, hi)).2, hp, hp0, hp1, ha, hs', rfl, ?_, ?_⟩
  · split
    · exact ⟨i0, hm, by omega⟩
    · exact ⟨by show 0 ≤ midV lo hi p + 1; omega, by show midV lo hi p + 1 ≤ hi; omega, i2⟩
  · have hiv : Iv (if bit = 1 then (lo, midV lo hi p) else (midV lo hi p + 1, hi)).1 (if bit = 1 then (lo, midV lo hi p) else (midV lo hi p + 1, hi)).2 := by
      split
      · exact ⟨i0, hm, by omega⟩
      · exact ⟨by show 0 ≤ midV lo hi p + 1; omega, by show midV lo hi p + 1 ≤ hi; omega, i2⟩
    rw [ref02_Encoder_Put_eq]
    have c1 : ¬ ctx < 0 := by omega
    have c2 : ¬ ctx ≥ ((st.length : Nat) : Int) := by omega
    have c3 : (if (!decide (bit = 0)) = true then some (!decide (bit = 1)) else some false) = some false := by rcases hb with rfl | rfl <;> rfl
    simp only [c1, c2, c3, decide_false, Bool.false_eq_true, if_false, Option.bind_some, hc, and_self, if_true, hp, ha, part_is h.iv hp0 hp1]
    rw [refPut_loop 4 _ _ _ hiv (by simp only [gapOf]; have := hiv.2.1; omega) (by omega)]
    rfl

/-! ### The end of a code: as few bytes of high as can be -/
theorem ushr_lit {n s m : Int} (hm : (2 : Int) ^ (min s.toNat IntKind.u64.bits) = m) (h0 : 0 ≤ m) : ishr .u64 n s = n / m := by
  unfold ishr; rw [hm, Int.fdiv_eq_ediv_of_nonneg _ h0]
theorem ushl_lit {n s m : Int} (hm : (2 : Int) ^ (min s.toNat IntKind.u64.bits) = m) (h : 0 ≤ n * m ∧ n * m < 18446744073709551616) : ishl .u64 n s = n * m := by
  unfold ishl; rw [hm, wu64]; omega
def tbyte (hi : Int) : Nat → Int
  | 0 => hi / 16777216 % 256
  | 1 => hi / 65536 % 256
  | 2 => hi / 256 % 256
  | _ => hi / 1 % 256
def cutH (hi : Int) : Nat → Int
  | 0 => 0
  | 1 => hi / 16777216 * 16777216
  | 2 => hi / 65536 * 65536
  | 3 => hi / 256 * 256
  | _ => hi
def tbl (hi : Int) : Nat → List Int
  | 0 => []
  | n + 1 => tbl hi n ++ [tbyte hi n]
theorem tbl_len (hi : Int) : ∀ n, (tbl hi n).length = n
  | 0 => rfl
  | n + 1 => by simp [tbl, tbl_len hi n]
theorem refEnd_step {lo hi : Int} (h : Iv lo hi) : ∀ k, k < 4 → cutH hi k < lo → ref02_Interval_End_loop3 lo hi (cutH hi k, tbl hi k) = some (.inl (cutH hi (k + 1), tbl hi (k + 1))) := by
  intro k hk hlt
  obtain ⟨h0, h1, h2⟩ := h
  have hh : 0 ≤ hi := by omega
  unfold ref02_Interval_End_loop3
  simp only [hlt, decide_true, if_true, tbl_len, List.length_singleton]
  rcases k with _ | _ | _ | _ | k
  · have e : IntKind.i64.wrap (24 - IntKind.i64.wrap (8 * ((0 : Nat) : Int))) = 24 := by decide
    rw [e, ushr_lit (m := 16777216) (by decide) (by decide), tmod_pos (by omega), ushl_lit (m := 16777216) (by decide) (by omega), wu64, w8]
    simp only [cutH, tbl, tbyte, List.nil_append]
    rw [if_neg (by decide), if_pos (by decide), if_neg (by decide), if_neg (by decide)]
    congr 3
    omega
  · have e : IntKind.i64.wrap (24 - IntKind.i64.wrap (8 * ((0 + 1 : Nat) : Int))) = 16 := by decide
    rw [e, ushr_lit (m := 65536) (by decide) (by decide), tmod_pos (by omega), ushl_lit (m := 65536) (by decide) (by omega), wu64, w8]
    simp only [cutH, tbl, tbyte, List.nil_append]
    rw [if_neg (by decide), if_pos (by decide), if_neg (by decide), if_neg (by decide)]
    congr 3
    omega
  · have e : IntKind.i64.wrap (24 - IntKind.i64.wrap (8 * ((0 + 1 + 1 : Nat) : Int))) = 8 := by decide
    rw [e, ushr_lit (m := 256) (by decide) (by decide), tmod_pos (by omega), ushl_lit (m := 256) (by decide) (by omega), wu64, w8]
    simp only [cutH, tbl, tbyte, List.nil_append]
    rw [if_neg (by decide), if_pos (by decide), if_neg (by decide), if_neg (by decide)]
    congr 3
    omega
  · have e : IntKind.i64.wrap (24 - IntKind.i64.wrap (8 * ((0 + 1 + 1 + 1 : Nat) : Int))) = 0 := by decide
    rw [e, ushr_lit (m := 1) (by decide) (by decide), tmod_pos (by omega), ushl_lit (m := 1) (by decide) (by omega), wu64, w8]
    simp only [cutH, tbl, tbyte, List.nil_append]
    rw [if_neg (by decide), if_pos (by decide), if_neg (by decide), if_neg (by decide)]
    congr 3
    omega
  · omega
/-- how many bytes an end takes -/
def endN (lo hi : Int) : Nat := if lo ≤ cutH hi 0 then 0 else if lo ≤ cutH hi 1 then 1 else if lo ≤ cutH hi 2 then 2 else if lo ≤ cutH hi 3 then 3 else 4
theorem endN_is {lo hi : Int} (h : Iv lo hi) : endN lo hi ≤ 4 ∧ (∀ k, k < endN lo hi → cutH hi k < lo) ∧ lo ≤ cutH hi (endN lo hi) := by
  unfold endN
  split
  · exact ⟨by omega, fun k hk => by omega, ‹_›⟩
  · split
    · exact ⟨by omega, fun k hk => by obtain rfl : k = 0 := by omega
                                      omega, ‹_›⟩
    · split
      · refine ⟨by omega, fun k hk => ?_, ‹_›⟩
        rcases k with _ | _ | k <;> (try simp only [Nat.zero_add]) <;> omega
      · split
        · refine ⟨by omega, fun k hk => ?_, ‹_›⟩
          rcases k with _ | _ | _ | k <;> (try simp only [Nat.zero_add, Nat.reduceAdd]) <;> omega
        · refine ⟨by omega, fun k hk => ?_, h.2.1⟩
          rcases k with _ | _ | _ | _ | k <;> (try simp only [Nat.zero_add, Nat.reduceAdd]) <;> omega
theorem refEnd_loop {lo hi : Int} (h : Iv lo hi) : ∀ d k, k + d = endN lo hi → loop (ref02_Interval_End_loop3 lo hi) (cutH hi k, tbl hi k) = some (tbl hi (endN lo hi))
  | 0, k, hk => by
    obtain ⟨_, _, h3⟩ := endN_is h
    rw [Nat.add_zero] at hk
    rw [← hk] at h3 ⊢
    refine loop_done ?_
    unfold ref02_Interval_End_loop3
    have : ¬ cutH hi k < lo := by omega
    simp only [this, decide_false, Bool.false_eq_true, if_false]
  | d + 1, k, hk => by
    obtain ⟨h1, h2, _⟩ := endN_is h
    rw [loop_step (refEnd_step h k (by omega) (h2 k (by omega)))]
    exact refEnd_loop h d (k + 1) (by omega)
theorem refEnd_is {kind lo hi : Int} {st out : List Int} (h : Iv lo hi) (hl : out.length + 4 ≤ 140737488355328) : ref02_Encoder_End kind lo hi st out = some (out ++ tbl hi (endN lo hi), kind, lo, hi, st, out) := by
  have h1 := (endN_is h).1
  rw [ref02_Encoder_End_eq, ref02_Interval_End_eq]
  have := refEnd_loop h (endN lo hi) 0 (by omega)
  rw [show cutH hi 0 = 0 from rfl, show tbl hi 0 = [] from rfl] at this
  rw [this]
  simp only [List.length_nil, List.nil_append, Option.bind_some, tbl_len]
  rw [if_pos (by omega), if_pos (by omega)]
theorem endIn_loop {lo hi : Int} (h : Iv lo hi) {n : Nat} (hn : n ≤ 4) {out : List Int} (hl : out.length + 4 ≤ 140737488355328) : ∀ d k, k + d = n → loop (coder_Encoder_End_loop10 hi (n : Int)) ((k : Int), out ++ tbl hi k) = some (out ++ tbl hi n)
  | 0, k, hk => by
    rw [Nat.add_zero] at hk
    subst hk
    refine loop_done ?_
    unfold coder_Encoder_End_loop10
    simp
  | d + 1, k, hk => by
    rw [loop_step (s' := (((k + 1 : Nat) : Int), out ++ tbl hi (k + 1)))]
    · exact endIn_loop h hn hl d (k + 1) (by omega)
    · obtain ⟨h0, h1, h2⟩ := h
      unfold coder_Encoder_End_loop10
      have h3 : (k : Int) < (n : Int) := by omega
      simp only [h3, decide_true, if_true, List.length_append, tbl_len, List.length_singleton]
      have hw : IntKind.i64.wrap ((k : Int) + 1) = ((k + 1 : Nat) : Int) := by rw [w64 (by omega)]; rfl
      have e : IntKind.i64.wrap (24 - IntKind.i64.wrap (8 * (k : Int))) = 24 - 8 * (k : Int) := by rw [w64 (n := 8 * (k : Int)) (by omega), w64 (by omega)]
      have hb : IntKind.u8.wrap (ishr .u64 hi (24 - 8 * (k : Int))) = tbyte hi k := by
        rcases k with _ | _ | _ | _ | k
        · rw [ushr_lit (m := 16777216) (by decide) (by decide), w8]; rfl
        · rw [ushr_lit (m := 65536) (by decide) (by decide), w8]; rfl
        · rw [ushr_lit (m := 256) (by decide) (by decide), w8]; rfl
        · rw [ushr_lit (m := 1) (by decide) (by decide), w8]; rfl
        · omega
      rw [e, hb, hw, if_neg (by omega), if_pos (by omega)]
      simp only [tbl, List.append_assoc]
theorem endOut_loop {lo hi : Int} (h : Iv lo hi) {out : List Int} (hl : out.length + 4 ≤ 140737488355328) : ∀ d k, k + d = endN lo hi → loop (coder_Encoder_End_loop5 lo hi) ((k : Int), out) = some (Sum.inr (out ++ tbl hi (endN lo hi)))
  | d, k, hk => by
    obtain ⟨q1, q2, q3⟩ := endN_is h
    have hk4 : k ≤ 4 := by omega
    have e : IntKind.u64.wrap (IntKind.i64.wrap (32 - IntKind.i64.wrap (8 * (k : Int)))) = 32 - 8 * (k : Int) := by rw [w64 (n := 8 * (k : Int)) (by omega), w64 (by omega), wu64]; omega
    have hc : ishl .u64 (ishr .u64 hi (32 - 8 * (k : Int))) (32 - 8 * (k : Int)) = cutH hi k := by
      obtain ⟨h0, h1, h2⟩ := h
      rcases k with _ | _ | _ | _ | _ | k
      · rw [ushr_lit (m := 4294967296) (by decide) (by decide), ushl_lit (m := 4294967296) (by decide) (by omega)]
        show _ = (0 : Int)
        omega
      · rw [ushr_lit (m := 16777216) (by decide) (by decide), ushl_lit (m := 16777216) (by decide) (by omega)]; rfl
      · rw [ushr_lit (m := 65536) (by decide) (by decide), ushl_lit (m := 65536) (by decide) (by omega)]; rfl
      · rw [ushr_lit (m := 256) (by decide) (by decide), ushl_lit (m := 256) (by decide) (by omega)]; rfl
      · rw [ushr_lit (m := 1) (by decide) (by decide), ushl_lit (m := 1) (by decide) (by omega)]
        show _ = hi
        omega
      · omega
    have h5 : (k : Int) < 5 := by omega
    cases d with
    | zero =>
      rw [Nat.add_zero] at hk
      subst hk
      refine loop_done ?_
      unfold coder_Encoder_End_loop5
      simp only [h5, decide_true, if_true, e, hc]
      rw [if_neg (by omega), if_neg (by omega)]
      have h6 : cutH hi (endN lo hi) ≥ lo := q3
      simp only [h6, decide_true, if_true]
      have := endIn_loop h q1 hl (endN lo hi) 0 (by omega)
      simp only [tbl, List.append_nil] at this
      rw [show ((0 : Nat) : Int) = 0 from rfl] at this
      rw [this]; rfl
    | succ d =>
      rw [loop_step (s' := (((k + 1 : Nat) : Int), out))]
      · exact endOut_loop h hl d (k + 1) (by omega)
      · unfold coder_Encoder_End_loop5
        simp only [h5, decide_true, if_true, e, hc]
        rw [if_neg (by omega), if_neg (by omega)]
        have h6 : ¬ cutH hi k ≥ lo := by have := q2 k (by omega); omega
        have hw : IntKind.i64.wrap ((k : Int) + 1) = ((k + 1 : Nat) : Int) := by rw [w64 (by omega)]; rfl
        simp only [h6, decide_false, Bool.false_eq_true, if_false, hw]
theorem end_is {kind lo hi : Int} {st out : List Int} (h : Iv lo hi) (hl : out.length + 4 ≤ 140737488355328) : coder_Encoder_End kind lo hi st out = ref02_Encoder_End kind lo hi st out := by
  rw [refEnd_is h hl, coder_Encoder_End_eq, coder_Encoder_none_eq]
  have := endOut_loop h hl (endN lo hi) 0 (by omega)
  rw [show ((0 : Nat) : Int) = 0 from rfl] at this
  simp only [Option.bind_some, Bool.false_eq_true, if_false, List.length_nil, List.nil_append, this]
  rw [if_pos (by omega)]
  rfl

/-! ### New models -/
theorem valid_loop {st : List Int} {e : Int} (hl : st.length ≤ 8192) (hs : ∀ s ∈ st, 0 ≤ s ∧ s < e) : ∀ d k, k + d = st.length → loop (coder_Valid_loop7 st e) (k : Int) = some (Sum.inl ())
  | 0, k, hk => by
    refine loop_done ?_
    unfold coder_Valid_loop7
    have : ¬ (k : Int) < ((st.length : Nat) : Int) := by omega
    simp only [this, decide_false, Bool.false_eq_true, if_false]
  | d + 1, k, hk => by
    rw [loop_step (s' := ((k + 1 : Nat) : Int))]
    · exact valid_loop hl hs d (k + 1) (by omega)
    · have h1 : (k : Int) < ((st.length : Nat) : Int) := by omega
      have h0 : (0 : Int) ≤ (k : Int) := by omega
      obtain ⟨a1, a2⟩ := hs _ (List.mem_of_getElem? (rd_get h0 h1))
      have n1 : ¬ rd st (k : Int) < 0 := by omega
      have n2 : ¬ rd st (k : Int) ≥ e := by omega
      have hw : IntKind.i64.wrap ((k : Int) + 1) = ((k + 1 : Nat) : Int) := by rw [w64 (by omega)]; rfl
      unfold coder_Valid_loop7
      simp only [h1, h0, n1, n2, hw, decide_true, decide_false, Bool.false_eq_true, if_true, if_false, and_self]
theorem validR_loop {st : List Int} {e : Int} (hl : st.length ≤ 8192) (hs : ∀ s ∈ st, 0 ≤ s ∧ s ≤ e) : ∀ d k, k + d = st.length → loop (ref02_Valid_loop7 st e) (k : Int) = some (Sum.inl ())
  | 0, k, hk => by
    refine loop_done ?_
    unfold ref02_Valid_loop7
    have : ¬ (k : Int) < ((st.length : Nat) : Int) := by omega
    simp only [this, decide_false, Bool.false_eq_true, if_false]
  | d + 1, k, hk => by
    rw [loop_step (s' := ((k + 1 : Nat) : Int))]
    · exact validR_loop hl hs d (k + 1) (by omega)
    · have h1 : (k : Int) < ((st.length : Nat) : Int) := by omega
      have h0 : (0 : Int) ≤ (k : Int) := by omega
      obtain ⟨a1, a2⟩ := hs _ (List.mem_of_getElem? (rd_get h0 h1))
      have n1 : ¬ rd st (k : Int) < 0 := by omega
      have n2 : ¬ rd st (k : Int) > e := by omega
      have hw : IntKind.i64.wrap ((k : Int) + 1) = ((k + 1 : Nat) : Int) := by rw [w64 (by omega)]; rfl
      unfold ref02_Valid_loop7
      simp only [h1, h0, n1, n2, hw, decide_true, decide_false, Bool.false_eq_true, if_true, if_false, and_self]
theorem valid_is {kind : Int} {st : List Int} (hk : kind = 0 ∨ kind = 1) (hl : st.length ≤ 8192) (hs : ∀ s ∈ st, StateOk kind s) : coder_Valid kind st = some true ∧ ref02_Valid kind st = some true := by
  have hn : ¬ ((st.length : Nat) : Int) > 8192 := by omega
  rw [coder_Valid_eq, ref02_Valid_eq]
  rcases hk with rfl | rfl
  · have h1 := valid_loop (e := 64) hl (fun s h => by rcases hs s h with q | q <;> omega) st.length 0 (by omega)
    have h2 := validR_loop (e := 63) hl (fun s h => by rcases hs s h with q | q <;> omega) st.length 0 (by omega)
    rw [show ((0 : Nat) : Int) = 0 from rfl] at h1 h2
    constructor
    · simp only [hn, show ¬ ((0 : Int) = 1) by decide, decide_true, decide_false, Bool.not_true, Bool.not_false, Bool.false_eq_true, if_true, if_false, Option.bind_some, h1, Sum.elim_inl]
    · simp only [hn, show ¬ ((0 : Int) = 1) by decide, decide_true, decide_false, Bool.not_true, Bool.not_false, Bool.false_eq_true, if_true, if_false, Option.bind_some, h2, Sum.elim_inl]
  · have h1 := valid_loop (e := 65536) hl (fun s h => by rcases hs s h with q | q <;> omega) st.length 0 (by omega)
    have h2 := validR_loop (e := 65535) hl (fun s h => by rcases hs s h with q | q <;> omega) st.length 0 (by omega)
    rw [show ((0 : Nat) : Int) = 0 from rfl] at h1 h2
    constructor
    · simp only [hn, show ¬ ((1 : Int) = 0) by decide, decide_true, decide_false, Bool.not_true, Bool.not_false, Bool.false_eq_true, if_true, if_false, Option.bind_some, h1, Sum.elim_inl]
    · simp only [hn, show ¬ ((1 : Int) = 0) by decide, decide_true, decide_false, Bool.not_true, Bool.not_false, Bool.false_eq_true, if_true, if_false, Option.bind_some, h2, Sum.elim_inl]
theorem clone_is {kind : Int} {st : List Int} (hl : st.length ≤ 8192) : coder_clone kind st = some (kind, st) ∧ ref02_Copy kind st = some (kind, st) := by
  rw [coder_clone_eq, ref02_Copy_eq]
  simp only [List.length_nil, List.nil_append, Nat.zero_add]
  rw [if_pos (by omega)]
  exact ⟨rfl, rfl⟩
/-- a new encoder of a valid model: the same in both -/
theorem newEncoder_is {kind : Int} {st : List Int} (hk : kind = 0 ∨ kind = 1) (hl : st.length ≤ 8192) (hs : ∀ s ∈ st, StateOk kind s) :
    coder_NewEncoder kind st = some (Sum.inl (kind, 0, 4294967295, st, [])) ∧ ref02_NewEncoder kind st = some (Sum.inl (kind, 0, 4294967295, st, [])) ∧ EncOk kind 0 4294967295 st := by
  obtain ⟨h1, h2⟩ := valid_is hk hl hs
  obtain ⟨c1, c2⟩ := clone_is (kind := kind) hl
  refine ⟨?_, ?_, ⟨hk, ⟨by decide, by decide, by decide⟩, by decide, hs⟩⟩
  · rw [coder_NewEncoder_eq, h1, coder_begin_eq, c1, coder_chances_eq]; rfl
  · rw [ref02_NewEncoder_eq, h2, c2, ref02_Whole_eq]; rfl
theorem new_is {kind n : Int} (hk : kind = 0 ∨ kind = 1) (h0 : 0 ≤ n) (h1 : n ≤ 8192) : coder_New kind n = some (kind, List.replicate n.toNat 0, 0) ∧ ref02_New kind n = some (kind, List.replicate n.toNat 0, 0) := by
  have a1 : ¬ n < 0 := by omega
  have a2 : ¬ n > 8192 := by omega
  have a3 : 0 ≤ n ∧ n ≤ n ∧ ((8 : Nat) : Int) * n ≤ 281474976710656 := ⟨h0, Int.le_refl _, by omega⟩
  rw [coder_New_eq, ref02_New_eq]
  rcases hk with rfl | rfl
  · simp only [a1, a2, a3, decide_true, decide_false, Bool.not_true, Bool.not_false, Bool.false_eq_true, if_true, if_false, Option.bind_some, and_self]
  · simp only [a1, a2, a3, show ¬ ((1 : Int) = 0) by decide, decide_true, decide_false, Bool.not_true, Bool.not_false, Bool.false_eq_true, if_true, if_false, Option.bind_some, and_self]
theorem new_states {kind : Int} (hk : kind = 0 ∨ kind = 1) (n : Nat) : ∀ s ∈ List.replicate n (0 : Int), StateOk kind s := by
  intro s hs
  rw [(List.mem_replicate.1 hs).2]
  rcases hk with rfl | rfl
  · exact .inl ⟨rfl, by decide, by decide⟩
  · exact .inr ⟨rfl, by decide, by decide⟩
end Go.Proofs.YtkccnhkhjncpkaaGreat.P

/- Sizes and their bytes, sides, and what pages' data are made of: the program against its reference. -/
namespace Go.Proofs.YtkccnhkhjncpkaaGreat.P
open Go Go.Proofs.YtkccnhkhjncpkaaGreat.V
set_option linter.unusedVariables false
set_option linter.unusedSimpArgs false

theorem size_loop_eq : bits_Size_loop5 = ref01_Size_loop5 := by
  funext s
  unfold bits_Size_loop5 ref01_Size_loop5
  simp only [iteD]
  split
  · rename_i h
    have e1 : s.1.tmod 128 = s.1 % 128 := tmod_pos (by omega)
    have : IntKind.u8.wrap (IntKind.u8.wrap (s.1.tmod 128) + 128) = IntKind.u8.wrap (IntKind.i64.wrap (128 + s.1.tmod 128)) := by
      rw [e1, w8, w8, w64 (by omega), w8]; omega
    rw [this]
  · rfl
theorem size_eq (n : Int) : bits_Size n = ref01_Size n := by rw [bits_Size_eq, ref01_Size_eq, size_loop_eq]

theorem size_loop_some : ∀ s : Int × List Int, 0 ≤ s.1 ∧ (s.2.length : Int) + s.1 ≤ 2147483650 → ∃ a, loop ref01_Size_loop5 s = some a ∧ a.length ≤ 2147483650 := by
  refine loop_ind (fun (s : Int × List Int) => 0 ≤ s.1 ∧ (s.2.length : Int) + s.1 ≤ 2147483650) (fun (s : Int × List Int) => s.1.toNat) (fun (a : List Int) => a.length ≤ 2147483650) ?_
  rintro ⟨n, out⟩ ⟨h1, h2⟩
  simp only at h1 h2
  unfold ref01_Size_loop5
  simp only [iteD]
  by_cases h : n > 0
  · have e2 : n.tdiv 128 = n / 128 := tdiv_pos (by omega)
    rw [if_pos h, if_pos (by simp only [List.length_cons, List.length_nil]; omega)]
    refine .inl ⟨_, rfl, ?_, ?_⟩
    · simp only [e2, List.length_append, List.length_cons, List.length_nil]
      rw [w64 (by omega)]
      omega
    · simp only [e2]
      rw [w64 (by omega)]
      omega
  · rw [if_neg h]
    exact .inr ⟨_, rfl, by omega⟩

theorem size_some (n : Int) : ∃ l e, ref01_Size n = some (l, e) ∧ l.length ≤ 2147483650 ∧ (0 ≤ n → n ≤ 2147483647 → e = 0) := by
  rw [ref01_Size_eq]
  simp only [iteD]
  by_cases h1 : n < 0
  · exact ⟨[], 2, by simp [h1], by simp, fun h => by omega⟩
  · by_cases h2 : n > 2147483647
    · exact ⟨[], 2, by simp [h1, h2], by simp, fun _ h => by omega⟩
    · obtain ⟨a, ha, hl⟩ := size_loop_some (IntKind.i64.wrap (n.tdiv 128), [IntKind.u8.wrap (n.tmod 128)]) (by
        simp only [List.length_cons, List.length_nil]
        rw [tdiv_pos (by omega), w64 (by omega)]; omega)
      exact ⟨a, 0, by simp [h1, h2, ha], hl, fun _ _ => rfl⟩

theorem writer_over (l : List Int) (hl : l.length ≤ 1000) (b : List Int) : loop (page_writer_size_loop1 l) (0, b) =
    overL (fun _ x b => (ref01_Size x).bind fun q => if (b.length + q.1.length) * 1 ≤ 140737488355328 then some (.inl (b ++ q.1)) else none) some 0 l b := by
  refine loop_over l (fun n b => ((n : Int), b)) _ _ (fun s => ?_) (fun i x s h => ?_) 0 b (by omega)
  · unfold page_writer_size_loop1; simp
  · have hl := lt_len_of_get h
    unfold page_writer_size_loop1
    simp only [iteD]
    rw [if_pos (by omega), if_pos ⟨by omega, by omega⟩, rd_nat h, size_eq]
    cases ref01_Size x with
    | none => rfl
    | some q =>
      simp only [Option.bind_some]
      split
      · rw [w64 (by omega)]; rfl
      · rfl
theorem writer1 (x : Int) {s : List Int} {e : Int} (hs : ref01_Size x = some (s, e)) (hl : s.length ≤ 2147483650) : page_writer_size [x] [] = some s := by
  rw [page_writer_size_eq, writer_over _ (by simp)]
  simp only [overL, hs, Option.bind_some]
  rw [if_pos (by simp; omega)]
  simp
theorem writer2 (x y : Int) {s t : List Int} {e f : Int} (hs : ref01_Size x = some (s, e)) (hl : s.length ≤ 2147483650) (ht : ref01_Size y = some (t, f)) (hm : t.length ≤ 2147483650) :
    page_writer_size [x, y] [] = some (s ++ t) := by
  rw [page_writer_size_eq, writer_over _ (by simp)]
  simp only [overL, hs, ht, Option.bind_some]
  rw [if_pos (by simp; omega)]
  simp only
  rw [if_pos (by simp; omega)]
  simp

theorem byte_over (l : List Int) (hl : l.length ≤ 1000) (b : List Int) : loop (page_writer_byte_loop1 l) (0, b) =
    overL (fun _ x b => if (b.length + 1) * 1 ≤ 140737488355328 then some (.inl (b ++ [IntKind.u8.wrap x])) else none) some 0 l b := by
  refine loop_over l (fun n b => ((n : Int), b)) _ _ (fun s => ?_) (fun i x s h => ?_) 0 b (by omega)
  · unfold page_writer_byte_loop1; simp
  · have hl := lt_len_of_get h
    unfold page_writer_byte_loop1
    simp only [iteD]
    rw [if_pos (by omega), if_pos ⟨by omega, by omega⟩, rd_nat h]
    simp only [List.length_cons, List.length_nil, Nat.zero_add]
    split
    · rw [w64 (by omega)]; rfl
    · rfl
theorem byte1 (x : Int) (b : List Int) (hb : b.length ≤ 5000000000) : page_writer_byte [x] b = some (b ++ [IntKind.u8.wrap x]) := by
  rw [page_writer_byte_eq, byte_over _ (by simp)]
  simp only [overL]
  rw [if_pos (by omega)]
  simp

theorem join_over (l : List (List Int)) (hl : l.length ≤ 1000) (b : List Int) : loop (ref13_join_loop3 l) (0, b) =
    overL (fun _ x b => if (b.length + x.length) * 1 ≤ 140737488355328 then some (.inl (b ++ x)) else none) some 0 l b := by
  refine loop_over l (fun n b => ((n : Int), b)) _ _ (fun s => ?_) (fun i x s h => ?_) 0 b (by omega)
  · unfold ref13_join_loop3; simp
  · have hl := lt_len_of_get h
    unfold ref13_join_loop3
    simp only [iteD]
    rw [if_pos (by omega), if_pos (by omega), Int.toNat_natCast, h]
    simp only [Option.bind_some]
    split
    · rw [w64 (by omega)]; rfl
    · rfl
theorem join3 (x y z : List Int) (hx : x.length ≤ 5000000000) (hy : y.length ≤ 5000000000) (hz : z.length ≤ 5000000000) : ref13_join [x, y, z] = some (x ++ y ++ z) := by
  rw [ref13_join_eq, join_over _ (by simp)]
  simp only [overL]
  rw [if_pos (by simp; omega)]
  simp only
  rw [if_pos (by simp; omega)]
  simp only
  rw [if_pos (by simp; omega)]
  simp

theorem fits_eq (w h : Int) : bitmap_fits w h = ref05_Sides w h := by rw [bitmap_fits_eq, ref05_Sides_eq]
theorem sides_some (w h : Int) : ∃ b, ref05_Sides w h = some b ∧ (b = true → 0 ≤ w ∧ 0 ≤ h ∧ w ≤ 200 ∧ h ≤ 200 ∧ w * h ≤ 8192) := by
  rw [ref05_Sides_eq]
  simp only [iteD]
  by_cases h1 : w ≥ 0
  · by_cases h2 : h ≥ 0
    · by_cases h3 : w ≤ 200
      · by_cases h4 : h ≤ 200
        · refine ⟨_, by rw [if_pos h1, if_pos h2, if_pos h3, if_pos h4], fun hh => ?_⟩
          have b1 : w * h ≤ 200 * h := Int.mul_le_mul_of_nonneg_right h3 h2
          have b0 : 0 ≤ w * h := Int.mul_nonneg h1 h2
          rw [w64 (by omega)] at hh
          exact ⟨h1, h2, h3, h4, of_decide_eq_true hh⟩
        · exact ⟨false, by rw [if_pos h1, if_pos h2, if_pos h3, if_neg h4], fun h => by cases h⟩
      · exact ⟨false, by rw [if_pos h1, if_pos h2, if_neg h3], fun h => by cases h⟩
    · exact ⟨false, by rw [if_pos h1, if_neg h2], fun h => by cases h⟩
  · exact ⟨false, by rw [if_neg h1], fun h => by cases h⟩

end Go.Proofs.YtkccnhkhjncpkaaGreat.P

/- A bit that is put: the program's encoder and the reference's come to the same. Bitmaps and their pixels. -/
namespace Go.Proofs.YtkccnhkhjncpkaaGreat.P
open Go Go.Proofs.YtkccnhkhjncpkaaGreat.V
set_option linter.unusedVariables false
set_option linter.unusedSimpArgs false

/-! ### Two that go together -/
/-- both come to something, and these two go together -/
def Both {α β : Type} (x : Option α) (y : Option β) (P : α → β → Prop) : Prop := ∃ a b, x = some a ∧ y = some b ∧ P a b
theorem Both.mk {α β : Type} {a : α} {b : β} {P : α → β → Prop} (h : P a b) : Both (some a) (some b) P := ⟨a, b, rfl, rfl, h⟩
theorem Both.bind {α β γ δ : Type} {x : Option α} {y : Option β} {P : α → β → Prop} {f : α → Option γ} {g : β → Option δ} {Q : γ → δ → Prop} (h : Both x y P) (k : ∀ a b, P a b → Both (f a) (g b) Q) : Both (x.bind f) (y.bind g) Q := by
  obtain ⟨a, b, rfl, rfl, hp⟩ := h
  exact k a b hp
theorem Both.imp {α β : Type} {x : Option α} {y : Option β} {P Q : α → β → Prop} (h : Both x y P) (k : ∀ a b, P a b → Q a b) : Both x y Q := by
  obtain ⟨a, b, h1, h2, hp⟩ := h
  exact ⟨a, b, h1, h2, k a b hp⟩
theorem Both.eq {α : Type} {x y : Option α} (h : Both x y Eq) : x = y := by
  obtain ⟨a, b, h1, h2, rfl⟩ := h
  rw [h1, h2]
/-- a step of two loops -/
def StepTo {S S' A A' : Type} (R : S → S' → Prop) (Q : A → A' → Prop) : S ⊕ A → S' ⊕ A' → Prop
  | .inl s, .inl t => R s t
  | .inr a, .inr b => Q a b
  | _, _ => False
theorem Both.loop {S S' A A' : Type} {f : S → Option (S ⊕ A)} {g : S' → Option (S' ⊕ A')} (R : S → S' → Prop) (Q : A → A' → Prop) (m : S → Nat)
    (h : ∀ s t, R s t → Both (f s) (g t) (StepTo (fun s' t' => R s' t' ∧ m s' < m s) Q)) : ∀ s t, R s t → Both (V.loop f s) (V.loop g t) Q := by
  refine loop_sim R Q m fun s t hr => ?_
  obtain ⟨a, b, h1, h2, hp⟩ := h s t hr
  cases a with
  | inl s' =>
    cases b with
    | inl t' => exact .inl ⟨s', t', h1, h2, hp.1, hp.2⟩
    | inr _ => exact hp.elim
  | inr a =>
    cases b with
    | inl _ => exact hp.elim
    | inr b => exact .inr ⟨a, b, h1, h2, hp⟩

/-! ### Put -/
theorem same_is {kind lo hi : Int} {st out : List Int} : coder_interval_same kind lo hi st out = some (decide (lo / 16777216 = hi / 16777216), kind, lo, hi, st, out) := by
  rw [coder_interval_same_eq]
  simp only [ushr24]
theorem put_loop {kind : Int} {st : List Int} : ∀ (n : Nat) (lo hi : Int) (out : List Int), Iv lo hi → gapOf n ≤ hi - lo → out.length + n ≤ 140737488355328 →
    loop coder_Encoder_Put_loop6 (kind, lo, hi, st, out) = some (kind, (flush n lo hi out).1, (flush n lo hi out).2.1, st, (flush n lo hi out).2.2)
  | 0, lo, hi, out, h, hg, hl => by
    refine loop_done ?_
    unfold coder_Encoder_Put_loop6
    simp only [same_is, Option.bind_some]
    simp only [gapOf] at hg
    have hne : ¬ lo / 16777216 = hi / 16777216 := by obtain ⟨h0, h1, h2⟩ := h; omega
    simp only [hne, decide_false, Bool.false_eq_true, if_false, flush]
  | n + 1, lo, hi, out, h, hg, hl => by
    by_cases e : lo / 16777216 = hi / 16777216
    · obtain ⟨h1, h2⟩ := h.shift e
      rw [loop_step (s' := (kind, lo % 16777216 * 256, hi % 16777216 * 256 + 255, st, out ++ [hi / 16777216]))]
      · rw [put_loop n _ _ _ h1 (by rw [h2]; exact gap_step hg (by have := h.2.1; omega)) (by simp; omega)]
        simp only [flush, e, if_true]
      · unfold coder_Encoder_Put_loop6
        simp only [same_is, Option.bind_some, lose_is h]
        simp only [e, decide_true, if_true, List.length_singleton]
        rw [if_pos (by omega)]
    · refine loop_done ?_
      unfold coder_Encoder_Put_loop6
      simp only [same_is, Option.bind_some]
      simp only [e, decide_false, Bool.false_eq_true, if_false, flush]

theorem put_is {ctx bit kind lo hi : Int} {st out : List Int} (h : EncOk kind lo hi st) (hc : 0 ≤ ctx ∧ ctx < (st.length : Int)) (hb : bit = 0 ∨ bit = 1) (hl : out.length + 4 ≤ 140737488355328) :
    ∃ lo' hi' st' out', coder_Encoder_Put ctx bit kind lo hi st out = some (0, kind, lo', hi', st', out') ∧ ref02_Encoder_Put ctx bit kind lo hi st out = some (0, kind, lo', hi', st', out') ∧
      EncOk kind lo' hi' st' ∧ st'.length = st.length ∧ out'.length ≤ out.length + 4 := by
  obtain ⟨p, s, lo1, hi1, hp, hp0, hp1, ha, hs', hpart, hiv, href⟩ := refPut_is h hc hb hl
  have hs : StateOk kind (rd st ctx) := h.states _ (List.mem_of_getElem? (rd_get hc.1 hc.2))
  have hlt : lo < hi := by
    rcases Int.lt_or_le lo hi with q | q
    · exact q
    · exact absurd (by rw [show lo = hi by have := h.iv.2.1; omega]) h.open_
  have hm := midV_ge h.iv.2.1 hp0
  have hm2 := midV_lt hlt hp0 hp1
  obtain ⟨i0, i1, i2⟩ := h.iv
  have hgap : gapOf 4 ≤ hi1 - lo1 := by simp only [gapOf]; have := hiv.2.1; omega
  obtain ⟨f1, f2, f3, f4⟩ := flush_is 4 lo1 hi1 out hiv hgap
  refine ⟨_, _, _, _, ?_, href, ⟨h.two, f1, f2, fun x hx => ?_⟩, by simp, f3⟩
  · rw [coder_Encoder_Put_eq, coder_Encoder_none_eq]
    have c1 : ¬ ctx < 0 := by omega
    have c2 : ¬ ctx ≥ ((st.length : Nat) : Int) := by omega
    have c3 : (if (!decide (bit = 0)) = true then some (!decide (bit = 1)) else some false) = some false := by rcases hb with rfl | rfl <;> rfl
    simp only [c1, c2, c3, decide_false, Bool.false_eq_true, if_false, Option.bind_some, mid_is h.iv hc hp hs hp0 hp1, take_is hb hc hs ⟨show 0 ≤ midV lo hi p by omega, by omega⟩, ha, Sum.elim_inl]
    have e : (if bit = 1 then (kind, lo, midV lo hi p, st.set ctx.toNat s, out) else (kind, midV lo hi p + 1, hi, st.set ctx.toNat s, out)) = (kind, lo1, hi1, st.set ctx.toNat s, out) := by
      split at hpart <;> rename_i q <;> simp only [Prod.mk.injEq] at hpart <;> obtain ⟨rfl, rfl⟩ := hpart <;> simp [q]
    rw [e]
    simp only
    rw [put_loop 4 _ _ _ hiv hgap (by omega)]
    rfl
  · rcases List.mem_or_eq_of_mem_set hx with q | rfl
    · exact h.states x q
    · exact hs'

/-! ### Bitmaps -/
def Bmp (w h : Int) (p : List Int) : Prop := 0 ≤ w ∧ 0 ≤ h ∧ w ≤ 200 ∧ h ≤ 200 ∧ w * h ≤ 8192 ∧ (p.length : Int) = w * h ∧ ∀ x ∈ p, x = 0 ∨ x = 1
/-- a pixel, white outside -/
def pixA (w h : Int) (p : List Int) (x y : Int) : Int := if 0 ≤ x ∧ 0 ≤ y ∧ x < w ∧ y < h then rd p (y * w + x) else 0
theorem idx_in {w h x y : Int} (hx : 0 ≤ x) (hxw : x < w) (hy : 0 ≤ y) (hyh : y < h) : 0 ≤ y * w ∧ 0 ≤ y * w + x ∧ y * w + x < w * h := by
  have h1 : 0 ≤ y * w := Int.mul_nonneg hy (by omega)
  have h2 : (y + 1) * w ≤ h * w := Int.mul_le_mul_of_nonneg_right (by omega) (by omega)
  rw [Int.add_mul, Int.one_mul, Int.mul_comm h w] at h2
  exact ⟨h1, by omega, by omega⟩
theorem rd_mem {l : List Int} {i : Int} (h0 : 0 ≤ i) (h1 : i < (l.length : Int)) : rd l i ∈ l := List.mem_of_getElem? (rd_get h0 h1)
theorem Bmp.pix {w h : Int} {p : List Int} (hb : Bmp w h p) {x y : Int} : pixA w h p x y = 0 ∨ pixA w h p x y = 1 := by
  obtain ⟨h0, h1, h2, h3, h4, h5, h6⟩ := hb
  unfold pixA
  split
  · rename_i q
    obtain ⟨q0, q1, q2, q3⟩ := q
    have := idx_in q0 q2 q1 q3
    exact h6 _ (rd_mem this.2.1 (by omega))
  · exact .inl rfl
theorem inside_is {w h x y : Int} {p : List Int} : ref05_inside w h p x y = some (decide (0 ≤ x ∧ 0 ≤ y ∧ x < w ∧ y < h)) := by
  rw [ref05_inside_eq]
  simp only [iteD]
  by_cases h1 : x ≥ 0 <;> by_cases h2 : y ≥ 0 <;> by_cases h3 : x < w <;> simp [h1, h2, h3] <;> omega
theorem At_is {w h : Int} {p : List Int} (hb : Bmp w h p) (x y : Int) : ref05_At w h p x y = some (pixA w h p x y) := by
  obtain ⟨h0, h1, h2, h3, h4, h5, h6⟩ := hb
  rw [ref05_At_eq, inside_is]
  unfold pixA
  by_cases q : 0 ≤ x ∧ 0 ≤ y ∧ x < w ∧ y < h
  · obtain ⟨a0, a1, a2⟩ := idx_in q.1 q.2.2.1 q.2.1 q.2.2.2
    have hr := h6 _ (rd_mem a1 (l := p) (by omega))
    simp only [q, decide_true, Option.bind_some, Bool.not_true, Bool.false_eq_true, if_false, if_true, and_self]
    rw [w64 (n := y * w) (by omega), w64 (n := y * w + x) (by omega), if_pos (by omega), w64 (by omega)]
  · simp only [q, decide_false, Option.bind_some, Bool.not_false, if_true, if_false]
end Go.Proofs.YtkccnhkhjncpkaaGreat.P

/- Bitmaps: which are right, and their pixels: the program against its references. -/
namespace Go.Proofs.YtkccnhkhjncpkaaGreat.P
open Go Go.Proofs.YtkccnhkhjncpkaaGreat.V
set_option linter.unusedVariables false
set_option linter.unusedSimpArgs false

theorem overL_all {X A : Type} (P : X → Bool) {step : Nat → X → Unit → Option (Unit ⊕ A)} {fin : Unit → Option A} {a : A} (h : ∀ n x, step n x () = if P x = true then some (.inl ()) else some (.inr a)) :
    ∀ (l : List X) (n : Nat), overL step fin n l () = if l.all P = true then fin () else some a
  | [], n => by simp [overL_nil]
  | x :: l, n => by
    by_cases hx : P x = true
    · rw [overL_next (s' := ()) (by rw [h, if_pos hx]), overL_all P h l (n + 1)]
      simp [hx]
    · rw [overL_exit (a := a) (by rw [h, if_neg hx])]
      simp [hx]

def sidesB (w h : Int) : Bool := decide (0 ≤ w ∧ 0 ≤ h ∧ w ≤ 200 ∧ h ≤ 200 ∧ w * h ≤ 8192)
theorem mul_small {w h : Int} (h0 : 0 ≤ w) (h1 : 0 ≤ h) (h2 : w ≤ 200) (h3 : h ≤ 200) : 0 ≤ w * h ∧ w * h ≤ 40000 := by
  have a := Int.mul_nonneg h0 h1
  have b : w * h ≤ 200 * 200 := Int.mul_le_mul h2 h3 h1 (by decide)
  omega
theorem Sides_is (w h : Int) : ref05_Sides w h = some (sidesB w h) := by
  rw [ref05_Sides_eq]
  unfold sidesB
  simp only [iteD]
  by_cases h0 : w ≥ 0 <;> by_cases h1 : h ≥ 0 <;> by_cases h2 : w ≤ 200 <;> by_cases h3 : h ≤ 200 <;> simp only [h0, h1, h2, h3, if_true, if_false, false_and, and_false, true_and, decide_false, show (0 ≤ w) = (w ≥ 0) from rfl, show (0 ≤ h) = (h ≥ 0) from rfl]
  obtain ⟨a, b⟩ := mul_small h0 h1 h2 h3
  rw [w64 (by omega)]
theorem sidesB_iff {w h : Int} : sidesB w h = true ↔ 0 ≤ w ∧ 0 ≤ h ∧ w ≤ 200 ∧ h ≤ 200 ∧ w * h ≤ 8192 := by unfold sidesB; rw [decide_eq_true_eq]

def bmpB (w h : Int) (p : List Int) : Bool := sidesB w h && (decide ((p.length : Int) = w * h) && p.all fun x => decide (x ≤ 1))
theorem bmpB_of {w h : Int} {p : List Int} (hp : ∀ x ∈ p, 0 ≤ x) (hb : bmpB w h p = true) : Bmp w h p := by
  unfold bmpB at hb
  rw [Bool.and_eq_true, Bool.and_eq_true, sidesB_iff, decide_eq_true_eq, List.all_eq_true] at hb
  obtain ⟨⟨a, b, c, d, e⟩, f, g⟩ := hb
  exact ⟨a, b, c, d, e, f, fun x hx => by have := hp x hx; have := of_decide_eq_true (g x hx); omega⟩
theorem Bmp.b {w h : Int} {p : List Int} (hb : Bmp w h p) : bmpB w h p = true := by
  obtain ⟨a, b, c, d, e, f, g⟩ := hb
  unfold bmpB
  rw [Bool.and_eq_true, Bool.and_eq_true, sidesB_iff, decide_eq_true_eq, List.all_eq_true]
  exact ⟨⟨a, b, c, d, e⟩, f, fun x hx => by rcases g x hx with rfl | rfl <;> decide⟩
theorem Valid05_is {w h : Int} {p : List Int} (hl : p.length ≤ 9223372036854775807) : ref05_Valid w h p = some (bmpB w h p) := by
  rw [ref05_Valid_eq, Sides_is]
  unfold bmpB
  simp only [Option.bind_some]
  by_cases hs : sidesB w h = true
  · obtain ⟨a, b, c, d, e⟩ := sidesB_iff.1 hs
    obtain ⟨m0, m1⟩ := mul_small a b c d
    rw [w64 (by omega), hs, ref05_Valid_loop4_over p hl (), overL_all (fun x => decide (x ≤ 1)) (a := Sum.inr false)]
    · by_cases hq : (p.length : Int) = w * h
      · by_cases ha : (p.all fun x => decide (x ≤ 1)) = true
        · simp [hq, ha]
        · simp [hq, ha]
      · simp [hq]
    · intro n x
      unfold ref05_Valid_loop4_step
      simp only [iteD]
      by_cases hx : x > 1
      · rw [if_pos hx, if_neg (by omega)]
      · rw [if_neg hx, if_pos (by omega)]
  · simp [hs]
theorem bitmapValid_is {w h : Int} {p : List Int} (hl : p.length ≤ 9223372036854775807) : bitmap_Valid w h p = some (bmpB w h p) := by
  rw [← Valid05_is hl, bitmap_Valid_eq, ref05_Valid_eq, fits_eq]
  rfl
theorem bmpErr {w h : Int} : bitmap_fits w h = some (sidesB w h) := by rw [fits_eq, Sides_is]
end Go.Proofs.YtkccnhkhjncpkaaGreat.P

/- Generic regions: pixels' contexts, rows that are the same, and what is put: the program against its reference. -/
namespace Go.Proofs.YtkccnhkhjncpkaaGreat.P
open Go Go.Proofs.YtkccnhkhjncpkaaGreat.V
set_option linter.unusedVariables false
set_option linter.unusedSimpArgs false

/-! ### Loops through lists -/
theorem overL_both {X S S' A A' : Type} {f : Nat → X → S → Option (S ⊕ A)} {g : Nat → X → S' → Option (S' ⊕ A')} {fin : S → Option A} {fin' : S' → Option A'} (R : Nat → S → S' → Prop) (Q : A → A' → Prop) :
    ∀ (l : List X) (n : Nat) (s : S) (t : S'), (∀ k x s t, l[k]? = some x → R (n + k) s t → Both (f (n + k) x s) (g (n + k) x t) (StepTo (R (n + k + 1)) Q)) → (∀ s t, R (n + l.length) s t → Both (fin s) (fin' t) Q) →
      R n s t → Both (overL f fin n l s) (overL g fin' n l t) Q
  | [], n, s, t, _, hf, hr => by rw [overL_nil, overL_nil]; exact hf s t hr
  | x :: l, n, s, t, h, hf, hr => by
    obtain ⟨a, b, h1, h2, hp⟩ := h 0 x s t rfl hr
    rw [Nat.add_zero] at h1 h2 hp
    cases a with
    | inl s' =>
      cases b with
      | inl t' =>
        rw [overL_next h1, overL_next h2]
        refine overL_both R Q l (n + 1) s' t' (fun k x s t hk hr => ?_) (fun s t hr => hf s t (by rw [List.length_cons]; rwa [show n + (l.length + 1) = n + 1 + l.length by omega])) hp
        have := h (k + 1) x s t (by simpa using hk) (by rwa [show n + (k + 1) = n + 1 + k by omega])
        rwa [show n + (k + 1) = n + 1 + k by omega] at this
      | inr b => exact hp.elim
    | inr a =>
      cases b with
      | inl _ => exact hp.elim
      | inr b => rw [overL_exit h1, overL_exit h2]; exact .mk hp
/-- a loop that always goes on -/
theorem overL_inv {X S A : Type} {f : Nat → X → S → Option (S ⊕ A)} {fin : S → Option A} (F : Nat → S) : ∀ (l : List X) (n : Nat), (∀ k x, l[k]? = some x → f (n + k) x (F (n + k)) = some (.inl (F (n + k + 1)))) → overL f fin n l (F n) = fin (F (n + l.length))
  | [], n, _ => by rw [overL_nil]; rfl
  | x :: l, n, h => by
    have h0 := h 0 x rfl
    rw [Nat.add_zero] at h0
    rw [overL_next h0, overL_inv F l (n + 1) (fun k x hk => ?_), List.length_cons, show n + (l.length + 1) = n + 1 + l.length by omega]
    have := h (k + 1) x (by simpa using hk)
    rwa [show n + (k + 1) = n + 1 + k by omega] at this

/-! ### Contexts -/
theorem plane_at_is {w h : Int} {p : List Int} {ar : List Arr2} (hb : Bmp w h p) (x y : Int) : generic_plane_at x y w h p ar = some (pixA w h p x y, w, h, p, ar) := by
  have hb' := hb
  obtain ⟨h0, h1, h2, h3, h4, h5, h6⟩ := hb
  rw [generic_plane_at_eq]
  unfold pixA
  by_cases q : 0 ≤ x ∧ 0 ≤ y ∧ x < w ∧ y < h
  · obtain ⟨a0, a1, a2⟩ := idx_in q.1 q.2.2.1 q.2.1 q.2.2.2
    obtain ⟨q0, q1, q2, q3⟩ := q
    have e : ((if decide (x < 0) = true then some true else if decide (y < 0) = true then some true else if decide (x ≥ w) = true then some true else some (decide (y ≥ h))) : Option Bool) = some false := by
      rw [if_neg (by simp; omega), if_neg (by simp; omega), if_neg (by simp; omega)]; simp; omega
    have hr : (if 0 ≤ x ∧ 0 ≤ y ∧ x < w ∧ y < h then rd p (y * w + x) else 0) = rd p (y * w + x) := if_pos ⟨q0, q1, q2, q3⟩
    rw [e, hr]
    simp only [Option.bind_some, Bool.false_eq_true, if_false]
    rw [w64 (n := y * w) (by omega), w64 (n := y * w + x) (by omega), if_pos (by omega)]
  · have e : ((if decide (x < 0) = true then some true else if decide (y < 0) = true then some true else if decide (x ≥ w) = true then some true else some (decide (y ≥ h))) : Option Bool) = some true := by
      simp only [iteD]
      by_cases q0 : x < 0
      · rw [if_pos q0]
      · by_cases q1 : y < 0
        · rw [if_neg q0, if_pos q1]
        · by_cases q2 : x ≥ w
          · rw [if_neg q0, if_neg q1, if_pos q2]
          · rw [if_neg q0, if_neg q1, if_neg q2]; simp; omega
    rw [e, if_neg q]
    simp

def tmplL (t : Int) : List (Int × Int) :=
  if t = 0 then [(-1, -2), (0, -2), (1, -2), (-2, -1), (-1, -1), (0, -1), (1, -1), (2, -1), (-2, 0), (-1, 0)]
  else if t = 1 then [(-1, -2), (0, -2), (-1, -1), (0, -1), (1, -1), (-2, 0), (-1, 0)]
  else if t = 2 then [(-2, -1), (-1, -1), (0, -1), (1, -1), (2, -1), (-2, 0), (-1, 0)]
  else [(-1, -1), (0, -1), (1, -1), (-1, 0)]
def ar2 (d : Int × Int) : Arr2 := ⟨d.1, d.2⟩
def px2 (d : Int × Int) : Pixel := ⟨d.1, d.2⟩
theorem tmplL_small (t : Int) : (tmplL t).length ≤ 10 ∧ ∀ d ∈ tmplL t, -8 ≤ d.1 ∧ d.1 ≤ 8 ∧ -8 ≤ d.2 ∧ d.2 ≤ 8 := by
  unfold tmplL
  split
  · decide
  · split
    · decide
    · split <;> decide
theorem pixels_is (t : Int) : generic_pixels t = some ((tmplL t).map ar2) := by
  rw [generic_pixels_eq]
  unfold tmplL
  simp only [iteD]
  by_cases h0 : t = 0
  · simp [h0, ar2]
  · by_cases h1 : t = 1
    · simp [h1, ar2]
    · by_cases h2 : t = 2
      · simp [h2, ar2]
      · simp [h0, h1, h2, ar2]
theorem template_is (t : Int) : ref07_template t = some ((tmplL t).map px2) := by
  rw [ref07_template_eq]
  unfold tmplL
  simp only [iteD]
  by_cases h0 : t = 0
  · simp [h0, px2]
  · by_cases h1 : t = 1
    · simp [h1, px2]
    · by_cases h2 : t = 2
      · simp [h2, px2]
      · simp [h0, h1, h2, px2]
/-- how many contexts there are, without the last one -/
def ctxN (t : Int) : Int := 2 ^ ((tmplL t).length + 1)
theorem ctxN_small (t : Int) : 0 < ctxN t ∧ ctxN t ≤ 2048 := by
  unfold ctxN tmplL
  split
  · decide
  · split
    · decide
    · split <;> decide
theorem contexts_is (t o2 o3 : Int) (o4 : Bool) (o5 : Int) : generic_contexts t o2 o3 o4 o5 = some (ctxN t) := by
  rw [generic_contexts_eq, pixels_is]
  simp only [Option.bind_some, List.length_map]
  rw [if_neg (by omega)]
  congr 1
  unfold ctxN tmplL
  split
  · decide
  · split
    · decide
    · split <;> decide
/-- all offsets of a context -/
def offs (t a b : Int) : List (Int × Int) := tmplL t ++ [(a, b)]
theorem offs_len (t a b : Int) : (offs t a b).length = (tmplL t).length + 1 := by simp [offs]
theorem rpixels_is (t a b : Int) (o4 : Bool) (o5 : Int) : ref07_pixels t a b o4 o5 = some ((offs t a b).map px2) := by
  rw [ref07_pixels_eq, template_is]
  have := (tmplL_small t).1
  simp only [Option.bind_some, List.length_map, List.length_singleton]
  rw [if_pos (by decide), if_pos (by decide), if_pos (by omega)]
  simp [offs, px2]
theorem newPlane_is {t a b w h : Int} {o4 : Bool} {o5 : Int} (hs : sidesB w h = true) : generic_newPlane t a b o4 o5 w h = some (w, h, List.replicate (w * h).toNat 0, (offs t a b).map ar2) := by
  obtain ⟨h0, h1, h2, h3, h4⟩ := sidesB_iff.1 hs
  obtain ⟨m0, m1⟩ := mul_small h0 h1 h2 h3
  have := (tmplL_small t).1
  rw [generic_newPlane_eq, w64 (n := w * h) (by omega), pixels_is]
  simp only [Option.bind_some, List.length_map, List.length_singleton]
  rw [if_pos (by omega), if_pos (by omega)]
  simp [offs, ar2]

/-- the context of a pixel -/
def ctxV (w h : Int) (p : List Int) (x y : Int) : List (Int × Int) → Int → Int
  | [], n => n
  | d :: l, n => ctxV w h p x y l (2 * n + pixA w h p (x + d.1) (y + d.2))
theorem ctxV_range {w h : Int} {p : List Int} (hb : Bmp w h p) {x y : Int} : ∀ (l : List (Int × Int)) (n : Int) (m : Nat), 0 ≤ n → n < 2 ^ m → 0 ≤ ctxV w h p x y l n ∧ ctxV w h p x y l n < 2 ^ (m + l.length)
  | [], n, m, h0, h1 => ⟨h0, h1⟩
  | d :: l, n, m, h0, h1 => by
    have hp := hb.pix (x := x + d.1) (y := y + d.2)
    have := ctxV_range hb (x := x) (y := y) l (2 * n + pixA w h p (x + d.1) (y + d.2)) (m + 1) (by omega) (by rw [Int.pow_succ]; omega)
    simp only [ctxV, List.length_cons]
    rwa [show m + (l.length + 1) = m + 1 + l.length by omega]
theorem pow_small {m : Nat} (h : m ≤ 40) : (2 : Int) ^ m ≤ 1099511627776 := by
  have := Nat.pow_le_pow_right (n := 2) (by decide) h
  have e : (2 : Nat) ^ m ≤ 1099511627776 := Nat.le_trans this (by decide)
  have e2 := Int.ofNat_le.2 e
  rw [Int.natCast_pow] at e2
  exact e2
theorem ctx_over {w h : Int} {p : List Int} (hb : Bmp w h p) {x y : Int} (hx : -1000 ≤ x ∧ x ≤ 1000) (hy : -1000 ≤ y ∧ y ≤ 1000) {ar : List Arr2} :
    ∀ (l : List (Int × Int)) (n : Int) (m k : Nat), (∀ d ∈ l, -8 ≤ d.1 ∧ d.1 ≤ 8 ∧ -8 ≤ d.2 ∧ d.2 ≤ 8) → 0 ≤ n → n < 2 ^ m → m + l.length ≤ 40 →
    overL (generic_plane_context_loop3_step x y) (fun s => some s) k (l.map ar2) (n, w, h, p, ar) = some (ctxV w h p x y l n, w, h, p, ar)
  | [], n, m, k, _, h0, h1, _ => by simp [overL_nil, ctxV]
  | d :: l, n, m, k, hd, h0, h1, hm => by
    have hp := hb.pix (x := x + d.1) (y := y + d.2)
    obtain ⟨d1, d2, d3, d4⟩ := hd d (List.mem_cons_self ..)
    simp only [List.length_cons] at hm
    have hs := pow_small (m := m) (by omega)
    rw [List.map_cons, overL_next (s' := (2 * n + pixA w h p (x + d.1) (y + d.2), w, h, p, ar))]
    · rw [ctx_over hb hx hy l _ (m + 1) (k + 1) (fun e he => hd e (List.mem_cons_of_mem _ he)) (by omega) (by rw [Int.pow_succ]; omega) (by omega)]
      rfl
    · unfold generic_plane_context_loop3_step
      simp only [ar2]
      rw [if_pos (by decide), if_pos (by decide), w64 (n := x + d.1) (by omega), w64 (n := y + d.2) (by omega), plane_at_is hb]
      simp only [Option.bind_some]
      rw [w64 (n := 2 * n) (by omega), w64 (n := pixA w h p (x + d.1) (y + d.2)) (by omega), w64 (by omega)]
theorem ctx_loop {w h : Int} {p : List Int} (hb : Bmp w h p) {x y : Int} (hx : -1000 ≤ x ∧ x ≤ 1000) (hy : -1000 ≤ y ∧ y ≤ 1000) (L : List (Int × Int)) (hd : ∀ d ∈ L, -8 ≤ d.1 ∧ d.1 ≤ 8 ∧ -8 ≤ d.2 ∧ d.2 ≤ 8) (hL : L.length ≤ 40) :
    ∀ (l : List (Int × Int)) (n : Int) (k : Nat), L.drop k = l → 0 ≤ n → n < 2 ^ k → k + l.length = L.length → loop (ref07_context_loop4 w h p x y (L.map px2)) (n, (k : Int)) = some (ctxV w h p x y l n)
  | [], n, k, hk, h0, h1, hl => by
    refine loop_done ?_
    unfold ref07_context_loop4
    simp only [List.length_map]
    simp only [List.length_nil] at hl
    rw [if_neg (by simp; omega)]
    rfl
  | d :: l, n, k, hk, h0, h1, hl => by
    have hp := hb.pix (x := x + d.1) (y := y + d.2)
    have hget : L[k]? = some d := by
      have : (L.drop k)[0]? = some d := by rw [hk]; rfl
      simpa using this
    obtain ⟨d1, d2, d3, d4⟩ := hd d (List.mem_of_getElem? hget)
    simp only [List.length_cons] at hl
    have hs := pow_small (m := k) (by omega)
    rw [loop_step (s' := (2 * n + pixA w h p (x + d.1) (y + d.2), ((k + 1 : Nat) : Int)))]
    · rw [ctx_loop hb hx hy L hd hL l _ (k + 1) (by rw [← List.drop_drop, hk]; rfl) (by omega) (by rw [Int.pow_succ]; omega) (by omega)]
      rfl
    · unfold ref07_context_loop4
      simp only [List.length_map, Int.toNat_natCast, List.getElem?_map, hget, Option.map_some, Option.bind_some, px2]
      rw [if_pos (by simp; omega), if_pos (by omega), if_pos (by omega), w64 (n := x + d.1) (by omega), w64 (n := y + d.2) (by omega), At_is hb]
      simp only [Option.bind_some]
      rw [w64 (n := 2 * n) (by omega), w64 (n := (k : Int) + 1) (by omega), w64 (by omega)]
      rfl

/-- options that are right -/
def OptOk (t a b k : Int) : Prop := 0 ≤ t ∧ t ≤ 3 ∧ -8 ≤ a ∧ a ≤ 8 ∧ -8 ≤ b ∧ b ≤ 0 ∧ (b < 0 ∨ a < 0) ∧ (k = 0 ∨ k = 1)
theorem offs_small {t a b k : Int} (h : OptOk t a b k) : (offs t a b).length ≤ 11 ∧ ∀ d ∈ offs t a b, -8 ≤ d.1 ∧ d.1 ≤ 8 ∧ -8 ≤ d.2 ∧ d.2 ≤ 8 := by
  obtain ⟨h1, h2⟩ := tmplL_small t
  obtain ⟨_, _, a1, a2, b1, b2, _, _⟩ := h
  refine ⟨by rw [offs_len]; omega, fun d hd => ?_⟩
  rcases List.mem_append.1 hd with hd | hd
  · exact h2 d hd
  · rw [List.mem_singleton] at hd
    subst hd
    exact ⟨a1, a2, b1, by show b ≤ 8; omega⟩
def ctx (t a b w h : Int) (p : List Int) (x y : Int) : Int := ctxV w h p x y (offs t a b) 0
theorem ctx_range {t a b w h : Int} {p : List Int} (hb : Bmp w h p) (x y : Int) : 0 ≤ ctx t a b w h p x y ∧ ctx t a b w h p x y < ctxN t := by
  have := ctxV_range hb (x := x) (y := y) (offs t a b) 0 0 (by decide) (by decide)
  rw [offs_len, Nat.zero_add] at this
  exact this
theorem context_is {t a b k w h : Int} {p : List Int} (ho : OptOk t a b k) (hb : Bmp w h p) {x y : Int} (hx : -1000 ≤ x ∧ x ≤ 1000) (hy : -1000 ≤ y ∧ y ≤ 1000) :
    generic_plane_context x y w h p ((offs t a b).map ar2) = some (ctx t a b w h p x y, w, h, p, (offs t a b).map ar2) := by
  obtain ⟨h1, h2⟩ := offs_small ho
  rw [generic_plane_context_eq]
  have := generic_plane_context_loop3_over x y ((offs t a b).map ar2) (by simp; omega) (0, w, h, p, (offs t a b).map ar2)
  simp only at this
  rw [this, ctx_over hb hx hy (offs t a b) 0 0 0 h2 (by decide) (by decide) (by omega)]
  rfl
theorem rcontext_is {t a b k w h : Int} {p : List Int} {o4 : Bool} (ho : OptOk t a b k) (hb : Bmp w h p) {x y : Int} (hx : -1000 ≤ x ∧ x ≤ 1000) (hy : -1000 ≤ y ∧ y ≤ 1000) :
    ref07_context t a b o4 k w h p x y = some (ctx t a b w h p x y) := by
  obtain ⟨h1, h2⟩ := offs_small ho
  rw [ref07_context_eq, rpixels_is]
  simp only [Option.bind_some]
  rw [show ((0 : Int), (0 : Int)) = (0, ((0 : Nat) : Int)) from rfl, ctx_loop hb hx hy (offs t a b) h2 (by omega) _ 0 0 rfl (by decide) (by decide) (by simp)]
  rfl
end Go.Proofs.YtkccnhkhjncpkaaGreat.P

/- Generic regions: what is put, row by row, is the same in the program and in its reference. -/
namespace Go.Proofs.YtkccnhkhjncpkaaGreat.P
open Go Go.Proofs.YtkccnhkhjncpkaaGreat.V
set_option linter.unusedVariables false
set_option linter.unusedSimpArgs false

theorem some_dec {b : Bool} {p : Prop} [Decidable p] (h : b = true ↔ p) : some b = some (decide p) := by
  congr 1
  cases b <;> simp_all
instance (t a b k : Int) : Decidable (OptOk t a b k) := by unfold OptOk; infer_instance
theorem genValid_is (t a b : Int) (o4 : Bool) (k : Int) : generic_Valid t a b o4 k = some (decide (OptOk t a b k)) := by
  rw [generic_Valid_eq, if_pos (by decide), if_pos (by decide)]
  simp only [iteD]
  repeat' split
  all_goals
    refine some_dec ?_
    unfold OptOk
    simp only [decide_eq_true_eq, Bool.false_eq_true, true_iff, false_iff]
    omega
theorem refValid_is (t a b : Int) (o4 : Bool) (k : Int) : ref07_Valid t a b o4 k = some (decide (OptOk t a b k)) := by
  rw [ref07_Valid_eq]
  have e1 : ((if decide (t < 0) = true then some true else if decide (t > 3) = true then some true else if decide (k < 0) = true then some true else some (decide (k > 1))) : Option Bool) = some (decide (¬ (0 ≤ t ∧ t ≤ 3 ∧ (k = 0 ∨ k = 1)))) := by
    simp only [iteD]
    repeat' split
    all_goals
      refine some_dec ?_
      simp only [decide_eq_true_eq, Bool.false_eq_true, true_iff, false_iff]
      omega
  rw [e1]
  simp only [Option.bind_some]
  have z : ((0 : Int) ≤ 0 ∧ (0 : Int) < ((2 : Nat) : Int)) = True := by simp
  have z1 : ((0 : Int) ≤ 1 ∧ (1 : Int) < ((2 : Nat) : Int)) = True := by simp
  simp only [z, z1, if_true, iteD]
  by_cases h1 : ¬ (0 ≤ t ∧ t ≤ 3 ∧ (k = 0 ∨ k = 1))
  · rw [if_pos h1]
    refine some_dec ?_
    unfold OptOk
    simp only [Bool.false_eq_true, false_iff]
    omega
  · rw [if_neg h1]
    have e2 : ((if a < -8 then some true else if a > 8 then some true else if b < -8 then some true else some (decide (b > 0))) : Option Bool) = some (decide (¬ (-8 ≤ a ∧ a ≤ 8 ∧ -8 ≤ b ∧ b ≤ 0))) := by
      repeat' split
      all_goals
        refine some_dec ?_
        simp only [decide_eq_true_eq, Bool.false_eq_true, true_iff, false_iff]
        omega
    rw [e2]
    simp only [Option.bind_some, iteD]
    repeat' split
    all_goals
      refine some_dec ?_
      unfold OptOk
      simp only [decide_eq_true_eq, Bool.false_eq_true, true_iff, false_iff]
      omega
theorem size07_is (t a b : Int) (o4 : Bool) (k : Int) : ref07_Size t a b o4 k = some (if OptOk t a b k then (ctxN t + 1, 0) else (0, 2)) := by
  rw [ref07_Size_eq, refValid_is]
  simp only [Option.bind_some]
  by_cases h : OptOk t a b k
  · simp only [h, decide_true, Bool.not_true, Bool.false_eq_true, if_false, if_true, rpixels_is, Option.bind_some, List.length_map, offs_len]
    rw [if_neg (by omega)]
    have := ctxN_small t
    have e : ishl .i64 1 (((tmplL t).length + 1 : Nat) : Int) = ctxN t := by
      unfold ctxN tmplL
      split
      · decide
      · split
        · decide
        · split <;> decide
    rw [e, w64 (by omega)]
  · simp only [h, decide_false, Bool.not_false, if_true, if_false]

/-! ### What is skipped -/
def SkipOk (w h sw sh : Int) (sp : List Int) : Prop := Bmp sw sh sp ∧ (sw = 0 ∧ sh = 0 ∨ sw = w ∧ sh = h)
theorem skips_is {w h sw sh : Int} {sp : List Int} (hs : SkipOk w h sw sh sp) {x y : Int} (hx : 0 ≤ x) (hxw : x < w) (hy : 0 ≤ y) (hyh : y < h) :
    generic_skips sw sh sp (y * w + x) = some (decide (pixA sw sh sp x y = 1)) := by
  obtain ⟨hb, hq⟩ := hs
  obtain ⟨a0, a1, a2⟩ := idx_in hx hxw hy hyh
  rw [generic_skips_eq]
  unfold pixA
  rcases hq with ⟨rfl, rfl⟩ | ⟨rfl, rfl⟩
  · have := hb.2.2.2.2.2.1
    rw [if_neg (by simp at this ⊢; exact this), if_neg (by omega)]
    simp
  · have := hb.2.2.2.2.2.1
    rw [if_pos (by simp; omega), if_pos (by omega), if_pos ⟨hx, hy, hxw, hyh⟩]

/-! ### A row as it is foretold -/
def rowF (w h : Int) (p : List Int) (sw sh : Int) (sp : List Int) (y : Int) (x : Nat) : Int := if pixA sw sh sp x y = 1 then 0 else pixA w h p x (y - 1)
def rowA (w h : Int) (p : List Int) (sw sh : Int) (sp : List Int) (y : Int) : List Int := (List.range w.toNat).map (rowF w h p sw sh sp y)
theorem rowF_bit {w h sw sh : Int} {p sp : List Int} (hb : Bmp w h p) {y : Int} {x : Nat} : rowF w h p sw sh sp y x = 0 ∨ rowF w h p sw sh sp y x = 1 := by
  unfold rowF
  split
  · exact .inl rfl
  · exact hb.pix
theorem typical_is {w h sw sh : Int} {p sp : List Int} (hb : Bmp w h p) (hs : SkipOk w h sw sh sp) {y : Int} (hy : 0 ≤ y ∧ y < h) : ref07_typical w h p sw sh sp y = some (rowA w h p sw sh sp y) := by
  have hw := hb.1
  have hw2 := hb.2.2.1
  have hh2 := hb.2.2.2.1
  rw [ref07_typical_eq, ref07_typical_loop3_over w h p sw sh sp y (by rw [List.length_range]; omega) []]
  have := overL_inv (f := ref07_typical_loop3_step w h p sw sh sp y) (fin := fun s => some s) (fun n => (List.range n).map (rowF w h p sw sh sp y)) (List.range w.toNat) 0 (fun k x hk => ?_)
  · rw [List.length_range, Nat.zero_add] at this
    exact (by rw [show ([] : List Int) = (List.range 0).map (rowF w h p sw sh sp y) from rfl, this]; rfl)
  · have hk' := lt_len_of_get hk
    rw [List.length_range] at hk'
    have hr := rowF_bit (sw := sw) (sh := sh) (sp := sp) hb (y := y) (x := k)
    unfold ref07_typical_loop3_step
    simp only [Nat.zero_add]
    rw [w64 (n := y - 1) (by omega), At_is hb, At_is hs.1]
    simp only [Option.bind_some, iteD]
    have e : ((if pixA sw sh sp (k : Int) y = 1 then some 0 else some (pixA w h p (k : Int) (y - 1))) : Option Int) = some (rowF w h p sw sh sp y k) := by unfold rowF; split <;> rfl
    rw [e]
    simp only [Option.bind_some, List.length_map, List.length_range, List.length_singleton]
    rw [if_pos (by omega), w8, show rowF w h p sw sh sp y k % 256 = rowF w h p sw sh sp y k by omega, List.range_succ, List.map_append]
    rfl
theorem above_is {w h sw sh : Int} {p sp : List Int} {ar : List Arr2} (hb : Bmp w h p) (hs : SkipOk w h sw sh sp) {y : Int} (hy : 0 ≤ y ∧ y < h) : generic_plane_above y sw sh sp w h p ar = some (rowA w h p sw sh sp y, w, h, p, ar) := by
  have hw := hb.1
  have hw2 := hb.2.2.1
  have hh2 := hb.2.2.2.1
  rw [generic_plane_above_eq, if_pos (by omega)]
  simp only
  have h1 := generic_plane_above_loop3_over y sw sh sp (List.replicate w.toNat 0) (by rw [List.length_replicate]; omega) (w, h, p, ar, List.replicate w.toNat 0)
  simp only at h1
  rw [h1]
  have := overL_inv (f := generic_plane_above_loop3_step y sw sh sp) (fin := fun s => some s) (fun n => (w, h, p, ar, (List.range n).map (rowF w h p sw sh sp y) ++ List.replicate (w.toNat - n) 0)) (List.replicate w.toNat 0) 0 (fun k x hk => ?_)
  · rw [List.length_replicate, Nat.zero_add] at this
    simp only [List.range_zero, List.map_nil, List.nil_append, Nat.sub_zero, Nat.sub_self, List.replicate_zero, List.append_nil] at this
    simp only [this]
    rfl
  · have hk' := lt_len_of_get hk
    rw [List.length_replicate] at hk'
    obtain ⟨a0, a1, a2⟩ := idx_in (show (0 : Int) ≤ (k : Int) by omega) (show (k : Int) < w by omega) hy.1 hy.2
    have hwh := hb.2.2.2.2.1
    unfold generic_plane_above_loop3_step
    simp only [Nat.zero_add]
    rw [w64 (n := y * w) (by omega), w64 (n := y * w + (k : Int)) (by omega), skips_is hs (by omega) (by omega) hy.1 hy.2]
    simp only [Option.bind_some]
    have hrep : List.replicate (w.toNat - k) (0 : Int) = 0 :: List.replicate (w.toNat - (k + 1)) 0 := by rw [show w.toNat - k = (w.toNat - (k + 1)) + 1 by omega, List.replicate_succ]
    by_cases hq : pixA sw sh sp (k : Int) y = 1
    · simp only [hq, decide_true, Bool.not_true, Bool.false_eq_true, if_false]
      rw [hrep, List.range_succ, List.map_append, List.append_assoc]
      simp [rowF, hq]
    · simp only [hq, decide_false, Bool.not_false, if_true]
      rw [w64 (n := y - 1) (by omega), plane_at_is hb]
      simp only [Option.bind_some, List.length_append, List.length_map, List.length_range, List.length_replicate]
      rw [if_pos (by omega), hrep, List.set_append_right _ _ (by simp), List.range_succ, List.map_append]
      simp [rowF, hq]

/-! ### Puts -/
abbrev EncS := Int × Int × Int × List Int × List Int
def EncAt (N B : Nat) (s : EncS) : Prop := EncOk s.1 s.2.1 s.2.2.1 s.2.2.2.1 ∧ s.2.2.2.1.length = N ∧ s.2.2.2.2.length ≤ B
theorem put_at {N B : Nat} {s : EncS} (h : EncAt N B s) {c b : Int} (hc : 0 ≤ c ∧ c < (N : Int)) (hb : b = 0 ∨ b = 1) (hB : B ≤ 1000000000) :
    ∃ s', coder_Encoder_Put c b s.1 s.2.1 s.2.2.1 s.2.2.2.1 s.2.2.2.2 = some (0, s') ∧ ref02_Encoder_Put c b s.1 s.2.1 s.2.2.1 s.2.2.2.1 s.2.2.2.2 = some (0, s') ∧ EncAt N (B + 4) s' := by
  obtain ⟨h1, h2, h3⟩ := h
  obtain ⟨lo', hi', st', out', e1, e2, e3, e4, e5⟩ := put_is (out := s.2.2.2.2) h1 (by rw [h2]; exact hc) hb (by omega)
  exact ⟨(s.1, lo', hi', st', out'), e1, e2, e3, by rw [e4, h2], by show out'.length ≤ B + 4; omega⟩
/-- an encoder and a plane -/
def withP (e : EncS) (w h : Int) (p : List Int) (ar : List Arr2) : Int × Int × Int × List Int × List Int × Int × Int × List Int × List Arr2 := (e.1, e.2.1, e.2.2.1, e.2.2.2.1, e.2.2.2.2, w, h, p, ar)

theorem rd_pix {w h : Int} {p : List Int} (hb : Bmp w h p) {x y : Int} (hx : 0 ≤ x) (hxw : x < w) (hy : 0 ≤ y) (hyh : y < h) : rd p (y * w + x) = pixA w h p x y := by
  unfold pixA; rw [if_pos ⟨hx, hy, hxw, hyh⟩]

theorem put_row {t a b k base w h sw sh : Int} {p sp : List Int} {o4 : Bool} {N B : Nat} (ho : OptOk t a b k) (hb : Bmp w h p) (hs : SkipOk w h sw sh sp) (hbase : 0 ≤ base ∧ base + ctxN t < (N : Int)) (hN : N ≤ 1000000) {y : Int} (hy : 0 ≤ y ∧ y < h) (hB : B ≤ 900000000)
    {e : EncS} (he : EncAt N B e) :
    Both (loop (generic_put_loop13 base w p sw sh sp y) (0, withP e w h p ((offs t a b).map ar2))) (loop (ref07_Put_loop27 base t a b o4 k w h p sw sh sp y) (0, e))
      (fun q r => q = withP r w h p ((offs t a b).map ar2) ∧ EncAt N (B + 800) r) := by
  have hw := hb.1
  have hw2 := hb.2.2.1
  have hh2 := hb.2.2.2.1
  have hwh := hb.2.2.2.2.1
  have hlen := hb.2.2.2.2.2.1
  have hctx := ctxN_small t
  have l1 := generic_put_loop13_over base w p sw sh sp y (by rw [List.length_range]; omega) (withP e w h p ((offs t a b).map ar2))
  have l2 := ref07_Put_loop27_over base t a b o4 k w h p sw sh sp y (by rw [List.length_range]; omega) e
  simp only [withP] at l1 l2 ⊢
  rw [l1, l2]
  refine overL_both (fun n s r => s = withP r w h p ((offs t a b).map ar2) ∧ EncAt N (B + 4 * n) r) _ (List.range w.toNat) 0 _ _ (fun n x s r hn hr => ?_) (fun s r hr => ?_) ⟨rfl, by simpa using he⟩
  · have hk := lt_len_of_get hn
    rw [List.length_range] at hk
    rw [Nat.zero_add] at hr ⊢
    obtain ⟨rfl, hr⟩ := hr
    obtain ⟨a0, a1, a2⟩ := idx_in (show (0 : Int) ≤ (n : Int) by omega) (show (n : Int) < w by omega) hy.1 hy.2
    have hcx := ctx_range (t := t) (a := a) (b := b) hb n y
    unfold generic_put_loop13_step ref07_Put_loop27_step
    simp only [withP]
    rw [w64 (n := y * w) (by omega), w64 (n := y * w + (n : Int)) (by omega), skips_is hs (by omega) (by omega) hy.1 hy.2, At_is hs.1]
    simp only [Option.bind_some]
    have hsp := hs.1.pix (x := (n : Int)) (y := y)
    by_cases hq : pixA sw sh sp (n : Int) y = 1
    · rw [hq]
      simp only [decide_true, Bool.not_true, Bool.false_eq_true, if_false, show ¬ ((1 : Int) = 0) by decide, decide_false]
      exact .mk ⟨rfl, hr.1, hr.2.1, by have := hr.2.2; show r.2.2.2.2.length ≤ _; omega⟩
    · have hq0 : pixA sw sh sp (n : Int) y = 0 := by omega
      rw [hq0]
      simp only [show ¬ ((0 : Int) = 1) by decide, decide_true, decide_false, Bool.not_false, if_true]
      rw [context_is ho hb (by omega) (by omega), rcontext_is ho hb (by omega) (by omega)]
      simp only [Option.bind_some]
      have hp := hb.pix (x := (n : Int)) (y := y)
      rw [w64 (n := base + ctx t a b w h p (n : Int) y) (by omega), if_pos (by omega), rd_pix hb (by omega) (by omega) hy.1 hy.2, At_is hb, w64 (n := pixA w h p (n : Int) y) (by omega)]
      simp only [Option.bind_some]
      obtain ⟨s', e1, e2, e3⟩ := put_at hr (c := base + ctx t a b w h p (n : Int) y) (by omega) hp (by omega)
      rw [e1, e2]
      exact .mk ⟨rfl, by rw [show B + 4 * (n + 1) = B + 4 * n + 4 by omega]; exact e3⟩
  · obtain ⟨rfl, hr⟩ := hr
    refine .mk ⟨rfl, hr.1, hr.2.1, ?_⟩
    have := hr.2.2
    rw [List.length_range] at this
    show r.2.2.2.2.length ≤ B + 800
    omega

theorem put_rows {t a b k base w h sw sh : Int} {p sp : List Int} {o4 : Bool} {N : Nat} (ho : OptOk t a b k) (hb : Bmp w h p) (hs : SkipOk w h sw sh sp) (hbase : 0 ≤ base ∧ base + ctxN t < (N : Int)) (hN : N ≤ 1000000) {B : Nat} (hB : B ≤ 100000000)
    {e : EncS} (he : EncAt N B e) :
    Both (loop (generic_put_loop4 base t a b o4 k w h p sw sh sp) (0, withP e w h p ((offs t a b).map ar2))) (loop (ref07_Put_loop18 base t a b o4 k w h p sw sh sp (ctxN t + 1)) (0, e))
      (fun q r => q = withP r w h p ((offs t a b).map ar2) ∧ EncAt N (B + 804 * 200) r) := by
  have hw := hb.1
  have hh := hb.2.1
  have hw2 := hb.2.2.1
  have hh2 := hb.2.2.2.1
  have hwh := hb.2.2.2.2.1
  have hlen := hb.2.2.2.2.2.1
  have hctx := ctxN_small t
  have l1 := generic_put_loop4_over base t a b o4 k w h p sw sh sp (by rw [List.length_range]; omega) (withP e w h p ((offs t a b).map ar2))
  have l2 := ref07_Put_loop18_over base t a b o4 k w h p sw sh sp (ctxN t + 1) (by rw [List.length_range]; omega) e
  simp only [withP] at l1 l2 ⊢
  rw [l1, l2]
  refine overL_both (fun n s r => s = withP r w h p ((offs t a b).map ar2) ∧ EncAt N (B + 804 * n) r) _ (List.range h.toNat) 0 _ _ (fun n x s r hn hr => ?_) (fun s r hr => ?_) ⟨rfl, by simpa using he⟩
  · have hk := lt_len_of_get hn
    rw [List.length_range] at hk
    rw [Nat.zero_add] at hr ⊢
    obtain ⟨rfl, hr⟩ := hr
    have hy : (0 : Int) ≤ (n : Int) ∧ (n : Int) < h := by omega
    have b1 : 0 ≤ (n : Int) * w := Int.mul_nonneg hy.1 hw
    have b2 : ((n : Int) + 1) * w ≤ h * w := Int.mul_le_mul_of_nonneg_right (by omega) hw
    have b3 : ((n : Int) + 1) * w = (n : Int) * w + w := by rw [Int.add_mul, Int.one_mul]
    rw [Int.mul_comm h w] at b2
    unfold generic_put_loop4_step ref07_Put_loop18_step
    simp only [withP]
    -- one row
    have row : ∀ (e' : EncS), EncAt N (B + 804 * n + 4) e' → Both ((loop (generic_put_loop13 base w p sw sh sp ((n : Nat) : Int)) (0, withP e' w h p ((offs t a b).map ar2))).bind fun q => some (Sum.inl q : _ ⊕ (Int × Int × Int × List Int × List Int × Int × Int × List Int × List Arr2)))
        ((loop (ref07_Put_loop27 base t a b o4 k w h p sw sh sp ((n : Nat) : Int)) (0, e')).bind fun r => some (Sum.inl r : _ ⊕ EncS))
        (StepTo (fun s r => s = withP r w h p ((offs t a b).map ar2) ∧ EncAt N (B + 804 * (n + 1)) r) (fun q r => q = withP r w h p ((offs t a b).map ar2) ∧ EncAt N (B + 804 * 200) r)) := by
      intro e' he'
      refine (put_row ho hb hs hbase hN hy (by omega) he').bind fun q r hqr => .mk ⟨hqr.1, ?_⟩
      rw [show B + 804 * (n + 1) = B + 804 * n + 4 + 800 by omega]
      exact hqr.2
    cases o4 with
    | false =>
      simp only [Bool.false_eq_true, if_false, Option.bind_some, Sum.elim_inl]
      exact row r ⟨hr.1, hr.2.1, by have := hr.2.2; omega⟩
    | true =>
      simp only [if_true]
      rw [above_is hb hs hy, typical_is hb hs hy]
      simp only [Option.bind_some]
      rw [w64 (n := (n : Int) * w) (by omega), w64 (n := (n : Int) + 1) (by omega), w64 (n := ((n : Int) + 1) * w) (by omega)]
      rw [if_pos (by omega), if_pos (by omega), if_pos (by omega), if_pos (by omega), bytes_Equal_eq, contexts_is]
      simp only [Option.bind_some, decide_eq_true_eq]
      have ebit : ∀ c : Prop, [Decidable c] → ((if c then some 1 else some 0) : Option Int) = some (if c then 1 else 0) := fun c _ => by split <;> rfl
      rw [ebit]
      simp only [Option.bind_some]
      generalize hbit : (if rowA w h p sw sh sp (n : Int) = cutL p ((n : Int) * w).toNat (((n : Int) + 1) * w).toNat then (1 : Int) else 0) = bit
      have hb01 : bit = 0 ∨ bit = 1 := by rw [← hbit]; split <;> simp
      rw [w64 (n := base + ctxN t) (by omega), w64 (n := base + (ctxN t + 1)) (by omega), w64 (n := base + (ctxN t + 1) - 1) (by omega), show base + (ctxN t + 1) - 1 = base + ctxN t by omega]
      obtain ⟨s', e1, e2, e3⟩ := put_at hr (c := base + ctxN t) (by omega) hb01 (by omega)
      rw [e1, e2]
      simp only [Option.bind_some]
      by_cases h1 : bit = 1
      · simp only [h1, if_true, Option.bind_some, Sum.elim_inr]
        exact .mk ⟨rfl, e3.1, e3.2.1, by have := e3.2.2; show s'.2.2.2.2.length ≤ _; omega⟩
      · simp only [h1, if_false, Option.bind_some, Sum.elim_inl]
        exact row s' e3
  · obtain ⟨rfl, hr⟩ := hr
    refine .mk ⟨rfl, hr.1, hr.2.1, ?_⟩
    have := hr.2.2
    rw [List.length_range] at this
    show r.2.2.2.2.length ≤ B + 804 * 200
    omega
end Go.Proofs.YtkccnhkhjncpkaaGreat.P

/- Bitmaps that are new, and all of a list's: the program against its reference. -/
namespace Go.Proofs.YtkccnhkhjncpkaaGreat.P
open Go Go.Proofs.YtkccnhkhjncpkaaGreat.V
set_option linter.unusedVariables false
set_option linter.unusedSimpArgs false

theorem new_loop (n : Nat) (hn : n ≤ 100000) : ∀ s : Int × List Int, 0 ≤ s.1 ∧ s.1 ≤ (n : Int) ∧ s.2 = List.replicate n 0 → ∃ a, loop (bitmap_New_loop5 0 (List.replicate n 0)) s = some a ∧ a = List.replicate n 0 := by
  refine loop_ind (fun (s : Int × List Int) => 0 ≤ s.1 ∧ s.1 ≤ (n : Int) ∧ s.2 = List.replicate n 0) (fun (s : Int × List Int) => ((n : Int) - s.1).toNat) (fun (a : List Int) => a = List.replicate n 0) ?_
  rintro ⟨i, b⟩ ⟨h1, h2, h3⟩
  simp only at h1 h2 h3
  subst h3
  unfold bitmap_New_loop5
  simp only [iteD, List.length_replicate]
  by_cases h : i < (n : Int)
  · rw [if_pos h, if_pos ⟨h1, by omega⟩, w8, w64 (by omega)]
    refine .inl ⟨_, rfl, ⟨by show 0 ≤ i + 1; omega, by show i + 1 ≤ _; omega, ?_⟩, ?_⟩
    · show (List.replicate n (0 : Int)).set i.toNat (0 % 256) = _
      simp
    · show ((n : Int) - (i + 1)).toNat < ((n : Int) - i).toNat
      omega
  · rw [if_neg h]
    exact .inr ⟨_, rfl, rfl⟩
def blankP (w h : Int) : List Int := List.replicate (w * h).toNat 0
theorem new_ok {w h : Int} (hs : sidesB w h = true) : bitmap_New w h 0 = some (w, h, 0, blankP w h) := by
  obtain ⟨h0, h1, h2, h3, h4⟩ := sidesB_iff.1 hs
  obtain ⟨m0, m1⟩ := mul_small h0 h1 h2 h3
  have n0 : ¬ w < 0 := by omega
  have n1 : ¬ h < 0 := by omega
  rw [bitmap_New_eq]
  simp only [iteD, n0, n1, if_false, decide_true, Bool.not_true, Bool.false_eq_true, Option.bind_some]
  rw [bitmap_blank_eq, bmpErr, hs]
  simp only [Option.bind_some, Bool.not_true, Bool.false_eq_true, if_false]
  rw [w64 (by omega), if_pos (by omega)]
  simp only [Option.bind_some]
  obtain ⟨a, e1, e2⟩ := new_loop (w * h).toNat (by omega) (0, List.replicate (w * h).toNat 0) ⟨by simp, by show (0 : Int) ≤ _; omega, rfl⟩
  rw [e1, e2]
  rfl
theorem new_bad {w h : Int} (hs : ¬ sidesB w h = true) : ∃ e, e ≠ 0 ∧ bitmap_New w h 0 = some (0, 0, e, []) := by
  have hsf : sidesB w h = false := by simpa using hs
  rw [bitmap_New_eq]
  have e4 : (bitmap_blank w h) = some (0, 0, 4, []) := by
    rw [bitmap_blank_eq, bmpErr, hsf]; simp
  have el : loop (bitmap_New_loop5 0 []) (0, []) = some [] := by
    obtain ⟨a, e1, e2⟩ := new_loop 0 (by decide) (0, []) ⟨by simp, by simp, rfl⟩
    exact e1.trans (by rw [e2]; rfl)
  simp only [iteD]
  by_cases n0 : w < 0
  · exact ⟨2, by decide, by simp [n0]⟩
  · by_cases n1 : h < 0
    · exact ⟨2, by decide, by simp [n0, n1]⟩
    · refine ⟨4, by decide, ?_⟩
      simp only [n0, n1, if_false, decide_true, Bool.not_true, Bool.false_eq_true, Option.bind_some, e4, el]
/-- what New's error says -/
theorem new_err (w h : Int) : ∃ a b c e, bitmap_New w h 0 = some (a, b, e, c) ∧ ref05_Sides w h = some (decide (e = 0)) := by
  rw [Sides_is]
  by_cases hs : sidesB w h = true
  · exact ⟨_, _, _, _, new_ok hs, by rw [hs]; rfl⟩
  · obtain ⟨e, he, h1⟩ := new_bad hs
    exact ⟨_, _, _, _, h1, by simp [he, hs]⟩
theorem make2_loop {w h : Int} (m0 : 0 ≤ w * h) (m1 : w * h ≤ 40000) : ∀ s : Int × Int × Int × List Int, (0 ≤ s.1 ∧ s.1 ≤ w * h) ∧ s.2 = (w, h, List.replicate s.1.toNat 0) → ∃ a, loop (ref05_make2_loop3 w h 0) s = some a ∧ a = (w, h, blankP w h) := by
  refine loop_ind (fun (s : Int × Int × Int × List Int) => (0 ≤ s.1 ∧ s.1 ≤ w * h) ∧ s.2 = (w, h, List.replicate s.1.toNat 0)) (fun s => (w * h - s.1).toNat) (fun a => a = (w, h, blankP w h)) ?_
  rintro ⟨i, b⟩ ⟨⟨h1, h2⟩, h3⟩
  simp only at h1 h2 h3
  subst h3
  unfold ref05_make2_loop3
  simp only [iteD, List.length_replicate, List.length_singleton]
  rw [w64 (n := w * h) (by omega)]
  by_cases hi : i < w * h
  · rw [if_pos hi, if_pos (by omega), w8, w64 (by omega)]
    refine .inl ⟨_, rfl, ⟨⟨by show 0 ≤ i + 1; omega, by show i + 1 ≤ _; omega⟩, ?_⟩, ?_⟩
    · show (_, _, List.replicate i.toNat (0 : Int) ++ [0 % 256]) = (_, _, List.replicate (i + 1).toNat 0)
      rw [show (i + 1).toNat = i.toNat + 1 by omega, List.replicate_succ']
      rfl
    · show (w * h - (i + 1)).toNat < (w * h - i).toNat
      omega
  · rw [if_neg hi]
    refine .inr ⟨_, rfl, ?_⟩
    rw [show i = w * h by omega]
    rfl
theorem newR_ok {w h : Int} (hs : sidesB w h = true) : ref05_New w h 0 = some (w, h, 0, blankP w h) := by
  obtain ⟨h0, h1, h2, h3, h4⟩ := sidesB_iff.1 hs
  obtain ⟨m0, m1⟩ := mul_small h0 h1 h2 h3
  have n0 : ¬ w < 0 := by omega
  have n1 : ¬ h < 0 := by omega
  rw [ref05_New_eq, Sides_is, hs]
  obtain ⟨a, e1, e2⟩ := make2_loop m0 m1 (0, w, h, []) ⟨⟨by simp, m0⟩, rfl⟩
  simp only [iteD, n0, n1, if_false, show ¬ ((0 : Int) < 0) by decide, show ¬ ((0 : Int) > 1) by decide, decide_false, Bool.not_true, Bool.false_eq_true, Option.bind_some, ref05_make2_eq, e1, e2]
theorem blank_bmp {w h : Int} (hs : sidesB w h = true) : Bmp w h (blankP w h) := by
  obtain ⟨h0, h1, h2, h3, h4⟩ := sidesB_iff.1 hs
  obtain ⟨m0, m1⟩ := mul_small h0 h1 h2 h3
  refine ⟨h0, h1, h2, h3, h4, by simp [blankP]; omega, fun x hx => ?_⟩
  exact .inl (List.eq_of_mem_replicate hx)

/-! ### Loops that test -/
theorem overL_allN {X A : Type} {P : Nat → X → Prop} {step : Nat → X → Unit → Option (Unit ⊕ A)} {fin : Unit → Option A} {a : A} : ∀ (l : List X) (n : Nat),
    (∀ k x, l[k]? = some x → P (n + k) x ∧ step (n + k) x () = some (.inl ()) ∨ ¬ P (n + k) x ∧ step (n + k) x () = some (.inr a)) →
    (∀ k x, l[k]? = some x → P (n + k) x) ∧ overL step fin n l () = fin () ∨ (¬ ∀ k x, l[k]? = some x → P (n + k) x) ∧ overL step fin n l () = some a
  | [], n, _ => .inl ⟨fun k x h => by simp at h, rfl⟩
  | x :: l, n, h => by
    have h0 := h 0 x rfl
    rw [Nat.add_zero] at h0
    rcases h0 with ⟨h1, h2⟩ | ⟨h1, h2⟩
    · rw [overL_next h2]
      rcases overL_allN l (n + 1) (fun k y hk => by have := h (k + 1) y (by simpa using hk); rwa [show n + (k + 1) = n + 1 + k by omega] at this) with ⟨g1, g2⟩ | ⟨g1, g2⟩
      · refine .inl ⟨fun k y hk => ?_, g2⟩
        cases k with
        | zero => simp at hk; subst hk; rw [Nat.add_zero]; exact h1
        | succ k => have := g1 k y (by simpa using hk); rwa [show n + 1 + k = n + (k + 1) by omega] at this
      · refine .inr ⟨fun q => g1 fun k y hk => ?_, g2⟩
        have := q (k + 1) y (by simpa using hk)
        rwa [show n + (k + 1) = n + 1 + k by omega] at this
    · exact .inr ⟨fun q => h1 (by simpa using q 0 x rfl), overL_exit h2⟩
/-- a loop that goes through a list and always goes on -/
theorem overL_ends {X S : Type} {step : Nat → X → S → Option (S ⊕ S)} (h : ∀ n x s, ∃ s', step n x s = some (.inl s')) : ∀ (l : List X) (n : Nat) (s : S), ∃ r, overL step (fun s => some s) n l s = some r
  | [], n, s => ⟨s, rfl⟩
  | x :: l, n, s => by
    obtain ⟨s', h1⟩ := h n x s
    rw [overL_next h1]
    exact overL_ends h l (n + 1) s'
end Go.Proofs.YtkccnhkhjncpkaaGreat.P

/- Pages' data: sizes, signed numbers, begins, and what is joined: the program against its reference. -/
namespace Go.Proofs.YtkccnhkhjncpkaaGreat.P
open Go Go.Proofs.YtkccnhkhjncpkaaGreat.V
set_option linter.unusedVariables false
set_option linter.unusedSimpArgs false

/-! ### What is written -/
theorem signed_eq (n : Int) (hn : -9223372036854775808 ≤ n ∧ n ≤ 9223372036854775807) : bits_Signed n = ref01_Signed n := by
  rw [bits_Signed_eq, ref01_Signed_eq]
  simp only [size_eq]
  have e1 : ((if decide (n ≥ 0) = true then some (decide (n < 1073741824)) else some false) : Option Bool) = some (decide (0 ≤ n ∧ n < 1073741824)) := by
    simp only [iteD]
    split
    · refine some_dec ?_; simp only [decide_eq_true_eq]; omega
    · refine some_dec ?_; simp only [Bool.false_eq_true, false_iff]; omega
  have e2 : ((if decide (n < 0) = true then some (decide (n ≥ -1073741824)) else some false) : Option Bool) = some (decide (n < 0 ∧ -1073741824 ≤ n)) := by
    simp only [iteD]
    split
    · refine some_dec ?_; simp only [decide_eq_true_eq]; omega
    · refine some_dec ?_; simp only [Bool.false_eq_true, false_iff]; omega
  have e3 : ((if decide (n < -1073741824) = true then some true else some (decide (n ≥ 1073741824))) : Option Bool) = some (decide (n < -1073741824 ∨ 1073741824 ≤ n)) := by
    simp only [iteD]
    split
    · refine some_dec ?_; simp only [true_iff]; omega
    · refine some_dec ?_; simp only [decide_eq_true_eq]; omega
  rw [e1, e2, e3]
  simp only [Option.bind_some, iteD]
  by_cases h1 : 0 ≤ n ∧ n < 1073741824
  · rw [if_pos h1, if_neg (by omega), if_neg (by omega)]
  · by_cases h2 : n < 0 ∧ -1073741824 ≤ n
    · rw [if_neg h1, if_pos h2, if_neg (by omega), if_pos h2.1]
    · rw [if_neg h1, if_neg h2, if_pos (by omega)]
theorem signed_some (n : Int) : ∃ l e, ref01_Signed n = some (l, e) ∧ l.length ≤ 2147483650 := by
  rw [ref01_Signed_eq]
  have e3 : ((if decide (n < -1073741824) = true then some true else some (decide (n ≥ 1073741824))) : Option Bool) = some (decide (n < -1073741824 ∨ 1073741824 ≤ n)) := by
    simp only [iteD]
    split
    · refine some_dec ?_; simp only [true_iff]; omega
    · refine some_dec ?_; simp only [decide_eq_true_eq]; omega
  rw [e3]
  simp only [Option.bind_some, iteD]
  split
  · exact ⟨[], 2, rfl, by simp⟩
  · split
    · obtain ⟨l, e, h, hl, _⟩ := size_some (IntKind.i64.wrap (IntKind.i64.wrap (-2 * n) - 1))
      rw [h]; exact ⟨l, e, rfl, hl⟩
    · obtain ⟨l, e, h, hl, _⟩ := size_some (IntKind.i64.wrap (2 * n))
      rw [h]; exact ⟨l, e, rfl, hl⟩
theorem wsigned_over (l : List Int) (hl : l.length ≤ 1000) (hr : ∀ x ∈ l, -9223372036854775808 ≤ x ∧ x ≤ 9223372036854775807) (b : List Int) : loop (page_writer_signed_loop1 l) (0, b) =
    overL (fun _ x b => (ref01_Signed x).bind fun q => if (b.length + q.1.length) * 1 ≤ 140737488355328 then some (.inl (b ++ q.1)) else none) some 0 l b := by
  refine loop_over l (fun n b => ((n : Int), b)) _ _ (fun s => ?_) (fun i x s h => ?_) 0 b (by omega)
  · unfold page_writer_signed_loop1; simp
  · have hl := lt_len_of_get h
    unfold page_writer_signed_loop1
    simp only [iteD]
    rw [if_pos (by omega), if_pos ⟨by omega, by omega⟩, rd_nat h, signed_eq x (hr x (List.mem_of_getElem? h))]
    cases ref01_Signed x with
    | none => rfl
    | some q =>
      simp only [Option.bind_some]
      split
      · rw [w64 (by omega)]; rfl
      · rfl
theorem wsigned2 (x y : Int) {b s t : List Int} {e f : Int} (hx : -9223372036854775808 ≤ x ∧ x ≤ 9223372036854775807) (hy : -9223372036854775808 ≤ y ∧ y ≤ 9223372036854775807) (hs : ref01_Signed x = some (s, e)) (hl : s.length ≤ 2147483650) (ht : ref01_Signed y = some (t, f)) (hm : t.length ≤ 2147483650) (hb : b.length ≤ 50000000000) :
    page_writer_signed [x, y] b = some (b ++ s ++ t) := by
  rw [page_writer_signed_eq, wsigned_over _ (by simp) (by simp; exact ⟨hx, hy⟩)]
  simp only [overL, hs, ht, Option.bind_some]
  rw [if_pos (by omega)]
  simp only
  rw [if_pos (by simp; omega)]
  rfl
/-- lists one behind the other -/
theorem join_is : ∀ (l : List (List Int)) (b : List Int) (n : Nat), b.length + l.flatten.length ≤ 140737488355328 → overL (fun _ (x : List Int) (b : List Int) => if (b.length + x.length) * 1 ≤ 140737488355328 then (some (.inl (b ++ x)) : Option (List Int ⊕ List Int)) else none) some n l b = some (b ++ l.flatten)
  | [], b, n, _ => by simp [overL]
  | x :: l, b, n, h => by
    simp only [List.flatten_cons, List.length_append] at h
    rw [overL_next (s' := b ++ x) (by rw [if_pos (by omega)]), join_is l (b ++ x) (n + 1) (by rw [List.length_append]; omega)]
    simp
theorem join_all (l : List (List Int)) (hl : l.length ≤ 1000) (h : l.flatten.length ≤ 140737488355328) : ref13_join l = some l.flatten := by
  rw [ref13_join_eq, join_over _ hl, join_is l [] 0 (by simpa using h)]
  rfl
theorem byte_is : ∀ (l : List Int) (b : List Int) (n : Nat), b.length + l.length ≤ 140737488355328 → overL (fun _ (x : Int) (b : List Int) => if (b.length + 1) * 1 ≤ 140737488355328 then (some (.inl (b ++ [IntKind.u8.wrap x])) : Option (List Int ⊕ List Int)) else none) some n l b = some (b ++ l.map IntKind.u8.wrap)
  | [], b, n, _ => by simp [overL]
  | x :: l, b, n, h => by
    simp only [List.length_cons] at h
    rw [overL_next (s' := b ++ [IntKind.u8.wrap x]) (by rw [if_pos (by omega)]), byte_is l _ (n + 1) (by rw [List.length_append, List.length_singleton]; omega)]
    simp
theorem byte_all (l : List Int) (b : List Int) (hl : l.length ≤ 1000) (h : b.length ≤ 100000000000) : page_writer_byte l b = some (b ++ l.map IntKind.u8.wrap) := by
  rw [page_writer_byte_eq, byte_over _ hl, byte_is l b 0 (by omega)]; rfl

/-! ### Begins -/
def BeginOk (w h x y op : Int) : Prop := (0 ≤ w ∧ 0 ≤ h ∧ w ≤ 200 ∧ h ≤ 200 ∧ w * h ≤ 8192) ∧ -100000 ≤ x ∧ x ≤ 100000 ∧ -100000 ≤ y ∧ y ≤ 100000 ∧ 0 ≤ op ∧ op ≤ 4
instance (w h x y op : Int) : Decidable (BeginOk w h x y op) := by unfold BeginOk; infer_instance
theorem rightBegin_is (w h x y op : Int) (hid : Bool) : page_rightBegin w h x y op hid = some (decide (BeginOk w h x y op)) := by
  obtain ⟨a, b, c, e, h1, h2⟩ := new_err w h
  rw [page_rightBegin_eq, h1]
  rw [Sides_is] at h2
  have h3 : (e = 0) = (sidesB w h = true) := by have := Option.some.inj h2; rw [this, decide_eq_true_eq]
  simp only [Option.bind_some, iteD]
  rw [page_near_eq, page_near_eq]
  simp only [iteD]
  simp only [h3, sidesB_iff]
  by_cases hs : 0 ≤ w ∧ 0 ≤ h ∧ w ≤ 200 ∧ h ≤ 200 ∧ w * h ≤ 8192
  · rw [if_pos hs]
    by_cases g1 : x ≥ -100000
    · by_cases g2 : x ≤ 100000
      · by_cases g3 : y ≥ -100000
        · by_cases g4 : y ≤ 100000
          · simp only [g1, g2, g3, g4, if_true, decide_true, Option.bind_some]
            split
            · refine some_dec ?_; unfold BeginOk; simp only [decide_eq_true_eq]; exact ⟨fun q => ⟨hs, by omega, by omega, by omega, by omega, by omega, q⟩, fun q => q.2.2.2.2.2.2⟩
            · refine some_dec ?_; unfold BeginOk; simp only [Bool.false_eq_true, false_iff]; omega
          · simp only [g1, g2, g3, g4, if_true, decide_true, decide_false, Bool.false_eq_true, if_false, Option.bind_some]
            refine some_dec ?_; unfold BeginOk; simp only [Bool.false_eq_true, false_iff]; omega
        · simp only [g1, g2, g3, if_true, decide_true, Bool.false_eq_true, if_false, Option.bind_some]
          refine some_dec ?_; unfold BeginOk; simp only [Bool.false_eq_true, false_iff]; omega
      · simp only [g1, g2, if_true, decide_false, Bool.false_eq_true, if_false, Option.bind_some]
        refine some_dec ?_; unfold BeginOk; simp only [Bool.false_eq_true, false_iff]; omega
    · simp only [g1, Bool.false_eq_true, if_false, Option.bind_some]
      refine some_dec ?_; unfold BeginOk; simp only [Bool.false_eq_true, false_iff]; omega
  · rw [if_neg hs]
    refine some_dec ?_; unfold BeginOk; simp only [Bool.false_eq_true, false_iff]; exact fun q => hs q.1
theorem isBegin_is (w h x y op : Int) (hid : Bool) : ref13_isBegin w h x y op hid = some (decide (BeginOk w h x y op)) := by
  rw [ref13_isBegin_eq, Sides_is]
  simp only [Option.bind_some]
  have e1 : ((if (!sidesB w h) = true then some true else if decide (op < 0) = true then some true else some (decide (op > 4))) : Option Bool) = some (decide (¬ ((0 ≤ w ∧ 0 ≤ h ∧ w ≤ 200 ∧ h ≤ 200 ∧ w * h ≤ 8192) ∧ 0 ≤ op ∧ op ≤ 4))) := by
    simp only [iteD]
    by_cases hs : sidesB w h = true
    · rw [if_neg (by simp [hs])]
      rw [sidesB_iff] at hs
      split
      · refine some_dec ?_; simp only [true_iff]; omega
      · refine some_dec ?_; simp only [decide_eq_true_eq]; exact ⟨fun q r => by omega, fun q => by
          rcases Int.lt_or_le 4 op with r | r
          · exact r
          · exact absurd ⟨hs, by omega, r⟩ q⟩
    · rw [if_pos (by simp [hs])]
      rw [sidesB_iff] at hs
      refine some_dec ?_; simp only [true_iff]; exact fun q => hs q.1
  rw [e1]
  simp only [Option.bind_some, iteD]
  by_cases hq : ¬ ((0 ≤ w ∧ 0 ≤ h ∧ w ≤ 200 ∧ h ≤ 200 ∧ w * h ≤ 8192) ∧ 0 ≤ op ∧ op ≤ 4)
  · rw [if_pos hq]
    refine some_dec ?_; unfold BeginOk; simp only [Bool.false_eq_true, false_iff]; exact fun r => hq ⟨r.1, by omega, by omega⟩
  · rw [if_neg hq]
    have hq := Decidable.not_not.1 hq
    repeat' split
    all_goals
      refine some_dec ?_
      unfold BeginOk
      simp only [decide_eq_true_eq, Bool.false_eq_true, true_iff, false_iff]
      omega
/-- the bytes of a begin -/
theorem begin_is {w h x y op : Int} {hid : Bool} (hb : BeginOk w h x y op) : ∃ l, page_writer_begin w h x y op hid [] = some l ∧ ref13_begin w h x y op hid = some l ∧ l.length ≤ 10000000000 := by
  obtain ⟨_, x1, x2, y1, y2, o1, o2⟩ := hb
  obtain ⟨s, e1, hs1, hl1, _⟩ := size_some w
  obtain ⟨t, e2, hs2, hl2, _⟩ := size_some h
  obtain ⟨u, e3, hs3, hl3⟩ := signed_some x
  obtain ⟨v, e4, hs4, hl4⟩ := signed_some y
  rw [page_writer_begin_eq, writer2 w h hs1 hl1 hs2 hl2]
  simp only [Option.bind_some]
  rw [wsigned2 x y (by omega) (by omega) hs3 hl3 hs4 hl4 (by rw [List.length_append]; omega), page_flag_eq]
  rw [ref13_begin_eq, ref13_size_eq, ref13_size_eq, ref13_signed_eq, ref13_signed_eq, hs1, hs2, hs3, hs4, ref13_bit_eq]
  have ef : ((if hid = true then some 8 else some 0) : Option Int) = some (if hid = true then 8 else 0) := by split <;> rfl
  have eb : ((if hid = true then some 1 else some 0) : Option Int) = some (if hid = true then 1 else 0) := by split <;> rfl
  rw [ef, eb]
  simp only [Option.bind_some]
  have ew : IntKind.i64.wrap (op + IntKind.i64.wrap (8 * (if hid = true then 1 else 0))) = IntKind.i64.wrap (op + (if hid = true then 8 else 0)) := by
    split
    · rw [w64 (n := 8 * 1) (by omega)]; rfl
    · rw [w64 (n := 8 * 0) (by omega)]; rfl
  rw [ew, byte_all _ _ (by simp) (by simp; omega), join_all _ (by simp) (by simp; omega)]
  refine ⟨_, rfl, by simp, by simp; omega⟩
theorem flag_is (b : Bool) (n : Int) : page_flag b n = some (if b = true then n else 0) := by rw [page_flag_eq]; split <;> rfl
theorem bit_is (b : Bool) : ref13_bit b = some (if b = true then 1 else 0) := by rw [ref13_bit_eq]; split <;> rfl
theorem with_bad {c b : List Int} {e : Int} (he : e ≠ 0) : page_writer_with c e b = some ([], e) := by rw [page_writer_with_eq, if_pos (by simp [he])]
theorem with_ok {c b : List Int} (h : b.length + c.length ≤ 140737488355328) : page_writer_with c 0 b = some (b ++ c, 0) := by rw [page_writer_with_eq, if_neg (by simp), if_pos (by omega)]

theorem good_int {n : Int} (h : V.Good E (.int .i64 n)) : -9223372036854775808 ≤ n ∧ n ≤ 9223372036854775807 := by
  cases h with
  | int h => simpa [IntKind.has, IntKind.min, IntKind.max, IntKind.signed, IntKind.bits] using h
theorem good_u8 {l : List Int} (h : V.Good E (.ints .u8 l)) : ∀ x ∈ l, 0 ≤ x := by
  cases h with
  | ints h _ => intro x hx; have := h x hx; simp [IntKind.has, IntKind.min, IntKind.max, IntKind.signed, IntKind.bits] at this; omega
end Go.Proofs.YtkccnhkhjncpkaaGreat.P

/- A generic region's code: the program against its reference. -/
namespace Go.Proofs.YtkccnhkhjncpkaaGreat.P
open Go Go.Proofs.YtkccnhkhjncpkaaGreat.V
set_option linter.unusedVariables false
set_option linter.unusedSimpArgs false

theorem bmp0 : Bmp 0 0 [] := ⟨by decide, by decide, by decide, by decide, by decide, by decide, by simp⟩
theorem skip0 (w h : Int) : SkipOk w h 0 0 [] := ⟨bmp0, .inl ⟨rfl, rfl⟩⟩
/-- the end of a code: both the same, and not long -/
theorem end_at {N B : Nat} {s : EncS} (h : EncAt N B s) (hB : B ≤ 1000000000) : ∃ c, coder_Encoder_End s.1 s.2.1 s.2.2.1 s.2.2.2.1 s.2.2.2.2 = some (c, s) ∧ ref02_Encoder_End s.1 s.2.1 s.2.2.1 s.2.2.2.1 s.2.2.2.2 = some (c, s) ∧ c.length ≤ B + 4 := by
  obtain ⟨h1, h2, h3⟩ := h
  have hr := refEnd_is (kind := s.1) (st := s.2.2.2.1) (out := s.2.2.2.2) h1.iv (by omega)
  refine ⟨_, (end_is h1.iv (by omega)).trans hr, hr, ?_⟩
  have := (endN_is h1.iv).1
  rw [List.length_append, tbl_len]; omega
/-- a new encoder of a new model of n contexts -/
theorem fresh_at {k n : Int} (hk : k = 0 ∨ k = 1) (h0 : 0 ≤ n) (h1 : n ≤ 8192) : EncAt n.toNat 0 (k, 0, 4294967295, List.replicate n.toNat 0, []) :=
  ⟨(newEncoder_is hk (by simp; omega) (new_states hk _)).2.2, by simp, by simp⟩

theorem genericEncode_is {t a b k w h : Int} {o4 : Bool} {p : List Int} (hp : ∀ x ∈ p, 0 ≤ x) (hl : p.length ≤ 9223372036854775807) :
    ∃ c e, generic_Encode t a b o4 k w h p = some (c, e) ∧ ref07_Encode t a b o4 k w h p = some (c, e) ∧ c.length ≤ 200000 := by
  rw [generic_Encode_eq, ref07_Encode_eq, genValid_is, size07_is]
  simp only [Option.bind_some]
  by_cases ho : OptOk t a b k
  · obtain ⟨c0, c1⟩ := ctxN_small t
    have hk : k = 0 ∨ k = 1 := ho.2.2.2.2.2.2.2
    have hkind := hk
    simp only [ho, decide_true, Bool.not_true, Bool.false_eq_true, if_false, if_true, contexts_is, Option.bind_some]
    rw [w64 (n := ctxN t + 1) (by omega), (new_is hk (n := ctxN t + 1) (by omega) (by omega)).1, (new_is hk (n := ctxN t + 1) (by omega) (by omega)).2, bitmapValid_is hl]
    simp only [Option.bind_some]
    obtain ⟨n1, n2, n3⟩ := newEncoder_is hk (st := List.replicate (ctxN t + 1).toNat 0) (by simp; omega) (new_states hk _)
    rw [n1, n2]
    simp only [Option.bind_some, Sum.elim_inl]
    rw [ref07_Put_eq, refValid_is, Valid05_is hl, Valid05_is (by simp), bmp0.b]
    simp only [ho, decide_true, Bool.not_true, Bool.false_eq_true, if_false, Option.bind_some]
    by_cases hb : bmpB w h p = true
    · have hB := bmpB_of hp hb
      simp only [hb, Bool.not_true, Bool.false_eq_true, if_false, Option.bind_some]
      have hloop : loop (ref07_Put_loop6 w h p 0 0 []) 0 = some (Sum.inl ()) := by
        refine loop_done ?_
        unfold ref07_Put_loop6
        have e : ((if decide ((0 : Int) < h) = true then (if decide (w = 0) = true then some (decide (h = 0)) else some false) else some false) : Option Bool) = some false := by
          simp only [iteD]
          by_cases h0 : 0 < h
          · rw [if_pos h0]
            split
            · simp; omega
            · rfl
          · rw [if_neg h0]
        rw [e]
        rfl
      rw [hloop]
      simp only [Option.bind_some, Sum.elim_inl]
      rw [ref02_Encoder_Model_eq, (clone_is (kind := k) (st := List.replicate (ctxN t + 1).toNat 0) (by simp; omega)).2]
      simp only [Option.bind_some, List.length_replicate]
      rw [ref07_room_eq, size07_is, ref07_none_eq]
      simp only [ho, if_true, Option.bind_some, decide_true, Bool.not_true, Bool.false_eq_true, if_false]
      rw [show (((ctxN t + 1).toNat : Nat) : Int) = ctxN t + 1 by omega, show ctxN t + 1 - 0 = ctxN t + 1 by omega, w64 (n := ctxN t + 1) (by omega)]
      have d1 : ¬ (0 : Int) < 0 := by decide
      have d2 : ¬ (0 : Int) > ctxN t + 1 := by omega
      have d3 : ¬ ctxN t + 1 > ctxN t + 1 := by omega
      simp only [d1, d2, d3, decide_false, Bool.false_eq_true, if_false, Option.bind_some, decide_true, Bool.not_true, size07_is, ho, if_true]
      have hf := fresh_at hk (n := ctxN t + 1) (by omega) (by omega)
      obtain ⟨q, r, e1, e2, rfl, hr⟩ := put_rows (o4 := o4) ho hB (skip0 w h) (base := 0) (N := (ctxN t + 1).toNat) (by omega) (by omega) (B := 0) (by decide) hf
      simp only [withP] at e1
      rw [generic_put_eq, newPlane_is (by have := hb; unfold bmpB at this; rw [Bool.and_eq_true] at this; exact this.1)]
      simp only [Option.bind_some]
      rw [e1, e2]
      simp only [Option.bind_some, decide_true, Bool.not_true, Bool.false_eq_true, if_false]
      obtain ⟨c, g1, g2, g3⟩ := end_at hr (by decide)
      rw [g1, g2]
      exact ⟨c, 0, rfl, rfl, by omega⟩
    · simp only [hb, Bool.not_false, if_true, Option.bind_some]
      exact ⟨[], 30, by simp, by simp, by simp⟩
  · simp only [ho, decide_false, Bool.not_false, if_true, if_false]
    exact ⟨[], 2, rfl, by simp, by simp⟩
end Go.Proofs.YtkccnhkhjncpkaaGreat.P

/- Patterns: which are right, and their picture: the program against its reference. -/
namespace Go.Proofs.YtkccnhkhjncpkaaGreat.P
open Go Go.Proofs.YtkccnhkhjncpkaaGreat.V
set_option linter.unusedVariables false
set_option linter.unusedSimpArgs false

theorem many_some (l : List Bitmap) (hl : l.length ≤ 9223372036854775807) : ∃ n, law13_many l = some n := by
  rw [law13_many_eq, law13_many_loop3_over l hl 0]
  obtain ⟨r, hr⟩ := overL_ends (step := law13_many_loop3_step) (fun n x s => ⟨_, rfl⟩) l 0 0
  exact ⟨r, by rw [hr]; rfl⟩

/-! ### Which patterns are right -/
def GoodL (l : List Bitmap) : Prop := l.length ≤ 9223372036854775807 ∧ ∀ x ∈ l, x.pix.length ≤ 9223372036854775807 ∧ ∀ p ∈ x.pix, 0 ≤ p
def RightL (f : Bitmap) (l : List Bitmap) : Prop := (∀ x ∈ l, Bmp f.w f.h x.pix ∧ x.w = f.w ∧ x.h = f.h) ∧ (1 ≤ f.w ∧ f.w ≤ 16 ∧ 1 ≤ f.h ∧ f.h ≤ 16) ∧ l.length ≤ 64 ∧ sidesB (f.w * (l.length : Int)) f.h = true
def Like (f : Bitmap) (x : Bitmap) : Prop := bmpB x.w x.h x.pix = true ∧ x.w = f.w ∧ x.h = f.h
theorem rp_loops (f : Bitmap) (r : List Bitmap) (hg : GoodL (f :: r)) :
    (∀ x ∈ f :: r, Like f x) ∧ loop (tone_rightPatterns_loop2 (f :: r)) 0 = some (Sum.inl ()) ∧ loop (ref11_bitmaps_loop2 (f :: r)) 0 = some (Sum.inl ())
    ∨ loop (tone_rightPatterns_loop2 (f :: r)) 0 = some (Sum.inr 30) ∧ loop (ref11_bitmaps_loop2 (f :: r)) 0 = some (Sum.inr 30) := by
  rw [tone_rightPatterns_loop2_over (f :: r) hg.1 (), ref11_bitmaps_loop2_over (f :: r) hg.1 ()]
  have z0 : (f :: r)[(0 : Int).toNat]? = some f := rfl
  have z1 : (0 : Int) ≤ 0 := by decide
  have a1 := overL_allN (P := fun _ x => Like f x) (step := tone_rightPatterns_loop2_step (f :: r)) (fin := fun _ => some (Sum.inl ())) (a := Sum.inr 30) (f :: r) 0 (fun k x hk => by
    unfold tone_rightPatterns_loop2_step Like
    rw [bitmapValid_is (hg.2 x (List.mem_of_getElem? hk)).1]
    simp only [Option.bind_some, z0, z1, if_true, iteND]
    by_cases g1 : bmpB x.w x.h x.pix = true
    · by_cases g2 : x.w = f.w
      · by_cases g3 : x.h = f.h
        · exact .inl ⟨⟨g1, g2, g3⟩, by rw [g1]; simp [g2, g3]⟩
        · exact .inr ⟨fun q => g3 q.2.2, by simp [g1, g2, g3]⟩
      · exact .inr ⟨fun q => g2 q.2.1, by simp [g1, g2]⟩
    · exact .inr ⟨fun q => g1 q.1, by simp [g1]⟩)
  have a2 := overL_allN (P := fun _ x => Like f x) (step := ref11_bitmaps_loop2_step (f :: r)) (fin := fun _ => some (Sum.inl ())) (a := Sum.inr 30) (f :: r) 0 (fun k x hk => by
    unfold ref11_bitmaps_loop2_step Like
    rw [Valid05_is (hg.2 x (List.mem_of_getElem? hk)).1]
    simp only [Option.bind_some, z0, z1, if_true, iteND]
    by_cases g1 : bmpB x.w x.h x.pix = true
    · by_cases g2 : x.w = f.w
      · by_cases g3 : x.h = f.h
        · exact .inl ⟨⟨g1, g2, g3⟩, by rw [g1]; simp [g2, g3]⟩
        · exact .inr ⟨fun q => g3 q.2.2, by simp [g1, g2, g3]⟩
      · exact .inr ⟨fun q => g2 q.2.1, by simp [g1, g2]⟩
    · exact .inr ⟨fun q => g1 q.1, by simp [g1]⟩)
  rcases a1 with ⟨p1, e1⟩ | ⟨p1, e1⟩
  · rcases a2 with ⟨p2, e2⟩ | ⟨p2, e2⟩
    · refine .inl ⟨fun x hx => ?_, e1, e2⟩
      obtain ⟨k, hk⟩ := List.getElem?_of_mem hx
      exact p1 k x hk
    · exact absurd p1 p2
  · rcases a2 with ⟨p2, e2⟩ | ⟨p2, e2⟩
    · exact absurd p2 p1
    · exact .inr ⟨e1, e2⟩
theorem rightPatterns_is (l : List Bitmap) (hg : GoodL l) :
    (∃ f r, l = f :: r ∧ RightL f l ∧ tone_rightPatterns l = some 0 ∧ ref11_bitmaps l = some 0 ∧ ref11_patterns l = some 0)
    ∨ (tone_rightPatterns l = some 2 ∧ ref11_bitmaps l = some 0 ∧ ref11_patterns l = some 2)
    ∨ (tone_rightPatterns l = some 30 ∧ ref11_bitmaps l = some 30) := by
  cases l with
  | nil =>
    refine .inr (.inl ⟨?_, ?_, ?_⟩)
    · rw [tone_rightPatterns_eq, tone_rightPatterns_loop2_over [] (by decide) ()]; rfl
    · rw [ref11_bitmaps_eq, ref11_bitmaps_loop2_over [] (by decide) ()]; rfl
    · rw [ref11_patterns_eq]; rfl
  | cons f r =>
    rw [tone_rightPatterns_eq, ref11_bitmaps_eq]
    have z0 : (f :: r)[(0 : Int).toNat]? = some f := rfl
    have z1 : (0 : Int) ≤ 0 := by decide
    have z2 : ¬ (((f :: r).length : Nat) : Int) = 0 := by rw [List.length_cons]; omega
    rcases rp_loops f r hg with ⟨hall, e1, e2⟩ | ⟨e1, e2⟩
    · rw [e1, e2, ref11_patterns_eq]
      simp only [Option.bind_some, Sum.elim_inl, z0, z1, z2, if_true, iteD, if_false, ref11_isSides_eq, tone_rightSides_eq]
      have z3 : (((f :: r).length : Nat) : Int) ≥ 1 := by rw [List.length_cons]; omega
      generalize hn : ((((f :: r).length : Nat) : Int)) = n at z2 z3 ⊢
      rw [if_pos z3]
      by_cases q : n ≤ 64 ∧ f.w ≥ 1 ∧ f.w ≤ 16 ∧ f.h ≥ 1 ∧ f.h ≤ 16
      · obtain ⟨q0, q1, q2, q3, q4⟩ := q
        have q5 : ¬ n > 64 := by omega
        have m0 : 0 ≤ f.w * n := Int.mul_nonneg (by omega) (by omega)
        have m1 : f.w * n ≤ 16 * 64 := Int.mul_le_mul q2 q0 (by omega) (by decide)
        simp only [q0, q1, q2, q3, q4, q5, if_true, if_false, Option.bind_some, decide_true, Bool.not_true, Bool.false_eq_true]
        rw [Int.mul_comm n f.w, w64 (by omega), Sides_is]
        by_cases hs : sidesB (f.w * n) f.h = true
        · refine .inl ⟨f, r, rfl, ⟨fun x hx => ?_, ⟨by omega, by omega, by omega, by omega⟩, by omega, by rw [hn]; exact hs⟩, ?_, trivial, ?_⟩
          · obtain ⟨h1, h2, h3⟩ := hall x hx
            have := bmpB_of (hg.2 x hx).2 h1
            rw [h2, h3] at this
            exact ⟨this, h2, h3⟩
          · rw [new_ok hs]; rfl
          · rw [hs]; rfl
        · obtain ⟨e, he, h1⟩ := new_bad hs
          have hsf : sidesB (f.w * n) f.h = false := by simpa using hs
          refine .inr (.inl ⟨?_, trivial, ?_⟩)
          · rw [h1]; simp [he]
          · rw [hsf]; rfl
      · refine .inr (.inl ⟨?_, trivial, ?_⟩)
        · by_cases q0 : n ≤ 64
          · have q5 : ¬ n > 64 := by omega
            by_cases q1 : f.w ≥ 1
            · by_cases q2 : f.w ≤ 16
              · by_cases q3 : f.h ≥ 1
                · have q4 : ¬ f.h ≤ 16 := fun q4 => q ⟨q0, q1, q2, q3, q4⟩
                  simp [q5, q1, q2, q3, q4]
                · simp [q5, q1, q2, q3]
              · simp [q5, q1, q2]
            · simp [q5, q1]
          · have q5 : n > 64 := by omega
            simp [q5]
        · by_cases q0 : n ≤ 64
          · by_cases q1 : f.w ≥ 1
            · by_cases q2 : f.h ≥ 1
              · by_cases q3 : f.w ≤ 16
                · have q4 : ¬ f.h ≤ 16 := fun q4 => q ⟨q0, q1, q3, q2, q4⟩
                  simp [q0, q1, q2, q3, q4]
                · simp [q0, q1, q2, q3]
              · simp [q0, q1, q2]
            · simp [q0, q1]
          · simp [q0]
    · rw [e1, e2]
      exact .inr (.inr ⟨rfl, rfl⟩)
end Go.Proofs.YtkccnhkhjncpkaaGreat.P

/- What is drawn: the program against its reference. -/
namespace Go.Proofs.YtkccnhkhjncpkaaGreat.P
open Go Go.Proofs.YtkccnhkhjncpkaaGreat.V
set_option linter.unusedVariables false
set_option linter.unusedSimpArgs false

theorem bclone_is {b : List Int} (hl : b.length ≤ 140737488355328) : bytes_Clone b = some b := by
  rw [bytes_Clone_eq]
  have e : (if (([] : List Int).length + b.length) * 1 ≤ 140737488355328 then (let t2 : List Int := ([] : List Int) ++ b; some t2) else none) = some b := by
    rw [if_pos (by simp; omega)]; simp
  split
  · rename_i h
    have : b = [] := List.length_eq_zero_iff.1 h
    subst this
    rw [e, demon_same]
  · exact e
theorem bitmap_clone_is {w h : Int} {b : List Int} (hl : b.length ≤ 140737488355328) : bitmap_clone w h b = some (w, h, b) := by
  rw [bitmap_clone_eq, bclone_is hl]; rfl
theorem bitmap_at_is {w h : Int} {p : List Int} (hb : Bmp w h p) {x y : Int} (hx : 0 ≤ x ∧ x < w) (hy : 0 ≤ y ∧ y < h) : bitmap_at w h p x y = some (pixA w h p x y) := by
  obtain ⟨h0, h1, h2, h3, h4, h5, h6⟩ := hb
  obtain ⟨a0, a1, a2⟩ := idx_in hx.1 hx.2 hy.1 hy.2
  rw [bitmap_at_eq]
  simp only [iteD]
  rw [if_neg (by omega), if_neg (by omega), if_neg (by omega)]
  have e : ¬ y ≥ h := by omega
  simp only [e, decide_false, Option.bind_some, Bool.false_eq_true, if_false]
  rw [w64 (n := y * w) (by omega), w64 (n := y * w + x) (by omega), if_pos (by omega)]
  unfold pixA
  rw [if_pos ⟨hx.1, hy.1, hx.2, hy.2⟩]
theorem Bmp.set {w h : Int} {p : List Int} (hb : Bmp w h p) {i : Nat} {b : Int} (h01 : b = 0 ∨ b = 1) : Bmp w h (p.set i b) := by
  obtain ⟨h0, h1, h2, h3, h4, h5, h6⟩ := hb
  refine ⟨h0, h1, h2, h3, h4, by rw [List.length_set]; exact h5, fun x hx => ?_⟩
  rcases List.mem_or_eq_of_mem_set hx with q | rfl
  · exact h6 x q
  · exact h01
theorem refSet_is {w h x y b : Int} {p : List Int} (hb : Bmp w h p) (hx : 0 ≤ x ∧ x < w) (hy : 0 ≤ y ∧ y < h) (h01 : b = 0 ∨ b = 1) : ref05_Put w h x y b p = some (p.set (y * w + x).toNat b) := by
  obtain ⟨h0, h1, h2, h3, h4, h5, h6⟩ := hb
  obtain ⟨a0, a1, a2⟩ := idx_in hx.1 hx.2 hy.1 hy.2
  rw [ref05_Put_eq]
  simp only
  rw [w64 (n := y * w) (by omega), w64 (n := y * w + x) (by omega), if_pos (by omega), w8, show b % 256 = b by omega]
/-- a picture that is laid into another, whatever lies there -/
theorem draw_is {bw bh sw sh x : Int} {p s : List Int} (hb : Bmp bw bh p) (hs : Bmp sw sh s) (hx : 0 ≤ x ∧ x ≤ 100000) :
    ∃ q, bitmap_Draw bw bh p sw sh s x 0 0 = some (bw, bh, q, 0) ∧ ref05_Lay bw bh sw sh s x 0 0 p = some q ∧ Bmp bw bh q := by
  have hb' := hb
  obtain ⟨h0, h1, h2, h3, h4, h5, h6⟩ := hb'
  have hs' := hs
  obtain ⟨s0, s1, s2, s3, s4, s5, s6⟩ := hs'
  have m := mul_small h0 h1 h2 h3
  have ms := mul_small s0 s1 s2 s3
  have inner : ∀ (v : Nat), (v : Int) < sh → ∀ q, Bmp bw bh q → Both (overL (bitmap_Draw_loop10_step bw bh sw sh s x 0 0 (v : Int)) (fun s => some s) 0 (List.range sw.toNat) q) (overL (ref05_Lay_loop5_step bw bh sw sh s x 0 0 (v : Int)) (fun s => some s) 0 (List.range sw.toNat) q) (fun a b => a = b ∧ Bmp bw bh a) := by
    intro v hv q hq
    refine overL_both (fun _ a b => a = b ∧ Bmp bw bh a) _ (List.range sw.toNat) 0 q q (fun n u a b hn hr => ?_) (fun a b hr => .mk hr) ⟨rfl, hq⟩
    have hk := lt_len_of_get hn
    rw [List.length_range] at hk
    obtain ⟨rfl, ha⟩ := hr
    rw [Nat.zero_add]
    have ha' := ha
    obtain ⟨_, _, _, _, _, a5, a6⟩ := ha'
    unfold bitmap_Draw_loop10_step ref05_Lay_loop5_step
    simp only [iteD]
    rw [w64 (n := x + (n : Int)) (by omega), w64 (n := 0 + (v : Int)) (by omega), inside_is]
    simp only [Option.bind_some, iteD, Int.zero_add]
    have g0 : x + (n : Int) ≥ 0 := by omega
    have g1 : (v : Int) ≥ 0 := by omega
    rw [if_pos g0, if_pos g1]
    by_cases c : x + (n : Int) < bw ∧ (v : Int) < bh
    · obtain ⟨c1, c2⟩ := c
      obtain ⟨i0, i1, i2⟩ := idx_in (by omega : (0 : Int) ≤ x + (n : Int)) c1 (by omega : (0 : Int) ≤ (v : Int)) c2
      have hp := hs.pix (x := (n : Int)) (y := (v : Int))
      have cc : (0 ≤ x + (n : Int) ∧ 0 ≤ (v : Int) ∧ x + (n : Int) < bw ∧ (v : Int) < bh) = True := eq_true ⟨by omega, by omega, c1, c2⟩
      have e1 : ((if x + (n : Int) < bw then some (decide ((v : Int) < bh)) else some false) : Option Bool) = some true := by rw [if_pos c1]; simp [c2]
      rw [e1]
      simp only [cc, decide_true, Option.bind_some, if_true]
      rw [w64 (n := (v : Int) * bw) (by omega), w64 (n := (v : Int) * bw + (x + (n : Int))) (by omega), if_pos (by omega), bitmap_at_is hs (by omega) (by omega), At_is ha, At_is hs]
      simp only [Option.bind_some]
      rw [bitmap_combine_eq, ref05_Mix_eq]
      simp only [show ((0 : Int) = 1) = False by simp, show ((0 : Int) = 2) = False by simp, show ((0 : Int) = 3) = False by simp, show ((0 : Int) = 4) = False by simp, decide_false, decide_true, Bool.false_eq_true, if_false, if_true, Option.bind_some]
      rw [refSet_is ha (by omega) (by omega) hp]
      exact .mk ⟨rfl, ha.set hp⟩
    · have e1 : ((if x + (n : Int) < bw then some (decide ((v : Int) < bh)) else some false) : Option Bool) = some false := by
        split
        · rename_i c1
          have c2 : ¬ (v : Int) < bh := fun c2 => c ⟨c1, c2⟩
          simp only [c2, decide_false]
        · rfl
      have cc : (0 ≤ x + (n : Int) ∧ 0 ≤ (v : Int) ∧ x + (n : Int) < bw ∧ (v : Int) < bh) = False := eq_false fun q => c ⟨q.2.2.1, q.2.2.2⟩
      rw [e1]
      simp only [cc, Option.bind_some, Bool.false_eq_true, if_false]
      exact .mk ⟨rfl, ha⟩
  have outer : Both (overL (bitmap_Draw_loop7_step bw bh sw sh s x 0 0) (fun s => some s) 0 (List.range sh.toNat) p) (overL (ref05_Lay_loop2_step bw bh sw sh s x 0 0) (fun s => some s) 0 (List.range sh.toNat) p) (fun a b => a = b ∧ Bmp bw bh a) := by
    refine overL_both (fun _ a b => a = b ∧ Bmp bw bh a) _ (List.range sh.toNat) 0 p p (fun n u a b hn hr => ?_) (fun a b hr => .mk hr) ⟨rfl, hb⟩
    have hk := lt_len_of_get hn
    rw [List.length_range] at hk
    obtain ⟨rfl, ha⟩ := hr
    rw [Nat.zero_add]
    unfold bitmap_Draw_loop7_step ref05_Lay_loop2_step
    rw [bitmap_Draw_loop10_over bw bh sw sh s x 0 0 ((n : Nat) : Int) (by rw [List.length_range]; omega) a, ref05_Lay_loop5_over bw bh sw sh s x 0 0 ((n : Nat) : Int) (by rw [List.length_range]; omega) a]
    exact (inner n (by omega) a ha).bind fun q r hqr => .mk hqr
  obtain ⟨q, q', e1, e2, rfl, hq⟩ := outer
  refine ⟨q, ?_, ?_, hq⟩
  · rw [bitmap_Draw_eq, bitmapValid_is (by omega), bitmapValid_is (by omega), hb.b, hs.b, bitmap_isShift_eq, imin_eq, imax_eq]
    have g1 : min x 0 ≥ -100000 := by omega
    have g2 : max x 0 ≤ 100000 := by omega
    simp only [Option.bind_some, Bool.not_true, Bool.false_eq_true, if_false, show ¬ ((0 : Int) < 0) by decide, show ¬ ((0 : Int) > 4) by decide, decide_false, g1, g2, decide_true, if_true, Sum.elim_inl, bitmap_clone_is (w := bw) (h := bh) (b := p) (by omega)]
    rw [bitmap_Draw_loop7_over bw bh sw sh s x 0 0 (by rw [List.length_range]; omega) p, e1]
    rfl
  · rw [ref05_Lay_eq, ref05_Lay_loop2_over bw bh sw sh s x 0 0 (by rw [List.length_range]; omega) p, e2]
    rfl
end Go.Proofs.YtkccnhkhjncpkaaGreat.P

/- Patterns' code and their Data: the program against its reference. -/
namespace Go.Proofs.YtkccnhkhjncpkaaGreat.P
open Go Go.Proofs.YtkccnhkhjncpkaaGreat.V
set_option linter.unusedVariables false
set_option linter.unusedSimpArgs false

theorem picture_is {f : Bitmap} {r : List Bitmap} (hr : RightL f (f :: r)) : ∃ q, Bmp (f.w * (((f :: r).length : Nat) : Int)) f.h q ∧
    loop (tone_Patterns_loop9 (f :: r) f) (0, f.w * (((f :: r).length : Nat) : Int), f.h, blankP (f.w * (((f :: r).length : Nat) : Int)) f.h) = some (f.w * (((f :: r).length : Nat) : Int), f.h, q) ∧
    loop (ref11_Patterns_loop10 (f :: r) (f.w * (((f :: r).length : Nat) : Int)) f.h) (0, blankP (f.w * (((f :: r).length : Nat) : Int)) f.h) = some q := by
  obtain ⟨hall, ⟨w1, w2, h1, h2⟩, hlen, hs⟩ := hr
  generalize hW : f.w * (((f :: r).length : Nat) : Int) = W at hs ⊢
  have l1 := tone_Patterns_loop9_over (f :: r) f (by omega) (W, f.h, blankP W f.h)
  have l2 := ref11_Patterns_loop10_over (f :: r) W f.h (by omega) (blankP W f.h)
  simp only at l1
  rw [l1, l2]
  have z0 : (f :: r)[(0 : Int).toNat]? = some f := rfl
  have z1 : (0 : Int) ≤ 0 := by decide
  have main := overL_both (f := tone_Patterns_loop9_step f) (g := ref11_Patterns_loop10_step (f :: r) W f.h) (fin := fun s => some (s.1, s.2.1, s.2.2)) (fin' := fun s => some s) (fun _ s t => s = (W, f.h, t) ∧ Bmp W f.h t) (fun a b => a = (W, f.h, b) ∧ Bmp W f.h b) (f :: r) 0 (W, f.h, blankP W f.h) (blankP W f.h)
    (fun n x s t hn hr => by
      have hk := lt_len_of_get hn
      obtain ⟨hb, e1, e2⟩ := hall x (List.mem_of_getElem? hn)
      obtain ⟨rfl, ht⟩ := hr
      have m0 : 0 ≤ (n : Int) * f.w := Int.mul_nonneg (by omega) (by omega)
      have m1 : (n : Int) * f.w ≤ 64 * 16 := Int.mul_le_mul (by omega) w2 (by omega) (by decide)
      unfold tone_Patterns_loop9_step ref11_Patterns_loop10_step
      simp only [z0, z1, if_true, Option.bind_some, Nat.zero_add]
      rw [w64 (n := (n : Int) * f.w) (by omega), e1, e2]
      obtain ⟨q, g1, g2, g3⟩ := draw_is ht hb (x := (n : Int) * f.w) (by omega)
      rw [g1, g2]
      exact .mk ⟨rfl, g3⟩) (fun s t hr => by
      obtain ⟨rfl, ht⟩ := hr
      exact .mk ⟨rfl, ht⟩) ⟨rfl, blank_bmp hs⟩
  obtain ⟨a, b, e1, e2, rfl, hb⟩ := main
  exact ⟨b, hb, e1, e2⟩
theorem Bmp.nonneg {w h : Int} {p : List Int} (hb : Bmp w h p) : ∀ x ∈ p, 0 ≤ x := fun x hx => by
  rcases hb.2.2.2.2.2.2 x hx with rfl | rfl <;> decide
theorem patternsCode_is {t a b k : Int} {o4 : Bool} {l : List Bitmap} (hg : GoodL l) :
    ∃ c e, tone_Patterns t a b o4 k l = some (c, e) ∧ ref11_Patterns t a b o4 k l = some (c, e) ∧ c.length ≤ 200000 ∧ (e = 0 → ∃ f r, l = f :: r ∧ RightL f l) := by
  rw [tone_Patterns_eq, ref11_Patterns_eq, tone_isPlain_eq, genValid_is, refValid_is]
  by_cases ho : OptOk t a b k
  · cases o4 with
    | true => simp only [ho, decide_true, Option.bind_some, if_true, Bool.not_true, Bool.not_false, Bool.false_eq_true, if_false]; exact ⟨_, _, rfl, rfl, by simp, fun h => by simp at h⟩
    | false =>
      simp only [ho, decide_true, Option.bind_some, if_true, Bool.not_true, Bool.not_false, Bool.false_eq_true, if_false]
      rcases rightPatterns_is l hg with ⟨f, r, rfl, hr, e1, e2, e3⟩ | ⟨e1, e2, e3⟩ | ⟨e1, e2⟩
      · have z0 : (f :: r)[(0 : Int).toNat]? = some f := rfl
        have z1 : (0 : Int) ≤ 0 := by decide
        have hs := hr.2.2.2
        obtain ⟨s0, s1, s2, s3, s4⟩ := sidesB_iff.1 hs
        simp only [e1, e2, e3, z0, z1, Option.bind_some, if_true, decide_true, Bool.not_true, Bool.false_eq_true, if_false]
        rw [Int.mul_comm (((f :: r).length : Nat) : Int) f.w, w64 (n := f.w * (((f :: r).length : Nat) : Int)) (by omega), new_ok hs, newR_ok hs]
        simp only [Option.bind_some]
        obtain ⟨q, hq, g1, g2⟩ := picture_is hr
        rw [g1, g2]
        simp only [Option.bind_some]
        obtain ⟨c, e, h1, h2, h3⟩ := genericEncode_is (t := t) (a := a) (b := b) (k := k) (o4 := false) (w := f.w * (((f :: r).length : Nat) : Int)) (h := f.h) hq.nonneg (by have := hq.2.2.2.2.2.1; have := hq.2.2.2.2.1; omega)
        rw [h1, h2]
        exact ⟨c, e, rfl, rfl, h3, fun _ => ⟨f, r, rfl, hr⟩⟩
      · simp only [e1, e2, e3, Option.bind_some, decide_true, if_true, show ¬ ((2 : Int) = 0) by decide, decide_false, Bool.not_false]
        exact ⟨_, _, rfl, rfl, by simp, fun h => by simp at h⟩
      · simp only [e1, e2, Option.bind_some, show ¬ ((30 : Int) = 0) by decide, decide_false, Bool.not_false, Bool.false_eq_true, if_false, if_true]
        exact ⟨_, _, rfl, rfl, by simp, fun h => by simp at h⟩
  · simp only [ho, decide_false, Option.bind_some, Bool.false_eq_true, if_false, Bool.not_false, if_true]
    exact ⟨_, _, rfl, rfl, by simp, fun h => by simp at h⟩

/-! ### Usual options -/
theorem usual_is (t : Int) : generic_Usual t = some (if 0 ≤ t ∧ t ≤ 3 then (t, 3 - t % 2, -1, true, 0, 0) else (0, 0, 0, false, 0, 2)) ∧ ref07_Usual t = some (if 0 ≤ t ∧ t ≤ 3 then (t, 3 - t % 2, -1, true, 0, 0) else (0, 0, 0, false, 0, 2)) := by
  rw [generic_Usual_eq, ref07_Usual_eq]
  simp only [iteD]
  by_cases h : 0 ≤ t ∧ t ≤ 3
  · have n0 : ¬ t < 0 := by omega
    have n1 : ¬ t > 3 := by omega
    simp only [n0, n1, h, if_false, Option.bind_some, decide_false, Bool.false_eq_true, if_true, and_self]
    rw [tmod_pos (by omega), w64 (by omega)]
  · by_cases n0 : t < 0
    · simp [n0, h]
    · have n1 : t > 3 := by omega
      simp [n0, n1, h]
theorem sizes3 {x y z : Int} {b s t u : List Int} {e f g : Int} (hs : ref01_Size x = some (s, e)) (hl : s.length ≤ 2147483650) (ht : ref01_Size y = some (t, f)) (hm : t.length ≤ 2147483650) (hu : ref01_Size z = some (u, g)) (hn : u.length ≤ 2147483650) (hb : b.length ≤ 50000000000) :
    page_writer_size [x, y, z] b = some (b ++ s ++ t ++ u) := by
  rw [page_writer_size_eq, writer_over _ (by simp)]
  simp only [overL, hs, ht, hu, Option.bind_some]
  rw [if_pos (by omega)]
  simp only
  rw [if_pos (by simp; omega)]
  simp only
  rw [if_pos (by simp; omega)]
  rfl
theorem ppatterns_is {t a b k : Int} {o4 : Bool} {l : List Bitmap} (hg : GoodL l) :
    ∃ c e, page_Patterns t a b o4 k l = some (c, e) ∧ ref13_Patterns t a b o4 k l = some (c, e) := by
  rw [page_Patterns_eq, ref13_Patterns_eq, ref13_usual_eq, (usual_is t).1, (usual_is t).2, refValid_is]
  simp only [Option.bind_some, Bool.and_true]
  obtain ⟨c, e, h1, h2, h3, h4⟩ := patternsCode_is (t := t) (a := a) (b := b) (k := k) (o4 := o4) hg
  -- what both ask for
  by_cases hu : OptOk t a b k ∧ o4 = false ∧ a = 3 - t % 2 ∧ b = -1
  · obtain ⟨ho, rfl, ha, hb⟩ := hu
    have ht : 0 ≤ t ∧ t ≤ 3 := ⟨ho.1, ho.2.1⟩
    simp only [ht, and_self, if_true, ho, ← ha, ← hb, decide_true, Bool.not_true, Bool.false_eq_true, if_false, Bool.and_self, Option.bind_some]
    rw [h1, h2]
    simp only [Option.bind_some, iteND]
    by_cases he : e = 0
    · obtain ⟨f, r, rfl, hr⟩ := h4 he
      have z0 : (f :: r)[(0 : Int).toNat]? = some f := rfl
      have z1 : (0 : Int) ≤ 0 := by decide
      obtain ⟨s1, f1, g1, l1, _⟩ := size_some f.w
      obtain ⟨s2, f2, g2, l2, _⟩ := size_some f.h
      obtain ⟨s3, f3, g3, l3, _⟩ := size_some (((f :: r).length : Nat) : Int)
      simp only [he, if_true, z0, z1, Option.bind_some]
      rw [byte1 _ _ (by simp)]
      simp only [Option.bind_some, ref13_size_eq, g1, g2, g3]
      rw [sizes3 g1 l1 g2 l2 g3 l3 (by simp)]
      simp only [Option.bind_some]
      rw [with_ok (by simp; omega), join_all _ (by simp) (by simp; omega)]
      exact ⟨_, _, rfl, by simp⟩
    · rw [if_neg he, if_neg he]
      exact ⟨_, _, rfl, rfl⟩
  · by_cases ht : 0 ≤ t ∧ t ≤ 3
    · simp only [ht, and_self, if_true, decide_true, Bool.not_true, Bool.false_eq_true, if_false, Bool.and_true, Bool.true_and]
      by_cases ho : OptOk t a b k
      · have c1 : ((if o4 = true then some true else some (!(decide (a = 3 - t % 2) && decide (b = -1)))) : Option Bool) = some true := by
          cases o4 with
          | true => rfl
          | false =>
            have : ¬ (a = 3 - t % 2 ∧ b = -1) := fun q => hu ⟨ho, rfl, q.1, q.2⟩
            simp only [Bool.false_eq_true, if_false, ← Bool.decide_and, this, decide_false, Bool.not_false]
        have c2 : (!((decide (a = 3 - t % 2) && decide (b = -1)) && decide (o4 = false))) = true := by
          have : ¬ ((a = 3 - t % 2 ∧ b = -1) ∧ o4 = false) := fun q => hu ⟨ho, q.2, q.1.1, q.1.2⟩
          rw [← Bool.decide_and, ← Bool.decide_and, decide_eq_false this]; rfl
        simp only [ho, decide_true, Bool.not_true, Bool.false_eq_true, if_false]
        rw [c1, c2]
        exact ⟨_, _, rfl, rfl⟩
      · have c3 : tone_Patterns t a b o4 k l = some ([], 2) := by
          rw [tone_Patterns_eq, tone_isPlain_eq, genValid_is]; simp [ho]
        rw [c3]
        simp only [ho, decide_false, Bool.not_false, if_true, Option.bind_some]
        refine ⟨[], 2, ?_, rfl⟩
        cases o4 with
        | true => rfl
        | false =>
          simp only [Bool.false_eq_true, if_false, Option.bind_some]
          split <;> rfl
    · have ho : ¬ OptOk t a b k := fun q => ht ⟨q.1, q.2.1⟩
      simp only [ht, if_false, ho, decide_false, Bool.not_false, if_true, Option.bind_some, show ¬ ((2 : Int) = 0) by decide]
      exact ⟨_, _, rfl, rfl⟩
end Go.Proofs.YtkccnhkhjncpkaaGreat.P

/- Tones: what is asked, what is skipped, values and their planes: the program against its reference. -/
namespace Go.Proofs.YtkccnhkhjncpkaaGreat.P
open Go Go.Proofs.YtkccnhkhjncpkaaGreat.V
set_option linter.unusedVariables false
set_option linter.unusedSimpArgs false

/-! ### Which tones are right -/
def Near (n : Int) : Prop := -1048576 ≤ n ∧ n ≤ 1048576
def ToneOk (a1 a2 a3 a4 a5 a6 a7 a8 a10 : Int) : Prop := (0 ≤ a1 ∧ a1 ≤ 64 ∧ 0 ≤ a2 ∧ a2 ≤ 64) ∧ (Near a3 ∧ Near a4 ∧ Near a5 ∧ Near a6) ∧ (0 ≤ a7 ∧ a7 ≤ 3) ∧ (a8 = 0 ∨ a8 = 1) ∧ 0 ≤ a10 ∧ a10 ≤ 4
instance (n : Int) : Decidable (Near n) := by unfold Near; infer_instance
instance (a1 a2 a3 a4 a5 a6 a7 a8 a10 : Int) : Decidable (ToneOk a1 a2 a3 a4 a5 a6 a7 a8 a10) := by unfold ToneOk; infer_instance
theorem near_is (n : Int) : tone_near n 1048576 = some (decide (Near n)) ∧ ref11_isPlace n = some (decide (Near n)) := by
  rw [tone_near_eq, ref11_isPlace_eq]
  simp only [iteD]
  rw [w64 (by omega)]
  by_cases h : n ≥ -1048576
  · have h' : n ≥ 0 - 1048576 := by omega
    rw [if_pos h, if_pos h']
    exact ⟨some_dec (by unfold Near; simp only [decide_eq_true_eq]; omega), some_dec (by unfold Near; simp only [decide_eq_true_eq]; omega)⟩
  · have h' : ¬ n ≥ 0 - 1048576 := by omega
    rw [if_neg h, if_neg h']
    exact ⟨some_dec (by unfold Near; simp only [Bool.false_eq_true, false_iff]; omega), some_dec (by unfold Near; simp only [Bool.false_eq_true, false_iff]; omega)⟩
theorem mul64 {a b : Int} (h0 : 0 ≤ a) (h1 : a ≤ 64) (h2 : 0 ≤ b) (h3 : b ≤ 64) : 0 ≤ a * b ∧ a * b ≤ 4096 := by
  have m := Int.mul_nonneg h0 h2
  have n : a * b ≤ 64 * 64 := Int.mul_le_mul h1 h3 h2 (by decide)
  omega
theorem toneValid_is (a1 a2 a3 a4 a5 a6 a7 a8 : Int) (a9 : Bool) (a10 : Int) : tone_Valid a1 a2 a3 a4 a5 a6 a7 a8 a9 a10 = some (decide (ToneOk a1 a2 a3 a4 a5 a6 a7 a8 a10)) := by
  rw [tone_Valid_eq]
  simp only [iteD, (near_is _).1, Option.bind_some]
  by_cases h1 : 0 ≤ a1 ∧ a1 ≤ 64 ∧ 0 ≤ a2 ∧ a2 ≤ 64
  · obtain ⟨g1, g2, g3, g4⟩ := h1
    have m := mul64 g1 g2 g3 g4
    rw [if_pos (show a1 ≥ 0 from g1), if_pos g2, if_pos (show a2 ≥ 0 from g3), if_pos g4, w64 (by omega), if_pos (by omega)]
    repeat' split
    all_goals
      refine some_dec ?_
      simp only [ToneOk, Near, decide_eq_true_eq, Bool.false_eq_true, true_iff, false_iff] at *
      omega
  · have e : ∀ X : Option Bool, (if a1 ≥ 0 then if a1 ≤ 64 then if a2 ≥ 0 then if a2 ≤ 64 then X else some false else some false else some false else some false) = some false := by
      intro X
      repeat' split
      all_goals first | rfl | omega
    rw [e]
    refine some_dec ?_
    unfold ToneOk
    simp only [Bool.false_eq_true, false_iff]
    exact fun q => h1 q.1
theorem refToneValid_is (a1 a2 a3 a4 a5 a6 a7 a8 : Int) (a9 : Bool) (a10 : Int) : ref11_Valid a1 a2 a3 a4 a5 a6 a7 a8 a9 a10 = some (decide (ToneOk a1 a2 a3 a4 a5 a6 a7 a8 a10)) := by
  rw [ref11_Valid_eq]
  simp only [iteD, (near_is _).2, Option.bind_some]
  have e1 : ((if a1 < 0 then some true else if a2 < 0 then some true else if a1 > 64 then some true else if a2 > 64 then some true else some (decide (IntKind.i64.wrap (a1 * a2) > 8192))) : Option Bool) = some (decide (¬ (0 ≤ a1 ∧ a1 ≤ 64 ∧ 0 ≤ a2 ∧ a2 ≤ 64))) := by
    by_cases h1 : 0 ≤ a1 ∧ a1 ≤ 64 ∧ 0 ≤ a2 ∧ a2 ≤ 64
    · obtain ⟨g1, g2, g3, g4⟩ := h1
      have m := mul64 g1 g2 g3 g4
      rw [if_neg (by omega), if_neg (by omega), if_neg (by omega), if_neg (by omega), w64 (by omega)]
      refine some_dec ?_
      simp only [decide_eq_true_eq]; omega
    · repeat' split
      all_goals
        refine some_dec ?_
        simp only [decide_eq_true_eq, true_iff]
        omega
  have e2 : ((if (!decide (Near a3)) = true then some true else if (!decide (Near a4)) = true then some true else if (!decide (Near a5)) = true then some true else some !decide (Near a6)) : Option Bool) = some (decide (¬ (Near a3 ∧ Near a4 ∧ Near a5 ∧ Near a6))) := by
    simp only [iteND]
    repeat' split
    all_goals
      refine some_dec ?_
      simp only [*, true_iff, Bool.not_eq_true', decide_eq_false_iff_not, true_and, false_and, not_false_eq_true]
  rw [e1, e2]
  simp only [Option.bind_some, iteD]
  by_cases h1 : ¬ (0 ≤ a1 ∧ a1 ≤ 64 ∧ 0 ≤ a2 ∧ a2 ≤ 64)
  · rw [if_pos h1]
    refine some_dec ?_; unfold ToneOk; simp only [Bool.false_eq_true, false_iff]; exact fun q => h1 q.1
  · rw [if_neg h1]
    have h1 := Decidable.not_not.1 h1
    by_cases h2 : ¬ (Near a3 ∧ Near a4 ∧ Near a5 ∧ Near a6)
    · rw [if_pos h2]
      refine some_dec ?_; unfold ToneOk; simp only [Bool.false_eq_true, false_iff]; exact fun q => h2 q.2.1
    · rw [if_neg h2]
      have h2 := Decidable.not_not.1 h2
      repeat' split
      all_goals
        refine some_dec ?_
        unfold ToneOk
        simp only [decide_eq_true_eq, Bool.false_eq_true, false_iff, h1, h2, true_and, and_self]
        omega
/-- what is asked before anything is written -/
theorem begun_is {a1 a2 a3 a4 a5 a6 a7 a8 a10 w h : Int} {a9 : Bool} {l : List Bitmap} (hg : GoodL l) :
    ∃ e, tone_begun a1 a2 a3 a4 a5 a6 a7 a8 a9 a10 l w h = some e ∧ ref11_asked a1 a2 a3 a4 a5 a6 a7 a8 a9 a10 l w h = some e ∧ (e = 0 → ToneOk a1 a2 a3 a4 a5 a6 a7 a8 a10 ∧ sidesB w h = true ∧ ∃ f r, l = f :: r ∧ RightL f l) := by
  rw [tone_begun_eq, ref11_asked_eq, toneValid_is, refToneValid_is, Sides_is]
  by_cases ho : ToneOk a1 a2 a3 a4 a5 a6 a7 a8 a10
  · simp only [ho, decide_true, Bool.not_true, Bool.false_eq_true, if_false, Option.bind_some]
    rcases rightPatterns_is l hg with ⟨f, r, rfl, hr, e1, e2, e3⟩ | ⟨e1, e2, e3⟩ | ⟨e1, e2⟩
    · simp only [e1, e2, e3, Option.bind_some, decide_true, Bool.not_true, Bool.false_eq_true, if_false, show ¬ ((0 : Int) = 30) by decide, decide_false]
      by_cases hs : sidesB w h = true
      · rw [new_ok hs, hs]
        exact ⟨0, rfl, rfl, fun _ => ⟨trivial, rfl, f, r, rfl, hr⟩⟩
      · obtain ⟨e, he, h1⟩ := new_bad hs
        have hsf : sidesB w h = false := by simpa using hs
        rw [h1, hsf]
        simp only [Option.bind_some, he, decide_false, Bool.not_false, if_true]
        exact ⟨30, rfl, rfl, fun h => by simp at h⟩
    · simp only [e1, e2, e3, Option.bind_some, decide_true, Bool.not_true, Bool.false_eq_true, if_false, show ¬ ((2 : Int) = 30) by decide, decide_false]
      by_cases hs : sidesB w h = true
      · rw [new_ok hs, hs]
        exact ⟨2, rfl, rfl, fun h => by simp at h⟩
      · obtain ⟨e, he, h1⟩ := new_bad hs
        have hsf : sidesB w h = false := by simpa using hs
        rw [h1, hsf]
        simp only [Option.bind_some, he, decide_false, Bool.not_false, if_true]
        exact ⟨30, rfl, rfl, fun h => by simp at h⟩
    · simp only [e1, e2, Option.bind_some, decide_true, if_true, show ¬ ((30 : Int) = 0) by decide, decide_false, Bool.not_false]
      exact ⟨30, rfl, rfl, fun h => by simp at h⟩
  · simp only [ho, decide_false, Bool.not_false, if_true, Option.bind_some]
    exact ⟨2, rfl, rfl, fun h => by simp at h⟩

/-! ### What is skipped -/
theorem cell_is (a1 a2 a3 a4 a5 a6 a7 a8 : Int) (a9 : Bool) (a10 m n : Int) : ref11_cell a1 a2 a3 a4 a5 a6 a7 a8 a9 a10 m n = tone_cell a1 a2 a3 a4 a5 a6 a7 a8 a9 a10 m n := by
  simp only [ref11_cell_eq, tone_cell_eq, ref11_down_eq, Option.bind_some]
theorem orP (a b c d : Prop) [Decidable a] [Decidable b] [Decidable c] [Decidable d] : ((if a then some true else if b then some true else if c then some true else some (decide d)) : Option Bool) = some (decide (a ∨ b ∨ c ∨ d)) := by
  by_cases a <;> by_cases b <;> by_cases c <;> by_cases d <;> simp [*]
theorem bothPerm {a b c d : Prop} [Decidable a] [Decidable b] [Decidable c] [Decidable d] {α β : Type} {X Y : Option α} {X' Y' : Option β} {R : α → β → Prop} (h : Both X X' R) (h' : Both Y Y' R) : Both (if c ∨ d ∨ a ∨ b then X else Y) (if a ∨ b ∨ c ∨ d then X' else Y') R := by
  by_cases q : a ∨ b ∨ c ∨ d
  · rw [if_pos q, if_pos (by rcases q with q | q | q | q <;> simp [q])]; exact h
  · rw [if_neg q, if_neg (fun p => q (by rcases p with p | p | p | p <;> simp [p]))]; exact h'
theorem skipped_is {a1 a2 a3 a4 a5 a6 a7 a8 a10 w h : Int} {a9 : Bool} {f : Bitmap} {r : List Bitmap} (ho : ToneOk a1 a2 a3 a4 a5 a6 a7 a8 a10) :
    ∃ S, tone_skipped a1 a2 a3 a4 a5 a6 a7 a8 a9 a10 (f :: r) w h = some (a1, a2, S) ∧ ref11_skipped a1 a2 a3 a4 a5 a6 a7 a8 a9 a10 (f :: r) w h = some (a1, a2, S) ∧ Bmp a1 a2 S := by
  obtain ⟨⟨g1, g2, g3, g4⟩, _⟩ := ho
  have m := mul64 g1 g2 g3 g4
  have hs : sidesB a1 a2 = true := sidesB_iff.2 ⟨g1, g3, by omega, by omega, by omega⟩
  have z0 : (f :: r)[(0 : Int).toNat]? = some f := rfl
  have z1 : (0 : Int) ≤ 0 := by decide
  have hbl := blank_bmp hs
  rw [tone_skipped_eq, ref11_skipped_eq, new_ok hs, newR_ok hs]
  simp only [Option.bind_some]
  rw [ref11_skipped_loop3_over a1 a2 a3 a4 a5 a6 a7 a8 a9 a10 (f :: r) w h a1 a2 (by rw [List.length_range]; omega) (blankP a1 a2)]
  cases a9 with
  | false =>
    simp only [Bool.not_false, if_true]
    refine ⟨blankP a1 a2, rfl, ?_, hbl⟩
    rw [overL_inv (fun _ => blankP a1 a2) (List.range a2.toNat) 0 (fun k x hk => ?_)]
    · rfl
    · have hk' := lt_len_of_get hk
      rw [List.length_range] at hk'
      unfold ref11_skipped_loop3_step
      rw [ref11_skipped_loop6_over a1 a2 a3 a4 a5 a6 a7 a8 false a10 (f :: r) w h a1 a2 _ (by rw [List.length_range]; omega) (blankP a1 a2)]
      rw [overL_inv (fun _ => blankP a1 a2) (List.range a1.toNat) 0 (fun k x hk => ?_)]
      · rfl
      · unfold ref11_skipped_loop6_step
        rw [cell_is, tone_cell_eq]
        simp only [Option.bind_some, Bool.false_eq_true, if_false]
  | true =>
    simp only [Bool.not_true, Bool.false_eq_true, if_false]
    rw [tone_skipped_loop5_over a1 a2 a3 a4 a5 a6 a7 a8 true a10 (f :: r) w h (by rw [List.length_range]; omega) (blankP a1 a2)]
    have main := overL_both (f := tone_skipped_loop5_step a1 a2 a3 a4 a5 a6 a7 a8 true a10 (f :: r) w h) (g := ref11_skipped_loop3_step a1 a2 a3 a4 a5 a6 a7 a8 true a10 (f :: r) w h a1 a2) (fin := fun s => some s) (fin' := fun s => some s) (fun _ s t => s = t ∧ Bmp a1 a2 s) (fun s t => s = t ∧ Bmp a1 a2 s) (List.range a2.toNat) 0 (blankP a1 a2) (blankP a1 a2)
      (fun n x s t hn hr => by
        have hk := lt_len_of_get hn
        rw [List.length_range] at hk
        obtain ⟨rfl, hb⟩ := hr
        rw [Nat.zero_add]
        unfold tone_skipped_loop5_step ref11_skipped_loop3_step
        rw [tone_skipped_loop8_over a1 a2 a3 a4 a5 a6 a7 a8 true a10 (f :: r) w h _ (by rw [List.length_range]; omega) s, ref11_skipped_loop6_over a1 a2 a3 a4 a5 a6 a7 a8 true a10 (f :: r) w h a1 a2 _ (by rw [List.length_range]; omega) s]
        refine Both.bind (overL_both (fun _ s t => s = t ∧ Bmp a1 a2 s) (fun s t => s = t ∧ Bmp a1 a2 s) (List.range a1.toNat) 0 s s (fun k x s t hn' hr => ?_) (fun s t hr => .mk hr) ⟨rfl, hb⟩) (fun p q hpq => .mk hpq)
        have hk' := lt_len_of_get hn'
        rw [List.length_range] at hk'
        obtain ⟨rfl, hb⟩ := hr
        rw [Nat.zero_add]
        unfold tone_skipped_loop8_step ref11_skipped_loop6_step
        rw [cell_is, tone_cell_eq]
        simp only [Option.bind_some, if_true, z0, z1, iteD]
        simp only [orP, Option.bind_some, iteD]
        obtain ⟨i0, i1, i2⟩ := idx_in (show (0 : Int) ≤ (k : Int) by omega) (show (k : Int) < a1 by omega) (show (0 : Int) ≤ (n : Int) by omega) (show (n : Int) < a2 by omega)
        have hlen := hb.2.2.2.2.2.1
        rw [refSet_is hb (by omega) (by omega) (.inr rfl), w64 (n := (n : Int) * a1) (by omega), w64 (n := (n : Int) * a1 + (k : Int)) (by omega), if_pos (⟨i1, by omega⟩ : 0 ≤ (n : Int) * a1 + (k : Int) ∧ (n : Int) * a1 + (k : Int) < (s.length : Int))]
        exact bothPerm (.mk ⟨rfl, hb.set (.inr rfl)⟩) (.mk ⟨rfl, hb⟩)) (fun s t hr => .mk hr) ⟨rfl, hbl⟩
    obtain ⟨S, S', e1, e2, rfl, hS⟩ := main
    exact ⟨S, by rw [e1]; rfl, by rw [e2]; rfl, hS⟩
end Go.Proofs.YtkccnhkhjncpkaaGreat.P

/- Tones: values, their width and their planes: the program against its reference. -/
namespace Go.Proofs.YtkccnhkhjncpkaaGreat.P
open Go Go.Proofs.YtkccnhkhjncpkaaGreat.V
set_option linter.unusedVariables false
set_option linter.unusedSimpArgs false

/-! ### Values -/
def ValOk (n : Int) (S values : List Int) : Prop := ∀ (k : Nat) (x : Int), values[k]? = some x → (0 ≤ x ∧ x < n) ∧ (x = 0 ∨ rd S (k : Int) ≠ 1)
theorem values_is {l : List Bitmap} {S values : List Int} (hl : values.length ≤ 9223372036854775807) (hS : S.length = values.length) :
    ValOk ((l.length : Nat) : Int) S values ∧ loop (tone_rightValues_loop4 ((l.length : Nat) : Int) S values) 0 = some (Sum.inl ()) ∧ loop (ref11_given_loop8 l values S) 0 = some (Sum.inl ())
    ∨ loop (tone_rightValues_loop4 ((l.length : Nat) : Int) S values) 0 = some (Sum.inr false) ∧ loop (ref11_given_loop8 l values S) 0 = some (Sum.inr 2) := by
  rw [tone_rightValues_loop4_over _ _ _ hl (), ref11_given_loop8_over _ _ _ hl ()]
  generalize hn : ((l.length : Nat) : Int) = n
  have a1 := overL_allN (P := fun k x => (0 ≤ x ∧ x < n) ∧ (x = 0 ∨ rd S ((k : Nat) : Int) ≠ 1)) (step := tone_rightValues_loop4_step n S) (fin := fun _ => some (Sum.inl ())) (a := Sum.inr false) values 0 (fun k x hk => by
    have hlt := lt_len_of_get hk
    rw [Nat.zero_add]
    unfold tone_rightValues_loop4_step
    simp only [iteD, iteND]
    by_cases g1 : x < 0
    · exact .inr ⟨fun q => by omega, by rw [if_pos g1]⟩
    · by_cases g2 : x ≥ n
      · exact .inr ⟨fun q => by omega, by rw [if_neg g1, if_pos g2]⟩
      · rw [if_neg g1, if_neg g2]
        by_cases g3 : x = 0
        · exact .inl ⟨⟨by omega, .inl g3⟩, by rw [if_pos g3]⟩
        · rw [if_neg g3, if_pos (by omega)]
          by_cases g4 : rd S (k : Int) = 1
          · exact .inr ⟨fun q => by rcases q.2 with q | q; exact g3 q; exact q g4, by rw [if_pos g4]⟩
          · exact .inl ⟨⟨by omega, .inr g4⟩, by rw [if_neg g4]⟩)
  have a2 := overL_allN (P := fun k x => (0 ≤ x ∧ x < n) ∧ (x = 0 ∨ rd S ((k : Nat) : Int) ≠ 1)) (step := ref11_given_loop8_step l S) (fin := fun _ => some (Sum.inl ())) (a := Sum.inr 2) values 0 (fun k x hk => by
    have hlt := lt_len_of_get hk
    rw [Nat.zero_add]
    unfold ref11_given_loop8_step
    rw [hn]
    simp only [iteD, iteND]
    by_cases g1 : x < 0
    · exact .inr ⟨fun q => by omega, by rw [if_pos g1]⟩
    · by_cases g2 : x ≥ n
      · exact .inr ⟨fun q => by omega, by rw [if_neg g1, if_pos g2]⟩
      · rw [if_neg g1, if_neg g2, if_pos (by omega)]
        by_cases g4 : rd S (k : Int) = 1
        · rw [if_pos g4]
          by_cases g3 : x = 0
          · exact .inl ⟨⟨by omega, .inl g3⟩, by rw [if_pos g3]⟩
          · exact .inr ⟨fun q => by rcases q.2 with q | q; exact g3 q; exact q g4, by rw [if_neg g3]⟩
        · exact .inl ⟨⟨by omega, .inr g4⟩, by rw [if_neg g4]⟩)
  rcases a1 with ⟨p1, e1⟩ | ⟨p1, e1⟩
  · rcases a2 with ⟨p2, e2⟩ | ⟨p2, e2⟩
    · exact .inl ⟨fun k x hk => by have := p1 k x hk; rwa [Nat.zero_add] at this, e1, e2⟩
    · exact absurd p1 p2
  · rcases a2 with ⟨p2, e2⟩ | ⟨p2, e2⟩
    · exact absurd p2 p1
    · exact .inr ⟨e1, e2⟩

/-! ### The width of a number -/
def widthN (n : Nat) : Int := if n ≤ 1 then 0 else if n ≤ 2 then 1 else if n ≤ 4 then 2 else if n ≤ 8 then 3 else if n ≤ 16 then 4 else if n ≤ 32 then 5 else 6
theorem width_num : ∀ n : Fin 65, 1 ≤ n.val → number_Width ((n.val : Nat) : Int) = some (widthN n.val) := by
  intro n h
  rw [number_Width_eq, if_neg (by simp; omega)]
  show (math_bits_Len (IntKind.u64.wrap (IntKind.i64.wrap (((n.val : Nat) : Int) - 1)))).bind (fun q => some q) = _
  rw [math_bits_Len_eq, math_bits_Len64_eq]
  revert n
  decide +kernel
theorem width_loop : ∀ n : Fin 65, V.iter (ref03_Width_loop2 ((n.val : Nat) : Int)) 8 0 = some (widthN n.val) := by decide +kernel
theorem width_after : ∀ n : Fin 65, (0 ≤ widthN n.val ∧ widthN n.val ≤ 6) ∧ ((n.val : Nat) : Int) ≤ ishl .i64 1 (widthN n.val) := by decide +kernel
theorem width_is {n : Nat} (h1 : 1 ≤ n) (h2 : n ≤ 64) : number_Width (n : Int) = some (widthN n) ∧ ref03_Width (n : Int) = some (widthN n) ∧ (0 ≤ widthN n ∧ widthN n ≤ 6) ∧ (n : Int) ≤ ishl .i64 1 (widthN n) := by
  obtain ⟨g1, g2⟩ := width_after ⟨n, by omega⟩
  refine ⟨width_num ⟨n, by omega⟩ h1, ?_, g1, g2⟩
  rw [ref03_Width_eq, loop_of_iter (width_loop ⟨n, by omega⟩)]
  simp only [Option.bind_some, iteD]
  simp only at g1 g2
  rw [if_neg (by omega), if_neg (by omega)]

/-! ### Planes -/
def bitAt (j v : Int) : Int := IntKind.u8.wrap ((IntKind.i64.wrap (ishr .i64 v j + ishr .i64 v (IntKind.i64.wrap (j + 1)))).tmod 2)
theorem bits_same : ∀ v : Fin 64, ∀ j : Fin 6, IntKind.u8.wrap (iand .i64 (ixor .i64 (ishr .i64 ((v.val : Nat) : Int) ((j.val : Nat) : Int)) (ishr .i64 ((v.val : Nat) : Int) (IntKind.i64.wrap (((j.val : Nat) : Int) + 1)))) 1) = bitAt ((j.val : Nat) : Int) ((v.val : Nat) : Int) ∧ (bitAt ((j.val : Nat) : Int) ((v.val : Nat) : Int) = 0 ∨ bitAt ((j.val : Nat) : Int) ((v.val : Nat) : Int) = 1) ∧ (v.val = 0 → bitAt ((j.val : Nat) : Int) ((v.val : Nat) : Int) = 0) := by decide +kernel
theorem bit_same {v : Int} {j : Nat} (h0 : 0 ≤ v) (h1 : v < 64) (hj : j < 6) : IntKind.u8.wrap (iand .i64 (ixor .i64 (ishr .i64 v (j : Int)) (ishr .i64 v (IntKind.i64.wrap ((j : Int) + 1)))) 1) = bitAt (j : Int) v ∧ (bitAt (j : Int) v = 0 ∨ bitAt (j : Int) v = 1) ∧ (v = 0 → bitAt (j : Int) v = 0) := by
  obtain ⟨m, rfl⟩ := Int.eq_ofNat_of_zero_le h0
  obtain ⟨a, b, c⟩ := bits_same ⟨m, by omega⟩ ⟨j, hj⟩
  exact ⟨a, b, fun q => c (by show m = 0; omega)⟩
def planeL (values : List Int) (j : Nat) : List Int := values.map (bitAt (j : Int))
def planesL (values : List Int) : Nat → List (List Int)
  | 0 => []
  | d + 1 => planeL values d :: planesL values d
theorem planesL_len (values : List Int) : ∀ d, (planesL values d).length = d
  | 0 => rfl
  | d + 1 => by rw [planesL, List.length_cons, planesL_len values d]
theorem planesL_mem {values p : List Int} : ∀ {d : Nat}, p ∈ planesL values d → ∃ j, j < d ∧ p = planeL values j
  | 0, h => by simp [planesL] at h
  | d + 1, h => by
    rcases List.mem_cons.1 h with h | h
    · exact ⟨d, by omega, h⟩
    · obtain ⟨j, h1, h2⟩ := planesL_mem h
      exact ⟨j, by omega, h2⟩
def Small (values : List Int) : Prop := values.length ≤ 100000 ∧ ∀ v ∈ values, 0 ≤ v ∧ v < 64
theorem take_map {values : List Int} {k : Nat} {x : Int} {f : Int → Int} (h : values[k]? = some x) : (values.take (k + 1)).map f = (values.take k).map f ++ [f x] := by
  rw [List.take_add_one, h, List.map_append]; rfl
theorem plane_loop {values : List Int} (hs : Small values) {j : Nat} (hj : j < 6) : loop (tone_Planes_loop9 values (j : Int)) (0, []) = some (planeL values j) ∧ loop (ref11_Planes_loop14 values (j : Int)) (0, []) = some (planeL values j) := by
  obtain ⟨hl, hv⟩ := hs
  rw [tone_Planes_loop9_over values (j : Int) (by omega) [], ref11_Planes_loop14_over values (j : Int) (by omega) []]
  have j0 : ¬ ((j : Nat) : Int) < 0 := by omega
  have jw : IntKind.i64.wrap ((j : Int) + 1) = (j : Int) + 1 := w64 (by omega)
  have j1 : ¬ ((j : Nat) : Int) + 1 < 0 := by omega
  have b1 := overL_inv (f := tone_Planes_loop9_step (j : Int)) (fin := fun s => some s) (fun n => (values.take n).map (bitAt (j : Int))) values 0 (fun k x hk => by
    have hlt := lt_len_of_get hk
    obtain ⟨v0, v1⟩ := hv x (List.mem_of_getElem? hk)
    obtain ⟨e, _, _⟩ := bit_same v0 v1 hj
    rw [Nat.zero_add]
    unfold tone_Planes_loop9_step
    rw [take_map hk]
    simp only [j0, if_false, e, List.length_map, List.length_take, List.length_singleton]
    rw [if_neg (by rw [jw]; exact j1), if_pos (by omega)])
  have b2 := overL_inv (f := ref11_Planes_loop14_step (j : Int)) (fin := fun s => some s) (fun n => (values.take n).map (bitAt (j : Int))) values 0 (fun k x hk => by
    have hlt := lt_len_of_get hk
    rw [Nat.zero_add]
    unfold ref11_Planes_loop14_step
    rw [take_map hk]
    simp only [j0, if_false, List.length_map, List.length_take, List.length_singleton]
    rw [if_neg (by rw [jw]; exact j1), if_pos (by omega)]
    rfl)
  simp only [List.take_zero, List.map_nil, Nat.zero_add, List.take_length] at b1 b2
  rw [b1, b2]
  exact ⟨rfl, rfl⟩
theorem planes_loop {values : List Int} (hs : Small values) : ∀ (d : Nat) (out : List (List Int)), d ≤ 6 → out.length + d ≤ 100 → loop (tone_Planes_loop5 values) ((d : Int) - 1, out) = some (out ++ planesL values d) ∧ loop (ref11_Planes_loop10 values) ((d : Int) - 1, out) = some (out ++ planesL values d)
  | 0, out, _, _ => by
    refine ⟨loop_done ?_, loop_done ?_⟩
    · unfold tone_Planes_loop5; simp [planesL]
    · unfold ref11_Planes_loop10; simp [planesL]
  | d + 1, out, hd, ho => by
    obtain ⟨p1, p2⟩ := plane_loop hs (j := d) (by omega)
    obtain ⟨q1, q2⟩ := planes_loop hs d (out ++ [planeL values d]) (by omega) (by rw [List.length_append, List.length_singleton]; omega)
    have e : (((d + 1 : Nat) : Int) - 1) = (d : Int) := by omega
    have c : (d : Int) ≥ 0 := by omega
    rw [e]
    refine ⟨(loop_step (s' := ((d : Int) - 1, out ++ [planeL values d])) ?_).trans ?_, (loop_step (s' := ((d : Int) - 1, out ++ [planeL values d])) ?_).trans ?_⟩
    · unfold tone_Planes_loop5
      simp only [c, decide_true, if_true, p1, Option.bind_some, List.length_singleton]
      rw [if_pos (by omega), w64 (by omega)]
    · rw [q1, planesL, List.append_assoc]; rfl
    · unfold ref11_Planes_loop10
      simp only [c, decide_true, if_true, p2, Option.bind_some, List.length_singleton]
      rw [if_pos (by omega), w64 (by omega)]
    · rw [q2, planesL, List.append_assoc]; rfl
theorem planes_is {values : List Int} (hs : Small values) {d : Nat} (hd : d ≤ 6) (hw : ∀ v ∈ values, v < ishl .i64 1 (d : Int)) : tone_Planes values (d : Int) = some (planesL values d, 0) ∧ ref11_Planes values (d : Int) = some (planesL values d, 0) := by
  obtain ⟨hl, hv⟩ := hs
  obtain ⟨q1, q2⟩ := planes_loop ⟨hl, hv⟩ d [] hd (by simp; omega)
  have d0 : ¬ (d : Int) < 0 := by omega
  have d1 : ¬ (d : Int) > 8 := by omega
  rw [tone_Planes_eq, ref11_Planes_eq, slices_ContainsFunc_int_int_eq, slices_IndexFunc_int_int_eq, slices_IndexFunc_int_int_loop2_over values (by omega) (d : Int), ref11_Planes_loop4_over values (d : Int) (by omega) ()]
  rw [overL_inv (f := slices_IndexFunc_int_int_loop2_step) (fun _ => (d : Int)) values 0 (fun k x hk => by
    have h1 := hv x (List.mem_of_getElem? hk)
    have h2 := hw x (List.mem_of_getElem? hk)
    have n1 : ¬ x < 0 := by omega
    have n2 : ¬ x ≥ ishl .i64 1 (d : Int) := by omega
    unfold slices_IndexFunc_int_int_loop2_step
    rw [tone_Planes_1_eq]
    simp only [n1, n2, d0, decide_false, Bool.false_eq_true, if_false, Option.bind_some])]
  rw [overL_inv (f := ref11_Planes_loop4_step (d : Int)) (fun _ => ()) values 0 (fun k x hk => by
    have h1 := hv x (List.mem_of_getElem? hk)
    have h2 := hw x (List.mem_of_getElem? hk)
    have n1 : ¬ x < 0 := by omega
    have n2 : ¬ x ≥ ishl .i64 1 (d : Int) := by omega
    unfold ref11_Planes_loop4_step
    simp only [n1, n2, d0, decide_false, Bool.false_eq_true, if_false])]
  simp only [d0, d1, decide_false, Bool.false_eq_true, if_false, Option.bind_some, Sum.elim_inl, show ¬ ((-1 : Int) ≥ 0) by decide]
  rw [w64 (n := (d : Int) - 1) (by omega), q1, q2]
  simp
end Go.Proofs.YtkccnhkhjncpkaaGreat.P

/- Tones' code and their Data: the program against its reference; the law of tones. -/
namespace Go.Proofs.YtkccnhkhjncpkaaGreat.P
open Go Go.Proofs.YtkccnhkhjncpkaaGreat.V
set_option linter.unusedVariables false
set_option linter.unusedSimpArgs false

/-! ### A region that is put under a skip of its own sides -/
def NoClash (p S : List Int) : Prop := ∀ i : Nat, rd S (i : Int) = 1 → rd p (i : Int) = 0
theorem skipOk_of {w h : Int} {S : List Int} (hS : Bmp w h S) : SkipOk w h w h S := ⟨hS, .inr ⟨rfl, rfl⟩⟩
theorem clash_is {w h : Int} {p S : List Int} (hp : Bmp w h p) (hS : Bmp w h S) (hc : NoClash p S) : generic_clash w h p w h S = some false := by
  have l1 := hp.2.2.2.2.2.1
  have l2 := hS.2.2.2.2.2.1
  have l3 := hp.2.2.2.2.1
  rw [generic_clash_eq, generic_clash_loop2_over w h p w h S (by omega) ()]
  rw [overL_inv (f := generic_clash_loop2_step w h w h S) (fun _ => ()) p 0 (fun k x hk => by
    have hlt := lt_len_of_get hk
    have hr := rd_nat hk
    rw [Nat.zero_add]
    unfold generic_clash_loop2_step
    simp only [iteD]
    by_cases g : x = 1
    · have g2 : ¬ rd S (k : Int) = 1 := fun q => by have := hc k q; omega
      have es : generic_sides w h S w h = some true := by
        rw [generic_sides_eq]; simp only [decide_true, if_true, iteD]; repeat' split
        all_goals rfl
      rw [if_pos g, es]
      simp only [Option.bind_some, if_true]
      rw [generic_skips_eq, if_pos (by simp; omega), if_pos (by omega)]
      simp only [g2, decide_false, Option.bind_some, Bool.false_eq_true, if_false]
    · rw [if_neg g])]
  rfl
theorem clashR_is {w h : Int} {p S : List Int} (hp : Bmp w h p) (hS : Bmp w h S) (hc : NoClash p S) : loop (ref07_Put_loop6 w h p w h S) 0 = some (Sum.inl ()) := by
  have h0 := hp.1
  have h1 := hp.2.1
  have h2 := hp.2.2.1
  have h3 := hp.2.2.2.1
  obtain ⟨a, e1, e2⟩ := loop_ind (f := ref07_Put_loop6 w h p w h S) (fun y => 0 ≤ y ∧ y ≤ h) (fun y => (h - y).toNat) (fun a => a = Sum.inl ()) (fun y hy => by
    unfold ref07_Put_loop6
    simp only [decide_true, if_true, iteD]
    by_cases g : y < h
    · rw [if_pos g]
      simp only [Option.bind_some, if_true]
      rw [ref07_Put_loop9_over w h p w h S y (by rw [List.length_range]; omega) ()]
      rw [overL_inv (f := ref07_Put_loop9_step w h p w h S y) (fun _ => ()) (List.range w.toNat) 0 (fun k x hk => by
        have hlt := lt_len_of_get hk
        rw [List.length_range] at hlt
        rw [Nat.zero_add]
        obtain ⟨i0, i1, i2⟩ := idx_in (show (0 : Int) ≤ (k : Int) by omega) (show (k : Int) < w by omega) hy.1 g
        unfold ref07_Put_loop9_step
        rw [At_is hp, At_is hS]
        simp only [Option.bind_some, iteD]
        by_cases q : pixA w h p (k : Int) y = 1
        · rw [if_pos q]
          have q2 : ¬ pixA w h S (k : Int) y = 1 := fun q2 => by
            unfold pixA at q q2
            rw [if_pos ⟨by omega, hy.1, by omega, g⟩] at q q2
            have := hc (y * w + (k : Int)).toNat (by rw [Int.toNat_of_nonneg i1]; exact q2)
            rw [Int.toNat_of_nonneg i1] at this
            omega
          rw [if_neg q2]
        · rw [if_neg q])]
      simp only [Option.bind_some, Sum.elim_inl]
      rw [w64 (by omega)]
      exact .inl ⟨_, rfl, by omega, by omega⟩
    · rw [if_neg g]
      exact .inr ⟨_, rfl, rfl⟩) 0 ⟨by decide, h1⟩
  rw [e1, e2]
theorem genSize_is {t a b k : Int} {o4 : Bool} (ho : OptOk t a b k) : generic_Size t a b o4 k = some (ctxN t + 1, 0) := by
  have := ctxN_small t
  rw [generic_Size_eq, genValid_is, contexts_is]
  simp only [ho, decide_true, Bool.not_true, Bool.false_eq_true, if_false, Option.bind_some]
  rw [w64 (by omega)]
theorem putSkip_is {t a b k w h : Int} {o4 : Bool} {p S : List Int} (ho : OptOk t a b k) (hp : Bmp w h p) (hS : Bmp w h S) (hc : NoClash p S) {B : Nat} (hB : B ≤ 100000000) {s : EncS} (hs : EncAt (ctxN t + 1).toNat B s) :
    ∃ r, generic_Put 0 t a b o4 k w h p w h S s.1 s.2.1 s.2.2.1 s.2.2.2.1 s.2.2.2.2 = some (0, r) ∧ ref07_Put 0 t a b o4 k w h p w h S s.1 s.2.1 s.2.2.1 s.2.2.2.1 s.2.2.2.2 = some (0, r) ∧ EncAt (ctxN t + 1).toNat (B + 804 * 200) r := by
  obtain ⟨c0, c1⟩ := ctxN_small t
  have hlen := hs.2.1
  have lp := hp.2.2.2.2.2.1
  have lS := hS.2.2.2.2.2.1
  have l3 := hp.2.2.2.2.1
  obtain ⟨q, r, e1, e2, rfl, hr⟩ := put_rows (o4 := o4) ho hp (skipOk_of hS) (base := 0) (N := (ctxN t + 1).toNat) (by omega) (by omega) hB hs
  simp only [withP] at e1
  have hside : sidesB w h = true := sidesB_iff.2 ⟨hp.1, hp.2.1, hp.2.2.1, hp.2.2.2.1, hp.2.2.2.2.1⟩
  have ec := clone_is (kind := s.1) (st := s.2.2.2.1) (by rw [hlen]; omega)
  have d1 : ¬ (0 : Int) < 0 := by decide
  have hlen' : ((s.2.2.2.1.length : Nat) : Int) = ctxN t + 1 := by omega
  refine ⟨r, ?_, ?_, hr⟩
  · rw [generic_Put_eq]
    have ep : coder_Encoder_Put (-1) 0 s.1 s.2.1 s.2.2.1 s.2.2.2.1 s.2.2.2.2 = some (2, s.1, s.2.1, s.2.2.1, s.2.2.2.1, s.2.2.2.2) := by
      rw [coder_Encoder_Put_eq, coder_Encoder_none_eq]
      rfl
    rw [ep]
    simp only [Option.bind_some]
    rw [genValid_is, bitmapValid_is (by omega), bitmapValid_is (by omega), hp.b, hS.b, clash_is hp hS hc, generic_sides_eq]
    have es : ((if decide (w = 0) = true then (if decide (h = 0) = true then some true else (if decide (w = w) = true then some (decide (h = h)) else some false)) else (if decide (w = w) = true then some (decide (h = h)) else some false)) : Option Bool) = some true := by
      simp only [decide_true, if_true, iteD]; repeat' split
      all_goals rfl
    rw [es, coder_Encoder_Model_eq, coder_Encoder_none_eq]
    simp only [Option.bind_some, ho, decide_true, Bool.not_true, Bool.false_eq_true, if_false, show ¬ ((2 : Int) = 7) by decide, decide_false, ec.1]
    rw [generic_fits_eq, contexts_is]
    simp only [Option.bind_some]
    rw [hlen', w64 (n := ctxN t + 1 - ctxN t) (by omega), w64 (n := ctxN t + 1 - ctxN t - 1) (by omega)]
    have f1 : (0 : Int) ≥ 0 := by decide
    have f2 : (0 : Int) ≤ ctxN t + 1 - ctxN t - 1 := by omega
    simp only [f1, f2, decide_true, if_true, Option.bind_some, Bool.not_true, Bool.false_eq_true, if_false]
    rw [generic_put_eq, newPlane_is hside]
    simp only [Option.bind_some]
    rw [e1]
    rfl
  · rw [ref07_Put_eq, refValid_is, Valid05_is (by omega), Valid05_is (by omega), hp.b, hS.b, clashR_is hp hS hc]
    simp only [Option.bind_some, ho, decide_true, Bool.not_true, Bool.false_eq_true, if_false, Sum.elim_inl]
    rw [ref02_Encoder_Model_eq, ec.2]
    simp only [Option.bind_some]
    rw [ref07_room_eq, size07_is, ref07_none_eq, hlen']
    have d2 : ¬ (0 : Int) > ctxN t + 1 := by omega
    have d3 : ¬ ctxN t + 1 > ctxN t + 1 := by omega
    obtain ⟨b0, eb⟩ : ∃ b0, ((if decide (w = 0) = true then some (decide (h = 0)) else some false) : Option Bool) = some b0 := by
      split
      · exact ⟨_, rfl⟩
      · exact ⟨_, rfl⟩
    rw [eb]
    have e0 : IntKind.i64.wrap (ctxN t + 1 - 0) = ctxN t + 1 := by rw [w64 (by omega)]; omega
    simp only [ho, if_true, Option.bind_some, e0]
    have er : ∀ b0 : Bool, ((if (!b0) = true then (some 0 : Option Int) else some 0)) = some 0 := fun b0 => by cases b0 <;> rfl
    simp only [d1, d2, d3, decide_true, decide_false, Bool.not_true, Bool.false_eq_true, if_false, er, Option.bind_some]
    rw [e2]
    rfl
end Go.Proofs.YtkccnhkhjncpkaaGreat.P

/- Tones' code and their Data: the program against its reference; the law of tones. -/
namespace Go.Proofs.YtkccnhkhjncpkaaGreat.P
open Go Go.Proofs.YtkccnhkhjncpkaaGreat.V
set_option linter.unusedVariables false
set_option linter.unusedSimpArgs false

theorem optOk_of {a7 a8 : Int} (h7 : 0 ≤ a7 ∧ a7 ≤ 3) (h8 : a8 = 0 ∨ a8 = 1) : OptOk a7 (3 - a7 % 2) (-1) a8 := ⟨h7.1, h7.2, by omega, by omega, by omega, by omega, .inl (by omega), h8⟩
theorem plane_ok {w h n : Int} {values S : List Int} (hS : Bmp w h S) (hl : values.length = S.length) (hv : ValOk n S values) (hn : n ≤ 64) {j : Nat} (hj : j < 6) : Bmp w h (planeL values j) ∧ NoClash (planeL values j) S := by
  obtain ⟨b0, b1, b2, b3, b4, b5, b6⟩ := hS
  refine ⟨⟨b0, b1, b2, b3, b4, by unfold planeL; rw [List.length_map, hl]; exact b5, fun x hx => ?_⟩, fun i hi => ?_⟩
  · unfold planeL at hx
    rw [List.mem_map] at hx
    obtain ⟨v, hv1, rfl⟩ := hx
    obtain ⟨k, hk⟩ := List.getElem?_of_mem hv1
    have := (hv k v hk).1
    exact (bit_same (v := v) this.1 (by omega) hj).2.1
  · have hlt : i < S.length := by
      rcases Nat.lt_or_ge i S.length with q | q
      · exact q
      · unfold rd at hi
        rw [Int.toNat_natCast, List.getD_eq_getElem?_getD, List.getElem?_eq_none q] at hi
        simp at hi
    have hget : values[i]? = some values[i] := List.getElem?_eq_getElem (by omega)
    obtain ⟨v1, v2⟩ := hv i _ hget
    have v0 : values[i]'(by omega) = 0 := by
      rcases v2 with q | q
      · exact q
      · exact absurd hi q
    have hp : (planeL values j)[i]? = some (bitAt (j : Int) (values[i]'(by omega))) := by
      unfold planeL; rw [List.getElem?_map, hget]; rfl
    rw [rd_nat hp, v0]
    exact (bit_same (v := 0) (by decide) (by decide) hj).2.2 rfl
theorem toneCode_is {a1 a2 a3 a4 a5 a6 a7 a8 a10 w h : Int} {a9 : Bool} {l : List Bitmap} {values : List Int} (hg : GoodL l) (hval : values.length ≤ 300) :
    ∃ c e, tone_Encode a1 a2 a3 a4 a5 a6 a7 a8 a9 a10 l w h values = some (c, e) ∧ ref11_Encode a1 a2 a3 a4 a5 a6 a7 a8 a9 a10 l w h values = some (c, e) ∧ c.length ≤ 2000000 := by
  rw [tone_Encode_eq, ref11_Encode_eq, ref11_given_eq]
  obtain ⟨e0, g1, g2, g3⟩ := begun_is (a1 := a1) (a2 := a2) (a3 := a3) (a4 := a4) (a5 := a5) (a6 := a6) (a7 := a7) (a8 := a8) (a9 := a9) (a10 := a10) (w := w) (h := h) hg
  rw [g1, g2]
  simp only [Option.bind_some, iteND]
  by_cases he : e0 = 0
  · obtain ⟨ho, hs, f, r, rfl, hr⟩ := g3 he
    obtain ⟨S, k1, k2, hS⟩ := skipped_is (a9 := a9) (w := w) (h := h) (f := f) (r := r) ho
    obtain ⟨⟨o1, o2, o3, o4⟩, _, o7, o8, _⟩ := ho
    have m := mul64 o1 o2 o3 o4
    simp only [he, if_true, k1, k2, Option.bind_some]
    rw [tone_rightValues_eq, w64 (n := a1 * a2) (by omega)]
    simp only [iteND]
    have hSl := hS.2.2.2.2.2.1
    by_cases hq : ((values.length : Nat) : Int) = a1 * a2
    · have hlen : S.length = values.length := by omega
      rw [if_pos hq, if_pos hq]
      rcases values_is (l := f :: r) (S := S) (values := values) (by omega) hlen with ⟨hv, v1, v2⟩ | ⟨v1, v2⟩
      · have hn64 := hr.2.2.1
        have hn1 : 1 ≤ (f :: r).length := by simp
        obtain ⟨w1, w2, ⟨w3, w4⟩, w5⟩ := width_is hn1 hn64
        obtain ⟨d, hd⟩ := Int.eq_ofNat_of_zero_le w3
        rw [hd] at w1 w2 w4 w5
        have hsm : Small values := ⟨by omega, fun v hv' => by
          obtain ⟨k, hk⟩ := List.getElem?_of_mem hv'
          have := (hv k v hk).1
          omega⟩
        obtain ⟨p1, p2⟩ := planes_is hsm (d := d) (by omega) (fun v hv' => by
          obtain ⟨k, hk⟩ := List.getElem?_of_mem hv'
          have := (hv k v hk).1
          exact Int.lt_of_lt_of_le this.2 w5)
        have hopt := optOk_of o7 o8
        obtain ⟨c0, c1⟩ := ctxN_small a7
        rw [v1, v2, tone_options_eq, ref11_options_eq, (usual_is a7).1, (usual_is a7).2]
        have o7' := eq_true o7
        simp only [Option.bind_some, Sum.elim_inl, o7', if_true, Bool.not_true, Bool.false_eq_true, if_false]
        rw [genSize_is hopt, size07_is]
        simp only [hopt, if_true, Option.bind_some]
        rw [(new_is o8 (n := ctxN a7 + 1) (by omega) (by omega)).1, (new_is o8 (n := ctxN a7 + 1) (by omega) (by omega)).2]
        simp only [Option.bind_some]
        obtain ⟨n1, n2, n3⟩ := newEncoder_is o8 (st := List.replicate (ctxN a7 + 1).toNat 0) (by simp; omega) (new_states o8 _)
        rw [n1, n2, w1, w2]
        simp only [Option.bind_some, Sum.elim_inl]
        rw [p1, p2]
        simp only [Option.bind_some]
        have hf := fresh_at o8 (n := ctxN a7 + 1) (by omega) (by omega)
        have l1 := tone_Encode_loop13_over a1 a2 a1 a2 S a7 (3 - a7 % 2) (-1) false a8 (planesL values d) (by rw [planesL_len]; omega) (a8, 0, 4294967295, List.replicate (ctxN a7 + 1).toNat 0, [])
        have l2 := ref11_Encode_loop10_over a1 a2 a3 a4 a5 a6 a7 a8 a9 a10 (f :: r) w h a7 (3 - a7 % 2) (-1) false a8 (planesL values d) (by rw [planesL_len]; omega) (a8, 0, 4294967295, List.replicate (ctxN a7 + 1).toNat 0, [])
        simp only at l1 l2
        rw [l1, l2]
        have main := overL_both (f := tone_Encode_loop13_step a1 a2 a1 a2 S a7 (3 - a7 % 2) (-1) false a8) (g := ref11_Encode_loop10_step a1 a2 a3 a4 a5 a6 a7 a8 a9 a10 (f :: r) w h a7 (3 - a7 % 2) (-1) false a8)
          (fin := fun s => some (s.1, s.2.1, s.2.2.1, s.2.2.2.1, s.2.2.2.2)) (fin' := fun s => some (s.1, s.2.1, s.2.2.1, s.2.2.2.1, s.2.2.2.2))
          (fun n s t => s = t ∧ EncAt (ctxN a7 + 1).toNat (804 * 200 * n) s) (fun s t => s = t ∧ EncAt (ctxN a7 + 1).toNat (804 * 200 * 6) s) (planesL values d) 0 (a8, 0, 4294967295, List.replicate (ctxN a7 + 1).toNat 0, []) (a8, 0, 4294967295, List.replicate (ctxN a7 + 1).toNat 0, [])
          (fun n x s t hn hr' => by
            have hk := lt_len_of_get hn
            rw [planesL_len] at hk
            rw [Nat.zero_add] at hr' ⊢
            obtain ⟨rfl, hst⟩ := hr'
            obtain ⟨j, hj, rfl⟩ := planesL_mem (List.mem_of_getElem? hn)
            obtain ⟨pb, pc⟩ := plane_ok hS hlen.symm hv (by omega) (j := j) (by omega)
            obtain ⟨r', q1, q2, q3⟩ := putSkip_is (o4 := false) hopt pb hS pc (B := 804 * 200 * n) (by omega) hst
            unfold tone_Encode_loop13_step ref11_Encode_loop10_step
            simp only [k2, Option.bind_some]
            rw [q1, q2]
            exact .mk ⟨rfl, by rw [show 804 * 200 * (n + 1) = 804 * 200 * n + 804 * 200 by omega]; exact q3⟩)
          (fun s t hr' => by
            obtain ⟨rfl, hst⟩ := hr'
            rw [planesL_len] at hst
            exact .mk ⟨rfl, hst.1, hst.2.1, by have := hst.2.2; show s.2.2.2.2.length ≤ _; omega⟩) ⟨rfl, by simpa using hf⟩
        obtain ⟨s, t, m1, m2, rfl, hst⟩ := main
        rw [m1, m2]
        simp only [Option.bind_some]
        obtain ⟨c, q1, q2, q3⟩ := end_at hst (by decide)
        rw [q1, q2]
        exact ⟨c, 0, rfl, rfl, by omega⟩
      · rw [v1, v2]
        simp only [Option.bind_some, Sum.elim_inr, Bool.not_false, if_true, show ¬ ((2 : Int) = 0) by decide, if_false]
        exact ⟨_, _, rfl, rfl, by simp⟩
    · rw [if_neg hq, if_neg hq]
      simp only [Option.bind_some, Bool.not_false, if_true, show ¬ ((2 : Int) = 0) by decide, if_false]
      exact ⟨_, _, rfl, rfl, by simp⟩
  · simp only [he, if_false, Option.bind_some]
    exact ⟨_, _, rfl, rfl, by simp⟩

/-! ### Data -/
theorem sizes2 {x y : Int} {b s t : List Int} {e f : Int} (hs : ref01_Size x = some (s, e)) (hl : s.length ≤ 2147483650) (ht : ref01_Size y = some (t, f)) (hm : t.length ≤ 2147483650) (hb : b.length ≤ 50000000000) :
    page_writer_size [x, y] b = some (b ++ s ++ t) := by
  rw [page_writer_size_eq, writer_over _ (by simp)]
  simp only [overL, hs, ht, Option.bind_some]
  rw [if_pos (by omega)]
  simp only
  rw [if_pos (by simp; omega)]
  rfl
def I64 (x : Int) : Prop := -9223372036854775808 ≤ x ∧ x ≤ 9223372036854775807
theorem wsigned4 {x y z u : Int} {b s1 s2 s3 s4 : List Int} {e1 e2 e3 e4 : Int} (hx : I64 x) (hy : I64 y) (hz : I64 z) (hu : I64 u)
    (h1 : ref01_Signed x = some (s1, e1)) (l1 : s1.length ≤ 2147483650) (h2 : ref01_Signed y = some (s2, e2)) (l2 : s2.length ≤ 2147483650) (h3 : ref01_Signed z = some (s3, e3)) (l3 : s3.length ≤ 2147483650) (h4 : ref01_Signed u = some (s4, e4)) (l4 : s4.length ≤ 2147483650) (hb : b.length ≤ 50000000000) :
    page_writer_signed [x, y, z, u] b = some (b ++ s1 ++ s2 ++ s3 ++ s4) := by
  rw [page_writer_signed_eq, wsigned_over _ (by simp) (by simp; exact ⟨hx, hy, hz, hu⟩)]
  simp only [overL, h1, h2, h3, h4, Option.bind_some]
  rw [if_pos (by omega)]
  simp only
  rw [if_pos (by simp; omega)]
  simp only
  rw [if_pos (by simp; omega)]
  simp only
  rw [if_pos (by simp; omega)]
  rfl
theorem ptone_is {g1 g2 g3 g4 g5 a7 a8 a9 a10 a11 a12 a13 a14 a16 : Int} {g6 a15 : Bool} {l : List Bitmap} {values : List Int} (hg : GoodL l) (hval : values.length ≤ 300) (h9 : I64 a9) (h10 : I64 a10) (h11 : I64 a11) (h12 : I64 a12) :
    ∃ c e, page_Tone g1 g2 g3 g4 g5 g6 a7 a8 a9 a10 a11 a12 a13 a14 a15 a16 l values = some (c, e) ∧ ref13_Tone g1 g2 g3 g4 g5 g6 a7 a8 a9 a10 a11 a12 a13 a14 a15 a16 l values = some (c, e) := by
  rw [page_Tone_eq, ref13_Tone_eq, rightBegin_is, isBegin_is]
  simp only [Option.bind_some]
  generalize hv : ((if (!decide (BeginOk g1 g2 g3 g4 g5)) = true then some true else some (!decide (a16 = 0))) : Option Bool) = v
  by_cases hb : BeginOk g1 g2 g3 g4 g5
  · have hvs : v = some (!decide (a16 = 0)) := by rw [← hv]; simp [hb]
    rw [hvs]
    simp only [Option.bind_some]
    cases hd : !decide (a16 = 0) with
    | true => exact ⟨_, _, rfl, rfl⟩
    | false =>
      simp only [Bool.false_eq_true, if_false]
      rw [new_ok (sidesB_iff.2 hb.1)]
      obtain ⟨c, e, t1, t2, t3⟩ := toneCode_is (a1 := a7) (a2 := a8) (a3 := a9) (a4 := a10) (a5 := a11) (a6 := a12) (a7 := a13) (a8 := a14) (a9 := a15) (a10 := a16) (w := g1) (h := g2) hg hval
      rw [t1, t2]
      simp only [Option.bind_some, iteND, if_true]
      by_cases he : e = 0
      · obtain ⟨bl, b1, b2, b3⟩ := begin_is (hid := g6) hb
        obtain ⟨s1, f1, q1, l1, _⟩ := size_some a7
        obtain ⟨s2, f2, q2, l2, _⟩ := size_some a8
        obtain ⟨s3, f3, q3, l3⟩ := signed_some a9
        obtain ⟨s4, f4, q4, l4⟩ := signed_some a10
        obtain ⟨s5, f5, q5, l5⟩ := signed_some a11
        obtain ⟨s6, f6, q6, l6⟩ := signed_some a12
        subst he
        rw [b1, b2, flag_is, bit_is]
        simp only [if_true, Option.bind_some]
        rw [byte_all _ _ (by simp) (by omega)]
        simp only [Option.bind_some]
        rw [sizes2 q1 l1 q2 l2 (by simp; omega)]
        simp only [Option.bind_some]
        rw [wsigned4 h9 h10 h11 h12 q3 l3 q4 l4 q5 l5 q6 l6 (by simp; omega)]
        simp only [Option.bind_some]
        rw [with_ok (by simp; omega)]
        simp only [ref13_size_eq, ref13_signed_eq, q1, q2, q3, q4, q5, q6, Option.bind_some]
        rw [join_all _ (by simp) (by simp; omega)]
        have ew : IntKind.i64.wrap (8 * (if a15 = true then 1 else 0)) = if a15 = true then 8 else 0 := by split <;> rfl
        rw [ew]
        exact ⟨_, _, rfl, by simp⟩
      · simp only [he, if_false]
        exact ⟨_, _, rfl, rfl⟩
  · have hvs : v = some true := by rw [← hv]; simp [hb]
    rw [hvs]
    exact ⟨_, _, rfl, rfl⟩

/-! ### The law -/
theorem sane13 : law13_Sane = some true := law13_Sane_F_le 300 _ (by kernel_rfl)
theorem good_rows {l : List Bitmap} (h : V.Good E (.rows 0 l)) : GoodL l := by
  cases h with
  | rows hl hx =>
    refine ⟨hl, fun x hm => ?_⟩
    have := hx x hm (.ints .u8 x.pix) (List.mem_cons_of_mem _ (List.mem_cons_of_mem _ (List.mem_cons_self ..)))
    refine ⟨?_, good_u8 this⟩
    cases this with
    | ints _ hp => exact hp
theorem pageTones_true (a1 a2 a3 a4 a5 : Int) (a6 : Bool) (a7 a8 a9 : Int) (a10 : Bool) (a11 a12 a13 a14 a15 a16 a17 a18 a19 : Int) (a20 : Bool) (a21 : Int) (a22 : List Bitmap) (a23 : List Int)
    (h : GoodP E (.agg [.int .i64 a1, .int .i64 a2, .int .i64 a3, .int .i64 a4, .int .i64 a5, .bool a6, .int .i64 a7, .int .i64 a8, .int .i64 a9, .bool a10, .int .i64 a11, .int .i64 a12, .int .i64 a13, .int .i64 a14, .int .i64 a15, .int .i64 a16, .int .i64 a17, .int .i64 a18, .int .i64 a19, .bool a20, .int .i64 a21, .rows 0 a22, .ints .i64 a23])) :
    law13_PageTones a1 a2 a3 a4 a5 a6 a7 a8 a9 a10 a11 a12 a13 a14 a15 a16 a17 a18 a19 a20 a21 a22 a23 = some true := by
  obtain ⟨_, _, _, _, _, _, _, _, _, _, _, _, _, g14, g15, g16, g17, _, _, _, _, g22, g23, _⟩ := h
  have hg := good_rows g22
  rw [law13_PageTones_eq, sane13]
  obtain ⟨n, hn⟩ := many_some a22 hg.1
  rw [hn]
  have e0 : ∃ b : Bool, ((if decide (n > 1500) = true then some true else if decide (((a23.length : Nat) : Int) > 300) = true then some true else
      if decide (a12 > 0) = true then (if decide (a13 > 0) = true then (if decide (a12 ≤ 64) = true then (if decide (a13 ≤ 64) = true then (let t25 : Int := IntKind.i64.wrap (a12 * a13); some (decide (t25 > 300))) else some false) else some false) else some false) else some false) : Option Bool) = some b ∧ (b = false → a23.length ≤ 300) := by
    simp only [iteD]
    by_cases h1 : n > 1500
    · exact ⟨true, by rw [if_pos h1], fun h => by cases h⟩
    · rw [if_neg h1]
      by_cases h2 : ((a23.length : Nat) : Int) > 300
      · exact ⟨true, by rw [if_pos h2], fun h => by cases h⟩
      · rw [if_neg h2]
        have : a23.length ≤ 300 := by omega
        repeat' split
        all_goals exact ⟨_, rfl, fun _ => this⟩
  obtain ⟨b, eb, hb⟩ := e0
  simp only [Option.bind_some]
  rw [eb]
  simp only [Option.bind_some]
  cases b with
  | true => rfl
  | false =>
    obtain ⟨c1, e1, h1, h2⟩ := ppatterns_is (t := a7) (a := a8) (b := a9) (o4 := a10) (k := a11) hg
    obtain ⟨c2, e2, h3, h4⟩ := ptone_is (g1 := a1) (g2 := a2) (g3 := a3) (g4 := a4) (g5 := a5) (g6 := a6) (a7 := a12) (a8 := a13) (a9 := a14) (a10 := a15) (a11 := a16) (a12 := a17) (a13 := a18) (a14 := a19) (a15 := a20) (a16 := a21) hg (hb rfl) (good_int g14) (good_int g15) (good_int g16) (good_int g17)
    rw [h1, h2, h3, h4]
    simp only [Option.bind_some, ref01_SameBytes_eq, decide_true, Bool.not_true, Bool.false_eq_true, if_false, if_true]
end Go.Proofs.YtkccnhkhjncpkaaGreat.P
