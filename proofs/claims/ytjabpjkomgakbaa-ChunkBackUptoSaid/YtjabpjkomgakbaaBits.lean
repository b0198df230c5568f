/- Shifts and ors as sums. -/
import Derived.Test.YtjabpjkomgakbaaLib
namespace Go.Proofs.Ytjabpjkomgakbaa.V
open Go
set_option linter.unusedVariables false
set_option linter.unusedSimpArgs false

theorem ishr_div {n : Int} {k : Nat} (hk : k ≤ 64) : ishr .i64 n (k : Int) = n / (2 ^ k : Int) := by
  unfold ishr
  rw [Int.toNat_natCast, show min k IntKind.i64.bits = k from by simp [IntKind.bits]; omega]
  exact Int.fdiv_eq_ediv_of_nonneg _ (by exact_mod_cast Nat.zero_le (2 ^ k))
theorem ishl_mul {n : Int} {k : Nat} (hk : k ≤ 64) : ishl .i64 n (k : Int) = IntKind.i64.wrap (n * 2 ^ k) := by
  unfold ishl
  rw [Int.toNat_natCast, show min k IntKind.i64.bits = k from by simp [IntKind.bits]; omega]
theorem bv_nat (m : Nat) (h : m < 18446744073709551616) : (BitVec.ofInt 64 (m : Int)) = BitVec.ofNat 64 m := by
  rw [BitVec.ofInt_natCast]
theorem ior_nat (a b : Nat) (ha : a < 9223372036854775808) (hb : b < 9223372036854775808) : ior .i64 (a : Int) (b : Int) = ((a ||| b : Nat) : Int) := by
  show IntKind.i64.wrap ((BitVec.ofInt 64 (a : Int) ||| BitVec.ofInt 64 (b : Int) : BitVec 64).toNat : Int) = _
  rw [bv_nat a (by omega), bv_nat b (by omega), BitVec.toNat_or, BitVec.toNat_ofNat, BitVec.toNat_ofNat, Nat.mod_eq_of_lt (by omega), Nat.mod_eq_of_lt (by omega)]
  have : a ||| b < 2 ^ 63 := Nat.or_lt_two_pow (by omega) (by omega)
  exact w64 (by omega)
theorem iand_nat (a b : Nat) (ha : a < 9223372036854775808) (hb : b < 9223372036854775808) : iand .i64 (a : Int) (b : Int) = ((a &&& b : Nat) : Int) := by
  show IntKind.i64.wrap ((BitVec.ofInt 64 (a : Int) &&& BitVec.ofInt 64 (b : Int) : BitVec 64).toNat : Int) = _
  rw [bv_nat a (by omega), bv_nat b (by omega), BitVec.toNat_and, BitVec.toNat_ofNat, BitVec.toNat_ofNat, Nat.mod_eq_of_lt (by omega), Nat.mod_eq_of_lt (by omega)]
  have : a &&& b ≤ a := Nat.and_le_left
  exact w64 (by omega)
theorem ixor_nat (a b : Nat) (ha : a < 9223372036854775808) (hb : b < 9223372036854775808) : ixor .i64 (a : Int) (b : Int) = ((a ^^^ b : Nat) : Int) := by
  show IntKind.i64.wrap ((BitVec.ofInt 64 (a : Int) ^^^ BitVec.ofInt 64 (b : Int) : BitVec 64).toNat : Int) = _
  rw [bv_nat a (by omega), bv_nat b (by omega), BitVec.toNat_xor, BitVec.toNat_ofNat, BitVec.toNat_ofNat, Nat.mod_eq_of_lt (by omega), Nat.mod_eq_of_lt (by omega)]
  have : a ^^^ b < 2 ^ 63 := Nat.xor_lt_two_pow (by omega) (by omega)
  exact w64 (by omega)
/-- a number shifted up by a byte, and a byte below it -/
theorem ior_byte {n d : Int} (hn : 0 ≤ n) (hn2 : n < 4294967296) (hd : 0 ≤ d) (hd2 : d < 256) : ior .i64 (ishl .i64 n 8) d = 256 * n + d := by
  obtain ⟨m, rfl⟩ := Int.eq_ofNat_of_zero_le hn
  obtain ⟨e, rfl⟩ := Int.eq_ofNat_of_zero_le hd
  have h0 : m <<< 8 = m * 256 := by rw [Nat.shiftLeft_eq]
  have h1 : ishl .i64 (m : Int) 8 = ((m <<< 8 : Nat) : Int) := by
    rw [show (8 : Int) = ((8 : Nat) : Int) from rfl, ishl_mul (by omega), h0, show ((2 : Int) ^ 8) = 256 from rfl, w64 (by omega)]
    omega
  rw [h1, ior_nat _ _ (by omega) (by omega), ← Nat.shiftLeft_add_eq_or_of_lt (by omega), h0]
  omega
/-! ### Parts of lists -/
section
variable {α : Type}
theorem cutL_len (xs : List α) (i j : Nat) : (cutL xs i j).length = min j xs.length - i := by simp [cutL]
theorem cutL_append (xs : List α) {i j k : Nat} (h1 : i ≤ j) (h2 : j ≤ k) : cutL xs i j ++ cutL xs j k = cutL xs i k := by
  unfold cutL
  by_cases hj : j ≤ xs.length
  · have e1 : xs.take k = xs.take j ++ (xs.take k).drop j := by
      conv => lhs; rw [← List.take_append_drop j (xs.take k)]
      rw [List.take_take, Nat.min_eq_left h2]
    conv => rhs; rw [e1]
    rw [List.drop_append_of_le_length (by rw [List.length_take]; omega)]
  · have e1 : xs.take j = xs := List.take_of_length_le (by omega)
    have e2 : xs.take k = xs := List.take_of_length_le (by omega)
    rw [e1, e2, List.drop_eq_nil_of_le (by omega : xs.length ≤ j), List.append_nil]
theorem cutL_self (xs : List α) (i : Nat) : cutL xs i i = [] := by
  unfold cutL
  exact List.drop_eq_nil_of_le (by rw [List.length_take]; omega)
theorem cutL_all (xs : List α) : cutL xs 0 xs.length = xs := by simp [cutL]
theorem cutL_zero (xs : List α) (n : Nat) : cutL xs 0 n = xs.take n := by simp [cutL]
theorem cutL_cons {xs : List α} {i j : Nat} {x : α} (h : xs[i]? = some x) (hj : i < j) : cutL xs i j = x :: cutL xs (i + 1) j := by
  have hl := (List.getElem?_eq_some_iff.1 h).1
  have hx := (List.getElem?_eq_some_iff.1 h).2
  unfold cutL
  rw [List.drop_eq_getElem_cons (by rw [List.length_take]; omega)]
  congr 1
  rw [List.getElem_take]; exact hx
theorem cutL_mem {xs : List α} {i j : Nat} {x : α} (h : x ∈ cutL xs i j) : x ∈ xs := List.mem_of_mem_take (List.mem_of_mem_drop h)
end
theorem cutL_four {b : List Int} {i : Nat} (h : i + 4 ≤ b.length) : cutL b i (i + 4) = [rd b i, rd b ((i + 1 : Nat) : Int), rd b ((i + 2 : Nat) : Int), rd b ((i + 3 : Nat) : Int)] := by
  have g : ∀ k, k < b.length → b[k]? = some (rd b (k : Int)) := fun k hk => by
    have := rd_get (xs := b) (i := (k : Int)) (by omega) (by omega)
    simpa using this
  rw [cutL_cons (g i (by omega)) (by omega), cutL_cons (g (i + 1) (by omega)) (by omega), cutL_cons (g (i + 2) (by omega)) (by omega), cutL_cons (g (i + 3) (by omega)) (by omega), cutL_self]
end Go.Proofs.Ytjabpjkomgakbaa.V
