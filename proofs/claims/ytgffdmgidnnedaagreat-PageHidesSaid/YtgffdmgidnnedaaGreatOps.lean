/- The value reading's plain operations are the machine's. -/
import Derived.Test.YtgffdmgidnnedaaGreatOut
import Derived.Laws.Pointers
import Derived.Laws.Concat
import Derived.Laws.Strings
namespace Go.Proofs.YtgffdmgidnnedaaGreat.V
open Go
set_option linter.unusedVariables false
set_option linter.unusedSimpArgs false
/-! ### Ranges -/
theorem has_iff (k : IntKind) (n : Int) : k.has n ↔ match k with
  | .i8 => -128 ≤ n ∧ n ≤ 127
  | .i16 => -32768 ≤ n ∧ n ≤ 32767
  | .i32 => -2147483648 ≤ n ∧ n ≤ 2147483647
  | .i64 => -9223372036854775808 ≤ n ∧ n ≤ 9223372036854775807
  | .u8 => 0 ≤ n ∧ n ≤ 255
  | .u16 => 0 ≤ n ∧ n ≤ 65535
  | .u32 => 0 ≤ n ∧ n ≤ 4294967295
  | .u64 => 0 ≤ n ∧ n ≤ 18446744073709551615 := by
 cases k <;> simp [IntKind.has, IntKind.min, IntKind.max, IntKind.signed, IntKind.bits]
theorem fitsB_has {k : IntKind} {n : Int} (h : fitsB k n = true) : k.has n := by
 rw [has_iff]; cases k <;> simpa [fitsB] using h
theorem wrap_has (k : IntKind) (n : Int) : k.has (k.wrap n) := by
 rw [has_iff]
 cases k <;> simp only [IntKind.wrap, IntKind.bits, IntKind.signed, Bool.true_and, Bool.false_and, Bool.false_eq_true, if_false, Nat.reduceSub, Int.reducePow, decide_eq_true_eq, ge_iff_le]
 all_goals first | omega | (split <;> omega)
theorem tmod_has {k : IntKind} {a b : Int} (h : k.has a) : k.has (a.tmod b) := by
 have h1 : (0 ≤ a → 0 ≤ a.tmod b ∧ a.tmod b ≤ a) ∧ (a < 0 → a ≤ a.tmod b ∧ a.tmod b ≤ 0) := by
  refine ⟨fun h => ⟨Int.tmod_nonneg _ h, ?_⟩, fun h => ?_⟩
  ·have := Int.natAbs_tmod a b
   have h2 := Int.tmod_nonneg b h
   have h3 : a.natAbs % b.natAbs ≤ a.natAbs := Nat.mod_le _ _
   omega
  ·have h0 : 0 ≤ (-a).tmod b := Int.tmod_nonneg _ (by omega)
   rw [Int.neg_tmod] at h0
   have := Int.natAbs_tmod a b
   have h3 : a.natAbs % b.natAbs ≤ a.natAbs := Nat.mod_le _ _
   omega
 rw [has_iff] at h ⊢
 cases k <;> simp only at h ⊢ <;> omega
theorem fdiv_has {k : IntKind} {a : Int} (m : Nat) (h : k.has a) : k.has (a.fdiv (2 ^ m)) := by
 have hp : (0 : Int) < 2 ^ m := Int.pow_pos (by decide)
 rw [Int.fdiv_eq_ediv_of_nonneg _ (Int.le_of_lt hp)]
 have h1 : (0 ≤ a → 0 ≤ a / 2 ^ m ∧ a / 2 ^ m ≤ a) ∧ (a < 0 → a ≤ a / 2 ^ m ∧ a / 2 ^ m < 0) := by
  refine ⟨fun h => ⟨Int.ediv_nonneg h (Int.le_of_lt hp), Int.ediv_le_self _ h⟩, fun h => ⟨?_, Int.ediv_neg_of_neg_of_pos h hp⟩⟩
  have : a * 2 ^ m ≤ a := by
   have : a * 2 ^ m ≤ a * 1 := Int.mul_le_mul_of_nonpos_left (by omega) (by omega)
   omega
  exact (Int.le_ediv_iff_mul_le hp).2 this
 rw [has_iff] at h ⊢
 cases k <;> simp only at h ⊢ <;> omega
section
variable {E : Env} {P : Program} {w : World} {Fz : Nat → Prop} {R : Type} {r : R}
theorem bytesOfStr_len (s : ByteArray) : (bytesOfStr s).length = s.size := by simp [bytesOfStr]
theorem ofConst_rep {ι : Nat → Loc} {H : List (Blk E.T)} (v : Value) : PRep E w Fz ι H (ofConst v) v := by
 unfold ofConst
 split
 ·split
  ·rename_i k n h
   simp only [PRep]; exact .int (fitsB_has h)
  ·simp [PRep]
 ·simp only [PRep]; exact .bool
 ·split
  ·rename_i s h
   simp only [PRep]
   refine .str rfl ?_
   have h' := Nat.le_of_ble_eq_true h
   simp only [bytesOfStr, List.length_map, maxLen]
   omega
  ·simp [PRep]
 ·simp [PRep]
 ·simp [PRep]
 ·simp [PRep]
 ·split
  ·rename_i vs l h
   have : vs = #[] := by cases vs; simp_all
   subst this
   simp only [PRep]
   exact ⟨#[], rfl, by simp [PReps]⟩
  ·simp [PRep]
 ·simp [PRep]
/-! ### Operators -/
theorem intOp_sound {op : BinOp} {k : IntKind} {a b : Int} {K : PV E.T → Option R} (h : intOp op k a b K = some r) (ha : k.has a) (t : TypeId) (hop : op ≠ .shl ∧ op ≠ .shr) :
  ∃ p v, K p = some r ∧ (binOp op t (.int k a) (.int k b)).run P w = .ok v w ∧ FRep E w Fz p v := by
 cases op <;> simp only [intOp] at h
 case add => exact ⟨_, _, h, by simp [binOp, Op.intArith], .int (wrap_has _ _)⟩
 case sub => exact ⟨_, _, h, by simp [binOp, Op.intArith], .int (wrap_has _ _)⟩
 case mul => exact ⟨_, _, h, by simp [binOp, Op.intArith], .int (wrap_has _ _)⟩
 case quo =>
  split at h
  ·cases h
  ·rename_i hb; exact ⟨_, _, h, by simp [binOp, Op.intDiv, hb], .int (wrap_has _ _)⟩
 case rem =>
  split at h
  ·cases h
  ·rename_i hb; exact ⟨_, _, h, by simp [binOp, Op.intDiv, hb], .int (tmod_has ha)⟩
 case and => exact ⟨_, _, h, by simp [binOp, Op.intBits, iand], .int (wrap_has _ _)⟩
 case or => exact ⟨_, _, h, by simp [binOp, Op.intBits, ior], .int (wrap_has _ _)⟩
 case xor => exact ⟨_, _, h, by simp [binOp, Op.intBits, ixor], .int (wrap_has _ _)⟩
 case andNot => exact ⟨_, _, h, by simp [binOp, Op.intBits, iandn], .int (wrap_has _ _)⟩
 case shl => exact absurd rfl hop.1
 case shr => exact absurd rfl hop.2
 case eql => exact ⟨_, _, h, by simp [binOp, Op.intCmp]; rfl, .bool⟩
 case neq => exact ⟨_, _, h, by simp [binOp, Op.intCmp]; rfl, .bool⟩
 case lss => exact ⟨_, _, h, by simp [binOp, Op.intCmp], .bool⟩
 case leq => exact ⟨_, _, h, by simp [binOp, Op.intCmp], .bool⟩
 case gtr => exact ⟨_, _, h, by simp [binOp, Op.intCmp], .bool⟩
 case geq => exact ⟨_, _, h, by simp [binOp, Op.intCmp], .bool⟩
theorem shift_sound {op : BinOp} (hop : op = .shl ∨ op = .shr) {k k' : IntKind} {a b : Int} {K : PV E.T → Option R} (h : intOp op k a b K = some r) (ha : k.has a) (t : TypeId) :
  ∃ p v, K p = some r ∧ (binOp op t (.int k a) (.int k' b)).run P w = .ok v w ∧ FRep E w Fz p v := by
 rcases hop with rfl | rfl <;> simp only [intOp] at h <;> split at h
 ·cases h
 ·rename_i hb; exact ⟨_, _, h, by simp [binOp, Op.shift, hb, ishl], .int (wrap_has _ _)⟩
 ·cases h
 ·rename_i hb; exact ⟨_, _, h, by simp [binOp, Op.shift, hb, ishr], .int (fdiv_has _ ha)⟩
theorem u8_toNat_inj : ∀ {l m : List UInt8}, l.map (fun b => (b.toNat : Int)) = m.map (fun b => (b.toNat : Int)) ↔ l = m
 | [], [] => by simp
 | [], _ :: _ => by simp
 | _ :: _, [] => by simp
 | a :: l, b :: m => by
  simp only [List.map_cons, List.cons.injEq]
  rw [u8_toNat_inj]
  constructor
  ·rintro ⟨h, rfl⟩
   exact ⟨UInt8.toNat_inj.1 (by omega), rfl⟩
  ·rintro ⟨rfl, rfl⟩; exact ⟨rfl, rfl⟩
theorem bytesOfStr_inj {a b : ByteArray} : bytesOfStr a = bytesOfStr b ↔ a.toList = b.toList := by
 rw [ByteArray.toList_eq, ByteArray.toList_eq]; exact u8_toNat_inj
theorem bytesOfStr_beq (a b : ByteArray) : (a.toList == b.toList) = decide (bytesOfStr a = bytesOfStr b) := by
 rw [Bool.eq_iff_iff]; simp only [beq_iff_eq, decide_eq_true_eq, bytesOfStr_inj]
theorem strLt_eq : ∀ (a b : List UInt8), Op.bytesLess a b = strLt (a.map (fun b => (b.toNat : Int))) (b.map (fun b => (b.toNat : Int)))
 | [], [] => rfl
 | _ :: _, [] => rfl
 | [], _ :: _ => rfl
 | a :: x, b :: y => by
  have h1 : decide (a < b) = decide ((a.toNat : Int) < b.toNat) := by
   rw [Bool.eq_iff_iff]; simp only [decide_eq_true_eq, UInt8.lt_iff_toNat_lt]; omega
  have h2 : (a == b) = decide ((a.toNat : Int) = b.toNat) := by
   rw [Bool.eq_iff_iff]; simp only [beq_iff_eq, decide_eq_true_eq]
   exact ⟨fun h => by rw [h], fun h => UInt8.toNat_inj.1 (by omega)⟩
  simp only [Op.bytesLess, List.map_cons, strLt, strLt_eq x y, h1, h2]
theorem strLt_str (a b : ByteArray) : Op.bytesLess a.toList b.toList = strLt (bytesOfStr a) (bytesOfStr b) := by
 rw [ByteArray.toList_eq, ByteArray.toList_eq]; exact strLt_eq _ _
theorem bytesOfStr_append (a b : ByteArray) : bytesOfStr (a ++ b) = bytesOfStr a ++ bytesOfStr b := by
 simp [bytesOfStr, ByteArray.data_append]
theorem strOp_sound {op : BinOp} {a b : ByteArray} {K : PV E.T → Option R} (h : strOp op (bytesOfStr a) (bytesOfStr b) K = some r) (t : TypeId) :
  ∃ p v, K p = some r ∧ (binOp op t (.string a) (.string b)).run P w = .ok v w ∧ FRep E w Fz p v := by
 cases op <;> simp only [strOp] at h
 case add =>
  split at h
  ·rename_i hl
   rw [bytesOfStr_len, bytesOfStr_len] at hl
   refine ⟨_, _, h, by simpa [binOp] using run_string_add_sum w a b hl, ?_⟩
   exact .str (bytesOfStr_append a b) (by simp only [List.length_append, bytesOfStr_len, maxLen]; omega)
  ·cases h
 case eql => exact ⟨_, _, h, by simp only [binOp, Op.stringOp, Sem.run_pure, bytesOfStr_beq], .bool⟩
 case neq => exact ⟨_, _, h, by simp only [binOp, Op.stringOp, Sem.run_pure, bytesOfStr_beq], .bool⟩
 case lss => exact ⟨_, _, h, by simp only [binOp, Op.stringOp, Sem.run_pure, strLt_str], .bool⟩
 case leq => exact ⟨_, _, h, by simp only [binOp, Op.stringOp, Sem.run_pure, strLt_str, bytesOfStr_beq], .bool⟩
 case gtr => exact ⟨_, _, h, by simp only [binOp, Op.stringOp, Sem.run_pure, strLt_str, bytesOfStr_beq], .bool⟩
 case geq => exact ⟨_, _, h, by simp only [binOp, Op.stringOp, Sem.run_pure, strLt_str], .bool⟩
 all_goals cases h
theorem equalIn_bool (d : Nat) (t : TypeId) (ht : P.underlying t = some .bool) (a b : Bool) : (Op.equalIn (d + 1) t (.bool a) (.bool b)).run P w = .ok (a == b) w := by
 simp [Op.equalIn, run_underlying ht]
theorem equalIn_ptr_nil (d : Nat) (t e : TypeId) (ht : P.underlying t = some (.pointer e)) (a : Option Addr) : (Op.equalIn (d + 1) t (.pointer a) (.pointer none)).run P w = .ok a.isNone w := by
 cases a <;> simp [Op.equalIn, run_underlying ht]
theorem equalIn_nil_ptr (d : Nat) (t e : TypeId) (ht : P.underlying t = some (.pointer e)) (a : Option Addr) : (Op.equalIn (d + 1) t (.pointer none) (.pointer a)).run P w = .ok a.isNone w := by
 simp [Op.equalIn, run_underlying ht]
theorem equal_bool (t : TypeId) (ht : P.underlying t = some .bool) (a b : Bool) : (Op.equal t (.bool a) (.bool b)).run P w = .ok (a == b) w := equalIn_bool 9999 t ht a b
theorem equal_ptr_nil (t e : TypeId) (ht : P.underlying t = some (.pointer e)) (a : Option Addr) : (Op.equal t (.pointer a) (.pointer none)).run P w = .ok a.isNone w := equalIn_ptr_nil 9999 t e ht a
theorem equal_nil_ptr (t e : TypeId) (ht : P.underlying t = some (.pointer e)) (a : Option Addr) : (Op.equal t (.pointer none) (.pointer a)).run P w = .ok a.isNone w := equalIn_nil_ptr 9999 t e ht a
theorem eqOp_sound {op : BinOp} {b : Bool} {K : PV E.T → Option R} (h : eqOp op b K = some r) (t : TypeId) {x y : Value} (he : (Op.equal t x y).run P w = .ok b w)
  (h1 : binOp .eql t x y = (do pure (.bool (← Op.equal t x y)))) (h2 : binOp .neq t x y = (do pure (.bool (!(← Op.equal t x y))))) :
  ∃ p v, K p = some r ∧ (binOp op t x y).run P w = .ok v w ∧ FRep E w Fz p v := by
 cases op <;> simp only [eqOp] at h
 case eql => exact ⟨_, _, h, by rw [h1]; simp [he], .bool⟩
 case neq => exact ⟨_, _, h, by rw [h2]; simp [he], .bool⟩
 all_goals cases h
theorem eqGuard_plain (op : BinOp) (t : TypeId) (x y : Operand) {a b : Value} (h : ∀ cs ds, ¬ (a = .agg cs ∧ b = .agg ds)) (h' : ¬ (a = .nilIface ∧ b = .nilIface)) : (eqGuard op t x y a b).run P w = .ok () w := by
 unfold eqGuard
 split
 case h_3 => rfl
 all_goals
  simp only [Bool.not_true, Bool.false_eq_true, if_false]
  split
  ·exact absurd ⟨rfl, rfl⟩ h'
  ·exact absurd ⟨rfl, rfl⟩ (h _ _)
  ·rfl
theorem equalIn_slice_nil (d : Nat) (t e : TypeId) (ht : P.underlying t = some (.slice e)) (a : Option Addr) (l c : Nat) : (Op.equalIn (d + 1) t (.slice a l c) (.slice none 0 0)).run P w = .ok a.isNone w := by
 cases a <;> simp [Op.equalIn, run_underlying ht]
theorem equal_slice_nil (t e : TypeId) (ht : P.underlying t = some (.slice e)) (a : Option Addr) (l c : Nat) : (Op.equal t (.slice a l c) (.slice none 0 0)).run P w = .ok a.isNone w := equalIn_slice_nil 9999 t e ht a l c
theorem nilEq_sound {ι : Nat → Loc} {H : List (Blk E.T)} {op : BinOp} {n : Nat} {K : PV E.T → Option R} (h : nilEq op n K = some r) (t e : TypeId) (ht : P.underlying t = some (.slice e)) {a : Option Addr} {l c : Nat} (ha : n ≠ 0 → a.isNone = false) :
  ∃ p v, K p = some r ∧ (binOp op t (.slice a l c) (.slice none 0 0)).run P w = .ok v w ∧ PRep E w Fz ι H p v := by
 have he := equal_slice_nil (P := P) (w := w) t e ht a l c
 have h1 : binOp .eql t (.slice a l c) (.slice none 0 0) = (do pure (.bool (← Op.equal t (.slice a l c) (.slice none 0 0)))) := rfl
 have h2 : binOp .neq t (.slice a l c) (.slice none 0 0) = (do pure (.bool (!(← Op.equal t (.slice a l c) (.slice none 0 0))))) := rfl
 cases op <;> simp only [nilEq] at h
 case eql =>
  split at h
  ·exact ⟨_, _, h, by rw [h1]; simp [he]; rfl, by simp only [PRep]; exact ⟨_, rfl⟩⟩
  ·rename_i hn; exact ⟨_, _, h, by rw [h1]; simp [he, ha hn]; rfl, by simp only [PRep]; exact .bool⟩
 case neq =>
  split at h
  ·exact ⟨_, _, h, by rw [h2]; simp [he]; rfl, by simp only [PRep]; exact ⟨_, rfl⟩⟩
  ·rename_i hn; exact ⟨_, _, h, by rw [h2]; simp [he, ha hn]; rfl, by simp only [PRep]; exact .bool⟩
 all_goals cases h
theorem FRep.toPR {ι : Nat → Loc} {H : List (Blk E.T)} {p : PV E.T} {v : Value} (h : FRep E w Fz p v) : PRep E w Fz ι H p v := by
 cases h
 case int h => simp only [PRep]; exact .int h
 case bool => simp only [PRep]; exact .bool
 case str h hl => simp only [PRep]; exact .str h hl
 case ints h1 h2 h0 h3 => simp only [PRep]; exact .ints h1 h2 h0 h3
 case rows cv h1 h0 h2 h3 => simp only [PRep]; exact .rows cv h1 h0 h2 h3
theorem binOpV_sound {ι : Nat → Loc} {H : List (Blk E.T)} {op : BinOp} {p q : PV E.T} {K : PV E.T → Option R} {t : TypeId} (h : binOpV (P.underlying t) op p q K = some r) {x y : Value}
  (hp : PRep E w Fz ι H p x) (hq : PRep E w Fz ι H q y) (ox oy : Operand) :
  ∃ s v, K s = some r ∧ (do eqGuard op t ox oy x y; binOp op t x y).run P w = .ok v w ∧ PRep E w Fz ι H s v := by
 unfold binOpV at h
 split at h
 ·rename_i k a k' b
  simp only [PRep] at hp hq
  cases hp with | int ha => cases hq with | int hb =>
  have hg : ∀ o : BinOp, (eqGuard o t ox oy (.int k a) (.int k' b)).run P w = .ok () w := fun o => eqGuard_plain o t ox oy (by simp) (by simp)
  split at h
  ·obtain ⟨s, v, h1, h2, h3⟩ := shift_sound (w := w) (P := P) (Fz := Fz) (k' := k') (.inl rfl) h ha t
   exact ⟨s, v, h1, by simp [hg, h2], h3.toPR⟩
  ·obtain ⟨s, v, h1, h2, h3⟩ := shift_sound (w := w) (P := P) (Fz := Fz) (k' := k') (.inr rfl) h ha t
   exact ⟨s, v, h1, by simp [hg, h2], h3.toPR⟩
  ·rename_i n1 n2
   split at h
   ·rename_i hk
    have hk' := of_decide_eq_true hk
    subst hk'
    obtain ⟨s, v, h1, h2, h3⟩ := intOp_sound (w := w) (P := P) (Fz := Fz) h ha t ⟨n1, n2⟩
    exact ⟨s, v, h1, by simp [hg, h2], h3.toPR⟩
   ·cases h
 ·simp only [PRep] at hp hq
  cases hp with | str e1 l1 => cases hq with | str e2 l2 =>
  subst e1; subst e2
  obtain ⟨s, v, h1, h2, h3⟩ := strOp_sound (w := w) (P := P) (Fz := Fz) h t
  exact ⟨s, v, h1, by simp [eqGuard_plain, h2], h3.toPR⟩
 ·simp only [PRep] at hp hq
  cases hp; cases hq
  rename_i a b
  split at h
  ·rename_i ht
   obtain ⟨s, v, h1, h2, h3⟩ := eqOp_sound (w := w) (P := P) (Fz := Fz) (x := .bool a) (y := .bool b) h t (by rw [equal_bool t ht]; congr 1) rfl rfl
   exact ⟨s, v, h1, by simp [eqGuard_plain, h2], h3.toPR⟩
  ·cases h
 ·simp only [PRep] at hp hq
  subst hp; subst hq
  split at h
  ·rename_i e ht
   obtain ⟨s, v, h1, h2, h3⟩ := eqOp_sound (w := w) (P := P) (Fz := Fz) (x := .pointer none) (y := .pointer none) h t (by rw [equal_ptr_nil t e ht]; rfl) rfl rfl
   exact ⟨s, v, h1, by simp [eqGuard_plain, h2], h3.toPR⟩
  ·cases h
 ·rename_i id off
  simp only [PRep] at hp hq
  obtain ⟨b, _, _, B, o, _, rfl⟩ := hp; subst hq
  split at h
  ·rename_i e ht
   obtain ⟨s, v, h1, h2, h3⟩ := eqOp_sound (w := w) (P := P) (Fz := Fz) (x := .pointer (some ⟨B, o + off, none⟩)) (y := .pointer none) h t (by rw [equal_ptr_nil t e ht]; rfl) rfl rfl
   exact ⟨s, v, h1, by simp [eqGuard_plain, h2], h3.toPR⟩
  ·cases h
 ·rename_i id off
  simp only [PRep] at hp hq
  obtain ⟨b, _, _, B, o, _, rfl⟩ := hq; subst hp
  split at h
  ·rename_i e ht
   obtain ⟨s, v, h1, h2, h3⟩ := eqOp_sound (w := w) (P := P) (Fz := Fz) (x := .pointer none) (y := .pointer (some ⟨B, o + off, none⟩)) h t (by rw [equal_nil_ptr t e ht]; rfl) rfl rfl
   exact ⟨s, v, h1, by simp [eqGuard_plain, h2], h3.toPR⟩
  ·cases h
 ·simp only [PRep] at hp hq
  subst hp; subst hq
  split at h
  ·rename_i e ht
   obtain ⟨s, v, h1, h2, h3⟩ := eqOp_sound (w := w) (P := P) (Fz := Fz) (x := .slice none 0 0) (y := .slice none 0 0) h t (by rw [equal_slice_nil t e ht]; rfl) rfl rfl
   exact ⟨s, v, h1, by simp [eqGuard_plain, h2], h3.toPR⟩
  ·cases h
 ·simp only [PRep] at hp hq
  subst hq
  cases hp with
  | ints g1 g2 g3 g4 =>
  rename_i a cap
  split at h
  ·rename_i e ht
   obtain ⟨s, v, h1, h2, h3⟩ := nilEq_sound (w := w) (P := P) (Fz := Fz) (ι := ι) (H := H) (a := a) (l := _) (c := cap) h t e ht (fun hn => by
    obtain ⟨B, o, rfl, _⟩ := g4 (fun e => hn (by rw [e]; rfl)); rfl)
   exact ⟨s, v, h1, by simp [eqGuard_plain]; exact h2, h3⟩
  ·cases h
 ·simp only [PRep] at hp hq
  subst hq
  cases hp with
  | rows cv g1 g2 g3 g4 =>
  rename_i a cap
  split at h
  ·rename_i e ht
   obtain ⟨s, v, h1, h2, h3⟩ := nilEq_sound (w := w) (P := P) (Fz := Fz) (ι := ι) (H := H) (a := a) (l := _) (c := cap) h t e ht (fun hn => by
    obtain ⟨B, o, rfl, _⟩ := g3 (fun e => hn (by rw [e]; rfl)); rfl)
   exact ⟨s, v, h1, by simp [eqGuard_plain]; exact h2, h3⟩
  ·cases h
 ·cases h
theorem unOpV_sound {ι : Nat → Loc} {H : List (Blk E.T)} {op : UnOp} {p : PV E.T} {K : PV E.T → Option R} (h : unOpV op p K = some r) {x : Value} (hp : PRep E w Fz ι H p x) :
  ∃ s v, K s = some r ∧ (Op.unary op x).run P w = .ok v w ∧ FRep E w Fz s v := by
 unfold unOpV at h
 split at h
 ·simp only [PRep] at hp
  cases hp with | int ha =>
  exact ⟨_, _, h, by simp [Op.unary, Op.intArith], .int (wrap_has _ _)⟩
 ·simp only [PRep] at hp
  cases hp with | int ha =>
  exact ⟨_, _, h, by simp [Op.unary, Op.intBits, ixor], .int (wrap_has _ _)⟩
 ·simp only [PRep] at hp
  cases hp
  exact ⟨_, _, h, by simp [Op.unary], .bool⟩
 ·cases h
end
end Go.Proofs.YtgffdmgidnnedaaGreat.V
