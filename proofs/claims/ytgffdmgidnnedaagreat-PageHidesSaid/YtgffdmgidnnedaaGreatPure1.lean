/- Texts PureCd, PureCd2, PureB1, PureRg, PureRg2, PureDrawAny, PureOrd, one behind the other. -/
import Derived.Test.YtgffdmgidnnedaaGreatQs
import Derived.Test.YtgffdmgidnnedaaGreatLib
set_option linter.unusedVariables false
set_option linter.unusedSimpArgs false
set_option maxRecDepth 10000
namespace Go.Proofs.YtgffdmgidnnedaaGreat.P
open Go Go.Proofs.YtgffdmgidnnedaaGreat.V
/-- q(k) for each k -/
def QL : List Int := [2048, 1792, 1568, 1372, 1201, 1051, 920, 805, 705, 617, 540, 473, 414, 363, 318, 279, 245, 215, 189, 166, 146, 128, 112, 98, 86, 76, 67, 59, 52, 46, 41, 36]
theorem QL_range : ∀ i : Fin 32, 36 ≤ rd QL ((i : Nat) : Int) ∧ rd QL ((i : Nat) : Int) ≤ 2048 := by decide +kernel
/-- a model's state -/
def StateOk (kind s : Int) : Prop := (kind = 0 ∧ 0 ≤ s ∧ s < 64) ∨ (kind = 1 ∧ 0 ≤ s ∧ s < 65536)
/-- how likely a 1 is, in a state -/
theorem chance_some {kind s : Int} (h : StateOk kind s) : ∃ p, coder_table_chance kind s = some p ∧ 0 ≤ p ∧ p < 4096 := by
 rw [coder_table_chance_eq]
 rcases h with ⟨rfl, h0, h1⟩ | ⟨rfl, h0, h1⟩
 ·simp only [show ¬ ((0 : Int) = 1) by decide, decide_true, decide_false, Bool.false_eq_true, if_true, if_false]
  by_cases h2 : s ≥ 32
  ·have hr := QL_range ⟨(s - 32).toNat, by omega⟩
   simp only [show (((s - 32).toNat : Nat) : Int) = s - 32 by omega] at hr
   have e : IntKind.i64.wrap (s - 32) = s - 32 := w64 (by omega)
   simp only [h2, decide_true, if_true, e]
   rw [if_pos (by omega)]
   refine ⟨_, rfl, ?_⟩
   have hr' : 36 ≤ rd [2048, 1792, 1568, 1372, 1201, 1051, 920, 805, 705, 617, 540, 473, 414, 363, 318, 279, 245, 215, 189, 166, 146, 128, 112, 98, 86, 76, 67, 59, 52, 46, 41, 36] (s - 32) ∧ rd [2048, 1792, 1568, 1372, 1201, 1051, 920, 805, 705, 617, 540, 473, 414, 363, 318, 279, 245, 215, 189, 166, 146, 128, 112, 98, 86, 76, 67, 59, 52, 46, 41, 36] (s - 32) ≤ 2048 := hr
   rw [w64 (by omega)]
   omega
  ·have hr := QL_range ⟨s.toNat, by omega⟩
   simp only [show ((s.toNat : Nat) : Int) = s by omega] at hr
   simp only [h2, decide_false, Bool.false_eq_true, if_false]
   rw [if_pos (by omega)]
   refine ⟨_, rfl, ?_⟩
   have hr' : 36 ≤ rd [2048, 1792, 1568, 1372, 1201, 1051, 920, 805, 705, 617, 540, 473, 414, 363, 318, 279, 245, 215, 189, 166, 146, 128, 112, 98, 86, 76, 67, 59, 52, 46, 41, 36] s ∧ rd [2048, 1792, 1568, 1372, 1201, 1051, 920, 805, 705, 617, 540, 473, 414, 363, 318, 279, 245, 215, 189, 166, 146, 128, 112, 98, 86, 76, 67, 59, 52, 46, 41, 36] s ≤ 2048 := hr
   omega
 ·simp only [tmod_pos h0, tdiv_pos h0, decide_true, if_true]
  have e1 : IntKind.i64.wrap (s / 256) = s / 256 := w64 (by omega)
  have e2 : IntKind.i64.wrap (2 * (s % 256)) = 2 * (s % 256) := w64 (by omega)
  have e3 : IntKind.i64.wrap (2 * (s / 256)) = 2 * (s / 256) := w64 (by omega)
  rw [e1, e2, e3, w64 (n := 2 * (s / 256) + 2 * (s % 256)) (by omega), w64 (n := 2 * (s / 256) + 2 * (s % 256) + 2) (by omega), if_neg (by omega)]
  refine ⟨_, rfl, ?_, ?_⟩ <;> rw [imin_eq, imax_eq] <;> omega
theorem next_some {kind s bit : Int} (h : StateOk kind s) (hb : bit = 0 ∨ bit = 1) : ∃ s', coder_next kind s bit = some s' ∧ StateOk kind s' := by
 rw [coder_next_eq]
 rcases h with ⟨rfl, h0, h1⟩ | ⟨rfl, h0, h1⟩
 ·simp only [tmod_pos h0, tdiv_pos h0, show ¬ ((0 : Int) = 1) by decide, decide_false, Bool.false_eq_true, if_false]
  rw [tdiv_pos (show 0 ≤ s % 32 by omega)]
  have e1 : IntKind.i64.wrap (s / 32) = s / 32 := w64 (by omega)
  simp only [e1]
  by_cases h2 : bit = s / 32
  ·simp only [h2, decide_true, if_true]
   refine ⟨_, rfl, .inl ⟨rfl, ?_⟩⟩
   rw [w64 (n := 32 * (s / 32)) (by omega), w64 (n := s % 32 + 1) (by omega), imin_eq, w64 (by omega)]
   omega
  ·simp only [h2, decide_false, Bool.false_eq_true, if_false]
   by_cases h3 : s % 32 = 0
   ·simp only [h3, decide_true, if_true]
    exact ⟨_, rfl, .inl ⟨rfl, by rw [w64 (n := 32 * bit) (by omega), w64 (by omega)]; omega⟩⟩
   ·simp only [h3, decide_false, Bool.false_eq_true, if_false]
    refine ⟨_, rfl, .inl ⟨rfl, ?_⟩⟩
    rw [w64 (n := s % 32 / 4) (by omega), w64 (n := 1 + s % 32 / 4) (by omega), w64 (n := s % 32 - (1 + s % 32 / 4)) (by omega), w64 (n := 32 * (s / 32)) (by omega), w64 (by omega)]
    omega
 ·simp only [tmod_pos h0, tdiv_pos h0, decide_true, if_true]
  have e1 : IntKind.i64.wrap (s / 256) = s / 256 := w64 (by omega)
  have e2 : IntKind.i64.wrap ((s / 256).tdiv 2) = s / 256 / 2 := by rw [tdiv_pos (by omega), w64 (by omega)]
  have e3 : IntKind.i64.wrap ((s % 256).tdiv 2) = s % 256 / 2 := by rw [tdiv_pos (by omega), w64 (by omega)]
  have c0 : 0 ≤ (0 : Int) ∧ (0 : Int) < ((2 : Nat) : Int) := by decide
  have c1 : 0 ≤ (1 : Int) ∧ (1 : Int) < ((2 : Nat) : Int) := by decide
  have r0 : ∀ a b : Int, rd [a, b] 0 = a := fun a b => rfl
  have r1 : ∀ a b : Int, rd [a, b] 1 = b := fun a b => rfl
  rcases hb with rfl | rfl
  ·simp only [c0, c1, and_self, if_true, e1, e2, e3, r0]
   by_cases h2 : s / 256 = 255
   ·simp only [h2, decide_true, if_true, Option.bind_some, r0]
    refine ⟨_, rfl, .inr ⟨rfl, ?_⟩⟩
    simp only [show ¬ ((0 : Int) = 1) by decide, if_false, w64s]
    omega
   ·simp only [h2, decide_false, Bool.false_eq_true, if_false, Option.bind_some, r0]
    refine ⟨_, rfl, .inr ⟨rfl, ?_⟩⟩
    simp only [show ¬ ((0 : Int) = 1) by decide, if_false, if_true, w64s]
    omega
  ·simp only [c0, c1, and_self, if_true, e1, e2, e3, r1]
   by_cases h2 : s % 256 = 255
   ·simp only [h2, decide_true, if_true, Option.bind_some, r1]
    refine ⟨_, rfl, .inr ⟨rfl, ?_⟩⟩
    simp only [show ¬ ((1 : Int) = 0) by decide, if_false, if_true, w64s]
    omega
   ·simp only [h2, decide_false, Bool.false_eq_true, if_false, Option.bind_some, r1]
    refine ⟨_, rfl, .inr ⟨rfl, ?_⟩⟩
    simp only [show ¬ ((1 : Int) = 0) by decide, if_false, if_true, w64s]
    omega
/-! ### The interval: two numbers of 32 bits -/
theorem ushr24 (n : Int) : ishr .u64 n 24 = n / 16777216 := by
 unfold ishr
 rw [show (2 : Int) ^ (min (24 : Int).toNat IntKind.u64.bits) = 16777216 by decide, Int.fdiv_eq_ediv_of_nonneg _ (by decide)]
theorem ushl8 {n : Int} (h0 : 0 ≤ n) (h1 : n < 4294967296) : ishl .u64 n 8 = n * 256 := by
 unfold ishl
 rw [show (2 : Int) ^ (min (8 : Int).toNat IntKind.u64.bits) = 256 by decide, wu64]
 omega
theorem ubv (m : Nat) : BitVec.ofInt 64 (m : Int) = BitVec.ofNat 64 m := by simp
theorem uand32 {n : Int} (h0 : 0 ≤ n) (h1 : n < 18446744073709551616) : iand .u64 n 4294967295 = n % 4294967296 := by
 obtain ⟨m, rfl⟩ := Int.eq_ofNat_of_zero_le h0
 unfold iand
 rw [show IntKind.u64.bits = 64 from rfl, show (4294967295 : Int) = ((4294967295 : Nat) : Int) from rfl, ubv, ubv, BitVec.toNat_and, BitVec.toNat_ofNat, BitVec.toNat_ofNat, wu64]
 rw [Nat.mod_eq_of_lt (show m < 2 ^ 64 by omega), show (4294967295 : Nat) % 2 ^ 64 = 2 ^ 32 - 1 by decide, Nat.and_two_pow_sub_one_eq_mod]
 omega
theorem uor255 {n : Int} (h0 : 0 ≤ n) (h1 : n < 18446744073709551616) (h : n % 256 = 0) : ior .u64 n 255 = n + 255 := by
 obtain ⟨m, rfl⟩ := Int.eq_ofNat_of_zero_le h0
 unfold ior
 rw [show IntKind.u64.bits = 64 from rfl, show (255 : Int) = ((255 : Nat) : Int) from rfl, ubv, ubv, BitVec.toNat_or, BitVec.toNat_ofNat, BitVec.toNat_ofNat, wu64]
 rw [Nat.mod_eq_of_lt (show m < 2 ^ 64 by omega), show (255 : Nat) % 2 ^ 64 = 255 by decide]
 obtain ⟨k, hk⟩ : ∃ k, m = 2 ^ 8 * k := ⟨m / 256, by omega⟩
 subst hk
 rw [← Nat.two_pow_add_eq_or_of_lt (show 255 < 2 ^ 8 by decide)]
 omega
/-- low and high -/
def Iv (lo hi : Int) : Prop := 0 ≤ lo ∧ lo ≤ hi ∧ hi < 4294967296
theorem lose_is {kind lo hi : Int} {st out : List Int} (h : Iv lo hi) : coder_interval_lose kind lo hi st out = some (lo / 16777216, kind, lo % 16777216 * 256, hi % 16777216 * 256 + 255, st, out) := by
 obtain ⟨h0, h1, h2⟩ := h
 rw [coder_interval_lose_eq]
 try simp only
 rw [ushr24, ushl8 h0 (by omega), ushl8 (by omega) h2, uand32 (by omega) (by omega), uand32 (by omega) (by omega), uor255 (by omega) (by omega) (by omega), w8]
 congr 2
 ·omega
 ·congr 1
  congr 1
  ·omega
  ·congr 1
   omega
/-- where a chance cuts an interval -/
def midV (lo hi p : Int) : Int := lo + (hi - lo) / 4096 * p + (hi - lo) % 4096 * p / 4096
theorem midV_ge {lo hi p : Int} (h : lo ≤ hi) (hp : 0 ≤ p) : lo ≤ midV lo hi p := by
 unfold midV
 have h1 : 0 ≤ (hi - lo) / 4096 * p := Int.mul_nonneg (by omega) hp
 have h2 : 0 ≤ (hi - lo) % 4096 * p := Int.mul_nonneg (by omega) hp
 omega
theorem midV_lt {lo hi p : Int} (h : lo < hi) (hp : 0 ≤ p) (hp2 : p < 4096) : midV lo hi p < hi := by
 unfold midV
 have h1 : (hi - lo) / 4096 * p ≤ (hi - lo) / 4096 * 4095 := Int.mul_le_mul_of_nonneg_left (by omega) (by omega)
 have h2 : (hi - lo) % 4096 * p ≤ (hi - lo) % 4096 * 4095 := Int.mul_le_mul_of_nonneg_left (by omega) (by omega)
 omega
noncomputable def chV (kind s : Int) : Int := (coder_table_chance kind s).getD 0
noncomputable def nxV (kind s bit : Int) : Int := (coder_next kind s bit).getD 0
theorem chV_is {kind s : Int} (h : StateOk kind s) : coder_table_chance kind s = some (chV kind s) ∧ 0 ≤ chV kind s ∧ chV kind s < 4096 := by
 obtain ⟨p, e, h⟩ := chance_some h
 unfold chV
 rw [e]
 exact ⟨rfl, h⟩
theorem nxV_is {kind s bit : Int} (h : StateOk kind s) (hb : bit = 0 ∨ bit = 1) : coder_next kind s bit = some (nxV kind s bit) ∧ StateOk kind (nxV kind s bit) := by
 obtain ⟨p, e, h⟩ := next_some h hb
 unfold nxV
 rw [e]
 exact ⟨rfl, h⟩
/-! ### Bytes that are known leave -/
def flush : Nat → Int → Int → List Int → Int × Int × List Int
 | 0, lo, hi, out => (lo, hi, out)
 | n + 1, lo, hi, out => if lo / 16777216 = hi / 16777216 then flush n (lo % 16777216 * 256) (hi % 16777216 * 256 + 255) (out ++ [hi / 16777216]) else (lo, hi, out)
def gapOf : Nat → Int
 | 0 => 4294967295
 | 1 => 16777215
 | 2 => 65535
 | 3 => 255
 | _ => 0
theorem gap_step {n : Nat} {d : Int} (h : gapOf (n + 1) ≤ d) (h0 : 0 ≤ d) : gapOf n ≤ 256 * d + 255 := by
 match n with
 | 0 => simp only [gapOf] at h ⊢; omega
 | 1 => simp only [gapOf] at h ⊢; omega
 | 2 => simp only [gapOf] at h ⊢; omega
 | 3 => simp only [gapOf] at h ⊢; omega
 | n + 4 => simp only [gapOf]; omega
theorem Iv.shift {lo hi : Int} (h : Iv lo hi) (e : lo / 16777216 = hi / 16777216) : Iv (lo % 16777216 * 256) (hi % 16777216 * 256 + 255) ∧ hi % 16777216 * 256 + 255 - lo % 16777216 * 256 = 256 * (hi - lo) + 255 := by
 obtain ⟨h0, h1, h2⟩ := h
 exact ⟨⟨by omega, by omega, by omega⟩, by omega⟩
theorem flush_is : ∀ (n : Nat) (lo hi : Int) (out : List Int), Iv lo hi → gapOf n ≤ hi - lo → Iv (flush n lo hi out).1 (flush n lo hi out).2.1 ∧ (flush n lo hi out).1 / 16777216 ≠ (flush n lo hi out).2.1 / 16777216 ∧ (flush n lo hi out).2.2.length ≤ out.length + n ∧ out.length ≤ (flush n lo hi out).2.2.length
 | 0, lo, hi, out, h, hg => by
  simp only [gapOf] at hg
  refine ⟨h, ?_, Nat.le_refl _, Nat.le_refl _⟩
  show lo / 16777216 ≠ hi / 16777216
  obtain ⟨h0, h1, h2⟩ := h
  omega
 | n + 1, lo, hi, out, h, hg => by
  by_cases e : lo / 16777216 = hi / 16777216
  ·obtain ⟨h1, h2⟩ := h.shift e
   have := flush_is n _ _ (out ++ [hi / 16777216]) h1 (by rw [h2]; exact gap_step hg (by have := h.2.1; omega))
   simp only [flush, e, if_true]
   simp only [List.length_append, List.length_singleton] at this
   exact ⟨this.1, this.2.1, by omega, by omega⟩
  ·simp only [flush, e, if_false]
   exact ⟨h, e, by omega, Nat.le_refl _⟩
/-- what an encoder is, between two calls -/
structure EncOk (kind lo hi : Int) (st : List Int) : Prop where
 two : kind = 0 ∨ kind = 1
 iv : Iv lo hi
 open_ : lo / 16777216 ≠ hi / 16777216
 states : ∀ s ∈ st, StateOk kind s
/-! ### A bit that is put -/
abbrev EncS := Int × Int × Int × List Int × List Int
noncomputable def cutV (e : EncS) (c : Int) : Int := midV e.2.1 e.2.2.1 (chV e.1 (rd e.2.2.2.1 c))
noncomputable def subV (e : EncS) (c b : Int) : Int × Int := if b = 1 then (e.2.1, cutV e c) else (cutV e c + 1, e.2.2.1)
noncomputable def encStep (e : EncS) (v : Int × Int) : EncS :=
 let f := flush 4 (subV e v.1 v.2).1 (subV e v.1 v.2).2 e.2.2.2.2
 (e.1, f.1, f.2.1, e.2.2.2.1.set v.1.toNat (nxV e.1 (rd e.2.2.2.1 v.1) v.2), f.2.2)
def EncO (e : EncS) : Prop := EncOk e.1 e.2.1 e.2.2.1 e.2.2.2.1
/-- an event that may be put -/
def EvOk (n : Nat) (v : Int × Int) : Prop := (0 ≤ v.1 ∧ v.1 < (n : Int)) ∧ (v.2 = 0 ∨ v.2 = 1)
theorem EncO.lt {e : EncS} (h : EncO e) : e.2.1 < e.2.2.1 := by
 rcases Int.lt_or_le e.2.1 e.2.2.1 with q | q
 ·exact q
 ·exact absurd (by rw [show e.2.1 = e.2.2.1 by have := h.iv.2.1; omega]) h.open_
theorem cutV_is {e : EncS} (h : EncO e) {c : Int} (hc : 0 ≤ c ∧ c < (e.2.2.2.1.length : Int)) : StateOk e.1 (rd e.2.2.2.1 c) ∧ e.2.1 ≤ cutV e c ∧ cutV e c < e.2.2.1 := by
 have hs : StateOk e.1 (rd e.2.2.2.1 c) := h.states _ (List.mem_of_getElem? (rd_get hc.1 hc.2))
 obtain ⟨_, p0, p1⟩ := chV_is hs
 exact ⟨hs, midV_ge h.iv.2.1 p0, midV_lt h.lt p0 p1⟩
theorem subV_iv {e : EncS} (h : EncO e) {c b : Int} (hc : 0 ≤ c ∧ c < (e.2.2.2.1.length : Int)) : Iv (subV e c b).1 (subV e c b).2 := by
 obtain ⟨_, h1, h2⟩ := cutV_is h hc
 obtain ⟨i0, i1, i2⟩ := h.iv
 unfold subV
 split
 ·exact ⟨i0, h1, by show cutV e c < _; omega⟩
 ·exact ⟨by show 0 ≤ cutV e c + 1; omega, by show cutV e c + 1 ≤ e.2.2.1; omega, i2⟩
theorem gap4 {lo hi : Int} (h : Iv lo hi) : gapOf 4 ≤ hi - lo := by simp only [gapOf]; have := h.2.1; omega
theorem encStep_ok {e : EncS} (h : EncO e) {v : Int × Int} (hv : EvOk e.2.2.2.1.length v) : EncO (encStep e v) ∧ (encStep e v).2.2.2.1.length = e.2.2.2.1.length ∧ (encStep e v).2.2.2.2.length ≤ e.2.2.2.2.length + 4 := by
 obtain ⟨hs, _⟩ := cutV_is h hv.1
 have hi := subV_iv h hv.1 (b := v.2)
 obtain ⟨f1, f2, f3, f4⟩ := flush_is 4 _ _ e.2.2.2.2 hi (gap4 hi)
 refine ⟨⟨h.two, f1, f2, fun x hx => ?_⟩, List.length_set, f3⟩
 rcases List.mem_or_eq_of_mem_set hx with q | rfl
 ·exact h.states x q
 ·exact (nxV_is hs hv.2).2
theorem midRaw {lo hi p : Int} (h : Iv lo hi) (hp : 0 ≤ p) (hp2 : p < 4096) : IntKind.u64.wrap (IntKind.u64.wrap (lo + IntKind.u64.wrap (IntKind.u64.wrap ((IntKind.u64.wrap (hi - lo)).tdiv 4096) * IntKind.u64.wrap p)) + IntKind.u64.wrap ((IntKind.u64.wrap ((IntKind.u64.wrap (hi - lo)).tmod 4096 * IntKind.u64.wrap p)).tdiv 4096)) = midV lo hi p := by
 obtain ⟨h0, h1, h2⟩ := h
 have a1 : 0 ≤ (hi - lo) / 4096 * p := Int.mul_nonneg (by omega) hp
 have a2 : (hi - lo) / 4096 * p ≤ (hi - lo) / 4096 * 4095 := Int.mul_le_mul_of_nonneg_left (by omega) (by omega)
 have a3 : 0 ≤ (hi - lo) % 4096 * p := Int.mul_nonneg (by omega) hp
 have a4 : (hi - lo) % 4096 * p ≤ (hi - lo) % 4096 * 4095 := Int.mul_le_mul_of_nonneg_left (by omega) (by omega)
 unfold midV
 simp only [wu64, show (hi - lo) % 18446744073709551616 = hi - lo by omega, tdiv_pos (show 0 ≤ hi - lo by omega), tmod_pos (show 0 ≤ hi - lo by omega), show p % 18446744073709551616 = p by omega,
  show (hi - lo) / 4096 % 18446744073709551616 = (hi - lo) / 4096 by omega]
 rw [show (hi - lo) % 4096 * p % 18446744073709551616 = (hi - lo) % 4096 * p by omega, tdiv_pos a3]
 omega
theorem same_is {kind lo hi : Int} {st out : List Int} : coder_interval_same kind lo hi st out = some (decide (lo / 16777216 = hi / 16777216), kind, lo, hi, st, out) := by
 rw [coder_interval_same_eq]
 simp only [ushr24]
theorem put_loop {kind : Int} {st : List Int} : ∀ (n : Nat) (lo hi : Int) (out : List Int), Iv lo hi → gapOf n ≤ hi - lo → out.length + n ≤ 140737488355328 →
  loop coder_Encoder_Put_loop6 (kind, lo, hi, st, out) = some (kind, (flush n lo hi out).1, (flush n lo hi out).2.1, st, (flush n lo hi out).2.2)
 | 0, lo, hi, out, h, hg, hl => by
  refine loop_done ?_
  unfold coder_Encoder_Put_loop6
  simp only [same_is, Option.bind_some]
  simp only [gapOf] at hg
  have hne : ¬ lo / 16777216 = hi / 16777216 := by obtain ⟨h0, h1, h2⟩ := h; omega
  simp only [hne, decide_false, Bool.false_eq_true, if_false, flush]
 | n + 1, lo, hi, out, h, hg, hl => by
  by_cases e : lo / 16777216 = hi / 16777216
  ·obtain ⟨h1, h2⟩ := h.shift e
   rw [loop_step (s' := (kind, lo % 16777216 * 256, hi % 16777216 * 256 + 255, st, out ++ [hi / 16777216]))]
   ·rw [put_loop n _ _ _ h1 (by rw [h2]; exact gap_step hg (by have := h.2.1; omega)) (by simp; omega)]
    simp only [flush, e, if_true]
   ·unfold coder_Encoder_Put_loop6
    simp only [same_is, Option.bind_some, lose_is h]
    simp only [e, decide_true, if_true, List.length_singleton]
    rw [if_pos (by omega)]
  ·refine loop_done ?_
   unfold coder_Encoder_Put_loop6
   simp only [same_is, Option.bind_some]
   simp only [e, decide_false, Bool.false_eq_true, if_false, flush]
theorem put_is {e : EncS} (h : EncO e) {v : Int × Int} (hv : EvOk e.2.2.2.1.length v) (hl : e.2.2.2.2.length + 4 ≤ 140737488355328) :
  coder_Encoder_Put v.1 v.2 e.1 e.2.1 e.2.2.1 e.2.2.2.1 e.2.2.2.2 = some (0, encStep e v) := by
 obtain ⟨kind, lo, hi, st, out⟩ := e
 obtain ⟨c, b⟩ := v
 obtain ⟨hc, hb⟩ := hv
 obtain ⟨hs, m1, m2⟩ := cutV_is h hc
 obtain ⟨q1, q2, q3⟩ := chV_is hs
 have hiv := subV_iv h hc (b := b)
 have hlt := h.lt
 obtain ⟨i0, i1, i2⟩ := h.iv
 simp only at hc hb hs m1 m2 q1 q2 q3 hlt i0 i1 i2 hl ⊢
 have hn := (nxV_is hs hb).1
 rw [coder_Encoder_Put_eq, coder_Encoder_none_eq]
 have c1 : ¬ c < 0 := by omega
 have c2 : ¬ c ≥ ((st.length : Nat) : Int) := by omega
 have c3 : (if (!decide (b = 0)) = true then some (!decide (b = 1)) else some false) = some false := by rcases hb with rfl | rfl <;> rfl
 have em : coder_interval_mid c kind lo hi st out = some (cutV (kind, lo, hi, st, out) c, kind, lo, hi, st, out) := by
  rw [coder_interval_mid_eq, if_pos hc]
  simp only [q1, Option.bind_some]
  rw [midRaw h.iv q2 q3]
  rfl
 have et : coder_interval_take c b (cutV (kind, lo, hi, st, out) c) kind lo hi st out = some (kind, (subV (kind, lo, hi, st, out) c b).1, (subV (kind, lo, hi, st, out) c b).2, st.set c.toNat (nxV kind (rd st c) b), out) := by
  rw [coder_interval_take_eq]
  have hw : IntKind.u64.wrap (cutV (kind, lo, hi, st, out) c + 1) = cutV (kind, lo, hi, st, out) c + 1 := by rw [wu64]; omega
  unfold subV
  by_cases h1 : b = 1
  ·simp only [h1, decide_true, if_true, Option.bind_some, hc, and_self]
   rw [h1] at hn
   rw [hn]
   rfl
  ·simp only [h1, decide_false, Bool.false_eq_true, if_false, Option.bind_some, hc, and_self, if_true, hw, hn]
 simp only [c1, c2, c3, decide_false, Bool.false_eq_true, if_false, Option.bind_some, Sum.elim_inl, em, et]
 rw [put_loop 4 _ _ _ hiv (gap4 hiv) (by omega)]
 rfl
/-! ### The end of a code: as few bytes of high as can be -/
theorem ushr_lit {n s m : Int} (hm : (2 : Int) ^ (min s.toNat IntKind.u64.bits) = m) (h0 : 0 ≤ m) : ishr .u64 n s = n / m := by
 unfold ishr; rw [hm, Int.fdiv_eq_ediv_of_nonneg _ h0]
theorem ushl_lit {n s m : Int} (hm : (2 : Int) ^ (min s.toNat IntKind.u64.bits) = m) (h : 0 ≤ n * m ∧ n * m < 18446744073709551616) : ishl .u64 n s = n * m := by
 unfold ishl; rw [hm, wu64]; omega
def tbyte (hi : Int) : Nat → Int
 | 0 => hi / 16777216 % 256
 | 1 => hi / 65536 % 256
 | 2 => hi / 256 % 256
 | _ => hi / 1 % 256
def cutH (hi : Int) : Nat → Int
 | 0 => 0
 | 1 => hi / 16777216 * 16777216
 | 2 => hi / 65536 * 65536
 | 3 => hi / 256 * 256
 | _ => hi
def tbl (hi : Int) : Nat → List Int
 | 0 => []
 | n + 1 => tbl hi n ++ [tbyte hi n]
theorem tbl_len (hi : Int) : ∀ n, (tbl hi n).length = n
 | 0 => rfl
 | n + 1 => by simp [tbl, tbl_len hi n]
/-- how many bytes an end takes -/
def endN (lo hi : Int) : Nat := if lo ≤ cutH hi 0 then 0 else if lo ≤ cutH hi 1 then 1 else if lo ≤ cutH hi 2 then 2 else if lo ≤ cutH hi 3 then 3 else 4
theorem endN_is {lo hi : Int} (h : Iv lo hi) : endN lo hi ≤ 4 ∧ (∀ k, k < endN lo hi → cutH hi k < lo) ∧ lo ≤ cutH hi (endN lo hi) := by
 unfold endN
 split
 ·exact ⟨by omega, fun k hk => by omega, ‹_›⟩
 ·split
  ·exact ⟨by omega, fun k hk => by obtain rfl : k = 0 := by omega
                                   omega, ‹_›⟩
  ·split
   ·refine ⟨by omega, fun k hk => ?_, ‹_›⟩
    rcases k with _ | _ | k <;> (try simp only [Nat.zero_add]) <;> omega
   ·split
    ·refine ⟨by omega, fun k hk => ?_, ‹_›⟩
     rcases k with _ | _ | _ | k <;> (try simp only [Nat.zero_add, Nat.reduceAdd]) <;> omega
    ·refine ⟨by omega, fun k hk => ?_, h.2.1⟩
     rcases k with _ | _ | _ | _ | k <;> (try simp only [Nat.zero_add, Nat.reduceAdd]) <;> omega
theorem endIn_loop {lo hi : Int} (h : Iv lo hi) {n : Nat} (hn : n ≤ 4) {out : List Int} (hl : out.length + 4 ≤ 140737488355328) : ∀ d k, k + d = n → loop (coder_Encoder_End_loop10 hi (n : Int)) ((k : Int), out ++ tbl hi k) = some (out ++ tbl hi n)
 | 0, k, hk => by
  rw [Nat.add_zero] at hk
  subst hk
  refine loop_done ?_
  unfold coder_Encoder_End_loop10
  simp
 | d + 1, k, hk => by
  rw [loop_step (s' := (((k + 1 : Nat) : Int), out ++ tbl hi (k + 1)))]
  ·exact endIn_loop h hn hl d (k + 1) (by omega)
  ·obtain ⟨h0, h1, h2⟩ := h
   unfold coder_Encoder_End_loop10
   have h3 : (k : Int) < (n : Int) := by omega
   simp only [h3, decide_true, if_true, List.length_append, tbl_len, List.length_singleton]
   have hw : IntKind.i64.wrap ((k : Int) + 1) = ((k + 1 : Nat) : Int) := by rw [w64 (by omega)]; rfl
   have e : IntKind.i64.wrap (24 - IntKind.i64.wrap (8 * (k : Int))) = 24 - 8 * (k : Int) := by rw [w64 (n := 8 * (k : Int)) (by omega), w64 (by omega)]
   have hb : IntKind.u8.wrap (ishr .u64 hi (24 - 8 * (k : Int))) = tbyte hi k := by
    rcases k with _ | _ | _ | _ | k
    ·rw [ushr_lit (m := 16777216) (by decide) (by decide), w8]; rfl
    ·rw [ushr_lit (m := 65536) (by decide) (by decide), w8]; rfl
    ·rw [ushr_lit (m := 256) (by decide) (by decide), w8]; rfl
    ·rw [ushr_lit (m := 1) (by decide) (by decide), w8]; rfl
    ·omega
   rw [e, hb, hw, if_neg (by omega), if_pos (by omega)]
   simp only [tbl, List.append_assoc]
theorem endOut_loop {lo hi : Int} (h : Iv lo hi) {out : List Int} (hl : out.length + 4 ≤ 140737488355328) : ∀ d k, k + d = endN lo hi → loop (coder_Encoder_End_loop5 lo hi) ((k : Int), out) = some (Sum.inr (out ++ tbl hi (endN lo hi)))
 | d, k, hk => by
  obtain ⟨q1, q2, q3⟩ := endN_is h
  have hk4 : k ≤ 4 := by omega
  have e : IntKind.u64.wrap (IntKind.i64.wrap (32 - IntKind.i64.wrap (8 * (k : Int)))) = 32 - 8 * (k : Int) := by rw [w64 (n := 8 * (k : Int)) (by omega), w64 (by omega), wu64]; omega
  have hc : ishl .u64 (ishr .u64 hi (32 - 8 * (k : Int))) (32 - 8 * (k : Int)) = cutH hi k := by
   obtain ⟨h0, h1, h2⟩ := h
   rcases k with _ | _ | _ | _ | _ | k
   ·rw [ushr_lit (m := 4294967296) (by decide) (by decide), ushl_lit (m := 4294967296) (by decide) (by omega)]
    show _ = (0 : Int)
    omega
   ·rw [ushr_lit (m := 16777216) (by decide) (by decide), ushl_lit (m := 16777216) (by decide) (by omega)]; rfl
   ·rw [ushr_lit (m := 65536) (by decide) (by decide), ushl_lit (m := 65536) (by decide) (by omega)]; rfl
   ·rw [ushr_lit (m := 256) (by decide) (by decide), ushl_lit (m := 256) (by decide) (by omega)]; rfl
   ·rw [ushr_lit (m := 1) (by decide) (by decide), ushl_lit (m := 1) (by decide) (by omega)]
    show _ = hi
    omega
   ·omega
  have h5 : (k : Int) < 5 := by omega
  cases d with
  | zero =>
   rw [Nat.add_zero] at hk
   subst hk
   refine loop_done ?_
   unfold coder_Encoder_End_loop5
   simp only [h5, decide_true, if_true, e, hc]
   rw [if_neg (by omega), if_neg (by omega)]
   have h6 : cutH hi (endN lo hi) ≥ lo := q3
   simp only [h6, decide_true, if_true]
   have := endIn_loop h q1 hl (endN lo hi) 0 (by omega)
   simp only [tbl, List.append_nil] at this
   rw [show ((0 : Nat) : Int) = 0 from rfl] at this
   rw [this]; rfl
  | succ d =>
   rw [loop_step (s' := (((k + 1 : Nat) : Int), out))]
   ·exact endOut_loop h hl d (k + 1) (by omega)
   ·unfold coder_Encoder_End_loop5
    simp only [h5, decide_true, if_true, e, hc]
    rw [if_neg (by omega), if_neg (by omega)]
    have h6 : ¬ cutH hi k ≥ lo := by have := q2 k (by omega); omega
    have hw : IntKind.i64.wrap ((k : Int) + 1) = ((k + 1 : Nat) : Int) := by rw [w64 (by omega)]; rfl
    simp only [h6, decide_false, Bool.false_eq_true, if_false, hw]
theorem end_is {e : EncS} (h : Iv e.2.1 e.2.2.1) (hl : e.2.2.2.2.length + 4 ≤ 140737488355328) : coder_Encoder_End e.1 e.2.1 e.2.2.1 e.2.2.2.1 e.2.2.2.2 = some (e.2.2.2.2 ++ tbl e.2.2.1 (endN e.2.1 e.2.2.1), e) := by
 rw [coder_Encoder_End_eq, coder_Encoder_none_eq]
 have := endOut_loop h hl (endN e.2.1 e.2.2.1) 0 (by omega)
 rw [show ((0 : Nat) : Int) = 0 from rfl] at this
 simp only [Option.bind_some, Bool.false_eq_true, if_false, List.length_nil, List.nil_append, this]
 rw [if_pos (by omega)]
 rfl
/-! ### A code and the four bytes of it that a decoder has -/
def byt (C : List Int) (i : Nat) : Int := C[i]?.getD 0
def win (C : List Int) (n : Nat) : Int := byt C n * 16777216 + byt C (n + 1) * 65536 + byt C (n + 2) * 256 + byt C (n + 3)
def Bytes (C : List Int) : Prop := ∀ x ∈ C, 0 ≤ x ∧ x < 256
theorem byt_range {C : List Int} (h : Bytes C) (i : Nat) : 0 ≤ byt C i ∧ byt C i < 256 := by
 unfold byt
 cases e : C[i]? with
 | none => exact ⟨by decide, by decide⟩
 | some x => exact h x (List.mem_of_getElem? e)
theorem win_range {C : List Int} (h : Bytes C) (n : Nat) : 0 ≤ win C n ∧ win C n < 4294967296 := by
 unfold win
 have h0 := byt_range h n
 have h1 := byt_range h (n + 1)
 have h2 := byt_range h (n + 2)
 have h3 := byt_range h (n + 3)
 omega
theorem win_next {C : List Int} (h : Bytes C) (n : Nat) : win C (n + 1) = win C n % 16777216 * 256 + byt C (n + 4) ∧ win C n / 16777216 = byt C n ∧ win C n % 16777216 = win C (n + 1) / 256 := by
 unfold win
 have h0 := byt_range h n
 have h1 := byt_range h (n + 1)
 have h2 := byt_range h (n + 2)
 have h3 := byt_range h (n + 3)
 have h4 := byt_range h (n + 4)
 rw [show n + 1 + 1 = n + 2 by omega, show n + 1 + 2 = n + 3 by omega, show n + 1 + 3 = n + 4 by omega]
 omega
/-- the code lies in the interval -/
def Lies (C : List Int) (lo hi : Int) (out : List Int) : Prop := (∃ s, C = out ++ s) ∧ lo ≤ win C out.length ∧ win C out.length ≤ hi
theorem lies_flush {C : List Int} (hC : Bytes C) : ∀ (n : Nat) (lo hi : Int) (out : List Int), Iv lo hi → Lies C (flush n lo hi out).1 (flush n lo hi out).2.1 (flush n lo hi out).2.2 → Lies C lo hi out
 | 0, lo, hi, out, h, hL => hL
 | n + 1, lo, hi, out, h, hL => by
  unfold flush at hL
  by_cases e : lo / 16777216 = hi / 16777216
  ·rw [if_pos e] at hL
   obtain ⟨⟨s, hs⟩, h1, h2⟩ := lies_flush hC n _ _ _ (h.shift e).1 hL
   obtain ⟨i0, i1, i2⟩ := h
   rw [List.length_append, List.length_singleton] at h1 h2
   obtain ⟨w1, w2, w3⟩ := win_next hC out.length
   have hb : byt C out.length = hi / 16777216 := by
    unfold byt
    rw [hs, List.append_assoc, List.getElem?_append_right (Nat.le_refl _), Nat.sub_self]
    rfl
   exact ⟨⟨[hi / 16777216] ++ s, by rw [hs, List.append_assoc]⟩, by omega, by omega⟩
  ·rw [if_neg e] at hL
   exact hL
def LiesE (C : List Int) (e : EncS) : Prop := Lies C e.2.1 e.2.2.1 e.2.2.2.2
/-- before a bit was put the code lay in the interval too, and where it lies tells the bit -/
theorem lies_step {C : List Int} (hC : Bytes C) {e : EncS} (h : EncO e) {v : Int × Int} (hv : EvOk e.2.2.2.1.length v) (hL : LiesE C (encStep e v)) : LiesE C e ∧ (v.2 = 1 ↔ win C e.2.2.2.2.length ≤ cutV e v.1) := by
 obtain ⟨_, m1, m2⟩ := cutV_is h hv.1
 obtain ⟨hp, h1, h2⟩ := lies_flush hC 4 _ _ _ (subV_iv h hv.1 (b := v.2)) hL
 unfold subV at h1 h2
 by_cases hb : v.2 = 1
 ·rw [if_pos hb] at h1 h2
  simp only at h1 h2
  exact ⟨⟨hp, h1, by omega⟩, by simp only [hb, true_iff]; exact h2⟩
 ·rw [if_neg hb] at h1 h2
  simp only at h1 h2
  exact ⟨⟨hp, by omega, h2⟩, by simp only [hb, false_iff]; omega⟩
theorem tbl_at (hi : Int) : ∀ (n i : Nat), (tbl hi n)[i]? = if i < n then some (tbyte hi i) else none
 | 0, i => by simp [tbl]
 | n + 1, i => by
  simp only [tbl]
  rcases Nat.lt_trichotomy i n with h | h | h
  ·rw [List.getElem?_append_left (by rw [tbl_len]; exact h), tbl_at hi n, if_pos h, if_pos (by omega)]
  ·subst h
   rw [List.getElem?_append_right (by rw [tbl_len]; exact Nat.le_refl _), tbl_len, Nat.sub_self, if_pos (by omega)]
   rfl
  ·rw [if_neg (by omega), List.getElem?_eq_none (by rw [List.length_append, tbl_len, List.length_singleton]; omega)]
theorem win_end {lo hi : Int} (h : Iv lo hi) {out : List Int} {n : Nat} (hn : n ≤ 4) : win (out ++ tbl hi n) out.length = cutH hi n := by
 obtain ⟨i0, i1, i2⟩ := h
 have hb : ∀ j, byt (out ++ tbl hi n) (out.length + j) = if j < n then tbyte hi j else 0 := fun j => by
  unfold byt
  rw [List.getElem?_append_right (by omega), Nat.add_sub_cancel_left, tbl_at]
  split <;> rfl
 have b0 := hb 0
 have b1 := hb 1
 have b2 := hb 2
 have b3 := hb 3
 rw [Nat.add_zero] at b0
 unfold win
 rw [b0, b1, b2, b3]
 rcases n with _ | _ | _ | _ | _ | n <;> simp [cutH, tbyte] <;> omega
theorem tbl_bytes {hi : Int} (h0 : 0 ≤ hi) : ∀ n, Bytes (tbl hi n)
 | 0 => fun x hx => by simp [tbl] at hx
 | n + 1 => fun x hx => by
  rcases List.mem_append.1 hx with hx | hx
  ·exact tbl_bytes h0 n x hx
  ·rw [List.mem_singleton.1 hx]
   rcases n with _ | _ | _ | n <;> simp only [tbyte] <;> omega
theorem lies_end {e : EncS} (h : Iv e.2.1 e.2.2.1) : LiesE (e.2.2.2.2 ++ tbl e.2.2.1 (endN e.2.1 e.2.2.1)) e := by
 obtain ⟨n1, n2, n3⟩ := endN_is h
 refine ⟨⟨_, rfl⟩, ?_, ?_⟩
 ·rw [win_end h n1]; exact n3
 ·rw [win_end h n1]
  obtain ⟨i0, i1, i2⟩ := h
  generalize endN e.2.1 e.2.2.1 = n
  rcases n with _ | _ | _ | _ | n <;> simp only [cutH] <;> omega
/-- bytes that leave are bytes -/
theorem flush_bytes : ∀ (n : Nat) (lo hi : Int) (out : List Int), Iv lo hi → Bytes out → Bytes (flush n lo hi out).2.2
 | 0, lo, hi, out, h, hb => hb
 | n + 1, lo, hi, out, h, hb => by
  unfold flush
  by_cases e : lo / 16777216 = hi / 16777216
  ·rw [if_pos e]
   refine flush_bytes n _ _ _ (h.shift e).1 fun x hx => ?_
   rcases List.mem_append.1 hx with hx | hx
   ·exact hb x hx
   ·obtain ⟨i0, i1, i2⟩ := h
    rw [List.mem_singleton.1 hx]; omega
  ·rw [if_neg e]
   exact hb
theorem uorb {n b : Int} (h0 : 0 ≤ n) (h1 : n < 18446744073709551616) (h : n % 256 = 0) (b0 : 0 ≤ b) (b1 : b < 256) : ior .u64 n b = n + b := by
 obtain ⟨m, rfl⟩ := Int.eq_ofNat_of_zero_le h0
 obtain ⟨c, rfl⟩ := Int.eq_ofNat_of_zero_le b0
 unfold ior
 rw [show IntKind.u64.bits = 64 from rfl, ubv, ubv, BitVec.toNat_or, BitVec.toNat_ofNat, BitVec.toNat_ofNat, wu64]
 rw [Nat.mod_eq_of_lt (show m < 2 ^ 64 by omega), Nat.mod_eq_of_lt (show c < 2 ^ 64 by omega)]
 obtain ⟨k, hk⟩ : ∃ k, m = 2 ^ 8 * k := ⟨m / 256, by omega⟩
 subst hk
 rw [← Nat.two_pow_add_eq_or_of_lt (show c < 2 ^ 8 by omega)]
 omega
theorem shv {v b : Int} (h0 : 0 ≤ v) (h1 : v < 4294967296) (b0 : 0 ≤ b) (b1 : b < 256) : ior .u64 (iand .u64 (ishl .u64 v 8) 4294967295) (IntKind.u64.wrap b) = v % 16777216 * 256 + b := by
 have e : IntKind.u64.wrap b = b := by rw [wu64]; omega
 rw [ushl8 h0 h1, uand32 (by omega) (by omega), e, uorb (by omega) (by omega) (by omega) b0 b1]
 omega
theorem byt_rd {C : List Int} {i : Nat} (h : i < C.length) : rd C (i : Int) = byt C i := by
 unfold rd byt
 rw [Int.toNat_natCast, List.getD_eq_getElem?_getD]
theorem byt_out {C : List Int} {i : Nat} (h : C.length ≤ i) : byt C i = 0 := by
 unfold byt
 rw [List.getElem?_eq_none h]
 rfl
def beyd (C : List Int) (n : Nat) : Int := ((n - C.length : Nat) : Int)
theorem shift1_is {kind lo hi v : Int} {st C : List Int} (hC : Bytes C) {n : Nat} (hn : n < 1000000000) (h0 : 0 ≤ v) (h1 : v < 4294967296) :
  coder_Decoder_shift kind lo hi (n : Int) v (beyd C n) st C = some (kind, lo, hi, ((n + 1 : Nat) : Int), v % 16777216 * 256 + byt C n, beyd C (n + 1), st, C) := by
 have hb := byt_range hC n
 rw [coder_Decoder_shift_eq]
 unfold beyd
 by_cases h : (n : Int) < ((C.length : Nat) : Int)
 ·simp only [h, decide_true, if_true]
  rw [if_pos ⟨by omega, trivial⟩, byt_rd (by omega)]
  simp only [Option.bind_some]
  rw [w64 (n := (n : Int) + 1) (by omega), shv h0 h1 hb.1 hb.2, show n + 1 - C.length = n - C.length by omega]
  rfl
 ·simp only [h, decide_false, Bool.false_eq_true, if_false, Option.bind_some]
  rw [w64 (n := (n : Int) + 1) (by omega), w64 (n := ((n - C.length : Nat) : Int) + 1) (by omega), shv h0 h1 (by decide) (by decide), byt_out (by omega), show n + 1 - C.length = n - C.length + 1 by omega]
  rfl
theorem shift2_is {kind lo hi : Int} {st C : List Int} {en : Bool} (hC : Bytes C) {n : Nat} (hn : n < 1000000000) :
  coder_Decoder_shift_2 kind lo hi C ((n + 4 : Nat) : Int) (win C n) (beyd C (n + 4)) en st = some (kind, lo, hi, C, ((n + 1 + 4 : Nat) : Int), win C (n + 1), beyd C (n + 1 + 4), en, st) := by
 have hb := byt_range hC (n + 4)
 have hw := win_range hC n
 rw [coder_Decoder_shift_2_eq, (win_next hC n).1]
 unfold beyd
 by_cases h : ((n + 4 : Nat) : Int) < ((C.length : Nat) : Int)
 ·simp only [h, decide_true, if_true]
  rw [if_pos ⟨by omega, trivial⟩, byt_rd (by omega)]
  simp only [Option.bind_some]
  rw [w64 (n := ((n + 4 : Nat) : Int) + 1) (by omega), shv hw.1 hw.2 hb.1 hb.2, show n + 1 + 4 - C.length = n + 4 - C.length by omega, show ((n + 1 + 4 : Nat) : Int) = ((n + 4 : Nat) : Int) + 1 by omega]
 ·simp only [h, decide_false, Bool.false_eq_true, if_false, Option.bind_some]
  rw [w64 (n := ((n + 4 : Nat) : Int) + 1) (by omega), w64 (n := ((n + 4 - C.length : Nat) : Int) + 1) (by omega), shv hw.1 hw.2 (by decide) (by decide), byt_out (by omega), show n + 1 + 4 - C.length = n + 4 - C.length + 1 by omega, show ((n + 1 + 4 : Nat) : Int) = ((n + 4 : Nat) : Int) + 1 by omega]
  rfl
theorem lose2_is {kind lo hi at_ v bey : Int} {st C : List Int} {en : Bool} (h : Iv lo hi) : ∃ b, coder_interval_lose_2 kind lo hi C at_ v bey en st = some (b, kind, lo % 16777216 * 256, hi % 16777216 * 256 + 255, C, at_, v, bey, en, st) := by
 obtain ⟨h0, h1, h2⟩ := h
 rw [coder_interval_lose_2_eq]
 try simp only
 rw [ushr24, ushl8 h0 (by omega), ushl8 (by omega) h2, uand32 (by omega) (by omega), uand32 (by omega) (by omega), uor255 (by omega) (by omega) (by omega), w8]
 refine ⟨lo / 16777216 % 256, ?_⟩
 congr 4
 ·omega
 ·congr 1
  omega
theorem get_loop {kind : Int} {st C : List Int} (hC : Bytes C) : ∀ (n : Nat) (lo hi : Int) (out : List Int), Iv lo hi → gapOf n ≤ hi - lo → out.length + n ≤ 900000000 →
  loop coder_Decoder_Get_loop12 (kind, lo, hi, C, ((out.length + 4 : Nat) : Int), win C out.length, beyd C (out.length + 4), false, st) =
   some (kind, (flush n lo hi out).1, (flush n lo hi out).2.1, C, (((flush n lo hi out).2.2.length + 4 : Nat) : Int), win C (flush n lo hi out).2.2.length, beyd C ((flush n lo hi out).2.2.length + 4), false, st)
 | 0, lo, hi, out, h, hg, hl => by
  refine loop_done ?_
  unfold coder_Decoder_Get_loop12
  simp only [coder_interval_same_2_eq, ushr24, Option.bind_some]
  simp only [gapOf] at hg
  have hne : ¬ lo / 16777216 = hi / 16777216 := by obtain ⟨h0, h1, h2⟩ := h; omega
  simp only [hne, decide_false, Bool.false_eq_true, if_false, flush]
 | n + 1, lo, hi, out, h, hg, hl => by
  by_cases e : lo / 16777216 = hi / 16777216
  ·obtain ⟨h1, h2⟩ := h.shift e
   have hs : (out ++ [hi / 16777216]).length = out.length + 1 := by simp
   have ih := get_loop (kind := kind) (st := st) hC n _ _ (out ++ [hi / 16777216]) h1 (by rw [h2]; exact gap_step hg (by have := h.2.1; omega)) (by rw [hs]; omega)
   rw [hs] at ih
   rw [loop_step (s' := (kind, lo % 16777216 * 256, hi % 16777216 * 256 + 255, C, ((out.length + 1 + 4 : Nat) : Int), win C (out.length + 1), beyd C (out.length + 1 + 4), false, st)), ih]
   ·simp only [flush, e, if_true]
   ·obtain ⟨b, hb⟩ := lose2_is (kind := kind) (at_ := ((out.length + 4 : Nat) : Int)) (v := win C out.length) (bey := beyd C (out.length + 4)) (st := st) (C := C) (en := false) h
    unfold coder_Decoder_Get_loop12
    simp only [coder_interval_same_2_eq, ushr24, Option.bind_some, hb, shift2_is hC (show out.length < 1000000000 by omega)]
    simp only [e, decide_true, if_true]
  ·refine loop_done ?_
   unfold coder_Decoder_Get_loop12
   simp only [coder_interval_same_2_eq, ushr24, Option.bind_some]
   simp only [e, decide_false, Bool.false_eq_true, if_false, flush]
/-- a bit that was put comes back -/
theorem get_is {C : List Int} (hC : Bytes C) {e : EncS} (h : EncO e) {v : Int × Int} (hv : EvOk e.2.2.2.1.length v) (hl : e.2.2.2.2.length ≤ 800000000) (hL : LiesE C (encStep e v)) :
  coder_Decoder_Get v.1 e.1 e.2.1 e.2.2.1 C ((e.2.2.2.2.length + 4 : Nat) : Int) (win C e.2.2.2.2.length) (beyd C (e.2.2.2.2.length + 4)) false e.2.2.2.1 =
   some (v.2, 0, (encStep e v).1, (encStep e v).2.1, (encStep e v).2.2.1, C, (((encStep e v).2.2.2.2.length + 4 : Nat) : Int), win C (encStep e v).2.2.2.2.length, beyd C ((encStep e v).2.2.2.2.length + 4), false, (encStep e v).2.2.2.1) := by
 have hbit := (lies_step hC h hv hL).2
 obtain ⟨⟨tl, hpre⟩, _⟩ := hL
 obtain ⟨kind, lo, hi, st, out⟩ := e
 obtain ⟨c, b⟩ := v
 obtain ⟨hc, hb⟩ := hv
 obtain ⟨hs, m1, m2⟩ := cutV_is h hc
 obtain ⟨q1, q2, q3⟩ := chV_is hs
 have hiv := subV_iv h hc (b := b)
 have hlt := h.lt
 obtain ⟨i0, i1, i2⟩ := h.iv
 simp only at hc hb hs m1 m2 q1 q2 q3 hlt i0 i1 i2 hl hbit ⊢
 have hn := (nxV_is hs hb).1
 have hloop := get_loop (kind := kind) (st := st.set c.toNat (nxV kind (rd st c) b)) hC 4 _ _ out hiv (gap4 hiv) (by omega)
 have hbey : ¬ beyd C ((encStep (kind, lo, hi, st, out) (c, b)).2.2.2.2.length + 4) > 4 := by
  have : (encStep (kind, lo, hi, st, out) (c, b)).2.2.2.2.length ≤ C.length := by rw [hpre, List.length_append]; omega
  unfold beyd
  omega
 rw [coder_Decoder_Get_eq, coder_Decoder_none_eq]
 have c1 : ¬ c < 0 := by omega
 have c2 : ¬ c ≥ ((st.length : Nat) : Int) := by omega
 have em : coder_interval_mid_2 c kind lo hi C ((out.length + 4 : Nat) : Int) (win C out.length) (beyd C (out.length + 4)) false st = some (cutV (kind, lo, hi, st, out) c, kind, lo, hi, C, ((out.length + 4 : Nat) : Int), win C out.length, beyd C (out.length + 4), false, st) := by
  rw [coder_interval_mid_2_eq, if_pos hc]
  simp only [q1, Option.bind_some]
  rw [midRaw h.iv q2 q3]
  rfl
 have et : coder_interval_take_2 c b (cutV (kind, lo, hi, st, out) c) kind lo hi C ((out.length + 4 : Nat) : Int) (win C out.length) (beyd C (out.length + 4)) false st = some (kind, (subV (kind, lo, hi, st, out) c b).1, (subV (kind, lo, hi, st, out) c b).2, C, ((out.length + 4 : Nat) : Int), win C out.length, beyd C (out.length + 4), false, st.set c.toNat (nxV kind (rd st c) b)) := by
  rw [coder_interval_take_2_eq]
  have hw : IntKind.u64.wrap (cutV (kind, lo, hi, st, out) c + 1) = cutV (kind, lo, hi, st, out) c + 1 := by rw [wu64]; omega
  unfold subV
  by_cases h1 : b = 1
  ·simp only [h1, decide_true, if_true, Option.bind_some, hc, and_self]
   rw [h1] at hn
   rw [hn]
   rfl
  ·simp only [h1, decide_false, Bool.false_eq_true, if_false, Option.bind_some, hc, and_self, if_true, hw, hn]
 have eb : (if decide (win C out.length ≤ cutV (kind, lo, hi, st, out) c) = true then some 1 else some 0 : Option Int) = some b := by
  simp only [decide_eq_true_eq]
  by_cases h1 : b = 1
  ·rw [if_pos (hbit.1 h1), h1]
  ·rw [if_neg fun q => h1 (hbit.2 q)]
   rcases hb with rfl | rfl
   ·rfl
   ·exact absurd rfl h1
 simp only [c1, c2, decide_false, Bool.false_eq_true, if_false, Option.bind_some, Sum.elim_inl, em, eb, et]
 rw [if_pos hc, hloop]
 simp only [Option.bind_some]
 have hbey' : ¬ beyd C ((flush 4 (subV (kind, lo, hi, st, out) c b).1 (subV (kind, lo, hi, st, out) c b).2 out).2.2.length + 4) > 4 := hbey
 simp only [hbey', decide_false, Bool.false_eq_true, if_false]
 rfl
/-! ### Many bits -/
noncomputable def encAll (e : EncS) (l : List (Int × Int)) : EncS := l.foldl encStep e
theorem encAll_app (e : EncS) (a b : List (Int × Int)) : encAll e (a ++ b) = encAll (encAll e a) b := by
 unfold encAll
 rw [List.foldl_append]
theorem encAll_ok {n : Nat} : ∀ (l : List (Int × Int)) (e : EncS), EncO e → e.2.2.2.1.length = n → (∀ v ∈ l, EvOk n v) → EncO (encAll e l) ∧ (encAll e l).2.2.2.1.length = n ∧ (encAll e l).2.2.2.2.length ≤ e.2.2.2.2.length + 4 * l.length
 | [], e, h, hn, _ => ⟨h, hn, by simp [encAll]⟩
 | v :: l, e, h, hn, hv => by
  subst hn
  obtain ⟨h1, h2, h3⟩ := encStep_ok h (hv v (List.mem_cons_self ..))
  obtain ⟨k1, k2, k3⟩ := encAll_ok l (encStep e v) h1 h2 fun u hu => hv u (List.mem_cons_of_mem _ hu)
  refine ⟨k1, k2, ?_⟩
  rw [List.length_cons]
  show (encAll (encStep e v) l).2.2.2.2.length ≤ _
  omega
theorem lies_back {C : List Int} (hC : Bytes C) {n : Nat} : ∀ (l : List (Int × Int)) (e : EncS), EncO e → e.2.2.2.1.length = n → (∀ v ∈ l, EvOk n v) → LiesE C (encAll e l) → LiesE C e
 | [], e, _, _, _, hL => hL
 | v :: l, e, h, hn, hv, hL => by
  subst hn
  obtain ⟨h1, h2, h3⟩ := encStep_ok h (hv v (List.mem_cons_self ..))
  have := lies_back hC l (encStep e v) h1 h2 (fun u hu => hv u (List.mem_cons_of_mem _ hu)) hL
  exact (lies_step hC h (hv v (List.mem_cons_self ..)) this).1
theorem step_bytes {e : EncS} (h : EncO e) {v : Int × Int} (hv : EvOk e.2.2.2.1.length v) (hb : Bytes e.2.2.2.2) : Bytes (encStep e v).2.2.2.2 := flush_bytes 4 _ _ _ (subV_iv h hv.1) hb
theorem all_bytes {n : Nat} : ∀ (l : List (Int × Int)) (e : EncS), EncO e → e.2.2.2.1.length = n → (∀ v ∈ l, EvOk n v) → Bytes e.2.2.2.2 → Bytes (encAll e l).2.2.2.2
 | [], e, _, _, _, hb => hb
 | v :: l, e, h, hn, hv, hb => by
  subst hn
  obtain ⟨h1, h2, h3⟩ := encStep_ok h (hv v (List.mem_cons_self ..))
  exact all_bytes l (encStep e v) h1 h2 (fun u hu => hv u (List.mem_cons_of_mem _ hu)) (step_bytes h (hv v (List.mem_cons_self ..)) hb)
/-! ### New models, encoders, decoders -/
theorem valid_loop {st : List Int} {e : Int} (hl : st.length ≤ 8192) (hs : ∀ s ∈ st, 0 ≤ s ∧ s < e) : ∀ d k, k + d = st.length → loop (coder_Valid_loop7 st e) (k : Int) = some (Sum.inl ())
 | 0, k, hk => by
  refine loop_done ?_
  unfold coder_Valid_loop7
  have : ¬ (k : Int) < ((st.length : Nat) : Int) := by omega
  simp only [this, decide_false, Bool.false_eq_true, if_false]
 | d + 1, k, hk => by
  rw [loop_step (s' := ((k + 1 : Nat) : Int))]
  ·exact valid_loop hl hs d (k + 1) (by omega)
  ·have h1 : (k : Int) < ((st.length : Nat) : Int) := by omega
   have h0 : (0 : Int) ≤ (k : Int) := by omega
   obtain ⟨a1, a2⟩ := hs _ (List.mem_of_getElem? (rd_get h0 h1))
   have n1 : ¬ rd st (k : Int) < 0 := by omega
   have n2 : ¬ rd st (k : Int) ≥ e := by omega
   have hw : IntKind.i64.wrap ((k : Int) + 1) = ((k + 1 : Nat) : Int) := by rw [w64 (by omega)]; rfl
   unfold coder_Valid_loop7
   simp only [h1, h0, n1, n2, hw, decide_true, decide_false, Bool.false_eq_true, if_true, if_false, and_self]
/-- an encoder at its begin -/
def enc0 (k : Int) (n : Nat) : EncS := (k, 0, 4294967295, List.replicate n 0, [])
theorem enc0_ok {k : Int} (hk : k = 0 ∨ k = 1) (n : Nat) : EncO (enc0 k n) :=
 ⟨hk, ⟨by show (0 : Int) ≤ 0; decide, by show (0 : Int) ≤ 4294967295; decide, by show (4294967295 : Int) < 4294967296; decide⟩, by show (0 : Int) / 16777216 ≠ 4294967295 / 16777216; decide, fun s hs => by
  rw [List.eq_of_mem_replicate hs]
  rcases hk with rfl | rfl
  ·exact .inl ⟨rfl, by decide, by decide⟩
  ·exact .inr ⟨rfl, by decide, by decide⟩⟩
theorem coderNew_is {k : Int} (hk : k = 0 ∨ k = 1) {n : Nat} (hn : n ≤ 8192) : coder_New k (n : Int) = some (k, 0, List.replicate n 0) := by
 rw [coder_New_eq]
 have n1 : ¬ (n : Int) < 0 := by omega
 have n2 : ¬ (n : Int) > 8192 := by omega
 rcases hk with rfl | rfl
 ·simp only [n1, n2, decide_true, decide_false, Bool.not_true, Bool.not_false, Bool.false_eq_true, if_true, if_false, Option.bind_some]
  rw [if_pos (by omega), Int.toNat_natCast]
 ·simp only [n1, n2, decide_true, decide_false, Bool.not_true, Bool.not_false, Bool.false_eq_true, if_true, if_false, Option.bind_some, show ¬ ((1 : Int) = 0) by decide]
  rw [if_pos (by omega), Int.toNat_natCast]
theorem modelValid {k : Int} (hk : k = 0 ∨ k = 1) {n : Nat} (hn : n ≤ 8192) : coder_Valid k (List.replicate n 0) = some true := by
 have n2 : ¬ (n : Int) > 8192 := by omega
 have hlp : ∀ e : Int, 0 < e → loop (coder_Valid_loop7 (List.replicate n 0) e) 0 = some (Sum.inl ()) := fun e he => valid_loop (st := List.replicate n 0) (by simpa using hn) (fun s hs => by rw [List.eq_of_mem_replicate hs]; exact ⟨by decide, he⟩) n 0 (by simp)
 rw [coder_Valid_eq]
 simp only [List.length_replicate]
 rcases hk with rfl | rfl
 ·simp only [n2, decide_true, decide_false, Bool.not_true, Bool.not_false, Bool.false_eq_true, if_true, if_false, Option.bind_some, show ¬ ((0 : Int) = 1) by decide]
  rw [hlp 64 (by decide)]
  rfl
 ·simp only [n2, decide_true, decide_false, Bool.not_true, Bool.not_false, Bool.false_eq_true, if_true, if_false, Option.bind_some, show ¬ ((1 : Int) = 0) by decide]
  rw [hlp 65536 (by decide)]
  rfl
theorem begin_is {k : Int} {n : Nat} (hn : n ≤ 8192) : coder_begin k (List.replicate n 0) = some (k, 0, 4294967295, List.replicate n 0) := by
 rw [coder_begin_eq, coder_clone_eq, if_pos (by simp; omega), coder_chances_eq]
 simp only [Option.bind_some, List.nil_append]
theorem newEncoder_is {k : Int} (hk : k = 0 ∨ k = 1) {n : Nat} (hn : n ≤ 8192) : coder_NewEncoder k (List.replicate n 0) = some (Sum.inl (enc0 k n)) := by
 rw [coder_NewEncoder_eq, modelValid hk hn]
 simp only [Option.bind_some, Bool.not_true, Bool.false_eq_true, if_false]
 rw [begin_is hn]
 rfl
theorem newDecoder_is {k : Int} (hk : k = 0 ∨ k = 1) {n : Nat} (hn : n ≤ 8192) {C : List Int} (hC : Bytes C) (hl : C.length ≤ 900000000) :
  coder_NewDecoder k (List.replicate n 0) C = some (Sum.inl (k, 0, 4294967295, C, 4, win C 0, beyd C 4, false, List.replicate n 0)) := by
 have b0 := byt_range hC 0
 have b1 := byt_range hC 1
 have b2 := byt_range hC 2
 have b3 := byt_range hC 3
 have s0 := shift1_is (kind := k) (lo := 0) (hi := 4294967295) (st := List.replicate n 0) hC (n := 0) (v := 0) (by omega) (by decide) (by decide)
 have s1 := shift1_is (kind := k) (lo := 0) (hi := 4294967295) (st := List.replicate n 0) hC (n := 1) (v := 0 % 16777216 * 256 + byt C 0) (by omega) (by omega) (by omega)
 have s2 := shift1_is (kind := k) (lo := 0) (hi := 4294967295) (st := List.replicate n 0) hC (n := 2) (v := (0 % 16777216 * 256 + byt C 0) % 16777216 * 256 + byt C 1) (by omega) (by omega) (by omega)
 have s3 := shift1_is (kind := k) (lo := 0) (hi := 4294967295) (st := List.replicate n 0) hC (n := 3) (v := ((0 % 16777216 * 256 + byt C 0) % 16777216 * 256 + byt C 1) % 16777216 * 256 + byt C 2) (by omega) (by omega) (by omega)
 have s0' : coder_Decoder_shift k 0 4294967295 0 0 0 (List.replicate n 0) C = some (k, 0, 4294967295, ((1 : Nat) : Int), 0 % 16777216 * 256 + byt C 0, beyd C 1, List.replicate n 0, C) := by
  have : beyd C 0 = 0 := by unfold beyd; omega
  rw [this] at s0
  exact s0
 rw [coder_NewDecoder_eq, modelValid hk hn]
 simp only [Option.bind_some, Bool.not_true, Bool.false_eq_true, if_false]
 rw [begin_is hn]
 simp only [Option.bind_some]
 rw [if_pos (by simp; omega), List.nil_append, s0']
 simp only [Option.bind_some]
 rw [s1]
 simp only [Option.bind_some]
 rw [s2]
 simp only [Option.bind_some]
 rw [s3]
 simp only [Option.bind_some]
 have ew : (((0 % 16777216 * 256 + byt C 0) % 16777216 * 256 + byt C 1) % 16777216 * 256 + byt C 2) % 16777216 * 256 + byt C 3 = win C 0 := by
  unfold win
  simp only [Nat.zero_add]
  omega
 rw [ew]
 rfl
/-! ### Two that go together -/
/-- both come to something, and these two go together -/
def Both {α β : Type} (x : Option α) (y : Option β) (P : α → β → Prop) : Prop := ∃ a b, x = some a ∧ y = some b ∧ P a b
theorem Both.mk {α β : Type} {a : α} {b : β} {P : α → β → Prop} (h : P a b) : Both (some a) (some b) P := ⟨a, b, rfl, rfl, h⟩
theorem Both.bind {α β γ δ : Type} {x : Option α} {y : Option β} {P : α → β → Prop} {f : α → Option γ} {g : β → Option δ} {Q : γ → δ → Prop} (h : Both x y P) (k : ∀ a b, P a b → Both (f a) (g b) Q) : Both (x.bind f) (y.bind g) Q := by
 obtain ⟨a, b, rfl, rfl, hp⟩ := h
 exact k a b hp
theorem Both.imp {α β : Type} {x : Option α} {y : Option β} {P Q : α → β → Prop} (h : Both x y P) (k : ∀ a b, P a b → Q a b) : Both x y Q := by
 obtain ⟨a, b, h1, h2, hp⟩ := h
 exact ⟨a, b, h1, h2, k a b hp⟩
theorem Both.eq {α : Type} {x y : Option α} (h : Both x y Eq) : x = y := by
 obtain ⟨a, b, h1, h2, rfl⟩ := h
 rw [h1, h2]
/-- a step of two loops -/
def StepTo {S S' A A' : Type} (R : S → S' → Prop) (Q : A → A' → Prop) : S ⊕ A → S' ⊕ A' → Prop
 | .inl s, .inl t => R s t
 | .inr a, .inr b => Q a b
 | _, _ => False
theorem Both.loop {S S' A A' : Type} {f : S → Option (S ⊕ A)} {g : S' → Option (S' ⊕ A')} (R : S → S' → Prop) (Q : A → A' → Prop) (m : S → Nat)
  (h : ∀ s t, R s t → Both (f s) (g t) (StepTo (fun s' t' => R s' t' ∧ m s' < m s) Q)) : ∀ s t, R s t → Both (V.loop f s) (V.loop g t) Q := by
 refine loop_sim R Q m fun s t hr => ?_
 obtain ⟨a, b, h1, h2, hp⟩ := h s t hr
 cases a with
 | inl s' =>
  cases b with
  | inl t' => exact .inl ⟨s', t', h1, h2, hp.1, hp.2⟩
  | inr _ => exact hp.elim
 | inr a =>
  cases b with
  | inl _ => exact hp.elim
  | inr b => exact .inr ⟨a, b, h1, h2, hp⟩
/-! ### Loops through lists -/
theorem overL_both {X S S' A A' : Type} {f : Nat → X → S → Option (S ⊕ A)} {g : Nat → X → S' → Option (S' ⊕ A')} {fin : S → Option A} {fin' : S' → Option A'} (R : Nat → S → S' → Prop) (Q : A → A' → Prop) :
  ∀ (l : List X) (n : Nat) (s : S) (t : S'), (∀ k x s t, l[k]? = some x → R (n + k) s t → Both (f (n + k) x s) (g (n + k) x t) (StepTo (R (n + k + 1)) Q)) → (∀ s t, R (n + l.length) s t → Both (fin s) (fin' t) Q) →
   R n s t → Both (overL f fin n l s) (overL g fin' n l t) Q
 | [], n, s, t, _, hf, hr => by rw [overL_nil, overL_nil]; exact hf s t hr
 | x :: l, n, s, t, h, hf, hr => by
  obtain ⟨a, b, h1, h2, hp⟩ := h 0 x s t rfl hr
  rw [Nat.add_zero] at h1 h2 hp
  cases a with
  | inl s' =>
   cases b with
   | inl t' =>
    rw [overL_next h1, overL_next h2]
    refine overL_both R Q l (n + 1) s' t' (fun k x s t hk hr => ?_) (fun s t hr => hf s t (by rw [List.length_cons]; rwa [show n + (l.length + 1) = n + 1 + l.length by omega])) hp
    have := h (k + 1) x s t (by simpa using hk) (by rwa [show n + (k + 1) = n + 1 + k by omega])
    rwa [show n + (k + 1) = n + 1 + k by omega] at this
   | inr b => exact hp.elim
  | inr a =>
   cases b with
   | inl _ => exact hp.elim
   | inr b => rw [overL_exit h1, overL_exit h2]; exact .mk hp
/-- a loop that always goes on -/
theorem overL_inv {X S A : Type} {f : Nat → X → S → Option (S ⊕ A)} {fin : S → Option A} (F : Nat → S) : ∀ (l : List X) (n : Nat), (∀ k x, l[k]? = some x → f (n + k) x (F (n + k)) = some (.inl (F (n + k + 1)))) → overL f fin n l (F n) = fin (F (n + l.length))
 | [], n, _ => by rw [overL_nil]; rfl
 | x :: l, n, h => by
  have h0 := h 0 x rfl
  rw [Nat.add_zero] at h0
  rw [overL_next h0, overL_inv F l (n + 1) (fun k x hk => ?_), List.length_cons, show n + (l.length + 1) = n + 1 + l.length by omega]
  have := h (k + 1) x (by simpa using hk)
  rwa [show n + (k + 1) = n + 1 + k by omega] at this
theorem some_dec {b : Bool} {p : Prop} [Decidable p] (h : b = true ↔ p) : some b = some (decide p) := by
 congr 1
 cases b <;> simp_all
/-! ### Bitmaps -/
def Bmp (w h : Int) (p : List Int) : Prop := 0 ≤ w ∧ 0 ≤ h ∧ w ≤ 200 ∧ h ≤ 200 ∧ w * h ≤ 8192 ∧ (p.length : Int) = w * h ∧ ∀ x ∈ p, x = 0 ∨ x = 1
/-- a pixel, white outside -/
def pixA (w h : Int) (p : List Int) (x y : Int) : Int := if 0 ≤ x ∧ 0 ≤ y ∧ x < w ∧ y < h then rd p (y * w + x) else 0
theorem idx_in {w h x y : Int} (hx : 0 ≤ x) (hxw : x < w) (hy : 0 ≤ y) (hyh : y < h) : 0 ≤ y * w ∧ 0 ≤ y * w + x ∧ y * w + x < w * h := by
 have h1 : 0 ≤ y * w := Int.mul_nonneg hy (by omega)
 have h2 : (y + 1) * w ≤ h * w := Int.mul_le_mul_of_nonneg_right (by omega) (by omega)
 rw [Int.add_mul, Int.one_mul, Int.mul_comm h w] at h2
 exact ⟨h1, by omega, by omega⟩
theorem rd_mem {l : List Int} {i : Int} (h0 : 0 ≤ i) (h1 : i < (l.length : Int)) : rd l i ∈ l := List.mem_of_getElem? (rd_get h0 h1)
theorem Bmp.pix {w h : Int} {p : List Int} (hb : Bmp w h p) {x y : Int} : pixA w h p x y = 0 ∨ pixA w h p x y = 1 := by
 obtain ⟨h0, h1, h2, h3, h4, h5, h6⟩ := hb
 unfold pixA
 split
 ·rename_i q
  obtain ⟨q0, q1, q2, q3⟩ := q
  have := idx_in q0 q2 q1 q3
  exact h6 _ (rd_mem this.2.1 (by omega))
 ·exact .inl rfl
theorem fits_eq (w h : Int) : bitmap_fits w h = ref05_Sides w h := by rw [bitmap_fits_eq, bitmap_fits_b, ref05_Sides_eq]
theorem sides_some (w h : Int) : ∃ b, ref05_Sides w h = some b ∧ (b = true → 0 ≤ w ∧ 0 ≤ h ∧ w ≤ 200 ∧ h ≤ 200 ∧ w * h ≤ 8192) := by
 rw [ref05_Sides_eq]
 simp only [iteD]
 by_cases h1 : w ≥ 0
 ·by_cases h2 : h ≥ 0
  ·by_cases h3 : w ≤ 200
   ·by_cases h4 : h ≤ 200
    ·refine ⟨_, by rw [if_pos h1, if_pos h2, if_pos h3, if_pos h4], fun hh => ?_⟩
     have b1 : w * h ≤ 200 * h := Int.mul_le_mul_of_nonneg_right h3 h2
     have b0 : 0 ≤ w * h := Int.mul_nonneg h1 h2
     rw [w64 (by omega)] at hh
     exact ⟨h1, h2, h3, h4, of_decide_eq_true hh⟩
    ·exact ⟨false, by rw [if_pos h1, if_pos h2, if_pos h3, if_neg h4], fun h => by cases h⟩
   ·exact ⟨false, by rw [if_pos h1, if_pos h2, if_neg h3], fun h => by cases h⟩
  ·exact ⟨false, by rw [if_pos h1, if_neg h2], fun h => by cases h⟩
 ·exact ⟨false, by rw [if_neg h1], fun h => by cases h⟩
theorem overL_all {X A : Type} (P : X → Bool) {step : Nat → X → Unit → Option (Unit ⊕ A)} {fin : Unit → Option A} {a : A} (h : ∀ n x, step n x () = if P x = true then some (.inl ()) else some (.inr a)) :
  ∀ (l : List X) (n : Nat), overL step fin n l () = if l.all P = true then fin () else some a
 | [], n => by simp [overL_nil]
 | x :: l, n => by
  by_cases hx : P x = true
  ·rw [overL_next (s' := ()) (by rw [h, if_pos hx]), overL_all P h l (n + 1)]
   simp [hx]
  ·rw [overL_exit (a := a) (by rw [h, if_neg hx])]
   simp [hx]
def sidesB (w h : Int) : Bool := decide (0 ≤ w ∧ 0 ≤ h ∧ w ≤ 200 ∧ h ≤ 200 ∧ w * h ≤ 8192)
theorem mul_small {w h : Int} (h0 : 0 ≤ w) (h1 : 0 ≤ h) (h2 : w ≤ 200) (h3 : h ≤ 200) : 0 ≤ w * h ∧ w * h ≤ 40000 := by
 have a := Int.mul_nonneg h0 h1
 have b : w * h ≤ 200 * 200 := Int.mul_le_mul h2 h3 h1 (by decide)
 omega
theorem Sides_is (w h : Int) : ref05_Sides w h = some (sidesB w h) := by
 rw [ref05_Sides_eq]
 unfold sidesB
 simp only [iteD]
 by_cases h0 : w ≥ 0 <;> by_cases h1 : h ≥ 0 <;> by_cases h2 : w ≤ 200 <;> by_cases h3 : h ≤ 200 <;> simp only [h0, h1, h2, h3, if_true, if_false, false_and, and_false, true_and, decide_false, show (0 ≤ w) = (w ≥ 0) from rfl, show (0 ≤ h) = (h ≥ 0) from rfl]
 obtain ⟨a, b⟩ := mul_small h0 h1 h2 h3
 rw [w64 (by omega)]
theorem sidesB_iff {w h : Int} : sidesB w h = true ↔ 0 ≤ w ∧ 0 ≤ h ∧ w ≤ 200 ∧ h ≤ 200 ∧ w * h ≤ 8192 := by unfold sidesB; rw [decide_eq_true_eq]
def bmpB (w h : Int) (p : List Int) : Bool := sidesB w h && (decide ((p.length : Int) = w * h) && p.all fun x => decide (x ≤ 1))
theorem bmpB_of {w h : Int} {p : List Int} (hp : ∀ x ∈ p, 0 ≤ x) (hb : bmpB w h p = true) : Bmp w h p := by
 unfold bmpB at hb
 rw [Bool.and_eq_true, Bool.and_eq_true, sidesB_iff, decide_eq_true_eq, List.all_eq_true] at hb
 obtain ⟨⟨a, b, c, d, e⟩, f, g⟩ := hb
 exact ⟨a, b, c, d, e, f, fun x hx => by have := hp x hx; have := of_decide_eq_true (g x hx); omega⟩
theorem Bmp.b {w h : Int} {p : List Int} (hb : Bmp w h p) : bmpB w h p = true := by
 obtain ⟨a, b, c, d, e, f, g⟩ := hb
 unfold bmpB
 rw [Bool.and_eq_true, Bool.and_eq_true, sidesB_iff, decide_eq_true_eq, List.all_eq_true]
 exact ⟨⟨a, b, c, d, e⟩, f, fun x hx => by rcases g x hx with rfl | rfl <;> decide⟩
theorem Valid05_is {w h : Int} {p : List Int} (hl : p.length ≤ 9223372036854775807) : ref05_Valid w h p = some (bmpB w h p) := by
 rw [ref05_Valid_eq, Sides_is]
 unfold bmpB
 simp only [Option.bind_some]
 by_cases hs : sidesB w h = true
 ·obtain ⟨a, b, c, d, e⟩ := sidesB_iff.1 hs
  obtain ⟨m0, m1⟩ := mul_small a b c d
  rw [w64 (by omega), hs, ref05_Valid_loop4_over p hl (), overL_all (fun x => decide (x ≤ 1)) (a := Sum.inr false)]
  ·by_cases hq : (p.length : Int) = w * h
   ·by_cases ha : (p.all fun x => decide (x ≤ 1)) = true
    ·simp [hq, ha]
    ·simp [hq, ha]
   ·simp [hq]
  ·intro n x
   unfold ref05_Valid_loop4_step
   simp only [iteD]
   by_cases hx : x > 1
   ·rw [if_pos hx, if_neg (by omega)]
   ·rw [if_neg hx, if_pos (by omega)]
 ·simp [hs]
theorem bitmapValid_is {w h : Int} {p : List Int} (hl : p.length ≤ 9223372036854775807) : bitmap_Valid w h p = some (bmpB w h p) := by
 rw [← Valid05_is hl, bitmap_Valid_eq, ref05_Valid_eq, fits_eq]
 rfl
theorem bmpErr {w h : Int} : bitmap_fits w h = some (sidesB w h) := by rw [fits_eq, Sides_is]
theorem new_loop (n : Nat) (hn : n ≤ 100000) : ∀ s : Int × List Int, 0 ≤ s.1 ∧ s.1 ≤ (n : Int) ∧ s.2 = List.replicate n 0 → ∃ a, loop (bitmap_New_loop5 0 (List.replicate n 0)) s = some a ∧ a = List.replicate n 0 := by
 refine loop_ind (fun (s : Int × List Int) => 0 ≤ s.1 ∧ s.1 ≤ (n : Int) ∧ s.2 = List.replicate n 0) (fun (s : Int × List Int) => ((n : Int) - s.1).toNat) (fun (a : List Int) => a = List.replicate n 0) ?_
 rintro ⟨i, b⟩ ⟨h1, h2, h3⟩
 simp only at h1 h2 h3
 subst h3
 unfold bitmap_New_loop5
 simp only [iteD, List.length_replicate]
 by_cases h : i < (n : Int)
 ·rw [if_pos h, if_pos ⟨h1, by omega⟩, w8, w64 (by omega)]
  refine .inl ⟨_, rfl, ⟨by show 0 ≤ i + 1; omega, by show i + 1 ≤ _; omega, ?_⟩, ?_⟩
  ·show (List.replicate n (0 : Int)).set i.toNat (0 % 256) = _
   simp
  ·show ((n : Int) - (i + 1)).toNat < ((n : Int) - i).toNat
   omega
 ·rw [if_neg h]
  exact .inr ⟨_, rfl, rfl⟩
def blankP (w h : Int) : List Int := List.replicate (w * h).toNat 0
theorem new_ok {w h : Int} (hs : sidesB w h = true) : bitmap_New w h 0 = some (w, h, 0, blankP w h) := by
 obtain ⟨h0, h1, h2, h3, h4⟩ := sidesB_iff.1 hs
 obtain ⟨m0, m1⟩ := mul_small h0 h1 h2 h3
 have n0 : ¬ w < 0 := by omega
 have n1 : ¬ h < 0 := by omega
 rw [bitmap_New_eq, bitmap_New_b]
 simp only [iteD, n0, n1, if_false, decide_true, Bool.not_true, Bool.false_eq_true, Option.bind_some]
 rw [bitmap_blank_eq, bitmap_blank_b, bmpErr, hs]
 simp only [Option.bind_some, Bool.not_true, Bool.false_eq_true, if_false]
 rw [w64 (by omega), if_pos (by omega)]
 simp only [Option.bind_some]
 obtain ⟨a, e1, e2⟩ := new_loop (w * h).toNat (by omega) (0, List.replicate (w * h).toNat 0) ⟨by simp, by show (0 : Int) ≤ _; omega, rfl⟩
 rw [e1, e2]
 rfl
theorem new_bad {w h : Int} (hs : ¬ sidesB w h = true) : ∃ e, e ≠ 0 ∧ bitmap_New w h 0 = some (0, 0, e, []) := by
 have hsf : sidesB w h = false := by simpa using hs
 rw [bitmap_New_eq, bitmap_New_b]
 have e4 : (bitmap_blank w h) = some (0, 0, 4, []) := by
  rw [bitmap_blank_eq, bitmap_blank_b, bmpErr, hsf]; simp
 have el : loop (bitmap_New_loop5 0 []) (0, []) = some [] := by
  obtain ⟨a, e1, e2⟩ := new_loop 0 (by decide) (0, []) ⟨by simp, by simp, rfl⟩
  exact e1.trans (by rw [e2]; rfl)
 simp only [iteD]
 by_cases n0 : w < 0
 ·exact ⟨2, by decide, by simp [n0]⟩
 ·by_cases n1 : h < 0
  ·exact ⟨2, by decide, by simp [n0, n1]⟩
  ·refine ⟨4, by decide, ?_⟩
   simp only [n0, n1, if_false, decide_true, Bool.not_true, Bool.false_eq_true, Option.bind_some, e4, el]
/-- what New's error says -/
theorem new_err (w h : Int) : ∃ a b c e, bitmap_New w h 0 = some (a, b, e, c) ∧ ref05_Sides w h = some (decide (e = 0)) := by
 rw [Sides_is]
 by_cases hs : sidesB w h = true
 ·exact ⟨_, _, _, _, new_ok hs, by rw [hs]; rfl⟩
 ·obtain ⟨e, he, h1⟩ := new_bad hs
  exact ⟨_, _, _, _, h1, by simp [he, hs]⟩
theorem blank_bmp {w h : Int} (hs : sidesB w h = true) : Bmp w h (blankP w h) := by
 obtain ⟨h0, h1, h2, h3, h4⟩ := sidesB_iff.1 hs
 obtain ⟨m0, m1⟩ := mul_small h0 h1 h2 h3
 refine ⟨h0, h1, h2, h3, h4, by simp [blankP]; omega, fun x hx => ?_⟩
 exact .inl (List.eq_of_mem_replicate hx)
/-! ### Loops that test -/
theorem overL_allN {X A : Type} {P : Nat → X → Prop} {step : Nat → X → Unit → Option (Unit ⊕ A)} {fin : Unit → Option A} {a : A} : ∀ (l : List X) (n : Nat),
  (∀ k x, l[k]? = some x → P (n + k) x ∧ step (n + k) x () = some (.inl ()) ∨ ¬ P (n + k) x ∧ step (n + k) x () = some (.inr a)) →
  (∀ k x, l[k]? = some x → P (n + k) x) ∧ overL step fin n l () = fin () ∨ (¬ ∀ k x, l[k]? = some x → P (n + k) x) ∧ overL step fin n l () = some a
 | [], n, _ => .inl ⟨fun k x h => by simp at h, rfl⟩
 | x :: l, n, h => by
  have h0 := h 0 x rfl
  rw [Nat.add_zero] at h0
  rcases h0 with ⟨h1, h2⟩ | ⟨h1, h2⟩
  ·rw [overL_next h2]
   rcases overL_allN l (n + 1) (fun k y hk => by have := h (k + 1) y (by simpa using hk); rwa [show n + (k + 1) = n + 1 + k by omega] at this) with ⟨g1, g2⟩ | ⟨g1, g2⟩
   ·refine .inl ⟨fun k y hk => ?_, g2⟩
    cases k with
    | zero => simp at hk; subst hk; rw [Nat.add_zero]; exact h1
    | succ k => have := g1 k y (by simpa using hk); rwa [show n + 1 + k = n + (k + 1) by omega] at this
   ·refine .inr ⟨fun q => g1 fun k y hk => ?_, g2⟩
    have := q (k + 1) y (by simpa using hk)
    rwa [show n + (k + 1) = n + 1 + k by omega] at this
  ·exact .inr ⟨fun q => h1 (by simpa using q 0 x rfl), overL_exit h2⟩
/-- an invariant of a loop through a list -/
theorem overL_keep {X S : Type} {step : Nat → X → S → Option (S ⊕ S)} (P : Nat → S → Prop) : ∀ (l : List X) (n : Nat) (s : S), P n s → (∀ k x s, l[k]? = some x → P (n + k) s → ∃ s', step (n + k) x s = some (.inl s') ∧ P (n + k + 1) s') →
  ∃ s', overL step (fun s => some s) n l s = some s' ∧ P (n + l.length) s'
 | [], n, s, h, _ => ⟨s, rfl, h⟩
 | x :: l, n, s, h, hs => by
  obtain ⟨s', h1, h2⟩ := hs 0 x s rfl h
  rw [Nat.add_zero] at h1 h2
  obtain ⟨r, h3, h4⟩ := overL_keep P l (n + 1) s' h2 (fun k y t hk ht => by
   have := hs (k + 1) y t (by simpa using hk) (by rwa [show n + (k + 1) = n + 1 + k by omega])
   rwa [show n + (k + 1) = n + 1 + k by omega] at this)
  rw [overL_next h1]
  exact ⟨r, h3, by rw [List.length_cons, show n + (l.length + 1) = n + 1 + l.length by omega]; exact h4⟩
/-- a loop that goes through a list and always goes on -/
theorem overL_ends {X S : Type} {step : Nat → X → S → Option (S ⊕ S)} (h : ∀ n x s, ∃ s', step n x s = some (.inl s')) : ∀ (l : List X) (n : Nat) (s : S), ∃ r, overL step (fun s => some s) n l s = some r
 | [], n, s => ⟨s, rfl⟩
 | x :: l, n, s => by
  obtain ⟨s', h1⟩ := h n x s
  rw [overL_next h1]
  exact overL_ends h l (n + 1) s'
theorem Bmp.set {w h : Int} {p : List Int} (hb : Bmp w h p) {i : Nat} {b : Int} (h01 : b = 0 ∨ b = 1) : Bmp w h (p.set i b) := by
 obtain ⟨h0, h1, h2, h3, h4, h5, h6⟩ := hb
 refine ⟨h0, h1, h2, h3, h4, by rw [List.length_set]; exact h5, fun x hx => ?_⟩
 rcases List.mem_or_eq_of_mem_set hx with q | rfl
 ·exact h6 x q
 ·exact h01
def RefOk (t dx dy k : Int) : Prop := (t = 0 ∨ t = 1) ∧ (k = 0 ∨ k = 1) ∧ -200 ≤ dx ∧ dx ≤ 200 ∧ -200 ≤ dy ∧ dy ≤ 200
instance (t dx dy k : Int) : Decidable (RefOk t dx dy k) := by unfold RefOk; infer_instance
theorem refineValid_is (t dx dy : Int) (o4 : Bool) (k : Int) : refine_Valid t dx dy o4 k = some (decide (RefOk t dx dy k)) := by
 rw [refine_Valid_eq]
 simp only [iteD, imax_eq, imin_eq, w64s]
 repeat' split
 all_goals
  refine some_dec ?_
  unfold RefOk
  simp only [decide_eq_true_eq, Bool.false_eq_true, true_iff, false_iff]
  omega
theorem gridAt_is {w h : Int} {p : List Int} (hb : Bmp w h p) (x y : Int) : refine_grid_at w h p x y = some (pixA w h p x y) := by
 have hb' := hb
 obtain ⟨h0, h1, h2, h3, h4, h5, h6⟩ := hb
 rw [refine_grid_at_eq]
 unfold pixA
 by_cases q : 0 ≤ x ∧ 0 ≤ y ∧ x < w ∧ y < h
 ·obtain ⟨a0, a1, a2⟩ := idx_in q.1 q.2.2.1 q.2.1 q.2.2.2
  obtain ⟨q0, q1, q2, q3⟩ := q
  have e : ((if decide (x < 0) = true then some true else if decide (y < 0) = true then some true else if decide (x ≥ w) = true then some true else some (decide (y ≥ h))) : Option Bool) = some false := by
   rw [if_neg (by simp; omega), if_neg (by simp; omega), if_neg (by simp; omega)]; simp; omega
  have hr : (if 0 ≤ x ∧ 0 ≤ y ∧ x < w ∧ y < h then rd p (y * w + x) else 0) = rd p (y * w + x) := if_pos ⟨q0, q1, q2, q3⟩
  rw [e, hr]
  simp only [Option.bind_some, Bool.false_eq_true, if_false]
  rw [w64 (n := y * w) (by omega), w64 (n := y * w + x) (by omega), if_pos (by omega)]
 ·have e : ((if decide (x < 0) = true then some true else if decide (y < 0) = true then some true else if decide (x ≥ w) = true then some true else some (decide (y ≥ h))) : Option Bool) = some true := by
   simp only [iteD]
   by_cases q0 : x < 0
   ·rw [if_pos q0]
   ·by_cases q1 : y < 0
    ·rw [if_neg q0, if_pos q1]
    ·by_cases q2 : x ≥ w
     ·rw [if_neg q0, if_neg q1, if_pos q2]
     ·rw [if_neg q0, if_neg q1, if_neg q2]; simp; omega
  rw [e, if_neg q]
  simp
/-! ### Contexts -/
def ar2 (d : Int × Int) : Arr2 := ⟨d.1, d.2⟩
/-- the context of a pixel -/
def ctxV (w h : Int) (p : List Int) (x y : Int) : List (Int × Int) → Int → Int
 | [], n => n
 | d :: l, n => ctxV w h p x y l (2 * n + pixA w h p (x + d.1) (y + d.2))
theorem ctxV_range {w h : Int} {p : List Int} (hb : Bmp w h p) {x y : Int} : ∀ (l : List (Int × Int)) (n : Int) (m : Nat), 0 ≤ n → n < 2 ^ m → 0 ≤ ctxV w h p x y l n ∧ ctxV w h p x y l n < 2 ^ (m + l.length)
 | [], n, m, h0, h1 => ⟨h0, h1⟩
 | d :: l, n, m, h0, h1 => by
  have hp := hb.pix (x := x + d.1) (y := y + d.2)
  have := ctxV_range hb (x := x) (y := y) l (2 * n + pixA w h p (x + d.1) (y + d.2)) (m + 1) (by omega) (by rw [Int.pow_succ]; omega)
  simp only [ctxV, List.length_cons]
  rwa [show m + (l.length + 1) = m + 1 + l.length by omega]
theorem pow_small {m : Nat} (h : m ≤ 40) : (2 : Int) ^ m ≤ 1099511627776 := by
 have := Nat.pow_le_pow_right (n := 2) (by decide) h
 have e : (2 : Nat) ^ m ≤ 1099511627776 := Nat.le_trans this (by decide)
 have e2 := Int.ofNat_le.2 e
 rw [Int.natCast_pow] at e2
 exact e2
def newL (t : Int) : List (Int × Int) := if t = 0 then [(-1, -1), (0, -1), (1, -1), (-1, 0)] else [(0, -1), (-1, 0)]
def besL : List (Int × Int) := [(0, 0), (-1, 0), (1, 0), (0, -1), (0, 1)]
def rctxN (t : Int) : Int := if t = 0 then 512 else 128
theorem newL_small (t : Int) : (newL t).length ≤ 4 ∧ ∀ d ∈ newL t, -8 ≤ d.1 ∧ d.1 ≤ 8 ∧ -8 ≤ d.2 ∧ d.2 ≤ 8 := by
 unfold newL
 split <;> decide
theorem rfresh_is (t : Int) : refine_fresh t = some ((newL t).map ar2) := by
 rw [refine_fresh_eq]
 unfold newL
 simp only [iteD]
 by_cases h : t = 0 <;> simp [h, ar2]
theorem rcontexts_is (t : Int) : refine_contexts t = some (rctxN t) := by
 rw [refine_contexts_eq, rfresh_is]
 simp only [Option.bind_some, List.length_map]
 rw [if_neg (by omega)]
 congr 1
 unfold newL rctxN
 split <;> decide
theorem ctxLoopF {F : Int × Int → Option ((Int × Int) ⊕ Int)} {w h : Int} {p : List Int} {x y : Int} (hb : Bmp w h p) (L : List (Int × Int))
  (hstep : ∀ (k : Nat) d n, L[k]? = some d → 0 ≤ n → n ≤ 1099511627776 → F (n, (k : Int)) = some (.inl (2 * n + pixA w h p (x + d.1) (y + d.2), ((k + 1 : Nat) : Int)))) (hend : ∀ n, F (n, (L.length : Int)) = some (.inr n)) :
  ∀ (l : List (Int × Int)) (n : Int) (k m : Nat), L.drop k = l → k + l.length = L.length → 0 ≤ n → n < 2 ^ m → m + l.length ≤ 40 → loop F (n, (k : Int)) = some (ctxV w h p x y l n)
 | [], n, k, m, hk, hl, h0, h1, _ => by
  rw [List.length_nil, Nat.add_zero] at hl
  rw [hl]
  exact loop_done (hend n)
 | d :: l, n, k, m, hk, hl, h0, h1, hm => by
  have hp := hb.pix (x := x + d.1) (y := y + d.2)
  have hget : L[k]? = some d := by
   have : (L.drop k)[0]? = some d := by rw [hk]; rfl
   simpa using this
  simp only [List.length_cons] at hl hm
  have hs := pow_small (m := m) (by omega)
  rw [loop_step (hstep k d n hget h0 (by omega))]
  rw [ctxLoopF hb L hstep hend l _ (k + 1) (m + 1) (by rw [← List.drop_drop, hk]; rfl) (by omega) (by omega) (by rw [Int.pow_succ]; omega) (by omega)]
  rfl
def rctx (t dx dy w h : Int) (p : List Int) (rw rh : Int) (rp : List Int) (x y : Int) : Int := ctxV rw rh rp (x - dx) (y - dy) besL (ctxV w h p x y (newL t) 0)
theorem rctx_range {t dx dy w h rw rh : Int} {p rp : List Int} (hb : Bmp w h p) (hr : Bmp rw rh rp) (x y : Int) : 0 ≤ rctx t dx dy w h p rw rh rp x y ∧ rctx t dx dy w h p rw rh rp x y < rctxN t := by
 have h1 := ctxV_range hb (x := x) (y := y) (newL t) 0 0 (by decide) (by decide)
 have h2 := ctxV_range hr (x := x - dx) (y := y - dy) besL _ _ h1.1 h1.2
 refine ⟨h2.1, ?_⟩
 have e : (2 : Int) ^ (0 + (newL t).length + besL.length) = rctxN t := by
  unfold newL rctxN
  split <;> decide
 rw [← e]; exact h2.2
theorem getL_len {α : Type} {l : List α} {k : Nat} {a : α} (h : l[k]? = some a) : k < l.length := lt_len_of_get h
theorem region_context_is {t dx dy k w h rw rh : Int} {p rp : List Int} {o4 : Bool} (ho : RefOk t dx dy k) (hb : Bmp w h p) (hr : Bmp rw rh rp) {x y : Int} (hx : -1000 ≤ x ∧ x ≤ 1000) (hy : -1000 ≤ y ∧ y ≤ 1000) :
  refine_region_context x y t dx dy o4 k w h p rw rh rp = some (rctx t dx dy w h p rw rh rp x y, t, dx, dy, o4, k, w, h, p, rw, rh, rp) := by
 obtain ⟨n1, n2⟩ := newL_small t
 obtain ⟨_, _, d1, d2, d3, d4⟩ := ho
 rw [refine_region_context_eq, rfresh_is, refine_beside_eq]
 simp only [Option.bind_some]
 have l1 := ctxLoopF (F := refine_region_context_loop3 x y w h p ((newL t).map ar2)) (x := x) (y := y) hb (newL t) (fun k d n hk h0 h1 => by
   have hk' := getL_len hk
   obtain ⟨q1, q2, q3, q4⟩ := n2 d (List.mem_of_getElem? hk)
   have hp := hb.pix (x := x + d.1) (y := y + d.2)
   unfold refine_region_context_loop3
   simp only [List.length_map, Int.toNat_natCast, List.getElem?_map, hk, Option.map_some, Option.bind_some, ar2]
   rw [if_pos (by simp; omega), if_pos (by omega), if_pos (by decide), if_pos (by decide), w64 (n := x + d.1) (by omega), w64 (n := y + d.2) (by omega), gridAt_is hb]
   simp only [Option.bind_some]
   rw [w64 (n := 2 * n) (by omega), w64 (n := (k : Int) + 1) (by omega), w64 (n := pixA w h p (x + d.1) (y + d.2)) (by omega), w64 (by omega)]
   rfl) (fun n => by
   unfold refine_region_context_loop3
   simp only [List.length_map]
   rw [if_neg (by simp)]) (newL t) 0 0 0 rfl (by simp) (by decide) (by decide) (by omega)
 rw [show ((0 : Int), (0 : Int)) = (0, ((0 : Nat) : Int)) from rfl, l1]
 simp only [Option.bind_some]
 have r1 := ctxV_range hb (x := x) (y := y) (newL t) 0 0 (by decide) (by decide)
 have l2 := ctxLoopF (F := refine_region_context_loop8 x y dx dy rw rh rp (besL.map ar2)) (x := x - dx) (y := y - dy) hr besL (fun k d n hk h0 h1 => by
   have hk' := getL_len hk
   obtain ⟨q1, q2, q3, q4⟩ : -8 ≤ d.1 ∧ d.1 ≤ 8 ∧ -8 ≤ d.2 ∧ d.2 ≤ 8 := (show ∀ d ∈ besL, -8 ≤ d.1 ∧ d.1 ≤ 8 ∧ -8 ≤ d.2 ∧ d.2 ≤ 8 by decide) d (List.mem_of_getElem? hk)
   have hp := hr.pix (x := x - dx + d.1) (y := y - dy + d.2)
   unfold refine_region_context_loop8
   simp only [List.length_map, Int.toNat_natCast, List.getElem?_map, hk, Option.map_some, Option.bind_some, ar2]
   rw [if_pos (by simp; omega), if_pos (by omega), if_pos (by decide), if_pos (by decide), w64 (n := x - dx) (by omega), w64 (n := y - dy) (by omega), w64 (n := x - dx + d.1) (by omega), w64 (n := y - dy + d.2) (by omega), gridAt_is hr]
   simp only [Option.bind_some]
   rw [w64 (n := 2 * n) (by omega), w64 (n := (k : Int) + 1) (by have : besL.length = 5 := rfl; omega), w64 (n := pixA rw rh rp (x - dx + d.1) (y - dy + d.2)) (by omega), w64 (by omega)]
   rfl) (fun n => by
   unfold refine_region_context_loop8
   simp only [List.length_map]
   rw [if_neg (by simp)]) besL (ctxV w h p x y (newL t) 0) 0 _ rfl rfl r1.1 r1.2 (by have : besL.length = 5 := rfl; omega)
 rw [show ((0 : Nat) : Int) = 0 from rfl] at l2
 rw [show [(Arr2.mk 0 0), (Arr2.mk (-1) 0), (Arr2.mk 1 0), (Arr2.mk 0 (-1)), (Arr2.mk 0 1)] = besL.map ar2 from rfl, l2]
 rfl
theorem region_context2_is {t dx dy k w h rw rh : Int} {p rp : List Int} {o4 : Bool} (ho : RefOk t dx dy k) (hb : Bmp w h p) (hr : Bmp rw rh rp) {x y : Int} (hx : -1000 ≤ x ∧ x ≤ 1000) (hy : -1000 ≤ y ∧ y ≤ 1000) :
  refine_region_context_2 x y t dx dy o4 k w h rw rh rp p = some (rctx t dx dy w h p rw rh rp x y, t, dx, dy, o4, k, w, h, rw, rh, rp, p) := by
 obtain ⟨n1, n2⟩ := newL_small t
 obtain ⟨_, _, d1, d2, d3, d4⟩ := ho
 rw [refine_region_context_2_eq, rfresh_is, refine_beside_eq]
 simp only [Option.bind_some]
 have l1 := ctxLoopF (F := refine_region_context_2_loop3 x y w h p ((newL t).map ar2)) (x := x) (y := y) hb (newL t) (fun k d n hk h0 h1 => by
   have hk' := getL_len hk
   obtain ⟨q1, q2, q3, q4⟩ := n2 d (List.mem_of_getElem? hk)
   have hp := hb.pix (x := x + d.1) (y := y + d.2)
   unfold refine_region_context_2_loop3
   simp only [List.length_map, Int.toNat_natCast, List.getElem?_map, hk, Option.map_some, Option.bind_some, ar2]
   rw [if_pos (by simp; omega), if_pos (by omega), if_pos (by decide), if_pos (by decide), w64 (n := x + d.1) (by omega), w64 (n := y + d.2) (by omega), gridAt_is hb]
   simp only [Option.bind_some]
   rw [w64 (n := 2 * n) (by omega), w64 (n := (k : Int) + 1) (by omega), w64 (n := pixA w h p (x + d.1) (y + d.2)) (by omega), w64 (by omega)]
   rfl) (fun n => by
   unfold refine_region_context_2_loop3
   simp only [List.length_map]
   rw [if_neg (by simp)]) (newL t) 0 0 0 rfl (by simp) (by decide) (by decide) (by omega)
 rw [show ((0 : Int), (0 : Int)) = (0, ((0 : Nat) : Int)) from rfl, l1]
 simp only [Option.bind_some]
 have r1 := ctxV_range hb (x := x) (y := y) (newL t) 0 0 (by decide) (by decide)
 have l2 := ctxLoopF (F := refine_region_context_2_loop8 x y dx dy rw rh rp (besL.map ar2)) (x := x - dx) (y := y - dy) hr besL (fun k d n hk h0 h1 => by
   have hk' := getL_len hk
   obtain ⟨q1, q2, q3, q4⟩ : -8 ≤ d.1 ∧ d.1 ≤ 8 ∧ -8 ≤ d.2 ∧ d.2 ≤ 8 := (show ∀ d ∈ besL, -8 ≤ d.1 ∧ d.1 ≤ 8 ∧ -8 ≤ d.2 ∧ d.2 ≤ 8 by decide) d (List.mem_of_getElem? hk)
   have hp := hr.pix (x := x - dx + d.1) (y := y - dy + d.2)
   unfold refine_region_context_2_loop8
   simp only [List.length_map, Int.toNat_natCast, List.getElem?_map, hk, Option.map_some, Option.bind_some, ar2]
   rw [if_pos (by simp; omega), if_pos (by omega), if_pos (by decide), if_pos (by decide), w64 (n := x - dx) (by omega), w64 (n := y - dy) (by omega), w64 (n := x - dx + d.1) (by omega), w64 (n := y - dy + d.2) (by omega), gridAt_is hr]
   simp only [Option.bind_some]
   rw [w64 (n := 2 * n) (by omega), w64 (n := (k : Int) + 1) (by have : besL.length = 5 := rfl; omega), w64 (n := pixA rw rh rp (x - dx + d.1) (y - dy + d.2)) (by omega), w64 (by omega)]
   rfl) (fun n => by
   unfold refine_region_context_2_loop8
   simp only [List.length_map]
   rw [if_neg (by simp)]) besL (ctxV w h p x y (newL t) 0) 0 _ rfl rfl r1.1 r1.2 (by have : besL.length = 5 := rfl; omega)
 rw [show ((0 : Nat) : Int) = 0 from rfl] at l2
 rw [show [(Arr2.mk 0 0), (Arr2.mk (-1) 0), (Arr2.mk 1 0), (Arr2.mk 0 (-1)), (Arr2.mk 0 1)] = besL.map ar2 from rfl, l2]
 rfl
/-! ### Nine that are alike -/
def flatB (dx dy rw rh : Int) (rp : List Int) (x y : Int) : Bool := (List.range 9).all fun i => decide (pixA rw rh rp (x - dx + ((i % 3 : Nat) : Int) - 1) (y - dy + ((i / 3 : Nat) : Int) - 1) = pixA rw rh rp (x - dx) (y - dy))
theorem flat_loop {dx dy k t rw rh : Int} {rp : List Int} (ho : RefOk t dx dy k) (hr : Bmp rw rh rp) {x y : Int} (hx : -1000 ≤ x ∧ x ≤ 1000) (hy : -1000 ≤ y ∧ y ≤ 1000) {F : Int → Option (Int ⊕ (Unit ⊕ (Int × Bool)))}
  (hF : ∀ v : Nat, F (v : Int) = if v < 9 then (if decide (pixA rw rh rp (x - dx + ((v % 3 : Nat) : Int) - 1) (y - dy + ((v / 3 : Nat) : Int) - 1) = pixA rw rh rp (x - dx) (y - dy)) = true then some (.inl ((v + 1 : Nat) : Int)) else some (.inr (.inr (0, false)))) else some (.inr (.inl ()))) :
  loop F 0 = some (if flatB dx dy rw rh rp x y = true then .inl () else .inr (0, false)) := by
 have key : ∀ d v : Nat, v + d = 9 → loop F (v : Int) = some (if ((List.range 9).drop v).all (fun i => decide (pixA rw rh rp (x - dx + ((i % 3 : Nat) : Int) - 1) (y - dy + ((i / 3 : Nat) : Int) - 1) = pixA rw rh rp (x - dx) (y - dy))) = true then .inl () else .inr (0, false)) := by
  intro d
  induction d with
  | zero =>
   intro v hv
   have : v = 9 := by omega
   subst this
   refine (loop_done (by rw [hF, if_neg (by omega)])).trans ?_
   rfl
  | succ d ih =>
   intro v hv
   have hd : (List.range 9).drop v = v :: (List.range 9).drop (v + 1) := by
    rw [List.drop_eq_getElem_cons (by simp; omega), List.getElem_range]
   rw [hd, List.all_cons]
   have hs := hF v
   rw [if_pos (by omega)] at hs
   by_cases q : pixA rw rh rp (x - dx + ((v % 3 : Nat) : Int) - 1) (y - dy + ((v / 3 : Nat) : Int) - 1) = pixA rw rh rp (x - dx) (y - dy)
   ·simp only [q, decide_true, if_true, Bool.true_and] at hs ⊢
    rw [loop_step hs, ih (v + 1) (by omega)]
   ·simp only [q, decide_false, Bool.false_eq_true, if_false, Bool.false_and] at hs ⊢
    rw [loop_done hs]
 exact key 9 0 rfl
theorem flat_is {t dx dy k w h rw rh : Int} {p rp : List Int} {o4 : Bool} (ho : RefOk t dx dy k) (hr : Bmp rw rh rp) {x y : Int} (hx : -1000 ≤ x ∧ x ≤ 1000) (hy : -1000 ≤ y ∧ y ≤ 1000) :
  refine_region_flat x y t dx dy o4 k w h p rw rh rp = some (if flatB dx dy rw rh rp x y = true then pixA rw rh rp (x - dx) (y - dy) else 0, flatB dx dy rw rh rp x y, t, dx, dy, o4, k, w, h, p, rw, rh, rp) := by
 obtain ⟨_, _, d1, d2, d3, d4⟩ := id ho
 rw [refine_region_flat_eq, w64 (n := x - dx) (by omega), w64 (n := y - dy) (by omega)]
 try simp only
 rw [gridAt_is hr]
 simp only [Option.bind_some]
 rw [flat_loop ho hr hx hy (fun v => ?_)]
 ·cases flatB dx dy rw rh rp x y <;> rfl
 ·unfold refine_region_flat_loop3
  by_cases hv : v < 9
  ·simp only [show (v : Int) < 9 by omega, decide_true, if_true, hv, gridAt_is hr, tmod_pos (show (0 : Int) ≤ (v : Int) by omega), tdiv_pos (show (0 : Int) ≤ (v : Int) by omega)]
   rw [w64 (n := x - dx) (by omega), w64 (n := y - dy) (by omega), w64 (n := (v : Int) / 3) (by omega), w64 (n := x - dx + (v : Int) % 3) (by omega), w64 (n := x - dx + (v : Int) % 3 - 1) (by omega), w64 (n := y - dy + (v : Int) / 3) (by omega), w64 (n := y - dy + (v : Int) / 3 - 1) (by omega), w64 (n := (v : Int) + 1) (by omega)]
   simp only [Option.bind_some, show ((v % 3 : Nat) : Int) = (v : Int) % 3 by omega, show ((v / 3 : Nat) : Int) = (v : Int) / 3 by omega, show ((v + 1 : Nat) : Int) = (v : Int) + 1 by omega]
   by_cases q : pixA rw rh rp (x - dx + (v : Int) % 3 - 1) (y - dy + (v : Int) / 3 - 1) = pixA rw rh rp (x - dx) (y - dy)
   ·simp only [q, decide_true, Bool.not_true, Bool.false_eq_true, if_false, if_true]
   ·simp only [q, decide_false, Bool.not_false, Bool.false_eq_true, if_false, if_true]
  ·simp only [show ¬ (v : Int) < 9 by omega, decide_false, Bool.false_eq_true, if_false, hv]
theorem flat2_is {t dx dy k w h rw rh : Int} {p rp : List Int} {o4 : Bool} (ho : RefOk t dx dy k) (hr : Bmp rw rh rp) {x y : Int} (hx : -1000 ≤ x ∧ x ≤ 1000) (hy : -1000 ≤ y ∧ y ≤ 1000) :
  refine_region_flat_2 x y t dx dy o4 k w h rw rh rp p = some (if flatB dx dy rw rh rp x y = true then pixA rw rh rp (x - dx) (y - dy) else 0, flatB dx dy rw rh rp x y, t, dx, dy, o4, k, w, h, rw, rh, rp, p) := by
 obtain ⟨_, _, d1, d2, d3, d4⟩ := id ho
 rw [refine_region_flat_2_eq, w64 (n := x - dx) (by omega), w64 (n := y - dy) (by omega)]
 try simp only
 rw [gridAt_is hr]
 simp only [Option.bind_some]
 rw [flat_loop ho hr hx hy (fun v => ?_)]
 ·cases flatB dx dy rw rh rp x y <;> rfl
 ·unfold refine_region_flat_2_loop3
  by_cases hv : v < 9
  ·simp only [show (v : Int) < 9 by omega, decide_true, if_true, hv, gridAt_is hr, tmod_pos (show (0 : Int) ≤ (v : Int) by omega), tdiv_pos (show (0 : Int) ≤ (v : Int) by omega)]
   rw [w64 (n := x - dx) (by omega), w64 (n := y - dy) (by omega), w64 (n := (v : Int) / 3) (by omega), w64 (n := x - dx + (v : Int) % 3) (by omega), w64 (n := x - dx + (v : Int) % 3 - 1) (by omega), w64 (n := y - dy + (v : Int) / 3) (by omega), w64 (n := y - dy + (v : Int) / 3 - 1) (by omega), w64 (n := (v : Int) + 1) (by omega)]
   simp only [Option.bind_some, show ((v % 3 : Nat) : Int) = (v : Int) % 3 by omega, show ((v / 3 : Nat) : Int) = (v : Int) / 3 by omega, show ((v + 1 : Nat) : Int) = (v : Int) + 1 by omega]
   by_cases q : pixA rw rh rp (x - dx + (v : Int) % 3 - 1) (y - dy + (v : Int) / 3 - 1) = pixA rw rh rp (x - dx) (y - dy)
   ·simp only [q, decide_true, Bool.not_true, Bool.false_eq_true, if_false, if_true]
   ·simp only [q, decide_false, Bool.not_false, Bool.false_eq_true, if_false, if_true]
  ·simp only [show ¬ (v : Int) < 9 by omega, decide_false, Bool.false_eq_true, if_false, hv]
/-- is each pixel of a row with a flat reference as it is? -/
def tyB (dx dy w h : Int) (p : List Int) (rw rh : Int) (rp : List Int) (y : Int) : Bool := (List.range w.toNat).all fun (x : Nat) => !flatB dx dy rw rh rp (x : Int) y || decide (pixA rw rh rp ((x : Int) - dx) (y - dy) = pixA w h p (x : Int) y)
theorem typical_is {t dx dy k w h rw rh : Int} {p rp : List Int} {o4 : Bool} (ho : RefOk t dx dy k) (hb : Bmp w h p) (hr : Bmp rw rh rp) {y : Int} (hy : -1000 ≤ y ∧ y ≤ 1000) :
  refine_region_typical y t dx dy o4 k w h p rw rh rp = some (tyB dx dy w h p rw rh rp y, t, dx, dy, o4, k, w, h, p, rw, rh, rp) := by
 have hw := hb.1
 have hw2 := hb.2.2.1
 have key : ∀ d n : Nat, n + d = w.toNat → loop (refine_region_typical_loop2 y w) ((n : Int), t, dx, dy, o4, k, w, h, p, rw, rh, rp) =
   some (if ((List.range w.toNat).drop n).all (fun (x : Nat) => !flatB dx dy rw rh rp (x : Int) y || decide (pixA rw rh rp ((x : Int) - dx) (y - dy) = pixA w h p (x : Int) y)) = true then .inl (t, dx, dy, o4, k, w, h, p, rw, rh, rp) else .inr (false, t, dx, dy, o4, k, w, h, p, rw, rh, rp)) := by
  intro d
  induction d with
  | zero =>
   intro n hn
   rw [List.drop_of_length_le (by simp; omega)]
   refine loop_done ?_
   unfold refine_region_typical_loop2
   simp only [iteD]
   rw [if_neg (by omega)]
   rfl
  | succ d ih =>
   intro n hn
   have hd : (List.range w.toNat).drop n = n :: (List.range w.toNat).drop (n + 1) := by
    rw [List.drop_eq_getElem_cons (by simp; omega), List.getElem_range]
   rw [hd, List.all_cons]
   have ihn := ih (n + 1) (by omega)
   have hs : refine_region_typical_loop2 y w ((n : Int), t, dx, dy, o4, k, w, h, p, rw, rh, rp) = if (!flatB dx dy rw rh rp (n : Int) y || decide (pixA rw rh rp ((n : Int) - dx) (y - dy) = pixA w h p (n : Int) y)) = true then some (.inl (((n + 1 : Nat) : Int), t, dx, dy, o4, k, w, h, p, rw, rh, rp)) else some (.inr (.inr (false, t, dx, dy, o4, k, w, h, p, rw, rh, rp))) := by
    unfold refine_region_typical_loop2
    simp only [iteD]
    rw [if_pos (by omega), flat_is ho hr (by omega) hy, w64 (n := (n : Int) + 1) (by omega)]
    simp only [Option.bind_some, gridAt_is hb]
    cases hf : flatB dx dy rw rh rp (n : Int) y with
    | false => rfl
    | true =>
     by_cases q : pixA rw rh rp ((n : Int) - dx) (y - dy) = pixA w h p (n : Int) y
     ·simp only [q, decide_true, if_true, Bool.not_true, Bool.false_eq_true, if_false, Bool.or_true]; rfl
     ·simp only [q, decide_false, if_true, Bool.not_true, Bool.not_false, Bool.false_eq_true, if_false, Bool.or_false]
   by_cases q : (!flatB dx dy rw rh rp (n : Int) y || decide (pixA rw rh rp ((n : Int) - dx) (y - dy) = pixA w h p (n : Int) y)) = true
   ·rw [if_pos q] at hs
    rw [loop_step hs, ihn, q, Bool.true_and]
   ·rw [if_neg q] at hs
    rw [loop_done hs, Bool.eq_false_iff.2 q, Bool.false_and]
    rfl
 rw [refine_region_typical_eq]
 have := key w.toNat 0 (by omega)
 rw [List.drop_zero] at this
 rw [show ((0 : Nat) : Int) = 0 from rfl] at this
 rw [this]
 unfold tyB
 cases (List.range w.toNat).all (fun (x : Nat) => !flatB dx dy rw rh rp (x : Int) y || decide (pixA rw rh rp ((x : Int) - dx) (y - dy) = pixA w h p (x : Int) y)) <;> rfl
/-! ### The events of a region -/
def pixEvR (ty : Bool) (t dx dy w h : Int) (p : List Int) (rw rh : Int) (rp : List Int) (y : Int) (n : Nat) : List (Int × Int) := (List.range n).flatMap fun (x : Nat) => if (ty && flatB dx dy rw rh rp (x : Int) y) = true then [] else [(rctx t dx dy w h p rw rh rp (x : Int) y, pixA w h p (x : Int) y)]
def rowEvR (o4 : Bool) (t dx dy w h : Int) (p : List Int) (rw rh : Int) (rp : List Int) (y : Int) : List (Int × Int) :=
 (if o4 = true then [(rctxN t, if tyB dx dy w h p rw rh rp y = true then 1 else 0)] else []) ++ pixEvR (o4 && tyB dx dy w h p rw rh rp y) t dx dy w h p rw rh rp y w.toNat
def allEvR (o4 : Bool) (t dx dy w h : Int) (p : List Int) (rw rh : Int) (rp : List Int) (n : Nat) : List (Int × Int) := (List.range n).flatMap fun (y : Nat) => rowEvR o4 t dx dy w h p rw rh rp (y : Int)
section
variable {ty o4 : Bool} {t dx dy k w h rw rh : Int} {p rp : List Int} {y : Int}
theorem pixEvR_succ {n : Nat} : pixEvR ty t dx dy w h p rw rh rp y (n + 1) = pixEvR ty t dx dy w h p rw rh rp y n ++ (if (ty && flatB dx dy rw rh rp (n : Int) y) = true then [] else [(rctx t dx dy w h p rw rh rp (n : Int) y, pixA w h p (n : Int) y)]) := by
 unfold pixEvR
 rw [List.range_succ, List.flatMap_append, List.flatMap_singleton]
theorem allEvR_succ {n : Nat} : allEvR o4 t dx dy w h p rw rh rp (n + 1) = allEvR o4 t dx dy w h p rw rh rp n ++ rowEvR o4 t dx dy w h p rw rh rp (n : Int) := by
 unfold allEvR
 rw [List.range_succ, List.flatMap_append, List.flatMap_singleton]
/-- how many contexts there are in all -/
def rctxA (t : Int) : Nat := (rctxN t).toNat + 1
theorem rctxA_is (t : Int) : ((rctxA t : Nat) : Int) = rctxN t + 1 ∧ rctxA t ≤ 513 ∧ 0 < rctxN t ∧ rctxN t ≤ 512 := by
 unfold rctxA rctxN
 split <;> decide
theorem pixEvR_ok (hb : Bmp w h p) (hr : Bmp rw rh rp) {n : Nat} : ∀ v ∈ pixEvR ty t dx dy w h p rw rh rp y n, EvOk (rctxA t) v := by
 intro v hv
 obtain ⟨x, _, hv⟩ := List.mem_flatMap.1 hv
 split at hv
 ·simp at hv
 ·rw [List.mem_singleton.1 hv]
  have h1 := rctx_range (t := t) (dx := dx) (dy := dy) hb hr (x : Int) y
  have h2 := (rctxA_is t).1
  exact ⟨⟨h1.1, by show rctx t dx dy w h p rw rh rp (x : Int) y < _; omega⟩, hb.pix⟩
theorem rowEvR_ok (hb : Bmp w h p) (hr : Bmp rw rh rp) : ∀ v ∈ rowEvR o4 t dx dy w h p rw rh rp y, EvOk (rctxA t) v := by
 intro v hv
 have h2 := rctxA_is t
 rcases List.mem_append.1 hv with hv | hv
 ·split at hv
  ·rw [List.mem_singleton.1 hv]
   refine ⟨⟨by show 0 ≤ rctxN t; omega, by show rctxN t < _; omega⟩, ?_⟩
   show (if _ then (1 : Int) else 0) = 0 ∨ _
   split <;> simp
  ·simp at hv
 ·exact pixEvR_ok hb hr v hv
theorem allEvR_ok (hb : Bmp w h p) (hr : Bmp rw rh rp) {n : Nat} : ∀ v ∈ allEvR o4 t dx dy w h p rw rh rp n, EvOk (rctxA t) v := by
 intro v hv
 obtain ⟨y, _, hy⟩ := List.mem_flatMap.1 hv
 exact rowEvR_ok hb hr v hy
theorem pixEvR_len : ∀ n : Nat, (pixEvR ty t dx dy w h p rw rh rp y n).length ≤ n
 | 0 => by simp [pixEvR]
 | n + 1 => by
  rw [pixEvR_succ, List.length_append]
  have := pixEvR_len n
  split <;> simp <;> omega
theorem rowEvR_len : (rowEvR o4 t dx dy w h p rw rh rp y).length ≤ 1 + w.toNat := by
 unfold rowEvR
 have := pixEvR_len (ty := o4 && tyB dx dy w h p rw rh rp y) (t := t) (dx := dx) (dy := dy) (w := w) (h := h) (p := p) (rw := rw) (rh := rh) (rp := rp) (y := y) w.toNat
 rw [List.length_append]
 split <;> simp <;> omega
theorem allEvR_len : ∀ n : Nat, (allEvR o4 t dx dy w h p rw rh rp n).length ≤ n * (1 + w.toNat)
 | 0 => by simp [allEvR]
 | n + 1 => by
  rw [allEvR_succ, List.length_append, Nat.add_mul, Nat.one_mul]
  have h1 := allEvR_len n
  have h2 := rowEvR_len (o4 := o4) (t := t) (dx := dx) (dy := dy) (w := w) (h := h) (p := p) (rw := rw) (rh := rh) (rp := rp) (y := (n : Int))
  omega
/-! ### They are put -/
def withR (e : EncS) (t dx dy : Int) (o4 : Bool) (k w h : Int) (p : List Int) (rw rh : Int) (rp : List Int) : Int × Int × Int × List Int × List Int × Int × Int × Int × Bool × Int × Int × Int × List Int × Int × Int × List Int :=
 (e.1, e.2.1, e.2.2.1, e.2.2.2.1, e.2.2.2.2, t, dx, dy, o4, k, w, h, p, rw, rh, rp)
def EncN (N : Nat) (e : EncS) : Prop := EncO e ∧ e.2.2.2.1.length = N
theorem EncN.all {N : Nat} {e : EncS} (h : EncN N e) {l : List (Int × Int)} (hl : ∀ v ∈ l, EvOk N v) : EncN N (encAll e l) ∧ (encAll e l).2.2.2.2.length ≤ e.2.2.2.2.length + 4 * l.length := by
 obtain ⟨h1, h2, h3⟩ := encAll_ok l e h.1 h.2 hl
 exact ⟨⟨h1, h2⟩, h3⟩
theorem rd_pix {w h : Int} {p : List Int} (hb : Bmp w h p) {x y : Int} (hx : 0 ≤ x) (hxw : x < w) (hy : 0 ≤ y) (hyh : y < h) : rd p (y * w + x) = pixA w h p x y := by
 unfold pixA; rw [if_pos ⟨hx, hy, hxw, hyh⟩]
theorem rput_row (ho : RefOk t dx dy k) (hb : Bmp w h p) (hr : Bmp rw rh rp) (hy : 0 ≤ y ∧ y < h) {e : EncS} (he : EncN (rctxA t) e) (hel : e.2.2.2.2.length ≤ 100000000) : ∀ d n : Nat, n + d = w.toNat →
  loop (refine_Put_loop20 0 w y ty) ((n : Int), withR (encAll e (pixEvR ty t dx dy w h p rw rh rp y n)) t dx dy o4 k w h p rw rh rp) = some (withR (encAll e (pixEvR ty t dx dy w h p rw rh rp y w.toNat)) t dx dy o4 k w h p rw rh rp)
 | 0, n, hn => by
  rw [Nat.add_zero] at hn
  subst hn
  refine loop_done ?_
  have hw := hb.1
  unfold refine_Put_loop20
  simp only [iteD, withR]
  rw [if_neg (by omega)]
 | d + 1, n, hn => by
  have hw := hb.1
  have hw2 := hb.2.2.1
  have hh2 := hb.2.2.2.1
  have hA := rctxA_is t
  have hcx := rctx_range (t := t) (dx := dx) (dy := dy) hb hr (n : Int) y
  have hp := hb.pix (x := (n : Int)) (y := y)
  obtain ⟨q1, q2⟩ := he.all (pixEvR_ok (ty := ty) (dx := dx) (dy := dy) hb hr (y := y) (n := n))
  have q3 := pixEvR_len (ty := ty) (t := t) (dx := dx) (dy := dy) (w := w) (h := h) (p := p) (rw := rw) (rh := rh) (rp := rp) (y := y) n
  have ih := rput_row ho hb hr hy he hel d (n + 1) (by omega)
  refine (loop_step ?_).trans ih
  rw [pixEvR_succ, encAll_app]
  generalize encAll e (pixEvR ty t dx dy w h p rw rh rp y n) = s at q1 q2 ⊢
  unfold refine_Put_loop20
  simp only [iteD, withR]
  rw [if_pos (by omega), flat_is ho hr (by omega) (by omega), w64 (n := (n : Int) + 1) (by omega)]
  simp only [Option.bind_some]
  have ev : ((if (!ty) = true then some true else some (!flatB dx dy rw rh rp (n : Int) y)) : Option Bool) = some (!(ty && flatB dx dy rw rh rp (n : Int) y)) := by cases ty <;> rfl
  rw [ev]
  simp only [Option.bind_some]
  cases hq : (ty && flatB dx dy rw rh rp (n : Int) y) with
  | true => rfl
  | false =>
   simp only [Bool.not_false, if_true, region_context_is ho hb hr (show -1000 ≤ (n : Int) ∧ (n : Int) ≤ 1000 by omega) (show -1000 ≤ y ∧ y ≤ 1000 by omega), Option.bind_some, gridAt_is hb, demon_same]
   rw [Int.zero_add, w64 (n := rctx t dx dy w h p rw rh rp (n : Int) y) (by omega), w64 (n := pixA w h p (n : Int) y) (by omega)]
   rw [put_is (v := (rctx t dx dy w h p rw rh rp (n : Int) y, pixA w h p (n : Int) y)) q1.1 ⟨by rw [q1.2]; exact ⟨hcx.1, by show rctx t dx dy w h p rw rh rp (n : Int) y < _; omega⟩, hp⟩ (by omega)]
   rfl
theorem rput_rows (ho : RefOk t dx dy k) (hb : Bmp w h p) (hr : Bmp rw rh rp) {e : EncS} (he : EncN (rctxA t) e) (hel : e.2.2.2.2.length ≤ 1000) : ∀ d n : Nat, n + d = h.toNat →
  loop (refine_Put_loop11 0 t o4 w h) ((n : Int), withR (encAll e (allEvR o4 t dx dy w h p rw rh rp n)) t dx dy o4 k w h p rw rh rp) = some (withR (encAll e (allEvR o4 t dx dy w h p rw rh rp h.toNat)) t dx dy o4 k w h p rw rh rp)
 | 0, n, hn => by
  rw [Nat.add_zero] at hn
  subst hn
  refine loop_done ?_
  have hh := hb.2.1
  unfold refine_Put_loop11
  simp only [iteD, withR]
  rw [if_neg (by omega)]
 | d + 1, n, hn => by
  have hw := hb.1
  have hw2 := hb.2.2.1
  have hh2 := hb.2.2.2.1
  have hA := rctxA_is t
  have hy : (0 : Int) ≤ (n : Int) ∧ (n : Int) < h := by omega
  obtain ⟨q1, q2⟩ := he.all (allEvR_ok (o4 := o4) (dx := dx) (dy := dy) hb hr (n := n))
  have q3 := allEvR_len (o4 := o4) (t := t) (dx := dx) (dy := dy) (w := w) (h := h) (p := p) (rw := rw) (rh := rh) (rp := rp) n
  have q4 : n * (1 + w.toNat) ≤ 200 * 201 := Nat.mul_le_mul (by omega) (by omega)
  have ih := rput_rows ho hb hr he hel d (n + 1) (by omega)
  refine (loop_step ?_).trans ih
  rw [allEvR_succ, encAll_app]
  generalize encAll e (allEvR o4 t dx dy w h p rw rh rp n) = s at q1 q2 ⊢
  unfold refine_Put_loop11
  simp only [iteD, withR]
  rw [if_pos (by omega), typical_is ho hb hr (by omega), w64 (n := (n : Int) + 1) (by omega)]
  unfold rowEvR
  have row : ∀ (ty : Bool) (s : EncS), EncN (rctxA t) s → s.2.2.2.2.length ≤ 100000000 → loop (refine_Put_loop20 0 w (n : Int) ty) (0, withR s t dx dy o4 k w h p rw rh rp) = some (withR (encAll s (pixEvR ty t dx dy w h p rw rh rp (n : Int) w.toNat)) t dx dy o4 k w h p rw rh rp) := fun ty s hs hsl => rput_row (ty := ty) (o4 := o4) ho hb hr hy hs hsl w.toNat 0 (by omega)
  cases o4 with
  | false =>
   have l1 := row false s q1 (by omega)
   simp only [Bool.false_eq_true, if_false, Option.bind_some, Bool.false_and, List.nil_append, withR] at l1 ⊢
   rw [l1]
   rfl
  | true =>
   simp only [if_true, Option.bind_some, Bool.true_and]
   have eb : ((if tyB dx dy w h p rw rh rp (n : Int) = true then some 1 else some 0) : Option Int) = some (if tyB dx dy w h p rw rh rp (n : Int) = true then 1 else 0) := by split <;> rfl
   have hv : EvOk s.2.2.2.1.length (rctxN t, if tyB dx dy w h p rw rh rp (n : Int) = true then 1 else 0) := by
    rw [q1.2]
    refine ⟨⟨by show 0 ≤ rctxN t; omega, by show rctxN t < _; omega⟩, ?_⟩
    show (if _ then (1 : Int) else 0) = 0 ∨ _
    split <;> simp
   rw [eb, rcontexts_is]
   simp only [Option.bind_some]
   rw [Int.zero_add, w64 (n := rctxN t) (by omega)]
   have hput := put_is q1.1 hv (by omega)
   simp only at hput
   rw [hput]
   simp only [Option.bind_some]
   obtain ⟨s1, s2, s3⟩ := encStep_ok q1.1 hv
   have l1 := row (tyB dx dy w h p rw rh rp (n : Int)) _ ⟨s1, by rw [s2, q1.2]⟩ (by omega)
   simp only [withR] at l1
   rw [l1]
   rfl
/-- the encoder behind all, and the code -/
noncomputable def refE (o4 : Bool) (t dx dy k w h : Int) (p : List Int) (rw rh : Int) (rp : List Int) : EncS := encAll (enc0 k (rctxA t)) (allEvR o4 t dx dy w h p rw rh rp h.toNat)
noncomputable def refC (o4 : Bool) (t dx dy k w h : Int) (p : List Int) (rw rh : Int) (rp : List Int) : List Int :=
 (refE o4 t dx dy k w h p rw rh rp).2.2.2.2 ++ tbl (refE o4 t dx dy k w h p rw rh rp).2.2.1 (endN (refE o4 t dx dy k w h p rw rh rp).2.1 (refE o4 t dx dy k w h p rw rh rp).2.2.1)
theorem refE_ok (ho : RefOk t dx dy k) (hb : Bmp w h p) (hr : Bmp rw rh rp) : EncN (rctxA t) (refE o4 t dx dy k w h p rw rh rp) ∧ (refE o4 t dx dy k w h p rw rh rp).2.2.2.2.length ≤ 4 * (h.toNat * (1 + w.toNat)) := by
 have h0 : EncN (rctxA t) (enc0 k (rctxA t)) := ⟨enc0_ok ho.2.1 _, by simp [enc0]⟩
 obtain ⟨q1, q2⟩ := h0.all (allEvR_ok (o4 := o4) (dx := dx) (dy := dy) hb hr (n := h.toNat))
 have q3 := allEvR_len (o4 := o4) (t := t) (dx := dx) (dy := dy) (w := w) (h := h) (p := p) (rw := rw) (rh := rh) (rp := rp) h.toNat
 refine ⟨q1, ?_⟩
 have : (enc0 k (rctxA t)).2.2.2.2.length = 0 := rfl
 unfold refE
 omega
theorem rencode_is (ho : RefOk t dx dy k) (hb : Bmp w h p) (hr : Bmp rw rh rp) : refine_Encode t dx dy o4 k w h p rw rh rp = some (refC o4 t dx dy k w h p rw rh rp, 0) := by
 have hk : k = 0 ∨ k = 1 := ho.2.1
 have hA := rctxA_is t
 have hl : ∀ {w h : Int} {p : List Int}, Bmp w h p → p.length ≤ 9223372036854775807 := fun hb => by
  obtain ⟨b0, b1, b2, b3, b4, b5, b6⟩ := hb
  have := mul_small b0 b1 b2 b3
  omega
 rw [refine_Encode_eq, refineValid_is]
 simp only [ho, decide_true, Option.bind_some, Bool.not_true, Bool.false_eq_true, if_false]
 rw [refine_model_eq, rcontexts_is]
 simp only [Option.bind_some]
 rw [w64 (n := rctxN t + 1) (by omega), ← hA.1, coderNew_is hk (by omega)]
 simp only [Option.bind_some]
 rw [newEncoder_is hk (by omega)]
 simp only [Option.bind_some, Sum.elim_inl]
 have hbad : coder_Encoder_Put (-1) 0 (enc0 k (rctxA t)).1 (enc0 k (rctxA t)).2.1 (enc0 k (rctxA t)).2.2.1 (enc0 k (rctxA t)).2.2.2.1 (enc0 k (rctxA t)).2.2.2.2 = some (2, enc0 k (rctxA t)) := by
  rw [coder_Encoder_Put_eq, coder_Encoder_none_eq]
  simp only [Option.bind_some, Bool.false_eq_true, if_false, show (-1 : Int) < 0 by decide, decide_true, if_true, Sum.elim_inr]
 rw [refine_Put_eq, hbad]
 simp only [Option.bind_some, show ¬ ((2 : Int) = 7) by decide, decide_false, Bool.false_eq_true, if_false]
 rw [refineValid_is, bitmapValid_is (hl hb), bitmapValid_is (hl hr), hb.b, hr.b]
 simp only [ho, decide_true, Option.bind_some, Bool.not_true, Bool.false_eq_true, if_false]
 rw [coder_Encoder_Model_eq, coder_Encoder_none_eq]
 simp only [Option.bind_some, Bool.false_eq_true, if_false]
 have hst : (enc0 k (rctxA t)).2.2.2.1 = List.replicate (rctxA t) 0 := rfl
 rw [coder_clone_eq, hst, if_pos (by simp; omega)]
 simp only [Option.bind_some, List.nil_append]
 rw [refine_fits_eq, rcontexts_is]
 simp only [Option.bind_some, List.length_replicate, show (0 : Int) ≥ 0 by decide, decide_true, if_true]
 rw [w64 (n := ((rctxA t : Nat) : Int) - rctxN t) (by omega), w64 (n := ((rctxA t : Nat) : Int) - rctxN t - 1) (by omega)]
 have d1 : (0 : Int) ≤ ((rctxA t : Nat) : Int) - rctxN t - 1 := by omega
 simp only [d1, decide_true, Bool.not_true, Bool.false_eq_true, if_false, Option.bind_some, Sum.elim_inl]
 rw [refine_newRegion_eq]
 simp only [Option.bind_some]
 have h0 : EncN (rctxA t) (enc0 k (rctxA t)) := ⟨enc0_ok hk _, by simp [enc0]⟩
 have l1 := rput_rows (o4 := o4) ho hb hr h0 (by simp [enc0]) h.toNat 0 (by omega)
 have e0 : encAll (enc0 k (rctxA t)) (allEvR o4 t dx dy w h p rw rh rp 0) = enc0 k (rctxA t) := rfl
 rw [e0] at l1
 simp only [withR, hst] at l1
 rw [show ((0 : Nat) : Int) = 0 from rfl] at l1
 rw [l1]
 simp only [Option.bind_some, decide_true, Bool.not_true, Bool.false_eq_true, if_false]
 obtain ⟨q1, q2⟩ := refE_ok (o4 := o4) ho hb hr
 have q4 : h.toNat * (1 + w.toNat) ≤ 200 * 201 := by
  obtain ⟨b0, b1, b2, b3, _⟩ := hb
  exact Nat.mul_le_mul (by omega) (by omega)
 have := end_is (e := refE o4 t dx dy k w h p rw rh rp) q1.1.iv (by omega)
 unfold refE at this
 rw [this]
 rfl
end
/-! ### The pixels so far -/
/-- the pixels before a place, white behind it -/
def pre (p : List Int) (n : Nat) : List Int := p.take n ++ List.replicate (p.length - n) 0
theorem pre_len {p : List Int} {n : Nat} (hn : n ≤ p.length) : (pre p n).length = p.length := by
 unfold pre
 rw [List.length_append, List.length_take, List.length_replicate]; omega
theorem pre_at {p : List Int} {n i : Nat} (hi : i < n) (hn : n ≤ p.length) : (pre p n)[i]? = p[i]? := by
 unfold pre
 rw [List.getElem?_append_left (by rw [List.length_take]; omega), List.getElem?_take, if_pos hi]
theorem pre_rd {p : List Int} {n : Nat} {i : Int} (h0 : 0 ≤ i) (hi : i < (n : Int)) (hn : n ≤ p.length) : rd (pre p n) i = rd p i := by
 unfold rd
 rw [List.getD_eq_getElem?_getD, List.getD_eq_getElem?_getD, pre_at (by omega) hn]
theorem pre_bmp {w h : Int} {p : List Int} (hb : Bmp w h p) {n : Nat} (hn : n ≤ p.length) : Bmp w h (pre p n) := by
 obtain ⟨b0, b1, b2, b3, b4, b5, b6⟩ := hb
 refine ⟨b0, b1, b2, b3, b4, by rw [pre_len hn]; exact b5, fun x hx => ?_⟩
 rcases List.mem_append.1 hx with hx | hx
 ·exact b6 x (List.mem_of_mem_take hx)
 ·exact .inl (List.eq_of_mem_replicate hx)
theorem pre_set {p : List Int} {n : Nat} {v : Int} (hv : p[n]? = some v) : (pre p n).set n v = pre p (n + 1) := by
 have hn := lt_len_of_get hv
 unfold pre
 rw [List.set_append_right _ _ (by rw [List.length_take]; omega), List.length_take, show n - min n p.length = 0 by omega, show p.length - n = (p.length - (n + 1)) + 1 by omega, List.replicate_succ, List.set_cons_zero, List.take_add_one, hv, List.append_assoc]
 rfl
theorem pre_all {p : List Int} : pre p p.length = p := by unfold pre; simp
theorem pre_zero {p : List Int} : pre p 0 = List.replicate p.length 0 := by unfold pre; simp
theorem pix_pre {w h : Int} {p : List Int} {m : Nat} (hm : m ≤ p.length) {x y : Int} (hw : 0 ≤ w) (hi : 0 ≤ x → 0 ≤ y → x < w → y < h → y * w + x < (m : Int)) : pixA w h (pre p m) x y = pixA w h p x y := by
 unfold pixA
 by_cases q : 0 ≤ x ∧ 0 ≤ y ∧ x < w ∧ y < h
 ·rw [if_pos q, if_pos q]
  have := Int.mul_nonneg q.2.1 hw
  exact pre_rd (by omega) (hi q.1 q.2.1 q.2.2.1 q.2.2.2) hm
 ·rw [if_neg q, if_neg q]
theorem ctxV_pre {w h : Int} {p : List Int} {m : Nat} (hm : m ≤ p.length) {x y : Int} (hw : 0 ≤ w) (hx : 0 ≤ x ∧ x < w) (hy : 0 ≤ y) (hmi : (m : Int) = y * w + x) : ∀ (l : List (Int × Int)) (n : Int), (∀ d ∈ l, d.2 < 0 ∨ d.2 = 0 ∧ d.1 < 0) → ctxV w h (pre p m) x y l n = ctxV w h p x y l n
 | [], n, _ => rfl
 | d :: l, n, hd => by
  have h1 := hd d (List.mem_cons_self ..)
  simp only [ctxV]
  rw [pix_pre hm hw, ctxV_pre hm hw hx hy hmi l _ fun e he => hd e (List.mem_cons_of_mem _ he)]
  intro q0 q1 q2 q3
  rw [hmi]
  rcases h1 with h1 | ⟨h1, h2⟩
  ·have := Int.mul_le_mul_of_nonneg_right (show y + d.2 ≤ y - 1 by omega) hw
   have e : (y - 1) * w = y * w - w := by rw [Int.sub_mul, Int.one_mul]
   omega
  ·rw [h1, Int.add_zero]; omega
theorem newL_back (t : Int) : ∀ d ∈ newL t, d.2 < 0 ∨ d.2 = 0 ∧ d.1 < 0 := by
 unfold newL
 split <;> decide
theorem rctx_pre {t dx dy w h rw rh : Int} {p rp : List Int} {m : Nat} (hm : m ≤ p.length) {x y : Int} (hw : 0 ≤ w) (hx : 0 ≤ x ∧ x < w) (hy : 0 ≤ y) (hmi : (m : Int) = y * w + x) : rctx t dx dy w h (pre p m) rw rh rp x y = rctx t dx dy w h p rw rh rp x y := by
 unfold rctx
 rw [ctxV_pre hm hw hx hy hmi _ _ (newL_back t)]
/-! ### The decoder beside the encoder -/
/-- the decoder of a code, where an encoder of it was -/
def decF (C : List Int) (e : EncS) : Int × Int × Int × List Int × Int × Int × Int × Bool × List Int :=
 (e.1, e.2.1, e.2.2.1, C, ((e.2.2.2.2.length + 4 : Nat) : Int), win C e.2.2.2.2.length, beyd C (e.2.2.2.2.length + 4), false, e.2.2.2.1)
section
variable {ty o4 : Bool} {t dx dy k w h rw rh : Int} {p rp C : List Int} {y : Int}
theorem pixEvR_split {n : Nat} : ∀ m : Nat, n ≤ m → ∃ r, pixEvR ty t dx dy w h p rw rh rp y m = pixEvR ty t dx dy w h p rw rh rp y n ++ r
 | 0, h => ⟨[], by rw [show n = 0 by omega]; simp⟩
 | m + 1, h => by
  by_cases q : n = m + 1
  ·exact ⟨[], by rw [q]; simp⟩
  ·obtain ⟨r, hr⟩ := pixEvR_split (n := n) m (by omega)
   exact ⟨r ++ _, by rw [pixEvR_succ, hr, List.append_assoc]⟩
theorem allEvR_split {n : Nat} : ∀ m : Nat, n ≤ m → ∃ r, allEvR o4 t dx dy w h p rw rh rp m = allEvR o4 t dx dy w h p rw rh rp n ++ r
 | 0, h => ⟨[], by rw [show n = 0 by omega]; simp⟩
 | m + 1, h => by
  by_cases q : n = m + 1
  ·exact ⟨[], by rw [q]; simp⟩
  ·obtain ⟨r, hr⟩ := allEvR_split (n := n) m (by omega)
   exact ⟨r ++ _, by rw [allEvR_succ, hr, List.append_assoc]⟩
/-- a beginning of a code's events lies in it, too -/
theorem lies_pre (hC : Bytes C) {N : Nat} {e : EncS} (he : EncN N e) {a l : List (Int × Int)} (hl : ∀ v ∈ l, EvOk N v) (hs : ∃ r, l = a ++ r) (hL : LiesE C (encAll e l)) : LiesE C (encAll e a) := by
 obtain ⟨r, rfl⟩ := hs
 obtain ⟨z1, z2⟩ := he.all (l := a) fun v hv => hl v (List.mem_append_left _ hv)
 rw [encAll_app] at hL
 exact lies_back hC r _ z1.1 z1.2 (fun v hv => hl v (List.mem_append_right _ hv)) hL
/-- a row's state -/
def rowS (e : EncS) (t dx dy : Int) (o4 : Bool) (k w h rw rh : Int) (rp pix C : List Int) : Int × Int × Int × Bool × Int × Int × Int × Int × Int × (List Int) × (List Int) × Int × Int × Int × (List Int) × Int × Int × Int × Bool × (List Int) :=
 (t, dx, dy, o4, k, w, h, rw, rh, rp, pix, decF C e)
theorem rget_row (ho : RefOk t dx dy k) (hb : Bmp w h p) (hr : Bmp rw rh rp) (hC : Bytes C) (hy : 0 ≤ y ∧ y < h) (hty : ty = true → tyB dx dy w h p rw rh rp y = true) {e : EncS} (he : EncN (rctxA t) e) (hel : e.2.2.2.2.length ≤ 100000000)
  (hL : LiesE C (encAll e (pixEvR ty t dx dy w h p rw rh rp y w.toNat))) : ∀ d n : Nat, n + d = w.toNat →
  loop (refine_region_row_loop8 0 y w (if ty = true then 1 else 0)) ((n : Int), rowS (encAll e (pixEvR ty t dx dy w h p rw rh rp y n)) t dx dy o4 k w h rw rh rp (pre p ((y * w).toNat + n)) C) =
   some (Sum.inl (rowS (encAll e (pixEvR ty t dx dy w h p rw rh rp y w.toNat)) t dx dy o4 k w h rw rh rp (pre p ((y * w).toNat + w.toNat)) C))
 | 0, n, hn => by
  rw [Nat.add_zero] at hn
  subst hn
  refine loop_done ?_
  have hw := hb.1
  unfold refine_region_row_loop8
  simp only [iteD, rowS, decF]
  rw [if_neg (by omega)]
 | d + 1, n, hn => by
  have hw := hb.1
  have hw2 := hb.2.2.1
  have hh2 := hb.2.2.2.1
  have hwh := hb.2.2.2.2.1
  have hlen := hb.2.2.2.2.2.1
  have hA := rctxA_is t
  obtain ⟨a0, a1, a2⟩ := idx_in (show (0 : Int) ≤ (n : Int) by omega) (show (n : Int) < w by omega) hy.1 hy.2
  have hcx := rctx_range (t := t) (dx := dx) (dy := dy) hb hr (n : Int) y
  have hp := hb.pix (x := (n : Int)) (y := y)
  have hm : (y * w).toNat + n ≤ p.length := by omega
  have hmi : (((y * w).toNat + n : Nat) : Int) = y * w + (n : Int) := by omega
  obtain ⟨q1, q2⟩ := he.all (pixEvR_ok (ty := ty) (dx := dx) (dy := dy) hb hr (y := y) (n := n))
  have q3 := pixEvR_len (ty := ty) (t := t) (dx := dx) (dy := dy) (w := w) (h := h) (p := p) (rw := rw) (rh := rh) (rp := rp) (y := y) n
  have hL1 := lies_pre hC he (pixEvR_ok (ty := ty) (dx := dx) (dy := dy) hb hr (y := y) (n := w.toNat)) (pixEvR_split (n := n + 1) w.toNat (by omega)) hL
  have ih := rget_row ho hb hr hC hy hty he hel hL d (n + 1) (by omega)
  refine (loop_step ?_).trans ih
  have hgp : p[(y * w).toNat + n]? = some (pixA w h p (n : Int) y) := by
   have := rd_get (xs := p) (i := y * w + (n : Int)) a1 (by omega)
   rw [rd_pix hb (by omega) (by omega) hy.1 hy.2, show (y * w + (n : Int)).toNat = (y * w).toNat + n by omega] at this
   exact this
  rw [pixEvR_succ, encAll_app] at hL1 ⊢
  generalize encAll e (pixEvR ty t dx dy w h p rw rh rp y n) = s at q1 q2 hL1 ⊢
  unfold refine_region_row_loop8
  simp only [iteD, rowS, decF]
  rw [if_pos (by omega), flat2_is ho hr (by omega) (by omega)]
  simp only [Option.bind_some, w64 (n := y * w) (by omega), w64 (n := y * w + (n : Int)) (by omega), w64 (n := (n : Int) + 1) (by omega)]
  have ev : ((if (if ty = true then (1 : Int) else 0) = 1 then some (flatB dx dy rw rh rp (n : Int) y) else some false) : Option Bool) = some (ty && flatB dx dy rw rh rp (n : Int) y) := by cases ty <;> rfl
  rw [ev]
  simp only [Option.bind_some]
  cases hq : (ty && flatB dx dy rw rh rp (n : Int) y) with
  | true =>
   rw [Bool.and_eq_true] at hq
   have hc : pixA rw rh rp ((n : Int) - dx) (y - dy) = pixA w h p (n : Int) y := by
    have := hty hq.1
    unfold tyB at this
    have := List.all_eq_true.1 this n (List.mem_range.2 (by omega))
    rw [hq.2] at this
    simpa using this
   simp only [if_true, hq.2, hc]
   rw [pre_len hm, if_pos (by omega), show (y * w + (n : Int)).toNat = (y * w).toNat + n by omega, pre_set hgp]
   rfl
  | false =>
   simp only [hq, Bool.false_eq_true, if_false] at hL1 ⊢
   have hev : EvOk s.2.2.2.1.length (rctx t dx dy w h p rw rh rp (n : Int) y, pixA w h p (n : Int) y) := ⟨by rw [q1.2]; exact ⟨hcx.1, by show rctx t dx dy w h p rw rh rp (n : Int) y < _; omega⟩, hp⟩
   have hget := get_is hC q1.1 hev (by omega) hL1
   simp only at hget
   rw [region_context2_is ho (pre_bmp hb hm) hr (by omega) (by omega), rctx_pre hm hw ⟨by omega, by omega⟩ hy.1 hmi]
   simp only [Option.bind_some]
   rw [Int.zero_add, w64 (n := rctx t dx dy w h p rw rh rp (n : Int) y) (by omega), hget]
   simp only [Option.bind_some, decide_true, Bool.not_true, Bool.false_eq_true, if_false]
   rw [pre_len hm, if_pos (by omega), show IntKind.u8.wrap (pixA w h p (n : Int) y) = pixA w h p (n : Int) y by rw [w8]; omega, show (y * w + (n : Int)).toNat = (y * w).toNat + n by omega, pre_set hgp]
   rfl
/-- a row comes back -/
theorem rget_rowAll (ho : RefOk t dx dy k) (hb : Bmp w h p) (hr : Bmp rw rh rp) (hC : Bytes C) (hy : 0 ≤ y ∧ y < h) {e : EncS} (he : EncN (rctxA t) e) (hel : e.2.2.2.2.length ≤ 1000000)
  (hL : LiesE C (encAll e (rowEvR o4 t dx dy w h p rw rh rp y))) :
  refine_region_row 0 y t dx dy o4 k w h rw rh rp (pre p (y * w).toNat) e.1 e.2.1 e.2.2.1 C ((e.2.2.2.2.length + 4 : Nat) : Int) (win C e.2.2.2.2.length) (beyd C (e.2.2.2.2.length + 4)) false e.2.2.2.1 =
   some (0, rowS (encAll e (rowEvR o4 t dx dy w h p rw rh rp y)) t dx dy o4 k w h rw rh rp (pre p ((y + 1) * w).toNat) C) := by
 have hw := hb.1
 have hA := rctxA_is t
 have b1 : 0 ≤ y * w := Int.mul_nonneg hy.1 hw
 have b3 : (y + 1) * w = y * w + w := by rw [Int.add_mul, Int.one_mul]
 have hpix : ∀ (ty : Bool) (s : EncS), (ty = true → tyB dx dy w h p rw rh rp y = true) → EncN (rctxA t) s → s.2.2.2.2.length ≤ 100000000 → LiesE C (encAll s (pixEvR ty t dx dy w h p rw rh rp y w.toNat)) →
   loop (refine_region_row_loop8 0 y w (if ty = true then 1 else 0)) (0, rowS s t dx dy o4 k w h rw rh rp (pre p (y * w).toNat) C) = some (Sum.inl (rowS (encAll s (pixEvR ty t dx dy w h p rw rh rp y w.toNat)) t dx dy o4 k w h rw rh rp (pre p ((y + 1) * w).toNat) C)) := by
  intro ty s hty hs hsl hLs
  have := rget_row (ty := ty) (o4 := o4) ho hb hr hC hy hty hs hsl hLs w.toNat 0 (by omega)
  rw [show ((y + 1) * w).toNat = (y * w).toNat + w.toNat by omega]
  exact this
 rw [refine_region_row_eq]
 unfold rowEvR at hL ⊢
 cases o4 with
 | false =>
  simp only [Bool.false_eq_true, if_false, Bool.false_and, List.nil_append] at hL ⊢
  have hl := hpix false e (fun h => by cases h) he (by omega) hL
  simp only [Option.bind_some, Sum.elim_inl]
  simp only [rowS, decF, Bool.false_eq_true, if_false] at hl ⊢
  rw [hl]
  rfl
 | true =>
  simp only [if_true, Bool.true_and, List.singleton_append] at hL ⊢
  rw [rcontexts_is]
  simp only [Option.bind_some]
  rw [Int.zero_add, w64 (n := rctxN t) (by omega)]
  have hv : EvOk e.2.2.2.1.length (rctxN t, if tyB dx dy w h p rw rh rp y = true then 1 else 0) := by
   rw [he.2]
   refine ⟨⟨by show 0 ≤ rctxN t; omega, by show rctxN t < _; omega⟩, ?_⟩
   show (if _ then (1 : Int) else 0) = 0 ∨ _
   split <;> simp
  obtain ⟨s1, s2, s3⟩ := encStep_ok he.1 hv
  have hL' : LiesE C (encAll (encStep e (rctxN t, if tyB dx dy w h p rw rh rp y = true then 1 else 0)) (pixEvR (tyB dx dy w h p rw rh rp y) t dx dy w h p rw rh rp y w.toNat)) := hL
  have hL1 := lies_back hC _ _ s1 (by rw [s2, he.2]) (pixEvR_ok hb hr (n := w.toNat)) hL'
  have hget := get_is hC he.1 hv (by omega) hL1
  try simp only at hget
  rw [hget]
  simp only [Option.bind_some, decide_true, Bool.not_true, Bool.false_eq_true, if_false, Sum.elim_inl]
  have hl := hpix (tyB dx dy w h p rw rh rp y) _ (fun h => h) ⟨s1, by rw [s2, he.2]⟩ (by omega) hL'
  simp only [rowS, decF] at hl ⊢
  rw [hl]
  rfl
/-- the state of the rows -/
def rowsS (e : EncS) (t dx dy : Int) (o4 : Bool) (k w h rw rh : Int) (rp pix C : List Int) : Int × Int × Int × (List Int) × Int × Int × Int × Bool × (List Int) × Int × Int × (List Int) × Int × Int × Int × Bool × Int × Int × Int × Int × Int × (List Int) × (List Int) :=
 (e.1, e.2.1, e.2.2.1, C, ((e.2.2.2.2.length + 4 : Nat) : Int), win C e.2.2.2.2.length, beyd C (e.2.2.2.2.length + 4), false, e.2.2.2.1, 0, 0, pix, t, dx, dy, o4, k, w, h, rw, rh, rp, [])
theorem rget_rows (ho : RefOk t dx dy k) (hb : Bmp w h p) (hr : Bmp rw rh rp) (hC : Bytes C) {e : EncS} (he : EncN (rctxA t) e) (hel : e.2.2.2.2.length ≤ 1000)
  (hL : LiesE C (encAll e (allEvR o4 t dx dy w h p rw rh rp h.toNat))) : ∀ d n : Nat, n + d = h.toNat →
  loop (refine_Get_loop13 0 h) ((n : Int), rowsS (encAll e (allEvR o4 t dx dy w h p rw rh rp n)) t dx dy o4 k w h rw rh rp (pre p ((n : Int) * w).toNat) C) =
   some (Sum.inl (rowsS (encAll e (allEvR o4 t dx dy w h p rw rh rp h.toNat)) t dx dy o4 k w h rw rh rp p C))
 | 0, n, hn => by
  rw [Nat.add_zero] at hn
  subst hn
  have hh := hb.2.1
  have hlen := hb.2.2.2.2.2.1
  have : pre p (((h.toNat : Nat) : Int) * w).toNat = p := by
   have : (((h.toNat : Nat) : Int) * w).toNat = p.length := by rw [show ((h.toNat : Nat) : Int) = h by omega, Int.mul_comm]; omega
   rw [this, pre_all]
  rw [this]
  refine loop_done ?_
  unfold refine_Get_loop13
  simp only [iteD, rowsS]
  rw [if_neg (by omega)]
 | d + 1, n, hn => by
  have hw := hb.1
  have hw2 := hb.2.2.1
  have hh2 := hb.2.2.2.1
  have hy : (0 : Int) ≤ (n : Int) ∧ (n : Int) < h := by omega
  obtain ⟨q1, q2⟩ := he.all (allEvR_ok (o4 := o4) (dx := dx) (dy := dy) hb hr (n := n))
  have q3 := allEvR_len (o4 := o4) (t := t) (dx := dx) (dy := dy) (w := w) (h := h) (p := p) (rw := rw) (rh := rh) (rp := rp) n
  have q4 : n * (1 + w.toNat) ≤ 200 * 201 := Nat.mul_le_mul (by omega) (by omega)
  have hL1 := lies_pre hC he (allEvR_ok (o4 := o4) (dx := dx) (dy := dy) hb hr (n := h.toNat)) (allEvR_split (n := n + 1) h.toNat (by omega)) hL
  have ih := rget_rows ho hb hr hC he hel hL d (n + 1) (by omega)
  refine (loop_step ?_).trans ih
  rw [allEvR_succ, encAll_app] at hL1 ⊢
  generalize encAll e (allEvR o4 t dx dy w h p rw rh rp n) = s at q1 q2 hL1 ⊢
  have hrow := rget_rowAll (o4 := o4) ho hb hr hC hy q1 (by omega) hL1
  have e1 : (((n + 1 : Nat) : Int) * w).toNat = (((n : Int) + 1) * w).toNat := by rw [show ((n + 1 : Nat) : Int) = (n : Int) + 1 by omega]
  rw [e1]
  unfold refine_Get_loop13
  simp only [iteD, rowsS]
  rw [if_pos (by omega), hrow]
  simp only [Option.bind_some, rowS, decF, decide_true, Bool.not_true, Bool.false_eq_true, if_false]
  rw [w64 (n := (n : Int) + 1) (by omega)]
  rfl
theorem refC_ok (ho : RefOk t dx dy k) (hb : Bmp w h p) (hr : Bmp rw rh rp) : Bytes (refC o4 t dx dy k w h p rw rh rp) ∧ LiesE (refC o4 t dx dy k w h p rw rh rp) (refE o4 t dx dy k w h p rw rh rp) ∧ (refC o4 t dx dy k w h p rw rh rp).length ≤ 4 * (h.toNat * (1 + w.toNat)) + 4 := by
 have hk := ho.2.1
 obtain ⟨q1, q2⟩ := refE_ok (o4 := o4) ho hb hr
 have hby : Bytes (refE o4 t dx dy k w h p rw rh rp).2.2.2.2 := all_bytes _ (enc0 k (rctxA t)) (enc0_ok hk _) (by simp [enc0]) (allEvR_ok (o4 := o4) (dx := dx) (dy := dy) hb hr (n := h.toNat)) (fun x hx => by simp [enc0] at hx)
 have hn := (endN_is q1.1.iv).1
 refine ⟨fun x hx => ?_, lies_end q1.1.iv, ?_⟩
 ·rcases List.mem_append.1 hx with hx | hx
  ·exact hby x hx
  ·exact tbl_bytes (by have := q1.1.iv; have := this.1; have := q1.1.iv.2.1; omega) _ x hx
 ·unfold refC
  rw [List.length_append, tbl_len]
  omega
theorem rdecode_is (ho : RefOk t dx dy k) (hb : Bmp w h p) (hr : Bmp rw rh rp) : refine_Decode t dx dy o4 k (refC o4 t dx dy k w h p rw rh rp) w h rw rh rp = some (w, h, p, 0) := by
 obtain ⟨b0, b1, b2, b3, b4, b5, b6⟩ := id hb
 have hs : sidesB w h = true := sidesB_iff.2 ⟨b0, b1, b2, b3, b4⟩
 have hk := ho.2.1
 have hA := rctxA_is t
 obtain ⟨c1, c2, c3⟩ := refC_ok (o4 := o4) ho hb hr
 have q4 : h.toNat * (1 + w.toNat) ≤ 200 * 201 := Nat.mul_le_mul (by omega) (by omega)
 have hrl : rp.length ≤ 9223372036854775807 := by
  obtain ⟨r0, r1, r2, r3, r4, r5, r6⟩ := hr
  have := mul_small r0 r1 r2 r3
  omega
 have hd : decide (RefOk t dx dy k) = true := decide_eq_true ho
 have hE : refE o4 t dx dy k w h p rw rh rp = encAll (enc0 k (rctxA t)) (allEvR o4 t dx dy w h p rw rh rp h.toNat) := rfl
 rw [hE] at c2
 have hm := mul_small b0 b1 b2 b3
 generalize refC o4 t dx dy k w h p rw rh rp = C at c1 c2 c3 ⊢
 rw [refine_Decode_eq, refineValid_is, hd]
 simp only [Option.bind_some, Bool.not_true, Bool.false_eq_true, if_false]
 rw [refine_model_eq, rcontexts_is]
 simp only [Option.bind_some]
 rw [w64 (n := rctxN t + 1) (by omega), ← hA.1, coderNew_is hk (by omega)]
 simp only [Option.bind_some]
 rw [newDecoder_is hk (by omega) c1 (by omega)]
 simp only [Option.bind_some, Sum.elim_inl]
 have hg0 : coder_Decoder_Get (-1) k 0 4294967295 C 4 (win C 0) (beyd C 4) false (List.replicate (rctxA t) 0) = some (0, 2, k, 0, 4294967295, C, 4, win C 0, beyd C 4, false, List.replicate (rctxA t) 0) := by
  rw [coder_Decoder_Get_eq, coder_Decoder_none_eq]
  rfl
 rw [refine_Get_eq, hg0]
 simp only [Option.bind_some, show ¬ ((2 : Int) = 7) by decide, decide_false, Bool.false_eq_true, if_false]
 rw [refineValid_is, hd]
 simp only [Option.bind_some, Bool.not_true, Bool.false_eq_true, if_false]
 rw [new_ok hs, bitmapValid_is hrl, hr.b]
 simp only [Option.bind_some, decide_true, Bool.not_true, Bool.false_eq_true, if_false]
 rw [coder_Decoder_Model_eq, coder_Decoder_none_eq]
 simp only [Option.bind_some, Bool.false_eq_true, if_false]
 rw [coder_clone_eq, if_pos (by simp; omega)]
 simp only [Option.bind_some, List.nil_append]
 have hft : ∀ x1 : Int, refine_fits x1 (List.replicate (rctxA t) 0) 0 t dx dy o4 k = some true := by
  intro x1
  rw [refine_fits_eq, rcontexts_is]
  simp only [show (0 : Int) ≥ 0 by decide, decide_true, if_true, Option.bind_some, List.length_replicate]
  rw [w64 (n := ((rctxA t : Nat) : Int) - rctxN t) (by omega), w64 (by omega)]
  have : (0 : Int) ≤ ((rctxA t : Nat) : Int) - rctxN t - 1 := by omega
  simp only [this, decide_true]
 rw [hft]
 simp only [Option.bind_some, Bool.not_true, Bool.false_eq_true, if_false]
 rw [w64 (n := w * h) (by omega), if_pos (by omega), refine_newRegion_2_eq]
 simp only [Option.bind_some]
 have hrows := rget_rows (o4 := o4) ho hb hr c1 (e := enc0 k (rctxA t)) ⟨enc0_ok hk _, by simp [enc0]⟩ (by simp [enc0]) c2 h.toNat 0 (by omega)
 have hz : List.replicate (w * h).toNat 0 = pre p (((0 : Nat) : Int) * w).toNat := by
  rw [show (((0 : Nat) : Int) * w).toNat = 0 by simp, pre_zero]
  congr 1
  omega
 rw [hz]
 have hr' : loop (refine_Get_loop13 0 h) (0, k, 0, 4294967295, C, 4, win C 0, beyd C 4, false, List.replicate (rctxA t) 0, 0, 0, pre p (((0 : Nat) : Int) * w).toNat, t, dx, dy, o4, k, w, h, rw, rh, rp, []) = _ := hrows
 rw [hr']
 simp only [Option.bind_some, Sum.elim_inl, rowsS]
end
theorem bclone_is {b : List Int} (hl : b.length ≤ 140737488355328) : bytes_Clone b = some b := by
 rw [bytes_Clone_eq]
 have e : (if (([] : List Int).length + b.length) * 1 ≤ 140737488355328 then (let t2 : List Int := ([] : List Int) ++ b; some t2) else none) = some b := by
  rw [if_pos (by simp; omega)]; simp
 split
 ·rename_i h
  have : b = [] := List.length_eq_zero_iff.1 h
  subst this
  rw [e, demon_same]
 ·exact e
theorem bitmap_clone_is {w h : Int} {b : List Int} (hl : b.length ≤ 140737488355328) : bitmap_clone w h b = some (w, h, b) := by
 rw [bitmap_clone_eq, bclone_is hl]; rfl
theorem bitmap_at_is {w h : Int} {p : List Int} (hb : Bmp w h p) {x y : Int} (hx : 0 ≤ x ∧ x < w) (hy : 0 ≤ y ∧ y < h) : bitmap_at w h p x y = some (pixA w h p x y) := by
 obtain ⟨h0, h1, h2, h3, h4, h5, h6⟩ := hb
 obtain ⟨a0, a1, a2⟩ := idx_in hx.1 hx.2 hy.1 hy.2
 rw [bitmap_at_eq]
 simp only [iteD]
 rw [if_neg (by omega), if_neg (by omega), if_neg (by omega)]
 have e : ¬ y ≥ h := by omega
 simp only [e, decide_false, Option.bind_some, Bool.false_eq_true, if_false]
 rw [w64 (n := y * w) (by omega), w64 (n := y * w + x) (by omega), if_pos (by omega)]
 unfold pixA
 rw [if_pos ⟨hx.1, hy.1, hx.2, hy.2⟩]
theorem comb_is {a b op : Int} (ha : a = 0 ∨ a = 1) (hb : b = 0 ∨ b = 1) (ho : 0 ≤ op ∧ op ≤ 4) : ∃ c, bitmap_combine a b op = some c ∧ (c = 0 ∨ c = 1) := by
 rw [bitmap_combine_eq]
 have ho' : op = 0 ∨ op = 1 ∨ op = 2 ∨ op = 3 ∨ op = 4 := by omega
 rcases ho' with rfl | rfl | rfl | rfl | rfl <;> rcases ha with rfl | rfl <;> rcases hb with rfl | rfl <;> exact ⟨_, rfl, by decide⟩
theorem draw_any {bw bh sw sh x y op : Int} {p s : List Int} (hb : Bmp bw bh p) (hs : Bmp sw sh s) (hx : -100000 ≤ x ∧ x ≤ 100000) (hy : -100000 ≤ y ∧ y ≤ 100000) (ho : 0 ≤ op ∧ op ≤ 4) :
  ∃ q, bitmap_Draw bw bh p sw sh s x y op = some (bw, bh, q, 0) ∧ Bmp bw bh q := by
 have hb' := hb
 obtain ⟨h0, h1, h2, h3, h4, h5, h6⟩ := hb'
 have hs' := hs
 obtain ⟨s0, s1, s2, s3, s4, s5, s6⟩ := hs'
 have m := mul_small h0 h1 h2 h3
 have ms := mul_small s0 s1 s2 s3
 have inner : ∀ (v : Nat), (v : Int) < sh → ∀ q, Bmp bw bh q → ∃ r, overL (bitmap_Draw_loop10_step bw bh sw sh s x y op (v : Int)) (fun s => some s) 0 (List.range sw.toNat) q = some r ∧ Bmp bw bh r := by
  intro v hv q hq
  refine overL_keep (fun _ a => Bmp bw bh a) (List.range sw.toNat) 0 q hq fun n u a hn ha => ?_
  have hk := lt_len_of_get hn
  rw [List.length_range] at hk
  rw [Nat.zero_add]
  have ha' := ha
  obtain ⟨_, _, _, _, _, a5, a6⟩ := ha'
  unfold bitmap_Draw_loop10_step
  simp only [iteD]
  rw [w64 (n := x + (n : Int)) (by omega), w64 (n := y + (v : Int)) (by omega)]
  by_cases c : x + (n : Int) ≥ 0 ∧ y + (v : Int) ≥ 0 ∧ x + (n : Int) < bw ∧ y + (v : Int) < bh
  ·obtain ⟨g0, g1, c1, c2⟩ := c
   obtain ⟨i0, i1, i2⟩ := idx_in g0 c1 g1 c2
   have hp := hs.pix (x := (n : Int)) (y := (v : Int))
   rw [if_pos g0, if_pos g1, if_pos c1]
   simp only [c2, decide_true, Option.bind_some, if_true]
   rw [w64 (n := (y + (v : Int)) * bw) (by omega), w64 (n := (y + (v : Int)) * bw + (x + (n : Int))) (by omega), if_pos (by omega), bitmap_at_is hs (by omega) (by omega)]
   simp only [Option.bind_some]
   obtain ⟨c, e1, e2⟩ := comb_is (a6 _ (rd_mem i1 (by omega))) hp ho
   rw [e1]
   simp only [Option.bind_some]
   exact ⟨_, rfl, ha.set e2⟩
  ·have e1 : ((if x + (n : Int) ≥ 0 then (if y + (v : Int) ≥ 0 then (if x + (n : Int) < bw then some (decide (y + (v : Int) < bh)) else some false) else some false) else some false) : Option Bool) = some false := by
    split
    ·split
     ·split
      ·rename_i c0 c1 c2
       have c3 : ¬ y + (v : Int) < bh := fun c3 => c ⟨c0, c1, c2, c3⟩
       simp only [c3, decide_false]
      ·rfl
     ·rfl
    ·rfl
   rw [e1]
   simp only [Option.bind_some, Bool.false_eq_true, if_false]
   exact ⟨_, rfl, ha⟩
 obtain ⟨q, e1, hq⟩ : ∃ q, overL (bitmap_Draw_loop7_step bw bh sw sh s x y op) (fun s => some s) 0 (List.range sh.toNat) p = some q ∧ Bmp bw bh q := by
  refine overL_keep (fun _ a => Bmp bw bh a) (List.range sh.toNat) 0 p hb fun n u a hn ha => ?_
  have hk := lt_len_of_get hn
  rw [List.length_range] at hk
  rw [Nat.zero_add]
  unfold bitmap_Draw_loop7_step
  rw [bitmap_Draw_loop10_over bw bh sw sh s x y op ((n : Nat) : Int) (by rw [List.length_range]; omega) a]
  obtain ⟨r, e, hr⟩ := inner n (by omega) a ha
  rw [e]
  exact ⟨_, rfl, hr⟩
 refine ⟨q, ?_, hq⟩
 rw [bitmap_Draw_eq, bitmapValid_is (by omega), bitmapValid_is (by omega), hb.b, hs.b, bitmap_isShift_eq, imin_eq, imax_eq]
 have g1 : min x y ≥ -100000 := by omega
 have g2 : max x y ≤ 100000 := by omega
 have g3 : ¬ op < 0 := by omega
 have g4 : ¬ op > 4 := by omega
 simp only [Option.bind_some, Bool.not_true, Bool.false_eq_true, if_false, g3, g4, decide_false, g1, g2, decide_true, if_true, Sum.elim_inl, bitmap_clone_is (w := bw) (h := bh) (b := p) (by omega)]
 rw [bitmap_Draw_loop7_over bw bh sw sh s x y op (by rw [List.length_range]; omega) p, e1]
 rfl
/-- two pixels put together -/
noncomputable def cmb (op a b : Int) : Int := (bitmap_combine a b op).getD 0
theorem cmb_is {a b op : Int} (ha : a = 0 ∨ a = 1) (hb : b = 0 ∨ b = 1) (ho : 0 ≤ op ∧ op ≤ 4) : bitmap_combine a b op = some (cmb op a b) ∧ (cmb op a b = 0 ∨ cmb op a b = 1) := by
 obtain ⟨c, e, h⟩ := comb_is ha hb ho
 unfold cmb
 rw [e]
 exact ⟨rfl, h⟩
/-- one pixel is drawn: its place, what comes there -/
noncomputable def putc (op : Int) (q : List Int) (c : Nat × Int) : List Int := q.set c.1 (cmb op (rd q (c.1 : Int)) c.2)
theorem rd_set_ne {q : List Int} {i j : Nat} {v : Int} (h : i ≠ j) : rd (q.set i v) (j : Int) = rd q (j : Int) := by
 unfold rd
 rw [Int.toNat_natCast, List.getD_eq_getElem?_getD, List.getD_eq_getElem?_getD, List.getElem?_set_ne h]
theorem putc_comm {op : Int} {q : List Int} {c d : Nat × Int} (h : c.1 ≠ d.1) : putc op (putc op q c) d = putc op (putc op q d) c := by
 unfold putc
 rw [rd_set_ne h, rd_set_ne (Ne.symm h), List.set_comm _ _ h]
theorem putc_fold {op : Int} {c : Nat × Int} : ∀ (l : List (Nat × Int)) (q : List Int), (∀ d ∈ l, c.1 ≠ d.1) → l.foldl (putc op) (putc op q c) = putc op (l.foldl (putc op) q) c
 | [], q, _ => rfl
 | d :: l, q, h => by
  simp only [List.foldl_cons]
  rw [putc_comm (h d (List.mem_cons_self ..)), putc_fold l _ fun e he => h e (List.mem_cons_of_mem _ he)]
theorem folds_comm {op : Int} {b : List (Nat × Int)} : ∀ (a : List (Nat × Int)) (q : List Int), (∀ c ∈ a, ∀ d ∈ b, c.1 ≠ d.1) → b.foldl (putc op) (a.foldl (putc op) q) = a.foldl (putc op) (b.foldl (putc op) q)
 | [], q, _ => rfl
 | c :: a, q, h => by
  simp only [List.foldl_cons]
  rw [folds_comm a _ fun e he => h e (List.mem_cons_of_mem _ he), putc_fold b q (h c (List.mem_cons_self ..))]
/-- a loop that always goes on, told by a fold -/
theorem overL_fold {X S : Type} {step : Nat → X → S → Option (S ⊕ S)} (P : S → Prop) (g : Nat → S → S) : ∀ (l : List X) (n : Nat) (s : S), P s → (∀ k x s, l[k]? = some x → P s → step (n + k) x s = some (.inl (g (n + k) s)) ∧ P (g (n + k) s)) →
  overL step (fun s => some s) n l s = some ((List.range' n l.length).foldl (fun s k => g k s) s) ∧ P ((List.range' n l.length).foldl (fun s k => g k s) s)
 | [], n, s, hs, _ => ⟨by rw [overL_nil]; rfl, hs⟩
 | x :: l, n, s, hs, h => by
  obtain ⟨h0, h1⟩ := h 0 x s rfl hs
  rw [Nat.add_zero] at h0 h1
  rw [overL_next h0, List.length_cons, List.range'_succ, List.foldl_cons]
  refine overL_fold P g l (n + 1) (g n s) h1 fun k x s hk hp => ?_
  have := h (k + 1) x s (by simpa using hk) hp
  rwa [show n + (k + 1) = n + 1 + k by omega] at this
/-- the pixels of a row of a region -/
def cellsR (W x w : Nat) (s : List Int) (v : Nat) : List (Nat × Int) := (List.range w).map fun u => (v * W + (x + u), rd s ((v * w + u : Nat) : Int))
/-- the pixels of a region -/
def cells (W x w h : Nat) (s : List Int) : List (Nat × Int) := (List.range h).flatMap (cellsR W x w s)
theorem cells_at {W x w h : Nat} {s : List Int} (hx : x + w ≤ W) {c : Nat × Int} (hc : c ∈ cells W x w h s) : x ≤ c.1 % W ∧ c.1 % W < x + w := by
 obtain ⟨v, _, hv⟩ := List.mem_flatMap.1 hc
 obtain ⟨u, hu, rfl⟩ := List.mem_map.1 hv
 have := List.mem_range.1 hu
 show x ≤ (v * W + (x + u)) % W ∧ (v * W + (x + u)) % W < x + w
 rw [Nat.mul_comm, Nat.mul_add_mod, Nat.mod_eq_of_lt (by omega)]
 omega
theorem draw_in {W H w h x : Nat} {op : Int} {p s : List Int} (hb : Bmp (W : Int) (H : Int) p) (hs : Bmp (w : Int) (h : Int) s) (hx : x + w ≤ W) (hh : h ≤ H) (ho : 0 ≤ op ∧ op ≤ 4) :
  bitmap_Draw (W : Int) (H : Int) p (w : Int) (h : Int) s (x : Int) 0 op = some ((W : Int), (H : Int), (cells W x w h s).foldl (putc op) p, 0) ∧ Bmp (W : Int) (H : Int) ((cells W x w h s).foldl (putc op) p) := by
 have hb' := hb
 obtain ⟨h0, h1, h2, h3, h4, h5, h6⟩ := hb'
 have hs' := hs
 obtain ⟨s0, s1, s2, s3, s4, s5, s6⟩ := hs'
 have m := mul_small h0 h1 h2 h3
 have ms := mul_small s0 s1 s2 s3
 have inner : ∀ (v : Nat), v < h → ∀ q, Bmp (W : Int) (H : Int) q → overL (bitmap_Draw_loop10_step (W : Int) (H : Int) (w : Int) (h : Int) s (x : Int) 0 op (v : Int)) (fun s => some s) 0 (List.range w) q = some ((cellsR W x w s v).foldl (putc op) q) ∧ Bmp (W : Int) (H : Int) ((cellsR W x w s v).foldl (putc op) q) := by
  intro v hv q hq
  have := overL_fold (fun a => Bmp (W : Int) (H : Int) a) (fun u a => putc op a (v * W + (x + u), rd s ((v * w + u : Nat) : Int))) (step := bitmap_Draw_loop10_step (W : Int) (H : Int) (w : Int) (h : Int) s (x : Int) 0 op (v : Int)) (List.range w) 0 q hq fun n u a hn ha => ?_
  ·rw [List.length_range, ← List.range_eq_range'] at this
   unfold cellsR
   rw [List.foldl_map]
   exact this
  have hk := lt_len_of_get hn
  rw [List.length_range] at hk
  rw [Nat.zero_add]
  have ha' := ha
  obtain ⟨_, _, _, _, _, a5, a6⟩ := ha'
  obtain ⟨i0, i1, i2⟩ := idx_in (w := (W : Int)) (h := (H : Int)) (x := ((x + n : Nat) : Int)) (y := (v : Int)) (by omega) (by omega) (by omega) (by omega)
  obtain ⟨j0, j1, j2⟩ := idx_in (w := (w : Int)) (h := (h : Int)) (x := (n : Int)) (y := (v : Int)) (by omega) (by omega) (by omega) (by omega)
  have hp := hs.pix (x := (n : Int)) (y := (v : Int))
  have e1 : (v : Int) * (W : Int) + ((x + n : Nat) : Int) = ((v * W + (x + n) : Nat) : Int) := by simp
  have e2 : (v : Int) * (w : Int) + (n : Int) = ((v * w + n : Nat) : Int) := by simp
  have e3 : pixA (w : Int) (h : Int) s (n : Int) (v : Int) = rd s ((v * w + n : Nat) : Int) := by
   unfold pixA
   rw [if_pos ⟨by omega, by omega, by omega, by omega⟩, e2]
  have g0 : ((x + n : Nat) : Int) ≥ 0 := by omega
  have g1 : (v : Int) ≥ 0 := by omega
  have g2 : ((x + n : Nat) : Int) < (W : Int) := by omega
  have g3 : (v : Int) < (H : Int) := by omega
  unfold bitmap_Draw_loop10_step
  simp only [iteD]
  rw [show (x : Int) + (n : Int) = ((x + n : Nat) : Int) by omega, w64 (n := ((x + n : Nat) : Int)) (by omega), w64 (n := 0 + (v : Int)) (by omega), Int.zero_add, if_pos g0, if_pos g1, if_pos g2]
  simp only [g3, decide_true, Option.bind_some, if_true]
  rw [w64 (n := (v : Int) * (W : Int)) (by omega), w64 (n := (v : Int) * (W : Int) + ((x + n : Nat) : Int)) (by omega), if_pos (by omega), bitmap_at_is hs (by omega) (by omega)]
  simp only [Option.bind_some]
  rw [e3] at hp ⊢
  rw [e1] at i1 i2 ⊢
  obtain ⟨c1, c2⟩ := cmb_is (a6 _ (rd_mem i1 (by omega))) hp ho
  rw [c1, Int.toNat_natCast]
  exact ⟨rfl, ha.set c2⟩
 obtain ⟨e1, hq⟩ := overL_fold (fun a => Bmp (W : Int) (H : Int) a) (fun v a => (cellsR W x w s v).foldl (putc op) a) (step := bitmap_Draw_loop7_step (W : Int) (H : Int) (w : Int) (h : Int) s (x : Int) 0 op) (List.range h) 0 p hb fun n u a hn ha => by
  have hk := lt_len_of_get hn
  rw [List.length_range] at hk
  rw [Nat.zero_add]
  unfold bitmap_Draw_loop7_step
  have := bitmap_Draw_loop10_over (W : Int) (H : Int) (w : Int) (h : Int) s (x : Int) 0 op ((n : Nat) : Int) (by rw [List.length_range]; omega) a
  rw [this, Int.toNat_natCast]
  obtain ⟨e, hr⟩ := inner n hk a ha
  rw [e]
  exact ⟨rfl, hr⟩
 rw [List.length_range, ← List.range_eq_range', ← List.foldl_flatMap] at e1 hq
 refine ⟨?_, hq⟩
 rw [bitmap_Draw_eq, bitmapValid_is (by omega), bitmapValid_is (by omega), hb.b, hs.b, bitmap_isShift_eq, imin_eq, imax_eq]
 have g1 : min (x : Int) 0 ≥ -100000 := by omega
 have g2 : max (x : Int) 0 ≤ 100000 := by omega
 have g3 : ¬ op < 0 := by omega
 have g4 : ¬ op > 4 := by omega
 simp only [Option.bind_some, Bool.not_true, Bool.false_eq_true, if_false, g3, g4, decide_false, g1, g2, decide_true, if_true, Sum.elim_inl, bitmap_clone_is (w := (W : Int)) (h := (H : Int)) (b := p) (by omega)]
 rw [bitmap_Draw_loop7_over (W : Int) (H : Int) (w : Int) (h : Int) s (x : Int) 0 op (by rw [List.length_range]; omega) p, Int.toNat_natCast, e1]
 rfl
/-! ### A blank bitmap of either colour -/
theorem new_loopP {c : Int} (hc : c = 0 ∨ c = 1) (n : Nat) (hn : n ≤ 100000) : ∀ (m i : Nat), i + m = n → loop (bitmap_New_loop5 c (List.replicate n 0)) ((i : Int), List.replicate i c ++ List.replicate m 0) = some (List.replicate n c)
 | 0, i, hi => by
  refine loop_done ?_
  unfold bitmap_New_loop5
  rw [List.length_replicate, if_neg (by simp; omega)]
  have : i = n := by omega
  subst this
  simp
 | m + 1, i, hi => by
  have hst : bitmap_New_loop5 c (List.replicate n 0) ((i : Int), List.replicate i c ++ List.replicate (m + 1) 0) = some (.inl (((i + 1 : Nat) : Int), List.replicate (i + 1) c ++ List.replicate m 0)) := by
   unfold bitmap_New_loop5
   simp only [iteD, List.length_replicate, List.length_append]
   have e8 : IntKind.u8.wrap c = c := by rw [w8]; omega
   rw [if_pos (by omega), if_pos (by omega), e8, w64 (n := (i : Int) + 1) (by omega), Int.toNat_natCast, List.set_append_right _ _ (by simp), List.length_replicate, Nat.sub_self, List.replicate_succ, List.set_cons_zero, List.replicate_succ', List.append_assoc]
   rfl
  rw [loop_step hst, new_loopP hc n hn m (i + 1) (by omega)]
theorem newP_ok {c : Int} (hc : c = 0 ∨ c = 1) {w h : Int} (hs : sidesB w h = true) : bitmap_New w h c = some (w, h, 0, List.replicate (w * h).toNat c) := by
 obtain ⟨h0, h1, h2, h3, h4⟩ := sidesB_iff.1 hs
 have m := mul_small h0 h1 h2 h3
 rw [bitmap_New_eq, bitmap_New_b]
 have n1 : ¬ w < 0 := by omega
 have n2 : ¬ h < 0 := by omega
 have e3 : ((if (!decide (c = 0)) = true then some (!decide (c = 1)) else some false) : Option Bool) = some false := by
  rcases hc with rfl | rfl <;> rfl
 simp only [n1, n2, decide_false, Bool.false_eq_true, if_false, e3, Option.bind_some]
 rw [bitmap_blank_eq, bitmap_blank_b]
 rw [bmpErr, hs]
 simp only [Option.bind_some, Bool.not_true, Bool.false_eq_true, if_false]
 rw [w64 (n := w * h) (by omega), if_pos (by omega)]
 simp only [Option.bind_some]
 have := new_loopP hc (w * h).toNat (by omega) (w * h).toNat 0 (by omega)
 rw [List.replicate_zero, List.nil_append] at this
 have this' : loop (bitmap_New_loop5 c (List.replicate (w * h).toNat 0)) (0, List.replicate (w * h).toNat 0) = _ := this
 rw [this']
 rfl
theorem blankP_bmp {c : Int} (hc : c = 0 ∨ c = 1) {w h : Int} (hs : sidesB w h = true) : Bmp w h (List.replicate (w * h).toNat c) := by
 obtain ⟨h0, h1, h2, h3, h4⟩ := sidesB_iff.1 hs
 have m := mul_small h0 h1 h2 h3
 refine ⟨h0, h1, h2, h3, h4, by rw [List.length_replicate]; omega, fun x hx => ?_⟩
 rw [List.eq_of_mem_replicate hx]
 exact hc
end Go.Proofs.YtgffdmgidnnedaaGreat.P
