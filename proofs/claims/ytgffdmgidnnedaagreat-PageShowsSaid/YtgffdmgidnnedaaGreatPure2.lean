/- Texts PureCd, PureCd2, PureGn, PureGn2, PureShw, PureShwLaw, one behind the other. -/
import Derived.Test.YtgffdmgidnnedaaGreatQs
import Derived.Test.YtgffdmgidnnedaaGreatPure1
set_option linter.unusedVariables false
set_option linter.unusedSimpArgs false
set_option maxRecDepth 10000
namespace Go.Proofs.YtgffdmgidnnedaaGreat.P
open Go Go.Proofs.YtgffdmgidnnedaaGreat.V
/-- q(k) for each k -/
def QL : List Int := [2048, 1792, 1568, 1372, 1201, 1051, 920, 805, 705, 617, 540, 473, 414, 363, 318, 279, 245, 215, 189, 166, 146, 128, 112, 98, 86, 76, 67, 59, 52, 46, 41, 36]
theorem QL_range : ∀ i : Fin 32, 36 ≤ rd QL ((i : Nat) : Int) ∧ rd QL ((i : Nat) : Int) ≤ 2048 := by decide +kernel
/-- a model's state -/
def StateOk (kind s : Int) : Prop := (kind = 0 ∧ 0 ≤ s ∧ s < 64) ∨ (kind = 1 ∧ 0 ≤ s ∧ s < 65536)
/-- how likely a 1 is, in a state -/
theorem chance_some {kind s : Int} (h : StateOk kind s) : ∃ p, coder_table_chance kind s = some p ∧ 0 ≤ p ∧ p < 4096 := by
 rw [coder_table_chance_eq]
 rcases h with ⟨rfl, h0, h1⟩ | ⟨rfl, h0, h1⟩
 ·simp only [show ¬ ((0 : Int) = 1) by decide, decide_true, decide_false, Bool.false_eq_true, if_true, if_false]
  by_cases h2 : s ≥ 32
  ·have hr := QL_range ⟨(s - 32).toNat, by omega⟩
   simp only [show (((s - 32).toNat : Nat) : Int) = s - 32 by omega] at hr
   have e : IntKind.i64.wrap (s - 32) = s - 32 := w64 (by omega)
   simp only [h2, decide_true, if_true, e]
   rw [if_pos (by omega)]
   refine ⟨_, rfl, ?_⟩
   have hr' : 36 ≤ rd [2048, 1792, 1568, 1372, 1201, 1051, 920, 805, 705, 617, 540, 473, 414, 363, 318, 279, 245, 215, 189, 166, 146, 128, 112, 98, 86, 76, 67, 59, 52, 46, 41, 36] (s - 32) ∧ rd [2048, 1792, 1568, 1372, 1201, 1051, 920, 805, 705, 617, 540, 473, 414, 363, 318, 279, 245, 215, 189, 166, 146, 128, 112, 98, 86, 76, 67, 59, 52, 46, 41, 36] (s - 32) ≤ 2048 := hr
   rw [w64 (by omega)]
   omega
  ·have hr := QL_range ⟨s.toNat, by omega⟩
   simp only [show ((s.toNat : Nat) : Int) = s by omega] at hr
   simp only [h2, decide_false, Bool.false_eq_true, if_false]
   rw [if_pos (by omega)]
   refine ⟨_, rfl, ?_⟩
   have hr' : 36 ≤ rd [2048, 1792, 1568, 1372, 1201, 1051, 920, 805, 705, 617, 540, 473, 414, 363, 318, 279, 245, 215, 189, 166, 146, 128, 112, 98, 86, 76, 67, 59, 52, 46, 41, 36] s ∧ rd [2048, 1792, 1568, 1372, 1201, 1051, 920, 805, 705, 617, 540, 473, 414, 363, 318, 279, 245, 215, 189, 166, 146, 128, 112, 98, 86, 76, 67, 59, 52, 46, 41, 36] s ≤ 2048 := hr
   omega
 ·simp only [tmod_pos h0, tdiv_pos h0, decide_true, if_true]
  have e1 : IntKind.i64.wrap (s / 256) = s / 256 := w64 (by omega)
  have e2 : IntKind.i64.wrap (2 * (s % 256)) = 2 * (s % 256) := w64 (by omega)
  have e3 : IntKind.i64.wrap (2 * (s / 256)) = 2 * (s / 256) := w64 (by omega)
  rw [e1, e2, e3, w64 (n := 2 * (s / 256) + 2 * (s % 256)) (by omega), w64 (n := 2 * (s / 256) + 2 * (s % 256) + 2) (by omega), if_neg (by omega)]
  refine ⟨_, rfl, ?_, ?_⟩ <;> rw [imin_eq, imax_eq] <;> omega
theorem next_some {kind s bit : Int} (h : StateOk kind s) (hb : bit = 0 ∨ bit = 1) : ∃ s', coder_next kind s bit = some s' ∧ StateOk kind s' := by
 rw [coder_next_eq]
 rcases h with ⟨rfl, h0, h1⟩ | ⟨rfl, h0, h1⟩
 ·simp only [tmod_pos h0, tdiv_pos h0, show ¬ ((0 : Int) = 1) by decide, decide_false, Bool.false_eq_true, if_false]
  rw [tdiv_pos (show 0 ≤ s % 32 by omega)]
  have e1 : IntKind.i64.wrap (s / 32) = s / 32 := w64 (by omega)
  simp only [e1]
  by_cases h2 : bit = s / 32
  ·simp only [h2, decide_true, if_true]
   refine ⟨_, rfl, .inl ⟨rfl, ?_⟩⟩
   rw [w64 (n := 32 * (s / 32)) (by omega), w64 (n := s % 32 + 1) (by omega), imin_eq, w64 (by omega)]
   omega
  ·simp only [h2, decide_false, Bool.false_eq_true, if_false]
   by_cases h3 : s % 32 = 0
   ·simp only [h3, decide_true, if_true]
    exact ⟨_, rfl, .inl ⟨rfl, by rw [w64 (n := 32 * bit) (by omega), w64 (by omega)]; omega⟩⟩
   ·simp only [h3, decide_false, Bool.false_eq_true, if_false]
    refine ⟨_, rfl, .inl ⟨rfl, ?_⟩⟩
    rw [w64 (n := s % 32 / 4) (by omega), w64 (n := 1 + s % 32 / 4) (by omega), w64 (n := s % 32 - (1 + s % 32 / 4)) (by omega), w64 (n := 32 * (s / 32)) (by omega), w64 (by omega)]
    omega
 ·simp only [tmod_pos h0, tdiv_pos h0, decide_true, if_true]
  have e1 : IntKind.i64.wrap (s / 256) = s / 256 := w64 (by omega)
  have e2 : IntKind.i64.wrap ((s / 256).tdiv 2) = s / 256 / 2 := by rw [tdiv_pos (by omega), w64 (by omega)]
  have e3 : IntKind.i64.wrap ((s % 256).tdiv 2) = s % 256 / 2 := by rw [tdiv_pos (by omega), w64 (by omega)]
  have c0 : 0 ≤ (0 : Int) ∧ (0 : Int) < ((2 : Nat) : Int) := by decide
  have c1 : 0 ≤ (1 : Int) ∧ (1 : Int) < ((2 : Nat) : Int) := by decide
  have r0 : ∀ a b : Int, rd [a, b] 0 = a := fun a b => rfl
  have r1 : ∀ a b : Int, rd [a, b] 1 = b := fun a b => rfl
  rcases hb with rfl | rfl
  ·simp only [c0, c1, and_self, if_true, e1, e2, e3, r0]
   by_cases h2 : s / 256 = 255
   ·simp only [h2, decide_true, if_true, Option.bind_some, r0]
    refine ⟨_, rfl, .inr ⟨rfl, ?_⟩⟩
    simp only [show ¬ ((0 : Int) = 1) by decide, if_false, w64s]
    omega
   ·simp only [h2, decide_false, Bool.false_eq_true, if_false, Option.bind_some, r0]
    refine ⟨_, rfl, .inr ⟨rfl, ?_⟩⟩
    simp only [show ¬ ((0 : Int) = 1) by decide, if_false, if_true, w64s]
    omega
  ·simp only [c0, c1, and_self, if_true, e1, e2, e3, r1]
   by_cases h2 : s % 256 = 255
   ·simp only [h2, decide_true, if_true, Option.bind_some, r1]
    refine ⟨_, rfl, .inr ⟨rfl, ?_⟩⟩
    simp only [show ¬ ((1 : Int) = 0) by decide, if_false, if_true, w64s]
    omega
   ·simp only [h2, decide_false, Bool.false_eq_true, if_false, Option.bind_some, r1]
    refine ⟨_, rfl, .inr ⟨rfl, ?_⟩⟩
    simp only [show ¬ ((1 : Int) = 0) by decide, if_false, if_true, w64s]
    omega
/-! ### The interval: two numbers of 32 bits -/
theorem ushr24 (n : Int) : ishr .u64 n 24 = n / 16777216 := by
 unfold ishr
 rw [show (2 : Int) ^ (min (24 : Int).toNat IntKind.u64.bits) = 16777216 by decide, Int.fdiv_eq_ediv_of_nonneg _ (by decide)]
theorem ushl8 {n : Int} (h0 : 0 ≤ n) (h1 : n < 4294967296) : ishl .u64 n 8 = n * 256 := by
 unfold ishl
 rw [show (2 : Int) ^ (min (8 : Int).toNat IntKind.u64.bits) = 256 by decide, wu64]
 omega
theorem ubv (m : Nat) : BitVec.ofInt 64 (m : Int) = BitVec.ofNat 64 m := by simp
theorem uand32 {n : Int} (h0 : 0 ≤ n) (h1 : n < 18446744073709551616) : iand .u64 n 4294967295 = n % 4294967296 := by
 obtain ⟨m, rfl⟩ := Int.eq_ofNat_of_zero_le h0
 unfold iand
 rw [show IntKind.u64.bits = 64 from rfl, show (4294967295 : Int) = ((4294967295 : Nat) : Int) from rfl, ubv, ubv, BitVec.toNat_and, BitVec.toNat_ofNat, BitVec.toNat_ofNat, wu64]
 rw [Nat.mod_eq_of_lt (show m < 2 ^ 64 by omega), show (4294967295 : Nat) % 2 ^ 64 = 2 ^ 32 - 1 by decide, Nat.and_two_pow_sub_one_eq_mod]
 omega
theorem uor255 {n : Int} (h0 : 0 ≤ n) (h1 : n < 18446744073709551616) (h : n % 256 = 0) : ior .u64 n 255 = n + 255 := by
 obtain ⟨m, rfl⟩ := Int.eq_ofNat_of_zero_le h0
 unfold ior
 rw [show IntKind.u64.bits = 64 from rfl, show (255 : Int) = ((255 : Nat) : Int) from rfl, ubv, ubv, BitVec.toNat_or, BitVec.toNat_ofNat, BitVec.toNat_ofNat, wu64]
 rw [Nat.mod_eq_of_lt (show m < 2 ^ 64 by omega), show (255 : Nat) % 2 ^ 64 = 255 by decide]
 obtain ⟨k, hk⟩ : ∃ k, m = 2 ^ 8 * k := ⟨m / 256, by omega⟩
 subst hk
 rw [← Nat.two_pow_add_eq_or_of_lt (show 255 < 2 ^ 8 by decide)]
 omega
/-- low and high -/
def Iv (lo hi : Int) : Prop := 0 ≤ lo ∧ lo ≤ hi ∧ hi < 4294967296
theorem lose_is {kind lo hi : Int} {st out : List Int} (h : Iv lo hi) : coder_interval_lose kind lo hi st out = some (lo / 16777216, kind, lo % 16777216 * 256, hi % 16777216 * 256 + 255, st, out) := by
 obtain ⟨h0, h1, h2⟩ := h
 rw [coder_interval_lose_eq]
 try simp only
 rw [ushr24, ushl8 h0 (by omega), ushl8 (by omega) h2, uand32 (by omega) (by omega), uand32 (by omega) (by omega), uor255 (by omega) (by omega) (by omega), w8]
 congr 2
 ·omega
 ·congr 1
  congr 1
  ·omega
  ·congr 1
   omega
/-- where a chance cuts an interval -/
def midV (lo hi p : Int) : Int := lo + (hi - lo) / 4096 * p + (hi - lo) % 4096 * p / 4096
theorem midV_ge {lo hi p : Int} (h : lo ≤ hi) (hp : 0 ≤ p) : lo ≤ midV lo hi p := by
 unfold midV
 have h1 : 0 ≤ (hi - lo) / 4096 * p := Int.mul_nonneg (by omega) hp
 have h2 : 0 ≤ (hi - lo) % 4096 * p := Int.mul_nonneg (by omega) hp
 omega
theorem midV_lt {lo hi p : Int} (h : lo < hi) (hp : 0 ≤ p) (hp2 : p < 4096) : midV lo hi p < hi := by
 unfold midV
 have h1 : (hi - lo) / 4096 * p ≤ (hi - lo) / 4096 * 4095 := Int.mul_le_mul_of_nonneg_left (by omega) (by omega)
 have h2 : (hi - lo) % 4096 * p ≤ (hi - lo) % 4096 * 4095 := Int.mul_le_mul_of_nonneg_left (by omega) (by omega)
 omega
noncomputable def chV (kind s : Int) : Int := (coder_table_chance kind s).getD 0
noncomputable def nxV (kind s bit : Int) : Int := (coder_next kind s bit).getD 0
theorem chV_is {kind s : Int} (h : StateOk kind s) : coder_table_chance kind s = some (chV kind s) ∧ 0 ≤ chV kind s ∧ chV kind s < 4096 := by
 obtain ⟨p, e, h⟩ := chance_some h
 unfold chV
 rw [e]
 exact ⟨rfl, h⟩
theorem nxV_is {kind s bit : Int} (h : StateOk kind s) (hb : bit = 0 ∨ bit = 1) : coder_next kind s bit = some (nxV kind s bit) ∧ StateOk kind (nxV kind s bit) := by
 obtain ⟨p, e, h⟩ := next_some h hb
 unfold nxV
 rw [e]
 exact ⟨rfl, h⟩
/-! ### Bytes that are known leave -/
def flush : Nat → Int → Int → List Int → Int × Int × List Int
 | 0, lo, hi, out => (lo, hi, out)
 | n + 1, lo, hi, out => if lo / 16777216 = hi / 16777216 then flush n (lo % 16777216 * 256) (hi % 16777216 * 256 + 255) (out ++ [hi / 16777216]) else (lo, hi, out)
def gapOf : Nat → Int
 | 0 => 4294967295
 | 1 => 16777215
 | 2 => 65535
 | 3 => 255
 | _ => 0
theorem gap_step {n : Nat} {d : Int} (h : gapOf (n + 1) ≤ d) (h0 : 0 ≤ d) : gapOf n ≤ 256 * d + 255 := by
 match n with
 | 0 => simp only [gapOf] at h ⊢; omega
 | 1 => simp only [gapOf] at h ⊢; omega
 | 2 => simp only [gapOf] at h ⊢; omega
 | 3 => simp only [gapOf] at h ⊢; omega
 | n + 4 => simp only [gapOf]; omega
theorem Iv.shift {lo hi : Int} (h : Iv lo hi) (e : lo / 16777216 = hi / 16777216) : Iv (lo % 16777216 * 256) (hi % 16777216 * 256 + 255) ∧ hi % 16777216 * 256 + 255 - lo % 16777216 * 256 = 256 * (hi - lo) + 255 := by
 obtain ⟨h0, h1, h2⟩ := h
 exact ⟨⟨by omega, by omega, by omega⟩, by omega⟩
theorem flush_is : ∀ (n : Nat) (lo hi : Int) (out : List Int), Iv lo hi → gapOf n ≤ hi - lo → Iv (flush n lo hi out).1 (flush n lo hi out).2.1 ∧ (flush n lo hi out).1 / 16777216 ≠ (flush n lo hi out).2.1 / 16777216 ∧ (flush n lo hi out).2.2.length ≤ out.length + n ∧ out.length ≤ (flush n lo hi out).2.2.length
 | 0, lo, hi, out, h, hg => by
  simp only [gapOf] at hg
  refine ⟨h, ?_, Nat.le_refl _, Nat.le_refl _⟩
  show lo / 16777216 ≠ hi / 16777216
  obtain ⟨h0, h1, h2⟩ := h
  omega
 | n + 1, lo, hi, out, h, hg => by
  by_cases e : lo / 16777216 = hi / 16777216
  ·obtain ⟨h1, h2⟩ := h.shift e
   have := flush_is n _ _ (out ++ [hi / 16777216]) h1 (by rw [h2]; exact gap_step hg (by have := h.2.1; omega))
   simp only [flush, e, if_true]
   simp only [List.length_append, List.length_singleton] at this
   exact ⟨this.1, this.2.1, by omega, by omega⟩
  ·simp only [flush, e, if_false]
   exact ⟨h, e, by omega, Nat.le_refl _⟩
/-- what an encoder is, between two calls -/
structure EncOk (kind lo hi : Int) (st : List Int) : Prop where
 two : kind = 0 ∨ kind = 1
 iv : Iv lo hi
 open_ : lo / 16777216 ≠ hi / 16777216
 states : ∀ s ∈ st, StateOk kind s
/-! ### A bit that is put -/
abbrev EncS := Int × Int × Int × List Int × List Int
noncomputable def cutV (e : EncS) (c : Int) : Int := midV e.2.1 e.2.2.1 (chV e.1 (rd e.2.2.2.1 c))
noncomputable def subV (e : EncS) (c b : Int) : Int × Int := if b = 1 then (e.2.1, cutV e c) else (cutV e c + 1, e.2.2.1)
noncomputable def encStep (e : EncS) (v : Int × Int) : EncS :=
 let f := flush 4 (subV e v.1 v.2).1 (subV e v.1 v.2).2 e.2.2.2.2
 (e.1, f.1, f.2.1, e.2.2.2.1.set v.1.toNat (nxV e.1 (rd e.2.2.2.1 v.1) v.2), f.2.2)
def EncO (e : EncS) : Prop := EncOk e.1 e.2.1 e.2.2.1 e.2.2.2.1
/-- an event that may be put -/
def EvOk (n : Nat) (v : Int × Int) : Prop := (0 ≤ v.1 ∧ v.1 < (n : Int)) ∧ (v.2 = 0 ∨ v.2 = 1)
theorem EncO.lt {e : EncS} (h : EncO e) : e.2.1 < e.2.2.1 := by
 rcases Int.lt_or_le e.2.1 e.2.2.1 with q | q
 ·exact q
 ·exact absurd (by rw [show e.2.1 = e.2.2.1 by have := h.iv.2.1; omega]) h.open_
theorem cutV_is {e : EncS} (h : EncO e) {c : Int} (hc : 0 ≤ c ∧ c < (e.2.2.2.1.length : Int)) : StateOk e.1 (rd e.2.2.2.1 c) ∧ e.2.1 ≤ cutV e c ∧ cutV e c < e.2.2.1 := by
 have hs : StateOk e.1 (rd e.2.2.2.1 c) := h.states _ (List.mem_of_getElem? (rd_get hc.1 hc.2))
 obtain ⟨_, p0, p1⟩ := chV_is hs
 exact ⟨hs, midV_ge h.iv.2.1 p0, midV_lt h.lt p0 p1⟩
theorem subV_iv {e : EncS} (h : EncO e) {c b : Int} (hc : 0 ≤ c ∧ c < (e.2.2.2.1.length : Int)) : Iv (subV e c b).1 (subV e c b).2 := by
 obtain ⟨_, h1, h2⟩ := cutV_is h hc
 obtain ⟨i0, i1, i2⟩ := h.iv
 unfold subV
 split
 ·exact ⟨i0, h1, by show cutV e c < _; omega⟩
 ·exact ⟨by show 0 ≤ cutV e c + 1; omega, by show cutV e c + 1 ≤ e.2.2.1; omega, i2⟩
theorem gap4 {lo hi : Int} (h : Iv lo hi) : gapOf 4 ≤ hi - lo := by simp only [gapOf]; have := h.2.1; omega
theorem encStep_ok {e : EncS} (h : EncO e) {v : Int × Int} (hv : EvOk e.2.2.2.1.length v) : EncO (encStep e v) ∧ (encStep e v).2.2.2.1.length = e.2.2.2.1.length ∧ (encStep e v).2.2.2.2.length ≤ e.2.2.2.2.length + 4 := by
 obtain ⟨hs, _⟩ := cutV_is h hv.1
 have hi := subV_iv h hv.1 (b := v.2)
 obtain ⟨f1, f2, f3, f4⟩ := flush_is 4 _ _ e.2.2.2.2 hi (gap4 hi)
 refine ⟨⟨h.two, f1, f2, fun x hx => ?_⟩, List.length_set, f3⟩
 rcases List.mem_or_eq_of_mem_set hx with q | rfl
 ·exact h.states x q
 ·exact (nxV_is hs hv.2).2
theorem midRaw {lo hi p : Int} (h : Iv lo hi) (hp : 0 ≤ p) (hp2 : p < 4096) : IntKind.u64.wrap (IntKind.u64.wrap (lo + IntKind.u64.wrap (IntKind.u64.wrap ((IntKind.u64.wrap (hi - lo)).tdiv 4096) * IntKind.u64.wrap p)) + IntKind.u64.wrap ((IntKind.u64.wrap ((IntKind.u64.wrap (hi - lo)).tmod 4096 * IntKind.u64.wrap p)).tdiv 4096)) = midV lo hi p := by
 obtain ⟨h0, h1, h2⟩ := h
 have a1 : 0 ≤ (hi - lo) / 4096 * p := Int.mul_nonneg (by omega) hp
 have a2 : (hi - lo) / 4096 * p ≤ (hi - lo) / 4096 * 4095 := Int.mul_le_mul_of_nonneg_left (by omega) (by omega)
 have a3 : 0 ≤ (hi - lo) % 4096 * p := Int.mul_nonneg (by omega) hp
 have a4 : (hi - lo) % 4096 * p ≤ (hi - lo) % 4096 * 4095 := Int.mul_le_mul_of_nonneg_left (by omega) (by omega)
 unfold midV
 simp only [wu64, show (hi - lo) % 18446744073709551616 = hi - lo by omega, tdiv_pos (show 0 ≤ hi - lo by omega), tmod_pos (show 0 ≤ hi - lo by omega), show p % 18446744073709551616 = p by omega,
  show (hi - lo) / 4096 % 18446744073709551616 = (hi - lo) / 4096 by omega]
 rw [show (hi - lo) % 4096 * p % 18446744073709551616 = (hi - lo) % 4096 * p by omega, tdiv_pos a3]
 omega
theorem same_is {kind lo hi : Int} {st out : List Int} : coder_interval_same kind lo hi st out = some (decide (lo / 16777216 = hi / 16777216), kind, lo, hi, st, out) := by
 rw [coder_interval_same_eq]
 simp only [ushr24]
theorem put_loop {kind : Int} {st : List Int} : ∀ (n : Nat) (lo hi : Int) (out : List Int), Iv lo hi → gapOf n ≤ hi - lo → out.length + n ≤ 140737488355328 →
  loop coder_Encoder_Put_loop6 (kind, lo, hi, st, out) = some (kind, (flush n lo hi out).1, (flush n lo hi out).2.1, st, (flush n lo hi out).2.2)
 | 0, lo, hi, out, h, hg, hl => by
  refine loop_done ?_
  unfold coder_Encoder_Put_loop6
  simp only [same_is, Option.bind_some]
  simp only [gapOf] at hg
  have hne : ¬ lo / 16777216 = hi / 16777216 := by obtain ⟨h0, h1, h2⟩ := h; omega
  simp only [hne, decide_false, Bool.false_eq_true, if_false, flush]
 | n + 1, lo, hi, out, h, hg, hl => by
  by_cases e : lo / 16777216 = hi / 16777216
  ·obtain ⟨h1, h2⟩ := h.shift e
   rw [loop_step (s' := (kind, lo % 16777216 * 256, hi % 16777216 * 256 + 255, st, out ++ [hi / 16777216]))]
   ·rw [put_loop n _ _ _ h1 (by rw [h2]; exact gap_step hg (by have := h.2.1; omega)) (by simp; omega)]
    simp only [flush, e, if_true]
   ·unfold coder_Encoder_Put_loop6
    simp only [same_is, Option.bind_some, lose_is h]
    simp only [e, decide_true, if_true, List.length_singleton]
    rw [if_pos (by omega)]
  ·refine loop_done ?_
   unfold coder_Encoder_Put_loop6
   simp only [same_is, Option.bind_some]
   simp only [e, decide_false, Bool.false_eq_true, if_false, flush]
theorem put_is {e : EncS} (h : EncO e) {v : Int × Int} (hv : EvOk e.2.2.2.1.length v) (hl : e.2.2.2.2.length + 4 ≤ 140737488355328) :
  coder_Encoder_Put v.1 v.2 e.1 e.2.1 e.2.2.1 e.2.2.2.1 e.2.2.2.2 = some (0, encStep e v) := by
 obtain ⟨kind, lo, hi, st, out⟩ := e
 obtain ⟨c, b⟩ := v
 obtain ⟨hc, hb⟩ := hv
 obtain ⟨hs, m1, m2⟩ := cutV_is h hc
 obtain ⟨q1, q2, q3⟩ := chV_is hs
 have hiv := subV_iv h hc (b := b)
 have hlt := h.lt
 obtain ⟨i0, i1, i2⟩ := h.iv
 simp only at hc hb hs m1 m2 q1 q2 q3 hlt i0 i1 i2 hl ⊢
 have hn := (nxV_is hs hb).1
 rw [coder_Encoder_Put_eq, coder_Encoder_none_eq]
 have c1 : ¬ c < 0 := by omega
 have c2 : ¬ c ≥ ((st.length : Nat) : Int) := by omega
 have c3 : (if (!decide (b = 0)) = true then some (!decide (b = 1)) else some false) = some false := by rcases hb with rfl | rfl <;> rfl
 have em : coder_interval_mid c kind lo hi st out = some (cutV (kind, lo, hi, st, out) c, kind, lo, hi, st, out) := by
  rw [coder_interval_mid_eq, if_pos hc]
  simp only [q1, Option.bind_some]
  rw [midRaw h.iv q2 q3]
  rfl
 have et : coder_interval_take c b (cutV (kind, lo, hi, st, out) c) kind lo hi st out = some (kind, (subV (kind, lo, hi, st, out) c b).1, (subV (kind, lo, hi, st, out) c b).2, st.set c.toNat (nxV kind (rd st c) b), out) := by
  rw [coder_interval_take_eq]
  have hw : IntKind.u64.wrap (cutV (kind, lo, hi, st, out) c + 1) = cutV (kind, lo, hi, st, out) c + 1 := by rw [wu64]; omega
  unfold subV
  by_cases h1 : b = 1
  ·simp only [h1, decide_true, if_true, Option.bind_some, hc, and_self]
   rw [h1] at hn
   rw [hn]
   rfl
  ·simp only [h1, decide_false, Bool.false_eq_true, if_false, Option.bind_some, hc, and_self, if_true, hw, hn]
 simp only [c1, c2, c3, decide_false, Bool.false_eq_true, if_false, Option.bind_some, Sum.elim_inl, em, et]
 rw [put_loop 4 _ _ _ hiv (gap4 hiv) (by omega)]
 rfl
/-! ### The end of a code: as few bytes of high as can be -/
theorem ushr_lit {n s m : Int} (hm : (2 : Int) ^ (min s.toNat IntKind.u64.bits) = m) (h0 : 0 ≤ m) : ishr .u64 n s = n / m := by
 unfold ishr; rw [hm, Int.fdiv_eq_ediv_of_nonneg _ h0]
theorem ushl_lit {n s m : Int} (hm : (2 : Int) ^ (min s.toNat IntKind.u64.bits) = m) (h : 0 ≤ n * m ∧ n * m < 18446744073709551616) : ishl .u64 n s = n * m := by
 unfold ishl; rw [hm, wu64]; omega
def tbyte (hi : Int) : Nat → Int
 | 0 => hi / 16777216 % 256
 | 1 => hi / 65536 % 256
 | 2 => hi / 256 % 256
 | _ => hi / 1 % 256
def cutH (hi : Int) : Nat → Int
 | 0 => 0
 | 1 => hi / 16777216 * 16777216
 | 2 => hi / 65536 * 65536
 | 3 => hi / 256 * 256
 | _ => hi
def tbl (hi : Int) : Nat → List Int
 | 0 => []
 | n + 1 => tbl hi n ++ [tbyte hi n]
theorem tbl_len (hi : Int) : ∀ n, (tbl hi n).length = n
 | 0 => rfl
 | n + 1 => by simp [tbl, tbl_len hi n]
/-- how many bytes an end takes -/
def endN (lo hi : Int) : Nat := if lo ≤ cutH hi 0 then 0 else if lo ≤ cutH hi 1 then 1 else if lo ≤ cutH hi 2 then 2 else if lo ≤ cutH hi 3 then 3 else 4
theorem endN_is {lo hi : Int} (h : Iv lo hi) : endN lo hi ≤ 4 ∧ (∀ k, k < endN lo hi → cutH hi k < lo) ∧ lo ≤ cutH hi (endN lo hi) := by
 unfold endN
 split
 ·exact ⟨by omega, fun k hk => by omega, ‹_›⟩
 ·split
  ·exact ⟨by omega, fun k hk => by obtain rfl : k = 0 := by omega
                                   omega, ‹_›⟩
  ·split
   ·refine ⟨by omega, fun k hk => ?_, ‹_›⟩
    rcases k with _ | _ | k <;> (try simp only [Nat.zero_add]) <;> omega
   ·split
    ·refine ⟨by omega, fun k hk => ?_, ‹_›⟩
     rcases k with _ | _ | _ | k <;> (try simp only [Nat.zero_add, Nat.reduceAdd]) <;> omega
    ·refine ⟨by omega, fun k hk => ?_, h.2.1⟩
     rcases k with _ | _ | _ | _ | k <;> (try simp only [Nat.zero_add, Nat.reduceAdd]) <;> omega
theorem endIn_loop {lo hi : Int} (h : Iv lo hi) {n : Nat} (hn : n ≤ 4) {out : List Int} (hl : out.length + 4 ≤ 140737488355328) : ∀ d k, k + d = n → loop (coder_Encoder_End_loop10 hi (n : Int)) ((k : Int), out ++ tbl hi k) = some (out ++ tbl hi n)
 | 0, k, hk => by
  rw [Nat.add_zero] at hk
  subst hk
  refine loop_done ?_
  unfold coder_Encoder_End_loop10
  simp
 | d + 1, k, hk => by
  rw [loop_step (s' := (((k + 1 : Nat) : Int), out ++ tbl hi (k + 1)))]
  ·exact endIn_loop h hn hl d (k + 1) (by omega)
  ·obtain ⟨h0, h1, h2⟩ := h
   unfold coder_Encoder_End_loop10
   have h3 : (k : Int) < (n : Int) := by omega
   simp only [h3, decide_true, if_true, List.length_append, tbl_len, List.length_singleton]
   have hw : IntKind.i64.wrap ((k : Int) + 1) = ((k + 1 : Nat) : Int) := by rw [w64 (by omega)]; rfl
   have e : IntKind.i64.wrap (24 - IntKind.i64.wrap (8 * (k : Int))) = 24 - 8 * (k : Int) := by rw [w64 (n := 8 * (k : Int)) (by omega), w64 (by omega)]
   have hb : IntKind.u8.wrap (ishr .u64 hi (24 - 8 * (k : Int))) = tbyte hi k := by
    rcases k with _ | _ | _ | _ | k
    ·rw [ushr_lit (m := 16777216) (by decide) (by decide), w8]; rfl
    ·rw [ushr_lit (m := 65536) (by decide) (by decide), w8]; rfl
    ·rw [ushr_lit (m := 256) (by decide) (by decide), w8]; rfl
    ·rw [ushr_lit (m := 1) (by decide) (by decide), w8]; rfl
    ·omega
   rw [e, hb, hw, if_neg (by omega), if_pos (by omega)]
   simp only [tbl, List.append_assoc]
theorem endOut_loop {lo hi : Int} (h : Iv lo hi) {out : List Int} (hl : out.length + 4 ≤ 140737488355328) : ∀ d k, k + d = endN lo hi → loop (coder_Encoder_End_loop5 lo hi) ((k : Int), out) = some (Sum.inr (out ++ tbl hi (endN lo hi)))
 | d, k, hk => by
  obtain ⟨q1, q2, q3⟩ := endN_is h
  have hk4 : k ≤ 4 := by omega
  have e : IntKind.u64.wrap (IntKind.i64.wrap (32 - IntKind.i64.wrap (8 * (k : Int)))) = 32 - 8 * (k : Int) := by rw [w64 (n := 8 * (k : Int)) (by omega), w64 (by omega), wu64]; omega
  have hc : ishl .u64 (ishr .u64 hi (32 - 8 * (k : Int))) (32 - 8 * (k : Int)) = cutH hi k := by
   obtain ⟨h0, h1, h2⟩ := h
   rcases k with _ | _ | _ | _ | _ | k
   ·rw [ushr_lit (m := 4294967296) (by decide) (by decide), ushl_lit (m := 4294967296) (by decide) (by omega)]
    show _ = (0 : Int)
    omega
   ·rw [ushr_lit (m := 16777216) (by decide) (by decide), ushl_lit (m := 16777216) (by decide) (by omega)]; rfl
   ·rw [ushr_lit (m := 65536) (by decide) (by decide), ushl_lit (m := 65536) (by decide) (by omega)]; rfl
   ·rw [ushr_lit (m := 256) (by decide) (by decide), ushl_lit (m := 256) (by decide) (by omega)]; rfl
   ·rw [ushr_lit (m := 1) (by decide) (by decide), ushl_lit (m := 1) (by decide) (by omega)]
    show _ = hi
    omega
   ·omega
  have h5 : (k : Int) < 5 := by omega
  cases d with
  | zero =>
   rw [Nat.add_zero] at hk
   subst hk
   refine loop_done ?_
   unfold coder_Encoder_End_loop5
   simp only [h5, decide_true, if_true, e, hc]
   rw [if_neg (by omega), if_neg (by omega)]
   have h6 : cutH hi (endN lo hi) ≥ lo := q3
   simp only [h6, decide_true, if_true]
   have := endIn_loop h q1 hl (endN lo hi) 0 (by omega)
   simp only [tbl, List.append_nil] at this
   rw [show ((0 : Nat) : Int) = 0 from rfl] at this
   rw [this]; rfl
  | succ d =>
   rw [loop_step (s' := (((k + 1 : Nat) : Int), out))]
   ·exact endOut_loop h hl d (k + 1) (by omega)
   ·unfold coder_Encoder_End_loop5
    simp only [h5, decide_true, if_true, e, hc]
    rw [if_neg (by omega), if_neg (by omega)]
    have h6 : ¬ cutH hi k ≥ lo := by have := q2 k (by omega); omega
    have hw : IntKind.i64.wrap ((k : Int) + 1) = ((k + 1 : Nat) : Int) := by rw [w64 (by omega)]; rfl
    simp only [h6, decide_false, Bool.false_eq_true, if_false, hw]
theorem end_is {e : EncS} (h : Iv e.2.1 e.2.2.1) (hl : e.2.2.2.2.length + 4 ≤ 140737488355328) : coder_Encoder_End e.1 e.2.1 e.2.2.1 e.2.2.2.1 e.2.2.2.2 = some (e.2.2.2.2 ++ tbl e.2.2.1 (endN e.2.1 e.2.2.1), e) := by
 rw [coder_Encoder_End_eq, coder_Encoder_none_eq]
 have := endOut_loop h hl (endN e.2.1 e.2.2.1) 0 (by omega)
 rw [show ((0 : Nat) : Int) = 0 from rfl] at this
 simp only [Option.bind_some, Bool.false_eq_true, if_false, List.length_nil, List.nil_append, this]
 rw [if_pos (by omega)]
 rfl
/-! ### A code and the four bytes of it that a decoder has -/
def byt (C : List Int) (i : Nat) : Int := C[i]?.getD 0
def win (C : List Int) (n : Nat) : Int := byt C n * 16777216 + byt C (n + 1) * 65536 + byt C (n + 2) * 256 + byt C (n + 3)
def Bytes (C : List Int) : Prop := ∀ x ∈ C, 0 ≤ x ∧ x < 256
theorem byt_range {C : List Int} (h : Bytes C) (i : Nat) : 0 ≤ byt C i ∧ byt C i < 256 := by
 unfold byt
 cases e : C[i]? with
 | none => exact ⟨by decide, by decide⟩
 | some x => exact h x (List.mem_of_getElem? e)
theorem win_range {C : List Int} (h : Bytes C) (n : Nat) : 0 ≤ win C n ∧ win C n < 4294967296 := by
 unfold win
 have h0 := byt_range h n
 have h1 := byt_range h (n + 1)
 have h2 := byt_range h (n + 2)
 have h3 := byt_range h (n + 3)
 omega
theorem win_next {C : List Int} (h : Bytes C) (n : Nat) : win C (n + 1) = win C n % 16777216 * 256 + byt C (n + 4) ∧ win C n / 16777216 = byt C n ∧ win C n % 16777216 = win C (n + 1) / 256 := by
 unfold win
 have h0 := byt_range h n
 have h1 := byt_range h (n + 1)
 have h2 := byt_range h (n + 2)
 have h3 := byt_range h (n + 3)
 have h4 := byt_range h (n + 4)
 rw [show n + 1 + 1 = n + 2 by omega, show n + 1 + 2 = n + 3 by omega, show n + 1 + 3 = n + 4 by omega]
 omega
/-- the code lies in the interval -/
def Lies (C : List Int) (lo hi : Int) (out : List Int) : Prop := (∃ s, C = out ++ s) ∧ lo ≤ win C out.length ∧ win C out.length ≤ hi
theorem lies_flush {C : List Int} (hC : Bytes C) : ∀ (n : Nat) (lo hi : Int) (out : List Int), Iv lo hi → Lies C (flush n lo hi out).1 (flush n lo hi out).2.1 (flush n lo hi out).2.2 → Lies C lo hi out
 | 0, lo, hi, out, h, hL => hL
 | n + 1, lo, hi, out, h, hL => by
  unfold flush at hL
  by_cases e : lo / 16777216 = hi / 16777216
  ·rw [if_pos e] at hL
   obtain ⟨⟨s, hs⟩, h1, h2⟩ := lies_flush hC n _ _ _ (h.shift e).1 hL
   obtain ⟨i0, i1, i2⟩ := h
   rw [List.length_append, List.length_singleton] at h1 h2
   obtain ⟨w1, w2, w3⟩ := win_next hC out.length
   have hb : byt C out.length = hi / 16777216 := by
    unfold byt
    rw [hs, List.append_assoc, List.getElem?_append_right (Nat.le_refl _), Nat.sub_self]
    rfl
   exact ⟨⟨[hi / 16777216] ++ s, by rw [hs, List.append_assoc]⟩, by omega, by omega⟩
  ·rw [if_neg e] at hL
   exact hL
def LiesE (C : List Int) (e : EncS) : Prop := Lies C e.2.1 e.2.2.1 e.2.2.2.2
/-- before a bit was put the code lay in the interval too, and where it lies tells the bit -/
theorem lies_step {C : List Int} (hC : Bytes C) {e : EncS} (h : EncO e) {v : Int × Int} (hv : EvOk e.2.2.2.1.length v) (hL : LiesE C (encStep e v)) : LiesE C e ∧ (v.2 = 1 ↔ win C e.2.2.2.2.length ≤ cutV e v.1) := by
 obtain ⟨_, m1, m2⟩ := cutV_is h hv.1
 obtain ⟨hp, h1, h2⟩ := lies_flush hC 4 _ _ _ (subV_iv h hv.1 (b := v.2)) hL
 unfold subV at h1 h2
 by_cases hb : v.2 = 1
 ·rw [if_pos hb] at h1 h2
  simp only at h1 h2
  exact ⟨⟨hp, h1, by omega⟩, by simp only [hb, true_iff]; exact h2⟩
 ·rw [if_neg hb] at h1 h2
  simp only at h1 h2
  exact ⟨⟨hp, by omega, h2⟩, by simp only [hb, false_iff]; omega⟩
theorem tbl_at (hi : Int) : ∀ (n i : Nat), (tbl hi n)[i]? = if i < n then some (tbyte hi i) else none
 | 0, i => by simp [tbl]
 | n + 1, i => by
  simp only [tbl]
  rcases Nat.lt_trichotomy i n with h | h | h
  ·rw [List.getElem?_append_left (by rw [tbl_len]; exact h), tbl_at hi n, if_pos h, if_pos (by omega)]
  ·subst h
   rw [List.getElem?_append_right (by rw [tbl_len]; exact Nat.le_refl _), tbl_len, Nat.sub_self, if_pos (by omega)]
   rfl
  ·rw [if_neg (by omega), List.getElem?_eq_none (by rw [List.length_append, tbl_len, List.length_singleton]; omega)]
theorem win_end {lo hi : Int} (h : Iv lo hi) {out : List Int} {n : Nat} (hn : n ≤ 4) : win (out ++ tbl hi n) out.length = cutH hi n := by
 obtain ⟨i0, i1, i2⟩ := h
 have hb : ∀ j, byt (out ++ tbl hi n) (out.length + j) = if j < n then tbyte hi j else 0 := fun j => by
  unfold byt
  rw [List.getElem?_append_right (by omega), Nat.add_sub_cancel_left, tbl_at]
  split <;> rfl
 have b0 := hb 0
 have b1 := hb 1
 have b2 := hb 2
 have b3 := hb 3
 rw [Nat.add_zero] at b0
 unfold win
 rw [b0, b1, b2, b3]
 rcases n with _ | _ | _ | _ | _ | n <;> simp [cutH, tbyte] <;> omega
theorem tbl_bytes {hi : Int} (h0 : 0 ≤ hi) : ∀ n, Bytes (tbl hi n)
 | 0 => fun x hx => by simp [tbl] at hx
 | n + 1 => fun x hx => by
  rcases List.mem_append.1 hx with hx | hx
  ·exact tbl_bytes h0 n x hx
  ·rw [List.mem_singleton.1 hx]
   rcases n with _ | _ | _ | n <;> simp only [tbyte] <;> omega
theorem lies_end {e : EncS} (h : Iv e.2.1 e.2.2.1) : LiesE (e.2.2.2.2 ++ tbl e.2.2.1 (endN e.2.1 e.2.2.1)) e := by
 obtain ⟨n1, n2, n3⟩ := endN_is h
 refine ⟨⟨_, rfl⟩, ?_, ?_⟩
 ·rw [win_end h n1]; exact n3
 ·rw [win_end h n1]
  obtain ⟨i0, i1, i2⟩ := h
  generalize endN e.2.1 e.2.2.1 = n
  rcases n with _ | _ | _ | _ | n <;> simp only [cutH] <;> omega
/-- bytes that leave are bytes -/
theorem flush_bytes : ∀ (n : Nat) (lo hi : Int) (out : List Int), Iv lo hi → Bytes out → Bytes (flush n lo hi out).2.2
 | 0, lo, hi, out, h, hb => hb
 | n + 1, lo, hi, out, h, hb => by
  unfold flush
  by_cases e : lo / 16777216 = hi / 16777216
  ·rw [if_pos e]
   refine flush_bytes n _ _ _ (h.shift e).1 fun x hx => ?_
   rcases List.mem_append.1 hx with hx | hx
   ·exact hb x hx
   ·obtain ⟨i0, i1, i2⟩ := h
    rw [List.mem_singleton.1 hx]; omega
  ·rw [if_neg e]
   exact hb
theorem uorb {n b : Int} (h0 : 0 ≤ n) (h1 : n < 18446744073709551616) (h : n % 256 = 0) (b0 : 0 ≤ b) (b1 : b < 256) : ior .u64 n b = n + b := by
 obtain ⟨m, rfl⟩ := Int.eq_ofNat_of_zero_le h0
 obtain ⟨c, rfl⟩ := Int.eq_ofNat_of_zero_le b0
 unfold ior
 rw [show IntKind.u64.bits = 64 from rfl, ubv, ubv, BitVec.toNat_or, BitVec.toNat_ofNat, BitVec.toNat_ofNat, wu64]
 rw [Nat.mod_eq_of_lt (show m < 2 ^ 64 by omega), Nat.mod_eq_of_lt (show c < 2 ^ 64 by omega)]
 obtain ⟨k, hk⟩ : ∃ k, m = 2 ^ 8 * k := ⟨m / 256, by omega⟩
 subst hk
 rw [← Nat.two_pow_add_eq_or_of_lt (show c < 2 ^ 8 by omega)]
 omega
theorem shv {v b : Int} (h0 : 0 ≤ v) (h1 : v < 4294967296) (b0 : 0 ≤ b) (b1 : b < 256) : ior .u64 (iand .u64 (ishl .u64 v 8) 4294967295) (IntKind.u64.wrap b) = v % 16777216 * 256 + b := by
 have e : IntKind.u64.wrap b = b := by rw [wu64]; omega
 rw [ushl8 h0 h1, uand32 (by omega) (by omega), e, uorb (by omega) (by omega) (by omega) b0 b1]
 omega
theorem byt_rd {C : List Int} {i : Nat} (h : i < C.length) : rd C (i : Int) = byt C i := by
 unfold rd byt
 rw [Int.toNat_natCast, List.getD_eq_getElem?_getD]
theorem byt_out {C : List Int} {i : Nat} (h : C.length ≤ i) : byt C i = 0 := by
 unfold byt
 rw [List.getElem?_eq_none h]
 rfl
def beyd (C : List Int) (n : Nat) : Int := ((n - C.length : Nat) : Int)
theorem shift1_is {kind lo hi v : Int} {st C : List Int} (hC : Bytes C) {n : Nat} (hn : n < 1000000000) (h0 : 0 ≤ v) (h1 : v < 4294967296) :
  coder_Decoder_shift kind lo hi (n : Int) v (beyd C n) st C = some (kind, lo, hi, ((n + 1 : Nat) : Int), v % 16777216 * 256 + byt C n, beyd C (n + 1), st, C) := by
 have hb := byt_range hC n
 rw [coder_Decoder_shift_eq]
 unfold beyd
 by_cases h : (n : Int) < ((C.length : Nat) : Int)
 ·simp only [h, decide_true, if_true]
  rw [if_pos ⟨by omega, trivial⟩, byt_rd (by omega)]
  simp only [Option.bind_some]
  rw [w64 (n := (n : Int) + 1) (by omega), shv h0 h1 hb.1 hb.2, show n + 1 - C.length = n - C.length by omega]
  rfl
 ·simp only [h, decide_false, Bool.false_eq_true, if_false, Option.bind_some]
  rw [w64 (n := (n : Int) + 1) (by omega), w64 (n := ((n - C.length : Nat) : Int) + 1) (by omega), shv h0 h1 (by decide) (by decide), byt_out (by omega), show n + 1 - C.length = n - C.length + 1 by omega]
  rfl
theorem shift2_is {kind lo hi : Int} {st C : List Int} {en : Bool} (hC : Bytes C) {n : Nat} (hn : n < 1000000000) :
  coder_Decoder_shift_2 kind lo hi C ((n + 4 : Nat) : Int) (win C n) (beyd C (n + 4)) en st = some (kind, lo, hi, C, ((n + 1 + 4 : Nat) : Int), win C (n + 1), beyd C (n + 1 + 4), en, st) := by
 have hb := byt_range hC (n + 4)
 have hw := win_range hC n
 rw [coder_Decoder_shift_2_eq, (win_next hC n).1]
 unfold beyd
 by_cases h : ((n + 4 : Nat) : Int) < ((C.length : Nat) : Int)
 ·simp only [h, decide_true, if_true]
  rw [if_pos ⟨by omega, trivial⟩, byt_rd (by omega)]
  simp only [Option.bind_some]
  rw [w64 (n := ((n + 4 : Nat) : Int) + 1) (by omega), shv hw.1 hw.2 hb.1 hb.2, show n + 1 + 4 - C.length = n + 4 - C.length by omega, show ((n + 1 + 4 : Nat) : Int) = ((n + 4 : Nat) : Int) + 1 by omega]
 ·simp only [h, decide_false, Bool.false_eq_true, if_false, Option.bind_some]
  rw [w64 (n := ((n + 4 : Nat) : Int) + 1) (by omega), w64 (n := ((n + 4 - C.length : Nat) : Int) + 1) (by omega), shv hw.1 hw.2 (by decide) (by decide), byt_out (by omega), show n + 1 + 4 - C.length = n + 4 - C.length + 1 by omega, show ((n + 1 + 4 : Nat) : Int) = ((n + 4 : Nat) : Int) + 1 by omega]
  rfl
theorem lose2_is {kind lo hi at_ v bey : Int} {st C : List Int} {en : Bool} (h : Iv lo hi) : ∃ b, coder_interval_lose_2 kind lo hi C at_ v bey en st = some (b, kind, lo % 16777216 * 256, hi % 16777216 * 256 + 255, C, at_, v, bey, en, st) := by
 obtain ⟨h0, h1, h2⟩ := h
 rw [coder_interval_lose_2_eq]
 try simp only
 rw [ushr24, ushl8 h0 (by omega), ushl8 (by omega) h2, uand32 (by omega) (by omega), uand32 (by omega) (by omega), uor255 (by omega) (by omega) (by omega), w8]
 refine ⟨lo / 16777216 % 256, ?_⟩
 congr 4
 ·omega
 ·congr 1
  omega
theorem get_loop {kind : Int} {st C : List Int} (hC : Bytes C) : ∀ (n : Nat) (lo hi : Int) (out : List Int), Iv lo hi → gapOf n ≤ hi - lo → out.length + n ≤ 900000000 →
  loop coder_Decoder_Get_loop12 (kind, lo, hi, C, ((out.length + 4 : Nat) : Int), win C out.length, beyd C (out.length + 4), false, st) =
   some (kind, (flush n lo hi out).1, (flush n lo hi out).2.1, C, (((flush n lo hi out).2.2.length + 4 : Nat) : Int), win C (flush n lo hi out).2.2.length, beyd C ((flush n lo hi out).2.2.length + 4), false, st)
 | 0, lo, hi, out, h, hg, hl => by
  refine loop_done ?_
  unfold coder_Decoder_Get_loop12
  simp only [coder_interval_same_2_eq, ushr24, Option.bind_some]
  simp only [gapOf] at hg
  have hne : ¬ lo / 16777216 = hi / 16777216 := by obtain ⟨h0, h1, h2⟩ := h; omega
  simp only [hne, decide_false, Bool.false_eq_true, if_false, flush]
 | n + 1, lo, hi, out, h, hg, hl => by
  by_cases e : lo / 16777216 = hi / 16777216
  ·obtain ⟨h1, h2⟩ := h.shift e
   have hs : (out ++ [hi / 16777216]).length = out.length + 1 := by simp
   have ih := get_loop (kind := kind) (st := st) hC n _ _ (out ++ [hi / 16777216]) h1 (by rw [h2]; exact gap_step hg (by have := h.2.1; omega)) (by rw [hs]; omega)
   rw [hs] at ih
   rw [loop_step (s' := (kind, lo % 16777216 * 256, hi % 16777216 * 256 + 255, C, ((out.length + 1 + 4 : Nat) : Int), win C (out.length + 1), beyd C (out.length + 1 + 4), false, st)), ih]
   ·simp only [flush, e, if_true]
   ·obtain ⟨b, hb⟩ := lose2_is (kind := kind) (at_ := ((out.length + 4 : Nat) : Int)) (v := win C out.length) (bey := beyd C (out.length + 4)) (st := st) (C := C) (en := false) h
    unfold coder_Decoder_Get_loop12
    simp only [coder_interval_same_2_eq, ushr24, Option.bind_some, hb, shift2_is hC (show out.length < 1000000000 by omega)]
    simp only [e, decide_true, if_true]
  ·refine loop_done ?_
   unfold coder_Decoder_Get_loop12
   simp only [coder_interval_same_2_eq, ushr24, Option.bind_some]
   simp only [e, decide_false, Bool.false_eq_true, if_false, flush]
/-- a bit that was put comes back -/
theorem get_is {C : List Int} (hC : Bytes C) {e : EncS} (h : EncO e) {v : Int × Int} (hv : EvOk e.2.2.2.1.length v) (hl : e.2.2.2.2.length ≤ 800000000) (hL : LiesE C (encStep e v)) :
  coder_Decoder_Get v.1 e.1 e.2.1 e.2.2.1 C ((e.2.2.2.2.length + 4 : Nat) : Int) (win C e.2.2.2.2.length) (beyd C (e.2.2.2.2.length + 4)) false e.2.2.2.1 =
   some (v.2, 0, (encStep e v).1, (encStep e v).2.1, (encStep e v).2.2.1, C, (((encStep e v).2.2.2.2.length + 4 : Nat) : Int), win C (encStep e v).2.2.2.2.length, beyd C ((encStep e v).2.2.2.2.length + 4), false, (encStep e v).2.2.2.1) := by
 have hbit := (lies_step hC h hv hL).2
 obtain ⟨⟨tl, hpre⟩, _⟩ := hL
 obtain ⟨kind, lo, hi, st, out⟩ := e
 obtain ⟨c, b⟩ := v
 obtain ⟨hc, hb⟩ := hv
 obtain ⟨hs, m1, m2⟩ := cutV_is h hc
 obtain ⟨q1, q2, q3⟩ := chV_is hs
 have hiv := subV_iv h hc (b := b)
 have hlt := h.lt
 obtain ⟨i0, i1, i2⟩ := h.iv
 simp only at hc hb hs m1 m2 q1 q2 q3 hlt i0 i1 i2 hl hbit ⊢
 have hn := (nxV_is hs hb).1
 have hloop := get_loop (kind := kind) (st := st.set c.toNat (nxV kind (rd st c) b)) hC 4 _ _ out hiv (gap4 hiv) (by omega)
 have hbey : ¬ beyd C ((encStep (kind, lo, hi, st, out) (c, b)).2.2.2.2.length + 4) > 4 := by
  have : (encStep (kind, lo, hi, st, out) (c, b)).2.2.2.2.length ≤ C.length := by rw [hpre, List.length_append]; omega
  unfold beyd
  omega
 rw [coder_Decoder_Get_eq, coder_Decoder_none_eq]
 have c1 : ¬ c < 0 := by omega
 have c2 : ¬ c ≥ ((st.length : Nat) : Int) := by omega
 have em : coder_interval_mid_2 c kind lo hi C ((out.length + 4 : Nat) : Int) (win C out.length) (beyd C (out.length + 4)) false st = some (cutV (kind, lo, hi, st, out) c, kind, lo, hi, C, ((out.length + 4 : Nat) : Int), win C out.length, beyd C (out.length + 4), false, st) := by
  rw [coder_interval_mid_2_eq, if_pos hc]
  simp only [q1, Option.bind_some]
  rw [midRaw h.iv q2 q3]
  rfl
 have et : coder_interval_take_2 c b (cutV (kind, lo, hi, st, out) c) kind lo hi C ((out.length + 4 : Nat) : Int) (win C out.length) (beyd C (out.length + 4)) false st = some (kind, (subV (kind, lo, hi, st, out) c b).1, (subV (kind, lo, hi, st, out) c b).2, C, ((out.length + 4 : Nat) : Int), win C out.length, beyd C (out.length + 4), false, st.set c.toNat (nxV kind (rd st c) b)) := by
  rw [coder_interval_take_2_eq]
  have hw : IntKind.u64.wrap (cutV (kind, lo, hi, st, out) c + 1) = cutV (kind, lo, hi, st, out) c + 1 := by rw [wu64]; omega
  unfold subV
  by_cases h1 : b = 1
  ·simp only [h1, decide_true, if_true, Option.bind_some, hc, and_self]
   rw [h1] at hn
   rw [hn]
   rfl
  ·simp only [h1, decide_false, Bool.false_eq_true, if_false, Option.bind_some, hc, and_self, if_true, hw, hn]
 have eb : (if decide (win C out.length ≤ cutV (kind, lo, hi, st, out) c) = true then some 1 else some 0 : Option Int) = some b := by
  simp only [decide_eq_true_eq]
  by_cases h1 : b = 1
  ·rw [if_pos (hbit.1 h1), h1]
  ·rw [if_neg fun q => h1 (hbit.2 q)]
   rcases hb with rfl | rfl
   ·rfl
   ·exact absurd rfl h1
 simp only [c1, c2, decide_false, Bool.false_eq_true, if_false, Option.bind_some, Sum.elim_inl, em, eb, et]
 rw [if_pos hc, hloop]
 simp only [Option.bind_some]
 have hbey' : ¬ beyd C ((flush 4 (subV (kind, lo, hi, st, out) c b).1 (subV (kind, lo, hi, st, out) c b).2 out).2.2.length + 4) > 4 := hbey
 simp only [hbey', decide_false, Bool.false_eq_true, if_false]
 rfl
/-! ### Many bits -/
noncomputable def encAll (e : EncS) (l : List (Int × Int)) : EncS := l.foldl encStep e
theorem encAll_app (e : EncS) (a b : List (Int × Int)) : encAll e (a ++ b) = encAll (encAll e a) b := by
 unfold encAll
 rw [List.foldl_append]
theorem encAll_ok {n : Nat} : ∀ (l : List (Int × Int)) (e : EncS), EncO e → e.2.2.2.1.length = n → (∀ v ∈ l, EvOk n v) → EncO (encAll e l) ∧ (encAll e l).2.2.2.1.length = n ∧ (encAll e l).2.2.2.2.length ≤ e.2.2.2.2.length + 4 * l.length
 | [], e, h, hn, _ => ⟨h, hn, by simp [encAll]⟩
 | v :: l, e, h, hn, hv => by
  subst hn
  obtain ⟨h1, h2, h3⟩ := encStep_ok h (hv v (List.mem_cons_self ..))
  obtain ⟨k1, k2, k3⟩ := encAll_ok l (encStep e v) h1 h2 fun u hu => hv u (List.mem_cons_of_mem _ hu)
  refine ⟨k1, k2, ?_⟩
  rw [List.length_cons]
  show (encAll (encStep e v) l).2.2.2.2.length ≤ _
  omega
theorem lies_back {C : List Int} (hC : Bytes C) {n : Nat} : ∀ (l : List (Int × Int)) (e : EncS), EncO e → e.2.2.2.1.length = n → (∀ v ∈ l, EvOk n v) → LiesE C (encAll e l) → LiesE C e
 | [], e, _, _, _, hL => hL
 | v :: l, e, h, hn, hv, hL => by
  subst hn
  obtain ⟨h1, h2, h3⟩ := encStep_ok h (hv v (List.mem_cons_self ..))
  have := lies_back hC l (encStep e v) h1 h2 (fun u hu => hv u (List.mem_cons_of_mem _ hu)) hL
  exact (lies_step hC h (hv v (List.mem_cons_self ..)) this).1
theorem step_bytes {e : EncS} (h : EncO e) {v : Int × Int} (hv : EvOk e.2.2.2.1.length v) (hb : Bytes e.2.2.2.2) : Bytes (encStep e v).2.2.2.2 := flush_bytes 4 _ _ _ (subV_iv h hv.1) hb
theorem all_bytes {n : Nat} : ∀ (l : List (Int × Int)) (e : EncS), EncO e → e.2.2.2.1.length = n → (∀ v ∈ l, EvOk n v) → Bytes e.2.2.2.2 → Bytes (encAll e l).2.2.2.2
 | [], e, _, _, _, hb => hb
 | v :: l, e, h, hn, hv, hb => by
  subst hn
  obtain ⟨h1, h2, h3⟩ := encStep_ok h (hv v (List.mem_cons_self ..))
  exact all_bytes l (encStep e v) h1 h2 (fun u hu => hv u (List.mem_cons_of_mem _ hu)) (step_bytes h (hv v (List.mem_cons_self ..)) hb)
/-! ### New models, encoders, decoders -/
theorem valid_loop {st : List Int} {e : Int} (hl : st.length ≤ 8192) (hs : ∀ s ∈ st, 0 ≤ s ∧ s < e) : ∀ d k, k + d = st.length → loop (coder_Valid_loop7 st e) (k : Int) = some (Sum.inl ())
 | 0, k, hk => by
  refine loop_done ?_
  unfold coder_Valid_loop7
  have : ¬ (k : Int) < ((st.length : Nat) : Int) := by omega
  simp only [this, decide_false, Bool.false_eq_true, if_false]
 | d + 1, k, hk => by
  rw [loop_step (s' := ((k + 1 : Nat) : Int))]
  ·exact valid_loop hl hs d (k + 1) (by omega)
  ·have h1 : (k : Int) < ((st.length : Nat) : Int) := by omega
   have h0 : (0 : Int) ≤ (k : Int) := by omega
   obtain ⟨a1, a2⟩ := hs _ (List.mem_of_getElem? (rd_get h0 h1))
   have n1 : ¬ rd st (k : Int) < 0 := by omega
   have n2 : ¬ rd st (k : Int) ≥ e := by omega
   have hw : IntKind.i64.wrap ((k : Int) + 1) = ((k + 1 : Nat) : Int) := by rw [w64 (by omega)]; rfl
   unfold coder_Valid_loop7
   simp only [h1, h0, n1, n2, hw, decide_true, decide_false, Bool.false_eq_true, if_true, if_false, and_self]
/-- an encoder at its begin -/
def enc0 (k : Int) (n : Nat) : EncS := (k, 0, 4294967295, List.replicate n 0, [])
theorem enc0_ok {k : Int} (hk : k = 0 ∨ k = 1) (n : Nat) : EncO (enc0 k n) :=
 ⟨hk, ⟨by show (0 : Int) ≤ 0; decide, by show (0 : Int) ≤ 4294967295; decide, by show (4294967295 : Int) < 4294967296; decide⟩, by show (0 : Int) / 16777216 ≠ 4294967295 / 16777216; decide, fun s hs => by
  rw [List.eq_of_mem_replicate hs]
  rcases hk with rfl | rfl
  ·exact .inl ⟨rfl, by decide, by decide⟩
  ·exact .inr ⟨rfl, by decide, by decide⟩⟩
theorem coderNew_is {k : Int} (hk : k = 0 ∨ k = 1) {n : Nat} (hn : n ≤ 8192) : coder_New k (n : Int) = some (k, 0, List.replicate n 0) := by
 rw [coder_New_eq]
 have n1 : ¬ (n : Int) < 0 := by omega
 have n2 : ¬ (n : Int) > 8192 := by omega
 rcases hk with rfl | rfl
 ·simp only [n1, n2, decide_true, decide_false, Bool.not_true, Bool.not_false, Bool.false_eq_true, if_true, if_false, Option.bind_some]
  rw [if_pos (by omega), Int.toNat_natCast]
 ·simp only [n1, n2, decide_true, decide_false, Bool.not_true, Bool.not_false, Bool.false_eq_true, if_true, if_false, Option.bind_some, show ¬ ((1 : Int) = 0) by decide]
  rw [if_pos (by omega), Int.toNat_natCast]
theorem modelValid {k : Int} (hk : k = 0 ∨ k = 1) {n : Nat} (hn : n ≤ 8192) : coder_Valid k (List.replicate n 0) = some true := by
 have n2 : ¬ (n : Int) > 8192 := by omega
 have hlp : ∀ e : Int, 0 < e → loop (coder_Valid_loop7 (List.replicate n 0) e) 0 = some (Sum.inl ()) := fun e he => valid_loop (st := List.replicate n 0) (by simpa using hn) (fun s hs => by rw [List.eq_of_mem_replicate hs]; exact ⟨by decide, he⟩) n 0 (by simp)
 rw [coder_Valid_eq]
 simp only [List.length_replicate]
 rcases hk with rfl | rfl
 ·simp only [n2, decide_true, decide_false, Bool.not_true, Bool.not_false, Bool.false_eq_true, if_true, if_false, Option.bind_some, show ¬ ((0 : Int) = 1) by decide]
  rw [hlp 64 (by decide)]
  rfl
 ·simp only [n2, decide_true, decide_false, Bool.not_true, Bool.not_false, Bool.false_eq_true, if_true, if_false, Option.bind_some, show ¬ ((1 : Int) = 0) by decide]
  rw [hlp 65536 (by decide)]
  rfl
theorem begin_is {k : Int} {n : Nat} (hn : n ≤ 8192) : coder_begin k (List.replicate n 0) = some (k, 0, 4294967295, List.replicate n 0) := by
 rw [coder_begin_eq, coder_clone_eq, if_pos (by simp; omega), coder_chances_eq]
 simp only [Option.bind_some, List.nil_append]
theorem newEncoder_is {k : Int} (hk : k = 0 ∨ k = 1) {n : Nat} (hn : n ≤ 8192) : coder_NewEncoder k (List.replicate n 0) = some (Sum.inl (enc0 k n)) := by
 rw [coder_NewEncoder_eq, modelValid hk hn]
 simp only [Option.bind_some, Bool.not_true, Bool.false_eq_true, if_false]
 rw [begin_is hn]
 rfl
theorem newDecoder_is {k : Int} (hk : k = 0 ∨ k = 1) {n : Nat} (hn : n ≤ 8192) {C : List Int} (hC : Bytes C) (hl : C.length ≤ 900000000) :
  coder_NewDecoder k (List.replicate n 0) C = some (Sum.inl (k, 0, 4294967295, C, 4, win C 0, beyd C 4, false, List.replicate n 0)) := by
 have b0 := byt_range hC 0
 have b1 := byt_range hC 1
 have b2 := byt_range hC 2
 have b3 := byt_range hC 3
 have s0 := shift1_is (kind := k) (lo := 0) (hi := 4294967295) (st := List.replicate n 0) hC (n := 0) (v := 0) (by omega) (by decide) (by decide)
 have s1 := shift1_is (kind := k) (lo := 0) (hi := 4294967295) (st := List.replicate n 0) hC (n := 1) (v := 0 % 16777216 * 256 + byt C 0) (by omega) (by omega) (by omega)
 have s2 := shift1_is (kind := k) (lo := 0) (hi := 4294967295) (st := List.replicate n 0) hC (n := 2) (v := (0 % 16777216 * 256 + byt C 0) % 16777216 * 256 + byt C 1) (by omega) (by omega) (by omega)
 have s3 := shift1_is (kind := k) (lo := 0) (hi := 4294967295) (st := List.replicate n 0) hC (n := 3) (v := ((0 % 16777216 * 256 + byt C 0) % 16777216 * 256 + byt C 1) % 16777216 * 256 + byt C 2) (by omega) (by omega) (by omega)
 have s0' : coder_Decoder_shift k 0 4294967295 0 0 0 (List.replicate n 0) C = some (k, 0, 4294967295, ((1 : Nat) : Int), 0 % 16777216 * 256 + byt C 0, beyd C 1, List.replicate n 0, C) := by
  have : beyd C 0 = 0 := by unfold beyd; omega
  rw [this] at s0
  exact s0
 rw [coder_NewDecoder_eq, modelValid hk hn]
 simp only [Option.bind_some, Bool.not_true, Bool.false_eq_true, if_false]
 rw [begin_is hn]
 simp only [Option.bind_some]
 rw [if_pos (by simp; omega), List.nil_append, s0']
 simp only [Option.bind_some]
 rw [s1]
 simp only [Option.bind_some]
 rw [s2]
 simp only [Option.bind_some]
 rw [s3]
 simp only [Option.bind_some]
 have ew : (((0 % 16777216 * 256 + byt C 0) % 16777216 * 256 + byt C 1) % 16777216 * 256 + byt C 2) % 16777216 * 256 + byt C 3 = win C 0 := by
  unfold win
  simp only [Nat.zero_add]
  omega
 rw [ew]
 rfl
theorem plane_at_is {w h : Int} {p : List Int} {ar : List Arr2} (hb : Bmp w h p) (x y : Int) : generic_plane_at x y w h p ar = some (pixA w h p x y, w, h, p, ar) := by
 have hb' := hb
 obtain ⟨h0, h1, h2, h3, h4, h5, h6⟩ := hb
 rw [generic_plane_at_eq]
 unfold pixA
 by_cases q : 0 ≤ x ∧ 0 ≤ y ∧ x < w ∧ y < h
 ·obtain ⟨a0, a1, a2⟩ := idx_in q.1 q.2.2.1 q.2.1 q.2.2.2
  obtain ⟨q0, q1, q2, q3⟩ := q
  have e : ((if decide (x < 0) = true then some true else if decide (y < 0) = true then some true else if decide (x ≥ w) = true then some true else some (decide (y ≥ h))) : Option Bool) = some false := by
   rw [if_neg (by simp; omega), if_neg (by simp; omega), if_neg (by simp; omega)]; simp; omega
  have hr : (if 0 ≤ x ∧ 0 ≤ y ∧ x < w ∧ y < h then rd p (y * w + x) else 0) = rd p (y * w + x) := if_pos ⟨q0, q1, q2, q3⟩
  rw [e, hr]
  simp only [Option.bind_some, Bool.false_eq_true, if_false]
  rw [w64 (n := y * w) (by omega), w64 (n := y * w + x) (by omega), if_pos (by omega)]
 ·have e : ((if decide (x < 0) = true then some true else if decide (y < 0) = true then some true else if decide (x ≥ w) = true then some true else some (decide (y ≥ h))) : Option Bool) = some true := by
   simp only [iteD]
   by_cases q0 : x < 0
   ·rw [if_pos q0]
   ·by_cases q1 : y < 0
    ·rw [if_neg q0, if_pos q1]
    ·by_cases q2 : x ≥ w
     ·rw [if_neg q0, if_neg q1, if_pos q2]
     ·rw [if_neg q0, if_neg q1, if_neg q2]; simp; omega
  rw [e, if_neg q]
  simp
theorem plane_at2_is {w h : Int} {p : List Int} {ar : List Arr2} (hb : Bmp w h p) (x y : Int) : generic_plane_at_2 x y w h ar p = some (pixA w h p x y, w, h, ar, p) := by
 have hb' := hb
 obtain ⟨h0, h1, h2, h3, h4, h5, h6⟩ := hb
 rw [generic_plane_at_2_eq]
 unfold pixA
 by_cases q : 0 ≤ x ∧ 0 ≤ y ∧ x < w ∧ y < h
 ·obtain ⟨a0, a1, a2⟩ := idx_in q.1 q.2.2.1 q.2.1 q.2.2.2
  obtain ⟨q0, q1, q2, q3⟩ := q
  have e : ((if decide (x < 0) = true then some true else if decide (y < 0) = true then some true else if decide (x ≥ w) = true then some true else some (decide (y ≥ h))) : Option Bool) = some false := by
   rw [if_neg (by simp; omega), if_neg (by simp; omega), if_neg (by simp; omega)]; simp; omega
  have hr : (if 0 ≤ x ∧ 0 ≤ y ∧ x < w ∧ y < h then rd p (y * w + x) else 0) = rd p (y * w + x) := if_pos ⟨q0, q1, q2, q3⟩
  rw [e, hr]
  simp only [Option.bind_some, Bool.false_eq_true, if_false]
  rw [w64 (n := y * w) (by omega), w64 (n := y * w + x) (by omega), if_pos (by omega)]
 ·have e : ((if decide (x < 0) = true then some true else if decide (y < 0) = true then some true else if decide (x ≥ w) = true then some true else some (decide (y ≥ h))) : Option Bool) = some true := by
   simp only [iteD]
   by_cases q0 : x < 0
   ·rw [if_pos q0]
   ·by_cases q1 : y < 0
    ·rw [if_neg q0, if_pos q1]
    ·by_cases q2 : x ≥ w
     ·rw [if_neg q0, if_neg q1, if_pos q2]
     ·rw [if_neg q0, if_neg q1, if_neg q2]; simp; omega
  rw [e, if_neg q]
  simp
def tmplL (t : Int) : List (Int × Int) :=
 if t = 0 then [(-1, -2), (0, -2), (1, -2), (-2, -1), (-1, -1), (0, -1), (1, -1), (2, -1), (-2, 0), (-1, 0)]
 else if t = 1 then [(-1, -2), (0, -2), (-1, -1), (0, -1), (1, -1), (-2, 0), (-1, 0)]
 else if t = 2 then [(-2, -1), (-1, -1), (0, -1), (1, -1), (2, -1), (-2, 0), (-1, 0)]
 else [(-1, -1), (0, -1), (1, -1), (-1, 0)]
def ar2 (d : Int × Int) : Arr2 := ⟨d.1, d.2⟩
theorem tmplL_small (t : Int) : (tmplL t).length ≤ 10 ∧ ∀ d ∈ tmplL t, -8 ≤ d.1 ∧ d.1 ≤ 8 ∧ -8 ≤ d.2 ∧ d.2 ≤ 8 := by
 unfold tmplL
 split
 ·decide
 ·split
  ·decide
  ·split <;> decide
theorem pixels_is (t : Int) : generic_pixels t = some ((tmplL t).map ar2) := by
 rw [generic_pixels_eq]
 unfold tmplL
 simp only [iteD]
 by_cases h0 : t = 0
 ·simp [h0, ar2]
 ·by_cases h1 : t = 1
  ·simp [h1, ar2]
  ·by_cases h2 : t = 2
   ·simp [h2, ar2]
   ·simp [h0, h1, h2, ar2]
/-- how many contexts there are, without the last one -/
def ctxN (t : Int) : Int := 2 ^ ((tmplL t).length + 1)
theorem ctxN_small (t : Int) : 0 < ctxN t ∧ ctxN t ≤ 2048 := by
 unfold ctxN tmplL
 split
 ·decide
 ·split
  ·decide
  ·split <;> decide
theorem contexts_is (t o2 o3 : Int) (o4 : Bool) (o5 : Int) : generic_contexts t o2 o3 o4 o5 = some (ctxN t) := by
 rw [generic_contexts_eq, pixels_is]
 simp only [Option.bind_some, List.length_map]
 rw [if_neg (by omega)]
 congr 1
 unfold ctxN tmplL
 split
 ·decide
 ·split
  ·decide
  ·split <;> decide
/-- all offsets of a context -/
def offs (t a b : Int) : List (Int × Int) := tmplL t ++ [(a, b)]
theorem offs_len (t a b : Int) : (offs t a b).length = (tmplL t).length + 1 := by simp [offs]
theorem newPlane_is {t a b w h : Int} {o4 : Bool} {o5 : Int} (hs : sidesB w h = true) : generic_newPlane t a b o4 o5 w h = some (w, h, (offs t a b).map ar2, List.replicate (w * h).toNat 0) := by
 obtain ⟨h0, h1, h2, h3, h4⟩ := sidesB_iff.1 hs
 obtain ⟨m0, m1⟩ := mul_small h0 h1 h2 h3
 have := (tmplL_small t).1
 rw [generic_newPlane_eq, w64 (n := w * h) (by omega), pixels_is]
 simp only [Option.bind_some, List.length_map, List.length_singleton]
 rw [if_pos (by omega), if_pos (by omega)]
 simp [offs, ar2]
/-- the context of a pixel -/
def ctxV (w h : Int) (p : List Int) (x y : Int) : List (Int × Int) → Int → Int
 | [], n => n
 | d :: l, n => ctxV w h p x y l (2 * n + pixA w h p (x + d.1) (y + d.2))
theorem ctxV_range {w h : Int} {p : List Int} (hb : Bmp w h p) {x y : Int} : ∀ (l : List (Int × Int)) (n : Int) (m : Nat), 0 ≤ n → n < 2 ^ m → 0 ≤ ctxV w h p x y l n ∧ ctxV w h p x y l n < 2 ^ (m + l.length)
 | [], n, m, h0, h1 => ⟨h0, h1⟩
 | d :: l, n, m, h0, h1 => by
  have hp := hb.pix (x := x + d.1) (y := y + d.2)
  have := ctxV_range hb (x := x) (y := y) l (2 * n + pixA w h p (x + d.1) (y + d.2)) (m + 1) (by omega) (by rw [Int.pow_succ]; omega)
  simp only [ctxV, List.length_cons]
  rwa [show m + (l.length + 1) = m + 1 + l.length by omega]
theorem pow_small {m : Nat} (h : m ≤ 40) : (2 : Int) ^ m ≤ 1099511627776 := by
 have := Nat.pow_le_pow_right (n := 2) (by decide) h
 have e : (2 : Nat) ^ m ≤ 1099511627776 := Nat.le_trans this (by decide)
 have e2 := Int.ofNat_le.2 e
 rw [Int.natCast_pow] at e2
 exact e2
theorem ctx_over {w h : Int} {p : List Int} (hb : Bmp w h p) {x y : Int} (hx : -1000 ≤ x ∧ x ≤ 1000) (hy : -1000 ≤ y ∧ y ≤ 1000) {ar : List Arr2} :
  ∀ (l : List (Int × Int)) (n : Int) (m k : Nat), (∀ d ∈ l, -8 ≤ d.1 ∧ d.1 ≤ 8 ∧ -8 ≤ d.2 ∧ d.2 ≤ 8) → 0 ≤ n → n < 2 ^ m → m + l.length ≤ 40 →
  overL (generic_plane_context_loop3_step x y) (fun s => some s) k (l.map ar2) (n, w, h, p, ar) = some (ctxV w h p x y l n, w, h, p, ar)
 | [], n, m, k, _, h0, h1, _ => by simp [overL_nil, ctxV]
 | d :: l, n, m, k, hd, h0, h1, hm => by
  have hp := hb.pix (x := x + d.1) (y := y + d.2)
  obtain ⟨d1, d2, d3, d4⟩ := hd d (List.mem_cons_self ..)
  simp only [List.length_cons] at hm
  have hs := pow_small (m := m) (by omega)
  rw [List.map_cons, overL_next (s' := (2 * n + pixA w h p (x + d.1) (y + d.2), w, h, p, ar))]
  ·rw [ctx_over hb hx hy l _ (m + 1) (k + 1) (fun e he => hd e (List.mem_cons_of_mem _ he)) (by omega) (by rw [Int.pow_succ]; omega) (by omega)]
   rfl
  ·unfold generic_plane_context_loop3_step
   simp only [ar2]
   rw [if_pos (by decide), if_pos (by decide), w64 (n := x + d.1) (by omega), w64 (n := y + d.2) (by omega), plane_at_is hb]
   simp only [Option.bind_some]
   rw [w64 (n := 2 * n) (by omega), w64 (n := pixA w h p (x + d.1) (y + d.2)) (by omega), w64 (by omega)]
theorem ctx2_over {w h : Int} {p : List Int} (hb : Bmp w h p) {x y : Int} (hx : -1000 ≤ x ∧ x ≤ 1000) (hy : -1000 ≤ y ∧ y ≤ 1000) {ar : List Arr2} :
  ∀ (l : List (Int × Int)) (n : Int) (m k : Nat), (∀ d ∈ l, -8 ≤ d.1 ∧ d.1 ≤ 8 ∧ -8 ≤ d.2 ∧ d.2 ≤ 8) → 0 ≤ n → n < 2 ^ m → m + l.length ≤ 40 →
  overL (generic_plane_context_2_loop3_step x y) (fun s => some s) k (l.map ar2) (n, w, h, ar, p) = some (ctxV w h p x y l n, w, h, ar, p)
 | [], n, m, k, _, h0, h1, _ => by simp [overL_nil, ctxV]
 | d :: l, n, m, k, hd, h0, h1, hm => by
  have hp := hb.pix (x := x + d.1) (y := y + d.2)
  obtain ⟨d1, d2, d3, d4⟩ := hd d (List.mem_cons_self ..)
  simp only [List.length_cons] at hm
  have hs := pow_small (m := m) (by omega)
  rw [List.map_cons, overL_next (s' := (2 * n + pixA w h p (x + d.1) (y + d.2), w, h, ar, p))]
  ·rw [ctx2_over hb hx hy l _ (m + 1) (k + 1) (fun e he => hd e (List.mem_cons_of_mem _ he)) (by omega) (by rw [Int.pow_succ]; omega) (by omega)]
   rfl
  ·unfold generic_plane_context_2_loop3_step
   simp only [ar2]
   rw [if_pos (by decide), if_pos (by decide), w64 (n := x + d.1) (by omega), w64 (n := y + d.2) (by omega), plane_at2_is hb]
   simp only [Option.bind_some]
   rw [w64 (n := 2 * n) (by omega), w64 (n := pixA w h p (x + d.1) (y + d.2)) (by omega), w64 (by omega)]
/-- options that are right -/
def OptOk (t a b k : Int) : Prop := 0 ≤ t ∧ t ≤ 3 ∧ -8 ≤ a ∧ a ≤ 8 ∧ -8 ≤ b ∧ b ≤ 0 ∧ (b < 0 ∨ a < 0) ∧ (k = 0 ∨ k = 1)
theorem offs_small {t a b k : Int} (h : OptOk t a b k) : (offs t a b).length ≤ 11 ∧ ∀ d ∈ offs t a b, -8 ≤ d.1 ∧ d.1 ≤ 8 ∧ -8 ≤ d.2 ∧ d.2 ≤ 8 := by
 obtain ⟨h1, h2⟩ := tmplL_small t
 obtain ⟨_, _, a1, a2, b1, b2, _, _⟩ := h
 refine ⟨by rw [offs_len]; omega, fun d hd => ?_⟩
 rcases List.mem_append.1 hd with hd | hd
 ·exact h2 d hd
 ·rw [List.mem_singleton] at hd
  subst hd
  exact ⟨a1, a2, b1, by show b ≤ 8; omega⟩
def ctx (t a b w h : Int) (p : List Int) (x y : Int) : Int := ctxV w h p x y (offs t a b) 0
theorem ctx_range {t a b w h : Int} {p : List Int} (hb : Bmp w h p) (x y : Int) : 0 ≤ ctx t a b w h p x y ∧ ctx t a b w h p x y < ctxN t := by
 have := ctxV_range hb (x := x) (y := y) (offs t a b) 0 0 (by decide) (by decide)
 rw [offs_len, Nat.zero_add] at this
 exact this
theorem context_is {t a b k w h : Int} {p : List Int} (ho : OptOk t a b k) (hb : Bmp w h p) {x y : Int} (hx : -1000 ≤ x ∧ x ≤ 1000) (hy : -1000 ≤ y ∧ y ≤ 1000) :
  generic_plane_context x y w h p ((offs t a b).map ar2) = some (ctx t a b w h p x y, w, h, p, (offs t a b).map ar2) := by
 obtain ⟨h1, h2⟩ := offs_small ho
 rw [generic_plane_context_eq]
 have := generic_plane_context_loop3_over x y ((offs t a b).map ar2) (by simp; omega) (0, w, h, p, (offs t a b).map ar2)
 simp only at this
 rw [this, ctx_over hb hx hy (offs t a b) 0 0 0 h2 (by decide) (by decide) (by omega)]
 rfl
theorem context2_is {t a b k w h : Int} {p : List Int} (ho : OptOk t a b k) (hb : Bmp w h p) {x y : Int} (hx : -1000 ≤ x ∧ x ≤ 1000) (hy : -1000 ≤ y ∧ y ≤ 1000) :
  generic_plane_context_2 x y w h ((offs t a b).map ar2) p = some (ctx t a b w h p x y, w, h, (offs t a b).map ar2, p) := by
 obtain ⟨h1, h2⟩ := offs_small ho
 rw [generic_plane_context_2_eq]
 have := generic_plane_context_2_loop3_over x y ((offs t a b).map ar2) (by simp; omega) (0, w, h, (offs t a b).map ar2, p)
 simp only at this
 rw [this, ctx2_over hb hx hy (offs t a b) 0 0 0 h2 (by decide) (by decide) (by omega)]
 rfl
instance (t a b k : Int) : Decidable (OptOk t a b k) := by unfold OptOk; infer_instance
theorem genValid_is (t a b : Int) (o4 : Bool) (k : Int) : generic_Valid t a b o4 k = some (decide (OptOk t a b k)) := by
 rw [generic_Valid_eq, if_pos (by decide), if_pos (by decide)]
 simp only [iteD]
 repeat' split
 all_goals
  refine some_dec ?_
  unfold OptOk
  simp only [decide_eq_true_eq, Bool.false_eq_true, true_iff, false_iff]
  omega
theorem refValid_is (t a b : Int) (o4 : Bool) (k : Int) : ref07_Valid t a b o4 k = some (decide (OptOk t a b k)) := by
 rw [ref07_Valid_eq]
 have e1 : ((if decide (t < 0) = true then some true else if decide (t > 3) = true then some true else if decide (k < 0) = true then some true else some (decide (k > 1))) : Option Bool) = some (decide (¬ (0 ≤ t ∧ t ≤ 3 ∧ (k = 0 ∨ k = 1)))) := by
  simp only [iteD]
  repeat' split
  all_goals
   refine some_dec ?_
   simp only [decide_eq_true_eq, Bool.false_eq_true, true_iff, false_iff]
   omega
 rw [e1]
 simp only [Option.bind_some]
 have z : ((0 : Int) ≤ 0 ∧ (0 : Int) < ((2 : Nat) : Int)) = True := by simp
 have z1 : ((0 : Int) ≤ 1 ∧ (1 : Int) < ((2 : Nat) : Int)) = True := by simp
 simp only [z, z1, if_true, iteD]
 by_cases h1 : ¬ (0 ≤ t ∧ t ≤ 3 ∧ (k = 0 ∨ k = 1))
 ·rw [if_pos h1]
  refine some_dec ?_
  unfold OptOk
  simp only [Bool.false_eq_true, false_iff]
  omega
 ·rw [if_neg h1]
  have e2 : ((if a < -8 then some true else if a > 8 then some true else if b < -8 then some true else some (decide (b > 0))) : Option Bool) = some (decide (¬ (-8 ≤ a ∧ a ≤ 8 ∧ -8 ≤ b ∧ b ≤ 0))) := by
   repeat' split
   all_goals
    refine some_dec ?_
    simp only [decide_eq_true_eq, Bool.false_eq_true, true_iff, false_iff]
    omega
  rw [e2]
  simp only [Option.bind_some, iteD]
  repeat' split
  all_goals
   refine some_dec ?_
   unfold OptOk
   simp only [decide_eq_true_eq, Bool.false_eq_true, true_iff, false_iff]
   omega
theorem skips0 (i : Int) : generic_skips 0 0 [] i = some false := by rw [generic_skips_eq]; rfl
/-! ### A row as it is foretold -/
def rowUp (w h : Int) (p : List Int) (y : Int) : List Int := (List.range w.toNat).map fun (x : Nat) => pixA w h p (x : Int) (y - 1)
theorem above_is {w h : Int} {p : List Int} {ar : List Arr2} (hb : Bmp w h p) {y : Int} (hy : 0 ≤ y ∧ y < h) : generic_plane_above y 0 0 [] w h p ar = some (rowUp w h p y, w, h, p, ar) := by
 have hw := hb.1
 have hw2 := hb.2.2.1
 have hh2 := hb.2.2.2.1
 rw [generic_plane_above_eq, if_pos (by omega)]
 try simp only
 have h1 := generic_plane_above_loop3_over y 0 0 [] (List.replicate w.toNat 0) (by rw [List.length_replicate]; omega) (w, h, p, ar, List.replicate w.toNat 0)
 simp only at h1
 rw [h1]
 have := overL_inv (f := generic_plane_above_loop3_step y 0 0 []) (fin := fun s => some s) (fun n => (w, h, p, ar, (List.range n).map (fun (x : Nat) => pixA w h p (x : Int) (y - 1)) ++ List.replicate (w.toNat - n) 0)) (List.replicate w.toNat 0) 0 (fun k x hk => ?_)
 ·rw [List.length_replicate, Nat.zero_add] at this
  simp only [List.range_zero, List.map_nil, List.nil_append, Nat.sub_zero, Nat.sub_self, List.replicate_zero, List.append_nil] at this
  simp only [this]
  rfl
 ·have hk' := lt_len_of_get hk
  rw [List.length_replicate] at hk'
  have hrep : List.replicate (w.toNat - k) (0 : Int) = 0 :: List.replicate (w.toNat - (k + 1)) 0 := by rw [show w.toNat - k = (w.toNat - (k + 1)) + 1 by omega, List.replicate_succ]
  unfold generic_plane_above_loop3_step
  simp only [Nat.zero_add, skips0, Option.bind_some, Bool.not_false, if_true]
  rw [w64 (n := y - 1) (by omega), plane_at_is hb]
  simp only [Option.bind_some, List.length_append, List.length_map, List.length_range, List.length_replicate]
  rw [if_pos (by omega), hrep, List.set_append_right _ _ (by simp), List.range_succ, List.map_append]
  simp
theorem above2_is {w h : Int} {p : List Int} {ar : List Arr2} (hb : Bmp w h p) {y : Int} (hy : 0 ≤ y ∧ y < h) : generic_plane_above_2 y 0 0 [] w h ar p = some (rowUp w h p y, w, h, ar, p) := by
 have hw := hb.1
 have hw2 := hb.2.2.1
 have hh2 := hb.2.2.2.1
 rw [generic_plane_above_2_eq, if_pos (by omega)]
 try simp only
 have h1 := generic_plane_above_2_loop3_over y 0 0 [] (List.replicate w.toNat 0) (by rw [List.length_replicate]; omega) (w, h, ar, p, List.replicate w.toNat 0)
 simp only at h1
 rw [h1]
 have := overL_inv (f := generic_plane_above_2_loop3_step y 0 0 []) (fin := fun s => some s) (fun n => (w, h, ar, p, (List.range n).map (fun (x : Nat) => pixA w h p (x : Int) (y - 1)) ++ List.replicate (w.toNat - n) 0)) (List.replicate w.toNat 0) 0 (fun k x hk => ?_)
 ·rw [List.length_replicate, Nat.zero_add] at this
  simp only [List.range_zero, List.map_nil, List.nil_append, Nat.sub_zero, Nat.sub_self, List.replicate_zero, List.append_nil] at this
  simp only [this]
  rfl
 ·have hk' := lt_len_of_get hk
  rw [List.length_replicate] at hk'
  have hrep : List.replicate (w.toNat - k) (0 : Int) = 0 :: List.replicate (w.toNat - (k + 1)) 0 := by rw [show w.toNat - k = (w.toNat - (k + 1)) + 1 by omega, List.replicate_succ]
  unfold generic_plane_above_2_loop3_step
  simp only [Nat.zero_add, skips0, Option.bind_some, Bool.not_false, if_true]
  rw [w64 (n := y - 1) (by omega), plane_at2_is hb]
  simp only [Option.bind_some, List.length_append, List.length_map, List.length_range, List.length_replicate]
  rw [if_pos (by omega), hrep, List.set_append_right _ _ (by simp), List.range_succ, List.map_append]
  simp
/-! ### The events of a region -/
def pixEv (t a b w h : Int) (p : List Int) (y : Int) (n : Nat) : List (Int × Int) := (List.range n).map fun (x : Nat) => (ctx t a b w h p (x : Int) y, pixA w h p (x : Int) y)
def rowBit (w h : Int) (p : List Int) (y : Int) : Int := if rowUp w h p y = cutL p (y * w).toNat ((y + 1) * w).toNat then 1 else 0
def rowEv (o4 : Bool) (t a b w h : Int) (p : List Int) (y : Int) : List (Int × Int) :=
 if o4 = true then (if rowBit w h p y = 1 then [(ctxN t, 1)] else (ctxN t, 0) :: pixEv t a b w h p y w.toNat) else pixEv t a b w h p y w.toNat
def allEv (o4 : Bool) (t a b w h : Int) (p : List Int) (n : Nat) : List (Int × Int) := (List.range n).flatMap fun (y : Nat) => rowEv o4 t a b w h p (y : Int)
theorem pixEv_succ {t a b w h : Int} {p : List Int} {y : Int} {n : Nat} : pixEv t a b w h p y (n + 1) = pixEv t a b w h p y n ++ [(ctx t a b w h p (n : Int) y, pixA w h p (n : Int) y)] := by
 unfold pixEv
 rw [List.range_succ, List.map_append]
 rfl
theorem allEv_succ {o4 : Bool} {t a b w h : Int} {p : List Int} {n : Nat} : allEv o4 t a b w h p (n + 1) = allEv o4 t a b w h p n ++ rowEv o4 t a b w h p (n : Int) := by
 unfold allEv
 rw [List.range_succ, List.flatMap_append]
 simp
/-- how many contexts there are in all -/
def ctxA (t : Int) : Nat := (ctxN t).toNat + 1
theorem ctxA_is (t : Int) : ((ctxA t : Nat) : Int) = ctxN t + 1 ∧ ctxA t ≤ 2049 := by
 have := ctxN_small t
 unfold ctxA
 omega
theorem pixEv_ok {t a b w h : Int} {p : List Int} (hb : Bmp w h p) {y : Int} {n : Nat} : ∀ v ∈ pixEv t a b w h p y n, EvOk (ctxA t) v := by
 intro v hv
 obtain ⟨x, _, rfl⟩ := List.mem_map.1 hv
 have h1 := ctx_range (t := t) (a := a) (b := b) hb (x : Int) y
 have h2 := (ctxA_is t).1
 exact ⟨⟨h1.1, by show ctx t a b w h p (x : Int) y < _; omega⟩, hb.pix⟩
theorem rowEv_ok {o4 : Bool} {t a b w h : Int} {p : List Int} (hb : Bmp w h p) {y : Int} : ∀ v ∈ rowEv o4 t a b w h p y, EvOk (ctxA t) v := by
 have h1 := ctxN_small t
 have h2 := (ctxA_is t).1
 intro v hv
 unfold rowEv at hv
 split at hv
 ·split at hv
  ·rw [List.mem_singleton.1 hv]
   exact ⟨⟨by show 0 ≤ ctxN t; omega, by show ctxN t < _; omega⟩, .inr rfl⟩
  ·rcases List.mem_cons.1 hv with rfl | hv
   ·exact ⟨⟨by show 0 ≤ ctxN t; omega, by show ctxN t < _; omega⟩, .inl rfl⟩
   ·exact pixEv_ok hb v hv
 ·exact pixEv_ok hb v hv
theorem allEv_ok {o4 : Bool} {t a b w h : Int} {p : List Int} (hb : Bmp w h p) {n : Nat} : ∀ v ∈ allEv o4 t a b w h p n, EvOk (ctxA t) v := by
 intro v hv
 obtain ⟨y, _, hy⟩ := List.mem_flatMap.1 hv
 exact rowEv_ok hb v hy
theorem rowEv_len {o4 : Bool} {t a b w h : Int} {p : List Int} {y : Int} : (rowEv o4 t a b w h p y).length ≤ 1 + w.toNat := by
 unfold rowEv pixEv
 split
 ·split
  ·simp
  ·simp; omega
 ·simp
theorem allEv_len {o4 : Bool} {t a b w h : Int} {p : List Int} : ∀ n : Nat, (allEv o4 t a b w h p n).length ≤ n * (1 + w.toNat)
 | 0 => by simp [allEv]
 | n + 1 => by
  rw [allEv_succ, List.length_append, Nat.add_mul, Nat.one_mul]
  have h1 := allEv_len (o4 := o4) (t := t) (a := a) (b := b) (w := w) (h := h) (p := p) n
  have h2 := rowEv_len (o4 := o4) (t := t) (a := a) (b := b) (w := w) (h := h) (p := p) (y := (n : Int))
  omega
/-! ### They are put -/
def withP (e : EncS) (w h : Int) (p : List Int) (ar : List Arr2) : Int × Int × Int × List Int × List Int × Int × Int × List Int × List Arr2 := (e.1, e.2.1, e.2.2.1, e.2.2.2.1, e.2.2.2.2, w, h, p, ar)
def EncN (N : Nat) (e : EncS) : Prop := EncO e ∧ e.2.2.2.1.length = N
theorem EncN.all {N : Nat} {e : EncS} (h : EncN N e) {l : List (Int × Int)} (hl : ∀ v ∈ l, EvOk N v) : EncN N (encAll e l) ∧ (encAll e l).2.2.2.2.length ≤ e.2.2.2.2.length + 4 * l.length := by
 obtain ⟨h1, h2, h3⟩ := encAll_ok l e h.1 h.2 hl
 exact ⟨⟨h1, h2⟩, h3⟩
theorem rd_pix {w h : Int} {p : List Int} (hb : Bmp w h p) {x y : Int} (hx : 0 ≤ x) (hxw : x < w) (hy : 0 ≤ y) (hyh : y < h) : rd p (y * w + x) = pixA w h p x y := by
 unfold pixA; rw [if_pos ⟨hx, hy, hxw, hyh⟩]
theorem put_row {t a b k w h : Int} {p : List Int} (ho : OptOk t a b k) (hb : Bmp w h p) {y : Int} (hy : 0 ≤ y ∧ y < h) {e : EncS} (he : EncN (ctxA t) e) (hel : e.2.2.2.2.length ≤ 100000000) :
  loop (generic_put_loop13 0 w p 0 0 [] y) (0, withP e w h p ((offs t a b).map ar2)) = some (withP (encAll e (pixEv t a b w h p y w.toNat)) w h p ((offs t a b).map ar2)) := by
 have hw := hb.1
 have hw2 := hb.2.2.1
 have hh2 := hb.2.2.2.1
 have hwh := hb.2.2.2.2.1
 have hlen := hb.2.2.2.2.2.1
 have hctx := ctxN_small t
 have l1 := generic_put_loop13_over 0 w p 0 0 [] y (by rw [List.length_range]; omega) (withP e w h p ((offs t a b).map ar2))
 simp only [withP] at l1 ⊢
 rw [l1]
 have := overL_inv (f := generic_put_loop13_step 0 w p 0 0 [] y) (fin := fun s => some s) (fun n => withP (encAll e (pixEv t a b w h p y n)) w h p ((offs t a b).map ar2)) (List.range w.toNat) 0 (fun n x hn => ?_)
 ·rw [List.length_range, Nat.zero_add] at this
  exact this
 ·have hk := lt_len_of_get hn
  rw [List.length_range] at hk
  obtain ⟨a0, a1, a2⟩ := idx_in (show (0 : Int) ≤ (n : Int) by omega) (show (n : Int) < w by omega) hy.1 hy.2
  have hcx := ctx_range (t := t) (a := a) (b := b) hb (n : Int) y
  have hp := hb.pix (x := (n : Int)) (y := y)
  obtain ⟨q1, q2⟩ := he.all (pixEv_ok (a := a) (b := b) hb (y := y) (n := n))
  have q3 : (pixEv t a b w h p y n).length = n := by simp [pixEv]
  unfold generic_put_loop13_step
  simp only [withP, Nat.zero_add, skips0, Option.bind_some, Bool.not_false, if_true]
  rw [w64 (n := y * w) (by omega), w64 (n := y * w + (n : Int)) (by omega), context_is ho hb (by omega) (by omega)]
  simp only [Option.bind_some]
  rw [Int.zero_add, w64 (n := ctx t a b w h p (n : Int) y) (by omega), if_pos (by omega), rd_pix hb (by omega) (by omega) hy.1 hy.2, w64 (n := pixA w h p (n : Int) y) (by omega)]
  have hA := (ctxA_is t).1
  rw [put_is (v := (ctx t a b w h p (n : Int) y, pixA w h p (n : Int) y)) q1.1 ⟨by rw [q1.2]; exact ⟨hcx.1, by show ctx t a b w h p (n : Int) y < _; omega⟩, hp⟩ (by omega), pixEv_succ, encAll_app]
  rfl
theorem put_rows {t a b k w h : Int} {p : List Int} {o4 : Bool} (ho : OptOk t a b k) (hb : Bmp w h p) {e : EncS} (he : EncN (ctxA t) e) (hel : e.2.2.2.2.length ≤ 1000) :
  loop (generic_put_loop4 0 t a b o4 k w h p 0 0 []) (0, withP e w h p ((offs t a b).map ar2)) = some (withP (encAll e (allEv o4 t a b w h p h.toNat)) w h p ((offs t a b).map ar2)) := by
 have hw := hb.1
 have hh := hb.2.1
 have hw2 := hb.2.2.1
 have hh2 := hb.2.2.2.1
 have hwh := hb.2.2.2.2.1
 have hlen := hb.2.2.2.2.2.1
 have hctx := ctxN_small t
 have hA := (ctxA_is t).1
 have l1 := generic_put_loop4_over 0 t a b o4 k w h p 0 0 [] (by rw [List.length_range]; omega) (withP e w h p ((offs t a b).map ar2))
 simp only [withP] at l1 ⊢
 rw [l1]
 have := overL_inv (f := generic_put_loop4_step 0 t a b o4 k w p 0 0 []) (fin := fun s => some s) (fun n => withP (encAll e (allEv o4 t a b w h p n)) w h p ((offs t a b).map ar2)) (List.range h.toNat) 0 (fun n x hn => ?_)
 ·rw [List.length_range, Nat.zero_add] at this
  exact this
 ·have hk := lt_len_of_get hn
  rw [List.length_range] at hk
  rw [Nat.zero_add]
  have hy : (0 : Int) ≤ (n : Int) ∧ (n : Int) < h := by omega
  have b1 : 0 ≤ (n : Int) * w := Int.mul_nonneg hy.1 hw
  have b2 : ((n : Int) + 1) * w ≤ h * w := Int.mul_le_mul_of_nonneg_right (by omega) hw
  have b3 : ((n : Int) + 1) * w = (n : Int) * w + w := by rw [Int.add_mul, Int.one_mul]
  rw [Int.mul_comm h w] at b2
  obtain ⟨q1, q2⟩ := he.all (allEv_ok (o4 := o4) (a := a) (b := b) hb (n := n))
  have q3 := allEv_len (o4 := o4) (t := t) (a := a) (b := b) (w := w) (h := h) (p := p) n
  have q4 : n * (1 + w.toNat) ≤ 200 * 201 := Nat.mul_le_mul (by omega) (by omega)
  rw [allEv_succ, encAll_app]
  generalize encAll e (allEv o4 t a b w h p n) = s at q1 q2 ⊢
  unfold generic_put_loop4_step
  simp only [withP]
  cases o4 with
  | false =>
   have row := put_row ho hb hy q1 (by omega)
   simp only [withP] at row
   simp only [Bool.false_eq_true, if_false, Option.bind_some, Sum.elim_inl]
   rw [row]
   rfl
  | true =>
   simp only [if_true]
   rw [above_is hb hy]
   simp only [Option.bind_some]
   rw [w64 (n := (n : Int) * w) (by omega), w64 (n := (n : Int) + 1) (by omega), w64 (n := ((n : Int) + 1) * w) (by omega)]
   rw [if_pos (by omega), if_pos (by omega), bytes_Equal_eq, contexts_is]
   simp only [Option.bind_some, decide_eq_true_eq]
   have ebit : ((if rowUp w h p (n : Int) = cutL p ((n : Int) * w).toNat (((n : Int) + 1) * w).toNat then some 1 else some 0) : Option Int) = some (rowBit w h p (n : Int)) := by unfold rowBit; split <;> rfl
   rw [ebit]
   simp only [Option.bind_some]
   rw [Int.zero_add, w64 (n := ctxN t) (by omega)]
   have hb01 : rowBit w h p (n : Int) = 1 ∨ rowBit w h p (n : Int) = 0 := by unfold rowBit; split <;> simp
   unfold rowEv
   rcases hb01 with h1 | h1
   ·rw [h1]
    have e1 := put_is (v := (ctxN t, 1)) q1.1 ⟨by rw [q1.2]; exact ⟨by show 0 ≤ ctxN t; omega, by show ctxN t < _; omega⟩, .inr rfl⟩ (by omega)
    simp only at e1
    rw [e1]
    simp only [Option.bind_some, if_true, Sum.elim_inr]
    rfl
   ·rw [h1]
    have hv : EvOk s.2.2.2.1.length (ctxN t, 0) := ⟨by rw [q1.2]; exact ⟨by show 0 ≤ ctxN t; omega, by show ctxN t < _; omega⟩, .inl rfl⟩
    have e1 := put_is (v := (ctxN t, 0)) q1.1 hv (by omega)
    obtain ⟨s1, s2, s3⟩ := encStep_ok q1.1 hv
    have row := put_row ho hb hy (e := encStep s (ctxN t, 0)) ⟨s1, by rw [s2, q1.2]⟩ (by omega)
    simp only [withP] at row
    simp only at e1
    rw [e1]
    simp only [Option.bind_some, if_true, if_false, Sum.elim_inl, show ¬ ((0 : Int) = 1) by decide]
    rw [row]
    rfl
/-- what is put in all -/
noncomputable def genE (o4 : Bool) (t a b k w h : Int) (p : List Int) : EncS := encAll (enc0 k (ctxA t)) (allEv o4 t a b w h p h.toNat)
noncomputable def genC (o4 : Bool) (t a b k w h : Int) (p : List Int) : List Int := (genE o4 t a b k w h p).2.2.2.2 ++ tbl (genE o4 t a b k w h p).2.2.1 (endN (genE o4 t a b k w h p).2.1 (genE o4 t a b k w h p).2.2.1)
theorem genE_ok {o4 : Bool} {t a b k w h : Int} {p : List Int} (ho : OptOk t a b k) (hb : Bmp w h p) : EncN (ctxA t) (genE o4 t a b k w h p) ∧ (genE o4 t a b k w h p).2.2.2.2.length ≤ 4 * (h.toNat * (1 + w.toNat)) := by
 have hk := ho.2.2.2.2.2.2.2
 obtain ⟨q1, q2⟩ := EncN.all (N := ctxA t) (e := enc0 k (ctxA t)) ⟨enc0_ok hk _, by simp [enc0]⟩ (allEv_ok (o4 := o4) (a := a) (b := b) hb (n := h.toNat))
 have q3 := allEv_len (o4 := o4) (t := t) (a := a) (b := b) (w := w) (h := h) (p := p) h.toNat
 refine ⟨q1, ?_⟩
 have : (enc0 k (ctxA t)).2.2.2.2.length = 0 := rfl
 unfold genE
 omega
theorem encode_is {o4 : Bool} {t a b k w h : Int} {p : List Int} (ho : OptOk t a b k) (hb : Bmp w h p) : generic_Encode t a b o4 k w h p = some (genC o4 t a b k w h p, 0) := by
 obtain ⟨b0, b1, b2, b3, b4, b5, b6⟩ := id hb
 have hk := ho.2.2.2.2.2.2.2
 have hA := ctxA_is t
 have hN := ctxN_small t
 obtain ⟨q1, q2⟩ := genE_ok (o4 := o4) ho hb
 have q4 : h.toNat * (1 + w.toNat) ≤ 200 * 201 := Nat.mul_le_mul (by omega) (by omega)
 have hd : decide (OptOk t a b k) = true := decide_eq_true ho
 rw [generic_Encode_eq, genValid_is, hd, bitmapValid_is (by omega), hb.b, contexts_is]
 simp only [Option.bind_some, Bool.not_true, Bool.false_eq_true, if_false]
 rw [w64 (n := ctxN t + 1) (by omega), ← hA.1, coderNew_is hk (by omega)]
 simp only [Option.bind_some]
 rw [newEncoder_is hk (by omega)]
 simp only [Option.bind_some, Sum.elim_inl]
 rw [generic_put_eq, newPlane_is (sidesB_iff.2 ⟨b0, b1, b2, b3, b4⟩)]
 simp only [Option.bind_some]
 have hr := put_rows (o4 := o4) ho hb (e := enc0 k (ctxA t)) ⟨enc0_ok hk _, by simp [enc0]⟩ (by simp [enc0])
 simp only [withP] at hr
 rw [hr]
 simp only [Option.bind_some]
 have := end_is (e := genE o4 t a b k w h p) q1.1.iv (by omega)
 unfold genE at this
 rw [this]
 rfl
/-! ### The pixels so far -/
/-- the pixels before a place, white behind it -/
def pre (p : List Int) (n : Nat) : List Int := p.take n ++ List.replicate (p.length - n) 0
theorem pre_len {p : List Int} {n : Nat} (hn : n ≤ p.length) : (pre p n).length = p.length := by
 unfold pre
 rw [List.length_append, List.length_take, List.length_replicate]; omega
theorem pre_at {p : List Int} {n i : Nat} (hi : i < n) (hn : n ≤ p.length) : (pre p n)[i]? = p[i]? := by
 unfold pre
 rw [List.getElem?_append_left (by rw [List.length_take]; omega), List.getElem?_take, if_pos hi]
theorem pre_rd {p : List Int} {n : Nat} {i : Int} (h0 : 0 ≤ i) (hi : i < (n : Int)) (hn : n ≤ p.length) : rd (pre p n) i = rd p i := by
 unfold rd
 rw [List.getD_eq_getElem?_getD, List.getD_eq_getElem?_getD, pre_at (by omega) hn]
theorem pre_bmp {w h : Int} {p : List Int} (hb : Bmp w h p) {n : Nat} (hn : n ≤ p.length) : Bmp w h (pre p n) := by
 obtain ⟨b0, b1, b2, b3, b4, b5, b6⟩ := hb
 refine ⟨b0, b1, b2, b3, b4, by rw [pre_len hn]; exact b5, fun x hx => ?_⟩
 rcases List.mem_append.1 hx with hx | hx
 ·exact b6 x (List.mem_of_mem_take hx)
 ·exact .inl (List.eq_of_mem_replicate hx)
theorem pre_set {p : List Int} {n : Nat} {v : Int} (hv : p[n]? = some v) : (pre p n).set n v = pre p (n + 1) := by
 have hn := lt_len_of_get hv
 unfold pre
 rw [List.set_append_right _ _ (by rw [List.length_take]; omega), List.length_take, show n - min n p.length = 0 by omega, show p.length - n = (p.length - (n + 1)) + 1 by omega, List.replicate_succ, List.set_cons_zero, List.take_add_one, hv, List.append_assoc]
 rfl
theorem pre_all {p : List Int} : pre p p.length = p := by unfold pre; simp
theorem pre_zero {p : List Int} : pre p 0 = List.replicate p.length 0 := by unfold pre; simp
theorem pre_row {p r : List Int} {n m : Nat} (hm : n ≤ m) (hl : m ≤ p.length) (hr : r = cutL p n m) : (pre p n).take n ++ r.take (min r.length ((pre p n).length - n)) ++ (pre p n).drop (n + min r.length ((pre p n).length - n)) = pre p m := by
 have hrl : r.length = m - n := by rw [hr]; unfold cutL; rw [List.length_drop, List.length_take]; omega
 rw [pre_len (by omega), hrl, show min (m - n) (p.length - n) = m - n by omega, List.take_of_length_le (l := r) (by omega), show n + (m - n) = m by omega]
 have h1 : (pre p n).take n = p.take n := by
  unfold pre
  rw [List.take_append_of_le_length (by rw [List.length_take]; omega), List.take_of_length_le (by rw [List.length_take]; omega)]
 have h2 : (pre p n).drop m = List.replicate (p.length - m) 0 := by
  unfold pre
  rw [List.drop_append, List.drop_of_length_le (by rw [List.length_take]; omega), List.nil_append, List.drop_replicate, List.length_take]
  congr 1
  omega
 rw [h1, h2, hr]
 unfold pre cutL
 congr 1
 have : p.take n = (p.take m).take n := by rw [List.take_take]; congr 1; omega
 rw [this, List.take_append_drop]
theorem pix_pre {w h : Int} {p : List Int} {m : Nat} (hm : m ≤ p.length) {x y : Int} (hw : 0 ≤ w) (hi : 0 ≤ x → 0 ≤ y → x < w → y < h → y * w + x < (m : Int)) : pixA w h (pre p m) x y = pixA w h p x y := by
 unfold pixA
 by_cases q : 0 ≤ x ∧ 0 ≤ y ∧ x < w ∧ y < h
 ·rw [if_pos q, if_pos q]
  have := Int.mul_nonneg q.2.1 hw
  exact pre_rd (by omega) (hi q.1 q.2.1 q.2.2.1 q.2.2.2) hm
 ·rw [if_neg q, if_neg q]
theorem ctxV_pre {w h : Int} {p : List Int} {m : Nat} (hm : m ≤ p.length) {x y : Int} (hw : 0 ≤ w) (hx : 0 ≤ x ∧ x < w) (hy : 0 ≤ y) (hmi : (m : Int) = y * w + x) : ∀ (l : List (Int × Int)) (n : Int), (∀ d ∈ l, d.2 < 0 ∨ d.2 = 0 ∧ d.1 < 0) → ctxV w h (pre p m) x y l n = ctxV w h p x y l n
 | [], n, _ => rfl
 | d :: l, n, hd => by
  have h1 := hd d (List.mem_cons_self ..)
  simp only [ctxV]
  rw [pix_pre hm hw, ctxV_pre hm hw hx hy hmi l _ fun e he => hd e (List.mem_cons_of_mem _ he)]
  intro q0 q1 q2 q3
  rw [hmi]
  rcases h1 with h1 | ⟨h1, h2⟩
  ·have := Int.mul_le_mul_of_nonneg_right (show y + d.2 ≤ y - 1 by omega) hw
   have e : (y - 1) * w = y * w - w := by rw [Int.sub_mul, Int.one_mul]
   omega
  ·rw [h1, Int.add_zero]; omega
theorem tmplL_back (t : Int) : ∀ d ∈ tmplL t, d.2 < 0 ∨ d.2 = 0 ∧ d.1 < 0 := by
 unfold tmplL
 split
 ·decide
 ·split
  ·decide
  ·split <;> decide
theorem ctx_pre {t a b k w h : Int} {p : List Int} (ho : OptOk t a b k) {m : Nat} (hm : m ≤ p.length) {x y : Int} (hw : 0 ≤ w) (hx : 0 ≤ x ∧ x < w) (hy : 0 ≤ y) (hmi : (m : Int) = y * w + x) : ctx t a b w h (pre p m) x y = ctx t a b w h p x y := by
 refine ctxV_pre hm hw hx hy hmi _ _ fun d hd => ?_
 obtain ⟨_, _, _, _, o5, o6, o7, _⟩ := ho
 rcases List.mem_append.1 hd with hd | hd
 ·exact tmplL_back t d hd
 ·rw [List.mem_singleton.1 hd]
  show b < 0 ∨ b = 0 ∧ a < 0
  omega
theorem rowUp_pre {w h : Int} {p : List Int} {m : Nat} (hm : m ≤ p.length) {y : Int} (hw : 0 ≤ w) (hmi : (m : Int) = y * w) : rowUp w h (pre p m) y = rowUp w h p y := by
 unfold rowUp
 refine List.map_congr_left fun x _ => pix_pre hm hw fun q0 q1 q2 q3 => ?_
 rw [Int.sub_mul, Int.one_mul]
 omega
/-! ### The decoder beside the encoder -/
/-- the decoder of a code, where an encoder of it was -/
def decF (C : List Int) (e : EncS) : Int × Int × Int × List Int × Int × Int × Int × Bool × List Int :=
 (e.1, e.2.1, e.2.2.1, C, ((e.2.2.2.2.length + 4 : Nat) : Int), win C e.2.2.2.2.length, beyd C (e.2.2.2.2.length + 4), false, e.2.2.2.1)
theorem pixEv_split {t a b w h : Int} {p : List Int} {y : Int} {n m : Nat} (hnm : n ≤ m) : ∃ r, pixEv t a b w h p y m = pixEv t a b w h p y n ++ r := by
 refine ⟨(pixEv t a b w h p y m).drop n, ?_⟩
 have : pixEv t a b w h p y n = (pixEv t a b w h p y m).take n := by
  unfold pixEv
  rw [← List.map_take, List.take_range, show min n m = n by omega]
 rw [this, List.take_append_drop]
theorem get_pix {t a b k w h : Int} {p C : List Int} (ho : OptOk t a b k) (hb : Bmp w h p) (hC : Bytes C) {y : Int} (hy : 0 ≤ y ∧ y < h) {e : EncS} (he : EncN (ctxA t) e) (hel : e.2.2.2.2.length ≤ 100000000)
  (hL : LiesE C (encAll e (pixEv t a b w h p y w.toNat))) : ∀ d n : Nat, n + d = w.toNat →
  loop (generic_plane_row_loop9 0 y 0 0 [] w) ((n : Int), w, h, (offs t a b).map ar2, pre p ((y * w).toNat + n), decF C (encAll e (pixEv t a b w h p y n))) = some (Sum.inl (w, h, (offs t a b).map ar2, pre p ((y * w).toNat + w.toNat), decF C (encAll e (pixEv t a b w h p y w.toNat))))
 | 0, n, hn => by
  rw [Nat.add_zero] at hn
  subst hn
  refine loop_done ?_
  have hw := hb.1
  unfold generic_plane_row_loop9
  simp only [iteD]
  rw [if_neg (by omega)]
 | d + 1, n, hn => by
  have hw := hb.1
  have hw2 := hb.2.2.1
  have hh2 := hb.2.2.2.1
  have hwh := hb.2.2.2.2.1
  have hlen := hb.2.2.2.2.2.1
  have hctx := ctxN_small t
  have hA := (ctxA_is t).1
  obtain ⟨a0, a1, a2⟩ := idx_in (show (0 : Int) ≤ (n : Int) by omega) (show (n : Int) < w by omega) hy.1 hy.2
  have hcx := ctx_range (t := t) (a := a) (b := b) hb (n : Int) y
  have hp := hb.pix (x := (n : Int)) (y := y)
  have hm : (y * w).toNat + n ≤ p.length := by omega
  have hmi : (((y * w).toNat + n : Nat) : Int) = y * w + (n : Int) := by omega
  obtain ⟨q1, q2⟩ := he.all (pixEv_ok (a := a) (b := b) hb (y := y) (n := n))
  have q3 : (pixEv t a b w h p y n).length = n := by simp [pixEv]
  have hev : EvOk (encAll e (pixEv t a b w h p y n)).2.2.2.1.length (ctx t a b w h p (n : Int) y, pixA w h p (n : Int) y) := ⟨by rw [q1.2]; exact ⟨hcx.1, by show ctx t a b w h p (n : Int) y < _; omega⟩, hp⟩
  have hL1 : LiesE C (encStep (encAll e (pixEv t a b w h p y n)) (ctx t a b w h p (n : Int) y, pixA w h p (n : Int) y)) := by
   obtain ⟨r, hr⟩ := pixEv_split (t := t) (a := a) (b := b) (w := w) (h := h) (p := p) (y := y) (show n + 1 ≤ w.toNat by omega)
   obtain ⟨z1, z2⟩ := he.all (pixEv_ok (a := a) (b := b) hb (y := y) (n := n + 1))
   have := hL
   rw [hr, encAll_app] at this
   have := lies_back hC r _ z1.1 z1.2 (fun v hv => pixEv_ok (a := a) (b := b) hb (y := y) (n := w.toNat) v (by rw [hr]; exact List.mem_append_right _ hv)) this
   rw [pixEv_succ, encAll_app] at this
   exact this
  have hget := get_is hC q1.1 hev (by omega) hL1
  have ih := get_pix ho hb hC hy he hel hL d (n + 1) (by omega)
  rw [pixEv_succ, encAll_app] at ih
  have hstep : encAll (encAll e (pixEv t a b w h p y n)) [(ctx t a b w h p (n : Int) y, pixA w h p (n : Int) y)] = encStep (encAll e (pixEv t a b w h p y n)) (ctx t a b w h p (n : Int) y, pixA w h p (n : Int) y) := rfl
  rw [hstep] at ih
  have hgp : p[(y * w).toNat + n]? = some (pixA w h p (n : Int) y) := by
   have := rd_get (xs := p) (i := y * w + (n : Int)) a1 (by omega)
   rw [rd_pix hb (by omega) (by omega) hy.1 hy.2, show (y * w + (n : Int)).toNat = (y * w).toNat + n by omega] at this
   exact this
  rw [loop_step (s' := (((n + 1 : Nat) : Int), w, h, (offs t a b).map ar2, pre p ((y * w).toNat + (n + 1)), decF C (encStep (encAll e (pixEv t a b w h p y n)) (ctx t a b w h p (n : Int) y, pixA w h p (n : Int) y)))), ih]
  generalize encAll e (pixEv t a b w h p y n) = s at hget hev q1 q2 ⊢
  unfold generic_plane_row_loop9
  simp only [iteD, decF]
  rw [if_pos (by omega), w64 (n := y * w) (by omega), w64 (n := y * w + (n : Int)) (by omega), skips0]
  simp only [Option.bind_some, Bool.false_eq_true, if_false]
  rw [context2_is ho (pre_bmp hb hm) (by omega) (by omega), ctx_pre ho hm hw ⟨by omega, by omega⟩ hy.1 hmi]
  simp only [Option.bind_some]
  rw [Int.zero_add, w64 (n := ctx t a b w h p (n : Int) y) (by omega), hget]
  simp only [Option.bind_some, decide_true, Bool.not_true, Bool.false_eq_true, if_false]
  rw [w64 (n := y * w) (by omega), w64 (n := y * w + (n : Int)) (by omega), pre_len hm, if_pos (by omega), w64 (n := (n : Int) + 1) (by omega), show IntKind.u8.wrap (pixA w h p (n : Int) y) = pixA w h p (n : Int) y by rw [w8]; omega, show (y * w + (n : Int)).toNat = (y * w).toNat + n by omega, pre_set hgp]
  rfl
/-- a row comes back -/
theorem get_row {o4 : Bool} {t a b k w h : Int} {p C : List Int} (ho : OptOk t a b k) (hb : Bmp w h p) (hC : Bytes C) {y : Int} (hy : 0 ≤ y ∧ y < h) {e : EncS} (he : EncN (ctxA t) e) (hel : e.2.2.2.2.length ≤ 1000000)
  (hL : LiesE C (encAll e (rowEv o4 t a b w h p y))) :
  generic_plane_row 0 t a b o4 k y 0 0 [] w h ((offs t a b).map ar2) (pre p (y * w).toNat) e.1 e.2.1 e.2.2.1 C ((e.2.2.2.2.length + 4 : Nat) : Int) (win C e.2.2.2.2.length) (beyd C (e.2.2.2.2.length + 4)) false e.2.2.2.1 =
   some (0, w, h, (offs t a b).map ar2, pre p ((y + 1) * w).toNat, decF C (encAll e (rowEv o4 t a b w h p y))) := by
 have hw := hb.1
 have hw2 := hb.2.2.1
 have hh2 := hb.2.2.2.1
 have hwh := hb.2.2.2.2.1
 have hlen := hb.2.2.2.2.2.1
 have hctx := ctxN_small t
 have hA := (ctxA_is t).1
 have b1 : 0 ≤ y * w := Int.mul_nonneg hy.1 hw
 have b2 : (y + 1) * w ≤ h * w := Int.mul_le_mul_of_nonneg_right (by omega) hw
 have b3 : (y + 1) * w = y * w + w := by rw [Int.add_mul, Int.one_mul]
 rw [Int.mul_comm h w] at b2
 have hm : (y * w).toNat ≤ p.length := by omega
 have hpix : ∀ s : EncS, EncN (ctxA t) s → s.2.2.2.2.length ≤ 100000000 → LiesE C (encAll s (pixEv t a b w h p y w.toNat)) → loop (generic_plane_row_loop9 0 y 0 0 [] w) (0, w, h, (offs t a b).map ar2, pre p (y * w).toNat, decF C s) = some (Sum.inl (w, h, (offs t a b).map ar2, pre p ((y + 1) * w).toNat, decF C (encAll s (pixEv t a b w h p y w.toNat)))) := by
  intro s hs hsl hLs
  have := get_pix ho hb hC hy hs hsl hLs w.toNat 0 (by omega)
  rw [show ((y + 1) * w).toNat = (y * w).toNat + w.toNat by omega]
  exact this
 rw [generic_plane_row_eq]
 unfold rowEv at hL ⊢
 cases o4 with
 | false =>
  simp only [Bool.false_eq_true, if_false] at hL ⊢
  have hl := hpix e he (by omega) hL
  simp only [Option.bind_some, Sum.elim_inl]
  unfold decF at hl
  rw [hl]
  rfl
 | true =>
  simp only [if_true] at hL ⊢
  rw [contexts_is]
  simp only [Option.bind_some]
  rw [Int.zero_add, w64 (n := ctxN t) (by omega)]
  have hb01 : rowBit w h p y = 1 ∨ rowBit w h p y = 0 := by unfold rowBit; split <;> simp
  rcases hb01 with h1 | h1
  ·rw [h1] at hL ⊢
   simp only [if_true] at hL ⊢
   have hv : EvOk e.2.2.2.1.length (ctxN t, 1) := ⟨by rw [he.2]; exact ⟨by show 0 ≤ ctxN t; omega, by show ctxN t < _; omega⟩, .inr rfl⟩
   have hget := get_is hC he.1 hv (by omega) hL
   try simp only at hget
   rw [hget]
   have hr : rowUp w h p y = cutL p (y * w).toNat ((y + 1) * w).toNat := by
    unfold rowBit at h1
    by_cases q : rowUp w h p y = cutL p (y * w).toNat ((y + 1) * w).toNat
    ·exact q
    ·rw [if_neg q] at h1; cases h1
   have hpr := pre_row (p := p) (n := (y * w).toNat) (m := ((y + 1) * w).toNat) (by omega) (by omega) hr
   simp only [Option.bind_some, decide_true, Bool.not_true, Bool.false_eq_true, if_false, if_true]
   rw [w64 (n := y * w) (by omega), above2_is (pre_bmp hb hm) hy, rowUp_pre hm hw (by omega)]
   simp only [Option.bind_some, demon_same]
   rw [w64 (n := y * w) (by omega), if_pos (by rw [pre_len hm]; omega)]
   simp only [demon_same, Option.bind_some, Sum.elim_inr]
   rw [hpr]
   rfl
  ·rw [h1] at hL ⊢
   simp only [show ¬ ((0 : Int) = 1) by decide, if_false] at hL ⊢
   have hv : EvOk e.2.2.2.1.length (ctxN t, 0) := ⟨by rw [he.2]; exact ⟨by show 0 ≤ ctxN t; omega, by show ctxN t < _; omega⟩, .inl rfl⟩
   obtain ⟨s1, s2, s3⟩ := encStep_ok he.1 hv
   have hL' : LiesE C (encAll (encStep e (ctxN t, 0)) (pixEv t a b w h p y w.toNat)) := hL
   have hL1 := lies_back hC _ _ s1 (by rw [s2, he.2]) (pixEv_ok (a := a) (b := b) hb (y := y) (n := w.toNat)) hL'
   have hget := get_is hC he.1 hv (by omega) hL1
   try simp only at hget
   rw [hget]
   simp only [Option.bind_some, decide_true, decide_false, Bool.not_true, Bool.false_eq_true, if_false, show ¬ ((0 : Int) = 1) by decide, Sum.elim_inl]
   have hl := hpix (encStep e (ctxN t, 0)) ⟨s1, by rw [s2, he.2]⟩ (by omega) hL'
   unfold decF at hl
   rw [hl]
   rfl
theorem allEv_split {o4 : Bool} {t a b w h : Int} {p : List Int} : ∀ {n m : Nat}, n ≤ m → ∃ r, allEv o4 t a b w h p m = allEv o4 t a b w h p n ++ r
 | n, 0, h => ⟨[], by rw [show n = 0 by omega]; simp⟩
 | n, m + 1, h => by
  by_cases q : n = m + 1
  ·exact ⟨[], by rw [q]; simp⟩
  ·obtain ⟨r, hr⟩ := allEv_split (o4 := o4) (t := t) (a := a) (b := b) (w := w) (p := p) (show n ≤ m by omega)
   exact ⟨r ++ rowEv o4 t a b w _ p (m : Int), by rw [allEv_succ, hr, List.append_assoc]⟩
theorem get_rows {o4 : Bool} {t a b k w h : Int} {p C : List Int} (ho : OptOk t a b k) (hb : Bmp w h p) (hC : Bytes C) {e : EncS} (he : EncN (ctxA t) e) (hel : e.2.2.2.2.length ≤ 1000)
  (hL : LiesE C (encAll e (allEv o4 t a b w h p h.toNat))) : ∀ d n : Nat, n + d = h.toNat →
  ∃ r, loop (generic_Get_loop13 0 t a b o4 k h 0 0 []) ((n : Int), (encAll e (allEv o4 t a b w h p n)).1, (encAll e (allEv o4 t a b w h p n)).2.1, (encAll e (allEv o4 t a b w h p n)).2.2.1, C, (((encAll e (allEv o4 t a b w h p n)).2.2.2.2.length + 4 : Nat) : Int), win C (encAll e (allEv o4 t a b w h p n)).2.2.2.2.length, beyd C ((encAll e (allEv o4 t a b w h p n)).2.2.2.2.length + 4), false, (encAll e (allEv o4 t a b w h p n)).2.2.2.1, 0, 0, w, h, (offs t a b).map ar2, pre p ((n : Int) * w).toNat, []) =
   some (Sum.inl r) ∧ r.2.2.2.2.2.2.2.2.2.2.2.2.2.2.1 = p
 | 0, n, hn => by
  rw [Nat.add_zero] at hn
  subst hn
  have hh := hb.2.1
  have hlen := hb.2.2.2.2.2.1
  refine ⟨((encAll e (allEv o4 t a b w h p h.toNat)).1, (encAll e (allEv o4 t a b w h p h.toNat)).2.1, (encAll e (allEv o4 t a b w h p h.toNat)).2.2.1, C, (((encAll e (allEv o4 t a b w h p h.toNat)).2.2.2.2.length + 4 : Nat) : Int), win C (encAll e (allEv o4 t a b w h p h.toNat)).2.2.2.2.length, beyd C ((encAll e (allEv o4 t a b w h p h.toNat)).2.2.2.2.length + 4), false, (encAll e (allEv o4 t a b w h p h.toNat)).2.2.2.1, 0, 0, w, h, (offs t a b).map ar2, pre p (((h.toNat : Nat) : Int) * w).toNat, []), loop_done ?_, ?_⟩
  ·unfold generic_Get_loop13
   simp only [iteD]
   rw [if_neg (by omega)]
  ·show pre p (((h.toNat : Nat) : Int) * w).toNat = p
   have : (((h.toNat : Nat) : Int) * w).toNat = p.length := by rw [show ((h.toNat : Nat) : Int) = h by omega, Int.mul_comm]; omega
   rw [this, pre_all]
 | d + 1, n, hn => by
  have hw := hb.1
  have hw2 := hb.2.2.1
  have hh2 := hb.2.2.2.1
  have hy : (0 : Int) ≤ (n : Int) ∧ (n : Int) < h := by omega
  obtain ⟨q1, q2⟩ := he.all (allEv_ok (o4 := o4) (a := a) (b := b) hb (n := n))
  have q3 := allEv_len (o4 := o4) (t := t) (a := a) (b := b) (w := w) (h := h) (p := p) n
  have q4 : n * (1 + w.toNat) ≤ 200 * 201 := Nat.mul_le_mul (by omega) (by omega)
  obtain ⟨r, ih, hr⟩ := get_rows ho hb hC he hel hL d (n + 1) (by omega)
  have hL1 : LiesE C (encAll (encAll e (allEv o4 t a b w h p n)) (rowEv o4 t a b w h p (n : Int))) := by
   obtain ⟨r, hr⟩ := allEv_split (o4 := o4) (t := t) (a := a) (b := b) (w := w) (h := h) (p := p) (show n + 1 ≤ h.toNat by omega)
   obtain ⟨z1, z2⟩ := he.all (allEv_ok (o4 := o4) (a := a) (b := b) hb (n := n + 1))
   have := hL
   rw [hr, encAll_app] at this
   have := lies_back hC r _ z1.1 z1.2 (fun v hv => allEv_ok (o4 := o4) (a := a) (b := b) hb (n := h.toNat) v (by rw [hr]; exact List.mem_append_right _ hv)) this
   rw [allEv_succ, encAll_app] at this
   exact this
  rw [allEv_succ, encAll_app] at ih
  refine ⟨r, ?_, hr⟩
  generalize encAll e (allEv o4 t a b w h p n) = s at q1 q2 hL1 ih ⊢
  have hrow := get_row (o4 := o4) ho hb hC hy q1 (by omega) hL1
  have e1 : (((n + 1 : Nat) : Int) * w).toNat = (((n : Int) + 1) * w).toNat := by rw [show ((n + 1 : Nat) : Int) = (n : Int) + 1 by omega]
  rw [e1] at ih
  refine (loop_step ?_).trans ih
  unfold generic_Get_loop13
  simp only [iteD]
  rw [if_pos (by omega), hrow]
  simp only [Option.bind_some, decF, decide_true, Bool.not_true, Bool.false_eq_true, if_false]
  rw [w64 (n := (n : Int) + 1) (by omega)]
  rfl
theorem genC_ok {o4 : Bool} {t a b k w h : Int} {p : List Int} (ho : OptOk t a b k) (hb : Bmp w h p) : Bytes (genC o4 t a b k w h p) ∧ LiesE (genC o4 t a b k w h p) (genE o4 t a b k w h p) ∧ (genC o4 t a b k w h p).length ≤ 4 * (h.toNat * (1 + w.toNat)) + 4 := by
 have hk := ho.2.2.2.2.2.2.2
 obtain ⟨q1, q2⟩ := genE_ok (o4 := o4) ho hb
 have hby : Bytes (genE o4 t a b k w h p).2.2.2.2 := all_bytes _ (enc0 k (ctxA t)) (enc0_ok hk _) (by simp [enc0]) (allEv_ok (o4 := o4) (a := a) (b := b) hb (n := h.toNat)) (fun x hx => by simp [enc0] at hx)
 have hn := (endN_is q1.1.iv).1
 refine ⟨fun x hx => ?_, lies_end q1.1.iv, ?_⟩
 ·rcases List.mem_append.1 hx with hx | hx
  ·exact hby x hx
  ·exact tbl_bytes (by have := q1.1.iv; have := this.1; have := q1.1.iv.2.1; omega) _ x hx
 ·unfold genC
  rw [List.length_append, tbl_len]
  omega
theorem decode_gen {o4 : Bool} {t a b k w h : Int} {p : List Int} (ho : OptOk t a b k) (hb : Bmp w h p) : generic_Decode t a b o4 k (genC o4 t a b k w h p) w h = some (w, h, p, 0) := by
 obtain ⟨b0, b1, b2, b3, b4, b5, b6⟩ := id hb
 have hs : sidesB w h = true := sidesB_iff.2 ⟨b0, b1, b2, b3, b4⟩
 have hk := ho.2.2.2.2.2.2.2
 have hA := ctxA_is t
 have hN := ctxN_small t
 obtain ⟨c1, c2, c3⟩ := genC_ok (o4 := o4) ho hb
 have q4 : h.toNat * (1 + w.toNat) ≤ 200 * 201 := Nat.mul_le_mul (by omega) (by omega)
 have hd : decide (OptOk t a b k) = true := decide_eq_true ho
 have hE : genE o4 t a b k w h p = encAll (enc0 k (ctxA t)) (allEv o4 t a b w h p h.toNat) := rfl
 rw [hE] at c2
 generalize genC o4 t a b k w h p = C at c1 c2 c3 ⊢
 rw [generic_Decode_eq, genValid_is, hd, contexts_is]
 simp only [Option.bind_some, Bool.not_true, Bool.false_eq_true, if_false]
 rw [w64 (n := ctxN t + 1) (by omega), ← hA.1, coderNew_is hk (by omega)]
 simp only [Option.bind_some]
 rw [newDecoder_is hk (by omega) c1 (by omega)]
 simp only [Option.bind_some, Sum.elim_inl]
 have hg0 : coder_Decoder_Get (-1) k 0 4294967295 C 4 (win C 0) (beyd C 4) false (List.replicate (ctxA t) 0) = some (0, 2, k, 0, 4294967295, C, 4, win C 0, beyd C 4, false, List.replicate (ctxA t) 0) := by
  rw [coder_Decoder_Get_eq, coder_Decoder_none_eq]
  rfl
 have hsk : bitmap_Valid 0 0 [] = some true := by rw [bitmapValid_is (by simp)]; rfl
 have hsd : generic_sides 0 0 [] w h = some true := by rw [generic_sides_eq]; rfl
 rw [generic_Get_eq, hg0]
 simp only [Option.bind_some, show ¬ ((2 : Int) = 7) by decide, decide_false, Bool.false_eq_true, if_false]
 rw [genValid_is, hd]
 simp only [Option.bind_some, Bool.not_true, Bool.false_eq_true, if_false]
 rw [new_ok hs]
 simp only [Option.bind_some, decide_true, Bool.not_true, Bool.false_eq_true, if_false, hsk, hsd]
 rw [coder_Decoder_Model_eq, coder_Decoder_none_eq]
 simp only [Option.bind_some, Bool.false_eq_true, if_false]
 rw [coder_clone_eq, if_pos (by simp; omega)]
 simp only [Option.bind_some, List.nil_append]
 have hft : ∀ x1 : Int, generic_fits x1 (List.replicate (ctxA t) 0) 0 t a b o4 k = some true := by
  intro x1
  rw [generic_fits_eq, contexts_is]
  simp only [show (0 : Int) ≥ 0 by decide, decide_true, if_true, Option.bind_some, List.length_replicate]
  rw [w64 (n := ((ctxA t : Nat) : Int) - ctxN t) (by omega), w64 (by omega)]
  have : (0 : Int) ≤ ((ctxA t : Nat) : Int) - ctxN t - 1 := by omega
  simp only [this, decide_true]
 rw [hft]
 simp only [Option.bind_some, Bool.not_true, Bool.false_eq_true, if_false]
 rw [newPlane_is hs]
 simp only [Option.bind_some]
 obtain ⟨r, hr, hp⟩ := get_rows (o4 := o4) ho hb c1 (e := enc0 k (ctxA t)) ⟨enc0_ok hk _, by simp [enc0]⟩ (by simp [enc0]) c2 h.toNat 0 (by omega)
 have hz : List.replicate (w * h).toNat 0 = pre p (((0 : Nat) : Int) * w).toNat := by
  rw [show (((0 : Nat) : Int) * w).toNat = 0 by simp, pre_zero]
  congr 1
  omega
 rw [hz]
 have hr' : loop (generic_Get_loop13 0 t a b o4 k h 0 0 []) (0, k, 0, 4294967295, C, 4, win C 0, beyd C 4, false, List.replicate (ctxA t) 0, 0, 0, w, h, (offs t a b).map ar2, pre p (((0 : Nat) : Int) * w).toNat, []) = some (Sum.inl r) := hr
 rw [hr']
 simp only [Option.bind_some, Sum.elim_inl, hp]
/-! ### All is drawn by 0 -/
theorem cmb0 (a b : Int) : cmb 0 a b = b := by
 unfold cmb
 rw [bitmap_combine_eq]
 rfl
theorem fold0 {s : List Int} : ∀ (L : List (Nat × Int)) (q : List Int), q.length = s.length → (∀ c ∈ L, s[c.1]? = some c.2) →
  (L.foldl (putc 0) q).length = s.length ∧ ∀ i, ((∃ c ∈ L, c.1 = i) ∨ q[i]? = s[i]?) → (L.foldl (putc 0) q)[i]? = s[i]?
 | [], q, hq, _ => ⟨hq, fun i h => by
  rcases h with ⟨c, hc, _⟩ | h
  ·simp at hc
  ·exact h⟩
 | c :: L, q, hq, hL => by
  have hc := hL c (List.mem_cons_self ..)
  have hcl := lt_len_of_get hc
  have e : putc 0 q c = q.set c.1 c.2 := by unfold putc; rw [cmb0]
  have ih := fold0 L (q.set c.1 c.2) (by rw [List.length_set]; exact hq) fun d hd => hL d (List.mem_cons_of_mem _ hd)
  rw [List.foldl_cons, e]
  refine ⟨ih.1, fun i h => ih.2 i ?_⟩
  have hset : (q.set c.1 c.2)[c.1]? = s[c.1]? := by rw [List.getElem?_set_self (by omega), hc]
  by_cases hi : c.1 = i
  ·right; rw [← hi]; exact hset
  ·rcases h with ⟨d, hd, hdi⟩ | h
   ·rcases List.mem_cons.1 hd with rfl | hd
    ·exact absurd hdi hi
    ·exact .inl ⟨d, hd, hdi⟩
   ·right
    rw [List.getElem?_set_ne hi]
    exact h
theorem cells_val {W H : Nat} {s : List Int} (hl : s.length = W * H) : ∀ c ∈ cells W 0 W H s, s[c.1]? = some c.2 := by
 intro c hc
 obtain ⟨v, hv, hc⟩ := List.mem_flatMap.1 hc
 obtain ⟨u, hu, rfl⟩ := List.mem_map.1 hc
 have h1 := List.mem_range.1 hv
 have h2 := List.mem_range.1 hu
 have h3 : v * W + u < W * H := by
  have := Nat.mul_le_mul_right W (show v + 1 ≤ H by omega)
  rw [Nat.add_mul, Nat.one_mul, Nat.mul_comm H W] at this
  omega
 show s[v * W + (0 + u)]? = some (rd s ((v * W + u : Nat) : Int))
 have := rd_get (xs := s) (i := ((v * W + u : Nat) : Int)) (by omega) (by omega)
 rw [Int.toNat_natCast] at this
 rw [show v * W + (0 + u) = v * W + u by omega]
 exact this
theorem draw_all {W H : Nat} {q s : List Int} (hq : Bmp (W : Int) (H : Int) q) (hs : Bmp (W : Int) (H : Int) s) : bitmap_Draw (W : Int) (H : Int) q (W : Int) (H : Int) s 0 0 0 = some ((W : Int), (H : Int), s, 0) := by
 have hql := hq.2.2.2.2.2.1
 have hsl := hs.2.2.2.2.2.1
 have e : ((W : Int) * (H : Int)) = ((W * H : Nat) : Int) := by simp
 obtain ⟨f1, f2⟩ := fold0 (s := s) (cells W 0 W H s) q (by omega) (cells_val (by omega))
 have : (cells W 0 W H s).foldl (putc 0) q = s := by
  apply List.ext_getElem?
  intro i
  by_cases hi : i < W * H
  ·refine f2 i (.inl ⟨(i, rd s (i : Int)), ?_, rfl⟩)
   have hW : 0 < W := by
    rcases Nat.eq_zero_or_pos W with rfl | h
    ·simp at hi
    ·exact h
   have hdm := Nat.div_add_mod i W
   refine List.mem_flatMap.2 ⟨i / W, List.mem_range.2 (Nat.div_lt_of_lt_mul hi), List.mem_map.2 ⟨i % W, List.mem_range.2 (Nat.mod_lt _ hW), ?_⟩⟩
   rw [Nat.mul_comm] at hdm
   rw [Nat.zero_add, hdm]
  ·rw [List.getElem?_eq_none (by omega), List.getElem?_eq_none (by omega)]
 have h := (draw_in (x := 0) (op := 0) hq hs (by omega) (Nat.le_refl _) (by decide)).1
 rw [this] at h
 exact h
/-! ### Generic regions -/
def flagN (t : Int) (o4 : Bool) (k : Int) : Int := t + (if o4 = true then 4 else 0) + 8 * k
theorem flagN_is : ∀ (t : Fin 4) (o4 : Bool) (k : Fin 2), (0 ≤ flagN ((t.val : Nat) : Int) o4 ((k.val : Nat) : Int) ∧ flagN ((t.val : Nat) : Int) o4 ((k.val : Nat) : Int) ≤ 15) ∧ (flagN ((t.val : Nat) : Int) o4 ((k.val : Nat) : Int)).tmod 4 = ((t.val : Nat) : Int) ∧ (!decide (iand .i64 (flagN ((t.val : Nat) : Int) o4 ((k.val : Nat) : Int)) 4 = 0)) = o4 ∧ ishr .i64 (flagN ((t.val : Nat) : Int) o4 ((k.val : Nat) : Int)) 3 = ((k.val : Nat) : Int) := by decide +kernel
theorem flagN_ok {t a b k : Int} (ho : OptOk t a b k) (o4 : Bool) : (0 ≤ flagN t o4 k ∧ flagN t o4 k ≤ 15) ∧ (flagN t o4 k).tmod 4 = t ∧ (!decide (iand .i64 (flagN t o4 k) 4 = 0)) = o4 ∧ ishr .i64 (flagN t o4 k) 3 = k := by
 obtain ⟨o1, o2, _, _, _, _, _, o8⟩ := ho
 have := flagN_is ⟨t.toNat, by omega⟩ o4 ⟨k.toNat, by omega⟩
 simp only [show ((t.toNat : Nat) : Int) = t by omega, show ((k.toNat : Nat) : Int) = k by omega] at this
 exact this
theorem wbyte3 {x y z : Int} (hx : 0 ≤ x ∧ x ≤ 255) (hy : 0 ≤ y ∧ y ≤ 255) (hz : 0 ≤ z ∧ z ≤ 255) {b : List Int} (hb : b.length ≤ 100000000) : page_writer_byte [x, y, z] b = some (b ++ [x, y, z]) := by
 rw [page_writer_byte_eq, page_writer_byte_b]
 have w : ∀ n : Int, 0 ≤ n ∧ n ≤ 255 → IntKind.u8.wrap n = n := fun n hn => by rw [w8]; omega
 have s1 : page_writer_byte_loop1 [x, y, z] (0, b) = some (.inl (1, b ++ [x])) := by
  unfold page_writer_byte_loop1
  simp only [List.length_cons, List.length_nil, iteD]
  rw [if_pos (by decide), if_pos (by decide), show rd [x, y, z] 0 = x from rfl, w x hx, if_pos (by omega)]
  rfl
 have s2 : page_writer_byte_loop1 [x, y, z] (1, b ++ [x]) = some (.inl (2, b ++ [x] ++ [y])) := by
  unfold page_writer_byte_loop1
  simp only [List.length_cons, List.length_nil, iteD]
  rw [if_pos (by decide), if_pos (by decide), show rd [x, y, z] 1 = y from rfl, w y hy, if_pos (by rw [List.length_append, List.length_singleton]; omega)]
  rfl
 have s3 : page_writer_byte_loop1 [x, y, z] (2, b ++ [x] ++ [y]) = some (.inl (3, b ++ [x] ++ [y] ++ [z])) := by
  unfold page_writer_byte_loop1
  simp only [List.length_cons, List.length_nil, iteD]
  rw [if_pos (by decide), if_pos (by decide), show rd [x, y, z] 2 = z from rfl, w z hz, if_pos (by simp only [List.length_append, List.length_singleton]; omega)]
  rfl
 have s4 : page_writer_byte_loop1 [x, y, z] (3, b ++ [x] ++ [y] ++ [z]) = some (.inr (b ++ [x] ++ [y] ++ [z])) := by
  unfold page_writer_byte_loop1
  rfl
 rw [loop_step s1, loop_step s2, loop_step s3, loop_done s4, List.append_assoc, List.append_assoc]
 rfl
/-- the Data of a generic region -/
noncomputable def genD (o4 : Bool) (t a b k : Int) (w h : Nat) (x y op : Int) (p : List Int) : List Int := begL w h x y op ++ [flagN t o4 k] ++ [a + 8] ++ [-b] ++ genC o4 t a b k (w : Int) (h : Int) p
theorem gen_written {o4 : Bool} {t a b k : Int} {w h : Nat} {x y op : Int} {p : List Int} (ho : OptOk t a b k) (hb : Bmp (w : Int) (h : Int) p) (hx : -400 ≤ x ∧ x ≤ 400) (hy : -400 ≤ y ∧ y ≤ 400) (hop : 0 ≤ op ∧ op ≤ 4) :
  page_Generic (w : Int) (h : Int) x y op false t a b o4 k (w : Int) (h : Int) p = some (genD o4 t a b k w h x y op p, 0) := by
 obtain ⟨h0, h1, h2, h3, h4, h5, h6⟩ := id hb
 have hs : sidesB (w : Int) (h : Int) = true := sidesB_iff.2 ⟨h0, h1, h2, h3, h4⟩
 obtain ⟨o1, o2, o3, o4', o5, o6, o7, o8⟩ := id ho
 obtain ⟨g1, g2, g3⟩ := genC_ok (o4 := o4) ho hb
 simp only [Int.toNat_natCast] at g3
 have q4 : h * (1 + w) ≤ 200 * 201 := Nat.mul_le_mul (by omega) (by omega)
 have lb : (begL w h x y op).length ≤ 9 := begL_len
 have hf := (flagN_ok ho o4).1
 rw [page_Generic_eq, rightBegin_ok hs (by omega) (by omega) hop]
 simp only [Option.bind_some, Bool.not_true, Bool.false_eq_true, if_false, decide_true]
 rw [encode_is ho hb]
 simp only [Option.bind_some]
 rw [begin_written (by omega) (by omega) hx hy hop]
 simp only [Option.bind_some, page_flag_eq]
 have ef : ((if o4 = true then some 4 else some 0) : Option Int) = some (if o4 = true then 4 else 0) := by split <;> rfl
 rw [ef]
 simp only [Option.bind_some]
 have hi : 0 ≤ (if o4 = true then (4 : Int) else 0) ∧ (if o4 = true then (4 : Int) else 0) ≤ 4 := by split <;> omega
 rw [w64 (n := t + (if o4 = true then 4 else 0)) (by omega), w64 (n := 8 * k) (by omega), w64 (n := t + (if o4 = true then 4 else 0) + 8 * k) (by omega), if_pos (by decide), if_pos (by decide), w64 (n := a + 8) (by omega), w64 (n := 0 - b) (by omega), show 0 - b = -b by omega]
 have e3 := wbyte3 (x := flagN t o4 k) (y := a + 8) (z := -b) (by omega) (by omega) (by omega) (b := begL w h x y op) (by omega)
 unfold flagN at e3
 rw [e3]
 simp only [Option.bind_some]
 rw [page_writer_with_eq, if_neg (by simp), if_pos (by simp only [List.length_append, List.length_cons, List.length_nil]; omega)]
 simp only [Option.bind_some]
 unfold genD flagN
 simp
theorem add_gen {n g : Int} (hg : 0 < g) {o4 : Bool} {t a b k : Int} {w h : Nat} {x y op : Int} {p : List Int} (ho : OptOk t a b k) (hb : Bmp (w : Int) (h : Int) p) (hx : -400 ≤ x ∧ x ≤ 400) (hy : -400 ≤ y ∧ y ≤ 400) (hop : 0 ≤ op ∧ op ≤ 4)
  {W H : Int} {q r : List Int} (hr : bitmap_Draw W H q (w : Int) (h : Int) p x y op = some (W, H, r, 0)) {st ht : Int} :
  page_builder_add n 4 g [] [true] (genD o4 t a b k w h x y op p) g W H q true false st ht = some (0, g, W, H, r, true, false, st, ht) := by
 obtain ⟨h0, h1, h2, h3, h4, h5, h6⟩ := id hb
 have hs : sidesB (w : Int) (h : Int) = true := sidesB_iff.2 ⟨h0, h1, h2, h3, h4⟩
 obtain ⟨o1, o2, o3, o4', o5, o6, o7, o8⟩ := id ho
 obtain ⟨g1, g2, g3⟩ := genC_ok (o4 := o4) ho hb
 have hdec := decode_gen (o4 := o4) ho hb
 simp only [Int.toNat_natCast] at g3
 have q4 : h * (1 + w) ≤ 200 * 201 := Nat.mul_le_mul (by omega) (by omega)
 have lb : (begL w h x y op).length ≤ 9 := begL_len
 obtain ⟨f1, f2, f3, f4⟩ := flagN_ok ho o4
 unfold genD
 generalize genC o4 t a b k (w : Int) (h : Int) p = code at hdec g3 ⊢
 generalize flagN t o4 k = fl at f1 f2 f3 f4 ⊢
 have hl : (begL w h x y op ++ [fl] ++ [a + 8] ++ [-b] ++ code : List Int).length = (begL w h x y op).length + 3 + code.length := by simp only [List.length_append, List.length_singleton]
 have hA := Has.all (begL w h x y op ++ [fl] ++ [a + 8] ++ [-b] ++ code)
 obtain ⟨hA, k5⟩ := hA.app
 obtain ⟨hA, k4⟩ := hA.app
 obtain ⟨hA, k3⟩ := hA.app
 obtain ⟨k1, k2⟩ := hA.app
 simp only [Nat.zero_add, List.length_append, List.length_singleton] at k2 k3 k4
 have hrest : cutL (begL w h x y op ++ [fl] ++ [a + 8] ++ [-b] ++ code) ((begL w h x y op).length + 1 + 1 + 1) (begL w h x y op ++ [fl] ++ [a + 8] ++ [-b] ++ code).length = code := by
  unfold cutL
  rw [List.take_of_length_le (Nat.le_refl _)]
  exact List.drop_left' (by simp)
 generalize hD : (begL w h x y op ++ [fl] ++ [a + 8] ++ [-b] ++ code : List Int) = D at k1 k2 k3 k4 hl hrest ⊢
 have hDl : D.length ≤ 100000000 := by omega
 rw [page_builder_add_eq, orderP_ok hg (by decide)]
 simp only [Option.bind_some, decide_true, Bool.not_true, Bool.false_eq_true, if_false, show ¬ ((4 : Int) = 0) by decide, show ¬ ((4 : Int) = 1) by decide, show ¬ ((4 : Int) = 2) by decide, show ¬ ((4 : Int) = 3) by decide, decide_false, if_true]
 rw [page_builder_generic_eq, begin_read hs hx hy hop k1 hDl]
 simp only [Option.bind_some]
 rw [cbyte_is (m := 15) (n := fl) (by omega) k2 hDl]
 simp only [Option.bind_some, f2, f3, f4]
 rw [page_cursor_adaptive_eq, cbyte_is (m := 16) (n := a + 8) (by omega) k3 hDl]
 simp only [Option.bind_some]
 rw [if_pos (by decide), w64 (n := a + 8 - 8) (by omega), show a + 8 - 8 = a by omega, cbyte_is (m := 8) (n := -b) (by omega) k4 hDl]
 simp only [Option.bind_some]
 rw [if_pos (by decide), w64 (n := 0 - -b) (by omega), show 0 - -b = b by omega, genValid_is, decide_eq_true ho]
 simp only [Option.bind_some, check_ok, List.length_nil, show (((0 : Nat) : Int) = 0) from rfl, decide_true, Bool.not_true, Bool.false_eq_true, if_false]
 have hrs : page_cursor_rest D (((begL w h x y op).length + 1 + 1 + 1 : Nat) : Int) 0 = some (code, D, (((begL w h x y op).length + 1 + 1 + 1 : Nat) : Int), 0) := by
  rw [page_cursor_rest_eq, if_pos (by omega)]
  simp only [Int.toNat_natCast]
  rw [hrest]
 rw [hrs]
 simp only [Option.bind_some]
 rw [hdec]
 simp only [Option.bind_some, decide_true, check_ok, if_true]
 rw [page_builder_draw_eq]
 simp only [Bool.false_eq_true, if_false]
 rw [hr]
 rfl
theorem add_end {n g : Int} (hg : 0 < g) {W H : Int} {q : List Int} {st ht : Int} : page_builder_add n 8 g [] [true] [] g W H q true false st ht = some (0, g, W, H, q, true, true, st, ht) := by
 rw [page_builder_add_eq, orderP_ok hg (by decide)]
 simp only [Option.bind_some, decide_true, Bool.not_true, Bool.false_eq_true, if_false, show ¬ ((8 : Int) = 0) by decide, show ¬ ((8 : Int) = 1) by decide, show ¬ ((8 : Int) = 2) by decide, show ¬ ((8 : Int) = 3) by decide, show ¬ ((8 : Int) = 4) by decide, show ¬ ((8 : Int) = 5) by decide, show ¬ ((8 : Int) = 10) by decide, show ¬ ((8 : Int) = 6) by decide, show ¬ ((8 : Int) = 7) by decide, decide_false, if_true]
 rw [page_builder_none_eq]
 have : page_cursor_end [] 0 0 = some ([], 0, 0) := end_ok (b := [])
 rw [this]
 simp only [Option.bind_some, List.length_nil, show (((0 : Nat) : Int) = 0) from rfl, decide_true, check_ok]
theorem info_len {W H : Nat} {c : Int} : (sizeL W ++ sizeL (H + 1) ++ [c]).length ≤ 20000 := by
 have l1 := (sizeL_len W).2
 have l2 := (sizeL_len (H + 1)).2
 simp only [List.length_append, List.length_singleton]; omega
theorem fine3 {k1 k2 : Int} {d0 d1 d2 : List Int} (e1 : (0 ≤ k1 ∧ k1 ≤ 15) ∧ k1 ≠ 7) (e2 : (0 ≤ k2 ∧ k2 ≤ 15) ∧ k2 ≠ 7) (h0 : d0.length ≤ 20000) (h1 : d1.length ≤ 20000) (h2 : d2.length ≤ 20000) : FineSegs [sgp 0 6 1 d0, sgp 1 k1 1 d1, sgp 2 k2 1 d2] := by
 refine ⟨by simp, fun i s hs => ?_⟩
 match i, hs with
 | 0, hs => simp at hs; subst hs; exact ⟨6, 1, d0, rfl, by decide, by decide, h0, by decide⟩
 | 1, hs => simp at hs; subst hs; exact ⟨k1, 1, d1, rfl, e1.1, by decide, h1, e1.2⟩
 | 2, hs => simp at hs; subst hs; exact ⟨k2, 1, d2, rfl, e2.1, by decide, h2, e2.2⟩
 | i + 3, hs => simp at hs
theorem fine2 {k1 : Int} {d0 d1 : List Int} (e1 : (0 ≤ k1 ∧ k1 ≤ 15) ∧ k1 ≠ 7) (h0 : d0.length ≤ 20000) (h1 : d1.length ≤ 20000) : FineSegs [sgp 0 6 1 d0, sgp 1 k1 1 d1] := by
 refine ⟨by simp, fun i s hs => ?_⟩
 match i, hs with
 | 0, hs => simp at hs; subst hs; exact ⟨6, 1, d0, rfl, by decide, by decide, h0, by decide⟩
 | 1, hs => simp at hs; subst hs; exact ⟨k1, 1, d1, rfl, e1.1, by decide, h1, e1.2⟩
 | i + 2, hs => simp at hs
theorem dec_end {l : List Segment} {pg : Int} {n : Nat} (hn : l.length = n) {o1 o2 g W H st ht : Int} {q o3 : List Int} {b e : Bool} :
  loop (page_Decode_loop10 l pg) ((n : Int), o1, o2, g, W, H, q, b, e, st, ht, o3) = some (.inl (o1, o2, g, W, H, q, b, e, st, ht, o3)) := by
 refine loop_done ?_
 unfold page_Decode_loop10
 simp only [iteD]
 rw [if_neg (by omega)]
theorem shows_gen {W H : Nat} {c : Int} (hc : c = 0 ∨ c = 1) {o4 : Bool} {t a b k : Int} (ho : OptOk t a b k) {p : List Int} (hb : Bmp (W : Int) (H : Int) p) (hp : p.length ≤ 800) :
  page_Decode [sgp 0 6 1 (sizeL W ++ sizeL (H + 1) ++ [c]), sgp 1 4 1 (genD o4 t a b k W H 0 0 0 p), sgp 2 8 1 []] 1 = some ((W : Int), (H : Int), p, 0, 0) := by
 obtain ⟨h0, h1, h2, h3, h4, h5, h6⟩ := id hb
 have hs : sidesB (W : Int) (H : Int) = true := sidesB_iff.2 ⟨h0, h1, h2, h3, h4⟩
 obtain ⟨g1, g2, g3⟩ := genC_ok (o4 := o4) ho hb
 simp only [Int.toNat_natCast] at g3
 have hwh : W * H ≤ 800 := by
  have : ((W * H : Nat) : Int) ≤ 800 := by rw [Int.natCast_mul, ← h5]; omega
  omega
 have q4 : H * (1 + W) = H + W * H := by rw [Nat.mul_add, Nat.mul_one, Nat.mul_comm]
 have hD : (genD o4 t a b k W H 0 0 0 p).length ≤ 20000 := by
  have lb : (begL W H 0 0 0).length ≤ 9 := begL_len
  unfold genD
  simp only [List.length_append, List.length_singleton]
  omega
 have hI : (sizeL W ++ sizeL (H + 1) ++ [c]).length ≤ 20000 := info_len
 have a0 := addP_info (n := ((0 : Nat) : Int)) (g := 1) (by decide) hc hs (st := -1) (ht := 0)
 have a1 := add_gen (n := ((1 : Nat) : Int)) (g := 1) (by decide) (o4 := o4) ho hb (x := 0) (y := 0) (op := 0) (by decide) (by decide) (by decide) (draw_all (blankP_bmp hc hs) hb) (st := -1) (ht := 0)
 have a2 := add_end (n := ((2 : Nat) : Int)) (g := 1) (by decide) (W := (W : Int)) (H := (H : Int)) (q := p) (st := -1) (ht := 0)
 generalize genD o4 t a b k W H 0 0 0 p = D at a1 hD ⊢
 generalize sizeL W ++ sizeL (H + 1) ++ [c] = I at a0 hI ⊢
 have hf := fine3 (k1 := 4) (k2 := 8) (d0 := I) (d1 := D) (d2 := []) (by decide) (by decide) hI hD (by simp)
 obtain ⟨j, hj, hj0⟩ := containsP_ok (pg := 1) hf 0 0 (sgp 0 6 1 I) rfl rfl (fun j h1 h2 => by omega)
 have st0 := add_step (l := [sgp 0 6 1 I, sgp 1 4 1 D, sgp 2 8 1 []]) (i := 0) (o1 := 0) (o2 := 0) (o3 := []) rfl hf.1 a0
 have st1 := add_step (l := [sgp 0 6 1 I, sgp 1 4 1 D, sgp 2 8 1 []]) (i := 1) (o1 := 0) (o2 := 0) (o3 := []) rfl hf.1 a1
 have st2 := add_step (l := [sgp 0 6 1 I, sgp 1 4 1 D, sgp 2 8 1 []]) (i := 2) (o1 := 0) (o2 := 0) (o3 := []) rfl hf.1 a2
 exact decodeP (by decide) (by decide) hf hj hj0 ((loop_step st0).trans ((loop_step st1).trans ((loop_step st2).trans (dec_end rfl))))
theorem shows_runs {W H : Nat} {c : Int} (hc : c = 0 ∨ c = 1) {two : Bool} {p code : List Int} {used : Int} (hb : Bmp (W : Int) (H : Int) p) (hr : readsTo two code (W : Int) (H : Int) p used) (hu : 0 ≤ used) (hu2 : (used + 7) / 8 = (code.length : Int)) (hcl : code.length ≤ 19900) :
  page_Decode [sgp 0 6 1 (sizeL W ++ sizeL (H + 1) ++ [c]), sgp 1 10 1 (begL W H 0 0 0 ++ [if two = true then 1 else 0] ++ code)] 1 = some ((W : Int), (H : Int), p, 0, 0) := by
 obtain ⟨h0, h1, h2, h3, h4, h5, h6⟩ := id hb
 have hs : sidesB (W : Int) (H : Int) = true := sidesB_iff.2 ⟨h0, h1, h2, h3, h4⟩
 have hD : (begL W H 0 0 0 ++ [if two = true then 1 else 0] ++ code).length ≤ 20000 := by
  have lb : (begL W H 0 0 0).length ≤ 9 := begL_len
  simp only [List.length_append, List.length_singleton]
  omega
 have hI : (sizeL W ++ sizeL (H + 1) ++ [c]).length ≤ 20000 := info_len
 have a0 := addP_info (n := ((0 : Nat) : Int)) (g := 1) (by decide) hc hs (st := -1) (ht := 0)
 have a1 := addP_runs (n := ((1 : Nat) : Int)) (g := 1) (by decide) (two := two) hs (x := 0) (op := 0) (by decide) (by decide) hr hu hu2 (by omega) (draw_all (blankP_bmp hc hs) hb) (st := -1) (ht := 0)
 generalize begL W H 0 0 0 ++ [if two = true then 1 else 0] ++ code = D at a1 hD ⊢
 generalize sizeL W ++ sizeL (H + 1) ++ [c] = I at a0 hI ⊢
 have hf := fine2 (k1 := 10) (d0 := I) (d1 := D) (by decide) hI hD
 obtain ⟨j, hj, hj0⟩ := containsP_ok (pg := 1) hf 0 0 (sgp 0 6 1 I) rfl rfl (fun j h1 h2 => by omega)
 have st0 := add_step (l := [sgp 0 6 1 I, sgp 1 10 1 D]) (i := 0) (o1 := 0) (o2 := 0) (o3 := []) rfl hf.1 a0
 have st1 := add_step (l := [sgp 0 6 1 I, sgp 1 10 1 D]) (i := 1) (o1 := 0) (o2 := 0) (o3 := []) rfl hf.1 a1
 exact decodeP (by decide) (by decide) hf hj hj0 ((loop_step st0).trans ((loop_step st1).trans (dec_end rfl)))
theorem tmod2 (n : Int) : (IntKind.i64.wrap (n.tmod 2 + 2)).tmod 2 = 0 ∨ (IntKind.i64.wrap (n.tmod 2 + 2)).tmod 2 = 1 := by
 have h : -1 ≤ n.tmod 2 ∧ n.tmod 2 ≤ 1 := by
  by_cases h0 : 0 ≤ n
  ·rw [tmod_pos h0]; omega
  ·have : n.tmod 2 = -((-n).tmod 2) := by rw [Int.neg_tmod, Int.neg_neg]
   rw [this, tmod_pos (by omega)]; omega
 rw [w64 (by omega), tmod_pos (by omega)]
 omega
theorem pageShows_true (a1 a2 : Int) (a3 : List Int) (a4 a5 a6 : Int) (a7 : Bool) (a8 : Int) (a9 : Bool) (a10 : Int) (hg : GoodP E (.agg [.int .i64 a1, .int .i64 a2, .ints .u8 a3, .int .i64 a4, .int .i64 a5, .int .i64 a6, .bool a7, .int .i64 a8, .bool a9, .int .i64 a10])) :
  law13_PageShows a1 a2 a3 a4 a5 a6 a7 a8 a9 a10 = some true := by
 obtain ⟨_, _, g3, _⟩ := hg
 obtain ⟨gp, gl⟩ := good_u8 g3
 rw [law13_PageShows_eq, Valid05_is gl]
 simp only [Option.bind_some, iteD, sane13]
 by_cases hv : bmpB a1 a2 a3 = true
 ·have hb := bmpB_of gp hv
  rw [hv]
  simp only [Bool.not_true, Bool.false_eq_true, if_false]
  by_cases c1 : ((a3.length : Nat) : Int) > 800
  ·rw [if_pos c1]; rfl
  rw [if_neg c1, refValid_is]
  simp only [Option.bind_some]
  by_cases ho : OptOk a4 a5 a6 a8
  ·obtain ⟨b0, b1, b2, b3, b4, b5, b6⟩ := id hb
   obtain ⟨W, rfl⟩ : ∃ W : Nat, a1 = (W : Int) := ⟨a1.toNat, by omega⟩
   obtain ⟨H, rfl⟩ : ∃ H : Nat, a2 = (H : Int) := ⟨a2.toNat, by omega⟩
   have hs : sidesB (W : Int) (H : Int) = true := sidesB_iff.2 ⟨b0, b1, b2, b3, b4⟩
   have hc := tmod2 a10
   generalize (IntKind.i64.wrap (a10.tmod 2 + 2)).tmod 2 = c at hc ⊢
   obtain ⟨code, used, r1, r2, r3, r4, r5⟩ := runsP_written (x := 0) (op := 0) hb (by omega) (by decide) (by decide) a9
   simp only [ho, decide_true, Bool.not_true, Bool.false_eq_true, if_false]
   rw [infoP_written hc hs]
   simp only [Option.bind_some]
   rw [gen_written ho hb (by decide) (by decide) (by decide), r1]
   simp only [Option.bind_some, decide_true, Bool.not_true, Bool.false_eq_true, if_false]
   rw [sgp_is, sgp_is, sgp_is]
   simp only [Option.bind_some]
   have d1 := shows_gen hc (o4 := a7) ho hb (by omega)
   unfold sgp at d1
   rw [d1]
   simp only [Option.bind_some]
   rw [sgp_is]
   simp only [Option.bind_some]
   have d2 := shows_runs hc hb r2 r3 r4 r5
   unfold sgp at d2
   rw [d2]
   simp only [Option.bind_some, if_true, ref05_Same_eq, decide_true]
  ·simp only [ho, decide_false, Bool.not_false, if_true]
 ·have hv' : bmpB a1 a2 a3 = false := by simpa using hv
  rw [hv']
  rfl
end Go.Proofs.YtgffdmgidnnedaaGreat.P
