/- Runs of lines in one dimension, and bits that are packed: the program against its reference. -/
import Derived.Test.YtkccnhkhjncpkaaGreatPureRun
namespace Go.Proofs.YtkccnhkhjncpkaaGreat.P
open Go Go.Proofs.YtkccnhkhjncpkaaGreat.V
set_option linter.unusedVariables false
set_option linter.unusedSimpArgs false

/-! ### The runs of a row -/
theorem run_loops {p : List Int} (hl : p.length ≤ 200) {c at_ : Int} (h0 : 0 ≤ at_ ∧ at_ ≤ (p.length : Int)) :
    Both (loop (runs_row_loop6 p c) at_) (loop (ref06_Row_loop6 p c at_) 0) (fun a n => a = at_ + n ∧ 0 ≤ n ∧ a ≤ (p.length : Int) ∧ (n = 0 → at_ < (p.length : Int) → rd p at_ ≠ c)) := by
  refine Both.loop (fun a n => a = at_ + n ∧ 0 ≤ n ∧ a ≤ (p.length : Int)) _ (fun a => ((p.length : Int) - a).toNat) ?_ _ _ ⟨by omega, by omega, by omega⟩
  rintro a n ⟨rfl, hn, ha⟩
  unfold runs_row_loop6 ref06_Row_loop6
  rw [w64 (n := at_ + n) (by omega)]
  simp only [iteD]
  by_cases hlt : at_ + n < (p.length : Int)
  · have hin : 0 ≤ at_ + n := by omega
    by_cases hc : rd p (at_ + n) = c
    · simp only [hlt, hin, hc, and_self, if_true]
      rw [w64 (n := at_ + n + 1) (by omega), w64 (n := n + 1) (by omega)]
      exact .mk ⟨⟨by omega, by omega, by omega⟩, by omega⟩
    · simp only [hlt, hin, hc, and_self, if_true, if_false]
      exact .mk ⟨rfl, hn, ha, fun e _ => by subst e; rwa [Int.add_zero] at hc⟩
  · rw [if_neg hlt, if_neg hlt]
    exact .mk ⟨rfl, hn, ha, fun e q => by omega⟩
def rowM (p : List Int) (c at_ : Int) : Nat := 2 * ((p.length : Int) - at_).toNat + (if rd p at_ = c then 0 else 1)
theorem row_is {p : List Int} (hl : p.length ≤ 200) (hp : ∀ x ∈ p, x = 0 ∨ x = 1) : ∃ q, runs_row p = some q ∧ ref06_Row p = some q ∧ q.length ≤ 401 ∧ ∀ n ∈ q, 0 ≤ n ∧ n ≤ 200 := by
  have hb : Both (loop (runs_row_loop4 p) (0, 0, [])) (loop (ref06_Row_loop4 p) (0, 0, [])) (fun q r => q = r ∧ q.length ≤ 401 ∧ ∀ n ∈ q, 0 ≤ n ∧ n ≤ 200) := by
    refine Both.loop (fun s r => s = r ∧ (s.1 = 0 ∨ s.1 = 1) ∧ 0 ≤ s.2.1 ∧ s.2.1 ≤ (p.length : Int) ∧ s.2.2.length + rowM p s.1 s.2.1 ≤ 2 * p.length + 1 ∧ ∀ n ∈ s.2.2, 0 ≤ n ∧ n ≤ 200) _ (fun s => rowM p s.1 s.2.1) ?_ _ _
      ⟨rfl, .inl rfl, by decide, by show (0 : Int) ≤ _; omega, by show ([] : List Int).length + rowM p 0 0 ≤ _; unfold rowM; simp only [List.length_nil]; split <;> omega, by simp⟩
    rintro ⟨c, at_, out⟩ _ ⟨rfl, hc, h0, h1, hm, hq⟩
    simp only at hc h0 h1 hm hq
    unfold runs_row_loop4 ref06_Row_loop4
    simp only [iteD]
    by_cases hlt : at_ < (p.length : Int)
    · rw [if_pos hlt, if_pos hlt]
      obtain ⟨a, n, e1, e2, rfl, hn, ha, hz⟩ := run_loops hl (c := c) ⟨h0, h1⟩
      have hM : 1 ≤ rowM p c at_ := by unfold rowM; split <;> omega
      rw [e1, e2]
      simp only [Option.bind_some, List.length_singleton]
      rw [w64 (n := at_ + n - at_) (by omega), w64 (n := at_ + n) (by omega), show at_ + n - at_ = n by omega, if_pos (by omega), w8]
      have hc' : (1 - c) % 256 = 1 - c := by omega
      rw [hc']
      have hdec : rowM p (1 - c) (at_ + n) < rowM p c at_ := by
        unfold rowM
        by_cases hn0 : n = 0
        · subst hn0
          have hne := hz rfl hlt
          have hx := hp _ (rd_mem h0 hlt)
          rw [Int.add_zero, if_neg hne, if_pos (by omega)]
          omega
        · split <;> split <;> omega
      refine .mk ⟨⟨rfl, by show 1 - c = 0 ∨ 1 - c = 1; omega, by show 0 ≤ at_ + n; omega, ha, ?_, ?_⟩, hdec⟩
      · show (out ++ [n]).length + rowM p (1 - c) (at_ + n) ≤ _
        rw [List.length_append, List.length_singleton]; omega
      · intro m hm
        rcases List.mem_append.1 hm with hm | hm
        · exact hq m hm
        · rw [List.mem_singleton] at hm; omega
    · rw [if_neg hlt, if_neg hlt]
      exact .mk ⟨rfl, by omega, hq⟩
  obtain ⟨q, r, e1, e2, rfl, h1, h2⟩ := hb
  refine ⟨q, ?_, ?_, h1, h2⟩
  · rw [runs_row_eq, e1]; rfl
  · rw [ref06_Row_eq, e2]; rfl

/-! ### Rows -/
def rowL (w : Int) (p : List Int) (y : Nat) : List Int := cutL p ((y : Int) * w).toNat (((y : Int) + 1) * w).toNat
theorem row_idx {w h : Int} {y : Nat} (hw : 0 ≤ w) (hy : (y : Int) < h) : 0 ≤ (y : Int) * w ∧ (y : Int) * w ≤ ((y : Int) + 1) * w ∧ ((y : Int) + 1) * w ≤ w * h ∧ ((y : Int) + 1) * w = (y : Int) * w + w := by
  have b1 : 0 ≤ (y : Int) * w := Int.mul_nonneg (by omega) hw
  have b2 : ((y : Int) + 1) * w ≤ h * w := Int.mul_le_mul_of_nonneg_right (by omega) hw
  have b3 : ((y : Int) + 1) * w = (y : Int) * w + w := by rw [Int.add_mul, Int.one_mul]
  rw [Int.mul_comm h w] at b2
  exact ⟨b1, by omega, b2, b3⟩
theorem rowL_len {w h : Int} {p : List Int} (hb : Bmp w h p) {y : Nat} (hy : (y : Int) < h) : ((rowL w p y).length : Int) = w ∧ ∀ x ∈ rowL w p y, x = 0 ∨ x = 1 := by
  have hw := hb.1
  have hl := hb.2.2.2.2.2.1
  obtain ⟨b1, b2, b3, b4⟩ := row_idx (h := h) hw hy
  constructor
  · unfold rowL cutL
    rw [List.length_drop, List.length_take]
    omega
  · intro x hx
    unfold rowL cutL at hx
    exact hb.2.2.2.2.2.2 x (List.mem_of_mem_take (List.mem_of_mem_drop hx))
theorem RowOf_is {w h : Int} {p : List Int} (hb : Bmp w h p) {y : Nat} (hy : (y : Int) < h) : ref06_RowOf w h p (y : Int) = some (rowL w p y) := by
  have hw := hb.1
  have hh2 := hb.2.2.2.1
  have hwh := hb.2.2.2.2.1
  have hl := hb.2.2.2.2.2.1
  obtain ⟨b1, b2, b3, b4⟩ := row_idx (h := h) hw hy
  rw [ref06_RowOf_eq]
  simp only [iteD]
  have hlen := (rowL_len hb hy).1
  have e : cutL p ((y : Int) * w).toNat (((y : Int) + 1) * w).toNat = rowL w p y := rfl
  rw [if_neg (by omega), w64 (n := (y : Int) * w) (by omega), w64 (n := (y : Int) + 1) (by omega), w64 (n := ((y : Int) + 1) * w) (by omega), if_pos (by omega), if_pos (by omega), e, if_pos (by simp; omega)]
  rfl
theorem lines_is {w h : Int} {p : List Int} (hb : Bmp w h p) : runs_lines w h p = some ((List.range h.toNat).map (rowL w p)) := by
  have hw := hb.1
  have hh2 := hb.2.2.2.1
  have hwh := hb.2.2.2.2.1
  have hl := hb.2.2.2.2.2.1
  rw [runs_lines_eq, runs_lines_loop3_over w h p (by rw [List.length_range]; omega) []]
  have := overL_inv (f := runs_lines_loop3_step w p) (fin := fun s => some s) (fun n => (List.range n).map (rowL w p)) (List.range h.toNat) 0 (fun k x hk => ?_)
  · rw [List.length_range, Nat.zero_add] at this
    exact (by rw [show ([] : List (List Int)) = (List.range 0).map (rowL w p) from rfl, this]; rfl)
  · have hk' := lt_len_of_get hk
    rw [List.length_range] at hk'
    obtain ⟨b1, b2, b3, b4⟩ := row_idx (h := h) (y := k) hw (by omega)
    unfold runs_lines_loop3_step
    simp only [Nat.zero_add]
    have e : cutL p ((k : Int) * w).toNat (((k : Int) + 1) * w).toNat = rowL w p k := rfl
    rw [w64 (n := (k : Int) * w) (by omega), w64 (n := (k : Int) + 1) (by omega), w64 (n := ((k : Int) + 1) * w) (by omega), if_pos (by omega), if_pos (by omega), e, if_pos (by simp; omega), List.range_succ, List.map_append]
    rfl

/-! ### Bits are packed -/
theorem or_add : ∀ (a : Fin 256) (s : Fin 8) (b : Fin 2), (a : Nat) % 2 ^ ((s : Nat) + 1) = 0 → ior .u8 (((a : Nat) : Nat) : Int) (ishl .u8 (((b : Nat) : Nat) : Int) ((s : Nat) : Int)) = IntKind.u8.wrap ((((a : Nat) : Nat) : Int) + ishl .u8 (((b : Nat) : Nat) : Int) ((s : Nat) : Int)) ∧
    IntKind.u8.wrap ((((a : Nat) : Nat) : Int) + ishl .u8 (((b : Nat) : Nat) : Int) ((s : Nat) : Int)) = (((a : Nat) + (b : Nat) * 2 ^ (s : Nat) : Nat) : Int) ∧ (a : Nat) + (b : Nat) * 2 ^ (s : Nat) < 256 := by decide +kernel
/-- what stands in the bytes when v bits are packed -/
def PackAt (v : Nat) (b : List Int) : Prop := ∀ (j : Nat) x, b[j]? = some x → ∃ n : Nat, x = (n : Int) ∧ n < 256 ∧ (v / 8 < j → n = 0) ∧ (v / 8 = j → n % 2 ^ (8 - v % 8) = 0)
theorem pack_is {l : List Int} (hb : allBit l = true) (hl : l.length ≤ 1000000000) : ∃ c, bits_Pack l = some (c, 0) ∧ ref04_Packed l = some c ∧ c.length = (l.length + 7) / 8 := by
  have hbit := allBit_mem hb
  rw [bits_Pack_eq, ref04_Packed_eq]
  simp only
  rw [w64 (n := ((l.length : Nat) : Int) + 7) (by omega), tdiv_pos (by omega), w64 (n := (((l.length : Nat) : Int) + 7) / 8) (by omega), if_pos (by omega), if_pos (by omega)]
  have hlen0 : (List.replicate ((((l.length : Nat) : Int) + 7) / 8).toNat (0 : Int)).length = (l.length + 7) / 8 := by rw [List.length_replicate]; omega
  have hB : Both (loop (bits_Pack_loop3 l) (0, List.replicate ((((l.length : Nat) : Int) + 7) / 8).toNat 0)) (loop (ref04_Packed_loop3 l) (0, List.replicate ((((l.length : Nat) : Int) + 7) / 8).toNat 0)) (fun q r => q = Sum.inl r ∧ r.length = (l.length + 7) / 8) := by
    refine Both.loop (fun s r => s = r ∧ ∃ v : Nat, s.1 = (v : Int) ∧ v ≤ l.length ∧ s.2.length = (l.length + 7) / 8 ∧ PackAt v s.2) _ (fun s => ((l.length : Int) - s.1).toNat) ?_ _ _ ⟨rfl, 0, rfl, by omega, hlen0, fun j x hj => ⟨0, ?_, by decide, fun _ => rfl, fun _ => by simp⟩⟩
    · rintro ⟨_, b⟩ _ ⟨rfl, v, rfl, hv, hlb, hP⟩
      simp only at hlb hP
      unfold bits_Pack_loop3 ref04_Packed_loop3
      simp only [iteD]
      by_cases hlt : (v : Int) < (l.length : Int)
      · have hx := hbit _ (rd_mem (show (0 : Int) ≤ (v : Int) by omega) hlt)
        have hv0 : (0 : Int) ≤ (v : Int) := by omega
        have hnb : ¬ rd l (v : Int) > 1 := by omega
        have e1 : IntKind.i64.wrap ((v : Int).tdiv 8) = (v : Int) / 8 := by rw [tdiv_pos (by omega), w64 (by omega)]
        have e2 : IntKind.i64.wrap (7 - (v : Int).tmod 8) = (((7 - v % 8 : Nat) : Nat) : Int) := by rw [tmod_pos (by omega), w64 (by omega)]; omega
        have i1 : 0 ≤ (v : Int) / 8 := by omega
        have i2 : (v : Int) / 8 < (b.length : Int) := by omega
        have n11 : ¬ (((7 - v % 8 : Nat) : Nat) : Int) < 0 := by omega
        simp only [hlt, hv0, hnb, e1, e2, i1, i2, n11, and_self, if_true, if_false]
        have hg : b[v / 8]? = some (rd b ((v : Int) / 8)) := by
          have := rd_get (xs := b) (i := (v : Int) / 8) (by omega) (by omega)
          rwa [show ((v : Int) / 8).toNat = v / 8 by omega] at this
        obtain ⟨n, hn, hn2, hn3, hn4⟩ := hP _ _ hg
        obtain ⟨x, hx1, hx2⟩ : ∃ x : Nat, rd l (v : Int) = (x : Int) ∧ x < 2 := by
          rcases hx with q | q
          · exact ⟨0, q, by decide⟩
          · exact ⟨1, q, by decide⟩
        have hz := hn4 rfl
        obtain ⟨o1, o2, o3⟩ := or_add ⟨n, hn2⟩ ⟨7 - v % 8, by omega⟩ ⟨x, hx2⟩ (by show n % 2 ^ (7 - v % 8 + 1) = 0; rw [show 7 - v % 8 + 1 = 8 - v % 8 by omega]; exact hz)
        simp only at o1 o2 o3
        rw [hn, hx1, o1, o2, w64 (n := (v : Int) + 1) (by omega)]
        refine .mk ⟨⟨rfl, v + 1, by show (v : Int) + 1 = ((v + 1 : Nat) : Int); omega, by omega, by simpa using hlb, ?_⟩, by show ((l.length : Int) - ((v : Int) + 1)).toNat < ((l.length : Int) - (v : Int)).toNat; omega⟩
        intro j y hj
        rw [List.getElem?_set, show ((v : Int) / 8).toNat = v / 8 by omega] at hj
        by_cases he : v / 8 = j
        · rw [if_pos he] at hj
          split at hj
          · cases hj
            refine ⟨_, rfl, o3, fun q => by omega, fun q => ?_⟩
            -- the low bits
            have h8 : v % 8 < 7 := by omega
            rw [show (v + 1) % 8 = v % 8 + 1 by omega, show 8 - (v % 8 + 1) = 7 - v % 8 by omega]
            have hz' : n % 2 ^ (7 - v % 8 + 1) = 0 := by rw [show 7 - v % 8 + 1 = 8 - v % 8 by omega]; exact hz
            rw [Nat.add_mod, Nat.mul_mod_left, Nat.add_zero, Nat.mod_mod]
            exact Nat.mod_eq_zero_of_dvd (Nat.dvd_trans ⟨2, by rw [Nat.pow_succ]⟩ (Nat.dvd_of_mod_eq_zero hz'))
          · cases hj
        · rw [if_neg he] at hj
          obtain ⟨m, hm1, hm2, hm3, hm4⟩ := hP j y hj
          refine ⟨m, hm1, hm2, fun q => hm3 (by omega), fun q => ?_⟩
          rw [hm3 (by omega)]; simp
      · rw [if_neg hlt, if_neg hlt]
        exact .mk ⟨rfl, hlb⟩
    · rw [List.getElem?_replicate] at hj
      split at hj
      · cases hj; rfl
      · cases hj
  obtain ⟨q, r, e1, e2, rfl, hr⟩ := hB
  rw [e1, e2]
  exact ⟨r, rfl, rfl, hr⟩

/-! ### One dimension -/
theorem oneRow_is {q : List Int} (hq : ∀ n ∈ q, 0 ≤ n ∧ n ≤ 200) (hl : q.length ≤ 401) {out : List Int} (ho : out.length ≤ 900000000) (hb : allBit out = true) :
    ∃ r, loop (runs_One_loop8 q) (0, out) = some r ∧ loop (ref06_OneBits_loop6 q) (0, out) = some r ∧ r.length ≤ out.length + 60 * 401 ∧ allBit r = true := by
  have hB : Both (loop (runs_One_loop8 q) (0, out)) (loop (ref06_OneBits_loop6 q) (0, out)) (fun a b => a = b ∧ a.length ≤ out.length + 60 * 401 ∧ allBit a = true) := by
    refine Both.loop (fun s r => s = r ∧ ∃ v : Nat, s.1 = (v : Int) ∧ v ≤ q.length ∧ s.2.length ≤ out.length + 60 * v ∧ allBit s.2 = true) _ (fun s => ((q.length : Int) - s.1).toNat) ?_ _ _ ⟨rfl, 0, rfl, by omega, by simp, hb⟩
    rintro ⟨_, b⟩ _ ⟨rfl, v, rfl, hv, hlb, hab⟩
    simp only at hlb hab
    unfold runs_One_loop8 ref06_OneBits_loop6
    simp only [iteD]
    by_cases hlt : (v : Int) < (q.length : Int)
    · have hx := hq _ (rd_mem (show (0 : Int) ≤ (v : Int) by omega) hlt)
      rw [if_pos hlt, if_pos hlt, if_pos (by omega), if_pos (by omega), tmod_pos (by omega)]
      obtain ⟨l, l1, l2, l3, l4⟩ := runBits_is (c := (v : Int) % 2) hx.1 hx.2 (by omega)
      rw [l1, l2]
      simp only [Option.bind_some]
      rw [if_pos (by omega), w64 (n := (v : Int) + 1) (by omega)]
      exact .mk ⟨⟨rfl, v + 1, by show (v : Int) + 1 = ((v + 1 : Nat) : Int); omega, by omega, by show (b ++ l).length ≤ _; rw [List.length_append]; omega, allBit_app hab l4⟩, by show ((q.length : Int) - ((v : Int) + 1)).toNat < ((q.length : Int) - (v : Int)).toNat; omega⟩
    · rw [if_neg hlt, if_neg hlt]
      exact .mk ⟨rfl, by show b.length ≤ _; omega, hab⟩
  obtain ⟨a, b, e1, e2, rfl, h1, h2⟩ := hB
  exact ⟨a, e1, e2, h1, h2⟩
theorem one_is {w h : Int} {p : List Int} (hp : ∀ x ∈ p, 0 ≤ x) (hl : p.length ≤ 4611686018427387904) : ∃ c e, runs_One w h p = some (c, e) ∧ ref06_One w h p = some (c, e) ∧ c.length ≤ 1000000 := by
  rw [runs_One_eq, ref06_One_eq, bitmapValid_is hl, IsBitmap_is hl]
  simp only [Option.bind_some]
  by_cases hv : bmpB w h p = true
  · have hb := bmpB_of hp hv
    have hh2 := hb.2.2.2.1
    have hw2 := hb.2.2.1
    simp only [hv, Bool.not_true, Bool.false_eq_true, if_false]
    rw [lines_is hb, ref06_OneBits_eq]
    simp only [Option.bind_some]
    have hB : Both (loop (runs_One_loop5 ((List.range h.toNat).map (rowL w p))) (0, [])) (loop (ref06_OneBits_loop3 w h p) (0, [])) (fun a b => a = b ∧ a.length ≤ 4812000 ∧ allBit a = true) := by
      refine Both.loop (fun s r => s = r ∧ ∃ v : Nat, s.1 = (v : Int) ∧ v ≤ h.toNat ∧ s.2.length ≤ 24060 * v ∧ allBit s.2 = true) _ (fun s => (h - s.1).toNat) ?_ _ _ ⟨rfl, 0, rfl, by omega, by simp, rfl⟩
      rintro ⟨_, b⟩ _ ⟨rfl, v, rfl, hv, hlb, hab⟩
      simp only at hlb hab
      unfold runs_One_loop5 ref06_OneBits_loop3
      simp only [iteD, List.length_map, List.length_range]
      by_cases hlt : (v : Int) < h
      · have hg : ((List.range h.toNat).map (rowL w p))[(v : Int).toNat]? = some (rowL w p v) := by
          rw [Int.toNat_natCast, List.getElem?_map, List.getElem?_range (by omega)]; rfl
        rw [if_pos (by omega), if_pos hlt, if_pos (by omega), hg, RowOf_is hb hlt]
        simp only [Option.bind_some]
        obtain ⟨r1, r2⟩ := rowL_len hb hlt
        obtain ⟨q, q1, q2, q3, q4⟩ := row_is (p := rowL w p v) (by omega) r2
        rw [q1, q2]
        simp only [Option.bind_some]
        obtain ⟨r, s1, s2, s3, s4⟩ := oneRow_is q4 q3 (out := b) (by omega) hab
        rw [s1, s2]
        simp only [Option.bind_some]
        rw [w64 (n := (v : Int) + 1) (by omega)]
        exact .mk ⟨⟨rfl, v + 1, by show (v : Int) + 1 = ((v + 1 : Nat) : Int); omega, by omega, by show r.length ≤ _; omega, s4⟩, by show (h - ((v : Int) + 1)).toNat < (h - (v : Int)).toNat; omega⟩
      · rw [if_neg (by omega), if_neg hlt]
        exact .mk ⟨rfl, by show b.length ≤ _; omega, hab⟩
    obtain ⟨a, b, e1, e2, rfl, h1, h2⟩ := hB
    rw [e1, e2]
    simp only [Option.bind_some]
    obtain ⟨c, c1, c2, c3⟩ := pack_is h2 (by omega)
    rw [c1, c2]
    exact ⟨c, 0, rfl, rfl, by omega⟩
  · simp only [hv, Bool.not_false, if_true]
    exact ⟨[], 30, rfl, rfl, by simp⟩
end Go.Proofs.YtkccnhkhjncpkaaGreat.P
