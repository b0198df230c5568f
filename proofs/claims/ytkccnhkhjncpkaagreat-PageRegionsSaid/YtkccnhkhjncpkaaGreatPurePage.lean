/- Regions' Data: the program against its reference, and the law of regions. -/
import Derived.Test.YtkccnhkhjncpkaaGreatPureRun3
import Derived.Test.YtkccnhkhjncpkaaGreatRow
namespace Go.Proofs.YtkccnhkhjncpkaaGreat.P
open Go Go.Proofs.YtkccnhkhjncpkaaGreat.V
set_option linter.unusedVariables false
set_option linter.unusedSimpArgs false

/-! ### What is written -/
theorem signed_eq (n : Int) (hn : -9223372036854775808 ≤ n ∧ n ≤ 9223372036854775807) : bits_Signed n = ref01_Signed n := by
  rw [bits_Signed_eq, ref01_Signed_eq]
  simp only [size_eq]
  have e1 : ((if decide (n ≥ 0) = true then some (decide (n < 1073741824)) else some false) : Option Bool) = some (decide (0 ≤ n ∧ n < 1073741824)) := by
    simp only [iteD]
    split
    · refine some_dec ?_; simp only [decide_eq_true_eq]; omega
    · refine some_dec ?_; simp only [Bool.false_eq_true, false_iff]; omega
  have e2 : ((if decide (n < 0) = true then some (decide (n ≥ -1073741824)) else some false) : Option Bool) = some (decide (n < 0 ∧ -1073741824 ≤ n)) := by
    simp only [iteD]
    split
    · refine some_dec ?_; simp only [decide_eq_true_eq]; omega
    · refine some_dec ?_; simp only [Bool.false_eq_true, false_iff]; omega
  have e3 : ((if decide (n < -1073741824) = true then some true else some (decide (n ≥ 1073741824))) : Option Bool) = some (decide (n < -1073741824 ∨ 1073741824 ≤ n)) := by
    simp only [iteD]
    split
    · refine some_dec ?_; simp only [true_iff]; omega
    · refine some_dec ?_; simp only [decide_eq_true_eq]; omega
  rw [e1, e2, e3]
  simp only [Option.bind_some, iteD]
  by_cases h1 : 0 ≤ n ∧ n < 1073741824
  · rw [if_pos h1, if_neg (by omega), if_neg (by omega)]
  · by_cases h2 : n < 0 ∧ -1073741824 ≤ n
    · rw [if_neg h1, if_pos h2, if_neg (by omega), if_pos h2.1]
    · rw [if_neg h1, if_neg h2, if_pos (by omega)]
theorem signed_some (n : Int) : ∃ l e, ref01_Signed n = some (l, e) ∧ l.length ≤ 2147483650 := by
  rw [ref01_Signed_eq]
  have e3 : ((if decide (n < -1073741824) = true then some true else some (decide (n ≥ 1073741824))) : Option Bool) = some (decide (n < -1073741824 ∨ 1073741824 ≤ n)) := by
    simp only [iteD]
    split
    · refine some_dec ?_; simp only [true_iff]; omega
    · refine some_dec ?_; simp only [decide_eq_true_eq]; omega
  rw [e3]
  simp only [Option.bind_some, iteD]
  split
  · exact ⟨[], 2, rfl, by simp⟩
  · split
    · obtain ⟨l, e, h, hl, _⟩ := size_some (IntKind.i64.wrap (IntKind.i64.wrap (-2 * n) - 1))
      rw [h]; exact ⟨l, e, rfl, hl⟩
    · obtain ⟨l, e, h, hl, _⟩ := size_some (IntKind.i64.wrap (2 * n))
      rw [h]; exact ⟨l, e, rfl, hl⟩
theorem wsigned_over (l : List Int) (hl : l.length ≤ 1000) (hr : ∀ x ∈ l, -9223372036854775808 ≤ x ∧ x ≤ 9223372036854775807) (b : List Int) : loop (page_writer_signed_loop1 l) (0, b) =
    overL (fun _ x b => (ref01_Signed x).bind fun q => if (b.length + q.1.length) * 1 ≤ 140737488355328 then some (.inl (b ++ q.1)) else none) some 0 l b := by
  refine loop_over l (fun n b => ((n : Int), b)) _ _ (fun s => ?_) (fun i x s h => ?_) 0 b (by omega)
  · unfold page_writer_signed_loop1; simp
  · have hl := lt_len_of_get h
    unfold page_writer_signed_loop1
    simp only [iteD]
    rw [if_pos (by omega), if_pos ⟨by omega, by omega⟩, rd_nat h, signed_eq x (hr x (List.mem_of_getElem? h))]
    cases ref01_Signed x with
    | none => rfl
    | some q =>
      simp only [Option.bind_some]
      split
      · rw [w64 (by omega)]; rfl
      · rfl
theorem wsigned2 (x y : Int) {b s t : List Int} {e f : Int} (hx : -9223372036854775808 ≤ x ∧ x ≤ 9223372036854775807) (hy : -9223372036854775808 ≤ y ∧ y ≤ 9223372036854775807) (hs : ref01_Signed x = some (s, e)) (hl : s.length ≤ 2147483650) (ht : ref01_Signed y = some (t, f)) (hm : t.length ≤ 2147483650) (hb : b.length ≤ 50000000000) :
    page_writer_signed [x, y] b = some (b ++ s ++ t) := by
  rw [page_writer_signed_eq, wsigned_over _ (by simp) (by simp; exact ⟨hx, hy⟩)]
  simp only [overL, hs, ht, Option.bind_some]
  rw [if_pos (by omega)]
  simp only
  rw [if_pos (by simp; omega)]
  rfl
/-- lists one behind the other -/
theorem join_is : ∀ (l : List (List Int)) (b : List Int) (n : Nat), b.length + l.flatten.length ≤ 140737488355328 → overL (fun _ (x : List Int) (b : List Int) => if (b.length + x.length) * 1 ≤ 140737488355328 then (some (.inl (b ++ x)) : Option (List Int ⊕ List Int)) else none) some n l b = some (b ++ l.flatten)
  | [], b, n, _ => by simp [overL]
  | x :: l, b, n, h => by
    simp only [List.flatten_cons, List.length_append] at h
    rw [overL_next (s' := b ++ x) (by rw [if_pos (by omega)]), join_is l (b ++ x) (n + 1) (by rw [List.length_append]; omega)]
    simp
theorem join_all (l : List (List Int)) (hl : l.length ≤ 1000) (h : l.flatten.length ≤ 140737488355328) : ref13_join l = some l.flatten := by
  rw [ref13_join_eq, join_over _ hl, join_is l [] 0 (by simpa using h)]
  rfl
theorem byte_is : ∀ (l : List Int) (b : List Int) (n : Nat), b.length + l.length ≤ 140737488355328 → overL (fun _ (x : Int) (b : List Int) => if (b.length + 1) * 1 ≤ 140737488355328 then (some (.inl (b ++ [IntKind.u8.wrap x])) : Option (List Int ⊕ List Int)) else none) some n l b = some (b ++ l.map IntKind.u8.wrap)
  | [], b, n, _ => by simp [overL]
  | x :: l, b, n, h => by
    simp only [List.length_cons] at h
    rw [overL_next (s' := b ++ [IntKind.u8.wrap x]) (by rw [if_pos (by omega)]), byte_is l _ (n + 1) (by rw [List.length_append, List.length_singleton]; omega)]
    simp
theorem byte_all (l : List Int) (b : List Int) (hl : l.length ≤ 1000) (h : b.length ≤ 100000000000) : page_writer_byte l b = some (b ++ l.map IntKind.u8.wrap) := by
  rw [page_writer_byte_eq, byte_over _ hl, byte_is l b 0 (by omega)]; rfl

/-! ### Begins -/
def BeginOk (w h x y op : Int) : Prop := (0 ≤ w ∧ 0 ≤ h ∧ w ≤ 200 ∧ h ≤ 200 ∧ w * h ≤ 8192) ∧ -100000 ≤ x ∧ x ≤ 100000 ∧ -100000 ≤ y ∧ y ≤ 100000 ∧ 0 ≤ op ∧ op ≤ 4
instance (w h x y op : Int) : Decidable (BeginOk w h x y op) := by unfold BeginOk; infer_instance
theorem rightBegin_is (w h x y op : Int) (hid : Bool) : page_rightBegin w h x y op hid = some (decide (BeginOk w h x y op)) := by
  obtain ⟨a, b, c, e, h1, h2⟩ := new_err w h
  rw [page_rightBegin_eq, h1]
  rw [Sides_is] at h2
  have h3 : (e = 0) = (sidesB w h = true) := by have := Option.some.inj h2; rw [this, decide_eq_true_eq]
  simp only [Option.bind_some, iteD]
  rw [page_near_eq, page_near_eq]
  simp only [iteD]
  simp only [h3, sidesB_iff]
  by_cases hs : 0 ≤ w ∧ 0 ≤ h ∧ w ≤ 200 ∧ h ≤ 200 ∧ w * h ≤ 8192
  · rw [if_pos hs]
    by_cases g1 : x ≥ -100000
    · by_cases g2 : x ≤ 100000
      · by_cases g3 : y ≥ -100000
        · by_cases g4 : y ≤ 100000
          · simp only [g1, g2, g3, g4, if_true, decide_true, Option.bind_some]
            split
            · refine some_dec ?_; unfold BeginOk; simp only [decide_eq_true_eq]; exact ⟨fun q => ⟨hs, by omega, by omega, by omega, by omega, by omega, q⟩, fun q => q.2.2.2.2.2.2⟩
            · refine some_dec ?_; unfold BeginOk; simp only [Bool.false_eq_true, false_iff]; omega
          · simp only [g1, g2, g3, g4, if_true, decide_true, decide_false, Bool.false_eq_true, if_false, Option.bind_some]
            refine some_dec ?_; unfold BeginOk; simp only [Bool.false_eq_true, false_iff]; omega
        · simp only [g1, g2, g3, if_true, decide_true, Bool.false_eq_true, if_false, Option.bind_some]
          refine some_dec ?_; unfold BeginOk; simp only [Bool.false_eq_true, false_iff]; omega
      · simp only [g1, g2, if_true, decide_false, Bool.false_eq_true, if_false, Option.bind_some]
        refine some_dec ?_; unfold BeginOk; simp only [Bool.false_eq_true, false_iff]; omega
    · simp only [g1, Bool.false_eq_true, if_false, Option.bind_some]
      refine some_dec ?_; unfold BeginOk; simp only [Bool.false_eq_true, false_iff]; omega
  · rw [if_neg hs]
    refine some_dec ?_; unfold BeginOk; simp only [Bool.false_eq_true, false_iff]; exact fun q => hs q.1
theorem isBegin_is (w h x y op : Int) (hid : Bool) : ref13_isBegin w h x y op hid = some (decide (BeginOk w h x y op)) := by
  rw [ref13_isBegin_eq, Sides_is]
  simp only [Option.bind_some]
  have e1 : ((if (!sidesB w h) = true then some true else if decide (op < 0) = true then some true else some (decide (op > 4))) : Option Bool) = some (decide (¬ ((0 ≤ w ∧ 0 ≤ h ∧ w ≤ 200 ∧ h ≤ 200 ∧ w * h ≤ 8192) ∧ 0 ≤ op ∧ op ≤ 4))) := by
    simp only [iteD]
    by_cases hs : sidesB w h = true
    · rw [if_neg (by simp [hs])]
      rw [sidesB_iff] at hs
      split
      · refine some_dec ?_; simp only [true_iff]; omega
      · refine some_dec ?_; simp only [decide_eq_true_eq]; exact ⟨fun q r => by omega, fun q => by
          rcases Int.lt_or_le 4 op with r | r
          · exact r
          · exact absurd ⟨hs, by omega, r⟩ q⟩
    · rw [if_pos (by simp [hs])]
      rw [sidesB_iff] at hs
      refine some_dec ?_; simp only [true_iff]; exact fun q => hs q.1
  rw [e1]
  simp only [Option.bind_some, iteD]
  by_cases hq : ¬ ((0 ≤ w ∧ 0 ≤ h ∧ w ≤ 200 ∧ h ≤ 200 ∧ w * h ≤ 8192) ∧ 0 ≤ op ∧ op ≤ 4)
  · rw [if_pos hq]
    refine some_dec ?_; unfold BeginOk; simp only [Bool.false_eq_true, false_iff]; exact fun r => hq ⟨r.1, by omega, by omega⟩
  · rw [if_neg hq]
    have hq := Decidable.not_not.1 hq
    repeat' split
    all_goals
      refine some_dec ?_
      unfold BeginOk
      simp only [decide_eq_true_eq, Bool.false_eq_true, true_iff, false_iff]
      omega
/-- the bytes of a begin -/
theorem begin_is {w h x y op : Int} {hid : Bool} (hb : BeginOk w h x y op) : ∃ l, page_writer_begin w h x y op hid [] = some l ∧ ref13_begin w h x y op hid = some l ∧ l.length ≤ 10000000000 := by
  obtain ⟨_, x1, x2, y1, y2, o1, o2⟩ := hb
  obtain ⟨s, e1, hs1, hl1, _⟩ := size_some w
  obtain ⟨t, e2, hs2, hl2, _⟩ := size_some h
  obtain ⟨u, e3, hs3, hl3⟩ := signed_some x
  obtain ⟨v, e4, hs4, hl4⟩ := signed_some y
  rw [page_writer_begin_eq, writer2 w h hs1 hl1 hs2 hl2]
  simp only [Option.bind_some]
  rw [wsigned2 x y (by omega) (by omega) hs3 hl3 hs4 hl4 (by rw [List.length_append]; omega), page_flag_eq]
  rw [ref13_begin_eq, ref13_size_eq, ref13_size_eq, ref13_signed_eq, ref13_signed_eq, hs1, hs2, hs3, hs4, ref13_bit_eq]
  have ef : ((if hid = true then some 8 else some 0) : Option Int) = some (if hid = true then 8 else 0) := by split <;> rfl
  have eb : ((if hid = true then some 1 else some 0) : Option Int) = some (if hid = true then 1 else 0) := by split <;> rfl
  rw [ef, eb]
  simp only [Option.bind_some]
  have ew : IntKind.i64.wrap (op + IntKind.i64.wrap (8 * (if hid = true then 1 else 0))) = IntKind.i64.wrap (op + (if hid = true then 8 else 0)) := by
    split
    · rw [w64 (n := 8 * 1) (by omega)]; rfl
    · rw [w64 (n := 8 * 0) (by omega)]; rfl
  rw [ew, byte_all _ _ (by simp) (by simp; omega), join_all _ (by simp) (by simp; omega)]
  refine ⟨_, rfl, by simp, by simp; omega⟩
theorem isRegion_is (w h x y op : Int) (hid : Bool) (bw bh : Int) (bp : List Int) : ref13_isRegion w h x y op hid bw bh bp = some (decide (BeginOk w h x y op ∧ w = bw ∧ h = bh)) := by
  rw [ref13_isRegion_eq, isBegin_is]
  simp only [Option.bind_some, iteD]
  by_cases h1 : BeginOk w h x y op
  · rw [if_pos h1]
    by_cases h2 : w = bw
    · rw [if_pos h2]
      refine some_dec ?_; simp only [decide_eq_true_eq]; exact ⟨fun q => ⟨h1, h2, q⟩, fun q => q.2.2⟩
    · rw [if_neg h2]
      refine some_dec ?_; simp only [Bool.false_eq_true, false_iff]; exact fun q => h2 q.2.1
  · rw [if_neg h1]
    refine some_dec ?_; simp only [Bool.false_eq_true, false_iff]; exact fun q => h1 q.1
theorem noRegion_is (w h x y op : Int) (hid : Bool) (bw bh : Int) : ((page_rightBegin w h x y op hid).bind fun q15 => (if (!q15) = true then some true else if (!decide (w = bw)) = true then some true else some (!decide (h = bh)))) = some (!decide (BeginOk w h x y op ∧ w = bw ∧ h = bh)) := by
  rw [rightBegin_is]
  simp only [Option.bind_some]
  by_cases h1 : BeginOk w h x y op
  · by_cases h2 : w = bw
    · by_cases h3 : h = bh
      · have e1 := eq_true h1; have e2 := eq_true h2; have e3 := eq_true h3
        simp only [e1, e2, e3, and_self, decide_true, Bool.not_true, Bool.false_eq_true, if_false]
      · have e1 := eq_true h1; have e2 := eq_true h2; have e3 := eq_false h3
        simp only [e1, e2, e3, and_false, decide_true, decide_false, Bool.not_true, Bool.not_false, Bool.false_eq_true, if_false]
    · have e1 := eq_true h1; have e2 := eq_false h2
      simp only [e1, e2, false_and, and_false, decide_true, decide_false, Bool.not_true, Bool.not_false, Bool.false_eq_true, if_false, if_true]
  · have e1 := eq_false h1
    simp only [e1, false_and, decide_false, Bool.not_false, if_true]

/-! ### Regions -/
theorem flag_is (b : Bool) (n : Int) : page_flag b n = some (if b = true then n else 0) := by rw [page_flag_eq]; split <;> rfl
theorem bit_is (b : Bool) : ref13_bit b = some (if b = true then 1 else 0) := by rw [ref13_bit_eq]; split <;> rfl
theorem with_bad {c b : List Int} {e : Int} (he : e ≠ 0) : page_writer_with c e b = some ([], e) := by rw [page_writer_with_eq, if_pos (by simp [he])]
theorem with_ok {c b : List Int} (h : b.length + c.length ≤ 140737488355328) : page_writer_with c 0 b = some (b ++ c, 0) := by rw [page_writer_with_eq, if_neg (by simp), if_pos (by omega)]

theorem adaptive_is (t a b : Int) (o4 : Bool) (k : Int) : ref13_adaptive t a b o4 k = some [IntKind.u8.wrap (IntKind.i64.wrap (a + 8)), IntKind.u8.wrap (IntKind.i64.wrap (0 - b))] := by
  rw [ref13_adaptive_eq, if_pos (by decide), if_pos (by decide)]
theorem pgeneric_is {w h x y op t a b k bw bh : Int} {hid o4 : Bool} {p : List Int} (hp : ∀ x ∈ p, 0 ≤ x) (hl : p.length ≤ 4611686018427387904) :
    ∃ c e, page_Generic w h x y op hid t a b o4 k bw bh p = some (c, e) ∧ ref13_Generic w h x y op hid t a b o4 k bw bh p = some (c, e) := by
  rw [page_Generic_eq, ref13_Generic_eq, noRegion_is, isRegion_is]
  simp only [Option.bind_some]
  by_cases hr : BeginOk w h x y op ∧ w = bw ∧ h = bh
  · have hrt := eq_true hr
    simp only [hrt, decide_true, Bool.not_true, Bool.false_eq_true, if_false]
    obtain ⟨c, e, g1, g2, g3⟩ := genericEncode_is (t := t) (a := a) (b := b) (k := k) (o4 := o4) (w := bw) (h := bh) hp hl
    obtain ⟨l, l1, l2, l3⟩ := begin_is (hid := hid) hr.1
    rw [g1, g2, l1, l2, flag_is, bit_is]
    simp only [Option.bind_some]
    rw [if_pos (by decide), if_pos (by decide), byte_all _ _ (by simp) (by omega)]
    simp only [Option.bind_some]
    by_cases he : e = 0
    · subst he
      rw [with_ok (by simp; omega), adaptive_is]
      simp only [Option.bind_some, decide_true, Bool.not_true, Bool.false_eq_true, if_false]
      rw [join_all _ (by simp) (by simp; omega)]
      have ew : IntKind.i64.wrap (4 * (if o4 = true then 1 else 0)) = if o4 = true then 4 else 0 := by split <;> rfl
      rw [ew]
      exact ⟨_, _, rfl, by simp⟩
    · rw [with_bad he]
      simp only [he, decide_false, Bool.not_false, if_true, Option.bind_some]
      exact ⟨_, _, rfl, rfl⟩
  · have hrf := eq_false hr
    simp only [hrf, decide_false, Bool.not_false, if_true]
    exact ⟨_, _, rfl, rfl⟩
theorem pruns_is {w h x y op bw bh : Int} {hid two : Bool} {p : List Int} (hp : ∀ x ∈ p, 0 ≤ x) (hl : p.length ≤ 4611686018427387904) :
    ∃ c e, page_Runs w h x y op hid two bw bh p = some (c, e) ∧ ref13_Runs w h x y op hid two bw bh p = some (c, e) := by
  rw [page_Runs_eq, ref13_Runs_eq, noRegion_is, isRegion_is]
  simp only [Option.bind_some]
  by_cases hr : BeginOk w h x y op ∧ w = bw ∧ h = bh
  · have hrt := eq_true hr
    simp only [hrt, decide_true, Bool.not_true, Bool.false_eq_true, if_false]
    obtain ⟨c, e, g1, g2, g3⟩ := one_is (w := bw) (h := bh) hp hl
    obtain ⟨c', e', g1', g2', g3'⟩ := two_is (w := bw) (h := bh) hp hl
    obtain ⟨l, l1, l2, l3⟩ := begin_is (hid := hid) hr.1
    rw [g1, g2, g1', g2', l1, l2, flag_is, bit_is]
    simp only [Option.bind_some]
    have e1 : ((if two = true then some (c', e') else some (c, e)) : Option (List Int × Int)) = some (if two = true then (c', e') else (c, e)) := by split <;> rfl
    rw [e1]
    simp only [Option.bind_some]
    rw [byte_all _ _ (by simp) (by omega)]
    simp only [Option.bind_some]
    have hc : (if two = true then (c', e') else (c, e)).1.length ≤ 1000000 := by split <;> assumption
    generalize (if two = true then (c', e') else (c, e)) = q at hc ⊢
    obtain ⟨c, e⟩ := q
    simp only at hc ⊢
    by_cases he : e = 0
    · subst he
      rw [with_ok (by simp; omega)]
      simp only [Option.bind_some, decide_true, Bool.not_true, Bool.false_eq_true, if_false]
      rw [join_all _ (by simp) (by simp; omega)]
      exact ⟨_, _, rfl, by simp⟩
    · rw [with_bad he]
      simp only [he, decide_false, Bool.not_false, if_true, Option.bind_some]
      exact ⟨_, _, rfl, rfl⟩
  · have hrf := eq_false hr
    simp only [hrf, decide_false, Bool.not_false, if_true]
    exact ⟨_, _, rfl, rfl⟩
theorem prefined_is {w h x y op t a b k bw bh rw_ rh : Int} {hid o4 : Bool} {p rp : List Int} (hp : ∀ x ∈ p, 0 ≤ x) (hl : p.length ≤ 4611686018427387904) (hrp : ∀ x ∈ rp, 0 ≤ x) (hrl : rp.length ≤ 4611686018427387904)
    (ha : -9223372036854775808 ≤ a ∧ a ≤ 9223372036854775807) (hb : -9223372036854775808 ≤ b ∧ b ≤ 9223372036854775807) :
    ∃ c e, page_Refined w h x y op hid t a b o4 k bw bh p rw_ rh rp = some (c, e) ∧ ref13_Refined w h x y op hid t a b o4 k bw bh p rw_ rh rp = some (c, e) := by
  rw [page_Refined_eq, ref13_Refined_eq, noRegion_is, isRegion_is]
  simp only [Option.bind_some]
  by_cases hr : BeginOk w h x y op ∧ w = bw ∧ h = bh
  · have hrt := eq_true hr
    simp only [hrt, decide_true, Bool.not_true, Bool.false_eq_true, if_false]
    obtain ⟨c, e, g1, g2, g3⟩ := refineEncode_is (t := t) (dx := a) (dy := b) (k := k) (o4 := o4) (w := bw) (h := bh) (rw := rw_) (rh := rh) hp hrp hl hrl
    obtain ⟨l, l1, l2, l3⟩ := begin_is (hid := hid) hr.1
    obtain ⟨u, e3, hs3, hl3⟩ := signed_some a
    obtain ⟨v, e4, hs4, hl4⟩ := signed_some b
    rw [g1, g2, l1, l2, flag_is, bit_is]
    simp only [Option.bind_some]
    rw [byte_all _ _ (by simp) (by omega)]
    simp only [Option.bind_some]
    rw [wsigned2 a b ha hb hs3 hl3 hs4 hl4 (by simp; omega)]
    simp only [Option.bind_some]
    by_cases he : e = 0
    · subst he
      rw [with_ok (by simp; omega), ref13_signed_eq, ref13_signed_eq, hs3, hs4]
      simp only [Option.bind_some, decide_true, Bool.not_true, Bool.false_eq_true, if_false]
      rw [join_all _ (by simp) (by simp; omega)]
      have ew : IntKind.i64.wrap (2 * (if o4 = true then 1 else 0)) = if o4 = true then 2 else 0 := by split <;> rfl
      rw [ew]
      exact ⟨_, _, rfl, by simp⟩
    · rw [with_bad he]
      simp only [he, decide_false, Bool.not_false, if_true, Option.bind_some]
      exact ⟨_, _, rfl, rfl⟩
  · have hrf := eq_false hr
    simp only [hrf, decide_false, Bool.not_false, if_true]
    exact ⟨_, _, rfl, rfl⟩

/-! ### The law -/
theorem sane13 : law13_Sane = some true := law13_Sane_F_le 300 _ (by kernel_rfl)
theorem good_int {n : Int} (h : V.Good E (.int .i64 n)) : -9223372036854775808 ≤ n ∧ n ≤ 9223372036854775807 := by
  cases h with
  | int h => simpa [IntKind.has, IntKind.min, IntKind.max, IntKind.signed, IntKind.bits] using h
theorem good_u8 {l : List Int} (h : V.Good E (.ints .u8 l)) : ∀ x ∈ l, 0 ≤ x := by
  cases h with
  | ints h _ => intro x hx; have := h x hx; simp [IntKind.has, IntKind.min, IntKind.max, IntKind.signed, IntKind.bits] at this; omega
theorem pageRegions_true (a1 a2 a3 a4 a5 : Int) (a6 : Bool) (a7 a8 a9 : Int) (a10 : Bool) (a11 : Int) (a12 : Bool) (a13 a14 a15 : Int) (a16 : Bool) (a17 a18 a19 : Int) (a20 : List Int) (a21 a22 : Int) (a23 : List Int)
    (h : GoodP E (.agg [.int .i64 a1, .int .i64 a2, .int .i64 a3, .int .i64 a4, .int .i64 a5, .bool a6, .int .i64 a7, .int .i64 a8, .int .i64 a9, .bool a10, .int .i64 a11, .bool a12, .int .i64 a13, .int .i64 a14, .int .i64 a15, .bool a16, .int .i64 a17, .int .i64 a18, .int .i64 a19, .ints .u8 a20, .int .i64 a21, .int .i64 a22, .ints .u8 a23])) :
    law13_PageRegions a1 a2 a3 a4 a5 a6 a7 a8 a9 a10 a11 a12 a13 a14 a15 a16 a17 a18 a19 a20 a21 a22 a23 = some true := by
  obtain ⟨_, _, _, _, _, _, _, _, _, _, _, _, _, g14, g15, _, _, _, _, g20, _, _, g23, _⟩ := h
  rw [law13_PageRegions_eq, sane13]
  have e0 : ((if decide (((a20.length : Nat) : Int) > 800) = true then some true else some (decide (((a23.length : Nat) : Int) > 20000))) : Option Bool) = some (decide (((a20.length : Nat) : Int) > 800 ∨ ((a23.length : Nat) : Int) > 20000)) := by
    simp only [iteD]
    split
    · refine some_dec ?_; simp only [true_iff]; omega
    · refine some_dec ?_; simp only [decide_eq_true_eq]; omega
  rw [e0]
  simp only [Option.bind_some, iteD]
  by_cases hq : ((a20.length : Nat) : Int) > 800 ∨ ((a23.length : Nat) : Int) > 20000
  · rw [if_pos hq]
  · rw [if_neg hq]
    obtain ⟨c1, e1, h1, h2⟩ := pgeneric_is (w := a1) (h := a2) (x := a3) (y := a4) (op := a5) (hid := a6) (t := a7) (a := a8) (b := a9) (o4 := a10) (k := a11) (bw := a18) (bh := a19) (p := a20) (good_u8 g20) (by omega)
    obtain ⟨c2, e2, h3, h4⟩ := pruns_is (w := a1) (h := a2) (x := a3) (y := a4) (op := a5) (hid := a6) (two := a12) (bw := a18) (bh := a19) (p := a20) (good_u8 g20) (by omega)
    obtain ⟨c3, e3, h5, h6⟩ := prefined_is (w := a1) (h := a2) (x := a3) (y := a4) (op := a5) (hid := a6) (t := a13) (a := a14) (b := a15) (o4 := a16) (k := a17) (bw := a18) (bh := a19) (p := a20) (rw_ := a21) (rh := a22) (rp := a23) (good_u8 g20) (by omega) (good_u8 g23) (by omega) (good_int g14) (good_int g15)
    rw [h1, h2, h3, h4, h5, h6]
    simp only [Option.bind_some, ref01_SameBytes_eq, decide_true, Bool.not_true, Bool.false_eq_true, if_false, if_true]
end Go.Proofs.YtkccnhkhjncpkaaGreat.P
