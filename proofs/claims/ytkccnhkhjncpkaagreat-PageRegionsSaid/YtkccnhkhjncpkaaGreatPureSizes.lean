/- Sizes and their bytes, sides, and what pages' data are made of: the program against its reference. -/
import Derived.Test.YtkccnhkhjncpkaaGreatQs
import Derived.Test.YtkccnhkhjncpkaaGreatLib
namespace Go.Proofs.YtkccnhkhjncpkaaGreat.P
open Go Go.Proofs.YtkccnhkhjncpkaaGreat.V
set_option linter.unusedVariables false
set_option linter.unusedSimpArgs false

theorem size_loop_eq : bits_Size_loop5 = ref01_Size_loop5 := by
  funext s
  unfold bits_Size_loop5 ref01_Size_loop5
  simp only [iteD]
  split
  · rename_i h
    have e1 : s.1.tmod 128 = s.1 % 128 := tmod_pos (by omega)
    have : IntKind.u8.wrap (IntKind.u8.wrap (s.1.tmod 128) + 128) = IntKind.u8.wrap (IntKind.i64.wrap (128 + s.1.tmod 128)) := by
      rw [e1, w8, w8, w64 (by omega), w8]; omega
    rw [this]
  · rfl
theorem size_eq (n : Int) : bits_Size n = ref01_Size n := by rw [bits_Size_eq, ref01_Size_eq, size_loop_eq]

theorem size_loop_some : ∀ s : Int × List Int, 0 ≤ s.1 ∧ (s.2.length : Int) + s.1 ≤ 2147483650 → ∃ a, loop ref01_Size_loop5 s = some a ∧ a.length ≤ 2147483650 := by
  refine loop_ind (fun (s : Int × List Int) => 0 ≤ s.1 ∧ (s.2.length : Int) + s.1 ≤ 2147483650) (fun (s : Int × List Int) => s.1.toNat) (fun (a : List Int) => a.length ≤ 2147483650) ?_
  rintro ⟨n, out⟩ ⟨h1, h2⟩
  simp only at h1 h2
  unfold ref01_Size_loop5
  simp only [iteD]
  by_cases h : n > 0
  · have e2 : n.tdiv 128 = n / 128 := tdiv_pos (by omega)
    rw [if_pos h, if_pos (by simp only [List.length_cons, List.length_nil]; omega)]
    refine .inl ⟨_, rfl, ?_, ?_⟩
    · simp only [e2, List.length_append, List.length_cons, List.length_nil]
      rw [w64 (by omega)]
      omega
    · simp only [e2]
      rw [w64 (by omega)]
      omega
  · rw [if_neg h]
    exact .inr ⟨_, rfl, by omega⟩

theorem size_some (n : Int) : ∃ l e, ref01_Size n = some (l, e) ∧ l.length ≤ 2147483650 ∧ (0 ≤ n → n ≤ 2147483647 → e = 0) := by
  rw [ref01_Size_eq]
  simp only [iteD]
  by_cases h1 : n < 0
  · exact ⟨[], 2, by simp [h1], by simp, fun h => by omega⟩
  · by_cases h2 : n > 2147483647
    · exact ⟨[], 2, by simp [h1, h2], by simp, fun _ h => by omega⟩
    · obtain ⟨a, ha, hl⟩ := size_loop_some (IntKind.i64.wrap (n.tdiv 128), [IntKind.u8.wrap (n.tmod 128)]) (by
        simp only [List.length_cons, List.length_nil]
        rw [tdiv_pos (by omega), w64 (by omega)]; omega)
      exact ⟨a, 0, by simp [h1, h2, ha], hl, fun _ _ => rfl⟩

theorem writer_over (l : List Int) (hl : l.length ≤ 1000) (b : List Int) : loop (page_writer_size_loop1 l) (0, b) =
    overL (fun _ x b => (ref01_Size x).bind fun q => if (b.length + q.1.length) * 1 ≤ 140737488355328 then some (.inl (b ++ q.1)) else none) some 0 l b := by
  refine loop_over l (fun n b => ((n : Int), b)) _ _ (fun s => ?_) (fun i x s h => ?_) 0 b (by omega)
  · unfold page_writer_size_loop1; simp
  · have hl := lt_len_of_get h
    unfold page_writer_size_loop1
    simp only [iteD]
    rw [if_pos (by omega), if_pos ⟨by omega, by omega⟩, rd_nat h, size_eq]
    cases ref01_Size x with
    | none => rfl
    | some q =>
      simp only [Option.bind_some]
      split
      · rw [w64 (by omega)]; rfl
      · rfl
theorem writer1 (x : Int) {s : List Int} {e : Int} (hs : ref01_Size x = some (s, e)) (hl : s.length ≤ 2147483650) : page_writer_size [x] [] = some s := by
  rw [page_writer_size_eq, writer_over _ (by simp)]
  simp only [overL, hs, Option.bind_some]
  rw [if_pos (by simp; omega)]
  simp
theorem writer2 (x y : Int) {s t : List Int} {e f : Int} (hs : ref01_Size x = some (s, e)) (hl : s.length ≤ 2147483650) (ht : ref01_Size y = some (t, f)) (hm : t.length ≤ 2147483650) :
    page_writer_size [x, y] [] = some (s ++ t) := by
  rw [page_writer_size_eq, writer_over _ (by simp)]
  simp only [overL, hs, ht, Option.bind_some]
  rw [if_pos (by simp; omega)]
  simp only
  rw [if_pos (by simp; omega)]
  simp

theorem byte_over (l : List Int) (hl : l.length ≤ 1000) (b : List Int) : loop (page_writer_byte_loop1 l) (0, b) =
    overL (fun _ x b => if (b.length + 1) * 1 ≤ 140737488355328 then some (.inl (b ++ [IntKind.u8.wrap x])) else none) some 0 l b := by
  refine loop_over l (fun n b => ((n : Int), b)) _ _ (fun s => ?_) (fun i x s h => ?_) 0 b (by omega)
  · unfold page_writer_byte_loop1; simp
  · have hl := lt_len_of_get h
    unfold page_writer_byte_loop1
    simp only [iteD]
    rw [if_pos (by omega), if_pos ⟨by omega, by omega⟩, rd_nat h]
    simp only [List.length_cons, List.length_nil, Nat.zero_add]
    split
    · rw [w64 (by omega)]; rfl
    · rfl
theorem byte1 (x : Int) (b : List Int) (hb : b.length ≤ 5000000000) : page_writer_byte [x] b = some (b ++ [IntKind.u8.wrap x]) := by
  rw [page_writer_byte_eq, byte_over _ (by simp)]
  simp only [overL]
  rw [if_pos (by omega)]
  simp

theorem join_over (l : List (List Int)) (hl : l.length ≤ 1000) (b : List Int) : loop (ref13_join_loop3 l) (0, b) =
    overL (fun _ x b => if (b.length + x.length) * 1 ≤ 140737488355328 then some (.inl (b ++ x)) else none) some 0 l b := by
  refine loop_over l (fun n b => ((n : Int), b)) _ _ (fun s => ?_) (fun i x s h => ?_) 0 b (by omega)
  · unfold ref13_join_loop3; simp
  · have hl := lt_len_of_get h
    unfold ref13_join_loop3
    simp only [iteD]
    rw [if_pos (by omega), if_pos (by omega), Int.toNat_natCast, h]
    simp only [Option.bind_some]
    split
    · rw [w64 (by omega)]; rfl
    · rfl
theorem join3 (x y z : List Int) (hx : x.length ≤ 5000000000) (hy : y.length ≤ 5000000000) (hz : z.length ≤ 5000000000) : ref13_join [x, y, z] = some (x ++ y ++ z) := by
  rw [ref13_join_eq, join_over _ (by simp)]
  simp only [overL]
  rw [if_pos (by simp; omega)]
  simp only
  rw [if_pos (by simp; omega)]
  simp only
  rw [if_pos (by simp; omega)]
  simp

theorem fits_eq (w h : Int) : bitmap_fits w h = ref05_Sides w h := by rw [bitmap_fits_eq, ref05_Sides_eq]
theorem sides_some (w h : Int) : ∃ b, ref05_Sides w h = some b ∧ (b = true → 0 ≤ w ∧ 0 ≤ h ∧ w ≤ 200 ∧ h ≤ 200 ∧ w * h ≤ 8192) := by
  rw [ref05_Sides_eq]
  simp only [iteD]
  by_cases h1 : w ≥ 0
  · by_cases h2 : h ≥ 0
    · by_cases h3 : w ≤ 200
      · by_cases h4 : h ≤ 200
        · refine ⟨_, by rw [if_pos h1, if_pos h2, if_pos h3, if_pos h4], fun hh => ?_⟩
          have b1 : w * h ≤ 200 * h := Int.mul_le_mul_of_nonneg_right h3 h2
          have b0 : 0 ≤ w * h := Int.mul_nonneg h1 h2
          rw [w64 (by omega)] at hh
          exact ⟨h1, h2, h3, h4, of_decide_eq_true hh⟩
        · exact ⟨false, by rw [if_pos h1, if_pos h2, if_pos h3, if_neg h4], fun h => by cases h⟩
      · exact ⟨false, by rw [if_pos h1, if_pos h2, if_neg h3], fun h => by cases h⟩
    · exact ⟨false, by rw [if_pos h1, if_neg h2], fun h => by cases h⟩
  · exact ⟨false, by rw [if_neg h1], fun h => by cases h⟩

theorem new_loop (p : Int) (xs : List Int) (hx : xs.length ≤ 100000) : ∀ s : Int × List Int, 0 ≤ s.1 ∧ s.1 ≤ (xs.length : Int) ∧ s.2.length = xs.length → ∃ a, loop (bitmap_New_loop5 p xs) s = some a ∧ a.length = xs.length := by
  refine loop_ind (fun (s : Int × List Int) => 0 ≤ s.1 ∧ s.1 ≤ (xs.length : Int) ∧ s.2.length = xs.length) (fun (s : Int × List Int) => ((xs.length : Int) - s.1).toNat) (fun (a : List Int) => a.length = xs.length) ?_
  rintro ⟨i, b⟩ ⟨h1, h2, h3⟩
  simp only at h1 h2 h3
  unfold bitmap_New_loop5
  simp only [iteD]
  by_cases h : i < (xs.length : Int)
  · rw [if_pos h, if_pos ⟨h1, by omega⟩]
    refine .inl ⟨_, rfl, ?_, ?_⟩
    · simp only [List.length_set]
      rw [w64 (by omega)]; omega
    · simp only
      rw [w64 (by omega)]; omega
  · rw [if_neg h]
    exact .inr ⟨_, rfl, h3⟩

/-- what New's error says -/
theorem new_err (w h : Int) : ∃ a b c e, bitmap_New w h 0 = some (a, b, c, e) ∧ ref05_Sides w h = some (decide (e = 0)) := by
  rw [bitmap_New_eq]
  simp only [iteD, iteND]
  by_cases h1 : w < 0
  · refine ⟨0, 0, [], 2, by simp [h1], ?_⟩
    rw [ref05_Sides_eq]
    simp only [iteD]
    rw [if_neg (by omega)]; rfl
  · by_cases h2 : h < 0
    · refine ⟨0, 0, [], 2, by simp [h1, h2], ?_⟩
      rw [ref05_Sides_eq]
      simp only [iteD]
      rw [if_pos (by omega), if_neg (by omega)]; rfl
    · obtain ⟨b, hb, hs⟩ := sides_some w h
      simp only [h1, h2, if_false, if_true, Option.bind_some, Bool.false_eq_true]
      rw [bitmap_blank_eq, fits_eq, hb]
      simp only [Option.bind_some]
      cases b with
      | false => simp only [Bool.not_false, if_true, Option.bind_some]
                 obtain ⟨a, ha, _⟩ := new_loop 0 [] (by simp) (0, []) ⟨by simp, by simp, rfl⟩
                 rw [ha]
                 exact ⟨0, 0, a, 4, rfl, rfl⟩
      | true =>
        obtain ⟨g1, g2, g3, g4, g5⟩ := hs rfl
        have b0 : 0 ≤ w * h := Int.mul_nonneg g1 g2
        simp only [Bool.not_true, Bool.false_eq_true, if_false]
        rw [w64 (by omega), if_pos ⟨b0, Int.le_refl _, by omega⟩]
        simp only [Option.bind_some]
        obtain ⟨a, ha, _⟩ := new_loop 0 (List.replicate (w * h).toNat 0) (by simp; omega) (0, List.replicate (w * h).toNat 0) ⟨by simp, by simp; omega, rfl⟩
        rw [ha]
        exact ⟨w, h, a, 0, rfl, rfl⟩

end Go.Proofs.YtkccnhkhjncpkaaGreat.P
