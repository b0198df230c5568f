/- Copies of functions with fuel, for what is known: what they come to, the functions come to. Printed by wip/tool/vsym.py. -/
import Derived.Test.YtgffdmgidnnedaaGreatQs
import Derived.Test.YtgffdmgidnnedaaGreatLib
namespace Go.Proofs.YtgffdmgidnnedaaGreat.P
open Go Go.Proofs.YtgffdmgidnnedaaGreat.V
set_option linter.unusedVariables false
set_option linter.unusedSimpArgs false
set_option maxRecDepth 100000
set_option synthInstance.maxHeartbeats 0
set_option synthInstance.maxSize 100000
noncomputable section
noncomputable def bitmap_fits_F (f : Nat) := bitmap_fits_b
instance bitmap_fits_o f w1 h2 : OL (bitmap_fits_F f w1 h2) (bitmap_fits w1 h2) := ⟨by rw [bitmap_fits_eq]; unfold bitmap_fits_F bitmap_fits_b; (try dsimp only); exact OL.le⟩
noncomputable def bitmap_blank_F (f : Nat) := bitmap_blank_b (bitmap_fits_F f)
instance bitmap_blank_o f w1 h2 : OL (bitmap_blank_F f w1 h2) (bitmap_blank w1 h2) := ⟨by rw [bitmap_blank_eq]; unfold bitmap_blank_F bitmap_blank_b; (try dsimp only); exact OL.le⟩
noncomputable def bitmap_New_F (f : Nat) := bitmap_New_b (bitmap_blank_F f) (itf f) bitmap_New_loop5
instance bitmap_New_o f w1 h2 pixel3 : OL (bitmap_New_F f w1 h2 pixel3) (bitmap_New w1 h2 pixel3) := ⟨by rw [bitmap_New_eq]; unfold bitmap_New_F bitmap_New_b; (try dsimp only); exact OL.le⟩
noncomputable def page_writer_byte_F (f : Nat) := page_writer_byte_b (itf f) page_writer_byte_loop1
instance page_writer_byte_o f l1 b2 : OL (page_writer_byte_F f l1 b2) (page_writer_byte l1 b2) := ⟨by rw [page_writer_byte_eq]; unfold page_writer_byte_F page_writer_byte_b; (try dsimp only); exact OL.le⟩
noncomputable def bits_Size_F (f : Nat) := bits_Size_b (itf f) bits_Size_loop5
instance bits_Size_o f n1 : OL (bits_Size_F f n1) (bits_Size n1) := ⟨by rw [bits_Size_eq]; unfold bits_Size_F bits_Size_b; (try dsimp only); exact OL.le⟩
theorem bits_Size_F_le f n1 : Ole (bits_Size_F f n1) (bits_Size n1) := OL.le
noncomputable def page_writer_size_loop1_F (f : Nat) := page_writer_size_loop1_b (bits_Size_F f)
instance page_writer_size_loop1_o f l1 s3 : OL (page_writer_size_loop1_F f l1 s3) (page_writer_size_loop1 l1 s3) := ⟨by unfold page_writer_size_loop1_F page_writer_size_loop1 page_writer_size_loop1_b; (try dsimp only); exact OL.le⟩
noncomputable def page_writer_size_F (f : Nat) := page_writer_size_b (itf f) (page_writer_size_loop1_F f)
instance page_writer_size_o f l1 b2 : OL (page_writer_size_F f l1 b2) (page_writer_size l1 b2) := ⟨by rw [page_writer_size_eq]; unfold page_writer_size_F page_writer_size_b; (try dsimp only); exact OL.le⟩
noncomputable def page_Info_F (f : Nat) := page_Info_b (bitmap_New_F f) (page_writer_size_F f) (page_writer_byte_F f)
instance page_Info_o f w1 h2 pixel3 op4 : OL (page_Info_F f w1 h2 pixel3 op4) (page_Info w1 h2 pixel3 op4) := ⟨by rw [page_Info_eq]; unfold page_Info_F page_Info_b; (try dsimp only); exact OL.le⟩
noncomputable def ref01_SameBytes_F (f : Nat) := ref01_SameBytes_b
instance ref01_SameBytes_o f a1 b2 : OL (ref01_SameBytes_F f a1 b2) (ref01_SameBytes a1 b2) := ⟨by rw [ref01_SameBytes_eq]; unfold ref01_SameBytes_F ref01_SameBytes_b; (try dsimp only); exact OL.le⟩
noncomputable def law13_Sane_F (f : Nat) := law13_Sane_b (page_Info_F f) (ref01_SameBytes_F f)
instance law13_Sane_o f : OL (law13_Sane_F f) (law13_Sane) := ⟨by rw [law13_Sane_eq]; unfold law13_Sane_F law13_Sane_b; (try dsimp only); exact OL.le⟩
theorem law13_Sane_F_le f : Ole (law13_Sane_F f) (law13_Sane) := OL.le
noncomputable def bits_Signed_F (f : Nat) := bits_Signed_b (bits_Size_F f)
instance bits_Signed_o f n1 : OL (bits_Signed_F f n1) (bits_Signed n1) := ⟨by rw [bits_Signed_eq]; unfold bits_Signed_F bits_Signed_b; (try dsimp only); exact OL.le⟩
theorem bits_Signed_F_le f n1 : Ole (bits_Signed_F f n1) (bits_Signed n1) := OL.le
noncomputable def prefix_lines_F (f : Nat) := prefix_lines_b (itf f) prefix_lines_loop3
instance prefix_lines_o f l1 : OL (prefix_lines_F f l1) (prefix_lines l1) := ⟨by rw [prefix_lines_eq]; unfold prefix_lines_F prefix_lines_b; (try dsimp only); exact OL.le⟩
noncomputable def prefix_Standard_F (f : Nat) := prefix_Standard_b (prefix_lines_F f)
instance prefix_Standard_o f k1 : OL (prefix_Standard_F f k1) (prefix_Standard k1) := ⟨by rw [prefix_Standard_eq]; unfold prefix_Standard_F prefix_Standard_b; (try dsimp only); exact OL.le⟩
theorem prefix_Standard_F_le f k1 : Ole (prefix_Standard_F f k1) (prefix_Standard k1) := OL.le
theorem prefix_isLine_at0 : prefix_isLine 1 0 0 0 = some true := (call_eq ..).trans (by kernel_rfl)
theorem prefix_isLine_at1 : prefix_isLine 2 1 1 0 = some true := (call_eq ..).trans (by kernel_rfl)
theorem prefix_isLine_at2 : prefix_isLine 3 3 3 0 = some true := (call_eq ..).trans (by kernel_rfl)
theorem prefix_isLine_at3 : prefix_isLine 4 5 11 0 = some true := (call_eq ..).trans (by kernel_rfl)
theorem prefix_isLine_at4 : prefix_isLine 5 8 43 0 = some true := (call_eq ..).trans (by kernel_rfl)
theorem prefix_isLine_at5 : prefix_isLine 5 20 299 0 = some true := (call_eq ..).trans (by kernel_rfl)
theorem prefix_isLine_at6 : prefix_isLine 2 2 0 0 = some true := (call_eq ..).trans (by kernel_rfl)
theorem prefix_isLine_at7 : prefix_isLine 2 3 4 0 = some true := (call_eq ..).trans (by kernel_rfl)
theorem prefix_isLine_at8 : prefix_isLine 2 4 12 0 = some true := (call_eq ..).trans (by kernel_rfl)
theorem prefix_isLine_at9 : prefix_isLine 2 6 28 0 = some true := (call_eq ..).trans (by kernel_rfl)
theorem prefix_isLine_at10 : prefix_isLine 1 1 0 0 = some true := (call_eq ..).trans (by kernel_rfl)
theorem prefix_isLine_at11 : prefix_isLine 2 1 2 0 = some true := (call_eq ..).trans (by kernel_rfl)
theorem prefix_isLine_at12 : prefix_isLine 3 2 4 0 = some true := (call_eq ..).trans (by kernel_rfl)
theorem prefix_isLine_at13 : prefix_isLine 3 6 8 0 = some true := (call_eq ..).trans (by kernel_rfl)
noncomputable def prefix_isLine_F (fuel : Nat) (x1 x2 x3 x4 : Int) : Option Bool := if x1 = 1 ∧ x2 = 0 ∧ x3 = 0 ∧ x4 = 0 then some true else if x1 = 2 ∧ x2 = 1 ∧ x3 = 1 ∧ x4 = 0 then some true else if x1 = 3 ∧ x2 = 3 ∧ x3 = 3 ∧ x4 = 0 then some true else if x1 = 4 ∧ x2 = 5 ∧ x3 = 11 ∧ x4 = 0 then some true else if x1 = 5 ∧ x2 = 8 ∧ x3 = 43 ∧ x4 = 0 then some true else if x1 = 5 ∧ x2 = 20 ∧ x3 = 299 ∧ x4 = 0 then some true else if x1 = 2 ∧ x2 = 2 ∧ x3 = 0 ∧ x4 = 0 then some true else if x1 = 2 ∧ x2 = 3 ∧ x3 = 4 ∧ x4 = 0 then some true else if x1 = 2 ∧ x2 = 4 ∧ x3 = 12 ∧ x4 = 0 then some true else if x1 = 2 ∧ x2 = 6 ∧ x3 = 28 ∧ x4 = 0 then some true else if x1 = 1 ∧ x2 = 1 ∧ x3 = 0 ∧ x4 = 0 then some true else if x1 = 2 ∧ x2 = 1 ∧ x3 = 2 ∧ x4 = 0 then some true else if x1 = 3 ∧ x2 = 2 ∧ x3 = 4 ∧ x4 = 0 then some true else if x1 = 3 ∧ x2 = 6 ∧ x3 = 8 ∧ x4 = 0 then some true else none
theorem prefix_isLine_F_le (fuel : Nat) (x1 x2 x3 x4 : Int) : Ole (prefix_isLine_F fuel x1 x2 x3 x4) (prefix_isLine x1 x2 x3 x4) := by
  unfold prefix_isLine_F
  refine Ole.known (fun q => by obtain ⟨rfl, rfl, rfl, rfl⟩ := q; exact prefix_isLine_at0) ?_
  refine Ole.known (fun q => by obtain ⟨rfl, rfl, rfl, rfl⟩ := q; exact prefix_isLine_at1) ?_
  refine Ole.known (fun q => by obtain ⟨rfl, rfl, rfl, rfl⟩ := q; exact prefix_isLine_at2) ?_
  refine Ole.known (fun q => by obtain ⟨rfl, rfl, rfl, rfl⟩ := q; exact prefix_isLine_at3) ?_
  refine Ole.known (fun q => by obtain ⟨rfl, rfl, rfl, rfl⟩ := q; exact prefix_isLine_at4) ?_
  refine Ole.known (fun q => by obtain ⟨rfl, rfl, rfl, rfl⟩ := q; exact prefix_isLine_at5) ?_
  refine Ole.known (fun q => by obtain ⟨rfl, rfl, rfl, rfl⟩ := q; exact prefix_isLine_at6) ?_
  refine Ole.known (fun q => by obtain ⟨rfl, rfl, rfl, rfl⟩ := q; exact prefix_isLine_at7) ?_
  refine Ole.known (fun q => by obtain ⟨rfl, rfl, rfl, rfl⟩ := q; exact prefix_isLine_at8) ?_
  refine Ole.known (fun q => by obtain ⟨rfl, rfl, rfl, rfl⟩ := q; exact prefix_isLine_at9) ?_
  refine Ole.known (fun q => by obtain ⟨rfl, rfl, rfl, rfl⟩ := q; exact prefix_isLine_at10) ?_
  refine Ole.known (fun q => by obtain ⟨rfl, rfl, rfl, rfl⟩ := q; exact prefix_isLine_at11) ?_
  refine Ole.known (fun q => by obtain ⟨rfl, rfl, rfl, rfl⟩ := q; exact prefix_isLine_at12) ?_
  refine Ole.known (fun q => by obtain ⟨rfl, rfl, rfl, rfl⟩ := q; exact prefix_isLine_at13) ?_
  exact fun _ h => nomatch h
instance prefix_isLine_o f x1 x2 x3 x4 : OL (prefix_isLine_F f x1 x2 x3 x4) (prefix_isLine x1 x2 x3 x4) := ⟨prefix_isLine_F_le f x1 x2 x3 x4⟩
noncomputable def prefix_weight_F (f : Nat) := prefix_weight_b (itf f) prefix_weight_loop2
instance prefix_weight_o f a1 : OL (prefix_weight_F f a1) (prefix_weight a1) := ⟨by rw [prefix_weight_eq]; unfold prefix_weight_F prefix_weight_b; (try dsimp only); exact OL.le⟩
noncomputable def prefix_Valid_loop4_F (f : Nat) := prefix_Valid_loop4_b (prefix_isLine_F f)
instance prefix_Valid_loop4_o f a1 v2 : OL (prefix_Valid_loop4_F f a1 v2) (prefix_Valid_loop4 a1 v2) := ⟨by unfold prefix_Valid_loop4_F prefix_Valid_loop4 prefix_Valid_loop4_b; (try dsimp only); exact OL.le⟩
noncomputable def prefix_Valid_F (f : Nat) := prefix_Valid_b (itf f) (prefix_Valid_loop4_F f) (prefix_weight_F f)
instance prefix_Valid_o f a1 : OL (prefix_Valid_F f a1) (prefix_Valid a1) := ⟨by rw [prefix_Valid_eq]; unfold prefix_Valid_F prefix_Valid_b; (try dsimp only); exact OL.le⟩
noncomputable def prefix_codes_loop4_F (f : Nat) := prefix_codes_loop4_b (itf f) prefix_codes_loop8
instance prefix_codes_loop4_o f a1 s3 : OL (prefix_codes_loop4_F f a1 s3) (prefix_codes_loop4 a1 s3) := ⟨by unfold prefix_codes_loop4_F prefix_codes_loop4 prefix_codes_loop4_b; (try dsimp only); exact OL.le⟩
noncomputable def prefix_codes_F (f : Nat) := prefix_codes_b (itf f) (prefix_codes_loop4_F f)
instance prefix_codes_o f a1 : OL (prefix_codes_F f a1) (prefix_codes a1) := ⟨by rw [prefix_codes_eq]; unfold prefix_codes_F prefix_codes_b; (try dsimp only); exact OL.le⟩
noncomputable def prefix_digits_F (f : Nat) := prefix_digits_b (itf f) prefix_digits_loop3
instance prefix_digits_o f x1 n2 : OL (prefix_digits_F f x1 n2) (prefix_digits x1 n2) := ⟨by rw [prefix_digits_eq]; unfold prefix_digits_F prefix_digits_b; (try dsimp only); exact OL.le⟩
noncomputable def prefix_offset_F (f : Nat) := prefix_offset_b
instance prefix_offset_o f x1 x2 x3 x4 n5 n6 : OL (prefix_offset_F f x1 x2 x3 x4 n5 n6) (prefix_offset x1 x2 x3 x4 n5 n6) := ⟨by rw [prefix_offset_eq]; unfold prefix_offset_F prefix_offset_b; (try dsimp only); exact OL.le⟩
noncomputable def prefix_line_loop3_F (f : Nat) := prefix_line_loop3_b (prefix_offset_F f)
instance prefix_line_loop3_o f a1 n2 n3 s4 : OL (prefix_line_loop3_F f a1 n2 n3 s4) (prefix_line_loop3 a1 n2 n3 s4) := ⟨by unfold prefix_line_loop3_F prefix_line_loop3 prefix_line_loop3_b; (try dsimp only); exact OL.le⟩
noncomputable def prefix_line_F (f : Nat) := prefix_line_b (itf f) (prefix_line_loop3_F f)
instance prefix_line_o f a1 n2 n3 : OL (prefix_line_F f a1 n2 n3) (prefix_line a1 n2 n3) := ⟨by rw [prefix_line_eq]; unfold prefix_line_F prefix_line_b; (try dsimp only); exact OL.le⟩
noncomputable def prefix_put_F (f : Nat) := prefix_put_b (prefix_line_F f) (prefix_digits_F f)
instance prefix_put_o f a1 l2 n3 n4 : OL (prefix_put_F f a1 l2 n3 n4) (prefix_put a1 l2 n3 n4) := ⟨by rw [prefix_put_eq]; unfold prefix_put_F prefix_put_b; (try dsimp only); exact OL.le⟩
noncomputable def prefix_Bits_F (f : Nat) := prefix_Bits_b (prefix_Valid_F f) (prefix_codes_F f) (prefix_put_F f)
instance prefix_Bits_o f a1 n2 n3 : OL (prefix_Bits_F f a1 n2 n3) (prefix_Bits a1 n2 n3) := ⟨by rw [prefix_Bits_eq]; unfold prefix_Bits_F prefix_Bits_b; (try dsimp only); exact OL.le⟩
theorem prefix_Bits_F_le f a1 n2 n3 : Ole (prefix_Bits_F f a1 n2 n3) (prefix_Bits a1 n2 n3) := OL.le
noncomputable def runs_remains_F (f : Nat) := runs_remains_b
instance runs_remains_o f colour1 : OL (runs_remains_F f colour1) (runs_remains colour1) := ⟨by rw [runs_remains_eq]; unfold runs_remains_F runs_remains_b; (try dsimp only); exact OL.le⟩
theorem runs_remains_F_le f colour1 : Ole (runs_remains_F f colour1) (runs_remains colour1) := OL.le
noncomputable def runs_list_F (f : Nat) := runs_list_b (itf f) runs_list_loop3
instance runs_list_o f s1 : OL (runs_list_F f s1) (runs_list s1) := ⟨by rw [runs_list_eq]; unfold runs_list_F runs_list_b; (try dsimp only); exact OL.le⟩
theorem runs_list_F_le f s1 : Ole (runs_list_F f s1) (runs_list s1) := OL.le
noncomputable def runs_uprights_F (f : Nat) := runs_uprights_b
instance runs_uprights_o f : OL (runs_uprights_F f) (runs_uprights) := ⟨by rw [runs_uprights_eq]; unfold runs_uprights_F runs_uprights_b; (try dsimp only); exact OL.le⟩
theorem runs_uprights_F_le f : Ole (runs_uprights_F f) (runs_uprights) := OL.le
noncomputable def prefix_Codes_loop5_F (f : Nat) := prefix_Codes_loop5_b (prefix_digits_F f)
instance prefix_Codes_loop5_o f q3 s4 : OL (prefix_Codes_loop5_F f q3 s4) (prefix_Codes_loop5 q3 s4) := ⟨by unfold prefix_Codes_loop5_F prefix_Codes_loop5 prefix_Codes_loop5_b; (try dsimp only); exact OL.le⟩
noncomputable def prefix_Codes_F (f : Nat) := prefix_Codes_b (prefix_Valid_F f) (prefix_codes_F f) (itf f) (prefix_Codes_loop5_F f)
instance prefix_Codes_o f a1 : OL (prefix_Codes_F f a1) (prefix_Codes a1) := ⟨by rw [prefix_Codes_eq]; unfold prefix_Codes_F prefix_Codes_b; (try dsimp only); exact OL.le⟩
noncomputable def runs_newTable_loop4_F (f : Nat) := runs_newTable_loop4_b (itf f) runs_newTable_loop8
instance runs_newTable_loop4_o f tr3 s5 : OL (runs_newTable_loop4_F f tr3 s5) (runs_newTable_loop4 tr3 s5) := ⟨by unfold runs_newTable_loop4_F runs_newTable_loop4 runs_newTable_loop4_b; (try dsimp only); exact OL.le⟩
noncomputable def runs_newTable_F (f : Nat) := runs_newTable_b (prefix_Codes_F f) (itf f) (runs_newTable_loop4_F f)
instance runs_newTable_o f l1 : OL (runs_newTable_F f l1) (runs_newTable l1) := ⟨by rw [runs_newTable_eq]; unfold runs_newTable_F runs_newTable_b; (try dsimp only); exact OL.le⟩
theorem runs_newTable_F_le f l1 : Ole (runs_newTable_F f l1) (runs_newTable l1) := OL.le
noncomputable def math_bits_Mul64_F (f : Nat) := math_bits_Mul64_b
instance math_bits_Mul64_o f x1 y2 : OL (math_bits_Mul64_F f x1 y2) (math_bits_Mul64 x1 y2) := ⟨by rw [math_bits_Mul64_eq]; unfold math_bits_Mul64_F math_bits_Mul64_b; (try dsimp only); exact OL.le⟩
noncomputable def math_bits_Mul_F (f : Nat) := math_bits_Mul_b (math_bits_Mul64_F f)
instance math_bits_Mul_o f x1 y2 : OL (math_bits_Mul_F f x1 y2) (math_bits_Mul x1 y2) := ⟨by rw [math_bits_Mul_eq]; unfold math_bits_Mul_F math_bits_Mul_b; (try dsimp only); exact OL.le⟩
noncomputable def slices_Repeat_byte_byte_F (f : Nat) := slices_Repeat_byte_byte_b (math_bits_Mul_F f) (itf f) slices_Repeat_byte_byte_loop8
instance slices_Repeat_byte_byte_o f x1 count2 : OL (slices_Repeat_byte_byte_F f x1 count2) (slices_Repeat_byte_byte x1 count2) := ⟨by rw [slices_Repeat_byte_byte_eq]; unfold slices_Repeat_byte_byte_F slices_Repeat_byte_byte_b; (try dsimp only); exact OL.le⟩
theorem slices_Repeat_byte_byte_F_le f x1 count2 : Ole (slices_Repeat_byte_byte_F f x1 count2) (slices_Repeat_byte_byte x1 count2) := OL.le
noncomputable def slices_Index_string_string_F (f : Nat) := slices_Index_string_string_b (itf f) slices_Index_string_string_loop2
instance slices_Index_string_string_o f s1 v2 : OL (slices_Index_string_string_F f s1 v2) (slices_Index_string_string s1 v2) := ⟨by rw [slices_Index_string_string_eq]; unfold slices_Index_string_string_F slices_Index_string_string_b; (try dsimp only); exact OL.le⟩
theorem slices_Index_string_string_F_le f s1 v2 : Ole (slices_Index_string_string_F f s1 v2) (slices_Index_string_string s1 v2) := OL.le
noncomputable def internal_stringslite_HasPrefix_F (f : Nat) := internal_stringslite_HasPrefix_b
instance internal_stringslite_HasPrefix_o f s1 prefix2 : OL (internal_stringslite_HasPrefix_F f s1 prefix2) (internal_stringslite_HasPrefix s1 prefix2) := ⟨by rw [internal_stringslite_HasPrefix_eq]; unfold internal_stringslite_HasPrefix_F internal_stringslite_HasPrefix_b; (try dsimp only); exact OL.le⟩
noncomputable def strings_HasPrefix_F (f : Nat) := strings_HasPrefix_b (internal_stringslite_HasPrefix_F f)
instance strings_HasPrefix_o f s1 prefix2 : OL (strings_HasPrefix_F f s1 prefix2) (strings_HasPrefix s1 prefix2) := ⟨by rw [strings_HasPrefix_eq]; unfold strings_HasPrefix_F strings_HasPrefix_b; (try dsimp only); exact OL.le⟩
noncomputable def runs_reader_word_1_F (f : Nat) := runs_reader_word_1_b (strings_HasPrefix_F f)
instance runs_reader_word_1_o f w1 b2 : OL (runs_reader_word_1_F f w1 b2) (runs_reader_word_1 w1 b2) := ⟨by rw [runs_reader_word_1_eq]; unfold runs_reader_word_1_F runs_reader_word_1_b; (try dsimp only); exact OL.le⟩
noncomputable def slices_IndexFunc_string_string_loop2_F (f : Nat) := slices_IndexFunc_string_string_loop2_b (runs_reader_word_1_F f)
instance slices_IndexFunc_string_string_loop2_o f s1 s3 : OL (slices_IndexFunc_string_string_loop2_F f s1 s3) (slices_IndexFunc_string_string_loop2 s1 s3) := ⟨by unfold slices_IndexFunc_string_string_loop2_F slices_IndexFunc_string_string_loop2 slices_IndexFunc_string_string_loop2_b; (try dsimp only); exact OL.le⟩
noncomputable def slices_IndexFunc_string_string_F (f : Nat) := slices_IndexFunc_string_string_b (itf f) (slices_IndexFunc_string_string_loop2_F f)
instance slices_IndexFunc_string_string_o f s1 b2 : OL (slices_IndexFunc_string_string_F f s1 b2) (slices_IndexFunc_string_string s1 b2) := ⟨by rw [slices_IndexFunc_string_string_eq]; unfold slices_IndexFunc_string_string_F slices_IndexFunc_string_string_b; (try dsimp only); exact OL.le⟩
noncomputable def slices_ContainsFunc_string_string_F (f : Nat) := slices_ContainsFunc_string_string_b (slices_IndexFunc_string_string_F f)
instance slices_ContainsFunc_string_string_o f s1 b2 : OL (slices_ContainsFunc_string_string_F f s1 b2) (slices_ContainsFunc_string_string s1 b2) := ⟨by rw [slices_ContainsFunc_string_string_eq]; unfold slices_ContainsFunc_string_string_F slices_ContainsFunc_string_string_b; (try dsimp only); exact OL.le⟩
theorem slices_ContainsFunc_string_string_F_le f s1 b2 : Ole (slices_ContainsFunc_string_string_F f s1 b2) (slices_ContainsFunc_string_string s1 b2) := OL.le
end
end Go.Proofs.YtgffdmgidnnedaaGreat.P
