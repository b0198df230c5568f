/- The equations of functions. Printed by wip/tool/vsym.py. -/
import Derived.Test.YtgffdmgidnnedaaGreatG
import Derived.Test.YtgffdmgidnnedaaGreatLib
namespace Go.Proofs.YtgffdmgidnnedaaGreat.P
open Go Go.Proofs.YtgffdmgidnnedaaGreat.V
set_option linter.unusedVariables false
set_option linter.unusedSimpArgs false
set_option maxRecDepth 100000
noncomputable section
theorem page_builder_runs_eqD (s1 s2 s3 : Int) (s4 : List Int) (s5 : List Bool) (s6 : List Int) (b7 b8 b9 : Int) (b10 : List Int) (b11 b12 : Bool) (b13 b14 : Int) (b15 : List EntBitmap) (b16 : List Int) (b17 b18 : Int) : page_builder_runs s1 s2 s3 s4 s5 s6 b7 b8 b9 b10 b11 b12 b13 b14 b15 b16 b17 b18 =
 (page_cursor_begin b16 b17 b18).bind fun q19 =>
 let tr21 := q19.2.1;
 (page_cursor_byte 1 q19.2.2.2.2.2.2.1 q19.2.2.2.2.2.2.2.1 q19.2.2.2.2.2.2.2.2).bind fun q29 =>
 (page_cursor_check (decide (((s4.length : Nat) : Int) = 0)) 50 q29.2.1 q29.2.2.1 q29.2.2.2).bind fun q34 =>
 let tr37 := q34.2.2.1;
 let tr38 := q34.2.2.2;
 (if (!q34.1) = true then
 some (b7, b8, b9, b10, b11, b12, b13, b14, b15, q34.2.1, tr37, tr38)
 else
 (if (decide (q29.1 = 1)) = true then
 ((demon
 ((page_cursor_rest q34.2.1 tr37 tr38).bind fun q39 =>
 (runs_GetTwo q39.1 q19.1 tr21).bind fun q44 =>
 some (q44.2.2.2.1, q44.2.2.2.2, q39.2.1, q39.2.2.1, q39.2.2.2, q44.1, q44.2.1, q44.2.2.1))
 ((demon
 ((page_cursor_rest q34.2.1 tr37 tr38).bind fun q50 =>
 (runs_GetTwo q50.1 q19.1 tr21).bind fun q55 =>
 some (q55.2.2.2.1, q55.2.2.2.2, q50.2.1, q50.2.2.1, q50.2.2.2, q55.1, q55.2.1, q55.2.2.1))
 ((page_cursor_rest q34.2.1 tr37 tr38).bind fun q61 =>
 (runs_GetTwo q61.1 q19.1 tr21).bind fun q66 =>
 some (q66.2.2.2.1, q66.2.2.2.2, q61.2.1, q61.2.2.1, q61.2.2.2, q66.1, q66.2.1, q66.2.2.1))))) : Option (Int × Int × (List Int) × Int × Int × Int × Int × (List Int))).bind (fun p72 =>
 ((page_cursor_check (decide (p72.2.1 = 0)) p72.2.1 p72.2.2.1 p72.2.2.2.1 p72.2.2.2.2.1).bind fun q81 =>
 (if q81.1 = true then
 let t86 := IntKind.i64.wrap (p72.1 + 7);
 let t87 := IntKind.i64.wrap (t86.tdiv 8);
 (page_cursor_rest q81.2.1 q81.2.2.1 q81.2.2.2).bind fun q88 =>
 (page_cursor_check (decide (t87 = ((q88.1.length : Nat) : Int))) 3 q88.2.1 q88.2.2.1 q88.2.2.2).bind fun q93 =>
 some (q93.1, q93.2.1, q93.2.2.1, q93.2.2.2)
 else
 some (false, q81.2.1, q81.2.2.1, q81.2.2.2)) : Option (Bool × (List Int) × Int × Int)).bind (fun p98 =>
 (if p98.1 = true then
 (page_builder_draw s1 s2 s3 s4 s5 s6 q19.1 tr21 q19.2.2.1 q19.2.2.2.1 q19.2.2.2.2.1 q19.2.2.2.2.2.1 p72.2.2.2.2.2.1 p72.2.2.2.2.2.2.1 p72.2.2.2.2.2.2.2 b7 b8 b9 b10 b11 b12 b13 b14 b15).bind fun q103 =>
 some (q103.1, q103.2.1, q103.2.2.1, q103.2.2.2.1, q103.2.2.2.2.1, q103.2.2.2.2.2.1, q103.2.2.2.2.2.2.1, q103.2.2.2.2.2.2.2.1, q103.2.2.2.2.2.2.2.2, p98.2.1, p98.2.2.1, p98.2.2.2)
 else
 some (b7, b8, b9, b10, b11, b12, b13, b14, b15, p98.2.1, p98.2.2.1, p98.2.2.2))))
 else
 ((demon
 ((page_cursor_rest q34.2.1 tr37 tr38).bind fun q113 =>
 (runs_GetOne q113.1 q19.1 tr21).bind fun q118 =>
 some (q118.2.2.2.1, q118.2.2.2.2, q113.2.1, q113.2.2.1, q113.2.2.2, q118.1, q118.2.1, q118.2.2.1))
 ((demon
 ((page_cursor_rest q34.2.1 tr37 tr38).bind fun q124 =>
 (runs_GetOne q124.1 q19.1 tr21).bind fun q129 =>
 some (q129.2.2.2.1, q129.2.2.2.2, q124.2.1, q124.2.2.1, q124.2.2.2, q129.1, q129.2.1, q129.2.2.1))
 ((page_cursor_rest q34.2.1 tr37 tr38).bind fun q135 =>
 (runs_GetOne q135.1 q19.1 tr21).bind fun q140 =>
 some (q140.2.2.2.1, q140.2.2.2.2, q135.2.1, q135.2.2.1, q135.2.2.2, q140.1, q140.2.1, q140.2.2.1))))) : Option (Int × Int × (List Int) × Int × Int × Int × Int × (List Int))).bind (fun p146 =>
 ((page_cursor_check (decide (p146.2.1 = 0)) p146.2.1 p146.2.2.1 p146.2.2.2.1 p146.2.2.2.2.1).bind fun q155 =>
 (if q155.1 = true then
 let t160 := IntKind.i64.wrap (p146.1 + 7);
 let t161 := IntKind.i64.wrap (t160.tdiv 8);
 (page_cursor_rest q155.2.1 q155.2.2.1 q155.2.2.2).bind fun q162 =>
 (page_cursor_check (decide (t161 = ((q162.1.length : Nat) : Int))) 3 q162.2.1 q162.2.2.1 q162.2.2.2).bind fun q167 =>
 some (q167.1, q167.2.1, q167.2.2.1, q167.2.2.2)
 else
 some (false, q155.2.1, q155.2.2.1, q155.2.2.2)) : Option (Bool × (List Int) × Int × Int)).bind (fun p172 =>
 (if p172.1 = true then
 (page_builder_draw s1 s2 s3 s4 s5 s6 q19.1 tr21 q19.2.2.1 q19.2.2.2.1 q19.2.2.2.2.1 q19.2.2.2.2.2.1 p146.2.2.2.2.2.1 p146.2.2.2.2.2.2.1 p146.2.2.2.2.2.2.2 b7 b8 b9 b10 b11 b12 b13 b14 b15).bind fun q177 =>
 some (q177.1, q177.2.1, q177.2.2.1, q177.2.2.2.1, q177.2.2.2.2.1, q177.2.2.2.2.2.1, q177.2.2.2.2.2.2.1, q177.2.2.2.2.2.2.2.1, q177.2.2.2.2.2.2.2.2, p172.2.1, p172.2.2.1, p172.2.2.2)
 else
 some (b7, b8, b9, b10, b11, b12, b13, b14, b15, p172.2.1, p172.2.2.1, p172.2.2.2)))))) := (call_eq ..).trans (by kernel_rfl)
theorem page_builder_runs_eq (s1 s2 s3 : Int) (s4 : List Int) (s5 : List Bool) (s6 : List Int) (b7 b8 b9 : Int) (b10 : List Int) (b11 b12 : Bool) (b13 b14 : Int) (b15 : List EntBitmap) (b16 : List Int) (b17 b18 : Int) : page_builder_runs s1 s2 s3 s4 s5 s6 b7 b8 b9 b10 b11 b12 b13 b14 b15 b16 b17 b18 =
 (page_cursor_begin b16 b17 b18).bind fun q19 =>
 (page_cursor_byte 1 q19.2.2.2.2.2.2.1 q19.2.2.2.2.2.2.2.1 q19.2.2.2.2.2.2.2.2).bind fun q29 =>
 (page_cursor_check (decide (((s4.length : Nat) : Int) = 0)) 50 q29.2.1 q29.2.2.1 q29.2.2.2).bind fun q34 =>
 (if (!q34.1) = true then
 some (b7, b8, b9, b10, b11, b12, b13, b14, b15, q34.2.1, q34.2.2.1, q34.2.2.2)
 else
 (if (decide (q29.1 = 1)) = true then
 (((page_cursor_rest q34.2.1 q34.2.2.1 q34.2.2.2).bind fun q39 =>
 (runs_GetTwo q39.1 q19.1 q19.2.1).bind fun q44 =>
 some (q44.2.2.2.1, q44.2.2.2.2, q39.2.1, q39.2.2.1, q39.2.2.2, q44.1, q44.2.1, q44.2.2.1)) : Option (Int × Int × (List Int) × Int × Int × Int × Int × (List Int))).bind (fun p72 =>
 ((page_cursor_check (decide (p72.2.1 = 0)) p72.2.1 p72.2.2.1 p72.2.2.2.1 p72.2.2.2.2.1).bind fun q81 =>
 (if q81.1 = true then
 let t86 := IntKind.i64.wrap (p72.1 + 7);
 let t87 := IntKind.i64.wrap (t86.tdiv 8);
 (page_cursor_rest q81.2.1 q81.2.2.1 q81.2.2.2).bind fun q88 =>
 (page_cursor_check (decide (t87 = ((q88.1.length : Nat) : Int))) 3 q88.2.1 q88.2.2.1 q88.2.2.2).bind fun q93 =>
 some (q93.1, q93.2.1, q93.2.2.1, q93.2.2.2)
 else
 some (false, q81.2.1, q81.2.2.1, q81.2.2.2)) : Option (Bool × (List Int) × Int × Int)).bind (fun p98 =>
 (if p98.1 = true then
 (page_builder_draw s1 s2 s3 s4 s5 s6 q19.1 q19.2.1 q19.2.2.1 q19.2.2.2.1 q19.2.2.2.2.1 q19.2.2.2.2.2.1 p72.2.2.2.2.2.1 p72.2.2.2.2.2.2.1 p72.2.2.2.2.2.2.2 b7 b8 b9 b10 b11 b12 b13 b14 b15).bind fun q103 =>
 some (q103.1, q103.2.1, q103.2.2.1, q103.2.2.2.1, q103.2.2.2.2.1, q103.2.2.2.2.2.1, q103.2.2.2.2.2.2.1, q103.2.2.2.2.2.2.2.1, q103.2.2.2.2.2.2.2.2, p98.2.1, p98.2.2.1, p98.2.2.2)
 else
 some (b7, b8, b9, b10, b11, b12, b13, b14, b15, p98.2.1, p98.2.2.1, p98.2.2.2))))
 else
 (((page_cursor_rest q34.2.1 q34.2.2.1 q34.2.2.2).bind fun q113 =>
 (runs_GetOne q113.1 q19.1 q19.2.1).bind fun q118 =>
 some (q118.2.2.2.1, q118.2.2.2.2, q113.2.1, q113.2.2.1, q113.2.2.2, q118.1, q118.2.1, q118.2.2.1)) : Option (Int × Int × (List Int) × Int × Int × Int × Int × (List Int))).bind (fun p146 =>
 ((page_cursor_check (decide (p146.2.1 = 0)) p146.2.1 p146.2.2.1 p146.2.2.2.1 p146.2.2.2.2.1).bind fun q155 =>
 (if q155.1 = true then
 let t160 := IntKind.i64.wrap (p146.1 + 7);
 let t161 := IntKind.i64.wrap (t160.tdiv 8);
 (page_cursor_rest q155.2.1 q155.2.2.1 q155.2.2.2).bind fun q162 =>
 (page_cursor_check (decide (t161 = ((q162.1.length : Nat) : Int))) 3 q162.2.1 q162.2.2.1 q162.2.2.2).bind fun q167 =>
 some (q167.1, q167.2.1, q167.2.2.1, q167.2.2.2)
 else
 some (false, q155.2.1, q155.2.2.1, q155.2.2.2)) : Option (Bool × (List Int) × Int × Int)).bind (fun p172 =>
 (if p172.1 = true then
 (page_builder_draw s1 s2 s3 s4 s5 s6 q19.1 q19.2.1 q19.2.2.1 q19.2.2.2.1 q19.2.2.2.2.1 q19.2.2.2.2.2.1 p146.2.2.2.2.2.1 p146.2.2.2.2.2.2.1 p146.2.2.2.2.2.2.2 b7 b8 b9 b10 b11 b12 b13 b14 b15).bind fun q177 =>
 some (q177.1, q177.2.1, q177.2.2.1, q177.2.2.2.1, q177.2.2.2.2.1, q177.2.2.2.2.2.1, q177.2.2.2.2.2.2.1, q177.2.2.2.2.2.2.2.1, q177.2.2.2.2.2.2.2.2, p172.2.1, p172.2.2.1, p172.2.2.2)
 else
 some (b7, b8, b9, b10, b11, b12, b13, b14, b15, p172.2.1, p172.2.2.1, p172.2.2.2)))))) := by rw [page_builder_runs_eqD]; simp only [demon_same]

theorem page_builder_info_eq (b1 b2 b3 : Int) (b4 : List Int) (b5 b6 : Bool) (b7 b8 : Int) (b9 : List EntBitmap) (b10 : List Int) (b11 b12 : Int) : page_builder_info b1 b2 b3 b4 b5 b6 b7 b8 b9 b10 b11 b12 =
 (page_cursor_size b10 b11 b12).bind fun q13 =>
 (page_cursor_size q13.2.1 q13.2.2.1 q13.2.2.2).bind fun q18 =>
 let t23 := IntKind.i64.wrap (q18.1 - 1);
 ((if (decide (t23 < 0)) = true then
 some b8
 else
 some t23) : Option (Int)).bind (fun h24 =>
 (page_cursor_sides q13.1 h24 q18.2.1 q18.2.2.1 q18.2.2.2).bind fun q25 =>
 (page_cursor_byte 9 q25.1 q25.2.1 q25.2.2).bind fun q29 =>
 (page_cursor_end q29.2.1 q29.2.2.1 q29.2.2.2).bind fun q34 =>
 (if (decide (q34.2.2 = 0)) = true then
 let t38 : Int := q29.1.tmod 2;
 (bitmap_New q13.1 h24 t38).bind fun q39 =>
 some (b1, q39.1, q39.2.1, q39.2.2.2, true, b6, b7, b8, b9, q34.1, q34.2.1, q34.2.2)
 else
 some (b1, b2, b3, b4, b5, b6, b7, b8, b9, q34.1, q34.2.1, q34.2.2))) := (call_eq ..).trans (by kernel_rfl)

theorem page_cursor_check_eq (ok1 : Bool) (err2 : Int) (b3 : List Int) (b4 b5 : Int) : page_cursor_check ok1 err2 b3 b4 b5 =
 (if (!ok1) = true then
 (page_cursor_fail err2 b3 b4 b5).bind fun q6 =>
 some (decide (q6.2.2 = 0), q6.1, q6.2.1, q6.2.2)
 else
 some (decide (b5 = 0), b3, b4, b5)) := (call_eq ..).trans (by kernel_rfl)

theorem page_builder_stripes_eq (b1 b2 b3 : Int) (b4 : List Int) (b5 b6 : Bool) (b7 b8 : Int) (b9 : List EntBitmap) (b10 : List Int) (b11 b12 : Int) : page_builder_stripes b1 b2 b3 b4 b5 b6 b7 b8 b9 b10 b11 b12 =
 (page_cursor_size b10 b11 b12).bind fun q13 =>
 (page_cursor_end q13.2.1 q13.2.2.1 q13.2.2.2).bind fun q18 =>
 (page_cursor_check (decide (q13.1 > b7)) 3 q18.1 q18.2.1 q18.2.2).bind fun q22 =>
 (if q22.1 = true then
 some (b1, b2, b3, b4, b5, b6, q13.1, b8, b9, q22.2.1, q22.2.2.1, q22.2.2.2)
 else
 some (b1, b2, b3, b4, b5, b6, b7, b8, b9, q22.2.1, q22.2.2.1, q22.2.2.2)) := (call_eq ..).trans (by kernel_rfl)

theorem page_builder_none_eq (s1 s2 s3 : Int) (s4 : List Int) (s5 : List Bool) (s6 : List Int) (b7 b8 b9 : Int) (b10 : List Int) (b11 b12 : Bool) (b13 b14 : Int) (b15 : List EntBitmap) (b16 : List Int) (b17 b18 : Int) : page_builder_none s1 s2 s3 s4 s5 s6 b7 b8 b9 b10 b11 b12 b13 b14 b15 b16 b17 b18 =
 (page_cursor_end b16 b17 b18).bind fun q19 =>
 (page_cursor_check (decide (((s4.length : Nat) : Int) = 0)) 50 q19.1 q19.2.1 q19.2.2).bind fun q23 =>
 some (b7, b8, b9, b10, b11, b12, b13, b14, b15, q23.2.1, q23.2.2.1, q23.2.2.2) := (call_eq ..).trans (by kernel_rfl)

noncomputable def bitmap_fits_b (w1 h2 : Int) : Option Bool :=
 (if (decide (w1 ≥ 0)) = true then
 (if (decide (h2 ≥ 0)) = true then
 (if (decide (w1 ≤ 200)) = true then
 (if (decide (h2 ≤ 200)) = true then
 let t3 := IntKind.i64.wrap (w1 * h2);
 some (decide (t3 ≤ 8192))
 else
 some false)
 else
 some false)
 else
 some false)
 else
 some false)
theorem bitmap_fits_eq w1 h2 : bitmap_fits w1 h2 = bitmap_fits_b w1 h2 := (call_eq ..).trans (by kernel_rfl)

noncomputable def prefix_Standard_b (prefix_lines : type_of% @prefix_lines) (k1 : Int) : Option ((List Line) × Int) :=
 (if (decide (k1 = 0)) = true then
 (prefix_lines [(Arr4.mk 1 0 0 0), (Arr4.mk 2 1 1 0), (Arr4.mk 3 3 3 0), (Arr4.mk 4 5 11 0), (Arr4.mk 5 8 43 0), (Arr4.mk 5 20 299 0)]).bind fun q2 =>
 some (q2, 0)
 else
 (if (decide (k1 = 1)) = true then
 (prefix_lines [(Arr4.mk 1 2 0 0), (Arr4.mk 2 4 4 0), (Arr4.mk 3 8 20 0), (Arr4.mk 4 20 (-1) 1), (Arr4.mk 4 0 0 2)]).bind fun q3 =>
 some (q3, 0)
 else
 (if (decide (k1 = 2)) = true then
 (prefix_lines [(Arr4.mk 1 0 0 0), (Arr4.mk 3 2 1 0), (Arr4.mk 3 2 (-1) 1), (Arr4.mk 3 20 5 0), (Arr4.mk 3 20 (-5) 1)]).bind fun q4 =>
 some (q4, 0)
 else
 some ([], 2))))
theorem prefix_Standard_eq k1 : prefix_Standard k1 = prefix_Standard_b @prefix_lines k1 := (call_eq ..).trans (by kernel_rfl)

noncomputable def prefix_Bits_b (prefix_Valid : type_of% @prefix_Valid) (prefix_codes : type_of% @prefix_codes) (prefix_put : type_of% @prefix_put) (a1 : List Line) (n2 : Bool) (n3 : Int) : Option (Int × (List Int)) :=
 (prefix_Valid a1).bind fun q4 =>
 (if (!q4) = true then
 some (20, [])
 else
 (prefix_codes a1).bind fun q5 =>
 (prefix_put a1 q5 n2 n3).bind fun q6 =>
 some (q6.1, q6.2))
theorem prefix_Bits_eq a1 n2 n3 : prefix_Bits a1 n2 n3 = prefix_Bits_b @prefix_Valid @prefix_codes @prefix_put a1 n2 n3 := (call_eq ..).trans (by kernel_rfl)

noncomputable def runs_remains_b (colour1 : Int) : Option (List Line) :=
 (if (decide (colour1 = 0)) = true then
 some [(Line.mk 2 2 0 0), (Line.mk 2 3 4 0), (Line.mk 2 4 12 0), (Line.mk 2 6 28 0)]
 else
 some [(Line.mk 1 1 0 0), (Line.mk 2 1 2 0), (Line.mk 3 2 4 0), (Line.mk 3 6 8 0)])
theorem runs_remains_eq colour1 : runs_remains colour1 = runs_remains_b colour1 := (call_eq ..).trans (by kernel_rfl)

noncomputable def runs_marks_loop2 (above1 : List Int) (colour3 b5 : Int) : Option ((Int) ⊕ (Int)) :=
 (if (decide (b5 < ((above1.length : Nat) : Int))) = true then
 ((if (decide (b5 > 0)) = true then
 let t6 := IntKind.i64.wrap (b5 - 1);
 (if 0 ≤ t6 ∧ t6 < (above1.length : Int) then
 some (rd above1 t6)
 else
 none)
 else
 some 0) : Option (Int)).bind (fun left7 =>
 (if 0 ≤ b5 ∧ b5 < (above1.length : Int) then
 (if (!decide (rd above1 b5 = colour3)) = true then
 (if (decide (left7 = colour3)) = true then
 some (Sum.inr b5)
 else
 let t8 := IntKind.i64.wrap (b5 + 1);
 some (Sum.inl t8))
 else
 let t9 := IntKind.i64.wrap (b5 + 1);
 some (Sum.inl t9))
 else
 none))
 else
 some (Sum.inr b5))
theorem runs_marks_eq (above1 : List Int) (a2 colour3 : Int) : runs_marks above1 a2 colour3 =
 let t4 := IntKind.i64.wrap (a2 + 1);
 (loop (runs_marks_loop2 above1 colour3) t4).bind (fun b10 =>
 let t11 := imin b10 ((above1.length : Nat) : Int);
 (runs_change above1 t11 colour3).bind fun q12 =>
 some (t11, q12)) := (call_eq ..).trans (by kernel_rfl)

noncomputable def runs_change_loop2 (pixels1 : List Int) (colour3 x5 : Int) : Option ((Int) ⊕ (Int)) :=
 (if (decide (x5 < ((pixels1.length : Nat) : Int))) = true then
 (if 0 ≤ x5 ∧ x5 < (pixels1.length : Int) then
 (if (!decide (rd pixels1 x5 = colour3)) = true then
 let t6 := IntKind.i64.wrap (x5 + 1);
 some (Sum.inl t6)
 else
 some (Sum.inr x5))
 else
 none)
 else
 some (Sum.inr x5))
theorem runs_change_eq (pixels1 : List Int) (a2 colour3 : Int) : runs_change pixels1 a2 colour3 =
 let t4 := IntKind.i64.wrap (a2 + 1);
 (loop (runs_change_loop2 pixels1 colour3) t4).bind (fun x7 =>
 let t8 := imin x7 ((pixels1.length : Nat) : Int);
 some t8) := (call_eq ..).trans (by kernel_rfl)

noncomputable def runs_list_loop3 (s1 : List Int) (s2 : Int × (List Int)) : Option ((Int × (List Int)) ⊕ ((List Int))) :=
 (if (decide (s2.1 < ((s1.length : Nat) : Int))) = true then
 (if 0 ≤ s2.1 ∧ s2.1 < (s2.2.length : Int) then
 let t5 : Int := rd s2.2 s2.1;
 let t6 := IntKind.u8.wrap (t5 - 48);
 (if 0 ≤ s2.1 ∧ s2.1 < (s2.2.length : Int) then
 let w7 : List Int := s2.2.set s2.1.toNat t6;
 let t8 := IntKind.i64.wrap (s2.1 + 1);
 some (Sum.inl (t8, w7))
 else
 none)
 else
 none)
 else
 some (Sum.inr s2.2))

noncomputable def runs_list_b (loop : type_of% @loop) (runs_list_loop3 : type_of% @runs_list_loop3) (s1 : List Int) : Option (List Int) :=
 (loop (runs_list_loop3 s1) (0, s1)).bind (fun b12 =>
 some b12)
theorem runs_list_eq s1 : runs_list s1 = runs_list_b @loop @runs_list_loop3 s1 := (call_eq ..).trans (by kernel_rfl)

noncomputable def runs_uprights_b : Option (List (List Int)) :=
 some [[48, 48, 48, 48, 48, 49, 48], [48, 48, 48, 48, 49, 48], [48, 49, 48], [49], [48, 49, 49], [48, 48, 48, 48, 49, 49], [48, 48, 48, 48, 48, 49, 49]]
theorem runs_uprights_eq : runs_uprights = runs_uprights_b := (call_eq ..).trans (by kernel_rfl)

theorem refine_contexts_eq (template1 : Int) : refine_contexts template1 =
 (refine_fresh template1).bind fun q2 =>
 (if ((q2.length : Nat) : Int) < 0 then
 none
 else
 let t3 := ishl .i64 32 ((q2.length : Nat) : Int);
 some t3) := (call_eq ..).trans (by kernel_rfl)

theorem coder_New_eq (kind1 n2 : Int) : coder_New kind1 n2 =
 ((if (!decide (kind1 = 0)) = true then
 (if (!decide (kind1 = 1)) = true then
 some true
 else
 (if (decide (n2 < 0)) = true then
 some true
 else
 some (decide (n2 > 8192))))
 else
 (if (decide (n2 < 0)) = true then
 some true
 else
 some (decide (n2 > 8192)))) : Option (Bool)).bind (fun v3 =>
 (if v3 = true then
 some (0, 2, [])
 else
 (if 0 ≤ n2 ∧ n2 ≤ n2 ∧ ((8 : Nat) : Int) * n2 ≤ 281474976710656 then
 let t4 : List Int := List.replicate n2.toNat 0;
 some (kind1, 0, t4)
 else
 none))) := (call_eq ..).trans (by kernel_rfl)

noncomputable def coder_Valid_loop7 (m2 : List Int) (end4 v5 : Int) : Option ((Int) ⊕ ((Unit) ⊕ (Bool))) :=
 (if (decide (v5 < ((m2.length : Nat) : Int))) = true then
 (if 0 ≤ v5 ∧ v5 < (m2.length : Int) then
 (if (decide (rd m2 v5 < 0)) = true then
 some (Sum.inr (Sum.inr false))
 else
 (if (decide (rd m2 v5 ≥ end4)) = true then
 some (Sum.inr (Sum.inr false))
 else
 let t6 := IntKind.i64.wrap (v5 + 1);
 some (Sum.inl t6)))
 else
 none)
 else
 some (Sum.inr (Sum.inl ())))
noncomputable def coder_Valid_loop7_step (end4 : Int) (i7 : Nat) (x8 : Int) (s9 : Unit) : Option ((Unit) ⊕ ((Unit) ⊕ (Bool))) :=
 (if (decide (x8 < 0)) = true then
 some (Sum.inr (Sum.inr false))
 else
 (if (decide (x8 ≥ end4)) = true then
 some (Sum.inr (Sum.inr false))
 else
 some (Sum.inl (()))))
theorem coder_Valid_loop7_over (m2 : List Int) (end4 : Int) (hl : m2.length ≤ 9223372036854775807) (s9 : Unit) : loop (coder_Valid_loop7 m2 end4) (0 : Int) =
    overL (coder_Valid_loop7_step end4) (fun (s9 : Unit) => some (Sum.inl ())) 0 m2 s9 := by
  refine loop_over m2 (fun n (s : Unit) => (((n : Nat) : Int) : Int)) _ _ (fun s => ?_) (fun i x s h => ?_) 0 s9 (Nat.zero_le _)
  · unfold coder_Valid_loop7; simp
  · have hlt := lt_len_of_get h
    have h1 : ((i : Nat) : Int) < ((m2.length : Nat) : Int) := by omega
    have h0 : (0 : Int) ≤ ((i : Nat) : Int) := by omega
    have hw : IntKind.i64.wrap (((i : Nat) : Int) + 1) = (((i + 1 : Nat) : Nat) : Int) := w64 (by omega)
    have hr : rd m2 ((i : Nat) : Int) = x := rd_nat h
    unfold coder_Valid_loop7 coder_Valid_loop7_step
    simp only [h1, h0, hw, h, hr, decide_true, if_true, and_self, true_and, Int.toNat_natCast, Option.bind_some, Option.map_bind, Function.comp_def, map_ite, map_elim, Option.map_some, Option.map_none]

theorem coder_Valid_eq (m1 : Int) (m2 : List Int) : coder_Valid m1 m2 =
 ((if (!decide (m1 = 0)) = true then
 (if (!decide (m1 = 1)) = true then
 some true
 else
 some (decide (((m2.length : Nat) : Int) > 8192)))
 else
 some (decide (((m2.length : Nat) : Int) > 8192))) : Option (Bool)).bind (fun v3 =>
 (if v3 = true then
 some false
 else
 ((if (decide (m1 = 1)) = true then
 some 65536
 else
 some 64) : Option (Int)).bind (fun end4 =>
 (loop (coder_Valid_loop7 m2 end4) 0).bind (fun o12 =>
 (Sum.elim (fun (p10 : Unit) =>
 some true)
 (fun (v11 : Bool) =>
 some v11) o12))))) := (call_eq ..).trans (by kernel_rfl)

theorem coder_begin_eq (m1 : Int) (m2 : List Int) : coder_begin m1 m2 =
 (coder_clone m1 m2).bind fun q3 =>
 (coder_chances).bind fun q6 =>
 some (q3.1, 0, 4294967295, q3.2) := (call_eq ..).trans (by kernel_rfl)

noncomputable def coder_Encoder_Put_loop6_D (s32 : Int × Int × Int × (List Int) × (List Int)) : Option ((Int × Int × Int × (List Int) × (List Int)) ⊕ (Int × Int × Int × (List Int) × (List Int))) :=
 (coder_interval_same s32.1 s32.2.1 s32.2.2.1 s32.2.2.2.1 s32.2.2.2.2).bind fun q38 =>
 (if q38.1 = true then
 (demon
 ((coder_interval_lose q38.2.1 q38.2.2.1 q38.2.2.2.1 q38.2.2.2.2.1 q38.2.2.2.2.2).bind fun q45 =>
 (if (q45.2.2.2.2.2.length + ([q45.1] : List Int).length) * 1 ≤ 140737488355328 then
 let t52 : List Int := q45.2.2.2.2.2 ++ [q45.1];
 some (Sum.inl (q45.2.1, q45.2.2.1, q45.2.2.2.1, q45.2.2.2.2.1, t52))
 else
 none))
 ((coder_interval_lose q38.2.1 q38.2.2.1 q38.2.2.2.1 q38.2.2.2.2.1 q38.2.2.2.2.2).bind fun q53 =>
 (if (q53.2.2.2.2.2.length + ([q53.1] : List Int).length) * 1 ≤ 140737488355328 then
 let t60 : List Int := q53.2.2.2.2.2 ++ [q53.1];
 some (Sum.inl (q53.2.1, q53.2.2.1, q53.2.2.2.1, q53.2.2.2.2.1, t60))
 else
 none)))
 else
 some (Sum.inr (q38.2.1, q38.2.2.1, q38.2.2.2.1, q38.2.2.2.2.1, q38.2.2.2.2.2)))
noncomputable def coder_Encoder_Put_loop6 (s32 : Int × Int × Int × (List Int) × (List Int)) : Option ((Int × Int × Int × (List Int) × (List Int)) ⊕ (Int × Int × Int × (List Int) × (List Int))) :=
 (coder_interval_same s32.1 s32.2.1 s32.2.2.1 s32.2.2.2.1 s32.2.2.2.2).bind fun q38 =>
 (if q38.1 = true then
 ((coder_interval_lose q38.2.1 q38.2.2.1 q38.2.2.2.1 q38.2.2.2.2.1 q38.2.2.2.2.2).bind fun q45 =>
 (if (q45.2.2.2.2.2.length + ([q45.1] : List Int).length) * 1 ≤ 140737488355328 then
 let t52 : List Int := q45.2.2.2.2.2 ++ [q45.1];
 some (Sum.inl (q45.2.1, q45.2.2.1, q45.2.2.2.1, q45.2.2.2.2.1, t52))
 else
 none))
 else
 some (Sum.inr (q38.2.1, q38.2.2.1, q38.2.2.2.1, q38.2.2.2.2.1, q38.2.2.2.2.2)))
theorem coder_Encoder_Put_loop6_D_eq : coder_Encoder_Put_loop6_D = coder_Encoder_Put_loop6 := by
  funext s32; unfold coder_Encoder_Put_loop6_D coder_Encoder_Put_loop6; simp only [demon_same]
theorem coder_Encoder_Put_eqD (ctx1 bit2 b3 b4 b5 : Int) (b6 b7 : List Int) : coder_Encoder_Put ctx1 bit2 b3 b4 b5 b6 b7 =
 (coder_Encoder_none b3 b4 b5 b6 b7).bind fun q8 =>
 ((if q8.1 = true then
 some (Sum.inr 7)
 else
 ((if (decide (ctx1 < 0)) = true then
 some true
 else
 (if (decide (ctx1 ≥ ((q8.2.2.2.2.1.length : Nat) : Int))) = true then
 some true
 else
 (if (!decide (bit2 = 0)) = true then
 some (!decide (bit2 = 1))
 else
 some false))) : Option (Bool)).bind (fun v15 =>
 (if v15 = true then
 some (Sum.inr 2)
 else
 some (Sum.inl ())))) : Option ((Unit) ⊕ (Int))).bind (fun o18 =>
 (Sum.elim (fun (p16 : Unit) =>
 (coder_interval_mid ctx1 q8.2.1 q8.2.2.1 q8.2.2.2.1 q8.2.2.2.2.1 q8.2.2.2.2.2).bind fun q19 =>
 (coder_interval_take ctx1 bit2 q19.1 q19.2.1 q19.2.2.1 q19.2.2.2.1 q19.2.2.2.2.1 q19.2.2.2.2.2).bind fun q26 =>
 (loop (coder_Encoder_Put_loop6_D) (q26.1, q26.2.1, q26.2.2.1, q26.2.2.2.1, q26.2.2.2.2)).bind (fun p61 =>
 some (0, p61.1, p61.2.1, p61.2.2.1, p61.2.2.2.1, p61.2.2.2.2)))
 (fun (v17 : Int) =>
 some (v17, q8.2.1, q8.2.2.1, q8.2.2.2.1, q8.2.2.2.2.1, q8.2.2.2.2.2)) o18)) := (call_eq ..).trans (by kernel_rfl)
theorem coder_Encoder_Put_eq (ctx1 bit2 b3 b4 b5 : Int) (b6 b7 : List Int) : coder_Encoder_Put ctx1 bit2 b3 b4 b5 b6 b7 =
 (coder_Encoder_none b3 b4 b5 b6 b7).bind fun q8 =>
 ((if q8.1 = true then
 some (Sum.inr 7)
 else
 ((if (decide (ctx1 < 0)) = true then
 some true
 else
 (if (decide (ctx1 ≥ ((q8.2.2.2.2.1.length : Nat) : Int))) = true then
 some true
 else
 (if (!decide (bit2 = 0)) = true then
 some (!decide (bit2 = 1))
 else
 some false))) : Option (Bool)).bind (fun v15 =>
 (if v15 = true then
 some (Sum.inr 2)
 else
 some (Sum.inl ())))) : Option ((Unit) ⊕ (Int))).bind (fun o18 =>
 (Sum.elim (fun (p16 : Unit) =>
 (coder_interval_mid ctx1 q8.2.1 q8.2.2.1 q8.2.2.2.1 q8.2.2.2.2.1 q8.2.2.2.2.2).bind fun q19 =>
 (coder_interval_take ctx1 bit2 q19.1 q19.2.1 q19.2.2.1 q19.2.2.2.1 q19.2.2.2.2.1 q19.2.2.2.2.2).bind fun q26 =>
 (loop (coder_Encoder_Put_loop6) (q26.1, q26.2.1, q26.2.2.1, q26.2.2.2.1, q26.2.2.2.2)).bind (fun p61 =>
 some (0, p61.1, p61.2.1, p61.2.2.1, p61.2.2.2.1, p61.2.2.2.2)))
 (fun (v17 : Int) =>
 some (v17, q8.2.1, q8.2.2.1, q8.2.2.2.1, q8.2.2.2.2.1, q8.2.2.2.2.2)) o18)) := by rw [coder_Encoder_Put_eqD]; simp only [demon_same, coder_Encoder_Put_loop6_D_eq]

theorem coder_Encoder_Model_eq (b1 b2 b3 : Int) (b4 b5 : List Int) : coder_Encoder_Model b1 b2 b3 b4 b5 =
 (coder_Encoder_none b1 b2 b3 b4 b5).bind fun q6 =>
 (if q6.1 = true then
 some (0, [], q6.2.1, q6.2.2.1, q6.2.2.2.1, q6.2.2.2.2.1, q6.2.2.2.2.2)
 else
 (coder_clone q6.2.1 q6.2.2.2.2.1).bind fun q13 =>
 some (q13.1, q13.2, q6.2.1, q6.2.2.1, q6.2.2.2.1, q6.2.2.2.2.1, q6.2.2.2.2.2)) := (call_eq ..).trans (by kernel_rfl)

theorem refine_fits_eq (m1 : Int) (m2 : List Int) (base3 o4 o5 o6 : Int) (o7 : Bool) (o8 : Int) : refine_fits m1 m2 base3 o4 o5 o6 o7 o8 =
 (if (decide (base3 ≥ 0)) = true then
 (refine_contexts o4).bind fun q9 =>
 let t10 := IntKind.i64.wrap (((m2.length : Nat) : Int) - q9);
 let t11 := IntKind.i64.wrap (t10 - 1);
 some (decide (base3 ≤ t11))
 else
 some false) := (call_eq ..).trans (by kernel_rfl)

theorem refine_newRegion_eq (o1 o2 o3 : Int) (o4 : Bool) (o5 w6 h7 : Int) (pix8 : List Int) (r9 r10 : Int) (r11 : List Int) : refine_newRegion o1 o2 o3 o4 o5 w6 h7 pix8 r9 r10 r11 =
 some (o1, o2, o3, o4, o5, w6, h7, pix8, r9, r10, r11) := (call_eq ..).trans (by kernel_rfl)

noncomputable def refine_region_typical_loop2 (y1 b7 : Int) (s13 : Int × Int × Int × Int × Bool × Int × Int × Int × (List Int) × Int × Int × (List Int)) : Option ((Int × Int × Int × Int × Bool × Int × Int × Int × (List Int) × Int × Int × (List Int)) ⊕ ((Int × Int × Int × Bool × Int × Int × Int × (List Int) × Int × Int × (List Int)) ⊕ (Bool × Int × Int × Int × Bool × Int × Int × Int × (List Int) × Int × Int × (List Int)))) :=
 let b22 := s13.2.2.2.2.2.2.2.2.1;
 let b23 := s13.2.2.2.2.2.2.2.2.2.1;
 let b24 := s13.2.2.2.2.2.2.2.2.2.2.1;
 let b25 := s13.2.2.2.2.2.2.2.2.2.2.2;
 (if (decide (s13.1 < b7)) = true then
 (refine_region_flat s13.1 y1 s13.2.1 s13.2.2.1 s13.2.2.2.1 s13.2.2.2.2.1 s13.2.2.2.2.2.1 s13.2.2.2.2.2.2.1 s13.2.2.2.2.2.2.2.1 b22 b23 b24 b25).bind fun q26 =>
 let tr32 := q26.2.2.2.2.2.1;
 let tr33 := q26.2.2.2.2.2.2.1;
 let tr34 := q26.2.2.2.2.2.2.2.1;
 let tr35 := q26.2.2.2.2.2.2.2.2.1;
 let tr36 := q26.2.2.2.2.2.2.2.2.2.1;
 let tr37 := q26.2.2.2.2.2.2.2.2.2.2.1;
 let tr38 := q26.2.2.2.2.2.2.2.2.2.2.2.1;
 let tr39 := q26.2.2.2.2.2.2.2.2.2.2.2.2;
 (if q26.2.1 = true then
 (refine_grid_at tr34 tr35 tr36 s13.1 y1).bind fun q40 =>
 (if (!decide (q26.1 = q40)) = true then
 some (Sum.inr (Sum.inr (false, q26.2.2.1, q26.2.2.2.1, q26.2.2.2.2.1, tr32, tr33, tr34, tr35, tr36, tr37, tr38, tr39)))
 else
 let t41 := IntKind.i64.wrap (s13.1 + 1);
 some (Sum.inl (t41, q26.2.2.1, q26.2.2.2.1, q26.2.2.2.2.1, tr32, tr33, tr34, tr35, tr36, tr37, tr38, tr39)))
 else
 let t42 := IntKind.i64.wrap (s13.1 + 1);
 some (Sum.inl (t42, q26.2.2.1, q26.2.2.2.1, q26.2.2.2.2.1, tr32, tr33, tr34, tr35, tr36, tr37, tr38, tr39)))
 else
 some (Sum.inr (Sum.inl (s13.2.1, s13.2.2.1, s13.2.2.2.1, s13.2.2.2.2.1, s13.2.2.2.2.2.1, s13.2.2.2.2.2.2.1, s13.2.2.2.2.2.2.2.1, b22, b23, b24, b25))))
noncomputable def refine_region_typical_loop2_step (y1 : Int) (i43 x44 : Nat) (s45 : Int × Int × Int × Bool × Int × Int × Int × (List Int) × Int × Int × (List Int)) : Option ((Int × Int × Int × Bool × Int × Int × Int × (List Int) × Int × Int × (List Int)) ⊕ ((Int × Int × Int × Bool × Int × Int × Int × (List Int) × Int × Int × (List Int)) ⊕ (Bool × Int × Int × Int × Bool × Int × Int × Int × (List Int) × Int × Int × (List Int)))) :=
 (refine_region_flat ((i43 : Nat) : Int) y1 s45.1 s45.2.1 s45.2.2.1 s45.2.2.2.1 s45.2.2.2.2.1 s45.2.2.2.2.2.1 s45.2.2.2.2.2.2.1 s45.2.2.2.2.2.2.2.1 s45.2.2.2.2.2.2.2.2.1 s45.2.2.2.2.2.2.2.2.2.1 s45.2.2.2.2.2.2.2.2.2.2).bind fun q26 =>
 let tr32 := q26.2.2.2.2.2.1;
 let tr33 := q26.2.2.2.2.2.2.1;
 let tr34 := q26.2.2.2.2.2.2.2.1;
 let tr35 := q26.2.2.2.2.2.2.2.2.1;
 let tr36 := q26.2.2.2.2.2.2.2.2.2.1;
 let tr37 := q26.2.2.2.2.2.2.2.2.2.2.1;
 let tr38 := q26.2.2.2.2.2.2.2.2.2.2.2.1;
 let tr39 := q26.2.2.2.2.2.2.2.2.2.2.2.2;
 (if q26.2.1 = true then
 (refine_grid_at tr34 tr35 tr36 ((i43 : Nat) : Int) y1).bind fun q40 =>
 (if (!decide (q26.1 = q40)) = true then
 some (Sum.inr (Sum.inr (false, q26.2.2.1, q26.2.2.2.1, q26.2.2.2.2.1, tr32, tr33, tr34, tr35, tr36, tr37, tr38, tr39)))
 else
 some (Sum.inl ((q26.2.2.1, q26.2.2.2.1, q26.2.2.2.2.1, tr32, tr33, tr34, tr35, tr36, tr37, tr38, tr39))))
 else
 some (Sum.inl ((q26.2.2.1, q26.2.2.2.1, q26.2.2.2.2.1, tr32, tr33, tr34, tr35, tr36, tr37, tr38, tr39))))
theorem refine_region_typical_loop2_over (y1 b7 : Int) (hl : (List.range (b7).toNat).length ≤ 9223372036854775807) (s45 : Int × Int × Int × Bool × Int × Int × Int × (List Int) × Int × Int × (List Int)) : loop (refine_region_typical_loop2 y1 b7) ((0, s45.1, s45.2.1, s45.2.2.1, s45.2.2.2.1, s45.2.2.2.2.1, s45.2.2.2.2.2.1, s45.2.2.2.2.2.2.1, s45.2.2.2.2.2.2.2.1, s45.2.2.2.2.2.2.2.2.1, s45.2.2.2.2.2.2.2.2.2.1, s45.2.2.2.2.2.2.2.2.2.2) : Int × Int × Int × Int × Bool × Int × Int × Int × (List Int) × Int × Int × (List Int)) =
    overL (refine_region_typical_loop2_step y1) (fun (s45 : Int × Int × Int × Bool × Int × Int × Int × (List Int) × Int × Int × (List Int)) => let b46 := s45.1; let b47 := s45.2.1; let b48 := s45.2.2.1; let b49 := s45.2.2.2.1; let b50 := s45.2.2.2.2.1; let b51 := s45.2.2.2.2.2.1; let b52 := s45.2.2.2.2.2.2.1; let b53 := s45.2.2.2.2.2.2.2.1; let b54 := s45.2.2.2.2.2.2.2.2.1; let b55 := s45.2.2.2.2.2.2.2.2.2.1; let b56 := s45.2.2.2.2.2.2.2.2.2.2; some (Sum.inl (b46, b47, b48, b49, b50, b51, b52, b53, b54, b55, b56))) 0 (List.range (b7).toNat) s45 := by
  refine loop_over (List.range (b7).toNat) (fun n (s : Int × Int × Int × Bool × Int × Int × Int × (List Int) × Int × Int × (List Int)) => ((((n : Nat) : Int), s.1, s.2.1, s.2.2.1, s.2.2.2.1, s.2.2.2.2.1, s.2.2.2.2.2.1, s.2.2.2.2.2.2.1, s.2.2.2.2.2.2.2.1, s.2.2.2.2.2.2.2.2.1, s.2.2.2.2.2.2.2.2.2.1, s.2.2.2.2.2.2.2.2.2.2) : Int × Int × Int × Int × Bool × Int × Int × Int × (List Int) × Int × Int × (List Int))) _ _ (fun s => ?_) (fun i x s h => ?_) 0 s45 (Nat.zero_le _)
  · have h1 : ¬ (((List.range (b7).toNat).length : Nat) : Int) < b7 := by simp only [List.length_range]; omega
    unfold refine_region_typical_loop2; simp only [h1, decide_false, Bool.false_eq_true, if_false, Option.map_some]
  · have hlt := lt_len_of_get h
    rw [List.length_range] at hlt hl
    rw [List.getElem?_range hlt] at h
    cases h
    have h1 : ((i : Nat) : Int) < b7 := by omega
    have h0 : (0 : Int) ≤ ((i : Nat) : Int) := by omega
    have hw : IntKind.i64.wrap (((i : Nat) : Int) + 1) = (((i + 1 : Nat) : Nat) : Int) := w64 (by omega)
    unfold refine_region_typical_loop2 refine_region_typical_loop2_step
    simp only [h1, h0, hw, decide_true, if_true, and_self, true_and, Int.toNat_natCast, Option.bind_some, Option.map_bind, Function.comp_def, map_ite, map_elim, Option.map_some, Option.map_none]

theorem refine_region_typical_eq (y1 b2 b3 b4 : Int) (b5 : Bool) (b6 b7 b8 : Int) (b9 : List Int) (b10 b11 : Int) (b12 : List Int) : refine_region_typical y1 b2 b3 b4 b5 b6 b7 b8 b9 b10 b11 b12 =
 (loop (refine_region_typical_loop2 y1 b7) (0, b2, b3, b4, b5, b6, b7, b8, b9, b10, b11, b12)).bind (fun o82 =>
 (Sum.elim (fun (p57 : Int × Int × Int × Bool × Int × Int × Int × (List Int) × Int × Int × (List Int)) =>
 some (true, p57.1, p57.2.1, p57.2.2.1, p57.2.2.2.1, p57.2.2.2.2.1, p57.2.2.2.2.2.1, p57.2.2.2.2.2.2.1, p57.2.2.2.2.2.2.2.1, p57.2.2.2.2.2.2.2.2.1, p57.2.2.2.2.2.2.2.2.2.1, p57.2.2.2.2.2.2.2.2.2.2))
 (fun (p69 : Bool × Int × Int × Int × Bool × Int × Int × Int × (List Int) × Int × Int × (List Int)) =>
 some (p69.1, p69.2.1, p69.2.2.1, p69.2.2.2.1, p69.2.2.2.2.1, p69.2.2.2.2.2.1, p69.2.2.2.2.2.2.1, p69.2.2.2.2.2.2.2.1, p69.2.2.2.2.2.2.2.2.1, p69.2.2.2.2.2.2.2.2.2.1, p69.2.2.2.2.2.2.2.2.2.2.1, p69.2.2.2.2.2.2.2.2.2.2.2)) o82)) := (call_eq ..).trans (by kernel_rfl)

noncomputable def refine_region_flat_loop3 (x1 y2 b4 b5 b11 b12 : Int) (b13 : List Int) (q16 v17 : Int) : Option ((Int) ⊕ ((Unit) ⊕ (Int × Bool))) :=
 (if (decide (v17 < 9)) = true then
 let t18 := IntKind.i64.wrap (x1 - b4);
 let t19 : Int := v17.tmod 3;
 let t20 := IntKind.i64.wrap (t18 + t19);
 let t21 := IntKind.i64.wrap (t20 - 1);
 let t22 := IntKind.i64.wrap (y2 - b5);
 let t23 := IntKind.i64.wrap (v17.tdiv 3);
 let t24 := IntKind.i64.wrap (t22 + t23);
 let t25 := IntKind.i64.wrap (t24 - 1);
 (refine_grid_at b11 b12 b13 t21 t25).bind fun q26 =>
 (if (!decide (q26 = q16)) = true then
 some (Sum.inr (Sum.inr (0, false)))
 else
 let t27 := IntKind.i64.wrap (v17 + 1);
 some (Sum.inl t27))
 else
 some (Sum.inr (Sum.inl ())))

theorem refine_region_flat_eq (x1 y2 b3 b4 b5 : Int) (b6 : Bool) (b7 b8 b9 : Int) (b10 : List Int) (b11 b12 : Int) (b13 : List Int) : refine_region_flat x1 y2 b3 b4 b5 b6 b7 b8 b9 b10 b11 b12 b13 =
 let t14 := IntKind.i64.wrap (x1 - b4);
 let t15 := IntKind.i64.wrap (y2 - b5);
 (refine_grid_at b11 b12 b13 t14 t15).bind fun q16 =>
 (loop (refine_region_flat_loop3 x1 y2 b4 b5 b11 b12 b13 q16) 0).bind (fun o35 =>
 (Sum.elim (fun (p31 : Unit) =>
 some (q16, true, b3, b4, b5, b6, b7, b8, b9, b10, b11, b12, b13))
 (fun (p32 : Int × Bool) =>
 some (p32.1, p32.2, b3, b4, b5, b6, b7, b8, b9, b10, b11, b12, b13)) o35)) := (call_eq ..).trans (by kernel_rfl)

noncomputable def refine_region_context_loop3 (x1 y2 b8 b9 : Int) (b10 : List Int) (q14 : (List Arr2)) (s15 : Int × Int) : Option ((Int × Int) ⊕ (Int)) :=
 (if (decide (s15.2 < ((q14.length : Nat) : Int))) = true then
 (if 0 ≤ s15.2 then
 (q14[s15.2.toNat]?).bind fun e18 =>
 let t19 := IntKind.i64.wrap (2 * s15.1);
 (if 0 ≤ (0 : Int) ∧ (0 : Int) < ((2 : Nat) : Int) then
 let t20 := IntKind.i64.wrap (x1 + e18.a0);
 (if 0 ≤ (1 : Int) ∧ (1 : Int) < ((2 : Nat) : Int) then
 let t21 := IntKind.i64.wrap (y2 + e18.a1);
 (refine_grid_at b8 b9 b10 t20 t21).bind fun q22 =>
 let t23 := IntKind.i64.wrap q22;
 let t24 := IntKind.i64.wrap (t19 + t23);
 let t25 := IntKind.i64.wrap (s15.2 + 1);
 some (Sum.inl (t24, t25))
 else
 none)
 else
 none)
 else
 none)
 else
 some (Sum.inr s15.1))
noncomputable def refine_region_context_loop8 (x1 y2 b4 b5 b11 b12 : Int) (b13 : List Int) (q27 : (List Arr2)) (s28 : Int × Int) : Option ((Int × Int) ⊕ (Int)) :=
 (if (decide (s28.2 < ((q27.length : Nat) : Int))) = true then
 (if 0 ≤ s28.2 then
 (q27[s28.2.toNat]?).bind fun e31 =>
 let t32 := IntKind.i64.wrap (2 * s28.1);
 let t33 := IntKind.i64.wrap (x1 - b4);
 (if 0 ≤ (0 : Int) ∧ (0 : Int) < ((2 : Nat) : Int) then
 let t34 := IntKind.i64.wrap (t33 + e31.a0);
 let t35 := IntKind.i64.wrap (y2 - b5);
 (if 0 ≤ (1 : Int) ∧ (1 : Int) < ((2 : Nat) : Int) then
 let t36 := IntKind.i64.wrap (t35 + e31.a1);
 (refine_grid_at b11 b12 b13 t34 t36).bind fun q37 =>
 let t38 := IntKind.i64.wrap q37;
 let t39 := IntKind.i64.wrap (t32 + t38);
 let t40 := IntKind.i64.wrap (s28.2 + 1);
 some (Sum.inl (t39, t40))
 else
 none)
 else
 none)
 else
 none)
 else
 some (Sum.inr s28.1))
theorem refine_region_context_eq (x1 y2 b3 b4 b5 : Int) (b6 : Bool) (b7 b8 b9 : Int) (b10 : List Int) (b11 b12 : Int) (b13 : List Int) : refine_region_context x1 y2 b3 b4 b5 b6 b7 b8 b9 b10 b11 b12 b13 =
 (refine_fresh b3).bind fun q14 =>
 (loop (refine_region_context_loop3 x1 y2 b8 b9 b10 q14) (0, 0)).bind (fun n26 =>
 (refine_beside).bind fun q27 =>
 (loop (refine_region_context_loop8 x1 y2 b4 b5 b11 b12 b13 q27) (n26, 0)).bind (fun n41 =>
 some (n41, b3, b4, b5, b6, b7, b8, b9, b10, b11, b12, b13))) := (call_eq ..).trans (by kernel_rfl)

theorem refine_grid_at_eq (g1 g2 : Int) (g3 : List Int) (x4 y5 : Int) : refine_grid_at g1 g2 g3 x4 y5 =
 ((if (decide (x4 < 0)) = true then
 some true
 else
 (if (decide (y5 < 0)) = true then
 some true
 else
 (if (decide (x4 ≥ g1)) = true then
 some true
 else
 some (decide (y5 ≥ g2))))) : Option (Bool)).bind (fun v6 =>
 (if v6 = true then
 some 0
 else
 let t7 := IntKind.i64.wrap (y5 * g1);
 let t8 := IntKind.i64.wrap (t7 + x4);
 (if 0 ≤ t8 ∧ t8 < (g3.length : Int) then
 some (rd g3 t8)
 else
 none))) := (call_eq ..).trans (by kernel_rfl)

theorem coder_Encoder_none_eq (b1 b2 b3 : Int) (b4 b5 : List Int) : coder_Encoder_none b1 b2 b3 b4 b5 =
 some (false, b1, b2, b3, b4, b5) := (call_eq ..).trans (by kernel_rfl)

noncomputable def segment_store_takes_loop4 (s3 : Int) (s4 : List Int) (b8 : List Entint) (v11 : Int) : Option ((Int) ⊕ ((Unit) ⊕ (Bool))) :=
 (if (decide (v11 < ((s4.length : Nat) : Int))) = true then
 (if 0 ≤ v11 ∧ v11 < (s4.length : Int) then
 let f12 : Option Entint := findM (fun (e : Entint) => KV.int e.key) (KV.int (rd s4 v11)) b8;
 let e13 : Entint := f12.getD (Entint.mk (rd s4 v11) 0);
 (if (!f12.isSome) = true then
 some (Sum.inr (Sum.inr false))
 else
 (if (!decide (e13.val = 0)) = true then
 (if (!decide (e13.val = s3)) = true then
 some (Sum.inr (Sum.inr false))
 else
 let t14 := IntKind.i64.wrap (v11 + 1);
 some (Sum.inl t14))
 else
 let t15 := IntKind.i64.wrap (v11 + 1);
 some (Sum.inl t15)))
 else
 none)
 else
 some (Sum.inr (Sum.inl ())))

noncomputable def segment_store_takes_loop11 (s4 : List Int) (s5 : List Bool) (s22 : Int × (List Entint)) : Option ((Int × (List Entint)) ⊕ ((List Entint))) :=
 (if (decide (s22.1 < ((s4.length : Nat) : Int))) = true then
 (if 0 ≤ s22.1 ∧ s22.1 < (s4.length : Int) then
 (if 0 ≤ s22.1 then
 (s5[s22.1.toNat]?).bind fun e25 =>
 (if (!e25) = true then
 let m26 : List Entint := delM (fun (e : Entint) => KV.int e.key) (KV.int (rd s4 s22.1)) s22.2;
 let t27 := IntKind.i64.wrap (s22.1 + 1);
 some (Sum.inl (t27, m26))
 else
 let t28 := IntKind.i64.wrap (s22.1 + 1);
 some (Sum.inl (t28, s22.2)))
 else
 none)
 else
 none)
 else
 some (Sum.inr s22.2))

theorem segment_store_takes_eq (s1 s2 s3 : Int) (s4 : List Int) (s5 : List Bool) (s6 : List Int) (last7 : Int) (b8 : List Entint) : segment_store_takes s1 s2 s3 s4 s5 s6 last7 b8 =
 ((segment_Valid s1 s2 s3 s4 s5 s6).bind fun q9 =>
 (if (!q9) = true then
 some true
 else
 some (decide (s1 ≤ last7))) : Option (Bool)).bind (fun v10 =>
 (if v10 = true then
 some (false, b8)
 else
 (loop (segment_store_takes_loop4 s3 s4 b8) 0).bind (fun o21 =>
 (Sum.elim (fun (p19 : Unit) =>
 (loop (segment_store_takes_loop11 s4 s5) (0, b8)).bind (fun b32 =>
 (if 0 ≤ ((s4.length : Nat) : Int) then
 (s5[((s4.length : Nat) : Int).toNat]?).bind fun e33 =>
 (if e33 = true then
 let m34 : List Entint := putM (fun (e : Entint) => KV.int e.key) (Entint.mk s1 s3) b32;
 some (true, m34)
 else
 some (true, b32))
 else
 none)))
 (fun (v20 : Bool) =>
 some (v20, b8)) o21)))) := (call_eq ..).trans (by kernel_rfl)

theorem page_Decode_1_eq (s1 s2 s3 : Int) (s4 : List Int) (s5 : List Bool) (s6 : List Int) (b7 : Int) : page_Decode_1 s1 s2 s3 s4 s5 s6 b7 =
 some (decide (s3 = b7), b7) := (call_eq ..).trans (by kernel_rfl)

theorem page_cursor_begin_eq (b1 : List Int) (b2 b3 : Int) : page_cursor_begin b1 b2 b3 =
 (page_cursor_size b1 b2 b3).bind fun q4 =>
 (page_cursor_size q4.2.1 q4.2.2.1 q4.2.2.2).bind fun q9 =>
 (page_cursor_sides q4.1 q9.1 q9.2.1 q9.2.2.1 q9.2.2.2).bind fun q14 =>
 (page_cursor_signed q14.1 q14.2.1 q14.2.2).bind fun q18 =>
 (page_near q18.1).bind fun q23 =>
 (page_cursor_check q23 3 q18.2.1 q18.2.2.1 q18.2.2.2).bind fun q24 =>
 (page_cursor_signed q24.2.1 q24.2.2.1 q24.2.2.2).bind fun q29 =>
 (page_near q29.1).bind fun q34 =>
 (page_cursor_check q34 3 q29.2.1 q29.2.2.1 q29.2.2.2).bind fun q35 =>
 (page_cursor_byte 12 q35.2.1 q35.2.2.1 q35.2.2.2).bind fun q40 =>
 let t45 : Int := q40.1.tmod 8;
 (page_cursor_check (decide (t45 ≤ 4)) 3 q40.2.1 q40.2.2.1 q40.2.2.2).bind fun q46 =>
 let t51 : Int := q40.1.tmod 8;
 some (q4.1, q9.1, q18.1, q29.1, t51, decide (q40.1 ≥ 8), q46.2.1, q46.2.2.1, q46.2.2.2) := (call_eq ..).trans (by kernel_rfl)

theorem page_cursor_byte_eq (most1 : Int) (b2 : List Int) (b3 b4 : Int) : page_cursor_byte most1 b2 b3 b4 =
 (if (!decide (b4 = 0)) = true then
 some (0, b2, b3, b4)
 else
 (if (decide (b3 ≥ ((b2.length : Nat) : Int))) = true then
 (page_cursor_fail 6 b2 b3 b4).bind fun q5 =>
 some (0, q5.1, q5.2.1, q5.2.2)
 else
 (if 0 ≤ b3 ∧ b3 < (b2.length : Int) then
 let t9 := IntKind.i64.wrap (rd b2 b3);
 let t10 := IntKind.i64.wrap (b3 + 1);
 (page_cursor_check (decide (t9 ≤ most1)) 3 b2 t10 b4).bind fun q11 =>
 some (t9, q11.2.1, q11.2.2.1, q11.2.2.2)
 else
 none))) := (call_eq ..).trans (by kernel_rfl)

theorem page_cursor_signed_eq (b1 : List Int) (b2 b3 : Int) : page_cursor_signed b1 b2 b3 =
 (if (!decide (b3 = 0)) = true then
 some (0, b1, b2, b3)
 else
 (bits_GetSigned b1 b2).bind fun q4 =>
 (if (!decide (q4.2.2 = 0)) = true then
 (page_cursor_fail q4.2.2 b1 b2 b3).bind fun q8 =>
 some (0, q8.1, q8.2.1, q8.2.2)
 else
 some (q4.1, b1, q4.2.1, b3))) := (call_eq ..).trans (by kernel_rfl)

noncomputable def bitmap_Cut_loop7 (b1 b2 : Int) (b3 : List Int) (x4 y5 w6 : Int) (tr25 : List Int) (s26 : Int × (List Int)) : Option ((Int × (List Int)) ⊕ ((List Int))) :=
 (if (decide (s26.1 < ((tr25.length : Nat) : Int))) = true then
 (if w6 = 0 then
 none
 else
 let t29 : Int := s26.1.tmod w6;
 let t30 := IntKind.i64.wrap (x4 + t29);
 (if w6 = 0 then
 none
 else
 let t31 := IntKind.i64.wrap (s26.1.tdiv w6);
 let t32 := IntKind.i64.wrap (y5 + t31);
 (bitmap_at b1 b2 b3 t30 t32).bind fun q33 =>
 (if 0 ≤ s26.1 ∧ s26.1 < (s26.2.length : Int) then
 let w34 : List Int := s26.2.set s26.1.toNat q33;
 let t35 := IntKind.i64.wrap (s26.1 + 1);
 some (Sum.inl (t35, w34))
 else
 none)))
 else
 some (Sum.inr s26.2))

theorem bitmap_Cut_eq (b1 b2 : Int) (b3 : List Int) (x4 y5 w6 h7 : Int) : bitmap_Cut b1 b2 b3 x4 y5 w6 h7 =
 (bitmap_Valid b1 b2 b3).bind fun q8 =>
 ((if (!q8) = true then
 some (Sum.inr (30, 0, 0, []))
 else
 ((if (decide (w6 < 0)) = true then
 some true
 else
 (if (decide (h7 < 0)) = true then
 some true
 else
 (bitmap_isShift x4 y5).bind fun q9 =>
 some (!q9))) : Option (Bool)).bind (fun v10 =>
 (if v10 = true then
 some (Sum.inr (2, 0, 0, []))
 else
 some (Sum.inl (0, 0, []))))) : Option ((Int × Int × (List Int)) ⊕ (Int × Int × Int × (List Int)))).bind (fun o20 =>
 (Sum.elim (fun (p11 : Int × Int × (List Int)) =>
 (bitmap_blank w6 h7).bind fun q21 =>
 (loop (bitmap_Cut_loop7 b1 b2 b3 x4 y5 w6 q21.2.2.2) (0, q21.2.2.2)).bind (fun b39 =>
 some (q21.1, q21.2.1, b39, q21.2.2.1)))
 (fun (p15 : Int × Int × Int × (List Int)) =>
 some (p15.2.1, p15.2.2.1, p15.2.2.2, p15.1)) o20)) := (call_eq ..).trans (by kernel_rfl)

theorem page_cursor_rest_eq (b1 : List Int) (b2 b3 : Int) : page_cursor_rest b1 b2 b3 =
 (if 0 ≤ b2 ∧ b2 ≤ ((b1.length : Nat) : Int) then
 let t4 : List Int := cutL b1 b2.toNat b1.length;
 some (t4, b1, b2, b3)
 else
 none) := (call_eq ..).trans (by kernel_rfl)

theorem refine_Decode_eq (o1 o2 o3 : Int) (o4 : Bool) (o5 : Int) (code6 : List Int) (w7 h8 r9 r10 : Int) (r11 : List Int) : refine_Decode o1 o2 o3 o4 o5 code6 w7 h8 r9 r10 r11 =
 (refine_Valid o1 o2 o3 o4 o5).bind fun q12 =>
 (if (!q12) = true then
 some (0, 0, [], 2)
 else
 (refine_model o1 o2 o3 o4 o5).bind fun q13 =>
 (coder_NewDecoder q13.1 q13.2 code6).bind fun o41 =>
 (Sum.elim (fun (q16 : Int × Int × Int × (List Int) × Int × Int × Int × Bool × (List Int)) =>
 (refine_Get 0 o1 o2 o3 o4 o5 w7 h8 r9 r10 r11 q16.1 q16.2.1 q16.2.2.1 q16.2.2.2.1 q16.2.2.2.2.1 q16.2.2.2.2.2.1 q16.2.2.2.2.2.2.1 q16.2.2.2.2.2.2.2.1 q16.2.2.2.2.2.2.2.2).bind fun q26 =>
 some (q26.1, q26.2.1, q26.2.2.1, q26.2.2.2.1))
 (fun (q40 : Unit) =>
 none) o41)) := (call_eq ..).trans (by kernel_rfl)

theorem page_builder_draw_eq (s1 s2 s3 : Int) (s4 : List Int) (s5 : List Bool) (s6 : List Int) (g7 g8 g9 g10 g11 : Int) (g12 : Bool) (b13 b14 : Int) (b15 : List Int) (b16 b17 b18 : Int) (b19 : List Int) (b20 b21 : Bool) (b22 b23 : Int) (b24 : List EntBitmap) : page_builder_draw s1 s2 s3 s4 s5 s6 g7 g8 g9 g10 g11 g12 b13 b14 b15 b16 b17 b18 b19 b20 b21 b22 b23 b24 =
 (if g12 = true then
 let m25 : List EntBitmap := putM (fun (e : EntBitmap) => KV.int e.key) (EntBitmap.mk s1 b13 b14 b15) b24;
 some (b16, b17, b18, b19, b20, b21, b22, b23, m25)
 else
 (bitmap_Draw b17 b18 b19 b13 b14 b15 g9 g10 g11).bind fun q26 =>
 some (b16, q26.1, q26.2.1, q26.2.2.1, b20, b21, b22, b23, b24)) := (call_eq ..).trans (by kernel_rfl)

theorem runs_GetTwo_eq (b1 : List Int) (w2 h3 : Int) : runs_GetTwo b1 w2 h3 =
 (runs_read b1 w2 h3).bind fun q4 =>
 some (q4.1, q4.2.1, q4.2.2.1, q4.2.2.2.1, q4.2.2.2.2) := (call_eq ..).trans (by kernel_rfl)

theorem runs_GetOne_eq (b1 : List Int) (w2 h3 : Int) : runs_GetOne b1 w2 h3 =
 (runs_read_2 b1 w2 h3).bind fun q4 =>
 some (q4.1, q4.2.1, q4.2.2.1, q4.2.2.2.1, q4.2.2.2.2) := (call_eq ..).trans (by kernel_rfl)

theorem page_cursor_size_eq (b1 : List Int) (b2 b3 : Int) : page_cursor_size b1 b2 b3 =
 (if (!decide (b3 = 0)) = true then
 some (0, b1, b2, b3)
 else
 (bits_GetSize b1 b2).bind fun q4 =>
 (if (!decide (q4.2.2 = 0)) = true then
 (page_cursor_fail q4.2.2 b1 b2 b3).bind fun q8 =>
 some (0, q8.1, q8.2.1, q8.2.2)
 else
 some (q4.1, b1, q4.2.1, b3))) := (call_eq ..).trans (by kernel_rfl)

theorem page_cursor_sides_eq (w1 h2 : Int) (b3 : List Int) (b4 b5 : Int) : page_cursor_sides w1 h2 b3 b4 b5 =
 (if (decide (b5 = 0)) = true then
 (bitmap_New w1 h2 0).bind fun q6 =>
 (page_cursor_check (decide (q6.2.2.1 = 0)) 4 b3 b4 b5).bind fun q11 =>
 some (q11.2.1, q11.2.2.1, q11.2.2.2)
 else
 some (b3, b4, b5)) := (call_eq ..).trans (by kernel_rfl)

theorem page_cursor_end_eq (b1 : List Int) (b2 b3 : Int) : page_cursor_end b1 b2 b3 =
 (page_cursor_check (decide (b2 = ((b1.length : Nat) : Int))) 3 b1 b2 b3).bind fun q4 =>
 some (q4.2.1, q4.2.2.1, q4.2.2.2) := (call_eq ..).trans (by kernel_rfl)

theorem page_cursor_fail_eq (err1 : Int) (b2 : List Int) (b3 b4 : Int) : page_cursor_fail err1 b2 b3 b4 =
 (if (decide (b4 = 0)) = true then
 some (b2, b3, err1)
 else
 some (b2, b3, b4)) := (call_eq ..).trans (by kernel_rfl)

noncomputable def prefix_lines_loop3 (l1 : List Arr4) (s2 : Int × (List Line)) : Option ((Int × (List Line)) ⊕ ((List Line))) :=
 (if (decide (s2.1 < ((l1.length : Nat) : Int))) = true then
 (if 0 ≤ s2.1 then
 (l1[s2.1.toNat]?).bind fun e5 =>
 (if 0 ≤ (0 : Int) ∧ (0 : Int) < ((4 : Nat) : Int) then
 (if 0 ≤ (1 : Int) ∧ (1 : Int) < ((4 : Nat) : Int) then
 (if 0 ≤ (2 : Int) ∧ (2 : Int) < ((4 : Nat) : Int) then
 (if 0 ≤ (3 : Int) ∧ (3 : Int) < ((4 : Nat) : Int) then
 (if (s2.2.length + ([(Line.mk e5.a0 e5.a1 e5.a2 e5.a3)] : List Line).length) * 32 ≤ 140737488355328 then
 let t6 : List Line := s2.2 ++ [(Line.mk e5.a0 e5.a1 e5.a2 e5.a3)];
 let t7 := IntKind.i64.wrap (s2.1 + 1);
 some (Sum.inl (t7, t6))
 else
 none)
 else
 none)
 else
 none)
 else
 none)
 else
 none)
 else
 none)
 else
 some (Sum.inr s2.2))

noncomputable def prefix_lines_b (loop : type_of% @loop) (prefix_lines_loop3 : type_of% @prefix_lines_loop3) (l1 : List Arr4) : Option (List Line) :=
 (loop (prefix_lines_loop3 l1) (0, [])).bind (fun out11 =>
 some out11)
theorem prefix_lines_eq l1 : prefix_lines l1 = prefix_lines_b @loop @prefix_lines_loop3 l1 := (call_eq ..).trans (by kernel_rfl)

noncomputable def prefix_Valid_loop4_b (prefix_isLine : type_of% @prefix_isLine) (a1 : List Line) (v2 : Int) : Option ((Int) ⊕ ((Unit) ⊕ (Bool))) :=
 (if (decide (v2 < ((a1.length : Nat) : Int))) = true then
 (if 0 ≤ v2 then
 (a1[v2.toNat]?).bind fun e3 =>
 (prefix_isLine e3.length e3.bits e3.low e3.kind).bind fun q4 =>
 (if (!q4) = true then
 some (Sum.inr (Sum.inr false))
 else
 let t5 := IntKind.i64.wrap (v2 + 1);
 some (Sum.inl t5))
 else
 none)
 else
 some (Sum.inr (Sum.inl ())))
noncomputable def prefix_Valid_loop4 := prefix_Valid_loop4_b @prefix_isLine

noncomputable def prefix_Valid_b (loop : type_of% @loop) (prefix_Valid_loop4 : type_of% @prefix_Valid_loop4) (prefix_weight : type_of% @prefix_weight) (a1 : List Line) : Option Bool :=
 (if (decide (((a1.length : Nat) : Int) > 64)) = true then
 some false
 else
 (loop (prefix_Valid_loop4 a1) 0).bind (fun o11 =>
 (Sum.elim (fun (p9 : Unit) =>
 (prefix_weight a1).bind fun q12 =>
 (if (decide (q12.2.1 > 0)) = true then
 (if (decide (q12.2.2 ≤ 1)) = true then
 some (decide (q12.1 ≤ 32768))
 else
 some false)
 else
 some false))
 (fun (v10 : Bool) =>
 some v10) o11)))
theorem prefix_Valid_eq a1 : prefix_Valid a1 = prefix_Valid_b @loop @prefix_Valid_loop4 @prefix_weight a1 := (call_eq ..).trans (by kernel_rfl)

noncomputable def prefix_codes_loop8 (a1 : List Line) (length4 : Int) (s10 : Int × (List Code) × Int × Int) : Option ((Int × (List Code) × Int × Int) ⊕ ((List Code) × Int × Int)) :=
 let b13 := s10.2.2.1;
 let b14 := s10.2.2.2;
 (if (decide (s10.1 < ((a1.length : Nat) : Int))) = true then
 (if 0 ≤ s10.1 then
 (a1[s10.1.toNat]?).bind fun e15 =>
 (if (decide (e15.length = length4)) = true then
 (if 0 ≤ s10.1 ∧ s10.1 < (s10.2.1.length : Int) then
 (s10.2.1[s10.1.toNat]?).bind fun e16 =>
 let w17 : List Code := s10.2.1.set s10.1.toNat (Code.mk b13 b14);
 let t18 := IntKind.i64.wrap (b13 + 1);
 let t19 := IntKind.i64.wrap (s10.1 + 1);
 some (Sum.inl (t19, w17, t18, b14))
 else
 none)
 else
 let t20 := IntKind.i64.wrap (s10.1 + 1);
 some (Sum.inl (t20, s10.2.1, b13, b14)))
 else
 none)
 else
 some (Sum.inr (s10.2.1, b13, b14)))

noncomputable def prefix_codes_loop4_b (loop : type_of% @loop) (prefix_codes_loop8 : type_of% @prefix_codes_loop8) (a1 : List Line) (s3 : Int × (List Code) × Int × Int) : Option ((Int × (List Code) × Int × Int) ⊕ ((List Code) × Int × Int)) :=
 (if (decide (s3.1 ≤ 15)) = true then
 let t8 := IntKind.i64.wrap (s3.1 - s3.2.2.2);
 (if t8 < 0 then
 none
 else
 let t9 := ishl .i64 s3.2.2.1 t8;
 (loop (prefix_codes_loop8 a1 s3.1) (0, s3.2.1, t9, s3.1)).bind (fun p27 =>
 let t31 := IntKind.i64.wrap (s3.1 + 1);
 some (Sum.inl (t31, p27.1, p27.2.1, p27.2.2))))
 else
 some (Sum.inr (s3.2.1, s3.2.2.1, s3.2.2.2)))
noncomputable def prefix_codes_loop4 := prefix_codes_loop4_b @loop @prefix_codes_loop8
noncomputable def prefix_codes_b (loop : type_of% @loop) (prefix_codes_loop4 : type_of% @prefix_codes_loop4) (a1 : List Line) : Option (List Code) :=
 (if 0 ≤ ((a1.length : Nat) : Int) ∧ ((a1.length : Nat) : Int) ≤ ((a1.length : Nat) : Int) ∧ ((16 : Nat) : Int) * ((a1.length : Nat) : Int) ≤ 281474976710656 then
 let t2 : List Code := List.replicate ((a1.length : Nat) : Int).toNat (Code.mk 0 0);
 (loop (prefix_codes_loop4 a1) (1, t2, 0, 1)).bind (fun p32 =>
 some p32.1)
 else
 none)
theorem prefix_codes_eq a1 : prefix_codes a1 = prefix_codes_b @loop @prefix_codes_loop4 a1 := (call_eq ..).trans (by kernel_rfl)

noncomputable def prefix_put_b (prefix_line : type_of% @prefix_line) (prefix_digits : type_of% @prefix_digits) (a1 : List Line) (l2 : List Code) (n3 : Bool) (n4 : Int) : Option (Int × (List Int)) :=
 (prefix_line a1 n3 n4).bind fun q5 =>
 (if (decide (q5.1 < 0)) = true then
 some (5, [])
 else
 (if 0 ≤ q5.1 then
 (l2[q5.1.toNat]?).bind fun e8 =>
 (if 0 ≤ q5.1 then
 (l2[q5.1.toNat]?).bind fun e9 =>
 (prefix_digits e8.bits e9.length).bind fun q10 =>
 (if 0 ≤ q5.1 then
 (a1[q5.1.toNat]?).bind fun e11 =>
 (prefix_digits q5.2 e11.bits).bind fun q12 =>
 (if (q10.length + q12.length) * 1 ≤ 140737488355328 then
 let t13 : List Int := q10 ++ q12;
 some (0, t13)
 else
 none)
 else
 none)
 else
 none)
 else
 none))
theorem prefix_put_eq a1 l2 n3 n4 : prefix_put a1 l2 n3 n4 = prefix_put_b @prefix_line @prefix_digits a1 l2 n3 n4 := (call_eq ..).trans (by kernel_rfl)

theorem refine_fresh_eq (template1 : Int) : refine_fresh template1 =
 (if (decide (template1 = 0)) = true then
 some [(Arr2.mk (-1) (-1)), (Arr2.mk 0 (-1)), (Arr2.mk 1 (-1)), (Arr2.mk (-1) 0)]
 else
 some [(Arr2.mk 0 (-1)), (Arr2.mk (-1) 0)]) := (call_eq ..).trans (by kernel_rfl)

theorem coder_clone_eq (m1 : Int) (m2 : List Int) : coder_clone m1 m2 =
 (if (([] : List Int).length + m2.length) * 8 ≤ 140737488355328 then
 let t3 : List Int := ([] : List Int) ++ m2;
 some (m1, t3)
 else
 none) := (call_eq ..).trans (by kernel_rfl)

theorem coder_chances_eq : coder_chances =
 some () := (call_eq ..).trans (by kernel_rfl)

theorem coder_interval_mid_eq (ctx1 b2 b3 b4 : Int) (b5 b6 : List Int) : coder_interval_mid ctx1 b2 b3 b4 b5 b6 =
 let t7 := IntKind.u64.wrap (b4 - b3);
 (if 0 ≤ ctx1 ∧ ctx1 < (b5.length : Int) then
 let t8 : Int := rd b5 ctx1;
 (coder_table_chance b2 t8).bind fun q9 =>
 let t10 := IntKind.u64.wrap q9;
 let t11 := IntKind.u64.wrap (t7.tdiv 4096);
 let t12 := IntKind.u64.wrap (t11 * t10);
 let t13 := IntKind.u64.wrap (b3 + t12);
 let t14 : Int := t7.tmod 4096;
 let t15 := IntKind.u64.wrap (t14 * t10);
 let t16 := IntKind.u64.wrap (t15.tdiv 4096);
 let t17 := IntKind.u64.wrap (t13 + t16);
 some (t17, b2, b3, b4, b5, b6)
 else
 none) := (call_eq ..).trans (by kernel_rfl)

theorem coder_interval_take_eq (ctx1 bit2 mid3 b4 b5 b6 : Int) (b7 b8 : List Int) : coder_interval_take ctx1 bit2 mid3 b4 b5 b6 b7 b8 =
 ((if (decide (bit2 = 1)) = true then
 some (b4, b5, mid3, b7, b8)
 else
 let t9 := IntKind.u64.wrap (mid3 + 1);
 some (b4, t9, b6, b7, b8)) : Option (Int × Int × Int × (List Int) × (List Int))).bind (fun p10 =>
 let b14 := p10.2.2.2.1;
 (if 0 ≤ ctx1 ∧ ctx1 < (b14.length : Int) then
 let t16 : Int := rd b14 ctx1;
 (coder_next p10.1 t16 bit2).bind fun q17 =>
 (if 0 ≤ ctx1 ∧ ctx1 < (b14.length : Int) then
 let w18 : List Int := b14.set ctx1.toNat q17;
 some (p10.1, p10.2.1, p10.2.2.1, w18, p10.2.2.2.2)
 else
 none)
 else
 none)) := (call_eq ..).trans (by kernel_rfl)

theorem coder_interval_same_eq (b1 b2 b3 : Int) (b4 b5 : List Int) : coder_interval_same b1 b2 b3 b4 b5 =
 let t6 := ishr .u64 b2 24;
 let t7 := ishr .u64 b3 24;
 some (decide (t6 = t7), b1, b2, b3, b4, b5) := (call_eq ..).trans (by kernel_rfl)

theorem coder_interval_lose_eq (b1 b2 b3 : Int) (b4 b5 : List Int) : coder_interval_lose b1 b2 b3 b4 b5 =
 let t6 := ishr .u64 b2 24;
 let t7 := IntKind.u8.wrap t6;
 let t8 := ishl .u64 b2 8;
 let t9 := iand .u64 t8 4294967295;
 let t10 := ishl .u64 b3 8;
 let t11 := iand .u64 t10 4294967295;
 let t12 := ior .u64 t11 255;
 some (t7, b1, t9, t12, b4, b5) := (call_eq ..).trans (by kernel_rfl)

theorem refine_beside_eq : refine_beside =
 some [(Arr2.mk 0 0), (Arr2.mk (-1) 0), (Arr2.mk 1 0), (Arr2.mk 0 (-1)), (Arr2.mk 0 1)] := (call_eq ..).trans (by kernel_rfl)

noncomputable def segment_Valid_loop5 (s1 : Int) (s4 : List Int) (s9 : Int × Int) : Option ((Int × Int) ⊕ ((Unit) ⊕ (Bool))) :=
 (if (decide (s9.2 < ((s4.length : Nat) : Int))) = true then
 (if 0 ≤ s9.2 ∧ s9.2 < (s4.length : Int) then
 (if (decide (rd s4 s9.2 ≤ s9.1)) = true then
 some (Sum.inr (Sum.inr false))
 else
 (if (decide (rd s4 s9.2 ≥ s1)) = true then
 some (Sum.inr (Sum.inr false))
 else
 let t12 := IntKind.i64.wrap (s9.2 + 1);
 some (Sum.inl (rd s4 s9.2, t12))))
 else
 none)
 else
 some (Sum.inr (Sum.inl ())))

theorem segment_Valid_eq (s1 s2 s3 : Int) (s4 : List Int) (s5 : List Bool) (s6 : List Int) : segment_Valid s1 s2 s3 s4 s5 s6 =
 ((if (decide (s1 < 0)) = true then
 some true
 else
 (if (decide (s1 > 10000)) = true then
 some true
 else
 (if (decide (s2 < 0)) = true then
 some true
 else
 (if (decide (s2 > 15)) = true then
 some true
 else
 (if (decide (s3 < 0)) = true then
 some true
 else
 (if (decide (s3 > 1000)) = true then
 some true
 else
 (if (decide (((s4.length : Nat) : Int) > 20)) = true then
 some true
 else
 let t7 := IntKind.i64.wrap (((s4.length : Nat) : Int) + 1);
 (if (!decide (((s5.length : Nat) : Int) = t7)) = true then
 some true
 else
 some (decide (((s6.length : Nat) : Int) > 20000)))))))))) : Option (Bool)).bind (fun v8 =>
 (if v8 = true then
 some false
 else
 (loop (segment_Valid_loop5 s1 s4) ((-1), 0)).bind (fun o18 =>
 (Sum.elim (fun (p16 : Unit) =>
 some true)
 (fun (v17 : Bool) =>
 some v17) o18)))) := (call_eq ..).trans (by kernel_rfl)

theorem bits_GetSigned_eq (b1 : List Int) (at2 : Int) : bits_GetSigned b1 at2 =
 (bits_GetSize b1 at2).bind fun q3 =>
 let t7 : Int := q3.1.tmod 2;
 (if (decide (t7 = 1)) = true then
 let t8 := IntKind.i64.wrap (q3.1 + 1);
 let t9 := IntKind.i64.wrap (0 - t8);
 let t10 := IntKind.i64.wrap (t9.tdiv 2);
 some (t10, q3.2.1, q3.2.2)
 else
 let t11 := IntKind.i64.wrap (q3.1.tdiv 2);
 some (t11, q3.2.1, q3.2.2)) := (call_eq ..).trans (by kernel_rfl)

theorem bitmap_isShift_eq (x1 y2 : Int) : bitmap_isShift x1 y2 =
 let t3 := imin x1 y2;
 (if (decide (t3 ≥ (-100000))) = true then
 let t4 := imax x1 y2;
 some (decide (t4 ≤ 100000))
 else
 some false) := (call_eq ..).trans (by kernel_rfl)

theorem bitmap_at_eq (b1 b2 : Int) (b3 : List Int) (x4 y5 : Int) : bitmap_at b1 b2 b3 x4 y5 =
 ((if (decide (x4 < 0)) = true then
 some true
 else
 (if (decide (y5 < 0)) = true then
 some true
 else
 (if (decide (x4 ≥ b1)) = true then
 some true
 else
 some (decide (y5 ≥ b2))))) : Option (Bool)).bind (fun v6 =>
 (if v6 = true then
 some 0
 else
 let t7 := IntKind.i64.wrap (y5 * b1);
 let t8 := IntKind.i64.wrap (t7 + x4);
 (if 0 ≤ t8 ∧ t8 < (b3.length : Int) then
 some (rd b3 t8)
 else
 none))) := (call_eq ..).trans (by kernel_rfl)

theorem coder_NewDecoder_eq (m1 : Int) (m2 b3 : List Int) : coder_NewDecoder m1 m2 b3 =
 (coder_Valid m1 m2).bind fun q4 =>
 (if (!q4) = true then
 some (Sum.inr ())
 else
 (coder_begin m1 m2).bind fun q5 =>
 (if (([] : List Int).length + b3.length) * 1 ≤ 140737488355328 then
 let t10 : List Int := ([] : List Int) ++ b3;
 (coder_Decoder_shift q5.1 q5.2.1 q5.2.2.1 0 0 0 q5.2.2.2 t10).bind fun q11 =>
 (coder_Decoder_shift q11.1 q11.2.1 q11.2.2.1 q11.2.2.2.1 q11.2.2.2.2.1 q11.2.2.2.2.2.1 q11.2.2.2.2.2.2.1 q11.2.2.2.2.2.2.2).bind fun q20 =>
 (coder_Decoder_shift q20.1 q20.2.1 q20.2.2.1 q20.2.2.2.1 q20.2.2.2.2.1 q20.2.2.2.2.2.1 q20.2.2.2.2.2.2.1 q20.2.2.2.2.2.2.2).bind fun q29 =>
 (coder_Decoder_shift q29.1 q29.2.1 q29.2.2.1 q29.2.2.2.1 q29.2.2.2.2.1 q29.2.2.2.2.2.1 q29.2.2.2.2.2.2.1 q29.2.2.2.2.2.2.2).bind fun q38 =>
 some (Sum.inl (q38.1, q38.2.1, q38.2.2.1, q38.2.2.2.2.2.2.2, q38.2.2.2.1, q38.2.2.2.2.1, q38.2.2.2.2.2.1, false, q38.2.2.2.2.2.2.1))
 else
 none)) := (call_eq ..).trans (by kernel_rfl)

noncomputable def refine_Get_loop13 (base1 h8 : Int) (s68 : Int × Int × Int × Int × (List Int) × Int × Int × Int × Bool × (List Int) × Int × Int × (List Int) × Int × Int × Int × Bool × Int × Int × Int × Int × Int × (List Int) × (List Int)) : Option ((Int × Int × Int × Int × (List Int) × Int × Int × Int × Bool × (List Int) × Int × Int × (List Int) × Int × Int × Int × Bool × Int × Int × Int × Int × Int × (List Int) × (List Int)) ⊕ ((Int × Int × Int × (List Int) × Int × Int × Int × Bool × (List Int) × Int × Int × (List Int) × Int × Int × Int × Bool × Int × Int × Int × Int × Int × (List Int) × (List Int)) ⊕ (Int × Int × Int × Int × (List Int) × Int × Int × Int × Bool × (List Int) × Int × Int × (List Int) × Int × Int × Int × Bool × Int × Int × Int × Int × Int × (List Int) × (List Int)))) :=
 let b77 := s68.2.2.2.2.2.2.2.2.1;
 let b78 := s68.2.2.2.2.2.2.2.2.2.1;
 let b79 := s68.2.2.2.2.2.2.2.2.2.2.1;
 let b80 := s68.2.2.2.2.2.2.2.2.2.2.2.1;
 let b81 := s68.2.2.2.2.2.2.2.2.2.2.2.2.1;
 let b82 := s68.2.2.2.2.2.2.2.2.2.2.2.2.2.1;
 let b83 := s68.2.2.2.2.2.2.2.2.2.2.2.2.2.2.1;
 let b84 := s68.2.2.2.2.2.2.2.2.2.2.2.2.2.2.2.1;
 let b85 := s68.2.2.2.2.2.2.2.2.2.2.2.2.2.2.2.2.1;
 let b86 := s68.2.2.2.2.2.2.2.2.2.2.2.2.2.2.2.2.2.1;
 let b87 := s68.2.2.2.2.2.2.2.2.2.2.2.2.2.2.2.2.2.2.1;
 let b88 := s68.2.2.2.2.2.2.2.2.2.2.2.2.2.2.2.2.2.2.2.1;
 let b89 := s68.2.2.2.2.2.2.2.2.2.2.2.2.2.2.2.2.2.2.2.2.1;
 let b90 := s68.2.2.2.2.2.2.2.2.2.2.2.2.2.2.2.2.2.2.2.2.2.1;
 let b91 := s68.2.2.2.2.2.2.2.2.2.2.2.2.2.2.2.2.2.2.2.2.2.2.1;
 let b92 := s68.2.2.2.2.2.2.2.2.2.2.2.2.2.2.2.2.2.2.2.2.2.2.2;
 (if (decide (s68.1 < h8)) = true then
 (refine_region_row base1 s68.1 b82 b83 b84 b85 b86 b87 b88 b89 b90 b91 b81 s68.2.1 s68.2.2.1 s68.2.2.2.1 s68.2.2.2.2.1 s68.2.2.2.2.2.1 s68.2.2.2.2.2.2.1 s68.2.2.2.2.2.2.2.1 b77 b78).bind fun q93 =>
 let tr105 := q93.2.2.2.2.2.2.2.2.2.2.2.1;
 let tr106 := q93.2.2.2.2.2.2.2.2.2.2.2.2.1;
 let tr107 := q93.2.2.2.2.2.2.2.2.2.2.2.2.2.1;
 let tr108 := q93.2.2.2.2.2.2.2.2.2.2.2.2.2.2.1;
 let tr109 := q93.2.2.2.2.2.2.2.2.2.2.2.2.2.2.2.1;
 let tr110 := q93.2.2.2.2.2.2.2.2.2.2.2.2.2.2.2.2.1;
 let tr111 := q93.2.2.2.2.2.2.2.2.2.2.2.2.2.2.2.2.2.1;
 let tr112 := q93.2.2.2.2.2.2.2.2.2.2.2.2.2.2.2.2.2.2.1;
 let tr113 := q93.2.2.2.2.2.2.2.2.2.2.2.2.2.2.2.2.2.2.2.1;
 let tr114 := q93.2.2.2.2.2.2.2.2.2.2.2.2.2.2.2.2.2.2.2.2;
 (if (!decide (q93.1 = 0)) = true then
 some (Sum.inr (Sum.inr (q93.1, tr106, tr107, tr108, tr109, tr110, tr111, tr112, tr113, tr114, 0, 0, tr105, q93.2.1, q93.2.2.1, q93.2.2.2.1, q93.2.2.2.2.1, q93.2.2.2.2.2.1, q93.2.2.2.2.2.2.1, q93.2.2.2.2.2.2.2.1, q93.2.2.2.2.2.2.2.2.1, q93.2.2.2.2.2.2.2.2.2.1, q93.2.2.2.2.2.2.2.2.2.2.1, [])))
 else
 let t115 := IntKind.i64.wrap (s68.1 + 1);
 some (Sum.inl (t115, tr106, tr107, tr108, tr109, tr110, tr111, tr112, tr113, tr114, b79, b80, tr105, q93.2.1, q93.2.2.1, q93.2.2.2.1, q93.2.2.2.2.1, q93.2.2.2.2.2.1, q93.2.2.2.2.2.2.1, q93.2.2.2.2.2.2.2.1, q93.2.2.2.2.2.2.2.2.1, q93.2.2.2.2.2.2.2.2.2.1, q93.2.2.2.2.2.2.2.2.2.2.1, b92)))
 else
 some (Sum.inr (Sum.inl (s68.2.1, s68.2.2.1, s68.2.2.2.1, s68.2.2.2.2.1, s68.2.2.2.2.2.1, s68.2.2.2.2.2.2.1, s68.2.2.2.2.2.2.2.1, b77, b78, b79, b80, b81, b82, b83, b84, b85, b86, b87, b88, b89, b90, b91, b92))))

theorem refine_Get_eq (base1 o2 o3 o4 : Int) (o5 : Bool) (o6 w7 h8 r9 r10 : Int) (r11 : List Int) (b12 b13 b14 : Int) (b15 : List Int) (b16 b17 b18 : Int) (b19 : Bool) (b20 : List Int) : refine_Get base1 o2 o3 o4 o5 o6 w7 h8 r9 r10 r11 b12 b13 b14 b15 b16 b17 b18 b19 b20 =
 (coder_Decoder_Get (-1) b12 b13 b14 b15 b16 b17 b18 b19 b20).bind fun q21 =>
 let tr25 := q21.2.2.2.1;
 let tr26 := q21.2.2.2.2.1;
 let tr27 := q21.2.2.2.2.2.1;
 let tr28 := q21.2.2.2.2.2.2.1;
 let tr29 := q21.2.2.2.2.2.2.2.1;
 let tr30 := q21.2.2.2.2.2.2.2.2.1;
 let tr31 := q21.2.2.2.2.2.2.2.2.2.1;
 let tr32 := q21.2.2.2.2.2.2.2.2.2.2;
 (if (decide (q21.2.1 = 7)) = true then
 some (0, 0, [], q21.2.1, q21.2.2.1, tr25, tr26, tr27, tr28, tr29, tr30, tr31, tr32)
 else
 (refine_Valid o2 o3 o4 o5 o6).bind fun q33 =>
 (if (!q33) = true then
 some (0, 0, [], 2, q21.2.2.1, tr25, tr26, tr27, tr28, tr29, tr30, tr31, tr32)
 else
 (bitmap_New w7 h8 0).bind fun q34 =>
 ((if (!decide (q34.2.2.1 = 0)) = true then
 some true
 else
 (bitmap_Valid r9 r10 r11).bind fun q39 =>
 some (!q39)) : Option (Bool)).bind (fun v40 =>
 (if v40 = true then
 some (0, 0, [], 30, q21.2.2.1, tr25, tr26, tr27, tr28, tr29, tr30, tr31, tr32)
 else
 (coder_Decoder_Model q21.2.2.1 tr25 tr26 tr27 tr28 tr29 tr30 tr31 tr32).bind fun q41 =>
 let tr51 := q41.2.2.2.2.2.2.2.2.2.1;
 let tr52 := q41.2.2.2.2.2.2.2.2.2.2;
 (refine_fits q41.1 q41.2.1 base1 o2 o3 o4 o5 o6).bind fun q53 =>
 (if (!q53) = true then
 some (0, 0, [], 2, q41.2.2.1, q41.2.2.2.1, q41.2.2.2.2.1, q41.2.2.2.2.2.1, q41.2.2.2.2.2.2.1, q41.2.2.2.2.2.2.2.1, q41.2.2.2.2.2.2.2.2.1, tr51, tr52)
 else
 let t54 := IntKind.i64.wrap (w7 * h8);
 (if 0 ≤ t54 ∧ t54 ≤ t54 ∧ ((1 : Nat) : Int) * t54 ≤ 281474976710656 then
 let t55 : List Int := List.replicate t54.toNat 0;
 (refine_newRegion_2 o2 o3 o4 o5 o6 w7 h8 r9 r10 r11 t55).bind fun q56 =>
 (loop (refine_Get_loop13 base1 h8) (0, q41.2.2.1, q41.2.2.2.1, q41.2.2.2.2.1, q41.2.2.2.2.2.1, q41.2.2.2.2.2.2.1, q41.2.2.2.2.2.2.2.1, q41.2.2.2.2.2.2.2.2.1, tr51, tr52, 0, 0, q56.1, q56.2.1, q56.2.2.1, q56.2.2.2.1, q56.2.2.2.2.1, q56.2.2.2.2.2.1, q56.2.2.2.2.2.2.1, q56.2.2.2.2.2.2.2.1, q56.2.2.2.2.2.2.2.2.1, q56.2.2.2.2.2.2.2.2.2.1, q56.2.2.2.2.2.2.2.2.2.2, [])).bind (fun o191 =>
 (Sum.elim (fun (p142 : Int × Int × Int × (List Int) × Int × Int × Int × Bool × (List Int) × Int × Int × (List Int) × Int × Int × Int × Bool × Int × Int × Int × Int × Int × (List Int) × (List Int)) =>
 some (w7, h8, p142.2.2.2.2.2.2.2.2.2.2.2.1, 0, p142.1, p142.2.1, p142.2.2.1, p142.2.2.2.1, p142.2.2.2.2.1, p142.2.2.2.2.2.1, p142.2.2.2.2.2.2.1, p142.2.2.2.2.2.2.2.1, p142.2.2.2.2.2.2.2.2.1))
 (fun (p166 : Int × Int × Int × Int × (List Int) × Int × Int × Int × Bool × (List Int) × Int × Int × (List Int) × Int × Int × Int × Bool × Int × Int × Int × Int × Int × (List Int) × (List Int)) =>
 some (p166.2.2.2.2.2.2.2.2.2.2.1, p166.2.2.2.2.2.2.2.2.2.2.2.1, p166.2.2.2.2.2.2.2.2.2.2.2.2.2.2.2.2.2.2.2.2.2.2.2, p166.1, p166.2.1, p166.2.2.1, p166.2.2.2.1, p166.2.2.2.2.1, p166.2.2.2.2.2.1, p166.2.2.2.2.2.2.1, p166.2.2.2.2.2.2.2.1, p166.2.2.2.2.2.2.2.2.1, p166.2.2.2.2.2.2.2.2.2.1)) o191))
 else
 none)))))) := (call_eq ..).trans (by kernel_rfl)

noncomputable def bitmap_Draw_loop10 (b1 b2 s4 s5 : Int) (s6 : List Int) (x7 y8 op9 v30 : Int) (s32 : Int × (List Int)) : Option ((Int × (List Int)) ⊕ ((List Int))) :=
 (if (decide (s32.1 < s4)) = true then
 let t35 := IntKind.i64.wrap (x7 + s32.1);
 let t36 := IntKind.i64.wrap (y8 + v30);
 ((if (decide (t35 ≥ 0)) = true then
 (if (decide (t36 ≥ 0)) = true then
 (if (decide (t35 < b1)) = true then
 some (decide (t36 < b2))
 else
 some false)
 else
 some false)
 else
 some false) : Option (Bool)).bind (fun v37 =>
 (if v37 = true then
 let t38 := IntKind.i64.wrap (t36 * b1);
 let t39 := IntKind.i64.wrap (t38 + t35);
 (if 0 ≤ t39 ∧ t39 < (s32.2.length : Int) then
 let t40 : Int := rd s32.2 t39;
 (bitmap_at s4 s5 s6 s32.1 v30).bind fun q41 =>
 (bitmap_combine t40 q41 op9).bind fun q42 =>
 let w43 : List Int := s32.2.set t39.toNat q42;
 let t44 := IntKind.i64.wrap (s32.1 + 1);
 some (Sum.inl (t44, w43))
 else
 none)
 else
 let t45 := IntKind.i64.wrap (s32.1 + 1);
 some (Sum.inl (t45, s32.2))))
 else
 some (Sum.inr s32.2))
noncomputable def bitmap_Draw_loop10_step (b1 b2 s4 s5 : Int) (s6 : List Int) (x7 y8 op9 v30 : Int) (i46 x47 : Nat) (s48 : (List Int)) : Option (((List Int)) ⊕ ((List Int))) :=
 let t35 := IntKind.i64.wrap (x7 + ((i46 : Nat) : Int));
 let t36 := IntKind.i64.wrap (y8 + v30);
 ((if (decide (t35 ≥ 0)) = true then
 (if (decide (t36 ≥ 0)) = true then
 (if (decide (t35 < b1)) = true then
 some (decide (t36 < b2))
 else
 some false)
 else
 some false)
 else
 some false) : Option (Bool)).bind (fun v37 =>
 (if v37 = true then
 let t38 := IntKind.i64.wrap (t36 * b1);
 let t39 := IntKind.i64.wrap (t38 + t35);
 (if 0 ≤ t39 ∧ t39 < (s48.length : Int) then
 let t40 : Int := rd s48 t39;
 (bitmap_at s4 s5 s6 ((i46 : Nat) : Int) v30).bind fun q41 =>
 (bitmap_combine t40 q41 op9).bind fun q42 =>
 let w43 : List Int := s48.set t39.toNat q42;
 some (Sum.inl (w43))
 else
 none)
 else
 some (Sum.inl (s48))))
theorem bitmap_Draw_loop10_over (b1 b2 s4 s5 : Int) (s6 : List Int) (x7 y8 op9 v30 : Int) (hl : (List.range (s4).toNat).length ≤ 9223372036854775807) (s48 : (List Int)) : loop (bitmap_Draw_loop10 b1 b2 s4 s5 s6 x7 y8 op9 v30) ((0, s48) : Int × (List Int)) =
    overL (bitmap_Draw_loop10_step b1 b2 s4 s5 s6 x7 y8 op9 v30) (fun (s48 : (List Int)) => some s48) 0 (List.range (s4).toNat) s48 := by
  refine loop_over (List.range (s4).toNat) (fun n (s : (List Int)) => ((((n : Nat) : Int), s) : Int × (List Int))) _ _ (fun s => ?_) (fun i x s h => ?_) 0 s48 (Nat.zero_le _)
  · have h1 : ¬ (((List.range (s4).toNat).length : Nat) : Int) < s4 := by simp only [List.length_range]; omega
    unfold bitmap_Draw_loop10; simp only [h1, decide_false, Bool.false_eq_true, if_false, Option.map_some]
  · have hlt := lt_len_of_get h
    rw [List.length_range] at hlt hl
    rw [List.getElem?_range hlt] at h
    cases h
    have h1 : ((i : Nat) : Int) < s4 := by omega
    have h0 : (0 : Int) ≤ ((i : Nat) : Int) := by omega
    have hw : IntKind.i64.wrap (((i : Nat) : Int) + 1) = (((i + 1 : Nat) : Nat) : Int) := w64 (by omega)
    unfold bitmap_Draw_loop10 bitmap_Draw_loop10_step
    simp only [h1, h0, hw, decide_true, if_true, and_self, true_and, Int.toNat_natCast, Option.bind_some, Option.map_bind, Function.comp_def, map_ite, map_elim, Option.map_some, Option.map_none]

noncomputable def bitmap_Draw_loop7 (b1 b2 s4 s5 : Int) (s6 : List Int) (x7 y8 op9 : Int) (s29 : Int × (List Int)) : Option ((Int × (List Int)) ⊕ ((List Int))) :=
 (if (decide (s29.1 < s5)) = true then
 (loop (bitmap_Draw_loop10 b1 b2 s4 s5 s6 x7 y8 op9 s29.1) (0, s29.2)).bind (fun b49 =>
 let t50 := IntKind.i64.wrap (s29.1 + 1);
 some (Sum.inl (t50, b49)))
 else
 some (Sum.inr s29.2))
noncomputable def bitmap_Draw_loop7_step (b1 b2 s4 s5 : Int) (s6 : List Int) (x7 y8 op9 : Int) (i51 x52 : Nat) (s53 : (List Int)) : Option (((List Int)) ⊕ ((List Int))) :=
 (loop (bitmap_Draw_loop10 b1 b2 s4 s5 s6 x7 y8 op9 ((i51 : Nat) : Int)) (0, s53)).bind (fun b49 =>
 some (Sum.inl (b49)))
theorem bitmap_Draw_loop7_over (b1 b2 s4 s5 : Int) (s6 : List Int) (x7 y8 op9 : Int) (hl : (List.range (s5).toNat).length ≤ 9223372036854775807) (s53 : (List Int)) : loop (bitmap_Draw_loop7 b1 b2 s4 s5 s6 x7 y8 op9) ((0, s53) : Int × (List Int)) =
    overL (bitmap_Draw_loop7_step b1 b2 s4 s5 s6 x7 y8 op9) (fun (s53 : (List Int)) => some s53) 0 (List.range (s5).toNat) s53 := by
  refine loop_over (List.range (s5).toNat) (fun n (s : (List Int)) => ((((n : Nat) : Int), s) : Int × (List Int))) _ _ (fun s => ?_) (fun i x s h => ?_) 0 s53 (Nat.zero_le _)
  · have h1 : ¬ (((List.range (s5).toNat).length : Nat) : Int) < s5 := by simp only [List.length_range]; omega
    unfold bitmap_Draw_loop7; simp only [h1, decide_false, Bool.false_eq_true, if_false, Option.map_some]
  · have hlt := lt_len_of_get h
    rw [List.length_range] at hlt hl
    rw [List.getElem?_range hlt] at h
    cases h
    have h1 : ((i : Nat) : Int) < s5 := by omega
    have h0 : (0 : Int) ≤ ((i : Nat) : Int) := by omega
    have hw : IntKind.i64.wrap (((i : Nat) : Int) + 1) = (((i + 1 : Nat) : Nat) : Int) := w64 (by omega)
    unfold bitmap_Draw_loop7 bitmap_Draw_loop7_step
    simp only [h1, h0, hw, decide_true, if_true, and_self, true_and, Int.toNat_natCast, Option.bind_some, Option.map_bind, Function.comp_def, map_ite, map_elim, Option.map_some, Option.map_none]

theorem bitmap_Draw_eq (b1 b2 : Int) (b3 : List Int) (s4 s5 : Int) (s6 : List Int) (x7 y8 op9 : Int) : bitmap_Draw b1 b2 b3 s4 s5 s6 x7 y8 op9 =
 ((bitmap_Valid b1 b2 b3).bind fun q10 =>
 (if (!q10) = true then
 some true
 else
 (bitmap_Valid s4 s5 s6).bind fun q11 =>
 some (!q11)) : Option (Bool)).bind (fun v12 =>
 ((if v12 = true then
 some (Sum.inr (30, 0, 0, []))
 else
 ((if (decide (op9 < 0)) = true then
 some true
 else
 (if (decide (op9 > 4)) = true then
 some true
 else
 (bitmap_isShift x7 y8).bind fun q13 =>
 some (!q13))) : Option (Bool)).bind (fun v14 =>
 (if v14 = true then
 some (Sum.inr (2, 0, 0, []))
 else
 some (Sum.inl (0, 0, []))))) : Option ((Int × Int × (List Int)) ⊕ (Int × Int × Int × (List Int)))).bind (fun o24 =>
 (Sum.elim (fun (p15 : Int × Int × (List Int)) =>
 (bitmap_clone b1 b2 b3).bind fun q25 =>
 (loop (bitmap_Draw_loop7 b1 b2 s4 s5 s6 x7 y8 op9) (0, q25.2.2)).bind (fun b54 =>
 some (q25.1, q25.2.1, b54, 0)))
 (fun (p19 : Int × Int × Int × (List Int)) =>
 some (p19.2.1, p19.2.2.1, p19.2.2.2, p19.1)) o24))) := (call_eq ..).trans (by kernel_rfl)
end
end Go.Proofs.YtgffdmgidnnedaaGreat.P
