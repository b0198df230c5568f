/- The equations of functions. Printed by wip/tool/vsym.py. -/
import Derived.Test.YtgffdmgidnnedaaGreatG
import Derived.Test.YtgffdmgidnnedaaGreatLib
namespace Go.Proofs.YtgffdmgidnnedaaGreat.P
open Go Go.Proofs.YtgffdmgidnnedaaGreat.V
set_option linter.unusedVariables false
set_option linter.unusedSimpArgs false
set_option maxRecDepth 100000
noncomputable section
theorem law13_PageHides_eq (b1 b2 : Int) (b3 : List Int) (r4 r5 : Int) (r6 : List Int) (o7 o8 o9 : Int) (o10 : Bool) (o11 : Int) : law13_PageHides b1 b2 b3 r4 r5 r6 o7 o8 o9 o10 o11 =
 ((ref05_Valid b1 b2 b3).bind fun q12 =>
 (if (!q12) = true then
 some true
 else
 (ref05_Valid r4 r5 r6).bind fun q13 =>
 (if (!q13) = true then
 some true
 else
 (if (decide (((b3.length : Nat) : Int) > 500)) = true then
 some true
 else
 some (decide (((r6.length : Nat) : Int) > 500))))) : Option (Bool)).bind (fun v14 =>
 (if v14 = true then
 (law13_Sane).bind fun q15 =>
 some q15
 else
 (page_Info b1 b2 0 0).bind fun q16 =>
 (page_Runs r4 r5 0 0 3 true false r4 r5 r6).bind fun q19 =>
 (page_Refined b1 b2 0 0 0 false o7 o8 o9 o10 o11 b1 b2 b3 r4 r5 r6).bind fun q22 =>
 ((if (!decide (q16.2 = 0)) = true then
 some true
 else
 some (!decide (q19.2 = 0))) : Option (Bool)).bind (fun v25 =>
 (if v25 = true then
 some false
 else
 (law13_segment 0 6 1 [] q16.1).bind fun q26 =>
 (law13_segment 1 10 1 [] q19.1).bind fun q33 =>
 (page_Decode 1 [(Segment.mk q26.1 q26.2.1 q26.2.2.1 q26.2.2.2.1 q26.2.2.2.2.1 q26.2.2.2.2.2), (Segment.mk q33.1 q33.2.1 q33.2.2.1 q33.2.2.2.1 q33.2.2.2.2.1 q33.2.2.2.2.2)]).bind fun q40 =>
 ((if (!decide (q40.2.2.2.2.1 = 0)) = true then
 some true
 else
 (ref05_Blacks q40.1 q40.2.1 q40.2.2.1).bind fun q47 =>
 (if (!decide (q47 = 0)) = true then
 some true
 else
 (if (!decide (q40.1 = b1)) = true then
 some true
 else
 some (!decide (q40.2.1 = b2))))) : Option (Bool)).bind (fun v48 =>
 (if v48 = true then
 some false
 else
 (if (!decide (q22.2 = 0)) = true then
 (law13_Sane).bind fun q49 =>
 some q49
 else
 (law13_segment 2 5 1 [1] q22.1).bind fun q50 =>
 (if (q40.2.2.2.2.2.length + ([(Segment.mk q50.1 q50.2.1 q50.2.2.1 q50.2.2.2.1 q50.2.2.2.2.1 q50.2.2.2.2.2)] : List Segment).length) * 96 ≤ 140737488355328 then
 let t57 : List Segment := q40.2.2.2.2.2 ++ [(Segment.mk q50.1 q50.2.1 q50.2.2.1 q50.2.2.2.1 q50.2.2.2.2.1 q50.2.2.2.2.2)];
 (page_Decode 1 t57).bind fun q58 =>
 (if (decide (q58.2.2.2.2.1 = 0)) = true then
 (ref05_Same q58.1 q58.2.1 q58.2.2.1 b1 b2 b3).bind fun q65 =>
 (if q65 = true then
 (law13_Sane).bind fun q66 =>
 some q66
 else
 some false)
 else
 some false)
 else
 none)))))))) := (call_eq ..).trans (by kernel_rfl)

noncomputable def ref05_Valid_loop4 (b3 : List Int) (i7 : Int) : Option ((Int) ⊕ ((Unit) ⊕ (Bool))) :=
 (if (decide (i7 < ((b3.length : Nat) : Int))) = true then
 (if 0 ≤ i7 ∧ i7 < (b3.length : Int) then
 (if (decide (rd b3 i7 > 1)) = true then
 some (Sum.inr (Sum.inr false))
 else
 let t8 := IntKind.i64.wrap (i7 + 1);
 some (Sum.inl t8))
 else
 none)
 else
 some (Sum.inr (Sum.inl ())))
noncomputable def ref05_Valid_loop4_step (i9 : Nat) (x10 : Int) (s11 : Unit) : Option ((Unit) ⊕ ((Unit) ⊕ (Bool))) :=
 (if (decide (x10 > 1)) = true then
 some (Sum.inr (Sum.inr false))
 else
 some (Sum.inl (())))
theorem ref05_Valid_loop4_over (b3 : List Int) (hl : b3.length ≤ 9223372036854775807) (s11 : Unit) : loop (ref05_Valid_loop4 b3) (0 : Int) =
    overL (ref05_Valid_loop4_step) (fun (s11 : Unit) => some (Sum.inl ())) 0 b3 s11 := by
  refine loop_over b3 (fun n (s : Unit) => (((n : Nat) : Int) : Int)) _ _ (fun s => ?_) (fun i x s h => ?_) 0 s11 (Nat.zero_le _)
  · unfold ref05_Valid_loop4; simp
  · have hlt := lt_len_of_get h
    have h1 : ((i : Nat) : Int) < ((b3.length : Nat) : Int) := by omega
    have h0 : (0 : Int) ≤ ((i : Nat) : Int) := by omega
    have hw : IntKind.i64.wrap (((i : Nat) : Int) + 1) = (((i + 1 : Nat) : Nat) : Int) := w64 (by omega)
    have hr : rd b3 ((i : Nat) : Int) = x := rd_nat h
    unfold ref05_Valid_loop4 ref05_Valid_loop4_step
    simp only [h1, h0, hw, h, hr, decide_true, if_true, and_self, true_and, Int.toNat_natCast, Option.bind_some, Option.map_bind, Function.comp_def, map_ite, map_elim, Option.map_some, Option.map_none]

theorem ref05_Valid_eq (b1 b2 : Int) (b3 : List Int) : ref05_Valid b1 b2 b3 =
 ((ref05_Sides b1 b2).bind fun q4 =>
 (if (!q4) = true then
 some true
 else
 let t5 := IntKind.i64.wrap (b1 * b2);
 some (!decide (((b3.length : Nat) : Int) = t5))) : Option (Bool)).bind (fun v6 =>
 (if v6 = true then
 some false
 else
 (loop (ref05_Valid_loop4 b3) 0).bind (fun o14 =>
 (Sum.elim (fun (p12 : Unit) =>
 some true)
 (fun (v13 : Bool) =>
 some v13) o14)))) := (call_eq ..).trans (by kernel_rfl)

noncomputable def law13_Sane_b (page_Info : type_of% @page_Info) (ref01_SameBytes : type_of% @ref01_SameBytes) : Option Bool :=
 (page_Info 3 2 0 1).bind fun q1 =>
 (if (decide (q1.2 = 0)) = true then
 (ref01_SameBytes q1.1 [3, 3, 2]).bind fun q4 =>
 some q4
 else
 some false)
theorem law13_Sane_eq : law13_Sane = law13_Sane_b @page_Info @ref01_SameBytes := (call_eq ..).trans (by kernel_rfl)

noncomputable def page_Info_b (bitmap_New : type_of% @bitmap_New) (page_writer_size : type_of% @page_writer_size) (page_writer_byte : type_of% @page_writer_byte) (w1 h2 pixel3 op4 : Int) : Option ((List Int) × Int) :=
 let t5 := imax h2 0;
 (bitmap_New w1 t5 0).bind fun q6 =>
 ((if (!decide (q6.2.2.1 = 0)) = true then
 some true
 else
 (if (decide (h2 < (-1))) = true then
 some true
 else
 (if (decide (pixel3 < 0)) = true then
 some true
 else
 (if (decide (pixel3 > 1)) = true then
 some true
 else
 (if (decide (op4 < 0)) = true then
 some true
 else
 some (decide (op4 > 4))))))) : Option (Bool)).bind (fun v11 =>
 (if v11 = true then
 some ([], 2)
 else
 let t12 := IntKind.i64.wrap (h2 + 1);
 (page_writer_size [w1, t12] []).bind fun q13 =>
 let t14 := IntKind.i64.wrap (2 * op4);
 let t15 := IntKind.i64.wrap (pixel3 + t14);
 (page_writer_byte [t15] q13).bind fun q16 =>
 some (q16, 0)))
theorem page_Info_eq w1 h2 pixel3 op4 : page_Info w1 h2 pixel3 op4 = page_Info_b @bitmap_New @page_writer_size @page_writer_byte w1 h2 pixel3 op4 := (call_eq ..).trans (by kernel_rfl)

theorem page_Runs_eq (g1 g2 g3 g4 g5 : Int) (g6 two7 : Bool) (b8 b9 : Int) (b10 : List Int) : page_Runs g1 g2 g3 g4 g5 g6 two7 b8 b9 b10 =
 ((page_rightBegin g1 g2 g3 g4 g5 g6).bind fun q11 =>
 (if (!q11) = true then
 some true
 else
 (if (!decide (g1 = b8)) = true then
 some true
 else
 some (!decide (g2 = b9)))) : Option (Bool)).bind (fun v12 =>
 (if v12 = true then
 some ([], 2)
 else
 (runs_One b8 b9 b10).bind fun q13 =>
 ((if two7 = true then
 (runs_Two b8 b9 b10).bind fun q16 =>
 some (q16.1, q16.2)
 else
 some (q13.1, q13.2)) : Option ((List Int) × Int)).bind (fun p19 =>
 (page_writer_begin g1 g2 g3 g4 g5 g6 []).bind fun q22 =>
 (page_flag two7 1).bind fun q23 =>
 (page_writer_byte [q23] q22).bind fun q24 =>
 (page_writer_with p19.1 p19.2 q24).bind fun q25 =>
 some (q25.1, q25.2)))) := (call_eq ..).trans (by kernel_rfl)

theorem page_Refined_eq (g1 g2 g3 g4 g5 : Int) (g6 : Bool) (o7 o8 o9 : Int) (o10 : Bool) (o11 b12 b13 : Int) (b14 : List Int) (r15 r16 : Int) (r17 : List Int) : page_Refined g1 g2 g3 g4 g5 g6 o7 o8 o9 o10 o11 b12 b13 b14 r15 r16 r17 =
 ((page_rightBegin g1 g2 g3 g4 g5 g6).bind fun q18 =>
 (if (!q18) = true then
 some true
 else
 (if (!decide (g1 = b12)) = true then
 some true
 else
 some (!decide (g2 = b13)))) : Option (Bool)).bind (fun v19 =>
 (if v19 = true then
 some ([], 2)
 else
 (refine_Encode o7 o8 o9 o10 o11 b12 b13 b14 r15 r16 r17).bind fun q20 =>
 (page_writer_begin g1 g2 g3 g4 g5 g6 []).bind fun q23 =>
 (page_flag o10 2).bind fun q24 =>
 let t25 := IntKind.i64.wrap (o7 + q24);
 let t26 := IntKind.i64.wrap (4 * o11);
 let t27 := IntKind.i64.wrap (t25 + t26);
 (page_writer_byte [t27] q23).bind fun q28 =>
 (page_writer_signed [o8, o9] q28).bind fun q29 =>
 (page_writer_with q20.1 q20.2 q29).bind fun q30 =>
 some (q30.1, q30.2))) := (call_eq ..).trans (by kernel_rfl)

theorem law13_segment_eq (number1 kind2 of3 : Int) (refs4 data5 : List Int) : law13_segment number1 kind2 of3 refs4 data5 =
 (law13_keep ((refs4.length : Nat) : Int)).bind fun q6 =>
 some (number1, kind2, of3, refs4, q6, data5) := (call_eq ..).trans (by kernel_rfl)

noncomputable def page_Decode_loop10 (b2 : List Segment) (tr9 : Int) (s11 : Int × Int × Int × (List EntBitmap) × Int × Int × Int × (List Int) × Bool × Bool × Int × Int × (List Int)) : Option ((Int × Int × Int × (List EntBitmap) × Int × Int × Int × (List Int) × Bool × Bool × Int × Int × (List Int)) ⊕ ((Int × Int × (List EntBitmap) × Int × Int × Int × (List Int) × Bool × Bool × Int × Int × (List Int)) ⊕ (Int × Int × Int × Int × (List EntBitmap) × Int × Int × Int × (List Int) × Bool × Bool × Int × Int × (List Int)))) :=
 let b16 := s11.2.2.2.2.1;
 let b17 := s11.2.2.2.2.2.1;
 let b18 := s11.2.2.2.2.2.2.1;
 let b19 := s11.2.2.2.2.2.2.2.1;
 let b20 := s11.2.2.2.2.2.2.2.2.1;
 let b21 := s11.2.2.2.2.2.2.2.2.2.1;
 let b22 := s11.2.2.2.2.2.2.2.2.2.2.1;
 let b23 := s11.2.2.2.2.2.2.2.2.2.2.2.1;
 let b24 := s11.2.2.2.2.2.2.2.2.2.2.2.2;
 (if (decide (s11.1 < ((b2.length : Nat) : Int))) = true then
 (if 0 ≤ s11.1 ∧ s11.1 < (b2.length : Int) then
 (b2[s11.1.toNat]?).bind fun e25 =>
 ((if (!decide (e25.page = tr9)) = true then
 some (!decide (e25.page = 0))
 else
 some false) : Option (Bool)).bind (fun v26 =>
 (if v26 = true then
 let t27 := IntKind.i64.wrap (s11.1 + 1);
 some (Sum.inl (t27, s11.2.1, s11.2.2.1, s11.2.2.2.1, b16, b17, b18, b19, b20, b21, b22, b23, b24))
 else
 (page_builder_add e25.number e25.kind e25.page e25.refs e25.keep e25.data b16 b17 b18 b19 b20 b21 b22 b23 s11.2.2.2.1).bind fun q28 =>
 (if (!decide (q28.1 = 0)) = true then
 some (Sum.inr (Sum.inr (s11.1, q28.1, 0, 0, q28.2.2.2.2.2.2.2.2.2, q28.2.1, q28.2.2.1, q28.2.2.2.1, q28.2.2.2.2.1, q28.2.2.2.2.2.1, q28.2.2.2.2.2.2.1, q28.2.2.2.2.2.2.2.1, q28.2.2.2.2.2.2.2.2.1, [])))
 else
 let t39 := IntKind.i64.wrap (s11.1 + 1);
 some (Sum.inl (t39, s11.2.1, s11.2.2.1, q28.2.2.2.2.2.2.2.2.2, q28.2.1, q28.2.2.1, q28.2.2.2.1, q28.2.2.2.2.1, q28.2.2.2.2.2.1, q28.2.2.2.2.2.2.1, q28.2.2.2.2.2.2.2.1, q28.2.2.2.2.2.2.2.2.1, b24)))))
 else
 none)
 else
 some (Sum.inr (Sum.inl (s11.2.1, s11.2.2.1, s11.2.2.2.1, b16, b17, b18, b19, b20, b21, b22, b23, b24))))

theorem page_Decode_eq (page1 : Int) (b2 : List Segment) : page_Decode page1 b2 =
 (segment_InOrder b2).bind fun q3 =>
 (if (!decide (q3.2 = 0)) = true then
 some (0, 0, [], q3.1, q3.2, b2)
 else
 ((if (decide (page1 < 1)) = true then
 some true
 else
 some (decide (page1 > 1000))) : Option (Bool)).bind (fun v6 =>
 (if v6 = true then
 some (0, 0, [], 0, 2, b2)
 else
 (slices_ContainsFunc_api_Segment_api_Segment b2 page1).bind fun q7 =>
 (if (!q7.1) = true then
 some (0, 0, [], 0, 5, b2)
 else
 (page_height b2 q7.2).bind fun q10 =>
 (loop (page_Decode_loop10 b2 q7.2) (0, 0, 0, [], q7.2, 0, 0, [], false, false, (-1), q10, [])).bind (fun o83 =>
 (Sum.elim (fun (p55 : Int × Int × (List EntBitmap) × Int × Int × Int × (List Int) × Bool × Bool × Int × Int × (List Int)) =>
 some (p55.2.2.2.2.1, p55.2.2.2.2.2.1, p55.2.2.2.2.2.2.1, 0, 0, b2))
 (fun (p68 : Int × Int × Int × Int × (List EntBitmap) × Int × Int × Int × (List Int) × Bool × Bool × Int × Int × (List Int)) =>
 some (p68.2.2.1, p68.2.2.2.1, p68.2.2.2.2.2.2.2.2.2.2.2.2.2, p68.1, p68.2.1, b2)) o83)))))) := (call_eq ..).trans (by kernel_rfl)

noncomputable def ref05_Blacks_loop3 (b3 : List Int) (s4 : Int × Int) : Option ((Int × Int) ⊕ (Int)) :=
 (if (decide (s4.2 < ((b3.length : Nat) : Int))) = true then
 (if 0 ≤ s4.2 ∧ s4.2 < (b3.length : Int) then
 let t7 := IntKind.i64.wrap (rd b3 s4.2);
 let t8 := IntKind.i64.wrap (s4.1 + t7);
 let t9 := IntKind.i64.wrap (s4.2 + 1);
 some (Sum.inl (t8, t9))
 else
 none)
 else
 some (Sum.inr s4.1))

theorem ref05_Blacks_eq (b1 b2 : Int) (b3 : List Int) : ref05_Blacks b1 b2 b3 =
 (loop (ref05_Blacks_loop3 b3) (0, 0)).bind (fun n13 =>
 some n13) := (call_eq ..).trans (by kernel_rfl)

theorem ref05_Same_eq (a1 a2 : Int) (a3 : List Int) (b4 b5 : Int) (b6 : List Int) : ref05_Same a1 a2 a3 b4 b5 b6 =
 (if (decide (a1 = b4)) = true then
 (if (decide (a2 = b5)) = true then
 some (decide (a3 = b6))
 else
 some false)
 else
 some false) := (call_eq ..).trans (by kernel_rfl)

theorem ref05_Sides_eq (w1 h2 : Int) : ref05_Sides w1 h2 =
 (if (decide (w1 ≥ 0)) = true then
 (if (decide (h2 ≥ 0)) = true then
 (if (decide (w1 ≤ 200)) = true then
 (if (decide (h2 ≤ 200)) = true then
 let t3 := IntKind.i64.wrap (w1 * h2);
 some (decide (t3 ≤ 8192))
 else
 some false)
 else
 some false)
 else
 some false)
 else
 some false) := (call_eq ..).trans (by kernel_rfl)

noncomputable def ref01_SameBytes_b (a1 b2 : List Int) : Option Bool :=
 some (decide (a1 = b2))
theorem ref01_SameBytes_eq a1 b2 : ref01_SameBytes a1 b2 = ref01_SameBytes_b a1 b2 := (call_eq ..).trans (by kernel_rfl)

noncomputable def bitmap_New_loop5 (pixel3 : Int) (tr9 : List Int) (s10 : Int × (List Int)) : Option ((Int × (List Int)) ⊕ ((List Int))) :=
 (if (decide (s10.1 < ((tr9.length : Nat) : Int))) = true then
 let t13 := IntKind.u8.wrap pixel3;
 (if 0 ≤ s10.1 ∧ s10.1 < (s10.2.length : Int) then
 let w14 : List Int := s10.2.set s10.1.toNat t13;
 let t15 := IntKind.i64.wrap (s10.1 + 1);
 some (Sum.inl (t15, w14))
 else
 none)
 else
 some (Sum.inr s10.2))

noncomputable def bitmap_New_b (bitmap_blank : type_of% @bitmap_blank) (loop : type_of% @loop) (bitmap_New_loop5 : type_of% @bitmap_New_loop5) (w1 h2 pixel3 : Int) : Option (Int × Int × Int × (List Int)) :=
 ((if (decide (w1 < 0)) = true then
 some true
 else
 (if (decide (h2 < 0)) = true then
 some true
 else
 (if (!decide (pixel3 = 0)) = true then
 some (!decide (pixel3 = 1))
 else
 some false))) : Option (Bool)).bind (fun v4 =>
 (if v4 = true then
 some (0, 0, 2, [])
 else
 (bitmap_blank w1 h2).bind fun q5 =>
 (loop (bitmap_New_loop5 pixel3 q5.2.2.2) (0, q5.2.2.2)).bind (fun b19 =>
 some (q5.1, q5.2.1, q5.2.2.1, b19))))
theorem bitmap_New_eq w1 h2 pixel3 : bitmap_New w1 h2 pixel3 = bitmap_New_b @bitmap_blank @loop @bitmap_New_loop5 w1 h2 pixel3 := (call_eq ..).trans (by kernel_rfl)

noncomputable def page_writer_size_loop1_b (bits_Size : type_of% @bits_Size) (l1 : List Int) (s3 : Int × (List Int)) : Option ((Int × (List Int)) ⊕ ((List Int))) :=
 (if (decide (s3.1 < ((l1.length : Nat) : Int))) = true then
 (if 0 ≤ s3.1 ∧ s3.1 < (l1.length : Int) then
 (bits_Size (rd l1 s3.1)).bind fun q6 =>
 (if (s3.2.length + q6.1.length) * 1 ≤ 140737488355328 then
 let t9 : List Int := s3.2 ++ q6.1;
 let t10 := IntKind.i64.wrap (s3.1 + 1);
 some (Sum.inl (t10, t9))
 else
 none)
 else
 none)
 else
 some (Sum.inr s3.2))
noncomputable def page_writer_size_loop1 := page_writer_size_loop1_b @bits_Size

noncomputable def page_writer_size_b (loop : type_of% @loop) (page_writer_size_loop1 : type_of% @page_writer_size_loop1) (l1 b2 : List Int) : Option (List Int) :=
 (loop (page_writer_size_loop1 l1) (0, b2)).bind (fun b14 =>
 some b14)
theorem page_writer_size_eq l1 b2 : page_writer_size l1 b2 = page_writer_size_b @loop @page_writer_size_loop1 l1 b2 := (call_eq ..).trans (by kernel_rfl)

noncomputable def page_writer_byte_loop1 (l1 : List Int) (s3 : Int × (List Int)) : Option ((Int × (List Int)) ⊕ ((List Int))) :=
 (if (decide (s3.1 < ((l1.length : Nat) : Int))) = true then
 (if 0 ≤ s3.1 ∧ s3.1 < (l1.length : Int) then
 let t6 := IntKind.u8.wrap (rd l1 s3.1);
 (if (s3.2.length + ([t6] : List Int).length) * 1 ≤ 140737488355328 then
 let t7 : List Int := s3.2 ++ [t6];
 let t8 := IntKind.i64.wrap (s3.1 + 1);
 some (Sum.inl (t8, t7))
 else
 none)
 else
 none)
 else
 some (Sum.inr s3.2))

noncomputable def page_writer_byte_b (loop : type_of% @loop) (page_writer_byte_loop1 : type_of% @page_writer_byte_loop1) (l1 b2 : List Int) : Option (List Int) :=
 (loop (page_writer_byte_loop1 l1) (0, b2)).bind (fun b12 =>
 some b12)
theorem page_writer_byte_eq l1 b2 : page_writer_byte l1 b2 = page_writer_byte_b @loop @page_writer_byte_loop1 l1 b2 := (call_eq ..).trans (by kernel_rfl)

theorem page_rightBegin_eq (g1 g2 g3 g4 g5 : Int) (g6 : Bool) : page_rightBegin g1 g2 g3 g4 g5 g6 =
 (bitmap_New g1 g2 0).bind fun q7 =>
 (if (decide (q7.2.2.1 = 0)) = true then
 (page_near g3).bind fun q12 =>
 (if q12 = true then
 (page_near g4).bind fun q13 =>
 (if q13 = true then
 (if (decide (g5 ≥ 0)) = true then
 some (decide (g5 ≤ 4))
 else
 some false)
 else
 some false)
 else
 some false)
 else
 some false) := (call_eq ..).trans (by kernel_rfl)

noncomputable def runs_One_loop8 (q10 : (List Int)) (s11 : Int × (List Int)) : Option ((Int × (List Int)) ⊕ ((List Int))) :=
 (if (decide (s11.1 < ((q10.length : Nat) : Int))) = true then
 (if 0 ≤ s11.1 ∧ s11.1 < (q10.length : Int) then
 let t14 : Int := s11.1.tmod 2;
 (runs_runBits (rd q10 s11.1) t14).bind fun q15 =>
 (if (s11.2.length + q15.length) * 1 ≤ 140737488355328 then
 let t16 : List Int := s11.2 ++ q15;
 let t17 := IntKind.i64.wrap (s11.1 + 1);
 some (Sum.inl (t17, t16))
 else
 none)
 else
 none)
 else
 some (Sum.inr s11.2))
noncomputable def runs_One_loop5 (q5 : (List (List Int))) (s6 : Int × (List Int)) : Option ((Int × (List Int)) ⊕ ((List Int))) :=
 (if (decide (s6.1 < ((q5.length : Nat) : Int))) = true then
 (if 0 ≤ s6.1 then
 (q5[s6.1.toNat]?).bind fun e9 =>
 (runs_row e9).bind fun q10 =>
 (loop (runs_One_loop8 q10) (0, s6.2)).bind (fun out18 =>
 let t19 := IntKind.i64.wrap (s6.1 + 1);
 some (Sum.inl (t19, out18)))
 else
 none)
 else
 some (Sum.inr s6.2))
theorem runs_One_eq (b1 b2 : Int) (b3 : List Int) : runs_One b1 b2 b3 =
 (bitmap_Valid b1 b2 b3).bind fun q4 =>
 (if (!q4) = true then
 some ([], 30)
 else
 (runs_lines b1 b2 b3).bind fun q5 =>
 (loop (runs_One_loop5 q5) (0, [])).bind (fun out20 =>
 (bits_Pack out20).bind fun q21 =>
 some (q21.1, q21.2))) := (call_eq ..).trans (by kernel_rfl)

noncomputable def runs_Two_loop9 (q12 : (List Mode)) (s13 : Int × (List Int)) : Option ((Int × (List Int)) ⊕ ((List Int))) :=
 (if (decide (s13.1 < ((q12.length : Nat) : Int))) = true then
 (if 0 ≤ s13.1 then
 (q12[s13.1.toNat]?).bind fun e16 =>
 (runs_mode_bits e16.kind e16.d e16.runs_0 e16.runs_1 e16.colour).bind fun q17 =>
 (if (s13.2.length + q17.length) * 1 ≤ 140737488355328 then
 let t18 : List Int := s13.2 ++ q17;
 let t19 := IntKind.i64.wrap (s13.1 + 1);
 some (Sum.inl (t19, t18))
 else
 none)
 else
 none)
 else
 some (Sum.inr s13.2))
noncomputable def runs_Two_loop6 (q6 : (List (List Int))) (s7 : (List Int) × Int × (List Int)) : Option (((List Int) × Int × (List Int)) ⊕ ((List Int))) :=
 (if (decide (s7.2.1 < ((q6.length : Nat) : Int))) = true then
 (if 0 ≤ s7.2.1 then
 (q6[s7.2.1.toNat]?).bind fun e11 =>
 (runs_modes s7.1 e11).bind fun q12 =>
 (loop (runs_Two_loop9 q12) (0, s7.2.2)).bind (fun out20 =>
 let t21 := IntKind.i64.wrap (s7.2.1 + 1);
 some (Sum.inl (e11, t21, out20)))
 else
 none)
 else
 some (Sum.inr s7.2.2))
theorem runs_Two_eq (b1 b2 : Int) (b3 : List Int) : runs_Two b1 b2 b3 =
 (bitmap_Valid b1 b2 b3).bind fun q4 =>
 (if (!q4) = true then
 some ([], 30)
 else
 (if 0 ≤ b1 ∧ b1 ≤ b1 ∧ ((1 : Nat) : Int) * b1 ≤ 281474976710656 then
 let t5 : List Int := List.replicate b1.toNat 0;
 (runs_lines b1 b2 b3).bind fun q6 =>
 (loop (runs_Two_loop6 q6) (t5, 0, [])).bind (fun out22 =>
 (bits_Pack out22).bind fun q23 =>
 some (q23.1, q23.2))
 else
 none)) := (call_eq ..).trans (by kernel_rfl)

theorem page_writer_begin_eq (g1 g2 g3 g4 g5 : Int) (g6 : Bool) (b7 : List Int) : page_writer_begin g1 g2 g3 g4 g5 g6 b7 =
 (page_writer_size [g1, g2] b7).bind fun q8 =>
 (page_writer_signed [g3, g4] q8).bind fun q9 =>
 (page_flag g6 8).bind fun q10 =>
 let t11 := IntKind.i64.wrap (g5 + q10);
 (page_writer_byte [t11] q9).bind fun q12 =>
 some q12 := (call_eq ..).trans (by kernel_rfl)

theorem page_flag_eq (is1 : Bool) (n2 : Int) : page_flag is1 n2 =
 (if is1 = true then
 some n2
 else
 some 0) := (call_eq ..).trans (by kernel_rfl)

theorem page_writer_with_eq (code1 : List Int) (err2 : Int) (b3 : List Int) : page_writer_with code1 err2 b3 =
 (if (!decide (err2 = 0)) = true then
 some ([], err2)
 else
 (if (b3.length + code1.length) * 1 ≤ 140737488355328 then
 let t4 : List Int := b3 ++ code1;
 some (t4, 0)
 else
 none)) := (call_eq ..).trans (by kernel_rfl)

theorem refine_Encode_eq (o1 o2 o3 : Int) (o4 : Bool) (o5 b6 b7 : Int) (b8 : List Int) (r9 r10 : Int) (r11 : List Int) : refine_Encode o1 o2 o3 o4 o5 b6 b7 b8 r9 r10 r11 =
 (refine_Valid o1 o2 o3 o4 o5).bind fun q12 =>
 (if (!q12) = true then
 some ([], 2)
 else
 (refine_model o1 o2 o3 o4 o5).bind fun q13 =>
 (coder_NewEncoder q13.1 q13.2).bind fun o37 =>
 (Sum.elim (fun (q16 : Int × Int × Int × (List Int) × (List Int)) =>
 (refine_Put 0 o1 o2 o3 o4 o5 b6 b7 b8 r9 r10 r11 q16.1 q16.2.1 q16.2.2.1 q16.2.2.2.1 q16.2.2.2.2).bind fun q22 =>
 (if (!decide (q22.1 = 0)) = true then
 some ([], q22.1)
 else
 (coder_Encoder_End q22.2.1 q22.2.2.1 q22.2.2.2.1 q22.2.2.2.2.1 q22.2.2.2.2.2).bind fun q29 =>
 some (q29.1, 0)))
 (fun (q36 : Unit) =>
 none) o37)) := (call_eq ..).trans (by kernel_rfl)

noncomputable def page_writer_signed_loop1 (l1 : List Int) (s3 : Int × (List Int)) : Option ((Int × (List Int)) ⊕ ((List Int))) :=
 (if (decide (s3.1 < ((l1.length : Nat) : Int))) = true then
 (if 0 ≤ s3.1 ∧ s3.1 < (l1.length : Int) then
 (bits_Signed (rd l1 s3.1)).bind fun q6 =>
 (if (s3.2.length + q6.1.length) * 1 ≤ 140737488355328 then
 let t9 : List Int := s3.2 ++ q6.1;
 let t10 := IntKind.i64.wrap (s3.1 + 1);
 some (Sum.inl (t10, t9))
 else
 none)
 else
 none)
 else
 some (Sum.inr s3.2))

theorem page_writer_signed_eq (l1 b2 : List Int) : page_writer_signed l1 b2 =
 (loop (page_writer_signed_loop1 l1) (0, b2)).bind (fun b14 =>
 some b14) := (call_eq ..).trans (by kernel_rfl)

noncomputable def law13_keep_loop3 (n1 : Int) (s2 : Int × (List Bool)) : Option ((Int × (List Bool)) ⊕ ((List Bool))) :=
 (if (decide (s2.1 < n1)) = true then
 (if (s2.2.length + ([true] : List Bool).length) * 1 ≤ 140737488355328 then
 let t5 : List Bool := s2.2 ++ [true];
 let t6 := IntKind.i64.wrap (s2.1 + 1);
 some (Sum.inl (t6, t5))
 else
 none)
 else
 some (Sum.inr s2.2))

theorem law13_keep_eq (n1 : Int) : law13_keep n1 =
 (loop (law13_keep_loop3 n1) (0, [true])).bind (fun out10 =>
 some out10) := (call_eq ..).trans (by kernel_rfl)

theorem segment_InOrder_eq (l1 : List Segment) : segment_InOrder l1 =
 (segment_order l1).bind fun q2 =>
 (if (decide (q2.1 ≥ 0)) = true then
 some (q2.1, 40)
 else
 some ((-1), 0)) := (call_eq ..).trans (by kernel_rfl)

theorem slices_ContainsFunc_api_Segment_api_Segment_eq (s1 : List Segment) (b2 : Int) : slices_ContainsFunc_api_Segment_api_Segment s1 b2 =
 (slices_IndexFunc_api_Segment_api_Segment s1 b2).bind fun q3 =>
 some (decide (q3.1 ≥ 0), q3.2) := (call_eq ..).trans (by kernel_rfl)

noncomputable def page_height_loop3 (l1 : List Segment) (page2 : Int) (s3 : Int × Int) : Option ((Int × Int) ⊕ (Int)) :=
 (if (decide (s3.2 < ((l1.length : Nat) : Int))) = true then
 (if 0 ≤ s3.2 then
 (l1[s3.2.toNat]?).bind fun e6 =>
 ((if (decide (e6.page = page2)) = true then
 some (decide (e6.kind = 7))
 else
 some false) : Option (Bool)).bind (fun v7 =>
 (if v7 = true then
 (bits_GetSize e6.data 0).bind fun q8 =>
 (if (decide (q8.2.2 = 0)) = true then
 let t12 := IntKind.i64.wrap (q8.1 + 1);
 let t13 := imax s3.1 t12;
 let t14 := IntKind.i64.wrap (s3.2 + 1);
 some (Sum.inl (t13, t14))
 else
 let t15 := IntKind.i64.wrap (s3.2 + 1);
 some (Sum.inl (s3.1, t15)))
 else
 let t16 := IntKind.i64.wrap (s3.2 + 1);
 some (Sum.inl (s3.1, t16))))
 else
 none)
 else
 some (Sum.inr s3.1))

theorem page_height_eq (l1 : List Segment) (page2 : Int) : page_height l1 page2 =
 (loop (page_height_loop3 l1 page2) (0, 0)).bind (fun h20 =>
 some h20) := (call_eq ..).trans (by kernel_rfl)

theorem page_builder_add_eq (s1 s2 s3 : Int) (s4 : List Int) (s5 : List Bool) (s6 : List Int) (b7 b8 b9 : Int) (b10 : List Int) (b11 b12 : Bool) (b13 b14 : Int) (b15 : List EntBitmap) : page_builder_add s1 s2 s3 s4 s5 s6 b7 b8 b9 b10 b11 b12 b13 b14 b15 =
 (page_builder_order s1 s2 s3 s4 s5 s6 b7 b8 b9 b10 b11 b12 b13 b14 b15).bind fun q16 =>
 let tr18 := q16.2.1;
 let tr19 := q16.2.2.1;
 let tr20 := q16.2.2.2.1;
 let tr21 := q16.2.2.2.2.1;
 let tr22 := q16.2.2.2.2.2.1;
 let tr23 := q16.2.2.2.2.2.2.1;
 let tr24 := q16.2.2.2.2.2.2.2.1;
 let tr25 := q16.2.2.2.2.2.2.2.2.1;
 let tr26 := q16.2.2.2.2.2.2.2.2.2;
 (if (!decide (q16.1 = 0)) = true then
 some (q16.1, tr18, tr19, tr20, tr21, tr22, tr23, tr24, tr25, tr26)
 else
 (if (decide (s2 = 0)) = true then
 none
 else
 (if (decide (s2 = 1)) = true then
 none
 else
 (if (decide (s2 = 2)) = true then
 none
 else
 (if (decide (s2 = 3)) = true then
 none
 else
 (if (decide (s2 = 4)) = true then
 none
 else
 (if (decide (s2 = 5)) = true then
 (page_builder_refined s1 s2 s3 s4 s5 s6 tr18 tr19 tr20 tr21 tr22 tr23 tr24 tr25 tr26 s6 0 0).bind fun q27 =>
 some (q27.2.2.2.2.2.2.2.2.2.2.2, q27.1, q27.2.1, q27.2.2.1, q27.2.2.2.1, q27.2.2.2.2.1, q27.2.2.2.2.2.1, q27.2.2.2.2.2.2.1, q27.2.2.2.2.2.2.2.1, q27.2.2.2.2.2.2.2.2.1)
 else
 (if (decide (s2 = 10)) = true then
 (page_builder_runs s1 s2 s3 s4 s5 s6 tr18 tr19 tr20 tr21 tr22 tr23 tr24 tr25 tr26 s6 0 0).bind fun q40 =>
 some (q40.2.2.2.2.2.2.2.2.2.2.2, q40.1, q40.2.1, q40.2.2.1, q40.2.2.2.1, q40.2.2.2.2.1, q40.2.2.2.2.2.1, q40.2.2.2.2.2.2.1, q40.2.2.2.2.2.2.2.1, q40.2.2.2.2.2.2.2.2.1)
 else
 (if (decide (s2 = 6)) = true then
 (page_builder_info tr18 tr19 tr20 tr21 tr22 tr23 tr24 tr25 tr26 s6 0 0).bind fun q53 =>
 (page_cursor_check (decide (((s4.length : Nat) : Int) = 0)) 50 q53.2.2.2.2.2.2.2.2.2.1 q53.2.2.2.2.2.2.2.2.2.2.1 q53.2.2.2.2.2.2.2.2.2.2.2).bind fun q66 =>
 some (q66.2.2.2, q53.1, q53.2.1, q53.2.2.1, q53.2.2.2.1, q53.2.2.2.2.1, q53.2.2.2.2.2.1, q53.2.2.2.2.2.2.1, q53.2.2.2.2.2.2.2.1, q53.2.2.2.2.2.2.2.2.1)
 else
 (if (decide (s2 = 7)) = true then
 (page_builder_stripes tr18 tr19 tr20 tr21 tr22 tr23 tr24 tr25 tr26 s6 0 0).bind fun q71 =>
 (page_cursor_check (decide (((s4.length : Nat) : Int) = 0)) 50 q71.2.2.2.2.2.2.2.2.2.1 q71.2.2.2.2.2.2.2.2.2.2.1 q71.2.2.2.2.2.2.2.2.2.2.2).bind fun q84 =>
 some (q84.2.2.2, q71.1, q71.2.1, q71.2.2.1, q71.2.2.2.1, q71.2.2.2.2.1, q71.2.2.2.2.2.1, q71.2.2.2.2.2.2.1, q71.2.2.2.2.2.2.2.1, q71.2.2.2.2.2.2.2.2.1)
 else
 (if (decide (s2 = 8)) = true then
 (page_builder_none s1 s2 s3 s4 s5 s6 tr18 tr19 tr20 tr21 tr22 tr23 tr24 tr25 tr26 s6 0 0).bind fun q89 =>
 some (q89.2.2.2.2.2.2.2.2.2.2.2, q89.1, q89.2.1, q89.2.2.1, q89.2.2.2.1, q89.2.2.2.2.1, true, q89.2.2.2.2.2.2.1, q89.2.2.2.2.2.2.2.1, q89.2.2.2.2.2.2.2.2.1)
 else
 (if (decide (s2 = 9)) = true then
 (page_builder_none s1 s2 s3 s4 s5 s6 tr18 tr19 tr20 tr21 tr22 tr23 tr24 tr25 tr26 s6 0 0).bind fun q102 =>
 some (q102.2.2.2.2.2.2.2.2.2.2.2, q102.1, q102.2.1, q102.2.2.1, q102.2.2.2.1, q102.2.2.2.2.1, q102.2.2.2.2.2.1, q102.2.2.2.2.2.2.1, q102.2.2.2.2.2.2.2.1, q102.2.2.2.2.2.2.2.2.1)
 else
 (page_cursor_check (decide (((s4.length : Nat) : Int) = 0)) 50 s6 0 0).bind fun q115 =>
 some (q115.2.2.2, tr18, tr19, tr20, tr21, tr22, tr23, tr24, tr25, tr26))))))))))))) := (call_eq ..).trans (by kernel_rfl)

noncomputable def bitmap_blank_b (bitmap_fits : type_of% @bitmap_fits) (w1 h2 : Int) : Option (Int × Int × Int × (List Int)) :=
 (bitmap_fits w1 h2).bind fun q3 =>
 (if (!q3) = true then
 some (0, 0, 4, [])
 else
 let t4 := IntKind.i64.wrap (w1 * h2);
 (if 0 ≤ t4 ∧ t4 ≤ t4 ∧ ((1 : Nat) : Int) * t4 ≤ 281474976710656 then
 let t5 : List Int := List.replicate t4.toNat 0;
 some (w1, h2, 0, t5)
 else
 none))
theorem bitmap_blank_eq w1 h2 : bitmap_blank w1 h2 = bitmap_blank_b @bitmap_fits w1 h2 := (call_eq ..).trans (by kernel_rfl)

noncomputable def bits_Size_loop5 (s6 : Int × (List Int)) : Option ((Int × (List Int)) ⊕ ((List Int))) :=
 (if (decide (s6.1 > 0)) = true then
 let t9 : Int := s6.1.tmod 128;
 let t10 := IntKind.u8.wrap t9;
 let t11 := IntKind.u8.wrap (t10 + 128);
 (if (([t11] : List Int).length + s6.2.length) * 1 ≤ 140737488355328 then
 let t12 : List Int := ([t11] : List Int) ++ s6.2;
 let t13 := IntKind.i64.wrap (s6.1.tdiv 128);
 some (Sum.inl (t13, t12))
 else
 none)
 else
 some (Sum.inr s6.2))
noncomputable def bits_Size_b (loop : type_of% @loop) (bits_Size_loop5 : type_of% @bits_Size_loop5) (n1 : Int) : Option ((List Int) × Int) :=
 ((if (decide (n1 < 0)) = true then
 some true
 else
 some (decide (n1 > 2147483647))) : Option (Bool)).bind (fun v2 =>
 (if v2 = true then
 some ([], 2)
 else
 let t3 : Int := n1.tmod 128;
 let t4 := IntKind.u8.wrap t3;
 let t5 := IntKind.i64.wrap (n1.tdiv 128);
 (loop (bits_Size_loop5) (t5, [t4])).bind (fun out14 =>
 some (out14, 0))))
theorem bits_Size_eq n1 : bits_Size n1 = bits_Size_b @loop @bits_Size_loop5 n1 := (call_eq ..).trans (by kernel_rfl)

theorem page_near_eq (n1 : Int) : page_near n1 =
 (if (decide (n1 ≥ (-100000))) = true then
 some (decide (n1 ≤ 100000))
 else
 some false) := (call_eq ..).trans (by kernel_rfl)

noncomputable def bitmap_Valid_loop4 (b3 : List Int) (v7 : Int) : Option ((Int) ⊕ ((Unit) ⊕ (Bool))) :=
 (if (decide (v7 < ((b3.length : Nat) : Int))) = true then
 (if 0 ≤ v7 ∧ v7 < (b3.length : Int) then
 (if (decide (rd b3 v7 > 1)) = true then
 some (Sum.inr (Sum.inr false))
 else
 let t8 := IntKind.i64.wrap (v7 + 1);
 some (Sum.inl t8))
 else
 none)
 else
 some (Sum.inr (Sum.inl ())))

theorem bitmap_Valid_eq (b1 b2 : Int) (b3 : List Int) : bitmap_Valid b1 b2 b3 =
 ((bitmap_fits b1 b2).bind fun q4 =>
 (if (!q4) = true then
 some true
 else
 let t5 := IntKind.i64.wrap (b1 * b2);
 some (!decide (((b3.length : Nat) : Int) = t5))) : Option (Bool)).bind (fun v6 =>
 (if v6 = true then
 some false
 else
 (loop (bitmap_Valid_loop4 b3) 0).bind (fun o14 =>
 (Sum.elim (fun (p12 : Unit) =>
 some true)
 (fun (v13 : Bool) =>
 some v13) o14)))) := (call_eq ..).trans (by kernel_rfl)

noncomputable def runs_lines_loop3 (b1 b2 : Int) (b3 : List Int) (s4 : Int × (List (List Int))) : Option ((Int × (List (List Int))) ⊕ ((List (List Int)))) :=
 (if (decide (s4.1 < b2)) = true then
 let t7 := IntKind.i64.wrap (s4.1 * b1);
 let t8 := IntKind.i64.wrap (s4.1 + 1);
 let t9 := IntKind.i64.wrap (t8 * b1);
 (if 0 ≤ t9 ∧ t9 ≤ ((b3.length : Nat) : Int) then
 (if 0 ≤ t7 ∧ t7 ≤ t9 then
 let t10 : List Int := cutL b3 t7.toNat t9.toNat;
 (if (s4.2.length + ([t10] : List (List Int)).length) * 24 ≤ 140737488355328 then
 let t11 : List (List Int) := s4.2 ++ [t10];
 let t12 := IntKind.i64.wrap (s4.1 + 1);
 some (Sum.inl (t12, t11))
 else
 none)
 else
 none)
 else
 none)
 else
 some (Sum.inr s4.2))
noncomputable def runs_lines_loop3_step (b1 : Int) (b3 : List Int) (i13 x14 : Nat) (s15 : (List (List Int))) : Option (((List (List Int))) ⊕ ((List (List Int)))) :=
 let t7 := IntKind.i64.wrap (((i13 : Nat) : Int) * b1);
 let t8 := IntKind.i64.wrap (((i13 : Nat) : Int) + 1);
 let t9 := IntKind.i64.wrap (t8 * b1);
 (if 0 ≤ t9 ∧ t9 ≤ ((b3.length : Nat) : Int) then
 (if 0 ≤ t7 ∧ t7 ≤ t9 then
 let t10 : List Int := cutL b3 t7.toNat t9.toNat;
 (if (s15.length + ([t10] : List (List Int)).length) * 24 ≤ 140737488355328 then
 let t11 : List (List Int) := s15 ++ [t10];
 some (Sum.inl (t11))
 else
 none)
 else
 none)
 else
 none)
theorem runs_lines_loop3_over (b1 b2 : Int) (b3 : List Int) (hl : (List.range (b2).toNat).length ≤ 9223372036854775807) (s15 : (List (List Int))) : loop (runs_lines_loop3 b1 b2 b3) ((0, s15) : Int × (List (List Int))) =
    overL (runs_lines_loop3_step b1 b3) (fun (s15 : (List (List Int))) => some s15) 0 (List.range (b2).toNat) s15 := by
  refine loop_over (List.range (b2).toNat) (fun n (s : (List (List Int))) => ((((n : Nat) : Int), s) : Int × (List (List Int)))) _ _ (fun s => ?_) (fun i x s h => ?_) 0 s15 (Nat.zero_le _)
  · have h1 : ¬ (((List.range (b2).toNat).length : Nat) : Int) < b2 := by simp only [List.length_range]; omega
    unfold runs_lines_loop3; simp only [h1, decide_false, Bool.false_eq_true, if_false, Option.map_some]
  · have hlt := lt_len_of_get h
    rw [List.length_range] at hlt hl
    rw [List.getElem?_range hlt] at h
    cases h
    have h1 : ((i : Nat) : Int) < b2 := by omega
    have h0 : (0 : Int) ≤ ((i : Nat) : Int) := by omega
    have hw : IntKind.i64.wrap (((i : Nat) : Int) + 1) = (((i + 1 : Nat) : Nat) : Int) := w64 (by omega)
    unfold runs_lines_loop3 runs_lines_loop3_step
    simp only [h1, h0, hw, decide_true, if_true, and_self, true_and, Int.toNat_natCast, Option.bind_some, Option.map_bind, Function.comp_def, map_ite, map_elim, Option.map_some, Option.map_none]

theorem runs_lines_eq (b1 b2 : Int) (b3 : List Int) : runs_lines b1 b2 b3 =
 (loop (runs_lines_loop3 b1 b2 b3) (0, [])).bind (fun out16 =>
 some out16) := (call_eq ..).trans (by kernel_rfl)

noncomputable def runs_row_loop6 (pixels1 : List Int) (colour3 at6 : Int) : Option ((Int) ⊕ (Int)) :=
 (if (decide (at6 < ((pixels1.length : Nat) : Int))) = true then
 (if 0 ≤ at6 ∧ at6 < (pixels1.length : Int) then
 (if (decide (rd pixels1 at6 = colour3)) = true then
 let t7 := IntKind.i64.wrap (at6 + 1);
 some (Sum.inl t7)
 else
 some (Sum.inr at6))
 else
 none)
 else
 some (Sum.inr at6))
noncomputable def runs_row_loop4 (pixels1 : List Int) (s2 : Int × Int × (List Int)) : Option ((Int × Int × (List Int)) ⊕ ((List Int))) :=
 (if (decide (s2.2.1 < ((pixels1.length : Nat) : Int))) = true then
 (loop (runs_row_loop6 pixels1 s2.1) s2.2.1).bind (fun at8 =>
 let t9 := IntKind.i64.wrap (at8 - s2.2.1);
 (if (s2.2.2.length + ([t9] : List Int).length) * 8 ≤ 140737488355328 then
 let t10 : List Int := s2.2.2 ++ [t9];
 let t11 := IntKind.u8.wrap (1 - s2.1);
 some (Sum.inl (t11, at8, t10))
 else
 none))
 else
 some (Sum.inr s2.2.2))
theorem runs_row_eq (pixels1 : List Int) : runs_row pixels1 =
 (loop (runs_row_loop4 pixels1) (0, 0, [])).bind (fun out12 =>
 some out12) := (call_eq ..).trans (by kernel_rfl)

theorem runs_runBits_eq (n1 colour2 : Int) : runs_runBits n1 colour2 =
 (prefix_Standard 0).bind fun q3 =>
 let t6 := IntKind.i64.wrap (n1.tdiv 64);
 (prefix_Bits q3.1 false t6).bind fun q7 =>
 (runs_remains colour2).bind fun q10 =>
 let t11 : Int := n1.tmod 64;
 (prefix_Bits q10 false t11).bind fun q12 =>
 (if (q7.2.length + q12.2.length) * 1 ≤ 140737488355328 then
 let t15 : List Int := q7.2 ++ q12.2;
 some t15
 else
 none) := (call_eq ..).trans (by kernel_rfl)

noncomputable def bits_Pack_loop3 (bits1 : List Int) (s5 : Int × (List Int)) : Option ((Int × (List Int)) ⊕ (((List Int)) ⊕ ((List Int) × Int × (List Int)))) :=
 (if (decide (s5.1 < ((bits1.length : Nat) : Int))) = true then
 (if 0 ≤ s5.1 ∧ s5.1 < (bits1.length : Int) then
 (if (decide (rd bits1 s5.1 > 1)) = true then
 some (Sum.inr (Sum.inr ([], 2, s5.2)))
 else
 let t8 := IntKind.i64.wrap (s5.1.tdiv 8);
 (if 0 ≤ t8 ∧ t8 < (s5.2.length : Int) then
 let t9 : Int := rd s5.2 t8;
 let t10 : Int := s5.1.tmod 8;
 let t11 := IntKind.i64.wrap (7 - t10);
 (if t11 < 0 then
 none
 else
 let t12 := ishl .u8 (rd bits1 s5.1) t11;
 let t13 := ior .u8 t9 t12;
 (if 0 ≤ t8 ∧ t8 < (s5.2.length : Int) then
 let w14 : List Int := s5.2.set t8.toNat t13;
 let t15 := IntKind.i64.wrap (s5.1 + 1);
 some (Sum.inl (t15, w14))
 else
 none))
 else
 none))
 else
 none)
 else
 some (Sum.inr (Sum.inl s5.2)))

theorem bits_Pack_eq (bits1 : List Int) : bits_Pack bits1 =
 let t2 := IntKind.i64.wrap (((bits1.length : Nat) : Int) + 7);
 let t3 := IntKind.i64.wrap (t2.tdiv 8);
 (if 0 ≤ t3 ∧ t3 ≤ t3 ∧ ((1 : Nat) : Int) * t3 ≤ 281474976710656 then
 let t4 : List Int := List.replicate t3.toNat 0;
 (loop (bits_Pack_loop3 bits1) (0, t4)).bind (fun o24 =>
 (Sum.elim (fun (b19 : (List Int)) =>
 some (b19, 0))
 (fun (p20 : (List Int) × Int × (List Int)) =>
 some (p20.1, p20.2.1)) o24))
 else
 none) := (call_eq ..).trans (by kernel_rfl)

noncomputable def runs_modes_loop4 (above1 pixels2 : List Int) (s3 : Int × Int × (List Mode)) : Option ((Int × Int × (List Mode)) ⊕ ((List Mode))) :=
 ((if (decide (s3.1 < ((pixels2.length : Nat) : Int))) = true then
 some (decide (((pixels2.length : Nat) : Int) > 0))
 else
 some false) : Option (Bool)).bind (fun v7 =>
 (if v7 = true then
 (runs_marks above1 s3.1 s3.2.1).bind fun q8 =>
 let t11 := IntKind.u8.wrap (1 - s3.2.1);
 (runs_change pixels2 s3.1 t11).bind fun q12 =>
 (if (decide (q8.2 < q12)) = true then
 (if (s3.2.2.length + ([(Mode.mk [112, 97, 115, 115] 0 0 0 0)] : List Mode).length) * 48 ≤ 140737488355328 then
 let t13 : List Mode := s3.2.2 ++ [(Mode.mk [112, 97, 115, 115] 0 0 0 0)];
 some (Sum.inl (q8.2, s3.2.1, t13))
 else
 none)
 else
 (let t14 := IntKind.i64.wrap (q12 - q8.1);
 (if (decide (t14 ≥ (-3))) = true then
 let t15 := IntKind.i64.wrap (q12 - q8.1);
 some (decide (t15 ≤ 3))
 else
 some false) : Option (Bool)).bind (fun v16 =>
 (if v16 = true then
 let t17 := IntKind.i64.wrap (q12 - q8.1);
 (if (s3.2.2.length + ([(Mode.mk [117, 112] t17 0 0 0)] : List Mode).length) * 48 ≤ 140737488355328 then
 let t18 : List Mode := s3.2.2 ++ [(Mode.mk [117, 112] t17 0 0 0)];
 let t19 := IntKind.u8.wrap (1 - s3.2.1);
 some (Sum.inl (q12, t19, t18))
 else
 none)
 else
 (runs_change pixels2 q12 s3.2.1).bind fun q20 =>
 let t21 := imax s3.1 0;
 let t22 := IntKind.i64.wrap (q12 - t21);
 let t23 := IntKind.i64.wrap (q20 - q12);
 let t24 := IntKind.i64.wrap s3.2.1;
 (if (s3.2.2.length + ([(Mode.mk [102, 108, 97, 116] 0 t22 t23 t24)] : List Mode).length) * 48 ≤ 140737488355328 then
 let t25 : List Mode := s3.2.2 ++ [(Mode.mk [102, 108, 97, 116] 0 t22 t23 t24)];
 some (Sum.inl (q20, s3.2.1, t25))
 else
 none))))
 else
 some (Sum.inr s3.2.2)))
theorem runs_modes_eq (above1 pixels2 : List Int) : runs_modes above1 pixels2 =
 (loop (runs_modes_loop4 above1 pixels2) ((-1), 0, [])).bind (fun out26 =>
 some out26) := (call_eq ..).trans (by kernel_rfl)

theorem runs_mode_bits_eq (m1 : List Int) (m2 m3 m4 m5 : Int) : runs_mode_bits m1 m2 m3 m4 m5 =
 (if (decide (m1 = [112, 97, 115, 115])) = true then
 (runs_list [48, 48, 48, 49]).bind fun q6 =>
 some q6
 else
 (if (decide (m1 = [117, 112])) = true then
 (runs_uprights).bind fun q7 =>
 let t8 := IntKind.i64.wrap (m2 + 3);
 (if 0 ≤ t8 then
 (q7[t8.toNat]?).bind fun e9 =>
 (runs_list e9).bind fun q10 =>
 some q10
 else
 none)
 else
 (runs_list [48, 48, 49]).bind fun q11 =>
 (if 0 ≤ (0 : Int) ∧ (0 : Int) < ((2 : Nat) : Int) then
 (runs_runBits m3 m5).bind fun q12 =>
 (if (q11.length + q12.length) * 1 ≤ 140737488355328 then
 let t13 : List Int := q11 ++ q12;
 (if 0 ≤ (1 : Int) ∧ (1 : Int) < ((2 : Nat) : Int) then
 let t14 := IntKind.i64.wrap (1 - m5);
 (runs_runBits m4 t14).bind fun q15 =>
 (if (t13.length + q15.length) * 1 ≤ 140737488355328 then
 let t16 : List Int := t13 ++ q15;
 some t16
 else
 none)
 else
 none)
 else
 none)
 else
 none))) := (call_eq ..).trans (by kernel_rfl)

theorem refine_Valid_eq (o1 o2 o3 : Int) (o4 : Bool) (o5 : Int) : refine_Valid o1 o2 o3 o4 o5 =
 let t6 := IntKind.i64.wrap (0 - o2);
 let t7 := IntKind.i64.wrap (0 - o3);
 let t8 := imax (imax (imax o2 t6) o3) t7;
 (if (decide (o1 = 0)) = true then
 (if (decide (o5 = 0)) = true then
 let t9 := imin o2 o3;
 (if (decide (t9 ≥ (-200))) = true then
 some (decide (t8 ≤ 200))
 else
 some false)
 else
 (if (decide (o5 = 1)) = true then
 let t10 := imin o2 o3;
 (if (decide (t10 ≥ (-200))) = true then
 some (decide (t8 ≤ 200))
 else
 some false)
 else
 some false))
 else
 (if (decide (o1 = 1)) = true then
 (if (decide (o5 = 0)) = true then
 let t11 := imin o2 o3;
 (if (decide (t11 ≥ (-200))) = true then
 some (decide (t8 ≤ 200))
 else
 some false)
 else
 (if (decide (o5 = 1)) = true then
 let t12 := imin o2 o3;
 (if (decide (t12 ≥ (-200))) = true then
 some (decide (t8 ≤ 200))
 else
 some false)
 else
 some false))
 else
 some false)) := (call_eq ..).trans (by kernel_rfl)

theorem refine_model_eq (o1 o2 o3 : Int) (o4 : Bool) (o5 : Int) : refine_model o1 o2 o3 o4 o5 =
 (refine_contexts o1).bind fun q6 =>
 let t7 := IntKind.i64.wrap (q6 + 1);
 (coder_New o5 t7).bind fun q8 =>
 some (q8.1, q8.2.2) := (call_eq ..).trans (by kernel_rfl)

theorem coder_NewEncoder_eq (m1 : Int) (m2 : List Int) : coder_NewEncoder m1 m2 =
 (coder_Valid m1 m2).bind fun q3 =>
 (if (!q3) = true then
 some (Sum.inr ())
 else
 (coder_begin m1 m2).bind fun q4 =>
 some (Sum.inl (q4.1, q4.2.1, q4.2.2.1, q4.2.2.2, []))) := (call_eq ..).trans (by kernel_rfl)

noncomputable def refine_Put_loop20 (base1 b7 v79 : Int) (typical110 : Bool) (s138 : Int × Int × Int × Int × (List Int) × (List Int) × Int × Int × Int × Bool × Int × Int × Int × (List Int) × Int × Int × (List Int)) : Option ((Int × Int × Int × Int × (List Int) × (List Int) × Int × Int × Int × Bool × Int × Int × Int × (List Int) × Int × Int × (List Int)) ⊕ (Int × Int × Int × (List Int) × (List Int) × Int × Int × Int × Bool × Int × Int × Int × (List Int) × Int × Int × (List Int))) :=
 let b142 := s138.2.2.2.1;
 let b143 := s138.2.2.2.2.1;
 let b144 := s138.2.2.2.2.2.1;
 let b148 := s138.2.2.2.2.2.2.2.2.2.1;
 let b149 := s138.2.2.2.2.2.2.2.2.2.2.1;
 let b150 := s138.2.2.2.2.2.2.2.2.2.2.2.1;
 let b151 := s138.2.2.2.2.2.2.2.2.2.2.2.2.1;
 let b152 := s138.2.2.2.2.2.2.2.2.2.2.2.2.2.1;
 let b153 := s138.2.2.2.2.2.2.2.2.2.2.2.2.2.2.1;
 let b154 := s138.2.2.2.2.2.2.2.2.2.2.2.2.2.2.2.1;
 let b155 := s138.2.2.2.2.2.2.2.2.2.2.2.2.2.2.2.2;
 (if (decide (s138.1 < b7)) = true then
 (refine_region_flat s138.1 v79 s138.2.2.2.2.2.2.1 s138.2.2.2.2.2.2.2.1 s138.2.2.2.2.2.2.2.2.1 b148 b149 b150 b151 b152 b153 b154 b155).bind fun q156 =>
 let tr162 := q156.2.2.2.2.2.1;
 let tr163 := q156.2.2.2.2.2.2.1;
 let tr164 := q156.2.2.2.2.2.2.2.1;
 let tr165 := q156.2.2.2.2.2.2.2.2.1;
 let tr166 := q156.2.2.2.2.2.2.2.2.2.1;
 let tr167 := q156.2.2.2.2.2.2.2.2.2.2.1;
 let tr168 := q156.2.2.2.2.2.2.2.2.2.2.2.1;
 let tr169 := q156.2.2.2.2.2.2.2.2.2.2.2.2;
 ((if (!typical110) = true then
 some true
 else
 some (!q156.2.1)) : Option (Bool)).bind (fun v170 =>
 (if v170 = true then
 (demon
 ((refine_region_context s138.1 v79 q156.2.2.1 q156.2.2.2.1 q156.2.2.2.2.1 tr162 tr163 tr164 tr165 tr166 tr167 tr168 tr169).bind fun q171 =>
 let t184 := IntKind.i64.wrap (base1 + q171.1);
 (refine_grid_at q171.2.2.2.2.2.2.1 q171.2.2.2.2.2.2.2.1 q171.2.2.2.2.2.2.2.2.1 s138.1 v79).bind fun q185 =>
 let t186 := IntKind.i64.wrap q185;
 (coder_Encoder_Put t184 t186 s138.2.1 s138.2.2.1 b142 b143 b144).bind fun q187 =>
 let t194 := IntKind.i64.wrap (s138.1 + 1);
 some (Sum.inl (t194, q187.2.1, q187.2.2.1, q187.2.2.2.1, q187.2.2.2.2.1, q187.2.2.2.2.2, q171.2.1, q171.2.2.1, q171.2.2.2.1, q171.2.2.2.2.1, q171.2.2.2.2.2.1, q171.2.2.2.2.2.2.1, q171.2.2.2.2.2.2.2.1, q171.2.2.2.2.2.2.2.2.1, q171.2.2.2.2.2.2.2.2.2.1, q171.2.2.2.2.2.2.2.2.2.2.1, q171.2.2.2.2.2.2.2.2.2.2.2)))
 ((refine_region_context s138.1 v79 q156.2.2.1 q156.2.2.2.1 q156.2.2.2.2.1 tr162 tr163 tr164 tr165 tr166 tr167 tr168 tr169).bind fun q195 =>
 let t208 := IntKind.i64.wrap (base1 + q195.1);
 (refine_grid_at tr164 tr165 tr166 s138.1 v79).bind fun q209 =>
 let t210 := IntKind.i64.wrap q209;
 (coder_Encoder_Put t208 t210 s138.2.1 s138.2.2.1 b142 b143 b144).bind fun q211 =>
 let t218 := IntKind.i64.wrap (s138.1 + 1);
 some (Sum.inl (t218, q211.2.1, q211.2.2.1, q211.2.2.2.1, q211.2.2.2.2.1, q211.2.2.2.2.2, q195.2.1, q195.2.2.1, q195.2.2.2.1, q195.2.2.2.2.1, q195.2.2.2.2.2.1, q195.2.2.2.2.2.2.1, q195.2.2.2.2.2.2.2.1, q195.2.2.2.2.2.2.2.2.1, q195.2.2.2.2.2.2.2.2.2.1, q195.2.2.2.2.2.2.2.2.2.2.1, q195.2.2.2.2.2.2.2.2.2.2.2))))
 else
 let t219 := IntKind.i64.wrap (s138.1 + 1);
 some (Sum.inl (t219, s138.2.1, s138.2.2.1, b142, b143, b144, q156.2.2.1, q156.2.2.2.1, q156.2.2.2.2.1, tr162, tr163, tr164, tr165, tr166, tr167, tr168, tr169))))
 else
 some (Sum.inr (s138.2.1, s138.2.2.1, b142, b143, b144, s138.2.2.2.2.2.2.1, s138.2.2.2.2.2.2.2.1, s138.2.2.2.2.2.2.2.2.1, b148, b149, b150, b151, b152, b153, b154, b155)))
noncomputable def refine_Put_loop11 (base1 o2 : Int) (o5 : Bool) (b7 b8 : Int) (s78 : Int × Int × Int × Int × (List Int) × (List Int) × Int × Int × Int × Bool × Int × Int × Int × (List Int) × Int × Int × (List Int)) : Option ((Int × Int × Int × Int × (List Int) × (List Int) × Int × Int × Int × Bool × Int × Int × Int × (List Int) × Int × Int × (List Int)) ⊕ (Int × Int × Int × (List Int) × (List Int) × Int × Int × Int × Bool × Int × Int × Int × (List Int) × Int × Int × (List Int))) :=
 let b83 := s78.2.2.2.2.1;
 let b84 := s78.2.2.2.2.2.1;
 let b85 := s78.2.2.2.2.2.2.1;
 let b86 := s78.2.2.2.2.2.2.2.1;
 let b87 := s78.2.2.2.2.2.2.2.2.1;
 let b88 := s78.2.2.2.2.2.2.2.2.2.1;
 let b89 := s78.2.2.2.2.2.2.2.2.2.2.1;
 let b90 := s78.2.2.2.2.2.2.2.2.2.2.2.1;
 let b91 := s78.2.2.2.2.2.2.2.2.2.2.2.2.1;
 let b92 := s78.2.2.2.2.2.2.2.2.2.2.2.2.2.1;
 let b93 := s78.2.2.2.2.2.2.2.2.2.2.2.2.2.2.1;
 let b94 := s78.2.2.2.2.2.2.2.2.2.2.2.2.2.2.2.1;
 let b95 := s78.2.2.2.2.2.2.2.2.2.2.2.2.2.2.2.2;
 (if (decide (s78.1 < b8)) = true then
 ((if o5 = true then
 (refine_region_typical s78.1 b85 b86 b87 b88 b89 b90 b91 b92 b93 b94 b95).bind fun q96 =>
 some (q96.1, q96.2.1, q96.2.2.1, q96.2.2.2.1, q96.2.2.2.2.1, q96.2.2.2.2.2.1, q96.2.2.2.2.2.2.1, q96.2.2.2.2.2.2.2.1, q96.2.2.2.2.2.2.2.2.1, q96.2.2.2.2.2.2.2.2.2.1, q96.2.2.2.2.2.2.2.2.2.2.1, q96.2.2.2.2.2.2.2.2.2.2.2)
 else
 some (false, b85, b86, b87, b88, b89, b90, b91, b92, b93, b94, b95)) : Option (Bool × Int × Int × Int × Bool × Int × Int × Int × (List Int) × Int × Int × (List Int))).bind (fun p109 =>
 ((if o5 = true then
 ((if p109.1 = true then
 some 1
 else
 some 0) : Option (Int)).bind (fun bit122 =>
 (refine_contexts o2).bind fun q123 =>
 let t124 := IntKind.i64.wrap (base1 + q123);
 (coder_Encoder_Put t124 bit122 s78.2.1 s78.2.2.1 s78.2.2.2.1 b83 b84).bind fun q125 =>
 some (q125.2.1, q125.2.2.1, q125.2.2.2.1, q125.2.2.2.2.1, q125.2.2.2.2.2))
 else
 some (s78.2.1, s78.2.2.1, s78.2.2.2.1, b83, b84)) : Option (Int × Int × Int × (List Int) × (List Int))).bind (fun p132 =>
 (loop (refine_Put_loop20 base1 b7 s78.1 p109.1) (0, p132.1, p132.2.1, p132.2.2.1, p132.2.2.2.1, p132.2.2.2.2, p109.2.1, p109.2.2.1, p109.2.2.2.1, p109.2.2.2.2.1, p109.2.2.2.2.2.1, p109.2.2.2.2.2.2.1, p109.2.2.2.2.2.2.2.1, p109.2.2.2.2.2.2.2.2.1, p109.2.2.2.2.2.2.2.2.2.1, p109.2.2.2.2.2.2.2.2.2.2.1, p109.2.2.2.2.2.2.2.2.2.2.2)).bind (fun p239 =>
 let t256 := IntKind.i64.wrap (s78.1 + 1);
 some (Sum.inl (t256, p239.1, p239.2.1, p239.2.2.1, p239.2.2.2.1, p239.2.2.2.2.1, p239.2.2.2.2.2.1, p239.2.2.2.2.2.2.1, p239.2.2.2.2.2.2.2.1, p239.2.2.2.2.2.2.2.2.1, p239.2.2.2.2.2.2.2.2.2.1, p239.2.2.2.2.2.2.2.2.2.2.1, p239.2.2.2.2.2.2.2.2.2.2.2.1, p239.2.2.2.2.2.2.2.2.2.2.2.2.1, p239.2.2.2.2.2.2.2.2.2.2.2.2.2.1, p239.2.2.2.2.2.2.2.2.2.2.2.2.2.2.1, p239.2.2.2.2.2.2.2.2.2.2.2.2.2.2.2)))))
 else
 some (Sum.inr (s78.2.1, s78.2.2.1, s78.2.2.2.1, b83, b84, b85, b86, b87, b88, b89, b90, b91, b92, b93, b94, b95)))

theorem refine_Put_eq (base1 o2 o3 o4 : Int) (o5 : Bool) (o6 b7 b8 : Int) (b9 : List Int) (r10 r11 : Int) (r12 : List Int) (b13 b14 b15 : Int) (b16 b17 : List Int) : refine_Put base1 o2 o3 o4 o5 o6 b7 b8 b9 r10 r11 r12 b13 b14 b15 b16 b17 =
 (coder_Encoder_Put (-1) 0 b13 b14 b15 b16 b17).bind fun q18 =>
 let tr22 := q18.2.2.2.1;
 let tr23 := q18.2.2.2.2.1;
 let tr24 := q18.2.2.2.2.2;
 ((if (decide (q18.1 = 7)) = true then
 some (Sum.inr (7, q18.2.1, q18.2.2.1, tr22, tr23, tr24))
 else
 (refine_Valid o2 o3 o4 o5 o6).bind fun q25 =>
 ((if (!q25) = true then
 some (Sum.inr (2, q18.2.1, q18.2.2.1, tr22, tr23, tr24))
 else
 ((bitmap_Valid b7 b8 b9).bind fun q26 =>
 (if (!q26) = true then
 some true
 else
 (bitmap_Valid r10 r11 r12).bind fun q27 =>
 some (!q27)) : Option (Bool)).bind (fun v28 =>
 (if v28 = true then
 some (Sum.inr (30, q18.2.1, q18.2.2.1, tr22, tr23, tr24))
 else
 (coder_Encoder_Model q18.2.1 q18.2.2.1 tr22 tr23 tr24).bind fun q29 =>
 (refine_fits q29.1 q29.2.1 base1 o2 o3 o4 o5 o6).bind fun q37 =>
 (if (!q37) = true then
 some (Sum.inr (2, q29.2.2.1, q29.2.2.2.1, q29.2.2.2.2.1, q29.2.2.2.2.2.1, q29.2.2.2.2.2.2))
 else
 some (Sum.inl (q29.2.2.1, q29.2.2.2.1, q29.2.2.2.2.1, q29.2.2.2.2.2.1, q29.2.2.2.2.2.2)))))) : Option ((Int × Int × Int × (List Int) × (List Int)) ⊕ (Int × Int × Int × Int × (List Int) × (List Int)))).bind (fun o51 =>
 (Sum.elim (fun (p38 : Int × Int × Int × (List Int) × (List Int)) =>
 some (Sum.inl (p38.1, p38.2.1, p38.2.2.1, p38.2.2.2.1, p38.2.2.2.2)))
 (fun (p44 : Int × Int × Int × Int × (List Int) × (List Int)) =>
 some (Sum.inr (p44.1, p44.2.1, p44.2.2.1, p44.2.2.2.1, p44.2.2.2.2.1, p44.2.2.2.2.2))) o51))) : Option ((Int × Int × Int × (List Int) × (List Int)) ⊕ (Int × Int × Int × Int × (List Int) × (List Int)))).bind (fun o65 =>
 (Sum.elim (fun (p52 : Int × Int × Int × (List Int) × (List Int)) =>
 (refine_newRegion o2 o3 o4 o5 o6 b7 b8 b9 r10 r11 r12).bind fun q66 =>
 (loop (refine_Put_loop11 base1 o2 o5 b7 b8) (0, p52.1, p52.2.1, p52.2.2.1, p52.2.2.2.1, p52.2.2.2.2, q66.1, q66.2.1, q66.2.2.1, q66.2.2.2.1, q66.2.2.2.2.1, q66.2.2.2.2.2.1, q66.2.2.2.2.2.2.1, q66.2.2.2.2.2.2.2.1, q66.2.2.2.2.2.2.2.2.1, q66.2.2.2.2.2.2.2.2.2.1, q66.2.2.2.2.2.2.2.2.2.2)).bind (fun p276 =>
 some (0, p276.1, p276.2.1, p276.2.2.1, p276.2.2.2.1, p276.2.2.2.2.1)))
 (fun (p58 : Int × Int × Int × Int × (List Int) × (List Int)) =>
 some (p58.1, p58.2.1, p58.2.2.1, p58.2.2.2.1, p58.2.2.2.2.1, p58.2.2.2.2.2)) o65)) := (call_eq ..).trans (by kernel_rfl)

noncomputable def coder_Encoder_End_loop10 (tr10 v15 : Int) (s22 : Int × (List Int)) : Option ((Int × (List Int)) ⊕ ((List Int))) :=
 (if (decide (s22.1 < v15)) = true then
 let t25 := IntKind.i64.wrap (8 * s22.1);
 let t26 := IntKind.i64.wrap (24 - t25);
 (if t26 < 0 then
 none
 else
 let t27 := ishr .u64 tr10 t26;
 let t28 := IntKind.u8.wrap t27;
 (if (s22.2.length + ([t28] : List Int).length) * 1 ≤ 140737488355328 then
 let t29 : List Int := s22.2 ++ [t28];
 let t30 := IntKind.i64.wrap (s22.1 + 1);
 some (Sum.inl (t30, t29))
 else
 none))
 else
 some (Sum.inr s22.2))

noncomputable def coder_Encoder_End_loop5 (tr9 tr10 : Int) (s14 : Int × (List Int)) : Option ((Int × (List Int)) ⊕ (((List Int)) ⊕ ((List Int)))) :=
 (if (decide (s14.1 < 5)) = true then
 let t17 := IntKind.i64.wrap (8 * s14.1);
 let t18 := IntKind.i64.wrap (32 - t17);
 let t19 := IntKind.u64.wrap t18;
 (if t19 < 0 then
 none
 else
 let t20 := ishr .u64 tr10 t19;
 (if t19 < 0 then
 none
 else
 let t21 := ishl .u64 t20 t19;
 (if (decide (t21 ≥ tr9)) = true then
 (loop (coder_Encoder_End_loop10 tr10 s14.1) (0, s14.2)).bind (fun out34 =>
 some (Sum.inr (Sum.inr out34)))
 else
 let t35 := IntKind.i64.wrap (s14.1 + 1);
 some (Sum.inl (t35, s14.2)))))
 else
 some (Sum.inr (Sum.inl s14.2)))

theorem coder_Encoder_End_eq (b1 b2 b3 : Int) (b4 b5 : List Int) : coder_Encoder_End b1 b2 b3 b4 b5 =
 (coder_Encoder_none b1 b2 b3 b4 b5).bind fun q6 =>
 let tr12 := q6.2.2.2.2.2;
 (if q6.1 = true then
 some ([], q6.2.1, q6.2.2.1, q6.2.2.2.1, q6.2.2.2.2.1, tr12)
 else
 (if (([] : List Int).length + tr12.length) * 1 ≤ 140737488355328 then
 let t13 : List Int := ([] : List Int) ++ tr12;
 (loop (coder_Encoder_End_loop5 q6.2.2.1 q6.2.2.2.1) (0, t13)).bind (fun o41 =>
 (Sum.elim (fun (out39 : (List Int)) =>
 some (out39, q6.2.1, q6.2.2.1, q6.2.2.2.1, q6.2.2.2.2.1, tr12))
 (fun (b40 : (List Int)) =>
 some (b40, q6.2.1, q6.2.2.1, q6.2.2.2.1, q6.2.2.2.2.1, tr12)) o41))
 else
 none)) := (call_eq ..).trans (by kernel_rfl)

noncomputable def bits_Signed_b (bits_Size : type_of% @bits_Size) (n1 : Int) : Option ((List Int) × Int) :=
 ((if (decide (n1 ≥ 0)) = true then
 some (decide (n1 < 1073741824))
 else
 some false) : Option (Bool)).bind (fun v2 =>
 (if v2 = true then
 let t3 := IntKind.i64.wrap (2 * n1);
 (bits_Size t3).bind fun q4 =>
 some (q4.1, q4.2)
 else
 ((if (decide (n1 < 0)) = true then
 some (decide (n1 ≥ (-1073741824)))
 else
 some false) : Option (Bool)).bind (fun v7 =>
 (if v7 = true then
 let t8 := IntKind.i64.wrap ((-2) * n1);
 let t9 := IntKind.i64.wrap (t8 - 1);
 (bits_Size t9).bind fun q10 =>
 some (q10.1, q10.2)
 else
 some ([], 2)))))
theorem bits_Signed_eq n1 : bits_Signed n1 = bits_Signed_b @bits_Size n1 := (call_eq ..).trans (by kernel_rfl)

noncomputable def segment_order_loop4 (l1 : List Segment) (s2 : Int × Int × (List Entint)) : Option ((Int × Int × (List Entint)) ⊕ (((List Entint)) ⊕ (Int × (List Entint)))) :=
 let v4 := s2.2.1;
 (if (decide (v4 < ((l1.length : Nat) : Int))) = true then
 (if 0 ≤ v4 then
 (l1[v4.toNat]?).bind fun e6 =>
 (segment_store_takes e6.number e6.kind e6.page e6.refs e6.keep e6.data s2.1 s2.2.2).bind fun q7 =>
 (if (!q7.1) = true then
 some (Sum.inr (Sum.inr (v4, q7.2)))
 else
 let t10 := IntKind.i64.wrap (v4 + 1);
 some (Sum.inl (e6.number, t10, q7.2)))
 else
 none)
 else
 some (Sum.inr (Sum.inl s2.2.2)))

theorem segment_order_eq (l1 : List Segment) : segment_order l1 =
 (loop (segment_order_loop4 l1) ((-1), 0, [])).bind (fun o20 =>
 (Sum.elim (fun (b16 : (List Entint)) =>
 some ((-1), b16))
 (fun (p17 : Int × (List Entint)) =>
 some (p17.1, p17.2)) o20)) := (call_eq ..).trans (by kernel_rfl)

noncomputable def slices_IndexFunc_api_Segment_api_Segment_loop2 (s1 : List Segment) (s3 : Int × Int) : Option ((Int × Int) ⊕ ((Int) ⊕ (Int × Int))) :=
 (if (decide (s3.1 < ((s1.length : Nat) : Int))) = true then
 (if 0 ≤ s3.1 then
 (s1[s3.1.toNat]?).bind fun e6 =>
 (page_Decode_1 e6.number e6.kind e6.page e6.refs e6.keep e6.data s3.2).bind fun q7 =>
 (if q7.1 = true then
 some (Sum.inr (Sum.inr (s3.1, q7.2)))
 else
 let t10 := IntKind.i64.wrap (s3.1 + 1);
 some (Sum.inl (t10, q7.2)))
 else
 none)
 else
 some (Sum.inr (Sum.inl s3.2)))

theorem slices_IndexFunc_api_Segment_api_Segment_eq (s1 : List Segment) (b2 : Int) : slices_IndexFunc_api_Segment_api_Segment s1 b2 =
 (loop (slices_IndexFunc_api_Segment_api_Segment_loop2 s1) (0, b2)).bind (fun o18 =>
 (Sum.elim (fun (b14 : Int) =>
 some ((-1), b14))
 (fun (p15 : Int × Int) =>
 some (p15.1, p15.2)) o18)) := (call_eq ..).trans (by kernel_rfl)

noncomputable def bits_GetSize_loop4 (b1 : List Int) (at2 : Int) (s4 : Int × Int) : Option ((Int × Int) ⊕ ((Unit) ⊕ (Int × Int × Int))) :=
 (if (decide (s4.2 < 5)) = true then
 let t7 := IntKind.i64.wrap (at2 + s4.2);
 (if (decide (t7 ≥ ((b1.length : Nat) : Int))) = true then
 some (Sum.inr (Sum.inr (0, 0, 6)))
 else
 let t8 := IntKind.i64.wrap (at2 + s4.2);
 (if 0 ≤ t8 ∧ t8 < (b1.length : Int) then
 let t9 := IntKind.i64.wrap (rd b1 t8);
 let t10 := IntKind.i64.wrap (s4.1 * 128);
 let t11 : Int := t9.tmod 128;
 let t12 := IntKind.i64.wrap (t10 + t11);
 (if (decide (t9 < 128)) = true then
 ((if (decide (t12 > 2147483647)) = true then
 some true
 else
 (if (decide (s4.2 > 0)) = true then
 (if 0 ≤ at2 ∧ at2 < (b1.length : Int) then
 some (decide (rd b1 at2 = 128))
 else
 none)
 else
 some false)) : Option (Bool)).bind (fun v13 =>
 (if v13 = true then
 some (Sum.inr (Sum.inr (0, 0, 3)))
 else
 let t14 := IntKind.i64.wrap (at2 + s4.2);
 let t15 := IntKind.i64.wrap (t14 + 1);
 some (Sum.inr (Sum.inr (t12, t15, 0)))))
 else
 let t16 := IntKind.i64.wrap (s4.2 + 1);
 some (Sum.inl (t12, t16)))
 else
 none))
 else
 some (Sum.inr (Sum.inl ())))

theorem bits_GetSize_eq (b1 : List Int) (at2 : Int) : bits_GetSize b1 at2 =
 ((if (decide (at2 < 0)) = true then
 some true
 else
 some (decide (at2 > ((b1.length : Nat) : Int)))) : Option (Bool)).bind (fun v3 =>
 (if v3 = true then
 some (0, 0, 2)
 else
 (loop (bits_GetSize_loop4 b1 at2) (0, 0)).bind (fun o25 =>
 (Sum.elim (fun (p20 : Unit) =>
 some (0, 0, 3))
 (fun (p21 : Int × Int × Int) =>
 some (p21.1, p21.2.1, p21.2.2)) o25)))) := (call_eq ..).trans (by kernel_rfl)

theorem page_builder_order_eq (s1 s2 s3 : Int) (s4 : List Int) (s5 : List Bool) (s6 : List Int) (b7 b8 b9 : Int) (b10 : List Int) (b11 b12 : Bool) (b13 b14 : Int) (b15 : List EntBitmap) : page_builder_order s1 s2 s3 s4 s5 s6 b7 b8 b9 b10 b11 b12 b13 b14 b15 =
 (if (decide (s3 = 0)) = true then
 ((if (decide (s2 = 0)) = true then
 some true
 else
 (if (decide (s2 = 2)) = true then
 some true
 else
 (if (decide (s2 = 9)) = true then
 some true
 else
 some (decide (s2 > 10))))) : Option (Bool)).bind (fun v16 =>
 (if v16 = true then
 some (0, b7, b8, b9, b10, b11, b12, b13, b14, b15)
 else
 some (50, b7, b8, b9, b10, b11, b12, b13, b14, b15)))
 else
 (if b12 = true then
 some (50, b7, b8, b9, b10, b11, b12, b13, b14, b15)
 else
 (if (decide (b11 = decide (s2 = 6))) = true then
 some (50, b7, b8, b9, b10, b11, b12, b13, b14, b15)
 else
 some (0, b7, b8, b9, b10, b11, b12, b13, b14, b15)))) := (call_eq ..).trans (by kernel_rfl)

theorem page_builder_refined_eqD (s1 s2 s3 : Int) (s4 : List Int) (s5 : List Bool) (s6 : List Int) (b7 b8 b9 : Int) (b10 : List Int) (b11 b12 : Bool) (b13 b14 : Int) (b15 : List EntBitmap) (b16 : List Int) (b17 b18 : Int) : page_builder_refined s1 s2 s3 s4 s5 s6 b7 b8 b9 b10 b11 b12 b13 b14 b15 b16 b17 b18 =
 (page_cursor_begin b16 b17 b18).bind fun q19 =>
 (page_cursor_byte 7 q19.2.2.2.2.2.2.1 q19.2.2.2.2.2.2.2.1 q19.2.2.2.2.2.2.2.2).bind fun q29 =>
 let t34 : Int := q29.1.tmod 2;
 let t35 := iand .i64 q29.1 2;
 let t36 := ishr .i64 q29.1 2;
 (page_cursor_signed q29.2.1 q29.2.2.1 q29.2.2.2).bind fun q37 =>
 (page_cursor_signed q37.2.1 q37.2.2.1 q37.2.2.2).bind fun q42 =>
 let tr46 := q42.2.2.2;
 (if (!decide (tr46 = 0)) = true then
 some (b7, b8, b9, b10, b11, b12, b13, b14, b15, q42.2.1, q42.2.2.1, tr46)
 else
 ((if (decide (((s4.length : Nat) : Int) = 0)) = true then
 (bitmap_Cut b8 b9 b10 q19.2.2.1 q19.2.2.2.1 q19.1 q19.2.1).bind fun q47 =>
 some (Sum.inl (q42.2.1, q42.2.2.1, tr46, q47.1, q47.2.1, q47.2.2.1))
 else
 (if 0 ≤ (0 : Int) ∧ (0 : Int) < (s4.length : Int) then
 let f52 : Option EntBitmap := findM (fun (e : EntBitmap) => KV.int e.key) (KV.int (rd s4 0)) b15;
 let e53 : EntBitmap := f52.getD (EntBitmap.mk (rd s4 0) 0 0 []);
 ((if f52.isSome = true then
 (page_cursor_check (decide (((s4.length : Nat) : Int) = 1)) 50 q42.2.1 q42.2.2.1 tr46).bind fun q54 =>
 some (!q54.1, q54.2.1, q54.2.2.1, q54.2.2.2)
 else
 (page_cursor_check false 50 q42.2.1 q42.2.2.1 tr46).bind fun q59 =>
 some (!q59.1, q59.2.1, q59.2.2.1, q59.2.2.2)) : Option (Bool × (List Int) × Int × Int)).bind (fun p64 =>
 (if p64.1 = true then
 some (Sum.inr (p64.2.1, p64.2.2.1, p64.2.2.2, e53.w, e53.h, e53.pix))
 else
 some (Sum.inl (p64.2.1, p64.2.2.1, p64.2.2.2, e53.w, e53.h, e53.pix))))
 else
 none)) : Option (((List Int) × Int × Int × Int × Int × (List Int)) ⊕ ((List Int) × Int × Int × Int × Int × (List Int)))).bind (fun o83 =>
 (Sum.elim (fun (p69 : (List Int) × Int × Int × Int × Int × (List Int)) =>
 let b74 := p69.2.2.2.2.1;
 let b75 := p69.2.2.2.2.2;
 ((demon
 ((page_cursor_rest p69.1 p69.2.1 p69.2.2.1).bind fun q84 =>
 (refine_Decode t34 q37.1 q42.1 (!decide (t35 = 0)) t36 q84.1 q19.1 q19.2.1 p69.2.2.2.1 b74 b75).bind fun q89 =>
 some (q89.2.2.2, q84.2.1, q84.2.2.1, q84.2.2.2, q89.1, q89.2.1, q89.2.2.1))
 ((demon
 ((page_cursor_rest p69.1 p69.2.1 p69.2.2.1).bind fun q94 =>
 (refine_Decode t34 q37.1 q42.1 (!decide (t35 = 0)) t36 q94.1 q19.1 q19.2.1 p69.2.2.2.1 b74 b75).bind fun q99 =>
 some (q99.2.2.2, q94.2.1, q94.2.2.1, q94.2.2.2, q99.1, q99.2.1, q99.2.2.1))
 ((page_cursor_rest p69.1 p69.2.1 p69.2.2.1).bind fun q104 =>
 (refine_Decode t34 q37.1 q42.1 (!decide (t35 = 0)) t36 q104.1 q19.1 q19.2.1 p69.2.2.2.1 b74 b75).bind fun q109 =>
 some (q109.2.2.2, q104.2.1, q104.2.2.1, q104.2.2.2, q109.1, q109.2.1, q109.2.2.1))))) : Option (Int × (List Int) × Int × Int × Int × Int × (List Int))).bind (fun p114 =>
 (page_cursor_check (decide (p114.1 = 0)) p114.1 p114.2.1 p114.2.2.1 p114.2.2.2.1).bind fun q122 =>
 (if q122.1 = true then
 (page_builder_draw s1 s2 s3 s4 s5 s6 q19.1 q19.2.1 q19.2.2.1 q19.2.2.2.1 q19.2.2.2.2.1 q19.2.2.2.2.2.1 p114.2.2.2.2.1 p114.2.2.2.2.2.1 p114.2.2.2.2.2.2 b7 b8 b9 b10 b11 b12 b13 b14 b15).bind fun q127 =>
 some (q127.1, q127.2.1, q127.2.2.1, q127.2.2.2.1, q127.2.2.2.2.1, q127.2.2.2.2.2.1, q127.2.2.2.2.2.2.1, q127.2.2.2.2.2.2.2.1, q127.2.2.2.2.2.2.2.2, q122.2.1, q122.2.2.1, q122.2.2.2)
 else
 some (b7, b8, b9, b10, b11, b12, b13, b14, b15, q122.2.1, q122.2.2.1, q122.2.2.2))))
 (fun (p76 : (List Int) × Int × Int × Int × Int × (List Int)) =>
 some (b7, b8, b9, b10, b11, b12, b13, b14, b15, p76.1, p76.2.1, p76.2.2.1)) o83))) := (call_eq ..).trans (by kernel_rfl)
theorem page_builder_refined_eq (s1 s2 s3 : Int) (s4 : List Int) (s5 : List Bool) (s6 : List Int) (b7 b8 b9 : Int) (b10 : List Int) (b11 b12 : Bool) (b13 b14 : Int) (b15 : List EntBitmap) (b16 : List Int) (b17 b18 : Int) : page_builder_refined s1 s2 s3 s4 s5 s6 b7 b8 b9 b10 b11 b12 b13 b14 b15 b16 b17 b18 =
 (page_cursor_begin b16 b17 b18).bind fun q19 =>
 (page_cursor_byte 7 q19.2.2.2.2.2.2.1 q19.2.2.2.2.2.2.2.1 q19.2.2.2.2.2.2.2.2).bind fun q29 =>
 let t34 : Int := q29.1.tmod 2;
 let t35 := iand .i64 q29.1 2;
 let t36 := ishr .i64 q29.1 2;
 (page_cursor_signed q29.2.1 q29.2.2.1 q29.2.2.2).bind fun q37 =>
 (page_cursor_signed q37.2.1 q37.2.2.1 q37.2.2.2).bind fun q42 =>
 let tr46 := q42.2.2.2;
 (if (!decide (tr46 = 0)) = true then
 some (b7, b8, b9, b10, b11, b12, b13, b14, b15, q42.2.1, q42.2.2.1, tr46)
 else
 ((if (decide (((s4.length : Nat) : Int) = 0)) = true then
 (bitmap_Cut b8 b9 b10 q19.2.2.1 q19.2.2.2.1 q19.1 q19.2.1).bind fun q47 =>
 some (Sum.inl (q42.2.1, q42.2.2.1, tr46, q47.1, q47.2.1, q47.2.2.1))
 else
 (if 0 ≤ (0 : Int) ∧ (0 : Int) < (s4.length : Int) then
 let f52 : Option EntBitmap := findM (fun (e : EntBitmap) => KV.int e.key) (KV.int (rd s4 0)) b15;
 let e53 : EntBitmap := f52.getD (EntBitmap.mk (rd s4 0) 0 0 []);
 ((if f52.isSome = true then
 (page_cursor_check (decide (((s4.length : Nat) : Int) = 1)) 50 q42.2.1 q42.2.2.1 tr46).bind fun q54 =>
 some (!q54.1, q54.2.1, q54.2.2.1, q54.2.2.2)
 else
 (page_cursor_check false 50 q42.2.1 q42.2.2.1 tr46).bind fun q59 =>
 some (!q59.1, q59.2.1, q59.2.2.1, q59.2.2.2)) : Option (Bool × (List Int) × Int × Int)).bind (fun p64 =>
 (if p64.1 = true then
 some (Sum.inr (p64.2.1, p64.2.2.1, p64.2.2.2, e53.w, e53.h, e53.pix))
 else
 some (Sum.inl (p64.2.1, p64.2.2.1, p64.2.2.2, e53.w, e53.h, e53.pix))))
 else
 none)) : Option (((List Int) × Int × Int × Int × Int × (List Int)) ⊕ ((List Int) × Int × Int × Int × Int × (List Int)))).bind (fun o83 =>
 (Sum.elim (fun (p69 : (List Int) × Int × Int × Int × Int × (List Int)) =>
 (((page_cursor_rest p69.1 p69.2.1 p69.2.2.1).bind fun q84 =>
 (refine_Decode t34 q37.1 q42.1 (!decide (t35 = 0)) t36 q84.1 q19.1 q19.2.1 p69.2.2.2.1 p69.2.2.2.2.1 p69.2.2.2.2.2).bind fun q89 =>
 some (q89.2.2.2, q84.2.1, q84.2.2.1, q84.2.2.2, q89.1, q89.2.1, q89.2.2.1)) : Option (Int × (List Int) × Int × Int × Int × Int × (List Int))).bind (fun p114 =>
 (page_cursor_check (decide (p114.1 = 0)) p114.1 p114.2.1 p114.2.2.1 p114.2.2.2.1).bind fun q122 =>
 (if q122.1 = true then
 (page_builder_draw s1 s2 s3 s4 s5 s6 q19.1 q19.2.1 q19.2.2.1 q19.2.2.2.1 q19.2.2.2.2.1 q19.2.2.2.2.2.1 p114.2.2.2.2.1 p114.2.2.2.2.2.1 p114.2.2.2.2.2.2 b7 b8 b9 b10 b11 b12 b13 b14 b15).bind fun q127 =>
 some (q127.1, q127.2.1, q127.2.2.1, q127.2.2.2.1, q127.2.2.2.2.1, q127.2.2.2.2.2.1, q127.2.2.2.2.2.2.1, q127.2.2.2.2.2.2.2.1, q127.2.2.2.2.2.2.2.2, q122.2.1, q122.2.2.1, q122.2.2.2)
 else
 some (b7, b8, b9, b10, b11, b12, b13, b14, b15, q122.2.1, q122.2.2.1, q122.2.2.2))))
 (fun (p76 : (List Int) × Int × Int × Int × Int × (List Int)) =>
 some (b7, b8, b9, b10, b11, b12, b13, b14, b15, p76.1, p76.2.1, p76.2.2.1)) o83))) := by rw [page_builder_refined_eqD]; simp only [demon_same]
end
end Go.Proofs.YtgffdmgidnnedaaGreat.P
