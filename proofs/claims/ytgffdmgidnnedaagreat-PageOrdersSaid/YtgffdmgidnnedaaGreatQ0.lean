/- The equations of functions. Printed by wip/tool/vsym.py. -/
import Derived.Test.YtgffdmgidnnedaaGreatG
import Derived.Test.YtgffdmgidnnedaaGreatLib
namespace Go.Proofs.YtgffdmgidnnedaaGreat.P
open Go Go.Proofs.YtgffdmgidnnedaaGreat.V
set_option linter.unusedVariables false
set_option linter.unusedSimpArgs false
set_option maxRecDepth 100000
noncomputable section
noncomputable def law13_PageOrders_loop5 (l1 : List Bitmap) (s7 : Int × Int × Int) : Option ((Int × Int × Int) ⊕ ((Int × Int) ⊕ (Bool))) :=
 let i10 := s7.2.2;
 (if (decide (i10 < ((l1.length : Nat) : Int))) = true then
 (if 0 ≤ i10 then
 (l1[i10.toNat]?).bind fun e11 =>
 (ref05_Valid e11.w e11.h e11.pix).bind fun q12 =>
 (if (!q12) = true then
 (law13_Sane).bind fun q13 =>
 some (Sum.inr (Sum.inr q13))
 else
 (if 0 ≤ i10 then
 (l1[i10.toNat]?).bind fun e14 =>
 let t15 := IntKind.i64.wrap (s7.1 + e14.w);
 (if 0 ≤ i10 then
 (l1[i10.toNat]?).bind fun e16 =>
 let t17 := imax s7.2.1 e16.h;
 let t18 := IntKind.i64.wrap (i10 + 1);
 some (Sum.inl (t15, t17, t18))
 else
 none)
 else
 none))
 else
 none)
 else
 some (Sum.inr (Sum.inl (s7.1, s7.2.1))))

noncomputable def law13_PageOrders_loop19 (l1 : List Bitmap) (t33 : Int) (s38 : Int × Int × (List (List Int))) : Option ((Int × Int × (List (List Int))) ⊕ (((List (List Int))) ⊕ (Bool))) :=
 let i40 := s38.2.1;
 (if (decide (i40 < ((l1.length : Nat) : Int))) = true then
 (if 0 ≤ i40 then
 (l1[i40.toNat]?).bind fun e42 =>
 (if 0 ≤ i40 then
 (l1[i40.toNat]?).bind fun e43 =>
 let t44 : Int := i40.tmod 2;
 (if 0 ≤ i40 then
 (l1[i40.toNat]?).bind fun e45 =>
 (page_Runs e42.w e43.h s38.1 0 t33 false (decide (t44 = 0)) e45.w e45.h e45.pix).bind fun q46 =>
 (if (!decide (q46.2 = 0)) = true then
 some (Sum.inr (Sum.inr false))
 else
 (if (s38.2.2.length + ([q46.1] : List (List Int)).length) * 24 ≤ 140737488355328 then
 let t49 : List (List Int) := s38.2.2 ++ [q46.1];
 (if 0 ≤ i40 then
 (l1[i40.toNat]?).bind fun e50 =>
 let t51 := IntKind.i64.wrap (s38.1 + e50.w);
 let t52 := IntKind.i64.wrap (i40 + 1);
 some (Sum.inl (t51, t52, t49))
 else
 none)
 else
 none))
 else
 none)
 else
 none)
 else
 none)
 else
 some (Sum.inr (Sum.inl s38.2.2)))

noncomputable def law13_PageOrders_loop29 (datas58 : (List (List Int))) (s82 : Int × (List Segment)) : Option ((Int × (List Segment)) ⊕ ((List Segment))) :=
 (if (decide (s82.1 < ((datas58.length : Nat) : Int))) = true then
 let t85 := IntKind.i64.wrap (1 + s82.1);
 (if 0 ≤ s82.1 ∧ s82.1 < (datas58.length : Int) then
 (datas58[s82.1.toNat]?).bind fun e86 =>
 (law13_segment t85 10 1 [] e86).bind fun q87 =>
 (if (s82.2.length + ([(Segment.mk q87.1 q87.2.1 q87.2.2.1 q87.2.2.2.1 q87.2.2.2.2.1 q87.2.2.2.2.2)] : List Segment).length) * 96 ≤ 140737488355328 then
 let t94 : List Segment := s82.2 ++ [(Segment.mk q87.1 q87.2.1 q87.2.2.1 q87.2.2.2.1 q87.2.2.2.2.1 q87.2.2.2.2.2)];
 let t95 := IntKind.i64.wrap (s82.1 + 1);
 some (Sum.inl (t95, t94))
 else
 none)
 else
 none)
 else
 some (Sum.inr s82.2))
noncomputable def law13_PageOrders_loop34 (order3 : List Int) (s98 : Int × (List Segment) × (List (List Int))) : Option ((Int × (List Segment) × (List (List Int))) ⊕ ((List Segment))) :=
 (if (decide (((s98.2.2.length : Nat) : Int) > 0)) = true then
 ((if (decide (s98.1 < ((order3.length : Nat) : Int))) = true then
 (if 0 ≤ s98.1 ∧ s98.1 < (order3.length : Int) then
 (if ((s98.2.2.length : Nat) : Int) = 0 then
 none
 else
 let t102 : Int := (rd order3 s98.1).tmod ((s98.2.2.length : Nat) : Int);
 let t103 := IntKind.i64.wrap (t102 + ((s98.2.2.length : Nat) : Int));
 (if ((s98.2.2.length : Nat) : Int) = 0 then
 none
 else
 let t104 : Int := t103.tmod ((s98.2.2.length : Nat) : Int);
 some t104))
 else
 none)
 else
 some 0) : Option (Int)).bind (fun at105 =>
 let t106 := IntKind.i64.wrap (2 * s98.1);
 let t107 := IntKind.i64.wrap (2 + t106);
 (if 0 ≤ at105 ∧ at105 < (s98.2.2.length : Int) then
 (s98.2.2[at105.toNat]?).bind fun e108 =>
 (law13_segment t107 10 1 [] e108).bind fun q109 =>
 let t116 := IntKind.i64.wrap (2 * s98.1);
 let t117 := IntKind.i64.wrap (3 + t116);
 (if 0 ≤ at105 ∧ at105 < (s98.2.2.length : Int) then
 (s98.2.2[at105.toNat]?).bind fun e118 =>
 (law13_segment t117 10 2 [] e118).bind fun q119 =>
 (if (s98.2.1.length + ([(Segment.mk q109.1 q109.2.1 q109.2.2.1 q109.2.2.2.1 q109.2.2.2.2.1 q109.2.2.2.2.2), (Segment.mk q119.1 q119.2.1 q119.2.2.1 q119.2.2.2.1 q119.2.2.2.2.1 q119.2.2.2.2.2)] : List Segment).length) * 96 ≤ 140737488355328 then
 let t126 : List Segment := s98.2.1 ++ [(Segment.mk q109.1 q109.2.1 q109.2.2.1 q109.2.2.2.1 q109.2.2.2.2.1 q109.2.2.2.2.2), (Segment.mk q119.1 q119.2.1 q119.2.2.1 q119.2.2.2.1 q119.2.2.2.2.1 q119.2.2.2.2.2)];
 (if 0 ≤ at105 ∧ at105 ≤ ((s98.2.2.length : Nat) : Int) then
 (if (([] : List (List Int)).length + ((s98.2.2.drop 0).take (at105.toNat - 0)).length) * 24 ≤ 140737488355328 then
 let t127 : List (List Int) := ([] : List (List Int)) ++ ((s98.2.2.drop 0).take (at105.toNat - 0));
 let t128 := IntKind.i64.wrap (at105 + 1);
 (if 0 ≤ t128 ∧ t128 ≤ ((s98.2.2.length : Nat) : Int) then
 (if (t127.length + ((s98.2.2.drop t128.toNat).take (s98.2.2.length - t128.toNat)).length) * 24 ≤ 140737488355328 then
 let t129 : List (List Int) := t127 ++ ((s98.2.2.drop t128.toNat).take (s98.2.2.length - t128.toNat));
 let t130 := IntKind.i64.wrap (s98.1 + 1);
 some (Sum.inl (t130, t126, t129))
 else
 none)
 else
 none)
 else
 none)
 else
 none)
 else
 none)
 else
 none)
 else
 none))
 else
 some (Sum.inr s98.2.1))
theorem law13_PageOrders_eq (l1 : List Bitmap) (op2 : Int) (order3 : List Int) : law13_PageOrders l1 op2 order3 =
 ((if (decide (((l1.length : Nat) : Int) > 8)) = true then
 some true
 else
 (law13_many l1).bind fun q4 =>
 some (decide (q4 > 1000))) : Option (Bool)).bind (fun v5 =>
 (if v5 = true then
 (law13_Sane).bind fun q6 =>
 some q6
 else
 (loop (law13_PageOrders_loop5 l1) (0, 0, 0)).bind (fun o28 =>
 (Sum.elim (fun (p24 : Int × Int) =>
 (ref05_Sides p24.1 p24.2).bind fun q29 =>
 (if (!q29) = true then
 (law13_Sane).bind fun q30 =>
 some q30
 else
 let t31 : Int := op2.tmod 5;
 let t32 := IntKind.i64.wrap (t31 + 5);
 let t33 : Int := t32.tmod 5;
 let t34 : Int := t33.tmod 2;
 (page_Info p24.1 p24.2 t34 0).bind fun q35 =>
 (if (!decide (q35.2 = 0)) = true then
 some false
 else
 (loop (law13_PageOrders_loop19 l1 t33) (0, 0, [])).bind (fun o60 =>
 (Sum.elim (fun (datas58 : (List (List Int))) =>
 (law13_segment 0 6 1 [] q35.1).bind fun q61 =>
 (law13_segment 0 6 1 [] q35.1).bind fun q68 =>
 (law13_segment 1 6 2 [] q35.1).bind fun q75 =>
 (loop (law13_PageOrders_loop29 datas58) (0, [(Segment.mk q61.1 q61.2.1 q61.2.2.1 q61.2.2.2.1 q61.2.2.2.2.1 q61.2.2.2.2.2)])).bind (fun first96 =>
 (if (([] : List (List Int)).length + datas58.length) * 24 ≤ 140737488355328 then
 let t97 : List (List Int) := ([] : List (List Int)) ++ datas58;
 (loop (law13_PageOrders_loop34 order3) (0, [(Segment.mk q68.1 q68.2.1 q68.2.2.1 q68.2.2.2.1 q68.2.2.2.2.1 q68.2.2.2.2.2), (Segment.mk q75.1 q75.2.1 q75.2.2.1 q75.2.2.2.1 q75.2.2.2.2.1 q75.2.2.2.2.2)], t97)).bind (fun second131 =>
 (page_Decode first96 1).bind fun q132 =>
 (page_Decode second131 1).bind fun q138 =>
 (page_Decode second131 2).bind fun q144 =>
 (if (decide (q132.2.2.2.2 = 0)) = true then
 (if (decide (q138.2.2.2.2 = 0)) = true then
 (if (decide (q144.2.2.2.2 = 0)) = true then
 (if (decide (q132.1 = p24.1)) = true then
 (if (decide (q132.2.1 = p24.2)) = true then
 (ref05_Same q132.1 q132.2.1 q132.2.2.1 q138.1 q138.2.1 q138.2.2.1).bind fun q150 =>
 (if q150 = true then
 (ref05_Same q138.1 q138.2.1 q138.2.2.1 q144.1 q144.2.1 q144.2.2.1).bind fun q151 =>
 (if q151 = true then
 (law13_Sane).bind fun q152 =>
 some q152
 else
 some false)
 else
 some false)
 else
 some false)
 else
 some false)
 else
 some false)
 else
 some false)
 else
 some false))
 else
 none)))
 (fun (v59 : Bool) =>
 some v59) o60)))))
 (fun (v27 : Bool) =>
 some v27) o28)))) := (call_eq ..).trans (by kernel_rfl)

noncomputable def law13_many_loop3 (l1 : List Bitmap) (s2 : Int × Int) : Option ((Int × Int) ⊕ (Int)) :=
 (if (decide (s2.2 < ((l1.length : Nat) : Int))) = true then
 let t5 := IntKind.i64.wrap (s2.1 + 1);
 (if 0 ≤ s2.2 then
 (l1[s2.2.toNat]?).bind fun e6 =>
 let t7 := IntKind.i64.wrap (t5 + ((e6.pix.length : Nat) : Int));
 let t8 := IntKind.i64.wrap (s2.2 + 1);
 some (Sum.inl (t7, t8))
 else
 none)
 else
 some (Sum.inr s2.1))
noncomputable def law13_many_loop3_step (i9 : Nat) (x10 : Bitmap) (s11 : Int) : Option ((Int) ⊕ (Int)) :=
 let t5 := IntKind.i64.wrap (s11 + 1);
 let t7 := IntKind.i64.wrap (t5 + ((x10.pix.length : Nat) : Int));
 some (Sum.inl (t7))
theorem law13_many_loop3_over (l1 : List Bitmap) (hl : l1.length ≤ 9223372036854775807) (s11 : Int) : loop (law13_many_loop3 l1) ((s11, 0) : Int × Int) =
    overL (law13_many_loop3_step) (fun (s11 : Int) => some s11) 0 l1 s11 := by
  refine loop_over l1 (fun n (s : Int) => ((s, ((n : Nat) : Int)) : Int × Int)) _ _ (fun s => ?_) (fun i x s h => ?_) 0 s11 (Nat.zero_le _)
  · unfold law13_many_loop3; simp
  · have hlt := lt_len_of_get h
    have h1 : ((i : Nat) : Int) < ((l1.length : Nat) : Int) := by omega
    have h0 : (0 : Int) ≤ ((i : Nat) : Int) := by omega
    have hw : IntKind.i64.wrap (((i : Nat) : Int) + 1) = (((i + 1 : Nat) : Nat) : Int) := w64 (by omega)
    unfold law13_many_loop3 law13_many_loop3_step
    simp only [h1, h0, hw, h, decide_true, if_true, and_self, true_and, Int.toNat_natCast, Option.bind_some, Option.map_bind, Function.comp_def, map_ite, map_elim, Option.map_some, Option.map_none]

theorem law13_many_eq (l1 : List Bitmap) : law13_many l1 =
 (loop (law13_many_loop3 l1) (0, 0)).bind (fun n12 =>
 some n12) := (call_eq ..).trans (by kernel_rfl)

noncomputable def law13_Sane_b (page_Info : type_of% @page_Info) (ref01_SameBytes : type_of% @ref01_SameBytes) : Option Bool :=
 (page_Info 3 2 0 1).bind fun q1 =>
 (if (decide (q1.2 = 0)) = true then
 (ref01_SameBytes q1.1 [3, 3, 2]).bind fun q4 =>
 some q4
 else
 some false)
theorem law13_Sane_eq : law13_Sane = law13_Sane_b @page_Info @ref01_SameBytes := (call_eq ..).trans (by kernel_rfl)

noncomputable def ref05_Valid_loop4 (b3 : List Int) (i7 : Int) : Option ((Int) ⊕ ((Unit) ⊕ (Bool))) :=
 (if (decide (i7 < ((b3.length : Nat) : Int))) = true then
 (if 0 ≤ i7 ∧ i7 < (b3.length : Int) then
 (if (decide (rd b3 i7 > 1)) = true then
 some (Sum.inr (Sum.inr false))
 else
 let t8 := IntKind.i64.wrap (i7 + 1);
 some (Sum.inl t8))
 else
 none)
 else
 some (Sum.inr (Sum.inl ())))
noncomputable def ref05_Valid_loop4_step (i9 : Nat) (x10 : Int) (s11 : Unit) : Option ((Unit) ⊕ ((Unit) ⊕ (Bool))) :=
 (if (decide (x10 > 1)) = true then
 some (Sum.inr (Sum.inr false))
 else
 some (Sum.inl (())))
theorem ref05_Valid_loop4_over (b3 : List Int) (hl : b3.length ≤ 9223372036854775807) (s11 : Unit) : loop (ref05_Valid_loop4 b3) (0 : Int) =
    overL (ref05_Valid_loop4_step) (fun (s11 : Unit) => some (Sum.inl ())) 0 b3 s11 := by
  refine loop_over b3 (fun n (s : Unit) => (((n : Nat) : Int) : Int)) _ _ (fun s => ?_) (fun i x s h => ?_) 0 s11 (Nat.zero_le _)
  · unfold ref05_Valid_loop4; simp
  · have hlt := lt_len_of_get h
    have h1 : ((i : Nat) : Int) < ((b3.length : Nat) : Int) := by omega
    have h0 : (0 : Int) ≤ ((i : Nat) : Int) := by omega
    have hw : IntKind.i64.wrap (((i : Nat) : Int) + 1) = (((i + 1 : Nat) : Nat) : Int) := w64 (by omega)
    have hr : rd b3 ((i : Nat) : Int) = x := rd_nat h
    unfold ref05_Valid_loop4 ref05_Valid_loop4_step
    simp only [h1, h0, hw, h, hr, decide_true, if_true, and_self, true_and, Int.toNat_natCast, Option.bind_some, Option.map_bind, Function.comp_def, map_ite, map_elim, Option.map_some, Option.map_none]

theorem ref05_Valid_eq (b1 b2 : Int) (b3 : List Int) : ref05_Valid b1 b2 b3 =
 ((ref05_Sides b1 b2).bind fun q4 =>
 (if (!q4) = true then
 some true
 else
 let t5 := IntKind.i64.wrap (b1 * b2);
 some (!decide (((b3.length : Nat) : Int) = t5))) : Option (Bool)).bind (fun v6 =>
 (if v6 = true then
 some false
 else
 (loop (ref05_Valid_loop4 b3) 0).bind (fun o14 =>
 (Sum.elim (fun (p12 : Unit) =>
 some true)
 (fun (v13 : Bool) =>
 some v13) o14)))) := (call_eq ..).trans (by kernel_rfl)

theorem ref05_Sides_eq (w1 h2 : Int) : ref05_Sides w1 h2 =
 (if (decide (w1 ≥ 0)) = true then
 (if (decide (h2 ≥ 0)) = true then
 (if (decide (w1 ≤ 200)) = true then
 (if (decide (h2 ≤ 200)) = true then
 let t3 := IntKind.i64.wrap (w1 * h2);
 some (decide (t3 ≤ 8192))
 else
 some false)
 else
 some false)
 else
 some false)
 else
 some false) := (call_eq ..).trans (by kernel_rfl)

noncomputable def page_Info_b (bitmap_New : type_of% @bitmap_New) (page_writer_size : type_of% @page_writer_size) (page_writer_byte : type_of% @page_writer_byte) (w1 h2 pixel3 op4 : Int) : Option ((List Int) × Int) :=
 let t5 := imax h2 0;
 (bitmap_New w1 t5 0).bind fun q6 =>
 ((if (!decide (q6.2.2.1 = 0)) = true then
 some true
 else
 (if (decide (h2 < (-1))) = true then
 some true
 else
 (if (decide (pixel3 < 0)) = true then
 some true
 else
 (if (decide (pixel3 > 1)) = true then
 some true
 else
 (if (decide (op4 < 0)) = true then
 some true
 else
 some (decide (op4 > 4))))))) : Option (Bool)).bind (fun v11 =>
 (if v11 = true then
 some ([], 2)
 else
 let t12 := IntKind.i64.wrap (h2 + 1);
 (page_writer_size [w1, t12] []).bind fun q13 =>
 let t14 := IntKind.i64.wrap (2 * op4);
 let t15 := IntKind.i64.wrap (pixel3 + t14);
 (page_writer_byte [t15] q13).bind fun q16 =>
 some (q16, 0)))
theorem page_Info_eq w1 h2 pixel3 op4 : page_Info w1 h2 pixel3 op4 = page_Info_b @bitmap_New @page_writer_size @page_writer_byte w1 h2 pixel3 op4 := (call_eq ..).trans (by kernel_rfl)

theorem page_Runs_eq (g1 g2 g3 g4 g5 : Int) (g6 two7 : Bool) (b8 b9 : Int) (b10 : List Int) : page_Runs g1 g2 g3 g4 g5 g6 two7 b8 b9 b10 =
 ((page_rightBegin g1 g2 g3 g4 g5 g6).bind fun q11 =>
 (if (!q11) = true then
 some true
 else
 (if (!decide (g1 = b8)) = true then
 some true
 else
 some (!decide (g2 = b9)))) : Option (Bool)).bind (fun v12 =>
 (if v12 = true then
 some ([], 2)
 else
 (runs_One b8 b9 b10).bind fun q13 =>
 ((if two7 = true then
 (runs_Two b8 b9 b10).bind fun q16 =>
 some (q16.1, q16.2)
 else
 some (q13.1, q13.2)) : Option ((List Int) × Int)).bind (fun p19 =>
 (page_writer_begin g1 g2 g3 g4 g5 g6 []).bind fun q22 =>
 (page_flag two7 1).bind fun q23 =>
 (page_writer_byte [q23] q22).bind fun q24 =>
 (page_writer_with p19.1 p19.2 q24).bind fun q25 =>
 some (q25.1, q25.2)))) := (call_eq ..).trans (by kernel_rfl)

theorem law13_segment_eq (number1 kind2 of3 : Int) (refs4 data5 : List Int) : law13_segment number1 kind2 of3 refs4 data5 =
 (law13_keep ((refs4.length : Nat) : Int)).bind fun q6 =>
 some (number1, kind2, of3, refs4, q6, data5) := (call_eq ..).trans (by kernel_rfl)

noncomputable def page_Decode_loop10 (l1 : List Segment) (tr9 : Int) (s11 : Int × Int × Int × Int × Int × Int × (List Int) × Bool × Bool × Int × Int × (List Int)) : Option ((Int × Int × Int × Int × Int × Int × (List Int) × Bool × Bool × Int × Int × (List Int)) ⊕ ((Int × Int × Int × Int × Int × (List Int) × Bool × Bool × Int × Int × (List Int)) ⊕ (Int × Int × Int × Int × Int × Int × Int × (List Int) × Bool × Bool × Int × Int × (List Int)))) :=
 let b16 := s11.2.2.2.2.1;
 let b17 := s11.2.2.2.2.2.1;
 let b18 := s11.2.2.2.2.2.2.1;
 let b19 := s11.2.2.2.2.2.2.2.1;
 let b20 := s11.2.2.2.2.2.2.2.2.1;
 let b21 := s11.2.2.2.2.2.2.2.2.2.1;
 let b22 := s11.2.2.2.2.2.2.2.2.2.2.1;
 let b23 := s11.2.2.2.2.2.2.2.2.2.2.2;
 (if (decide (s11.1 < ((l1.length : Nat) : Int))) = true then
 (if 0 ≤ s11.1 then
 (l1[s11.1.toNat]?).bind fun e24 =>
 ((if (!decide (e24.page = tr9)) = true then
 some (!decide (e24.page = 0))
 else
 some false) : Option (Bool)).bind (fun v25 =>
 (if v25 = true then
 let t26 := IntKind.i64.wrap (s11.1 + 1);
 some (Sum.inl (t26, s11.2.1, s11.2.2.1, s11.2.2.2.1, b16, b17, b18, b19, b20, b21, b22, b23))
 else
 (page_builder_add e24.number e24.kind e24.page e24.refs e24.keep e24.data s11.2.2.2.1 b16 b17 b18 b19 b20 b21 b22).bind fun q27 =>
 (if (!decide (q27.1 = 0)) = true then
 some (Sum.inr (Sum.inr (s11.1, q27.1, 0, 0, q27.2.1, q27.2.2.1, q27.2.2.2.1, q27.2.2.2.2.1, q27.2.2.2.2.2.1, q27.2.2.2.2.2.2.1, q27.2.2.2.2.2.2.2.1, q27.2.2.2.2.2.2.2.2, [])))
 else
 let t37 := IntKind.i64.wrap (s11.1 + 1);
 some (Sum.inl (t37, s11.2.1, s11.2.2.1, q27.2.1, q27.2.2.1, q27.2.2.2.1, q27.2.2.2.2.1, q27.2.2.2.2.2.1, q27.2.2.2.2.2.2.1, q27.2.2.2.2.2.2.2.1, q27.2.2.2.2.2.2.2.2, b23)))))
 else
 none)
 else
 some (Sum.inr (Sum.inl (s11.2.1, s11.2.2.1, s11.2.2.2.1, b16, b17, b18, b19, b20, b21, b22, b23))))

theorem page_Decode_eq (l1 : List Segment) (page2 : Int) : page_Decode l1 page2 =
 (segment_InOrder l1).bind fun q3 =>
 (if (!decide (q3.2 = 0)) = true then
 some (0, 0, [], q3.1, q3.2)
 else
 ((if (decide (page2 < 1)) = true then
 some true
 else
 some (decide (page2 > 1000))) : Option (Bool)).bind (fun v6 =>
 (if v6 = true then
 some (0, 0, [], 0, 2)
 else
 (slices_ContainsFunc_api_Segment_api_Segment l1 page2).bind fun q7 =>
 (if (!q7.1) = true then
 some (0, 0, [], 0, 5)
 else
 (page_height l1 q7.2).bind fun q10 =>
 (loop (page_Decode_loop10 l1 q7.2) (0, 0, 0, q7.2, 0, 0, [], false, false, (-1), q10, [])).bind (fun o78 =>
 (Sum.elim (fun (p52 : Int × Int × Int × Int × Int × (List Int) × Bool × Bool × Int × Int × (List Int)) =>
 some (p52.2.2.2.1, p52.2.2.2.2.1, p52.2.2.2.2.2.1, 0, 0))
 (fun (p64 : Int × Int × Int × Int × Int × Int × Int × (List Int) × Bool × Bool × Int × Int × (List Int)) =>
 some (p64.2.2.1, p64.2.2.2.1, p64.2.2.2.2.2.2.2.2.2.2.2.2, p64.1, p64.2.1)) o78)))))) := (call_eq ..).trans (by kernel_rfl)

theorem ref05_Same_eq (a1 a2 : Int) (a3 : List Int) (b4 b5 : Int) (b6 : List Int) : ref05_Same a1 a2 a3 b4 b5 b6 =
 (if (decide (a1 = b4)) = true then
 (if (decide (a2 = b5)) = true then
 some (decide (a3 = b6))
 else
 some false)
 else
 some false) := (call_eq ..).trans (by kernel_rfl)

noncomputable def ref01_SameBytes_b (a1 b2 : List Int) : Option Bool :=
 some (decide (a1 = b2))
theorem ref01_SameBytes_eq a1 b2 : ref01_SameBytes a1 b2 = ref01_SameBytes_b a1 b2 := (call_eq ..).trans (by kernel_rfl)

noncomputable def bitmap_New_loop5 (pixel3 : Int) (tr9 : List Int) (s10 : Int × (List Int)) : Option ((Int × (List Int)) ⊕ ((List Int))) :=
 (if (decide (s10.1 < ((tr9.length : Nat) : Int))) = true then
 let t13 := IntKind.u8.wrap pixel3;
 (if 0 ≤ s10.1 ∧ s10.1 < (s10.2.length : Int) then
 let w14 : List Int := s10.2.set s10.1.toNat t13;
 let t15 := IntKind.i64.wrap (s10.1 + 1);
 some (Sum.inl (t15, w14))
 else
 none)
 else
 some (Sum.inr s10.2))

noncomputable def bitmap_New_b (bitmap_blank : type_of% @bitmap_blank) (loop : type_of% @loop) (bitmap_New_loop5 : type_of% @bitmap_New_loop5) (w1 h2 pixel3 : Int) : Option (Int × Int × Int × (List Int)) :=
 ((if (decide (w1 < 0)) = true then
 some true
 else
 (if (decide (h2 < 0)) = true then
 some true
 else
 (if (!decide (pixel3 = 0)) = true then
 some (!decide (pixel3 = 1))
 else
 some false))) : Option (Bool)).bind (fun v4 =>
 (if v4 = true then
 some (0, 0, 2, [])
 else
 (bitmap_blank w1 h2).bind fun q5 =>
 (loop (bitmap_New_loop5 pixel3 q5.2.2.2) (0, q5.2.2.2)).bind (fun b19 =>
 some (q5.1, q5.2.1, q5.2.2.1, b19))))
theorem bitmap_New_eq w1 h2 pixel3 : bitmap_New w1 h2 pixel3 = bitmap_New_b @bitmap_blank @loop @bitmap_New_loop5 w1 h2 pixel3 := (call_eq ..).trans (by kernel_rfl)

noncomputable def page_writer_size_loop1_b (bits_Size : type_of% @bits_Size) (l1 : List Int) (s3 : Int × (List Int)) : Option ((Int × (List Int)) ⊕ ((List Int))) :=
 (if (decide (s3.1 < ((l1.length : Nat) : Int))) = true then
 (if 0 ≤ s3.1 ∧ s3.1 < (l1.length : Int) then
 (bits_Size (rd l1 s3.1)).bind fun q6 =>
 (if (s3.2.length + q6.1.length) * 1 ≤ 140737488355328 then
 let t9 : List Int := s3.2 ++ q6.1;
 let t10 := IntKind.i64.wrap (s3.1 + 1);
 some (Sum.inl (t10, t9))
 else
 none)
 else
 none)
 else
 some (Sum.inr s3.2))
noncomputable def page_writer_size_loop1 := page_writer_size_loop1_b @bits_Size

noncomputable def page_writer_size_b (loop : type_of% @loop) (page_writer_size_loop1 : type_of% @page_writer_size_loop1) (l1 b2 : List Int) : Option (List Int) :=
 (loop (page_writer_size_loop1 l1) (0, b2)).bind (fun b14 =>
 some b14)
theorem page_writer_size_eq l1 b2 : page_writer_size l1 b2 = page_writer_size_b @loop @page_writer_size_loop1 l1 b2 := (call_eq ..).trans (by kernel_rfl)

noncomputable def page_writer_byte_loop1 (l1 : List Int) (s3 : Int × (List Int)) : Option ((Int × (List Int)) ⊕ ((List Int))) :=
 (if (decide (s3.1 < ((l1.length : Nat) : Int))) = true then
 (if 0 ≤ s3.1 ∧ s3.1 < (l1.length : Int) then
 let t6 := IntKind.u8.wrap (rd l1 s3.1);
 (if (s3.2.length + ([t6] : List Int).length) * 1 ≤ 140737488355328 then
 let t7 : List Int := s3.2 ++ [t6];
 let t8 := IntKind.i64.wrap (s3.1 + 1);
 some (Sum.inl (t8, t7))
 else
 none)
 else
 none)
 else
 some (Sum.inr s3.2))

noncomputable def page_writer_byte_b (loop : type_of% @loop) (page_writer_byte_loop1 : type_of% @page_writer_byte_loop1) (l1 b2 : List Int) : Option (List Int) :=
 (loop (page_writer_byte_loop1 l1) (0, b2)).bind (fun b12 =>
 some b12)
theorem page_writer_byte_eq l1 b2 : page_writer_byte l1 b2 = page_writer_byte_b @loop @page_writer_byte_loop1 l1 b2 := (call_eq ..).trans (by kernel_rfl)

theorem page_rightBegin_eq (g1 g2 g3 g4 g5 : Int) (g6 : Bool) : page_rightBegin g1 g2 g3 g4 g5 g6 =
 (bitmap_New g1 g2 0).bind fun q7 =>
 (if (decide (q7.2.2.1 = 0)) = true then
 (page_near g3).bind fun q12 =>
 (if q12 = true then
 (page_near g4).bind fun q13 =>
 (if q13 = true then
 (if (decide (g5 ≥ 0)) = true then
 some (decide (g5 ≤ 4))
 else
 some false)
 else
 some false)
 else
 some false)
 else
 some false) := (call_eq ..).trans (by kernel_rfl)

noncomputable def runs_One_loop8 (q10 : (List Int)) (s11 : Int × (List Int)) : Option ((Int × (List Int)) ⊕ ((List Int))) :=
 (if (decide (s11.1 < ((q10.length : Nat) : Int))) = true then
 (if 0 ≤ s11.1 ∧ s11.1 < (q10.length : Int) then
 let t14 : Int := s11.1.tmod 2;
 (runs_runBits (rd q10 s11.1) t14).bind fun q15 =>
 (if (s11.2.length + q15.length) * 1 ≤ 140737488355328 then
 let t16 : List Int := s11.2 ++ q15;
 let t17 := IntKind.i64.wrap (s11.1 + 1);
 some (Sum.inl (t17, t16))
 else
 none)
 else
 none)
 else
 some (Sum.inr s11.2))
noncomputable def runs_One_loop5 (q5 : (List (List Int))) (s6 : Int × (List Int)) : Option ((Int × (List Int)) ⊕ ((List Int))) :=
 (if (decide (s6.1 < ((q5.length : Nat) : Int))) = true then
 (if 0 ≤ s6.1 then
 (q5[s6.1.toNat]?).bind fun e9 =>
 (runs_row e9).bind fun q10 =>
 (loop (runs_One_loop8 q10) (0, s6.2)).bind (fun out18 =>
 let t19 := IntKind.i64.wrap (s6.1 + 1);
 some (Sum.inl (t19, out18)))
 else
 none)
 else
 some (Sum.inr s6.2))
theorem runs_One_eq (b1 b2 : Int) (b3 : List Int) : runs_One b1 b2 b3 =
 (bitmap_Valid b1 b2 b3).bind fun q4 =>
 (if (!q4) = true then
 some ([], 30)
 else
 (runs_lines b1 b2 b3).bind fun q5 =>
 (loop (runs_One_loop5 q5) (0, [])).bind (fun out20 =>
 (bits_Pack out20).bind fun q21 =>
 some (q21.1, q21.2))) := (call_eq ..).trans (by kernel_rfl)

noncomputable def runs_Two_loop9 (q12 : (List Mode)) (s13 : Int × (List Int)) : Option ((Int × (List Int)) ⊕ ((List Int))) :=
 (if (decide (s13.1 < ((q12.length : Nat) : Int))) = true then
 (if 0 ≤ s13.1 then
 (q12[s13.1.toNat]?).bind fun e16 =>
 (runs_mode_bits e16.kind e16.d e16.runs_0 e16.runs_1 e16.colour).bind fun q17 =>
 (if (s13.2.length + q17.length) * 1 ≤ 140737488355328 then
 let t18 : List Int := s13.2 ++ q17;
 let t19 := IntKind.i64.wrap (s13.1 + 1);
 some (Sum.inl (t19, t18))
 else
 none)
 else
 none)
 else
 some (Sum.inr s13.2))
noncomputable def runs_Two_loop6 (q6 : (List (List Int))) (s7 : (List Int) × Int × (List Int)) : Option (((List Int) × Int × (List Int)) ⊕ ((List Int))) :=
 (if (decide (s7.2.1 < ((q6.length : Nat) : Int))) = true then
 (if 0 ≤ s7.2.1 then
 (q6[s7.2.1.toNat]?).bind fun e11 =>
 (runs_modes s7.1 e11).bind fun q12 =>
 (loop (runs_Two_loop9 q12) (0, s7.2.2)).bind (fun out20 =>
 let t21 := IntKind.i64.wrap (s7.2.1 + 1);
 some (Sum.inl (e11, t21, out20)))
 else
 none)
 else
 some (Sum.inr s7.2.2))
theorem runs_Two_eq (b1 b2 : Int) (b3 : List Int) : runs_Two b1 b2 b3 =
 (bitmap_Valid b1 b2 b3).bind fun q4 =>
 (if (!q4) = true then
 some ([], 30)
 else
 (if 0 ≤ b1 ∧ b1 ≤ b1 ∧ ((1 : Nat) : Int) * b1 ≤ 281474976710656 then
 let t5 : List Int := List.replicate b1.toNat 0;
 (runs_lines b1 b2 b3).bind fun q6 =>
 (loop (runs_Two_loop6 q6) (t5, 0, [])).bind (fun out22 =>
 (bits_Pack out22).bind fun q23 =>
 some (q23.1, q23.2))
 else
 none)) := (call_eq ..).trans (by kernel_rfl)

theorem page_writer_begin_eq (g1 g2 g3 g4 g5 : Int) (g6 : Bool) (b7 : List Int) : page_writer_begin g1 g2 g3 g4 g5 g6 b7 =
 (page_writer_size [g1, g2] b7).bind fun q8 =>
 (page_writer_signed [g3, g4] q8).bind fun q9 =>
 (page_flag g6 8).bind fun q10 =>
 let t11 := IntKind.i64.wrap (g5 + q10);
 (page_writer_byte [t11] q9).bind fun q12 =>
 some q12 := (call_eq ..).trans (by kernel_rfl)

theorem page_flag_eq (is1 : Bool) (n2 : Int) : page_flag is1 n2 =
 (if is1 = true then
 some n2
 else
 some 0) := (call_eq ..).trans (by kernel_rfl)

theorem page_writer_with_eq (code1 : List Int) (err2 : Int) (b3 : List Int) : page_writer_with code1 err2 b3 =
 (if (!decide (err2 = 0)) = true then
 some ([], err2)
 else
 (if (b3.length + code1.length) * 1 ≤ 140737488355328 then
 let t4 : List Int := b3 ++ code1;
 some (t4, 0)
 else
 none)) := (call_eq ..).trans (by kernel_rfl)

noncomputable def law13_keep_loop3 (n1 : Int) (s2 : Int × (List Bool)) : Option ((Int × (List Bool)) ⊕ ((List Bool))) :=
 (if (decide (s2.1 < n1)) = true then
 (if (s2.2.length + ([true] : List Bool).length) * 1 ≤ 140737488355328 then
 let t5 : List Bool := s2.2 ++ [true];
 let t6 := IntKind.i64.wrap (s2.1 + 1);
 some (Sum.inl (t6, t5))
 else
 none)
 else
 some (Sum.inr s2.2))

theorem law13_keep_eq (n1 : Int) : law13_keep n1 =
 (loop (law13_keep_loop3 n1) (0, [true])).bind (fun out10 =>
 some out10) := (call_eq ..).trans (by kernel_rfl)

theorem segment_InOrder_eq (l1 : List Segment) : segment_InOrder l1 =
 (segment_order l1).bind fun q2 =>
 (if (decide (q2 ≥ 0)) = true then
 some (q2, 40)
 else
 some ((-1), 0)) := (call_eq ..).trans (by kernel_rfl)

theorem slices_ContainsFunc_api_Segment_api_Segment_eq (s1 : List Segment) (b2 : Int) : slices_ContainsFunc_api_Segment_api_Segment s1 b2 =
 (slices_IndexFunc_api_Segment_api_Segment s1 b2).bind fun q3 =>
 some (decide (q3.1 ≥ 0), q3.2) := (call_eq ..).trans (by kernel_rfl)

noncomputable def page_height_loop3 (l1 : List Segment) (page2 : Int) (s3 : Int × Int) : Option ((Int × Int) ⊕ (Int)) :=
 (if (decide (s3.2 < ((l1.length : Nat) : Int))) = true then
 (if 0 ≤ s3.2 then
 (l1[s3.2.toNat]?).bind fun e6 =>
 ((if (decide (e6.page = page2)) = true then
 some (decide (e6.kind = 7))
 else
 some false) : Option (Bool)).bind (fun v7 =>
 (if v7 = true then
 (bits_GetSize e6.data 0).bind fun q8 =>
 (if (decide (q8.2.2 = 0)) = true then
 let t12 := IntKind.i64.wrap (q8.1 + 1);
 let t13 := imax s3.1 t12;
 let t14 := IntKind.i64.wrap (s3.2 + 1);
 some (Sum.inl (t13, t14))
 else
 let t15 := IntKind.i64.wrap (s3.2 + 1);
 some (Sum.inl (s3.1, t15)))
 else
 let t16 := IntKind.i64.wrap (s3.2 + 1);
 some (Sum.inl (s3.1, t16))))
 else
 none)
 else
 some (Sum.inr s3.1))

theorem page_height_eq (l1 : List Segment) (page2 : Int) : page_height l1 page2 =
 (loop (page_height_loop3 l1 page2) (0, 0)).bind (fun h20 =>
 some h20) := (call_eq ..).trans (by kernel_rfl)

theorem page_builder_add_eq (s1 s2 s3 : Int) (s4 : List Int) (s5 : List Bool) (s6 : List Int) (b7 b8 b9 : Int) (b10 : List Int) (b11 b12 : Bool) (b13 b14 : Int) : page_builder_add s1 s2 s3 s4 s5 s6 b7 b8 b9 b10 b11 b12 b13 b14 =
 (page_builder_order s1 s2 s3 s4 s5 s6 b7 b8 b9 b10 b11 b12 b13 b14).bind fun q15 =>
 let tr18 := q15.2.2.1;
 let tr19 := q15.2.2.2.1;
 let tr20 := q15.2.2.2.2.1;
 let tr21 := q15.2.2.2.2.2.1;
 let tr22 := q15.2.2.2.2.2.2.1;
 let tr23 := q15.2.2.2.2.2.2.2.1;
 let tr24 := q15.2.2.2.2.2.2.2.2;
 (if (!decide (q15.1 = 0)) = true then
 some (q15.1, q15.2.1, tr18, tr19, tr20, tr21, tr22, tr23, tr24)
 else
 (if (decide (s2 = 0)) = true then
 none
 else
 (if (decide (s2 = 1)) = true then
 none
 else
 (if (decide (s2 = 2)) = true then
 none
 else
 (if (decide (s2 = 3)) = true then
 none
 else
 (if (decide (s2 = 4)) = true then
 none
 else
 (if (decide (s2 = 5)) = true then
 none
 else
 (if (decide (s2 = 10)) = true then
 (page_builder_runs s1 s2 s3 s4 s5 s6 q15.2.1 tr18 tr19 tr20 tr21 tr22 tr23 tr24 s6 0 0).bind fun q25 =>
 some (q25.2.2.2.2.2.2.2.2.2.2, q25.1, q25.2.1, q25.2.2.1, q25.2.2.2.1, q25.2.2.2.2.1, q25.2.2.2.2.2.1, q25.2.2.2.2.2.2.1, q25.2.2.2.2.2.2.2.1)
 else
 (if (decide (s2 = 6)) = true then
 (page_builder_info q15.2.1 tr18 tr19 tr20 tr21 tr22 tr23 tr24 s6 0 0).bind fun q37 =>
 (page_cursor_check (decide (((s4.length : Nat) : Int) = 0)) 50 q37.2.2.2.2.2.2.2.2.1 q37.2.2.2.2.2.2.2.2.2.1 q37.2.2.2.2.2.2.2.2.2.2).bind fun q49 =>
 some (q49.2.2.2, q37.1, q37.2.1, q37.2.2.1, q37.2.2.2.1, q37.2.2.2.2.1, q37.2.2.2.2.2.1, q37.2.2.2.2.2.2.1, q37.2.2.2.2.2.2.2.1)
 else
 (if (decide (s2 = 7)) = true then
 (page_builder_stripes q15.2.1 tr18 tr19 tr20 tr21 tr22 tr23 tr24 s6 0 0).bind fun q54 =>
 (page_cursor_check (decide (((s4.length : Nat) : Int) = 0)) 50 q54.2.2.2.2.2.2.2.2.1 q54.2.2.2.2.2.2.2.2.2.1 q54.2.2.2.2.2.2.2.2.2.2).bind fun q66 =>
 some (q66.2.2.2, q54.1, q54.2.1, q54.2.2.1, q54.2.2.2.1, q54.2.2.2.2.1, q54.2.2.2.2.2.1, q54.2.2.2.2.2.2.1, q54.2.2.2.2.2.2.2.1)
 else
 (if (decide (s2 = 8)) = true then
 (page_builder_none s1 s2 s3 s4 s5 s6 q15.2.1 tr18 tr19 tr20 tr21 tr22 tr23 tr24 s6 0 0).bind fun q71 =>
 some (q71.2.2.2.2.2.2.2.2.2.2, q71.1, q71.2.1, q71.2.2.1, q71.2.2.2.1, q71.2.2.2.2.1, true, q71.2.2.2.2.2.2.1, q71.2.2.2.2.2.2.2.1)
 else
 (if (decide (s2 = 9)) = true then
 (page_builder_none s1 s2 s3 s4 s5 s6 q15.2.1 tr18 tr19 tr20 tr21 tr22 tr23 tr24 s6 0 0).bind fun q83 =>
 some (q83.2.2.2.2.2.2.2.2.2.2, q83.1, q83.2.1, q83.2.2.1, q83.2.2.2.1, q83.2.2.2.2.1, q83.2.2.2.2.2.1, q83.2.2.2.2.2.2.1, q83.2.2.2.2.2.2.2.1)
 else
 (page_cursor_check (decide (((s4.length : Nat) : Int) = 0)) 50 s6 0 0).bind fun q95 =>
 some (q95.2.2.2, q15.2.1, tr18, tr19, tr20, tr21, tr22, tr23, tr24))))))))))))) := (call_eq ..).trans (by kernel_rfl)

noncomputable def bitmap_blank_b (bitmap_fits : type_of% @bitmap_fits) (w1 h2 : Int) : Option (Int × Int × Int × (List Int)) :=
 (bitmap_fits w1 h2).bind fun q3 =>
 (if (!q3) = true then
 some (0, 0, 4, [])
 else
 let t4 := IntKind.i64.wrap (w1 * h2);
 (if 0 ≤ t4 ∧ t4 ≤ t4 ∧ ((1 : Nat) : Int) * t4 ≤ 281474976710656 then
 let t5 : List Int := List.replicate t4.toNat 0;
 some (w1, h2, 0, t5)
 else
 none))
theorem bitmap_blank_eq w1 h2 : bitmap_blank w1 h2 = bitmap_blank_b @bitmap_fits w1 h2 := (call_eq ..).trans (by kernel_rfl)

noncomputable def bits_Size_loop5 (s6 : Int × (List Int)) : Option ((Int × (List Int)) ⊕ ((List Int))) :=
 (if (decide (s6.1 > 0)) = true then
 let t9 : Int := s6.1.tmod 128;
 let t10 := IntKind.u8.wrap t9;
 let t11 := IntKind.u8.wrap (t10 + 128);
 (if (([t11] : List Int).length + s6.2.length) * 1 ≤ 140737488355328 then
 let t12 : List Int := ([t11] : List Int) ++ s6.2;
 let t13 := IntKind.i64.wrap (s6.1.tdiv 128);
 some (Sum.inl (t13, t12))
 else
 none)
 else
 some (Sum.inr s6.2))
noncomputable def bits_Size_b (loop : type_of% @loop) (bits_Size_loop5 : type_of% @bits_Size_loop5) (n1 : Int) : Option ((List Int) × Int) :=
 ((if (decide (n1 < 0)) = true then
 some true
 else
 some (decide (n1 > 2147483647))) : Option (Bool)).bind (fun v2 =>
 (if v2 = true then
 some ([], 2)
 else
 let t3 : Int := n1.tmod 128;
 let t4 := IntKind.u8.wrap t3;
 let t5 := IntKind.i64.wrap (n1.tdiv 128);
 (loop (bits_Size_loop5) (t5, [t4])).bind (fun out14 =>
 some (out14, 0))))
theorem bits_Size_eq n1 : bits_Size n1 = bits_Size_b @loop @bits_Size_loop5 n1 := (call_eq ..).trans (by kernel_rfl)

theorem page_near_eq (n1 : Int) : page_near n1 =
 (if (decide (n1 ≥ (-100000))) = true then
 some (decide (n1 ≤ 100000))
 else
 some false) := (call_eq ..).trans (by kernel_rfl)

noncomputable def bitmap_Valid_loop4 (b3 : List Int) (v7 : Int) : Option ((Int) ⊕ ((Unit) ⊕ (Bool))) :=
 (if (decide (v7 < ((b3.length : Nat) : Int))) = true then
 (if 0 ≤ v7 ∧ v7 < (b3.length : Int) then
 (if (decide (rd b3 v7 > 1)) = true then
 some (Sum.inr (Sum.inr false))
 else
 let t8 := IntKind.i64.wrap (v7 + 1);
 some (Sum.inl t8))
 else
 none)
 else
 some (Sum.inr (Sum.inl ())))

theorem bitmap_Valid_eq (b1 b2 : Int) (b3 : List Int) : bitmap_Valid b1 b2 b3 =
 ((bitmap_fits b1 b2).bind fun q4 =>
 (if (!q4) = true then
 some true
 else
 let t5 := IntKind.i64.wrap (b1 * b2);
 some (!decide (((b3.length : Nat) : Int) = t5))) : Option (Bool)).bind (fun v6 =>
 (if v6 = true then
 some false
 else
 (loop (bitmap_Valid_loop4 b3) 0).bind (fun o14 =>
 (Sum.elim (fun (p12 : Unit) =>
 some true)
 (fun (v13 : Bool) =>
 some v13) o14)))) := (call_eq ..).trans (by kernel_rfl)

noncomputable def runs_lines_loop3 (b1 b2 : Int) (b3 : List Int) (s4 : Int × (List (List Int))) : Option ((Int × (List (List Int))) ⊕ ((List (List Int)))) :=
 (if (decide (s4.1 < b2)) = true then
 let t7 := IntKind.i64.wrap (s4.1 * b1);
 let t8 := IntKind.i64.wrap (s4.1 + 1);
 let t9 := IntKind.i64.wrap (t8 * b1);
 (if 0 ≤ t9 ∧ t9 ≤ ((b3.length : Nat) : Int) then
 (if 0 ≤ t7 ∧ t7 ≤ t9 then
 let t10 : List Int := cutL b3 t7.toNat t9.toNat;
 (if (s4.2.length + ([t10] : List (List Int)).length) * 24 ≤ 140737488355328 then
 let t11 : List (List Int) := s4.2 ++ [t10];
 let t12 := IntKind.i64.wrap (s4.1 + 1);
 some (Sum.inl (t12, t11))
 else
 none)
 else
 none)
 else
 none)
 else
 some (Sum.inr s4.2))
noncomputable def runs_lines_loop3_step (b1 : Int) (b3 : List Int) (i13 x14 : Nat) (s15 : (List (List Int))) : Option (((List (List Int))) ⊕ ((List (List Int)))) :=
 let t7 := IntKind.i64.wrap (((i13 : Nat) : Int) * b1);
 let t8 := IntKind.i64.wrap (((i13 : Nat) : Int) + 1);
 let t9 := IntKind.i64.wrap (t8 * b1);
 (if 0 ≤ t9 ∧ t9 ≤ ((b3.length : Nat) : Int) then
 (if 0 ≤ t7 ∧ t7 ≤ t9 then
 let t10 : List Int := cutL b3 t7.toNat t9.toNat;
 (if (s15.length + ([t10] : List (List Int)).length) * 24 ≤ 140737488355328 then
 let t11 : List (List Int) := s15 ++ [t10];
 some (Sum.inl (t11))
 else
 none)
 else
 none)
 else
 none)
theorem runs_lines_loop3_over (b1 b2 : Int) (b3 : List Int) (hl : (List.range (b2).toNat).length ≤ 9223372036854775807) (s15 : (List (List Int))) : loop (runs_lines_loop3 b1 b2 b3) ((0, s15) : Int × (List (List Int))) =
    overL (runs_lines_loop3_step b1 b3) (fun (s15 : (List (List Int))) => some s15) 0 (List.range (b2).toNat) s15 := by
  refine loop_over (List.range (b2).toNat) (fun n (s : (List (List Int))) => ((((n : Nat) : Int), s) : Int × (List (List Int)))) _ _ (fun s => ?_) (fun i x s h => ?_) 0 s15 (Nat.zero_le _)
  · have h1 : ¬ (((List.range (b2).toNat).length : Nat) : Int) < b2 := by simp only [List.length_range]; omega
    unfold runs_lines_loop3; simp only [h1, decide_false, Bool.false_eq_true, if_false, Option.map_some]
  · have hlt := lt_len_of_get h
    rw [List.length_range] at hlt hl
    rw [List.getElem?_range hlt] at h
    cases h
    have h1 : ((i : Nat) : Int) < b2 := by omega
    have h0 : (0 : Int) ≤ ((i : Nat) : Int) := by omega
    have hw : IntKind.i64.wrap (((i : Nat) : Int) + 1) = (((i + 1 : Nat) : Nat) : Int) := w64 (by omega)
    unfold runs_lines_loop3 runs_lines_loop3_step
    simp only [h1, h0, hw, decide_true, if_true, and_self, true_and, Int.toNat_natCast, Option.bind_some, Option.map_bind, Function.comp_def, map_ite, map_elim, Option.map_some, Option.map_none]

theorem runs_lines_eq (b1 b2 : Int) (b3 : List Int) : runs_lines b1 b2 b3 =
 (loop (runs_lines_loop3 b1 b2 b3) (0, [])).bind (fun out16 =>
 some out16) := (call_eq ..).trans (by kernel_rfl)

noncomputable def runs_row_loop6 (pixels1 : List Int) (colour3 at6 : Int) : Option ((Int) ⊕ (Int)) :=
 (if (decide (at6 < ((pixels1.length : Nat) : Int))) = true then
 (if 0 ≤ at6 ∧ at6 < (pixels1.length : Int) then
 (if (decide (rd pixels1 at6 = colour3)) = true then
 let t7 := IntKind.i64.wrap (at6 + 1);
 some (Sum.inl t7)
 else
 some (Sum.inr at6))
 else
 none)
 else
 some (Sum.inr at6))
noncomputable def runs_row_loop4 (pixels1 : List Int) (s2 : Int × Int × (List Int)) : Option ((Int × Int × (List Int)) ⊕ ((List Int))) :=
 (if (decide (s2.2.1 < ((pixels1.length : Nat) : Int))) = true then
 (loop (runs_row_loop6 pixels1 s2.1) s2.2.1).bind (fun at8 =>
 let t9 := IntKind.i64.wrap (at8 - s2.2.1);
 (if (s2.2.2.length + ([t9] : List Int).length) * 8 ≤ 140737488355328 then
 let t10 : List Int := s2.2.2 ++ [t9];
 let t11 := IntKind.u8.wrap (1 - s2.1);
 some (Sum.inl (t11, at8, t10))
 else
 none))
 else
 some (Sum.inr s2.2.2))
theorem runs_row_eq (pixels1 : List Int) : runs_row pixels1 =
 (loop (runs_row_loop4 pixels1) (0, 0, [])).bind (fun out12 =>
 some out12) := (call_eq ..).trans (by kernel_rfl)

theorem runs_runBits_eq (n1 colour2 : Int) : runs_runBits n1 colour2 =
 (prefix_Standard 0).bind fun q3 =>
 let t6 := IntKind.i64.wrap (n1.tdiv 64);
 (prefix_Bits q3.1 false t6).bind fun q7 =>
 (runs_remains colour2).bind fun q10 =>
 let t11 : Int := n1.tmod 64;
 (prefix_Bits q10 false t11).bind fun q12 =>
 (if (q7.2.length + q12.2.length) * 1 ≤ 140737488355328 then
 let t15 : List Int := q7.2 ++ q12.2;
 some t15
 else
 none) := (call_eq ..).trans (by kernel_rfl)

noncomputable def bits_Pack_loop3 (bits1 : List Int) (s5 : Int × (List Int)) : Option ((Int × (List Int)) ⊕ (((List Int)) ⊕ ((List Int) × Int × (List Int)))) :=
 (if (decide (s5.1 < ((bits1.length : Nat) : Int))) = true then
 (if 0 ≤ s5.1 ∧ s5.1 < (bits1.length : Int) then
 (if (decide (rd bits1 s5.1 > 1)) = true then
 some (Sum.inr (Sum.inr ([], 2, s5.2)))
 else
 let t8 := IntKind.i64.wrap (s5.1.tdiv 8);
 (if 0 ≤ t8 ∧ t8 < (s5.2.length : Int) then
 let t9 : Int := rd s5.2 t8;
 let t10 : Int := s5.1.tmod 8;
 let t11 := IntKind.i64.wrap (7 - t10);
 (if t11 < 0 then
 none
 else
 let t12 := ishl .u8 (rd bits1 s5.1) t11;
 let t13 := ior .u8 t9 t12;
 (if 0 ≤ t8 ∧ t8 < (s5.2.length : Int) then
 let w14 : List Int := s5.2.set t8.toNat t13;
 let t15 := IntKind.i64.wrap (s5.1 + 1);
 some (Sum.inl (t15, w14))
 else
 none))
 else
 none))
 else
 none)
 else
 some (Sum.inr (Sum.inl s5.2)))

theorem bits_Pack_eq (bits1 : List Int) : bits_Pack bits1 =
 let t2 := IntKind.i64.wrap (((bits1.length : Nat) : Int) + 7);
 let t3 := IntKind.i64.wrap (t2.tdiv 8);
 (if 0 ≤ t3 ∧ t3 ≤ t3 ∧ ((1 : Nat) : Int) * t3 ≤ 281474976710656 then
 let t4 : List Int := List.replicate t3.toNat 0;
 (loop (bits_Pack_loop3 bits1) (0, t4)).bind (fun o24 =>
 (Sum.elim (fun (b19 : (List Int)) =>
 some (b19, 0))
 (fun (p20 : (List Int) × Int × (List Int)) =>
 some (p20.1, p20.2.1)) o24))
 else
 none) := (call_eq ..).trans (by kernel_rfl)

noncomputable def runs_modes_loop4 (above1 pixels2 : List Int) (s3 : Int × Int × (List Mode)) : Option ((Int × Int × (List Mode)) ⊕ ((List Mode))) :=
 ((if (decide (s3.1 < ((pixels2.length : Nat) : Int))) = true then
 some (decide (((pixels2.length : Nat) : Int) > 0))
 else
 some false) : Option (Bool)).bind (fun v7 =>
 (if v7 = true then
 (runs_marks above1 s3.1 s3.2.1).bind fun q8 =>
 let t11 := IntKind.u8.wrap (1 - s3.2.1);
 (runs_change pixels2 s3.1 t11).bind fun q12 =>
 (if (decide (q8.2 < q12)) = true then
 (if (s3.2.2.length + ([(Mode.mk [112, 97, 115, 115] 0 0 0 0)] : List Mode).length) * 48 ≤ 140737488355328 then
 let t13 : List Mode := s3.2.2 ++ [(Mode.mk [112, 97, 115, 115] 0 0 0 0)];
 some (Sum.inl (q8.2, s3.2.1, t13))
 else
 none)
 else
 (let t14 := IntKind.i64.wrap (q12 - q8.1);
 (if (decide (t14 ≥ (-3))) = true then
 let t15 := IntKind.i64.wrap (q12 - q8.1);
 some (decide (t15 ≤ 3))
 else
 some false) : Option (Bool)).bind (fun v16 =>
 (if v16 = true then
 let t17 := IntKind.i64.wrap (q12 - q8.1);
 (if (s3.2.2.length + ([(Mode.mk [117, 112] t17 0 0 0)] : List Mode).length) * 48 ≤ 140737488355328 then
 let t18 : List Mode := s3.2.2 ++ [(Mode.mk [117, 112] t17 0 0 0)];
 let t19 := IntKind.u8.wrap (1 - s3.2.1);
 some (Sum.inl (q12, t19, t18))
 else
 none)
 else
 (runs_change pixels2 q12 s3.2.1).bind fun q20 =>
 let t21 := imax s3.1 0;
 let t22 := IntKind.i64.wrap (q12 - t21);
 let t23 := IntKind.i64.wrap (q20 - q12);
 let t24 := IntKind.i64.wrap s3.2.1;
 (if (s3.2.2.length + ([(Mode.mk [102, 108, 97, 116] 0 t22 t23 t24)] : List Mode).length) * 48 ≤ 140737488355328 then
 let t25 : List Mode := s3.2.2 ++ [(Mode.mk [102, 108, 97, 116] 0 t22 t23 t24)];
 some (Sum.inl (q20, s3.2.1, t25))
 else
 none))))
 else
 some (Sum.inr s3.2.2)))
theorem runs_modes_eq (above1 pixels2 : List Int) : runs_modes above1 pixels2 =
 (loop (runs_modes_loop4 above1 pixels2) ((-1), 0, [])).bind (fun out26 =>
 some out26) := (call_eq ..).trans (by kernel_rfl)

theorem runs_mode_bits_eq (m1 : List Int) (m2 m3 m4 m5 : Int) : runs_mode_bits m1 m2 m3 m4 m5 =
 (if (decide (m1 = [112, 97, 115, 115])) = true then
 (runs_list [48, 48, 48, 49]).bind fun q6 =>
 some q6
 else
 (if (decide (m1 = [117, 112])) = true then
 (runs_uprights).bind fun q7 =>
 let t8 := IntKind.i64.wrap (m2 + 3);
 (if 0 ≤ t8 then
 (q7[t8.toNat]?).bind fun e9 =>
 (runs_list e9).bind fun q10 =>
 some q10
 else
 none)
 else
 (runs_list [48, 48, 49]).bind fun q11 =>
 (if 0 ≤ (0 : Int) ∧ (0 : Int) < ((2 : Nat) : Int) then
 (runs_runBits m3 m5).bind fun q12 =>
 (if (q11.length + q12.length) * 1 ≤ 140737488355328 then
 let t13 : List Int := q11 ++ q12;
 (if 0 ≤ (1 : Int) ∧ (1 : Int) < ((2 : Nat) : Int) then
 let t14 := IntKind.i64.wrap (1 - m5);
 (runs_runBits m4 t14).bind fun q15 =>
 (if (t13.length + q15.length) * 1 ≤ 140737488355328 then
 let t16 : List Int := t13 ++ q15;
 some t16
 else
 none)
 else
 none)
 else
 none)
 else
 none))) := (call_eq ..).trans (by kernel_rfl)

noncomputable def page_writer_signed_loop1 (l1 : List Int) (s3 : Int × (List Int)) : Option ((Int × (List Int)) ⊕ ((List Int))) :=
 (if (decide (s3.1 < ((l1.length : Nat) : Int))) = true then
 (if 0 ≤ s3.1 ∧ s3.1 < (l1.length : Int) then
 (bits_Signed (rd l1 s3.1)).bind fun q6 =>
 (if (s3.2.length + q6.1.length) * 1 ≤ 140737488355328 then
 let t9 : List Int := s3.2 ++ q6.1;
 let t10 := IntKind.i64.wrap (s3.1 + 1);
 some (Sum.inl (t10, t9))
 else
 none)
 else
 none)
 else
 some (Sum.inr s3.2))

theorem page_writer_signed_eq (l1 b2 : List Int) : page_writer_signed l1 b2 =
 (loop (page_writer_signed_loop1 l1) (0, b2)).bind (fun b14 =>
 some b14) := (call_eq ..).trans (by kernel_rfl)

noncomputable def segment_order_loop4 (l1 : List Segment) (s2 : Int × Int) : Option ((Int × Int) ⊕ ((Unit) ⊕ (Int))) :=
 (if (decide (s2.2 < ((l1.length : Nat) : Int))) = true then
 (if 0 ≤ s2.2 then
 (l1[s2.2.toNat]?).bind fun e5 =>
 (segment_store_takes e5.number e5.kind e5.page e5.refs e5.keep e5.data s2.1).bind fun q6 =>
 (if (!q6) = true then
 some (Sum.inr (Sum.inr s2.2))
 else
 let t7 := IntKind.i64.wrap (s2.2 + 1);
 some (Sum.inl (e5.number, t7)))
 else
 none)
 else
 some (Sum.inr (Sum.inl ())))

theorem segment_order_eq (l1 : List Segment) : segment_order l1 =
 (loop (segment_order_loop4 l1) ((-1), 0)).bind (fun o13 =>
 (Sum.elim (fun (p11 : Unit) =>
 some (-1))
 (fun (v12 : Int) =>
 some v12) o13)) := (call_eq ..).trans (by kernel_rfl)

noncomputable def slices_IndexFunc_api_Segment_api_Segment_loop2 (s1 : List Segment) (s3 : Int × Int) : Option ((Int × Int) ⊕ ((Int) ⊕ (Int × Int))) :=
 (if (decide (s3.1 < ((s1.length : Nat) : Int))) = true then
 (if 0 ≤ s3.1 then
 (s1[s3.1.toNat]?).bind fun e6 =>
 (page_Decode_1 e6.number e6.kind e6.page e6.refs e6.keep e6.data s3.2).bind fun q7 =>
 (if q7.1 = true then
 some (Sum.inr (Sum.inr (s3.1, q7.2)))
 else
 let t10 := IntKind.i64.wrap (s3.1 + 1);
 some (Sum.inl (t10, q7.2)))
 else
 none)
 else
 some (Sum.inr (Sum.inl s3.2)))

theorem slices_IndexFunc_api_Segment_api_Segment_eq (s1 : List Segment) (b2 : Int) : slices_IndexFunc_api_Segment_api_Segment s1 b2 =
 (loop (slices_IndexFunc_api_Segment_api_Segment_loop2 s1) (0, b2)).bind (fun o18 =>
 (Sum.elim (fun (b14 : Int) =>
 some ((-1), b14))
 (fun (p15 : Int × Int) =>
 some (p15.1, p15.2)) o18)) := (call_eq ..).trans (by kernel_rfl)

noncomputable def bits_GetSize_loop4 (b1 : List Int) (at2 : Int) (s4 : Int × Int) : Option ((Int × Int) ⊕ ((Unit) ⊕ (Int × Int × Int))) :=
 (if (decide (s4.2 < 5)) = true then
 let t7 := IntKind.i64.wrap (at2 + s4.2);
 (if (decide (t7 ≥ ((b1.length : Nat) : Int))) = true then
 some (Sum.inr (Sum.inr (0, 0, 6)))
 else
 let t8 := IntKind.i64.wrap (at2 + s4.2);
 (if 0 ≤ t8 ∧ t8 < (b1.length : Int) then
 let t9 := IntKind.i64.wrap (rd b1 t8);
 let t10 := IntKind.i64.wrap (s4.1 * 128);
 let t11 : Int := t9.tmod 128;
 let t12 := IntKind.i64.wrap (t10 + t11);
 (if (decide (t9 < 128)) = true then
 ((if (decide (t12 > 2147483647)) = true then
 some true
 else
 (if (decide (s4.2 > 0)) = true then
 (if 0 ≤ at2 ∧ at2 < (b1.length : Int) then
 some (decide (rd b1 at2 = 128))
 else
 none)
 else
 some false)) : Option (Bool)).bind (fun v13 =>
 (if v13 = true then
 some (Sum.inr (Sum.inr (0, 0, 3)))
 else
 let t14 := IntKind.i64.wrap (at2 + s4.2);
 let t15 := IntKind.i64.wrap (t14 + 1);
 some (Sum.inr (Sum.inr (t12, t15, 0)))))
 else
 let t16 := IntKind.i64.wrap (s4.2 + 1);
 some (Sum.inl (t12, t16)))
 else
 none))
 else
 some (Sum.inr (Sum.inl ())))

theorem bits_GetSize_eq (b1 : List Int) (at2 : Int) : bits_GetSize b1 at2 =
 ((if (decide (at2 < 0)) = true then
 some true
 else
 some (decide (at2 > ((b1.length : Nat) : Int)))) : Option (Bool)).bind (fun v3 =>
 (if v3 = true then
 some (0, 0, 2)
 else
 (loop (bits_GetSize_loop4 b1 at2) (0, 0)).bind (fun o25 =>
 (Sum.elim (fun (p20 : Unit) =>
 some (0, 0, 3))
 (fun (p21 : Int × Int × Int) =>
 some (p21.1, p21.2.1, p21.2.2)) o25)))) := (call_eq ..).trans (by kernel_rfl)

theorem page_builder_order_eq (s1 s2 s3 : Int) (s4 : List Int) (s5 : List Bool) (s6 : List Int) (b7 b8 b9 : Int) (b10 : List Int) (b11 b12 : Bool) (b13 b14 : Int) : page_builder_order s1 s2 s3 s4 s5 s6 b7 b8 b9 b10 b11 b12 b13 b14 =
 (if (decide (s3 = 0)) = true then
 ((if (decide (s2 = 0)) = true then
 some true
 else
 (if (decide (s2 = 2)) = true then
 some true
 else
 (if (decide (s2 = 9)) = true then
 some true
 else
 some (decide (s2 > 10))))) : Option (Bool)).bind (fun v15 =>
 (if v15 = true then
 some (0, b7, b8, b9, b10, b11, b12, b13, b14)
 else
 some (50, b7, b8, b9, b10, b11, b12, b13, b14)))
 else
 (if b12 = true then
 some (50, b7, b8, b9, b10, b11, b12, b13, b14)
 else
 (if (decide (b11 = decide (s2 = 6))) = true then
 some (50, b7, b8, b9, b10, b11, b12, b13, b14)
 else
 some (0, b7, b8, b9, b10, b11, b12, b13, b14)))) := (call_eq ..).trans (by kernel_rfl)

theorem page_builder_runs_eqD (s1 s2 s3 : Int) (s4 : List Int) (s5 : List Bool) (s6 : List Int) (b7 b8 b9 : Int) (b10 : List Int) (b11 b12 : Bool) (b13 b14 : Int) (b15 : List Int) (b16 b17 : Int) : page_builder_runs s1 s2 s3 s4 s5 s6 b7 b8 b9 b10 b11 b12 b13 b14 b15 b16 b17 =
 (page_cursor_begin b15 b16 b17).bind fun q18 =>
 let tr20 := q18.2.1;
 (page_cursor_byte 1 q18.2.2.2.2.2.2.1 q18.2.2.2.2.2.2.2.1 q18.2.2.2.2.2.2.2.2).bind fun q28 =>
 (page_cursor_check (decide (((s4.length : Nat) : Int) = 0)) 50 q28.2.1 q28.2.2.1 q28.2.2.2).bind fun q33 =>
 let tr36 := q33.2.2.1;
 let tr37 := q33.2.2.2;
 (if (!q33.1) = true then
 some (b7, b8, b9, b10, b11, b12, b13, b14, q33.2.1, tr36, tr37)
 else
 (if (decide (q28.1 = 1)) = true then
 ((demon
 ((page_cursor_rest q33.2.1 tr36 tr37).bind fun q38 =>
 (runs_GetTwo q38.1 q18.1 tr20).bind fun q43 =>
 some (q43.2.2.2.1, q43.2.2.2.2, q38.2.1, q38.2.2.1, q38.2.2.2, q43.1, q43.2.1, q43.2.2.1))
 ((demon
 ((page_cursor_rest q33.2.1 tr36 tr37).bind fun q49 =>
 (runs_GetTwo q49.1 q18.1 tr20).bind fun q54 =>
 some (q54.2.2.2.1, q54.2.2.2.2, q49.2.1, q49.2.2.1, q49.2.2.2, q54.1, q54.2.1, q54.2.2.1))
 ((page_cursor_rest q33.2.1 tr36 tr37).bind fun q60 =>
 (runs_GetTwo q60.1 q18.1 tr20).bind fun q65 =>
 some (q65.2.2.2.1, q65.2.2.2.2, q60.2.1, q60.2.2.1, q60.2.2.2, q65.1, q65.2.1, q65.2.2.1))))) : Option (Int × Int × (List Int) × Int × Int × Int × Int × (List Int))).bind (fun p71 =>
 ((page_cursor_check (decide (p71.2.1 = 0)) p71.2.1 p71.2.2.1 p71.2.2.2.1 p71.2.2.2.2.1).bind fun q80 =>
 (if q80.1 = true then
 let t85 := IntKind.i64.wrap (p71.1 + 7);
 let t86 := IntKind.i64.wrap (t85.tdiv 8);
 (page_cursor_rest q80.2.1 q80.2.2.1 q80.2.2.2).bind fun q87 =>
 (page_cursor_check (decide (t86 = ((q87.1.length : Nat) : Int))) 3 q87.2.1 q87.2.2.1 q87.2.2.2).bind fun q92 =>
 some (q92.1, q92.2.1, q92.2.2.1, q92.2.2.2)
 else
 some (false, q80.2.1, q80.2.2.1, q80.2.2.2)) : Option (Bool × (List Int) × Int × Int)).bind (fun p97 =>
 (if p97.1 = true then
 (page_builder_draw s1 s2 s3 s4 s5 s6 q18.1 tr20 q18.2.2.1 q18.2.2.2.1 q18.2.2.2.2.1 q18.2.2.2.2.2.1 p71.2.2.2.2.2.1 p71.2.2.2.2.2.2.1 p71.2.2.2.2.2.2.2 b7 b8 b9 b10 b11 b12 b13 b14).bind fun q102 =>
 some (q102.1, q102.2.1, q102.2.2.1, q102.2.2.2.1, q102.2.2.2.2.1, q102.2.2.2.2.2.1, q102.2.2.2.2.2.2.1, q102.2.2.2.2.2.2.2, p97.2.1, p97.2.2.1, p97.2.2.2)
 else
 some (b7, b8, b9, b10, b11, b12, b13, b14, p97.2.1, p97.2.2.1, p97.2.2.2))))
 else
 ((demon
 ((page_cursor_rest q33.2.1 tr36 tr37).bind fun q111 =>
 (runs_GetOne q111.1 q18.1 tr20).bind fun q116 =>
 some (q116.2.2.2.1, q116.2.2.2.2, q111.2.1, q111.2.2.1, q111.2.2.2, q116.1, q116.2.1, q116.2.2.1))
 ((demon
 ((page_cursor_rest q33.2.1 tr36 tr37).bind fun q122 =>
 (runs_GetOne q122.1 q18.1 tr20).bind fun q127 =>
 some (q127.2.2.2.1, q127.2.2.2.2, q122.2.1, q122.2.2.1, q122.2.2.2, q127.1, q127.2.1, q127.2.2.1))
 ((page_cursor_rest q33.2.1 tr36 tr37).bind fun q133 =>
 (runs_GetOne q133.1 q18.1 tr20).bind fun q138 =>
 some (q138.2.2.2.1, q138.2.2.2.2, q133.2.1, q133.2.2.1, q133.2.2.2, q138.1, q138.2.1, q138.2.2.1))))) : Option (Int × Int × (List Int) × Int × Int × Int × Int × (List Int))).bind (fun p144 =>
 ((page_cursor_check (decide (p144.2.1 = 0)) p144.2.1 p144.2.2.1 p144.2.2.2.1 p144.2.2.2.2.1).bind fun q153 =>
 (if q153.1 = true then
 let t158 := IntKind.i64.wrap (p144.1 + 7);
 let t159 := IntKind.i64.wrap (t158.tdiv 8);
 (page_cursor_rest q153.2.1 q153.2.2.1 q153.2.2.2).bind fun q160 =>
 (page_cursor_check (decide (t159 = ((q160.1.length : Nat) : Int))) 3 q160.2.1 q160.2.2.1 q160.2.2.2).bind fun q165 =>
 some (q165.1, q165.2.1, q165.2.2.1, q165.2.2.2)
 else
 some (false, q153.2.1, q153.2.2.1, q153.2.2.2)) : Option (Bool × (List Int) × Int × Int)).bind (fun p170 =>
 (if p170.1 = true then
 (page_builder_draw s1 s2 s3 s4 s5 s6 q18.1 tr20 q18.2.2.1 q18.2.2.2.1 q18.2.2.2.2.1 q18.2.2.2.2.2.1 p144.2.2.2.2.2.1 p144.2.2.2.2.2.2.1 p144.2.2.2.2.2.2.2 b7 b8 b9 b10 b11 b12 b13 b14).bind fun q175 =>
 some (q175.1, q175.2.1, q175.2.2.1, q175.2.2.2.1, q175.2.2.2.2.1, q175.2.2.2.2.2.1, q175.2.2.2.2.2.2.1, q175.2.2.2.2.2.2.2, p170.2.1, p170.2.2.1, p170.2.2.2)
 else
 some (b7, b8, b9, b10, b11, b12, b13, b14, p170.2.1, p170.2.2.1, p170.2.2.2)))))) := (call_eq ..).trans (by kernel_rfl)
theorem page_builder_runs_eq (s1 s2 s3 : Int) (s4 : List Int) (s5 : List Bool) (s6 : List Int) (b7 b8 b9 : Int) (b10 : List Int) (b11 b12 : Bool) (b13 b14 : Int) (b15 : List Int) (b16 b17 : Int) : page_builder_runs s1 s2 s3 s4 s5 s6 b7 b8 b9 b10 b11 b12 b13 b14 b15 b16 b17 =
 (page_cursor_begin b15 b16 b17).bind fun q18 =>
 (page_cursor_byte 1 q18.2.2.2.2.2.2.1 q18.2.2.2.2.2.2.2.1 q18.2.2.2.2.2.2.2.2).bind fun q28 =>
 (page_cursor_check (decide (((s4.length : Nat) : Int) = 0)) 50 q28.2.1 q28.2.2.1 q28.2.2.2).bind fun q33 =>
 (if (!q33.1) = true then
 some (b7, b8, b9, b10, b11, b12, b13, b14, q33.2.1, q33.2.2.1, q33.2.2.2)
 else
 (if (decide (q28.1 = 1)) = true then
 (((page_cursor_rest q33.2.1 q33.2.2.1 q33.2.2.2).bind fun q38 =>
 (runs_GetTwo q38.1 q18.1 q18.2.1).bind fun q43 =>
 some (q43.2.2.2.1, q43.2.2.2.2, q38.2.1, q38.2.2.1, q38.2.2.2, q43.1, q43.2.1, q43.2.2.1)) : Option (Int × Int × (List Int) × Int × Int × Int × Int × (List Int))).bind (fun p71 =>
 ((page_cursor_check (decide (p71.2.1 = 0)) p71.2.1 p71.2.2.1 p71.2.2.2.1 p71.2.2.2.2.1).bind fun q80 =>
 (if q80.1 = true then
 let t85 := IntKind.i64.wrap (p71.1 + 7);
 let t86 := IntKind.i64.wrap (t85.tdiv 8);
 (page_cursor_rest q80.2.1 q80.2.2.1 q80.2.2.2).bind fun q87 =>
 (page_cursor_check (decide (t86 = ((q87.1.length : Nat) : Int))) 3 q87.2.1 q87.2.2.1 q87.2.2.2).bind fun q92 =>
 some (q92.1, q92.2.1, q92.2.2.1, q92.2.2.2)
 else
 some (false, q80.2.1, q80.2.2.1, q80.2.2.2)) : Option (Bool × (List Int) × Int × Int)).bind (fun p97 =>
 (if p97.1 = true then
 (page_builder_draw s1 s2 s3 s4 s5 s6 q18.1 q18.2.1 q18.2.2.1 q18.2.2.2.1 q18.2.2.2.2.1 q18.2.2.2.2.2.1 p71.2.2.2.2.2.1 p71.2.2.2.2.2.2.1 p71.2.2.2.2.2.2.2 b7 b8 b9 b10 b11 b12 b13 b14).bind fun q102 =>
 some (q102.1, q102.2.1, q102.2.2.1, q102.2.2.2.1, q102.2.2.2.2.1, q102.2.2.2.2.2.1, q102.2.2.2.2.2.2.1, q102.2.2.2.2.2.2.2, p97.2.1, p97.2.2.1, p97.2.2.2)
 else
 some (b7, b8, b9, b10, b11, b12, b13, b14, p97.2.1, p97.2.2.1, p97.2.2.2))))
 else
 (((page_cursor_rest q33.2.1 q33.2.2.1 q33.2.2.2).bind fun q111 =>
 (runs_GetOne q111.1 q18.1 q18.2.1).bind fun q116 =>
 some (q116.2.2.2.1, q116.2.2.2.2, q111.2.1, q111.2.2.1, q111.2.2.2, q116.1, q116.2.1, q116.2.2.1)) : Option (Int × Int × (List Int) × Int × Int × Int × Int × (List Int))).bind (fun p144 =>
 ((page_cursor_check (decide (p144.2.1 = 0)) p144.2.1 p144.2.2.1 p144.2.2.2.1 p144.2.2.2.2.1).bind fun q153 =>
 (if q153.1 = true then
 let t158 := IntKind.i64.wrap (p144.1 + 7);
 let t159 := IntKind.i64.wrap (t158.tdiv 8);
 (page_cursor_rest q153.2.1 q153.2.2.1 q153.2.2.2).bind fun q160 =>
 (page_cursor_check (decide (t159 = ((q160.1.length : Nat) : Int))) 3 q160.2.1 q160.2.2.1 q160.2.2.2).bind fun q165 =>
 some (q165.1, q165.2.1, q165.2.2.1, q165.2.2.2)
 else
 some (false, q153.2.1, q153.2.2.1, q153.2.2.2)) : Option (Bool × (List Int) × Int × Int)).bind (fun p170 =>
 (if p170.1 = true then
 (page_builder_draw s1 s2 s3 s4 s5 s6 q18.1 q18.2.1 q18.2.2.1 q18.2.2.2.1 q18.2.2.2.2.1 q18.2.2.2.2.2.1 p144.2.2.2.2.2.1 p144.2.2.2.2.2.2.1 p144.2.2.2.2.2.2.2 b7 b8 b9 b10 b11 b12 b13 b14).bind fun q175 =>
 some (q175.1, q175.2.1, q175.2.2.1, q175.2.2.2.1, q175.2.2.2.2.1, q175.2.2.2.2.2.1, q175.2.2.2.2.2.2.1, q175.2.2.2.2.2.2.2, p170.2.1, p170.2.2.1, p170.2.2.2)
 else
 some (b7, b8, b9, b10, b11, b12, b13, b14, p170.2.1, p170.2.2.1, p170.2.2.2)))))) := by rw [page_builder_runs_eqD]; simp only [demon_same]

theorem page_builder_info_eq (b1 b2 b3 : Int) (b4 : List Int) (b5 b6 : Bool) (b7 b8 : Int) (b9 : List Int) (b10 b11 : Int) : page_builder_info b1 b2 b3 b4 b5 b6 b7 b8 b9 b10 b11 =
 (page_cursor_size b9 b10 b11).bind fun q12 =>
 (page_cursor_size q12.2.1 q12.2.2.1 q12.2.2.2).bind fun q17 =>
 let t22 := IntKind.i64.wrap (q17.1 - 1);
 ((if (decide (t22 < 0)) = true then
 some b8
 else
 some t22) : Option (Int)).bind (fun h23 =>
 (page_cursor_sides q12.1 h23 q17.2.1 q17.2.2.1 q17.2.2.2).bind fun q24 =>
 (page_cursor_byte 9 q24.1 q24.2.1 q24.2.2).bind fun q28 =>
 (page_cursor_end q28.2.1 q28.2.2.1 q28.2.2.2).bind fun q33 =>
 (if (decide (q33.2.2 = 0)) = true then
 let t37 : Int := q28.1.tmod 2;
 (bitmap_New q12.1 h23 t37).bind fun q38 =>
 some (b1, q38.1, q38.2.1, q38.2.2.2, true, b6, b7, b8, q33.1, q33.2.1, q33.2.2)
 else
 some (b1, b2, b3, b4, b5, b6, b7, b8, q33.1, q33.2.1, q33.2.2))) := (call_eq ..).trans (by kernel_rfl)

theorem page_cursor_check_eq (ok1 : Bool) (err2 : Int) (b3 : List Int) (b4 b5 : Int) : page_cursor_check ok1 err2 b3 b4 b5 =
 (if (!ok1) = true then
 (page_cursor_fail err2 b3 b4 b5).bind fun q6 =>
 some (decide (q6.2.2 = 0), q6.1, q6.2.1, q6.2.2)
 else
 some (decide (b5 = 0), b3, b4, b5)) := (call_eq ..).trans (by kernel_rfl)

theorem page_builder_stripes_eq (b1 b2 b3 : Int) (b4 : List Int) (b5 b6 : Bool) (b7 b8 : Int) (b9 : List Int) (b10 b11 : Int) : page_builder_stripes b1 b2 b3 b4 b5 b6 b7 b8 b9 b10 b11 =
 (page_cursor_size b9 b10 b11).bind fun q12 =>
 (page_cursor_end q12.2.1 q12.2.2.1 q12.2.2.2).bind fun q17 =>
 (page_cursor_check (decide (q12.1 > b7)) 3 q17.1 q17.2.1 q17.2.2).bind fun q21 =>
 (if q21.1 = true then
 some (b1, b2, b3, b4, b5, b6, q12.1, b8, q21.2.1, q21.2.2.1, q21.2.2.2)
 else
 some (b1, b2, b3, b4, b5, b6, b7, b8, q21.2.1, q21.2.2.1, q21.2.2.2)) := (call_eq ..).trans (by kernel_rfl)

theorem page_builder_none_eq (s1 s2 s3 : Int) (s4 : List Int) (s5 : List Bool) (s6 : List Int) (b7 b8 b9 : Int) (b10 : List Int) (b11 b12 : Bool) (b13 b14 : Int) (b15 : List Int) (b16 b17 : Int) : page_builder_none s1 s2 s3 s4 s5 s6 b7 b8 b9 b10 b11 b12 b13 b14 b15 b16 b17 =
 (page_cursor_end b15 b16 b17).bind fun q18 =>
 (page_cursor_check (decide (((s4.length : Nat) : Int) = 0)) 50 q18.1 q18.2.1 q18.2.2).bind fun q22 =>
 some (b7, b8, b9, b10, b11, b12, b13, b14, q22.2.1, q22.2.2.1, q22.2.2.2) := (call_eq ..).trans (by kernel_rfl)

noncomputable def bitmap_fits_b (w1 h2 : Int) : Option Bool :=
 (if (decide (w1 ≥ 0)) = true then
 (if (decide (h2 ≥ 0)) = true then
 (if (decide (w1 ≤ 200)) = true then
 (if (decide (h2 ≤ 200)) = true then
 let t3 := IntKind.i64.wrap (w1 * h2);
 some (decide (t3 ≤ 8192))
 else
 some false)
 else
 some false)
 else
 some false)
 else
 some false)
theorem bitmap_fits_eq w1 h2 : bitmap_fits w1 h2 = bitmap_fits_b w1 h2 := (call_eq ..).trans (by kernel_rfl)

noncomputable def prefix_Standard_b (prefix_lines : type_of% @prefix_lines) (k1 : Int) : Option ((List Line) × Int) :=
 (if (decide (k1 = 0)) = true then
 (prefix_lines [(Arr4.mk 1 0 0 0), (Arr4.mk 2 1 1 0), (Arr4.mk 3 3 3 0), (Arr4.mk 4 5 11 0), (Arr4.mk 5 8 43 0), (Arr4.mk 5 20 299 0)]).bind fun q2 =>
 some (q2, 0)
 else
 (if (decide (k1 = 1)) = true then
 (prefix_lines [(Arr4.mk 1 2 0 0), (Arr4.mk 2 4 4 0), (Arr4.mk 3 8 20 0), (Arr4.mk 4 20 (-1) 1), (Arr4.mk 4 0 0 2)]).bind fun q3 =>
 some (q3, 0)
 else
 (if (decide (k1 = 2)) = true then
 (prefix_lines [(Arr4.mk 1 0 0 0), (Arr4.mk 3 2 1 0), (Arr4.mk 3 2 (-1) 1), (Arr4.mk 3 20 5 0), (Arr4.mk 3 20 (-5) 1)]).bind fun q4 =>
 some (q4, 0)
 else
 some ([], 2))))
theorem prefix_Standard_eq k1 : prefix_Standard k1 = prefix_Standard_b @prefix_lines k1 := (call_eq ..).trans (by kernel_rfl)

noncomputable def prefix_Bits_b (prefix_Valid : type_of% @prefix_Valid) (prefix_codes : type_of% @prefix_codes) (prefix_put : type_of% @prefix_put) (a1 : List Line) (n2 : Bool) (n3 : Int) : Option (Int × (List Int)) :=
 (prefix_Valid a1).bind fun q4 =>
 (if (!q4) = true then
 some (20, [])
 else
 (prefix_codes a1).bind fun q5 =>
 (prefix_put a1 q5 n2 n3).bind fun q6 =>
 some (q6.1, q6.2))
theorem prefix_Bits_eq a1 n2 n3 : prefix_Bits a1 n2 n3 = prefix_Bits_b @prefix_Valid @prefix_codes @prefix_put a1 n2 n3 := (call_eq ..).trans (by kernel_rfl)

noncomputable def runs_remains_b (colour1 : Int) : Option (List Line) :=
 (if (decide (colour1 = 0)) = true then
 some [(Line.mk 2 2 0 0), (Line.mk 2 3 4 0), (Line.mk 2 4 12 0), (Line.mk 2 6 28 0)]
 else
 some [(Line.mk 1 1 0 0), (Line.mk 2 1 2 0), (Line.mk 3 2 4 0), (Line.mk 3 6 8 0)])
theorem runs_remains_eq colour1 : runs_remains colour1 = runs_remains_b colour1 := (call_eq ..).trans (by kernel_rfl)

noncomputable def runs_marks_loop2 (above1 : List Int) (colour3 b5 : Int) : Option ((Int) ⊕ (Int)) :=
 (if (decide (b5 < ((above1.length : Nat) : Int))) = true then
 ((if (decide (b5 > 0)) = true then
 let t6 := IntKind.i64.wrap (b5 - 1);
 (if 0 ≤ t6 ∧ t6 < (above1.length : Int) then
 some (rd above1 t6)
 else
 none)
 else
 some 0) : Option (Int)).bind (fun left7 =>
 (if 0 ≤ b5 ∧ b5 < (above1.length : Int) then
 (if (!decide (rd above1 b5 = colour3)) = true then
 (if (decide (left7 = colour3)) = true then
 some (Sum.inr b5)
 else
 let t8 := IntKind.i64.wrap (b5 + 1);
 some (Sum.inl t8))
 else
 let t9 := IntKind.i64.wrap (b5 + 1);
 some (Sum.inl t9))
 else
 none))
 else
 some (Sum.inr b5))
theorem runs_marks_eq (above1 : List Int) (a2 colour3 : Int) : runs_marks above1 a2 colour3 =
 let t4 := IntKind.i64.wrap (a2 + 1);
 (loop (runs_marks_loop2 above1 colour3) t4).bind (fun b10 =>
 let t11 := imin b10 ((above1.length : Nat) : Int);
 (runs_change above1 t11 colour3).bind fun q12 =>
 some (t11, q12)) := (call_eq ..).trans (by kernel_rfl)

noncomputable def runs_change_loop2 (pixels1 : List Int) (colour3 x5 : Int) : Option ((Int) ⊕ (Int)) :=
 (if (decide (x5 < ((pixels1.length : Nat) : Int))) = true then
 (if 0 ≤ x5 ∧ x5 < (pixels1.length : Int) then
 (if (!decide (rd pixels1 x5 = colour3)) = true then
 let t6 := IntKind.i64.wrap (x5 + 1);
 some (Sum.inl t6)
 else
 some (Sum.inr x5))
 else
 none)
 else
 some (Sum.inr x5))
theorem runs_change_eq (pixels1 : List Int) (a2 colour3 : Int) : runs_change pixels1 a2 colour3 =
 let t4 := IntKind.i64.wrap (a2 + 1);
 (loop (runs_change_loop2 pixels1 colour3) t4).bind (fun x7 =>
 let t8 := imin x7 ((pixels1.length : Nat) : Int);
 some t8) := (call_eq ..).trans (by kernel_rfl)

noncomputable def runs_list_loop3 (s1 : List Int) (s2 : Int × (List Int)) : Option ((Int × (List Int)) ⊕ ((List Int))) :=
 (if (decide (s2.1 < ((s1.length : Nat) : Int))) = true then
 (if 0 ≤ s2.1 ∧ s2.1 < (s2.2.length : Int) then
 let t5 : Int := rd s2.2 s2.1;
 let t6 := IntKind.u8.wrap (t5 - 48);
 (if 0 ≤ s2.1 ∧ s2.1 < (s2.2.length : Int) then
 let w7 : List Int := s2.2.set s2.1.toNat t6;
 let t8 := IntKind.i64.wrap (s2.1 + 1);
 some (Sum.inl (t8, w7))
 else
 none)
 else
 none)
 else
 some (Sum.inr s2.2))

noncomputable def runs_list_b (loop : type_of% @loop) (runs_list_loop3 : type_of% @runs_list_loop3) (s1 : List Int) : Option (List Int) :=
 (loop (runs_list_loop3 s1) (0, s1)).bind (fun b12 =>
 some b12)
theorem runs_list_eq s1 : runs_list s1 = runs_list_b @loop @runs_list_loop3 s1 := (call_eq ..).trans (by kernel_rfl)

noncomputable def runs_uprights_b : Option (List (List Int)) :=
 some [[48, 48, 48, 48, 48, 49, 48], [48, 48, 48, 48, 49, 48], [48, 49, 48], [49], [48, 49, 49], [48, 48, 48, 48, 49, 49], [48, 48, 48, 48, 48, 49, 49]]
theorem runs_uprights_eq : runs_uprights = runs_uprights_b := (call_eq ..).trans (by kernel_rfl)

noncomputable def bits_Signed_b (bits_Size : type_of% @bits_Size) (n1 : Int) : Option ((List Int) × Int) :=
 ((if (decide (n1 ≥ 0)) = true then
 some (decide (n1 < 1073741824))
 else
 some false) : Option (Bool)).bind (fun v2 =>
 (if v2 = true then
 let t3 := IntKind.i64.wrap (2 * n1);
 (bits_Size t3).bind fun q4 =>
 some (q4.1, q4.2)
 else
 ((if (decide (n1 < 0)) = true then
 some (decide (n1 ≥ (-1073741824)))
 else
 some false) : Option (Bool)).bind (fun v7 =>
 (if v7 = true then
 let t8 := IntKind.i64.wrap ((-2) * n1);
 let t9 := IntKind.i64.wrap (t8 - 1);
 (bits_Size t9).bind fun q10 =>
 some (q10.1, q10.2)
 else
 some ([], 2)))))
theorem bits_Signed_eq n1 : bits_Signed n1 = bits_Signed_b @bits_Size n1 := (call_eq ..).trans (by kernel_rfl)

noncomputable def segment_store_takes_loop4 (s4 : List Int) (v10 : Int) : Option ((Int) ⊕ (Unit)) :=
 (if (decide (v10 < ((s4.length : Nat) : Int))) = true then
 (if 0 ≤ v10 ∧ v10 < (s4.length : Int) then
 none
 else
 none)
 else
 some (Sum.inr ()))

noncomputable def segment_store_takes_loop11 (s4 : List Int) (s5 : List Bool) (v15 : Int) : Option ((Int) ⊕ (Unit)) :=
 (if (decide (v15 < ((s4.length : Nat) : Int))) = true then
 (if 0 ≤ v15 ∧ v15 < (s4.length : Int) then
 (if 0 ≤ v15 then
 (s5[v15.toNat]?).bind fun e16 =>
 (if (!e16) = true then
 none
 else
 let t17 := IntKind.i64.wrap (v15 + 1);
 some (Sum.inl t17))
 else
 none)
 else
 none)
 else
 some (Sum.inr ()))

theorem segment_store_takes_eq (s1 s2 s3 : Int) (s4 : List Int) (s5 : List Bool) (s6 : List Int) (last7 : Int) : segment_store_takes s1 s2 s3 s4 s5 s6 last7 =
 ((segment_Valid s1 s2 s3 s4 s5 s6).bind fun q8 =>
 (if (!q8) = true then
 some true
 else
 some (decide (s1 ≤ last7))) : Option (Bool)).bind (fun v9 =>
 (if v9 = true then
 some false
 else
 (loop (segment_store_takes_loop4 s4) 0).bind (fun p14 =>
 (loop (segment_store_takes_loop11 s4 s5) 0).bind (fun p21 =>
 (if 0 ≤ ((s4.length : Nat) : Int) then
 (s5[((s4.length : Nat) : Int).toNat]?).bind fun e22 =>
 (if e22 = true then
 some true
 else
 some true)
 else
 none))))) := (call_eq ..).trans (by kernel_rfl)

theorem page_Decode_1_eq (s1 s2 s3 : Int) (s4 : List Int) (s5 : List Bool) (s6 : List Int) (b7 : Int) : page_Decode_1 s1 s2 s3 s4 s5 s6 b7 =
 some (decide (s3 = b7), b7) := (call_eq ..).trans (by kernel_rfl)

theorem page_cursor_begin_eq (b1 : List Int) (b2 b3 : Int) : page_cursor_begin b1 b2 b3 =
 (page_cursor_size b1 b2 b3).bind fun q4 =>
 (page_cursor_size q4.2.1 q4.2.2.1 q4.2.2.2).bind fun q9 =>
 (page_cursor_sides q4.1 q9.1 q9.2.1 q9.2.2.1 q9.2.2.2).bind fun q14 =>
 (page_cursor_signed q14.1 q14.2.1 q14.2.2).bind fun q18 =>
 (page_near q18.1).bind fun q23 =>
 (page_cursor_check q23 3 q18.2.1 q18.2.2.1 q18.2.2.2).bind fun q24 =>
 (page_cursor_signed q24.2.1 q24.2.2.1 q24.2.2.2).bind fun q29 =>
 (page_near q29.1).bind fun q34 =>
 (page_cursor_check q34 3 q29.2.1 q29.2.2.1 q29.2.2.2).bind fun q35 =>
 (page_cursor_byte 12 q35.2.1 q35.2.2.1 q35.2.2.2).bind fun q40 =>
 let t45 : Int := q40.1.tmod 8;
 (page_cursor_check (decide (t45 ≤ 4)) 3 q40.2.1 q40.2.2.1 q40.2.2.2).bind fun q46 =>
 let t51 : Int := q40.1.tmod 8;
 some (q4.1, q9.1, q18.1, q29.1, t51, decide (q40.1 ≥ 8), q46.2.1, q46.2.2.1, q46.2.2.2) := (call_eq ..).trans (by kernel_rfl)

theorem page_cursor_byte_eq (most1 : Int) (b2 : List Int) (b3 b4 : Int) : page_cursor_byte most1 b2 b3 b4 =
 (if (!decide (b4 = 0)) = true then
 some (0, b2, b3, b4)
 else
 (if (decide (b3 ≥ ((b2.length : Nat) : Int))) = true then
 (page_cursor_fail 6 b2 b3 b4).bind fun q5 =>
 some (0, q5.1, q5.2.1, q5.2.2)
 else
 (if 0 ≤ b3 ∧ b3 < (b2.length : Int) then
 let t9 := IntKind.i64.wrap (rd b2 b3);
 let t10 := IntKind.i64.wrap (b3 + 1);
 (page_cursor_check (decide (t9 ≤ most1)) 3 b2 t10 b4).bind fun q11 =>
 some (t9, q11.2.1, q11.2.2.1, q11.2.2.2)
 else
 none))) := (call_eq ..).trans (by kernel_rfl)

theorem page_cursor_rest_eq (b1 : List Int) (b2 b3 : Int) : page_cursor_rest b1 b2 b3 =
 (if 0 ≤ b2 ∧ b2 ≤ ((b1.length : Nat) : Int) then
 let t4 : List Int := cutL b1 b2.toNat b1.length;
 some (t4, b1, b2, b3)
 else
 none) := (call_eq ..).trans (by kernel_rfl)

theorem runs_GetTwo_eq (b1 : List Int) (w2 h3 : Int) : runs_GetTwo b1 w2 h3 =
 (runs_read b1 w2 h3).bind fun q4 =>
 some (q4.1, q4.2.1, q4.2.2.1, q4.2.2.2.1, q4.2.2.2.2) := (call_eq ..).trans (by kernel_rfl)

theorem page_builder_draw_eq (s1 s2 s3 : Int) (s4 : List Int) (s5 : List Bool) (s6 : List Int) (g7 g8 g9 g10 g11 : Int) (g12 : Bool) (b13 b14 : Int) (b15 : List Int) (b16 b17 b18 : Int) (b19 : List Int) (b20 b21 : Bool) (b22 b23 : Int) : page_builder_draw s1 s2 s3 s4 s5 s6 g7 g8 g9 g10 g11 g12 b13 b14 b15 b16 b17 b18 b19 b20 b21 b22 b23 =
 (if g12 = true then
 some (b16, b17, b18, b19, b20, b21, b22, b23)
 else
 (bitmap_Draw b17 b18 b19 b13 b14 b15 g9 g10 g11).bind fun q24 =>
 some (b16, q24.1, q24.2.1, q24.2.2.1, b20, b21, b22, b23)) := (call_eq ..).trans (by kernel_rfl)

theorem runs_GetOne_eq (b1 : List Int) (w2 h3 : Int) : runs_GetOne b1 w2 h3 =
 (runs_read_2 b1 w2 h3).bind fun q4 =>
 some (q4.1, q4.2.1, q4.2.2.1, q4.2.2.2.1, q4.2.2.2.2) := (call_eq ..).trans (by kernel_rfl)

theorem page_cursor_size_eq (b1 : List Int) (b2 b3 : Int) : page_cursor_size b1 b2 b3 =
 (if (!decide (b3 = 0)) = true then
 some (0, b1, b2, b3)
 else
 (bits_GetSize b1 b2).bind fun q4 =>
 (if (!decide (q4.2.2 = 0)) = true then
 (page_cursor_fail q4.2.2 b1 b2 b3).bind fun q8 =>
 some (0, q8.1, q8.2.1, q8.2.2)
 else
 some (q4.1, b1, q4.2.1, b3))) := (call_eq ..).trans (by kernel_rfl)

theorem page_cursor_sides_eq (w1 h2 : Int) (b3 : List Int) (b4 b5 : Int) : page_cursor_sides w1 h2 b3 b4 b5 =
 (if (decide (b5 = 0)) = true then
 (bitmap_New w1 h2 0).bind fun q6 =>
 (page_cursor_check (decide (q6.2.2.1 = 0)) 4 b3 b4 b5).bind fun q11 =>
 some (q11.2.1, q11.2.2.1, q11.2.2.2)
 else
 some (b3, b4, b5)) := (call_eq ..).trans (by kernel_rfl)

theorem page_cursor_end_eq (b1 : List Int) (b2 b3 : Int) : page_cursor_end b1 b2 b3 =
 (page_cursor_check (decide (b2 = ((b1.length : Nat) : Int))) 3 b1 b2 b3).bind fun q4 =>
 some (q4.2.1, q4.2.2.1, q4.2.2.2) := (call_eq ..).trans (by kernel_rfl)

theorem page_cursor_fail_eq (err1 : Int) (b2 : List Int) (b3 b4 : Int) : page_cursor_fail err1 b2 b3 b4 =
 (if (decide (b4 = 0)) = true then
 some (b2, b3, err1)
 else
 some (b2, b3, b4)) := (call_eq ..).trans (by kernel_rfl)

noncomputable def prefix_lines_loop3 (l1 : List Arr4) (s2 : Int × (List Line)) : Option ((Int × (List Line)) ⊕ ((List Line))) :=
 (if (decide (s2.1 < ((l1.length : Nat) : Int))) = true then
 (if 0 ≤ s2.1 then
 (l1[s2.1.toNat]?).bind fun e5 =>
 (if 0 ≤ (0 : Int) ∧ (0 : Int) < ((4 : Nat) : Int) then
 (if 0 ≤ (1 : Int) ∧ (1 : Int) < ((4 : Nat) : Int) then
 (if 0 ≤ (2 : Int) ∧ (2 : Int) < ((4 : Nat) : Int) then
 (if 0 ≤ (3 : Int) ∧ (3 : Int) < ((4 : Nat) : Int) then
 (if (s2.2.length + ([(Line.mk e5.a0 e5.a1 e5.a2 e5.a3)] : List Line).length) * 32 ≤ 140737488355328 then
 let t6 : List Line := s2.2 ++ [(Line.mk e5.a0 e5.a1 e5.a2 e5.a3)];
 let t7 := IntKind.i64.wrap (s2.1 + 1);
 some (Sum.inl (t7, t6))
 else
 none)
 else
 none)
 else
 none)
 else
 none)
 else
 none)
 else
 none)
 else
 some (Sum.inr s2.2))

noncomputable def prefix_lines_b (loop : type_of% @loop) (prefix_lines_loop3 : type_of% @prefix_lines_loop3) (l1 : List Arr4) : Option (List Line) :=
 (loop (prefix_lines_loop3 l1) (0, [])).bind (fun out11 =>
 some out11)
theorem prefix_lines_eq l1 : prefix_lines l1 = prefix_lines_b @loop @prefix_lines_loop3 l1 := (call_eq ..).trans (by kernel_rfl)

noncomputable def prefix_Valid_loop4_b (prefix_isLine : type_of% @prefix_isLine) (a1 : List Line) (v2 : Int) : Option ((Int) ⊕ ((Unit) ⊕ (Bool))) :=
 (if (decide (v2 < ((a1.length : Nat) : Int))) = true then
 (if 0 ≤ v2 then
 (a1[v2.toNat]?).bind fun e3 =>
 (prefix_isLine e3.length e3.bits e3.low e3.kind).bind fun q4 =>
 (if (!q4) = true then
 some (Sum.inr (Sum.inr false))
 else
 let t5 := IntKind.i64.wrap (v2 + 1);
 some (Sum.inl t5))
 else
 none)
 else
 some (Sum.inr (Sum.inl ())))
noncomputable def prefix_Valid_loop4 := prefix_Valid_loop4_b @prefix_isLine

noncomputable def prefix_Valid_b (loop : type_of% @loop) (prefix_Valid_loop4 : type_of% @prefix_Valid_loop4) (prefix_weight : type_of% @prefix_weight) (a1 : List Line) : Option Bool :=
 (if (decide (((a1.length : Nat) : Int) > 64)) = true then
 some false
 else
 (loop (prefix_Valid_loop4 a1) 0).bind (fun o11 =>
 (Sum.elim (fun (p9 : Unit) =>
 (prefix_weight a1).bind fun q12 =>
 (if (decide (q12.2.1 > 0)) = true then
 (if (decide (q12.2.2 ≤ 1)) = true then
 some (decide (q12.1 ≤ 32768))
 else
 some false)
 else
 some false))
 (fun (v10 : Bool) =>
 some v10) o11)))
theorem prefix_Valid_eq a1 : prefix_Valid a1 = prefix_Valid_b @loop @prefix_Valid_loop4 @prefix_weight a1 := (call_eq ..).trans (by kernel_rfl)

noncomputable def prefix_codes_loop8 (a1 : List Line) (length4 : Int) (s10 : Int × (List Code) × Int × Int) : Option ((Int × (List Code) × Int × Int) ⊕ ((List Code) × Int × Int)) :=
 let b13 := s10.2.2.1;
 let b14 := s10.2.2.2;
 (if (decide (s10.1 < ((a1.length : Nat) : Int))) = true then
 (if 0 ≤ s10.1 then
 (a1[s10.1.toNat]?).bind fun e15 =>
 (if (decide (e15.length = length4)) = true then
 (if 0 ≤ s10.1 ∧ s10.1 < (s10.2.1.length : Int) then
 (s10.2.1[s10.1.toNat]?).bind fun e16 =>
 let w17 : List Code := s10.2.1.set s10.1.toNat (Code.mk b13 b14);
 let t18 := IntKind.i64.wrap (b13 + 1);
 let t19 := IntKind.i64.wrap (s10.1 + 1);
 some (Sum.inl (t19, w17, t18, b14))
 else
 none)
 else
 let t20 := IntKind.i64.wrap (s10.1 + 1);
 some (Sum.inl (t20, s10.2.1, b13, b14)))
 else
 none)
 else
 some (Sum.inr (s10.2.1, b13, b14)))

noncomputable def prefix_codes_loop4_b (loop : type_of% @loop) (prefix_codes_loop8 : type_of% @prefix_codes_loop8) (a1 : List Line) (s3 : Int × (List Code) × Int × Int) : Option ((Int × (List Code) × Int × Int) ⊕ ((List Code) × Int × Int)) :=
 (if (decide (s3.1 ≤ 15)) = true then
 let t8 := IntKind.i64.wrap (s3.1 - s3.2.2.2);
 (if t8 < 0 then
 none
 else
 let t9 := ishl .i64 s3.2.2.1 t8;
 (loop (prefix_codes_loop8 a1 s3.1) (0, s3.2.1, t9, s3.1)).bind (fun p27 =>
 let t31 := IntKind.i64.wrap (s3.1 + 1);
 some (Sum.inl (t31, p27.1, p27.2.1, p27.2.2))))
 else
 some (Sum.inr (s3.2.1, s3.2.2.1, s3.2.2.2)))
noncomputable def prefix_codes_loop4 := prefix_codes_loop4_b @loop @prefix_codes_loop8
noncomputable def prefix_codes_b (loop : type_of% @loop) (prefix_codes_loop4 : type_of% @prefix_codes_loop4) (a1 : List Line) : Option (List Code) :=
 (if 0 ≤ ((a1.length : Nat) : Int) ∧ ((a1.length : Nat) : Int) ≤ ((a1.length : Nat) : Int) ∧ ((16 : Nat) : Int) * ((a1.length : Nat) : Int) ≤ 281474976710656 then
 let t2 : List Code := List.replicate ((a1.length : Nat) : Int).toNat (Code.mk 0 0);
 (loop (prefix_codes_loop4 a1) (1, t2, 0, 1)).bind (fun p32 =>
 some p32.1)
 else
 none)
theorem prefix_codes_eq a1 : prefix_codes a1 = prefix_codes_b @loop @prefix_codes_loop4 a1 := (call_eq ..).trans (by kernel_rfl)

noncomputable def prefix_put_b (prefix_line : type_of% @prefix_line) (prefix_digits : type_of% @prefix_digits) (a1 : List Line) (l2 : List Code) (n3 : Bool) (n4 : Int) : Option (Int × (List Int)) :=
 (prefix_line a1 n3 n4).bind fun q5 =>
 (if (decide (q5.1 < 0)) = true then
 some (5, [])
 else
 (if 0 ≤ q5.1 then
 (l2[q5.1.toNat]?).bind fun e8 =>
 (if 0 ≤ q5.1 then
 (l2[q5.1.toNat]?).bind fun e9 =>
 (prefix_digits e8.bits e9.length).bind fun q10 =>
 (if 0 ≤ q5.1 then
 (a1[q5.1.toNat]?).bind fun e11 =>
 (prefix_digits q5.2 e11.bits).bind fun q12 =>
 (if (q10.length + q12.length) * 1 ≤ 140737488355328 then
 let t13 : List Int := q10 ++ q12;
 some (0, t13)
 else
 none)
 else
 none)
 else
 none)
 else
 none))
theorem prefix_put_eq a1 l2 n3 n4 : prefix_put a1 l2 n3 n4 = prefix_put_b @prefix_line @prefix_digits a1 l2 n3 n4 := (call_eq ..).trans (by kernel_rfl)
end
end Go.Proofs.YtgffdmgidnnedaaGreat.P
