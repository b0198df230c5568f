/- The equations of functions. Printed by wip/tool/vsym.py. -/
import Derived.Test.YtkccnhkhjncpkaaGreatG
import Derived.Test.YtkccnhkhjncpkaaGreatLib
namespace Go.Proofs.YtkccnhkhjncpkaaGreat.P
open Go Go.Proofs.YtkccnhkhjncpkaaGreat.V
set_option linter.unusedVariables false
set_option linter.unusedSimpArgs false
set_option maxRecDepth 100000
noncomputable section
noncomputable def law13_PageShapes_loop3 (s10 : List Shape) (s30 : Int × Int) : Option ((Int × Int) ⊕ (Int)) :=
 let n31 := s30.1;
 let i32 := s30.2;
 (if (decide (i32 < ((s10.length : Nat) : Int))) = true then
 let t33 := IntKind.i64.wrap (n31 + 1);
 (if 0 ≤ i32 then
 (s10[i32.toNat]?).bind fun e34 =>
 let t35 := IntKind.i64.wrap (t33 + ((e34.pix_pix.length : Nat) : Int));
 let t36 := IntKind.i64.wrap (i32 + 1);
 some (Sum.inl (t35, t36))
 else
 none)
 else
 some (Sum.inr n31))
noncomputable def law13_PageShapes_loop3_step (i37 : Nat) (x38 : Shape) (s39 : Int) : Option ((Int) ⊕ (Int)) :=
 let t33 := IntKind.i64.wrap (s39 + 1);
 let t35 := IntKind.i64.wrap (t33 + ((x38.pix_pix.length : Nat) : Int));
 some (Sum.inl (t35))
theorem law13_PageShapes_loop3_over (s10 : List Shape) (hl : s10.length ≤ 9223372036854775807) (s39 : Int) : loop (law13_PageShapes_loop3 s10) ((s39, 0) : Int × Int) =
    overL (law13_PageShapes_loop3_step) (fun (s39 : Int) => some s39) 0 s10 s39 := by
  refine loop_over s10 (fun n (s : Int) => ((s, ((n : Nat) : Int)) : Int × Int)) _ _ (fun s => ?_) (fun i x s h => ?_) 0 s39 (Nat.zero_le _)
  · unfold law13_PageShapes_loop3; simp
  · have hlt := lt_len_of_get h
    have h1 : ((i : Nat) : Int) < ((s10.length : Nat) : Int) := by omega
    have h0 : (0 : Int) ≤ ((i : Nat) : Int) := by omega
    have hw : IntKind.i64.wrap (((i : Nat) : Int) + 1) = (((i + 1 : Nat) : Nat) : Int) := w64 (by omega)
    unfold law13_PageShapes_loop3 law13_PageShapes_loop3_step
    simp only [h1, h0, hw, h, decide_true, if_true, and_self, true_and, Int.toNat_natCast, Option.bind_some, Option.map_bind, Function.comp_def, map_ite, map_elim, Option.map_some, Option.map_none]

noncomputable def law13_PageShapes_loop7 (s26 : List Item) (s41 : Int × Int) : Option ((Int × Int) ⊕ (Int)) :=
 let n42 := s41.1;
 let i43 := s41.2;
 (if (decide (i43 < ((s26.length : Nat) : Int))) = true then
 let t44 := IntKind.i64.wrap (n42 + 1);
 (if 0 ≤ i43 then
 (s26[i43.toNat]?).bind fun e45 =>
 let t46 := IntKind.i64.wrap (t44 + ((e45.pix_pix.length : Nat) : Int));
 let t47 := IntKind.i64.wrap (i43 + 1);
 some (Sum.inl (t46, t47))
 else
 none)
 else
 some (Sum.inr n42))
noncomputable def law13_PageShapes_loop7_step (i48 : Nat) (x49 : Item) (s50 : Int) : Option ((Int) ⊕ (Int)) :=
 let t44 := IntKind.i64.wrap (s50 + 1);
 let t46 := IntKind.i64.wrap (t44 + ((x49.pix_pix.length : Nat) : Int));
 some (Sum.inl (t46))
theorem law13_PageShapes_loop7_over (s26 : List Item) (hl : s26.length ≤ 9223372036854775807) (s50 : Int) : loop (law13_PageShapes_loop7 s26) ((s50, 0) : Int × Int) =
    overL (law13_PageShapes_loop7_step) (fun (s50 : Int) => some s50) 0 s26 s50 := by
  refine loop_over s26 (fun n (s : Int) => ((s, ((n : Nat) : Int)) : Int × Int)) _ _ (fun s => ?_) (fun i x s h => ?_) 0 s50 (Nat.zero_le _)
  · unfold law13_PageShapes_loop7; simp
  · have hlt := lt_len_of_get h
    have h1 : ((i : Nat) : Int) < ((s26.length : Nat) : Int) := by omega
    have h0 : (0 : Int) ≤ ((i : Nat) : Int) := by omega
    have hw : IntKind.i64.wrap (((i : Nat) : Int) + 1) = (((i + 1 : Nat) : Nat) : Int) := w64 (by omega)
    unfold law13_PageShapes_loop7 law13_PageShapes_loop7_step
    simp only [h1, h0, hw, h, decide_true, if_true, and_self, true_and, Int.toNat_natCast, Option.bind_some, Option.map_bind, Function.comp_def, map_ite, map_elim, Option.map_some, Option.map_none]

theorem law13_PageShapes_eq (s1 s2 s3 : Int) (s4 : Bool) (s5 s6 s7 : Int) (s8 : List Int) (s9 : List Bitmap) (s10 : List Shape) (s11 : List Bool) (s12 s13 s14 s15 s16 : Int) (s17 : Bool) (s18 s19 : Int) (s20 : Bool) (s21 s22 s23 : Int) (s24 : Bool) (s25 : Int) (s26 : List Item) : law13_PageShapes s1 s2 s3 s4 s5 s6 s7 s8 s9 s10 s11 s12 s13 s14 s15 s16 s17 s18 s19 s20 s21 s22 s23 s24 s25 s26 =
 (law13_many s9).bind fun q27 =>
 let t28 := IntKind.i64.wrap (q27 + ((s8.length : Nat) : Int));
 let t29 := IntKind.i64.wrap (t28 + ((s11.length : Nat) : Int));
 (loop (law13_PageShapes_loop3 s10) (t29, 0)).bind (fun n40 =>
 (loop (law13_PageShapes_loop7 s26) (n40, 0)).bind (fun n51 =>
 ((if (decide (n51 > 4000)) = true then
 some true
 else
 (if (decide (((s10.length : Nat) : Int) > 70)) = true then
 some true
 else
 (if (decide (((s9.length : Nat) : Int) > 70)) = true then
 some true
 else
 some (decide (((s26.length : Nat) : Int) > 320))))) : Option (Bool)).bind (fun v52 =>
 (if v52 = true then
 (law13_Sane).bind fun q53 =>
 some q53
 else
 (page_Dictionary s1 s2 s3 s4 s5 s6 s7 s8 s9 s10 s11).bind fun q54 =>
 let tr55 := q54.1;
 let tr56 := q54.2;
 (ref13_Dictionary s1 s2 s3 s4 s5 s6 s7 s8 s9 s10 s11).bind fun q57 =>
 let tr58 := q57.1;
 let tr59 := q57.2;
 ((if (!decide (tr56 = tr59)) = true then
 some true
 else
 (ref01_SameBytes tr55 tr58).bind fun q60 =>
 some (!q60)) : Option (Bool)).bind (fun v61 =>
 (if v61 = true then
 some false
 else
 (page_Text s12 s13 s14 s15 s16 s17 s18 s19 s20 s21 s22 s23 s24 s25 s9 s26).bind fun q62 =>
 let tr63 := q62.1;
 let tr64 := q62.2;
 (ref13_Text s12 s13 s14 s15 s16 s17 s18 s19 s20 s21 s22 s23 s24 s25 s9 s26).bind fun q65 =>
 let tr66 := q65.1;
 let tr67 := q65.2;
 (if (decide (tr64 = tr67)) = true then
 (ref01_SameBytes tr63 tr66).bind fun q68 =>
 (if q68 = true then
 (law13_Sane).bind fun q69 =>
 some q69
 else
 some false)
 else
 some false))))))) := (call_eq ..).trans (by kernel_rfl)

noncomputable def law13_many_loop3 (l1 : List Bitmap) (s2 : Int × Int) : Option ((Int × Int) ⊕ (Int)) :=
 let n3 := s2.1;
 let i4 := s2.2;
 (if (decide (i4 < ((l1.length : Nat) : Int))) = true then
 let t5 := IntKind.i64.wrap (n3 + 1);
 (if 0 ≤ i4 then
 (l1[i4.toNat]?).bind fun e6 =>
 let t7 := IntKind.i64.wrap (t5 + ((e6.pix.length : Nat) : Int));
 let t8 := IntKind.i64.wrap (i4 + 1);
 some (Sum.inl (t7, t8))
 else
 none)
 else
 some (Sum.inr n3))
noncomputable def law13_many_loop3_step (i9 : Nat) (x10 : Bitmap) (s11 : Int) : Option ((Int) ⊕ (Int)) :=
 let t5 := IntKind.i64.wrap (s11 + 1);
 let t7 := IntKind.i64.wrap (t5 + ((x10.pix.length : Nat) : Int));
 some (Sum.inl (t7))
theorem law13_many_loop3_over (l1 : List Bitmap) (hl : l1.length ≤ 9223372036854775807) (s11 : Int) : loop (law13_many_loop3 l1) ((s11, 0) : Int × Int) =
    overL (law13_many_loop3_step) (fun (s11 : Int) => some s11) 0 l1 s11 := by
  refine loop_over l1 (fun n (s : Int) => ((s, ((n : Nat) : Int)) : Int × Int)) _ _ (fun s => ?_) (fun i x s h => ?_) 0 s11 (Nat.zero_le _)
  · unfold law13_many_loop3; simp
  · have hlt := lt_len_of_get h
    have h1 : ((i : Nat) : Int) < ((l1.length : Nat) : Int) := by omega
    have h0 : (0 : Int) ≤ ((i : Nat) : Int) := by omega
    have hw : IntKind.i64.wrap (((i : Nat) : Int) + 1) = (((i + 1 : Nat) : Nat) : Int) := w64 (by omega)
    unfold law13_many_loop3 law13_many_loop3_step
    simp only [h1, h0, hw, h, decide_true, if_true, and_self, true_and, Int.toNat_natCast, Option.bind_some, Option.map_bind, Function.comp_def, map_ite, map_elim, Option.map_some, Option.map_none]

theorem law13_many_eq (l1 : List Bitmap) : law13_many l1 =
 (loop (law13_many_loop3 l1) (0, 0)).bind (fun n12 =>
 some n12) := (call_eq ..).trans (by kernel_rfl)

theorem law13_Sane_eq : law13_Sane =
 (page_Info 3 2 0 1).bind fun q1 =>
 let tr2 := q1.1;
 let tr3 := q1.2;
 (if (decide (tr3 = 0)) = true then
 (ref01_SameBytes tr2 [3, 3, 2]).bind fun q4 =>
 some q4
 else
 some false) := (call_eq ..).trans (by kernel_rfl)

theorem page_Dictionary_eq (o1 o2 o3 : Int) (o4 : Bool) (o5 o6 kept7 : Int) (kept8 : List Int) (old9 : List Bitmap) (l10 : List Shape) (export11 : List Bool) : page_Dictionary o1 o2 o3 o4 o5 o6 kept7 kept8 old9 l10 export11 =
 (symbol_Encode o1 o2 o3 o4 o5 o6 kept7 kept8 old9 l10 export11).bind fun q12 =>
 let tr13 := q12.1;
 let tr14 := q12.2.1;
 let tr15 := q12.2.2.1;
 let tr16 := q12.2.2.2;
 let t17 := IntKind.i64.wrap (4 * o5);
 let t18 := IntKind.i64.wrap (o1 + t17);
 let t19 := IntKind.i64.wrap (8 * o6);
 let t20 := IntKind.i64.wrap (t18 + t19);
 (page_flag (decide (((kept8.length : Nat) : Int) > 0)) 16).bind fun q21 =>
 let t22 := IntKind.i64.wrap (t20 + q21);
 (if 0 ≤ (0 : Int) ∧ (0 : Int) < ((2 : Nat) : Int) then
 let t23 := IntKind.i64.wrap (o2 + 8);
 (if 0 ≤ (1 : Int) ∧ (1 : Int) < ((2 : Nat) : Int) then
 let t24 := IntKind.i64.wrap (0 - o3);
 (page_writer_byte [t22, t23, t24] []).bind fun q25 =>
 (page_writer_size [((l10.length : Nat) : Int)] q25).bind fun q26 =>
 (page_writer_with tr13 tr16 q26).bind fun q27 =>
 let tr28 := q27.1;
 let tr29 := q27.2;
 some (tr28, tr29)
 else
 none)
 else
 none) := (call_eq ..).trans (by kernel_rfl)

theorem ref13_Dictionary_eq (o1 o2 o3 : Int) (o4 : Bool) (o5 o6 kept7 : Int) (kept8 : List Int) (old9 : List Bitmap) (l10 : List Shape) (export11 : List Bool) : ref13_Dictionary o1 o2 o3 o4 o5 o6 kept7 kept8 old9 l10 export11 =
 (ref09_Encode o1 o2 o3 o4 o5 o6 kept7 kept8 old9 l10 export11).bind fun q12 =>
 let tr13 := q12.1;
 let tr14 := q12.2.1;
 let tr15 := q12.2.2.1;
 let tr16 := q12.2.2.2;
 (if (!decide (tr16 = 0)) = true then
 some ([], tr16)
 else
 let t17 := IntKind.i64.wrap (4 * o5);
 let t18 := IntKind.i64.wrap (o1 + t17);
 let t19 := IntKind.i64.wrap (8 * o6);
 let t20 := IntKind.i64.wrap (t18 + t19);
 (ref13_bit (decide (((kept8.length : Nat) : Int) > 0))).bind fun q21 =>
 let t22 := IntKind.i64.wrap (16 * q21);
 let t23 := IntKind.i64.wrap (t20 + t22);
 let t24 := IntKind.u8.wrap t23;
 (ref13_adaptive o1 o2 o3 o4 o5).bind fun q25 =>
 (ref13_size ((l10.length : Nat) : Int)).bind fun q26 =>
 (ref13_join [[t24], q25, q26, tr13]).bind fun q27 =>
 some (q27, 0)) := (call_eq ..).trans (by kernel_rfl)

theorem ref01_SameBytes_eq (a1 b2 : List Int) : ref01_SameBytes a1 b2 =
 some (decide (a1 = b2)) := (call_eq ..).trans (by kernel_rfl)

theorem page_Text_eq (g1 g2 g3 g4 g5 : Int) (g6 : Bool) (o7 o8 : Int) (o9 : Bool) (o10 o11 o12 : Int) (o13 : Bool) (o14 : Int) (symbols15 : List Bitmap) (l16 : List Item) : page_Text g1 g2 g3 g4 g5 g6 o7 o8 o9 o10 o11 o12 o13 o14 symbols15 l16 =
 ((page_rightBegin g1 g2 g3 g4 g5 g6).bind fun q17 =>
 (if (!q17) = true then
 some true
 else
 some (!decide (o11 = 1))) : Option (Bool)).bind (fun v18 =>
 (if v18 = true then
 some ([], 2)
 else
 (bitmap_New g1 g2 0).bind fun q19 =>
 let tr20 := q19.1;
 let tr21 := q19.2.1;
 let tr22 := q19.2.2.1;
 let tr23 := q19.2.2.2;
 (if (!decide (tr22 = 0)) = true then
 some ([], 2)
 else
 (text_Encode o7 o8 o9 o10 o11 o12 o13 o14 symbols15 l16).bind fun q24 =>
 let tr25 := q24.1;
 let tr26 := q24.2;
 (page_writer_begin g1 g2 g3 g4 g5 g6 []).bind fun q27 =>
 let t28 := IntKind.u64.wrap o7;
 (math_bits_Len t28).bind fun q29 =>
 let t30 := IntKind.i64.wrap (q29 - 1);
 let t31 := IntKind.i64.wrap (4 * o8);
 let t32 := IntKind.i64.wrap (t30 + t31);
 (page_flag o9 16).bind fun q33 =>
 let t34 := IntKind.i64.wrap (t32 + q33);
 let t35 := IntKind.i64.wrap (32 * o12);
 let t36 := IntKind.i64.wrap (t34 + t35);
 (page_flag o13 64).bind fun q37 =>
 let t38 := IntKind.i64.wrap (t36 + q37);
 let t39 := IntKind.i64.wrap (128 * o14);
 let t40 := IntKind.i64.wrap (t38 + t39);
 (page_writer_byte [t40] q27).bind fun q41 =>
 (page_writer_signed [o10] q41).bind fun q42 =>
 (page_writer_size [((l16.length : Nat) : Int)] q42).bind fun q43 =>
 (page_writer_with tr25 tr26 q43).bind fun q44 =>
 let tr45 := q44.1;
 let tr46 := q44.2;
 some (tr45, tr46)))) := (call_eq ..).trans (by kernel_rfl)

theorem ref13_Text_eq (g1 g2 g3 g4 g5 : Int) (g6 : Bool) (o7 o8 : Int) (o9 : Bool) (o10 o11 o12 : Int) (o13 : Bool) (o14 : Int) (symbols15 : List Bitmap) (l16 : List Item) : ref13_Text g1 g2 g3 g4 g5 g6 o7 o8 o9 o10 o11 o12 o13 o14 symbols15 l16 =
 ((ref13_isBegin g1 g2 g3 g4 g5 g6).bind fun q17 =>
 (if (!q17) = true then
 some true
 else
 some (!decide (o11 = 1))) : Option (Bool)).bind (fun v18 =>
 (if v18 = true then
 some ([], 2)
 else
 (ref10_Encode o7 o8 o9 o10 o11 o12 o13 o14 symbols15 l16).bind fun q19 =>
 let tr20 := q19.1;
 let tr21 := q19.2;
 (if (!decide (tr21 = 0)) = true then
 some ([], tr21)
 else
 (ref13_log2 o7).bind fun q22 =>
 let t23 := IntKind.i64.wrap (4 * o8);
 let t24 := IntKind.i64.wrap (q22 + t23);
 (ref13_bit o9).bind fun q25 =>
 let t26 := IntKind.i64.wrap (16 * q25);
 let t27 := IntKind.i64.wrap (t24 + t26);
 let t28 := IntKind.i64.wrap (32 * o12);
 let t29 := IntKind.i64.wrap (t27 + t28);
 (ref13_bit o13).bind fun q30 =>
 let t31 := IntKind.i64.wrap (64 * q30);
 let t32 := IntKind.i64.wrap (t29 + t31);
 let t33 := IntKind.i64.wrap (128 * o14);
 let t34 := IntKind.i64.wrap (t32 + t33);
 (ref13_begin g1 g2 g3 g4 g5 g6).bind fun q35 =>
 let t36 := IntKind.u8.wrap t34;
 (ref13_signed o10).bind fun q37 =>
 (ref13_size ((l16.length : Nat) : Int)).bind fun q38 =>
 (ref13_join [q35, [t36], q37, q38, tr20]).bind fun q39 =>
 some (q39, 0)))) := (call_eq ..).trans (by kernel_rfl)

theorem page_Info_eq (w1 h2 pixel3 op4 : Int) : page_Info w1 h2 pixel3 op4 =
 let t5 := imax h2 0;
 (bitmap_New w1 t5 0).bind fun q6 =>
 let tr7 := q6.1;
 let tr8 := q6.2.1;
 let tr9 := q6.2.2.1;
 let tr10 := q6.2.2.2;
 ((if (!decide (tr9 = 0)) = true then
 some true
 else
 (if (decide (h2 < (-1))) = true then
 some true
 else
 (if (decide (pixel3 < 0)) = true then
 some true
 else
 (if (decide (pixel3 > 1)) = true then
 some true
 else
 (if (decide (op4 < 0)) = true then
 some true
 else
 some (decide (op4 > 4))))))) : Option (Bool)).bind (fun v11 =>
 (if v11 = true then
 some ([], 2)
 else
 let t12 := IntKind.i64.wrap (h2 + 1);
 (page_writer_size [w1, t12] []).bind fun q13 =>
 let t14 := IntKind.i64.wrap (2 * op4);
 let t15 := IntKind.i64.wrap (pixel3 + t14);
 (page_writer_byte [t15] q13).bind fun q16 =>
 some (q16, 0))) := (call_eq ..).trans (by kernel_rfl)

theorem symbol_Encode_eq (o1 o2 o3 : Int) (o4 : Bool) (o5 o6 kept7 : Int) (kept8 : List Int) (old9 : List Bitmap) (l10 : List Shape) (export11 : List Bool) : symbol_Encode o1 o2 o3 o4 o5 o6 kept7 kept8 old9 l10 export11 =
 (symbol_begun o1 o2 o3 o4 o5 o6 kept7 kept8 old9).bind fun q12 =>
 ((if (decide (q12 = 0)) = true then
 (symbol_rightShapes old9 l10).bind fun q13 =>
 some q13
 else
 some q12) : Option (Int)).bind (fun err14 =>
 ((if (decide (err14 = 0)) = true then
 let t15 := IntKind.i64.wrap (((old9.length : Nat) : Int) + ((l10.length : Nat) : Int));
 some (!decide (((export11.length : Nat) : Int) = t15))
 else
 some false) : Option (Bool)).bind (fun v16 =>
 ((if v16 = true then
 some 2
 else
 some err14) : Option (Int)).bind (fun err17 =>
 (if (!decide (err17 = 0)) = true then
 some ([], 0, [], err17)
 else
 (symbol_lay o1 o2 o3 o4 o5 o6 ((export11.length : Nat) : Int)).bind fun q18 =>
 let tr19 := q18.1;
 let tr20 := q18.2.1;
 let tr21 := q18.2.2.1;
 let tr22 := q18.2.2.2.1;
 let tr23 := q18.2.2.2.2.1;
 let tr24 := q18.2.2.2.2.2.1;
 let tr25 := q18.2.2.2.2.2.2.1;
 let tr26 := q18.2.2.2.2.2.2.2.1;
 let tr27 := q18.2.2.2.2.2.2.2.2.1;
 let tr28 := q18.2.2.2.2.2.2.2.2.2;
 ((symbol_layout_model tr19 tr20 tr21 tr22 tr23 tr24 tr25 tr26 tr27 tr28 kept7 kept8).bind fun q29 =>
 let tr30 := q29.1;
 let tr31 := q29.2;
 (coder_NewEncoder tr30 tr31).bind fun o39 =>
 (Sum.elim (fun (q32 : Int × Int × Int × (List Int) × (List Int)) =>
 let tr33 := q32.1;
 let tr34 := q32.2.1;
 let tr35 := q32.2.2.1;
 let tr36 := q32.2.2.2.1;
 let tr37 := q32.2.2.2.2;
 some (tr33, tr34, tr35, tr36, tr37))
 (fun (q38 : Unit) =>
 none) o39) : Option (Int × Int × Int × (List Int) × (List Int))).bind (fun p40 =>
 let b41 := p40.1;
 let b42 := p40.2.1;
 let b43 := p40.2.2.1;
 let b44 := p40.2.2.2.1;
 let b45 := p40.2.2.2.2;
 (slices_Clone_api_Bitmap_api_Bitmap old9).bind fun q46 =>
 (symbol_writer_shapes l10 tr19 tr20 tr21 tr22 tr23 tr24 tr25 tr26 tr27 tr28 b41 b42 b43 b44 b45 q46).bind fun q47 =>
 let tr48 := q47.1;
 let tr49 := q47.2.1;
 let tr50 := q47.2.2.1;
 let tr51 := q47.2.2.2.1;
 let tr52 := q47.2.2.2.2.1;
 let tr53 := q47.2.2.2.2.2.1;
 let tr54 := q47.2.2.2.2.2.2.1;
 let tr55 := q47.2.2.2.2.2.2.2.1;
 let tr56 := q47.2.2.2.2.2.2.2.2.1;
 let tr57 := q47.2.2.2.2.2.2.2.2.2.1;
 let tr58 := q47.2.2.2.2.2.2.2.2.2.2.1;
 let tr59 := q47.2.2.2.2.2.2.2.2.2.2.2.1;
 let tr60 := q47.2.2.2.2.2.2.2.2.2.2.2.2.1;
 let tr61 := q47.2.2.2.2.2.2.2.2.2.2.2.2.2.1;
 let tr62 := q47.2.2.2.2.2.2.2.2.2.2.2.2.2.2.1;
 let tr63 := q47.2.2.2.2.2.2.2.2.2.2.2.2.2.2.2;
 (symbol_writer_flags export11 tr48 tr49 tr50 tr51 tr52 tr53 tr54 tr55 tr56 tr57 tr58 tr59 tr60 tr61 tr62 tr63).bind fun q64 =>
 let tr65 := q64.1;
 let tr66 := q64.2.1;
 let tr67 := q64.2.2.1;
 let tr68 := q64.2.2.2.1;
 let tr69 := q64.2.2.2.2.1;
 let tr70 := q64.2.2.2.2.2.1;
 let tr71 := q64.2.2.2.2.2.2.1;
 let tr72 := q64.2.2.2.2.2.2.2.1;
 let tr73 := q64.2.2.2.2.2.2.2.2.1;
 let tr74 := q64.2.2.2.2.2.2.2.2.2.1;
 let tr75 := q64.2.2.2.2.2.2.2.2.2.2.1;
 let tr76 := q64.2.2.2.2.2.2.2.2.2.2.2.1;
 let tr77 := q64.2.2.2.2.2.2.2.2.2.2.2.2.1;
 let tr78 := q64.2.2.2.2.2.2.2.2.2.2.2.2.2.1;
 let tr79 := q64.2.2.2.2.2.2.2.2.2.2.2.2.2.2.1;
 let tr80 := q64.2.2.2.2.2.2.2.2.2.2.2.2.2.2.2;
 (coder_Encoder_End tr75 tr76 tr77 tr78 tr79).bind fun q81 =>
 let tr82 := q81.1;
 let tr83 := q81.2.1;
 let tr84 := q81.2.2.1;
 let tr85 := q81.2.2.2.1;
 let tr86 := q81.2.2.2.2.1;
 let tr87 := q81.2.2.2.2.2;
 (coder_Encoder_Model tr83 tr84 tr85 tr86 tr87).bind fun q88 =>
 let tr89 := q88.1;
 let tr90 := q88.2.1;
 let tr91 := q88.2.2.1;
 let tr92 := q88.2.2.2.1;
 let tr93 := q88.2.2.2.2.1;
 let tr94 := q88.2.2.2.2.2.1;
 let tr95 := q88.2.2.2.2.2.2;
 (symbol_layout_after tr19 tr20 tr21 tr22 tr23 tr24 tr25 tr26 tr27 tr28 tr89 tr90).bind fun q96 =>
 let tr97 := q96.1;
 let tr98 := q96.2;
 some (tr82, tr97, tr98, 0)))))) := (call_eq ..).trans (by kernel_rfl)

theorem page_flag_eq (is1 : Bool) (n2 : Int) : page_flag is1 n2 =
 (if is1 = true then
 some n2
 else
 some 0) := (call_eq ..).trans (by kernel_rfl)

noncomputable def page_writer_byte_loop1 (l1 : List Int) (s3 : Int × (List Int)) : Option ((Int × (List Int)) ⊕ ((List Int))) :=
 let v4 := s3.1;
 let b5 := s3.2;
 (if (decide (v4 < ((l1.length : Nat) : Int))) = true then
 (if 0 ≤ v4 ∧ v4 < (l1.length : Int) then
 let t6 := IntKind.u8.wrap (rd l1 v4);
 (if (b5.length + ([t6] : List Int).length) * 1 ≤ 140737488355328 then
 let t7 : List Int := b5 ++ [t6];
 let t8 := IntKind.i64.wrap (v4 + 1);
 some (Sum.inl (t8, t7))
 else
 none)
 else
 none)
 else
 some (Sum.inr b5))

theorem page_writer_byte_eq (l1 b2 : List Int) : page_writer_byte l1 b2 =
 (loop (page_writer_byte_loop1 l1) (0, b2)).bind (fun b12 =>
 some b12) := (call_eq ..).trans (by kernel_rfl)

noncomputable def page_writer_size_loop1 (l1 : List Int) (s3 : Int × (List Int)) : Option ((Int × (List Int)) ⊕ ((List Int))) :=
 let v4 := s3.1;
 let b5 := s3.2;
 (if (decide (v4 < ((l1.length : Nat) : Int))) = true then
 (if 0 ≤ v4 ∧ v4 < (l1.length : Int) then
 (bits_Size (rd l1 v4)).bind fun q6 =>
 let tr7 := q6.1;
 let tr8 := q6.2;
 (if (b5.length + tr7.length) * 1 ≤ 140737488355328 then
 let t9 : List Int := b5 ++ tr7;
 let t10 := IntKind.i64.wrap (v4 + 1);
 some (Sum.inl (t10, t9))
 else
 none)
 else
 none)
 else
 some (Sum.inr b5))

theorem page_writer_size_eq (l1 b2 : List Int) : page_writer_size l1 b2 =
 (loop (page_writer_size_loop1 l1) (0, b2)).bind (fun b14 =>
 some b14) := (call_eq ..).trans (by kernel_rfl)

theorem page_writer_with_eq (code1 : List Int) (err2 : Int) (b3 : List Int) : page_writer_with code1 err2 b3 =
 (if (!decide (err2 = 0)) = true then
 some ([], err2)
 else
 (if (b3.length + code1.length) * 1 ≤ 140737488355328 then
 let t4 : List Int := b3 ++ code1;
 some (t4, 0)
 else
 none)) := (call_eq ..).trans (by kernel_rfl)

noncomputable def ref09_Encode_loop12 (o1 o2 o3 : Int) (o4 : Bool) (o5 o6 : Int) (l10 : List Shape) (tr19 tr21 : Int) (q37 : (List Bitmap)) (s38 : Int × Int × Int × Int × Int × Int × (List Int) × (List Int)) : Option ((Int × Int × Int × Int × Int × Int × (List Int) × (List Int)) ⊕ (Int × Int × Int × (List Int) × (List Int))) :=
 let h39 := s38.1;
 let w40 := s38.2.1;
 let i41 := s38.2.2.1;
 let b42 := s38.2.2.2.1;
 let b43 := s38.2.2.2.2.1;
 let b44 := s38.2.2.2.2.2.1;
 let b45 := s38.2.2.2.2.2.2.1;
 let b46 := s38.2.2.2.2.2.2.2;
 (if (decide (i41 < ((l10.length : Nat) : Int))) = true then
 (if 0 ≤ i41 then
 (l10[i41.toNat]?).bind fun e47 =>
 ((if (decide (i41 = 0)) = true then
 some true
 else
 some (!decide (e47.pix_h = h39))) : Option (Bool)).bind (fun v48 =>
 ((if v48 = true then
 ((if (decide (i41 > 0)) = true then
 (ref03_Put 48 true 0 b42 b43 b44 b45 b46).bind fun q49 =>
 let tr50 := q49.1;
 let tr51 := q49.2.1;
 let tr52 := q49.2.2.1;
 let tr53 := q49.2.2.2.1;
 let tr54 := q49.2.2.2.2.1;
 let tr55 := q49.2.2.2.2.2;
 some (tr51, tr52, tr53, tr54, tr55)
 else
 some (b42, b43, b44, b45, b46)) : Option (Int × Int × Int × (List Int) × (List Int))).bind (fun p56 =>
 let b57 := p56.1;
 let b58 := p56.2.1;
 let b59 := p56.2.2.1;
 let b60 := p56.2.2.2.1;
 let b61 := p56.2.2.2.2;
 let t62 := IntKind.i64.wrap (e47.pix_h - h39);
 (ref09_num t62).bind fun q63 =>
 let tr64 := q63.1;
 let tr65 := q63.2;
 (ref03_Put 0 tr64 tr65 b57 b58 b59 b60 b61).bind fun q66 =>
 let tr67 := q66.1;
 let tr68 := q66.2.1;
 let tr69 := q66.2.2.1;
 let tr70 := q66.2.2.2.1;
 let tr71 := q66.2.2.2.2.1;
 let tr72 := q66.2.2.2.2.2;
 some (e47.pix_h, 0, tr68, tr69, tr70, tr71, tr72))
 else
 some (h39, w40, b42, b43, b44, b45, b46)) : Option (Int × Int × Int × Int × Int × (List Int) × (List Int))).bind (fun p73 =>
 let h74 := p73.1;
 let w75 := p73.2.1;
 let b76 := p73.2.2.1;
 let b77 := p73.2.2.2.1;
 let b78 := p73.2.2.2.2.1;
 let b79 := p73.2.2.2.2.2.1;
 let b80 := p73.2.2.2.2.2.2;
 let t81 := IntKind.i64.wrap (e47.pix_w - w75);
 (ref09_num t81).bind fun q82 =>
 let tr83 := q82.1;
 let tr84 := q82.2;
 (ref03_Put 48 tr83 tr84 b76 b77 b78 b79 b80).bind fun q85 =>
 let tr86 := q85.1;
 let tr87 := q85.2.1;
 let tr88 := q85.2.2.1;
 let tr89 := q85.2.2.2.1;
 let tr90 := q85.2.2.2.2.1;
 let tr91 := q85.2.2.2.2.2;
 (if 0 ≤ i41 then
 (l10[i41.toNat]?).bind fun e92 =>
 (if (decide (e92.from_ < 0)) = true then
 (ref02_Encoder_Put 240 0 tr87 tr88 tr89 tr90 tr91).bind fun q93 =>
 let tr94 := q93.1;
 let tr95 := q93.2.1;
 let tr96 := q93.2.2.1;
 let tr97 := q93.2.2.2.1;
 let tr98 := q93.2.2.2.2.1;
 let tr99 := q93.2.2.2.2.2;
 (ref07_Put tr19 o1 o2 o3 o4 o5 e47.pix_w e47.pix_h e47.pix_pix 0 0 [] tr95 tr96 tr97 tr98 tr99).bind fun q100 =>
 let tr101 := q100.1;
 let tr102 := q100.2.1;
 let tr103 := q100.2.2.1;
 let tr104 := q100.2.2.2.1;
 let tr105 := q100.2.2.2.2.1;
 let tr106 := q100.2.2.2.2.2;
 let t107 := IntKind.i64.wrap (i41 + 1);
 some (Sum.inl (h74, e47.pix_w, t107, tr102, tr103, tr104, tr105, tr106))
 else
 (ref02_Encoder_Put 240 1 tr87 tr88 tr89 tr90 tr91).bind fun q108 =>
 let tr109 := q108.1;
 let tr110 := q108.2.1;
 let tr111 := q108.2.2.1;
 let tr112 := q108.2.2.2.1;
 let tr113 := q108.2.2.2.2.1;
 let tr114 := q108.2.2.2.2.2;
 (ref03_Width ((q37.length : Nat) : Int)).bind fun q115 =>
 (if 0 ≤ i41 then
 (l10[i41.toNat]?).bind fun e116 =>
 (ref03_PutId 241 q115 e116.from_ tr110 tr111 tr112 tr113 tr114).bind fun q117 =>
 let tr118 := q117.1;
 let tr119 := q117.2.1;
 let tr120 := q117.2.2.1;
 let tr121 := q117.2.2.2.1;
 let tr122 := q117.2.2.2.2.1;
 let tr123 := q117.2.2.2.2.2;
 (ref09_num 0).bind fun q124 =>
 let tr125 := q124.1;
 let tr126 := q124.2;
 (ref03_Put 96 tr125 tr126 tr119 tr120 tr121 tr122 tr123).bind fun q127 =>
 let tr128 := q127.1;
 let tr129 := q127.2.1;
 let tr130 := q127.2.2.1;
 let tr131 := q127.2.2.2.1;
 let tr132 := q127.2.2.2.2.1;
 let tr133 := q127.2.2.2.2.2;
 (ref09_num 0).bind fun q134 =>
 let tr135 := q134.1;
 let tr136 := q134.2;
 (ref03_Put 144 tr135 tr136 tr129 tr130 tr131 tr132 tr133).bind fun q137 =>
 let tr138 := q137.1;
 let tr139 := q137.2.1;
 let tr140 := q137.2.2.1;
 let tr141 := q137.2.2.2.1;
 let tr142 := q137.2.2.2.2.1;
 let tr143 := q137.2.2.2.2.2;
 let t144 := IntKind.i64.wrap (tr19 + tr21);
 (ref09_refined o1 o2 o3 o4 o5 o6 0 0).bind fun q145 =>
 let tr146 := q145.1;
 let tr147 := q145.2.1;
 let tr148 := q145.2.2.1;
 let tr149 := q145.2.2.2.1;
 let tr150 := q145.2.2.2.2;
 (if 0 ≤ i41 then
 (l10[i41.toNat]?).bind fun e151 =>
 (if 0 ≤ e151.from_ then
 (q37[e151.from_.toNat]?).bind fun e152 =>
 (ref08_Put t144 tr146 tr147 tr148 tr149 tr150 e47.pix_w e47.pix_h e47.pix_pix e152.w e152.h e152.pix tr139 tr140 tr141 tr142 tr143).bind fun q153 =>
 let tr154 := q153.1;
 let tr155 := q153.2.1;
 let tr156 := q153.2.2.1;
 let tr157 := q153.2.2.2.1;
 let tr158 := q153.2.2.2.2.1;
 let tr159 := q153.2.2.2.2.2;
 let t160 := IntKind.i64.wrap (i41 + 1);
 some (Sum.inl (h74, e47.pix_w, t160, tr155, tr156, tr157, tr158, tr159))
 else
 none)
 else
 none)
 else
 none))
 else
 none)))
 else
 none)
 else
 some (Sum.inr (b42, b43, b44, b45, b46)))

noncomputable def ref09_Encode_loop36 (export11 : List Bool) (now191 : Bool) (s198 : Int × Int) : Option ((Int × Int) ⊕ (Int × Int)) :=
 let i199 := s198.1;
 let n200 := s198.2;
 ((if (decide (i199 < ((export11.length : Nat) : Int))) = true then
 (if 0 ≤ i199 then
 (export11[i199.toNat]?).bind fun e201 =>
 some (decide (e201 = now191))
 else
 none)
 else
 some false) : Option (Bool)).bind (fun v202 =>
 (if v202 = true then
 let t203 := IntKind.i64.wrap (n200 + 1);
 let t204 := IntKind.i64.wrap (i199 + 1);
 some (Sum.inl (t204, t203))
 else
 some (Sum.inr (i199, n200))))
noncomputable def ref09_Encode_loop34 (export11 : List Bool) (s190 : Bool × Int × Int × Int × Int × (List Int) × (List Int)) : Option ((Bool × Int × Int × Int × Int × (List Int) × (List Int)) ⊕ (Int × Int × Int × (List Int) × (List Int))) :=
 let now191 := s190.1;
 let i192 := s190.2.1;
 let b193 := s190.2.2.1;
 let b194 := s190.2.2.2.1;
 let b195 := s190.2.2.2.2.1;
 let b196 := s190.2.2.2.2.2.1;
 let b197 := s190.2.2.2.2.2.2;
 (if (decide (i192 < ((export11.length : Nat) : Int))) = true then
 (loop (ref09_Encode_loop36 export11 now191) (i192, 0)).bind (fun p205 =>
 let i206 := p205.1;
 let n207 := p205.2;
 (ref09_num n207).bind fun q208 =>
 let tr209 := q208.1;
 let tr210 := q208.2;
 (ref03_Put 192 tr209 tr210 b193 b194 b195 b196 b197).bind fun q211 =>
 let tr212 := q211.1;
 let tr213 := q211.2.1;
 let tr214 := q211.2.2.1;
 let tr215 := q211.2.2.2.1;
 let tr216 := q211.2.2.2.2.1;
 let tr217 := q211.2.2.2.2.2;
 some (Sum.inl (!now191, i206, tr213, tr214, tr215, tr216, tr217)))
 else
 some (Sum.inr (b193, b194, b195, b196, b197)))
theorem ref09_Encode_eq (o1 o2 o3 : Int) (o4 : Bool) (o5 o6 kept7 : Int) (kept8 : List Int) (old9 : List Bitmap) (l10 : List Shape) (export11 : List Bool) : ref09_Encode o1 o2 o3 o4 o5 o6 kept7 kept8 old9 l10 export11 =
 (ref09_given o1 o2 o3 o4 o5 o6 kept7 kept8 old9).bind fun q12 =>
 ((if (decide (q12 = 0)) = true then
 (ref09_shapes old9 l10 export11).bind fun q13 =>
 some q13
 else
 some q12) : Option (Int)).bind (fun e14 =>
 (if (!decide (e14 = 0)) = true then
 some ([], 0, [], e14)
 else
 let t15 := IntKind.i64.wrap (((old9.length : Nat) : Int) + ((l10.length : Nat) : Int));
 (ref09_whole o1 o2 o3 o4 o5 o6 kept7 kept8 t15).bind fun q16 =>
 let tr17 := q16.1;
 let tr18 := q16.2.1;
 let tr19 := q16.2.2;
 (ref09_sizes o1 o2 o3 o4 o5 o6).bind fun q20 =>
 let tr21 := q20.1;
 let tr22 := q20.2;
 ((ref02_NewEncoder tr17 tr18).bind fun o30 =>
 (Sum.elim (fun (q23 : Int × Int × Int × (List Int) × (List Int)) =>
 let tr24 := q23.1;
 let tr25 := q23.2.1;
 let tr26 := q23.2.2.1;
 let tr27 := q23.2.2.2.1;
 let tr28 := q23.2.2.2.2;
 some (tr24, tr25, tr26, tr27, tr28))
 (fun (q29 : Unit) =>
 none) o30) : Option (Int × Int × Int × (List Int) × (List Int))).bind (fun p31 =>
 let b32 := p31.1;
 let b33 := p31.2.1;
 let b34 := p31.2.2.1;
 let b35 := p31.2.2.2.1;
 let b36 := p31.2.2.2.2;
 (ref09_all old9 l10).bind fun q37 =>
 (loop (ref09_Encode_loop12 o1 o2 o3 o4 o5 o6 l10 tr19 tr21 q37) (0, 0, 0, b32, b33, b34, b35, b36)).bind (fun p171 =>
 let b172 := p171.1;
 let b173 := p171.2.1;
 let b174 := p171.2.2.1;
 let b175 := p171.2.2.2.1;
 let b176 := p171.2.2.2.2;
 ((if (decide (((l10.length : Nat) : Int) > 0)) = true then
 (ref03_Put 48 true 0 b172 b173 b174 b175 b176).bind fun q177 =>
 let tr178 := q177.1;
 let tr179 := q177.2.1;
 let tr180 := q177.2.2.1;
 let tr181 := q177.2.2.2.1;
 let tr182 := q177.2.2.2.2.1;
 let tr183 := q177.2.2.2.2.2;
 some (tr179, tr180, tr181, tr182, tr183)
 else
 some (b172, b173, b174, b175, b176)) : Option (Int × Int × Int × (List Int) × (List Int))).bind (fun p184 =>
 let b185 := p184.1;
 let b186 := p184.2.1;
 let b187 := p184.2.2.1;
 let b188 := p184.2.2.2.1;
 let b189 := p184.2.2.2.2;
 (loop (ref09_Encode_loop34 export11) (false, 0, b185, b186, b187, b188, b189)).bind (fun p218 =>
 let b219 := p218.1;
 let b220 := p218.2.1;
 let b221 := p218.2.2.1;
 let b222 := p218.2.2.2.1;
 let b223 := p218.2.2.2.2;
 (ref02_Encoder_End b219 b220 b221 b222 b223).bind fun q224 =>
 let tr225 := q224.1;
 let tr226 := q224.2.1;
 let tr227 := q224.2.2.1;
 let tr228 := q224.2.2.2.1;
 let tr229 := q224.2.2.2.2.1;
 let tr230 := q224.2.2.2.2.2;
 (ref02_Encoder_Model tr226 tr227 tr228 tr229 tr230).bind fun q231 =>
 let tr232 := q231.1;
 let tr233 := q231.2.1;
 let tr234 := q231.2.2.1;
 let tr235 := q231.2.2.2.1;
 let tr236 := q231.2.2.2.2.1;
 let tr237 := q231.2.2.2.2.2.1;
 let tr238 := q231.2.2.2.2.2.2;
 (ref09_tail tr232 tr233 tr19).bind fun q239 =>
 let tr240 := q239.1;
 let tr241 := q239.2;
 some (tr225, tr240, tr241, 0))))))) := (call_eq ..).trans (by kernel_rfl)

theorem ref13_bit_eq (is1 : Bool) : ref13_bit is1 =
 (if is1 = true then
 some 1
 else
 some 0) := (call_eq ..).trans (by kernel_rfl)

theorem ref13_adaptive_eq (o1 o2 o3 : Int) (o4 : Bool) (o5 : Int) : ref13_adaptive o1 o2 o3 o4 o5 =
 (if 0 ≤ (0 : Int) ∧ (0 : Int) < ((2 : Nat) : Int) then
 let t6 := IntKind.i64.wrap (o2 + 8);
 let t7 := IntKind.u8.wrap t6;
 (if 0 ≤ (1 : Int) ∧ (1 : Int) < ((2 : Nat) : Int) then
 let t8 := IntKind.i64.wrap (0 - o3);
 let t9 := IntKind.u8.wrap t8;
 some [t7, t9]
 else
 none)
 else
 none) := (call_eq ..).trans (by kernel_rfl)

theorem ref13_size_eq (n1 : Int) : ref13_size n1 =
 (ref01_Size n1).bind fun q2 =>
 let tr3 := q2.1;
 let tr4 := q2.2;
 some tr3 := (call_eq ..).trans (by kernel_rfl)

noncomputable def ref13_join_loop3 (l1 : List (List Int)) (s2 : Int × (List Int)) : Option ((Int × (List Int)) ⊕ ((List Int))) :=
 let i3 := s2.1;
 let out4 := s2.2;
 (if (decide (i3 < ((l1.length : Nat) : Int))) = true then
 (if 0 ≤ i3 then
 (l1[i3.toNat]?).bind fun e5 =>
 (if (out4.length + e5.length) * 1 ≤ 140737488355328 then
 let t6 : List Int := out4 ++ e5;
 let t7 := IntKind.i64.wrap (i3 + 1);
 some (Sum.inl (t7, t6))
 else
 none)
 else
 none)
 else
 some (Sum.inr out4))

theorem ref13_join_eq (l1 : List (List Int)) : ref13_join l1 =
 (loop (ref13_join_loop3 l1) (0, [])).bind (fun out11 =>
 some out11) := (call_eq ..).trans (by kernel_rfl)

theorem page_rightBegin_eq (g1 g2 g3 g4 g5 : Int) (g6 : Bool) : page_rightBegin g1 g2 g3 g4 g5 g6 =
 (bitmap_New g1 g2 0).bind fun q7 =>
 let tr8 := q7.1;
 let tr9 := q7.2.1;
 let tr10 := q7.2.2.1;
 let tr11 := q7.2.2.2;
 (if (decide (tr10 = 0)) = true then
 (page_near g3).bind fun q12 =>
 (if q12 = true then
 (page_near g4).bind fun q13 =>
 (if q13 = true then
 (if (decide (g5 ≥ 0)) = true then
 some (decide (g5 ≤ 4))
 else
 some false)
 else
 some false)
 else
 some false)
 else
 some false) := (call_eq ..).trans (by kernel_rfl)

noncomputable def bitmap_New_loop5 (pixel3 : Int) (tr9 : List Int) (s10 : Int × (List Int)) : Option ((Int × (List Int)) ⊕ ((List Int))) :=
 let v11 := s10.1;
 let b12 := s10.2;
 (if (decide (v11 < ((tr9.length : Nat) : Int))) = true then
 let t13 := IntKind.u8.wrap pixel3;
 (if 0 ≤ v11 ∧ v11 < (b12.length : Int) then
 let w14 : List Int := b12.set v11.toNat t13;
 let t15 := IntKind.i64.wrap (v11 + 1);
 some (Sum.inl (t15, w14))
 else
 none)
 else
 some (Sum.inr b12))

theorem bitmap_New_eq (w1 h2 pixel3 : Int) : bitmap_New w1 h2 pixel3 =
 ((if (decide (w1 < 0)) = true then
 some true
 else
 (if (decide (h2 < 0)) = true then
 some true
 else
 (if (!decide (pixel3 = 0)) = true then
 some (!decide (pixel3 = 1))
 else
 some false))) : Option (Bool)).bind (fun v4 =>
 (if v4 = true then
 some (0, 0, 2, [])
 else
 (bitmap_blank w1 h2).bind fun q5 =>
 let tr6 := q5.1;
 let tr7 := q5.2.1;
 let tr8 := q5.2.2.1;
 let tr9 := q5.2.2.2;
 (loop (bitmap_New_loop5 pixel3 tr9) (0, tr9)).bind (fun b19 =>
 some (tr6, tr7, tr8, b19)))) := (call_eq ..).trans (by kernel_rfl)

noncomputable def text_Encode_loop19 (tr14 tr15 : Int) (tr16 : Bool) (tr17 tr18 tr19 : Int) (tr20 : Bool) (tr21 q76 : Int) (s117 : (List Item) × Int × Int × Int × Int × Int × (List Int) × (List Int) × Int × Int × Bool × Int × Int × Int × Bool × Int × Int × Int × Int × (List Bitmap)) : Option (((List Item) × Int × Int × Int × Int × Int × (List Int) × (List Int) × Int × Int × Bool × Int × Int × Int × Bool × Int × Int × Int × Int × (List Bitmap)) ⊕ ((List Item) × Int × Int × Int × (List Int) × (List Int) × Int × Int × Bool × Int × Int × Int × Bool × Int × Int × Int × Int × (List Bitmap))) :=
 let l118 := s117.1;
 let s119 := s117.2.1;
 let at120 := s117.2.2.1;
 let b121 := s117.2.2.2.1;
 let b122 := s117.2.2.2.2.1;
 let b123 := s117.2.2.2.2.2.1;
 let b124 := s117.2.2.2.2.2.2.1;
 let b125 := s117.2.2.2.2.2.2.2.1;
 let b126 := s117.2.2.2.2.2.2.2.2.1;
 let b127 := s117.2.2.2.2.2.2.2.2.2.1;
 let b128 := s117.2.2.2.2.2.2.2.2.2.2.1;
 let b129 := s117.2.2.2.2.2.2.2.2.2.2.2.1;
 let b130 := s117.2.2.2.2.2.2.2.2.2.2.2.2.1;
 let b131 := s117.2.2.2.2.2.2.2.2.2.2.2.2.2.1;
 let b132 := s117.2.2.2.2.2.2.2.2.2.2.2.2.2.2.1;
 let b133 := s117.2.2.2.2.2.2.2.2.2.2.2.2.2.2.2.1;
 let b134 := s117.2.2.2.2.2.2.2.2.2.2.2.2.2.2.2.2.1;
 let b135 := s117.2.2.2.2.2.2.2.2.2.2.2.2.2.2.2.2.2.1;
 let b136 := s117.2.2.2.2.2.2.2.2.2.2.2.2.2.2.2.2.2.2.1;
 let b137 := s117.2.2.2.2.2.2.2.2.2.2.2.2.2.2.2.2.2.2.2;
 ((if (decide (((l118.length : Nat) : Int) > 0)) = true then
 (if 0 ≤ (0 : Int) then
 (l118[(0 : Int).toNat]?).bind fun e138 =>
 (text_strip tr14 tr15 tr16 tr17 tr18 tr19 tr20 tr21 e138.symbol e138.s e138.t e138.refined e138.dX e138.dY e138.pix_w e138.pix_h e138.pix_pix).bind fun q139 =>
 some (decide (q139 = q76))
 else
 none)
 else
 some false) : Option (Bool)).bind (fun v140 =>
 (if v140 = true then
 ((if (decide (at120 > 0)) = true then
 (if 0 ≤ (0 : Int) then
 (l118[(0 : Int).toNat]?).bind fun e141 =>
 let t142 := IntKind.i64.wrap (e141.s - s119);
 let t143 := IntKind.i64.wrap (t142 - tr17);
 (text_writer_put 96 t143 b126 b127 b128 b129 b130 b131 b132 b133 b134 b135 b136 b137 b121 b122 b123 b124 b125).bind fun q144 =>
 let tr145 := q144.1;
 let tr146 := q144.2.1;
 let tr147 := q144.2.2.1;
 let tr148 := q144.2.2.2.1;
 let tr149 := q144.2.2.2.2.1;
 let tr150 := q144.2.2.2.2.2.1;
 let tr151 := q144.2.2.2.2.2.2.1;
 let tr152 := q144.2.2.2.2.2.2.2.1;
 let tr153 := q144.2.2.2.2.2.2.2.2.1;
 let tr154 := q144.2.2.2.2.2.2.2.2.2.1;
 let tr155 := q144.2.2.2.2.2.2.2.2.2.2.1;
 let tr156 := q144.2.2.2.2.2.2.2.2.2.2.2.1;
 let tr157 := q144.2.2.2.2.2.2.2.2.2.2.2.2.1;
 let tr158 := q144.2.2.2.2.2.2.2.2.2.2.2.2.2.1;
 let tr159 := q144.2.2.2.2.2.2.2.2.2.2.2.2.2.2.1;
 let tr160 := q144.2.2.2.2.2.2.2.2.2.2.2.2.2.2.2.1;
 let tr161 := q144.2.2.2.2.2.2.2.2.2.2.2.2.2.2.2.2;
 some (tr157, tr158, tr159, tr160, tr161, tr145, tr146, tr147, tr148, tr149, tr150, tr151, tr152, tr153, tr154, tr155, tr156)
 else
 none)
 else
 some (b121, b122, b123, b124, b125, b126, b127, b128, b129, b130, b131, b132, b133, b134, b135, b136, b137)) : Option (Int × Int × Int × (List Int) × (List Int) × Int × Int × Bool × Int × Int × Int × Bool × Int × Int × Int × Int × (List Bitmap))).bind (fun p162 =>
 let b163 := p162.1;
 let b164 := p162.2.1;
 let b165 := p162.2.2.1;
 let b166 := p162.2.2.2.1;
 let b167 := p162.2.2.2.2.1;
 let b168 := p162.2.2.2.2.2.1;
 let b169 := p162.2.2.2.2.2.2.1;
 let b170 := p162.2.2.2.2.2.2.2.1;
 let b171 := p162.2.2.2.2.2.2.2.2.1;
 let b172 := p162.2.2.2.2.2.2.2.2.2.1;
 let b173 := p162.2.2.2.2.2.2.2.2.2.2.1;
 let b174 := p162.2.2.2.2.2.2.2.2.2.2.2.1;
 let b175 := p162.2.2.2.2.2.2.2.2.2.2.2.2.1;
 let b176 := p162.2.2.2.2.2.2.2.2.2.2.2.2.2.1;
 let b177 := p162.2.2.2.2.2.2.2.2.2.2.2.2.2.2.1;
 let b178 := p162.2.2.2.2.2.2.2.2.2.2.2.2.2.2.2.1;
 let b179 := p162.2.2.2.2.2.2.2.2.2.2.2.2.2.2.2.2;
 (if 0 ≤ (0 : Int) then
 (l118[(0 : Int).toNat]?).bind fun e180 =>
 (if 0 ≤ (0 : Int) then
 (l118[(0 : Int).toNat]?).bind fun e181 =>
 (text_writer_item e181.symbol e181.s e181.t e181.refined e181.dX e181.dY e181.pix_w e181.pix_h e181.pix_pix b168 b169 b170 b171 b172 b173 b174 b175 b176 b177 b178 b179 b163 b164 b165 b166 b167).bind fun q182 =>
 let tr183 := q182.1;
 let tr184 := q182.2.1;
 let tr185 := q182.2.2.1;
 let tr186 := q182.2.2.2.1;
 let tr187 := q182.2.2.2.2.1;
 let tr188 := q182.2.2.2.2.2.1;
 let tr189 := q182.2.2.2.2.2.2.1;
 let tr190 := q182.2.2.2.2.2.2.2.1;
 let tr191 := q182.2.2.2.2.2.2.2.2.1;
 let tr192 := q182.2.2.2.2.2.2.2.2.2.1;
 let tr193 := q182.2.2.2.2.2.2.2.2.2.2.1;
 let tr194 := q182.2.2.2.2.2.2.2.2.2.2.2.1;
 let tr195 := q182.2.2.2.2.2.2.2.2.2.2.2.2.1;
 let tr196 := q182.2.2.2.2.2.2.2.2.2.2.2.2.2.1;
 let tr197 := q182.2.2.2.2.2.2.2.2.2.2.2.2.2.2.1;
 let tr198 := q182.2.2.2.2.2.2.2.2.2.2.2.2.2.2.2.1;
 let tr199 := q182.2.2.2.2.2.2.2.2.2.2.2.2.2.2.2.2;
 (if 0 ≤ (1 : Int) ∧ (1 : Int) ≤ ((l118.length : Nat) : Int) then
 let t200 : List Item := cutL l118 ((1 : Int).toNat) l118.length;
 let t201 := IntKind.i64.wrap (at120 + 1);
 some (Sum.inl (t200, e180.s, t201, tr195, tr196, tr197, tr198, tr199, tr183, tr184, tr185, tr186, tr187, tr188, tr189, tr190, tr191, tr192, tr193, tr194))
 else
 none)
 else
 none)
 else
 none))
 else
 some (Sum.inr (l118, b121, b122, b123, b124, b125, b126, b127, b128, b129, b130, b131, b132, b133, b134, b135, b136, b137))))
noncomputable def text_Encode_loop12 (tr14 tr15 : Int) (tr16 : Bool) (tr17 tr18 tr19 : Int) (tr20 : Bool) (tr21 : Int) (s54 : (List Item) × Int × Int × Int × Int × Int × (List Int) × (List Int) × Int × Int × Bool × Int × Int × Int × Bool × Int × Int × Int × Int × (List Bitmap)) : Option (((List Item) × Int × Int × Int × Int × Int × (List Int) × (List Int) × Int × Int × Bool × Int × Int × Int × Bool × Int × Int × Int × Int × (List Bitmap)) ⊕ (Int × Int × Int × (List Int) × (List Int) × Int × Int × Bool × Int × Int × Int × Bool × Int × Int × Int × Int × (List Bitmap))) :=
 let l55 := s54.1;
 let last56 := s54.2.1;
 let first57 := s54.2.2.1;
 let b58 := s54.2.2.2.1;
 let b59 := s54.2.2.2.2.1;
 let b60 := s54.2.2.2.2.2.1;
 let b61 := s54.2.2.2.2.2.2.1;
 let b62 := s54.2.2.2.2.2.2.2.1;
 let b63 := s54.2.2.2.2.2.2.2.2.1;
 let b64 := s54.2.2.2.2.2.2.2.2.2.1;
 let b65 := s54.2.2.2.2.2.2.2.2.2.2.1;
 let b66 := s54.2.2.2.2.2.2.2.2.2.2.2.1;
 let b67 := s54.2.2.2.2.2.2.2.2.2.2.2.2.1;
 let b68 := s54.2.2.2.2.2.2.2.2.2.2.2.2.2.1;
 let b69 := s54.2.2.2.2.2.2.2.2.2.2.2.2.2.2.1;
 let b70 := s54.2.2.2.2.2.2.2.2.2.2.2.2.2.2.2.1;
 let b71 := s54.2.2.2.2.2.2.2.2.2.2.2.2.2.2.2.2.1;
 let b72 := s54.2.2.2.2.2.2.2.2.2.2.2.2.2.2.2.2.2.1;
 let b73 := s54.2.2.2.2.2.2.2.2.2.2.2.2.2.2.2.2.2.2.1;
 let b74 := s54.2.2.2.2.2.2.2.2.2.2.2.2.2.2.2.2.2.2.2;
 (if (decide (((l55.length : Nat) : Int) > 0)) = true then
 (if 0 ≤ (0 : Int) then
 (l55[(0 : Int).toNat]?).bind fun e75 =>
 (text_strip tr14 tr15 tr16 tr17 tr18 tr19 tr20 tr21 e75.symbol e75.s e75.t e75.refined e75.dX e75.dY e75.pix_w e75.pix_h e75.pix_pix).bind fun q76 =>
 let t77 := IntKind.i64.wrap (q76 - last56);
 (text_writer_put 0 t77 b63 b64 b65 b66 b67 b68 b69 b70 b71 b72 b73 b74 b58 b59 b60 b61 b62).bind fun q78 =>
 let tr79 := q78.1;
 let tr80 := q78.2.1;
 let tr81 := q78.2.2.1;
 let tr82 := q78.2.2.2.1;
 let tr83 := q78.2.2.2.2.1;
 let tr84 := q78.2.2.2.2.2.1;
 let tr85 := q78.2.2.2.2.2.2.1;
 let tr86 := q78.2.2.2.2.2.2.2.1;
 let tr87 := q78.2.2.2.2.2.2.2.2.1;
 let tr88 := q78.2.2.2.2.2.2.2.2.2.1;
 let tr89 := q78.2.2.2.2.2.2.2.2.2.2.1;
 let tr90 := q78.2.2.2.2.2.2.2.2.2.2.2.1;
 let tr91 := q78.2.2.2.2.2.2.2.2.2.2.2.2.1;
 let tr92 := q78.2.2.2.2.2.2.2.2.2.2.2.2.2.1;
 let tr93 := q78.2.2.2.2.2.2.2.2.2.2.2.2.2.2.1;
 let tr94 := q78.2.2.2.2.2.2.2.2.2.2.2.2.2.2.2.1;
 let tr95 := q78.2.2.2.2.2.2.2.2.2.2.2.2.2.2.2.2;
 (if 0 ≤ (0 : Int) then
 (l55[(0 : Int).toNat]?).bind fun e96 =>
 let t97 := IntKind.i64.wrap (e96.s - first57);
 (text_writer_put 48 t97 tr79 tr80 tr81 tr82 tr83 tr84 tr85 tr86 tr87 tr88 tr89 tr90 tr91 tr92 tr93 tr94 tr95).bind fun q98 =>
 let tr99 := q98.1;
 let tr100 := q98.2.1;
 let tr101 := q98.2.2.1;
 let tr102 := q98.2.2.2.1;
 let tr103 := q98.2.2.2.2.1;
 let tr104 := q98.2.2.2.2.2.1;
 let tr105 := q98.2.2.2.2.2.2.1;
 let tr106 := q98.2.2.2.2.2.2.2.1;
 let tr107 := q98.2.2.2.2.2.2.2.2.1;
 let tr108 := q98.2.2.2.2.2.2.2.2.2.1;
 let tr109 := q98.2.2.2.2.2.2.2.2.2.2.1;
 let tr110 := q98.2.2.2.2.2.2.2.2.2.2.2.1;
 let tr111 := q98.2.2.2.2.2.2.2.2.2.2.2.2.1;
 let tr112 := q98.2.2.2.2.2.2.2.2.2.2.2.2.2.1;
 let tr113 := q98.2.2.2.2.2.2.2.2.2.2.2.2.2.2.1;
 let tr114 := q98.2.2.2.2.2.2.2.2.2.2.2.2.2.2.2.1;
 let tr115 := q98.2.2.2.2.2.2.2.2.2.2.2.2.2.2.2.2;
 (if 0 ≤ (0 : Int) then
 (l55[(0 : Int).toNat]?).bind fun e116 =>
 (loop (text_Encode_loop19 tr14 tr15 tr16 tr17 tr18 tr19 tr20 tr21 q76) (l55, e116.s, 0, tr111, tr112, tr113, tr114, tr115, tr99, tr100, tr101, tr102, tr103, tr104, tr105, tr106, tr107, tr108, tr109, tr110)).bind (fun p202 =>
 let l203 := p202.1;
 let b204 := p202.2.1;
 let b205 := p202.2.2.1;
 let b206 := p202.2.2.2.1;
 let b207 := p202.2.2.2.2.1;
 let b208 := p202.2.2.2.2.2.1;
 let b209 := p202.2.2.2.2.2.2.1;
 let b210 := p202.2.2.2.2.2.2.2.1;
 let b211 := p202.2.2.2.2.2.2.2.2.1;
 let b212 := p202.2.2.2.2.2.2.2.2.2.1;
 let b213 := p202.2.2.2.2.2.2.2.2.2.2.1;
 let b214 := p202.2.2.2.2.2.2.2.2.2.2.2.1;
 let b215 := p202.2.2.2.2.2.2.2.2.2.2.2.2.1;
 let b216 := p202.2.2.2.2.2.2.2.2.2.2.2.2.2.1;
 let b217 := p202.2.2.2.2.2.2.2.2.2.2.2.2.2.2.1;
 let b218 := p202.2.2.2.2.2.2.2.2.2.2.2.2.2.2.2.1;
 let b219 := p202.2.2.2.2.2.2.2.2.2.2.2.2.2.2.2.2.1;
 let b220 := p202.2.2.2.2.2.2.2.2.2.2.2.2.2.2.2.2.2;
 (number_Put 96 true 0 b204 b205 b206 b207 b208).bind fun q221 =>
 let tr222 := q221.1;
 let tr223 := q221.2.1;
 let tr224 := q221.2.2.1;
 let tr225 := q221.2.2.2.1;
 let tr226 := q221.2.2.2.2.1;
 let tr227 := q221.2.2.2.2.2;
 some (Sum.inl (l203, q76, e116.s, tr223, tr224, tr225, tr226, tr227, b209, b210, b211, b212, b213, b214, b215, b216, b217, b218, b219, b220)))
 else
 none)
 else
 none)
 else
 none)
 else
 some (Sum.inr (b58, b59, b60, b61, b62, b63, b64, b65, b66, b67, b68, b69, b70, b71, b72, b73, b74)))
theorem text_Encode_eq (o1 o2 : Int) (o3 : Bool) (o4 o5 o6 : Int) (o7 : Bool) (o8 : Int) (symbols9 : List Bitmap) (l10 : List Item) : text_Encode o1 o2 o3 o4 o5 o6 o7 o8 symbols9 l10 =
 (text_begun o1 o2 o3 o4 o5 o6 o7 o8 symbols9 l10).bind fun q11 =>
 (if (!decide (q11 = 0)) = true then
 some ([], q11)
 else
 (slices_IsSortedFunc_api_Item_api_Item l10 o1 o2 o3 o4 o5 o6 o7 o8).bind fun q12 =>
 let tr13 := q12.1;
 let tr14 := q12.2.1;
 let tr15 := q12.2.2.1;
 let tr16 := q12.2.2.2.1;
 let tr17 := q12.2.2.2.2.1;
 let tr18 := q12.2.2.2.2.2.1;
 let tr19 := q12.2.2.2.2.2.2.1;
 let tr20 := q12.2.2.2.2.2.2.2.1;
 let tr21 := q12.2.2.2.2.2.2.2.2;
 ((text_right tr14 tr15 tr16 tr17 tr18 tr19 tr20 tr21 ((symbols9.length : Nat) : Int) l10).bind fun q22 =>
 (if (!q22) = true then
 some true
 else
 some (!tr13)) : Option (Bool)).bind (fun v23 =>
 (if v23 = true then
 some ([], 2)
 else
 (text_lay tr14 tr15 tr16 tr17 tr18 tr19 tr20 tr21 ((symbols9.length : Nat) : Int)).bind fun q24 =>
 let tr25 := q24.1;
 let tr26 := q24.2.1;
 let tr27 := q24.2.2.1;
 let tr28 := q24.2.2.2.1;
 let tr29 := q24.2.2.2.2.1;
 let tr30 := q24.2.2.2.2.2.1;
 let tr31 := q24.2.2.2.2.2.2.1;
 let tr32 := q24.2.2.2.2.2.2.2.1;
 let tr33 := q24.2.2.2.2.2.2.2.2.1;
 let tr34 := q24.2.2.2.2.2.2.2.2.2.1;
 let tr35 := q24.2.2.2.2.2.2.2.2.2.2;
 (coder_New tr19 tr35).bind fun q36 =>
 let tr37 := q36.1;
 let tr38 := q36.2.1;
 let tr39 := q36.2.2;
 ((coder_NewEncoder tr37 tr39).bind fun o47 =>
 (Sum.elim (fun (q40 : Int × Int × Int × (List Int) × (List Int)) =>
 let tr41 := q40.1;
 let tr42 := q40.2.1;
 let tr43 := q40.2.2.1;
 let tr44 := q40.2.2.2.1;
 let tr45 := q40.2.2.2.2;
 some (tr41, tr42, tr43, tr44, tr45))
 (fun (q46 : Unit) =>
 none) o47) : Option (Int × Int × Int × (List Int) × (List Int))).bind (fun p48 =>
 let b49 := p48.1;
 let b50 := p48.2.1;
 let b51 := p48.2.2.1;
 let b52 := p48.2.2.2.1;
 let b53 := p48.2.2.2.2;
 (loop (text_Encode_loop12 tr14 tr15 tr16 tr17 tr18 tr19 tr20 tr21) (l10, 0, 0, b49, b50, b51, b52, b53, tr25, tr26, tr27, tr28, tr29, tr30, tr31, tr32, tr33, tr34, tr35, symbols9)).bind (fun p228 =>
 let b229 := p228.1;
 let b230 := p228.2.1;
 let b231 := p228.2.2.1;
 let b232 := p228.2.2.2.1;
 let b233 := p228.2.2.2.2.1;
 let b234 := p228.2.2.2.2.2.1;
 let b235 := p228.2.2.2.2.2.2.1;
 let b236 := p228.2.2.2.2.2.2.2.1;
 let b237 := p228.2.2.2.2.2.2.2.2.1;
 let b238 := p228.2.2.2.2.2.2.2.2.2.1;
 let b239 := p228.2.2.2.2.2.2.2.2.2.2.1;
 let b240 := p228.2.2.2.2.2.2.2.2.2.2.2.1;
 let b241 := p228.2.2.2.2.2.2.2.2.2.2.2.2.1;
 let b242 := p228.2.2.2.2.2.2.2.2.2.2.2.2.2.1;
 let b243 := p228.2.2.2.2.2.2.2.2.2.2.2.2.2.2.1;
 let b244 := p228.2.2.2.2.2.2.2.2.2.2.2.2.2.2.2.1;
 let b245 := p228.2.2.2.2.2.2.2.2.2.2.2.2.2.2.2.2;
 (coder_Encoder_End b229 b230 b231 b232 b233).bind fun q246 =>
 let tr247 := q246.1;
 let tr248 := q246.2.1;
 let tr249 := q246.2.2.1;
 let tr250 := q246.2.2.2.1;
 let tr251 := q246.2.2.2.2.1;
 let tr252 := q246.2.2.2.2.2;
 some (tr247, 0)))))) := (call_eq ..).trans (by kernel_rfl)

theorem page_writer_begin_eq (g1 g2 g3 g4 g5 : Int) (g6 : Bool) (b7 : List Int) : page_writer_begin g1 g2 g3 g4 g5 g6 b7 =
 (page_writer_size [g1, g2] b7).bind fun q8 =>
 (page_writer_signed [g3, g4] q8).bind fun q9 =>
 (page_flag g6 8).bind fun q10 =>
 let t11 := IntKind.i64.wrap (g5 + q10);
 (page_writer_byte [t11] q9).bind fun q12 =>
 some q12 := (call_eq ..).trans (by kernel_rfl)

theorem math_bits_Len_eq (x1 : Int) : math_bits_Len x1 =
 (math_bits_Len64 x1).bind fun q2 =>
 some q2 := (call_eq ..).trans (by kernel_rfl)

noncomputable def page_writer_signed_loop1 (l1 : List Int) (s3 : Int × (List Int)) : Option ((Int × (List Int)) ⊕ ((List Int))) :=
 let v4 := s3.1;
 let b5 := s3.2;
 (if (decide (v4 < ((l1.length : Nat) : Int))) = true then
 (if 0 ≤ v4 ∧ v4 < (l1.length : Int) then
 (bits_Signed (rd l1 v4)).bind fun q6 =>
 let tr7 := q6.1;
 let tr8 := q6.2;
 (if (b5.length + tr7.length) * 1 ≤ 140737488355328 then
 let t9 : List Int := b5 ++ tr7;
 let t10 := IntKind.i64.wrap (v4 + 1);
 some (Sum.inl (t10, t9))
 else
 none)
 else
 none)
 else
 some (Sum.inr b5))

theorem page_writer_signed_eq (l1 b2 : List Int) : page_writer_signed l1 b2 =
 (loop (page_writer_signed_loop1 l1) (0, b2)).bind (fun b14 =>
 some b14) := (call_eq ..).trans (by kernel_rfl)

theorem ref13_isBegin_eq (g1 g2 g3 g4 g5 : Int) (g6 : Bool) : ref13_isBegin g1 g2 g3 g4 g5 g6 =
 ((ref05_Sides g1 g2).bind fun q7 =>
 (if (!q7) = true then
 some true
 else
 (if (decide (g5 < 0)) = true then
 some true
 else
 some (decide (g5 > 4)))) : Option (Bool)).bind (fun v8 =>
 (if v8 = true then
 some false
 else
 (if (decide (g3 ≥ (-100000))) = true then
 (if (decide (g3 ≤ 100000)) = true then
 (if (decide (g4 ≥ (-100000))) = true then
 some (decide (g4 ≤ 100000))
 else
 some false)
 else
 some false)
 else
 some false))) := (call_eq ..).trans (by kernel_rfl)

noncomputable def ref10_Encode_loop5 (o1 o2 : Int) (o3 : Bool) (o4 o5 o6 : Int) (o7 : Bool) (o8 : Int) (l10 : List Item) (n12 : Int) : Option ((Int) ⊕ ((Unit) ⊕ ((List Int) × Int))) :=
 (if (decide (n12 < ((l10.length : Nat) : Int))) = true then
 (if 0 ≤ n12 then
 (l10[n12.toNat]?).bind fun e13 =>
 (ref10_Strip o1 o2 o3 o4 o5 o6 o7 o8 e13.t).bind fun q14 =>
 let t15 := IntKind.i64.wrap (n12 - 1);
 (if 0 ≤ t15 then
 (l10[t15.toNat]?).bind fun e16 =>
 (ref10_Strip o1 o2 o3 o4 o5 o6 o7 o8 e16.t).bind fun q17 =>
 (if (decide (q14 < q17)) = true then
 some (Sum.inr (Sum.inr ([], 2)))
 else
 let t18 := IntKind.i64.wrap (n12 + 1);
 some (Sum.inl t18))
 else
 none)
 else
 none)
 else
 some (Sum.inr (Sum.inl ())))

noncomputable def ref10_Encode_loop13 (o1 o2 : Int) (o3 : Bool) (o4 o5 o6 : Int) (o7 : Bool) (o8 : Int) (symbols9 : List Bitmap) (l10 : List Item) (tr30 : Int) (s45 : Int × Int × Int × Int × Int × Int × Int × (List Int) × (List Int)) : Option ((Int × Int × Int × Int × Int × Int × Int × (List Int) × (List Int)) ⊕ (Int × Int × Int × (List Int) × (List Int))) :=
 let was46 := s45.1;
 let begin47 := s45.2.1;
 let s48 := s45.2.2.1;
 let v49 := s45.2.2.2.1;
 let b50 := s45.2.2.2.2.1;
 let b51 := s45.2.2.2.2.2.1;
 let b52 := s45.2.2.2.2.2.2.1;
 let b53 := s45.2.2.2.2.2.2.2.1;
 let b54 := s45.2.2.2.2.2.2.2.2;
 (if (decide (v49 < ((l10.length : Nat) : Int))) = true then
 (if 0 ≤ v49 then
 (l10[v49.toNat]?).bind fun e55 =>
 (ref10_Strip o1 o2 o3 o4 o5 o6 o7 o8 e55.t).bind fun q56 =>
 ((if (decide (v49 = 0)) = true then
 some true
 else
 some (!decide (q56 = was46))) : Option (Bool)).bind (fun v57 =>
 ((if v57 = true then
 ((if (decide (v49 > 0)) = true then
 (ref03_Put 96 true 0 b50 b51 b52 b53 b54).bind fun q58 =>
 let tr59 := q58.1;
 let tr60 := q58.2.1;
 let tr61 := q58.2.2.1;
 let tr62 := q58.2.2.2.1;
 let tr63 := q58.2.2.2.2.1;
 let tr64 := q58.2.2.2.2.2;
 some (tr60, tr61, tr62, tr63, tr64)
 else
 some (b50, b51, b52, b53, b54)) : Option (Int × Int × Int × (List Int) × (List Int))).bind (fun p65 =>
 let b66 := p65.1;
 let b67 := p65.2.1;
 let b68 := p65.2.2.1;
 let b69 := p65.2.2.2.1;
 let b70 := p65.2.2.2.2;
 let t71 := IntKind.i64.wrap (q56 - was46);
 (ref10_put 0 t71 b66 b67 b68 b69 b70).bind fun q72 =>
 let tr73 := q72.1;
 let tr74 := q72.2.1;
 let tr75 := q72.2.2.1;
 let tr76 := q72.2.2.2.1;
 let tr77 := q72.2.2.2.2;
 let t78 := IntKind.i64.wrap (e55.s - begin47);
 (ref10_put 48 t78 tr73 tr74 tr75 tr76 tr77).bind fun q79 =>
 let tr80 := q79.1;
 let tr81 := q79.2.1;
 let tr82 := q79.2.2.1;
 let tr83 := q79.2.2.2.1;
 let tr84 := q79.2.2.2.2;
 some (q56, e55.s, tr80, tr81, tr82, tr83, tr84))
 else
 let t85 := IntKind.i64.wrap (e55.s - s48);
 let t86 := IntKind.i64.wrap (t85 - o4);
 (ref10_put 96 t86 b50 b51 b52 b53 b54).bind fun q87 =>
 let tr88 := q87.1;
 let tr89 := q87.2.1;
 let tr90 := q87.2.2.1;
 let tr91 := q87.2.2.2.1;
 let tr92 := q87.2.2.2.2;
 some (was46, begin47, tr88, tr89, tr90, tr91, tr92)) : Option (Int × Int × Int × Int × Int × (List Int) × (List Int))).bind (fun p93 =>
 let was94 := p93.1;
 let begin95 := p93.2.1;
 let b96 := p93.2.2.1;
 let b97 := p93.2.2.2.1;
 let b98 := p93.2.2.2.2.1;
 let b99 := p93.2.2.2.2.2.1;
 let b100 := p93.2.2.2.2.2.2;
 ((if (decide (o1 > 1)) = true then
 let t101 := IntKind.i64.wrap (q56 * o1);
 let t102 := IntKind.i64.wrap (e55.t - t101);
 (ref10_put 144 t102 b96 b97 b98 b99 b100).bind fun q103 =>
 let tr104 := q103.1;
 let tr105 := q103.2.1;
 let tr106 := q103.2.2.1;
 let tr107 := q103.2.2.2.1;
 let tr108 := q103.2.2.2.2;
 some (tr104, tr105, tr106, tr107, tr108)
 else
 some (b96, b97, b98, b99, b100)) : Option (Int × Int × Int × (List Int) × (List Int))).bind (fun p109 =>
 let b110 := p109.1;
 let b111 := p109.2.1;
 let b112 := p109.2.2.1;
 let b113 := p109.2.2.2.1;
 let b114 := p109.2.2.2.2;
 (ref03_PutId 385 tr30 e55.symbol b110 b111 b112 b113 b114).bind fun q115 =>
 let tr116 := q115.1;
 let tr117 := q115.2.1;
 let tr118 := q115.2.2.1;
 let tr119 := q115.2.2.2.1;
 let tr120 := q115.2.2.2.2.1;
 let tr121 := q115.2.2.2.2.2;
 (if (!o7) = true then
 let t122 := IntKind.i64.wrap (v49 + 1);
 some (Sum.inl (was94, begin95, e55.s, t122, tr117, tr118, tr119, tr120, tr121))
 else
 (if (!e55.refined) = true then
 (ref02_Encoder_Put 384 0 tr117 tr118 tr119 tr120 tr121).bind fun q123 =>
 let tr124 := q123.1;
 let tr125 := q123.2.1;
 let tr126 := q123.2.2.1;
 let tr127 := q123.2.2.2.1;
 let tr128 := q123.2.2.2.2.1;
 let tr129 := q123.2.2.2.2.2;
 let t130 := IntKind.i64.wrap (v49 + 1);
 some (Sum.inl (was94, begin95, e55.s, t130, tr125, tr126, tr127, tr128, tr129))
 else
 (ref02_Encoder_Put 384 1 tr117 tr118 tr119 tr120 tr121).bind fun q131 =>
 let tr132 := q131.1;
 let tr133 := q131.2.1;
 let tr134 := q131.2.2.1;
 let tr135 := q131.2.2.2.1;
 let tr136 := q131.2.2.2.2.1;
 let tr137 := q131.2.2.2.2.2;
 (if 0 ≤ e55.symbol then
 (symbols9[e55.symbol.toNat]?).bind fun e138 =>
 let t139 := IntKind.i64.wrap (e55.pix_w - e138.w);
 (ref10_put 192 t139 tr133 tr134 tr135 tr136 tr137).bind fun q140 =>
 let tr141 := q140.1;
 let tr142 := q140.2.1;
 let tr143 := q140.2.2.1;
 let tr144 := q140.2.2.2.1;
 let tr145 := q140.2.2.2.2;
 let t146 := IntKind.i64.wrap (e55.pix_h - e138.h);
 (ref10_put 240 t146 tr141 tr142 tr143 tr144 tr145).bind fun q147 =>
 let tr148 := q147.1;
 let tr149 := q147.2.1;
 let tr150 := q147.2.2.1;
 let tr151 := q147.2.2.2.1;
 let tr152 := q147.2.2.2.2;
 (ref10_put 288 e55.dX tr148 tr149 tr150 tr151 tr152).bind fun q153 =>
 let tr154 := q153.1;
 let tr155 := q153.2.1;
 let tr156 := q153.2.2.1;
 let tr157 := q153.2.2.2.1;
 let tr158 := q153.2.2.2.2;
 (ref10_put 336 e55.dY tr154 tr155 tr156 tr157 tr158).bind fun q159 =>
 let tr160 := q159.1;
 let tr161 := q159.2.1;
 let tr162 := q159.2.2.1;
 let tr163 := q159.2.2.2.1;
 let tr164 := q159.2.2.2.2;
 (if tr30 < 0 then
 none
 else
 let t165 := ishl .i64 1 tr30;
 let t166 := IntKind.i64.wrap (385 + t165);
 let t167 := IntKind.i64.wrap (t166 - 1);
 (ref10_refine o1 o2 o3 o4 o5 o6 o7 o8 e55.dX e55.dY).bind fun q168 =>
 let tr169 := q168.1;
 let tr170 := q168.2.1;
 let tr171 := q168.2.2.1;
 let tr172 := q168.2.2.2.1;
 let tr173 := q168.2.2.2.2;
 (ref08_Put t167 tr169 tr170 tr171 tr172 tr173 e55.pix_w e55.pix_h e55.pix_pix e138.w e138.h e138.pix tr160 tr161 tr162 tr163 tr164).bind fun q174 =>
 let tr175 := q174.1;
 let tr176 := q174.2.1;
 let tr177 := q174.2.2.1;
 let tr178 := q174.2.2.2.1;
 let tr179 := q174.2.2.2.2.1;
 let tr180 := q174.2.2.2.2.2;
 let t181 := IntKind.i64.wrap (v49 + 1);
 some (Sum.inl (was94, begin95, e55.s, t181, tr176, tr177, tr178, tr179, tr180)))
 else
 none))))))
 else
 none)
 else
 some (Sum.inr (b50, b51, b52, b53, b54)))

theorem ref10_Encode_eq (o1 o2 : Int) (o3 : Bool) (o4 o5 o6 : Int) (o7 : Bool) (o8 : Int) (symbols9 : List Bitmap) (l10 : List Item) : ref10_Encode o1 o2 o3 o4 o5 o6 o7 o8 symbols9 l10 =
 (ref10_asked o1 o2 o3 o4 o5 o6 o7 o8 symbols9 l10 true ((symbols9.length : Nat) : Int)).bind fun q11 =>
 (if (!decide (q11 = 0)) = true then
 some ([], q11)
 else
 (loop (ref10_Encode_loop5 o1 o2 o3 o4 o5 o6 o7 o8 l10) 1).bind (fun o26 =>
 (Sum.elim (fun (p22 : Unit) =>
 (ref10_Model o1 o2 o3 o4 o5 o6 o7 o8 ((symbols9.length : Nat) : Int)).bind fun q27 =>
 let tr28 := q27.1;
 let tr29 := q27.2.1;
 let tr30 := q27.2.2;
 ((ref02_NewEncoder tr28 tr29).bind fun o38 =>
 (Sum.elim (fun (q31 : Int × Int × Int × (List Int) × (List Int)) =>
 let tr32 := q31.1;
 let tr33 := q31.2.1;
 let tr34 := q31.2.2.1;
 let tr35 := q31.2.2.2.1;
 let tr36 := q31.2.2.2.2;
 some (tr32, tr33, tr34, tr35, tr36))
 (fun (q37 : Unit) =>
 none) o38) : Option (Int × Int × Int × (List Int) × (List Int))).bind (fun p39 =>
 let b40 := p39.1;
 let b41 := p39.2.1;
 let b42 := p39.2.2.1;
 let b43 := p39.2.2.2.1;
 let b44 := p39.2.2.2.2;
 (loop (ref10_Encode_loop13 o1 o2 o3 o4 o5 o6 o7 o8 symbols9 l10 tr30) (0, 0, 0, 0, b40, b41, b42, b43, b44)).bind (fun p193 =>
 let b194 := p193.1;
 let b195 := p193.2.1;
 let b196 := p193.2.2.1;
 let b197 := p193.2.2.2.1;
 let b198 := p193.2.2.2.2;
 (if (decide (((l10.length : Nat) : Int) > 0)) = true then
 (ref03_Put 96 true 0 b194 b195 b196 b197 b198).bind fun q199 =>
 let tr200 := q199.1;
 let tr201 := q199.2.1;
 let tr202 := q199.2.2.1;
 let tr203 := q199.2.2.2.1;
 let tr204 := q199.2.2.2.2.1;
 let tr205 := q199.2.2.2.2.2;
 (ref02_Encoder_End tr201 tr202 tr203 tr204 tr205).bind fun q206 =>
 let tr207 := q206.1;
 let tr208 := q206.2.1;
 let tr209 := q206.2.2.1;
 let tr210 := q206.2.2.2.1;
 let tr211 := q206.2.2.2.2.1;
 let tr212 := q206.2.2.2.2.2;
 some (tr207, 0)
 else
 (ref02_Encoder_End b194 b195 b196 b197 b198).bind fun q213 =>
 let tr214 := q213.1;
 let tr215 := q213.2.1;
 let tr216 := q213.2.2.1;
 let tr217 := q213.2.2.2.1;
 let tr218 := q213.2.2.2.2.1;
 let tr219 := q213.2.2.2.2.2;
 some (tr214, 0)))))
 (fun (p23 : (List Int) × Int) =>
 let v24 := p23.1;
 let v25 := p23.2;
 some (v24, v25)) o26))) := (call_eq ..).trans (by kernel_rfl)

noncomputable def ref13_log2_loop2 (n1 k2 : Int) : Option ((Int) ⊕ (Int)) :=
 (if k2 < 0 then
 none
 else
 let t3 := ishl .i64 1 k2;
 (if (decide (t3 < n1)) = true then
 let t4 := IntKind.i64.wrap (k2 + 1);
 some (Sum.inl t4)
 else
 some (Sum.inr k2)))
theorem ref13_log2_eq (n1 : Int) : ref13_log2 n1 =
 (loop (ref13_log2_loop2 n1) 0).bind (fun k5 =>
 some k5) := (call_eq ..).trans (by kernel_rfl)

theorem ref13_begin_eq (g1 g2 g3 g4 g5 : Int) (g6 : Bool) : ref13_begin g1 g2 g3 g4 g5 g6 =
 (ref13_size g1).bind fun q7 =>
 (ref13_size g2).bind fun q8 =>
 (ref13_signed g3).bind fun q9 =>
 (ref13_signed g4).bind fun q10 =>
 (ref13_bit g6).bind fun q11 =>
 let t12 := IntKind.i64.wrap (8 * q11);
 let t13 := IntKind.i64.wrap (g5 + t12);
 let t14 := IntKind.u8.wrap t13;
 (ref13_join [q7, q8, q9, q10, [t14]]).bind fun q15 =>
 some q15 := (call_eq ..).trans (by kernel_rfl)

theorem ref13_signed_eq (n1 : Int) : ref13_signed n1 =
 (ref01_Signed n1).bind fun q2 =>
 let tr3 := q2.1;
 let tr4 := q2.2;
 some tr3 := (call_eq ..).trans (by kernel_rfl)

theorem symbol_begun_eq (o1 o2 o3 : Int) (o4 : Bool) (o5 o6 kept7 : Int) (kept8 : List Int) (old9 : List Bitmap) : symbol_begun o1 o2 o3 o4 o5 o6 kept7 kept8 old9 =
 (symbol_Kept o1 o2 o3 o4 o5 o6).bind fun q10 =>
 let tr11 := q10.1;
 let tr12 := q10.2;
 (if (!decide (tr12 = 0)) = true then
 some tr12
 else
 ((if (decide (((kept8.length : Nat) : Int) > 0)) = true then
 (coder_Valid kept7 kept8).bind fun q13 =>
 (if (!q13) = true then
 some true
 else
 (if (!decide (kept7 = o5)) = true then
 some true
 else
 some (!decide (((kept8.length : Nat) : Int) = tr11))))
 else
 some false) : Option (Bool)).bind (fun v14 =>
 (if v14 = true then
 some 10
 else
 (slices_ContainsFunc_api_Bitmap_api_Bitmap old9).bind fun q15 =>
 (if q15 = true then
 some 30
 else
 some 0)))) := (call_eq ..).trans (by kernel_rfl)

noncomputable def symbol_rightShapes_loop2 (l2 : List Shape) (v3 : Int) : Option ((Int) ⊕ ((Unit) ⊕ (Int))) :=
 (if (decide (v3 < ((l2.length : Nat) : Int))) = true then
 (if 0 ≤ v3 then
 (l2[v3.toNat]?).bind fun e4 =>
 (symbol_isShape e4.pix_w e4.pix_h e4.pix_pix).bind fun q5 =>
 (if (!q5) = true then
 some (Sum.inr (Sum.inr 30))
 else
 let t6 := IntKind.i64.wrap (v3 + 1);
 some (Sum.inl t6))
 else
 none)
 else
 some (Sum.inr (Sum.inl ())))
noncomputable def symbol_rightShapes_loop2_step (i7 : Nat) (x8 : Shape) (s9 : Unit) : Option ((Unit) ⊕ ((Unit) ⊕ (Int))) :=
 (symbol_isShape x8.pix_w x8.pix_h x8.pix_pix).bind fun q5 =>
 (if (!q5) = true then
 some (Sum.inr (Sum.inr 30))
 else
 some (Sum.inl (())))
theorem symbol_rightShapes_loop2_over (l2 : List Shape) (hl : l2.length ≤ 9223372036854775807) (s9 : Unit) : loop (symbol_rightShapes_loop2 l2) (0 : Int) =
    overL (symbol_rightShapes_loop2_step) (fun (s9 : Unit) => some (Sum.inl ())) 0 l2 s9 := by
  refine loop_over l2 (fun n (s : Unit) => (((n : Nat) : Int) : Int)) _ _ (fun s => ?_) (fun i x s h => ?_) 0 s9 (Nat.zero_le _)
  · unfold symbol_rightShapes_loop2; simp
  · have hlt := lt_len_of_get h
    have h1 : ((i : Nat) : Int) < ((l2.length : Nat) : Int) := by omega
    have h0 : (0 : Int) ≤ ((i : Nat) : Int) := by omega
    have hw : IntKind.i64.wrap (((i : Nat) : Int) + 1) = (((i + 1 : Nat) : Nat) : Int) := w64 (by omega)
    unfold symbol_rightShapes_loop2 symbol_rightShapes_loop2_step
    simp only [h1, h0, hw, h, decide_true, if_true, and_self, true_and, Int.toNat_natCast, Option.bind_some, Option.map_bind, Function.comp_def, map_ite, map_elim, Option.map_some, Option.map_none]

noncomputable def symbol_rightShapes_loop8 (old1 : List Bitmap) (l2 : List Shape) (v13 : Int) : Option ((Int) ⊕ ((Unit) ⊕ (Int))) :=
 (if (decide (v13 < ((l2.length : Nat) : Int))) = true then
 (if 0 ≤ v13 then
 (l2[v13.toNat]?).bind fun e14 =>
 (if (decide (e14.from_ < (-1))) = true then
 some (Sum.inr (Sum.inr 2))
 else
 let t15 := IntKind.i64.wrap (((old1.length : Nat) : Int) + v13);
 (if (decide (e14.from_ ≥ t15)) = true then
 some (Sum.inr (Sum.inr 2))
 else
 (if (decide (v13 > 0)) = true then
 let t16 := IntKind.i64.wrap (v13 - 1);
 (if 0 ≤ t16 then
 (l2[t16.toNat]?).bind fun e17 =>
 (if (decide (e14.pix_h < e17.pix_h)) = true then
 some (Sum.inr (Sum.inr 2))
 else
 let t18 := IntKind.i64.wrap (v13 + 1);
 some (Sum.inl t18))
 else
 none)
 else
 let t19 := IntKind.i64.wrap (v13 + 1);
 some (Sum.inl t19))))
 else
 none)
 else
 some (Sum.inr (Sum.inl ())))
noncomputable def symbol_rightShapes_loop8_step (old1 : List Bitmap) (l2 : List Shape) (i20 : Nat) (x21 : Shape) (s22 : Unit) : Option ((Unit) ⊕ ((Unit) ⊕ (Int))) :=
 (if (decide (x21.from_ < (-1))) = true then
 some (Sum.inr (Sum.inr 2))
 else
 let t15 := IntKind.i64.wrap (((old1.length : Nat) : Int) + ((i20 : Nat) : Int));
 (if (decide (x21.from_ ≥ t15)) = true then
 some (Sum.inr (Sum.inr 2))
 else
 (if (decide (((i20 : Nat) : Int) > 0)) = true then
 let t16 := IntKind.i64.wrap (((i20 : Nat) : Int) - 1);
 (if 0 ≤ t16 then
 (l2[t16.toNat]?).bind fun e17 =>
 (if (decide (x21.pix_h < e17.pix_h)) = true then
 some (Sum.inr (Sum.inr 2))
 else
 some (Sum.inl (())))
 else
 none)
 else
 some (Sum.inl (())))))
theorem symbol_rightShapes_loop8_over (old1 : List Bitmap) (l2 : List Shape) (hl : l2.length ≤ 9223372036854775807) (s22 : Unit) : loop (symbol_rightShapes_loop8 old1 l2) (0 : Int) =
    overL (symbol_rightShapes_loop8_step old1 l2) (fun (s22 : Unit) => some (Sum.inl ())) 0 l2 s22 := by
  refine loop_over l2 (fun n (s : Unit) => (((n : Nat) : Int) : Int)) _ _ (fun s => ?_) (fun i x s h => ?_) 0 s22 (Nat.zero_le _)
  · unfold symbol_rightShapes_loop8; simp
  · have hlt := lt_len_of_get h
    have h1 : ((i : Nat) : Int) < ((l2.length : Nat) : Int) := by omega
    have h0 : (0 : Int) ≤ ((i : Nat) : Int) := by omega
    have hw : IntKind.i64.wrap (((i : Nat) : Int) + 1) = (((i + 1 : Nat) : Nat) : Int) := w64 (by omega)
    unfold symbol_rightShapes_loop8 symbol_rightShapes_loop8_step
    simp only [h1, h0, hw, h, decide_true, if_true, and_self, true_and, Int.toNat_natCast, Option.bind_some, Option.map_bind, Function.comp_def, map_ite, map_elim, Option.map_some, Option.map_none]

theorem symbol_rightShapes_eq (old1 : List Bitmap) (l2 : List Shape) : symbol_rightShapes old1 l2 =
 (loop (symbol_rightShapes_loop2 l2) 0).bind (fun o12 =>
 (Sum.elim (fun (p10 : Unit) =>
 (loop (symbol_rightShapes_loop8 old1 l2) 0).bind (fun o25 =>
 (Sum.elim (fun (p23 : Unit) =>
 let t26 := IntKind.i64.wrap (((old1.length : Nat) : Int) + ((l2.length : Nat) : Int));
 (if (decide (t26 > 60)) = true then
 some 2
 else
 some 0))
 (fun (v24 : Int) =>
 some v24) o25)))
 (fun (v11 : Int) =>
 some v11) o12)) := (call_eq ..).trans (by kernel_rfl)

theorem symbol_lay_eq (o1 o2 o3 : Int) (o4 : Bool) (o5 o6 shapes7 : Int) : symbol_lay o1 o2 o3 o4 o5 o6 shapes7 =
 (number_Width shapes7).bind fun q8 =>
 (generic_Size o1 o2 o3 o4 o5).bind fun q9 =>
 let tr10 := q9.1;
 let tr11 := q9.2;
 (refine_Size o6).bind fun q12 =>
 let tr13 := q12.1;
 let tr14 := q12.2;
 (if q8 < 0 then
 none
 else
 let t15 := ishl .i64 1 q8;
 let t16 := IntKind.i64.wrap (241 + t15);
 let t17 := IntKind.i64.wrap (t16 - 1);
 let t18 := IntKind.i64.wrap (t17 + tr10);
 let t19 := IntKind.i64.wrap (t18 + tr13);
 some (o1, o2, o3, o4, o5, o6, q8, t17, t18, t19)) := (call_eq ..).trans (by kernel_rfl)

theorem symbol_layout_model_eq (x1 x2 x3 : Int) (x4 : Bool) (x5 x6 x7 x8 x9 x10 kept11 : Int) (kept12 : List Int) : symbol_layout_model x1 x2 x3 x4 x5 x6 x7 x8 x9 x10 kept11 kept12 =
 (coder_New x5 x10).bind fun q13 =>
 let tr14 := q13.1;
 let tr15 := q13.2.1;
 let tr16 := q13.2.2;
 (if 0 ≤ x8 ∧ x8 ≤ ((tr16.length : Nat) : Int) then
 let w17 : List Int := tr16.take x8.toNat ++ kept12.take (min kept12.length (tr16.length - x8.toNat)) ++ tr16.drop (x8.toNat + min kept12.length (tr16.length - x8.toNat));
 some (tr14, w17)
 else
 none) := (call_eq ..).trans (by kernel_rfl)

theorem coder_NewEncoder_eq (m1 : Int) (m2 : List Int) : coder_NewEncoder m1 m2 =
 (coder_Valid m1 m2).bind fun q3 =>
 (if (!q3) = true then
 some (Sum.inr ())
 else
 (coder_begin m1 m2).bind fun q4 =>
 let tr5 := q4.1;
 let tr6 := q4.2.1;
 let tr7 := q4.2.2.1;
 let tr8 := q4.2.2.2;
 some (Sum.inl (tr5, tr6, tr7, tr8, []))) := (call_eq ..).trans (by kernel_rfl)

theorem slices_Clone_api_Bitmap_api_Bitmap_eq (s1 : List Bitmap) : slices_Clone_api_Bitmap_api_Bitmap s1 =
 (if s1.length = 0 then
 (demon
 (some [])
 ((if (([] : List Bitmap).length + s1.length) * 40 ≤ 140737488355328 then
 let t2 : List Bitmap := ([] : List Bitmap) ++ s1;
 some t2
 else
 none)))
 else
 (if (([] : List Bitmap).length + s1.length) * 40 ≤ 140737488355328 then
 let t3 : List Bitmap := ([] : List Bitmap) ++ s1;
 some t3
 else
 none)) := (call_eq ..).trans (by kernel_rfl)

noncomputable def symbol_writer_shapes_loop6 (e37 : Shape) (s56 : (List Shape) × Int × Int × Int × Int × Bool × Int × Int × Int × Int × Int × Int × Int × Int × Int × (List Int) × (List Int) × (List Bitmap)) : Option (((List Shape) × Int × Int × Int × Int × Bool × Int × Int × Int × Int × Int × Int × Int × Int × Int × (List Int) × (List Int) × (List Bitmap)) ⊕ ((List Shape) × Int × Int × Int × Bool × Int × Int × Int × Int × Int × Int × Int × Int × Int × (List Int) × (List Int) × (List Bitmap))) :=
 let l57 := s56.1;
 let width58 := s56.2.1;
 let b59 := s56.2.2.1;
 let b60 := s56.2.2.2.1;
 let b61 := s56.2.2.2.2.1;
 let b62 := s56.2.2.2.2.2.1;
 let b63 := s56.2.2.2.2.2.2.1;
 let b64 := s56.2.2.2.2.2.2.2.1;
 let b65 := s56.2.2.2.2.2.2.2.2.1;
 let b66 := s56.2.2.2.2.2.2.2.2.2.1;
 let b67 := s56.2.2.2.2.2.2.2.2.2.2.1;
 let b68 := s56.2.2.2.2.2.2.2.2.2.2.2.1;
 let b69 := s56.2.2.2.2.2.2.2.2.2.2.2.2.1;
 let b70 := s56.2.2.2.2.2.2.2.2.2.2.2.2.2.1;
 let b71 := s56.2.2.2.2.2.2.2.2.2.2.2.2.2.2.1;
 let b72 := s56.2.2.2.2.2.2.2.2.2.2.2.2.2.2.2.1;
 let b73 := s56.2.2.2.2.2.2.2.2.2.2.2.2.2.2.2.2.1;
 let b74 := s56.2.2.2.2.2.2.2.2.2.2.2.2.2.2.2.2.2;
 ((if (decide (((l57.length : Nat) : Int) > 0)) = true then
 (if 0 ≤ (0 : Int) then
 (l57[(0 : Int).toNat]?).bind fun e75 =>
 some (decide (e75.pix_h = e37.pix_h))
 else
 none)
 else
 some false) : Option (Bool)).bind (fun v76 =>
 (if v76 = true then
 (if 0 ≤ (0 : Int) then
 (l57[(0 : Int).toNat]?).bind fun e77 =>
 let t78 := IntKind.i64.wrap (e77.pix_w - width58);
 (symbol_writer_put 48 t78 b59 b60 b61 b62 b63 b64 b65 b66 b67 b68 b69 b70 b71 b72 b73 b74).bind fun q79 =>
 let tr80 := q79.1;
 let tr81 := q79.2.1;
 let tr82 := q79.2.2.1;
 let tr83 := q79.2.2.2.1;
 let tr84 := q79.2.2.2.2.1;
 let tr85 := q79.2.2.2.2.2.1;
 let tr86 := q79.2.2.2.2.2.2.1;
 let tr87 := q79.2.2.2.2.2.2.2.1;
 let tr88 := q79.2.2.2.2.2.2.2.2.1;
 let tr89 := q79.2.2.2.2.2.2.2.2.2.1;
 let tr90 := q79.2.2.2.2.2.2.2.2.2.2.1;
 let tr91 := q79.2.2.2.2.2.2.2.2.2.2.2.1;
 let tr92 := q79.2.2.2.2.2.2.2.2.2.2.2.2.1;
 let tr93 := q79.2.2.2.2.2.2.2.2.2.2.2.2.2.1;
 let tr94 := q79.2.2.2.2.2.2.2.2.2.2.2.2.2.2.1;
 let tr95 := q79.2.2.2.2.2.2.2.2.2.2.2.2.2.2.2;
 (if 0 ≤ (0 : Int) then
 (l57[(0 : Int).toNat]?).bind fun e96 =>
 (if 0 ≤ (0 : Int) then
 (l57[(0 : Int).toNat]?).bind fun e97 =>
 (symbol_writer_shape e97.pix_w e97.pix_h e97.pix_pix e97.from_ tr80 tr81 tr82 tr83 tr84 tr85 tr86 tr87 tr88 tr89 tr90 tr91 tr92 tr93 tr94 tr95).bind fun q98 =>
 let tr99 := q98.1;
 let tr100 := q98.2.1;
 let tr101 := q98.2.2.1;
 let tr102 := q98.2.2.2.1;
 let tr103 := q98.2.2.2.2.1;
 let tr104 := q98.2.2.2.2.2.1;
 let tr105 := q98.2.2.2.2.2.2.1;
 let tr106 := q98.2.2.2.2.2.2.2.1;
 let tr107 := q98.2.2.2.2.2.2.2.2.1;
 let tr108 := q98.2.2.2.2.2.2.2.2.2.1;
 let tr109 := q98.2.2.2.2.2.2.2.2.2.2.1;
 let tr110 := q98.2.2.2.2.2.2.2.2.2.2.2.1;
 let tr111 := q98.2.2.2.2.2.2.2.2.2.2.2.2.1;
 let tr112 := q98.2.2.2.2.2.2.2.2.2.2.2.2.2.1;
 let tr113 := q98.2.2.2.2.2.2.2.2.2.2.2.2.2.2.1;
 let tr114 := q98.2.2.2.2.2.2.2.2.2.2.2.2.2.2.2;
 (if 0 ≤ (1 : Int) ∧ (1 : Int) ≤ ((l57.length : Nat) : Int) then
 let t115 : List Shape := cutL l57 ((1 : Int).toNat) l57.length;
 some (Sum.inl (t115, e96.pix_w, tr99, tr100, tr101, tr102, tr103, tr104, tr105, tr106, tr107, tr108, tr109, tr110, tr111, tr112, tr113, tr114))
 else
 none)
 else
 none)
 else
 none)
 else
 none)
 else
 some (Sum.inr (l57, b59, b60, b61, b62, b63, b64, b65, b66, b67, b68, b69, b70, b71, b72, b73, b74))))
noncomputable def symbol_writer_shapes_loop1 (s18 : (List Shape) × Int × Int × Int × Int × Bool × Int × Int × Int × Int × Int × Int × Int × Int × Int × (List Int) × (List Int) × (List Bitmap)) : Option (((List Shape) × Int × Int × Int × Int × Bool × Int × Int × Int × Int × Int × Int × Int × Int × Int × (List Int) × (List Int) × (List Bitmap)) ⊕ (Int × Int × Int × Bool × Int × Int × Int × Int × Int × Int × Int × Int × Int × (List Int) × (List Int) × (List Bitmap))) :=
 let l19 := s18.1;
 let height20 := s18.2.1;
 let b21 := s18.2.2.1;
 let b22 := s18.2.2.2.1;
 let b23 := s18.2.2.2.2.1;
 let b24 := s18.2.2.2.2.2.1;
 let b25 := s18.2.2.2.2.2.2.1;
 let b26 := s18.2.2.2.2.2.2.2.1;
 let b27 := s18.2.2.2.2.2.2.2.2.1;
 let b28 := s18.2.2.2.2.2.2.2.2.2.1;
 let b29 := s18.2.2.2.2.2.2.2.2.2.2.1;
 let b30 := s18.2.2.2.2.2.2.2.2.2.2.2.1;
 let b31 := s18.2.2.2.2.2.2.2.2.2.2.2.2.1;
 let b32 := s18.2.2.2.2.2.2.2.2.2.2.2.2.2.1;
 let b33 := s18.2.2.2.2.2.2.2.2.2.2.2.2.2.2.1;
 let b34 := s18.2.2.2.2.2.2.2.2.2.2.2.2.2.2.2.1;
 let b35 := s18.2.2.2.2.2.2.2.2.2.2.2.2.2.2.2.2.1;
 let b36 := s18.2.2.2.2.2.2.2.2.2.2.2.2.2.2.2.2.2;
 (if (decide (((l19.length : Nat) : Int) > 0)) = true then
 (if 0 ≤ (0 : Int) then
 (l19[(0 : Int).toNat]?).bind fun e37 =>
 let t38 := IntKind.i64.wrap (e37.pix_h - height20);
 (symbol_writer_put 0 t38 b21 b22 b23 b24 b25 b26 b27 b28 b29 b30 b31 b32 b33 b34 b35 b36).bind fun q39 =>
 let tr40 := q39.1;
 let tr41 := q39.2.1;
 let tr42 := q39.2.2.1;
 let tr43 := q39.2.2.2.1;
 let tr44 := q39.2.2.2.2.1;
 let tr45 := q39.2.2.2.2.2.1;
 let tr46 := q39.2.2.2.2.2.2.1;
 let tr47 := q39.2.2.2.2.2.2.2.1;
 let tr48 := q39.2.2.2.2.2.2.2.2.1;
 let tr49 := q39.2.2.2.2.2.2.2.2.2.1;
 let tr50 := q39.2.2.2.2.2.2.2.2.2.2.1;
 let tr51 := q39.2.2.2.2.2.2.2.2.2.2.2.1;
 let tr52 := q39.2.2.2.2.2.2.2.2.2.2.2.2.1;
 let tr53 := q39.2.2.2.2.2.2.2.2.2.2.2.2.2.1;
 let tr54 := q39.2.2.2.2.2.2.2.2.2.2.2.2.2.2.1;
 let tr55 := q39.2.2.2.2.2.2.2.2.2.2.2.2.2.2.2;
 (loop (symbol_writer_shapes_loop6 e37) (l19, 0, tr40, tr41, tr42, tr43, tr44, tr45, tr46, tr47, tr48, tr49, tr50, tr51, tr52, tr53, tr54, tr55)).bind (fun p116 =>
 let l117 := p116.1;
 let b118 := p116.2.1;
 let b119 := p116.2.2.1;
 let b120 := p116.2.2.2.1;
 let b121 := p116.2.2.2.2.1;
 let b122 := p116.2.2.2.2.2.1;
 let b123 := p116.2.2.2.2.2.2.1;
 let b124 := p116.2.2.2.2.2.2.2.1;
 let b125 := p116.2.2.2.2.2.2.2.2.1;
 let b126 := p116.2.2.2.2.2.2.2.2.2.1;
 let b127 := p116.2.2.2.2.2.2.2.2.2.2.1;
 let b128 := p116.2.2.2.2.2.2.2.2.2.2.2.1;
 let b129 := p116.2.2.2.2.2.2.2.2.2.2.2.2.1;
 let b130 := p116.2.2.2.2.2.2.2.2.2.2.2.2.2.1;
 let b131 := p116.2.2.2.2.2.2.2.2.2.2.2.2.2.2.1;
 let b132 := p116.2.2.2.2.2.2.2.2.2.2.2.2.2.2.2.1;
 let b133 := p116.2.2.2.2.2.2.2.2.2.2.2.2.2.2.2.2;
 (number_Put 48 true 0 b128 b129 b130 b131 b132).bind fun q134 =>
 let tr135 := q134.1;
 let tr136 := q134.2.1;
 let tr137 := q134.2.2.1;
 let tr138 := q134.2.2.2.1;
 let tr139 := q134.2.2.2.2.1;
 let tr140 := q134.2.2.2.2.2;
 some (Sum.inl (l117, e37.pix_h, b118, b119, b120, b121, b122, b123, b124, b125, b126, b127, tr136, tr137, tr138, tr139, tr140, b133)))
 else
 none)
 else
 some (Sum.inr (b21, b22, b23, b24, b25, b26, b27, b28, b29, b30, b31, b32, b33, b34, b35, b36)))
theorem symbol_writer_shapes_eq (l1 : List Shape) (b2 b3 b4 : Int) (b5 : Bool) (b6 b7 b8 b9 b10 b11 b12 b13 b14 : Int) (b15 b16 : List Int) (b17 : List Bitmap) : symbol_writer_shapes l1 b2 b3 b4 b5 b6 b7 b8 b9 b10 b11 b12 b13 b14 b15 b16 b17 =
 (loop (symbol_writer_shapes_loop1) (l1, 0, b2, b3, b4, b5, b6, b7, b8, b9, b10, b11, b12, b13, b14, b15, b16, b17)).bind (fun p141 =>
 let b142 := p141.1;
 let b143 := p141.2.1;
 let b144 := p141.2.2.1;
 let b145 := p141.2.2.2.1;
 let b146 := p141.2.2.2.2.1;
 let b147 := p141.2.2.2.2.2.1;
 let b148 := p141.2.2.2.2.2.2.1;
 let b149 := p141.2.2.2.2.2.2.2.1;
 let b150 := p141.2.2.2.2.2.2.2.2.1;
 let b151 := p141.2.2.2.2.2.2.2.2.2.1;
 let b152 := p141.2.2.2.2.2.2.2.2.2.2.1;
 let b153 := p141.2.2.2.2.2.2.2.2.2.2.2.1;
 let b154 := p141.2.2.2.2.2.2.2.2.2.2.2.2.1;
 let b155 := p141.2.2.2.2.2.2.2.2.2.2.2.2.2.1;
 let b156 := p141.2.2.2.2.2.2.2.2.2.2.2.2.2.2.1;
 let b157 := p141.2.2.2.2.2.2.2.2.2.2.2.2.2.2.2;
 some (b142, b143, b144, b145, b146, b147, b148, b149, b150, b151, b152, b153, b154, b155, b156, b157)) := (call_eq ..).trans (by kernel_rfl)

noncomputable def symbol_writer_flags_loop4 (export19 : List Bool) (value20 : Bool) (n37 : Int) : Option ((Int) ⊕ (Int)) :=
 (if (decide (n37 < ((export19.length : Nat) : Int))) = true then
 (if 0 ≤ n37 then
 (export19[n37.toNat]?).bind fun e38 =>
 (if (decide (e38 = value20)) = true then
 let t39 := IntKind.i64.wrap (n37 + 1);
 some (Sum.inl t39)
 else
 some (Sum.inr n37))
 else
 none)
 else
 some (Sum.inr n37))
noncomputable def symbol_writer_flags_loop1 (s18 : (List Bool) × Bool × Int × Int × Int × Bool × Int × Int × Int × Int × Int × Int × Int × Int × Int × (List Int) × (List Int) × (List Bitmap)) : Option (((List Bool) × Bool × Int × Int × Int × Bool × Int × Int × Int × Int × Int × Int × Int × Int × Int × (List Int) × (List Int) × (List Bitmap)) ⊕ (Int × Int × Int × Bool × Int × Int × Int × Int × Int × Int × Int × Int × Int × (List Int) × (List Int) × (List Bitmap))) :=
 let export19 := s18.1;
 let value20 := s18.2.1;
 let b21 := s18.2.2.1;
 let b22 := s18.2.2.2.1;
 let b23 := s18.2.2.2.2.1;
 let b24 := s18.2.2.2.2.2.1;
 let b25 := s18.2.2.2.2.2.2.1;
 let b26 := s18.2.2.2.2.2.2.2.1;
 let b27 := s18.2.2.2.2.2.2.2.2.1;
 let b28 := s18.2.2.2.2.2.2.2.2.2.1;
 let b29 := s18.2.2.2.2.2.2.2.2.2.2.1;
 let b30 := s18.2.2.2.2.2.2.2.2.2.2.2.1;
 let b31 := s18.2.2.2.2.2.2.2.2.2.2.2.2.1;
 let b32 := s18.2.2.2.2.2.2.2.2.2.2.2.2.2.1;
 let b33 := s18.2.2.2.2.2.2.2.2.2.2.2.2.2.2.1;
 let b34 := s18.2.2.2.2.2.2.2.2.2.2.2.2.2.2.2.1;
 let b35 := s18.2.2.2.2.2.2.2.2.2.2.2.2.2.2.2.2.1;
 let b36 := s18.2.2.2.2.2.2.2.2.2.2.2.2.2.2.2.2.2;
 (if (decide (((export19.length : Nat) : Int) > 0)) = true then
 (loop (symbol_writer_flags_loop4 export19 value20) 0).bind (fun n40 =>
 (symbol_writer_put 192 n40 b21 b22 b23 b24 b25 b26 b27 b28 b29 b30 b31 b32 b33 b34 b35 b36).bind fun q41 =>
 let tr42 := q41.1;
 let tr43 := q41.2.1;
 let tr44 := q41.2.2.1;
 let tr45 := q41.2.2.2.1;
 let tr46 := q41.2.2.2.2.1;
 let tr47 := q41.2.2.2.2.2.1;
 let tr48 := q41.2.2.2.2.2.2.1;
 let tr49 := q41.2.2.2.2.2.2.2.1;
 let tr50 := q41.2.2.2.2.2.2.2.2.1;
 let tr51 := q41.2.2.2.2.2.2.2.2.2.1;
 let tr52 := q41.2.2.2.2.2.2.2.2.2.2.1;
 let tr53 := q41.2.2.2.2.2.2.2.2.2.2.2.1;
 let tr54 := q41.2.2.2.2.2.2.2.2.2.2.2.2.1;
 let tr55 := q41.2.2.2.2.2.2.2.2.2.2.2.2.2.1;
 let tr56 := q41.2.2.2.2.2.2.2.2.2.2.2.2.2.2.1;
 let tr57 := q41.2.2.2.2.2.2.2.2.2.2.2.2.2.2.2;
 (if 0 ≤ n40 ∧ n40 ≤ ((export19.length : Nat) : Int) then
 let t58 : List Bool := cutL export19 n40.toNat export19.length;
 some (Sum.inl (t58, !value20, tr42, tr43, tr44, tr45, tr46, tr47, tr48, tr49, tr50, tr51, tr52, tr53, tr54, tr55, tr56, tr57))
 else
 none))
 else
 some (Sum.inr (b21, b22, b23, b24, b25, b26, b27, b28, b29, b30, b31, b32, b33, b34, b35, b36)))
theorem symbol_writer_flags_eq (export1 : List Bool) (b2 b3 b4 : Int) (b5 : Bool) (b6 b7 b8 b9 b10 b11 b12 b13 b14 : Int) (b15 b16 : List Int) (b17 : List Bitmap) : symbol_writer_flags export1 b2 b3 b4 b5 b6 b7 b8 b9 b10 b11 b12 b13 b14 b15 b16 b17 =
 (loop (symbol_writer_flags_loop1) (export1, false, b2, b3, b4, b5, b6, b7, b8, b9, b10, b11, b12, b13, b14, b15, b16, b17)).bind (fun p59 =>
 let b60 := p59.1;
 let b61 := p59.2.1;
 let b62 := p59.2.2.1;
 let b63 := p59.2.2.2.1;
 let b64 := p59.2.2.2.2.1;
 let b65 := p59.2.2.2.2.2.1;
 let b66 := p59.2.2.2.2.2.2.1;
 let b67 := p59.2.2.2.2.2.2.2.1;
 let b68 := p59.2.2.2.2.2.2.2.2.1;
 let b69 := p59.2.2.2.2.2.2.2.2.2.1;
 let b70 := p59.2.2.2.2.2.2.2.2.2.2.1;
 let b71 := p59.2.2.2.2.2.2.2.2.2.2.2.1;
 let b72 := p59.2.2.2.2.2.2.2.2.2.2.2.2.1;
 let b73 := p59.2.2.2.2.2.2.2.2.2.2.2.2.2.1;
 let b74 := p59.2.2.2.2.2.2.2.2.2.2.2.2.2.2.1;
 let b75 := p59.2.2.2.2.2.2.2.2.2.2.2.2.2.2.2;
 some (b60, b61, b62, b63, b64, b65, b66, b67, b68, b69, b70, b71, b72, b73, b74, b75)) := (call_eq ..).trans (by kernel_rfl)

noncomputable def coder_Encoder_End_loop10 (tr10 v15 : Int) (s22 : Int × (List Int)) : Option ((Int × (List Int)) ⊕ ((List Int))) :=
 let v23 := s22.1;
 let out24 := s22.2;
 (if (decide (v23 < v15)) = true then
 let t25 := IntKind.i64.wrap (8 * v23);
 let t26 := IntKind.i64.wrap (24 - t25);
 (if t26 < 0 then
 none
 else
 let t27 := ishr .u64 tr10 t26;
 let t28 := IntKind.u8.wrap t27;
 (if (out24.length + ([t28] : List Int).length) * 1 ≤ 140737488355328 then
 let t29 : List Int := out24 ++ [t28];
 let t30 := IntKind.i64.wrap (v23 + 1);
 some (Sum.inl (t30, t29))
 else
 none))
 else
 some (Sum.inr out24))

noncomputable def coder_Encoder_End_loop5 (tr9 tr10 : Int) (s14 : Int × (List Int)) : Option ((Int × (List Int)) ⊕ (((List Int)) ⊕ ((List Int)))) :=
 let v15 := s14.1;
 let out16 := s14.2;
 (if (decide (v15 < 5)) = true then
 let t17 := IntKind.i64.wrap (8 * v15);
 let t18 := IntKind.i64.wrap (32 - t17);
 let t19 := IntKind.u64.wrap t18;
 (if t19 < 0 then
 none
 else
 let t20 := ishr .u64 tr10 t19;
 (if t19 < 0 then
 none
 else
 let t21 := ishl .u64 t20 t19;
 (if (decide (t21 ≥ tr9)) = true then
 (loop (coder_Encoder_End_loop10 tr10 v15) (0, out16)).bind (fun out34 =>
 some (Sum.inr (Sum.inr out34)))
 else
 let t35 := IntKind.i64.wrap (v15 + 1);
 some (Sum.inl (t35, out16)))))
 else
 some (Sum.inr (Sum.inl out16)))

theorem coder_Encoder_End_eq (b1 b2 b3 : Int) (b4 b5 : List Int) : coder_Encoder_End b1 b2 b3 b4 b5 =
 (coder_Encoder_none b1 b2 b3 b4 b5).bind fun q6 =>
 let tr7 := q6.1;
 let tr8 := q6.2.1;
 let tr9 := q6.2.2.1;
 let tr10 := q6.2.2.2.1;
 let tr11 := q6.2.2.2.2.1;
 let tr12 := q6.2.2.2.2.2;
 (if tr7 = true then
 some ([], tr8, tr9, tr10, tr11, tr12)
 else
 (if (([] : List Int).length + tr12.length) * 1 ≤ 140737488355328 then
 let t13 : List Int := ([] : List Int) ++ tr12;
 (loop (coder_Encoder_End_loop5 tr9 tr10) (0, t13)).bind (fun o41 =>
 (Sum.elim (fun (out39 : (List Int)) =>
 some (out39, tr8, tr9, tr10, tr11, tr12))
 (fun (b40 : (List Int)) =>
 some (b40, tr8, tr9, tr10, tr11, tr12)) o41))
 else
 none)) := (call_eq ..).trans (by kernel_rfl)

theorem coder_Encoder_Model_eq (b1 b2 b3 : Int) (b4 b5 : List Int) : coder_Encoder_Model b1 b2 b3 b4 b5 =
 (coder_Encoder_none b1 b2 b3 b4 b5).bind fun q6 =>
 let tr7 := q6.1;
 let tr8 := q6.2.1;
 let tr9 := q6.2.2.1;
 let tr10 := q6.2.2.2.1;
 let tr11 := q6.2.2.2.2.1;
 let tr12 := q6.2.2.2.2.2;
 (if tr7 = true then
 some (0, [], tr8, tr9, tr10, tr11, tr12)
 else
 (coder_clone tr8 tr11).bind fun q13 =>
 let tr14 := q13.1;
 let tr15 := q13.2;
 some (tr14, tr15, tr8, tr9, tr10, tr11, tr12)) := (call_eq ..).trans (by kernel_rfl)

theorem symbol_layout_after_eq (x1 x2 x3 : Int) (x4 : Bool) (x5 x6 x7 x8 x9 x10 m11 : Int) (m12 : List Int) : symbol_layout_after x1 x2 x3 x4 x5 x6 x7 x8 x9 x10 m11 m12 =
 (if 0 ≤ x8 ∧ x8 ≤ ((m12.length : Nat) : Int) then
 let t13 : List Int := cutL m12 x8.toNat m12.length;
 (slices_Clone_int_int t13).bind fun q14 =>
 some (m11, q14)
 else
 none) := (call_eq ..).trans (by kernel_rfl)

noncomputable def bits_Size_loop5 (s6 : Int × (List Int)) : Option ((Int × (List Int)) ⊕ ((List Int))) :=
 let n7 := s6.1;
 let out8 := s6.2;
 (if (decide (n7 > 0)) = true then
 let t9 : Int := n7.tmod 128;
 let t10 := IntKind.u8.wrap t9;
 let t11 := IntKind.u8.wrap (t10 + 128);
 (if (([t11] : List Int).length + out8.length) * 1 ≤ 140737488355328 then
 let t12 : List Int := ([t11] : List Int) ++ out8;
 let t13 := IntKind.i64.wrap (n7.tdiv 128);
 some (Sum.inl (t13, t12))
 else
 none)
 else
 some (Sum.inr out8))
theorem bits_Size_eq (n1 : Int) : bits_Size n1 =
 ((if (decide (n1 < 0)) = true then
 some true
 else
 some (decide (n1 > 2147483647))) : Option (Bool)).bind (fun v2 =>
 (if v2 = true then
 some ([], 2)
 else
 let t3 : Int := n1.tmod 128;
 let t4 := IntKind.u8.wrap t3;
 let t5 := IntKind.i64.wrap (n1.tdiv 128);
 (loop (bits_Size_loop5) (t5, [t4])).bind (fun out14 =>
 some (out14, 0)))) := (call_eq ..).trans (by kernel_rfl)

noncomputable def ref09_given_loop6 (old9 : List Bitmap) (i12 : Int) : Option ((Int) ⊕ ((Unit) ⊕ (Int))) :=
 (if (decide (i12 < ((old9.length : Nat) : Int))) = true then
 (if 0 ≤ i12 then
 (old9[i12.toNat]?).bind fun e13 =>
 (ref09_IsShape e13.w e13.h e13.pix).bind fun q14 =>
 (if (!q14) = true then
 some (Sum.inr (Sum.inr 30))
 else
 let t15 := IntKind.i64.wrap (i12 + 1);
 some (Sum.inl t15))
 else
 none)
 else
 some (Sum.inr (Sum.inl ())))
noncomputable def ref09_given_loop6_step (i16 : Nat) (x17 : Bitmap) (s18 : Unit) : Option ((Unit) ⊕ ((Unit) ⊕ (Int))) :=
 (ref09_IsShape x17.w x17.h x17.pix).bind fun q14 =>
 (if (!q14) = true then
 some (Sum.inr (Sum.inr 30))
 else
 some (Sum.inl (())))
theorem ref09_given_loop6_over (old9 : List Bitmap) (hl : old9.length ≤ 9223372036854775807) (s18 : Unit) : loop (ref09_given_loop6 old9) (0 : Int) =
    overL (ref09_given_loop6_step) (fun (s18 : Unit) => some (Sum.inl ())) 0 old9 s18 := by
  refine loop_over old9 (fun n (s : Unit) => (((n : Nat) : Int) : Int)) _ _ (fun s => ?_) (fun i x s h => ?_) 0 s18 (Nat.zero_le _)
  · unfold ref09_given_loop6; simp
  · have hlt := lt_len_of_get h
    have h1 : ((i : Nat) : Int) < ((old9.length : Nat) : Int) := by omega
    have h0 : (0 : Int) ≤ ((i : Nat) : Int) := by omega
    have hw : IntKind.i64.wrap (((i : Nat) : Int) + 1) = (((i + 1 : Nat) : Nat) : Int) := w64 (by omega)
    unfold ref09_given_loop6 ref09_given_loop6_step
    simp only [h1, h0, hw, h, decide_true, if_true, and_self, true_and, Int.toNat_natCast, Option.bind_some, Option.map_bind, Function.comp_def, map_ite, map_elim, Option.map_some, Option.map_none]

theorem ref09_given_eq (o1 o2 o3 : Int) (o4 : Bool) (o5 o6 kept7 : Int) (kept8 : List Int) (old9 : List Bitmap) : ref09_given o1 o2 o3 o4 o5 o6 kept7 kept8 old9 =
 (ref09_Valid o1 o2 o3 o4 o5 o6).bind fun q10 =>
 (if (!q10) = true then
 some 2
 else
 (ref09_Fits o1 o2 o3 o4 o5 o6 kept7 kept8).bind fun q11 =>
 (if (!q11) = true then
 some 10
 else
 (loop (ref09_given_loop6 old9) 0).bind (fun o21 =>
 (Sum.elim (fun (p19 : Unit) =>
 some 0)
 (fun (v20 : Int) =>
 some v20) o21)))) := (call_eq ..).trans (by kernel_rfl)
end
end Go.Proofs.YtkccnhkhjncpkaaGreat.P
