/- The equations of functions. Printed by wip/tool/vsym.py. -/
import Derived.Test.YtkccnhkhjncpkaaGreatG
import Derived.Test.YtkccnhkhjncpkaaGreatLib
namespace Go.Proofs.YtkccnhkhjncpkaaGreat.P
open Go Go.Proofs.YtkccnhkhjncpkaaGreat.V
set_option linter.unusedVariables false
set_option linter.unusedSimpArgs false
set_option maxRecDepth 100000
noncomputable section
noncomputable def ref09_shapes_loop2 (l2 : List Shape) (i4 : Int) : Option ((Int) ⊕ ((Unit) ⊕ (Int))) :=
 (if (decide (i4 < ((l2.length : Nat) : Int))) = true then
 (if 0 ≤ i4 then
 (l2[i4.toNat]?).bind fun e5 =>
 (ref09_IsShape e5.pix_w e5.pix_h e5.pix_pix).bind fun q6 =>
 (if (!q6) = true then
 some (Sum.inr (Sum.inr 30))
 else
 let t7 := IntKind.i64.wrap (i4 + 1);
 some (Sum.inl t7))
 else
 none)
 else
 some (Sum.inr (Sum.inl ())))
noncomputable def ref09_shapes_loop2_step (i8 : Nat) (x9 : Shape) (s10 : Unit) : Option ((Unit) ⊕ ((Unit) ⊕ (Int))) :=
 (ref09_IsShape x9.pix_w x9.pix_h x9.pix_pix).bind fun q6 =>
 (if (!q6) = true then
 some (Sum.inr (Sum.inr 30))
 else
 some (Sum.inl (())))
theorem ref09_shapes_loop2_over (l2 : List Shape) (hl : l2.length ≤ 9223372036854775807) (s10 : Unit) : loop (ref09_shapes_loop2 l2) (0 : Int) =
    overL (ref09_shapes_loop2_step) (fun (s10 : Unit) => some (Sum.inl ())) 0 l2 s10 := by
  refine loop_over l2 (fun n (s : Unit) => (((n : Nat) : Int) : Int)) _ _ (fun s => ?_) (fun i x s h => ?_) 0 s10 (Nat.zero_le _)
  · unfold ref09_shapes_loop2; simp
  · have hlt := lt_len_of_get h
    have h1 : ((i : Nat) : Int) < ((l2.length : Nat) : Int) := by omega
    have h0 : (0 : Int) ≤ ((i : Nat) : Int) := by omega
    have hw : IntKind.i64.wrap (((i : Nat) : Int) + 1) = (((i + 1 : Nat) : Nat) : Int) := w64 (by omega)
    unfold ref09_shapes_loop2 ref09_shapes_loop2_step
    simp only [h1, h0, hw, h, decide_true, if_true, and_self, true_and, Int.toNat_natCast, Option.bind_some, Option.map_bind, Function.comp_def, map_ite, map_elim, Option.map_some, Option.map_none]

noncomputable def ref09_shapes_loop7 (old1 : List Bitmap) (l2 : List Shape) (i14 : Int) : Option ((Int) ⊕ ((Unit) ⊕ (Int))) :=
 (if (decide (i14 < ((l2.length : Nat) : Int))) = true then
 (if 0 ≤ i14 then
 (l2[i14.toNat]?).bind fun e15 =>
 (if (decide (e15.from_ < (-1))) = true then
 some (Sum.inr (Sum.inr 2))
 else
 (if 0 ≤ i14 then
 (l2[i14.toNat]?).bind fun e16 =>
 let t17 := IntKind.i64.wrap (((old1.length : Nat) : Int) + i14);
 (if (decide (e16.from_ ≥ t17)) = true then
 some (Sum.inr (Sum.inr 2))
 else
 (if (decide (i14 > 0)) = true then
 (if 0 ≤ i14 then
 (l2[i14.toNat]?).bind fun e18 =>
 let t19 := IntKind.i64.wrap (i14 - 1);
 (if 0 ≤ t19 then
 (l2[t19.toNat]?).bind fun e20 =>
 (if (decide (e18.pix_h < e20.pix_h)) = true then
 some (Sum.inr (Sum.inr 2))
 else
 let t21 := IntKind.i64.wrap (i14 + 1);
 some (Sum.inl t21))
 else
 none)
 else
 none)
 else
 let t22 := IntKind.i64.wrap (i14 + 1);
 some (Sum.inl t22)))
 else
 none))
 else
 none)
 else
 some (Sum.inr (Sum.inl ())))
noncomputable def ref09_shapes_loop7_step (old1 : List Bitmap) (l2 : List Shape) (i23 : Nat) (x24 : Shape) (s25 : Unit) : Option ((Unit) ⊕ ((Unit) ⊕ (Int))) :=
 (if (decide (x24.from_ < (-1))) = true then
 some (Sum.inr (Sum.inr 2))
 else
 let t17 := IntKind.i64.wrap (((old1.length : Nat) : Int) + ((i23 : Nat) : Int));
 (if (decide (x24.from_ ≥ t17)) = true then
 some (Sum.inr (Sum.inr 2))
 else
 (if (decide (((i23 : Nat) : Int) > 0)) = true then
 let t19 := IntKind.i64.wrap (((i23 : Nat) : Int) - 1);
 (if 0 ≤ t19 then
 (l2[t19.toNat]?).bind fun e20 =>
 (if (decide (x24.pix_h < e20.pix_h)) = true then
 some (Sum.inr (Sum.inr 2))
 else
 some (Sum.inl (())))
 else
 none)
 else
 some (Sum.inl (())))))
theorem ref09_shapes_loop7_over (old1 : List Bitmap) (l2 : List Shape) (hl : l2.length ≤ 9223372036854775807) (s25 : Unit) : loop (ref09_shapes_loop7 old1 l2) (0 : Int) =
    overL (ref09_shapes_loop7_step old1 l2) (fun (s25 : Unit) => some (Sum.inl ())) 0 l2 s25 := by
  refine loop_over l2 (fun n (s : Unit) => (((n : Nat) : Int) : Int)) _ _ (fun s => ?_) (fun i x s h => ?_) 0 s25 (Nat.zero_le _)
  · unfold ref09_shapes_loop7; simp
  · have hlt := lt_len_of_get h
    have h1 : ((i : Nat) : Int) < ((l2.length : Nat) : Int) := by omega
    have h0 : (0 : Int) ≤ ((i : Nat) : Int) := by omega
    have hw : IntKind.i64.wrap (((i : Nat) : Int) + 1) = (((i + 1 : Nat) : Nat) : Int) := w64 (by omega)
    unfold ref09_shapes_loop7 ref09_shapes_loop7_step
    simp only [h1, h0, hw, h, decide_true, if_true, and_self, true_and, Int.toNat_natCast, Option.bind_some, Option.map_bind, Function.comp_def, map_ite, map_elim, Option.map_some, Option.map_none]

theorem ref09_shapes_eq (old1 : List Bitmap) (l2 : List Shape) (export3 : List Bool) : ref09_shapes old1 l2 export3 =
 (loop (ref09_shapes_loop2 l2) 0).bind (fun o13 =>
 (Sum.elim (fun (p11 : Unit) =>
 (loop (ref09_shapes_loop7 old1 l2) 0).bind (fun o28 =>
 (Sum.elim (fun (p26 : Unit) =>
 let t29 := IntKind.i64.wrap (((old1.length : Nat) : Int) + ((l2.length : Nat) : Int));
 (if (decide (t29 > 60)) = true then
 some 2
 else
 let t30 := IntKind.i64.wrap (((old1.length : Nat) : Int) + ((l2.length : Nat) : Int));
 (if (!decide (((export3.length : Nat) : Int) = t30)) = true then
 some 2
 else
 some 0)))
 (fun (v27 : Int) =>
 some v27) o28)))
 (fun (v12 : Int) =>
 some v12) o13)) := (call_eq ..).trans (by kernel_rfl)

theorem ref09_whole_eq (o1 o2 o3 : Int) (o4 : Bool) (o5 o6 kept7 : Int) (kept8 : List Int) (many9 : Int) : ref09_whole o1 o2 o3 o4 o5 o6 kept7 kept8 many9 =
 (ref03_Width many9).bind fun q10 =>
 (if q10 < 0 then
 none
 else
 let t11 := ishl .i64 1 q10;
 let t12 := IntKind.i64.wrap (241 + t11);
 let t13 := IntKind.i64.wrap (t12 - 1);
 (ref09_Kept o1 o2 o3 o4 o5 o6).bind fun q14 =>
 let tr15 := q14.1;
 let tr16 := q14.2;
 let t17 := IntKind.i64.wrap (t13 + tr15);
 (ref02_New o5 t17).bind fun q18 =>
 let tr19 := q18.1;
 let tr20 := q18.2.1;
 let tr21 := q18.2.2;
 (if (decide (((kept8.length : Nat) : Int) > 0)) = true then
 (if 0 ≤ t13 ∧ t13 ≤ ((tr21.length : Nat) : Int) then
 let w22 : List Int := tr21.take t13.toNat ++ kept8.take (min kept8.length (tr21.length - t13.toNat)) ++ tr21.drop (t13.toNat + min kept8.length (tr21.length - t13.toNat));
 some (tr19, w22, t13)
 else
 none)
 else
 some (tr19, tr21, t13))) := (call_eq ..).trans (by kernel_rfl)

theorem ref09_sizes_eq (o1 o2 o3 : Int) (o4 : Bool) (o5 o6 : Int) : ref09_sizes o1 o2 o3 o4 o5 o6 =
 (ref07_Size o1 o2 o3 o4 o5).bind fun q7 =>
 let tr8 := q7.1;
 let tr9 := q7.2;
 (ref08_Size o6).bind fun q10 =>
 let tr11 := q10.1;
 let tr12 := q10.2;
 some (tr8, tr11) := (call_eq ..).trans (by kernel_rfl)

theorem ref02_NewEncoder_eq (m1 : Int) (m2 : List Int) : ref02_NewEncoder m1 m2 =
 (ref02_Valid m1 m2).bind fun q3 =>
 (if (!q3) = true then
 some (Sum.inr ())
 else
 (ref02_Copy m1 m2).bind fun q4 =>
 let tr5 := q4.1;
 let tr6 := q4.2;
 (ref02_Whole).bind fun q7 =>
 let tr8 := q7.1;
 let tr9 := q7.2;
 some (Sum.inl (tr5, tr8, tr9, tr6, []))) := (call_eq ..).trans (by kernel_rfl)

noncomputable def ref09_all_loop3 (l2 : List Shape) (s4 : Int × (List Bitmap)) : Option ((Int × (List Bitmap)) ⊕ ((List Bitmap))) :=
 let i5 := s4.1;
 let out6 := s4.2;
 (if (decide (i5 < ((l2.length : Nat) : Int))) = true then
 (if 0 ≤ i5 then
 (l2[i5.toNat]?).bind fun e7 =>
 (if (out6.length + ([(Bitmap.mk e7.pix_w e7.pix_h e7.pix_pix)] : List Bitmap).length) * 40 ≤ 140737488355328 then
 let t8 : List Bitmap := out6 ++ [(Bitmap.mk e7.pix_w e7.pix_h e7.pix_pix)];
 let t9 := IntKind.i64.wrap (i5 + 1);
 some (Sum.inl (t9, t8))
 else
 none)
 else
 none)
 else
 some (Sum.inr out6))
noncomputable def ref09_all_loop3_step (i10 : Nat) (x11 : Shape) (s12 : (List Bitmap)) : Option (((List Bitmap)) ⊕ ((List Bitmap))) :=
 (if (s12.length + ([(Bitmap.mk x11.pix_w x11.pix_h x11.pix_pix)] : List Bitmap).length) * 40 ≤ 140737488355328 then
 let t8 : List Bitmap := s12 ++ [(Bitmap.mk x11.pix_w x11.pix_h x11.pix_pix)];
 some (Sum.inl (t8))
 else
 none)
theorem ref09_all_loop3_over (l2 : List Shape) (hl : l2.length ≤ 9223372036854775807) (s12 : (List Bitmap)) : loop (ref09_all_loop3 l2) ((0, s12) : Int × (List Bitmap)) =
    overL (ref09_all_loop3_step) (fun (s12 : (List Bitmap)) => some s12) 0 l2 s12 := by
  refine loop_over l2 (fun n (s : (List Bitmap)) => ((((n : Nat) : Int), s) : Int × (List Bitmap))) _ _ (fun s => ?_) (fun i x s h => ?_) 0 s12 (Nat.zero_le _)
  · unfold ref09_all_loop3; simp
  · have hlt := lt_len_of_get h
    have h1 : ((i : Nat) : Int) < ((l2.length : Nat) : Int) := by omega
    have h0 : (0 : Int) ≤ ((i : Nat) : Int) := by omega
    have hw : IntKind.i64.wrap (((i : Nat) : Int) + 1) = (((i + 1 : Nat) : Nat) : Int) := w64 (by omega)
    unfold ref09_all_loop3 ref09_all_loop3_step
    simp only [h1, h0, hw, h, decide_true, if_true, and_self, true_and, Int.toNat_natCast, Option.bind_some, Option.map_bind, Function.comp_def, map_ite, map_elim, Option.map_some, Option.map_none]

theorem ref09_all_eq (old1 : List Bitmap) (l2 : List Shape) : ref09_all old1 l2 =
 (if (([] : List Bitmap).length + old1.length) * 40 ≤ 140737488355328 then
 let t3 : List Bitmap := ([] : List Bitmap) ++ old1;
 (loop (ref09_all_loop3 l2) (0, t3)).bind (fun out13 =>
 some out13)
 else
 none) := (call_eq ..).trans (by kernel_rfl)

noncomputable def ref03_Put_loop5 (base1 : Int) (q26 : (List Event)) (s27 : Int × Int × Int × Int × (List Int) × (List Int)) : Option ((Int × Int × Int × Int × (List Int) × (List Int)) ⊕ (Int × Int × Int × (List Int) × (List Int))) :=
 let i28 := s27.1;
 let b29 := s27.2.1;
 let b30 := s27.2.2.1;
 let b31 := s27.2.2.2.1;
 let b32 := s27.2.2.2.2.1;
 let b33 := s27.2.2.2.2.2;
 (if (decide (i28 < ((q26.length : Nat) : Int))) = true then
 (if 0 ≤ i28 then
 (q26[i28.toNat]?).bind fun e34 =>
 let t35 := IntKind.i64.wrap (base1 + e34.ctx);
 (if 0 ≤ i28 then
 (q26[i28.toNat]?).bind fun e36 =>
 (ref02_Encoder_Put t35 e36.bit b29 b30 b31 b32 b33).bind fun q37 =>
 let tr38 := q37.1;
 let tr39 := q37.2.1;
 let tr40 := q37.2.2.1;
 let tr41 := q37.2.2.2.1;
 let tr42 := q37.2.2.2.2.1;
 let tr43 := q37.2.2.2.2.2;
 let t44 := IntKind.i64.wrap (i28 + 1);
 some (Sum.inl (t44, tr39, tr40, tr41, tr42, tr43))
 else
 none)
 else
 none)
 else
 some (Sum.inr (b29, b30, b31, b32, b33)))
theorem ref03_Put_eq (base1 : Int) (n2 : Bool) (n3 b4 b5 b6 : Int) (b7 b8 : List Int) : ref03_Put base1 n2 n3 b4 b5 b6 b7 b8 =
 ((ref03_Valid n2 n3).bind fun q9 =>
 (if (!q9) = true then
 some (true, b4, b5, b6, b7, b8)
 else
 (ref02_Encoder_Model b4 b5 b6 b7 b8).bind fun q10 =>
 let tr11 := q10.1;
 let tr12 := q10.2.1;
 let tr13 := q10.2.2.1;
 let tr14 := q10.2.2.2.1;
 let tr15 := q10.2.2.2.2.1;
 let tr16 := q10.2.2.2.2.2.1;
 let tr17 := q10.2.2.2.2.2.2;
 (ref03_room ((tr12.length : Nat) : Int) base1 48).bind fun q18 =>
 some (!q18, tr13, tr14, tr15, tr16, tr17)) : Option (Bool × Int × Int × Int × (List Int) × (List Int))).bind (fun p19 =>
 let v20 := p19.1;
 let b21 := p19.2.1;
 let b22 := p19.2.2.1;
 let b23 := p19.2.2.2.1;
 let b24 := p19.2.2.2.2.1;
 let b25 := p19.2.2.2.2.2;
 (if v20 = true then
 some (2, b21, b22, b23, b24, b25)
 else
 (ref03_events n2 n3).bind fun q26 =>
 (loop (ref03_Put_loop5 base1 q26) (0, b21, b22, b23, b24, b25)).bind (fun p45 =>
 let b46 := p45.1;
 let b47 := p45.2.1;
 let b48 := p45.2.2.1;
 let b49 := p45.2.2.2.1;
 let b50 := p45.2.2.2.2;
 some (0, b46, b47, b48, b49, b50)))) := (call_eq ..).trans (by kernel_rfl)

theorem ref09_num_eq (n1 : Int) : ref09_num n1 =
 some (false, n1) := (call_eq ..).trans (by kernel_rfl)

noncomputable def ref02_Encoder_Put_loop8 (s17 : Int × Int × Int × (List Int) × (List Int)) : Option ((Int × Int × Int × (List Int) × (List Int)) ⊕ (Int × Int × Int × (List Int) × (List Int))) :=
 let b18 := s17.1;
 let b19 := s17.2.1;
 let b20 := s17.2.2.1;
 let b21 := s17.2.2.2.1;
 let b22 := s17.2.2.2.2;
 (ref02_Interval_Fixed b19 b20).bind fun q23 =>
 (if q23 = true then
 let t24 := ishr .u64 b20 24;
 let t25 := IntKind.u8.wrap t24;
 (if (b22.length + ([t25] : List Int).length) * 1 ≤ 140737488355328 then
 let t26 : List Int := b22 ++ [t25];
 (ref02_Interval_Shifted b19 b20).bind fun q27 =>
 let tr28 := q27.1;
 let tr29 := q27.2;
 some (Sum.inl (b18, tr28, tr29, b21, t26))
 else
 none)
 else
 some (Sum.inr (b18, b19, b20, b21, b22)))
theorem ref02_Encoder_Put_eq (ctx1 bit2 b3 b4 b5 : Int) (b6 b7 : List Int) : ref02_Encoder_Put ctx1 bit2 b3 b4 b5 b6 b7 =
 ((if (decide (ctx1 < 0)) = true then
 some true
 else
 (if (decide (ctx1 ≥ ((b6.length : Nat) : Int))) = true then
 some true
 else
 (if (!decide (bit2 = 0)) = true then
 some (!decide (bit2 = 1))
 else
 some false))) : Option (Bool)).bind (fun v8 =>
 (if v8 = true then
 some (2, b3, b4, b5, b6, b7)
 else
 (if 0 ≤ ctx1 ∧ ctx1 < (b6.length : Int) then
 let t9 : Int := rd b6 ctx1;
 (ref02_Likely b3 t9).bind fun q10 =>
 (ref02_Interval_Part b4 b5 q10 bit2).bind fun q11 =>
 let tr12 := q11.1;
 let tr13 := q11.2;
 (if 0 ≤ ctx1 ∧ ctx1 < (b6.length : Int) then
 let t14 : Int := rd b6 ctx1;
 (ref02_After b3 t14 bit2).bind fun q15 =>
 (if 0 ≤ ctx1 ∧ ctx1 < (b6.length : Int) then
 let w16 : List Int := b6.set ctx1.toNat q15;
 (loop (ref02_Encoder_Put_loop8) (b3, tr12, tr13, w16, b7)).bind (fun p30 =>
 let b31 := p30.1;
 let b32 := p30.2.1;
 let b33 := p30.2.2.1;
 let b34 := p30.2.2.2.1;
 let b35 := p30.2.2.2.2;
 some (0, b31, b32, b33, b34, b35))
 else
 none)
 else
 none)
 else
 none))) := (call_eq ..).trans (by kernel_rfl)

noncomputable def ref07_Put_loop9 (b7 b8 : Int) (b9 : List Int) (skip10 skip11 : Int) (skip12 : List Int) (y22 x24 : Int) : Option ((Int) ⊕ ((Unit) ⊕ (Int))) :=
 (if (decide (x24 < b7)) = true then
 (ref05_At b7 b8 b9 x24 y22).bind fun q25 =>
 (if (decide (q25 = 1)) = true then
 (ref05_At skip10 skip11 skip12 x24 y22).bind fun q26 =>
 (if (decide (q26 = 1)) = true then
 some (Sum.inr (Sum.inr 30))
 else
 let t27 := IntKind.i64.wrap (x24 + 1);
 some (Sum.inl t27))
 else
 let t28 := IntKind.i64.wrap (x24 + 1);
 some (Sum.inl t28))
 else
 some (Sum.inr (Sum.inl ())))
noncomputable def ref07_Put_loop9_step (b7 b8 : Int) (b9 : List Int) (skip10 skip11 : Int) (skip12 : List Int) (y22 : Int) (i29 x30 : Nat) (s31 : Unit) : Option ((Unit) ⊕ ((Unit) ⊕ (Int))) :=
 (ref05_At b7 b8 b9 ((i29 : Nat) : Int) y22).bind fun q25 =>
 (if (decide (q25 = 1)) = true then
 (ref05_At skip10 skip11 skip12 ((i29 : Nat) : Int) y22).bind fun q26 =>
 (if (decide (q26 = 1)) = true then
 some (Sum.inr (Sum.inr 30))
 else
 some (Sum.inl (())))
 else
 some (Sum.inl (())))
theorem ref07_Put_loop9_over (b7 b8 : Int) (b9 : List Int) (skip10 skip11 : Int) (skip12 : List Int) (y22 : Int) (hl : (List.range (b7).toNat).length ≤ 9223372036854775807) (s31 : Unit) : loop (ref07_Put_loop9 b7 b8 b9 skip10 skip11 skip12 y22) (0 : Int) =
    overL (ref07_Put_loop9_step b7 b8 b9 skip10 skip11 skip12 y22) (fun (s31 : Unit) => some (Sum.inl ())) 0 (List.range (b7).toNat) s31 := by
  refine loop_over (List.range (b7).toNat) (fun n (s : Unit) => (((n : Nat) : Int) : Int)) _ _ (fun s => ?_) (fun i x s h => ?_) 0 s31 (Nat.zero_le _)
  · have h1 : ¬ (((List.range (b7).toNat).length : Nat) : Int) < b7 := by simp only [List.length_range]; omega
    unfold ref07_Put_loop9; simp only [h1, decide_false, Bool.false_eq_true, if_false, Option.map_some]
  · have hlt := lt_len_of_get h
    rw [List.length_range] at hlt hl
    rw [List.getElem?_range hlt] at h
    cases h
    have h1 : ((i : Nat) : Int) < b7 := by omega
    have h0 : (0 : Int) ≤ ((i : Nat) : Int) := by omega
    have hw : IntKind.i64.wrap (((i : Nat) : Int) + 1) = (((i + 1 : Nat) : Nat) : Int) := w64 (by omega)
    unfold ref07_Put_loop9 ref07_Put_loop9_step
    simp only [h1, h0, hw, decide_true, if_true, and_self, true_and, Int.toNat_natCast, Option.bind_some, Option.map_bind, Function.comp_def, map_ite, map_elim, Option.map_some, Option.map_none]

noncomputable def ref07_Put_loop6 (b7 b8 : Int) (b9 : List Int) (skip10 skip11 : Int) (skip12 : List Int) (y22 : Int) : Option ((Int) ⊕ ((Unit) ⊕ (Int))) :=
 ((if (decide (y22 < b8)) = true then
 (if (decide (b7 = skip10)) = true then
 some (decide (b8 = skip11))
 else
 some false)
 else
 some false) : Option (Bool)).bind (fun v23 =>
 (if v23 = true then
 (loop (ref07_Put_loop9 b7 b8 b9 skip10 skip11 skip12 y22) 0).bind (fun o34 =>
 (Sum.elim (fun (p32 : Unit) =>
 let t35 := IntKind.i64.wrap (y22 + 1);
 some (Sum.inl t35))
 (fun (v33 : Int) =>
 some (Sum.inr (Sum.inr v33))) o34))
 else
 some (Sum.inr (Sum.inl ()))))
noncomputable def ref07_Put_loop27 (base1 o2 o3 o4 : Int) (o5 : Bool) (o6 b7 b8 : Int) (b9 : List Int) (skip10 skip11 : Int) (skip12 : List Int) (y52 : Int) (s87 : Int × Int × Int × Int × (List Int) × (List Int)) : Option ((Int × Int × Int × Int × (List Int) × (List Int)) ⊕ (Int × Int × Int × (List Int) × (List Int))) :=
 let x88 := s87.1;
 let b89 := s87.2.1;
 let b90 := s87.2.2.1;
 let b91 := s87.2.2.2.1;
 let b92 := s87.2.2.2.2.1;
 let b93 := s87.2.2.2.2.2;
 (if (decide (x88 < b7)) = true then
 (ref05_At skip10 skip11 skip12 x88 y52).bind fun q94 =>
 (if (decide (q94 = 0)) = true then
 (ref07_context o2 o3 o4 o5 o6 b7 b8 b9 x88 y52).bind fun q95 =>
 let t96 := IntKind.i64.wrap (base1 + q95);
 (ref05_At b7 b8 b9 x88 y52).bind fun q97 =>
 (ref02_Encoder_Put t96 q97 b89 b90 b91 b92 b93).bind fun q98 =>
 let tr99 := q98.1;
 let tr100 := q98.2.1;
 let tr101 := q98.2.2.1;
 let tr102 := q98.2.2.2.1;
 let tr103 := q98.2.2.2.2.1;
 let tr104 := q98.2.2.2.2.2;
 let t105 := IntKind.i64.wrap (x88 + 1);
 some (Sum.inl (t105, tr100, tr101, tr102, tr103, tr104))
 else
 let t106 := IntKind.i64.wrap (x88 + 1);
 some (Sum.inl (t106, b89, b90, b91, b92, b93)))
 else
 some (Sum.inr (b89, b90, b91, b92, b93)))
noncomputable def ref07_Put_loop27_step (base1 o2 o3 o4 : Int) (o5 : Bool) (o6 b7 b8 : Int) (b9 : List Int) (skip10 skip11 : Int) (skip12 : List Int) (y52 : Int) (i107 x108 : Nat) (s109 : Int × Int × Int × (List Int) × (List Int)) : Option ((Int × Int × Int × (List Int) × (List Int)) ⊕ (Int × Int × Int × (List Int) × (List Int))) :=
 let b110 := s109.1;
 let b111 := s109.2.1;
 let b112 := s109.2.2.1;
 let b113 := s109.2.2.2.1;
 let b114 := s109.2.2.2.2;
 (ref05_At skip10 skip11 skip12 ((i107 : Nat) : Int) y52).bind fun q94 =>
 (if (decide (q94 = 0)) = true then
 (ref07_context o2 o3 o4 o5 o6 b7 b8 b9 ((i107 : Nat) : Int) y52).bind fun q95 =>
 let t96 := IntKind.i64.wrap (base1 + q95);
 (ref05_At b7 b8 b9 ((i107 : Nat) : Int) y52).bind fun q97 =>
 (ref02_Encoder_Put t96 q97 b110 b111 b112 b113 b114).bind fun q98 =>
 let tr99 := q98.1;
 let tr100 := q98.2.1;
 let tr101 := q98.2.2.1;
 let tr102 := q98.2.2.2.1;
 let tr103 := q98.2.2.2.2.1;
 let tr104 := q98.2.2.2.2.2;
 some (Sum.inl ((tr100, tr101, tr102, tr103, tr104)))
 else
 some (Sum.inl ((b110, b111, b112, b113, b114))))
theorem ref07_Put_loop27_over (base1 o2 o3 o4 : Int) (o5 : Bool) (o6 b7 b8 : Int) (b9 : List Int) (skip10 skip11 : Int) (skip12 : List Int) (y52 : Int) (hl : (List.range (b7).toNat).length ≤ 9223372036854775807) (s109 : Int × Int × Int × (List Int) × (List Int)) : loop (ref07_Put_loop27 base1 o2 o3 o4 o5 o6 b7 b8 b9 skip10 skip11 skip12 y52) ((0, s109.1, s109.2.1, s109.2.2.1, s109.2.2.2.1, s109.2.2.2.2) : Int × Int × Int × Int × (List Int) × (List Int)) =
    overL (ref07_Put_loop27_step base1 o2 o3 o4 o5 o6 b7 b8 b9 skip10 skip11 skip12 y52) (fun (s109 : Int × Int × Int × (List Int) × (List Int)) => let b110 := s109.1; let b111 := s109.2.1; let b112 := s109.2.2.1; let b113 := s109.2.2.2.1; let b114 := s109.2.2.2.2; some (b110, b111, b112, b113, b114)) 0 (List.range (b7).toNat) s109 := by
  refine loop_over (List.range (b7).toNat) (fun n (s : Int × Int × Int × (List Int) × (List Int)) => ((((n : Nat) : Int), s.1, s.2.1, s.2.2.1, s.2.2.2.1, s.2.2.2.2) : Int × Int × Int × Int × (List Int) × (List Int))) _ _ (fun s => ?_) (fun i x s h => ?_) 0 s109 (Nat.zero_le _)
  · have h1 : ¬ (((List.range (b7).toNat).length : Nat) : Int) < b7 := by simp only [List.length_range]; omega
    unfold ref07_Put_loop27; simp only [h1, decide_false, Bool.false_eq_true, if_false, Option.map_some]
  · have hlt := lt_len_of_get h
    rw [List.length_range] at hlt hl
    rw [List.getElem?_range hlt] at h
    cases h
    have h1 : ((i : Nat) : Int) < b7 := by omega
    have h0 : (0 : Int) ≤ ((i : Nat) : Int) := by omega
    have hw : IntKind.i64.wrap (((i : Nat) : Int) + 1) = (((i + 1 : Nat) : Nat) : Int) := w64 (by omega)
    unfold ref07_Put_loop27 ref07_Put_loop27_step
    simp only [h1, h0, hw, decide_true, if_true, and_self, true_and, Int.toNat_natCast, Option.bind_some, Option.map_bind, Function.comp_def, map_ite, map_elim, Option.map_some, Option.map_none]

noncomputable def ref07_Put_loop18 (base1 o2 o3 o4 : Int) (o5 : Bool) (o6 b7 b8 : Int) (b9 : List Int) (skip10 skip11 : Int) (skip12 : List Int) (tr49 : Int) (s51 : Int × Int × Int × Int × (List Int) × (List Int)) : Option ((Int × Int × Int × Int × (List Int) × (List Int)) ⊕ (Int × Int × Int × (List Int) × (List Int))) :=
 let y52 := s51.1;
 let b53 := s51.2.1;
 let b54 := s51.2.2.1;
 let b55 := s51.2.2.2.1;
 let b56 := s51.2.2.2.2.1;
 let b57 := s51.2.2.2.2.2;
 (if (decide (y52 < b8)) = true then
 ((if o5 = true then
 (ref07_typical b7 b8 b9 skip10 skip11 skip12 y52).bind fun q58 =>
 let t59 := IntKind.i64.wrap (y52 * b7);
 let t60 := IntKind.i64.wrap (y52 + 1);
 let t61 := IntKind.i64.wrap (t60 * b7);
 (if 0 ≤ t61 ∧ t61 ≤ ((b9.length : Nat) : Int) then
 (if 0 ≤ t59 ∧ t59 ≤ t61 then
 let t62 : List Int := cutL b9 t59.toNat t61.toNat;
 ((if (decide (q58 = t62)) = true then
 some 1
 else
 some 0) : Option (Int)).bind (fun same63 =>
 let t64 := IntKind.i64.wrap (base1 + tr49);
 let t65 := IntKind.i64.wrap (t64 - 1);
 (ref02_Encoder_Put t65 same63 b53 b54 b55 b56 b57).bind fun q66 =>
 let tr67 := q66.1;
 let tr68 := q66.2.1;
 let tr69 := q66.2.2.1;
 let tr70 := q66.2.2.2.1;
 let tr71 := q66.2.2.2.2.1;
 let tr72 := q66.2.2.2.2.2;
 (if (decide (same63 = 1)) = true then
 some (Sum.inr (tr68, tr69, tr70, tr71, tr72))
 else
 some (Sum.inl (tr68, tr69, tr70, tr71, tr72))))
 else
 none)
 else
 none)
 else
 some (Sum.inl (b53, b54, b55, b56, b57))) : Option ((Int × Int × Int × (List Int) × (List Int)) ⊕ (Int × Int × Int × (List Int) × (List Int)))).bind (fun o86 =>
 (Sum.elim (fun (p73 : Int × Int × Int × (List Int) × (List Int)) =>
 let b74 := p73.1;
 let b75 := p73.2.1;
 let b76 := p73.2.2.1;
 let b77 := p73.2.2.2.1;
 let b78 := p73.2.2.2.2;
 (loop (ref07_Put_loop27 base1 o2 o3 o4 o5 o6 b7 b8 b9 skip10 skip11 skip12 y52) (0, b74, b75, b76, b77, b78)).bind (fun p115 =>
 let b116 := p115.1;
 let b117 := p115.2.1;
 let b118 := p115.2.2.1;
 let b119 := p115.2.2.2.1;
 let b120 := p115.2.2.2.2;
 let t121 := IntKind.i64.wrap (y52 + 1);
 some (Sum.inl (t121, b116, b117, b118, b119, b120))))
 (fun (p79 : Int × Int × Int × (List Int) × (List Int)) =>
 let b80 := p79.1;
 let b81 := p79.2.1;
 let b82 := p79.2.2.1;
 let b83 := p79.2.2.2.1;
 let b84 := p79.2.2.2.2;
 let t85 := IntKind.i64.wrap (y52 + 1);
 some (Sum.inl (t85, b80, b81, b82, b83, b84))) o86))
 else
 some (Sum.inr (b53, b54, b55, b56, b57)))
noncomputable def ref07_Put_loop18_step (base1 o2 o3 o4 : Int) (o5 : Bool) (o6 b7 b8 : Int) (b9 : List Int) (skip10 skip11 : Int) (skip12 : List Int) (tr49 : Int) (i122 x123 : Nat) (s124 : Int × Int × Int × (List Int) × (List Int)) : Option ((Int × Int × Int × (List Int) × (List Int)) ⊕ (Int × Int × Int × (List Int) × (List Int))) :=
 let b125 := s124.1;
 let b126 := s124.2.1;
 let b127 := s124.2.2.1;
 let b128 := s124.2.2.2.1;
 let b129 := s124.2.2.2.2;
 ((if o5 = true then
 (ref07_typical b7 b8 b9 skip10 skip11 skip12 ((i122 : Nat) : Int)).bind fun q58 =>
 let t59 := IntKind.i64.wrap (((i122 : Nat) : Int) * b7);
 let t60 := IntKind.i64.wrap (((i122 : Nat) : Int) + 1);
 let t61 := IntKind.i64.wrap (t60 * b7);
 (if 0 ≤ t61 ∧ t61 ≤ ((b9.length : Nat) : Int) then
 (if 0 ≤ t59 ∧ t59 ≤ t61 then
 let t62 : List Int := cutL b9 t59.toNat t61.toNat;
 ((if (decide (q58 = t62)) = true then
 some 1
 else
 some 0) : Option (Int)).bind (fun same63 =>
 let t64 := IntKind.i64.wrap (base1 + tr49);
 let t65 := IntKind.i64.wrap (t64 - 1);
 (ref02_Encoder_Put t65 same63 b125 b126 b127 b128 b129).bind fun q66 =>
 let tr67 := q66.1;
 let tr68 := q66.2.1;
 let tr69 := q66.2.2.1;
 let tr70 := q66.2.2.2.1;
 let tr71 := q66.2.2.2.2.1;
 let tr72 := q66.2.2.2.2.2;
 (if (decide (same63 = 1)) = true then
 some (Sum.inr (tr68, tr69, tr70, tr71, tr72))
 else
 some (Sum.inl (tr68, tr69, tr70, tr71, tr72))))
 else
 none)
 else
 none)
 else
 some (Sum.inl (b125, b126, b127, b128, b129))) : Option ((Int × Int × Int × (List Int) × (List Int)) ⊕ (Int × Int × Int × (List Int) × (List Int)))).bind (fun o86 =>
 (Sum.elim (fun (p73 : Int × Int × Int × (List Int) × (List Int)) =>
 let b74 := p73.1;
 let b75 := p73.2.1;
 let b76 := p73.2.2.1;
 let b77 := p73.2.2.2.1;
 let b78 := p73.2.2.2.2;
 (loop (ref07_Put_loop27 base1 o2 o3 o4 o5 o6 b7 b8 b9 skip10 skip11 skip12 ((i122 : Nat) : Int)) (0, b74, b75, b76, b77, b78)).bind (fun p115 =>
 let b116 := p115.1;
 let b117 := p115.2.1;
 let b118 := p115.2.2.1;
 let b119 := p115.2.2.2.1;
 let b120 := p115.2.2.2.2;
 some (Sum.inl ((b116, b117, b118, b119, b120)))))
 (fun (p79 : Int × Int × Int × (List Int) × (List Int)) =>
 let b80 := p79.1;
 let b81 := p79.2.1;
 let b82 := p79.2.2.1;
 let b83 := p79.2.2.2.1;
 let b84 := p79.2.2.2.2;
 some (Sum.inl ((b80, b81, b82, b83, b84)))) o86))
theorem ref07_Put_loop18_over (base1 o2 o3 o4 : Int) (o5 : Bool) (o6 b7 b8 : Int) (b9 : List Int) (skip10 skip11 : Int) (skip12 : List Int) (tr49 : Int) (hl : (List.range (b8).toNat).length ≤ 9223372036854775807) (s124 : Int × Int × Int × (List Int) × (List Int)) : loop (ref07_Put_loop18 base1 o2 o3 o4 o5 o6 b7 b8 b9 skip10 skip11 skip12 tr49) ((0, s124.1, s124.2.1, s124.2.2.1, s124.2.2.2.1, s124.2.2.2.2) : Int × Int × Int × Int × (List Int) × (List Int)) =
    overL (ref07_Put_loop18_step base1 o2 o3 o4 o5 o6 b7 b8 b9 skip10 skip11 skip12 tr49) (fun (s124 : Int × Int × Int × (List Int) × (List Int)) => let b125 := s124.1; let b126 := s124.2.1; let b127 := s124.2.2.1; let b128 := s124.2.2.2.1; let b129 := s124.2.2.2.2; some (b125, b126, b127, b128, b129)) 0 (List.range (b8).toNat) s124 := by
  refine loop_over (List.range (b8).toNat) (fun n (s : Int × Int × Int × (List Int) × (List Int)) => ((((n : Nat) : Int), s.1, s.2.1, s.2.2.1, s.2.2.2.1, s.2.2.2.2) : Int × Int × Int × Int × (List Int) × (List Int))) _ _ (fun s => ?_) (fun i x s h => ?_) 0 s124 (Nat.zero_le _)
  · have h1 : ¬ (((List.range (b8).toNat).length : Nat) : Int) < b8 := by simp only [List.length_range]; omega
    unfold ref07_Put_loop18; simp only [h1, decide_false, Bool.false_eq_true, if_false, Option.map_some]
  · have hlt := lt_len_of_get h
    rw [List.length_range] at hlt hl
    rw [List.getElem?_range hlt] at h
    cases h
    have h1 : ((i : Nat) : Int) < b8 := by omega
    have h0 : (0 : Int) ≤ ((i : Nat) : Int) := by omega
    have hw : IntKind.i64.wrap (((i : Nat) : Int) + 1) = (((i + 1 : Nat) : Nat) : Int) := w64 (by omega)
    unfold ref07_Put_loop18 ref07_Put_loop18_step
    simp only [h1, h0, hw, decide_true, if_true, and_self, true_and, Int.toNat_natCast, Option.bind_some, Option.map_bind, Function.comp_def, map_ite, map_elim, Option.map_some, Option.map_none]

theorem ref07_Put_eq (base1 o2 o3 o4 : Int) (o5 : Bool) (o6 b7 b8 : Int) (b9 : List Int) (skip10 skip11 : Int) (skip12 : List Int) (b13 b14 b15 : Int) (b16 b17 : List Int) : ref07_Put base1 o2 o3 o4 o5 o6 b7 b8 b9 skip10 skip11 skip12 b13 b14 b15 b16 b17 =
 (ref07_Valid o2 o3 o4 o5 o6).bind fun q18 =>
 (if (!q18) = true then
 some (2, b13, b14, b15, b16, b17)
 else
 ((ref05_Valid b7 b8 b9).bind fun q19 =>
 (if (!q19) = true then
 some true
 else
 (ref05_Valid skip10 skip11 skip12).bind fun q20 =>
 some (!q20)) : Option (Bool)).bind (fun v21 =>
 (if v21 = true then
 some (30, b13, b14, b15, b16, b17)
 else
 (loop (ref07_Put_loop6 b7 b8 b9 skip10 skip11 skip12) 0).bind (fun o38 =>
 (Sum.elim (fun (p36 : Unit) =>
 (ref02_Encoder_Model b13 b14 b15 b16 b17).bind fun q39 =>
 let tr40 := q39.1;
 let tr41 := q39.2.1;
 let tr42 := q39.2.2.1;
 let tr43 := q39.2.2.2.1;
 let tr44 := q39.2.2.2.2.1;
 let tr45 := q39.2.2.2.2.2.1;
 let tr46 := q39.2.2.2.2.2.2;
 (ref07_room o2 o3 o4 o5 o6 base1 ((tr41.length : Nat) : Int) b7 b8 skip10 skip11 skip12).bind fun q47 =>
 (if (!decide (q47 = 0)) = true then
 some (q47, tr42, tr43, tr44, tr45, tr46)
 else
 (ref07_Size o2 o3 o4 o5 o6).bind fun q48 =>
 let tr49 := q48.1;
 let tr50 := q48.2;
 (loop (ref07_Put_loop18 base1 o2 o3 o4 o5 o6 b7 b8 b9 skip10 skip11 skip12 tr49) (0, tr42, tr43, tr44, tr45, tr46)).bind (fun p130 =>
 let b131 := p130.1;
 let b132 := p130.2.1;
 let b133 := p130.2.2.1;
 let b134 := p130.2.2.2.1;
 let b135 := p130.2.2.2.2;
 some (0, b131, b132, b133, b134, b135))))
 (fun (v37 : Int) =>
 some (v37, b13, b14, b15, b16, b17)) o38))))) := (call_eq ..).trans (by kernel_rfl)

noncomputable def ref03_Width_loop2 (n1 k2 : Int) : Option ((Int) ⊕ (Int)) :=
 (if (decide (k2 < 62)) = true then
 (if k2 < 0 then
 none
 else
 let t3 := ishl .i64 1 k2;
 (if (decide (t3 < n1)) = true then
 let t4 := IntKind.i64.wrap (k2 + 1);
 some (Sum.inl t4)
 else
 some (Sum.inr k2)))
 else
 some (Sum.inr k2))
theorem ref03_Width_eq (n1 : Int) : ref03_Width n1 =
 (loop (ref03_Width_loop2 n1) 0).bind (fun k5 =>
 (if k5 < 0 then
 none
 else
 let t6 := ishl .i64 1 k5;
 (if (decide (t6 < n1)) = true then
 some 63
 else
 some k5))) := (call_eq ..).trans (by kernel_rfl)

noncomputable def ref03_PutId_loop5 (base1 id3 : Int) (s29 : Int × Int × Int × Int × Int × (List Int) × (List Int)) : Option ((Int × Int × Int × Int × Int × (List Int) × (List Int)) ⊕ (Int × Int × Int × (List Int) × (List Int))) :=
 let p30 := s29.1;
 let i31 := s29.2.1;
 let b32 := s29.2.2.1;
 let b33 := s29.2.2.2.1;
 let b34 := s29.2.2.2.2.1;
 let b35 := s29.2.2.2.2.2.1;
 let b36 := s29.2.2.2.2.2.2;
 (if (decide (i31 ≥ 0)) = true then
 (if i31 < 0 then
 none
 else
 let t37 := ishr .i64 id3 i31;
 let t38 := iand .i64 t37 1;
 let t39 := IntKind.i64.wrap (base1 + p30);
 let t40 := IntKind.i64.wrap (t39 - 1);
 (ref02_Encoder_Put t40 t38 b32 b33 b34 b35 b36).bind fun q41 =>
 let tr42 := q41.1;
 let tr43 := q41.2.1;
 let tr44 := q41.2.2.1;
 let tr45 := q41.2.2.2.1;
 let tr46 := q41.2.2.2.2.1;
 let tr47 := q41.2.2.2.2.2;
 let t48 := IntKind.i64.wrap (2 * p30);
 let t49 := IntKind.i64.wrap (t48 + t38);
 let t50 := IntKind.i64.wrap (i31 - 1);
 some (Sum.inl (t49, t50, tr43, tr44, tr45, tr46, tr47)))
 else
 some (Sum.inr (b32, b33, b34, b35, b36)))
theorem ref03_PutId_eq (base1 k2 id3 b4 b5 b6 : Int) (b7 b8 : List Int) : ref03_PutId base1 k2 id3 b4 b5 b6 b7 b8 =
 ((ref03_isId k2 id3).bind fun q9 =>
 (if (!q9) = true then
 some (true, b4, b5, b6, b7, b8)
 else
 (ref02_Encoder_Model b4 b5 b6 b7 b8).bind fun q10 =>
 let tr11 := q10.1;
 let tr12 := q10.2.1;
 let tr13 := q10.2.2.1;
 let tr14 := q10.2.2.2.1;
 let tr15 := q10.2.2.2.2.1;
 let tr16 := q10.2.2.2.2.2.1;
 let tr17 := q10.2.2.2.2.2.2;
 (if k2 < 0 then
 none
 else
 let t18 := ishl .i64 1 k2;
 let t19 := IntKind.i64.wrap (t18 - 1);
 (ref03_room ((tr12.length : Nat) : Int) base1 t19).bind fun q20 =>
 some (!q20, tr13, tr14, tr15, tr16, tr17))) : Option (Bool × Int × Int × Int × (List Int) × (List Int))).bind (fun p21 =>
 let v22 := p21.1;
 let b23 := p21.2.1;
 let b24 := p21.2.2.1;
 let b25 := p21.2.2.2.1;
 let b26 := p21.2.2.2.2.1;
 let b27 := p21.2.2.2.2.2;
 (if v22 = true then
 some (2, b23, b24, b25, b26, b27)
 else
 let t28 := IntKind.i64.wrap (k2 - 1);
 (loop (ref03_PutId_loop5 base1 id3) (1, t28, b23, b24, b25, b26, b27)).bind (fun p51 =>
 let b52 := p51.1;
 let b53 := p51.2.1;
 let b54 := p51.2.2.1;
 let b55 := p51.2.2.2.1;
 let b56 := p51.2.2.2.2;
 some (0, b52, b53, b54, b55, b56)))) := (call_eq ..).trans (by kernel_rfl)

theorem ref09_refined_eq (o1 o2 o3 : Int) (o4 : Bool) (o5 o6 x7 y8 : Int) : ref09_refined o1 o2 o3 o4 o5 o6 x7 y8 =
 some (o6, x7, y8, false, o5) := (call_eq ..).trans (by kernel_rfl)

noncomputable def ref08_Put_loop17 (base1 o2 o3 o4 : Int) (o5 : Bool) (o6 b7 b8 : Int) (b9 : List Int) (r10 r11 : Int) (r12 : List Int) (y27 : Int) (typical34 : Bool) (s49 : Int × Int × Int × Int × (List Int) × (List Int)) : Option ((Int × Int × Int × Int × (List Int) × (List Int)) ⊕ (Int × Int × Int × (List Int) × (List Int))) :=
 let x50 := s49.1;
 let b51 := s49.2.1;
 let b52 := s49.2.2.1;
 let b53 := s49.2.2.2.1;
 let b54 := s49.2.2.2.2.1;
 let b55 := s49.2.2.2.2.2;
 (if (decide (x50 < b7)) = true then
 (ref08_Alike o2 o3 o4 o5 o6 r10 r11 r12 x50 y27).bind fun q56 =>
 let tr57 := q56.1;
 let tr58 := q56.2;
 ((if (!typical34) = true then
 some true
 else
 some (!tr58)) : Option (Bool)).bind (fun v59 =>
 (if v59 = true then
 (ref08_Context o2 o3 o4 o5 o6 b7 b8 b9 r10 r11 r12 x50 y27).bind fun q60 =>
 let t61 := IntKind.i64.wrap (base1 + q60);
 (ref06_Pix b7 b8 b9 x50 y27).bind fun q62 =>
 let t63 := IntKind.i64.wrap q62;
 (ref02_Encoder_Put t61 t63 b51 b52 b53 b54 b55).bind fun q64 =>
 let tr65 := q64.1;
 let tr66 := q64.2.1;
 let tr67 := q64.2.2.1;
 let tr68 := q64.2.2.2.1;
 let tr69 := q64.2.2.2.2.1;
 let tr70 := q64.2.2.2.2.2;
 let t71 := IntKind.i64.wrap (x50 + 1);
 some (Sum.inl (t71, tr66, tr67, tr68, tr69, tr70))
 else
 let t72 := IntKind.i64.wrap (x50 + 1);
 some (Sum.inl (t72, b51, b52, b53, b54, b55))))
 else
 some (Sum.inr (b51, b52, b53, b54, b55)))

noncomputable def ref08_Put_loop8 (base1 o2 o3 o4 : Int) (o5 : Bool) (o6 b7 b8 : Int) (b9 : List Int) (r10 r11 : Int) (r12 : List Int) (t25 : Int) (s26 : Int × Int × Int × Int × (List Int) × (List Int)) : Option ((Int × Int × Int × Int × (List Int) × (List Int)) ⊕ (Int × Int × Int × (List Int) × (List Int))) :=
 let y27 := s26.1;
 let b28 := s26.2.1;
 let b29 := s26.2.2.1;
 let b30 := s26.2.2.2.1;
 let b31 := s26.2.2.2.2.1;
 let b32 := s26.2.2.2.2.2;
 (if (decide (y27 < b8)) = true then
 ((if o5 = true then
 (ref08_Row o2 o3 o4 o5 o6 b7 b8 b9 r10 r11 r12 y27).bind fun q33 =>
 some q33
 else
 some false) : Option (Bool)).bind (fun typical34 =>
 ((if o5 = true then
 ((if typical34 = true then
 some 1
 else
 some 0) : Option (Int)).bind (fun bit35 =>
 (ref02_Encoder_Put t25 bit35 b28 b29 b30 b31 b32).bind fun q36 =>
 let tr37 := q36.1;
 let tr38 := q36.2.1;
 let tr39 := q36.2.2.1;
 let tr40 := q36.2.2.2.1;
 let tr41 := q36.2.2.2.2.1;
 let tr42 := q36.2.2.2.2.2;
 some (tr38, tr39, tr40, tr41, tr42))
 else
 some (b28, b29, b30, b31, b32)) : Option (Int × Int × Int × (List Int) × (List Int))).bind (fun p43 =>
 let b44 := p43.1;
 let b45 := p43.2.1;
 let b46 := p43.2.2.1;
 let b47 := p43.2.2.2.1;
 let b48 := p43.2.2.2.2;
 (loop (ref08_Put_loop17 base1 o2 o3 o4 o5 o6 b7 b8 b9 r10 r11 r12 y27 typical34) (0, b44, b45, b46, b47, b48)).bind (fun p81 =>
 let b82 := p81.1;
 let b83 := p81.2.1;
 let b84 := p81.2.2.1;
 let b85 := p81.2.2.2.1;
 let b86 := p81.2.2.2.2;
 let t87 := IntKind.i64.wrap (y27 + 1);
 some (Sum.inl (t87, b82, b83, b84, b85, b86)))))
 else
 some (Sum.inr (b28, b29, b30, b31, b32)))

theorem ref08_Put_eq (base1 o2 o3 o4 : Int) (o5 : Bool) (o6 b7 b8 : Int) (b9 : List Int) (r10 r11 : Int) (r12 : List Int) (b13 b14 b15 : Int) (b16 b17 : List Int) : ref08_Put base1 o2 o3 o4 o5 o6 b7 b8 b9 r10 r11 r12 b13 b14 b15 b16 b17 =
 ((ref06_IsBitmap b7 b8 b9).bind fun q18 =>
 (if q18 = true then
 (ref06_IsBitmap r10 r11 r12).bind fun q19 =>
 (ref08_asked o2 o3 o4 o5 o6 q19 base1 b13 b16).bind fun q20 =>
 some q20
 else
 (ref08_asked o2 o3 o4 o5 o6 false base1 b13 b16).bind fun q21 =>
 some q21) : Option (Int)).bind (fun err22 =>
 (if (!decide (err22 = 0)) = true then
 some (err22, b13, b14, b15, b16, b17)
 else
 (ref08_size o2).bind fun q23 =>
 let t24 := IntKind.i64.wrap (base1 + q23);
 let t25 := IntKind.i64.wrap (t24 - 1);
 (loop (ref08_Put_loop8 base1 o2 o3 o4 o5 o6 b7 b8 b9 r10 r11 r12 t25) (0, b13, b14, b15, b16, b17)).bind (fun p96 =>
 let b97 := p96.1;
 let b98 := p96.2.1;
 let b99 := p96.2.2.1;
 let b100 := p96.2.2.2.1;
 let b101 := p96.2.2.2.2;
 some (0, b97, b98, b99, b100, b101)))) := (call_eq ..).trans (by kernel_rfl)

theorem ref02_Encoder_End_eq (b1 b2 b3 : Int) (b4 b5 : List Int) : ref02_Encoder_End b1 b2 b3 b4 b5 =
 (if (([] : List Int).length + b5.length) * 1 ≤ 140737488355328 then
 let t6 : List Int := ([] : List Int) ++ b5;
 (ref02_Interval_End b2 b3).bind fun q7 =>
 (if (t6.length + q7.length) * 1 ≤ 140737488355328 then
 let t8 : List Int := t6 ++ q7;
 some (t8, b1, b2, b3, b4, b5)
 else
 none)
 else
 none) := (call_eq ..).trans (by kernel_rfl)

theorem ref02_Encoder_Model_eq (b1 b2 b3 : Int) (b4 b5 : List Int) : ref02_Encoder_Model b1 b2 b3 b4 b5 =
 (ref02_Copy b1 b4).bind fun q6 =>
 let tr7 := q6.1;
 let tr8 := q6.2;
 some (tr7, tr8, b1, b2, b3, b4, b5) := (call_eq ..).trans (by kernel_rfl)

theorem ref09_tail_eq (m1 : Int) (m2 : List Int) (front3 : Int) : ref09_tail m1 m2 front3 =
 (if 0 ≤ front3 ∧ front3 ≤ ((m2.length : Nat) : Int) then
 let t4 : List Int := cutL m2 front3.toNat m2.length;
 (if (([] : List Int).length + t4.length) * 8 ≤ 140737488355328 then
 let t5 : List Int := ([] : List Int) ++ t4;
 some (m1, t5)
 else
 none)
 else
 none) := (call_eq ..).trans (by kernel_rfl)

noncomputable def ref01_Size_loop5 (s6 : Int × (List Int)) : Option ((Int × (List Int)) ⊕ ((List Int))) :=
 let n7 := s6.1;
 let out8 := s6.2;
 (if (decide (n7 > 0)) = true then
 let t9 : Int := n7.tmod 128;
 let t10 := IntKind.i64.wrap (128 + t9);
 let t11 := IntKind.u8.wrap t10;
 (if (([t11] : List Int).length + out8.length) * 1 ≤ 140737488355328 then
 let t12 : List Int := ([t11] : List Int) ++ out8;
 let t13 := IntKind.i64.wrap (n7.tdiv 128);
 some (Sum.inl (t13, t12))
 else
 none)
 else
 some (Sum.inr out8))
theorem ref01_Size_eq (n1 : Int) : ref01_Size n1 =
 ((if (decide (n1 < 0)) = true then
 some true
 else
 some (decide (n1 > 2147483647))) : Option (Bool)).bind (fun v2 =>
 (if v2 = true then
 some ([], 2)
 else
 let t3 : Int := n1.tmod 128;
 let t4 := IntKind.u8.wrap t3;
 let t5 := IntKind.i64.wrap (n1.tdiv 128);
 (loop (ref01_Size_loop5) (t5, [t4])).bind (fun out14 =>
 some (out14, 0)))) := (call_eq ..).trans (by kernel_rfl)

theorem page_near_eq (n1 : Int) : page_near n1 =
 (if (decide (n1 ≥ (-100000))) = true then
 some (decide (n1 ≤ 100000))
 else
 some false) := (call_eq ..).trans (by kernel_rfl)

theorem bitmap_blank_eq (w1 h2 : Int) : bitmap_blank w1 h2 =
 (bitmap_fits w1 h2).bind fun q3 =>
 (if (!q3) = true then
 some (0, 0, 4, [])
 else
 let t4 := IntKind.i64.wrap (w1 * h2);
 (if 0 ≤ t4 ∧ t4 ≤ t4 ∧ ((1 : Nat) : Int) * t4 ≤ 281474976710656 then
 let t5 : List Int := List.replicate t4.toNat 0;
 some (w1, h2, 0, t5)
 else
 none)) := (call_eq ..).trans (by kernel_rfl)

theorem text_begun_eq (o1 o2 : Int) (o3 : Bool) (o4 o5 o6 : Int) (o7 : Bool) (o8 : Int) (symbols9 : List Bitmap) (l10 : List Item) : text_begun o1 o2 o3 o4 o5 o6 o7 o8 symbols9 l10 =
 (text_Valid o1 o2 o3 o4 o5 o6 o7 o8).bind fun q11 =>
 (if (!q11) = true then
 some 2
 else
 (slices_ContainsFunc_api_Bitmap_api_Bitmap_2 symbols9).bind fun q12 =>
 (if q12 = true then
 some 30
 else
 (slices_ContainsFunc_api_Item_api_Item l10).bind fun q13 =>
 (if q13 = true then
 some 30
 else
 some 0))) := (call_eq ..).trans (by kernel_rfl)

noncomputable def slices_IsSortedFunc_api_Item_api_Item_loop2 (x1 : List Item) (s11 : Int × Int × Int × Bool × Int × Int × Int × Bool × Int) : Option ((Int × Int × Int × Bool × Int × Int × Int × Bool × Int) ⊕ ((Int × Int × Bool × Int × Int × Int × Bool × Int) ⊕ (Bool × Int × Int × Bool × Int × Int × Int × Bool × Int))) :=
 let i12 := s11.1;
 let b13 := s11.2.1;
 let b14 := s11.2.2.1;
 let b15 := s11.2.2.2.1;
 let b16 := s11.2.2.2.2.1;
 let b17 := s11.2.2.2.2.2.1;
 let b18 := s11.2.2.2.2.2.2.1;
 let b19 := s11.2.2.2.2.2.2.2.1;
 let b20 := s11.2.2.2.2.2.2.2.2;
 (if (decide (i12 > 0)) = true then
 (if 0 ≤ i12 then
 (x1[i12.toNat]?).bind fun e21 =>
 let t22 := IntKind.i64.wrap (i12 - 1);
 (if 0 ≤ t22 then
 (x1[t22.toNat]?).bind fun e23 =>
 (text_Encode_1 e21.symbol e21.s e21.t e21.refined e21.dX e21.dY e21.pix_w e21.pix_h e21.pix_pix e23.symbol e23.s e23.t e23.refined e23.dX e23.dY e23.pix_w e23.pix_h e23.pix_pix b13 b14 b15 b16 b17 b18 b19 b20).bind fun q24 =>
 let tr25 := q24.1;
 let tr26 := q24.2.1;
 let tr27 := q24.2.2.1;
 let tr28 := q24.2.2.2.1;
 let tr29 := q24.2.2.2.2.1;
 let tr30 := q24.2.2.2.2.2.1;
 let tr31 := q24.2.2.2.2.2.2.1;
 let tr32 := q24.2.2.2.2.2.2.2.1;
 let tr33 := q24.2.2.2.2.2.2.2.2;
 (if (decide (tr25 < 0)) = true then
 some (Sum.inr (Sum.inr (false, tr26, tr27, tr28, tr29, tr30, tr31, tr32, tr33)))
 else
 let t34 := IntKind.i64.wrap (i12 - 1);
 some (Sum.inl (t34, tr26, tr27, tr28, tr29, tr30, tr31, tr32, tr33)))
 else
 none)
 else
 none)
 else
 some (Sum.inr (Sum.inl (b13, b14, b15, b16, b17, b18, b19, b20))))
theorem slices_IsSortedFunc_api_Item_api_Item_eq (x1 : List Item) (b2 b3 : Int) (b4 : Bool) (b5 b6 b7 : Int) (b8 : Bool) (b9 : Int) : slices_IsSortedFunc_api_Item_api_Item x1 b2 b3 b4 b5 b6 b7 b8 b9 =
 let t10 := IntKind.i64.wrap (((x1.length : Nat) : Int) - 1);
 (loop (slices_IsSortedFunc_api_Item_api_Item_loop2 x1) (t10, b2, b3, b4, b5, b6, b7, b8, b9)).bind (fun o54 =>
 (Sum.elim (fun (p35 : Int × Int × Bool × Int × Int × Int × Bool × Int) =>
 let b36 := p35.1;
 let b37 := p35.2.1;
 let b38 := p35.2.2.1;
 let b39 := p35.2.2.2.1;
 let b40 := p35.2.2.2.2.1;
 let b41 := p35.2.2.2.2.2.1;
 let b42 := p35.2.2.2.2.2.2.1;
 let b43 := p35.2.2.2.2.2.2.2;
 some (true, b36, b37, b38, b39, b40, b41, b42, b43))
 (fun (p44 : Bool × Int × Int × Bool × Int × Int × Int × Bool × Int) =>
 let v45 := p44.1;
 let b46 := p44.2.1;
 let b47 := p44.2.2.1;
 let b48 := p44.2.2.2.1;
 let b49 := p44.2.2.2.2.1;
 let b50 := p44.2.2.2.2.2.1;
 let b51 := p44.2.2.2.2.2.2.1;
 let b52 := p44.2.2.2.2.2.2.2.1;
 let b53 := p44.2.2.2.2.2.2.2.2;
 some (v45, b46, b47, b48, b49, b50, b51, b52, b53)) o54)) := (call_eq ..).trans (by kernel_rfl)

theorem text_right_eq (o1 o2 : Int) (o3 : Bool) (o4 o5 o6 : Int) (o7 : Bool) (o8 symbols9 : Int) (l10 : List Item) : text_right o1 o2 o3 o4 o5 o6 o7 o8 symbols9 l10 =
 (if (decide (symbols9 ≤ 60)) = true then
 (if (decide (((l10.length : Nat) : Int) ≤ 300)) = true then
 (slices_ContainsFunc_api_Item_api_Item_2 l10 o1 o2 o3 o4 o5 o6 o7 o8 symbols9).bind fun q11 =>
 let tr12 := q11.1;
 let tr13 := q11.2.1;
 let tr14 := q11.2.2.1;
 let tr15 := q11.2.2.2.1;
 let tr16 := q11.2.2.2.2.1;
 let tr17 := q11.2.2.2.2.2.1;
 let tr18 := q11.2.2.2.2.2.2.1;
 let tr19 := q11.2.2.2.2.2.2.2.1;
 let tr20 := q11.2.2.2.2.2.2.2.2.1;
 let tr21 := q11.2.2.2.2.2.2.2.2.2;
 some (!tr12)
 else
 some false)
 else
 some false) := (call_eq ..).trans (by kernel_rfl)

theorem text_lay_eq (o1 o2 : Int) (o3 : Bool) (o4 o5 o6 : Int) (o7 : Bool) (o8 symbols9 : Int) : text_lay o1 o2 o3 o4 o5 o6 o7 o8 symbols9 =
 (number_Width symbols9).bind fun q10 =>
 (if q10 < 0 then
 none
 else
 let t11 := ishl .i64 1 q10;
 let t12 := IntKind.i64.wrap (385 + t11);
 let t13 := IntKind.i64.wrap (t12 - 1);
 (if o7 = true then
 (refine_Size o8).bind fun q14 =>
 let tr15 := q14.1;
 let tr16 := q14.2;
 let t17 := IntKind.i64.wrap (t13 + tr15);
 some (o1, o2, o3, o4, o5, o6, o7, o8, q10, t13, t17)
 else
 some (o1, o2, o3, o4, o5, o6, o7, o8, q10, t13, t13))) := (call_eq ..).trans (by kernel_rfl)

theorem coder_New_eq (kind1 n2 : Int) : coder_New kind1 n2 =
 ((if (!decide (kind1 = 0)) = true then
 (if (!decide (kind1 = 1)) = true then
 some true
 else
 (if (decide (n2 < 0)) = true then
 some true
 else
 some (decide (n2 > 8192))))
 else
 (if (decide (n2 < 0)) = true then
 some true
 else
 some (decide (n2 > 8192)))) : Option (Bool)).bind (fun v3 =>
 (if v3 = true then
 some (0, 2, [])
 else
 (if 0 ≤ n2 ∧ n2 ≤ n2 ∧ ((8 : Nat) : Int) * n2 ≤ 281474976710656 then
 let t4 : List Int := List.replicate n2.toNat 0;
 some (kind1, 0, t4)
 else
 none))) := (call_eq ..).trans (by kernel_rfl)

theorem text_strip_eq (o1 o2 : Int) (o3 : Bool) (o4 o5 o6 : Int) (o7 : Bool) (o8 i9 i10 i11 : Int) (i12 : Bool) (i13 i14 i15 i16 : Int) (i17 : List Int) : text_strip o1 o2 o3 o4 o5 o6 o7 o8 i9 i10 i11 i12 i13 i14 i15 i16 i17 =
 (text_floor i11 o1).bind fun q18 =>
 some q18 := (call_eq ..).trans (by kernel_rfl)

theorem text_writer_put_eq (at1 n2 b3 b4 : Int) (b5 : Bool) (b6 b7 b8 : Int) (b9 : Bool) (b10 b11 b12 b13 : Int) (b14 : List Bitmap) (b15 b16 b17 : Int) (b18 b19 : List Int) : text_writer_put at1 n2 b3 b4 b5 b6 b7 b8 b9 b10 b11 b12 b13 b14 b15 b16 b17 b18 b19 =
 (number_Put at1 false n2 b15 b16 b17 b18 b19).bind fun q20 =>
 let tr21 := q20.1;
 let tr22 := q20.2.1;
 let tr23 := q20.2.2.1;
 let tr24 := q20.2.2.2.1;
 let tr25 := q20.2.2.2.2.1;
 let tr26 := q20.2.2.2.2.2;
 some (b3, b4, b5, b6, b7, b8, b9, b10, b11, b12, b13, b14, tr22, tr23, tr24, tr25, tr26) := (call_eq ..).trans (by kernel_rfl)

theorem text_writer_item_eq (i1 i2 i3 : Int) (i4 : Bool) (i5 i6 i7 i8 : Int) (i9 : List Int) (b10 b11 : Int) (b12 : Bool) (b13 b14 b15 : Int) (b16 : Bool) (b17 b18 b19 b20 : Int) (b21 : List Bitmap) (b22 b23 b24 : Int) (b25 b26 : List Int) : text_writer_item i1 i2 i3 i4 i5 i6 i7 i8 i9 b10 b11 b12 b13 b14 b15 b16 b17 b18 b19 b20 b21 b22 b23 b24 b25 b26 =
 ((if (decide (b10 > 1)) = true then
 (text_strip b10 b11 b12 b13 b14 b15 b16 b17 i1 i2 i3 i4 i5 i6 i7 i8 i9).bind fun q27 =>
 let t28 := IntKind.i64.wrap (q27 * b10);
 let t29 := IntKind.i64.wrap (i3 - t28);
 (text_writer_put 144 t29 b10 b11 b12 b13 b14 b15 b16 b17 b18 b19 b20 b21 b22 b23 b24 b25 b26).bind fun q30 =>
 let tr31 := q30.1;
 let tr32 := q30.2.1;
 let tr33 := q30.2.2.1;
 let tr34 := q30.2.2.2.1;
 let tr35 := q30.2.2.2.2.1;
 let tr36 := q30.2.2.2.2.2.1;
 let tr37 := q30.2.2.2.2.2.2.1;
 let tr38 := q30.2.2.2.2.2.2.2.1;
 let tr39 := q30.2.2.2.2.2.2.2.2.1;
 let tr40 := q30.2.2.2.2.2.2.2.2.2.1;
 let tr41 := q30.2.2.2.2.2.2.2.2.2.2.1;
 let tr42 := q30.2.2.2.2.2.2.2.2.2.2.2.1;
 let tr43 := q30.2.2.2.2.2.2.2.2.2.2.2.2.1;
 let tr44 := q30.2.2.2.2.2.2.2.2.2.2.2.2.2.1;
 let tr45 := q30.2.2.2.2.2.2.2.2.2.2.2.2.2.2.1;
 let tr46 := q30.2.2.2.2.2.2.2.2.2.2.2.2.2.2.2.1;
 let tr47 := q30.2.2.2.2.2.2.2.2.2.2.2.2.2.2.2.2;
 some (tr31, tr32, tr33, tr34, tr35, tr36, tr37, tr38, tr39, tr40, tr41, tr42, tr43, tr44, tr45, tr46, tr47)
 else
 some (b10, b11, b12, b13, b14, b15, b16, b17, b18, b19, b20, b21, b22, b23, b24, b25, b26)) : Option (Int × Int × Bool × Int × Int × Int × Bool × Int × Int × Int × Int × (List Bitmap) × Int × Int × Int × (List Int) × (List Int))).bind (fun p48 =>
 let b49 := p48.1;
 let b50 := p48.2.1;
 let b51 := p48.2.2.1;
 let b52 := p48.2.2.2.1;
 let b53 := p48.2.2.2.2.1;
 let b54 := p48.2.2.2.2.2.1;
 let b55 := p48.2.2.2.2.2.2.1;
 let b56 := p48.2.2.2.2.2.2.2.1;
 let b57 := p48.2.2.2.2.2.2.2.2.1;
 let b58 := p48.2.2.2.2.2.2.2.2.2.1;
 let b59 := p48.2.2.2.2.2.2.2.2.2.2.1;
 let b60 := p48.2.2.2.2.2.2.2.2.2.2.2.1;
 let b61 := p48.2.2.2.2.2.2.2.2.2.2.2.2.1;
 let b62 := p48.2.2.2.2.2.2.2.2.2.2.2.2.2.1;
 let b63 := p48.2.2.2.2.2.2.2.2.2.2.2.2.2.2.1;
 let b64 := p48.2.2.2.2.2.2.2.2.2.2.2.2.2.2.2.1;
 let b65 := p48.2.2.2.2.2.2.2.2.2.2.2.2.2.2.2.2;
 (number_PutId 385 b57 i1 b61 b62 b63 b64 b65).bind fun q66 =>
 let tr67 := q66.1;
 let tr68 := q66.2.1;
 let tr69 := q66.2.2.1;
 let tr70 := q66.2.2.2.1;
 let tr71 := q66.2.2.2.2.1;
 let tr72 := q66.2.2.2.2.2;
 (if (!b55) = true then
 some (b49, b50, b51, b52, b53, b54, b55, b56, b57, b58, b59, b60, tr68, tr69, tr70, tr71, tr72)
 else
 (if (!i4) = true then
 (coder_Encoder_Put 384 0 tr68 tr69 tr70 tr71 tr72).bind fun q73 =>
 let tr74 := q73.1;
 let tr75 := q73.2.1;
 let tr76 := q73.2.2.1;
 let tr77 := q73.2.2.2.1;
 let tr78 := q73.2.2.2.2.1;
 let tr79 := q73.2.2.2.2.2;
 some (b49, b50, b51, b52, b53, b54, b55, b56, b57, b58, b59, b60, tr75, tr76, tr77, tr78, tr79)
 else
 (coder_Encoder_Put 384 1 tr68 tr69 tr70 tr71 tr72).bind fun q80 =>
 let tr81 := q80.1;
 let tr82 := q80.2.1;
 let tr83 := q80.2.2.1;
 let tr84 := q80.2.2.2.1;
 let tr85 := q80.2.2.2.2.1;
 let tr86 := q80.2.2.2.2.2;
 (if 0 ≤ i1 then
 (b60[i1.toNat]?).bind fun e87 =>
 let t88 := IntKind.i64.wrap (i7 - e87.w);
 (text_writer_put 192 t88 b49 b50 b51 b52 b53 b54 b55 b56 b57 b58 b59 b60 tr82 tr83 tr84 tr85 tr86).bind fun q89 =>
 let tr90 := q89.1;
 let tr91 := q89.2.1;
 let tr92 := q89.2.2.1;
 let tr93 := q89.2.2.2.1;
 let tr94 := q89.2.2.2.2.1;
 let tr95 := q89.2.2.2.2.2.1;
 let tr96 := q89.2.2.2.2.2.2.1;
 let tr97 := q89.2.2.2.2.2.2.2.1;
 let tr98 := q89.2.2.2.2.2.2.2.2.1;
 let tr99 := q89.2.2.2.2.2.2.2.2.2.1;
 let tr100 := q89.2.2.2.2.2.2.2.2.2.2.1;
 let tr101 := q89.2.2.2.2.2.2.2.2.2.2.2.1;
 let tr102 := q89.2.2.2.2.2.2.2.2.2.2.2.2.1;
 let tr103 := q89.2.2.2.2.2.2.2.2.2.2.2.2.2.1;
 let tr104 := q89.2.2.2.2.2.2.2.2.2.2.2.2.2.2.1;
 let tr105 := q89.2.2.2.2.2.2.2.2.2.2.2.2.2.2.2.1;
 let tr106 := q89.2.2.2.2.2.2.2.2.2.2.2.2.2.2.2.2;
 let t107 := IntKind.i64.wrap (i8 - e87.h);
 (text_writer_put 240 t107 tr90 tr91 tr92 tr93 tr94 tr95 tr96 tr97 tr98 tr99 tr100 tr101 tr102 tr103 tr104 tr105 tr106).bind fun q108 =>
 let tr109 := q108.1;
 let tr110 := q108.2.1;
 let tr111 := q108.2.2.1;
 let tr112 := q108.2.2.2.1;
 let tr113 := q108.2.2.2.2.1;
 let tr114 := q108.2.2.2.2.2.1;
 let tr115 := q108.2.2.2.2.2.2.1;
 let tr116 := q108.2.2.2.2.2.2.2.1;
 let tr117 := q108.2.2.2.2.2.2.2.2.1;
 let tr118 := q108.2.2.2.2.2.2.2.2.2.1;
 let tr119 := q108.2.2.2.2.2.2.2.2.2.2.1;
 let tr120 := q108.2.2.2.2.2.2.2.2.2.2.2.1;
 let tr121 := q108.2.2.2.2.2.2.2.2.2.2.2.2.1;
 let tr122 := q108.2.2.2.2.2.2.2.2.2.2.2.2.2.1;
 let tr123 := q108.2.2.2.2.2.2.2.2.2.2.2.2.2.2.1;
 let tr124 := q108.2.2.2.2.2.2.2.2.2.2.2.2.2.2.2.1;
 let tr125 := q108.2.2.2.2.2.2.2.2.2.2.2.2.2.2.2.2;
 (text_writer_put 288 i5 tr109 tr110 tr111 tr112 tr113 tr114 tr115 tr116 tr117 tr118 tr119 tr120 tr121 tr122 tr123 tr124 tr125).bind fun q126 =>
 let tr127 := q126.1;
 let tr128 := q126.2.1;
 let tr129 := q126.2.2.1;
 let tr130 := q126.2.2.2.1;
 let tr131 := q126.2.2.2.2.1;
 let tr132 := q126.2.2.2.2.2.1;
 let tr133 := q126.2.2.2.2.2.2.1;
 let tr134 := q126.2.2.2.2.2.2.2.1;
 let tr135 := q126.2.2.2.2.2.2.2.2.1;
 let tr136 := q126.2.2.2.2.2.2.2.2.2.1;
 let tr137 := q126.2.2.2.2.2.2.2.2.2.2.1;
 let tr138 := q126.2.2.2.2.2.2.2.2.2.2.2.1;
 let tr139 := q126.2.2.2.2.2.2.2.2.2.2.2.2.1;
 let tr140 := q126.2.2.2.2.2.2.2.2.2.2.2.2.2.1;
 let tr141 := q126.2.2.2.2.2.2.2.2.2.2.2.2.2.2.1;
 let tr142 := q126.2.2.2.2.2.2.2.2.2.2.2.2.2.2.2.1;
 let tr143 := q126.2.2.2.2.2.2.2.2.2.2.2.2.2.2.2.2;
 (text_writer_put 336 i6 tr127 tr128 tr129 tr130 tr131 tr132 tr133 tr134 tr135 tr136 tr137 tr138 tr139 tr140 tr141 tr142 tr143).bind fun q144 =>
 let tr145 := q144.1;
 let tr146 := q144.2.1;
 let tr147 := q144.2.2.1;
 let tr148 := q144.2.2.2.1;
 let tr149 := q144.2.2.2.2.1;
 let tr150 := q144.2.2.2.2.2.1;
 let tr151 := q144.2.2.2.2.2.2.1;
 let tr152 := q144.2.2.2.2.2.2.2.1;
 let tr153 := q144.2.2.2.2.2.2.2.2.1;
 let tr154 := q144.2.2.2.2.2.2.2.2.2.1;
 let tr155 := q144.2.2.2.2.2.2.2.2.2.2.1;
 let tr156 := q144.2.2.2.2.2.2.2.2.2.2.2.1;
 let tr157 := q144.2.2.2.2.2.2.2.2.2.2.2.2.1;
 let tr158 := q144.2.2.2.2.2.2.2.2.2.2.2.2.2.1;
 let tr159 := q144.2.2.2.2.2.2.2.2.2.2.2.2.2.2.1;
 let tr160 := q144.2.2.2.2.2.2.2.2.2.2.2.2.2.2.2.1;
 let tr161 := q144.2.2.2.2.2.2.2.2.2.2.2.2.2.2.2.2;
 (text_layout_options tr145 tr146 tr147 tr148 tr149 tr150 tr151 tr152 tr153 tr154 tr155 i5 i6).bind fun q162 =>
 let tr163 := q162.1;
 let tr164 := q162.2.1;
 let tr165 := q162.2.2.1;
 let tr166 := q162.2.2.2.1;
 let tr167 := q162.2.2.2.2;
 (refine_Put tr154 tr163 tr164 tr165 tr166 tr167 i7 i8 i9 e87.w e87.h e87.pix tr157 tr158 tr159 tr160 tr161).bind fun q168 =>
 let tr169 := q168.1;
 let tr170 := q168.2.1;
 let tr171 := q168.2.2.1;
 let tr172 := q168.2.2.2.1;
 let tr173 := q168.2.2.2.2.1;
 let tr174 := q168.2.2.2.2.2;
 some (tr145, tr146, tr147, tr148, tr149, tr150, tr151, tr152, tr153, tr154, tr155, tr156, tr170, tr171, tr172, tr173, tr174)
 else
 none)))) := (call_eq ..).trans (by kernel_rfl)

theorem number_Put_eq (base1 : Int) (n2 : Bool) (n3 b4 b5 b6 : Int) (b7 b8 : List Int) : number_Put base1 n2 n3 b4 b5 b6 b7 b8 =
 (coder_Encoder_Put (-1) 0 b4 b5 b6 b7 b8).bind fun q9 =>
 let tr10 := q9.1;
 let tr11 := q9.2.1;
 let tr12 := q9.2.2.1;
 let tr13 := q9.2.2.2.1;
 let tr14 := q9.2.2.2.2.1;
 let tr15 := q9.2.2.2.2.2;
 (if (decide (tr10 = 7)) = true then
 some (7, tr11, tr12, tr13, tr14, tr15)
 else
 (number_Valid n2 n3).bind fun q16 =>
 (if (!q16) = true then
 some (2, tr11, tr12, tr13, tr14, tr15)
 else
 (coder_Encoder_Model tr11 tr12 tr13 tr14 tr15).bind fun q17 =>
 let tr18 := q17.1;
 let tr19 := q17.2.1;
 let tr20 := q17.2.2.1;
 let tr21 := q17.2.2.2.1;
 let tr22 := q17.2.2.2.2.1;
 let tr23 := q17.2.2.2.2.2.1;
 let tr24 := q17.2.2.2.2.2.2;
 (number_fits tr18 tr19 base1 48).bind fun q25 =>
 (if (!decide (q25 = 0)) = true then
 some (q25, tr20, tr21, tr22, tr23, tr24)
 else
 (number_events base1 n2 n3).bind fun q26 =>
 (number_put q26 tr20 tr21 tr22 tr23 tr24).bind fun q27 =>
 let tr28 := q27.1;
 let tr29 := q27.2.1;
 let tr30 := q27.2.2.1;
 let tr31 := q27.2.2.2.1;
 let tr32 := q27.2.2.2.2.1;
 let tr33 := q27.2.2.2.2.2;
 some (tr28, tr29, tr30, tr31, tr32, tr33)))) := (call_eq ..).trans (by kernel_rfl)

theorem math_bits_Len64_eq (x1 : Int) : math_bits_Len64 x1 =
 ((if (decide (x1 ≥ 4294967296)) = true then
 let t2 := ishr .u64 x1 32;
 some (t2, 32)
 else
 some (x1, 0)) : Option (Int × Int)).bind (fun p3 =>
 let x4 := p3.1;
 let n5 := p3.2;
 ((if (decide (x4 ≥ 65536)) = true then
 let t6 := ishr .u64 x4 16;
 let t7 := IntKind.i64.wrap (n5 + 16);
 some (t6, t7)
 else
 some (x4, n5)) : Option (Int × Int)).bind (fun p8 =>
 let x9 := p8.1;
 let n10 := p8.2;
 ((if (decide (x9 ≥ 256)) = true then
 let t11 := ishr .u64 x9 8;
 let t12 := IntKind.i64.wrap (n10 + 8);
 some (t11, t12)
 else
 some (x9, n10)) : Option (Int × Int)).bind (fun p13 =>
 let x14 := p13.1;
 let n15 := p13.2;
 let t16 := IntKind.u8.wrap x14;
 (if 0 ≤ t16 ∧ t16 < (([0, 1, 2, 2, 3, 3, 3, 3, 4, 4, 4, 4, 4, 4, 4, 4, 5, 5, 5, 5, 5, 5, 5, 5, 5, 5, 5, 5, 5, 5, 5, 5, 6, 6, 6, 6, 6, 6, 6, 6, 6, 6, 6, 6, 6, 6, 6, 6, 6, 6, 6, 6, 6, 6, 6, 6, 6, 6, 6, 6, 6, 6, 6, 6, 7, 7, 7, 7, 7, 7, 7, 7, 7, 7, 7, 7, 7, 7, 7, 7, 7, 7, 7, 7, 7, 7, 7, 7, 7, 7, 7, 7, 7, 7, 7, 7, 7, 7, 7, 7, 7, 7, 7, 7, 7, 7, 7, 7, 7, 7, 7, 7, 7, 7, 7, 7, 7, 7, 7, 7, 7, 7, 7, 7, 7, 7, 7, 7, 8, 8, 8, 8, 8, 8, 8, 8, 8, 8, 8, 8, 8, 8, 8, 8, 8, 8, 8, 8, 8, 8, 8, 8, 8, 8, 8, 8, 8, 8, 8, 8, 8, 8, 8, 8, 8, 8, 8, 8, 8, 8, 8, 8, 8, 8, 8, 8, 8, 8, 8, 8, 8, 8, 8, 8, 8, 8, 8, 8, 8, 8, 8, 8, 8, 8, 8, 8, 8, 8, 8, 8, 8, 8, 8, 8, 8, 8, 8, 8, 8, 8, 8, 8, 8, 8, 8, 8, 8, 8, 8, 8, 8, 8, 8, 8, 8, 8, 8, 8, 8, 8, 8, 8, 8, 8, 8, 8, 8, 8, 8, 8, 8, 8, 8, 8, 8, 8, 8, 8, 8, 8, 8, 8, 8, 8, 8, 8]).length : Int) then
 let t17 : Int := rd [0, 1, 2, 2, 3, 3, 3, 3, 4, 4, 4, 4, 4, 4, 4, 4, 5, 5, 5, 5, 5, 5, 5, 5, 5, 5, 5, 5, 5, 5, 5, 5, 6, 6, 6, 6, 6, 6, 6, 6, 6, 6, 6, 6, 6, 6, 6, 6, 6, 6, 6, 6, 6, 6, 6, 6, 6, 6, 6, 6, 6, 6, 6, 6, 7, 7, 7, 7, 7, 7, 7, 7, 7, 7, 7, 7, 7, 7, 7, 7, 7, 7, 7, 7, 7, 7, 7, 7, 7, 7, 7, 7, 7, 7, 7, 7, 7, 7, 7, 7, 7, 7, 7, 7, 7, 7, 7, 7, 7, 7, 7, 7, 7, 7, 7, 7, 7, 7, 7, 7, 7, 7, 7, 7, 7, 7, 7, 7, 8, 8, 8, 8, 8, 8, 8, 8, 8, 8, 8, 8, 8, 8, 8, 8, 8, 8, 8, 8, 8, 8, 8, 8, 8, 8, 8, 8, 8, 8, 8, 8, 8, 8, 8, 8, 8, 8, 8, 8, 8, 8, 8, 8, 8, 8, 8, 8, 8, 8, 8, 8, 8, 8, 8, 8, 8, 8, 8, 8, 8, 8, 8, 8, 8, 8, 8, 8, 8, 8, 8, 8, 8, 8, 8, 8, 8, 8, 8, 8, 8, 8, 8, 8, 8, 8, 8, 8, 8, 8, 8, 8, 8, 8, 8, 8, 8, 8, 8, 8, 8, 8, 8, 8, 8, 8, 8, 8, 8, 8, 8, 8, 8, 8, 8, 8, 8, 8, 8, 8, 8, 8, 8, 8, 8, 8, 8, 8] t16;
 let t18 := IntKind.i64.wrap t17;
 let t19 := IntKind.i64.wrap (n15 + t18);
 some t19
 else
 none)))) := (call_eq ..).trans (by kernel_rfl)

theorem bits_Signed_eq (n1 : Int) : bits_Signed n1 =
 ((if (decide (n1 ≥ 0)) = true then
 some (decide (n1 < 1073741824))
 else
 some false) : Option (Bool)).bind (fun v2 =>
 (if v2 = true then
 let t3 := IntKind.i64.wrap (2 * n1);
 (bits_Size t3).bind fun q4 =>
 let tr5 := q4.1;
 let tr6 := q4.2;
 some (tr5, tr6)
 else
 ((if (decide (n1 < 0)) = true then
 some (decide (n1 ≥ (-1073741824)))
 else
 some false) : Option (Bool)).bind (fun v7 =>
 (if v7 = true then
 let t8 := IntKind.i64.wrap ((-2) * n1);
 let t9 := IntKind.i64.wrap (t8 - 1);
 (bits_Size t9).bind fun q10 =>
 let tr11 := q10.1;
 let tr12 := q10.2;
 some (tr11, tr12)
 else
 some ([], 2))))) := (call_eq ..).trans (by kernel_rfl)

theorem ref05_Sides_eq (w1 h2 : Int) : ref05_Sides w1 h2 =
 (if (decide (w1 ≥ 0)) = true then
 (if (decide (h2 ≥ 0)) = true then
 (if (decide (w1 ≤ 200)) = true then
 (if (decide (h2 ≤ 200)) = true then
 let t3 := IntKind.i64.wrap (w1 * h2);
 some (decide (t3 ≤ 8192))
 else
 some false)
 else
 some false)
 else
 some false)
 else
 some false) := (call_eq ..).trans (by kernel_rfl)

noncomputable def ref10_asked_loop4 (symbols9 : List Bitmap) (s14 : Bool × Int) : Option ((Bool × Int) ⊕ (Bool)) :=
 let right15 := s14.1;
 let v16 := s14.2;
 (if (decide (v16 < ((symbols9.length : Nat) : Int))) = true then
 (if 0 ≤ v16 then
 (symbols9[v16.toNat]?).bind fun e17 =>
 (if right15 = true then
 (ref10_IsShape e17.w e17.h e17.pix).bind fun q18 =>
 let t19 := IntKind.i64.wrap (v16 + 1);
 some (Sum.inl (q18, t19))
 else
 let t20 := IntKind.i64.wrap (v16 + 1);
 some (Sum.inl (false, t20)))
 else
 none)
 else
 some (Sum.inr right15))
noncomputable def ref10_asked_loop4_step (i21 : Nat) (x22 : Bitmap) (s23 : Bool) : Option ((Bool) ⊕ (Bool)) :=
 (if s23 = true then
 (ref10_IsShape x22.w x22.h x22.pix).bind fun q18 =>
 some (Sum.inl (q18))
 else
 some (Sum.inl (false)))
theorem ref10_asked_loop4_over (symbols9 : List Bitmap) (hl : symbols9.length ≤ 9223372036854775807) (s23 : Bool) : loop (ref10_asked_loop4 symbols9) ((s23, 0) : Bool × Int) =
    overL (ref10_asked_loop4_step) (fun (s23 : Bool) => some s23) 0 symbols9 s23 := by
  refine loop_over symbols9 (fun n (s : Bool) => ((s, ((n : Nat) : Int)) : Bool × Int)) _ _ (fun s => ?_) (fun i x s h => ?_) 0 s23 (Nat.zero_le _)
  · unfold ref10_asked_loop4; simp
  · have hlt := lt_len_of_get h
    have h1 : ((i : Nat) : Int) < ((symbols9.length : Nat) : Int) := by omega
    have h0 : (0 : Int) ≤ ((i : Nat) : Int) := by omega
    have hw : IntKind.i64.wrap (((i : Nat) : Int) + 1) = (((i + 1 : Nat) : Nat) : Int) := w64 (by omega)
    unfold ref10_asked_loop4 ref10_asked_loop4_step
    simp only [h1, h0, hw, h, decide_true, if_true, and_self, true_and, Int.toNat_natCast, Option.bind_some, Option.map_bind, Function.comp_def, map_ite, map_elim, Option.map_some, Option.map_none]

noncomputable def ref10_asked_loop9 (l10 : List Item) (s25 : Bool × Int) : Option ((Bool × Int) ⊕ (Bool)) :=
 let right26 := s25.1;
 let v27 := s25.2;
 (if (decide (v27 < ((l10.length : Nat) : Int))) = true then
 (if 0 ≤ v27 then
 (l10[v27.toNat]?).bind fun e28 =>
 (if right26 = true then
 (if (!e28.refined) = true then
 let t29 := IntKind.i64.wrap (v27 + 1);
 some (Sum.inl (true, t29))
 else
 (ref10_IsShape e28.pix_w e28.pix_h e28.pix_pix).bind fun q30 =>
 let t31 := IntKind.i64.wrap (v27 + 1);
 some (Sum.inl (q30, t31)))
 else
 let t32 := IntKind.i64.wrap (v27 + 1);
 some (Sum.inl (false, t32)))
 else
 none)
 else
 some (Sum.inr right26))
noncomputable def ref10_asked_loop9_step (i33 : Nat) (x34 : Item) (s35 : Bool) : Option ((Bool) ⊕ (Bool)) :=
 (if s35 = true then
 (if (!x34.refined) = true then
 some (Sum.inl (true))
 else
 (ref10_IsShape x34.pix_w x34.pix_h x34.pix_pix).bind fun q30 =>
 some (Sum.inl (q30)))
 else
 some (Sum.inl (false)))
theorem ref10_asked_loop9_over (l10 : List Item) (hl : l10.length ≤ 9223372036854775807) (s35 : Bool) : loop (ref10_asked_loop9 l10) ((s35, 0) : Bool × Int) =
    overL (ref10_asked_loop9_step) (fun (s35 : Bool) => some s35) 0 l10 s35 := by
  refine loop_over l10 (fun n (s : Bool) => ((s, ((n : Nat) : Int)) : Bool × Int)) _ _ (fun s => ?_) (fun i x s h => ?_) 0 s35 (Nat.zero_le _)
  · unfold ref10_asked_loop9; simp
  · have hlt := lt_len_of_get h
    have h1 : ((i : Nat) : Int) < ((l10.length : Nat) : Int) := by omega
    have h0 : (0 : Int) ≤ ((i : Nat) : Int) := by omega
    have hw : IntKind.i64.wrap (((i : Nat) : Int) + 1) = (((i + 1 : Nat) : Nat) : Int) := w64 (by omega)
    unfold ref10_asked_loop9 ref10_asked_loop9_step
    simp only [h1, h0, hw, h, decide_true, if_true, and_self, true_and, Int.toNat_natCast, Option.bind_some, Option.map_bind, Function.comp_def, map_ite, map_elim, Option.map_some, Option.map_none]

noncomputable def ref10_asked_loop18 (o1 o2 : Int) (o3 : Bool) (o4 o5 o6 : Int) (o7 : Bool) (o8 : Int) (l10 : List Item) (many12 v38 : Int) : Option ((Int) ⊕ ((Unit) ⊕ (Int))) :=
 (if (decide (v38 < ((l10.length : Nat) : Int))) = true then
 (if 0 ≤ v38 then
 (l10[v38.toNat]?).bind fun e39 =>
 (ref10_isItem o1 o2 o3 o4 o5 o6 o7 o8 many12 e39.symbol e39.s e39.t e39.refined e39.dX e39.dY e39.pix_w e39.pix_h e39.pix_pix).bind fun q40 =>
 (if (!q40) = true then
 some (Sum.inr (Sum.inr 2))
 else
 let t41 := IntKind.i64.wrap (v38 + 1);
 some (Sum.inl t41))
 else
 none)
 else
 some (Sum.inr (Sum.inl ())))
noncomputable def ref10_asked_loop18_step (o1 o2 : Int) (o3 : Bool) (o4 o5 o6 : Int) (o7 : Bool) (o8 many12 : Int) (i42 : Nat) (x43 : Item) (s44 : Unit) : Option ((Unit) ⊕ ((Unit) ⊕ (Int))) :=
 (ref10_isItem o1 o2 o3 o4 o5 o6 o7 o8 many12 x43.symbol x43.s x43.t x43.refined x43.dX x43.dY x43.pix_w x43.pix_h x43.pix_pix).bind fun q40 =>
 (if (!q40) = true then
 some (Sum.inr (Sum.inr 2))
 else
 some (Sum.inl (())))
theorem ref10_asked_loop18_over (o1 o2 : Int) (o3 : Bool) (o4 o5 o6 : Int) (o7 : Bool) (o8 : Int) (l10 : List Item) (many12 : Int) (hl : l10.length ≤ 9223372036854775807) (s44 : Unit) : loop (ref10_asked_loop18 o1 o2 o3 o4 o5 o6 o7 o8 l10 many12) (0 : Int) =
    overL (ref10_asked_loop18_step o1 o2 o3 o4 o5 o6 o7 o8 many12) (fun (s44 : Unit) => some (Sum.inl ())) 0 l10 s44 := by
  refine loop_over l10 (fun n (s : Unit) => (((n : Nat) : Int) : Int)) _ _ (fun s => ?_) (fun i x s h => ?_) 0 s44 (Nat.zero_le _)
  · unfold ref10_asked_loop18; simp
  · have hlt := lt_len_of_get h
    have h1 : ((i : Nat) : Int) < ((l10.length : Nat) : Int) := by omega
    have h0 : (0 : Int) ≤ ((i : Nat) : Int) := by omega
    have hw : IntKind.i64.wrap (((i : Nat) : Int) + 1) = (((i + 1 : Nat) : Nat) : Int) := w64 (by omega)
    unfold ref10_asked_loop18 ref10_asked_loop18_step
    simp only [h1, h0, hw, h, decide_true, if_true, and_self, true_and, Int.toNat_natCast, Option.bind_some, Option.map_bind, Function.comp_def, map_ite, map_elim, Option.map_some, Option.map_none]

theorem ref10_asked_eq (o1 o2 : Int) (o3 : Bool) (o4 o5 o6 : Int) (o7 : Bool) (o8 : Int) (symbols9 : List Bitmap) (l10 : List Item) (right11 : Bool) (many12 : Int) : ref10_asked o1 o2 o3 o4 o5 o6 o7 o8 symbols9 l10 right11 many12 =
 (ref10_Valid o1 o2 o3 o4 o5 o6 o7 o8).bind fun q13 =>
 (if (!q13) = true then
 some 2
 else
 (loop (ref10_asked_loop4 symbols9) (right11, 0)).bind (fun right24 =>
 (loop (ref10_asked_loop9 l10) (right24, 0)).bind (fun right36 =>
 (if (!right36) = true then
 some 30
 else
 ((if (decide (((symbols9.length : Nat) : Int) > 60)) = true then
 some true
 else
 some (decide (((l10.length : Nat) : Int) > 300))) : Option (Bool)).bind (fun v37 =>
 (if v37 = true then
 some 2
 else
 (loop (ref10_asked_loop18 o1 o2 o3 o4 o5 o6 o7 o8 l10 many12) 0).bind (fun o47 =>
 (Sum.elim (fun (p45 : Unit) =>
 some 0)
 (fun (v46 : Int) =>
 some v46) o47)))))))) := (call_eq ..).trans (by kernel_rfl)

theorem ref10_Strip_eq (o1 o2 : Int) (o3 : Bool) (o4 o5 o6 : Int) (o7 : Bool) (o8 a9 : Int) : ref10_Strip o1 o2 o3 o4 o5 o6 o7 o8 a9 =
 (if o1 = 0 then
 none
 else
 let t10 := IntKind.i64.wrap (a9.tdiv o1);
 let t11 := IntKind.i64.wrap (t10 * o1);
 (if (decide (t11 > a9)) = true then
 let t12 := IntKind.i64.wrap (t10 - 1);
 some t12
 else
 some t10)) := (call_eq ..).trans (by kernel_rfl)

theorem ref10_Model_eq (o1 o2 : Int) (o3 : Bool) (o4 o5 o6 : Int) (o7 : Bool) (o8 symbols9 : Int) : ref10_Model o1 o2 o3 o4 o5 o6 o7 o8 symbols9 =
 (ref03_Width symbols9).bind fun q10 =>
 (if q10 < 0 then
 none
 else
 let t11 := ishl .i64 1 q10;
 let t12 := IntKind.i64.wrap (385 + t11);
 let t13 := IntKind.i64.wrap (t12 - 1);
 ((if o7 = true then
 (ref08_Size o8).bind fun q14 =>
 let tr15 := q14.1;
 let tr16 := q14.2;
 let t17 := IntKind.i64.wrap (t13 + tr15);
 some t17
 else
 some t13) : Option (Int)).bind (fun n18 =>
 (if 0 ≤ n18 ∧ n18 ≤ n18 ∧ ((8 : Nat) : Int) * n18 ≤ 281474976710656 then
 let t19 : List Int := List.replicate n18.toNat 0;
 some (o6, t19, q10)
 else
 none))) := (call_eq ..).trans (by kernel_rfl)

theorem ref10_put_eq (tree1 n2 b3 b4 b5 : Int) (b6 b7 : List Int) : ref10_put tree1 n2 b3 b4 b5 b6 b7 =
 (ref03_Put tree1 false n2 b3 b4 b5 b6 b7).bind fun q8 =>
 let tr9 := q8.1;
 let tr10 := q8.2.1;
 let tr11 := q8.2.2.1;
 let tr12 := q8.2.2.2.1;
 let tr13 := q8.2.2.2.2.1;
 let tr14 := q8.2.2.2.2.2;
 some (tr10, tr11, tr12, tr13, tr14) := (call_eq ..).trans (by kernel_rfl)

theorem ref10_refine_eq (o1 o2 : Int) (o3 : Bool) (o4 o5 o6 : Int) (o7 : Bool) (o8 x9 y10 : Int) : ref10_refine o1 o2 o3 o4 o5 o6 o7 o8 x9 y10 =
 some (o8, x9, y10, false, o6) := (call_eq ..).trans (by kernel_rfl)

theorem ref01_Signed_eq (n1 : Int) : ref01_Signed n1 =
 ((if (decide (n1 < (-1073741824))) = true then
 some true
 else
 some (decide (n1 ≥ 1073741824))) : Option (Bool)).bind (fun v2 =>
 (if v2 = true then
 some ([], 2)
 else
 (if (decide (n1 < 0)) = true then
 let t3 := IntKind.i64.wrap ((-2) * n1);
 let t4 := IntKind.i64.wrap (t3 - 1);
 (ref01_Size t4).bind fun q5 =>
 let tr6 := q5.1;
 let tr7 := q5.2;
 some (tr6, tr7)
 else
 let t8 := IntKind.i64.wrap (2 * n1);
 (ref01_Size t8).bind fun q9 =>
 let tr10 := q9.1;
 let tr11 := q9.2;
 some (tr10, tr11)))) := (call_eq ..).trans (by kernel_rfl)

theorem symbol_Kept_eq (o1 o2 o3 : Int) (o4 : Bool) (o5 o6 : Int) : symbol_Kept o1 o2 o3 o4 o5 o6 =
 (symbol_Valid o1 o2 o3 o4 o5 o6).bind fun q7 =>
 (if (!q7) = true then
 some (0, 2)
 else
 (symbol_lay o1 o2 o3 o4 o5 o6 0).bind fun q8 =>
 let tr9 := q8.1;
 let tr10 := q8.2.1;
 let tr11 := q8.2.2.1;
 let tr12 := q8.2.2.2.1;
 let tr13 := q8.2.2.2.2.1;
 let tr14 := q8.2.2.2.2.2.1;
 let tr15 := q8.2.2.2.2.2.2.1;
 let tr16 := q8.2.2.2.2.2.2.2.1;
 let tr17 := q8.2.2.2.2.2.2.2.2.1;
 let tr18 := q8.2.2.2.2.2.2.2.2.2;
 let t19 := IntKind.i64.wrap (tr18 - tr16);
 some (t19, 0)) := (call_eq ..).trans (by kernel_rfl)

noncomputable def coder_Valid_loop7 (m2 : List Int) (end4 v5 : Int) : Option ((Int) ⊕ ((Unit) ⊕ (Bool))) :=
 (if (decide (v5 < ((m2.length : Nat) : Int))) = true then
 (if 0 ≤ v5 ∧ v5 < (m2.length : Int) then
 (if (decide (rd m2 v5 < 0)) = true then
 some (Sum.inr (Sum.inr false))
 else
 (if (decide (rd m2 v5 ≥ end4)) = true then
 some (Sum.inr (Sum.inr false))
 else
 let t6 := IntKind.i64.wrap (v5 + 1);
 some (Sum.inl t6)))
 else
 none)
 else
 some (Sum.inr (Sum.inl ())))
noncomputable def coder_Valid_loop7_step (end4 : Int) (i7 : Nat) (x8 : Int) (s9 : Unit) : Option ((Unit) ⊕ ((Unit) ⊕ (Bool))) :=
 (if (decide (x8 < 0)) = true then
 some (Sum.inr (Sum.inr false))
 else
 (if (decide (x8 ≥ end4)) = true then
 some (Sum.inr (Sum.inr false))
 else
 some (Sum.inl (()))))
theorem coder_Valid_loop7_over (m2 : List Int) (end4 : Int) (hl : m2.length ≤ 9223372036854775807) (s9 : Unit) : loop (coder_Valid_loop7 m2 end4) (0 : Int) =
    overL (coder_Valid_loop7_step end4) (fun (s9 : Unit) => some (Sum.inl ())) 0 m2 s9 := by
  refine loop_over m2 (fun n (s : Unit) => (((n : Nat) : Int) : Int)) _ _ (fun s => ?_) (fun i x s h => ?_) 0 s9 (Nat.zero_le _)
  · unfold coder_Valid_loop7; simp
  · have hlt := lt_len_of_get h
    have h1 : ((i : Nat) : Int) < ((m2.length : Nat) : Int) := by omega
    have h0 : (0 : Int) ≤ ((i : Nat) : Int) := by omega
    have hw : IntKind.i64.wrap (((i : Nat) : Int) + 1) = (((i + 1 : Nat) : Nat) : Int) := w64 (by omega)
    have hr : rd m2 ((i : Nat) : Int) = x := rd_nat h
    unfold coder_Valid_loop7 coder_Valid_loop7_step
    simp only [h1, h0, hw, h, hr, decide_true, if_true, and_self, true_and, Int.toNat_natCast, Option.bind_some, Option.map_bind, Function.comp_def, map_ite, map_elim, Option.map_some, Option.map_none]

theorem coder_Valid_eq (m1 : Int) (m2 : List Int) : coder_Valid m1 m2 =
 ((if (!decide (m1 = 0)) = true then
 (if (!decide (m1 = 1)) = true then
 some true
 else
 some (decide (((m2.length : Nat) : Int) > 8192)))
 else
 some (decide (((m2.length : Nat) : Int) > 8192))) : Option (Bool)).bind (fun v3 =>
 (if v3 = true then
 some false
 else
 ((if (decide (m1 = 1)) = true then
 some 65536
 else
 some 64) : Option (Int)).bind (fun end4 =>
 (loop (coder_Valid_loop7 m2 end4) 0).bind (fun o12 =>
 (Sum.elim (fun (p10 : Unit) =>
 some true)
 (fun (v11 : Bool) =>
 some v11) o12))))) := (call_eq ..).trans (by kernel_rfl)

theorem slices_ContainsFunc_api_Bitmap_api_Bitmap_eq (s1 : List Bitmap) : slices_ContainsFunc_api_Bitmap_api_Bitmap s1 =
 (slices_IndexFunc_api_Bitmap_api_Bitmap s1).bind fun q2 =>
 some (decide (q2 ≥ 0)) := (call_eq ..).trans (by kernel_rfl)

theorem symbol_isShape_eq (b1 b2 : Int) (b3 : List Int) : symbol_isShape b1 b2 b3 =
 (bitmap_Valid b1 b2 b3).bind fun q4 =>
 (if q4 = true then
 (if (decide (b1 ≥ 1)) = true then
 (if (decide (b1 ≤ 40)) = true then
 (if (decide (b2 ≥ 1)) = true then
 some (decide (b2 ≤ 40))
 else
 some false)
 else
 some false)
 else
 some false)
 else
 some false) := (call_eq ..).trans (by kernel_rfl)

theorem number_Width_eq (n1 : Int) : number_Width n1 =
 (if (decide (n1 < 1)) = true then
 some 0
 else
 let t2 := IntKind.i64.wrap (n1 - 1);
 let t3 := IntKind.u64.wrap t2;
 (math_bits_Len t3).bind fun q4 =>
 some q4) := (call_eq ..).trans (by kernel_rfl)

theorem generic_Size_eq (o1 o2 o3 : Int) (o4 : Bool) (o5 : Int) : generic_Size o1 o2 o3 o4 o5 =
 (generic_Valid o1 o2 o3 o4 o5).bind fun q6 =>
 (if (!q6) = true then
 some (0, 2)
 else
 (generic_contexts o1 o2 o3 o4 o5).bind fun q7 =>
 let t8 := IntKind.i64.wrap (q7 + 1);
 some (t8, 0)) := (call_eq ..).trans (by kernel_rfl)

theorem refine_Size_eq (template1 : Int) : refine_Size template1 =
 ((if (!decide (template1 = 0)) = true then
 some (!decide (template1 = 1))
 else
 some false) : Option (Bool)).bind (fun v2 =>
 (if v2 = true then
 some (0, 2)
 else
 (refine_contexts template1).bind fun q3 =>
 let t4 := IntKind.i64.wrap (q3 + 1);
 some (t4, 0))) := (call_eq ..).trans (by kernel_rfl)

theorem coder_begin_eq (m1 : Int) (m2 : List Int) : coder_begin m1 m2 =
 (coder_clone m1 m2).bind fun q3 =>
 let tr4 := q3.1;
 let tr5 := q3.2;
 (coder_chances).bind fun q6 =>
 some (tr4, 0, 4294967295, tr5) := (call_eq ..).trans (by kernel_rfl)

theorem symbol_writer_put_eq (at1 n2 b3 b4 b5 : Int) (b6 : Bool) (b7 b8 b9 b10 b11 b12 b13 b14 b15 : Int) (b16 b17 : List Int) (b18 : List Bitmap) : symbol_writer_put at1 n2 b3 b4 b5 b6 b7 b8 b9 b10 b11 b12 b13 b14 b15 b16 b17 b18 =
 (number_Put at1 false n2 b13 b14 b15 b16 b17).bind fun q19 =>
 let tr20 := q19.1;
 let tr21 := q19.2.1;
 let tr22 := q19.2.2.1;
 let tr23 := q19.2.2.2.1;
 let tr24 := q19.2.2.2.2.1;
 let tr25 := q19.2.2.2.2.2;
 some (b3, b4, b5, b6, b7, b8, b9, b10, b11, b12, tr21, tr22, tr23, tr24, tr25, b18) := (call_eq ..).trans (by kernel_rfl)

theorem symbol_writer_shape_eq (s1 s2 : Int) (s3 : List Int) (s4 b5 b6 b7 : Int) (b8 : Bool) (b9 b10 b11 b12 b13 b14 b15 b16 b17 : Int) (b18 b19 : List Int) (b20 : List Bitmap) : symbol_writer_shape s1 s2 s3 s4 b5 b6 b7 b8 b9 b10 b11 b12 b13 b14 b15 b16 b17 b18 b19 b20 =
 ((if (decide (s4 < 0)) = true then
 (coder_Encoder_Put 240 0 b15 b16 b17 b18 b19).bind fun q21 =>
 let tr22 := q21.1;
 let tr23 := q21.2.1;
 let tr24 := q21.2.2.1;
 let tr25 := q21.2.2.2.1;
 let tr26 := q21.2.2.2.2.1;
 let tr27 := q21.2.2.2.2.2;
 (generic_Put b12 b5 b6 b7 b8 b9 s1 s2 s3 0 0 [] tr23 tr24 tr25 tr26 tr27).bind fun q28 =>
 let tr29 := q28.1;
 let tr30 := q28.2.1;
 let tr31 := q28.2.2.1;
 let tr32 := q28.2.2.2.1;
 let tr33 := q28.2.2.2.2.1;
 let tr34 := q28.2.2.2.2.2;
 some (b5, b6, b7, b8, b9, b10, b11, b12, b13, b14, tr30, tr31, tr32, tr33, tr34, b20)
 else
 (coder_Encoder_Put 240 1 b15 b16 b17 b18 b19).bind fun q35 =>
 let tr36 := q35.1;
 let tr37 := q35.2.1;
 let tr38 := q35.2.2.1;
 let tr39 := q35.2.2.2.1;
 let tr40 := q35.2.2.2.2.1;
 let tr41 := q35.2.2.2.2.2;
 (number_PutId 241 b11 s4 tr37 tr38 tr39 tr40 tr41).bind fun q42 =>
 let tr43 := q42.1;
 let tr44 := q42.2.1;
 let tr45 := q42.2.2.1;
 let tr46 := q42.2.2.2.1;
 let tr47 := q42.2.2.2.2.1;
 let tr48 := q42.2.2.2.2.2;
 (symbol_writer_put 96 0 b5 b6 b7 b8 b9 b10 b11 b12 b13 b14 tr44 tr45 tr46 tr47 tr48 b20).bind fun q49 =>
 let tr50 := q49.1;
 let tr51 := q49.2.1;
 let tr52 := q49.2.2.1;
 let tr53 := q49.2.2.2.1;
 let tr54 := q49.2.2.2.2.1;
 let tr55 := q49.2.2.2.2.2.1;
 let tr56 := q49.2.2.2.2.2.2.1;
 let tr57 := q49.2.2.2.2.2.2.2.1;
 let tr58 := q49.2.2.2.2.2.2.2.2.1;
 let tr59 := q49.2.2.2.2.2.2.2.2.2.1;
 let tr60 := q49.2.2.2.2.2.2.2.2.2.2.1;
 let tr61 := q49.2.2.2.2.2.2.2.2.2.2.2.1;
 let tr62 := q49.2.2.2.2.2.2.2.2.2.2.2.2.1;
 let tr63 := q49.2.2.2.2.2.2.2.2.2.2.2.2.2.1;
 let tr64 := q49.2.2.2.2.2.2.2.2.2.2.2.2.2.2.1;
 let tr65 := q49.2.2.2.2.2.2.2.2.2.2.2.2.2.2.2;
 (symbol_writer_put 144 0 tr50 tr51 tr52 tr53 tr54 tr55 tr56 tr57 tr58 tr59 tr60 tr61 tr62 tr63 tr64 tr65).bind fun q66 =>
 let tr67 := q66.1;
 let tr68 := q66.2.1;
 let tr69 := q66.2.2.1;
 let tr70 := q66.2.2.2.1;
 let tr71 := q66.2.2.2.2.1;
 let tr72 := q66.2.2.2.2.2.1;
 let tr73 := q66.2.2.2.2.2.2.1;
 let tr74 := q66.2.2.2.2.2.2.2.1;
 let tr75 := q66.2.2.2.2.2.2.2.2.1;
 let tr76 := q66.2.2.2.2.2.2.2.2.2.1;
 let tr77 := q66.2.2.2.2.2.2.2.2.2.2.1;
 let tr78 := q66.2.2.2.2.2.2.2.2.2.2.2.1;
 let tr79 := q66.2.2.2.2.2.2.2.2.2.2.2.2.1;
 let tr80 := q66.2.2.2.2.2.2.2.2.2.2.2.2.2.1;
 let tr81 := q66.2.2.2.2.2.2.2.2.2.2.2.2.2.2.1;
 let tr82 := q66.2.2.2.2.2.2.2.2.2.2.2.2.2.2.2;
 (symbol_layout_options tr67 tr68 tr69 tr70 tr71 tr72 tr73 tr74 tr75 tr76 0 0).bind fun q83 =>
 let tr84 := q83.1;
 let tr85 := q83.2.1;
 let tr86 := q83.2.2.1;
 let tr87 := q83.2.2.2.1;
 let tr88 := q83.2.2.2.2;
 (if 0 ≤ s4 ∧ s4 < (tr82.length : Int) then
 (tr82[s4.toNat]?).bind fun e89 =>
 (refine_Put tr75 tr84 tr85 tr86 tr87 tr88 s1 s2 s3 e89.w e89.h e89.pix tr77 tr78 tr79 tr80 tr81).bind fun q90 =>
 let tr91 := q90.1;
 let tr92 := q90.2.1;
 let tr93 := q90.2.2.1;
 let tr94 := q90.2.2.2.1;
 let tr95 := q90.2.2.2.2.1;
 let tr96 := q90.2.2.2.2.2;
 some (tr67, tr68, tr69, tr70, tr71, tr72, tr73, tr74, tr75, tr76, tr92, tr93, tr94, tr95, tr96, tr82)
 else
 none)) : Option (Int × Int × Int × Bool × Int × Int × Int × Int × Int × Int × Int × Int × Int × (List Int) × (List Int) × (List Bitmap))).bind (fun p97 =>
 let b98 := p97.1;
 let b99 := p97.2.1;
 let b100 := p97.2.2.1;
 let b101 := p97.2.2.2.1;
 let b102 := p97.2.2.2.2.1;
 let b103 := p97.2.2.2.2.2.1;
 let b104 := p97.2.2.2.2.2.2.1;
 let b105 := p97.2.2.2.2.2.2.2.1;
 let b106 := p97.2.2.2.2.2.2.2.2.1;
 let b107 := p97.2.2.2.2.2.2.2.2.2.1;
 let b108 := p97.2.2.2.2.2.2.2.2.2.2.1;
 let b109 := p97.2.2.2.2.2.2.2.2.2.2.2.1;
 let b110 := p97.2.2.2.2.2.2.2.2.2.2.2.2.1;
 let b111 := p97.2.2.2.2.2.2.2.2.2.2.2.2.2.1;
 let b112 := p97.2.2.2.2.2.2.2.2.2.2.2.2.2.2.1;
 let b113 := p97.2.2.2.2.2.2.2.2.2.2.2.2.2.2.2;
 (if (b113.length + ([(Bitmap.mk s1 s2 s3)] : List Bitmap).length) * 40 ≤ 140737488355328 then
 let t114 : List Bitmap := b113 ++ [(Bitmap.mk s1 s2 s3)];
 some (b98, b99, b100, b101, b102, b103, b104, b105, b106, b107, b108, b109, b110, b111, b112, t114)
 else
 none)) := (call_eq ..).trans (by kernel_rfl)

theorem coder_Encoder_none_eq (b1 b2 b3 : Int) (b4 b5 : List Int) : coder_Encoder_none b1 b2 b3 b4 b5 =
 some (false, b1, b2, b3, b4, b5) := (call_eq ..).trans (by kernel_rfl)

theorem coder_clone_eq (m1 : Int) (m2 : List Int) : coder_clone m1 m2 =
 (if (([] : List Int).length + m2.length) * 8 ≤ 140737488355328 then
 let t3 : List Int := ([] : List Int) ++ m2;
 some (m1, t3)
 else
 none) := (call_eq ..).trans (by kernel_rfl)

theorem slices_Clone_int_int_eq (s1 : List Int) : slices_Clone_int_int s1 =
 (if s1.length = 0 then
 (demon
 (some [])
 ((if (([] : List Int).length + s1.length) * 8 ≤ 140737488355328 then
 let t2 : List Int := ([] : List Int) ++ s1;
 some t2
 else
 none)))
 else
 (if (([] : List Int).length + s1.length) * 8 ≤ 140737488355328 then
 let t3 : List Int := ([] : List Int) ++ s1;
 some t3
 else
 none)) := (call_eq ..).trans (by kernel_rfl)

theorem ref09_Valid_eq (o1 o2 o3 : Int) (o4 : Bool) (o5 o6 : Int) : ref09_Valid o1 o2 o3 o4 o5 o6 =
 (ref07_Valid o1 o2 o3 o4 o5).bind fun q7 =>
 (if q7 = true then
 (if (!o4) = true then
 (if (decide (o6 = 0)) = true then
 some true
 else
 some (decide (o6 = 1)))
 else
 some false)
 else
 some false) := (call_eq ..).trans (by kernel_rfl)

theorem ref09_Fits_eq (o1 o2 o3 : Int) (o4 : Bool) (o5 o6 kept7 : Int) (kept8 : List Int) : ref09_Fits o1 o2 o3 o4 o5 o6 kept7 kept8 =
 (ref09_Kept o1 o2 o3 o4 o5 o6).bind fun q9 =>
 let tr10 := q9.1;
 let tr11 := q9.2;
 (if (decide (((kept8.length : Nat) : Int) = 0)) = true then
 some true
 else
 (ref02_Valid kept7 kept8).bind fun q12 =>
 (if q12 = true then
 (if (decide (kept7 = o5)) = true then
 some (decide (((kept8.length : Nat) : Int) = tr10))
 else
 some false)
 else
 some false)) := (call_eq ..).trans (by kernel_rfl)

theorem ref09_IsShape_eq (b1 b2 : Int) (b3 : List Int) : ref09_IsShape b1 b2 b3 =
 (ref05_Valid b1 b2 b3).bind fun q4 =>
 (if q4 = true then
 (if (decide (b1 ≥ 1)) = true then
 (if (decide (b2 ≥ 1)) = true then
 (if (decide (b1 ≤ 40)) = true then
 some (decide (b2 ≤ 40))
 else
 some false)
 else
 some false)
 else
 some false)
 else
 some false) := (call_eq ..).trans (by kernel_rfl)

theorem ref09_Kept_eq (o1 o2 o3 : Int) (o4 : Bool) (o5 o6 : Int) : ref09_Kept o1 o2 o3 o4 o5 o6 =
 (ref09_Valid o1 o2 o3 o4 o5 o6).bind fun q7 =>
 (if (!q7) = true then
 some (0, 2)
 else
 (ref09_sizes o1 o2 o3 o4 o5 o6).bind fun q8 =>
 let tr9 := q8.1;
 let tr10 := q8.2;
 let t11 := IntKind.i64.wrap (tr9 + tr10);
 some (t11, 0)) := (call_eq ..).trans (by kernel_rfl)

theorem ref02_New_eq (kind1 n2 : Int) : ref02_New kind1 n2 =
 ((if (!decide (kind1 = 0)) = true then
 (if (!decide (kind1 = 1)) = true then
 some true
 else
 (if (decide (n2 < 0)) = true then
 some true
 else
 some (decide (n2 > 8192))))
 else
 (if (decide (n2 < 0)) = true then
 some true
 else
 some (decide (n2 > 8192)))) : Option (Bool)).bind (fun v3 =>
 (if v3 = true then
 some (0, 2, [])
 else
 (if 0 ≤ n2 ∧ n2 ≤ n2 ∧ ((8 : Nat) : Int) * n2 ≤ 281474976710656 then
 let t4 : List Int := List.replicate n2.toNat 0;
 some (kind1, 0, t4)
 else
 none))) := (call_eq ..).trans (by kernel_rfl)

theorem ref07_Size_eq (o1 o2 o3 : Int) (o4 : Bool) (o5 : Int) : ref07_Size o1 o2 o3 o4 o5 =
 (ref07_Valid o1 o2 o3 o4 o5).bind fun q6 =>
 (if (!q6) = true then
 some (0, 2)
 else
 (ref07_pixels o1 o2 o3 o4 o5).bind fun q7 =>
 (if ((q7.length : Nat) : Int) < 0 then
 none
 else
 let t8 := ishl .i64 1 ((q7.length : Nat) : Int);
 let t9 := IntKind.i64.wrap (t8 + 1);
 some (t9, 0))) := (call_eq ..).trans (by kernel_rfl)

theorem ref08_Size_eq (template1 : Int) : ref08_Size template1 =
 (if (decide (template1 < 0)) = true then
 some (0, 2)
 else
 (if (decide (template1 > 1)) = true then
 some (0, 2)
 else
 (ref08_size template1).bind fun q2 =>
 some (q2, 0))) := (call_eq ..).trans (by kernel_rfl)

noncomputable def ref02_Valid_loop7 (m2 : List Int) (most3 v5 : Int) : Option ((Int) ⊕ ((Unit) ⊕ (Bool))) :=
 (if (decide (v5 < ((m2.length : Nat) : Int))) = true then
 (if 0 ≤ v5 ∧ v5 < (m2.length : Int) then
 (if (decide (rd m2 v5 < 0)) = true then
 some (Sum.inr (Sum.inr false))
 else
 (if (decide (rd m2 v5 > most3)) = true then
 some (Sum.inr (Sum.inr false))
 else
 let t6 := IntKind.i64.wrap (v5 + 1);
 some (Sum.inl t6)))
 else
 none)
 else
 some (Sum.inr (Sum.inl ())))
noncomputable def ref02_Valid_loop7_step (most3 : Int) (i7 : Nat) (x8 : Int) (s9 : Unit) : Option ((Unit) ⊕ ((Unit) ⊕ (Bool))) :=
 (if (decide (x8 < 0)) = true then
 some (Sum.inr (Sum.inr false))
 else
 (if (decide (x8 > most3)) = true then
 some (Sum.inr (Sum.inr false))
 else
 some (Sum.inl (()))))
theorem ref02_Valid_loop7_over (m2 : List Int) (most3 : Int) (hl : m2.length ≤ 9223372036854775807) (s9 : Unit) : loop (ref02_Valid_loop7 m2 most3) (0 : Int) =
    overL (ref02_Valid_loop7_step most3) (fun (s9 : Unit) => some (Sum.inl ())) 0 m2 s9 := by
  refine loop_over m2 (fun n (s : Unit) => (((n : Nat) : Int) : Int)) _ _ (fun s => ?_) (fun i x s h => ?_) 0 s9 (Nat.zero_le _)
  · unfold ref02_Valid_loop7; simp
  · have hlt := lt_len_of_get h
    have h1 : ((i : Nat) : Int) < ((m2.length : Nat) : Int) := by omega
    have h0 : (0 : Int) ≤ ((i : Nat) : Int) := by omega
    have hw : IntKind.i64.wrap (((i : Nat) : Int) + 1) = (((i + 1 : Nat) : Nat) : Int) := w64 (by omega)
    have hr : rd m2 ((i : Nat) : Int) = x := rd_nat h
    unfold ref02_Valid_loop7 ref02_Valid_loop7_step
    simp only [h1, h0, hw, h, hr, decide_true, if_true, and_self, true_and, Int.toNat_natCast, Option.bind_some, Option.map_bind, Function.comp_def, map_ite, map_elim, Option.map_some, Option.map_none]

theorem ref02_Valid_eq (m1 : Int) (m2 : List Int) : ref02_Valid m1 m2 =
 ((if (decide (m1 = 1)) = true then
 some 65535
 else
 some 63) : Option (Int)).bind (fun most3 =>
 ((if (!decide (m1 = 0)) = true then
 (if (!decide (m1 = 1)) = true then
 some true
 else
 some (decide (((m2.length : Nat) : Int) > 8192)))
 else
 some (decide (((m2.length : Nat) : Int) > 8192))) : Option (Bool)).bind (fun v4 =>
 (if v4 = true then
 some false
 else
 (loop (ref02_Valid_loop7 m2 most3) 0).bind (fun o12 =>
 (Sum.elim (fun (p10 : Unit) =>
 some true)
 (fun (v11 : Bool) =>
 some v11) o12))))) := (call_eq ..).trans (by kernel_rfl)

theorem ref02_Copy_eq (m1 : Int) (m2 : List Int) : ref02_Copy m1 m2 =
 (if (([] : List Int).length + m2.length) * 8 ≤ 140737488355328 then
 let t3 : List Int := ([] : List Int) ++ m2;
 some (m1, t3)
 else
 none) := (call_eq ..).trans (by kernel_rfl)

theorem ref02_Whole_eq : ref02_Whole =
 some (0, 4294967295) := (call_eq ..).trans (by kernel_rfl)

theorem ref03_Valid_eq (n1 : Bool) (n2 : Int) : ref03_Valid n1 n2 =
 (if n1 = true then
 some (decide (n2 = 0))
 else
 (if (decide (n2 ≥ (-1048576))) = true then
 some (decide (n2 ≤ 1048576))
 else
 some false)) := (call_eq ..).trans (by kernel_rfl)

theorem ref03_room_eq (states1 base2 n3 : Int) : ref03_room states1 base2 n3 =
 (if (decide (base2 ≥ 0)) = true then
 (if (decide (base2 ≤ states1)) = true then
 let t4 := IntKind.i64.wrap (states1 - base2);
 some (decide (n3 ≤ t4))
 else
 some false)
 else
 some false) := (call_eq ..).trans (by kernel_rfl)
end
end Go.Proofs.YtkccnhkhjncpkaaGreat.P
