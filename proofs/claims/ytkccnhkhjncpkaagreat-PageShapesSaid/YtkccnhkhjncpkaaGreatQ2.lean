/- The equations of functions. Printed by wip/tool/vsym.py. -/
import Derived.Test.YtkccnhkhjncpkaaGreatG
import Derived.Test.YtkccnhkhjncpkaaGreatLib
namespace Go.Proofs.YtkccnhkhjncpkaaGreat.P
open Go Go.Proofs.YtkccnhkhjncpkaaGreat.V
set_option linter.unusedVariables false
set_option linter.unusedSimpArgs false
set_option maxRecDepth 100000
noncomputable section
noncomputable def ref03_events_loop9 (s8 : Int × (List Int)) : Option ((Int × (List Int)) ⊕ ((List Int))) :=
 let v9 := s8.1;
 let digits10 := s8.2;
 (if (decide (v9 > 0)) = true then
 let t11 : Int := v9.tmod 2;
 (if (digits10.length + ([t11] : List Int).length) * 8 ≤ 140737488355328 then
 let t12 : List Int := digits10 ++ [t11];
 let t13 := IntKind.i64.wrap (v9.tdiv 2);
 some (Sum.inl (t13, t12))
 else
 none)
 else
 some (Sum.inr digits10))
noncomputable def ref03_events_loop14 (t15 : Int) (s16 : Int × (List Event)) : Option ((Int × (List Event)) ⊕ ((List Event))) :=
 let i17 := s16.1;
 let out18 := s16.2;
 (if (decide (i17 < t15)) = true then
 let t19 := IntKind.i64.wrap (1 + i17);
 (if (out18.length + ([(Event.mk t19 1)] : List Event).length) * 16 ≤ 140737488355328 then
 let t20 : List Event := out18 ++ [(Event.mk t19 1)];
 let t21 := IntKind.i64.wrap (i17 + 1);
 some (Sum.inl (t21, t20))
 else
 none)
 else
 some (Sum.inr out18))
noncomputable def ref03_events_loop14_step (i22 x23 : Nat) (s24 : (List Event)) : Option (((List Event)) ⊕ ((List Event))) :=
 let t19 := IntKind.i64.wrap (1 + ((i22 : Nat) : Int));
 (if (s24.length + ([(Event.mk t19 1)] : List Event).length) * 16 ≤ 140737488355328 then
 let t20 : List Event := s24 ++ [(Event.mk t19 1)];
 some (Sum.inl (t20))
 else
 none)
theorem ref03_events_loop14_over (t15 : Int) (hl : (List.range (t15).toNat).length ≤ 9223372036854775807) (s24 : (List Event)) : loop (ref03_events_loop14 t15) ((0, s24) : Int × (List Event)) =
    overL (ref03_events_loop14_step) (fun (s24 : (List Event)) => some s24) 0 (List.range (t15).toNat) s24 := by
  refine loop_over (List.range (t15).toNat) (fun n (s : (List Event)) => ((((n : Nat) : Int), s) : Int × (List Event))) _ _ (fun s => ?_) (fun i x s h => ?_) 0 s24 (Nat.zero_le _)
  · have h1 : ¬ (((List.range (t15).toNat).length : Nat) : Int) < t15 := by simp only [List.length_range]; omega
    unfold ref03_events_loop14; simp only [h1, decide_false, Bool.false_eq_true, if_false, Option.map_some]
  · have hlt := lt_len_of_get h
    rw [List.length_range] at hlt hl
    rw [List.getElem?_range hlt] at h
    cases h
    have h1 : ((i : Nat) : Int) < t15 := by omega
    have h0 : (0 : Int) ≤ ((i : Nat) : Int) := by omega
    have hw : IntKind.i64.wrap (((i : Nat) : Int) + 1) = (((i + 1 : Nat) : Nat) : Int) := w64 (by omega)
    unfold ref03_events_loop14 ref03_events_loop14_step
    simp only [h1, h0, hw, decide_true, if_true, and_self, true_and, Int.toNat_natCast, Option.bind_some, Option.map_bind, Function.comp_def, map_ite, map_elim, Option.map_some, Option.map_none]

noncomputable def ref03_events_loop20 (digits14 : (List Int)) (t15 : Int) (s29 : Int × (List Event)) : Option ((Int × (List Event)) ⊕ ((List Event))) :=
 let i30 := s29.1;
 let out31 := s29.2;
 (if (decide (i30 < t15)) = true then
 let t32 := IntKind.i64.wrap (43 + i30);
 let t33 := imin t32 47;
 ((if (decide (i30 = 0)) = true then
 let t34 := IntKind.i64.wrap (23 + t15);
 some t34
 else
 some t33) : Option (Int)).bind (fun ctx35 =>
 let t36 := IntKind.i64.wrap (t15 - 1);
 let t37 := IntKind.i64.wrap (t36 - i30);
 (if 0 ≤ t37 ∧ t37 < (digits14.length : Int) then
 let t38 : Int := rd digits14 t37;
 (if (out31.length + ([(Event.mk ctx35 t38)] : List Event).length) * 16 ≤ 140737488355328 then
 let t39 : List Event := out31 ++ [(Event.mk ctx35 t38)];
 let t40 := IntKind.i64.wrap (i30 + 1);
 some (Sum.inl (t40, t39))
 else
 none)
 else
 none))
 else
 some (Sum.inr out31))
noncomputable def ref03_events_loop20_step (digits14 : (List Int)) (t15 : Int) (i41 x42 : Nat) (s43 : (List Event)) : Option (((List Event)) ⊕ ((List Event))) :=
 let t32 := IntKind.i64.wrap (43 + ((i41 : Nat) : Int));
 let t33 := imin t32 47;
 ((if (decide (((i41 : Nat) : Int) = 0)) = true then
 let t34 := IntKind.i64.wrap (23 + t15);
 some t34
 else
 some t33) : Option (Int)).bind (fun ctx35 =>
 let t36 := IntKind.i64.wrap (t15 - 1);
 let t37 := IntKind.i64.wrap (t36 - ((i41 : Nat) : Int));
 (if 0 ≤ t37 ∧ t37 < (digits14.length : Int) then
 let t38 : Int := rd digits14 t37;
 (if (s43.length + ([(Event.mk ctx35 t38)] : List Event).length) * 16 ≤ 140737488355328 then
 let t39 : List Event := s43 ++ [(Event.mk ctx35 t38)];
 some (Sum.inl (t39))
 else
 none)
 else
 none))
theorem ref03_events_loop20_over (digits14 : (List Int)) (t15 : Int) (hl : (List.range (t15).toNat).length ≤ 9223372036854775807) (s43 : (List Event)) : loop (ref03_events_loop20 digits14 t15) ((0, s43) : Int × (List Event)) =
    overL (ref03_events_loop20_step digits14 t15) (fun (s43 : (List Event)) => some s43) 0 (List.range (t15).toNat) s43 := by
  refine loop_over (List.range (t15).toNat) (fun n (s : (List Event)) => ((((n : Nat) : Int), s) : Int × (List Event))) _ _ (fun s => ?_) (fun i x s h => ?_) 0 s43 (Nat.zero_le _)
  · have h1 : ¬ (((List.range (t15).toNat).length : Nat) : Int) < t15 := by simp only [List.length_range]; omega
    unfold ref03_events_loop20; simp only [h1, decide_false, Bool.false_eq_true, if_false, Option.map_some]
  · have hlt := lt_len_of_get h
    rw [List.length_range] at hlt hl
    rw [List.getElem?_range hlt] at h
    cases h
    have h1 : ((i : Nat) : Int) < t15 := by omega
    have h0 : (0 : Int) ≤ ((i : Nat) : Int) := by omega
    have hw : IntKind.i64.wrap (((i : Nat) : Int) + 1) = (((i + 1 : Nat) : Nat) : Int) := w64 (by omega)
    unfold ref03_events_loop20 ref03_events_loop20_step
    simp only [h1, h0, hw, decide_true, if_true, and_self, true_and, Int.toNat_natCast, Option.bind_some, Option.map_bind, Function.comp_def, map_ite, map_elim, Option.map_some, Option.map_none]

theorem ref03_events_eq (n1 : Bool) (n2 : Int) : ref03_events n1 n2 =
 (if n1 = true then
 some [(Event.mk 0 1)]
 else
 ((if (decide (n2 < 0)) = true then
 let t3 := IntKind.i64.wrap (0 - n2);
 some (t3, 1)
 else
 some (n2, 0)) : Option (Int × Int)).bind (fun p4 =>
 let m5 := p4.1;
 let sign6 := p4.2;
 let t7 := IntKind.i64.wrap (m5 + 1);
 (loop (ref03_events_loop9) (t7, [])).bind (fun digits14 =>
 let t15 := IntKind.i64.wrap (((digits14.length : Nat) : Int) - 1);
 (loop (ref03_events_loop14 t15) (0, [(Event.mk 0 0)])).bind (fun out25 =>
 ((if (decide (t15 < 20)) = true then
 let t26 := IntKind.i64.wrap (1 + t15);
 (if (out25.length + ([(Event.mk t26 0)] : List Event).length) * 16 ≤ 140737488355328 then
 let t27 : List Event := out25 ++ [(Event.mk t26 0)];
 some t27
 else
 none)
 else
 some out25) : Option ((List Event))).bind (fun out28 =>
 (loop (ref03_events_loop20 digits14 t15) (0, out28)).bind (fun out44 =>
 (if (!decide (m5 = 0)) = true then
 (if (out44.length + ([(Event.mk 22 sign6)] : List Event).length) * 16 ≤ 140737488355328 then
 let t45 : List Event := out44 ++ [(Event.mk 22 sign6)];
 some t45
 else
 none)
 else
 some out44))))))) := (call_eq ..).trans (by kernel_rfl)

theorem ref02_Likely_eq (kind1 state2 : Int) : ref02_Likely kind1 state2 =
 (if (decide (kind1 = 0)) = true then
 let t3 : Int := state2.tmod 32;
 (ref02_unlikely t3).bind fun q4 =>
 (if (decide (state2 < 32)) = true then
 some q4
 else
 let t5 : Int := state2.tmod 32;
 (ref02_unlikely t5).bind fun q6 =>
 let t7 := IntKind.i64.wrap (4096 - q6);
 some t7)
 else
 let t8 := IntKind.i64.wrap (state2.tdiv 256);
 let t9 : Int := state2.tmod 256;
 let t10 := IntKind.i64.wrap (2 * t9);
 let t11 := IntKind.i64.wrap (t10 + 1);
 let t12 := IntKind.i64.wrap (t11 * 4096);
 let t13 := IntKind.i64.wrap (2 * t8);
 let t14 := IntKind.i64.wrap (2 * t9);
 let t15 := IntKind.i64.wrap (t13 + t14);
 let t16 := IntKind.i64.wrap (t15 + 2);
 (if t16 = 0 then
 none
 else
 let t17 := IntKind.i64.wrap (t12.tdiv t16);
 let t18 := imax t17 1;
 let t19 := imin t18 4095;
 some t19)) := (call_eq ..).trans (by kernel_rfl)

theorem ref02_Interval_Part_eq (x1 x2 p3 bit4 : Int) : ref02_Interval_Part x1 x2 p3 bit4 =
 (if (decide (bit4 = 1)) = true then
 (ref02_Interval_Mid x1 x2 p3).bind fun q5 =>
 some (x1, q5)
 else
 (ref02_Interval_Mid x1 x2 p3).bind fun q6 =>
 let t7 := IntKind.u64.wrap (q6 + 1);
 some (t7, x2)) := (call_eq ..).trans (by kernel_rfl)

theorem ref02_After_eq (kind1 state2 bit3 : Int) : ref02_After kind1 state2 bit3 =
 (if (decide (kind1 = 0)) = true then
 let t4 := IntKind.i64.wrap (state2.tdiv 32);
 let t5 : Int := state2.tmod 32;
 (if (decide (bit3 = t4)) = true then
 let t6 := IntKind.i64.wrap (32 * t4);
 let t7 := IntKind.i64.wrap (t5 + 1);
 let t8 := imin t7 31;
 let t9 := IntKind.i64.wrap (t6 + t8);
 some t9
 else
 (if (decide (t5 = 0)) = true then
 let t10 := IntKind.i64.wrap (32 * bit3);
 some t10
 else
 let t11 := IntKind.i64.wrap (32 * t4);
 let t12 := IntKind.i64.wrap (t11 + t5);
 let t13 := IntKind.i64.wrap (t12 - 1);
 let t14 := IntKind.i64.wrap (t5.tdiv 4);
 let t15 := IntKind.i64.wrap (t13 - t14);
 some t15))
 else
 let t16 := IntKind.i64.wrap (state2.tdiv 256);
 let t17 : Int := state2.tmod 256;
 (if 0 ≤ bit3 ∧ bit3 < ((2 : Nat) : Int) then
 let t18 : Int := rd [t16, t17] bit3;
 ((if (decide (t18 = 255)) = true then
 (if 0 ≤ (0 : Int) ∧ (0 : Int) < ((2 : Nat) : Int) then
 let t19 := IntKind.i64.wrap (t16.tdiv 2);
 (if 0 ≤ (1 : Int) ∧ (1 : Int) < ((2 : Nat) : Int) then
 let t20 := IntKind.i64.wrap (t17.tdiv 2);
 (if 0 ≤ (0 : Int) ∧ (0 : Int) < ((2 : Nat) : Int) then
 (if 0 ≤ (1 : Int) ∧ (1 : Int) < ((2 : Nat) : Int) then
 some (t19, t20)
 else
 none)
 else
 none)
 else
 none)
 else
 none)
 else
 some (t16, t17)) : Option (Int × Int)).bind (fun p21 =>
 let b22 := p21.1;
 let b23 := p21.2;
 (if 0 ≤ bit3 ∧ bit3 < ((2 : Nat) : Int) then
 let t24 : Int := rd [b22, b23] bit3;
 let t25 := IntKind.i64.wrap (t24 + 1);
 (if 0 ≤ bit3 ∧ bit3 < ((2 : Nat) : Int) then
 let c26 : Int := if bit3 = 0 then t25 else b22;
 let c27 : Int := if bit3 = 1 then t25 else b23;
 (if 0 ≤ (0 : Int) ∧ (0 : Int) < ((2 : Nat) : Int) then
 let t28 := IntKind.i64.wrap (256 * c26);
 (if 0 ≤ (1 : Int) ∧ (1 : Int) < ((2 : Nat) : Int) then
 let t29 := IntKind.i64.wrap (t28 + c27);
 some t29
 else
 none)
 else
 none)
 else
 none)
 else
 none))
 else
 none)) := (call_eq ..).trans (by kernel_rfl)

theorem ref02_Interval_Fixed_eq (x1 x2 : Int) : ref02_Interval_Fixed x1 x2 =
 let t3 := ishr .u64 x1 24;
 let t4 := ishr .u64 x2 24;
 some (decide (t3 = t4)) := (call_eq ..).trans (by kernel_rfl)

theorem ref02_Interval_Shifted_eq (x1 x2 : Int) : ref02_Interval_Shifted x1 x2 =
 let t3 : Int := x1.tmod 16777216;
 let t4 := IntKind.u64.wrap (t3 * 256);
 let t5 : Int := x2.tmod 16777216;
 let t6 := IntKind.u64.wrap (t5 * 256);
 let t7 := IntKind.u64.wrap (t6 + 255);
 some (t4, t7) := (call_eq ..).trans (by kernel_rfl)

theorem ref07_Valid_eq (o1 o2 o3 : Int) (o4 : Bool) (o5 : Int) : ref07_Valid o1 o2 o3 o4 o5 =
 ((if (decide (o1 < 0)) = true then
 some true
 else
 (if (decide (o1 > 3)) = true then
 some true
 else
 (if (decide (o5 < 0)) = true then
 some true
 else
 some (decide (o5 > 1))))) : Option (Bool)).bind (fun v6 =>
 (if v6 = true then
 some false
 else
 ((if 0 ≤ (0 : Int) ∧ (0 : Int) < ((2 : Nat) : Int) then
 (if (decide (o2 < (-8))) = true then
 some true
 else
 (if 0 ≤ (0 : Int) ∧ (0 : Int) < ((2 : Nat) : Int) then
 (if (decide (o2 > 8)) = true then
 some true
 else
 (if 0 ≤ (1 : Int) ∧ (1 : Int) < ((2 : Nat) : Int) then
 (if (decide (o3 < (-8))) = true then
 some true
 else
 (if 0 ≤ (1 : Int) ∧ (1 : Int) < ((2 : Nat) : Int) then
 some (decide (o3 > 0))
 else
 none))
 else
 none))
 else
 none))
 else
 none) : Option (Bool)).bind (fun v7 =>
 (if v7 = true then
 some false
 else
 (if 0 ≤ (1 : Int) ∧ (1 : Int) < ((2 : Nat) : Int) then
 (if (decide (o3 < 0)) = true then
 some true
 else
 (if 0 ≤ (0 : Int) ∧ (0 : Int) < ((2 : Nat) : Int) then
 some (decide (o2 < 0))
 else
 none))
 else
 none))))) := (call_eq ..).trans (by kernel_rfl)

noncomputable def ref05_Valid_loop4 (b3 : List Int) (i7 : Int) : Option ((Int) ⊕ ((Unit) ⊕ (Bool))) :=
 (if (decide (i7 < ((b3.length : Nat) : Int))) = true then
 (if 0 ≤ i7 ∧ i7 < (b3.length : Int) then
 (if (decide (rd b3 i7 > 1)) = true then
 some (Sum.inr (Sum.inr false))
 else
 let t8 := IntKind.i64.wrap (i7 + 1);
 some (Sum.inl t8))
 else
 none)
 else
 some (Sum.inr (Sum.inl ())))
noncomputable def ref05_Valid_loop4_step (i9 : Nat) (x10 : Int) (s11 : Unit) : Option ((Unit) ⊕ ((Unit) ⊕ (Bool))) :=
 (if (decide (x10 > 1)) = true then
 some (Sum.inr (Sum.inr false))
 else
 some (Sum.inl (())))
theorem ref05_Valid_loop4_over (b3 : List Int) (hl : b3.length ≤ 9223372036854775807) (s11 : Unit) : loop (ref05_Valid_loop4 b3) (0 : Int) =
    overL (ref05_Valid_loop4_step) (fun (s11 : Unit) => some (Sum.inl ())) 0 b3 s11 := by
  refine loop_over b3 (fun n (s : Unit) => (((n : Nat) : Int) : Int)) _ _ (fun s => ?_) (fun i x s h => ?_) 0 s11 (Nat.zero_le _)
  · unfold ref05_Valid_loop4; simp
  · have hlt := lt_len_of_get h
    have h1 : ((i : Nat) : Int) < ((b3.length : Nat) : Int) := by omega
    have h0 : (0 : Int) ≤ ((i : Nat) : Int) := by omega
    have hw : IntKind.i64.wrap (((i : Nat) : Int) + 1) = (((i + 1 : Nat) : Nat) : Int) := w64 (by omega)
    have hr : rd b3 ((i : Nat) : Int) = x := rd_nat h
    unfold ref05_Valid_loop4 ref05_Valid_loop4_step
    simp only [h1, h0, hw, h, hr, decide_true, if_true, and_self, true_and, Int.toNat_natCast, Option.bind_some, Option.map_bind, Function.comp_def, map_ite, map_elim, Option.map_some, Option.map_none]

theorem ref05_Valid_eq (b1 b2 : Int) (b3 : List Int) : ref05_Valid b1 b2 b3 =
 ((ref05_Sides b1 b2).bind fun q4 =>
 (if (!q4) = true then
 some true
 else
 let t5 := IntKind.i64.wrap (b1 * b2);
 some (!decide (((b3.length : Nat) : Int) = t5))) : Option (Bool)).bind (fun v6 =>
 (if v6 = true then
 some false
 else
 (loop (ref05_Valid_loop4 b3) 0).bind (fun o14 =>
 (Sum.elim (fun (p12 : Unit) =>
 some true)
 (fun (v13 : Bool) =>
 some v13) o14)))) := (call_eq ..).trans (by kernel_rfl)

theorem ref05_At_eq (b1 b2 : Int) (b3 : List Int) (x4 y5 : Int) : ref05_At b1 b2 b3 x4 y5 =
 (ref05_inside b1 b2 b3 x4 y5).bind fun q6 =>
 (if (!q6) = true then
 some 0
 else
 let t7 := IntKind.i64.wrap (y5 * b1);
 let t8 := IntKind.i64.wrap (t7 + x4);
 (if 0 ≤ t8 ∧ t8 < (b3.length : Int) then
 let t9 := IntKind.i64.wrap (rd b3 t8);
 some t9
 else
 none)) := (call_eq ..).trans (by kernel_rfl)

theorem ref07_room_eq (o1 o2 o3 : Int) (o4 : Bool) (o5 base6 states7 w8 h9 skip10 skip11 : Int) (skip12 : List Int) : ref07_room o1 o2 o3 o4 o5 base6 states7 w8 h9 skip10 skip11 skip12 =
 (ref07_Size o1 o2 o3 o4 o5).bind fun q13 =>
 let tr14 := q13.1;
 let tr15 := q13.2;
 (ref07_none skip10 skip11 skip12).bind fun q16 =>
 (if (!q16) = true then
 (if (!decide (skip10 = w8)) = true then
 some 2
 else
 (if (!decide (skip11 = h9)) = true then
 some 2
 else
 (if (decide (base6 < 0)) = true then
 some 2
 else
 (if (decide (base6 > states7)) = true then
 some 2
 else
 let t17 := IntKind.i64.wrap (states7 - base6);
 (if (decide (tr14 > t17)) = true then
 some 2
 else
 some 0)))))
 else
 (if (decide (base6 < 0)) = true then
 some 2
 else
 (if (decide (base6 > states7)) = true then
 some 2
 else
 let t18 := IntKind.i64.wrap (states7 - base6);
 (if (decide (tr14 > t18)) = true then
 some 2
 else
 some 0)))) := (call_eq ..).trans (by kernel_rfl)

noncomputable def ref07_typical_loop3 (b1 b2 : Int) (b3 : List Int) (skip4 skip5 : Int) (skip6 : List Int) (y7 : Int) (s8 : Int × (List Int)) : Option ((Int × (List Int)) ⊕ ((List Int))) :=
 let x9 := s8.1;
 let out10 := s8.2;
 (if (decide (x9 < b1)) = true then
 let t11 := IntKind.i64.wrap (y7 - 1);
 (ref05_At b1 b2 b3 x9 t11).bind fun q12 =>
 (ref05_At skip4 skip5 skip6 x9 y7).bind fun q13 =>
 ((if (decide (q13 = 1)) = true then
 some 0
 else
 some q12) : Option (Int)).bind (fun p14 =>
 let t15 := IntKind.u8.wrap p14;
 (if (out10.length + ([t15] : List Int).length) * 1 ≤ 140737488355328 then
 let t16 : List Int := out10 ++ [t15];
 let t17 := IntKind.i64.wrap (x9 + 1);
 some (Sum.inl (t17, t16))
 else
 none))
 else
 some (Sum.inr out10))
noncomputable def ref07_typical_loop3_step (b1 b2 : Int) (b3 : List Int) (skip4 skip5 : Int) (skip6 : List Int) (y7 : Int) (i18 x19 : Nat) (s20 : (List Int)) : Option (((List Int)) ⊕ ((List Int))) :=
 let t11 := IntKind.i64.wrap (y7 - 1);
 (ref05_At b1 b2 b3 ((i18 : Nat) : Int) t11).bind fun q12 =>
 (ref05_At skip4 skip5 skip6 ((i18 : Nat) : Int) y7).bind fun q13 =>
 ((if (decide (q13 = 1)) = true then
 some 0
 else
 some q12) : Option (Int)).bind (fun p14 =>
 let t15 := IntKind.u8.wrap p14;
 (if (s20.length + ([t15] : List Int).length) * 1 ≤ 140737488355328 then
 let t16 : List Int := s20 ++ [t15];
 some (Sum.inl (t16))
 else
 none))
theorem ref07_typical_loop3_over (b1 b2 : Int) (b3 : List Int) (skip4 skip5 : Int) (skip6 : List Int) (y7 : Int) (hl : (List.range (b1).toNat).length ≤ 9223372036854775807) (s20 : (List Int)) : loop (ref07_typical_loop3 b1 b2 b3 skip4 skip5 skip6 y7) ((0, s20) : Int × (List Int)) =
    overL (ref07_typical_loop3_step b1 b2 b3 skip4 skip5 skip6 y7) (fun (s20 : (List Int)) => some s20) 0 (List.range (b1).toNat) s20 := by
  refine loop_over (List.range (b1).toNat) (fun n (s : (List Int)) => ((((n : Nat) : Int), s) : Int × (List Int))) _ _ (fun s => ?_) (fun i x s h => ?_) 0 s20 (Nat.zero_le _)
  · have h1 : ¬ (((List.range (b1).toNat).length : Nat) : Int) < b1 := by simp only [List.length_range]; omega
    unfold ref07_typical_loop3; simp only [h1, decide_false, Bool.false_eq_true, if_false, Option.map_some]
  · have hlt := lt_len_of_get h
    rw [List.length_range] at hlt hl
    rw [List.getElem?_range hlt] at h
    cases h
    have h1 : ((i : Nat) : Int) < b1 := by omega
    have h0 : (0 : Int) ≤ ((i : Nat) : Int) := by omega
    have hw : IntKind.i64.wrap (((i : Nat) : Int) + 1) = (((i + 1 : Nat) : Nat) : Int) := w64 (by omega)
    unfold ref07_typical_loop3 ref07_typical_loop3_step
    simp only [h1, h0, hw, decide_true, if_true, and_self, true_and, Int.toNat_natCast, Option.bind_some, Option.map_bind, Function.comp_def, map_ite, map_elim, Option.map_some, Option.map_none]

theorem ref07_typical_eq (b1 b2 : Int) (b3 : List Int) (skip4 skip5 : Int) (skip6 : List Int) (y7 : Int) : ref07_typical b1 b2 b3 skip4 skip5 skip6 y7 =
 (loop (ref07_typical_loop3 b1 b2 b3 skip4 skip5 skip6 y7) (0, [])).bind (fun out21 =>
 some out21) := (call_eq ..).trans (by kernel_rfl)

noncomputable def ref07_context_loop4 (b6 b7 : Int) (b8 : List Int) (x9 y10 : Int) (q11 : (List Pixel)) (s12 : Int × Int) : Option ((Int × Int) ⊕ (Int)) :=
 let n13 := s12.1;
 let i14 := s12.2;
 (if (decide (i14 < ((q11.length : Nat) : Int))) = true then
 let t15 := IntKind.i64.wrap (2 * n13);
 (if 0 ≤ i14 then
 (q11[i14.toNat]?).bind fun e16 =>
 let t17 := IntKind.i64.wrap (x9 + e16.dX);
 (if 0 ≤ i14 then
 (q11[i14.toNat]?).bind fun e18 =>
 let t19 := IntKind.i64.wrap (y10 + e18.dY);
 (ref05_At b6 b7 b8 t17 t19).bind fun q20 =>
 let t21 := IntKind.i64.wrap (t15 + q20);
 let t22 := IntKind.i64.wrap (i14 + 1);
 some (Sum.inl (t21, t22))
 else
 none)
 else
 none)
 else
 some (Sum.inr n13))
theorem ref07_context_eq (o1 o2 o3 : Int) (o4 : Bool) (o5 b6 b7 : Int) (b8 : List Int) (x9 y10 : Int) : ref07_context o1 o2 o3 o4 o5 b6 b7 b8 x9 y10 =
 (ref07_pixels o1 o2 o3 o4 o5).bind fun q11 =>
 (loop (ref07_context_loop4 b6 b7 b8 x9 y10 q11) (0, 0)).bind (fun n23 =>
 some n23) := (call_eq ..).trans (by kernel_rfl)

theorem ref03_isId_eq (k1 id2 : Int) : ref03_isId k1 id2 =
 (if (decide (k1 ≥ 0)) = true then
 (if (decide (k1 ≤ 10)) = true then
 (if (decide (id2 ≥ 0)) = true then
 (if k1 < 0 then
 none
 else
 let t3 := ishl .i64 1 k1;
 some (decide (id2 < t3)))
 else
 some false)
 else
 some false)
 else
 some false) := (call_eq ..).trans (by kernel_rfl)

theorem ref06_IsBitmap_eq (b1 b2 : Int) (b3 : List Int) : ref06_IsBitmap b1 b2 b3 =
 (ref06_IsSize b1 b2).bind fun q4 =>
 (if q4 = true then
 let t5 := IntKind.i64.wrap (b1 * b2);
 (if (decide (((b3.length : Nat) : Int) = t5)) = true then
 (ref06_IsRow b3).bind fun q6 =>
 some q6
 else
 some false)
 else
 some false) := (call_eq ..).trans (by kernel_rfl)

theorem ref08_asked_eq (o1 o2 o3 : Int) (o4 : Bool) (o5 : Int) (right6 : Bool) (base7 m8 : Int) (m9 : List Int) : ref08_asked o1 o2 o3 o4 o5 right6 base7 m8 m9 =
 (ref08_Valid o1 o2 o3 o4 o5).bind fun q10 =>
 (if (!q10) = true then
 some 2
 else
 (if (!right6) = true then
 some 30
 else
 (if (decide (base7 < 0)) = true then
 some 2
 else
 (ref08_size o1).bind fun q11 =>
 let t12 := IntKind.i64.wrap (((m9.length : Nat) : Int) - q11);
 (if (decide (base7 > t12)) = true then
 some 2
 else
 some 0)))) := (call_eq ..).trans (by kernel_rfl)

theorem ref08_size_eq (template1 : Int) : ref08_size template1 =
 (if (decide (template1 = 0)) = true then
 some 513
 else
 some 129) := (call_eq ..).trans (by kernel_rfl)

noncomputable def ref08_Row_loop2 (o1 o2 o3 : Int) (o4 : Bool) (o5 b6 b7 : Int) (b8 : List Int) (r9 r10 : Int) (r11 : List Int) (y12 x13 : Int) : Option ((Int) ⊕ ((Unit) ⊕ (Bool))) :=
 (if (decide (x13 < b6)) = true then
 (ref08_Alike o1 o2 o3 o4 o5 r9 r10 r11 x13 y12).bind fun q14 =>
 let tr15 := q14.1;
 let tr16 := q14.2;
 (if tr16 = true then
 (ref06_Pix b6 b7 b8 x13 y12).bind fun q17 =>
 (if (!decide (q17 = tr15)) = true then
 some (Sum.inr (Sum.inr false))
 else
 let t18 := IntKind.i64.wrap (x13 + 1);
 some (Sum.inl t18))
 else
 let t19 := IntKind.i64.wrap (x13 + 1);
 some (Sum.inl t19))
 else
 some (Sum.inr (Sum.inl ())))
noncomputable def ref08_Row_loop2_step (o1 o2 o3 : Int) (o4 : Bool) (o5 b6 b7 : Int) (b8 : List Int) (r9 r10 : Int) (r11 : List Int) (y12 : Int) (i20 x21 : Nat) (s22 : Unit) : Option ((Unit) ⊕ ((Unit) ⊕ (Bool))) :=
 (ref08_Alike o1 o2 o3 o4 o5 r9 r10 r11 ((i20 : Nat) : Int) y12).bind fun q14 =>
 let tr15 := q14.1;
 let tr16 := q14.2;
 (if tr16 = true then
 (ref06_Pix b6 b7 b8 ((i20 : Nat) : Int) y12).bind fun q17 =>
 (if (!decide (q17 = tr15)) = true then
 some (Sum.inr (Sum.inr false))
 else
 some (Sum.inl (())))
 else
 some (Sum.inl (())))
theorem ref08_Row_loop2_over (o1 o2 o3 : Int) (o4 : Bool) (o5 b6 b7 : Int) (b8 : List Int) (r9 r10 : Int) (r11 : List Int) (y12 : Int) (hl : (List.range (b6).toNat).length ≤ 9223372036854775807) (s22 : Unit) : loop (ref08_Row_loop2 o1 o2 o3 o4 o5 b6 b7 b8 r9 r10 r11 y12) (0 : Int) =
    overL (ref08_Row_loop2_step o1 o2 o3 o4 o5 b6 b7 b8 r9 r10 r11 y12) (fun (s22 : Unit) => some (Sum.inl ())) 0 (List.range (b6).toNat) s22 := by
  refine loop_over (List.range (b6).toNat) (fun n (s : Unit) => (((n : Nat) : Int) : Int)) _ _ (fun s => ?_) (fun i x s h => ?_) 0 s22 (Nat.zero_le _)
  · have h1 : ¬ (((List.range (b6).toNat).length : Nat) : Int) < b6 := by simp only [List.length_range]; omega
    unfold ref08_Row_loop2; simp only [h1, decide_false, Bool.false_eq_true, if_false, Option.map_some]
  · have hlt := lt_len_of_get h
    rw [List.length_range] at hlt hl
    rw [List.getElem?_range hlt] at h
    cases h
    have h1 : ((i : Nat) : Int) < b6 := by omega
    have h0 : (0 : Int) ≤ ((i : Nat) : Int) := by omega
    have hw : IntKind.i64.wrap (((i : Nat) : Int) + 1) = (((i + 1 : Nat) : Nat) : Int) := w64 (by omega)
    unfold ref08_Row_loop2 ref08_Row_loop2_step
    simp only [h1, h0, hw, decide_true, if_true, and_self, true_and, Int.toNat_natCast, Option.bind_some, Option.map_bind, Function.comp_def, map_ite, map_elim, Option.map_some, Option.map_none]

theorem ref08_Row_eq (o1 o2 o3 : Int) (o4 : Bool) (o5 b6 b7 : Int) (b8 : List Int) (r9 r10 : Int) (r11 : List Int) (y12 : Int) : ref08_Row o1 o2 o3 o4 o5 b6 b7 b8 r9 r10 r11 y12 =
 (loop (ref08_Row_loop2 o1 o2 o3 o4 o5 b6 b7 b8 r9 r10 r11 y12) 0).bind (fun o25 =>
 (Sum.elim (fun (p23 : Unit) =>
 some true)
 (fun (v24 : Bool) =>
 some v24) o25)) := (call_eq ..).trans (by kernel_rfl)

noncomputable def ref08_Alike_loop3 (o2 o3 r6 r7 : Int) (r8 : List Int) (x9 y10 q13 i14 : Int) : Option ((Int) ⊕ ((Unit) ⊕ (Int × Bool))) :=
 (if (decide (i14 < 9)) = true then
 let t15 := IntKind.i64.wrap (x9 - o2);
 let t16 : Int := i14.tmod 3;
 let t17 := IntKind.i64.wrap (t15 + t16);
 let t18 := IntKind.i64.wrap (t17 - 1);
 let t19 := IntKind.i64.wrap (y10 - o3);
 let t20 := IntKind.i64.wrap (i14.tdiv 3);
 let t21 := IntKind.i64.wrap (t19 + t20);
 let t22 := IntKind.i64.wrap (t21 - 1);
 (ref06_Pix r6 r7 r8 t18 t22).bind fun q23 =>
 (if (!decide (q23 = q13)) = true then
 some (Sum.inr (Sum.inr (0, false)))
 else
 let t24 := IntKind.i64.wrap (i14 + 1);
 some (Sum.inl t24))
 else
 some (Sum.inr (Sum.inl ())))
noncomputable def ref08_Alike_loop3_step (o2 o3 r6 r7 : Int) (r8 : List Int) (x9 y10 q13 : Int) (i25 x26 : Nat) (s27 : Unit) : Option ((Unit) ⊕ ((Unit) ⊕ (Int × Bool))) :=
 let t15 := IntKind.i64.wrap (x9 - o2);
 let t16 : Int := ((i25 : Nat) : Int).tmod 3;
 let t17 := IntKind.i64.wrap (t15 + t16);
 let t18 := IntKind.i64.wrap (t17 - 1);
 let t19 := IntKind.i64.wrap (y10 - o3);
 let t20 := IntKind.i64.wrap (((i25 : Nat) : Int).tdiv 3);
 let t21 := IntKind.i64.wrap (t19 + t20);
 let t22 := IntKind.i64.wrap (t21 - 1);
 (ref06_Pix r6 r7 r8 t18 t22).bind fun q23 =>
 (if (!decide (q23 = q13)) = true then
 some (Sum.inr (Sum.inr (0, false)))
 else
 some (Sum.inl (())))
theorem ref08_Alike_loop3_over (o2 o3 r6 r7 : Int) (r8 : List Int) (x9 y10 q13 : Int) (hl : (List.range 9).length ≤ 9223372036854775807) (s27 : Unit) : loop (ref08_Alike_loop3 o2 o3 r6 r7 r8 x9 y10 q13) (0 : Int) =
    overL (ref08_Alike_loop3_step o2 o3 r6 r7 r8 x9 y10 q13) (fun (s27 : Unit) => some (Sum.inl ())) 0 (List.range 9) s27 := by
  refine loop_over (List.range 9) (fun n (s : Unit) => (((n : Nat) : Int) : Int)) _ _ (fun s => ?_) (fun i x s h => ?_) 0 s27 (Nat.zero_le _)
  · have h1 : ¬ (((List.range 9).length : Nat) : Int) < 9 := by simp only [List.length_range]; omega
    unfold ref08_Alike_loop3; simp only [h1, decide_false, Bool.false_eq_true, if_false, Option.map_some]
  · have hlt := lt_len_of_get h
    rw [List.length_range] at hlt hl
    rw [List.getElem?_range hlt] at h
    cases h
    have h1 : ((i : Nat) : Int) < 9 := by omega
    have h0 : (0 : Int) ≤ ((i : Nat) : Int) := by omega
    have hw : IntKind.i64.wrap (((i : Nat) : Int) + 1) = (((i + 1 : Nat) : Nat) : Int) := w64 (by omega)
    unfold ref08_Alike_loop3 ref08_Alike_loop3_step
    simp only [h1, h0, hw, decide_true, if_true, and_self, true_and, Int.toNat_natCast, Option.bind_some, Option.map_bind, Function.comp_def, map_ite, map_elim, Option.map_some, Option.map_none]

theorem ref08_Alike_eq (o1 o2 o3 : Int) (o4 : Bool) (o5 r6 r7 : Int) (r8 : List Int) (x9 y10 : Int) : ref08_Alike o1 o2 o3 o4 o5 r6 r7 r8 x9 y10 =
 let t11 := IntKind.i64.wrap (x9 - o2);
 let t12 := IntKind.i64.wrap (y10 - o3);
 (ref06_Pix r6 r7 r8 t11 t12).bind fun q13 =>
 (loop (ref08_Alike_loop3 o2 o3 r6 r7 r8 x9 y10 q13) 0).bind (fun o32 =>
 (Sum.elim (fun (p28 : Unit) =>
 some (q13, true))
 (fun (p29 : Int × Bool) =>
 let v30 := p29.1;
 let v31 := p29.2;
 some (v30, v31)) o32)) := (call_eq ..).trans (by kernel_rfl)

noncomputable def ref08_Context_loop6 (b6 b7 : Int) (b8 : List Int) (x12 y13 : Int) (news14 : (List Arr2)) (s15 : Int × Int) : Option ((Int × Int) ⊕ (Int)) :=
 let n16 := s15.1;
 let v17 := s15.2;
 (if (decide (v17 < ((news14.length : Nat) : Int))) = true then
 (if 0 ≤ v17 ∧ v17 < (news14.length : Int) then
 (news14[v17.toNat]?).bind fun e18 =>
 let t19 := IntKind.i64.wrap (2 * n16);
 (if 0 ≤ (0 : Int) ∧ (0 : Int) < ((2 : Nat) : Int) then
 let t20 := IntKind.i64.wrap (x12 + e18.a0);
 (if 0 ≤ (1 : Int) ∧ (1 : Int) < ((2 : Nat) : Int) then
 let t21 := IntKind.i64.wrap (y13 + e18.a1);
 (ref06_Pix b6 b7 b8 t20 t21).bind fun q22 =>
 let t23 := IntKind.i64.wrap q22;
 let t24 := IntKind.i64.wrap (t19 + t23);
 let t25 := IntKind.i64.wrap (v17 + 1);
 some (Sum.inl (t24, t25))
 else
 none)
 else
 none)
 else
 none)
 else
 some (Sum.inr n16))
noncomputable def ref08_Context_loop11 (o2 o3 r9 r10 : Int) (r11 : List Int) (x12 y13 : Int) (s27 : Int × Int) : Option ((Int × Int) ⊕ (Int)) :=
 let n28 := s27.1;
 let v29 := s27.2;
 (if (decide (v29 < ((([(Arr2.mk 0 0), (Arr2.mk (-1) 0), (Arr2.mk 1 0), (Arr2.mk 0 (-1)), (Arr2.mk 0 1)] : List Arr2).length : Nat) : Int))) = true then
 (if 0 ≤ v29 ∧ v29 < ([(Arr2.mk 0 0), (Arr2.mk (-1) 0), (Arr2.mk 1 0), (Arr2.mk 0 (-1)), (Arr2.mk 0 1)].length : Int) then
 ([(Arr2.mk 0 0), (Arr2.mk (-1) 0), (Arr2.mk 1 0), (Arr2.mk 0 (-1)), (Arr2.mk 0 1)][v29.toNat]?).bind fun e30 =>
 let t31 := IntKind.i64.wrap (2 * n28);
 let t32 := IntKind.i64.wrap (x12 - o2);
 (if 0 ≤ (0 : Int) ∧ (0 : Int) < ((2 : Nat) : Int) then
 let t33 := IntKind.i64.wrap (t32 + e30.a0);
 let t34 := IntKind.i64.wrap (y13 - o3);
 (if 0 ≤ (1 : Int) ∧ (1 : Int) < ((2 : Nat) : Int) then
 let t35 := IntKind.i64.wrap (t34 + e30.a1);
 (ref06_Pix r9 r10 r11 t33 t35).bind fun q36 =>
 let t37 := IntKind.i64.wrap q36;
 let t38 := IntKind.i64.wrap (t31 + t37);
 let t39 := IntKind.i64.wrap (v29 + 1);
 some (Sum.inl (t38, t39))
 else
 none)
 else
 none)
 else
 none)
 else
 some (Sum.inr n28))

theorem ref08_Context_eq (o1 o2 o3 : Int) (o4 : Bool) (o5 b6 b7 : Int) (b8 : List Int) (r9 r10 : Int) (r11 : List Int) (x12 y13 : Int) : ref08_Context o1 o2 o3 o4 o5 b6 b7 b8 r9 r10 r11 x12 y13 =
 ((if (decide (o1 = 1)) = true then
 some [(Arr2.mk 0 (-1)), (Arr2.mk (-1) 0)]
 else
 some [(Arr2.mk (-1) (-1)), (Arr2.mk 0 (-1)), (Arr2.mk 1 (-1)), (Arr2.mk (-1) 0)]) : Option ((List Arr2))).bind (fun news14 =>
 (loop (ref08_Context_loop6 b6 b7 b8 x12 y13 news14) (0, 0)).bind (fun n26 =>
 (loop (ref08_Context_loop11 o2 o3 r9 r10 r11 x12 y13) (n26, 0)).bind (fun n43 =>
 some n43))) := (call_eq ..).trans (by kernel_rfl)

theorem ref06_Pix_eq (b1 b2 : Int) (b3 : List Int) (x4 y5 : Int) : ref06_Pix b1 b2 b3 x4 y5 =
 ((if (decide (x4 < 0)) = true then
 some true
 else
 (if (decide (y5 < 0)) = true then
 some true
 else
 (if (decide (x4 ≥ b1)) = true then
 some true
 else
 some (decide (y5 ≥ b2))))) : Option (Bool)).bind (fun v6 =>
 (if v6 = true then
 some 0
 else
 let t7 := IntKind.i64.wrap (y5 * b1);
 let t8 := IntKind.i64.wrap (t7 + x4);
 (if 0 ≤ t8 ∧ t8 < (b3.length : Int) then
 some (rd b3 t8)
 else
 none))) := (call_eq ..).trans (by kernel_rfl)

noncomputable def ref02_Interval_End_loop3 (x1 x2 : Int) (s3 : Int × (List Int)) : Option ((Int × (List Int)) ⊕ ((List Int))) :=
 let n4 := s3.1;
 let out5 := s3.2;
 (if (decide (n4 < x1)) = true then
 let t6 := IntKind.i64.wrap (8 * ((out5.length : Nat) : Int));
 let t7 := IntKind.i64.wrap (24 - t6);
 (if t7 < 0 then
 none
 else
 let t8 := ishr .u64 x2 t7;
 let t9 := IntKind.u8.wrap t8;
 (if (out5.length + ([t9] : List Int).length) * 1 ≤ 140737488355328 then
 let t10 : List Int := out5 ++ [t9];
 (if t7 < 0 then
 none
 else
 let t11 := ishr .u64 x2 t7;
 let t12 : Int := t11.tmod 256;
 (if t7 < 0 then
 none
 else
 let t13 := ishl .u64 t12 t7;
 let t14 := IntKind.u64.wrap (n4 + t13);
 some (Sum.inl (t14, t10))))
 else
 none))
 else
 some (Sum.inr out5))
theorem ref02_Interval_End_eq (x1 x2 : Int) : ref02_Interval_End x1 x2 =
 (loop (ref02_Interval_End_loop3 x1 x2) (0, [])).bind (fun out15 =>
 some out15) := (call_eq ..).trans (by kernel_rfl)

theorem bitmap_fits_eq (w1 h2 : Int) : bitmap_fits w1 h2 =
 (if (decide (w1 ≥ 0)) = true then
 (if (decide (h2 ≥ 0)) = true then
 (if (decide (w1 ≤ 200)) = true then
 (if (decide (h2 ≤ 200)) = true then
 let t3 := IntKind.i64.wrap (w1 * h2);
 some (decide (t3 ≤ 8192))
 else
 some false)
 else
 some false)
 else
 some false)
 else
 some false) := (call_eq ..).trans (by kernel_rfl)

theorem text_Valid_eq (o1 o2 : Int) (o3 : Bool) (o4 o5 o6 : Int) (o7 : Bool) (o8 : Int) : text_Valid o1 o2 o3 o4 o5 o6 o7 o8 =
 (slices_Contains_int_int [1, 2, 4, 8] o1).bind fun q9 =>
 (if q9 = true then
 (if (decide (o2 ≥ 0)) = true then
 (if (decide (o2 ≤ 3)) = true then
 (if (decide (o4 ≥ (-16))) = true then
 (if (decide (o4 ≤ 16)) = true then
 (if (decide (o5 ≥ 0)) = true then
 (if (decide (o5 ≤ 4)) = true then
 (if (decide (o6 = 0)) = true then
 (if (decide (o8 = 0)) = true then
 some true
 else
 some (decide (o8 = 1)))
 else
 (if (decide (o6 = 1)) = true then
 (if (decide (o8 = 0)) = true then
 some true
 else
 some (decide (o8 = 1)))
 else
 some false))
 else
 some false)
 else
 some false)
 else
 some false)
 else
 some false)
 else
 some false)
 else
 some false)
 else
 some false) := (call_eq ..).trans (by kernel_rfl)

theorem slices_ContainsFunc_api_Bitmap_api_Bitmap_2_eq (s1 : List Bitmap) : slices_ContainsFunc_api_Bitmap_api_Bitmap_2 s1 =
 (slices_IndexFunc_api_Bitmap_api_Bitmap_2 s1).bind fun q2 =>
 some (decide (q2 ≥ 0)) := (call_eq ..).trans (by kernel_rfl)

theorem slices_ContainsFunc_api_Item_api_Item_eq (s1 : List Item) : slices_ContainsFunc_api_Item_api_Item s1 =
 (slices_IndexFunc_api_Item_api_Item s1).bind fun q2 =>
 some (decide (q2 ≥ 0)) := (call_eq ..).trans (by kernel_rfl)

theorem text_Encode_1_eq (a1 a2 a3 : Int) (a4 : Bool) (a5 a6 a7 a8 : Int) (a9 : List Int) (b10 b11 b12 : Int) (b13 : Bool) (b14 b15 b16 b17 : Int) (b18 : List Int) (b19 b20 : Int) (b21 : Bool) (b22 b23 b24 : Int) (b25 : Bool) (b26 : Int) : text_Encode_1 a1 a2 a3 a4 a5 a6 a7 a8 a9 b10 b11 b12 b13 b14 b15 b16 b17 b18 b19 b20 b21 b22 b23 b24 b25 b26 =
 (text_strip b19 b20 b21 b22 b23 b24 b25 b26 a1 a2 a3 a4 a5 a6 a7 a8 a9).bind fun q27 =>
 (text_strip b19 b20 b21 b22 b23 b24 b25 b26 b10 b11 b12 b13 b14 b15 b16 b17 b18).bind fun q28 =>
 let t29 := IntKind.i64.wrap (q27 - q28);
 some (t29, b19, b20, b21, b22, b23, b24, b25, b26) := (call_eq ..).trans (by kernel_rfl)

theorem slices_ContainsFunc_api_Item_api_Item_2_eq (s1 : List Item) (b2 b3 : Int) (b4 : Bool) (b5 b6 b7 : Int) (b8 : Bool) (b9 b10 : Int) : slices_ContainsFunc_api_Item_api_Item_2 s1 b2 b3 b4 b5 b6 b7 b8 b9 b10 =
 (slices_IndexFunc_api_Item_api_Item_2 s1 b2 b3 b4 b5 b6 b7 b8 b9 b10).bind fun q11 =>
 let tr12 := q11.1;
 let tr13 := q11.2.1;
 let tr14 := q11.2.2.1;
 let tr15 := q11.2.2.2.1;
 let tr16 := q11.2.2.2.2.1;
 let tr17 := q11.2.2.2.2.2.1;
 let tr18 := q11.2.2.2.2.2.2.1;
 let tr19 := q11.2.2.2.2.2.2.2.1;
 let tr20 := q11.2.2.2.2.2.2.2.2.1;
 let tr21 := q11.2.2.2.2.2.2.2.2.2;
 some (decide (tr12 ≥ 0), tr13, tr14, tr15, tr16, tr17, tr18, tr19, tr20, tr21) := (call_eq ..).trans (by kernel_rfl)

theorem text_floor_eq (a1 b2 : Int) : text_floor a1 b2 =
 (if b2 = 0 then
 none
 else
 let t3 := IntKind.i64.wrap (a1.tdiv b2);
 (if b2 = 0 then
 none
 else
 let t4 : Int := a1.tmod b2;
 (if (!decide (t4 = 0)) = true then
 (if (decide (a1 < 0)) = true then
 let t5 := IntKind.i64.wrap (t3 - 1);
 some t5
 else
 some t3)
 else
 some t3))) := (call_eq ..).trans (by kernel_rfl)

noncomputable def number_PutId_loop11 (base1 id3 : Int) (s30 : Int × Int × (List Event)) : Option ((Int × Int × (List Event)) ⊕ ((List Event))) :=
 let p31 := s30.1;
 let i32 := s30.2.1;
 let l33 := s30.2.2;
 (if (decide (i32 ≥ 0)) = true then
 (if i32 < 0 then
 none
 else
 let t34 := ishr .i64 id3 i32;
 let t35 := iand .i64 t34 1;
 let t36 := IntKind.i64.wrap (base1 + p31);
 let t37 := IntKind.i64.wrap (t36 - 1);
 (if (l33.length + ([(Event.mk t37 t35)] : List Event).length) * 16 ≤ 140737488355328 then
 let t38 : List Event := l33 ++ [(Event.mk t37 t35)];
 let t39 := IntKind.i64.wrap (2 * p31);
 let t40 := IntKind.i64.wrap (t39 + t35);
 let t41 := IntKind.i64.wrap (i32 - 1);
 some (Sum.inl (t40, t41, t38))
 else
 none))
 else
 some (Sum.inr l33))
theorem number_PutId_eq (base1 k2 id3 b4 b5 b6 : Int) (b7 b8 : List Int) : number_PutId base1 k2 id3 b4 b5 b6 b7 b8 =
 (coder_Encoder_Put (-1) 0 b4 b5 b6 b7 b8).bind fun q9 =>
 let tr10 := q9.1;
 let tr11 := q9.2.1;
 let tr12 := q9.2.2.1;
 let tr13 := q9.2.2.2.1;
 let tr14 := q9.2.2.2.2.1;
 let tr15 := q9.2.2.2.2.2;
 (if (decide (tr10 = 7)) = true then
 some (7, tr11, tr12, tr13, tr14, tr15)
 else
 ((if (decide (k2 < 0)) = true then
 some true
 else
 (if (decide (k2 > 10)) = true then
 some true
 else
 (if (decide (id3 < 0)) = true then
 some true
 else
 (if k2 < 0 then
 none
 else
 let t16 := ishl .i64 1 k2;
 some (decide (id3 ≥ t16)))))) : Option (Bool)).bind (fun v17 =>
 (if v17 = true then
 some (2, tr11, tr12, tr13, tr14, tr15)
 else
 (coder_Encoder_Model tr11 tr12 tr13 tr14 tr15).bind fun q18 =>
 let tr19 := q18.1;
 let tr20 := q18.2.1;
 let tr21 := q18.2.2.1;
 let tr22 := q18.2.2.2.1;
 let tr23 := q18.2.2.2.2.1;
 let tr24 := q18.2.2.2.2.2.1;
 let tr25 := q18.2.2.2.2.2.2;
 (if k2 < 0 then
 none
 else
 let t26 := ishl .i64 1 k2;
 let t27 := IntKind.i64.wrap (t26 - 1);
 (number_fits tr19 tr20 base1 t27).bind fun q28 =>
 (if (!decide (q28 = 0)) = true then
 some (q28, tr21, tr22, tr23, tr24, tr25)
 else
 let t29 := IntKind.i64.wrap (k2 - 1);
 (loop (number_PutId_loop11 base1 id3) (1, t29, [])).bind (fun l42 =>
 (number_put l42 tr21 tr22 tr23 tr24 tr25).bind fun q43 =>
 let tr44 := q43.1;
 let tr45 := q43.2.1;
 let tr46 := q43.2.2.1;
 let tr47 := q43.2.2.2.1;
 let tr48 := q43.2.2.2.2.1;
 let tr49 := q43.2.2.2.2.2;
 some (tr44, tr45, tr46, tr47, tr48, tr49))))))) := (call_eq ..).trans (by kernel_rfl)

noncomputable def coder_Encoder_Put_loop6_D (s32 : Int × Int × Int × (List Int) × (List Int)) : Option ((Int × Int × Int × (List Int) × (List Int)) ⊕ (Int × Int × Int × (List Int) × (List Int))) :=
 let b33 := s32.1;
 let b34 := s32.2.1;
 let b35 := s32.2.2.1;
 let b36 := s32.2.2.2.1;
 let b37 := s32.2.2.2.2;
 (coder_interval_same b33 b34 b35 b36 b37).bind fun q38 =>
 let tr39 := q38.1;
 let tr40 := q38.2.1;
 let tr41 := q38.2.2.1;
 let tr42 := q38.2.2.2.1;
 let tr43 := q38.2.2.2.2.1;
 let tr44 := q38.2.2.2.2.2;
 (if tr39 = true then
 (demon
 ((coder_interval_lose tr40 tr41 tr42 tr43 tr44).bind fun q45 =>
 let tr46 := q45.1;
 let tr47 := q45.2.1;
 let tr48 := q45.2.2.1;
 let tr49 := q45.2.2.2.1;
 let tr50 := q45.2.2.2.2.1;
 let tr51 := q45.2.2.2.2.2;
 (if (tr51.length + ([tr46] : List Int).length) * 1 ≤ 140737488355328 then
 let t52 : List Int := tr51 ++ [tr46];
 some (Sum.inl (tr47, tr48, tr49, tr50, t52))
 else
 none))
 ((coder_interval_lose tr40 tr41 tr42 tr43 tr44).bind fun q53 =>
 let tr54 := q53.1;
 let tr55 := q53.2.1;
 let tr56 := q53.2.2.1;
 let tr57 := q53.2.2.2.1;
 let tr58 := q53.2.2.2.2.1;
 let tr59 := q53.2.2.2.2.2;
 (if (tr59.length + ([tr54] : List Int).length) * 1 ≤ 140737488355328 then
 let t60 : List Int := tr59 ++ [tr54];
 some (Sum.inl (tr55, tr56, tr57, tr58, t60))
 else
 none)))
 else
 some (Sum.inr (tr40, tr41, tr42, tr43, tr44)))
noncomputable def coder_Encoder_Put_loop6 (s32 : Int × Int × Int × (List Int) × (List Int)) : Option ((Int × Int × Int × (List Int) × (List Int)) ⊕ (Int × Int × Int × (List Int) × (List Int))) :=
 let b33 := s32.1;
 let b34 := s32.2.1;
 let b35 := s32.2.2.1;
 let b36 := s32.2.2.2.1;
 let b37 := s32.2.2.2.2;
 (coder_interval_same b33 b34 b35 b36 b37).bind fun q38 =>
 let tr39 := q38.1;
 let tr40 := q38.2.1;
 let tr41 := q38.2.2.1;
 let tr42 := q38.2.2.2.1;
 let tr43 := q38.2.2.2.2.1;
 let tr44 := q38.2.2.2.2.2;
 (if tr39 = true then
 ((coder_interval_lose tr40 tr41 tr42 tr43 tr44).bind fun q45 =>
 let tr46 := q45.1;
 let tr47 := q45.2.1;
 let tr48 := q45.2.2.1;
 let tr49 := q45.2.2.2.1;
 let tr50 := q45.2.2.2.2.1;
 let tr51 := q45.2.2.2.2.2;
 (if (tr51.length + ([tr46] : List Int).length) * 1 ≤ 140737488355328 then
 let t52 : List Int := tr51 ++ [tr46];
 some (Sum.inl (tr47, tr48, tr49, tr50, t52))
 else
 none))
 else
 some (Sum.inr (tr40, tr41, tr42, tr43, tr44)))
theorem coder_Encoder_Put_loop6_D_eq : coder_Encoder_Put_loop6_D = coder_Encoder_Put_loop6 := by
  funext s32; unfold coder_Encoder_Put_loop6_D coder_Encoder_Put_loop6; simp only [demon_same]
theorem coder_Encoder_Put_eqD (ctx1 bit2 b3 b4 b5 : Int) (b6 b7 : List Int) : coder_Encoder_Put ctx1 bit2 b3 b4 b5 b6 b7 =
 (coder_Encoder_none b3 b4 b5 b6 b7).bind fun q8 =>
 let tr9 := q8.1;
 let tr10 := q8.2.1;
 let tr11 := q8.2.2.1;
 let tr12 := q8.2.2.2.1;
 let tr13 := q8.2.2.2.2.1;
 let tr14 := q8.2.2.2.2.2;
 ((if tr9 = true then
 some (Sum.inr 7)
 else
 ((if (decide (ctx1 < 0)) = true then
 some true
 else
 (if (decide (ctx1 ≥ ((tr13.length : Nat) : Int))) = true then
 some true
 else
 (if (!decide (bit2 = 0)) = true then
 some (!decide (bit2 = 1))
 else
 some false))) : Option (Bool)).bind (fun v15 =>
 (if v15 = true then
 some (Sum.inr 2)
 else
 some (Sum.inl ())))) : Option ((Unit) ⊕ (Int))).bind (fun o18 =>
 (Sum.elim (fun (p16 : Unit) =>
 (coder_interval_mid ctx1 tr10 tr11 tr12 tr13 tr14).bind fun q19 =>
 let tr20 := q19.1;
 let tr21 := q19.2.1;
 let tr22 := q19.2.2.1;
 let tr23 := q19.2.2.2.1;
 let tr24 := q19.2.2.2.2.1;
 let tr25 := q19.2.2.2.2.2;
 (coder_interval_take ctx1 bit2 tr20 tr21 tr22 tr23 tr24 tr25).bind fun q26 =>
 let tr27 := q26.1;
 let tr28 := q26.2.1;
 let tr29 := q26.2.2.1;
 let tr30 := q26.2.2.2.1;
 let tr31 := q26.2.2.2.2;
 (loop (coder_Encoder_Put_loop6_D) (tr27, tr28, tr29, tr30, tr31)).bind (fun p61 =>
 let b62 := p61.1;
 let b63 := p61.2.1;
 let b64 := p61.2.2.1;
 let b65 := p61.2.2.2.1;
 let b66 := p61.2.2.2.2;
 some (0, b62, b63, b64, b65, b66)))
 (fun (v17 : Int) =>
 some (v17, tr10, tr11, tr12, tr13, tr14)) o18)) := (call_eq ..).trans (by kernel_rfl)
theorem coder_Encoder_Put_eq (ctx1 bit2 b3 b4 b5 : Int) (b6 b7 : List Int) : coder_Encoder_Put ctx1 bit2 b3 b4 b5 b6 b7 =
 (coder_Encoder_none b3 b4 b5 b6 b7).bind fun q8 =>
 let tr9 := q8.1;
 let tr10 := q8.2.1;
 let tr11 := q8.2.2.1;
 let tr12 := q8.2.2.2.1;
 let tr13 := q8.2.2.2.2.1;
 let tr14 := q8.2.2.2.2.2;
 ((if tr9 = true then
 some (Sum.inr 7)
 else
 ((if (decide (ctx1 < 0)) = true then
 some true
 else
 (if (decide (ctx1 ≥ ((tr13.length : Nat) : Int))) = true then
 some true
 else
 (if (!decide (bit2 = 0)) = true then
 some (!decide (bit2 = 1))
 else
 some false))) : Option (Bool)).bind (fun v15 =>
 (if v15 = true then
 some (Sum.inr 2)
 else
 some (Sum.inl ())))) : Option ((Unit) ⊕ (Int))).bind (fun o18 =>
 (Sum.elim (fun (p16 : Unit) =>
 (coder_interval_mid ctx1 tr10 tr11 tr12 tr13 tr14).bind fun q19 =>
 let tr20 := q19.1;
 let tr21 := q19.2.1;
 let tr22 := q19.2.2.1;
 let tr23 := q19.2.2.2.1;
 let tr24 := q19.2.2.2.2.1;
 let tr25 := q19.2.2.2.2.2;
 (coder_interval_take ctx1 bit2 tr20 tr21 tr22 tr23 tr24 tr25).bind fun q26 =>
 let tr27 := q26.1;
 let tr28 := q26.2.1;
 let tr29 := q26.2.2.1;
 let tr30 := q26.2.2.2.1;
 let tr31 := q26.2.2.2.2;
 (loop (coder_Encoder_Put_loop6) (tr27, tr28, tr29, tr30, tr31)).bind (fun p61 =>
 let b62 := p61.1;
 let b63 := p61.2.1;
 let b64 := p61.2.2.1;
 let b65 := p61.2.2.2.1;
 let b66 := p61.2.2.2.2;
 some (0, b62, b63, b64, b65, b66)))
 (fun (v17 : Int) =>
 some (v17, tr10, tr11, tr12, tr13, tr14)) o18)) := by rw [coder_Encoder_Put_eqD]; simp only [demon_same, coder_Encoder_Put_loop6_D_eq]

theorem text_layout_options_eq (x1 x2 : Int) (x3 : Bool) (x4 x5 x6 : Int) (x7 : Bool) (x8 x9 x10 x11 dx12 dy13 : Int) : text_layout_options x1 x2 x3 x4 x5 x6 x7 x8 x9 x10 x11 dx12 dy13 =
 some (x8, dx12, dy13, false, x6) := (call_eq ..).trans (by kernel_rfl)

noncomputable def refine_Put_loop20 (base1 b7 v79 : Int) (typical110 : Bool) (s138 : Int × Int × Int × Int × (List Int) × (List Int) × Int × Int × Int × Bool × Int × Int × Int × (List Int) × Int × Int × (List Int)) : Option ((Int × Int × Int × Int × (List Int) × (List Int) × Int × Int × Int × Bool × Int × Int × Int × (List Int) × Int × Int × (List Int)) ⊕ (Int × Int × Int × (List Int) × (List Int) × Int × Int × Int × Bool × Int × Int × Int × (List Int) × Int × Int × (List Int))) :=
 let v139 := s138.1;
 let b140 := s138.2.1;
 let b141 := s138.2.2.1;
 let b142 := s138.2.2.2.1;
 let b143 := s138.2.2.2.2.1;
 let b144 := s138.2.2.2.2.2.1;
 let b145 := s138.2.2.2.2.2.2.1;
 let b146 := s138.2.2.2.2.2.2.2.1;
 let b147 := s138.2.2.2.2.2.2.2.2.1;
 let b148 := s138.2.2.2.2.2.2.2.2.2.1;
 let b149 := s138.2.2.2.2.2.2.2.2.2.2.1;
 let b150 := s138.2.2.2.2.2.2.2.2.2.2.2.1;
 let b151 := s138.2.2.2.2.2.2.2.2.2.2.2.2.1;
 let b152 := s138.2.2.2.2.2.2.2.2.2.2.2.2.2.1;
 let b153 := s138.2.2.2.2.2.2.2.2.2.2.2.2.2.2.1;
 let b154 := s138.2.2.2.2.2.2.2.2.2.2.2.2.2.2.2.1;
 let b155 := s138.2.2.2.2.2.2.2.2.2.2.2.2.2.2.2.2;
 (if (decide (v139 < b7)) = true then
 (refine_region_flat v139 v79 b145 b146 b147 b148 b149 b150 b151 b152 b153 b154 b155).bind fun q156 =>
 let tr157 := q156.1;
 let tr158 := q156.2.1;
 let tr159 := q156.2.2.1;
 let tr160 := q156.2.2.2.1;
 let tr161 := q156.2.2.2.2.1;
 let tr162 := q156.2.2.2.2.2.1;
 let tr163 := q156.2.2.2.2.2.2.1;
 let tr164 := q156.2.2.2.2.2.2.2.1;
 let tr165 := q156.2.2.2.2.2.2.2.2.1;
 let tr166 := q156.2.2.2.2.2.2.2.2.2.1;
 let tr167 := q156.2.2.2.2.2.2.2.2.2.2.1;
 let tr168 := q156.2.2.2.2.2.2.2.2.2.2.2.1;
 let tr169 := q156.2.2.2.2.2.2.2.2.2.2.2.2;
 ((if (!typical110) = true then
 some true
 else
 some (!tr158)) : Option (Bool)).bind (fun v170 =>
 (if v170 = true then
 (demon
 ((refine_region_context v139 v79 tr159 tr160 tr161 tr162 tr163 tr164 tr165 tr166 tr167 tr168 tr169).bind fun q171 =>
 let tr172 := q171.1;
 let tr173 := q171.2.1;
 let tr174 := q171.2.2.1;
 let tr175 := q171.2.2.2.1;
 let tr176 := q171.2.2.2.2.1;
 let tr177 := q171.2.2.2.2.2.1;
 let tr178 := q171.2.2.2.2.2.2.1;
 let tr179 := q171.2.2.2.2.2.2.2.1;
 let tr180 := q171.2.2.2.2.2.2.2.2.1;
 let tr181 := q171.2.2.2.2.2.2.2.2.2.1;
 let tr182 := q171.2.2.2.2.2.2.2.2.2.2.1;
 let tr183 := q171.2.2.2.2.2.2.2.2.2.2.2;
 let t184 := IntKind.i64.wrap (base1 + tr172);
 (refine_grid_at tr178 tr179 tr180 v139 v79).bind fun q185 =>
 let t186 := IntKind.i64.wrap q185;
 (coder_Encoder_Put t184 t186 b140 b141 b142 b143 b144).bind fun q187 =>
 let tr188 := q187.1;
 let tr189 := q187.2.1;
 let tr190 := q187.2.2.1;
 let tr191 := q187.2.2.2.1;
 let tr192 := q187.2.2.2.2.1;
 let tr193 := q187.2.2.2.2.2;
 let t194 := IntKind.i64.wrap (v139 + 1);
 some (Sum.inl (t194, tr189, tr190, tr191, tr192, tr193, tr173, tr174, tr175, tr176, tr177, tr178, tr179, tr180, tr181, tr182, tr183)))
 ((refine_region_context v139 v79 tr159 tr160 tr161 tr162 tr163 tr164 tr165 tr166 tr167 tr168 tr169).bind fun q195 =>
 let tr196 := q195.1;
 let tr197 := q195.2.1;
 let tr198 := q195.2.2.1;
 let tr199 := q195.2.2.2.1;
 let tr200 := q195.2.2.2.2.1;
 let tr201 := q195.2.2.2.2.2.1;
 let tr202 := q195.2.2.2.2.2.2.1;
 let tr203 := q195.2.2.2.2.2.2.2.1;
 let tr204 := q195.2.2.2.2.2.2.2.2.1;
 let tr205 := q195.2.2.2.2.2.2.2.2.2.1;
 let tr206 := q195.2.2.2.2.2.2.2.2.2.2.1;
 let tr207 := q195.2.2.2.2.2.2.2.2.2.2.2;
 let t208 := IntKind.i64.wrap (base1 + tr196);
 (refine_grid_at tr164 tr165 tr166 v139 v79).bind fun q209 =>
 let t210 := IntKind.i64.wrap q209;
 (coder_Encoder_Put t208 t210 b140 b141 b142 b143 b144).bind fun q211 =>
 let tr212 := q211.1;
 let tr213 := q211.2.1;
 let tr214 := q211.2.2.1;
 let tr215 := q211.2.2.2.1;
 let tr216 := q211.2.2.2.2.1;
 let tr217 := q211.2.2.2.2.2;
 let t218 := IntKind.i64.wrap (v139 + 1);
 some (Sum.inl (t218, tr213, tr214, tr215, tr216, tr217, tr197, tr198, tr199, tr200, tr201, tr202, tr203, tr204, tr205, tr206, tr207))))
 else
 let t219 := IntKind.i64.wrap (v139 + 1);
 some (Sum.inl (t219, b140, b141, b142, b143, b144, tr159, tr160, tr161, tr162, tr163, tr164, tr165, tr166, tr167, tr168, tr169))))
 else
 some (Sum.inr (b140, b141, b142, b143, b144, b145, b146, b147, b148, b149, b150, b151, b152, b153, b154, b155)))
noncomputable def refine_Put_loop11 (base1 o2 : Int) (o5 : Bool) (b7 b8 : Int) (s78 : Int × Int × Int × Int × (List Int) × (List Int) × Int × Int × Int × Bool × Int × Int × Int × (List Int) × Int × Int × (List Int)) : Option ((Int × Int × Int × Int × (List Int) × (List Int) × Int × Int × Int × Bool × Int × Int × Int × (List Int) × Int × Int × (List Int)) ⊕ (Int × Int × Int × (List Int) × (List Int) × Int × Int × Int × Bool × Int × Int × Int × (List Int) × Int × Int × (List Int))) :=
 let v79 := s78.1;
 let b80 := s78.2.1;
 let b81 := s78.2.2.1;
 let b82 := s78.2.2.2.1;
 let b83 := s78.2.2.2.2.1;
 let b84 := s78.2.2.2.2.2.1;
 let b85 := s78.2.2.2.2.2.2.1;
 let b86 := s78.2.2.2.2.2.2.2.1;
 let b87 := s78.2.2.2.2.2.2.2.2.1;
 let b88 := s78.2.2.2.2.2.2.2.2.2.1;
 let b89 := s78.2.2.2.2.2.2.2.2.2.2.1;
 let b90 := s78.2.2.2.2.2.2.2.2.2.2.2.1;
 let b91 := s78.2.2.2.2.2.2.2.2.2.2.2.2.1;
 let b92 := s78.2.2.2.2.2.2.2.2.2.2.2.2.2.1;
 let b93 := s78.2.2.2.2.2.2.2.2.2.2.2.2.2.2.1;
 let b94 := s78.2.2.2.2.2.2.2.2.2.2.2.2.2.2.2.1;
 let b95 := s78.2.2.2.2.2.2.2.2.2.2.2.2.2.2.2.2;
 (if (decide (v79 < b8)) = true then
 ((if o5 = true then
 (refine_region_typical v79 b85 b86 b87 b88 b89 b90 b91 b92 b93 b94 b95).bind fun q96 =>
 let tr97 := q96.1;
 let tr98 := q96.2.1;
 let tr99 := q96.2.2.1;
 let tr100 := q96.2.2.2.1;
 let tr101 := q96.2.2.2.2.1;
 let tr102 := q96.2.2.2.2.2.1;
 let tr103 := q96.2.2.2.2.2.2.1;
 let tr104 := q96.2.2.2.2.2.2.2.1;
 let tr105 := q96.2.2.2.2.2.2.2.2.1;
 let tr106 := q96.2.2.2.2.2.2.2.2.2.1;
 let tr107 := q96.2.2.2.2.2.2.2.2.2.2.1;
 let tr108 := q96.2.2.2.2.2.2.2.2.2.2.2;
 some (tr97, tr98, tr99, tr100, tr101, tr102, tr103, tr104, tr105, tr106, tr107, tr108)
 else
 some (false, b85, b86, b87, b88, b89, b90, b91, b92, b93, b94, b95)) : Option (Bool × Int × Int × Int × Bool × Int × Int × Int × (List Int) × Int × Int × (List Int))).bind (fun p109 =>
 let typical110 := p109.1;
 let b111 := p109.2.1;
 let b112 := p109.2.2.1;
 let b113 := p109.2.2.2.1;
 let b114 := p109.2.2.2.2.1;
 let b115 := p109.2.2.2.2.2.1;
 let b116 := p109.2.2.2.2.2.2.1;
 let b117 := p109.2.2.2.2.2.2.2.1;
 let b118 := p109.2.2.2.2.2.2.2.2.1;
 let b119 := p109.2.2.2.2.2.2.2.2.2.1;
 let b120 := p109.2.2.2.2.2.2.2.2.2.2.1;
 let b121 := p109.2.2.2.2.2.2.2.2.2.2.2;
 ((if o5 = true then
 ((if typical110 = true then
 some 1
 else
 some 0) : Option (Int)).bind (fun bit122 =>
 (refine_contexts o2).bind fun q123 =>
 let t124 := IntKind.i64.wrap (base1 + q123);
 (coder_Encoder_Put t124 bit122 b80 b81 b82 b83 b84).bind fun q125 =>
 let tr126 := q125.1;
 let tr127 := q125.2.1;
 let tr128 := q125.2.2.1;
 let tr129 := q125.2.2.2.1;
 let tr130 := q125.2.2.2.2.1;
 let tr131 := q125.2.2.2.2.2;
 some (tr127, tr128, tr129, tr130, tr131))
 else
 some (b80, b81, b82, b83, b84)) : Option (Int × Int × Int × (List Int) × (List Int))).bind (fun p132 =>
 let b133 := p132.1;
 let b134 := p132.2.1;
 let b135 := p132.2.2.1;
 let b136 := p132.2.2.2.1;
 let b137 := p132.2.2.2.2;
 (loop (refine_Put_loop20 base1 b7 v79 typical110) (0, b133, b134, b135, b136, b137, b111, b112, b113, b114, b115, b116, b117, b118, b119, b120, b121)).bind (fun p239 =>
 let b240 := p239.1;
 let b241 := p239.2.1;
 let b242 := p239.2.2.1;
 let b243 := p239.2.2.2.1;
 let b244 := p239.2.2.2.2.1;
 let b245 := p239.2.2.2.2.2.1;
 let b246 := p239.2.2.2.2.2.2.1;
 let b247 := p239.2.2.2.2.2.2.2.1;
 let b248 := p239.2.2.2.2.2.2.2.2.1;
 let b249 := p239.2.2.2.2.2.2.2.2.2.1;
 let b250 := p239.2.2.2.2.2.2.2.2.2.2.1;
 let b251 := p239.2.2.2.2.2.2.2.2.2.2.2.1;
 let b252 := p239.2.2.2.2.2.2.2.2.2.2.2.2.1;
 let b253 := p239.2.2.2.2.2.2.2.2.2.2.2.2.2.1;
 let b254 := p239.2.2.2.2.2.2.2.2.2.2.2.2.2.2.1;
 let b255 := p239.2.2.2.2.2.2.2.2.2.2.2.2.2.2.2;
 let t256 := IntKind.i64.wrap (v79 + 1);
 some (Sum.inl (t256, b240, b241, b242, b243, b244, b245, b246, b247, b248, b249, b250, b251, b252, b253, b254, b255)))))
 else
 some (Sum.inr (b80, b81, b82, b83, b84, b85, b86, b87, b88, b89, b90, b91, b92, b93, b94, b95)))

theorem refine_Put_eq (base1 o2 o3 o4 : Int) (o5 : Bool) (o6 b7 b8 : Int) (b9 : List Int) (r10 r11 : Int) (r12 : List Int) (b13 b14 b15 : Int) (b16 b17 : List Int) : refine_Put base1 o2 o3 o4 o5 o6 b7 b8 b9 r10 r11 r12 b13 b14 b15 b16 b17 =
 (coder_Encoder_Put (-1) 0 b13 b14 b15 b16 b17).bind fun q18 =>
 let tr19 := q18.1;
 let tr20 := q18.2.1;
 let tr21 := q18.2.2.1;
 let tr22 := q18.2.2.2.1;
 let tr23 := q18.2.2.2.2.1;
 let tr24 := q18.2.2.2.2.2;
 ((if (decide (tr19 = 7)) = true then
 some (Sum.inr (7, tr20, tr21, tr22, tr23, tr24))
 else
 (refine_Valid o2 o3 o4 o5 o6).bind fun q25 =>
 ((if (!q25) = true then
 some (Sum.inr (2, tr20, tr21, tr22, tr23, tr24))
 else
 ((bitmap_Valid b7 b8 b9).bind fun q26 =>
 (if (!q26) = true then
 some true
 else
 (bitmap_Valid r10 r11 r12).bind fun q27 =>
 some (!q27)) : Option (Bool)).bind (fun v28 =>
 (if v28 = true then
 some (Sum.inr (30, tr20, tr21, tr22, tr23, tr24))
 else
 (coder_Encoder_Model tr20 tr21 tr22 tr23 tr24).bind fun q29 =>
 let tr30 := q29.1;
 let tr31 := q29.2.1;
 let tr32 := q29.2.2.1;
 let tr33 := q29.2.2.2.1;
 let tr34 := q29.2.2.2.2.1;
 let tr35 := q29.2.2.2.2.2.1;
 let tr36 := q29.2.2.2.2.2.2;
 (refine_fits tr30 tr31 base1 o2 o3 o4 o5 o6).bind fun q37 =>
 (if (!q37) = true then
 some (Sum.inr (2, tr32, tr33, tr34, tr35, tr36))
 else
 some (Sum.inl (tr32, tr33, tr34, tr35, tr36)))))) : Option ((Int × Int × Int × (List Int) × (List Int)) ⊕ (Int × Int × Int × Int × (List Int) × (List Int)))).bind (fun o51 =>
 (Sum.elim (fun (p38 : Int × Int × Int × (List Int) × (List Int)) =>
 let b39 := p38.1;
 let b40 := p38.2.1;
 let b41 := p38.2.2.1;
 let b42 := p38.2.2.2.1;
 let b43 := p38.2.2.2.2;
 some (Sum.inl (b39, b40, b41, b42, b43)))
 (fun (p44 : Int × Int × Int × Int × (List Int) × (List Int)) =>
 let v45 := p44.1;
 let b46 := p44.2.1;
 let b47 := p44.2.2.1;
 let b48 := p44.2.2.2.1;
 let b49 := p44.2.2.2.2.1;
 let b50 := p44.2.2.2.2.2;
 some (Sum.inr (v45, b46, b47, b48, b49, b50))) o51))) : Option ((Int × Int × Int × (List Int) × (List Int)) ⊕ (Int × Int × Int × Int × (List Int) × (List Int)))).bind (fun o65 =>
 (Sum.elim (fun (p52 : Int × Int × Int × (List Int) × (List Int)) =>
 let b53 := p52.1;
 let b54 := p52.2.1;
 let b55 := p52.2.2.1;
 let b56 := p52.2.2.2.1;
 let b57 := p52.2.2.2.2;
 (refine_newRegion o2 o3 o4 o5 o6 b7 b8 b9 r10 r11 r12).bind fun q66 =>
 let tr67 := q66.1;
 let tr68 := q66.2.1;
 let tr69 := q66.2.2.1;
 let tr70 := q66.2.2.2.1;
 let tr71 := q66.2.2.2.2.1;
 let tr72 := q66.2.2.2.2.2.1;
 let tr73 := q66.2.2.2.2.2.2.1;
 let tr74 := q66.2.2.2.2.2.2.2.1;
 let tr75 := q66.2.2.2.2.2.2.2.2.1;
 let tr76 := q66.2.2.2.2.2.2.2.2.2.1;
 let tr77 := q66.2.2.2.2.2.2.2.2.2.2;
 (loop (refine_Put_loop11 base1 o2 o5 b7 b8) (0, b53, b54, b55, b56, b57, tr67, tr68, tr69, tr70, tr71, tr72, tr73, tr74, tr75, tr76, tr77)).bind (fun p276 =>
 let b277 := p276.1;
 let b278 := p276.2.1;
 let b279 := p276.2.2.1;
 let b280 := p276.2.2.2.1;
 let b281 := p276.2.2.2.2.1;
 let b282 := p276.2.2.2.2.2.1;
 let b283 := p276.2.2.2.2.2.2.1;
 let b284 := p276.2.2.2.2.2.2.2.1;
 let b285 := p276.2.2.2.2.2.2.2.2.1;
 let b286 := p276.2.2.2.2.2.2.2.2.2.1;
 let b287 := p276.2.2.2.2.2.2.2.2.2.2.1;
 let b288 := p276.2.2.2.2.2.2.2.2.2.2.2.1;
 let b289 := p276.2.2.2.2.2.2.2.2.2.2.2.2.1;
 let b290 := p276.2.2.2.2.2.2.2.2.2.2.2.2.2.1;
 let b291 := p276.2.2.2.2.2.2.2.2.2.2.2.2.2.2.1;
 let b292 := p276.2.2.2.2.2.2.2.2.2.2.2.2.2.2.2;
 some (0, b277, b278, b279, b280, b281)))
 (fun (p58 : Int × Int × Int × Int × (List Int) × (List Int)) =>
 let v59 := p58.1;
 let b60 := p58.2.1;
 let b61 := p58.2.2.1;
 let b62 := p58.2.2.2.1;
 let b63 := p58.2.2.2.2.1;
 let b64 := p58.2.2.2.2.2;
 some (v59, b60, b61, b62, b63, b64)) o65)) := (call_eq ..).trans (by kernel_rfl)

theorem number_Valid_eq (n1 : Bool) (n2 : Int) : number_Valid n1 n2 =
 (if n1 = true then
 some (decide (n2 = 0))
 else
 (if (decide (n2 ≥ (-1048576))) = true then
 some (decide (n2 ≤ 1048576))
 else
 some false)) := (call_eq ..).trans (by kernel_rfl)

theorem number_fits_eq (m1 : Int) (m2 : List Int) (base3 n4 : Int) : number_fits m1 m2 base3 n4 =
 (if (decide (base3 < 0)) = true then
 some 2
 else
 let t5 := IntKind.i64.wrap (((m2.length : Nat) : Int) - n4);
 (if (decide (base3 > t5)) = true then
 some 2
 else
 some 0)) := (call_eq ..).trans (by kernel_rfl)

noncomputable def number_events_loop7 (base1 t9 : Int) (s10 : Int × (List Event)) : Option ((Int × (List Event)) ⊕ ((List Event))) :=
 let v11 := s10.1;
 let out12 := s10.2;
 (if (decide (v11 < t9)) = true then
 let t13 := IntKind.i64.wrap (base1 + 1);
 let t14 := IntKind.i64.wrap (t13 + v11);
 (if (out12.length + ([(Event.mk t14 1)] : List Event).length) * 16 ≤ 140737488355328 then
 let t15 : List Event := out12 ++ [(Event.mk t14 1)];
 let t16 := IntKind.i64.wrap (v11 + 1);
 some (Sum.inl (t16, t15))
 else
 none)
 else
 some (Sum.inr out12))
noncomputable def number_events_loop7_step (base1 : Int) (i17 x18 : Nat) (s19 : (List Event)) : Option (((List Event)) ⊕ ((List Event))) :=
 let t13 := IntKind.i64.wrap (base1 + 1);
 let t14 := IntKind.i64.wrap (t13 + ((i17 : Nat) : Int));
 (if (s19.length + ([(Event.mk t14 1)] : List Event).length) * 16 ≤ 140737488355328 then
 let t15 : List Event := s19 ++ [(Event.mk t14 1)];
 some (Sum.inl (t15))
 else
 none)
theorem number_events_loop7_over (base1 t9 : Int) (hl : (List.range (t9).toNat).length ≤ 9223372036854775807) (s19 : (List Event)) : loop (number_events_loop7 base1 t9) ((0, s19) : Int × (List Event)) =
    overL (number_events_loop7_step base1) (fun (s19 : (List Event)) => some s19) 0 (List.range (t9).toNat) s19 := by
  refine loop_over (List.range (t9).toNat) (fun n (s : (List Event)) => ((((n : Nat) : Int), s) : Int × (List Event))) _ _ (fun s => ?_) (fun i x s h => ?_) 0 s19 (Nat.zero_le _)
  · have h1 : ¬ (((List.range (t9).toNat).length : Nat) : Int) < t9 := by simp only [List.length_range]; omega
    unfold number_events_loop7; simp only [h1, decide_false, Bool.false_eq_true, if_false, Option.map_some]
  · have hlt := lt_len_of_get h
    rw [List.length_range] at hlt hl
    rw [List.getElem?_range hlt] at h
    cases h
    have h1 : ((i : Nat) : Int) < t9 := by omega
    have h0 : (0 : Int) ≤ ((i : Nat) : Int) := by omega
    have hw : IntKind.i64.wrap (((i : Nat) : Int) + 1) = (((i + 1 : Nat) : Nat) : Int) := w64 (by omega)
    unfold number_events_loop7 number_events_loop7_step
    simp only [h1, h0, hw, decide_true, if_true, and_self, true_and, Int.toNat_natCast, Option.bind_some, Option.map_bind, Function.comp_def, map_ite, map_elim, Option.map_some, Option.map_none]

noncomputable def number_events_loop15 (base1 t6 t9 : Int) (s26 : Int × (List Event) × Int) : Option ((Int × (List Event) × Int) ⊕ ((List Event) × Int)) :=
 let i27 := s26.1;
 let out28 := s26.2.1;
 let b29 := s26.2.2;
 (if (decide (i27 ≥ 0)) = true then
 let t30 := IntKind.i64.wrap (23 + t9);
 let t31 := IntKind.i64.wrap (t9 - 1);
 ((if (decide (i27 < t31)) = true then
 (number_tail_take b29).bind fun q32 =>
 let tr33 := q32.1;
 let tr34 := q32.2;
 some (tr33, tr34)
 else
 some (t30, b29)) : Option (Int × Int)).bind (fun p35 =>
 let ctx36 := p35.1;
 let b37 := p35.2;
 let t38 := IntKind.i64.wrap (base1 + ctx36);
 (if i27 < 0 then
 none
 else
 let t39 := ishr .i64 t6 i27;
 let t40 := iand .i64 t39 1;
 (if (out28.length + ([(Event.mk t38 t40)] : List Event).length) * 16 ≤ 140737488355328 then
 let t41 : List Event := out28 ++ [(Event.mk t38 t40)];
 let t42 := IntKind.i64.wrap (i27 - 1);
 some (Sum.inl (t42, t41, b37))
 else
 none)))
 else
 some (Sum.inr (out28, b29)))
theorem number_events_eq (base1 : Int) (n2 : Bool) (n3 : Int) : number_events base1 n2 n3 =
 (if n2 = true then
 some [(Event.mk base1 1)]
 else
 let t4 := IntKind.i64.wrap (0 - n3);
 let t5 := imax n3 t4;
 let t6 := IntKind.i64.wrap (t5 + 1);
 let t7 := IntKind.u64.wrap t6;
 (math_bits_Len t7).bind fun q8 =>
 let t9 := IntKind.i64.wrap (q8 - 1);
 (loop (number_events_loop7 base1 t9) (0, [(Event.mk base1 0)])).bind (fun out20 =>
 ((if (decide (t9 < 20)) = true then
 let t21 := IntKind.i64.wrap (base1 + 1);
 let t22 := IntKind.i64.wrap (t21 + t9);
 (if (out20.length + ([(Event.mk t22 0)] : List Event).length) * 16 ≤ 140737488355328 then
 let t23 : List Event := out20 ++ [(Event.mk t22 0)];
 some t23
 else
 none)
 else
 some out20) : Option ((List Event))).bind (fun out24 =>
 let t25 := IntKind.i64.wrap (t9 - 1);
 (loop (number_events_loop15 base1 t6 t9) (t25, out24, 44)).bind (fun p43 =>
 let out44 := p43.1;
 let b45 := p43.2;
 (if (!decide (n3 = 0)) = true then
 let t46 := IntKind.i64.wrap (base1 + 22);
 ((if (decide (n3 < 0)) = true then
 some (t46, 1)
 else
 some (t46, 0)) : Option (Int × Int)).bind (fun p47 =>
 let b48 := p47.1;
 let b49 := p47.2;
 (if (out44.length + ([(Event.mk b48 b49)] : List Event).length) * 16 ≤ 140737488355328 then
 let t50 : List Event := out44 ++ [(Event.mk b48 b49)];
 some t50
 else
 none))
 else
 some out44))))) := (call_eq ..).trans (by kernel_rfl)

noncomputable def number_put_loop2 (l1 : List Event) (s7 : Int × Int × Int × Int × (List Int) × (List Int)) : Option ((Int × Int × Int × Int × (List Int) × (List Int)) ⊕ ((Int × Int × Int × (List Int) × (List Int)) ⊕ (Int × Int × Int × Int × (List Int) × (List Int)))) :=
 let v8 := s7.1;
 let b9 := s7.2.1;
 let b10 := s7.2.2.1;
 let b11 := s7.2.2.2.1;
 let b12 := s7.2.2.2.2.1;
 let b13 := s7.2.2.2.2.2;
 (if (decide (v8 < ((l1.length : Nat) : Int))) = true then
 (if 0 ≤ v8 then
 (l1[v8.toNat]?).bind fun e14 =>
 (coder_Encoder_Put e14.ctx e14.bit b9 b10 b11 b12 b13).bind fun q15 =>
 let tr16 := q15.1;
 let tr17 := q15.2.1;
 let tr18 := q15.2.2.1;
 let tr19 := q15.2.2.2.1;
 let tr20 := q15.2.2.2.2.1;
 let tr21 := q15.2.2.2.2.2;
 (if (!decide (tr16 = 0)) = true then
 some (Sum.inr (Sum.inr (tr16, tr17, tr18, tr19, tr20, tr21)))
 else
 let t22 := IntKind.i64.wrap (v8 + 1);
 some (Sum.inl (t22, tr17, tr18, tr19, tr20, tr21)))
 else
 none)
 else
 some (Sum.inr (Sum.inl (b9, b10, b11, b12, b13))))
noncomputable def number_put_loop2_step (i23 : Nat) (x24 : Event) (s25 : Int × Int × Int × (List Int) × (List Int)) : Option ((Int × Int × Int × (List Int) × (List Int)) ⊕ ((Int × Int × Int × (List Int) × (List Int)) ⊕ (Int × Int × Int × Int × (List Int) × (List Int)))) :=
 let b26 := s25.1;
 let b27 := s25.2.1;
 let b28 := s25.2.2.1;
 let b29 := s25.2.2.2.1;
 let b30 := s25.2.2.2.2;
 (coder_Encoder_Put x24.ctx x24.bit b26 b27 b28 b29 b30).bind fun q15 =>
 let tr16 := q15.1;
 let tr17 := q15.2.1;
 let tr18 := q15.2.2.1;
 let tr19 := q15.2.2.2.1;
 let tr20 := q15.2.2.2.2.1;
 let tr21 := q15.2.2.2.2.2;
 (if (!decide (tr16 = 0)) = true then
 some (Sum.inr (Sum.inr (tr16, tr17, tr18, tr19, tr20, tr21)))
 else
 some (Sum.inl ((tr17, tr18, tr19, tr20, tr21))))
theorem number_put_loop2_over (l1 : List Event) (hl : l1.length ≤ 9223372036854775807) (s25 : Int × Int × Int × (List Int) × (List Int)) : loop (number_put_loop2 l1) ((0, s25.1, s25.2.1, s25.2.2.1, s25.2.2.2.1, s25.2.2.2.2) : Int × Int × Int × Int × (List Int) × (List Int)) =
    overL (number_put_loop2_step) (fun (s25 : Int × Int × Int × (List Int) × (List Int)) => let b26 := s25.1; let b27 := s25.2.1; let b28 := s25.2.2.1; let b29 := s25.2.2.2.1; let b30 := s25.2.2.2.2; some (Sum.inl (b26, b27, b28, b29, b30))) 0 l1 s25 := by
  refine loop_over l1 (fun n (s : Int × Int × Int × (List Int) × (List Int)) => ((((n : Nat) : Int), s.1, s.2.1, s.2.2.1, s.2.2.2.1, s.2.2.2.2) : Int × Int × Int × Int × (List Int) × (List Int))) _ _ (fun s => ?_) (fun i x s h => ?_) 0 s25 (Nat.zero_le _)
  · unfold number_put_loop2; simp
  · have hlt := lt_len_of_get h
    have h1 : ((i : Nat) : Int) < ((l1.length : Nat) : Int) := by omega
    have h0 : (0 : Int) ≤ ((i : Nat) : Int) := by omega
    have hw : IntKind.i64.wrap (((i : Nat) : Int) + 1) = (((i + 1 : Nat) : Nat) : Int) := w64 (by omega)
    unfold number_put_loop2 number_put_loop2_step
    simp only [h1, h0, hw, h, decide_true, if_true, and_self, true_and, Int.toNat_natCast, Option.bind_some, Option.map_bind, Function.comp_def, map_ite, map_elim, Option.map_some, Option.map_none]

theorem number_put_eq (l1 : List Event) (b2 b3 b4 : Int) (b5 b6 : List Int) : number_put l1 b2 b3 b4 b5 b6 =
 (loop (number_put_loop2 l1) (0, b2, b3, b4, b5, b6)).bind (fun o44 =>
 (Sum.elim (fun (p31 : Int × Int × Int × (List Int) × (List Int)) =>
 let b32 := p31.1;
 let b33 := p31.2.1;
 let b34 := p31.2.2.1;
 let b35 := p31.2.2.2.1;
 let b36 := p31.2.2.2.2;
 some (0, b32, b33, b34, b35, b36))
 (fun (p37 : Int × Int × Int × Int × (List Int) × (List Int)) =>
 let v38 := p37.1;
 let b39 := p37.2.1;
 let b40 := p37.2.2.1;
 let b41 := p37.2.2.2.1;
 let b42 := p37.2.2.2.2.1;
 let b43 := p37.2.2.2.2.2;
 some (v38, b39, b40, b41, b42, b43)) o44)) := (call_eq ..).trans (by kernel_rfl)

theorem ref10_Valid_eq (o1 o2 : Int) (o3 : Bool) (o4 o5 o6 : Int) (o7 : Bool) (o8 : Int) : ref10_Valid o1 o2 o3 o4 o5 o6 o7 o8 =
 ((if (!decide (o1 = 1)) = true then
 (if (!decide (o1 = 2)) = true then
 (if (!decide (o1 = 4)) = true then
 some (!decide (o1 = 8))
 else
 some false)
 else
 some false)
 else
 some false) : Option (Bool)).bind (fun v9 =>
 (if v9 = true then
 some false
 else
 ((if (decide (o2 ≥ 0)) = true then
 (if (decide (o2 ≤ 3)) = true then
 (if (decide (o4 ≥ (-16))) = true then
 (if (decide (o4 ≤ 16)) = true then
 (if (decide (o5 ≥ 0)) = true then
 some (decide (o5 ≤ 4))
 else
 some false)
 else
 some false)
 else
 some false)
 else
 some false)
 else
 some false) : Option (Bool)).bind (fun range10 =>
 (if range10 = true then
 (if (decide (o6 ≥ 0)) = true then
 (if (decide (o6 ≤ 1)) = true then
 (if (decide (o8 ≥ 0)) = true then
 some (decide (o8 ≤ 1))
 else
 some false)
 else
 some false)
 else
 some false)
 else
 some false)))) := (call_eq ..).trans (by kernel_rfl)

theorem ref10_IsShape_eq (b1 b2 : Int) (b3 : List Int) : ref10_IsShape b1 b2 b3 =
 (ref06_IsBitmap b1 b2 b3).bind fun q4 =>
 (if q4 = true then
 (if (decide (b1 ≥ 1)) = true then
 (if (decide (b1 ≤ 40)) = true then
 (if (decide (b2 ≥ 1)) = true then
 some (decide (b2 ≤ 40))
 else
 some false)
 else
 some false)
 else
 some false)
 else
 some false) := (call_eq ..).trans (by kernel_rfl)

theorem ref10_isItem_eq (o1 o2 : Int) (o3 : Bool) (o4 o5 o6 : Int) (o7 : Bool) (o8 symbols9 i10 i11 i12 : Int) (i13 : Bool) (i14 i15 i16 i17 : Int) (i18 : List Int) : ref10_isItem o1 o2 o3 o4 o5 o6 o7 o8 symbols9 i10 i11 i12 i13 i14 i15 i16 i17 i18 =
 ((if (decide (i10 < 0)) = true then
 some true
 else
 (if (decide (i10 ≥ symbols9)) = true then
 some true
 else
 (ref10_isShift i11).bind fun q19 =>
 (if (!q19) = true then
 some true
 else
 (ref10_isShift i12).bind fun q20 =>
 some (!q20)))) : Option (Bool)).bind (fun v21 =>
 (if v21 = true then
 some false
 else
 (if i13 = true then
 ((if o7 = true then
 (ref10_isSide i14).bind fun q22 =>
 (if q22 = true then
 (ref10_isSide i15).bind fun q23 =>
 some q23
 else
 some false)
 else
 some false) : Option (Bool)).bind (fun v24 =>
 some v24)
 else
 (if (decide (i14 = 0)) = true then
 (if (decide (i15 = 0)) = true then
 (if (decide (i16 = 0)) = true then
 (if (decide (i17 = 0)) = true then
 some (decide (((i18.length : Nat) : Int) = 0))
 else
 some false)
 else
 some false)
 else
 some false)
 else
 some false)))) := (call_eq ..).trans (by kernel_rfl)

theorem symbol_Valid_eq (o1 o2 o3 : Int) (o4 : Bool) (o5 o6 : Int) : symbol_Valid o1 o2 o3 o4 o5 o6 =
 (generic_Valid o1 o2 o3 o4 o5).bind fun q7 =>
 (if q7 = true then
 (if (!o4) = true then
 (if (decide (o6 = 0)) = true then
 some true
 else
 some (decide (o6 = 1)))
 else
 some false)
 else
 some false) := (call_eq ..).trans (by kernel_rfl)

noncomputable def slices_IndexFunc_api_Bitmap_api_Bitmap_loop2 (s1 : List Bitmap) (v2 : Int) : Option ((Int) ⊕ ((Unit) ⊕ (Int))) :=
 (if (decide (v2 < ((s1.length : Nat) : Int))) = true then
 (if 0 ≤ v2 then
 (s1[v2.toNat]?).bind fun e3 =>
 (symbol_begun_1 e3.w e3.h e3.pix).bind fun q4 =>
 (if q4 = true then
 some (Sum.inr (Sum.inr v2))
 else
 let t5 := IntKind.i64.wrap (v2 + 1);
 some (Sum.inl t5))
 else
 none)
 else
 some (Sum.inr (Sum.inl ())))
noncomputable def slices_IndexFunc_api_Bitmap_api_Bitmap_loop2_step (i6 : Nat) (x7 : Bitmap) (s8 : Unit) : Option ((Unit) ⊕ ((Unit) ⊕ (Int))) :=
 (symbol_begun_1 x7.w x7.h x7.pix).bind fun q4 =>
 (if q4 = true then
 some (Sum.inr (Sum.inr ((i6 : Nat) : Int)))
 else
 some (Sum.inl (())))
theorem slices_IndexFunc_api_Bitmap_api_Bitmap_loop2_over (s1 : List Bitmap) (hl : s1.length ≤ 9223372036854775807) (s8 : Unit) : loop (slices_IndexFunc_api_Bitmap_api_Bitmap_loop2 s1) (0 : Int) =
    overL (slices_IndexFunc_api_Bitmap_api_Bitmap_loop2_step) (fun (s8 : Unit) => some (Sum.inl ())) 0 s1 s8 := by
  refine loop_over s1 (fun n (s : Unit) => (((n : Nat) : Int) : Int)) _ _ (fun s => ?_) (fun i x s h => ?_) 0 s8 (Nat.zero_le _)
  · unfold slices_IndexFunc_api_Bitmap_api_Bitmap_loop2; simp
  · have hlt := lt_len_of_get h
    have h1 : ((i : Nat) : Int) < ((s1.length : Nat) : Int) := by omega
    have h0 : (0 : Int) ≤ ((i : Nat) : Int) := by omega
    have hw : IntKind.i64.wrap (((i : Nat) : Int) + 1) = (((i + 1 : Nat) : Nat) : Int) := w64 (by omega)
    unfold slices_IndexFunc_api_Bitmap_api_Bitmap_loop2 slices_IndexFunc_api_Bitmap_api_Bitmap_loop2_step
    simp only [h1, h0, hw, h, decide_true, if_true, and_self, true_and, Int.toNat_natCast, Option.bind_some, Option.map_bind, Function.comp_def, map_ite, map_elim, Option.map_some, Option.map_none]

theorem slices_IndexFunc_api_Bitmap_api_Bitmap_eq (s1 : List Bitmap) : slices_IndexFunc_api_Bitmap_api_Bitmap s1 =
 (loop (slices_IndexFunc_api_Bitmap_api_Bitmap_loop2 s1) 0).bind (fun o11 =>
 (Sum.elim (fun (p9 : Unit) =>
 some (-1))
 (fun (v10 : Int) =>
 some v10) o11)) := (call_eq ..).trans (by kernel_rfl)

noncomputable def bitmap_Valid_loop4 (b3 : List Int) (v7 : Int) : Option ((Int) ⊕ ((Unit) ⊕ (Bool))) :=
 (if (decide (v7 < ((b3.length : Nat) : Int))) = true then
 (if 0 ≤ v7 ∧ v7 < (b3.length : Int) then
 (if (decide (rd b3 v7 > 1)) = true then
 some (Sum.inr (Sum.inr false))
 else
 let t8 := IntKind.i64.wrap (v7 + 1);
 some (Sum.inl t8))
 else
 none)
 else
 some (Sum.inr (Sum.inl ())))

theorem bitmap_Valid_eq (b1 b2 : Int) (b3 : List Int) : bitmap_Valid b1 b2 b3 =
 ((bitmap_fits b1 b2).bind fun q4 =>
 (if (!q4) = true then
 some true
 else
 let t5 := IntKind.i64.wrap (b1 * b2);
 some (!decide (((b3.length : Nat) : Int) = t5))) : Option (Bool)).bind (fun v6 =>
 (if v6 = true then
 some false
 else
 (loop (bitmap_Valid_loop4 b3) 0).bind (fun o14 =>
 (Sum.elim (fun (p12 : Unit) =>
 some true)
 (fun (v13 : Bool) =>
 some v13) o14)))) := (call_eq ..).trans (by kernel_rfl)

theorem generic_Valid_eq (o1 o2 o3 : Int) (o4 : Bool) (o5 : Int) : generic_Valid o1 o2 o3 o4 o5 =
 (if 0 ≤ (0 : Int) ∧ (0 : Int) < ((2 : Nat) : Int) then
 (if 0 ≤ (1 : Int) ∧ (1 : Int) < ((2 : Nat) : Int) then
 (if (decide (o1 ≥ 0)) = true then
 (if (decide (o1 ≤ 3)) = true then
 (if (decide (o5 = 0)) = true then
 (if (decide (o2 ≥ (-8))) = true then
 (if (decide (o2 ≤ 8)) = true then
 (if (decide (o3 ≥ (-8))) = true then
 (if (decide (o3 ≤ 0)) = true then
 (if (decide (o3 < 0)) = true then
 some true
 else
 some (decide (o2 < 0)))
 else
 some false)
 else
 some false)
 else
 some false)
 else
 some false)
 else
 (if (decide (o5 = 1)) = true then
 (if (decide (o2 ≥ (-8))) = true then
 (if (decide (o2 ≤ 8)) = true then
 (if (decide (o3 ≥ (-8))) = true then
 (if (decide (o3 ≤ 0)) = true then
 (if (decide (o3 < 0)) = true then
 some true
 else
 some (decide (o2 < 0)))
 else
 some false)
 else
 some false)
 else
 some false)
 else
 some false)
 else
 some false))
 else
 some false)
 else
 some false)
 else
 none)
 else
 none) := (call_eq ..).trans (by kernel_rfl)

theorem generic_contexts_eq (o1 o2 o3 : Int) (o4 : Bool) (o5 : Int) : generic_contexts o1 o2 o3 o4 o5 =
 (generic_pixels o1).bind fun q6 =>
 (if ((q6.length : Nat) : Int) < 0 then
 none
 else
 let t7 := ishl .i64 2 ((q6.length : Nat) : Int);
 some t7) := (call_eq ..).trans (by kernel_rfl)

theorem refine_contexts_eq (template1 : Int) : refine_contexts template1 =
 (refine_fresh template1).bind fun q2 =>
 (if ((q2.length : Nat) : Int) < 0 then
 none
 else
 let t3 := ishl .i64 32 ((q2.length : Nat) : Int);
 some t3) := (call_eq ..).trans (by kernel_rfl)

theorem coder_chances_eq : coder_chances =
 some () := (call_eq ..).trans (by kernel_rfl)

theorem generic_Put_eq (base1 o2 o3 o4 : Int) (o5 : Bool) (o6 b7 b8 : Int) (b9 : List Int) (skip10 skip11 : Int) (skip12 : List Int) (b13 b14 b15 : Int) (b16 b17 : List Int) : generic_Put base1 o2 o3 o4 o5 o6 b7 b8 b9 skip10 skip11 skip12 b13 b14 b15 b16 b17 =
 (coder_Encoder_Put (-1) 0 b13 b14 b15 b16 b17).bind fun q18 =>
 let tr19 := q18.1;
 let tr20 := q18.2.1;
 let tr21 := q18.2.2.1;
 let tr22 := q18.2.2.2.1;
 let tr23 := q18.2.2.2.2.1;
 let tr24 := q18.2.2.2.2.2;
 (if (decide (tr19 = 7)) = true then
 some (7, tr20, tr21, tr22, tr23, tr24)
 else
 (generic_Valid o2 o3 o4 o5 o6).bind fun q25 =>
 (if (!q25) = true then
 some (2, tr20, tr21, tr22, tr23, tr24)
 else
 ((bitmap_Valid b7 b8 b9).bind fun q26 =>
 (if (!q26) = true then
 some true
 else
 (bitmap_Valid skip10 skip11 skip12).bind fun q27 =>
 some (!q27)) : Option (Bool)).bind (fun v28 =>
 (if v28 = true then
 some (30, tr20, tr21, tr22, tr23, tr24)
 else
 (generic_clash b7 b8 b9 skip10 skip11 skip12).bind fun q29 =>
 (if q29 = true then
 some (30, tr20, tr21, tr22, tr23, tr24)
 else
 ((generic_sides skip10 skip11 skip12 b7 b8).bind fun q30 =>
 (if (!q30) = true then
 some (true, tr20, tr21, tr22, tr23, tr24)
 else
 (coder_Encoder_Model tr20 tr21 tr22 tr23 tr24).bind fun q31 =>
 let tr32 := q31.1;
 let tr33 := q31.2.1;
 let tr34 := q31.2.2.1;
 let tr35 := q31.2.2.2.1;
 let tr36 := q31.2.2.2.2.1;
 let tr37 := q31.2.2.2.2.2.1;
 let tr38 := q31.2.2.2.2.2.2;
 (generic_fits tr32 tr33 base1 o2 o3 o4 o5 o6).bind fun q39 =>
 some (!q39, tr34, tr35, tr36, tr37, tr38)) : Option (Bool × Int × Int × Int × (List Int) × (List Int))).bind (fun p40 =>
 let v41 := p40.1;
 let b42 := p40.2.1;
 let b43 := p40.2.2.1;
 let b44 := p40.2.2.2.1;
 let b45 := p40.2.2.2.2.1;
 let b46 := p40.2.2.2.2.2;
 (if v41 = true then
 some (2, b42, b43, b44, b45, b46)
 else
 (generic_put base1 o2 o3 o4 o5 o6 b7 b8 b9 skip10 skip11 skip12 b42 b43 b44 b45 b46).bind fun q47 =>
 let tr48 := q47.1;
 let tr49 := q47.2.1;
 let tr50 := q47.2.2.1;
 let tr51 := q47.2.2.2.1;
 let tr52 := q47.2.2.2.2;
 some (0, tr48, tr49, tr50, tr51, tr52)))))))) := (call_eq ..).trans (by kernel_rfl)

theorem symbol_layout_options_eq (x1 x2 x3 : Int) (x4 : Bool) (x5 x6 x7 x8 x9 x10 dx11 dy12 : Int) : symbol_layout_options x1 x2 x3 x4 x5 x6 x7 x8 x9 x10 dx11 dy12 =
 some (x6, dx11, dy12, false, x5) := (call_eq ..).trans (by kernel_rfl)

theorem ref07_pixels_eq (o1 o2 o3 : Int) (o4 : Bool) (o5 : Int) : ref07_pixels o1 o2 o3 o4 o5 =
 (ref07_template o1).bind fun q6 =>
 (if 0 ≤ (0 : Int) ∧ (0 : Int) < ((2 : Nat) : Int) then
 (if 0 ≤ (1 : Int) ∧ (1 : Int) < ((2 : Nat) : Int) then
 (if (q6.length + ([(Pixel.mk o2 o3)] : List Pixel).length) * 16 ≤ 140737488355328 then
 let t7 : List Pixel := q6 ++ [(Pixel.mk o2 o3)];
 some t7
 else
 none)
 else
 none)
 else
 none) := (call_eq ..).trans (by kernel_rfl)

noncomputable def ref02_unlikely_loop3 (k1 : Int) (s2 : Int × Int) : Option ((Int × Int) ⊕ (Int)) :=
 let q3 := s2.1;
 let i4 := s2.2;
 (if (decide (i4 < k1)) = true then
 let t5 := IntKind.i64.wrap (q3.tdiv 8);
 let t6 := IntKind.i64.wrap (q3 - t5);
 let t7 := IntKind.i64.wrap (i4 + 1);
 some (Sum.inl (t6, t7))
 else
 some (Sum.inr q3))

theorem ref02_unlikely_eq (k1 : Int) : ref02_unlikely k1 =
 (loop (ref02_unlikely_loop3 k1) (2048, 0)).bind (fun q11 =>
 some q11) := (call_eq ..).trans (by kernel_rfl)

theorem ref02_Interval_Mid_eq (x1 x2 p3 : Int) : ref02_Interval_Mid x1 x2 p3 =
 let t4 := IntKind.u64.wrap (x2 - x1);
 let t5 := IntKind.u64.wrap (t4.tdiv 4096);
 let t6 := IntKind.u64.wrap p3;
 let t7 := IntKind.u64.wrap (t5 * t6);
 let t8 := IntKind.u64.wrap (x1 + t7);
 let t9 : Int := t4.tmod 4096;
 let t10 := IntKind.u64.wrap p3;
 let t11 := IntKind.u64.wrap (t9 * t10);
 let t12 := IntKind.u64.wrap (t11.tdiv 4096);
 let t13 := IntKind.u64.wrap (t8 + t12);
 some t13 := (call_eq ..).trans (by kernel_rfl)

theorem ref05_inside_eq (b1 b2 : Int) (b3 : List Int) (x4 y5 : Int) : ref05_inside b1 b2 b3 x4 y5 =
 (if (decide (x4 ≥ 0)) = true then
 (if (decide (y5 ≥ 0)) = true then
 (if (decide (x4 < b1)) = true then
 some (decide (y5 < b2))
 else
 some false)
 else
 some false)
 else
 some false) := (call_eq ..).trans (by kernel_rfl)

theorem ref07_none_eq (skip1 skip2 : Int) (skip3 : List Int) : ref07_none skip1 skip2 skip3 =
 (if (decide (skip1 = 0)) = true then
 some (decide (skip2 = 0))
 else
 some false) := (call_eq ..).trans (by kernel_rfl)

theorem ref06_IsSize_eq (w1 h2 : Int) : ref06_IsSize w1 h2 =
 (if (decide (w1 ≥ 0)) = true then
 (if (decide (w1 ≤ 200)) = true then
 (if (decide (h2 ≥ 0)) = true then
 (if (decide (h2 ≤ 200)) = true then
 let t3 := IntKind.i64.wrap (w1 * h2);
 some (decide (t3 ≤ 8192))
 else
 some false)
 else
 some false)
 else
 some false)
 else
 some false) := (call_eq ..).trans (by kernel_rfl)

noncomputable def ref06_IsRow_loop2 (l1 : List Int) (v2 : Int) : Option ((Int) ⊕ ((Unit) ⊕ (Bool))) :=
 (if (decide (v2 < ((l1.length : Nat) : Int))) = true then
 (if 0 ≤ v2 ∧ v2 < (l1.length : Int) then
 (if (decide (rd l1 v2 > 1)) = true then
 some (Sum.inr (Sum.inr false))
 else
 let t3 := IntKind.i64.wrap (v2 + 1);
 some (Sum.inl t3))
 else
 none)
 else
 some (Sum.inr (Sum.inl ())))
noncomputable def ref06_IsRow_loop2_step (i4 : Nat) (x5 : Int) (s6 : Unit) : Option ((Unit) ⊕ ((Unit) ⊕ (Bool))) :=
 (if (decide (x5 > 1)) = true then
 some (Sum.inr (Sum.inr false))
 else
 some (Sum.inl (())))
theorem ref06_IsRow_loop2_over (l1 : List Int) (hl : l1.length ≤ 9223372036854775807) (s6 : Unit) : loop (ref06_IsRow_loop2 l1) (0 : Int) =
    overL (ref06_IsRow_loop2_step) (fun (s6 : Unit) => some (Sum.inl ())) 0 l1 s6 := by
  refine loop_over l1 (fun n (s : Unit) => (((n : Nat) : Int) : Int)) _ _ (fun s => ?_) (fun i x s h => ?_) 0 s6 (Nat.zero_le _)
  · unfold ref06_IsRow_loop2; simp
  · have hlt := lt_len_of_get h
    have h1 : ((i : Nat) : Int) < ((l1.length : Nat) : Int) := by omega
    have h0 : (0 : Int) ≤ ((i : Nat) : Int) := by omega
    have hw : IntKind.i64.wrap (((i : Nat) : Int) + 1) = (((i + 1 : Nat) : Nat) : Int) := w64 (by omega)
    have hr : rd l1 ((i : Nat) : Int) = x := rd_nat h
    unfold ref06_IsRow_loop2 ref06_IsRow_loop2_step
    simp only [h1, h0, hw, h, hr, decide_true, if_true, and_self, true_and, Int.toNat_natCast, Option.bind_some, Option.map_bind, Function.comp_def, map_ite, map_elim, Option.map_some, Option.map_none]

theorem ref06_IsRow_eq (l1 : List Int) : ref06_IsRow l1 =
 (loop (ref06_IsRow_loop2 l1) 0).bind (fun o9 =>
 (Sum.elim (fun (p7 : Unit) =>
 some true)
 (fun (v8 : Bool) =>
 some v8) o9)) := (call_eq ..).trans (by kernel_rfl)

theorem ref08_Valid_eq (o1 o2 o3 : Int) (o4 : Bool) (o5 : Int) : ref08_Valid o1 o2 o3 o4 o5 =
 ((if (decide (o2 ≥ (-200))) = true then
 (if (decide (o2 ≤ 200)) = true then
 (if (decide (o3 ≥ (-200))) = true then
 some (decide (o3 ≤ 200))
 else
 some false)
 else
 some false)
 else
 some false) : Option (Bool)).bind (fun side6 =>
 (if side6 = true then
 (if (decide (o1 ≥ 0)) = true then
 (if (decide (o1 ≤ 1)) = true then
 (if (decide (o5 ≥ 0)) = true then
 some (decide (o5 ≤ 1))
 else
 some false)
 else
 some false)
 else
 some false)
 else
 some false)) := (call_eq ..).trans (by kernel_rfl)

theorem slices_Contains_int_int_eq (s1 : List Int) (v2 : Int) : slices_Contains_int_int s1 v2 =
 (slices_Index_int_int s1 v2).bind fun q3 =>
 some (decide (q3 ≥ 0)) := (call_eq ..).trans (by kernel_rfl)

noncomputable def slices_IndexFunc_api_Bitmap_api_Bitmap_2_loop2 (s1 : List Bitmap) (v2 : Int) : Option ((Int) ⊕ ((Unit) ⊕ (Int))) :=
 (if (decide (v2 < ((s1.length : Nat) : Int))) = true then
 (if 0 ≤ v2 then
 (s1[v2.toNat]?).bind fun e3 =>
 (text_begun_1 e3.w e3.h e3.pix).bind fun q4 =>
 (if q4 = true then
 some (Sum.inr (Sum.inr v2))
 else
 let t5 := IntKind.i64.wrap (v2 + 1);
 some (Sum.inl t5))
 else
 none)
 else
 some (Sum.inr (Sum.inl ())))
noncomputable def slices_IndexFunc_api_Bitmap_api_Bitmap_2_loop2_step (i6 : Nat) (x7 : Bitmap) (s8 : Unit) : Option ((Unit) ⊕ ((Unit) ⊕ (Int))) :=
 (text_begun_1 x7.w x7.h x7.pix).bind fun q4 =>
 (if q4 = true then
 some (Sum.inr (Sum.inr ((i6 : Nat) : Int)))
 else
 some (Sum.inl (())))
theorem slices_IndexFunc_api_Bitmap_api_Bitmap_2_loop2_over (s1 : List Bitmap) (hl : s1.length ≤ 9223372036854775807) (s8 : Unit) : loop (slices_IndexFunc_api_Bitmap_api_Bitmap_2_loop2 s1) (0 : Int) =
    overL (slices_IndexFunc_api_Bitmap_api_Bitmap_2_loop2_step) (fun (s8 : Unit) => some (Sum.inl ())) 0 s1 s8 := by
  refine loop_over s1 (fun n (s : Unit) => (((n : Nat) : Int) : Int)) _ _ (fun s => ?_) (fun i x s h => ?_) 0 s8 (Nat.zero_le _)
  · unfold slices_IndexFunc_api_Bitmap_api_Bitmap_2_loop2; simp
  · have hlt := lt_len_of_get h
    have h1 : ((i : Nat) : Int) < ((s1.length : Nat) : Int) := by omega
    have h0 : (0 : Int) ≤ ((i : Nat) : Int) := by omega
    have hw : IntKind.i64.wrap (((i : Nat) : Int) + 1) = (((i + 1 : Nat) : Nat) : Int) := w64 (by omega)
    unfold slices_IndexFunc_api_Bitmap_api_Bitmap_2_loop2 slices_IndexFunc_api_Bitmap_api_Bitmap_2_loop2_step
    simp only [h1, h0, hw, h, decide_true, if_true, and_self, true_and, Int.toNat_natCast, Option.bind_some, Option.map_bind, Function.comp_def, map_ite, map_elim, Option.map_some, Option.map_none]

theorem slices_IndexFunc_api_Bitmap_api_Bitmap_2_eq (s1 : List Bitmap) : slices_IndexFunc_api_Bitmap_api_Bitmap_2 s1 =
 (loop (slices_IndexFunc_api_Bitmap_api_Bitmap_2_loop2 s1) 0).bind (fun o11 =>
 (Sum.elim (fun (p9 : Unit) =>
 some (-1))
 (fun (v10 : Int) =>
 some v10) o11)) := (call_eq ..).trans (by kernel_rfl)

noncomputable def slices_IndexFunc_api_Item_api_Item_loop2 (s1 : List Item) (v2 : Int) : Option ((Int) ⊕ ((Unit) ⊕ (Int))) :=
 (if (decide (v2 < ((s1.length : Nat) : Int))) = true then
 (if 0 ≤ v2 then
 (s1[v2.toNat]?).bind fun e3 =>
 (text_begun_2 e3.symbol e3.s e3.t e3.refined e3.dX e3.dY e3.pix_w e3.pix_h e3.pix_pix).bind fun q4 =>
 (if q4 = true then
 some (Sum.inr (Sum.inr v2))
 else
 let t5 := IntKind.i64.wrap (v2 + 1);
 some (Sum.inl t5))
 else
 none)
 else
 some (Sum.inr (Sum.inl ())))
noncomputable def slices_IndexFunc_api_Item_api_Item_loop2_step (i6 : Nat) (x7 : Item) (s8 : Unit) : Option ((Unit) ⊕ ((Unit) ⊕ (Int))) :=
 (text_begun_2 x7.symbol x7.s x7.t x7.refined x7.dX x7.dY x7.pix_w x7.pix_h x7.pix_pix).bind fun q4 =>
 (if q4 = true then
 some (Sum.inr (Sum.inr ((i6 : Nat) : Int)))
 else
 some (Sum.inl (())))
theorem slices_IndexFunc_api_Item_api_Item_loop2_over (s1 : List Item) (hl : s1.length ≤ 9223372036854775807) (s8 : Unit) : loop (slices_IndexFunc_api_Item_api_Item_loop2 s1) (0 : Int) =
    overL (slices_IndexFunc_api_Item_api_Item_loop2_step) (fun (s8 : Unit) => some (Sum.inl ())) 0 s1 s8 := by
  refine loop_over s1 (fun n (s : Unit) => (((n : Nat) : Int) : Int)) _ _ (fun s => ?_) (fun i x s h => ?_) 0 s8 (Nat.zero_le _)
  · unfold slices_IndexFunc_api_Item_api_Item_loop2; simp
  · have hlt := lt_len_of_get h
    have h1 : ((i : Nat) : Int) < ((s1.length : Nat) : Int) := by omega
    have h0 : (0 : Int) ≤ ((i : Nat) : Int) := by omega
    have hw : IntKind.i64.wrap (((i : Nat) : Int) + 1) = (((i + 1 : Nat) : Nat) : Int) := w64 (by omega)
    unfold slices_IndexFunc_api_Item_api_Item_loop2 slices_IndexFunc_api_Item_api_Item_loop2_step
    simp only [h1, h0, hw, h, decide_true, if_true, and_self, true_and, Int.toNat_natCast, Option.bind_some, Option.map_bind, Function.comp_def, map_ite, map_elim, Option.map_some, Option.map_none]

theorem slices_IndexFunc_api_Item_api_Item_eq (s1 : List Item) : slices_IndexFunc_api_Item_api_Item s1 =
 (loop (slices_IndexFunc_api_Item_api_Item_loop2 s1) 0).bind (fun o11 =>
 (Sum.elim (fun (p9 : Unit) =>
 some (-1))
 (fun (v10 : Int) =>
 some v10) o11)) := (call_eq ..).trans (by kernel_rfl)
end
end Go.Proofs.YtkccnhkhjncpkaaGreat.P
