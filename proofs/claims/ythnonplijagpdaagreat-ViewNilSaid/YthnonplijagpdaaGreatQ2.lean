/- The equations of functions. Printed by wip/tool/vsym.py. -/
import Derived.Test.YthnonplijagpdaaGreatG
import Derived.Test.YthnonplijagpdaaGreatLib
namespace Go.Proofs.YthnonplijagpdaaGreat.P
open Go Go.Proofs.YthnonplijagpdaaGreat.V
set_option linter.unusedVariables false
set_option linter.unusedSimpArgs false
set_option maxRecDepth 100000
noncomputable section
theorem slices_choosePivotCmpFunc_int_eq (a1 b2 : Int) (b3 b4 : List Int) : slices_choosePivotCmpFunc_int a1 b2 b3 b4 =
 let t5 := IntKind.i64.wrap (b2 - a1);
 let t6 := IntKind.i64.wrap (t5.tdiv 4);
 let t7 := IntKind.i64.wrap (t6 * 1);
 let t8 := IntKind.i64.wrap (a1 + t7);
 let t9 := IntKind.i64.wrap (t5.tdiv 4);
 let t10 := IntKind.i64.wrap (t9 * 2);
 let t11 := IntKind.i64.wrap (a1 + t10);
 let t12 := IntKind.i64.wrap (t5.tdiv 4);
 let t13 := IntKind.i64.wrap (t12 * 3);
 let t14 := IntKind.i64.wrap (a1 + t13);
 ((if (decide (t5 ≥ 8)) = true then
 ((if (decide (t5 ≥ 50)) = true then
 (slices_medianAdjacentCmpFunc_int t8 b3 0 b4).bind fun q15 =>
 let tr16 := q15.1;
 let tr17 := q15.2.1;
 let tr18 := q15.2.2.1;
 let tr19 := q15.2.2.2;
 (slices_medianAdjacentCmpFunc_int t11 tr17 tr18 tr19).bind fun q20 =>
 let tr21 := q20.1;
 let tr22 := q20.2.1;
 let tr23 := q20.2.2.1;
 let tr24 := q20.2.2.2;
 (slices_medianAdjacentCmpFunc_int t14 tr22 tr23 tr24).bind fun q25 =>
 let tr26 := q25.1;
 let tr27 := q25.2.1;
 let tr28 := q25.2.2.1;
 let tr29 := q25.2.2.2;
 some (tr16, tr21, tr26, tr27, tr29, tr28)
 else
 some (t8, t11, t14, b3, b4, 0)) : Option (Int × Int × Int × (List Int) × (List Int) × Int)).bind (fun p30 =>
 let i31 := p30.1;
 let j32 := p30.2.1;
 let k33 := p30.2.2.1;
 let b34 := p30.2.2.2.1;
 let b35 := p30.2.2.2.2.1;
 let b36 := p30.2.2.2.2.2;
 (slices_medianCmpFunc_int i31 j32 k33 b34 b36 b35).bind fun q37 =>
 let tr38 := q37.1;
 let tr39 := q37.2.1;
 let tr40 := q37.2.2.1;
 let tr41 := q37.2.2.2;
 some (tr38, tr39, tr41, tr40))
 else
 some (t11, b3, b4, 0)) : Option (Int × (List Int) × (List Int) × Int)).bind (fun p42 =>
 let j43 := p42.1;
 let b44 := p42.2.1;
 let b45 := p42.2.2.1;
 let b46 := p42.2.2.2;
 (if (decide (b46 = 0)) = true then
 some (j43, 1, b44, b45)
 else
 (if (decide (b46 = 12)) = true then
 some (j43, 2, b44, b45)
 else
 some (j43, 0, b44, b45)))) := (call_eq ..).trans (by kernel_rfl)

noncomputable def slices_reverseRangeCmpFunc_int_loop2 (s6 : Int × Int × (List Int)) : Option ((Int × Int × (List Int)) ⊕ ((List Int))) :=
 let i7 := s6.1;
 let j8 := s6.2.1;
 let b9 := s6.2.2;
 (if (decide (i7 < j8)) = true then
 (if 0 ≤ j8 ∧ j8 < (b9.length : Int) then
 let t10 : Int := rd b9 j8;
 (if 0 ≤ i7 ∧ i7 < (b9.length : Int) then
 let t11 : Int := rd b9 i7;
 (if 0 ≤ i7 ∧ i7 < (b9.length : Int) then
 let w12 : List Int := b9.set i7.toNat t10;
 (if 0 ≤ j8 ∧ j8 < (w12.length : Int) then
 let w13 : List Int := w12.set j8.toNat t11;
 let t14 := IntKind.i64.wrap (i7 + 1);
 let t15 := IntKind.i64.wrap (j8 - 1);
 some (Sum.inl (t14, t15, w13))
 else
 none)
 else
 none)
 else
 none)
 else
 none)
 else
 some (Sum.inr b9))
theorem slices_reverseRangeCmpFunc_int_eq (a1 b2 : Int) (b3 b4 : List Int) : slices_reverseRangeCmpFunc_int a1 b2 b3 b4 =
 let t5 := IntKind.i64.wrap (b2 - 1);
 (loop (slices_reverseRangeCmpFunc_int_loop2) (a1, t5, b3)).bind (fun b16 =>
 some (b16, b4)) := (call_eq ..).trans (by kernel_rfl)

noncomputable def slices_partialInsertionSortCmpFunc_int_loop5 (b2 : Int) (b9 : List Int) (s11 : Int × (List Int)) : Option ((Int × (List Int)) ⊕ (Int × (List Int))) :=
 let i12 := s11.1;
 let b13 := s11.2;
 (if (decide (i12 < b2)) = true then
 (if 0 ≤ i12 ∧ i12 < (b9.length : Int) then
 let t14 : Int := rd b9 i12;
 let t15 := IntKind.i64.wrap (i12 - 1);
 (if 0 ≤ t15 ∧ t15 < (b9.length : Int) then
 let t16 : Int := rd b9 t15;
 (sort_suffixes_1 t14 t16 b13).bind fun q17 =>
 let tr18 := q17.1;
 let tr19 := q17.2;
 (if (!(decide (tr18 < 0))) = true then
 let t20 := IntKind.i64.wrap (i12 + 1);
 some (Sum.inl (t20, tr19))
 else
 some (Sum.inr (i12, tr19)))
 else
 none)
 else
 none)
 else
 some (Sum.inr (i12, b13)))
noncomputable def slices_partialInsertionSortCmpFunc_int_loop14 (s33 : Int × (List Int) × (List Int)) : Option ((Int × (List Int) × (List Int)) ⊕ ((List Int) × (List Int))) :=
 let j34 := s33.1;
 let b35 := s33.2.1;
 let b36 := s33.2.2;
 (if (decide (j34 ≥ 1)) = true then
 (if 0 ≤ j34 ∧ j34 < (b35.length : Int) then
 let t37 : Int := rd b35 j34;
 let t38 := IntKind.i64.wrap (j34 - 1);
 (if 0 ≤ t38 ∧ t38 < (b35.length : Int) then
 let t39 : Int := rd b35 t38;
 (sort_suffixes_1 t37 t39 b36).bind fun q40 =>
 let tr41 := q40.1;
 let tr42 := q40.2;
 (if (!(decide (tr41 < 0))) = true then
 some (Sum.inr (b35, tr42))
 else
 let t43 := IntKind.i64.wrap (j34 - 1);
 let t44 := IntKind.i64.wrap (j34 - 1);
 (if 0 ≤ t44 ∧ t44 < (b35.length : Int) then
 let t45 : Int := rd b35 t44;
 (if 0 ≤ j34 ∧ j34 < (b35.length : Int) then
 let t46 : Int := rd b35 j34;
 (if 0 ≤ j34 ∧ j34 < (b35.length : Int) then
 let w47 : List Int := b35.set j34.toNat t45;
 (if 0 ≤ t43 ∧ t43 < (w47.length : Int) then
 let w48 : List Int := w47.set t43.toNat t46;
 let t49 := IntKind.i64.wrap (j34 - 1);
 some (Sum.inl (t49, w48, tr42))
 else
 none)
 else
 none)
 else
 none)
 else
 none))
 else
 none)
 else
 none)
 else
 some (Sum.inr (b35, b36)))
noncomputable def slices_partialInsertionSortCmpFunc_int_loop20 (b2 : Int) (s58 : Int × (List Int) × (List Int)) : Option ((Int × (List Int) × (List Int)) ⊕ ((List Int) × (List Int))) :=
 let j59 := s58.1;
 let b60 := s58.2.1;
 let b61 := s58.2.2;
 (if (decide (j59 < b2)) = true then
 (if 0 ≤ j59 ∧ j59 < (b60.length : Int) then
 let t62 : Int := rd b60 j59;
 let t63 := IntKind.i64.wrap (j59 - 1);
 (if 0 ≤ t63 ∧ t63 < (b60.length : Int) then
 let t64 : Int := rd b60 t63;
 (sort_suffixes_1 t62 t64 b61).bind fun q65 =>
 let tr66 := q65.1;
 let tr67 := q65.2;
 (if (!(decide (tr66 < 0))) = true then
 some (Sum.inr (b60, tr67))
 else
 let t68 := IntKind.i64.wrap (j59 - 1);
 let t69 := IntKind.i64.wrap (j59 - 1);
 (if 0 ≤ t69 ∧ t69 < (b60.length : Int) then
 let t70 : Int := rd b60 t69;
 (if 0 ≤ j59 ∧ j59 < (b60.length : Int) then
 let t71 : Int := rd b60 j59;
 (if 0 ≤ j59 ∧ j59 < (b60.length : Int) then
 let w72 : List Int := b60.set j59.toNat t70;
 (if 0 ≤ t68 ∧ t68 < (w72.length : Int) then
 let w73 : List Int := w72.set t68.toNat t71;
 let t74 := IntKind.i64.wrap (j59 + 1);
 some (Sum.inl (t74, w73, tr67))
 else
 none)
 else
 none)
 else
 none)
 else
 none))
 else
 none)
 else
 none)
 else
 some (Sum.inr (b60, b61)))

noncomputable def slices_partialInsertionSortCmpFunc_int_loop3 (a1 b2 : Int) (s6 : Int × Int × (List Int) × (List Int)) : Option ((Int × Int × (List Int) × (List Int)) ⊕ (((List Int) × (List Int)) ⊕ (Bool × (List Int) × (List Int)))) :=
 let i7 := s6.1;
 let j8 := s6.2.1;
 let b9 := s6.2.2.1;
 let b10 := s6.2.2.2;
 (if (decide (j8 < 5)) = true then
 (loop (slices_partialInsertionSortCmpFunc_int_loop5 b2 b9) (i7, b10)).bind (fun p21 =>
 let i22 := p21.1;
 let b23 := p21.2;
 (if (decide (i22 = b2)) = true then
 some (Sum.inr (Sum.inr (true, b9, b23)))
 else
 let t24 := IntKind.i64.wrap (b2 - a1);
 (if (decide (t24 < 50)) = true then
 some (Sum.inr (Sum.inr (false, b9, b23)))
 else
 let t25 := IntKind.i64.wrap (i22 - 1);
 let t26 := IntKind.i64.wrap (i22 - 1);
 (if 0 ≤ t26 ∧ t26 < (b9.length : Int) then
 let t27 : Int := rd b9 t26;
 (if 0 ≤ i22 ∧ i22 < (b9.length : Int) then
 let t28 : Int := rd b9 i22;
 (if 0 ≤ i22 ∧ i22 < (b9.length : Int) then
 let w29 : List Int := b9.set i22.toNat t27;
 (if 0 ≤ t25 ∧ t25 < (w29.length : Int) then
 let w30 : List Int := w29.set t25.toNat t28;
 let t31 := IntKind.i64.wrap (i22 - a1);
 ((if (decide (t31 ≥ 2)) = true then
 let t32 := IntKind.i64.wrap (i22 - 1);
 (loop (slices_partialInsertionSortCmpFunc_int_loop14) (t32, w30, b23)).bind (fun p50 =>
 let b51 := p50.1;
 let b52 := p50.2;
 some (b51, b52))
 else
 some (w30, b23)) : Option ((List Int) × (List Int))).bind (fun p53 =>
 let b54 := p53.1;
 let b55 := p53.2;
 let t56 := IntKind.i64.wrap (b2 - i22);
 (if (decide (t56 ≥ 2)) = true then
 let t57 := IntKind.i64.wrap (i22 + 1);
 (loop (slices_partialInsertionSortCmpFunc_int_loop20 b2) (t57, b54, b55)).bind (fun p80 =>
 let b81 := p80.1;
 let b82 := p80.2;
 let t83 := IntKind.i64.wrap (j8 + 1);
 some (Sum.inl (i22, t83, b81, b82)))
 else
 let t84 := IntKind.i64.wrap (j8 + 1);
 some (Sum.inl (i22, t84, b54, b55))))
 else
 none)
 else
 none)
 else
 none)
 else
 none))))
 else
 some (Sum.inr (Sum.inl (b9, b10))))

theorem slices_partialInsertionSortCmpFunc_int_eq (a1 b2 : Int) (b3 b4 : List Int) : slices_partialInsertionSortCmpFunc_int a1 b2 b3 b4 =
 let t5 := IntKind.i64.wrap (a1 + 1);
 (loop (slices_partialInsertionSortCmpFunc_int_loop3 a1 b2) (t5, 0, b3, b4)).bind (fun o98 =>
 (Sum.elim (fun (p91 : (List Int) × (List Int)) =>
 let b92 := p91.1;
 let b93 := p91.2;
 some (false, b92, b93))
 (fun (p94 : Bool × (List Int) × (List Int)) =>
 let v95 := p94.1;
 let b96 := p94.2.1;
 let b97 := p94.2.2;
 some (v95, b96, b97)) o98)) := (call_eq ..).trans (by kernel_rfl)

theorem sort_suffixes_1_eq (a1 b2 : Int) (b3 : List Int) : sort_suffixes_1 a1 b2 b3 =
 (if 0 ≤ a1 ∧ a1 ≤ ((b3.length : Nat) : Int) then
 let t4 : List Int := cutL b3 a1.toNat b3.length;
 (if 0 ≤ b2 ∧ b2 ≤ ((b3.length : Nat) : Int) then
 let t5 : List Int := cutL b3 b2.toNat b3.length;
 (bytes_Compare t4 t5).bind fun q6 =>
 some (q6, b3)
 else
 none)
 else
 none) := (call_eq ..).trans (by kernel_rfl)

noncomputable def slices_partitionEqualCmpFunc_int_loop3 (a1 j14 : Int) (b15 : List Int) (s17 : Int × (List Int)) : Option ((Int × (List Int)) ⊕ (Int × (List Int))) :=
 let i18 := s17.1;
 let b19 := s17.2;
 (if (decide (i18 ≤ j14)) = true then
 (if 0 ≤ a1 ∧ a1 < (b15.length : Int) then
 let t20 : Int := rd b15 a1;
 (if 0 ≤ i18 ∧ i18 < (b15.length : Int) then
 let t21 : Int := rd b15 i18;
 (sort_suffixes_1 t20 t21 b19).bind fun q22 =>
 let tr23 := q22.1;
 let tr24 := q22.2;
 (if (!(decide (tr23 < 0))) = true then
 let t25 := IntKind.i64.wrap (i18 + 1);
 some (Sum.inl (t25, tr24))
 else
 some (Sum.inr (i18, tr24)))
 else
 none)
 else
 none)
 else
 some (Sum.inr (i18, b19)))
noncomputable def slices_partitionEqualCmpFunc_int_loop5 (a1 : Int) (b15 : List Int) (i27 : Int) (s29 : Int × (List Int)) : Option ((Int × (List Int)) ⊕ (Int × (List Int))) :=
 let j30 := s29.1;
 let b31 := s29.2;
 (if (decide (i27 ≤ j30)) = true then
 (if 0 ≤ a1 ∧ a1 < (b15.length : Int) then
 let t32 : Int := rd b15 a1;
 (if 0 ≤ j30 ∧ j30 < (b15.length : Int) then
 let t33 : Int := rd b15 j30;
 (sort_suffixes_1 t32 t33 b31).bind fun q34 =>
 let tr35 := q34.1;
 let tr36 := q34.2;
 (if (decide (tr35 < 0)) = true then
 let t37 := IntKind.i64.wrap (j30 - 1);
 some (Sum.inl (t37, tr36))
 else
 some (Sum.inr (j30, tr36)))
 else
 none)
 else
 none)
 else
 some (Sum.inr (j30, b31)))
noncomputable def slices_partitionEqualCmpFunc_int_loop1000003 (a1 : Int) (s12 : Int × Int × (List Int) × (List Int)) : Option ((Int × Int × (List Int) × (List Int)) ⊕ (Int × (List Int) × (List Int))) :=
 let i13 := s12.1;
 let j14 := s12.2.1;
 let b15 := s12.2.2.1;
 let b16 := s12.2.2.2;
 (loop (slices_partitionEqualCmpFunc_int_loop3 a1 j14 b15) (i13, b16)).bind (fun p26 =>
 let i27 := p26.1;
 let b28 := p26.2;
 (loop (slices_partitionEqualCmpFunc_int_loop5 a1 b15 i27) (j14, b28)).bind (fun p38 =>
 let j39 := p38.1;
 let b40 := p38.2;
 (if (decide (i27 > j39)) = true then
 some (Sum.inr (i27, b15, b40))
 else
 (if 0 ≤ j39 ∧ j39 < (b15.length : Int) then
 let t41 : Int := rd b15 j39;
 (if 0 ≤ i27 ∧ i27 < (b15.length : Int) then
 let t42 : Int := rd b15 i27;
 (if 0 ≤ i27 ∧ i27 < (b15.length : Int) then
 let w43 : List Int := b15.set i27.toNat t41;
 (if 0 ≤ j39 ∧ j39 < (w43.length : Int) then
 let w44 : List Int := w43.set j39.toNat t42;
 let t45 := IntKind.i64.wrap (i27 + 1);
 let t46 := IntKind.i64.wrap (j39 - 1);
 some (Sum.inl (t45, t46, w44, b40))
 else
 none)
 else
 none)
 else
 none)
 else
 none))))
theorem slices_partitionEqualCmpFunc_int_eq (a1 b2 pivot3 : Int) (b4 b5 : List Int) : slices_partitionEqualCmpFunc_int a1 b2 pivot3 b4 b5 =
 (if 0 ≤ pivot3 ∧ pivot3 < (b4.length : Int) then
 let t6 : Int := rd b4 pivot3;
 (if 0 ≤ a1 ∧ a1 < (b4.length : Int) then
 let t7 : Int := rd b4 a1;
 (if 0 ≤ a1 ∧ a1 < (b4.length : Int) then
 let w8 : List Int := b4.set a1.toNat t6;
 (if 0 ≤ pivot3 ∧ pivot3 < (w8.length : Int) then
 let w9 : List Int := w8.set pivot3.toNat t7;
 let t10 := IntKind.i64.wrap (a1 + 1);
 let t11 := IntKind.i64.wrap (b2 - 1);
 (loop (slices_partitionEqualCmpFunc_int_loop1000003 a1) (t10, t11, w9, b5)).bind (fun p47 =>
 let i48 := p47.1;
 let b49 := p47.2.1;
 let b50 := p47.2.2;
 some (i48, b49, b50))
 else
 none)
 else
 none)
 else
 none)
 else
 none) := (call_eq ..).trans (by kernel_rfl)

noncomputable def slices_partitionCmpFunc_int_loop3 (a1 : Int) (w9 : List Int) (t11 : Int) (s12 : Int × (List Int)) : Option ((Int × (List Int)) ⊕ (Int × (List Int))) :=
 let i13 := s12.1;
 let b14 := s12.2;
 (if (decide (i13 ≤ t11)) = true then
 (if 0 ≤ i13 ∧ i13 < (w9.length : Int) then
 let t15 : Int := rd w9 i13;
 (if 0 ≤ a1 ∧ a1 < (w9.length : Int) then
 let t16 : Int := rd w9 a1;
 (sort_suffixes_1 t15 t16 b14).bind fun q17 =>
 let tr18 := q17.1;
 let tr19 := q17.2;
 (if (decide (tr18 < 0)) = true then
 let t20 := IntKind.i64.wrap (i13 + 1);
 some (Sum.inl (t20, tr19))
 else
 some (Sum.inr (i13, tr19)))
 else
 none)
 else
 none)
 else
 some (Sum.inr (i13, b14)))
noncomputable def slices_partitionCmpFunc_int_loop5 (a1 : Int) (w9 : List Int) (i22 : Int) (s24 : Int × (List Int)) : Option ((Int × (List Int)) ⊕ (Int × (List Int))) :=
 let j25 := s24.1;
 let b26 := s24.2;
 (if (decide (i22 ≤ j25)) = true then
 (if 0 ≤ j25 ∧ j25 < (w9.length : Int) then
 let t27 : Int := rd w9 j25;
 (if 0 ≤ a1 ∧ a1 < (w9.length : Int) then
 let t28 : Int := rd w9 a1;
 (sort_suffixes_1 t27 t28 b26).bind fun q29 =>
 let tr30 := q29.1;
 let tr31 := q29.2;
 (if (!(decide (tr30 < 0))) = true then
 let t32 := IntKind.i64.wrap (j25 - 1);
 some (Sum.inl (t32, tr31))
 else
 some (Sum.inr (j25, tr31)))
 else
 none)
 else
 none)
 else
 some (Sum.inr (j25, b26)))
noncomputable def slices_partitionCmpFunc_int_loop13 (a1 j48 : Int) (b49 : List Int) (s51 : Int × (List Int)) : Option ((Int × (List Int)) ⊕ (Int × (List Int))) :=
 let i52 := s51.1;
 let b53 := s51.2;
 (if (decide (i52 ≤ j48)) = true then
 (if 0 ≤ i52 ∧ i52 < (b49.length : Int) then
 let t54 : Int := rd b49 i52;
 (if 0 ≤ a1 ∧ a1 < (b49.length : Int) then
 let t55 : Int := rd b49 a1;
 (sort_suffixes_1 t54 t55 b53).bind fun q56 =>
 let tr57 := q56.1;
 let tr58 := q56.2;
 (if (decide (tr57 < 0)) = true then
 let t59 := IntKind.i64.wrap (i52 + 1);
 some (Sum.inl (t59, tr58))
 else
 some (Sum.inr (i52, tr58)))
 else
 none)
 else
 none)
 else
 some (Sum.inr (i52, b53)))
noncomputable def slices_partitionCmpFunc_int_loop15 (a1 : Int) (b49 : List Int) (i61 : Int) (s63 : Int × (List Int)) : Option ((Int × (List Int)) ⊕ (Int × (List Int))) :=
 let j64 := s63.1;
 let b65 := s63.2;
 (if (decide (i61 ≤ j64)) = true then
 (if 0 ≤ j64 ∧ j64 < (b49.length : Int) then
 let t66 : Int := rd b49 j64;
 (if 0 ≤ a1 ∧ a1 < (b49.length : Int) then
 let t67 : Int := rd b49 a1;
 (sort_suffixes_1 t66 t67 b65).bind fun q68 =>
 let tr69 := q68.1;
 let tr70 := q68.2;
 (if (!(decide (tr69 < 0))) = true then
 let t71 := IntKind.i64.wrap (j64 - 1);
 some (Sum.inl (t71, tr70))
 else
 some (Sum.inr (j64, tr70)))
 else
 none)
 else
 none)
 else
 some (Sum.inr (j64, b65)))
noncomputable def slices_partitionCmpFunc_int_loop1000013 (a1 : Int) (s46 : Int × Int × (List Int) × (List Int)) : Option ((Int × Int × (List Int) × (List Int)) ⊕ (Int × (List Int) × (List Int))) :=
 let i47 := s46.1;
 let j48 := s46.2.1;
 let b49 := s46.2.2.1;
 let b50 := s46.2.2.2;
 (loop (slices_partitionCmpFunc_int_loop13 a1 j48 b49) (i47, b50)).bind (fun p60 =>
 let i61 := p60.1;
 let b62 := p60.2;
 (loop (slices_partitionCmpFunc_int_loop15 a1 b49 i61) (j48, b62)).bind (fun p72 =>
 let j73 := p72.1;
 let b74 := p72.2;
 (if (decide (i61 > j73)) = true then
 some (Sum.inr (j73, b49, b74))
 else
 (if 0 ≤ j73 ∧ j73 < (b49.length : Int) then
 let t75 : Int := rd b49 j73;
 (if 0 ≤ i61 ∧ i61 < (b49.length : Int) then
 let t76 : Int := rd b49 i61;
 (if 0 ≤ i61 ∧ i61 < (b49.length : Int) then
 let w77 : List Int := b49.set i61.toNat t75;
 (if 0 ≤ j73 ∧ j73 < (w77.length : Int) then
 let w78 : List Int := w77.set j73.toNat t76;
 let t79 := IntKind.i64.wrap (i61 + 1);
 let t80 := IntKind.i64.wrap (j73 - 1);
 some (Sum.inl (t79, t80, w78, b74))
 else
 none)
 else
 none)
 else
 none)
 else
 none))))
theorem slices_partitionCmpFunc_int_eq (a1 b2 pivot3 : Int) (b4 b5 : List Int) : slices_partitionCmpFunc_int a1 b2 pivot3 b4 b5 =
 (if 0 ≤ pivot3 ∧ pivot3 < (b4.length : Int) then
 let t6 : Int := rd b4 pivot3;
 (if 0 ≤ a1 ∧ a1 < (b4.length : Int) then
 let t7 : Int := rd b4 a1;
 (if 0 ≤ a1 ∧ a1 < (b4.length : Int) then
 let w8 : List Int := b4.set a1.toNat t6;
 (if 0 ≤ pivot3 ∧ pivot3 < (w8.length : Int) then
 let w9 : List Int := w8.set pivot3.toNat t7;
 let t10 := IntKind.i64.wrap (a1 + 1);
 let t11 := IntKind.i64.wrap (b2 - 1);
 (loop (slices_partitionCmpFunc_int_loop3 a1 w9 t11) (t10, b5)).bind (fun p21 =>
 let i22 := p21.1;
 let b23 := p21.2;
 (loop (slices_partitionCmpFunc_int_loop5 a1 w9 i22) (t11, b23)).bind (fun p33 =>
 let j34 := p33.1;
 let b35 := p33.2;
 (if (decide (i22 > j34)) = true then
 (if 0 ≤ a1 ∧ a1 < (w9.length : Int) then
 let t36 : Int := rd w9 a1;
 (if 0 ≤ j34 ∧ j34 < (w9.length : Int) then
 let t37 : Int := rd w9 j34;
 (if 0 ≤ j34 ∧ j34 < (w9.length : Int) then
 let w38 : List Int := w9.set j34.toNat t36;
 (if 0 ≤ a1 ∧ a1 < (w38.length : Int) then
 let w39 : List Int := w38.set a1.toNat t37;
 some (j34, true, w39, b35)
 else
 none)
 else
 none)
 else
 none)
 else
 none)
 else
 (if 0 ≤ j34 ∧ j34 < (w9.length : Int) then
 let t40 : Int := rd w9 j34;
 (if 0 ≤ i22 ∧ i22 < (w9.length : Int) then
 let t41 : Int := rd w9 i22;
 (if 0 ≤ i22 ∧ i22 < (w9.length : Int) then
 let w42 : List Int := w9.set i22.toNat t40;
 (if 0 ≤ j34 ∧ j34 < (w42.length : Int) then
 let w43 : List Int := w42.set j34.toNat t41;
 let t44 := IntKind.i64.wrap (i22 + 1);
 let t45 := IntKind.i64.wrap (j34 - 1);
 (loop (slices_partitionCmpFunc_int_loop1000013 a1) (t44, t45, w43, b35)).bind (fun p81 =>
 let j82 := p81.1;
 let b83 := p81.2.1;
 let b84 := p81.2.2;
 (if 0 ≤ a1 ∧ a1 < (b83.length : Int) then
 let t85 : Int := rd b83 a1;
 (if 0 ≤ j82 ∧ j82 < (b83.length : Int) then
 let t86 : Int := rd b83 j82;
 (if 0 ≤ j82 ∧ j82 < (b83.length : Int) then
 let w87 : List Int := b83.set j82.toNat t85;
 (if 0 ≤ a1 ∧ a1 < (w87.length : Int) then
 let w88 : List Int := w87.set a1.toNat t86;
 some (j82, false, w88, b84)
 else
 none)
 else
 none)
 else
 none)
 else
 none))
 else
 none)
 else
 none)
 else
 none)
 else
 none))))
 else
 none)
 else
 none)
 else
 none)
 else
 none) := (call_eq ..).trans (by kernel_rfl)

noncomputable def slices_siftDownCmpFunc_int_loop1 (hi2 first3 : Int) (s6 : Int × (List Int) × (List Int)) : Option ((Int × (List Int) × (List Int)) ⊕ (((List Int) × (List Int)) ⊕ ((List Int) × (List Int)))) :=
 let root7 := s6.1;
 let b8 := s6.2.1;
 let b9 := s6.2.2;
 let t10 := IntKind.i64.wrap (2 * root7);
 let t11 := IntKind.i64.wrap (t10 + 1);
 (if (decide (t11 ≥ hi2)) = true then
 some (Sum.inr (Sum.inl (b8, b9)))
 else
 (let t12 := IntKind.i64.wrap (t11 + 1);
 (if (decide (t12 < hi2)) = true then
 let t13 := IntKind.i64.wrap (first3 + t11);
 (if 0 ≤ t13 ∧ t13 < (b8.length : Int) then
 let t14 : Int := rd b8 t13;
 let t15 := IntKind.i64.wrap (first3 + t11);
 let t16 := IntKind.i64.wrap (t15 + 1);
 (if 0 ≤ t16 ∧ t16 < (b8.length : Int) then
 let t17 : Int := rd b8 t16;
 (sort_suffixes_1 t14 t17 b9).bind fun q18 =>
 let tr19 := q18.1;
 let tr20 := q18.2;
 some (decide (tr19 < 0), tr20)
 else
 none)
 else
 none)
 else
 some (false, b9)) : Option (Bool × (List Int))).bind (fun p21 =>
 let v22 := p21.1;
 let b23 := p21.2;
 ((if v22 = true then
 let t24 := IntKind.i64.wrap (t11 + 1);
 some t24
 else
 some t11) : Option (Int)).bind (fun child25 =>
 let t26 := IntKind.i64.wrap (first3 + root7);
 (if 0 ≤ t26 ∧ t26 < (b8.length : Int) then
 let t27 : Int := rd b8 t26;
 let t28 := IntKind.i64.wrap (first3 + child25);
 (if 0 ≤ t28 ∧ t28 < (b8.length : Int) then
 let t29 : Int := rd b8 t28;
 (sort_suffixes_1 t27 t29 b23).bind fun q30 =>
 let tr31 := q30.1;
 let tr32 := q30.2;
 (if (!(decide (tr31 < 0))) = true then
 some (Sum.inr (Sum.inr (b8, tr32)))
 else
 let t33 := IntKind.i64.wrap (first3 + root7);
 let t34 := IntKind.i64.wrap (first3 + child25);
 let t35 := IntKind.i64.wrap (first3 + child25);
 (if 0 ≤ t35 ∧ t35 < (b8.length : Int) then
 let t36 : Int := rd b8 t35;
 let t37 := IntKind.i64.wrap (first3 + root7);
 (if 0 ≤ t37 ∧ t37 < (b8.length : Int) then
 let t38 : Int := rd b8 t37;
 (if 0 ≤ t33 ∧ t33 < (b8.length : Int) then
 let w39 : List Int := b8.set t33.toNat t36;
 (if 0 ≤ t34 ∧ t34 < (w39.length : Int) then
 let w40 : List Int := w39.set t34.toNat t38;
 some (Sum.inl (child25, w40, tr32))
 else
 none)
 else
 none)
 else
 none)
 else
 none))
 else
 none)
 else
 none))))
theorem slices_siftDownCmpFunc_int_eq (lo1 hi2 first3 : Int) (b4 b5 : List Int) : slices_siftDownCmpFunc_int lo1 hi2 first3 b4 b5 =
 (loop (slices_siftDownCmpFunc_int_loop1 hi2 first3) (lo1, b4, b5)).bind (fun o47 =>
 (Sum.elim (fun (p41 : (List Int) × (List Int)) =>
 let b42 := p41.1;
 let b43 := p41.2;
 some (b42, b43))
 (fun (p44 : (List Int) × (List Int)) =>
 let b45 := p44.1;
 let b46 := p44.2;
 some (b45, b46)) o47)) := (call_eq ..).trans (by kernel_rfl)

theorem slices_nextPowerOfTwo_eq (length1 : Int) : slices_nextPowerOfTwo length1 =
 let t2 := IntKind.u64.wrap length1;
 (math_bits_Len t2).bind fun q3 =>
 (if q3 < 0 then
 none
 else
 let t4 := ishl .u64 1 q3;
 some t4) := (call_eq ..).trans (by kernel_rfl)

theorem slices_xorshift_Next_eq (b1 : Int) : slices_xorshift_Next b1 =
 let t2 := ishl .u64 b1 13;
 let t3 := ixor .u64 b1 t2;
 let t4 := ishr .u64 t3 7;
 let t5 := ixor .u64 t3 t4;
 let t6 := ishl .u64 t5 17;
 let t7 := ixor .u64 t5 t6;
 some (t7, t7) := (call_eq ..).trans (by kernel_rfl)

theorem slices_medianAdjacentCmpFunc_int_eq (a1 : Int) (b2 : List Int) (b3 : Int) (b4 : List Int) : slices_medianAdjacentCmpFunc_int a1 b2 b3 b4 =
 let t5 := IntKind.i64.wrap (a1 - 1);
 let t6 := IntKind.i64.wrap (a1 + 1);
 (slices_medianCmpFunc_int t5 a1 t6 b2 b3 b4).bind fun q7 =>
 let tr8 := q7.1;
 let tr9 := q7.2.1;
 let tr10 := q7.2.2.1;
 let tr11 := q7.2.2.2;
 some (tr8, tr9, tr10, tr11) := (call_eq ..).trans (by kernel_rfl)

theorem slices_medianCmpFunc_int_eq (a1 b2 c3 : Int) (b4 : List Int) (b5 : Int) (b6 : List Int) : slices_medianCmpFunc_int a1 b2 c3 b4 b5 b6 =
 (slices_order2CmpFunc_int a1 b2 b4 b5 b6).bind fun q7 =>
 let tr8 := q7.1;
 let tr9 := q7.2.1;
 let tr10 := q7.2.2.1;
 let tr11 := q7.2.2.2.1;
 let tr12 := q7.2.2.2.2;
 (slices_order2CmpFunc_int tr9 c3 tr10 tr11 tr12).bind fun q13 =>
 let tr14 := q13.1;
 let tr15 := q13.2.1;
 let tr16 := q13.2.2.1;
 let tr17 := q13.2.2.2.1;
 let tr18 := q13.2.2.2.2;
 (slices_order2CmpFunc_int tr8 tr14 tr16 tr17 tr18).bind fun q19 =>
 let tr20 := q19.1;
 let tr21 := q19.2.1;
 let tr22 := q19.2.2.1;
 let tr23 := q19.2.2.2.1;
 let tr24 := q19.2.2.2.2;
 some (tr21, tr22, tr23, tr24) := (call_eq ..).trans (by kernel_rfl)

theorem bytes_Compare_eq (a1 b2 : List Int) : bytes_Compare a1 b2 =
 let t3 : Int := cmpI a1 b2;
 some t3 := (call_eq ..).trans (by kernel_rfl)

theorem slices_order2CmpFunc_int_eq (a1 b2 : Int) (b3 : List Int) (b4 : Int) (b5 : List Int) : slices_order2CmpFunc_int a1 b2 b3 b4 b5 =
 (if 0 ≤ b2 ∧ b2 < (b3.length : Int) then
 let t6 : Int := rd b3 b2;
 (if 0 ≤ a1 ∧ a1 < (b3.length : Int) then
 let t7 : Int := rd b3 a1;
 (sort_suffixes_1 t6 t7 b5).bind fun q8 =>
 let tr9 := q8.1;
 let tr10 := q8.2;
 (if (decide (tr9 < 0)) = true then
 let t11 := IntKind.i64.wrap (b4 + 1);
 some (b2, a1, b3, t11, tr10)
 else
 some (a1, b2, b3, b4, tr10))
 else
 none)
 else
 none) := (call_eq ..).trans (by kernel_rfl)
end
end Go.Proofs.YthnonplijagpdaaGreat.P
