import Derived.Test.YtcphcfknnfibmaaGreatG
import Derived.Test.YtcphcfknnfibmaaGreatF5
namespace Go.Proofs.YtcphcfknnfibmaaGreat.P
open Go Go.IntKind Go.Proofs.YtcphcfknnfibmaaGreat.V
set_option linter.unusedVariables false
set_option linter.unusedSimpArgs false
set_option maxRecDepth 100000
noncomputable section
noncomputable def Z0l13 (b1 : List File) (tr15 : List Int) (tr18 : List File) (i21 : Int) : Option ((Int) ⊕ ((Unit) ⊕ (Bool))) :=
 (if (decide (i21 < ((tr18.length : Nat) : Int))) = true then
 (if 0 <= i21 ∧ i21 < (tr18.length : Int) then
 (tr18[i21.toNat]?).bind fun e22 =>
 (if 0 <= i21 then
 (b1[i21.toNat]?).bind fun e23 =>
 (if 0 <= i21 then
 (b1[i21.toNat]?).bind fun e24 =>
 (Z8 e22.name e22.kind e22.data e23.name e24.kind []).bind fun q25 =>
 (if (!q25) = true then
 some (Sum.inr (Sum.inr false))
 else
 (if 0 <= i21 ∧ i21 < (tr15.length : Int) then
 (if 0 <= i21 then
 (b1[i21.toNat]?).bind fun e26 =>
 (if (!decide (rd tr15 i21 = ((e26.data.length : Nat) : Int))) = true then
 some (Sum.inr (Sum.inr false))
 else
 let t27 := i64.wrap (i21 + 1);
 some (Sum.inl t27))
 else
 none)
 else
 none))
 else
 none)
 else
 none)
 else
 none)
 else
 some (Sum.inr (Sum.inl ())))
theorem Z0_eq (b1 : List File) (b2 : List Outline) : Z0 b1 b2 =
 (Z1 b1 b2).bind fun q3 =>
 (if q3 = true then
 (Z2).bind fun q4 =>
 some q4
 else
 (Z3 b1 b2).bind fun q5 =>
 (Z4 b1 b2).bind fun q8 =>
 ((if (!decide (q5.2 = q8.2)) = true then
 some true
 else
 (Z5 q5.1 q8.1).bind fun q11 =>
 some (!q11)) : Option (Bool)).bind (fun v12 =>
 (if v12 = true then
 some false
 else
 (if (!decide (q5.2 = 0)) = true then
 (Z2).bind fun q13 =>
 some q13
 else
 (Z6 q5.1).bind fun q14 =>
 ((if (!decide (q14.2.2.1 = 0)) = true then
 some true
 else
 (if (!decide (((q14.2.2.2.length : Nat) : Int) = ((b1.length : Nat) : Int))) = true then
 some true
 else
 (if (!decide (((q14.1.length : Nat) : Int) = ((b1.length : Nat) : Int))) = true then
 some true
 else
 (Z7 q14.2.1 b2).bind fun q19 =>
 some (!q19)))) : Option (Bool)).bind (fun v20 =>
 (if v20 = true then
 some false
 else
 (loop (Z0l13 b1 q14.1 q14.2.2.2) 0).bind (fun o33 =>
 (Sum.elim (fun (p31 : Unit) =>
 (Z2).bind fun q34 =>
 some q34)
 (fun (v32 : Bool) =>
 some v32) o33)))))))) := (B0 ..).trans (by kernel_rfl)
noncomputable def Z1l3 (b1 : List File) (s3 : Int × Int) : Option ((Int × Int) ⊕ (Int)) :=
 (if (decide (s3.2 < ((b1.length : Nat) : Int))) = true then
 let t6 := i64.wrap (s3.1 + 20);
 (if 0 <= s3.2 then
 (b1[s3.2.toNat]?).bind fun e7 =>
 let t8 := i64.wrap (t6 + ((e7.data.length : Nat) : Int));
 (if 0 <= s3.2 then
 (b1[s3.2.toNat]?).bind fun e9 =>
 let t10 := i64.wrap (t8 + ((e9.name.length : Nat) : Int));
 let t11 := i64.wrap (s3.2 + 1);
 some (Sum.inl (t10, t11))
 else
 none)
 else
 none)
 else
 some (Sum.inr s3.1))
theorem Z1_eq (b1 : List File) (b2 : List Outline) : Z1 b1 b2 =
 (loop (Z1l3 b1) (0, 0)).bind (fun n15 =>
 (if (decide (n15 > 5000)) = true then
 some true
 else
 (Z9 b2 40 3000).bind fun q16 =>
 some (decide (q16 < 0)))) := (B0 ..).trans (by kernel_rfl)
noncomputable def Z2_b (Z10 : type_of% @Z10) (Z11 : type_of% @Z11) (Z12 : type_of% @Z12) : Option Bool :=
 (Z10 [] []).bind fun q1 =>
 (Z11 q1.1).bind fun q4 =>
 (Z12 q4.1 q4.2.1 0 [97] 2 []).bind fun q8 =>
 (if (decide (q1.2 = 0)) = true then
 (if (decide (((q1.1.length : Nat) : Int) > 8)) = true then
 (if (decide (q4.2.2 = 0)) = true then
 (if (decide (q8.2.2 = 0)) = true then
 some (decide (((q8.1.length : Nat) : Int) = 1))
 else
 some false)
 else
 some false)
 else
 some false)
 else
 some false)
theorem Z2_eq : Z2 = Z2_b @Z10 @Z11 @Z12 := (B0 ..).trans (by kernel_rfl)
noncomputable def Z3l5_b (Z14 : type_of% @Z14) (b1 : List File) (s5 : Int × (List Int)) : Option ((Int × (List Int)) ⊕ ((List Int))) :=
 (if (decide (s5.1 < ((b1.length : Nat) : Int))) = true then
 (if 0 <= s5.1 then
 (b1[s5.1.toNat]?).bind fun e8 =>
 let t9 := u8.wrap e8.kind;
 (if (s5.2.length + ([t9] : List Int).length) * 1 <= 140737488355328 then
 let t10 : List Int := s5.2 ++ [t9];
 (Z14 ((e8.name.length : Nat) : Int) e8.name).bind fun q11 =>
 (if (t10.length + q11.length) * 1 <= 140737488355328 then
 let t12 : List Int := t10 ++ q11;
 (Z14 ((e8.data.length : Nat) : Int) []).bind fun q13 =>
 (if (t12.length + q13.length) * 1 <= 140737488355328 then
 let t14 : List Int := t12 ++ q13;
 let t15 := i64.wrap (s5.1 + 1);
 some (Sum.inl (t15, t14))
 else
 none)
 else
 none)
 else
 none)
 else
 none)
 else
 some (Sum.inr s5.2))
noncomputable def Z3l5 := Z3l5_b @Z14
noncomputable def Z3_b (Z13 : type_of% @Z13) (Z14 : type_of% @Z14) (loop : type_of% @loop) (Z3l5 : type_of% @Z3l5) (Z15 : type_of% @Z15) (Z16 : type_of% @Z16) (b1 : List File) (b2 : List Outline) : Option ((List Int) × Int) :=
 (Z13 b1 b2).bind fun q3 =>
 (if (!q3) = true then
 some ([], 110)
 else
 (Z14 ((b1.length : Nat) : Int) []).bind fun q4 =>
 (loop (Z3l5 b1) (0, q4)).bind (fun out19 =>
 (Z15 b2).bind fun q20 =>
 (if (out19.length + q20.1.length) * 1 <= 140737488355328 then
 let t23 : List Int := out19 ++ q20.1;
 (Z16 t23).bind fun q24 =>
 some (q24.1, q24.2)
 else
 none)))
theorem Z3_eq b1 b2 : Z3 b1 b2 = Z3_b @Z13 @Z14 @loop @Z3l5 @Z15 @Z16 b1 b2 := (B0 ..).trans (by kernel_rfl)
noncomputable def Z4l5 (b1 : List File) (s5 : Int × (List Int)) : Option ((Int × (List Int)) ⊕ ((List Int))) :=
 (if (decide (s5.1 < ((b1.length : Nat) : Int))) = true then
 (if 0 <= s5.1 then
 (b1[s5.1.toNat]?).bind fun e8 =>
 let t9 := u8.wrap e8.kind;
 (if (s5.2.length + ([t9] : List Int).length) * 1 <= 140737488355328 then
 let t10 : List Int := s5.2 ++ [t9];
 (Z18 ((e8.name.length : Nat) : Int)).bind fun q11 =>
 (if (t10.length + q11.length) * 1 <= 140737488355328 then
 let t12 : List Int := t10 ++ q11;
 (if (t12.length + e8.name.length) * 1 <= 140737488355328 then
 let t13 : List Int := t12 ++ e8.name;
 (Z18 ((e8.data.length : Nat) : Int)).bind fun q14 =>
 (if (t13.length + q14.length) * 1 <= 140737488355328 then
 let t15 : List Int := t13 ++ q14;
 let t16 := i64.wrap (s5.1 + 1);
 some (Sum.inl (t16, t15))
 else
 none)
 else
 none)
 else
 none)
 else
 none)
 else
 none)
 else
 some (Sum.inr s5.2))
theorem Z4_eq (b1 : List File) (b2 : List Outline) : Z4 b1 b2 =
 (Z17 b1 b2).bind fun q3 =>
 (if (!q3) = true then
 some ([], 110)
 else
 (Z18 ((b1.length : Nat) : Int)).bind fun q4 =>
 (loop (Z4l5 b1) (0, q4)).bind (fun out20 =>
 (Z19 b2).bind fun q21 =>
 (if (out20.length + q21.1.length) * 1 <= 140737488355328 then
 let t24 : List Int := out20 ++ q21.1;
 (Z20 t24).bind fun q25 =>
 some (q25.1, q25.2)
 else
 none))) := (B0 ..).trans (by kernel_rfl)
theorem Z5_eq (a1 b2 : List Int) : Z5 a1 b2 =
 some (decide (a1 = b2)) := (B0 ..).trans (by kernel_rfl)
noncomputable def Z6l10_b (Z24 : type_of% @Z24) (tr6 : Int) (s15 : Int × (List Int) × Int × Int × (List File) × (List Int)) : Option ((Int × (List Int) × Int × Int × (List File) × (List Int)) ⊕ ((List Int) × Int × Int × (List File) × (List Int))) :=
 let b19 := s15.2.2.2.1;
 (if (decide (s15.1 < tr6)) = true then
 (if (!decide (b19 = 0)) = true then
 some (Sum.inr (s15.2.1, s15.2.2.1, b19, s15.2.2.2.2.1, s15.2.2.2.2.2))
 else
 (Z24 s15.2.1 s15.2.2.1 b19).bind fun q22 =>
 (if (s15.2.2.2.2.1.length + ([(File.mk q22.1 q22.2.1 q22.2.2.1)] : List File).length) * 48 <= 140737488355328 then
 let t30 : List File := s15.2.2.2.2.1 ++ [(File.mk q22.1 q22.2.1 q22.2.2.1)];
 (if (s15.2.2.2.2.2.length + ([q22.2.2.2.1] : List Int).length) * 8 <= 140737488355328 then
 let t31 : List Int := s15.2.2.2.2.2 ++ [q22.2.2.2.1];
 let t32 := i64.wrap (s15.1 + 1);
 some (Sum.inl (t32, q22.2.2.2.2.1, q22.2.2.2.2.2.1, q22.2.2.2.2.2.2, t30, t31))
 else
 none)
 else
 none))
 else
 some (Sum.inr (s15.2.1, s15.2.2.1, b19, s15.2.2.2.2.1, s15.2.2.2.2.2)))
noncomputable def Z6l10 := Z6l10_b @Z24
noncomputable def Z6l21_b (Z26 : type_of% @Z26) (files45 : List File) (v51 : Int) : Option ((Int) ⊕ ((Unit) ⊕ ((List Int) × (List Outline) × Int × (List File)))) :=
 (if (decide (v51 < ((files45.length : Nat) : Int))) = true then
 (if 0 <= v51 ∧ v51 < (files45.length : Int) then
 (files45[v51.toNat]?).bind fun e52 =>
 (if 0 <= v51 ∧ v51 <= ((files45.length : Nat) : Int) then
 (Z26 ((files45.drop 0).take (v51.toNat - 0)) e52.name).bind fun q53 =>
 (if (decide (q53 ≥ 0)) = true then
 some (Sum.inr (Sum.inr ([], [], 8, [])))
 else
 let t54 := i64.wrap (v51 + 1);
 some (Sum.inl t54))
 else
 none)
 else
 none)
 else
 some (Sum.inr (Sum.inl ())))
noncomputable def Z6l21 := Z6l21_b @Z26
noncomputable def Z6_b (Z21 : type_of% @Z21) (Z22 : type_of% @Z22) (Z23 : type_of% @Z23) (loop : type_of% @loop) (Z6l10 : type_of% @Z6l10) (Z25 : type_of% @Z25) (Z6l21 : type_of% @Z6l21) (d1 : List Int) : Option ((List Int) × (List Outline) × Int × (List File)) :=
 (Z21 d1).bind fun q2 =>
 (if (!decide (q2.2 = 0)) = true then
 some ([], [], q2.2, [])
 else
 (Z22 q2.1 0 0).bind fun q5 =>
 (Z23 (decide (q5.1 <= 40)) 4 q5.2.1 q5.2.2.1 q5.2.2.2).bind fun q10 =>
 (loop (Z6l10 q5.1) (0, q10.2.1, q10.2.2.1, q10.2.2.2, [], [])).bind (fun p41 =>
 (if (!decide (p41.2.2.1 = 0)) = true then
 some ([], [], p41.2.2.1, [])
 else
 (if 0 <= p41.2.1 ∧ p41.2.1 <= ((q2.1.length : Nat) : Int) then
 let t47 : List Int := cutL q2.1 p41.2.1.toNat q2.1.length;
 (Z25 t47).bind fun q48 =>
 (if (!decide (q48.2 = 0)) = true then
 some ([], [], q48.2, [])
 else
 (loop (Z6l21 p41.2.2.2.1) 0).bind (fun o64 =>
 (Sum.elim (fun (p58 : Unit) =>
 some (p41.2.2.2.2, q48.1, 0, p41.2.2.2.1))
 (fun (p59 : (List Int) × (List Outline) × Int × (List File)) =>
 some (p59.1, p59.2.1, p59.2.2.1, p59.2.2.2)) o64)))
 else
 none))))
theorem Z6_eq d1 : Z6 d1 = Z6_b @Z21 @Z22 @Z23 @loop @Z6l10 @Z25 @Z6l21 d1 := (B0 ..).trans (by kernel_rfl)
noncomputable def Z7l4 (a1 b2 : List Outline) (i3 : Int) : Option ((Int) ⊕ ((Unit) ⊕ (Bool))) :=
 (if (decide (i3 < ((a1.length : Nat) : Int))) = true then
 (if 0 <= i3 then
 (a1[i3.toNat]?).bind fun e4 =>
 (if 0 <= i3 then
 (b2[i3.toNat]?).bind fun e5 =>
 (if (!decide (e4.title = e5.title)) = true then
 some (Sum.inr (Sum.inr false))
 else
 (if 0 <= i3 then
 (a1[i3.toNat]?).bind fun e6 =>
 (if 0 <= i3 then
 (b2[i3.toNat]?).bind fun e7 =>
 (if (!decide (e6.page = e7.page)) = true then
 some (Sum.inr (Sum.inr false))
 else
 (if 0 <= i3 then
 (a1[i3.toNat]?).bind fun e8 =>
 (if 0 <= i3 then
 (b2[i3.toNat]?).bind fun e9 =>
 (Z7 e8.kids e9.kids).bind fun q10 =>
 (if (!q10) = true then
 some (Sum.inr (Sum.inr false))
 else
 let t11 := i64.wrap (i3 + 1);
 some (Sum.inl t11))
 else
 none)
 else
 none))
 else
 none)
 else
 none))
 else
 none)
 else
 none)
 else
 some (Sum.inr (Sum.inl ())))
theorem Z7_eq (a1 b2 : List Outline) : Z7 a1 b2 =
 (if (!decide (((a1.length : Nat) : Int) = ((b2.length : Nat) : Int))) = true then
 some false
 else
 (loop (Z7l4 a1 b2) 0).bind (fun o17 =>
 (Sum.elim (fun (p15 : Unit) =>
 some true)
 (fun (v16 : Bool) =>
 some v16) o17))) := (B0 ..).trans (by kernel_rfl)
theorem Z8_eq (a1 : List Int) (a2 : Int) (a3 b4 : List Int) (b5 : Int) (b6 : List Int) : Z8 a1 a2 a3 b4 b5 b6 =
 (if (decide (a1 = b4)) = true then
 (if (decide (a2 = b5)) = true then
 some (decide (a3 = b6))
 else
 some false)
 else
 some false) := (B0 ..).trans (by kernel_rfl)
noncomputable def Z9l4 (l1 : List Outline) (deep2 : Int) (s4 : Int × Int) : Option ((Int × Int) ⊕ (Int)) :=
 ((if (decide (s4.2 < ((l1.length : Nat) : Int))) = true then
 some (decide (s4.1 ≥ 0))
 else
 some false) : Option (Bool)).bind (fun v7 =>
 (if v7 = true then
 (if 0 <= s4.2 then
 (l1[s4.2.toNat]?).bind fun e8 =>
 let t9 := i64.wrap (deep2 - 1);
 let t10 := i64.wrap (s4.1 - 1);
 (if 0 <= s4.2 then
 (l1[s4.2.toNat]?).bind fun e11 =>
 let t12 := i64.wrap (t10 - ((e11.title.length : Nat) : Int));
 (Z9 e8.kids t9 t12).bind fun q13 =>
 let t14 := i64.wrap (s4.2 + 1);
 some (Sum.inl (q13, t14))
 else
 none)
 else
 none)
 else
 some (Sum.inr s4.1)))
theorem Z9_eq (l1 : List Outline) (deep2 left3 : Int) : Z9 l1 deep2 left3 =
 (if (decide (deep2 = 0)) = true then
 some (-1)
 else
 (loop (Z9l4 l1 deep2) (left3, 0)).bind (fun left15 =>
 some left15)) := (B0 ..).trans (by kernel_rfl)
noncomputable def Z10_b (Z27 : type_of% @Z27) (b1 : List File) (b2 : List Outline) : Option ((List Int) × Int) :=
 (Z27 [66, 79, 79, 75] b1 b2 b1).bind fun q3 =>
 some (q3.1, q3.2)
theorem Z10_eq b1 b2 : Z10 b1 b2 = Z10_b @Z27 b1 b2 := (B0 ..).trans (by kernel_rfl)
noncomputable def Z11l8_b (Z30 : type_of% @Z30) (tr3 : List Chunk) (s7 : Int × (List Outline) × (List Entuint8) × (List File) × (List Int) × (List Outline) × (List File)) : Option ((Int × (List Outline) × (List Entuint8) × (List File) × (List Int) × (List Outline) × (List File)) ⊕ (((List Outline) × (List Entuint8) × (List File) × (List Int) × (List Outline) × (List File)) ⊕ (Int × (List Outline) × (List Entuint8) × (List File) × (List Int) × (List Outline) × (List File)))) :=
 (if (decide (s7.1 < ((tr3.length : Nat) : Int))) = true then
 (if 0 <= s7.1 then
 (tr3[s7.1.toNat]?).bind fun e15 =>
 (Z30 e15.id e15.kind e15.data e15.kids s7.2.2.2.1 s7.2.2.2.2.1 s7.2.2.2.2.2.1 s7.2.2.1).bind fun q16 =>
 (if (!decide (q16.1 = 0)) = true then
 some (Sum.inr (Sum.inr (q16.1, [], q16.2.2.2.2, q16.2.1, q16.2.2.1, q16.2.2.2.1, [])))
 else
 let t22 := i64.wrap (s7.1 + 1);
 some (Sum.inl (t22, s7.2.1, q16.2.2.2.2, q16.2.1, q16.2.2.1, q16.2.2.2.1, s7.2.2.2.2.2.2)))
 else
 none)
 else
 some (Sum.inr (Sum.inl (s7.2.1, s7.2.2.1, s7.2.2.2.1, s7.2.2.2.2.1, s7.2.2.2.2.2.1, s7.2.2.2.2.2.2))))
noncomputable def Z11l8 := Z11l8_b @Z30
noncomputable def Z11l15 (b34 : List Entuint8) (b35 : List File) (b36 : List Int) (s48 : Int × (List Outline) × (List File)) : Option ((Int × (List Outline) × (List File)) ⊕ (((List Outline) × (List File)) ⊕ (Int × (List Outline) × (List File) × (List File)))) :=
 (if (decide (s48.1 < ((b35.length : Nat) : Int))) = true then
 (if 0 <= s48.1 then
 (b35[s48.1.toNat]?).bind fun e52 =>
 let f53 : Option Entuint8 := findM (fun (e : Entuint8) => KV.str e.key) (KV.str e52.name) b34;
 let e54 : Entuint8 := f53.getD (Entuint8.mk e52.name []);
 ((if (!f53.isSome) = true then
 some true
 else
 (if 0 <= s48.1 ∧ s48.1 < (b36.length : Int) then
 some (!decide (((e54.val.length : Nat) : Int) = rd b36 s48.1))
 else
 none)) : Option (Bool)).bind (fun v55 =>
 (if v55 = true then
 some (Sum.inr (Sum.inr (110, [], s48.2.2, [])))
 else
 (if 0 <= s48.1 then
 (b35[s48.1.toNat]?).bind fun e56 =>
 none
 else
 none)))
 else
 none)
 else
 some (Sum.inr (Sum.inl (s48.2.1, s48.2.2))))
noncomputable def Z11_b (Z28 : type_of% @Z28) (Z29 : type_of% @Z29) (loop : type_of% @loop) (Z11l8 : type_of% @Z11l8) (Z11l15 : type_of% @Z11l15) (b1 : List Int) : Option ((List File) × (List Outline) × Int) :=
 (Z28 b1).bind fun q2 =>
 (if (!decide (q2.2.2 = 0)) = true then
 some ([], [], q2.2.2)
 else
 (Z29 q2.1).bind fun q6 =>
 (if (!q6) = true then
 some ([], [], 3)
 else
 (loop (Z11l8 q2.1) (0, [], [], [], [], [], [])).bind (fun o47 =>
 (Sum.elim (fun (p32 : (List Outline) × (List Entuint8) × (List File) × (List Int) × (List Outline) × (List File)) =>
 (loop (Z11l15 p32.2.1 p32.2.2.1 p32.2.2.2.1) (0, p32.1, p32.2.2.2.2.2)).bind (fun o70 =>
 (Sum.elim (fun (p62 : (List Outline) × (List File)) =>
 some (p32.2.2.1, p32.2.2.2.2.1, 0))
 (fun (p65 : Int × (List Outline) × (List File) × (List File)) =>
 some (p65.2.2.2, p65.2.1, p65.1)) o70)))
 (fun (p39 : Int × (List Outline) × (List Entuint8) × (List File) × (List Int) × (List Outline) × (List File)) =>
 some (p39.2.2.2.2.2.2, p39.2.1, p39.1)) o47))))
theorem Z11_eq b1 : Z11 b1 = Z11_b @Z28 @Z29 @loop @Z11l8 @Z11l15 b1 := (B0 ..).trans (by kernel_rfl)
noncomputable def Z12_b (Z13 : type_of% @Z13) (Z31 : type_of% @Z31) (Z26 : type_of% @Z26) (Z32 : type_of% @Z32) (Z33 : type_of% @Z33) (Z34 : type_of% @Z34) (b1 : List File) (b2 : List Outline) (at3 : Int) (f4 : List Int) (f5 : Int) (f6 : List Int) : Option ((List File) × (List Outline) × Int) :=
 (Z13 b1 b2).bind fun q7 =>
 ((if (!q7) = true then
 some (Sum.inr (110, [], []))
 else
 ((Z31 f4 f5 f6).bind fun q8 =>
 (if (!q8) = true then
 some true
 else
 (if (decide (at3 < 0)) = true then
 some true
 else
 some (decide (at3 > ((b1.length : Nat) : Int))))) : Option (Bool)).bind (fun v9 =>
 (if v9 = true then
 some (Sum.inr (2, [], []))
 else
 (Z26 b1 f4).bind fun q10 =>
 (if (decide (q10 ≥ 0)) = true then
 some (Sum.inr (8, [], []))
 else
 (if (decide (((b1.length : Nat) : Int) = 40)) = true then
 some (Sum.inr (4, [], []))
 else
 some (Sum.inl ([], []))))))) : Option (((List Outline) × (List File)) ⊕ (Int × (List Outline) × (List File)))).bind (fun o18 =>
 (Sum.elim (fun (p11 : (List Outline) × (List File)) =>
 (Z32 b1 b2).bind fun q19 =>
 (Z33 f6).bind fun q22 =>
 (Z34 at3 [(File.mk f4 f5 q22)] q19.2).bind fun q23 =>
 some (q23, q19.1, 0))
 (fun (p14 : Int × (List Outline) × (List File)) =>
 some (p14.2.2, p14.2.1, p14.1)) o18))
theorem Z12_eq b1 b2 at3 f4 f5 f6 : Z12 b1 b2 at3 f4 f5 f6 = Z12_b @Z13 @Z31 @Z26 @Z32 @Z33 @Z34 b1 b2 at3 f4 f5 f6 := (B0 ..).trans (by kernel_rfl)
noncomputable def Z13l4_b (Z31 : type_of% @Z31) (Z26 : type_of% @Z26) (b1 : List File) (v5 : Int) : Option ((Int) ⊕ ((Unit) ⊕ (Bool))) :=
 (if (decide (v5 < ((b1.length : Nat) : Int))) = true then
 (if 0 <= v5 then
 (b1[v5.toNat]?).bind fun e6 =>
 (Z31 e6.name e6.kind e6.data).bind fun q7 =>
 (if (!q7) = true then
 some (Sum.inr (Sum.inr false))
 else
 (if 0 <= v5 ∧ v5 <= ((b1.length : Nat) : Int) then
 let t8 : List File := cutL b1 0 v5.toNat;
 (Z26 t8 e6.name).bind fun q9 =>
 (if (decide (q9 ≥ 0)) = true then
 some (Sum.inr (Sum.inr false))
 else
 let t10 := i64.wrap (v5 + 1);
 some (Sum.inl t10))
 else
 none))
 else
 none)
 else
 some (Sum.inr (Sum.inl ())))
noncomputable def Z13l4 := Z13l4_b @Z31 @Z26
noncomputable def Z13_b (Z35 : type_of% @Z35) (loop : type_of% @loop) (Z13l4 : type_of% @Z13l4) (b1 : List File) (b2 : List Outline) : Option Bool :=
 ((if (decide (((b1.length : Nat) : Int) > 40)) = true then
 some true
 else
 (Z35 b2).bind fun q3 =>
 some (!q3)) : Option (Bool)).bind (fun v4 =>
 (if v4 = true then
 some false
 else
 (loop (Z13l4 b1) 0).bind (fun o16 =>
 (Sum.elim (fun (p14 : Unit) =>
 some true)
 (fun (v15 : Bool) =>
 some v15) o16))))
theorem Z13_eq b1 b2 : Z13 b1 b2 = Z13_b @Z35 @loop @Z13l4 b1 b2 := (B0 ..).trans (by kernel_rfl)
noncomputable def Z14_b (Z36 : type_of% @Z36) (n1 : Int) (l2 : List Int) : Option (List Int) :=
 (Z36 n1).bind fun q3 =>
 (if (q3.2.length + l2.length) * 1 <= 140737488355328 then
 let t6 : List Int := q3.2 ++ l2;
 some t6
 else
 none)
theorem Z14_eq n1 l2 : Z14 n1 l2 = Z14_b @Z36 n1 l2 := (B0 ..).trans (by kernel_rfl)
noncomputable def Z15_b (Z35 : type_of% @Z35) (Z37 : type_of% @Z37) (l1 : List Outline) : Option ((List Int) × Int) :=
 (Z35 l1).bind fun q2 =>
 (if (!q2) = true then
 some ([], 95)
 else
 (Z37 l1).bind fun q3 =>
 some (q3, 0))
theorem Z15_eq l1 : Z15 l1 = Z15_b @Z35 @Z37 l1 := (B0 ..).trans (by kernel_rfl)
noncomputable def Z16l12_b (Z42 : type_of% @Z42) (Z43 : type_of% @Z43) (tr27 : List Int) (s29 : Int × Int × Int × Int × Int × (List Int) × (List Int)) : Option ((Int × Int × Int × Int × Int × (List Int) × (List Int)) ⊕ (Int × Int × Int × (List Int) × (List Int))) :=
 let v31 := s29.2.1;
 (if (decide (v31 < ((tr27.length : Nat) : Int))) = true then
 (if 0 <= v31 ∧ v31 < (tr27.length : Int) then
 (Z42 s29.1).bind fun q37 =>
 (Z43 q37 false (rd tr27 v31) s29.2.2.1 s29.2.2.2.1 s29.2.2.2.2.1 s29.2.2.2.2.2.1 s29.2.2.2.2.2.2).bind fun q38 =>
 let t45 := i64.wrap (v31 + 1);
 some (Sum.inl (rd tr27 v31, t45, q38.2.1, q38.2.2.1, q38.2.2.2.1, q38.2.2.2.2.1, q38.2.2.2.2.2))
 else
 none)
 else
 some (Sum.inr (s29.2.2.1, s29.2.2.2.1, s29.2.2.2.2.1, s29.2.2.2.2.2.1, s29.2.2.2.2.2.2)))
noncomputable def Z16l12 := Z16l12_b @Z42 @Z43
noncomputable def Z16_b (Z38 : type_of% @Z38) (Z36 : type_of% @Z36) (Z39 : type_of% @Z39) (Z40 : type_of% @Z40) (Z41 : type_of% @Z41) (loop : type_of% @loop) (Z16l12 : type_of% @Z16l12) (Z44 : type_of% @Z44) (text1 : List Int) : Option ((List Int) × Int) :=
 (Z38 text1).bind fun q2 =>
 (if (!decide (q2.2 = 0)) = true then
 some ([], q2.2)
 else
 (Z36 ((text1.length : Nat) : Int)).bind fun q5 =>
 (if (decide (((text1.length : Nat) : Int) = 0)) = true then
 some (q5.2, 0)
 else
 (Z39 0 144).bind fun q8 =>
 ((Z40 q8.1 q8.2.2).bind fun o19 =>
 (Sum.elim (fun (q12 : Int × Int × Int × (List Int) × (List Int)) =>
 some (q12.1, q12.2.1, q12.2.2.1, q12.2.2.2.1, q12.2.2.2.2))
 (fun (q18 : Unit) =>
 none) o19) : Option (Int × Int × Int × (List Int) × (List Int))).bind (fun p20 =>
 (Z41 q2.1).bind fun q26 =>
 (loop (Z16l12 q26.1) (0, 0, p20.1, p20.2.1, p20.2.2.1, p20.2.2.2.1, p20.2.2.2.2)).bind (fun p55 =>
 (Z44 p55.1 p55.2.1 p55.2.2.1 p55.2.2.2.1 p55.2.2.2.2).bind fun q61 =>
 (if (q5.2.length + q61.1.length) * 1 <= 140737488355328 then
 let t68 : List Int := q5.2 ++ q61.1;
 some (t68, 0)
 else
 none)))))
theorem Z16_eq text1 : Z16 text1 = Z16_b @Z38 @Z36 @Z39 @Z40 @Z41 @loop @Z16l12 @Z44 text1 := (B0 ..).trans (by kernel_rfl)
noncomputable def Z17l2 (b1 : List File) (i3 : Int) : Option ((Int) ⊕ ((Unit) ⊕ (Bool))) :=
 (if (decide (i3 < ((b1.length : Nat) : Int))) = true then
 (if 0 <= i3 then
 (b1[i3.toNat]?).bind fun e4 =>
 (Z45 e4.name e4.kind e4.data).bind fun q5 =>
 (if (!q5) = true then
 some (Sum.inr (Sum.inr false))
 else
 let t6 := i64.wrap (i3 + 1);
 some (Sum.inl t6))
 else
 none)
 else
 some (Sum.inr (Sum.inl ())))
theorem Z17_eq (b1 : List File) (b2 : List Outline) : Z17 b1 b2 =
 (loop (Z17l2 b1) 0).bind (fun o12 =>
 (Sum.elim (fun (p10 : Unit) =>
 (if (decide (((b1.length : Nat) : Int) <= 40)) = true then
 (Z46 b1).bind fun q13 =>
 (if (!q13) = true then
 (Z47 b2).bind fun q14 =>
 some q14
 else
 some false)
 else
 some false))
 (fun (v11 : Bool) =>
 some v11) o12)) := (B0 ..).trans (by kernel_rfl)
theorem Z18_eq (n1 : Int) : Z18 n1 =
 (Z48 n1).bind fun q2 =>
 some q2.2 := (B0 ..).trans (by kernel_rfl)
theorem Z19_eq (l1 : List Outline) : Z19 l1 =
 (Z47 l1).bind fun q2 =>
 (if (!q2) = true then
 some ([], 95)
 else
 (Z49 l1).bind fun q3 =>
 some (q3, 0)) := (B0 ..).trans (by kernel_rfl)
noncomputable def Z20l12 (tr9 : List Int) (s29 : Int × Int × Int × Int × Int × (List Int) × (List Int)) : Option ((Int × Int × Int × Int × Int × (List Int) × (List Int)) ⊕ (Int × Int × Int × (List Int) × (List Int))) :=
 let i31 := s29.2.1;
 (if (decide (i31 < ((tr9.length : Nat) : Int))) = true then
 (Z54 s29.1).bind fun q37 =>
 (if 0 <= i31 ∧ i31 < (tr9.length : Int) then
 (Z55 q37 false (rd tr9 i31) s29.2.2.1 s29.2.2.2.1 s29.2.2.2.2.1 s29.2.2.2.2.2.1 s29.2.2.2.2.2.2).bind fun q38 =>
 (if 0 <= i31 ∧ i31 < (tr9.length : Int) then
 let t45 := i64.wrap (i31 + 1);
 some (Sum.inl (rd tr9 i31, t45, q38.2.1, q38.2.2.1, q38.2.2.2.1, q38.2.2.2.2.1, q38.2.2.2.2.2))
 else
 none)
 else
 none)
 else
 some (Sum.inr (s29.2.2.1, s29.2.2.2.1, s29.2.2.2.2.1, s29.2.2.2.2.2.1, s29.2.2.2.2.2.2)))
theorem Z20_eq (text1 : List Int) : Z20 text1 =
 (Z50 text1).bind fun q2 =>
 (if (!decide (q2.2 = 0)) = true then
 some ([], q2.2)
 else
 (Z48 ((text1.length : Nat) : Int)).bind fun q5 =>
 (if (decide (((text1.length : Nat) : Int) = 0)) = true then
 some (q5.2, 0)
 else
 (Z51 q2.1).bind fun q8 =>
 (Z52 0 144).bind fun q11 =>
 ((Z53 q11.1 q11.2.2).bind fun o22 =>
 (Sum.elim (fun (q15 : Int × Int × Int × (List Int) × (List Int)) =>
 some (q15.1, q15.2.1, q15.2.2.1, q15.2.2.2.1, q15.2.2.2.2))
 (fun (q21 : Unit) =>
 none) o22) : Option (Int × Int × Int × (List Int) × (List Int))).bind (fun p23 =>
 (loop (Z20l12 q8.1) (0, 0, p23.1, p23.2.1, p23.2.2.1, p23.2.2.2.1, p23.2.2.2.2)).bind (fun p55 =>
 (Z56 p55.1 p55.2.1 p55.2.2.1 p55.2.2.2.1 p55.2.2.2.2).bind fun q61 =>
 (if (q5.2.length + q61.1.length) * 1 <= 140737488355328 then
 let t68 : List Int := q5.2 ++ q61.1;
 some (t68, 0)
 else
 none))))) := (B0 ..).trans (by kernel_rfl)
noncomputable def Z21l15_b (Z42 : type_of% @Z42) (Z59 : type_of% @Z59) (t44 : Int) (s45 : Int × Int × Int × Int × Int × (List Int) × Int × Int × Int × Bool × (List Int) × (List Int)) : Option ((Int × Int × Int × Int × Int × (List Int) × Int × Int × Int × Bool × (List Int) × (List Int)) ⊕ ((Int × Int × Int × (List Int) × Int × Int × Int × Bool × (List Int) × (List Int)) ⊕ ((List Int) × Int × Int × Int × Int × (List Int) × Int × Int × Int × Bool × (List Int)))) :=
 let b54 := s45.2.2.2.2.2.2.2.2.1;
 let b55 := s45.2.2.2.2.2.2.2.2.2.1;
 let b56 := s45.2.2.2.2.2.2.2.2.2.2.1;
 let places57 := s45.2.2.2.2.2.2.2.2.2.2.2;
 (if (decide (s45.2.1 < t44)) = true then
 (Z42 s45.1).bind fun q58 =>
 (Z59 q58 s45.2.2.1 s45.2.2.2.1 s45.2.2.2.2.1 s45.2.2.2.2.2.1 s45.2.2.2.2.2.2.1 s45.2.2.2.2.2.2.2.1 b54 b55 b56).bind fun q59 =>
 let tr65 := q59.2.2.2.2.2.1;
 let tr66 := q59.2.2.2.2.2.2.1;
 let tr67 := q59.2.2.2.2.2.2.2.1;
 let tr68 := q59.2.2.2.2.2.2.2.2.1;
 let tr69 := q59.2.2.2.2.2.2.2.2.2.1;
 let tr70 := q59.2.2.2.2.2.2.2.2.2.2.1;
 let tr71 := q59.2.2.2.2.2.2.2.2.2.2.2;
 (if (!decide (q59.2.2.1 = 0)) = true then
 some (Sum.inr (Sum.inr ([], q59.2.2.1, q59.2.2.2.1, q59.2.2.2.2.1, tr65, tr66, tr67, tr68, tr69, tr70, tr71)))
 else
 ((if q59.1 = true then
 some true
 else
 (if (decide (q59.2.1 < 0)) = true then
 some true
 else
 some (decide (q59.2.1 ≥ 257)))) : Option (Bool)).bind (fun v72 =>
 (if v72 = true then
 some (Sum.inr (Sum.inr ([], 3, q59.2.2.2.1, q59.2.2.2.2.1, tr65, tr66, tr67, tr68, tr69, tr70, tr71)))
 else
 (if (places57.length + ([q59.2.1] : List Int).length) * 8 <= 140737488355328 then
 let t73 : List Int := places57 ++ [q59.2.1];
 let t74 := i64.wrap (s45.2.1 + 1);
 some (Sum.inl (q59.2.1, t74, q59.2.2.2.1, q59.2.2.2.2.1, tr65, tr66, tr67, tr68, tr69, tr70, tr71, t73))
 else
 none))))
 else
 some (Sum.inr (Sum.inl (s45.2.2.1, s45.2.2.2.1, s45.2.2.2.2.1, s45.2.2.2.2.2.1, s45.2.2.2.2.2.2.1, s45.2.2.2.2.2.2.2.1, b54, b55, b56, places57))))
noncomputable def Z21l15 := Z21l15_b @Z42 @Z59
noncomputable def Z21_b (Z57 : type_of% @Z57) (Z39 : type_of% @Z39) (Z58 : type_of% @Z58) (loop : type_of% @loop) (Z21l15 : type_of% @Z21l15) (Z60 : type_of% @Z60) (Z61 : type_of% @Z61) (b1 : List Int) : Option ((List Int) × Int) :=
 (Z57 b1 0).bind fun q2 =>
 ((if (!decide (q2.2.2 = 0)) = true then
 some (Sum.inr ([], q2.2.2))
 else
 ((if (decide (q2.1 > 4000)) = true then
 some (Sum.inr ([], 4))
 else
 ((if (decide (q2.1 = 0)) = true then
 some (decide (q2.2.1 < ((b1.length : Nat) : Int)))
 else
 some false) : Option (Bool)).bind (fun v6 =>
 (if v6 = true then
 some (Sum.inr ([], 3))
 else
 (if (decide (q2.1 = 0)) = true then
 some (Sum.inr ([], 0))
 else
 some (Sum.inl ()))))) : Option ((Unit) ⊕ ((List Int) × Int))).bind (fun o11 =>
 (Sum.elim (fun (p7 : Unit) =>
 some (Sum.inl ()))
 (fun (p8 : (List Int) × Int) =>
 some (Sum.inr (p8.1, p8.2))) o11))) : Option ((Unit) ⊕ ((List Int) × Int))).bind (fun o16 =>
 (Sum.elim (fun (p12 : Unit) =>
 (Z39 0 144).bind fun q17 =>
 ((if 0 <= q2.2.1 ∧ q2.2.1 <= ((b1.length : Nat) : Int) then
 let t21 : List Int := cutL b1 q2.2.1.toNat b1.length;
 (Z58 q17.1 q17.2.2 t21).bind fun o33 =>
 (Sum.elim (fun (q22 : Int × Int × Int × (List Int) × Int × Int × Int × Bool × (List Int)) =>
 some (q22.1, q22.2.1, q22.2.2.1, q22.2.2.2.1, q22.2.2.2.2.1, q22.2.2.2.2.2.1, q22.2.2.2.2.2.2.1, q22.2.2.2.2.2.2.2.1, q22.2.2.2.2.2.2.2.2))
 (fun (q32 : Unit) =>
 none) o33)
 else
 none) : Option (Int × Int × Int × (List Int) × Int × Int × Int × Bool × (List Int))).bind (fun p34 =>
 let t44 := i64.wrap (q2.1 + 1);
 (loop (Z21l15 t44) (0, 0, p34.1, p34.2.1, p34.2.2.1, p34.2.2.2.1, p34.2.2.2.2.1, p34.2.2.2.2.2.1, p34.2.2.2.2.2.2.1, p34.2.2.2.2.2.2.2.1, p34.2.2.2.2.2.2.2.2, [])).bind (fun o112 =>
 (Sum.elim (fun (p89 : Int × Int × Int × (List Int) × Int × Int × Int × Bool × (List Int) × (List Int)) =>
 (Z60 p89.2.2.2.2.2.2.2.2.2).bind fun q113 =>
 (Z61 q113.1).bind fun q116 =>
 some (q116.1, q116.2))
 (fun (p100 : (List Int) × Int × Int × Int × Int × (List Int) × Int × Int × Int × Bool × (List Int)) =>
 some (p100.1, p100.2.1)) o112))))
 (fun (p13 : (List Int) × Int) =>
 some (p13.1, p13.2)) o16))
theorem Z21_eq b1 : Z21 b1 = Z21_b @Z57 @Z39 @Z58 @loop @Z21l15 @Z60 @Z61 b1 := (B0 ..).trans (by kernel_rfl)
noncomputable def Z22_b (Z57 : type_of% @Z57) (Z23 : type_of% @Z23) (b1 : List Int) (b2 b3 : Int) : Option (Int × (List Int) × Int × Int) :=
 (if (!decide (b3 = 0)) = true then
 some (0, b1, b2, b3)
 else
 (Z57 b1 b2).bind fun q4 =>
 (Z23 (decide (q4.2.2 = 0)) q4.2.2 b1 b2 b3).bind fun q8 =>
 (if q8.1 = true then
 some (q4.1, q8.2.1, q4.2.1, q8.2.2.2)
 else
 some (q4.1, q8.2.1, q8.2.2.1, q8.2.2.2)))
theorem Z22_eq b1 b2 b3 : Z22 b1 b2 b3 = Z22_b @Z57 @Z23 b1 b2 b3 := (B0 ..).trans (by kernel_rfl)
noncomputable def Z23_b (ok1 : Bool) (err2 : Int) (b3 : List Int) (b4 b5 : Int) : Option (Bool × (List Int) × Int × Int) :=
 ((if (decide (b5 = 0)) = true then
 some (!ok1)
 else
 some false) : Option (Bool)).bind (fun v6 =>
 (if v6 = true then
 some (decide (err2 = 0), b3, b4, err2)
 else
 some (decide (b5 = 0), b3, b4, b5)))
theorem Z23_eq ok1 err2 b3 b4 b5 : Z23 ok1 err2 b3 b4 b5 = Z23_b ok1 err2 b3 b4 b5 := (B0 ..).trans (by kernel_rfl)
noncomputable def Z24_b (Z62 : type_of% @Z62) (Z23 : type_of% @Z23) (Z63 : type_of% @Z63) (Z22 : type_of% @Z22) (b1 : List Int) (b2 b3 : Int) : Option ((List Int) × Int × (List Int) × Int × (List Int) × Int × Int) :=
 (Z62 1 b1 b2 b3).bind fun q4 =>
 ((if (decide (((q4.1.length : Nat) : Int) = 1)) = true then
 (if 0 <= (0 : Int) ∧ (0 : Int) < (q4.1.length : Int) then
 (Z23 (decide (rd q4.1 0 <= 2)) 3 q4.2.1 q4.2.2.1 q4.2.2.2).bind fun q9 =>
 some (!q9.1, q9.2.1, q9.2.2.1, q9.2.2.2)
 else
 none)
 else
 (Z23 false 3 q4.2.1 q4.2.2.1 q4.2.2.2).bind fun q14 =>
 some (!q14.1, q14.2.1, q14.2.2.1, q14.2.2.2)) : Option (Bool × (List Int) × Int × Int)).bind (fun p19 =>
 (if p19.1 = true then
 some ([], 0, [], 0, p19.2.1, p19.2.2.1, p19.2.2.2)
 else
 (if 0 <= (0 : Int) ∧ (0 : Int) < (q4.1.length : Int) then
 let t24 := i64.wrap (rd q4.1 0);
 (Z63 p19.2.1 p19.2.2.1 p19.2.2.2).bind fun q25 =>
 (Z22 q25.2.1 q25.2.2.1 q25.2.2.2).bind fun q30 =>
 some (q25.1, t24, [], q30.1, q30.2.1, q30.2.2.1, q30.2.2.2)
 else
 none)))
theorem Z24_eq b1 b2 b3 : Z24 b1 b2 b3 = Z24_b @Z62 @Z23 @Z63 @Z22 b1 b2 b3 := (B0 ..).trans (by kernel_rfl)
noncomputable def Z25_b (Z64 : type_of% @Z64) (b1 : List Int) : Option ((List Outline) × Int) :=
 (Z64 1 b1 0 0 0).bind fun q2 =>
 (if (!decide (q2.2.2.2.2 = 0)) = true then
 some ([], q2.2.2.2.2)
 else
 (if (decide (q2.2.2.1 < ((b1.length : Nat) : Int))) = true then
 some ([], 3)
 else
 some (q2.1, 0)))
theorem Z25_eq b1 : Z25 b1 = Z25_b @Z64 b1 := (B0 ..).trans (by kernel_rfl)
noncomputable def Z26_b (Z65 : type_of% @Z65) (l1 : List File) (name2 : List Int) : Option Int :=
 (Z65 l1 name2).bind fun q3 =>
 some q3.1
theorem Z26_eq l1 name2 : Z26 l1 name2 = Z26_b @Z65 l1 name2 := (B0 ..).trans (by kernel_rfl)
noncomputable def Z27l6_b (Z66 : type_of% @Z66) (files4 : List File) (s8 : Int × (List Chunk) × (List Int) × (List Int) × (List Int)) : Option ((Int × (List Chunk) × (List Int) × (List Int) × (List Int)) ⊕ ((List Chunk) × (List Int) × (List Int) × (List Int))) :=
 (if (decide (s8.1 < ((files4.length : Nat) : Int))) = true then
 (if 0 <= s8.1 then
 (files4[s8.1.toNat]?).bind fun e14 =>
 (Z66 e14.name e14.kind e14.data).bind fun q15 =>
 (if (s8.2.1.length + ([(Chunk.mk q15.1 q15.2.1 q15.2.2.1 q15.2.2.2)] : List Chunk).length) * 80 <= 140737488355328 then
 let t20 : List Chunk := s8.2.1 ++ [(Chunk.mk q15.1 q15.2.1 q15.2.2.1 q15.2.2.2)];
 let t21 := i64.wrap (s8.1 + 1);
 some (Sum.inl (t21, t20, s8.2.2.1, s8.2.2.2.1, s8.2.2.2.2))
 else
 none)
 else
 none)
 else
 some (Sum.inr (s8.2.1, s8.2.2.1, s8.2.2.2.1, s8.2.2.2.2)))
noncomputable def Z27l6 := Z27l6_b @Z66
noncomputable def Z27_b (Z3 : type_of% @Z3) (loop : type_of% @loop) (Z27l6 : type_of% @Z27l6) (Z67 : type_of% @Z67) (kind1 : List Int) (b2 : List File) (b3 : List Outline) (files4 : List File) : Option ((List Int) × Int) :=
 (Z3 b2 b3).bind fun q5 =>
 (if (!decide (q5.2 = 0)) = true then
 some ([], q5.2)
 else
 (loop (Z27l6 files4) (0, [(Chunk.mk [68, 73, 82, 77] [] q5.1 [])], [70, 79, 82, 77], kind1, [])).bind (fun p29 =>
 (Z67 [(Chunk.mk p29.2.1 p29.2.2.1 p29.2.2.2 p29.1)]).bind fun q34 =>
 (if (!decide (q34.2 = 0)) = true then
 some ([], 4)
 else
 some (q34.1, 0))))
theorem Z27_eq kind1 b2 b3 files4 : Z27 kind1 b2 b3 files4 = Z27_b @Z3 @loop @Z27l6 @Z67 kind1 b2 b3 files4 := (B0 ..).trans (by kernel_rfl)
noncomputable def Z28_b (Z68 : type_of% @Z68) (b1 : List Int) : Option ((List Chunk) × Int × Int) :=
 (if (decide (((b1.length : Nat) : Int) > 60000)) = true then
 some ([], 0, 4)
 else
 (Z68 0 ((b1.length : Nat) : Int) 1 b1 0 0 0).bind fun q2 =>
 (if (!decide (q2.2.2.2.1 = 0)) = true then
 some ([], q2.2.2.2.2, q2.2.2.2.1)
 else
 some (q2.1, 0, 0)))
theorem Z28_eq b1 : Z28 b1 = Z28_b @Z68 b1 := (B0 ..).trans (by kernel_rfl)
noncomputable def Z29l2_b (Z69 : type_of% @Z69) (l1 : List Chunk) (v2 : Int) : Option ((Int) ⊕ ((Unit) ⊕ (Bool))) :=
 (if (decide (v2 < ((l1.length : Nat) : Int))) = true then
 (if 0 <= v2 then
 (l1[v2.toNat]?).bind fun e3 =>
 ((if (decide (v2 = 0)) = true then
 some [66, 79, 79, 75]
 else
 some [77, 79, 82, 69]) : Option ((List Int))).bind (fun kind4 =>
 ((if (!decide (e3.id = [70, 79, 82, 77])) = true then
 some true
 else
 (if (!decide (e3.kind = kind4)) = true then
 some true
 else
 (if (decide (((e3.kids.length : Nat) : Int) = 0)) = true then
 some true
 else
 (if 0 <= (0 : Int) then
 (e3.kids[(0 : Int).toNat]?).bind fun e5 =>
 some (!decide (e5.id = [68, 73, 82, 77]))
 else
 none)))) : Option (Bool)).bind (fun v6 =>
 (if v6 = true then
 some (Sum.inr (Sum.inr false))
 else
 (if 0 <= (1 : Int) ∧ (1 : Int) <= ((e3.kids.length : Nat) : Int) then
 let t7 : List Chunk := cutL e3.kids ((1 : Int).toNat) e3.kids.length;
 (Z69 t7).bind fun q8 =>
 (if q8 = true then
 some (Sum.inr (Sum.inr false))
 else
 let t9 := i64.wrap (v2 + 1);
 some (Sum.inl t9))
 else
 none))))
 else
 none)
 else
 some (Sum.inr (Sum.inl ())))
noncomputable def Z29l2 := Z29l2_b @Z69
noncomputable def Z29_b (loop : type_of% @loop) (Z29l2 : type_of% @Z29l2) (l1 : List Chunk) : Option Bool :=
 (loop (Z29l2 l1) 0).bind (fun o15 =>
 (Sum.elim (fun (p13 : Unit) =>
 some (decide (((l1.length : Nat) : Int) > 0)))
 (fun (v14 : Bool) =>
 some v14) o15))
theorem Z29_eq l1 : Z29 l1 = Z29_b @loop @Z29l2 l1 := (B0 ..).trans (by kernel_rfl)
noncomputable def Z30l6_b (Z63 : type_of% @Z63) (Z26 : type_of% @Z26) (Z33 : type_of% @Z33) (tr14 : List File) (t15 : List Chunk) (s16 : Int × (List Entuint8)) : Option ((Int × (List Entuint8)) ⊕ (((List Entuint8)) ⊕ (Int × (List Entuint8)))) :=
 (if (decide (s16.1 < ((t15.length : Nat) : Int))) = true then
 (if 0 <= s16.1 then
 (t15[s16.1.toNat]?).bind fun e19 =>
 (Z63 e19.data 0 0).bind fun q20 =>
 ((if (!decide (q20.2.2.2 = 0)) = true then
 some true
 else
 (Z26 tr14 q20.1).bind fun q25 =>
 some (decide (q25 < 0))) : Option (Bool)).bind (fun v26 =>
 (if v26 = true then
 some (Sum.inr (Sum.inr (3, s16.2)))
 else
 (if 0 <= q20.2.2.1 ∧ q20.2.2.1 <= ((e19.data.length : Nat) : Int) then
 let t27 : List Int := cutL e19.data q20.2.2.1.toNat e19.data.length;
 (Z33 t27).bind fun q28 =>
 let m29 : List Entuint8 := putM (fun (e : Entuint8) => KV.str e.key) (Entuint8.mk q20.1 q28) s16.2;
 let t30 := i64.wrap (s16.1 + 1);
 some (Sum.inl (t30, m29))
 else
 none)))
 else
 none)
 else
 some (Sum.inr (Sum.inl s16.2)))
noncomputable def Z30l6 := Z30l6_b @Z63 @Z26 @Z33
noncomputable def Z30_b (Z6 : type_of% @Z6) (loop : type_of% @loop) (Z30l6 : type_of% @Z30l6) (c1 c2 c3 : List Int) (c4 : List Chunk) (b5 : List File) (b6 : List Int) (b7 : List Outline) (b8 : List Entuint8) : Option (Int × (List File) × (List Int) × (List Outline) × (List Entuint8)) :=
 (if 0 <= (0 : Int) then
 (c4[(0 : Int).toNat]?).bind fun e9 =>
 (Z6 e9.data).bind fun q10 =>
 (if (!decide (q10.2.2.1 = 0)) = true then
 some (q10.2.2.1, q10.2.2.2, q10.1, q10.2.1, b8)
 else
 (if 0 <= (1 : Int) ∧ (1 : Int) <= ((c4.length : Nat) : Int) then
 let t15 : List Chunk := cutL c4 ((1 : Int).toNat) c4.length;
 (loop (Z30l6 q10.2.2.2 t15) (0, b8)).bind (fun o38 =>
 (Sum.elim (fun (b34 : (List Entuint8)) =>
 some (0, q10.2.2.2, q10.1, q10.2.1, b34))
 (fun (p35 : Int × (List Entuint8)) =>
 some (p35.1, q10.2.2.2, q10.1, q10.2.1, p35.2)) o38))
 else
 none))
 else
 none)
theorem Z30_eq c1 c2 c3 c4 b5 b6 b7 b8 : Z30 c1 c2 c3 c4 b5 b6 b7 b8 = Z30_b @Z6 @loop @Z30l6 c1 c2 c3 c4 b5 b6 b7 b8 := (B0 ..).trans (by kernel_rfl)
noncomputable def Z31_b (Z70 : type_of% @Z70) (f1 : List Int) (f2 : Int) (f3 : List Int) : Option Bool :=
 (Z70 f1).bind fun q4 =>
 (if q4 = true then
 (if (decide (f2 ≥ 0)) = true then
 (if (decide (f2 <= 2)) = true then
 some (decide (((f3.length : Nat) : Int) <= 60000))
 else
 some false)
 else
 some false)
 else
 some false)
theorem Z31_eq f1 f2 f3 : Z31 f1 f2 f3 = Z31_b @Z70 f1 f2 f3 := (B0 ..).trans (by kernel_rfl)
noncomputable def Z32l3_b (Z33 : type_of% @Z33) (b1 : List File) (s4 : Int × (List Outline) × (List File)) : Option ((Int × (List Outline) × (List File)) ⊕ ((List Outline) × (List File))) :=
 (if (decide (s4.1 < ((b1.length : Nat) : Int))) = true then
 (if 0 <= s4.1 then
 (b1[s4.1.toNat]?).bind fun e8 =>
 (Z33 e8.data).bind fun q9 =>
 (if (s4.2.2.length + ([(File.mk e8.name e8.kind q9)] : List File).length) * 48 <= 140737488355328 then
 let t10 : List File := s4.2.2 ++ [(File.mk e8.name e8.kind q9)];
 let t11 := i64.wrap (s4.1 + 1);
 some (Sum.inl (t11, s4.2.1, t10))
 else
 none)
 else
 none)
 else
 some (Sum.inr (s4.2.1, s4.2.2)))
noncomputable def Z32l3 := Z32l3_b @Z33
noncomputable def Z32_b (Z71 : type_of% @Z71) (loop : type_of% @loop) (Z32l3 : type_of% @Z32l3) (b1 : List File) (b2 : List Outline) : Option ((List Outline) × (List File)) :=
 (Z71 b2).bind fun q3 =>
 (loop (Z32l3 b1) (0, q3, [])).bind (fun p17 =>
 some (p17.1, p17.2))
theorem Z32_eq b1 b2 : Z32 b1 b2 = Z32_b @Z71 @loop @Z32l3 b1 b2 := (B0 ..).trans (by kernel_rfl)
theorem Z33_eq (s1 : List Int) : Z33 s1 =
 (if s1.length = 0 then
 (demon
 (some [])
 ((if (([] : List Int).length + s1.length) * 1 <= 140737488355328 then
 let t2 : List Int := ([] : List Int) ++ s1;
 some t2
 else
 none)))
 else
 (if (([] : List Int).length + s1.length) * 1 <= 140737488355328 then
 let t3 : List Int := ([] : List Int) ++ s1;
 some t3
 else
 none)) := (B0 ..).trans (by kernel_rfl)
noncomputable def Z34_b (i1 : Int) (v2 b3 : List File) : Option (List File) :=
 (if 0 <= i1 ∧ i1 <= ((b3.length : Nat) : Int) then
 (if (decide (((v2.length : Nat) : Int) = 0)) = true then
 some b3
 else
 (if (decide (i1 = ((b3.length : Nat) : Int))) = true then
 (if (b3.length + v2.length) * 48 <= 140737488355328 then
 let t4 : List File := b3 ++ v2;
 some t4
 else
 none)
 else
 let t5 := i64.wrap (((b3.length : Nat) : Int) + ((v2.length : Nat) : Int));
 none))
 else
 none)
theorem Z34_eq i1 v2 b3 : Z34 i1 v2 b3 = Z34_b i1 v2 b3 := (B0 ..).trans (by kernel_rfl)
noncomputable def Z35_b (Z72 : type_of% @Z72) (l1 : List Outline) : Option Bool :=
 (Z72 l1 1 0).bind fun q2 =>
 some q2.1
theorem Z35_eq l1 : Z35 l1 = Z35_b @Z72 l1 := (B0 ..).trans (by kernel_rfl)
noncomputable def Z36l5 (s6 : Int × (List Int)) : Option ((Int × (List Int)) ⊕ ((List Int))) :=
 (if (decide (s6.1 > 0)) = true then
 let t9 : Int := s6.1.tmod 128;
 let t10 := u8.wrap t9;
 let t11 := u8.wrap (t10 + 128);
 (if (([t11] : List Int).length + s6.2.length) * 1 <= 140737488355328 then
 let t12 : List Int := ([t11] : List Int) ++ s6.2;
 let t13 := i64.wrap (s6.1.tdiv 128);
 some (Sum.inl (t13, t12))
 else
 none)
 else
 some (Sum.inr s6.2))
noncomputable def Z36_b (loop : type_of% @loop) (Z36l5 : type_of% @Z36l5) (n1 : Int) : Option (Int × (List Int)) :=
 ((if (decide (n1 < 0)) = true then
 some true
 else
 some (decide (n1 > 2147483647))) : Option (Bool)).bind (fun v2 =>
 (if v2 = true then
 some (2, [])
 else
 let t3 : Int := n1.tmod 128;
 let t4 := u8.wrap t3;
 let t5 := i64.wrap (n1.tdiv 128);
 (loop (Z36l5) (t5, [t4])).bind (fun out14 =>
 some (0, out14))))
theorem Z36_eq n1 : Z36 n1 = Z36_b @loop @Z36l5 n1 := (B0 ..).trans (by kernel_rfl)
noncomputable def Z37l3_b (Z73 : type_of% @Z73) (Z37 : type_of% @Z37) (slices_Concat_byte_byte : type_of% @slices_Concat_byte_byte) (l1 : List Outline) (s3 : (List Int) × Int) : Option (((List Int) × Int) ⊕ ((List Int))) :=
 (if (decide (s3.2 < ((l1.length : Nat) : Int))) = true then
 (if 0 <= s3.2 then
 (l1[s3.2.toNat]?).bind fun e6 =>
 (Z73 ((e6.title.length : Nat) : Int)).bind fun q7 =>
 (Z73 e6.page).bind fun q8 =>
 (Z37 e6.kids).bind fun q9 =>
 (slices_Concat_byte_byte [s3.1, q7, e6.title, q8, q9]).bind fun q10 =>
 let t11 := i64.wrap (s3.2 + 1);
 some (Sum.inl (q10, t11))
 else
 none)
 else
 some (Sum.inr s3.1))
noncomputable def Z37l3 := Z37l3_b @Z73 @Z37 @slices_Concat_byte_byte
noncomputable def Z37_b (Z73 : type_of% @Z73) (loop : type_of% @loop) (Z37l3 : type_of% @Z37l3) (l1 : List Outline) : Option (List Int) :=
 (Z73 ((l1.length : Nat) : Int)).bind fun q2 =>
 (loop (Z37l3 l1) (q2, 0)).bind (fun out15 =>
 some out15)
theorem Z37_eq l1 : Z37 l1 = Z37_b @Z73 @loop @Z37l3 l1 := (B0 ..).trans (by kernel_rfl)
noncomputable def Z38_b (Z75 : type_of% @Z75) (text1 : List Int) : Option ((List Int) × Int) :=
 (if (decide (((text1.length : Nat) : Int) > 4000)) = true then
 some ([], 4)
 else
 (Z75 text1).bind fun q2 =>
 some (q2, 0))
theorem Z38_eq text1 : Z38 text1 = Z38_b @Z75 text1 := (B0 ..).trans (by kernel_rfl)
noncomputable def Z39_b (kind1 n2 : Int) : Option (Int × Int × (List Int)) :=
 ((if (!decide (kind1 = 0)) = true then
 (if (!decide (kind1 = 1)) = true then
 some true
 else
 (if (decide (n2 < 0)) = true then
 some true
 else
 some (decide (n2 > 8192))))
 else
 (if (decide (n2 < 0)) = true then
 some true
 else
 some (decide (n2 > 8192)))) : Option (Bool)).bind (fun v3 =>
 (if v3 = true then
 some (0, 2, [])
 else
 (if 0 <= n2 ∧ n2 <= n2 ∧ ((8 : Nat) : Int) * n2 <= 281474976710656 then
 let t4 : List Int := List.replicate n2.toNat 0;
 some (kind1, 0, t4)
 else
 none)))
theorem Z39_eq kind1 n2 : Z39 kind1 n2 = Z39_b kind1 n2 := (B0 ..).trans (by kernel_rfl)
noncomputable def Z40_b (Z76 : type_of% @Z76) (Z77 : type_of% @Z77) (m1 : Int) (m2 : List Int) : Option ((Int × Int × Int × (List Int) × (List Int)) ⊕ (Unit)) :=
 (Z76 m1 m2).bind fun q3 =>
 (if (!q3) = true then
 some (Sum.inr ())
 else
 (Z77 m1 m2).bind fun q4 =>
 some (Sum.inl (q4.1, q4.2.1, q4.2.2.1, q4.2.2.2, [])))
theorem Z40_eq m1 m2 : Z40 m1 m2 = Z40_b @Z76 @Z77 m1 m2 := (B0 ..).trans (by kernel_rfl)
noncomputable def Z41l7_b (Z80 : type_of% @Z80) (Z81 : type_of% @Z81) (l1 : List Int) (s4 : Int × (List Int) × (List Int)) : Option ((Int × (List Int) × (List Int)) ⊕ ((List Int) × (List Int))) :=
 (if (decide (s4.1 < ((l1.length : Nat) : Int))) = true then
 (if 0 <= s4.1 ∧ s4.1 < (l1.length : Int) then
 (Z80 s4.2.1 (rd l1 s4.1)).bind fun q8 =>
 (Z81 q8 s4.2.1).bind fun q9 =>
 (if (s4.2.2.length + ([q8] : List Int).length) * 8 <= 140737488355328 then
 let t12 : List Int := s4.2.2 ++ [q8];
 let t13 := i64.wrap (s4.1 + 1);
 some (Sum.inl (t13, q9.2, t12))
 else
 none)
 else
 none)
 else
 some (Sum.inr (s4.2.1, s4.2.2)))
noncomputable def Z41l7 := Z41l7_b @Z80 @Z81
noncomputable def Z41_b (Z78 : type_of% @Z78) (Z79 : type_of% @Z79) (loop : type_of% @loop) (Z41l7 : type_of% @Z41l7) (l1 : List Int) : Option ((List Int) × Int) :=
 (Z78 l1).bind fun q2 =>
 (if (!decide (q2 = 0)) = true then
 some ([], q2)
 else
 (Z79).bind fun q3 =>
 (loop (Z41l7 l1) (0, q3, [])).bind (fun p19 =>
 some (p19.2, 0)))
theorem Z41_eq l1 : Z41 l1 = Z41_b @Z78 @Z79 @loop @Z41l7 l1 := (B0 ..).trans (by kernel_rfl)
noncomputable def Z42_b (last1 : Int) : Option Int :=
 (if (decide (last1 = 0)) = true then
 some 0
 else
 (if (decide (last1 <= 15)) = true then
 some 48
 else
 some 96))
theorem Z42_eq last1 : Z42 last1 = Z42_b last1 := (B0 ..).trans (by kernel_rfl)
noncomputable def Z43_b (Z82 : type_of% @Z82) (Z83 : type_of% @Z83) (Z84 : type_of% @Z84) (Z85 : type_of% @Z85) (Z86 : type_of% @Z86) (Z87 : type_of% @Z87) (base1 : Int) (n2 : Bool) (n3 b4 b5 b6 : Int) (b7 b8 : List Int) : Option (Int × Int × Int × Int × (List Int) × (List Int)) :=
 (Z82 (-1) 0 b4 b5 b6 b7 b8).bind fun q9 =>
 (if (decide (q9.1 = 7)) = true then
 some (7, q9.2.1, q9.2.2.1, q9.2.2.2.1, q9.2.2.2.2.1, q9.2.2.2.2.2)
 else
 (Z83 n2 n3).bind fun q16 =>
 (if (!q16) = true then
 some (2, q9.2.1, q9.2.2.1, q9.2.2.2.1, q9.2.2.2.2.1, q9.2.2.2.2.2)
 else
 (Z84 q9.2.1 q9.2.2.1 q9.2.2.2.1 q9.2.2.2.2.1 q9.2.2.2.2.2).bind fun q17 =>
 (Z85 q17.1 q17.2.1 base1 48).bind fun q25 =>
 (if (!decide (q25 = 0)) = true then
 some (q25, q17.2.2.1, q17.2.2.2.1, q17.2.2.2.2.1, q17.2.2.2.2.2.1, q17.2.2.2.2.2.2)
 else
 (Z86 base1 n2 n3).bind fun q26 =>
 (Z87 q26 q17.2.2.1 q17.2.2.2.1 q17.2.2.2.2.1 q17.2.2.2.2.2.1 q17.2.2.2.2.2.2).bind fun q27 =>
 some (q27.1, q27.2.1, q27.2.2.1, q27.2.2.2.1, q27.2.2.2.2.1, q27.2.2.2.2.2))))
theorem Z43_eq base1 n2 n3 b4 b5 b6 b7 b8 : Z43 base1 n2 n3 b4 b5 b6 b7 b8 = Z43_b @Z82 @Z83 @Z84 @Z85 @Z86 @Z87 base1 n2 n3 b4 b5 b6 b7 b8 := (B0 ..).trans (by kernel_rfl)
noncomputable def Z44l10 (tr10 v15 : Int) (s22 : Int × (List Int)) : Option ((Int × (List Int)) ⊕ ((List Int))) :=
 (if (decide (s22.1 < v15)) = true then
 let t25 := i64.wrap (8 * s22.1);
 let t26 := i64.wrap (24 - t25);
 (if t26 < 0 then
 none
 else
 let t27 := ishr .u64 tr10 t26;
 let t28 := u8.wrap t27;
 (if (s22.2.length + ([t28] : List Int).length) * 1 <= 140737488355328 then
 let t29 : List Int := s22.2 ++ [t28];
 let t30 := i64.wrap (s22.1 + 1);
 some (Sum.inl (t30, t29))
 else
 none))
 else
 some (Sum.inr s22.2))
noncomputable def Z44l5_b (loop : type_of% @loop) (Z44l10 : type_of% @Z44l10) (tr9 tr10 : Int) (s14 : Int × (List Int)) : Option ((Int × (List Int)) ⊕ (((List Int)) ⊕ ((List Int)))) :=
 (if (decide (s14.1 < 5)) = true then
 let t17 := i64.wrap (8 * s14.1);
 let t18 := i64.wrap (32 - t17);
 let t19 := u64.wrap t18;
 (if t19 < 0 then
 none
 else
 let t20 := ishr .u64 tr10 t19;
 (if t19 < 0 then
 none
 else
 let t21 := ishl .u64 t20 t19;
 (if (decide (t21 ≥ tr9)) = true then
 (loop (Z44l10 tr10 s14.1) (0, s14.2)).bind (fun out34 =>
 some (Sum.inr (Sum.inr out34)))
 else
 let t35 := i64.wrap (s14.1 + 1);
 some (Sum.inl (t35, s14.2)))))
 else
 some (Sum.inr (Sum.inl s14.2)))
noncomputable def Z44l5 := Z44l5_b @loop @Z44l10
noncomputable def Z44_b (Z88 : type_of% @Z88) (loop : type_of% @loop) (Z44l5 : type_of% @Z44l5) (b1 b2 b3 : Int) (b4 b5 : List Int) : Option ((List Int) × Int × Int × Int × (List Int) × (List Int)) :=
 (Z88 b1 b2 b3 b4 b5).bind fun q6 =>
 let tr12 := q6.2.2.2.2.2;
 (if q6.1 = true then
 some ([], q6.2.1, q6.2.2.1, q6.2.2.2.1, q6.2.2.2.2.1, tr12)
 else
 (if (([] : List Int).length + tr12.length) * 1 <= 140737488355328 then
 let t13 : List Int := ([] : List Int) ++ tr12;
 (loop (Z44l5 q6.2.2.1 q6.2.2.2.1) (0, t13)).bind (fun o41 =>
 (Sum.elim (fun (out39 : (List Int)) =>
 some (out39, q6.2.1, q6.2.2.1, q6.2.2.2.1, q6.2.2.2.2.1, tr12))
 (fun (b40 : (List Int)) =>
 some (b40, q6.2.1, q6.2.2.1, q6.2.2.2.1, q6.2.2.2.2.1, tr12)) o41))
 else
 none))
theorem Z44_eq b1 b2 b3 b4 b5 : Z44 b1 b2 b3 b4 b5 = Z44_b @Z88 @loop @Z44l5 b1 b2 b3 b4 b5 := (B0 ..).trans (by kernel_rfl)
theorem Z45_eq (f1 : List Int) (f2 : Int) (f3 : List Int) : Z45 f1 f2 f3 =
 (Z89 f1).bind fun q4 =>
 (if q4 = true then
 (if (decide (f2 ≥ 0)) = true then
 (if (decide (f2 <= 2)) = true then
 some (decide (((f3.length : Nat) : Int) <= 60000))
 else
 some false)
 else
 some false)
 else
 some false) := (B0 ..).trans (by kernel_rfl)
noncomputable def Z46l2 (l1 : List File) (i2 : Int) : Option ((Int) ⊕ ((Unit) ⊕ (Bool))) :=
 (if (decide (i2 < ((l1.length : Nat) : Int))) = true then
 (if 0 <= i2 then
 (l1[i2.toNat]?).bind fun e3 =>
 (Z90 l1 e3.name).bind fun q4 =>
 (if (decide (q4 < i2)) = true then
 some (Sum.inr (Sum.inr true))
 else
 let t5 := i64.wrap (i2 + 1);
 some (Sum.inl t5))
 else
 none)
 else
 some (Sum.inr (Sum.inl ())))
theorem Z46_eq (l1 : List File) : Z46 l1 =
 (loop (Z46l2 l1) 0).bind (fun o11 =>
 (Sum.elim (fun (p9 : Unit) =>
 some false)
 (fun (v10 : Bool) =>
 some v10) o11)) := (B0 ..).trans (by kernel_rfl)
theorem Z47_eq (l1 : List Outline) : Z47 l1 =
 (Z91 l1).bind fun q2 =>
 (if q2.2.2 = true then
 (if (decide (q2.1 <= 400)) = true then
 some (decide (q2.2.1 <= 20))
 else
 some false)
 else
 some false) := (B0 ..).trans (by kernel_rfl)
noncomputable def Z48l5 (s6 : Int × (List Int)) : Option ((Int × (List Int)) ⊕ ((List Int))) :=
 (if (decide (s6.1 > 0)) = true then
 let t9 : Int := s6.1.tmod 128;
 let t10 := i64.wrap (128 + t9);
 let t11 := u8.wrap t10;
 (if (([t11] : List Int).length + s6.2.length) * 1 <= 140737488355328 then
 let t12 : List Int := ([t11] : List Int) ++ s6.2;
 let t13 := i64.wrap (s6.1.tdiv 128);
 some (Sum.inl (t13, t12))
 else
 none)
 else
 some (Sum.inr s6.2))
theorem Z48_eq (n1 : Int) : Z48 n1 =
 ((if (decide (n1 < 0)) = true then
 some true
 else
 some (decide (n1 > 2147483647))) : Option (Bool)).bind (fun v2 =>
 (if v2 = true then
 some (2, [])
 else
 let t3 : Int := n1.tmod 128;
 let t4 := u8.wrap t3;
 let t5 := i64.wrap (n1.tdiv 128);
 (loop (Z48l5) (t5, [t4])).bind (fun out14 =>
 some (0, out14)))) := (B0 ..).trans (by kernel_rfl)
noncomputable def Z49l3 (l1 : List Outline) (s5 : Int × (List Int)) : Option ((Int × (List Int)) ⊕ ((List Int))) :=
 let i6 := s5.1;
 (if (decide (i6 < ((l1.length : Nat) : Int))) = true then
 (if 0 <= i6 then
 (l1[i6.toNat]?).bind fun e8 =>
 (Z48 ((e8.title.length : Nat) : Int)).bind fun q9 =>
 (if 0 <= i6 then
 (l1[i6.toNat]?).bind fun e12 =>
 (Z48 e12.page).bind fun q13 =>
 (if (s5.2.length + q9.2.length) * 1 <= 140737488355328 then
 let t16 : List Int := s5.2 ++ q9.2;
 (if 0 <= i6 then
 (l1[i6.toNat]?).bind fun e17 =>
 (if (t16.length + e17.title.length) * 1 <= 140737488355328 then
 let t18 : List Int := t16 ++ e17.title;
 (if (t18.length + q13.2.length) * 1 <= 140737488355328 then
 let t19 : List Int := t18 ++ q13.2;
 (if 0 <= i6 then
 (l1[i6.toNat]?).bind fun e20 =>
 (Z49 e20.kids).bind fun q21 =>
 (if (t19.length + q21.length) * 1 <= 140737488355328 then
 let t22 : List Int := t19 ++ q21;
 let t23 := i64.wrap (i6 + 1);
 some (Sum.inl (t23, t22))
 else
 none)
 else
 none)
 else
 none)
 else
 none)
 else
 none)
 else
 none)
 else
 none)
 else
 none)
 else
 some (Sum.inr s5.2))
theorem Z49_eq (l1 : List Outline) : Z49 l1 =
 (Z48 ((l1.length : Nat) : Int)).bind fun q2 =>
 (loop (Z49l3 l1) (0, q2.2)).bind (fun out27 =>
 some out27) := (B0 ..).trans (by kernel_rfl)
noncomputable def Z50l6 (text1 tr3 : List Int) (s5 : Int × (List Int)) : Option ((Int × (List Int)) ⊕ ((List Int))) :=
 let i6 := s5.1;
 (if (decide (i6 < ((tr3.length : Nat) : Int))) = true then
 (if 0 <= i6 ∧ i6 < (tr3.length : Int) then
 (if (decide (rd tr3 i6 = 0)) = true then
 (if (s5.2.length + ([0] : List Int).length) * 8 <= 140737488355328 then
 let t8 : List Int := s5.2 ++ [0];
 let t9 := i64.wrap (i6 + 1);
 some (Sum.inl (t9, t8))
 else
 none)
 else
 (if 0 <= i6 ∧ i6 < (tr3.length : Int) then
 let t10 := i64.wrap (rd tr3 i6 - 1);
 (if 0 <= t10 ∧ t10 < (text1.length : Int) then
 let t11 := i64.wrap (rd text1 t10);
 let t12 := i64.wrap (1 + t11);
 (if (s5.2.length + ([t12] : List Int).length) * 8 <= 140737488355328 then
 let t13 : List Int := s5.2 ++ [t12];
 let t14 := i64.wrap (i6 + 1);
 some (Sum.inl (t14, t13))
 else
 none)
 else
 none)
 else
 none))
 else
 none)
 else
 some (Sum.inr s5.2))
theorem Z50_eq (text1 : List Int) : Z50 text1 =
 (Z92 text1).bind fun q2 =>
 (if (!decide (q2.2 = 0)) = true then
 some ([], q2.2)
 else
 (loop (Z50l6 text1 q2.1) (0, [])).bind (fun out18 =>
 some (out18, 0))) := (B0 ..).trans (by kernel_rfl)
noncomputable def Z51l10 (l1 list5 : List Int) (i6 at8 : Int) : Option ((Int) ⊕ (Int)) :=
 (if 0 <= at8 ∧ at8 < (list5.length : Int) then
 (if 0 <= i6 ∧ i6 < (l1.length : Int) then
 (if (!decide (rd list5 at8 = rd l1 i6)) = true then
 let t9 := i64.wrap (at8 + 1);
 some (Sum.inl t9)
 else
 some (Sum.inr at8))
 else
 none)
 else
 none)
noncomputable def Z51l7 (l1 : List Int) (s4 : (List Int) × Int × (List Int)) : Option (((List Int) × Int × (List Int)) ⊕ ((List Int))) :=
 (if (decide (s4.2.1 < ((l1.length : Nat) : Int))) = true then
 (loop (Z51l10 l1 s4.1 s4.2.1) 0).bind (fun at10 =>
 (if (s4.2.2.length + ([at10] : List Int).length) * 8 <= 140737488355328 then
 let t11 : List Int := s4.2.2 ++ [at10];
 (Z95 s4.1 at10).bind fun q12 =>
 let t13 := i64.wrap (s4.2.1 + 1);
 some (Sum.inl (q12, t13, t11))
 else
 none))
 else
 some (Sum.inr s4.2.2))
theorem Z51_eq (l1 : List Int) : Z51 l1 =
 (Z93 l1).bind fun q2 =>
 (if (!decide (q2 = 0)) = true then
 some ([], q2)
 else
 (Z94).bind fun q3 =>
 (loop (Z51l7 l1) (q3, 0, [])).bind (fun out19 =>
 some (out19, 0))) := (B0 ..).trans (by kernel_rfl)
theorem Z52_eq (kind1 n2 : Int) : Z52 kind1 n2 =
 ((if (!decide (kind1 = 0)) = true then
 (if (!decide (kind1 = 1)) = true then
 some true
 else
 (if (decide (n2 < 0)) = true then
 some true
 else
 some (decide (n2 > 8192))))
 else
 (if (decide (n2 < 0)) = true then
 some true
 else
 some (decide (n2 > 8192)))) : Option (Bool)).bind (fun v3 =>
 (if v3 = true then
 some (0, 2, [])
 else
 (if 0 <= n2 ∧ n2 <= n2 ∧ ((8 : Nat) : Int) * n2 <= 281474976710656 then
 let t4 : List Int := List.replicate n2.toNat 0;
 some (kind1, 0, t4)
 else
 none))) := (B0 ..).trans (by kernel_rfl)
theorem Z53_eq (m1 : Int) (m2 : List Int) : Z53 m1 m2 =
 (Z96 m1 m2).bind fun q3 =>
 (if (!q3) = true then
 some (Sum.inr ())
 else
 (Z97 m1 m2).bind fun q4 =>
 (Z98).bind fun q7 =>
 some (Sum.inl (q4.1, q7.1, q7.2, q4.2, []))) := (B0 ..).trans (by kernel_rfl)
theorem Z54_eq (was1 : Int) : Z54 was1 =
 (if (decide (was1 = 0)) = true then
 some 0
 else
 (if (decide (was1 < 16)) = true then
 some 48
 else
 some 96)) := (B0 ..).trans (by kernel_rfl)
noncomputable def Z55l5 (base1 : Int) (q26 : (List Event)) (s27 : Int × Int × Int × Int × (List Int) × (List Int)) : Option ((Int × Int × Int × Int × (List Int) × (List Int)) ⊕ (Int × Int × Int × (List Int) × (List Int))) :=
 (if (decide (s27.1 < ((q26.length : Nat) : Int))) = true then
 (if 0 <= s27.1 then
 (q26[s27.1.toNat]?).bind fun e34 =>
 let t35 := i64.wrap (base1 + e34.ctx);
 (if 0 <= s27.1 then
 (q26[s27.1.toNat]?).bind fun e36 =>
 (Z103 t35 e36.bit s27.2.1 s27.2.2.1 s27.2.2.2.1 s27.2.2.2.2.1 s27.2.2.2.2.2).bind fun q37 =>
 let t44 := i64.wrap (s27.1 + 1);
 some (Sum.inl (t44, q37.2.1, q37.2.2.1, q37.2.2.2.1, q37.2.2.2.2.1, q37.2.2.2.2.2))
 else
 none)
 else
 none)
 else
 some (Sum.inr (s27.2.1, s27.2.2.1, s27.2.2.2.1, s27.2.2.2.2.1, s27.2.2.2.2.2)))
theorem Z55_eq (base1 : Int) (n2 : Bool) (n3 b4 b5 b6 : Int) (b7 b8 : List Int) : Z55 base1 n2 n3 b4 b5 b6 b7 b8 =
 ((Z99 n2 n3).bind fun q9 =>
 (if (!q9) = true then
 some (true, b4, b5, b6, b7, b8)
 else
 (Z100 b4 b5 b6 b7 b8).bind fun q10 =>
 (Z101 ((q10.2.1.length : Nat) : Int) base1 48).bind fun q18 =>
 some (!q18, q10.2.2.1, q10.2.2.2.1, q10.2.2.2.2.1, q10.2.2.2.2.2.1, q10.2.2.2.2.2.2)) : Option (Bool × Int × Int × Int × (List Int) × (List Int))).bind (fun p19 =>
 (if p19.1 = true then
 some (2, p19.2.1, p19.2.2.1, p19.2.2.2.1, p19.2.2.2.2.1, p19.2.2.2.2.2)
 else
 (Z102 n2 n3).bind fun q26 =>
 (loop (Z55l5 base1 q26) (0, p19.2.1, p19.2.2.1, p19.2.2.2.1, p19.2.2.2.2.1, p19.2.2.2.2.2)).bind (fun p45 =>
 some (0, p45.1, p45.2.1, p45.2.2.1, p45.2.2.2.1, p45.2.2.2.2)))) := (B0 ..).trans (by kernel_rfl)
theorem Z56_eq (b1 b2 b3 : Int) (b4 b5 : List Int) : Z56 b1 b2 b3 b4 b5 =
 (if (([] : List Int).length + b5.length) * 1 <= 140737488355328 then
 let t6 : List Int := ([] : List Int) ++ b5;
 (Z104 b2 b3).bind fun q7 =>
 (if (t6.length + q7.length) * 1 <= 140737488355328 then
 let t8 : List Int := t6 ++ q7;
 some (t8, b1, b2, b3, b4, b5)
 else
 none)
 else
 none) := (B0 ..).trans (by kernel_rfl)
noncomputable def Z57l4 (b1 : List Int) (at2 : Int) (s4 : Int × Int) : Option ((Int × Int) ⊕ ((Unit) ⊕ (Int × Int × Int))) :=
 (if (decide (s4.2 < 5)) = true then
 let t7 := i64.wrap (at2 + s4.2);
 (if (decide (t7 ≥ ((b1.length : Nat) : Int))) = true then
 some (Sum.inr (Sum.inr (0, 0, 6)))
 else
 let t8 := i64.wrap (at2 + s4.2);
 (if 0 <= t8 ∧ t8 < (b1.length : Int) then
 let t9 := i64.wrap (rd b1 t8);
 let t10 := i64.wrap (s4.1 * 128);
 let t11 : Int := t9.tmod 128;
 let t12 := i64.wrap (t10 + t11);
 (if (decide (t9 < 128)) = true then
 ((if (decide (t12 > 2147483647)) = true then
 some true
 else
 (if (decide (s4.2 > 0)) = true then
 (if 0 <= at2 ∧ at2 < (b1.length : Int) then
 some (decide (rd b1 at2 = 128))
 else
 none)
 else
 some false)) : Option (Bool)).bind (fun v13 =>
 (if v13 = true then
 some (Sum.inr (Sum.inr (0, 0, 3)))
 else
 let t14 := i64.wrap (at2 + s4.2);
 let t15 := i64.wrap (t14 + 1);
 some (Sum.inr (Sum.inr (t12, t15, 0)))))
 else
 let t16 := i64.wrap (s4.2 + 1);
 some (Sum.inl (t12, t16)))
 else
 none))
 else
 some (Sum.inr (Sum.inl ())))
noncomputable def Z57_b (loop : type_of% @loop) (Z57l4 : type_of% @Z57l4) (b1 : List Int) (at2 : Int) : Option (Int × Int × Int) :=
 ((if (decide (at2 < 0)) = true then
 some true
 else
 some (decide (at2 > ((b1.length : Nat) : Int)))) : Option (Bool)).bind (fun v3 =>
 (if v3 = true then
 some (0, 0, 2)
 else
 (loop (Z57l4 b1 at2) (0, 0)).bind (fun o25 =>
 (Sum.elim (fun (p20 : Unit) =>
 some (0, 0, 3))
 (fun (p21 : Int × Int × Int) =>
 some (p21.1, p21.2.1, p21.2.2)) o25))))
theorem Z57_eq b1 at2 : Z57 b1 at2 = Z57_b @loop @Z57l4 b1 at2 := (B0 ..).trans (by kernel_rfl)
noncomputable def Z58l5_b (Z105 : type_of% @Z105) (s11 : Int × (List Int) × (List Int) × Int × Int × Int × Int × Int × Int) : Option ((Int × (List Int) × (List Int) × Int × Int × Int × Int × Int × Int) ⊕ ((List Int) × (List Int) × Int × Int × Int × Int × Int × Int)) :=
 (if (decide (s11.1 < 4)) = true then
 (Z105 s11.2.2.2.1 s11.2.2.2.2.1 s11.2.2.2.2.2.1 s11.2.2.2.2.2.2.1 s11.2.2.2.2.2.2.2.1 s11.2.2.2.2.2.2.2.2 s11.2.1 s11.2.2.1).bind fun q21 =>
 let t30 := i64.wrap (s11.1 + 1);
 some (Sum.inl (t30, q21.2.2.2.2.2.2.1, q21.2.2.2.2.2.2.2, q21.1, q21.2.1, q21.2.2.1, q21.2.2.2.1, q21.2.2.2.2.1, q21.2.2.2.2.2.1))
 else
 some (Sum.inr (s11.2.1, s11.2.2.1, s11.2.2.2.1, s11.2.2.2.2.1, s11.2.2.2.2.2.1, s11.2.2.2.2.2.2.1, s11.2.2.2.2.2.2.2.1, s11.2.2.2.2.2.2.2.2)))
noncomputable def Z58l5 := Z58l5_b @Z105
noncomputable def Z58_b (Z76 : type_of% @Z76) (Z77 : type_of% @Z77) (loop : type_of% @loop) (Z58l5 : type_of% @Z58l5) (m1 : Int) (m2 b3 : List Int) : Option ((Int × Int × Int × (List Int) × Int × Int × Int × Bool × (List Int)) ⊕ (Unit)) :=
 (Z76 m1 m2).bind fun q4 =>
 (if (!q4) = true then
 some (Sum.inr ())
 else
 (Z77 m1 m2).bind fun q5 =>
 (if (([] : List Int).length + b3.length) * 1 <= 140737488355328 then
 let t10 : List Int := ([] : List Int) ++ b3;
 (loop (Z58l5) (0, q5.2.2.2, t10, q5.1, q5.2.1, q5.2.2.1, 0, 0, 0)).bind (fun p42 =>
 some (Sum.inl (p42.2.2.1, p42.2.2.2.1, p42.2.2.2.2.1, p42.2.1, p42.2.2.2.2.2.1, p42.2.2.2.2.2.2.1, p42.2.2.2.2.2.2.2, false, p42.1)))
 else
 none))
theorem Z58_eq m1 m2 b3 : Z58 m1 m2 b3 = Z58_b @Z76 @Z77 @loop @Z58l5 m1 m2 b3 := (B0 ..).trans (by kernel_rfl)
noncomputable def Z59_b (Z106 : type_of% @Z106) (Z107 : type_of% @Z107) (Z85 : type_of% @Z85) (Z108 : type_of% @Z108) (base1 b2 b3 b4 : Int) (b5 : List Int) (b6 b7 b8 : Int) (b9 : Bool) (b10 : List Int) : Option (Bool × Int × Int × Int × Int × Int × (List Int) × Int × Int × Int × Bool × (List Int)) :=
 (Z106 (-1) b2 b3 b4 b5 b6 b7 b8 b9 b10).bind fun q11 =>
 let tr21 := q11.2.2.2.2.2.2.2.2.2.1;
 let tr22 := q11.2.2.2.2.2.2.2.2.2.2;
 (if (decide (q11.2.1 = 7)) = true then
 some (false, 0, q11.2.1, q11.2.2.1, q11.2.2.2.1, q11.2.2.2.2.1, q11.2.2.2.2.2.1, q11.2.2.2.2.2.2.1, q11.2.2.2.2.2.2.2.1, q11.2.2.2.2.2.2.2.2.1, tr21, tr22)
 else
 (Z107 q11.2.2.1 q11.2.2.2.1 q11.2.2.2.2.1 q11.2.2.2.2.2.1 q11.2.2.2.2.2.2.1 q11.2.2.2.2.2.2.2.1 q11.2.2.2.2.2.2.2.2.1 tr21 tr22).bind fun q23 =>
 let tr33 := q23.2.2.2.2.2.2.2.2.2.1;
 let tr34 := q23.2.2.2.2.2.2.2.2.2.2;
 (Z85 q23.1 q23.2.1 base1 48).bind fun q35 =>
 (if (!decide (q35 = 0)) = true then
 some (false, 0, q35, q23.2.2.1, q23.2.2.2.1, q23.2.2.2.2.1, q23.2.2.2.2.2.1, q23.2.2.2.2.2.2.1, q23.2.2.2.2.2.2.2.1, q23.2.2.2.2.2.2.2.2.1, tr33, tr34)
 else
 (Z108 base1 q23.2.2.1 q23.2.2.2.1 q23.2.2.2.2.1 q23.2.2.2.2.2.1 q23.2.2.2.2.2.2.1 q23.2.2.2.2.2.2.2.1 q23.2.2.2.2.2.2.2.2.1 tr33 tr34).bind fun q36 =>
 some (q36.1, q36.2.1, q36.2.2.1, q36.2.2.2.1, q36.2.2.2.2.1, q36.2.2.2.2.2.1, q36.2.2.2.2.2.2.1, q36.2.2.2.2.2.2.2.1, q36.2.2.2.2.2.2.2.2.1, q36.2.2.2.2.2.2.2.2.2.1, q36.2.2.2.2.2.2.2.2.2.2.1, q36.2.2.2.2.2.2.2.2.2.2.2)))
theorem Z59_eq base1 b2 b3 b4 b5 b6 b7 b8 b9 b10 : Z59 base1 b2 b3 b4 b5 b6 b7 b8 b9 b10 = Z59_b @Z106 @Z107 @Z85 @Z108 base1 b2 b3 b4 b5 b6 b7 b8 b9 b10 := (B0 ..).trans (by kernel_rfl)
noncomputable def Z60l7_b (Z81 : type_of% @Z81) (l1 : List Int) (s4 : Int × (List Int) × (List Int)) : Option ((Int × (List Int) × (List Int)) ⊕ ((List Int) × (List Int))) :=
 (if (decide (s4.1 < ((l1.length : Nat) : Int))) = true then
 (if 0 <= s4.1 ∧ s4.1 < (l1.length : Int) then
 (Z81 (rd l1 s4.1) s4.2.1).bind fun q8 =>
 (if (s4.2.2.length + ([q8.1] : List Int).length) * 8 <= 140737488355328 then
 let t11 : List Int := s4.2.2 ++ [q8.1];
 let t12 := i64.wrap (s4.1 + 1);
 some (Sum.inl (t12, q8.2, t11))
 else
 none)
 else
 none)
 else
 some (Sum.inr (s4.2.1, s4.2.2)))
noncomputable def Z60l7 := Z60l7_b @Z81
noncomputable def Z60_b (Z78 : type_of% @Z78) (Z79 : type_of% @Z79) (loop : type_of% @loop) (Z60l7 : type_of% @Z60l7) (l1 : List Int) : Option ((List Int) × Int) :=
 (Z78 l1).bind fun q2 =>
 (if (!decide (q2 = 0)) = true then
 some ([], q2)
 else
 (Z79).bind fun q3 =>
 (loop (Z60l7 l1) (0, q3, [])).bind (fun p18 =>
 some (p18.2, 0)))
theorem Z60_eq l1 : Z60 l1 = Z60_b @Z78 @Z79 @loop @Z60l7 l1 := (B0 ..).trans (by kernel_rfl)
noncomputable def Z61l3 (l1 : List Int) (s4 : Int × (List Int)) : Option ((Int × (List Int)) ⊕ ((List Int))) :=
 (if (decide (s4.1 < ((l1.length : Nat) : Int))) = true then
 (if 0 <= s4.1 ∧ s4.1 < (l1.length : Int) then
 let t7 := i64.wrap (rd l1 s4.1 + 1);
 (if 0 <= t7 ∧ t7 < ((258 : Nat) : Int) ∧ t7 < (s4.2.length : Int) then
 let t8 : Int := rd s4.2 t7;
 let t9 := i64.wrap (t8 + 1);
 (if 0 <= t7 ∧ t7 < ((258 : Nat) : Int) ∧ t7 < (s4.2.length : Int) then
 let w10 : List Int := s4.2.set t7.toNat t9;
 let t11 := i64.wrap (s4.1 + 1);
 some (Sum.inl (t11, w10))
 else
 none)
 else
 none)
 else
 none)
 else
 some (Sum.inr s4.2))
noncomputable def Z61l10 (s17 : Int × (List Int)) : Option ((Int × (List Int)) ⊕ ((List Int))) :=
 (if (decide (s17.1 < 257)) = true then
 let t20 := i64.wrap (s17.1 + 1);
 (if 0 <= t20 ∧ t20 < ((258 : Nat) : Int) ∧ t20 < (s17.2.length : Int) then
 let t21 : Int := rd s17.2 t20;
 (if 0 <= s17.1 ∧ s17.1 < ((258 : Nat) : Int) ∧ s17.1 < (s17.2.length : Int) then
 let t22 : Int := rd s17.2 s17.1;
 let t23 := i64.wrap (t21 + t22);
 (if 0 <= t20 ∧ t20 < ((258 : Nat) : Int) ∧ t20 < (s17.2.length : Int) then
 let w24 : List Int := s17.2.set t20.toNat t23;
 let t25 := i64.wrap (s17.1 + 1);
 some (Sum.inl (t25, w24))
 else
 none)
 else
 none)
 else
 none)
 else
 some (Sum.inr s17.2))
noncomputable def Z61l16 (l1 : List Int) (b29 : (List Int)) (s31 : Int × (List Int) × (List Int)) : Option ((Int × (List Int) × (List Int)) ⊕ ((List Int) × (List Int))) :=
 let v32 := s31.1;
 let b33 := s31.2.1;
 (if (decide (v32 < ((l1.length : Nat) : Int))) = true then
 (if 0 <= v32 ∧ v32 < (l1.length : Int) then
 (if 0 <= rd l1 v32 ∧ rd l1 v32 < ((258 : Nat) : Int) ∧ rd l1 v32 < (b29.length : Int) then
 let t35 : Int := rd b29 (rd l1 v32);
 (if 0 <= rd l1 v32 ∧ rd l1 v32 < ((258 : Nat) : Int) ∧ rd l1 v32 < (b33.length : Int) then
 let t36 : Int := rd b33 (rd l1 v32);
 let t37 := i64.wrap (t35 + t36);
 (if 0 <= v32 ∧ v32 < (s31.2.2.length : Int) then
 let w38 : List Int := s31.2.2.set v32.toNat t37;
 (if 0 <= rd l1 v32 ∧ rd l1 v32 < ((258 : Nat) : Int) ∧ rd l1 v32 < (b33.length : Int) then
 let t39 : Int := rd b33 (rd l1 v32);
 let t40 := i64.wrap (t39 + 1);
 (if 0 <= rd l1 v32 ∧ rd l1 v32 < ((258 : Nat) : Int) ∧ rd l1 v32 < (b33.length : Int) then
 let w41 : List Int := b33.set (rd l1 v32).toNat t40;
 let t42 := i64.wrap (v32 + 1);
 some (Sum.inl (t42, w41, w38))
 else
 none)
 else
 none)
 else
 none)
 else
 none)
 else
 none)
 else
 none)
 else
 some (Sum.inr (b33, s31.2.2)))
noncomputable def Z61l25 (l1 b50 : List Int) (s55 : Int × (List Int) × Int × (List Int) × Int) : Option ((Int × (List Int) × Int × (List Int) × Int) ⊕ (((List Int) × Int × (List Int) × Int) ⊕ ((List Int) × Int × (List Int) × Int))) :=
 let b59 := s55.2.2.2.1;
 let b60 := s55.2.2.2.2;
 (if (decide (s55.1 ≥ 0)) = true then
 (if 0 <= s55.1 ∧ s55.1 < (b59.length : Int) then
 let t61 : Int := rd b59 s55.1;
 (if 0 <= b60 ∧ b60 < (l1.length : Int) then
 (if (decide (rd l1 b60 = 0)) = true then
 some (Sum.inr (Sum.inr ([], 3, b59, b60)))
 else
 (if 0 <= b60 ∧ b60 < (l1.length : Int) then
 let t62 := i64.wrap (rd l1 b60 - 1);
 let t63 := u8.wrap t62;
 (if 0 <= s55.1 ∧ s55.1 < (b59.length : Int) then
 let w64 : List Int := b59.set s55.1.toNat t63;
 (if 0 <= b60 ∧ b60 < (b50.length : Int) then
 let t65 : Int := rd b50 b60;
 let i66 := i64.wrap (s55.1 - 1);
 some (Sum.inl (i66, s55.2.1, s55.2.2.1, w64, t65))
 else
 none)
 else
 none)
 else
 none))
 else
 none)
 else
 none)
 else
 some (Sum.inr (Sum.inl (s55.2.1, s55.2.2.1, b59, b60))))
noncomputable def Z61_b (loop : type_of% @loop) (Z61l3 : type_of% @Z61l3) (Z61l10 : type_of% @Z61l10) (Z61l16 : type_of% @Z61l16) (Z109 : type_of% @Z109) (Z61l25 : type_of% @Z61l25) (Z75 : type_of% @Z75) (Z110 : type_of% @Z110) (l1 : List Int) : Option ((List Int) × Int) :=
 let begins2 : List Int := List.replicate 258 0;
 let seen3 : List Int := List.replicate 258 0;
 (loop (Z61l3 l1) (0, begins2)).bind (fun b15 =>
 (if 0 <= (1 : Int) ∧ (1 : Int) < ((258 : Nat) : Int) ∧ (1 : Int) < (b15.length : Int) then
 let t16 : Int := rd b15 1;
 (if (!decide (t16 = 1)) = true then
 some ([], 3)
 else
 (loop (Z61l10) (0, b15)).bind (fun b29 =>
 (if 0 <= ((l1.length : Nat) : Int) ∧ ((l1.length : Nat) : Int) <= ((l1.length : Nat) : Int) ∧ ((8 : Nat) : Int) * ((l1.length : Nat) : Int) <= 281474976710656 then
 let t30 : List Int := List.replicate ((l1.length : Nat) : Int).toNat 0;
 (loop (Z61l16 l1 b29) (0, seen3, t30)).bind (fun p48 =>
 let t51 := i64.wrap (((l1.length : Nat) : Int) - 1);
 (if 0 <= t51 ∧ t51 <= t51 ∧ ((1 : Nat) : Int) * t51 <= 281474976710656 then
 let t52 : List Int := List.replicate t51.toNat 0;
 (Z109 t52).bind fun q53 =>
 let x54 := i64.wrap (((q53.length : Nat) : Int) - 1);
 (loop (Z61l25 l1 p48.2) (x54, [], 0, q53, 0)).bind (fun o77 =>
 (Sum.elim (fun (p67 : (List Int) × Int × (List Int) × Int) =>
 (Z75 p67.2.2.1).bind fun q78 =>
 (Z110 q78 l1).bind fun q79 =>
 (if (!q79) = true then
 some ([], 3)
 else
 some (p67.2.2.1, 0)))
 (fun (p72 : (List Int) × Int × (List Int) × Int) =>
 some (p72.1, p72.2.1)) o77))
 else
 none))
 else
 none)))
 else
 none))
theorem Z61_eq l1 : Z61 l1 = Z61_b @loop @Z61l3 @Z61l10 @Z61l16 @Z109 @Z61l25 @Z75 @Z110 l1 := (B0 ..).trans (by kernel_rfl)
noncomputable def Z62_b (Z23 : type_of% @Z23) (n1 : Int) (b2 : List Int) (b3 b4 : Int) : Option ((List Int) × (List Int) × Int × Int) :=
 let t5 := i64.wrap (((b2.length : Nat) : Int) - b3);
 (Z23 (decide (n1 <= t5)) 6 b2 b3 b4).bind fun q6 =>
 (if (!q6.1) = true then
 some ([], q6.2.1, q6.2.2.1, q6.2.2.2)
 else
 let t11 := i64.wrap (q6.2.2.1 + n1);
 let t12 := i64.wrap (t11 - n1);
 (if 0 <= t11 ∧ t11 <= ((q6.2.1.length : Nat) : Int) then
 (if 0 <= t12 ∧ t12 <= t11 then
 let t13 : List Int := cutL q6.2.1 t12.toNat t11.toNat;
 some (t13, q6.2.1, t11, q6.2.2.2)
 else
 none)
 else
 none))
theorem Z62_eq n1 b2 b3 b4 : Z62 n1 b2 b3 b4 = Z62_b @Z23 n1 b2 b3 b4 := (B0 ..).trans (by kernel_rfl)
noncomputable def Z63_b (Z22 : type_of% @Z22) (Z23 : type_of% @Z23) (Z62 : type_of% @Z62) (Z70 : type_of% @Z70) (b1 : List Int) (b2 b3 : Int) : Option ((List Int) × (List Int) × Int × Int) :=
 (Z22 b1 b2 b3).bind fun q4 =>
 (Z23 (decide (q4.1 <= 20)) 3 q4.2.1 q4.2.2.1 q4.2.2.2).bind fun q9 =>
 (Z62 q4.1 q9.2.1 q9.2.2.1 q9.2.2.2).bind fun q14 =>
 (Z70 q14.1).bind fun q19 =>
 (Z23 q19 3 q14.2.1 q14.2.2.1 q14.2.2.2).bind fun q20 =>
 some (q14.1, q20.2.1, q20.2.2.1, q20.2.2.2)
theorem Z63_eq b1 b2 b3 : Z63 b1 b2 b3 = Z63_b @Z22 @Z23 @Z62 @Z70 b1 b2 b3 := (B0 ..).trans (by kernel_rfl)
end
end Go.Proofs.YtcphcfknnfibmaaGreat.P
