import Derived.Test.YtcphcfknnfibmaaGreatG
import Derived.Test.YtcphcfknnfibmaaGreatF5
namespace Go.Proofs.YtcphcfknnfibmaaGreat.P
open Go Go.IntKind Go.Proofs.YtcphcfknnfibmaaGreat.V
set_option linter.unusedVariables false
set_option linter.unusedSimpArgs false
set_option maxRecDepth 100000
noncomputable section
theorem Z0_eq (b1 : List File) (b2 : List Outline) : Z0 b1 b2 =
 (Z1 b1 b2).bind fun q3 =>
 (if q3 = true then
 (Z2).bind fun q4 =>
 some q4
 else
 (Z3 b1 b2).bind fun q5 =>
 (Z4 b1 b2).bind fun q8 =>
 (Z5 b1 b2).bind fun q11 =>
 (Z6 b1 b2).bind fun q14 =>
 ((if (!decide (q5.2 = q8.2)) = true then
 some true
 else
 (if (!decide (q11.2 = q14.2)) = true then
 some true
 else
 (Z7 q5.1 q8.1).bind fun q17 =>
 (if (!q17) = true then
 some true
 else
 (Z7 q11.1 q14.1).bind fun q18 =>
 (if (!q18) = true then
 some true
 else
 (Z8 b1 b2).bind fun q19 =>
 (Z9 b1 b2).bind fun q20 =>
 some (!decide (q19 = q20)))))) : Option (Bool)).bind (fun v21 =>
 (if v21 = true then
 some false
 else
 (if (!decide (q5.2 = 0)) = true then
 (Z2).bind fun q22 =>
 some q22
 else
 (Z10 q5.1).bind fun q23 =>
 (if (decide (q23.2.2 = 0)) = true then
 (Z11 q23.1 q23.2.1 b1 b2).bind fun q27 =>
 (if q27 = true then
 (Z12 q23.1 q23.2.1 b1 b2).bind fun q28 =>
 (if q28 = true then
 (Z2).bind fun q29 =>
 some q29
 else
 some false)
 else
 some false)
 else
 some false))))) := (B0 ..).trans (by kernel_rfl)
noncomputable def Z1l3 (b1 : List File) (s3 : Int × Int) : Option ((Int × Int) ⊕ (Int)) :=
 (if (decide (s3.2 < ((b1.length : Nat) : Int))) = true then
 let t6 := i64.wrap (s3.1 + 20);
 (if 0 <= s3.2 then
 (b1[s3.2.toNat]?).bind fun e7 =>
 let t8 := i64.wrap (t6 + ((e7.data.length : Nat) : Int));
 (if 0 <= s3.2 then
 (b1[s3.2.toNat]?).bind fun e9 =>
 let t10 := i64.wrap (t8 + ((e9.name.length : Nat) : Int));
 let t11 := i64.wrap (s3.2 + 1);
 some (Sum.inl (t10, t11))
 else
 none)
 else
 none)
 else
 some (Sum.inr s3.1))
theorem Z1_eq (b1 : List File) (b2 : List Outline) : Z1 b1 b2 =
 (loop (Z1l3 b1) (0, 0)).bind (fun n15 =>
 (if (decide (n15 > 5000)) = true then
 some true
 else
 (Z13 b2 40 3000).bind fun q16 =>
 some (decide (q16 < 0)))) := (B0 ..).trans (by kernel_rfl)
theorem Z2_eq : Z2 =
 (Z3 [] []).bind fun q1 =>
 (Z10 q1.1).bind fun q4 =>
 (Z14 q4.1 q4.2.1 0 [97] 2 []).bind fun q8 =>
 (if (decide (q1.2 = 0)) = true then
 (if (decide (((q1.1.length : Nat) : Int) > 8)) = true then
 (if (decide (q4.2.2 = 0)) = true then
 (if (decide (q8.2.2 = 0)) = true then
 some (decide (((q8.1.length : Nat) : Int) = 1))
 else
 some false)
 else
 some false)
 else
 some false)
 else
 some false) := (B0 ..).trans (by kernel_rfl)
theorem Z3_eq (b1 : List File) (b2 : List Outline) : Z3 b1 b2 =
 (Z15 [66, 79, 79, 75] b1 b2 b1).bind fun q3 =>
 some (q3.1, q3.2) := (B0 ..).trans (by kernel_rfl)
theorem Z4_eq (b1 : List File) (b2 : List Outline) : Z4 b1 b2 =
 (Z16 [66, 79, 79, 75] b1 b2 b1).bind fun q3 =>
 (Z17 q3.1 q3.2).bind fun q6 =>
 some (q6.1, q6.2) := (B0 ..).trans (by kernel_rfl)
theorem Z5_eq (b1 : List File) (b2 : List Outline) : Z5 b1 b2 =
 (Z15 [66, 79, 79, 75] b1 b2 []).bind fun q3 =>
 some (q3.1, q3.2) := (B0 ..).trans (by kernel_rfl)
theorem Z6_eq (b1 : List File) (b2 : List Outline) : Z6 b1 b2 =
 (Z16 [66, 79, 79, 75] b1 b2 []).bind fun q3 =>
 (Z17 q3.1 q3.2).bind fun q6 =>
 some (q6.1, q6.2) := (B0 ..).trans (by kernel_rfl)
theorem Z7_eq (a1 b2 : List Int) : Z7 a1 b2 =
 some (decide (a1 = b2)) := (B0 ..).trans (by kernel_rfl)
noncomputable def Z8l4 (b1 : List File) (v5 : Int) : Option ((Int) ⊕ ((Unit) ⊕ (Bool))) :=
 (if (decide (v5 < ((b1.length : Nat) : Int))) = true then
 (if 0 <= v5 then
 (b1[v5.toNat]?).bind fun e6 =>
 (Z19 e6.name e6.kind e6.data).bind fun q7 =>
 (if (!q7) = true then
 some (Sum.inr (Sum.inr false))
 else
 (if 0 <= v5 ∧ v5 <= ((b1.length : Nat) : Int) then
 let t8 : List File := cutL b1 0 v5.toNat;
 (Z20 t8 e6.name).bind fun q9 =>
 (if (decide (q9 ≥ 0)) = true then
 some (Sum.inr (Sum.inr false))
 else
 let t10 := i64.wrap (v5 + 1);
 some (Sum.inl t10))
 else
 none))
 else
 none)
 else
 some (Sum.inr (Sum.inl ())))
theorem Z8_eq (b1 : List File) (b2 : List Outline) : Z8 b1 b2 =
 ((if (decide (((b1.length : Nat) : Int) > 40)) = true then
 some true
 else
 (Z18 b2).bind fun q3 =>
 some (!q3)) : Option (Bool)).bind (fun v4 =>
 (if v4 = true then
 some false
 else
 (loop (Z8l4 b1) 0).bind (fun o16 =>
 (Sum.elim (fun (p14 : Unit) =>
 some true)
 (fun (v15 : Bool) =>
 some v15) o16)))) := (B0 ..).trans (by kernel_rfl)
noncomputable def Z9l2 (b1 : List File) (i3 : Int) : Option ((Int) ⊕ ((Unit) ⊕ (Bool))) :=
 (if (decide (i3 < ((b1.length : Nat) : Int))) = true then
 (if 0 <= i3 then
 (b1[i3.toNat]?).bind fun e4 =>
 (Z21 e4.name e4.kind e4.data).bind fun q5 =>
 (if (!q5) = true then
 some (Sum.inr (Sum.inr false))
 else
 let t6 := i64.wrap (i3 + 1);
 some (Sum.inl t6))
 else
 none)
 else
 some (Sum.inr (Sum.inl ())))
theorem Z9_eq (b1 : List File) (b2 : List Outline) : Z9 b1 b2 =
 (loop (Z9l2 b1) 0).bind (fun o12 =>
 (Sum.elim (fun (p10 : Unit) =>
 (if (decide (((b1.length : Nat) : Int) <= 40)) = true then
 (Z22 b1).bind fun q13 =>
 (if (!q13) = true then
 (Z23 b2).bind fun q14 =>
 some q14
 else
 some false)
 else
 some false))
 (fun (v11 : Bool) =>
 some v11) o12)) := (B0 ..).trans (by kernel_rfl)
noncomputable def Z10l8 (tr3 : List Chunk) (s7 : Int × (List Outline) × (List Entuint8) × (List Int) × (List Outline) × (List File) × (List File)) : Option ((Int × (List Outline) × (List Entuint8) × (List Int) × (List Outline) × (List File) × (List File)) ⊕ (((List Outline) × (List Entuint8) × (List Int) × (List Outline) × (List File) × (List File)) ⊕ (Int × (List Outline) × (List Entuint8) × (List Int) × (List Outline) × (List File) × (List File)))) :=
 (if (decide (s7.1 < ((tr3.length : Nat) : Int))) = true then
 (if 0 <= s7.1 then
 (tr3[s7.1.toNat]?).bind fun e15 =>
 (Z26 e15.id e15.kind e15.data e15.kids s7.2.2.2.1 s7.2.2.2.2.1 s7.2.2.2.2.2.2 s7.2.2.1).bind fun q16 =>
 (if (!decide (q16.1 = 0)) = true then
 some (Sum.inr (Sum.inr (q16.1, [], q16.2.2.2.1, q16.2.1, q16.2.2.1, [], q16.2.2.2.2)))
 else
 let t22 := i64.wrap (s7.1 + 1);
 some (Sum.inl (t22, s7.2.1, q16.2.2.2.1, q16.2.1, q16.2.2.1, s7.2.2.2.2.2.1, q16.2.2.2.2)))
 else
 none)
 else
 some (Sum.inr (Sum.inl (s7.2.1, s7.2.2.1, s7.2.2.2.1, s7.2.2.2.2.1, s7.2.2.2.2.2.1, s7.2.2.2.2.2.2))))
noncomputable def Z10l15 (b34 : List Entuint8) (b35 : List Int) (b38 : List File) (s48 : Int × (List Outline) × (List File) × (List File)) : Option ((Int × (List Outline) × (List File) × (List File)) ⊕ (((List Outline) × (List File) × (List File)) ⊕ (Int × (List Outline) × (List File) × (List File) × (List File)))) :=
 let v49 := s48.1;
 let b52 := s48.2.2.2;
 (if (decide (v49 < ((b38.length : Nat) : Int))) = true then
 (if 0 <= v49 ∧ v49 < (b52.length : Int) then
 (b52[v49.toNat]?).bind fun e53 =>
 let f54 : Option Entuint8 := findM (fun (e : Entuint8) => KV.str e.key) (KV.str e53.name) b34;
 let e55 : Entuint8 := f54.getD (Entuint8.mk e53.name []);
 ((if (!f54.isSome) = true then
 some true
 else
 (if 0 <= v49 ∧ v49 < (b35.length : Int) then
 some (!decide (((e55.val.length : Nat) : Int) = rd b35 v49))
 else
 none)) : Option (Bool)).bind (fun v56 =>
 (if v56 = true then
 some (Sum.inr (Sum.inr (110, [], s48.2.2.1, b52, [])))
 else
 (if 0 <= v49 ∧ v49 < (b52.length : Int) then
 (b52[v49.toNat]?).bind fun e57 =>
 let w58 : List File := b52.set v49.toNat (File.mk e57.name e57.kind e55.val);
 let t59 := i64.wrap (v49 + 1);
 some (Sum.inl (t59, s48.2.1, s48.2.2.1, w58))
 else
 none)))
 else
 none)
 else
 some (Sum.inr (Sum.inl (s48.2.1, s48.2.2.1, b52))))
theorem Z10_eq (b1 : List Int) : Z10 b1 =
 (Z24 b1).bind fun q2 =>
 (if (!decide (q2.2.2 = 0)) = true then
 some ([], [], q2.2.2)
 else
 (Z25 q2.1).bind fun q6 =>
 (if (!q6) = true then
 some ([], [], 3)
 else
 (loop (Z10l8 q2.1) (0, [], [], [], [], [], [])).bind (fun o47 =>
 (Sum.elim (fun (p32 : (List Outline) × (List Entuint8) × (List Int) × (List Outline) × (List File) × (List File)) =>
 (loop (Z10l15 p32.2.1 p32.2.2.1 p32.2.2.2.2.2) (0, p32.1, p32.2.2.2.2.1, p32.2.2.2.2.2)).bind (fun o76 =>
 (Sum.elim (fun (p66 : (List Outline) × (List File) × (List File)) =>
 some (p66.2.2, p32.2.2.2.1, 0))
 (fun (p70 : Int × (List Outline) × (List File) × (List File) × (List File)) =>
 some (p70.2.2.2.2, p70.2.1, p70.1)) o76)))
 (fun (p39 : Int × (List Outline) × (List Entuint8) × (List Int) × (List Outline) × (List File) × (List File)) =>
 some (p39.2.2.2.2.2.1, p39.2.1, p39.1)) o47)))) := (B0 ..).trans (by kernel_rfl)
noncomputable def Z11l4 (a1 b3 : List File) (i7 : Int) : Option ((Int) ⊕ ((Unit) ⊕ (Bool))) :=
 (if (decide (i7 < ((a1.length : Nat) : Int))) = true then
 (if 0 <= i7 then
 (a1[i7.toNat]?).bind fun e8 =>
 (if 0 <= i7 then
 (b3[i7.toNat]?).bind fun e9 =>
 (Z28 e8.name e8.kind e8.data e9.name e9.kind e9.data).bind fun q10 =>
 (if (!q10) = true then
 some (Sum.inr (Sum.inr false))
 else
 let t11 := i64.wrap (i7 + 1);
 some (Sum.inl t11))
 else
 none)
 else
 none)
 else
 some (Sum.inr (Sum.inl ())))
theorem Z11_eq (a1 : List File) (a2 : List Outline) (b3 : List File) (b4 : List Outline) : Z11 a1 a2 b3 b4 =
 ((if (!decide (((a1.length : Nat) : Int) = ((b3.length : Nat) : Int))) = true then
 some true
 else
 (Z27 a2 b4).bind fun q5 =>
 some (!q5)) : Option (Bool)).bind (fun v6 =>
 (if v6 = true then
 some false
 else
 (loop (Z11l4 a1 b3) 0).bind (fun o17 =>
 (Sum.elim (fun (p15 : Unit) =>
 some true)
 (fun (v16 : Bool) =>
 some v16) o17)))) := (B0 ..).trans (by kernel_rfl)
theorem Z12_eq (a1 : List File) (a2 : List Outline) (b3 : List File) (b4 : List Outline) : Z12 a1 a2 b3 b4 =
 (Z29 a2 b4).bind fun q5 =>
 (if q5 = true then
 (Z30 a1 b3).bind fun q6 =>
 some q6
 else
 some false) := (B0 ..).trans (by kernel_rfl)
noncomputable def Z13l4 (l1 : List Outline) (deep2 : Int) (s4 : Int × Int) : Option ((Int × Int) ⊕ (Int)) :=
 ((if (decide (s4.2 < ((l1.length : Nat) : Int))) = true then
 some (decide (s4.1 ≥ 0))
 else
 some false) : Option (Bool)).bind (fun v7 =>
 (if v7 = true then
 (if 0 <= s4.2 then
 (l1[s4.2.toNat]?).bind fun e8 =>
 let t9 := i64.wrap (deep2 - 1);
 let t10 := i64.wrap (s4.1 - 1);
 (if 0 <= s4.2 then
 (l1[s4.2.toNat]?).bind fun e11 =>
 let t12 := i64.wrap (t10 - ((e11.title.length : Nat) : Int));
 (Z13 e8.kids t9 t12).bind fun q13 =>
 let t14 := i64.wrap (s4.2 + 1);
 some (Sum.inl (q13, t14))
 else
 none)
 else
 none)
 else
 some (Sum.inr s4.1)))
theorem Z13_eq (l1 : List Outline) (deep2 left3 : Int) : Z13 l1 deep2 left3 =
 (if (decide (deep2 = 0)) = true then
 some (-1)
 else
 (loop (Z13l4 l1 deep2) (left3, 0)).bind (fun left15 =>
 some left15)) := (B0 ..).trans (by kernel_rfl)
theorem Z14_eq (b1 : List File) (b2 : List Outline) (at3 : Int) (f4 : List Int) (f5 : Int) (f6 : List Int) : Z14 b1 b2 at3 f4 f5 f6 =
 (Z8 b1 b2).bind fun q7 =>
 ((if (!q7) = true then
 some (Sum.inr (110, [], []))
 else
 ((Z19 f4 f5 f6).bind fun q8 =>
 (if (!q8) = true then
 some true
 else
 (if (decide (at3 < 0)) = true then
 some true
 else
 some (decide (at3 > ((b1.length : Nat) : Int))))) : Option (Bool)).bind (fun v9 =>
 (if v9 = true then
 some (Sum.inr (2, [], []))
 else
 (Z20 b1 f4).bind fun q10 =>
 (if (decide (q10 ≥ 0)) = true then
 some (Sum.inr (8, [], []))
 else
 (if (decide (((b1.length : Nat) : Int) = 40)) = true then
 some (Sum.inr (4, [], []))
 else
 some (Sum.inl ([], []))))))) : Option (((List Outline) × (List File)) ⊕ (Int × (List Outline) × (List File)))).bind (fun o18 =>
 (Sum.elim (fun (p11 : (List Outline) × (List File)) =>
 (Z31 b1 b2).bind fun q19 =>
 (Z32 f6).bind fun q22 =>
 (Z33 at3 [(File.mk f4 f5 q22)] q19.2).bind fun q23 =>
 some (q23, q19.1, 0))
 (fun (p14 : Int × (List Outline) × (List File)) =>
 some (p14.2.2, p14.2.1, p14.1)) o18)) := (B0 ..).trans (by kernel_rfl)
noncomputable def Z15l6 (files4 : List File) (s8 : Int × (List Chunk) × (List Int) × (List Int) × (List Int)) : Option ((Int × (List Chunk) × (List Int) × (List Int) × (List Int)) ⊕ ((List Chunk) × (List Int) × (List Int) × (List Int))) :=
 (if (decide (s8.1 < ((files4.length : Nat) : Int))) = true then
 (if 0 <= s8.1 then
 (files4[s8.1.toNat]?).bind fun e14 =>
 (Z35 e14.name e14.kind e14.data).bind fun q15 =>
 (if (s8.2.1.length + ([(Chunk.mk q15.1 q15.2.1 q15.2.2.1 q15.2.2.2)] : List Chunk).length) * 80 <= 140737488355328 then
 let t20 : List Chunk := s8.2.1 ++ [(Chunk.mk q15.1 q15.2.1 q15.2.2.1 q15.2.2.2)];
 let t21 := i64.wrap (s8.1 + 1);
 some (Sum.inl (t21, t20, s8.2.2.1, s8.2.2.2.1, s8.2.2.2.2))
 else
 none)
 else
 none)
 else
 some (Sum.inr (s8.2.1, s8.2.2.1, s8.2.2.2.1, s8.2.2.2.2)))
theorem Z15_eq (kind1 : List Int) (b2 : List File) (b3 : List Outline) (files4 : List File) : Z15 kind1 b2 b3 files4 =
 (Z34 b2 b3).bind fun q5 =>
 (if (!decide (q5.2 = 0)) = true then
 some ([], q5.2)
 else
 (loop (Z15l6 files4) (0, [(Chunk.mk [68, 73, 82, 77] [] q5.1 [])], [70, 79, 82, 77], kind1, [])).bind (fun p29 =>
 (Z36 [(Chunk.mk p29.2.1 p29.2.2.1 p29.2.2.2 p29.1)]).bind fun q34 =>
 (if (!decide (q34.2 = 0)) = true then
 some ([], 4)
 else
 some (q34.1, 0)))) := (B0 ..).trans (by kernel_rfl)
noncomputable def Z16l6 (files4 : List File) (s8 : Int × (List Chunk)) : Option ((Int × (List Chunk)) ⊕ ((List Chunk))) :=
 (if (decide (s8.1 < ((files4.length : Nat) : Int))) = true then
 (if 0 <= s8.1 then
 (files4[s8.1.toNat]?).bind fun e11 =>
 (Z38 e11.name e11.kind e11.data).bind fun q12 =>
 (if (s8.2.length + ([(Chunk.mk q12.1 q12.2.1 q12.2.2.1 q12.2.2.2)] : List Chunk).length) * 80 <= 140737488355328 then
 let t17 : List Chunk := s8.2 ++ [(Chunk.mk q12.1 q12.2.1 q12.2.2.1 q12.2.2.2)];
 let t18 := i64.wrap (s8.1 + 1);
 some (Sum.inl (t18, t17))
 else
 none)
 else
 none)
 else
 some (Sum.inr s8.2))
theorem Z16_eq (kind1 : List Int) (b2 : List File) (b3 : List Outline) (files4 : List File) : Z16 kind1 b2 b3 files4 =
 (Z37 b2 b3).bind fun q5 =>
 (if (!decide (q5.2 = 0)) = true then
 some ([], q5.2)
 else
 (loop (Z16l6 files4) (0, [(Chunk.mk [68, 73, 82, 77] [] q5.1 [])])).bind (fun kids22 =>
 (Z39 [(Chunk.mk [70, 79, 82, 77] kind1 [] kids22)]).bind fun q23 =>
 (if (!decide (q23.2 = 0)) = true then
 some ([], 4)
 else
 some (q23.1, 0)))) := (B0 ..).trans (by kernel_rfl)
theorem Z17_eq (b1 : List Int) (e2 : Int) : Z17 b1 e2 =
 (if (!decide (e2 = 0)) = true then
 some ([], e2)
 else
 (if (decide (((b1.length : Nat) : Int) > 60000)) = true then
 some ([], 4)
 else
 some (b1, 0))) := (B0 ..).trans (by kernel_rfl)
theorem Z18_eq (l1 : List Outline) : Z18 l1 =
 (Z40 l1 1 0).bind fun q2 =>
 some q2.1 := (B0 ..).trans (by kernel_rfl)
theorem Z19_eq (f1 : List Int) (f2 : Int) (f3 : List Int) : Z19 f1 f2 f3 =
 (Z41 f1).bind fun q4 =>
 (if q4 = true then
 (if (decide (f2 ≥ 0)) = true then
 (if (decide (f2 <= 2)) = true then
 some (decide (((f3.length : Nat) : Int) <= 60000))
 else
 some false)
 else
 some false)
 else
 some false) := (B0 ..).trans (by kernel_rfl)
theorem Z20_eq (l1 : List File) (name2 : List Int) : Z20 l1 name2 =
 (Z42 l1 name2).bind fun q3 =>
 some q3.1 := (B0 ..).trans (by kernel_rfl)
theorem Z21_eq (f1 : List Int) (f2 : Int) (f3 : List Int) : Z21 f1 f2 f3 =
 (Z43 f1).bind fun q4 =>
 (if q4 = true then
 (if (decide (f2 ≥ 0)) = true then
 (if (decide (f2 <= 2)) = true then
 some (decide (((f3.length : Nat) : Int) <= 60000))
 else
 some false)
 else
 some false)
 else
 some false) := (B0 ..).trans (by kernel_rfl)
noncomputable def Z22l2 (l1 : List File) (i2 : Int) : Option ((Int) ⊕ ((Unit) ⊕ (Bool))) :=
 (if (decide (i2 < ((l1.length : Nat) : Int))) = true then
 (if 0 <= i2 then
 (l1[i2.toNat]?).bind fun e3 =>
 (Z44 l1 e3.name).bind fun q4 =>
 (if (decide (q4 < i2)) = true then
 some (Sum.inr (Sum.inr true))
 else
 let t5 := i64.wrap (i2 + 1);
 some (Sum.inl t5))
 else
 none)
 else
 some (Sum.inr (Sum.inl ())))
theorem Z22_eq (l1 : List File) : Z22 l1 =
 (loop (Z22l2 l1) 0).bind (fun o11 =>
 (Sum.elim (fun (p9 : Unit) =>
 some false)
 (fun (v10 : Bool) =>
 some v10) o11)) := (B0 ..).trans (by kernel_rfl)
theorem Z23_eq (l1 : List Outline) : Z23 l1 =
 (Z45 l1).bind fun q2 =>
 (if q2.2.2 = true then
 (if (decide (q2.1 <= 400)) = true then
 some (decide (q2.2.1 <= 20))
 else
 some false)
 else
 some false) := (B0 ..).trans (by kernel_rfl)
theorem Z24_eq (b1 : List Int) : Z24 b1 =
 (if (decide (((b1.length : Nat) : Int) > 60000)) = true then
 some ([], 0, 4)
 else
 (Z46 0 ((b1.length : Nat) : Int) 1 b1 0 0 0).bind fun q2 =>
 (if (!decide (q2.2.2.2.1 = 0)) = true then
 some ([], q2.2.2.2.2, q2.2.2.2.1)
 else
 some (q2.1, 0, 0))) := (B0 ..).trans (by kernel_rfl)
noncomputable def Z25l2 (l1 : List Chunk) (v2 : Int) : Option ((Int) ⊕ ((Unit) ⊕ (Bool))) :=
 (if (decide (v2 < ((l1.length : Nat) : Int))) = true then
 (if 0 <= v2 then
 (l1[v2.toNat]?).bind fun e3 =>
 ((if (decide (v2 = 0)) = true then
 some [66, 79, 79, 75]
 else
 some [77, 79, 82, 69]) : Option ((List Int))).bind (fun kind4 =>
 ((if (!decide (e3.id = [70, 79, 82, 77])) = true then
 some true
 else
 (if (!decide (e3.kind = kind4)) = true then
 some true
 else
 (if (decide (((e3.kids.length : Nat) : Int) = 0)) = true then
 some true
 else
 (if 0 <= (0 : Int) then
 (e3.kids[(0 : Int).toNat]?).bind fun e5 =>
 some (!decide (e5.id = [68, 73, 82, 77]))
 else
 none)))) : Option (Bool)).bind (fun v6 =>
 (if v6 = true then
 some (Sum.inr (Sum.inr false))
 else
 (if 0 <= (1 : Int) ∧ (1 : Int) <= ((e3.kids.length : Nat) : Int) then
 let t7 : List Chunk := cutL e3.kids ((1 : Int).toNat) e3.kids.length;
 (Z47 t7).bind fun q8 =>
 (if q8 = true then
 some (Sum.inr (Sum.inr false))
 else
 let t9 := i64.wrap (v2 + 1);
 some (Sum.inl t9))
 else
 none))))
 else
 none)
 else
 some (Sum.inr (Sum.inl ())))
theorem Z25_eq (l1 : List Chunk) : Z25 l1 =
 (loop (Z25l2 l1) 0).bind (fun o15 =>
 (Sum.elim (fun (p13 : Unit) =>
 some (decide (((l1.length : Nat) : Int) > 0)))
 (fun (v14 : Bool) =>
 some v14) o15)) := (B0 ..).trans (by kernel_rfl)
noncomputable def Z26l6 (tr14 : List File) (t15 : List Chunk) (s16 : Int × (List Entuint8)) : Option ((Int × (List Entuint8)) ⊕ (((List Entuint8)) ⊕ (Int × (List Entuint8)))) :=
 (if (decide (s16.1 < ((t15.length : Nat) : Int))) = true then
 (if 0 <= s16.1 then
 (t15[s16.1.toNat]?).bind fun e19 =>
 (Z49 e19.data 0 0).bind fun q20 =>
 ((if (!decide (q20.2.2.2 = 0)) = true then
 some true
 else
 (Z20 tr14 q20.1).bind fun q25 =>
 some (decide (q25 < 0))) : Option (Bool)).bind (fun v26 =>
 (if v26 = true then
 some (Sum.inr (Sum.inr (3, s16.2)))
 else
 (if 0 <= q20.2.2.1 ∧ q20.2.2.1 <= ((e19.data.length : Nat) : Int) then
 let t27 : List Int := cutL e19.data q20.2.2.1.toNat e19.data.length;
 (Z32 t27).bind fun q28 =>
 let m29 : List Entuint8 := putM (fun (e : Entuint8) => KV.str e.key) (Entuint8.mk q20.1 q28) s16.2;
 let t30 := i64.wrap (s16.1 + 1);
 some (Sum.inl (t30, m29))
 else
 none)))
 else
 none)
 else
 some (Sum.inr (Sum.inl s16.2)))
theorem Z26_eq (c1 c2 c3 : List Int) (c4 : List Chunk) (b5 : List Int) (b6 : List Outline) (b7 : List File) (b8 : List Entuint8) : Z26 c1 c2 c3 c4 b5 b6 b7 b8 =
 (if 0 <= (0 : Int) then
 (c4[(0 : Int).toNat]?).bind fun e9 =>
 (Z48 e9.data).bind fun q10 =>
 (if (!decide (q10.2.2.1 = 0)) = true then
 some (q10.2.2.1, q10.1, q10.2.1, b8, q10.2.2.2)
 else
 (if 0 <= (1 : Int) ∧ (1 : Int) <= ((c4.length : Nat) : Int) then
 let t15 : List Chunk := cutL c4 ((1 : Int).toNat) c4.length;
 (loop (Z26l6 q10.2.2.2 t15) (0, b8)).bind (fun o38 =>
 (Sum.elim (fun (b34 : (List Entuint8)) =>
 some (0, q10.1, q10.2.1, b34, q10.2.2.2))
 (fun (p35 : Int × (List Entuint8)) =>
 some (p35.1, q10.1, q10.2.1, p35.2, q10.2.2.2)) o38))
 else
 none))
 else
 none) := (B0 ..).trans (by kernel_rfl)
noncomputable def Z27l4 (a1 b2 : List Outline) (i3 : Int) : Option ((Int) ⊕ ((Unit) ⊕ (Bool))) :=
 (if (decide (i3 < ((a1.length : Nat) : Int))) = true then
 (if 0 <= i3 then
 (a1[i3.toNat]?).bind fun e4 =>
 (if 0 <= i3 then
 (b2[i3.toNat]?).bind fun e5 =>
 (if (!decide (e4.title = e5.title)) = true then
 some (Sum.inr (Sum.inr false))
 else
 (if 0 <= i3 then
 (a1[i3.toNat]?).bind fun e6 =>
 (if 0 <= i3 then
 (b2[i3.toNat]?).bind fun e7 =>
 (if (!decide (e6.page = e7.page)) = true then
 some (Sum.inr (Sum.inr false))
 else
 (if 0 <= i3 then
 (a1[i3.toNat]?).bind fun e8 =>
 (if 0 <= i3 then
 (b2[i3.toNat]?).bind fun e9 =>
 (Z27 e8.kids e9.kids).bind fun q10 =>
 (if (!q10) = true then
 some (Sum.inr (Sum.inr false))
 else
 let t11 := i64.wrap (i3 + 1);
 some (Sum.inl t11))
 else
 none)
 else
 none))
 else
 none)
 else
 none))
 else
 none)
 else
 none)
 else
 some (Sum.inr (Sum.inl ())))
theorem Z27_eq (a1 b2 : List Outline) : Z27 a1 b2 =
 (if (!decide (((a1.length : Nat) : Int) = ((b2.length : Nat) : Int))) = true then
 some false
 else
 (loop (Z27l4 a1 b2) 0).bind (fun o17 =>
 (Sum.elim (fun (p15 : Unit) =>
 some true)
 (fun (v16 : Bool) =>
 some v16) o17))) := (B0 ..).trans (by kernel_rfl)
theorem Z28_eq (a1 : List Int) (a2 : Int) (a3 b4 : List Int) (b5 : Int) (b6 : List Int) : Z28 a1 a2 a3 b4 b5 b6 =
 (if (decide (a1 = b4)) = true then
 (if (decide (a2 = b5)) = true then
 some (decide (a3 = b6))
 else
 some false)
 else
 some false) := (B0 ..).trans (by kernel_rfl)
theorem Z29_eq (a1 b2 : List Outline) : Z29 a1 b2 =
 (Z50 a1 b2).bind fun q3 =>
 some q3 := (B0 ..).trans (by kernel_rfl)
noncomputable def Z30l4 (s1 s2 : List File) (v3 : Int) : Option ((Int) ⊕ ((Unit) ⊕ (Bool))) :=
 (if (decide (v3 < ((s1.length : Nat) : Int))) = true then
 (if 0 <= v3 then
 (s1[v3.toNat]?).bind fun e4 =>
 (if 0 <= v3 then
 (s2[v3.toNat]?).bind fun e5 =>
 (Z51 e4.name e4.kind e4.data e5.name e5.kind e5.data).bind fun q6 =>
 (if (!q6) = true then
 some (Sum.inr (Sum.inr false))
 else
 let t7 := i64.wrap (v3 + 1);
 some (Sum.inl t7))
 else
 none)
 else
 none)
 else
 some (Sum.inr (Sum.inl ())))
theorem Z30_eq (s1 s2 : List File) : Z30 s1 s2 =
 (if (!decide (((s1.length : Nat) : Int) = ((s2.length : Nat) : Int))) = true then
 some false
 else
 (loop (Z30l4 s1 s2) 0).bind (fun o13 =>
 (Sum.elim (fun (p11 : Unit) =>
 some true)
 (fun (v12 : Bool) =>
 some v12) o13))) := (B0 ..).trans (by kernel_rfl)
noncomputable def Z31l3 (b1 : List File) (s4 : Int × (List Outline) × (List File)) : Option ((Int × (List Outline) × (List File)) ⊕ ((List Outline) × (List File))) :=
 (if (decide (s4.1 < ((b1.length : Nat) : Int))) = true then
 (if 0 <= s4.1 then
 (b1[s4.1.toNat]?).bind fun e8 =>
 (Z32 e8.data).bind fun q9 =>
 (if (s4.2.2.length + ([(File.mk e8.name e8.kind q9)] : List File).length) * 48 <= 140737488355328 then
 let t10 : List File := s4.2.2 ++ [(File.mk e8.name e8.kind q9)];
 let t11 := i64.wrap (s4.1 + 1);
 some (Sum.inl (t11, s4.2.1, t10))
 else
 none)
 else
 none)
 else
 some (Sum.inr (s4.2.1, s4.2.2)))
theorem Z31_eq (b1 : List File) (b2 : List Outline) : Z31 b1 b2 =
 (Z52 b2).bind fun q3 =>
 (loop (Z31l3 b1) (0, q3, [])).bind (fun p17 =>
 some (p17.1, p17.2)) := (B0 ..).trans (by kernel_rfl)
theorem Z32_eq (s1 : List Int) : Z32 s1 =
 (if s1.length = 0 then
 (demon
 (some [])
 ((if (([] : List Int).length + s1.length) * 1 <= 140737488355328 then
 let t2 : List Int := ([] : List Int) ++ s1;
 some t2
 else
 none)))
 else
 (if (([] : List Int).length + s1.length) * 1 <= 140737488355328 then
 let t3 : List Int := ([] : List Int) ++ s1;
 some t3
 else
 none)) := (B0 ..).trans (by kernel_rfl)
theorem Z33_eq (i1 : Int) (v2 b3 : List File) : Z33 i1 v2 b3 =
 (if 0 <= i1 ∧ i1 <= ((b3.length : Nat) : Int) then
 (if (decide (((v2.length : Nat) : Int) = 0)) = true then
 some b3
 else
 (if (decide (i1 = ((b3.length : Nat) : Int))) = true then
 (if (b3.length + v2.length) * 48 <= 140737488355328 then
 let t4 : List File := b3 ++ v2;
 some t4
 else
 none)
 else
 let t5 := i64.wrap (((b3.length : Nat) : Int) + ((v2.length : Nat) : Int));
 none))
 else
 none) := (B0 ..).trans (by kernel_rfl)
noncomputable def Z34l5 (b1 : List File) (s5 : Int × (List Int)) : Option ((Int × (List Int)) ⊕ ((List Int))) :=
 (if (decide (s5.1 < ((b1.length : Nat) : Int))) = true then
 (if 0 <= s5.1 then
 (b1[s5.1.toNat]?).bind fun e8 =>
 let t9 := u8.wrap e8.kind;
 (if (s5.2.length + ([t9] : List Int).length) * 1 <= 140737488355328 then
 let t10 : List Int := s5.2 ++ [t9];
 (Z53 ((e8.name.length : Nat) : Int) e8.name).bind fun q11 =>
 (if (t10.length + q11.length) * 1 <= 140737488355328 then
 let t12 : List Int := t10 ++ q11;
 (Z53 ((e8.data.length : Nat) : Int) []).bind fun q13 =>
 (if (t12.length + q13.length) * 1 <= 140737488355328 then
 let t14 : List Int := t12 ++ q13;
 let t15 := i64.wrap (s5.1 + 1);
 some (Sum.inl (t15, t14))
 else
 none)
 else
 none)
 else
 none)
 else
 none)
 else
 some (Sum.inr s5.2))
theorem Z34_eq (b1 : List File) (b2 : List Outline) : Z34 b1 b2 =
 (Z8 b1 b2).bind fun q3 =>
 (if (!q3) = true then
 some ([], 110)
 else
 (Z53 ((b1.length : Nat) : Int) []).bind fun q4 =>
 (loop (Z34l5 b1) (0, q4)).bind (fun out19 =>
 (Z54 b2).bind fun q20 =>
 (if (out19.length + q20.1.length) * 1 <= 140737488355328 then
 let t23 : List Int := out19 ++ q20.1;
 (Z55 t23).bind fun q24 =>
 some (q24.1, q24.2)
 else
 none))) := (B0 ..).trans (by kernel_rfl)
theorem Z35_eq (f1 : List Int) (f2 : Int) (f3 : List Int) : Z35 f1 f2 f3 =
 (Z53 ((f1.length : Nat) : Int) f1).bind fun q4 =>
 (if (q4.length + f3.length) * 1 <= 140737488355328 then
 let t5 : List Int := q4 ++ f3;
 some ([70, 73, 76, 69], [], t5, [])
 else
 none) := (B0 ..).trans (by kernel_rfl)
noncomputable def Z36l5 (l1 : List Chunk) (s3 : Int × Int) : Option ((Int × Int) ⊕ (Int)) :=
 (if (decide (s3.2 < ((l1.length : Nat) : Int))) = true then
 (if 0 <= s3.2 then
 (l1[s3.2.toNat]?).bind fun e6 =>
 (Z57 e6.id e6.kind e6.data e6.kids).bind fun q7 =>
 let t8 := i64.wrap (s3.1 + q7);
 let t9 := i64.wrap (s3.2 + 1);
 some (Sum.inl (t8, t9))
 else
 none)
 else
 some (Sum.inr s3.1))
noncomputable def Z36l5_step (i10 : Nat) (x11 : Chunk) (s12 : Int) : Option ((Int) ⊕ (Int)) :=
 (Z57 x11.id x11.kind x11.data x11.kids).bind fun q7 =>
 let t8 := i64.wrap (s12 + q7);
 some (Sum.inl (t8))
theorem Z36l5_over (l1 : List Chunk) (hl : l1.length <= 9223372036854775807) (s12 : Int) : loop (Z36l5 l1) ((s12, 0) : Int × Int) =
    overL (Z36l5_step) (fun (s12 : Int) => some s12) 0 l1 s12 := by
  refine B28 l1 (fun n (s : Int) => ((s, ((n : Nat) : Int)) : Int × Int)) _ _ (fun s => ?_) (fun i x s h => ?_) 0 s12 (A30 _)
  . unfold Z36l5; simp
  . have hlt := B6 h
    have h1 : ((i : Nat) : Int) < ((l1.length : Nat) : Int) := by omega
    have h0 : (0 : Int) <= ((i : Nat) : Int) := by omega
    have hw : i64.wrap (((i : Nat) : Int) + 1) = (((i + 1 : Nat) : Nat) : Int) := w64 (by omega)
    unfold Z36l5 Z36l5_step
    simp only [h1, h0, hw, h, A8, A6, A31, A15, A12, A1, A56, Function.comp_def, B48, B36, A37, A52]
noncomputable def Z36l13 (l1 : List Chunk) (s14 : Int × (List Int)) : Option ((Int × (List Int)) ⊕ ((List Int))) :=
 (if (decide (s14.1 < ((l1.length : Nat) : Int))) = true then
 (if 0 <= s14.1 then
 (l1[s14.1.toNat]?).bind fun e17 =>
 (Z58 e17.id e17.kind e17.data e17.kids s14.2).bind fun q18 =>
 let t19 := i64.wrap (s14.1 + 1);
 some (Sum.inl (t19, q18))
 else
 none)
 else
 some (Sum.inr s14.2))
noncomputable def Z36l13_step (i20 : Nat) (x21 : Chunk) (s22 : (List Int)) : Option (((List Int)) ⊕ ((List Int))) :=
 (Z58 x21.id x21.kind x21.data x21.kids s22).bind fun q18 =>
 some (Sum.inl (q18))
theorem Z36l13_over (l1 : List Chunk) (hl : l1.length <= 9223372036854775807) (s22 : (List Int)) : loop (Z36l13 l1) ((0, s22) : Int × (List Int)) =
    overL (Z36l13_step) (fun (s22 : (List Int)) => some s22) 0 l1 s22 := by
  refine B28 l1 (fun n (s : (List Int)) => ((((n : Nat) : Int), s) : Int × (List Int))) _ _ (fun s => ?_) (fun i x s h => ?_) 0 s22 (A30 _)
  . unfold Z36l13; simp
  . have hlt := B6 h
    have h1 : ((i : Nat) : Int) < ((l1.length : Nat) : Int) := by omega
    have h0 : (0 : Int) <= ((i : Nat) : Int) := by omega
    have hw : i64.wrap (((i : Nat) : Int) + 1) = (((i + 1 : Nat) : Nat) : Int) := w64 (by omega)
    unfold Z36l13 Z36l13_step
    simp only [h1, h0, hw, h, A8, A6, A31, A15, A12, A1, A56, Function.comp_def, B48, B36, A37, A52]
theorem Z36_eq (l1 : List Chunk) : Z36 l1 =
 (Z56 l1).bind fun q2 =>
 (if (!q2) = true then
 some ([], 100)
 else
 (loop (Z36l5 l1) (0, 0)).bind (fun n13 =>
 (if (decide (n13 > 60000)) = true then
 some ([], 4)
 else
 (loop (Z36l13 l1) (0, [])).bind (fun out23 =>
 some (out23, 0))))) := (B0 ..).trans (by kernel_rfl)
noncomputable def Z37l5 (b1 : List File) (s5 : Int × (List Int)) : Option ((Int × (List Int)) ⊕ ((List Int))) :=
 (if (decide (s5.1 < ((b1.length : Nat) : Int))) = true then
 (if 0 <= s5.1 then
 (b1[s5.1.toNat]?).bind fun e8 =>
 let t9 := u8.wrap e8.kind;
 (if (s5.2.length + ([t9] : List Int).length) * 1 <= 140737488355328 then
 let t10 : List Int := s5.2 ++ [t9];
 (Z59 ((e8.name.length : Nat) : Int)).bind fun q11 =>
 (if (t10.length + q11.length) * 1 <= 140737488355328 then
 let t12 : List Int := t10 ++ q11;
 (if (t12.length + e8.name.length) * 1 <= 140737488355328 then
 let t13 : List Int := t12 ++ e8.name;
 (Z59 ((e8.data.length : Nat) : Int)).bind fun q14 =>
 (if (t13.length + q14.length) * 1 <= 140737488355328 then
 let t15 : List Int := t13 ++ q14;
 let t16 := i64.wrap (s5.1 + 1);
 some (Sum.inl (t16, t15))
 else
 none)
 else
 none)
 else
 none)
 else
 none)
 else
 none)
 else
 some (Sum.inr s5.2))
theorem Z37_eq (b1 : List File) (b2 : List Outline) : Z37 b1 b2 =
 (Z9 b1 b2).bind fun q3 =>
 (if (!q3) = true then
 some ([], 110)
 else
 (Z59 ((b1.length : Nat) : Int)).bind fun q4 =>
 (loop (Z37l5 b1) (0, q4)).bind (fun out20 =>
 (Z60 b2).bind fun q21 =>
 (if (out20.length + q21.1.length) * 1 <= 140737488355328 then
 let t24 : List Int := out20 ++ q21.1;
 (Z61 t24).bind fun q25 =>
 some (q25.1, q25.2)
 else
 none))) := (B0 ..).trans (by kernel_rfl)
theorem Z38_eq (f1 : List Int) (f2 : Int) (f3 : List Int) : Z38 f1 f2 f3 =
 (Z59 ((f1.length : Nat) : Int)).bind fun q4 =>
 (if (q4.length + f1.length) * 1 <= 140737488355328 then
 let t5 : List Int := q4 ++ f1;
 (if (t5.length + f3.length) * 1 <= 140737488355328 then
 let t6 : List Int := t5 ++ f3;
 some ([70, 73, 76, 69], [], t6, [])
 else
 none)
 else
 none) := (B0 ..).trans (by kernel_rfl)
noncomputable def Z39l5 (l1 : List Chunk) (s3 : Int × Int) : Option ((Int × Int) ⊕ (Int)) :=
 (if (decide (s3.2 < ((l1.length : Nat) : Int))) = true then
 (if 0 <= s3.2 then
 (l1[s3.2.toNat]?).bind fun e6 =>
 (Z63 e6.id e6.kind e6.data e6.kids).bind fun q7 =>
 let t8 := i64.wrap (s3.1 + q7);
 let t9 := i64.wrap (s3.2 + 1);
 some (Sum.inl (t8, t9))
 else
 none)
 else
 some (Sum.inr s3.1))
noncomputable def Z39l5_step (i10 : Nat) (x11 : Chunk) (s12 : Int) : Option ((Int) ⊕ (Int)) :=
 (Z63 x11.id x11.kind x11.data x11.kids).bind fun q7 =>
 let t8 := i64.wrap (s12 + q7);
 some (Sum.inl (t8))
theorem Z39l5_over (l1 : List Chunk) (hl : l1.length <= 9223372036854775807) (s12 : Int) : loop (Z39l5 l1) ((s12, 0) : Int × Int) =
    overL (Z39l5_step) (fun (s12 : Int) => some s12) 0 l1 s12 := by
  refine B28 l1 (fun n (s : Int) => ((s, ((n : Nat) : Int)) : Int × Int)) _ _ (fun s => ?_) (fun i x s h => ?_) 0 s12 (A30 _)
  . unfold Z39l5; simp
  . have hlt := B6 h
    have h1 : ((i : Nat) : Int) < ((l1.length : Nat) : Int) := by omega
    have h0 : (0 : Int) <= ((i : Nat) : Int) := by omega
    have hw : i64.wrap (((i : Nat) : Int) + 1) = (((i + 1 : Nat) : Nat) : Int) := w64 (by omega)
    unfold Z39l5 Z39l5_step
    simp only [h1, h0, hw, h, A8, A6, A31, A15, A12, A1, A56, Function.comp_def, B48, B36, A37, A52]
theorem Z39_eq (l1 : List Chunk) : Z39 l1 =
 (Z62 l1).bind fun q2 =>
 (if (!q2) = true then
 some ([], 100)
 else
 (loop (Z39l5 l1) (0, 0)).bind (fun n13 =>
 (if (decide (n13 > 60000)) = true then
 some ([], 4)
 else
 (Z64 l1).bind fun q14 =>
 some (q14, 0)))) := (B0 ..).trans (by kernel_rfl)
noncomputable def Z40l2 (l1 : List Outline) (depth2 : Int) (s4 : Int × Int) : Option ((Int × Int) ⊕ ((Int) ⊕ (Bool × Int))) :=
 (if (decide (s4.1 < ((l1.length : Nat) : Int))) = true then
 (if 0 <= s4.1 then
 (l1[s4.1.toNat]?).bind fun e7 =>
 let t8 := i64.wrap (s4.2 + 1);
 (if (decide (t8 > 400)) = true then
 some (Sum.inr (Sum.inr (false, t8)))
 else
 (if (decide (depth2 > 20)) = true then
 some (Sum.inr (Sum.inr (false, t8)))
 else
 (if (decide (((e7.title.length : Nat) : Int) > 200)) = true then
 some (Sum.inr (Sum.inr (false, t8)))
 else
 (if (decide (e7.page < 1)) = true then
 some (Sum.inr (Sum.inr (false, t8)))
 else
 (if (decide (e7.page > 1000)) = true then
 some (Sum.inr (Sum.inr (false, t8)))
 else
 let t9 := i64.wrap (depth2 + 1);
 (Z40 e7.kids t9 t8).bind fun q10 =>
 (if (!q10.1) = true then
 some (Sum.inr (Sum.inr (false, q10.2)))
 else
 let t13 := i64.wrap (s4.1 + 1);
 some (Sum.inl (t13, q10.2))))))))
 else
 none)
 else
 some (Sum.inr (Sum.inl s4.2)))
theorem Z40_eq (l1 : List Outline) (depth2 b3 : Int) : Z40 l1 depth2 b3 =
 (loop (Z40l2 l1 depth2) (0, b3)).bind (fun o21 =>
 (Sum.elim (fun (b17 : Int) =>
 some (true, b17))
 (fun (p18 : Bool × Int) =>
 some (p18.1, p18.2)) o21)) := (B0 ..).trans (by kernel_rfl)
noncomputable def Z41l2 (s1 : List Int) (v2 : Int) : Option ((Int) ⊕ ((Unit) ⊕ (Bool))) :=
 (if (decide (v2 < ((s1.length : Nat) : Int))) = true then
 (if 0 <= v2 ∧ v2 < ((s1).length : Int) then
 let t3 : Int := rd s1 v2;
 (if (decide (t3 < 97)) = true then
 (if (decide (t3 < 48)) = true then
 (if (!decide (t3 = 46)) = true then
 (if (!decide (t3 = 45)) = true then
 some (Sum.inr (Sum.inr false))
 else
 let t4 := i64.wrap (v2 + 1);
 some (Sum.inl t4))
 else
 let t5 := i64.wrap (v2 + 1);
 some (Sum.inl t5))
 else
 (if (decide (t3 > 57)) = true then
 (if (!decide (t3 = 46)) = true then
 (if (!decide (t3 = 45)) = true then
 some (Sum.inr (Sum.inr false))
 else
 let t6 := i64.wrap (v2 + 1);
 some (Sum.inl t6))
 else
 let t7 := i64.wrap (v2 + 1);
 some (Sum.inl t7))
 else
 let t8 := i64.wrap (v2 + 1);
 some (Sum.inl t8)))
 else
 (if (decide (t3 > 122)) = true then
 (if (decide (t3 < 48)) = true then
 (if (!decide (t3 = 46)) = true then
 (if (!decide (t3 = 45)) = true then
 some (Sum.inr (Sum.inr false))
 else
 let t9 := i64.wrap (v2 + 1);
 some (Sum.inl t9))
 else
 let t10 := i64.wrap (v2 + 1);
 some (Sum.inl t10))
 else
 (if (decide (t3 > 57)) = true then
 (if (!decide (t3 = 46)) = true then
 (if (!decide (t3 = 45)) = true then
 some (Sum.inr (Sum.inr false))
 else
 let t11 := i64.wrap (v2 + 1);
 some (Sum.inl t11))
 else
 let t12 := i64.wrap (v2 + 1);
 some (Sum.inl t12))
 else
 let t13 := i64.wrap (v2 + 1);
 some (Sum.inl t13)))
 else
 let t14 := i64.wrap (v2 + 1);
 some (Sum.inl t14)))
 else
 none)
 else
 some (Sum.inr (Sum.inl ())))
theorem Z41_eq (s1 : List Int) : Z41 s1 =
 (loop (Z41l2 s1) 0).bind (fun o20 =>
 (Sum.elim (fun (p18 : Unit) =>
 (if (decide (((s1.length : Nat) : Int) ≥ 1)) = true then
 some (decide (((s1.length : Nat) : Int) <= 20))
 else
 some false))
 (fun (v19 : Bool) =>
 some v19) o20)) := (B0 ..).trans (by kernel_rfl)
noncomputable def Z42l2 (s1 : List File) (s3 : Int × (List Int)) : Option ((Int × (List Int)) ⊕ (((List Int)) ⊕ (Int × (List Int)))) :=
 (if (decide (s3.1 < ((s1.length : Nat) : Int))) = true then
 (if 0 <= s3.1 then
 (s1[s3.1.toNat]?).bind fun e6 =>
 (Z65 e6.name e6.kind e6.data s3.2).bind fun q7 =>
 (if q7.1 = true then
 some (Sum.inr (Sum.inr (s3.1, q7.2)))
 else
 let t10 := i64.wrap (s3.1 + 1);
 some (Sum.inl (t10, q7.2)))
 else
 none)
 else
 some (Sum.inr (Sum.inl s3.2)))
theorem Z42_eq (s1 : List File) (b2 : List Int) : Z42 s1 b2 =
 (loop (Z42l2 s1) (0, b2)).bind (fun o18 =>
 (Sum.elim (fun (b14 : (List Int)) =>
 some ((-1), b14))
 (fun (p15 : Int × (List Int)) =>
 some (p15.1, p15.2)) o18)) := (B0 ..).trans (by kernel_rfl)
noncomputable def Z43l4 (s1 : List Int) (i3 : Int) : Option ((Int) ⊕ ((Unit) ⊕ (Bool))) :=
 (if (decide (i3 < ((s1.length : Nat) : Int))) = true then
 (if 0 <= i3 ∧ i3 < ((s1).length : Int) then
 let t4 : Int := rd s1 i3;
 (if (decide (t4 ≥ 97)) = true then
 (if (decide (t4 <= 122)) = true then
 let t5 := i64.wrap (i3 + 1);
 some (Sum.inl t5)
 else
 (if (decide (t4 ≥ 48)) = true then
 (if (decide (t4 <= 57)) = true then
 let t6 := i64.wrap (i3 + 1);
 some (Sum.inl t6)
 else
 (if (decide (t4 = 46)) = true then
 let t7 := i64.wrap (i3 + 1);
 some (Sum.inl t7)
 else
 (if (!(decide (t4 = 45))) = true then
 some (Sum.inr (Sum.inr false))
 else
 let t8 := i64.wrap (i3 + 1);
 some (Sum.inl t8))))
 else
 (if (decide (t4 = 46)) = true then
 let t9 := i64.wrap (i3 + 1);
 some (Sum.inl t9)
 else
 (if (!(decide (t4 = 45))) = true then
 some (Sum.inr (Sum.inr false))
 else
 let t10 := i64.wrap (i3 + 1);
 some (Sum.inl t10)))))
 else
 (if (decide (t4 ≥ 48)) = true then
 (if (decide (t4 <= 57)) = true then
 let t11 := i64.wrap (i3 + 1);
 some (Sum.inl t11)
 else
 (if (decide (t4 = 46)) = true then
 let t12 := i64.wrap (i3 + 1);
 some (Sum.inl t12)
 else
 (if (!(decide (t4 = 45))) = true then
 some (Sum.inr (Sum.inr false))
 else
 let t13 := i64.wrap (i3 + 1);
 some (Sum.inl t13))))
 else
 (if (decide (t4 = 46)) = true then
 let t14 := i64.wrap (i3 + 1);
 some (Sum.inl t14)
 else
 (if (!(decide (t4 = 45))) = true then
 some (Sum.inr (Sum.inr false))
 else
 let t15 := i64.wrap (i3 + 1);
 some (Sum.inl t15)))))
 else
 none)
 else
 some (Sum.inr (Sum.inl ())))
theorem Z43_eq (s1 : List Int) : Z43 s1 =
 ((if (decide (((s1.length : Nat) : Int) < 1)) = true then
 some true
 else
 some (decide (((s1.length : Nat) : Int) > 20))) : Option (Bool)).bind (fun v2 =>
 (if v2 = true then
 some false
 else
 (loop (Z43l4 s1) 0).bind (fun o21 =>
 (Sum.elim (fun (p19 : Unit) =>
 some true)
 (fun (v20 : Bool) =>
 some v20) o21)))) := (B0 ..).trans (by kernel_rfl)
noncomputable def Z44l2 (l1 : List File) (name2 : List Int) (i3 : Int) : Option ((Int) ⊕ ((Unit) ⊕ (Int))) :=
 (if (decide (i3 < ((l1.length : Nat) : Int))) = true then
 (if 0 <= i3 then
 (l1[i3.toNat]?).bind fun e4 =>
 (if (decide (e4.name = name2)) = true then
 some (Sum.inr (Sum.inr i3))
 else
 let t5 := i64.wrap (i3 + 1);
 some (Sum.inl t5))
 else
 none)
 else
 some (Sum.inr (Sum.inl ())))
theorem Z44_eq (l1 : List File) (name2 : List Int) : Z44 l1 name2 =
 (loop (Z44l2 l1 name2) 0).bind (fun o11 =>
 (Sum.elim (fun (p9 : Unit) =>
 some (-1))
 (fun (v10 : Int) =>
 some v10) o11)) := (B0 ..).trans (by kernel_rfl)
noncomputable def Z45l3 (l1 : List Outline) (s2 : Int × Int × Bool × Int) : Option ((Int × Int × Bool × Int) ⊕ (Int × Int × Bool)) :=
 let i6 := s2.2.2.2;
 (if (decide (i6 < ((l1.length : Nat) : Int))) = true then
 (if 0 <= i6 then
 (l1[i6.toNat]?).bind fun e7 =>
 (Z45 e7.kids).bind fun q8 =>
 let t12 := i64.wrap (s2.1 + 1);
 let t13 := i64.wrap (t12 + q8.1);
 let t14 := i64.wrap (q8.2.1 + 1);
 let t15 := imax s2.2.1 t14;
 (if s2.2.2.1 = true then
 (if q8.2.2 = true then
 (if 0 <= i6 then
 (l1[i6.toNat]?).bind fun e16 =>
 (if (decide (((e16.title.length : Nat) : Int) <= 200)) = true then
 (if 0 <= i6 then
 (l1[i6.toNat]?).bind fun e17 =>
 (if (decide (e17.page ≥ 1)) = true then
 (if 0 <= i6 then
 (l1[i6.toNat]?).bind fun e18 =>
 let t19 := i64.wrap (i6 + 1);
 some (Sum.inl (t13, t15, decide (e18.page <= 1000), t19))
 else
 none)
 else
 let t20 := i64.wrap (i6 + 1);
 some (Sum.inl (t13, t15, false, t20)))
 else
 none)
 else
 let t21 := i64.wrap (i6 + 1);
 some (Sum.inl (t13, t15, false, t21)))
 else
 none)
 else
 let t22 := i64.wrap (i6 + 1);
 some (Sum.inl (t13, t15, false, t22)))
 else
 let t23 := i64.wrap (i6 + 1);
 some (Sum.inl (t13, t15, false, t23)))
 else
 none)
 else
 some (Sum.inr (s2.1, s2.2.1, s2.2.2.1)))
theorem Z45_eq (l1 : List Outline) : Z45 l1 =
 (loop (Z45l3 l1) (0, 0, true, 0)).bind (fun p30 =>
 some (p30.1, p30.2.1, p30.2.2)) := (B0 ..).trans (by kernel_rfl)
noncomputable def Z46l2 (end2 depth3 : Int) (s8 : Int × (List Int) × Int × Int × Int × (List Chunk)) : Option ((Int × (List Int) × Int × Int × Int × (List Chunk)) ⊕ ((List Int) × Int × Int × Int × (List Chunk))) :=
 ((if (decide (s8.1 < end2)) = true then
 some (decide (s8.2.2.2.1 = 0))
 else
 some false) : Option (Bool)).bind (fun v15 =>
 (if v15 = true then
 (Z66 s8.1 end2 depth3 s8.2.1 s8.2.2.1 s8.2.2.2.1 s8.2.2.2.2.1).bind fun q16 =>
 (if (s8.2.2.2.2.2.length + ([(Chunk.mk q16.1 q16.2.1 q16.2.2.1 q16.2.2.2.1)] : List Chunk).length) * 80 <= 140737488355328 then
 let t26 : List Chunk := s8.2.2.2.2.2 ++ [(Chunk.mk q16.1 q16.2.1 q16.2.2.1 q16.2.2.2.1)];
 some (Sum.inl (q16.2.2.2.2.1, q16.2.2.2.2.2.1, q16.2.2.2.2.2.2.1, q16.2.2.2.2.2.2.2.1, q16.2.2.2.2.2.2.2.2, t26))
 else
 none)
 else
 some (Sum.inr (s8.2.1, s8.2.2.1, s8.2.2.2.1, s8.2.2.2.2.1, s8.2.2.2.2.2))))
theorem Z46_eq (at1 end2 depth3 : Int) (b4 : List Int) (b5 b6 b7 : Int) : Z46 at1 end2 depth3 b4 b5 b6 b7 =
 (loop (Z46l2 end2 depth3) (at1, b4, b5, b6, b7, [])).bind (fun p27 =>
 some (p27.2.2.2.2, p27.1, p27.2.1, p27.2.2.1, p27.2.2.2.1)) := (B0 ..).trans (by kernel_rfl)
theorem Z47_eq (s1 : List Chunk) : Z47 s1 =
 (Z67 s1).bind fun q2 =>
 some (decide (q2 ≥ 0)) := (B0 ..).trans (by kernel_rfl)
noncomputable def Z48l10 (tr6 : Int) (s15 : Int × (List Int) × Int × Int × (List File) × (List Int)) : Option ((Int × (List Int) × Int × Int × (List File) × (List Int)) ⊕ ((List Int) × Int × Int × (List File) × (List Int))) :=
 let b19 := s15.2.2.2.1;
 (if (decide (s15.1 < tr6)) = true then
 (if (!decide (b19 = 0)) = true then
 some (Sum.inr (s15.2.1, s15.2.2.1, b19, s15.2.2.2.2.1, s15.2.2.2.2.2))
 else
 (Z71 s15.2.1 s15.2.2.1 b19).bind fun q22 =>
 (if (s15.2.2.2.2.1.length + ([(File.mk q22.1 q22.2.1 q22.2.2.1)] : List File).length) * 48 <= 140737488355328 then
 let t30 : List File := s15.2.2.2.2.1 ++ [(File.mk q22.1 q22.2.1 q22.2.2.1)];
 (if (s15.2.2.2.2.2.length + ([q22.2.2.2.1] : List Int).length) * 8 <= 140737488355328 then
 let t31 : List Int := s15.2.2.2.2.2 ++ [q22.2.2.2.1];
 let t32 := i64.wrap (s15.1 + 1);
 some (Sum.inl (t32, q22.2.2.2.2.1, q22.2.2.2.2.2.1, q22.2.2.2.2.2.2, t30, t31))
 else
 none)
 else
 none))
 else
 some (Sum.inr (s15.2.1, s15.2.2.1, b19, s15.2.2.2.2.1, s15.2.2.2.2.2)))
noncomputable def Z48l21 (files45 : List File) (v51 : Int) : Option ((Int) ⊕ ((Unit) ⊕ ((List Int) × (List Outline) × Int × (List File)))) :=
 (if (decide (v51 < ((files45.length : Nat) : Int))) = true then
 (if 0 <= v51 ∧ v51 < (files45.length : Int) then
 (files45[v51.toNat]?).bind fun e52 =>
 (if 0 <= v51 ∧ v51 <= ((files45.length : Nat) : Int) then
 (Z20 ((files45.drop 0).take (v51.toNat - 0)) e52.name).bind fun q53 =>
 (if (decide (q53 ≥ 0)) = true then
 some (Sum.inr (Sum.inr ([], [], 8, [])))
 else
 let t54 := i64.wrap (v51 + 1);
 some (Sum.inl t54))
 else
 none)
 else
 none)
 else
 some (Sum.inr (Sum.inl ())))
theorem Z48_eq (d1 : List Int) : Z48 d1 =
 (Z68 d1).bind fun q2 =>
 (if (!decide (q2.2 = 0)) = true then
 some ([], [], q2.2, [])
 else
 (Z69 q2.1 0 0).bind fun q5 =>
 (Z70 (decide (q5.1 <= 40)) 4 q5.2.1 q5.2.2.1 q5.2.2.2).bind fun q10 =>
 (loop (Z48l10 q5.1) (0, q10.2.1, q10.2.2.1, q10.2.2.2, [], [])).bind (fun p41 =>
 (if (!decide (p41.2.2.1 = 0)) = true then
 some ([], [], p41.2.2.1, [])
 else
 (if 0 <= p41.2.1 ∧ p41.2.1 <= ((q2.1.length : Nat) : Int) then
 let t47 : List Int := cutL q2.1 p41.2.1.toNat q2.1.length;
 (Z72 t47).bind fun q48 =>
 (if (!decide (q48.2 = 0)) = true then
 some ([], [], q48.2, [])
 else
 (loop (Z48l21 p41.2.2.2.1) 0).bind (fun o64 =>
 (Sum.elim (fun (p58 : Unit) =>
 some (p41.2.2.2.2, q48.1, 0, p41.2.2.2.1))
 (fun (p59 : (List Int) × (List Outline) × Int × (List File)) =>
 some (p59.1, p59.2.1, p59.2.2.1, p59.2.2.2)) o64)))
 else
 none)))) := (B0 ..).trans (by kernel_rfl)
theorem Z49_eq (b1 : List Int) (b2 b3 : Int) : Z49 b1 b2 b3 =
 (Z69 b1 b2 b3).bind fun q4 =>
 (Z70 (decide (q4.1 <= 20)) 3 q4.2.1 q4.2.2.1 q4.2.2.2).bind fun q9 =>
 (Z73 q4.1 q9.2.1 q9.2.2.1 q9.2.2.2).bind fun q14 =>
 (Z41 q14.1).bind fun q19 =>
 (Z70 q19 3 q14.2.1 q14.2.2.1 q14.2.2.2).bind fun q20 =>
 some (q14.1, q20.2.1, q20.2.2.1, q20.2.2.2) := (B0 ..).trans (by kernel_rfl)
noncomputable def Z50l4 (s1 s2 : List Outline) (v3 : Int) : Option ((Int) ⊕ ((Unit) ⊕ (Bool))) :=
 (if (decide (v3 < ((s1.length : Nat) : Int))) = true then
 (if 0 <= v3 then
 (s1[v3.toNat]?).bind fun e4 =>
 (if 0 <= v3 then
 (s2[v3.toNat]?).bind fun e5 =>
 (Z74 e4.title e4.page e4.kids e5.title e5.page e5.kids).bind fun q6 =>
 (if (!q6) = true then
 some (Sum.inr (Sum.inr false))
 else
 let t7 := i64.wrap (v3 + 1);
 some (Sum.inl t7))
 else
 none)
 else
 none)
 else
 some (Sum.inr (Sum.inl ())))
theorem Z50_eq (s1 s2 : List Outline) : Z50 s1 s2 =
 (if (!decide (((s1.length : Nat) : Int) = ((s2.length : Nat) : Int))) = true then
 some false
 else
 (loop (Z50l4 s1 s2) 0).bind (fun o13 =>
 (Sum.elim (fun (p11 : Unit) =>
 some true)
 (fun (v12 : Bool) =>
 some v12) o13))) := (B0 ..).trans (by kernel_rfl)
theorem Z51_eq (x1 : List Int) (x2 : Int) (x3 y4 : List Int) (y5 : Int) (y6 : List Int) : Z51 x1 x2 x3 y4 y5 y6 =
 (if (decide (x1 = y4)) = true then
 (if (decide (x2 = y5)) = true then
 (Z75 x3 y6).bind fun q7 =>
 some q7
 else
 some false)
 else
 some false) := (B0 ..).trans (by kernel_rfl)
theorem Z52_eq (l1 : List Outline) : Z52 l1 =
 (Z54 l1).bind fun q2 =>
 (Z72 q2.1).bind fun q5 =>
 some q5.1 := (B0 ..).trans (by kernel_rfl)
theorem Z53_eq (n1 : Int) (l2 : List Int) : Z53 n1 l2 =
 (Z76 n1).bind fun q3 =>
 (if (q3.2.length + l2.length) * 1 <= 140737488355328 then
 let t6 : List Int := q3.2 ++ l2;
 some t6
 else
 none) := (B0 ..).trans (by kernel_rfl)
theorem Z54_eq (l1 : List Outline) : Z54 l1 =
 (Z18 l1).bind fun q2 =>
 (if (!q2) = true then
 some ([], 95)
 else
 (Z77 l1).bind fun q3 =>
 some (q3, 0)) := (B0 ..).trans (by kernel_rfl)
noncomputable def Z55l12 (tr27 : List Int) (s29 : Int × Int × Int × Int × Int × (List Int) × (List Int)) : Option ((Int × Int × Int × Int × Int × (List Int) × (List Int)) ⊕ (Int × Int × Int × (List Int) × (List Int))) :=
 let v31 := s29.2.1;
 (if (decide (v31 < ((tr27.length : Nat) : Int))) = true then
 (if 0 <= v31 ∧ v31 < (tr27.length : Int) then
 (Z82 s29.1).bind fun q37 =>
 (Z83 q37 false (rd tr27 v31) s29.2.2.1 s29.2.2.2.1 s29.2.2.2.2.1 s29.2.2.2.2.2.1 s29.2.2.2.2.2.2).bind fun q38 =>
 let t45 := i64.wrap (v31 + 1);
 some (Sum.inl (rd tr27 v31, t45, q38.2.1, q38.2.2.1, q38.2.2.2.1, q38.2.2.2.2.1, q38.2.2.2.2.2))
 else
 none)
 else
 some (Sum.inr (s29.2.2.1, s29.2.2.2.1, s29.2.2.2.2.1, s29.2.2.2.2.2.1, s29.2.2.2.2.2.2)))
theorem Z55_eq (text1 : List Int) : Z55 text1 =
 (Z78 text1).bind fun q2 =>
 (if (!decide (q2.2 = 0)) = true then
 some ([], q2.2)
 else
 (Z76 ((text1.length : Nat) : Int)).bind fun q5 =>
 (if (decide (((text1.length : Nat) : Int) = 0)) = true then
 some (q5.2, 0)
 else
 (Z79 0 144).bind fun q8 =>
 ((Z80 q8.1 q8.2.2).bind fun o19 =>
 (Sum.elim (fun (q12 : Int × Int × Int × (List Int) × (List Int)) =>
 some (q12.1, q12.2.1, q12.2.2.1, q12.2.2.2.1, q12.2.2.2.2))
 (fun (q18 : Unit) =>
 none) o19) : Option (Int × Int × Int × (List Int) × (List Int))).bind (fun p20 =>
 (Z81 q2.1).bind fun q26 =>
 (loop (Z55l12 q26.1) (0, 0, p20.1, p20.2.1, p20.2.2.1, p20.2.2.2.1, p20.2.2.2.2)).bind (fun p55 =>
 (Z84 p55.1 p55.2.1 p55.2.2.1 p55.2.2.2.1 p55.2.2.2.2).bind fun q61 =>
 (if (q5.2.length + q61.1.length) * 1 <= 140737488355328 then
 let t68 : List Int := q5.2 ++ q61.1;
 some (t68, 0)
 else
 none))))) := (B0 ..).trans (by kernel_rfl)
theorem Z56_eq (l1 : List Chunk) : Z56 l1 =
 (Z85 l1 1 0).bind fun q2 =>
 some q2.1 := (B0 ..).trans (by kernel_rfl)
theorem Z57_eq (c1 c2 c3 : List Int) (c4 : List Chunk) : Z57 c1 c2 c3 c4 =
 (Z86 c1 c2 c3 c4).bind fun q5 =>
 let t6 := i64.wrap (q5 + 1);
 let t7 := i64.wrap (t6.tdiv 2);
 let t8 := i64.wrap (t7 * 2);
 let t9 := i64.wrap (8 + t8);
 some t9 := (B0 ..).trans (by kernel_rfl)
noncomputable def Z58l7 (c4 : List Chunk) (s17 : Int × (List Int)) : Option ((Int × (List Int)) ⊕ ((List Int))) :=
 (if (decide (s17.1 < ((c4.length : Nat) : Int))) = true then
 (if 0 <= s17.1 then
 (c4[s17.1.toNat]?).bind fun e20 =>
 (Z58 e20.id e20.kind e20.data e20.kids s17.2).bind fun q21 =>
 let t22 := i64.wrap (s17.1 + 1);
 some (Sum.inl (t22, q21))
 else
 none)
 else
 some (Sum.inr s17.2))
noncomputable def Z58l7_step (i23 : Nat) (x24 : Chunk) (s25 : (List Int)) : Option (((List Int)) ⊕ ((List Int))) :=
 (Z58 x24.id x24.kind x24.data x24.kids s25).bind fun q21 =>
 some (Sum.inl (q21))
theorem Z58l7_over (c4 : List Chunk) (hl : c4.length <= 9223372036854775807) (s25 : (List Int)) : loop (Z58l7 c4) ((0, s25) : Int × (List Int)) =
    overL (Z58l7_step) (fun (s25 : (List Int)) => some s25) 0 c4 s25 := by
  refine B28 c4 (fun n (s : (List Int)) => ((((n : Nat) : Int), s) : Int × (List Int))) _ _ (fun s => ?_) (fun i x s h => ?_) 0 s25 (A30 _)
  . unfold Z58l7; simp
  . have hlt := B6 h
    have h1 : ((i : Nat) : Int) < ((c4.length : Nat) : Int) := by omega
    have h0 : (0 : Int) <= ((i : Nat) : Int) := by omega
    have hw : i64.wrap (((i : Nat) : Int) + 1) = (((i + 1 : Nat) : Nat) : Int) := w64 (by omega)
    unfold Z58l7 Z58l7_step
    simp only [h1, h0, hw, h, A8, A6, A31, A15, A12, A1, A56, Function.comp_def, B48, B36, A37, A52]
theorem Z58_eq (c1 c2 c3 : List Int) (c4 : List Chunk) (b5 : List Int) : Z58 c1 c2 c3 c4 b5 =
 (Z86 c1 c2 c3 c4).bind fun q6 =>
 (if (b5.length + c1.length) * 1 <= 140737488355328 then
 let t7 : List Int := b5 ++ c1;
 let t8 := ishr .i64 q6 24;
 let t9 := u8.wrap t8;
 let t10 := ishr .i64 q6 16;
 let t11 := u8.wrap t10;
 let t12 := ishr .i64 q6 8;
 let t13 := u8.wrap t12;
 let t14 := u8.wrap q6;
 (if (t7.length + ([t9, t11, t13, t14] : List Int).length) * 1 <= 140737488355328 then
 let t15 : List Int := t7 ++ [t9, t11, t13, t14];
 ((if (decide (c1 = [70, 79, 82, 77])) = true then
 (if (t15.length + c2.length) * 1 <= 140737488355328 then
 let t16 : List Int := t15 ++ c2;
 (loop (Z58l7 c4) (0, t16)).bind (fun out26 =>
 some out26)
 else
 none)
 else
 (if (t15.length + c3.length) * 1 <= 140737488355328 then
 let t27 : List Int := t15 ++ c3;
 some t27
 else
 none)) : Option ((List Int))).bind (fun out28 =>
 let t29 : Int := q6.tmod 2;
 (if (decide (t29 = 1)) = true then
 (if (out28.length + ([0] : List Int).length) * 1 <= 140737488355328 then
 let t30 : List Int := out28 ++ [0];
 some t30
 else
 none)
 else
 some out28))
 else
 none)
 else
 none) := (B0 ..).trans (by kernel_rfl)
theorem Z59_eq (n1 : Int) : Z59 n1 =
 (Z87 n1).bind fun q2 =>
 some q2.2 := (B0 ..).trans (by kernel_rfl)
theorem Z60_eq (l1 : List Outline) : Z60 l1 =
 (Z23 l1).bind fun q2 =>
 (if (!q2) = true then
 some ([], 95)
 else
 (Z88 l1).bind fun q3 =>
 some (q3, 0)) := (B0 ..).trans (by kernel_rfl)
noncomputable def Z61l12 (tr9 : List Int) (s29 : Int × Int × Int × Int × Int × (List Int) × (List Int)) : Option ((Int × Int × Int × Int × Int × (List Int) × (List Int)) ⊕ (Int × Int × Int × (List Int) × (List Int))) :=
 let i31 := s29.2.1;
 (if (decide (i31 < ((tr9.length : Nat) : Int))) = true then
 (Z93 s29.1).bind fun q37 =>
 (if 0 <= i31 ∧ i31 < (tr9.length : Int) then
 (Z94 q37 false (rd tr9 i31) s29.2.2.1 s29.2.2.2.1 s29.2.2.2.2.1 s29.2.2.2.2.2.1 s29.2.2.2.2.2.2).bind fun q38 =>
 (if 0 <= i31 ∧ i31 < (tr9.length : Int) then
 let t45 := i64.wrap (i31 + 1);
 some (Sum.inl (rd tr9 i31, t45, q38.2.1, q38.2.2.1, q38.2.2.2.1, q38.2.2.2.2.1, q38.2.2.2.2.2))
 else
 none)
 else
 none)
 else
 some (Sum.inr (s29.2.2.1, s29.2.2.2.1, s29.2.2.2.2.1, s29.2.2.2.2.2.1, s29.2.2.2.2.2.2)))
theorem Z61_eq (text1 : List Int) : Z61 text1 =
 (Z89 text1).bind fun q2 =>
 (if (!decide (q2.2 = 0)) = true then
 some ([], q2.2)
 else
 (Z87 ((text1.length : Nat) : Int)).bind fun q5 =>
 (if (decide (((text1.length : Nat) : Int) = 0)) = true then
 some (q5.2, 0)
 else
 (Z90 q2.1).bind fun q8 =>
 (Z91 0 144).bind fun q11 =>
 ((Z92 q11.1 q11.2.2).bind fun o22 =>
 (Sum.elim (fun (q15 : Int × Int × Int × (List Int) × (List Int)) =>
 some (q15.1, q15.2.1, q15.2.2.1, q15.2.2.2.1, q15.2.2.2.2))
 (fun (q21 : Unit) =>
 none) o22) : Option (Int × Int × Int × (List Int) × (List Int))).bind (fun p23 =>
 (loop (Z61l12 q8.1) (0, 0, p23.1, p23.2.1, p23.2.2.1, p23.2.2.2.1, p23.2.2.2.2)).bind (fun p55 =>
 (Z95 p55.1 p55.2.1 p55.2.2.1 p55.2.2.2.1 p55.2.2.2.2).bind fun q61 =>
 (if (q5.2.length + q61.1.length) * 1 <= 140737488355328 then
 let t68 : List Int := q5.2 ++ q61.1;
 some (t68, 0)
 else
 none))))) := (B0 ..).trans (by kernel_rfl)
noncomputable def Z62l2 (l1 : List Chunk) (v2 : Int) : Option ((Int) ⊕ ((Unit) ⊕ (Bool))) :=
 (if (decide (v2 < ((l1.length : Nat) : Int))) = true then
 (if 0 <= v2 then
 (l1[v2.toNat]?).bind fun e3 =>
 (Z96 e3.id e3.kind e3.data e3.kids).bind fun q4 =>
 (if (!q4) = true then
 some (Sum.inr (Sum.inr false))
 else
 let t5 := i64.wrap (v2 + 1);
 some (Sum.inl t5))
 else
 none)
 else
 some (Sum.inr (Sum.inl ())))
noncomputable def Z62l2_step (i6 : Nat) (x7 : Chunk) (s8 : Unit) : Option ((Unit) ⊕ ((Unit) ⊕ (Bool))) :=
 (Z96 x7.id x7.kind x7.data x7.kids).bind fun q4 =>
 (if (!q4) = true then
 some (Sum.inr (Sum.inr false))
 else
 some (Sum.inl (())))
theorem Z62l2_over (l1 : List Chunk) (hl : l1.length <= 9223372036854775807) (s8 : Unit) : loop (Z62l2 l1) (0 : Int) =
    overL (Z62l2_step) (fun (s8 : Unit) => some (Sum.inl ())) 0 l1 s8 := by
  refine B28 l1 (fun n (s : Unit) => (((n : Nat) : Int) : Int)) _ _ (fun s => ?_) (fun i x s h => ?_) 0 s8 (A30 _)
  . unfold Z62l2; simp
  . have hlt := B6 h
    have h1 : ((i : Nat) : Int) < ((l1.length : Nat) : Int) := by omega
    have h0 : (0 : Int) <= ((i : Nat) : Int) := by omega
    have hw : i64.wrap (((i : Nat) : Int) + 1) = (((i + 1 : Nat) : Nat) : Int) := w64 (by omega)
    unfold Z62l2 Z62l2_step
    simp only [h1, h0, hw, h, A8, A6, A31, A15, A12, A1, A56, Function.comp_def, B48, B36, A37, A52]
theorem Z62_eq (l1 : List Chunk) : Z62 l1 =
 (loop (Z62l2 l1) 0).bind (fun o11 =>
 (Sum.elim (fun (p9 : Unit) =>
 (Z97 l1).bind fun q12 =>
 (if (decide (q12.1 <= 400)) = true then
 some (decide (q12.2 <= 8))
 else
 some false))
 (fun (v10 : Bool) =>
 some v10) o11)) := (B0 ..).trans (by kernel_rfl)
noncomputable def Z63l5 (c4 : List Chunk) (s5 : Int × Int) : Option ((Int × Int) ⊕ (Int)) :=
 (if (decide (s5.2 < ((c4.length : Nat) : Int))) = true then
 (if 0 <= s5.2 then
 (c4[s5.2.toNat]?).bind fun e8 =>
 (Z63 e8.id e8.kind e8.data e8.kids).bind fun q9 =>
 let t10 := i64.wrap (s5.1 + q9);
 let t11 := i64.wrap (s5.2 + 1);
 some (Sum.inl (t10, t11))
 else
 none)
 else
 some (Sum.inr s5.1))
noncomputable def Z63l5_step (i12 : Nat) (x13 : Chunk) (s14 : Int) : Option ((Int) ⊕ (Int)) :=
 (Z63 x13.id x13.kind x13.data x13.kids).bind fun q9 =>
 let t10 := i64.wrap (s14 + q9);
 some (Sum.inl (t10))
theorem Z63l5_over (c4 : List Chunk) (hl : c4.length <= 9223372036854775807) (s14 : Int) : loop (Z63l5 c4) ((s14, 0) : Int × Int) =
    overL (Z63l5_step) (fun (s14 : Int) => some s14) 0 c4 s14 := by
  refine B28 c4 (fun n (s : Int) => ((s, ((n : Nat) : Int)) : Int × Int)) _ _ (fun s => ?_) (fun i x s h => ?_) 0 s14 (A30 _)
  . unfold Z63l5; simp
  . have hlt := B6 h
    have h1 : ((i : Nat) : Int) < ((c4.length : Nat) : Int) := by omega
    have h0 : (0 : Int) <= ((i : Nat) : Int) := by omega
    have hw : i64.wrap (((i : Nat) : Int) + 1) = (((i + 1 : Nat) : Nat) : Int) := w64 (by omega)
    unfold Z63l5 Z63l5_step
    simp only [h1, h0, hw, h, A8, A6, A31, A15, A12, A1, A56, Function.comp_def, B48, B36, A37, A52]
theorem Z63_eq (c1 c2 c3 : List Int) (c4 : List Chunk) : Z63 c1 c2 c3 c4 =
 ((if (decide (c1 = [70, 79, 82, 77])) = true then
 (loop (Z63l5 c4) (4, 0)).bind (fun n15 =>
 some n15)
 else
 some ((c3.length : Nat) : Int)) : Option (Int)).bind (fun n16 =>
 let t17 := i64.wrap (8 + n16);
 let t18 : Int := n16.tmod 2;
 let t19 := i64.wrap (t17 + t18);
 some t19) := (B0 ..).trans (by kernel_rfl)
noncomputable def Z64l3 (l1 : List Chunk) (s2 : Int × (List Int)) : Option ((Int × (List Int)) ⊕ ((List Int))) :=
 (if (decide (s2.1 < ((l1.length : Nat) : Int))) = true then
 (if 0 <= s2.1 then
 (l1[s2.1.toNat]?).bind fun e5 =>
 ((if (decide (e5.id = [70, 79, 82, 77])) = true then
 (Z64 e5.kids).bind fun q6 =>
 (if (e5.kind.length + q6.length) * 1 <= 140737488355328 then
 let t7 : List Int := e5.kind ++ q6;
 some t7
 else
 none)
 else
 some e5.data) : Option ((List Int))).bind (fun inner8 =>
 (if (s2.2.length + e5.id.length) * 1 <= 140737488355328 then
 let t9 : List Int := s2.2 ++ e5.id;
 let t10 := ishr .i64 ((inner8.length : Nat) : Int) 24;
 let t11 := u8.wrap t10;
 let t12 := ishr .i64 ((inner8.length : Nat) : Int) 16;
 let t13 := u8.wrap t12;
 let t14 := ishr .i64 ((inner8.length : Nat) : Int) 8;
 let t15 := u8.wrap t14;
 let t16 := u8.wrap ((inner8.length : Nat) : Int);
 (if (t9.length + ([t11, t13, t15, t16] : List Int).length) * 1 <= 140737488355328 then
 let t17 : List Int := t9 ++ [t11, t13, t15, t16];
 (if (t17.length + inner8.length) * 1 <= 140737488355328 then
 let t18 : List Int := t17 ++ inner8;
 let t19 : Int := ((inner8.length : Nat) : Int).tmod 2;
 (if (decide (t19 = 1)) = true then
 (if (t18.length + ([0] : List Int).length) * 1 <= 140737488355328 then
 let t20 : List Int := t18 ++ [0];
 let t21 := i64.wrap (s2.1 + 1);
 some (Sum.inl (t21, t20))
 else
 none)
 else
 let t22 := i64.wrap (s2.1 + 1);
 some (Sum.inl (t22, t18)))
 else
 none)
 else
 none)
 else
 none))
 else
 none)
 else
 some (Sum.inr s2.2))
noncomputable def Z64l3_step (i23 : Nat) (x24 : Chunk) (s25 : (List Int)) : Option (((List Int)) ⊕ ((List Int))) :=
 ((if (decide (x24.id = [70, 79, 82, 77])) = true then
 (Z64 x24.kids).bind fun q6 =>
 (if (x24.kind.length + q6.length) * 1 <= 140737488355328 then
 let t7 : List Int := x24.kind ++ q6;
 some t7
 else
 none)
 else
 some x24.data) : Option ((List Int))).bind (fun inner8 =>
 (if (s25.length + x24.id.length) * 1 <= 140737488355328 then
 let t9 : List Int := s25 ++ x24.id;
 let t10 := ishr .i64 ((inner8.length : Nat) : Int) 24;
 let t11 := u8.wrap t10;
 let t12 := ishr .i64 ((inner8.length : Nat) : Int) 16;
 let t13 := u8.wrap t12;
 let t14 := ishr .i64 ((inner8.length : Nat) : Int) 8;
 let t15 := u8.wrap t14;
 let t16 := u8.wrap ((inner8.length : Nat) : Int);
 (if (t9.length + ([t11, t13, t15, t16] : List Int).length) * 1 <= 140737488355328 then
 let t17 : List Int := t9 ++ [t11, t13, t15, t16];
 (if (t17.length + inner8.length) * 1 <= 140737488355328 then
 let t18 : List Int := t17 ++ inner8;
 let t19 : Int := ((inner8.length : Nat) : Int).tmod 2;
 (if (decide (t19 = 1)) = true then
 (if (t18.length + ([0] : List Int).length) * 1 <= 140737488355328 then
 let t20 : List Int := t18 ++ [0];
 some (Sum.inl (t20))
 else
 none)
 else
 some (Sum.inl (t18)))
 else
 none)
 else
 none)
 else
 none))
theorem Z64l3_over (l1 : List Chunk) (hl : l1.length <= 9223372036854775807) (s25 : (List Int)) : loop (Z64l3 l1) ((0, s25) : Int × (List Int)) =
    overL (Z64l3_step) (fun (s25 : (List Int)) => some s25) 0 l1 s25 := by
  refine B28 l1 (fun n (s : (List Int)) => ((((n : Nat) : Int), s) : Int × (List Int))) _ _ (fun s => ?_) (fun i x s h => ?_) 0 s25 (A30 _)
  . unfold Z64l3; simp
  . have hlt := B6 h
    have h1 : ((i : Nat) : Int) < ((l1.length : Nat) : Int) := by omega
    have h0 : (0 : Int) <= ((i : Nat) : Int) := by omega
    have hw : i64.wrap (((i : Nat) : Int) + 1) = (((i + 1 : Nat) : Nat) : Int) := w64 (by omega)
    unfold Z64l3 Z64l3_step
    simp only [h1, h0, hw, h, A8, A6, A31, A15, A12, A1, A56, Function.comp_def, B48, B36, A37, A52]
theorem Z64_eq (l1 : List Chunk) : Z64 l1 =
 (loop (Z64l3 l1) (0, [])).bind (fun out26 =>
 some out26) := (B0 ..).trans (by kernel_rfl)
theorem Z65_eq (f1 : List Int) (f2 : Int) (f3 b4 : List Int) : Z65 f1 f2 f3 b4 =
 some (decide (f1 = b4), b4) := (B0 ..).trans (by kernel_rfl)
noncomputable def Z66l7 (t51 : List Int) (s52 : Int × Int) : Option ((Int × Int) ⊕ (Int)) :=
 (if (decide (s52.2 < ((t51.length : Nat) : Int))) = true then
 (if 0 <= s52.2 ∧ s52.2 < (t51.length : Int) then
 let t55 := ishl .i64 s52.1 8;
 let t56 := i64.wrap (rd t51 s52.2);
 let t57 := ior .i64 t55 t56;
 let t58 := i64.wrap (s52.2 + 1);
 some (Sum.inl (t57, t58))
 else
 none)
 else
 some (Sum.inr s52.1))
noncomputable def Z66l7_step (i59 : Nat) (x60 s61 : Int) : Option ((Int) ⊕ (Int)) :=
 let t55 := ishl .i64 s61 8;
 let t56 := i64.wrap (x60);
 let t57 := ior .i64 t55 t56;
 some (Sum.inl (t57))
theorem Z66l7_over (t51 : List Int) (hl : t51.length <= 9223372036854775807) (s61 : Int) : loop (Z66l7 t51) ((s61, 0) : Int × Int) =
    overL (Z66l7_step) (fun (s61 : Int) => some s61) 0 t51 s61 := by
  refine B28 t51 (fun n (s : Int) => ((s, ((n : Nat) : Int)) : Int × Int)) _ _ (fun s => ?_) (fun i x s h => ?_) 0 s61 (A30 _)
  . unfold Z66l7; simp
  . have hlt := B6 h
    have h1 : ((i : Nat) : Int) < ((t51.length : Nat) : Int) := by omega
    have h0 : (0 : Int) <= ((i : Nat) : Int) := by omega
    have hw : i64.wrap (((i : Nat) : Int) + 1) = (((i + 1 : Nat) : Nat) : Int) := w64 (by omega)
    have hr : rd t51 ((i : Nat) : Int) = x := B18 h
    unfold Z66l7 Z66l7_step
    simp only [h1, h0, hw, h, hr, A8, A6, A31, A15, A12, A1, A56, Function.comp_def, B48, B36, A37, A52]
theorem Z66_eq (at1 end2 depth3 : Int) (b4 : List Int) (b5 b6 b7 : Int) : Z66 at1 end2 depth3 b4 b5 b6 b7 =
 (Z98 at1 end2 b4 b5 b6 b7).bind fun q8 =>
 let t14 := i64.wrap (q8.2.2.1 + 1);
 ((if (decide (t14 <= 400)) = true then
 (Z99 (decide (depth3 <= 8)) 4 at1 q8.2.1 t14 q8.2.2.2.1 q8.2.2.2.2).bind fun q15 =>
 (if (!q15.1) = true then
 some (true, q15.2.1, q15.2.2.1, q15.2.2.2.1, q15.2.2.2.2)
 else
 let t21 := i64.wrap (end2 - at1);
 let t22 := i64.wrap (at1 + 4);
 (Z99 (decide (t21 ≥ 8)) 6 t22 q15.2.1 q15.2.2.1 q15.2.2.2.1 q15.2.2.2.2).bind fun q23 =>
 some (!q23.1, q23.2.1, q23.2.2.1, q23.2.2.2.1, q23.2.2.2.2))
 else
 (Z99 false 4 at1 q8.2.1 t14 q8.2.2.2.1 q8.2.2.2.2).bind fun q29 =>
 (if (!q29.1) = true then
 some (true, q29.2.1, q29.2.2.1, q29.2.2.2.1, q29.2.2.2.2)
 else
 let t35 := i64.wrap (end2 - at1);
 let t36 := i64.wrap (at1 + 4);
 (Z99 (decide (t35 ≥ 8)) 6 t36 q29.2.1 q29.2.2.1 q29.2.2.2.1 q29.2.2.2.2).bind fun q37 =>
 some (!q37.1, q37.2.1, q37.2.2.1, q37.2.2.2.1, q37.2.2.2.2))) : Option (Bool × (List Int) × Int × Int × Int)).bind (fun p43 =>
 (if p43.1 = true then
 some (q8.1, [], [], [], end2, p43.2.1, p43.2.2.1, p43.2.2.2.1, p43.2.2.2.2)
 else
 let t49 := i64.wrap (at1 + 4);
 let t50 := i64.wrap (at1 + 8);
 (if 0 <= t50 ∧ t50 <= ((p43.2.1.length : Nat) : Int) then
 (if 0 <= t49 ∧ t49 <= t50 then
 let t51 : List Int := cutL p43.2.1 t49.toNat t50.toNat;
 (loop (Z66l7 t51) (0, 0)).bind (fun n62 =>
 let t63 := i64.wrap (at1 + 8);
 let t64 := i64.wrap (end2 - t63);
 let t65 := i64.wrap (at1 + 4);
 (Z99 (decide (n62 <= t64)) 6 t65 p43.2.1 p43.2.2.1 p43.2.2.2.1 p43.2.2.2.2).bind fun q66 =>
 (if (!q66.1) = true then
 some (q8.1, [], [], [], end2, q66.2.1, q66.2.2.1, q66.2.2.2.1, q66.2.2.2.2)
 else
 let t72 := i64.wrap (t63 + n62);
 ((if (decide (q8.1 = [70, 79, 82, 77])) = true then
 (Z100 t63 t72 q66.2.1 q66.2.2.1 q66.2.2.2.1 q66.2.2.2.2).bind fun q73 =>
 let t79 := i64.wrap (t63 + 4);
 let t80 := i64.wrap (depth3 + 1);
 (Z46 t79 t72 t80 q73.2.1 q73.2.2.1 q73.2.2.2.1 q73.2.2.2.2).bind fun q81 =>
 some (q81.2.1, q81.2.2.1, q81.2.2.2.1, q81.2.2.2.2, q8.1, q73.1, [], q81.1)
 else
 (if 0 <= t72 ∧ t72 <= ((q66.2.1.length : Nat) : Int) then
 (if 0 <= t63 ∧ t63 <= t72 then
 let t87 : List Int := cutL q66.2.1 t63.toNat t72.toNat;
 (Z101 t87).bind fun q88 =>
 some (q66.2.1, q66.2.2.1, q66.2.2.2.1, q66.2.2.2.2, q8.1, [], q88, [])
 else
 none)
 else
 none)) : Option ((List Int) × Int × Int × Int × (List Int) × (List Int) × (List Int) × (List Chunk))).bind (fun p89 =>
 (let t98 : Int := n62.tmod 2;
 (if (decide (t98 = 1)) = true then
 (Z99 (decide (t72 < end2)) 6 t72 p89.1 p89.2.1 p89.2.2.1 p89.2.2.2.1).bind fun q99 =>
 some (q99.1, q99.2.1, q99.2.2.1, q99.2.2.2.1, q99.2.2.2.2)
 else
 some (false, p89.1, p89.2.1, p89.2.2.1, p89.2.2.2.1)) : Option (Bool × (List Int) × Int × Int × Int)).bind (fun p105 =>
 (if p105.1 = true then
 (if 0 <= t72 ∧ t72 < (p105.2.1.length : Int) then
 (Z99 (decide (rd p105.2.1 t72 = 0)) 3 t72 p105.2.1 p105.2.2.1 p105.2.2.2.1 p105.2.2.2.2).bind fun q111 =>
 let t117 := i64.wrap (t72 + 1);
 some (p89.2.2.2.2.1, p89.2.2.2.2.2.1, p89.2.2.2.2.2.2.1, p89.2.2.2.2.2.2.2, t117, q111.2.1, q111.2.2.1, q111.2.2.2.1, q111.2.2.2.2)
 else
 none)
 else
 some (p89.2.2.2.2.1, p89.2.2.2.2.2.1, p89.2.2.2.2.2.2.1, p89.2.2.2.2.2.2.2, t72, p105.2.1, p105.2.2.1, p105.2.2.2.1, p105.2.2.2.2))))))
 else
 none)
 else
 none))) := (B0 ..).trans (by kernel_rfl)
noncomputable def Z67l2 (s1 : List Chunk) (v2 : Int) : Option ((Int) ⊕ ((Unit) ⊕ (Int))) :=
 (if (decide (v2 < ((s1.length : Nat) : Int))) = true then
 (if 0 <= v2 then
 (s1[v2.toNat]?).bind fun e3 =>
 (Z102 e3.id e3.kind e3.data e3.kids).bind fun q4 =>
 (if q4 = true then
 some (Sum.inr (Sum.inr v2))
 else
 let t5 := i64.wrap (v2 + 1);
 some (Sum.inl t5))
 else
 none)
 else
 some (Sum.inr (Sum.inl ())))
noncomputable def Z67l2_step (i6 : Nat) (x7 : Chunk) (s8 : Unit) : Option ((Unit) ⊕ ((Unit) ⊕ (Int))) :=
 (Z102 x7.id x7.kind x7.data x7.kids).bind fun q4 =>
 (if q4 = true then
 some (Sum.inr (Sum.inr ((i6 : Nat) : Int)))
 else
 some (Sum.inl (())))
theorem Z67l2_over (s1 : List Chunk) (hl : s1.length <= 9223372036854775807) (s8 : Unit) : loop (Z67l2 s1) (0 : Int) =
    overL (Z67l2_step) (fun (s8 : Unit) => some (Sum.inl ())) 0 s1 s8 := by
  refine B28 s1 (fun n (s : Unit) => (((n : Nat) : Int) : Int)) _ _ (fun s => ?_) (fun i x s h => ?_) 0 s8 (A30 _)
  . unfold Z67l2; simp
  . have hlt := B6 h
    have h1 : ((i : Nat) : Int) < ((s1.length : Nat) : Int) := by omega
    have h0 : (0 : Int) <= ((i : Nat) : Int) := by omega
    have hw : i64.wrap (((i : Nat) : Int) + 1) = (((i + 1 : Nat) : Nat) : Int) := w64 (by omega)
    unfold Z67l2 Z67l2_step
    simp only [h1, h0, hw, h, A8, A6, A31, A15, A12, A1, A56, Function.comp_def, B48, B36, A37, A52]
theorem Z67_eq (s1 : List Chunk) : Z67 s1 =
 (loop (Z67l2 s1) 0).bind (fun o11 =>
 (Sum.elim (fun (p9 : Unit) =>
 some (-1))
 (fun (v10 : Int) =>
 some v10) o11)) := (B0 ..).trans (by kernel_rfl)
noncomputable def Z68l15 (t44 : Int) (s45 : Int × Int × Int × Int × Int × (List Int) × Int × Int × Int × Bool × (List Int) × (List Int)) : Option ((Int × Int × Int × Int × Int × (List Int) × Int × Int × Int × Bool × (List Int) × (List Int)) ⊕ ((Int × Int × Int × (List Int) × Int × Int × Int × Bool × (List Int) × (List Int)) ⊕ ((List Int) × Int × Int × Int × Int × (List Int) × Int × Int × Int × Bool × (List Int)))) :=
 let b54 := s45.2.2.2.2.2.2.2.2.1;
 let b55 := s45.2.2.2.2.2.2.2.2.2.1;
 let b56 := s45.2.2.2.2.2.2.2.2.2.2.1;
 let places57 := s45.2.2.2.2.2.2.2.2.2.2.2;
 (if (decide (s45.2.1 < t44)) = true then
 (Z82 s45.1).bind fun q58 =>
 (Z105 q58 s45.2.2.1 s45.2.2.2.1 s45.2.2.2.2.1 s45.2.2.2.2.2.1 s45.2.2.2.2.2.2.1 s45.2.2.2.2.2.2.2.1 b54 b55 b56).bind fun q59 =>
 let tr65 := q59.2.2.2.2.2.1;
 let tr66 := q59.2.2.2.2.2.2.1;
 let tr67 := q59.2.2.2.2.2.2.2.1;
 let tr68 := q59.2.2.2.2.2.2.2.2.1;
 let tr69 := q59.2.2.2.2.2.2.2.2.2.1;
 let tr70 := q59.2.2.2.2.2.2.2.2.2.2.1;
 let tr71 := q59.2.2.2.2.2.2.2.2.2.2.2;
 (if (!decide (q59.2.2.1 = 0)) = true then
 some (Sum.inr (Sum.inr ([], q59.2.2.1, q59.2.2.2.1, q59.2.2.2.2.1, tr65, tr66, tr67, tr68, tr69, tr70, tr71)))
 else
 ((if q59.1 = true then
 some true
 else
 (if (decide (q59.2.1 < 0)) = true then
 some true
 else
 some (decide (q59.2.1 ≥ 257)))) : Option (Bool)).bind (fun v72 =>
 (if v72 = true then
 some (Sum.inr (Sum.inr ([], 3, q59.2.2.2.1, q59.2.2.2.2.1, tr65, tr66, tr67, tr68, tr69, tr70, tr71)))
 else
 (if (places57.length + ([q59.2.1] : List Int).length) * 8 <= 140737488355328 then
 let t73 : List Int := places57 ++ [q59.2.1];
 let t74 := i64.wrap (s45.2.1 + 1);
 some (Sum.inl (q59.2.1, t74, q59.2.2.2.1, q59.2.2.2.2.1, tr65, tr66, tr67, tr68, tr69, tr70, tr71, t73))
 else
 none))))
 else
 some (Sum.inr (Sum.inl (s45.2.2.1, s45.2.2.2.1, s45.2.2.2.2.1, s45.2.2.2.2.2.1, s45.2.2.2.2.2.2.1, s45.2.2.2.2.2.2.2.1, b54, b55, b56, places57))))
theorem Z68_eq (b1 : List Int) : Z68 b1 =
 (Z103 b1 0).bind fun q2 =>
 ((if (!decide (q2.2.2 = 0)) = true then
 some (Sum.inr ([], q2.2.2))
 else
 ((if (decide (q2.1 > 4000)) = true then
 some (Sum.inr ([], 4))
 else
 ((if (decide (q2.1 = 0)) = true then
 some (decide (q2.2.1 < ((b1.length : Nat) : Int)))
 else
 some false) : Option (Bool)).bind (fun v6 =>
 (if v6 = true then
 some (Sum.inr ([], 3))
 else
 (if (decide (q2.1 = 0)) = true then
 some (Sum.inr ([], 0))
 else
 some (Sum.inl ()))))) : Option ((Unit) ⊕ ((List Int) × Int))).bind (fun o11 =>
 (Sum.elim (fun (p7 : Unit) =>
 some (Sum.inl ()))
 (fun (p8 : (List Int) × Int) =>
 some (Sum.inr (p8.1, p8.2))) o11))) : Option ((Unit) ⊕ ((List Int) × Int))).bind (fun o16 =>
 (Sum.elim (fun (p12 : Unit) =>
 (Z79 0 144).bind fun q17 =>
 ((if 0 <= q2.2.1 ∧ q2.2.1 <= ((b1.length : Nat) : Int) then
 let t21 : List Int := cutL b1 q2.2.1.toNat b1.length;
 (Z104 q17.1 q17.2.2 t21).bind fun o33 =>
 (Sum.elim (fun (q22 : Int × Int × Int × (List Int) × Int × Int × Int × Bool × (List Int)) =>
 some (q22.1, q22.2.1, q22.2.2.1, q22.2.2.2.1, q22.2.2.2.2.1, q22.2.2.2.2.2.1, q22.2.2.2.2.2.2.1, q22.2.2.2.2.2.2.2.1, q22.2.2.2.2.2.2.2.2))
 (fun (q32 : Unit) =>
 none) o33)
 else
 none) : Option (Int × Int × Int × (List Int) × Int × Int × Int × Bool × (List Int))).bind (fun p34 =>
 let t44 := i64.wrap (q2.1 + 1);
 (loop (Z68l15 t44) (0, 0, p34.1, p34.2.1, p34.2.2.1, p34.2.2.2.1, p34.2.2.2.2.1, p34.2.2.2.2.2.1, p34.2.2.2.2.2.2.1, p34.2.2.2.2.2.2.2.1, p34.2.2.2.2.2.2.2.2, [])).bind (fun o112 =>
 (Sum.elim (fun (p89 : Int × Int × Int × (List Int) × Int × Int × Int × Bool × (List Int) × (List Int)) =>
 (Z106 p89.2.2.2.2.2.2.2.2.2).bind fun q113 =>
 (Z107 q113.1).bind fun q116 =>
 some (q116.1, q116.2))
 (fun (p100 : (List Int) × Int × Int × Int × Int × (List Int) × Int × Int × Int × Bool × (List Int)) =>
 some (p100.1, p100.2.1)) o112))))
 (fun (p13 : (List Int) × Int) =>
 some (p13.1, p13.2)) o16)) := (B0 ..).trans (by kernel_rfl)
theorem Z69_eq (b1 : List Int) (b2 b3 : Int) : Z69 b1 b2 b3 =
 (if (!decide (b3 = 0)) = true then
 some (0, b1, b2, b3)
 else
 (Z103 b1 b2).bind fun q4 =>
 (Z70 (decide (q4.2.2 = 0)) q4.2.2 b1 b2 b3).bind fun q8 =>
 (if q8.1 = true then
 some (q4.1, q8.2.1, q4.2.1, q8.2.2.2)
 else
 some (q4.1, q8.2.1, q8.2.2.1, q8.2.2.2))) := (B0 ..).trans (by kernel_rfl)
theorem Z70_eq (ok1 : Bool) (err2 : Int) (b3 : List Int) (b4 b5 : Int) : Z70 ok1 err2 b3 b4 b5 =
 ((if (decide (b5 = 0)) = true then
 some (!ok1)
 else
 some false) : Option (Bool)).bind (fun v6 =>
 (if v6 = true then
 some (decide (err2 = 0), b3, b4, err2)
 else
 some (decide (b5 = 0), b3, b4, b5))) := (B0 ..).trans (by kernel_rfl)
end
end Go.Proofs.YtcphcfknnfibmaaGreat.P
