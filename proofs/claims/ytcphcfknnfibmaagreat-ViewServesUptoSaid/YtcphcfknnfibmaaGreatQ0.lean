/- Part of the proof of ViewServes: equations of functions. -/
import Derived.Test.YtcphcfknnfibmaaGreatG
import Derived.Test.YtcphcfknnfibmaaGreatF5
namespace Go.Proofs.YtcphcfknnfibmaaGreat.P
open Go Go.IntKind Go.Proofs.YtcphcfknnfibmaaGreat.V
set_option linter.unusedVariables false
set_option linter.unusedSimpArgs false
set_option maxRecDepth 100000
noncomputable section
theorem Z0_eq (b1 : List File) (b2 : List Outline) (name3 : List Int) : Z0 b1 b2 name3 =
 (Z1 b1 b2).bind fun q4 =>
 (if q4 = true then
 (Z2).bind fun q5 =>
 some q5
 else
 (Z3 b1 b2 name3).bind fun q6 =>
 (Z4 b1 b2 name3).bind fun q9 =>
 (if (decide (q6.2 = q9.2)) = true then
 (Z5 q6.1 q9.1).bind fun q12 =>
 (if q12 = true then
 (Z2).bind fun q13 =>
 some q13
 else
 some false)
 else
 some false)) := (B0 ..).trans (by kernel_rfl)
noncomputable def Z1l14 (e18 : Chunk) (s19 : Int × Int × (List Segment)) : Option ((Int × Int × (List Segment)) ⊕ (Int × (List Segment))) :=
 let v21 := s19.2.1;
 (if (decide (v21 < ((e18.kids.length : Nat) : Int))) = true then
 (if 0 <= v21 then
 (e18.kids[v21.toNat]?).bind fun e23 =>
 (if (decide (e23.id = [83, 73, 90, 69])) = true then
 (if (decide (e23.id = [83, 73, 90, 69])) = true then
 (Z7 e23.data).bind fun q24 =>
 let t25 := i64.wrap (s19.1 + q24);
 let t26 := i64.wrap (v21 + 1);
 some (Sum.inl (t25, t26, s19.2.2))
 else
 (if (decide (e23.id = [77, 65, 83, 75])) = true then
 (Z8 e23.data).bind fun q27 =>
 (if (s19.2.2.length + q27.2.2.2.1.length) * 96 <= 140737488355328 then
 let t34 : List Segment := s19.2.2 ++ q27.2.2.2.1;
 let t35 := i64.wrap (v21 + 1);
 some (Sum.inl (s19.1, t35, t34))
 else
 none)
 else
 let t36 := i64.wrap (v21 + 1);
 some (Sum.inl (s19.1, t36, s19.2.2))))
 else
 (if (decide (e23.id = [66, 65, 67, 75])) = true then
 (Z7 e23.data).bind fun q37 =>
 let t38 := i64.wrap (s19.1 + q37);
 let t39 := i64.wrap (v21 + 1);
 some (Sum.inl (t38, t39, s19.2.2))
 else
 (if (decide (e23.id = [77, 65, 83, 75])) = true then
 (Z8 e23.data).bind fun q40 =>
 (if (s19.2.2.length + q40.2.2.2.1.length) * 96 <= 140737488355328 then
 let t47 : List Segment := s19.2.2 ++ q40.2.2.2.1;
 let t48 := i64.wrap (v21 + 1);
 some (Sum.inl (s19.1, t48, t47))
 else
 none)
 else
 let t49 := i64.wrap (v21 + 1);
 some (Sum.inl (s19.1, t49, s19.2.2)))))
 else
 none)
 else
 some (Sum.inr (s19.1, s19.2.2)))
noncomputable def Z1l11 (tr11 : List Chunk) (s14 : Int × Int × (List Segment)) : Option ((Int × Int × (List Segment)) ⊕ (Int × (List Segment))) :=
 (if (decide (s14.2.1 < ((tr11.length : Nat) : Int))) = true then
 (if 0 <= s14.2.1 then
 (tr11[s14.2.1.toNat]?).bind fun e18 =>
 (loop (Z1l14 e18) (s14.1, 0, s14.2.2)).bind (fun p55 =>
 let t58 := i64.wrap (s14.2.1 + 1);
 some (Sum.inl (p55.1, t58, p55.2)))
 else
 none)
 else
 some (Sum.inr (s14.1, s14.2.2)))
noncomputable def Z1l4 (b1 : List File) (s3 : Int × Int × Int × (List Segment)) : Option ((Int × Int × Int × (List Segment)) ⊕ ((Int × (List Segment)) ⊕ (Bool))) :=
 let v6 := s3.2.2.1;
 (if (decide (v6 < ((b1.length : Nat) : Int))) = true then
 (if 0 <= v6 then
 (b1[v6.toNat]?).bind fun e8 =>
 let t9 := i64.wrap (s3.1 + ((e8.data.length : Nat) : Int));
 (if (decide (t9 > 12000)) = true then
 some (Sum.inr (Sum.inr true))
 else
 (Z6 e8.data).bind fun q10 =>
 (loop (Z1l11 q10.1) (s3.2.1, 0, s3.2.2.2)).bind (fun p64 =>
 let t67 := i64.wrap (v6 + 1);
 some (Sum.inl (t9, p64.1, t67, p64.2))))
 else
 none)
 else
 some (Sum.inr (Sum.inl (s3.2.1, s3.2.2.2))))
theorem Z1_eq (b1 : List File) (b2 : List Outline) : Z1 b1 b2 =
 (loop (Z1l4 b1) (0, 0, 0, [])).bind (fun o78 =>
 (Sum.elim (fun (p74 : Int × (List Segment)) =>
 (if (decide (((b1.length : Nat) : Int) > 60)) = true then
 some true
 else
 (if (decide (((b2.length : Nat) : Int) > 50)) = true then
 some true
 else
 (if (decide (p74.1 > 16000)) = true then
 some true
 else
 (Z9 p74.2).bind fun q79 =>
 some q79))))
 (fun (v77 : Bool) =>
 some v77) o78)) := (B0 ..).trans (by kernel_rfl)
noncomputable def Z2_b (Z3 : type_of% @Z3) (Z10 : type_of% @Z10) (Z11 : type_of% @Z11) (Z12 : type_of% @Z12) (Z13 : type_of% @Z13) (Z14 : type_of% @Z14) : Option Bool :=
 (if 0 < ([120, 121] : List Int).length then
 (Z3 [(File.mk [97] 2 [120, 121])] [] []).bind fun q1 =>
 ((Z10 q1.1 10).bind fun o11 =>
 (Sum.elim (fun (q4 : Bool × (List Int) × Int × (List File) × (List Int)) =>
 some (0, q4.1, q4.2.1, q4.2.2.1, q4.2.2.2.1, q4.2.2.2.2))
 (fun (q10 : Int) =>
 none) o11) : Option (Int × Bool × (List Int) × Int × (List File) × (List Int))).bind (fun p12 =>
 ((if (!decide (q1.2 = 0)) = true then
 some true
 else
 some (!decide (p12.1 = 0))) : Option (Bool)).bind (fun v19 =>
 (if v19 = true then
 some false
 else
 (if 0 < ([120, 121] : List Int).length then
 (Z11 [97] [120, 121] p12.2.1 p12.2.2.1 p12.2.2.2.1 p12.2.2.2.2.1 p12.2.2.2.2.2).bind fun q20 =>
 (if (decide (q20.1 = 0)) = true then
 (Z12 q20.2.1 q20.2.2.1 q20.2.2.2.1 q20.2.2.2.2.1 q20.2.2.2.2.2).bind fun q27 =>
 (if (decide (q27.1 = 2)) = true then
 (Z13 q27.2.1 q27.2.2.1 q27.2.2.2.1 q27.2.2.2.2.1 q27.2.2.2.2.2).bind fun q34 =>
 (if (decide (q34.1 = 0)) = true then
 (Z14 q34.2.1 q34.2.2.1 q34.2.2.2.1 q34.2.2.2.2.1 q34.2.2.2.2.2).bind fun q41 =>
 some (decide (((q41.1.length : Nat) : Int) = 1))
 else
 some false)
 else
 some false)
 else
 some false)
 else
 none))))
 else
 none)
theorem Z2_eq : Z2 = Z2_b @Z3 @Z10 @Z11 @Z12 @Z13 @Z14 := (B0 ..).trans (by kernel_rfl)
noncomputable def Z3l6_b (Z17 : type_of% @Z17) (b1 : List File) (name3 : List Int) (v8 : Int) : Option ((Int) ⊕ ((Unit) ⊕ ((List Int) × Int))) :=
 (if (decide (v8 < ((b1.length : Nat) : Int))) = true then
 (if 0 <= v8 then
 (b1[v8.toNat]?).bind fun e9 =>
 (if (decide (e9.name = name3)) = true then
 (Z17 e9.data).bind fun q10 =>
 some (Sum.inr (Sum.inr (q10, 0)))
 else
 let t11 := i64.wrap (v8 + 1);
 some (Sum.inl t11))
 else
 none)
 else
 some (Sum.inr (Sum.inl ())))
noncomputable def Z3l6 := Z3l6_b @Z17
noncomputable def Z3_b (Z15 : type_of% @Z15) (Z16 : type_of% @Z16) (loop : type_of% @loop) (Z3l6 : type_of% @Z3l6) (b1 : List File) (b2 : List Outline) (name3 : List Int) : Option ((List Int) × Int) :=
 (Z15 b1 b2).bind fun q4 =>
 (if (!q4) = true then
 some ([], 110)
 else
 (if (decide (name3 = [])) = true then
 (Z16 b1 b2).bind fun q5 =>
 some (q5.1, q5.2)
 else
 (loop (Z3l6 b1 name3) 0).bind (fun o19 =>
 (Sum.elim (fun (p15 : Unit) =>
 some ([], 5))
 (fun (p16 : (List Int) × Int) =>
 some (p16.1, p16.2)) o19))))
theorem Z3_eq b1 b2 name3 : Z3 b1 b2 name3 = Z3_b @Z15 @Z16 @loop @Z3l6 b1 b2 name3 := (B0 ..).trans (by kernel_rfl)
noncomputable def Z4l6 (b1 : List File) (name3 : List Int) (v8 : Int) : Option ((Int) ⊕ ((Unit) ⊕ (Int × (List Int)))) :=
 (if (decide (v8 < ((b1.length : Nat) : Int))) = true then
 (if 0 <= v8 then
 (b1[v8.toNat]?).bind fun e9 =>
 (if (decide (e9.name = name3)) = true then
 (if (([] : List Int).length + e9.data.length) * 1 <= 140737488355328 then
 let t10 : List Int := ([] : List Int) ++ e9.data;
 some (Sum.inr (Sum.inr (0, t10)))
 else
 none)
 else
 let t11 := i64.wrap (v8 + 1);
 some (Sum.inl t11))
 else
 none)
 else
 some (Sum.inr (Sum.inl ())))
theorem Z4_eq (b1 : List File) (b2 : List Outline) (name3 : List Int) : Z4 b1 b2 name3 =
 (Z18 b1 b2).bind fun q4 =>
 (if (!q4) = true then
 some ([], 110)
 else
 (if (decide (name3 = [])) = true then
 (Z19 b1 b2).bind fun q5 =>
 some (q5.1, q5.2)
 else
 (loop (Z4l6 b1 name3) 0).bind (fun o19 =>
 (Sum.elim (fun (p15 : Unit) =>
 some ([], 5))
 (fun (p16 : Int × (List Int)) =>
 some (p16.2, p16.1)) o19)))) := (B0 ..).trans (by kernel_rfl)
noncomputable def Z5l4 (a1 b2 : List Int) (v3 : Int) : Option ((Int) ⊕ ((Unit) ⊕ (Bool))) :=
 (if (decide (v3 < ((a1.length : Nat) : Int))) = true then
 (if 0 <= v3 ∧ v3 < (a1.length : Int) then
 (if 0 <= v3 ∧ v3 < (b2.length : Int) then
 (if (!decide (rd a1 v3 = rd b2 v3)) = true then
 some (Sum.inr (Sum.inr false))
 else
 let t4 := i64.wrap (v3 + 1);
 some (Sum.inl t4))
 else
 none)
 else
 none)
 else
 some (Sum.inr (Sum.inl ())))
noncomputable def Z5l4_step (b2 : List Int) (i5 : Nat) (x6 : Int) (s7 : Unit) : Option ((Unit) ⊕ ((Unit) ⊕ (Bool))) :=
 (if 0 <= ((i5 : Nat) : Int) ∧ ((i5 : Nat) : Int) < (b2.length : Int) then
 (if (!decide (x6 = rd b2 ((i5 : Nat) : Int))) = true then
 some (Sum.inr (Sum.inr false))
 else
 some (Sum.inl (())))
 else
 none)
theorem Z5l4_over (a1 b2 : List Int) (hl : a1.length <= 9223372036854775807) (s7 : Unit) : loop (Z5l4 a1 b2) (0 : Int) =
    overL (Z5l4_step b2) (fun (s7 : Unit) => some (Sum.inl ())) 0 a1 s7 := by
  refine B22 a1 (fun n (s : Unit) => (((n : Nat) : Int) : Int)) _ _ (fun s => ?_) (fun i x s h => ?_) 0 s7 (A24 _)
  . unfold Z5l4; simp
  . have hlt := B7 h
    have h1 : ((i : Nat) : Int) < ((a1.length : Nat) : Int) := by omega
    have h0 : (0 : Int) <= ((i : Nat) : Int) := by omega
    have hw : i64.wrap (((i : Nat) : Int) + 1) = (((i + 1 : Nat) : Nat) : Int) := w64 (by omega)
    have hr : rd a1 ((i : Nat) : Int) = x := B41 h
    unfold Z5l4 Z5l4_step
    simp only [h1, h0, hw, h, hr, A7, A5, A22, A13, A12, A1, A49, Function.comp_def, B42, B29, A31, A47]
theorem Z5_eq (a1 b2 : List Int) : Z5 a1 b2 =
 (if (!decide (((a1.length : Nat) : Int) = ((b2.length : Nat) : Int))) = true then
 some false
 else
 (loop (Z5l4 a1 b2) 0).bind (fun o10 =>
 (Sum.elim (fun (p8 : Unit) =>
 some true)
 (fun (v9 : Bool) =>
 some v9) o10))) := (B0 ..).trans (by kernel_rfl)
theorem Z6_eq (b1 : List Int) : Z6 b1 =
 (if (decide (((b1.length : Nat) : Int) > 60000)) = true then
 some ([], 0, 4)
 else
 (Z20 0 ((b1.length : Nat) : Int) 1 b1 0).bind fun q2 =>
 (if (!decide (q2.2.2.1 = 0)) = true then
 some ([], q2.2.1, q2.2.2.1)
 else
 some (q2.1, 0, 0))) := (B0 ..).trans (by kernel_rfl)
theorem Z7_eq (b1 : List Int) : Z7 b1 =
 (Z21 b1 0).bind fun q2 =>
 (Z21 b1 q2.2.1).bind fun q6 =>
 (if (!decide (q2.2.2 = 0)) = true then
 some 0
 else
 (if (!decide (q6.2.2 = 0)) = true then
 some 0
 else
 (if (decide (q2.1 > 200)) = true then
 some 0
 else
 (if (decide (q6.1 > 200)) = true then
 some 0
 else
 let t10 := i64.wrap (q2.1 * q6.1);
 some t10)))) := (B0 ..).trans (by kernel_rfl)
noncomputable def Z8l6 (b1 : List Int) (s9 : Int × Int × Int × Int × Int × (List Segment) × (List Int) × (List Arr2)) : Option ((Int × Int × Int × Int × Int × (List Segment) × (List Int) × (List Arr2)) ⊕ ((Int × Int × Int × (List Segment) × (List Int) × (List Arr2)) ⊕ (Int × Int × Int × (List Segment) × (List Int) × (List Arr2)))) :=
 (if (decide (s9.2.1 < ((b1.length : Nat) : Int))) = true then
 (Z23 b1 s9.2.1 s9.2.2.1 s9.2.2.2.1 s9.2.2.2.2.1 s9.2.2.2.2.2.1 s9.2.2.2.2.2.2.1 s9.2.2.2.2.2.2.2).bind fun q18 =>
 let tr23 := q18.2.2.2.2.1;
 let tr24 := q18.2.2.2.2.2.1;
 let tr25 := q18.2.2.2.2.2.2;
 (if (decide (q18.1 = 0)) = true then
 some (Sum.inr (Sum.inr (q18.2.1, q18.2.2.1, q18.2.2.2.1, tr23, tr24, tr25)))
 else
 (if 0 <= s9.1 ∧ s9.1 < (tr23.length : Int) then
 (tr23[s9.1.toNat]?).bind fun e26 =>
 (if (decide (e26.kind = 9)) = true then
 (Z22 s9.2.1 60 q18.2.1 q18.2.2.1 q18.2.2.2.1 tr23 tr24 tr25).bind fun q27 =>
 some (Sum.inr (Sum.inr (q27.1, q27.2.1, q27.2.2.1, q27.2.2.2.1, q27.2.2.2.2.1, q27.2.2.2.2.2)))
 else
 (Z24 b1 s9.1 q18.1 q18.2.1 q18.2.2.1 q18.2.2.2.1 tr23 tr24 tr25).bind fun q34 =>
 (if (!q34.2.1) = true then
 some (Sum.inr (Sum.inr (q34.2.2.1, q34.2.2.2.1, q34.2.2.2.2.1, q34.2.2.2.2.2.1, q34.2.2.2.2.2.2.1, q34.2.2.2.2.2.2.2)))
 else
 let t43 := i64.wrap (s9.1 + 1);
 some (Sum.inl (t43, q34.1, q34.2.2.1, q34.2.2.2.1, q34.2.2.2.2.1, q34.2.2.2.2.2.1, q34.2.2.2.2.2.2.1, q34.2.2.2.2.2.2.2))))
 else
 none))
 else
 some (Sum.inr (Sum.inl (s9.2.2.1, s9.2.2.2.1, s9.2.2.2.2.1, s9.2.2.2.2.2.1, s9.2.2.2.2.2.2.1, s9.2.2.2.2.2.2.2))))
theorem Z8_eq (b1 : List Int) : Z8 b1 =
 (if (decide (((b1.length : Nat) : Int) > 40000)) = true then
 (Z22 0 4 2 0 0 [] [] []).bind fun q2 =>
 some (q2.1, q2.2.1, q2.2.2.1, q2.2.2.2.1, q2.2.2.2.2.1, q2.2.2.2.2.2)
 else
 (loop (Z8l6 b1) (0, 0, 2, 0, 0, [], [], [])).bind (fun o58 =>
 (Sum.elim (fun (p44 : Int × Int × Int × (List Segment) × (List Int) × (List Arr2)) =>
 (Z25 p44.1 p44.2.1 p44.2.2.1 p44.2.2.2.1 p44.2.2.2.2.1 p44.2.2.2.2.2).bind fun q59 =>
 some (q59.1, q59.2.1, q59.2.2.1, q59.2.2.2.1, q59.2.2.2.2.1, q59.2.2.2.2.2))
 (fun (p51 : Int × Int × Int × (List Segment) × (List Int) × (List Arr2)) =>
 some (p51.1, p51.2.1, p51.2.2.1, p51.2.2.2.1, p51.2.2.2.2.1, p51.2.2.2.2.2)) o58))) := (B0 ..).trans (by kernel_rfl)
noncomputable def Z9l3 (l1 : List Segment) (s2 : Int × Int × Int) : Option ((Int × Int × Int) ⊕ (Int × Int)) :=
 let v5 := s2.2.2;
 (if (decide (v5 < ((l1.length : Nat) : Int))) = true then
 (if 0 <= v5 then
 (l1[v5.toNat]?).bind fun e6 =>
 ((if (decide (e6.kind > 5)) = true then
 some (!decide (e6.kind = 10))
 else
 some false) : Option (Bool)).bind (fun v7 =>
 (if v7 = true then
 let t8 := i64.wrap (v5 + 1);
 some (Sum.inl (s2.1, s2.2.1, t8))
 else
 let t9 := i64.wrap (s2.1 + 1);
 (Z21 e6.data 0).bind fun q10 =>
 (Z21 e6.data q10.2.1).bind fun q14 =>
 ((if (decide (q10.2.2 = 0)) = true then
 (if (decide (q14.2.2 = 0)) = true then
 (if (decide (q10.1 <= 200)) = true then
 some (decide (q14.1 <= 200))
 else
 some false)
 else
 some false)
 else
 some false) : Option (Bool)).bind (fun v18 =>
 (if v18 = true then
 let t19 := i64.wrap (q10.1 * q14.1);
 let t20 := i64.wrap (s2.2.1 + t19);
 let t21 := i64.wrap (v5 + 1);
 some (Sum.inl (t9, t20, t21))
 else
 let t22 := i64.wrap (v5 + 1);
 some (Sum.inl (t9, s2.2.1, t22))))))
 else
 none)
 else
 some (Sum.inr (s2.1, s2.2.1)))
theorem Z9_eq (l1 : List Segment) : Z9 l1 =
 (loop (Z9l3 l1) (0, 0, 0)).bind (fun p28 =>
 (if (decide (p28.1 > 12)) = true then
 some true
 else
 some (decide (p28.2 > 12000)))) := (B0 ..).trans (by kernel_rfl)
noncomputable def Z10_b (Z26 : type_of% @Z26) (Z27 : type_of% @Z27) (index1 : List Int) (bound2 : Int) : Option ((Bool × (List Int) × Int × (List File) × (List Int)) ⊕ (Int)) :=
 (Z26 index1).bind fun q3 =>
 (if (!decide (q3.2.2 = 0)) = true then
 some (Sum.inr q3.2.2)
 else
 ((if (!decide (((q3.1.length : Nat) : Int) = 1)) = true then
 some true
 else
 (if 0 <= (0 : Int) then
 (q3.1[(0 : Int).toNat]?).bind fun e7 =>
 (if (!decide (e7.id = [70, 79, 82, 77])) = true then
 some true
 else
 (if 0 <= (0 : Int) then
 (q3.1[(0 : Int).toNat]?).bind fun e8 =>
 (if (!decide (e8.kind = [66, 79, 79, 75])) = true then
 some true
 else
 (if 0 <= (0 : Int) then
 (q3.1[(0 : Int).toNat]?).bind fun e9 =>
 (if (!decide (((e9.kids.length : Nat) : Int) = 1)) = true then
 some true
 else
 (if 0 <= (0 : Int) then
 (q3.1[(0 : Int).toNat]?).bind fun e10 =>
 (if 0 <= (0 : Int) then
 (e10.kids[(0 : Int).toNat]?).bind fun e11 =>
 some (!decide (e11.id = [68, 73, 82, 77]))
 else
 none)
 else
 none))
 else
 none))
 else
 none))
 else
 none)) : Option (Bool)).bind (fun v12 =>
 (if v12 = true then
 some (Sum.inr 3)
 else
 (if 0 <= (0 : Int) then
 (q3.1[(0 : Int).toNat]?).bind fun e13 =>
 (if 0 <= (0 : Int) then
 (e13.kids[(0 : Int).toNat]?).bind fun e14 =>
 (Z27 e14.data).bind fun q15 =>
 (if (!decide (q15.2.2.1 = 0)) = true then
 some (Sum.inr q15.2.2.1)
 else
 ((if (decide (bound2 < 0)) = true then
 some true
 else
 some (decide (bound2 > 600000))) : Option (Bool)).bind (fun v20 =>
 (if v20 = true then
 some (Sum.inr 2)
 else
 some (Sum.inl (true, q15.1, bound2, q15.2.2.2, [])))))
 else
 none)
 else
 none))))
theorem Z10_eq index1 bound2 : Z10 index1 bound2 = Z10_b @Z26 @Z27 index1 bound2 := (B0 ..).trans (by kernel_rfl)
noncomputable def Z11l10 (s31 : Bool × (List Int) × Int × (List File) × (List Int)) : Option ((Bool × (List Int) × Int × (List File) × (List Int)) ⊕ (Bool × (List Int) × Int × (List File) × (List Int))) :=
 ((demon
 ((Z12 s31.1 s31.2.1 s31.2.2.1 s31.2.2.2.1 s31.2.2.2.2).bind fun q37 =>
 some (decide (q37.1 > q37.2.2.2.1), q37.2.1, q37.2.2.1, q37.2.2.2.1, q37.2.2.2.2.1, q37.2.2.2.2.2))
 ((Z12 s31.1 s31.2.1 s31.2.2.1 s31.2.2.2.1 s31.2.2.2.2).bind fun q44 =>
 some (decide (q44.1 > s31.2.2.1), q44.2.1, q44.2.2.1, q44.2.2.2.1, q44.2.2.2.2.1, q44.2.2.2.2.2))) : Option (Bool × Bool × (List Int) × Int × (List File) × (List Int))).bind (fun p51 =>
 let b56 := p51.2.2.2.2.1;
 let b57 := p51.2.2.2.2.2;
 (if p51.1 = true then
 (if 0 <= (0 : Int) ∧ (0 : Int) < (b57.length : Int) then
 let t58 : Int := rd b57 0;
 (if 0 <= t58 ∧ t58 < (b56.length : Int) then
 (b56[t58.toNat]?).bind fun e59 =>
 let w60 : List File := b56.set t58.toNat (File.mk e59.name e59.kind []);
 (if 0 <= (1 : Int) ∧ (1 : Int) <= ((b57.length : Nat) : Int) then
 let t61 : List Int := cutL b57 ((1 : Int).toNat) b57.length;
 some (Sum.inl (p51.2.1, p51.2.2.1, p51.2.2.2.1, w60, t61))
 else
 none)
 else
 none)
 else
 none)
 else
 some (Sum.inr (p51.2.1, p51.2.2.1, p51.2.2.2.1, b56, b57))))
theorem Z11_eq (name1 data2 : List Int) (b3 : Bool) (b4 : List Int) (b5 : Int) (b6 : List File) (b7 : List Int) : Z11 name1 data2 b3 b4 b5 b6 b7 =
 (Z28 b3 b4 b5 b6 b7).bind fun q8 =>
 (if q8.1 = true then
 some (7, q8.2.1, q8.2.2.1, q8.2.2.2.1, q8.2.2.2.2.1, q8.2.2.2.2.2)
 else
 (Z29 name1 q8.2.1 q8.2.2.1 q8.2.2.2.1 q8.2.2.2.2.1 q8.2.2.2.2.2).bind fun q15 =>
 let tr18 := q15.2.2.1;
 let tr20 := q15.2.2.2.2.1;
 (if (decide (q15.1 < 0)) = true then
 some (5, q15.2.1, tr18, q15.2.2.2.1, tr20, q15.2.2.2.2.2)
 else
 (if 0 <= q15.1 ∧ q15.1 < (tr18.length : Int) then
 (if (!decide (((data2.length : Nat) : Int) = rd tr18 q15.1)) = true then
 some (110, q15.2.1, tr18, q15.2.2.2.1, tr20, q15.2.2.2.2.2)
 else
 (Z17 data2).bind fun q22 =>
 (if 0 <= q15.1 ∧ q15.1 < (tr20.length : Int) then
 (tr20[q15.1.toNat]?).bind fun e23 =>
 let w24 : List File := tr20.set q15.1.toNat (File.mk e23.name e23.kind q22);
 (Z30 q15.1 q15.2.1 tr18 q15.2.2.2.1 w24 q15.2.2.2.2.2).bind fun q25 =>
 (loop (Z11l10) (q25.1, q25.2.1, q25.2.2.1, q25.2.2.2.1, q25.2.2.2.2)).bind (fun p62 =>
 some (0, p62.1, p62.2.1, p62.2.2.1, p62.2.2.2.1, p62.2.2.2.2))
 else
 none))
 else
 none))) := (B0 ..).trans (by kernel_rfl)
noncomputable def Z12l5 (tr9 tr12 : List Int) (s13 : Int × Int) : Option ((Int × Int) ⊕ (Int)) :=
 (if (decide (s13.2 < ((tr12.length : Nat) : Int))) = true then
 (if 0 <= s13.2 ∧ s13.2 < (tr12.length : Int) then
 let t16 : Int := rd tr12 s13.2;
 (if 0 <= t16 ∧ t16 < (tr9.length : Int) then
 let t17 := i64.wrap (s13.1 + rd tr9 t16);
 let t18 := i64.wrap (s13.2 + 1);
 some (Sum.inl (t17, t18))
 else
 none)
 else
 none)
 else
 some (Sum.inr s13.1))
noncomputable def Z12_b (Z28 : type_of% @Z28) (loop : type_of% @loop) (Z12l5 : type_of% @Z12l5) (b1 : Bool) (b2 : List Int) (b3 : Int) (b4 : List File) (b5 : List Int) : Option (Int × Bool × (List Int) × Int × (List File) × (List Int)) :=
 (Z28 b1 b2 b3 b4 b5).bind fun q6 =>
 (if q6.1 = true then
 some (0, q6.2.1, q6.2.2.1, q6.2.2.2.1, q6.2.2.2.2.1, q6.2.2.2.2.2)
 else
 (loop (Z12l5 q6.2.2.1 q6.2.2.2.2.2) (0, 0)).bind (fun n22 =>
 some (n22, q6.2.1, q6.2.2.1, q6.2.2.2.1, q6.2.2.2.2.1, q6.2.2.2.2.2)))
theorem Z12_eq b1 b2 b3 b4 b5 : Z12 b1 b2 b3 b4 b5 = Z12_b @Z28 @loop @Z12l5 b1 b2 b3 b4 b5 := (B0 ..).trans (by kernel_rfl)
noncomputable def Z13l5 (tr11 : List File) (s13 : Int × Int) : Option ((Int × Int) ⊕ (Int)) :=
 (if (decide (s13.2 < ((tr11.length : Nat) : Int))) = true then
 (if 0 <= s13.2 ∧ s13.2 < (tr11.length : Int) then
 (tr11[s13.2.toNat]?).bind fun e16 =>
 (if (decide (e16.kind = 0)) = true then
 let t17 := i64.wrap (s13.1 + 1);
 let t18 := i64.wrap (s13.2 + 1);
 some (Sum.inl (t17, t18))
 else
 let t19 := i64.wrap (s13.2 + 1);
 some (Sum.inl (s13.1, t19)))
 else
 none)
 else
 some (Sum.inr s13.1))
noncomputable def Z13_b (Z28 : type_of% @Z28) (loop : type_of% @loop) (Z13l5 : type_of% @Z13l5) (b1 : Bool) (b2 : List Int) (b3 : Int) (b4 : List File) (b5 : List Int) : Option (Int × Bool × (List Int) × Int × (List File) × (List Int)) :=
 (Z28 b1 b2 b3 b4 b5).bind fun q6 =>
 (if q6.1 = true then
 some (0, q6.2.1, q6.2.2.1, q6.2.2.2.1, q6.2.2.2.2.1, q6.2.2.2.2.2)
 else
 (loop (Z13l5 q6.2.2.2.2.1) (0, 0)).bind (fun n23 =>
 some (n23, q6.2.1, q6.2.2.1, q6.2.2.2.1, q6.2.2.2.2.1, q6.2.2.2.2.2)))
theorem Z13_eq b1 b2 b3 b4 b5 : Z13 b1 b2 b3 b4 b5 = Z13_b @Z28 @loop @Z13l5 b1 b2 b3 b4 b5 := (B0 ..).trans (by kernel_rfl)
noncomputable def Z14l5 (tr11 : List File) (tr12 : List Int) (s13 : Int × (List (List Int))) : Option ((Int × (List (List Int))) ⊕ ((List (List Int)))) :=
 (if (decide (s13.1 < ((tr12.length : Nat) : Int))) = true then
 (if 0 <= s13.1 ∧ s13.1 < (tr12.length : Int) then
 let t16 : Int := rd tr12 s13.1;
 (if 0 <= t16 ∧ t16 < (tr11.length : Int) then
 (tr11[t16.toNat]?).bind fun e17 =>
 (if (s13.2.length + ([e17.name] : List (List Int)).length) * 16 <= 140737488355328 then
 let t18 : List (List Int) := s13.2 ++ [e17.name];
 let t19 := i64.wrap (s13.1 + 1);
 some (Sum.inl (t19, t18))
 else
 none)
 else
 none)
 else
 none)
 else
 some (Sum.inr s13.2))
noncomputable def Z14_b (Z28 : type_of% @Z28) (loop : type_of% @loop) (Z14l5 : type_of% @Z14l5) (b1 : Bool) (b2 : List Int) (b3 : Int) (b4 : List File) (b5 : List Int) : Option ((List (List Int)) × Bool × (List Int) × Int × (List File) × (List Int)) :=
 (Z28 b1 b2 b3 b4 b5).bind fun q6 =>
 (if q6.1 = true then
 some ([], q6.2.1, q6.2.2.1, q6.2.2.2.1, q6.2.2.2.2.1, q6.2.2.2.2.2)
 else
 (loop (Z14l5 q6.2.2.2.2.1 q6.2.2.2.2.2) (0, [])).bind (fun out23 =>
 some (out23, q6.2.1, q6.2.2.1, q6.2.2.2.1, q6.2.2.2.2.1, q6.2.2.2.2.2)))
theorem Z14_eq b1 b2 b3 b4 b5 : Z14 b1 b2 b3 b4 b5 = Z14_b @Z28 @loop @Z14l5 b1 b2 b3 b4 b5 := (B0 ..).trans (by kernel_rfl)
noncomputable def Z15l4_b (Z32 : type_of% @Z32) (Z33 : type_of% @Z33) (b1 : List File) (v5 : Int) : Option ((Int) ⊕ ((Unit) ⊕ (Bool))) :=
 (if (decide (v5 < ((b1.length : Nat) : Int))) = true then
 (if 0 <= v5 then
 (b1[v5.toNat]?).bind fun e6 =>
 (Z32 e6.name e6.kind e6.data).bind fun q7 =>
 (if (!q7) = true then
 some (Sum.inr (Sum.inr false))
 else
 (if 0 <= v5 ∧ v5 <= ((b1.length : Nat) : Int) then
 let t8 : List File := cutL b1 0 v5.toNat;
 (Z33 t8 e6.name).bind fun q9 =>
 (if (decide (q9 ≥ 0)) = true then
 some (Sum.inr (Sum.inr false))
 else
 let t10 := i64.wrap (v5 + 1);
 some (Sum.inl t10))
 else
 none))
 else
 none)
 else
 some (Sum.inr (Sum.inl ())))
noncomputable def Z15l4 := Z15l4_b @Z32 @Z33
noncomputable def Z15_b (Z31 : type_of% @Z31) (loop : type_of% @loop) (Z15l4 : type_of% @Z15l4) (b1 : List File) (b2 : List Outline) : Option Bool :=
 ((if (decide (((b1.length : Nat) : Int) > 40)) = true then
 some true
 else
 (Z31 b2).bind fun q3 =>
 some (!q3)) : Option (Bool)).bind (fun v4 =>
 (if v4 = true then
 some false
 else
 (loop (Z15l4 b1) 0).bind (fun o16 =>
 (Sum.elim (fun (p14 : Unit) =>
 some true)
 (fun (v15 : Bool) =>
 some v15) o16))))
theorem Z15_eq b1 b2 : Z15 b1 b2 = Z15_b @Z31 @loop @Z15l4 b1 b2 := (B0 ..).trans (by kernel_rfl)
noncomputable def Z16_b (Z34 : type_of% @Z34) (b1 : List File) (b2 : List Outline) : Option ((List Int) × Int) :=
 (Z34 [66, 79, 79, 75] b1 b2 []).bind fun q3 =>
 some (q3.1, q3.2)
theorem Z16_eq b1 b2 : Z16 b1 b2 = Z16_b @Z34 b1 b2 := (B0 ..).trans (by kernel_rfl)
theorem Z17_eq (s1 : List Int) : Z17 s1 =
 (if s1.length = 0 then
 (demon
 (some [])
 ((if (([] : List Int).length + s1.length) * 1 <= 140737488355328 then
 let t2 : List Int := ([] : List Int) ++ s1;
 some t2
 else
 none)))
 else
 (if (([] : List Int).length + s1.length) * 1 <= 140737488355328 then
 let t3 : List Int := ([] : List Int) ++ s1;
 some t3
 else
 none)) := (B0 ..).trans (by kernel_rfl)
noncomputable def Z18l2 (b1 : List File) (i3 : Int) : Option ((Int) ⊕ ((Unit) ⊕ (Bool))) :=
 (if (decide (i3 < ((b1.length : Nat) : Int))) = true then
 (if 0 <= i3 then
 (b1[i3.toNat]?).bind fun e4 =>
 (Z35 e4.name e4.kind e4.data).bind fun q5 =>
 (if (!q5) = true then
 some (Sum.inr (Sum.inr false))
 else
 let t6 := i64.wrap (i3 + 1);
 some (Sum.inl t6))
 else
 none)
 else
 some (Sum.inr (Sum.inl ())))
theorem Z18_eq (b1 : List File) (b2 : List Outline) : Z18 b1 b2 =
 (loop (Z18l2 b1) 0).bind (fun o12 =>
 (Sum.elim (fun (p10 : Unit) =>
 (if (decide (((b1.length : Nat) : Int) <= 40)) = true then
 (Z36 b1).bind fun q13 =>
 (if (!q13) = true then
 (Z37 b2).bind fun q14 =>
 some q14
 else
 some false)
 else
 some false))
 (fun (v11 : Bool) =>
 some v11) o12)) := (B0 ..).trans (by kernel_rfl)
theorem Z19_eq (b1 : List File) (b2 : List Outline) : Z19 b1 b2 =
 (Z38 [66, 79, 79, 75] b1 b2 []).bind fun q3 =>
 (Z39 q3.1 q3.2).bind fun q6 =>
 some (q6.1, q6.2) := (B0 ..).trans (by kernel_rfl)
noncomputable def Z20l2 (end2 deep3 : Int) (s6 : Int × (List Int) × Int × (List Chunk)) : Option ((Int × (List Int) × Int × (List Chunk)) ⊕ ((Int × (List Int) × Int × (List Chunk)) ⊕ ((List Chunk) × Int × Int × (List Int) × Int))) :=
 (if (decide (s6.1 < end2)) = true then
 (Z40 s6.1 end2 deep3 s6.2.1 s6.2.2.1).bind fun q11 =>
 (if (!decide (q11.2.2.2.2.2.1 = 0)) = true then
 some (Sum.inr (Sum.inr ([], q11.2.2.2.2.1, q11.2.2.2.2.2.1, q11.2.2.2.2.2.2.1, q11.2.2.2.2.2.2.2)))
 else
 (if (s6.2.2.2.length + ([(Chunk.mk q11.1 q11.2.1 q11.2.2.1 q11.2.2.2.1)] : List Chunk).length) * 80 <= 140737488355328 then
 let t20 : List Chunk := s6.2.2.2 ++ [(Chunk.mk q11.1 q11.2.1 q11.2.2.1 q11.2.2.2.1)];
 some (Sum.inl (q11.2.2.2.2.1, q11.2.2.2.2.2.2.1, q11.2.2.2.2.2.2.2, t20))
 else
 none))
 else
 some (Sum.inr (Sum.inl (s6.1, s6.2.1, s6.2.2.1, s6.2.2.2))))
theorem Z20_eq (at1 end2 deep3 : Int) (b4 : List Int) (b5 : Int) : Z20 at1 end2 deep3 b4 b5 =
 (loop (Z20l2 end2 deep3) (at1, b4, b5, [])).bind (fun o32 =>
 (Sum.elim (fun (p21 : Int × (List Int) × Int × (List Chunk)) =>
 some (p21.2.2.2, p21.1, 0, p21.2.1, p21.2.2.1))
 (fun (p26 : (List Chunk) × Int × Int × (List Int) × Int) =>
 some (p26.1, p26.2.1, p26.2.2.1, p26.2.2.2.1, p26.2.2.2.2)) o32)) := (B0 ..).trans (by kernel_rfl)
noncomputable def Z21l5 (b1 : List Int) (at2 : Int) (s4 : Int × Int) : Option ((Int × Int) ⊕ ((Unit) ⊕ (Int × Int × Int))) :=
 (if (decide (s4.2 < 5)) = true then
 let t7 := i64.wrap (at2 + s4.2);
 (if (decide (t7 ≥ ((b1.length : Nat) : Int))) = true then
 some (Sum.inr (Sum.inr (0, 0, 6)))
 else
 let t8 := i64.wrap (at2 + s4.2);
 (if 0 <= t8 ∧ t8 < (b1.length : Int) then
 let t9 := i64.wrap (rd b1 t8);
 let t10 := i64.wrap (128 * s4.1);
 let t11 : Int := t9.tmod 128;
 let t12 := i64.wrap (t10 + t11);
 (if (decide (t9 < 128)) = true then
 ((if (decide (t12 > 2147483647)) = true then
 some true
 else
 (if (decide (s4.2 > 0)) = true then
 (if 0 <= at2 ∧ at2 < (b1.length : Int) then
 some (decide (rd b1 at2 = 128))
 else
 none)
 else
 some false)) : Option (Bool)).bind (fun v13 =>
 (if v13 = true then
 some (Sum.inr (Sum.inr (0, 0, 3)))
 else
 let t14 := i64.wrap (at2 + s4.2);
 let t15 := i64.wrap (t14 + 1);
 some (Sum.inr (Sum.inr (t12, t15, 0)))))
 else
 let t16 := i64.wrap (s4.2 + 1);
 some (Sum.inl (t12, t16)))
 else
 none))
 else
 some (Sum.inr (Sum.inl ())))
theorem Z21_eq (b1 : List Int) (at2 : Int) : Z21 b1 at2 =
 ((if (decide (at2 < 0)) = true then
 some true
 else
 some (decide (at2 > ((b1.length : Nat) : Int)))) : Option (Bool)).bind (fun v3 =>
 (if v3 = true then
 some (0, 0, 2)
 else
 (loop (Z21l5 b1 at2) (0, 0)).bind (fun o25 =>
 (Sum.elim (fun (p20 : Unit) =>
 some (0, 0, 3))
 (fun (p21 : Int × Int × Int) =>
 some (p21.1, p21.2.1, p21.2.2)) o25)))) := (B0 ..).trans (by kernel_rfl)
theorem Z22_eq (at1 e2 b3 b4 b5 : Int) (b6 : List Segment) (b7 : List Int) (b8 : List Arr2) : Z22 at1 e2 b3 b4 b5 b6 b7 b8 =
 some (b3, e2, at1, b6, b7, b8) := (B0 ..).trans (by kernel_rfl)
theorem Z23_eq (b1 : List Int) (at2 b3 b4 b5 : Int) (b6 : List Segment) (b7 : List Int) (b8 : List Arr2) : Z23 b1 at2 b3 b4 b5 b6 b7 b8 =
 (if (decide (((b6.length : Nat) : Int) = 100)) = true then
 (Z22 0 4 b3 b4 b5 b6 b7 b8).bind fun q9 =>
 some (0, q9.1, q9.2.1, q9.2.2.1, q9.2.2.2.1, q9.2.2.2.2.1, q9.2.2.2.2.2)
 else
 (if (decide (at2 = ((b1.length : Nat) : Int))) = true then
 (Z22 at2 60 b3 b4 b5 b6 b7 b8).bind fun q16 =>
 some (0, q16.1, q16.2.1, q16.2.2.1, q16.2.2.2.1, q16.2.2.2.2.1, q16.2.2.2.2.2)
 else
 (Z41 b1 at2).bind fun q23 =>
 (if (!decide (q23.2.2.2.2.2.2.2.2 = 0)) = true then
 (Z22 at2 q23.2.2.2.2.2.2.2.2 b3 b4 b5 b6 b7 b8).bind fun q33 =>
 some (0, q33.1, q33.2.1, q33.2.2.1, q33.2.2.2.1, q33.2.2.2.2.1, q33.2.2.2.2.2)
 else
 (if (b6.length + ([(Segment.mk q23.1 q23.2.1 q23.2.2.1 q23.2.2.2.1 q23.2.2.2.2.1 q23.2.2.2.2.2.1)] : List Segment).length) * 96 <= 140737488355328 then
 let t40 : List Segment := b6 ++ [(Segment.mk q23.1 q23.2.1 q23.2.2.1 q23.2.2.2.1 q23.2.2.2.2.1 q23.2.2.2.2.2.1)];
 (if (b7.length + ([at2] : List Int).length) * 8 <= 140737488355328 then
 let t41 : List Int := b7 ++ [at2];
 (if (b8.length + ([(Arr2.mk 0 q23.2.2.2.2.2.2.1)] : List Arr2).length) * 16 <= 140737488355328 then
 let t42 : List Arr2 := b8 ++ [(Arr2.mk 0 q23.2.2.2.2.2.2.1)];
 some (q23.2.2.2.2.2.2.2.1, b3, b4, b5, t40, t41, t42)
 else
 none)
 else
 none)
 else
 none)))) := (B0 ..).trans (by kernel_rfl)
theorem Z24_eq (b1 : List Int) (i2 at3 b4 b5 b6 : Int) (b7 : List Segment) (b8 : List Int) (b9 : List Arr2) : Z24 b1 i2 at3 b4 b5 b6 b7 b8 b9 =
 (if 0 <= i2 ∧ i2 < (b9.length : Int) then
 (if 0 <= (1 : Int) ∧ (1 : Int) < ((2 : Nat) : Int) then
 (b9[i2.toNat]?).bind fun e10 =>
 let t11 := i64.wrap (((b1.length : Nat) : Int) - at3);
 (if (decide (e10.a1 > t11)) = true then
 (Z22 at3 6 b4 b5 b6 b7 b8 b9).bind fun q12 =>
 some (0, false, q12.1, q12.2.1, q12.2.2.1, q12.2.2.2.1, q12.2.2.2.2.1, q12.2.2.2.2.2)
 else
 (if 0 <= i2 ∧ i2 < (b9.length : Int) then
 (if 0 <= (0 : Int) ∧ (0 : Int) < ((2 : Nat) : Int) then
 (b9[i2.toNat]?).bind fun e19 =>
 let w20 : List Arr2 := b9.set i2.toNat (Arr2.mk at3 e19.a1);
 let t21 := i64.wrap (at3 + e10.a1);
 (if 0 <= t21 ∧ t21 <= ((b1.length : Nat) : Int) then
 (if 0 <= at3 ∧ at3 <= t21 then
 let t22 : List Int := cutL b1 at3.toNat t21.toNat;
 (if (([] : List Int).length + t22.length) * 1 <= 140737488355328 then
 let t23 : List Int := ([] : List Int) ++ t22;
 (if 0 <= i2 ∧ i2 < (b7.length : Int) then
 (b7[i2.toNat]?).bind fun e24 =>
 let w25 : List Segment := b7.set i2.toNat (Segment.mk e24.number e24.kind e24.page e24.refs e24.keep t23);
 let t26 := i64.wrap (at3 + e10.a1);
 some (t26, true, b4, b5, b6, w25, b8, w20)
 else
 none)
 else
 none)
 else
 none)
 else
 none)
 else
 none)
 else
 none))
 else
 none)
 else
 none) := (B0 ..).trans (by kernel_rfl)
theorem Z25_eq (b1 b2 b3 : Int) (b4 : List Segment) (b5 : List Int) (b6 : List Arr2) : Z25 b1 b2 b3 b4 b5 b6 =
 (Z42 b4).bind fun q7 =>
 (if (!decide (q7.2 = 0)) = true then
 (if 0 <= q7.1 ∧ q7.1 < (b5.length : Int) then
 let t10 : Int := rd b5 q7.1;
 (Z22 t10 q7.2 b1 b2 b3 b4 b5 b6).bind fun q11 =>
 some (q11.1, q11.2.1, q11.2.2.1, q11.2.2.2.1, q11.2.2.2.2.1, q11.2.2.2.2.2)
 else
 none)
 else
 some (b1, b2, b3, b4, b5, b6)) := (B0 ..).trans (by kernel_rfl)
noncomputable def Z26_b (Z43 : type_of% @Z43) (b1 : List Int) : Option ((List Chunk) × Int × Int) :=
 (if (decide (((b1.length : Nat) : Int) > 60000)) = true then
 some ([], 0, 4)
 else
 (Z43 0 ((b1.length : Nat) : Int) 1 b1 0 0 0).bind fun q2 =>
 (if (!decide (q2.2.2.2.1 = 0)) = true then
 some ([], q2.2.2.2.2, q2.2.2.2.1)
 else
 some (q2.1, 0, 0)))
theorem Z26_eq b1 : Z26 b1 = Z26_b @Z43 b1 := (B0 ..).trans (by kernel_rfl)
noncomputable def Z27l10_b (Z47 : type_of% @Z47) (tr6 : Int) (s15 : Int × (List Int) × Int × Int × (List File) × (List Int)) : Option ((Int × (List Int) × Int × Int × (List File) × (List Int)) ⊕ ((List Int) × Int × Int × (List File) × (List Int))) :=
 let b19 := s15.2.2.2.1;
 (if (decide (s15.1 < tr6)) = true then
 (if (!decide (b19 = 0)) = true then
 some (Sum.inr (s15.2.1, s15.2.2.1, b19, s15.2.2.2.2.1, s15.2.2.2.2.2))
 else
 (Z47 s15.2.1 s15.2.2.1 b19).bind fun q22 =>
 (if (s15.2.2.2.2.1.length + ([(File.mk q22.1 q22.2.1 q22.2.2.1)] : List File).length) * 48 <= 140737488355328 then
 let t30 : List File := s15.2.2.2.2.1 ++ [(File.mk q22.1 q22.2.1 q22.2.2.1)];
 (if (s15.2.2.2.2.2.length + ([q22.2.2.2.1] : List Int).length) * 8 <= 140737488355328 then
 let t31 : List Int := s15.2.2.2.2.2 ++ [q22.2.2.2.1];
 let t32 := i64.wrap (s15.1 + 1);
 some (Sum.inl (t32, q22.2.2.2.2.1, q22.2.2.2.2.2.1, q22.2.2.2.2.2.2, t30, t31))
 else
 none)
 else
 none))
 else
 some (Sum.inr (s15.2.1, s15.2.2.1, b19, s15.2.2.2.2.1, s15.2.2.2.2.2)))
noncomputable def Z27l10 := Z27l10_b @Z47
noncomputable def Z27l21_b (Z33 : type_of% @Z33) (files45 : List File) (v51 : Int) : Option ((Int) ⊕ ((Unit) ⊕ ((List Int) × (List Outline) × Int × (List File)))) :=
 (if (decide (v51 < ((files45.length : Nat) : Int))) = true then
 (if 0 <= v51 ∧ v51 < (files45.length : Int) then
 (files45[v51.toNat]?).bind fun e52 =>
 (if 0 <= v51 ∧ v51 <= ((files45.length : Nat) : Int) then
 (Z33 ((files45.drop 0).take (v51.toNat - 0)) e52.name).bind fun q53 =>
 (if (decide (q53 ≥ 0)) = true then
 some (Sum.inr (Sum.inr ([], [], 8, [])))
 else
 let t54 := i64.wrap (v51 + 1);
 some (Sum.inl t54))
 else
 none)
 else
 none)
 else
 some (Sum.inr (Sum.inl ())))
noncomputable def Z27l21 := Z27l21_b @Z33
noncomputable def Z27_b (Z44 : type_of% @Z44) (Z45 : type_of% @Z45) (Z46 : type_of% @Z46) (loop : type_of% @loop) (Z27l10 : type_of% @Z27l10) (Z48 : type_of% @Z48) (Z27l21 : type_of% @Z27l21) (d1 : List Int) : Option ((List Int) × (List Outline) × Int × (List File)) :=
 (Z44 d1).bind fun q2 =>
 (if (!decide (q2.2 = 0)) = true then
 some ([], [], q2.2, [])
 else
 (Z45 q2.1 0 0).bind fun q5 =>
 (Z46 (decide (q5.1 <= 40)) 4 q5.2.1 q5.2.2.1 q5.2.2.2).bind fun q10 =>
 (loop (Z27l10 q5.1) (0, q10.2.1, q10.2.2.1, q10.2.2.2, [], [])).bind (fun p41 =>
 (if (!decide (p41.2.2.1 = 0)) = true then
 some ([], [], p41.2.2.1, [])
 else
 (if 0 <= p41.2.1 ∧ p41.2.1 <= ((q2.1.length : Nat) : Int) then
 let t47 : List Int := cutL q2.1 p41.2.1.toNat q2.1.length;
 (Z48 t47).bind fun q48 =>
 (if (!decide (q48.2 = 0)) = true then
 some ([], [], q48.2, [])
 else
 (loop (Z27l21 p41.2.2.2.1) 0).bind (fun o64 =>
 (Sum.elim (fun (p58 : Unit) =>
 some (p41.2.2.2.2, q48.1, 0, p41.2.2.2.1))
 (fun (p59 : (List Int) × (List Outline) × Int × (List File)) =>
 some (p59.1, p59.2.1, p59.2.2.1, p59.2.2.2)) o64)))
 else
 none))))
theorem Z27_eq d1 : Z27 d1 = Z27_b @Z44 @Z45 @Z46 @loop @Z27l10 @Z48 @Z27l21 d1 := (B0 ..).trans (by kernel_rfl)
noncomputable def Z28_b (b1 : Bool) (b2 : List Int) (b3 : Int) (b4 : List File) (b5 : List Int) : Option (Bool × Bool × (List Int) × Int × (List File) × (List Int)) :=
 some (!b1, b1, b2, b3, b4, b5)
theorem Z28_eq b1 b2 b3 b4 b5 : Z28 b1 b2 b3 b4 b5 = Z28_b b1 b2 b3 b4 b5 := (B0 ..).trans (by kernel_rfl)
noncomputable def Z29_b (Z49 : type_of% @Z49) (name1 : List Int) (b2 : Bool) (b3 : List Int) (b4 : Int) (b5 : List File) (b6 : List Int) : Option (Int × Bool × (List Int) × Int × (List File) × (List Int)) :=
 (Z49 b5 name1).bind fun q7 =>
 some (q7.1, b2, b3, b4, b5, b6)
theorem Z29_eq name1 b2 b3 b4 b5 b6 : Z29 name1 b2 b3 b4 b5 b6 = Z29_b @Z49 name1 b2 b3 b4 b5 b6 := (B0 ..).trans (by kernel_rfl)
noncomputable def Z30_b (Z50 : type_of% @Z50) (i1 : Int) (b2 : Bool) (b3 : List Int) (b4 : Int) (b5 : List File) (b6 : List Int) : Option (Bool × (List Int) × Int × (List File) × (List Int)) :=
 (Z50 b6 i1).bind fun q7 =>
 (if (q7.1.length + ([q7.2] : List Int).length) * 8 <= 140737488355328 then
 let t10 : List Int := q7.1 ++ [q7.2];
 some (b2, b3, b4, b5, t10)
 else
 none)
theorem Z30_eq i1 b2 b3 b4 b5 b6 : Z30 i1 b2 b3 b4 b5 b6 = Z30_b @Z50 i1 b2 b3 b4 b5 b6 := (B0 ..).trans (by kernel_rfl)
noncomputable def Z31_b (Z51 : type_of% @Z51) (l1 : List Outline) : Option Bool :=
 (Z51 l1 1 0).bind fun q2 =>
 some q2.1
theorem Z31_eq l1 : Z31 l1 = Z31_b @Z51 l1 := (B0 ..).trans (by kernel_rfl)
noncomputable def Z32_b (Z52 : type_of% @Z52) (f1 : List Int) (f2 : Int) (f3 : List Int) : Option Bool :=
 (Z52 f1).bind fun q4 =>
 (if q4 = true then
 (if (decide (f2 ≥ 0)) = true then
 (if (decide (f2 <= 2)) = true then
 some (decide (((f3.length : Nat) : Int) <= 60000))
 else
 some false)
 else
 some false)
 else
 some false)
theorem Z32_eq f1 f2 f3 : Z32 f1 f2 f3 = Z32_b @Z52 f1 f2 f3 := (B0 ..).trans (by kernel_rfl)
noncomputable def Z33_b (Z53 : type_of% @Z53) (l1 : List File) (name2 : List Int) : Option Int :=
 (Z53 l1 name2).bind fun q3 =>
 some q3.1
theorem Z33_eq l1 name2 : Z33 l1 name2 = Z33_b @Z53 l1 name2 := (B0 ..).trans (by kernel_rfl)
noncomputable def Z34l6_b (Z55 : type_of% @Z55) (files4 : List File) (s8 : Int × (List Chunk) × (List Int) × (List Int) × (List Int)) : Option ((Int × (List Chunk) × (List Int) × (List Int) × (List Int)) ⊕ ((List Chunk) × (List Int) × (List Int) × (List Int))) :=
 (if (decide (s8.1 < ((files4.length : Nat) : Int))) = true then
 (if 0 <= s8.1 then
 (files4[s8.1.toNat]?).bind fun e14 =>
 (Z55 e14.name e14.kind e14.data).bind fun q15 =>
 (if (s8.2.1.length + ([(Chunk.mk q15.1 q15.2.1 q15.2.2.1 q15.2.2.2)] : List Chunk).length) * 80 <= 140737488355328 then
 let t20 : List Chunk := s8.2.1 ++ [(Chunk.mk q15.1 q15.2.1 q15.2.2.1 q15.2.2.2)];
 let t21 := i64.wrap (s8.1 + 1);
 some (Sum.inl (t21, t20, s8.2.2.1, s8.2.2.2.1, s8.2.2.2.2))
 else
 none)
 else
 none)
 else
 some (Sum.inr (s8.2.1, s8.2.2.1, s8.2.2.2.1, s8.2.2.2.2)))
noncomputable def Z34l6 := Z34l6_b @Z55
noncomputable def Z34_b (Z54 : type_of% @Z54) (loop : type_of% @loop) (Z34l6 : type_of% @Z34l6) (Z56 : type_of% @Z56) (kind1 : List Int) (b2 : List File) (b3 : List Outline) (files4 : List File) : Option ((List Int) × Int) :=
 (Z54 b2 b3).bind fun q5 =>
 (if (!decide (q5.2 = 0)) = true then
 some ([], q5.2)
 else
 (loop (Z34l6 files4) (0, [(Chunk.mk [68, 73, 82, 77] [] q5.1 [])], [70, 79, 82, 77], kind1, [])).bind (fun p29 =>
 (Z56 [(Chunk.mk p29.2.1 p29.2.2.1 p29.2.2.2 p29.1)]).bind fun q34 =>
 (if (!decide (q34.2 = 0)) = true then
 some ([], 4)
 else
 some (q34.1, 0))))
theorem Z34_eq kind1 b2 b3 files4 : Z34 kind1 b2 b3 files4 = Z34_b @Z54 @loop @Z34l6 @Z56 kind1 b2 b3 files4 := (B0 ..).trans (by kernel_rfl)
theorem Z35_eq (f1 : List Int) (f2 : Int) (f3 : List Int) : Z35 f1 f2 f3 =
 (Z57 f1).bind fun q4 =>
 (if q4 = true then
 (if (decide (f2 ≥ 0)) = true then
 (if (decide (f2 <= 2)) = true then
 some (decide (((f3.length : Nat) : Int) <= 60000))
 else
 some false)
 else
 some false)
 else
 some false) := (B0 ..).trans (by kernel_rfl)
noncomputable def Z36l2 (l1 : List File) (i2 : Int) : Option ((Int) ⊕ ((Unit) ⊕ (Bool))) :=
 (if (decide (i2 < ((l1.length : Nat) : Int))) = true then
 (if 0 <= i2 then
 (l1[i2.toNat]?).bind fun e3 =>
 (Z58 l1 e3.name).bind fun q4 =>
 (if (decide (q4 < i2)) = true then
 some (Sum.inr (Sum.inr true))
 else
 let t5 := i64.wrap (i2 + 1);
 some (Sum.inl t5))
 else
 none)
 else
 some (Sum.inr (Sum.inl ())))
theorem Z36_eq (l1 : List File) : Z36 l1 =
 (loop (Z36l2 l1) 0).bind (fun o11 =>
 (Sum.elim (fun (p9 : Unit) =>
 some false)
 (fun (v10 : Bool) =>
 some v10) o11)) := (B0 ..).trans (by kernel_rfl)
theorem Z37_eq (l1 : List Outline) : Z37 l1 =
 (Z59 l1).bind fun q2 =>
 (if q2.2.2 = true then
 (if (decide (q2.1 <= 400)) = true then
 some (decide (q2.2.1 <= 20))
 else
 some false)
 else
 some false) := (B0 ..).trans (by kernel_rfl)
noncomputable def Z38l6 (files4 : List File) (s8 : Int × (List Chunk)) : Option ((Int × (List Chunk)) ⊕ ((List Chunk))) :=
 (if (decide (s8.1 < ((files4.length : Nat) : Int))) = true then
 (if 0 <= s8.1 then
 (files4[s8.1.toNat]?).bind fun e11 =>
 (Z61 e11.name e11.kind e11.data).bind fun q12 =>
 (if (s8.2.length + ([(Chunk.mk q12.1 q12.2.1 q12.2.2.1 q12.2.2.2)] : List Chunk).length) * 80 <= 140737488355328 then
 let t17 : List Chunk := s8.2 ++ [(Chunk.mk q12.1 q12.2.1 q12.2.2.1 q12.2.2.2)];
 let t18 := i64.wrap (s8.1 + 1);
 some (Sum.inl (t18, t17))
 else
 none)
 else
 none)
 else
 some (Sum.inr s8.2))
theorem Z38_eq (kind1 : List Int) (b2 : List File) (b3 : List Outline) (files4 : List File) : Z38 kind1 b2 b3 files4 =
 (Z60 b2 b3).bind fun q5 =>
 (if (!decide (q5.2 = 0)) = true then
 some ([], q5.2)
 else
 (loop (Z38l6 files4) (0, [(Chunk.mk [68, 73, 82, 77] [] q5.1 [])])).bind (fun kids22 =>
 (Z62 [(Chunk.mk [70, 79, 82, 77] kind1 [] kids22)]).bind fun q23 =>
 (if (!decide (q23.2 = 0)) = true then
 some ([], 4)
 else
 some (q23.1, 0)))) := (B0 ..).trans (by kernel_rfl)
theorem Z39_eq (b1 : List Int) (e2 : Int) : Z39 b1 e2 =
 (if (!decide (e2 = 0)) = true then
 some ([], e2)
 else
 (if (decide (((b1.length : Nat) : Int) > 60000)) = true then
 some ([], 4)
 else
 some (b1, 0))) := (B0 ..).trans (by kernel_rfl)
noncomputable def Z40l11 (at1 : Int) (tr9 : List Int) (s15 : Int × Int) : Option ((Int × Int) ⊕ (Int)) :=
 (if (decide (s15.2 < 8)) = true then
 let t18 := i64.wrap (256 * s15.1);
 let t19 := i64.wrap (at1 + s15.2);
 (if 0 <= t19 ∧ t19 < (tr9.length : Int) then
 let t20 := i64.wrap (rd tr9 t19);
 let t21 := i64.wrap (t18 + t20);
 let t22 := i64.wrap (s15.2 + 1);
 some (Sum.inl (t21, t22))
 else
 none)
 else
 some (Sum.inr s15.1))
noncomputable def Z40l11_step (at1 : Int) (tr9 : List Int) (i23 x24 : Nat) (s25 : Int) : Option ((Int) ⊕ (Int)) :=
 let t18 := i64.wrap (256 * s25);
 let t19 := i64.wrap (at1 + ((i23 : Nat) : Int));
 (if 0 <= t19 ∧ t19 < (tr9.length : Int) then
 let t20 := i64.wrap (rd tr9 t19);
 let t21 := i64.wrap (t18 + t20);
 some (Sum.inl (t21))
 else
 none)
theorem Z40l11_overAt (at1 : Int) (tr9 : List Int) (hl : (List.range 8).length <= 9223372036854775807) (k : Nat) (s25 : Int) (hk : k <= (List.range 8).length) : loop (Z40l11 at1 tr9) ((s25, ((k : Nat) : Int)) : Int × Int) =
    overL (Z40l11_step at1 tr9) (fun (s25 : Int) => some s25) k ((List.range 8).drop k) s25 := by
  refine B22 (List.range 8) (fun n (s : Int) => ((s, ((n : Nat) : Int)) : Int × Int)) _ _ (fun s => ?_) (fun i x s h => ?_) k s25 hk
  . have h1 : ¬ (((List.range 8).length : Nat) : Int) < 8 := by simp only [A45]; omega
    unfold Z40l11; simp only [h1, A8, A4, A3, A31]
  . have hlt := B7 h
    rw [A45] at hlt hl
    rw [A74 hlt] at h
    cases h
    have h1 : ((i : Nat) : Int) < 8 := by omega
    have h0 : (0 : Int) <= ((i : Nat) : Int) := by omega
    have hw : i64.wrap (((i : Nat) : Int) + 1) = (((i + 1 : Nat) : Nat) : Int) := w64 (by omega)
    unfold Z40l11 Z40l11_step
    simp only [h1, h0, hw, A7, A5, A22, A13, A12, A1, A49, Function.comp_def, B42, B29, A31, A47]
theorem Z40l11_over (at1 : Int) (tr9 : List Int) (hl : (List.range 8).length <= 9223372036854775807) (s25 : Int) : loop (Z40l11 at1 tr9) ((s25, 0) : Int × Int) =
    overL (Z40l11_step at1 tr9) (fun (s25 : Int) => some s25) 0 (List.range 8) s25 := Z40l11_overAt at1 tr9 hl 0 s25 (A24 _)
theorem Z40_eq (at1 end2 deep3 : Int) (b4 : List Int) (b5 : Int) : Z40 at1 end2 deep3 b4 b5 =
 (Z63 at1 end2 b4 b5).bind fun q6 =>
 let tr9 := q6.2.2.1;
 (if (!decide (q6.2.1 = 0)) = true then
 some ([], [], [], [], at1, q6.2.1, tr9, q6.2.2.2)
 else
 ((if (decide (q6.2.2.2 = 400)) = true then
 some true
 else
 some (decide (deep3 > 8))) : Option (Bool)).bind (fun v11 =>
 (if v11 = true then
 some ([], [], [], [], at1, 4, tr9, q6.2.2.2)
 else
 let t12 := i64.wrap (q6.2.2.2 + 1);
 let t13 := i64.wrap (end2 - at1);
 (if (decide (t13 < 8)) = true then
 let t14 := i64.wrap (at1 + 4);
 some ([], [], [], [], t14, 6, tr9, t12)
 else
 (loop (Z40l11 at1 tr9) (0, 4)).bind (fun n26 =>
 let t27 := i64.wrap (end2 - at1);
 let t28 := i64.wrap (t27 - 8);
 (if (decide (n26 > t28)) = true then
 let t29 := i64.wrap (at1 + 4);
 some ([], [], [], [], t29, 6, tr9, t12)
 else
 let t30 := i64.wrap (at1 + 8);
 let t31 := i64.wrap (at1 + 8);
 let t32 := i64.wrap (t31 + n26);
 ((if (decide (q6.1 = [70, 79, 82, 77])) = true then
 (Z63 t30 t32 tr9 t12).bind fun q33 =>
 ((if (decide (q33.2.1 = 0)) = true then
 some (decide (q33.1 = [70, 79, 82, 77]))
 else
 some false) : Option (Bool)).bind (fun v38 =>
 ((if v38 = true then
 some 3
 else
 some q33.2.1) : Option (Int)).bind (fun e39 =>
 (if (!decide (e39 = 0)) = true then
 some (Sum.inr (t30, e39, q33.2.2.1, q33.2.2.2, [], [], [], q6.1, q33.1, [], [], []))
 else
 let t40 := i64.wrap (t30 + 4);
 let t41 := i64.wrap (deep3 + 1);
 (Z20 t40 t32 t41 q33.2.2.1 q33.2.2.2).bind fun q42 =>
 (if (!decide (q42.2.2.1 = 0)) = true then
 some (Sum.inr (q42.2.1, q42.2.2.1, q42.2.2.2.1, q42.2.2.2.2, [], [], [], q6.1, q33.1, [], q42.1, []))
 else
 some (Sum.inl (q42.2.2.2.1, q42.2.2.2.2, [], [], [], q6.1, q33.1, q42.1, [], []))))))
 else
 (if 0 <= t32 ∧ t32 <= ((tr9.length : Nat) : Int) then
 (if 0 <= t30 ∧ t30 <= t32 then
 let t48 : List Int := cutL tr9 t30.toNat t32.toNat;
 (if (([] : List Int).length + t48.length) * 1 <= 140737488355328 then
 let t49 : List Int := ([] : List Int) ++ t48;
 some (Sum.inl (tr9, t12, [], [], [], q6.1, [], [], [], t49))
 else
 none)
 else
 none)
 else
 none)) : Option (((List Int) × Int × (List Int) × (List Int) × (List Int) × (List Int) × (List Int) × (List Chunk) × (List Chunk) × (List Int)) ⊕ (Int × Int × (List Int) × Int × (List Int) × (List Int) × (List Int) × (List Int) × (List Int) × (List Int) × (List Chunk) × (List Chunk)))).bind (fun o74 =>
 (Sum.elim (fun (p50 : (List Int) × Int × (List Int) × (List Int) × (List Int) × (List Int) × (List Int) × (List Chunk) × (List Chunk) × (List Int)) =>
 let b60 := p50.2.2.2.2.2.2.2.2.2;
 let t75 : Int := n26.tmod 2;
 (if (decide (t75 = 0)) = true then
 some (p50.2.2.2.2.2.1, p50.2.2.2.2.2.2.1, b60, p50.2.2.2.2.2.2.2.1, t32, 0, p50.1, p50.2.1)
 else
 (if (decide (t32 = end2)) = true then
 some ([], [], [], [], t32, 6, p50.1, p50.2.1)
 else
 (if 0 <= t32 ∧ t32 < (p50.1.length : Int) then
 (if (!decide (rd p50.1 t32 = 0)) = true then
 some ([], [], [], [], t32, 3, p50.1, p50.2.1)
 else
 let t76 := i64.wrap (t32 + 1);
 some (p50.2.2.2.2.2.1, p50.2.2.2.2.2.2.1, b60, p50.2.2.2.2.2.2.2.1, t76, 0, p50.1, p50.2.1))
 else
 none))))
 (fun (p61 : Int × Int × (List Int) × Int × (List Int) × (List Int) × (List Int) × (List Int) × (List Int) × (List Int) × (List Chunk) × (List Chunk)) =>
 some (p61.2.2.2.2.1, p61.2.2.2.2.2.1, p61.2.2.2.2.2.2.1, p61.2.2.2.2.2.2.2.2.2.2.2, p61.1, p61.2.1, p61.2.2.1, p61.2.2.2.1)) o74)))))))) := (B0 ..).trans (by kernel_rfl)
theorem Z41_eq (b1 : List Int) (at2 : Int) : Z41 b1 at2 =
 ((if (decide (at2 < 0)) = true then
 some true
 else
 some (decide (at2 > ((b1.length : Nat) : Int)))) : Option (Bool)).bind (fun v3 =>
 (if v3 = true then
 some (0, 0, 0, [], [], [], 0, 0, 2)
 else
 (Z64 b1 at2).bind fun q4 =>
 (if (!decide (q4.2.2.2.2.2.2.2.2 = 0)) = true then
 some (0, 0, 0, [], [], [], 0, 0, q4.2.2.2.2.2.2.2.2)
 else
 some (q4.1, q4.2.1, q4.2.2.1, q4.2.2.2.1, q4.2.2.2.2.1, q4.2.2.2.2.2.1, q4.2.2.2.2.2.2.1, q4.2.2.2.2.2.2.2.1, 0)))) := (B0 ..).trans (by kernel_rfl)
theorem Z42_eq (l1 : List Segment) : Z42 l1 =
 (Z65 l1).bind fun q2 =>
 (if (decide (q2.2 ≥ 0)) = true then
 some (q2.2, 40)
 else
 some ((-1), 0)) := (B0 ..).trans (by kernel_rfl)
noncomputable def Z43l2_b (Z66 : type_of% @Z66) (end2 depth3 : Int) (s8 : Int × (List Int) × Int × Int × Int × (List Chunk)) : Option ((Int × (List Int) × Int × Int × Int × (List Chunk)) ⊕ ((List Int) × Int × Int × Int × (List Chunk))) :=
 ((if (decide (s8.1 < end2)) = true then
 some (decide (s8.2.2.2.1 = 0))
 else
 some false) : Option (Bool)).bind (fun v15 =>
 (if v15 = true then
 (Z66 s8.1 end2 depth3 s8.2.1 s8.2.2.1 s8.2.2.2.1 s8.2.2.2.2.1).bind fun q16 =>
 (if (s8.2.2.2.2.2.length + ([(Chunk.mk q16.1 q16.2.1 q16.2.2.1 q16.2.2.2.1)] : List Chunk).length) * 80 <= 140737488355328 then
 let t26 : List Chunk := s8.2.2.2.2.2 ++ [(Chunk.mk q16.1 q16.2.1 q16.2.2.1 q16.2.2.2.1)];
 some (Sum.inl (q16.2.2.2.2.1, q16.2.2.2.2.2.1, q16.2.2.2.2.2.2.1, q16.2.2.2.2.2.2.2.1, q16.2.2.2.2.2.2.2.2, t26))
 else
 none)
 else
 some (Sum.inr (s8.2.1, s8.2.2.1, s8.2.2.2.1, s8.2.2.2.2.1, s8.2.2.2.2.2))))
noncomputable def Z43l2 := Z43l2_b @Z66
noncomputable def Z43_b (loop : type_of% @loop) (Z43l2 : type_of% @Z43l2) (at1 end2 depth3 : Int) (b4 : List Int) (b5 b6 b7 : Int) : Option ((List Chunk) × (List Int) × Int × Int × Int) :=
 (loop (Z43l2 end2 depth3) (at1, b4, b5, b6, b7, [])).bind (fun p27 =>
 some (p27.2.2.2.2, p27.1, p27.2.1, p27.2.2.1, p27.2.2.2.1))
theorem Z43_eq at1 end2 depth3 b4 b5 b6 b7 : Z43 at1 end2 depth3 b4 b5 b6 b7 = Z43_b @loop @Z43l2 at1 end2 depth3 b4 b5 b6 b7 := (B0 ..).trans (by kernel_rfl)
noncomputable def Z44l15_b (Z70 : type_of% @Z70) (Z71 : type_of% @Z71) (t44 : Int) (s45 : Int × Int × Int × Int × Int × (List Int) × Int × Int × Int × Bool × (List Int) × (List Int)) : Option ((Int × Int × Int × Int × Int × (List Int) × Int × Int × Int × Bool × (List Int) × (List Int)) ⊕ ((Int × Int × Int × (List Int) × Int × Int × Int × Bool × (List Int) × (List Int)) ⊕ ((List Int) × Int × Int × Int × Int × (List Int) × Int × Int × Int × Bool × (List Int)))) :=
 let b54 := s45.2.2.2.2.2.2.2.2.1;
 let b55 := s45.2.2.2.2.2.2.2.2.2.1;
 let b56 := s45.2.2.2.2.2.2.2.2.2.2.1;
 let places57 := s45.2.2.2.2.2.2.2.2.2.2.2;
 (if (decide (s45.2.1 < t44)) = true then
 (Z70 s45.1).bind fun q58 =>
 (Z71 q58 s45.2.2.1 s45.2.2.2.1 s45.2.2.2.2.1 s45.2.2.2.2.2.1 s45.2.2.2.2.2.2.1 s45.2.2.2.2.2.2.2.1 b54 b55 b56).bind fun q59 =>
 let tr65 := q59.2.2.2.2.2.1;
 let tr66 := q59.2.2.2.2.2.2.1;
 let tr67 := q59.2.2.2.2.2.2.2.1;
 let tr68 := q59.2.2.2.2.2.2.2.2.1;
 let tr69 := q59.2.2.2.2.2.2.2.2.2.1;
 let tr70 := q59.2.2.2.2.2.2.2.2.2.2.1;
 let tr71 := q59.2.2.2.2.2.2.2.2.2.2.2;
 (if (!decide (q59.2.2.1 = 0)) = true then
 some (Sum.inr (Sum.inr ([], q59.2.2.1, q59.2.2.2.1, q59.2.2.2.2.1, tr65, tr66, tr67, tr68, tr69, tr70, tr71)))
 else
 ((if q59.1 = true then
 some true
 else
 (if (decide (q59.2.1 < 0)) = true then
 some true
 else
 some (decide (q59.2.1 ≥ 257)))) : Option (Bool)).bind (fun v72 =>
 (if v72 = true then
 some (Sum.inr (Sum.inr ([], 3, q59.2.2.2.1, q59.2.2.2.2.1, tr65, tr66, tr67, tr68, tr69, tr70, tr71)))
 else
 (if (places57.length + ([q59.2.1] : List Int).length) * 8 <= 140737488355328 then
 let t73 : List Int := places57 ++ [q59.2.1];
 let t74 := i64.wrap (s45.2.1 + 1);
 some (Sum.inl (q59.2.1, t74, q59.2.2.2.1, q59.2.2.2.2.1, tr65, tr66, tr67, tr68, tr69, tr70, tr71, t73))
 else
 none))))
 else
 some (Sum.inr (Sum.inl (s45.2.2.1, s45.2.2.2.1, s45.2.2.2.2.1, s45.2.2.2.2.2.1, s45.2.2.2.2.2.2.1, s45.2.2.2.2.2.2.2.1, b54, b55, b56, places57))))
noncomputable def Z44l15 := Z44l15_b @Z70 @Z71
noncomputable def Z44_b (Z67 : type_of% @Z67) (Z68 : type_of% @Z68) (Z69 : type_of% @Z69) (loop : type_of% @loop) (Z44l15 : type_of% @Z44l15) (Z72 : type_of% @Z72) (Z73 : type_of% @Z73) (b1 : List Int) : Option ((List Int) × Int) :=
 (Z67 b1 0).bind fun q2 =>
 ((if (!decide (q2.2.2 = 0)) = true then
 some (Sum.inr ([], q2.2.2))
 else
 ((if (decide (q2.1 > 4000)) = true then
 some (Sum.inr ([], 4))
 else
 ((if (decide (q2.1 = 0)) = true then
 some (decide (q2.2.1 < ((b1.length : Nat) : Int)))
 else
 some false) : Option (Bool)).bind (fun v6 =>
 (if v6 = true then
 some (Sum.inr ([], 3))
 else
 (if (decide (q2.1 = 0)) = true then
 some (Sum.inr ([], 0))
 else
 some (Sum.inl ()))))) : Option ((Unit) ⊕ ((List Int) × Int))).bind (fun o11 =>
 (Sum.elim (fun (p7 : Unit) =>
 some (Sum.inl ()))
 (fun (p8 : (List Int) × Int) =>
 some (Sum.inr (p8.1, p8.2))) o11))) : Option ((Unit) ⊕ ((List Int) × Int))).bind (fun o16 =>
 (Sum.elim (fun (p12 : Unit) =>
 (Z68 0 144).bind fun q17 =>
 ((if 0 <= q2.2.1 ∧ q2.2.1 <= ((b1.length : Nat) : Int) then
 let t21 : List Int := cutL b1 q2.2.1.toNat b1.length;
 (Z69 q17.1 q17.2.2 t21).bind fun o33 =>
 (Sum.elim (fun (q22 : Int × Int × Int × (List Int) × Int × Int × Int × Bool × (List Int)) =>
 some (q22.1, q22.2.1, q22.2.2.1, q22.2.2.2.1, q22.2.2.2.2.1, q22.2.2.2.2.2.1, q22.2.2.2.2.2.2.1, q22.2.2.2.2.2.2.2.1, q22.2.2.2.2.2.2.2.2))
 (fun (q32 : Unit) =>
 none) o33)
 else
 none) : Option (Int × Int × Int × (List Int) × Int × Int × Int × Bool × (List Int))).bind (fun p34 =>
 let t44 := i64.wrap (q2.1 + 1);
 (loop (Z44l15 t44) (0, 0, p34.1, p34.2.1, p34.2.2.1, p34.2.2.2.1, p34.2.2.2.2.1, p34.2.2.2.2.2.1, p34.2.2.2.2.2.2.1, p34.2.2.2.2.2.2.2.1, p34.2.2.2.2.2.2.2.2, [])).bind (fun o112 =>
 (Sum.elim (fun (p89 : Int × Int × Int × (List Int) × Int × Int × Int × Bool × (List Int) × (List Int)) =>
 (Z72 p89.2.2.2.2.2.2.2.2.2).bind fun q113 =>
 (Z73 q113.1).bind fun q116 =>
 some (q116.1, q116.2))
 (fun (p100 : (List Int) × Int × Int × Int × Int × (List Int) × Int × Int × Int × Bool × (List Int)) =>
 some (p100.1, p100.2.1)) o112))))
 (fun (p13 : (List Int) × Int) =>
 some (p13.1, p13.2)) o16))
theorem Z44_eq b1 : Z44 b1 = Z44_b @Z67 @Z68 @Z69 @loop @Z44l15 @Z72 @Z73 b1 := (B0 ..).trans (by kernel_rfl)
noncomputable def Z45_b (Z67 : type_of% @Z67) (Z46 : type_of% @Z46) (b1 : List Int) (b2 b3 : Int) : Option (Int × (List Int) × Int × Int) :=
 (if (!decide (b3 = 0)) = true then
 some (0, b1, b2, b3)
 else
 (Z67 b1 b2).bind fun q4 =>
 (Z46 (decide (q4.2.2 = 0)) q4.2.2 b1 b2 b3).bind fun q8 =>
 (if q8.1 = true then
 some (q4.1, q8.2.1, q4.2.1, q8.2.2.2)
 else
 some (q4.1, q8.2.1, q8.2.2.1, q8.2.2.2)))
theorem Z45_eq b1 b2 b3 : Z45 b1 b2 b3 = Z45_b @Z67 @Z46 b1 b2 b3 := (B0 ..).trans (by kernel_rfl)
noncomputable def Z46_b (ok1 : Bool) (err2 : Int) (b3 : List Int) (b4 b5 : Int) : Option (Bool × (List Int) × Int × Int) :=
 ((if (decide (b5 = 0)) = true then
 some (!ok1)
 else
 some false) : Option (Bool)).bind (fun v6 =>
 (if v6 = true then
 some (decide (err2 = 0), b3, b4, err2)
 else
 some (decide (b5 = 0), b3, b4, b5)))
theorem Z46_eq ok1 err2 b3 b4 b5 : Z46 ok1 err2 b3 b4 b5 = Z46_b ok1 err2 b3 b4 b5 := (B0 ..).trans (by kernel_rfl)
noncomputable def Z47_b (Z74 : type_of% @Z74) (Z46 : type_of% @Z46) (Z75 : type_of% @Z75) (Z45 : type_of% @Z45) (b1 : List Int) (b2 b3 : Int) : Option ((List Int) × Int × (List Int) × Int × (List Int) × Int × Int) :=
 (Z74 1 b1 b2 b3).bind fun q4 =>
 ((if (decide (((q4.1.length : Nat) : Int) = 1)) = true then
 (if 0 <= (0 : Int) ∧ (0 : Int) < (q4.1.length : Int) then
 (Z46 (decide (rd q4.1 0 <= 2)) 3 q4.2.1 q4.2.2.1 q4.2.2.2).bind fun q9 =>
 some (!q9.1, q9.2.1, q9.2.2.1, q9.2.2.2)
 else
 none)
 else
 (Z46 false 3 q4.2.1 q4.2.2.1 q4.2.2.2).bind fun q14 =>
 some (!q14.1, q14.2.1, q14.2.2.1, q14.2.2.2)) : Option (Bool × (List Int) × Int × Int)).bind (fun p19 =>
 (if p19.1 = true then
 some ([], 0, [], 0, p19.2.1, p19.2.2.1, p19.2.2.2)
 else
 (if 0 <= (0 : Int) ∧ (0 : Int) < (q4.1.length : Int) then
 let t24 := i64.wrap (rd q4.1 0);
 (Z75 p19.2.1 p19.2.2.1 p19.2.2.2).bind fun q25 =>
 (Z45 q25.2.1 q25.2.2.1 q25.2.2.2).bind fun q30 =>
 some (q25.1, t24, [], q30.1, q30.2.1, q30.2.2.1, q30.2.2.2)
 else
 none)))
theorem Z47_eq b1 b2 b3 : Z47 b1 b2 b3 = Z47_b @Z74 @Z46 @Z75 @Z45 b1 b2 b3 := (B0 ..).trans (by kernel_rfl)
noncomputable def Z48_b (Z76 : type_of% @Z76) (b1 : List Int) : Option ((List Outline) × Int) :=
 (Z76 1 b1 0 0 0).bind fun q2 =>
 (if (!decide (q2.2.2.2.2 = 0)) = true then
 some ([], q2.2.2.2.2)
 else
 (if (decide (q2.2.2.1 < ((b1.length : Nat) : Int))) = true then
 some ([], 3)
 else
 some (q2.1, 0)))
theorem Z48_eq b1 : Z48 b1 = Z48_b @Z76 b1 := (B0 ..).trans (by kernel_rfl)
noncomputable def Z49l2_b (Z77 : type_of% @Z77) (s1 : List File) (s3 : Int × (List Int)) : Option ((Int × (List Int)) ⊕ (((List Int)) ⊕ (Int × (List Int)))) :=
 (if (decide (s3.1 < ((s1.length : Nat) : Int))) = true then
 (if 0 <= s3.1 then
 (s1[s3.1.toNat]?).bind fun e6 =>
 (Z77 e6.name e6.kind e6.data s3.2).bind fun q7 =>
 (if q7.1 = true then
 some (Sum.inr (Sum.inr (s3.1, q7.2)))
 else
 let t10 := i64.wrap (s3.1 + 1);
 some (Sum.inl (t10, q7.2)))
 else
 none)
 else
 some (Sum.inr (Sum.inl s3.2)))
noncomputable def Z49l2 := Z49l2_b @Z77
noncomputable def Z49_b (loop : type_of% @loop) (Z49l2 : type_of% @Z49l2) (s1 : List File) (b2 : List Int) : Option (Int × (List Int)) :=
 (loop (Z49l2 s1) (0, b2)).bind (fun o18 =>
 (Sum.elim (fun (b14 : (List Int)) =>
 some ((-1), b14))
 (fun (p15 : Int × (List Int)) =>
 some (p15.1, p15.2)) o18))
theorem Z49_eq s1 b2 : Z49 s1 b2 = Z49_b @loop @Z49l2 s1 b2 := (B0 ..).trans (by kernel_rfl)
noncomputable def Z50l5_b (Z79 : type_of% @Z79) (s7 : Int × Int × (List Int) × Int) : Option ((Int × Int × (List Int) × Int) ⊕ (Int × (List Int) × Int)) :=
 let j9 := s7.2.1;
 let b10 := s7.2.2.1;
 (if (decide (j9 < ((b10.length : Nat) : Int))) = true then
 (if 0 <= j9 ∧ j9 < (b10.length : Int) then
 let t12 : Int := rd b10 j9;
 (Z79 t12 s7.2.2.2).bind fun q13 =>
 (if (!q13.1) = true then
 (if 0 <= s7.1 ∧ s7.1 < (b10.length : Int) then
 let w16 : List Int := b10.set s7.1.toNat t12;
 let t17 := i64.wrap (s7.1 + 1);
 let t18 := i64.wrap (j9 + 1);
 some (Sum.inl (t17, t18, w16, q13.2))
 else
 none)
 else
 let t19 := i64.wrap (j9 + 1);
 some (Sum.inl (s7.1, t19, b10, q13.2)))
 else
 none)
 else
 some (Sum.inr (s7.1, b10, s7.2.2.2)))
noncomputable def Z50l5 := Z50l5_b @Z79
noncomputable def Z50_b (Z78 : type_of% @Z78) (loop : type_of% @loop) (Z50l5 : type_of% @Z50l5) (b1 : List Int) (b2 : Int) : Option ((List Int) × Int) :=
 (Z78 b1 b2).bind fun q3 =>
 (if (decide (q3.1 = (-1))) = true then
 some (b1, q3.2)
 else
 let t6 := i64.wrap (q3.1 + 1);
 (loop (Z50l5) (q3.1, t6, b1, q3.2)).bind (fun p20 =>
 (if 0 <= p20.1 ∧ p20.1 <= ((p20.2.1.length : Nat) : Int) then
 none
 else
 none)))
theorem Z50_eq b1 b2 : Z50 b1 b2 = Z50_b @Z78 @loop @Z50l5 b1 b2 := (B0 ..).trans (by kernel_rfl)
noncomputable def Z51l2_b (Z51 : type_of% @Z51) (l1 : List Outline) (depth2 : Int) (s4 : Int × Int) : Option ((Int × Int) ⊕ ((Int) ⊕ (Bool × Int))) :=
 (if (decide (s4.1 < ((l1.length : Nat) : Int))) = true then
 (if 0 <= s4.1 then
 (l1[s4.1.toNat]?).bind fun e7 =>
 let t8 := i64.wrap (s4.2 + 1);
 (if (decide (t8 > 400)) = true then
 some (Sum.inr (Sum.inr (false, t8)))
 else
 (if (decide (depth2 > 20)) = true then
 some (Sum.inr (Sum.inr (false, t8)))
 else
 (if (decide (((e7.title.length : Nat) : Int) > 200)) = true then
 some (Sum.inr (Sum.inr (false, t8)))
 else
 (if (decide (e7.page < 1)) = true then
 some (Sum.inr (Sum.inr (false, t8)))
 else
 (if (decide (e7.page > 1000)) = true then
 some (Sum.inr (Sum.inr (false, t8)))
 else
 let t9 := i64.wrap (depth2 + 1);
 (Z51 e7.kids t9 t8).bind fun q10 =>
 (if (!q10.1) = true then
 some (Sum.inr (Sum.inr (false, q10.2)))
 else
 let t13 := i64.wrap (s4.1 + 1);
 some (Sum.inl (t13, q10.2))))))))
 else
 none)
 else
 some (Sum.inr (Sum.inl s4.2)))
noncomputable def Z51l2 := Z51l2_b @Z51
noncomputable def Z51_b (loop : type_of% @loop) (Z51l2 : type_of% @Z51l2) (l1 : List Outline) (depth2 b3 : Int) : Option (Bool × Int) :=
 (loop (Z51l2 l1 depth2) (0, b3)).bind (fun o21 =>
 (Sum.elim (fun (b17 : Int) =>
 some (true, b17))
 (fun (p18 : Bool × Int) =>
 some (p18.1, p18.2)) o21))
theorem Z51_eq l1 depth2 b3 : Z51 l1 depth2 b3 = Z51_b @loop @Z51l2 l1 depth2 b3 := (B0 ..).trans (by kernel_rfl)
noncomputable def Z52l2 (s1 : List Int) (v2 : Int) : Option ((Int) ⊕ ((Unit) ⊕ (Bool))) :=
 (if (decide (v2 < ((s1.length : Nat) : Int))) = true then
 (if 0 <= v2 ∧ v2 < ((s1).length : Int) then
 let t3 : Int := rd s1 v2;
 (if (decide (t3 < 97)) = true then
 (if (decide (t3 < 48)) = true then
 (if (!decide (t3 = 46)) = true then
 (if (!decide (t3 = 45)) = true then
 some (Sum.inr (Sum.inr false))
 else
 let t4 := i64.wrap (v2 + 1);
 some (Sum.inl t4))
 else
 let t5 := i64.wrap (v2 + 1);
 some (Sum.inl t5))
 else
 (if (decide (t3 > 57)) = true then
 (if (!decide (t3 = 46)) = true then
 (if (!decide (t3 = 45)) = true then
 some (Sum.inr (Sum.inr false))
 else
 let t6 := i64.wrap (v2 + 1);
 some (Sum.inl t6))
 else
 let t7 := i64.wrap (v2 + 1);
 some (Sum.inl t7))
 else
 let t8 := i64.wrap (v2 + 1);
 some (Sum.inl t8)))
 else
 (if (decide (t3 > 122)) = true then
 (if (decide (t3 < 48)) = true then
 (if (!decide (t3 = 46)) = true then
 (if (!decide (t3 = 45)) = true then
 some (Sum.inr (Sum.inr false))
 else
 let t9 := i64.wrap (v2 + 1);
 some (Sum.inl t9))
 else
 let t10 := i64.wrap (v2 + 1);
 some (Sum.inl t10))
 else
 (if (decide (t3 > 57)) = true then
 (if (!decide (t3 = 46)) = true then
 (if (!decide (t3 = 45)) = true then
 some (Sum.inr (Sum.inr false))
 else
 let t11 := i64.wrap (v2 + 1);
 some (Sum.inl t11))
 else
 let t12 := i64.wrap (v2 + 1);
 some (Sum.inl t12))
 else
 let t13 := i64.wrap (v2 + 1);
 some (Sum.inl t13)))
 else
 let t14 := i64.wrap (v2 + 1);
 some (Sum.inl t14)))
 else
 none)
 else
 some (Sum.inr (Sum.inl ())))
noncomputable def Z52_b (loop : type_of% @loop) (Z52l2 : type_of% @Z52l2) (s1 : List Int) : Option Bool :=
 (loop (Z52l2 s1) 0).bind (fun o20 =>
 (Sum.elim (fun (p18 : Unit) =>
 (if (decide (((s1.length : Nat) : Int) ≥ 1)) = true then
 some (decide (((s1.length : Nat) : Int) <= 20))
 else
 some false))
 (fun (v19 : Bool) =>
 some v19) o20))
theorem Z52_eq s1 : Z52 s1 = Z52_b @loop @Z52l2 s1 := (B0 ..).trans (by kernel_rfl)
noncomputable def Z53l2_b (Z80 : type_of% @Z80) (s1 : List File) (s3 : Int × (List Int)) : Option ((Int × (List Int)) ⊕ (((List Int)) ⊕ (Int × (List Int)))) :=
 (if (decide (s3.1 < ((s1.length : Nat) : Int))) = true then
 (if 0 <= s3.1 then
 (s1[s3.1.toNat]?).bind fun e6 =>
 (Z80 e6.name e6.kind e6.data s3.2).bind fun q7 =>
 (if q7.1 = true then
 some (Sum.inr (Sum.inr (s3.1, q7.2)))
 else
 let t10 := i64.wrap (s3.1 + 1);
 some (Sum.inl (t10, q7.2)))
 else
 none)
 else
 some (Sum.inr (Sum.inl s3.2)))
noncomputable def Z53l2 := Z53l2_b @Z80
noncomputable def Z53_b (loop : type_of% @loop) (Z53l2 : type_of% @Z53l2) (s1 : List File) (b2 : List Int) : Option (Int × (List Int)) :=
 (loop (Z53l2 s1) (0, b2)).bind (fun o18 =>
 (Sum.elim (fun (b14 : (List Int)) =>
 some ((-1), b14))
 (fun (p15 : Int × (List Int)) =>
 some (p15.1, p15.2)) o18))
theorem Z53_eq s1 b2 : Z53 s1 b2 = Z53_b @loop @Z53l2 s1 b2 := (B0 ..).trans (by kernel_rfl)
noncomputable def Z54l5_b (Z81 : type_of% @Z81) (b1 : List File) (s5 : Int × (List Int)) : Option ((Int × (List Int)) ⊕ ((List Int))) :=
 (if (decide (s5.1 < ((b1.length : Nat) : Int))) = true then
 (if 0 <= s5.1 then
 (b1[s5.1.toNat]?).bind fun e8 =>
 let t9 := u8.wrap e8.kind;
 (if (s5.2.length + ([t9] : List Int).length) * 1 <= 140737488355328 then
 let t10 : List Int := s5.2 ++ [t9];
 (Z81 ((e8.name.length : Nat) : Int) e8.name).bind fun q11 =>
 (if (t10.length + q11.length) * 1 <= 140737488355328 then
 let t12 : List Int := t10 ++ q11;
 (Z81 ((e8.data.length : Nat) : Int) []).bind fun q13 =>
 (if (t12.length + q13.length) * 1 <= 140737488355328 then
 let t14 : List Int := t12 ++ q13;
 let t15 := i64.wrap (s5.1 + 1);
 some (Sum.inl (t15, t14))
 else
 none)
 else
 none)
 else
 none)
 else
 none)
 else
 some (Sum.inr s5.2))
noncomputable def Z54l5 := Z54l5_b @Z81
noncomputable def Z54_b (Z15 : type_of% @Z15) (Z81 : type_of% @Z81) (loop : type_of% @loop) (Z54l5 : type_of% @Z54l5) (Z82 : type_of% @Z82) (Z83 : type_of% @Z83) (b1 : List File) (b2 : List Outline) : Option ((List Int) × Int) :=
 (Z15 b1 b2).bind fun q3 =>
 (if (!q3) = true then
 some ([], 110)
 else
 (Z81 ((b1.length : Nat) : Int) []).bind fun q4 =>
 (loop (Z54l5 b1) (0, q4)).bind (fun out19 =>
 (Z82 b2).bind fun q20 =>
 (if (out19.length + q20.1.length) * 1 <= 140737488355328 then
 let t23 : List Int := out19 ++ q20.1;
 (Z83 t23).bind fun q24 =>
 some (q24.1, q24.2)
 else
 none)))
theorem Z54_eq b1 b2 : Z54 b1 b2 = Z54_b @Z15 @Z81 @loop @Z54l5 @Z82 @Z83 b1 b2 := (B0 ..).trans (by kernel_rfl)
noncomputable def Z55_b (Z81 : type_of% @Z81) (f1 : List Int) (f2 : Int) (f3 : List Int) : Option ((List Int) × (List Int) × (List Int) × (List Chunk)) :=
 (Z81 ((f1.length : Nat) : Int) f1).bind fun q4 =>
 (if (q4.length + f3.length) * 1 <= 140737488355328 then
 let t5 : List Int := q4 ++ f3;
 some ([70, 73, 76, 69], [], t5, [])
 else
 none)
theorem Z55_eq f1 f2 f3 : Z55 f1 f2 f3 = Z55_b @Z81 f1 f2 f3 := (B0 ..).trans (by kernel_rfl)
noncomputable def Z56l5_b (Z85 : type_of% @Z85) (l1 : List Chunk) (s3 : Int × Int) : Option ((Int × Int) ⊕ (Int)) :=
 (if (decide (s3.2 < ((l1.length : Nat) : Int))) = true then
 (if 0 <= s3.2 then
 (l1[s3.2.toNat]?).bind fun e6 =>
 (Z85 e6.id e6.kind e6.data e6.kids).bind fun q7 =>
 let t8 := i64.wrap (s3.1 + q7);
 let t9 := i64.wrap (s3.2 + 1);
 some (Sum.inl (t8, t9))
 else
 none)
 else
 some (Sum.inr s3.1))
noncomputable def Z56l5 := Z56l5_b @Z85
noncomputable def Z56l5_step (i10 : Nat) (x11 : Chunk) (s12 : Int) : Option ((Int) ⊕ (Int)) :=
 (Z85 x11.id x11.kind x11.data x11.kids).bind fun q7 =>
 let t8 := i64.wrap (s12 + q7);
 some (Sum.inl (t8))
theorem Z56l5_over (l1 : List Chunk) (hl : l1.length <= 9223372036854775807) (s12 : Int) : loop (Z56l5 l1) ((s12, 0) : Int × Int) =
    overL (Z56l5_step) (fun (s12 : Int) => some s12) 0 l1 s12 := by
  refine B22 l1 (fun n (s : Int) => ((s, ((n : Nat) : Int)) : Int × Int)) _ _ (fun s => ?_) (fun i x s h => ?_) 0 s12 (A24 _)
  . unfold Z56l5 Z56l5_b; simp
  . have hlt := B7 h
    have h1 : ((i : Nat) : Int) < ((l1.length : Nat) : Int) := by omega
    have h0 : (0 : Int) <= ((i : Nat) : Int) := by omega
    have hw : i64.wrap (((i : Nat) : Int) + 1) = (((i + 1 : Nat) : Nat) : Int) := w64 (by omega)
    unfold Z56l5 Z56l5_b Z56l5_step
    simp only [h1, h0, hw, h, A7, A5, A22, A13, A12, A1, A49, Function.comp_def, B42, B29, A31, A47]
noncomputable def Z56l13_b (Z86 : type_of% @Z86) (l1 : List Chunk) (s14 : Int × (List Int)) : Option ((Int × (List Int)) ⊕ ((List Int))) :=
 (if (decide (s14.1 < ((l1.length : Nat) : Int))) = true then
 (if 0 <= s14.1 then
 (l1[s14.1.toNat]?).bind fun e17 =>
 (Z86 e17.id e17.kind e17.data e17.kids s14.2).bind fun q18 =>
 let t19 := i64.wrap (s14.1 + 1);
 some (Sum.inl (t19, q18))
 else
 none)
 else
 some (Sum.inr s14.2))
noncomputable def Z56l13 := Z56l13_b @Z86
noncomputable def Z56l13_step (i20 : Nat) (x21 : Chunk) (s22 : (List Int)) : Option (((List Int)) ⊕ ((List Int))) :=
 (Z86 x21.id x21.kind x21.data x21.kids s22).bind fun q18 =>
 some (Sum.inl (q18))
theorem Z56l13_over (l1 : List Chunk) (hl : l1.length <= 9223372036854775807) (s22 : (List Int)) : loop (Z56l13 l1) ((0, s22) : Int × (List Int)) =
    overL (Z56l13_step) (fun (s22 : (List Int)) => some s22) 0 l1 s22 := by
  refine B22 l1 (fun n (s : (List Int)) => ((((n : Nat) : Int), s) : Int × (List Int))) _ _ (fun s => ?_) (fun i x s h => ?_) 0 s22 (A24 _)
  . unfold Z56l13 Z56l13_b; simp
  . have hlt := B7 h
    have h1 : ((i : Nat) : Int) < ((l1.length : Nat) : Int) := by omega
    have h0 : (0 : Int) <= ((i : Nat) : Int) := by omega
    have hw : i64.wrap (((i : Nat) : Int) + 1) = (((i + 1 : Nat) : Nat) : Int) := w64 (by omega)
    unfold Z56l13 Z56l13_b Z56l13_step
    simp only [h1, h0, hw, h, A7, A5, A22, A13, A12, A1, A49, Function.comp_def, B42, B29, A31, A47]
noncomputable def Z56_b (Z84 : type_of% @Z84) (loop : type_of% @loop) (Z56l5 : type_of% @Z56l5) (Z56l13 : type_of% @Z56l13) (l1 : List Chunk) : Option ((List Int) × Int) :=
 (Z84 l1).bind fun q2 =>
 (if (!q2) = true then
 some ([], 100)
 else
 (loop (Z56l5 l1) (0, 0)).bind (fun n13 =>
 (if (decide (n13 > 60000)) = true then
 some ([], 4)
 else
 (loop (Z56l13 l1) (0, [])).bind (fun out23 =>
 some (out23, 0)))))
theorem Z56_eq l1 : Z56 l1 = Z56_b @Z84 @loop @Z56l5 @Z56l13 l1 := (B0 ..).trans (by kernel_rfl)
end
end Go.Proofs.YtcphcfknnfibmaaGreat.P
