import Derived.Test.YtcphcfknnfibmaaGreatG
import Derived.Test.YtcphcfknnfibmaaGreatF5
namespace Go.Proofs.YtcphcfknnfibmaaGreat.P
open Go Go.IntKind Go.Proofs.YtcphcfknnfibmaaGreat.V
set_option linter.unusedVariables false
set_option linter.unusedSimpArgs false
set_option maxRecDepth 100000
noncomputable section
noncomputable def Z170l1_b (Z167 : type_of% @Z167) (hi2 first3 : Int) (s6 : Int × (List Int) × (List Int)) : Option ((Int × (List Int) × (List Int)) ⊕ (((List Int) × (List Int)) ⊕ ((List Int) × (List Int)))) :=
 let b8 := s6.2.1;
 let t10 := i64.wrap (2 * s6.1);
 let t11 := i64.wrap (t10 + 1);
 (if (decide (t11 ≥ hi2)) = true then
 some (Sum.inr (Sum.inl (b8, s6.2.2)))
 else
 (let t12 := i64.wrap (t11 + 1);
 (if (decide (t12 < hi2)) = true then
 let t13 := i64.wrap (first3 + t11);
 (if 0 <= t13 ∧ t13 < (b8.length : Int) then
 let t14 : Int := rd b8 t13;
 let t15 := i64.wrap (first3 + t11);
 let t16 := i64.wrap (t15 + 1);
 (if 0 <= t16 ∧ t16 < (b8.length : Int) then
 let t17 : Int := rd b8 t16;
 (Z167 t14 t17 s6.2.2).bind fun q18 =>
 some (decide (q18.1 < 0), q18.2)
 else
 none)
 else
 none)
 else
 some (false, s6.2.2)) : Option (Bool × (List Int))).bind (fun p21 =>
 ((if p21.1 = true then
 let t24 := i64.wrap (t11 + 1);
 some t24
 else
 some t11) : Option (Int)).bind (fun child25 =>
 let t26 := i64.wrap (first3 + s6.1);
 (if 0 <= t26 ∧ t26 < (b8.length : Int) then
 let t27 : Int := rd b8 t26;
 let t28 := i64.wrap (first3 + child25);
 (if 0 <= t28 ∧ t28 < (b8.length : Int) then
 let t29 : Int := rd b8 t28;
 (Z167 t27 t29 p21.2).bind fun q30 =>
 (if (!(decide (q30.1 < 0))) = true then
 some (Sum.inr (Sum.inr (b8, q30.2)))
 else
 let t33 := i64.wrap (first3 + s6.1);
 let t34 := i64.wrap (first3 + child25);
 let t35 := i64.wrap (first3 + child25);
 (if 0 <= t35 ∧ t35 < (b8.length : Int) then
 let t36 : Int := rd b8 t35;
 let t37 := i64.wrap (first3 + s6.1);
 (if 0 <= t37 ∧ t37 < (b8.length : Int) then
 let t38 : Int := rd b8 t37;
 (if 0 <= t33 ∧ t33 < (b8.length : Int) then
 let w39 : List Int := b8.set t33.toNat t36;
 (if 0 <= t34 ∧ t34 < (w39.length : Int) then
 let w40 : List Int := w39.set t34.toNat t38;
 some (Sum.inl (child25, w40, q30.2))
 else
 none)
 else
 none)
 else
 none)
 else
 none))
 else
 none)
 else
 none))))
noncomputable def Z170l1 := Z170l1_b @Z167
noncomputable def Z170_b (loop : type_of% @loop) (Z170l1 : type_of% @Z170l1) (lo1 hi2 first3 : Int) (b4 b5 : List Int) : Option ((List Int) × (List Int)) :=
 (loop (Z170l1 hi2 first3) (lo1, b4, b5)).bind (fun o47 =>
 (Sum.elim (fun (p41 : (List Int) × (List Int)) =>
 some (p41.1, p41.2))
 (fun (p44 : (List Int) × (List Int)) =>
 some (p44.1, p44.2)) o47))
theorem Z170_eq lo1 hi2 first3 b4 b5 : Z170 lo1 hi2 first3 b4 b5 = Z170_b @loop @Z170l1 lo1 hi2 first3 b4 b5 := (B0 ..).trans (by kernel_rfl)
noncomputable def Z171_b (Z128 : type_of% @Z128) (length1 : Int) : Option Int :=
 let t2 := u64.wrap length1;
 (Z128 t2).bind fun q3 =>
 (if q3 < 0 then
 none
 else
 let t4 := ishl .u64 1 q3;
 some t4)
theorem Z171_eq length1 : Z171 length1 = Z171_b @Z128 length1 := (B0 ..).trans (by kernel_rfl)
noncomputable def Z172_b (b1 : Int) : Option (Int × Int) :=
 let t2 := ishl .u64 b1 13;
 let t3 := ixor .u64 b1 t2;
 let t4 := ishr .u64 t3 7;
 let t5 := ixor .u64 t3 t4;
 let t6 := ishl .u64 t5 17;
 let t7 := ixor .u64 t5 t6;
 some (t7, t7)
theorem Z172_eq b1 : Z172 b1 = Z172_b b1 := (B0 ..).trans (by kernel_rfl)
noncomputable def Z173_b (Z174 : type_of% @Z174) (a1 : Int) (b2 : List Int) (b3 : Int) (b4 : List Int) : Option (Int × (List Int) × Int × (List Int)) :=
 let t5 := i64.wrap (a1 - 1);
 let t6 := i64.wrap (a1 + 1);
 (Z174 t5 a1 t6 b2 b3 b4).bind fun q7 =>
 some (q7.1, q7.2.1, q7.2.2.1, q7.2.2.2)
theorem Z173_eq a1 b2 b3 b4 : Z173 a1 b2 b3 b4 = Z173_b @Z174 a1 b2 b3 b4 := (B0 ..).trans (by kernel_rfl)
noncomputable def Z174_b (Z176 : type_of% @Z176) (a1 b2 c3 : Int) (b4 : List Int) (b5 : Int) (b6 : List Int) : Option (Int × (List Int) × Int × (List Int)) :=
 (Z176 a1 b2 b4 b5 b6).bind fun q7 =>
 (Z176 q7.2.1 c3 q7.2.2.1 q7.2.2.2.1 q7.2.2.2.2).bind fun q13 =>
 (Z176 q7.1 q13.1 q13.2.2.1 q13.2.2.2.1 q13.2.2.2.2).bind fun q19 =>
 some (q19.2.1, q19.2.2.1, q19.2.2.2.1, q19.2.2.2.2)
theorem Z174_eq a1 b2 c3 b4 b5 b6 : Z174 a1 b2 c3 b4 b5 b6 = Z174_b @Z176 a1 b2 c3 b4 b5 b6 := (B0 ..).trans (by kernel_rfl)
noncomputable def Z175_b (a1 b2 : List Int) : Option Int :=
 let t3 : Int := cmpI a1 b2;
 some t3
theorem Z175_eq a1 b2 : Z175 a1 b2 = Z175_b a1 b2 := (B0 ..).trans (by kernel_rfl)
noncomputable def Z176_b (Z167 : type_of% @Z167) (a1 b2 : Int) (b3 : List Int) (b4 : Int) (b5 : List Int) : Option (Int × Int × (List Int) × Int × (List Int)) :=
 (if 0 <= b2 ∧ b2 < (b3.length : Int) then
 let t6 : Int := rd b3 b2;
 (if 0 <= a1 ∧ a1 < (b3.length : Int) then
 let t7 : Int := rd b3 a1;
 (Z167 t6 t7 b5).bind fun q8 =>
 (if (decide (q8.1 < 0)) = true then
 let t11 := i64.wrap (b4 + 1);
 some (b2, a1, b3, t11, q8.2)
 else
 some (a1, b2, b3, b4, q8.2))
 else
 none)
 else
 none)
theorem Z176_eq a1 b2 b3 b4 b5 : Z176 a1 b2 b3 b4 b5 = Z176_b @Z167 a1 b2 b3 b4 b5 := (B0 ..).trans (by kernel_rfl)
end
end Go.Proofs.YtcphcfknnfibmaaGreat.P
