/- Part of the proof of ViewServes: equations of functions. -/
import Derived.Test.YtcphcfknnfibmaaGreatG
import Derived.Test.YtcphcfknnfibmaaGreatF5
namespace Go.Proofs.YtcphcfknnfibmaaGreat.P
open Go Go.IntKind Go.Proofs.YtcphcfknnfibmaaGreat.V
set_option linter.unusedVariables false
set_option linter.unusedSimpArgs false
set_option maxRecDepth 100000
noncomputable section
noncomputable def Z109l5_b (Z106 : type_of% @Z106) (base1 : Int) (s24 : Int × Int × Int × Int × (List Int) × Int × Int × Int × Bool × (List Int) × Bool × Int) : Option ((Int × Int × Int × Int × (List Int) × Int × Int × Int × Bool × (List Int) × Bool × Int) ⊕ ((Int × Int × Int × Int × (List Int) × Int × Int × Int × Bool × (List Int) × Bool × Int) ⊕ (Int × Int × Int × Int × (List Int) × Int × Int × Int × Bool × (List Int) × Bool × Int))) :=
 let b33 := s24.2.2.2.2.2.2.2.2.1;
 let b34 := s24.2.2.2.2.2.2.2.2.2.1;
 let b35 := s24.2.2.2.2.2.2.2.2.2.2.1;
 let b36 := s24.2.2.2.2.2.2.2.2.2.2.2;
 (if (decide (s24.1 < 20)) = true then
 let t37 := i64.wrap (base1 + 1);
 let t38 := i64.wrap (t37 + s24.1);
 (Z106 t38 s24.2.1 s24.2.2.1 s24.2.2.2.1 s24.2.2.2.2.1 s24.2.2.2.2.2.1 s24.2.2.2.2.2.2.1 s24.2.2.2.2.2.2.2.1 b33 b34).bind fun q39 =>
 let tr45 := q39.2.2.2.2.2.1;
 let tr46 := q39.2.2.2.2.2.2.1;
 let tr47 := q39.2.2.2.2.2.2.2.1;
 let tr48 := q39.2.2.2.2.2.2.2.2.1;
 let tr49 := q39.2.2.2.2.2.2.2.2.2.1;
 let tr50 := q39.2.2.2.2.2.2.2.2.2.2;
 (if (!decide (q39.2.1 = 0)) = true then
 some (Sum.inr (Sum.inr (q39.2.1, q39.2.2.1, q39.2.2.2.1, q39.2.2.2.2.1, tr45, tr46, tr47, tr48, tr49, tr50, false, 0)))
 else
 (if (decide (q39.1 = 0)) = true then
 some (Sum.inr (Sum.inl (s24.1, q39.2.2.1, q39.2.2.2.1, q39.2.2.2.2.1, tr45, tr46, tr47, tr48, tr49, tr50, b35, b36)))
 else
 let t51 := i64.wrap (s24.1 + 1);
 some (Sum.inl (t51, q39.2.2.1, q39.2.2.2.1, q39.2.2.2.2.1, tr45, tr46, tr47, tr48, tr49, tr50, b35, b36))))
 else
 some (Sum.inr (Sum.inl (s24.1, s24.2.1, s24.2.2.1, s24.2.2.2.1, s24.2.2.2.2.1, s24.2.2.2.2.2.1, s24.2.2.2.2.2.2.1, s24.2.2.2.2.2.2.2.1, b33, b34, b35, b36))))
noncomputable def Z109l5 := Z109l5_b @Z106
noncomputable def Z109l14_b (Z148 : type_of% @Z148) (Z106 : type_of% @Z106) (base1 c53 : Int) (s79 : Int × Int × Int × Int × Int × (List Int) × Int × Int × Int × Bool × (List Int) × Bool × Int × Int) : Option ((Int × Int × Int × Int × Int × (List Int) × Int × Int × Int × Bool × (List Int) × Bool × Int × Int) ⊕ ((Int × Int × Int × Int × (List Int) × Int × Int × Int × Bool × (List Int) × Bool × Int × Int) ⊕ (Int × Int × Int × Int × (List Int) × Int × Int × Int × Bool × (List Int) × Bool × Int × Int))) :=
 let b88 := s79.2.2.2.2.2.2.2.2.1;
 let b89 := s79.2.2.2.2.2.2.2.2.2.1;
 let b90 := s79.2.2.2.2.2.2.2.2.2.2.1;
 let b91 := s79.2.2.2.2.2.2.2.2.2.2.2.1;
 let b92 := s79.2.2.2.2.2.2.2.2.2.2.2.2.1;
 let b93 := s79.2.2.2.2.2.2.2.2.2.2.2.2.2;
 (if (decide (s79.2.1 < c53)) = true then
 let t94 := i64.wrap (23 + c53);
 ((if (decide (s79.2.1 > 0)) = true then
 (Z148 b93).bind fun q95 =>
 some (q95.1, q95.2)
 else
 some (t94, b93)) : Option (Int × Int)).bind (fun p98 =>
 let t101 := i64.wrap (base1 + p98.1);
 (Z106 t101 s79.2.2.1 s79.2.2.2.1 s79.2.2.2.2.1 s79.2.2.2.2.2.1 s79.2.2.2.2.2.2.1 s79.2.2.2.2.2.2.2.1 b88 b89 b90).bind fun q102 =>
 (if (!decide (q102.2.1 = 0)) = true then
 some (Sum.inr (Sum.inr (q102.2.1, q102.2.2.1, q102.2.2.2.1, q102.2.2.2.2.1, q102.2.2.2.2.2.1, q102.2.2.2.2.2.2.1, q102.2.2.2.2.2.2.2.1, q102.2.2.2.2.2.2.2.2.1, q102.2.2.2.2.2.2.2.2.2.1, q102.2.2.2.2.2.2.2.2.2.2, false, 0, p98.2)))
 else
 let t114 := i64.wrap (2 * s79.1);
 let t115 := i64.wrap (t114 + q102.1);
 let t116 := i64.wrap (s79.2.1 + 1);
 some (Sum.inl (t115, t116, q102.2.2.1, q102.2.2.2.1, q102.2.2.2.2.1, q102.2.2.2.2.2.1, q102.2.2.2.2.2.2.1, q102.2.2.2.2.2.2.2.1, q102.2.2.2.2.2.2.2.2.1, q102.2.2.2.2.2.2.2.2.2.1, q102.2.2.2.2.2.2.2.2.2.2, b91, b92, p98.2))))
 else
 some (Sum.inr (Sum.inl (s79.1, s79.2.2.1, s79.2.2.2.1, s79.2.2.2.2.1, s79.2.2.2.2.2.1, s79.2.2.2.2.2.2.1, s79.2.2.2.2.2.2.2.1, b88, b89, b90, b91, b92, b93))))
noncomputable def Z109l14 := Z109l14_b @Z148 @Z106
noncomputable def Z109_b (Z106 : type_of% @Z106) (loop : type_of% @loop) (Z109l5 : type_of% @Z109l5) (Z109l14 : type_of% @Z109l14) (base1 b2 b3 b4 : Int) (b5 : List Int) (b6 b7 b8 : Int) (b9 : Bool) (b10 : List Int) : Option (Bool × Int × Int × Int × Int × Int × (List Int) × Int × Int × Int × Bool × (List Int)) :=
 (Z106 base1 b2 b3 b4 b5 b6 b7 b8 b9 b10).bind fun q11 =>
 let tr21 := q11.2.2.2.2.2.2.2.2.2.1;
 let tr22 := q11.2.2.2.2.2.2.2.2.2.2;
 ((if (!decide (q11.2.1 = 0)) = true then
 some true
 else
 some (decide (q11.1 = 1))) : Option (Bool)).bind (fun v23 =>
 (if v23 = true then
 some (decide (q11.2.1 = 0), 0, q11.2.1, q11.2.2.1, q11.2.2.2.1, q11.2.2.2.2.1, q11.2.2.2.2.2.1, q11.2.2.2.2.2.2.1, q11.2.2.2.2.2.2.2.1, q11.2.2.2.2.2.2.2.2.1, tr21, tr22)
 else
 (loop (Z109l5 base1) (0, q11.2.2.1, q11.2.2.2.1, q11.2.2.2.2.1, q11.2.2.2.2.2.1, q11.2.2.2.2.2.2.1, q11.2.2.2.2.2.2.2.1, q11.2.2.2.2.2.2.2.2.1, tr21, tr22, false, 0)).bind (fun o78 =>
 (Sum.elim (fun (p52 : Int × Int × Int × Int × (List Int) × Int × Int × Int × Bool × (List Int) × Bool × Int) =>
 (loop (Z109l14 base1 p52.1) (1, 0, p52.2.1, p52.2.2.1, p52.2.2.2.1, p52.2.2.2.2.1, p52.2.2.2.2.2.1, p52.2.2.2.2.2.2.1, p52.2.2.2.2.2.2.2.1, p52.2.2.2.2.2.2.2.2.1, p52.2.2.2.2.2.2.2.2.2.1, p52.2.2.2.2.2.2.2.2.2.2.1, p52.2.2.2.2.2.2.2.2.2.2.2, 44)).bind (fun o161 =>
 (Sum.elim (fun (p133 : Int × Int × Int × Int × (List Int) × Int × Int × Int × Bool × (List Int) × Bool × Int × Int) =>
 let b138 := p133.2.2.2.2.1;
 let b139 := p133.2.2.2.2.2.1;
 let b140 := p133.2.2.2.2.2.2.1;
 let b141 := p133.2.2.2.2.2.2.2.1;
 let b142 := p133.2.2.2.2.2.2.2.2.1;
 let b143 := p133.2.2.2.2.2.2.2.2.2.1;
 (if (decide (p133.1 > 1048577)) = true then
 some (false, 0, 3, p133.2.1, p133.2.2.1, p133.2.2.2.1, b138, b139, b140, b141, b142, b143)
 else
 (if (decide (p133.1 = 1)) = true then
 some (false, 0, 0, p133.2.1, p133.2.2.1, p133.2.2.2.1, b138, b139, b140, b141, b142, b143)
 else
 let t162 := i64.wrap (base1 + 22);
 (Z106 t162 p133.2.1 p133.2.2.1 p133.2.2.2.1 b138 b139 b140 b141 b142 b143).bind fun q163 =>
 (if (!decide (q163.2.1 = 0)) = true then
 some (false, 0, q163.2.1, q163.2.2.1, q163.2.2.2.1, q163.2.2.2.2.1, q163.2.2.2.2.2.1, q163.2.2.2.2.2.2.1, q163.2.2.2.2.2.2.2.1, q163.2.2.2.2.2.2.2.2.1, q163.2.2.2.2.2.2.2.2.2.1, q163.2.2.2.2.2.2.2.2.2.2)
 else
 let t175 := i64.wrap (p133.1 - 1);
 let t176 := i64.wrap (2 * q163.1);
 let t177 := i64.wrap (1 - t176);
 let t178 := i64.wrap (t175 * t177);
 some (false, t178, 0, q163.2.2.1, q163.2.2.2.1, q163.2.2.2.2.1, q163.2.2.2.2.2.1, q163.2.2.2.2.2.2.1, q163.2.2.2.2.2.2.2.1, q163.2.2.2.2.2.2.2.2.1, q163.2.2.2.2.2.2.2.2.2.1, q163.2.2.2.2.2.2.2.2.2.2)))))
 (fun (p147 : Int × Int × Int × Int × (List Int) × Int × Int × Int × Bool × (List Int) × Bool × Int × Int) =>
 some (p147.2.2.2.2.2.2.2.2.2.2.1, p147.2.2.2.2.2.2.2.2.2.2.2.1, p147.1, p147.2.1, p147.2.2.1, p147.2.2.2.1, p147.2.2.2.2.1, p147.2.2.2.2.2.1, p147.2.2.2.2.2.2.1, p147.2.2.2.2.2.2.2.1, p147.2.2.2.2.2.2.2.2.1, p147.2.2.2.2.2.2.2.2.2.1)) o161)))
 (fun (p65 : Int × Int × Int × Int × (List Int) × Int × Int × Int × Bool × (List Int) × Bool × Int) =>
 some (p65.2.2.2.2.2.2.2.2.2.2.1, p65.2.2.2.2.2.2.2.2.2.2.2, p65.1, p65.2.1, p65.2.2.1, p65.2.2.2.1, p65.2.2.2.2.1, p65.2.2.2.2.2.1, p65.2.2.2.2.2.2.1, p65.2.2.2.2.2.2.2.1, p65.2.2.2.2.2.2.2.2.1, p65.2.2.2.2.2.2.2.2.2.1)) o78))))
theorem Z109_eq base1 b2 b3 b4 b5 b6 b7 b8 b9 b10 : Z109 base1 b2 b3 b4 b5 b6 b7 b8 b9 b10 = Z109_b @Z106 @loop @Z109l5 @Z109l14 base1 b2 b3 b4 b5 b6 b7 b8 b9 b10 := (B0 ..).trans (by kernel_rfl)
noncomputable def Z110_b (Z149 : type_of% @Z149) (l1 : List Int) : Option Int :=
 (if (decide (((l1.length : Nat) : Int) > 4001)) = true then
 some 4
 else
 (Z149 l1).bind fun q2 =>
 (if q2 = true then
 some 2
 else
 some 0))
theorem Z110_eq l1 : Z110 l1 = Z110_b @Z149 l1 := (B0 ..).trans (by kernel_rfl)
noncomputable def Z111l3 (t1 : List Int) (s2 : Int × (List Int)) : Option ((Int × (List Int)) ⊕ ((List Int))) :=
 (if (decide (s2.1 < ((t1.length : Nat) : Int))) = true then
 (if 0 <= s2.1 ∧ s2.1 < (s2.2.length : Int) then
 let w5 : List Int := s2.2.set s2.1.toNat s2.1;
 let t6 := i64.wrap (s2.1 + 1);
 some (Sum.inl (t6, w5))
 else
 none)
 else
 some (Sum.inr s2.2))
noncomputable def Z111_b (loop : type_of% @loop) (Z111l3 : type_of% @Z111l3) : Option (List Int) :=
 (if 0 <= (257 : Int) ∧ (257 : Int) <= (257 : Int) ∧ ((8 : Nat) : Int) * (257 : Int) <= 281474976710656 then
 let t1 : List Int := List.replicate (257 : Int).toNat 0;
 (loop (Z111l3 t1) (0, t1)).bind (fun b10 =>
 some b10)
 else
 none)
theorem Z111_eq : Z111 = Z111_b @loop @Z111l3 := (B0 ..).trans (by kernel_rfl)
noncomputable def Z112_b (place1 : Int) (b2 : List Int) : Option (Int × (List Int)) :=
 (if 0 <= place1 ∧ place1 < (b2.length : Int) then
 let t3 : Int := rd b2 place1;
 let t4 := i64.wrap (place1 + 1);
 (if 0 <= t4 ∧ t4 <= ((b2.length : Nat) : Int) then
 (if 0 <= (1 : Int) ∧ (1 : Int) <= t4 then
 (if 0 <= place1 ∧ place1 <= ((b2.length : Nat) : Int) then
 let w5 : List Int := b2.take ((1 : Int).toNat) ++ ((b2.drop 0).take (place1.toNat - 0)).take (min ((b2.drop 0).take (place1.toNat - 0)).length (t4.toNat - (1 : Int).toNat)) ++ b2.drop (((1 : Int).toNat) + min ((b2.drop 0).take (place1.toNat - 0)).length (t4.toNat - (1 : Int).toNat));
 (if 0 <= (0 : Int) ∧ (0 : Int) < (w5.length : Int) then
 let w6 : List Int := w5.set (0 : Int).toNat t3;
 some (t3, w6)
 else
 none)
 else
 none)
 else
 none)
 else
 none)
 else
 none)
theorem Z112_eq place1 b2 : Z112 place1 b2 = Z112_b place1 b2 := (B0 ..).trans (by kernel_rfl)
noncomputable def Z113_b (b1 : List Int) : Option (List Int) :=
 some b1
theorem Z113_eq b1 : Z113 b1 = Z113_b b1 := (B0 ..).trans (by kernel_rfl)
noncomputable def Z114l3 (text1 : List Int) (q2 : (List Int)) (s3 : Int × (List Int)) : Option ((Int × (List Int)) ⊕ ((List Int))) :=
 let v4 := s3.1;
 (if (decide (v4 < ((q2.length : Nat) : Int))) = true then
 (if 0 <= v4 ∧ v4 < (s3.2.length : Int) then
 let t6 : Int := rd s3.2 v4;
 (if (decide (t6 = 0)) = true then
 (if 0 <= v4 ∧ v4 < (s3.2.length : Int) then
 let w7 : List Int := s3.2.set v4.toNat 0;
 let t8 := i64.wrap (v4 + 1);
 some (Sum.inl (t8, w7))
 else
 none)
 else
 let t9 := i64.wrap (t6 - 1);
 (if 0 <= t9 ∧ t9 < (text1.length : Int) then
 let t10 := i64.wrap (rd text1 t9);
 let t11 := i64.wrap (t10 + 1);
 (if 0 <= v4 ∧ v4 < (s3.2.length : Int) then
 let w12 : List Int := s3.2.set v4.toNat t11;
 let t13 := i64.wrap (v4 + 1);
 some (Sum.inl (t13, w12))
 else
 none)
 else
 none))
 else
 none)
 else
 some (Sum.inr s3.2))
noncomputable def Z114_b (Z150 : type_of% @Z150) (loop : type_of% @loop) (Z114l3 : type_of% @Z114l3) (text1 : List Int) : Option (List Int) :=
 (Z150 text1).bind fun q2 =>
 (loop (Z114l3 text1 q2) (0, q2)).bind (fun b14 =>
 some b14)
theorem Z114_eq text1 : Z114 text1 = Z114_b @Z150 @loop @Z114l3 text1 := (B0 ..).trans (by kernel_rfl)
noncomputable def Z115l4 (s1 s2 : List Int) (v3 : Int) : Option ((Int) ⊕ ((Unit) ⊕ (Bool))) :=
 (if (decide (v3 < ((s1.length : Nat) : Int))) = true then
 (if 0 <= v3 ∧ v3 < (s1.length : Int) then
 (if 0 <= v3 ∧ v3 < (s2.length : Int) then
 (if (!decide (rd s1 v3 = rd s2 v3)) = true then
 some (Sum.inr (Sum.inr false))
 else
 let t4 := i64.wrap (v3 + 1);
 some (Sum.inl t4))
 else
 none)
 else
 none)
 else
 some (Sum.inr (Sum.inl ())))
noncomputable def Z115_b (loop : type_of% @loop) (Z115l4 : type_of% @Z115l4) (s1 s2 : List Int) : Option Bool :=
 (if (!decide (((s1.length : Nat) : Int) = ((s2.length : Nat) : Int))) = true then
 some false
 else
 (loop (Z115l4 s1 s2) 0).bind (fun o10 =>
 (Sum.elim (fun (p8 : Unit) =>
 some true)
 (fun (v9 : Bool) =>
 some v9) o10)))
theorem Z115_eq s1 s2 : Z115 s1 s2 = Z115_b @loop @Z115l4 s1 s2 := (B0 ..).trans (by kernel_rfl)
noncomputable def Z116_b (Z67 : type_of% @Z67) (low1 high2 : Int) (b3 : List Int) (b4 b5 b6 : Int) : Option (Int × (List Int) × Int × Int × Int) :=
 (if (!decide (b6 = 0)) = true then
 some (0, b3, b4, b5, b6)
 else
 (Z67 b3 b4).bind fun q7 =>
 ((if (decide (q7.2.2 = 0)) = true then
 (if (decide (q7.1 < low1)) = true then
 some true
 else
 some (decide (q7.1 > high2)))
 else
 some false) : Option (Bool)).bind (fun v11 =>
 ((if v11 = true then
 some 3
 else
 some q7.2.2) : Option (Int)).bind (fun err12 =>
 (if (!decide (err12 = 0)) = true then
 some (0, b3, b4, b5, err12)
 else
 some (q7.1, b3, q7.2.1, b5, err12)))))
theorem Z116_eq low1 high2 b3 b4 b5 b6 : Z116 low1 high2 b3 b4 b5 b6 = Z116_b @Z67 low1 high2 b3 b4 b5 b6 := (B0 ..).trans (by kernel_rfl)
noncomputable def Z117_b (Z116 : type_of% @Z116) (b1 : List Int) (b2 b3 b4 : Int) : Option ((List Int) × (List Int) × Int × Int × Int) :=
 (Z116 0 200 b1 b2 b3 b4).bind fun q5 =>
 ((if (decide (q5.2.2.2.2 = 0)) = true then
 let t11 := i64.wrap (((q5.2.1.length : Nat) : Int) - q5.2.2.1);
 some (decide (t11 < q5.1))
 else
 some false) : Option (Bool)).bind (fun v12 =>
 ((if v12 = true then
 some (q5.2.1, q5.2.2.1, q5.2.2.2.1, 6)
 else
 some (q5.2.1, q5.2.2.1, q5.2.2.2.1, q5.2.2.2.2)) : Option ((List Int) × Int × Int × Int)).bind (fun p13 =>
 (if (!decide (p13.2.2.2 = 0)) = true then
 some ([], p13.1, p13.2.1, p13.2.2.1, p13.2.2.2)
 else
 let t18 := i64.wrap (p13.2.1 + q5.1);
 let t19 := i64.wrap (t18 - q5.1);
 (if 0 <= t18 ∧ t18 <= ((p13.1.length : Nat) : Int) then
 (if 0 <= t19 ∧ t19 <= t18 then
 let t20 : List Int := cutL p13.1 t19.toNat t18.toNat;
 some (t20, p13.1, t18, p13.2.2.1, p13.2.2.2)
 else
 none)
 else
 none))))
theorem Z117_eq b1 b2 b3 b4 : Z117 b1 b2 b3 b4 = Z117_b @Z116 b1 b2 b3 b4 := (B0 ..).trans (by kernel_rfl)
noncomputable def Z118l5 (s6 : Int × (List Int)) : Option ((Int × (List Int)) ⊕ ((List Int))) :=
 (if (decide (s6.1 > 0)) = true then
 let t9 : Int := s6.1.tmod 128;
 let t10 := u8.wrap t9;
 let t11 := u8.wrap (t10 + 128);
 (if (([t11] : List Int).length + s6.2.length) * 1 <= 140737488355328 then
 let t12 : List Int := ([t11] : List Int) ++ s6.2;
 let t13 := i64.wrap (s6.1.tdiv 128);
 some (Sum.inl (t13, t12))
 else
 none)
 else
 some (Sum.inr s6.2))
noncomputable def Z118_b (loop : type_of% @loop) (Z118l5 : type_of% @Z118l5) (n1 : Int) : Option (Int × (List Int)) :=
 ((if (decide (n1 < 0)) = true then
 some true
 else
 some (decide (n1 > 2147483647))) : Option (Bool)).bind (fun v2 =>
 (if v2 = true then
 some (2, [])
 else
 let t3 : Int := n1.tmod 128;
 let t4 := u8.wrap t3;
 let t5 := i64.wrap (n1.tdiv 128);
 (loop (Z118l5) (t5, [t4])).bind (fun out14 =>
 some (0, out14))))
theorem Z118_eq n1 : Z118 n1 = Z118_b @loop @Z118l5 n1 := (B0 ..).trans (by kernel_rfl)
noncomputable def Z119l3_b (Z151 : type_of% @Z151) (Z119 : type_of% @Z119) (slices_Concat_byte_byte : type_of% @slices_Concat_byte_byte) (l1 : List Outline) (s3 : (List Int) × Int) : Option (((List Int) × Int) ⊕ ((List Int))) :=
 (if (decide (s3.2 < ((l1.length : Nat) : Int))) = true then
 (if 0 <= s3.2 then
 (l1[s3.2.toNat]?).bind fun e6 =>
 (Z151 ((e6.title.length : Nat) : Int)).bind fun q7 =>
 (Z151 e6.page).bind fun q8 =>
 (Z119 e6.kids).bind fun q9 =>
 (slices_Concat_byte_byte [s3.1, q7, e6.title, q8, q9]).bind fun q10 =>
 let t11 := i64.wrap (s3.2 + 1);
 some (Sum.inl (q10, t11))
 else
 none)
 else
 some (Sum.inr s3.1))
noncomputable def Z119l3 := Z119l3_b @Z151 @Z119 @slices_Concat_byte_byte
noncomputable def Z119_b (Z151 : type_of% @Z151) (loop : type_of% @loop) (Z119l3 : type_of% @Z119l3) (l1 : List Outline) : Option (List Int) :=
 (Z151 ((l1.length : Nat) : Int)).bind fun q2 =>
 (loop (Z119l3 l1) (q2, 0)).bind (fun out15 =>
 some out15)
theorem Z119_eq l1 : Z119 l1 = Z119_b @Z151 @loop @Z119l3 l1 := (B0 ..).trans (by kernel_rfl)
noncomputable def Z120_b (Z114 : type_of% @Z114) (text1 : List Int) : Option ((List Int) × Int) :=
 (if (decide (((text1.length : Nat) : Int) > 4000)) = true then
 some ([], 4)
 else
 (Z114 text1).bind fun q2 =>
 some (q2, 0))
theorem Z120_eq text1 : Z120 text1 = Z120_b @Z114 text1 := (B0 ..).trans (by kernel_rfl)
noncomputable def Z121_b (Z103 : type_of% @Z103) (Z104 : type_of% @Z104) (m1 : Int) (m2 : List Int) : Option ((Int × Int × Int × (List Int) × (List Int)) ⊕ (Unit)) :=
 (Z103 m1 m2).bind fun q3 =>
 (if (!q3) = true then
 some (Sum.inr ())
 else
 (Z104 m1 m2).bind fun q4 =>
 some (Sum.inl (q4.1, q4.2.1, q4.2.2.1, q4.2.2.2, [])))
theorem Z121_eq m1 m2 : Z121 m1 m2 = Z121_b @Z103 @Z104 m1 m2 := (B0 ..).trans (by kernel_rfl)
noncomputable def Z122l7_b (Z153 : type_of% @Z153) (Z112 : type_of% @Z112) (l1 : List Int) (s4 : Int × (List Int) × (List Int)) : Option ((Int × (List Int) × (List Int)) ⊕ ((List Int) × (List Int))) :=
 (if (decide (s4.1 < ((l1.length : Nat) : Int))) = true then
 (if 0 <= s4.1 ∧ s4.1 < (l1.length : Int) then
 (Z153 s4.2.1 (rd l1 s4.1)).bind fun q8 =>
 (Z112 q8 s4.2.1).bind fun q9 =>
 (if (s4.2.2.length + ([q8] : List Int).length) * 8 <= 140737488355328 then
 let t12 : List Int := s4.2.2 ++ [q8];
 let t13 := i64.wrap (s4.1 + 1);
 some (Sum.inl (t13, q9.2, t12))
 else
 none)
 else
 none)
 else
 some (Sum.inr (s4.2.1, s4.2.2)))
noncomputable def Z122l7 := Z122l7_b @Z153 @Z112
noncomputable def Z122_b (Z110 : type_of% @Z110) (Z111 : type_of% @Z111) (loop : type_of% @loop) (Z122l7 : type_of% @Z122l7) (l1 : List Int) : Option ((List Int) × Int) :=
 (Z110 l1).bind fun q2 =>
 (if (!decide (q2 = 0)) = true then
 some ([], q2)
 else
 (Z111).bind fun q3 =>
 (loop (Z122l7 l1) (0, q3, [])).bind (fun p19 =>
 some (p19.2, 0)))
theorem Z122_eq l1 : Z122 l1 = Z122_b @Z110 @Z111 @loop @Z122l7 l1 := (B0 ..).trans (by kernel_rfl)
noncomputable def Z123_b (Z154 : type_of% @Z154) (Z155 : type_of% @Z155) (Z156 : type_of% @Z156) (Z108 : type_of% @Z108) (Z157 : type_of% @Z157) (Z158 : type_of% @Z158) (base1 : Int) (n2 : Bool) (n3 b4 b5 b6 : Int) (b7 b8 : List Int) : Option (Int × Int × Int × Int × (List Int) × (List Int)) :=
 (Z154 (-1) 0 b4 b5 b6 b7 b8).bind fun q9 =>
 (if (decide (q9.1 = 7)) = true then
 some (7, q9.2.1, q9.2.2.1, q9.2.2.2.1, q9.2.2.2.2.1, q9.2.2.2.2.2)
 else
 (Z155 n2 n3).bind fun q16 =>
 (if (!q16) = true then
 some (2, q9.2.1, q9.2.2.1, q9.2.2.2.1, q9.2.2.2.2.1, q9.2.2.2.2.2)
 else
 (Z156 q9.2.1 q9.2.2.1 q9.2.2.2.1 q9.2.2.2.2.1 q9.2.2.2.2.2).bind fun q17 =>
 (Z108 q17.1 q17.2.1 base1 48).bind fun q25 =>
 (if (!decide (q25 = 0)) = true then
 some (q25, q17.2.2.1, q17.2.2.2.1, q17.2.2.2.2.1, q17.2.2.2.2.2.1, q17.2.2.2.2.2.2)
 else
 (Z157 base1 n2 n3).bind fun q26 =>
 (Z158 q26 q17.2.2.1 q17.2.2.2.1 q17.2.2.2.2.1 q17.2.2.2.2.2.1 q17.2.2.2.2.2.2).bind fun q27 =>
 some (q27.1, q27.2.1, q27.2.2.1, q27.2.2.2.1, q27.2.2.2.2.1, q27.2.2.2.2.2))))
theorem Z123_eq base1 n2 n3 b4 b5 b6 b7 b8 : Z123 base1 n2 n3 b4 b5 b6 b7 b8 = Z123_b @Z154 @Z155 @Z156 @Z108 @Z157 @Z158 base1 n2 n3 b4 b5 b6 b7 b8 := (B0 ..).trans (by kernel_rfl)
noncomputable def Z124l10 (tr10 v15 : Int) (s22 : Int × (List Int)) : Option ((Int × (List Int)) ⊕ ((List Int))) :=
 (if (decide (s22.1 < v15)) = true then
 let t25 := i64.wrap (8 * s22.1);
 let t26 := i64.wrap (24 - t25);
 (if t26 < 0 then
 none
 else
 let t27 := ishr .u64 tr10 t26;
 let t28 := u8.wrap t27;
 (if (s22.2.length + ([t28] : List Int).length) * 1 <= 140737488355328 then
 let t29 : List Int := s22.2 ++ [t28];
 let t30 := i64.wrap (s22.1 + 1);
 some (Sum.inl (t30, t29))
 else
 none))
 else
 some (Sum.inr s22.2))
noncomputable def Z124l5_b (loop : type_of% @loop) (Z124l10 : type_of% @Z124l10) (tr9 tr10 : Int) (s14 : Int × (List Int)) : Option ((Int × (List Int)) ⊕ (((List Int)) ⊕ ((List Int)))) :=
 (if (decide (s14.1 < 5)) = true then
 let t17 := i64.wrap (8 * s14.1);
 let t18 := i64.wrap (32 - t17);
 let t19 := u64.wrap t18;
 (if t19 < 0 then
 none
 else
 let t20 := ishr .u64 tr10 t19;
 (if t19 < 0 then
 none
 else
 let t21 := ishl .u64 t20 t19;
 (if (decide (t21 ≥ tr9)) = true then
 (loop (Z124l10 tr10 s14.1) (0, s14.2)).bind (fun out34 =>
 some (Sum.inr (Sum.inr out34)))
 else
 let t35 := i64.wrap (s14.1 + 1);
 some (Sum.inl (t35, s14.2)))))
 else
 some (Sum.inr (Sum.inl s14.2)))
noncomputable def Z124l5 := Z124l5_b @loop @Z124l10
noncomputable def Z124_b (Z159 : type_of% @Z159) (loop : type_of% @loop) (Z124l5 : type_of% @Z124l5) (b1 b2 b3 : Int) (b4 b5 : List Int) : Option ((List Int) × Int × Int × Int × (List Int) × (List Int)) :=
 (Z159 b1 b2 b3 b4 b5).bind fun q6 =>
 let tr12 := q6.2.2.2.2.2;
 (if q6.1 = true then
 some ([], q6.2.1, q6.2.2.1, q6.2.2.2.1, q6.2.2.2.2.1, tr12)
 else
 (if (([] : List Int).length + tr12.length) * 1 <= 140737488355328 then
 let t13 : List Int := ([] : List Int) ++ tr12;
 (loop (Z124l5 q6.2.2.1 q6.2.2.2.1) (0, t13)).bind (fun o41 =>
 (Sum.elim (fun (out39 : (List Int)) =>
 some (out39, q6.2.1, q6.2.2.1, q6.2.2.2.1, q6.2.2.2.2.1, tr12))
 (fun (b40 : (List Int)) =>
 some (b40, q6.2.1, q6.2.2.1, q6.2.2.2.1, q6.2.2.2.2.1, tr12)) o41))
 else
 none))
theorem Z124_eq b1 b2 b3 b4 b5 : Z124 b1 b2 b3 b4 b5 = Z124_b @Z159 @loop @Z124l5 b1 b2 b3 b4 b5 := (B0 ..).trans (by kernel_rfl)
noncomputable def Z125l2_b (Z138 : type_of% @Z138) (Z139 : type_of% @Z139) (Z125 : type_of% @Z125) (l1 : List Chunk) (depth2 : Int) (s4 : Int × Int) : Option ((Int × Int) ⊕ ((Int) ⊕ (Bool × Int))) :=
 (if (decide (s4.1 < ((l1.length : Nat) : Int))) = true then
 (if 0 <= s4.1 then
 (l1[s4.1.toNat]?).bind fun e7 =>
 let t8 := i64.wrap (s4.2 + 1);
 ((if (decide (t8 > 400)) = true then
 some true
 else
 (if (decide (depth2 > 8)) = true then
 some true
 else
 (Z138 e7.id).bind fun q9 =>
 some (!q9))) : Option (Bool)).bind (fun v10 =>
 (if v10 = true then
 some (Sum.inr (Sum.inr (false, t8)))
 else
 (if (decide (e7.id = [70, 79, 82, 77])) = true then
 (Z139 e7.kind).bind fun q11 =>
 (if (!q11) = true then
 some (Sum.inr (Sum.inr (false, t8)))
 else
 (if (decide (((e7.data.length : Nat) : Int) > 0)) = true then
 some (Sum.inr (Sum.inr (false, t8)))
 else
 let t12 := i64.wrap (depth2 + 1);
 (Z125 e7.kids t12 t8).bind fun q13 =>
 (if (!q13.1) = true then
 some (Sum.inr (Sum.inr (false, q13.2)))
 else
 let t16 := i64.wrap (s4.1 + 1);
 some (Sum.inl (t16, q13.2)))))
 else
 (if (!decide (e7.kind = [])) = true then
 some (Sum.inr (Sum.inr (false, t8)))
 else
 (if (decide (((e7.kids.length : Nat) : Int) > 0)) = true then
 some (Sum.inr (Sum.inr (false, t8)))
 else
 let t17 := i64.wrap (s4.1 + 1);
 some (Sum.inl (t17, t8)))))))
 else
 none)
 else
 some (Sum.inr (Sum.inl s4.2)))
noncomputable def Z125l2 := Z125l2_b @Z138 @Z139 @Z125
noncomputable def Z125l2_step (depth2 : Int) (i18 : Nat) (x19 : Chunk) (s20 : Int) : Option ((Int) ⊕ ((Int) ⊕ (Bool × Int))) :=
 let t8 := i64.wrap (s20 + 1);
 ((if (decide (t8 > 400)) = true then
 some true
 else
 (if (decide (depth2 > 8)) = true then
 some true
 else
 (Z138 x19.id).bind fun q9 =>
 some (!q9))) : Option (Bool)).bind (fun v10 =>
 (if v10 = true then
 some (Sum.inr (Sum.inr (false, t8)))
 else
 (if (decide (x19.id = [70, 79, 82, 77])) = true then
 (Z139 x19.kind).bind fun q11 =>
 (if (!q11) = true then
 some (Sum.inr (Sum.inr (false, t8)))
 else
 (if (decide (((x19.data.length : Nat) : Int) > 0)) = true then
 some (Sum.inr (Sum.inr (false, t8)))
 else
 let t12 := i64.wrap (depth2 + 1);
 (Z125 x19.kids t12 t8).bind fun q13 =>
 (if (!q13.1) = true then
 some (Sum.inr (Sum.inr (false, q13.2)))
 else
 some (Sum.inl (q13.2)))))
 else
 (if (!decide (x19.kind = [])) = true then
 some (Sum.inr (Sum.inr (false, t8)))
 else
 (if (decide (((x19.kids.length : Nat) : Int) > 0)) = true then
 some (Sum.inr (Sum.inr (false, t8)))
 else
 some (Sum.inl (t8)))))))
theorem Z125l2_over (l1 : List Chunk) (depth2 : Int) (hl : l1.length <= 9223372036854775807) (s20 : Int) : loop (Z125l2 l1 depth2) ((0, s20) : Int × Int) =
    overL (Z125l2_step depth2) (fun (s20 : Int) => some (Sum.inl s20)) 0 l1 s20 := by
  refine B22 l1 (fun n (s : Int) => ((((n : Nat) : Int), s) : Int × Int)) _ _ (fun s => ?_) (fun i x s h => ?_) 0 s20 (A24 _)
  . unfold Z125l2 Z125l2_b; simp
  . have hlt := B7 h
    have h1 : ((i : Nat) : Int) < ((l1.length : Nat) : Int) := by omega
    have h0 : (0 : Int) <= ((i : Nat) : Int) := by omega
    have hw : i64.wrap (((i : Nat) : Int) + 1) = (((i + 1 : Nat) : Nat) : Int) := w64 (by omega)
    unfold Z125l2 Z125l2_b Z125l2_step
    simp only [h1, h0, hw, h, A7, A5, A22, A13, A12, A1, A49, Function.comp_def, B42, B29, A31, A47]
noncomputable def Z125_b (loop : type_of% @loop) (Z125l2 : type_of% @Z125l2) (l1 : List Chunk) (depth2 b3 : Int) : Option (Bool × Int) :=
 (loop (Z125l2 l1 depth2) (0, b3)).bind (fun o25 =>
 (Sum.elim (fun (b21 : Int) =>
 some (true, b21))
 (fun (p22 : Bool × Int) =>
 some (p22.1, p22.2)) o25))
theorem Z125_eq l1 depth2 b3 : Z125 l1 depth2 b3 = Z125_b @loop @Z125l2 l1 depth2 b3 := (B0 ..).trans (by kernel_rfl)
noncomputable def Z126l5_b (Z85 : type_of% @Z85) (c4 : List Chunk) (s5 : Int × Int) : Option ((Int × Int) ⊕ (Int)) :=
 (if (decide (s5.2 < ((c4.length : Nat) : Int))) = true then
 (if 0 <= s5.2 then
 (c4[s5.2.toNat]?).bind fun e8 =>
 (Z85 e8.id e8.kind e8.data e8.kids).bind fun q9 =>
 let t10 := i64.wrap (s5.1 + q9);
 let t11 := i64.wrap (s5.2 + 1);
 some (Sum.inl (t10, t11))
 else
 none)
 else
 some (Sum.inr s5.1))
noncomputable def Z126l5 := Z126l5_b @Z85
noncomputable def Z126l5_step (i12 : Nat) (x13 : Chunk) (s14 : Int) : Option ((Int) ⊕ (Int)) :=
 (Z85 x13.id x13.kind x13.data x13.kids).bind fun q9 =>
 let t10 := i64.wrap (s14 + q9);
 some (Sum.inl (t10))
theorem Z126l5_over (c4 : List Chunk) (hl : c4.length <= 9223372036854775807) (s14 : Int) : loop (Z126l5 c4) ((s14, 0) : Int × Int) =
    overL (Z126l5_step) (fun (s14 : Int) => some s14) 0 c4 s14 := by
  refine B22 c4 (fun n (s : Int) => ((s, ((n : Nat) : Int)) : Int × Int)) _ _ (fun s => ?_) (fun i x s h => ?_) 0 s14 (A24 _)
  . unfold Z126l5 Z126l5_b; simp
  . have hlt := B7 h
    have h1 : ((i : Nat) : Int) < ((c4.length : Nat) : Int) := by omega
    have h0 : (0 : Int) <= ((i : Nat) : Int) := by omega
    have hw : i64.wrap (((i : Nat) : Int) + 1) = (((i + 1 : Nat) : Nat) : Int) := w64 (by omega)
    unfold Z126l5 Z126l5_b Z126l5_step
    simp only [h1, h0, hw, h, A7, A5, A22, A13, A12, A1, A49, Function.comp_def, B42, B29, A31, A47]
noncomputable def Z126_b (loop : type_of% @loop) (Z126l5 : type_of% @Z126l5) (c1 c2 c3 : List Int) (c4 : List Chunk) : Option Int :=
 (if (!decide (c1 = [70, 79, 82, 77])) = true then
 some ((c3.length : Nat) : Int)
 else
 (loop (Z126l5 c4) (4, 0)).bind (fun n15 =>
 some n15))
theorem Z126_eq c1 c2 c3 c4 : Z126 c1 c2 c3 c4 = Z126_b @loop @Z126l5 c1 c2 c3 c4 := (B0 ..).trans (by kernel_rfl)
noncomputable def Z127l5 (s6 : Int × (List Int)) : Option ((Int × (List Int)) ⊕ ((List Int))) :=
 (if (decide (s6.1 > 0)) = true then
 let t9 : Int := s6.1.tmod 128;
 let t10 := i64.wrap (128 + t9);
 let t11 := u8.wrap t10;
 (if (([t11] : List Int).length + s6.2.length) * 1 <= 140737488355328 then
 let t12 : List Int := ([t11] : List Int) ++ s6.2;
 let t13 := i64.wrap (s6.1.tdiv 128);
 some (Sum.inl (t13, t12))
 else
 none)
 else
 some (Sum.inr s6.2))
theorem Z127_eq (n1 : Int) : Z127 n1 =
 ((if (decide (n1 < 0)) = true then
 some true
 else
 some (decide (n1 > 2147483647))) : Option (Bool)).bind (fun v2 =>
 (if v2 = true then
 some (2, [])
 else
 let t3 : Int := n1.tmod 128;
 let t4 := u8.wrap t3;
 let t5 := i64.wrap (n1.tdiv 128);
 (loop (Z127l5) (t5, [t4])).bind (fun out14 =>
 some (0, out14)))) := (B0 ..).trans (by kernel_rfl)
noncomputable def Z128l3 (l1 : List Outline) (s5 : Int × (List Int)) : Option ((Int × (List Int)) ⊕ ((List Int))) :=
 let i6 := s5.1;
 (if (decide (i6 < ((l1.length : Nat) : Int))) = true then
 (if 0 <= i6 then
 (l1[i6.toNat]?).bind fun e8 =>
 (Z127 ((e8.title.length : Nat) : Int)).bind fun q9 =>
 (if 0 <= i6 then
 (l1[i6.toNat]?).bind fun e12 =>
 (Z127 e12.page).bind fun q13 =>
 (if (s5.2.length + q9.2.length) * 1 <= 140737488355328 then
 let t16 : List Int := s5.2 ++ q9.2;
 (if 0 <= i6 then
 (l1[i6.toNat]?).bind fun e17 =>
 (if (t16.length + e17.title.length) * 1 <= 140737488355328 then
 let t18 : List Int := t16 ++ e17.title;
 (if (t18.length + q13.2.length) * 1 <= 140737488355328 then
 let t19 : List Int := t18 ++ q13.2;
 (if 0 <= i6 then
 (l1[i6.toNat]?).bind fun e20 =>
 (Z128 e20.kids).bind fun q21 =>
 (if (t19.length + q21.length) * 1 <= 140737488355328 then
 let t22 : List Int := t19 ++ q21;
 let t23 := i64.wrap (i6 + 1);
 some (Sum.inl (t23, t22))
 else
 none)
 else
 none)
 else
 none)
 else
 none)
 else
 none)
 else
 none)
 else
 none)
 else
 none)
 else
 some (Sum.inr s5.2))
theorem Z128_eq (l1 : List Outline) : Z128 l1 =
 (Z127 ((l1.length : Nat) : Int)).bind fun q2 =>
 (loop (Z128l3 l1) (0, q2.2)).bind (fun out27 =>
 some out27) := (B0 ..).trans (by kernel_rfl)
noncomputable def Z129l6 (text1 tr3 : List Int) (s5 : Int × (List Int)) : Option ((Int × (List Int)) ⊕ ((List Int))) :=
 let i6 := s5.1;
 (if (decide (i6 < ((tr3.length : Nat) : Int))) = true then
 (if 0 <= i6 ∧ i6 < (tr3.length : Int) then
 (if (decide (rd tr3 i6 = 0)) = true then
 (if (s5.2.length + ([0] : List Int).length) * 8 <= 140737488355328 then
 let t8 : List Int := s5.2 ++ [0];
 let t9 := i64.wrap (i6 + 1);
 some (Sum.inl (t9, t8))
 else
 none)
 else
 (if 0 <= i6 ∧ i6 < (tr3.length : Int) then
 let t10 := i64.wrap (rd tr3 i6 - 1);
 (if 0 <= t10 ∧ t10 < (text1.length : Int) then
 let t11 := i64.wrap (rd text1 t10);
 let t12 := i64.wrap (1 + t11);
 (if (s5.2.length + ([t12] : List Int).length) * 8 <= 140737488355328 then
 let t13 : List Int := s5.2 ++ [t12];
 let t14 := i64.wrap (i6 + 1);
 some (Sum.inl (t14, t13))
 else
 none)
 else
 none)
 else
 none))
 else
 none)
 else
 some (Sum.inr s5.2))
theorem Z129_eq (text1 : List Int) : Z129 text1 =
 (Z160 text1).bind fun q2 =>
 (if (!decide (q2.2 = 0)) = true then
 some ([], q2.2)
 else
 (loop (Z129l6 text1 q2.1) (0, [])).bind (fun out18 =>
 some (out18, 0))) := (B0 ..).trans (by kernel_rfl)
noncomputable def Z130l10 (l1 list5 : List Int) (i6 at8 : Int) : Option ((Int) ⊕ (Int)) :=
 (if 0 <= at8 ∧ at8 < (list5.length : Int) then
 (if 0 <= i6 ∧ i6 < (l1.length : Int) then
 (if (!decide (rd list5 at8 = rd l1 i6)) = true then
 let t9 := i64.wrap (at8 + 1);
 some (Sum.inl t9)
 else
 some (Sum.inr at8))
 else
 none)
 else
 none)
noncomputable def Z130l7 (l1 : List Int) (s4 : (List Int) × Int × (List Int)) : Option (((List Int) × Int × (List Int)) ⊕ ((List Int))) :=
 (if (decide (s4.2.1 < ((l1.length : Nat) : Int))) = true then
 (loop (Z130l10 l1 s4.1 s4.2.1) 0).bind (fun at10 =>
 (if (s4.2.2.length + ([at10] : List Int).length) * 8 <= 140737488355328 then
 let t11 : List Int := s4.2.2 ++ [at10];
 (Z163 s4.1 at10).bind fun q12 =>
 let t13 := i64.wrap (s4.2.1 + 1);
 some (Sum.inl (q12, t13, t11))
 else
 none))
 else
 some (Sum.inr s4.2.2))
theorem Z130_eq (l1 : List Int) : Z130 l1 =
 (Z161 l1).bind fun q2 =>
 (if (!decide (q2 = 0)) = true then
 some ([], q2)
 else
 (Z162).bind fun q3 =>
 (loop (Z130l7 l1) (q3, 0, [])).bind (fun out19 =>
 some (out19, 0))) := (B0 ..).trans (by kernel_rfl)
theorem Z131_eq (kind1 n2 : Int) : Z131 kind1 n2 =
 ((if (!decide (kind1 = 0)) = true then
 (if (!decide (kind1 = 1)) = true then
 some true
 else
 (if (decide (n2 < 0)) = true then
 some true
 else
 some (decide (n2 > 8192))))
 else
 (if (decide (n2 < 0)) = true then
 some true
 else
 some (decide (n2 > 8192)))) : Option (Bool)).bind (fun v3 =>
 (if v3 = true then
 some (0, 2, [])
 else
 (if 0 <= n2 ∧ n2 <= n2 ∧ ((8 : Nat) : Int) * n2 <= 281474976710656 then
 let t4 : List Int := List.replicate n2.toNat 0;
 some (kind1, 0, t4)
 else
 none))) := (B0 ..).trans (by kernel_rfl)
theorem Z132_eq (m1 : Int) (m2 : List Int) : Z132 m1 m2 =
 (Z164 m1 m2).bind fun q3 =>
 (if (!q3) = true then
 some (Sum.inr ())
 else
 (Z165 m1 m2).bind fun q4 =>
 (Z166).bind fun q7 =>
 some (Sum.inl (q4.1, q7.1, q7.2, q4.2, []))) := (B0 ..).trans (by kernel_rfl)
theorem Z133_eq (was1 : Int) : Z133 was1 =
 (if (decide (was1 = 0)) = true then
 some 0
 else
 (if (decide (was1 < 16)) = true then
 some 48
 else
 some 96)) := (B0 ..).trans (by kernel_rfl)
noncomputable def Z134l5 (base1 : Int) (q26 : (List Event)) (s27 : Int × Int × Int × Int × (List Int) × (List Int)) : Option ((Int × Int × Int × Int × (List Int) × (List Int)) ⊕ (Int × Int × Int × (List Int) × (List Int))) :=
 (if (decide (s27.1 < ((q26.length : Nat) : Int))) = true then
 (if 0 <= s27.1 then
 (q26[s27.1.toNat]?).bind fun e34 =>
 let t35 := i64.wrap (base1 + e34.ctx);
 (if 0 <= s27.1 then
 (q26[s27.1.toNat]?).bind fun e36 =>
 (Z171 t35 e36.bit s27.2.1 s27.2.2.1 s27.2.2.2.1 s27.2.2.2.2.1 s27.2.2.2.2.2).bind fun q37 =>
 let t44 := i64.wrap (s27.1 + 1);
 some (Sum.inl (t44, q37.2.1, q37.2.2.1, q37.2.2.2.1, q37.2.2.2.2.1, q37.2.2.2.2.2))
 else
 none)
 else
 none)
 else
 some (Sum.inr (s27.2.1, s27.2.2.1, s27.2.2.2.1, s27.2.2.2.2.1, s27.2.2.2.2.2)))
theorem Z134_eq (base1 : Int) (n2 : Bool) (n3 b4 b5 b6 : Int) (b7 b8 : List Int) : Z134 base1 n2 n3 b4 b5 b6 b7 b8 =
 ((Z167 n2 n3).bind fun q9 =>
 (if (!q9) = true then
 some (true, b4, b5, b6, b7, b8)
 else
 (Z168 b4 b5 b6 b7 b8).bind fun q10 =>
 (Z169 ((q10.2.1.length : Nat) : Int) base1 48).bind fun q18 =>
 some (!q18, q10.2.2.1, q10.2.2.2.1, q10.2.2.2.2.1, q10.2.2.2.2.2.1, q10.2.2.2.2.2.2)) : Option (Bool × Int × Int × Int × (List Int) × (List Int))).bind (fun p19 =>
 (if p19.1 = true then
 some (2, p19.2.1, p19.2.2.1, p19.2.2.2.1, p19.2.2.2.2.1, p19.2.2.2.2.2)
 else
 (Z170 n2 n3).bind fun q26 =>
 (loop (Z134l5 base1 q26) (0, p19.2.1, p19.2.2.1, p19.2.2.2.1, p19.2.2.2.2.1, p19.2.2.2.2.2)).bind (fun p45 =>
 some (0, p45.1, p45.2.1, p45.2.2.1, p45.2.2.2.1, p45.2.2.2.2)))) := (B0 ..).trans (by kernel_rfl)
theorem Z135_eq (b1 b2 b3 : Int) (b4 b5 : List Int) : Z135 b1 b2 b3 b4 b5 =
 (if (([] : List Int).length + b5.length) * 1 <= 140737488355328 then
 let t6 : List Int := ([] : List Int) ++ b5;
 (Z172 b2 b3).bind fun q7 =>
 (if (t6.length + q7.length) * 1 <= 140737488355328 then
 let t8 : List Int := t6 ++ q7;
 some (t8, b1, b2, b3, b4, b5)
 else
 none)
 else
 none) := (B0 ..).trans (by kernel_rfl)
noncomputable def Z136l8 (c4 : List Chunk) (v9 : Int) : Option ((Int) ⊕ ((Unit) ⊕ (Bool))) :=
 (if (decide (v9 < ((c4.length : Nat) : Int))) = true then
 (if 0 <= v9 then
 (c4[v9.toNat]?).bind fun e10 =>
 (Z136 e10.id e10.kind e10.data e10.kids).bind fun q11 =>
 (if (!q11) = true then
 some (Sum.inr (Sum.inr false))
 else
 let t12 := i64.wrap (v9 + 1);
 some (Sum.inl t12))
 else
 none)
 else
 some (Sum.inr (Sum.inl ())))
noncomputable def Z136l8_step (i13 : Nat) (x14 : Chunk) (s15 : Unit) : Option ((Unit) ⊕ ((Unit) ⊕ (Bool))) :=
 (Z136 x14.id x14.kind x14.data x14.kids).bind fun q11 =>
 (if (!q11) = true then
 some (Sum.inr (Sum.inr false))
 else
 some (Sum.inl (())))
theorem Z136l8_over (c4 : List Chunk) (hl : c4.length <= 9223372036854775807) (s15 : Unit) : loop (Z136l8 c4) (0 : Int) =
    overL (Z136l8_step) (fun (s15 : Unit) => some (Sum.inl ())) 0 c4 s15 := by
  refine B22 c4 (fun n (s : Unit) => (((n : Nat) : Int) : Int)) _ _ (fun s => ?_) (fun i x s h => ?_) 0 s15 (A24 _)
  . unfold Z136l8; simp
  . have hlt := B7 h
    have h1 : ((i : Nat) : Int) < ((c4.length : Nat) : Int) := by omega
    have h0 : (0 : Int) <= ((i : Nat) : Int) := by omega
    have hw : i64.wrap (((i : Nat) : Int) + 1) = (((i + 1 : Nat) : Nat) : Int) := w64 (by omega)
    unfold Z136l8 Z136l8_step
    simp only [h1, h0, hw, h, A7, A5, A22, A13, A12, A1, A49, Function.comp_def, B42, B29, A31, A47]
theorem Z136_eq (c1 c2 c3 : List Int) (c4 : List Chunk) : Z136 c1 c2 c3 c4 =
 (Z93 c1).bind fun q5 =>
 (if (!q5) = true then
 some false
 else
 (if (!decide (c1 = [70, 79, 82, 77])) = true then
 ((if (decide (c2 = [])) = true then
 some (decide (((c4.length : Nat) : Int) = 0))
 else
 some false) : Option (Bool)).bind (fun v6 =>
 some v6)
 else
 ((Z93 c2).bind fun q7 =>
 (if (!q7) = true then
 some true
 else
 (if (decide (c2 = [70, 79, 82, 77])) = true then
 some true
 else
 some (decide (((c3.length : Nat) : Int) > 0)))) : Option (Bool)).bind (fun v8 =>
 (if v8 = true then
 some false
 else
 (loop (Z136l8 c4) 0).bind (fun o18 =>
 (Sum.elim (fun (p16 : Unit) =>
 some true)
 (fun (v17 : Bool) =>
 some v17) o18)))))) := (B0 ..).trans (by kernel_rfl)
noncomputable def Z137l2 (l1 : List Chunk) (s2 : Int × Int × Int) : Option ((Int × Int × Int) ⊕ (Int × Int)) :=
 (if (decide (s2.2.2 < ((l1.length : Nat) : Int))) = true then
 (if 0 <= s2.2.2 then
 (l1[s2.2.2.toNat]?).bind fun e6 =>
 (Z137 e6.kids).bind fun q7 =>
 let t10 := i64.wrap (q7.1 + 1);
 let t11 := i64.wrap (s2.1 + t10);
 let t12 := i64.wrap (q7.2 + 1);
 let t13 := imax s2.2.1 t12;
 let t14 := i64.wrap (s2.2.2 + 1);
 some (Sum.inl (t11, t13, t14))
 else
 none)
 else
 some (Sum.inr (s2.1, s2.2.1)))
noncomputable def Z137l2_step (i15 : Nat) (x16 : Chunk) (s17 : Int × Int) : Option ((Int × Int) ⊕ (Int × Int)) :=
 (Z137 x16.kids).bind fun q7 =>
 let t10 := i64.wrap (q7.1 + 1);
 let t11 := i64.wrap (s17.1 + t10);
 let t12 := i64.wrap (q7.2 + 1);
 let t13 := imax s17.2 t12;
 some (Sum.inl ((t11, t13)))
theorem Z137l2_over (l1 : List Chunk) (hl : l1.length <= 9223372036854775807) (s17 : Int × Int) : loop (Z137l2 l1) ((s17.1, s17.2, 0) : Int × Int × Int) =
    overL (Z137l2_step) (fun (s17 : Int × Int) => let all18 := s17.1; let deep19 := s17.2; some (all18, deep19)) 0 l1 s17 := by
  refine B22 l1 (fun n (s : Int × Int) => ((s.1, s.2, ((n : Nat) : Int)) : Int × Int × Int)) _ _ (fun s => ?_) (fun i x s h => ?_) 0 s17 (A24 _)
  . unfold Z137l2; simp
  . have hlt := B7 h
    have h1 : ((i : Nat) : Int) < ((l1.length : Nat) : Int) := by omega
    have h0 : (0 : Int) <= ((i : Nat) : Int) := by omega
    have hw : i64.wrap (((i : Nat) : Int) + 1) = (((i + 1 : Nat) : Nat) : Int) := w64 (by omega)
    unfold Z137l2 Z137l2_step
    simp only [h1, h0, hw, h, A7, A5, A22, A13, A12, A1, A49, Function.comp_def, B42, B29, A31, A47]
theorem Z137_eq (l1 : List Chunk) : Z137 l1 =
 (loop (Z137l2 l1) (0, 0, 0)).bind (fun p20 =>
 some (p20.1, p20.2)) := (B0 ..).trans (by kernel_rfl)
noncomputable def Z138l4 (s1 : List Int) (v2 : Int) : Option ((Int) ⊕ ((Unit) ⊕ (Bool))) :=
 (if (decide (v2 < 4)) = true then
 (if 0 <= v2 ∧ v2 < ((s1).length : Int) then
 let t3 : Int := rd s1 v2;
 (if (decide (t3 < 65)) = true then
 (if (decide (t3 < 48)) = true then
 some (Sum.inr (Sum.inr false))
 else
 (if (decide (t3 > 57)) = true then
 some (Sum.inr (Sum.inr false))
 else
 let t4 := i64.wrap (v2 + 1);
 some (Sum.inl t4)))
 else
 (if (decide (t3 > 90)) = true then
 (if (decide (t3 < 48)) = true then
 some (Sum.inr (Sum.inr false))
 else
 (if (decide (t3 > 57)) = true then
 some (Sum.inr (Sum.inr false))
 else
 let t5 := i64.wrap (v2 + 1);
 some (Sum.inl t5)))
 else
 let t6 := i64.wrap (v2 + 1);
 some (Sum.inl t6)))
 else
 none)
 else
 some (Sum.inr (Sum.inl ())))
noncomputable def Z138_b (loop : type_of% @loop) (Z138l4 : type_of% @Z138l4) (s1 : List Int) : Option Bool :=
 (if (!decide (((s1.length : Nat) : Int) = 4)) = true then
 some false
 else
 (loop (Z138l4 s1) 0).bind (fun o12 =>
 (Sum.elim (fun (p10 : Unit) =>
 some true)
 (fun (v11 : Bool) =>
 some v11) o12)))
theorem Z138_eq s1 : Z138 s1 = Z138_b @loop @Z138l4 s1 := (B0 ..).trans (by kernel_rfl)
noncomputable def Z139_b (Z138 : type_of% @Z138) (s1 : List Int) : Option Bool :=
 (Z138 s1).bind fun q2 =>
 (if q2 = true then
 some (!decide (s1 = [70, 79, 82, 77]))
 else
 some false)
theorem Z139_eq s1 : Z139 s1 = Z139_b @Z138 s1 := (B0 ..).trans (by kernel_rfl)
noncomputable def Z140_b (m1 : Int) (m2 : List Int) : Option (Int × (List Int)) :=
 (if (([] : List Int).length + m2.length) * 8 <= 140737488355328 then
 let t3 : List Int := ([] : List Int) ++ m2;
 some (m1, t3)
 else
 none)
theorem Z140_eq m1 m2 : Z140 m1 m2 = Z140_b m1 m2 := (B0 ..).trans (by kernel_rfl)
noncomputable def Z141_b : Option Unit :=
 some ()
theorem Z141_eq : Z141 = Z141_b := (B0 ..).trans (by kernel_rfl)
noncomputable def Z142_b (b1 b2 b3 : Int) (b4 : List Int) (b5 b6 b7 : Int) (b8 : Bool) (b9 : List Int) : Option (Bool × Int × Int × Int × (List Int) × Int × Int × Int × Bool × (List Int)) :=
 some (false, b1, b2, b3, b4, b5, b6, b7, b8, b9)
theorem Z142_eq b1 b2 b3 b4 b5 b6 b7 b8 b9 : Z142 b1 b2 b3 b4 b5 b6 b7 b8 b9 = Z142_b b1 b2 b3 b4 b5 b6 b7 b8 b9 := (B0 ..).trans (by kernel_rfl)
noncomputable def Z143_b (Z173 : type_of% @Z173) (ctx1 b2 b3 b4 : Int) (b5 : List Int) (b6 b7 b8 : Int) (b9 : Bool) (b10 : List Int) : Option (Int × Int × Int × Int × (List Int) × Int × Int × Int × Bool × (List Int)) :=
 let t11 := u64.wrap (b4 - b3);
 (if 0 <= ctx1 ∧ ctx1 < (b10.length : Int) then
 let t12 : Int := rd b10 ctx1;
 (Z173 b2 t12).bind fun q13 =>
 let t14 := u64.wrap q13;
 let t15 := u64.wrap (t11.tdiv 4096);
 let t16 := u64.wrap (t15 * t14);
 let t17 := u64.wrap (b3 + t16);
 let t18 : Int := t11.tmod 4096;
 let t19 := u64.wrap (t18 * t14);
 let t20 := u64.wrap (t19.tdiv 4096);
 let t21 := u64.wrap (t17 + t20);
 some (t21, b2, b3, b4, b5, b6, b7, b8, b9, b10)
 else
 none)
theorem Z143_eq ctx1 b2 b3 b4 b5 b6 b7 b8 b9 b10 : Z143 ctx1 b2 b3 b4 b5 b6 b7 b8 b9 b10 = Z143_b @Z173 ctx1 b2 b3 b4 b5 b6 b7 b8 b9 b10 := (B0 ..).trans (by kernel_rfl)
noncomputable def Z144_b (Z174 : type_of% @Z174) (ctx1 bit2 mid3 b4 b5 b6 : Int) (b7 : List Int) (b8 b9 b10 : Int) (b11 : Bool) (b12 : List Int) : Option (Int × Int × Int × (List Int) × Int × Int × Int × Bool × (List Int)) :=
 ((if (decide (bit2 = 1)) = true then
 some (b4, b5, mid3, b7, b8, b9, b10, b11, b12)
 else
 let t13 := u64.wrap (mid3 + 1);
 some (b4, t13, b6, b7, b8, b9, b10, b11, b12)) : Option (Int × Int × Int × (List Int) × Int × Int × Int × Bool × (List Int))).bind (fun p14 =>
 let b23 := p14.2.2.2.2.2.2.2.2;
 (if 0 <= ctx1 ∧ ctx1 < (b23.length : Int) then
 let t24 : Int := rd b23 ctx1;
 (Z174 p14.1 t24 bit2).bind fun q25 =>
 (if 0 <= ctx1 ∧ ctx1 < (b23.length : Int) then
 let w26 : List Int := b23.set ctx1.toNat q25;
 some (p14.1, p14.2.1, p14.2.2.1, p14.2.2.2.1, p14.2.2.2.2.1, p14.2.2.2.2.2.1, p14.2.2.2.2.2.2.1, p14.2.2.2.2.2.2.2.1, w26)
 else
 none)
 else
 none))
theorem Z144_eq ctx1 bit2 mid3 b4 b5 b6 b7 b8 b9 b10 b11 b12 : Z144 ctx1 bit2 mid3 b4 b5 b6 b7 b8 b9 b10 b11 b12 = Z144_b @Z174 ctx1 bit2 mid3 b4 b5 b6 b7 b8 b9 b10 b11 b12 := (B0 ..).trans (by kernel_rfl)
noncomputable def Z145_b (b1 b2 b3 : Int) (b4 : List Int) (b5 b6 b7 : Int) (b8 : Bool) (b9 : List Int) : Option (Bool × Int × Int × Int × (List Int) × Int × Int × Int × Bool × (List Int)) :=
 let t10 := ishr .u64 b2 24;
 let t11 := ishr .u64 b3 24;
 some (decide (t10 = t11), b1, b2, b3, b4, b5, b6, b7, b8, b9)
theorem Z145_eq b1 b2 b3 b4 b5 b6 b7 b8 b9 : Z145 b1 b2 b3 b4 b5 b6 b7 b8 b9 = Z145_b b1 b2 b3 b4 b5 b6 b7 b8 b9 := (B0 ..).trans (by kernel_rfl)
noncomputable def Z146_b (b1 b2 b3 : Int) (b4 : List Int) (b5 b6 b7 : Int) (b8 : Bool) (b9 : List Int) : Option (Int × Int × Int × Int × (List Int) × Int × Int × Int × Bool × (List Int)) :=
 let t10 := ishr .u64 b2 24;
 let t11 := u8.wrap t10;
 let t12 := ishl .u64 b2 8;
 let t13 := iand .u64 t12 4294967295;
 let t14 := ishl .u64 b3 8;
 let t15 := iand .u64 t14 4294967295;
 let t16 := ior .u64 t15 255;
 some (t11, b1, t13, t16, b4, b5, b6, b7, b8, b9)
theorem Z146_eq b1 b2 b3 b4 b5 b6 b7 b8 b9 : Z146 b1 b2 b3 b4 b5 b6 b7 b8 b9 = Z146_b b1 b2 b3 b4 b5 b6 b7 b8 b9 := (B0 ..).trans (by kernel_rfl)
noncomputable def Z147_b (b1 b2 b3 : Int) (b4 : List Int) (b5 b6 b7 : Int) (b8 : Bool) (b9 : List Int) : Option (Int × Int × Int × (List Int) × Int × Int × Int × Bool × (List Int)) :=
 ((if (decide (b5 < ((b4.length : Nat) : Int))) = true then
 (if 0 <= b5 ∧ b5 < (b4.length : Int) then
 some (rd b4 b5, b1, b2, b3, b4, b5, b6, b7, b8, b9)
 else
 none)
 else
 let t10 := i64.wrap (b7 + 1);
 some (0, b1, b2, b3, b4, b5, b6, t10, b8, b9)) : Option (Int × Int × Int × Int × (List Int) × Int × Int × Int × Bool × (List Int))).bind (fun p11 =>
 let t22 := i64.wrap (p11.2.2.2.2.2.1 + 1);
 let t23 := ishl .u64 p11.2.2.2.2.2.2.1 8;
 let t24 := iand .u64 t23 4294967295;
 let t25 := u64.wrap p11.1;
 let t26 := ior .u64 t24 t25;
 some (p11.2.1, p11.2.2.1, p11.2.2.2.1, p11.2.2.2.2.1, t22, t26, p11.2.2.2.2.2.2.2.1, p11.2.2.2.2.2.2.2.2.1, p11.2.2.2.2.2.2.2.2.2))
theorem Z147_eq b1 b2 b3 b4 b5 b6 b7 b8 b9 : Z147 b1 b2 b3 b4 b5 b6 b7 b8 b9 = Z147_b b1 b2 b3 b4 b5 b6 b7 b8 b9 := (B0 ..).trans (by kernel_rfl)
noncomputable def Z148_b (b1 : Int) : Option (Int × Int) :=
 let t2 := i64.wrap (b1 + 1);
 let t3 := imin t2 47;
 some (b1, t3)
theorem Z148_eq b1 : Z148 b1 = Z148_b b1 := (B0 ..).trans (by kernel_rfl)
noncomputable def Z149_b (Z175 : type_of% @Z175) (s1 : List Int) : Option Bool :=
 (Z175 s1).bind fun q2 =>
 some (decide (q2 ≥ 0))
theorem Z149_eq s1 : Z149 s1 = Z149_b @Z175 s1 := (B0 ..).trans (by kernel_rfl)
noncomputable def Z150l3 (t3 : List Int) (s4 : Int × (List Int)) : Option ((Int × (List Int)) ⊕ ((List Int))) :=
 (if (decide (s4.1 < ((t3.length : Nat) : Int))) = true then
 (if 0 <= s4.1 ∧ s4.1 < (s4.2.length : Int) then
 let w7 : List Int := s4.2.set s4.1.toNat s4.1;
 let t8 := i64.wrap (s4.1 + 1);
 some (Sum.inl (t8, w7))
 else
 none)
 else
 some (Sum.inr s4.2))
noncomputable def Z150_b (loop : type_of% @loop) (Z150l3 : type_of% @Z150l3) (Z176 : type_of% @Z176) (text1 : List Int) : Option (List Int) :=
 let t2 := i64.wrap (((text1.length : Nat) : Int) + 1);
 (if 0 <= t2 ∧ t2 <= t2 ∧ ((8 : Nat) : Int) * t2 <= 281474976710656 then
 let t3 : List Int := List.replicate t2.toNat 0;
 (loop (Z150l3 t3) (0, t3)).bind (fun b12 =>
 (Z176 b12 text1).bind fun q13 =>
 some q13.1)
 else
 none)
theorem Z150_eq text1 : Z150 text1 = Z150_b @loop @Z150l3 @Z176 text1 := (B0 ..).trans (by kernel_rfl)
noncomputable def Z151_b (Z118 : type_of% @Z118) (n1 : Int) : Option (List Int) :=
 (Z118 n1).bind fun q2 =>
 some q2.2
theorem Z151_eq n1 : Z151 n1 = Z151_b @Z118 n1 := (B0 ..).trans (by kernel_rfl)
noncomputable def slices_Concat_byte_byte_loop3 (slices1 : List (List Int)) (s2 : Int × Int) : Option ((Int × Int) ⊕ (Int)) :=
 (if (decide (s2.2 < ((slices1.length : Nat) : Int))) = true then
 (if 0 <= s2.2 then
 (slices1[s2.2.toNat]?).bind fun e5 =>
 let t6 := i64.wrap (s2.1 + ((e5.length : Nat) : Int));
 (if (decide (t6 < 0)) = true then
 none
 else
 let t7 := i64.wrap (s2.2 + 1);
 some (Sum.inl (t6, t7)))
 else
 none)
 else
 some (Sum.inr s2.1))
noncomputable def slices_Concat_byte_byte_loop11 (slices1 : List (List Int)) (s13 : Int × (List Int)) : Option ((Int × (List Int)) ⊕ ((List Int))) :=
 (if (decide (s13.1 < ((slices1.length : Nat) : Int))) = true then
 (if 0 <= s13.1 then
 (slices1[s13.1.toNat]?).bind fun e16 =>
 (if (s13.2.length + e16.length) * 1 <= 140737488355328 then
 let t17 : List Int := s13.2 ++ e16;
 let t18 := i64.wrap (s13.1 + 1);
 some (Sum.inl (t18, t17))
 else
 none)
 else
 none)
 else
 some (Sum.inr s13.2))
noncomputable def B63 (loop : type_of% @loop) (slices_Concat_byte_byte_loop3 : type_of% @slices_Concat_byte_byte_loop3) (Z177 : type_of% @Z177) (slices_Concat_byte_byte_loop11 : type_of% @slices_Concat_byte_byte_loop11) (slices1 : List (List Int)) : Option (List Int) :=
 (loop (slices_Concat_byte_byte_loop3 slices1) (0, 0)).bind (fun size11 =>
 (Z177 size11).bind fun q12 =>
 (loop (slices_Concat_byte_byte_loop11 slices1) (0, q12)).bind (fun newslice22 =>
 some newslice22))
theorem B122 slices1 : slices_Concat_byte_byte slices1 = B63 @loop @slices_Concat_byte_byte_loop3 @Z177 @slices_Concat_byte_byte_loop11 slices1 := (B0 ..).trans (by kernel_rfl)
noncomputable def Z153l2 (s1 : List Int) (v2 v3 : Int) : Option ((Int) ⊕ ((Unit) ⊕ (Int))) :=
 (if (decide (v3 < ((s1.length : Nat) : Int))) = true then
 (if 0 <= v3 ∧ v3 < (s1.length : Int) then
 (if (decide (v2 = rd s1 v3)) = true then
 some (Sum.inr (Sum.inr v3))
 else
 let t4 := i64.wrap (v3 + 1);
 some (Sum.inl t4))
 else
 none)
 else
 some (Sum.inr (Sum.inl ())))
noncomputable def Z153l2_step (v2 : Int) (i5 : Nat) (x6 : Int) (s7 : Unit) : Option ((Unit) ⊕ ((Unit) ⊕ (Int))) :=
 (if (decide (v2 = x6)) = true then
 some (Sum.inr (Sum.inr ((i5 : Nat) : Int)))
 else
 some (Sum.inl (())))
theorem Z153l2_over (s1 : List Int) (v2 : Int) (hl : s1.length <= 9223372036854775807) (s7 : Unit) : loop (Z153l2 s1 v2) (0 : Int) =
    overL (Z153l2_step v2) (fun (s7 : Unit) => some (Sum.inl ())) 0 s1 s7 := by
  refine B22 s1 (fun n (s : Unit) => (((n : Nat) : Int) : Int)) _ _ (fun s => ?_) (fun i x s h => ?_) 0 s7 (A24 _)
  . unfold Z153l2; simp
  . have hlt := B7 h
    have h1 : ((i : Nat) : Int) < ((s1.length : Nat) : Int) := by omega
    have h0 : (0 : Int) <= ((i : Nat) : Int) := by omega
    have hw : i64.wrap (((i : Nat) : Int) + 1) = (((i + 1 : Nat) : Nat) : Int) := w64 (by omega)
    have hr : rd s1 ((i : Nat) : Int) = x := B41 h
    unfold Z153l2 Z153l2_step
    simp only [h1, h0, hw, h, hr, A7, A5, A22, A13, A12, A1, A49, Function.comp_def, B42, B29, A31, A47]
noncomputable def Z153_b (loop : type_of% @loop) (Z153l2 : type_of% @Z153l2) (s1 : List Int) (v2 : Int) : Option Int :=
 (loop (Z153l2 s1 v2) 0).bind (fun o10 =>
 (Sum.elim (fun (p8 : Unit) =>
 some (-1))
 (fun (v9 : Int) =>
 some v9) o10))
theorem Z153_eq s1 v2 : Z153 s1 v2 = Z153_b @loop @Z153l2 s1 v2 := (B0 ..).trans (by kernel_rfl)
noncomputable def Z154l6_D (s32 : Int × Int × Int × (List Int) × (List Int)) : Option ((Int × Int × Int × (List Int) × (List Int)) ⊕ (Int × Int × Int × (List Int) × (List Int))) :=
 (Z180 s32.1 s32.2.1 s32.2.2.1 s32.2.2.2.1 s32.2.2.2.2).bind fun q38 =>
 (if q38.1 = true then
 (demon
 ((Z181 q38.2.1 q38.2.2.1 q38.2.2.2.1 q38.2.2.2.2.1 q38.2.2.2.2.2).bind fun q45 =>
 (if (q45.2.2.2.2.2.length + ([q45.1] : List Int).length) * 1 <= 140737488355328 then
 let t52 : List Int := q45.2.2.2.2.2 ++ [q45.1];
 some (Sum.inl (q45.2.1, q45.2.2.1, q45.2.2.2.1, q45.2.2.2.2.1, t52))
 else
 none))
 ((Z181 q38.2.1 q38.2.2.1 q38.2.2.2.1 q38.2.2.2.2.1 q38.2.2.2.2.2).bind fun q53 =>
 (if (q53.2.2.2.2.2.length + ([q53.1] : List Int).length) * 1 <= 140737488355328 then
 let t60 : List Int := q53.2.2.2.2.2 ++ [q53.1];
 some (Sum.inl (q53.2.1, q53.2.2.1, q53.2.2.2.1, q53.2.2.2.2.1, t60))
 else
 none)))
 else
 some (Sum.inr (q38.2.1, q38.2.2.1, q38.2.2.2.1, q38.2.2.2.2.1, q38.2.2.2.2.2)))
noncomputable def Z154l6 (s32 : Int × Int × Int × (List Int) × (List Int)) : Option ((Int × Int × Int × (List Int) × (List Int)) ⊕ (Int × Int × Int × (List Int) × (List Int))) :=
 (Z180 s32.1 s32.2.1 s32.2.2.1 s32.2.2.2.1 s32.2.2.2.2).bind fun q38 =>
 (if q38.1 = true then
 ((Z181 q38.2.1 q38.2.2.1 q38.2.2.2.1 q38.2.2.2.2.1 q38.2.2.2.2.2).bind fun q45 =>
 (if (q45.2.2.2.2.2.length + ([q45.1] : List Int).length) * 1 <= 140737488355328 then
 let t52 : List Int := q45.2.2.2.2.2 ++ [q45.1];
 some (Sum.inl (q45.2.1, q45.2.2.1, q45.2.2.2.1, q45.2.2.2.2.1, t52))
 else
 none))
 else
 some (Sum.inr (q38.2.1, q38.2.2.1, q38.2.2.2.1, q38.2.2.2.2.1, q38.2.2.2.2.2)))
theorem Z154l6_D_eq : Z154l6_D = Z154l6 := by
  funext s32; unfold Z154l6_D Z154l6; simp only [B149]
theorem Z154_eqD (ctx1 bit2 b3 b4 b5 : Int) (b6 b7 : List Int) : Z154 ctx1 bit2 b3 b4 b5 b6 b7 =
 (Z159 b3 b4 b5 b6 b7).bind fun q8 =>
 ((if q8.1 = true then
 some (Sum.inr 7)
 else
 ((if (decide (ctx1 < 0)) = true then
 some true
 else
 (if (decide (ctx1 ≥ ((q8.2.2.2.2.1.length : Nat) : Int))) = true then
 some true
 else
 (if (!decide (bit2 = 0)) = true then
 some (!decide (bit2 = 1))
 else
 some false))) : Option (Bool)).bind (fun v15 =>
 (if v15 = true then
 some (Sum.inr 2)
 else
 some (Sum.inl ())))) : Option ((Unit) ⊕ (Int))).bind (fun o18 =>
 (Sum.elim (fun (p16 : Unit) =>
 (Z178 ctx1 q8.2.1 q8.2.2.1 q8.2.2.2.1 q8.2.2.2.2.1 q8.2.2.2.2.2).bind fun q19 =>
 (Z179 ctx1 bit2 q19.1 q19.2.1 q19.2.2.1 q19.2.2.2.1 q19.2.2.2.2.1 q19.2.2.2.2.2).bind fun q26 =>
 (loop (Z154l6_D) (q26.1, q26.2.1, q26.2.2.1, q26.2.2.2.1, q26.2.2.2.2)).bind (fun p61 =>
 some (0, p61.1, p61.2.1, p61.2.2.1, p61.2.2.2.1, p61.2.2.2.2)))
 (fun (v17 : Int) =>
 some (v17, q8.2.1, q8.2.2.1, q8.2.2.2.1, q8.2.2.2.2.1, q8.2.2.2.2.2)) o18)) := (B0 ..).trans (by kernel_rfl)
theorem Z154_eq (ctx1 bit2 b3 b4 b5 : Int) (b6 b7 : List Int) : Z154 ctx1 bit2 b3 b4 b5 b6 b7 =
 (Z159 b3 b4 b5 b6 b7).bind fun q8 =>
 ((if q8.1 = true then
 some (Sum.inr 7)
 else
 ((if (decide (ctx1 < 0)) = true then
 some true
 else
 (if (decide (ctx1 ≥ ((q8.2.2.2.2.1.length : Nat) : Int))) = true then
 some true
 else
 (if (!decide (bit2 = 0)) = true then
 some (!decide (bit2 = 1))
 else
 some false))) : Option (Bool)).bind (fun v15 =>
 (if v15 = true then
 some (Sum.inr 2)
 else
 some (Sum.inl ())))) : Option ((Unit) ⊕ (Int))).bind (fun o18 =>
 (Sum.elim (fun (p16 : Unit) =>
 (Z178 ctx1 q8.2.1 q8.2.2.1 q8.2.2.2.1 q8.2.2.2.2.1 q8.2.2.2.2.2).bind fun q19 =>
 (Z179 ctx1 bit2 q19.1 q19.2.1 q19.2.2.1 q19.2.2.2.1 q19.2.2.2.2.1 q19.2.2.2.2.2).bind fun q26 =>
 (loop (Z154l6) (q26.1, q26.2.1, q26.2.2.1, q26.2.2.2.1, q26.2.2.2.2)).bind (fun p61 =>
 some (0, p61.1, p61.2.1, p61.2.2.1, p61.2.2.2.1, p61.2.2.2.2)))
 (fun (v17 : Int) =>
 some (v17, q8.2.1, q8.2.2.1, q8.2.2.2.1, q8.2.2.2.2.1, q8.2.2.2.2.2)) o18)) := by rw [Z154_eqD]; simp only [B149, Z154l6_D_eq]
noncomputable def Z155_b (n1 : Bool) (n2 : Int) : Option Bool :=
 (if n1 = true then
 some (decide (n2 = 0))
 else
 (if (decide (n2 ≥ (-1048576))) = true then
 some (decide (n2 <= 1048576))
 else
 some false))
theorem Z155_eq n1 n2 : Z155 n1 n2 = Z155_b n1 n2 := (B0 ..).trans (by kernel_rfl)
noncomputable def Z156_b (Z159 : type_of% @Z159) (Z140 : type_of% @Z140) (b1 b2 b3 : Int) (b4 b5 : List Int) : Option (Int × (List Int) × Int × Int × Int × (List Int) × (List Int)) :=
 (Z159 b1 b2 b3 b4 b5).bind fun q6 =>
 (if q6.1 = true then
 some (0, [], q6.2.1, q6.2.2.1, q6.2.2.2.1, q6.2.2.2.2.1, q6.2.2.2.2.2)
 else
 (Z140 q6.2.1 q6.2.2.2.2.1).bind fun q13 =>
 some (q13.1, q13.2, q6.2.1, q6.2.2.1, q6.2.2.2.1, q6.2.2.2.2.1, q6.2.2.2.2.2))
theorem Z156_eq b1 b2 b3 b4 b5 : Z156 b1 b2 b3 b4 b5 = Z156_b @Z159 @Z140 b1 b2 b3 b4 b5 := (B0 ..).trans (by kernel_rfl)
noncomputable def Z157l7 (base1 t9 : Int) (s10 : Int × (List Event)) : Option ((Int × (List Event)) ⊕ ((List Event))) :=
 (if (decide (s10.1 < t9)) = true then
 let t13 := i64.wrap (base1 + 1);
 let t14 := i64.wrap (t13 + s10.1);
 (if (s10.2.length + ([(Event.mk t14 1)] : List Event).length) * 16 <= 140737488355328 then
 let t15 : List Event := s10.2 ++ [(Event.mk t14 1)];
 let t16 := i64.wrap (s10.1 + 1);
 some (Sum.inl (t16, t15))
 else
 none)
 else
 some (Sum.inr s10.2))
noncomputable def Z157l7_step (base1 : Int) (i17 x18 : Nat) (s19 : (List Event)) : Option (((List Event)) ⊕ ((List Event))) :=
 let t13 := i64.wrap (base1 + 1);
 let t14 := i64.wrap (t13 + ((i17 : Nat) : Int));
 (if (s19.length + ([(Event.mk t14 1)] : List Event).length) * 16 <= 140737488355328 then
 let t15 : List Event := s19 ++ [(Event.mk t14 1)];
 some (Sum.inl (t15))
 else
 none)
theorem Z157l7_over (base1 t9 : Int) (hl : (List.range (t9).toNat).length <= 9223372036854775807) (s19 : (List Event)) : loop (Z157l7 base1 t9) ((0, s19) : Int × (List Event)) =
    overL (Z157l7_step base1) (fun (s19 : (List Event)) => some s19) 0 (List.range (t9).toNat) s19 := by
  refine B22 (List.range (t9).toNat) (fun n (s : (List Event)) => ((((n : Nat) : Int), s) : Int × (List Event))) _ _ (fun s => ?_) (fun i x s h => ?_) 0 s19 (A24 _)
  . have h1 : ¬ (((List.range (t9).toNat).length : Nat) : Int) < t9 := by simp only [A45]; omega
    unfold Z157l7; simp only [h1, A8, A4, A3, A31]
  . have hlt := B7 h
    rw [A45] at hlt hl
    rw [A74 hlt] at h
    cases h
    have h1 : ((i : Nat) : Int) < t9 := by omega
    have h0 : (0 : Int) <= ((i : Nat) : Int) := by omega
    have hw : i64.wrap (((i : Nat) : Int) + 1) = (((i + 1 : Nat) : Nat) : Int) := w64 (by omega)
    unfold Z157l7 Z157l7_step
    simp only [h1, h0, hw, A7, A5, A22, A13, A12, A1, A49, Function.comp_def, B42, B29, A31, A47]
noncomputable def Z157l15_b (Z148 : type_of% @Z148) (base1 t6 t9 : Int) (s26 : Int × (List Event) × Int) : Option ((Int × (List Event) × Int) ⊕ ((List Event) × Int)) :=
 (if (decide (s26.1 ≥ 0)) = true then
 let t30 := i64.wrap (23 + t9);
 let t31 := i64.wrap (t9 - 1);
 ((if (decide (s26.1 < t31)) = true then
 (Z148 s26.2.2).bind fun q32 =>
 some (q32.1, q32.2)
 else
 some (t30, s26.2.2)) : Option (Int × Int)).bind (fun p35 =>
 let t38 := i64.wrap (base1 + p35.1);
 (if s26.1 < 0 then
 none
 else
 let t39 := ishr .i64 t6 s26.1;
 let t40 := iand .i64 t39 1;
 (if (s26.2.1.length + ([(Event.mk t38 t40)] : List Event).length) * 16 <= 140737488355328 then
 let t41 : List Event := s26.2.1 ++ [(Event.mk t38 t40)];
 let t42 := i64.wrap (s26.1 - 1);
 some (Sum.inl (t42, t41, p35.2))
 else
 none)))
 else
 some (Sum.inr (s26.2.1, s26.2.2)))
noncomputable def Z157l15 := Z157l15_b @Z148
noncomputable def Z157_b (Z182 : type_of% @Z182) (loop : type_of% @loop) (Z157l7 : type_of% @Z157l7) (Z157l15 : type_of% @Z157l15) (base1 : Int) (n2 : Bool) (n3 : Int) : Option (List Event) :=
 (if n2 = true then
 some [(Event.mk base1 1)]
 else
 let t4 := i64.wrap (0 - n3);
 let t5 := imax n3 t4;
 let t6 := i64.wrap (t5 + 1);
 let t7 := u64.wrap t6;
 (Z182 t7).bind fun q8 =>
 let t9 := i64.wrap (q8 - 1);
 (loop (Z157l7 base1 t9) (0, [(Event.mk base1 0)])).bind (fun out20 =>
 ((if (decide (t9 < 20)) = true then
 let t21 := i64.wrap (base1 + 1);
 let t22 := i64.wrap (t21 + t9);
 (if (out20.length + ([(Event.mk t22 0)] : List Event).length) * 16 <= 140737488355328 then
 let t23 : List Event := out20 ++ [(Event.mk t22 0)];
 some t23
 else
 none)
 else
 some out20) : Option ((List Event))).bind (fun out24 =>
 let t25 := i64.wrap (t9 - 1);
 (loop (Z157l15 base1 t6 t9) (t25, out24, 44)).bind (fun p43 =>
 (if (!decide (n3 = 0)) = true then
 let t46 := i64.wrap (base1 + 22);
 ((if (decide (n3 < 0)) = true then
 some (t46, 1)
 else
 some (t46, 0)) : Option (Int × Int)).bind (fun p47 =>
 (if (p43.1.length + ([(Event.mk p47.1 p47.2)] : List Event).length) * 16 <= 140737488355328 then
 let t50 : List Event := p43.1 ++ [(Event.mk p47.1 p47.2)];
 some t50
 else
 none))
 else
 some p43.1)))))
theorem Z157_eq base1 n2 n3 : Z157 base1 n2 n3 = Z157_b @Z182 @loop @Z157l7 @Z157l15 base1 n2 n3 := (B0 ..).trans (by kernel_rfl)
noncomputable def Z158l2_b (Z154 : type_of% @Z154) (l1 : List Event) (s7 : Int × Int × Int × Int × (List Int) × (List Int)) : Option ((Int × Int × Int × Int × (List Int) × (List Int)) ⊕ ((Int × Int × Int × (List Int) × (List Int)) ⊕ (Int × Int × Int × Int × (List Int) × (List Int)))) :=
 (if (decide (s7.1 < ((l1.length : Nat) : Int))) = true then
 (if 0 <= s7.1 then
 (l1[s7.1.toNat]?).bind fun e14 =>
 (Z154 e14.ctx e14.bit s7.2.1 s7.2.2.1 s7.2.2.2.1 s7.2.2.2.2.1 s7.2.2.2.2.2).bind fun q15 =>
 (if (!decide (q15.1 = 0)) = true then
 some (Sum.inr (Sum.inr (q15.1, q15.2.1, q15.2.2.1, q15.2.2.2.1, q15.2.2.2.2.1, q15.2.2.2.2.2)))
 else
 let t22 := i64.wrap (s7.1 + 1);
 some (Sum.inl (t22, q15.2.1, q15.2.2.1, q15.2.2.2.1, q15.2.2.2.2.1, q15.2.2.2.2.2)))
 else
 none)
 else
 some (Sum.inr (Sum.inl (s7.2.1, s7.2.2.1, s7.2.2.2.1, s7.2.2.2.2.1, s7.2.2.2.2.2))))
noncomputable def Z158l2 := Z158l2_b @Z154
noncomputable def Z158l2_step (i23 : Nat) (x24 : Event) (s25 : Int × Int × Int × (List Int) × (List Int)) : Option ((Int × Int × Int × (List Int) × (List Int)) ⊕ ((Int × Int × Int × (List Int) × (List Int)) ⊕ (Int × Int × Int × Int × (List Int) × (List Int)))) :=
 (Z154 x24.ctx x24.bit s25.1 s25.2.1 s25.2.2.1 s25.2.2.2.1 s25.2.2.2.2).bind fun q15 =>
 (if (!decide (q15.1 = 0)) = true then
 some (Sum.inr (Sum.inr (q15.1, q15.2.1, q15.2.2.1, q15.2.2.2.1, q15.2.2.2.2.1, q15.2.2.2.2.2)))
 else
 some (Sum.inl ((q15.2.1, q15.2.2.1, q15.2.2.2.1, q15.2.2.2.2.1, q15.2.2.2.2.2))))
theorem Z158l2_over (l1 : List Event) (hl : l1.length <= 9223372036854775807) (s25 : Int × Int × Int × (List Int) × (List Int)) : loop (Z158l2 l1) ((0, s25.1, s25.2.1, s25.2.2.1, s25.2.2.2.1, s25.2.2.2.2) : Int × Int × Int × Int × (List Int) × (List Int)) =
    overL (Z158l2_step) (fun (s25 : Int × Int × Int × (List Int) × (List Int)) => let b26 := s25.1; let b27 := s25.2.1; let b28 := s25.2.2.1; let b29 := s25.2.2.2.1; let b30 := s25.2.2.2.2; some (Sum.inl (b26, b27, b28, b29, b30))) 0 l1 s25 := by
  refine B22 l1 (fun n (s : Int × Int × Int × (List Int) × (List Int)) => ((((n : Nat) : Int), s.1, s.2.1, s.2.2.1, s.2.2.2.1, s.2.2.2.2) : Int × Int × Int × Int × (List Int) × (List Int))) _ _ (fun s => ?_) (fun i x s h => ?_) 0 s25 (A24 _)
  . unfold Z158l2 Z158l2_b; simp
  . have hlt := B7 h
    have h1 : ((i : Nat) : Int) < ((l1.length : Nat) : Int) := by omega
    have h0 : (0 : Int) <= ((i : Nat) : Int) := by omega
    have hw : i64.wrap (((i : Nat) : Int) + 1) = (((i + 1 : Nat) : Nat) : Int) := w64 (by omega)
    unfold Z158l2 Z158l2_b Z158l2_step
    simp only [h1, h0, hw, h, A7, A5, A22, A13, A12, A1, A49, Function.comp_def, B42, B29, A31, A47]
noncomputable def Z158_b (loop : type_of% @loop) (Z158l2 : type_of% @Z158l2) (l1 : List Event) (b2 b3 b4 : Int) (b5 b6 : List Int) : Option (Int × Int × Int × Int × (List Int) × (List Int)) :=
 (loop (Z158l2 l1) (0, b2, b3, b4, b5, b6)).bind (fun o44 =>
 (Sum.elim (fun (p31 : Int × Int × Int × (List Int) × (List Int)) =>
 some (0, p31.1, p31.2.1, p31.2.2.1, p31.2.2.2.1, p31.2.2.2.2))
 (fun (p37 : Int × Int × Int × Int × (List Int) × (List Int)) =>
 some (p37.1, p37.2.1, p37.2.2.1, p37.2.2.2.1, p37.2.2.2.2.1, p37.2.2.2.2.2)) o44))
theorem Z158_eq l1 b2 b3 b4 b5 b6 : Z158 l1 b2 b3 b4 b5 b6 = Z158_b @loop @Z158l2 l1 b2 b3 b4 b5 b6 := (B0 ..).trans (by kernel_rfl)
noncomputable def Z159_b (b1 b2 b3 : Int) (b4 b5 : List Int) : Option (Bool × Int × Int × Int × (List Int) × (List Int)) :=
 some (false, b1, b2, b3, b4, b5)
theorem Z159_eq b1 b2 b3 b4 b5 : Z159 b1 b2 b3 b4 b5 = Z159_b b1 b2 b3 b4 b5 := (B0 ..).trans (by kernel_rfl)
noncomputable def Z160l5 (text1 : List Int) (s2 : Int × (List Int)) : Option ((Int × (List Int)) ⊕ ((List Int))) :=
 (if (decide (s2.1 <= ((text1.length : Nat) : Int))) = true then
 (if (s2.2.length + ([s2.1] : List Int).length) * 8 <= 140737488355328 then
 let t5 : List Int := s2.2 ++ [s2.1];
 let t6 := i64.wrap (s2.1 + 1);
 some (Sum.inl (t6, t5))
 else
 none)
 else
 some (Sum.inr s2.2))
theorem Z160_eq (text1 : List Int) : Z160 text1 =
 (if (decide (((text1.length : Nat) : Int) > 4000)) = true then
 some ([], 4)
 else
 (loop (Z160l5 text1) (0, [])).bind (fun l7 =>
 (Z183 text1 l7).bind fun q8 =>
 some (q8, 0))) := (B0 ..).trans (by kernel_rfl)
noncomputable def Z161l4 (l1 : List Int) (i2 : Int) : Option ((Int) ⊕ ((Unit) ⊕ (Int))) :=
 (if (decide (i2 < ((l1.length : Nat) : Int))) = true then
 (if 0 <= i2 ∧ i2 < (l1.length : Int) then
 (if (decide (rd l1 i2 < 0)) = true then
 some (Sum.inr (Sum.inr 2))
 else
 (if 0 <= i2 ∧ i2 < (l1.length : Int) then
 (if (decide (rd l1 i2 ≥ 257)) = true then
 some (Sum.inr (Sum.inr 2))
 else
 let t3 := i64.wrap (i2 + 1);
 some (Sum.inl t3))
 else
 none))
 else
 none)
 else
 some (Sum.inr (Sum.inl ())))
theorem Z161_eq (l1 : List Int) : Z161 l1 =
 (if (decide (((l1.length : Nat) : Int) > 4001)) = true then
 some 4
 else
 (loop (Z161l4 l1) 0).bind (fun o9 =>
 (Sum.elim (fun (p7 : Unit) =>
 some 0)
 (fun (v8 : Int) =>
 some v8) o9))) := (B0 ..).trans (by kernel_rfl)
noncomputable def Z162l3 (s2 : Int × (List Int)) : Option ((Int × (List Int)) ⊕ ((List Int))) :=
 (if (decide (s2.1 < 257)) = true then
 (if 0 <= s2.1 ∧ s2.1 < (s2.2.length : Int) then
 let w5 : List Int := s2.2.set s2.1.toNat s2.1;
 let t6 := i64.wrap (s2.1 + 1);
 some (Sum.inl (t6, w5))
 else
 none)
 else
 some (Sum.inr s2.2))
theorem Z162_eq : Z162 =
 (if 0 <= (257 : Int) ∧ (257 : Int) <= (257 : Int) ∧ ((8 : Nat) : Int) * (257 : Int) <= 281474976710656 then
 let t1 : List Int := List.replicate (257 : Int).toNat 0;
 (loop (Z162l3) (0, t1)).bind (fun b10 =>
 some b10)
 else
 none) := (B0 ..).trans (by kernel_rfl)
theorem Z163_eq (l1 : List Int) (at2 : Int) : Z163 l1 at2 =
 (if 0 <= at2 ∧ at2 < (l1.length : Int) then
 (if 0 <= at2 ∧ at2 <= ((l1.length : Nat) : Int) then
 let t3 : List Int := cutL l1 0 at2.toNat;
 (if (([rd l1 at2] : List Int).length + t3.length) * 8 <= 140737488355328 then
 let t4 : List Int := ([rd l1 at2] : List Int) ++ t3;
 let t5 := i64.wrap (at2 + 1);
 (if 0 <= t5 ∧ t5 <= ((l1.length : Nat) : Int) then
 let t6 : List Int := cutL l1 t5.toNat l1.length;
 (if (t4.length + t6.length) * 8 <= 140737488355328 then
 let t7 : List Int := t4 ++ t6;
 some t7
 else
 none)
 else
 none)
 else
 none)
 else
 none)
 else
 none) := (B0 ..).trans (by kernel_rfl)
noncomputable def Z164l7 (m2 : List Int) (most3 v5 : Int) : Option ((Int) ⊕ ((Unit) ⊕ (Bool))) :=
 (if (decide (v5 < ((m2.length : Nat) : Int))) = true then
 (if 0 <= v5 ∧ v5 < (m2.length : Int) then
 (if (decide (rd m2 v5 < 0)) = true then
 some (Sum.inr (Sum.inr false))
 else
 (if (decide (rd m2 v5 > most3)) = true then
 some (Sum.inr (Sum.inr false))
 else
 let t6 := i64.wrap (v5 + 1);
 some (Sum.inl t6)))
 else
 none)
 else
 some (Sum.inr (Sum.inl ())))
noncomputable def Z164l7_step (most3 : Int) (i7 : Nat) (x8 : Int) (s9 : Unit) : Option ((Unit) ⊕ ((Unit) ⊕ (Bool))) :=
 (if (decide (x8 < 0)) = true then
 some (Sum.inr (Sum.inr false))
 else
 (if (decide (x8 > most3)) = true then
 some (Sum.inr (Sum.inr false))
 else
 some (Sum.inl (()))))
theorem Z164l7_over (m2 : List Int) (most3 : Int) (hl : m2.length <= 9223372036854775807) (s9 : Unit) : loop (Z164l7 m2 most3) (0 : Int) =
    overL (Z164l7_step most3) (fun (s9 : Unit) => some (Sum.inl ())) 0 m2 s9 := by
  refine B22 m2 (fun n (s : Unit) => (((n : Nat) : Int) : Int)) _ _ (fun s => ?_) (fun i x s h => ?_) 0 s9 (A24 _)
  . unfold Z164l7; simp
  . have hlt := B7 h
    have h1 : ((i : Nat) : Int) < ((m2.length : Nat) : Int) := by omega
    have h0 : (0 : Int) <= ((i : Nat) : Int) := by omega
    have hw : i64.wrap (((i : Nat) : Int) + 1) = (((i + 1 : Nat) : Nat) : Int) := w64 (by omega)
    have hr : rd m2 ((i : Nat) : Int) = x := B41 h
    unfold Z164l7 Z164l7_step
    simp only [h1, h0, hw, h, hr, A7, A5, A22, A13, A12, A1, A49, Function.comp_def, B42, B29, A31, A47]
theorem Z164_eq (m1 : Int) (m2 : List Int) : Z164 m1 m2 =
 ((if (decide (m1 = 1)) = true then
 some 65535
 else
 some 63) : Option (Int)).bind (fun most3 =>
 ((if (!decide (m1 = 0)) = true then
 (if (!decide (m1 = 1)) = true then
 some true
 else
 some (decide (((m2.length : Nat) : Int) > 8192)))
 else
 some (decide (((m2.length : Nat) : Int) > 8192))) : Option (Bool)).bind (fun v4 =>
 (if v4 = true then
 some false
 else
 (loop (Z164l7 m2 most3) 0).bind (fun o12 =>
 (Sum.elim (fun (p10 : Unit) =>
 some true)
 (fun (v11 : Bool) =>
 some v11) o12))))) := (B0 ..).trans (by kernel_rfl)
theorem Z165_eq (m1 : Int) (m2 : List Int) : Z165 m1 m2 =
 (if (([] : List Int).length + m2.length) * 8 <= 140737488355328 then
 let t3 : List Int := ([] : List Int) ++ m2;
 some (m1, t3)
 else
 none) := (B0 ..).trans (by kernel_rfl)
theorem Z166_eq : Z166 =
 some (0, 4294967295) := (B0 ..).trans (by kernel_rfl)
theorem Z167_eq (n1 : Bool) (n2 : Int) : Z167 n1 n2 =
 (if n1 = true then
 some (decide (n2 = 0))
 else
 (if (decide (n2 ≥ (-1048576))) = true then
 some (decide (n2 <= 1048576))
 else
 some false)) := (B0 ..).trans (by kernel_rfl)
theorem Z168_eq (b1 b2 b3 : Int) (b4 b5 : List Int) : Z168 b1 b2 b3 b4 b5 =
 (Z165 b1 b4).bind fun q6 =>
 some (q6.1, q6.2, b1, b2, b3, b4, b5) := (B0 ..).trans (by kernel_rfl)
theorem Z169_eq (states1 base2 n3 : Int) : Z169 states1 base2 n3 =
 (if (decide (base2 ≥ 0)) = true then
 (if (decide (base2 <= states1)) = true then
 let t4 := i64.wrap (states1 - base2);
 some (decide (n3 <= t4))
 else
 some false)
 else
 some false) := (B0 ..).trans (by kernel_rfl)
noncomputable def Z170l9 (s8 : Int × (List Int)) : Option ((Int × (List Int)) ⊕ ((List Int))) :=
 (if (decide (s8.1 > 0)) = true then
 let t11 : Int := s8.1.tmod 2;
 (if (s8.2.length + ([t11] : List Int).length) * 8 <= 140737488355328 then
 let t12 : List Int := s8.2 ++ [t11];
 let t13 := i64.wrap (s8.1.tdiv 2);
 some (Sum.inl (t13, t12))
 else
 none)
 else
 some (Sum.inr s8.2))
noncomputable def Z170l14 (t15 : Int) (s16 : Int × (List Event)) : Option ((Int × (List Event)) ⊕ ((List Event))) :=
 (if (decide (s16.1 < t15)) = true then
 let t19 := i64.wrap (1 + s16.1);
 (if (s16.2.length + ([(Event.mk t19 1)] : List Event).length) * 16 <= 140737488355328 then
 let t20 : List Event := s16.2 ++ [(Event.mk t19 1)];
 let t21 := i64.wrap (s16.1 + 1);
 some (Sum.inl (t21, t20))
 else
 none)
 else
 some (Sum.inr s16.2))
noncomputable def Z170l14_step (i22 x23 : Nat) (s24 : (List Event)) : Option (((List Event)) ⊕ ((List Event))) :=
 let t19 := i64.wrap (1 + ((i22 : Nat) : Int));
 (if (s24.length + ([(Event.mk t19 1)] : List Event).length) * 16 <= 140737488355328 then
 let t20 : List Event := s24 ++ [(Event.mk t19 1)];
 some (Sum.inl (t20))
 else
 none)
theorem Z170l14_over (t15 : Int) (hl : (List.range (t15).toNat).length <= 9223372036854775807) (s24 : (List Event)) : loop (Z170l14 t15) ((0, s24) : Int × (List Event)) =
    overL (Z170l14_step) (fun (s24 : (List Event)) => some s24) 0 (List.range (t15).toNat) s24 := by
  refine B22 (List.range (t15).toNat) (fun n (s : (List Event)) => ((((n : Nat) : Int), s) : Int × (List Event))) _ _ (fun s => ?_) (fun i x s h => ?_) 0 s24 (A24 _)
  . have h1 : ¬ (((List.range (t15).toNat).length : Nat) : Int) < t15 := by simp only [A45]; omega
    unfold Z170l14; simp only [h1, A8, A4, A3, A31]
  . have hlt := B7 h
    rw [A45] at hlt hl
    rw [A74 hlt] at h
    cases h
    have h1 : ((i : Nat) : Int) < t15 := by omega
    have h0 : (0 : Int) <= ((i : Nat) : Int) := by omega
    have hw : i64.wrap (((i : Nat) : Int) + 1) = (((i + 1 : Nat) : Nat) : Int) := w64 (by omega)
    unfold Z170l14 Z170l14_step
    simp only [h1, h0, hw, A7, A5, A22, A13, A12, A1, A49, Function.comp_def, B42, B29, A31, A47]
noncomputable def Z170l20 (digits14 : (List Int)) (t15 : Int) (s29 : Int × (List Event)) : Option ((Int × (List Event)) ⊕ ((List Event))) :=
 (if (decide (s29.1 < t15)) = true then
 let t32 := i64.wrap (43 + s29.1);
 let t33 := imin t32 47;
 ((if (decide (s29.1 = 0)) = true then
 let t34 := i64.wrap (23 + t15);
 some t34
 else
 some t33) : Option (Int)).bind (fun ctx35 =>
 let t36 := i64.wrap (t15 - 1);
 let t37 := i64.wrap (t36 - s29.1);
 (if 0 <= t37 ∧ t37 < (digits14.length : Int) then
 let t38 : Int := rd digits14 t37;
 (if (s29.2.length + ([(Event.mk ctx35 t38)] : List Event).length) * 16 <= 140737488355328 then
 let t39 : List Event := s29.2 ++ [(Event.mk ctx35 t38)];
 let t40 := i64.wrap (s29.1 + 1);
 some (Sum.inl (t40, t39))
 else
 none)
 else
 none))
 else
 some (Sum.inr s29.2))
noncomputable def Z170l20_step (digits14 : (List Int)) (t15 : Int) (i41 x42 : Nat) (s43 : (List Event)) : Option (((List Event)) ⊕ ((List Event))) :=
 let t32 := i64.wrap (43 + ((i41 : Nat) : Int));
 let t33 := imin t32 47;
 ((if (decide (((i41 : Nat) : Int) = 0)) = true then
 let t34 := i64.wrap (23 + t15);
 some t34
 else
 some t33) : Option (Int)).bind (fun ctx35 =>
 let t36 := i64.wrap (t15 - 1);
 let t37 := i64.wrap (t36 - ((i41 : Nat) : Int));
 (if 0 <= t37 ∧ t37 < (digits14.length : Int) then
 let t38 : Int := rd digits14 t37;
 (if (s43.length + ([(Event.mk ctx35 t38)] : List Event).length) * 16 <= 140737488355328 then
 let t39 : List Event := s43 ++ [(Event.mk ctx35 t38)];
 some (Sum.inl (t39))
 else
 none)
 else
 none))
theorem Z170l20_over (digits14 : (List Int)) (t15 : Int) (hl : (List.range (t15).toNat).length <= 9223372036854775807) (s43 : (List Event)) : loop (Z170l20 digits14 t15) ((0, s43) : Int × (List Event)) =
    overL (Z170l20_step digits14 t15) (fun (s43 : (List Event)) => some s43) 0 (List.range (t15).toNat) s43 := by
  refine B22 (List.range (t15).toNat) (fun n (s : (List Event)) => ((((n : Nat) : Int), s) : Int × (List Event))) _ _ (fun s => ?_) (fun i x s h => ?_) 0 s43 (A24 _)
  . have h1 : ¬ (((List.range (t15).toNat).length : Nat) : Int) < t15 := by simp only [A45]; omega
    unfold Z170l20; simp only [h1, A8, A4, A3, A31]
  . have hlt := B7 h
    rw [A45] at hlt hl
    rw [A74 hlt] at h
    cases h
    have h1 : ((i : Nat) : Int) < t15 := by omega
    have h0 : (0 : Int) <= ((i : Nat) : Int) := by omega
    have hw : i64.wrap (((i : Nat) : Int) + 1) = (((i + 1 : Nat) : Nat) : Int) := w64 (by omega)
    unfold Z170l20 Z170l20_step
    simp only [h1, h0, hw, A7, A5, A22, A13, A12, A1, A49, Function.comp_def, B42, B29, A31, A47]
theorem Z170_eq (n1 : Bool) (n2 : Int) : Z170 n1 n2 =
 (if n1 = true then
 some [(Event.mk 0 1)]
 else
 ((if (decide (n2 < 0)) = true then
 let t3 := i64.wrap (0 - n2);
 some (t3, 1)
 else
 some (n2, 0)) : Option (Int × Int)).bind (fun p4 =>
 let t7 := i64.wrap (p4.1 + 1);
 (loop (Z170l9) (t7, [])).bind (fun digits14 =>
 let t15 := i64.wrap (((digits14.length : Nat) : Int) - 1);
 (loop (Z170l14 t15) (0, [(Event.mk 0 0)])).bind (fun out25 =>
 ((if (decide (t15 < 20)) = true then
 let t26 := i64.wrap (1 + t15);
 (if (out25.length + ([(Event.mk t26 0)] : List Event).length) * 16 <= 140737488355328 then
 let t27 : List Event := out25 ++ [(Event.mk t26 0)];
 some t27
 else
 none)
 else
 some out25) : Option ((List Event))).bind (fun out28 =>
 (loop (Z170l20 digits14 t15) (0, out28)).bind (fun out44 =>
 (if (!decide (p4.1 = 0)) = true then
 (if (out44.length + ([(Event.mk 22 p4.2)] : List Event).length) * 16 <= 140737488355328 then
 let t45 : List Event := out44 ++ [(Event.mk 22 p4.2)];
 some t45
 else
 none)
 else
 some out44))))))) := (B0 ..).trans (by kernel_rfl)
end
end Go.Proofs.YtcphcfknnfibmaaGreat.P
