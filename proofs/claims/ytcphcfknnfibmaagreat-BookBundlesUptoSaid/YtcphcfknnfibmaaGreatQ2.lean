import Derived.Test.YtcphcfknnfibmaaGreatG
import Derived.Test.YtcphcfknnfibmaaGreatF5
namespace Go.Proofs.YtcphcfknnfibmaaGreat.P
open Go Go.IntKind Go.Proofs.YtcphcfknnfibmaaGreat.V
set_option linter.unusedVariables false
set_option linter.unusedSimpArgs false
set_option maxRecDepth 100000
noncomputable section
noncomputable def Z138l8 (s17 : Int × Int × Int × (List Int) × (List Int)) : Option ((Int × Int × Int × (List Int) × (List Int)) ⊕ (Int × Int × Int × (List Int) × (List Int))) :=
 let b20 := s17.2.2.1;
 (Z164 s17.2.1 b20).bind fun q23 =>
 (if q23 = true then
 let t24 := ishr .u64 b20 24;
 let t25 := u8.wrap t24;
 (if (s17.2.2.2.2.length + ([t25] : List Int).length) * 1 <= 140737488355328 then
 let t26 : List Int := s17.2.2.2.2 ++ [t25];
 (Z165 s17.2.1 b20).bind fun q27 =>
 some (Sum.inl (s17.1, q27.1, q27.2, s17.2.2.2.1, t26))
 else
 none)
 else
 some (Sum.inr (s17.1, s17.2.1, b20, s17.2.2.2.1, s17.2.2.2.2)))
theorem Z138_eq (ctx1 bit2 b3 b4 b5 : Int) (b6 b7 : List Int) : Z138 ctx1 bit2 b3 b4 b5 b6 b7 =
 ((if (decide (ctx1 < 0)) = true then
 some true
 else
 (if (decide (ctx1 ≥ ((b6.length : Nat) : Int))) = true then
 some true
 else
 (if (!decide (bit2 = 0)) = true then
 some (!decide (bit2 = 1))
 else
 some false))) : Option (Bool)).bind (fun v8 =>
 (if v8 = true then
 some (2, b3, b4, b5, b6, b7)
 else
 (if 0 <= ctx1 ∧ ctx1 < (b6.length : Int) then
 let t9 : Int := rd b6 ctx1;
 (Z161 b3 t9).bind fun q10 =>
 (Z162 b4 b5 q10 bit2).bind fun q11 =>
 (if 0 <= ctx1 ∧ ctx1 < (b6.length : Int) then
 let t14 : Int := rd b6 ctx1;
 (Z163 b3 t14 bit2).bind fun q15 =>
 (if 0 <= ctx1 ∧ ctx1 < (b6.length : Int) then
 let w16 : List Int := b6.set ctx1.toNat q15;
 (loop (Z138l8) (b3, q11.1, q11.2, w16, b7)).bind (fun p30 =>
 some (0, p30.1, p30.2.1, p30.2.2.1, p30.2.2.2.1, p30.2.2.2.2))
 else
 none)
 else
 none)
 else
 none))) := (B0 ..).trans (by kernel_rfl)
noncomputable def Z139l3 (x1 x2 : Int) (s3 : Int × (List Int)) : Option ((Int × (List Int)) ⊕ ((List Int))) :=
 (if (decide (s3.1 < x1)) = true then
 let t6 := i64.wrap (8 * ((s3.2.length : Nat) : Int));
 let t7 := i64.wrap (24 - t6);
 (if t7 < 0 then
 none
 else
 let t8 := ishr .u64 x2 t7;
 let t9 := u8.wrap t8;
 (if (s3.2.length + ([t9] : List Int).length) * 1 <= 140737488355328 then
 let t10 : List Int := s3.2 ++ [t9];
 (if t7 < 0 then
 none
 else
 let t11 := ishr .u64 x2 t7;
 let t12 : Int := t11.tmod 256;
 (if t7 < 0 then
 none
 else
 let t13 := ishl .u64 t12 t7;
 let t14 := u64.wrap (s3.1 + t13);
 some (Sum.inl (t14, t10))))
 else
 none))
 else
 some (Sum.inr s3.2))
theorem Z139_eq (x1 x2 : Int) : Z139 x1 x2 =
 (loop (Z139l3 x1 x2) (0, [])).bind (fun out15 =>
 some out15) := (B0 ..).trans (by kernel_rfl)
noncomputable def Z140l4 (s1 : List Int) (i2 : Int) : Option ((Int) ⊕ ((Unit) ⊕ (Bool))) :=
 (if (decide (i2 < 4)) = true then
 (if 0 <= i2 ∧ i2 < ((s1).length : Int) then
 let t3 : Int := rd s1 i2;
 (if (decide (t3 < 65)) = true then
 (if (decide (t3 < 48)) = true then
 some (Sum.inr (Sum.inr false))
 else
 (if (decide (t3 > 57)) = true then
 some (Sum.inr (Sum.inr false))
 else
 let t4 := i64.wrap (i2 + 1);
 some (Sum.inl t4)))
 else
 (if (decide (t3 > 90)) = true then
 (if (decide (t3 < 48)) = true then
 some (Sum.inr (Sum.inr false))
 else
 (if (decide (t3 > 57)) = true then
 some (Sum.inr (Sum.inr false))
 else
 let t5 := i64.wrap (i2 + 1);
 some (Sum.inl t5)))
 else
 let t6 := i64.wrap (i2 + 1);
 some (Sum.inl t6)))
 else
 none)
 else
 some (Sum.inr (Sum.inl ())))
theorem Z140_eq (s1 : List Int) : Z140 s1 =
 (if (!decide (((s1.length : Nat) : Int) = 4)) = true then
 some false
 else
 (loop (Z140l4 s1) 0).bind (fun o12 =>
 (Sum.elim (fun (p10 : Unit) =>
 some true)
 (fun (v11 : Bool) =>
 some v11) o12))) := (B0 ..).trans (by kernel_rfl)
theorem Z141_eq (b1 b2 b3 b4 b5 b6 : Int) (b7 b8 : List Int) : Z141 b1 b2 b3 b4 b5 b6 b7 b8 =
 ((if (decide (b4 < ((b8.length : Nat) : Int))) = true then
 (if 0 <= b4 ∧ b4 < (b8.length : Int) then
 let t9 : Int := rd b8 b4;
 some (t9, b1, b2, b3, b4, b5, b6, b7, b8)
 else
 none)
 else
 let t10 := i64.wrap (b6 + 1);
 some (0, b1, b2, b3, b4, b5, t10, b7, b8)) : Option (Int × Int × Int × Int × Int × Int × Int × (List Int) × (List Int))).bind (fun p11 =>
 let t21 := i64.wrap (p11.2.2.2.2.1 + 1);
 let t22 := ishl .u64 p11.2.2.2.2.2.1 8;
 let t23 := iand .u64 t22 4294967295;
 let t24 := u64.wrap p11.1;
 let t25 := ior .u64 t23 t24;
 some (p11.2.1, p11.2.2.1, p11.2.2.2.1, t21, t25, p11.2.2.2.2.2.2.1, p11.2.2.2.2.2.2.2.1, p11.2.2.2.2.2.2.2.2)) := (B0 ..).trans (by kernel_rfl)
noncomputable def Z142l12 (s51 : Int × Int × Int × (List Int) × Int × Int × Int × Bool × (List Int)) : Option ((Int × Int × Int × (List Int) × Int × Int × Int × Bool × (List Int)) ⊕ (Int × Int × Int × (List Int) × Int × Int × Int × Bool × (List Int))) :=
 (Z169 s51.1 s51.2.1 s51.2.2.1 s51.2.2.2.1 s51.2.2.2.2.1 s51.2.2.2.2.2.1 s51.2.2.2.2.2.2.1 s51.2.2.2.2.2.2.2.1 s51.2.2.2.2.2.2.2.2).bind fun q61 =>
 (if q61.1 = true then
 (Z170 q61.2.1 q61.2.2.1 q61.2.2.2.1 q61.2.2.2.2.1 q61.2.2.2.2.2.1 q61.2.2.2.2.2.2.1 q61.2.2.2.2.2.2.2.1 q61.2.2.2.2.2.2.2.2.1 q61.2.2.2.2.2.2.2.2.2).bind fun q72 =>
 (Z171 q72.2.1 q72.2.2.1 q72.2.2.2.1 q72.2.2.2.2.1 q72.2.2.2.2.2.1 q72.2.2.2.2.2.2.1 q72.2.2.2.2.2.2.2.1 q72.2.2.2.2.2.2.2.2.1 q72.2.2.2.2.2.2.2.2.2).bind fun q83 =>
 some (Sum.inl (q83.1, q83.2.1, q83.2.2.1, q83.2.2.2.1, q83.2.2.2.2.1, q83.2.2.2.2.2.1, q83.2.2.2.2.2.2.1, q83.2.2.2.2.2.2.2.1, q83.2.2.2.2.2.2.2.2))
 else
 some (Sum.inr (q61.2.1, q61.2.2.1, q61.2.2.2.1, q61.2.2.2.2.1, q61.2.2.2.2.2.1, q61.2.2.2.2.2.2.1, q61.2.2.2.2.2.2.2.1, q61.2.2.2.2.2.2.2.2.1, q61.2.2.2.2.2.2.2.2.2)))
theorem Z142_eq (ctx1 b2 b3 b4 : Int) (b5 : List Int) (b6 b7 b8 : Int) (b9 : Bool) (b10 : List Int) : Z142 ctx1 b2 b3 b4 b5 b6 b7 b8 b9 b10 =
 (Z166 b2 b3 b4 b5 b6 b7 b8 b9 b10).bind fun q11 =>
 let tr20 := q11.2.2.2.2.2.2.2.2.1;
 let tr21 := q11.2.2.2.2.2.2.2.2.2;
 ((if q11.1 = true then
 some (Sum.inr (0, 7))
 else
 ((if (decide (ctx1 < 0)) = true then
 some true
 else
 some (decide (ctx1 ≥ ((tr21.length : Nat) : Int)))) : Option (Bool)).bind (fun v22 =>
 (if v22 = true then
 some (Sum.inr (0, 2))
 else
 (if tr20 = true then
 some (Sum.inr (0, 6))
 else
 some (Sum.inl ()))))) : Option ((Unit) ⊕ (Int × Int))).bind (fun o27 =>
 (Sum.elim (fun (p23 : Unit) =>
 (Z167 ctx1 q11.2.1 q11.2.2.1 q11.2.2.2.1 q11.2.2.2.2.1 q11.2.2.2.2.2.1 q11.2.2.2.2.2.2.1 q11.2.2.2.2.2.2.2.1 tr20 tr21).bind fun q28 =>
 let tr35 := q28.2.2.2.2.2.2.1;
 let tr38 := q28.2.2.2.2.2.2.2.2.2;
 ((if (decide (tr35 <= q28.1)) = true then
 some 1
 else
 some 0) : Option (Int)).bind (fun bit39 =>
 (if 0 <= ctx1 ∧ ctx1 < (tr38.length : Int) then
 let t40 : Int := rd tr38 ctx1;
 (Z168 ctx1 bit39 q28.1 q28.2.1 q28.2.2.1 q28.2.2.2.1 q28.2.2.2.2.1 q28.2.2.2.2.2.1 tr35 q28.2.2.2.2.2.2.2.1 q28.2.2.2.2.2.2.2.2.1 tr38).bind fun q41 =>
 (loop (Z142l12) (q41.1, q41.2.1, q41.2.2.1, q41.2.2.2.1, q41.2.2.2.2.1, q41.2.2.2.2.2.1, q41.2.2.2.2.2.2.1, q41.2.2.2.2.2.2.2.1, q41.2.2.2.2.2.2.2.2)).bind (fun p93 =>
 let b102 := p93.2.2.2.2.2.2.2.2;
 (if (decide (p93.2.2.2.2.2.2.1 > 4)) = true then
 (if 0 <= ctx1 ∧ ctx1 < (b102.length : Int) then
 let w103 : List Int := b102.set ctx1.toNat t40;
 some (0, 6, q28.2.1, q28.2.2.1, q28.2.2.2.1, q28.2.2.2.2.1, q28.2.2.2.2.2.1, tr35, q28.2.2.2.2.2.2.2.1, true, w103)
 else
 none)
 else
 some (bit39, 0, p93.1, p93.2.1, p93.2.2.1, p93.2.2.2.1, p93.2.2.2.2.1, p93.2.2.2.2.2.1, p93.2.2.2.2.2.2.1, p93.2.2.2.2.2.2.2.1, b102)))
 else
 none)))
 (fun (p24 : Int × Int) =>
 some (p24.1, p24.2, q11.2.1, q11.2.2.1, q11.2.2.2.1, q11.2.2.2.2.1, q11.2.2.2.2.2.1, q11.2.2.2.2.2.2.1, q11.2.2.2.2.2.2.2.1, tr20, tr21)) o27)) := (B0 ..).trans (by kernel_rfl)
theorem Z143_eq (b1 b2 b3 : Int) (b4 : List Int) (b5 b6 b7 : Int) (b8 : Bool) (b9 : List Int) : Z143 b1 b2 b3 b4 b5 b6 b7 b8 b9 =
 (Z166 b1 b2 b3 b4 b5 b6 b7 b8 b9).bind fun q10 =>
 let tr20 := q10.2.2.2.2.2.2.2.2.2;
 (if q10.1 = true then
 some (0, [], q10.2.1, q10.2.2.1, q10.2.2.2.1, q10.2.2.2.2.1, q10.2.2.2.2.2.1, q10.2.2.2.2.2.2.1, q10.2.2.2.2.2.2.2.1, q10.2.2.2.2.2.2.2.2.1, tr20)
 else
 (Z151 q10.2.1 tr20).bind fun q21 =>
 some (q21.1, q21.2, q10.2.1, q10.2.2.1, q10.2.2.2.1, q10.2.2.2.2.1, q10.2.2.2.2.2.1, q10.2.2.2.2.2.2.1, q10.2.2.2.2.2.2.2.1, q10.2.2.2.2.2.2.2.2.1, tr20)) := (B0 ..).trans (by kernel_rfl)
noncomputable def Z144l5 (base1 : Int) (s24 : Int × Int × Int × Int × (List Int) × Int × Int × Int × Bool × (List Int) × Bool × Int) : Option ((Int × Int × Int × Int × (List Int) × Int × Int × Int × Bool × (List Int) × Bool × Int) ⊕ ((Int × Int × Int × Int × (List Int) × Int × Int × Int × Bool × (List Int) × Bool × Int) ⊕ (Int × Int × Int × Int × (List Int) × Int × Int × Int × Bool × (List Int) × Bool × Int))) :=
 let b33 := s24.2.2.2.2.2.2.2.2.1;
 let b34 := s24.2.2.2.2.2.2.2.2.2.1;
 let b35 := s24.2.2.2.2.2.2.2.2.2.2.1;
 let b36 := s24.2.2.2.2.2.2.2.2.2.2.2;
 (if (decide (s24.1 < 20)) = true then
 let t37 := i64.wrap (base1 + 1);
 let t38 := i64.wrap (t37 + s24.1);
 (Z142 t38 s24.2.1 s24.2.2.1 s24.2.2.2.1 s24.2.2.2.2.1 s24.2.2.2.2.2.1 s24.2.2.2.2.2.2.1 s24.2.2.2.2.2.2.2.1 b33 b34).bind fun q39 =>
 let tr45 := q39.2.2.2.2.2.1;
 let tr46 := q39.2.2.2.2.2.2.1;
 let tr47 := q39.2.2.2.2.2.2.2.1;
 let tr48 := q39.2.2.2.2.2.2.2.2.1;
 let tr49 := q39.2.2.2.2.2.2.2.2.2.1;
 let tr50 := q39.2.2.2.2.2.2.2.2.2.2;
 (if (!decide (q39.2.1 = 0)) = true then
 some (Sum.inr (Sum.inr (q39.2.1, q39.2.2.1, q39.2.2.2.1, q39.2.2.2.2.1, tr45, tr46, tr47, tr48, tr49, tr50, false, 0)))
 else
 (if (decide (q39.1 = 0)) = true then
 some (Sum.inr (Sum.inl (s24.1, q39.2.2.1, q39.2.2.2.1, q39.2.2.2.2.1, tr45, tr46, tr47, tr48, tr49, tr50, b35, b36)))
 else
 let t51 := i64.wrap (s24.1 + 1);
 some (Sum.inl (t51, q39.2.2.1, q39.2.2.2.1, q39.2.2.2.2.1, tr45, tr46, tr47, tr48, tr49, tr50, b35, b36))))
 else
 some (Sum.inr (Sum.inl (s24.1, s24.2.1, s24.2.2.1, s24.2.2.2.1, s24.2.2.2.2.1, s24.2.2.2.2.2.1, s24.2.2.2.2.2.2.1, s24.2.2.2.2.2.2.2.1, b33, b34, b35, b36))))
noncomputable def Z144l14 (base1 c53 : Int) (s79 : Int × Int × Int × Int × Int × (List Int) × Int × Int × Int × Bool × (List Int) × Bool × Int × Int) : Option ((Int × Int × Int × Int × Int × (List Int) × Int × Int × Int × Bool × (List Int) × Bool × Int × Int) ⊕ ((Int × Int × Int × Int × (List Int) × Int × Int × Int × Bool × (List Int) × Bool × Int × Int) ⊕ (Int × Int × Int × Int × (List Int) × Int × Int × Int × Bool × (List Int) × Bool × Int × Int))) :=
 let b88 := s79.2.2.2.2.2.2.2.2.1;
 let b89 := s79.2.2.2.2.2.2.2.2.2.1;
 let b90 := s79.2.2.2.2.2.2.2.2.2.2.1;
 let b91 := s79.2.2.2.2.2.2.2.2.2.2.2.1;
 let b92 := s79.2.2.2.2.2.2.2.2.2.2.2.2.1;
 let b93 := s79.2.2.2.2.2.2.2.2.2.2.2.2.2;
 (if (decide (s79.2.1 < c53)) = true then
 let t94 := i64.wrap (23 + c53);
 ((if (decide (s79.2.1 > 0)) = true then
 (Z159 b93).bind fun q95 =>
 some (q95.1, q95.2)
 else
 some (t94, b93)) : Option (Int × Int)).bind (fun p98 =>
 let t101 := i64.wrap (base1 + p98.1);
 (Z142 t101 s79.2.2.1 s79.2.2.2.1 s79.2.2.2.2.1 s79.2.2.2.2.2.1 s79.2.2.2.2.2.2.1 s79.2.2.2.2.2.2.2.1 b88 b89 b90).bind fun q102 =>
 (if (!decide (q102.2.1 = 0)) = true then
 some (Sum.inr (Sum.inr (q102.2.1, q102.2.2.1, q102.2.2.2.1, q102.2.2.2.2.1, q102.2.2.2.2.2.1, q102.2.2.2.2.2.2.1, q102.2.2.2.2.2.2.2.1, q102.2.2.2.2.2.2.2.2.1, q102.2.2.2.2.2.2.2.2.2.1, q102.2.2.2.2.2.2.2.2.2.2, false, 0, p98.2)))
 else
 let t114 := i64.wrap (2 * s79.1);
 let t115 := i64.wrap (t114 + q102.1);
 let t116 := i64.wrap (s79.2.1 + 1);
 some (Sum.inl (t115, t116, q102.2.2.1, q102.2.2.2.1, q102.2.2.2.2.1, q102.2.2.2.2.2.1, q102.2.2.2.2.2.2.1, q102.2.2.2.2.2.2.2.1, q102.2.2.2.2.2.2.2.2.1, q102.2.2.2.2.2.2.2.2.2.1, q102.2.2.2.2.2.2.2.2.2.2, b91, b92, p98.2))))
 else
 some (Sum.inr (Sum.inl (s79.1, s79.2.2.1, s79.2.2.2.1, s79.2.2.2.2.1, s79.2.2.2.2.2.1, s79.2.2.2.2.2.2.1, s79.2.2.2.2.2.2.2.1, b88, b89, b90, b91, b92, b93))))
theorem Z144_eq (base1 b2 b3 b4 : Int) (b5 : List Int) (b6 b7 b8 : Int) (b9 : Bool) (b10 : List Int) : Z144 base1 b2 b3 b4 b5 b6 b7 b8 b9 b10 =
 (Z142 base1 b2 b3 b4 b5 b6 b7 b8 b9 b10).bind fun q11 =>
 let tr21 := q11.2.2.2.2.2.2.2.2.2.1;
 let tr22 := q11.2.2.2.2.2.2.2.2.2.2;
 ((if (!decide (q11.2.1 = 0)) = true then
 some true
 else
 some (decide (q11.1 = 1))) : Option (Bool)).bind (fun v23 =>
 (if v23 = true then
 some (decide (q11.2.1 = 0), 0, q11.2.1, q11.2.2.1, q11.2.2.2.1, q11.2.2.2.2.1, q11.2.2.2.2.2.1, q11.2.2.2.2.2.2.1, q11.2.2.2.2.2.2.2.1, q11.2.2.2.2.2.2.2.2.1, tr21, tr22)
 else
 (loop (Z144l5 base1) (0, q11.2.2.1, q11.2.2.2.1, q11.2.2.2.2.1, q11.2.2.2.2.2.1, q11.2.2.2.2.2.2.1, q11.2.2.2.2.2.2.2.1, q11.2.2.2.2.2.2.2.2.1, tr21, tr22, false, 0)).bind (fun o78 =>
 (Sum.elim (fun (p52 : Int × Int × Int × Int × (List Int) × Int × Int × Int × Bool × (List Int) × Bool × Int) =>
 (loop (Z144l14 base1 p52.1) (1, 0, p52.2.1, p52.2.2.1, p52.2.2.2.1, p52.2.2.2.2.1, p52.2.2.2.2.2.1, p52.2.2.2.2.2.2.1, p52.2.2.2.2.2.2.2.1, p52.2.2.2.2.2.2.2.2.1, p52.2.2.2.2.2.2.2.2.2.1, p52.2.2.2.2.2.2.2.2.2.2.1, p52.2.2.2.2.2.2.2.2.2.2.2, 44)).bind (fun o161 =>
 (Sum.elim (fun (p133 : Int × Int × Int × Int × (List Int) × Int × Int × Int × Bool × (List Int) × Bool × Int × Int) =>
 let b138 := p133.2.2.2.2.1;
 let b139 := p133.2.2.2.2.2.1;
 let b140 := p133.2.2.2.2.2.2.1;
 let b141 := p133.2.2.2.2.2.2.2.1;
 let b142 := p133.2.2.2.2.2.2.2.2.1;
 let b143 := p133.2.2.2.2.2.2.2.2.2.1;
 (if (decide (p133.1 > 1048577)) = true then
 some (false, 0, 3, p133.2.1, p133.2.2.1, p133.2.2.2.1, b138, b139, b140, b141, b142, b143)
 else
 (if (decide (p133.1 = 1)) = true then
 some (false, 0, 0, p133.2.1, p133.2.2.1, p133.2.2.2.1, b138, b139, b140, b141, b142, b143)
 else
 let t162 := i64.wrap (base1 + 22);
 (Z142 t162 p133.2.1 p133.2.2.1 p133.2.2.2.1 b138 b139 b140 b141 b142 b143).bind fun q163 =>
 (if (!decide (q163.2.1 = 0)) = true then
 some (false, 0, q163.2.1, q163.2.2.1, q163.2.2.2.1, q163.2.2.2.2.1, q163.2.2.2.2.2.1, q163.2.2.2.2.2.2.1, q163.2.2.2.2.2.2.2.1, q163.2.2.2.2.2.2.2.2.1, q163.2.2.2.2.2.2.2.2.2.1, q163.2.2.2.2.2.2.2.2.2.2)
 else
 let t175 := i64.wrap (p133.1 - 1);
 let t176 := i64.wrap (2 * q163.1);
 let t177 := i64.wrap (1 - t176);
 let t178 := i64.wrap (t175 * t177);
 some (false, t178, 0, q163.2.2.1, q163.2.2.2.1, q163.2.2.2.2.1, q163.2.2.2.2.2.1, q163.2.2.2.2.2.2.1, q163.2.2.2.2.2.2.2.1, q163.2.2.2.2.2.2.2.2.1, q163.2.2.2.2.2.2.2.2.2.1, q163.2.2.2.2.2.2.2.2.2.2)))))
 (fun (p147 : Int × Int × Int × Int × (List Int) × Int × Int × Int × Bool × (List Int) × Bool × Int × Int) =>
 some (p147.2.2.2.2.2.2.2.2.2.2.1, p147.2.2.2.2.2.2.2.2.2.2.2.1, p147.1, p147.2.1, p147.2.2.1, p147.2.2.2.1, p147.2.2.2.2.1, p147.2.2.2.2.2.1, p147.2.2.2.2.2.2.1, p147.2.2.2.2.2.2.2.1, p147.2.2.2.2.2.2.2.2.1, p147.2.2.2.2.2.2.2.2.2.1)) o161)))
 (fun (p65 : Int × Int × Int × Int × (List Int) × Int × Int × Int × Bool × (List Int) × Bool × Int) =>
 some (p65.2.2.2.2.2.2.2.2.2.2.1, p65.2.2.2.2.2.2.2.2.2.2.2, p65.1, p65.2.1, p65.2.2.1, p65.2.2.2.1, p65.2.2.2.2.1, p65.2.2.2.2.2.1, p65.2.2.2.2.2.2.1, p65.2.2.2.2.2.2.2.1, p65.2.2.2.2.2.2.2.2.1, p65.2.2.2.2.2.2.2.2.2.1)) o78)))) := (B0 ..).trans (by kernel_rfl)
theorem Z145_eq (b1 : List Int) : Z145 b1 =
 some b1 := (B0 ..).trans (by kernel_rfl)
noncomputable def Z146l4 (s1 s2 : List Int) (v3 : Int) : Option ((Int) ⊕ ((Unit) ⊕ (Bool))) :=
 (if (decide (v3 < ((s1.length : Nat) : Int))) = true then
 (if 0 <= v3 ∧ v3 < (s1.length : Int) then
 (if 0 <= v3 ∧ v3 < (s2.length : Int) then
 (if (!decide (rd s1 v3 = rd s2 v3)) = true then
 some (Sum.inr (Sum.inr false))
 else
 let t4 := i64.wrap (v3 + 1);
 some (Sum.inl t4))
 else
 none)
 else
 none)
 else
 some (Sum.inr (Sum.inl ())))
theorem Z146_eq (s1 s2 : List Int) : Z146 s1 s2 =
 (if (!decide (((s1.length : Nat) : Int) = ((s2.length : Nat) : Int))) = true then
 some false
 else
 (loop (Z146l4 s1 s2) 0).bind (fun o10 =>
 (Sum.elim (fun (p8 : Unit) =>
 some true)
 (fun (v9 : Bool) =>
 some v9) o10))) := (B0 ..).trans (by kernel_rfl)
theorem Z147_eq (low1 high2 : Int) (b3 : List Int) (b4 b5 b6 : Int) : Z147 low1 high2 b3 b4 b5 b6 =
 (if (!decide (b6 = 0)) = true then
 some (0, b3, b4, b5, b6)
 else
 (Z103 b3 b4).bind fun q7 =>
 ((if (decide (q7.2.2 = 0)) = true then
 (if (decide (q7.1 < low1)) = true then
 some true
 else
 some (decide (q7.1 > high2)))
 else
 some false) : Option (Bool)).bind (fun v11 =>
 ((if v11 = true then
 some 3
 else
 some q7.2.2) : Option (Int)).bind (fun err12 =>
 (if (!decide (err12 = 0)) = true then
 some (0, b3, b4, b5, err12)
 else
 some (q7.1, b3, q7.2.1, b5, err12))))) := (B0 ..).trans (by kernel_rfl)
theorem Z148_eq (b1 : List Int) (b2 b3 b4 : Int) : Z148 b1 b2 b3 b4 =
 (Z147 0 200 b1 b2 b3 b4).bind fun q5 =>
 ((if (decide (q5.2.2.2.2 = 0)) = true then
 let t11 := i64.wrap (((q5.2.1.length : Nat) : Int) - q5.2.2.1);
 some (decide (t11 < q5.1))
 else
 some false) : Option (Bool)).bind (fun v12 =>
 ((if v12 = true then
 some (q5.2.1, q5.2.2.1, q5.2.2.2.1, 6)
 else
 some (q5.2.1, q5.2.2.1, q5.2.2.2.1, q5.2.2.2.2)) : Option ((List Int) × Int × Int × Int)).bind (fun p13 =>
 (if (!decide (p13.2.2.2 = 0)) = true then
 some ([], p13.1, p13.2.1, p13.2.2.1, p13.2.2.2)
 else
 let t18 := i64.wrap (p13.2.1 + q5.1);
 let t19 := i64.wrap (t18 - q5.1);
 (if 0 <= t18 ∧ t18 <= ((p13.1.length : Nat) : Int) then
 (if 0 <= t19 ∧ t19 <= t18 then
 let t20 : List Int := cutL p13.1 t19.toNat t18.toNat;
 some (t20, p13.1, t18, p13.2.2.1, p13.2.2.2)
 else
 none)
 else
 none)))) := (B0 ..).trans (by kernel_rfl)
theorem Z149_eq (n1 : Int) : Z149 n1 =
 (if (decide (n1 < 0)) = true then
 none
 else
 let t2 := i64.wrap (0 - 0);
 let t3 := i64.wrap (n1 - t2);
 (if (decide (t3 > 0)) = true then
 (if 0 <= (0 : Int) ∧ (0 : Int) <= ((0 : Nat) : Int) then
 (if 0 <= t3 ∧ t3.toNat * 1 <= 140737488355328 then
 (if 0 <= (0 : Int) ∧ (0 : Int) <= (((List.replicate t3.toNat 0).length : Nat) : Int) then
 let t4 : List Int := cutL (List.replicate t3.toNat 0) 0 ((0 : Int).toNat);
 some t4
 else
 none)
 else
 none)
 else
 none)
 else
 some [])) := (B0 ..).trans (by kernel_rfl)
noncomputable def Z150l3 (t3 : List Int) (s4 : Int × (List Int)) : Option ((Int × (List Int)) ⊕ ((List Int))) :=
 (if (decide (s4.1 < ((t3.length : Nat) : Int))) = true then
 (if 0 <= s4.1 ∧ s4.1 < (s4.2.length : Int) then
 let w7 : List Int := s4.2.set s4.1.toNat s4.1;
 let t8 := i64.wrap (s4.1 + 1);
 some (Sum.inl (t8, w7))
 else
 none)
 else
 some (Sum.inr s4.2))
theorem Z150_eq (text1 : List Int) : Z150 text1 =
 let t2 := i64.wrap (((text1.length : Nat) : Int) + 1);
 (if 0 <= t2 ∧ t2 <= t2 ∧ ((8 : Nat) : Int) * t2 <= 281474976710656 then
 let t3 : List Int := List.replicate t2.toNat 0;
 (loop (Z150l3 t3) (0, t3)).bind (fun b12 =>
 (Z172 b12 text1).bind fun q13 =>
 some q13.1)
 else
 none) := (B0 ..).trans (by kernel_rfl)
theorem Z151_eq (m1 : Int) (m2 : List Int) : Z151 m1 m2 =
 (if (([] : List Int).length + m2.length) * 8 <= 140737488355328 then
 let t3 : List Int := ([] : List Int) ++ m2;
 some (m1, t3)
 else
 none) := (B0 ..).trans (by kernel_rfl)
theorem Z152_eq : Z152 =
 some () := (B0 ..).trans (by kernel_rfl)
theorem Z153_eq (s1 : List Int) : Z153 s1 =
 (Z173 s1).bind fun q2 =>
 some (decide (q2 ≥ 0)) := (B0 ..).trans (by kernel_rfl)
theorem Z154_eq (ctx1 b2 b3 b4 : Int) (b5 b6 : List Int) : Z154 ctx1 b2 b3 b4 b5 b6 =
 let t7 := u64.wrap (b4 - b3);
 (if 0 <= ctx1 ∧ ctx1 < (b5.length : Int) then
 let t8 : Int := rd b5 ctx1;
 (Z174 b2 t8).bind fun q9 =>
 let t10 := u64.wrap q9;
 let t11 := u64.wrap (t7.tdiv 4096);
 let t12 := u64.wrap (t11 * t10);
 let t13 := u64.wrap (b3 + t12);
 let t14 : Int := t7.tmod 4096;
 let t15 := u64.wrap (t14 * t10);
 let t16 := u64.wrap (t15.tdiv 4096);
 let t17 := u64.wrap (t13 + t16);
 some (t17, b2, b3, b4, b5, b6)
 else
 none) := (B0 ..).trans (by kernel_rfl)
theorem Z155_eq (ctx1 bit2 mid3 b4 b5 b6 : Int) (b7 b8 : List Int) : Z155 ctx1 bit2 mid3 b4 b5 b6 b7 b8 =
 ((if (decide (bit2 = 1)) = true then
 some (b4, b5, mid3, b7, b8)
 else
 let t9 := u64.wrap (mid3 + 1);
 some (b4, t9, b6, b7, b8)) : Option (Int × Int × Int × (List Int) × (List Int))).bind (fun p10 =>
 let b14 := p10.2.2.2.1;
 (if 0 <= ctx1 ∧ ctx1 < (b14.length : Int) then
 let t16 : Int := rd b14 ctx1;
 (Z175 p10.1 t16 bit2).bind fun q17 =>
 (if 0 <= ctx1 ∧ ctx1 < (b14.length : Int) then
 let w18 : List Int := b14.set ctx1.toNat q17;
 some (p10.1, p10.2.1, p10.2.2.1, w18, p10.2.2.2.2)
 else
 none)
 else
 none)) := (B0 ..).trans (by kernel_rfl)
theorem Z156_eq (b1 b2 b3 : Int) (b4 b5 : List Int) : Z156 b1 b2 b3 b4 b5 =
 let t6 := ishr .u64 b2 24;
 let t7 := ishr .u64 b3 24;
 some (decide (t6 = t7), b1, b2, b3, b4, b5) := (B0 ..).trans (by kernel_rfl)
theorem Z157_eq (b1 b2 b3 : Int) (b4 b5 : List Int) : Z157 b1 b2 b3 b4 b5 =
 let t6 := ishr .u64 b2 24;
 let t7 := u8.wrap t6;
 let t8 := ishl .u64 b2 8;
 let t9 := iand .u64 t8 4294967295;
 let t10 := ishl .u64 b3 8;
 let t11 := iand .u64 t10 4294967295;
 let t12 := ior .u64 t11 255;
 some (t7, b1, t9, t12, b4, b5) := (B0 ..).trans (by kernel_rfl)
theorem Z158_eq (x1 : Int) : Z158 x1 =
 (Z176 x1).bind fun q2 =>
 some q2 := (B0 ..).trans (by kernel_rfl)
theorem Z159_eq (b1 : Int) : Z159 b1 =
 let t2 := i64.wrap (b1 + 1);
 let t3 := imin t2 47;
 some (b1, t3) := (B0 ..).trans (by kernel_rfl)
noncomputable def Z160l6 (text1 : List Int) (q5 q8 : (List Int)) (s9 : Int × Int × (List Int)) : Option ((Int × Int × (List Int)) ⊕ ((List Int))) :=
 let k11 := s9.2.1;
 ((if (decide (s9.1 < ((q5.length : Nat) : Int))) = true then
 some true
 else
 some (decide (k11 < ((q8.length : Nat) : Int)))) : Option (Bool)).bind (fun v13 =>
 (if v13 = true then
 ((if (decide (k11 = ((q8.length : Nat) : Int))) = true then
 some true
 else
 (if (decide (s9.1 < ((q5.length : Nat) : Int))) = true then
 (if 0 <= s9.1 ∧ s9.1 < (q5.length : Int) then
 (if 0 <= k11 ∧ k11 < (q8.length : Int) then
 (Z177 text1 (rd q5 s9.1) (rd q8 k11)).bind fun q14 =>
 some q14
 else
 none)
 else
 none)
 else
 some false)) : Option (Bool)).bind (fun v15 =>
 (if v15 = true then
 (if 0 <= s9.1 ∧ s9.1 < (q5.length : Int) then
 (if (s9.2.2.length + ([rd q5 s9.1] : List Int).length) * 8 <= 140737488355328 then
 let t16 : List Int := s9.2.2 ++ [rd q5 s9.1];
 let t17 := i64.wrap (s9.1 + 1);
 some (Sum.inl (t17, k11, t16))
 else
 none)
 else
 none)
 else
 (if 0 <= k11 ∧ k11 < (q8.length : Int) then
 (if (s9.2.2.length + ([rd q8 k11] : List Int).length) * 8 <= 140737488355328 then
 let t18 : List Int := s9.2.2 ++ [rd q8 k11];
 let t19 := i64.wrap (k11 + 1);
 some (Sum.inl (s9.1, t19, t18))
 else
 none)
 else
 none)))
 else
 some (Sum.inr s9.2.2)))
theorem Z160_eq (text1 l2 : List Int) : Z160 text1 l2 =
 (if (decide (((l2.length : Nat) : Int) < 2)) = true then
 some l2
 else
 let t3 := i64.wrap (((l2.length : Nat) : Int).tdiv 2);
 (if 0 <= t3 ∧ t3 <= ((l2.length : Nat) : Int) then
 let t4 : List Int := cutL l2 0 t3.toNat;
 (Z160 text1 t4).bind fun q5 =>
 let t6 := i64.wrap (((l2.length : Nat) : Int).tdiv 2);
 (if 0 <= t6 ∧ t6 <= ((l2.length : Nat) : Int) then
 let t7 : List Int := cutL l2 t6.toNat l2.length;
 (Z160 text1 t7).bind fun q8 =>
 (loop (Z160l6 text1 q5 q8) (0, 0, [])).bind (fun out20 =>
 some out20)
 else
 none)
 else
 none)) := (B0 ..).trans (by kernel_rfl)
theorem Z161_eq (kind1 state2 : Int) : Z161 kind1 state2 =
 (if (decide (kind1 = 0)) = true then
 let t3 : Int := state2.tmod 32;
 (Z178 t3).bind fun q4 =>
 (if (decide (state2 < 32)) = true then
 some q4
 else
 let t5 : Int := state2.tmod 32;
 (Z178 t5).bind fun q6 =>
 let t7 := i64.wrap (4096 - q6);
 some t7)
 else
 let t8 := i64.wrap (state2.tdiv 256);
 let t9 : Int := state2.tmod 256;
 let t10 := i64.wrap (2 * t9);
 let t11 := i64.wrap (t10 + 1);
 let t12 := i64.wrap (t11 * 4096);
 let t13 := i64.wrap (2 * t8);
 let t14 := i64.wrap (2 * t9);
 let t15 := i64.wrap (t13 + t14);
 let t16 := i64.wrap (t15 + 2);
 (if t16 = 0 then
 none
 else
 let t17 := i64.wrap (t12.tdiv t16);
 let t18 := imax t17 1;
 let t19 := imin t18 4095;
 some t19)) := (B0 ..).trans (by kernel_rfl)
theorem Z162_eq (x1 x2 p3 bit4 : Int) : Z162 x1 x2 p3 bit4 =
 (if (decide (bit4 = 1)) = true then
 (Z179 x1 x2 p3).bind fun q5 =>
 some (x1, q5)
 else
 (Z179 x1 x2 p3).bind fun q6 =>
 let t7 := u64.wrap (q6 + 1);
 some (t7, x2)) := (B0 ..).trans (by kernel_rfl)
theorem Z163_eq (kind1 state2 bit3 : Int) : Z163 kind1 state2 bit3 =
 (if (decide (kind1 = 0)) = true then
 let t4 := i64.wrap (state2.tdiv 32);
 let t5 : Int := state2.tmod 32;
 (if (decide (bit3 = t4)) = true then
 let t6 := i64.wrap (32 * t4);
 let t7 := i64.wrap (t5 + 1);
 let t8 := imin t7 31;
 let t9 := i64.wrap (t6 + t8);
 some t9
 else
 (if (decide (t5 = 0)) = true then
 let t10 := i64.wrap (32 * bit3);
 some t10
 else
 let t11 := i64.wrap (32 * t4);
 let t12 := i64.wrap (t11 + t5);
 let t13 := i64.wrap (t12 - 1);
 let t14 := i64.wrap (t5.tdiv 4);
 let t15 := i64.wrap (t13 - t14);
 some t15))
 else
 let t16 := i64.wrap (state2.tdiv 256);
 let t17 : Int := state2.tmod 256;
 (if 0 <= bit3 ∧ bit3 < ((2 : Nat) : Int) then
 let t18 : Int := rd [t16, t17] bit3;
 ((if (decide (t18 = 255)) = true then
 (if 0 <= (0 : Int) ∧ (0 : Int) < ((2 : Nat) : Int) then
 let t19 := i64.wrap (t16.tdiv 2);
 (if 0 <= (1 : Int) ∧ (1 : Int) < ((2 : Nat) : Int) then
 let t20 := i64.wrap (t17.tdiv 2);
 (if 0 <= (0 : Int) ∧ (0 : Int) < ((2 : Nat) : Int) then
 (if 0 <= (1 : Int) ∧ (1 : Int) < ((2 : Nat) : Int) then
 some (t19, t20)
 else
 none)
 else
 none)
 else
 none)
 else
 none)
 else
 some (t16, t17)) : Option (Int × Int)).bind (fun p21 =>
 (if 0 <= bit3 ∧ bit3 < ((2 : Nat) : Int) then
 let t24 : Int := rd [p21.1, p21.2] bit3;
 let t25 := i64.wrap (t24 + 1);
 (if 0 <= bit3 ∧ bit3 < ((2 : Nat) : Int) then
 let c26 : Int := if bit3 = 0 then t25 else p21.1;
 let c27 : Int := if bit3 = 1 then t25 else p21.2;
 (if 0 <= (0 : Int) ∧ (0 : Int) < ((2 : Nat) : Int) then
 let t28 := i64.wrap (256 * c26);
 (if 0 <= (1 : Int) ∧ (1 : Int) < ((2 : Nat) : Int) then
 let t29 := i64.wrap (t28 + c27);
 some t29
 else
 none)
 else
 none)
 else
 none)
 else
 none))
 else
 none)) := (B0 ..).trans (by kernel_rfl)
theorem Z164_eq (x1 x2 : Int) : Z164 x1 x2 =
 let t3 := ishr .u64 x1 24;
 let t4 := ishr .u64 x2 24;
 some (decide (t3 = t4)) := (B0 ..).trans (by kernel_rfl)
theorem Z165_eq (x1 x2 : Int) : Z165 x1 x2 =
 let t3 : Int := x1.tmod 16777216;
 let t4 := u64.wrap (t3 * 256);
 let t5 : Int := x2.tmod 16777216;
 let t6 := u64.wrap (t5 * 256);
 let t7 := u64.wrap (t6 + 255);
 some (t4, t7) := (B0 ..).trans (by kernel_rfl)
theorem Z166_eq (b1 b2 b3 : Int) (b4 : List Int) (b5 b6 b7 : Int) (b8 : Bool) (b9 : List Int) : Z166 b1 b2 b3 b4 b5 b6 b7 b8 b9 =
 some (false, b1, b2, b3, b4, b5, b6, b7, b8, b9) := (B0 ..).trans (by kernel_rfl)
theorem Z167_eq (ctx1 b2 b3 b4 : Int) (b5 : List Int) (b6 b7 b8 : Int) (b9 : Bool) (b10 : List Int) : Z167 ctx1 b2 b3 b4 b5 b6 b7 b8 b9 b10 =
 let t11 := u64.wrap (b4 - b3);
 (if 0 <= ctx1 ∧ ctx1 < (b10.length : Int) then
 let t12 : Int := rd b10 ctx1;
 (Z174 b2 t12).bind fun q13 =>
 let t14 := u64.wrap q13;
 let t15 := u64.wrap (t11.tdiv 4096);
 let t16 := u64.wrap (t15 * t14);
 let t17 := u64.wrap (b3 + t16);
 let t18 : Int := t11.tmod 4096;
 let t19 := u64.wrap (t18 * t14);
 let t20 := u64.wrap (t19.tdiv 4096);
 let t21 := u64.wrap (t17 + t20);
 some (t21, b2, b3, b4, b5, b6, b7, b8, b9, b10)
 else
 none) := (B0 ..).trans (by kernel_rfl)
theorem Z168_eq (ctx1 bit2 mid3 b4 b5 b6 : Int) (b7 : List Int) (b8 b9 b10 : Int) (b11 : Bool) (b12 : List Int) : Z168 ctx1 bit2 mid3 b4 b5 b6 b7 b8 b9 b10 b11 b12 =
 ((if (decide (bit2 = 1)) = true then
 some (b4, b5, mid3, b7, b8, b9, b10, b11, b12)
 else
 let t13 := u64.wrap (mid3 + 1);
 some (b4, t13, b6, b7, b8, b9, b10, b11, b12)) : Option (Int × Int × Int × (List Int) × Int × Int × Int × Bool × (List Int))).bind (fun p14 =>
 let b23 := p14.2.2.2.2.2.2.2.2;
 (if 0 <= ctx1 ∧ ctx1 < (b23.length : Int) then
 let t24 : Int := rd b23 ctx1;
 (Z175 p14.1 t24 bit2).bind fun q25 =>
 (if 0 <= ctx1 ∧ ctx1 < (b23.length : Int) then
 let w26 : List Int := b23.set ctx1.toNat q25;
 some (p14.1, p14.2.1, p14.2.2.1, p14.2.2.2.1, p14.2.2.2.2.1, p14.2.2.2.2.2.1, p14.2.2.2.2.2.2.1, p14.2.2.2.2.2.2.2.1, w26)
 else
 none)
 else
 none)) := (B0 ..).trans (by kernel_rfl)
theorem Z169_eq (b1 b2 b3 : Int) (b4 : List Int) (b5 b6 b7 : Int) (b8 : Bool) (b9 : List Int) : Z169 b1 b2 b3 b4 b5 b6 b7 b8 b9 =
 let t10 := ishr .u64 b2 24;
 let t11 := ishr .u64 b3 24;
 some (decide (t10 = t11), b1, b2, b3, b4, b5, b6, b7, b8, b9) := (B0 ..).trans (by kernel_rfl)
theorem Z170_eq (b1 b2 b3 : Int) (b4 : List Int) (b5 b6 b7 : Int) (b8 : Bool) (b9 : List Int) : Z170 b1 b2 b3 b4 b5 b6 b7 b8 b9 =
 let t10 := ishr .u64 b2 24;
 let t11 := u8.wrap t10;
 let t12 := ishl .u64 b2 8;
 let t13 := iand .u64 t12 4294967295;
 let t14 := ishl .u64 b3 8;
 let t15 := iand .u64 t14 4294967295;
 let t16 := ior .u64 t15 255;
 some (t11, b1, t13, t16, b4, b5, b6, b7, b8, b9) := (B0 ..).trans (by kernel_rfl)
theorem Z171_eq (b1 b2 b3 : Int) (b4 : List Int) (b5 b6 b7 : Int) (b8 : Bool) (b9 : List Int) : Z171 b1 b2 b3 b4 b5 b6 b7 b8 b9 =
 ((if (decide (b5 < ((b4.length : Nat) : Int))) = true then
 (if 0 <= b5 ∧ b5 < (b4.length : Int) then
 some (rd b4 b5, b1, b2, b3, b4, b5, b6, b7, b8, b9)
 else
 none)
 else
 let t10 := i64.wrap (b7 + 1);
 some (0, b1, b2, b3, b4, b5, b6, t10, b8, b9)) : Option (Int × Int × Int × Int × (List Int) × Int × Int × Int × Bool × (List Int))).bind (fun p11 =>
 let t22 := i64.wrap (p11.2.2.2.2.2.1 + 1);
 let t23 := ishl .u64 p11.2.2.2.2.2.2.1 8;
 let t24 := iand .u64 t23 4294967295;
 let t25 := u64.wrap p11.1;
 let t26 := ior .u64 t24 t25;
 some (p11.2.1, p11.2.2.1, p11.2.2.2.1, p11.2.2.2.2.1, t22, t26, p11.2.2.2.2.2.2.2.1, p11.2.2.2.2.2.2.2.2.1, p11.2.2.2.2.2.2.2.2.2)) := (B0 ..).trans (by kernel_rfl)
theorem Z172_eq (b1 b2 : List Int) : Z172 b1 b2 =
 let t3 := u64.wrap ((b1.length : Nat) : Int);
 (Z158 t3).bind fun q4 =>
 (Z180 0 ((b1.length : Nat) : Int) q4 b1 b2).bind fun q5 =>
 some (q5.1, q5.2) := (B0 ..).trans (by kernel_rfl)
noncomputable def Z173l2 (s1 : List Int) (v2 : Int) : Option ((Int) ⊕ ((Unit) ⊕ (Int))) :=
 (if (decide (v2 < ((s1.length : Nat) : Int))) = true then
 (if 0 <= v2 ∧ v2 < (s1.length : Int) then
 (Z181 (rd s1 v2)).bind fun q3 =>
 (if q3 = true then
 some (Sum.inr (Sum.inr v2))
 else
 let t4 := i64.wrap (v2 + 1);
 some (Sum.inl t4))
 else
 none)
 else
 some (Sum.inr (Sum.inl ())))
noncomputable def Z173l2_step (i5 : Nat) (x6 : Int) (s7 : Unit) : Option ((Unit) ⊕ ((Unit) ⊕ (Int))) :=
 (Z181 (x6)).bind fun q3 =>
 (if q3 = true then
 some (Sum.inr (Sum.inr ((i5 : Nat) : Int)))
 else
 some (Sum.inl (())))
theorem Z173l2_over (s1 : List Int) (hl : s1.length <= 9223372036854775807) (s7 : Unit) : loop (Z173l2 s1) (0 : Int) =
    overL (Z173l2_step) (fun (s7 : Unit) => some (Sum.inl ())) 0 s1 s7 := by
  refine B28 s1 (fun n (s : Unit) => (((n : Nat) : Int) : Int)) _ _ (fun s => ?_) (fun i x s h => ?_) 0 s7 (A30 _)
  . unfold Z173l2; simp
  . have hlt := B6 h
    have h1 : ((i : Nat) : Int) < ((s1.length : Nat) : Int) := by omega
    have h0 : (0 : Int) <= ((i : Nat) : Int) := by omega
    have hw : i64.wrap (((i : Nat) : Int) + 1) = (((i + 1 : Nat) : Nat) : Int) := w64 (by omega)
    have hr : rd s1 ((i : Nat) : Int) = x := B18 h
    unfold Z173l2 Z173l2_step
    simp only [h1, h0, hw, h, hr, A8, A6, A31, A15, A12, A1, A56, Function.comp_def, B48, B36, A37, A52]
theorem Z173_eq (s1 : List Int) : Z173 s1 =
 (loop (Z173l2 s1) 0).bind (fun o10 =>
 (Sum.elim (fun (p8 : Unit) =>
 some (-1))
 (fun (v9 : Int) =>
 some v9) o10)) := (B0 ..).trans (by kernel_rfl)
theorem Z174_eq (kind1 s2 : Int) : Z174 kind1 s2 =
 (if (decide (kind1 = 1)) = true then
 let t3 := i64.wrap (s2.tdiv 256);
 let t4 : Int := s2.tmod 256;
 let t5 := i64.wrap (2 * t4);
 let t6 := i64.wrap (t5 + 1);
 let t7 := i64.wrap (t6 * 4096);
 let t8 := i64.wrap (2 * t3);
 let t9 := i64.wrap (2 * t4);
 let t10 := i64.wrap (t8 + t9);
 let t11 := i64.wrap (t10 + 2);
 (if t11 = 0 then
 none
 else
 let t12 := i64.wrap (t7.tdiv t11);
 let t13 := imax t12 1;
 let t14 := imin t13 4095;
 some t14)
 else
 (if (decide (s2 ≥ 32)) = true then
 let t15 := i64.wrap (s2 - 32);
 (if 0 <= t15 ∧ t15 < ((32 : Nat) : Int) then
 let t16 : Int := rd [2048, 1792, 1568, 1372, 1201, 1051, 920, 805, 705, 617, 540, 473, 414, 363, 318, 279, 245, 215, 189, 166, 146, 128, 112, 98, 86, 76, 67, 59, 52, 46, 41, 36] t15;
 let t17 := i64.wrap (4096 - t16);
 some t17
 else
 none)
 else
 (if 0 <= s2 ∧ s2 < ((32 : Nat) : Int) then
 let t18 : Int := rd [2048, 1792, 1568, 1372, 1201, 1051, 920, 805, 705, 617, 540, 473, 414, 363, 318, 279, 245, 215, 189, 166, 146, 128, 112, 98, 86, 76, 67, 59, 52, 46, 41, 36] s2;
 some t18
 else
 none))) := (B0 ..).trans (by kernel_rfl)
theorem Z175_eq (kind1 s2 bit3 : Int) : Z175 kind1 s2 bit3 =
 (if (decide (kind1 = 1)) = true then
 let t4 := i64.wrap (s2.tdiv 256);
 let t5 : Int := s2.tmod 256;
 (if 0 <= bit3 ∧ bit3 < ((2 : Nat) : Int) then
 let t6 : Int := rd [t4, t5] bit3;
 ((if (decide (t6 = 255)) = true then
 (if 0 <= (0 : Int) ∧ (0 : Int) < ((2 : Nat) : Int) then
 let t7 := i64.wrap (t4.tdiv 2);
 (if 0 <= (1 : Int) ∧ (1 : Int) < ((2 : Nat) : Int) then
 let t8 := i64.wrap (t5.tdiv 2);
 (if 0 <= (0 : Int) ∧ (0 : Int) < ((2 : Nat) : Int) then
 (if 0 <= (1 : Int) ∧ (1 : Int) < ((2 : Nat) : Int) then
 some (t7, t8)
 else
 none)
 else
 none)
 else
 none)
 else
 none)
 else
 some (t4, t5)) : Option (Int × Int)).bind (fun p9 =>
 (if 0 <= bit3 ∧ bit3 < ((2 : Nat) : Int) then
 let t12 : Int := rd [p9.1, p9.2] bit3;
 let t13 := i64.wrap (t12 + 1);
 (if 0 <= bit3 ∧ bit3 < ((2 : Nat) : Int) then
 let c14 : Int := if bit3 = 0 then t13 else p9.1;
 let c15 : Int := if bit3 = 1 then t13 else p9.2;
 (if 0 <= (0 : Int) ∧ (0 : Int) < ((2 : Nat) : Int) then
 let t16 := i64.wrap (256 * c14);
 (if 0 <= (1 : Int) ∧ (1 : Int) < ((2 : Nat) : Int) then
 let t17 := i64.wrap (t16 + c15);
 some t17
 else
 none)
 else
 none)
 else
 none)
 else
 none))
 else
 none)
 else
 let t18 := i64.wrap (s2.tdiv 32);
 let t19 : Int := s2.tmod 32;
 (if (decide (bit3 = t18)) = true then
 let t20 := i64.wrap (t19 + 1);
 let t21 := imin t20 31;
 let t22 := i64.wrap (32 * t18);
 let t23 := i64.wrap (t22 + t21);
 some t23
 else
 (if (decide (t19 = 0)) = true then
 let t24 := i64.wrap (32 * bit3);
 let t25 := i64.wrap (t24 + t19);
 some t25
 else
 let t26 := i64.wrap (t19.tdiv 4);
 let t27 := i64.wrap (1 + t26);
 let t28 := i64.wrap (t19 - t27);
 let t29 := i64.wrap (32 * t18);
 let t30 := i64.wrap (t29 + t28);
 some t30))) := (B0 ..).trans (by kernel_rfl)
theorem Z176_eq (x1 : Int) : Z176 x1 =
 ((if (decide (x1 ≥ 4294967296)) = true then
 let t2 := ishr .u64 x1 32;
 some (t2, 32)
 else
 some (x1, 0)) : Option (Int × Int)).bind (fun p3 =>
 ((if (decide (p3.1 ≥ 65536)) = true then
 let t6 := ishr .u64 p3.1 16;
 let t7 := i64.wrap (p3.2 + 16);
 some (t6, t7)
 else
 some (p3.1, p3.2)) : Option (Int × Int)).bind (fun p8 =>
 ((if (decide (p8.1 ≥ 256)) = true then
 let t11 := ishr .u64 p8.1 8;
 let t12 := i64.wrap (p8.2 + 8);
 some (t11, t12)
 else
 some (p8.1, p8.2)) : Option (Int × Int)).bind (fun p13 =>
 let t16 := u8.wrap p13.1;
 (if 0 <= t16 ∧ t16 < (([0, 1, 2, 2, 3, 3, 3, 3, 4, 4, 4, 4, 4, 4, 4, 4, 5, 5, 5, 5, 5, 5, 5, 5, 5, 5, 5, 5, 5, 5, 5, 5, 6, 6, 6, 6, 6, 6, 6, 6, 6, 6, 6, 6, 6, 6, 6, 6, 6, 6, 6, 6, 6, 6, 6, 6, 6, 6, 6, 6, 6, 6, 6, 6, 7, 7, 7, 7, 7, 7, 7, 7, 7, 7, 7, 7, 7, 7, 7, 7, 7, 7, 7, 7, 7, 7, 7, 7, 7, 7, 7, 7, 7, 7, 7, 7, 7, 7, 7, 7, 7, 7, 7, 7, 7, 7, 7, 7, 7, 7, 7, 7, 7, 7, 7, 7, 7, 7, 7, 7, 7, 7, 7, 7, 7, 7, 7, 7, 8, 8, 8, 8, 8, 8, 8, 8, 8, 8, 8, 8, 8, 8, 8, 8, 8, 8, 8, 8, 8, 8, 8, 8, 8, 8, 8, 8, 8, 8, 8, 8, 8, 8, 8, 8, 8, 8, 8, 8, 8, 8, 8, 8, 8, 8, 8, 8, 8, 8, 8, 8, 8, 8, 8, 8, 8, 8, 8, 8, 8, 8, 8, 8, 8, 8, 8, 8, 8, 8, 8, 8, 8, 8, 8, 8, 8, 8, 8, 8, 8, 8, 8, 8, 8, 8, 8, 8, 8, 8, 8, 8, 8, 8, 8, 8, 8, 8, 8, 8, 8, 8, 8, 8, 8, 8, 8, 8, 8, 8, 8, 8, 8, 8, 8, 8, 8, 8, 8, 8, 8, 8, 8, 8, 8, 8, 8, 8]).length : Int) then
 let t17 : Int := rd [0, 1, 2, 2, 3, 3, 3, 3, 4, 4, 4, 4, 4, 4, 4, 4, 5, 5, 5, 5, 5, 5, 5, 5, 5, 5, 5, 5, 5, 5, 5, 5, 6, 6, 6, 6, 6, 6, 6, 6, 6, 6, 6, 6, 6, 6, 6, 6, 6, 6, 6, 6, 6, 6, 6, 6, 6, 6, 6, 6, 6, 6, 6, 6, 7, 7, 7, 7, 7, 7, 7, 7, 7, 7, 7, 7, 7, 7, 7, 7, 7, 7, 7, 7, 7, 7, 7, 7, 7, 7, 7, 7, 7, 7, 7, 7, 7, 7, 7, 7, 7, 7, 7, 7, 7, 7, 7, 7, 7, 7, 7, 7, 7, 7, 7, 7, 7, 7, 7, 7, 7, 7, 7, 7, 7, 7, 7, 7, 8, 8, 8, 8, 8, 8, 8, 8, 8, 8, 8, 8, 8, 8, 8, 8, 8, 8, 8, 8, 8, 8, 8, 8, 8, 8, 8, 8, 8, 8, 8, 8, 8, 8, 8, 8, 8, 8, 8, 8, 8, 8, 8, 8, 8, 8, 8, 8, 8, 8, 8, 8, 8, 8, 8, 8, 8, 8, 8, 8, 8, 8, 8, 8, 8, 8, 8, 8, 8, 8, 8, 8, 8, 8, 8, 8, 8, 8, 8, 8, 8, 8, 8, 8, 8, 8, 8, 8, 8, 8, 8, 8, 8, 8, 8, 8, 8, 8, 8, 8, 8, 8, 8, 8, 8, 8, 8, 8, 8, 8, 8, 8, 8, 8, 8, 8, 8, 8, 8, 8, 8, 8, 8, 8, 8, 8, 8, 8] t16;
 let t18 := i64.wrap t17;
 let t19 := i64.wrap (p13.2 + t18);
 some t19
 else
 none)))) := (B0 ..).trans (by kernel_rfl)
theorem Z177_eq (text1 : List Int) (a2 b3 : Int) : Z177 text1 a2 b3 =
 (if 0 <= a2 ∧ a2 <= ((text1.length : Nat) : Int) then
 let t4 : List Int := cutL text1 a2.toNat text1.length;
 (if 0 <= b3 ∧ b3 <= ((text1.length : Nat) : Int) then
 let t5 : List Int := cutL text1 b3.toNat text1.length;
 some (strLt (t4) (t5))
 else
 none)
 else
 none) := (B0 ..).trans (by kernel_rfl)
noncomputable def Z178l3 (k1 : Int) (s2 : Int × Int) : Option ((Int × Int) ⊕ (Int)) :=
 (if (decide (s2.2 < k1)) = true then
 let t5 := i64.wrap (s2.1.tdiv 8);
 let t6 := i64.wrap (s2.1 - t5);
 let t7 := i64.wrap (s2.2 + 1);
 some (Sum.inl (t6, t7))
 else
 some (Sum.inr s2.1))
theorem Z178_eq (k1 : Int) : Z178 k1 =
 (loop (Z178l3 k1) (2048, 0)).bind (fun q11 =>
 some q11) := (B0 ..).trans (by kernel_rfl)
theorem Z179_eq (x1 x2 p3 : Int) : Z179 x1 x2 p3 =
 let t4 := u64.wrap (x2 - x1);
 let t5 := u64.wrap (t4.tdiv 4096);
 let t6 := u64.wrap p3;
 let t7 := u64.wrap (t5 * t6);
 let t8 := u64.wrap (x1 + t7);
 let t9 : Int := t4.tmod 4096;
 let t10 := u64.wrap p3;
 let t11 := u64.wrap (t9 * t10);
 let t12 := u64.wrap (t11.tdiv 4096);
 let t13 := u64.wrap (t8 + t12);
 some t13 := (B0 ..).trans (by kernel_rfl)
noncomputable def Z180l2 (s6 : Int × Int × Int × Bool × Bool × (List Int) × (List Int)) : Option ((Int × Int × Int × Bool × Bool × (List Int) × (List Int)) ⊕ ((List Int) × (List Int))) :=
 let a7 := s6.1;
 let b8 := s6.2.1;
 let b12 := s6.2.2.2.2.2.1;
 let b13 := s6.2.2.2.2.2.2;
 let t14 := i64.wrap (b8 - a7);
 (if (decide (t14 <= 12)) = true then
 (Z182 a7 b8 b12 b13).bind fun q15 =>
 some (Sum.inr (q15.1, q15.2))
 else
 (if (decide (s6.2.2.1 = 0)) = true then
 (Z183 a7 b8 b12 b13).bind fun q18 =>
 some (Sum.inr (q18.1, q18.2))
 else
 ((if (!s6.2.2.2.1) = true then
 (Z184 a7 b8 b12 b13).bind fun q21 =>
 let t24 := i64.wrap (s6.2.2.1 - 1);
 some (t24, q21.1, q21.2)
 else
 some (s6.2.2.1, b12, b13)) : Option (Int × (List Int) × (List Int))).bind (fun p25 =>
 (Z185 a7 b8 p25.2.1 p25.2.2).bind fun q29 =>
 ((if (decide (q29.2.1 = 2)) = true then
 (Z186 a7 b8 q29.2.2.1 q29.2.2.2).bind fun q34 =>
 let t37 := i64.wrap (b8 - 1);
 let t38 := i64.wrap (q29.1 - a7);
 let t39 := i64.wrap (t37 - t38);
 some (t39, 1, q34.1, q34.2)
 else
 some (q29.1, q29.2.1, q29.2.2.1, q29.2.2.2)) : Option (Int × Int × (List Int) × (List Int))).bind (fun p40 =>
 ((if s6.2.2.2.1 = true then
 (if s6.2.2.2.2.1 = true then
 some (decide (p40.2.1 = 1))
 else
 some false)
 else
 some false) : Option (Bool)).bind (fun v45 =>
 ((if v45 = true then
 (Z187 a7 b8 p40.2.2.1 p40.2.2.2).bind fun q46 =>
 (if q46.1 = true then
 some (Sum.inr (q46.2.1, q46.2.2))
 else
 some (Sum.inl (q46.2.1, q46.2.2)))
 else
 some (Sum.inl (p40.2.2.1, p40.2.2.2))) : Option (((List Int) × (List Int)) ⊕ ((List Int) × (List Int)))).bind (fun o56 =>
 (Sum.elim (fun (p50 : (List Int) × (List Int)) =>
 ((if (decide (a7 > 0)) = true then
 let t57 := i64.wrap (a7 - 1);
 (if 0 <= t57 ∧ t57 < (p50.1.length : Int) then
 let t58 : Int := rd p50.1 t57;
 (if 0 <= p40.1 ∧ p40.1 < (p50.1.length : Int) then
 let t59 : Int := rd p50.1 p40.1;
 (Z188 t58 t59 p50.2).bind fun q60 =>
 some (!(decide (q60.1 < 0)), q60.2)
 else
 none)
 else
 none)
 else
 some (false, p50.2)) : Option (Bool × (List Int))).bind (fun p63 =>
 (if p63.1 = true then
 (Z189 a7 b8 p40.1 p50.1 p63.2).bind fun q66 =>
 some (Sum.inl (q66.1, b8, p25.1, s6.2.2.2.1, s6.2.2.2.2.1, q66.2.1, q66.2.2))
 else
 (Z190 a7 b8 p40.1 p50.1 p63.2).bind fun q70 =>
 let t75 := i64.wrap (q70.1 - a7);
 let t76 := i64.wrap (b8 - q70.1);
 let t77 := i64.wrap (t14.tdiv 8);
 (if (decide (t75 < t76)) = true then
 (Z180 a7 q70.1 p25.1 q70.2.2.1 q70.2.2.2).bind fun q78 =>
 let t81 := i64.wrap (q70.1 + 1);
 some (Sum.inl (t81, b8, p25.1, decide (t75 ≥ t77), q70.2.1, q78.1, q78.2))
 else
 let t82 := i64.wrap (q70.1 + 1);
 (Z180 t82 b8 p25.1 q70.2.2.1 q70.2.2.2).bind fun q83 =>
 some (Sum.inl (a7, q70.1, p25.1, decide (t76 ≥ t77), q70.2.1, q83.1, q83.2))))))
 (fun (p53 : (List Int) × (List Int)) =>
 some (Sum.inr (p53.1, p53.2))) o56)))))))
theorem Z180_eq (a1 b2 limit3 : Int) (b4 b5 : List Int) : Z180 a1 b2 limit3 b4 b5 =
 (loop (Z180l2) (a1, b2, limit3, true, true, b4, b5)).bind (fun p86 =>
 some (p86.1, p86.2)) := (B0 ..).trans (by kernel_rfl)
theorem Z181_eq (s1 : Int) : Z181 s1 =
 (if (decide (s1 < 0)) = true then
 some true
 else
 some (decide (s1 ≥ 257))) := (B0 ..).trans (by kernel_rfl)
noncomputable def Z182l4 (a1 : Int) (s10 : Int × (List Int) × (List Int)) : Option ((Int × (List Int) × (List Int)) ⊕ ((List Int) × (List Int))) :=
 let j11 := s10.1;
 let b12 := s10.2.1;
 ((if (decide (j11 > a1)) = true then
 (if 0 <= j11 ∧ j11 < (b12.length : Int) then
 let t14 : Int := rd b12 j11;
 let t15 := i64.wrap (j11 - 1);
 (if 0 <= t15 ∧ t15 < (b12.length : Int) then
 let t16 : Int := rd b12 t15;
 (Z188 t14 t16 s10.2.2).bind fun q17 =>
 some (decide (q17.1 < 0), q17.2)
 else
 none)
 else
 none)
 else
 some (false, s10.2.2)) : Option (Bool × (List Int))).bind (fun p20 =>
 (if p20.1 = true then
 let t23 := i64.wrap (j11 - 1);
 let t24 := i64.wrap (j11 - 1);
 (if 0 <= t24 ∧ t24 < (b12.length : Int) then
 let t25 : Int := rd b12 t24;
 (if 0 <= j11 ∧ j11 < (b12.length : Int) then
 let t26 : Int := rd b12 j11;
 (if 0 <= j11 ∧ j11 < (b12.length : Int) then
 let w27 : List Int := b12.set j11.toNat t25;
 (if 0 <= t23 ∧ t23 < (w27.length : Int) then
 let w28 : List Int := w27.set t23.toNat t26;
 let t29 := i64.wrap (j11 - 1);
 some (Sum.inl (t29, w28, p20.2))
 else
 none)
 else
 none)
 else
 none)
 else
 none)
 else
 some (Sum.inr (b12, p20.2))))
noncomputable def Z182l1 (a1 b2 : Int) (s6 : Int × (List Int) × (List Int)) : Option ((Int × (List Int) × (List Int)) ⊕ ((List Int) × (List Int))) :=
 (if (decide (s6.1 < b2)) = true then
 (loop (Z182l4 a1) (s6.1, s6.2.1, s6.2.2)).bind (fun p30 =>
 let t33 := i64.wrap (s6.1 + 1);
 some (Sum.inl (t33, p30.1, p30.2)))
 else
 some (Sum.inr (s6.2.1, s6.2.2)))
theorem Z182_eq (a1 b2 : Int) (b3 b4 : List Int) : Z182 a1 b2 b3 b4 =
 let t5 := i64.wrap (a1 + 1);
 (loop (Z182l1 a1 b2) (t5, b3, b4)).bind (fun p39 =>
 some (p39.1, p39.2)) := (B0 ..).trans (by kernel_rfl)
noncomputable def Z183l4 (a1 t5 : Int) (s8 : Int × (List Int) × (List Int)) : Option ((Int × (List Int) × (List Int)) ⊕ ((List Int) × (List Int))) :=
 (if (decide (s8.1 ≥ 0)) = true then
 (Z191 s8.1 t5 a1 s8.2.1 s8.2.2).bind fun q12 =>
 let t15 := i64.wrap (s8.1 - 1);
 some (Sum.inl (t15, q12.1, q12.2))
 else
 some (Sum.inr (s8.2.1, s8.2.2)))
noncomputable def Z183l8 (a1 : Int) (s20 : Int × (List Int) × (List Int)) : Option ((Int × (List Int) × (List Int)) ⊕ ((List Int) × (List Int))) :=
 let b22 := s20.2.1;
 (if (decide (s20.1 ≥ 0)) = true then
 let t24 := i64.wrap (a1 + s20.1);
 let t25 := i64.wrap (a1 + s20.1);
 (if 0 <= t25 ∧ t25 < (b22.length : Int) then
 let t26 : Int := rd b22 t25;
 (if 0 <= a1 ∧ a1 < (b22.length : Int) then
 let t27 : Int := rd b22 a1;
 (if 0 <= a1 ∧ a1 < (b22.length : Int) then
 let w28 : List Int := b22.set a1.toNat t26;
 (if 0 <= t24 ∧ t24 < (w28.length : Int) then
 let w29 : List Int := w28.set t24.toNat t27;
 (Z191 0 s20.1 a1 w29 s20.2.2).bind fun q30 =>
 let t33 := i64.wrap (s20.1 - 1);
 some (Sum.inl (t33, q30.1, q30.2))
 else
 none)
 else
 none)
 else
 none)
 else
 none)
 else
 some (Sum.inr (b22, s20.2.2)))
theorem Z183_eq (a1 b2 : Int) (b3 b4 : List Int) : Z183 a1 b2 b3 b4 =
 let t5 := i64.wrap (b2 - a1);
 let t6 := i64.wrap (t5 - 1);
 let t7 := i64.wrap (t6.tdiv 2);
 (loop (Z183l4 a1 t5) (t7, b3, b4)).bind (fun p16 =>
 let t19 := i64.wrap (t5 - 1);
 (loop (Z183l8 a1) (t19, p16.1, p16.2)).bind (fun p34 =>
 some (p34.1, p34.2))) := (B0 ..).trans (by kernel_rfl)
noncomputable def Z184l5 (a1 t5 q7 : Int) (s12 : Int × (List Int) × Int) : Option ((Int × (List Int) × Int) ⊕ ((List Int) × Int)) :=
 let b14 := s12.2.1;
 let t16 := i64.wrap (t5.tdiv 4);
 let t17 := i64.wrap (t16 * 2);
 let t18 := i64.wrap (a1 + t17);
 let t19 := i64.wrap (t18 + 1);
 (if (decide (s12.1 <= t19)) = true then
 (Z193 s12.2.2).bind fun q20 =>
 let t23 := u64.wrap (q7 - 1);
 let t24 := iand .u64 q20.1 t23;
 let t25 := i64.wrap t24;
 ((if (decide (t25 ≥ t5)) = true then
 let t26 := i64.wrap (t25 - t5);
 some t26
 else
 some t25) : Option (Int)).bind (fun other27 =>
 let t28 := i64.wrap (a1 + other27);
 let t29 := i64.wrap (a1 + other27);
 (if 0 <= t29 ∧ t29 < (b14.length : Int) then
 let t30 : Int := rd b14 t29;
 (if 0 <= s12.1 ∧ s12.1 < (b14.length : Int) then
 let t31 : Int := rd b14 s12.1;
 (if 0 <= s12.1 ∧ s12.1 < (b14.length : Int) then
 let w32 : List Int := b14.set s12.1.toNat t30;
 (if 0 <= t28 ∧ t28 < (w32.length : Int) then
 let w33 : List Int := w32.set t28.toNat t31;
 let t34 := i64.wrap (s12.1 + 1);
 some (Sum.inl (t34, w33, q20.2))
 else
 none)
 else
 none)
 else
 none)
 else
 none))
 else
 some (Sum.inr (b14, s12.2.2)))
theorem Z184_eq (a1 b2 : Int) (b3 b4 : List Int) : Z184 a1 b2 b3 b4 =
 let t5 := i64.wrap (b2 - a1);
 (if (decide (t5 ≥ 8)) = true then
 let t6 := u64.wrap t5;
 (Z192 t5).bind fun q7 =>
 let t8 := i64.wrap (t5.tdiv 4);
 let t9 := i64.wrap (t8 * 2);
 let t10 := i64.wrap (a1 + t9);
 let t11 := i64.wrap (t10 - 1);
 (loop (Z184l5 a1 t5 q7) (t11, b3, t6)).bind (fun p35 =>
 some (p35.1, b4))
 else
 some (b3, b4)) := (B0 ..).trans (by kernel_rfl)
theorem Z185_eq (a1 b2 : Int) (b3 b4 : List Int) : Z185 a1 b2 b3 b4 =
 let t5 := i64.wrap (b2 - a1);
 let t6 := i64.wrap (t5.tdiv 4);
 let t7 := i64.wrap (t6 * 1);
 let t8 := i64.wrap (a1 + t7);
 let t9 := i64.wrap (t5.tdiv 4);
 let t10 := i64.wrap (t9 * 2);
 let t11 := i64.wrap (a1 + t10);
 let t12 := i64.wrap (t5.tdiv 4);
 let t13 := i64.wrap (t12 * 3);
 let t14 := i64.wrap (a1 + t13);
 ((if (decide (t5 ≥ 8)) = true then
 ((if (decide (t5 ≥ 50)) = true then
 (Z194 t8 b3 0 b4).bind fun q15 =>
 (Z194 t11 q15.2.1 q15.2.2.1 q15.2.2.2).bind fun q20 =>
 (Z194 t14 q20.2.1 q20.2.2.1 q20.2.2.2).bind fun q25 =>
 some (q15.1, q20.1, q25.1, q25.2.1, q25.2.2.2, q25.2.2.1)
 else
 some (t8, t11, t14, b3, b4, 0)) : Option (Int × Int × Int × (List Int) × (List Int) × Int)).bind (fun p30 =>
 (Z195 p30.1 p30.2.1 p30.2.2.1 p30.2.2.2.1 p30.2.2.2.2.2 p30.2.2.2.2.1).bind fun q37 =>
 some (q37.1, q37.2.1, q37.2.2.2, q37.2.2.1))
 else
 some (t11, b3, b4, 0)) : Option (Int × (List Int) × (List Int) × Int)).bind (fun p42 =>
 (if (decide (p42.2.2.2 = 0)) = true then
 some (p42.1, 1, p42.2.1, p42.2.2.1)
 else
 (if (decide (p42.2.2.2 = 12)) = true then
 some (p42.1, 2, p42.2.1, p42.2.2.1)
 else
 some (p42.1, 0, p42.2.1, p42.2.2.1)))) := (B0 ..).trans (by kernel_rfl)
noncomputable def Z186l2 (s6 : Int × Int × (List Int)) : Option ((Int × Int × (List Int)) ⊕ ((List Int))) :=
 let j8 := s6.2.1;
 let b9 := s6.2.2;
 (if (decide (s6.1 < j8)) = true then
 (if 0 <= j8 ∧ j8 < (b9.length : Int) then
 let t10 : Int := rd b9 j8;
 (if 0 <= s6.1 ∧ s6.1 < (b9.length : Int) then
 let t11 : Int := rd b9 s6.1;
 (if 0 <= s6.1 ∧ s6.1 < (b9.length : Int) then
 let w12 : List Int := b9.set s6.1.toNat t10;
 (if 0 <= j8 ∧ j8 < (w12.length : Int) then
 let w13 : List Int := w12.set j8.toNat t11;
 let t14 := i64.wrap (s6.1 + 1);
 let t15 := i64.wrap (j8 - 1);
 some (Sum.inl (t14, t15, w13))
 else
 none)
 else
 none)
 else
 none)
 else
 none)
 else
 some (Sum.inr b9))
theorem Z186_eq (a1 b2 : Int) (b3 b4 : List Int) : Z186 a1 b2 b3 b4 =
 let t5 := i64.wrap (b2 - 1);
 (loop (Z186l2) (a1, t5, b3)).bind (fun b16 =>
 some (b16, b4)) := (B0 ..).trans (by kernel_rfl)
noncomputable def Z187l5 (b2 : Int) (b9 : List Int) (s11 : Int × (List Int)) : Option ((Int × (List Int)) ⊕ (Int × (List Int))) :=
 (if (decide (s11.1 < b2)) = true then
 (if 0 <= s11.1 ∧ s11.1 < (b9.length : Int) then
 let t14 : Int := rd b9 s11.1;
 let t15 := i64.wrap (s11.1 - 1);
 (if 0 <= t15 ∧ t15 < (b9.length : Int) then
 let t16 : Int := rd b9 t15;
 (Z188 t14 t16 s11.2).bind fun q17 =>
 (if (!(decide (q17.1 < 0))) = true then
 let t20 := i64.wrap (s11.1 + 1);
 some (Sum.inl (t20, q17.2))
 else
 some (Sum.inr (s11.1, q17.2)))
 else
 none)
 else
 none)
 else
 some (Sum.inr (s11.1, s11.2)))
noncomputable def Z187l14 (s33 : Int × (List Int) × (List Int)) : Option ((Int × (List Int) × (List Int)) ⊕ ((List Int) × (List Int))) :=
 let j34 := s33.1;
 let b35 := s33.2.1;
 (if (decide (j34 ≥ 1)) = true then
 (if 0 <= j34 ∧ j34 < (b35.length : Int) then
 let t37 : Int := rd b35 j34;
 let t38 := i64.wrap (j34 - 1);
 (if 0 <= t38 ∧ t38 < (b35.length : Int) then
 let t39 : Int := rd b35 t38;
 (Z188 t37 t39 s33.2.2).bind fun q40 =>
 (if (!(decide (q40.1 < 0))) = true then
 some (Sum.inr (b35, q40.2))
 else
 let t43 := i64.wrap (j34 - 1);
 let t44 := i64.wrap (j34 - 1);
 (if 0 <= t44 ∧ t44 < (b35.length : Int) then
 let t45 : Int := rd b35 t44;
 (if 0 <= j34 ∧ j34 < (b35.length : Int) then
 let t46 : Int := rd b35 j34;
 (if 0 <= j34 ∧ j34 < (b35.length : Int) then
 let w47 : List Int := b35.set j34.toNat t45;
 (if 0 <= t43 ∧ t43 < (w47.length : Int) then
 let w48 : List Int := w47.set t43.toNat t46;
 let t49 := i64.wrap (j34 - 1);
 some (Sum.inl (t49, w48, q40.2))
 else
 none)
 else
 none)
 else
 none)
 else
 none))
 else
 none)
 else
 none)
 else
 some (Sum.inr (b35, s33.2.2)))
noncomputable def Z187l20 (b2 : Int) (s58 : Int × (List Int) × (List Int)) : Option ((Int × (List Int) × (List Int)) ⊕ ((List Int) × (List Int))) :=
 let j59 := s58.1;
 let b60 := s58.2.1;
 (if (decide (j59 < b2)) = true then
 (if 0 <= j59 ∧ j59 < (b60.length : Int) then
 let t62 : Int := rd b60 j59;
 let t63 := i64.wrap (j59 - 1);
 (if 0 <= t63 ∧ t63 < (b60.length : Int) then
 let t64 : Int := rd b60 t63;
 (Z188 t62 t64 s58.2.2).bind fun q65 =>
 (if (!(decide (q65.1 < 0))) = true then
 some (Sum.inr (b60, q65.2))
 else
 let t68 := i64.wrap (j59 - 1);
 let t69 := i64.wrap (j59 - 1);
 (if 0 <= t69 ∧ t69 < (b60.length : Int) then
 let t70 : Int := rd b60 t69;
 (if 0 <= j59 ∧ j59 < (b60.length : Int) then
 let t71 : Int := rd b60 j59;
 (if 0 <= j59 ∧ j59 < (b60.length : Int) then
 let w72 : List Int := b60.set j59.toNat t70;
 (if 0 <= t68 ∧ t68 < (w72.length : Int) then
 let w73 : List Int := w72.set t68.toNat t71;
 let t74 := i64.wrap (j59 + 1);
 some (Sum.inl (t74, w73, q65.2))
 else
 none)
 else
 none)
 else
 none)
 else
 none))
 else
 none)
 else
 none)
 else
 some (Sum.inr (b60, s58.2.2)))
noncomputable def Z187l3 (a1 b2 : Int) (s6 : Int × Int × (List Int) × (List Int)) : Option ((Int × Int × (List Int) × (List Int)) ⊕ (((List Int) × (List Int)) ⊕ (Bool × (List Int) × (List Int)))) :=
 let b9 := s6.2.2.1;
 (if (decide (s6.2.1 < 5)) = true then
 (loop (Z187l5 b2 b9) (s6.1, s6.2.2.2)).bind (fun p21 =>
 let i22 := p21.1;
 (if (decide (i22 = b2)) = true then
 some (Sum.inr (Sum.inr (true, b9, p21.2)))
 else
 let t24 := i64.wrap (b2 - a1);
 (if (decide (t24 < 50)) = true then
 some (Sum.inr (Sum.inr (false, b9, p21.2)))
 else
 let t25 := i64.wrap (i22 - 1);
 let t26 := i64.wrap (i22 - 1);
 (if 0 <= t26 ∧ t26 < (b9.length : Int) then
 let t27 : Int := rd b9 t26;
 (if 0 <= i22 ∧ i22 < (b9.length : Int) then
 let t28 : Int := rd b9 i22;
 (if 0 <= i22 ∧ i22 < (b9.length : Int) then
 let w29 : List Int := b9.set i22.toNat t27;
 (if 0 <= t25 ∧ t25 < (w29.length : Int) then
 let w30 : List Int := w29.set t25.toNat t28;
 let t31 := i64.wrap (i22 - a1);
 ((if (decide (t31 ≥ 2)) = true then
 let t32 := i64.wrap (i22 - 1);
 (loop (Z187l14) (t32, w30, p21.2)).bind (fun p50 =>
 some (p50.1, p50.2))
 else
 some (w30, p21.2)) : Option ((List Int) × (List Int))).bind (fun p53 =>
 let t56 := i64.wrap (b2 - i22);
 (if (decide (t56 ≥ 2)) = true then
 let t57 := i64.wrap (i22 + 1);
 (loop (Z187l20 b2) (t57, p53.1, p53.2)).bind (fun p80 =>
 let t83 := i64.wrap (s6.2.1 + 1);
 some (Sum.inl (i22, t83, p80.1, p80.2)))
 else
 let t84 := i64.wrap (s6.2.1 + 1);
 some (Sum.inl (i22, t84, p53.1, p53.2))))
 else
 none)
 else
 none)
 else
 none)
 else
 none))))
 else
 some (Sum.inr (Sum.inl (b9, s6.2.2.2))))
theorem Z187_eq (a1 b2 : Int) (b3 b4 : List Int) : Z187 a1 b2 b3 b4 =
 let t5 := i64.wrap (a1 + 1);
 (loop (Z187l3 a1 b2) (t5, 0, b3, b4)).bind (fun o98 =>
 (Sum.elim (fun (p91 : (List Int) × (List Int)) =>
 some (false, p91.1, p91.2))
 (fun (p94 : Bool × (List Int) × (List Int)) =>
 some (p94.1, p94.2.1, p94.2.2)) o98)) := (B0 ..).trans (by kernel_rfl)
theorem Z188_eq (a1 b2 : Int) (b3 : List Int) : Z188 a1 b2 b3 =
 (if 0 <= a1 ∧ a1 <= ((b3.length : Nat) : Int) then
 let t4 : List Int := cutL b3 a1.toNat b3.length;
 (if 0 <= b2 ∧ b2 <= ((b3.length : Nat) : Int) then
 let t5 : List Int := cutL b3 b2.toNat b3.length;
 (Z196 t4 t5).bind fun q6 =>
 some (q6, b3)
 else
 none)
 else
 none) := (B0 ..).trans (by kernel_rfl)
noncomputable def Z189l3 (a1 j14 : Int) (b15 : List Int) (s17 : Int × (List Int)) : Option ((Int × (List Int)) ⊕ (Int × (List Int))) :=
 (if (decide (s17.1 <= j14)) = true then
 (if 0 <= a1 ∧ a1 < (b15.length : Int) then
 let t20 : Int := rd b15 a1;
 (if 0 <= s17.1 ∧ s17.1 < (b15.length : Int) then
 let t21 : Int := rd b15 s17.1;
 (Z188 t20 t21 s17.2).bind fun q22 =>
 (if (!(decide (q22.1 < 0))) = true then
 let t25 := i64.wrap (s17.1 + 1);
 some (Sum.inl (t25, q22.2))
 else
 some (Sum.inr (s17.1, q22.2)))
 else
 none)
 else
 none)
 else
 some (Sum.inr (s17.1, s17.2)))
noncomputable def Z189l5 (a1 : Int) (b15 : List Int) (i27 : Int) (s29 : Int × (List Int)) : Option ((Int × (List Int)) ⊕ (Int × (List Int))) :=
 (if (decide (i27 <= s29.1)) = true then
 (if 0 <= a1 ∧ a1 < (b15.length : Int) then
 let t32 : Int := rd b15 a1;
 (if 0 <= s29.1 ∧ s29.1 < (b15.length : Int) then
 let t33 : Int := rd b15 s29.1;
 (Z188 t32 t33 s29.2).bind fun q34 =>
 (if (decide (q34.1 < 0)) = true then
 let t37 := i64.wrap (s29.1 - 1);
 some (Sum.inl (t37, q34.2))
 else
 some (Sum.inr (s29.1, q34.2)))
 else
 none)
 else
 none)
 else
 some (Sum.inr (s29.1, s29.2)))
noncomputable def Z189l1000003 (a1 : Int) (s12 : Int × Int × (List Int) × (List Int)) : Option ((Int × Int × (List Int) × (List Int)) ⊕ (Int × (List Int) × (List Int))) :=
 let b15 := s12.2.2.1;
 (loop (Z189l3 a1 s12.2.1 b15) (s12.1, s12.2.2.2)).bind (fun p26 =>
 let i27 := p26.1;
 (loop (Z189l5 a1 b15 i27) (s12.2.1, p26.2)).bind (fun p38 =>
 (if (decide (i27 > p38.1)) = true then
 some (Sum.inr (i27, b15, p38.2))
 else
 (if 0 <= p38.1 ∧ p38.1 < (b15.length : Int) then
 let t41 : Int := rd b15 p38.1;
 (if 0 <= i27 ∧ i27 < (b15.length : Int) then
 let t42 : Int := rd b15 i27;
 (if 0 <= i27 ∧ i27 < (b15.length : Int) then
 let w43 : List Int := b15.set i27.toNat t41;
 (if 0 <= p38.1 ∧ p38.1 < (w43.length : Int) then
 let w44 : List Int := w43.set p38.1.toNat t42;
 let t45 := i64.wrap (i27 + 1);
 let t46 := i64.wrap (p38.1 - 1);
 some (Sum.inl (t45, t46, w44, p38.2))
 else
 none)
 else
 none)
 else
 none)
 else
 none))))
theorem Z189_eq (a1 b2 pivot3 : Int) (b4 b5 : List Int) : Z189 a1 b2 pivot3 b4 b5 =
 (if 0 <= pivot3 ∧ pivot3 < (b4.length : Int) then
 let t6 : Int := rd b4 pivot3;
 (if 0 <= a1 ∧ a1 < (b4.length : Int) then
 let t7 : Int := rd b4 a1;
 (if 0 <= a1 ∧ a1 < (b4.length : Int) then
 let w8 : List Int := b4.set a1.toNat t6;
 (if 0 <= pivot3 ∧ pivot3 < (w8.length : Int) then
 let w9 : List Int := w8.set pivot3.toNat t7;
 let t10 := i64.wrap (a1 + 1);
 let t11 := i64.wrap (b2 - 1);
 (loop (Z189l1000003 a1) (t10, t11, w9, b5)).bind (fun p47 =>
 some (p47.1, p47.2.1, p47.2.2))
 else
 none)
 else
 none)
 else
 none)
 else
 none) := (B0 ..).trans (by kernel_rfl)
noncomputable def Z190l3 (a1 : Int) (w9 : List Int) (t11 : Int) (s12 : Int × (List Int)) : Option ((Int × (List Int)) ⊕ (Int × (List Int))) :=
 (if (decide (s12.1 <= t11)) = true then
 (if 0 <= s12.1 ∧ s12.1 < (w9.length : Int) then
 let t15 : Int := rd w9 s12.1;
 (if 0 <= a1 ∧ a1 < (w9.length : Int) then
 let t16 : Int := rd w9 a1;
 (Z188 t15 t16 s12.2).bind fun q17 =>
 (if (decide (q17.1 < 0)) = true then
 let t20 := i64.wrap (s12.1 + 1);
 some (Sum.inl (t20, q17.2))
 else
 some (Sum.inr (s12.1, q17.2)))
 else
 none)
 else
 none)
 else
 some (Sum.inr (s12.1, s12.2)))
noncomputable def Z190l5 (a1 : Int) (w9 : List Int) (i22 : Int) (s24 : Int × (List Int)) : Option ((Int × (List Int)) ⊕ (Int × (List Int))) :=
 (if (decide (i22 <= s24.1)) = true then
 (if 0 <= s24.1 ∧ s24.1 < (w9.length : Int) then
 let t27 : Int := rd w9 s24.1;
 (if 0 <= a1 ∧ a1 < (w9.length : Int) then
 let t28 : Int := rd w9 a1;
 (Z188 t27 t28 s24.2).bind fun q29 =>
 (if (!(decide (q29.1 < 0))) = true then
 let t32 := i64.wrap (s24.1 - 1);
 some (Sum.inl (t32, q29.2))
 else
 some (Sum.inr (s24.1, q29.2)))
 else
 none)
 else
 none)
 else
 some (Sum.inr (s24.1, s24.2)))
noncomputable def Z190l13 (a1 j48 : Int) (b49 : List Int) (s51 : Int × (List Int)) : Option ((Int × (List Int)) ⊕ (Int × (List Int))) :=
 (if (decide (s51.1 <= j48)) = true then
 (if 0 <= s51.1 ∧ s51.1 < (b49.length : Int) then
 let t54 : Int := rd b49 s51.1;
 (if 0 <= a1 ∧ a1 < (b49.length : Int) then
 let t55 : Int := rd b49 a1;
 (Z188 t54 t55 s51.2).bind fun q56 =>
 (if (decide (q56.1 < 0)) = true then
 let t59 := i64.wrap (s51.1 + 1);
 some (Sum.inl (t59, q56.2))
 else
 some (Sum.inr (s51.1, q56.2)))
 else
 none)
 else
 none)
 else
 some (Sum.inr (s51.1, s51.2)))
noncomputable def Z190l15 (a1 : Int) (b49 : List Int) (i61 : Int) (s63 : Int × (List Int)) : Option ((Int × (List Int)) ⊕ (Int × (List Int))) :=
 (if (decide (i61 <= s63.1)) = true then
 (if 0 <= s63.1 ∧ s63.1 < (b49.length : Int) then
 let t66 : Int := rd b49 s63.1;
 (if 0 <= a1 ∧ a1 < (b49.length : Int) then
 let t67 : Int := rd b49 a1;
 (Z188 t66 t67 s63.2).bind fun q68 =>
 (if (!(decide (q68.1 < 0))) = true then
 let t71 := i64.wrap (s63.1 - 1);
 some (Sum.inl (t71, q68.2))
 else
 some (Sum.inr (s63.1, q68.2)))
 else
 none)
 else
 none)
 else
 some (Sum.inr (s63.1, s63.2)))
noncomputable def Z190l1000013 (a1 : Int) (s46 : Int × Int × (List Int) × (List Int)) : Option ((Int × Int × (List Int) × (List Int)) ⊕ (Int × (List Int) × (List Int))) :=
 let b49 := s46.2.2.1;
 (loop (Z190l13 a1 s46.2.1 b49) (s46.1, s46.2.2.2)).bind (fun p60 =>
 (loop (Z190l15 a1 b49 p60.1) (s46.2.1, p60.2)).bind (fun p72 =>
 (if (decide (p60.1 > p72.1)) = true then
 some (Sum.inr (p72.1, b49, p72.2))
 else
 (if 0 <= p72.1 ∧ p72.1 < (b49.length : Int) then
 let t75 : Int := rd b49 p72.1;
 (if 0 <= p60.1 ∧ p60.1 < (b49.length : Int) then
 let t76 : Int := rd b49 p60.1;
 (if 0 <= p60.1 ∧ p60.1 < (b49.length : Int) then
 let w77 : List Int := b49.set p60.1.toNat t75;
 (if 0 <= p72.1 ∧ p72.1 < (w77.length : Int) then
 let w78 : List Int := w77.set p72.1.toNat t76;
 let t79 := i64.wrap (p60.1 + 1);
 let t80 := i64.wrap (p72.1 - 1);
 some (Sum.inl (t79, t80, w78, p72.2))
 else
 none)
 else
 none)
 else
 none)
 else
 none))))
theorem Z190_eq (a1 b2 pivot3 : Int) (b4 b5 : List Int) : Z190 a1 b2 pivot3 b4 b5 =
 (if 0 <= pivot3 ∧ pivot3 < (b4.length : Int) then
 let t6 : Int := rd b4 pivot3;
 (if 0 <= a1 ∧ a1 < (b4.length : Int) then
 let t7 : Int := rd b4 a1;
 (if 0 <= a1 ∧ a1 < (b4.length : Int) then
 let w8 : List Int := b4.set a1.toNat t6;
 (if 0 <= pivot3 ∧ pivot3 < (w8.length : Int) then
 let w9 : List Int := w8.set pivot3.toNat t7;
 let t10 := i64.wrap (a1 + 1);
 let t11 := i64.wrap (b2 - 1);
 (loop (Z190l3 a1 w9 t11) (t10, b5)).bind (fun p21 =>
 (loop (Z190l5 a1 w9 p21.1) (t11, p21.2)).bind (fun p33 =>
 let j34 := p33.1;
 (if (decide (p21.1 > j34)) = true then
 (if 0 <= a1 ∧ a1 < (w9.length : Int) then
 let t36 : Int := rd w9 a1;
 (if 0 <= j34 ∧ j34 < (w9.length : Int) then
 let t37 : Int := rd w9 j34;
 (if 0 <= j34 ∧ j34 < (w9.length : Int) then
 let w38 : List Int := w9.set j34.toNat t36;
 (if 0 <= a1 ∧ a1 < (w38.length : Int) then
 let w39 : List Int := w38.set a1.toNat t37;
 some (j34, true, w39, p33.2)
 else
 none)
 else
 none)
 else
 none)
 else
 none)
 else
 (if 0 <= j34 ∧ j34 < (w9.length : Int) then
 let t40 : Int := rd w9 j34;
 (if 0 <= p21.1 ∧ p21.1 < (w9.length : Int) then
 let t41 : Int := rd w9 p21.1;
 (if 0 <= p21.1 ∧ p21.1 < (w9.length : Int) then
 let w42 : List Int := w9.set p21.1.toNat t40;
 (if 0 <= j34 ∧ j34 < (w42.length : Int) then
 let w43 : List Int := w42.set j34.toNat t41;
 let t44 := i64.wrap (p21.1 + 1);
 let t45 := i64.wrap (j34 - 1);
 (loop (Z190l1000013 a1) (t44, t45, w43, p33.2)).bind (fun p81 =>
 let b83 := p81.2.1;
 (if 0 <= a1 ∧ a1 < (b83.length : Int) then
 let t85 : Int := rd b83 a1;
 (if 0 <= p81.1 ∧ p81.1 < (b83.length : Int) then
 let t86 : Int := rd b83 p81.1;
 (if 0 <= p81.1 ∧ p81.1 < (b83.length : Int) then
 let w87 : List Int := b83.set p81.1.toNat t85;
 (if 0 <= a1 ∧ a1 < (w87.length : Int) then
 let w88 : List Int := w87.set a1.toNat t86;
 some (p81.1, false, w88, p81.2.2)
 else
 none)
 else
 none)
 else
 none)
 else
 none))
 else
 none)
 else
 none)
 else
 none)
 else
 none))))
 else
 none)
 else
 none)
 else
 none)
 else
 none) := (B0 ..).trans (by kernel_rfl)
noncomputable def Z191l1 (hi2 first3 : Int) (s6 : Int × (List Int) × (List Int)) : Option ((Int × (List Int) × (List Int)) ⊕ (((List Int) × (List Int)) ⊕ ((List Int) × (List Int)))) :=
 let b8 := s6.2.1;
 let t10 := i64.wrap (2 * s6.1);
 let t11 := i64.wrap (t10 + 1);
 (if (decide (t11 ≥ hi2)) = true then
 some (Sum.inr (Sum.inl (b8, s6.2.2)))
 else
 (let t12 := i64.wrap (t11 + 1);
 (if (decide (t12 < hi2)) = true then
 let t13 := i64.wrap (first3 + t11);
 (if 0 <= t13 ∧ t13 < (b8.length : Int) then
 let t14 : Int := rd b8 t13;
 let t15 := i64.wrap (first3 + t11);
 let t16 := i64.wrap (t15 + 1);
 (if 0 <= t16 ∧ t16 < (b8.length : Int) then
 let t17 : Int := rd b8 t16;
 (Z188 t14 t17 s6.2.2).bind fun q18 =>
 some (decide (q18.1 < 0), q18.2)
 else
 none)
 else
 none)
 else
 some (false, s6.2.2)) : Option (Bool × (List Int))).bind (fun p21 =>
 ((if p21.1 = true then
 let t24 := i64.wrap (t11 + 1);
 some t24
 else
 some t11) : Option (Int)).bind (fun child25 =>
 let t26 := i64.wrap (first3 + s6.1);
 (if 0 <= t26 ∧ t26 < (b8.length : Int) then
 let t27 : Int := rd b8 t26;
 let t28 := i64.wrap (first3 + child25);
 (if 0 <= t28 ∧ t28 < (b8.length : Int) then
 let t29 : Int := rd b8 t28;
 (Z188 t27 t29 p21.2).bind fun q30 =>
 (if (!(decide (q30.1 < 0))) = true then
 some (Sum.inr (Sum.inr (b8, q30.2)))
 else
 let t33 := i64.wrap (first3 + s6.1);
 let t34 := i64.wrap (first3 + child25);
 let t35 := i64.wrap (first3 + child25);
 (if 0 <= t35 ∧ t35 < (b8.length : Int) then
 let t36 : Int := rd b8 t35;
 let t37 := i64.wrap (first3 + s6.1);
 (if 0 <= t37 ∧ t37 < (b8.length : Int) then
 let t38 : Int := rd b8 t37;
 (if 0 <= t33 ∧ t33 < (b8.length : Int) then
 let w39 : List Int := b8.set t33.toNat t36;
 (if 0 <= t34 ∧ t34 < (w39.length : Int) then
 let w40 : List Int := w39.set t34.toNat t38;
 some (Sum.inl (child25, w40, q30.2))
 else
 none)
 else
 none)
 else
 none)
 else
 none))
 else
 none)
 else
 none))))
theorem Z191_eq (lo1 hi2 first3 : Int) (b4 b5 : List Int) : Z191 lo1 hi2 first3 b4 b5 =
 (loop (Z191l1 hi2 first3) (lo1, b4, b5)).bind (fun o47 =>
 (Sum.elim (fun (p41 : (List Int) × (List Int)) =>
 some (p41.1, p41.2))
 (fun (p44 : (List Int) × (List Int)) =>
 some (p44.1, p44.2)) o47)) := (B0 ..).trans (by kernel_rfl)
theorem Z192_eq (length1 : Int) : Z192 length1 =
 let t2 := u64.wrap length1;
 (Z158 t2).bind fun q3 =>
 (if q3 < 0 then
 none
 else
 let t4 := ishl .u64 1 q3;
 some t4) := (B0 ..).trans (by kernel_rfl)
theorem Z193_eq (b1 : Int) : Z193 b1 =
 let t2 := ishl .u64 b1 13;
 let t3 := ixor .u64 b1 t2;
 let t4 := ishr .u64 t3 7;
 let t5 := ixor .u64 t3 t4;
 let t6 := ishl .u64 t5 17;
 let t7 := ixor .u64 t5 t6;
 some (t7, t7) := (B0 ..).trans (by kernel_rfl)
theorem Z194_eq (a1 : Int) (b2 : List Int) (b3 : Int) (b4 : List Int) : Z194 a1 b2 b3 b4 =
 let t5 := i64.wrap (a1 - 1);
 let t6 := i64.wrap (a1 + 1);
 (Z195 t5 a1 t6 b2 b3 b4).bind fun q7 =>
 some (q7.1, q7.2.1, q7.2.2.1, q7.2.2.2) := (B0 ..).trans (by kernel_rfl)
theorem Z195_eq (a1 b2 c3 : Int) (b4 : List Int) (b5 : Int) (b6 : List Int) : Z195 a1 b2 c3 b4 b5 b6 =
 (Z197 a1 b2 b4 b5 b6).bind fun q7 =>
 (Z197 q7.2.1 c3 q7.2.2.1 q7.2.2.2.1 q7.2.2.2.2).bind fun q13 =>
 (Z197 q7.1 q13.1 q13.2.2.1 q13.2.2.2.1 q13.2.2.2.2).bind fun q19 =>
 some (q19.2.1, q19.2.2.1, q19.2.2.2.1, q19.2.2.2.2) := (B0 ..).trans (by kernel_rfl)
theorem Z196_eq (a1 b2 : List Int) : Z196 a1 b2 =
 let t3 : Int := cmpI a1 b2;
 some t3 := (B0 ..).trans (by kernel_rfl)
theorem Z197_eq (a1 b2 : Int) (b3 : List Int) (b4 : Int) (b5 : List Int) : Z197 a1 b2 b3 b4 b5 =
 (if 0 <= b2 ∧ b2 < (b3.length : Int) then
 let t6 : Int := rd b3 b2;
 (if 0 <= a1 ∧ a1 < (b3.length : Int) then
 let t7 : Int := rd b3 a1;
 (Z188 t6 t7 b5).bind fun q8 =>
 (if (decide (q8.1 < 0)) = true then
 let t11 := i64.wrap (b4 + 1);
 some (b2, a1, b3, t11, q8.2)
 else
 some (a1, b2, b3, b4, q8.2))
 else
 none)
 else
 none) := (B0 ..).trans (by kernel_rfl)
end
end Go.Proofs.YtcphcfknnfibmaaGreat.P
