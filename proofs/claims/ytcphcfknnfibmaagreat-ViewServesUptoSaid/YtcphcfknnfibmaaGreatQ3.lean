/- Part of the proof of ViewServes: equations of functions. -/
import Derived.Test.YtcphcfknnfibmaaGreatG
import Derived.Test.YtcphcfknnfibmaaGreatF5
namespace Go.Proofs.YtcphcfknnfibmaaGreat.P
open Go Go.IntKind Go.Proofs.YtcphcfknnfibmaaGreat.V
set_option linter.unusedVariables false
set_option linter.unusedSimpArgs false
set_option maxRecDepth 100000
noncomputable section
noncomputable def Z171l8 (s17 : Int × Int × Int × (List Int) × (List Int)) : Option ((Int × Int × Int × (List Int) × (List Int)) ⊕ (Int × Int × Int × (List Int) × (List Int))) :=
 let b20 := s17.2.2.1;
 (Z187 s17.2.1 b20).bind fun q23 =>
 (if q23 = true then
 let t24 := ishr .u64 b20 24;
 let t25 := u8.wrap t24;
 (if (s17.2.2.2.2.length + ([t25] : List Int).length) * 1 <= 140737488355328 then
 let t26 : List Int := s17.2.2.2.2 ++ [t25];
 (Z188 s17.2.1 b20).bind fun q27 =>
 some (Sum.inl (s17.1, q27.1, q27.2, s17.2.2.2.1, t26))
 else
 none)
 else
 some (Sum.inr (s17.1, s17.2.1, b20, s17.2.2.2.1, s17.2.2.2.2)))
theorem Z171_eq (ctx1 bit2 b3 b4 b5 : Int) (b6 b7 : List Int) : Z171 ctx1 bit2 b3 b4 b5 b6 b7 =
 ((if (decide (ctx1 < 0)) = true then
 some true
 else
 (if (decide (ctx1 ≥ ((b6.length : Nat) : Int))) = true then
 some true
 else
 (if (!decide (bit2 = 0)) = true then
 some (!decide (bit2 = 1))
 else
 some false))) : Option (Bool)).bind (fun v8 =>
 (if v8 = true then
 some (2, b3, b4, b5, b6, b7)
 else
 (if 0 <= ctx1 ∧ ctx1 < (b6.length : Int) then
 let t9 : Int := rd b6 ctx1;
 (Z184 b3 t9).bind fun q10 =>
 (Z185 b4 b5 q10 bit2).bind fun q11 =>
 (if 0 <= ctx1 ∧ ctx1 < (b6.length : Int) then
 let t14 : Int := rd b6 ctx1;
 (Z186 b3 t14 bit2).bind fun q15 =>
 (if 0 <= ctx1 ∧ ctx1 < (b6.length : Int) then
 let w16 : List Int := b6.set ctx1.toNat q15;
 (loop (Z171l8) (b3, q11.1, q11.2, w16, b7)).bind (fun p30 =>
 some (0, p30.1, p30.2.1, p30.2.2.1, p30.2.2.2.1, p30.2.2.2.2))
 else
 none)
 else
 none)
 else
 none))) := (B0 ..).trans (by kernel_rfl)
noncomputable def Z172l3 (x1 x2 : Int) (s3 : Int × (List Int)) : Option ((Int × (List Int)) ⊕ ((List Int))) :=
 (if (decide (s3.1 < x1)) = true then
 let t6 := i64.wrap (8 * ((s3.2.length : Nat) : Int));
 let t7 := i64.wrap (24 - t6);
 (if t7 < 0 then
 none
 else
 let t8 := ishr .u64 x2 t7;
 let t9 := u8.wrap t8;
 (if (s3.2.length + ([t9] : List Int).length) * 1 <= 140737488355328 then
 let t10 : List Int := s3.2 ++ [t9];
 (if t7 < 0 then
 none
 else
 let t11 := ishr .u64 x2 t7;
 let t12 : Int := t11.tmod 256;
 (if t7 < 0 then
 none
 else
 let t13 := ishl .u64 t12 t7;
 let t14 := u64.wrap (s3.1 + t13);
 some (Sum.inl (t14, t10))))
 else
 none))
 else
 some (Sum.inr s3.2))
theorem Z172_eq (x1 x2 : Int) : Z172 x1 x2 =
 (loop (Z172l3 x1 x2) (0, [])).bind (fun out15 =>
 some out15) := (B0 ..).trans (by kernel_rfl)
noncomputable def Z173_b (kind1 s2 : Int) : Option Int :=
 (if (decide (kind1 = 1)) = true then
 let t3 := i64.wrap (s2.tdiv 256);
 let t4 : Int := s2.tmod 256;
 let t5 := i64.wrap (2 * t4);
 let t6 := i64.wrap (t5 + 1);
 let t7 := i64.wrap (t6 * 4096);
 let t8 := i64.wrap (2 * t3);
 let t9 := i64.wrap (2 * t4);
 let t10 := i64.wrap (t8 + t9);
 let t11 := i64.wrap (t10 + 2);
 (if t11 = 0 then
 none
 else
 let t12 := i64.wrap (t7.tdiv t11);
 let t13 := imax t12 1;
 let t14 := imin t13 4095;
 some t14)
 else
 (if (decide (s2 ≥ 32)) = true then
 let t15 := i64.wrap (s2 - 32);
 (if 0 <= t15 ∧ t15 < ((32 : Nat) : Int) then
 let t16 : Int := rd [2048, 1792, 1568, 1372, 1201, 1051, 920, 805, 705, 617, 540, 473, 414, 363, 318, 279, 245, 215, 189, 166, 146, 128, 112, 98, 86, 76, 67, 59, 52, 46, 41, 36] t15;
 let t17 := i64.wrap (4096 - t16);
 some t17
 else
 none)
 else
 (if 0 <= s2 ∧ s2 < ((32 : Nat) : Int) then
 let t18 : Int := rd [2048, 1792, 1568, 1372, 1201, 1051, 920, 805, 705, 617, 540, 473, 414, 363, 318, 279, 245, 215, 189, 166, 146, 128, 112, 98, 86, 76, 67, 59, 52, 46, 41, 36] s2;
 some t18
 else
 none)))
theorem Z173_eq kind1 s2 : Z173 kind1 s2 = Z173_b kind1 s2 := (B0 ..).trans (by kernel_rfl)
noncomputable def Z174_b (kind1 s2 bit3 : Int) : Option Int :=
 (if (decide (kind1 = 1)) = true then
 let t4 := i64.wrap (s2.tdiv 256);
 let t5 : Int := s2.tmod 256;
 (if 0 <= bit3 ∧ bit3 < ((2 : Nat) : Int) then
 let t6 : Int := rd [t4, t5] bit3;
 ((if (decide (t6 = 255)) = true then
 (if 0 <= (0 : Int) ∧ (0 : Int) < ((2 : Nat) : Int) then
 let t7 := i64.wrap (t4.tdiv 2);
 (if 0 <= (1 : Int) ∧ (1 : Int) < ((2 : Nat) : Int) then
 let t8 := i64.wrap (t5.tdiv 2);
 (if 0 <= (0 : Int) ∧ (0 : Int) < ((2 : Nat) : Int) then
 (if 0 <= (1 : Int) ∧ (1 : Int) < ((2 : Nat) : Int) then
 some (t7, t8)
 else
 none)
 else
 none)
 else
 none)
 else
 none)
 else
 some (t4, t5)) : Option (Int × Int)).bind (fun p9 =>
 (if 0 <= bit3 ∧ bit3 < ((2 : Nat) : Int) then
 let t12 : Int := rd [p9.1, p9.2] bit3;
 let t13 := i64.wrap (t12 + 1);
 (if 0 <= bit3 ∧ bit3 < ((2 : Nat) : Int) then
 let c14 : Int := if bit3 = 0 then t13 else p9.1;
 let c15 : Int := if bit3 = 1 then t13 else p9.2;
 (if 0 <= (0 : Int) ∧ (0 : Int) < ((2 : Nat) : Int) then
 let t16 := i64.wrap (256 * c14);
 (if 0 <= (1 : Int) ∧ (1 : Int) < ((2 : Nat) : Int) then
 let t17 := i64.wrap (t16 + c15);
 some t17
 else
 none)
 else
 none)
 else
 none)
 else
 none))
 else
 none)
 else
 let t18 := i64.wrap (s2.tdiv 32);
 let t19 : Int := s2.tmod 32;
 (if (decide (bit3 = t18)) = true then
 let t20 := i64.wrap (t19 + 1);
 let t21 := imin t20 31;
 let t22 := i64.wrap (32 * t18);
 let t23 := i64.wrap (t22 + t21);
 some t23
 else
 (if (decide (t19 = 0)) = true then
 let t24 := i64.wrap (32 * bit3);
 let t25 := i64.wrap (t24 + t19);
 some t25
 else
 let t26 := i64.wrap (t19.tdiv 4);
 let t27 := i64.wrap (1 + t26);
 let t28 := i64.wrap (t19 - t27);
 let t29 := i64.wrap (32 * t18);
 let t30 := i64.wrap (t29 + t28);
 some t30)))
theorem Z174_eq kind1 s2 bit3 : Z174 kind1 s2 bit3 = Z174_b kind1 s2 bit3 := (B0 ..).trans (by kernel_rfl)
noncomputable def Z175l2_b (Z189 : type_of% @Z189) (s1 : List Int) (v2 : Int) : Option ((Int) ⊕ ((Unit) ⊕ (Int))) :=
 (if (decide (v2 < ((s1.length : Nat) : Int))) = true then
 (if 0 <= v2 ∧ v2 < (s1.length : Int) then
 (Z189 (rd s1 v2)).bind fun q3 =>
 (if q3 = true then
 some (Sum.inr (Sum.inr v2))
 else
 let t4 := i64.wrap (v2 + 1);
 some (Sum.inl t4))
 else
 none)
 else
 some (Sum.inr (Sum.inl ())))
noncomputable def Z175l2 := Z175l2_b @Z189
noncomputable def Z175l2_step (i5 : Nat) (x6 : Int) (s7 : Unit) : Option ((Unit) ⊕ ((Unit) ⊕ (Int))) :=
 (Z189 (x6)).bind fun q3 =>
 (if q3 = true then
 some (Sum.inr (Sum.inr ((i5 : Nat) : Int)))
 else
 some (Sum.inl (())))
theorem Z175l2_over (s1 : List Int) (hl : s1.length <= 9223372036854775807) (s7 : Unit) : loop (Z175l2 s1) (0 : Int) =
    overL (Z175l2_step) (fun (s7 : Unit) => some (Sum.inl ())) 0 s1 s7 := by
  refine B22 s1 (fun n (s : Unit) => (((n : Nat) : Int) : Int)) _ _ (fun s => ?_) (fun i x s h => ?_) 0 s7 (A24 _)
  . unfold Z175l2 Z175l2_b; simp
  . have hlt := B7 h
    have h1 : ((i : Nat) : Int) < ((s1.length : Nat) : Int) := by omega
    have h0 : (0 : Int) <= ((i : Nat) : Int) := by omega
    have hw : i64.wrap (((i : Nat) : Int) + 1) = (((i + 1 : Nat) : Nat) : Int) := w64 (by omega)
    have hr : rd s1 ((i : Nat) : Int) = x := B41 h
    unfold Z175l2 Z175l2_b Z175l2_step
    simp only [h1, h0, hw, h, hr, A7, A5, A22, A13, A12, A1, A49, Function.comp_def, B42, B29, A31, A47]
noncomputable def Z175_b (loop : type_of% @loop) (Z175l2 : type_of% @Z175l2) (s1 : List Int) : Option Int :=
 (loop (Z175l2 s1) 0).bind (fun o10 =>
 (Sum.elim (fun (p8 : Unit) =>
 some (-1))
 (fun (v9 : Int) =>
 some v9) o10))
theorem Z175_eq s1 : Z175 s1 = Z175_b @loop @Z175l2 s1 := (B0 ..).trans (by kernel_rfl)
noncomputable def Z176_b (Z182 : type_of% @Z182) (Z190 : type_of% @Z190) (b1 b2 : List Int) : Option ((List Int) × (List Int)) :=
 let t3 := u64.wrap ((b1.length : Nat) : Int);
 (Z182 t3).bind fun q4 =>
 (Z190 0 ((b1.length : Nat) : Int) q4 b1 b2).bind fun q5 =>
 some (q5.1, q5.2)
theorem Z176_eq b1 b2 : Z176 b1 b2 = Z176_b @Z182 @Z190 b1 b2 := (B0 ..).trans (by kernel_rfl)
noncomputable def Z177_b (n1 : Int) : Option (List Int) :=
 (if (decide (n1 < 0)) = true then
 none
 else
 let t2 := i64.wrap (0 - 0);
 let t3 := i64.wrap (n1 - t2);
 (if (decide (t3 > 0)) = true then
 (if 0 <= (0 : Int) ∧ (0 : Int) <= ((0 : Nat) : Int) then
 (if 0 <= t3 ∧ t3.toNat * 1 <= 140737488355328 then
 (if 0 <= (0 : Int) ∧ (0 : Int) <= (((List.replicate t3.toNat 0).length : Nat) : Int) then
 let t4 : List Int := cutL (List.replicate t3.toNat 0) 0 ((0 : Int).toNat);
 some t4
 else
 none)
 else
 none)
 else
 none)
 else
 some []))
theorem Z177_eq n1 : Z177 n1 = Z177_b n1 := (B0 ..).trans (by kernel_rfl)
noncomputable def Z178_b (Z173 : type_of% @Z173) (ctx1 b2 b3 b4 : Int) (b5 b6 : List Int) : Option (Int × Int × Int × Int × (List Int) × (List Int)) :=
 let t7 := u64.wrap (b4 - b3);
 (if 0 <= ctx1 ∧ ctx1 < (b5.length : Int) then
 let t8 : Int := rd b5 ctx1;
 (Z173 b2 t8).bind fun q9 =>
 let t10 := u64.wrap q9;
 let t11 := u64.wrap (t7.tdiv 4096);
 let t12 := u64.wrap (t11 * t10);
 let t13 := u64.wrap (b3 + t12);
 let t14 : Int := t7.tmod 4096;
 let t15 := u64.wrap (t14 * t10);
 let t16 := u64.wrap (t15.tdiv 4096);
 let t17 := u64.wrap (t13 + t16);
 some (t17, b2, b3, b4, b5, b6)
 else
 none)
theorem Z178_eq ctx1 b2 b3 b4 b5 b6 : Z178 ctx1 b2 b3 b4 b5 b6 = Z178_b @Z173 ctx1 b2 b3 b4 b5 b6 := (B0 ..).trans (by kernel_rfl)
noncomputable def Z179_b (Z174 : type_of% @Z174) (ctx1 bit2 mid3 b4 b5 b6 : Int) (b7 b8 : List Int) : Option (Int × Int × Int × (List Int) × (List Int)) :=
 ((if (decide (bit2 = 1)) = true then
 some (b4, b5, mid3, b7, b8)
 else
 let t9 := u64.wrap (mid3 + 1);
 some (b4, t9, b6, b7, b8)) : Option (Int × Int × Int × (List Int) × (List Int))).bind (fun p10 =>
 let b14 := p10.2.2.2.1;
 (if 0 <= ctx1 ∧ ctx1 < (b14.length : Int) then
 let t16 : Int := rd b14 ctx1;
 (Z174 p10.1 t16 bit2).bind fun q17 =>
 (if 0 <= ctx1 ∧ ctx1 < (b14.length : Int) then
 let w18 : List Int := b14.set ctx1.toNat q17;
 some (p10.1, p10.2.1, p10.2.2.1, w18, p10.2.2.2.2)
 else
 none)
 else
 none))
theorem Z179_eq ctx1 bit2 mid3 b4 b5 b6 b7 b8 : Z179 ctx1 bit2 mid3 b4 b5 b6 b7 b8 = Z179_b @Z174 ctx1 bit2 mid3 b4 b5 b6 b7 b8 := (B0 ..).trans (by kernel_rfl)
noncomputable def Z180_b (b1 b2 b3 : Int) (b4 b5 : List Int) : Option (Bool × Int × Int × Int × (List Int) × (List Int)) :=
 let t6 := ishr .u64 b2 24;
 let t7 := ishr .u64 b3 24;
 some (decide (t6 = t7), b1, b2, b3, b4, b5)
theorem Z180_eq b1 b2 b3 b4 b5 : Z180 b1 b2 b3 b4 b5 = Z180_b b1 b2 b3 b4 b5 := (B0 ..).trans (by kernel_rfl)
noncomputable def Z181_b (b1 b2 b3 : Int) (b4 b5 : List Int) : Option (Int × Int × Int × Int × (List Int) × (List Int)) :=
 let t6 := ishr .u64 b2 24;
 let t7 := u8.wrap t6;
 let t8 := ishl .u64 b2 8;
 let t9 := iand .u64 t8 4294967295;
 let t10 := ishl .u64 b3 8;
 let t11 := iand .u64 t10 4294967295;
 let t12 := ior .u64 t11 255;
 some (t7, b1, t9, t12, b4, b5)
theorem Z181_eq b1 b2 b3 b4 b5 : Z181 b1 b2 b3 b4 b5 = Z181_b b1 b2 b3 b4 b5 := (B0 ..).trans (by kernel_rfl)
noncomputable def Z182_b (Z191 : type_of% @Z191) (x1 : Int) : Option Int :=
 (Z191 x1).bind fun q2 =>
 some q2
theorem Z182_eq x1 : Z182 x1 = Z182_b @Z191 x1 := (B0 ..).trans (by kernel_rfl)
noncomputable def Z183l6 (text1 : List Int) (q5 q8 : (List Int)) (s9 : Int × Int × (List Int)) : Option ((Int × Int × (List Int)) ⊕ ((List Int))) :=
 let k11 := s9.2.1;
 ((if (decide (s9.1 < ((q5.length : Nat) : Int))) = true then
 some true
 else
 some (decide (k11 < ((q8.length : Nat) : Int)))) : Option (Bool)).bind (fun v13 =>
 (if v13 = true then
 ((if (decide (k11 = ((q8.length : Nat) : Int))) = true then
 some true
 else
 (if (decide (s9.1 < ((q5.length : Nat) : Int))) = true then
 (if 0 <= s9.1 ∧ s9.1 < (q5.length : Int) then
 (if 0 <= k11 ∧ k11 < (q8.length : Int) then
 (Z192 text1 (rd q5 s9.1) (rd q8 k11)).bind fun q14 =>
 some q14
 else
 none)
 else
 none)
 else
 some false)) : Option (Bool)).bind (fun v15 =>
 (if v15 = true then
 (if 0 <= s9.1 ∧ s9.1 < (q5.length : Int) then
 (if (s9.2.2.length + ([rd q5 s9.1] : List Int).length) * 8 <= 140737488355328 then
 let t16 : List Int := s9.2.2 ++ [rd q5 s9.1];
 let t17 := i64.wrap (s9.1 + 1);
 some (Sum.inl (t17, k11, t16))
 else
 none)
 else
 none)
 else
 (if 0 <= k11 ∧ k11 < (q8.length : Int) then
 (if (s9.2.2.length + ([rd q8 k11] : List Int).length) * 8 <= 140737488355328 then
 let t18 : List Int := s9.2.2 ++ [rd q8 k11];
 let t19 := i64.wrap (k11 + 1);
 some (Sum.inl (s9.1, t19, t18))
 else
 none)
 else
 none)))
 else
 some (Sum.inr s9.2.2)))
theorem Z183_eq (text1 l2 : List Int) : Z183 text1 l2 =
 (if (decide (((l2.length : Nat) : Int) < 2)) = true then
 some l2
 else
 let t3 := i64.wrap (((l2.length : Nat) : Int).tdiv 2);
 (if 0 <= t3 ∧ t3 <= ((l2.length : Nat) : Int) then
 let t4 : List Int := cutL l2 0 t3.toNat;
 (Z183 text1 t4).bind fun q5 =>
 let t6 := i64.wrap (((l2.length : Nat) : Int).tdiv 2);
 (if 0 <= t6 ∧ t6 <= ((l2.length : Nat) : Int) then
 let t7 : List Int := cutL l2 t6.toNat l2.length;
 (Z183 text1 t7).bind fun q8 =>
 (loop (Z183l6 text1 q5 q8) (0, 0, [])).bind (fun out20 =>
 some out20)
 else
 none)
 else
 none)) := (B0 ..).trans (by kernel_rfl)
theorem Z184_eq (kind1 state2 : Int) : Z184 kind1 state2 =
 (if (decide (kind1 = 0)) = true then
 let t3 : Int := state2.tmod 32;
 (Z193 t3).bind fun q4 =>
 (if (decide (state2 < 32)) = true then
 some q4
 else
 let t5 : Int := state2.tmod 32;
 (Z193 t5).bind fun q6 =>
 let t7 := i64.wrap (4096 - q6);
 some t7)
 else
 let t8 := i64.wrap (state2.tdiv 256);
 let t9 : Int := state2.tmod 256;
 let t10 := i64.wrap (2 * t9);
 let t11 := i64.wrap (t10 + 1);
 let t12 := i64.wrap (t11 * 4096);
 let t13 := i64.wrap (2 * t8);
 let t14 := i64.wrap (2 * t9);
 let t15 := i64.wrap (t13 + t14);
 let t16 := i64.wrap (t15 + 2);
 (if t16 = 0 then
 none
 else
 let t17 := i64.wrap (t12.tdiv t16);
 let t18 := imax t17 1;
 let t19 := imin t18 4095;
 some t19)) := (B0 ..).trans (by kernel_rfl)
theorem Z185_eq (x1 x2 p3 bit4 : Int) : Z185 x1 x2 p3 bit4 =
 (if (decide (bit4 = 1)) = true then
 (Z194 x1 x2 p3).bind fun q5 =>
 some (x1, q5)
 else
 (Z194 x1 x2 p3).bind fun q6 =>
 let t7 := u64.wrap (q6 + 1);
 some (t7, x2)) := (B0 ..).trans (by kernel_rfl)
theorem Z186_eq (kind1 state2 bit3 : Int) : Z186 kind1 state2 bit3 =
 (if (decide (kind1 = 0)) = true then
 let t4 := i64.wrap (state2.tdiv 32);
 let t5 : Int := state2.tmod 32;
 (if (decide (bit3 = t4)) = true then
 let t6 := i64.wrap (32 * t4);
 let t7 := i64.wrap (t5 + 1);
 let t8 := imin t7 31;
 let t9 := i64.wrap (t6 + t8);
 some t9
 else
 (if (decide (t5 = 0)) = true then
 let t10 := i64.wrap (32 * bit3);
 some t10
 else
 let t11 := i64.wrap (32 * t4);
 let t12 := i64.wrap (t11 + t5);
 let t13 := i64.wrap (t12 - 1);
 let t14 := i64.wrap (t5.tdiv 4);
 let t15 := i64.wrap (t13 - t14);
 some t15))
 else
 let t16 := i64.wrap (state2.tdiv 256);
 let t17 : Int := state2.tmod 256;
 (if 0 <= bit3 ∧ bit3 < ((2 : Nat) : Int) then
 let t18 : Int := rd [t16, t17] bit3;
 ((if (decide (t18 = 255)) = true then
 (if 0 <= (0 : Int) ∧ (0 : Int) < ((2 : Nat) : Int) then
 let t19 := i64.wrap (t16.tdiv 2);
 (if 0 <= (1 : Int) ∧ (1 : Int) < ((2 : Nat) : Int) then
 let t20 := i64.wrap (t17.tdiv 2);
 (if 0 <= (0 : Int) ∧ (0 : Int) < ((2 : Nat) : Int) then
 (if 0 <= (1 : Int) ∧ (1 : Int) < ((2 : Nat) : Int) then
 some (t19, t20)
 else
 none)
 else
 none)
 else
 none)
 else
 none)
 else
 some (t16, t17)) : Option (Int × Int)).bind (fun p21 =>
 (if 0 <= bit3 ∧ bit3 < ((2 : Nat) : Int) then
 let t24 : Int := rd [p21.1, p21.2] bit3;
 let t25 := i64.wrap (t24 + 1);
 (if 0 <= bit3 ∧ bit3 < ((2 : Nat) : Int) then
 let c26 : Int := if bit3 = 0 then t25 else p21.1;
 let c27 : Int := if bit3 = 1 then t25 else p21.2;
 (if 0 <= (0 : Int) ∧ (0 : Int) < ((2 : Nat) : Int) then
 let t28 := i64.wrap (256 * c26);
 (if 0 <= (1 : Int) ∧ (1 : Int) < ((2 : Nat) : Int) then
 let t29 := i64.wrap (t28 + c27);
 some t29
 else
 none)
 else
 none)
 else
 none)
 else
 none))
 else
 none)) := (B0 ..).trans (by kernel_rfl)
theorem Z187_eq (x1 x2 : Int) : Z187 x1 x2 =
 let t3 := ishr .u64 x1 24;
 let t4 := ishr .u64 x2 24;
 some (decide (t3 = t4)) := (B0 ..).trans (by kernel_rfl)
theorem Z188_eq (x1 x2 : Int) : Z188 x1 x2 =
 let t3 : Int := x1.tmod 16777216;
 let t4 := u64.wrap (t3 * 256);
 let t5 : Int := x2.tmod 16777216;
 let t6 := u64.wrap (t5 * 256);
 let t7 := u64.wrap (t6 + 255);
 some (t4, t7) := (B0 ..).trans (by kernel_rfl)
noncomputable def Z189_b (s1 : Int) : Option Bool :=
 (if (decide (s1 < 0)) = true then
 some true
 else
 some (decide (s1 ≥ 257)))
theorem Z189_eq s1 : Z189 s1 = Z189_b s1 := (B0 ..).trans (by kernel_rfl)
noncomputable def Z190l2_b (Z195 : type_of% @Z195) (Z196 : type_of% @Z196) (Z197 : type_of% @Z197) (Z198 : type_of% @Z198) (Z199 : type_of% @Z199) (Z200 : type_of% @Z200) (Z201 : type_of% @Z201) (Z202 : type_of% @Z202) (Z203 : type_of% @Z203) (Z190 : type_of% @Z190) (s6 : Int × Int × Int × Bool × Bool × (List Int) × (List Int)) : Option ((Int × Int × Int × Bool × Bool × (List Int) × (List Int)) ⊕ ((List Int) × (List Int))) :=
 let a7 := s6.1;
 let b8 := s6.2.1;
 let b12 := s6.2.2.2.2.2.1;
 let b13 := s6.2.2.2.2.2.2;
 let t14 := i64.wrap (b8 - a7);
 (if (decide (t14 <= 12)) = true then
 (Z195 a7 b8 b12 b13).bind fun q15 =>
 some (Sum.inr (q15.1, q15.2))
 else
 (if (decide (s6.2.2.1 = 0)) = true then
 (Z196 a7 b8 b12 b13).bind fun q18 =>
 some (Sum.inr (q18.1, q18.2))
 else
 ((if (!s6.2.2.2.1) = true then
 (Z197 a7 b8 b12 b13).bind fun q21 =>
 let t24 := i64.wrap (s6.2.2.1 - 1);
 some (t24, q21.1, q21.2)
 else
 some (s6.2.2.1, b12, b13)) : Option (Int × (List Int) × (List Int))).bind (fun p25 =>
 (Z198 a7 b8 p25.2.1 p25.2.2).bind fun q29 =>
 ((if (decide (q29.2.1 = 2)) = true then
 (Z199 a7 b8 q29.2.2.1 q29.2.2.2).bind fun q34 =>
 let t37 := i64.wrap (b8 - 1);
 let t38 := i64.wrap (q29.1 - a7);
 let t39 := i64.wrap (t37 - t38);
 some (t39, 1, q34.1, q34.2)
 else
 some (q29.1, q29.2.1, q29.2.2.1, q29.2.2.2)) : Option (Int × Int × (List Int) × (List Int))).bind (fun p40 =>
 ((if s6.2.2.2.1 = true then
 (if s6.2.2.2.2.1 = true then
 some (decide (p40.2.1 = 1))
 else
 some false)
 else
 some false) : Option (Bool)).bind (fun v45 =>
 ((if v45 = true then
 (Z200 a7 b8 p40.2.2.1 p40.2.2.2).bind fun q46 =>
 (if q46.1 = true then
 some (Sum.inr (q46.2.1, q46.2.2))
 else
 some (Sum.inl (q46.2.1, q46.2.2)))
 else
 some (Sum.inl (p40.2.2.1, p40.2.2.2))) : Option (((List Int) × (List Int)) ⊕ ((List Int) × (List Int)))).bind (fun o56 =>
 (Sum.elim (fun (p50 : (List Int) × (List Int)) =>
 ((if (decide (a7 > 0)) = true then
 let t57 := i64.wrap (a7 - 1);
 (if 0 <= t57 ∧ t57 < (p50.1.length : Int) then
 let t58 : Int := rd p50.1 t57;
 (if 0 <= p40.1 ∧ p40.1 < (p50.1.length : Int) then
 let t59 : Int := rd p50.1 p40.1;
 (Z201 t58 t59 p50.2).bind fun q60 =>
 some (!(decide (q60.1 < 0)), q60.2)
 else
 none)
 else
 none)
 else
 some (false, p50.2)) : Option (Bool × (List Int))).bind (fun p63 =>
 (if p63.1 = true then
 (Z202 a7 b8 p40.1 p50.1 p63.2).bind fun q66 =>
 some (Sum.inl (q66.1, b8, p25.1, s6.2.2.2.1, s6.2.2.2.2.1, q66.2.1, q66.2.2))
 else
 (Z203 a7 b8 p40.1 p50.1 p63.2).bind fun q70 =>
 let t75 := i64.wrap (q70.1 - a7);
 let t76 := i64.wrap (b8 - q70.1);
 let t77 := i64.wrap (t14.tdiv 8);
 (if (decide (t75 < t76)) = true then
 (Z190 a7 q70.1 p25.1 q70.2.2.1 q70.2.2.2).bind fun q78 =>
 let t81 := i64.wrap (q70.1 + 1);
 some (Sum.inl (t81, b8, p25.1, decide (t75 ≥ t77), q70.2.1, q78.1, q78.2))
 else
 let t82 := i64.wrap (q70.1 + 1);
 (Z190 t82 b8 p25.1 q70.2.2.1 q70.2.2.2).bind fun q83 =>
 some (Sum.inl (a7, q70.1, p25.1, decide (t76 ≥ t77), q70.2.1, q83.1, q83.2))))))
 (fun (p53 : (List Int) × (List Int)) =>
 some (Sum.inr (p53.1, p53.2))) o56)))))))
noncomputable def Z190l2 := Z190l2_b @Z195 @Z196 @Z197 @Z198 @Z199 @Z200 @Z201 @Z202 @Z203 @Z190
noncomputable def Z190_b (loop : type_of% @loop) (Z190l2 : type_of% @Z190l2) (a1 b2 limit3 : Int) (b4 b5 : List Int) : Option ((List Int) × (List Int)) :=
 (loop (Z190l2) (a1, b2, limit3, true, true, b4, b5)).bind (fun p86 =>
 some (p86.1, p86.2))
theorem Z190_eq a1 b2 limit3 b4 b5 : Z190 a1 b2 limit3 b4 b5 = Z190_b @loop @Z190l2 a1 b2 limit3 b4 b5 := (B0 ..).trans (by kernel_rfl)
noncomputable def Z191_b (x1 : Int) : Option Int :=
 ((if (decide (x1 ≥ 4294967296)) = true then
 let t2 := ishr .u64 x1 32;
 some (t2, 32)
 else
 some (x1, 0)) : Option (Int × Int)).bind (fun p3 =>
 ((if (decide (p3.1 ≥ 65536)) = true then
 let t6 := ishr .u64 p3.1 16;
 let t7 := i64.wrap (p3.2 + 16);
 some (t6, t7)
 else
 some (p3.1, p3.2)) : Option (Int × Int)).bind (fun p8 =>
 ((if (decide (p8.1 ≥ 256)) = true then
 let t11 := ishr .u64 p8.1 8;
 let t12 := i64.wrap (p8.2 + 8);
 some (t11, t12)
 else
 some (p8.1, p8.2)) : Option (Int × Int)).bind (fun p13 =>
 let t16 := u8.wrap p13.1;
 (if 0 <= t16 ∧ t16 < (([0, 1, 2, 2, 3, 3, 3, 3, 4, 4, 4, 4, 4, 4, 4, 4, 5, 5, 5, 5, 5, 5, 5, 5, 5, 5, 5, 5, 5, 5, 5, 5, 6, 6, 6, 6, 6, 6, 6, 6, 6, 6, 6, 6, 6, 6, 6, 6, 6, 6, 6, 6, 6, 6, 6, 6, 6, 6, 6, 6, 6, 6, 6, 6, 7, 7, 7, 7, 7, 7, 7, 7, 7, 7, 7, 7, 7, 7, 7, 7, 7, 7, 7, 7, 7, 7, 7, 7, 7, 7, 7, 7, 7, 7, 7, 7, 7, 7, 7, 7, 7, 7, 7, 7, 7, 7, 7, 7, 7, 7, 7, 7, 7, 7, 7, 7, 7, 7, 7, 7, 7, 7, 7, 7, 7, 7, 7, 7, 8, 8, 8, 8, 8, 8, 8, 8, 8, 8, 8, 8, 8, 8, 8, 8, 8, 8, 8, 8, 8, 8, 8, 8, 8, 8, 8, 8, 8, 8, 8, 8, 8, 8, 8, 8, 8, 8, 8, 8, 8, 8, 8, 8, 8, 8, 8, 8, 8, 8, 8, 8, 8, 8, 8, 8, 8, 8, 8, 8, 8, 8, 8, 8, 8, 8, 8, 8, 8, 8, 8, 8, 8, 8, 8, 8, 8, 8, 8, 8, 8, 8, 8, 8, 8, 8, 8, 8, 8, 8, 8, 8, 8, 8, 8, 8, 8, 8, 8, 8, 8, 8, 8, 8, 8, 8, 8, 8, 8, 8, 8, 8, 8, 8, 8, 8, 8, 8, 8, 8, 8, 8, 8, 8, 8, 8, 8, 8]).length : Int) then
 let t17 : Int := rd [0, 1, 2, 2, 3, 3, 3, 3, 4, 4, 4, 4, 4, 4, 4, 4, 5, 5, 5, 5, 5, 5, 5, 5, 5, 5, 5, 5, 5, 5, 5, 5, 6, 6, 6, 6, 6, 6, 6, 6, 6, 6, 6, 6, 6, 6, 6, 6, 6, 6, 6, 6, 6, 6, 6, 6, 6, 6, 6, 6, 6, 6, 6, 6, 7, 7, 7, 7, 7, 7, 7, 7, 7, 7, 7, 7, 7, 7, 7, 7, 7, 7, 7, 7, 7, 7, 7, 7, 7, 7, 7, 7, 7, 7, 7, 7, 7, 7, 7, 7, 7, 7, 7, 7, 7, 7, 7, 7, 7, 7, 7, 7, 7, 7, 7, 7, 7, 7, 7, 7, 7, 7, 7, 7, 7, 7, 7, 7, 8, 8, 8, 8, 8, 8, 8, 8, 8, 8, 8, 8, 8, 8, 8, 8, 8, 8, 8, 8, 8, 8, 8, 8, 8, 8, 8, 8, 8, 8, 8, 8, 8, 8, 8, 8, 8, 8, 8, 8, 8, 8, 8, 8, 8, 8, 8, 8, 8, 8, 8, 8, 8, 8, 8, 8, 8, 8, 8, 8, 8, 8, 8, 8, 8, 8, 8, 8, 8, 8, 8, 8, 8, 8, 8, 8, 8, 8, 8, 8, 8, 8, 8, 8, 8, 8, 8, 8, 8, 8, 8, 8, 8, 8, 8, 8, 8, 8, 8, 8, 8, 8, 8, 8, 8, 8, 8, 8, 8, 8, 8, 8, 8, 8, 8, 8, 8, 8, 8, 8, 8, 8, 8, 8, 8, 8, 8, 8] t16;
 let t18 := i64.wrap t17;
 let t19 := i64.wrap (p13.2 + t18);
 some t19
 else
 none))))
theorem Z191_eq x1 : Z191 x1 = Z191_b x1 := (B0 ..).trans (by kernel_rfl)
theorem Z192_eq (text1 : List Int) (a2 b3 : Int) : Z192 text1 a2 b3 =
 (if 0 <= a2 ∧ a2 <= ((text1.length : Nat) : Int) then
 let t4 : List Int := cutL text1 a2.toNat text1.length;
 (if 0 <= b3 ∧ b3 <= ((text1.length : Nat) : Int) then
 let t5 : List Int := cutL text1 b3.toNat text1.length;
 some (strLt (t4) (t5))
 else
 none)
 else
 none) := (B0 ..).trans (by kernel_rfl)
noncomputable def Z193l3 (k1 : Int) (s2 : Int × Int) : Option ((Int × Int) ⊕ (Int)) :=
 (if (decide (s2.2 < k1)) = true then
 let t5 := i64.wrap (s2.1.tdiv 8);
 let t6 := i64.wrap (s2.1 - t5);
 let t7 := i64.wrap (s2.2 + 1);
 some (Sum.inl (t6, t7))
 else
 some (Sum.inr s2.1))
theorem Z193_eq (k1 : Int) : Z193 k1 =
 (loop (Z193l3 k1) (2048, 0)).bind (fun q11 =>
 some q11) := (B0 ..).trans (by kernel_rfl)
theorem Z194_eq (x1 x2 p3 : Int) : Z194 x1 x2 p3 =
 let t4 := u64.wrap (x2 - x1);
 let t5 := u64.wrap (t4.tdiv 4096);
 let t6 := u64.wrap p3;
 let t7 := u64.wrap (t5 * t6);
 let t8 := u64.wrap (x1 + t7);
 let t9 : Int := t4.tmod 4096;
 let t10 := u64.wrap p3;
 let t11 := u64.wrap (t9 * t10);
 let t12 := u64.wrap (t11.tdiv 4096);
 let t13 := u64.wrap (t8 + t12);
 some t13 := (B0 ..).trans (by kernel_rfl)
noncomputable def Z195l4_b (Z201 : type_of% @Z201) (a1 : Int) (s10 : Int × (List Int) × (List Int)) : Option ((Int × (List Int) × (List Int)) ⊕ ((List Int) × (List Int))) :=
 let j11 := s10.1;
 let b12 := s10.2.1;
 ((if (decide (j11 > a1)) = true then
 (if 0 <= j11 ∧ j11 < (b12.length : Int) then
 let t14 : Int := rd b12 j11;
 let t15 := i64.wrap (j11 - 1);
 (if 0 <= t15 ∧ t15 < (b12.length : Int) then
 let t16 : Int := rd b12 t15;
 (Z201 t14 t16 s10.2.2).bind fun q17 =>
 some (decide (q17.1 < 0), q17.2)
 else
 none)
 else
 none)
 else
 some (false, s10.2.2)) : Option (Bool × (List Int))).bind (fun p20 =>
 (if p20.1 = true then
 let t23 := i64.wrap (j11 - 1);
 let t24 := i64.wrap (j11 - 1);
 (if 0 <= t24 ∧ t24 < (b12.length : Int) then
 let t25 : Int := rd b12 t24;
 (if 0 <= j11 ∧ j11 < (b12.length : Int) then
 let t26 : Int := rd b12 j11;
 (if 0 <= j11 ∧ j11 < (b12.length : Int) then
 let w27 : List Int := b12.set j11.toNat t25;
 (if 0 <= t23 ∧ t23 < (w27.length : Int) then
 let w28 : List Int := w27.set t23.toNat t26;
 let t29 := i64.wrap (j11 - 1);
 some (Sum.inl (t29, w28, p20.2))
 else
 none)
 else
 none)
 else
 none)
 else
 none)
 else
 some (Sum.inr (b12, p20.2))))
noncomputable def Z195l4 := Z195l4_b @Z201
noncomputable def Z195l1_b (loop : type_of% @loop) (Z195l4 : type_of% @Z195l4) (a1 b2 : Int) (s6 : Int × (List Int) × (List Int)) : Option ((Int × (List Int) × (List Int)) ⊕ ((List Int) × (List Int))) :=
 (if (decide (s6.1 < b2)) = true then
 (loop (Z195l4 a1) (s6.1, s6.2.1, s6.2.2)).bind (fun p30 =>
 let t33 := i64.wrap (s6.1 + 1);
 some (Sum.inl (t33, p30.1, p30.2)))
 else
 some (Sum.inr (s6.2.1, s6.2.2)))
noncomputable def Z195l1 := Z195l1_b @loop @Z195l4
noncomputable def Z195_b (loop : type_of% @loop) (Z195l1 : type_of% @Z195l1) (a1 b2 : Int) (b3 b4 : List Int) : Option ((List Int) × (List Int)) :=
 let t5 := i64.wrap (a1 + 1);
 (loop (Z195l1 a1 b2) (t5, b3, b4)).bind (fun p39 =>
 some (p39.1, p39.2))
theorem Z195_eq a1 b2 b3 b4 : Z195 a1 b2 b3 b4 = Z195_b @loop @Z195l1 a1 b2 b3 b4 := (B0 ..).trans (by kernel_rfl)
noncomputable def Z196l4_b (Z204 : type_of% @Z204) (a1 t5 : Int) (s8 : Int × (List Int) × (List Int)) : Option ((Int × (List Int) × (List Int)) ⊕ ((List Int) × (List Int))) :=
 (if (decide (s8.1 ≥ 0)) = true then
 (Z204 s8.1 t5 a1 s8.2.1 s8.2.2).bind fun q12 =>
 let t15 := i64.wrap (s8.1 - 1);
 some (Sum.inl (t15, q12.1, q12.2))
 else
 some (Sum.inr (s8.2.1, s8.2.2)))
noncomputable def Z196l4 := Z196l4_b @Z204
noncomputable def Z196l8_b (Z204 : type_of% @Z204) (a1 : Int) (s20 : Int × (List Int) × (List Int)) : Option ((Int × (List Int) × (List Int)) ⊕ ((List Int) × (List Int))) :=
 let b22 := s20.2.1;
 (if (decide (s20.1 ≥ 0)) = true then
 let t24 := i64.wrap (a1 + s20.1);
 let t25 := i64.wrap (a1 + s20.1);
 (if 0 <= t25 ∧ t25 < (b22.length : Int) then
 let t26 : Int := rd b22 t25;
 (if 0 <= a1 ∧ a1 < (b22.length : Int) then
 let t27 : Int := rd b22 a1;
 (if 0 <= a1 ∧ a1 < (b22.length : Int) then
 let w28 : List Int := b22.set a1.toNat t26;
 (if 0 <= t24 ∧ t24 < (w28.length : Int) then
 let w29 : List Int := w28.set t24.toNat t27;
 (Z204 0 s20.1 a1 w29 s20.2.2).bind fun q30 =>
 let t33 := i64.wrap (s20.1 - 1);
 some (Sum.inl (t33, q30.1, q30.2))
 else
 none)
 else
 none)
 else
 none)
 else
 none)
 else
 some (Sum.inr (b22, s20.2.2)))
noncomputable def Z196l8 := Z196l8_b @Z204
noncomputable def Z196_b (loop : type_of% @loop) (Z196l4 : type_of% @Z196l4) (Z196l8 : type_of% @Z196l8) (a1 b2 : Int) (b3 b4 : List Int) : Option ((List Int) × (List Int)) :=
 let t5 := i64.wrap (b2 - a1);
 let t6 := i64.wrap (t5 - 1);
 let t7 := i64.wrap (t6.tdiv 2);
 (loop (Z196l4 a1 t5) (t7, b3, b4)).bind (fun p16 =>
 let t19 := i64.wrap (t5 - 1);
 (loop (Z196l8 a1) (t19, p16.1, p16.2)).bind (fun p34 =>
 some (p34.1, p34.2)))
theorem Z196_eq a1 b2 b3 b4 : Z196 a1 b2 b3 b4 = Z196_b @loop @Z196l4 @Z196l8 a1 b2 b3 b4 := (B0 ..).trans (by kernel_rfl)
noncomputable def Z197l5_b (Z206 : type_of% @Z206) (a1 t5 q7 : Int) (s12 : Int × (List Int) × Int) : Option ((Int × (List Int) × Int) ⊕ ((List Int) × Int)) :=
 let b14 := s12.2.1;
 let t16 := i64.wrap (t5.tdiv 4);
 let t17 := i64.wrap (t16 * 2);
 let t18 := i64.wrap (a1 + t17);
 let t19 := i64.wrap (t18 + 1);
 (if (decide (s12.1 <= t19)) = true then
 (Z206 s12.2.2).bind fun q20 =>
 let t23 := u64.wrap (q7 - 1);
 let t24 := iand .u64 q20.1 t23;
 let t25 := i64.wrap t24;
 ((if (decide (t25 ≥ t5)) = true then
 let t26 := i64.wrap (t25 - t5);
 some t26
 else
 some t25) : Option (Int)).bind (fun other27 =>
 let t28 := i64.wrap (a1 + other27);
 let t29 := i64.wrap (a1 + other27);
 (if 0 <= t29 ∧ t29 < (b14.length : Int) then
 let t30 : Int := rd b14 t29;
 (if 0 <= s12.1 ∧ s12.1 < (b14.length : Int) then
 let t31 : Int := rd b14 s12.1;
 (if 0 <= s12.1 ∧ s12.1 < (b14.length : Int) then
 let w32 : List Int := b14.set s12.1.toNat t30;
 (if 0 <= t28 ∧ t28 < (w32.length : Int) then
 let w33 : List Int := w32.set t28.toNat t31;
 let t34 := i64.wrap (s12.1 + 1);
 some (Sum.inl (t34, w33, q20.2))
 else
 none)
 else
 none)
 else
 none)
 else
 none))
 else
 some (Sum.inr (b14, s12.2.2)))
noncomputable def Z197l5 := Z197l5_b @Z206
noncomputable def Z197_b (Z205 : type_of% @Z205) (loop : type_of% @loop) (Z197l5 : type_of% @Z197l5) (a1 b2 : Int) (b3 b4 : List Int) : Option ((List Int) × (List Int)) :=
 let t5 := i64.wrap (b2 - a1);
 (if (decide (t5 ≥ 8)) = true then
 let t6 := u64.wrap t5;
 (Z205 t5).bind fun q7 =>
 let t8 := i64.wrap (t5.tdiv 4);
 let t9 := i64.wrap (t8 * 2);
 let t10 := i64.wrap (a1 + t9);
 let t11 := i64.wrap (t10 - 1);
 (loop (Z197l5 a1 t5 q7) (t11, b3, t6)).bind (fun p35 =>
 some (p35.1, b4))
 else
 some (b3, b4))
theorem Z197_eq a1 b2 b3 b4 : Z197 a1 b2 b3 b4 = Z197_b @Z205 @loop @Z197l5 a1 b2 b3 b4 := (B0 ..).trans (by kernel_rfl)
noncomputable def Z198_b (Z207 : type_of% @Z207) (Z208 : type_of% @Z208) (a1 b2 : Int) (b3 b4 : List Int) : Option (Int × Int × (List Int) × (List Int)) :=
 let t5 := i64.wrap (b2 - a1);
 let t6 := i64.wrap (t5.tdiv 4);
 let t7 := i64.wrap (t6 * 1);
 let t8 := i64.wrap (a1 + t7);
 let t9 := i64.wrap (t5.tdiv 4);
 let t10 := i64.wrap (t9 * 2);
 let t11 := i64.wrap (a1 + t10);
 let t12 := i64.wrap (t5.tdiv 4);
 let t13 := i64.wrap (t12 * 3);
 let t14 := i64.wrap (a1 + t13);
 ((if (decide (t5 ≥ 8)) = true then
 ((if (decide (t5 ≥ 50)) = true then
 (Z207 t8 b3 0 b4).bind fun q15 =>
 (Z207 t11 q15.2.1 q15.2.2.1 q15.2.2.2).bind fun q20 =>
 (Z207 t14 q20.2.1 q20.2.2.1 q20.2.2.2).bind fun q25 =>
 some (q15.1, q20.1, q25.1, q25.2.1, q25.2.2.2, q25.2.2.1)
 else
 some (t8, t11, t14, b3, b4, 0)) : Option (Int × Int × Int × (List Int) × (List Int) × Int)).bind (fun p30 =>
 (Z208 p30.1 p30.2.1 p30.2.2.1 p30.2.2.2.1 p30.2.2.2.2.2 p30.2.2.2.2.1).bind fun q37 =>
 some (q37.1, q37.2.1, q37.2.2.2, q37.2.2.1))
 else
 some (t11, b3, b4, 0)) : Option (Int × (List Int) × (List Int) × Int)).bind (fun p42 =>
 (if (decide (p42.2.2.2 = 0)) = true then
 some (p42.1, 1, p42.2.1, p42.2.2.1)
 else
 (if (decide (p42.2.2.2 = 12)) = true then
 some (p42.1, 2, p42.2.1, p42.2.2.1)
 else
 some (p42.1, 0, p42.2.1, p42.2.2.1))))
theorem Z198_eq a1 b2 b3 b4 : Z198 a1 b2 b3 b4 = Z198_b @Z207 @Z208 a1 b2 b3 b4 := (B0 ..).trans (by kernel_rfl)
noncomputable def Z199l2 (s6 : Int × Int × (List Int)) : Option ((Int × Int × (List Int)) ⊕ ((List Int))) :=
 let j8 := s6.2.1;
 let b9 := s6.2.2;
 (if (decide (s6.1 < j8)) = true then
 (if 0 <= j8 ∧ j8 < (b9.length : Int) then
 let t10 : Int := rd b9 j8;
 (if 0 <= s6.1 ∧ s6.1 < (b9.length : Int) then
 let t11 : Int := rd b9 s6.1;
 (if 0 <= s6.1 ∧ s6.1 < (b9.length : Int) then
 let w12 : List Int := b9.set s6.1.toNat t10;
 (if 0 <= j8 ∧ j8 < (w12.length : Int) then
 let w13 : List Int := w12.set j8.toNat t11;
 let t14 := i64.wrap (s6.1 + 1);
 let t15 := i64.wrap (j8 - 1);
 some (Sum.inl (t14, t15, w13))
 else
 none)
 else
 none)
 else
 none)
 else
 none)
 else
 some (Sum.inr b9))
noncomputable def Z199_b (loop : type_of% @loop) (Z199l2 : type_of% @Z199l2) (a1 b2 : Int) (b3 b4 : List Int) : Option ((List Int) × (List Int)) :=
 let t5 := i64.wrap (b2 - 1);
 (loop (Z199l2) (a1, t5, b3)).bind (fun b16 =>
 some (b16, b4))
theorem Z199_eq a1 b2 b3 b4 : Z199 a1 b2 b3 b4 = Z199_b @loop @Z199l2 a1 b2 b3 b4 := (B0 ..).trans (by kernel_rfl)
noncomputable def Z200l5_b (Z201 : type_of% @Z201) (b2 : Int) (b9 : List Int) (s11 : Int × (List Int)) : Option ((Int × (List Int)) ⊕ (Int × (List Int))) :=
 (if (decide (s11.1 < b2)) = true then
 (if 0 <= s11.1 ∧ s11.1 < (b9.length : Int) then
 let t14 : Int := rd b9 s11.1;
 let t15 := i64.wrap (s11.1 - 1);
 (if 0 <= t15 ∧ t15 < (b9.length : Int) then
 let t16 : Int := rd b9 t15;
 (Z201 t14 t16 s11.2).bind fun q17 =>
 (if (!(decide (q17.1 < 0))) = true then
 let t20 := i64.wrap (s11.1 + 1);
 some (Sum.inl (t20, q17.2))
 else
 some (Sum.inr (s11.1, q17.2)))
 else
 none)
 else
 none)
 else
 some (Sum.inr (s11.1, s11.2)))
noncomputable def Z200l5 := Z200l5_b @Z201
noncomputable def Z200l14_b (Z201 : type_of% @Z201) (s33 : Int × (List Int) × (List Int)) : Option ((Int × (List Int) × (List Int)) ⊕ ((List Int) × (List Int))) :=
 let j34 := s33.1;
 let b35 := s33.2.1;
 (if (decide (j34 ≥ 1)) = true then
 (if 0 <= j34 ∧ j34 < (b35.length : Int) then
 let t37 : Int := rd b35 j34;
 let t38 := i64.wrap (j34 - 1);
 (if 0 <= t38 ∧ t38 < (b35.length : Int) then
 let t39 : Int := rd b35 t38;
 (Z201 t37 t39 s33.2.2).bind fun q40 =>
 (if (!(decide (q40.1 < 0))) = true then
 some (Sum.inr (b35, q40.2))
 else
 let t43 := i64.wrap (j34 - 1);
 let t44 := i64.wrap (j34 - 1);
 (if 0 <= t44 ∧ t44 < (b35.length : Int) then
 let t45 : Int := rd b35 t44;
 (if 0 <= j34 ∧ j34 < (b35.length : Int) then
 let t46 : Int := rd b35 j34;
 (if 0 <= j34 ∧ j34 < (b35.length : Int) then
 let w47 : List Int := b35.set j34.toNat t45;
 (if 0 <= t43 ∧ t43 < (w47.length : Int) then
 let w48 : List Int := w47.set t43.toNat t46;
 let t49 := i64.wrap (j34 - 1);
 some (Sum.inl (t49, w48, q40.2))
 else
 none)
 else
 none)
 else
 none)
 else
 none))
 else
 none)
 else
 none)
 else
 some (Sum.inr (b35, s33.2.2)))
noncomputable def Z200l14 := Z200l14_b @Z201
noncomputable def Z200l20_b (Z201 : type_of% @Z201) (b2 : Int) (s58 : Int × (List Int) × (List Int)) : Option ((Int × (List Int) × (List Int)) ⊕ ((List Int) × (List Int))) :=
 let j59 := s58.1;
 let b60 := s58.2.1;
 (if (decide (j59 < b2)) = true then
 (if 0 <= j59 ∧ j59 < (b60.length : Int) then
 let t62 : Int := rd b60 j59;
 let t63 := i64.wrap (j59 - 1);
 (if 0 <= t63 ∧ t63 < (b60.length : Int) then
 let t64 : Int := rd b60 t63;
 (Z201 t62 t64 s58.2.2).bind fun q65 =>
 (if (!(decide (q65.1 < 0))) = true then
 some (Sum.inr (b60, q65.2))
 else
 let t68 := i64.wrap (j59 - 1);
 let t69 := i64.wrap (j59 - 1);
 (if 0 <= t69 ∧ t69 < (b60.length : Int) then
 let t70 : Int := rd b60 t69;
 (if 0 <= j59 ∧ j59 < (b60.length : Int) then
 let t71 : Int := rd b60 j59;
 (if 0 <= j59 ∧ j59 < (b60.length : Int) then
 let w72 : List Int := b60.set j59.toNat t70;
 (if 0 <= t68 ∧ t68 < (w72.length : Int) then
 let w73 : List Int := w72.set t68.toNat t71;
 let t74 := i64.wrap (j59 + 1);
 some (Sum.inl (t74, w73, q65.2))
 else
 none)
 else
 none)
 else
 none)
 else
 none))
 else
 none)
 else
 none)
 else
 some (Sum.inr (b60, s58.2.2)))
noncomputable def Z200l20 := Z200l20_b @Z201
noncomputable def Z200l3_b (loop : type_of% @loop) (Z200l5 : type_of% @Z200l5) (Z200l14 : type_of% @Z200l14) (Z200l20 : type_of% @Z200l20) (a1 b2 : Int) (s6 : Int × Int × (List Int) × (List Int)) : Option ((Int × Int × (List Int) × (List Int)) ⊕ (((List Int) × (List Int)) ⊕ (Bool × (List Int) × (List Int)))) :=
 let b9 := s6.2.2.1;
 (if (decide (s6.2.1 < 5)) = true then
 (loop (Z200l5 b2 b9) (s6.1, s6.2.2.2)).bind (fun p21 =>
 let i22 := p21.1;
 (if (decide (i22 = b2)) = true then
 some (Sum.inr (Sum.inr (true, b9, p21.2)))
 else
 let t24 := i64.wrap (b2 - a1);
 (if (decide (t24 < 50)) = true then
 some (Sum.inr (Sum.inr (false, b9, p21.2)))
 else
 let t25 := i64.wrap (i22 - 1);
 let t26 := i64.wrap (i22 - 1);
 (if 0 <= t26 ∧ t26 < (b9.length : Int) then
 let t27 : Int := rd b9 t26;
 (if 0 <= i22 ∧ i22 < (b9.length : Int) then
 let t28 : Int := rd b9 i22;
 (if 0 <= i22 ∧ i22 < (b9.length : Int) then
 let w29 : List Int := b9.set i22.toNat t27;
 (if 0 <= t25 ∧ t25 < (w29.length : Int) then
 let w30 : List Int := w29.set t25.toNat t28;
 let t31 := i64.wrap (i22 - a1);
 ((if (decide (t31 ≥ 2)) = true then
 let t32 := i64.wrap (i22 - 1);
 (loop (Z200l14) (t32, w30, p21.2)).bind (fun p50 =>
 some (p50.1, p50.2))
 else
 some (w30, p21.2)) : Option ((List Int) × (List Int))).bind (fun p53 =>
 let t56 := i64.wrap (b2 - i22);
 (if (decide (t56 ≥ 2)) = true then
 let t57 := i64.wrap (i22 + 1);
 (loop (Z200l20 b2) (t57, p53.1, p53.2)).bind (fun p80 =>
 let t83 := i64.wrap (s6.2.1 + 1);
 some (Sum.inl (i22, t83, p80.1, p80.2)))
 else
 let t84 := i64.wrap (s6.2.1 + 1);
 some (Sum.inl (i22, t84, p53.1, p53.2))))
 else
 none)
 else
 none)
 else
 none)
 else
 none))))
 else
 some (Sum.inr (Sum.inl (b9, s6.2.2.2))))
noncomputable def Z200l3 := Z200l3_b @loop @Z200l5 @Z200l14 @Z200l20
noncomputable def Z200_b (loop : type_of% @loop) (Z200l3 : type_of% @Z200l3) (a1 b2 : Int) (b3 b4 : List Int) : Option (Bool × (List Int) × (List Int)) :=
 let t5 := i64.wrap (a1 + 1);
 (loop (Z200l3 a1 b2) (t5, 0, b3, b4)).bind (fun o98 =>
 (Sum.elim (fun (p91 : (List Int) × (List Int)) =>
 some (false, p91.1, p91.2))
 (fun (p94 : Bool × (List Int) × (List Int)) =>
 some (p94.1, p94.2.1, p94.2.2)) o98))
theorem Z200_eq a1 b2 b3 b4 : Z200 a1 b2 b3 b4 = Z200_b @loop @Z200l3 a1 b2 b3 b4 := (B0 ..).trans (by kernel_rfl)
noncomputable def Z201_b (Z209 : type_of% @Z209) (a1 b2 : Int) (b3 : List Int) : Option (Int × (List Int)) :=
 (if 0 <= a1 ∧ a1 <= ((b3.length : Nat) : Int) then
 let t4 : List Int := cutL b3 a1.toNat b3.length;
 (if 0 <= b2 ∧ b2 <= ((b3.length : Nat) : Int) then
 let t5 : List Int := cutL b3 b2.toNat b3.length;
 (Z209 t4 t5).bind fun q6 =>
 some (q6, b3)
 else
 none)
 else
 none)
theorem Z201_eq a1 b2 b3 : Z201 a1 b2 b3 = Z201_b @Z209 a1 b2 b3 := (B0 ..).trans (by kernel_rfl)
noncomputable def Z202l3_b (Z201 : type_of% @Z201) (a1 j14 : Int) (b15 : List Int) (s17 : Int × (List Int)) : Option ((Int × (List Int)) ⊕ (Int × (List Int))) :=
 (if (decide (s17.1 <= j14)) = true then
 (if 0 <= a1 ∧ a1 < (b15.length : Int) then
 let t20 : Int := rd b15 a1;
 (if 0 <= s17.1 ∧ s17.1 < (b15.length : Int) then
 let t21 : Int := rd b15 s17.1;
 (Z201 t20 t21 s17.2).bind fun q22 =>
 (if (!(decide (q22.1 < 0))) = true then
 let t25 := i64.wrap (s17.1 + 1);
 some (Sum.inl (t25, q22.2))
 else
 some (Sum.inr (s17.1, q22.2)))
 else
 none)
 else
 none)
 else
 some (Sum.inr (s17.1, s17.2)))
noncomputable def Z202l3 := Z202l3_b @Z201
noncomputable def Z202l5_b (Z201 : type_of% @Z201) (a1 : Int) (b15 : List Int) (i27 : Int) (s29 : Int × (List Int)) : Option ((Int × (List Int)) ⊕ (Int × (List Int))) :=
 (if (decide (i27 <= s29.1)) = true then
 (if 0 <= a1 ∧ a1 < (b15.length : Int) then
 let t32 : Int := rd b15 a1;
 (if 0 <= s29.1 ∧ s29.1 < (b15.length : Int) then
 let t33 : Int := rd b15 s29.1;
 (Z201 t32 t33 s29.2).bind fun q34 =>
 (if (decide (q34.1 < 0)) = true then
 let t37 := i64.wrap (s29.1 - 1);
 some (Sum.inl (t37, q34.2))
 else
 some (Sum.inr (s29.1, q34.2)))
 else
 none)
 else
 none)
 else
 some (Sum.inr (s29.1, s29.2)))
noncomputable def Z202l5 := Z202l5_b @Z201
noncomputable def Z202l1000003_b (loop : type_of% @loop) (Z202l3 : type_of% @Z202l3) (Z202l5 : type_of% @Z202l5) (a1 : Int) (s12 : Int × Int × (List Int) × (List Int)) : Option ((Int × Int × (List Int) × (List Int)) ⊕ (Int × (List Int) × (List Int))) :=
 let b15 := s12.2.2.1;
 (loop (Z202l3 a1 s12.2.1 b15) (s12.1, s12.2.2.2)).bind (fun p26 =>
 let i27 := p26.1;
 (loop (Z202l5 a1 b15 i27) (s12.2.1, p26.2)).bind (fun p38 =>
 (if (decide (i27 > p38.1)) = true then
 some (Sum.inr (i27, b15, p38.2))
 else
 (if 0 <= p38.1 ∧ p38.1 < (b15.length : Int) then
 let t41 : Int := rd b15 p38.1;
 (if 0 <= i27 ∧ i27 < (b15.length : Int) then
 let t42 : Int := rd b15 i27;
 (if 0 <= i27 ∧ i27 < (b15.length : Int) then
 let w43 : List Int := b15.set i27.toNat t41;
 (if 0 <= p38.1 ∧ p38.1 < (w43.length : Int) then
 let w44 : List Int := w43.set p38.1.toNat t42;
 let t45 := i64.wrap (i27 + 1);
 let t46 := i64.wrap (p38.1 - 1);
 some (Sum.inl (t45, t46, w44, p38.2))
 else
 none)
 else
 none)
 else
 none)
 else
 none))))
noncomputable def Z202l1000003 := Z202l1000003_b @loop @Z202l3 @Z202l5
noncomputable def Z202_b (loop : type_of% @loop) (Z202l1000003 : type_of% @Z202l1000003) (a1 b2 pivot3 : Int) (b4 b5 : List Int) : Option (Int × (List Int) × (List Int)) :=
 (if 0 <= pivot3 ∧ pivot3 < (b4.length : Int) then
 let t6 : Int := rd b4 pivot3;
 (if 0 <= a1 ∧ a1 < (b4.length : Int) then
 let t7 : Int := rd b4 a1;
 (if 0 <= a1 ∧ a1 < (b4.length : Int) then
 let w8 : List Int := b4.set a1.toNat t6;
 (if 0 <= pivot3 ∧ pivot3 < (w8.length : Int) then
 let w9 : List Int := w8.set pivot3.toNat t7;
 let t10 := i64.wrap (a1 + 1);
 let t11 := i64.wrap (b2 - 1);
 (loop (Z202l1000003 a1) (t10, t11, w9, b5)).bind (fun p47 =>
 some (p47.1, p47.2.1, p47.2.2))
 else
 none)
 else
 none)
 else
 none)
 else
 none)
theorem Z202_eq a1 b2 pivot3 b4 b5 : Z202 a1 b2 pivot3 b4 b5 = Z202_b @loop @Z202l1000003 a1 b2 pivot3 b4 b5 := (B0 ..).trans (by kernel_rfl)
noncomputable def Z203l3_b (Z201 : type_of% @Z201) (a1 : Int) (w9 : List Int) (t11 : Int) (s12 : Int × (List Int)) : Option ((Int × (List Int)) ⊕ (Int × (List Int))) :=
 (if (decide (s12.1 <= t11)) = true then
 (if 0 <= s12.1 ∧ s12.1 < (w9.length : Int) then
 let t15 : Int := rd w9 s12.1;
 (if 0 <= a1 ∧ a1 < (w9.length : Int) then
 let t16 : Int := rd w9 a1;
 (Z201 t15 t16 s12.2).bind fun q17 =>
 (if (decide (q17.1 < 0)) = true then
 let t20 := i64.wrap (s12.1 + 1);
 some (Sum.inl (t20, q17.2))
 else
 some (Sum.inr (s12.1, q17.2)))
 else
 none)
 else
 none)
 else
 some (Sum.inr (s12.1, s12.2)))
noncomputable def Z203l3 := Z203l3_b @Z201
noncomputable def Z203l5_b (Z201 : type_of% @Z201) (a1 : Int) (w9 : List Int) (i22 : Int) (s24 : Int × (List Int)) : Option ((Int × (List Int)) ⊕ (Int × (List Int))) :=
 (if (decide (i22 <= s24.1)) = true then
 (if 0 <= s24.1 ∧ s24.1 < (w9.length : Int) then
 let t27 : Int := rd w9 s24.1;
 (if 0 <= a1 ∧ a1 < (w9.length : Int) then
 let t28 : Int := rd w9 a1;
 (Z201 t27 t28 s24.2).bind fun q29 =>
 (if (!(decide (q29.1 < 0))) = true then
 let t32 := i64.wrap (s24.1 - 1);
 some (Sum.inl (t32, q29.2))
 else
 some (Sum.inr (s24.1, q29.2)))
 else
 none)
 else
 none)
 else
 some (Sum.inr (s24.1, s24.2)))
noncomputable def Z203l5 := Z203l5_b @Z201
noncomputable def Z203l13_b (Z201 : type_of% @Z201) (a1 j48 : Int) (b49 : List Int) (s51 : Int × (List Int)) : Option ((Int × (List Int)) ⊕ (Int × (List Int))) :=
 (if (decide (s51.1 <= j48)) = true then
 (if 0 <= s51.1 ∧ s51.1 < (b49.length : Int) then
 let t54 : Int := rd b49 s51.1;
 (if 0 <= a1 ∧ a1 < (b49.length : Int) then
 let t55 : Int := rd b49 a1;
 (Z201 t54 t55 s51.2).bind fun q56 =>
 (if (decide (q56.1 < 0)) = true then
 let t59 := i64.wrap (s51.1 + 1);
 some (Sum.inl (t59, q56.2))
 else
 some (Sum.inr (s51.1, q56.2)))
 else
 none)
 else
 none)
 else
 some (Sum.inr (s51.1, s51.2)))
noncomputable def Z203l13 := Z203l13_b @Z201
noncomputable def Z203l15_b (Z201 : type_of% @Z201) (a1 : Int) (b49 : List Int) (i61 : Int) (s63 : Int × (List Int)) : Option ((Int × (List Int)) ⊕ (Int × (List Int))) :=
 (if (decide (i61 <= s63.1)) = true then
 (if 0 <= s63.1 ∧ s63.1 < (b49.length : Int) then
 let t66 : Int := rd b49 s63.1;
 (if 0 <= a1 ∧ a1 < (b49.length : Int) then
 let t67 : Int := rd b49 a1;
 (Z201 t66 t67 s63.2).bind fun q68 =>
 (if (!(decide (q68.1 < 0))) = true then
 let t71 := i64.wrap (s63.1 - 1);
 some (Sum.inl (t71, q68.2))
 else
 some (Sum.inr (s63.1, q68.2)))
 else
 none)
 else
 none)
 else
 some (Sum.inr (s63.1, s63.2)))
noncomputable def Z203l15 := Z203l15_b @Z201
noncomputable def Z203l1000013_b (loop : type_of% @loop) (Z203l13 : type_of% @Z203l13) (Z203l15 : type_of% @Z203l15) (a1 : Int) (s46 : Int × Int × (List Int) × (List Int)) : Option ((Int × Int × (List Int) × (List Int)) ⊕ (Int × (List Int) × (List Int))) :=
 let b49 := s46.2.2.1;
 (loop (Z203l13 a1 s46.2.1 b49) (s46.1, s46.2.2.2)).bind (fun p60 =>
 (loop (Z203l15 a1 b49 p60.1) (s46.2.1, p60.2)).bind (fun p72 =>
 (if (decide (p60.1 > p72.1)) = true then
 some (Sum.inr (p72.1, b49, p72.2))
 else
 (if 0 <= p72.1 ∧ p72.1 < (b49.length : Int) then
 let t75 : Int := rd b49 p72.1;
 (if 0 <= p60.1 ∧ p60.1 < (b49.length : Int) then
 let t76 : Int := rd b49 p60.1;
 (if 0 <= p60.1 ∧ p60.1 < (b49.length : Int) then
 let w77 : List Int := b49.set p60.1.toNat t75;
 (if 0 <= p72.1 ∧ p72.1 < (w77.length : Int) then
 let w78 : List Int := w77.set p72.1.toNat t76;
 let t79 := i64.wrap (p60.1 + 1);
 let t80 := i64.wrap (p72.1 - 1);
 some (Sum.inl (t79, t80, w78, p72.2))
 else
 none)
 else
 none)
 else
 none)
 else
 none))))
noncomputable def Z203l1000013 := Z203l1000013_b @loop @Z203l13 @Z203l15
noncomputable def Z203_b (loop : type_of% @loop) (Z203l3 : type_of% @Z203l3) (Z203l5 : type_of% @Z203l5) (Z203l1000013 : type_of% @Z203l1000013) (a1 b2 pivot3 : Int) (b4 b5 : List Int) : Option (Int × Bool × (List Int) × (List Int)) :=
 (if 0 <= pivot3 ∧ pivot3 < (b4.length : Int) then
 let t6 : Int := rd b4 pivot3;
 (if 0 <= a1 ∧ a1 < (b4.length : Int) then
 let t7 : Int := rd b4 a1;
 (if 0 <= a1 ∧ a1 < (b4.length : Int) then
 let w8 : List Int := b4.set a1.toNat t6;
 (if 0 <= pivot3 ∧ pivot3 < (w8.length : Int) then
 let w9 : List Int := w8.set pivot3.toNat t7;
 let t10 := i64.wrap (a1 + 1);
 let t11 := i64.wrap (b2 - 1);
 (loop (Z203l3 a1 w9 t11) (t10, b5)).bind (fun p21 =>
 (loop (Z203l5 a1 w9 p21.1) (t11, p21.2)).bind (fun p33 =>
 let j34 := p33.1;
 (if (decide (p21.1 > j34)) = true then
 (if 0 <= a1 ∧ a1 < (w9.length : Int) then
 let t36 : Int := rd w9 a1;
 (if 0 <= j34 ∧ j34 < (w9.length : Int) then
 let t37 : Int := rd w9 j34;
 (if 0 <= j34 ∧ j34 < (w9.length : Int) then
 let w38 : List Int := w9.set j34.toNat t36;
 (if 0 <= a1 ∧ a1 < (w38.length : Int) then
 let w39 : List Int := w38.set a1.toNat t37;
 some (j34, true, w39, p33.2)
 else
 none)
 else
 none)
 else
 none)
 else
 none)
 else
 (if 0 <= j34 ∧ j34 < (w9.length : Int) then
 let t40 : Int := rd w9 j34;
 (if 0 <= p21.1 ∧ p21.1 < (w9.length : Int) then
 let t41 : Int := rd w9 p21.1;
 (if 0 <= p21.1 ∧ p21.1 < (w9.length : Int) then
 let w42 : List Int := w9.set p21.1.toNat t40;
 (if 0 <= j34 ∧ j34 < (w42.length : Int) then
 let w43 : List Int := w42.set j34.toNat t41;
 let t44 := i64.wrap (p21.1 + 1);
 let t45 := i64.wrap (j34 - 1);
 (loop (Z203l1000013 a1) (t44, t45, w43, p33.2)).bind (fun p81 =>
 let b83 := p81.2.1;
 (if 0 <= a1 ∧ a1 < (b83.length : Int) then
 let t85 : Int := rd b83 a1;
 (if 0 <= p81.1 ∧ p81.1 < (b83.length : Int) then
 let t86 : Int := rd b83 p81.1;
 (if 0 <= p81.1 ∧ p81.1 < (b83.length : Int) then
 let w87 : List Int := b83.set p81.1.toNat t85;
 (if 0 <= a1 ∧ a1 < (w87.length : Int) then
 let w88 : List Int := w87.set a1.toNat t86;
 some (p81.1, false, w88, p81.2.2)
 else
 none)
 else
 none)
 else
 none)
 else
 none))
 else
 none)
 else
 none)
 else
 none)
 else
 none))))
 else
 none)
 else
 none)
 else
 none)
 else
 none)
theorem Z203_eq a1 b2 pivot3 b4 b5 : Z203 a1 b2 pivot3 b4 b5 = Z203_b @loop @Z203l3 @Z203l5 @Z203l1000013 a1 b2 pivot3 b4 b5 := (B0 ..).trans (by kernel_rfl)
noncomputable def Z204l1_b (Z201 : type_of% @Z201) (hi2 first3 : Int) (s6 : Int × (List Int) × (List Int)) : Option ((Int × (List Int) × (List Int)) ⊕ (((List Int) × (List Int)) ⊕ ((List Int) × (List Int)))) :=
 let b8 := s6.2.1;
 let t10 := i64.wrap (2 * s6.1);
 let t11 := i64.wrap (t10 + 1);
 (if (decide (t11 ≥ hi2)) = true then
 some (Sum.inr (Sum.inl (b8, s6.2.2)))
 else
 (let t12 := i64.wrap (t11 + 1);
 (if (decide (t12 < hi2)) = true then
 let t13 := i64.wrap (first3 + t11);
 (if 0 <= t13 ∧ t13 < (b8.length : Int) then
 let t14 : Int := rd b8 t13;
 let t15 := i64.wrap (first3 + t11);
 let t16 := i64.wrap (t15 + 1);
 (if 0 <= t16 ∧ t16 < (b8.length : Int) then
 let t17 : Int := rd b8 t16;
 (Z201 t14 t17 s6.2.2).bind fun q18 =>
 some (decide (q18.1 < 0), q18.2)
 else
 none)
 else
 none)
 else
 some (false, s6.2.2)) : Option (Bool × (List Int))).bind (fun p21 =>
 ((if p21.1 = true then
 let t24 := i64.wrap (t11 + 1);
 some t24
 else
 some t11) : Option (Int)).bind (fun child25 =>
 let t26 := i64.wrap (first3 + s6.1);
 (if 0 <= t26 ∧ t26 < (b8.length : Int) then
 let t27 : Int := rd b8 t26;
 let t28 := i64.wrap (first3 + child25);
 (if 0 <= t28 ∧ t28 < (b8.length : Int) then
 let t29 : Int := rd b8 t28;
 (Z201 t27 t29 p21.2).bind fun q30 =>
 (if (!(decide (q30.1 < 0))) = true then
 some (Sum.inr (Sum.inr (b8, q30.2)))
 else
 let t33 := i64.wrap (first3 + s6.1);
 let t34 := i64.wrap (first3 + child25);
 let t35 := i64.wrap (first3 + child25);
 (if 0 <= t35 ∧ t35 < (b8.length : Int) then
 let t36 : Int := rd b8 t35;
 let t37 := i64.wrap (first3 + s6.1);
 (if 0 <= t37 ∧ t37 < (b8.length : Int) then
 let t38 : Int := rd b8 t37;
 (if 0 <= t33 ∧ t33 < (b8.length : Int) then
 let w39 : List Int := b8.set t33.toNat t36;
 (if 0 <= t34 ∧ t34 < (w39.length : Int) then
 let w40 : List Int := w39.set t34.toNat t38;
 some (Sum.inl (child25, w40, q30.2))
 else
 none)
 else
 none)
 else
 none)
 else
 none))
 else
 none)
 else
 none))))
noncomputable def Z204l1 := Z204l1_b @Z201
noncomputable def Z204_b (loop : type_of% @loop) (Z204l1 : type_of% @Z204l1) (lo1 hi2 first3 : Int) (b4 b5 : List Int) : Option ((List Int) × (List Int)) :=
 (loop (Z204l1 hi2 first3) (lo1, b4, b5)).bind (fun o47 =>
 (Sum.elim (fun (p41 : (List Int) × (List Int)) =>
 some (p41.1, p41.2))
 (fun (p44 : (List Int) × (List Int)) =>
 some (p44.1, p44.2)) o47))
theorem Z204_eq lo1 hi2 first3 b4 b5 : Z204 lo1 hi2 first3 b4 b5 = Z204_b @loop @Z204l1 lo1 hi2 first3 b4 b5 := (B0 ..).trans (by kernel_rfl)
noncomputable def Z205_b (Z182 : type_of% @Z182) (length1 : Int) : Option Int :=
 let t2 := u64.wrap length1;
 (Z182 t2).bind fun q3 =>
 (if q3 < 0 then
 none
 else
 let t4 := ishl .u64 1 q3;
 some t4)
theorem Z205_eq length1 : Z205 length1 = Z205_b @Z182 length1 := (B0 ..).trans (by kernel_rfl)
noncomputable def Z206_b (b1 : Int) : Option (Int × Int) :=
 let t2 := ishl .u64 b1 13;
 let t3 := ixor .u64 b1 t2;
 let t4 := ishr .u64 t3 7;
 let t5 := ixor .u64 t3 t4;
 let t6 := ishl .u64 t5 17;
 let t7 := ixor .u64 t5 t6;
 some (t7, t7)
theorem Z206_eq b1 : Z206 b1 = Z206_b b1 := (B0 ..).trans (by kernel_rfl)
noncomputable def Z207_b (Z208 : type_of% @Z208) (a1 : Int) (b2 : List Int) (b3 : Int) (b4 : List Int) : Option (Int × (List Int) × Int × (List Int)) :=
 let t5 := i64.wrap (a1 - 1);
 let t6 := i64.wrap (a1 + 1);
 (Z208 t5 a1 t6 b2 b3 b4).bind fun q7 =>
 some (q7.1, q7.2.1, q7.2.2.1, q7.2.2.2)
theorem Z207_eq a1 b2 b3 b4 : Z207 a1 b2 b3 b4 = Z207_b @Z208 a1 b2 b3 b4 := (B0 ..).trans (by kernel_rfl)
noncomputable def Z208_b (Z210 : type_of% @Z210) (a1 b2 c3 : Int) (b4 : List Int) (b5 : Int) (b6 : List Int) : Option (Int × (List Int) × Int × (List Int)) :=
 (Z210 a1 b2 b4 b5 b6).bind fun q7 =>
 (Z210 q7.2.1 c3 q7.2.2.1 q7.2.2.2.1 q7.2.2.2.2).bind fun q13 =>
 (Z210 q7.1 q13.1 q13.2.2.1 q13.2.2.2.1 q13.2.2.2.2).bind fun q19 =>
 some (q19.2.1, q19.2.2.1, q19.2.2.2.1, q19.2.2.2.2)
theorem Z208_eq a1 b2 c3 b4 b5 b6 : Z208 a1 b2 c3 b4 b5 b6 = Z208_b @Z210 a1 b2 c3 b4 b5 b6 := (B0 ..).trans (by kernel_rfl)
noncomputable def Z209_b (a1 b2 : List Int) : Option Int :=
 let t3 : Int := cmpI a1 b2;
 some t3
theorem Z209_eq a1 b2 : Z209 a1 b2 = Z209_b a1 b2 := (B0 ..).trans (by kernel_rfl)
noncomputable def Z210_b (Z201 : type_of% @Z201) (a1 b2 : Int) (b3 : List Int) (b4 : Int) (b5 : List Int) : Option (Int × Int × (List Int) × Int × (List Int)) :=
 (if 0 <= b2 ∧ b2 < (b3.length : Int) then
 let t6 : Int := rd b3 b2;
 (if 0 <= a1 ∧ a1 < (b3.length : Int) then
 let t7 : Int := rd b3 a1;
 (Z201 t6 t7 b5).bind fun q8 =>
 (if (decide (q8.1 < 0)) = true then
 let t11 := i64.wrap (b4 + 1);
 some (b2, a1, b3, t11, q8.2)
 else
 some (a1, b2, b3, b4, q8.2))
 else
 none)
 else
 none)
theorem Z210_eq a1 b2 b3 b4 b5 : Z210 a1 b2 b3 b4 b5 = Z210_b @Z201 a1 b2 b3 b4 b5 := (B0 ..).trans (by kernel_rfl)
end
end Go.Proofs.YtcphcfknnfibmaaGreat.P
