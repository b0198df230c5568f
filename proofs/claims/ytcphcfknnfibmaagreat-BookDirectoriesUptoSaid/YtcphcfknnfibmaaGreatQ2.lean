import Derived.Test.YtcphcfknnfibmaaGreatG
import Derived.Test.YtcphcfknnfibmaaGreatF5
namespace Go.Proofs.YtcphcfknnfibmaaGreat.P
open Go Go.IntKind Go.Proofs.YtcphcfknnfibmaaGreat.V
set_option linter.unusedVariables false
set_option linter.unusedSimpArgs false
set_option maxRecDepth 100000
noncomputable section
noncomputable def Z117l7 (t51 : List Int) (s52 : Int × Int) : Option ((Int × Int) ⊕ (Int)) :=
 (if (decide (s52.2 < ((t51.length : Nat) : Int))) = true then
 (if 0 <= s52.2 ∧ s52.2 < (t51.length : Int) then
 let t55 := ishl .i64 s52.1 8;
 let t56 := i64.wrap (rd t51 s52.2);
 let t57 := ior .i64 t55 t56;
 let t58 := i64.wrap (s52.2 + 1);
 some (Sum.inl (t57, t58))
 else
 none)
 else
 some (Sum.inr s52.1))
noncomputable def Z117l7_step (i59 : Nat) (x60 s61 : Int) : Option ((Int) ⊕ (Int)) :=
 let t55 := ishl .i64 s61 8;
 let t56 := i64.wrap (x60);
 let t57 := ior .i64 t55 t56;
 some (Sum.inl (t57))
theorem Z117l7_over (t51 : List Int) (hl : t51.length <= 9223372036854775807) (s61 : Int) : loop (Z117l7 t51) ((s61, 0) : Int × Int) =
    overL (Z117l7_step) (fun (s61 : Int) => some s61) 0 t51 s61 := by
  refine B49 t51 (fun n (s : Int) => ((s, ((n : Nat) : Int)) : Int × Int)) _ _ (fun s => ?_) (fun i x s h => ?_) 0 s61 (A33 _)
  . unfold Z117l7; simp
  . have hlt := B7 h
    have h1 : ((i : Nat) : Int) < ((t51.length : Nat) : Int) := by omega
    have h0 : (0 : Int) <= ((i : Nat) : Int) := by omega
    have hw : i64.wrap (((i : Nat) : Int) + 1) = (((i + 1 : Nat) : Nat) : Int) := w64 (by omega)
    have hr : rd t51 ((i : Nat) : Int) = x := B21 h
    unfold Z117l7 Z117l7_step
    simp only [h1, h0, hw, h, hr, A7, A6, A32, A14, A12, A3, A66, Function.comp_def, B80, B66, A40, A65]
noncomputable def Z117_b (Z144 : type_of% @Z144) (Z145 : type_of% @Z145) (loop : type_of% @loop) (Z117l7 : type_of% @Z117l7) (Z146 : type_of% @Z146) (Z68 : type_of% @Z68) (Z147 : type_of% @Z147) (at1 end2 depth3 : Int) (b4 : List Int) (b5 b6 b7 : Int) : Option ((List Int) × (List Int) × (List Int) × (List Chunk) × Int × (List Int) × Int × Int × Int) :=
 (Z144 at1 end2 b4 b5 b6 b7).bind fun q8 =>
 let t14 := i64.wrap (q8.2.2.1 + 1);
 ((if (decide (t14 <= 400)) = true then
 (Z145 (decide (depth3 <= 8)) 4 at1 q8.2.1 t14 q8.2.2.2.1 q8.2.2.2.2).bind fun q15 =>
 (if (!q15.1) = true then
 some (true, q15.2.1, q15.2.2.1, q15.2.2.2.1, q15.2.2.2.2)
 else
 let t21 := i64.wrap (end2 - at1);
 let t22 := i64.wrap (at1 + 4);
 (Z145 (decide (t21 ≥ 8)) 6 t22 q15.2.1 q15.2.2.1 q15.2.2.2.1 q15.2.2.2.2).bind fun q23 =>
 some (!q23.1, q23.2.1, q23.2.2.1, q23.2.2.2.1, q23.2.2.2.2))
 else
 (Z145 false 4 at1 q8.2.1 t14 q8.2.2.2.1 q8.2.2.2.2).bind fun q29 =>
 (if (!q29.1) = true then
 some (true, q29.2.1, q29.2.2.1, q29.2.2.2.1, q29.2.2.2.2)
 else
 let t35 := i64.wrap (end2 - at1);
 let t36 := i64.wrap (at1 + 4);
 (Z145 (decide (t35 ≥ 8)) 6 t36 q29.2.1 q29.2.2.1 q29.2.2.2.1 q29.2.2.2.2).bind fun q37 =>
 some (!q37.1, q37.2.1, q37.2.2.1, q37.2.2.2.1, q37.2.2.2.2))) : Option (Bool × (List Int) × Int × Int × Int)).bind (fun p43 =>
 (if p43.1 = true then
 some (q8.1, [], [], [], end2, p43.2.1, p43.2.2.1, p43.2.2.2.1, p43.2.2.2.2)
 else
 let t49 := i64.wrap (at1 + 4);
 let t50 := i64.wrap (at1 + 8);
 (if 0 <= t50 ∧ t50 <= ((p43.2.1.length : Nat) : Int) then
 (if 0 <= t49 ∧ t49 <= t50 then
 let t51 : List Int := cutL p43.2.1 t49.toNat t50.toNat;
 (loop (Z117l7 t51) (0, 0)).bind (fun n62 =>
 let t63 := i64.wrap (at1 + 8);
 let t64 := i64.wrap (end2 - t63);
 let t65 := i64.wrap (at1 + 4);
 (Z145 (decide (n62 <= t64)) 6 t65 p43.2.1 p43.2.2.1 p43.2.2.2.1 p43.2.2.2.2).bind fun q66 =>
 (if (!q66.1) = true then
 some (q8.1, [], [], [], end2, q66.2.1, q66.2.2.1, q66.2.2.2.1, q66.2.2.2.2)
 else
 let t72 := i64.wrap (t63 + n62);
 ((if (decide (q8.1 = [70, 79, 82, 77])) = true then
 (Z146 t63 t72 q66.2.1 q66.2.2.1 q66.2.2.2.1 q66.2.2.2.2).bind fun q73 =>
 let t79 := i64.wrap (t63 + 4);
 let t80 := i64.wrap (depth3 + 1);
 (Z68 t79 t72 t80 q73.2.1 q73.2.2.1 q73.2.2.2.1 q73.2.2.2.2).bind fun q81 =>
 some (q81.2.1, q81.2.2.1, q81.2.2.2.1, q81.2.2.2.2, q8.1, q73.1, [], q81.1)
 else
 (if 0 <= t72 ∧ t72 <= ((q66.2.1.length : Nat) : Int) then
 (if 0 <= t63 ∧ t63 <= t72 then
 let t87 : List Int := cutL q66.2.1 t63.toNat t72.toNat;
 (Z147 t87).bind fun q88 =>
 some (q66.2.1, q66.2.2.1, q66.2.2.2.1, q66.2.2.2.2, q8.1, [], q88, [])
 else
 none)
 else
 none)) : Option ((List Int) × Int × Int × Int × (List Int) × (List Int) × (List Int) × (List Chunk))).bind (fun p89 =>
 (let t98 : Int := n62.tmod 2;
 (if (decide (t98 = 1)) = true then
 (Z145 (decide (t72 < end2)) 6 t72 p89.1 p89.2.1 p89.2.2.1 p89.2.2.2.1).bind fun q99 =>
 some (q99.1, q99.2.1, q99.2.2.1, q99.2.2.2.1, q99.2.2.2.2)
 else
 some (false, p89.1, p89.2.1, p89.2.2.1, p89.2.2.2.1)) : Option (Bool × (List Int) × Int × Int × Int)).bind (fun p105 =>
 (if p105.1 = true then
 (if 0 <= t72 ∧ t72 < (p105.2.1.length : Int) then
 (Z145 (decide (rd p105.2.1 t72 = 0)) 3 t72 p105.2.1 p105.2.2.1 p105.2.2.2.1 p105.2.2.2.2).bind fun q111 =>
 let t117 := i64.wrap (t72 + 1);
 some (p89.2.2.2.2.1, p89.2.2.2.2.2.1, p89.2.2.2.2.2.2.1, p89.2.2.2.2.2.2.2, t117, q111.2.1, q111.2.2.1, q111.2.2.2.1, q111.2.2.2.2)
 else
 none)
 else
 some (p89.2.2.2.2.1, p89.2.2.2.2.2.1, p89.2.2.2.2.2.2.1, p89.2.2.2.2.2.2.2, t72, p105.2.1, p105.2.2.1, p105.2.2.2.1, p105.2.2.2.2))))))
 else
 none)
 else
 none)))
theorem Z117_eq at1 end2 depth3 b4 b5 b6 b7 : Z117 at1 end2 depth3 b4 b5 b6 b7 = Z117_b @Z144 @Z145 @loop @Z117l7 @Z146 @Z68 @Z147 at1 end2 depth3 b4 b5 b6 b7 := (B0 ..).trans (by kernel_rfl)
noncomputable def Z118l2_b (Z148 : type_of% @Z148) (s1 : List Chunk) (v2 : Int) : Option ((Int) ⊕ ((Unit) ⊕ (Int))) :=
 (if (decide (v2 < ((s1.length : Nat) : Int))) = true then
 (if 0 <= v2 then
 (s1[v2.toNat]?).bind fun e3 =>
 (Z148 e3.id e3.kind e3.data e3.kids).bind fun q4 =>
 (if q4 = true then
 some (Sum.inr (Sum.inr v2))
 else
 let t5 := i64.wrap (v2 + 1);
 some (Sum.inl t5))
 else
 none)
 else
 some (Sum.inr (Sum.inl ())))
noncomputable def Z118l2 := Z118l2_b @Z148
noncomputable def Z118l2_step (i6 : Nat) (x7 : Chunk) (s8 : Unit) : Option ((Unit) ⊕ ((Unit) ⊕ (Int))) :=
 (Z148 x7.id x7.kind x7.data x7.kids).bind fun q4 =>
 (if q4 = true then
 some (Sum.inr (Sum.inr ((i6 : Nat) : Int)))
 else
 some (Sum.inl (())))
theorem Z118l2_over (s1 : List Chunk) (hl : s1.length <= 9223372036854775807) (s8 : Unit) : loop (Z118l2 s1) (0 : Int) =
    overL (Z118l2_step) (fun (s8 : Unit) => some (Sum.inl ())) 0 s1 s8 := by
  refine B49 s1 (fun n (s : Unit) => (((n : Nat) : Int) : Int)) _ _ (fun s => ?_) (fun i x s h => ?_) 0 s8 (A33 _)
  . unfold Z118l2 Z118l2_b; simp
  . have hlt := B7 h
    have h1 : ((i : Nat) : Int) < ((s1.length : Nat) : Int) := by omega
    have h0 : (0 : Int) <= ((i : Nat) : Int) := by omega
    have hw : i64.wrap (((i : Nat) : Int) + 1) = (((i + 1 : Nat) : Nat) : Int) := w64 (by omega)
    unfold Z118l2 Z118l2_b Z118l2_step
    simp only [h1, h0, hw, h, A7, A6, A32, A14, A12, A3, A66, Function.comp_def, B80, B66, A40, A65]
noncomputable def Z118_b (loop : type_of% @loop) (Z118l2 : type_of% @Z118l2) (s1 : List Chunk) : Option Int :=
 (loop (Z118l2 s1) 0).bind (fun o11 =>
 (Sum.elim (fun (p9 : Unit) =>
 some (-1))
 (fun (v10 : Int) =>
 some v10) o11))
theorem Z118_eq s1 : Z118 s1 = Z118_b @loop @Z118l2 s1 := (B0 ..).trans (by kernel_rfl)
noncomputable def Z119_b (n1 : Int) : Option (List Int) :=
 (if (decide (n1 < 0)) = true then
 none
 else
 let t2 := i64.wrap (0 - 0);
 let t3 := i64.wrap (n1 - t2);
 (if (decide (t3 > 0)) = true then
 (if 0 <= (0 : Int) ∧ (0 : Int) <= ((0 : Nat) : Int) then
 (if 0 <= t3 ∧ t3.toNat * 1 <= 140737488355328 then
 (if 0 <= (0 : Int) ∧ (0 : Int) <= (((List.replicate t3.toNat 0).length : Nat) : Int) then
 let t4 : List Int := cutL (List.replicate t3.toNat 0) 0 ((0 : Int).toNat);
 some t4
 else
 none)
 else
 none)
 else
 none)
 else
 some []))
theorem Z119_eq n1 : Z119 n1 = Z119_b n1 := (B0 ..).trans (by kernel_rfl)
noncomputable def Z120l3 (t3 : List Int) (s4 : Int × (List Int)) : Option ((Int × (List Int)) ⊕ ((List Int))) :=
 (if (decide (s4.1 < ((t3.length : Nat) : Int))) = true then
 (if 0 <= s4.1 ∧ s4.1 < (s4.2.length : Int) then
 let w7 : List Int := s4.2.set s4.1.toNat s4.1;
 let t8 := i64.wrap (s4.1 + 1);
 some (Sum.inl (t8, w7))
 else
 none)
 else
 some (Sum.inr s4.2))
noncomputable def Z120_b (loop : type_of% @loop) (Z120l3 : type_of% @Z120l3) (Z149 : type_of% @Z149) (text1 : List Int) : Option (List Int) :=
 let t2 := i64.wrap (((text1.length : Nat) : Int) + 1);
 (if 0 <= t2 ∧ t2 <= t2 ∧ ((8 : Nat) : Int) * t2 <= 281474976710656 then
 let t3 : List Int := List.replicate t2.toNat 0;
 (loop (Z120l3 t3) (0, t3)).bind (fun b12 =>
 (Z149 b12 text1).bind fun q13 =>
 some q13.1)
 else
 none)
theorem Z120_eq text1 : Z120 text1 = Z120_b @loop @Z120l3 @Z149 text1 := (B0 ..).trans (by kernel_rfl)
noncomputable def Z121_b (m1 : Int) (m2 : List Int) : Option (Int × (List Int)) :=
 (if (([] : List Int).length + m2.length) * 8 <= 140737488355328 then
 let t3 : List Int := ([] : List Int) ++ m2;
 some (m1, t3)
 else
 none)
theorem Z121_eq m1 m2 : Z121 m1 m2 = Z121_b m1 m2 := (B0 ..).trans (by kernel_rfl)
noncomputable def Z122_b : Option Unit :=
 some ()
theorem Z122_eq : Z122 = Z122_b := (B0 ..).trans (by kernel_rfl)
noncomputable def Z123_b (Z150 : type_of% @Z150) (s1 : List Int) : Option Bool :=
 (Z150 s1).bind fun q2 =>
 some (decide (q2 ≥ 0))
theorem Z123_eq s1 : Z123 s1 = Z123_b @Z150 s1 := (B0 ..).trans (by kernel_rfl)
noncomputable def Z124_b (Z151 : type_of% @Z151) (ctx1 b2 b3 b4 : Int) (b5 b6 : List Int) : Option (Int × Int × Int × Int × (List Int) × (List Int)) :=
 let t7 := u64.wrap (b4 - b3);
 (if 0 <= ctx1 ∧ ctx1 < (b5.length : Int) then
 let t8 : Int := rd b5 ctx1;
 (Z151 b2 t8).bind fun q9 =>
 let t10 := u64.wrap q9;
 let t11 := u64.wrap (t7.tdiv 4096);
 let t12 := u64.wrap (t11 * t10);
 let t13 := u64.wrap (b3 + t12);
 let t14 : Int := t7.tmod 4096;
 let t15 := u64.wrap (t14 * t10);
 let t16 := u64.wrap (t15.tdiv 4096);
 let t17 := u64.wrap (t13 + t16);
 some (t17, b2, b3, b4, b5, b6)
 else
 none)
theorem Z124_eq ctx1 b2 b3 b4 b5 b6 : Z124 ctx1 b2 b3 b4 b5 b6 = Z124_b @Z151 ctx1 b2 b3 b4 b5 b6 := (B0 ..).trans (by kernel_rfl)
noncomputable def Z125_b (Z152 : type_of% @Z152) (ctx1 bit2 mid3 b4 b5 b6 : Int) (b7 b8 : List Int) : Option (Int × Int × Int × (List Int) × (List Int)) :=
 ((if (decide (bit2 = 1)) = true then
 some (b4, b5, mid3, b7, b8)
 else
 let t9 := u64.wrap (mid3 + 1);
 some (b4, t9, b6, b7, b8)) : Option (Int × Int × Int × (List Int) × (List Int))).bind (fun p10 =>
 let b14 := p10.2.2.2.1;
 (if 0 <= ctx1 ∧ ctx1 < (b14.length : Int) then
 let t16 : Int := rd b14 ctx1;
 (Z152 p10.1 t16 bit2).bind fun q17 =>
 (if 0 <= ctx1 ∧ ctx1 < (b14.length : Int) then
 let w18 : List Int := b14.set ctx1.toNat q17;
 some (p10.1, p10.2.1, p10.2.2.1, w18, p10.2.2.2.2)
 else
 none)
 else
 none))
theorem Z125_eq ctx1 bit2 mid3 b4 b5 b6 b7 b8 : Z125 ctx1 bit2 mid3 b4 b5 b6 b7 b8 = Z125_b @Z152 ctx1 bit2 mid3 b4 b5 b6 b7 b8 := (B0 ..).trans (by kernel_rfl)
noncomputable def Z126_b (b1 b2 b3 : Int) (b4 b5 : List Int) : Option (Bool × Int × Int × Int × (List Int) × (List Int)) :=
 let t6 := ishr .u64 b2 24;
 let t7 := ishr .u64 b3 24;
 some (decide (t6 = t7), b1, b2, b3, b4, b5)
theorem Z126_eq b1 b2 b3 b4 b5 : Z126 b1 b2 b3 b4 b5 = Z126_b b1 b2 b3 b4 b5 := (B0 ..).trans (by kernel_rfl)
noncomputable def Z127_b (b1 b2 b3 : Int) (b4 b5 : List Int) : Option (Int × Int × Int × Int × (List Int) × (List Int)) :=
 let t6 := ishr .u64 b2 24;
 let t7 := u8.wrap t6;
 let t8 := ishl .u64 b2 8;
 let t9 := iand .u64 t8 4294967295;
 let t10 := ishl .u64 b3 8;
 let t11 := iand .u64 t10 4294967295;
 let t12 := ior .u64 t11 255;
 some (t7, b1, t9, t12, b4, b5)
theorem Z127_eq b1 b2 b3 b4 b5 : Z127 b1 b2 b3 b4 b5 = Z127_b b1 b2 b3 b4 b5 := (B0 ..).trans (by kernel_rfl)
noncomputable def Z128_b (Z153 : type_of% @Z153) (x1 : Int) : Option Int :=
 (Z153 x1).bind fun q2 =>
 some q2
theorem Z128_eq x1 : Z128 x1 = Z128_b @Z153 x1 := (B0 ..).trans (by kernel_rfl)
noncomputable def Z129_b (b1 : Int) : Option (Int × Int) :=
 let t2 := i64.wrap (b1 + 1);
 let t3 := imin t2 47;
 some (b1, t3)
theorem Z129_eq b1 : Z129 b1 = Z129_b b1 := (B0 ..).trans (by kernel_rfl)
noncomputable def Z130l6 (text1 : List Int) (q5 q8 : (List Int)) (s9 : Int × Int × (List Int)) : Option ((Int × Int × (List Int)) ⊕ ((List Int))) :=
 let k11 := s9.2.1;
 ((if (decide (s9.1 < ((q5.length : Nat) : Int))) = true then
 some true
 else
 some (decide (k11 < ((q8.length : Nat) : Int)))) : Option (Bool)).bind (fun v13 =>
 (if v13 = true then
 ((if (decide (k11 = ((q8.length : Nat) : Int))) = true then
 some true
 else
 (if (decide (s9.1 < ((q5.length : Nat) : Int))) = true then
 (if 0 <= s9.1 ∧ s9.1 < (q5.length : Int) then
 (if 0 <= k11 ∧ k11 < (q8.length : Int) then
 (Z154 text1 (rd q5 s9.1) (rd q8 k11)).bind fun q14 =>
 some q14
 else
 none)
 else
 none)
 else
 some false)) : Option (Bool)).bind (fun v15 =>
 (if v15 = true then
 (if 0 <= s9.1 ∧ s9.1 < (q5.length : Int) then
 (if (s9.2.2.length + ([rd q5 s9.1] : List Int).length) * 8 <= 140737488355328 then
 let t16 : List Int := s9.2.2 ++ [rd q5 s9.1];
 let t17 := i64.wrap (s9.1 + 1);
 some (Sum.inl (t17, k11, t16))
 else
 none)
 else
 none)
 else
 (if 0 <= k11 ∧ k11 < (q8.length : Int) then
 (if (s9.2.2.length + ([rd q8 k11] : List Int).length) * 8 <= 140737488355328 then
 let t18 : List Int := s9.2.2 ++ [rd q8 k11];
 let t19 := i64.wrap (k11 + 1);
 some (Sum.inl (s9.1, t19, t18))
 else
 none)
 else
 none)))
 else
 some (Sum.inr s9.2.2)))
theorem Z130_eq (text1 l2 : List Int) : Z130 text1 l2 =
 (if (decide (((l2.length : Nat) : Int) < 2)) = true then
 some l2
 else
 let t3 := i64.wrap (((l2.length : Nat) : Int).tdiv 2);
 (if 0 <= t3 ∧ t3 <= ((l2.length : Nat) : Int) then
 let t4 : List Int := cutL l2 0 t3.toNat;
 (Z130 text1 t4).bind fun q5 =>
 let t6 := i64.wrap (((l2.length : Nat) : Int).tdiv 2);
 (if 0 <= t6 ∧ t6 <= ((l2.length : Nat) : Int) then
 let t7 : List Int := cutL l2 t6.toNat l2.length;
 (Z130 text1 t7).bind fun q8 =>
 (loop (Z130l6 text1 q5 q8) (0, 0, [])).bind (fun out20 =>
 some out20)
 else
 none)
 else
 none)) := (B0 ..).trans (by kernel_rfl)
theorem Z131_eq (kind1 state2 : Int) : Z131 kind1 state2 =
 (if (decide (kind1 = 0)) = true then
 let t3 : Int := state2.tmod 32;
 (Z155 t3).bind fun q4 =>
 (if (decide (state2 < 32)) = true then
 some q4
 else
 let t5 : Int := state2.tmod 32;
 (Z155 t5).bind fun q6 =>
 let t7 := i64.wrap (4096 - q6);
 some t7)
 else
 let t8 := i64.wrap (state2.tdiv 256);
 let t9 : Int := state2.tmod 256;
 let t10 := i64.wrap (2 * t9);
 let t11 := i64.wrap (t10 + 1);
 let t12 := i64.wrap (t11 * 4096);
 let t13 := i64.wrap (2 * t8);
 let t14 := i64.wrap (2 * t9);
 let t15 := i64.wrap (t13 + t14);
 let t16 := i64.wrap (t15 + 2);
 (if t16 = 0 then
 none
 else
 let t17 := i64.wrap (t12.tdiv t16);
 let t18 := imax t17 1;
 let t19 := imin t18 4095;
 some t19)) := (B0 ..).trans (by kernel_rfl)
theorem Z132_eq (x1 x2 p3 bit4 : Int) : Z132 x1 x2 p3 bit4 =
 (if (decide (bit4 = 1)) = true then
 (Z156 x1 x2 p3).bind fun q5 =>
 some (x1, q5)
 else
 (Z156 x1 x2 p3).bind fun q6 =>
 let t7 := u64.wrap (q6 + 1);
 some (t7, x2)) := (B0 ..).trans (by kernel_rfl)
theorem Z133_eq (kind1 state2 bit3 : Int) : Z133 kind1 state2 bit3 =
 (if (decide (kind1 = 0)) = true then
 let t4 := i64.wrap (state2.tdiv 32);
 let t5 : Int := state2.tmod 32;
 (if (decide (bit3 = t4)) = true then
 let t6 := i64.wrap (32 * t4);
 let t7 := i64.wrap (t5 + 1);
 let t8 := imin t7 31;
 let t9 := i64.wrap (t6 + t8);
 some t9
 else
 (if (decide (t5 = 0)) = true then
 let t10 := i64.wrap (32 * bit3);
 some t10
 else
 let t11 := i64.wrap (32 * t4);
 let t12 := i64.wrap (t11 + t5);
 let t13 := i64.wrap (t12 - 1);
 let t14 := i64.wrap (t5.tdiv 4);
 let t15 := i64.wrap (t13 - t14);
 some t15))
 else
 let t16 := i64.wrap (state2.tdiv 256);
 let t17 : Int := state2.tmod 256;
 (if 0 <= bit3 ∧ bit3 < ((2 : Nat) : Int) then
 let t18 : Int := rd [t16, t17] bit3;
 ((if (decide (t18 = 255)) = true then
 (if 0 <= (0 : Int) ∧ (0 : Int) < ((2 : Nat) : Int) then
 let t19 := i64.wrap (t16.tdiv 2);
 (if 0 <= (1 : Int) ∧ (1 : Int) < ((2 : Nat) : Int) then
 let t20 := i64.wrap (t17.tdiv 2);
 (if 0 <= (0 : Int) ∧ (0 : Int) < ((2 : Nat) : Int) then
 (if 0 <= (1 : Int) ∧ (1 : Int) < ((2 : Nat) : Int) then
 some (t19, t20)
 else
 none)
 else
 none)
 else
 none)
 else
 none)
 else
 some (t16, t17)) : Option (Int × Int)).bind (fun p21 =>
 (if 0 <= bit3 ∧ bit3 < ((2 : Nat) : Int) then
 let t24 : Int := rd [p21.1, p21.2] bit3;
 let t25 := i64.wrap (t24 + 1);
 (if 0 <= bit3 ∧ bit3 < ((2 : Nat) : Int) then
 let c26 : Int := if bit3 = 0 then t25 else p21.1;
 let c27 : Int := if bit3 = 1 then t25 else p21.2;
 (if 0 <= (0 : Int) ∧ (0 : Int) < ((2 : Nat) : Int) then
 let t28 := i64.wrap (256 * c26);
 (if 0 <= (1 : Int) ∧ (1 : Int) < ((2 : Nat) : Int) then
 let t29 := i64.wrap (t28 + c27);
 some t29
 else
 none)
 else
 none)
 else
 none)
 else
 none))
 else
 none)) := (B0 ..).trans (by kernel_rfl)
theorem Z134_eq (x1 x2 : Int) : Z134 x1 x2 =
 let t3 := ishr .u64 x1 24;
 let t4 := ishr .u64 x2 24;
 some (decide (t3 = t4)) := (B0 ..).trans (by kernel_rfl)
theorem Z135_eq (x1 x2 : Int) : Z135 x1 x2 =
 let t3 : Int := x1.tmod 16777216;
 let t4 := u64.wrap (t3 * 256);
 let t5 : Int := x2.tmod 16777216;
 let t6 := u64.wrap (t5 * 256);
 let t7 := u64.wrap (t6 + 255);
 some (t4, t7) := (B0 ..).trans (by kernel_rfl)
noncomputable def Z136_b (b1 b2 b3 : Int) (b4 : List Int) (b5 b6 b7 : Int) (b8 : Bool) (b9 : List Int) : Option (Bool × Int × Int × Int × (List Int) × Int × Int × Int × Bool × (List Int)) :=
 some (false, b1, b2, b3, b4, b5, b6, b7, b8, b9)
theorem Z136_eq b1 b2 b3 b4 b5 b6 b7 b8 b9 : Z136 b1 b2 b3 b4 b5 b6 b7 b8 b9 = Z136_b b1 b2 b3 b4 b5 b6 b7 b8 b9 := (B0 ..).trans (by kernel_rfl)
noncomputable def Z137_b (Z151 : type_of% @Z151) (ctx1 b2 b3 b4 : Int) (b5 : List Int) (b6 b7 b8 : Int) (b9 : Bool) (b10 : List Int) : Option (Int × Int × Int × Int × (List Int) × Int × Int × Int × Bool × (List Int)) :=
 let t11 := u64.wrap (b4 - b3);
 (if 0 <= ctx1 ∧ ctx1 < (b10.length : Int) then
 let t12 : Int := rd b10 ctx1;
 (Z151 b2 t12).bind fun q13 =>
 let t14 := u64.wrap q13;
 let t15 := u64.wrap (t11.tdiv 4096);
 let t16 := u64.wrap (t15 * t14);
 let t17 := u64.wrap (b3 + t16);
 let t18 : Int := t11.tmod 4096;
 let t19 := u64.wrap (t18 * t14);
 let t20 := u64.wrap (t19.tdiv 4096);
 let t21 := u64.wrap (t17 + t20);
 some (t21, b2, b3, b4, b5, b6, b7, b8, b9, b10)
 else
 none)
theorem Z137_eq ctx1 b2 b3 b4 b5 b6 b7 b8 b9 b10 : Z137 ctx1 b2 b3 b4 b5 b6 b7 b8 b9 b10 = Z137_b @Z151 ctx1 b2 b3 b4 b5 b6 b7 b8 b9 b10 := (B0 ..).trans (by kernel_rfl)
noncomputable def Z138_b (Z152 : type_of% @Z152) (ctx1 bit2 mid3 b4 b5 b6 : Int) (b7 : List Int) (b8 b9 b10 : Int) (b11 : Bool) (b12 : List Int) : Option (Int × Int × Int × (List Int) × Int × Int × Int × Bool × (List Int)) :=
 ((if (decide (bit2 = 1)) = true then
 some (b4, b5, mid3, b7, b8, b9, b10, b11, b12)
 else
 let t13 := u64.wrap (mid3 + 1);
 some (b4, t13, b6, b7, b8, b9, b10, b11, b12)) : Option (Int × Int × Int × (List Int) × Int × Int × Int × Bool × (List Int))).bind (fun p14 =>
 let b23 := p14.2.2.2.2.2.2.2.2;
 (if 0 <= ctx1 ∧ ctx1 < (b23.length : Int) then
 let t24 : Int := rd b23 ctx1;
 (Z152 p14.1 t24 bit2).bind fun q25 =>
 (if 0 <= ctx1 ∧ ctx1 < (b23.length : Int) then
 let w26 : List Int := b23.set ctx1.toNat q25;
 some (p14.1, p14.2.1, p14.2.2.1, p14.2.2.2.1, p14.2.2.2.2.1, p14.2.2.2.2.2.1, p14.2.2.2.2.2.2.1, p14.2.2.2.2.2.2.2.1, w26)
 else
 none)
 else
 none))
theorem Z138_eq ctx1 bit2 mid3 b4 b5 b6 b7 b8 b9 b10 b11 b12 : Z138 ctx1 bit2 mid3 b4 b5 b6 b7 b8 b9 b10 b11 b12 = Z138_b @Z152 ctx1 bit2 mid3 b4 b5 b6 b7 b8 b9 b10 b11 b12 := (B0 ..).trans (by kernel_rfl)
noncomputable def Z139_b (b1 b2 b3 : Int) (b4 : List Int) (b5 b6 b7 : Int) (b8 : Bool) (b9 : List Int) : Option (Bool × Int × Int × Int × (List Int) × Int × Int × Int × Bool × (List Int)) :=
 let t10 := ishr .u64 b2 24;
 let t11 := ishr .u64 b3 24;
 some (decide (t10 = t11), b1, b2, b3, b4, b5, b6, b7, b8, b9)
theorem Z139_eq b1 b2 b3 b4 b5 b6 b7 b8 b9 : Z139 b1 b2 b3 b4 b5 b6 b7 b8 b9 = Z139_b b1 b2 b3 b4 b5 b6 b7 b8 b9 := (B0 ..).trans (by kernel_rfl)
noncomputable def Z140_b (b1 b2 b3 : Int) (b4 : List Int) (b5 b6 b7 : Int) (b8 : Bool) (b9 : List Int) : Option (Int × Int × Int × Int × (List Int) × Int × Int × Int × Bool × (List Int)) :=
 let t10 := ishr .u64 b2 24;
 let t11 := u8.wrap t10;
 let t12 := ishl .u64 b2 8;
 let t13 := iand .u64 t12 4294967295;
 let t14 := ishl .u64 b3 8;
 let t15 := iand .u64 t14 4294967295;
 let t16 := ior .u64 t15 255;
 some (t11, b1, t13, t16, b4, b5, b6, b7, b8, b9)
theorem Z140_eq b1 b2 b3 b4 b5 b6 b7 b8 b9 : Z140 b1 b2 b3 b4 b5 b6 b7 b8 b9 = Z140_b b1 b2 b3 b4 b5 b6 b7 b8 b9 := (B0 ..).trans (by kernel_rfl)
noncomputable def Z141_b (b1 b2 b3 : Int) (b4 : List Int) (b5 b6 b7 : Int) (b8 : Bool) (b9 : List Int) : Option (Int × Int × Int × (List Int) × Int × Int × Int × Bool × (List Int)) :=
 ((if (decide (b5 < ((b4.length : Nat) : Int))) = true then
 (if 0 <= b5 ∧ b5 < (b4.length : Int) then
 some (rd b4 b5, b1, b2, b3, b4, b5, b6, b7, b8, b9)
 else
 none)
 else
 let t10 := i64.wrap (b7 + 1);
 some (0, b1, b2, b3, b4, b5, b6, t10, b8, b9)) : Option (Int × Int × Int × Int × (List Int) × Int × Int × Int × Bool × (List Int))).bind (fun p11 =>
 let t22 := i64.wrap (p11.2.2.2.2.2.1 + 1);
 let t23 := ishl .u64 p11.2.2.2.2.2.2.1 8;
 let t24 := iand .u64 t23 4294967295;
 let t25 := u64.wrap p11.1;
 let t26 := ior .u64 t24 t25;
 some (p11.2.1, p11.2.2.1, p11.2.2.2.1, p11.2.2.2.2.1, t22, t26, p11.2.2.2.2.2.2.2.1, p11.2.2.2.2.2.2.2.2.1, p11.2.2.2.2.2.2.2.2.2))
theorem Z141_eq b1 b2 b3 b4 b5 b6 b7 b8 b9 : Z141 b1 b2 b3 b4 b5 b6 b7 b8 b9 = Z141_b b1 b2 b3 b4 b5 b6 b7 b8 b9 := (B0 ..).trans (by kernel_rfl)
noncomputable def Z142l2_b (Z157 : type_of% @Z157) (Z158 : type_of% @Z158) (Z142 : type_of% @Z142) (l1 : List Chunk) (depth2 : Int) (s4 : Int × Int) : Option ((Int × Int) ⊕ ((Int) ⊕ (Bool × Int))) :=
 (if (decide (s4.1 < ((l1.length : Nat) : Int))) = true then
 (if 0 <= s4.1 then
 (l1[s4.1.toNat]?).bind fun e7 =>
 let t8 := i64.wrap (s4.2 + 1);
 ((if (decide (t8 > 400)) = true then
 some true
 else
 (if (decide (depth2 > 8)) = true then
 some true
 else
 (Z157 e7.id).bind fun q9 =>
 some (!q9))) : Option (Bool)).bind (fun v10 =>
 (if v10 = true then
 some (Sum.inr (Sum.inr (false, t8)))
 else
 (if (decide (e7.id = [70, 79, 82, 77])) = true then
 (Z158 e7.kind).bind fun q11 =>
 (if (!q11) = true then
 some (Sum.inr (Sum.inr (false, t8)))
 else
 (if (decide (((e7.data.length : Nat) : Int) > 0)) = true then
 some (Sum.inr (Sum.inr (false, t8)))
 else
 let t12 := i64.wrap (depth2 + 1);
 (Z142 e7.kids t12 t8).bind fun q13 =>
 (if (!q13.1) = true then
 some (Sum.inr (Sum.inr (false, q13.2)))
 else
 let t16 := i64.wrap (s4.1 + 1);
 some (Sum.inl (t16, q13.2)))))
 else
 (if (!decide (e7.kind = [])) = true then
 some (Sum.inr (Sum.inr (false, t8)))
 else
 (if (decide (((e7.kids.length : Nat) : Int) > 0)) = true then
 some (Sum.inr (Sum.inr (false, t8)))
 else
 let t17 := i64.wrap (s4.1 + 1);
 some (Sum.inl (t17, t8)))))))
 else
 none)
 else
 some (Sum.inr (Sum.inl s4.2)))
noncomputable def Z142l2 := Z142l2_b @Z157 @Z158 @Z142
noncomputable def Z142l2_step (depth2 : Int) (i18 : Nat) (x19 : Chunk) (s20 : Int) : Option ((Int) ⊕ ((Int) ⊕ (Bool × Int))) :=
 let t8 := i64.wrap (s20 + 1);
 ((if (decide (t8 > 400)) = true then
 some true
 else
 (if (decide (depth2 > 8)) = true then
 some true
 else
 (Z157 x19.id).bind fun q9 =>
 some (!q9))) : Option (Bool)).bind (fun v10 =>
 (if v10 = true then
 some (Sum.inr (Sum.inr (false, t8)))
 else
 (if (decide (x19.id = [70, 79, 82, 77])) = true then
 (Z158 x19.kind).bind fun q11 =>
 (if (!q11) = true then
 some (Sum.inr (Sum.inr (false, t8)))
 else
 (if (decide (((x19.data.length : Nat) : Int) > 0)) = true then
 some (Sum.inr (Sum.inr (false, t8)))
 else
 let t12 := i64.wrap (depth2 + 1);
 (Z142 x19.kids t12 t8).bind fun q13 =>
 (if (!q13.1) = true then
 some (Sum.inr (Sum.inr (false, q13.2)))
 else
 some (Sum.inl (q13.2)))))
 else
 (if (!decide (x19.kind = [])) = true then
 some (Sum.inr (Sum.inr (false, t8)))
 else
 (if (decide (((x19.kids.length : Nat) : Int) > 0)) = true then
 some (Sum.inr (Sum.inr (false, t8)))
 else
 some (Sum.inl (t8)))))))
theorem Z142l2_over (l1 : List Chunk) (depth2 : Int) (hl : l1.length <= 9223372036854775807) (s20 : Int) : loop (Z142l2 l1 depth2) ((0, s20) : Int × Int) =
    overL (Z142l2_step depth2) (fun (s20 : Int) => some (Sum.inl s20)) 0 l1 s20 := by
  refine B49 l1 (fun n (s : Int) => ((((n : Nat) : Int), s) : Int × Int)) _ _ (fun s => ?_) (fun i x s h => ?_) 0 s20 (A33 _)
  . unfold Z142l2 Z142l2_b; simp
  . have hlt := B7 h
    have h1 : ((i : Nat) : Int) < ((l1.length : Nat) : Int) := by omega
    have h0 : (0 : Int) <= ((i : Nat) : Int) := by omega
    have hw : i64.wrap (((i : Nat) : Int) + 1) = (((i + 1 : Nat) : Nat) : Int) := w64 (by omega)
    unfold Z142l2 Z142l2_b Z142l2_step
    simp only [h1, h0, hw, h, A7, A6, A32, A14, A12, A3, A66, Function.comp_def, B80, B66, A40, A65]
noncomputable def Z142_b (loop : type_of% @loop) (Z142l2 : type_of% @Z142l2) (l1 : List Chunk) (depth2 b3 : Int) : Option (Bool × Int) :=
 (loop (Z142l2 l1 depth2) (0, b3)).bind (fun o25 =>
 (Sum.elim (fun (b21 : Int) =>
 some (true, b21))
 (fun (p22 : Bool × Int) =>
 some (p22.1, p22.2)) o25))
theorem Z142_eq l1 depth2 b3 : Z142 l1 depth2 b3 = Z142_b @loop @Z142l2 l1 depth2 b3 := (B0 ..).trans (by kernel_rfl)
noncomputable def Z143l5_b (Z115 : type_of% @Z115) (c4 : List Chunk) (s5 : Int × Int) : Option ((Int × Int) ⊕ (Int)) :=
 (if (decide (s5.2 < ((c4.length : Nat) : Int))) = true then
 (if 0 <= s5.2 then
 (c4[s5.2.toNat]?).bind fun e8 =>
 (Z115 e8.id e8.kind e8.data e8.kids).bind fun q9 =>
 let t10 := i64.wrap (s5.1 + q9);
 let t11 := i64.wrap (s5.2 + 1);
 some (Sum.inl (t10, t11))
 else
 none)
 else
 some (Sum.inr s5.1))
noncomputable def Z143l5 := Z143l5_b @Z115
noncomputable def Z143l5_step (i12 : Nat) (x13 : Chunk) (s14 : Int) : Option ((Int) ⊕ (Int)) :=
 (Z115 x13.id x13.kind x13.data x13.kids).bind fun q9 =>
 let t10 := i64.wrap (s14 + q9);
 some (Sum.inl (t10))
theorem Z143l5_over (c4 : List Chunk) (hl : c4.length <= 9223372036854775807) (s14 : Int) : loop (Z143l5 c4) ((s14, 0) : Int × Int) =
    overL (Z143l5_step) (fun (s14 : Int) => some s14) 0 c4 s14 := by
  refine B49 c4 (fun n (s : Int) => ((s, ((n : Nat) : Int)) : Int × Int)) _ _ (fun s => ?_) (fun i x s h => ?_) 0 s14 (A33 _)
  . unfold Z143l5 Z143l5_b; simp
  . have hlt := B7 h
    have h1 : ((i : Nat) : Int) < ((c4.length : Nat) : Int) := by omega
    have h0 : (0 : Int) <= ((i : Nat) : Int) := by omega
    have hw : i64.wrap (((i : Nat) : Int) + 1) = (((i + 1 : Nat) : Nat) : Int) := w64 (by omega)
    unfold Z143l5 Z143l5_b Z143l5_step
    simp only [h1, h0, hw, h, A7, A6, A32, A14, A12, A3, A66, Function.comp_def, B80, B66, A40, A65]
noncomputable def Z143_b (loop : type_of% @loop) (Z143l5 : type_of% @Z143l5) (c1 c2 c3 : List Int) (c4 : List Chunk) : Option Int :=
 (if (!decide (c1 = [70, 79, 82, 77])) = true then
 some ((c3.length : Nat) : Int)
 else
 (loop (Z143l5 c4) (4, 0)).bind (fun n15 =>
 some n15))
theorem Z143_eq c1 c2 c3 c4 : Z143 c1 c2 c3 c4 = Z143_b @loop @Z143l5 c1 c2 c3 c4 := (B0 ..).trans (by kernel_rfl)
noncomputable def Z144_b (Z145 : type_of% @Z145) (Z157 : type_of% @Z157) (at1 end2 : Int) (b3 : List Int) (b4 b5 b6 : Int) : Option ((List Int) × (List Int) × Int × Int × Int) :=
 let t7 := i64.wrap (end2 - at1);
 (Z145 (decide (t7 ≥ 4)) 6 at1 b3 b4 b5 b6).bind fun q8 =>
 (if (!q8.1) = true then
 some ([], q8.2.1, q8.2.2.1, q8.2.2.2.1, q8.2.2.2.2)
 else
 let t14 := i64.wrap (at1 + 4);
 (if 0 <= t14 ∧ t14 <= ((q8.2.1.length : Nat) : Int) then
 (if 0 <= at1 ∧ at1 <= t14 then
 let t15 : List Int := cutL q8.2.1 at1.toNat t14.toNat;
 (Z157 t15).bind fun q16 =>
 (Z145 q16 3 at1 q8.2.1 q8.2.2.1 q8.2.2.2.1 q8.2.2.2.2).bind fun q17 =>
 some (t15, q17.2.1, q17.2.2.1, q17.2.2.2.1, q17.2.2.2.2)
 else
 none)
 else
 none))
theorem Z144_eq at1 end2 b3 b4 b5 b6 : Z144 at1 end2 b3 b4 b5 b6 = Z144_b @Z145 @Z157 at1 end2 b3 b4 b5 b6 := (B0 ..).trans (by kernel_rfl)
noncomputable def Z145_b (ok1 : Bool) (err2 at3 : Int) (b4 : List Int) (b5 b6 b7 : Int) : Option (Bool × (List Int) × Int × Int × Int) :=
 ((if (decide (b6 = 0)) = true then
 some (!ok1)
 else
 some false) : Option (Bool)).bind (fun v8 =>
 (if v8 = true then
 some (decide (err2 = 0), b4, b5, err2, at3)
 else
 some (decide (b6 = 0), b4, b5, b6, b7)))
theorem Z145_eq ok1 err2 at3 b4 b5 b6 b7 : Z145 ok1 err2 at3 b4 b5 b6 b7 = Z145_b ok1 err2 at3 b4 b5 b6 b7 := (B0 ..).trans (by kernel_rfl)
noncomputable def Z146_b (Z145 : type_of% @Z145) (Z158 : type_of% @Z158) (at1 end2 : Int) (b3 : List Int) (b4 b5 b6 : Int) : Option ((List Int) × (List Int) × Int × Int × Int) :=
 let t7 := i64.wrap (end2 - at1);
 (Z145 (decide (t7 ≥ 4)) 6 at1 b3 b4 b5 b6).bind fun q8 =>
 (if (!q8.1) = true then
 some ([], q8.2.1, q8.2.2.1, q8.2.2.2.1, q8.2.2.2.2)
 else
 let t14 := i64.wrap (at1 + 4);
 (if 0 <= t14 ∧ t14 <= ((q8.2.1.length : Nat) : Int) then
 (if 0 <= at1 ∧ at1 <= t14 then
 let t15 : List Int := cutL q8.2.1 at1.toNat t14.toNat;
 (Z158 t15).bind fun q16 =>
 (Z145 q16 3 at1 q8.2.1 q8.2.2.1 q8.2.2.2.1 q8.2.2.2.2).bind fun q17 =>
 some (t15, q17.2.1, q17.2.2.1, q17.2.2.2.1, q17.2.2.2.2)
 else
 none)
 else
 none))
theorem Z146_eq at1 end2 b3 b4 b5 b6 : Z146 at1 end2 b3 b4 b5 b6 = Z146_b @Z145 @Z158 at1 end2 b3 b4 b5 b6 := (B0 ..).trans (by kernel_rfl)
theorem Z147_eq (b1 : List Int) : Z147 b1 =
 (if b1.length = 0 then
 (demon
 (some [])
 ((if (([] : List Int).length + b1.length) * 1 <= 140737488355328 then
 let t2 : List Int := ([] : List Int) ++ b1;
 some t2
 else
 none)))
 else
 (if (([] : List Int).length + b1.length) * 1 <= 140737488355328 then
 let t3 : List Int := ([] : List Int) ++ b1;
 some t3
 else
 none)) := (B0 ..).trans (by kernel_rfl)
noncomputable def Z148_b (x1 x2 x3 : List Int) (x4 : List Chunk) : Option Bool :=
 some (!decide (x1 = [70, 73, 76, 69]))
theorem Z148_eq x1 x2 x3 x4 : Z148 x1 x2 x3 x4 = Z148_b x1 x2 x3 x4 := (B0 ..).trans (by kernel_rfl)
noncomputable def Z149_b (Z128 : type_of% @Z128) (Z159 : type_of% @Z159) (b1 b2 : List Int) : Option ((List Int) × (List Int)) :=
 let t3 := u64.wrap ((b1.length : Nat) : Int);
 (Z128 t3).bind fun q4 =>
 (Z159 0 ((b1.length : Nat) : Int) q4 b1 b2).bind fun q5 =>
 some (q5.1, q5.2)
theorem Z149_eq b1 b2 : Z149 b1 b2 = Z149_b @Z128 @Z159 b1 b2 := (B0 ..).trans (by kernel_rfl)
noncomputable def Z150l2_b (Z160 : type_of% @Z160) (s1 : List Int) (v2 : Int) : Option ((Int) ⊕ ((Unit) ⊕ (Int))) :=
 (if (decide (v2 < ((s1.length : Nat) : Int))) = true then
 (if 0 <= v2 ∧ v2 < (s1.length : Int) then
 (Z160 (rd s1 v2)).bind fun q3 =>
 (if q3 = true then
 some (Sum.inr (Sum.inr v2))
 else
 let t4 := i64.wrap (v2 + 1);
 some (Sum.inl t4))
 else
 none)
 else
 some (Sum.inr (Sum.inl ())))
noncomputable def Z150l2 := Z150l2_b @Z160
noncomputable def Z150l2_step (i5 : Nat) (x6 : Int) (s7 : Unit) : Option ((Unit) ⊕ ((Unit) ⊕ (Int))) :=
 (Z160 (x6)).bind fun q3 =>
 (if q3 = true then
 some (Sum.inr (Sum.inr ((i5 : Nat) : Int)))
 else
 some (Sum.inl (())))
theorem Z150l2_over (s1 : List Int) (hl : s1.length <= 9223372036854775807) (s7 : Unit) : loop (Z150l2 s1) (0 : Int) =
    overL (Z150l2_step) (fun (s7 : Unit) => some (Sum.inl ())) 0 s1 s7 := by
  refine B49 s1 (fun n (s : Unit) => (((n : Nat) : Int) : Int)) _ _ (fun s => ?_) (fun i x s h => ?_) 0 s7 (A33 _)
  . unfold Z150l2 Z150l2_b; simp
  . have hlt := B7 h
    have h1 : ((i : Nat) : Int) < ((s1.length : Nat) : Int) := by omega
    have h0 : (0 : Int) <= ((i : Nat) : Int) := by omega
    have hw : i64.wrap (((i : Nat) : Int) + 1) = (((i + 1 : Nat) : Nat) : Int) := w64 (by omega)
    have hr : rd s1 ((i : Nat) : Int) = x := B21 h
    unfold Z150l2 Z150l2_b Z150l2_step
    simp only [h1, h0, hw, h, hr, A7, A6, A32, A14, A12, A3, A66, Function.comp_def, B80, B66, A40, A65]
noncomputable def Z150_b (loop : type_of% @loop) (Z150l2 : type_of% @Z150l2) (s1 : List Int) : Option Int :=
 (loop (Z150l2 s1) 0).bind (fun o10 =>
 (Sum.elim (fun (p8 : Unit) =>
 some (-1))
 (fun (v9 : Int) =>
 some v9) o10))
theorem Z150_eq s1 : Z150 s1 = Z150_b @loop @Z150l2 s1 := (B0 ..).trans (by kernel_rfl)
noncomputable def Z151_b (kind1 s2 : Int) : Option Int :=
 (if (decide (kind1 = 1)) = true then
 let t3 := i64.wrap (s2.tdiv 256);
 let t4 : Int := s2.tmod 256;
 let t5 := i64.wrap (2 * t4);
 let t6 := i64.wrap (t5 + 1);
 let t7 := i64.wrap (t6 * 4096);
 let t8 := i64.wrap (2 * t3);
 let t9 := i64.wrap (2 * t4);
 let t10 := i64.wrap (t8 + t9);
 let t11 := i64.wrap (t10 + 2);
 (if t11 = 0 then
 none
 else
 let t12 := i64.wrap (t7.tdiv t11);
 let t13 := imax t12 1;
 let t14 := imin t13 4095;
 some t14)
 else
 (if (decide (s2 ≥ 32)) = true then
 let t15 := i64.wrap (s2 - 32);
 (if 0 <= t15 ∧ t15 < ((32 : Nat) : Int) then
 let t16 : Int := rd [2048, 1792, 1568, 1372, 1201, 1051, 920, 805, 705, 617, 540, 473, 414, 363, 318, 279, 245, 215, 189, 166, 146, 128, 112, 98, 86, 76, 67, 59, 52, 46, 41, 36] t15;
 let t17 := i64.wrap (4096 - t16);
 some t17
 else
 none)
 else
 (if 0 <= s2 ∧ s2 < ((32 : Nat) : Int) then
 let t18 : Int := rd [2048, 1792, 1568, 1372, 1201, 1051, 920, 805, 705, 617, 540, 473, 414, 363, 318, 279, 245, 215, 189, 166, 146, 128, 112, 98, 86, 76, 67, 59, 52, 46, 41, 36] s2;
 some t18
 else
 none)))
theorem Z151_eq kind1 s2 : Z151 kind1 s2 = Z151_b kind1 s2 := (B0 ..).trans (by kernel_rfl)
noncomputable def Z152_b (kind1 s2 bit3 : Int) : Option Int :=
 (if (decide (kind1 = 1)) = true then
 let t4 := i64.wrap (s2.tdiv 256);
 let t5 : Int := s2.tmod 256;
 (if 0 <= bit3 ∧ bit3 < ((2 : Nat) : Int) then
 let t6 : Int := rd [t4, t5] bit3;
 ((if (decide (t6 = 255)) = true then
 (if 0 <= (0 : Int) ∧ (0 : Int) < ((2 : Nat) : Int) then
 let t7 := i64.wrap (t4.tdiv 2);
 (if 0 <= (1 : Int) ∧ (1 : Int) < ((2 : Nat) : Int) then
 let t8 := i64.wrap (t5.tdiv 2);
 (if 0 <= (0 : Int) ∧ (0 : Int) < ((2 : Nat) : Int) then
 (if 0 <= (1 : Int) ∧ (1 : Int) < ((2 : Nat) : Int) then
 some (t7, t8)
 else
 none)
 else
 none)
 else
 none)
 else
 none)
 else
 some (t4, t5)) : Option (Int × Int)).bind (fun p9 =>
 (if 0 <= bit3 ∧ bit3 < ((2 : Nat) : Int) then
 let t12 : Int := rd [p9.1, p9.2] bit3;
 let t13 := i64.wrap (t12 + 1);
 (if 0 <= bit3 ∧ bit3 < ((2 : Nat) : Int) then
 let c14 : Int := if bit3 = 0 then t13 else p9.1;
 let c15 : Int := if bit3 = 1 then t13 else p9.2;
 (if 0 <= (0 : Int) ∧ (0 : Int) < ((2 : Nat) : Int) then
 let t16 := i64.wrap (256 * c14);
 (if 0 <= (1 : Int) ∧ (1 : Int) < ((2 : Nat) : Int) then
 let t17 := i64.wrap (t16 + c15);
 some t17
 else
 none)
 else
 none)
 else
 none)
 else
 none))
 else
 none)
 else
 let t18 := i64.wrap (s2.tdiv 32);
 let t19 : Int := s2.tmod 32;
 (if (decide (bit3 = t18)) = true then
 let t20 := i64.wrap (t19 + 1);
 let t21 := imin t20 31;
 let t22 := i64.wrap (32 * t18);
 let t23 := i64.wrap (t22 + t21);
 some t23
 else
 (if (decide (t19 = 0)) = true then
 let t24 := i64.wrap (32 * bit3);
 let t25 := i64.wrap (t24 + t19);
 some t25
 else
 let t26 := i64.wrap (t19.tdiv 4);
 let t27 := i64.wrap (1 + t26);
 let t28 := i64.wrap (t19 - t27);
 let t29 := i64.wrap (32 * t18);
 let t30 := i64.wrap (t29 + t28);
 some t30)))
theorem Z152_eq kind1 s2 bit3 : Z152 kind1 s2 bit3 = Z152_b kind1 s2 bit3 := (B0 ..).trans (by kernel_rfl)
noncomputable def Z153_b (x1 : Int) : Option Int :=
 ((if (decide (x1 ≥ 4294967296)) = true then
 let t2 := ishr .u64 x1 32;
 some (t2, 32)
 else
 some (x1, 0)) : Option (Int × Int)).bind (fun p3 =>
 ((if (decide (p3.1 ≥ 65536)) = true then
 let t6 := ishr .u64 p3.1 16;
 let t7 := i64.wrap (p3.2 + 16);
 some (t6, t7)
 else
 some (p3.1, p3.2)) : Option (Int × Int)).bind (fun p8 =>
 ((if (decide (p8.1 ≥ 256)) = true then
 let t11 := ishr .u64 p8.1 8;
 let t12 := i64.wrap (p8.2 + 8);
 some (t11, t12)
 else
 some (p8.1, p8.2)) : Option (Int × Int)).bind (fun p13 =>
 let t16 := u8.wrap p13.1;
 (if 0 <= t16 ∧ t16 < (([0, 1, 2, 2, 3, 3, 3, 3, 4, 4, 4, 4, 4, 4, 4, 4, 5, 5, 5, 5, 5, 5, 5, 5, 5, 5, 5, 5, 5, 5, 5, 5, 6, 6, 6, 6, 6, 6, 6, 6, 6, 6, 6, 6, 6, 6, 6, 6, 6, 6, 6, 6, 6, 6, 6, 6, 6, 6, 6, 6, 6, 6, 6, 6, 7, 7, 7, 7, 7, 7, 7, 7, 7, 7, 7, 7, 7, 7, 7, 7, 7, 7, 7, 7, 7, 7, 7, 7, 7, 7, 7, 7, 7, 7, 7, 7, 7, 7, 7, 7, 7, 7, 7, 7, 7, 7, 7, 7, 7, 7, 7, 7, 7, 7, 7, 7, 7, 7, 7, 7, 7, 7, 7, 7, 7, 7, 7, 7, 8, 8, 8, 8, 8, 8, 8, 8, 8, 8, 8, 8, 8, 8, 8, 8, 8, 8, 8, 8, 8, 8, 8, 8, 8, 8, 8, 8, 8, 8, 8, 8, 8, 8, 8, 8, 8, 8, 8, 8, 8, 8, 8, 8, 8, 8, 8, 8, 8, 8, 8, 8, 8, 8, 8, 8, 8, 8, 8, 8, 8, 8, 8, 8, 8, 8, 8, 8, 8, 8, 8, 8, 8, 8, 8, 8, 8, 8, 8, 8, 8, 8, 8, 8, 8, 8, 8, 8, 8, 8, 8, 8, 8, 8, 8, 8, 8, 8, 8, 8, 8, 8, 8, 8, 8, 8, 8, 8, 8, 8, 8, 8, 8, 8, 8, 8, 8, 8, 8, 8, 8, 8, 8, 8, 8, 8, 8, 8]).length : Int) then
 let t17 : Int := rd [0, 1, 2, 2, 3, 3, 3, 3, 4, 4, 4, 4, 4, 4, 4, 4, 5, 5, 5, 5, 5, 5, 5, 5, 5, 5, 5, 5, 5, 5, 5, 5, 6, 6, 6, 6, 6, 6, 6, 6, 6, 6, 6, 6, 6, 6, 6, 6, 6, 6, 6, 6, 6, 6, 6, 6, 6, 6, 6, 6, 6, 6, 6, 6, 7, 7, 7, 7, 7, 7, 7, 7, 7, 7, 7, 7, 7, 7, 7, 7, 7, 7, 7, 7, 7, 7, 7, 7, 7, 7, 7, 7, 7, 7, 7, 7, 7, 7, 7, 7, 7, 7, 7, 7, 7, 7, 7, 7, 7, 7, 7, 7, 7, 7, 7, 7, 7, 7, 7, 7, 7, 7, 7, 7, 7, 7, 7, 7, 8, 8, 8, 8, 8, 8, 8, 8, 8, 8, 8, 8, 8, 8, 8, 8, 8, 8, 8, 8, 8, 8, 8, 8, 8, 8, 8, 8, 8, 8, 8, 8, 8, 8, 8, 8, 8, 8, 8, 8, 8, 8, 8, 8, 8, 8, 8, 8, 8, 8, 8, 8, 8, 8, 8, 8, 8, 8, 8, 8, 8, 8, 8, 8, 8, 8, 8, 8, 8, 8, 8, 8, 8, 8, 8, 8, 8, 8, 8, 8, 8, 8, 8, 8, 8, 8, 8, 8, 8, 8, 8, 8, 8, 8, 8, 8, 8, 8, 8, 8, 8, 8, 8, 8, 8, 8, 8, 8, 8, 8, 8, 8, 8, 8, 8, 8, 8, 8, 8, 8, 8, 8, 8, 8, 8, 8, 8, 8] t16;
 let t18 := i64.wrap t17;
 let t19 := i64.wrap (p13.2 + t18);
 some t19
 else
 none))))
theorem Z153_eq x1 : Z153 x1 = Z153_b x1 := (B0 ..).trans (by kernel_rfl)
theorem Z154_eq (text1 : List Int) (a2 b3 : Int) : Z154 text1 a2 b3 =
 (if 0 <= a2 ∧ a2 <= ((text1.length : Nat) : Int) then
 let t4 : List Int := cutL text1 a2.toNat text1.length;
 (if 0 <= b3 ∧ b3 <= ((text1.length : Nat) : Int) then
 let t5 : List Int := cutL text1 b3.toNat text1.length;
 some (strLt (t4) (t5))
 else
 none)
 else
 none) := (B0 ..).trans (by kernel_rfl)
noncomputable def Z155l3 (k1 : Int) (s2 : Int × Int) : Option ((Int × Int) ⊕ (Int)) :=
 (if (decide (s2.2 < k1)) = true then
 let t5 := i64.wrap (s2.1.tdiv 8);
 let t6 := i64.wrap (s2.1 - t5);
 let t7 := i64.wrap (s2.2 + 1);
 some (Sum.inl (t6, t7))
 else
 some (Sum.inr s2.1))
theorem Z155_eq (k1 : Int) : Z155 k1 =
 (loop (Z155l3 k1) (2048, 0)).bind (fun q11 =>
 some q11) := (B0 ..).trans (by kernel_rfl)
theorem Z156_eq (x1 x2 p3 : Int) : Z156 x1 x2 p3 =
 let t4 := u64.wrap (x2 - x1);
 let t5 := u64.wrap (t4.tdiv 4096);
 let t6 := u64.wrap p3;
 let t7 := u64.wrap (t5 * t6);
 let t8 := u64.wrap (x1 + t7);
 let t9 : Int := t4.tmod 4096;
 let t10 := u64.wrap p3;
 let t11 := u64.wrap (t9 * t10);
 let t12 := u64.wrap (t11.tdiv 4096);
 let t13 := u64.wrap (t8 + t12);
 some t13 := (B0 ..).trans (by kernel_rfl)
noncomputable def Z157l4 (s1 : List Int) (v2 : Int) : Option ((Int) ⊕ ((Unit) ⊕ (Bool))) :=
 (if (decide (v2 < 4)) = true then
 (if 0 <= v2 ∧ v2 < ((s1).length : Int) then
 let t3 : Int := rd s1 v2;
 (if (decide (t3 < 65)) = true then
 (if (decide (t3 < 48)) = true then
 some (Sum.inr (Sum.inr false))
 else
 (if (decide (t3 > 57)) = true then
 some (Sum.inr (Sum.inr false))
 else
 let t4 := i64.wrap (v2 + 1);
 some (Sum.inl t4)))
 else
 (if (decide (t3 > 90)) = true then
 (if (decide (t3 < 48)) = true then
 some (Sum.inr (Sum.inr false))
 else
 (if (decide (t3 > 57)) = true then
 some (Sum.inr (Sum.inr false))
 else
 let t5 := i64.wrap (v2 + 1);
 some (Sum.inl t5)))
 else
 let t6 := i64.wrap (v2 + 1);
 some (Sum.inl t6)))
 else
 none)
 else
 some (Sum.inr (Sum.inl ())))
noncomputable def Z157_b (loop : type_of% @loop) (Z157l4 : type_of% @Z157l4) (s1 : List Int) : Option Bool :=
 (if (!decide (((s1.length : Nat) : Int) = 4)) = true then
 some false
 else
 (loop (Z157l4 s1) 0).bind (fun o12 =>
 (Sum.elim (fun (p10 : Unit) =>
 some true)
 (fun (v11 : Bool) =>
 some v11) o12)))
theorem Z157_eq s1 : Z157 s1 = Z157_b @loop @Z157l4 s1 := (B0 ..).trans (by kernel_rfl)
noncomputable def Z158_b (Z157 : type_of% @Z157) (s1 : List Int) : Option Bool :=
 (Z157 s1).bind fun q2 =>
 (if q2 = true then
 some (!decide (s1 = [70, 79, 82, 77]))
 else
 some false)
theorem Z158_eq s1 : Z158 s1 = Z158_b @Z157 s1 := (B0 ..).trans (by kernel_rfl)
noncomputable def Z159l2_b (Z161 : type_of% @Z161) (Z162 : type_of% @Z162) (Z163 : type_of% @Z163) (Z164 : type_of% @Z164) (Z165 : type_of% @Z165) (Z166 : type_of% @Z166) (Z167 : type_of% @Z167) (Z168 : type_of% @Z168) (Z169 : type_of% @Z169) (Z159 : type_of% @Z159) (s6 : Int × Int × Int × Bool × Bool × (List Int) × (List Int)) : Option ((Int × Int × Int × Bool × Bool × (List Int) × (List Int)) ⊕ ((List Int) × (List Int))) :=
 let a7 := s6.1;
 let b8 := s6.2.1;
 let b12 := s6.2.2.2.2.2.1;
 let b13 := s6.2.2.2.2.2.2;
 let t14 := i64.wrap (b8 - a7);
 (if (decide (t14 <= 12)) = true then
 (Z161 a7 b8 b12 b13).bind fun q15 =>
 some (Sum.inr (q15.1, q15.2))
 else
 (if (decide (s6.2.2.1 = 0)) = true then
 (Z162 a7 b8 b12 b13).bind fun q18 =>
 some (Sum.inr (q18.1, q18.2))
 else
 ((if (!s6.2.2.2.1) = true then
 (Z163 a7 b8 b12 b13).bind fun q21 =>
 let t24 := i64.wrap (s6.2.2.1 - 1);
 some (t24, q21.1, q21.2)
 else
 some (s6.2.2.1, b12, b13)) : Option (Int × (List Int) × (List Int))).bind (fun p25 =>
 (Z164 a7 b8 p25.2.1 p25.2.2).bind fun q29 =>
 ((if (decide (q29.2.1 = 2)) = true then
 (Z165 a7 b8 q29.2.2.1 q29.2.2.2).bind fun q34 =>
 let t37 := i64.wrap (b8 - 1);
 let t38 := i64.wrap (q29.1 - a7);
 let t39 := i64.wrap (t37 - t38);
 some (t39, 1, q34.1, q34.2)
 else
 some (q29.1, q29.2.1, q29.2.2.1, q29.2.2.2)) : Option (Int × Int × (List Int) × (List Int))).bind (fun p40 =>
 ((if s6.2.2.2.1 = true then
 (if s6.2.2.2.2.1 = true then
 some (decide (p40.2.1 = 1))
 else
 some false)
 else
 some false) : Option (Bool)).bind (fun v45 =>
 ((if v45 = true then
 (Z166 a7 b8 p40.2.2.1 p40.2.2.2).bind fun q46 =>
 (if q46.1 = true then
 some (Sum.inr (q46.2.1, q46.2.2))
 else
 some (Sum.inl (q46.2.1, q46.2.2)))
 else
 some (Sum.inl (p40.2.2.1, p40.2.2.2))) : Option (((List Int) × (List Int)) ⊕ ((List Int) × (List Int)))).bind (fun o56 =>
 (Sum.elim (fun (p50 : (List Int) × (List Int)) =>
 ((if (decide (a7 > 0)) = true then
 let t57 := i64.wrap (a7 - 1);
 (if 0 <= t57 ∧ t57 < (p50.1.length : Int) then
 let t58 : Int := rd p50.1 t57;
 (if 0 <= p40.1 ∧ p40.1 < (p50.1.length : Int) then
 let t59 : Int := rd p50.1 p40.1;
 (Z167 t58 t59 p50.2).bind fun q60 =>
 some (!(decide (q60.1 < 0)), q60.2)
 else
 none)
 else
 none)
 else
 some (false, p50.2)) : Option (Bool × (List Int))).bind (fun p63 =>
 (if p63.1 = true then
 (Z168 a7 b8 p40.1 p50.1 p63.2).bind fun q66 =>
 some (Sum.inl (q66.1, b8, p25.1, s6.2.2.2.1, s6.2.2.2.2.1, q66.2.1, q66.2.2))
 else
 (Z169 a7 b8 p40.1 p50.1 p63.2).bind fun q70 =>
 let t75 := i64.wrap (q70.1 - a7);
 let t76 := i64.wrap (b8 - q70.1);
 let t77 := i64.wrap (t14.tdiv 8);
 (if (decide (t75 < t76)) = true then
 (Z159 a7 q70.1 p25.1 q70.2.2.1 q70.2.2.2).bind fun q78 =>
 let t81 := i64.wrap (q70.1 + 1);
 some (Sum.inl (t81, b8, p25.1, decide (t75 ≥ t77), q70.2.1, q78.1, q78.2))
 else
 let t82 := i64.wrap (q70.1 + 1);
 (Z159 t82 b8 p25.1 q70.2.2.1 q70.2.2.2).bind fun q83 =>
 some (Sum.inl (a7, q70.1, p25.1, decide (t76 ≥ t77), q70.2.1, q83.1, q83.2))))))
 (fun (p53 : (List Int) × (List Int)) =>
 some (Sum.inr (p53.1, p53.2))) o56)))))))
noncomputable def Z159l2 := Z159l2_b @Z161 @Z162 @Z163 @Z164 @Z165 @Z166 @Z167 @Z168 @Z169 @Z159
noncomputable def Z159_b (loop : type_of% @loop) (Z159l2 : type_of% @Z159l2) (a1 b2 limit3 : Int) (b4 b5 : List Int) : Option ((List Int) × (List Int)) :=
 (loop (Z159l2) (a1, b2, limit3, true, true, b4, b5)).bind (fun p86 =>
 some (p86.1, p86.2))
theorem Z159_eq a1 b2 limit3 b4 b5 : Z159 a1 b2 limit3 b4 b5 = Z159_b @loop @Z159l2 a1 b2 limit3 b4 b5 := (B0 ..).trans (by kernel_rfl)
noncomputable def Z160_b (s1 : Int) : Option Bool :=
 (if (decide (s1 < 0)) = true then
 some true
 else
 some (decide (s1 ≥ 257)))
theorem Z160_eq s1 : Z160 s1 = Z160_b s1 := (B0 ..).trans (by kernel_rfl)
noncomputable def Z161l4_b (Z167 : type_of% @Z167) (a1 : Int) (s10 : Int × (List Int) × (List Int)) : Option ((Int × (List Int) × (List Int)) ⊕ ((List Int) × (List Int))) :=
 let j11 := s10.1;
 let b12 := s10.2.1;
 ((if (decide (j11 > a1)) = true then
 (if 0 <= j11 ∧ j11 < (b12.length : Int) then
 let t14 : Int := rd b12 j11;
 let t15 := i64.wrap (j11 - 1);
 (if 0 <= t15 ∧ t15 < (b12.length : Int) then
 let t16 : Int := rd b12 t15;
 (Z167 t14 t16 s10.2.2).bind fun q17 =>
 some (decide (q17.1 < 0), q17.2)
 else
 none)
 else
 none)
 else
 some (false, s10.2.2)) : Option (Bool × (List Int))).bind (fun p20 =>
 (if p20.1 = true then
 let t23 := i64.wrap (j11 - 1);
 let t24 := i64.wrap (j11 - 1);
 (if 0 <= t24 ∧ t24 < (b12.length : Int) then
 let t25 : Int := rd b12 t24;
 (if 0 <= j11 ∧ j11 < (b12.length : Int) then
 let t26 : Int := rd b12 j11;
 (if 0 <= j11 ∧ j11 < (b12.length : Int) then
 let w27 : List Int := b12.set j11.toNat t25;
 (if 0 <= t23 ∧ t23 < (w27.length : Int) then
 let w28 : List Int := w27.set t23.toNat t26;
 let t29 := i64.wrap (j11 - 1);
 some (Sum.inl (t29, w28, p20.2))
 else
 none)
 else
 none)
 else
 none)
 else
 none)
 else
 some (Sum.inr (b12, p20.2))))
noncomputable def Z161l4 := Z161l4_b @Z167
noncomputable def Z161l1_b (loop : type_of% @loop) (Z161l4 : type_of% @Z161l4) (a1 b2 : Int) (s6 : Int × (List Int) × (List Int)) : Option ((Int × (List Int) × (List Int)) ⊕ ((List Int) × (List Int))) :=
 (if (decide (s6.1 < b2)) = true then
 (loop (Z161l4 a1) (s6.1, s6.2.1, s6.2.2)).bind (fun p30 =>
 let t33 := i64.wrap (s6.1 + 1);
 some (Sum.inl (t33, p30.1, p30.2)))
 else
 some (Sum.inr (s6.2.1, s6.2.2)))
noncomputable def Z161l1 := Z161l1_b @loop @Z161l4
noncomputable def Z161_b (loop : type_of% @loop) (Z161l1 : type_of% @Z161l1) (a1 b2 : Int) (b3 b4 : List Int) : Option ((List Int) × (List Int)) :=
 let t5 := i64.wrap (a1 + 1);
 (loop (Z161l1 a1 b2) (t5, b3, b4)).bind (fun p39 =>
 some (p39.1, p39.2))
theorem Z161_eq a1 b2 b3 b4 : Z161 a1 b2 b3 b4 = Z161_b @loop @Z161l1 a1 b2 b3 b4 := (B0 ..).trans (by kernel_rfl)
noncomputable def Z162l4_b (Z170 : type_of% @Z170) (a1 t5 : Int) (s8 : Int × (List Int) × (List Int)) : Option ((Int × (List Int) × (List Int)) ⊕ ((List Int) × (List Int))) :=
 (if (decide (s8.1 ≥ 0)) = true then
 (Z170 s8.1 t5 a1 s8.2.1 s8.2.2).bind fun q12 =>
 let t15 := i64.wrap (s8.1 - 1);
 some (Sum.inl (t15, q12.1, q12.2))
 else
 some (Sum.inr (s8.2.1, s8.2.2)))
noncomputable def Z162l4 := Z162l4_b @Z170
noncomputable def Z162l8_b (Z170 : type_of% @Z170) (a1 : Int) (s20 : Int × (List Int) × (List Int)) : Option ((Int × (List Int) × (List Int)) ⊕ ((List Int) × (List Int))) :=
 let b22 := s20.2.1;
 (if (decide (s20.1 ≥ 0)) = true then
 let t24 := i64.wrap (a1 + s20.1);
 let t25 := i64.wrap (a1 + s20.1);
 (if 0 <= t25 ∧ t25 < (b22.length : Int) then
 let t26 : Int := rd b22 t25;
 (if 0 <= a1 ∧ a1 < (b22.length : Int) then
 let t27 : Int := rd b22 a1;
 (if 0 <= a1 ∧ a1 < (b22.length : Int) then
 let w28 : List Int := b22.set a1.toNat t26;
 (if 0 <= t24 ∧ t24 < (w28.length : Int) then
 let w29 : List Int := w28.set t24.toNat t27;
 (Z170 0 s20.1 a1 w29 s20.2.2).bind fun q30 =>
 let t33 := i64.wrap (s20.1 - 1);
 some (Sum.inl (t33, q30.1, q30.2))
 else
 none)
 else
 none)
 else
 none)
 else
 none)
 else
 some (Sum.inr (b22, s20.2.2)))
noncomputable def Z162l8 := Z162l8_b @Z170
noncomputable def Z162_b (loop : type_of% @loop) (Z162l4 : type_of% @Z162l4) (Z162l8 : type_of% @Z162l8) (a1 b2 : Int) (b3 b4 : List Int) : Option ((List Int) × (List Int)) :=
 let t5 := i64.wrap (b2 - a1);
 let t6 := i64.wrap (t5 - 1);
 let t7 := i64.wrap (t6.tdiv 2);
 (loop (Z162l4 a1 t5) (t7, b3, b4)).bind (fun p16 =>
 let t19 := i64.wrap (t5 - 1);
 (loop (Z162l8 a1) (t19, p16.1, p16.2)).bind (fun p34 =>
 some (p34.1, p34.2)))
theorem Z162_eq a1 b2 b3 b4 : Z162 a1 b2 b3 b4 = Z162_b @loop @Z162l4 @Z162l8 a1 b2 b3 b4 := (B0 ..).trans (by kernel_rfl)
noncomputable def Z163l5_b (Z172 : type_of% @Z172) (a1 t5 q7 : Int) (s12 : Int × (List Int) × Int) : Option ((Int × (List Int) × Int) ⊕ ((List Int) × Int)) :=
 let b14 := s12.2.1;
 let t16 := i64.wrap (t5.tdiv 4);
 let t17 := i64.wrap (t16 * 2);
 let t18 := i64.wrap (a1 + t17);
 let t19 := i64.wrap (t18 + 1);
 (if (decide (s12.1 <= t19)) = true then
 (Z172 s12.2.2).bind fun q20 =>
 let t23 := u64.wrap (q7 - 1);
 let t24 := iand .u64 q20.1 t23;
 let t25 := i64.wrap t24;
 ((if (decide (t25 ≥ t5)) = true then
 let t26 := i64.wrap (t25 - t5);
 some t26
 else
 some t25) : Option (Int)).bind (fun other27 =>
 let t28 := i64.wrap (a1 + other27);
 let t29 := i64.wrap (a1 + other27);
 (if 0 <= t29 ∧ t29 < (b14.length : Int) then
 let t30 : Int := rd b14 t29;
 (if 0 <= s12.1 ∧ s12.1 < (b14.length : Int) then
 let t31 : Int := rd b14 s12.1;
 (if 0 <= s12.1 ∧ s12.1 < (b14.length : Int) then
 let w32 : List Int := b14.set s12.1.toNat t30;
 (if 0 <= t28 ∧ t28 < (w32.length : Int) then
 let w33 : List Int := w32.set t28.toNat t31;
 let t34 := i64.wrap (s12.1 + 1);
 some (Sum.inl (t34, w33, q20.2))
 else
 none)
 else
 none)
 else
 none)
 else
 none))
 else
 some (Sum.inr (b14, s12.2.2)))
noncomputable def Z163l5 := Z163l5_b @Z172
noncomputable def Z163_b (Z171 : type_of% @Z171) (loop : type_of% @loop) (Z163l5 : type_of% @Z163l5) (a1 b2 : Int) (b3 b4 : List Int) : Option ((List Int) × (List Int)) :=
 let t5 := i64.wrap (b2 - a1);
 (if (decide (t5 ≥ 8)) = true then
 let t6 := u64.wrap t5;
 (Z171 t5).bind fun q7 =>
 let t8 := i64.wrap (t5.tdiv 4);
 let t9 := i64.wrap (t8 * 2);
 let t10 := i64.wrap (a1 + t9);
 let t11 := i64.wrap (t10 - 1);
 (loop (Z163l5 a1 t5 q7) (t11, b3, t6)).bind (fun p35 =>
 some (p35.1, b4))
 else
 some (b3, b4))
theorem Z163_eq a1 b2 b3 b4 : Z163 a1 b2 b3 b4 = Z163_b @Z171 @loop @Z163l5 a1 b2 b3 b4 := (B0 ..).trans (by kernel_rfl)
noncomputable def Z164_b (Z173 : type_of% @Z173) (Z174 : type_of% @Z174) (a1 b2 : Int) (b3 b4 : List Int) : Option (Int × Int × (List Int) × (List Int)) :=
 let t5 := i64.wrap (b2 - a1);
 let t6 := i64.wrap (t5.tdiv 4);
 let t7 := i64.wrap (t6 * 1);
 let t8 := i64.wrap (a1 + t7);
 let t9 := i64.wrap (t5.tdiv 4);
 let t10 := i64.wrap (t9 * 2);
 let t11 := i64.wrap (a1 + t10);
 let t12 := i64.wrap (t5.tdiv 4);
 let t13 := i64.wrap (t12 * 3);
 let t14 := i64.wrap (a1 + t13);
 ((if (decide (t5 ≥ 8)) = true then
 ((if (decide (t5 ≥ 50)) = true then
 (Z173 t8 b3 0 b4).bind fun q15 =>
 (Z173 t11 q15.2.1 q15.2.2.1 q15.2.2.2).bind fun q20 =>
 (Z173 t14 q20.2.1 q20.2.2.1 q20.2.2.2).bind fun q25 =>
 some (q15.1, q20.1, q25.1, q25.2.1, q25.2.2.2, q25.2.2.1)
 else
 some (t8, t11, t14, b3, b4, 0)) : Option (Int × Int × Int × (List Int) × (List Int) × Int)).bind (fun p30 =>
 (Z174 p30.1 p30.2.1 p30.2.2.1 p30.2.2.2.1 p30.2.2.2.2.2 p30.2.2.2.2.1).bind fun q37 =>
 some (q37.1, q37.2.1, q37.2.2.2, q37.2.2.1))
 else
 some (t11, b3, b4, 0)) : Option (Int × (List Int) × (List Int) × Int)).bind (fun p42 =>
 (if (decide (p42.2.2.2 = 0)) = true then
 some (p42.1, 1, p42.2.1, p42.2.2.1)
 else
 (if (decide (p42.2.2.2 = 12)) = true then
 some (p42.1, 2, p42.2.1, p42.2.2.1)
 else
 some (p42.1, 0, p42.2.1, p42.2.2.1))))
theorem Z164_eq a1 b2 b3 b4 : Z164 a1 b2 b3 b4 = Z164_b @Z173 @Z174 a1 b2 b3 b4 := (B0 ..).trans (by kernel_rfl)
noncomputable def Z165l2 (s6 : Int × Int × (List Int)) : Option ((Int × Int × (List Int)) ⊕ ((List Int))) :=
 let j8 := s6.2.1;
 let b9 := s6.2.2;
 (if (decide (s6.1 < j8)) = true then
 (if 0 <= j8 ∧ j8 < (b9.length : Int) then
 let t10 : Int := rd b9 j8;
 (if 0 <= s6.1 ∧ s6.1 < (b9.length : Int) then
 let t11 : Int := rd b9 s6.1;
 (if 0 <= s6.1 ∧ s6.1 < (b9.length : Int) then
 let w12 : List Int := b9.set s6.1.toNat t10;
 (if 0 <= j8 ∧ j8 < (w12.length : Int) then
 let w13 : List Int := w12.set j8.toNat t11;
 let t14 := i64.wrap (s6.1 + 1);
 let t15 := i64.wrap (j8 - 1);
 some (Sum.inl (t14, t15, w13))
 else
 none)
 else
 none)
 else
 none)
 else
 none)
 else
 some (Sum.inr b9))
noncomputable def Z165_b (loop : type_of% @loop) (Z165l2 : type_of% @Z165l2) (a1 b2 : Int) (b3 b4 : List Int) : Option ((List Int) × (List Int)) :=
 let t5 := i64.wrap (b2 - 1);
 (loop (Z165l2) (a1, t5, b3)).bind (fun b16 =>
 some (b16, b4))
theorem Z165_eq a1 b2 b3 b4 : Z165 a1 b2 b3 b4 = Z165_b @loop @Z165l2 a1 b2 b3 b4 := (B0 ..).trans (by kernel_rfl)
noncomputable def Z166l5_b (Z167 : type_of% @Z167) (b2 : Int) (b9 : List Int) (s11 : Int × (List Int)) : Option ((Int × (List Int)) ⊕ (Int × (List Int))) :=
 (if (decide (s11.1 < b2)) = true then
 (if 0 <= s11.1 ∧ s11.1 < (b9.length : Int) then
 let t14 : Int := rd b9 s11.1;
 let t15 := i64.wrap (s11.1 - 1);
 (if 0 <= t15 ∧ t15 < (b9.length : Int) then
 let t16 : Int := rd b9 t15;
 (Z167 t14 t16 s11.2).bind fun q17 =>
 (if (!(decide (q17.1 < 0))) = true then
 let t20 := i64.wrap (s11.1 + 1);
 some (Sum.inl (t20, q17.2))
 else
 some (Sum.inr (s11.1, q17.2)))
 else
 none)
 else
 none)
 else
 some (Sum.inr (s11.1, s11.2)))
noncomputable def Z166l5 := Z166l5_b @Z167
noncomputable def Z166l14_b (Z167 : type_of% @Z167) (s33 : Int × (List Int) × (List Int)) : Option ((Int × (List Int) × (List Int)) ⊕ ((List Int) × (List Int))) :=
 let j34 := s33.1;
 let b35 := s33.2.1;
 (if (decide (j34 ≥ 1)) = true then
 (if 0 <= j34 ∧ j34 < (b35.length : Int) then
 let t37 : Int := rd b35 j34;
 let t38 := i64.wrap (j34 - 1);
 (if 0 <= t38 ∧ t38 < (b35.length : Int) then
 let t39 : Int := rd b35 t38;
 (Z167 t37 t39 s33.2.2).bind fun q40 =>
 (if (!(decide (q40.1 < 0))) = true then
 some (Sum.inr (b35, q40.2))
 else
 let t43 := i64.wrap (j34 - 1);
 let t44 := i64.wrap (j34 - 1);
 (if 0 <= t44 ∧ t44 < (b35.length : Int) then
 let t45 : Int := rd b35 t44;
 (if 0 <= j34 ∧ j34 < (b35.length : Int) then
 let t46 : Int := rd b35 j34;
 (if 0 <= j34 ∧ j34 < (b35.length : Int) then
 let w47 : List Int := b35.set j34.toNat t45;
 (if 0 <= t43 ∧ t43 < (w47.length : Int) then
 let w48 : List Int := w47.set t43.toNat t46;
 let t49 := i64.wrap (j34 - 1);
 some (Sum.inl (t49, w48, q40.2))
 else
 none)
 else
 none)
 else
 none)
 else
 none))
 else
 none)
 else
 none)
 else
 some (Sum.inr (b35, s33.2.2)))
noncomputable def Z166l14 := Z166l14_b @Z167
noncomputable def Z166l20_b (Z167 : type_of% @Z167) (b2 : Int) (s58 : Int × (List Int) × (List Int)) : Option ((Int × (List Int) × (List Int)) ⊕ ((List Int) × (List Int))) :=
 let j59 := s58.1;
 let b60 := s58.2.1;
 (if (decide (j59 < b2)) = true then
 (if 0 <= j59 ∧ j59 < (b60.length : Int) then
 let t62 : Int := rd b60 j59;
 let t63 := i64.wrap (j59 - 1);
 (if 0 <= t63 ∧ t63 < (b60.length : Int) then
 let t64 : Int := rd b60 t63;
 (Z167 t62 t64 s58.2.2).bind fun q65 =>
 (if (!(decide (q65.1 < 0))) = true then
 some (Sum.inr (b60, q65.2))
 else
 let t68 := i64.wrap (j59 - 1);
 let t69 := i64.wrap (j59 - 1);
 (if 0 <= t69 ∧ t69 < (b60.length : Int) then
 let t70 : Int := rd b60 t69;
 (if 0 <= j59 ∧ j59 < (b60.length : Int) then
 let t71 : Int := rd b60 j59;
 (if 0 <= j59 ∧ j59 < (b60.length : Int) then
 let w72 : List Int := b60.set j59.toNat t70;
 (if 0 <= t68 ∧ t68 < (w72.length : Int) then
 let w73 : List Int := w72.set t68.toNat t71;
 let t74 := i64.wrap (j59 + 1);
 some (Sum.inl (t74, w73, q65.2))
 else
 none)
 else
 none)
 else
 none)
 else
 none))
 else
 none)
 else
 none)
 else
 some (Sum.inr (b60, s58.2.2)))
noncomputable def Z166l20 := Z166l20_b @Z167
noncomputable def Z166l3_b (loop : type_of% @loop) (Z166l5 : type_of% @Z166l5) (Z166l14 : type_of% @Z166l14) (Z166l20 : type_of% @Z166l20) (a1 b2 : Int) (s6 : Int × Int × (List Int) × (List Int)) : Option ((Int × Int × (List Int) × (List Int)) ⊕ (((List Int) × (List Int)) ⊕ (Bool × (List Int) × (List Int)))) :=
 let b9 := s6.2.2.1;
 (if (decide (s6.2.1 < 5)) = true then
 (loop (Z166l5 b2 b9) (s6.1, s6.2.2.2)).bind (fun p21 =>
 let i22 := p21.1;
 (if (decide (i22 = b2)) = true then
 some (Sum.inr (Sum.inr (true, b9, p21.2)))
 else
 let t24 := i64.wrap (b2 - a1);
 (if (decide (t24 < 50)) = true then
 some (Sum.inr (Sum.inr (false, b9, p21.2)))
 else
 let t25 := i64.wrap (i22 - 1);
 let t26 := i64.wrap (i22 - 1);
 (if 0 <= t26 ∧ t26 < (b9.length : Int) then
 let t27 : Int := rd b9 t26;
 (if 0 <= i22 ∧ i22 < (b9.length : Int) then
 let t28 : Int := rd b9 i22;
 (if 0 <= i22 ∧ i22 < (b9.length : Int) then
 let w29 : List Int := b9.set i22.toNat t27;
 (if 0 <= t25 ∧ t25 < (w29.length : Int) then
 let w30 : List Int := w29.set t25.toNat t28;
 let t31 := i64.wrap (i22 - a1);
 ((if (decide (t31 ≥ 2)) = true then
 let t32 := i64.wrap (i22 - 1);
 (loop (Z166l14) (t32, w30, p21.2)).bind (fun p50 =>
 some (p50.1, p50.2))
 else
 some (w30, p21.2)) : Option ((List Int) × (List Int))).bind (fun p53 =>
 let t56 := i64.wrap (b2 - i22);
 (if (decide (t56 ≥ 2)) = true then
 let t57 := i64.wrap (i22 + 1);
 (loop (Z166l20 b2) (t57, p53.1, p53.2)).bind (fun p80 =>
 let t83 := i64.wrap (s6.2.1 + 1);
 some (Sum.inl (i22, t83, p80.1, p80.2)))
 else
 let t84 := i64.wrap (s6.2.1 + 1);
 some (Sum.inl (i22, t84, p53.1, p53.2))))
 else
 none)
 else
 none)
 else
 none)
 else
 none))))
 else
 some (Sum.inr (Sum.inl (b9, s6.2.2.2))))
noncomputable def Z166l3 := Z166l3_b @loop @Z166l5 @Z166l14 @Z166l20
noncomputable def Z166_b (loop : type_of% @loop) (Z166l3 : type_of% @Z166l3) (a1 b2 : Int) (b3 b4 : List Int) : Option (Bool × (List Int) × (List Int)) :=
 let t5 := i64.wrap (a1 + 1);
 (loop (Z166l3 a1 b2) (t5, 0, b3, b4)).bind (fun o98 =>
 (Sum.elim (fun (p91 : (List Int) × (List Int)) =>
 some (false, p91.1, p91.2))
 (fun (p94 : Bool × (List Int) × (List Int)) =>
 some (p94.1, p94.2.1, p94.2.2)) o98))
theorem Z166_eq a1 b2 b3 b4 : Z166 a1 b2 b3 b4 = Z166_b @loop @Z166l3 a1 b2 b3 b4 := (B0 ..).trans (by kernel_rfl)
noncomputable def Z167_b (Z175 : type_of% @Z175) (a1 b2 : Int) (b3 : List Int) : Option (Int × (List Int)) :=
 (if 0 <= a1 ∧ a1 <= ((b3.length : Nat) : Int) then
 let t4 : List Int := cutL b3 a1.toNat b3.length;
 (if 0 <= b2 ∧ b2 <= ((b3.length : Nat) : Int) then
 let t5 : List Int := cutL b3 b2.toNat b3.length;
 (Z175 t4 t5).bind fun q6 =>
 some (q6, b3)
 else
 none)
 else
 none)
theorem Z167_eq a1 b2 b3 : Z167 a1 b2 b3 = Z167_b @Z175 a1 b2 b3 := (B0 ..).trans (by kernel_rfl)
noncomputable def Z168l3_b (Z167 : type_of% @Z167) (a1 j14 : Int) (b15 : List Int) (s17 : Int × (List Int)) : Option ((Int × (List Int)) ⊕ (Int × (List Int))) :=
 (if (decide (s17.1 <= j14)) = true then
 (if 0 <= a1 ∧ a1 < (b15.length : Int) then
 let t20 : Int := rd b15 a1;
 (if 0 <= s17.1 ∧ s17.1 < (b15.length : Int) then
 let t21 : Int := rd b15 s17.1;
 (Z167 t20 t21 s17.2).bind fun q22 =>
 (if (!(decide (q22.1 < 0))) = true then
 let t25 := i64.wrap (s17.1 + 1);
 some (Sum.inl (t25, q22.2))
 else
 some (Sum.inr (s17.1, q22.2)))
 else
 none)
 else
 none)
 else
 some (Sum.inr (s17.1, s17.2)))
noncomputable def Z168l3 := Z168l3_b @Z167
noncomputable def Z168l5_b (Z167 : type_of% @Z167) (a1 : Int) (b15 : List Int) (i27 : Int) (s29 : Int × (List Int)) : Option ((Int × (List Int)) ⊕ (Int × (List Int))) :=
 (if (decide (i27 <= s29.1)) = true then
 (if 0 <= a1 ∧ a1 < (b15.length : Int) then
 let t32 : Int := rd b15 a1;
 (if 0 <= s29.1 ∧ s29.1 < (b15.length : Int) then
 let t33 : Int := rd b15 s29.1;
 (Z167 t32 t33 s29.2).bind fun q34 =>
 (if (decide (q34.1 < 0)) = true then
 let t37 := i64.wrap (s29.1 - 1);
 some (Sum.inl (t37, q34.2))
 else
 some (Sum.inr (s29.1, q34.2)))
 else
 none)
 else
 none)
 else
 some (Sum.inr (s29.1, s29.2)))
noncomputable def Z168l5 := Z168l5_b @Z167
noncomputable def Z168l1000003_b (loop : type_of% @loop) (Z168l3 : type_of% @Z168l3) (Z168l5 : type_of% @Z168l5) (a1 : Int) (s12 : Int × Int × (List Int) × (List Int)) : Option ((Int × Int × (List Int) × (List Int)) ⊕ (Int × (List Int) × (List Int))) :=
 let b15 := s12.2.2.1;
 (loop (Z168l3 a1 s12.2.1 b15) (s12.1, s12.2.2.2)).bind (fun p26 =>
 let i27 := p26.1;
 (loop (Z168l5 a1 b15 i27) (s12.2.1, p26.2)).bind (fun p38 =>
 (if (decide (i27 > p38.1)) = true then
 some (Sum.inr (i27, b15, p38.2))
 else
 (if 0 <= p38.1 ∧ p38.1 < (b15.length : Int) then
 let t41 : Int := rd b15 p38.1;
 (if 0 <= i27 ∧ i27 < (b15.length : Int) then
 let t42 : Int := rd b15 i27;
 (if 0 <= i27 ∧ i27 < (b15.length : Int) then
 let w43 : List Int := b15.set i27.toNat t41;
 (if 0 <= p38.1 ∧ p38.1 < (w43.length : Int) then
 let w44 : List Int := w43.set p38.1.toNat t42;
 let t45 := i64.wrap (i27 + 1);
 let t46 := i64.wrap (p38.1 - 1);
 some (Sum.inl (t45, t46, w44, p38.2))
 else
 none)
 else
 none)
 else
 none)
 else
 none))))
noncomputable def Z168l1000003 := Z168l1000003_b @loop @Z168l3 @Z168l5
noncomputable def Z168_b (loop : type_of% @loop) (Z168l1000003 : type_of% @Z168l1000003) (a1 b2 pivot3 : Int) (b4 b5 : List Int) : Option (Int × (List Int) × (List Int)) :=
 (if 0 <= pivot3 ∧ pivot3 < (b4.length : Int) then
 let t6 : Int := rd b4 pivot3;
 (if 0 <= a1 ∧ a1 < (b4.length : Int) then
 let t7 : Int := rd b4 a1;
 (if 0 <= a1 ∧ a1 < (b4.length : Int) then
 let w8 : List Int := b4.set a1.toNat t6;
 (if 0 <= pivot3 ∧ pivot3 < (w8.length : Int) then
 let w9 : List Int := w8.set pivot3.toNat t7;
 let t10 := i64.wrap (a1 + 1);
 let t11 := i64.wrap (b2 - 1);
 (loop (Z168l1000003 a1) (t10, t11, w9, b5)).bind (fun p47 =>
 some (p47.1, p47.2.1, p47.2.2))
 else
 none)
 else
 none)
 else
 none)
 else
 none)
theorem Z168_eq a1 b2 pivot3 b4 b5 : Z168 a1 b2 pivot3 b4 b5 = Z168_b @loop @Z168l1000003 a1 b2 pivot3 b4 b5 := (B0 ..).trans (by kernel_rfl)
noncomputable def Z169l3_b (Z167 : type_of% @Z167) (a1 : Int) (w9 : List Int) (t11 : Int) (s12 : Int × (List Int)) : Option ((Int × (List Int)) ⊕ (Int × (List Int))) :=
 (if (decide (s12.1 <= t11)) = true then
 (if 0 <= s12.1 ∧ s12.1 < (w9.length : Int) then
 let t15 : Int := rd w9 s12.1;
 (if 0 <= a1 ∧ a1 < (w9.length : Int) then
 let t16 : Int := rd w9 a1;
 (Z167 t15 t16 s12.2).bind fun q17 =>
 (if (decide (q17.1 < 0)) = true then
 let t20 := i64.wrap (s12.1 + 1);
 some (Sum.inl (t20, q17.2))
 else
 some (Sum.inr (s12.1, q17.2)))
 else
 none)
 else
 none)
 else
 some (Sum.inr (s12.1, s12.2)))
noncomputable def Z169l3 := Z169l3_b @Z167
noncomputable def Z169l5_b (Z167 : type_of% @Z167) (a1 : Int) (w9 : List Int) (i22 : Int) (s24 : Int × (List Int)) : Option ((Int × (List Int)) ⊕ (Int × (List Int))) :=
 (if (decide (i22 <= s24.1)) = true then
 (if 0 <= s24.1 ∧ s24.1 < (w9.length : Int) then
 let t27 : Int := rd w9 s24.1;
 (if 0 <= a1 ∧ a1 < (w9.length : Int) then
 let t28 : Int := rd w9 a1;
 (Z167 t27 t28 s24.2).bind fun q29 =>
 (if (!(decide (q29.1 < 0))) = true then
 let t32 := i64.wrap (s24.1 - 1);
 some (Sum.inl (t32, q29.2))
 else
 some (Sum.inr (s24.1, q29.2)))
 else
 none)
 else
 none)
 else
 some (Sum.inr (s24.1, s24.2)))
noncomputable def Z169l5 := Z169l5_b @Z167
noncomputable def Z169l13_b (Z167 : type_of% @Z167) (a1 j48 : Int) (b49 : List Int) (s51 : Int × (List Int)) : Option ((Int × (List Int)) ⊕ (Int × (List Int))) :=
 (if (decide (s51.1 <= j48)) = true then
 (if 0 <= s51.1 ∧ s51.1 < (b49.length : Int) then
 let t54 : Int := rd b49 s51.1;
 (if 0 <= a1 ∧ a1 < (b49.length : Int) then
 let t55 : Int := rd b49 a1;
 (Z167 t54 t55 s51.2).bind fun q56 =>
 (if (decide (q56.1 < 0)) = true then
 let t59 := i64.wrap (s51.1 + 1);
 some (Sum.inl (t59, q56.2))
 else
 some (Sum.inr (s51.1, q56.2)))
 else
 none)
 else
 none)
 else
 some (Sum.inr (s51.1, s51.2)))
noncomputable def Z169l13 := Z169l13_b @Z167
noncomputable def Z169l15_b (Z167 : type_of% @Z167) (a1 : Int) (b49 : List Int) (i61 : Int) (s63 : Int × (List Int)) : Option ((Int × (List Int)) ⊕ (Int × (List Int))) :=
 (if (decide (i61 <= s63.1)) = true then
 (if 0 <= s63.1 ∧ s63.1 < (b49.length : Int) then
 let t66 : Int := rd b49 s63.1;
 (if 0 <= a1 ∧ a1 < (b49.length : Int) then
 let t67 : Int := rd b49 a1;
 (Z167 t66 t67 s63.2).bind fun q68 =>
 (if (!(decide (q68.1 < 0))) = true then
 let t71 := i64.wrap (s63.1 - 1);
 some (Sum.inl (t71, q68.2))
 else
 some (Sum.inr (s63.1, q68.2)))
 else
 none)
 else
 none)
 else
 some (Sum.inr (s63.1, s63.2)))
noncomputable def Z169l15 := Z169l15_b @Z167
noncomputable def Z169l1000013_b (loop : type_of% @loop) (Z169l13 : type_of% @Z169l13) (Z169l15 : type_of% @Z169l15) (a1 : Int) (s46 : Int × Int × (List Int) × (List Int)) : Option ((Int × Int × (List Int) × (List Int)) ⊕ (Int × (List Int) × (List Int))) :=
 let b49 := s46.2.2.1;
 (loop (Z169l13 a1 s46.2.1 b49) (s46.1, s46.2.2.2)).bind (fun p60 =>
 (loop (Z169l15 a1 b49 p60.1) (s46.2.1, p60.2)).bind (fun p72 =>
 (if (decide (p60.1 > p72.1)) = true then
 some (Sum.inr (p72.1, b49, p72.2))
 else
 (if 0 <= p72.1 ∧ p72.1 < (b49.length : Int) then
 let t75 : Int := rd b49 p72.1;
 (if 0 <= p60.1 ∧ p60.1 < (b49.length : Int) then
 let t76 : Int := rd b49 p60.1;
 (if 0 <= p60.1 ∧ p60.1 < (b49.length : Int) then
 let w77 : List Int := b49.set p60.1.toNat t75;
 (if 0 <= p72.1 ∧ p72.1 < (w77.length : Int) then
 let w78 : List Int := w77.set p72.1.toNat t76;
 let t79 := i64.wrap (p60.1 + 1);
 let t80 := i64.wrap (p72.1 - 1);
 some (Sum.inl (t79, t80, w78, p72.2))
 else
 none)
 else
 none)
 else
 none)
 else
 none))))
noncomputable def Z169l1000013 := Z169l1000013_b @loop @Z169l13 @Z169l15
noncomputable def Z169_b (loop : type_of% @loop) (Z169l3 : type_of% @Z169l3) (Z169l5 : type_of% @Z169l5) (Z169l1000013 : type_of% @Z169l1000013) (a1 b2 pivot3 : Int) (b4 b5 : List Int) : Option (Int × Bool × (List Int) × (List Int)) :=
 (if 0 <= pivot3 ∧ pivot3 < (b4.length : Int) then
 let t6 : Int := rd b4 pivot3;
 (if 0 <= a1 ∧ a1 < (b4.length : Int) then
 let t7 : Int := rd b4 a1;
 (if 0 <= a1 ∧ a1 < (b4.length : Int) then
 let w8 : List Int := b4.set a1.toNat t6;
 (if 0 <= pivot3 ∧ pivot3 < (w8.length : Int) then
 let w9 : List Int := w8.set pivot3.toNat t7;
 let t10 := i64.wrap (a1 + 1);
 let t11 := i64.wrap (b2 - 1);
 (loop (Z169l3 a1 w9 t11) (t10, b5)).bind (fun p21 =>
 (loop (Z169l5 a1 w9 p21.1) (t11, p21.2)).bind (fun p33 =>
 let j34 := p33.1;
 (if (decide (p21.1 > j34)) = true then
 (if 0 <= a1 ∧ a1 < (w9.length : Int) then
 let t36 : Int := rd w9 a1;
 (if 0 <= j34 ∧ j34 < (w9.length : Int) then
 let t37 : Int := rd w9 j34;
 (if 0 <= j34 ∧ j34 < (w9.length : Int) then
 let w38 : List Int := w9.set j34.toNat t36;
 (if 0 <= a1 ∧ a1 < (w38.length : Int) then
 let w39 : List Int := w38.set a1.toNat t37;
 some (j34, true, w39, p33.2)
 else
 none)
 else
 none)
 else
 none)
 else
 none)
 else
 (if 0 <= j34 ∧ j34 < (w9.length : Int) then
 let t40 : Int := rd w9 j34;
 (if 0 <= p21.1 ∧ p21.1 < (w9.length : Int) then
 let t41 : Int := rd w9 p21.1;
 (if 0 <= p21.1 ∧ p21.1 < (w9.length : Int) then
 let w42 : List Int := w9.set p21.1.toNat t40;
 (if 0 <= j34 ∧ j34 < (w42.length : Int) then
 let w43 : List Int := w42.set j34.toNat t41;
 let t44 := i64.wrap (p21.1 + 1);
 let t45 := i64.wrap (j34 - 1);
 (loop (Z169l1000013 a1) (t44, t45, w43, p33.2)).bind (fun p81 =>
 let b83 := p81.2.1;
 (if 0 <= a1 ∧ a1 < (b83.length : Int) then
 let t85 : Int := rd b83 a1;
 (if 0 <= p81.1 ∧ p81.1 < (b83.length : Int) then
 let t86 : Int := rd b83 p81.1;
 (if 0 <= p81.1 ∧ p81.1 < (b83.length : Int) then
 let w87 : List Int := b83.set p81.1.toNat t85;
 (if 0 <= a1 ∧ a1 < (w87.length : Int) then
 let w88 : List Int := w87.set a1.toNat t86;
 some (p81.1, false, w88, p81.2.2)
 else
 none)
 else
 none)
 else
 none)
 else
 none))
 else
 none)
 else
 none)
 else
 none)
 else
 none))))
 else
 none)
 else
 none)
 else
 none)
 else
 none)
theorem Z169_eq a1 b2 pivot3 b4 b5 : Z169 a1 b2 pivot3 b4 b5 = Z169_b @loop @Z169l3 @Z169l5 @Z169l1000013 a1 b2 pivot3 b4 b5 := (B0 ..).trans (by kernel_rfl)
end
end Go.Proofs.YtcphcfknnfibmaaGreat.P
