import Derived.Test.YtcphcfknnfibmaaGreatG
import Derived.Test.YtcphcfknnfibmaaGreatF5
namespace Go.Proofs.YtcphcfknnfibmaaGreat.P
open Go Go.IntKind Go.Proofs.YtcphcfknnfibmaaGreat.V
set_option linter.unusedVariables false
set_option linter.unusedSimpArgs false
set_option maxRecDepth 100000
noncomputable section
noncomputable def Z64l3_b (Z112 : type_of% @Z112) (Z111 : type_of% @Z111) (Z64 : type_of% @Z64) (depth1 : Int) (s12 : Int × (List Int) × Int × Int × Int × (List Outline)) : Option ((Int × (List Int) × Int × Int × Int × (List Outline)) ⊕ (((List Int) × Int × Int × Int × (List Outline)) ⊕ ((List Outline) × (List Int) × Int × Int × Int))) :=
 let b17 := s12.2.2.2.2.1;
 ((if (decide (s12.1 > 0)) = true then
 some (decide (b17 = 0))
 else
 some false) : Option (Bool)).bind (fun v19 =>
 (if v19 = true then
 let t20 := i64.wrap (s12.2.2.2.1 + 1);
 ((if (decide (t20 > 400)) = true then
 some true
 else
 some (decide (depth1 > 20))) : Option (Bool)).bind (fun v21 =>
 (if v21 = true then
 some (Sum.inr (Sum.inr ([], s12.2.1, s12.2.2.1, t20, 4)))
 else
 (Z112 s12.2.1 s12.2.2.1 t20 b17).bind fun q22 =>
 (Z111 1 1000 q22.2.1 q22.2.2.1 q22.2.2.2.1 q22.2.2.2.2).bind fun q28 =>
 let t34 := i64.wrap (depth1 + 1);
 (Z64 t34 q28.2.1 q28.2.2.1 q28.2.2.2.1 q28.2.2.2.2).bind fun q35 =>
 (if (s12.2.2.2.2.2.length + ([(Outline.mk q22.1 q28.1 q35.1)] : List Outline).length) * 48 <= 140737488355328 then
 let t41 : List Outline := s12.2.2.2.2.2 ++ [(Outline.mk q22.1 q28.1 q35.1)];
 let t42 := i64.wrap (s12.1 - 1);
 some (Sum.inl (t42, q35.2.1, q35.2.2.1, q35.2.2.2.1, q35.2.2.2.2, t41))
 else
 none)))
 else
 some (Sum.inr (Sum.inl (s12.2.1, s12.2.2.1, s12.2.2.2.1, b17, s12.2.2.2.2.2)))))
noncomputable def Z64l3 := Z64l3_b @Z112 @Z111 @Z64
noncomputable def Z64_b (Z111 : type_of% @Z111) (loop : type_of% @loop) (Z64l3 : type_of% @Z64l3) (depth1 : Int) (b2 : List Int) (b3 b4 b5 : Int) : Option ((List Outline) × (List Int) × Int × Int × Int) :=
 (Z111 0 2147483648 b2 b3 b4 b5).bind fun q6 =>
 (loop (Z64l3 depth1) (q6.1, q6.2.1, q6.2.2.1, q6.2.2.2.1, q6.2.2.2.2, [])).bind (fun o55 =>
 (Sum.elim (fun (p43 : (List Int) × Int × Int × Int × (List Outline)) =>
 some (p43.2.2.2.2, p43.1, p43.2.1, p43.2.2.1, p43.2.2.2.1))
 (fun (p49 : (List Outline) × (List Int) × Int × Int × Int) =>
 some (p49.1, p49.2.1, p49.2.2.1, p49.2.2.2.1, p49.2.2.2.2)) o55))
theorem Z64_eq depth1 b2 b3 b4 b5 : Z64 depth1 b2 b3 b4 b5 = Z64_b @Z111 @loop @Z64l3 depth1 b2 b3 b4 b5 := (B0 ..).trans (by kernel_rfl)
noncomputable def Z65l2_b (Z113 : type_of% @Z113) (s1 : List File) (s3 : Int × (List Int)) : Option ((Int × (List Int)) ⊕ (((List Int)) ⊕ (Int × (List Int)))) :=
 (if (decide (s3.1 < ((s1.length : Nat) : Int))) = true then
 (if 0 <= s3.1 then
 (s1[s3.1.toNat]?).bind fun e6 =>
 (Z113 e6.name e6.kind e6.data s3.2).bind fun q7 =>
 (if q7.1 = true then
 some (Sum.inr (Sum.inr (s3.1, q7.2)))
 else
 let t10 := i64.wrap (s3.1 + 1);
 some (Sum.inl (t10, q7.2)))
 else
 none)
 else
 some (Sum.inr (Sum.inl s3.2)))
noncomputable def Z65l2 := Z65l2_b @Z113
noncomputable def Z65_b (loop : type_of% @loop) (Z65l2 : type_of% @Z65l2) (s1 : List File) (b2 : List Int) : Option (Int × (List Int)) :=
 (loop (Z65l2 s1) (0, b2)).bind (fun o18 =>
 (Sum.elim (fun (b14 : (List Int)) =>
 some ((-1), b14))
 (fun (p15 : Int × (List Int)) =>
 some (p15.1, p15.2)) o18))
theorem Z65_eq s1 b2 : Z65 s1 b2 = Z65_b @loop @Z65l2 s1 b2 := (B0 ..).trans (by kernel_rfl)
noncomputable def Z66_b (Z14 : type_of% @Z14) (f1 : List Int) (f2 : Int) (f3 : List Int) : Option ((List Int) × (List Int) × (List Int) × (List Chunk)) :=
 (Z14 ((f1.length : Nat) : Int) f1).bind fun q4 =>
 (if (q4.length + f3.length) * 1 <= 140737488355328 then
 let t5 : List Int := q4 ++ f3;
 some ([70, 73, 76, 69], [], t5, [])
 else
 none)
theorem Z66_eq f1 f2 f3 : Z66 f1 f2 f3 = Z66_b @Z14 f1 f2 f3 := (B0 ..).trans (by kernel_rfl)
noncomputable def Z67l5_b (Z115 : type_of% @Z115) (l1 : List Chunk) (s3 : Int × Int) : Option ((Int × Int) ⊕ (Int)) :=
 (if (decide (s3.2 < ((l1.length : Nat) : Int))) = true then
 (if 0 <= s3.2 then
 (l1[s3.2.toNat]?).bind fun e6 =>
 (Z115 e6.id e6.kind e6.data e6.kids).bind fun q7 =>
 let t8 := i64.wrap (s3.1 + q7);
 let t9 := i64.wrap (s3.2 + 1);
 some (Sum.inl (t8, t9))
 else
 none)
 else
 some (Sum.inr s3.1))
noncomputable def Z67l5 := Z67l5_b @Z115
noncomputable def Z67l5_step (i10 : Nat) (x11 : Chunk) (s12 : Int) : Option ((Int) ⊕ (Int)) :=
 (Z115 x11.id x11.kind x11.data x11.kids).bind fun q7 =>
 let t8 := i64.wrap (s12 + q7);
 some (Sum.inl (t8))
theorem Z67l5_over (l1 : List Chunk) (hl : l1.length <= 9223372036854775807) (s12 : Int) : loop (Z67l5 l1) ((s12, 0) : Int × Int) =
    overL (Z67l5_step) (fun (s12 : Int) => some s12) 0 l1 s12 := by
  refine B49 l1 (fun n (s : Int) => ((s, ((n : Nat) : Int)) : Int × Int)) _ _ (fun s => ?_) (fun i x s h => ?_) 0 s12 (A33 _)
  . unfold Z67l5 Z67l5_b; simp
  . have hlt := B7 h
    have h1 : ((i : Nat) : Int) < ((l1.length : Nat) : Int) := by omega
    have h0 : (0 : Int) <= ((i : Nat) : Int) := by omega
    have hw : i64.wrap (((i : Nat) : Int) + 1) = (((i + 1 : Nat) : Nat) : Int) := w64 (by omega)
    unfold Z67l5 Z67l5_b Z67l5_step
    simp only [h1, h0, hw, h, A7, A6, A32, A14, A12, A3, A66, Function.comp_def, B80, B66, A40, A65]
noncomputable def Z67l13_b (Z116 : type_of% @Z116) (l1 : List Chunk) (s14 : Int × (List Int)) : Option ((Int × (List Int)) ⊕ ((List Int))) :=
 (if (decide (s14.1 < ((l1.length : Nat) : Int))) = true then
 (if 0 <= s14.1 then
 (l1[s14.1.toNat]?).bind fun e17 =>
 (Z116 e17.id e17.kind e17.data e17.kids s14.2).bind fun q18 =>
 let t19 := i64.wrap (s14.1 + 1);
 some (Sum.inl (t19, q18))
 else
 none)
 else
 some (Sum.inr s14.2))
noncomputable def Z67l13 := Z67l13_b @Z116
noncomputable def Z67l13_step (i20 : Nat) (x21 : Chunk) (s22 : (List Int)) : Option (((List Int)) ⊕ ((List Int))) :=
 (Z116 x21.id x21.kind x21.data x21.kids s22).bind fun q18 =>
 some (Sum.inl (q18))
theorem Z67l13_over (l1 : List Chunk) (hl : l1.length <= 9223372036854775807) (s22 : (List Int)) : loop (Z67l13 l1) ((0, s22) : Int × (List Int)) =
    overL (Z67l13_step) (fun (s22 : (List Int)) => some s22) 0 l1 s22 := by
  refine B49 l1 (fun n (s : (List Int)) => ((((n : Nat) : Int), s) : Int × (List Int))) _ _ (fun s => ?_) (fun i x s h => ?_) 0 s22 (A33 _)
  . unfold Z67l13 Z67l13_b; simp
  . have hlt := B7 h
    have h1 : ((i : Nat) : Int) < ((l1.length : Nat) : Int) := by omega
    have h0 : (0 : Int) <= ((i : Nat) : Int) := by omega
    have hw : i64.wrap (((i : Nat) : Int) + 1) = (((i + 1 : Nat) : Nat) : Int) := w64 (by omega)
    unfold Z67l13 Z67l13_b Z67l13_step
    simp only [h1, h0, hw, h, A7, A6, A32, A14, A12, A3, A66, Function.comp_def, B80, B66, A40, A65]
noncomputable def Z67_b (Z114 : type_of% @Z114) (loop : type_of% @loop) (Z67l5 : type_of% @Z67l5) (Z67l13 : type_of% @Z67l13) (l1 : List Chunk) : Option ((List Int) × Int) :=
 (Z114 l1).bind fun q2 =>
 (if (!q2) = true then
 some ([], 100)
 else
 (loop (Z67l5 l1) (0, 0)).bind (fun n13 =>
 (if (decide (n13 > 60000)) = true then
 some ([], 4)
 else
 (loop (Z67l13 l1) (0, [])).bind (fun out23 =>
 some (out23, 0)))))
theorem Z67_eq l1 : Z67 l1 = Z67_b @Z114 @loop @Z67l5 @Z67l13 l1 := (B0 ..).trans (by kernel_rfl)
noncomputable def Z68l2_b (Z117 : type_of% @Z117) (end2 depth3 : Int) (s8 : Int × (List Int) × Int × Int × Int × (List Chunk)) : Option ((Int × (List Int) × Int × Int × Int × (List Chunk)) ⊕ ((List Int) × Int × Int × Int × (List Chunk))) :=
 ((if (decide (s8.1 < end2)) = true then
 some (decide (s8.2.2.2.1 = 0))
 else
 some false) : Option (Bool)).bind (fun v15 =>
 (if v15 = true then
 (Z117 s8.1 end2 depth3 s8.2.1 s8.2.2.1 s8.2.2.2.1 s8.2.2.2.2.1).bind fun q16 =>
 (if (s8.2.2.2.2.2.length + ([(Chunk.mk q16.1 q16.2.1 q16.2.2.1 q16.2.2.2.1)] : List Chunk).length) * 80 <= 140737488355328 then
 let t26 : List Chunk := s8.2.2.2.2.2 ++ [(Chunk.mk q16.1 q16.2.1 q16.2.2.1 q16.2.2.2.1)];
 some (Sum.inl (q16.2.2.2.2.1, q16.2.2.2.2.2.1, q16.2.2.2.2.2.2.1, q16.2.2.2.2.2.2.2.1, q16.2.2.2.2.2.2.2.2, t26))
 else
 none)
 else
 some (Sum.inr (s8.2.1, s8.2.2.1, s8.2.2.2.1, s8.2.2.2.2.1, s8.2.2.2.2.2))))
noncomputable def Z68l2 := Z68l2_b @Z117
noncomputable def Z68_b (loop : type_of% @loop) (Z68l2 : type_of% @Z68l2) (at1 end2 depth3 : Int) (b4 : List Int) (b5 b6 b7 : Int) : Option ((List Chunk) × (List Int) × Int × Int × Int) :=
 (loop (Z68l2 end2 depth3) (at1, b4, b5, b6, b7, [])).bind (fun p27 =>
 some (p27.2.2.2.2, p27.1, p27.2.1, p27.2.2.1, p27.2.2.2.1))
theorem Z68_eq at1 end2 depth3 b4 b5 b6 b7 : Z68 at1 end2 depth3 b4 b5 b6 b7 = Z68_b @loop @Z68l2 at1 end2 depth3 b4 b5 b6 b7 := (B0 ..).trans (by kernel_rfl)
noncomputable def Z69_b (Z118 : type_of% @Z118) (s1 : List Chunk) : Option Bool :=
 (Z118 s1).bind fun q2 =>
 some (decide (q2 ≥ 0))
theorem Z69_eq s1 : Z69 s1 = Z69_b @Z118 s1 := (B0 ..).trans (by kernel_rfl)
noncomputable def Z70l2 (s1 : List Int) (v2 : Int) : Option ((Int) ⊕ ((Unit) ⊕ (Bool))) :=
 (if (decide (v2 < ((s1.length : Nat) : Int))) = true then
 (if 0 <= v2 ∧ v2 < ((s1).length : Int) then
 let t3 : Int := rd s1 v2;
 (if (decide (t3 < 97)) = true then
 (if (decide (t3 < 48)) = true then
 (if (!decide (t3 = 46)) = true then
 (if (!decide (t3 = 45)) = true then
 some (Sum.inr (Sum.inr false))
 else
 let t4 := i64.wrap (v2 + 1);
 some (Sum.inl t4))
 else
 let t5 := i64.wrap (v2 + 1);
 some (Sum.inl t5))
 else
 (if (decide (t3 > 57)) = true then
 (if (!decide (t3 = 46)) = true then
 (if (!decide (t3 = 45)) = true then
 some (Sum.inr (Sum.inr false))
 else
 let t6 := i64.wrap (v2 + 1);
 some (Sum.inl t6))
 else
 let t7 := i64.wrap (v2 + 1);
 some (Sum.inl t7))
 else
 let t8 := i64.wrap (v2 + 1);
 some (Sum.inl t8)))
 else
 (if (decide (t3 > 122)) = true then
 (if (decide (t3 < 48)) = true then
 (if (!decide (t3 = 46)) = true then
 (if (!decide (t3 = 45)) = true then
 some (Sum.inr (Sum.inr false))
 else
 let t9 := i64.wrap (v2 + 1);
 some (Sum.inl t9))
 else
 let t10 := i64.wrap (v2 + 1);
 some (Sum.inl t10))
 else
 (if (decide (t3 > 57)) = true then
 (if (!decide (t3 = 46)) = true then
 (if (!decide (t3 = 45)) = true then
 some (Sum.inr (Sum.inr false))
 else
 let t11 := i64.wrap (v2 + 1);
 some (Sum.inl t11))
 else
 let t12 := i64.wrap (v2 + 1);
 some (Sum.inl t12))
 else
 let t13 := i64.wrap (v2 + 1);
 some (Sum.inl t13)))
 else
 let t14 := i64.wrap (v2 + 1);
 some (Sum.inl t14)))
 else
 none)
 else
 some (Sum.inr (Sum.inl ())))
noncomputable def Z70_b (loop : type_of% @loop) (Z70l2 : type_of% @Z70l2) (s1 : List Int) : Option Bool :=
 (loop (Z70l2 s1) 0).bind (fun o20 =>
 (Sum.elim (fun (p18 : Unit) =>
 (if (decide (((s1.length : Nat) : Int) ≥ 1)) = true then
 some (decide (((s1.length : Nat) : Int) <= 20))
 else
 some false))
 (fun (v19 : Bool) =>
 some v19) o20))
theorem Z70_eq s1 : Z70 s1 = Z70_b @loop @Z70l2 s1 := (B0 ..).trans (by kernel_rfl)
noncomputable def Z71_b (Z15 : type_of% @Z15) (Z25 : type_of% @Z25) (l1 : List Outline) : Option (List Outline) :=
 (Z15 l1).bind fun q2 =>
 (Z25 q2.1).bind fun q5 =>
 some q5.1
theorem Z71_eq l1 : Z71 l1 = Z71_b @Z15 @Z25 l1 := (B0 ..).trans (by kernel_rfl)
noncomputable def Z72l2_b (Z72 : type_of% @Z72) (l1 : List Outline) (depth2 : Int) (s4 : Int × Int) : Option ((Int × Int) ⊕ ((Int) ⊕ (Bool × Int))) :=
 (if (decide (s4.1 < ((l1.length : Nat) : Int))) = true then
 (if 0 <= s4.1 then
 (l1[s4.1.toNat]?).bind fun e7 =>
 let t8 := i64.wrap (s4.2 + 1);
 (if (decide (t8 > 400)) = true then
 some (Sum.inr (Sum.inr (false, t8)))
 else
 (if (decide (depth2 > 20)) = true then
 some (Sum.inr (Sum.inr (false, t8)))
 else
 (if (decide (((e7.title.length : Nat) : Int) > 200)) = true then
 some (Sum.inr (Sum.inr (false, t8)))
 else
 (if (decide (e7.page < 1)) = true then
 some (Sum.inr (Sum.inr (false, t8)))
 else
 (if (decide (e7.page > 1000)) = true then
 some (Sum.inr (Sum.inr (false, t8)))
 else
 let t9 := i64.wrap (depth2 + 1);
 (Z72 e7.kids t9 t8).bind fun q10 =>
 (if (!q10.1) = true then
 some (Sum.inr (Sum.inr (false, q10.2)))
 else
 let t13 := i64.wrap (s4.1 + 1);
 some (Sum.inl (t13, q10.2))))))))
 else
 none)
 else
 some (Sum.inr (Sum.inl s4.2)))
noncomputable def Z72l2 := Z72l2_b @Z72
noncomputable def Z72_b (loop : type_of% @loop) (Z72l2 : type_of% @Z72l2) (l1 : List Outline) (depth2 b3 : Int) : Option (Bool × Int) :=
 (loop (Z72l2 l1 depth2) (0, b3)).bind (fun o21 =>
 (Sum.elim (fun (b17 : Int) =>
 some (true, b17))
 (fun (p18 : Bool × Int) =>
 some (p18.1, p18.2)) o21))
theorem Z72_eq l1 depth2 b3 : Z72 l1 depth2 b3 = Z72_b @loop @Z72l2 l1 depth2 b3 := (B0 ..).trans (by kernel_rfl)
noncomputable def Z73_b (Z36 : type_of% @Z36) (n1 : Int) : Option (List Int) :=
 (Z36 n1).bind fun q2 =>
 some q2.2
theorem Z73_eq n1 : Z73 n1 = Z73_b @Z36 n1 := (B0 ..).trans (by kernel_rfl)
noncomputable def slices_Concat_byte_byte_loop3 (slices1 : List (List Int)) (s2 : Int × Int) : Option ((Int × Int) ⊕ (Int)) :=
 (if (decide (s2.2 < ((slices1.length : Nat) : Int))) = true then
 (if 0 <= s2.2 then
 (slices1[s2.2.toNat]?).bind fun e5 =>
 let t6 := i64.wrap (s2.1 + ((e5.length : Nat) : Int));
 (if (decide (t6 < 0)) = true then
 none
 else
 let t7 := i64.wrap (s2.2 + 1);
 some (Sum.inl (t6, t7)))
 else
 none)
 else
 some (Sum.inr s2.1))
noncomputable def slices_Concat_byte_byte_loop11 (slices1 : List (List Int)) (s13 : Int × (List Int)) : Option ((Int × (List Int)) ⊕ ((List Int))) :=
 (if (decide (s13.1 < ((slices1.length : Nat) : Int))) = true then
 (if 0 <= s13.1 then
 (slices1[s13.1.toNat]?).bind fun e16 =>
 (if (s13.2.length + e16.length) * 1 <= 140737488355328 then
 let t17 : List Int := s13.2 ++ e16;
 let t18 := i64.wrap (s13.1 + 1);
 some (Sum.inl (t18, t17))
 else
 none)
 else
 none)
 else
 some (Sum.inr s13.2))
noncomputable def B68 (loop : type_of% @loop) (slices_Concat_byte_byte_loop3 : type_of% @slices_Concat_byte_byte_loop3) (Z119 : type_of% @Z119) (slices_Concat_byte_byte_loop11 : type_of% @slices_Concat_byte_byte_loop11) (slices1 : List (List Int)) : Option (List Int) :=
 (loop (slices_Concat_byte_byte_loop3 slices1) (0, 0)).bind (fun size11 =>
 (Z119 size11).bind fun q12 =>
 (loop (slices_Concat_byte_byte_loop11 slices1) (0, q12)).bind (fun newslice22 =>
 some newslice22))
theorem B129 slices1 : slices_Concat_byte_byte slices1 = B68 @loop @slices_Concat_byte_byte_loop3 @Z119 @slices_Concat_byte_byte_loop11 slices1 := (B0 ..).trans (by kernel_rfl)
noncomputable def Z75l3 (text1 : List Int) (q2 : (List Int)) (s3 : Int × (List Int)) : Option ((Int × (List Int)) ⊕ ((List Int))) :=
 let v4 := s3.1;
 (if (decide (v4 < ((q2.length : Nat) : Int))) = true then
 (if 0 <= v4 ∧ v4 < (s3.2.length : Int) then
 let t6 : Int := rd s3.2 v4;
 (if (decide (t6 = 0)) = true then
 (if 0 <= v4 ∧ v4 < (s3.2.length : Int) then
 let w7 : List Int := s3.2.set v4.toNat 0;
 let t8 := i64.wrap (v4 + 1);
 some (Sum.inl (t8, w7))
 else
 none)
 else
 let t9 := i64.wrap (t6 - 1);
 (if 0 <= t9 ∧ t9 < (text1.length : Int) then
 let t10 := i64.wrap (rd text1 t9);
 let t11 := i64.wrap (t10 + 1);
 (if 0 <= v4 ∧ v4 < (s3.2.length : Int) then
 let w12 : List Int := s3.2.set v4.toNat t11;
 let t13 := i64.wrap (v4 + 1);
 some (Sum.inl (t13, w12))
 else
 none)
 else
 none))
 else
 none)
 else
 some (Sum.inr s3.2))
noncomputable def Z75_b (Z120 : type_of% @Z120) (loop : type_of% @loop) (Z75l3 : type_of% @Z75l3) (text1 : List Int) : Option (List Int) :=
 (Z120 text1).bind fun q2 =>
 (loop (Z75l3 text1 q2) (0, q2)).bind (fun b14 =>
 some b14)
theorem Z75_eq text1 : Z75 text1 = Z75_b @Z120 @loop @Z75l3 text1 := (B0 ..).trans (by kernel_rfl)
noncomputable def Z76l7 (m2 : List Int) (end4 v5 : Int) : Option ((Int) ⊕ ((Unit) ⊕ (Bool))) :=
 (if (decide (v5 < ((m2.length : Nat) : Int))) = true then
 (if 0 <= v5 ∧ v5 < (m2.length : Int) then
 (if (decide (rd m2 v5 < 0)) = true then
 some (Sum.inr (Sum.inr false))
 else
 (if (decide (rd m2 v5 ≥ end4)) = true then
 some (Sum.inr (Sum.inr false))
 else
 let t6 := i64.wrap (v5 + 1);
 some (Sum.inl t6)))
 else
 none)
 else
 some (Sum.inr (Sum.inl ())))
noncomputable def Z76l7_step (end4 : Int) (i7 : Nat) (x8 : Int) (s9 : Unit) : Option ((Unit) ⊕ ((Unit) ⊕ (Bool))) :=
 (if (decide (x8 < 0)) = true then
 some (Sum.inr (Sum.inr false))
 else
 (if (decide (x8 ≥ end4)) = true then
 some (Sum.inr (Sum.inr false))
 else
 some (Sum.inl (()))))
theorem Z76l7_over (m2 : List Int) (end4 : Int) (hl : m2.length <= 9223372036854775807) (s9 : Unit) : loop (Z76l7 m2 end4) (0 : Int) =
    overL (Z76l7_step end4) (fun (s9 : Unit) => some (Sum.inl ())) 0 m2 s9 := by
  refine B49 m2 (fun n (s : Unit) => (((n : Nat) : Int) : Int)) _ _ (fun s => ?_) (fun i x s h => ?_) 0 s9 (A33 _)
  . unfold Z76l7; simp
  . have hlt := B7 h
    have h1 : ((i : Nat) : Int) < ((m2.length : Nat) : Int) := by omega
    have h0 : (0 : Int) <= ((i : Nat) : Int) := by omega
    have hw : i64.wrap (((i : Nat) : Int) + 1) = (((i + 1 : Nat) : Nat) : Int) := w64 (by omega)
    have hr : rd m2 ((i : Nat) : Int) = x := B21 h
    unfold Z76l7 Z76l7_step
    simp only [h1, h0, hw, h, hr, A7, A6, A32, A14, A12, A3, A66, Function.comp_def, B80, B66, A40, A65]
noncomputable def Z76_b (loop : type_of% @loop) (Z76l7 : type_of% @Z76l7) (m1 : Int) (m2 : List Int) : Option Bool :=
 ((if (!decide (m1 = 0)) = true then
 (if (!decide (m1 = 1)) = true then
 some true
 else
 some (decide (((m2.length : Nat) : Int) > 8192)))
 else
 some (decide (((m2.length : Nat) : Int) > 8192))) : Option (Bool)).bind (fun v3 =>
 (if v3 = true then
 some false
 else
 ((if (decide (m1 = 1)) = true then
 some 65536
 else
 some 64) : Option (Int)).bind (fun end4 =>
 (loop (Z76l7 m2 end4) 0).bind (fun o12 =>
 (Sum.elim (fun (p10 : Unit) =>
 some true)
 (fun (v11 : Bool) =>
 some v11) o12)))))
theorem Z76_eq m1 m2 : Z76 m1 m2 = Z76_b @loop @Z76l7 m1 m2 := (B0 ..).trans (by kernel_rfl)
noncomputable def Z77_b (Z121 : type_of% @Z121) (Z122 : type_of% @Z122) (m1 : Int) (m2 : List Int) : Option (Int × Int × Int × (List Int)) :=
 (Z121 m1 m2).bind fun q3 =>
 (Z122).bind fun q6 =>
 some (q3.1, 0, 4294967295, q3.2)
theorem Z77_eq m1 m2 : Z77 m1 m2 = Z77_b @Z121 @Z122 m1 m2 := (B0 ..).trans (by kernel_rfl)
noncomputable def Z78_b (Z123 : type_of% @Z123) (l1 : List Int) : Option Int :=
 (if (decide (((l1.length : Nat) : Int) > 4001)) = true then
 some 4
 else
 (Z123 l1).bind fun q2 =>
 (if q2 = true then
 some 2
 else
 some 0))
theorem Z78_eq l1 : Z78 l1 = Z78_b @Z123 l1 := (B0 ..).trans (by kernel_rfl)
noncomputable def Z79l3 (t1 : List Int) (s2 : Int × (List Int)) : Option ((Int × (List Int)) ⊕ ((List Int))) :=
 (if (decide (s2.1 < ((t1.length : Nat) : Int))) = true then
 (if 0 <= s2.1 ∧ s2.1 < (s2.2.length : Int) then
 let w5 : List Int := s2.2.set s2.1.toNat s2.1;
 let t6 := i64.wrap (s2.1 + 1);
 some (Sum.inl (t6, w5))
 else
 none)
 else
 some (Sum.inr s2.2))
noncomputable def Z79_b (loop : type_of% @loop) (Z79l3 : type_of% @Z79l3) : Option (List Int) :=
 (if 0 <= (257 : Int) ∧ (257 : Int) <= (257 : Int) ∧ ((8 : Nat) : Int) * (257 : Int) <= 281474976710656 then
 let t1 : List Int := List.replicate (257 : Int).toNat 0;
 (loop (Z79l3 t1) (0, t1)).bind (fun b10 =>
 some b10)
 else
 none)
theorem Z79_eq : Z79 = Z79_b @loop @Z79l3 := (B0 ..).trans (by kernel_rfl)
noncomputable def Z80l2 (s1 : List Int) (v2 v3 : Int) : Option ((Int) ⊕ ((Unit) ⊕ (Int))) :=
 (if (decide (v3 < ((s1.length : Nat) : Int))) = true then
 (if 0 <= v3 ∧ v3 < (s1.length : Int) then
 (if (decide (v2 = rd s1 v3)) = true then
 some (Sum.inr (Sum.inr v3))
 else
 let t4 := i64.wrap (v3 + 1);
 some (Sum.inl t4))
 else
 none)
 else
 some (Sum.inr (Sum.inl ())))
noncomputable def Z80l2_step (v2 : Int) (i5 : Nat) (x6 : Int) (s7 : Unit) : Option ((Unit) ⊕ ((Unit) ⊕ (Int))) :=
 (if (decide (v2 = x6)) = true then
 some (Sum.inr (Sum.inr ((i5 : Nat) : Int)))
 else
 some (Sum.inl (())))
theorem Z80l2_over (s1 : List Int) (v2 : Int) (hl : s1.length <= 9223372036854775807) (s7 : Unit) : loop (Z80l2 s1 v2) (0 : Int) =
    overL (Z80l2_step v2) (fun (s7 : Unit) => some (Sum.inl ())) 0 s1 s7 := by
  refine B49 s1 (fun n (s : Unit) => (((n : Nat) : Int) : Int)) _ _ (fun s => ?_) (fun i x s h => ?_) 0 s7 (A33 _)
  . unfold Z80l2; simp
  . have hlt := B7 h
    have h1 : ((i : Nat) : Int) < ((s1.length : Nat) : Int) := by omega
    have h0 : (0 : Int) <= ((i : Nat) : Int) := by omega
    have hw : i64.wrap (((i : Nat) : Int) + 1) = (((i + 1 : Nat) : Nat) : Int) := w64 (by omega)
    have hr : rd s1 ((i : Nat) : Int) = x := B21 h
    unfold Z80l2 Z80l2_step
    simp only [h1, h0, hw, h, hr, A7, A6, A32, A14, A12, A3, A66, Function.comp_def, B80, B66, A40, A65]
noncomputable def Z80_b (loop : type_of% @loop) (Z80l2 : type_of% @Z80l2) (s1 : List Int) (v2 : Int) : Option Int :=
 (loop (Z80l2 s1 v2) 0).bind (fun o10 =>
 (Sum.elim (fun (p8 : Unit) =>
 some (-1))
 (fun (v9 : Int) =>
 some v9) o10))
theorem Z80_eq s1 v2 : Z80 s1 v2 = Z80_b @loop @Z80l2 s1 v2 := (B0 ..).trans (by kernel_rfl)
noncomputable def Z81_b (place1 : Int) (b2 : List Int) : Option (Int × (List Int)) :=
 (if 0 <= place1 ∧ place1 < (b2.length : Int) then
 let t3 : Int := rd b2 place1;
 let t4 := i64.wrap (place1 + 1);
 (if 0 <= t4 ∧ t4 <= ((b2.length : Nat) : Int) then
 (if 0 <= (1 : Int) ∧ (1 : Int) <= t4 then
 (if 0 <= place1 ∧ place1 <= ((b2.length : Nat) : Int) then
 let w5 : List Int := b2.take ((1 : Int).toNat) ++ ((b2.drop 0).take (place1.toNat - 0)).take (min ((b2.drop 0).take (place1.toNat - 0)).length (t4.toNat - (1 : Int).toNat)) ++ b2.drop (((1 : Int).toNat) + min ((b2.drop 0).take (place1.toNat - 0)).length (t4.toNat - (1 : Int).toNat));
 (if 0 <= (0 : Int) ∧ (0 : Int) < (w5.length : Int) then
 let w6 : List Int := w5.set (0 : Int).toNat t3;
 some (t3, w6)
 else
 none)
 else
 none)
 else
 none)
 else
 none)
 else
 none)
theorem Z81_eq place1 b2 : Z81 place1 b2 = Z81_b place1 b2 := (B0 ..).trans (by kernel_rfl)
noncomputable def Z82l6_D (s32 : Int × Int × Int × (List Int) × (List Int)) : Option ((Int × Int × Int × (List Int) × (List Int)) ⊕ (Int × Int × Int × (List Int) × (List Int))) :=
 (Z126 s32.1 s32.2.1 s32.2.2.1 s32.2.2.2.1 s32.2.2.2.2).bind fun q38 =>
 (if q38.1 = true then
 (demon
 ((Z127 q38.2.1 q38.2.2.1 q38.2.2.2.1 q38.2.2.2.2.1 q38.2.2.2.2.2).bind fun q45 =>
 (if (q45.2.2.2.2.2.length + ([q45.1] : List Int).length) * 1 <= 140737488355328 then
 let t52 : List Int := q45.2.2.2.2.2 ++ [q45.1];
 some (Sum.inl (q45.2.1, q45.2.2.1, q45.2.2.2.1, q45.2.2.2.2.1, t52))
 else
 none))
 ((Z127 q38.2.1 q38.2.2.1 q38.2.2.2.1 q38.2.2.2.2.1 q38.2.2.2.2.2).bind fun q53 =>
 (if (q53.2.2.2.2.2.length + ([q53.1] : List Int).length) * 1 <= 140737488355328 then
 let t60 : List Int := q53.2.2.2.2.2 ++ [q53.1];
 some (Sum.inl (q53.2.1, q53.2.2.1, q53.2.2.2.1, q53.2.2.2.2.1, t60))
 else
 none)))
 else
 some (Sum.inr (q38.2.1, q38.2.2.1, q38.2.2.2.1, q38.2.2.2.2.1, q38.2.2.2.2.2)))
noncomputable def Z82l6 (s32 : Int × Int × Int × (List Int) × (List Int)) : Option ((Int × Int × Int × (List Int) × (List Int)) ⊕ (Int × Int × Int × (List Int) × (List Int))) :=
 (Z126 s32.1 s32.2.1 s32.2.2.1 s32.2.2.2.1 s32.2.2.2.2).bind fun q38 =>
 (if q38.1 = true then
 ((Z127 q38.2.1 q38.2.2.1 q38.2.2.2.1 q38.2.2.2.2.1 q38.2.2.2.2.2).bind fun q45 =>
 (if (q45.2.2.2.2.2.length + ([q45.1] : List Int).length) * 1 <= 140737488355328 then
 let t52 : List Int := q45.2.2.2.2.2 ++ [q45.1];
 some (Sum.inl (q45.2.1, q45.2.2.1, q45.2.2.2.1, q45.2.2.2.2.1, t52))
 else
 none))
 else
 some (Sum.inr (q38.2.1, q38.2.2.1, q38.2.2.2.1, q38.2.2.2.2.1, q38.2.2.2.2.2)))
theorem Z82l6_D_eq : Z82l6_D = Z82l6 := by
  funext s32; unfold Z82l6_D Z82l6; simp only [B185]
theorem Z82_eqD (ctx1 bit2 b3 b4 b5 : Int) (b6 b7 : List Int) : Z82 ctx1 bit2 b3 b4 b5 b6 b7 =
 (Z88 b3 b4 b5 b6 b7).bind fun q8 =>
 ((if q8.1 = true then
 some (Sum.inr 7)
 else
 ((if (decide (ctx1 < 0)) = true then
 some true
 else
 (if (decide (ctx1 ≥ ((q8.2.2.2.2.1.length : Nat) : Int))) = true then
 some true
 else
 (if (!decide (bit2 = 0)) = true then
 some (!decide (bit2 = 1))
 else
 some false))) : Option (Bool)).bind (fun v15 =>
 (if v15 = true then
 some (Sum.inr 2)
 else
 some (Sum.inl ())))) : Option ((Unit) ⊕ (Int))).bind (fun o18 =>
 (Sum.elim (fun (p16 : Unit) =>
 (Z124 ctx1 q8.2.1 q8.2.2.1 q8.2.2.2.1 q8.2.2.2.2.1 q8.2.2.2.2.2).bind fun q19 =>
 (Z125 ctx1 bit2 q19.1 q19.2.1 q19.2.2.1 q19.2.2.2.1 q19.2.2.2.2.1 q19.2.2.2.2.2).bind fun q26 =>
 (loop (Z82l6_D) (q26.1, q26.2.1, q26.2.2.1, q26.2.2.2.1, q26.2.2.2.2)).bind (fun p61 =>
 some (0, p61.1, p61.2.1, p61.2.2.1, p61.2.2.2.1, p61.2.2.2.2)))
 (fun (v17 : Int) =>
 some (v17, q8.2.1, q8.2.2.1, q8.2.2.2.1, q8.2.2.2.2.1, q8.2.2.2.2.2)) o18)) := (B0 ..).trans (by kernel_rfl)
theorem Z82_eq (ctx1 bit2 b3 b4 b5 : Int) (b6 b7 : List Int) : Z82 ctx1 bit2 b3 b4 b5 b6 b7 =
 (Z88 b3 b4 b5 b6 b7).bind fun q8 =>
 ((if q8.1 = true then
 some (Sum.inr 7)
 else
 ((if (decide (ctx1 < 0)) = true then
 some true
 else
 (if (decide (ctx1 ≥ ((q8.2.2.2.2.1.length : Nat) : Int))) = true then
 some true
 else
 (if (!decide (bit2 = 0)) = true then
 some (!decide (bit2 = 1))
 else
 some false))) : Option (Bool)).bind (fun v15 =>
 (if v15 = true then
 some (Sum.inr 2)
 else
 some (Sum.inl ())))) : Option ((Unit) ⊕ (Int))).bind (fun o18 =>
 (Sum.elim (fun (p16 : Unit) =>
 (Z124 ctx1 q8.2.1 q8.2.2.1 q8.2.2.2.1 q8.2.2.2.2.1 q8.2.2.2.2.2).bind fun q19 =>
 (Z125 ctx1 bit2 q19.1 q19.2.1 q19.2.2.1 q19.2.2.2.1 q19.2.2.2.2.1 q19.2.2.2.2.2).bind fun q26 =>
 (loop (Z82l6) (q26.1, q26.2.1, q26.2.2.1, q26.2.2.2.1, q26.2.2.2.2)).bind (fun p61 =>
 some (0, p61.1, p61.2.1, p61.2.2.1, p61.2.2.2.1, p61.2.2.2.2)))
 (fun (v17 : Int) =>
 some (v17, q8.2.1, q8.2.2.1, q8.2.2.2.1, q8.2.2.2.2.1, q8.2.2.2.2.2)) o18)) := by rw [Z82_eqD]; simp only [B185, Z82l6_D_eq]
noncomputable def Z83_b (n1 : Bool) (n2 : Int) : Option Bool :=
 (if n1 = true then
 some (decide (n2 = 0))
 else
 (if (decide (n2 ≥ (-1048576))) = true then
 some (decide (n2 <= 1048576))
 else
 some false))
theorem Z83_eq n1 n2 : Z83 n1 n2 = Z83_b n1 n2 := (B0 ..).trans (by kernel_rfl)
noncomputable def Z84_b (Z88 : type_of% @Z88) (Z121 : type_of% @Z121) (b1 b2 b3 : Int) (b4 b5 : List Int) : Option (Int × (List Int) × Int × Int × Int × (List Int) × (List Int)) :=
 (Z88 b1 b2 b3 b4 b5).bind fun q6 =>
 (if q6.1 = true then
 some (0, [], q6.2.1, q6.2.2.1, q6.2.2.2.1, q6.2.2.2.2.1, q6.2.2.2.2.2)
 else
 (Z121 q6.2.1 q6.2.2.2.2.1).bind fun q13 =>
 some (q13.1, q13.2, q6.2.1, q6.2.2.1, q6.2.2.2.1, q6.2.2.2.2.1, q6.2.2.2.2.2))
theorem Z84_eq b1 b2 b3 b4 b5 : Z84 b1 b2 b3 b4 b5 = Z84_b @Z88 @Z121 b1 b2 b3 b4 b5 := (B0 ..).trans (by kernel_rfl)
noncomputable def Z85_b (m1 : Int) (m2 : List Int) (base3 n4 : Int) : Option Int :=
 (if (decide (base3 < 0)) = true then
 some 2
 else
 let t5 := i64.wrap (((m2.length : Nat) : Int) - n4);
 (if (decide (base3 > t5)) = true then
 some 2
 else
 some 0))
theorem Z85_eq m1 m2 base3 n4 : Z85 m1 m2 base3 n4 = Z85_b m1 m2 base3 n4 := (B0 ..).trans (by kernel_rfl)
noncomputable def Z86l7 (base1 t9 : Int) (s10 : Int × (List Event)) : Option ((Int × (List Event)) ⊕ ((List Event))) :=
 (if (decide (s10.1 < t9)) = true then
 let t13 := i64.wrap (base1 + 1);
 let t14 := i64.wrap (t13 + s10.1);
 (if (s10.2.length + ([(Event.mk t14 1)] : List Event).length) * 16 <= 140737488355328 then
 let t15 : List Event := s10.2 ++ [(Event.mk t14 1)];
 let t16 := i64.wrap (s10.1 + 1);
 some (Sum.inl (t16, t15))
 else
 none)
 else
 some (Sum.inr s10.2))
noncomputable def Z86l7_step (base1 : Int) (i17 x18 : Nat) (s19 : (List Event)) : Option (((List Event)) ⊕ ((List Event))) :=
 let t13 := i64.wrap (base1 + 1);
 let t14 := i64.wrap (t13 + ((i17 : Nat) : Int));
 (if (s19.length + ([(Event.mk t14 1)] : List Event).length) * 16 <= 140737488355328 then
 let t15 : List Event := s19 ++ [(Event.mk t14 1)];
 some (Sum.inl (t15))
 else
 none)
theorem Z86l7_over (base1 t9 : Int) (hl : (List.range (t9).toNat).length <= 9223372036854775807) (s19 : (List Event)) : loop (Z86l7 base1 t9) ((0, s19) : Int × (List Event)) =
    overL (Z86l7_step base1) (fun (s19 : (List Event)) => some s19) 0 (List.range (t9).toNat) s19 := by
  refine B49 (List.range (t9).toNat) (fun n (s : (List Event)) => ((((n : Nat) : Int), s) : Int × (List Event))) _ _ (fun s => ?_) (fun i x s h => ?_) 0 s19 (A33 _)
  . have h1 : ¬ (((List.range (t9).toNat).length : Nat) : Int) < t9 := by simp only [A47]; omega
    unfold Z86l7; simp only [h1, A9, A4, A1, A40]
  . have hlt := B7 h
    rw [A47] at hlt hl
    rw [A80 hlt] at h
    cases h
    have h1 : ((i : Nat) : Int) < t9 := by omega
    have h0 : (0 : Int) <= ((i : Nat) : Int) := by omega
    have hw : i64.wrap (((i : Nat) : Int) + 1) = (((i + 1 : Nat) : Nat) : Int) := w64 (by omega)
    unfold Z86l7 Z86l7_step
    simp only [h1, h0, hw, A7, A6, A32, A14, A12, A3, A66, Function.comp_def, B80, B66, A40, A65]
noncomputable def Z86l15_b (Z129 : type_of% @Z129) (base1 t6 t9 : Int) (s26 : Int × (List Event) × Int) : Option ((Int × (List Event) × Int) ⊕ ((List Event) × Int)) :=
 (if (decide (s26.1 ≥ 0)) = true then
 let t30 := i64.wrap (23 + t9);
 let t31 := i64.wrap (t9 - 1);
 ((if (decide (s26.1 < t31)) = true then
 (Z129 s26.2.2).bind fun q32 =>
 some (q32.1, q32.2)
 else
 some (t30, s26.2.2)) : Option (Int × Int)).bind (fun p35 =>
 let t38 := i64.wrap (base1 + p35.1);
 (if s26.1 < 0 then
 none
 else
 let t39 := ishr .i64 t6 s26.1;
 let t40 := iand .i64 t39 1;
 (if (s26.2.1.length + ([(Event.mk t38 t40)] : List Event).length) * 16 <= 140737488355328 then
 let t41 : List Event := s26.2.1 ++ [(Event.mk t38 t40)];
 let t42 := i64.wrap (s26.1 - 1);
 some (Sum.inl (t42, t41, p35.2))
 else
 none)))
 else
 some (Sum.inr (s26.2.1, s26.2.2)))
noncomputable def Z86l15 := Z86l15_b @Z129
noncomputable def Z86_b (Z128 : type_of% @Z128) (loop : type_of% @loop) (Z86l7 : type_of% @Z86l7) (Z86l15 : type_of% @Z86l15) (base1 : Int) (n2 : Bool) (n3 : Int) : Option (List Event) :=
 (if n2 = true then
 some [(Event.mk base1 1)]
 else
 let t4 := i64.wrap (0 - n3);
 let t5 := imax n3 t4;
 let t6 := i64.wrap (t5 + 1);
 let t7 := u64.wrap t6;
 (Z128 t7).bind fun q8 =>
 let t9 := i64.wrap (q8 - 1);
 (loop (Z86l7 base1 t9) (0, [(Event.mk base1 0)])).bind (fun out20 =>
 ((if (decide (t9 < 20)) = true then
 let t21 := i64.wrap (base1 + 1);
 let t22 := i64.wrap (t21 + t9);
 (if (out20.length + ([(Event.mk t22 0)] : List Event).length) * 16 <= 140737488355328 then
 let t23 : List Event := out20 ++ [(Event.mk t22 0)];
 some t23
 else
 none)
 else
 some out20) : Option ((List Event))).bind (fun out24 =>
 let t25 := i64.wrap (t9 - 1);
 (loop (Z86l15 base1 t6 t9) (t25, out24, 44)).bind (fun p43 =>
 (if (!decide (n3 = 0)) = true then
 let t46 := i64.wrap (base1 + 22);
 ((if (decide (n3 < 0)) = true then
 some (t46, 1)
 else
 some (t46, 0)) : Option (Int × Int)).bind (fun p47 =>
 (if (p43.1.length + ([(Event.mk p47.1 p47.2)] : List Event).length) * 16 <= 140737488355328 then
 let t50 : List Event := p43.1 ++ [(Event.mk p47.1 p47.2)];
 some t50
 else
 none))
 else
 some p43.1)))))
theorem Z86_eq base1 n2 n3 : Z86 base1 n2 n3 = Z86_b @Z128 @loop @Z86l7 @Z86l15 base1 n2 n3 := (B0 ..).trans (by kernel_rfl)
noncomputable def Z87l2_b (Z82 : type_of% @Z82) (l1 : List Event) (s7 : Int × Int × Int × Int × (List Int) × (List Int)) : Option ((Int × Int × Int × Int × (List Int) × (List Int)) ⊕ ((Int × Int × Int × (List Int) × (List Int)) ⊕ (Int × Int × Int × Int × (List Int) × (List Int)))) :=
 (if (decide (s7.1 < ((l1.length : Nat) : Int))) = true then
 (if 0 <= s7.1 then
 (l1[s7.1.toNat]?).bind fun e14 =>
 (Z82 e14.ctx e14.bit s7.2.1 s7.2.2.1 s7.2.2.2.1 s7.2.2.2.2.1 s7.2.2.2.2.2).bind fun q15 =>
 (if (!decide (q15.1 = 0)) = true then
 some (Sum.inr (Sum.inr (q15.1, q15.2.1, q15.2.2.1, q15.2.2.2.1, q15.2.2.2.2.1, q15.2.2.2.2.2)))
 else
 let t22 := i64.wrap (s7.1 + 1);
 some (Sum.inl (t22, q15.2.1, q15.2.2.1, q15.2.2.2.1, q15.2.2.2.2.1, q15.2.2.2.2.2)))
 else
 none)
 else
 some (Sum.inr (Sum.inl (s7.2.1, s7.2.2.1, s7.2.2.2.1, s7.2.2.2.2.1, s7.2.2.2.2.2))))
noncomputable def Z87l2 := Z87l2_b @Z82
noncomputable def Z87l2_step (i23 : Nat) (x24 : Event) (s25 : Int × Int × Int × (List Int) × (List Int)) : Option ((Int × Int × Int × (List Int) × (List Int)) ⊕ ((Int × Int × Int × (List Int) × (List Int)) ⊕ (Int × Int × Int × Int × (List Int) × (List Int)))) :=
 (Z82 x24.ctx x24.bit s25.1 s25.2.1 s25.2.2.1 s25.2.2.2.1 s25.2.2.2.2).bind fun q15 =>
 (if (!decide (q15.1 = 0)) = true then
 some (Sum.inr (Sum.inr (q15.1, q15.2.1, q15.2.2.1, q15.2.2.2.1, q15.2.2.2.2.1, q15.2.2.2.2.2)))
 else
 some (Sum.inl ((q15.2.1, q15.2.2.1, q15.2.2.2.1, q15.2.2.2.2.1, q15.2.2.2.2.2))))
theorem Z87l2_over (l1 : List Event) (hl : l1.length <= 9223372036854775807) (s25 : Int × Int × Int × (List Int) × (List Int)) : loop (Z87l2 l1) ((0, s25.1, s25.2.1, s25.2.2.1, s25.2.2.2.1, s25.2.2.2.2) : Int × Int × Int × Int × (List Int) × (List Int)) =
    overL (Z87l2_step) (fun (s25 : Int × Int × Int × (List Int) × (List Int)) => let b26 := s25.1; let b27 := s25.2.1; let b28 := s25.2.2.1; let b29 := s25.2.2.2.1; let b30 := s25.2.2.2.2; some (Sum.inl (b26, b27, b28, b29, b30))) 0 l1 s25 := by
  refine B49 l1 (fun n (s : Int × Int × Int × (List Int) × (List Int)) => ((((n : Nat) : Int), s.1, s.2.1, s.2.2.1, s.2.2.2.1, s.2.2.2.2) : Int × Int × Int × Int × (List Int) × (List Int))) _ _ (fun s => ?_) (fun i x s h => ?_) 0 s25 (A33 _)
  . unfold Z87l2 Z87l2_b; simp
  . have hlt := B7 h
    have h1 : ((i : Nat) : Int) < ((l1.length : Nat) : Int) := by omega
    have h0 : (0 : Int) <= ((i : Nat) : Int) := by omega
    have hw : i64.wrap (((i : Nat) : Int) + 1) = (((i + 1 : Nat) : Nat) : Int) := w64 (by omega)
    unfold Z87l2 Z87l2_b Z87l2_step
    simp only [h1, h0, hw, h, A7, A6, A32, A14, A12, A3, A66, Function.comp_def, B80, B66, A40, A65]
noncomputable def Z87_b (loop : type_of% @loop) (Z87l2 : type_of% @Z87l2) (l1 : List Event) (b2 b3 b4 : Int) (b5 b6 : List Int) : Option (Int × Int × Int × Int × (List Int) × (List Int)) :=
 (loop (Z87l2 l1) (0, b2, b3, b4, b5, b6)).bind (fun o44 =>
 (Sum.elim (fun (p31 : Int × Int × Int × (List Int) × (List Int)) =>
 some (0, p31.1, p31.2.1, p31.2.2.1, p31.2.2.2.1, p31.2.2.2.2))
 (fun (p37 : Int × Int × Int × Int × (List Int) × (List Int)) =>
 some (p37.1, p37.2.1, p37.2.2.1, p37.2.2.2.1, p37.2.2.2.2.1, p37.2.2.2.2.2)) o44))
theorem Z87_eq l1 b2 b3 b4 b5 b6 : Z87 l1 b2 b3 b4 b5 b6 = Z87_b @loop @Z87l2 l1 b2 b3 b4 b5 b6 := (B0 ..).trans (by kernel_rfl)
noncomputable def Z88_b (b1 b2 b3 : Int) (b4 b5 : List Int) : Option (Bool × Int × Int × Int × (List Int) × (List Int)) :=
 some (false, b1, b2, b3, b4, b5)
theorem Z88_eq b1 b2 b3 b4 b5 : Z88 b1 b2 b3 b4 b5 = Z88_b b1 b2 b3 b4 b5 := (B0 ..).trans (by kernel_rfl)
noncomputable def Z89l4 (s1 : List Int) (i3 : Int) : Option ((Int) ⊕ ((Unit) ⊕ (Bool))) :=
 (if (decide (i3 < ((s1.length : Nat) : Int))) = true then
 (if 0 <= i3 ∧ i3 < ((s1).length : Int) then
 let t4 : Int := rd s1 i3;
 (if (decide (t4 ≥ 97)) = true then
 (if (decide (t4 <= 122)) = true then
 let t5 := i64.wrap (i3 + 1);
 some (Sum.inl t5)
 else
 (if (decide (t4 ≥ 48)) = true then
 (if (decide (t4 <= 57)) = true then
 let t6 := i64.wrap (i3 + 1);
 some (Sum.inl t6)
 else
 (if (decide (t4 = 46)) = true then
 let t7 := i64.wrap (i3 + 1);
 some (Sum.inl t7)
 else
 (if (!(decide (t4 = 45))) = true then
 some (Sum.inr (Sum.inr false))
 else
 let t8 := i64.wrap (i3 + 1);
 some (Sum.inl t8))))
 else
 (if (decide (t4 = 46)) = true then
 let t9 := i64.wrap (i3 + 1);
 some (Sum.inl t9)
 else
 (if (!(decide (t4 = 45))) = true then
 some (Sum.inr (Sum.inr false))
 else
 let t10 := i64.wrap (i3 + 1);
 some (Sum.inl t10)))))
 else
 (if (decide (t4 ≥ 48)) = true then
 (if (decide (t4 <= 57)) = true then
 let t11 := i64.wrap (i3 + 1);
 some (Sum.inl t11)
 else
 (if (decide (t4 = 46)) = true then
 let t12 := i64.wrap (i3 + 1);
 some (Sum.inl t12)
 else
 (if (!(decide (t4 = 45))) = true then
 some (Sum.inr (Sum.inr false))
 else
 let t13 := i64.wrap (i3 + 1);
 some (Sum.inl t13))))
 else
 (if (decide (t4 = 46)) = true then
 let t14 := i64.wrap (i3 + 1);
 some (Sum.inl t14)
 else
 (if (!(decide (t4 = 45))) = true then
 some (Sum.inr (Sum.inr false))
 else
 let t15 := i64.wrap (i3 + 1);
 some (Sum.inl t15)))))
 else
 none)
 else
 some (Sum.inr (Sum.inl ())))
theorem Z89_eq (s1 : List Int) : Z89 s1 =
 ((if (decide (((s1.length : Nat) : Int) < 1)) = true then
 some true
 else
 some (decide (((s1.length : Nat) : Int) > 20))) : Option (Bool)).bind (fun v2 =>
 (if v2 = true then
 some false
 else
 (loop (Z89l4 s1) 0).bind (fun o21 =>
 (Sum.elim (fun (p19 : Unit) =>
 some true)
 (fun (v20 : Bool) =>
 some v20) o21)))) := (B0 ..).trans (by kernel_rfl)
noncomputable def Z90l2 (l1 : List File) (name2 : List Int) (i3 : Int) : Option ((Int) ⊕ ((Unit) ⊕ (Int))) :=
 (if (decide (i3 < ((l1.length : Nat) : Int))) = true then
 (if 0 <= i3 then
 (l1[i3.toNat]?).bind fun e4 =>
 (if (decide (e4.name = name2)) = true then
 some (Sum.inr (Sum.inr i3))
 else
 let t5 := i64.wrap (i3 + 1);
 some (Sum.inl t5))
 else
 none)
 else
 some (Sum.inr (Sum.inl ())))
theorem Z90_eq (l1 : List File) (name2 : List Int) : Z90 l1 name2 =
 (loop (Z90l2 l1 name2) 0).bind (fun o11 =>
 (Sum.elim (fun (p9 : Unit) =>
 some (-1))
 (fun (v10 : Int) =>
 some v10) o11)) := (B0 ..).trans (by kernel_rfl)
noncomputable def Z91l3 (l1 : List Outline) (s2 : Int × Int × Bool × Int) : Option ((Int × Int × Bool × Int) ⊕ (Int × Int × Bool)) :=
 let i6 := s2.2.2.2;
 (if (decide (i6 < ((l1.length : Nat) : Int))) = true then
 (if 0 <= i6 then
 (l1[i6.toNat]?).bind fun e7 =>
 (Z91 e7.kids).bind fun q8 =>
 let t12 := i64.wrap (s2.1 + 1);
 let t13 := i64.wrap (t12 + q8.1);
 let t14 := i64.wrap (q8.2.1 + 1);
 let t15 := imax s2.2.1 t14;
 (if s2.2.2.1 = true then
 (if q8.2.2 = true then
 (if 0 <= i6 then
 (l1[i6.toNat]?).bind fun e16 =>
 (if (decide (((e16.title.length : Nat) : Int) <= 200)) = true then
 (if 0 <= i6 then
 (l1[i6.toNat]?).bind fun e17 =>
 (if (decide (e17.page ≥ 1)) = true then
 (if 0 <= i6 then
 (l1[i6.toNat]?).bind fun e18 =>
 let t19 := i64.wrap (i6 + 1);
 some (Sum.inl (t13, t15, decide (e18.page <= 1000), t19))
 else
 none)
 else
 let t20 := i64.wrap (i6 + 1);
 some (Sum.inl (t13, t15, false, t20)))
 else
 none)
 else
 let t21 := i64.wrap (i6 + 1);
 some (Sum.inl (t13, t15, false, t21)))
 else
 none)
 else
 let t22 := i64.wrap (i6 + 1);
 some (Sum.inl (t13, t15, false, t22)))
 else
 let t23 := i64.wrap (i6 + 1);
 some (Sum.inl (t13, t15, false, t23)))
 else
 none)
 else
 some (Sum.inr (s2.1, s2.2.1, s2.2.2.1)))
theorem Z91_eq (l1 : List Outline) : Z91 l1 =
 (loop (Z91l3 l1) (0, 0, true, 0)).bind (fun p30 =>
 some (p30.1, p30.2.1, p30.2.2)) := (B0 ..).trans (by kernel_rfl)
noncomputable def Z92l5 (text1 : List Int) (s2 : Int × (List Int)) : Option ((Int × (List Int)) ⊕ ((List Int))) :=
 (if (decide (s2.1 <= ((text1.length : Nat) : Int))) = true then
 (if (s2.2.length + ([s2.1] : List Int).length) * 8 <= 140737488355328 then
 let t5 : List Int := s2.2 ++ [s2.1];
 let t6 := i64.wrap (s2.1 + 1);
 some (Sum.inl (t6, t5))
 else
 none)
 else
 some (Sum.inr s2.2))
theorem Z92_eq (text1 : List Int) : Z92 text1 =
 (if (decide (((text1.length : Nat) : Int) > 4000)) = true then
 some ([], 4)
 else
 (loop (Z92l5 text1) (0, [])).bind (fun l7 =>
 (Z130 text1 l7).bind fun q8 =>
 some (q8, 0))) := (B0 ..).trans (by kernel_rfl)
noncomputable def Z93l4 (l1 : List Int) (i2 : Int) : Option ((Int) ⊕ ((Unit) ⊕ (Int))) :=
 (if (decide (i2 < ((l1.length : Nat) : Int))) = true then
 (if 0 <= i2 ∧ i2 < (l1.length : Int) then
 (if (decide (rd l1 i2 < 0)) = true then
 some (Sum.inr (Sum.inr 2))
 else
 (if 0 <= i2 ∧ i2 < (l1.length : Int) then
 (if (decide (rd l1 i2 ≥ 257)) = true then
 some (Sum.inr (Sum.inr 2))
 else
 let t3 := i64.wrap (i2 + 1);
 some (Sum.inl t3))
 else
 none))
 else
 none)
 else
 some (Sum.inr (Sum.inl ())))
theorem Z93_eq (l1 : List Int) : Z93 l1 =
 (if (decide (((l1.length : Nat) : Int) > 4001)) = true then
 some 4
 else
 (loop (Z93l4 l1) 0).bind (fun o9 =>
 (Sum.elim (fun (p7 : Unit) =>
 some 0)
 (fun (v8 : Int) =>
 some v8) o9))) := (B0 ..).trans (by kernel_rfl)
noncomputable def Z94l3 (s2 : Int × (List Int)) : Option ((Int × (List Int)) ⊕ ((List Int))) :=
 (if (decide (s2.1 < 257)) = true then
 (if 0 <= s2.1 ∧ s2.1 < (s2.2.length : Int) then
 let w5 : List Int := s2.2.set s2.1.toNat s2.1;
 let t6 := i64.wrap (s2.1 + 1);
 some (Sum.inl (t6, w5))
 else
 none)
 else
 some (Sum.inr s2.2))
theorem Z94_eq : Z94 =
 (if 0 <= (257 : Int) ∧ (257 : Int) <= (257 : Int) ∧ ((8 : Nat) : Int) * (257 : Int) <= 281474976710656 then
 let t1 : List Int := List.replicate (257 : Int).toNat 0;
 (loop (Z94l3) (0, t1)).bind (fun b10 =>
 some b10)
 else
 none) := (B0 ..).trans (by kernel_rfl)
theorem Z95_eq (l1 : List Int) (at2 : Int) : Z95 l1 at2 =
 (if 0 <= at2 ∧ at2 < (l1.length : Int) then
 (if 0 <= at2 ∧ at2 <= ((l1.length : Nat) : Int) then
 let t3 : List Int := cutL l1 0 at2.toNat;
 (if (([rd l1 at2] : List Int).length + t3.length) * 8 <= 140737488355328 then
 let t4 : List Int := ([rd l1 at2] : List Int) ++ t3;
 let t5 := i64.wrap (at2 + 1);
 (if 0 <= t5 ∧ t5 <= ((l1.length : Nat) : Int) then
 let t6 : List Int := cutL l1 t5.toNat l1.length;
 (if (t4.length + t6.length) * 8 <= 140737488355328 then
 let t7 : List Int := t4 ++ t6;
 some t7
 else
 none)
 else
 none)
 else
 none)
 else
 none)
 else
 none) := (B0 ..).trans (by kernel_rfl)
noncomputable def Z96l7 (m2 : List Int) (most3 v5 : Int) : Option ((Int) ⊕ ((Unit) ⊕ (Bool))) :=
 (if (decide (v5 < ((m2.length : Nat) : Int))) = true then
 (if 0 <= v5 ∧ v5 < (m2.length : Int) then
 (if (decide (rd m2 v5 < 0)) = true then
 some (Sum.inr (Sum.inr false))
 else
 (if (decide (rd m2 v5 > most3)) = true then
 some (Sum.inr (Sum.inr false))
 else
 let t6 := i64.wrap (v5 + 1);
 some (Sum.inl t6)))
 else
 none)
 else
 some (Sum.inr (Sum.inl ())))
noncomputable def Z96l7_step (most3 : Int) (i7 : Nat) (x8 : Int) (s9 : Unit) : Option ((Unit) ⊕ ((Unit) ⊕ (Bool))) :=
 (if (decide (x8 < 0)) = true then
 some (Sum.inr (Sum.inr false))
 else
 (if (decide (x8 > most3)) = true then
 some (Sum.inr (Sum.inr false))
 else
 some (Sum.inl (()))))
theorem Z96l7_over (m2 : List Int) (most3 : Int) (hl : m2.length <= 9223372036854775807) (s9 : Unit) : loop (Z96l7 m2 most3) (0 : Int) =
    overL (Z96l7_step most3) (fun (s9 : Unit) => some (Sum.inl ())) 0 m2 s9 := by
  refine B49 m2 (fun n (s : Unit) => (((n : Nat) : Int) : Int)) _ _ (fun s => ?_) (fun i x s h => ?_) 0 s9 (A33 _)
  . unfold Z96l7; simp
  . have hlt := B7 h
    have h1 : ((i : Nat) : Int) < ((m2.length : Nat) : Int) := by omega
    have h0 : (0 : Int) <= ((i : Nat) : Int) := by omega
    have hw : i64.wrap (((i : Nat) : Int) + 1) = (((i + 1 : Nat) : Nat) : Int) := w64 (by omega)
    have hr : rd m2 ((i : Nat) : Int) = x := B21 h
    unfold Z96l7 Z96l7_step
    simp only [h1, h0, hw, h, hr, A7, A6, A32, A14, A12, A3, A66, Function.comp_def, B80, B66, A40, A65]
theorem Z96_eq (m1 : Int) (m2 : List Int) : Z96 m1 m2 =
 ((if (decide (m1 = 1)) = true then
 some 65535
 else
 some 63) : Option (Int)).bind (fun most3 =>
 ((if (!decide (m1 = 0)) = true then
 (if (!decide (m1 = 1)) = true then
 some true
 else
 some (decide (((m2.length : Nat) : Int) > 8192)))
 else
 some (decide (((m2.length : Nat) : Int) > 8192))) : Option (Bool)).bind (fun v4 =>
 (if v4 = true then
 some false
 else
 (loop (Z96l7 m2 most3) 0).bind (fun o12 =>
 (Sum.elim (fun (p10 : Unit) =>
 some true)
 (fun (v11 : Bool) =>
 some v11) o12))))) := (B0 ..).trans (by kernel_rfl)
theorem Z97_eq (m1 : Int) (m2 : List Int) : Z97 m1 m2 =
 (if (([] : List Int).length + m2.length) * 8 <= 140737488355328 then
 let t3 : List Int := ([] : List Int) ++ m2;
 some (m1, t3)
 else
 none) := (B0 ..).trans (by kernel_rfl)
theorem Z98_eq : Z98 =
 some (0, 4294967295) := (B0 ..).trans (by kernel_rfl)
theorem Z99_eq (n1 : Bool) (n2 : Int) : Z99 n1 n2 =
 (if n1 = true then
 some (decide (n2 = 0))
 else
 (if (decide (n2 ≥ (-1048576))) = true then
 some (decide (n2 <= 1048576))
 else
 some false)) := (B0 ..).trans (by kernel_rfl)
theorem Z100_eq (b1 b2 b3 : Int) (b4 b5 : List Int) : Z100 b1 b2 b3 b4 b5 =
 (Z97 b1 b4).bind fun q6 =>
 some (q6.1, q6.2, b1, b2, b3, b4, b5) := (B0 ..).trans (by kernel_rfl)
theorem Z101_eq (states1 base2 n3 : Int) : Z101 states1 base2 n3 =
 (if (decide (base2 ≥ 0)) = true then
 (if (decide (base2 <= states1)) = true then
 let t4 := i64.wrap (states1 - base2);
 some (decide (n3 <= t4))
 else
 some false)
 else
 some false) := (B0 ..).trans (by kernel_rfl)
noncomputable def Z102l9 (s8 : Int × (List Int)) : Option ((Int × (List Int)) ⊕ ((List Int))) :=
 (if (decide (s8.1 > 0)) = true then
 let t11 : Int := s8.1.tmod 2;
 (if (s8.2.length + ([t11] : List Int).length) * 8 <= 140737488355328 then
 let t12 : List Int := s8.2 ++ [t11];
 let t13 := i64.wrap (s8.1.tdiv 2);
 some (Sum.inl (t13, t12))
 else
 none)
 else
 some (Sum.inr s8.2))
noncomputable def Z102l14 (t15 : Int) (s16 : Int × (List Event)) : Option ((Int × (List Event)) ⊕ ((List Event))) :=
 (if (decide (s16.1 < t15)) = true then
 let t19 := i64.wrap (1 + s16.1);
 (if (s16.2.length + ([(Event.mk t19 1)] : List Event).length) * 16 <= 140737488355328 then
 let t20 : List Event := s16.2 ++ [(Event.mk t19 1)];
 let t21 := i64.wrap (s16.1 + 1);
 some (Sum.inl (t21, t20))
 else
 none)
 else
 some (Sum.inr s16.2))
noncomputable def Z102l14_step (i22 x23 : Nat) (s24 : (List Event)) : Option (((List Event)) ⊕ ((List Event))) :=
 let t19 := i64.wrap (1 + ((i22 : Nat) : Int));
 (if (s24.length + ([(Event.mk t19 1)] : List Event).length) * 16 <= 140737488355328 then
 let t20 : List Event := s24 ++ [(Event.mk t19 1)];
 some (Sum.inl (t20))
 else
 none)
theorem Z102l14_over (t15 : Int) (hl : (List.range (t15).toNat).length <= 9223372036854775807) (s24 : (List Event)) : loop (Z102l14 t15) ((0, s24) : Int × (List Event)) =
    overL (Z102l14_step) (fun (s24 : (List Event)) => some s24) 0 (List.range (t15).toNat) s24 := by
  refine B49 (List.range (t15).toNat) (fun n (s : (List Event)) => ((((n : Nat) : Int), s) : Int × (List Event))) _ _ (fun s => ?_) (fun i x s h => ?_) 0 s24 (A33 _)
  . have h1 : ¬ (((List.range (t15).toNat).length : Nat) : Int) < t15 := by simp only [A47]; omega
    unfold Z102l14; simp only [h1, A9, A4, A1, A40]
  . have hlt := B7 h
    rw [A47] at hlt hl
    rw [A80 hlt] at h
    cases h
    have h1 : ((i : Nat) : Int) < t15 := by omega
    have h0 : (0 : Int) <= ((i : Nat) : Int) := by omega
    have hw : i64.wrap (((i : Nat) : Int) + 1) = (((i + 1 : Nat) : Nat) : Int) := w64 (by omega)
    unfold Z102l14 Z102l14_step
    simp only [h1, h0, hw, A7, A6, A32, A14, A12, A3, A66, Function.comp_def, B80, B66, A40, A65]
noncomputable def Z102l20 (digits14 : (List Int)) (t15 : Int) (s29 : Int × (List Event)) : Option ((Int × (List Event)) ⊕ ((List Event))) :=
 (if (decide (s29.1 < t15)) = true then
 let t32 := i64.wrap (43 + s29.1);
 let t33 := imin t32 47;
 ((if (decide (s29.1 = 0)) = true then
 let t34 := i64.wrap (23 + t15);
 some t34
 else
 some t33) : Option (Int)).bind (fun ctx35 =>
 let t36 := i64.wrap (t15 - 1);
 let t37 := i64.wrap (t36 - s29.1);
 (if 0 <= t37 ∧ t37 < (digits14.length : Int) then
 let t38 : Int := rd digits14 t37;
 (if (s29.2.length + ([(Event.mk ctx35 t38)] : List Event).length) * 16 <= 140737488355328 then
 let t39 : List Event := s29.2 ++ [(Event.mk ctx35 t38)];
 let t40 := i64.wrap (s29.1 + 1);
 some (Sum.inl (t40, t39))
 else
 none)
 else
 none))
 else
 some (Sum.inr s29.2))
noncomputable def Z102l20_step (digits14 : (List Int)) (t15 : Int) (i41 x42 : Nat) (s43 : (List Event)) : Option (((List Event)) ⊕ ((List Event))) :=
 let t32 := i64.wrap (43 + ((i41 : Nat) : Int));
 let t33 := imin t32 47;
 ((if (decide (((i41 : Nat) : Int) = 0)) = true then
 let t34 := i64.wrap (23 + t15);
 some t34
 else
 some t33) : Option (Int)).bind (fun ctx35 =>
 let t36 := i64.wrap (t15 - 1);
 let t37 := i64.wrap (t36 - ((i41 : Nat) : Int));
 (if 0 <= t37 ∧ t37 < (digits14.length : Int) then
 let t38 : Int := rd digits14 t37;
 (if (s43.length + ([(Event.mk ctx35 t38)] : List Event).length) * 16 <= 140737488355328 then
 let t39 : List Event := s43 ++ [(Event.mk ctx35 t38)];
 some (Sum.inl (t39))
 else
 none)
 else
 none))
theorem Z102l20_over (digits14 : (List Int)) (t15 : Int) (hl : (List.range (t15).toNat).length <= 9223372036854775807) (s43 : (List Event)) : loop (Z102l20 digits14 t15) ((0, s43) : Int × (List Event)) =
    overL (Z102l20_step digits14 t15) (fun (s43 : (List Event)) => some s43) 0 (List.range (t15).toNat) s43 := by
  refine B49 (List.range (t15).toNat) (fun n (s : (List Event)) => ((((n : Nat) : Int), s) : Int × (List Event))) _ _ (fun s => ?_) (fun i x s h => ?_) 0 s43 (A33 _)
  . have h1 : ¬ (((List.range (t15).toNat).length : Nat) : Int) < t15 := by simp only [A47]; omega
    unfold Z102l20; simp only [h1, A9, A4, A1, A40]
  . have hlt := B7 h
    rw [A47] at hlt hl
    rw [A80 hlt] at h
    cases h
    have h1 : ((i : Nat) : Int) < t15 := by omega
    have h0 : (0 : Int) <= ((i : Nat) : Int) := by omega
    have hw : i64.wrap (((i : Nat) : Int) + 1) = (((i + 1 : Nat) : Nat) : Int) := w64 (by omega)
    unfold Z102l20 Z102l20_step
    simp only [h1, h0, hw, A7, A6, A32, A14, A12, A3, A66, Function.comp_def, B80, B66, A40, A65]
theorem Z102_eq (n1 : Bool) (n2 : Int) : Z102 n1 n2 =
 (if n1 = true then
 some [(Event.mk 0 1)]
 else
 ((if (decide (n2 < 0)) = true then
 let t3 := i64.wrap (0 - n2);
 some (t3, 1)
 else
 some (n2, 0)) : Option (Int × Int)).bind (fun p4 =>
 let t7 := i64.wrap (p4.1 + 1);
 (loop (Z102l9) (t7, [])).bind (fun digits14 =>
 let t15 := i64.wrap (((digits14.length : Nat) : Int) - 1);
 (loop (Z102l14 t15) (0, [(Event.mk 0 0)])).bind (fun out25 =>
 ((if (decide (t15 < 20)) = true then
 let t26 := i64.wrap (1 + t15);
 (if (out25.length + ([(Event.mk t26 0)] : List Event).length) * 16 <= 140737488355328 then
 let t27 : List Event := out25 ++ [(Event.mk t26 0)];
 some t27
 else
 none)
 else
 some out25) : Option ((List Event))).bind (fun out28 =>
 (loop (Z102l20 digits14 t15) (0, out28)).bind (fun out44 =>
 (if (!decide (p4.1 = 0)) = true then
 (if (out44.length + ([(Event.mk 22 p4.2)] : List Event).length) * 16 <= 140737488355328 then
 let t45 : List Event := out44 ++ [(Event.mk 22 p4.2)];
 some t45
 else
 none)
 else
 some out44))))))) := (B0 ..).trans (by kernel_rfl)
noncomputable def Z103l8 (s17 : Int × Int × Int × (List Int) × (List Int)) : Option ((Int × Int × Int × (List Int) × (List Int)) ⊕ (Int × Int × Int × (List Int) × (List Int))) :=
 let b20 := s17.2.2.1;
 (Z134 s17.2.1 b20).bind fun q23 =>
 (if q23 = true then
 let t24 := ishr .u64 b20 24;
 let t25 := u8.wrap t24;
 (if (s17.2.2.2.2.length + ([t25] : List Int).length) * 1 <= 140737488355328 then
 let t26 : List Int := s17.2.2.2.2 ++ [t25];
 (Z135 s17.2.1 b20).bind fun q27 =>
 some (Sum.inl (s17.1, q27.1, q27.2, s17.2.2.2.1, t26))
 else
 none)
 else
 some (Sum.inr (s17.1, s17.2.1, b20, s17.2.2.2.1, s17.2.2.2.2)))
theorem Z103_eq (ctx1 bit2 b3 b4 b5 : Int) (b6 b7 : List Int) : Z103 ctx1 bit2 b3 b4 b5 b6 b7 =
 ((if (decide (ctx1 < 0)) = true then
 some true
 else
 (if (decide (ctx1 ≥ ((b6.length : Nat) : Int))) = true then
 some true
 else
 (if (!decide (bit2 = 0)) = true then
 some (!decide (bit2 = 1))
 else
 some false))) : Option (Bool)).bind (fun v8 =>
 (if v8 = true then
 some (2, b3, b4, b5, b6, b7)
 else
 (if 0 <= ctx1 ∧ ctx1 < (b6.length : Int) then
 let t9 : Int := rd b6 ctx1;
 (Z131 b3 t9).bind fun q10 =>
 (Z132 b4 b5 q10 bit2).bind fun q11 =>
 (if 0 <= ctx1 ∧ ctx1 < (b6.length : Int) then
 let t14 : Int := rd b6 ctx1;
 (Z133 b3 t14 bit2).bind fun q15 =>
 (if 0 <= ctx1 ∧ ctx1 < (b6.length : Int) then
 let w16 : List Int := b6.set ctx1.toNat q15;
 (loop (Z103l8) (b3, q11.1, q11.2, w16, b7)).bind (fun p30 =>
 some (0, p30.1, p30.2.1, p30.2.2.1, p30.2.2.2.1, p30.2.2.2.2))
 else
 none)
 else
 none)
 else
 none))) := (B0 ..).trans (by kernel_rfl)
noncomputable def Z104l3 (x1 x2 : Int) (s3 : Int × (List Int)) : Option ((Int × (List Int)) ⊕ ((List Int))) :=
 (if (decide (s3.1 < x1)) = true then
 let t6 := i64.wrap (8 * ((s3.2.length : Nat) : Int));
 let t7 := i64.wrap (24 - t6);
 (if t7 < 0 then
 none
 else
 let t8 := ishr .u64 x2 t7;
 let t9 := u8.wrap t8;
 (if (s3.2.length + ([t9] : List Int).length) * 1 <= 140737488355328 then
 let t10 : List Int := s3.2 ++ [t9];
 (if t7 < 0 then
 none
 else
 let t11 := ishr .u64 x2 t7;
 let t12 : Int := t11.tmod 256;
 (if t7 < 0 then
 none
 else
 let t13 := ishl .u64 t12 t7;
 let t14 := u64.wrap (s3.1 + t13);
 some (Sum.inl (t14, t10))))
 else
 none))
 else
 some (Sum.inr s3.2))
theorem Z104_eq (x1 x2 : Int) : Z104 x1 x2 =
 (loop (Z104l3 x1 x2) (0, [])).bind (fun out15 =>
 some out15) := (B0 ..).trans (by kernel_rfl)
noncomputable def Z105_b (b1 b2 b3 b4 b5 b6 : Int) (b7 b8 : List Int) : Option (Int × Int × Int × Int × Int × Int × (List Int) × (List Int)) :=
 ((if (decide (b4 < ((b8.length : Nat) : Int))) = true then
 (if 0 <= b4 ∧ b4 < (b8.length : Int) then
 let t9 : Int := rd b8 b4;
 some (t9, b1, b2, b3, b4, b5, b6, b7, b8)
 else
 none)
 else
 let t10 := i64.wrap (b6 + 1);
 some (0, b1, b2, b3, b4, b5, t10, b7, b8)) : Option (Int × Int × Int × Int × Int × Int × Int × (List Int) × (List Int))).bind (fun p11 =>
 let t21 := i64.wrap (p11.2.2.2.2.1 + 1);
 let t22 := ishl .u64 p11.2.2.2.2.2.1 8;
 let t23 := iand .u64 t22 4294967295;
 let t24 := u64.wrap p11.1;
 let t25 := ior .u64 t23 t24;
 some (p11.2.1, p11.2.2.1, p11.2.2.2.1, t21, t25, p11.2.2.2.2.2.2.1, p11.2.2.2.2.2.2.2.1, p11.2.2.2.2.2.2.2.2))
theorem Z105_eq b1 b2 b3 b4 b5 b6 b7 b8 : Z105 b1 b2 b3 b4 b5 b6 b7 b8 = Z105_b b1 b2 b3 b4 b5 b6 b7 b8 := (B0 ..).trans (by kernel_rfl)
noncomputable def Z106l12_b (Z139 : type_of% @Z139) (Z140 : type_of% @Z140) (Z141 : type_of% @Z141) (s51 : Int × Int × Int × (List Int) × Int × Int × Int × Bool × (List Int)) : Option ((Int × Int × Int × (List Int) × Int × Int × Int × Bool × (List Int)) ⊕ (Int × Int × Int × (List Int) × Int × Int × Int × Bool × (List Int))) :=
 (Z139 s51.1 s51.2.1 s51.2.2.1 s51.2.2.2.1 s51.2.2.2.2.1 s51.2.2.2.2.2.1 s51.2.2.2.2.2.2.1 s51.2.2.2.2.2.2.2.1 s51.2.2.2.2.2.2.2.2).bind fun q61 =>
 (if q61.1 = true then
 (Z140 q61.2.1 q61.2.2.1 q61.2.2.2.1 q61.2.2.2.2.1 q61.2.2.2.2.2.1 q61.2.2.2.2.2.2.1 q61.2.2.2.2.2.2.2.1 q61.2.2.2.2.2.2.2.2.1 q61.2.2.2.2.2.2.2.2.2).bind fun q72 =>
 (Z141 q72.2.1 q72.2.2.1 q72.2.2.2.1 q72.2.2.2.2.1 q72.2.2.2.2.2.1 q72.2.2.2.2.2.2.1 q72.2.2.2.2.2.2.2.1 q72.2.2.2.2.2.2.2.2.1 q72.2.2.2.2.2.2.2.2.2).bind fun q83 =>
 some (Sum.inl (q83.1, q83.2.1, q83.2.2.1, q83.2.2.2.1, q83.2.2.2.2.1, q83.2.2.2.2.2.1, q83.2.2.2.2.2.2.1, q83.2.2.2.2.2.2.2.1, q83.2.2.2.2.2.2.2.2))
 else
 some (Sum.inr (q61.2.1, q61.2.2.1, q61.2.2.2.1, q61.2.2.2.2.1, q61.2.2.2.2.2.1, q61.2.2.2.2.2.2.1, q61.2.2.2.2.2.2.2.1, q61.2.2.2.2.2.2.2.2.1, q61.2.2.2.2.2.2.2.2.2)))
noncomputable def Z106l12 := Z106l12_b @Z139 @Z140 @Z141
noncomputable def Z106_b (Z136 : type_of% @Z136) (Z137 : type_of% @Z137) (Z138 : type_of% @Z138) (loop : type_of% @loop) (Z106l12 : type_of% @Z106l12) (ctx1 b2 b3 b4 : Int) (b5 : List Int) (b6 b7 b8 : Int) (b9 : Bool) (b10 : List Int) : Option (Int × Int × Int × Int × Int × (List Int) × Int × Int × Int × Bool × (List Int)) :=
 (Z136 b2 b3 b4 b5 b6 b7 b8 b9 b10).bind fun q11 =>
 let tr20 := q11.2.2.2.2.2.2.2.2.1;
 let tr21 := q11.2.2.2.2.2.2.2.2.2;
 ((if q11.1 = true then
 some (Sum.inr (0, 7))
 else
 ((if (decide (ctx1 < 0)) = true then
 some true
 else
 some (decide (ctx1 ≥ ((tr21.length : Nat) : Int)))) : Option (Bool)).bind (fun v22 =>
 (if v22 = true then
 some (Sum.inr (0, 2))
 else
 (if tr20 = true then
 some (Sum.inr (0, 6))
 else
 some (Sum.inl ()))))) : Option ((Unit) ⊕ (Int × Int))).bind (fun o27 =>
 (Sum.elim (fun (p23 : Unit) =>
 (Z137 ctx1 q11.2.1 q11.2.2.1 q11.2.2.2.1 q11.2.2.2.2.1 q11.2.2.2.2.2.1 q11.2.2.2.2.2.2.1 q11.2.2.2.2.2.2.2.1 tr20 tr21).bind fun q28 =>
 let tr35 := q28.2.2.2.2.2.2.1;
 let tr38 := q28.2.2.2.2.2.2.2.2.2;
 ((if (decide (tr35 <= q28.1)) = true then
 some 1
 else
 some 0) : Option (Int)).bind (fun bit39 =>
 (if 0 <= ctx1 ∧ ctx1 < (tr38.length : Int) then
 let t40 : Int := rd tr38 ctx1;
 (Z138 ctx1 bit39 q28.1 q28.2.1 q28.2.2.1 q28.2.2.2.1 q28.2.2.2.2.1 q28.2.2.2.2.2.1 tr35 q28.2.2.2.2.2.2.2.1 q28.2.2.2.2.2.2.2.2.1 tr38).bind fun q41 =>
 (loop (Z106l12) (q41.1, q41.2.1, q41.2.2.1, q41.2.2.2.1, q41.2.2.2.2.1, q41.2.2.2.2.2.1, q41.2.2.2.2.2.2.1, q41.2.2.2.2.2.2.2.1, q41.2.2.2.2.2.2.2.2)).bind (fun p93 =>
 let b102 := p93.2.2.2.2.2.2.2.2;
 (if (decide (p93.2.2.2.2.2.2.1 > 4)) = true then
 (if 0 <= ctx1 ∧ ctx1 < (b102.length : Int) then
 let w103 : List Int := b102.set ctx1.toNat t40;
 some (0, 6, q28.2.1, q28.2.2.1, q28.2.2.2.1, q28.2.2.2.2.1, q28.2.2.2.2.2.1, tr35, q28.2.2.2.2.2.2.2.1, true, w103)
 else
 none)
 else
 some (bit39, 0, p93.1, p93.2.1, p93.2.2.1, p93.2.2.2.1, p93.2.2.2.2.1, p93.2.2.2.2.2.1, p93.2.2.2.2.2.2.1, p93.2.2.2.2.2.2.2.1, b102)))
 else
 none)))
 (fun (p24 : Int × Int) =>
 some (p24.1, p24.2, q11.2.1, q11.2.2.1, q11.2.2.2.1, q11.2.2.2.2.1, q11.2.2.2.2.2.1, q11.2.2.2.2.2.2.1, q11.2.2.2.2.2.2.2.1, tr20, tr21)) o27))
theorem Z106_eq ctx1 b2 b3 b4 b5 b6 b7 b8 b9 b10 : Z106 ctx1 b2 b3 b4 b5 b6 b7 b8 b9 b10 = Z106_b @Z136 @Z137 @Z138 @loop @Z106l12 ctx1 b2 b3 b4 b5 b6 b7 b8 b9 b10 := (B0 ..).trans (by kernel_rfl)
noncomputable def Z107_b (Z136 : type_of% @Z136) (Z121 : type_of% @Z121) (b1 b2 b3 : Int) (b4 : List Int) (b5 b6 b7 : Int) (b8 : Bool) (b9 : List Int) : Option (Int × (List Int) × Int × Int × Int × (List Int) × Int × Int × Int × Bool × (List Int)) :=
 (Z136 b1 b2 b3 b4 b5 b6 b7 b8 b9).bind fun q10 =>
 let tr20 := q10.2.2.2.2.2.2.2.2.2;
 (if q10.1 = true then
 some (0, [], q10.2.1, q10.2.2.1, q10.2.2.2.1, q10.2.2.2.2.1, q10.2.2.2.2.2.1, q10.2.2.2.2.2.2.1, q10.2.2.2.2.2.2.2.1, q10.2.2.2.2.2.2.2.2.1, tr20)
 else
 (Z121 q10.2.1 tr20).bind fun q21 =>
 some (q21.1, q21.2, q10.2.1, q10.2.2.1, q10.2.2.2.1, q10.2.2.2.2.1, q10.2.2.2.2.2.1, q10.2.2.2.2.2.2.1, q10.2.2.2.2.2.2.2.1, q10.2.2.2.2.2.2.2.2.1, tr20))
theorem Z107_eq b1 b2 b3 b4 b5 b6 b7 b8 b9 : Z107 b1 b2 b3 b4 b5 b6 b7 b8 b9 = Z107_b @Z136 @Z121 b1 b2 b3 b4 b5 b6 b7 b8 b9 := (B0 ..).trans (by kernel_rfl)
noncomputable def Z108l5_b (Z106 : type_of% @Z106) (base1 : Int) (s24 : Int × Int × Int × Int × (List Int) × Int × Int × Int × Bool × (List Int) × Bool × Int) : Option ((Int × Int × Int × Int × (List Int) × Int × Int × Int × Bool × (List Int) × Bool × Int) ⊕ ((Int × Int × Int × Int × (List Int) × Int × Int × Int × Bool × (List Int) × Bool × Int) ⊕ (Int × Int × Int × Int × (List Int) × Int × Int × Int × Bool × (List Int) × Bool × Int))) :=
 let b33 := s24.2.2.2.2.2.2.2.2.1;
 let b34 := s24.2.2.2.2.2.2.2.2.2.1;
 let b35 := s24.2.2.2.2.2.2.2.2.2.2.1;
 let b36 := s24.2.2.2.2.2.2.2.2.2.2.2;
 (if (decide (s24.1 < 20)) = true then
 let t37 := i64.wrap (base1 + 1);
 let t38 := i64.wrap (t37 + s24.1);
 (Z106 t38 s24.2.1 s24.2.2.1 s24.2.2.2.1 s24.2.2.2.2.1 s24.2.2.2.2.2.1 s24.2.2.2.2.2.2.1 s24.2.2.2.2.2.2.2.1 b33 b34).bind fun q39 =>
 let tr45 := q39.2.2.2.2.2.1;
 let tr46 := q39.2.2.2.2.2.2.1;
 let tr47 := q39.2.2.2.2.2.2.2.1;
 let tr48 := q39.2.2.2.2.2.2.2.2.1;
 let tr49 := q39.2.2.2.2.2.2.2.2.2.1;
 let tr50 := q39.2.2.2.2.2.2.2.2.2.2;
 (if (!decide (q39.2.1 = 0)) = true then
 some (Sum.inr (Sum.inr (q39.2.1, q39.2.2.1, q39.2.2.2.1, q39.2.2.2.2.1, tr45, tr46, tr47, tr48, tr49, tr50, false, 0)))
 else
 (if (decide (q39.1 = 0)) = true then
 some (Sum.inr (Sum.inl (s24.1, q39.2.2.1, q39.2.2.2.1, q39.2.2.2.2.1, tr45, tr46, tr47, tr48, tr49, tr50, b35, b36)))
 else
 let t51 := i64.wrap (s24.1 + 1);
 some (Sum.inl (t51, q39.2.2.1, q39.2.2.2.1, q39.2.2.2.2.1, tr45, tr46, tr47, tr48, tr49, tr50, b35, b36))))
 else
 some (Sum.inr (Sum.inl (s24.1, s24.2.1, s24.2.2.1, s24.2.2.2.1, s24.2.2.2.2.1, s24.2.2.2.2.2.1, s24.2.2.2.2.2.2.1, s24.2.2.2.2.2.2.2.1, b33, b34, b35, b36))))
noncomputable def Z108l5 := Z108l5_b @Z106
noncomputable def Z108l14_b (Z129 : type_of% @Z129) (Z106 : type_of% @Z106) (base1 c53 : Int) (s79 : Int × Int × Int × Int × Int × (List Int) × Int × Int × Int × Bool × (List Int) × Bool × Int × Int) : Option ((Int × Int × Int × Int × Int × (List Int) × Int × Int × Int × Bool × (List Int) × Bool × Int × Int) ⊕ ((Int × Int × Int × Int × (List Int) × Int × Int × Int × Bool × (List Int) × Bool × Int × Int) ⊕ (Int × Int × Int × Int × (List Int) × Int × Int × Int × Bool × (List Int) × Bool × Int × Int))) :=
 let b88 := s79.2.2.2.2.2.2.2.2.1;
 let b89 := s79.2.2.2.2.2.2.2.2.2.1;
 let b90 := s79.2.2.2.2.2.2.2.2.2.2.1;
 let b91 := s79.2.2.2.2.2.2.2.2.2.2.2.1;
 let b92 := s79.2.2.2.2.2.2.2.2.2.2.2.2.1;
 let b93 := s79.2.2.2.2.2.2.2.2.2.2.2.2.2;
 (if (decide (s79.2.1 < c53)) = true then
 let t94 := i64.wrap (23 + c53);
 ((if (decide (s79.2.1 > 0)) = true then
 (Z129 b93).bind fun q95 =>
 some (q95.1, q95.2)
 else
 some (t94, b93)) : Option (Int × Int)).bind (fun p98 =>
 let t101 := i64.wrap (base1 + p98.1);
 (Z106 t101 s79.2.2.1 s79.2.2.2.1 s79.2.2.2.2.1 s79.2.2.2.2.2.1 s79.2.2.2.2.2.2.1 s79.2.2.2.2.2.2.2.1 b88 b89 b90).bind fun q102 =>
 (if (!decide (q102.2.1 = 0)) = true then
 some (Sum.inr (Sum.inr (q102.2.1, q102.2.2.1, q102.2.2.2.1, q102.2.2.2.2.1, q102.2.2.2.2.2.1, q102.2.2.2.2.2.2.1, q102.2.2.2.2.2.2.2.1, q102.2.2.2.2.2.2.2.2.1, q102.2.2.2.2.2.2.2.2.2.1, q102.2.2.2.2.2.2.2.2.2.2, false, 0, p98.2)))
 else
 let t114 := i64.wrap (2 * s79.1);
 let t115 := i64.wrap (t114 + q102.1);
 let t116 := i64.wrap (s79.2.1 + 1);
 some (Sum.inl (t115, t116, q102.2.2.1, q102.2.2.2.1, q102.2.2.2.2.1, q102.2.2.2.2.2.1, q102.2.2.2.2.2.2.1, q102.2.2.2.2.2.2.2.1, q102.2.2.2.2.2.2.2.2.1, q102.2.2.2.2.2.2.2.2.2.1, q102.2.2.2.2.2.2.2.2.2.2, b91, b92, p98.2))))
 else
 some (Sum.inr (Sum.inl (s79.1, s79.2.2.1, s79.2.2.2.1, s79.2.2.2.2.1, s79.2.2.2.2.2.1, s79.2.2.2.2.2.2.1, s79.2.2.2.2.2.2.2.1, b88, b89, b90, b91, b92, b93))))
noncomputable def Z108l14 := Z108l14_b @Z129 @Z106
noncomputable def Z108_b (Z106 : type_of% @Z106) (loop : type_of% @loop) (Z108l5 : type_of% @Z108l5) (Z108l14 : type_of% @Z108l14) (base1 b2 b3 b4 : Int) (b5 : List Int) (b6 b7 b8 : Int) (b9 : Bool) (b10 : List Int) : Option (Bool × Int × Int × Int × Int × Int × (List Int) × Int × Int × Int × Bool × (List Int)) :=
 (Z106 base1 b2 b3 b4 b5 b6 b7 b8 b9 b10).bind fun q11 =>
 let tr21 := q11.2.2.2.2.2.2.2.2.2.1;
 let tr22 := q11.2.2.2.2.2.2.2.2.2.2;
 ((if (!decide (q11.2.1 = 0)) = true then
 some true
 else
 some (decide (q11.1 = 1))) : Option (Bool)).bind (fun v23 =>
 (if v23 = true then
 some (decide (q11.2.1 = 0), 0, q11.2.1, q11.2.2.1, q11.2.2.2.1, q11.2.2.2.2.1, q11.2.2.2.2.2.1, q11.2.2.2.2.2.2.1, q11.2.2.2.2.2.2.2.1, q11.2.2.2.2.2.2.2.2.1, tr21, tr22)
 else
 (loop (Z108l5 base1) (0, q11.2.2.1, q11.2.2.2.1, q11.2.2.2.2.1, q11.2.2.2.2.2.1, q11.2.2.2.2.2.2.1, q11.2.2.2.2.2.2.2.1, q11.2.2.2.2.2.2.2.2.1, tr21, tr22, false, 0)).bind (fun o78 =>
 (Sum.elim (fun (p52 : Int × Int × Int × Int × (List Int) × Int × Int × Int × Bool × (List Int) × Bool × Int) =>
 (loop (Z108l14 base1 p52.1) (1, 0, p52.2.1, p52.2.2.1, p52.2.2.2.1, p52.2.2.2.2.1, p52.2.2.2.2.2.1, p52.2.2.2.2.2.2.1, p52.2.2.2.2.2.2.2.1, p52.2.2.2.2.2.2.2.2.1, p52.2.2.2.2.2.2.2.2.2.1, p52.2.2.2.2.2.2.2.2.2.2.1, p52.2.2.2.2.2.2.2.2.2.2.2, 44)).bind (fun o161 =>
 (Sum.elim (fun (p133 : Int × Int × Int × Int × (List Int) × Int × Int × Int × Bool × (List Int) × Bool × Int × Int) =>
 let b138 := p133.2.2.2.2.1;
 let b139 := p133.2.2.2.2.2.1;
 let b140 := p133.2.2.2.2.2.2.1;
 let b141 := p133.2.2.2.2.2.2.2.1;
 let b142 := p133.2.2.2.2.2.2.2.2.1;
 let b143 := p133.2.2.2.2.2.2.2.2.2.1;
 (if (decide (p133.1 > 1048577)) = true then
 some (false, 0, 3, p133.2.1, p133.2.2.1, p133.2.2.2.1, b138, b139, b140, b141, b142, b143)
 else
 (if (decide (p133.1 = 1)) = true then
 some (false, 0, 0, p133.2.1, p133.2.2.1, p133.2.2.2.1, b138, b139, b140, b141, b142, b143)
 else
 let t162 := i64.wrap (base1 + 22);
 (Z106 t162 p133.2.1 p133.2.2.1 p133.2.2.2.1 b138 b139 b140 b141 b142 b143).bind fun q163 =>
 (if (!decide (q163.2.1 = 0)) = true then
 some (false, 0, q163.2.1, q163.2.2.1, q163.2.2.2.1, q163.2.2.2.2.1, q163.2.2.2.2.2.1, q163.2.2.2.2.2.2.1, q163.2.2.2.2.2.2.2.1, q163.2.2.2.2.2.2.2.2.1, q163.2.2.2.2.2.2.2.2.2.1, q163.2.2.2.2.2.2.2.2.2.2)
 else
 let t175 := i64.wrap (p133.1 - 1);
 let t176 := i64.wrap (2 * q163.1);
 let t177 := i64.wrap (1 - t176);
 let t178 := i64.wrap (t175 * t177);
 some (false, t178, 0, q163.2.2.1, q163.2.2.2.1, q163.2.2.2.2.1, q163.2.2.2.2.2.1, q163.2.2.2.2.2.2.1, q163.2.2.2.2.2.2.2.1, q163.2.2.2.2.2.2.2.2.1, q163.2.2.2.2.2.2.2.2.2.1, q163.2.2.2.2.2.2.2.2.2.2)))))
 (fun (p147 : Int × Int × Int × Int × (List Int) × Int × Int × Int × Bool × (List Int) × Bool × Int × Int) =>
 some (p147.2.2.2.2.2.2.2.2.2.2.1, p147.2.2.2.2.2.2.2.2.2.2.2.1, p147.1, p147.2.1, p147.2.2.1, p147.2.2.2.1, p147.2.2.2.2.1, p147.2.2.2.2.2.1, p147.2.2.2.2.2.2.1, p147.2.2.2.2.2.2.2.1, p147.2.2.2.2.2.2.2.2.1, p147.2.2.2.2.2.2.2.2.2.1)) o161)))
 (fun (p65 : Int × Int × Int × Int × (List Int) × Int × Int × Int × Bool × (List Int) × Bool × Int) =>
 some (p65.2.2.2.2.2.2.2.2.2.2.1, p65.2.2.2.2.2.2.2.2.2.2.2, p65.1, p65.2.1, p65.2.2.1, p65.2.2.2.1, p65.2.2.2.2.1, p65.2.2.2.2.2.1, p65.2.2.2.2.2.2.1, p65.2.2.2.2.2.2.2.1, p65.2.2.2.2.2.2.2.2.1, p65.2.2.2.2.2.2.2.2.2.1)) o78))))
theorem Z108_eq base1 b2 b3 b4 b5 b6 b7 b8 b9 b10 : Z108 base1 b2 b3 b4 b5 b6 b7 b8 b9 b10 = Z108_b @Z106 @loop @Z108l5 @Z108l14 base1 b2 b3 b4 b5 b6 b7 b8 b9 b10 := (B0 ..).trans (by kernel_rfl)
noncomputable def Z109_b (b1 : List Int) : Option (List Int) :=
 some b1
theorem Z109_eq b1 : Z109 b1 = Z109_b b1 := (B0 ..).trans (by kernel_rfl)
noncomputable def Z110l4 (s1 s2 : List Int) (v3 : Int) : Option ((Int) ⊕ ((Unit) ⊕ (Bool))) :=
 (if (decide (v3 < ((s1.length : Nat) : Int))) = true then
 (if 0 <= v3 ∧ v3 < (s1.length : Int) then
 (if 0 <= v3 ∧ v3 < (s2.length : Int) then
 (if (!decide (rd s1 v3 = rd s2 v3)) = true then
 some (Sum.inr (Sum.inr false))
 else
 let t4 := i64.wrap (v3 + 1);
 some (Sum.inl t4))
 else
 none)
 else
 none)
 else
 some (Sum.inr (Sum.inl ())))
noncomputable def Z110_b (loop : type_of% @loop) (Z110l4 : type_of% @Z110l4) (s1 s2 : List Int) : Option Bool :=
 (if (!decide (((s1.length : Nat) : Int) = ((s2.length : Nat) : Int))) = true then
 some false
 else
 (loop (Z110l4 s1 s2) 0).bind (fun o10 =>
 (Sum.elim (fun (p8 : Unit) =>
 some true)
 (fun (v9 : Bool) =>
 some v9) o10)))
theorem Z110_eq s1 s2 : Z110 s1 s2 = Z110_b @loop @Z110l4 s1 s2 := (B0 ..).trans (by kernel_rfl)
noncomputable def Z111_b (Z57 : type_of% @Z57) (low1 high2 : Int) (b3 : List Int) (b4 b5 b6 : Int) : Option (Int × (List Int) × Int × Int × Int) :=
 (if (!decide (b6 = 0)) = true then
 some (0, b3, b4, b5, b6)
 else
 (Z57 b3 b4).bind fun q7 =>
 ((if (decide (q7.2.2 = 0)) = true then
 (if (decide (q7.1 < low1)) = true then
 some true
 else
 some (decide (q7.1 > high2)))
 else
 some false) : Option (Bool)).bind (fun v11 =>
 ((if v11 = true then
 some 3
 else
 some q7.2.2) : Option (Int)).bind (fun err12 =>
 (if (!decide (err12 = 0)) = true then
 some (0, b3, b4, b5, err12)
 else
 some (q7.1, b3, q7.2.1, b5, err12)))))
theorem Z111_eq low1 high2 b3 b4 b5 b6 : Z111 low1 high2 b3 b4 b5 b6 = Z111_b @Z57 low1 high2 b3 b4 b5 b6 := (B0 ..).trans (by kernel_rfl)
noncomputable def Z112_b (Z111 : type_of% @Z111) (b1 : List Int) (b2 b3 b4 : Int) : Option ((List Int) × (List Int) × Int × Int × Int) :=
 (Z111 0 200 b1 b2 b3 b4).bind fun q5 =>
 ((if (decide (q5.2.2.2.2 = 0)) = true then
 let t11 := i64.wrap (((q5.2.1.length : Nat) : Int) - q5.2.2.1);
 some (decide (t11 < q5.1))
 else
 some false) : Option (Bool)).bind (fun v12 =>
 ((if v12 = true then
 some (q5.2.1, q5.2.2.1, q5.2.2.2.1, 6)
 else
 some (q5.2.1, q5.2.2.1, q5.2.2.2.1, q5.2.2.2.2)) : Option ((List Int) × Int × Int × Int)).bind (fun p13 =>
 (if (!decide (p13.2.2.2 = 0)) = true then
 some ([], p13.1, p13.2.1, p13.2.2.1, p13.2.2.2)
 else
 let t18 := i64.wrap (p13.2.1 + q5.1);
 let t19 := i64.wrap (t18 - q5.1);
 (if 0 <= t18 ∧ t18 <= ((p13.1.length : Nat) : Int) then
 (if 0 <= t19 ∧ t19 <= t18 then
 let t20 : List Int := cutL p13.1 t19.toNat t18.toNat;
 some (t20, p13.1, t18, p13.2.2.1, p13.2.2.2)
 else
 none)
 else
 none))))
theorem Z112_eq b1 b2 b3 b4 : Z112 b1 b2 b3 b4 = Z112_b @Z111 b1 b2 b3 b4 := (B0 ..).trans (by kernel_rfl)
noncomputable def Z113_b (f1 : List Int) (f2 : Int) (f3 b4 : List Int) : Option (Bool × (List Int)) :=
 some (decide (f1 = b4), b4)
theorem Z113_eq f1 f2 f3 b4 : Z113 f1 f2 f3 b4 = Z113_b f1 f2 f3 b4 := (B0 ..).trans (by kernel_rfl)
noncomputable def Z114_b (Z142 : type_of% @Z142) (l1 : List Chunk) : Option Bool :=
 (Z142 l1 1 0).bind fun q2 =>
 some q2.1
theorem Z114_eq l1 : Z114 l1 = Z114_b @Z142 l1 := (B0 ..).trans (by kernel_rfl)
noncomputable def Z115_b (Z143 : type_of% @Z143) (c1 c2 c3 : List Int) (c4 : List Chunk) : Option Int :=
 (Z143 c1 c2 c3 c4).bind fun q5 =>
 let t6 := i64.wrap (q5 + 1);
 let t7 := i64.wrap (t6.tdiv 2);
 let t8 := i64.wrap (t7 * 2);
 let t9 := i64.wrap (8 + t8);
 some t9
theorem Z115_eq c1 c2 c3 c4 : Z115 c1 c2 c3 c4 = Z115_b @Z143 c1 c2 c3 c4 := (B0 ..).trans (by kernel_rfl)
noncomputable def Z116l7_b (Z116 : type_of% @Z116) (c4 : List Chunk) (s17 : Int × (List Int)) : Option ((Int × (List Int)) ⊕ ((List Int))) :=
 (if (decide (s17.1 < ((c4.length : Nat) : Int))) = true then
 (if 0 <= s17.1 then
 (c4[s17.1.toNat]?).bind fun e20 =>
 (Z116 e20.id e20.kind e20.data e20.kids s17.2).bind fun q21 =>
 let t22 := i64.wrap (s17.1 + 1);
 some (Sum.inl (t22, q21))
 else
 none)
 else
 some (Sum.inr s17.2))
noncomputable def Z116l7 := Z116l7_b @Z116
noncomputable def Z116l7_step (i23 : Nat) (x24 : Chunk) (s25 : (List Int)) : Option (((List Int)) ⊕ ((List Int))) :=
 (Z116 x24.id x24.kind x24.data x24.kids s25).bind fun q21 =>
 some (Sum.inl (q21))
theorem Z116l7_over (c4 : List Chunk) (hl : c4.length <= 9223372036854775807) (s25 : (List Int)) : loop (Z116l7 c4) ((0, s25) : Int × (List Int)) =
    overL (Z116l7_step) (fun (s25 : (List Int)) => some s25) 0 c4 s25 := by
  refine B49 c4 (fun n (s : (List Int)) => ((((n : Nat) : Int), s) : Int × (List Int))) _ _ (fun s => ?_) (fun i x s h => ?_) 0 s25 (A33 _)
  . unfold Z116l7 Z116l7_b; simp
  . have hlt := B7 h
    have h1 : ((i : Nat) : Int) < ((c4.length : Nat) : Int) := by omega
    have h0 : (0 : Int) <= ((i : Nat) : Int) := by omega
    have hw : i64.wrap (((i : Nat) : Int) + 1) = (((i + 1 : Nat) : Nat) : Int) := w64 (by omega)
    unfold Z116l7 Z116l7_b Z116l7_step
    simp only [h1, h0, hw, h, A7, A6, A32, A14, A12, A3, A66, Function.comp_def, B80, B66, A40, A65]
noncomputable def Z116_b (Z143 : type_of% @Z143) (loop : type_of% @loop) (Z116l7 : type_of% @Z116l7) (c1 c2 c3 : List Int) (c4 : List Chunk) (b5 : List Int) : Option (List Int) :=
 (Z143 c1 c2 c3 c4).bind fun q6 =>
 (if (b5.length + c1.length) * 1 <= 140737488355328 then
 let t7 : List Int := b5 ++ c1;
 let t8 := ishr .i64 q6 24;
 let t9 := u8.wrap t8;
 let t10 := ishr .i64 q6 16;
 let t11 := u8.wrap t10;
 let t12 := ishr .i64 q6 8;
 let t13 := u8.wrap t12;
 let t14 := u8.wrap q6;
 (if (t7.length + ([t9, t11, t13, t14] : List Int).length) * 1 <= 140737488355328 then
 let t15 : List Int := t7 ++ [t9, t11, t13, t14];
 ((if (decide (c1 = [70, 79, 82, 77])) = true then
 (if (t15.length + c2.length) * 1 <= 140737488355328 then
 let t16 : List Int := t15 ++ c2;
 (loop (Z116l7 c4) (0, t16)).bind (fun out26 =>
 some out26)
 else
 none)
 else
 (if (t15.length + c3.length) * 1 <= 140737488355328 then
 let t27 : List Int := t15 ++ c3;
 some t27
 else
 none)) : Option ((List Int))).bind (fun out28 =>
 let t29 : Int := q6.tmod 2;
 (if (decide (t29 = 1)) = true then
 (if (out28.length + ([0] : List Int).length) * 1 <= 140737488355328 then
 let t30 : List Int := out28 ++ [0];
 some t30
 else
 none)
 else
 some out28))
 else
 none)
 else
 none)
theorem Z116_eq c1 c2 c3 c4 b5 : Z116 c1 c2 c3 c4 b5 = Z116_b @Z143 @loop @Z116l7 c1 c2 c3 c4 b5 := (B0 ..).trans (by kernel_rfl)
end
end Go.Proofs.YtcphcfknnfibmaaGreat.P
