import Derived.Test.YtcphcfknnfibmaaGreatG
import Derived.Test.YtcphcfknnfibmaaGreatF5
namespace Go.Proofs.YtcphcfknnfibmaaGreat.P
open Go Go.IntKind Go.Proofs.YtcphcfknnfibmaaGreat.V
set_option linter.unusedVariables false
set_option linter.unusedSimpArgs false
set_option maxRecDepth 100000
noncomputable section
theorem Z71_eq (b1 : List Int) (b2 b3 : Int) : Z71 b1 b2 b3 =
 (Z73 1 b1 b2 b3).bind fun q4 =>
 ((if (decide (((q4.1.length : Nat) : Int) = 1)) = true then
 (if 0 <= (0 : Int) ∧ (0 : Int) < (q4.1.length : Int) then
 (Z70 (decide (rd q4.1 0 <= 2)) 3 q4.2.1 q4.2.2.1 q4.2.2.2).bind fun q9 =>
 some (!q9.1, q9.2.1, q9.2.2.1, q9.2.2.2)
 else
 none)
 else
 (Z70 false 3 q4.2.1 q4.2.2.1 q4.2.2.2).bind fun q14 =>
 some (!q14.1, q14.2.1, q14.2.2.1, q14.2.2.2)) : Option (Bool × (List Int) × Int × Int)).bind (fun p19 =>
 (if p19.1 = true then
 some ([], 0, [], 0, p19.2.1, p19.2.2.1, p19.2.2.2)
 else
 (if 0 <= (0 : Int) ∧ (0 : Int) < (q4.1.length : Int) then
 let t24 := i64.wrap (rd q4.1 0);
 (Z49 p19.2.1 p19.2.2.1 p19.2.2.2).bind fun q25 =>
 (Z69 q25.2.1 q25.2.2.1 q25.2.2.2).bind fun q30 =>
 some (q25.1, t24, [], q30.1, q30.2.1, q30.2.2.1, q30.2.2.2)
 else
 none))) := (B0 ..).trans (by kernel_rfl)
theorem Z72_eq (b1 : List Int) : Z72 b1 =
 (Z108 1 b1 0 0 0).bind fun q2 =>
 (if (!decide (q2.2.2.2.2 = 0)) = true then
 some ([], q2.2.2.2.2)
 else
 (if (decide (q2.2.2.1 < ((b1.length : Nat) : Int))) = true then
 some ([], 3)
 else
 some (q2.1, 0))) := (B0 ..).trans (by kernel_rfl)
theorem Z73_eq (n1 : Int) (b2 : List Int) (b3 b4 : Int) : Z73 n1 b2 b3 b4 =
 let t5 := i64.wrap (((b2.length : Nat) : Int) - b3);
 (Z70 (decide (n1 <= t5)) 6 b2 b3 b4).bind fun q6 =>
 (if (!q6.1) = true then
 some ([], q6.2.1, q6.2.2.1, q6.2.2.2)
 else
 let t11 := i64.wrap (q6.2.2.1 + n1);
 let t12 := i64.wrap (t11 - n1);
 (if 0 <= t11 ∧ t11 <= ((q6.2.1.length : Nat) : Int) then
 (if 0 <= t12 ∧ t12 <= t11 then
 let t13 : List Int := cutL q6.2.1 t12.toNat t11.toNat;
 some (t13, q6.2.1, t11, q6.2.2.2)
 else
 none)
 else
 none)) := (B0 ..).trans (by kernel_rfl)
theorem Z74_eq (x1 : List Int) (x2 : Int) (x3 : List Outline) (y4 : List Int) (y5 : Int) (y6 : List Outline) : Z74 x1 x2 x3 y4 y5 y6 =
 (if (decide (x1 = y4)) = true then
 (if (decide (x2 = y5)) = true then
 (Z29 x3 y6).bind fun q7 =>
 some q7
 else
 some false)
 else
 some false) := (B0 ..).trans (by kernel_rfl)
noncomputable def Z75l4 (s1 s2 : List Int) (v3 : Int) : Option ((Int) ⊕ ((Unit) ⊕ (Bool))) :=
 (if (decide (v3 < ((s1.length : Nat) : Int))) = true then
 (if 0 <= v3 ∧ v3 < (s1.length : Int) then
 (if 0 <= v3 ∧ v3 < (s2.length : Int) then
 (if (!decide (rd s1 v3 = rd s2 v3)) = true then
 some (Sum.inr (Sum.inr false))
 else
 let t4 := i64.wrap (v3 + 1);
 some (Sum.inl t4))
 else
 none)
 else
 none)
 else
 some (Sum.inr (Sum.inl ())))
theorem Z75_eq (s1 s2 : List Int) : Z75 s1 s2 =
 (if (!decide (((s1.length : Nat) : Int) = ((s2.length : Nat) : Int))) = true then
 some false
 else
 (loop (Z75l4 s1 s2) 0).bind (fun o10 =>
 (Sum.elim (fun (p8 : Unit) =>
 some true)
 (fun (v9 : Bool) =>
 some v9) o10))) := (B0 ..).trans (by kernel_rfl)
noncomputable def Z76l5 (s6 : Int × (List Int)) : Option ((Int × (List Int)) ⊕ ((List Int))) :=
 (if (decide (s6.1 > 0)) = true then
 let t9 : Int := s6.1.tmod 128;
 let t10 := u8.wrap t9;
 let t11 := u8.wrap (t10 + 128);
 (if (([t11] : List Int).length + s6.2.length) * 1 <= 140737488355328 then
 let t12 : List Int := ([t11] : List Int) ++ s6.2;
 let t13 := i64.wrap (s6.1.tdiv 128);
 some (Sum.inl (t13, t12))
 else
 none)
 else
 some (Sum.inr s6.2))
theorem Z76_eq (n1 : Int) : Z76 n1 =
 ((if (decide (n1 < 0)) = true then
 some true
 else
 some (decide (n1 > 2147483647))) : Option (Bool)).bind (fun v2 =>
 (if v2 = true then
 some (2, [])
 else
 let t3 : Int := n1.tmod 128;
 let t4 := u8.wrap t3;
 let t5 := i64.wrap (n1.tdiv 128);
 (loop (Z76l5) (t5, [t4])).bind (fun out14 =>
 some (0, out14)))) := (B0 ..).trans (by kernel_rfl)
noncomputable def Z77l3 (l1 : List Outline) (s3 : (List Int) × Int) : Option (((List Int) × Int) ⊕ ((List Int))) :=
 (if (decide (s3.2 < ((l1.length : Nat) : Int))) = true then
 (if 0 <= s3.2 then
 (l1[s3.2.toNat]?).bind fun e6 =>
 (Z109 ((e6.title.length : Nat) : Int)).bind fun q7 =>
 (Z109 e6.page).bind fun q8 =>
 (Z77 e6.kids).bind fun q9 =>
 (B108 [s3.1, q7, e6.title, q8, q9]).bind fun q10 =>
 let t11 := i64.wrap (s3.2 + 1);
 some (Sum.inl (q10, t11))
 else
 none)
 else
 some (Sum.inr s3.1))
theorem Z77_eq (l1 : List Outline) : Z77 l1 =
 (Z109 ((l1.length : Nat) : Int)).bind fun q2 =>
 (loop (Z77l3 l1) (q2, 0)).bind (fun out15 =>
 some out15) := (B0 ..).trans (by kernel_rfl)
theorem Z78_eq (text1 : List Int) : Z78 text1 =
 (if (decide (((text1.length : Nat) : Int) > 4000)) = true then
 some ([], 4)
 else
 (Z111 text1).bind fun q2 =>
 some (q2, 0)) := (B0 ..).trans (by kernel_rfl)
theorem Z79_eq (kind1 n2 : Int) : Z79 kind1 n2 =
 ((if (!decide (kind1 = 0)) = true then
 (if (!decide (kind1 = 1)) = true then
 some true
 else
 (if (decide (n2 < 0)) = true then
 some true
 else
 some (decide (n2 > 8192))))
 else
 (if (decide (n2 < 0)) = true then
 some true
 else
 some (decide (n2 > 8192)))) : Option (Bool)).bind (fun v3 =>
 (if v3 = true then
 some (0, 2, [])
 else
 (if 0 <= n2 ∧ n2 <= n2 ∧ ((8 : Nat) : Int) * n2 <= 281474976710656 then
 let t4 : List Int := List.replicate n2.toNat 0;
 some (kind1, 0, t4)
 else
 none))) := (B0 ..).trans (by kernel_rfl)
theorem Z80_eq (m1 : Int) (m2 : List Int) : Z80 m1 m2 =
 (Z112 m1 m2).bind fun q3 =>
 (if (!q3) = true then
 some (Sum.inr ())
 else
 (Z113 m1 m2).bind fun q4 =>
 some (Sum.inl (q4.1, q4.2.1, q4.2.2.1, q4.2.2.2, []))) := (B0 ..).trans (by kernel_rfl)
noncomputable def Z81l7 (l1 : List Int) (s4 : Int × (List Int) × (List Int)) : Option ((Int × (List Int) × (List Int)) ⊕ ((List Int) × (List Int))) :=
 (if (decide (s4.1 < ((l1.length : Nat) : Int))) = true then
 (if 0 <= s4.1 ∧ s4.1 < (l1.length : Int) then
 (Z116 s4.2.1 (rd l1 s4.1)).bind fun q8 =>
 (Z117 q8 s4.2.1).bind fun q9 =>
 (if (s4.2.2.length + ([q8] : List Int).length) * 8 <= 140737488355328 then
 let t12 : List Int := s4.2.2 ++ [q8];
 let t13 := i64.wrap (s4.1 + 1);
 some (Sum.inl (t13, q9.2, t12))
 else
 none)
 else
 none)
 else
 some (Sum.inr (s4.2.1, s4.2.2)))
theorem Z81_eq (l1 : List Int) : Z81 l1 =
 (Z114 l1).bind fun q2 =>
 (if (!decide (q2 = 0)) = true then
 some ([], q2)
 else
 (Z115).bind fun q3 =>
 (loop (Z81l7 l1) (0, q3, [])).bind (fun p19 =>
 some (p19.2, 0))) := (B0 ..).trans (by kernel_rfl)
theorem Z82_eq (last1 : Int) : Z82 last1 =
 (if (decide (last1 = 0)) = true then
 some 0
 else
 (if (decide (last1 <= 15)) = true then
 some 48
 else
 some 96)) := (B0 ..).trans (by kernel_rfl)
theorem Z83_eq (base1 : Int) (n2 : Bool) (n3 b4 b5 b6 : Int) (b7 b8 : List Int) : Z83 base1 n2 n3 b4 b5 b6 b7 b8 =
 (Z118 (-1) 0 b4 b5 b6 b7 b8).bind fun q9 =>
 (if (decide (q9.1 = 7)) = true then
 some (7, q9.2.1, q9.2.2.1, q9.2.2.2.1, q9.2.2.2.2.1, q9.2.2.2.2.2)
 else
 (Z119 n2 n3).bind fun q16 =>
 (if (!q16) = true then
 some (2, q9.2.1, q9.2.2.1, q9.2.2.2.1, q9.2.2.2.2.1, q9.2.2.2.2.2)
 else
 (Z120 q9.2.1 q9.2.2.1 q9.2.2.2.1 q9.2.2.2.2.1 q9.2.2.2.2.2).bind fun q17 =>
 (Z121 q17.1 q17.2.1 base1 48).bind fun q25 =>
 (if (!decide (q25 = 0)) = true then
 some (q25, q17.2.2.1, q17.2.2.2.1, q17.2.2.2.2.1, q17.2.2.2.2.2.1, q17.2.2.2.2.2.2)
 else
 (Z122 base1 n2 n3).bind fun q26 =>
 (Z123 q26 q17.2.2.1 q17.2.2.2.1 q17.2.2.2.2.1 q17.2.2.2.2.2.1 q17.2.2.2.2.2.2).bind fun q27 =>
 some (q27.1, q27.2.1, q27.2.2.1, q27.2.2.2.1, q27.2.2.2.2.1, q27.2.2.2.2.2)))) := (B0 ..).trans (by kernel_rfl)
noncomputable def Z84l10 (tr10 v15 : Int) (s22 : Int × (List Int)) : Option ((Int × (List Int)) ⊕ ((List Int))) :=
 (if (decide (s22.1 < v15)) = true then
 let t25 := i64.wrap (8 * s22.1);
 let t26 := i64.wrap (24 - t25);
 (if t26 < 0 then
 none
 else
 let t27 := ishr .u64 tr10 t26;
 let t28 := u8.wrap t27;
 (if (s22.2.length + ([t28] : List Int).length) * 1 <= 140737488355328 then
 let t29 : List Int := s22.2 ++ [t28];
 let t30 := i64.wrap (s22.1 + 1);
 some (Sum.inl (t30, t29))
 else
 none))
 else
 some (Sum.inr s22.2))
noncomputable def Z84l5 (tr9 tr10 : Int) (s14 : Int × (List Int)) : Option ((Int × (List Int)) ⊕ (((List Int)) ⊕ ((List Int)))) :=
 (if (decide (s14.1 < 5)) = true then
 let t17 := i64.wrap (8 * s14.1);
 let t18 := i64.wrap (32 - t17);
 let t19 := u64.wrap t18;
 (if t19 < 0 then
 none
 else
 let t20 := ishr .u64 tr10 t19;
 (if t19 < 0 then
 none
 else
 let t21 := ishl .u64 t20 t19;
 (if (decide (t21 ≥ tr9)) = true then
 (loop (Z84l10 tr10 s14.1) (0, s14.2)).bind (fun out34 =>
 some (Sum.inr (Sum.inr out34)))
 else
 let t35 := i64.wrap (s14.1 + 1);
 some (Sum.inl (t35, s14.2)))))
 else
 some (Sum.inr (Sum.inl s14.2)))
theorem Z84_eq (b1 b2 b3 : Int) (b4 b5 : List Int) : Z84 b1 b2 b3 b4 b5 =
 (Z124 b1 b2 b3 b4 b5).bind fun q6 =>
 let tr12 := q6.2.2.2.2.2;
 (if q6.1 = true then
 some ([], q6.2.1, q6.2.2.1, q6.2.2.2.1, q6.2.2.2.2.1, tr12)
 else
 (if (([] : List Int).length + tr12.length) * 1 <= 140737488355328 then
 let t13 : List Int := ([] : List Int) ++ tr12;
 (loop (Z84l5 q6.2.2.1 q6.2.2.2.1) (0, t13)).bind (fun o41 =>
 (Sum.elim (fun (out39 : (List Int)) =>
 some (out39, q6.2.1, q6.2.2.1, q6.2.2.2.1, q6.2.2.2.2.1, tr12))
 (fun (b40 : (List Int)) =>
 some (b40, q6.2.1, q6.2.2.1, q6.2.2.2.1, q6.2.2.2.2.1, tr12)) o41))
 else
 none)) := (B0 ..).trans (by kernel_rfl)
noncomputable def Z85l2 (l1 : List Chunk) (depth2 : Int) (s4 : Int × Int) : Option ((Int × Int) ⊕ ((Int) ⊕ (Bool × Int))) :=
 (if (decide (s4.1 < ((l1.length : Nat) : Int))) = true then
 (if 0 <= s4.1 then
 (l1[s4.1.toNat]?).bind fun e7 =>
 let t8 := i64.wrap (s4.2 + 1);
 ((if (decide (t8 > 400)) = true then
 some true
 else
 (if (decide (depth2 > 8)) = true then
 some true
 else
 (Z125 e7.id).bind fun q9 =>
 some (!q9))) : Option (Bool)).bind (fun v10 =>
 (if v10 = true then
 some (Sum.inr (Sum.inr (false, t8)))
 else
 (if (decide (e7.id = [70, 79, 82, 77])) = true then
 (Z126 e7.kind).bind fun q11 =>
 (if (!q11) = true then
 some (Sum.inr (Sum.inr (false, t8)))
 else
 (if (decide (((e7.data.length : Nat) : Int) > 0)) = true then
 some (Sum.inr (Sum.inr (false, t8)))
 else
 let t12 := i64.wrap (depth2 + 1);
 (Z85 e7.kids t12 t8).bind fun q13 =>
 (if (!q13.1) = true then
 some (Sum.inr (Sum.inr (false, q13.2)))
 else
 let t16 := i64.wrap (s4.1 + 1);
 some (Sum.inl (t16, q13.2)))))
 else
 (if (!decide (e7.kind = [])) = true then
 some (Sum.inr (Sum.inr (false, t8)))
 else
 (if (decide (((e7.kids.length : Nat) : Int) > 0)) = true then
 some (Sum.inr (Sum.inr (false, t8)))
 else
 let t17 := i64.wrap (s4.1 + 1);
 some (Sum.inl (t17, t8)))))))
 else
 none)
 else
 some (Sum.inr (Sum.inl s4.2)))
noncomputable def Z85l2_step (depth2 : Int) (i18 : Nat) (x19 : Chunk) (s20 : Int) : Option ((Int) ⊕ ((Int) ⊕ (Bool × Int))) :=
 let t8 := i64.wrap (s20 + 1);
 ((if (decide (t8 > 400)) = true then
 some true
 else
 (if (decide (depth2 > 8)) = true then
 some true
 else
 (Z125 x19.id).bind fun q9 =>
 some (!q9))) : Option (Bool)).bind (fun v10 =>
 (if v10 = true then
 some (Sum.inr (Sum.inr (false, t8)))
 else
 (if (decide (x19.id = [70, 79, 82, 77])) = true then
 (Z126 x19.kind).bind fun q11 =>
 (if (!q11) = true then
 some (Sum.inr (Sum.inr (false, t8)))
 else
 (if (decide (((x19.data.length : Nat) : Int) > 0)) = true then
 some (Sum.inr (Sum.inr (false, t8)))
 else
 let t12 := i64.wrap (depth2 + 1);
 (Z85 x19.kids t12 t8).bind fun q13 =>
 (if (!q13.1) = true then
 some (Sum.inr (Sum.inr (false, q13.2)))
 else
 some (Sum.inl (q13.2)))))
 else
 (if (!decide (x19.kind = [])) = true then
 some (Sum.inr (Sum.inr (false, t8)))
 else
 (if (decide (((x19.kids.length : Nat) : Int) > 0)) = true then
 some (Sum.inr (Sum.inr (false, t8)))
 else
 some (Sum.inl (t8)))))))
theorem Z85l2_over (l1 : List Chunk) (depth2 : Int) (hl : l1.length <= 9223372036854775807) (s20 : Int) : loop (Z85l2 l1 depth2) ((0, s20) : Int × Int) =
    overL (Z85l2_step depth2) (fun (s20 : Int) => some (Sum.inl s20)) 0 l1 s20 := by
  refine B28 l1 (fun n (s : Int) => ((((n : Nat) : Int), s) : Int × Int)) _ _ (fun s => ?_) (fun i x s h => ?_) 0 s20 (A30 _)
  . unfold Z85l2; simp
  . have hlt := B6 h
    have h1 : ((i : Nat) : Int) < ((l1.length : Nat) : Int) := by omega
    have h0 : (0 : Int) <= ((i : Nat) : Int) := by omega
    have hw : i64.wrap (((i : Nat) : Int) + 1) = (((i + 1 : Nat) : Nat) : Int) := w64 (by omega)
    unfold Z85l2 Z85l2_step
    simp only [h1, h0, hw, h, A8, A6, A31, A15, A12, A1, A56, Function.comp_def, B48, B36, A37, A52]
theorem Z85_eq (l1 : List Chunk) (depth2 b3 : Int) : Z85 l1 depth2 b3 =
 (loop (Z85l2 l1 depth2) (0, b3)).bind (fun o25 =>
 (Sum.elim (fun (b21 : Int) =>
 some (true, b21))
 (fun (p22 : Bool × Int) =>
 some (p22.1, p22.2)) o25)) := (B0 ..).trans (by kernel_rfl)
noncomputable def Z86l5 (c4 : List Chunk) (s5 : Int × Int) : Option ((Int × Int) ⊕ (Int)) :=
 (if (decide (s5.2 < ((c4.length : Nat) : Int))) = true then
 (if 0 <= s5.2 then
 (c4[s5.2.toNat]?).bind fun e8 =>
 (Z57 e8.id e8.kind e8.data e8.kids).bind fun q9 =>
 let t10 := i64.wrap (s5.1 + q9);
 let t11 := i64.wrap (s5.2 + 1);
 some (Sum.inl (t10, t11))
 else
 none)
 else
 some (Sum.inr s5.1))
noncomputable def Z86l5_step (i12 : Nat) (x13 : Chunk) (s14 : Int) : Option ((Int) ⊕ (Int)) :=
 (Z57 x13.id x13.kind x13.data x13.kids).bind fun q9 =>
 let t10 := i64.wrap (s14 + q9);
 some (Sum.inl (t10))
theorem Z86l5_over (c4 : List Chunk) (hl : c4.length <= 9223372036854775807) (s14 : Int) : loop (Z86l5 c4) ((s14, 0) : Int × Int) =
    overL (Z86l5_step) (fun (s14 : Int) => some s14) 0 c4 s14 := by
  refine B28 c4 (fun n (s : Int) => ((s, ((n : Nat) : Int)) : Int × Int)) _ _ (fun s => ?_) (fun i x s h => ?_) 0 s14 (A30 _)
  . unfold Z86l5; simp
  . have hlt := B6 h
    have h1 : ((i : Nat) : Int) < ((c4.length : Nat) : Int) := by omega
    have h0 : (0 : Int) <= ((i : Nat) : Int) := by omega
    have hw : i64.wrap (((i : Nat) : Int) + 1) = (((i + 1 : Nat) : Nat) : Int) := w64 (by omega)
    unfold Z86l5 Z86l5_step
    simp only [h1, h0, hw, h, A8, A6, A31, A15, A12, A1, A56, Function.comp_def, B48, B36, A37, A52]
theorem Z86_eq (c1 c2 c3 : List Int) (c4 : List Chunk) : Z86 c1 c2 c3 c4 =
 (if (!decide (c1 = [70, 79, 82, 77])) = true then
 some ((c3.length : Nat) : Int)
 else
 (loop (Z86l5 c4) (4, 0)).bind (fun n15 =>
 some n15)) := (B0 ..).trans (by kernel_rfl)
noncomputable def Z87l5 (s6 : Int × (List Int)) : Option ((Int × (List Int)) ⊕ ((List Int))) :=
 (if (decide (s6.1 > 0)) = true then
 let t9 : Int := s6.1.tmod 128;
 let t10 := i64.wrap (128 + t9);
 let t11 := u8.wrap t10;
 (if (([t11] : List Int).length + s6.2.length) * 1 <= 140737488355328 then
 let t12 : List Int := ([t11] : List Int) ++ s6.2;
 let t13 := i64.wrap (s6.1.tdiv 128);
 some (Sum.inl (t13, t12))
 else
 none)
 else
 some (Sum.inr s6.2))
theorem Z87_eq (n1 : Int) : Z87 n1 =
 ((if (decide (n1 < 0)) = true then
 some true
 else
 some (decide (n1 > 2147483647))) : Option (Bool)).bind (fun v2 =>
 (if v2 = true then
 some (2, [])
 else
 let t3 : Int := n1.tmod 128;
 let t4 := u8.wrap t3;
 let t5 := i64.wrap (n1.tdiv 128);
 (loop (Z87l5) (t5, [t4])).bind (fun out14 =>
 some (0, out14)))) := (B0 ..).trans (by kernel_rfl)
noncomputable def Z88l3 (l1 : List Outline) (s5 : Int × (List Int)) : Option ((Int × (List Int)) ⊕ ((List Int))) :=
 let i6 := s5.1;
 (if (decide (i6 < ((l1.length : Nat) : Int))) = true then
 (if 0 <= i6 then
 (l1[i6.toNat]?).bind fun e8 =>
 (Z87 ((e8.title.length : Nat) : Int)).bind fun q9 =>
 (if 0 <= i6 then
 (l1[i6.toNat]?).bind fun e12 =>
 (Z87 e12.page).bind fun q13 =>
 (if (s5.2.length + q9.2.length) * 1 <= 140737488355328 then
 let t16 : List Int := s5.2 ++ q9.2;
 (if 0 <= i6 then
 (l1[i6.toNat]?).bind fun e17 =>
 (if (t16.length + e17.title.length) * 1 <= 140737488355328 then
 let t18 : List Int := t16 ++ e17.title;
 (if (t18.length + q13.2.length) * 1 <= 140737488355328 then
 let t19 : List Int := t18 ++ q13.2;
 (if 0 <= i6 then
 (l1[i6.toNat]?).bind fun e20 =>
 (Z88 e20.kids).bind fun q21 =>
 (if (t19.length + q21.length) * 1 <= 140737488355328 then
 let t22 : List Int := t19 ++ q21;
 let t23 := i64.wrap (i6 + 1);
 some (Sum.inl (t23, t22))
 else
 none)
 else
 none)
 else
 none)
 else
 none)
 else
 none)
 else
 none)
 else
 none)
 else
 none)
 else
 some (Sum.inr s5.2))
theorem Z88_eq (l1 : List Outline) : Z88 l1 =
 (Z87 ((l1.length : Nat) : Int)).bind fun q2 =>
 (loop (Z88l3 l1) (0, q2.2)).bind (fun out27 =>
 some out27) := (B0 ..).trans (by kernel_rfl)
noncomputable def Z89l6 (text1 tr3 : List Int) (s5 : Int × (List Int)) : Option ((Int × (List Int)) ⊕ ((List Int))) :=
 let i6 := s5.1;
 (if (decide (i6 < ((tr3.length : Nat) : Int))) = true then
 (if 0 <= i6 ∧ i6 < (tr3.length : Int) then
 (if (decide (rd tr3 i6 = 0)) = true then
 (if (s5.2.length + ([0] : List Int).length) * 8 <= 140737488355328 then
 let t8 : List Int := s5.2 ++ [0];
 let t9 := i64.wrap (i6 + 1);
 some (Sum.inl (t9, t8))
 else
 none)
 else
 (if 0 <= i6 ∧ i6 < (tr3.length : Int) then
 let t10 := i64.wrap (rd tr3 i6 - 1);
 (if 0 <= t10 ∧ t10 < (text1.length : Int) then
 let t11 := i64.wrap (rd text1 t10);
 let t12 := i64.wrap (1 + t11);
 (if (s5.2.length + ([t12] : List Int).length) * 8 <= 140737488355328 then
 let t13 : List Int := s5.2 ++ [t12];
 let t14 := i64.wrap (i6 + 1);
 some (Sum.inl (t14, t13))
 else
 none)
 else
 none)
 else
 none))
 else
 none)
 else
 some (Sum.inr s5.2))
theorem Z89_eq (text1 : List Int) : Z89 text1 =
 (Z127 text1).bind fun q2 =>
 (if (!decide (q2.2 = 0)) = true then
 some ([], q2.2)
 else
 (loop (Z89l6 text1 q2.1) (0, [])).bind (fun out18 =>
 some (out18, 0))) := (B0 ..).trans (by kernel_rfl)
noncomputable def Z90l10 (l1 list5 : List Int) (i6 at8 : Int) : Option ((Int) ⊕ (Int)) :=
 (if 0 <= at8 ∧ at8 < (list5.length : Int) then
 (if 0 <= i6 ∧ i6 < (l1.length : Int) then
 (if (!decide (rd list5 at8 = rd l1 i6)) = true then
 let t9 := i64.wrap (at8 + 1);
 some (Sum.inl t9)
 else
 some (Sum.inr at8))
 else
 none)
 else
 none)
noncomputable def Z90l7 (l1 : List Int) (s4 : (List Int) × Int × (List Int)) : Option (((List Int) × Int × (List Int)) ⊕ ((List Int))) :=
 (if (decide (s4.2.1 < ((l1.length : Nat) : Int))) = true then
 (loop (Z90l10 l1 s4.1 s4.2.1) 0).bind (fun at10 =>
 (if (s4.2.2.length + ([at10] : List Int).length) * 8 <= 140737488355328 then
 let t11 : List Int := s4.2.2 ++ [at10];
 (Z130 s4.1 at10).bind fun q12 =>
 let t13 := i64.wrap (s4.2.1 + 1);
 some (Sum.inl (q12, t13, t11))
 else
 none))
 else
 some (Sum.inr s4.2.2))
theorem Z90_eq (l1 : List Int) : Z90 l1 =
 (Z128 l1).bind fun q2 =>
 (if (!decide (q2 = 0)) = true then
 some ([], q2)
 else
 (Z129).bind fun q3 =>
 (loop (Z90l7 l1) (q3, 0, [])).bind (fun out19 =>
 some (out19, 0))) := (B0 ..).trans (by kernel_rfl)
theorem Z91_eq (kind1 n2 : Int) : Z91 kind1 n2 =
 ((if (!decide (kind1 = 0)) = true then
 (if (!decide (kind1 = 1)) = true then
 some true
 else
 (if (decide (n2 < 0)) = true then
 some true
 else
 some (decide (n2 > 8192))))
 else
 (if (decide (n2 < 0)) = true then
 some true
 else
 some (decide (n2 > 8192)))) : Option (Bool)).bind (fun v3 =>
 (if v3 = true then
 some (0, 2, [])
 else
 (if 0 <= n2 ∧ n2 <= n2 ∧ ((8 : Nat) : Int) * n2 <= 281474976710656 then
 let t4 : List Int := List.replicate n2.toNat 0;
 some (kind1, 0, t4)
 else
 none))) := (B0 ..).trans (by kernel_rfl)
theorem Z92_eq (m1 : Int) (m2 : List Int) : Z92 m1 m2 =
 (Z131 m1 m2).bind fun q3 =>
 (if (!q3) = true then
 some (Sum.inr ())
 else
 (Z132 m1 m2).bind fun q4 =>
 (Z133).bind fun q7 =>
 some (Sum.inl (q4.1, q7.1, q7.2, q4.2, []))) := (B0 ..).trans (by kernel_rfl)
theorem Z93_eq (was1 : Int) : Z93 was1 =
 (if (decide (was1 = 0)) = true then
 some 0
 else
 (if (decide (was1 < 16)) = true then
 some 48
 else
 some 96)) := (B0 ..).trans (by kernel_rfl)
noncomputable def Z94l5 (base1 : Int) (q26 : (List Event)) (s27 : Int × Int × Int × Int × (List Int) × (List Int)) : Option ((Int × Int × Int × Int × (List Int) × (List Int)) ⊕ (Int × Int × Int × (List Int) × (List Int))) :=
 (if (decide (s27.1 < ((q26.length : Nat) : Int))) = true then
 (if 0 <= s27.1 then
 (q26[s27.1.toNat]?).bind fun e34 =>
 let t35 := i64.wrap (base1 + e34.ctx);
 (if 0 <= s27.1 then
 (q26[s27.1.toNat]?).bind fun e36 =>
 (Z138 t35 e36.bit s27.2.1 s27.2.2.1 s27.2.2.2.1 s27.2.2.2.2.1 s27.2.2.2.2.2).bind fun q37 =>
 let t44 := i64.wrap (s27.1 + 1);
 some (Sum.inl (t44, q37.2.1, q37.2.2.1, q37.2.2.2.1, q37.2.2.2.2.1, q37.2.2.2.2.2))
 else
 none)
 else
 none)
 else
 some (Sum.inr (s27.2.1, s27.2.2.1, s27.2.2.2.1, s27.2.2.2.2.1, s27.2.2.2.2.2)))
theorem Z94_eq (base1 : Int) (n2 : Bool) (n3 b4 b5 b6 : Int) (b7 b8 : List Int) : Z94 base1 n2 n3 b4 b5 b6 b7 b8 =
 ((Z134 n2 n3).bind fun q9 =>
 (if (!q9) = true then
 some (true, b4, b5, b6, b7, b8)
 else
 (Z135 b4 b5 b6 b7 b8).bind fun q10 =>
 (Z136 ((q10.2.1.length : Nat) : Int) base1 48).bind fun q18 =>
 some (!q18, q10.2.2.1, q10.2.2.2.1, q10.2.2.2.2.1, q10.2.2.2.2.2.1, q10.2.2.2.2.2.2)) : Option (Bool × Int × Int × Int × (List Int) × (List Int))).bind (fun p19 =>
 (if p19.1 = true then
 some (2, p19.2.1, p19.2.2.1, p19.2.2.2.1, p19.2.2.2.2.1, p19.2.2.2.2.2)
 else
 (Z137 n2 n3).bind fun q26 =>
 (loop (Z94l5 base1 q26) (0, p19.2.1, p19.2.2.1, p19.2.2.2.1, p19.2.2.2.2.1, p19.2.2.2.2.2)).bind (fun p45 =>
 some (0, p45.1, p45.2.1, p45.2.2.1, p45.2.2.2.1, p45.2.2.2.2)))) := (B0 ..).trans (by kernel_rfl)
theorem Z95_eq (b1 b2 b3 : Int) (b4 b5 : List Int) : Z95 b1 b2 b3 b4 b5 =
 (if (([] : List Int).length + b5.length) * 1 <= 140737488355328 then
 let t6 : List Int := ([] : List Int) ++ b5;
 (Z139 b2 b3).bind fun q7 =>
 (if (t6.length + q7.length) * 1 <= 140737488355328 then
 let t8 : List Int := t6 ++ q7;
 some (t8, b1, b2, b3, b4, b5)
 else
 none)
 else
 none) := (B0 ..).trans (by kernel_rfl)
noncomputable def Z96l8 (c4 : List Chunk) (v9 : Int) : Option ((Int) ⊕ ((Unit) ⊕ (Bool))) :=
 (if (decide (v9 < ((c4.length : Nat) : Int))) = true then
 (if 0 <= v9 then
 (c4[v9.toNat]?).bind fun e10 =>
 (Z96 e10.id e10.kind e10.data e10.kids).bind fun q11 =>
 (if (!q11) = true then
 some (Sum.inr (Sum.inr false))
 else
 let t12 := i64.wrap (v9 + 1);
 some (Sum.inl t12))
 else
 none)
 else
 some (Sum.inr (Sum.inl ())))
noncomputable def Z96l8_step (i13 : Nat) (x14 : Chunk) (s15 : Unit) : Option ((Unit) ⊕ ((Unit) ⊕ (Bool))) :=
 (Z96 x14.id x14.kind x14.data x14.kids).bind fun q11 =>
 (if (!q11) = true then
 some (Sum.inr (Sum.inr false))
 else
 some (Sum.inl (())))
theorem Z96l8_over (c4 : List Chunk) (hl : c4.length <= 9223372036854775807) (s15 : Unit) : loop (Z96l8 c4) (0 : Int) =
    overL (Z96l8_step) (fun (s15 : Unit) => some (Sum.inl ())) 0 c4 s15 := by
  refine B28 c4 (fun n (s : Unit) => (((n : Nat) : Int) : Int)) _ _ (fun s => ?_) (fun i x s h => ?_) 0 s15 (A30 _)
  . unfold Z96l8; simp
  . have hlt := B6 h
    have h1 : ((i : Nat) : Int) < ((c4.length : Nat) : Int) := by omega
    have h0 : (0 : Int) <= ((i : Nat) : Int) := by omega
    have hw : i64.wrap (((i : Nat) : Int) + 1) = (((i + 1 : Nat) : Nat) : Int) := w64 (by omega)
    unfold Z96l8 Z96l8_step
    simp only [h1, h0, hw, h, A8, A6, A31, A15, A12, A1, A56, Function.comp_def, B48, B36, A37, A52]
theorem Z96_eq (c1 c2 c3 : List Int) (c4 : List Chunk) : Z96 c1 c2 c3 c4 =
 (Z140 c1).bind fun q5 =>
 (if (!q5) = true then
 some false
 else
 (if (!decide (c1 = [70, 79, 82, 77])) = true then
 ((if (decide (c2 = [])) = true then
 some (decide (((c4.length : Nat) : Int) = 0))
 else
 some false) : Option (Bool)).bind (fun v6 =>
 some v6)
 else
 ((Z140 c2).bind fun q7 =>
 (if (!q7) = true then
 some true
 else
 (if (decide (c2 = [70, 79, 82, 77])) = true then
 some true
 else
 some (decide (((c3.length : Nat) : Int) > 0)))) : Option (Bool)).bind (fun v8 =>
 (if v8 = true then
 some false
 else
 (loop (Z96l8 c4) 0).bind (fun o18 =>
 (Sum.elim (fun (p16 : Unit) =>
 some true)
 (fun (v17 : Bool) =>
 some v17) o18)))))) := (B0 ..).trans (by kernel_rfl)
noncomputable def Z97l2 (l1 : List Chunk) (s2 : Int × Int × Int) : Option ((Int × Int × Int) ⊕ (Int × Int)) :=
 (if (decide (s2.2.2 < ((l1.length : Nat) : Int))) = true then
 (if 0 <= s2.2.2 then
 (l1[s2.2.2.toNat]?).bind fun e6 =>
 (Z97 e6.kids).bind fun q7 =>
 let t10 := i64.wrap (q7.1 + 1);
 let t11 := i64.wrap (s2.1 + t10);
 let t12 := i64.wrap (q7.2 + 1);
 let t13 := imax s2.2.1 t12;
 let t14 := i64.wrap (s2.2.2 + 1);
 some (Sum.inl (t11, t13, t14))
 else
 none)
 else
 some (Sum.inr (s2.1, s2.2.1)))
noncomputable def Z97l2_step (i15 : Nat) (x16 : Chunk) (s17 : Int × Int) : Option ((Int × Int) ⊕ (Int × Int)) :=
 (Z97 x16.kids).bind fun q7 =>
 let t10 := i64.wrap (q7.1 + 1);
 let t11 := i64.wrap (s17.1 + t10);
 let t12 := i64.wrap (q7.2 + 1);
 let t13 := imax s17.2 t12;
 some (Sum.inl ((t11, t13)))
theorem Z97l2_over (l1 : List Chunk) (hl : l1.length <= 9223372036854775807) (s17 : Int × Int) : loop (Z97l2 l1) ((s17.1, s17.2, 0) : Int × Int × Int) =
    overL (Z97l2_step) (fun (s17 : Int × Int) => let all18 := s17.1; let deep19 := s17.2; some (all18, deep19)) 0 l1 s17 := by
  refine B28 l1 (fun n (s : Int × Int) => ((s.1, s.2, ((n : Nat) : Int)) : Int × Int × Int)) _ _ (fun s => ?_) (fun i x s h => ?_) 0 s17 (A30 _)
  . unfold Z97l2; simp
  . have hlt := B6 h
    have h1 : ((i : Nat) : Int) < ((l1.length : Nat) : Int) := by omega
    have h0 : (0 : Int) <= ((i : Nat) : Int) := by omega
    have hw : i64.wrap (((i : Nat) : Int) + 1) = (((i + 1 : Nat) : Nat) : Int) := w64 (by omega)
    unfold Z97l2 Z97l2_step
    simp only [h1, h0, hw, h, A8, A6, A31, A15, A12, A1, A56, Function.comp_def, B48, B36, A37, A52]
theorem Z97_eq (l1 : List Chunk) : Z97 l1 =
 (loop (Z97l2 l1) (0, 0, 0)).bind (fun p20 =>
 some (p20.1, p20.2)) := (B0 ..).trans (by kernel_rfl)
theorem Z98_eq (at1 end2 : Int) (b3 : List Int) (b4 b5 b6 : Int) : Z98 at1 end2 b3 b4 b5 b6 =
 let t7 := i64.wrap (end2 - at1);
 (Z99 (decide (t7 ≥ 4)) 6 at1 b3 b4 b5 b6).bind fun q8 =>
 (if (!q8.1) = true then
 some ([], q8.2.1, q8.2.2.1, q8.2.2.2.1, q8.2.2.2.2)
 else
 let t14 := i64.wrap (at1 + 4);
 (if 0 <= t14 ∧ t14 <= ((q8.2.1.length : Nat) : Int) then
 (if 0 <= at1 ∧ at1 <= t14 then
 let t15 : List Int := cutL q8.2.1 at1.toNat t14.toNat;
 (Z125 t15).bind fun q16 =>
 (Z99 q16 3 at1 q8.2.1 q8.2.2.1 q8.2.2.2.1 q8.2.2.2.2).bind fun q17 =>
 some (t15, q17.2.1, q17.2.2.1, q17.2.2.2.1, q17.2.2.2.2)
 else
 none)
 else
 none)) := (B0 ..).trans (by kernel_rfl)
theorem Z99_eq (ok1 : Bool) (err2 at3 : Int) (b4 : List Int) (b5 b6 b7 : Int) : Z99 ok1 err2 at3 b4 b5 b6 b7 =
 ((if (decide (b6 = 0)) = true then
 some (!ok1)
 else
 some false) : Option (Bool)).bind (fun v8 =>
 (if v8 = true then
 some (decide (err2 = 0), b4, b5, err2, at3)
 else
 some (decide (b6 = 0), b4, b5, b6, b7))) := (B0 ..).trans (by kernel_rfl)
theorem Z100_eq (at1 end2 : Int) (b3 : List Int) (b4 b5 b6 : Int) : Z100 at1 end2 b3 b4 b5 b6 =
 let t7 := i64.wrap (end2 - at1);
 (Z99 (decide (t7 ≥ 4)) 6 at1 b3 b4 b5 b6).bind fun q8 =>
 (if (!q8.1) = true then
 some ([], q8.2.1, q8.2.2.1, q8.2.2.2.1, q8.2.2.2.2)
 else
 let t14 := i64.wrap (at1 + 4);
 (if 0 <= t14 ∧ t14 <= ((q8.2.1.length : Nat) : Int) then
 (if 0 <= at1 ∧ at1 <= t14 then
 let t15 : List Int := cutL q8.2.1 at1.toNat t14.toNat;
 (Z126 t15).bind fun q16 =>
 (Z99 q16 3 at1 q8.2.1 q8.2.2.1 q8.2.2.2.1 q8.2.2.2.2).bind fun q17 =>
 some (t15, q17.2.1, q17.2.2.1, q17.2.2.2.1, q17.2.2.2.2)
 else
 none)
 else
 none)) := (B0 ..).trans (by kernel_rfl)
theorem Z101_eq (b1 : List Int) : Z101 b1 =
 (if b1.length = 0 then
 (demon
 (some [])
 ((if (([] : List Int).length + b1.length) * 1 <= 140737488355328 then
 let t2 : List Int := ([] : List Int) ++ b1;
 some t2
 else
 none)))
 else
 (if (([] : List Int).length + b1.length) * 1 <= 140737488355328 then
 let t3 : List Int := ([] : List Int) ++ b1;
 some t3
 else
 none)) := (B0 ..).trans (by kernel_rfl)
theorem Z102_eq (x1 x2 x3 : List Int) (x4 : List Chunk) : Z102 x1 x2 x3 x4 =
 some (!decide (x1 = [70, 73, 76, 69])) := (B0 ..).trans (by kernel_rfl)
noncomputable def Z103l4 (b1 : List Int) (at2 : Int) (s4 : Int × Int) : Option ((Int × Int) ⊕ ((Unit) ⊕ (Int × Int × Int))) :=
 (if (decide (s4.2 < 5)) = true then
 let t7 := i64.wrap (at2 + s4.2);
 (if (decide (t7 ≥ ((b1.length : Nat) : Int))) = true then
 some (Sum.inr (Sum.inr (0, 0, 6)))
 else
 let t8 := i64.wrap (at2 + s4.2);
 (if 0 <= t8 ∧ t8 < (b1.length : Int) then
 let t9 := i64.wrap (rd b1 t8);
 let t10 := i64.wrap (s4.1 * 128);
 let t11 : Int := t9.tmod 128;
 let t12 := i64.wrap (t10 + t11);
 (if (decide (t9 < 128)) = true then
 ((if (decide (t12 > 2147483647)) = true then
 some true
 else
 (if (decide (s4.2 > 0)) = true then
 (if 0 <= at2 ∧ at2 < (b1.length : Int) then
 some (decide (rd b1 at2 = 128))
 else
 none)
 else
 some false)) : Option (Bool)).bind (fun v13 =>
 (if v13 = true then
 some (Sum.inr (Sum.inr (0, 0, 3)))
 else
 let t14 := i64.wrap (at2 + s4.2);
 let t15 := i64.wrap (t14 + 1);
 some (Sum.inr (Sum.inr (t12, t15, 0)))))
 else
 let t16 := i64.wrap (s4.2 + 1);
 some (Sum.inl (t12, t16)))
 else
 none))
 else
 some (Sum.inr (Sum.inl ())))
theorem Z103_eq (b1 : List Int) (at2 : Int) : Z103 b1 at2 =
 ((if (decide (at2 < 0)) = true then
 some true
 else
 some (decide (at2 > ((b1.length : Nat) : Int)))) : Option (Bool)).bind (fun v3 =>
 (if v3 = true then
 some (0, 0, 2)
 else
 (loop (Z103l4 b1 at2) (0, 0)).bind (fun o25 =>
 (Sum.elim (fun (p20 : Unit) =>
 some (0, 0, 3))
 (fun (p21 : Int × Int × Int) =>
 some (p21.1, p21.2.1, p21.2.2)) o25)))) := (B0 ..).trans (by kernel_rfl)
noncomputable def Z104l5 (s11 : Int × (List Int) × (List Int) × Int × Int × Int × Int × Int × Int) : Option ((Int × (List Int) × (List Int) × Int × Int × Int × Int × Int × Int) ⊕ ((List Int) × (List Int) × Int × Int × Int × Int × Int × Int)) :=
 (if (decide (s11.1 < 4)) = true then
 (Z141 s11.2.2.2.1 s11.2.2.2.2.1 s11.2.2.2.2.2.1 s11.2.2.2.2.2.2.1 s11.2.2.2.2.2.2.2.1 s11.2.2.2.2.2.2.2.2 s11.2.1 s11.2.2.1).bind fun q21 =>
 let t30 := i64.wrap (s11.1 + 1);
 some (Sum.inl (t30, q21.2.2.2.2.2.2.1, q21.2.2.2.2.2.2.2, q21.1, q21.2.1, q21.2.2.1, q21.2.2.2.1, q21.2.2.2.2.1, q21.2.2.2.2.2.1))
 else
 some (Sum.inr (s11.2.1, s11.2.2.1, s11.2.2.2.1, s11.2.2.2.2.1, s11.2.2.2.2.2.1, s11.2.2.2.2.2.2.1, s11.2.2.2.2.2.2.2.1, s11.2.2.2.2.2.2.2.2)))
theorem Z104_eq (m1 : Int) (m2 b3 : List Int) : Z104 m1 m2 b3 =
 (Z112 m1 m2).bind fun q4 =>
 (if (!q4) = true then
 some (Sum.inr ())
 else
 (Z113 m1 m2).bind fun q5 =>
 (if (([] : List Int).length + b3.length) * 1 <= 140737488355328 then
 let t10 : List Int := ([] : List Int) ++ b3;
 (loop (Z104l5) (0, q5.2.2.2, t10, q5.1, q5.2.1, q5.2.2.1, 0, 0, 0)).bind (fun p42 =>
 some (Sum.inl (p42.2.2.1, p42.2.2.2.1, p42.2.2.2.2.1, p42.2.1, p42.2.2.2.2.2.1, p42.2.2.2.2.2.2.1, p42.2.2.2.2.2.2.2, false, p42.1)))
 else
 none)) := (B0 ..).trans (by kernel_rfl)
theorem Z105_eq (base1 b2 b3 b4 : Int) (b5 : List Int) (b6 b7 b8 : Int) (b9 : Bool) (b10 : List Int) : Z105 base1 b2 b3 b4 b5 b6 b7 b8 b9 b10 =
 (Z142 (-1) b2 b3 b4 b5 b6 b7 b8 b9 b10).bind fun q11 =>
 let tr21 := q11.2.2.2.2.2.2.2.2.2.1;
 let tr22 := q11.2.2.2.2.2.2.2.2.2.2;
 (if (decide (q11.2.1 = 7)) = true then
 some (false, 0, q11.2.1, q11.2.2.1, q11.2.2.2.1, q11.2.2.2.2.1, q11.2.2.2.2.2.1, q11.2.2.2.2.2.2.1, q11.2.2.2.2.2.2.2.1, q11.2.2.2.2.2.2.2.2.1, tr21, tr22)
 else
 (Z143 q11.2.2.1 q11.2.2.2.1 q11.2.2.2.2.1 q11.2.2.2.2.2.1 q11.2.2.2.2.2.2.1 q11.2.2.2.2.2.2.2.1 q11.2.2.2.2.2.2.2.2.1 tr21 tr22).bind fun q23 =>
 let tr33 := q23.2.2.2.2.2.2.2.2.2.1;
 let tr34 := q23.2.2.2.2.2.2.2.2.2.2;
 (Z121 q23.1 q23.2.1 base1 48).bind fun q35 =>
 (if (!decide (q35 = 0)) = true then
 some (false, 0, q35, q23.2.2.1, q23.2.2.2.1, q23.2.2.2.2.1, q23.2.2.2.2.2.1, q23.2.2.2.2.2.2.1, q23.2.2.2.2.2.2.2.1, q23.2.2.2.2.2.2.2.2.1, tr33, tr34)
 else
 (Z144 base1 q23.2.2.1 q23.2.2.2.1 q23.2.2.2.2.1 q23.2.2.2.2.2.1 q23.2.2.2.2.2.2.1 q23.2.2.2.2.2.2.2.1 q23.2.2.2.2.2.2.2.2.1 tr33 tr34).bind fun q36 =>
 some (q36.1, q36.2.1, q36.2.2.1, q36.2.2.2.1, q36.2.2.2.2.1, q36.2.2.2.2.2.1, q36.2.2.2.2.2.2.1, q36.2.2.2.2.2.2.2.1, q36.2.2.2.2.2.2.2.2.1, q36.2.2.2.2.2.2.2.2.2.1, q36.2.2.2.2.2.2.2.2.2.2.1, q36.2.2.2.2.2.2.2.2.2.2.2))) := (B0 ..).trans (by kernel_rfl)
noncomputable def Z106l7 (l1 : List Int) (s4 : Int × (List Int) × (List Int)) : Option ((Int × (List Int) × (List Int)) ⊕ ((List Int) × (List Int))) :=
 (if (decide (s4.1 < ((l1.length : Nat) : Int))) = true then
 (if 0 <= s4.1 ∧ s4.1 < (l1.length : Int) then
 (Z117 (rd l1 s4.1) s4.2.1).bind fun q8 =>
 (if (s4.2.2.length + ([q8.1] : List Int).length) * 8 <= 140737488355328 then
 let t11 : List Int := s4.2.2 ++ [q8.1];
 let t12 := i64.wrap (s4.1 + 1);
 some (Sum.inl (t12, q8.2, t11))
 else
 none)
 else
 none)
 else
 some (Sum.inr (s4.2.1, s4.2.2)))
theorem Z106_eq (l1 : List Int) : Z106 l1 =
 (Z114 l1).bind fun q2 =>
 (if (!decide (q2 = 0)) = true then
 some ([], q2)
 else
 (Z115).bind fun q3 =>
 (loop (Z106l7 l1) (0, q3, [])).bind (fun p18 =>
 some (p18.2, 0))) := (B0 ..).trans (by kernel_rfl)
noncomputable def Z107l3 (l1 : List Int) (s4 : Int × (List Int)) : Option ((Int × (List Int)) ⊕ ((List Int))) :=
 (if (decide (s4.1 < ((l1.length : Nat) : Int))) = true then
 (if 0 <= s4.1 ∧ s4.1 < (l1.length : Int) then
 let t7 := i64.wrap (rd l1 s4.1 + 1);
 (if 0 <= t7 ∧ t7 < ((258 : Nat) : Int) ∧ t7 < (s4.2.length : Int) then
 let t8 : Int := rd s4.2 t7;
 let t9 := i64.wrap (t8 + 1);
 (if 0 <= t7 ∧ t7 < ((258 : Nat) : Int) ∧ t7 < (s4.2.length : Int) then
 let w10 : List Int := s4.2.set t7.toNat t9;
 let t11 := i64.wrap (s4.1 + 1);
 some (Sum.inl (t11, w10))
 else
 none)
 else
 none)
 else
 none)
 else
 some (Sum.inr s4.2))
noncomputable def Z107l10 (s17 : Int × (List Int)) : Option ((Int × (List Int)) ⊕ ((List Int))) :=
 (if (decide (s17.1 < 257)) = true then
 let t20 := i64.wrap (s17.1 + 1);
 (if 0 <= t20 ∧ t20 < ((258 : Nat) : Int) ∧ t20 < (s17.2.length : Int) then
 let t21 : Int := rd s17.2 t20;
 (if 0 <= s17.1 ∧ s17.1 < ((258 : Nat) : Int) ∧ s17.1 < (s17.2.length : Int) then
 let t22 : Int := rd s17.2 s17.1;
 let t23 := i64.wrap (t21 + t22);
 (if 0 <= t20 ∧ t20 < ((258 : Nat) : Int) ∧ t20 < (s17.2.length : Int) then
 let w24 : List Int := s17.2.set t20.toNat t23;
 let t25 := i64.wrap (s17.1 + 1);
 some (Sum.inl (t25, w24))
 else
 none)
 else
 none)
 else
 none)
 else
 some (Sum.inr s17.2))
noncomputable def Z107l16 (l1 : List Int) (b29 : (List Int)) (s31 : Int × (List Int) × (List Int)) : Option ((Int × (List Int) × (List Int)) ⊕ ((List Int) × (List Int))) :=
 let v32 := s31.1;
 let b33 := s31.2.1;
 (if (decide (v32 < ((l1.length : Nat) : Int))) = true then
 (if 0 <= v32 ∧ v32 < (l1.length : Int) then
 (if 0 <= rd l1 v32 ∧ rd l1 v32 < ((258 : Nat) : Int) ∧ rd l1 v32 < (b29.length : Int) then
 let t35 : Int := rd b29 (rd l1 v32);
 (if 0 <= rd l1 v32 ∧ rd l1 v32 < ((258 : Nat) : Int) ∧ rd l1 v32 < (b33.length : Int) then
 let t36 : Int := rd b33 (rd l1 v32);
 let t37 := i64.wrap (t35 + t36);
 (if 0 <= v32 ∧ v32 < (s31.2.2.length : Int) then
 let w38 : List Int := s31.2.2.set v32.toNat t37;
 (if 0 <= rd l1 v32 ∧ rd l1 v32 < ((258 : Nat) : Int) ∧ rd l1 v32 < (b33.length : Int) then
 let t39 : Int := rd b33 (rd l1 v32);
 let t40 := i64.wrap (t39 + 1);
 (if 0 <= rd l1 v32 ∧ rd l1 v32 < ((258 : Nat) : Int) ∧ rd l1 v32 < (b33.length : Int) then
 let w41 : List Int := b33.set (rd l1 v32).toNat t40;
 let t42 := i64.wrap (v32 + 1);
 some (Sum.inl (t42, w41, w38))
 else
 none)
 else
 none)
 else
 none)
 else
 none)
 else
 none)
 else
 none)
 else
 some (Sum.inr (b33, s31.2.2)))
noncomputable def Z107l25 (l1 b50 : List Int) (s55 : Int × (List Int) × Int × (List Int) × Int) : Option ((Int × (List Int) × Int × (List Int) × Int) ⊕ (((List Int) × Int × (List Int) × Int) ⊕ ((List Int) × Int × (List Int) × Int))) :=
 let b59 := s55.2.2.2.1;
 let b60 := s55.2.2.2.2;
 (if (decide (s55.1 ≥ 0)) = true then
 (if 0 <= s55.1 ∧ s55.1 < (b59.length : Int) then
 let t61 : Int := rd b59 s55.1;
 (if 0 <= b60 ∧ b60 < (l1.length : Int) then
 (if (decide (rd l1 b60 = 0)) = true then
 some (Sum.inr (Sum.inr ([], 3, b59, b60)))
 else
 (if 0 <= b60 ∧ b60 < (l1.length : Int) then
 let t62 := i64.wrap (rd l1 b60 - 1);
 let t63 := u8.wrap t62;
 (if 0 <= s55.1 ∧ s55.1 < (b59.length : Int) then
 let w64 : List Int := b59.set s55.1.toNat t63;
 (if 0 <= b60 ∧ b60 < (b50.length : Int) then
 let t65 : Int := rd b50 b60;
 let i66 := i64.wrap (s55.1 - 1);
 some (Sum.inl (i66, s55.2.1, s55.2.2.1, w64, t65))
 else
 none)
 else
 none)
 else
 none))
 else
 none)
 else
 none)
 else
 some (Sum.inr (Sum.inl (s55.2.1, s55.2.2.1, b59, b60))))
theorem Z107_eq (l1 : List Int) : Z107 l1 =
 let begins2 : List Int := List.replicate 258 0;
 let seen3 : List Int := List.replicate 258 0;
 (loop (Z107l3 l1) (0, begins2)).bind (fun b15 =>
 (if 0 <= (1 : Int) ∧ (1 : Int) < ((258 : Nat) : Int) ∧ (1 : Int) < (b15.length : Int) then
 let t16 : Int := rd b15 1;
 (if (!decide (t16 = 1)) = true then
 some ([], 3)
 else
 (loop (Z107l10) (0, b15)).bind (fun b29 =>
 (if 0 <= ((l1.length : Nat) : Int) ∧ ((l1.length : Nat) : Int) <= ((l1.length : Nat) : Int) ∧ ((8 : Nat) : Int) * ((l1.length : Nat) : Int) <= 281474976710656 then
 let t30 : List Int := List.replicate ((l1.length : Nat) : Int).toNat 0;
 (loop (Z107l16 l1 b29) (0, seen3, t30)).bind (fun p48 =>
 let t51 := i64.wrap (((l1.length : Nat) : Int) - 1);
 (if 0 <= t51 ∧ t51 <= t51 ∧ ((1 : Nat) : Int) * t51 <= 281474976710656 then
 let t52 : List Int := List.replicate t51.toNat 0;
 (Z145 t52).bind fun q53 =>
 let x54 := i64.wrap (((q53.length : Nat) : Int) - 1);
 (loop (Z107l25 l1 p48.2) (x54, [], 0, q53, 0)).bind (fun o77 =>
 (Sum.elim (fun (p67 : (List Int) × Int × (List Int) × Int) =>
 (Z111 p67.2.2.1).bind fun q78 =>
 (Z146 q78 l1).bind fun q79 =>
 (if (!q79) = true then
 some ([], 3)
 else
 some (p67.2.2.1, 0)))
 (fun (p72 : (List Int) × Int × (List Int) × Int) =>
 some (p72.1, p72.2.1)) o77))
 else
 none))
 else
 none)))
 else
 none)) := (B0 ..).trans (by kernel_rfl)
noncomputable def Z108l3 (depth1 : Int) (s12 : Int × (List Int) × Int × Int × Int × (List Outline)) : Option ((Int × (List Int) × Int × Int × Int × (List Outline)) ⊕ (((List Int) × Int × Int × Int × (List Outline)) ⊕ ((List Outline) × (List Int) × Int × Int × Int))) :=
 let b17 := s12.2.2.2.2.1;
 ((if (decide (s12.1 > 0)) = true then
 some (decide (b17 = 0))
 else
 some false) : Option (Bool)).bind (fun v19 =>
 (if v19 = true then
 let t20 := i64.wrap (s12.2.2.2.1 + 1);
 ((if (decide (t20 > 400)) = true then
 some true
 else
 some (decide (depth1 > 20))) : Option (Bool)).bind (fun v21 =>
 (if v21 = true then
 some (Sum.inr (Sum.inr ([], s12.2.1, s12.2.2.1, t20, 4)))
 else
 (Z148 s12.2.1 s12.2.2.1 t20 b17).bind fun q22 =>
 (Z147 1 1000 q22.2.1 q22.2.2.1 q22.2.2.2.1 q22.2.2.2.2).bind fun q28 =>
 let t34 := i64.wrap (depth1 + 1);
 (Z108 t34 q28.2.1 q28.2.2.1 q28.2.2.2.1 q28.2.2.2.2).bind fun q35 =>
 (if (s12.2.2.2.2.2.length + ([(Outline.mk q22.1 q28.1 q35.1)] : List Outline).length) * 48 <= 140737488355328 then
 let t41 : List Outline := s12.2.2.2.2.2 ++ [(Outline.mk q22.1 q28.1 q35.1)];
 let t42 := i64.wrap (s12.1 - 1);
 some (Sum.inl (t42, q35.2.1, q35.2.2.1, q35.2.2.2.1, q35.2.2.2.2, t41))
 else
 none)))
 else
 some (Sum.inr (Sum.inl (s12.2.1, s12.2.2.1, s12.2.2.2.1, b17, s12.2.2.2.2.2)))))
theorem Z108_eq (depth1 : Int) (b2 : List Int) (b3 b4 b5 : Int) : Z108 depth1 b2 b3 b4 b5 =
 (Z147 0 2147483648 b2 b3 b4 b5).bind fun q6 =>
 (loop (Z108l3 depth1) (q6.1, q6.2.1, q6.2.2.1, q6.2.2.2.1, q6.2.2.2.2, [])).bind (fun o55 =>
 (Sum.elim (fun (p43 : (List Int) × Int × Int × Int × (List Outline)) =>
 some (p43.2.2.2.2, p43.1, p43.2.1, p43.2.2.1, p43.2.2.2.1))
 (fun (p49 : (List Outline) × (List Int) × Int × Int × Int) =>
 some (p49.1, p49.2.1, p49.2.2.1, p49.2.2.2.1, p49.2.2.2.2)) o55)) := (B0 ..).trans (by kernel_rfl)
theorem Z109_eq (n1 : Int) : Z109 n1 =
 (Z76 n1).bind fun q2 =>
 some q2.2 := (B0 ..).trans (by kernel_rfl)
noncomputable def B52 (slices1 : List (List Int)) (s2 : Int × Int) : Option ((Int × Int) ⊕ (Int)) :=
 (if (decide (s2.2 < ((slices1.length : Nat) : Int))) = true then
 (if 0 <= s2.2 then
 (slices1[s2.2.toNat]?).bind fun e5 =>
 let t6 := i64.wrap (s2.1 + ((e5.length : Nat) : Int));
 (if (decide (t6 < 0)) = true then
 none
 else
 let t7 := i64.wrap (s2.2 + 1);
 some (Sum.inl (t6, t7)))
 else
 none)
 else
 some (Sum.inr s2.1))
noncomputable def B50 (slices1 : List (List Int)) (s13 : Int × (List Int)) : Option ((Int × (List Int)) ⊕ ((List Int))) :=
 (if (decide (s13.1 < ((slices1.length : Nat) : Int))) = true then
 (if 0 <= s13.1 then
 (slices1[s13.1.toNat]?).bind fun e16 =>
 (if (s13.2.length + e16.length) * 1 <= 140737488355328 then
 let t17 : List Int := s13.2 ++ e16;
 let t18 := i64.wrap (s13.1 + 1);
 some (Sum.inl (t18, t17))
 else
 none)
 else
 none)
 else
 some (Sum.inr s13.2))
theorem B253 (slices1 : List (List Int)) : B108 slices1 =
 (loop (B52 slices1) (0, 0)).bind (fun size11 =>
 (Z149 size11).bind fun q12 =>
 (loop (B50 slices1) (0, q12)).bind (fun newslice22 =>
 some newslice22)) := (B0 ..).trans (by kernel_rfl)
noncomputable def Z111l3 (text1 : List Int) (q2 : (List Int)) (s3 : Int × (List Int)) : Option ((Int × (List Int)) ⊕ ((List Int))) :=
 let v4 := s3.1;
 (if (decide (v4 < ((q2.length : Nat) : Int))) = true then
 (if 0 <= v4 ∧ v4 < (s3.2.length : Int) then
 let t6 : Int := rd s3.2 v4;
 (if (decide (t6 = 0)) = true then
 (if 0 <= v4 ∧ v4 < (s3.2.length : Int) then
 let w7 : List Int := s3.2.set v4.toNat 0;
 let t8 := i64.wrap (v4 + 1);
 some (Sum.inl (t8, w7))
 else
 none)
 else
 let t9 := i64.wrap (t6 - 1);
 (if 0 <= t9 ∧ t9 < (text1.length : Int) then
 let t10 := i64.wrap (rd text1 t9);
 let t11 := i64.wrap (t10 + 1);
 (if 0 <= v4 ∧ v4 < (s3.2.length : Int) then
 let w12 : List Int := s3.2.set v4.toNat t11;
 let t13 := i64.wrap (v4 + 1);
 some (Sum.inl (t13, w12))
 else
 none)
 else
 none))
 else
 none)
 else
 some (Sum.inr s3.2))
theorem Z111_eq (text1 : List Int) : Z111 text1 =
 (Z150 text1).bind fun q2 =>
 (loop (Z111l3 text1 q2) (0, q2)).bind (fun b14 =>
 some b14) := (B0 ..).trans (by kernel_rfl)
noncomputable def Z112l7 (m2 : List Int) (end4 v5 : Int) : Option ((Int) ⊕ ((Unit) ⊕ (Bool))) :=
 (if (decide (v5 < ((m2.length : Nat) : Int))) = true then
 (if 0 <= v5 ∧ v5 < (m2.length : Int) then
 (if (decide (rd m2 v5 < 0)) = true then
 some (Sum.inr (Sum.inr false))
 else
 (if (decide (rd m2 v5 ≥ end4)) = true then
 some (Sum.inr (Sum.inr false))
 else
 let t6 := i64.wrap (v5 + 1);
 some (Sum.inl t6)))
 else
 none)
 else
 some (Sum.inr (Sum.inl ())))
noncomputable def Z112l7_step (end4 : Int) (i7 : Nat) (x8 : Int) (s9 : Unit) : Option ((Unit) ⊕ ((Unit) ⊕ (Bool))) :=
 (if (decide (x8 < 0)) = true then
 some (Sum.inr (Sum.inr false))
 else
 (if (decide (x8 ≥ end4)) = true then
 some (Sum.inr (Sum.inr false))
 else
 some (Sum.inl (()))))
theorem Z112l7_over (m2 : List Int) (end4 : Int) (hl : m2.length <= 9223372036854775807) (s9 : Unit) : loop (Z112l7 m2 end4) (0 : Int) =
    overL (Z112l7_step end4) (fun (s9 : Unit) => some (Sum.inl ())) 0 m2 s9 := by
  refine B28 m2 (fun n (s : Unit) => (((n : Nat) : Int) : Int)) _ _ (fun s => ?_) (fun i x s h => ?_) 0 s9 (A30 _)
  . unfold Z112l7; simp
  . have hlt := B6 h
    have h1 : ((i : Nat) : Int) < ((m2.length : Nat) : Int) := by omega
    have h0 : (0 : Int) <= ((i : Nat) : Int) := by omega
    have hw : i64.wrap (((i : Nat) : Int) + 1) = (((i + 1 : Nat) : Nat) : Int) := w64 (by omega)
    have hr : rd m2 ((i : Nat) : Int) = x := B18 h
    unfold Z112l7 Z112l7_step
    simp only [h1, h0, hw, h, hr, A8, A6, A31, A15, A12, A1, A56, Function.comp_def, B48, B36, A37, A52]
theorem Z112_eq (m1 : Int) (m2 : List Int) : Z112 m1 m2 =
 ((if (!decide (m1 = 0)) = true then
 (if (!decide (m1 = 1)) = true then
 some true
 else
 some (decide (((m2.length : Nat) : Int) > 8192)))
 else
 some (decide (((m2.length : Nat) : Int) > 8192))) : Option (Bool)).bind (fun v3 =>
 (if v3 = true then
 some false
 else
 ((if (decide (m1 = 1)) = true then
 some 65536
 else
 some 64) : Option (Int)).bind (fun end4 =>
 (loop (Z112l7 m2 end4) 0).bind (fun o12 =>
 (Sum.elim (fun (p10 : Unit) =>
 some true)
 (fun (v11 : Bool) =>
 some v11) o12))))) := (B0 ..).trans (by kernel_rfl)
theorem Z113_eq (m1 : Int) (m2 : List Int) : Z113 m1 m2 =
 (Z151 m1 m2).bind fun q3 =>
 (Z152).bind fun q6 =>
 some (q3.1, 0, 4294967295, q3.2) := (B0 ..).trans (by kernel_rfl)
theorem Z114_eq (l1 : List Int) : Z114 l1 =
 (if (decide (((l1.length : Nat) : Int) > 4001)) = true then
 some 4
 else
 (Z153 l1).bind fun q2 =>
 (if q2 = true then
 some 2
 else
 some 0)) := (B0 ..).trans (by kernel_rfl)
noncomputable def Z115l3 (t1 : List Int) (s2 : Int × (List Int)) : Option ((Int × (List Int)) ⊕ ((List Int))) :=
 (if (decide (s2.1 < ((t1.length : Nat) : Int))) = true then
 (if 0 <= s2.1 ∧ s2.1 < (s2.2.length : Int) then
 let w5 : List Int := s2.2.set s2.1.toNat s2.1;
 let t6 := i64.wrap (s2.1 + 1);
 some (Sum.inl (t6, w5))
 else
 none)
 else
 some (Sum.inr s2.2))
theorem Z115_eq : Z115 =
 (if 0 <= (257 : Int) ∧ (257 : Int) <= (257 : Int) ∧ ((8 : Nat) : Int) * (257 : Int) <= 281474976710656 then
 let t1 : List Int := List.replicate (257 : Int).toNat 0;
 (loop (Z115l3 t1) (0, t1)).bind (fun b10 =>
 some b10)
 else
 none) := (B0 ..).trans (by kernel_rfl)
noncomputable def Z116l2 (s1 : List Int) (v2 v3 : Int) : Option ((Int) ⊕ ((Unit) ⊕ (Int))) :=
 (if (decide (v3 < ((s1.length : Nat) : Int))) = true then
 (if 0 <= v3 ∧ v3 < (s1.length : Int) then
 (if (decide (v2 = rd s1 v3)) = true then
 some (Sum.inr (Sum.inr v3))
 else
 let t4 := i64.wrap (v3 + 1);
 some (Sum.inl t4))
 else
 none)
 else
 some (Sum.inr (Sum.inl ())))
noncomputable def Z116l2_step (v2 : Int) (i5 : Nat) (x6 : Int) (s7 : Unit) : Option ((Unit) ⊕ ((Unit) ⊕ (Int))) :=
 (if (decide (v2 = x6)) = true then
 some (Sum.inr (Sum.inr ((i5 : Nat) : Int)))
 else
 some (Sum.inl (())))
theorem Z116l2_over (s1 : List Int) (v2 : Int) (hl : s1.length <= 9223372036854775807) (s7 : Unit) : loop (Z116l2 s1 v2) (0 : Int) =
    overL (Z116l2_step v2) (fun (s7 : Unit) => some (Sum.inl ())) 0 s1 s7 := by
  refine B28 s1 (fun n (s : Unit) => (((n : Nat) : Int) : Int)) _ _ (fun s => ?_) (fun i x s h => ?_) 0 s7 (A30 _)
  . unfold Z116l2; simp
  . have hlt := B6 h
    have h1 : ((i : Nat) : Int) < ((s1.length : Nat) : Int) := by omega
    have h0 : (0 : Int) <= ((i : Nat) : Int) := by omega
    have hw : i64.wrap (((i : Nat) : Int) + 1) = (((i + 1 : Nat) : Nat) : Int) := w64 (by omega)
    have hr : rd s1 ((i : Nat) : Int) = x := B18 h
    unfold Z116l2 Z116l2_step
    simp only [h1, h0, hw, h, hr, A8, A6, A31, A15, A12, A1, A56, Function.comp_def, B48, B36, A37, A52]
theorem Z116_eq (s1 : List Int) (v2 : Int) : Z116 s1 v2 =
 (loop (Z116l2 s1 v2) 0).bind (fun o10 =>
 (Sum.elim (fun (p8 : Unit) =>
 some (-1))
 (fun (v9 : Int) =>
 some v9) o10)) := (B0 ..).trans (by kernel_rfl)
theorem Z117_eq (place1 : Int) (b2 : List Int) : Z117 place1 b2 =
 (if 0 <= place1 ∧ place1 < (b2.length : Int) then
 let t3 : Int := rd b2 place1;
 let t4 := i64.wrap (place1 + 1);
 (if 0 <= t4 ∧ t4 <= ((b2.length : Nat) : Int) then
 (if 0 <= (1 : Int) ∧ (1 : Int) <= t4 then
 (if 0 <= place1 ∧ place1 <= ((b2.length : Nat) : Int) then
 let w5 : List Int := b2.take ((1 : Int).toNat) ++ ((b2.drop 0).take (place1.toNat - 0)).take (min ((b2.drop 0).take (place1.toNat - 0)).length (t4.toNat - (1 : Int).toNat)) ++ b2.drop (((1 : Int).toNat) + min ((b2.drop 0).take (place1.toNat - 0)).length (t4.toNat - (1 : Int).toNat));
 (if 0 <= (0 : Int) ∧ (0 : Int) < (w5.length : Int) then
 let w6 : List Int := w5.set (0 : Int).toNat t3;
 some (t3, w6)
 else
 none)
 else
 none)
 else
 none)
 else
 none)
 else
 none) := (B0 ..).trans (by kernel_rfl)
noncomputable def Z118l6_D (s32 : Int × Int × Int × (List Int) × (List Int)) : Option ((Int × Int × Int × (List Int) × (List Int)) ⊕ (Int × Int × Int × (List Int) × (List Int))) :=
 (Z156 s32.1 s32.2.1 s32.2.2.1 s32.2.2.2.1 s32.2.2.2.2).bind fun q38 =>
 (if q38.1 = true then
 (demon
 ((Z157 q38.2.1 q38.2.2.1 q38.2.2.2.1 q38.2.2.2.2.1 q38.2.2.2.2.2).bind fun q45 =>
 (if (q45.2.2.2.2.2.length + ([q45.1] : List Int).length) * 1 <= 140737488355328 then
 let t52 : List Int := q45.2.2.2.2.2 ++ [q45.1];
 some (Sum.inl (q45.2.1, q45.2.2.1, q45.2.2.2.1, q45.2.2.2.2.1, t52))
 else
 none))
 ((Z157 q38.2.1 q38.2.2.1 q38.2.2.2.1 q38.2.2.2.2.1 q38.2.2.2.2.2).bind fun q53 =>
 (if (q53.2.2.2.2.2.length + ([q53.1] : List Int).length) * 1 <= 140737488355328 then
 let t60 : List Int := q53.2.2.2.2.2 ++ [q53.1];
 some (Sum.inl (q53.2.1, q53.2.2.1, q53.2.2.2.1, q53.2.2.2.2.1, t60))
 else
 none)))
 else
 some (Sum.inr (q38.2.1, q38.2.2.1, q38.2.2.2.1, q38.2.2.2.2.1, q38.2.2.2.2.2)))
noncomputable def Z118l6 (s32 : Int × Int × Int × (List Int) × (List Int)) : Option ((Int × Int × Int × (List Int) × (List Int)) ⊕ (Int × Int × Int × (List Int) × (List Int))) :=
 (Z156 s32.1 s32.2.1 s32.2.2.1 s32.2.2.2.1 s32.2.2.2.2).bind fun q38 =>
 (if q38.1 = true then
 ((Z157 q38.2.1 q38.2.2.1 q38.2.2.2.1 q38.2.2.2.2.1 q38.2.2.2.2.2).bind fun q45 =>
 (if (q45.2.2.2.2.2.length + ([q45.1] : List Int).length) * 1 <= 140737488355328 then
 let t52 : List Int := q45.2.2.2.2.2 ++ [q45.1];
 some (Sum.inl (q45.2.1, q45.2.2.1, q45.2.2.2.1, q45.2.2.2.2.1, t52))
 else
 none))
 else
 some (Sum.inr (q38.2.1, q38.2.2.1, q38.2.2.2.1, q38.2.2.2.2.1, q38.2.2.2.2.2)))
theorem Z118l6_D_eq : Z118l6_D = Z118l6 := by
  funext s32; unfold Z118l6_D Z118l6; simp only [B129]
theorem Z118_eqD (ctx1 bit2 b3 b4 b5 : Int) (b6 b7 : List Int) : Z118 ctx1 bit2 b3 b4 b5 b6 b7 =
 (Z124 b3 b4 b5 b6 b7).bind fun q8 =>
 ((if q8.1 = true then
 some (Sum.inr 7)
 else
 ((if (decide (ctx1 < 0)) = true then
 some true
 else
 (if (decide (ctx1 ≥ ((q8.2.2.2.2.1.length : Nat) : Int))) = true then
 some true
 else
 (if (!decide (bit2 = 0)) = true then
 some (!decide (bit2 = 1))
 else
 some false))) : Option (Bool)).bind (fun v15 =>
 (if v15 = true then
 some (Sum.inr 2)
 else
 some (Sum.inl ())))) : Option ((Unit) ⊕ (Int))).bind (fun o18 =>
 (Sum.elim (fun (p16 : Unit) =>
 (Z154 ctx1 q8.2.1 q8.2.2.1 q8.2.2.2.1 q8.2.2.2.2.1 q8.2.2.2.2.2).bind fun q19 =>
 (Z155 ctx1 bit2 q19.1 q19.2.1 q19.2.2.1 q19.2.2.2.1 q19.2.2.2.2.1 q19.2.2.2.2.2).bind fun q26 =>
 (loop (Z118l6_D) (q26.1, q26.2.1, q26.2.2.1, q26.2.2.2.1, q26.2.2.2.2)).bind (fun p61 =>
 some (0, p61.1, p61.2.1, p61.2.2.1, p61.2.2.2.1, p61.2.2.2.2)))
 (fun (v17 : Int) =>
 some (v17, q8.2.1, q8.2.2.1, q8.2.2.2.1, q8.2.2.2.2.1, q8.2.2.2.2.2)) o18)) := (B0 ..).trans (by kernel_rfl)
theorem Z118_eq (ctx1 bit2 b3 b4 b5 : Int) (b6 b7 : List Int) : Z118 ctx1 bit2 b3 b4 b5 b6 b7 =
 (Z124 b3 b4 b5 b6 b7).bind fun q8 =>
 ((if q8.1 = true then
 some (Sum.inr 7)
 else
 ((if (decide (ctx1 < 0)) = true then
 some true
 else
 (if (decide (ctx1 ≥ ((q8.2.2.2.2.1.length : Nat) : Int))) = true then
 some true
 else
 (if (!decide (bit2 = 0)) = true then
 some (!decide (bit2 = 1))
 else
 some false))) : Option (Bool)).bind (fun v15 =>
 (if v15 = true then
 some (Sum.inr 2)
 else
 some (Sum.inl ())))) : Option ((Unit) ⊕ (Int))).bind (fun o18 =>
 (Sum.elim (fun (p16 : Unit) =>
 (Z154 ctx1 q8.2.1 q8.2.2.1 q8.2.2.2.1 q8.2.2.2.2.1 q8.2.2.2.2.2).bind fun q19 =>
 (Z155 ctx1 bit2 q19.1 q19.2.1 q19.2.2.1 q19.2.2.2.1 q19.2.2.2.2.1 q19.2.2.2.2.2).bind fun q26 =>
 (loop (Z118l6) (q26.1, q26.2.1, q26.2.2.1, q26.2.2.2.1, q26.2.2.2.2)).bind (fun p61 =>
 some (0, p61.1, p61.2.1, p61.2.2.1, p61.2.2.2.1, p61.2.2.2.2)))
 (fun (v17 : Int) =>
 some (v17, q8.2.1, q8.2.2.1, q8.2.2.2.1, q8.2.2.2.2.1, q8.2.2.2.2.2)) o18)) := by rw [Z118_eqD]; simp only [B129, Z118l6_D_eq]
theorem Z119_eq (n1 : Bool) (n2 : Int) : Z119 n1 n2 =
 (if n1 = true then
 some (decide (n2 = 0))
 else
 (if (decide (n2 ≥ (-1048576))) = true then
 some (decide (n2 <= 1048576))
 else
 some false)) := (B0 ..).trans (by kernel_rfl)
theorem Z120_eq (b1 b2 b3 : Int) (b4 b5 : List Int) : Z120 b1 b2 b3 b4 b5 =
 (Z124 b1 b2 b3 b4 b5).bind fun q6 =>
 (if q6.1 = true then
 some (0, [], q6.2.1, q6.2.2.1, q6.2.2.2.1, q6.2.2.2.2.1, q6.2.2.2.2.2)
 else
 (Z151 q6.2.1 q6.2.2.2.2.1).bind fun q13 =>
 some (q13.1, q13.2, q6.2.1, q6.2.2.1, q6.2.2.2.1, q6.2.2.2.2.1, q6.2.2.2.2.2)) := (B0 ..).trans (by kernel_rfl)
theorem Z121_eq (m1 : Int) (m2 : List Int) (base3 n4 : Int) : Z121 m1 m2 base3 n4 =
 (if (decide (base3 < 0)) = true then
 some 2
 else
 let t5 := i64.wrap (((m2.length : Nat) : Int) - n4);
 (if (decide (base3 > t5)) = true then
 some 2
 else
 some 0)) := (B0 ..).trans (by kernel_rfl)
noncomputable def Z122l7 (base1 t9 : Int) (s10 : Int × (List Event)) : Option ((Int × (List Event)) ⊕ ((List Event))) :=
 (if (decide (s10.1 < t9)) = true then
 let t13 := i64.wrap (base1 + 1);
 let t14 := i64.wrap (t13 + s10.1);
 (if (s10.2.length + ([(Event.mk t14 1)] : List Event).length) * 16 <= 140737488355328 then
 let t15 : List Event := s10.2 ++ [(Event.mk t14 1)];
 let t16 := i64.wrap (s10.1 + 1);
 some (Sum.inl (t16, t15))
 else
 none)
 else
 some (Sum.inr s10.2))
noncomputable def Z122l7_step (base1 : Int) (i17 x18 : Nat) (s19 : (List Event)) : Option (((List Event)) ⊕ ((List Event))) :=
 let t13 := i64.wrap (base1 + 1);
 let t14 := i64.wrap (t13 + ((i17 : Nat) : Int));
 (if (s19.length + ([(Event.mk t14 1)] : List Event).length) * 16 <= 140737488355328 then
 let t15 : List Event := s19 ++ [(Event.mk t14 1)];
 some (Sum.inl (t15))
 else
 none)
theorem Z122l7_over (base1 t9 : Int) (hl : (List.range (t9).toNat).length <= 9223372036854775807) (s19 : (List Event)) : loop (Z122l7 base1 t9) ((0, s19) : Int × (List Event)) =
    overL (Z122l7_step base1) (fun (s19 : (List Event)) => some s19) 0 (List.range (t9).toNat) s19 := by
  refine B28 (List.range (t9).toNat) (fun n (s : (List Event)) => ((((n : Nat) : Int), s) : Int × (List Event))) _ _ (fun s => ?_) (fun i x s h => ?_) 0 s19 (A30 _)
  . have h1 : ¬ (((List.range (t9).toNat).length : Nat) : Int) < t9 := by simp only [A50]; omega
    unfold Z122l7; simp only [h1, A9, A5, A4, A37]
  . have hlt := B6 h
    rw [A50] at hlt hl
    rw [A82 hlt] at h
    cases h
    have h1 : ((i : Nat) : Int) < t9 := by omega
    have h0 : (0 : Int) <= ((i : Nat) : Int) := by omega
    have hw : i64.wrap (((i : Nat) : Int) + 1) = (((i + 1 : Nat) : Nat) : Int) := w64 (by omega)
    unfold Z122l7 Z122l7_step
    simp only [h1, h0, hw, A8, A6, A31, A15, A12, A1, A56, Function.comp_def, B48, B36, A37, A52]
noncomputable def Z122l15 (base1 t6 t9 : Int) (s26 : Int × (List Event) × Int) : Option ((Int × (List Event) × Int) ⊕ ((List Event) × Int)) :=
 (if (decide (s26.1 ≥ 0)) = true then
 let t30 := i64.wrap (23 + t9);
 let t31 := i64.wrap (t9 - 1);
 ((if (decide (s26.1 < t31)) = true then
 (Z159 s26.2.2).bind fun q32 =>
 some (q32.1, q32.2)
 else
 some (t30, s26.2.2)) : Option (Int × Int)).bind (fun p35 =>
 let t38 := i64.wrap (base1 + p35.1);
 (if s26.1 < 0 then
 none
 else
 let t39 := ishr .i64 t6 s26.1;
 let t40 := iand .i64 t39 1;
 (if (s26.2.1.length + ([(Event.mk t38 t40)] : List Event).length) * 16 <= 140737488355328 then
 let t41 : List Event := s26.2.1 ++ [(Event.mk t38 t40)];
 let t42 := i64.wrap (s26.1 - 1);
 some (Sum.inl (t42, t41, p35.2))
 else
 none)))
 else
 some (Sum.inr (s26.2.1, s26.2.2)))
theorem Z122_eq (base1 : Int) (n2 : Bool) (n3 : Int) : Z122 base1 n2 n3 =
 (if n2 = true then
 some [(Event.mk base1 1)]
 else
 let t4 := i64.wrap (0 - n3);
 let t5 := imax n3 t4;
 let t6 := i64.wrap (t5 + 1);
 let t7 := u64.wrap t6;
 (Z158 t7).bind fun q8 =>
 let t9 := i64.wrap (q8 - 1);
 (loop (Z122l7 base1 t9) (0, [(Event.mk base1 0)])).bind (fun out20 =>
 ((if (decide (t9 < 20)) = true then
 let t21 := i64.wrap (base1 + 1);
 let t22 := i64.wrap (t21 + t9);
 (if (out20.length + ([(Event.mk t22 0)] : List Event).length) * 16 <= 140737488355328 then
 let t23 : List Event := out20 ++ [(Event.mk t22 0)];
 some t23
 else
 none)
 else
 some out20) : Option ((List Event))).bind (fun out24 =>
 let t25 := i64.wrap (t9 - 1);
 (loop (Z122l15 base1 t6 t9) (t25, out24, 44)).bind (fun p43 =>
 (if (!decide (n3 = 0)) = true then
 let t46 := i64.wrap (base1 + 22);
 ((if (decide (n3 < 0)) = true then
 some (t46, 1)
 else
 some (t46, 0)) : Option (Int × Int)).bind (fun p47 =>
 (if (p43.1.length + ([(Event.mk p47.1 p47.2)] : List Event).length) * 16 <= 140737488355328 then
 let t50 : List Event := p43.1 ++ [(Event.mk p47.1 p47.2)];
 some t50
 else
 none))
 else
 some p43.1))))) := (B0 ..).trans (by kernel_rfl)
noncomputable def Z123l2 (l1 : List Event) (s7 : Int × Int × Int × Int × (List Int) × (List Int)) : Option ((Int × Int × Int × Int × (List Int) × (List Int)) ⊕ ((Int × Int × Int × (List Int) × (List Int)) ⊕ (Int × Int × Int × Int × (List Int) × (List Int)))) :=
 (if (decide (s7.1 < ((l1.length : Nat) : Int))) = true then
 (if 0 <= s7.1 then
 (l1[s7.1.toNat]?).bind fun e14 =>
 (Z118 e14.ctx e14.bit s7.2.1 s7.2.2.1 s7.2.2.2.1 s7.2.2.2.2.1 s7.2.2.2.2.2).bind fun q15 =>
 (if (!decide (q15.1 = 0)) = true then
 some (Sum.inr (Sum.inr (q15.1, q15.2.1, q15.2.2.1, q15.2.2.2.1, q15.2.2.2.2.1, q15.2.2.2.2.2)))
 else
 let t22 := i64.wrap (s7.1 + 1);
 some (Sum.inl (t22, q15.2.1, q15.2.2.1, q15.2.2.2.1, q15.2.2.2.2.1, q15.2.2.2.2.2)))
 else
 none)
 else
 some (Sum.inr (Sum.inl (s7.2.1, s7.2.2.1, s7.2.2.2.1, s7.2.2.2.2.1, s7.2.2.2.2.2))))
noncomputable def Z123l2_step (i23 : Nat) (x24 : Event) (s25 : Int × Int × Int × (List Int) × (List Int)) : Option ((Int × Int × Int × (List Int) × (List Int)) ⊕ ((Int × Int × Int × (List Int) × (List Int)) ⊕ (Int × Int × Int × Int × (List Int) × (List Int)))) :=
 (Z118 x24.ctx x24.bit s25.1 s25.2.1 s25.2.2.1 s25.2.2.2.1 s25.2.2.2.2).bind fun q15 =>
 (if (!decide (q15.1 = 0)) = true then
 some (Sum.inr (Sum.inr (q15.1, q15.2.1, q15.2.2.1, q15.2.2.2.1, q15.2.2.2.2.1, q15.2.2.2.2.2)))
 else
 some (Sum.inl ((q15.2.1, q15.2.2.1, q15.2.2.2.1, q15.2.2.2.2.1, q15.2.2.2.2.2))))
theorem Z123l2_over (l1 : List Event) (hl : l1.length <= 9223372036854775807) (s25 : Int × Int × Int × (List Int) × (List Int)) : loop (Z123l2 l1) ((0, s25.1, s25.2.1, s25.2.2.1, s25.2.2.2.1, s25.2.2.2.2) : Int × Int × Int × Int × (List Int) × (List Int)) =
    overL (Z123l2_step) (fun (s25 : Int × Int × Int × (List Int) × (List Int)) => let b26 := s25.1; let b27 := s25.2.1; let b28 := s25.2.2.1; let b29 := s25.2.2.2.1; let b30 := s25.2.2.2.2; some (Sum.inl (b26, b27, b28, b29, b30))) 0 l1 s25 := by
  refine B28 l1 (fun n (s : Int × Int × Int × (List Int) × (List Int)) => ((((n : Nat) : Int), s.1, s.2.1, s.2.2.1, s.2.2.2.1, s.2.2.2.2) : Int × Int × Int × Int × (List Int) × (List Int))) _ _ (fun s => ?_) (fun i x s h => ?_) 0 s25 (A30 _)
  . unfold Z123l2; simp
  . have hlt := B6 h
    have h1 : ((i : Nat) : Int) < ((l1.length : Nat) : Int) := by omega
    have h0 : (0 : Int) <= ((i : Nat) : Int) := by omega
    have hw : i64.wrap (((i : Nat) : Int) + 1) = (((i + 1 : Nat) : Nat) : Int) := w64 (by omega)
    unfold Z123l2 Z123l2_step
    simp only [h1, h0, hw, h, A8, A6, A31, A15, A12, A1, A56, Function.comp_def, B48, B36, A37, A52]
theorem Z123_eq (l1 : List Event) (b2 b3 b4 : Int) (b5 b6 : List Int) : Z123 l1 b2 b3 b4 b5 b6 =
 (loop (Z123l2 l1) (0, b2, b3, b4, b5, b6)).bind (fun o44 =>
 (Sum.elim (fun (p31 : Int × Int × Int × (List Int) × (List Int)) =>
 some (0, p31.1, p31.2.1, p31.2.2.1, p31.2.2.2.1, p31.2.2.2.2))
 (fun (p37 : Int × Int × Int × Int × (List Int) × (List Int)) =>
 some (p37.1, p37.2.1, p37.2.2.1, p37.2.2.2.1, p37.2.2.2.2.1, p37.2.2.2.2.2)) o44)) := (B0 ..).trans (by kernel_rfl)
theorem Z124_eq (b1 b2 b3 : Int) (b4 b5 : List Int) : Z124 b1 b2 b3 b4 b5 =
 some (false, b1, b2, b3, b4, b5) := (B0 ..).trans (by kernel_rfl)
noncomputable def Z125l4 (s1 : List Int) (v2 : Int) : Option ((Int) ⊕ ((Unit) ⊕ (Bool))) :=
 (if (decide (v2 < 4)) = true then
 (if 0 <= v2 ∧ v2 < ((s1).length : Int) then
 let t3 : Int := rd s1 v2;
 (if (decide (t3 < 65)) = true then
 (if (decide (t3 < 48)) = true then
 some (Sum.inr (Sum.inr false))
 else
 (if (decide (t3 > 57)) = true then
 some (Sum.inr (Sum.inr false))
 else
 let t4 := i64.wrap (v2 + 1);
 some (Sum.inl t4)))
 else
 (if (decide (t3 > 90)) = true then
 (if (decide (t3 < 48)) = true then
 some (Sum.inr (Sum.inr false))
 else
 (if (decide (t3 > 57)) = true then
 some (Sum.inr (Sum.inr false))
 else
 let t5 := i64.wrap (v2 + 1);
 some (Sum.inl t5)))
 else
 let t6 := i64.wrap (v2 + 1);
 some (Sum.inl t6)))
 else
 none)
 else
 some (Sum.inr (Sum.inl ())))
theorem Z125_eq (s1 : List Int) : Z125 s1 =
 (if (!decide (((s1.length : Nat) : Int) = 4)) = true then
 some false
 else
 (loop (Z125l4 s1) 0).bind (fun o12 =>
 (Sum.elim (fun (p10 : Unit) =>
 some true)
 (fun (v11 : Bool) =>
 some v11) o12))) := (B0 ..).trans (by kernel_rfl)
theorem Z126_eq (s1 : List Int) : Z126 s1 =
 (Z125 s1).bind fun q2 =>
 (if q2 = true then
 some (!decide (s1 = [70, 79, 82, 77]))
 else
 some false) := (B0 ..).trans (by kernel_rfl)
noncomputable def Z127l5 (text1 : List Int) (s2 : Int × (List Int)) : Option ((Int × (List Int)) ⊕ ((List Int))) :=
 (if (decide (s2.1 <= ((text1.length : Nat) : Int))) = true then
 (if (s2.2.length + ([s2.1] : List Int).length) * 8 <= 140737488355328 then
 let t5 : List Int := s2.2 ++ [s2.1];
 let t6 := i64.wrap (s2.1 + 1);
 some (Sum.inl (t6, t5))
 else
 none)
 else
 some (Sum.inr s2.2))
theorem Z127_eq (text1 : List Int) : Z127 text1 =
 (if (decide (((text1.length : Nat) : Int) > 4000)) = true then
 some ([], 4)
 else
 (loop (Z127l5 text1) (0, [])).bind (fun l7 =>
 (Z160 text1 l7).bind fun q8 =>
 some (q8, 0))) := (B0 ..).trans (by kernel_rfl)
noncomputable def Z128l4 (l1 : List Int) (i2 : Int) : Option ((Int) ⊕ ((Unit) ⊕ (Int))) :=
 (if (decide (i2 < ((l1.length : Nat) : Int))) = true then
 (if 0 <= i2 ∧ i2 < (l1.length : Int) then
 (if (decide (rd l1 i2 < 0)) = true then
 some (Sum.inr (Sum.inr 2))
 else
 (if 0 <= i2 ∧ i2 < (l1.length : Int) then
 (if (decide (rd l1 i2 ≥ 257)) = true then
 some (Sum.inr (Sum.inr 2))
 else
 let t3 := i64.wrap (i2 + 1);
 some (Sum.inl t3))
 else
 none))
 else
 none)
 else
 some (Sum.inr (Sum.inl ())))
theorem Z128_eq (l1 : List Int) : Z128 l1 =
 (if (decide (((l1.length : Nat) : Int) > 4001)) = true then
 some 4
 else
 (loop (Z128l4 l1) 0).bind (fun o9 =>
 (Sum.elim (fun (p7 : Unit) =>
 some 0)
 (fun (v8 : Int) =>
 some v8) o9))) := (B0 ..).trans (by kernel_rfl)
noncomputable def Z129l3 (s2 : Int × (List Int)) : Option ((Int × (List Int)) ⊕ ((List Int))) :=
 (if (decide (s2.1 < 257)) = true then
 (if 0 <= s2.1 ∧ s2.1 < (s2.2.length : Int) then
 let w5 : List Int := s2.2.set s2.1.toNat s2.1;
 let t6 := i64.wrap (s2.1 + 1);
 some (Sum.inl (t6, w5))
 else
 none)
 else
 some (Sum.inr s2.2))
theorem Z129_eq : Z129 =
 (if 0 <= (257 : Int) ∧ (257 : Int) <= (257 : Int) ∧ ((8 : Nat) : Int) * (257 : Int) <= 281474976710656 then
 let t1 : List Int := List.replicate (257 : Int).toNat 0;
 (loop (Z129l3) (0, t1)).bind (fun b10 =>
 some b10)
 else
 none) := (B0 ..).trans (by kernel_rfl)
theorem Z130_eq (l1 : List Int) (at2 : Int) : Z130 l1 at2 =
 (if 0 <= at2 ∧ at2 < (l1.length : Int) then
 (if 0 <= at2 ∧ at2 <= ((l1.length : Nat) : Int) then
 let t3 : List Int := cutL l1 0 at2.toNat;
 (if (([rd l1 at2] : List Int).length + t3.length) * 8 <= 140737488355328 then
 let t4 : List Int := ([rd l1 at2] : List Int) ++ t3;
 let t5 := i64.wrap (at2 + 1);
 (if 0 <= t5 ∧ t5 <= ((l1.length : Nat) : Int) then
 let t6 : List Int := cutL l1 t5.toNat l1.length;
 (if (t4.length + t6.length) * 8 <= 140737488355328 then
 let t7 : List Int := t4 ++ t6;
 some t7
 else
 none)
 else
 none)
 else
 none)
 else
 none)
 else
 none) := (B0 ..).trans (by kernel_rfl)
noncomputable def Z131l7 (m2 : List Int) (most3 v5 : Int) : Option ((Int) ⊕ ((Unit) ⊕ (Bool))) :=
 (if (decide (v5 < ((m2.length : Nat) : Int))) = true then
 (if 0 <= v5 ∧ v5 < (m2.length : Int) then
 (if (decide (rd m2 v5 < 0)) = true then
 some (Sum.inr (Sum.inr false))
 else
 (if (decide (rd m2 v5 > most3)) = true then
 some (Sum.inr (Sum.inr false))
 else
 let t6 := i64.wrap (v5 + 1);
 some (Sum.inl t6)))
 else
 none)
 else
 some (Sum.inr (Sum.inl ())))
noncomputable def Z131l7_step (most3 : Int) (i7 : Nat) (x8 : Int) (s9 : Unit) : Option ((Unit) ⊕ ((Unit) ⊕ (Bool))) :=
 (if (decide (x8 < 0)) = true then
 some (Sum.inr (Sum.inr false))
 else
 (if (decide (x8 > most3)) = true then
 some (Sum.inr (Sum.inr false))
 else
 some (Sum.inl (()))))
theorem Z131l7_over (m2 : List Int) (most3 : Int) (hl : m2.length <= 9223372036854775807) (s9 : Unit) : loop (Z131l7 m2 most3) (0 : Int) =
    overL (Z131l7_step most3) (fun (s9 : Unit) => some (Sum.inl ())) 0 m2 s9 := by
  refine B28 m2 (fun n (s : Unit) => (((n : Nat) : Int) : Int)) _ _ (fun s => ?_) (fun i x s h => ?_) 0 s9 (A30 _)
  . unfold Z131l7; simp
  . have hlt := B6 h
    have h1 : ((i : Nat) : Int) < ((m2.length : Nat) : Int) := by omega
    have h0 : (0 : Int) <= ((i : Nat) : Int) := by omega
    have hw : i64.wrap (((i : Nat) : Int) + 1) = (((i + 1 : Nat) : Nat) : Int) := w64 (by omega)
    have hr : rd m2 ((i : Nat) : Int) = x := B18 h
    unfold Z131l7 Z131l7_step
    simp only [h1, h0, hw, h, hr, A8, A6, A31, A15, A12, A1, A56, Function.comp_def, B48, B36, A37, A52]
theorem Z131_eq (m1 : Int) (m2 : List Int) : Z131 m1 m2 =
 ((if (decide (m1 = 1)) = true then
 some 65535
 else
 some 63) : Option (Int)).bind (fun most3 =>
 ((if (!decide (m1 = 0)) = true then
 (if (!decide (m1 = 1)) = true then
 some true
 else
 some (decide (((m2.length : Nat) : Int) > 8192)))
 else
 some (decide (((m2.length : Nat) : Int) > 8192))) : Option (Bool)).bind (fun v4 =>
 (if v4 = true then
 some false
 else
 (loop (Z131l7 m2 most3) 0).bind (fun o12 =>
 (Sum.elim (fun (p10 : Unit) =>
 some true)
 (fun (v11 : Bool) =>
 some v11) o12))))) := (B0 ..).trans (by kernel_rfl)
theorem Z132_eq (m1 : Int) (m2 : List Int) : Z132 m1 m2 =
 (if (([] : List Int).length + m2.length) * 8 <= 140737488355328 then
 let t3 : List Int := ([] : List Int) ++ m2;
 some (m1, t3)
 else
 none) := (B0 ..).trans (by kernel_rfl)
theorem Z133_eq : Z133 =
 some (0, 4294967295) := (B0 ..).trans (by kernel_rfl)
theorem Z134_eq (n1 : Bool) (n2 : Int) : Z134 n1 n2 =
 (if n1 = true then
 some (decide (n2 = 0))
 else
 (if (decide (n2 ≥ (-1048576))) = true then
 some (decide (n2 <= 1048576))
 else
 some false)) := (B0 ..).trans (by kernel_rfl)
theorem Z135_eq (b1 b2 b3 : Int) (b4 b5 : List Int) : Z135 b1 b2 b3 b4 b5 =
 (Z132 b1 b4).bind fun q6 =>
 some (q6.1, q6.2, b1, b2, b3, b4, b5) := (B0 ..).trans (by kernel_rfl)
theorem Z136_eq (states1 base2 n3 : Int) : Z136 states1 base2 n3 =
 (if (decide (base2 ≥ 0)) = true then
 (if (decide (base2 <= states1)) = true then
 let t4 := i64.wrap (states1 - base2);
 some (decide (n3 <= t4))
 else
 some false)
 else
 some false) := (B0 ..).trans (by kernel_rfl)
noncomputable def Z137l9 (s8 : Int × (List Int)) : Option ((Int × (List Int)) ⊕ ((List Int))) :=
 (if (decide (s8.1 > 0)) = true then
 let t11 : Int := s8.1.tmod 2;
 (if (s8.2.length + ([t11] : List Int).length) * 8 <= 140737488355328 then
 let t12 : List Int := s8.2 ++ [t11];
 let t13 := i64.wrap (s8.1.tdiv 2);
 some (Sum.inl (t13, t12))
 else
 none)
 else
 some (Sum.inr s8.2))
noncomputable def Z137l14 (t15 : Int) (s16 : Int × (List Event)) : Option ((Int × (List Event)) ⊕ ((List Event))) :=
 (if (decide (s16.1 < t15)) = true then
 let t19 := i64.wrap (1 + s16.1);
 (if (s16.2.length + ([(Event.mk t19 1)] : List Event).length) * 16 <= 140737488355328 then
 let t20 : List Event := s16.2 ++ [(Event.mk t19 1)];
 let t21 := i64.wrap (s16.1 + 1);
 some (Sum.inl (t21, t20))
 else
 none)
 else
 some (Sum.inr s16.2))
noncomputable def Z137l14_step (i22 x23 : Nat) (s24 : (List Event)) : Option (((List Event)) ⊕ ((List Event))) :=
 let t19 := i64.wrap (1 + ((i22 : Nat) : Int));
 (if (s24.length + ([(Event.mk t19 1)] : List Event).length) * 16 <= 140737488355328 then
 let t20 : List Event := s24 ++ [(Event.mk t19 1)];
 some (Sum.inl (t20))
 else
 none)
theorem Z137l14_over (t15 : Int) (hl : (List.range (t15).toNat).length <= 9223372036854775807) (s24 : (List Event)) : loop (Z137l14 t15) ((0, s24) : Int × (List Event)) =
    overL (Z137l14_step) (fun (s24 : (List Event)) => some s24) 0 (List.range (t15).toNat) s24 := by
  refine B28 (List.range (t15).toNat) (fun n (s : (List Event)) => ((((n : Nat) : Int), s) : Int × (List Event))) _ _ (fun s => ?_) (fun i x s h => ?_) 0 s24 (A30 _)
  . have h1 : ¬ (((List.range (t15).toNat).length : Nat) : Int) < t15 := by simp only [A50]; omega
    unfold Z137l14; simp only [h1, A9, A5, A4, A37]
  . have hlt := B6 h
    rw [A50] at hlt hl
    rw [A82 hlt] at h
    cases h
    have h1 : ((i : Nat) : Int) < t15 := by omega
    have h0 : (0 : Int) <= ((i : Nat) : Int) := by omega
    have hw : i64.wrap (((i : Nat) : Int) + 1) = (((i + 1 : Nat) : Nat) : Int) := w64 (by omega)
    unfold Z137l14 Z137l14_step
    simp only [h1, h0, hw, A8, A6, A31, A15, A12, A1, A56, Function.comp_def, B48, B36, A37, A52]
noncomputable def Z137l20 (digits14 : (List Int)) (t15 : Int) (s29 : Int × (List Event)) : Option ((Int × (List Event)) ⊕ ((List Event))) :=
 (if (decide (s29.1 < t15)) = true then
 let t32 := i64.wrap (43 + s29.1);
 let t33 := imin t32 47;
 ((if (decide (s29.1 = 0)) = true then
 let t34 := i64.wrap (23 + t15);
 some t34
 else
 some t33) : Option (Int)).bind (fun ctx35 =>
 let t36 := i64.wrap (t15 - 1);
 let t37 := i64.wrap (t36 - s29.1);
 (if 0 <= t37 ∧ t37 < (digits14.length : Int) then
 let t38 : Int := rd digits14 t37;
 (if (s29.2.length + ([(Event.mk ctx35 t38)] : List Event).length) * 16 <= 140737488355328 then
 let t39 : List Event := s29.2 ++ [(Event.mk ctx35 t38)];
 let t40 := i64.wrap (s29.1 + 1);
 some (Sum.inl (t40, t39))
 else
 none)
 else
 none))
 else
 some (Sum.inr s29.2))
noncomputable def Z137l20_step (digits14 : (List Int)) (t15 : Int) (i41 x42 : Nat) (s43 : (List Event)) : Option (((List Event)) ⊕ ((List Event))) :=
 let t32 := i64.wrap (43 + ((i41 : Nat) : Int));
 let t33 := imin t32 47;
 ((if (decide (((i41 : Nat) : Int) = 0)) = true then
 let t34 := i64.wrap (23 + t15);
 some t34
 else
 some t33) : Option (Int)).bind (fun ctx35 =>
 let t36 := i64.wrap (t15 - 1);
 let t37 := i64.wrap (t36 - ((i41 : Nat) : Int));
 (if 0 <= t37 ∧ t37 < (digits14.length : Int) then
 let t38 : Int := rd digits14 t37;
 (if (s43.length + ([(Event.mk ctx35 t38)] : List Event).length) * 16 <= 140737488355328 then
 let t39 : List Event := s43 ++ [(Event.mk ctx35 t38)];
 some (Sum.inl (t39))
 else
 none)
 else
 none))
theorem Z137l20_over (digits14 : (List Int)) (t15 : Int) (hl : (List.range (t15).toNat).length <= 9223372036854775807) (s43 : (List Event)) : loop (Z137l20 digits14 t15) ((0, s43) : Int × (List Event)) =
    overL (Z137l20_step digits14 t15) (fun (s43 : (List Event)) => some s43) 0 (List.range (t15).toNat) s43 := by
  refine B28 (List.range (t15).toNat) (fun n (s : (List Event)) => ((((n : Nat) : Int), s) : Int × (List Event))) _ _ (fun s => ?_) (fun i x s h => ?_) 0 s43 (A30 _)
  . have h1 : ¬ (((List.range (t15).toNat).length : Nat) : Int) < t15 := by simp only [A50]; omega
    unfold Z137l20; simp only [h1, A9, A5, A4, A37]
  . have hlt := B6 h
    rw [A50] at hlt hl
    rw [A82 hlt] at h
    cases h
    have h1 : ((i : Nat) : Int) < t15 := by omega
    have h0 : (0 : Int) <= ((i : Nat) : Int) := by omega
    have hw : i64.wrap (((i : Nat) : Int) + 1) = (((i + 1 : Nat) : Nat) : Int) := w64 (by omega)
    unfold Z137l20 Z137l20_step
    simp only [h1, h0, hw, A8, A6, A31, A15, A12, A1, A56, Function.comp_def, B48, B36, A37, A52]
theorem Z137_eq (n1 : Bool) (n2 : Int) : Z137 n1 n2 =
 (if n1 = true then
 some [(Event.mk 0 1)]
 else
 ((if (decide (n2 < 0)) = true then
 let t3 := i64.wrap (0 - n2);
 some (t3, 1)
 else
 some (n2, 0)) : Option (Int × Int)).bind (fun p4 =>
 let t7 := i64.wrap (p4.1 + 1);
 (loop (Z137l9) (t7, [])).bind (fun digits14 =>
 let t15 := i64.wrap (((digits14.length : Nat) : Int) - 1);
 (loop (Z137l14 t15) (0, [(Event.mk 0 0)])).bind (fun out25 =>
 ((if (decide (t15 < 20)) = true then
 let t26 := i64.wrap (1 + t15);
 (if (out25.length + ([(Event.mk t26 0)] : List Event).length) * 16 <= 140737488355328 then
 let t27 : List Event := out25 ++ [(Event.mk t26 0)];
 some t27
 else
 none)
 else
 some out25) : Option ((List Event))).bind (fun out28 =>
 (loop (Z137l20 digits14 t15) (0, out28)).bind (fun out44 =>
 (if (!decide (p4.1 = 0)) = true then
 (if (out44.length + ([(Event.mk 22 p4.2)] : List Event).length) * 16 <= 140737488355328 then
 let t45 : List Event := out44 ++ [(Event.mk 22 p4.2)];
 some t45
 else
 none)
 else
 some out44))))))) := (B0 ..).trans (by kernel_rfl)
end
end Go.Proofs.YtcphcfknnfibmaaGreat.P
