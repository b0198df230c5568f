/- Part of the proof of ViewServes: equations of functions. -/
import Derived.Test.YtcphcfknnfibmaaGreatG
import Derived.Test.YtcphcfknnfibmaaGreatF5
namespace Go.Proofs.YtcphcfknnfibmaaGreat.P
open Go Go.IntKind Go.Proofs.YtcphcfknnfibmaaGreat.V
set_option linter.unusedVariables false
set_option linter.unusedSimpArgs false
set_option maxRecDepth 100000
noncomputable section
noncomputable def Z57l4 (s1 : List Int) (i3 : Int) : Option ((Int) ⊕ ((Unit) ⊕ (Bool))) :=
 (if (decide (i3 < ((s1.length : Nat) : Int))) = true then
 (if 0 <= i3 ∧ i3 < ((s1).length : Int) then
 let t4 : Int := rd s1 i3;
 (if (decide (t4 ≥ 97)) = true then
 (if (decide (t4 <= 122)) = true then
 let t5 := i64.wrap (i3 + 1);
 some (Sum.inl t5)
 else
 (if (decide (t4 ≥ 48)) = true then
 (if (decide (t4 <= 57)) = true then
 let t6 := i64.wrap (i3 + 1);
 some (Sum.inl t6)
 else
 (if (decide (t4 = 46)) = true then
 let t7 := i64.wrap (i3 + 1);
 some (Sum.inl t7)
 else
 (if (!(decide (t4 = 45))) = true then
 some (Sum.inr (Sum.inr false))
 else
 let t8 := i64.wrap (i3 + 1);
 some (Sum.inl t8))))
 else
 (if (decide (t4 = 46)) = true then
 let t9 := i64.wrap (i3 + 1);
 some (Sum.inl t9)
 else
 (if (!(decide (t4 = 45))) = true then
 some (Sum.inr (Sum.inr false))
 else
 let t10 := i64.wrap (i3 + 1);
 some (Sum.inl t10)))))
 else
 (if (decide (t4 ≥ 48)) = true then
 (if (decide (t4 <= 57)) = true then
 let t11 := i64.wrap (i3 + 1);
 some (Sum.inl t11)
 else
 (if (decide (t4 = 46)) = true then
 let t12 := i64.wrap (i3 + 1);
 some (Sum.inl t12)
 else
 (if (!(decide (t4 = 45))) = true then
 some (Sum.inr (Sum.inr false))
 else
 let t13 := i64.wrap (i3 + 1);
 some (Sum.inl t13))))
 else
 (if (decide (t4 = 46)) = true then
 let t14 := i64.wrap (i3 + 1);
 some (Sum.inl t14)
 else
 (if (!(decide (t4 = 45))) = true then
 some (Sum.inr (Sum.inr false))
 else
 let t15 := i64.wrap (i3 + 1);
 some (Sum.inl t15)))))
 else
 none)
 else
 some (Sum.inr (Sum.inl ())))
theorem Z57_eq (s1 : List Int) : Z57 s1 =
 ((if (decide (((s1.length : Nat) : Int) < 1)) = true then
 some true
 else
 some (decide (((s1.length : Nat) : Int) > 20))) : Option (Bool)).bind (fun v2 =>
 (if v2 = true then
 some false
 else
 (loop (Z57l4 s1) 0).bind (fun o21 =>
 (Sum.elim (fun (p19 : Unit) =>
 some true)
 (fun (v20 : Bool) =>
 some v20) o21)))) := (B0 ..).trans (by kernel_rfl)
noncomputable def Z58l2 (l1 : List File) (name2 : List Int) (i3 : Int) : Option ((Int) ⊕ ((Unit) ⊕ (Int))) :=
 (if (decide (i3 < ((l1.length : Nat) : Int))) = true then
 (if 0 <= i3 then
 (l1[i3.toNat]?).bind fun e4 =>
 (if (decide (e4.name = name2)) = true then
 some (Sum.inr (Sum.inr i3))
 else
 let t5 := i64.wrap (i3 + 1);
 some (Sum.inl t5))
 else
 none)
 else
 some (Sum.inr (Sum.inl ())))
theorem Z58_eq (l1 : List File) (name2 : List Int) : Z58 l1 name2 =
 (loop (Z58l2 l1 name2) 0).bind (fun o11 =>
 (Sum.elim (fun (p9 : Unit) =>
 some (-1))
 (fun (v10 : Int) =>
 some v10) o11)) := (B0 ..).trans (by kernel_rfl)
noncomputable def Z59l3 (l1 : List Outline) (s2 : Int × Int × Bool × Int) : Option ((Int × Int × Bool × Int) ⊕ (Int × Int × Bool)) :=
 let i6 := s2.2.2.2;
 (if (decide (i6 < ((l1.length : Nat) : Int))) = true then
 (if 0 <= i6 then
 (l1[i6.toNat]?).bind fun e7 =>
 (Z59 e7.kids).bind fun q8 =>
 let t12 := i64.wrap (s2.1 + 1);
 let t13 := i64.wrap (t12 + q8.1);
 let t14 := i64.wrap (q8.2.1 + 1);
 let t15 := imax s2.2.1 t14;
 (if s2.2.2.1 = true then
 (if q8.2.2 = true then
 (if 0 <= i6 then
 (l1[i6.toNat]?).bind fun e16 =>
 (if (decide (((e16.title.length : Nat) : Int) <= 200)) = true then
 (if 0 <= i6 then
 (l1[i6.toNat]?).bind fun e17 =>
 (if (decide (e17.page ≥ 1)) = true then
 (if 0 <= i6 then
 (l1[i6.toNat]?).bind fun e18 =>
 let t19 := i64.wrap (i6 + 1);
 some (Sum.inl (t13, t15, decide (e18.page <= 1000), t19))
 else
 none)
 else
 let t20 := i64.wrap (i6 + 1);
 some (Sum.inl (t13, t15, false, t20)))
 else
 none)
 else
 let t21 := i64.wrap (i6 + 1);
 some (Sum.inl (t13, t15, false, t21)))
 else
 none)
 else
 let t22 := i64.wrap (i6 + 1);
 some (Sum.inl (t13, t15, false, t22)))
 else
 let t23 := i64.wrap (i6 + 1);
 some (Sum.inl (t13, t15, false, t23)))
 else
 none)
 else
 some (Sum.inr (s2.1, s2.2.1, s2.2.2.1)))
theorem Z59_eq (l1 : List Outline) : Z59 l1 =
 (loop (Z59l3 l1) (0, 0, true, 0)).bind (fun p30 =>
 some (p30.1, p30.2.1, p30.2.2)) := (B0 ..).trans (by kernel_rfl)
noncomputable def Z60l5 (b1 : List File) (s5 : Int × (List Int)) : Option ((Int × (List Int)) ⊕ ((List Int))) :=
 (if (decide (s5.1 < ((b1.length : Nat) : Int))) = true then
 (if 0 <= s5.1 then
 (b1[s5.1.toNat]?).bind fun e8 =>
 let t9 := u8.wrap e8.kind;
 (if (s5.2.length + ([t9] : List Int).length) * 1 <= 140737488355328 then
 let t10 : List Int := s5.2 ++ [t9];
 (Z87 ((e8.name.length : Nat) : Int)).bind fun q11 =>
 (if (t10.length + q11.length) * 1 <= 140737488355328 then
 let t12 : List Int := t10 ++ q11;
 (if (t12.length + e8.name.length) * 1 <= 140737488355328 then
 let t13 : List Int := t12 ++ e8.name;
 (Z87 ((e8.data.length : Nat) : Int)).bind fun q14 =>
 (if (t13.length + q14.length) * 1 <= 140737488355328 then
 let t15 : List Int := t13 ++ q14;
 let t16 := i64.wrap (s5.1 + 1);
 some (Sum.inl (t16, t15))
 else
 none)
 else
 none)
 else
 none)
 else
 none)
 else
 none)
 else
 some (Sum.inr s5.2))
theorem Z60_eq (b1 : List File) (b2 : List Outline) : Z60 b1 b2 =
 (Z18 b1 b2).bind fun q3 =>
 (if (!q3) = true then
 some ([], 110)
 else
 (Z87 ((b1.length : Nat) : Int)).bind fun q4 =>
 (loop (Z60l5 b1) (0, q4)).bind (fun out20 =>
 (Z88 b2).bind fun q21 =>
 (if (out20.length + q21.1.length) * 1 <= 140737488355328 then
 let t24 : List Int := out20 ++ q21.1;
 (Z89 t24).bind fun q25 =>
 some (q25.1, q25.2)
 else
 none))) := (B0 ..).trans (by kernel_rfl)
theorem Z61_eq (f1 : List Int) (f2 : Int) (f3 : List Int) : Z61 f1 f2 f3 =
 (Z87 ((f1.length : Nat) : Int)).bind fun q4 =>
 (if (q4.length + f1.length) * 1 <= 140737488355328 then
 let t5 : List Int := q4 ++ f1;
 (if (t5.length + f3.length) * 1 <= 140737488355328 then
 let t6 : List Int := t5 ++ f3;
 some ([70, 73, 76, 69], [], t6, [])
 else
 none)
 else
 none) := (B0 ..).trans (by kernel_rfl)
noncomputable def Z62l5 (l1 : List Chunk) (s3 : Int × Int) : Option ((Int × Int) ⊕ (Int)) :=
 (if (decide (s3.2 < ((l1.length : Nat) : Int))) = true then
 (if 0 <= s3.2 then
 (l1[s3.2.toNat]?).bind fun e6 =>
 (Z91 e6.id e6.kind e6.data e6.kids).bind fun q7 =>
 let t8 := i64.wrap (s3.1 + q7);
 let t9 := i64.wrap (s3.2 + 1);
 some (Sum.inl (t8, t9))
 else
 none)
 else
 some (Sum.inr s3.1))
noncomputable def Z62l5_step (i10 : Nat) (x11 : Chunk) (s12 : Int) : Option ((Int) ⊕ (Int)) :=
 (Z91 x11.id x11.kind x11.data x11.kids).bind fun q7 =>
 let t8 := i64.wrap (s12 + q7);
 some (Sum.inl (t8))
theorem Z62l5_over (l1 : List Chunk) (hl : l1.length <= 9223372036854775807) (s12 : Int) : loop (Z62l5 l1) ((s12, 0) : Int × Int) =
    overL (Z62l5_step) (fun (s12 : Int) => some s12) 0 l1 s12 := by
  refine B22 l1 (fun n (s : Int) => ((s, ((n : Nat) : Int)) : Int × Int)) _ _ (fun s => ?_) (fun i x s h => ?_) 0 s12 (A24 _)
  . unfold Z62l5; simp
  . have hlt := B7 h
    have h1 : ((i : Nat) : Int) < ((l1.length : Nat) : Int) := by omega
    have h0 : (0 : Int) <= ((i : Nat) : Int) := by omega
    have hw : i64.wrap (((i : Nat) : Int) + 1) = (((i + 1 : Nat) : Nat) : Int) := w64 (by omega)
    unfold Z62l5 Z62l5_step
    simp only [h1, h0, hw, h, A7, A5, A22, A13, A12, A1, A49, Function.comp_def, B42, B29, A31, A47]
theorem Z62_eq (l1 : List Chunk) : Z62 l1 =
 (Z90 l1).bind fun q2 =>
 (if (!q2) = true then
 some ([], 100)
 else
 (loop (Z62l5 l1) (0, 0)).bind (fun n13 =>
 (if (decide (n13 > 60000)) = true then
 some ([], 4)
 else
 (Z92 l1).bind fun q14 =>
 some (q14, 0)))) := (B0 ..).trans (by kernel_rfl)
theorem Z63_eq (at1 end2 : Int) (b3 : List Int) (b4 : Int) : Z63 at1 end2 b3 b4 =
 let t5 := i64.wrap (end2 - at1);
 (if (decide (t5 < 4)) = true then
 some ([], 6, b3, b4)
 else
 let t6 := i64.wrap (at1 + 4);
 (if 0 <= t6 ∧ t6 <= ((b3.length : Nat) : Int) then
 (if 0 <= at1 ∧ at1 <= t6 then
 let t7 : List Int := cutL b3 at1.toNat t6.toNat;
 (Z93 t7).bind fun q8 =>
 (if (!q8) = true then
 some ([], 3, b3, b4)
 else
 some (t7, 0, b3, b4))
 else
 none)
 else
 none)) := (B0 ..).trans (by kernel_rfl)
theorem Z64_eq (b1 : List Int) (at2 : Int) : Z64 b1 at2 =
 (Z94 b1 at2 10000).bind fun q3 =>
 (if (!decide (q3.2.2 = 0)) = true then
 some (q3.1, 0, 0, [], [], [], 0, 0, q3.2.2)
 else
 (if (decide (q3.2.1 ≥ ((b1.length : Nat) : Int))) = true then
 some (q3.1, 0, 0, [], [], [], 0, 0, 6)
 else
 (if 0 <= q3.2.1 ∧ q3.2.1 < (b1.length : Int) then
 let t7 := i64.wrap (rd b1 q3.2.1);
 let t8 := i64.wrap (q3.2.1 + 1);
 (if (decide (t7 > 31)) = true then
 some (q3.1, 0, 0, [], [], [], 0, 0, 3)
 else
 let t9 : Int := t7.tmod 16;
 ((if (decide (t7 ≥ 16)) = true then
 (Z95 b1 t8 q3.1).bind fun q10 =>
 (if (!decide (q10.2.2 = 0)) = true then
 some (Sum.inr (0, 0, q10.2.2, q3.1, t9, 0, q10.1, [], []))
 else
 some (Sum.inl (q10.2.1, q3.1, t9, 0, q10.1, [], [])))
 else
 some (Sum.inl (t8, q3.1, t9, 0, [], [], []))) : Option ((Int × Int × Int × Int × (List Int) × (List Bool) × (List Int)) ⊕ (Int × Int × Int × Int × Int × Int × (List Int) × (List Bool) × (List Int)))).bind (fun o32 =>
 (Sum.elim (fun (p14 : Int × Int × Int × Int × (List Int) × (List Bool) × (List Int)) =>
 let b19 := p14.2.2.2.2.1;
 let b21 := p14.2.2.2.2.2.2;
 let t33 := i64.wrap (((b19.length : Nat) : Int) + 1);
 (Z96 b1 p14.1 t33).bind fun q34 =>
 (if (!decide (q34.2.2 = 0)) = true then
 some (p14.2.1, p14.2.2.1, p14.2.2.2.1, b19, q34.1, b21, 0, 0, q34.2.2)
 else
 (Z94 b1 q34.2.1 1000).bind fun q38 =>
 (if (!decide (q38.2.2 = 0)) = true then
 some (p14.2.1, p14.2.2.1, q38.1, b19, q34.1, b21, 0, 0, q38.2.2)
 else
 (Z94 b1 q38.2.1 20000).bind fun q42 =>
 some (p14.2.1, p14.2.2.1, q38.1, b19, q34.1, b21, q42.1, q42.2.1, q42.2.2))))
 (fun (p22 : Int × Int × Int × Int × Int × Int × (List Int) × (List Bool) × (List Int)) =>
 some (p22.2.2.2.1, p22.2.2.2.2.1, p22.2.2.2.2.2.1, p22.2.2.2.2.2.2.1, p22.2.2.2.2.2.2.2.1, p22.2.2.2.2.2.2.2.2, p22.1, p22.2.1, p22.2.2.1)) o32)))
 else
 none))) := (B0 ..).trans (by kernel_rfl)
noncomputable def Z65l8 (l1 : List Segment) (v4 : Int) (e6 : Segment) (s11 : Int × (List Bool)) : Option ((Int × (List Bool)) ⊕ (((List Bool)) ⊕ ((List Bool) × Int × (List Bool)))) :=
 (if (decide (s11.1 < ((e6.refs.length : Nat) : Int))) = true then
 (if 0 <= s11.1 ∧ s11.1 < (e6.refs.length : Int) then
 (if 0 <= v4 ∧ v4 <= ((l1.length : Nat) : Int) then
 let t14 : List Segment := cutL l1 0 v4.toNat;
 (Z98 t14 (rd e6.refs s11.1)).bind fun q15 =>
 ((if (decide (q15 < 0)) = true then
 some true
 else
 (if 0 <= q15 ∧ q15 < (s11.2.length : Int) then
 (s11.2[q15.toNat]?).bind fun e16 =>
 (if (!e16) = true then
 some true
 else
 (if 0 <= q15 then
 (l1[q15.toNat]?).bind fun e17 =>
 (if (!decide (e17.page = 0)) = true then
 (if 0 <= q15 then
 (l1[q15.toNat]?).bind fun e18 =>
 some (!decide (e18.page = e6.page))
 else
 none)
 else
 some false)
 else
 none))
 else
 none)) : Option (Bool)).bind (fun v19 =>
 (if v19 = true then
 some (Sum.inr (Sum.inr ([], v4, s11.2)))
 else
 (if 0 <= s11.1 then
 (e6.keep[s11.1.toNat]?).bind fun e20 =>
 (if 0 <= q15 ∧ q15 < (s11.2.length : Int) then
 (s11.2[q15.toNat]?).bind fun e21 =>
 let w22 : List Bool := s11.2.set q15.toNat e20;
 let t23 := i64.wrap (s11.1 + 1);
 some (Sum.inl (t23, w22))
 else
 none)
 else
 none)))
 else
 none)
 else
 none)
 else
 some (Sum.inr (Sum.inl s11.2)))
noncomputable def Z65l3 (l1 : List Segment) (s3 : Int × (List Bool)) : Option ((Int × (List Bool)) ⊕ (((List Bool)) ⊕ ((List Bool) × Int × (List Bool)))) :=
 let v4 := s3.1;
 (if (decide (v4 < ((l1.length : Nat) : Int))) = true then
 (if 0 <= v4 then
 (l1[v4.toNat]?).bind fun e6 =>
 ((Z97 e6.number e6.kind e6.page e6.refs e6.keep e6.data).bind fun q7 =>
 (if (!q7) = true then
 some true
 else
 (if (decide (v4 > 0)) = true then
 let t8 := i64.wrap (v4 - 1);
 (if 0 <= t8 then
 (l1[t8.toNat]?).bind fun e9 =>
 some (decide (e6.number <= e9.number))
 else
 none)
 else
 some false)) : Option (Bool)).bind (fun v10 =>
 (if v10 = true then
 some (Sum.inr (Sum.inr ([], v4, s3.2)))
 else
 (loop (Z65l8 l1 v4 e6) (0, s3.2)).bind (fun o32 =>
 (Sum.elim (fun (b27 : (List Bool)) =>
 (if 0 <= ((e6.refs.length : Nat) : Int) then
 (e6.keep[((e6.refs.length : Nat) : Int).toNat]?).bind fun e33 =>
 (if 0 <= v4 ∧ v4 < (b27.length : Int) then
 (b27[v4.toNat]?).bind fun e34 =>
 let w35 : List Bool := b27.set v4.toNat e33;
 let t36 := i64.wrap (v4 + 1);
 some (Sum.inl (t36, w35))
 else
 none)
 else
 none))
 (fun (p28 : (List Bool) × Int × (List Bool)) =>
 some (Sum.inr (Sum.inr (p28.1, p28.2.1, p28.2.2)))) o32))))
 else
 none)
 else
 some (Sum.inr (Sum.inl s3.2)))
theorem Z65_eq (l1 : List Segment) : Z65 l1 =
 (if 0 <= ((l1.length : Nat) : Int) ∧ ((l1.length : Nat) : Int) <= ((l1.length : Nat) : Int) ∧ ((1 : Nat) : Int) * ((l1.length : Nat) : Int) <= 281474976710656 then
 let t2 : List Bool := List.replicate ((l1.length : Nat) : Int).toNat false;
 (loop (Z65l3 l1) (0, t2)).bind (fun o45 =>
 (Sum.elim (fun (b40 : (List Bool)) =>
 some (b40, (-1)))
 (fun (p41 : (List Bool) × Int × (List Bool)) =>
 some (p41.1, p41.2.1)) o45))
 else
 none) := (B0 ..).trans (by kernel_rfl)
noncomputable def Z66l7 (t51 : List Int) (s52 : Int × Int) : Option ((Int × Int) ⊕ (Int)) :=
 (if (decide (s52.2 < ((t51.length : Nat) : Int))) = true then
 (if 0 <= s52.2 ∧ s52.2 < (t51.length : Int) then
 let t55 := ishl .i64 s52.1 8;
 let t56 := i64.wrap (rd t51 s52.2);
 let t57 := ior .i64 t55 t56;
 let t58 := i64.wrap (s52.2 + 1);
 some (Sum.inl (t57, t58))
 else
 none)
 else
 some (Sum.inr s52.1))
noncomputable def Z66l7_step (i59 : Nat) (x60 s61 : Int) : Option ((Int) ⊕ (Int)) :=
 let t55 := ishl .i64 s61 8;
 let t56 := i64.wrap (x60);
 let t57 := ior .i64 t55 t56;
 some (Sum.inl (t57))
theorem Z66l7_over (t51 : List Int) (hl : t51.length <= 9223372036854775807) (s61 : Int) : loop (Z66l7 t51) ((s61, 0) : Int × Int) =
    overL (Z66l7_step) (fun (s61 : Int) => some s61) 0 t51 s61 := by
  refine B22 t51 (fun n (s : Int) => ((s, ((n : Nat) : Int)) : Int × Int)) _ _ (fun s => ?_) (fun i x s h => ?_) 0 s61 (A24 _)
  . unfold Z66l7; simp
  . have hlt := B7 h
    have h1 : ((i : Nat) : Int) < ((t51.length : Nat) : Int) := by omega
    have h0 : (0 : Int) <= ((i : Nat) : Int) := by omega
    have hw : i64.wrap (((i : Nat) : Int) + 1) = (((i + 1 : Nat) : Nat) : Int) := w64 (by omega)
    have hr : rd t51 ((i : Nat) : Int) = x := B41 h
    unfold Z66l7 Z66l7_step
    simp only [h1, h0, hw, h, hr, A7, A5, A22, A13, A12, A1, A49, Function.comp_def, B42, B29, A31, A47]
noncomputable def Z66_b (Z99 : type_of% @Z99) (Z100 : type_of% @Z100) (loop : type_of% @loop) (Z66l7 : type_of% @Z66l7) (Z101 : type_of% @Z101) (Z43 : type_of% @Z43) (Z102 : type_of% @Z102) (at1 end2 depth3 : Int) (b4 : List Int) (b5 b6 b7 : Int) : Option ((List Int) × (List Int) × (List Int) × (List Chunk) × Int × (List Int) × Int × Int × Int) :=
 (Z99 at1 end2 b4 b5 b6 b7).bind fun q8 =>
 let t14 := i64.wrap (q8.2.2.1 + 1);
 ((if (decide (t14 <= 400)) = true then
 (Z100 (decide (depth3 <= 8)) 4 at1 q8.2.1 t14 q8.2.2.2.1 q8.2.2.2.2).bind fun q15 =>
 (if (!q15.1) = true then
 some (true, q15.2.1, q15.2.2.1, q15.2.2.2.1, q15.2.2.2.2)
 else
 let t21 := i64.wrap (end2 - at1);
 let t22 := i64.wrap (at1 + 4);
 (Z100 (decide (t21 ≥ 8)) 6 t22 q15.2.1 q15.2.2.1 q15.2.2.2.1 q15.2.2.2.2).bind fun q23 =>
 some (!q23.1, q23.2.1, q23.2.2.1, q23.2.2.2.1, q23.2.2.2.2))
 else
 (Z100 false 4 at1 q8.2.1 t14 q8.2.2.2.1 q8.2.2.2.2).bind fun q29 =>
 (if (!q29.1) = true then
 some (true, q29.2.1, q29.2.2.1, q29.2.2.2.1, q29.2.2.2.2)
 else
 let t35 := i64.wrap (end2 - at1);
 let t36 := i64.wrap (at1 + 4);
 (Z100 (decide (t35 ≥ 8)) 6 t36 q29.2.1 q29.2.2.1 q29.2.2.2.1 q29.2.2.2.2).bind fun q37 =>
 some (!q37.1, q37.2.1, q37.2.2.1, q37.2.2.2.1, q37.2.2.2.2))) : Option (Bool × (List Int) × Int × Int × Int)).bind (fun p43 =>
 (if p43.1 = true then
 some (q8.1, [], [], [], end2, p43.2.1, p43.2.2.1, p43.2.2.2.1, p43.2.2.2.2)
 else
 let t49 := i64.wrap (at1 + 4);
 let t50 := i64.wrap (at1 + 8);
 (if 0 <= t50 ∧ t50 <= ((p43.2.1.length : Nat) : Int) then
 (if 0 <= t49 ∧ t49 <= t50 then
 let t51 : List Int := cutL p43.2.1 t49.toNat t50.toNat;
 (loop (Z66l7 t51) (0, 0)).bind (fun n62 =>
 let t63 := i64.wrap (at1 + 8);
 let t64 := i64.wrap (end2 - t63);
 let t65 := i64.wrap (at1 + 4);
 (Z100 (decide (n62 <= t64)) 6 t65 p43.2.1 p43.2.2.1 p43.2.2.2.1 p43.2.2.2.2).bind fun q66 =>
 (if (!q66.1) = true then
 some (q8.1, [], [], [], end2, q66.2.1, q66.2.2.1, q66.2.2.2.1, q66.2.2.2.2)
 else
 let t72 := i64.wrap (t63 + n62);
 ((if (decide (q8.1 = [70, 79, 82, 77])) = true then
 (Z101 t63 t72 q66.2.1 q66.2.2.1 q66.2.2.2.1 q66.2.2.2.2).bind fun q73 =>
 let t79 := i64.wrap (t63 + 4);
 let t80 := i64.wrap (depth3 + 1);
 (Z43 t79 t72 t80 q73.2.1 q73.2.2.1 q73.2.2.2.1 q73.2.2.2.2).bind fun q81 =>
 some (q81.2.1, q81.2.2.1, q81.2.2.2.1, q81.2.2.2.2, q8.1, q73.1, [], q81.1)
 else
 (if 0 <= t72 ∧ t72 <= ((q66.2.1.length : Nat) : Int) then
 (if 0 <= t63 ∧ t63 <= t72 then
 let t87 : List Int := cutL q66.2.1 t63.toNat t72.toNat;
 (Z102 t87).bind fun q88 =>
 some (q66.2.1, q66.2.2.1, q66.2.2.2.1, q66.2.2.2.2, q8.1, [], q88, [])
 else
 none)
 else
 none)) : Option ((List Int) × Int × Int × Int × (List Int) × (List Int) × (List Int) × (List Chunk))).bind (fun p89 =>
 (let t98 : Int := n62.tmod 2;
 (if (decide (t98 = 1)) = true then
 (Z100 (decide (t72 < end2)) 6 t72 p89.1 p89.2.1 p89.2.2.1 p89.2.2.2.1).bind fun q99 =>
 some (q99.1, q99.2.1, q99.2.2.1, q99.2.2.2.1, q99.2.2.2.2)
 else
 some (false, p89.1, p89.2.1, p89.2.2.1, p89.2.2.2.1)) : Option (Bool × (List Int) × Int × Int × Int)).bind (fun p105 =>
 (if p105.1 = true then
 (if 0 <= t72 ∧ t72 < (p105.2.1.length : Int) then
 (Z100 (decide (rd p105.2.1 t72 = 0)) 3 t72 p105.2.1 p105.2.2.1 p105.2.2.2.1 p105.2.2.2.2).bind fun q111 =>
 let t117 := i64.wrap (t72 + 1);
 some (p89.2.2.2.2.1, p89.2.2.2.2.2.1, p89.2.2.2.2.2.2.1, p89.2.2.2.2.2.2.2, t117, q111.2.1, q111.2.2.1, q111.2.2.2.1, q111.2.2.2.2)
 else
 none)
 else
 some (p89.2.2.2.2.1, p89.2.2.2.2.2.1, p89.2.2.2.2.2.2.1, p89.2.2.2.2.2.2.2, t72, p105.2.1, p105.2.2.1, p105.2.2.2.1, p105.2.2.2.2))))))
 else
 none)
 else
 none)))
theorem Z66_eq at1 end2 depth3 b4 b5 b6 b7 : Z66 at1 end2 depth3 b4 b5 b6 b7 = Z66_b @Z99 @Z100 @loop @Z66l7 @Z101 @Z43 @Z102 at1 end2 depth3 b4 b5 b6 b7 := (B0 ..).trans (by kernel_rfl)
noncomputable def Z67l4 (b1 : List Int) (at2 : Int) (s4 : Int × Int) : Option ((Int × Int) ⊕ ((Unit) ⊕ (Int × Int × Int))) :=
 (if (decide (s4.2 < 5)) = true then
 let t7 := i64.wrap (at2 + s4.2);
 (if (decide (t7 ≥ ((b1.length : Nat) : Int))) = true then
 some (Sum.inr (Sum.inr (0, 0, 6)))
 else
 let t8 := i64.wrap (at2 + s4.2);
 (if 0 <= t8 ∧ t8 < (b1.length : Int) then
 let t9 := i64.wrap (rd b1 t8);
 let t10 := i64.wrap (s4.1 * 128);
 let t11 : Int := t9.tmod 128;
 let t12 := i64.wrap (t10 + t11);
 (if (decide (t9 < 128)) = true then
 ((if (decide (t12 > 2147483647)) = true then
 some true
 else
 (if (decide (s4.2 > 0)) = true then
 (if 0 <= at2 ∧ at2 < (b1.length : Int) then
 some (decide (rd b1 at2 = 128))
 else
 none)
 else
 some false)) : Option (Bool)).bind (fun v13 =>
 (if v13 = true then
 some (Sum.inr (Sum.inr (0, 0, 3)))
 else
 let t14 := i64.wrap (at2 + s4.2);
 let t15 := i64.wrap (t14 + 1);
 some (Sum.inr (Sum.inr (t12, t15, 0)))))
 else
 let t16 := i64.wrap (s4.2 + 1);
 some (Sum.inl (t12, t16)))
 else
 none))
 else
 some (Sum.inr (Sum.inl ())))
noncomputable def Z67_b (loop : type_of% @loop) (Z67l4 : type_of% @Z67l4) (b1 : List Int) (at2 : Int) : Option (Int × Int × Int) :=
 ((if (decide (at2 < 0)) = true then
 some true
 else
 some (decide (at2 > ((b1.length : Nat) : Int)))) : Option (Bool)).bind (fun v3 =>
 (if v3 = true then
 some (0, 0, 2)
 else
 (loop (Z67l4 b1 at2) (0, 0)).bind (fun o25 =>
 (Sum.elim (fun (p20 : Unit) =>
 some (0, 0, 3))
 (fun (p21 : Int × Int × Int) =>
 some (p21.1, p21.2.1, p21.2.2)) o25))))
theorem Z67_eq b1 at2 : Z67 b1 at2 = Z67_b @loop @Z67l4 b1 at2 := (B0 ..).trans (by kernel_rfl)
noncomputable def Z68_b (kind1 n2 : Int) : Option (Int × Int × (List Int)) :=
 ((if (!decide (kind1 = 0)) = true then
 (if (!decide (kind1 = 1)) = true then
 some true
 else
 (if (decide (n2 < 0)) = true then
 some true
 else
 some (decide (n2 > 8192))))
 else
 (if (decide (n2 < 0)) = true then
 some true
 else
 some (decide (n2 > 8192)))) : Option (Bool)).bind (fun v3 =>
 (if v3 = true then
 some (0, 2, [])
 else
 (if 0 <= n2 ∧ n2 <= n2 ∧ ((8 : Nat) : Int) * n2 <= 281474976710656 then
 let t4 : List Int := List.replicate n2.toNat 0;
 some (kind1, 0, t4)
 else
 none)))
theorem Z68_eq kind1 n2 : Z68 kind1 n2 = Z68_b kind1 n2 := (B0 ..).trans (by kernel_rfl)
noncomputable def Z69l5_b (Z105 : type_of% @Z105) (s11 : Int × (List Int) × (List Int) × Int × Int × Int × Int × Int × Int) : Option ((Int × (List Int) × (List Int) × Int × Int × Int × Int × Int × Int) ⊕ ((List Int) × (List Int) × Int × Int × Int × Int × Int × Int)) :=
 (if (decide (s11.1 < 4)) = true then
 (Z105 s11.2.2.2.1 s11.2.2.2.2.1 s11.2.2.2.2.2.1 s11.2.2.2.2.2.2.1 s11.2.2.2.2.2.2.2.1 s11.2.2.2.2.2.2.2.2 s11.2.1 s11.2.2.1).bind fun q21 =>
 let t30 := i64.wrap (s11.1 + 1);
 some (Sum.inl (t30, q21.2.2.2.2.2.2.1, q21.2.2.2.2.2.2.2, q21.1, q21.2.1, q21.2.2.1, q21.2.2.2.1, q21.2.2.2.2.1, q21.2.2.2.2.2.1))
 else
 some (Sum.inr (s11.2.1, s11.2.2.1, s11.2.2.2.1, s11.2.2.2.2.1, s11.2.2.2.2.2.1, s11.2.2.2.2.2.2.1, s11.2.2.2.2.2.2.2.1, s11.2.2.2.2.2.2.2.2)))
noncomputable def Z69l5 := Z69l5_b @Z105
noncomputable def Z69_b (Z103 : type_of% @Z103) (Z104 : type_of% @Z104) (loop : type_of% @loop) (Z69l5 : type_of% @Z69l5) (m1 : Int) (m2 b3 : List Int) : Option ((Int × Int × Int × (List Int) × Int × Int × Int × Bool × (List Int)) ⊕ (Unit)) :=
 (Z103 m1 m2).bind fun q4 =>
 (if (!q4) = true then
 some (Sum.inr ())
 else
 (Z104 m1 m2).bind fun q5 =>
 (if (([] : List Int).length + b3.length) * 1 <= 140737488355328 then
 let t10 : List Int := ([] : List Int) ++ b3;
 (loop (Z69l5) (0, q5.2.2.2, t10, q5.1, q5.2.1, q5.2.2.1, 0, 0, 0)).bind (fun p42 =>
 some (Sum.inl (p42.2.2.1, p42.2.2.2.1, p42.2.2.2.2.1, p42.2.1, p42.2.2.2.2.2.1, p42.2.2.2.2.2.2.1, p42.2.2.2.2.2.2.2, false, p42.1)))
 else
 none))
theorem Z69_eq m1 m2 b3 : Z69 m1 m2 b3 = Z69_b @Z103 @Z104 @loop @Z69l5 m1 m2 b3 := (B0 ..).trans (by kernel_rfl)
noncomputable def Z70_b (last1 : Int) : Option Int :=
 (if (decide (last1 = 0)) = true then
 some 0
 else
 (if (decide (last1 <= 15)) = true then
 some 48
 else
 some 96))
theorem Z70_eq last1 : Z70 last1 = Z70_b last1 := (B0 ..).trans (by kernel_rfl)
noncomputable def Z71_b (Z106 : type_of% @Z106) (Z107 : type_of% @Z107) (Z108 : type_of% @Z108) (Z109 : type_of% @Z109) (base1 b2 b3 b4 : Int) (b5 : List Int) (b6 b7 b8 : Int) (b9 : Bool) (b10 : List Int) : Option (Bool × Int × Int × Int × Int × Int × (List Int) × Int × Int × Int × Bool × (List Int)) :=
 (Z106 (-1) b2 b3 b4 b5 b6 b7 b8 b9 b10).bind fun q11 =>
 let tr21 := q11.2.2.2.2.2.2.2.2.2.1;
 let tr22 := q11.2.2.2.2.2.2.2.2.2.2;
 (if (decide (q11.2.1 = 7)) = true then
 some (false, 0, q11.2.1, q11.2.2.1, q11.2.2.2.1, q11.2.2.2.2.1, q11.2.2.2.2.2.1, q11.2.2.2.2.2.2.1, q11.2.2.2.2.2.2.2.1, q11.2.2.2.2.2.2.2.2.1, tr21, tr22)
 else
 (Z107 q11.2.2.1 q11.2.2.2.1 q11.2.2.2.2.1 q11.2.2.2.2.2.1 q11.2.2.2.2.2.2.1 q11.2.2.2.2.2.2.2.1 q11.2.2.2.2.2.2.2.2.1 tr21 tr22).bind fun q23 =>
 let tr33 := q23.2.2.2.2.2.2.2.2.2.1;
 let tr34 := q23.2.2.2.2.2.2.2.2.2.2;
 (Z108 q23.1 q23.2.1 base1 48).bind fun q35 =>
 (if (!decide (q35 = 0)) = true then
 some (false, 0, q35, q23.2.2.1, q23.2.2.2.1, q23.2.2.2.2.1, q23.2.2.2.2.2.1, q23.2.2.2.2.2.2.1, q23.2.2.2.2.2.2.2.1, q23.2.2.2.2.2.2.2.2.1, tr33, tr34)
 else
 (Z109 base1 q23.2.2.1 q23.2.2.2.1 q23.2.2.2.2.1 q23.2.2.2.2.2.1 q23.2.2.2.2.2.2.1 q23.2.2.2.2.2.2.2.1 q23.2.2.2.2.2.2.2.2.1 tr33 tr34).bind fun q36 =>
 some (q36.1, q36.2.1, q36.2.2.1, q36.2.2.2.1, q36.2.2.2.2.1, q36.2.2.2.2.2.1, q36.2.2.2.2.2.2.1, q36.2.2.2.2.2.2.2.1, q36.2.2.2.2.2.2.2.2.1, q36.2.2.2.2.2.2.2.2.2.1, q36.2.2.2.2.2.2.2.2.2.2.1, q36.2.2.2.2.2.2.2.2.2.2.2)))
theorem Z71_eq base1 b2 b3 b4 b5 b6 b7 b8 b9 b10 : Z71 base1 b2 b3 b4 b5 b6 b7 b8 b9 b10 = Z71_b @Z106 @Z107 @Z108 @Z109 base1 b2 b3 b4 b5 b6 b7 b8 b9 b10 := (B0 ..).trans (by kernel_rfl)
noncomputable def Z72l7_b (Z112 : type_of% @Z112) (l1 : List Int) (s4 : Int × (List Int) × (List Int)) : Option ((Int × (List Int) × (List Int)) ⊕ ((List Int) × (List Int))) :=
 (if (decide (s4.1 < ((l1.length : Nat) : Int))) = true then
 (if 0 <= s4.1 ∧ s4.1 < (l1.length : Int) then
 (Z112 (rd l1 s4.1) s4.2.1).bind fun q8 =>
 (if (s4.2.2.length + ([q8.1] : List Int).length) * 8 <= 140737488355328 then
 let t11 : List Int := s4.2.2 ++ [q8.1];
 let t12 := i64.wrap (s4.1 + 1);
 some (Sum.inl (t12, q8.2, t11))
 else
 none)
 else
 none)
 else
 some (Sum.inr (s4.2.1, s4.2.2)))
noncomputable def Z72l7 := Z72l7_b @Z112
noncomputable def Z72_b (Z110 : type_of% @Z110) (Z111 : type_of% @Z111) (loop : type_of% @loop) (Z72l7 : type_of% @Z72l7) (l1 : List Int) : Option ((List Int) × Int) :=
 (Z110 l1).bind fun q2 =>
 (if (!decide (q2 = 0)) = true then
 some ([], q2)
 else
 (Z111).bind fun q3 =>
 (loop (Z72l7 l1) (0, q3, [])).bind (fun p18 =>
 some (p18.2, 0)))
theorem Z72_eq l1 : Z72 l1 = Z72_b @Z110 @Z111 @loop @Z72l7 l1 := (B0 ..).trans (by kernel_rfl)
noncomputable def Z73l3 (l1 : List Int) (s4 : Int × (List Int)) : Option ((Int × (List Int)) ⊕ ((List Int))) :=
 (if (decide (s4.1 < ((l1.length : Nat) : Int))) = true then
 (if 0 <= s4.1 ∧ s4.1 < (l1.length : Int) then
 let t7 := i64.wrap (rd l1 s4.1 + 1);
 (if 0 <= t7 ∧ t7 < ((258 : Nat) : Int) ∧ t7 < (s4.2.length : Int) then
 let t8 : Int := rd s4.2 t7;
 let t9 := i64.wrap (t8 + 1);
 (if 0 <= t7 ∧ t7 < ((258 : Nat) : Int) ∧ t7 < (s4.2.length : Int) then
 let w10 : List Int := s4.2.set t7.toNat t9;
 let t11 := i64.wrap (s4.1 + 1);
 some (Sum.inl (t11, w10))
 else
 none)
 else
 none)
 else
 none)
 else
 some (Sum.inr s4.2))
noncomputable def Z73l10 (s17 : Int × (List Int)) : Option ((Int × (List Int)) ⊕ ((List Int))) :=
 (if (decide (s17.1 < 257)) = true then
 let t20 := i64.wrap (s17.1 + 1);
 (if 0 <= t20 ∧ t20 < ((258 : Nat) : Int) ∧ t20 < (s17.2.length : Int) then
 let t21 : Int := rd s17.2 t20;
 (if 0 <= s17.1 ∧ s17.1 < ((258 : Nat) : Int) ∧ s17.1 < (s17.2.length : Int) then
 let t22 : Int := rd s17.2 s17.1;
 let t23 := i64.wrap (t21 + t22);
 (if 0 <= t20 ∧ t20 < ((258 : Nat) : Int) ∧ t20 < (s17.2.length : Int) then
 let w24 : List Int := s17.2.set t20.toNat t23;
 let t25 := i64.wrap (s17.1 + 1);
 some (Sum.inl (t25, w24))
 else
 none)
 else
 none)
 else
 none)
 else
 some (Sum.inr s17.2))
noncomputable def Z73l16 (l1 : List Int) (b29 : (List Int)) (s31 : Int × (List Int) × (List Int)) : Option ((Int × (List Int) × (List Int)) ⊕ ((List Int) × (List Int))) :=
 let v32 := s31.1;
 let b33 := s31.2.1;
 (if (decide (v32 < ((l1.length : Nat) : Int))) = true then
 (if 0 <= v32 ∧ v32 < (l1.length : Int) then
 (if 0 <= rd l1 v32 ∧ rd l1 v32 < ((258 : Nat) : Int) ∧ rd l1 v32 < (b29.length : Int) then
 let t35 : Int := rd b29 (rd l1 v32);
 (if 0 <= rd l1 v32 ∧ rd l1 v32 < ((258 : Nat) : Int) ∧ rd l1 v32 < (b33.length : Int) then
 let t36 : Int := rd b33 (rd l1 v32);
 let t37 := i64.wrap (t35 + t36);
 (if 0 <= v32 ∧ v32 < (s31.2.2.length : Int) then
 let w38 : List Int := s31.2.2.set v32.toNat t37;
 (if 0 <= rd l1 v32 ∧ rd l1 v32 < ((258 : Nat) : Int) ∧ rd l1 v32 < (b33.length : Int) then
 let t39 : Int := rd b33 (rd l1 v32);
 let t40 := i64.wrap (t39 + 1);
 (if 0 <= rd l1 v32 ∧ rd l1 v32 < ((258 : Nat) : Int) ∧ rd l1 v32 < (b33.length : Int) then
 let w41 : List Int := b33.set (rd l1 v32).toNat t40;
 let t42 := i64.wrap (v32 + 1);
 some (Sum.inl (t42, w41, w38))
 else
 none)
 else
 none)
 else
 none)
 else
 none)
 else
 none)
 else
 none)
 else
 some (Sum.inr (b33, s31.2.2)))
noncomputable def Z73l25 (l1 b50 : List Int) (s55 : Int × (List Int) × Int × (List Int) × Int) : Option ((Int × (List Int) × Int × (List Int) × Int) ⊕ (((List Int) × Int × (List Int) × Int) ⊕ ((List Int) × Int × (List Int) × Int))) :=
 let b59 := s55.2.2.2.1;
 let b60 := s55.2.2.2.2;
 (if (decide (s55.1 ≥ 0)) = true then
 (if 0 <= s55.1 ∧ s55.1 < (b59.length : Int) then
 let t61 : Int := rd b59 s55.1;
 (if 0 <= b60 ∧ b60 < (l1.length : Int) then
 (if (decide (rd l1 b60 = 0)) = true then
 some (Sum.inr (Sum.inr ([], 3, b59, b60)))
 else
 (if 0 <= b60 ∧ b60 < (l1.length : Int) then
 let t62 := i64.wrap (rd l1 b60 - 1);
 let t63 := u8.wrap t62;
 (if 0 <= s55.1 ∧ s55.1 < (b59.length : Int) then
 let w64 : List Int := b59.set s55.1.toNat t63;
 (if 0 <= b60 ∧ b60 < (b50.length : Int) then
 let t65 : Int := rd b50 b60;
 let i66 := i64.wrap (s55.1 - 1);
 some (Sum.inl (i66, s55.2.1, s55.2.2.1, w64, t65))
 else
 none)
 else
 none)
 else
 none))
 else
 none)
 else
 none)
 else
 some (Sum.inr (Sum.inl (s55.2.1, s55.2.2.1, b59, b60))))
noncomputable def Z73_b (loop : type_of% @loop) (Z73l3 : type_of% @Z73l3) (Z73l10 : type_of% @Z73l10) (Z73l16 : type_of% @Z73l16) (Z113 : type_of% @Z113) (Z73l25 : type_of% @Z73l25) (Z114 : type_of% @Z114) (Z115 : type_of% @Z115) (l1 : List Int) : Option ((List Int) × Int) :=
 let begins2 : List Int := List.replicate 258 0;
 let seen3 : List Int := List.replicate 258 0;
 (loop (Z73l3 l1) (0, begins2)).bind (fun b15 =>
 (if 0 <= (1 : Int) ∧ (1 : Int) < ((258 : Nat) : Int) ∧ (1 : Int) < (b15.length : Int) then
 let t16 : Int := rd b15 1;
 (if (!decide (t16 = 1)) = true then
 some ([], 3)
 else
 (loop (Z73l10) (0, b15)).bind (fun b29 =>
 (if 0 <= ((l1.length : Nat) : Int) ∧ ((l1.length : Nat) : Int) <= ((l1.length : Nat) : Int) ∧ ((8 : Nat) : Int) * ((l1.length : Nat) : Int) <= 281474976710656 then
 let t30 : List Int := List.replicate ((l1.length : Nat) : Int).toNat 0;
 (loop (Z73l16 l1 b29) (0, seen3, t30)).bind (fun p48 =>
 let t51 := i64.wrap (((l1.length : Nat) : Int) - 1);
 (if 0 <= t51 ∧ t51 <= t51 ∧ ((1 : Nat) : Int) * t51 <= 281474976710656 then
 let t52 : List Int := List.replicate t51.toNat 0;
 (Z113 t52).bind fun q53 =>
 let x54 := i64.wrap (((q53.length : Nat) : Int) - 1);
 (loop (Z73l25 l1 p48.2) (x54, [], 0, q53, 0)).bind (fun o77 =>
 (Sum.elim (fun (p67 : (List Int) × Int × (List Int) × Int) =>
 (Z114 p67.2.2.1).bind fun q78 =>
 (Z115 q78 l1).bind fun q79 =>
 (if (!q79) = true then
 some ([], 3)
 else
 some (p67.2.2.1, 0)))
 (fun (p72 : (List Int) × Int × (List Int) × Int) =>
 some (p72.1, p72.2.1)) o77))
 else
 none))
 else
 none)))
 else
 none))
theorem Z73_eq l1 : Z73 l1 = Z73_b @loop @Z73l3 @Z73l10 @Z73l16 @Z113 @Z73l25 @Z114 @Z115 l1 := (B0 ..).trans (by kernel_rfl)
noncomputable def Z74_b (Z46 : type_of% @Z46) (n1 : Int) (b2 : List Int) (b3 b4 : Int) : Option ((List Int) × (List Int) × Int × Int) :=
 let t5 := i64.wrap (((b2.length : Nat) : Int) - b3);
 (Z46 (decide (n1 <= t5)) 6 b2 b3 b4).bind fun q6 =>
 (if (!q6.1) = true then
 some ([], q6.2.1, q6.2.2.1, q6.2.2.2)
 else
 let t11 := i64.wrap (q6.2.2.1 + n1);
 let t12 := i64.wrap (t11 - n1);
 (if 0 <= t11 ∧ t11 <= ((q6.2.1.length : Nat) : Int) then
 (if 0 <= t12 ∧ t12 <= t11 then
 let t13 : List Int := cutL q6.2.1 t12.toNat t11.toNat;
 some (t13, q6.2.1, t11, q6.2.2.2)
 else
 none)
 else
 none))
theorem Z74_eq n1 b2 b3 b4 : Z74 n1 b2 b3 b4 = Z74_b @Z46 n1 b2 b3 b4 := (B0 ..).trans (by kernel_rfl)
noncomputable def Z75_b (Z45 : type_of% @Z45) (Z46 : type_of% @Z46) (Z74 : type_of% @Z74) (Z52 : type_of% @Z52) (b1 : List Int) (b2 b3 : Int) : Option ((List Int) × (List Int) × Int × Int) :=
 (Z45 b1 b2 b3).bind fun q4 =>
 (Z46 (decide (q4.1 <= 20)) 3 q4.2.1 q4.2.2.1 q4.2.2.2).bind fun q9 =>
 (Z74 q4.1 q9.2.1 q9.2.2.1 q9.2.2.2).bind fun q14 =>
 (Z52 q14.1).bind fun q19 =>
 (Z46 q19 3 q14.2.1 q14.2.2.1 q14.2.2.2).bind fun q20 =>
 some (q14.1, q20.2.1, q20.2.2.1, q20.2.2.2)
theorem Z75_eq b1 b2 b3 : Z75 b1 b2 b3 = Z75_b @Z45 @Z46 @Z74 @Z52 b1 b2 b3 := (B0 ..).trans (by kernel_rfl)
noncomputable def Z76l3_b (Z117 : type_of% @Z117) (Z116 : type_of% @Z116) (Z76 : type_of% @Z76) (depth1 : Int) (s12 : Int × (List Int) × Int × Int × Int × (List Outline)) : Option ((Int × (List Int) × Int × Int × Int × (List Outline)) ⊕ (((List Int) × Int × Int × Int × (List Outline)) ⊕ ((List Outline) × (List Int) × Int × Int × Int))) :=
 let b17 := s12.2.2.2.2.1;
 ((if (decide (s12.1 > 0)) = true then
 some (decide (b17 = 0))
 else
 some false) : Option (Bool)).bind (fun v19 =>
 (if v19 = true then
 let t20 := i64.wrap (s12.2.2.2.1 + 1);
 ((if (decide (t20 > 400)) = true then
 some true
 else
 some (decide (depth1 > 20))) : Option (Bool)).bind (fun v21 =>
 (if v21 = true then
 some (Sum.inr (Sum.inr ([], s12.2.1, s12.2.2.1, t20, 4)))
 else
 (Z117 s12.2.1 s12.2.2.1 t20 b17).bind fun q22 =>
 (Z116 1 1000 q22.2.1 q22.2.2.1 q22.2.2.2.1 q22.2.2.2.2).bind fun q28 =>
 let t34 := i64.wrap (depth1 + 1);
 (Z76 t34 q28.2.1 q28.2.2.1 q28.2.2.2.1 q28.2.2.2.2).bind fun q35 =>
 (if (s12.2.2.2.2.2.length + ([(Outline.mk q22.1 q28.1 q35.1)] : List Outline).length) * 48 <= 140737488355328 then
 let t41 : List Outline := s12.2.2.2.2.2 ++ [(Outline.mk q22.1 q28.1 q35.1)];
 let t42 := i64.wrap (s12.1 - 1);
 some (Sum.inl (t42, q35.2.1, q35.2.2.1, q35.2.2.2.1, q35.2.2.2.2, t41))
 else
 none)))
 else
 some (Sum.inr (Sum.inl (s12.2.1, s12.2.2.1, s12.2.2.2.1, b17, s12.2.2.2.2.2)))))
noncomputable def Z76l3 := Z76l3_b @Z117 @Z116 @Z76
noncomputable def Z76_b (Z116 : type_of% @Z116) (loop : type_of% @loop) (Z76l3 : type_of% @Z76l3) (depth1 : Int) (b2 : List Int) (b3 b4 b5 : Int) : Option ((List Outline) × (List Int) × Int × Int × Int) :=
 (Z116 0 2147483648 b2 b3 b4 b5).bind fun q6 =>
 (loop (Z76l3 depth1) (q6.1, q6.2.1, q6.2.2.1, q6.2.2.2.1, q6.2.2.2.2, [])).bind (fun o55 =>
 (Sum.elim (fun (p43 : (List Int) × Int × Int × Int × (List Outline)) =>
 some (p43.2.2.2.2, p43.1, p43.2.1, p43.2.2.1, p43.2.2.2.1))
 (fun (p49 : (List Outline) × (List Int) × Int × Int × Int) =>
 some (p49.1, p49.2.1, p49.2.2.1, p49.2.2.2.1, p49.2.2.2.2)) o55))
theorem Z76_eq depth1 b2 b3 b4 b5 : Z76 depth1 b2 b3 b4 b5 = Z76_b @Z116 @loop @Z76l3 depth1 b2 b3 b4 b5 := (B0 ..).trans (by kernel_rfl)
noncomputable def Z77_b (f1 : List Int) (f2 : Int) (f3 b4 : List Int) : Option (Bool × (List Int)) :=
 some (decide (f1 = b4), b4)
theorem Z77_eq f1 f2 f3 b4 : Z77 f1 f2 f3 b4 = Z77_b f1 f2 f3 b4 := (B0 ..).trans (by kernel_rfl)
noncomputable def Z78l2_b (Z79 : type_of% @Z79) (s1 : List Int) (s3 : Int × Int) : Option ((Int × Int) ⊕ ((Int) ⊕ (Int × Int))) :=
 (if (decide (s3.1 < ((s1.length : Nat) : Int))) = true then
 (if 0 <= s3.1 ∧ s3.1 < (s1.length : Int) then
 (Z79 (rd s1 s3.1) s3.2).bind fun q6 =>
 (if q6.1 = true then
 some (Sum.inr (Sum.inr (s3.1, q6.2)))
 else
 let t9 := i64.wrap (s3.1 + 1);
 some (Sum.inl (t9, q6.2)))
 else
 none)
 else
 some (Sum.inr (Sum.inl s3.2)))
noncomputable def Z78l2 := Z78l2_b @Z79
noncomputable def Z78l2_step (i10 : Nat) (x11 s12 : Int) : Option ((Int) ⊕ ((Int) ⊕ (Int × Int))) :=
 (Z79 (x11) s12).bind fun q6 =>
 (if q6.1 = true then
 some (Sum.inr (Sum.inr (((i10 : Nat) : Int), q6.2)))
 else
 some (Sum.inl (q6.2)))
theorem Z78l2_over (s1 : List Int) (hl : s1.length <= 9223372036854775807) (s12 : Int) : loop (Z78l2 s1) ((0, s12) : Int × Int) =
    overL (Z78l2_step) (fun (s12 : Int) => some (Sum.inl s12)) 0 s1 s12 := by
  refine B22 s1 (fun n (s : Int) => ((((n : Nat) : Int), s) : Int × Int)) _ _ (fun s => ?_) (fun i x s h => ?_) 0 s12 (A24 _)
  . unfold Z78l2 Z78l2_b; simp
  . have hlt := B7 h
    have h1 : ((i : Nat) : Int) < ((s1.length : Nat) : Int) := by omega
    have h0 : (0 : Int) <= ((i : Nat) : Int) := by omega
    have hw : i64.wrap (((i : Nat) : Int) + 1) = (((i + 1 : Nat) : Nat) : Int) := w64 (by omega)
    have hr : rd s1 ((i : Nat) : Int) = x := B41 h
    unfold Z78l2 Z78l2_b Z78l2_step
    simp only [h1, h0, hw, h, hr, A7, A5, A22, A13, A12, A1, A49, Function.comp_def, B42, B29, A31, A47]
noncomputable def Z78_b (loop : type_of% @loop) (Z78l2 : type_of% @Z78l2) (s1 : List Int) (b2 : Int) : Option (Int × Int) :=
 (loop (Z78l2 s1) (0, b2)).bind (fun o17 =>
 (Sum.elim (fun (b13 : Int) =>
 some ((-1), b13))
 (fun (p14 : Int × Int) =>
 some (p14.1, p14.2)) o17))
theorem Z78_eq s1 b2 : Z78 s1 b2 = Z78_b @loop @Z78l2 s1 b2 := (B0 ..).trans (by kernel_rfl)
noncomputable def Z79_b (k1 b2 : Int) : Option (Bool × Int) :=
 some (decide (k1 = b2), b2)
theorem Z79_eq k1 b2 : Z79 k1 b2 = Z79_b k1 b2 := (B0 ..).trans (by kernel_rfl)
noncomputable def Z80_b (f1 : List Int) (f2 : Int) (f3 b4 : List Int) : Option (Bool × (List Int)) :=
 some (decide (f1 = b4), b4)
theorem Z80_eq f1 f2 f3 b4 : Z80 f1 f2 f3 b4 = Z80_b f1 f2 f3 b4 := (B0 ..).trans (by kernel_rfl)
noncomputable def Z81_b (Z118 : type_of% @Z118) (n1 : Int) (l2 : List Int) : Option (List Int) :=
 (Z118 n1).bind fun q3 =>
 (if (q3.2.length + l2.length) * 1 <= 140737488355328 then
 let t6 : List Int := q3.2 ++ l2;
 some t6
 else
 none)
theorem Z81_eq n1 l2 : Z81 n1 l2 = Z81_b @Z118 n1 l2 := (B0 ..).trans (by kernel_rfl)
noncomputable def Z82_b (Z31 : type_of% @Z31) (Z119 : type_of% @Z119) (l1 : List Outline) : Option ((List Int) × Int) :=
 (Z31 l1).bind fun q2 =>
 (if (!q2) = true then
 some ([], 95)
 else
 (Z119 l1).bind fun q3 =>
 some (q3, 0))
theorem Z82_eq l1 : Z82 l1 = Z82_b @Z31 @Z119 l1 := (B0 ..).trans (by kernel_rfl)
noncomputable def Z83l12_b (Z70 : type_of% @Z70) (Z123 : type_of% @Z123) (tr27 : List Int) (s29 : Int × Int × Int × Int × Int × (List Int) × (List Int)) : Option ((Int × Int × Int × Int × Int × (List Int) × (List Int)) ⊕ (Int × Int × Int × (List Int) × (List Int))) :=
 let v31 := s29.2.1;
 (if (decide (v31 < ((tr27.length : Nat) : Int))) = true then
 (if 0 <= v31 ∧ v31 < (tr27.length : Int) then
 (Z70 s29.1).bind fun q37 =>
 (Z123 q37 false (rd tr27 v31) s29.2.2.1 s29.2.2.2.1 s29.2.2.2.2.1 s29.2.2.2.2.2.1 s29.2.2.2.2.2.2).bind fun q38 =>
 let t45 := i64.wrap (v31 + 1);
 some (Sum.inl (rd tr27 v31, t45, q38.2.1, q38.2.2.1, q38.2.2.2.1, q38.2.2.2.2.1, q38.2.2.2.2.2))
 else
 none)
 else
 some (Sum.inr (s29.2.2.1, s29.2.2.2.1, s29.2.2.2.2.1, s29.2.2.2.2.2.1, s29.2.2.2.2.2.2)))
noncomputable def Z83l12 := Z83l12_b @Z70 @Z123
noncomputable def Z83_b (Z120 : type_of% @Z120) (Z118 : type_of% @Z118) (Z68 : type_of% @Z68) (Z121 : type_of% @Z121) (Z122 : type_of% @Z122) (loop : type_of% @loop) (Z83l12 : type_of% @Z83l12) (Z124 : type_of% @Z124) (text1 : List Int) : Option ((List Int) × Int) :=
 (Z120 text1).bind fun q2 =>
 (if (!decide (q2.2 = 0)) = true then
 some ([], q2.2)
 else
 (Z118 ((text1.length : Nat) : Int)).bind fun q5 =>
 (if (decide (((text1.length : Nat) : Int) = 0)) = true then
 some (q5.2, 0)
 else
 (Z68 0 144).bind fun q8 =>
 ((Z121 q8.1 q8.2.2).bind fun o19 =>
 (Sum.elim (fun (q12 : Int × Int × Int × (List Int) × (List Int)) =>
 some (q12.1, q12.2.1, q12.2.2.1, q12.2.2.2.1, q12.2.2.2.2))
 (fun (q18 : Unit) =>
 none) o19) : Option (Int × Int × Int × (List Int) × (List Int))).bind (fun p20 =>
 (Z122 q2.1).bind fun q26 =>
 (loop (Z83l12 q26.1) (0, 0, p20.1, p20.2.1, p20.2.2.1, p20.2.2.2.1, p20.2.2.2.2)).bind (fun p55 =>
 (Z124 p55.1 p55.2.1 p55.2.2.1 p55.2.2.2.1 p55.2.2.2.2).bind fun q61 =>
 (if (q5.2.length + q61.1.length) * 1 <= 140737488355328 then
 let t68 : List Int := q5.2 ++ q61.1;
 some (t68, 0)
 else
 none)))))
theorem Z83_eq text1 : Z83 text1 = Z83_b @Z120 @Z118 @Z68 @Z121 @Z122 @loop @Z83l12 @Z124 text1 := (B0 ..).trans (by kernel_rfl)
noncomputable def Z84_b (Z125 : type_of% @Z125) (l1 : List Chunk) : Option Bool :=
 (Z125 l1 1 0).bind fun q2 =>
 some q2.1
theorem Z84_eq l1 : Z84 l1 = Z84_b @Z125 l1 := (B0 ..).trans (by kernel_rfl)
noncomputable def Z85_b (Z126 : type_of% @Z126) (c1 c2 c3 : List Int) (c4 : List Chunk) : Option Int :=
 (Z126 c1 c2 c3 c4).bind fun q5 =>
 let t6 := i64.wrap (q5 + 1);
 let t7 := i64.wrap (t6.tdiv 2);
 let t8 := i64.wrap (t7 * 2);
 let t9 := i64.wrap (8 + t8);
 some t9
theorem Z85_eq c1 c2 c3 c4 : Z85 c1 c2 c3 c4 = Z85_b @Z126 c1 c2 c3 c4 := (B0 ..).trans (by kernel_rfl)
noncomputable def Z86l7_b (Z86 : type_of% @Z86) (c4 : List Chunk) (s17 : Int × (List Int)) : Option ((Int × (List Int)) ⊕ ((List Int))) :=
 (if (decide (s17.1 < ((c4.length : Nat) : Int))) = true then
 (if 0 <= s17.1 then
 (c4[s17.1.toNat]?).bind fun e20 =>
 (Z86 e20.id e20.kind e20.data e20.kids s17.2).bind fun q21 =>
 let t22 := i64.wrap (s17.1 + 1);
 some (Sum.inl (t22, q21))
 else
 none)
 else
 some (Sum.inr s17.2))
noncomputable def Z86l7 := Z86l7_b @Z86
noncomputable def Z86l7_step (i23 : Nat) (x24 : Chunk) (s25 : (List Int)) : Option (((List Int)) ⊕ ((List Int))) :=
 (Z86 x24.id x24.kind x24.data x24.kids s25).bind fun q21 =>
 some (Sum.inl (q21))
theorem Z86l7_over (c4 : List Chunk) (hl : c4.length <= 9223372036854775807) (s25 : (List Int)) : loop (Z86l7 c4) ((0, s25) : Int × (List Int)) =
    overL (Z86l7_step) (fun (s25 : (List Int)) => some s25) 0 c4 s25 := by
  refine B22 c4 (fun n (s : (List Int)) => ((((n : Nat) : Int), s) : Int × (List Int))) _ _ (fun s => ?_) (fun i x s h => ?_) 0 s25 (A24 _)
  . unfold Z86l7 Z86l7_b; simp
  . have hlt := B7 h
    have h1 : ((i : Nat) : Int) < ((c4.length : Nat) : Int) := by omega
    have h0 : (0 : Int) <= ((i : Nat) : Int) := by omega
    have hw : i64.wrap (((i : Nat) : Int) + 1) = (((i + 1 : Nat) : Nat) : Int) := w64 (by omega)
    unfold Z86l7 Z86l7_b Z86l7_step
    simp only [h1, h0, hw, h, A7, A5, A22, A13, A12, A1, A49, Function.comp_def, B42, B29, A31, A47]
noncomputable def Z86_b (Z126 : type_of% @Z126) (loop : type_of% @loop) (Z86l7 : type_of% @Z86l7) (c1 c2 c3 : List Int) (c4 : List Chunk) (b5 : List Int) : Option (List Int) :=
 (Z126 c1 c2 c3 c4).bind fun q6 =>
 (if (b5.length + c1.length) * 1 <= 140737488355328 then
 let t7 : List Int := b5 ++ c1;
 let t8 := ishr .i64 q6 24;
 let t9 := u8.wrap t8;
 let t10 := ishr .i64 q6 16;
 let t11 := u8.wrap t10;
 let t12 := ishr .i64 q6 8;
 let t13 := u8.wrap t12;
 let t14 := u8.wrap q6;
 (if (t7.length + ([t9, t11, t13, t14] : List Int).length) * 1 <= 140737488355328 then
 let t15 : List Int := t7 ++ [t9, t11, t13, t14];
 ((if (decide (c1 = [70, 79, 82, 77])) = true then
 (if (t15.length + c2.length) * 1 <= 140737488355328 then
 let t16 : List Int := t15 ++ c2;
 (loop (Z86l7 c4) (0, t16)).bind (fun out26 =>
 some out26)
 else
 none)
 else
 (if (t15.length + c3.length) * 1 <= 140737488355328 then
 let t27 : List Int := t15 ++ c3;
 some t27
 else
 none)) : Option ((List Int))).bind (fun out28 =>
 let t29 : Int := q6.tmod 2;
 (if (decide (t29 = 1)) = true then
 (if (out28.length + ([0] : List Int).length) * 1 <= 140737488355328 then
 let t30 : List Int := out28 ++ [0];
 some t30
 else
 none)
 else
 some out28))
 else
 none)
 else
 none)
theorem Z86_eq c1 c2 c3 c4 b5 : Z86 c1 c2 c3 c4 b5 = Z86_b @Z126 @loop @Z86l7 c1 c2 c3 c4 b5 := (B0 ..).trans (by kernel_rfl)
theorem Z87_eq (n1 : Int) : Z87 n1 =
 (Z127 n1).bind fun q2 =>
 some q2.2 := (B0 ..).trans (by kernel_rfl)
theorem Z88_eq (l1 : List Outline) : Z88 l1 =
 (Z37 l1).bind fun q2 =>
 (if (!q2) = true then
 some ([], 95)
 else
 (Z128 l1).bind fun q3 =>
 some (q3, 0)) := (B0 ..).trans (by kernel_rfl)
noncomputable def Z89l12 (tr9 : List Int) (s29 : Int × Int × Int × Int × Int × (List Int) × (List Int)) : Option ((Int × Int × Int × Int × Int × (List Int) × (List Int)) ⊕ (Int × Int × Int × (List Int) × (List Int))) :=
 let i31 := s29.2.1;
 (if (decide (i31 < ((tr9.length : Nat) : Int))) = true then
 (Z133 s29.1).bind fun q37 =>
 (if 0 <= i31 ∧ i31 < (tr9.length : Int) then
 (Z134 q37 false (rd tr9 i31) s29.2.2.1 s29.2.2.2.1 s29.2.2.2.2.1 s29.2.2.2.2.2.1 s29.2.2.2.2.2.2).bind fun q38 =>
 (if 0 <= i31 ∧ i31 < (tr9.length : Int) then
 let t45 := i64.wrap (i31 + 1);
 some (Sum.inl (rd tr9 i31, t45, q38.2.1, q38.2.2.1, q38.2.2.2.1, q38.2.2.2.2.1, q38.2.2.2.2.2))
 else
 none)
 else
 none)
 else
 some (Sum.inr (s29.2.2.1, s29.2.2.2.1, s29.2.2.2.2.1, s29.2.2.2.2.2.1, s29.2.2.2.2.2.2)))
theorem Z89_eq (text1 : List Int) : Z89 text1 =
 (Z129 text1).bind fun q2 =>
 (if (!decide (q2.2 = 0)) = true then
 some ([], q2.2)
 else
 (Z127 ((text1.length : Nat) : Int)).bind fun q5 =>
 (if (decide (((text1.length : Nat) : Int) = 0)) = true then
 some (q5.2, 0)
 else
 (Z130 q2.1).bind fun q8 =>
 (Z131 0 144).bind fun q11 =>
 ((Z132 q11.1 q11.2.2).bind fun o22 =>
 (Sum.elim (fun (q15 : Int × Int × Int × (List Int) × (List Int)) =>
 some (q15.1, q15.2.1, q15.2.2.1, q15.2.2.2.1, q15.2.2.2.2))
 (fun (q21 : Unit) =>
 none) o22) : Option (Int × Int × Int × (List Int) × (List Int))).bind (fun p23 =>
 (loop (Z89l12 q8.1) (0, 0, p23.1, p23.2.1, p23.2.2.1, p23.2.2.2.1, p23.2.2.2.2)).bind (fun p55 =>
 (Z135 p55.1 p55.2.1 p55.2.2.1 p55.2.2.2.1 p55.2.2.2.2).bind fun q61 =>
 (if (q5.2.length + q61.1.length) * 1 <= 140737488355328 then
 let t68 : List Int := q5.2 ++ q61.1;
 some (t68, 0)
 else
 none))))) := (B0 ..).trans (by kernel_rfl)
noncomputable def Z90l2 (l1 : List Chunk) (v2 : Int) : Option ((Int) ⊕ ((Unit) ⊕ (Bool))) :=
 (if (decide (v2 < ((l1.length : Nat) : Int))) = true then
 (if 0 <= v2 then
 (l1[v2.toNat]?).bind fun e3 =>
 (Z136 e3.id e3.kind e3.data e3.kids).bind fun q4 =>
 (if (!q4) = true then
 some (Sum.inr (Sum.inr false))
 else
 let t5 := i64.wrap (v2 + 1);
 some (Sum.inl t5))
 else
 none)
 else
 some (Sum.inr (Sum.inl ())))
noncomputable def Z90l2_step (i6 : Nat) (x7 : Chunk) (s8 : Unit) : Option ((Unit) ⊕ ((Unit) ⊕ (Bool))) :=
 (Z136 x7.id x7.kind x7.data x7.kids).bind fun q4 =>
 (if (!q4) = true then
 some (Sum.inr (Sum.inr false))
 else
 some (Sum.inl (())))
theorem Z90l2_over (l1 : List Chunk) (hl : l1.length <= 9223372036854775807) (s8 : Unit) : loop (Z90l2 l1) (0 : Int) =
    overL (Z90l2_step) (fun (s8 : Unit) => some (Sum.inl ())) 0 l1 s8 := by
  refine B22 l1 (fun n (s : Unit) => (((n : Nat) : Int) : Int)) _ _ (fun s => ?_) (fun i x s h => ?_) 0 s8 (A24 _)
  . unfold Z90l2; simp
  . have hlt := B7 h
    have h1 : ((i : Nat) : Int) < ((l1.length : Nat) : Int) := by omega
    have h0 : (0 : Int) <= ((i : Nat) : Int) := by omega
    have hw : i64.wrap (((i : Nat) : Int) + 1) = (((i + 1 : Nat) : Nat) : Int) := w64 (by omega)
    unfold Z90l2 Z90l2_step
    simp only [h1, h0, hw, h, A7, A5, A22, A13, A12, A1, A49, Function.comp_def, B42, B29, A31, A47]
theorem Z90_eq (l1 : List Chunk) : Z90 l1 =
 (loop (Z90l2 l1) 0).bind (fun o11 =>
 (Sum.elim (fun (p9 : Unit) =>
 (Z137 l1).bind fun q12 =>
 (if (decide (q12.1 <= 400)) = true then
 some (decide (q12.2 <= 8))
 else
 some false))
 (fun (v10 : Bool) =>
 some v10) o11)) := (B0 ..).trans (by kernel_rfl)
noncomputable def Z91l5 (c4 : List Chunk) (s5 : Int × Int) : Option ((Int × Int) ⊕ (Int)) :=
 (if (decide (s5.2 < ((c4.length : Nat) : Int))) = true then
 (if 0 <= s5.2 then
 (c4[s5.2.toNat]?).bind fun e8 =>
 (Z91 e8.id e8.kind e8.data e8.kids).bind fun q9 =>
 let t10 := i64.wrap (s5.1 + q9);
 let t11 := i64.wrap (s5.2 + 1);
 some (Sum.inl (t10, t11))
 else
 none)
 else
 some (Sum.inr s5.1))
noncomputable def Z91l5_step (i12 : Nat) (x13 : Chunk) (s14 : Int) : Option ((Int) ⊕ (Int)) :=
 (Z91 x13.id x13.kind x13.data x13.kids).bind fun q9 =>
 let t10 := i64.wrap (s14 + q9);
 some (Sum.inl (t10))
theorem Z91l5_over (c4 : List Chunk) (hl : c4.length <= 9223372036854775807) (s14 : Int) : loop (Z91l5 c4) ((s14, 0) : Int × Int) =
    overL (Z91l5_step) (fun (s14 : Int) => some s14) 0 c4 s14 := by
  refine B22 c4 (fun n (s : Int) => ((s, ((n : Nat) : Int)) : Int × Int)) _ _ (fun s => ?_) (fun i x s h => ?_) 0 s14 (A24 _)
  . unfold Z91l5; simp
  . have hlt := B7 h
    have h1 : ((i : Nat) : Int) < ((c4.length : Nat) : Int) := by omega
    have h0 : (0 : Int) <= ((i : Nat) : Int) := by omega
    have hw : i64.wrap (((i : Nat) : Int) + 1) = (((i + 1 : Nat) : Nat) : Int) := w64 (by omega)
    unfold Z91l5 Z91l5_step
    simp only [h1, h0, hw, h, A7, A5, A22, A13, A12, A1, A49, Function.comp_def, B42, B29, A31, A47]
theorem Z91_eq (c1 c2 c3 : List Int) (c4 : List Chunk) : Z91 c1 c2 c3 c4 =
 ((if (decide (c1 = [70, 79, 82, 77])) = true then
 (loop (Z91l5 c4) (4, 0)).bind (fun n15 =>
 some n15)
 else
 some ((c3.length : Nat) : Int)) : Option (Int)).bind (fun n16 =>
 let t17 := i64.wrap (8 + n16);
 let t18 : Int := n16.tmod 2;
 let t19 := i64.wrap (t17 + t18);
 some t19) := (B0 ..).trans (by kernel_rfl)
noncomputable def Z92l3 (l1 : List Chunk) (s2 : Int × (List Int)) : Option ((Int × (List Int)) ⊕ ((List Int))) :=
 (if (decide (s2.1 < ((l1.length : Nat) : Int))) = true then
 (if 0 <= s2.1 then
 (l1[s2.1.toNat]?).bind fun e5 =>
 ((if (decide (e5.id = [70, 79, 82, 77])) = true then
 (Z92 e5.kids).bind fun q6 =>
 (if (e5.kind.length + q6.length) * 1 <= 140737488355328 then
 let t7 : List Int := e5.kind ++ q6;
 some t7
 else
 none)
 else
 some e5.data) : Option ((List Int))).bind (fun inner8 =>
 (if (s2.2.length + e5.id.length) * 1 <= 140737488355328 then
 let t9 : List Int := s2.2 ++ e5.id;
 let t10 := ishr .i64 ((inner8.length : Nat) : Int) 24;
 let t11 := u8.wrap t10;
 let t12 := ishr .i64 ((inner8.length : Nat) : Int) 16;
 let t13 := u8.wrap t12;
 let t14 := ishr .i64 ((inner8.length : Nat) : Int) 8;
 let t15 := u8.wrap t14;
 let t16 := u8.wrap ((inner8.length : Nat) : Int);
 (if (t9.length + ([t11, t13, t15, t16] : List Int).length) * 1 <= 140737488355328 then
 let t17 : List Int := t9 ++ [t11, t13, t15, t16];
 (if (t17.length + inner8.length) * 1 <= 140737488355328 then
 let t18 : List Int := t17 ++ inner8;
 let t19 : Int := ((inner8.length : Nat) : Int).tmod 2;
 (if (decide (t19 = 1)) = true then
 (if (t18.length + ([0] : List Int).length) * 1 <= 140737488355328 then
 let t20 : List Int := t18 ++ [0];
 let t21 := i64.wrap (s2.1 + 1);
 some (Sum.inl (t21, t20))
 else
 none)
 else
 let t22 := i64.wrap (s2.1 + 1);
 some (Sum.inl (t22, t18)))
 else
 none)
 else
 none)
 else
 none))
 else
 none)
 else
 some (Sum.inr s2.2))
noncomputable def Z92l3_step (i23 : Nat) (x24 : Chunk) (s25 : (List Int)) : Option (((List Int)) ⊕ ((List Int))) :=
 ((if (decide (x24.id = [70, 79, 82, 77])) = true then
 (Z92 x24.kids).bind fun q6 =>
 (if (x24.kind.length + q6.length) * 1 <= 140737488355328 then
 let t7 : List Int := x24.kind ++ q6;
 some t7
 else
 none)
 else
 some x24.data) : Option ((List Int))).bind (fun inner8 =>
 (if (s25.length + x24.id.length) * 1 <= 140737488355328 then
 let t9 : List Int := s25 ++ x24.id;
 let t10 := ishr .i64 ((inner8.length : Nat) : Int) 24;
 let t11 := u8.wrap t10;
 let t12 := ishr .i64 ((inner8.length : Nat) : Int) 16;
 let t13 := u8.wrap t12;
 let t14 := ishr .i64 ((inner8.length : Nat) : Int) 8;
 let t15 := u8.wrap t14;
 let t16 := u8.wrap ((inner8.length : Nat) : Int);
 (if (t9.length + ([t11, t13, t15, t16] : List Int).length) * 1 <= 140737488355328 then
 let t17 : List Int := t9 ++ [t11, t13, t15, t16];
 (if (t17.length + inner8.length) * 1 <= 140737488355328 then
 let t18 : List Int := t17 ++ inner8;
 let t19 : Int := ((inner8.length : Nat) : Int).tmod 2;
 (if (decide (t19 = 1)) = true then
 (if (t18.length + ([0] : List Int).length) * 1 <= 140737488355328 then
 let t20 : List Int := t18 ++ [0];
 some (Sum.inl (t20))
 else
 none)
 else
 some (Sum.inl (t18)))
 else
 none)
 else
 none)
 else
 none))
theorem Z92l3_over (l1 : List Chunk) (hl : l1.length <= 9223372036854775807) (s25 : (List Int)) : loop (Z92l3 l1) ((0, s25) : Int × (List Int)) =
    overL (Z92l3_step) (fun (s25 : (List Int)) => some s25) 0 l1 s25 := by
  refine B22 l1 (fun n (s : (List Int)) => ((((n : Nat) : Int), s) : Int × (List Int))) _ _ (fun s => ?_) (fun i x s h => ?_) 0 s25 (A24 _)
  . unfold Z92l3; simp
  . have hlt := B7 h
    have h1 : ((i : Nat) : Int) < ((l1.length : Nat) : Int) := by omega
    have h0 : (0 : Int) <= ((i : Nat) : Int) := by omega
    have hw : i64.wrap (((i : Nat) : Int) + 1) = (((i + 1 : Nat) : Nat) : Int) := w64 (by omega)
    unfold Z92l3 Z92l3_step
    simp only [h1, h0, hw, h, A7, A5, A22, A13, A12, A1, A49, Function.comp_def, B42, B29, A31, A47]
theorem Z92_eq (l1 : List Chunk) : Z92 l1 =
 (loop (Z92l3 l1) (0, [])).bind (fun out26 =>
 some out26) := (B0 ..).trans (by kernel_rfl)
noncomputable def Z93l4 (s1 : List Int) (i2 : Int) : Option ((Int) ⊕ ((Unit) ⊕ (Bool))) :=
 (if (decide (i2 < 4)) = true then
 (if 0 <= i2 ∧ i2 < ((s1).length : Int) then
 let t3 : Int := rd s1 i2;
 (if (decide (t3 < 65)) = true then
 (if (decide (t3 < 48)) = true then
 some (Sum.inr (Sum.inr false))
 else
 (if (decide (t3 > 57)) = true then
 some (Sum.inr (Sum.inr false))
 else
 let t4 := i64.wrap (i2 + 1);
 some (Sum.inl t4)))
 else
 (if (decide (t3 > 90)) = true then
 (if (decide (t3 < 48)) = true then
 some (Sum.inr (Sum.inr false))
 else
 (if (decide (t3 > 57)) = true then
 some (Sum.inr (Sum.inr false))
 else
 let t5 := i64.wrap (i2 + 1);
 some (Sum.inl t5)))
 else
 let t6 := i64.wrap (i2 + 1);
 some (Sum.inl t6)))
 else
 none)
 else
 some (Sum.inr (Sum.inl ())))
theorem Z93_eq (s1 : List Int) : Z93 s1 =
 (if (!decide (((s1.length : Nat) : Int) = 4)) = true then
 some false
 else
 (loop (Z93l4 s1) 0).bind (fun o12 =>
 (Sum.elim (fun (p10 : Unit) =>
 some true)
 (fun (v11 : Bool) =>
 some v11) o12))) := (B0 ..).trans (by kernel_rfl)
theorem Z94_eq (b1 : List Int) (at2 most3 : Int) : Z94 b1 at2 most3 =
 (Z21 b1 at2).bind fun q4 =>
 (if (decide (q4.2.2 = 0)) = true then
 (if (decide (q4.1 > most3)) = true then
 some (q4.1, q4.2.1, 3)
 else
 some (q4.1, q4.2.1, q4.2.2))
 else
 some (q4.1, q4.2.1, q4.2.2)) := (B0 ..).trans (by kernel_rfl)
noncomputable def Z95l9 (b1 : List Int) (of3 tr5 : Int) (s9 : Int × Int × Int × (List Int)) : Option ((Int × Int × Int × (List Int)) ⊕ ((Int × (List Int)) ⊕ ((List Int) × Int × Int))) :=
 (if (decide (s9.2.2.1 < tr5)) = true then
 (Z94 b1 s9.1 of3).bind fun q14 =>
 (if (!decide (q14.2.2 = 0)) = true then
 some (Sum.inr (Sum.inr ([], 0, q14.2.2)))
 else
 ((if (decide (q14.1 = 0)) = true then
 some true
 else
 some (decide (q14.1 ≥ s9.2.1))) : Option (Bool)).bind (fun v18 =>
 (if v18 = true then
 some (Sum.inr (Sum.inr ([], 0, 3)))
 else
 let t19 := i64.wrap (of3 - q14.1);
 (if (s9.2.2.2.length + ([t19] : List Int).length) * 8 <= 140737488355328 then
 let t20 : List Int := s9.2.2.2 ++ [t19];
 let t21 := i64.wrap (s9.2.2.1 + 1);
 some (Sum.inl (q14.2.1, q14.1, t21, t20))
 else
 none))))
 else
 some (Sum.inr (Sum.inl (s9.1, s9.2.2.2))))
theorem Z95_eq (b1 : List Int) (at2 of3 : Int) : Z95 b1 at2 of3 =
 (Z94 b1 at2 20).bind fun q4 =>
 (if (!decide (q4.2.2 = 0)) = true then
 some ([], 0, q4.2.2)
 else
 (if (decide (q4.1 = 0)) = true then
 some ([], 0, 3)
 else
 let t8 := i64.wrap (of3 + 1);
 (loop (Z95l9 b1 of3 q4.1) (q4.2.1, t8, 0, [])).bind (fun o35 =>
 (Sum.elim (fun (p28 : Int × (List Int)) =>
 some (p28.2, p28.1, 0))
 (fun (p31 : (List Int) × Int × Int) =>
 some (p31.1, p31.2.1, p31.2.2)) o35)))) := (B0 ..).trans (by kernel_rfl)
noncomputable def Z96l6 (b1 : List Int) (at2 many3 t5 : Int) (s7 : Int × (List Bool)) : Option ((Int × (List Bool)) ⊕ (((List Bool)) ⊕ ((List Bool) × Int × Int))) :=
 let t10 := i64.wrap (8 * t5);
 (if (decide (s7.1 < t10)) = true then
 let t11 := i64.wrap (s7.1.tdiv 8);
 let t12 := i64.wrap (at2 + t11);
 (if 0 <= t12 ∧ t12 < (b1.length : Int) then
 let t13 : Int := s7.1.tmod 8;
 (if t13 < 0 then
 none
 else
 let t14 := ishr .u8 128 t13;
 let t15 := iand .u8 (rd b1 t12) t14;
 (if (decide (s7.1 < many3)) = true then
 (if (s7.2.length + ([decide (t15 > 0)] : List Bool).length) * 1 <= 140737488355328 then
 let t16 : List Bool := s7.2 ++ [decide (t15 > 0)];
 let t17 := i64.wrap (s7.1 + 1);
 some (Sum.inl (t17, t16))
 else
 none)
 else
 (if (decide (t15 > 0)) = true then
 some (Sum.inr (Sum.inr ([], 0, 3)))
 else
 let t18 := i64.wrap (s7.1 + 1);
 some (Sum.inl (t18, s7.2)))))
 else
 none)
 else
 some (Sum.inr (Sum.inl s7.2)))
theorem Z96_eq (b1 : List Int) (at2 many3 : Int) : Z96 b1 at2 many3 =
 let t4 := i64.wrap (many3 + 7);
 let t5 := i64.wrap (t4.tdiv 8);
 let t6 := i64.wrap (at2 + t5);
 (if (decide (t6 > ((b1.length : Nat) : Int))) = true then
 some ([], 0, 6)
 else
 (loop (Z96l6 b1 at2 many3 t5) (0, [])).bind (fun o24 =>
 (Sum.elim (fun (out19 : (List Bool)) =>
 let t25 := i64.wrap (at2 + t5);
 some (out19, t25, 0))
 (fun (p20 : (List Bool) × Int × Int) =>
 some (p20.1, p20.2.1, p20.2.2)) o24))) := (B0 ..).trans (by kernel_rfl)
noncomputable def Z97l7 (s1 : Int) (s4 : List Int) (s10 : Int × Int) : Option ((Int × Int) ⊕ ((Unit) ⊕ (Bool))) :=
 (if (decide (s10.2 < ((s4.length : Nat) : Int))) = true then
 (if 0 <= s10.2 ∧ s10.2 < (s4.length : Int) then
 (if (decide (rd s4 s10.2 <= s10.1)) = true then
 some (Sum.inr (Sum.inr false))
 else
 (if (decide (rd s4 s10.2 ≥ s1)) = true then
 some (Sum.inr (Sum.inr false))
 else
 let t13 := i64.wrap (s10.2 + 1);
 some (Sum.inl (rd s4 s10.2, t13))))
 else
 none)
 else
 some (Sum.inr (Sum.inl ())))
theorem Z97_eq (s1 s2 s3 : Int) (s4 : List Int) (s5 : List Bool) (s6 : List Int) : Z97 s1 s2 s3 s4 s5 s6 =
 ((if (decide (s1 < 0)) = true then
 some true
 else
 (if (decide (s1 > 10000)) = true then
 some true
 else
 (if (decide (s2 < 0)) = true then
 some true
 else
 (if (decide (s2 > 15)) = true then
 some true
 else
 (if (decide (s3 < 0)) = true then
 some true
 else
 some (decide (s3 > 1000))))))) : Option (Bool)).bind (fun v7 =>
 (if v7 = true then
 some false
 else
 ((if (decide (((s4.length : Nat) : Int) > 20)) = true then
 some true
 else
 let t8 := i64.wrap (((s4.length : Nat) : Int) + 1);
 (if (!decide (((s5.length : Nat) : Int) = t8)) = true then
 some true
 else
 some (decide (((s6.length : Nat) : Int) > 20000)))) : Option (Bool)).bind (fun v9 =>
 (if v9 = true then
 some false
 else
 (loop (Z97l7 s1 s4) ((-1), 0)).bind (fun o19 =>
 (Sum.elim (fun (p17 : Unit) =>
 some true)
 (fun (v18 : Bool) =>
 some v18) o19)))))) := (B0 ..).trans (by kernel_rfl)
noncomputable def Z98l2 (l1 : List Segment) (n2 v3 : Int) : Option ((Int) ⊕ ((Unit) ⊕ (Int))) :=
 (if (decide (v3 < ((l1.length : Nat) : Int))) = true then
 (if 0 <= v3 then
 (l1[v3.toNat]?).bind fun e4 =>
 (if (decide (e4.number = n2)) = true then
 some (Sum.inr (Sum.inr v3))
 else
 let t5 := i64.wrap (v3 + 1);
 some (Sum.inl t5))
 else
 none)
 else
 some (Sum.inr (Sum.inl ())))
theorem Z98_eq (l1 : List Segment) (n2 : Int) : Z98 l1 n2 =
 (loop (Z98l2 l1 n2) 0).bind (fun o11 =>
 (Sum.elim (fun (p9 : Unit) =>
 some (-1))
 (fun (v10 : Int) =>
 some v10) o11)) := (B0 ..).trans (by kernel_rfl)
noncomputable def Z99_b (Z100 : type_of% @Z100) (Z138 : type_of% @Z138) (at1 end2 : Int) (b3 : List Int) (b4 b5 b6 : Int) : Option ((List Int) × (List Int) × Int × Int × Int) :=
 let t7 := i64.wrap (end2 - at1);
 (Z100 (decide (t7 ≥ 4)) 6 at1 b3 b4 b5 b6).bind fun q8 =>
 (if (!q8.1) = true then
 some ([], q8.2.1, q8.2.2.1, q8.2.2.2.1, q8.2.2.2.2)
 else
 let t14 := i64.wrap (at1 + 4);
 (if 0 <= t14 ∧ t14 <= ((q8.2.1.length : Nat) : Int) then
 (if 0 <= at1 ∧ at1 <= t14 then
 let t15 : List Int := cutL q8.2.1 at1.toNat t14.toNat;
 (Z138 t15).bind fun q16 =>
 (Z100 q16 3 at1 q8.2.1 q8.2.2.1 q8.2.2.2.1 q8.2.2.2.2).bind fun q17 =>
 some (t15, q17.2.1, q17.2.2.1, q17.2.2.2.1, q17.2.2.2.2)
 else
 none)
 else
 none))
theorem Z99_eq at1 end2 b3 b4 b5 b6 : Z99 at1 end2 b3 b4 b5 b6 = Z99_b @Z100 @Z138 at1 end2 b3 b4 b5 b6 := (B0 ..).trans (by kernel_rfl)
noncomputable def Z100_b (ok1 : Bool) (err2 at3 : Int) (b4 : List Int) (b5 b6 b7 : Int) : Option (Bool × (List Int) × Int × Int × Int) :=
 ((if (decide (b6 = 0)) = true then
 some (!ok1)
 else
 some false) : Option (Bool)).bind (fun v8 =>
 (if v8 = true then
 some (decide (err2 = 0), b4, b5, err2, at3)
 else
 some (decide (b6 = 0), b4, b5, b6, b7)))
theorem Z100_eq ok1 err2 at3 b4 b5 b6 b7 : Z100 ok1 err2 at3 b4 b5 b6 b7 = Z100_b ok1 err2 at3 b4 b5 b6 b7 := (B0 ..).trans (by kernel_rfl)
noncomputable def Z101_b (Z100 : type_of% @Z100) (Z139 : type_of% @Z139) (at1 end2 : Int) (b3 : List Int) (b4 b5 b6 : Int) : Option ((List Int) × (List Int) × Int × Int × Int) :=
 let t7 := i64.wrap (end2 - at1);
 (Z100 (decide (t7 ≥ 4)) 6 at1 b3 b4 b5 b6).bind fun q8 =>
 (if (!q8.1) = true then
 some ([], q8.2.1, q8.2.2.1, q8.2.2.2.1, q8.2.2.2.2)
 else
 let t14 := i64.wrap (at1 + 4);
 (if 0 <= t14 ∧ t14 <= ((q8.2.1.length : Nat) : Int) then
 (if 0 <= at1 ∧ at1 <= t14 then
 let t15 : List Int := cutL q8.2.1 at1.toNat t14.toNat;
 (Z139 t15).bind fun q16 =>
 (Z100 q16 3 at1 q8.2.1 q8.2.2.1 q8.2.2.2.1 q8.2.2.2.2).bind fun q17 =>
 some (t15, q17.2.1, q17.2.2.1, q17.2.2.2.1, q17.2.2.2.2)
 else
 none)
 else
 none))
theorem Z101_eq at1 end2 b3 b4 b5 b6 : Z101 at1 end2 b3 b4 b5 b6 = Z101_b @Z100 @Z139 at1 end2 b3 b4 b5 b6 := (B0 ..).trans (by kernel_rfl)
theorem Z102_eq (b1 : List Int) : Z102 b1 =
 (if b1.length = 0 then
 (demon
 (some [])
 ((if (([] : List Int).length + b1.length) * 1 <= 140737488355328 then
 let t2 : List Int := ([] : List Int) ++ b1;
 some t2
 else
 none)))
 else
 (if (([] : List Int).length + b1.length) * 1 <= 140737488355328 then
 let t3 : List Int := ([] : List Int) ++ b1;
 some t3
 else
 none)) := (B0 ..).trans (by kernel_rfl)
noncomputable def Z103l7 (m2 : List Int) (end4 v5 : Int) : Option ((Int) ⊕ ((Unit) ⊕ (Bool))) :=
 (if (decide (v5 < ((m2.length : Nat) : Int))) = true then
 (if 0 <= v5 ∧ v5 < (m2.length : Int) then
 (if (decide (rd m2 v5 < 0)) = true then
 some (Sum.inr (Sum.inr false))
 else
 (if (decide (rd m2 v5 ≥ end4)) = true then
 some (Sum.inr (Sum.inr false))
 else
 let t6 := i64.wrap (v5 + 1);
 some (Sum.inl t6)))
 else
 none)
 else
 some (Sum.inr (Sum.inl ())))
noncomputable def Z103l7_step (end4 : Int) (i7 : Nat) (x8 : Int) (s9 : Unit) : Option ((Unit) ⊕ ((Unit) ⊕ (Bool))) :=
 (if (decide (x8 < 0)) = true then
 some (Sum.inr (Sum.inr false))
 else
 (if (decide (x8 ≥ end4)) = true then
 some (Sum.inr (Sum.inr false))
 else
 some (Sum.inl (()))))
theorem Z103l7_over (m2 : List Int) (end4 : Int) (hl : m2.length <= 9223372036854775807) (s9 : Unit) : loop (Z103l7 m2 end4) (0 : Int) =
    overL (Z103l7_step end4) (fun (s9 : Unit) => some (Sum.inl ())) 0 m2 s9 := by
  refine B22 m2 (fun n (s : Unit) => (((n : Nat) : Int) : Int)) _ _ (fun s => ?_) (fun i x s h => ?_) 0 s9 (A24 _)
  . unfold Z103l7; simp
  . have hlt := B7 h
    have h1 : ((i : Nat) : Int) < ((m2.length : Nat) : Int) := by omega
    have h0 : (0 : Int) <= ((i : Nat) : Int) := by omega
    have hw : i64.wrap (((i : Nat) : Int) + 1) = (((i + 1 : Nat) : Nat) : Int) := w64 (by omega)
    have hr : rd m2 ((i : Nat) : Int) = x := B41 h
    unfold Z103l7 Z103l7_step
    simp only [h1, h0, hw, h, hr, A7, A5, A22, A13, A12, A1, A49, Function.comp_def, B42, B29, A31, A47]
noncomputable def Z103_b (loop : type_of% @loop) (Z103l7 : type_of% @Z103l7) (m1 : Int) (m2 : List Int) : Option Bool :=
 ((if (!decide (m1 = 0)) = true then
 (if (!decide (m1 = 1)) = true then
 some true
 else
 some (decide (((m2.length : Nat) : Int) > 8192)))
 else
 some (decide (((m2.length : Nat) : Int) > 8192))) : Option (Bool)).bind (fun v3 =>
 (if v3 = true then
 some false
 else
 ((if (decide (m1 = 1)) = true then
 some 65536
 else
 some 64) : Option (Int)).bind (fun end4 =>
 (loop (Z103l7 m2 end4) 0).bind (fun o12 =>
 (Sum.elim (fun (p10 : Unit) =>
 some true)
 (fun (v11 : Bool) =>
 some v11) o12)))))
theorem Z103_eq m1 m2 : Z103 m1 m2 = Z103_b @loop @Z103l7 m1 m2 := (B0 ..).trans (by kernel_rfl)
noncomputable def Z104_b (Z140 : type_of% @Z140) (Z141 : type_of% @Z141) (m1 : Int) (m2 : List Int) : Option (Int × Int × Int × (List Int)) :=
 (Z140 m1 m2).bind fun q3 =>
 (Z141).bind fun q6 =>
 some (q3.1, 0, 4294967295, q3.2)
theorem Z104_eq m1 m2 : Z104 m1 m2 = Z104_b @Z140 @Z141 m1 m2 := (B0 ..).trans (by kernel_rfl)
noncomputable def Z105_b (b1 b2 b3 b4 b5 b6 : Int) (b7 b8 : List Int) : Option (Int × Int × Int × Int × Int × Int × (List Int) × (List Int)) :=
 ((if (decide (b4 < ((b8.length : Nat) : Int))) = true then
 (if 0 <= b4 ∧ b4 < (b8.length : Int) then
 let t9 : Int := rd b8 b4;
 some (t9, b1, b2, b3, b4, b5, b6, b7, b8)
 else
 none)
 else
 let t10 := i64.wrap (b6 + 1);
 some (0, b1, b2, b3, b4, b5, t10, b7, b8)) : Option (Int × Int × Int × Int × Int × Int × Int × (List Int) × (List Int))).bind (fun p11 =>
 let t21 := i64.wrap (p11.2.2.2.2.1 + 1);
 let t22 := ishl .u64 p11.2.2.2.2.2.1 8;
 let t23 := iand .u64 t22 4294967295;
 let t24 := u64.wrap p11.1;
 let t25 := ior .u64 t23 t24;
 some (p11.2.1, p11.2.2.1, p11.2.2.2.1, t21, t25, p11.2.2.2.2.2.2.1, p11.2.2.2.2.2.2.2.1, p11.2.2.2.2.2.2.2.2))
theorem Z105_eq b1 b2 b3 b4 b5 b6 b7 b8 : Z105 b1 b2 b3 b4 b5 b6 b7 b8 = Z105_b b1 b2 b3 b4 b5 b6 b7 b8 := (B0 ..).trans (by kernel_rfl)
noncomputable def Z106l12_b (Z145 : type_of% @Z145) (Z146 : type_of% @Z146) (Z147 : type_of% @Z147) (s51 : Int × Int × Int × (List Int) × Int × Int × Int × Bool × (List Int)) : Option ((Int × Int × Int × (List Int) × Int × Int × Int × Bool × (List Int)) ⊕ (Int × Int × Int × (List Int) × Int × Int × Int × Bool × (List Int))) :=
 (Z145 s51.1 s51.2.1 s51.2.2.1 s51.2.2.2.1 s51.2.2.2.2.1 s51.2.2.2.2.2.1 s51.2.2.2.2.2.2.1 s51.2.2.2.2.2.2.2.1 s51.2.2.2.2.2.2.2.2).bind fun q61 =>
 (if q61.1 = true then
 (Z146 q61.2.1 q61.2.2.1 q61.2.2.2.1 q61.2.2.2.2.1 q61.2.2.2.2.2.1 q61.2.2.2.2.2.2.1 q61.2.2.2.2.2.2.2.1 q61.2.2.2.2.2.2.2.2.1 q61.2.2.2.2.2.2.2.2.2).bind fun q72 =>
 (Z147 q72.2.1 q72.2.2.1 q72.2.2.2.1 q72.2.2.2.2.1 q72.2.2.2.2.2.1 q72.2.2.2.2.2.2.1 q72.2.2.2.2.2.2.2.1 q72.2.2.2.2.2.2.2.2.1 q72.2.2.2.2.2.2.2.2.2).bind fun q83 =>
 some (Sum.inl (q83.1, q83.2.1, q83.2.2.1, q83.2.2.2.1, q83.2.2.2.2.1, q83.2.2.2.2.2.1, q83.2.2.2.2.2.2.1, q83.2.2.2.2.2.2.2.1, q83.2.2.2.2.2.2.2.2))
 else
 some (Sum.inr (q61.2.1, q61.2.2.1, q61.2.2.2.1, q61.2.2.2.2.1, q61.2.2.2.2.2.1, q61.2.2.2.2.2.2.1, q61.2.2.2.2.2.2.2.1, q61.2.2.2.2.2.2.2.2.1, q61.2.2.2.2.2.2.2.2.2)))
noncomputable def Z106l12 := Z106l12_b @Z145 @Z146 @Z147
noncomputable def Z106_b (Z142 : type_of% @Z142) (Z143 : type_of% @Z143) (Z144 : type_of% @Z144) (loop : type_of% @loop) (Z106l12 : type_of% @Z106l12) (ctx1 b2 b3 b4 : Int) (b5 : List Int) (b6 b7 b8 : Int) (b9 : Bool) (b10 : List Int) : Option (Int × Int × Int × Int × Int × (List Int) × Int × Int × Int × Bool × (List Int)) :=
 (Z142 b2 b3 b4 b5 b6 b7 b8 b9 b10).bind fun q11 =>
 let tr20 := q11.2.2.2.2.2.2.2.2.1;
 let tr21 := q11.2.2.2.2.2.2.2.2.2;
 ((if q11.1 = true then
 some (Sum.inr (0, 7))
 else
 ((if (decide (ctx1 < 0)) = true then
 some true
 else
 some (decide (ctx1 ≥ ((tr21.length : Nat) : Int)))) : Option (Bool)).bind (fun v22 =>
 (if v22 = true then
 some (Sum.inr (0, 2))
 else
 (if tr20 = true then
 some (Sum.inr (0, 6))
 else
 some (Sum.inl ()))))) : Option ((Unit) ⊕ (Int × Int))).bind (fun o27 =>
 (Sum.elim (fun (p23 : Unit) =>
 (Z143 ctx1 q11.2.1 q11.2.2.1 q11.2.2.2.1 q11.2.2.2.2.1 q11.2.2.2.2.2.1 q11.2.2.2.2.2.2.1 q11.2.2.2.2.2.2.2.1 tr20 tr21).bind fun q28 =>
 let tr35 := q28.2.2.2.2.2.2.1;
 let tr38 := q28.2.2.2.2.2.2.2.2.2;
 ((if (decide (tr35 <= q28.1)) = true then
 some 1
 else
 some 0) : Option (Int)).bind (fun bit39 =>
 (if 0 <= ctx1 ∧ ctx1 < (tr38.length : Int) then
 let t40 : Int := rd tr38 ctx1;
 (Z144 ctx1 bit39 q28.1 q28.2.1 q28.2.2.1 q28.2.2.2.1 q28.2.2.2.2.1 q28.2.2.2.2.2.1 tr35 q28.2.2.2.2.2.2.2.1 q28.2.2.2.2.2.2.2.2.1 tr38).bind fun q41 =>
 (loop (Z106l12) (q41.1, q41.2.1, q41.2.2.1, q41.2.2.2.1, q41.2.2.2.2.1, q41.2.2.2.2.2.1, q41.2.2.2.2.2.2.1, q41.2.2.2.2.2.2.2.1, q41.2.2.2.2.2.2.2.2)).bind (fun p93 =>
 let b102 := p93.2.2.2.2.2.2.2.2;
 (if (decide (p93.2.2.2.2.2.2.1 > 4)) = true then
 (if 0 <= ctx1 ∧ ctx1 < (b102.length : Int) then
 let w103 : List Int := b102.set ctx1.toNat t40;
 some (0, 6, q28.2.1, q28.2.2.1, q28.2.2.2.1, q28.2.2.2.2.1, q28.2.2.2.2.2.1, tr35, q28.2.2.2.2.2.2.2.1, true, w103)
 else
 none)
 else
 some (bit39, 0, p93.1, p93.2.1, p93.2.2.1, p93.2.2.2.1, p93.2.2.2.2.1, p93.2.2.2.2.2.1, p93.2.2.2.2.2.2.1, p93.2.2.2.2.2.2.2.1, b102)))
 else
 none)))
 (fun (p24 : Int × Int) =>
 some (p24.1, p24.2, q11.2.1, q11.2.2.1, q11.2.2.2.1, q11.2.2.2.2.1, q11.2.2.2.2.2.1, q11.2.2.2.2.2.2.1, q11.2.2.2.2.2.2.2.1, tr20, tr21)) o27))
theorem Z106_eq ctx1 b2 b3 b4 b5 b6 b7 b8 b9 b10 : Z106 ctx1 b2 b3 b4 b5 b6 b7 b8 b9 b10 = Z106_b @Z142 @Z143 @Z144 @loop @Z106l12 ctx1 b2 b3 b4 b5 b6 b7 b8 b9 b10 := (B0 ..).trans (by kernel_rfl)
noncomputable def Z107_b (Z142 : type_of% @Z142) (Z140 : type_of% @Z140) (b1 b2 b3 : Int) (b4 : List Int) (b5 b6 b7 : Int) (b8 : Bool) (b9 : List Int) : Option (Int × (List Int) × Int × Int × Int × (List Int) × Int × Int × Int × Bool × (List Int)) :=
 (Z142 b1 b2 b3 b4 b5 b6 b7 b8 b9).bind fun q10 =>
 let tr20 := q10.2.2.2.2.2.2.2.2.2;
 (if q10.1 = true then
 some (0, [], q10.2.1, q10.2.2.1, q10.2.2.2.1, q10.2.2.2.2.1, q10.2.2.2.2.2.1, q10.2.2.2.2.2.2.1, q10.2.2.2.2.2.2.2.1, q10.2.2.2.2.2.2.2.2.1, tr20)
 else
 (Z140 q10.2.1 tr20).bind fun q21 =>
 some (q21.1, q21.2, q10.2.1, q10.2.2.1, q10.2.2.2.1, q10.2.2.2.2.1, q10.2.2.2.2.2.1, q10.2.2.2.2.2.2.1, q10.2.2.2.2.2.2.2.1, q10.2.2.2.2.2.2.2.2.1, tr20))
theorem Z107_eq b1 b2 b3 b4 b5 b6 b7 b8 b9 : Z107 b1 b2 b3 b4 b5 b6 b7 b8 b9 = Z107_b @Z142 @Z140 b1 b2 b3 b4 b5 b6 b7 b8 b9 := (B0 ..).trans (by kernel_rfl)
noncomputable def Z108_b (m1 : Int) (m2 : List Int) (base3 n4 : Int) : Option Int :=
 (if (decide (base3 < 0)) = true then
 some 2
 else
 let t5 := i64.wrap (((m2.length : Nat) : Int) - n4);
 (if (decide (base3 > t5)) = true then
 some 2
 else
 some 0))
theorem Z108_eq m1 m2 base3 n4 : Z108 m1 m2 base3 n4 = Z108_b m1 m2 base3 n4 := (B0 ..).trans (by kernel_rfl)
end
end Go.Proofs.YtcphcfknnfibmaaGreat.P
