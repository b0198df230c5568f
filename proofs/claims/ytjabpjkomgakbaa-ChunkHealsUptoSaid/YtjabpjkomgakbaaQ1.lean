/- The equations of functions. Printed by wip/tool/vsym.py. -/
import Derived.Test.YtjabpjkomgakbaaG
import Derived.Test.YtjabpjkomgakbaaLib
namespace Go.Proofs.Ytjabpjkomgakbaa.P
open Go Go.Proofs.Ytjabpjkomgakbaa.V
set_option linter.unusedVariables false
set_option linter.unusedSimpArgs false
set_option maxRecDepth 100000
noncomputable section
noncomputable def slices_IndexFunc_api_Chunk_api_Chunk_loop2 (s1 : List Chunk) (s3 : Int × (List Int)) : Option ((Int × (List Int)) ⊕ (((List Int)) ⊕ (Int × (List Int)))) :=
   let v4 : Int := s3.1;
   let b5 : List Int := s3.2;
   (if (decide (v4 < ((s1.length : Nat) : Int))) = true then
    (if 0 ≤ v4 then
     (s1[v4.toNat]?).bind fun e6 =>
     (chunk_Find_1 e6.id e6.kind e6.data e6.kids b5).bind fun (q7 : Bool × (List Int)) =>
     let tr8 : Bool := q7.1;
     let tr9 : List Int := q7.2;
     (if tr8 = true then
      some (Sum.inr (Sum.inr (v4, tr9)))
      else
      let t10 : Int := IntKind.i64.wrap (v4 + 1);
      some (Sum.inl (t10, tr9)))
     else
     none)
    else
    some (Sum.inr (Sum.inl b5)))
noncomputable def slices_IndexFunc_api_Chunk_api_Chunk_loop2_step (i11 : Nat) (x12 : Chunk) (s13 : (List Int)) : Option (((List Int)) ⊕ (((List Int)) ⊕ (Int × (List Int)))) :=
   (chunk_Find_1 x12.id x12.kind x12.data x12.kids s13).bind fun (q7 : Bool × (List Int)) =>
   let tr8 : Bool := q7.1;
   let tr9 : List Int := q7.2;
   (if tr8 = true then
    some (Sum.inr (Sum.inr (((i11 : Nat) : Int), tr9)))
    else
    some (Sum.inl (tr9)))
theorem slices_IndexFunc_api_Chunk_api_Chunk_loop2_overAt (s1 : List Chunk) (hl : s1.length ≤ 4611686018427387904) (k : Nat) (s13 : (List Int)) (hk : k ≤ s1.length) : loop (slices_IndexFunc_api_Chunk_api_Chunk_loop2 s1) ((((k : Nat) : Int), s13) : Int × (List Int)) =
    overL (slices_IndexFunc_api_Chunk_api_Chunk_loop2_step) (fun (s13 : (List Int)) => some (Sum.inl s13)) k (s1.drop k) s13 := by
  refine loop_over s1 (fun n (s : (List Int)) => ((((n : Nat) : Int), s) : Int × (List Int))) _ _ (fun s => ?_) (fun i x s h => ?_) k s13 hk
  · unfold slices_IndexFunc_api_Chunk_api_Chunk_loop2; simp
  · have hlt := lt_len_of_get h
    have h1 : ((i : Nat) : Int) < ((s1.length : Nat) : Int) := by omega
    have h0 : (0 : Int) ≤ ((i : Nat) : Int) := by omega
    have hw : IntKind.i64.wrap (((i : Nat) : Int) + 1) = (((i + 1 : Nat) : Nat) : Int) := w64 (by omega)
    unfold slices_IndexFunc_api_Chunk_api_Chunk_loop2 slices_IndexFunc_api_Chunk_api_Chunk_loop2_step
    simp only [h1, h0, hw, h, decide_true, if_true, and_self, true_and, Int.toNat_natCast, Option.bind_some, Option.map_bind, Function.comp_def, map_ite, map_elim, Option.map_some, Option.map_none]
theorem slices_IndexFunc_api_Chunk_api_Chunk_loop2_over (s1 : List Chunk) (hl : s1.length ≤ 4611686018427387904) (s13 : (List Int)) : loop (slices_IndexFunc_api_Chunk_api_Chunk_loop2 s1) ((0, s13) : Int × (List Int)) =
    overL (slices_IndexFunc_api_Chunk_api_Chunk_loop2_step) (fun (s13 : (List Int)) => some (Sum.inl s13)) 0 s1 s13 := slices_IndexFunc_api_Chunk_api_Chunk_loop2_overAt s1 hl 0 s13 (Nat.zero_le _)

theorem slices_IndexFunc_api_Chunk_api_Chunk_eq (s1 : List Chunk) (b2 : List Int) : slices_IndexFunc_api_Chunk_api_Chunk s1 b2 =
   (loop (slices_IndexFunc_api_Chunk_api_Chunk_loop2 s1) (0, b2)).bind (fun (o18 : ((List Int)) ⊕ (Int × (List Int))) =>
    (Sum.elim (fun (b14 : (List Int)) =>
      some ((-1), b14))
     (fun (p15 : Int × (List Int)) =>
      let v16 : Int := p15.1;
      let b17 : List Int := p15.2;
      some (v16, b17)) o18)) := (call_eq ..).trans (by kernel_rfl)

noncomputable def chunk_clone_loop4 (c4 : List Chunk) (s6 : Int × (List Chunk)) : Option ((Int × (List Chunk)) ⊕ ((List Chunk))) :=
   let v7 : Int := s6.1;
   let kids8 : List Chunk := s6.2;
   (if (decide (v7 < ((c4.length : Nat) : Int))) = true then
    (if 0 ≤ v7 then
     (c4[v7.toNat]?).bind fun e9 =>
     (chunk_clone e9.id e9.kind e9.data e9.kids).bind fun (q10 : (List Int) × (List Int) × (List Int) × (List Chunk)) =>
     let tr11 : List Int := q10.1;
     let tr12 : List Int := q10.2.1;
     let tr13 : List Int := q10.2.2.1;
     let tr14 : List Chunk := q10.2.2.2;
     (if (kids8.length + ([(Chunk.mk tr11 tr12 tr13 tr14)] : List Chunk).length) * 80 ≤ 140737488355328 then
      let t15 : List Chunk := kids8 ++ [(Chunk.mk tr11 tr12 tr13 tr14)];
      let t16 : Int := IntKind.i64.wrap (v7 + 1);
      some (Sum.inl (t16, t15))
      else
      none)
     else
     none)
    else
    some (Sum.inr kids8))
noncomputable def chunk_clone_loop4_step (i17 : Nat) (x18 : Chunk) (s19 : (List Chunk)) : Option (((List Chunk)) ⊕ ((List Chunk))) :=
   (chunk_clone x18.id x18.kind x18.data x18.kids).bind fun (q10 : (List Int) × (List Int) × (List Int) × (List Chunk)) =>
   let tr11 : List Int := q10.1;
   let tr12 : List Int := q10.2.1;
   let tr13 : List Int := q10.2.2.1;
   let tr14 : List Chunk := q10.2.2.2;
   (if (s19.length + ([(Chunk.mk tr11 tr12 tr13 tr14)] : List Chunk).length) * 80 ≤ 140737488355328 then
    let t15 : List Chunk := s19 ++ [(Chunk.mk tr11 tr12 tr13 tr14)];
    some (Sum.inl (t15))
    else
    none)
theorem chunk_clone_loop4_overAt (c4 : List Chunk) (hl : c4.length ≤ 4611686018427387904) (k : Nat) (s19 : (List Chunk)) (hk : k ≤ c4.length) : loop (chunk_clone_loop4 c4) ((((k : Nat) : Int), s19) : Int × (List Chunk)) =
    overL (chunk_clone_loop4_step) (fun (s19 : (List Chunk)) => some s19) k (c4.drop k) s19 := by
  refine loop_over c4 (fun n (s : (List Chunk)) => ((((n : Nat) : Int), s) : Int × (List Chunk))) _ _ (fun s => ?_) (fun i x s h => ?_) k s19 hk
  · unfold chunk_clone_loop4; simp
  · have hlt := lt_len_of_get h
    have h1 : ((i : Nat) : Int) < ((c4.length : Nat) : Int) := by omega
    have h0 : (0 : Int) ≤ ((i : Nat) : Int) := by omega
    have hw : IntKind.i64.wrap (((i : Nat) : Int) + 1) = (((i + 1 : Nat) : Nat) : Int) := w64 (by omega)
    unfold chunk_clone_loop4 chunk_clone_loop4_step
    simp only [h1, h0, hw, h, decide_true, if_true, and_self, true_and, Int.toNat_natCast, Option.bind_some, Option.map_bind, Function.comp_def, map_ite, map_elim, Option.map_some, Option.map_none]
theorem chunk_clone_loop4_over (c4 : List Chunk) (hl : c4.length ≤ 4611686018427387904) (s19 : (List Chunk)) : loop (chunk_clone_loop4 c4) ((0, s19) : Int × (List Chunk)) =
    overL (chunk_clone_loop4_step) (fun (s19 : (List Chunk)) => some s19) 0 c4 s19 := chunk_clone_loop4_overAt c4 hl 0 s19 (Nat.zero_le _)

theorem chunk_clone_eq (c1 : List Int) (c2 : List Int) (c3 : List Int) (c4 : List Chunk) : chunk_clone c1 c2 c3 c4 =
   (bytes_Clone c3).bind fun (q5 : (List Int)) =>
   (loop (chunk_clone_loop4 c4) (0, [])).bind (fun (kids20 : (List Chunk)) =>
    some (c1, c2, q5, kids20)) := (call_eq ..).trans (by kernel_rfl)

theorem ref26_name_eq (c1 : List Int) (c2 : List Int) (c3 : List Int) (c4 : List Chunk) : ref26_name c1 c2 c3 c4 =
   (if (decide (c1 = [70, 79, 82, 77])) = true then
    some c2
    else
    some c1) := (call_eq ..).trans (by kernel_rfl)

noncomputable def chunk_all_loop3 (l1 : List Chunk) (id2 : List Int) (s3 : Int × (List Chunk)) : Option ((Int × (List Chunk)) ⊕ ((List Chunk))) :=
   let v4 : Int := s3.1;
   let out5 : List Chunk := s3.2;
   (if (decide (v4 < ((l1.length : Nat) : Int))) = true then
    (if 0 ≤ v4 then
     (l1[v4.toNat]?).bind fun e6 =>
     (if (decide (e6.id = [70, 79, 82, 77])) = true then
      (chunk_all e6.kids id2).bind fun (q7 : (List Chunk)) =>
      (if (out5.length + q7.length) * 80 ≤ 140737488355328 then
       let t8 : List Chunk := out5 ++ q7;
       let t9 : Int := IntKind.i64.wrap (v4 + 1);
       some (Sum.inl (t9, t8))
       else
       none)
      else
      (if (decide (e6.id = id2)) = true then
       (chunk_clone e6.id e6.kind e6.data e6.kids).bind fun (q10 : (List Int) × (List Int) × (List Int) × (List Chunk)) =>
       let tr11 : List Int := q10.1;
       let tr12 : List Int := q10.2.1;
       let tr13 : List Int := q10.2.2.1;
       let tr14 : List Chunk := q10.2.2.2;
       (if (out5.length + ([(Chunk.mk tr11 tr12 tr13 tr14)] : List Chunk).length) * 80 ≤ 140737488355328 then
        let t15 : List Chunk := out5 ++ [(Chunk.mk tr11 tr12 tr13 tr14)];
        let t16 : Int := IntKind.i64.wrap (v4 + 1);
        some (Sum.inl (t16, t15))
        else
        none)
       else
       let t17 : Int := IntKind.i64.wrap (v4 + 1);
       some (Sum.inl (t17, out5))))
     else
     none)
    else
    some (Sum.inr out5))
noncomputable def chunk_all_loop3_step (id2 : List Int) (i18 : Nat) (x19 : Chunk) (s20 : (List Chunk)) : Option (((List Chunk)) ⊕ ((List Chunk))) :=
   (if (decide (x19.id = [70, 79, 82, 77])) = true then
    (chunk_all x19.kids id2).bind fun (q7 : (List Chunk)) =>
    (if (s20.length + q7.length) * 80 ≤ 140737488355328 then
     let t8 : List Chunk := s20 ++ q7;
     some (Sum.inl (t8))
     else
     none)
    else
    (if (decide (x19.id = id2)) = true then
     (chunk_clone x19.id x19.kind x19.data x19.kids).bind fun (q10 : (List Int) × (List Int) × (List Int) × (List Chunk)) =>
     let tr11 : List Int := q10.1;
     let tr12 : List Int := q10.2.1;
     let tr13 : List Int := q10.2.2.1;
     let tr14 : List Chunk := q10.2.2.2;
     (if (s20.length + ([(Chunk.mk tr11 tr12 tr13 tr14)] : List Chunk).length) * 80 ≤ 140737488355328 then
      let t15 : List Chunk := s20 ++ [(Chunk.mk tr11 tr12 tr13 tr14)];
      some (Sum.inl (t15))
      else
      none)
     else
     some (Sum.inl (s20))))
theorem chunk_all_loop3_overAt (l1 : List Chunk) (id2 : List Int) (hl : l1.length ≤ 4611686018427387904) (k : Nat) (s20 : (List Chunk)) (hk : k ≤ l1.length) : loop (chunk_all_loop3 l1 id2) ((((k : Nat) : Int), s20) : Int × (List Chunk)) =
    overL (chunk_all_loop3_step id2) (fun (s20 : (List Chunk)) => some s20) k (l1.drop k) s20 := by
  refine loop_over l1 (fun n (s : (List Chunk)) => ((((n : Nat) : Int), s) : Int × (List Chunk))) _ _ (fun s => ?_) (fun i x s h => ?_) k s20 hk
  · unfold chunk_all_loop3; simp
  · have hlt := lt_len_of_get h
    have h1 : ((i : Nat) : Int) < ((l1.length : Nat) : Int) := by omega
    have h0 : (0 : Int) ≤ ((i : Nat) : Int) := by omega
    have hw : IntKind.i64.wrap (((i : Nat) : Int) + 1) = (((i + 1 : Nat) : Nat) : Int) := w64 (by omega)
    unfold chunk_all_loop3 chunk_all_loop3_step
    simp only [h1, h0, hw, h, decide_true, if_true, and_self, true_and, Int.toNat_natCast, Option.bind_some, Option.map_bind, Function.comp_def, map_ite, map_elim, Option.map_some, Option.map_none]
theorem chunk_all_loop3_over (l1 : List Chunk) (id2 : List Int) (hl : l1.length ≤ 4611686018427387904) (s20 : (List Chunk)) : loop (chunk_all_loop3 l1 id2) ((0, s20) : Int × (List Chunk)) =
    overL (chunk_all_loop3_step id2) (fun (s20 : (List Chunk)) => some s20) 0 l1 s20 := chunk_all_loop3_overAt l1 id2 hl 0 s20 (Nat.zero_le _)

theorem chunk_all_eq (l1 : List Chunk) (id2 : List Int) : chunk_all l1 id2 =
   (loop (chunk_all_loop3 l1 id2) (0, [])).bind (fun (out21 : (List Chunk)) =>
    some out21) := (call_eq ..).trans (by kernel_rfl)

noncomputable def ref26_all_loop3 (l1 : List Chunk) (id2 : List Int) (s3 : Int × (List Chunk)) : Option ((Int × (List Chunk)) ⊕ ((List Chunk))) :=
   let v4 : Int := s3.1;
   let out5 : List Chunk := s3.2;
   (if (decide (v4 < ((l1.length : Nat) : Int))) = true then
    (if 0 ≤ v4 then
     (l1[v4.toNat]?).bind fun e6 =>
     ((if (decide (e6.id = id2)) = true then
       some (!decide (id2 = [70, 79, 82, 77]))
       else
       some false) : Option (Bool)).bind (fun (v7 : Bool) =>
      ((if v7 = true then
        (if (out5.length + ([(Chunk.mk e6.id e6.kind e6.data e6.kids)] : List Chunk).length) * 80 ≤ 140737488355328 then
         let t8 : List Chunk := out5 ++ [(Chunk.mk e6.id e6.kind e6.data e6.kids)];
         some t8
         else
         none)
        else
        some out5) : Option ((List Chunk))).bind (fun (out9 : (List Chunk)) =>
       (ref26_all e6.kids id2).bind fun (q10 : (List Chunk)) =>
       (if (out9.length + q10.length) * 80 ≤ 140737488355328 then
        let t11 : List Chunk := out9 ++ q10;
        let t12 : Int := IntKind.i64.wrap (v4 + 1);
        some (Sum.inl (t12, t11))
        else
        none)))
     else
     none)
    else
    some (Sum.inr out5))
noncomputable def ref26_all_loop3_step (id2 : List Int) (i13 : Nat) (x14 : Chunk) (s15 : (List Chunk)) : Option (((List Chunk)) ⊕ ((List Chunk))) :=
   ((if (decide (x14.id = id2)) = true then
     some (!decide (id2 = [70, 79, 82, 77]))
     else
     some false) : Option (Bool)).bind (fun (v7 : Bool) =>
    ((if v7 = true then
      (if (s15.length + ([(Chunk.mk x14.id x14.kind x14.data x14.kids)] : List Chunk).length) * 80 ≤ 140737488355328 then
       let t8 : List Chunk := s15 ++ [(Chunk.mk x14.id x14.kind x14.data x14.kids)];
       some t8
       else
       none)
      else
      some s15) : Option ((List Chunk))).bind (fun (out9 : (List Chunk)) =>
     (ref26_all x14.kids id2).bind fun (q10 : (List Chunk)) =>
     (if (out9.length + q10.length) * 80 ≤ 140737488355328 then
      let t11 : List Chunk := out9 ++ q10;
      some (Sum.inl (t11))
      else
      none)))
theorem ref26_all_loop3_overAt (l1 : List Chunk) (id2 : List Int) (hl : l1.length ≤ 4611686018427387904) (k : Nat) (s15 : (List Chunk)) (hk : k ≤ l1.length) : loop (ref26_all_loop3 l1 id2) ((((k : Nat) : Int), s15) : Int × (List Chunk)) =
    overL (ref26_all_loop3_step id2) (fun (s15 : (List Chunk)) => some s15) k (l1.drop k) s15 := by
  refine loop_over l1 (fun n (s : (List Chunk)) => ((((n : Nat) : Int), s) : Int × (List Chunk))) _ _ (fun s => ?_) (fun i x s h => ?_) k s15 hk
  · unfold ref26_all_loop3; simp
  · have hlt := lt_len_of_get h
    have h1 : ((i : Nat) : Int) < ((l1.length : Nat) : Int) := by omega
    have h0 : (0 : Int) ≤ ((i : Nat) : Int) := by omega
    have hw : IntKind.i64.wrap (((i : Nat) : Int) + 1) = (((i + 1 : Nat) : Nat) : Int) := w64 (by omega)
    unfold ref26_all_loop3 ref26_all_loop3_step
    simp only [h1, h0, hw, h, decide_true, if_true, and_self, true_and, Int.toNat_natCast, Option.bind_some, Option.map_bind, Function.comp_def, map_ite, map_elim, Option.map_some, Option.map_none]
theorem ref26_all_loop3_over (l1 : List Chunk) (id2 : List Int) (hl : l1.length ≤ 4611686018427387904) (s15 : (List Chunk)) : loop (ref26_all_loop3 l1 id2) ((0, s15) : Int × (List Chunk)) =
    overL (ref26_all_loop3_step id2) (fun (s15 : (List Chunk)) => some s15) 0 l1 s15 := ref26_all_loop3_overAt l1 id2 hl 0 s15 (Nat.zero_le _)

theorem ref26_all_eq (l1 : List Chunk) (id2 : List Int) : ref26_all l1 id2 =
   (loop (ref26_all_loop3 l1 id2) (0, [])).bind (fun (out16 : (List Chunk)) =>
    some out16) := (call_eq ..).trans (by kernel_rfl)

theorem chunk_isKind_eq (s1 : List Int) : chunk_isKind s1 =
   (chunk_isId s1).bind fun (q2 : Bool) =>
   (if q2 = true then
    some (!decide (s1 = [70, 79, 82, 77]))
    else
    some false) := (call_eq ..).trans (by kernel_rfl)

theorem bytes_Clone_eq (b1 : List Int) : bytes_Clone b1 =
   (if b1.length = 0 then
    (demon
     (some [])
     ((if (([] : List Int).length + b1.length) * 1 ≤ 140737488355328 then
       let t2 : List Int := ([] : List Int) ++ b1;
       some t2
       else
       none)))
    else
    (if (([] : List Int).length + b1.length) * 1 ≤ 140737488355328 then
     let t3 : List Int := ([] : List Int) ++ b1;
     some t3
     else
     none)) := (call_eq ..).trans (by kernel_rfl)

noncomputable def slices_IndexFunc_api_Chunk_api_Chunk_2_loop2 (s1 : List Chunk) (s3 : Int × (List Int)) : Option ((Int × (List Int)) ⊕ (((List Int)) ⊕ (Int × (List Int)))) :=
   let v4 : Int := s3.1;
   let b5 : List Int := s3.2;
   (if (decide (v4 < ((s1.length : Nat) : Int))) = true then
    (if 0 ≤ v4 then
     (s1[v4.toNat]?).bind fun e6 =>
     (chunk_Replace_1 e6.id e6.kind e6.data e6.kids b5).bind fun (q7 : Bool × (List Int)) =>
     let tr8 : Bool := q7.1;
     let tr9 : List Int := q7.2;
     (if tr8 = true then
      some (Sum.inr (Sum.inr (v4, tr9)))
      else
      let t10 : Int := IntKind.i64.wrap (v4 + 1);
      some (Sum.inl (t10, tr9)))
     else
     none)
    else
    some (Sum.inr (Sum.inl b5)))
noncomputable def slices_IndexFunc_api_Chunk_api_Chunk_2_loop2_step (i11 : Nat) (x12 : Chunk) (s13 : (List Int)) : Option (((List Int)) ⊕ (((List Int)) ⊕ (Int × (List Int)))) :=
   (chunk_Replace_1 x12.id x12.kind x12.data x12.kids s13).bind fun (q7 : Bool × (List Int)) =>
   let tr8 : Bool := q7.1;
   let tr9 : List Int := q7.2;
   (if tr8 = true then
    some (Sum.inr (Sum.inr (((i11 : Nat) : Int), tr9)))
    else
    some (Sum.inl (tr9)))
theorem slices_IndexFunc_api_Chunk_api_Chunk_2_loop2_overAt (s1 : List Chunk) (hl : s1.length ≤ 4611686018427387904) (k : Nat) (s13 : (List Int)) (hk : k ≤ s1.length) : loop (slices_IndexFunc_api_Chunk_api_Chunk_2_loop2 s1) ((((k : Nat) : Int), s13) : Int × (List Int)) =
    overL (slices_IndexFunc_api_Chunk_api_Chunk_2_loop2_step) (fun (s13 : (List Int)) => some (Sum.inl s13)) k (s1.drop k) s13 := by
  refine loop_over s1 (fun n (s : (List Int)) => ((((n : Nat) : Int), s) : Int × (List Int))) _ _ (fun s => ?_) (fun i x s h => ?_) k s13 hk
  · unfold slices_IndexFunc_api_Chunk_api_Chunk_2_loop2; simp
  · have hlt := lt_len_of_get h
    have h1 : ((i : Nat) : Int) < ((s1.length : Nat) : Int) := by omega
    have h0 : (0 : Int) ≤ ((i : Nat) : Int) := by omega
    have hw : IntKind.i64.wrap (((i : Nat) : Int) + 1) = (((i + 1 : Nat) : Nat) : Int) := w64 (by omega)
    unfold slices_IndexFunc_api_Chunk_api_Chunk_2_loop2 slices_IndexFunc_api_Chunk_api_Chunk_2_loop2_step
    simp only [h1, h0, hw, h, decide_true, if_true, and_self, true_and, Int.toNat_natCast, Option.bind_some, Option.map_bind, Function.comp_def, map_ite, map_elim, Option.map_some, Option.map_none]
theorem slices_IndexFunc_api_Chunk_api_Chunk_2_loop2_over (s1 : List Chunk) (hl : s1.length ≤ 4611686018427387904) (s13 : (List Int)) : loop (slices_IndexFunc_api_Chunk_api_Chunk_2_loop2 s1) ((0, s13) : Int × (List Int)) =
    overL (slices_IndexFunc_api_Chunk_api_Chunk_2_loop2_step) (fun (s13 : (List Int)) => some (Sum.inl s13)) 0 s1 s13 := slices_IndexFunc_api_Chunk_api_Chunk_2_loop2_overAt s1 hl 0 s13 (Nat.zero_le _)

theorem slices_IndexFunc_api_Chunk_api_Chunk_2_eq (s1 : List Chunk) (b2 : List Int) : slices_IndexFunc_api_Chunk_api_Chunk_2 s1 b2 =
   (loop (slices_IndexFunc_api_Chunk_api_Chunk_2_loop2 s1) (0, b2)).bind (fun (o18 : ((List Int)) ⊕ (Int × (List Int))) =>
    (Sum.elim (fun (b14 : (List Int)) =>
      some ((-1), b14))
     (fun (p15 : Int × (List Int)) =>
      let v16 : Int := p15.1;
      let b17 : List Int := p15.2;
      some (v16, b17)) o18)) := (call_eq ..).trans (by kernel_rfl)

noncomputable def ref26_IsId_loop4 (s1 : List Int) (i2 : Int) : Option ((Int) ⊕ ((Unit) ⊕ (Bool))) :=
   (if (decide (i2 < 4)) = true then
    (if 0 ≤ i2 ∧ i2 < ((s1).length : Int) then
     let t3 : Int := rd s1 i2;
     (if (decide (t3 < 65)) = true then
      (if (decide (t3 < 48)) = true then
       some (Sum.inr (Sum.inr false))
       else
       (if (decide (t3 > 57)) = true then
        some (Sum.inr (Sum.inr false))
        else
        let t4 : Int := IntKind.i64.wrap (i2 + 1);
        some (Sum.inl t4)))
      else
      (if (decide (t3 > 90)) = true then
       (if (decide (t3 < 48)) = true then
        some (Sum.inr (Sum.inr false))
        else
        (if (decide (t3 > 57)) = true then
         some (Sum.inr (Sum.inr false))
         else
         let t5 : Int := IntKind.i64.wrap (i2 + 1);
         some (Sum.inl t5)))
       else
       let t6 : Int := IntKind.i64.wrap (i2 + 1);
       some (Sum.inl t6)))
     else
     none)
    else
    some (Sum.inr (Sum.inl ())))
noncomputable def ref26_IsId_loop4_step (s1 : List Int) (i7 : Nat) (x8 : Nat) (s9 : Unit) : Option ((Unit) ⊕ ((Unit) ⊕ (Bool))) :=
   (if 0 ≤ ((i7 : Nat) : Int) ∧ ((i7 : Nat) : Int) < ((s1).length : Int) then
    let t3 : Int := rd s1 ((i7 : Nat) : Int);
    (if (decide (t3 < 65)) = true then
     (if (decide (t3 < 48)) = true then
      some (Sum.inr (Sum.inr false))
      else
      (if (decide (t3 > 57)) = true then
       some (Sum.inr (Sum.inr false))
       else
       some (Sum.inl (()))))
     else
     (if (decide (t3 > 90)) = true then
      (if (decide (t3 < 48)) = true then
       some (Sum.inr (Sum.inr false))
       else
       (if (decide (t3 > 57)) = true then
        some (Sum.inr (Sum.inr false))
        else
        some (Sum.inl (()))))
      else
      some (Sum.inl (()))))
    else
    none)
theorem ref26_IsId_loop4_overAt (s1 : List Int) (hl : (List.range 4).length ≤ 4611686018427387904) (k : Nat) (s9 : Unit) (hk : k ≤ (List.range 4).length) : loop (ref26_IsId_loop4 s1) (((k : Nat) : Int) : Int) =
    overL (ref26_IsId_loop4_step s1) (fun (s9 : Unit) => some (Sum.inl ())) k ((List.range 4).drop k) s9 := by
  refine loop_over (List.range 4) (fun n (s : Unit) => (((n : Nat) : Int) : Int)) _ _ (fun s => ?_) (fun i x s h => ?_) k s9 hk
  · have h1 : ¬ (((List.range 4).length : Nat) : Int) < 4 := by simp only [List.length_range]; omega
    unfold ref26_IsId_loop4; simp only [h1, decide_false, Bool.false_eq_true, if_false, Option.map_some]
  · have hlt := lt_len_of_get h
    rw [List.length_range] at hlt hl
    rw [List.getElem?_range hlt] at h
    cases h
    have h1 : ((i : Nat) : Int) < 4 := by omega
    have h0 : (0 : Int) ≤ ((i : Nat) : Int) := by omega
    have hw : IntKind.i64.wrap (((i : Nat) : Int) + 1) = (((i + 1 : Nat) : Nat) : Int) := w64 (by omega)
    unfold ref26_IsId_loop4 ref26_IsId_loop4_step
    simp only [h1, h0, hw, decide_true, if_true, and_self, true_and, Int.toNat_natCast, Option.bind_some, Option.map_bind, Function.comp_def, map_ite, map_elim, Option.map_some, Option.map_none]
theorem ref26_IsId_loop4_over (s1 : List Int) (hl : (List.range 4).length ≤ 4611686018427387904) (s9 : Unit) : loop (ref26_IsId_loop4 s1) (0 : Int) =
    overL (ref26_IsId_loop4_step s1) (fun (s9 : Unit) => some (Sum.inl ())) 0 (List.range 4) s9 := ref26_IsId_loop4_overAt s1 hl 0 s9 (Nat.zero_le _)

theorem ref26_IsId_eq (s1 : List Int) : ref26_IsId s1 =
   (if (!decide (((s1.length : Nat) : Int) = 4)) = true then
    some false
    else
    (loop (ref26_IsId_loop4 s1) 0).bind (fun (o12 : (Unit) ⊕ (Bool)) =>
     (Sum.elim (fun (p10 : Unit) =>
       some true)
      (fun (v11 : Bool) =>
       some v11) o12))) := (call_eq ..).trans (by kernel_rfl)

noncomputable def chunk_reader_list_loop2 (end2 : Int) (depth3 : Int) (s8 : Int × (List Int) × Int × Int × Int × (List Chunk)) : Option ((Int × (List Int) × Int × Int × Int × (List Chunk)) ⊕ ((List Int) × Int × Int × Int × (List Chunk))) :=
   let at9 : Int := s8.1;
   let b10 : List Int := s8.2.1;
   let b11 : Int := s8.2.2.1;
   let b12 : Int := s8.2.2.2.1;
   let b13 : Int := s8.2.2.2.2.1;
   let out14 : List Chunk := s8.2.2.2.2.2;
   ((if (decide (at9 < end2)) = true then
     some (decide (b12 = 0))
     else
     some false) : Option (Bool)).bind (fun (v15 : Bool) =>
    (if v15 = true then
     (chunk_reader_chunk at9 end2 depth3 b10 b11 b12 b13).bind fun (q16 : (List Int) × (List Int) × (List Int) × (List Chunk) × Int × (List Int) × Int × Int × Int) =>
     let tr17 : List Int := q16.1;
     let tr18 : List Int := q16.2.1;
     let tr19 : List Int := q16.2.2.1;
     let tr20 : List Chunk := q16.2.2.2.1;
     let tr21 : Int := q16.2.2.2.2.1;
     let tr22 : List Int := q16.2.2.2.2.2.1;
     let tr23 : Int := q16.2.2.2.2.2.2.1;
     let tr24 : Int := q16.2.2.2.2.2.2.2.1;
     let tr25 : Int := q16.2.2.2.2.2.2.2.2;
     (if (out14.length + ([(Chunk.mk tr17 tr18 tr19 tr20)] : List Chunk).length) * 80 ≤ 140737488355328 then
      let t26 : List Chunk := out14 ++ [(Chunk.mk tr17 tr18 tr19 tr20)];
      some (Sum.inl (tr21, tr22, tr23, tr24, tr25, t26))
      else
      none)
     else
     some (Sum.inr (b10, b11, b12, b13, out14))))
theorem chunk_reader_list_eq (at1 : Int) (end2 : Int) (depth3 : Int) (b4 : List Int) (b5 : Int) (b6 : Int) (b7 : Int) : chunk_reader_list at1 end2 depth3 b4 b5 b6 b7 =
   (loop (chunk_reader_list_loop2 end2 depth3) (at1, b4, b5, b6, b7, [])).bind (fun (p27 : (List Int) × Int × Int × Int × (List Chunk)) =>
    let b28 : List Int := p27.1;
    let b29 : Int := p27.2.1;
    let b30 : Int := p27.2.2.1;
    let b31 : Int := p27.2.2.2.1;
    let out32 : List Chunk := p27.2.2.2.2;
    some (out32, b28, b29, b30, b31)) := (call_eq ..).trans (by kernel_rfl)

noncomputable def ref26_reader_list_loop2 (end2 : Int) (deep3 : Int) (s6 : Int × (List Int) × Int × (List Chunk)) : Option ((Int × (List Int) × Int × (List Chunk)) ⊕ ((Int × (List Int) × Int × (List Chunk)) ⊕ ((List Chunk) × Int × Int × (List Int) × Int))) :=
   let at7 : Int := s6.1;
   let b8 : List Int := s6.2.1;
   let b9 : Int := s6.2.2.1;
   let out10 : List Chunk := s6.2.2.2;
   (if (decide (at7 < end2)) = true then
    (ref26_reader_chunk at7 end2 deep3 b8 b9).bind fun (q11 : (List Int) × (List Int) × (List Int) × (List Chunk) × Int × Int × (List Int) × Int) =>
    let tr12 : List Int := q11.1;
    let tr13 : List Int := q11.2.1;
    let tr14 : List Int := q11.2.2.1;
    let tr15 : List Chunk := q11.2.2.2.1;
    let tr16 : Int := q11.2.2.2.2.1;
    let tr17 : Int := q11.2.2.2.2.2.1;
    let tr18 : List Int := q11.2.2.2.2.2.2.1;
    let tr19 : Int := q11.2.2.2.2.2.2.2;
    (if (!decide (tr17 = 0)) = true then
     some (Sum.inr (Sum.inr ([], tr16, tr17, tr18, tr19)))
     else
     (if (out10.length + ([(Chunk.mk tr12 tr13 tr14 tr15)] : List Chunk).length) * 80 ≤ 140737488355328 then
      let t20 : List Chunk := out10 ++ [(Chunk.mk tr12 tr13 tr14 tr15)];
      some (Sum.inl (tr16, tr18, tr19, t20))
      else
      none))
    else
    some (Sum.inr (Sum.inl (at7, b8, b9, out10))))
theorem ref26_reader_list_eq (at1 : Int) (end2 : Int) (deep3 : Int) (b4 : List Int) (b5 : Int) : ref26_reader_list at1 end2 deep3 b4 b5 =
   (loop (ref26_reader_list_loop2 end2 deep3) (at1, b4, b5, [])).bind (fun (o32 : (Int × (List Int) × Int × (List Chunk)) ⊕ ((List Chunk) × Int × Int × (List Int) × Int)) =>
    (Sum.elim (fun (p21 : Int × (List Int) × Int × (List Chunk)) =>
      let at22 : Int := p21.1;
      let b23 : List Int := p21.2.1;
      let b24 : Int := p21.2.2.1;
      let out25 : List Chunk := p21.2.2.2;
      some (out25, at22, 0, b23, b24))
     (fun (p26 : (List Chunk) × Int × Int × (List Int) × Int) =>
      let v27 : List Chunk := p26.1;
      let v28 : Int := p26.2.1;
      let v29 : Int := p26.2.2.1;
      let b30 : List Int := p26.2.2.2.1;
      let b31 : Int := p26.2.2.2.2;
      some (v27, v28, v29, b30, b31)) o32)) := (call_eq ..).trans (by kernel_rfl)

noncomputable def chunk_reader_chunk_loop7 (t51 : List Int) (s52 : Int × Int) : Option ((Int × Int) ⊕ (Int)) :=
   let n53 : Int := s52.1;
   let v54 : Int := s52.2;
   (if (decide (v54 < ((t51.length : Nat) : Int))) = true then
    (if 0 ≤ v54 ∧ v54 < (t51.length : Int) then
     let t55 : Int := ishl .i64 n53 8;
     let t56 : Int := IntKind.i64.wrap (rd t51 v54);
     let t57 : Int := ior .i64 t55 t56;
     let t58 : Int := IntKind.i64.wrap (v54 + 1);
     some (Sum.inl (t57, t58))
     else
     none)
    else
    some (Sum.inr n53))
noncomputable def chunk_reader_chunk_loop7_step (i59 : Nat) (x60 : Int) (s61 : Int) : Option ((Int) ⊕ (Int)) :=
   let t55 : Int := ishl .i64 s61 8;
   let t56 : Int := IntKind.i64.wrap (x60);
   let t57 : Int := ior .i64 t55 t56;
   some (Sum.inl (t57))
theorem chunk_reader_chunk_loop7_overAt (t51 : List Int) (hl : t51.length ≤ 4611686018427387904) (k : Nat) (s61 : Int) (hk : k ≤ t51.length) : loop (chunk_reader_chunk_loop7 t51) ((s61, ((k : Nat) : Int)) : Int × Int) =
    overL (chunk_reader_chunk_loop7_step) (fun (s61 : Int) => some s61) k (t51.drop k) s61 := by
  refine loop_over t51 (fun n (s : Int) => ((s, ((n : Nat) : Int)) : Int × Int)) _ _ (fun s => ?_) (fun i x s h => ?_) k s61 hk
  · unfold chunk_reader_chunk_loop7; simp
  · have hlt := lt_len_of_get h
    have h1 : ((i : Nat) : Int) < ((t51.length : Nat) : Int) := by omega
    have h0 : (0 : Int) ≤ ((i : Nat) : Int) := by omega
    have hw : IntKind.i64.wrap (((i : Nat) : Int) + 1) = (((i + 1 : Nat) : Nat) : Int) := w64 (by omega)
    have hr : rd t51 ((i : Nat) : Int) = x := rd_nat h
    unfold chunk_reader_chunk_loop7 chunk_reader_chunk_loop7_step
    simp only [h1, h0, hw, h, hr, decide_true, if_true, and_self, true_and, Int.toNat_natCast, Option.bind_some, Option.map_bind, Function.comp_def, map_ite, map_elim, Option.map_some, Option.map_none]
theorem chunk_reader_chunk_loop7_over (t51 : List Int) (hl : t51.length ≤ 4611686018427387904) (s61 : Int) : loop (chunk_reader_chunk_loop7 t51) ((s61, 0) : Int × Int) =
    overL (chunk_reader_chunk_loop7_step) (fun (s61 : Int) => some s61) 0 t51 s61 := chunk_reader_chunk_loop7_overAt t51 hl 0 s61 (Nat.zero_le _)

theorem chunk_reader_chunk_eq (at1 : Int) (end2 : Int) (depth3 : Int) (b4 : List Int) (b5 : Int) (b6 : Int) (b7 : Int) : chunk_reader_chunk at1 end2 depth3 b4 b5 b6 b7 =
   (chunk_reader_id at1 end2 b4 b5 b6 b7).bind fun (q8 : (List Int) × (List Int) × Int × Int × Int) =>
   let tr9 : List Int := q8.1;
   let tr10 : List Int := q8.2.1;
   let tr11 : Int := q8.2.2.1;
   let tr12 : Int := q8.2.2.2.1;
   let tr13 : Int := q8.2.2.2.2;
   let t14 : Int := IntKind.i64.wrap (tr11 + 1);
   ((if (decide (t14 ≤ 400)) = true then
     (chunk_reader_fail (decide (depth3 ≤ 8)) 4 at1 tr10 t14 tr12 tr13).bind fun (q15 : Bool × (List Int) × Int × Int × Int) =>
     let tr16 : Bool := q15.1;
     let tr17 : List Int := q15.2.1;
     let tr18 : Int := q15.2.2.1;
     let tr19 : Int := q15.2.2.2.1;
     let tr20 : Int := q15.2.2.2.2;
     (if (!tr16) = true then
      some (true, tr17, tr18, tr19, tr20)
      else
      let t21 : Int := IntKind.i64.wrap (end2 - at1);
      let t22 : Int := IntKind.i64.wrap (at1 + 4);
      (chunk_reader_fail (decide (t21 ≥ 8)) 6 t22 tr17 tr18 tr19 tr20).bind fun (q23 : Bool × (List Int) × Int × Int × Int) =>
      let tr24 : Bool := q23.1;
      let tr25 : List Int := q23.2.1;
      let tr26 : Int := q23.2.2.1;
      let tr27 : Int := q23.2.2.2.1;
      let tr28 : Int := q23.2.2.2.2;
      some (!tr24, tr25, tr26, tr27, tr28))
     else
     (chunk_reader_fail false 4 at1 tr10 t14 tr12 tr13).bind fun (q29 : Bool × (List Int) × Int × Int × Int) =>
     let tr30 : Bool := q29.1;
     let tr31 : List Int := q29.2.1;
     let tr32 : Int := q29.2.2.1;
     let tr33 : Int := q29.2.2.2.1;
     let tr34 : Int := q29.2.2.2.2;
     (if (!tr30) = true then
      some (true, tr31, tr32, tr33, tr34)
      else
      let t35 : Int := IntKind.i64.wrap (end2 - at1);
      let t36 : Int := IntKind.i64.wrap (at1 + 4);
      (chunk_reader_fail (decide (t35 ≥ 8)) 6 t36 tr31 tr32 tr33 tr34).bind fun (q37 : Bool × (List Int) × Int × Int × Int) =>
      let tr38 : Bool := q37.1;
      let tr39 : List Int := q37.2.1;
      let tr40 : Int := q37.2.2.1;
      let tr41 : Int := q37.2.2.2.1;
      let tr42 : Int := q37.2.2.2.2;
      some (!tr38, tr39, tr40, tr41, tr42))) : Option (Bool × (List Int) × Int × Int × Int)).bind (fun (p43 : Bool × (List Int) × Int × Int × Int) =>
    let v44 : Bool := p43.1;
    let b45 : List Int := p43.2.1;
    let b46 : Int := p43.2.2.1;
    let b47 : Int := p43.2.2.2.1;
    let b48 : Int := p43.2.2.2.2;
    (if v44 = true then
     some (tr9, [], [], [], end2, b45, b46, b47, b48)
     else
     let t49 : Int := IntKind.i64.wrap (at1 + 4);
     let t50 : Int := IntKind.i64.wrap (at1 + 8);
     (if 0 ≤ t50 ∧ t50 ≤ ((b45.length : Nat) : Int) then
      (if 0 ≤ t49 ∧ t49 ≤ t50 then
       let t51 : List Int := cutL b45 t49.toNat t50.toNat;
       (loop (chunk_reader_chunk_loop7 t51) (0, 0)).bind (fun (n62 : Int) =>
        let t63 : Int := IntKind.i64.wrap (at1 + 8);
        let t64 : Int := IntKind.i64.wrap (end2 - t63);
        let t65 : Int := IntKind.i64.wrap (at1 + 4);
        (chunk_reader_fail (decide (n62 ≤ t64)) 6 t65 b45 b46 b47 b48).bind fun (q66 : Bool × (List Int) × Int × Int × Int) =>
        let tr67 : Bool := q66.1;
        let tr68 : List Int := q66.2.1;
        let tr69 : Int := q66.2.2.1;
        let tr70 : Int := q66.2.2.2.1;
        let tr71 : Int := q66.2.2.2.2;
        (if (!tr67) = true then
         some (tr9, [], [], [], end2, tr68, tr69, tr70, tr71)
         else
         let t72 : Int := IntKind.i64.wrap (t63 + n62);
         ((if (decide (tr9 = [70, 79, 82, 77])) = true then
           (chunk_reader_id_2 t63 t72 tr68 tr69 tr70 tr71).bind fun (q73 : (List Int) × (List Int) × Int × Int × Int) =>
           let tr74 : List Int := q73.1;
           let tr75 : List Int := q73.2.1;
           let tr76 : Int := q73.2.2.1;
           let tr77 : Int := q73.2.2.2.1;
           let tr78 : Int := q73.2.2.2.2;
           let t79 : Int := IntKind.i64.wrap (t63 + 4);
           let t80 : Int := IntKind.i64.wrap (depth3 + 1);
           (chunk_reader_list t79 t72 t80 tr75 tr76 tr77 tr78).bind fun (q81 : (List Chunk) × (List Int) × Int × Int × Int) =>
           let tr82 : List Chunk := q81.1;
           let tr83 : List Int := q81.2.1;
           let tr84 : Int := q81.2.2.1;
           let tr85 : Int := q81.2.2.2.1;
           let tr86 : Int := q81.2.2.2.2;
           some (tr83, tr84, tr85, tr86, tr9, tr74, [], tr82)
           else
           (if 0 ≤ t72 ∧ t72 ≤ ((tr68.length : Nat) : Int) then
            (if 0 ≤ t63 ∧ t63 ≤ t72 then
             let t87 : List Int := cutL tr68 t63.toNat t72.toNat;
             (bytes_Clone t87).bind fun (q88 : (List Int)) =>
             some (tr68, tr69, tr70, tr71, tr9, [], q88, [])
             else
             none)
            else
            none)) : Option ((List Int) × Int × Int × Int × (List Int) × (List Int) × (List Int) × (List Chunk))).bind (fun (p89 : (List Int) × Int × Int × Int × (List Int) × (List Int) × (List Int) × (List Chunk)) =>
          let b90 : List Int := p89.1;
          let b91 : Int := p89.2.1;
          let b92 : Int := p89.2.2.1;
          let b93 : Int := p89.2.2.2.1;
          let b94 : List Int := p89.2.2.2.2.1;
          let b95 : List Int := p89.2.2.2.2.2.1;
          let b96 : List Int := p89.2.2.2.2.2.2.1;
          let b97 : List Chunk := p89.2.2.2.2.2.2.2;
          (let t98 : Int := n62.tmod 2;
           (if (decide (t98 = 1)) = true then
            (chunk_reader_fail (decide (t72 < end2)) 6 t72 b90 b91 b92 b93).bind fun (q99 : Bool × (List Int) × Int × Int × Int) =>
            let tr100 : Bool := q99.1;
            let tr101 : List Int := q99.2.1;
            let tr102 : Int := q99.2.2.1;
            let tr103 : Int := q99.2.2.2.1;
            let tr104 : Int := q99.2.2.2.2;
            some (tr100, tr101, tr102, tr103, tr104)
            else
            some (false, b90, b91, b92, b93)) : Option (Bool × (List Int) × Int × Int × Int)).bind (fun (p105 : Bool × (List Int) × Int × Int × Int) =>
           let v106 : Bool := p105.1;
           let b107 : List Int := p105.2.1;
           let b108 : Int := p105.2.2.1;
           let b109 : Int := p105.2.2.2.1;
           let b110 : Int := p105.2.2.2.2;
           (if v106 = true then
            (if 0 ≤ t72 ∧ t72 < (b107.length : Int) then
             (chunk_reader_fail (decide (rd b107 t72 = 0)) 3 t72 b107 b108 b109 b110).bind fun (q111 : Bool × (List Int) × Int × Int × Int) =>
             let tr112 : Bool := q111.1;
             let tr113 : List Int := q111.2.1;
             let tr114 : Int := q111.2.2.1;
             let tr115 : Int := q111.2.2.2.1;
             let tr116 : Int := q111.2.2.2.2;
             let t117 : Int := IntKind.i64.wrap (t72 + 1);
             some (b94, b95, b96, b97, t117, tr113, tr114, tr115, tr116)
             else
             none)
            else
            some (b94, b95, b96, b97, t72, b107, b108, b109, b110))))))
       else
       none)
      else
      none))) := (call_eq ..).trans (by kernel_rfl)

noncomputable def ref26_reader_chunk_loop11 (at1 : Int) (tr9 : List Int) (s15 : Int × Int) : Option ((Int × Int) ⊕ (Int)) :=
   let n16 : Int := s15.1;
   let i17 : Int := s15.2;
   (if (decide (i17 < 8)) = true then
    let t18 : Int := IntKind.i64.wrap (256 * n16);
    let t19 : Int := IntKind.i64.wrap (at1 + i17);
    (if 0 ≤ t19 ∧ t19 < (tr9.length : Int) then
     let t20 : Int := IntKind.i64.wrap (rd tr9 t19);
     let t21 : Int := IntKind.i64.wrap (t18 + t20);
     let t22 : Int := IntKind.i64.wrap (i17 + 1);
     some (Sum.inl (t21, t22))
     else
     none)
    else
    some (Sum.inr n16))
noncomputable def ref26_reader_chunk_loop11_step (at1 : Int) (tr9 : List Int) (i23 : Nat) (x24 : Nat) (s25 : Int) : Option ((Int) ⊕ (Int)) :=
   let t18 : Int := IntKind.i64.wrap (256 * s25);
   let t19 : Int := IntKind.i64.wrap (at1 + ((i23 : Nat) : Int));
   (if 0 ≤ t19 ∧ t19 < (tr9.length : Int) then
    let t20 : Int := IntKind.i64.wrap (rd tr9 t19);
    let t21 : Int := IntKind.i64.wrap (t18 + t20);
    some (Sum.inl (t21))
    else
    none)
theorem ref26_reader_chunk_loop11_overAt (at1 : Int) (tr9 : List Int) (hl : (List.range 8).length ≤ 4611686018427387904) (k : Nat) (s25 : Int) (hk : k ≤ (List.range 8).length) : loop (ref26_reader_chunk_loop11 at1 tr9) ((s25, ((k : Nat) : Int)) : Int × Int) =
    overL (ref26_reader_chunk_loop11_step at1 tr9) (fun (s25 : Int) => some s25) k ((List.range 8).drop k) s25 := by
  refine loop_over (List.range 8) (fun n (s : Int) => ((s, ((n : Nat) : Int)) : Int × Int)) _ _ (fun s => ?_) (fun i x s h => ?_) k s25 hk
  · have h1 : ¬ (((List.range 8).length : Nat) : Int) < 8 := by simp only [List.length_range]; omega
    unfold ref26_reader_chunk_loop11; simp only [h1, decide_false, Bool.false_eq_true, if_false, Option.map_some]
  · have hlt := lt_len_of_get h
    rw [List.length_range] at hlt hl
    rw [List.getElem?_range hlt] at h
    cases h
    have h1 : ((i : Nat) : Int) < 8 := by omega
    have h0 : (0 : Int) ≤ ((i : Nat) : Int) := by omega
    have hw : IntKind.i64.wrap (((i : Nat) : Int) + 1) = (((i + 1 : Nat) : Nat) : Int) := w64 (by omega)
    unfold ref26_reader_chunk_loop11 ref26_reader_chunk_loop11_step
    simp only [h1, h0, hw, decide_true, if_true, and_self, true_and, Int.toNat_natCast, Option.bind_some, Option.map_bind, Function.comp_def, map_ite, map_elim, Option.map_some, Option.map_none]
theorem ref26_reader_chunk_loop11_over (at1 : Int) (tr9 : List Int) (hl : (List.range 8).length ≤ 4611686018427387904) (s25 : Int) : loop (ref26_reader_chunk_loop11 at1 tr9) ((s25, 0) : Int × Int) =
    overL (ref26_reader_chunk_loop11_step at1 tr9) (fun (s25 : Int) => some s25) 0 (List.range 8) s25 := ref26_reader_chunk_loop11_overAt at1 tr9 hl 0 s25 (Nat.zero_le _)

theorem ref26_reader_chunk_eq (at1 : Int) (end2 : Int) (deep3 : Int) (b4 : List Int) (b5 : Int) : ref26_reader_chunk at1 end2 deep3 b4 b5 =
   (ref26_reader_id at1 end2 b4 b5).bind fun (q6 : (List Int) × Int × (List Int) × Int) =>
   let tr7 : List Int := q6.1;
   let tr8 : Int := q6.2.1;
   let tr9 : List Int := q6.2.2.1;
   let tr10 : Int := q6.2.2.2;
   (if (!decide (tr8 = 0)) = true then
    some ([], [], [], [], at1, tr8, tr9, tr10)
    else
    ((if (decide (tr10 = 400)) = true then
      some true
      else
      some (decide (deep3 > 8))) : Option (Bool)).bind (fun (v11 : Bool) =>
     (if v11 = true then
      some ([], [], [], [], at1, 4, tr9, tr10)
      else
      let t12 : Int := IntKind.i64.wrap (tr10 + 1);
      let t13 : Int := IntKind.i64.wrap (end2 - at1);
      (if (decide (t13 < 8)) = true then
       let t14 : Int := IntKind.i64.wrap (at1 + 4);
       some ([], [], [], [], t14, 6, tr9, t12)
       else
       (loop (ref26_reader_chunk_loop11 at1 tr9) (0, 4)).bind (fun (n26 : Int) =>
        let t27 : Int := IntKind.i64.wrap (end2 - at1);
        let t28 : Int := IntKind.i64.wrap (t27 - 8);
        (if (decide (n26 > t28)) = true then
         let t29 : Int := IntKind.i64.wrap (at1 + 4);
         some ([], [], [], [], t29, 6, tr9, t12)
         else
         let t30 : Int := IntKind.i64.wrap (at1 + 8);
         let t31 : Int := IntKind.i64.wrap (at1 + 8);
         let t32 : Int := IntKind.i64.wrap (t31 + n26);
         ((if (decide (tr7 = [70, 79, 82, 77])) = true then
           (ref26_reader_id t30 t32 tr9 t12).bind fun (q33 : (List Int) × Int × (List Int) × Int) =>
           let tr34 : List Int := q33.1;
           let tr35 : Int := q33.2.1;
           let tr36 : List Int := q33.2.2.1;
           let tr37 : Int := q33.2.2.2;
           ((if (decide (tr35 = 0)) = true then
             some (decide (tr34 = [70, 79, 82, 77]))
             else
             some false) : Option (Bool)).bind (fun (v38 : Bool) =>
            ((if v38 = true then
              some 3
              else
              some tr35) : Option (Int)).bind (fun (e39 : Int) =>
             (if (!decide (e39 = 0)) = true then
              some (Sum.inr (t30, e39, tr36, tr37, [], [], [], [], tr7, tr34, [], []))
              else
              let t40 : Int := IntKind.i64.wrap (t30 + 4);
              let t41 : Int := IntKind.i64.wrap (deep3 + 1);
              (ref26_reader_list t40 t32 t41 tr36 tr37).bind fun (q42 : (List Chunk) × Int × Int × (List Int) × Int) =>
              let tr43 : List Chunk := q42.1;
              let tr44 : Int := q42.2.1;
              let tr45 : Int := q42.2.2.1;
              let tr46 : List Int := q42.2.2.2.1;
              let tr47 : Int := q42.2.2.2.2;
              (if (!decide (tr45 = 0)) = true then
               some (Sum.inr (tr44, tr45, tr46, tr47, [], [], [], [], tr7, tr34, [], tr43))
               else
               some (Sum.inl (tr46, tr47, [], [], [], [], tr7, tr34, tr43, []))))))
           else
           (if 0 ≤ t32 ∧ t32 ≤ ((tr9.length : Nat) : Int) then
            (if 0 ≤ t30 ∧ t30 ≤ t32 then
             let t48 : List Int := cutL tr9 t30.toNat t32.toNat;
             (if (([] : List Int).length + t48.length) * 1 ≤ 140737488355328 then
              let t49 : List Int := ([] : List Int) ++ t48;
              some (Sum.inl (tr9, t12, [], [], [], [], tr7, [], [], t49))
              else
              none)
             else
             none)
            else
            none)) : Option (((List Int) × Int × (List Int) × (List Int) × (List Int) × (List Chunk) × (List Int) × (List Int) × (List Chunk) × (List Int)) ⊕ (Int × Int × (List Int) × Int × (List Int) × (List Int) × (List Int) × (List Chunk) × (List Int) × (List Int) × (List Int) × (List Chunk)))).bind (fun (o74 : ((List Int) × Int × (List Int) × (List Int) × (List Int) × (List Chunk) × (List Int) × (List Int) × (List Chunk) × (List Int)) ⊕ (Int × Int × (List Int) × Int × (List Int) × (List Int) × (List Int) × (List Chunk) × (List Int) × (List Int) × (List Int) × (List Chunk))) =>
          (Sum.elim (fun (p50 : (List Int) × Int × (List Int) × (List Int) × (List Int) × (List Chunk) × (List Int) × (List Int) × (List Chunk) × (List Int)) =>
            let b51 : List Int := p50.1;
            let b52 : Int := p50.2.1;
            let b53 : List Int := p50.2.2.1;
            let b54 : List Int := p50.2.2.2.1;
            let b55 : List Int := p50.2.2.2.2.1;
            let b56 : List Chunk := p50.2.2.2.2.2.1;
            let b57 : List Int := p50.2.2.2.2.2.2.1;
            let b58 : List Int := p50.2.2.2.2.2.2.2.1;
            let b59 : List Chunk := p50.2.2.2.2.2.2.2.2.1;
            let b60 : List Int := p50.2.2.2.2.2.2.2.2.2;
            let t75 : Int := n26.tmod 2;
            (if (decide (t75 = 0)) = true then
             some (b57, b58, b60, b59, t32, 0, b51, b52)
             else
             (if (decide (t32 = end2)) = true then
              some ([], [], [], [], t32, 6, b51, b52)
              else
              (if 0 ≤ t32 ∧ t32 < (b51.length : Int) then
               (if (!decide (rd b51 t32 = 0)) = true then
                some ([], [], [], [], t32, 3, b51, b52)
                else
                let t76 : Int := IntKind.i64.wrap (t32 + 1);
                some (b57, b58, b60, b59, t76, 0, b51, b52))
               else
               none))))
           (fun (p61 : Int × Int × (List Int) × Int × (List Int) × (List Int) × (List Int) × (List Chunk) × (List Int) × (List Int) × (List Int) × (List Chunk)) =>
            let v62 : Int := p61.1;
            let v63 : Int := p61.2.1;
            let b64 : List Int := p61.2.2.1;
            let b65 : Int := p61.2.2.2.1;
            let b66 : List Int := p61.2.2.2.2.1;
            let b67 : List Int := p61.2.2.2.2.2.1;
            let b68 : List Int := p61.2.2.2.2.2.2.1;
            let b69 : List Chunk := p61.2.2.2.2.2.2.2.1;
            let b70 : List Int := p61.2.2.2.2.2.2.2.2.1;
            let b71 : List Int := p61.2.2.2.2.2.2.2.2.2.1;
            let b72 : List Int := p61.2.2.2.2.2.2.2.2.2.2.1;
            let b73 : List Chunk := p61.2.2.2.2.2.2.2.2.2.2.2;
            some (b66, b67, b68, b69, v62, v63, b64, b65)) o74)))))))) := (call_eq ..).trans (by kernel_rfl)

theorem bitmap_blank_eq (w1 : Int) (h2 : Int) : bitmap_blank w1 h2 =
   (bitmap_fits w1 h2).bind fun (q3 : Bool) =>
   (if (!q3) = true then
    some (0, 0, 4, [])
    else
    let t4 : Int := IntKind.i64.wrap (w1 * h2);
    (if 0 ≤ t4 ∧ t4 ≤ t4 ∧ ((1 : Nat) : Int) * t4 ≤ 281474976710656 then
     let t5 : List Int := List.replicate t4.toNat 0;
     some (w1, h2, 0, t5)
     else
     none)) := (call_eq ..).trans (by kernel_rfl)

noncomputable def bits_Size_loop5 (s6 : Int × (List Int)) : Option ((Int × (List Int)) ⊕ ((List Int))) :=
   let n7 : Int := s6.1;
   let out8 : List Int := s6.2;
   (if (decide (n7 > 0)) = true then
    let t9 : Int := n7.tmod 128;
    let t10 : Int := IntKind.u8.wrap t9;
    let t11 : Int := IntKind.u8.wrap (t10 + 128);
    (if (([t11] : List Int).length + out8.length) * 1 ≤ 140737488355328 then
     let t12 : List Int := ([t11] : List Int) ++ out8;
     let t13 : Int := IntKind.i64.wrap (n7.tdiv 128);
     some (Sum.inl (t13, t12))
     else
     none)
    else
    some (Sum.inr out8))
theorem bits_Size_eq (n1 : Int) : bits_Size n1 =
   ((if (decide (n1 < 0)) = true then
     some true
     else
     some (decide (n1 > 2147483647))) : Option (Bool)).bind (fun (v2 : Bool) =>
    (if v2 = true then
     some ([], 2)
     else
     let t3 : Int := n1.tmod 128;
     let t4 : Int := IntKind.u8.wrap t3;
     let t5 : Int := IntKind.i64.wrap (n1.tdiv 128);
     (loop (bits_Size_loop5) (t5, [t4])).bind (fun (out14 : (List Int)) =>
      some (out14, 0)))) := (call_eq ..).trans (by kernel_rfl)

noncomputable def ref01_Size_loop5 (s6 : Int × (List Int)) : Option ((Int × (List Int)) ⊕ ((List Int))) :=
   let n7 : Int := s6.1;
   let out8 : List Int := s6.2;
   (if (decide (n7 > 0)) = true then
    let t9 : Int := n7.tmod 128;
    let t10 : Int := IntKind.i64.wrap (128 + t9);
    let t11 : Int := IntKind.u8.wrap t10;
    (if (([t11] : List Int).length + out8.length) * 1 ≤ 140737488355328 then
     let t12 : List Int := ([t11] : List Int) ++ out8;
     let t13 : Int := IntKind.i64.wrap (n7.tdiv 128);
     some (Sum.inl (t13, t12))
     else
     none)
    else
    some (Sum.inr out8))
theorem ref01_Size_eq (n1 : Int) : ref01_Size n1 =
   ((if (decide (n1 < 0)) = true then
     some true
     else
     some (decide (n1 > 2147483647))) : Option (Bool)).bind (fun (v2 : Bool) =>
    (if v2 = true then
     some ([], 2)
     else
     let t3 : Int := n1.tmod 128;
     let t4 : Int := IntKind.u8.wrap t3;
     let t5 : Int := IntKind.i64.wrap (n1.tdiv 128);
     (loop (ref01_Size_loop5) (t5, [t4])).bind (fun (out14 : (List Int)) =>
      some (out14, 0)))) := (call_eq ..).trans (by kernel_rfl)

noncomputable def chunk_looks_right_loop2 (l1 : List Chunk) (depth2 : Int) (s4 : Int × Int) : Option ((Int × Int) ⊕ ((Int) ⊕ (Bool × Int))) :=
   let v5 : Int := s4.1;
   let b6 : Int := s4.2;
   (if (decide (v5 < ((l1.length : Nat) : Int))) = true then
    (if 0 ≤ v5 then
     (l1[v5.toNat]?).bind fun e7 =>
     let t8 : Int := IntKind.i64.wrap (b6 + 1);
     ((if (decide (t8 > 400)) = true then
       some true
       else
       (if (decide (depth2 > 8)) = true then
        some true
        else
        (chunk_isId e7.id).bind fun (q9 : Bool) =>
        some (!q9))) : Option (Bool)).bind (fun (v10 : Bool) =>
      (if v10 = true then
       some (Sum.inr (Sum.inr (false, t8)))
       else
       (if (decide (e7.id = [70, 79, 82, 77])) = true then
        (chunk_isKind e7.kind).bind fun (q11 : Bool) =>
        (if (!q11) = true then
         some (Sum.inr (Sum.inr (false, t8)))
         else
         (if (decide (((e7.data.length : Nat) : Int) > 0)) = true then
          some (Sum.inr (Sum.inr (false, t8)))
          else
          let t12 : Int := IntKind.i64.wrap (depth2 + 1);
          (chunk_looks_right e7.kids t12 t8).bind fun (q13 : Bool × Int) =>
          let tr14 : Bool := q13.1;
          let tr15 : Int := q13.2;
          (if (!tr14) = true then
           some (Sum.inr (Sum.inr (false, tr15)))
           else
           let t16 : Int := IntKind.i64.wrap (v5 + 1);
           some (Sum.inl (t16, tr15)))))
        else
        (if (!decide (e7.kind = [])) = true then
         some (Sum.inr (Sum.inr (false, t8)))
         else
         (if (decide (((e7.kids.length : Nat) : Int) > 0)) = true then
          some (Sum.inr (Sum.inr (false, t8)))
          else
          let t17 : Int := IntKind.i64.wrap (v5 + 1);
          some (Sum.inl (t17, t8)))))))
     else
     none)
    else
    some (Sum.inr (Sum.inl b6)))
noncomputable def chunk_looks_right_loop2_step (depth2 : Int) (i18 : Nat) (x19 : Chunk) (s20 : Int) : Option ((Int) ⊕ ((Int) ⊕ (Bool × Int))) :=
   let t8 : Int := IntKind.i64.wrap (s20 + 1);
   ((if (decide (t8 > 400)) = true then
     some true
     else
     (if (decide (depth2 > 8)) = true then
      some true
      else
      (chunk_isId x19.id).bind fun (q9 : Bool) =>
      some (!q9))) : Option (Bool)).bind (fun (v10 : Bool) =>
    (if v10 = true then
     some (Sum.inr (Sum.inr (false, t8)))
     else
     (if (decide (x19.id = [70, 79, 82, 77])) = true then
      (chunk_isKind x19.kind).bind fun (q11 : Bool) =>
      (if (!q11) = true then
       some (Sum.inr (Sum.inr (false, t8)))
       else
       (if (decide (((x19.data.length : Nat) : Int) > 0)) = true then
        some (Sum.inr (Sum.inr (false, t8)))
        else
        let t12 : Int := IntKind.i64.wrap (depth2 + 1);
        (chunk_looks_right x19.kids t12 t8).bind fun (q13 : Bool × Int) =>
        let tr14 : Bool := q13.1;
        let tr15 : Int := q13.2;
        (if (!tr14) = true then
         some (Sum.inr (Sum.inr (false, tr15)))
         else
         some (Sum.inl (tr15)))))
      else
      (if (!decide (x19.kind = [])) = true then
       some (Sum.inr (Sum.inr (false, t8)))
       else
       (if (decide (((x19.kids.length : Nat) : Int) > 0)) = true then
        some (Sum.inr (Sum.inr (false, t8)))
        else
        some (Sum.inl (t8)))))))
theorem chunk_looks_right_loop2_overAt (l1 : List Chunk) (depth2 : Int) (hl : l1.length ≤ 4611686018427387904) (k : Nat) (s20 : Int) (hk : k ≤ l1.length) : loop (chunk_looks_right_loop2 l1 depth2) ((((k : Nat) : Int), s20) : Int × Int) =
    overL (chunk_looks_right_loop2_step depth2) (fun (s20 : Int) => some (Sum.inl s20)) k (l1.drop k) s20 := by
  refine loop_over l1 (fun n (s : Int) => ((((n : Nat) : Int), s) : Int × Int)) _ _ (fun s => ?_) (fun i x s h => ?_) k s20 hk
  · unfold chunk_looks_right_loop2; simp
  · have hlt := lt_len_of_get h
    have h1 : ((i : Nat) : Int) < ((l1.length : Nat) : Int) := by omega
    have h0 : (0 : Int) ≤ ((i : Nat) : Int) := by omega
    have hw : IntKind.i64.wrap (((i : Nat) : Int) + 1) = (((i + 1 : Nat) : Nat) : Int) := w64 (by omega)
    unfold chunk_looks_right_loop2 chunk_looks_right_loop2_step
    simp only [h1, h0, hw, h, decide_true, if_true, and_self, true_and, Int.toNat_natCast, Option.bind_some, Option.map_bind, Function.comp_def, map_ite, map_elim, Option.map_some, Option.map_none]
theorem chunk_looks_right_loop2_over (l1 : List Chunk) (depth2 : Int) (hl : l1.length ≤ 4611686018427387904) (s20 : Int) : loop (chunk_looks_right_loop2 l1 depth2) ((0, s20) : Int × Int) =
    overL (chunk_looks_right_loop2_step depth2) (fun (s20 : Int) => some (Sum.inl s20)) 0 l1 s20 := chunk_looks_right_loop2_overAt l1 depth2 hl 0 s20 (Nat.zero_le _)

theorem chunk_looks_right_eq (l1 : List Chunk) (depth2 : Int) (b3 : Int) : chunk_looks_right l1 depth2 b3 =
   (loop (chunk_looks_right_loop2 l1 depth2) (0, b3)).bind (fun (o25 : (Int) ⊕ (Bool × Int)) =>
    (Sum.elim (fun (b21 : Int) =>
      some (true, b21))
     (fun (p22 : Bool × Int) =>
      let v23 : Bool := p22.1;
      let b24 : Int := p22.2;
      some (v23, b24)) o25)) := (call_eq ..).trans (by kernel_rfl)

noncomputable def chunk_length_loop5 (c4 : List Chunk) (s5 : Int × Int) : Option ((Int × Int) ⊕ (Int)) :=
   let n6 : Int := s5.1;
   let v7 : Int := s5.2;
   (if (decide (v7 < ((c4.length : Nat) : Int))) = true then
    (if 0 ≤ v7 then
     (c4[v7.toNat]?).bind fun e8 =>
     (chunk_size e8.id e8.kind e8.data e8.kids).bind fun (q9 : Int) =>
     let t10 : Int := IntKind.i64.wrap (n6 + q9);
     let t11 : Int := IntKind.i64.wrap (v7 + 1);
     some (Sum.inl (t10, t11))
     else
     none)
    else
    some (Sum.inr n6))
noncomputable def chunk_length_loop5_step (i12 : Nat) (x13 : Chunk) (s14 : Int) : Option ((Int) ⊕ (Int)) :=
   (chunk_size x13.id x13.kind x13.data x13.kids).bind fun (q9 : Int) =>
   let t10 : Int := IntKind.i64.wrap (s14 + q9);
   some (Sum.inl (t10))
theorem chunk_length_loop5_overAt (c4 : List Chunk) (hl : c4.length ≤ 4611686018427387904) (k : Nat) (s14 : Int) (hk : k ≤ c4.length) : loop (chunk_length_loop5 c4) ((s14, ((k : Nat) : Int)) : Int × Int) =
    overL (chunk_length_loop5_step) (fun (s14 : Int) => some s14) k (c4.drop k) s14 := by
  refine loop_over c4 (fun n (s : Int) => ((s, ((n : Nat) : Int)) : Int × Int)) _ _ (fun s => ?_) (fun i x s h => ?_) k s14 hk
  · unfold chunk_length_loop5; simp
  · have hlt := lt_len_of_get h
    have h1 : ((i : Nat) : Int) < ((c4.length : Nat) : Int) := by omega
    have h0 : (0 : Int) ≤ ((i : Nat) : Int) := by omega
    have hw : IntKind.i64.wrap (((i : Nat) : Int) + 1) = (((i + 1 : Nat) : Nat) : Int) := w64 (by omega)
    unfold chunk_length_loop5 chunk_length_loop5_step
    simp only [h1, h0, hw, h, decide_true, if_true, and_self, true_and, Int.toNat_natCast, Option.bind_some, Option.map_bind, Function.comp_def, map_ite, map_elim, Option.map_some, Option.map_none]
theorem chunk_length_loop5_over (c4 : List Chunk) (hl : c4.length ≤ 4611686018427387904) (s14 : Int) : loop (chunk_length_loop5 c4) ((s14, 0) : Int × Int) =
    overL (chunk_length_loop5_step) (fun (s14 : Int) => some s14) 0 c4 s14 := chunk_length_loop5_overAt c4 hl 0 s14 (Nat.zero_le _)

theorem chunk_length_eq (c1 : List Int) (c2 : List Int) (c3 : List Int) (c4 : List Chunk) : chunk_length c1 c2 c3 c4 =
   (if (!decide (c1 = [70, 79, 82, 77])) = true then
    some ((c3.length : Nat) : Int)
    else
    (loop (chunk_length_loop5 c4) (4, 0)).bind (fun (n15 : Int) =>
     some n15)) := (call_eq ..).trans (by kernel_rfl)

noncomputable def ref26_single_loop8 (c4 : List Chunk) (v9 : Int) : Option ((Int) ⊕ ((Unit) ⊕ (Bool))) :=
   (if (decide (v9 < ((c4.length : Nat) : Int))) = true then
    (if 0 ≤ v9 then
     (c4[v9.toNat]?).bind fun e10 =>
     (ref26_single e10.id e10.kind e10.data e10.kids).bind fun (q11 : Bool) =>
     (if (!q11) = true then
      some (Sum.inr (Sum.inr false))
      else
      let t12 : Int := IntKind.i64.wrap (v9 + 1);
      some (Sum.inl t12))
     else
     none)
    else
    some (Sum.inr (Sum.inl ())))
noncomputable def ref26_single_loop8_step (i13 : Nat) (x14 : Chunk) (s15 : Unit) : Option ((Unit) ⊕ ((Unit) ⊕ (Bool))) :=
   (ref26_single x14.id x14.kind x14.data x14.kids).bind fun (q11 : Bool) =>
   (if (!q11) = true then
    some (Sum.inr (Sum.inr false))
    else
    some (Sum.inl (())))
theorem ref26_single_loop8_overAt (c4 : List Chunk) (hl : c4.length ≤ 4611686018427387904) (k : Nat) (s15 : Unit) (hk : k ≤ c4.length) : loop (ref26_single_loop8 c4) (((k : Nat) : Int) : Int) =
    overL (ref26_single_loop8_step) (fun (s15 : Unit) => some (Sum.inl ())) k (c4.drop k) s15 := by
  refine loop_over c4 (fun n (s : Unit) => (((n : Nat) : Int) : Int)) _ _ (fun s => ?_) (fun i x s h => ?_) k s15 hk
  · unfold ref26_single_loop8; simp
  · have hlt := lt_len_of_get h
    have h1 : ((i : Nat) : Int) < ((c4.length : Nat) : Int) := by omega
    have h0 : (0 : Int) ≤ ((i : Nat) : Int) := by omega
    have hw : IntKind.i64.wrap (((i : Nat) : Int) + 1) = (((i + 1 : Nat) : Nat) : Int) := w64 (by omega)
    unfold ref26_single_loop8 ref26_single_loop8_step
    simp only [h1, h0, hw, h, decide_true, if_true, and_self, true_and, Int.toNat_natCast, Option.bind_some, Option.map_bind, Function.comp_def, map_ite, map_elim, Option.map_some, Option.map_none]
theorem ref26_single_loop8_over (c4 : List Chunk) (hl : c4.length ≤ 4611686018427387904) (s15 : Unit) : loop (ref26_single_loop8 c4) (0 : Int) =
    overL (ref26_single_loop8_step) (fun (s15 : Unit) => some (Sum.inl ())) 0 c4 s15 := ref26_single_loop8_overAt c4 hl 0 s15 (Nat.zero_le _)

theorem ref26_single_eq (c1 : List Int) (c2 : List Int) (c3 : List Int) (c4 : List Chunk) : ref26_single c1 c2 c3 c4 =
   (ref26_IsId c1).bind fun (q5 : Bool) =>
   (if (!q5) = true then
    some false
    else
    (if (!decide (c1 = [70, 79, 82, 77])) = true then
     ((if (decide (c2 = [])) = true then
       some (decide (((c4.length : Nat) : Int) = 0))
       else
       some false) : Option (Bool)).bind (fun (v6 : Bool) =>
      some v6)
     else
     ((ref26_IsId c2).bind fun (q7 : Bool) =>
      (if (!q7) = true then
       some true
       else
       (if (decide (c2 = [70, 79, 82, 77])) = true then
        some true
        else
        some (decide (((c3.length : Nat) : Int) > 0)))) : Option (Bool)).bind (fun (v8 : Bool) =>
      (if v8 = true then
       some false
       else
       (loop (ref26_single_loop8 c4) 0).bind (fun (o18 : (Unit) ⊕ (Bool)) =>
        (Sum.elim (fun (p16 : Unit) =>
          some true)
         (fun (v17 : Bool) =>
          some v17) o18)))))) := (call_eq ..).trans (by kernel_rfl)

noncomputable def ref26_count_loop2 (l1 : List Chunk) (s2 : Int × Int × Int) : Option ((Int × Int × Int) ⊕ (Int × Int)) :=
   let all3 : Int := s2.1;
   let deep4 : Int := s2.2.1;
   let v5 : Int := s2.2.2;
   (if (decide (v5 < ((l1.length : Nat) : Int))) = true then
    (if 0 ≤ v5 then
     (l1[v5.toNat]?).bind fun e6 =>
     (ref26_count e6.kids).bind fun (q7 : Int × Int) =>
     let tr8 : Int := q7.1;
     let tr9 : Int := q7.2;
     let t10 : Int := IntKind.i64.wrap (tr8 + 1);
     let t11 : Int := IntKind.i64.wrap (all3 + t10);
     let t12 : Int := IntKind.i64.wrap (tr9 + 1);
     let t13 : Int := imax deep4 t12;
     let t14 : Int := IntKind.i64.wrap (v5 + 1);
     some (Sum.inl (t11, t13, t14))
     else
     none)
    else
    some (Sum.inr (all3, deep4)))
noncomputable def ref26_count_loop2_step (i15 : Nat) (x16 : Chunk) (s17 : Int × Int) : Option ((Int × Int) ⊕ (Int × Int)) :=
   let all18 : Int := s17.1;
   let deep19 : Int := s17.2;
   (ref26_count x16.kids).bind fun (q7 : Int × Int) =>
   let tr8 : Int := q7.1;
   let tr9 : Int := q7.2;
   let t10 : Int := IntKind.i64.wrap (tr8 + 1);
   let t11 : Int := IntKind.i64.wrap (all18 + t10);
   let t12 : Int := IntKind.i64.wrap (tr9 + 1);
   let t13 : Int := imax deep19 t12;
   some (Sum.inl ((t11, t13)))
theorem ref26_count_loop2_overAt (l1 : List Chunk) (hl : l1.length ≤ 4611686018427387904) (k : Nat) (s17 : Int × Int) (hk : k ≤ l1.length) : loop (ref26_count_loop2 l1) ((s17.1, s17.2, ((k : Nat) : Int)) : Int × Int × Int) =
    overL (ref26_count_loop2_step) (fun (s17 : Int × Int) => let all18 : Int := s17.1; let deep19 : Int := s17.2; some (all18, deep19)) k (l1.drop k) s17 := by
  refine loop_over l1 (fun n (s : Int × Int) => ((s.1, s.2, ((n : Nat) : Int)) : Int × Int × Int)) _ _ (fun s => ?_) (fun i x s h => ?_) k s17 hk
  · unfold ref26_count_loop2; simp
  · have hlt := lt_len_of_get h
    have h1 : ((i : Nat) : Int) < ((l1.length : Nat) : Int) := by omega
    have h0 : (0 : Int) ≤ ((i : Nat) : Int) := by omega
    have hw : IntKind.i64.wrap (((i : Nat) : Int) + 1) = (((i + 1 : Nat) : Nat) : Int) := w64 (by omega)
    unfold ref26_count_loop2 ref26_count_loop2_step
    simp only [h1, h0, hw, h, decide_true, if_true, and_self, true_and, Int.toNat_natCast, Option.bind_some, Option.map_bind, Function.comp_def, map_ite, map_elim, Option.map_some, Option.map_none]
theorem ref26_count_loop2_over (l1 : List Chunk) (hl : l1.length ≤ 4611686018427387904) (s17 : Int × Int) : loop (ref26_count_loop2 l1) ((s17.1, s17.2, 0) : Int × Int × Int) =
    overL (ref26_count_loop2_step) (fun (s17 : Int × Int) => let all18 : Int := s17.1; let deep19 : Int := s17.2; some (all18, deep19)) 0 l1 s17 := ref26_count_loop2_overAt l1 hl 0 s17 (Nat.zero_le _)

theorem ref26_count_eq (l1 : List Chunk) : ref26_count l1 =
   (loop (ref26_count_loop2 l1) (0, 0, 0)).bind (fun (p20 : Int × Int) =>
    let all21 : Int := p20.1;
    let deep22 : Int := p20.2;
    some (all21, deep22)) := (call_eq ..).trans (by kernel_rfl)

theorem chunk_Same_1_eq (x1 : List Int) (x2 : List Int) (x3 : List Int) (x4 : List Chunk) (y5 : List Int) (y6 : List Int) (y7 : List Int) (y8 : List Chunk) : chunk_Same_1 x1 x2 x3 x4 y5 y6 y7 y8 =
   (if (decide (x1 = y5)) = true then
    (if (decide (x2 = y6)) = true then
     (bytes_Equal x3 y7).bind fun (q9 : Bool) =>
     (if q9 = true then
      (chunk_Same x4 y8).bind fun (q10 : Bool) =>
      some q10
      else
      some false)
     else
     some false)
    else
    some false) := (call_eq ..).trans (by kernel_rfl)

theorem chunk_Find_1_eq (c1 : List Int) (c2 : List Int) (c3 : List Int) (c4 : List Chunk) (b5 : List Int) : chunk_Find_1 c1 c2 c3 c4 b5 =
   (chunk_name c1 c2 c3 c4).bind fun (q6 : (List Int)) =>
   some (decide (q6 = b5), b5) := (call_eq ..).trans (by kernel_rfl)

noncomputable def chunk_isId_loop4 (s1 : List Int) (v2 : Int) : Option ((Int) ⊕ ((Unit) ⊕ (Bool))) :=
   (if (decide (v2 < 4)) = true then
    (if 0 ≤ v2 ∧ v2 < ((s1).length : Int) then
     let t3 : Int := rd s1 v2;
     (if (decide (t3 < 65)) = true then
      (if (decide (t3 < 48)) = true then
       some (Sum.inr (Sum.inr false))
       else
       (if (decide (t3 > 57)) = true then
        some (Sum.inr (Sum.inr false))
        else
        let t4 : Int := IntKind.i64.wrap (v2 + 1);
        some (Sum.inl t4)))
      else
      (if (decide (t3 > 90)) = true then
       (if (decide (t3 < 48)) = true then
        some (Sum.inr (Sum.inr false))
        else
        (if (decide (t3 > 57)) = true then
         some (Sum.inr (Sum.inr false))
         else
         let t5 : Int := IntKind.i64.wrap (v2 + 1);
         some (Sum.inl t5)))
       else
       let t6 : Int := IntKind.i64.wrap (v2 + 1);
       some (Sum.inl t6)))
     else
     none)
    else
    some (Sum.inr (Sum.inl ())))
noncomputable def chunk_isId_loop4_step (s1 : List Int) (i7 : Nat) (x8 : Nat) (s9 : Unit) : Option ((Unit) ⊕ ((Unit) ⊕ (Bool))) :=
   (if 0 ≤ ((i7 : Nat) : Int) ∧ ((i7 : Nat) : Int) < ((s1).length : Int) then
    let t3 : Int := rd s1 ((i7 : Nat) : Int);
    (if (decide (t3 < 65)) = true then
     (if (decide (t3 < 48)) = true then
      some (Sum.inr (Sum.inr false))
      else
      (if (decide (t3 > 57)) = true then
       some (Sum.inr (Sum.inr false))
       else
       some (Sum.inl (()))))
     else
     (if (decide (t3 > 90)) = true then
      (if (decide (t3 < 48)) = true then
       some (Sum.inr (Sum.inr false))
       else
       (if (decide (t3 > 57)) = true then
        some (Sum.inr (Sum.inr false))
        else
        some (Sum.inl (()))))
      else
      some (Sum.inl (()))))
    else
    none)
theorem chunk_isId_loop4_overAt (s1 : List Int) (hl : (List.range 4).length ≤ 4611686018427387904) (k : Nat) (s9 : Unit) (hk : k ≤ (List.range 4).length) : loop (chunk_isId_loop4 s1) (((k : Nat) : Int) : Int) =
    overL (chunk_isId_loop4_step s1) (fun (s9 : Unit) => some (Sum.inl ())) k ((List.range 4).drop k) s9 := by
  refine loop_over (List.range 4) (fun n (s : Unit) => (((n : Nat) : Int) : Int)) _ _ (fun s => ?_) (fun i x s h => ?_) k s9 hk
  · have h1 : ¬ (((List.range 4).length : Nat) : Int) < 4 := by simp only [List.length_range]; omega
    unfold chunk_isId_loop4; simp only [h1, decide_false, Bool.false_eq_true, if_false, Option.map_some]
  · have hlt := lt_len_of_get h
    rw [List.length_range] at hlt hl
    rw [List.getElem?_range hlt] at h
    cases h
    have h1 : ((i : Nat) : Int) < 4 := by omega
    have h0 : (0 : Int) ≤ ((i : Nat) : Int) := by omega
    have hw : IntKind.i64.wrap (((i : Nat) : Int) + 1) = (((i + 1 : Nat) : Nat) : Int) := w64 (by omega)
    unfold chunk_isId_loop4 chunk_isId_loop4_step
    simp only [h1, h0, hw, decide_true, if_true, and_self, true_and, Int.toNat_natCast, Option.bind_some, Option.map_bind, Function.comp_def, map_ite, map_elim, Option.map_some, Option.map_none]
theorem chunk_isId_loop4_over (s1 : List Int) (hl : (List.range 4).length ≤ 4611686018427387904) (s9 : Unit) : loop (chunk_isId_loop4 s1) (0 : Int) =
    overL (chunk_isId_loop4_step s1) (fun (s9 : Unit) => some (Sum.inl ())) 0 (List.range 4) s9 := chunk_isId_loop4_overAt s1 hl 0 s9 (Nat.zero_le _)

theorem chunk_isId_eq (s1 : List Int) : chunk_isId s1 =
   (if (!decide (((s1.length : Nat) : Int) = 4)) = true then
    some false
    else
    (loop (chunk_isId_loop4 s1) 0).bind (fun (o12 : (Unit) ⊕ (Bool)) =>
     (Sum.elim (fun (p10 : Unit) =>
       some true)
      (fun (v11 : Bool) =>
       some v11) o12))) := (call_eq ..).trans (by kernel_rfl)

theorem chunk_Replace_1_eq (c1 : List Int) (c2 : List Int) (c3 : List Int) (c4 : List Chunk) (b5 : List Int) : chunk_Replace_1 c1 c2 c3 c4 b5 =
   some (decide (c1 = b5), b5) := (call_eq ..).trans (by kernel_rfl)

theorem chunk_reader_id_eq (at1 : Int) (end2 : Int) (b3 : List Int) (b4 : Int) (b5 : Int) (b6 : Int) : chunk_reader_id at1 end2 b3 b4 b5 b6 =
   let t7 : Int := IntKind.i64.wrap (end2 - at1);
   (chunk_reader_fail (decide (t7 ≥ 4)) 6 at1 b3 b4 b5 b6).bind fun (q8 : Bool × (List Int) × Int × Int × Int) =>
   let tr9 : Bool := q8.1;
   let tr10 : List Int := q8.2.1;
   let tr11 : Int := q8.2.2.1;
   let tr12 : Int := q8.2.2.2.1;
   let tr13 : Int := q8.2.2.2.2;
   (if (!tr9) = true then
    some ([], tr10, tr11, tr12, tr13)
    else
    let t14 : Int := IntKind.i64.wrap (at1 + 4);
    (if 0 ≤ t14 ∧ t14 ≤ ((tr10.length : Nat) : Int) then
     (if 0 ≤ at1 ∧ at1 ≤ t14 then
      let t15 : List Int := cutL tr10 at1.toNat t14.toNat;
      (chunk_isId t15).bind fun (q16 : Bool) =>
      (chunk_reader_fail q16 3 at1 tr10 tr11 tr12 tr13).bind fun (q17 : Bool × (List Int) × Int × Int × Int) =>
      let tr18 : Bool := q17.1;
      let tr19 : List Int := q17.2.1;
      let tr20 : Int := q17.2.2.1;
      let tr21 : Int := q17.2.2.2.1;
      let tr22 : Int := q17.2.2.2.2;
      some (t15, tr19, tr20, tr21, tr22)
      else
      none)
     else
     none)) := (call_eq ..).trans (by kernel_rfl)

theorem chunk_reader_fail_eq (ok1 : Bool) (err2 : Int) (at3 : Int) (b4 : List Int) (b5 : Int) (b6 : Int) (b7 : Int) : chunk_reader_fail ok1 err2 at3 b4 b5 b6 b7 =
   ((if (decide (b6 = 0)) = true then
     some (!ok1)
     else
     some false) : Option (Bool)).bind (fun (v8 : Bool) =>
    (if v8 = true then
     some (decide (err2 = 0), b4, b5, err2, at3)
     else
     some (decide (b6 = 0), b4, b5, b6, b7))) := (call_eq ..).trans (by kernel_rfl)

theorem chunk_reader_id_2_eq (at1 : Int) (end2 : Int) (b3 : List Int) (b4 : Int) (b5 : Int) (b6 : Int) : chunk_reader_id_2 at1 end2 b3 b4 b5 b6 =
   let t7 : Int := IntKind.i64.wrap (end2 - at1);
   (chunk_reader_fail (decide (t7 ≥ 4)) 6 at1 b3 b4 b5 b6).bind fun (q8 : Bool × (List Int) × Int × Int × Int) =>
   let tr9 : Bool := q8.1;
   let tr10 : List Int := q8.2.1;
   let tr11 : Int := q8.2.2.1;
   let tr12 : Int := q8.2.2.2.1;
   let tr13 : Int := q8.2.2.2.2;
   (if (!tr9) = true then
    some ([], tr10, tr11, tr12, tr13)
    else
    let t14 : Int := IntKind.i64.wrap (at1 + 4);
    (if 0 ≤ t14 ∧ t14 ≤ ((tr10.length : Nat) : Int) then
     (if 0 ≤ at1 ∧ at1 ≤ t14 then
      let t15 : List Int := cutL tr10 at1.toNat t14.toNat;
      (chunk_isKind t15).bind fun (q16 : Bool) =>
      (chunk_reader_fail q16 3 at1 tr10 tr11 tr12 tr13).bind fun (q17 : Bool × (List Int) × Int × Int × Int) =>
      let tr18 : Bool := q17.1;
      let tr19 : List Int := q17.2.1;
      let tr20 : Int := q17.2.2.1;
      let tr21 : Int := q17.2.2.2.1;
      let tr22 : Int := q17.2.2.2.2;
      some (t15, tr19, tr20, tr21, tr22)
      else
      none)
     else
     none)) := (call_eq ..).trans (by kernel_rfl)

theorem ref26_reader_id_eq (at1 : Int) (end2 : Int) (b3 : List Int) (b4 : Int) : ref26_reader_id at1 end2 b3 b4 =
   let t5 : Int := IntKind.i64.wrap (end2 - at1);
   (if (decide (t5 < 4)) = true then
    some ([], 6, b3, b4)
    else
    let t6 : Int := IntKind.i64.wrap (at1 + 4);
    (if 0 ≤ t6 ∧ t6 ≤ ((b3.length : Nat) : Int) then
     (if 0 ≤ at1 ∧ at1 ≤ t6 then
      let t7 : List Int := cutL b3 at1.toNat t6.toNat;
      (ref26_IsId t7).bind fun (q8 : Bool) =>
      (if (!q8) = true then
       some ([], 3, b3, b4)
       else
       some (t7, 0, b3, b4))
      else
      none)
     else
     none)) := (call_eq ..).trans (by kernel_rfl)

theorem bitmap_fits_eq (w1 : Int) (h2 : Int) : bitmap_fits w1 h2 =
   (if (decide (w1 ≥ 0)) = true then
    (if (decide (h2 ≥ 0)) = true then
     (if (decide (w1 ≤ 200)) = true then
      (if (decide (h2 ≤ 200)) = true then
       let t3 : Int := IntKind.i64.wrap (w1 * h2);
       some (decide (t3 ≤ 8192))
       else
       some false)
      else
      some false)
     else
     some false)
    else
    some false) := (call_eq ..).trans (by kernel_rfl)

theorem bytes_Equal_eq (a1 : List Int) (b2 : List Int) : bytes_Equal a1 b2 =
   some (decide (a1 = b2)) := (call_eq ..).trans (by kernel_rfl)

theorem chunk_name_eq (c1 : List Int) (c2 : List Int) (c3 : List Int) (c4 : List Chunk) : chunk_name c1 c2 c3 c4 =
   (if (decide (c1 = [70, 79, 82, 77])) = true then
    some c2
    else
    some c1) := (call_eq ..).trans (by kernel_rfl)
end
end Go.Proofs.Ytjabpjkomgakbaa.P
