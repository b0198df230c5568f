/- The equations of functions. Printed by wip/tool/vsym.py. -/
import Derived.Test.YtkccnhkhjncpkaaGreatG
import Derived.Test.YtkccnhkhjncpkaaGreatLib
namespace Go.Proofs.YtkccnhkhjncpkaaGreat.P
open Go Go.Proofs.YtkccnhkhjncpkaaGreat.V
set_option linter.unusedVariables false
set_option linter.unusedSimpArgs false
set_option maxRecDepth 100000
noncomputable section
noncomputable def tone_skipped_loop8 (a1 : Int) (a2 : Int) (a3 : Int) (a4 : Int) (a5 : Int) (a6 : Int) (a7 : Int) (a8 : Int) (a9 : Bool) (a10 : Int) (l11 : List Bitmap) (w12 : Int) (h13 : Int) (v20 : Int) (s22 : Int × (List Int)) : Option ((Int × (List Int)) ⊕ ((List Int))) :=
   let v23 : Int := s22.1;
   let b24 : List Int := s22.2;
   (if (decide (v23 < a1)) = true then
    (tone_cell a1 a2 a3 a4 a5 a6 a7 a8 a9 a10 v20 v23).bind fun (q25 : Int × Int) =>
    let tr26 : Int := q25.1;
    let tr27 : Int := q25.2;
    ((if (decide (tr26 ≥ w12)) = true then
      some true
      else
      (if (decide (tr27 ≥ h13)) = true then
       some true
       else
       (if 0 ≤ (0 : Int) then
        (l11[(0 : Int).toNat]?).bind fun e28 =>
        let t29 : Int := IntKind.i64.wrap (tr26 + e28.w);
        (if (decide (t29 ≤ 0)) = true then
         some true
         else
         (if 0 ≤ (0 : Int) then
          (l11[(0 : Int).toNat]?).bind fun e30 =>
          let t31 : Int := IntKind.i64.wrap (tr27 + e30.h);
          some (decide (t31 ≤ 0))
          else
          none))
        else
        none))) : Option (Bool)).bind (fun (v32 : Bool) =>
     (if v32 = true then
      let t33 : Int := IntKind.i64.wrap (v20 * a1);
      let t34 : Int := IntKind.i64.wrap (t33 + v23);
      (if 0 ≤ t34 ∧ t34 < (b24.length : Int) then
       let w35 : List Int := b24.set t34.toNat 1;
       let t36 : Int := IntKind.i64.wrap (v23 + 1);
       some (Sum.inl (t36, w35))
       else
       none)
      else
      let t37 : Int := IntKind.i64.wrap (v23 + 1);
      some (Sum.inl (t37, b24))))
    else
    some (Sum.inr b24))
noncomputable def tone_skipped_loop8_step (a1 : Int) (a2 : Int) (a3 : Int) (a4 : Int) (a5 : Int) (a6 : Int) (a7 : Int) (a8 : Int) (a9 : Bool) (a10 : Int) (l11 : List Bitmap) (w12 : Int) (h13 : Int) (v20 : Int) (i38 : Nat) (x39 : Nat) (s40 : (List Int)) : Option (((List Int)) ⊕ ((List Int))) :=
   (tone_cell a1 a2 a3 a4 a5 a6 a7 a8 a9 a10 v20 ((i38 : Nat) : Int)).bind fun (q25 : Int × Int) =>
   let tr26 : Int := q25.1;
   let tr27 : Int := q25.2;
   ((if (decide (tr26 ≥ w12)) = true then
     some true
     else
     (if (decide (tr27 ≥ h13)) = true then
      some true
      else
      (if 0 ≤ (0 : Int) then
       (l11[(0 : Int).toNat]?).bind fun e28 =>
       let t29 : Int := IntKind.i64.wrap (tr26 + e28.w);
       (if (decide (t29 ≤ 0)) = true then
        some true
        else
        (if 0 ≤ (0 : Int) then
         (l11[(0 : Int).toNat]?).bind fun e30 =>
         let t31 : Int := IntKind.i64.wrap (tr27 + e30.h);
         some (decide (t31 ≤ 0))
         else
         none))
       else
       none))) : Option (Bool)).bind (fun (v32 : Bool) =>
    (if v32 = true then
     let t33 : Int := IntKind.i64.wrap (v20 * a1);
     let t34 : Int := IntKind.i64.wrap (t33 + ((i38 : Nat) : Int));
     (if 0 ≤ t34 ∧ t34 < (s40.length : Int) then
      let w35 : List Int := s40.set t34.toNat 1;
      some (Sum.inl (w35))
      else
      none)
     else
     some (Sum.inl (s40))))
theorem tone_skipped_loop8_overAt (a1 : Int) (a2 : Int) (a3 : Int) (a4 : Int) (a5 : Int) (a6 : Int) (a7 : Int) (a8 : Int) (a9 : Bool) (a10 : Int) (l11 : List Bitmap) (w12 : Int) (h13 : Int) (v20 : Int) (hl : (List.range (a1).toNat).length ≤ 9223372036854775807) (k : Nat) (s40 : (List Int)) (hk : k ≤ (List.range (a1).toNat).length) : loop (tone_skipped_loop8 a1 a2 a3 a4 a5 a6 a7 a8 a9 a10 l11 w12 h13 v20) ((((k : Nat) : Int), s40) : Int × (List Int)) =
    overL (tone_skipped_loop8_step a1 a2 a3 a4 a5 a6 a7 a8 a9 a10 l11 w12 h13 v20) (fun (s40 : (List Int)) => some s40) k ((List.range (a1).toNat).drop k) s40 := by
  refine loop_over (List.range (a1).toNat) (fun n (s : (List Int)) => ((((n : Nat) : Int), s) : Int × (List Int))) _ _ (fun s => ?_) (fun i x s h => ?_) k s40 hk
  · have h1 : ¬ (((List.range (a1).toNat).length : Nat) : Int) < a1 := by simp only [List.length_range]; omega
    unfold tone_skipped_loop8; simp only [h1, decide_false, Bool.false_eq_true, if_false, Option.map_some]
  · have hlt := lt_len_of_get h
    rw [List.length_range] at hlt hl
    rw [List.getElem?_range hlt] at h
    cases h
    have h1 : ((i : Nat) : Int) < a1 := by omega
    have h0 : (0 : Int) ≤ ((i : Nat) : Int) := by omega
    have hw : IntKind.i64.wrap (((i : Nat) : Int) + 1) = (((i + 1 : Nat) : Nat) : Int) := w64 (by omega)
    unfold tone_skipped_loop8 tone_skipped_loop8_step
    simp only [h1, h0, hw, decide_true, if_true, and_self, true_and, Int.toNat_natCast, Option.bind_some, Option.map_bind, Function.comp_def, map_ite, map_elim, Option.map_some, Option.map_none]
theorem tone_skipped_loop8_over (a1 : Int) (a2 : Int) (a3 : Int) (a4 : Int) (a5 : Int) (a6 : Int) (a7 : Int) (a8 : Int) (a9 : Bool) (a10 : Int) (l11 : List Bitmap) (w12 : Int) (h13 : Int) (v20 : Int) (hl : (List.range (a1).toNat).length ≤ 9223372036854775807) (s40 : (List Int)) : loop (tone_skipped_loop8 a1 a2 a3 a4 a5 a6 a7 a8 a9 a10 l11 w12 h13 v20) ((0, s40) : Int × (List Int)) =
    overL (tone_skipped_loop8_step a1 a2 a3 a4 a5 a6 a7 a8 a9 a10 l11 w12 h13 v20) (fun (s40 : (List Int)) => some s40) 0 (List.range (a1).toNat) s40 := tone_skipped_loop8_overAt a1 a2 a3 a4 a5 a6 a7 a8 a9 a10 l11 w12 h13 v20 hl 0 s40 (Nat.zero_le _)

noncomputable def tone_skipped_loop5 (a1 : Int) (a2 : Int) (a3 : Int) (a4 : Int) (a5 : Int) (a6 : Int) (a7 : Int) (a8 : Int) (a9 : Bool) (a10 : Int) (l11 : List Bitmap) (w12 : Int) (h13 : Int) (s19 : Int × (List Int)) : Option ((Int × (List Int)) ⊕ ((List Int))) :=
   let v20 : Int := s19.1;
   let b21 : List Int := s19.2;
   (if (decide (v20 < a2)) = true then
    (loop (tone_skipped_loop8 a1 a2 a3 a4 a5 a6 a7 a8 a9 a10 l11 w12 h13 v20) (0, b21)).bind (fun (b41 : (List Int)) =>
     let t42 : Int := IntKind.i64.wrap (v20 + 1);
     some (Sum.inl (t42, b41)))
    else
    some (Sum.inr b21))
noncomputable def tone_skipped_loop5_step (a1 : Int) (a2 : Int) (a3 : Int) (a4 : Int) (a5 : Int) (a6 : Int) (a7 : Int) (a8 : Int) (a9 : Bool) (a10 : Int) (l11 : List Bitmap) (w12 : Int) (h13 : Int) (i43 : Nat) (x44 : Nat) (s45 : (List Int)) : Option (((List Int)) ⊕ ((List Int))) :=
   (loop (tone_skipped_loop8 a1 a2 a3 a4 a5 a6 a7 a8 a9 a10 l11 w12 h13 ((i43 : Nat) : Int)) (0, s45)).bind (fun (b41 : (List Int)) =>
    some (Sum.inl (b41)))
theorem tone_skipped_loop5_overAt (a1 : Int) (a2 : Int) (a3 : Int) (a4 : Int) (a5 : Int) (a6 : Int) (a7 : Int) (a8 : Int) (a9 : Bool) (a10 : Int) (l11 : List Bitmap) (w12 : Int) (h13 : Int) (hl : (List.range (a2).toNat).length ≤ 9223372036854775807) (k : Nat) (s45 : (List Int)) (hk : k ≤ (List.range (a2).toNat).length) : loop (tone_skipped_loop5 a1 a2 a3 a4 a5 a6 a7 a8 a9 a10 l11 w12 h13) ((((k : Nat) : Int), s45) : Int × (List Int)) =
    overL (tone_skipped_loop5_step a1 a2 a3 a4 a5 a6 a7 a8 a9 a10 l11 w12 h13) (fun (s45 : (List Int)) => some s45) k ((List.range (a2).toNat).drop k) s45 := by
  refine loop_over (List.range (a2).toNat) (fun n (s : (List Int)) => ((((n : Nat) : Int), s) : Int × (List Int))) _ _ (fun s => ?_) (fun i x s h => ?_) k s45 hk
  · have h1 : ¬ (((List.range (a2).toNat).length : Nat) : Int) < a2 := by simp only [List.length_range]; omega
    unfold tone_skipped_loop5; simp only [h1, decide_false, Bool.false_eq_true, if_false, Option.map_some]
  · have hlt := lt_len_of_get h
    rw [List.length_range] at hlt hl
    rw [List.getElem?_range hlt] at h
    cases h
    have h1 : ((i : Nat) : Int) < a2 := by omega
    have h0 : (0 : Int) ≤ ((i : Nat) : Int) := by omega
    have hw : IntKind.i64.wrap (((i : Nat) : Int) + 1) = (((i + 1 : Nat) : Nat) : Int) := w64 (by omega)
    unfold tone_skipped_loop5 tone_skipped_loop5_step
    simp only [h1, h0, hw, decide_true, if_true, and_self, true_and, Int.toNat_natCast, Option.bind_some, Option.map_bind, Function.comp_def, map_ite, map_elim, Option.map_some, Option.map_none]
theorem tone_skipped_loop5_over (a1 : Int) (a2 : Int) (a3 : Int) (a4 : Int) (a5 : Int) (a6 : Int) (a7 : Int) (a8 : Int) (a9 : Bool) (a10 : Int) (l11 : List Bitmap) (w12 : Int) (h13 : Int) (hl : (List.range (a2).toNat).length ≤ 9223372036854775807) (s45 : (List Int)) : loop (tone_skipped_loop5 a1 a2 a3 a4 a5 a6 a7 a8 a9 a10 l11 w12 h13) ((0, s45) : Int × (List Int)) =
    overL (tone_skipped_loop5_step a1 a2 a3 a4 a5 a6 a7 a8 a9 a10 l11 w12 h13) (fun (s45 : (List Int)) => some s45) 0 (List.range (a2).toNat) s45 := tone_skipped_loop5_overAt a1 a2 a3 a4 a5 a6 a7 a8 a9 a10 l11 w12 h13 hl 0 s45 (Nat.zero_le _)

theorem tone_skipped_eq (a1 : Int) (a2 : Int) (a3 : Int) (a4 : Int) (a5 : Int) (a6 : Int) (a7 : Int) (a8 : Int) (a9 : Bool) (a10 : Int) (l11 : List Bitmap) (w12 : Int) (h13 : Int) : tone_skipped a1 a2 a3 a4 a5 a6 a7 a8 a9 a10 l11 w12 h13 =
   (bitmap_New a1 a2 0).bind fun (q14 : Int × Int × Int × (List Int)) =>
   let tr15 : Int := q14.1;
   let tr16 : Int := q14.2.1;
   let tr17 : Int := q14.2.2.1;
   let tr18 : List Int := q14.2.2.2;
   (if (!a9) = true then
    some (tr15, tr16, tr18)
    else
    (loop (tone_skipped_loop5 a1 a2 a3 a4 a5 a6 a7 a8 a9 a10 l11 w12 h13) (0, tr18)).bind (fun (b46 : (List Int)) =>
     some (tr15, tr16, b46))) := (call_eq ..).trans (by kernel_rfl)

noncomputable def tone_rightValues_loop4 (patterns11 : Int) (skip14 : List Int) (values15 : List Int) (v17 : Int) : Option ((Int) ⊕ ((Unit) ⊕ (Bool))) :=
   (if (decide (v17 < ((values15.length : Nat) : Int))) = true then
    (if 0 ≤ v17 ∧ v17 < (values15.length : Int) then
     (if (decide (rd values15 v17 < 0)) = true then
      some (Sum.inr (Sum.inr false))
      else
      (if (decide (rd values15 v17 ≥ patterns11)) = true then
       some (Sum.inr (Sum.inr false))
       else
       (if (!decide (rd values15 v17 = 0)) = true then
        (if 0 ≤ v17 ∧ v17 < (skip14.length : Int) then
         (if (decide (rd skip14 v17 = 1)) = true then
          some (Sum.inr (Sum.inr false))
          else
          let t18 : Int := IntKind.i64.wrap (v17 + 1);
          some (Sum.inl t18))
         else
         none)
        else
        let t19 : Int := IntKind.i64.wrap (v17 + 1);
        some (Sum.inl t19))))
     else
     none)
    else
    some (Sum.inr (Sum.inl ())))
noncomputable def tone_rightValues_loop4_step (patterns11 : Int) (skip14 : List Int) (i20 : Nat) (x21 : Int) (s22 : Unit) : Option ((Unit) ⊕ ((Unit) ⊕ (Bool))) :=
   (if (decide (x21 < 0)) = true then
    some (Sum.inr (Sum.inr false))
    else
    (if (decide (x21 ≥ patterns11)) = true then
     some (Sum.inr (Sum.inr false))
     else
     (if (!decide (x21 = 0)) = true then
      (if 0 ≤ ((i20 : Nat) : Int) ∧ ((i20 : Nat) : Int) < (skip14.length : Int) then
       (if (decide (rd skip14 ((i20 : Nat) : Int) = 1)) = true then
        some (Sum.inr (Sum.inr false))
        else
        some (Sum.inl (())))
       else
       none)
      else
      some (Sum.inl (())))))
theorem tone_rightValues_loop4_overAt (patterns11 : Int) (skip14 : List Int) (values15 : List Int) (hl : values15.length ≤ 9223372036854775807) (k : Nat) (s22 : Unit) (hk : k ≤ values15.length) : loop (tone_rightValues_loop4 patterns11 skip14 values15) (((k : Nat) : Int) : Int) =
    overL (tone_rightValues_loop4_step patterns11 skip14) (fun (s22 : Unit) => some (Sum.inl ())) k (values15.drop k) s22 := by
  refine loop_over values15 (fun n (s : Unit) => (((n : Nat) : Int) : Int)) _ _ (fun s => ?_) (fun i x s h => ?_) k s22 hk
  · unfold tone_rightValues_loop4; simp
  · have hlt := lt_len_of_get h
    have h1 : ((i : Nat) : Int) < ((values15.length : Nat) : Int) := by omega
    have h0 : (0 : Int) ≤ ((i : Nat) : Int) := by omega
    have hw : IntKind.i64.wrap (((i : Nat) : Int) + 1) = (((i + 1 : Nat) : Nat) : Int) := w64 (by omega)
    have hr : rd values15 ((i : Nat) : Int) = x := rd_nat h
    unfold tone_rightValues_loop4 tone_rightValues_loop4_step
    simp only [h1, h0, hw, h, hr, decide_true, if_true, and_self, true_and, Int.toNat_natCast, Option.bind_some, Option.map_bind, Function.comp_def, map_ite, map_elim, Option.map_some, Option.map_none]
theorem tone_rightValues_loop4_over (patterns11 : Int) (skip14 : List Int) (values15 : List Int) (hl : values15.length ≤ 9223372036854775807) (s22 : Unit) : loop (tone_rightValues_loop4 patterns11 skip14 values15) (0 : Int) =
    overL (tone_rightValues_loop4_step patterns11 skip14) (fun (s22 : Unit) => some (Sum.inl ())) 0 values15 s22 := tone_rightValues_loop4_overAt patterns11 skip14 values15 hl 0 s22 (Nat.zero_le _)

theorem tone_rightValues_eq (a1 : Int) (a2 : Int) (a3 : Int) (a4 : Int) (a5 : Int) (a6 : Int) (a7 : Int) (a8 : Int) (a9 : Bool) (a10 : Int) (patterns11 : Int) (skip12 : Int) (skip13 : Int) (skip14 : List Int) (values15 : List Int) : tone_rightValues a1 a2 a3 a4 a5 a6 a7 a8 a9 a10 patterns11 skip12 skip13 skip14 values15 =
   let t16 : Int := IntKind.i64.wrap (a1 * a2);
   (if (!decide (((values15.length : Nat) : Int) = t16)) = true then
    some false
    else
    (loop (tone_rightValues_loop4 patterns11 skip14 values15) 0).bind (fun (o25 : (Unit) ⊕ (Bool)) =>
     (Sum.elim (fun (p23 : Unit) =>
       some true)
      (fun (v24 : Bool) =>
       some v24) o25))) := (call_eq ..).trans (by kernel_rfl)

theorem tone_options_eq (a1 : Int) (a2 : Int) (a3 : Int) (a4 : Int) (a5 : Int) (a6 : Int) (a7 : Int) (a8 : Int) (a9 : Bool) (a10 : Int) : tone_options a1 a2 a3 a4 a5 a6 a7 a8 a9 a10 =
   (generic_Usual a7).bind fun (q11 : Int × Int × Int × Bool × Int × Int) =>
   let tr12 : Int := q11.1;
   let tr13 : Int := q11.2.1;
   let tr14 : Int := q11.2.2.1;
   let tr15 : Bool := q11.2.2.2.1;
   let tr16 : Int := q11.2.2.2.2.1;
   let tr17 : Int := q11.2.2.2.2.2;
   some (tr12, tr13, tr14, false, a8) := (call_eq ..).trans (by kernel_rfl)

theorem generic_Size_eq (o1 : Int) (o2 : Int) (o3 : Int) (o4 : Bool) (o5 : Int) : generic_Size o1 o2 o3 o4 o5 =
   (generic_Valid o1 o2 o3 o4 o5).bind fun (q6 : Bool) =>
   (if (!q6) = true then
    some (0, 2)
    else
    (generic_contexts o1 o2 o3 o4 o5).bind fun (q7 : Int) =>
    let t8 : Int := IntKind.i64.wrap (q7 + 1);
    some (t8, 0)) := (call_eq ..).trans (by kernel_rfl)

theorem coder_New_eq (kind1 : Int) (n2 : Int) : coder_New kind1 n2 =
   ((if (!decide (kind1 = 0)) = true then
     (if (!decide (kind1 = 1)) = true then
      some true
      else
      (if (decide (n2 < 0)) = true then
       some true
       else
       some (decide (n2 > 8192))))
     else
     (if (decide (n2 < 0)) = true then
      some true
      else
      some (decide (n2 > 8192)))) : Option (Bool)).bind (fun (v3 : Bool) =>
    (if v3 = true then
     some (0, [], 2)
     else
     (if 0 ≤ n2 ∧ n2 ≤ n2 ∧ ((8 : Nat) : Int) * n2 ≤ 281474976710656 then
      let t4 : List Int := List.replicate n2.toNat 0;
      some (kind1, t4, 0)
      else
      none))) := (call_eq ..).trans (by kernel_rfl)

theorem coder_NewEncoder_eq (m1 : Int) (m2 : List Int) : coder_NewEncoder m1 m2 =
   (coder_Valid m1 m2).bind fun (q3 : Bool) =>
   (if (!q3) = true then
    some (Sum.inr ())
    else
    (coder_begin m1 m2).bind fun (q4 : Int × Int × Int × (List Int)) =>
    let tr5 : Int := q4.1;
    let tr6 : Int := q4.2.1;
    let tr7 : Int := q4.2.2.1;
    let tr8 : List Int := q4.2.2.2;
    some (Sum.inl (tr5, tr6, tr7, tr8, []))) := (call_eq ..).trans (by kernel_rfl)

theorem number_Width_eq (n1 : Int) : number_Width n1 =
   (if (decide (n1 < 1)) = true then
    some 0
    else
    let t2 : Int := IntKind.i64.wrap (n1 - 1);
    let t3 : Int := IntKind.u64.wrap t2;
    (math_bits_Len t3).bind fun (q4 : Int) =>
    some q4) := (call_eq ..).trans (by kernel_rfl)

noncomputable def tone_Planes_loop9 (values1 : List Int) (j11 : Int) (s13 : Int × (List Int)) : Option ((Int × (List Int)) ⊕ ((List Int))) :=
   let v14 : Int := s13.1;
   let plane15 : List Int := s13.2;
   (if (decide (v14 < ((values1.length : Nat) : Int))) = true then
    (if 0 ≤ v14 ∧ v14 < (values1.length : Int) then
     (if j11 < 0 then
      none
      else
      let t16 : Int := ishr .i64 (rd values1 v14) j11;
      let t17 : Int := IntKind.i64.wrap (j11 + 1);
      (if t17 < 0 then
       none
       else
       let t18 : Int := ishr .i64 (rd values1 v14) t17;
       let t19 : Int := ixor .i64 t16 t18;
       let t20 : Int := iand .i64 t19 1;
       let t21 : Int := IntKind.u8.wrap t20;
       (if (plane15.length + ([t21] : List Int).length) * 1 ≤ 140737488355328 then
        let t22 : List Int := plane15 ++ [t21];
        let t23 : Int := IntKind.i64.wrap (v14 + 1);
        some (Sum.inl (t23, t22))
        else
        none)))
     else
     none)
    else
    some (Sum.inr plane15))
noncomputable def tone_Planes_loop9_step (j11 : Int) (i24 : Nat) (x25 : Int) (s26 : (List Int)) : Option (((List Int)) ⊕ ((List Int))) :=
   (if j11 < 0 then
    none
    else
    let t16 : Int := ishr .i64 (x25) j11;
    let t17 : Int := IntKind.i64.wrap (j11 + 1);
    (if t17 < 0 then
     none
     else
     let t18 : Int := ishr .i64 (x25) t17;
     let t19 : Int := ixor .i64 t16 t18;
     let t20 : Int := iand .i64 t19 1;
     let t21 : Int := IntKind.u8.wrap t20;
     (if (s26.length + ([t21] : List Int).length) * 1 ≤ 140737488355328 then
      let t22 : List Int := s26 ++ [t21];
      some (Sum.inl (t22))
      else
      none)))
theorem tone_Planes_loop9_overAt (values1 : List Int) (j11 : Int) (hl : values1.length ≤ 9223372036854775807) (k : Nat) (s26 : (List Int)) (hk : k ≤ values1.length) : loop (tone_Planes_loop9 values1 j11) ((((k : Nat) : Int), s26) : Int × (List Int)) =
    overL (tone_Planes_loop9_step j11) (fun (s26 : (List Int)) => some s26) k (values1.drop k) s26 := by
  refine loop_over values1 (fun n (s : (List Int)) => ((((n : Nat) : Int), s) : Int × (List Int))) _ _ (fun s => ?_) (fun i x s h => ?_) k s26 hk
  · unfold tone_Planes_loop9; simp
  · have hlt := lt_len_of_get h
    have h1 : ((i : Nat) : Int) < ((values1.length : Nat) : Int) := by omega
    have h0 : (0 : Int) ≤ ((i : Nat) : Int) := by omega
    have hw : IntKind.i64.wrap (((i : Nat) : Int) + 1) = (((i + 1 : Nat) : Nat) : Int) := w64 (by omega)
    have hr : rd values1 ((i : Nat) : Int) = x := rd_nat h
    unfold tone_Planes_loop9 tone_Planes_loop9_step
    simp only [h1, h0, hw, h, hr, decide_true, if_true, and_self, true_and, Int.toNat_natCast, Option.bind_some, Option.map_bind, Function.comp_def, map_ite, map_elim, Option.map_some, Option.map_none]
theorem tone_Planes_loop9_over (values1 : List Int) (j11 : Int) (hl : values1.length ≤ 9223372036854775807) (s26 : (List Int)) : loop (tone_Planes_loop9 values1 j11) ((0, s26) : Int × (List Int)) =
    overL (tone_Planes_loop9_step j11) (fun (s26 : (List Int)) => some s26) 0 values1 s26 := tone_Planes_loop9_overAt values1 j11 hl 0 s26 (Nat.zero_le _)

noncomputable def tone_Planes_loop5 (values1 : List Int) (s10 : Int × (List (List Int))) : Option ((Int × (List (List Int))) ⊕ ((List (List Int)))) :=
   let j11 : Int := s10.1;
   let out12 : List (List Int) := s10.2;
   (if (decide (j11 ≥ 0)) = true then
    (loop (tone_Planes_loop9 values1 j11) (0, [])).bind (fun (plane27 : (List Int)) =>
     (if (out12.length + ([plane27] : List (List Int)).length) * 24 ≤ 140737488355328 then
      let t28 : List (List Int) := out12 ++ [plane27];
      let t29 : Int := IntKind.i64.wrap (j11 - 1);
      some (Sum.inl (t29, t28))
      else
      none))
    else
    some (Sum.inr out12))
theorem tone_Planes_eq (values1 : List Int) (k2 : Int) : tone_Planes values1 k2 =
   ((if (decide (k2 < 0)) = true then
     some (true, k2)
     else
     (if (decide (k2 > 8)) = true then
      some (true, k2)
      else
      (slices_ContainsFunc_int_int values1 k2).bind fun (q3 : Bool × Int) =>
      let tr4 : Bool := q3.1;
      let tr5 : Int := q3.2;
      some (tr4, tr5))) : Option (Bool × Int)).bind (fun (p6 : Bool × Int) =>
    let v7 : Bool := p6.1;
    let b8 : Int := p6.2;
    (if v7 = true then
     some ([], 2)
     else
     let t9 : Int := IntKind.i64.wrap (b8 - 1);
     (loop (tone_Planes_loop5 values1) (t9, [])).bind (fun (out30 : (List (List Int))) =>
      some (out30, 0)))) := (call_eq ..).trans (by kernel_rfl)

theorem generic_Put_eq (base1 : Int) (o2 : Int) (o3 : Int) (o4 : Int) (o5 : Bool) (o6 : Int) (b7 : Int) (b8 : Int) (b9 : List Int) (skip10 : Int) (skip11 : Int) (skip12 : List Int) (b13 : Int) (b14 : Int) (b15 : Int) (b16 : List Int) (b17 : List Int) : generic_Put base1 o2 o3 o4 o5 o6 b7 b8 b9 skip10 skip11 skip12 b13 b14 b15 b16 b17 =
   (coder_Encoder_Put (-1) 0 b13 b14 b15 b16 b17).bind fun (q18 : Int × Int × Int × Int × (List Int) × (List Int)) =>
   let tr19 : Int := q18.1;
   let tr20 : Int := q18.2.1;
   let tr21 : Int := q18.2.2.1;
   let tr22 : Int := q18.2.2.2.1;
   let tr23 : List Int := q18.2.2.2.2.1;
   let tr24 : List Int := q18.2.2.2.2.2;
   (if (decide (tr19 = 7)) = true then
    some (7, tr20, tr21, tr22, tr23, tr24)
    else
    (generic_Valid o2 o3 o4 o5 o6).bind fun (q25 : Bool) =>
    (if (!q25) = true then
     some (2, tr20, tr21, tr22, tr23, tr24)
     else
     ((bitmap_Valid b7 b8 b9).bind fun (q26 : Bool) =>
      (if (!q26) = true then
       some true
       else
       (bitmap_Valid skip10 skip11 skip12).bind fun (q27 : Bool) =>
       some (!q27)) : Option (Bool)).bind (fun (v28 : Bool) =>
      (if v28 = true then
       some (30, tr20, tr21, tr22, tr23, tr24)
       else
       (generic_clash b7 b8 b9 skip10 skip11 skip12).bind fun (q29 : Bool) =>
       (if q29 = true then
        some (30, tr20, tr21, tr22, tr23, tr24)
        else
        ((generic_sides skip10 skip11 skip12 b7 b8).bind fun (q30 : Bool) =>
         (if (!q30) = true then
          some (true, tr20, tr21, tr22, tr23, tr24)
          else
          (coder_Encoder_Model tr20 tr21 tr22 tr23 tr24).bind fun (q31 : Int × (List Int) × Int × Int × Int × (List Int) × (List Int)) =>
          let tr32 : Int := q31.1;
          let tr33 : List Int := q31.2.1;
          let tr34 : Int := q31.2.2.1;
          let tr35 : Int := q31.2.2.2.1;
          let tr36 : Int := q31.2.2.2.2.1;
          let tr37 : List Int := q31.2.2.2.2.2.1;
          let tr38 : List Int := q31.2.2.2.2.2.2;
          (generic_fits tr32 tr33 base1 o2 o3 o4 o5 o6).bind fun (q39 : Bool) =>
          some (!q39, tr34, tr35, tr36, tr37, tr38)) : Option (Bool × Int × Int × Int × (List Int) × (List Int))).bind (fun (p40 : Bool × Int × Int × Int × (List Int) × (List Int)) =>
         let v41 : Bool := p40.1;
         let b42 : Int := p40.2.1;
         let b43 : Int := p40.2.2.1;
         let b44 : Int := p40.2.2.2.1;
         let b45 : List Int := p40.2.2.2.2.1;
         let b46 : List Int := p40.2.2.2.2.2;
         (if v41 = true then
          some (2, b42, b43, b44, b45, b46)
          else
          (generic_put base1 o2 o3 o4 o5 o6 b7 b8 b9 skip10 skip11 skip12 b42 b43 b44 b45 b46).bind fun (q47 : Int × Int × Int × (List Int) × (List Int)) =>
          let tr48 : Int := q47.1;
          let tr49 : Int := q47.2.1;
          let tr50 : Int := q47.2.2.1;
          let tr51 : List Int := q47.2.2.2.1;
          let tr52 : List Int := q47.2.2.2.2;
          some (0, tr48, tr49, tr50, tr51, tr52)))))))) := (call_eq ..).trans (by kernel_rfl)

noncomputable def coder_Encoder_End_loop10 (tr10 : Int) (v15 : Int) (s22 : Int × (List Int)) : Option ((Int × (List Int)) ⊕ ((List Int))) :=
   let v23 : Int := s22.1;
   let out24 : List Int := s22.2;
   (if (decide (v23 < v15)) = true then
    let t25 : Int := IntKind.i64.wrap (8 * v23);
    let t26 : Int := IntKind.i64.wrap (24 - t25);
    (if t26 < 0 then
     none
     else
     let t27 : Int := ishr .u64 tr10 t26;
     let t28 : Int := IntKind.u8.wrap t27;
     (if (out24.length + ([t28] : List Int).length) * 1 ≤ 140737488355328 then
      let t29 : List Int := out24 ++ [t28];
      let t30 : Int := IntKind.i64.wrap (v23 + 1);
      some (Sum.inl (t30, t29))
      else
      none))
    else
    some (Sum.inr out24))
noncomputable def coder_Encoder_End_loop10_step (tr10 : Int) (i31 : Nat) (x32 : Nat) (s33 : (List Int)) : Option (((List Int)) ⊕ ((List Int))) :=
   let t25 : Int := IntKind.i64.wrap (8 * ((i31 : Nat) : Int));
   let t26 : Int := IntKind.i64.wrap (24 - t25);
   (if t26 < 0 then
    none
    else
    let t27 : Int := ishr .u64 tr10 t26;
    let t28 : Int := IntKind.u8.wrap t27;
    (if (s33.length + ([t28] : List Int).length) * 1 ≤ 140737488355328 then
     let t29 : List Int := s33 ++ [t28];
     some (Sum.inl (t29))
     else
     none))
theorem coder_Encoder_End_loop10_overAt (tr10 : Int) (v15 : Int) (hl : (List.range (v15).toNat).length ≤ 9223372036854775807) (k : Nat) (s33 : (List Int)) (hk : k ≤ (List.range (v15).toNat).length) : loop (coder_Encoder_End_loop10 tr10 v15) ((((k : Nat) : Int), s33) : Int × (List Int)) =
    overL (coder_Encoder_End_loop10_step tr10) (fun (s33 : (List Int)) => some s33) k ((List.range (v15).toNat).drop k) s33 := by
  refine loop_over (List.range (v15).toNat) (fun n (s : (List Int)) => ((((n : Nat) : Int), s) : Int × (List Int))) _ _ (fun s => ?_) (fun i x s h => ?_) k s33 hk
  · have h1 : ¬ (((List.range (v15).toNat).length : Nat) : Int) < v15 := by simp only [List.length_range]; omega
    unfold coder_Encoder_End_loop10; simp only [h1, decide_false, Bool.false_eq_true, if_false, Option.map_some]
  · have hlt := lt_len_of_get h
    rw [List.length_range] at hlt hl
    rw [List.getElem?_range hlt] at h
    cases h
    have h1 : ((i : Nat) : Int) < v15 := by omega
    have h0 : (0 : Int) ≤ ((i : Nat) : Int) := by omega
    have hw : IntKind.i64.wrap (((i : Nat) : Int) + 1) = (((i + 1 : Nat) : Nat) : Int) := w64 (by omega)
    unfold coder_Encoder_End_loop10 coder_Encoder_End_loop10_step
    simp only [h1, h0, hw, decide_true, if_true, and_self, true_and, Int.toNat_natCast, Option.bind_some, Option.map_bind, Function.comp_def, map_ite, map_elim, Option.map_some, Option.map_none]
theorem coder_Encoder_End_loop10_over (tr10 : Int) (v15 : Int) (hl : (List.range (v15).toNat).length ≤ 9223372036854775807) (s33 : (List Int)) : loop (coder_Encoder_End_loop10 tr10 v15) ((0, s33) : Int × (List Int)) =
    overL (coder_Encoder_End_loop10_step tr10) (fun (s33 : (List Int)) => some s33) 0 (List.range (v15).toNat) s33 := coder_Encoder_End_loop10_overAt tr10 v15 hl 0 s33 (Nat.zero_le _)

noncomputable def coder_Encoder_End_loop5 (tr9 : Int) (tr10 : Int) (s14 : Int × (List Int)) : Option ((Int × (List Int)) ⊕ (((List Int)) ⊕ ((List Int)))) :=
   let v15 : Int := s14.1;
   let out16 : List Int := s14.2;
   (if (decide (v15 < 5)) = true then
    let t17 : Int := IntKind.i64.wrap (8 * v15);
    let t18 : Int := IntKind.i64.wrap (32 - t17);
    let t19 : Int := IntKind.u64.wrap t18;
    (if t19 < 0 then
     none
     else
     let t20 : Int := ishr .u64 tr10 t19;
     (if t19 < 0 then
      none
      else
      let t21 : Int := ishl .u64 t20 t19;
      (if (decide (t21 ≥ tr9)) = true then
       (loop (coder_Encoder_End_loop10 tr10 v15) (0, out16)).bind (fun (out34 : (List Int)) =>
        some (Sum.inr (Sum.inr out34)))
       else
       let t35 : Int := IntKind.i64.wrap (v15 + 1);
       some (Sum.inl (t35, out16)))))
    else
    some (Sum.inr (Sum.inl out16)))
noncomputable def coder_Encoder_End_loop5_step (tr9 : Int) (tr10 : Int) (i36 : Nat) (x37 : Nat) (s38 : (List Int)) : Option (((List Int)) ⊕ (((List Int)) ⊕ ((List Int)))) :=
   let t17 : Int := IntKind.i64.wrap (8 * ((i36 : Nat) : Int));
   let t18 : Int := IntKind.i64.wrap (32 - t17);
   let t19 : Int := IntKind.u64.wrap t18;
   (if t19 < 0 then
    none
    else
    let t20 : Int := ishr .u64 tr10 t19;
    (if t19 < 0 then
     none
     else
     let t21 : Int := ishl .u64 t20 t19;
     (if (decide (t21 ≥ tr9)) = true then
      (loop (coder_Encoder_End_loop10 tr10 ((i36 : Nat) : Int)) (0, s38)).bind (fun (out34 : (List Int)) =>
       some (Sum.inr (Sum.inr out34)))
      else
      some (Sum.inl (s38)))))
theorem coder_Encoder_End_loop5_overAt (tr9 : Int) (tr10 : Int) (hl : (List.range 5).length ≤ 9223372036854775807) (k : Nat) (s38 : (List Int)) (hk : k ≤ (List.range 5).length) : loop (coder_Encoder_End_loop5 tr9 tr10) ((((k : Nat) : Int), s38) : Int × (List Int)) =
    overL (coder_Encoder_End_loop5_step tr9 tr10) (fun (s38 : (List Int)) => some (Sum.inl s38)) k ((List.range 5).drop k) s38 := by
  refine loop_over (List.range 5) (fun n (s : (List Int)) => ((((n : Nat) : Int), s) : Int × (List Int))) _ _ (fun s => ?_) (fun i x s h => ?_) k s38 hk
  · have h1 : ¬ (((List.range 5).length : Nat) : Int) < 5 := by simp only [List.length_range]; omega
    unfold coder_Encoder_End_loop5; simp only [h1, decide_false, Bool.false_eq_true, if_false, Option.map_some]
  · have hlt := lt_len_of_get h
    rw [List.length_range] at hlt hl
    rw [List.getElem?_range hlt] at h
    cases h
    have h1 : ((i : Nat) : Int) < 5 := by omega
    have h0 : (0 : Int) ≤ ((i : Nat) : Int) := by omega
    have hw : IntKind.i64.wrap (((i : Nat) : Int) + 1) = (((i + 1 : Nat) : Nat) : Int) := w64 (by omega)
    unfold coder_Encoder_End_loop5 coder_Encoder_End_loop5_step
    simp only [h1, h0, hw, decide_true, if_true, and_self, true_and, Int.toNat_natCast, Option.bind_some, Option.map_bind, Function.comp_def, map_ite, map_elim, Option.map_some, Option.map_none]
theorem coder_Encoder_End_loop5_over (tr9 : Int) (tr10 : Int) (hl : (List.range 5).length ≤ 9223372036854775807) (s38 : (List Int)) : loop (coder_Encoder_End_loop5 tr9 tr10) ((0, s38) : Int × (List Int)) =
    overL (coder_Encoder_End_loop5_step tr9 tr10) (fun (s38 : (List Int)) => some (Sum.inl s38)) 0 (List.range 5) s38 := coder_Encoder_End_loop5_overAt tr9 tr10 hl 0 s38 (Nat.zero_le _)

theorem coder_Encoder_End_eq (b1 : Int) (b2 : Int) (b3 : Int) (b4 : List Int) (b5 : List Int) : coder_Encoder_End b1 b2 b3 b4 b5 =
   (coder_Encoder_none b1 b2 b3 b4 b5).bind fun (q6 : Bool × Int × Int × Int × (List Int) × (List Int)) =>
   let tr7 : Bool := q6.1;
   let tr8 : Int := q6.2.1;
   let tr9 : Int := q6.2.2.1;
   let tr10 : Int := q6.2.2.2.1;
   let tr11 : List Int := q6.2.2.2.2.1;
   let tr12 : List Int := q6.2.2.2.2.2;
   (if tr7 = true then
    some ([], tr8, tr9, tr10, tr11, tr12)
    else
    (if (([] : List Int).length + tr12.length) * 1 ≤ 140737488355328 then
     let t13 : List Int := ([] : List Int) ++ tr12;
     (loop (coder_Encoder_End_loop5 tr9 tr10) (0, t13)).bind (fun (o41 : ((List Int)) ⊕ ((List Int))) =>
      (Sum.elim (fun (out39 : (List Int)) =>
        some (out39, tr8, tr9, tr10, tr11, tr12))
       (fun (b40 : (List Int)) =>
        some (b40, tr8, tr9, tr10, tr11, tr12)) o41))
     else
     none)) := (call_eq ..).trans (by kernel_rfl)

theorem bits_Signed_eq (n1 : Int) : bits_Signed n1 =
   ((if (decide (n1 ≥ 0)) = true then
     some (decide (n1 < 1073741824))
     else
     some false) : Option (Bool)).bind (fun (v2 : Bool) =>
    (if v2 = true then
     let t3 : Int := IntKind.i64.wrap (2 * n1);
     (bits_Size t3).bind fun (q4 : (List Int) × Int) =>
     let tr5 : List Int := q4.1;
     let tr6 : Int := q4.2;
     some (tr5, tr6)
     else
     ((if (decide (n1 < 0)) = true then
       some (decide (n1 ≥ (-1073741824)))
       else
       some false) : Option (Bool)).bind (fun (v7 : Bool) =>
      (if v7 = true then
       let t8 : Int := IntKind.i64.wrap ((-2) * n1);
       let t9 : Int := IntKind.i64.wrap (t8 - 1);
       (bits_Size t9).bind fun (q10 : (List Int) × Int) =>
       let tr11 : List Int := q10.1;
       let tr12 : Int := q10.2;
       some (tr11, tr12)
       else
       some ([], 2))))) := (call_eq ..).trans (by kernel_rfl)

theorem ref05_Sides_eq (w1 : Int) (h2 : Int) : ref05_Sides w1 h2 =
   (if (decide (w1 ≥ 0)) = true then
    (if (decide (h2 ≥ 0)) = true then
     (if (decide (w1 ≤ 200)) = true then
      (if (decide (h2 ≤ 200)) = true then
       let t3 : Int := IntKind.i64.wrap (w1 * h2);
       some (decide (t3 ≤ 8192))
       else
       some false)
      else
      some false)
     else
     some false)
    else
    some false) := (call_eq ..).trans (by kernel_rfl)

noncomputable def ref11_given_loop8 (l11 : List Bitmap) (values14 : List Int) (tr20 : List Int) (i21 : Int) : Option ((Int) ⊕ ((Unit) ⊕ (Int))) :=
   (if (decide (i21 < ((values14.length : Nat) : Int))) = true then
    (if 0 ≤ i21 ∧ i21 < (values14.length : Int) then
     (if (decide (rd values14 i21 < 0)) = true then
      some (Sum.inr (Sum.inr 2))
      else
      (if 0 ≤ i21 ∧ i21 < (values14.length : Int) then
       (if (decide (rd values14 i21 ≥ ((l11.length : Nat) : Int))) = true then
        some (Sum.inr (Sum.inr 2))
        else
        (if 0 ≤ i21 ∧ i21 < (tr20.length : Int) then
         (if (decide (rd tr20 i21 = 1)) = true then
          (if 0 ≤ i21 ∧ i21 < (values14.length : Int) then
           (if (!decide (rd values14 i21 = 0)) = true then
            some (Sum.inr (Sum.inr 2))
            else
            let t22 : Int := IntKind.i64.wrap (i21 + 1);
            some (Sum.inl t22))
           else
           none)
          else
          let t23 : Int := IntKind.i64.wrap (i21 + 1);
          some (Sum.inl t23))
         else
         none))
       else
       none))
     else
     none)
    else
    some (Sum.inr (Sum.inl ())))
noncomputable def ref11_given_loop8_step (l11 : List Bitmap) (tr20 : List Int) (i24 : Nat) (x25 : Int) (s26 : Unit) : Option ((Unit) ⊕ ((Unit) ⊕ (Int))) :=
   (if (decide (x25 < 0)) = true then
    some (Sum.inr (Sum.inr 2))
    else
    (if (decide (x25 ≥ ((l11.length : Nat) : Int))) = true then
     some (Sum.inr (Sum.inr 2))
     else
     (if 0 ≤ ((i24 : Nat) : Int) ∧ ((i24 : Nat) : Int) < (tr20.length : Int) then
      (if (decide (rd tr20 ((i24 : Nat) : Int) = 1)) = true then
       (if (!decide (x25 = 0)) = true then
        some (Sum.inr (Sum.inr 2))
        else
        some (Sum.inl (())))
       else
       some (Sum.inl (())))
      else
      none)))
theorem ref11_given_loop8_overAt (l11 : List Bitmap) (values14 : List Int) (tr20 : List Int) (hl : values14.length ≤ 9223372036854775807) (k : Nat) (s26 : Unit) (hk : k ≤ values14.length) : loop (ref11_given_loop8 l11 values14 tr20) (((k : Nat) : Int) : Int) =
    overL (ref11_given_loop8_step l11 tr20) (fun (s26 : Unit) => some (Sum.inl ())) k (values14.drop k) s26 := by
  refine loop_over values14 (fun n (s : Unit) => (((n : Nat) : Int) : Int)) _ _ (fun s => ?_) (fun i x s h => ?_) k s26 hk
  · unfold ref11_given_loop8; simp
  · have hlt := lt_len_of_get h
    have h1 : ((i : Nat) : Int) < ((values14.length : Nat) : Int) := by omega
    have h0 : (0 : Int) ≤ ((i : Nat) : Int) := by omega
    have hw : IntKind.i64.wrap (((i : Nat) : Int) + 1) = (((i + 1 : Nat) : Nat) : Int) := w64 (by omega)
    have hr : rd values14 ((i : Nat) : Int) = x := rd_nat h
    unfold ref11_given_loop8 ref11_given_loop8_step
    simp only [h1, h0, hw, h, hr, decide_true, if_true, and_self, true_and, Int.toNat_natCast, Option.bind_some, Option.map_bind, Function.comp_def, map_ite, map_elim, Option.map_some, Option.map_none]
theorem ref11_given_loop8_over (l11 : List Bitmap) (values14 : List Int) (tr20 : List Int) (hl : values14.length ≤ 9223372036854775807) (s26 : Unit) : loop (ref11_given_loop8 l11 values14 tr20) (0 : Int) =
    overL (ref11_given_loop8_step l11 tr20) (fun (s26 : Unit) => some (Sum.inl ())) 0 values14 s26 := ref11_given_loop8_overAt l11 values14 tr20 hl 0 s26 (Nat.zero_le _)

theorem ref11_given_eq (a1 : Int) (a2 : Int) (a3 : Int) (a4 : Int) (a5 : Int) (a6 : Int) (a7 : Int) (a8 : Int) (a9 : Bool) (a10 : Int) (l11 : List Bitmap) (w12 : Int) (h13 : Int) (values14 : List Int) : ref11_given a1 a2 a3 a4 a5 a6 a7 a8 a9 a10 l11 w12 h13 values14 =
   (ref11_asked a1 a2 a3 a4 a5 a6 a7 a8 a9 a10 l11 w12 h13).bind fun (q15 : Int) =>
   (if (!decide (q15 = 0)) = true then
    some q15
    else
    let t16 : Int := IntKind.i64.wrap (a1 * a2);
    (if (!decide (((values14.length : Nat) : Int) = t16)) = true then
     some 2
     else
     (ref11_skipped a1 a2 a3 a4 a5 a6 a7 a8 a9 a10 l11 w12 h13).bind fun (q17 : Int × Int × (List Int)) =>
     let tr18 : Int := q17.1;
     let tr19 : Int := q17.2.1;
     let tr20 : List Int := q17.2.2;
     (loop (ref11_given_loop8 l11 values14 tr20) 0).bind (fun (o29 : (Unit) ⊕ (Int)) =>
      (Sum.elim (fun (p27 : Unit) =>
        some 0)
       (fun (v28 : Int) =>
        some v28) o29)))) := (call_eq ..).trans (by kernel_rfl)

theorem ref11_options_eq (a1 : Int) (a2 : Int) (a3 : Int) (a4 : Int) (a5 : Int) (a6 : Int) (a7 : Int) (a8 : Int) (a9 : Bool) (a10 : Int) : ref11_options a1 a2 a3 a4 a5 a6 a7 a8 a9 a10 =
   (ref07_Usual a7).bind fun (q11 : Int × Int × Int × Bool × Int × Int) =>
   let tr12 : Int := q11.1;
   let tr13 : Int := q11.2.1;
   let tr14 : Int := q11.2.2.1;
   let tr15 : Bool := q11.2.2.2.1;
   let tr16 : Int := q11.2.2.2.2.1;
   let tr17 : Int := q11.2.2.2.2.2;
   some (tr12, tr13, tr14, false, a8) := (call_eq ..).trans (by kernel_rfl)

theorem ref07_Size_eq (o1 : Int) (o2 : Int) (o3 : Int) (o4 : Bool) (o5 : Int) : ref07_Size o1 o2 o3 o4 o5 =
   (ref07_Valid o1 o2 o3 o4 o5).bind fun (q6 : Bool) =>
   (if (!q6) = true then
    some (0, 2)
    else
    (ref07_pixels o1 o2 o3 o4 o5).bind fun (q7 : (List Pixel)) =>
    (if ((q7.length : Nat) : Int) < 0 then
     none
     else
     let t8 : Int := ishl .i64 1 ((q7.length : Nat) : Int);
     let t9 : Int := IntKind.i64.wrap (t8 + 1);
     some (t9, 0))) := (call_eq ..).trans (by kernel_rfl)

theorem ref02_New_eq (kind1 : Int) (n2 : Int) : ref02_New kind1 n2 =
   ((if (!decide (kind1 = 0)) = true then
     (if (!decide (kind1 = 1)) = true then
      some true
      else
      (if (decide (n2 < 0)) = true then
       some true
       else
       some (decide (n2 > 8192))))
     else
     (if (decide (n2 < 0)) = true then
      some true
      else
      some (decide (n2 > 8192)))) : Option (Bool)).bind (fun (v3 : Bool) =>
    (if v3 = true then
     some (0, [], 2)
     else
     (if 0 ≤ n2 ∧ n2 ≤ n2 ∧ ((8 : Nat) : Int) * n2 ≤ 281474976710656 then
      let t4 : List Int := List.replicate n2.toNat 0;
      some (kind1, t4, 0)
      else
      none))) := (call_eq ..).trans (by kernel_rfl)

theorem ref02_NewEncoder_eq (m1 : Int) (m2 : List Int) : ref02_NewEncoder m1 m2 =
   (ref02_Valid m1 m2).bind fun (q3 : Bool) =>
   (if (!q3) = true then
    some (Sum.inr ())
    else
    (ref02_Copy m1 m2).bind fun (q4 : Int × (List Int)) =>
    let tr5 : Int := q4.1;
    let tr6 : List Int := q4.2;
    (ref02_Whole).bind fun (q7 : Int × Int) =>
    let tr8 : Int := q7.1;
    let tr9 : Int := q7.2;
    some (Sum.inl (tr5, tr8, tr9, tr6, []))) := (call_eq ..).trans (by kernel_rfl)

noncomputable def ref03_Width_loop2 (n1 : Int) (k2 : Int) : Option ((Int) ⊕ (Int)) :=
   (if (decide (k2 < 62)) = true then
    (if k2 < 0 then
     none
     else
     let t3 : Int := ishl .i64 1 k2;
     (if (decide (t3 < n1)) = true then
      let t4 : Int := IntKind.i64.wrap (k2 + 1);
      some (Sum.inl t4)
      else
      some (Sum.inr k2)))
    else
    some (Sum.inr k2))
theorem ref03_Width_eq (n1 : Int) : ref03_Width n1 =
   (loop (ref03_Width_loop2 n1) 0).bind (fun (k5 : Int) =>
    (if k5 < 0 then
     none
     else
     let t6 : Int := ishl .i64 1 k5;
     (if (decide (t6 < n1)) = true then
      some 63
      else
      some k5))) := (call_eq ..).trans (by kernel_rfl)

noncomputable def ref11_Planes_loop4 (values1 : List Int) (k2 : Int) (i4 : Int) : Option ((Int) ⊕ ((Unit) ⊕ ((List (List Int)) × Int))) :=
   (if (decide (i4 < ((values1.length : Nat) : Int))) = true then
    (if 0 ≤ i4 ∧ i4 < (values1.length : Int) then
     (if (decide (rd values1 i4 < 0)) = true then
      some (Sum.inr (Sum.inr ([], 2)))
      else
      (if 0 ≤ i4 ∧ i4 < (values1.length : Int) then
       (if k2 < 0 then
        none
        else
        let t5 : Int := ishl .i64 1 k2;
        (if (decide (rd values1 i4 ≥ t5)) = true then
         some (Sum.inr (Sum.inr ([], 2)))
         else
         let t6 : Int := IntKind.i64.wrap (i4 + 1);
         some (Sum.inl t6)))
       else
       none))
     else
     none)
    else
    some (Sum.inr (Sum.inl ())))
noncomputable def ref11_Planes_loop4_step (k2 : Int) (i7 : Nat) (x8 : Int) (s9 : Unit) : Option ((Unit) ⊕ ((Unit) ⊕ ((List (List Int)) × Int))) :=
   (if (decide (x8 < 0)) = true then
    some (Sum.inr (Sum.inr ([], 2)))
    else
    (if k2 < 0 then
     none
     else
     let t5 : Int := ishl .i64 1 k2;
     (if (decide (x8 ≥ t5)) = true then
      some (Sum.inr (Sum.inr ([], 2)))
      else
      some (Sum.inl (())))))
theorem ref11_Planes_loop4_overAt (values1 : List Int) (k2 : Int) (hl : values1.length ≤ 9223372036854775807) (k : Nat) (s9 : Unit) (hk : k ≤ values1.length) : loop (ref11_Planes_loop4 values1 k2) (((k : Nat) : Int) : Int) =
    overL (ref11_Planes_loop4_step k2) (fun (s9 : Unit) => some (Sum.inl ())) k (values1.drop k) s9 := by
  refine loop_over values1 (fun n (s : Unit) => (((n : Nat) : Int) : Int)) _ _ (fun s => ?_) (fun i x s h => ?_) k s9 hk
  · unfold ref11_Planes_loop4; simp
  · have hlt := lt_len_of_get h
    have h1 : ((i : Nat) : Int) < ((values1.length : Nat) : Int) := by omega
    have h0 : (0 : Int) ≤ ((i : Nat) : Int) := by omega
    have hw : IntKind.i64.wrap (((i : Nat) : Int) + 1) = (((i + 1 : Nat) : Nat) : Int) := w64 (by omega)
    have hr : rd values1 ((i : Nat) : Int) = x := rd_nat h
    unfold ref11_Planes_loop4 ref11_Planes_loop4_step
    simp only [h1, h0, hw, h, hr, decide_true, if_true, and_self, true_and, Int.toNat_natCast, Option.bind_some, Option.map_bind, Function.comp_def, map_ite, map_elim, Option.map_some, Option.map_none]
theorem ref11_Planes_loop4_over (values1 : List Int) (k2 : Int) (hl : values1.length ≤ 9223372036854775807) (s9 : Unit) : loop (ref11_Planes_loop4 values1 k2) (0 : Int) =
    overL (ref11_Planes_loop4_step k2) (fun (s9 : Unit) => some (Sum.inl ())) 0 values1 s9 := ref11_Planes_loop4_overAt values1 k2 hl 0 s9 (Nat.zero_le _)

noncomputable def ref11_Planes_loop14 (values1 : List Int) (j17 : Int) (s19 : Int × (List Int)) : Option ((Int × (List Int)) ⊕ ((List Int))) :=
   let i20 : Int := s19.1;
   let plane21 : List Int := s19.2;
   (if (decide (i20 < ((values1.length : Nat) : Int))) = true then
    (if 0 ≤ i20 ∧ i20 < (values1.length : Int) then
     (if j17 < 0 then
      none
      else
      let t22 : Int := ishr .i64 (rd values1 i20) j17;
      (if 0 ≤ i20 ∧ i20 < (values1.length : Int) then
       let t23 : Int := IntKind.i64.wrap (j17 + 1);
       (if t23 < 0 then
        none
        else
        let t24 : Int := ishr .i64 (rd values1 i20) t23;
        let t25 : Int := IntKind.i64.wrap (t22 + t24);
        let t26 : Int := t25.tmod 2;
        let t27 : Int := IntKind.u8.wrap t26;
        (if (plane21.length + ([t27] : List Int).length) * 1 ≤ 140737488355328 then
         let t28 : List Int := plane21 ++ [t27];
         let t29 : Int := IntKind.i64.wrap (i20 + 1);
         some (Sum.inl (t29, t28))
         else
         none))
       else
       none))
     else
     none)
    else
    some (Sum.inr plane21))
noncomputable def ref11_Planes_loop14_step (j17 : Int) (i30 : Nat) (x31 : Int) (s32 : (List Int)) : Option (((List Int)) ⊕ ((List Int))) :=
   (if j17 < 0 then
    none
    else
    let t22 : Int := ishr .i64 (x31) j17;
    let t23 : Int := IntKind.i64.wrap (j17 + 1);
    (if t23 < 0 then
     none
     else
     let t24 : Int := ishr .i64 (x31) t23;
     let t25 : Int := IntKind.i64.wrap (t22 + t24);
     let t26 : Int := t25.tmod 2;
     let t27 : Int := IntKind.u8.wrap t26;
     (if (s32.length + ([t27] : List Int).length) * 1 ≤ 140737488355328 then
      let t28 : List Int := s32 ++ [t27];
      some (Sum.inl (t28))
      else
      none)))
theorem ref11_Planes_loop14_overAt (values1 : List Int) (j17 : Int) (hl : values1.length ≤ 9223372036854775807) (k : Nat) (s32 : (List Int)) (hk : k ≤ values1.length) : loop (ref11_Planes_loop14 values1 j17) ((((k : Nat) : Int), s32) : Int × (List Int)) =
    overL (ref11_Planes_loop14_step j17) (fun (s32 : (List Int)) => some s32) k (values1.drop k) s32 := by
  refine loop_over values1 (fun n (s : (List Int)) => ((((n : Nat) : Int), s) : Int × (List Int))) _ _ (fun s => ?_) (fun i x s h => ?_) k s32 hk
  · unfold ref11_Planes_loop14; simp
  · have hlt := lt_len_of_get h
    have h1 : ((i : Nat) : Int) < ((values1.length : Nat) : Int) := by omega
    have h0 : (0 : Int) ≤ ((i : Nat) : Int) := by omega
    have hw : IntKind.i64.wrap (((i : Nat) : Int) + 1) = (((i + 1 : Nat) : Nat) : Int) := w64 (by omega)
    have hr : rd values1 ((i : Nat) : Int) = x := rd_nat h
    unfold ref11_Planes_loop14 ref11_Planes_loop14_step
    simp only [h1, h0, hw, h, hr, decide_true, if_true, and_self, true_and, Int.toNat_natCast, Option.bind_some, Option.map_bind, Function.comp_def, map_ite, map_elim, Option.map_some, Option.map_none]
theorem ref11_Planes_loop14_over (values1 : List Int) (j17 : Int) (hl : values1.length ≤ 9223372036854775807) (s32 : (List Int)) : loop (ref11_Planes_loop14 values1 j17) ((0, s32) : Int × (List Int)) =
    overL (ref11_Planes_loop14_step j17) (fun (s32 : (List Int)) => some s32) 0 values1 s32 := ref11_Planes_loop14_overAt values1 j17 hl 0 s32 (Nat.zero_le _)

noncomputable def ref11_Planes_loop10 (values1 : List Int) (s16 : Int × (List (List Int))) : Option ((Int × (List (List Int))) ⊕ ((List (List Int)))) :=
   let j17 : Int := s16.1;
   let out18 : List (List Int) := s16.2;
   (if (decide (j17 ≥ 0)) = true then
    (loop (ref11_Planes_loop14 values1 j17) (0, [])).bind (fun (plane33 : (List Int)) =>
     (if (out18.length + ([plane33] : List (List Int)).length) * 24 ≤ 140737488355328 then
      let t34 : List (List Int) := out18 ++ [plane33];
      let t35 : Int := IntKind.i64.wrap (j17 - 1);
      some (Sum.inl (t35, t34))
      else
      none))
    else
    some (Sum.inr out18))
theorem ref11_Planes_eq (values1 : List Int) (k2 : Int) : ref11_Planes values1 k2 =
   ((if (decide (k2 < 0)) = true then
     some true
     else
     some (decide (k2 > 8))) : Option (Bool)).bind (fun (v3 : Bool) =>
    (if v3 = true then
     some ([], 2)
     else
     (loop (ref11_Planes_loop4 values1 k2) 0).bind (fun (o14 : (Unit) ⊕ ((List (List Int)) × Int)) =>
      (Sum.elim (fun (p10 : Unit) =>
        let t15 : Int := IntKind.i64.wrap (k2 - 1);
        (loop (ref11_Planes_loop10 values1) (t15, [])).bind (fun (out36 : (List (List Int))) =>
         some (out36, 0)))
       (fun (p11 : (List (List Int)) × Int) =>
        let v12 : List (List Int) := p11.1;
        let v13 : Int := p11.2;
        some (v12, v13)) o14)))) := (call_eq ..).trans (by kernel_rfl)

noncomputable def ref11_skipped_loop6 (a1 : Int) (a2 : Int) (a3 : Int) (a4 : Int) (a5 : Int) (a6 : Int) (a7 : Int) (a8 : Int) (a9 : Bool) (a10 : Int) (l11 : List Bitmap) (w12 : Int) (h13 : Int) (tr15 : Int) (tr16 : Int) (m20 : Int) (s22 : Int × (List Int)) : Option ((Int × (List Int)) ⊕ ((List Int))) :=
   let n23 : Int := s22.1;
   let b24 : List Int := s22.2;
   (if (decide (n23 < a1)) = true then
    (ref11_cell a1 a2 a3 a4 a5 a6 a7 a8 a9 a10 m20 n23).bind fun (q25 : Int × Int) =>
    let tr26 : Int := q25.1;
    let tr27 : Int := q25.2;
    ((if a9 = true then
      (if 0 ≤ (0 : Int) then
       (l11[(0 : Int).toNat]?).bind fun e28 =>
       let t29 : Int := IntKind.i64.wrap (tr26 + e28.w);
       (if (decide (t29 ≤ 0)) = true then
        some true
        else
        (if 0 ≤ (0 : Int) then
         (l11[(0 : Int).toNat]?).bind fun e30 =>
         let t31 : Int := IntKind.i64.wrap (tr27 + e30.h);
         (if (decide (t31 ≤ 0)) = true then
          some true
          else
          (if (decide (tr26 ≥ w12)) = true then
           some true
           else
           some (decide (tr27 ≥ h13))))
         else
         none))
       else
       none)
      else
      some false) : Option (Bool)).bind (fun (v32 : Bool) =>
     (if v32 = true then
      (ref05_Put tr15 tr16 n23 m20 1 b24).bind fun (q33 : (List Int)) =>
      let t34 : Int := IntKind.i64.wrap (n23 + 1);
      some (Sum.inl (t34, q33))
      else
      let t35 : Int := IntKind.i64.wrap (n23 + 1);
      some (Sum.inl (t35, b24))))
    else
    some (Sum.inr b24))
noncomputable def ref11_skipped_loop6_step (a1 : Int) (a2 : Int) (a3 : Int) (a4 : Int) (a5 : Int) (a6 : Int) (a7 : Int) (a8 : Int) (a9 : Bool) (a10 : Int) (l11 : List Bitmap) (w12 : Int) (h13 : Int) (tr15 : Int) (tr16 : Int) (m20 : Int) (i36 : Nat) (x37 : Nat) (s38 : (List Int)) : Option (((List Int)) ⊕ ((List Int))) :=
   (ref11_cell a1 a2 a3 a4 a5 a6 a7 a8 a9 a10 m20 ((i36 : Nat) : Int)).bind fun (q25 : Int × Int) =>
   let tr26 : Int := q25.1;
   let tr27 : Int := q25.2;
   ((if a9 = true then
     (if 0 ≤ (0 : Int) then
      (l11[(0 : Int).toNat]?).bind fun e28 =>
      let t29 : Int := IntKind.i64.wrap (tr26 + e28.w);
      (if (decide (t29 ≤ 0)) = true then
       some true
       else
       (if 0 ≤ (0 : Int) then
        (l11[(0 : Int).toNat]?).bind fun e30 =>
        let t31 : Int := IntKind.i64.wrap (tr27 + e30.h);
        (if (decide (t31 ≤ 0)) = true then
         some true
         else
         (if (decide (tr26 ≥ w12)) = true then
          some true
          else
          some (decide (tr27 ≥ h13))))
        else
        none))
      else
      none)
     else
     some false) : Option (Bool)).bind (fun (v32 : Bool) =>
    (if v32 = true then
     (ref05_Put tr15 tr16 ((i36 : Nat) : Int) m20 1 s38).bind fun (q33 : (List Int)) =>
     some (Sum.inl (q33))
     else
     some (Sum.inl (s38))))
theorem ref11_skipped_loop6_overAt (a1 : Int) (a2 : Int) (a3 : Int) (a4 : Int) (a5 : Int) (a6 : Int) (a7 : Int) (a8 : Int) (a9 : Bool) (a10 : Int) (l11 : List Bitmap) (w12 : Int) (h13 : Int) (tr15 : Int) (tr16 : Int) (m20 : Int) (hl : (List.range (a1).toNat).length ≤ 9223372036854775807) (k : Nat) (s38 : (List Int)) (hk : k ≤ (List.range (a1).toNat).length) : loop (ref11_skipped_loop6 a1 a2 a3 a4 a5 a6 a7 a8 a9 a10 l11 w12 h13 tr15 tr16 m20) ((((k : Nat) : Int), s38) : Int × (List Int)) =
    overL (ref11_skipped_loop6_step a1 a2 a3 a4 a5 a6 a7 a8 a9 a10 l11 w12 h13 tr15 tr16 m20) (fun (s38 : (List Int)) => some s38) k ((List.range (a1).toNat).drop k) s38 := by
  refine loop_over (List.range (a1).toNat) (fun n (s : (List Int)) => ((((n : Nat) : Int), s) : Int × (List Int))) _ _ (fun s => ?_) (fun i x s h => ?_) k s38 hk
  · have h1 : ¬ (((List.range (a1).toNat).length : Nat) : Int) < a1 := by simp only [List.length_range]; omega
    unfold ref11_skipped_loop6; simp only [h1, decide_false, Bool.false_eq_true, if_false, Option.map_some]
  · have hlt := lt_len_of_get h
    rw [List.length_range] at hlt hl
    rw [List.getElem?_range hlt] at h
    cases h
    have h1 : ((i : Nat) : Int) < a1 := by omega
    have h0 : (0 : Int) ≤ ((i : Nat) : Int) := by omega
    have hw : IntKind.i64.wrap (((i : Nat) : Int) + 1) = (((i + 1 : Nat) : Nat) : Int) := w64 (by omega)
    unfold ref11_skipped_loop6 ref11_skipped_loop6_step
    simp only [h1, h0, hw, decide_true, if_true, and_self, true_and, Int.toNat_natCast, Option.bind_some, Option.map_bind, Function.comp_def, map_ite, map_elim, Option.map_some, Option.map_none]
theorem ref11_skipped_loop6_over (a1 : Int) (a2 : Int) (a3 : Int) (a4 : Int) (a5 : Int) (a6 : Int) (a7 : Int) (a8 : Int) (a9 : Bool) (a10 : Int) (l11 : List Bitmap) (w12 : Int) (h13 : Int) (tr15 : Int) (tr16 : Int) (m20 : Int) (hl : (List.range (a1).toNat).length ≤ 9223372036854775807) (s38 : (List Int)) : loop (ref11_skipped_loop6 a1 a2 a3 a4 a5 a6 a7 a8 a9 a10 l11 w12 h13 tr15 tr16 m20) ((0, s38) : Int × (List Int)) =
    overL (ref11_skipped_loop6_step a1 a2 a3 a4 a5 a6 a7 a8 a9 a10 l11 w12 h13 tr15 tr16 m20) (fun (s38 : (List Int)) => some s38) 0 (List.range (a1).toNat) s38 := ref11_skipped_loop6_overAt a1 a2 a3 a4 a5 a6 a7 a8 a9 a10 l11 w12 h13 tr15 tr16 m20 hl 0 s38 (Nat.zero_le _)

noncomputable def ref11_skipped_loop3 (a1 : Int) (a2 : Int) (a3 : Int) (a4 : Int) (a5 : Int) (a6 : Int) (a7 : Int) (a8 : Int) (a9 : Bool) (a10 : Int) (l11 : List Bitmap) (w12 : Int) (h13 : Int) (tr15 : Int) (tr16 : Int) (s19 : Int × (List Int)) : Option ((Int × (List Int)) ⊕ ((List Int))) :=
   let m20 : Int := s19.1;
   let b21 : List Int := s19.2;
   (if (decide (m20 < a2)) = true then
    (loop (ref11_skipped_loop6 a1 a2 a3 a4 a5 a6 a7 a8 a9 a10 l11 w12 h13 tr15 tr16 m20) (0, b21)).bind (fun (b39 : (List Int)) =>
     let t40 : Int := IntKind.i64.wrap (m20 + 1);
     some (Sum.inl (t40, b39)))
    else
    some (Sum.inr b21))
noncomputable def ref11_skipped_loop3_step (a1 : Int) (a2 : Int) (a3 : Int) (a4 : Int) (a5 : Int) (a6 : Int) (a7 : Int) (a8 : Int) (a9 : Bool) (a10 : Int) (l11 : List Bitmap) (w12 : Int) (h13 : Int) (tr15 : Int) (tr16 : Int) (i41 : Nat) (x42 : Nat) (s43 : (List Int)) : Option (((List Int)) ⊕ ((List Int))) :=
   (loop (ref11_skipped_loop6 a1 a2 a3 a4 a5 a6 a7 a8 a9 a10 l11 w12 h13 tr15 tr16 ((i41 : Nat) : Int)) (0, s43)).bind (fun (b39 : (List Int)) =>
    some (Sum.inl (b39)))
theorem ref11_skipped_loop3_overAt (a1 : Int) (a2 : Int) (a3 : Int) (a4 : Int) (a5 : Int) (a6 : Int) (a7 : Int) (a8 : Int) (a9 : Bool) (a10 : Int) (l11 : List Bitmap) (w12 : Int) (h13 : Int) (tr15 : Int) (tr16 : Int) (hl : (List.range (a2).toNat).length ≤ 9223372036854775807) (k : Nat) (s43 : (List Int)) (hk : k ≤ (List.range (a2).toNat).length) : loop (ref11_skipped_loop3 a1 a2 a3 a4 a5 a6 a7 a8 a9 a10 l11 w12 h13 tr15 tr16) ((((k : Nat) : Int), s43) : Int × (List Int)) =
    overL (ref11_skipped_loop3_step a1 a2 a3 a4 a5 a6 a7 a8 a9 a10 l11 w12 h13 tr15 tr16) (fun (s43 : (List Int)) => some s43) k ((List.range (a2).toNat).drop k) s43 := by
  refine loop_over (List.range (a2).toNat) (fun n (s : (List Int)) => ((((n : Nat) : Int), s) : Int × (List Int))) _ _ (fun s => ?_) (fun i x s h => ?_) k s43 hk
  · have h1 : ¬ (((List.range (a2).toNat).length : Nat) : Int) < a2 := by simp only [List.length_range]; omega
    unfold ref11_skipped_loop3; simp only [h1, decide_false, Bool.false_eq_true, if_false, Option.map_some]
  · have hlt := lt_len_of_get h
    rw [List.length_range] at hlt hl
    rw [List.getElem?_range hlt] at h
    cases h
    have h1 : ((i : Nat) : Int) < a2 := by omega
    have h0 : (0 : Int) ≤ ((i : Nat) : Int) := by omega
    have hw : IntKind.i64.wrap (((i : Nat) : Int) + 1) = (((i + 1 : Nat) : Nat) : Int) := w64 (by omega)
    unfold ref11_skipped_loop3 ref11_skipped_loop3_step
    simp only [h1, h0, hw, decide_true, if_true, and_self, true_and, Int.toNat_natCast, Option.bind_some, Option.map_bind, Function.comp_def, map_ite, map_elim, Option.map_some, Option.map_none]
theorem ref11_skipped_loop3_over (a1 : Int) (a2 : Int) (a3 : Int) (a4 : Int) (a5 : Int) (a6 : Int) (a7 : Int) (a8 : Int) (a9 : Bool) (a10 : Int) (l11 : List Bitmap) (w12 : Int) (h13 : Int) (tr15 : Int) (tr16 : Int) (hl : (List.range (a2).toNat).length ≤ 9223372036854775807) (s43 : (List Int)) : loop (ref11_skipped_loop3 a1 a2 a3 a4 a5 a6 a7 a8 a9 a10 l11 w12 h13 tr15 tr16) ((0, s43) : Int × (List Int)) =
    overL (ref11_skipped_loop3_step a1 a2 a3 a4 a5 a6 a7 a8 a9 a10 l11 w12 h13 tr15 tr16) (fun (s43 : (List Int)) => some s43) 0 (List.range (a2).toNat) s43 := ref11_skipped_loop3_overAt a1 a2 a3 a4 a5 a6 a7 a8 a9 a10 l11 w12 h13 tr15 tr16 hl 0 s43 (Nat.zero_le _)

theorem ref11_skipped_eq (a1 : Int) (a2 : Int) (a3 : Int) (a4 : Int) (a5 : Int) (a6 : Int) (a7 : Int) (a8 : Int) (a9 : Bool) (a10 : Int) (l11 : List Bitmap) (w12 : Int) (h13 : Int) : ref11_skipped a1 a2 a3 a4 a5 a6 a7 a8 a9 a10 l11 w12 h13 =
   (ref05_New a1 a2 0).bind fun (q14 : Int × Int × Int × (List Int)) =>
   let tr15 : Int := q14.1;
   let tr16 : Int := q14.2.1;
   let tr17 : Int := q14.2.2.1;
   let tr18 : List Int := q14.2.2.2;
   (loop (ref11_skipped_loop3 a1 a2 a3 a4 a5 a6 a7 a8 a9 a10 l11 w12 h13 tr15 tr16) (0, tr18)).bind (fun (b44 : (List Int)) =>
    some (tr15, tr16, b44)) := (call_eq ..).trans (by kernel_rfl)

noncomputable def ref07_Put_loop9 (b7 : Int) (b8 : Int) (b9 : List Int) (skip10 : Int) (skip11 : Int) (skip12 : List Int) (y22 : Int) (x24 : Int) : Option ((Int) ⊕ ((Unit) ⊕ (Int))) :=
   (if (decide (x24 < b7)) = true then
    (ref05_At b7 b8 b9 x24 y22).bind fun (q25 : Int) =>
    (if (decide (q25 = 1)) = true then
     (ref05_At skip10 skip11 skip12 x24 y22).bind fun (q26 : Int) =>
     (if (decide (q26 = 1)) = true then
      some (Sum.inr (Sum.inr 30))
      else
      let t27 : Int := IntKind.i64.wrap (x24 + 1);
      some (Sum.inl t27))
     else
     let t28 : Int := IntKind.i64.wrap (x24 + 1);
     some (Sum.inl t28))
    else
    some (Sum.inr (Sum.inl ())))
noncomputable def ref07_Put_loop9_step (b7 : Int) (b8 : Int) (b9 : List Int) (skip10 : Int) (skip11 : Int) (skip12 : List Int) (y22 : Int) (i29 : Nat) (x30 : Nat) (s31 : Unit) : Option ((Unit) ⊕ ((Unit) ⊕ (Int))) :=
   (ref05_At b7 b8 b9 ((i29 : Nat) : Int) y22).bind fun (q25 : Int) =>
   (if (decide (q25 = 1)) = true then
    (ref05_At skip10 skip11 skip12 ((i29 : Nat) : Int) y22).bind fun (q26 : Int) =>
    (if (decide (q26 = 1)) = true then
     some (Sum.inr (Sum.inr 30))
     else
     some (Sum.inl (())))
    else
    some (Sum.inl (())))
theorem ref07_Put_loop9_overAt (b7 : Int) (b8 : Int) (b9 : List Int) (skip10 : Int) (skip11 : Int) (skip12 : List Int) (y22 : Int) (hl : (List.range (b7).toNat).length ≤ 9223372036854775807) (k : Nat) (s31 : Unit) (hk : k ≤ (List.range (b7).toNat).length) : loop (ref07_Put_loop9 b7 b8 b9 skip10 skip11 skip12 y22) (((k : Nat) : Int) : Int) =
    overL (ref07_Put_loop9_step b7 b8 b9 skip10 skip11 skip12 y22) (fun (s31 : Unit) => some (Sum.inl ())) k ((List.range (b7).toNat).drop k) s31 := by
  refine loop_over (List.range (b7).toNat) (fun n (s : Unit) => (((n : Nat) : Int) : Int)) _ _ (fun s => ?_) (fun i x s h => ?_) k s31 hk
  · have h1 : ¬ (((List.range (b7).toNat).length : Nat) : Int) < b7 := by simp only [List.length_range]; omega
    unfold ref07_Put_loop9; simp only [h1, decide_false, Bool.false_eq_true, if_false, Option.map_some]
  · have hlt := lt_len_of_get h
    rw [List.length_range] at hlt hl
    rw [List.getElem?_range hlt] at h
    cases h
    have h1 : ((i : Nat) : Int) < b7 := by omega
    have h0 : (0 : Int) ≤ ((i : Nat) : Int) := by omega
    have hw : IntKind.i64.wrap (((i : Nat) : Int) + 1) = (((i + 1 : Nat) : Nat) : Int) := w64 (by omega)
    unfold ref07_Put_loop9 ref07_Put_loop9_step
    simp only [h1, h0, hw, decide_true, if_true, and_self, true_and, Int.toNat_natCast, Option.bind_some, Option.map_bind, Function.comp_def, map_ite, map_elim, Option.map_some, Option.map_none]
theorem ref07_Put_loop9_over (b7 : Int) (b8 : Int) (b9 : List Int) (skip10 : Int) (skip11 : Int) (skip12 : List Int) (y22 : Int) (hl : (List.range (b7).toNat).length ≤ 9223372036854775807) (s31 : Unit) : loop (ref07_Put_loop9 b7 b8 b9 skip10 skip11 skip12 y22) (0 : Int) =
    overL (ref07_Put_loop9_step b7 b8 b9 skip10 skip11 skip12 y22) (fun (s31 : Unit) => some (Sum.inl ())) 0 (List.range (b7).toNat) s31 := ref07_Put_loop9_overAt b7 b8 b9 skip10 skip11 skip12 y22 hl 0 s31 (Nat.zero_le _)

noncomputable def ref07_Put_loop6 (b7 : Int) (b8 : Int) (b9 : List Int) (skip10 : Int) (skip11 : Int) (skip12 : List Int) (y22 : Int) : Option ((Int) ⊕ ((Unit) ⊕ (Int))) :=
   ((if (decide (y22 < b8)) = true then
     (if (decide (b7 = skip10)) = true then
      some (decide (b8 = skip11))
      else
      some false)
     else
     some false) : Option (Bool)).bind (fun (v23 : Bool) =>
    (if v23 = true then
     (loop (ref07_Put_loop9 b7 b8 b9 skip10 skip11 skip12 y22) 0).bind (fun (o34 : (Unit) ⊕ (Int)) =>
      (Sum.elim (fun (p32 : Unit) =>
        let t35 : Int := IntKind.i64.wrap (y22 + 1);
        some (Sum.inl t35))
       (fun (v33 : Int) =>
        some (Sum.inr (Sum.inr v33))) o34))
     else
     some (Sum.inr (Sum.inl ()))))
noncomputable def ref07_Put_loop27 (base1 : Int) (o2 : Int) (o3 : Int) (o4 : Int) (o5 : Bool) (o6 : Int) (b7 : Int) (b8 : Int) (b9 : List Int) (skip10 : Int) (skip11 : Int) (skip12 : List Int) (y52 : Int) (s87 : Int × Int × Int × Int × (List Int) × (List Int)) : Option ((Int × Int × Int × Int × (List Int) × (List Int)) ⊕ (Int × Int × Int × (List Int) × (List Int))) :=
   let x88 : Int := s87.1;
   let b89 : Int := s87.2.1;
   let b90 : Int := s87.2.2.1;
   let b91 : Int := s87.2.2.2.1;
   let b92 : List Int := s87.2.2.2.2.1;
   let b93 : List Int := s87.2.2.2.2.2;
   (if (decide (x88 < b7)) = true then
    (ref05_At skip10 skip11 skip12 x88 y52).bind fun (q94 : Int) =>
    (if (decide (q94 = 0)) = true then
     (ref07_context o2 o3 o4 o5 o6 b7 b8 b9 x88 y52).bind fun (q95 : Int) =>
     let t96 : Int := IntKind.i64.wrap (base1 + q95);
     (ref05_At b7 b8 b9 x88 y52).bind fun (q97 : Int) =>
     (ref02_Encoder_Put t96 q97 b89 b90 b91 b92 b93).bind fun (q98 : Int × Int × Int × Int × (List Int) × (List Int)) =>
     let tr99 : Int := q98.1;
     let tr100 : Int := q98.2.1;
     let tr101 : Int := q98.2.2.1;
     let tr102 : Int := q98.2.2.2.1;
     let tr103 : List Int := q98.2.2.2.2.1;
     let tr104 : List Int := q98.2.2.2.2.2;
     let t105 : Int := IntKind.i64.wrap (x88 + 1);
     some (Sum.inl (t105, tr100, tr101, tr102, tr103, tr104))
     else
     let t106 : Int := IntKind.i64.wrap (x88 + 1);
     some (Sum.inl (t106, b89, b90, b91, b92, b93)))
    else
    some (Sum.inr (b89, b90, b91, b92, b93)))
noncomputable def ref07_Put_loop27_step (base1 : Int) (o2 : Int) (o3 : Int) (o4 : Int) (o5 : Bool) (o6 : Int) (b7 : Int) (b8 : Int) (b9 : List Int) (skip10 : Int) (skip11 : Int) (skip12 : List Int) (y52 : Int) (i107 : Nat) (x108 : Nat) (s109 : Int × Int × Int × (List Int) × (List Int)) : Option ((Int × Int × Int × (List Int) × (List Int)) ⊕ (Int × Int × Int × (List Int) × (List Int))) :=
   let b110 : Int := s109.1;
   let b111 : Int := s109.2.1;
   let b112 : Int := s109.2.2.1;
   let b113 : List Int := s109.2.2.2.1;
   let b114 : List Int := s109.2.2.2.2;
   (ref05_At skip10 skip11 skip12 ((i107 : Nat) : Int) y52).bind fun (q94 : Int) =>
   (if (decide (q94 = 0)) = true then
    (ref07_context o2 o3 o4 o5 o6 b7 b8 b9 ((i107 : Nat) : Int) y52).bind fun (q95 : Int) =>
    let t96 : Int := IntKind.i64.wrap (base1 + q95);
    (ref05_At b7 b8 b9 ((i107 : Nat) : Int) y52).bind fun (q97 : Int) =>
    (ref02_Encoder_Put t96 q97 b110 b111 b112 b113 b114).bind fun (q98 : Int × Int × Int × Int × (List Int) × (List Int)) =>
    let tr99 : Int := q98.1;
    let tr100 : Int := q98.2.1;
    let tr101 : Int := q98.2.2.1;
    let tr102 : Int := q98.2.2.2.1;
    let tr103 : List Int := q98.2.2.2.2.1;
    let tr104 : List Int := q98.2.2.2.2.2;
    some (Sum.inl ((tr100, tr101, tr102, tr103, tr104)))
    else
    some (Sum.inl ((b110, b111, b112, b113, b114))))
theorem ref07_Put_loop27_overAt (base1 : Int) (o2 : Int) (o3 : Int) (o4 : Int) (o5 : Bool) (o6 : Int) (b7 : Int) (b8 : Int) (b9 : List Int) (skip10 : Int) (skip11 : Int) (skip12 : List Int) (y52 : Int) (hl : (List.range (b7).toNat).length ≤ 9223372036854775807) (k : Nat) (s109 : Int × Int × Int × (List Int) × (List Int)) (hk : k ≤ (List.range (b7).toNat).length) : loop (ref07_Put_loop27 base1 o2 o3 o4 o5 o6 b7 b8 b9 skip10 skip11 skip12 y52) ((((k : Nat) : Int), s109.1, s109.2.1, s109.2.2.1, s109.2.2.2.1, s109.2.2.2.2) : Int × Int × Int × Int × (List Int) × (List Int)) =
    overL (ref07_Put_loop27_step base1 o2 o3 o4 o5 o6 b7 b8 b9 skip10 skip11 skip12 y52) (fun (s109 : Int × Int × Int × (List Int) × (List Int)) => let b110 : Int := s109.1; let b111 : Int := s109.2.1; let b112 : Int := s109.2.2.1; let b113 : List Int := s109.2.2.2.1; let b114 : List Int := s109.2.2.2.2; some (b110, b111, b112, b113, b114)) k ((List.range (b7).toNat).drop k) s109 := by
  refine loop_over (List.range (b7).toNat) (fun n (s : Int × Int × Int × (List Int) × (List Int)) => ((((n : Nat) : Int), s.1, s.2.1, s.2.2.1, s.2.2.2.1, s.2.2.2.2) : Int × Int × Int × Int × (List Int) × (List Int))) _ _ (fun s => ?_) (fun i x s h => ?_) k s109 hk
  · have h1 : ¬ (((List.range (b7).toNat).length : Nat) : Int) < b7 := by simp only [List.length_range]; omega
    unfold ref07_Put_loop27; simp only [h1, decide_false, Bool.false_eq_true, if_false, Option.map_some]
  · have hlt := lt_len_of_get h
    rw [List.length_range] at hlt hl
    rw [List.getElem?_range hlt] at h
    cases h
    have h1 : ((i : Nat) : Int) < b7 := by omega
    have h0 : (0 : Int) ≤ ((i : Nat) : Int) := by omega
    have hw : IntKind.i64.wrap (((i : Nat) : Int) + 1) = (((i + 1 : Nat) : Nat) : Int) := w64 (by omega)
    unfold ref07_Put_loop27 ref07_Put_loop27_step
    simp only [h1, h0, hw, decide_true, if_true, and_self, true_and, Int.toNat_natCast, Option.bind_some, Option.map_bind, Function.comp_def, map_ite, map_elim, Option.map_some, Option.map_none]
theorem ref07_Put_loop27_over (base1 : Int) (o2 : Int) (o3 : Int) (o4 : Int) (o5 : Bool) (o6 : Int) (b7 : Int) (b8 : Int) (b9 : List Int) (skip10 : Int) (skip11 : Int) (skip12 : List Int) (y52 : Int) (hl : (List.range (b7).toNat).length ≤ 9223372036854775807) (s109 : Int × Int × Int × (List Int) × (List Int)) : loop (ref07_Put_loop27 base1 o2 o3 o4 o5 o6 b7 b8 b9 skip10 skip11 skip12 y52) ((0, s109.1, s109.2.1, s109.2.2.1, s109.2.2.2.1, s109.2.2.2.2) : Int × Int × Int × Int × (List Int) × (List Int)) =
    overL (ref07_Put_loop27_step base1 o2 o3 o4 o5 o6 b7 b8 b9 skip10 skip11 skip12 y52) (fun (s109 : Int × Int × Int × (List Int) × (List Int)) => let b110 : Int := s109.1; let b111 : Int := s109.2.1; let b112 : Int := s109.2.2.1; let b113 : List Int := s109.2.2.2.1; let b114 : List Int := s109.2.2.2.2; some (b110, b111, b112, b113, b114)) 0 (List.range (b7).toNat) s109 := ref07_Put_loop27_overAt base1 o2 o3 o4 o5 o6 b7 b8 b9 skip10 skip11 skip12 y52 hl 0 s109 (Nat.zero_le _)

noncomputable def ref07_Put_loop18 (base1 : Int) (o2 : Int) (o3 : Int) (o4 : Int) (o5 : Bool) (o6 : Int) (b7 : Int) (b8 : Int) (b9 : List Int) (skip10 : Int) (skip11 : Int) (skip12 : List Int) (tr49 : Int) (s51 : Int × Int × Int × Int × (List Int) × (List Int)) : Option ((Int × Int × Int × Int × (List Int) × (List Int)) ⊕ (Int × Int × Int × (List Int) × (List Int))) :=
   let y52 : Int := s51.1;
   let b53 : Int := s51.2.1;
   let b54 : Int := s51.2.2.1;
   let b55 : Int := s51.2.2.2.1;
   let b56 : List Int := s51.2.2.2.2.1;
   let b57 : List Int := s51.2.2.2.2.2;
   (if (decide (y52 < b8)) = true then
    ((if o5 = true then
      (ref07_typical b7 b8 b9 skip10 skip11 skip12 y52).bind fun (q58 : (List Int)) =>
      let t59 : Int := IntKind.i64.wrap (y52 * b7);
      let t60 : Int := IntKind.i64.wrap (y52 + 1);
      let t61 : Int := IntKind.i64.wrap (t60 * b7);
      (if 0 ≤ t61 ∧ t61 ≤ ((b9.length : Nat) : Int) then
       (if 0 ≤ t59 ∧ t59 ≤ t61 then
        let t62 : List Int := cutL b9 t59.toNat t61.toNat;
        ((if (decide (q58 = t62)) = true then
          some 1
          else
          some 0) : Option (Int)).bind (fun (same63 : Int) =>
         let t64 : Int := IntKind.i64.wrap (base1 + tr49);
         let t65 : Int := IntKind.i64.wrap (t64 - 1);
         (ref02_Encoder_Put t65 same63 b53 b54 b55 b56 b57).bind fun (q66 : Int × Int × Int × Int × (List Int) × (List Int)) =>
         let tr67 : Int := q66.1;
         let tr68 : Int := q66.2.1;
         let tr69 : Int := q66.2.2.1;
         let tr70 : Int := q66.2.2.2.1;
         let tr71 : List Int := q66.2.2.2.2.1;
         let tr72 : List Int := q66.2.2.2.2.2;
         (if (decide (same63 = 1)) = true then
          some (Sum.inr (tr68, tr69, tr70, tr71, tr72))
          else
          some (Sum.inl (tr68, tr69, tr70, tr71, tr72))))
        else
        none)
       else
       none)
      else
      some (Sum.inl (b53, b54, b55, b56, b57))) : Option ((Int × Int × Int × (List Int) × (List Int)) ⊕ (Int × Int × Int × (List Int) × (List Int)))).bind (fun (o86 : (Int × Int × Int × (List Int) × (List Int)) ⊕ (Int × Int × Int × (List Int) × (List Int))) =>
     (Sum.elim (fun (p73 : Int × Int × Int × (List Int) × (List Int)) =>
       let b74 : Int := p73.1;
       let b75 : Int := p73.2.1;
       let b76 : Int := p73.2.2.1;
       let b77 : List Int := p73.2.2.2.1;
       let b78 : List Int := p73.2.2.2.2;
       (loop (ref07_Put_loop27 base1 o2 o3 o4 o5 o6 b7 b8 b9 skip10 skip11 skip12 y52) (0, b74, b75, b76, b77, b78)).bind (fun (p115 : Int × Int × Int × (List Int) × (List Int)) =>
        let b116 : Int := p115.1;
        let b117 : Int := p115.2.1;
        let b118 : Int := p115.2.2.1;
        let b119 : List Int := p115.2.2.2.1;
        let b120 : List Int := p115.2.2.2.2;
        let t121 : Int := IntKind.i64.wrap (y52 + 1);
        some (Sum.inl (t121, b116, b117, b118, b119, b120))))
      (fun (p79 : Int × Int × Int × (List Int) × (List Int)) =>
       let b80 : Int := p79.1;
       let b81 : Int := p79.2.1;
       let b82 : Int := p79.2.2.1;
       let b83 : List Int := p79.2.2.2.1;
       let b84 : List Int := p79.2.2.2.2;
       let t85 : Int := IntKind.i64.wrap (y52 + 1);
       some (Sum.inl (t85, b80, b81, b82, b83, b84))) o86))
    else
    some (Sum.inr (b53, b54, b55, b56, b57)))
noncomputable def ref07_Put_loop18_step (base1 : Int) (o2 : Int) (o3 : Int) (o4 : Int) (o5 : Bool) (o6 : Int) (b7 : Int) (b8 : Int) (b9 : List Int) (skip10 : Int) (skip11 : Int) (skip12 : List Int) (tr49 : Int) (i122 : Nat) (x123 : Nat) (s124 : Int × Int × Int × (List Int) × (List Int)) : Option ((Int × Int × Int × (List Int) × (List Int)) ⊕ (Int × Int × Int × (List Int) × (List Int))) :=
   let b125 : Int := s124.1;
   let b126 : Int := s124.2.1;
   let b127 : Int := s124.2.2.1;
   let b128 : List Int := s124.2.2.2.1;
   let b129 : List Int := s124.2.2.2.2;
   ((if o5 = true then
     (ref07_typical b7 b8 b9 skip10 skip11 skip12 ((i122 : Nat) : Int)).bind fun (q58 : (List Int)) =>
     let t59 : Int := IntKind.i64.wrap (((i122 : Nat) : Int) * b7);
     let t60 : Int := IntKind.i64.wrap (((i122 : Nat) : Int) + 1);
     let t61 : Int := IntKind.i64.wrap (t60 * b7);
     (if 0 ≤ t61 ∧ t61 ≤ ((b9.length : Nat) : Int) then
      (if 0 ≤ t59 ∧ t59 ≤ t61 then
       let t62 : List Int := cutL b9 t59.toNat t61.toNat;
       ((if (decide (q58 = t62)) = true then
         some 1
         else
         some 0) : Option (Int)).bind (fun (same63 : Int) =>
        let t64 : Int := IntKind.i64.wrap (base1 + tr49);
        let t65 : Int := IntKind.i64.wrap (t64 - 1);
        (ref02_Encoder_Put t65 same63 b125 b126 b127 b128 b129).bind fun (q66 : Int × Int × Int × Int × (List Int) × (List Int)) =>
        let tr67 : Int := q66.1;
        let tr68 : Int := q66.2.1;
        let tr69 : Int := q66.2.2.1;
        let tr70 : Int := q66.2.2.2.1;
        let tr71 : List Int := q66.2.2.2.2.1;
        let tr72 : List Int := q66.2.2.2.2.2;
        (if (decide (same63 = 1)) = true then
         some (Sum.inr (tr68, tr69, tr70, tr71, tr72))
         else
         some (Sum.inl (tr68, tr69, tr70, tr71, tr72))))
       else
       none)
      else
      none)
     else
     some (Sum.inl (b125, b126, b127, b128, b129))) : Option ((Int × Int × Int × (List Int) × (List Int)) ⊕ (Int × Int × Int × (List Int) × (List Int)))).bind (fun (o86 : (Int × Int × Int × (List Int) × (List Int)) ⊕ (Int × Int × Int × (List Int) × (List Int))) =>
    (Sum.elim (fun (p73 : Int × Int × Int × (List Int) × (List Int)) =>
      let b74 : Int := p73.1;
      let b75 : Int := p73.2.1;
      let b76 : Int := p73.2.2.1;
      let b77 : List Int := p73.2.2.2.1;
      let b78 : List Int := p73.2.2.2.2;
      (loop (ref07_Put_loop27 base1 o2 o3 o4 o5 o6 b7 b8 b9 skip10 skip11 skip12 ((i122 : Nat) : Int)) (0, b74, b75, b76, b77, b78)).bind (fun (p115 : Int × Int × Int × (List Int) × (List Int)) =>
       let b116 : Int := p115.1;
       let b117 : Int := p115.2.1;
       let b118 : Int := p115.2.2.1;
       let b119 : List Int := p115.2.2.2.1;
       let b120 : List Int := p115.2.2.2.2;
       some (Sum.inl ((b116, b117, b118, b119, b120)))))
     (fun (p79 : Int × Int × Int × (List Int) × (List Int)) =>
      let b80 : Int := p79.1;
      let b81 : Int := p79.2.1;
      let b82 : Int := p79.2.2.1;
      let b83 : List Int := p79.2.2.2.1;
      let b84 : List Int := p79.2.2.2.2;
      some (Sum.inl ((b80, b81, b82, b83, b84)))) o86))
theorem ref07_Put_loop18_overAt (base1 : Int) (o2 : Int) (o3 : Int) (o4 : Int) (o5 : Bool) (o6 : Int) (b7 : Int) (b8 : Int) (b9 : List Int) (skip10 : Int) (skip11 : Int) (skip12 : List Int) (tr49 : Int) (hl : (List.range (b8).toNat).length ≤ 9223372036854775807) (k : Nat) (s124 : Int × Int × Int × (List Int) × (List Int)) (hk : k ≤ (List.range (b8).toNat).length) : loop (ref07_Put_loop18 base1 o2 o3 o4 o5 o6 b7 b8 b9 skip10 skip11 skip12 tr49) ((((k : Nat) : Int), s124.1, s124.2.1, s124.2.2.1, s124.2.2.2.1, s124.2.2.2.2) : Int × Int × Int × Int × (List Int) × (List Int)) =
    overL (ref07_Put_loop18_step base1 o2 o3 o4 o5 o6 b7 b8 b9 skip10 skip11 skip12 tr49) (fun (s124 : Int × Int × Int × (List Int) × (List Int)) => let b125 : Int := s124.1; let b126 : Int := s124.2.1; let b127 : Int := s124.2.2.1; let b128 : List Int := s124.2.2.2.1; let b129 : List Int := s124.2.2.2.2; some (b125, b126, b127, b128, b129)) k ((List.range (b8).toNat).drop k) s124 := by
  refine loop_over (List.range (b8).toNat) (fun n (s : Int × Int × Int × (List Int) × (List Int)) => ((((n : Nat) : Int), s.1, s.2.1, s.2.2.1, s.2.2.2.1, s.2.2.2.2) : Int × Int × Int × Int × (List Int) × (List Int))) _ _ (fun s => ?_) (fun i x s h => ?_) k s124 hk
  · have h1 : ¬ (((List.range (b8).toNat).length : Nat) : Int) < b8 := by simp only [List.length_range]; omega
    unfold ref07_Put_loop18; simp only [h1, decide_false, Bool.false_eq_true, if_false, Option.map_some]
  · have hlt := lt_len_of_get h
    rw [List.length_range] at hlt hl
    rw [List.getElem?_range hlt] at h
    cases h
    have h1 : ((i : Nat) : Int) < b8 := by omega
    have h0 : (0 : Int) ≤ ((i : Nat) : Int) := by omega
    have hw : IntKind.i64.wrap (((i : Nat) : Int) + 1) = (((i + 1 : Nat) : Nat) : Int) := w64 (by omega)
    unfold ref07_Put_loop18 ref07_Put_loop18_step
    simp only [h1, h0, hw, decide_true, if_true, and_self, true_and, Int.toNat_natCast, Option.bind_some, Option.map_bind, Function.comp_def, map_ite, map_elim, Option.map_some, Option.map_none]
theorem ref07_Put_loop18_over (base1 : Int) (o2 : Int) (o3 : Int) (o4 : Int) (o5 : Bool) (o6 : Int) (b7 : Int) (b8 : Int) (b9 : List Int) (skip10 : Int) (skip11 : Int) (skip12 : List Int) (tr49 : Int) (hl : (List.range (b8).toNat).length ≤ 9223372036854775807) (s124 : Int × Int × Int × (List Int) × (List Int)) : loop (ref07_Put_loop18 base1 o2 o3 o4 o5 o6 b7 b8 b9 skip10 skip11 skip12 tr49) ((0, s124.1, s124.2.1, s124.2.2.1, s124.2.2.2.1, s124.2.2.2.2) : Int × Int × Int × Int × (List Int) × (List Int)) =
    overL (ref07_Put_loop18_step base1 o2 o3 o4 o5 o6 b7 b8 b9 skip10 skip11 skip12 tr49) (fun (s124 : Int × Int × Int × (List Int) × (List Int)) => let b125 : Int := s124.1; let b126 : Int := s124.2.1; let b127 : Int := s124.2.2.1; let b128 : List Int := s124.2.2.2.1; let b129 : List Int := s124.2.2.2.2; some (b125, b126, b127, b128, b129)) 0 (List.range (b8).toNat) s124 := ref07_Put_loop18_overAt base1 o2 o3 o4 o5 o6 b7 b8 b9 skip10 skip11 skip12 tr49 hl 0 s124 (Nat.zero_le _)

theorem ref07_Put_eq (base1 : Int) (o2 : Int) (o3 : Int) (o4 : Int) (o5 : Bool) (o6 : Int) (b7 : Int) (b8 : Int) (b9 : List Int) (skip10 : Int) (skip11 : Int) (skip12 : List Int) (b13 : Int) (b14 : Int) (b15 : Int) (b16 : List Int) (b17 : List Int) : ref07_Put base1 o2 o3 o4 o5 o6 b7 b8 b9 skip10 skip11 skip12 b13 b14 b15 b16 b17 =
   (ref07_Valid o2 o3 o4 o5 o6).bind fun (q18 : Bool) =>
   (if (!q18) = true then
    some (2, b13, b14, b15, b16, b17)
    else
    ((ref05_Valid b7 b8 b9).bind fun (q19 : Bool) =>
     (if (!q19) = true then
      some true
      else
      (ref05_Valid skip10 skip11 skip12).bind fun (q20 : Bool) =>
      some (!q20)) : Option (Bool)).bind (fun (v21 : Bool) =>
     (if v21 = true then
      some (30, b13, b14, b15, b16, b17)
      else
      (loop (ref07_Put_loop6 b7 b8 b9 skip10 skip11 skip12) 0).bind (fun (o38 : (Unit) ⊕ (Int)) =>
       (Sum.elim (fun (p36 : Unit) =>
         (ref02_Encoder_Model b13 b14 b15 b16 b17).bind fun (q39 : Int × (List Int) × Int × Int × Int × (List Int) × (List Int)) =>
         let tr40 : Int := q39.1;
         let tr41 : List Int := q39.2.1;
         let tr42 : Int := q39.2.2.1;
         let tr43 : Int := q39.2.2.2.1;
         let tr44 : Int := q39.2.2.2.2.1;
         let tr45 : List Int := q39.2.2.2.2.2.1;
         let tr46 : List Int := q39.2.2.2.2.2.2;
         (ref07_room o2 o3 o4 o5 o6 base1 ((tr41.length : Nat) : Int) b7 b8 skip10 skip11 skip12).bind fun (q47 : Int) =>
         (if (!decide (q47 = 0)) = true then
          some (q47, tr42, tr43, tr44, tr45, tr46)
          else
          (ref07_Size o2 o3 o4 o5 o6).bind fun (q48 : Int × Int) =>
          let tr49 : Int := q48.1;
          let tr50 : Int := q48.2;
          (loop (ref07_Put_loop18 base1 o2 o3 o4 o5 o6 b7 b8 b9 skip10 skip11 skip12 tr49) (0, tr42, tr43, tr44, tr45, tr46)).bind (fun (p130 : Int × Int × Int × (List Int) × (List Int)) =>
           let b131 : Int := p130.1;
           let b132 : Int := p130.2.1;
           let b133 : Int := p130.2.2.1;
           let b134 : List Int := p130.2.2.2.1;
           let b135 : List Int := p130.2.2.2.2;
           some (0, b131, b132, b133, b134, b135))))
        (fun (v37 : Int) =>
         some (v37, b13, b14, b15, b16, b17)) o38))))) := (call_eq ..).trans (by kernel_rfl)

theorem ref02_Encoder_End_eq (b1 : Int) (b2 : Int) (b3 : Int) (b4 : List Int) (b5 : List Int) : ref02_Encoder_End b1 b2 b3 b4 b5 =
   (if (([] : List Int).length + b5.length) * 1 ≤ 140737488355328 then
    let t6 : List Int := ([] : List Int) ++ b5;
    (ref02_Interval_End b2 b3).bind fun (q7 : (List Int)) =>
    (if (t6.length + q7.length) * 1 ≤ 140737488355328 then
     let t8 : List Int := t6 ++ q7;
     some (t8, b1, b2, b3, b4, b5)
     else
     none)
    else
    none) := (call_eq ..).trans (by kernel_rfl)

theorem ref01_Signed_eq (n1 : Int) : ref01_Signed n1 =
   ((if (decide (n1 < (-1073741824))) = true then
     some true
     else
     some (decide (n1 ≥ 1073741824))) : Option (Bool)).bind (fun (v2 : Bool) =>
    (if v2 = true then
     some ([], 2)
     else
     (if (decide (n1 < 0)) = true then
      let t3 : Int := IntKind.i64.wrap ((-2) * n1);
      let t4 : Int := IntKind.i64.wrap (t3 - 1);
      (ref01_Size t4).bind fun (q5 : (List Int) × Int) =>
      let tr6 : List Int := q5.1;
      let tr7 : Int := q5.2;
      some (tr6, tr7)
      else
      let t8 : Int := IntKind.i64.wrap (2 * n1);
      (ref01_Size t8).bind fun (q9 : (List Int) × Int) =>
      let tr10 : List Int := q9.1;
      let tr11 : Int := q9.2;
      some (tr10, tr11)))) := (call_eq ..).trans (by kernel_rfl)

theorem generic_Valid_eq (o1 : Int) (o2 : Int) (o3 : Int) (o4 : Bool) (o5 : Int) : generic_Valid o1 o2 o3 o4 o5 =
   (if 0 ≤ (0 : Int) ∧ (0 : Int) < ((2 : Nat) : Int) then
    (if 0 ≤ (1 : Int) ∧ (1 : Int) < ((2 : Nat) : Int) then
     (if (decide (o1 ≥ 0)) = true then
      (if (decide (o1 ≤ 3)) = true then
       (if (decide (o5 = 0)) = true then
        (if (decide (o2 ≥ (-8))) = true then
         (if (decide (o2 ≤ 8)) = true then
          (if (decide (o3 ≥ (-8))) = true then
           (if (decide (o3 ≤ 0)) = true then
            (if (decide (o3 < 0)) = true then
             some true
             else
             some (decide (o2 < 0)))
            else
            some false)
           else
           some false)
          else
          some false)
         else
         some false)
        else
        (if (decide (o5 = 1)) = true then
         (if (decide (o2 ≥ (-8))) = true then
          (if (decide (o2 ≤ 8)) = true then
           (if (decide (o3 ≥ (-8))) = true then
            (if (decide (o3 ≤ 0)) = true then
             (if (decide (o3 < 0)) = true then
              some true
              else
              some (decide (o2 < 0)))
             else
             some false)
            else
            some false)
           else
           some false)
          else
          some false)
         else
         some false))
       else
       some false)
      else
      some false)
     else
     none)
    else
    none) := (call_eq ..).trans (by kernel_rfl)

noncomputable def bitmap_Valid_loop4 (b3 : List Int) (v7 : Int) : Option ((Int) ⊕ ((Unit) ⊕ (Bool))) :=
   (if (decide (v7 < ((b3.length : Nat) : Int))) = true then
    (if 0 ≤ v7 ∧ v7 < (b3.length : Int) then
     (if (decide (rd b3 v7 > 1)) = true then
      some (Sum.inr (Sum.inr false))
      else
      let t8 : Int := IntKind.i64.wrap (v7 + 1);
      some (Sum.inl t8))
     else
     none)
    else
    some (Sum.inr (Sum.inl ())))
noncomputable def bitmap_Valid_loop4_step (i9 : Nat) (x10 : Int) (s11 : Unit) : Option ((Unit) ⊕ ((Unit) ⊕ (Bool))) :=
   (if (decide (x10 > 1)) = true then
    some (Sum.inr (Sum.inr false))
    else
    some (Sum.inl (())))
theorem bitmap_Valid_loop4_overAt (b3 : List Int) (hl : b3.length ≤ 9223372036854775807) (k : Nat) (s11 : Unit) (hk : k ≤ b3.length) : loop (bitmap_Valid_loop4 b3) (((k : Nat) : Int) : Int) =
    overL (bitmap_Valid_loop4_step) (fun (s11 : Unit) => some (Sum.inl ())) k (b3.drop k) s11 := by
  refine loop_over b3 (fun n (s : Unit) => (((n : Nat) : Int) : Int)) _ _ (fun s => ?_) (fun i x s h => ?_) k s11 hk
  · unfold bitmap_Valid_loop4; simp
  · have hlt := lt_len_of_get h
    have h1 : ((i : Nat) : Int) < ((b3.length : Nat) : Int) := by omega
    have h0 : (0 : Int) ≤ ((i : Nat) : Int) := by omega
    have hw : IntKind.i64.wrap (((i : Nat) : Int) + 1) = (((i + 1 : Nat) : Nat) : Int) := w64 (by omega)
    have hr : rd b3 ((i : Nat) : Int) = x := rd_nat h
    unfold bitmap_Valid_loop4 bitmap_Valid_loop4_step
    simp only [h1, h0, hw, h, hr, decide_true, if_true, and_self, true_and, Int.toNat_natCast, Option.bind_some, Option.map_bind, Function.comp_def, map_ite, map_elim, Option.map_some, Option.map_none]
theorem bitmap_Valid_loop4_over (b3 : List Int) (hl : b3.length ≤ 9223372036854775807) (s11 : Unit) : loop (bitmap_Valid_loop4 b3) (0 : Int) =
    overL (bitmap_Valid_loop4_step) (fun (s11 : Unit) => some (Sum.inl ())) 0 b3 s11 := bitmap_Valid_loop4_overAt b3 hl 0 s11 (Nat.zero_le _)

theorem bitmap_Valid_eq (b1 : Int) (b2 : Int) (b3 : List Int) : bitmap_Valid b1 b2 b3 =
   ((bitmap_fits b1 b2).bind fun (q4 : Bool) =>
    (if (!q4) = true then
     some true
     else
     let t5 : Int := IntKind.i64.wrap (b1 * b2);
     some (!decide (((b3.length : Nat) : Int) = t5))) : Option (Bool)).bind (fun (v6 : Bool) =>
    (if v6 = true then
     some false
     else
     (loop (bitmap_Valid_loop4 b3) 0).bind (fun (o14 : (Unit) ⊕ (Bool)) =>
      (Sum.elim (fun (p12 : Unit) =>
        some true)
       (fun (v13 : Bool) =>
        some v13) o14)))) := (call_eq ..).trans (by kernel_rfl)

theorem tone_rightSides_eq (w1 : Int) (h2 : Int) : tone_rightSides w1 h2 =
   (if (decide (w1 ≥ 1)) = true then
    (if (decide (w1 ≤ 16)) = true then
     (if (decide (h2 ≥ 1)) = true then
      some (decide (h2 ≤ 16))
      else
      some false)
     else
     some false)
    else
    some false) := (call_eq ..).trans (by kernel_rfl)

theorem bitmap_isShift_eq (x1 : Int) (y2 : Int) : bitmap_isShift x1 y2 =
   let t3 : Int := imin x1 y2;
   (if (decide (t3 ≥ (-100000))) = true then
    let t4 : Int := imax x1 y2;
    some (decide (t4 ≤ 100000))
    else
    some false) := (call_eq ..).trans (by kernel_rfl)

theorem bitmap_clone_eq (b1 : Int) (b2 : Int) (b3 : List Int) : bitmap_clone b1 b2 b3 =
   (bytes_Clone b3).bind fun (q4 : (List Int)) =>
   some (b1, b2, q4) := (call_eq ..).trans (by kernel_rfl)

theorem bitmap_at_eq (b1 : Int) (b2 : Int) (b3 : List Int) (x4 : Int) (y5 : Int) : bitmap_at b1 b2 b3 x4 y5 =
   ((if (decide (x4 < 0)) = true then
     some true
     else
     (if (decide (y5 < 0)) = true then
      some true
      else
      (if (decide (x4 ≥ b1)) = true then
       some true
       else
       some (decide (y5 ≥ b2))))) : Option (Bool)).bind (fun (v6 : Bool) =>
    (if v6 = true then
     some 0
     else
     let t7 : Int := IntKind.i64.wrap (y5 * b1);
     let t8 : Int := IntKind.i64.wrap (t7 + x4);
     (if 0 ≤ t8 ∧ t8 < (b3.length : Int) then
      some (rd b3 t8)
      else
      none))) := (call_eq ..).trans (by kernel_rfl)

theorem bitmap_combine_eq (a1 : Int) (b2 : Int) (op3 : Int) : bitmap_combine a1 b2 op3 =
   (if (decide (op3 = 1)) = true then
    let t4 : Int := ior .u8 a1 b2;
    some t4
    else
    (if (decide (op3 = 2)) = true then
     let t5 : Int := iand .u8 a1 b2;
     some t5
     else
     (if (decide (op3 = 3)) = true then
      let t6 : Int := ixor .u8 a1 b2;
      some t6
      else
      (if (decide (op3 = 4)) = true then
       let t7 : Int := IntKind.u8.wrap (1 - a1);
       let t8 : Int := ixor .u8 t7 b2;
       some t8
       else
       some b2)))) := (call_eq ..).trans (by kernel_rfl)

theorem generic_contexts_eq (o1 : Int) (o2 : Int) (o3 : Int) (o4 : Bool) (o5 : Int) : generic_contexts o1 o2 o3 o4 o5 =
   (generic_pixels o1).bind fun (q6 : (List Arr2)) =>
   (if ((q6.length : Nat) : Int) < 0 then
    none
    else
    let t7 : Int := ishl .i64 2 ((q6.length : Nat) : Int);
    some t7) := (call_eq ..).trans (by kernel_rfl)
end
end Go.Proofs.YtkccnhkhjncpkaaGreat.P
