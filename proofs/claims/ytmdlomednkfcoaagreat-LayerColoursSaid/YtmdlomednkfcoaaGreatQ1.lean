/- The equations of functions. Printed by wip/tool/vsym.py. -/
import Derived.Test.YtmdlomednkfcoaaGreatG
import Derived.Test.YtmdlomednkfcoaaGreatLib
namespace Go.Proofs.YtmdlomednkfcoaaGreat.P
open Go Go.Proofs.YtmdlomednkfcoaaGreat.V
set_option linter.unusedVariables false
set_option linter.unusedSimpArgs false
set_option maxRecDepth 100000
noncomputable section
noncomputable def ref05_Valid_loop4 (b3 : List Int) (i7 : Int) : Option ((Int) ⊕ ((Unit) ⊕ (Bool))) :=
   (if (decide (i7 < ((b3.length : Nat) : Int))) = true then
    (if 0 ≤ i7 ∧ i7 < (b3.length : Int) then
     (if (decide (rd b3 i7 > 1)) = true then
      some (Sum.inr (Sum.inr false))
      else
      let t8 := IntKind.i64.wrap (i7 + 1);
      some (Sum.inl t8))
     else
     none)
    else
    some (Sum.inr (Sum.inl ())))
noncomputable def ref05_Valid_loop4_step (i9 : Nat) (x10 : Int) (s11 : Unit) : Option ((Unit) ⊕ ((Unit) ⊕ (Bool))) :=
   (if (decide (x10 > 1)) = true then
    some (Sum.inr (Sum.inr false))
    else
    some (Sum.inl (())))
theorem ref05_Valid_loop4_over (b3 : List Int) (hl : b3.length ≤ 9223372036854775807) (s11 : Unit) : loop (ref05_Valid_loop4 b3) (0 : Int) =
    overL (ref05_Valid_loop4_step) (fun (s11 : Unit) => some (Sum.inl ())) 0 b3 s11 := by
  refine loop_over b3 (fun n (s : Unit) => (((n : Nat) : Int) : Int)) _ _ (fun s => ?_) (fun i x s h => ?_) 0 s11 (Nat.zero_le _)
  · unfold ref05_Valid_loop4; simp
  · have hlt := lt_len_of_get h
    have h1 : ((i : Nat) : Int) < ((b3.length : Nat) : Int) := by omega
    have h0 : (0 : Int) ≤ ((i : Nat) : Int) := by omega
    have hw : IntKind.i64.wrap (((i : Nat) : Int) + 1) = (((i + 1 : Nat) : Nat) : Int) := w64 (by omega)
    have hr : rd b3 ((i : Nat) : Int) = x := rd_nat h
    unfold ref05_Valid_loop4 ref05_Valid_loop4_step
    simp only [h1, h0, hw, h, hr, decide_true, if_true, and_self, true_and, Int.toNat_natCast, Option.bind_some, Option.map_bind, Function.comp_def, map_ite, map_elim, Option.map_some, Option.map_none]

theorem ref05_Valid_eq (b1 b2 : Int) (b3 : List Int) : ref05_Valid b1 b2 b3 =
   ((ref05_Sides b1 b2).bind fun q4 =>
    (if (!q4) = true then
     some true
     else
     let t5 := IntKind.i64.wrap (b1 * b2);
     some (!decide (((b3.length : Nat) : Int) = t5))) : Option (Bool)).bind (fun v6 =>
    (if v6 = true then
     some false
     else
     (loop (ref05_Valid_loop4 b3) 0).bind (fun o14 =>
      (Sum.elim (fun (p12 : Unit) =>
        some true)
       (fun (v13 : Bool) =>
        some v13) o14)))) := (call_eq ..).trans (by kernel_rfl)

noncomputable def ref15_Marks_loop4 (b1 b2 : Int) (b3 : List Int) (s5 : Int × Int × (List Int)) : Option ((Int × Int × (List Int)) ⊕ (Int × (List Int))) :=
   let n6 := s5.1;
   let i7 := s5.2.1;
   let b8 := s5.2.2;
   (if (decide (i7 < ((b3.length : Nat) : Int))) = true then
    ((if 0 ≤ i7 ∧ i7 < (b3.length : Int) then
      (if (decide (rd b3 i7 = 1)) = true then
       (if 0 ≤ i7 ∧ i7 < (b8.length : Int) then
        let t9 : Int := rd b8 i7;
        some (decide (t9 = 0))
        else
        none)
       else
       some false)
      else
      none) : Option (Bool)).bind (fun v10 =>
     (if v10 = true then
      let t11 := IntKind.i64.wrap (n6 + 1);
      (ref15_spread b1 b2 b3 i7 t11 1 true b8).bind fun q12 =>
      let tr13 := q12.1;
      let tr14 := q12.2;
      let t15 := IntKind.i64.wrap (i7 + 1);
      some (Sum.inl (t11, t15, tr14))
      else
      let t16 := IntKind.i64.wrap (i7 + 1);
      some (Sum.inl (n6, t16, b8))))
    else
    some (Sum.inr (n6, b8)))
noncomputable def ref15_Marks_loop4_step (b1 b2 : Int) (b3 : List Int) (i17 : Nat) (x18 : Int) (s19 : Int × (List Int)) : Option ((Int × (List Int)) ⊕ (Int × (List Int))) :=
   let n20 := s19.1;
   let b21 := s19.2;
   ((if (decide (x18 = 1)) = true then
     (if 0 ≤ ((i17 : Nat) : Int) ∧ ((i17 : Nat) : Int) < (b21.length : Int) then
      let t9 : Int := rd b21 ((i17 : Nat) : Int);
      some (decide (t9 = 0))
      else
      none)
     else
     some false) : Option (Bool)).bind (fun v10 =>
    (if v10 = true then
     let t11 := IntKind.i64.wrap (n20 + 1);
     (ref15_spread b1 b2 b3 ((i17 : Nat) : Int) t11 1 true b21).bind fun q12 =>
     let tr13 := q12.1;
     let tr14 := q12.2;
     some (Sum.inl ((t11, tr14)))
     else
     some (Sum.inl ((n20, b21)))))
theorem ref15_Marks_loop4_over (b1 b2 : Int) (b3 : List Int) (hl : b3.length ≤ 9223372036854775807) (s19 : Int × (List Int)) : loop (ref15_Marks_loop4 b1 b2 b3) ((s19.1, 0, s19.2) : Int × Int × (List Int)) =
    overL (ref15_Marks_loop4_step b1 b2 b3) (fun (s19 : Int × (List Int)) => let n20 := s19.1; let b21 := s19.2; some (n20, b21)) 0 b3 s19 := by
  refine loop_over b3 (fun n (s : Int × (List Int)) => ((s.1, ((n : Nat) : Int), s.2) : Int × Int × (List Int))) _ _ (fun s => ?_) (fun i x s h => ?_) 0 s19 (Nat.zero_le _)
  · unfold ref15_Marks_loop4; simp
  · have hlt := lt_len_of_get h
    have h1 : ((i : Nat) : Int) < ((b3.length : Nat) : Int) := by omega
    have h0 : (0 : Int) ≤ ((i : Nat) : Int) := by omega
    have hw : IntKind.i64.wrap (((i : Nat) : Int) + 1) = (((i + 1 : Nat) : Nat) : Int) := w64 (by omega)
    have hr : rd b3 ((i : Nat) : Int) = x := rd_nat h
    unfold ref15_Marks_loop4 ref15_Marks_loop4_step
    simp only [h1, h0, hw, h, hr, decide_true, if_true, and_self, true_and, Int.toNat_natCast, Option.bind_some, Option.map_bind, Function.comp_def, map_ite, map_elim, Option.map_some, Option.map_none]

theorem ref15_Marks_eq (b1 b2 : Int) (b3 : List Int) : ref15_Marks b1 b2 b3 =
   (if 0 ≤ ((b3.length : Nat) : Int) ∧ ((b3.length : Nat) : Int) ≤ ((b3.length : Nat) : Int) ∧ ((8 : Nat) : Int) * ((b3.length : Nat) : Int) ≤ 281474976710656 then
    let t4 : List Int := List.replicate ((b3.length : Nat) : Int).toNat 0;
    (loop (ref15_Marks_loop4 b1 b2 b3) (0, 0, t4)).bind (fun p22 =>
     let n23 := p22.1;
     let b24 := p22.2;
     some (b24, n23))
    else
    none) := (call_eq ..).trans (by kernel_rfl)

theorem ref05_Copy_eq (b1 b2 : Int) (b3 : List Int) : ref05_Copy b1 b2 b3 =
   (if (([] : List Int).length + b3.length) * 1 ≤ 140737488355328 then
    let t4 : List Int := ([] : List Int) ++ b3;
    some (b1, b2, t4)
    else
    none) := (call_eq ..).trans (by kernel_rfl)

noncomputable def ref05_Trim_loop8 (b1 b2 : Int) (b3 : List Int) (y10 : Int) (s11 : Int × Int × Int × Int × Int) : Option ((Int × Int × Int × Int × Int) ⊕ (Int × Int × Int × Int)) :=
   let left12 := s11.1;
   let top13 := s11.2.1;
   let right14 := s11.2.2.1;
   let bottom15 := s11.2.2.2.1;
   let x16 := s11.2.2.2.2;
   (if (decide (x16 < b1)) = true then
    (ref05_At b1 b2 b3 x16 y10).bind fun q17 =>
    (if (decide (q17 = 1)) = true then
     let t18 := imin left12 x16;
     let t19 := imin top13 y10;
     let t20 := imax right14 x16;
     let t21 := imax bottom15 y10;
     let t22 := IntKind.i64.wrap (x16 + 1);
     some (Sum.inl (t18, t19, t20, t21, t22))
     else
     let t23 := IntKind.i64.wrap (x16 + 1);
     some (Sum.inl (left12, top13, right14, bottom15, t23)))
    else
    some (Sum.inr (left12, top13, right14, bottom15)))
noncomputable def ref05_Trim_loop8_step (b1 b2 : Int) (b3 : List Int) (y10 : Int) (i24 x25 : Nat) (s26 : Int × Int × Int × Int) : Option ((Int × Int × Int × Int) ⊕ (Int × Int × Int × Int)) :=
   let left27 := s26.1;
   let top28 := s26.2.1;
   let right29 := s26.2.2.1;
   let bottom30 := s26.2.2.2;
   (ref05_At b1 b2 b3 ((i24 : Nat) : Int) y10).bind fun q17 =>
   (if (decide (q17 = 1)) = true then
    let t18 := imin left27 ((i24 : Nat) : Int);
    let t19 := imin top28 y10;
    let t20 := imax right29 ((i24 : Nat) : Int);
    let t21 := imax bottom30 y10;
    some (Sum.inl ((t18, t19, t20, t21)))
    else
    some (Sum.inl ((left27, top28, right29, bottom30))))
theorem ref05_Trim_loop8_over (b1 b2 : Int) (b3 : List Int) (y10 : Int) (hl : (List.range (b1).toNat).length ≤ 9223372036854775807) (s26 : Int × Int × Int × Int) : loop (ref05_Trim_loop8 b1 b2 b3 y10) ((s26.1, s26.2.1, s26.2.2.1, s26.2.2.2, 0) : Int × Int × Int × Int × Int) =
    overL (ref05_Trim_loop8_step b1 b2 b3 y10) (fun (s26 : Int × Int × Int × Int) => let left27 := s26.1; let top28 := s26.2.1; let right29 := s26.2.2.1; let bottom30 := s26.2.2.2; some (left27, top28, right29, bottom30)) 0 (List.range (b1).toNat) s26 := by
  refine loop_over (List.range (b1).toNat) (fun n (s : Int × Int × Int × Int) => ((s.1, s.2.1, s.2.2.1, s.2.2.2, ((n : Nat) : Int)) : Int × Int × Int × Int × Int)) _ _ (fun s => ?_) (fun i x s h => ?_) 0 s26 (Nat.zero_le _)
  · have h1 : ¬ (((List.range (b1).toNat).length : Nat) : Int) < b1 := by simp only [List.length_range]; omega
    unfold ref05_Trim_loop8; simp only [h1, decide_false, Bool.false_eq_true, if_false, Option.map_some]
  · have hlt := lt_len_of_get h
    rw [List.length_range] at hlt hl
    rw [List.getElem?_range hlt] at h
    cases h
    have h1 : ((i : Nat) : Int) < b1 := by omega
    have h0 : (0 : Int) ≤ ((i : Nat) : Int) := by omega
    have hw : IntKind.i64.wrap (((i : Nat) : Int) + 1) = (((i + 1 : Nat) : Nat) : Int) := w64 (by omega)
    unfold ref05_Trim_loop8 ref05_Trim_loop8_step
    simp only [h1, h0, hw, decide_true, if_true, and_self, true_and, Int.toNat_natCast, Option.bind_some, Option.map_bind, Function.comp_def, map_ite, map_elim, Option.map_some, Option.map_none]

noncomputable def ref05_Trim_loop5 (b1 b2 : Int) (b3 : List Int) (s5 : Int × Int × Int × Int × Int) : Option ((Int × Int × Int × Int × Int) ⊕ (Int × Int × Int × Int)) :=
   let left6 := s5.1;
   let top7 := s5.2.1;
   let right8 := s5.2.2.1;
   let bottom9 := s5.2.2.2.1;
   let y10 := s5.2.2.2.2;
   (if (decide (y10 < b2)) = true then
    (loop (ref05_Trim_loop8 b1 b2 b3 y10) (left6, top7, right8, bottom9, 0)).bind (fun p31 =>
     let left32 := p31.1;
     let top33 := p31.2.1;
     let right34 := p31.2.2.1;
     let bottom35 := p31.2.2.2;
     let t36 := IntKind.i64.wrap (y10 + 1);
     some (Sum.inl (left32, top33, right34, bottom35, t36)))
    else
    some (Sum.inr (left6, top7, right8, bottom9)))
noncomputable def ref05_Trim_loop5_step (b1 b2 : Int) (b3 : List Int) (i37 x38 : Nat) (s39 : Int × Int × Int × Int) : Option ((Int × Int × Int × Int) ⊕ (Int × Int × Int × Int)) :=
   let left40 := s39.1;
   let top41 := s39.2.1;
   let right42 := s39.2.2.1;
   let bottom43 := s39.2.2.2;
   (loop (ref05_Trim_loop8 b1 b2 b3 ((i37 : Nat) : Int)) (left40, top41, right42, bottom43, 0)).bind (fun p31 =>
    let left32 := p31.1;
    let top33 := p31.2.1;
    let right34 := p31.2.2.1;
    let bottom35 := p31.2.2.2;
    some (Sum.inl ((left32, top33, right34, bottom35))))
theorem ref05_Trim_loop5_over (b1 b2 : Int) (b3 : List Int) (hl : (List.range (b2).toNat).length ≤ 9223372036854775807) (s39 : Int × Int × Int × Int) : loop (ref05_Trim_loop5 b1 b2 b3) ((s39.1, s39.2.1, s39.2.2.1, s39.2.2.2, 0) : Int × Int × Int × Int × Int) =
    overL (ref05_Trim_loop5_step b1 b2 b3) (fun (s39 : Int × Int × Int × Int) => let left40 := s39.1; let top41 := s39.2.1; let right42 := s39.2.2.1; let bottom43 := s39.2.2.2; some (left40, top41, right42, bottom43)) 0 (List.range (b2).toNat) s39 := by
  refine loop_over (List.range (b2).toNat) (fun n (s : Int × Int × Int × Int) => ((s.1, s.2.1, s.2.2.1, s.2.2.2, ((n : Nat) : Int)) : Int × Int × Int × Int × Int)) _ _ (fun s => ?_) (fun i x s h => ?_) 0 s39 (Nat.zero_le _)
  · have h1 : ¬ (((List.range (b2).toNat).length : Nat) : Int) < b2 := by simp only [List.length_range]; omega
    unfold ref05_Trim_loop5; simp only [h1, decide_false, Bool.false_eq_true, if_false, Option.map_some]
  · have hlt := lt_len_of_get h
    rw [List.length_range] at hlt hl
    rw [List.getElem?_range hlt] at h
    cases h
    have h1 : ((i : Nat) : Int) < b2 := by omega
    have h0 : (0 : Int) ≤ ((i : Nat) : Int) := by omega
    have hw : IntKind.i64.wrap (((i : Nat) : Int) + 1) = (((i + 1 : Nat) : Nat) : Int) := w64 (by omega)
    unfold ref05_Trim_loop5 ref05_Trim_loop5_step
    simp only [h1, h0, hw, decide_true, if_true, and_self, true_and, Int.toNat_natCast, Option.bind_some, Option.map_bind, Function.comp_def, map_ite, map_elim, Option.map_some, Option.map_none]

theorem ref05_Trim_eq (b1 b2 : Int) (b3 : List Int) : ref05_Trim b1 b2 b3 =
   (ref05_Valid b1 b2 b3).bind fun q4 =>
   (if (!q4) = true then
    some (0, 0, [], 0, 0, 30)
    else
    (loop (ref05_Trim_loop5 b1 b2 b3) (b1, b2, (-1), (-1), 0)).bind (fun p44 =>
     let left45 := p44.1;
     let top46 := p44.2.1;
     let right47 := p44.2.2.1;
     let bottom48 := p44.2.2.2;
     (if (decide (right47 < 0)) = true then
      some (0, 0, [], 0, 0, 0)
      else
      let t49 := IntKind.i64.wrap (right47 - left45);
      let t50 := IntKind.i64.wrap (t49 + 1);
      let t51 := IntKind.i64.wrap (bottom48 - top46);
      let t52 := IntKind.i64.wrap (t51 + 1);
      (ref05_Part b1 b2 b3 left45 top46 t50 t52).bind fun q53 =>
      let tr54 := q53.1;
      let tr55 := q53.2.1;
      let tr56 := q53.2.2;
      some (tr54, tr55, tr56, left45, top46, 0)))) := (call_eq ..).trans (by kernel_rfl)

theorem ref06_Pix_eq (b1 b2 : Int) (b3 : List Int) (x4 y5 : Int) : ref06_Pix b1 b2 b3 x4 y5 =
   ((if (decide (x4 < 0)) = true then
     some true
     else
     (if (decide (y5 < 0)) = true then
      some true
      else
      (if (decide (x4 ≥ b1)) = true then
       some true
       else
       some (decide (y5 ≥ b2))))) : Option (Bool)).bind (fun v6 =>
    (if v6 = true then
     some 0
     else
     let t7 := IntKind.i64.wrap (y5 * b1);
     let t8 := IntKind.i64.wrap (t7 + x4);
     (if 0 ≤ t8 ∧ t8 < (b3.length : Int) then
      some (rd b3 t8)
      else
      none))) := (call_eq ..).trans (by kernel_rfl)

theorem ref19_Mean_eq (s1 n2 : Int) : ref19_Mean s1 n2 =
   let t3 := IntKind.i64.wrap (2 * s1);
   let t4 := IntKind.i64.wrap (t3 + n2);
   let t5 := IntKind.i64.wrap (2 * n2);
   (ref19_Down t4 t5).bind fun q6 =>
   some q6 := (call_eq ..).trans (by kernel_rfl)

theorem colour_isValue_eq (v1 : Int) : colour_isValue v1 =
   (if (decide (v1 ≥ 0)) = true then
    some (decide (v1 ≤ 255))
    else
    some false) := (call_eq ..).trans (by kernel_rfl)

theorem colour_blank_eq (w1 h2 : Int) : colour_blank w1 h2 =
   let t3 := IntKind.i64.wrap (w1 * h2);
   (if 0 ≤ t3 ∧ t3 ≤ t3 ∧ ((8 : Nat) : Int) * t3 ≤ 281474976710656 then
    let t4 : List Int := List.replicate t3.toNat 0;
    (if 0 ≤ t3 ∧ t3 ≤ t3 ∧ ((8 : Nat) : Int) * t3 ≤ 281474976710656 then
     let t5 : List Int := List.replicate t3.toNat 0;
     (if 0 ≤ t3 ∧ t3 ≤ t3 ∧ ((8 : Nat) : Int) * t3 ≤ 281474976710656 then
      let t6 : List Int := List.replicate t3.toNat 0;
      some (w1, h2, t4, t5, t6)
      else
      none)
     else
     none)
    else
    none) := (call_eq ..).trans (by kernel_rfl)

theorem colour_set_eq (at1 r2 g3 b4 b5 b6 : Int) (b7 b8 b9 : List Int) : colour_set at1 r2 g3 b4 b5 b6 b7 b8 b9 =
   (if 0 ≤ at1 ∧ at1 < (b7.length : Int) then
    let w10 : List Int := b7.set at1.toNat r2;
    (if 0 ≤ at1 ∧ at1 < (b8.length : Int) then
     let w11 : List Int := b8.set at1.toNat g3;
     (if 0 ≤ at1 ∧ at1 < (b9.length : Int) then
      let w12 : List Int := b9.set at1.toNat b4;
      some (b5, b6, w10, w11, w12)
      else
      none)
     else
     none)
    else
    none) := (call_eq ..).trans (by kernel_rfl)

theorem colour_near_eq (n1 : Int) : colour_near n1 =
   (if (decide (n1 ≥ (-100000))) = true then
    some (decide (n1 ≤ 100000))
    else
    some false) := (call_eq ..).trans (by kernel_rfl)

theorem colour_own_eq (i1 i2 : Int) (i3 i4 i5 : List Int) : colour_own i1 i2 i3 i4 i5 =
   (slices_Clone_int_int i3).bind fun q6 =>
   (slices_Clone_int_int i4).bind fun q7 =>
   (slices_Clone_int_int i5).bind fun q8 =>
   some (i1, i2, q6, q7, q8) := (call_eq ..).trans (by kernel_rfl)

theorem bitmap_fits_eq (w1 h2 : Int) : bitmap_fits w1 h2 =
   (if (decide (w1 ≥ 0)) = true then
    (if (decide (h2 ≥ 0)) = true then
     (if (decide (w1 ≤ 200)) = true then
      (if (decide (h2 ≤ 200)) = true then
       let t3 := IntKind.i64.wrap (w1 * h2);
       some (decide (t3 ≤ 8192))
       else
       some false)
      else
      some false)
     else
     some false)
    else
    some false) := (call_eq ..).trans (by kernel_rfl)

theorem slices_ContainsFunc_api_Rgb_api_Rgb_eq (s1 : List Rgb) : slices_ContainsFunc_api_Rgb_api_Rgb s1 =
   (slices_IndexFunc_api_Rgb_api_Rgb s1).bind fun q2 =>
   some (decide (q2 ≥ 0)) := (call_eq ..).trans (by kernel_rfl)

theorem slices_ContainsFunc_int_int_eq (s1 : List Int) (b2 b3 b4 b5 : Int) (b6 : List Int) (b7 : List Rgb) (b8 : List Int) (b9 : Int) (b10 : List (List Int)) : slices_ContainsFunc_int_int s1 b2 b3 b4 b5 b6 b7 b8 b9 b10 =
   (slices_IndexFunc_int_int s1 b2 b3 b4 b5 b6 b7 b8 b9 b10).bind fun q11 =>
   let tr12 := q11.1;
   let tr13 := q11.2.1;
   let tr14 := q11.2.2.1;
   let tr15 := q11.2.2.2.1;
   let tr16 := q11.2.2.2.2.1;
   let tr17 := q11.2.2.2.2.2.1;
   let tr18 := q11.2.2.2.2.2.2.1;
   let tr19 := q11.2.2.2.2.2.2.2.1;
   let tr20 := q11.2.2.2.2.2.2.2.2.1;
   let tr21 := q11.2.2.2.2.2.2.2.2.2;
   some (decide (tr12 ≥ 0), tr13, tr14, tr15, tr16, tr17, tr18, tr19, tr20, tr21) := (call_eq ..).trans (by kernel_rfl)

theorem slices_ContainsFunc_int_int_2_eq (s1 : List Int) : slices_ContainsFunc_int_int_2 s1 =
   (slices_IndexFunc_int_int_2 s1).bind fun q2 =>
   some (decide (q2 ≥ 0)) := (call_eq ..).trans (by kernel_rfl)

theorem shape_eight_eq : shape_eight =
   (shape_four).bind fun q1 =>
   (if (q1.length + ([(Point.mk (-1) (-1)), (Point.mk 1 (-1)), (Point.mk (-1) 1), (Point.mk 1 1)] : List Point).length) * 16 ≤ 140737488355328 then
    let t2 : List Point := q1 ++ [(Point.mk (-1) (-1)), (Point.mk 1 (-1)), (Point.mk (-1) 1), (Point.mk 1 1)];
    some t2
    else
    none) := (call_eq ..).trans (by kernel_rfl)

noncomputable def shape_flood_loop8 (b1 b2 : Int) (b3 : List Int) (steps6 : List Point) (t9 i15 : Int) (s18 : Int × (List Bool) × (List Point)) : Option ((Int × (List Bool) × (List Point)) ⊕ ((List Bool) × (List Point))) :=
   let v19 := s18.1;
   let b20 := s18.2.1;
   let out21 := s18.2.2;
   (if (decide (v19 < ((steps6.length : Nat) : Int))) = true then
    (if 0 ≤ v19 then
     (steps6[v19.toNat]?).bind fun e22 =>
     (if 0 ≤ i15 ∧ i15 < (out21.length : Int) then
      (out21[i15.toNat]?).bind fun e23 =>
      let t24 := IntKind.i64.wrap (e23.x + e22.x);
      (if 0 ≤ i15 ∧ i15 < (out21.length : Int) then
       (out21[i15.toNat]?).bind fun e25 =>
       let t26 := IntKind.i64.wrap (e25.y + e22.y);
       ((if (decide (t24 < 0)) = true then
         some true
         else
         (if (decide (t26 < 0)) = true then
          some true
          else
          (if (decide (t24 ≥ b1)) = true then
           some true
           else
           (if (decide (t26 ≥ b2)) = true then
            some true
            else
            let t27 := IntKind.i64.wrap (t26 * b1);
            let t28 := IntKind.i64.wrap (t27 + t24);
            (if 0 ≤ t28 ∧ t28 < (b20.length : Int) then
             (b20[t28.toNat]?).bind fun e29 =>
             (if e29 = true then
              some true
              else
              let t30 := IntKind.i64.wrap (t26 * b1);
              let t31 := IntKind.i64.wrap (t30 + t24);
              (if 0 ≤ t31 ∧ t31 < (b3.length : Int) then
               some (!decide (rd b3 t31 = rd b3 t9))
               else
               none))
             else
             none))))) : Option (Bool)).bind (fun v32 =>
        (if v32 = true then
         let t33 := IntKind.i64.wrap (v19 + 1);
         some (Sum.inl (t33, b20, out21))
         else
         let t34 := IntKind.i64.wrap (t26 * b1);
         let t35 := IntKind.i64.wrap (t34 + t24);
         (if 0 ≤ t35 ∧ t35 < (b20.length : Int) then
          (b20[t35.toNat]?).bind fun e36 =>
          let w37 : List Bool := b20.set t35.toNat true;
          (if (out21.length + ([(Point.mk t24 t26)] : List Point).length) * 16 ≤ 140737488355328 then
           let t38 : List Point := out21 ++ [(Point.mk t24 t26)];
           let t39 := IntKind.i64.wrap (v19 + 1);
           some (Sum.inl (t39, w37, t38))
           else
           none)
          else
          none)))
       else
       none)
      else
      none)
     else
     none)
    else
    some (Sum.inr (b20, out21)))
noncomputable def shape_flood_loop8_step (b1 b2 : Int) (b3 : List Int) (t9 i15 : Int) (i40 : Nat) (x41 : Point) (s42 : (List Bool) × (List Point)) : Option (((List Bool) × (List Point)) ⊕ ((List Bool) × (List Point))) :=
   let b43 := s42.1;
   let out44 := s42.2;
   (if 0 ≤ i15 ∧ i15 < (out44.length : Int) then
    (out44[i15.toNat]?).bind fun e23 =>
    let t24 := IntKind.i64.wrap (e23.x + x41.x);
    (if 0 ≤ i15 ∧ i15 < (out44.length : Int) then
     (out44[i15.toNat]?).bind fun e25 =>
     let t26 := IntKind.i64.wrap (e25.y + x41.y);
     ((if (decide (t24 < 0)) = true then
       some true
       else
       (if (decide (t26 < 0)) = true then
        some true
        else
        (if (decide (t24 ≥ b1)) = true then
         some true
         else
         (if (decide (t26 ≥ b2)) = true then
          some true
          else
          let t27 := IntKind.i64.wrap (t26 * b1);
          let t28 := IntKind.i64.wrap (t27 + t24);
          (if 0 ≤ t28 ∧ t28 < (b43.length : Int) then
           (b43[t28.toNat]?).bind fun e29 =>
           (if e29 = true then
            some true
            else
            let t30 := IntKind.i64.wrap (t26 * b1);
            let t31 := IntKind.i64.wrap (t30 + t24);
            (if 0 ≤ t31 ∧ t31 < (b3.length : Int) then
             some (!decide (rd b3 t31 = rd b3 t9))
             else
             none))
           else
           none))))) : Option (Bool)).bind (fun v32 =>
      (if v32 = true then
       some (Sum.inl ((b43, out44)))
       else
       let t34 := IntKind.i64.wrap (t26 * b1);
       let t35 := IntKind.i64.wrap (t34 + t24);
       (if 0 ≤ t35 ∧ t35 < (b43.length : Int) then
        (b43[t35.toNat]?).bind fun e36 =>
        let w37 : List Bool := b43.set t35.toNat true;
        (if (out44.length + ([(Point.mk t24 t26)] : List Point).length) * 16 ≤ 140737488355328 then
         let t38 : List Point := out44 ++ [(Point.mk t24 t26)];
         some (Sum.inl ((w37, t38)))
         else
         none)
        else
        none)))
     else
     none)
    else
    none)
theorem shape_flood_loop8_over (b1 b2 : Int) (b3 : List Int) (steps6 : List Point) (t9 i15 : Int) (hl : steps6.length ≤ 9223372036854775807) (s42 : (List Bool) × (List Point)) : loop (shape_flood_loop8 b1 b2 b3 steps6 t9 i15) ((0, s42.1, s42.2) : Int × (List Bool) × (List Point)) =
    overL (shape_flood_loop8_step b1 b2 b3 t9 i15) (fun (s42 : (List Bool) × (List Point)) => let b43 := s42.1; let out44 := s42.2; some (b43, out44)) 0 steps6 s42 := by
  refine loop_over steps6 (fun n (s : (List Bool) × (List Point)) => ((((n : Nat) : Int), s.1, s.2) : Int × (List Bool) × (List Point))) _ _ (fun s => ?_) (fun i x s h => ?_) 0 s42 (Nat.zero_le _)
  · unfold shape_flood_loop8; simp
  · have hlt := lt_len_of_get h
    have h1 : ((i : Nat) : Int) < ((steps6.length : Nat) : Int) := by omega
    have h0 : (0 : Int) ≤ ((i : Nat) : Int) := by omega
    have hw : IntKind.i64.wrap (((i : Nat) : Int) + 1) = (((i + 1 : Nat) : Nat) : Int) := w64 (by omega)
    unfold shape_flood_loop8 shape_flood_loop8_step
    simp only [h1, h0, hw, h, decide_true, if_true, and_self, true_and, Int.toNat_natCast, Option.bind_some, Option.map_bind, Function.comp_def, map_ite, map_elim, Option.map_some, Option.map_none]

noncomputable def shape_flood_loop5 (b1 b2 : Int) (b3 : List Int) (steps6 : List Point) (t9 : Int) (s14 : Int × (List Bool) × (List Point)) : Option ((Int × (List Bool) × (List Point)) ⊕ ((List Bool) × (List Point))) :=
   let i15 := s14.1;
   let b16 := s14.2.1;
   let out17 := s14.2.2;
   (if (decide (i15 < ((out17.length : Nat) : Int))) = true then
    (loop (shape_flood_loop8 b1 b2 b3 steps6 t9 i15) (0, b16, out17)).bind (fun p45 =>
     let b46 := p45.1;
     let out47 := p45.2;
     let t48 := IntKind.i64.wrap (i15 + 1);
     some (Sum.inl (t48, b46, out47)))
    else
    some (Sum.inr (b16, out17)))
theorem shape_flood_eq (b1 b2 : Int) (b3 : List Int) (from4 from5 : Int) (steps6 : List Point) (b7 : List Bool) : shape_flood b1 b2 b3 from4 from5 steps6 b7 =
   let t8 := IntKind.i64.wrap (from5 * b1);
   let t9 := IntKind.i64.wrap (t8 + from4);
   (if 0 ≤ t9 ∧ t9 < (b3.length : Int) then
    let t10 := IntKind.i64.wrap (from5 * b1);
    let t11 := IntKind.i64.wrap (t10 + from4);
    (if 0 ≤ t11 ∧ t11 < (b7.length : Int) then
     (b7[t11.toNat]?).bind fun e12 =>
     let w13 : List Bool := b7.set t11.toNat true;
     (loop (shape_flood_loop5 b1 b2 b3 steps6 t9) (0, w13, [(Point.mk from4 from5)])).bind (fun p49 =>
      let b50 := p49.1;
      let out51 := p49.2;
      some (out51, b50))
     else
     none)
    else
    none) := (call_eq ..).trans (by kernel_rfl)

noncomputable def shape_placed_loop3 (l1 : List Point) (s6 : Int × Int × Int × Int × Int) : Option ((Int × Int × Int × Int × Int) ⊕ (Int × Int × Int × Int)) :=
   let left7 := s6.1;
   let top8 := s6.2.1;
   let right9 := s6.2.2.1;
   let bottom10 := s6.2.2.2.1;
   let v11 := s6.2.2.2.2;
   (if (decide (v11 < ((l1.length : Nat) : Int))) = true then
    (if 0 ≤ v11 then
     (l1[v11.toNat]?).bind fun e12 =>
     let t13 := imin left7 e12.x;
     let t14 := imax right9 e12.x;
     let t15 := imin top8 e12.y;
     let t16 := imax bottom10 e12.y;
     let t17 := IntKind.i64.wrap (v11 + 1);
     some (Sum.inl (t13, t15, t14, t16, t17))
     else
     none)
    else
    some (Sum.inr (left7, top8, right9, bottom10)))
noncomputable def shape_placed_loop3_step (i18 : Nat) (x19 : Point) (s20 : Int × Int × Int × Int) : Option ((Int × Int × Int × Int) ⊕ (Int × Int × Int × Int)) :=
   let left21 := s20.1;
   let top22 := s20.2.1;
   let right23 := s20.2.2.1;
   let bottom24 := s20.2.2.2;
   let t13 := imin left21 x19.x;
   let t14 := imax right23 x19.x;
   let t15 := imin top22 x19.y;
   let t16 := imax bottom24 x19.y;
   some (Sum.inl ((t13, t15, t14, t16)))
theorem shape_placed_loop3_over (l1 : List Point) (hl : l1.length ≤ 9223372036854775807) (s20 : Int × Int × Int × Int) : loop (shape_placed_loop3 l1) ((s20.1, s20.2.1, s20.2.2.1, s20.2.2.2, 0) : Int × Int × Int × Int × Int) =
    overL (shape_placed_loop3_step) (fun (s20 : Int × Int × Int × Int) => let left21 := s20.1; let top22 := s20.2.1; let right23 := s20.2.2.1; let bottom24 := s20.2.2.2; some (left21, top22, right23, bottom24)) 0 l1 s20 := by
  refine loop_over l1 (fun n (s : Int × Int × Int × Int) => ((s.1, s.2.1, s.2.2.1, s.2.2.2, ((n : Nat) : Int)) : Int × Int × Int × Int × Int)) _ _ (fun s => ?_) (fun i x s h => ?_) 0 s20 (Nat.zero_le _)
  · unfold shape_placed_loop3; simp
  · have hlt := lt_len_of_get h
    have h1 : ((i : Nat) : Int) < ((l1.length : Nat) : Int) := by omega
    have h0 : (0 : Int) ≤ ((i : Nat) : Int) := by omega
    have hw : IntKind.i64.wrap (((i : Nat) : Int) + 1) = (((i + 1 : Nat) : Nat) : Int) := w64 (by omega)
    unfold shape_placed_loop3 shape_placed_loop3_step
    simp only [h1, h0, hw, h, decide_true, if_true, and_self, true_and, Int.toNat_natCast, Option.bind_some, Option.map_bind, Function.comp_def, map_ite, map_elim, Option.map_some, Option.map_none]

noncomputable def shape_placed_loop10 (l1 : List Point) (left26 top27 tr35 : Int) (s39 : Int × (List Int)) : Option ((Int × (List Int)) ⊕ ((List Int))) :=
   let v40 := s39.1;
   let b41 := s39.2;
   (if (decide (v40 < ((l1.length : Nat) : Int))) = true then
    (if 0 ≤ v40 then
     (l1[v40.toNat]?).bind fun e42 =>
     let t43 := IntKind.i64.wrap (e42.y - top27);
     let t44 := IntKind.i64.wrap (t43 * tr35);
     let t45 := IntKind.i64.wrap (t44 + e42.x);
     let t46 := IntKind.i64.wrap (t45 - left26);
     (if 0 ≤ t46 ∧ t46 < (b41.length : Int) then
      let w47 : List Int := b41.set t46.toNat 1;
      let t48 := IntKind.i64.wrap (v40 + 1);
      some (Sum.inl (t48, w47))
      else
      none)
     else
     none)
    else
    some (Sum.inr b41))
noncomputable def shape_placed_loop10_step (left26 top27 tr35 : Int) (i49 : Nat) (x50 : Point) (s51 : (List Int)) : Option (((List Int)) ⊕ ((List Int))) :=
   let t43 := IntKind.i64.wrap (x50.y - top27);
   let t44 := IntKind.i64.wrap (t43 * tr35);
   let t45 := IntKind.i64.wrap (t44 + x50.x);
   let t46 := IntKind.i64.wrap (t45 - left26);
   (if 0 ≤ t46 ∧ t46 < (s51.length : Int) then
    let w47 : List Int := s51.set t46.toNat 1;
    some (Sum.inl (w47))
    else
    none)
theorem shape_placed_loop10_over (l1 : List Point) (left26 top27 tr35 : Int) (hl : l1.length ≤ 9223372036854775807) (s51 : (List Int)) : loop (shape_placed_loop10 l1 left26 top27 tr35) ((0, s51) : Int × (List Int)) =
    overL (shape_placed_loop10_step left26 top27 tr35) (fun (s51 : (List Int)) => some s51) 0 l1 s51 := by
  refine loop_over l1 (fun n (s : (List Int)) => ((((n : Nat) : Int), s) : Int × (List Int))) _ _ (fun s => ?_) (fun i x s h => ?_) 0 s51 (Nat.zero_le _)
  · unfold shape_placed_loop10; simp
  · have hlt := lt_len_of_get h
    have h1 : ((i : Nat) : Int) < ((l1.length : Nat) : Int) := by omega
    have h0 : (0 : Int) ≤ ((i : Nat) : Int) := by omega
    have hw : IntKind.i64.wrap (((i : Nat) : Int) + 1) = (((i + 1 : Nat) : Nat) : Int) := w64 (by omega)
    unfold shape_placed_loop10 shape_placed_loop10_step
    simp only [h1, h0, hw, h, decide_true, if_true, and_self, true_and, Int.toNat_natCast, Option.bind_some, Option.map_bind, Function.comp_def, map_ite, map_elim, Option.map_some, Option.map_none]

theorem shape_placed_eq (l1 : List Point) : shape_placed l1 =
   (if 0 ≤ (0 : Int) then
    (l1[(0 : Int).toNat]?).bind fun e2 =>
    (if 0 ≤ (0 : Int) then
     (l1[(0 : Int).toNat]?).bind fun e3 =>
     (if 0 ≤ (0 : Int) then
      (l1[(0 : Int).toNat]?).bind fun e4 =>
      (if 0 ≤ (0 : Int) then
       (l1[(0 : Int).toNat]?).bind fun e5 =>
       (loop (shape_placed_loop3 l1) (e2.x, e3.y, e4.x, e5.y, 0)).bind (fun p25 =>
        let left26 := p25.1;
        let top27 := p25.2.1;
        let right28 := p25.2.2.1;
        let bottom29 := p25.2.2.2;
        let t30 := IntKind.i64.wrap (right28 - left26);
        let t31 := IntKind.i64.wrap (t30 + 1);
        let t32 := IntKind.i64.wrap (bottom29 - top27);
        let t33 := IntKind.i64.wrap (t32 + 1);
        (bitmap_New t31 t33 0).bind fun q34 =>
        let tr35 := q34.1;
        let tr36 := q34.2.1;
        let tr37 := q34.2.2.1;
        let tr38 := q34.2.2.2;
        (loop (shape_placed_loop10 l1 left26 top27 tr35) (0, tr38)).bind (fun b52 =>
         some (tr35, tr36, b52, left26, top27)))
       else
       none)
      else
      none)
     else
     none)
    else
    none) := (call_eq ..).trans (by kernel_rfl)

theorem ref05_Sides_eq (w1 h2 : Int) : ref05_Sides w1 h2 =
   (if (decide (w1 ≥ 0)) = true then
    (if (decide (h2 ≥ 0)) = true then
     (if (decide (w1 ≤ 200)) = true then
      (if (decide (h2 ≤ 200)) = true then
       let t3 := IntKind.i64.wrap (w1 * h2);
       some (decide (t3 ≤ 8192))
       else
       some false)
      else
      some false)
     else
     some false)
    else
    some false) := (call_eq ..).trans (by kernel_rfl)

theorem ref19_isValue_eq (n1 : Int) : ref19_isValue n1 =
   (if (decide (n1 ≥ 0)) = true then
    some (decide (n1 ≤ 255))
    else
    some false) := (call_eq ..).trans (by kernel_rfl)

theorem ref06_IsSize_eq (w1 h2 : Int) : ref06_IsSize w1 h2 =
   (if (decide (w1 ≥ 0)) = true then
    (if (decide (w1 ≤ 200)) = true then
     (if (decide (h2 ≥ 0)) = true then
      (if (decide (h2 ≤ 200)) = true then
       let t3 := IntKind.i64.wrap (w1 * h2);
       some (decide (t3 ≤ 8192))
       else
       some false)
      else
      some false)
     else
     some false)
    else
    some false) := (call_eq ..).trans (by kernel_rfl)

noncomputable def ref06_IsRow_loop2 (l1 : List Int) (v2 : Int) : Option ((Int) ⊕ ((Unit) ⊕ (Bool))) :=
   (if (decide (v2 < ((l1.length : Nat) : Int))) = true then
    (if 0 ≤ v2 ∧ v2 < (l1.length : Int) then
     (if (decide (rd l1 v2 > 1)) = true then
      some (Sum.inr (Sum.inr false))
      else
      let t3 := IntKind.i64.wrap (v2 + 1);
      some (Sum.inl t3))
     else
     none)
    else
    some (Sum.inr (Sum.inl ())))
noncomputable def ref06_IsRow_loop2_step (i4 : Nat) (x5 : Int) (s6 : Unit) : Option ((Unit) ⊕ ((Unit) ⊕ (Bool))) :=
   (if (decide (x5 > 1)) = true then
    some (Sum.inr (Sum.inr false))
    else
    some (Sum.inl (())))
theorem ref06_IsRow_loop2_over (l1 : List Int) (hl : l1.length ≤ 9223372036854775807) (s6 : Unit) : loop (ref06_IsRow_loop2 l1) (0 : Int) =
    overL (ref06_IsRow_loop2_step) (fun (s6 : Unit) => some (Sum.inl ())) 0 l1 s6 := by
  refine loop_over l1 (fun n (s : Unit) => (((n : Nat) : Int) : Int)) _ _ (fun s => ?_) (fun i x s h => ?_) 0 s6 (Nat.zero_le _)
  · unfold ref06_IsRow_loop2; simp
  · have hlt := lt_len_of_get h
    have h1 : ((i : Nat) : Int) < ((l1.length : Nat) : Int) := by omega
    have h0 : (0 : Int) ≤ ((i : Nat) : Int) := by omega
    have hw : IntKind.i64.wrap (((i : Nat) : Int) + 1) = (((i + 1 : Nat) : Nat) : Int) := w64 (by omega)
    have hr : rd l1 ((i : Nat) : Int) = x := rd_nat h
    unfold ref06_IsRow_loop2 ref06_IsRow_loop2_step
    simp only [h1, h0, hw, h, hr, decide_true, if_true, and_self, true_and, Int.toNat_natCast, Option.bind_some, Option.map_bind, Function.comp_def, map_ite, map_elim, Option.map_some, Option.map_none]

theorem ref06_IsRow_eq (l1 : List Int) : ref06_IsRow l1 =
   (loop (ref06_IsRow_loop2 l1) 0).bind (fun o9 =>
    (Sum.elim (fun (p7 : Unit) =>
      some true)
     (fun (v8 : Bool) =>
      some v8) o9)) := (call_eq ..).trans (by kernel_rfl)

noncomputable def ref15_spread_loop11 (b1 b2 : Int) (b3 : List Int) (mark5 colour6 : Int) (corners7 : Bool) (t15 t17 v20 : Int) (s25 : Int × (List Int) × (List Int)) : Option ((Int × (List Int) × (List Int)) ⊕ ((List Int) × (List Int))) :=
   let u26 := s25.1;
   let b27 := s25.2.1;
   let todo28 := s25.2.2;
   let t29 := IntKind.i64.wrap (t15 + 1);
   (if (decide (u26 ≤ t29)) = true then
    ((if (decide (u26 < 0)) = true then
      some true
      else
      (if (decide (v20 < 0)) = true then
       some true
       else
       (if (decide (u26 ≥ b1)) = true then
        some true
        else
        (if (decide (v20 ≥ b2)) = true then
         some true
         else
         (if (!corners7) = true then
          (if (!decide (u26 = t15)) = true then
           some (!decide (v20 = t17))
           else
           some false)
          else
          some false))))) : Option (Bool)).bind (fun v30 =>
     (if v30 = true then
      let t31 := IntKind.i64.wrap (u26 + 1);
      some (Sum.inl (t31, b27, todo28))
      else
      let t32 := IntKind.i64.wrap (v20 * b1);
      let t33 := IntKind.i64.wrap (t32 + u26);
      ((if 0 ≤ t33 ∧ t33 < (b3.length : Int) then
        let t34 := IntKind.i64.wrap (rd b3 t33);
        (if (decide (t34 = colour6)) = true then
         (if 0 ≤ t33 ∧ t33 < (b27.length : Int) then
          let t35 : Int := rd b27 t33;
          some (decide (t35 = 0))
          else
          none)
         else
         some false)
        else
        none) : Option (Bool)).bind (fun v36 =>
       (if v36 = true then
        (if 0 ≤ t33 ∧ t33 < (b27.length : Int) then
         let w37 : List Int := b27.set t33.toNat mark5;
         (if (todo28.length + ([t33] : List Int).length) * 8 ≤ 140737488355328 then
          let t38 : List Int := todo28 ++ [t33];
          let t39 := IntKind.i64.wrap (u26 + 1);
          some (Sum.inl (t39, w37, t38))
          else
          none)
         else
         none)
        else
        let t40 := IntKind.i64.wrap (u26 + 1);
        some (Sum.inl (t40, b27, todo28))))))
    else
    some (Sum.inr (b27, todo28)))
noncomputable def ref15_spread_loop8 (b1 b2 : Int) (b3 : List Int) (mark5 colour6 : Int) (corners7 : Bool) (t15 t17 : Int) (s19 : Int × (List Int) × (List Int)) : Option ((Int × (List Int) × (List Int)) ⊕ ((List Int) × (List Int))) :=
   let v20 := s19.1;
   let b21 := s19.2.1;
   let todo22 := s19.2.2;
   let t23 := IntKind.i64.wrap (t17 + 1);
   (if (decide (v20 ≤ t23)) = true then
    let t24 := IntKind.i64.wrap (t15 - 1);
    (loop (ref15_spread_loop11 b1 b2 b3 mark5 colour6 corners7 t15 t17 v20) (t24, b21, todo22)).bind (fun p41 =>
     let b42 := p41.1;
     let todo43 := p41.2;
     let t44 := IntKind.i64.wrap (v20 + 1);
     some (Sum.inl (t44, b42, todo43)))
    else
    some (Sum.inr (b21, todo22)))
noncomputable def ref15_spread_loop4 (b1 b2 : Int) (b3 : List Int) (mark5 colour6 : Int) (corners7 : Bool) (s10 : Int × (List Int) × (List Int)) : Option ((Int × (List Int) × (List Int)) ⊕ ((List Int) × (List Int))) :=
   let i11 := s10.1;
   let b12 := s10.2.1;
   let todo13 := s10.2.2;
   (if (decide (i11 < ((todo13.length : Nat) : Int))) = true then
    (if 0 ≤ i11 ∧ i11 < (todo13.length : Int) then
     let t14 : Int := rd todo13 i11;
     (if b1 = 0 then
      none
      else
      let t15 : Int := t14.tmod b1;
      (if 0 ≤ i11 ∧ i11 < (todo13.length : Int) then
       let t16 : Int := rd todo13 i11;
       (if b1 = 0 then
        none
        else
        let t17 := IntKind.i64.wrap (t16.tdiv b1);
        let t18 := IntKind.i64.wrap (t17 - 1);
        (loop (ref15_spread_loop8 b1 b2 b3 mark5 colour6 corners7 t15 t17) (t18, b12, todo13)).bind (fun p45 =>
         let b46 := p45.1;
         let todo47 := p45.2;
         let t48 := IntKind.i64.wrap (i11 + 1);
         some (Sum.inl (t48, b46, todo47))))
       else
       none))
     else
     none)
    else
    some (Sum.inr (b12, todo13)))
theorem ref15_spread_eq (b1 b2 : Int) (b3 : List Int) (at4 mark5 colour6 : Int) (corners7 : Bool) (b8 : List Int) : ref15_spread b1 b2 b3 at4 mark5 colour6 corners7 b8 =
   (if 0 ≤ at4 ∧ at4 < (b8.length : Int) then
    let w9 : List Int := b8.set at4.toNat mark5;
    (loop (ref15_spread_loop4 b1 b2 b3 mark5 colour6 corners7) (0, w9, [at4])).bind (fun p49 =>
     let b50 := p49.1;
     let todo51 := p49.2;
     some (((todo51.length : Nat) : Int), b50))
    else
    none) := (call_eq ..).trans (by kernel_rfl)

theorem ref05_At_eq (b1 b2 : Int) (b3 : List Int) (x4 y5 : Int) : ref05_At b1 b2 b3 x4 y5 =
   (ref05_inside b1 b2 b3 x4 y5).bind fun q6 =>
   (if (!q6) = true then
    some 0
    else
    let t7 := IntKind.i64.wrap (y5 * b1);
    let t8 := IntKind.i64.wrap (t7 + x4);
    (if 0 ≤ t8 ∧ t8 < (b3.length : Int) then
     let t9 := IntKind.i64.wrap (rd b3 t8);
     some t9
     else
     none)) := (call_eq ..).trans (by kernel_rfl)

noncomputable def ref05_Part_loop6 (b1 b2 : Int) (b3 : List Int) (x4 y5 w6 tr9 tr10 v13 : Int) (s15 : Int × (List Int)) : Option ((Int × (List Int)) ⊕ ((List Int))) :=
   let u16 := s15.1;
   let b17 := s15.2;
   (if (decide (u16 < w6)) = true then
    let t18 := IntKind.i64.wrap (x4 + u16);
    let t19 := IntKind.i64.wrap (y5 + v13);
    (ref05_At b1 b2 b3 t18 t19).bind fun q20 =>
    (ref05_Put tr9 tr10 u16 v13 q20 b17).bind fun q21 =>
    let t22 := IntKind.i64.wrap (u16 + 1);
    some (Sum.inl (t22, q21))
    else
    some (Sum.inr b17))
noncomputable def ref05_Part_loop6_step (b1 b2 : Int) (b3 : List Int) (x4 y5 tr9 tr10 v13 : Int) (i23 x24 : Nat) (s25 : (List Int)) : Option (((List Int)) ⊕ ((List Int))) :=
   let t18 := IntKind.i64.wrap (x4 + ((i23 : Nat) : Int));
   let t19 := IntKind.i64.wrap (y5 + v13);
   (ref05_At b1 b2 b3 t18 t19).bind fun q20 =>
   (ref05_Put tr9 tr10 ((i23 : Nat) : Int) v13 q20 s25).bind fun q21 =>
   some (Sum.inl (q21))
theorem ref05_Part_loop6_over (b1 b2 : Int) (b3 : List Int) (x4 y5 w6 tr9 tr10 v13 : Int) (hl : (List.range (w6).toNat).length ≤ 9223372036854775807) (s25 : (List Int)) : loop (ref05_Part_loop6 b1 b2 b3 x4 y5 w6 tr9 tr10 v13) ((0, s25) : Int × (List Int)) =
    overL (ref05_Part_loop6_step b1 b2 b3 x4 y5 tr9 tr10 v13) (fun (s25 : (List Int)) => some s25) 0 (List.range (w6).toNat) s25 := by
  refine loop_over (List.range (w6).toNat) (fun n (s : (List Int)) => ((((n : Nat) : Int), s) : Int × (List Int))) _ _ (fun s => ?_) (fun i x s h => ?_) 0 s25 (Nat.zero_le _)
  · have h1 : ¬ (((List.range (w6).toNat).length : Nat) : Int) < w6 := by simp only [List.length_range]; omega
    unfold ref05_Part_loop6; simp only [h1, decide_false, Bool.false_eq_true, if_false, Option.map_some]
  · have hlt := lt_len_of_get h
    rw [List.length_range] at hlt hl
    rw [List.getElem?_range hlt] at h
    cases h
    have h1 : ((i : Nat) : Int) < w6 := by omega
    have h0 : (0 : Int) ≤ ((i : Nat) : Int) := by omega
    have hw : IntKind.i64.wrap (((i : Nat) : Int) + 1) = (((i + 1 : Nat) : Nat) : Int) := w64 (by omega)
    unfold ref05_Part_loop6 ref05_Part_loop6_step
    simp only [h1, h0, hw, decide_true, if_true, and_self, true_and, Int.toNat_natCast, Option.bind_some, Option.map_bind, Function.comp_def, map_ite, map_elim, Option.map_some, Option.map_none]

noncomputable def ref05_Part_loop3 (b1 b2 : Int) (b3 : List Int) (x4 y5 w6 h7 tr9 tr10 : Int) (s12 : Int × (List Int)) : Option ((Int × (List Int)) ⊕ ((List Int))) :=
   let v13 := s12.1;
   let b14 := s12.2;
   (if (decide (v13 < h7)) = true then
    (loop (ref05_Part_loop6 b1 b2 b3 x4 y5 w6 tr9 tr10 v13) (0, b14)).bind (fun b26 =>
     let t27 := IntKind.i64.wrap (v13 + 1);
     some (Sum.inl (t27, b26)))
    else
    some (Sum.inr b14))
noncomputable def ref05_Part_loop3_step (b1 b2 : Int) (b3 : List Int) (x4 y5 w6 tr9 tr10 : Int) (i28 x29 : Nat) (s30 : (List Int)) : Option (((List Int)) ⊕ ((List Int))) :=
   (loop (ref05_Part_loop6 b1 b2 b3 x4 y5 w6 tr9 tr10 ((i28 : Nat) : Int)) (0, s30)).bind (fun b26 =>
    some (Sum.inl (b26)))
theorem ref05_Part_loop3_over (b1 b2 : Int) (b3 : List Int) (x4 y5 w6 h7 tr9 tr10 : Int) (hl : (List.range (h7).toNat).length ≤ 9223372036854775807) (s30 : (List Int)) : loop (ref05_Part_loop3 b1 b2 b3 x4 y5 w6 h7 tr9 tr10) ((0, s30) : Int × (List Int)) =
    overL (ref05_Part_loop3_step b1 b2 b3 x4 y5 w6 tr9 tr10) (fun (s30 : (List Int)) => some s30) 0 (List.range (h7).toNat) s30 := by
  refine loop_over (List.range (h7).toNat) (fun n (s : (List Int)) => ((((n : Nat) : Int), s) : Int × (List Int))) _ _ (fun s => ?_) (fun i x s h => ?_) 0 s30 (Nat.zero_le _)
  · have h1 : ¬ (((List.range (h7).toNat).length : Nat) : Int) < h7 := by simp only [List.length_range]; omega
    unfold ref05_Part_loop3; simp only [h1, decide_false, Bool.false_eq_true, if_false, Option.map_some]
  · have hlt := lt_len_of_get h
    rw [List.length_range] at hlt hl
    rw [List.getElem?_range hlt] at h
    cases h
    have h1 : ((i : Nat) : Int) < h7 := by omega
    have h0 : (0 : Int) ≤ ((i : Nat) : Int) := by omega
    have hw : IntKind.i64.wrap (((i : Nat) : Int) + 1) = (((i + 1 : Nat) : Nat) : Int) := w64 (by omega)
    unfold ref05_Part_loop3 ref05_Part_loop3_step
    simp only [h1, h0, hw, decide_true, if_true, and_self, true_and, Int.toNat_natCast, Option.bind_some, Option.map_bind, Function.comp_def, map_ite, map_elim, Option.map_some, Option.map_none]

theorem ref05_Part_eq (b1 b2 : Int) (b3 : List Int) (x4 y5 w6 h7 : Int) : ref05_Part b1 b2 b3 x4 y5 w6 h7 =
   (ref05_make2 w6 h7 0).bind fun q8 =>
   let tr9 := q8.1;
   let tr10 := q8.2.1;
   let tr11 := q8.2.2;
   (loop (ref05_Part_loop3 b1 b2 b3 x4 y5 w6 h7 tr9 tr10) (0, tr11)).bind (fun b31 =>
    some (tr9, tr10, b31)) := (call_eq ..).trans (by kernel_rfl)

theorem ref19_Down_eq (a1 b2 : Int) : ref19_Down a1 b2 =
   (if b2 = 0 then
    none
    else
    let t3 := IntKind.i64.wrap (a1.tdiv b2);
    (if b2 = 0 then
     none
     else
     let t4 : Int := a1.tmod b2;
     (if (decide (t4 < 0)) = true then
      let t5 := IntKind.i64.wrap (t3 - 1);
      some t5
      else
      some t3))) := (call_eq ..).trans (by kernel_rfl)

theorem slices_Clone_int_int_eq (s1 : List Int) : slices_Clone_int_int s1 =
   (if s1.length = 0 then
    (demon
     (some [])
     ((if (([] : List Int).length + s1.length) * 8 ≤ 140737488355328 then
       let t2 : List Int := ([] : List Int) ++ s1;
       some t2
       else
       none)))
    else
    (if (([] : List Int).length + s1.length) * 8 ≤ 140737488355328 then
     let t3 : List Int := ([] : List Int) ++ s1;
     some t3
     else
     none)) := (call_eq ..).trans (by kernel_rfl)

noncomputable def slices_IndexFunc_api_Rgb_api_Rgb_loop2 (s1 : List Rgb) (v2 : Int) : Option ((Int) ⊕ ((Unit) ⊕ (Int))) :=
   (if (decide (v2 < ((s1.length : Nat) : Int))) = true then
    (if 0 ≤ v2 then
     (s1[v2.toNat]?).bind fun e3 =>
     (layer_rightColours_1 e3.r e3.g e3.b).bind fun q4 =>
     (if q4 = true then
      some (Sum.inr (Sum.inr v2))
      else
      let t5 := IntKind.i64.wrap (v2 + 1);
      some (Sum.inl t5))
     else
     none)
    else
    some (Sum.inr (Sum.inl ())))
noncomputable def slices_IndexFunc_api_Rgb_api_Rgb_loop2_step (i6 : Nat) (x7 : Rgb) (s8 : Unit) : Option ((Unit) ⊕ ((Unit) ⊕ (Int))) :=
   (layer_rightColours_1 x7.r x7.g x7.b).bind fun q4 =>
   (if q4 = true then
    some (Sum.inr (Sum.inr ((i6 : Nat) : Int)))
    else
    some (Sum.inl (())))
theorem slices_IndexFunc_api_Rgb_api_Rgb_loop2_over (s1 : List Rgb) (hl : s1.length ≤ 9223372036854775807) (s8 : Unit) : loop (slices_IndexFunc_api_Rgb_api_Rgb_loop2 s1) (0 : Int) =
    overL (slices_IndexFunc_api_Rgb_api_Rgb_loop2_step) (fun (s8 : Unit) => some (Sum.inl ())) 0 s1 s8 := by
  refine loop_over s1 (fun n (s : Unit) => (((n : Nat) : Int) : Int)) _ _ (fun s => ?_) (fun i x s h => ?_) 0 s8 (Nat.zero_le _)
  · unfold slices_IndexFunc_api_Rgb_api_Rgb_loop2; simp
  · have hlt := lt_len_of_get h
    have h1 : ((i : Nat) : Int) < ((s1.length : Nat) : Int) := by omega
    have h0 : (0 : Int) ≤ ((i : Nat) : Int) := by omega
    have hw : IntKind.i64.wrap (((i : Nat) : Int) + 1) = (((i + 1 : Nat) : Nat) : Int) := w64 (by omega)
    unfold slices_IndexFunc_api_Rgb_api_Rgb_loop2 slices_IndexFunc_api_Rgb_api_Rgb_loop2_step
    simp only [h1, h0, hw, h, decide_true, if_true, and_self, true_and, Int.toNat_natCast, Option.bind_some, Option.map_bind, Function.comp_def, map_ite, map_elim, Option.map_some, Option.map_none]

theorem slices_IndexFunc_api_Rgb_api_Rgb_eq (s1 : List Rgb) : slices_IndexFunc_api_Rgb_api_Rgb s1 =
   (loop (slices_IndexFunc_api_Rgb_api_Rgb_loop2 s1) 0).bind (fun o11 =>
    (Sum.elim (fun (p9 : Unit) =>
      some (-1))
     (fun (v10 : Int) =>
      some v10) o11)) := (call_eq ..).trans (by kernel_rfl)

noncomputable def slices_IndexFunc_int_int_loop2 (s1 : List Int) (s11 : Int × Int × Int × Int × Int × (List Int) × (List Rgb) × (List Int) × Int × (List (List Int))) : Option ((Int × Int × Int × Int × Int × (List Int) × (List Rgb) × (List Int) × Int × (List (List Int))) ⊕ ((Int × Int × Int × Int × (List Int) × (List Rgb) × (List Int) × Int × (List (List Int))) ⊕ (Int × Int × Int × Int × Int × (List Int) × (List Rgb) × (List Int) × Int × (List (List Int))))) :=
   let v12 := s11.1;
   let b13 := s11.2.1;
   let b14 := s11.2.2.1;
   let b15 := s11.2.2.2.1;
   let b16 := s11.2.2.2.2.1;
   let b17 := s11.2.2.2.2.2.1;
   let b18 := s11.2.2.2.2.2.2.1;
   let b19 := s11.2.2.2.2.2.2.2.1;
   let b20 := s11.2.2.2.2.2.2.2.2.1;
   let b21 := s11.2.2.2.2.2.2.2.2.2;
   (if (decide (v12 < ((s1.length : Nat) : Int))) = true then
    (if 0 ≤ v12 ∧ v12 < (s1.length : Int) then
     (layer_rightColours_2 (rd s1 v12) b13 b14 b15 b16 b17 b18 b19 b20 b21).bind fun q22 =>
     let tr23 := q22.1;
     let tr24 := q22.2.1;
     let tr25 := q22.2.2.1;
     let tr26 := q22.2.2.2.1;
     let tr27 := q22.2.2.2.2.1;
     let tr28 := q22.2.2.2.2.2.1;
     let tr29 := q22.2.2.2.2.2.2.1;
     let tr30 := q22.2.2.2.2.2.2.2.1;
     let tr31 := q22.2.2.2.2.2.2.2.2.1;
     let tr32 := q22.2.2.2.2.2.2.2.2.2;
     (if tr23 = true then
      some (Sum.inr (Sum.inr (v12, tr24, tr25, tr26, tr27, tr28, tr29, tr30, tr31, tr32)))
      else
      let t33 := IntKind.i64.wrap (v12 + 1);
      some (Sum.inl (t33, tr24, tr25, tr26, tr27, tr28, tr29, tr30, tr31, tr32)))
     else
     none)
    else
    some (Sum.inr (Sum.inl (b13, b14, b15, b16, b17, b18, b19, b20, b21))))
noncomputable def slices_IndexFunc_int_int_loop2_step (i34 : Nat) (x35 : Int) (s36 : Int × Int × Int × Int × (List Int) × (List Rgb) × (List Int) × Int × (List (List Int))) : Option ((Int × Int × Int × Int × (List Int) × (List Rgb) × (List Int) × Int × (List (List Int))) ⊕ ((Int × Int × Int × Int × (List Int) × (List Rgb) × (List Int) × Int × (List (List Int))) ⊕ (Int × Int × Int × Int × Int × (List Int) × (List Rgb) × (List Int) × Int × (List (List Int))))) :=
   let b37 := s36.1;
   let b38 := s36.2.1;
   let b39 := s36.2.2.1;
   let b40 := s36.2.2.2.1;
   let b41 := s36.2.2.2.2.1;
   let b42 := s36.2.2.2.2.2.1;
   let b43 := s36.2.2.2.2.2.2.1;
   let b44 := s36.2.2.2.2.2.2.2.1;
   let b45 := s36.2.2.2.2.2.2.2.2;
   (layer_rightColours_2 (x35) b37 b38 b39 b40 b41 b42 b43 b44 b45).bind fun q22 =>
   let tr23 := q22.1;
   let tr24 := q22.2.1;
   let tr25 := q22.2.2.1;
   let tr26 := q22.2.2.2.1;
   let tr27 := q22.2.2.2.2.1;
   let tr28 := q22.2.2.2.2.2.1;
   let tr29 := q22.2.2.2.2.2.2.1;
   let tr30 := q22.2.2.2.2.2.2.2.1;
   let tr31 := q22.2.2.2.2.2.2.2.2.1;
   let tr32 := q22.2.2.2.2.2.2.2.2.2;
   (if tr23 = true then
    some (Sum.inr (Sum.inr (((i34 : Nat) : Int), tr24, tr25, tr26, tr27, tr28, tr29, tr30, tr31, tr32)))
    else
    some (Sum.inl ((tr24, tr25, tr26, tr27, tr28, tr29, tr30, tr31, tr32))))
theorem slices_IndexFunc_int_int_loop2_over (s1 : List Int) (hl : s1.length ≤ 9223372036854775807) (s36 : Int × Int × Int × Int × (List Int) × (List Rgb) × (List Int) × Int × (List (List Int))) : loop (slices_IndexFunc_int_int_loop2 s1) ((0, s36.1, s36.2.1, s36.2.2.1, s36.2.2.2.1, s36.2.2.2.2.1, s36.2.2.2.2.2.1, s36.2.2.2.2.2.2.1, s36.2.2.2.2.2.2.2.1, s36.2.2.2.2.2.2.2.2) : Int × Int × Int × Int × Int × (List Int) × (List Rgb) × (List Int) × Int × (List (List Int))) =
    overL (slices_IndexFunc_int_int_loop2_step) (fun (s36 : Int × Int × Int × Int × (List Int) × (List Rgb) × (List Int) × Int × (List (List Int))) => let b37 := s36.1; let b38 := s36.2.1; let b39 := s36.2.2.1; let b40 := s36.2.2.2.1; let b41 := s36.2.2.2.2.1; let b42 := s36.2.2.2.2.2.1; let b43 := s36.2.2.2.2.2.2.1; let b44 := s36.2.2.2.2.2.2.2.1; let b45 := s36.2.2.2.2.2.2.2.2; some (Sum.inl (b37, b38, b39, b40, b41, b42, b43, b44, b45))) 0 s1 s36 := by
  refine loop_over s1 (fun n (s : Int × Int × Int × Int × (List Int) × (List Rgb) × (List Int) × Int × (List (List Int))) => ((((n : Nat) : Int), s.1, s.2.1, s.2.2.1, s.2.2.2.1, s.2.2.2.2.1, s.2.2.2.2.2.1, s.2.2.2.2.2.2.1, s.2.2.2.2.2.2.2.1, s.2.2.2.2.2.2.2.2) : Int × Int × Int × Int × Int × (List Int) × (List Rgb) × (List Int) × Int × (List (List Int)))) _ _ (fun s => ?_) (fun i x s h => ?_) 0 s36 (Nat.zero_le _)
  · unfold slices_IndexFunc_int_int_loop2; simp
  · have hlt := lt_len_of_get h
    have h1 : ((i : Nat) : Int) < ((s1.length : Nat) : Int) := by omega
    have h0 : (0 : Int) ≤ ((i : Nat) : Int) := by omega
    have hw : IntKind.i64.wrap (((i : Nat) : Int) + 1) = (((i + 1 : Nat) : Nat) : Int) := w64 (by omega)
    have hr : rd s1 ((i : Nat) : Int) = x := rd_nat h
    unfold slices_IndexFunc_int_int_loop2 slices_IndexFunc_int_int_loop2_step
    simp only [h1, h0, hw, h, hr, decide_true, if_true, and_self, true_and, Int.toNat_natCast, Option.bind_some, Option.map_bind, Function.comp_def, map_ite, map_elim, Option.map_some, Option.map_none]

theorem slices_IndexFunc_int_int_eq (s1 : List Int) (b2 b3 b4 b5 : Int) (b6 : List Int) (b7 : List Rgb) (b8 : List Int) (b9 : Int) (b10 : List (List Int)) : slices_IndexFunc_int_int s1 b2 b3 b4 b5 b6 b7 b8 b9 b10 =
   (loop (slices_IndexFunc_int_int_loop2 s1) (0, b2, b3, b4, b5, b6, b7, b8, b9, b10)).bind (fun o67 =>
    (Sum.elim (fun (p46 : Int × Int × Int × Int × (List Int) × (List Rgb) × (List Int) × Int × (List (List Int))) =>
      let b47 := p46.1;
      let b48 := p46.2.1;
      let b49 := p46.2.2.1;
      let b50 := p46.2.2.2.1;
      let b51 := p46.2.2.2.2.1;
      let b52 := p46.2.2.2.2.2.1;
      let b53 := p46.2.2.2.2.2.2.1;
      let b54 := p46.2.2.2.2.2.2.2.1;
      let b55 := p46.2.2.2.2.2.2.2.2;
      some ((-1), b47, b48, b49, b50, b51, b52, b53, b54, b55))
     (fun (p56 : Int × Int × Int × Int × Int × (List Int) × (List Rgb) × (List Int) × Int × (List (List Int))) =>
      let v57 := p56.1;
      let b58 := p56.2.1;
      let b59 := p56.2.2.1;
      let b60 := p56.2.2.2.1;
      let b61 := p56.2.2.2.2.1;
      let b62 := p56.2.2.2.2.2.1;
      let b63 := p56.2.2.2.2.2.2.1;
      let b64 := p56.2.2.2.2.2.2.2.1;
      let b65 := p56.2.2.2.2.2.2.2.2.1;
      let b66 := p56.2.2.2.2.2.2.2.2.2;
      some (v57, b58, b59, b60, b61, b62, b63, b64, b65, b66)) o67)) := (call_eq ..).trans (by kernel_rfl)

noncomputable def slices_IndexFunc_int_int_2_loop2 (s1 : List Int) (v2 : Int) : Option ((Int) ⊕ ((Unit) ⊕ (Int))) :=
   (if (decide (v2 < ((s1.length : Nat) : Int))) = true then
    (if 0 ≤ v2 ∧ v2 < (s1.length : Int) then
     (colour_rightValues_1 (rd s1 v2)).bind fun q3 =>
     (if q3 = true then
      some (Sum.inr (Sum.inr v2))
      else
      let t4 := IntKind.i64.wrap (v2 + 1);
      some (Sum.inl t4))
     else
     none)
    else
    some (Sum.inr (Sum.inl ())))
noncomputable def slices_IndexFunc_int_int_2_loop2_step (i5 : Nat) (x6 : Int) (s7 : Unit) : Option ((Unit) ⊕ ((Unit) ⊕ (Int))) :=
   (colour_rightValues_1 (x6)).bind fun q3 =>
   (if q3 = true then
    some (Sum.inr (Sum.inr ((i5 : Nat) : Int)))
    else
    some (Sum.inl (())))
theorem slices_IndexFunc_int_int_2_loop2_over (s1 : List Int) (hl : s1.length ≤ 9223372036854775807) (s7 : Unit) : loop (slices_IndexFunc_int_int_2_loop2 s1) (0 : Int) =
    overL (slices_IndexFunc_int_int_2_loop2_step) (fun (s7 : Unit) => some (Sum.inl ())) 0 s1 s7 := by
  refine loop_over s1 (fun n (s : Unit) => (((n : Nat) : Int) : Int)) _ _ (fun s => ?_) (fun i x s h => ?_) 0 s7 (Nat.zero_le _)
  · unfold slices_IndexFunc_int_int_2_loop2; simp
  · have hlt := lt_len_of_get h
    have h1 : ((i : Nat) : Int) < ((s1.length : Nat) : Int) := by omega
    have h0 : (0 : Int) ≤ ((i : Nat) : Int) := by omega
    have hw : IntKind.i64.wrap (((i : Nat) : Int) + 1) = (((i + 1 : Nat) : Nat) : Int) := w64 (by omega)
    have hr : rd s1 ((i : Nat) : Int) = x := rd_nat h
    unfold slices_IndexFunc_int_int_2_loop2 slices_IndexFunc_int_int_2_loop2_step
    simp only [h1, h0, hw, h, hr, decide_true, if_true, and_self, true_and, Int.toNat_natCast, Option.bind_some, Option.map_bind, Function.comp_def, map_ite, map_elim, Option.map_some, Option.map_none]

theorem slices_IndexFunc_int_int_2_eq (s1 : List Int) : slices_IndexFunc_int_int_2 s1 =
   (loop (slices_IndexFunc_int_int_2_loop2 s1) 0).bind (fun o10 =>
    (Sum.elim (fun (p8 : Unit) =>
      some (-1))
     (fun (v9 : Int) =>
      some v9) o10)) := (call_eq ..).trans (by kernel_rfl)

theorem shape_four_eq : shape_four =
   some [(Point.mk (-1) 0), (Point.mk 1 0), (Point.mk 0 (-1)), (Point.mk 0 1)] := (call_eq ..).trans (by kernel_rfl)

noncomputable def bitmap_New_loop5 (pixel3 : Int) (tr9 : List Int) (s10 : Int × (List Int)) : Option ((Int × (List Int)) ⊕ ((List Int))) :=
   let v11 := s10.1;
   let b12 := s10.2;
   (if (decide (v11 < ((tr9.length : Nat) : Int))) = true then
    let t13 := IntKind.u8.wrap pixel3;
    (if 0 ≤ v11 ∧ v11 < (b12.length : Int) then
     let w14 : List Int := b12.set v11.toNat t13;
     let t15 := IntKind.i64.wrap (v11 + 1);
     some (Sum.inl (t15, w14))
     else
     none)
    else
    some (Sum.inr b12))
noncomputable def bitmap_New_loop5_step (pixel3 : Int) (i16 : Nat) (x17 : Int) (s18 : (List Int)) : Option (((List Int)) ⊕ ((List Int))) :=
   let t13 := IntKind.u8.wrap pixel3;
   (if 0 ≤ ((i16 : Nat) : Int) ∧ ((i16 : Nat) : Int) < (s18.length : Int) then
    let w14 : List Int := s18.set ((i16 : Nat) : Int).toNat t13;
    some (Sum.inl (w14))
    else
    none)
theorem bitmap_New_loop5_over (pixel3 : Int) (tr9 : List Int) (hl : tr9.length ≤ 9223372036854775807) (s18 : (List Int)) : loop (bitmap_New_loop5 pixel3 tr9) ((0, s18) : Int × (List Int)) =
    overL (bitmap_New_loop5_step pixel3) (fun (s18 : (List Int)) => some s18) 0 tr9 s18 := by
  refine loop_over tr9 (fun n (s : (List Int)) => ((((n : Nat) : Int), s) : Int × (List Int))) _ _ (fun s => ?_) (fun i x s h => ?_) 0 s18 (Nat.zero_le _)
  · unfold bitmap_New_loop5; simp
  · have hlt := lt_len_of_get h
    have h1 : ((i : Nat) : Int) < ((tr9.length : Nat) : Int) := by omega
    have h0 : (0 : Int) ≤ ((i : Nat) : Int) := by omega
    have hw : IntKind.i64.wrap (((i : Nat) : Int) + 1) = (((i + 1 : Nat) : Nat) : Int) := w64 (by omega)
    have hr : rd tr9 ((i : Nat) : Int) = x := rd_nat h
    unfold bitmap_New_loop5 bitmap_New_loop5_step
    simp only [h1, h0, hw, h, hr, decide_true, if_true, and_self, true_and, Int.toNat_natCast, Option.bind_some, Option.map_bind, Function.comp_def, map_ite, map_elim, Option.map_some, Option.map_none]

theorem bitmap_New_eq (w1 h2 pixel3 : Int) : bitmap_New w1 h2 pixel3 =
   ((if (decide (w1 < 0)) = true then
     some true
     else
     (if (decide (h2 < 0)) = true then
      some true
      else
      (if (!decide (pixel3 = 0)) = true then
       some (!decide (pixel3 = 1))
       else
       some false))) : Option (Bool)).bind (fun v4 =>
    (if v4 = true then
     some (0, 0, 2, [])
     else
     (bitmap_blank w1 h2).bind fun q5 =>
     let tr6 := q5.1;
     let tr7 := q5.2.1;
     let tr8 := q5.2.2.1;
     let tr9 := q5.2.2.2;
     (loop (bitmap_New_loop5 pixel3 tr9) (0, tr9)).bind (fun b19 =>
      some (tr6, tr7, tr8, b19)))) := (call_eq ..).trans (by kernel_rfl)

theorem ref05_inside_eq (b1 b2 : Int) (b3 : List Int) (x4 y5 : Int) : ref05_inside b1 b2 b3 x4 y5 =
   (if (decide (x4 ≥ 0)) = true then
    (if (decide (y5 ≥ 0)) = true then
     (if (decide (x4 < b1)) = true then
      some (decide (y5 < b2))
      else
      some false)
     else
     some false)
    else
    some false) := (call_eq ..).trans (by kernel_rfl)

noncomputable def ref05_make2_loop3 (w1 h2 pixel3 : Int) (s4 : Int × Int × Int × (List Int)) : Option ((Int × Int × Int × (List Int)) ⊕ (Int × Int × (List Int))) :=
   let i5 := s4.1;
   let b6 := s4.2.1;
   let b7 := s4.2.2.1;
   let b8 := s4.2.2.2;
   let t9 := IntKind.i64.wrap (w1 * h2);
   (if (decide (i5 < t9)) = true then
    let t10 := IntKind.u8.wrap pixel3;
    (if (b8.length + ([t10] : List Int).length) * 1 ≤ 140737488355328 then
     let t11 : List Int := b8 ++ [t10];
     let t12 := IntKind.i64.wrap (i5 + 1);
     some (Sum.inl (t12, b6, b7, t11))
     else
     none)
    else
    some (Sum.inr (b6, b7, b8)))
theorem ref05_make2_eq (w1 h2 pixel3 : Int) : ref05_make2 w1 h2 pixel3 =
   (loop (ref05_make2_loop3 w1 h2 pixel3) (0, w1, h2, [])).bind (fun p13 =>
    let b14 := p13.1;
    let b15 := p13.2.1;
    let b16 := p13.2.2;
    some (b14, b15, b16)) := (call_eq ..).trans (by kernel_rfl)

theorem ref05_Put_eq (b1 b2 x3 y4 pixel5 : Int) (b6 : List Int) : ref05_Put b1 b2 x3 y4 pixel5 b6 =
   let t7 := IntKind.i64.wrap (y4 * b1);
   let t8 := IntKind.i64.wrap (t7 + x3);
   let t9 := IntKind.u8.wrap pixel5;
   (if 0 ≤ t8 ∧ t8 < (b6.length : Int) then
    let w10 : List Int := b6.set t8.toNat t9;
    some w10
    else
    none) := (call_eq ..).trans (by kernel_rfl)

theorem layer_rightColours_1_eq (c1 c2 c3 : Int) : layer_rightColours_1 c1 c2 c3 =
   (layer_isValue c1).bind fun q4 =>
   (if (!q4) = true then
    some true
    else
    (layer_isValue c2).bind fun q5 =>
    (if (!q5) = true then
     some true
     else
     (layer_isValue c3).bind fun q6 =>
     some (!q6))) := (call_eq ..).trans (by kernel_rfl)

theorem layer_rightColours_2_eq (m1 b2 b3 b4 b5 : Int) (b6 : List Int) (b7 : List Rgb) (b8 : List Int) (b9 : Int) (b10 : List (List Int)) : layer_rightColours_2 m1 b2 b3 b4 b5 b6 b7 b8 b9 b10 =
   (if (decide (m1 < 0)) = true then
    some (true, b2, b3, b4, b5, b6, b7, b8, b9, b10)
    else
    some (decide (m1 ≥ ((b7.length : Nat) : Int)), b2, b3, b4, b5, b6, b7, b8, b9, b10)) := (call_eq ..).trans (by kernel_rfl)

theorem colour_rightValues_1_eq (v1 : Int) : colour_rightValues_1 v1 =
   (colour_isValue v1).bind fun q2 =>
   some (!q2) := (call_eq ..).trans (by kernel_rfl)

theorem bitmap_blank_eq (w1 h2 : Int) : bitmap_blank w1 h2 =
   (bitmap_fits w1 h2).bind fun q3 =>
   (if (!q3) = true then
    some (0, 0, 4, [])
    else
    let t4 := IntKind.i64.wrap (w1 * h2);
    (if 0 ≤ t4 ∧ t4 ≤ t4 ∧ ((1 : Nat) : Int) * t4 ≤ 281474976710656 then
     let t5 : List Int := List.replicate t4.toNat 0;
     some (w1, h2, 0, t5)
     else
     none)) := (call_eq ..).trans (by kernel_rfl)

theorem layer_isValue_eq (v1 : Int) : layer_isValue v1 =
   (if (decide (v1 ≥ 0)) = true then
    some (decide (v1 ≤ 255))
    else
    some false) := (call_eq ..).trans (by kernel_rfl)
end
end Go.Proofs.YtmdlomednkfcoaaGreat.P
