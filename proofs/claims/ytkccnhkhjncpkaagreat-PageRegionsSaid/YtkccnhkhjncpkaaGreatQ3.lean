/- The equations of functions. Printed by wip/tool/vsym.py. -/
import Derived.Test.YtkccnhkhjncpkaaGreatG
import Derived.Test.YtkccnhkhjncpkaaGreatLib
namespace Go.Proofs.YtkccnhkhjncpkaaGreat.P
open Go Go.Proofs.YtkccnhkhjncpkaaGreat.V
set_option linter.unusedVariables false
set_option linter.unusedSimpArgs false
set_option maxRecDepth 100000
noncomputable section
theorem ref05_inside_eq (b1 : Int) (b2 : Int) (b3 : List Int) (x4 : Int) (y5 : Int) : ref05_inside b1 b2 b3 x4 y5 =
   (if (decide (x4 ≥ 0)) = true then
    (if (decide (y5 ≥ 0)) = true then
     (if (decide (x4 < b1)) = true then
      some (decide (y5 < b2))
      else
      some false)
     else
     some false)
    else
    some false) := (call_eq ..).trans (by kernel_rfl)

theorem ref07_none_eq (skip1 : Int) (skip2 : Int) (skip3 : List Int) : ref07_none skip1 skip2 skip3 =
   (if (decide (skip1 = 0)) = true then
    some (decide (skip2 = 0))
    else
    some false) := (call_eq ..).trans (by kernel_rfl)

theorem ref02_Likely_eq (kind1 : Int) (state2 : Int) : ref02_Likely kind1 state2 =
   (if (decide (kind1 = 0)) = true then
    let t3 : Int := state2.tmod 32;
    (ref02_unlikely t3).bind fun (q4 : Int) =>
    (if (decide (state2 < 32)) = true then
     some q4
     else
     let t5 : Int := state2.tmod 32;
     (ref02_unlikely t5).bind fun (q6 : Int) =>
     let t7 : Int := IntKind.i64.wrap (4096 - q6);
     some t7)
    else
    let t8 : Int := IntKind.i64.wrap (state2.tdiv 256);
    let t9 : Int := state2.tmod 256;
    let t10 : Int := IntKind.i64.wrap (2 * t9);
    let t11 : Int := IntKind.i64.wrap (t10 + 1);
    let t12 : Int := IntKind.i64.wrap (t11 * 4096);
    let t13 : Int := IntKind.i64.wrap (2 * t8);
    let t14 : Int := IntKind.i64.wrap (2 * t9);
    let t15 : Int := IntKind.i64.wrap (t13 + t14);
    let t16 : Int := IntKind.i64.wrap (t15 + 2);
    (if t16 = 0 then
     none
     else
     let t17 : Int := IntKind.i64.wrap (t12.tdiv t16);
     let t18 : Int := imax t17 1;
     let t19 : Int := imin t18 4095;
     some t19)) := (call_eq ..).trans (by kernel_rfl)

theorem ref02_Interval_Part_eq (x1 : Int) (x2 : Int) (p3 : Int) (bit4 : Int) : ref02_Interval_Part x1 x2 p3 bit4 =
   (if (decide (bit4 = 1)) = true then
    (ref02_Interval_Mid x1 x2 p3).bind fun (q5 : Int) =>
    some (x1, q5)
    else
    (ref02_Interval_Mid x1 x2 p3).bind fun (q6 : Int) =>
    let t7 : Int := IntKind.u64.wrap (q6 + 1);
    some (t7, x2)) := (call_eq ..).trans (by kernel_rfl)

theorem ref02_After_eq (kind1 : Int) (state2 : Int) (bit3 : Int) : ref02_After kind1 state2 bit3 =
   (if (decide (kind1 = 0)) = true then
    let t4 : Int := IntKind.i64.wrap (state2.tdiv 32);
    let t5 : Int := state2.tmod 32;
    (if (decide (bit3 = t4)) = true then
     let t6 : Int := IntKind.i64.wrap (32 * t4);
     let t7 : Int := IntKind.i64.wrap (t5 + 1);
     let t8 : Int := imin t7 31;
     let t9 : Int := IntKind.i64.wrap (t6 + t8);
     some t9
     else
     (if (decide (t5 = 0)) = true then
      let t10 : Int := IntKind.i64.wrap (32 * bit3);
      some t10
      else
      let t11 : Int := IntKind.i64.wrap (32 * t4);
      let t12 : Int := IntKind.i64.wrap (t11 + t5);
      let t13 : Int := IntKind.i64.wrap (t12 - 1);
      let t14 : Int := IntKind.i64.wrap (t5.tdiv 4);
      let t15 : Int := IntKind.i64.wrap (t13 - t14);
      some t15))
    else
    let t16 : Int := IntKind.i64.wrap (state2.tdiv 256);
    let t17 : Int := state2.tmod 256;
    (if 0 ≤ bit3 ∧ bit3 < ((2 : Nat) : Int) then
     let t18 : Int := rd [t16, t17] bit3;
     ((if (decide (t18 = 255)) = true then
       (if 0 ≤ (0 : Int) ∧ (0 : Int) < ((2 : Nat) : Int) then
        let t19 : Int := IntKind.i64.wrap (t16.tdiv 2);
        (if 0 ≤ (1 : Int) ∧ (1 : Int) < ((2 : Nat) : Int) then
         let t20 : Int := IntKind.i64.wrap (t17.tdiv 2);
         (if 0 ≤ (0 : Int) ∧ (0 : Int) < ((2 : Nat) : Int) then
          (if 0 ≤ (1 : Int) ∧ (1 : Int) < ((2 : Nat) : Int) then
           some (t19, t20)
           else
           none)
          else
          none)
         else
         none)
        else
        none)
       else
       some (t16, t17)) : Option (Int × Int)).bind (fun (p21 : Int × Int) =>
      let b22 : Int := p21.1;
      let b23 : Int := p21.2;
      (if 0 ≤ bit3 ∧ bit3 < ((2 : Nat) : Int) then
       let t24 : Int := rd [b22, b23] bit3;
       let t25 : Int := IntKind.i64.wrap (t24 + 1);
       (if 0 ≤ bit3 ∧ bit3 < ((2 : Nat) : Int) then
        let c26 : Int := if bit3 = 0 then t25 else b22;
        let c27 : Int := if bit3 = 1 then t25 else b23;
        (if 0 ≤ (0 : Int) ∧ (0 : Int) < ((2 : Nat) : Int) then
         let t28 : Int := IntKind.i64.wrap (256 * c26);
         (if 0 ≤ (1 : Int) ∧ (1 : Int) < ((2 : Nat) : Int) then
          let t29 : Int := IntKind.i64.wrap (t28 + c27);
          some t29
          else
          none)
         else
         none)
        else
        none)
       else
       none))
     else
     none)) := (call_eq ..).trans (by kernel_rfl)

theorem ref02_Interval_Fixed_eq (x1 : Int) (x2 : Int) : ref02_Interval_Fixed x1 x2 =
   let t3 : Int := ishr .u64 x1 24;
   let t4 : Int := ishr .u64 x2 24;
   some (decide (t3 = t4)) := (call_eq ..).trans (by kernel_rfl)

theorem ref02_Interval_Shifted_eq (x1 : Int) (x2 : Int) : ref02_Interval_Shifted x1 x2 =
   let t3 : Int := x1.tmod 16777216;
   let t4 : Int := IntKind.u64.wrap (t3 * 256);
   let t5 : Int := x2.tmod 16777216;
   let t6 : Int := IntKind.u64.wrap (t5 * 256);
   let t7 : Int := IntKind.u64.wrap (t6 + 255);
   some (t4, t7) := (call_eq ..).trans (by kernel_rfl)

noncomputable def prefix_lines_loop3 (l1 : List Arr4) (s2 : Int × (List Line)) : Option ((Int × (List Line)) ⊕ ((List Line))) :=
   let v3 : Int := s2.1;
   let out4 : List Line := s2.2;
   (if (decide (v3 < ((l1.length : Nat) : Int))) = true then
    (if 0 ≤ v3 then
     (l1[v3.toNat]?).bind fun e5 =>
     (if 0 ≤ (0 : Int) ∧ (0 : Int) < ((4 : Nat) : Int) then
      (if 0 ≤ (1 : Int) ∧ (1 : Int) < ((4 : Nat) : Int) then
       (if 0 ≤ (2 : Int) ∧ (2 : Int) < ((4 : Nat) : Int) then
        (if 0 ≤ (3 : Int) ∧ (3 : Int) < ((4 : Nat) : Int) then
         (if (out4.length + ([(Line.mk e5.a0 e5.a1 e5.a2 e5.a3)] : List Line).length) * 32 ≤ 140737488355328 then
          let t6 : List Line := out4 ++ [(Line.mk e5.a0 e5.a1 e5.a2 e5.a3)];
          let t7 : Int := IntKind.i64.wrap (v3 + 1);
          some (Sum.inl (t7, t6))
          else
          none)
         else
         none)
        else
        none)
       else
       none)
      else
      none)
     else
     none)
    else
    some (Sum.inr out4))
noncomputable def prefix_lines_loop3_step (i8 : Nat) (x9 : Arr4) (s10 : (List Line)) : Option (((List Line)) ⊕ ((List Line))) :=
   (if 0 ≤ (0 : Int) ∧ (0 : Int) < ((4 : Nat) : Int) then
    (if 0 ≤ (1 : Int) ∧ (1 : Int) < ((4 : Nat) : Int) then
     (if 0 ≤ (2 : Int) ∧ (2 : Int) < ((4 : Nat) : Int) then
      (if 0 ≤ (3 : Int) ∧ (3 : Int) < ((4 : Nat) : Int) then
       (if (s10.length + ([(Line.mk x9.a0 x9.a1 x9.a2 x9.a3)] : List Line).length) * 32 ≤ 140737488355328 then
        let t6 : List Line := s10 ++ [(Line.mk x9.a0 x9.a1 x9.a2 x9.a3)];
        some (Sum.inl (t6))
        else
        none)
       else
       none)
      else
      none)
     else
     none)
    else
    none)
theorem prefix_lines_loop3_overAt (l1 : List Arr4) (hl : l1.length ≤ 4611686018427387904) (k : Nat) (s10 : (List Line)) (hk : k ≤ l1.length) : loop (prefix_lines_loop3 l1) ((((k : Nat) : Int), s10) : Int × (List Line)) =
    overL (prefix_lines_loop3_step) (fun (s10 : (List Line)) => some s10) k (l1.drop k) s10 := by
  refine loop_over l1 (fun n (s : (List Line)) => ((((n : Nat) : Int), s) : Int × (List Line))) _ _ (fun s => ?_) (fun i x s h => ?_) k s10 hk
  · unfold prefix_lines_loop3; simp
  · have hlt := lt_len_of_get h
    have h1 : ((i : Nat) : Int) < ((l1.length : Nat) : Int) := by omega
    have h0 : (0 : Int) ≤ ((i : Nat) : Int) := by omega
    have hw : IntKind.i64.wrap (((i : Nat) : Int) + 1) = (((i + 1 : Nat) : Nat) : Int) := w64 (by omega)
    unfold prefix_lines_loop3 prefix_lines_loop3_step
    simp only [h1, h0, hw, h, decide_true, if_true, and_self, true_and, Int.toNat_natCast, Option.bind_some, Option.map_bind, Function.comp_def, map_ite, map_elim, Option.map_some, Option.map_none]
theorem prefix_lines_loop3_over (l1 : List Arr4) (hl : l1.length ≤ 4611686018427387904) (s10 : (List Line)) : loop (prefix_lines_loop3 l1) ((0, s10) : Int × (List Line)) =
    overL (prefix_lines_loop3_step) (fun (s10 : (List Line)) => some s10) 0 l1 s10 := prefix_lines_loop3_overAt l1 hl 0 s10 (Nat.zero_le _)

theorem prefix_lines_eq (l1 : List Arr4) : prefix_lines l1 =
   (loop (prefix_lines_loop3 l1) (0, [])).bind (fun (out11 : (List Line)) =>
    some out11) := (call_eq ..).trans (by kernel_rfl)

noncomputable def prefix_Valid_loop4 (a1 : List Line) (v2 : Int) : Option ((Int) ⊕ ((Unit) ⊕ (Bool))) :=
   (if (decide (v2 < ((a1.length : Nat) : Int))) = true then
    (if 0 ≤ v2 then
     (a1[v2.toNat]?).bind fun e3 =>
     (prefix_isLine e3.length e3.bits e3.low e3.kind).bind fun (q4 : Bool) =>
     (if (!q4) = true then
      some (Sum.inr (Sum.inr false))
      else
      let t5 : Int := IntKind.i64.wrap (v2 + 1);
      some (Sum.inl t5))
     else
     none)
    else
    some (Sum.inr (Sum.inl ())))
noncomputable def prefix_Valid_loop4_step (i6 : Nat) (x7 : Line) (s8 : Unit) : Option ((Unit) ⊕ ((Unit) ⊕ (Bool))) :=
   (prefix_isLine x7.length x7.bits x7.low x7.kind).bind fun (q4 : Bool) =>
   (if (!q4) = true then
    some (Sum.inr (Sum.inr false))
    else
    some (Sum.inl (())))
theorem prefix_Valid_loop4_overAt (a1 : List Line) (hl : a1.length ≤ 4611686018427387904) (k : Nat) (s8 : Unit) (hk : k ≤ a1.length) : loop (prefix_Valid_loop4 a1) (((k : Nat) : Int) : Int) =
    overL (prefix_Valid_loop4_step) (fun (s8 : Unit) => some (Sum.inl ())) k (a1.drop k) s8 := by
  refine loop_over a1 (fun n (s : Unit) => (((n : Nat) : Int) : Int)) _ _ (fun s => ?_) (fun i x s h => ?_) k s8 hk
  · unfold prefix_Valid_loop4; simp
  · have hlt := lt_len_of_get h
    have h1 : ((i : Nat) : Int) < ((a1.length : Nat) : Int) := by omega
    have h0 : (0 : Int) ≤ ((i : Nat) : Int) := by omega
    have hw : IntKind.i64.wrap (((i : Nat) : Int) + 1) = (((i + 1 : Nat) : Nat) : Int) := w64 (by omega)
    unfold prefix_Valid_loop4 prefix_Valid_loop4_step
    simp only [h1, h0, hw, h, decide_true, if_true, and_self, true_and, Int.toNat_natCast, Option.bind_some, Option.map_bind, Function.comp_def, map_ite, map_elim, Option.map_some, Option.map_none]
theorem prefix_Valid_loop4_over (a1 : List Line) (hl : a1.length ≤ 4611686018427387904) (s8 : Unit) : loop (prefix_Valid_loop4 a1) (0 : Int) =
    overL (prefix_Valid_loop4_step) (fun (s8 : Unit) => some (Sum.inl ())) 0 a1 s8 := prefix_Valid_loop4_overAt a1 hl 0 s8 (Nat.zero_le _)

theorem prefix_Valid_eq (a1 : List Line) : prefix_Valid a1 =
   (if (decide (((a1.length : Nat) : Int) > 64)) = true then
    some false
    else
    (loop (prefix_Valid_loop4 a1) 0).bind (fun (o11 : (Unit) ⊕ (Bool)) =>
     (Sum.elim (fun (p9 : Unit) =>
       (prefix_weight a1).bind fun (q12 : Int × Int × Int) =>
       let tr13 : Int := q12.1;
       let tr14 : Int := q12.2.1;
       let tr15 : Int := q12.2.2;
       (if (decide (tr14 > 0)) = true then
        (if (decide (tr15 ≤ 1)) = true then
         some (decide (tr13 ≤ 32768))
         else
         some false)
        else
        some false))
      (fun (v10 : Bool) =>
       some v10) o11))) := (call_eq ..).trans (by kernel_rfl)

noncomputable def prefix_codes_loop8 (a1 : List Line) (length4 : Int) (s10 : Int × (List Code) × Int × Int) : Option ((Int × (List Code) × Int × Int) ⊕ ((List Code) × Int × Int)) :=
   let v11 : Int := s10.1;
   let b12 : List Code := s10.2.1;
   let b13 : Int := s10.2.2.1;
   let b14 : Int := s10.2.2.2;
   (if (decide (v11 < ((a1.length : Nat) : Int))) = true then
    (if 0 ≤ v11 then
     (a1[v11.toNat]?).bind fun e15 =>
     (if (decide (e15.length = length4)) = true then
      (if 0 ≤ v11 ∧ v11 < (b12.length : Int) then
       (b12[v11.toNat]?).bind fun e16 =>
       let w17 : List Code := b12.set v11.toNat (Code.mk b13 b14);
       let t18 : Int := IntKind.i64.wrap (b13 + 1);
       let t19 : Int := IntKind.i64.wrap (v11 + 1);
       some (Sum.inl (t19, w17, t18, b14))
       else
       none)
      else
      let t20 : Int := IntKind.i64.wrap (v11 + 1);
      some (Sum.inl (t20, b12, b13, b14)))
     else
     none)
    else
    some (Sum.inr (b12, b13, b14)))
noncomputable def prefix_codes_loop8_step (length4 : Int) (i21 : Nat) (x22 : Line) (s23 : (List Code) × Int × Int) : Option (((List Code) × Int × Int) ⊕ ((List Code) × Int × Int)) :=
   let b24 : List Code := s23.1;
   let b25 : Int := s23.2.1;
   let b26 : Int := s23.2.2;
   (if (decide (x22.length = length4)) = true then
    (if 0 ≤ ((i21 : Nat) : Int) ∧ ((i21 : Nat) : Int) < (b24.length : Int) then
     (b24[((i21 : Nat) : Int).toNat]?).bind fun e16 =>
     let w17 : List Code := b24.set ((i21 : Nat) : Int).toNat (Code.mk b25 b26);
     let t18 : Int := IntKind.i64.wrap (b25 + 1);
     some (Sum.inl ((w17, t18, b26)))
     else
     none)
    else
    some (Sum.inl ((b24, b25, b26))))
theorem prefix_codes_loop8_overAt (a1 : List Line) (length4 : Int) (hl : a1.length ≤ 4611686018427387904) (k : Nat) (s23 : (List Code) × Int × Int) (hk : k ≤ a1.length) : loop (prefix_codes_loop8 a1 length4) ((((k : Nat) : Int), s23.1, s23.2.1, s23.2.2) : Int × (List Code) × Int × Int) =
    overL (prefix_codes_loop8_step length4) (fun (s23 : (List Code) × Int × Int) => let b24 : List Code := s23.1; let b25 : Int := s23.2.1; let b26 : Int := s23.2.2; some (b24, b25, b26)) k (a1.drop k) s23 := by
  refine loop_over a1 (fun n (s : (List Code) × Int × Int) => ((((n : Nat) : Int), s.1, s.2.1, s.2.2) : Int × (List Code) × Int × Int)) _ _ (fun s => ?_) (fun i x s h => ?_) k s23 hk
  · unfold prefix_codes_loop8; simp
  · have hlt := lt_len_of_get h
    have h1 : ((i : Nat) : Int) < ((a1.length : Nat) : Int) := by omega
    have h0 : (0 : Int) ≤ ((i : Nat) : Int) := by omega
    have hw : IntKind.i64.wrap (((i : Nat) : Int) + 1) = (((i + 1 : Nat) : Nat) : Int) := w64 (by omega)
    unfold prefix_codes_loop8 prefix_codes_loop8_step
    simp only [h1, h0, hw, h, decide_true, if_true, and_self, true_and, Int.toNat_natCast, Option.bind_some, Option.map_bind, Function.comp_def, map_ite, map_elim, Option.map_some, Option.map_none]
theorem prefix_codes_loop8_over (a1 : List Line) (length4 : Int) (hl : a1.length ≤ 4611686018427387904) (s23 : (List Code) × Int × Int) : loop (prefix_codes_loop8 a1 length4) ((0, s23.1, s23.2.1, s23.2.2) : Int × (List Code) × Int × Int) =
    overL (prefix_codes_loop8_step length4) (fun (s23 : (List Code) × Int × Int) => let b24 : List Code := s23.1; let b25 : Int := s23.2.1; let b26 : Int := s23.2.2; some (b24, b25, b26)) 0 a1 s23 := prefix_codes_loop8_overAt a1 length4 hl 0 s23 (Nat.zero_le _)

noncomputable def prefix_codes_loop4 (a1 : List Line) (s3 : Int × (List Code) × Int × Int) : Option ((Int × (List Code) × Int × Int) ⊕ ((List Code) × Int × Int)) :=
   let length4 : Int := s3.1;
   let b5 : List Code := s3.2.1;
   let b6 : Int := s3.2.2.1;
   let b7 : Int := s3.2.2.2;
   (if (decide (length4 ≤ 15)) = true then
    let t8 : Int := IntKind.i64.wrap (length4 - b7);
    (if t8 < 0 then
     none
     else
     let t9 : Int := ishl .i64 b6 t8;
     (loop (prefix_codes_loop8 a1 length4) (0, b5, t9, length4)).bind (fun (p27 : (List Code) × Int × Int) =>
      let b28 : List Code := p27.1;
      let b29 : Int := p27.2.1;
      let b30 : Int := p27.2.2;
      let t31 : Int := IntKind.i64.wrap (length4 + 1);
      some (Sum.inl (t31, b28, b29, b30))))
    else
    some (Sum.inr (b5, b6, b7)))
theorem prefix_codes_eq (a1 : List Line) : prefix_codes a1 =
   (if 0 ≤ ((a1.length : Nat) : Int) ∧ ((a1.length : Nat) : Int) ≤ ((a1.length : Nat) : Int) ∧ ((16 : Nat) : Int) * ((a1.length : Nat) : Int) ≤ 281474976710656 then
    let t2 : List Code := List.replicate ((a1.length : Nat) : Int).toNat (Code.mk 0 0);
    (loop (prefix_codes_loop4 a1) (1, t2, 0, 1)).bind (fun (p32 : (List Code) × Int × Int) =>
     let b33 : List Code := p32.1;
     let b34 : Int := p32.2.1;
     let b35 : Int := p32.2.2;
     some b33)
    else
    none) := (call_eq ..).trans (by kernel_rfl)

theorem prefix_put_eq (a1 : List Line) (l2 : List Code) (n3 : Bool) (n4 : Int) : prefix_put a1 l2 n3 n4 =
   (prefix_line a1 n3 n4).bind fun (q5 : Int × Int) =>
   let tr6 : Int := q5.1;
   let tr7 : Int := q5.2;
   (if (decide (tr6 < 0)) = true then
    some (5, [])
    else
    (if 0 ≤ tr6 then
     (l2[tr6.toNat]?).bind fun e8 =>
     (if 0 ≤ tr6 then
      (l2[tr6.toNat]?).bind fun e9 =>
      (prefix_digits e8.bits e9.length).bind fun (q10 : (List Int)) =>
      (if 0 ≤ tr6 then
       (a1[tr6.toNat]?).bind fun e11 =>
       (prefix_digits tr7 e11.bits).bind fun (q12 : (List Int)) =>
       (if (q10.length + q12.length) * 1 ≤ 140737488355328 then
        let t13 : List Int := q10 ++ q12;
        some (0, t13)
        else
        none)
       else
       none)
      else
      none)
     else
     none)) := (call_eq ..).trans (by kernel_rfl)

theorem ref04_Standard_eq (k1 : Int) : ref04_Standard k1 =
   (if (decide (k1 = 0)) = true then
    some [(Line.mk 1 0 0 0), (Line.mk 2 1 1 0), (Line.mk 3 3 3 0), (Line.mk 4 5 11 0), (Line.mk 5 8 43 0), (Line.mk 5 20 299 0)]
    else
    (if (decide (k1 = 1)) = true then
     some [(Line.mk 1 2 0 0), (Line.mk 2 4 4 0), (Line.mk 3 8 20 0), (Line.mk 4 20 (-1) 1), (Line.mk 4 0 0 2)]
     else
     (if (decide (k1 = 2)) = true then
      some [(Line.mk 1 0 0 0), (Line.mk 3 2 1 0), (Line.mk 3 2 (-1) 1), (Line.mk 3 20 5 0), (Line.mk 3 20 (-5) 1)]
      else
      some []))) := (call_eq ..).trans (by kernel_rfl)

noncomputable def ref04_Bits_loop3 (a1 : List Line) (n2 : Bool) (n3 : Int) (s4 : Int × Int) : Option ((Int × Int) ⊕ (Int)) :=
   let best5 : Int := s4.1;
   let v6 : Int := s4.2;
   (if (decide (v6 < ((a1.length : Nat) : Int))) = true then
    (if 0 ≤ v6 then
     (a1[v6.toNat]?).bind fun e7 =>
     (ref04_Place e7.length e7.bits e7.low e7.kind n2 n3).bind fun (q8 : Int × Bool) =>
     let tr9 : Int := q8.1;
     let tr10 : Bool := q8.2;
     (ref04_used e7.length e7.bits e7.low e7.kind).bind fun (q11 : Bool) =>
     (if q11 = true then
      (if tr10 = true then
       (if (decide (best5 < 0)) = true then
        let t12 : Int := IntKind.i64.wrap (v6 + 1);
        some (Sum.inl (v6, t12))
        else
        let t13 : Int := IntKind.i64.wrap (e7.length + e7.bits);
        (if 0 ≤ best5 then
         (a1[best5.toNat]?).bind fun e14 =>
         (if 0 ≤ best5 then
          (a1[best5.toNat]?).bind fun e15 =>
          let t16 : Int := IntKind.i64.wrap (e14.length + e15.bits);
          (if (decide (t13 < t16)) = true then
           let t17 : Int := IntKind.i64.wrap (v6 + 1);
           some (Sum.inl (v6, t17))
           else
           let t18 : Int := IntKind.i64.wrap (v6 + 1);
           some (Sum.inl (best5, t18)))
          else
          none)
         else
         none))
       else
       let t19 : Int := IntKind.i64.wrap (v6 + 1);
       some (Sum.inl (best5, t19)))
      else
      let t20 : Int := IntKind.i64.wrap (v6 + 1);
      some (Sum.inl (best5, t20)))
     else
     none)
    else
    some (Sum.inr best5))
noncomputable def ref04_Bits_loop3_step (a1 : List Line) (n2 : Bool) (n3 : Int) (i21 : Nat) (x22 : Line) (s23 : Int) : Option ((Int) ⊕ (Int)) :=
   (ref04_Place x22.length x22.bits x22.low x22.kind n2 n3).bind fun (q8 : Int × Bool) =>
   let tr9 : Int := q8.1;
   let tr10 : Bool := q8.2;
   (ref04_used x22.length x22.bits x22.low x22.kind).bind fun (q11 : Bool) =>
   (if q11 = true then
    (if tr10 = true then
     (if (decide (s23 < 0)) = true then
      some (Sum.inl (((i21 : Nat) : Int)))
      else
      let t13 : Int := IntKind.i64.wrap (x22.length + x22.bits);
      (if 0 ≤ s23 then
       (a1[s23.toNat]?).bind fun e14 =>
       (if 0 ≤ s23 then
        (a1[s23.toNat]?).bind fun e15 =>
        let t16 : Int := IntKind.i64.wrap (e14.length + e15.bits);
        (if (decide (t13 < t16)) = true then
         some (Sum.inl (((i21 : Nat) : Int)))
         else
         some (Sum.inl (s23)))
        else
        none)
       else
       none))
     else
     some (Sum.inl (s23)))
    else
    some (Sum.inl (s23)))
theorem ref04_Bits_loop3_overAt (a1 : List Line) (n2 : Bool) (n3 : Int) (hl : a1.length ≤ 4611686018427387904) (k : Nat) (s23 : Int) (hk : k ≤ a1.length) : loop (ref04_Bits_loop3 a1 n2 n3) ((s23, ((k : Nat) : Int)) : Int × Int) =
    overL (ref04_Bits_loop3_step a1 n2 n3) (fun (s23 : Int) => some s23) k (a1.drop k) s23 := by
  refine loop_over a1 (fun n (s : Int) => ((s, ((n : Nat) : Int)) : Int × Int)) _ _ (fun s => ?_) (fun i x s h => ?_) k s23 hk
  · unfold ref04_Bits_loop3; simp
  · have hlt := lt_len_of_get h
    have h1 : ((i : Nat) : Int) < ((a1.length : Nat) : Int) := by omega
    have h0 : (0 : Int) ≤ ((i : Nat) : Int) := by omega
    have hw : IntKind.i64.wrap (((i : Nat) : Int) + 1) = (((i + 1 : Nat) : Nat) : Int) := w64 (by omega)
    unfold ref04_Bits_loop3 ref04_Bits_loop3_step
    simp only [h1, h0, hw, h, decide_true, if_true, and_self, true_and, Int.toNat_natCast, Option.bind_some, Option.map_bind, Function.comp_def, map_ite, map_elim, Option.map_some, Option.map_none]
theorem ref04_Bits_loop3_over (a1 : List Line) (n2 : Bool) (n3 : Int) (hl : a1.length ≤ 4611686018427387904) (s23 : Int) : loop (ref04_Bits_loop3 a1 n2 n3) ((s23, 0) : Int × Int) =
    overL (ref04_Bits_loop3_step a1 n2 n3) (fun (s23 : Int) => some s23) 0 a1 s23 := ref04_Bits_loop3_overAt a1 n2 n3 hl 0 s23 (Nat.zero_le _)

theorem ref04_Bits_eq (a1 : List Line) (n2 : Bool) (n3 : Int) : ref04_Bits a1 n2 n3 =
   (loop (ref04_Bits_loop3 a1 n2 n3) ((-1), 0)).bind (fun (best24 : Int) =>
    (if (decide (best24 < 0)) = true then
     some ([], false)
     else
     (if 0 ≤ best24 then
      (a1[best24.toNat]?).bind fun e25 =>
      (ref04_Place e25.length e25.bits e25.low e25.kind n2 n3).bind fun (q26 : Int × Bool) =>
      let tr27 : Int := q26.1;
      let tr28 : Bool := q26.2;
      (ref04_Code a1 best24).bind fun (q29 : (List Int)) =>
      (if 0 ≤ best24 then
       (a1[best24.toNat]?).bind fun e30 =>
       (ref04_digits tr27 e30.bits).bind fun (q31 : (List Int)) =>
       (if (q29.length + q31.length) * 1 ≤ 140737488355328 then
        let t32 : List Int := q29 ++ q31;
        some (t32, true)
        else
        none)
       else
       none)
      else
      none))) := (call_eq ..).trans (by kernel_rfl)

theorem ref06_table_eq (colour1 : Int) : ref06_table colour1 =
   (if (decide (colour1 = 0)) = true then
    some [(Line.mk 2 2 0 0), (Line.mk 2 3 4 0), (Line.mk 2 4 12 0), (Line.mk 2 6 28 0)]
    else
    some [(Line.mk 1 1 0 0), (Line.mk 2 1 2 0), (Line.mk 3 2 4 0), (Line.mk 3 6 8 0)]) := (call_eq ..).trans (by kernel_rfl)

theorem ref06_Choice_eq (above1 : List Int) (row2 : List Int) (a3 : Int) (colour4 : Int) : ref06_Choice above1 row2 a3 colour4 =
   (ref06_change above1 a3 colour4).bind fun (q5 : Int) =>
   (ref06_first above1 q5 colour4).bind fun (q6 : Int) =>
   let t7 : Int := IntKind.i64.wrap (1 - colour4);
   (ref06_first row2 a3 t7).bind fun (q8 : Int) =>
   (if (decide (q6 < q8)) = true then
    (ref06_bitsOf [48, 48, 48, 49]).bind fun (q9 : (List Int)) =>
    some ([112, 97, 115, 115], q9, q6, colour4)
    else
    let t10 : Int := IntKind.i64.wrap (q8 - q5);
    ((if (decide (t10 ≥ (-3))) = true then
      some (decide (t10 ≤ 3))
      else
      some false) : Option (Bool)).bind (fun (v11 : Bool) =>
     (if v11 = true then
      (ref06_name t10).bind fun (q12 : (List Int)) =>
      (ref06_upright t10).bind fun (q13 : (List Int)) =>
      (ref06_bitsOf q13).bind fun (q14 : (List Int)) =>
      let t15 : Int := IntKind.i64.wrap (1 - colour4);
      some (q12, q14, q8, t15)
      else
      (ref06_first row2 q8 colour4).bind fun (q16 : Int) =>
      (ref06_bitsOf [48, 48, 49]).bind fun (q17 : (List Int)) =>
      let t18 : Int := imax a3 0;
      let t19 : Int := IntKind.i64.wrap (q8 - t18);
      (ref06_RunBits t19 colour4).bind fun (q20 : (List Int)) =>
      (if (q17.length + q20.length) * 1 ≤ 140737488355328 then
       let t21 : List Int := q17 ++ q20;
       let t22 : Int := IntKind.i64.wrap (q16 - q8);
       let t23 : Int := IntKind.i64.wrap (1 - colour4);
       (ref06_RunBits t22 t23).bind fun (q24 : (List Int)) =>
       (if (t21.length + q24.length) * 1 ≤ 140737488355328 then
        let t25 : List Int := t21 ++ q24;
        some ([102, 108, 97, 116], t25, q16, colour4)
        else
        none)
       else
       none)))) := (call_eq ..).trans (by kernel_rfl)

theorem refine_fresh_eq (template1 : Int) : refine_fresh template1 =
   (if (decide (template1 = 0)) = true then
    some [(Arr2.mk (-1) (-1)), (Arr2.mk 0 (-1)), (Arr2.mk 1 (-1)), (Arr2.mk (-1) 0)]
    else
    some [(Arr2.mk 0 (-1)), (Arr2.mk (-1) 0)]) := (call_eq ..).trans (by kernel_rfl)

theorem refine_beside_eq : refine_beside =
   some [(Arr2.mk 0 0), (Arr2.mk (-1) 0), (Arr2.mk 1 0), (Arr2.mk 0 (-1)), (Arr2.mk 0 1)] := (call_eq ..).trans (by kernel_rfl)

theorem coder_table_chance_eq (kind1 : Int) (s2 : Int) : coder_table_chance kind1 s2 =
   (if (decide (kind1 = 1)) = true then
    let t3 : Int := IntKind.i64.wrap (s2.tdiv 256);
    let t4 : Int := s2.tmod 256;
    let t5 : Int := IntKind.i64.wrap (2 * t4);
    let t6 : Int := IntKind.i64.wrap (t5 + 1);
    let t7 : Int := IntKind.i64.wrap (t6 * 4096);
    let t8 : Int := IntKind.i64.wrap (2 * t3);
    let t9 : Int := IntKind.i64.wrap (2 * t4);
    let t10 : Int := IntKind.i64.wrap (t8 + t9);
    let t11 : Int := IntKind.i64.wrap (t10 + 2);
    (if t11 = 0 then
     none
     else
     let t12 : Int := IntKind.i64.wrap (t7.tdiv t11);
     let t13 : Int := imax t12 1;
     let t14 : Int := imin t13 4095;
     some t14)
    else
    (if (decide (s2 ≥ 32)) = true then
     let t15 : Int := IntKind.i64.wrap (s2 - 32);
     (if 0 ≤ t15 ∧ t15 < ((32 : Nat) : Int) then
      let t16 : Int := rd [2048, 1792, 1568, 1372, 1201, 1051, 920, 805, 705, 617, 540, 473, 414, 363, 318, 279, 245, 215, 189, 166, 146, 128, 112, 98, 86, 76, 67, 59, 52, 46, 41, 36] t15;
      let t17 : Int := IntKind.i64.wrap (4096 - t16);
      some t17
      else
      none)
     else
     (if 0 ≤ s2 ∧ s2 < ((32 : Nat) : Int) then
      let t18 : Int := rd [2048, 1792, 1568, 1372, 1201, 1051, 920, 805, 705, 617, 540, 473, 414, 363, 318, 279, 245, 215, 189, 166, 146, 128, 112, 98, 86, 76, 67, 59, 52, 46, 41, 36] s2;
      some t18
      else
      none))) := (call_eq ..).trans (by kernel_rfl)

theorem coder_next_eq (kind1 : Int) (s2 : Int) (bit3 : Int) : coder_next kind1 s2 bit3 =
   (if (decide (kind1 = 1)) = true then
    let t4 : Int := IntKind.i64.wrap (s2.tdiv 256);
    let t5 : Int := s2.tmod 256;
    (if 0 ≤ bit3 ∧ bit3 < ((2 : Nat) : Int) then
     let t6 : Int := rd [t4, t5] bit3;
     ((if (decide (t6 = 255)) = true then
       (if 0 ≤ (0 : Int) ∧ (0 : Int) < ((2 : Nat) : Int) then
        let t7 : Int := IntKind.i64.wrap (t4.tdiv 2);
        (if 0 ≤ (1 : Int) ∧ (1 : Int) < ((2 : Nat) : Int) then
         let t8 : Int := IntKind.i64.wrap (t5.tdiv 2);
         (if 0 ≤ (0 : Int) ∧ (0 : Int) < ((2 : Nat) : Int) then
          (if 0 ≤ (1 : Int) ∧ (1 : Int) < ((2 : Nat) : Int) then
           some (t7, t8)
           else
           none)
          else
          none)
         else
         none)
        else
        none)
       else
       some (t4, t5)) : Option (Int × Int)).bind (fun (p9 : Int × Int) =>
      let b10 : Int := p9.1;
      let b11 : Int := p9.2;
      (if 0 ≤ bit3 ∧ bit3 < ((2 : Nat) : Int) then
       let t12 : Int := rd [b10, b11] bit3;
       let t13 : Int := IntKind.i64.wrap (t12 + 1);
       (if 0 ≤ bit3 ∧ bit3 < ((2 : Nat) : Int) then
        let c14 : Int := if bit3 = 0 then t13 else b10;
        let c15 : Int := if bit3 = 1 then t13 else b11;
        (if 0 ≤ (0 : Int) ∧ (0 : Int) < ((2 : Nat) : Int) then
         let t16 : Int := IntKind.i64.wrap (256 * c14);
         (if 0 ≤ (1 : Int) ∧ (1 : Int) < ((2 : Nat) : Int) then
          let t17 : Int := IntKind.i64.wrap (t16 + c15);
          some t17
          else
          none)
         else
         none)
        else
        none)
       else
       none))
     else
     none)
    else
    let t18 : Int := IntKind.i64.wrap (s2.tdiv 32);
    let t19 : Int := s2.tmod 32;
    (if (decide (bit3 = t18)) = true then
     let t20 : Int := IntKind.i64.wrap (t19 + 1);
     let t21 : Int := imin t20 31;
     let t22 : Int := IntKind.i64.wrap (32 * t18);
     let t23 : Int := IntKind.i64.wrap (t22 + t21);
     some t23
     else
     (if (decide (t19 = 0)) = true then
      let t24 : Int := IntKind.i64.wrap (32 * bit3);
      let t25 : Int := IntKind.i64.wrap (t24 + t19);
      some t25
      else
      let t26 : Int := IntKind.i64.wrap (t19.tdiv 4);
      let t27 : Int := IntKind.i64.wrap (1 + t26);
      let t28 : Int := IntKind.i64.wrap (t19 - t27);
      let t29 : Int := IntKind.i64.wrap (32 * t18);
      let t30 : Int := IntKind.i64.wrap (t29 + t28);
      some t30))) := (call_eq ..).trans (by kernel_rfl)

noncomputable def ref02_unlikely_loop3 (k1 : Int) (s2 : Int × Int) : Option ((Int × Int) ⊕ (Int)) :=
   let q3 : Int := s2.1;
   let i4 : Int := s2.2;
   (if (decide (i4 < k1)) = true then
    let t5 : Int := IntKind.i64.wrap (q3.tdiv 8);
    let t6 : Int := IntKind.i64.wrap (q3 - t5);
    let t7 : Int := IntKind.i64.wrap (i4 + 1);
    some (Sum.inl (t6, t7))
    else
    some (Sum.inr q3))
noncomputable def ref02_unlikely_loop3_step (i8 : Nat) (x9 : Nat) (s10 : Int) : Option ((Int) ⊕ (Int)) :=
   let t5 : Int := IntKind.i64.wrap (s10.tdiv 8);
   let t6 : Int := IntKind.i64.wrap (s10 - t5);
   some (Sum.inl (t6))
theorem ref02_unlikely_loop3_overAt (k1 : Int) (hl : (List.range (k1).toNat).length ≤ 4611686018427387904) (k : Nat) (s10 : Int) (hk : k ≤ (List.range (k1).toNat).length) : loop (ref02_unlikely_loop3 k1) ((s10, ((k : Nat) : Int)) : Int × Int) =
    overL (ref02_unlikely_loop3_step) (fun (s10 : Int) => some s10) k ((List.range (k1).toNat).drop k) s10 := by
  refine loop_over (List.range (k1).toNat) (fun n (s : Int) => ((s, ((n : Nat) : Int)) : Int × Int)) _ _ (fun s => ?_) (fun i x s h => ?_) k s10 hk
  · have h1 : ¬ (((List.range (k1).toNat).length : Nat) : Int) < k1 := by simp only [List.length_range]; omega
    unfold ref02_unlikely_loop3; simp only [h1, decide_false, Bool.false_eq_true, if_false, Option.map_some]
  · have hlt := lt_len_of_get h
    rw [List.length_range] at hlt hl
    rw [List.getElem?_range hlt] at h
    cases h
    have h1 : ((i : Nat) : Int) < k1 := by omega
    have h0 : (0 : Int) ≤ ((i : Nat) : Int) := by omega
    have hw : IntKind.i64.wrap (((i : Nat) : Int) + 1) = (((i + 1 : Nat) : Nat) : Int) := w64 (by omega)
    unfold ref02_unlikely_loop3 ref02_unlikely_loop3_step
    simp only [h1, h0, hw, decide_true, if_true, and_self, true_and, Int.toNat_natCast, Option.bind_some, Option.map_bind, Function.comp_def, map_ite, map_elim, Option.map_some, Option.map_none]
theorem ref02_unlikely_loop3_over (k1 : Int) (hl : (List.range (k1).toNat).length ≤ 4611686018427387904) (s10 : Int) : loop (ref02_unlikely_loop3 k1) ((s10, 0) : Int × Int) =
    overL (ref02_unlikely_loop3_step) (fun (s10 : Int) => some s10) 0 (List.range (k1).toNat) s10 := ref02_unlikely_loop3_overAt k1 hl 0 s10 (Nat.zero_le _)

theorem ref02_unlikely_eq (k1 : Int) : ref02_unlikely k1 =
   (loop (ref02_unlikely_loop3 k1) (2048, 0)).bind (fun (q11 : Int) =>
    some q11) := (call_eq ..).trans (by kernel_rfl)

theorem ref02_Interval_Mid_eq (x1 : Int) (x2 : Int) (p3 : Int) : ref02_Interval_Mid x1 x2 p3 =
   let t4 : Int := IntKind.u64.wrap (x2 - x1);
   let t5 : Int := IntKind.u64.wrap (t4.tdiv 4096);
   let t6 : Int := IntKind.u64.wrap p3;
   let t7 : Int := IntKind.u64.wrap (t5 * t6);
   let t8 : Int := IntKind.u64.wrap (x1 + t7);
   let t9 : Int := t4.tmod 4096;
   let t10 : Int := IntKind.u64.wrap p3;
   let t11 : Int := IntKind.u64.wrap (t9 * t10);
   let t12 : Int := IntKind.u64.wrap (t11.tdiv 4096);
   let t13 : Int := IntKind.u64.wrap (t8 + t12);
   some t13 := (call_eq ..).trans (by kernel_rfl)

noncomputable def prefix_weight_loop2 (a1 : List Line) (s2 : Int × Int × Int × Int) : Option ((Int × Int × Int × Int) ⊕ (Int × Int × Int)) :=
   let sum3 : Int := s2.1;
   let used4 : Int := s2.2.1;
   let nones5 : Int := s2.2.2.1;
   let v6 : Int := s2.2.2.2;
   (if (decide (v6 < ((a1.length : Nat) : Int))) = true then
    (if 0 ≤ v6 then
     (a1[v6.toNat]?).bind fun e7 =>
     (if (decide (e7.length = 0)) = true then
      let t8 : Int := IntKind.i64.wrap (v6 + 1);
      some (Sum.inl (sum3, used4, nones5, t8))
      else
      let t9 : Int := IntKind.i64.wrap (15 - e7.length);
      (if t9 < 0 then
       none
       else
       let t10 : Int := ishl .i64 1 t9;
       let t11 : Int := IntKind.i64.wrap (sum3 + t10);
       let t12 : Int := IntKind.i64.wrap (used4 + 1);
       (if (decide (e7.kind = 2)) = true then
        let t13 : Int := IntKind.i64.wrap (nones5 + 1);
        let t14 : Int := IntKind.i64.wrap (v6 + 1);
        some (Sum.inl (t11, t12, t13, t14))
        else
        let t15 : Int := IntKind.i64.wrap (v6 + 1);
        some (Sum.inl (t11, t12, nones5, t15)))))
     else
     none)
    else
    some (Sum.inr (sum3, used4, nones5)))
noncomputable def prefix_weight_loop2_step (i16 : Nat) (x17 : Line) (s18 : Int × Int × Int) : Option ((Int × Int × Int) ⊕ (Int × Int × Int)) :=
   let sum19 : Int := s18.1;
   let used20 : Int := s18.2.1;
   let nones21 : Int := s18.2.2;
   (if (decide (x17.length = 0)) = true then
    some (Sum.inl ((sum19, used20, nones21)))
    else
    let t9 : Int := IntKind.i64.wrap (15 - x17.length);
    (if t9 < 0 then
     none
     else
     let t10 : Int := ishl .i64 1 t9;
     let t11 : Int := IntKind.i64.wrap (sum19 + t10);
     let t12 : Int := IntKind.i64.wrap (used20 + 1);
     (if (decide (x17.kind = 2)) = true then
      let t13 : Int := IntKind.i64.wrap (nones21 + 1);
      some (Sum.inl ((t11, t12, t13)))
      else
      some (Sum.inl ((t11, t12, nones21))))))
theorem prefix_weight_loop2_overAt (a1 : List Line) (hl : a1.length ≤ 4611686018427387904) (k : Nat) (s18 : Int × Int × Int) (hk : k ≤ a1.length) : loop (prefix_weight_loop2 a1) ((s18.1, s18.2.1, s18.2.2, ((k : Nat) : Int)) : Int × Int × Int × Int) =
    overL (prefix_weight_loop2_step) (fun (s18 : Int × Int × Int) => let sum19 : Int := s18.1; let used20 : Int := s18.2.1; let nones21 : Int := s18.2.2; some (sum19, used20, nones21)) k (a1.drop k) s18 := by
  refine loop_over a1 (fun n (s : Int × Int × Int) => ((s.1, s.2.1, s.2.2, ((n : Nat) : Int)) : Int × Int × Int × Int)) _ _ (fun s => ?_) (fun i x s h => ?_) k s18 hk
  · unfold prefix_weight_loop2; simp
  · have hlt := lt_len_of_get h
    have h1 : ((i : Nat) : Int) < ((a1.length : Nat) : Int) := by omega
    have h0 : (0 : Int) ≤ ((i : Nat) : Int) := by omega
    have hw : IntKind.i64.wrap (((i : Nat) : Int) + 1) = (((i + 1 : Nat) : Nat) : Int) := w64 (by omega)
    unfold prefix_weight_loop2 prefix_weight_loop2_step
    simp only [h1, h0, hw, h, decide_true, if_true, and_self, true_and, Int.toNat_natCast, Option.bind_some, Option.map_bind, Function.comp_def, map_ite, map_elim, Option.map_some, Option.map_none]
theorem prefix_weight_loop2_over (a1 : List Line) (hl : a1.length ≤ 4611686018427387904) (s18 : Int × Int × Int) : loop (prefix_weight_loop2 a1) ((s18.1, s18.2.1, s18.2.2, 0) : Int × Int × Int × Int) =
    overL (prefix_weight_loop2_step) (fun (s18 : Int × Int × Int) => let sum19 : Int := s18.1; let used20 : Int := s18.2.1; let nones21 : Int := s18.2.2; some (sum19, used20, nones21)) 0 a1 s18 := prefix_weight_loop2_overAt a1 hl 0 s18 (Nat.zero_le _)

theorem prefix_weight_eq (a1 : List Line) : prefix_weight a1 =
   (loop (prefix_weight_loop2 a1) (0, 0, 0, 0)).bind (fun (p22 : Int × Int × Int) =>
    let sum23 : Int := p22.1;
    let used24 : Int := p22.2.1;
    let nones25 : Int := p22.2.2;
    some (sum23, used24, nones25)) := (call_eq ..).trans (by kernel_rfl)

noncomputable def prefix_line_loop3 (a1 : List Line) (n2 : Bool) (n3 : Int) (s4 : Int × Int × Int) : Option ((Int × Int × Int) ⊕ (Int × Int)) :=
   let best5 : Int := s4.1;
   let d6 : Int := s4.2.1;
   let v7 : Int := s4.2.2;
   (if (decide (v7 < ((a1.length : Nat) : Int))) = true then
    (if 0 ≤ v7 then
     (a1[v7.toNat]?).bind fun e8 =>
     (prefix_offset e8.length e8.bits e8.low e8.kind n2 n3).bind fun (q9 : Int × Bool) =>
     let tr10 : Int := q9.1;
     let tr11 : Bool := q9.2;
     (if tr11 = true then
      (if (decide (e8.length > 0)) = true then
       (if (decide (best5 < 0)) = true then
        let t12 : Int := IntKind.i64.wrap (v7 + 1);
        some (Sum.inl (v7, tr10, t12))
        else
        let t13 : Int := IntKind.i64.wrap (e8.length + e8.bits);
        (if 0 ≤ best5 then
         (a1[best5.toNat]?).bind fun e14 =>
         (if 0 ≤ best5 then
          (a1[best5.toNat]?).bind fun e15 =>
          let t16 : Int := IntKind.i64.wrap (e14.length + e15.bits);
          (if (decide (t13 < t16)) = true then
           let t17 : Int := IntKind.i64.wrap (v7 + 1);
           some (Sum.inl (v7, tr10, t17))
           else
           let t18 : Int := IntKind.i64.wrap (v7 + 1);
           some (Sum.inl (best5, d6, t18)))
          else
          none)
         else
         none))
       else
       let t19 : Int := IntKind.i64.wrap (v7 + 1);
       some (Sum.inl (best5, d6, t19)))
      else
      let t20 : Int := IntKind.i64.wrap (v7 + 1);
      some (Sum.inl (best5, d6, t20)))
     else
     none)
    else
    some (Sum.inr (best5, d6)))
noncomputable def prefix_line_loop3_step (a1 : List Line) (n2 : Bool) (n3 : Int) (i21 : Nat) (x22 : Line) (s23 : Int × Int) : Option ((Int × Int) ⊕ (Int × Int)) :=
   let best24 : Int := s23.1;
   let d25 : Int := s23.2;
   (prefix_offset x22.length x22.bits x22.low x22.kind n2 n3).bind fun (q9 : Int × Bool) =>
   let tr10 : Int := q9.1;
   let tr11 : Bool := q9.2;
   (if tr11 = true then
    (if (decide (x22.length > 0)) = true then
     (if (decide (best24 < 0)) = true then
      some (Sum.inl ((((i21 : Nat) : Int), tr10)))
      else
      let t13 : Int := IntKind.i64.wrap (x22.length + x22.bits);
      (if 0 ≤ best24 then
       (a1[best24.toNat]?).bind fun e14 =>
       (if 0 ≤ best24 then
        (a1[best24.toNat]?).bind fun e15 =>
        let t16 : Int := IntKind.i64.wrap (e14.length + e15.bits);
        (if (decide (t13 < t16)) = true then
         some (Sum.inl ((((i21 : Nat) : Int), tr10)))
         else
         some (Sum.inl ((best24, d25))))
        else
        none)
       else
       none))
     else
     some (Sum.inl ((best24, d25))))
    else
    some (Sum.inl ((best24, d25))))
theorem prefix_line_loop3_overAt (a1 : List Line) (n2 : Bool) (n3 : Int) (hl : a1.length ≤ 4611686018427387904) (k : Nat) (s23 : Int × Int) (hk : k ≤ a1.length) : loop (prefix_line_loop3 a1 n2 n3) ((s23.1, s23.2, ((k : Nat) : Int)) : Int × Int × Int) =
    overL (prefix_line_loop3_step a1 n2 n3) (fun (s23 : Int × Int) => let best24 : Int := s23.1; let d25 : Int := s23.2; some (best24, d25)) k (a1.drop k) s23 := by
  refine loop_over a1 (fun n (s : Int × Int) => ((s.1, s.2, ((n : Nat) : Int)) : Int × Int × Int)) _ _ (fun s => ?_) (fun i x s h => ?_) k s23 hk
  · unfold prefix_line_loop3; simp
  · have hlt := lt_len_of_get h
    have h1 : ((i : Nat) : Int) < ((a1.length : Nat) : Int) := by omega
    have h0 : (0 : Int) ≤ ((i : Nat) : Int) := by omega
    have hw : IntKind.i64.wrap (((i : Nat) : Int) + 1) = (((i + 1 : Nat) : Nat) : Int) := w64 (by omega)
    unfold prefix_line_loop3 prefix_line_loop3_step
    simp only [h1, h0, hw, h, decide_true, if_true, and_self, true_and, Int.toNat_natCast, Option.bind_some, Option.map_bind, Function.comp_def, map_ite, map_elim, Option.map_some, Option.map_none]
theorem prefix_line_loop3_over (a1 : List Line) (n2 : Bool) (n3 : Int) (hl : a1.length ≤ 4611686018427387904) (s23 : Int × Int) : loop (prefix_line_loop3 a1 n2 n3) ((s23.1, s23.2, 0) : Int × Int × Int) =
    overL (prefix_line_loop3_step a1 n2 n3) (fun (s23 : Int × Int) => let best24 : Int := s23.1; let d25 : Int := s23.2; some (best24, d25)) 0 a1 s23 := prefix_line_loop3_overAt a1 n2 n3 hl 0 s23 (Nat.zero_le _)

theorem prefix_line_eq (a1 : List Line) (n2 : Bool) (n3 : Int) : prefix_line a1 n2 n3 =
   (loop (prefix_line_loop3 a1 n2 n3) ((-1), 0, 0)).bind (fun (p26 : Int × Int) =>
    let best27 : Int := p26.1;
    let d28 : Int := p26.2;
    some (best27, d28)) := (call_eq ..).trans (by kernel_rfl)

noncomputable def prefix_digits_loop3 (x1 : Int) (n2 : Int) (t3 : List Int) (s4 : Int × (List Int)) : Option ((Int × (List Int)) ⊕ ((List Int))) :=
   let v5 : Int := s4.1;
   let b6 : List Int := s4.2;
   (if (decide (v5 < ((t3.length : Nat) : Int))) = true then
    let t7 : Int := IntKind.i64.wrap (n2 - 1);
    let t8 : Int := IntKind.i64.wrap (t7 - v5);
    (if t8 < 0 then
     none
     else
     let t9 : Int := ishr .i64 x1 t8;
     let t10 : Int := iand .i64 t9 1;
     let t11 : Int := IntKind.u8.wrap t10;
     (if 0 ≤ v5 ∧ v5 < (b6.length : Int) then
      let w12 : List Int := b6.set v5.toNat t11;
      let t13 : Int := IntKind.i64.wrap (v5 + 1);
      some (Sum.inl (t13, w12))
      else
      none))
    else
    some (Sum.inr b6))
noncomputable def prefix_digits_loop3_step (x1 : Int) (n2 : Int) (i14 : Nat) (x15 : Int) (s16 : (List Int)) : Option (((List Int)) ⊕ ((List Int))) :=
   let t7 : Int := IntKind.i64.wrap (n2 - 1);
   let t8 : Int := IntKind.i64.wrap (t7 - ((i14 : Nat) : Int));
   (if t8 < 0 then
    none
    else
    let t9 : Int := ishr .i64 x1 t8;
    let t10 : Int := iand .i64 t9 1;
    let t11 : Int := IntKind.u8.wrap t10;
    (if 0 ≤ ((i14 : Nat) : Int) ∧ ((i14 : Nat) : Int) < (s16.length : Int) then
     let w12 : List Int := s16.set ((i14 : Nat) : Int).toNat t11;
     some (Sum.inl (w12))
     else
     none))
theorem prefix_digits_loop3_overAt (x1 : Int) (n2 : Int) (t3 : List Int) (hl : t3.length ≤ 4611686018427387904) (k : Nat) (s16 : (List Int)) (hk : k ≤ t3.length) : loop (prefix_digits_loop3 x1 n2 t3) ((((k : Nat) : Int), s16) : Int × (List Int)) =
    overL (prefix_digits_loop3_step x1 n2) (fun (s16 : (List Int)) => some s16) k (t3.drop k) s16 := by
  refine loop_over t3 (fun n (s : (List Int)) => ((((n : Nat) : Int), s) : Int × (List Int))) _ _ (fun s => ?_) (fun i x s h => ?_) k s16 hk
  · unfold prefix_digits_loop3; simp
  · have hlt := lt_len_of_get h
    have h1 : ((i : Nat) : Int) < ((t3.length : Nat) : Int) := by omega
    have h0 : (0 : Int) ≤ ((i : Nat) : Int) := by omega
    have hw : IntKind.i64.wrap (((i : Nat) : Int) + 1) = (((i + 1 : Nat) : Nat) : Int) := w64 (by omega)
    have hr : rd t3 ((i : Nat) : Int) = x := rd_nat h
    unfold prefix_digits_loop3 prefix_digits_loop3_step
    simp only [h1, h0, hw, h, hr, decide_true, if_true, and_self, true_and, Int.toNat_natCast, Option.bind_some, Option.map_bind, Function.comp_def, map_ite, map_elim, Option.map_some, Option.map_none]
theorem prefix_digits_loop3_over (x1 : Int) (n2 : Int) (t3 : List Int) (hl : t3.length ≤ 4611686018427387904) (s16 : (List Int)) : loop (prefix_digits_loop3 x1 n2 t3) ((0, s16) : Int × (List Int)) =
    overL (prefix_digits_loop3_step x1 n2) (fun (s16 : (List Int)) => some s16) 0 t3 s16 := prefix_digits_loop3_overAt x1 n2 t3 hl 0 s16 (Nat.zero_le _)

theorem prefix_digits_eq (x1 : Int) (n2 : Int) : prefix_digits x1 n2 =
   (if 0 ≤ n2 ∧ n2 ≤ n2 ∧ ((1 : Nat) : Int) * n2 ≤ 281474976710656 then
    let t3 : List Int := List.replicate n2.toNat 0;
    (loop (prefix_digits_loop3 x1 n2 t3) (0, t3)).bind (fun (b17 : (List Int)) =>
     some b17)
    else
    none) := (call_eq ..).trans (by kernel_rfl)

theorem ref04_Place_eq (x1 : Int) (x2 : Int) (x3 : Int) (x4 : Int) (n5 : Bool) (n6 : Int) : ref04_Place x1 x2 x3 x4 n5 n6 =
   ((if (decide (x4 = 2)) = true then
     some true
     else
     some n5) : Option (Bool)).bind (fun (v7 : Bool) =>
    (if v7 = true then
     ((if (decide (x4 = 2)) = true then
       (if n5 = true then
        some (0, decide (n6 = 0))
        else
        some (0, false))
       else
       some (0, false)) : Option (Int × Bool)).bind (fun (p8 : Int × Bool) =>
      let v9 : Int := p8.1;
      let v10 : Bool := p8.2;
      some (v9, v10))
     else
     let t11 : Int := IntKind.i64.wrap (n6 - x3);
     ((if (decide (x4 = 1)) = true then
       let t12 : Int := IntKind.i64.wrap (x3 - n6);
       some t12
       else
       some t11) : Option (Int)).bind (fun (at13 : Int) =>
      ((if (decide (n6 < (-4194304))) = true then
        some true
        else
        some (decide (n6 > 4194304))) : Option (Bool)).bind (fun (far14 : Bool) =>
       (if (!far14) = true then
        (if (decide (at13 ≥ 0)) = true then
         (if x2 < 0 then
          none
          else
          let t15 : Int := ishl .i64 1 x2;
          some (at13, decide (at13 < t15)))
         else
         some (at13, false))
        else
        some (at13, false)))))) := (call_eq ..).trans (by kernel_rfl)

theorem ref04_used_eq (x1 : Int) (x2 : Int) (x3 : Int) (x4 : Int) : ref04_used x1 x2 x3 x4 =
   some (decide (x1 > 0)) := (call_eq ..).trans (by kernel_rfl)

noncomputable def ref04_Code_loop3 (a1 : List Line) (i2 : Int) (s3 : Int × Int) : Option ((Int × Int) ⊕ (Int)) :=
   let front4 : Int := s3.1;
   let v5 : Int := s3.2;
   (if (decide (v5 < ((a1.length : Nat) : Int))) = true then
    (if 0 ≤ v5 then
     (a1[v5.toNat]?).bind fun e6 =>
     ((ref04_used e6.length e6.bits e6.low e6.kind).bind fun (q7 : Bool) =>
      (if q7 = true then
       (if 0 ≤ i2 then
        (a1[i2.toNat]?).bind fun e8 =>
        (if (decide (e6.length < e8.length)) = true then
         some true
         else
         (if 0 ≤ i2 then
          (a1[i2.toNat]?).bind fun e9 =>
          (if (decide (e6.length = e9.length)) = true then
           some (decide (v5 < i2))
           else
           some false)
          else
          none))
        else
        none)
       else
       some false) : Option (Bool)).bind (fun (v10 : Bool) =>
      (if v10 = true then
       let t11 : Int := IntKind.i64.wrap (15 - e6.length);
       (if t11 < 0 then
        none
        else
        let t12 : Int := ishl .i64 1 t11;
        let t13 : Int := IntKind.i64.wrap (front4 + t12);
        let t14 : Int := IntKind.i64.wrap (v5 + 1);
        some (Sum.inl (t13, t14)))
       else
       let t15 : Int := IntKind.i64.wrap (v5 + 1);
       some (Sum.inl (front4, t15))))
     else
     none)
    else
    some (Sum.inr front4))
noncomputable def ref04_Code_loop3_step (a1 : List Line) (i2 : Int) (i16 : Nat) (x17 : Line) (s18 : Int) : Option ((Int) ⊕ (Int)) :=
   ((ref04_used x17.length x17.bits x17.low x17.kind).bind fun (q7 : Bool) =>
    (if q7 = true then
     (if 0 ≤ i2 then
      (a1[i2.toNat]?).bind fun e8 =>
      (if (decide (x17.length < e8.length)) = true then
       some true
       else
       (if 0 ≤ i2 then
        (a1[i2.toNat]?).bind fun e9 =>
        (if (decide (x17.length = e9.length)) = true then
         some (decide (((i16 : Nat) : Int) < i2))
         else
         some false)
        else
        none))
      else
      none)
     else
     some false) : Option (Bool)).bind (fun (v10 : Bool) =>
    (if v10 = true then
     let t11 : Int := IntKind.i64.wrap (15 - x17.length);
     (if t11 < 0 then
      none
      else
      let t12 : Int := ishl .i64 1 t11;
      let t13 : Int := IntKind.i64.wrap (s18 + t12);
      some (Sum.inl (t13)))
     else
     some (Sum.inl (s18))))
theorem ref04_Code_loop3_overAt (a1 : List Line) (i2 : Int) (hl : a1.length ≤ 4611686018427387904) (k : Nat) (s18 : Int) (hk : k ≤ a1.length) : loop (ref04_Code_loop3 a1 i2) ((s18, ((k : Nat) : Int)) : Int × Int) =
    overL (ref04_Code_loop3_step a1 i2) (fun (s18 : Int) => some s18) k (a1.drop k) s18 := by
  refine loop_over a1 (fun n (s : Int) => ((s, ((n : Nat) : Int)) : Int × Int)) _ _ (fun s => ?_) (fun i x s h => ?_) k s18 hk
  · unfold ref04_Code_loop3; simp
  · have hlt := lt_len_of_get h
    have h1 : ((i : Nat) : Int) < ((a1.length : Nat) : Int) := by omega
    have h0 : (0 : Int) ≤ ((i : Nat) : Int) := by omega
    have hw : IntKind.i64.wrap (((i : Nat) : Int) + 1) = (((i + 1 : Nat) : Nat) : Int) := w64 (by omega)
    unfold ref04_Code_loop3 ref04_Code_loop3_step
    simp only [h1, h0, hw, h, decide_true, if_true, and_self, true_and, Int.toNat_natCast, Option.bind_some, Option.map_bind, Function.comp_def, map_ite, map_elim, Option.map_some, Option.map_none]
theorem ref04_Code_loop3_over (a1 : List Line) (i2 : Int) (hl : a1.length ≤ 4611686018427387904) (s18 : Int) : loop (ref04_Code_loop3 a1 i2) ((s18, 0) : Int × Int) =
    overL (ref04_Code_loop3_step a1 i2) (fun (s18 : Int) => some s18) 0 a1 s18 := ref04_Code_loop3_overAt a1 i2 hl 0 s18 (Nat.zero_le _)

theorem ref04_Code_eq (a1 : List Line) (i2 : Int) : ref04_Code a1 i2 =
   (loop (ref04_Code_loop3 a1 i2) (0, 0)).bind (fun (front19 : Int) =>
    (if 0 ≤ i2 then
     (a1[i2.toNat]?).bind fun e20 =>
     let t21 : Int := IntKind.i64.wrap (15 - e20.length);
     (if t21 < 0 then
      none
      else
      let t22 : Int := ishr .i64 front19 t21;
      (if 0 ≤ i2 then
       (a1[i2.toNat]?).bind fun e23 =>
       (ref04_digits t22 e23.length).bind fun (q24 : (List Int)) =>
       some q24
       else
       none))
     else
     none)) := (call_eq ..).trans (by kernel_rfl)

noncomputable def ref04_digits_loop3 (n1 : Int) (s4 : Int × (List Int)) : Option ((Int × (List Int)) ⊕ ((List Int))) :=
   let i5 : Int := s4.1;
   let out6 : List Int := s4.2;
   (if (decide (i5 ≥ 0)) = true then
    (if i5 < 0 then
     none
     else
     let t7 : Int := ishr .i64 n1 i5;
     let t8 : Int := t7.tmod 2;
     let t9 : Int := IntKind.u8.wrap t8;
     (if (out6.length + ([t9] : List Int).length) * 1 ≤ 140737488355328 then
      let t10 : List Int := out6 ++ [t9];
      let t11 : Int := IntKind.i64.wrap (i5 - 1);
      some (Sum.inl (t11, t10))
      else
      none))
    else
    some (Sum.inr out6))
theorem ref04_digits_eq (n1 : Int) (many2 : Int) : ref04_digits n1 many2 =
   let t3 : Int := IntKind.i64.wrap (many2 - 1);
   (loop (ref04_digits_loop3 n1) (t3, [])).bind (fun (out12 : (List Int)) =>
    some out12) := (call_eq ..).trans (by kernel_rfl)

noncomputable def ref06_change_loop2 (above1 : List Int) (colour3 : Int) (x5 : Int) : Option ((Int) ⊕ ((Unit) ⊕ (Int))) :=
   (if (decide (x5 < ((above1.length : Nat) : Int))) = true then
    (ref06_at above1 x5).bind fun (q6 : Int) =>
    (if (!decide (q6 = colour3)) = true then
     let t7 : Int := IntKind.i64.wrap (x5 - 1);
     (ref06_at above1 t7).bind fun (q8 : Int) =>
     (if (decide (q8 = colour3)) = true then
      some (Sum.inr (Sum.inr x5))
      else
      let t9 : Int := IntKind.i64.wrap (x5 + 1);
      some (Sum.inl t9))
     else
     let t10 : Int := IntKind.i64.wrap (x5 + 1);
     some (Sum.inl t10))
    else
    some (Sum.inr (Sum.inl ())))
noncomputable def ref06_change_loop2_step (above1 : List Int) (colour3 : Int) (i11 : Nat) (x12 : Int) (s13 : Unit) : Option ((Unit) ⊕ ((Unit) ⊕ (Int))) :=
   (ref06_at above1 ((i11 : Nat) : Int)).bind fun (q6 : Int) =>
   (if (!decide (q6 = colour3)) = true then
    let t7 : Int := IntKind.i64.wrap (((i11 : Nat) : Int) - 1);
    (ref06_at above1 t7).bind fun (q8 : Int) =>
    (if (decide (q8 = colour3)) = true then
     some (Sum.inr (Sum.inr ((i11 : Nat) : Int)))
     else
     some (Sum.inl (())))
    else
    some (Sum.inl (())))
theorem ref06_change_loop2_overAt (above1 : List Int) (colour3 : Int) (hl : above1.length ≤ 4611686018427387904) (k : Nat) (s13 : Unit) (hk : k ≤ above1.length) : loop (ref06_change_loop2 above1 colour3) (((k : Nat) : Int) : Int) =
    overL (ref06_change_loop2_step above1 colour3) (fun (s13 : Unit) => some (Sum.inl ())) k (above1.drop k) s13 := by
  refine loop_over above1 (fun n (s : Unit) => (((n : Nat) : Int) : Int)) _ _ (fun s => ?_) (fun i x s h => ?_) k s13 hk
  · unfold ref06_change_loop2; simp
  · have hlt := lt_len_of_get h
    have h1 : ((i : Nat) : Int) < ((above1.length : Nat) : Int) := by omega
    have h0 : (0 : Int) ≤ ((i : Nat) : Int) := by omega
    have hw : IntKind.i64.wrap (((i : Nat) : Int) + 1) = (((i + 1 : Nat) : Nat) : Int) := w64 (by omega)
    have hr : rd above1 ((i : Nat) : Int) = x := rd_nat h
    unfold ref06_change_loop2 ref06_change_loop2_step
    simp only [h1, h0, hw, h, hr, decide_true, if_true, and_self, true_and, Int.toNat_natCast, Option.bind_some, Option.map_bind, Function.comp_def, map_ite, map_elim, Option.map_some, Option.map_none]
theorem ref06_change_loop2_over (above1 : List Int) (colour3 : Int) (hl : above1.length ≤ 4611686018427387904) (s13 : Unit) : loop (ref06_change_loop2 above1 colour3) (0 : Int) =
    overL (ref06_change_loop2_step above1 colour3) (fun (s13 : Unit) => some (Sum.inl ())) 0 above1 s13 := ref06_change_loop2_overAt above1 colour3 hl 0 s13 (Nat.zero_le _)

theorem ref06_change_eq (above1 : List Int) (a2 : Int) (colour3 : Int) : ref06_change above1 a2 colour3 =
   let t4 : Int := IntKind.i64.wrap (a2 + 1);
   (loop (ref06_change_loop2 above1 colour3) t4).bind (fun (o16 : (Unit) ⊕ (Int)) =>
    (Sum.elim (fun (p14 : Unit) =>
      some ((above1.length : Nat) : Int))
     (fun (v15 : Int) =>
      some v15) o16)) := (call_eq ..).trans (by kernel_rfl)

noncomputable def ref06_first_loop2 (row1 : List Int) (colour3 : Int) (x5 : Int) : Option ((Int) ⊕ ((Unit) ⊕ (Int))) :=
   (if (decide (x5 < ((row1.length : Nat) : Int))) = true then
    (ref06_at row1 x5).bind fun (q6 : Int) =>
    (if (decide (q6 = colour3)) = true then
     some (Sum.inr (Sum.inr x5))
     else
     let t7 : Int := IntKind.i64.wrap (x5 + 1);
     some (Sum.inl t7))
    else
    some (Sum.inr (Sum.inl ())))
noncomputable def ref06_first_loop2_step (row1 : List Int) (colour3 : Int) (i8 : Nat) (x9 : Int) (s10 : Unit) : Option ((Unit) ⊕ ((Unit) ⊕ (Int))) :=
   (ref06_at row1 ((i8 : Nat) : Int)).bind fun (q6 : Int) =>
   (if (decide (q6 = colour3)) = true then
    some (Sum.inr (Sum.inr ((i8 : Nat) : Int)))
    else
    some (Sum.inl (())))
theorem ref06_first_loop2_overAt (row1 : List Int) (colour3 : Int) (hl : row1.length ≤ 4611686018427387904) (k : Nat) (s10 : Unit) (hk : k ≤ row1.length) : loop (ref06_first_loop2 row1 colour3) (((k : Nat) : Int) : Int) =
    overL (ref06_first_loop2_step row1 colour3) (fun (s10 : Unit) => some (Sum.inl ())) k (row1.drop k) s10 := by
  refine loop_over row1 (fun n (s : Unit) => (((n : Nat) : Int) : Int)) _ _ (fun s => ?_) (fun i x s h => ?_) k s10 hk
  · unfold ref06_first_loop2; simp
  · have hlt := lt_len_of_get h
    have h1 : ((i : Nat) : Int) < ((row1.length : Nat) : Int) := by omega
    have h0 : (0 : Int) ≤ ((i : Nat) : Int) := by omega
    have hw : IntKind.i64.wrap (((i : Nat) : Int) + 1) = (((i + 1 : Nat) : Nat) : Int) := w64 (by omega)
    have hr : rd row1 ((i : Nat) : Int) = x := rd_nat h
    unfold ref06_first_loop2 ref06_first_loop2_step
    simp only [h1, h0, hw, h, hr, decide_true, if_true, and_self, true_and, Int.toNat_natCast, Option.bind_some, Option.map_bind, Function.comp_def, map_ite, map_elim, Option.map_some, Option.map_none]
theorem ref06_first_loop2_over (row1 : List Int) (colour3 : Int) (hl : row1.length ≤ 4611686018427387904) (s10 : Unit) : loop (ref06_first_loop2 row1 colour3) (0 : Int) =
    overL (ref06_first_loop2_step row1 colour3) (fun (s10 : Unit) => some (Sum.inl ())) 0 row1 s10 := ref06_first_loop2_overAt row1 colour3 hl 0 s10 (Nat.zero_le _)

theorem ref06_first_eq (row1 : List Int) (behind2 : Int) (colour3 : Int) : ref06_first row1 behind2 colour3 =
   let t4 : Int := IntKind.i64.wrap (behind2 + 1);
   (loop (ref06_first_loop2 row1 colour3) t4).bind (fun (o13 : (Unit) ⊕ (Int)) =>
    (Sum.elim (fun (p11 : Unit) =>
      some ((row1.length : Nat) : Int))
     (fun (v12 : Int) =>
      some v12) o13)) := (call_eq ..).trans (by kernel_rfl)

noncomputable def ref06_bitsOf_loop3 (s1 : List Int) (s2 : Int × (List Int)) : Option ((Int × (List Int)) ⊕ ((List Int))) :=
   let i3 : Int := s2.1;
   let out4 : List Int := s2.2;
   (if (decide (i3 < ((s1.length : Nat) : Int))) = true then
    (if 0 ≤ i3 ∧ i3 < ((s1).length : Int) then
     let t5 : Int := rd s1 i3;
     let t6 : Int := IntKind.u8.wrap (t5 - 48);
     (if (out4.length + ([t6] : List Int).length) * 1 ≤ 140737488355328 then
      let t7 : List Int := out4 ++ [t6];
      let t8 : Int := IntKind.i64.wrap (i3 + 1);
      some (Sum.inl (t8, t7))
      else
      none)
     else
     none)
    else
    some (Sum.inr out4))
noncomputable def ref06_bitsOf_loop3_step (i9 : Nat) (x10 : Int) (s11 : (List Int)) : Option (((List Int)) ⊕ ((List Int))) :=
   let t5 : Int := x10;
   let t6 : Int := IntKind.u8.wrap (t5 - 48);
   (if (s11.length + ([t6] : List Int).length) * 1 ≤ 140737488355328 then
    let t7 : List Int := s11 ++ [t6];
    some (Sum.inl (t7))
    else
    none)
theorem ref06_bitsOf_loop3_overAt (s1 : List Int) (hl : s1.length ≤ 4611686018427387904) (k : Nat) (s11 : (List Int)) (hk : k ≤ s1.length) : loop (ref06_bitsOf_loop3 s1) ((((k : Nat) : Int), s11) : Int × (List Int)) =
    overL (ref06_bitsOf_loop3_step) (fun (s11 : (List Int)) => some s11) k (s1.drop k) s11 := by
  refine loop_over s1 (fun n (s : (List Int)) => ((((n : Nat) : Int), s) : Int × (List Int))) _ _ (fun s => ?_) (fun i x s h => ?_) k s11 hk
  · unfold ref06_bitsOf_loop3; simp
  · have hlt := lt_len_of_get h
    have h1 : ((i : Nat) : Int) < ((s1.length : Nat) : Int) := by omega
    have h0 : (0 : Int) ≤ ((i : Nat) : Int) := by omega
    have hw : IntKind.i64.wrap (((i : Nat) : Int) + 1) = (((i + 1 : Nat) : Nat) : Int) := w64 (by omega)
    have hr : rd s1 ((i : Nat) : Int) = x := rd_nat h
    unfold ref06_bitsOf_loop3 ref06_bitsOf_loop3_step
    simp only [h1, h0, hw, h, hr, decide_true, if_true, and_self, true_and, Int.toNat_natCast, Option.bind_some, Option.map_bind, Function.comp_def, map_ite, map_elim, Option.map_some, Option.map_none]
theorem ref06_bitsOf_loop3_over (s1 : List Int) (hl : s1.length ≤ 4611686018427387904) (s11 : (List Int)) : loop (ref06_bitsOf_loop3 s1) ((0, s11) : Int × (List Int)) =
    overL (ref06_bitsOf_loop3_step) (fun (s11 : (List Int)) => some s11) 0 s1 s11 := ref06_bitsOf_loop3_overAt s1 hl 0 s11 (Nat.zero_le _)

theorem ref06_bitsOf_eq (s1 : List Int) : ref06_bitsOf s1 =
   (loop (ref06_bitsOf_loop3 s1) (0, [])).bind (fun (out12 : (List Int)) =>
    some out12) := (call_eq ..).trans (by kernel_rfl)

theorem ref06_name_eq (d1 : Int) : ref06_name d1 =
   (if (decide (d1 = (-3))) = true then
    some [117, 112, 45, 51]
    else
    (if (decide (d1 = (-2))) = true then
     some [117, 112, 45, 50]
     else
     (if (decide (d1 = (-1))) = true then
      some [117, 112, 45, 49]
      else
      (if (decide (d1 = 0)) = true then
       some [117, 112, 48]
       else
       (if (decide (d1 = 1)) = true then
        some [117, 112, 49]
        else
        (if (decide (d1 = 2)) = true then
         some [117, 112, 50]
         else
         some [117, 112, 51])))))) := (call_eq ..).trans (by kernel_rfl)

theorem ref06_upright_eq (d1 : Int) : ref06_upright d1 =
   (if (decide (d1 = 0)) = true then
    some [49]
    else
    (if (decide (d1 = 1)) = true then
     some [48, 49, 49]
     else
     (if (decide (d1 = 2)) = true then
      some [48, 48, 48, 48, 49, 49]
      else
      (if (decide (d1 = 3)) = true then
       some [48, 48, 48, 48, 48, 49, 49]
       else
       (if (decide (d1 = (-1))) = true then
        some [48, 49, 48]
        else
        (if (decide (d1 = (-2))) = true then
         some [48, 48, 48, 48, 49, 48]
         else
         some [48, 48, 48, 48, 48, 49, 48])))))) := (call_eq ..).trans (by kernel_rfl)

theorem prefix_offset_eq (x1 : Int) (x2 : Int) (x3 : Int) (x4 : Int) (n5 : Bool) (n6 : Int) : prefix_offset x1 x2 x3 x4 n5 n6 =
   ((if n5 = true then
     some true
     else
     some (decide (x4 = 2))) : Option (Bool)).bind (fun (v7 : Bool) =>
    (if v7 = true then
     ((if n5 = true then
       (if (decide (n6 = 0)) = true then
        some (0, decide (x4 = 2))
        else
        some (0, false))
       else
       some (0, false)) : Option (Int × Bool)).bind (fun (p8 : Int × Bool) =>
      let v9 : Int := p8.1;
      let v10 : Bool := p8.2;
      some (v9, v10))
     else
     ((if (decide (n6 < (-4194304))) = true then
       some true
       else
       some (decide (n6 > 4194304))) : Option (Bool)).bind (fun (v11 : Bool) =>
      (if v11 = true then
       some (0, false)
       else
       let t12 : Int := IntKind.i64.wrap (n6 - x3);
       ((if (decide (x4 = 1)) = true then
         let t13 : Int := IntKind.i64.wrap (0 - t12);
         some t13
         else
         some t12) : Option (Int)).bind (fun (d14 : Int) =>
        (if (decide (d14 ≥ 0)) = true then
         (if x2 < 0 then
          none
          else
          let t15 : Int := ishl .i64 1 x2;
          some (d14, decide (d14 < t15)))
         else
         some (d14, false))))))) := (call_eq ..).trans (by kernel_rfl)

theorem ref06_at_eq (row1 : List Int) (x2 : Int) : ref06_at row1 x2 =
   (if (decide (x2 < 0)) = true then
    some 0
    else
    (if 0 ≤ x2 ∧ x2 < (row1.length : Int) then
     let t3 : Int := IntKind.i64.wrap (rd row1 x2);
     some t3
     else
     none)) := (call_eq ..).trans (by kernel_rfl)
end
end Go.Proofs.YtkccnhkhjncpkaaGreat.P
