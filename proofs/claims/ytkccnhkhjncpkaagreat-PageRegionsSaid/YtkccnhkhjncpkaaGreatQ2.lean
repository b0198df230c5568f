/- The equations of functions. Printed by wip/tool/vsym.py. -/
import Derived.Test.YtkccnhkhjncpkaaGreatG
import Derived.Test.YtkccnhkhjncpkaaGreatLib
namespace Go.Proofs.YtkccnhkhjncpkaaGreat.P
open Go Go.Proofs.YtkccnhkhjncpkaaGreat.V
set_option linter.unusedVariables false
set_option linter.unusedSimpArgs false
set_option maxRecDepth 100000
noncomputable section
noncomputable def coder_Valid_loop7 (m2 : List Int) (end4 : Int) (v5 : Int) : Option ((Int) ⊕ ((Unit) ⊕ (Bool))) :=
   (if (decide (v5 < ((m2.length : Nat) : Int))) = true then
    (if 0 ≤ v5 ∧ v5 < (m2.length : Int) then
     (if (decide (rd m2 v5 < 0)) = true then
      some (Sum.inr (Sum.inr false))
      else
      (if (decide (rd m2 v5 ≥ end4)) = true then
       some (Sum.inr (Sum.inr false))
       else
       let t6 : Int := IntKind.i64.wrap (v5 + 1);
       some (Sum.inl t6)))
     else
     none)
    else
    some (Sum.inr (Sum.inl ())))
noncomputable def coder_Valid_loop7_step (end4 : Int) (i7 : Nat) (x8 : Int) (s9 : Unit) : Option ((Unit) ⊕ ((Unit) ⊕ (Bool))) :=
   (if (decide (x8 < 0)) = true then
    some (Sum.inr (Sum.inr false))
    else
    (if (decide (x8 ≥ end4)) = true then
     some (Sum.inr (Sum.inr false))
     else
     some (Sum.inl (()))))
theorem coder_Valid_loop7_overAt (m2 : List Int) (end4 : Int) (hl : m2.length ≤ 4611686018427387904) (k : Nat) (s9 : Unit) (hk : k ≤ m2.length) : loop (coder_Valid_loop7 m2 end4) (((k : Nat) : Int) : Int) =
    overL (coder_Valid_loop7_step end4) (fun (s9 : Unit) => some (Sum.inl ())) k (m2.drop k) s9 := by
  refine loop_over m2 (fun n (s : Unit) => (((n : Nat) : Int) : Int)) _ _ (fun s => ?_) (fun i x s h => ?_) k s9 hk
  · unfold coder_Valid_loop7; simp
  · have hlt := lt_len_of_get h
    have h1 : ((i : Nat) : Int) < ((m2.length : Nat) : Int) := by omega
    have h0 : (0 : Int) ≤ ((i : Nat) : Int) := by omega
    have hw : IntKind.i64.wrap (((i : Nat) : Int) + 1) = (((i + 1 : Nat) : Nat) : Int) := w64 (by omega)
    have hr : rd m2 ((i : Nat) : Int) = x := rd_nat h
    unfold coder_Valid_loop7 coder_Valid_loop7_step
    simp only [h1, h0, hw, h, hr, decide_true, if_true, and_self, true_and, Int.toNat_natCast, Option.bind_some, Option.map_bind, Function.comp_def, map_ite, map_elim, Option.map_some, Option.map_none]
theorem coder_Valid_loop7_over (m2 : List Int) (end4 : Int) (hl : m2.length ≤ 4611686018427387904) (s9 : Unit) : loop (coder_Valid_loop7 m2 end4) (0 : Int) =
    overL (coder_Valid_loop7_step end4) (fun (s9 : Unit) => some (Sum.inl ())) 0 m2 s9 := coder_Valid_loop7_overAt m2 end4 hl 0 s9 (Nat.zero_le _)

theorem coder_Valid_eq (m1 : Int) (m2 : List Int) : coder_Valid m1 m2 =
   ((if (!decide (m1 = 0)) = true then
     (if (!decide (m1 = 1)) = true then
      some true
      else
      some (decide (((m2.length : Nat) : Int) > 8192)))
     else
     some (decide (((m2.length : Nat) : Int) > 8192))) : Option (Bool)).bind (fun (v3 : Bool) =>
    (if v3 = true then
     some false
     else
     ((if (decide (m1 = 1)) = true then
       some 65536
       else
       some 64) : Option (Int)).bind (fun (end4 : Int) =>
      (loop (coder_Valid_loop7 m2 end4) 0).bind (fun (o12 : (Unit) ⊕ (Bool)) =>
       (Sum.elim (fun (p10 : Unit) =>
         some true)
        (fun (v11 : Bool) =>
         some v11) o12))))) := (call_eq ..).trans (by kernel_rfl)

theorem coder_begin_eq (m1 : Int) (m2 : List Int) : coder_begin m1 m2 =
   (coder_clone m1 m2).bind fun (q3 : Int × (List Int)) =>
   let tr4 : Int := q3.1;
   let tr5 : List Int := q3.2;
   (coder_chances).bind fun (q6 : Unit) =>
   some (tr4, 0, 4294967295, tr5) := (call_eq ..).trans (by kernel_rfl)

theorem generic_newPlane_eq (o1 : Int) (o2 : Int) (o3 : Int) (o4 : Bool) (o5 : Int) (w6 : Int) (h7 : Int) : generic_newPlane o1 o2 o3 o4 o5 w6 h7 =
   let t8 : Int := IntKind.i64.wrap (w6 * h7);
   (if 0 ≤ t8 ∧ t8 ≤ t8 ∧ ((1 : Nat) : Int) * t8 ≤ 281474976710656 then
    let t9 : List Int := List.replicate t8.toNat 0;
    (generic_pixels o1).bind fun (q10 : (List Arr2)) =>
    (if (q10.length + ([(Arr2.mk o2 o3)] : List Arr2).length) * 16 ≤ 140737488355328 then
     let t11 : List Arr2 := q10 ++ [(Arr2.mk o2 o3)];
     some (w6, h7, t9, t11)
     else
     none)
    else
    none) := (call_eq ..).trans (by kernel_rfl)

noncomputable def generic_plane_above_loop3 (y1 : Int) (skip2 : Int) (skip3 : Int) (skip4 : List Int) (t9 : List Int) (s10 : Int × Int × Int × (List Int) × (List Arr2) × (List Int)) : Option ((Int × Int × Int × (List Int) × (List Arr2) × (List Int)) ⊕ (Int × Int × (List Int) × (List Arr2) × (List Int))) :=
   let v11 : Int := s10.1;
   let b12 : Int := s10.2.1;
   let b13 : Int := s10.2.2.1;
   let b14 : List Int := s10.2.2.2.1;
   let b15 : List Arr2 := s10.2.2.2.2.1;
   let b16 : List Int := s10.2.2.2.2.2;
   (if (decide (v11 < ((t9.length : Nat) : Int))) = true then
    let t17 : Int := IntKind.i64.wrap (y1 * b12);
    let t18 : Int := IntKind.i64.wrap (t17 + v11);
    (generic_skips skip2 skip3 skip4 t18).bind fun (q19 : Bool) =>
    (if (!q19) = true then
     let t20 : Int := IntKind.i64.wrap (y1 - 1);
     (generic_plane_at v11 t20 b12 b13 b14 b15).bind fun (q21 : Int × Int × Int × (List Int) × (List Arr2)) =>
     let tr22 : Int := q21.1;
     let tr23 : Int := q21.2.1;
     let tr24 : Int := q21.2.2.1;
     let tr25 : List Int := q21.2.2.2.1;
     let tr26 : List Arr2 := q21.2.2.2.2;
     (if 0 ≤ v11 ∧ v11 < (b16.length : Int) then
      let w27 : List Int := b16.set v11.toNat tr22;
      let t28 : Int := IntKind.i64.wrap (v11 + 1);
      some (Sum.inl (t28, tr23, tr24, tr25, tr26, w27))
      else
      none)
     else
     let t29 : Int := IntKind.i64.wrap (v11 + 1);
     some (Sum.inl (t29, b12, b13, b14, b15, b16)))
    else
    some (Sum.inr (b12, b13, b14, b15, b16)))
noncomputable def generic_plane_above_loop3_step (y1 : Int) (skip2 : Int) (skip3 : Int) (skip4 : List Int) (i30 : Nat) (x31 : Int) (s32 : Int × Int × (List Int) × (List Arr2) × (List Int)) : Option ((Int × Int × (List Int) × (List Arr2) × (List Int)) ⊕ (Int × Int × (List Int) × (List Arr2) × (List Int))) :=
   let b33 : Int := s32.1;
   let b34 : Int := s32.2.1;
   let b35 : List Int := s32.2.2.1;
   let b36 : List Arr2 := s32.2.2.2.1;
   let b37 : List Int := s32.2.2.2.2;
   let t17 : Int := IntKind.i64.wrap (y1 * b33);
   let t18 : Int := IntKind.i64.wrap (t17 + ((i30 : Nat) : Int));
   (generic_skips skip2 skip3 skip4 t18).bind fun (q19 : Bool) =>
   (if (!q19) = true then
    let t20 : Int := IntKind.i64.wrap (y1 - 1);
    (generic_plane_at ((i30 : Nat) : Int) t20 b33 b34 b35 b36).bind fun (q21 : Int × Int × Int × (List Int) × (List Arr2)) =>
    let tr22 : Int := q21.1;
    let tr23 : Int := q21.2.1;
    let tr24 : Int := q21.2.2.1;
    let tr25 : List Int := q21.2.2.2.1;
    let tr26 : List Arr2 := q21.2.2.2.2;
    (if 0 ≤ ((i30 : Nat) : Int) ∧ ((i30 : Nat) : Int) < (b37.length : Int) then
     let w27 : List Int := b37.set ((i30 : Nat) : Int).toNat tr22;
     some (Sum.inl ((tr23, tr24, tr25, tr26, w27)))
     else
     none)
    else
    some (Sum.inl ((b33, b34, b35, b36, b37))))
theorem generic_plane_above_loop3_overAt (y1 : Int) (skip2 : Int) (skip3 : Int) (skip4 : List Int) (t9 : List Int) (hl : t9.length ≤ 4611686018427387904) (k : Nat) (s32 : Int × Int × (List Int) × (List Arr2) × (List Int)) (hk : k ≤ t9.length) : loop (generic_plane_above_loop3 y1 skip2 skip3 skip4 t9) ((((k : Nat) : Int), s32.1, s32.2.1, s32.2.2.1, s32.2.2.2.1, s32.2.2.2.2) : Int × Int × Int × (List Int) × (List Arr2) × (List Int)) =
    overL (generic_plane_above_loop3_step y1 skip2 skip3 skip4) (fun (s32 : Int × Int × (List Int) × (List Arr2) × (List Int)) => let b33 : Int := s32.1; let b34 : Int := s32.2.1; let b35 : List Int := s32.2.2.1; let b36 : List Arr2 := s32.2.2.2.1; let b37 : List Int := s32.2.2.2.2; some (b33, b34, b35, b36, b37)) k (t9.drop k) s32 := by
  refine loop_over t9 (fun n (s : Int × Int × (List Int) × (List Arr2) × (List Int)) => ((((n : Nat) : Int), s.1, s.2.1, s.2.2.1, s.2.2.2.1, s.2.2.2.2) : Int × Int × Int × (List Int) × (List Arr2) × (List Int))) _ _ (fun s => ?_) (fun i x s h => ?_) k s32 hk
  · unfold generic_plane_above_loop3; simp
  · have hlt := lt_len_of_get h
    have h1 : ((i : Nat) : Int) < ((t9.length : Nat) : Int) := by omega
    have h0 : (0 : Int) ≤ ((i : Nat) : Int) := by omega
    have hw : IntKind.i64.wrap (((i : Nat) : Int) + 1) = (((i + 1 : Nat) : Nat) : Int) := w64 (by omega)
    have hr : rd t9 ((i : Nat) : Int) = x := rd_nat h
    unfold generic_plane_above_loop3 generic_plane_above_loop3_step
    simp only [h1, h0, hw, h, hr, decide_true, if_true, and_self, true_and, Int.toNat_natCast, Option.bind_some, Option.map_bind, Function.comp_def, map_ite, map_elim, Option.map_some, Option.map_none]
theorem generic_plane_above_loop3_over (y1 : Int) (skip2 : Int) (skip3 : Int) (skip4 : List Int) (t9 : List Int) (hl : t9.length ≤ 4611686018427387904) (s32 : Int × Int × (List Int) × (List Arr2) × (List Int)) : loop (generic_plane_above_loop3 y1 skip2 skip3 skip4 t9) ((0, s32.1, s32.2.1, s32.2.2.1, s32.2.2.2.1, s32.2.2.2.2) : Int × Int × Int × (List Int) × (List Arr2) × (List Int)) =
    overL (generic_plane_above_loop3_step y1 skip2 skip3 skip4) (fun (s32 : Int × Int × (List Int) × (List Arr2) × (List Int)) => let b33 : Int := s32.1; let b34 : Int := s32.2.1; let b35 : List Int := s32.2.2.1; let b36 : List Arr2 := s32.2.2.2.1; let b37 : List Int := s32.2.2.2.2; some (b33, b34, b35, b36, b37)) 0 t9 s32 := generic_plane_above_loop3_overAt y1 skip2 skip3 skip4 t9 hl 0 s32 (Nat.zero_le _)

theorem generic_plane_above_eq (y1 : Int) (skip2 : Int) (skip3 : Int) (skip4 : List Int) (b5 : Int) (b6 : Int) (b7 : List Int) (b8 : List Arr2) : generic_plane_above y1 skip2 skip3 skip4 b5 b6 b7 b8 =
   (if 0 ≤ b5 ∧ b5 ≤ b5 ∧ ((1 : Nat) : Int) * b5 ≤ 281474976710656 then
    let t9 : List Int := List.replicate b5.toNat 0;
    (loop (generic_plane_above_loop3 y1 skip2 skip3 skip4 t9) (0, b5, b6, b7, b8, t9)).bind (fun (p38 : Int × Int × (List Int) × (List Arr2) × (List Int)) =>
     let b39 : Int := p38.1;
     let b40 : Int := p38.2.1;
     let b41 : List Int := p38.2.2.1;
     let b42 : List Arr2 := p38.2.2.2.1;
     let b43 : List Int := p38.2.2.2.2;
     some (b43, b39, b40, b41, b42))
    else
    none) := (call_eq ..).trans (by kernel_rfl)

theorem bytes_Equal_eq (a1 : List Int) (b2 : List Int) : bytes_Equal a1 b2 =
   some (decide (a1 = b2)) := (call_eq ..).trans (by kernel_rfl)

noncomputable def coder_Encoder_Put_loop6_D (s32 : Int × Int × Int × (List Int) × (List Int)) : Option ((Int × Int × Int × (List Int) × (List Int)) ⊕ (Int × Int × Int × (List Int) × (List Int))) :=
   let b33 : Int := s32.1;
   let b34 : Int := s32.2.1;
   let b35 : Int := s32.2.2.1;
   let b36 : List Int := s32.2.2.2.1;
   let b37 : List Int := s32.2.2.2.2;
   (coder_interval_same b33 b34 b35 b36 b37).bind fun (q38 : Bool × Int × Int × Int × (List Int) × (List Int)) =>
   let tr39 : Bool := q38.1;
   let tr40 : Int := q38.2.1;
   let tr41 : Int := q38.2.2.1;
   let tr42 : Int := q38.2.2.2.1;
   let tr43 : List Int := q38.2.2.2.2.1;
   let tr44 : List Int := q38.2.2.2.2.2;
   (if tr39 = true then
    (demon
     ((coder_interval_lose tr40 tr41 tr42 tr43 tr44).bind fun (q45 : Int × Int × Int × Int × (List Int) × (List Int)) =>
      let tr46 : Int := q45.1;
      let tr47 : Int := q45.2.1;
      let tr48 : Int := q45.2.2.1;
      let tr49 : Int := q45.2.2.2.1;
      let tr50 : List Int := q45.2.2.2.2.1;
      let tr51 : List Int := q45.2.2.2.2.2;
      (if (tr51.length + ([tr46] : List Int).length) * 1 ≤ 140737488355328 then
       let t52 : List Int := tr51 ++ [tr46];
       some (Sum.inl (tr47, tr48, tr49, tr50, t52))
       else
       none))
     ((coder_interval_lose tr40 tr41 tr42 tr43 tr44).bind fun (q53 : Int × Int × Int × Int × (List Int) × (List Int)) =>
      let tr54 : Int := q53.1;
      let tr55 : Int := q53.2.1;
      let tr56 : Int := q53.2.2.1;
      let tr57 : Int := q53.2.2.2.1;
      let tr58 : List Int := q53.2.2.2.2.1;
      let tr59 : List Int := q53.2.2.2.2.2;
      (if (tr59.length + ([tr54] : List Int).length) * 1 ≤ 140737488355328 then
       let t60 : List Int := tr59 ++ [tr54];
       some (Sum.inl (tr55, tr56, tr57, tr58, t60))
       else
       none)))
    else
    some (Sum.inr (tr40, tr41, tr42, tr43, tr44)))
noncomputable def coder_Encoder_Put_loop6 (s32 : Int × Int × Int × (List Int) × (List Int)) : Option ((Int × Int × Int × (List Int) × (List Int)) ⊕ (Int × Int × Int × (List Int) × (List Int))) :=
   let b33 : Int := s32.1;
   let b34 : Int := s32.2.1;
   let b35 : Int := s32.2.2.1;
   let b36 : List Int := s32.2.2.2.1;
   let b37 : List Int := s32.2.2.2.2;
   (coder_interval_same b33 b34 b35 b36 b37).bind fun (q38 : Bool × Int × Int × Int × (List Int) × (List Int)) =>
   let tr39 : Bool := q38.1;
   let tr40 : Int := q38.2.1;
   let tr41 : Int := q38.2.2.1;
   let tr42 : Int := q38.2.2.2.1;
   let tr43 : List Int := q38.2.2.2.2.1;
   let tr44 : List Int := q38.2.2.2.2.2;
   (if tr39 = true then
    ((coder_interval_lose tr40 tr41 tr42 tr43 tr44).bind fun (q45 : Int × Int × Int × Int × (List Int) × (List Int)) =>
     let tr46 : Int := q45.1;
     let tr47 : Int := q45.2.1;
     let tr48 : Int := q45.2.2.1;
     let tr49 : Int := q45.2.2.2.1;
     let tr50 : List Int := q45.2.2.2.2.1;
     let tr51 : List Int := q45.2.2.2.2.2;
     (if (tr51.length + ([tr46] : List Int).length) * 1 ≤ 140737488355328 then
      let t52 : List Int := tr51 ++ [tr46];
      some (Sum.inl (tr47, tr48, tr49, tr50, t52))
      else
      none))
    else
    some (Sum.inr (tr40, tr41, tr42, tr43, tr44)))
theorem coder_Encoder_Put_loop6_D_eq : coder_Encoder_Put_loop6_D = coder_Encoder_Put_loop6 := by
  funext s32; unfold coder_Encoder_Put_loop6_D coder_Encoder_Put_loop6; simp only [demon_same]
theorem coder_Encoder_Put_eqD (ctx1 : Int) (bit2 : Int) (b3 : Int) (b4 : Int) (b5 : Int) (b6 : List Int) (b7 : List Int) : coder_Encoder_Put ctx1 bit2 b3 b4 b5 b6 b7 =
   (coder_Encoder_none b3 b4 b5 b6 b7).bind fun (q8 : Bool × Int × Int × Int × (List Int) × (List Int)) =>
   let tr9 : Bool := q8.1;
   let tr10 : Int := q8.2.1;
   let tr11 : Int := q8.2.2.1;
   let tr12 : Int := q8.2.2.2.1;
   let tr13 : List Int := q8.2.2.2.2.1;
   let tr14 : List Int := q8.2.2.2.2.2;
   ((if tr9 = true then
     some (Sum.inr 7)
     else
     ((if (decide (ctx1 < 0)) = true then
       some true
       else
       (if (decide (ctx1 ≥ ((tr13.length : Nat) : Int))) = true then
        some true
        else
        (if (!decide (bit2 = 0)) = true then
         some (!decide (bit2 = 1))
         else
         some false))) : Option (Bool)).bind (fun (v15 : Bool) =>
      (if v15 = true then
       some (Sum.inr 2)
       else
       some (Sum.inl ())))) : Option ((Unit) ⊕ (Int))).bind (fun (o18 : (Unit) ⊕ (Int)) =>
    (Sum.elim (fun (p16 : Unit) =>
      (coder_interval_mid ctx1 tr10 tr11 tr12 tr13 tr14).bind fun (q19 : Int × Int × Int × Int × (List Int) × (List Int)) =>
      let tr20 : Int := q19.1;
      let tr21 : Int := q19.2.1;
      let tr22 : Int := q19.2.2.1;
      let tr23 : Int := q19.2.2.2.1;
      let tr24 : List Int := q19.2.2.2.2.1;
      let tr25 : List Int := q19.2.2.2.2.2;
      (coder_interval_take ctx1 bit2 tr20 tr21 tr22 tr23 tr24 tr25).bind fun (q26 : Int × Int × Int × (List Int) × (List Int)) =>
      let tr27 : Int := q26.1;
      let tr28 : Int := q26.2.1;
      let tr29 : Int := q26.2.2.1;
      let tr30 : List Int := q26.2.2.2.1;
      let tr31 : List Int := q26.2.2.2.2;
      (loop (coder_Encoder_Put_loop6_D) (tr27, tr28, tr29, tr30, tr31)).bind (fun (p61 : Int × Int × Int × (List Int) × (List Int)) =>
       let b62 : Int := p61.1;
       let b63 : Int := p61.2.1;
       let b64 : Int := p61.2.2.1;
       let b65 : List Int := p61.2.2.2.1;
       let b66 : List Int := p61.2.2.2.2;
       some (0, b62, b63, b64, b65, b66)))
     (fun (v17 : Int) =>
      some (v17, tr10, tr11, tr12, tr13, tr14)) o18)) := (call_eq ..).trans (by kernel_rfl)
theorem coder_Encoder_Put_eq (ctx1 : Int) (bit2 : Int) (b3 : Int) (b4 : Int) (b5 : Int) (b6 : List Int) (b7 : List Int) : coder_Encoder_Put ctx1 bit2 b3 b4 b5 b6 b7 =
   (coder_Encoder_none b3 b4 b5 b6 b7).bind fun (q8 : Bool × Int × Int × Int × (List Int) × (List Int)) =>
   let tr9 : Bool := q8.1;
   let tr10 : Int := q8.2.1;
   let tr11 : Int := q8.2.2.1;
   let tr12 : Int := q8.2.2.2.1;
   let tr13 : List Int := q8.2.2.2.2.1;
   let tr14 : List Int := q8.2.2.2.2.2;
   ((if tr9 = true then
     some (Sum.inr 7)
     else
     ((if (decide (ctx1 < 0)) = true then
       some true
       else
       (if (decide (ctx1 ≥ ((tr13.length : Nat) : Int))) = true then
        some true
        else
        (if (!decide (bit2 = 0)) = true then
         some (!decide (bit2 = 1))
         else
         some false))) : Option (Bool)).bind (fun (v15 : Bool) =>
      (if v15 = true then
       some (Sum.inr 2)
       else
       some (Sum.inl ())))) : Option ((Unit) ⊕ (Int))).bind (fun (o18 : (Unit) ⊕ (Int)) =>
    (Sum.elim (fun (p16 : Unit) =>
      (coder_interval_mid ctx1 tr10 tr11 tr12 tr13 tr14).bind fun (q19 : Int × Int × Int × Int × (List Int) × (List Int)) =>
      let tr20 : Int := q19.1;
      let tr21 : Int := q19.2.1;
      let tr22 : Int := q19.2.2.1;
      let tr23 : Int := q19.2.2.2.1;
      let tr24 : List Int := q19.2.2.2.2.1;
      let tr25 : List Int := q19.2.2.2.2.2;
      (coder_interval_take ctx1 bit2 tr20 tr21 tr22 tr23 tr24 tr25).bind fun (q26 : Int × Int × Int × (List Int) × (List Int)) =>
      let tr27 : Int := q26.1;
      let tr28 : Int := q26.2.1;
      let tr29 : Int := q26.2.2.1;
      let tr30 : List Int := q26.2.2.2.1;
      let tr31 : List Int := q26.2.2.2.2;
      (loop (coder_Encoder_Put_loop6) (tr27, tr28, tr29, tr30, tr31)).bind (fun (p61 : Int × Int × Int × (List Int) × (List Int)) =>
       let b62 : Int := p61.1;
       let b63 : Int := p61.2.1;
       let b64 : Int := p61.2.2.1;
       let b65 : List Int := p61.2.2.2.1;
       let b66 : List Int := p61.2.2.2.2;
       some (0, b62, b63, b64, b65, b66)))
     (fun (v17 : Int) =>
      some (v17, tr10, tr11, tr12, tr13, tr14)) o18)) := by rw [coder_Encoder_Put_eqD]; simp only [demon_same, coder_Encoder_Put_loop6_D_eq]

theorem generic_skips_eq (skip1 : Int) (skip2 : Int) (skip3 : List Int) (i4 : Int) : generic_skips skip1 skip2 skip3 i4 =
   (if (decide (((skip3.length : Nat) : Int) > 0)) = true then
    (if 0 ≤ i4 ∧ i4 < (skip3.length : Int) then
     some (decide (rd skip3 i4 = 1))
     else
     none)
    else
    some false) := (call_eq ..).trans (by kernel_rfl)

noncomputable def generic_plane_context_loop3 (x1 : Int) (y2 : Int) (b6 : List Arr2) (s7 : Int × Int × Int × Int × (List Int) × (List Arr2)) : Option ((Int × Int × Int × Int × (List Int) × (List Arr2)) ⊕ (Int × Int × Int × (List Int) × (List Arr2))) :=
   let n8 : Int := s7.1;
   let v9 : Int := s7.2.1;
   let b10 : Int := s7.2.2.1;
   let b11 : Int := s7.2.2.2.1;
   let b12 : List Int := s7.2.2.2.2.1;
   let b13 : List Arr2 := s7.2.2.2.2.2;
   (if (decide (v9 < ((b6.length : Nat) : Int))) = true then
    (if 0 ≤ v9 then
     (b6[v9.toNat]?).bind fun e14 =>
     let t15 : Int := IntKind.i64.wrap (2 * n8);
     (if 0 ≤ (0 : Int) ∧ (0 : Int) < ((2 : Nat) : Int) then
      let t16 : Int := IntKind.i64.wrap (x1 + e14.a0);
      (if 0 ≤ (1 : Int) ∧ (1 : Int) < ((2 : Nat) : Int) then
       let t17 : Int := IntKind.i64.wrap (y2 + e14.a1);
       (generic_plane_at t16 t17 b10 b11 b12 b13).bind fun (q18 : Int × Int × Int × (List Int) × (List Arr2)) =>
       let tr19 : Int := q18.1;
       let tr20 : Int := q18.2.1;
       let tr21 : Int := q18.2.2.1;
       let tr22 : List Int := q18.2.2.2.1;
       let tr23 : List Arr2 := q18.2.2.2.2;
       let t24 : Int := IntKind.i64.wrap tr19;
       let t25 : Int := IntKind.i64.wrap (t15 + t24);
       let t26 : Int := IntKind.i64.wrap (v9 + 1);
       some (Sum.inl (t25, t26, tr20, tr21, tr22, tr23))
       else
       none)
      else
      none)
     else
     none)
    else
    some (Sum.inr (n8, b10, b11, b12, b13)))
noncomputable def generic_plane_context_loop3_step (x1 : Int) (y2 : Int) (i27 : Nat) (x28 : Arr2) (s29 : Int × Int × Int × (List Int) × (List Arr2)) : Option ((Int × Int × Int × (List Int) × (List Arr2)) ⊕ (Int × Int × Int × (List Int) × (List Arr2))) :=
   let n30 : Int := s29.1;
   let b31 : Int := s29.2.1;
   let b32 : Int := s29.2.2.1;
   let b33 : List Int := s29.2.2.2.1;
   let b34 : List Arr2 := s29.2.2.2.2;
   let t15 : Int := IntKind.i64.wrap (2 * n30);
   (if 0 ≤ (0 : Int) ∧ (0 : Int) < ((2 : Nat) : Int) then
    let t16 : Int := IntKind.i64.wrap (x1 + x28.a0);
    (if 0 ≤ (1 : Int) ∧ (1 : Int) < ((2 : Nat) : Int) then
     let t17 : Int := IntKind.i64.wrap (y2 + x28.a1);
     (generic_plane_at t16 t17 b31 b32 b33 b34).bind fun (q18 : Int × Int × Int × (List Int) × (List Arr2)) =>
     let tr19 : Int := q18.1;
     let tr20 : Int := q18.2.1;
     let tr21 : Int := q18.2.2.1;
     let tr22 : List Int := q18.2.2.2.1;
     let tr23 : List Arr2 := q18.2.2.2.2;
     let t24 : Int := IntKind.i64.wrap tr19;
     let t25 : Int := IntKind.i64.wrap (t15 + t24);
     some (Sum.inl ((t25, tr20, tr21, tr22, tr23)))
     else
     none)
    else
    none)
theorem generic_plane_context_loop3_overAt (x1 : Int) (y2 : Int) (b6 : List Arr2) (hl : b6.length ≤ 4611686018427387904) (k : Nat) (s29 : Int × Int × Int × (List Int) × (List Arr2)) (hk : k ≤ b6.length) : loop (generic_plane_context_loop3 x1 y2 b6) ((s29.1, ((k : Nat) : Int), s29.2.1, s29.2.2.1, s29.2.2.2.1, s29.2.2.2.2) : Int × Int × Int × Int × (List Int) × (List Arr2)) =
    overL (generic_plane_context_loop3_step x1 y2) (fun (s29 : Int × Int × Int × (List Int) × (List Arr2)) => let n30 : Int := s29.1; let b31 : Int := s29.2.1; let b32 : Int := s29.2.2.1; let b33 : List Int := s29.2.2.2.1; let b34 : List Arr2 := s29.2.2.2.2; some (n30, b31, b32, b33, b34)) k (b6.drop k) s29 := by
  refine loop_over b6 (fun n (s : Int × Int × Int × (List Int) × (List Arr2)) => ((s.1, ((n : Nat) : Int), s.2.1, s.2.2.1, s.2.2.2.1, s.2.2.2.2) : Int × Int × Int × Int × (List Int) × (List Arr2))) _ _ (fun s => ?_) (fun i x s h => ?_) k s29 hk
  · unfold generic_plane_context_loop3; simp
  · have hlt := lt_len_of_get h
    have h1 : ((i : Nat) : Int) < ((b6.length : Nat) : Int) := by omega
    have h0 : (0 : Int) ≤ ((i : Nat) : Int) := by omega
    have hw : IntKind.i64.wrap (((i : Nat) : Int) + 1) = (((i + 1 : Nat) : Nat) : Int) := w64 (by omega)
    unfold generic_plane_context_loop3 generic_plane_context_loop3_step
    simp only [h1, h0, hw, h, decide_true, if_true, and_self, true_and, Int.toNat_natCast, Option.bind_some, Option.map_bind, Function.comp_def, map_ite, map_elim, Option.map_some, Option.map_none]
theorem generic_plane_context_loop3_over (x1 : Int) (y2 : Int) (b6 : List Arr2) (hl : b6.length ≤ 4611686018427387904) (s29 : Int × Int × Int × (List Int) × (List Arr2)) : loop (generic_plane_context_loop3 x1 y2 b6) ((s29.1, 0, s29.2.1, s29.2.2.1, s29.2.2.2.1, s29.2.2.2.2) : Int × Int × Int × Int × (List Int) × (List Arr2)) =
    overL (generic_plane_context_loop3_step x1 y2) (fun (s29 : Int × Int × Int × (List Int) × (List Arr2)) => let n30 : Int := s29.1; let b31 : Int := s29.2.1; let b32 : Int := s29.2.2.1; let b33 : List Int := s29.2.2.2.1; let b34 : List Arr2 := s29.2.2.2.2; some (n30, b31, b32, b33, b34)) 0 b6 s29 := generic_plane_context_loop3_overAt x1 y2 b6 hl 0 s29 (Nat.zero_le _)

theorem generic_plane_context_eq (x1 : Int) (y2 : Int) (b3 : Int) (b4 : Int) (b5 : List Int) (b6 : List Arr2) : generic_plane_context x1 y2 b3 b4 b5 b6 =
   (loop (generic_plane_context_loop3 x1 y2 b6) (0, 0, b3, b4, b5, b6)).bind (fun (p35 : Int × Int × Int × (List Int) × (List Arr2)) =>
    let n36 : Int := p35.1;
    let b37 : Int := p35.2.1;
    let b38 : Int := p35.2.2.1;
    let b39 : List Int := p35.2.2.2.1;
    let b40 : List Arr2 := p35.2.2.2.2;
    some (n36, b37, b38, b39, b40)) := (call_eq ..).trans (by kernel_rfl)

theorem coder_Encoder_none_eq (b1 : Int) (b2 : Int) (b3 : Int) (b4 : List Int) (b5 : List Int) : coder_Encoder_none b1 b2 b3 b4 b5 =
   some (false, b1, b2, b3, b4, b5) := (call_eq ..).trans (by kernel_rfl)

theorem ref05_Sides_eq (w1 : Int) (h2 : Int) : ref05_Sides w1 h2 =
   (if (decide (w1 ≥ 0)) = true then
    (if (decide (h2 ≥ 0)) = true then
     (if (decide (w1 ≤ 200)) = true then
      (if (decide (h2 ≤ 200)) = true then
       let t3 : Int := IntKind.i64.wrap (w1 * h2);
       some (decide (t3 ≤ 8192))
       else
       some false)
      else
      some false)
     else
     some false)
    else
    some false) := (call_eq ..).trans (by kernel_rfl)

theorem ref07_Valid_eq (o1 : Int) (o2 : Int) (o3 : Int) (o4 : Bool) (o5 : Int) : ref07_Valid o1 o2 o3 o4 o5 =
   ((if (decide (o1 < 0)) = true then
     some true
     else
     (if (decide (o1 > 3)) = true then
      some true
      else
      (if (decide (o5 < 0)) = true then
       some true
       else
       some (decide (o5 > 1))))) : Option (Bool)).bind (fun (v6 : Bool) =>
    (if v6 = true then
     some false
     else
     ((if 0 ≤ (0 : Int) ∧ (0 : Int) < ((2 : Nat) : Int) then
       (if (decide (o2 < (-8))) = true then
        some true
        else
        (if 0 ≤ (0 : Int) ∧ (0 : Int) < ((2 : Nat) : Int) then
         (if (decide (o2 > 8)) = true then
          some true
          else
          (if 0 ≤ (1 : Int) ∧ (1 : Int) < ((2 : Nat) : Int) then
           (if (decide (o3 < (-8))) = true then
            some true
            else
            (if 0 ≤ (1 : Int) ∧ (1 : Int) < ((2 : Nat) : Int) then
             some (decide (o3 > 0))
             else
             none))
           else
           none))
         else
         none))
       else
       none) : Option (Bool)).bind (fun (v7 : Bool) =>
      (if v7 = true then
       some false
       else
       (if 0 ≤ (1 : Int) ∧ (1 : Int) < ((2 : Nat) : Int) then
        (if (decide (o3 < 0)) = true then
         some true
         else
         (if 0 ≤ (0 : Int) ∧ (0 : Int) < ((2 : Nat) : Int) then
          some (decide (o2 < 0))
          else
          none))
        else
        none))))) := (call_eq ..).trans (by kernel_rfl)

theorem ref07_pixels_eq (o1 : Int) (o2 : Int) (o3 : Int) (o4 : Bool) (o5 : Int) : ref07_pixels o1 o2 o3 o4 o5 =
   (ref07_template o1).bind fun (q6 : (List Pixel)) =>
   (if 0 ≤ (0 : Int) ∧ (0 : Int) < ((2 : Nat) : Int) then
    (if 0 ≤ (1 : Int) ∧ (1 : Int) < ((2 : Nat) : Int) then
     (if (q6.length + ([(Pixel.mk o2 o3)] : List Pixel).length) * 16 ≤ 140737488355328 then
      let t7 : List Pixel := q6 ++ [(Pixel.mk o2 o3)];
      some t7
      else
      none)
     else
     none)
    else
    none) := (call_eq ..).trans (by kernel_rfl)

noncomputable def ref02_Valid_loop7 (m2 : List Int) (most3 : Int) (v5 : Int) : Option ((Int) ⊕ ((Unit) ⊕ (Bool))) :=
   (if (decide (v5 < ((m2.length : Nat) : Int))) = true then
    (if 0 ≤ v5 ∧ v5 < (m2.length : Int) then
     (if (decide (rd m2 v5 < 0)) = true then
      some (Sum.inr (Sum.inr false))
      else
      (if (decide (rd m2 v5 > most3)) = true then
       some (Sum.inr (Sum.inr false))
       else
       let t6 : Int := IntKind.i64.wrap (v5 + 1);
       some (Sum.inl t6)))
     else
     none)
    else
    some (Sum.inr (Sum.inl ())))
noncomputable def ref02_Valid_loop7_step (most3 : Int) (i7 : Nat) (x8 : Int) (s9 : Unit) : Option ((Unit) ⊕ ((Unit) ⊕ (Bool))) :=
   (if (decide (x8 < 0)) = true then
    some (Sum.inr (Sum.inr false))
    else
    (if (decide (x8 > most3)) = true then
     some (Sum.inr (Sum.inr false))
     else
     some (Sum.inl (()))))
theorem ref02_Valid_loop7_overAt (m2 : List Int) (most3 : Int) (hl : m2.length ≤ 4611686018427387904) (k : Nat) (s9 : Unit) (hk : k ≤ m2.length) : loop (ref02_Valid_loop7 m2 most3) (((k : Nat) : Int) : Int) =
    overL (ref02_Valid_loop7_step most3) (fun (s9 : Unit) => some (Sum.inl ())) k (m2.drop k) s9 := by
  refine loop_over m2 (fun n (s : Unit) => (((n : Nat) : Int) : Int)) _ _ (fun s => ?_) (fun i x s h => ?_) k s9 hk
  · unfold ref02_Valid_loop7; simp
  · have hlt := lt_len_of_get h
    have h1 : ((i : Nat) : Int) < ((m2.length : Nat) : Int) := by omega
    have h0 : (0 : Int) ≤ ((i : Nat) : Int) := by omega
    have hw : IntKind.i64.wrap (((i : Nat) : Int) + 1) = (((i + 1 : Nat) : Nat) : Int) := w64 (by omega)
    have hr : rd m2 ((i : Nat) : Int) = x := rd_nat h
    unfold ref02_Valid_loop7 ref02_Valid_loop7_step
    simp only [h1, h0, hw, h, hr, decide_true, if_true, and_self, true_and, Int.toNat_natCast, Option.bind_some, Option.map_bind, Function.comp_def, map_ite, map_elim, Option.map_some, Option.map_none]
theorem ref02_Valid_loop7_over (m2 : List Int) (most3 : Int) (hl : m2.length ≤ 4611686018427387904) (s9 : Unit) : loop (ref02_Valid_loop7 m2 most3) (0 : Int) =
    overL (ref02_Valid_loop7_step most3) (fun (s9 : Unit) => some (Sum.inl ())) 0 m2 s9 := ref02_Valid_loop7_overAt m2 most3 hl 0 s9 (Nat.zero_le _)

theorem ref02_Valid_eq (m1 : Int) (m2 : List Int) : ref02_Valid m1 m2 =
   ((if (decide (m1 = 1)) = true then
     some 65535
     else
     some 63) : Option (Int)).bind (fun (most3 : Int) =>
    ((if (!decide (m1 = 0)) = true then
      (if (!decide (m1 = 1)) = true then
       some true
       else
       some (decide (((m2.length : Nat) : Int) > 8192)))
      else
      some (decide (((m2.length : Nat) : Int) > 8192))) : Option (Bool)).bind (fun (v4 : Bool) =>
     (if v4 = true then
      some false
      else
      (loop (ref02_Valid_loop7 m2 most3) 0).bind (fun (o12 : (Unit) ⊕ (Bool)) =>
       (Sum.elim (fun (p10 : Unit) =>
         some true)
        (fun (v11 : Bool) =>
         some v11) o12))))) := (call_eq ..).trans (by kernel_rfl)

theorem ref02_Copy_eq (m1 : Int) (m2 : List Int) : ref02_Copy m1 m2 =
   (if (([] : List Int).length + m2.length) * 8 ≤ 140737488355328 then
    let t3 : List Int := ([] : List Int) ++ m2;
    some (m1, t3)
    else
    none) := (call_eq ..).trans (by kernel_rfl)

theorem ref02_Whole_eq : ref02_Whole =
   some (0, 4294967295) := (call_eq ..).trans (by kernel_rfl)

noncomputable def ref05_Valid_loop4 (b3 : List Int) (i7 : Int) : Option ((Int) ⊕ ((Unit) ⊕ (Bool))) :=
   (if (decide (i7 < ((b3.length : Nat) : Int))) = true then
    (if 0 ≤ i7 ∧ i7 < (b3.length : Int) then
     (if (decide (rd b3 i7 > 1)) = true then
      some (Sum.inr (Sum.inr false))
      else
      let t8 : Int := IntKind.i64.wrap (i7 + 1);
      some (Sum.inl t8))
     else
     none)
    else
    some (Sum.inr (Sum.inl ())))
noncomputable def ref05_Valid_loop4_step (i9 : Nat) (x10 : Int) (s11 : Unit) : Option ((Unit) ⊕ ((Unit) ⊕ (Bool))) :=
   (if (decide (x10 > 1)) = true then
    some (Sum.inr (Sum.inr false))
    else
    some (Sum.inl (())))
theorem ref05_Valid_loop4_overAt (b3 : List Int) (hl : b3.length ≤ 4611686018427387904) (k : Nat) (s11 : Unit) (hk : k ≤ b3.length) : loop (ref05_Valid_loop4 b3) (((k : Nat) : Int) : Int) =
    overL (ref05_Valid_loop4_step) (fun (s11 : Unit) => some (Sum.inl ())) k (b3.drop k) s11 := by
  refine loop_over b3 (fun n (s : Unit) => (((n : Nat) : Int) : Int)) _ _ (fun s => ?_) (fun i x s h => ?_) k s11 hk
  · unfold ref05_Valid_loop4; simp
  · have hlt := lt_len_of_get h
    have h1 : ((i : Nat) : Int) < ((b3.length : Nat) : Int) := by omega
    have h0 : (0 : Int) ≤ ((i : Nat) : Int) := by omega
    have hw : IntKind.i64.wrap (((i : Nat) : Int) + 1) = (((i + 1 : Nat) : Nat) : Int) := w64 (by omega)
    have hr : rd b3 ((i : Nat) : Int) = x := rd_nat h
    unfold ref05_Valid_loop4 ref05_Valid_loop4_step
    simp only [h1, h0, hw, h, hr, decide_true, if_true, and_self, true_and, Int.toNat_natCast, Option.bind_some, Option.map_bind, Function.comp_def, map_ite, map_elim, Option.map_some, Option.map_none]
theorem ref05_Valid_loop4_over (b3 : List Int) (hl : b3.length ≤ 4611686018427387904) (s11 : Unit) : loop (ref05_Valid_loop4 b3) (0 : Int) =
    overL (ref05_Valid_loop4_step) (fun (s11 : Unit) => some (Sum.inl ())) 0 b3 s11 := ref05_Valid_loop4_overAt b3 hl 0 s11 (Nat.zero_le _)

theorem ref05_Valid_eq (b1 : Int) (b2 : Int) (b3 : List Int) : ref05_Valid b1 b2 b3 =
   ((ref05_Sides b1 b2).bind fun (q4 : Bool) =>
    (if (!q4) = true then
     some true
     else
     let t5 : Int := IntKind.i64.wrap (b1 * b2);
     some (!decide (((b3.length : Nat) : Int) = t5))) : Option (Bool)).bind (fun (v6 : Bool) =>
    (if v6 = true then
     some false
     else
     (loop (ref05_Valid_loop4 b3) 0).bind (fun (o14 : (Unit) ⊕ (Bool)) =>
      (Sum.elim (fun (p12 : Unit) =>
        some true)
       (fun (v13 : Bool) =>
        some v13) o14)))) := (call_eq ..).trans (by kernel_rfl)

theorem ref05_At_eq (b1 : Int) (b2 : Int) (b3 : List Int) (x4 : Int) (y5 : Int) : ref05_At b1 b2 b3 x4 y5 =
   (ref05_inside b1 b2 b3 x4 y5).bind fun (q6 : Bool) =>
   (if (!q6) = true then
    some 0
    else
    let t7 : Int := IntKind.i64.wrap (y5 * b1);
    let t8 : Int := IntKind.i64.wrap (t7 + x4);
    (if 0 ≤ t8 ∧ t8 < (b3.length : Int) then
     let t9 : Int := IntKind.i64.wrap (rd b3 t8);
     some t9
     else
     none)) := (call_eq ..).trans (by kernel_rfl)

theorem ref02_Encoder_Model_eq (b1 : Int) (b2 : Int) (b3 : Int) (b4 : List Int) (b5 : List Int) : ref02_Encoder_Model b1 b2 b3 b4 b5 =
   (ref02_Copy b1 b4).bind fun (q6 : Int × (List Int)) =>
   let tr7 : Int := q6.1;
   let tr8 : List Int := q6.2;
   some (tr7, tr8, b1, b2, b3, b4, b5) := (call_eq ..).trans (by kernel_rfl)

theorem ref07_room_eq (o1 : Int) (o2 : Int) (o3 : Int) (o4 : Bool) (o5 : Int) (base6 : Int) (states7 : Int) (w8 : Int) (h9 : Int) (skip10 : Int) (skip11 : Int) (skip12 : List Int) : ref07_room o1 o2 o3 o4 o5 base6 states7 w8 h9 skip10 skip11 skip12 =
   (ref07_Size o1 o2 o3 o4 o5).bind fun (q13 : Int × Int) =>
   let tr14 : Int := q13.1;
   let tr15 : Int := q13.2;
   (ref07_none skip10 skip11 skip12).bind fun (q16 : Bool) =>
   (if (!q16) = true then
    (if (!decide (skip10 = w8)) = true then
     some 2
     else
     (if (!decide (skip11 = h9)) = true then
      some 2
      else
      (if (decide (base6 < 0)) = true then
       some 2
       else
       (if (decide (base6 > states7)) = true then
        some 2
        else
        let t17 : Int := IntKind.i64.wrap (states7 - base6);
        (if (decide (tr14 > t17)) = true then
         some 2
         else
         some 0)))))
    else
    (if (decide (base6 < 0)) = true then
     some 2
     else
     (if (decide (base6 > states7)) = true then
      some 2
      else
      let t18 : Int := IntKind.i64.wrap (states7 - base6);
      (if (decide (tr14 > t18)) = true then
       some 2
       else
       some 0)))) := (call_eq ..).trans (by kernel_rfl)

noncomputable def ref07_typical_loop3 (b1 : Int) (b2 : Int) (b3 : List Int) (skip4 : Int) (skip5 : Int) (skip6 : List Int) (y7 : Int) (s8 : Int × (List Int)) : Option ((Int × (List Int)) ⊕ ((List Int))) :=
   let x9 : Int := s8.1;
   let out10 : List Int := s8.2;
   (if (decide (x9 < b1)) = true then
    let t11 : Int := IntKind.i64.wrap (y7 - 1);
    (ref05_At b1 b2 b3 x9 t11).bind fun (q12 : Int) =>
    (ref05_At skip4 skip5 skip6 x9 y7).bind fun (q13 : Int) =>
    ((if (decide (q13 = 1)) = true then
      some 0
      else
      some q12) : Option (Int)).bind (fun (p14 : Int) =>
     let t15 : Int := IntKind.u8.wrap p14;
     (if (out10.length + ([t15] : List Int).length) * 1 ≤ 140737488355328 then
      let t16 : List Int := out10 ++ [t15];
      let t17 : Int := IntKind.i64.wrap (x9 + 1);
      some (Sum.inl (t17, t16))
      else
      none))
    else
    some (Sum.inr out10))
noncomputable def ref07_typical_loop3_step (b1 : Int) (b2 : Int) (b3 : List Int) (skip4 : Int) (skip5 : Int) (skip6 : List Int) (y7 : Int) (i18 : Nat) (x19 : Nat) (s20 : (List Int)) : Option (((List Int)) ⊕ ((List Int))) :=
   let t11 : Int := IntKind.i64.wrap (y7 - 1);
   (ref05_At b1 b2 b3 ((i18 : Nat) : Int) t11).bind fun (q12 : Int) =>
   (ref05_At skip4 skip5 skip6 ((i18 : Nat) : Int) y7).bind fun (q13 : Int) =>
   ((if (decide (q13 = 1)) = true then
     some 0
     else
     some q12) : Option (Int)).bind (fun (p14 : Int) =>
    let t15 : Int := IntKind.u8.wrap p14;
    (if (s20.length + ([t15] : List Int).length) * 1 ≤ 140737488355328 then
     let t16 : List Int := s20 ++ [t15];
     some (Sum.inl (t16))
     else
     none))
theorem ref07_typical_loop3_overAt (b1 : Int) (b2 : Int) (b3 : List Int) (skip4 : Int) (skip5 : Int) (skip6 : List Int) (y7 : Int) (hl : (List.range (b1).toNat).length ≤ 4611686018427387904) (k : Nat) (s20 : (List Int)) (hk : k ≤ (List.range (b1).toNat).length) : loop (ref07_typical_loop3 b1 b2 b3 skip4 skip5 skip6 y7) ((((k : Nat) : Int), s20) : Int × (List Int)) =
    overL (ref07_typical_loop3_step b1 b2 b3 skip4 skip5 skip6 y7) (fun (s20 : (List Int)) => some s20) k ((List.range (b1).toNat).drop k) s20 := by
  refine loop_over (List.range (b1).toNat) (fun n (s : (List Int)) => ((((n : Nat) : Int), s) : Int × (List Int))) _ _ (fun s => ?_) (fun i x s h => ?_) k s20 hk
  · have h1 : ¬ (((List.range (b1).toNat).length : Nat) : Int) < b1 := by simp only [List.length_range]; omega
    unfold ref07_typical_loop3; simp only [h1, decide_false, Bool.false_eq_true, if_false, Option.map_some]
  · have hlt := lt_len_of_get h
    rw [List.length_range] at hlt hl
    rw [List.getElem?_range hlt] at h
    cases h
    have h1 : ((i : Nat) : Int) < b1 := by omega
    have h0 : (0 : Int) ≤ ((i : Nat) : Int) := by omega
    have hw : IntKind.i64.wrap (((i : Nat) : Int) + 1) = (((i + 1 : Nat) : Nat) : Int) := w64 (by omega)
    unfold ref07_typical_loop3 ref07_typical_loop3_step
    simp only [h1, h0, hw, decide_true, if_true, and_self, true_and, Int.toNat_natCast, Option.bind_some, Option.map_bind, Function.comp_def, map_ite, map_elim, Option.map_some, Option.map_none]
theorem ref07_typical_loop3_over (b1 : Int) (b2 : Int) (b3 : List Int) (skip4 : Int) (skip5 : Int) (skip6 : List Int) (y7 : Int) (hl : (List.range (b1).toNat).length ≤ 4611686018427387904) (s20 : (List Int)) : loop (ref07_typical_loop3 b1 b2 b3 skip4 skip5 skip6 y7) ((0, s20) : Int × (List Int)) =
    overL (ref07_typical_loop3_step b1 b2 b3 skip4 skip5 skip6 y7) (fun (s20 : (List Int)) => some s20) 0 (List.range (b1).toNat) s20 := ref07_typical_loop3_overAt b1 b2 b3 skip4 skip5 skip6 y7 hl 0 s20 (Nat.zero_le _)

theorem ref07_typical_eq (b1 : Int) (b2 : Int) (b3 : List Int) (skip4 : Int) (skip5 : Int) (skip6 : List Int) (y7 : Int) : ref07_typical b1 b2 b3 skip4 skip5 skip6 y7 =
   (loop (ref07_typical_loop3 b1 b2 b3 skip4 skip5 skip6 y7) (0, [])).bind (fun (out21 : (List Int)) =>
    some out21) := (call_eq ..).trans (by kernel_rfl)

noncomputable def ref02_Encoder_Put_loop8 (s17 : Int × Int × Int × (List Int) × (List Int)) : Option ((Int × Int × Int × (List Int) × (List Int)) ⊕ (Int × Int × Int × (List Int) × (List Int))) :=
   let b18 : Int := s17.1;
   let b19 : Int := s17.2.1;
   let b20 : Int := s17.2.2.1;
   let b21 : List Int := s17.2.2.2.1;
   let b22 : List Int := s17.2.2.2.2;
   (ref02_Interval_Fixed b19 b20).bind fun (q23 : Bool) =>
   (if q23 = true then
    let t24 : Int := ishr .u64 b20 24;
    let t25 : Int := IntKind.u8.wrap t24;
    (if (b22.length + ([t25] : List Int).length) * 1 ≤ 140737488355328 then
     let t26 : List Int := b22 ++ [t25];
     (ref02_Interval_Shifted b19 b20).bind fun (q27 : Int × Int) =>
     let tr28 : Int := q27.1;
     let tr29 : Int := q27.2;
     some (Sum.inl (b18, tr28, tr29, b21, t26))
     else
     none)
    else
    some (Sum.inr (b18, b19, b20, b21, b22)))
theorem ref02_Encoder_Put_eq (ctx1 : Int) (bit2 : Int) (b3 : Int) (b4 : Int) (b5 : Int) (b6 : List Int) (b7 : List Int) : ref02_Encoder_Put ctx1 bit2 b3 b4 b5 b6 b7 =
   ((if (decide (ctx1 < 0)) = true then
     some true
     else
     (if (decide (ctx1 ≥ ((b6.length : Nat) : Int))) = true then
      some true
      else
      (if (!decide (bit2 = 0)) = true then
       some (!decide (bit2 = 1))
       else
       some false))) : Option (Bool)).bind (fun (v8 : Bool) =>
    (if v8 = true then
     some (2, b3, b4, b5, b6, b7)
     else
     (if 0 ≤ ctx1 ∧ ctx1 < (b6.length : Int) then
      let t9 : Int := rd b6 ctx1;
      (ref02_Likely b3 t9).bind fun (q10 : Int) =>
      (ref02_Interval_Part b4 b5 q10 bit2).bind fun (q11 : Int × Int) =>
      let tr12 : Int := q11.1;
      let tr13 : Int := q11.2;
      (if 0 ≤ ctx1 ∧ ctx1 < (b6.length : Int) then
       let t14 : Int := rd b6 ctx1;
       (ref02_After b3 t14 bit2).bind fun (q15 : Int) =>
       (if 0 ≤ ctx1 ∧ ctx1 < (b6.length : Int) then
        let w16 : List Int := b6.set ctx1.toNat q15;
        (loop (ref02_Encoder_Put_loop8) (b3, tr12, tr13, w16, b7)).bind (fun (p30 : Int × Int × Int × (List Int) × (List Int)) =>
         let b31 : Int := p30.1;
         let b32 : Int := p30.2.1;
         let b33 : Int := p30.2.2.1;
         let b34 : List Int := p30.2.2.2.1;
         let b35 : List Int := p30.2.2.2.2;
         some (0, b31, b32, b33, b34, b35))
        else
        none)
       else
       none)
      else
      none))) := (call_eq ..).trans (by kernel_rfl)

noncomputable def ref07_context_loop4 (b6 : Int) (b7 : Int) (b8 : List Int) (x9 : Int) (y10 : Int) (q11 : (List Pixel)) (s12 : Int × Int) : Option ((Int × Int) ⊕ (Int)) :=
   let n13 : Int := s12.1;
   let i14 : Int := s12.2;
   (if (decide (i14 < ((q11.length : Nat) : Int))) = true then
    let t15 : Int := IntKind.i64.wrap (2 * n13);
    (if 0 ≤ i14 then
     (q11[i14.toNat]?).bind fun e16 =>
     let t17 : Int := IntKind.i64.wrap (x9 + e16.dX);
     (if 0 ≤ i14 then
      (q11[i14.toNat]?).bind fun e18 =>
      let t19 : Int := IntKind.i64.wrap (y10 + e18.dY);
      (ref05_At b6 b7 b8 t17 t19).bind fun (q20 : Int) =>
      let t21 : Int := IntKind.i64.wrap (t15 + q20);
      let t22 : Int := IntKind.i64.wrap (i14 + 1);
      some (Sum.inl (t21, t22))
      else
      none)
     else
     none)
    else
    some (Sum.inr n13))
theorem ref07_context_eq (o1 : Int) (o2 : Int) (o3 : Int) (o4 : Bool) (o5 : Int) (b6 : Int) (b7 : Int) (b8 : List Int) (x9 : Int) (y10 : Int) : ref07_context o1 o2 o3 o4 o5 b6 b7 b8 x9 y10 =
   (ref07_pixels o1 o2 o3 o4 o5).bind fun (q11 : (List Pixel)) =>
   (loop (ref07_context_loop4 b6 b7 b8 x9 y10 q11) (0, 0)).bind (fun (n23 : Int) =>
    some n23) := (call_eq ..).trans (by kernel_rfl)

noncomputable def ref02_Interval_End_loop3 (x1 : Int) (x2 : Int) (s3 : Int × (List Int)) : Option ((Int × (List Int)) ⊕ ((List Int))) :=
   let n4 : Int := s3.1;
   let out5 : List Int := s3.2;
   (if (decide (n4 < x1)) = true then
    let t6 : Int := IntKind.i64.wrap (8 * ((out5.length : Nat) : Int));
    let t7 : Int := IntKind.i64.wrap (24 - t6);
    (if t7 < 0 then
     none
     else
     let t8 : Int := ishr .u64 x2 t7;
     let t9 : Int := IntKind.u8.wrap t8;
     (if (out5.length + ([t9] : List Int).length) * 1 ≤ 140737488355328 then
      let t10 : List Int := out5 ++ [t9];
      (if t7 < 0 then
       none
       else
       let t11 : Int := ishr .u64 x2 t7;
       let t12 : Int := t11.tmod 256;
       (if t7 < 0 then
        none
        else
        let t13 : Int := ishl .u64 t12 t7;
        let t14 : Int := IntKind.u64.wrap (n4 + t13);
        some (Sum.inl (t14, t10))))
      else
      none))
    else
    some (Sum.inr out5))
theorem ref02_Interval_End_eq (x1 : Int) (x2 : Int) : ref02_Interval_End x1 x2 =
   (loop (ref02_Interval_End_loop3 x1 x2) (0, [])).bind (fun (out15 : (List Int)) =>
    some out15) := (call_eq ..).trans (by kernel_rfl)

noncomputable def ref01_Size_loop5 (s6 : Int × (List Int)) : Option ((Int × (List Int)) ⊕ ((List Int))) :=
   let n7 : Int := s6.1;
   let out8 : List Int := s6.2;
   (if (decide (n7 > 0)) = true then
    let t9 : Int := n7.tmod 128;
    let t10 : Int := IntKind.i64.wrap (128 + t9);
    let t11 : Int := IntKind.u8.wrap t10;
    (if (([t11] : List Int).length + out8.length) * 1 ≤ 140737488355328 then
     let t12 : List Int := ([t11] : List Int) ++ out8;
     let t13 : Int := IntKind.i64.wrap (n7.tdiv 128);
     some (Sum.inl (t13, t12))
     else
     none)
    else
    some (Sum.inr out8))
theorem ref01_Size_eq (n1 : Int) : ref01_Size n1 =
   ((if (decide (n1 < 0)) = true then
     some true
     else
     some (decide (n1 > 2147483647))) : Option (Bool)).bind (fun (v2 : Bool) =>
    (if v2 = true then
     some ([], 2)
     else
     let t3 : Int := n1.tmod 128;
     let t4 : Int := IntKind.u8.wrap t3;
     let t5 : Int := IntKind.i64.wrap (n1.tdiv 128);
     (loop (ref01_Size_loop5) (t5, [t4])).bind (fun (out14 : (List Int)) =>
      some (out14, 0)))) := (call_eq ..).trans (by kernel_rfl)

theorem prefix_Standard_eq (k1 : Int) : prefix_Standard k1 =
   (if (decide (k1 = 0)) = true then
    (prefix_lines [(Arr4.mk 1 0 0 0), (Arr4.mk 2 1 1 0), (Arr4.mk 3 3 3 0), (Arr4.mk 4 5 11 0), (Arr4.mk 5 8 43 0), (Arr4.mk 5 20 299 0)]).bind fun (q2 : (List Line)) =>
    some (q2, 0)
    else
    (if (decide (k1 = 1)) = true then
     (prefix_lines [(Arr4.mk 1 2 0 0), (Arr4.mk 2 4 4 0), (Arr4.mk 3 8 20 0), (Arr4.mk 4 20 (-1) 1), (Arr4.mk 4 0 0 2)]).bind fun (q3 : (List Line)) =>
     some (q3, 0)
     else
     (if (decide (k1 = 2)) = true then
      (prefix_lines [(Arr4.mk 1 0 0 0), (Arr4.mk 3 2 1 0), (Arr4.mk 3 2 (-1) 1), (Arr4.mk 3 20 5 0), (Arr4.mk 3 20 (-5) 1)]).bind fun (q4 : (List Line)) =>
      some (q4, 0)
      else
      some ([], 2)))) := (call_eq ..).trans (by kernel_rfl)

theorem prefix_Bits_eq (a1 : List Line) (n2 : Bool) (n3 : Int) : prefix_Bits a1 n2 n3 =
   (prefix_Valid a1).bind fun (q4 : Bool) =>
   (if (!q4) = true then
    some (20, [])
    else
    (prefix_codes a1).bind fun (q5 : (List Code)) =>
    (prefix_put a1 q5 n2 n3).bind fun (q6 : Int × (List Int)) =>
    let tr7 : Int := q6.1;
    let tr8 : List Int := q6.2;
    some (tr7, tr8)) := (call_eq ..).trans (by kernel_rfl)

theorem runs_remains_eq (colour1 : Int) : runs_remains colour1 =
   (if (decide (colour1 = 0)) = true then
    some [(Line.mk 2 2 0 0), (Line.mk 2 3 4 0), (Line.mk 2 4 12 0), (Line.mk 2 6 28 0)]
    else
    some [(Line.mk 1 1 0 0), (Line.mk 2 1 2 0), (Line.mk 3 2 4 0), (Line.mk 3 6 8 0)]) := (call_eq ..).trans (by kernel_rfl)

noncomputable def runs_marks_loop2 (above1 : List Int) (colour3 : Int) (b5 : Int) : Option ((Int) ⊕ (Int)) :=
   (if (decide (b5 < ((above1.length : Nat) : Int))) = true then
    ((if (decide (b5 > 0)) = true then
      let t6 : Int := IntKind.i64.wrap (b5 - 1);
      (if 0 ≤ t6 ∧ t6 < (above1.length : Int) then
       some (rd above1 t6)
       else
       none)
      else
      some 0) : Option (Int)).bind (fun (left7 : Int) =>
     (if 0 ≤ b5 ∧ b5 < (above1.length : Int) then
      (if (!decide (rd above1 b5 = colour3)) = true then
       (if (decide (left7 = colour3)) = true then
        some (Sum.inr b5)
        else
        let t8 : Int := IntKind.i64.wrap (b5 + 1);
        some (Sum.inl t8))
       else
       let t9 : Int := IntKind.i64.wrap (b5 + 1);
       some (Sum.inl t9))
      else
      none))
    else
    some (Sum.inr b5))
theorem runs_marks_eq (above1 : List Int) (a2 : Int) (colour3 : Int) : runs_marks above1 a2 colour3 =
   let t4 : Int := IntKind.i64.wrap (a2 + 1);
   (loop (runs_marks_loop2 above1 colour3) t4).bind (fun (b10 : Int) =>
    let t11 : Int := imin b10 ((above1.length : Nat) : Int);
    (runs_change above1 t11 colour3).bind fun (q12 : Int) =>
    some (t11, q12)) := (call_eq ..).trans (by kernel_rfl)

noncomputable def runs_change_loop2 (pixels1 : List Int) (colour3 : Int) (x5 : Int) : Option ((Int) ⊕ (Int)) :=
   (if (decide (x5 < ((pixels1.length : Nat) : Int))) = true then
    (if 0 ≤ x5 ∧ x5 < (pixels1.length : Int) then
     (if (!decide (rd pixels1 x5 = colour3)) = true then
      let t6 : Int := IntKind.i64.wrap (x5 + 1);
      some (Sum.inl t6)
      else
      some (Sum.inr x5))
     else
     none)
    else
    some (Sum.inr x5))
theorem runs_change_eq (pixels1 : List Int) (a2 : Int) (colour3 : Int) : runs_change pixels1 a2 colour3 =
   let t4 : Int := IntKind.i64.wrap (a2 + 1);
   (loop (runs_change_loop2 pixels1 colour3) t4).bind (fun (x7 : Int) =>
    let t8 : Int := imin x7 ((pixels1.length : Nat) : Int);
    some t8) := (call_eq ..).trans (by kernel_rfl)

noncomputable def runs_list_loop3 (s1 : List Int) (s2 : Int × (List Int)) : Option ((Int × (List Int)) ⊕ ((List Int))) :=
   let v3 : Int := s2.1;
   let b4 : List Int := s2.2;
   (if (decide (v3 < ((s1.length : Nat) : Int))) = true then
    (if 0 ≤ v3 ∧ v3 < (b4.length : Int) then
     let t5 : Int := rd b4 v3;
     let t6 : Int := IntKind.u8.wrap (t5 - 48);
     (if 0 ≤ v3 ∧ v3 < (b4.length : Int) then
      let w7 : List Int := b4.set v3.toNat t6;
      let t8 : Int := IntKind.i64.wrap (v3 + 1);
      some (Sum.inl (t8, w7))
      else
      none)
     else
     none)
    else
    some (Sum.inr b4))
noncomputable def runs_list_loop3_step (i9 : Nat) (x10 : Int) (s11 : (List Int)) : Option (((List Int)) ⊕ ((List Int))) :=
   (if 0 ≤ ((i9 : Nat) : Int) ∧ ((i9 : Nat) : Int) < (s11.length : Int) then
    let t5 : Int := rd s11 ((i9 : Nat) : Int);
    let t6 : Int := IntKind.u8.wrap (t5 - 48);
    (if 0 ≤ ((i9 : Nat) : Int) ∧ ((i9 : Nat) : Int) < (s11.length : Int) then
     let w7 : List Int := s11.set ((i9 : Nat) : Int).toNat t6;
     some (Sum.inl (w7))
     else
     none)
    else
    none)
theorem runs_list_loop3_overAt (s1 : List Int) (hl : s1.length ≤ 4611686018427387904) (k : Nat) (s11 : (List Int)) (hk : k ≤ s1.length) : loop (runs_list_loop3 s1) ((((k : Nat) : Int), s11) : Int × (List Int)) =
    overL (runs_list_loop3_step) (fun (s11 : (List Int)) => some s11) k (s1.drop k) s11 := by
  refine loop_over s1 (fun n (s : (List Int)) => ((((n : Nat) : Int), s) : Int × (List Int))) _ _ (fun s => ?_) (fun i x s h => ?_) k s11 hk
  · unfold runs_list_loop3; simp
  · have hlt := lt_len_of_get h
    have h1 : ((i : Nat) : Int) < ((s1.length : Nat) : Int) := by omega
    have h0 : (0 : Int) ≤ ((i : Nat) : Int) := by omega
    have hw : IntKind.i64.wrap (((i : Nat) : Int) + 1) = (((i + 1 : Nat) : Nat) : Int) := w64 (by omega)
    have hr : rd s1 ((i : Nat) : Int) = x := rd_nat h
    unfold runs_list_loop3 runs_list_loop3_step
    simp only [h1, h0, hw, h, hr, decide_true, if_true, and_self, true_and, Int.toNat_natCast, Option.bind_some, Option.map_bind, Function.comp_def, map_ite, map_elim, Option.map_some, Option.map_none]
theorem runs_list_loop3_over (s1 : List Int) (hl : s1.length ≤ 4611686018427387904) (s11 : (List Int)) : loop (runs_list_loop3 s1) ((0, s11) : Int × (List Int)) =
    overL (runs_list_loop3_step) (fun (s11 : (List Int)) => some s11) 0 s1 s11 := runs_list_loop3_overAt s1 hl 0 s11 (Nat.zero_le _)

theorem runs_list_eq (s1 : List Int) : runs_list s1 =
   (loop (runs_list_loop3 s1) (0, s1)).bind (fun (b12 : (List Int)) =>
    some b12) := (call_eq ..).trans (by kernel_rfl)

theorem runs_uprights_eq : runs_uprights =
   some [[48, 48, 48, 48, 48, 49, 48], [48, 48, 48, 48, 49, 48], [48, 49, 48], [49], [48, 49, 49], [48, 48, 48, 48, 49, 49], [48, 48, 48, 48, 48, 49, 49]] := (call_eq ..).trans (by kernel_rfl)

theorem ref06_IsSize_eq (w1 : Int) (h2 : Int) : ref06_IsSize w1 h2 =
   (if (decide (w1 ≥ 0)) = true then
    (if (decide (w1 ≤ 200)) = true then
     (if (decide (h2 ≥ 0)) = true then
      (if (decide (h2 ≤ 200)) = true then
       let t3 : Int := IntKind.i64.wrap (w1 * h2);
       some (decide (t3 ≤ 8192))
       else
       some false)
      else
      some false)
     else
     some false)
    else
    some false) := (call_eq ..).trans (by kernel_rfl)

noncomputable def ref06_IsRow_loop2 (l1 : List Int) (v2 : Int) : Option ((Int) ⊕ ((Unit) ⊕ (Bool))) :=
   (if (decide (v2 < ((l1.length : Nat) : Int))) = true then
    (if 0 ≤ v2 ∧ v2 < (l1.length : Int) then
     (if (decide (rd l1 v2 > 1)) = true then
      some (Sum.inr (Sum.inr false))
      else
      let t3 : Int := IntKind.i64.wrap (v2 + 1);
      some (Sum.inl t3))
     else
     none)
    else
    some (Sum.inr (Sum.inl ())))
noncomputable def ref06_IsRow_loop2_step (i4 : Nat) (x5 : Int) (s6 : Unit) : Option ((Unit) ⊕ ((Unit) ⊕ (Bool))) :=
   (if (decide (x5 > 1)) = true then
    some (Sum.inr (Sum.inr false))
    else
    some (Sum.inl (())))
theorem ref06_IsRow_loop2_overAt (l1 : List Int) (hl : l1.length ≤ 4611686018427387904) (k : Nat) (s6 : Unit) (hk : k ≤ l1.length) : loop (ref06_IsRow_loop2 l1) (((k : Nat) : Int) : Int) =
    overL (ref06_IsRow_loop2_step) (fun (s6 : Unit) => some (Sum.inl ())) k (l1.drop k) s6 := by
  refine loop_over l1 (fun n (s : Unit) => (((n : Nat) : Int) : Int)) _ _ (fun s => ?_) (fun i x s h => ?_) k s6 hk
  · unfold ref06_IsRow_loop2; simp
  · have hlt := lt_len_of_get h
    have h1 : ((i : Nat) : Int) < ((l1.length : Nat) : Int) := by omega
    have h0 : (0 : Int) ≤ ((i : Nat) : Int) := by omega
    have hw : IntKind.i64.wrap (((i : Nat) : Int) + 1) = (((i + 1 : Nat) : Nat) : Int) := w64 (by omega)
    have hr : rd l1 ((i : Nat) : Int) = x := rd_nat h
    unfold ref06_IsRow_loop2 ref06_IsRow_loop2_step
    simp only [h1, h0, hw, h, hr, decide_true, if_true, and_self, true_and, Int.toNat_natCast, Option.bind_some, Option.map_bind, Function.comp_def, map_ite, map_elim, Option.map_some, Option.map_none]
theorem ref06_IsRow_loop2_over (l1 : List Int) (hl : l1.length ≤ 4611686018427387904) (s6 : Unit) : loop (ref06_IsRow_loop2 l1) (0 : Int) =
    overL (ref06_IsRow_loop2_step) (fun (s6 : Unit) => some (Sum.inl ())) 0 l1 s6 := ref06_IsRow_loop2_overAt l1 hl 0 s6 (Nat.zero_le _)

theorem ref06_IsRow_eq (l1 : List Int) : ref06_IsRow l1 =
   (loop (ref06_IsRow_loop2 l1) 0).bind (fun (o9 : (Unit) ⊕ (Bool)) =>
    (Sum.elim (fun (p7 : Unit) =>
      some true)
     (fun (v8 : Bool) =>
      some v8) o9)) := (call_eq ..).trans (by kernel_rfl)

theorem ref06_RowOf_eq (b1 : Int) (b2 : Int) (b3 : List Int) (y4 : Int) : ref06_RowOf b1 b2 b3 y4 =
   (if (decide (y4 < 0)) = true then
    (if 0 ≤ b1 ∧ b1 ≤ b1 ∧ ((1 : Nat) : Int) * b1 ≤ 281474976710656 then
     let t5 : List Int := List.replicate b1.toNat 0;
     some t5
     else
     none)
    else
    let t6 : Int := IntKind.i64.wrap (y4 * b1);
    let t7 : Int := IntKind.i64.wrap (y4 + 1);
    let t8 : Int := IntKind.i64.wrap (t7 * b1);
    (if 0 ≤ t8 ∧ t8 ≤ ((b3.length : Nat) : Int) then
     (if 0 ≤ t6 ∧ t6 ≤ t8 then
      let t9 : List Int := cutL b3 t6.toNat t8.toNat;
      (if (([] : List Int).length + t9.length) * 1 ≤ 140737488355328 then
       let t10 : List Int := ([] : List Int) ++ t9;
       some t10
       else
       none)
      else
      none)
     else
     none)) := (call_eq ..).trans (by kernel_rfl)

noncomputable def ref06_Row_loop6 (row1 : List Int) (colour3 : Int) (at4 : Int) (n6 : Int) : Option ((Int) ⊕ (Int)) :=
   let t7 : Int := IntKind.i64.wrap (at4 + n6);
   (if (decide (t7 < ((row1.length : Nat) : Int))) = true then
    let t8 : Int := IntKind.i64.wrap (at4 + n6);
    (if 0 ≤ t8 ∧ t8 < (row1.length : Int) then
     (if (decide (rd row1 t8 = colour3)) = true then
      let t9 : Int := IntKind.i64.wrap (n6 + 1);
      some (Sum.inl t9)
      else
      some (Sum.inr n6))
     else
     none)
    else
    some (Sum.inr n6))
noncomputable def ref06_Row_loop4 (row1 : List Int) (s2 : Int × Int × (List Int)) : Option ((Int × Int × (List Int)) ⊕ ((List Int))) :=
   let colour3 : Int := s2.1;
   let at4 : Int := s2.2.1;
   let out5 : List Int := s2.2.2;
   (if (decide (at4 < ((row1.length : Nat) : Int))) = true then
    (loop (ref06_Row_loop6 row1 colour3 at4) 0).bind (fun (n10 : Int) =>
     (if (out5.length + ([n10] : List Int).length) * 8 ≤ 140737488355328 then
      let t11 : List Int := out5 ++ [n10];
      let t12 : Int := IntKind.i64.wrap (at4 + n10);
      let t13 : Int := IntKind.u8.wrap (1 - colour3);
      some (Sum.inl (t13, t12, t11))
      else
      none))
    else
    some (Sum.inr out5))
theorem ref06_Row_eq (row1 : List Int) : ref06_Row row1 =
   (loop (ref06_Row_loop4 row1) (0, 0, [])).bind (fun (out14 : (List Int)) =>
    some out14) := (call_eq ..).trans (by kernel_rfl)

theorem ref06_RunBits_eq (n1 : Int) (colour2 : Int) : ref06_RunBits n1 colour2 =
   (ref04_Standard 0).bind fun (q3 : (List Line)) =>
   let t4 : Int := IntKind.i64.wrap (n1.tdiv 64);
   (ref04_Bits q3 false t4).bind fun (q5 : (List Int) × Bool) =>
   let tr6 : List Int := q5.1;
   let tr7 : Bool := q5.2;
   (ref06_table colour2).bind fun (q8 : (List Line)) =>
   let t9 : Int := n1.tmod 64;
   (ref04_Bits q8 false t9).bind fun (q10 : (List Int) × Bool) =>
   let tr11 : List Int := q10.1;
   let tr12 : Bool := q10.2;
   (if (([] : List Int).length + tr6.length) * 1 ≤ 140737488355328 then
    let t13 : List Int := ([] : List Int) ++ tr6;
    (if (t13.length + tr11.length) * 1 ≤ 140737488355328 then
     let t14 : List Int := t13 ++ tr11;
     some t14
     else
     none)
    else
    none) := (call_eq ..).trans (by kernel_rfl)

noncomputable def ref06_Modes_loop3 (above1 : List Int) (row2 : List Int) (s3 : Int × Int × (List Mode')) : Option ((Int × Int × (List Mode')) ⊕ ((List Mode'))) :=
   let a4 : Int := s3.1;
   let colour5 : Int := s3.2.1;
   let out6 : List Mode' := s3.2.2;
   ((if (decide (((row2.length : Nat) : Int) > 0)) = true then
     some (decide (a4 < ((row2.length : Nat) : Int)))
     else
     some false) : Option (Bool)).bind (fun (v7 : Bool) =>
    (if v7 = true then
     (ref06_Choice above1 row2 a4 colour5).bind fun (q8 : (List Int) × (List Int) × Int × Int) =>
     let tr9 : List Int := q8.1;
     let tr10 : List Int := q8.2.1;
     let tr11 : Int := q8.2.2.1;
     let tr12 : Int := q8.2.2.2;
     (if (out6.length + ([(Mode'.mk tr9 tr10 tr11 tr12)] : List Mode').length) * 56 ≤ 140737488355328 then
      let t13 : List Mode' := out6 ++ [(Mode'.mk tr9 tr10 tr11 tr12)];
      some (Sum.inl (tr11, tr12, t13))
      else
      none)
     else
     some (Sum.inr out6)))
theorem ref06_Modes_eq (above1 : List Int) (row2 : List Int) : ref06_Modes above1 row2 =
   (loop (ref06_Modes_loop3 above1 row2) ((-1), 0, [])).bind (fun (out14 : (List Mode')) =>
    some out14) := (call_eq ..).trans (by kernel_rfl)

theorem refine_contexts_eq (template1 : Int) : refine_contexts template1 =
   (refine_fresh template1).bind fun (q2 : (List Arr2)) =>
   (if ((q2.length : Nat) : Int) < 0 then
    none
    else
    let t3 : Int := ishl .i64 32 ((q2.length : Nat) : Int);
    some t3) := (call_eq ..).trans (by kernel_rfl)

theorem coder_Encoder_Model_eq (b1 : Int) (b2 : Int) (b3 : Int) (b4 : List Int) (b5 : List Int) : coder_Encoder_Model b1 b2 b3 b4 b5 =
   (coder_Encoder_none b1 b2 b3 b4 b5).bind fun (q6 : Bool × Int × Int × Int × (List Int) × (List Int)) =>
   let tr7 : Bool := q6.1;
   let tr8 : Int := q6.2.1;
   let tr9 : Int := q6.2.2.1;
   let tr10 : Int := q6.2.2.2.1;
   let tr11 : List Int := q6.2.2.2.2.1;
   let tr12 : List Int := q6.2.2.2.2.2;
   (if tr7 = true then
    some (0, [], tr8, tr9, tr10, tr11, tr12)
    else
    (coder_clone tr8 tr11).bind fun (q13 : Int × (List Int)) =>
    let tr14 : Int := q13.1;
    let tr15 : List Int := q13.2;
    some (tr14, tr15, tr8, tr9, tr10, tr11, tr12)) := (call_eq ..).trans (by kernel_rfl)

theorem refine_fits_eq (m1 : Int) (m2 : List Int) (base3 : Int) (o4 : Int) (o5 : Int) (o6 : Int) (o7 : Bool) (o8 : Int) : refine_fits m1 m2 base3 o4 o5 o6 o7 o8 =
   (if (decide (base3 ≥ 0)) = true then
    (refine_contexts o4).bind fun (q9 : Int) =>
    let t10 : Int := IntKind.i64.wrap (((m2.length : Nat) : Int) - q9);
    let t11 : Int := IntKind.i64.wrap (t10 - 1);
    some (decide (base3 ≤ t11))
    else
    some false) := (call_eq ..).trans (by kernel_rfl)

theorem refine_newRegion_eq (o1 : Int) (o2 : Int) (o3 : Int) (o4 : Bool) (o5 : Int) (w6 : Int) (h7 : Int) (pix8 : List Int) (r9 : Int) (r10 : Int) (r11 : List Int) : refine_newRegion o1 o2 o3 o4 o5 w6 h7 pix8 r9 r10 r11 =
   some (o1, o2, o3, o4, o5, w6, h7, pix8, r9, r10, r11) := (call_eq ..).trans (by kernel_rfl)

noncomputable def refine_region_typical_loop2 (y1 : Int) (b7 : Int) (s13 : Int × Int × Int × Int × Bool × Int × Int × Int × (List Int) × Int × Int × (List Int)) : Option ((Int × Int × Int × Int × Bool × Int × Int × Int × (List Int) × Int × Int × (List Int)) ⊕ ((Int × Int × Int × Bool × Int × Int × Int × (List Int) × Int × Int × (List Int)) ⊕ (Bool × Int × Int × Int × Bool × Int × Int × Int × (List Int) × Int × Int × (List Int)))) :=
   let v14 : Int := s13.1;
   let b15 : Int := s13.2.1;
   let b16 : Int := s13.2.2.1;
   let b17 : Int := s13.2.2.2.1;
   let b18 : Bool := s13.2.2.2.2.1;
   let b19 : Int := s13.2.2.2.2.2.1;
   let b20 : Int := s13.2.2.2.2.2.2.1;
   let b21 : Int := s13.2.2.2.2.2.2.2.1;
   let b22 : List Int := s13.2.2.2.2.2.2.2.2.1;
   let b23 : Int := s13.2.2.2.2.2.2.2.2.2.1;
   let b24 : Int := s13.2.2.2.2.2.2.2.2.2.2.1;
   let b25 : List Int := s13.2.2.2.2.2.2.2.2.2.2.2;
   (if (decide (v14 < b7)) = true then
    (refine_region_flat v14 y1 b15 b16 b17 b18 b19 b20 b21 b22 b23 b24 b25).bind fun (q26 : Int × Bool × Int × Int × Int × Bool × Int × Int × Int × (List Int) × Int × Int × (List Int)) =>
    let tr27 : Int := q26.1;
    let tr28 : Bool := q26.2.1;
    let tr29 : Int := q26.2.2.1;
    let tr30 : Int := q26.2.2.2.1;
    let tr31 : Int := q26.2.2.2.2.1;
    let tr32 : Bool := q26.2.2.2.2.2.1;
    let tr33 : Int := q26.2.2.2.2.2.2.1;
    let tr34 : Int := q26.2.2.2.2.2.2.2.1;
    let tr35 : Int := q26.2.2.2.2.2.2.2.2.1;
    let tr36 : List Int := q26.2.2.2.2.2.2.2.2.2.1;
    let tr37 : Int := q26.2.2.2.2.2.2.2.2.2.2.1;
    let tr38 : Int := q26.2.2.2.2.2.2.2.2.2.2.2.1;
    let tr39 : List Int := q26.2.2.2.2.2.2.2.2.2.2.2.2;
    (if tr28 = true then
     (refine_grid_at tr34 tr35 tr36 v14 y1).bind fun (q40 : Int) =>
     (if (!decide (tr27 = q40)) = true then
      some (Sum.inr (Sum.inr (false, tr29, tr30, tr31, tr32, tr33, tr34, tr35, tr36, tr37, tr38, tr39)))
      else
      let t41 : Int := IntKind.i64.wrap (v14 + 1);
      some (Sum.inl (t41, tr29, tr30, tr31, tr32, tr33, tr34, tr35, tr36, tr37, tr38, tr39)))
     else
     let t42 : Int := IntKind.i64.wrap (v14 + 1);
     some (Sum.inl (t42, tr29, tr30, tr31, tr32, tr33, tr34, tr35, tr36, tr37, tr38, tr39)))
    else
    some (Sum.inr (Sum.inl (b15, b16, b17, b18, b19, b20, b21, b22, b23, b24, b25))))
noncomputable def refine_region_typical_loop2_step (y1 : Int) (i43 : Nat) (x44 : Nat) (s45 : Int × Int × Int × Bool × Int × Int × Int × (List Int) × Int × Int × (List Int)) : Option ((Int × Int × Int × Bool × Int × Int × Int × (List Int) × Int × Int × (List Int)) ⊕ ((Int × Int × Int × Bool × Int × Int × Int × (List Int) × Int × Int × (List Int)) ⊕ (Bool × Int × Int × Int × Bool × Int × Int × Int × (List Int) × Int × Int × (List Int)))) :=
   let b46 : Int := s45.1;
   let b47 : Int := s45.2.1;
   let b48 : Int := s45.2.2.1;
   let b49 : Bool := s45.2.2.2.1;
   let b50 : Int := s45.2.2.2.2.1;
   let b51 : Int := s45.2.2.2.2.2.1;
   let b52 : Int := s45.2.2.2.2.2.2.1;
   let b53 : List Int := s45.2.2.2.2.2.2.2.1;
   let b54 : Int := s45.2.2.2.2.2.2.2.2.1;
   let b55 : Int := s45.2.2.2.2.2.2.2.2.2.1;
   let b56 : List Int := s45.2.2.2.2.2.2.2.2.2.2;
   (refine_region_flat ((i43 : Nat) : Int) y1 b46 b47 b48 b49 b50 b51 b52 b53 b54 b55 b56).bind fun (q26 : Int × Bool × Int × Int × Int × Bool × Int × Int × Int × (List Int) × Int × Int × (List Int)) =>
   let tr27 : Int := q26.1;
   let tr28 : Bool := q26.2.1;
   let tr29 : Int := q26.2.2.1;
   let tr30 : Int := q26.2.2.2.1;
   let tr31 : Int := q26.2.2.2.2.1;
   let tr32 : Bool := q26.2.2.2.2.2.1;
   let tr33 : Int := q26.2.2.2.2.2.2.1;
   let tr34 : Int := q26.2.2.2.2.2.2.2.1;
   let tr35 : Int := q26.2.2.2.2.2.2.2.2.1;
   let tr36 : List Int := q26.2.2.2.2.2.2.2.2.2.1;
   let tr37 : Int := q26.2.2.2.2.2.2.2.2.2.2.1;
   let tr38 : Int := q26.2.2.2.2.2.2.2.2.2.2.2.1;
   let tr39 : List Int := q26.2.2.2.2.2.2.2.2.2.2.2.2;
   (if tr28 = true then
    (refine_grid_at tr34 tr35 tr36 ((i43 : Nat) : Int) y1).bind fun (q40 : Int) =>
    (if (!decide (tr27 = q40)) = true then
     some (Sum.inr (Sum.inr (false, tr29, tr30, tr31, tr32, tr33, tr34, tr35, tr36, tr37, tr38, tr39)))
     else
     some (Sum.inl ((tr29, tr30, tr31, tr32, tr33, tr34, tr35, tr36, tr37, tr38, tr39))))
    else
    some (Sum.inl ((tr29, tr30, tr31, tr32, tr33, tr34, tr35, tr36, tr37, tr38, tr39))))
theorem refine_region_typical_loop2_overAt (y1 : Int) (b7 : Int) (hl : (List.range (b7).toNat).length ≤ 4611686018427387904) (k : Nat) (s45 : Int × Int × Int × Bool × Int × Int × Int × (List Int) × Int × Int × (List Int)) (hk : k ≤ (List.range (b7).toNat).length) : loop (refine_region_typical_loop2 y1 b7) ((((k : Nat) : Int), s45.1, s45.2.1, s45.2.2.1, s45.2.2.2.1, s45.2.2.2.2.1, s45.2.2.2.2.2.1, s45.2.2.2.2.2.2.1, s45.2.2.2.2.2.2.2.1, s45.2.2.2.2.2.2.2.2.1, s45.2.2.2.2.2.2.2.2.2.1, s45.2.2.2.2.2.2.2.2.2.2) : Int × Int × Int × Int × Bool × Int × Int × Int × (List Int) × Int × Int × (List Int)) =
    overL (refine_region_typical_loop2_step y1) (fun (s45 : Int × Int × Int × Bool × Int × Int × Int × (List Int) × Int × Int × (List Int)) => let b46 : Int := s45.1; let b47 : Int := s45.2.1; let b48 : Int := s45.2.2.1; let b49 : Bool := s45.2.2.2.1; let b50 : Int := s45.2.2.2.2.1; let b51 : Int := s45.2.2.2.2.2.1; let b52 : Int := s45.2.2.2.2.2.2.1; let b53 : List Int := s45.2.2.2.2.2.2.2.1; let b54 : Int := s45.2.2.2.2.2.2.2.2.1; let b55 : Int := s45.2.2.2.2.2.2.2.2.2.1; let b56 : List Int := s45.2.2.2.2.2.2.2.2.2.2; some (Sum.inl (b46, b47, b48, b49, b50, b51, b52, b53, b54, b55, b56))) k ((List.range (b7).toNat).drop k) s45 := by
  refine loop_over (List.range (b7).toNat) (fun n (s : Int × Int × Int × Bool × Int × Int × Int × (List Int) × Int × Int × (List Int)) => ((((n : Nat) : Int), s.1, s.2.1, s.2.2.1, s.2.2.2.1, s.2.2.2.2.1, s.2.2.2.2.2.1, s.2.2.2.2.2.2.1, s.2.2.2.2.2.2.2.1, s.2.2.2.2.2.2.2.2.1, s.2.2.2.2.2.2.2.2.2.1, s.2.2.2.2.2.2.2.2.2.2) : Int × Int × Int × Int × Bool × Int × Int × Int × (List Int) × Int × Int × (List Int))) _ _ (fun s => ?_) (fun i x s h => ?_) k s45 hk
  · have h1 : ¬ (((List.range (b7).toNat).length : Nat) : Int) < b7 := by simp only [List.length_range]; omega
    unfold refine_region_typical_loop2; simp only [h1, decide_false, Bool.false_eq_true, if_false, Option.map_some]
  · have hlt := lt_len_of_get h
    rw [List.length_range] at hlt hl
    rw [List.getElem?_range hlt] at h
    cases h
    have h1 : ((i : Nat) : Int) < b7 := by omega
    have h0 : (0 : Int) ≤ ((i : Nat) : Int) := by omega
    have hw : IntKind.i64.wrap (((i : Nat) : Int) + 1) = (((i + 1 : Nat) : Nat) : Int) := w64 (by omega)
    unfold refine_region_typical_loop2 refine_region_typical_loop2_step
    simp only [h1, h0, hw, decide_true, if_true, and_self, true_and, Int.toNat_natCast, Option.bind_some, Option.map_bind, Function.comp_def, map_ite, map_elim, Option.map_some, Option.map_none]
theorem refine_region_typical_loop2_over (y1 : Int) (b7 : Int) (hl : (List.range (b7).toNat).length ≤ 4611686018427387904) (s45 : Int × Int × Int × Bool × Int × Int × Int × (List Int) × Int × Int × (List Int)) : loop (refine_region_typical_loop2 y1 b7) ((0, s45.1, s45.2.1, s45.2.2.1, s45.2.2.2.1, s45.2.2.2.2.1, s45.2.2.2.2.2.1, s45.2.2.2.2.2.2.1, s45.2.2.2.2.2.2.2.1, s45.2.2.2.2.2.2.2.2.1, s45.2.2.2.2.2.2.2.2.2.1, s45.2.2.2.2.2.2.2.2.2.2) : Int × Int × Int × Int × Bool × Int × Int × Int × (List Int) × Int × Int × (List Int)) =
    overL (refine_region_typical_loop2_step y1) (fun (s45 : Int × Int × Int × Bool × Int × Int × Int × (List Int) × Int × Int × (List Int)) => let b46 : Int := s45.1; let b47 : Int := s45.2.1; let b48 : Int := s45.2.2.1; let b49 : Bool := s45.2.2.2.1; let b50 : Int := s45.2.2.2.2.1; let b51 : Int := s45.2.2.2.2.2.1; let b52 : Int := s45.2.2.2.2.2.2.1; let b53 : List Int := s45.2.2.2.2.2.2.2.1; let b54 : Int := s45.2.2.2.2.2.2.2.2.1; let b55 : Int := s45.2.2.2.2.2.2.2.2.2.1; let b56 : List Int := s45.2.2.2.2.2.2.2.2.2.2; some (Sum.inl (b46, b47, b48, b49, b50, b51, b52, b53, b54, b55, b56))) 0 (List.range (b7).toNat) s45 := refine_region_typical_loop2_overAt y1 b7 hl 0 s45 (Nat.zero_le _)

theorem refine_region_typical_eq (y1 : Int) (b2 : Int) (b3 : Int) (b4 : Int) (b5 : Bool) (b6 : Int) (b7 : Int) (b8 : Int) (b9 : List Int) (b10 : Int) (b11 : Int) (b12 : List Int) : refine_region_typical y1 b2 b3 b4 b5 b6 b7 b8 b9 b10 b11 b12 =
   (loop (refine_region_typical_loop2 y1 b7) (0, b2, b3, b4, b5, b6, b7, b8, b9, b10, b11, b12)).bind (fun (o82 : (Int × Int × Int × Bool × Int × Int × Int × (List Int) × Int × Int × (List Int)) ⊕ (Bool × Int × Int × Int × Bool × Int × Int × Int × (List Int) × Int × Int × (List Int))) =>
    (Sum.elim (fun (p57 : Int × Int × Int × Bool × Int × Int × Int × (List Int) × Int × Int × (List Int)) =>
      let b58 : Int := p57.1;
      let b59 : Int := p57.2.1;
      let b60 : Int := p57.2.2.1;
      let b61 : Bool := p57.2.2.2.1;
      let b62 : Int := p57.2.2.2.2.1;
      let b63 : Int := p57.2.2.2.2.2.1;
      let b64 : Int := p57.2.2.2.2.2.2.1;
      let b65 : List Int := p57.2.2.2.2.2.2.2.1;
      let b66 : Int := p57.2.2.2.2.2.2.2.2.1;
      let b67 : Int := p57.2.2.2.2.2.2.2.2.2.1;
      let b68 : List Int := p57.2.2.2.2.2.2.2.2.2.2;
      some (true, b58, b59, b60, b61, b62, b63, b64, b65, b66, b67, b68))
     (fun (p69 : Bool × Int × Int × Int × Bool × Int × Int × Int × (List Int) × Int × Int × (List Int)) =>
      let v70 : Bool := p69.1;
      let b71 : Int := p69.2.1;
      let b72 : Int := p69.2.2.1;
      let b73 : Int := p69.2.2.2.1;
      let b74 : Bool := p69.2.2.2.2.1;
      let b75 : Int := p69.2.2.2.2.2.1;
      let b76 : Int := p69.2.2.2.2.2.2.1;
      let b77 : Int := p69.2.2.2.2.2.2.2.1;
      let b78 : List Int := p69.2.2.2.2.2.2.2.2.1;
      let b79 : Int := p69.2.2.2.2.2.2.2.2.2.1;
      let b80 : Int := p69.2.2.2.2.2.2.2.2.2.2.1;
      let b81 : List Int := p69.2.2.2.2.2.2.2.2.2.2.2;
      some (v70, b71, b72, b73, b74, b75, b76, b77, b78, b79, b80, b81)) o82)) := (call_eq ..).trans (by kernel_rfl)

noncomputable def refine_region_flat_loop3 (x1 : Int) (y2 : Int) (b4 : Int) (b5 : Int) (b11 : Int) (b12 : Int) (b13 : List Int) (q16 : Int) (v17 : Int) : Option ((Int) ⊕ ((Unit) ⊕ (Int × Bool))) :=
   (if (decide (v17 < 9)) = true then
    let t18 : Int := IntKind.i64.wrap (x1 - b4);
    let t19 : Int := v17.tmod 3;
    let t20 : Int := IntKind.i64.wrap (t18 + t19);
    let t21 : Int := IntKind.i64.wrap (t20 - 1);
    let t22 : Int := IntKind.i64.wrap (y2 - b5);
    let t23 : Int := IntKind.i64.wrap (v17.tdiv 3);
    let t24 : Int := IntKind.i64.wrap (t22 + t23);
    let t25 : Int := IntKind.i64.wrap (t24 - 1);
    (refine_grid_at b11 b12 b13 t21 t25).bind fun (q26 : Int) =>
    (if (!decide (q26 = q16)) = true then
     some (Sum.inr (Sum.inr (0, false)))
     else
     let t27 : Int := IntKind.i64.wrap (v17 + 1);
     some (Sum.inl t27))
    else
    some (Sum.inr (Sum.inl ())))
noncomputable def refine_region_flat_loop3_step (x1 : Int) (y2 : Int) (b4 : Int) (b5 : Int) (b11 : Int) (b12 : Int) (b13 : List Int) (q16 : Int) (i28 : Nat) (x29 : Nat) (s30 : Unit) : Option ((Unit) ⊕ ((Unit) ⊕ (Int × Bool))) :=
   let t18 : Int := IntKind.i64.wrap (x1 - b4);
   let t19 : Int := ((i28 : Nat) : Int).tmod 3;
   let t20 : Int := IntKind.i64.wrap (t18 + t19);
   let t21 : Int := IntKind.i64.wrap (t20 - 1);
   let t22 : Int := IntKind.i64.wrap (y2 - b5);
   let t23 : Int := IntKind.i64.wrap (((i28 : Nat) : Int).tdiv 3);
   let t24 : Int := IntKind.i64.wrap (t22 + t23);
   let t25 : Int := IntKind.i64.wrap (t24 - 1);
   (refine_grid_at b11 b12 b13 t21 t25).bind fun (q26 : Int) =>
   (if (!decide (q26 = q16)) = true then
    some (Sum.inr (Sum.inr (0, false)))
    else
    some (Sum.inl (())))
theorem refine_region_flat_loop3_overAt (x1 : Int) (y2 : Int) (b4 : Int) (b5 : Int) (b11 : Int) (b12 : Int) (b13 : List Int) (q16 : Int) (hl : (List.range 9).length ≤ 4611686018427387904) (k : Nat) (s30 : Unit) (hk : k ≤ (List.range 9).length) : loop (refine_region_flat_loop3 x1 y2 b4 b5 b11 b12 b13 q16) (((k : Nat) : Int) : Int) =
    overL (refine_region_flat_loop3_step x1 y2 b4 b5 b11 b12 b13 q16) (fun (s30 : Unit) => some (Sum.inl ())) k ((List.range 9).drop k) s30 := by
  refine loop_over (List.range 9) (fun n (s : Unit) => (((n : Nat) : Int) : Int)) _ _ (fun s => ?_) (fun i x s h => ?_) k s30 hk
  · have h1 : ¬ (((List.range 9).length : Nat) : Int) < 9 := by simp only [List.length_range]; omega
    unfold refine_region_flat_loop3; simp only [h1, decide_false, Bool.false_eq_true, if_false, Option.map_some]
  · have hlt := lt_len_of_get h
    rw [List.length_range] at hlt hl
    rw [List.getElem?_range hlt] at h
    cases h
    have h1 : ((i : Nat) : Int) < 9 := by omega
    have h0 : (0 : Int) ≤ ((i : Nat) : Int) := by omega
    have hw : IntKind.i64.wrap (((i : Nat) : Int) + 1) = (((i + 1 : Nat) : Nat) : Int) := w64 (by omega)
    unfold refine_region_flat_loop3 refine_region_flat_loop3_step
    simp only [h1, h0, hw, decide_true, if_true, and_self, true_and, Int.toNat_natCast, Option.bind_some, Option.map_bind, Function.comp_def, map_ite, map_elim, Option.map_some, Option.map_none]
theorem refine_region_flat_loop3_over (x1 : Int) (y2 : Int) (b4 : Int) (b5 : Int) (b11 : Int) (b12 : Int) (b13 : List Int) (q16 : Int) (hl : (List.range 9).length ≤ 4611686018427387904) (s30 : Unit) : loop (refine_region_flat_loop3 x1 y2 b4 b5 b11 b12 b13 q16) (0 : Int) =
    overL (refine_region_flat_loop3_step x1 y2 b4 b5 b11 b12 b13 q16) (fun (s30 : Unit) => some (Sum.inl ())) 0 (List.range 9) s30 := refine_region_flat_loop3_overAt x1 y2 b4 b5 b11 b12 b13 q16 hl 0 s30 (Nat.zero_le _)

theorem refine_region_flat_eq (x1 : Int) (y2 : Int) (b3 : Int) (b4 : Int) (b5 : Int) (b6 : Bool) (b7 : Int) (b8 : Int) (b9 : Int) (b10 : List Int) (b11 : Int) (b12 : Int) (b13 : List Int) : refine_region_flat x1 y2 b3 b4 b5 b6 b7 b8 b9 b10 b11 b12 b13 =
   let t14 : Int := IntKind.i64.wrap (x1 - b4);
   let t15 : Int := IntKind.i64.wrap (y2 - b5);
   (refine_grid_at b11 b12 b13 t14 t15).bind fun (q16 : Int) =>
   (loop (refine_region_flat_loop3 x1 y2 b4 b5 b11 b12 b13 q16) 0).bind (fun (o35 : (Unit) ⊕ (Int × Bool)) =>
    (Sum.elim (fun (p31 : Unit) =>
      some (q16, true, b3, b4, b5, b6, b7, b8, b9, b10, b11, b12, b13))
     (fun (p32 : Int × Bool) =>
      let v33 : Int := p32.1;
      let v34 : Bool := p32.2;
      some (v33, v34, b3, b4, b5, b6, b7, b8, b9, b10, b11, b12, b13)) o35)) := (call_eq ..).trans (by kernel_rfl)

noncomputable def refine_region_context_loop3 (x1 : Int) (y2 : Int) (b8 : Int) (b9 : Int) (b10 : List Int) (q14 : (List Arr2)) (s15 : Int × Int) : Option ((Int × Int) ⊕ (Int)) :=
   let n16 : Int := s15.1;
   let v17 : Int := s15.2;
   (if (decide (v17 < ((q14.length : Nat) : Int))) = true then
    (if 0 ≤ v17 then
     (q14[v17.toNat]?).bind fun e18 =>
     let t19 : Int := IntKind.i64.wrap (2 * n16);
     (if 0 ≤ (0 : Int) ∧ (0 : Int) < ((2 : Nat) : Int) then
      let t20 : Int := IntKind.i64.wrap (x1 + e18.a0);
      (if 0 ≤ (1 : Int) ∧ (1 : Int) < ((2 : Nat) : Int) then
       let t21 : Int := IntKind.i64.wrap (y2 + e18.a1);
       (refine_grid_at b8 b9 b10 t20 t21).bind fun (q22 : Int) =>
       let t23 : Int := IntKind.i64.wrap q22;
       let t24 : Int := IntKind.i64.wrap (t19 + t23);
       let t25 : Int := IntKind.i64.wrap (v17 + 1);
       some (Sum.inl (t24, t25))
       else
       none)
      else
      none)
     else
     none)
    else
    some (Sum.inr n16))
noncomputable def refine_region_context_loop8 (x1 : Int) (y2 : Int) (b4 : Int) (b5 : Int) (b11 : Int) (b12 : Int) (b13 : List Int) (q27 : (List Arr2)) (s28 : Int × Int) : Option ((Int × Int) ⊕ (Int)) :=
   let n29 : Int := s28.1;
   let v30 : Int := s28.2;
   (if (decide (v30 < ((q27.length : Nat) : Int))) = true then
    (if 0 ≤ v30 then
     (q27[v30.toNat]?).bind fun e31 =>
     let t32 : Int := IntKind.i64.wrap (2 * n29);
     let t33 : Int := IntKind.i64.wrap (x1 - b4);
     (if 0 ≤ (0 : Int) ∧ (0 : Int) < ((2 : Nat) : Int) then
      let t34 : Int := IntKind.i64.wrap (t33 + e31.a0);
      let t35 : Int := IntKind.i64.wrap (y2 - b5);
      (if 0 ≤ (1 : Int) ∧ (1 : Int) < ((2 : Nat) : Int) then
       let t36 : Int := IntKind.i64.wrap (t35 + e31.a1);
       (refine_grid_at b11 b12 b13 t34 t36).bind fun (q37 : Int) =>
       let t38 : Int := IntKind.i64.wrap q37;
       let t39 : Int := IntKind.i64.wrap (t32 + t38);
       let t40 : Int := IntKind.i64.wrap (v30 + 1);
       some (Sum.inl (t39, t40))
       else
       none)
      else
      none)
     else
     none)
    else
    some (Sum.inr n29))
theorem refine_region_context_eq (x1 : Int) (y2 : Int) (b3 : Int) (b4 : Int) (b5 : Int) (b6 : Bool) (b7 : Int) (b8 : Int) (b9 : Int) (b10 : List Int) (b11 : Int) (b12 : Int) (b13 : List Int) : refine_region_context x1 y2 b3 b4 b5 b6 b7 b8 b9 b10 b11 b12 b13 =
   (refine_fresh b3).bind fun (q14 : (List Arr2)) =>
   (loop (refine_region_context_loop3 x1 y2 b8 b9 b10 q14) (0, 0)).bind (fun (n26 : Int) =>
    (refine_beside).bind fun (q27 : (List Arr2)) =>
    (loop (refine_region_context_loop8 x1 y2 b4 b5 b11 b12 b13 q27) (n26, 0)).bind (fun (n41 : Int) =>
     some (n41, b3, b4, b5, b6, b7, b8, b9, b10, b11, b12, b13))) := (call_eq ..).trans (by kernel_rfl)

theorem refine_grid_at_eq (g1 : Int) (g2 : Int) (g3 : List Int) (x4 : Int) (y5 : Int) : refine_grid_at g1 g2 g3 x4 y5 =
   ((if (decide (x4 < 0)) = true then
     some true
     else
     (if (decide (y5 < 0)) = true then
      some true
      else
      (if (decide (x4 ≥ g1)) = true then
       some true
       else
       some (decide (y5 ≥ g2))))) : Option (Bool)).bind (fun (v6 : Bool) =>
    (if v6 = true then
     some 0
     else
     let t7 : Int := IntKind.i64.wrap (y5 * g1);
     let t8 : Int := IntKind.i64.wrap (t7 + x4);
     (if 0 ≤ t8 ∧ t8 < (g3.length : Int) then
      some (rd g3 t8)
      else
      none))) := (call_eq ..).trans (by kernel_rfl)

theorem ref08_size_eq (template1 : Int) : ref08_size template1 =
   (if (decide (template1 = 0)) = true then
    some 513
    else
    some 129) := (call_eq ..).trans (by kernel_rfl)

theorem ref08_asked_eq (o1 : Int) (o2 : Int) (o3 : Int) (o4 : Bool) (o5 : Int) (right6 : Bool) (base7 : Int) (m8 : Int) (m9 : List Int) : ref08_asked o1 o2 o3 o4 o5 right6 base7 m8 m9 =
   (ref08_Valid o1 o2 o3 o4 o5).bind fun (q10 : Bool) =>
   (if (!q10) = true then
    some 2
    else
    (if (!right6) = true then
     some 30
     else
     (if (decide (base7 < 0)) = true then
      some 2
      else
      (ref08_size o1).bind fun (q11 : Int) =>
      let t12 : Int := IntKind.i64.wrap (((m9.length : Nat) : Int) - q11);
      (if (decide (base7 > t12)) = true then
       some 2
       else
       some 0)))) := (call_eq ..).trans (by kernel_rfl)

noncomputable def ref08_Row_loop2 (o1 : Int) (o2 : Int) (o3 : Int) (o4 : Bool) (o5 : Int) (b6 : Int) (b7 : Int) (b8 : List Int) (r9 : Int) (r10 : Int) (r11 : List Int) (y12 : Int) (x13 : Int) : Option ((Int) ⊕ ((Unit) ⊕ (Bool))) :=
   (if (decide (x13 < b6)) = true then
    (ref08_Alike o1 o2 o3 o4 o5 r9 r10 r11 x13 y12).bind fun (q14 : Int × Bool) =>
    let tr15 : Int := q14.1;
    let tr16 : Bool := q14.2;
    (if tr16 = true then
     (ref06_Pix b6 b7 b8 x13 y12).bind fun (q17 : Int) =>
     (if (!decide (q17 = tr15)) = true then
      some (Sum.inr (Sum.inr false))
      else
      let t18 : Int := IntKind.i64.wrap (x13 + 1);
      some (Sum.inl t18))
     else
     let t19 : Int := IntKind.i64.wrap (x13 + 1);
     some (Sum.inl t19))
    else
    some (Sum.inr (Sum.inl ())))
noncomputable def ref08_Row_loop2_step (o1 : Int) (o2 : Int) (o3 : Int) (o4 : Bool) (o5 : Int) (b6 : Int) (b7 : Int) (b8 : List Int) (r9 : Int) (r10 : Int) (r11 : List Int) (y12 : Int) (i20 : Nat) (x21 : Nat) (s22 : Unit) : Option ((Unit) ⊕ ((Unit) ⊕ (Bool))) :=
   (ref08_Alike o1 o2 o3 o4 o5 r9 r10 r11 ((i20 : Nat) : Int) y12).bind fun (q14 : Int × Bool) =>
   let tr15 : Int := q14.1;
   let tr16 : Bool := q14.2;
   (if tr16 = true then
    (ref06_Pix b6 b7 b8 ((i20 : Nat) : Int) y12).bind fun (q17 : Int) =>
    (if (!decide (q17 = tr15)) = true then
     some (Sum.inr (Sum.inr false))
     else
     some (Sum.inl (())))
    else
    some (Sum.inl (())))
theorem ref08_Row_loop2_overAt (o1 : Int) (o2 : Int) (o3 : Int) (o4 : Bool) (o5 : Int) (b6 : Int) (b7 : Int) (b8 : List Int) (r9 : Int) (r10 : Int) (r11 : List Int) (y12 : Int) (hl : (List.range (b6).toNat).length ≤ 4611686018427387904) (k : Nat) (s22 : Unit) (hk : k ≤ (List.range (b6).toNat).length) : loop (ref08_Row_loop2 o1 o2 o3 o4 o5 b6 b7 b8 r9 r10 r11 y12) (((k : Nat) : Int) : Int) =
    overL (ref08_Row_loop2_step o1 o2 o3 o4 o5 b6 b7 b8 r9 r10 r11 y12) (fun (s22 : Unit) => some (Sum.inl ())) k ((List.range (b6).toNat).drop k) s22 := by
  refine loop_over (List.range (b6).toNat) (fun n (s : Unit) => (((n : Nat) : Int) : Int)) _ _ (fun s => ?_) (fun i x s h => ?_) k s22 hk
  · have h1 : ¬ (((List.range (b6).toNat).length : Nat) : Int) < b6 := by simp only [List.length_range]; omega
    unfold ref08_Row_loop2; simp only [h1, decide_false, Bool.false_eq_true, if_false, Option.map_some]
  · have hlt := lt_len_of_get h
    rw [List.length_range] at hlt hl
    rw [List.getElem?_range hlt] at h
    cases h
    have h1 : ((i : Nat) : Int) < b6 := by omega
    have h0 : (0 : Int) ≤ ((i : Nat) : Int) := by omega
    have hw : IntKind.i64.wrap (((i : Nat) : Int) + 1) = (((i + 1 : Nat) : Nat) : Int) := w64 (by omega)
    unfold ref08_Row_loop2 ref08_Row_loop2_step
    simp only [h1, h0, hw, decide_true, if_true, and_self, true_and, Int.toNat_natCast, Option.bind_some, Option.map_bind, Function.comp_def, map_ite, map_elim, Option.map_some, Option.map_none]
theorem ref08_Row_loop2_over (o1 : Int) (o2 : Int) (o3 : Int) (o4 : Bool) (o5 : Int) (b6 : Int) (b7 : Int) (b8 : List Int) (r9 : Int) (r10 : Int) (r11 : List Int) (y12 : Int) (hl : (List.range (b6).toNat).length ≤ 4611686018427387904) (s22 : Unit) : loop (ref08_Row_loop2 o1 o2 o3 o4 o5 b6 b7 b8 r9 r10 r11 y12) (0 : Int) =
    overL (ref08_Row_loop2_step o1 o2 o3 o4 o5 b6 b7 b8 r9 r10 r11 y12) (fun (s22 : Unit) => some (Sum.inl ())) 0 (List.range (b6).toNat) s22 := ref08_Row_loop2_overAt o1 o2 o3 o4 o5 b6 b7 b8 r9 r10 r11 y12 hl 0 s22 (Nat.zero_le _)

theorem ref08_Row_eq (o1 : Int) (o2 : Int) (o3 : Int) (o4 : Bool) (o5 : Int) (b6 : Int) (b7 : Int) (b8 : List Int) (r9 : Int) (r10 : Int) (r11 : List Int) (y12 : Int) : ref08_Row o1 o2 o3 o4 o5 b6 b7 b8 r9 r10 r11 y12 =
   (loop (ref08_Row_loop2 o1 o2 o3 o4 o5 b6 b7 b8 r9 r10 r11 y12) 0).bind (fun (o25 : (Unit) ⊕ (Bool)) =>
    (Sum.elim (fun (p23 : Unit) =>
      some true)
     (fun (v24 : Bool) =>
      some v24) o25)) := (call_eq ..).trans (by kernel_rfl)

noncomputable def ref08_Alike_loop3 (o2 : Int) (o3 : Int) (r6 : Int) (r7 : Int) (r8 : List Int) (x9 : Int) (y10 : Int) (q13 : Int) (i14 : Int) : Option ((Int) ⊕ ((Unit) ⊕ (Int × Bool))) :=
   (if (decide (i14 < 9)) = true then
    let t15 : Int := IntKind.i64.wrap (x9 - o2);
    let t16 : Int := i14.tmod 3;
    let t17 : Int := IntKind.i64.wrap (t15 + t16);
    let t18 : Int := IntKind.i64.wrap (t17 - 1);
    let t19 : Int := IntKind.i64.wrap (y10 - o3);
    let t20 : Int := IntKind.i64.wrap (i14.tdiv 3);
    let t21 : Int := IntKind.i64.wrap (t19 + t20);
    let t22 : Int := IntKind.i64.wrap (t21 - 1);
    (ref06_Pix r6 r7 r8 t18 t22).bind fun (q23 : Int) =>
    (if (!decide (q23 = q13)) = true then
     some (Sum.inr (Sum.inr (0, false)))
     else
     let t24 : Int := IntKind.i64.wrap (i14 + 1);
     some (Sum.inl t24))
    else
    some (Sum.inr (Sum.inl ())))
noncomputable def ref08_Alike_loop3_step (o2 : Int) (o3 : Int) (r6 : Int) (r7 : Int) (r8 : List Int) (x9 : Int) (y10 : Int) (q13 : Int) (i25 : Nat) (x26 : Nat) (s27 : Unit) : Option ((Unit) ⊕ ((Unit) ⊕ (Int × Bool))) :=
   let t15 : Int := IntKind.i64.wrap (x9 - o2);
   let t16 : Int := ((i25 : Nat) : Int).tmod 3;
   let t17 : Int := IntKind.i64.wrap (t15 + t16);
   let t18 : Int := IntKind.i64.wrap (t17 - 1);
   let t19 : Int := IntKind.i64.wrap (y10 - o3);
   let t20 : Int := IntKind.i64.wrap (((i25 : Nat) : Int).tdiv 3);
   let t21 : Int := IntKind.i64.wrap (t19 + t20);
   let t22 : Int := IntKind.i64.wrap (t21 - 1);
   (ref06_Pix r6 r7 r8 t18 t22).bind fun (q23 : Int) =>
   (if (!decide (q23 = q13)) = true then
    some (Sum.inr (Sum.inr (0, false)))
    else
    some (Sum.inl (())))
theorem ref08_Alike_loop3_overAt (o2 : Int) (o3 : Int) (r6 : Int) (r7 : Int) (r8 : List Int) (x9 : Int) (y10 : Int) (q13 : Int) (hl : (List.range 9).length ≤ 4611686018427387904) (k : Nat) (s27 : Unit) (hk : k ≤ (List.range 9).length) : loop (ref08_Alike_loop3 o2 o3 r6 r7 r8 x9 y10 q13) (((k : Nat) : Int) : Int) =
    overL (ref08_Alike_loop3_step o2 o3 r6 r7 r8 x9 y10 q13) (fun (s27 : Unit) => some (Sum.inl ())) k ((List.range 9).drop k) s27 := by
  refine loop_over (List.range 9) (fun n (s : Unit) => (((n : Nat) : Int) : Int)) _ _ (fun s => ?_) (fun i x s h => ?_) k s27 hk
  · have h1 : ¬ (((List.range 9).length : Nat) : Int) < 9 := by simp only [List.length_range]; omega
    unfold ref08_Alike_loop3; simp only [h1, decide_false, Bool.false_eq_true, if_false, Option.map_some]
  · have hlt := lt_len_of_get h
    rw [List.length_range] at hlt hl
    rw [List.getElem?_range hlt] at h
    cases h
    have h1 : ((i : Nat) : Int) < 9 := by omega
    have h0 : (0 : Int) ≤ ((i : Nat) : Int) := by omega
    have hw : IntKind.i64.wrap (((i : Nat) : Int) + 1) = (((i + 1 : Nat) : Nat) : Int) := w64 (by omega)
    unfold ref08_Alike_loop3 ref08_Alike_loop3_step
    simp only [h1, h0, hw, decide_true, if_true, and_self, true_and, Int.toNat_natCast, Option.bind_some, Option.map_bind, Function.comp_def, map_ite, map_elim, Option.map_some, Option.map_none]
theorem ref08_Alike_loop3_over (o2 : Int) (o3 : Int) (r6 : Int) (r7 : Int) (r8 : List Int) (x9 : Int) (y10 : Int) (q13 : Int) (hl : (List.range 9).length ≤ 4611686018427387904) (s27 : Unit) : loop (ref08_Alike_loop3 o2 o3 r6 r7 r8 x9 y10 q13) (0 : Int) =
    overL (ref08_Alike_loop3_step o2 o3 r6 r7 r8 x9 y10 q13) (fun (s27 : Unit) => some (Sum.inl ())) 0 (List.range 9) s27 := ref08_Alike_loop3_overAt o2 o3 r6 r7 r8 x9 y10 q13 hl 0 s27 (Nat.zero_le _)

theorem ref08_Alike_eq (o1 : Int) (o2 : Int) (o3 : Int) (o4 : Bool) (o5 : Int) (r6 : Int) (r7 : Int) (r8 : List Int) (x9 : Int) (y10 : Int) : ref08_Alike o1 o2 o3 o4 o5 r6 r7 r8 x9 y10 =
   let t11 : Int := IntKind.i64.wrap (x9 - o2);
   let t12 : Int := IntKind.i64.wrap (y10 - o3);
   (ref06_Pix r6 r7 r8 t11 t12).bind fun (q13 : Int) =>
   (loop (ref08_Alike_loop3 o2 o3 r6 r7 r8 x9 y10 q13) 0).bind (fun (o32 : (Unit) ⊕ (Int × Bool)) =>
    (Sum.elim (fun (p28 : Unit) =>
      some (q13, true))
     (fun (p29 : Int × Bool) =>
      let v30 : Int := p29.1;
      let v31 : Bool := p29.2;
      some (v30, v31)) o32)) := (call_eq ..).trans (by kernel_rfl)

noncomputable def ref08_Context_loop6 (b6 : Int) (b7 : Int) (b8 : List Int) (x12 : Int) (y13 : Int) (news14 : (List Arr2)) (s15 : Int × Int) : Option ((Int × Int) ⊕ (Int)) :=
   let n16 : Int := s15.1;
   let v17 : Int := s15.2;
   (if (decide (v17 < ((news14.length : Nat) : Int))) = true then
    (if 0 ≤ v17 ∧ v17 < (news14.length : Int) then
     (news14[v17.toNat]?).bind fun e18 =>
     let t19 : Int := IntKind.i64.wrap (2 * n16);
     (if 0 ≤ (0 : Int) ∧ (0 : Int) < ((2 : Nat) : Int) then
      let t20 : Int := IntKind.i64.wrap (x12 + e18.a0);
      (if 0 ≤ (1 : Int) ∧ (1 : Int) < ((2 : Nat) : Int) then
       let t21 : Int := IntKind.i64.wrap (y13 + e18.a1);
       (ref06_Pix b6 b7 b8 t20 t21).bind fun (q22 : Int) =>
       let t23 : Int := IntKind.i64.wrap q22;
       let t24 : Int := IntKind.i64.wrap (t19 + t23);
       let t25 : Int := IntKind.i64.wrap (v17 + 1);
       some (Sum.inl (t24, t25))
       else
       none)
      else
      none)
     else
     none)
    else
    some (Sum.inr n16))
noncomputable def ref08_Context_loop11 (o2 : Int) (o3 : Int) (r9 : Int) (r10 : Int) (r11 : List Int) (x12 : Int) (y13 : Int) (s27 : Int × Int) : Option ((Int × Int) ⊕ (Int)) :=
   let n28 : Int := s27.1;
   let v29 : Int := s27.2;
   (if (decide (v29 < ((([(Arr2.mk 0 0), (Arr2.mk (-1) 0), (Arr2.mk 1 0), (Arr2.mk 0 (-1)), (Arr2.mk 0 1)] : List Arr2).length : Nat) : Int))) = true then
    (if 0 ≤ v29 ∧ v29 < ([(Arr2.mk 0 0), (Arr2.mk (-1) 0), (Arr2.mk 1 0), (Arr2.mk 0 (-1)), (Arr2.mk 0 1)].length : Int) then
     ([(Arr2.mk 0 0), (Arr2.mk (-1) 0), (Arr2.mk 1 0), (Arr2.mk 0 (-1)), (Arr2.mk 0 1)][v29.toNat]?).bind fun e30 =>
     let t31 : Int := IntKind.i64.wrap (2 * n28);
     let t32 : Int := IntKind.i64.wrap (x12 - o2);
     (if 0 ≤ (0 : Int) ∧ (0 : Int) < ((2 : Nat) : Int) then
      let t33 : Int := IntKind.i64.wrap (t32 + e30.a0);
      let t34 : Int := IntKind.i64.wrap (y13 - o3);
      (if 0 ≤ (1 : Int) ∧ (1 : Int) < ((2 : Nat) : Int) then
       let t35 : Int := IntKind.i64.wrap (t34 + e30.a1);
       (ref06_Pix r9 r10 r11 t33 t35).bind fun (q36 : Int) =>
       let t37 : Int := IntKind.i64.wrap q36;
       let t38 : Int := IntKind.i64.wrap (t31 + t37);
       let t39 : Int := IntKind.i64.wrap (v29 + 1);
       some (Sum.inl (t38, t39))
       else
       none)
      else
      none)
     else
     none)
    else
    some (Sum.inr n28))
noncomputable def ref08_Context_loop11_step (o2 : Int) (o3 : Int) (r9 : Int) (r10 : Int) (r11 : List Int) (x12 : Int) (y13 : Int) (i40 : Nat) (x41 : Nat) (s42 : Int) : Option ((Int) ⊕ (Int)) :=
   (if 0 ≤ ((i40 : Nat) : Int) ∧ ((i40 : Nat) : Int) < ([(Arr2.mk 0 0), (Arr2.mk (-1) 0), (Arr2.mk 1 0), (Arr2.mk 0 (-1)), (Arr2.mk 0 1)].length : Int) then
    ([(Arr2.mk 0 0), (Arr2.mk (-1) 0), (Arr2.mk 1 0), (Arr2.mk 0 (-1)), (Arr2.mk 0 1)][((i40 : Nat) : Int).toNat]?).bind fun e30 =>
    let t31 : Int := IntKind.i64.wrap (2 * s42);
    let t32 : Int := IntKind.i64.wrap (x12 - o2);
    (if 0 ≤ (0 : Int) ∧ (0 : Int) < ((2 : Nat) : Int) then
     let t33 : Int := IntKind.i64.wrap (t32 + e30.a0);
     let t34 : Int := IntKind.i64.wrap (y13 - o3);
     (if 0 ≤ (1 : Int) ∧ (1 : Int) < ((2 : Nat) : Int) then
      let t35 : Int := IntKind.i64.wrap (t34 + e30.a1);
      (ref06_Pix r9 r10 r11 t33 t35).bind fun (q36 : Int) =>
      let t37 : Int := IntKind.i64.wrap q36;
      let t38 : Int := IntKind.i64.wrap (t31 + t37);
      some (Sum.inl (t38))
      else
      none)
     else
     none)
    else
    none)
theorem ref08_Context_loop11_overAt (o2 : Int) (o3 : Int) (r9 : Int) (r10 : Int) (r11 : List Int) (x12 : Int) (y13 : Int) (hl : (List.range (((([(Arr2.mk 0 0), (Arr2.mk (-1) 0), (Arr2.mk 1 0), (Arr2.mk 0 (-1)), (Arr2.mk 0 1)] : List Arr2).length : Nat) : Int)).toNat).length ≤ 4611686018427387904) (k : Nat) (s42 : Int) (hk : k ≤ (List.range (((([(Arr2.mk 0 0), (Arr2.mk (-1) 0), (Arr2.mk 1 0), (Arr2.mk 0 (-1)), (Arr2.mk 0 1)] : List Arr2).length : Nat) : Int)).toNat).length) : loop (ref08_Context_loop11 o2 o3 r9 r10 r11 x12 y13) ((s42, ((k : Nat) : Int)) : Int × Int) =
    overL (ref08_Context_loop11_step o2 o3 r9 r10 r11 x12 y13) (fun (s42 : Int) => some s42) k ((List.range (((([(Arr2.mk 0 0), (Arr2.mk (-1) 0), (Arr2.mk 1 0), (Arr2.mk 0 (-1)), (Arr2.mk 0 1)] : List Arr2).length : Nat) : Int)).toNat).drop k) s42 := by
  refine loop_over (List.range (((([(Arr2.mk 0 0), (Arr2.mk (-1) 0), (Arr2.mk 1 0), (Arr2.mk 0 (-1)), (Arr2.mk 0 1)] : List Arr2).length : Nat) : Int)).toNat) (fun n (s : Int) => ((s, ((n : Nat) : Int)) : Int × Int)) _ _ (fun s => ?_) (fun i x s h => ?_) k s42 hk
  · have h1 : ¬ (((List.range (((([(Arr2.mk 0 0), (Arr2.mk (-1) 0), (Arr2.mk 1 0), (Arr2.mk 0 (-1)), (Arr2.mk 0 1)] : List Arr2).length : Nat) : Int)).toNat).length : Nat) : Int) < ((([(Arr2.mk 0 0), (Arr2.mk (-1) 0), (Arr2.mk 1 0), (Arr2.mk 0 (-1)), (Arr2.mk 0 1)] : List Arr2).length : Nat) : Int) := by simp only [List.length_range]; omega
    unfold ref08_Context_loop11; simp only [h1, decide_false, Bool.false_eq_true, if_false, Option.map_some]
  · have hlt := lt_len_of_get h
    rw [List.length_range] at hlt hl
    rw [List.getElem?_range hlt] at h
    cases h
    have h1 : ((i : Nat) : Int) < ((([(Arr2.mk 0 0), (Arr2.mk (-1) 0), (Arr2.mk 1 0), (Arr2.mk 0 (-1)), (Arr2.mk 0 1)] : List Arr2).length : Nat) : Int) := by omega
    have h0 : (0 : Int) ≤ ((i : Nat) : Int) := by omega
    have hw : IntKind.i64.wrap (((i : Nat) : Int) + 1) = (((i + 1 : Nat) : Nat) : Int) := w64 (by omega)
    unfold ref08_Context_loop11 ref08_Context_loop11_step
    simp only [h1, h0, hw, decide_true, if_true, and_self, true_and, Int.toNat_natCast, Option.bind_some, Option.map_bind, Function.comp_def, map_ite, map_elim, Option.map_some, Option.map_none]
theorem ref08_Context_loop11_over (o2 : Int) (o3 : Int) (r9 : Int) (r10 : Int) (r11 : List Int) (x12 : Int) (y13 : Int) (hl : (List.range (((([(Arr2.mk 0 0), (Arr2.mk (-1) 0), (Arr2.mk 1 0), (Arr2.mk 0 (-1)), (Arr2.mk 0 1)] : List Arr2).length : Nat) : Int)).toNat).length ≤ 4611686018427387904) (s42 : Int) : loop (ref08_Context_loop11 o2 o3 r9 r10 r11 x12 y13) ((s42, 0) : Int × Int) =
    overL (ref08_Context_loop11_step o2 o3 r9 r10 r11 x12 y13) (fun (s42 : Int) => some s42) 0 (List.range (((([(Arr2.mk 0 0), (Arr2.mk (-1) 0), (Arr2.mk 1 0), (Arr2.mk 0 (-1)), (Arr2.mk 0 1)] : List Arr2).length : Nat) : Int)).toNat) s42 := ref08_Context_loop11_overAt o2 o3 r9 r10 r11 x12 y13 hl 0 s42 (Nat.zero_le _)

theorem ref08_Context_eq (o1 : Int) (o2 : Int) (o3 : Int) (o4 : Bool) (o5 : Int) (b6 : Int) (b7 : Int) (b8 : List Int) (r9 : Int) (r10 : Int) (r11 : List Int) (x12 : Int) (y13 : Int) : ref08_Context o1 o2 o3 o4 o5 b6 b7 b8 r9 r10 r11 x12 y13 =
   ((if (decide (o1 = 1)) = true then
     some [(Arr2.mk 0 (-1)), (Arr2.mk (-1) 0)]
     else
     some [(Arr2.mk (-1) (-1)), (Arr2.mk 0 (-1)), (Arr2.mk 1 (-1)), (Arr2.mk (-1) 0)]) : Option ((List Arr2))).bind (fun (news14 : (List Arr2)) =>
    (loop (ref08_Context_loop6 b6 b7 b8 x12 y13 news14) (0, 0)).bind (fun (n26 : Int) =>
     (loop (ref08_Context_loop11 o2 o3 r9 r10 r11 x12 y13) (n26, 0)).bind (fun (n43 : Int) =>
      some n43))) := (call_eq ..).trans (by kernel_rfl)

theorem ref06_Pix_eq (b1 : Int) (b2 : Int) (b3 : List Int) (x4 : Int) (y5 : Int) : ref06_Pix b1 b2 b3 x4 y5 =
   ((if (decide (x4 < 0)) = true then
     some true
     else
     (if (decide (y5 < 0)) = true then
      some true
      else
      (if (decide (x4 ≥ b1)) = true then
       some true
       else
       some (decide (y5 ≥ b2))))) : Option (Bool)).bind (fun (v6 : Bool) =>
    (if v6 = true then
     some 0
     else
     let t7 : Int := IntKind.i64.wrap (y5 * b1);
     let t8 : Int := IntKind.i64.wrap (t7 + x4);
     (if 0 ≤ t8 ∧ t8 < (b3.length : Int) then
      some (rd b3 t8)
      else
      none))) := (call_eq ..).trans (by kernel_rfl)

theorem coder_clone_eq (m1 : Int) (m2 : List Int) : coder_clone m1 m2 =
   (if (([] : List Int).length + m2.length) * 8 ≤ 140737488355328 then
    let t3 : List Int := ([] : List Int) ++ m2;
    some (m1, t3)
    else
    none) := (call_eq ..).trans (by kernel_rfl)

theorem coder_chances_eq : coder_chances =
   some () := (call_eq ..).trans (by kernel_rfl)

theorem generic_plane_at_eq (x1 : Int) (y2 : Int) (b3 : Int) (b4 : Int) (b5 : List Int) (b6 : List Arr2) : generic_plane_at x1 y2 b3 b4 b5 b6 =
   ((if (decide (x1 < 0)) = true then
     some true
     else
     (if (decide (y2 < 0)) = true then
      some true
      else
      (if (decide (x1 ≥ b3)) = true then
       some true
       else
       some (decide (y2 ≥ b4))))) : Option (Bool)).bind (fun (v7 : Bool) =>
    (if v7 = true then
     some (0, b3, b4, b5, b6)
     else
     let t8 : Int := IntKind.i64.wrap (y2 * b3);
     let t9 : Int := IntKind.i64.wrap (t8 + x1);
     (if 0 ≤ t9 ∧ t9 < (b5.length : Int) then
      some (rd b5 t9, b3, b4, b5, b6)
      else
      none))) := (call_eq ..).trans (by kernel_rfl)

theorem coder_interval_mid_eq (ctx1 : Int) (b2 : Int) (b3 : Int) (b4 : Int) (b5 : List Int) (b6 : List Int) : coder_interval_mid ctx1 b2 b3 b4 b5 b6 =
   let t7 : Int := IntKind.u64.wrap (b4 - b3);
   (if 0 ≤ ctx1 ∧ ctx1 < (b5.length : Int) then
    let t8 : Int := rd b5 ctx1;
    (coder_table_chance b2 t8).bind fun (q9 : Int) =>
    let t10 : Int := IntKind.u64.wrap q9;
    let t11 : Int := IntKind.u64.wrap (t7.tdiv 4096);
    let t12 : Int := IntKind.u64.wrap (t11 * t10);
    let t13 : Int := IntKind.u64.wrap (b3 + t12);
    let t14 : Int := t7.tmod 4096;
    let t15 : Int := IntKind.u64.wrap (t14 * t10);
    let t16 : Int := IntKind.u64.wrap (t15.tdiv 4096);
    let t17 : Int := IntKind.u64.wrap (t13 + t16);
    some (t17, b2, b3, b4, b5, b6)
    else
    none) := (call_eq ..).trans (by kernel_rfl)

theorem coder_interval_take_eq (ctx1 : Int) (bit2 : Int) (mid3 : Int) (b4 : Int) (b5 : Int) (b6 : Int) (b7 : List Int) (b8 : List Int) : coder_interval_take ctx1 bit2 mid3 b4 b5 b6 b7 b8 =
   ((if (decide (bit2 = 1)) = true then
     some (b4, b5, mid3, b7, b8)
     else
     let t9 : Int := IntKind.u64.wrap (mid3 + 1);
     some (b4, t9, b6, b7, b8)) : Option (Int × Int × Int × (List Int) × (List Int))).bind (fun (p10 : Int × Int × Int × (List Int) × (List Int)) =>
    let b11 : Int := p10.1;
    let b12 : Int := p10.2.1;
    let b13 : Int := p10.2.2.1;
    let b14 : List Int := p10.2.2.2.1;
    let b15 : List Int := p10.2.2.2.2;
    (if 0 ≤ ctx1 ∧ ctx1 < (b14.length : Int) then
     let t16 : Int := rd b14 ctx1;
     (coder_next b11 t16 bit2).bind fun (q17 : Int) =>
     (if 0 ≤ ctx1 ∧ ctx1 < (b14.length : Int) then
      let w18 : List Int := b14.set ctx1.toNat q17;
      some (b11, b12, b13, w18, b15)
      else
      none)
     else
     none)) := (call_eq ..).trans (by kernel_rfl)

theorem coder_interval_same_eq (b1 : Int) (b2 : Int) (b3 : Int) (b4 : List Int) (b5 : List Int) : coder_interval_same b1 b2 b3 b4 b5 =
   let t6 : Int := ishr .u64 b2 24;
   let t7 : Int := ishr .u64 b3 24;
   some (decide (t6 = t7), b1, b2, b3, b4, b5) := (call_eq ..).trans (by kernel_rfl)

theorem coder_interval_lose_eq (b1 : Int) (b2 : Int) (b3 : Int) (b4 : List Int) (b5 : List Int) : coder_interval_lose b1 b2 b3 b4 b5 =
   let t6 : Int := ishr .u64 b2 24;
   let t7 : Int := IntKind.u8.wrap t6;
   let t8 : Int := ishl .u64 b2 8;
   let t9 : Int := iand .u64 t8 4294967295;
   let t10 : Int := ishl .u64 b3 8;
   let t11 : Int := iand .u64 t10 4294967295;
   let t12 : Int := ior .u64 t11 255;
   some (t7, b1, t9, t12, b4, b5) := (call_eq ..).trans (by kernel_rfl)

theorem ref07_template_eq (n1 : Int) : ref07_template n1 =
   (if (decide (n1 = 0)) = true then
    some [(Pixel.mk (-1) (-2)), (Pixel.mk 0 (-2)), (Pixel.mk 1 (-2)), (Pixel.mk (-2) (-1)), (Pixel.mk (-1) (-1)), (Pixel.mk 0 (-1)), (Pixel.mk 1 (-1)), (Pixel.mk 2 (-1)), (Pixel.mk (-2) 0), (Pixel.mk (-1) 0)]
    else
    (if (decide (n1 = 1)) = true then
     some [(Pixel.mk (-1) (-2)), (Pixel.mk 0 (-2)), (Pixel.mk (-1) (-1)), (Pixel.mk 0 (-1)), (Pixel.mk 1 (-1)), (Pixel.mk (-2) 0), (Pixel.mk (-1) 0)]
     else
     (if (decide (n1 = 2)) = true then
      some [(Pixel.mk (-2) (-1)), (Pixel.mk (-1) (-1)), (Pixel.mk 0 (-1)), (Pixel.mk 1 (-1)), (Pixel.mk 2 (-1)), (Pixel.mk (-2) 0), (Pixel.mk (-1) 0)]
      else
      some [(Pixel.mk (-1) (-1)), (Pixel.mk 0 (-1)), (Pixel.mk 1 (-1)), (Pixel.mk (-1) 0)]))) := (call_eq ..).trans (by kernel_rfl)
end
end Go.Proofs.YtkccnhkhjncpkaaGreat.P
