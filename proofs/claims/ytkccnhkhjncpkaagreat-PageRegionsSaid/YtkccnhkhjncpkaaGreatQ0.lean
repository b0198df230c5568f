/- The equations of functions. Printed by wip/tool/vsym.py. -/
import Derived.Test.YtkccnhkhjncpkaaGreatG
import Derived.Test.YtkccnhkhjncpkaaGreatLib
namespace Go.Proofs.YtkccnhkhjncpkaaGreat.P
open Go Go.Proofs.YtkccnhkhjncpkaaGreat.V
set_option linter.unusedVariables false
set_option linter.unusedSimpArgs false
set_option maxRecDepth 100000
noncomputable section
theorem law13_PageRegions_eq (in1 : Int) (in2 : Int) (in3 : Int) (in4 : Int) (in5 : Int) (in6 : Bool) (in7 : Int) (in8 : Int) (in9 : Int) (in10 : Bool) (in11 : Int) (in12 : Bool) (in13 : Int) (in14 : Int) (in15 : Int) (in16 : Bool) (in17 : Int) (in18 : Int) (in19 : Int) (in20 : List Int) (in21 : Int) (in22 : Int) (in23 : List Int) : law13_PageRegions in1 in2 in3 in4 in5 in6 in7 in8 in9 in10 in11 in12 in13 in14 in15 in16 in17 in18 in19 in20 in21 in22 in23 =
   ((if (decide (((in20.length : Nat) : Int) > 800)) = true then
     some true
     else
     some (decide (((in23.length : Nat) : Int) > 20000))) : Option (Bool)).bind (fun (v24 : Bool) =>
    (if v24 = true then
     (law13_Sane).bind fun (q25 : Bool) =>
     some q25
     else
     (page_Generic in1 in2 in3 in4 in5 in6 in7 in8 in9 in10 in11 in18 in19 in20).bind fun (q26 : (List Int) × Int) =>
     let tr27 : List Int := q26.1;
     let tr28 : Int := q26.2;
     (ref13_Generic in1 in2 in3 in4 in5 in6 in7 in8 in9 in10 in11 in18 in19 in20).bind fun (q29 : (List Int) × Int) =>
     let tr30 : List Int := q29.1;
     let tr31 : Int := q29.2;
     ((if (!decide (tr28 = tr31)) = true then
       some true
       else
       (ref01_SameBytes tr27 tr30).bind fun (q32 : Bool) =>
       some (!q32)) : Option (Bool)).bind (fun (v33 : Bool) =>
      (if v33 = true then
       some false
       else
       (page_Runs in1 in2 in3 in4 in5 in6 in12 in18 in19 in20).bind fun (q34 : (List Int) × Int) =>
       let tr35 : List Int := q34.1;
       let tr36 : Int := q34.2;
       (ref13_Runs in1 in2 in3 in4 in5 in6 in12 in18 in19 in20).bind fun (q37 : (List Int) × Int) =>
       let tr38 : List Int := q37.1;
       let tr39 : Int := q37.2;
       ((if (!decide (tr36 = tr39)) = true then
         some true
         else
         (ref01_SameBytes tr35 tr38).bind fun (q40 : Bool) =>
         some (!q40)) : Option (Bool)).bind (fun (v41 : Bool) =>
        (if v41 = true then
         some false
         else
         (page_Refined in1 in2 in3 in4 in5 in6 in13 in14 in15 in16 in17 in18 in19 in20 in21 in22 in23).bind fun (q42 : (List Int) × Int) =>
         let tr43 : List Int := q42.1;
         let tr44 : Int := q42.2;
         (ref13_Refined in1 in2 in3 in4 in5 in6 in13 in14 in15 in16 in17 in18 in19 in20 in21 in22 in23).bind fun (q45 : (List Int) × Int) =>
         let tr46 : List Int := q45.1;
         let tr47 : Int := q45.2;
         (if (decide (tr44 = tr47)) = true then
          (ref01_SameBytes tr43 tr46).bind fun (q48 : Bool) =>
          (if q48 = true then
           (law13_Sane).bind fun (q49 : Bool) =>
           some q49
           else
           some false)
          else
          some false))))))) := (call_eq ..).trans (by kernel_rfl)

theorem law13_Sane_eq : law13_Sane =
   (page_Info 3 2 0 1).bind fun (q1 : (List Int) × Int) =>
   let tr2 : List Int := q1.1;
   let tr3 : Int := q1.2;
   (if (decide (tr3 = 0)) = true then
    (ref01_SameBytes tr2 [3, 3, 2]).bind fun (q4 : Bool) =>
    some q4
    else
    some false) := (call_eq ..).trans (by kernel_rfl)

theorem page_Generic_eq (g1 : Int) (g2 : Int) (g3 : Int) (g4 : Int) (g5 : Int) (g6 : Bool) (o7 : Int) (o8 : Int) (o9 : Int) (o10 : Bool) (o11 : Int) (b12 : Int) (b13 : Int) (b14 : List Int) : page_Generic g1 g2 g3 g4 g5 g6 o7 o8 o9 o10 o11 b12 b13 b14 =
   ((page_rightBegin g1 g2 g3 g4 g5 g6).bind fun (q15 : Bool) =>
    (if (!q15) = true then
     some true
     else
     (if (!decide (g1 = b12)) = true then
      some true
      else
      some (!decide (g2 = b13)))) : Option (Bool)).bind (fun (v16 : Bool) =>
    (if v16 = true then
     some ([], 2)
     else
     (generic_Encode o7 o8 o9 o10 o11 b12 b13 b14).bind fun (q17 : (List Int) × Int) =>
     let tr18 : List Int := q17.1;
     let tr19 : Int := q17.2;
     (page_writer_begin g1 g2 g3 g4 g5 g6 []).bind fun (q20 : (List Int)) =>
     (page_flag o10 4).bind fun (q21 : Int) =>
     let t22 : Int := IntKind.i64.wrap (o7 + q21);
     let t23 : Int := IntKind.i64.wrap (8 * o11);
     let t24 : Int := IntKind.i64.wrap (t22 + t23);
     (if 0 ≤ (0 : Int) ∧ (0 : Int) < ((2 : Nat) : Int) then
      let t25 : Int := IntKind.i64.wrap (o8 + 8);
      (if 0 ≤ (1 : Int) ∧ (1 : Int) < ((2 : Nat) : Int) then
       let t26 : Int := IntKind.i64.wrap (0 - o9);
       (page_writer_byte [t24, t25, t26] q20).bind fun (q27 : (List Int)) =>
       (page_writer_with tr18 tr19 q27).bind fun (q28 : (List Int) × Int) =>
       let tr29 : List Int := q28.1;
       let tr30 : Int := q28.2;
       some (tr29, tr30)
       else
       none)
      else
      none))) := (call_eq ..).trans (by kernel_rfl)

theorem ref13_Generic_eq (g1 : Int) (g2 : Int) (g3 : Int) (g4 : Int) (g5 : Int) (g6 : Bool) (o7 : Int) (o8 : Int) (o9 : Int) (o10 : Bool) (o11 : Int) (b12 : Int) (b13 : Int) (b14 : List Int) : ref13_Generic g1 g2 g3 g4 g5 g6 o7 o8 o9 o10 o11 b12 b13 b14 =
   (ref13_isRegion g1 g2 g3 g4 g5 g6 b12 b13 b14).bind fun (q15 : Bool) =>
   (if (!q15) = true then
    some ([], 2)
    else
    (ref07_Encode o7 o8 o9 o10 o11 b12 b13 b14).bind fun (q16 : (List Int) × Int) =>
    let tr17 : List Int := q16.1;
    let tr18 : Int := q16.2;
    (if (!decide (tr18 = 0)) = true then
     some ([], tr18)
     else
     (ref13_bit o10).bind fun (q19 : Int) =>
     let t20 : Int := IntKind.i64.wrap (4 * q19);
     let t21 : Int := IntKind.i64.wrap (o7 + t20);
     let t22 : Int := IntKind.i64.wrap (8 * o11);
     let t23 : Int := IntKind.i64.wrap (t21 + t22);
     (ref13_begin g1 g2 g3 g4 g5 g6).bind fun (q24 : (List Int)) =>
     let t25 : Int := IntKind.u8.wrap t23;
     (ref13_adaptive o7 o8 o9 o10 o11).bind fun (q26 : (List Int)) =>
     (ref13_join [q24, [t25], q26, tr17]).bind fun (q27 : (List Int)) =>
     some (q27, 0))) := (call_eq ..).trans (by kernel_rfl)

theorem ref01_SameBytes_eq (a1 : List Int) (b2 : List Int) : ref01_SameBytes a1 b2 =
   some (decide (a1 = b2)) := (call_eq ..).trans (by kernel_rfl)

theorem page_Runs_eq (g1 : Int) (g2 : Int) (g3 : Int) (g4 : Int) (g5 : Int) (g6 : Bool) (two7 : Bool) (b8 : Int) (b9 : Int) (b10 : List Int) : page_Runs g1 g2 g3 g4 g5 g6 two7 b8 b9 b10 =
   ((page_rightBegin g1 g2 g3 g4 g5 g6).bind fun (q11 : Bool) =>
    (if (!q11) = true then
     some true
     else
     (if (!decide (g1 = b8)) = true then
      some true
      else
      some (!decide (g2 = b9)))) : Option (Bool)).bind (fun (v12 : Bool) =>
    (if v12 = true then
     some ([], 2)
     else
     (runs_One b8 b9 b10).bind fun (q13 : (List Int) × Int) =>
     let tr14 : List Int := q13.1;
     let tr15 : Int := q13.2;
     ((if two7 = true then
       (runs_Two b8 b9 b10).bind fun (q16 : (List Int) × Int) =>
       let tr17 : List Int := q16.1;
       let tr18 : Int := q16.2;
       some (tr17, tr18)
       else
       some (tr14, tr15)) : Option ((List Int) × Int)).bind (fun (p19 : (List Int) × Int) =>
      let code20 : List Int := p19.1;
      let err21 : Int := p19.2;
      (page_writer_begin g1 g2 g3 g4 g5 g6 []).bind fun (q22 : (List Int)) =>
      (page_flag two7 1).bind fun (q23 : Int) =>
      (page_writer_byte [q23] q22).bind fun (q24 : (List Int)) =>
      (page_writer_with code20 err21 q24).bind fun (q25 : (List Int) × Int) =>
      let tr26 : List Int := q25.1;
      let tr27 : Int := q25.2;
      some (tr26, tr27)))) := (call_eq ..).trans (by kernel_rfl)

theorem ref13_Runs_eq (g1 : Int) (g2 : Int) (g3 : Int) (g4 : Int) (g5 : Int) (g6 : Bool) (two7 : Bool) (b8 : Int) (b9 : Int) (b10 : List Int) : ref13_Runs g1 g2 g3 g4 g5 g6 two7 b8 b9 b10 =
   (ref13_isRegion g1 g2 g3 g4 g5 g6 b8 b9 b10).bind fun (q11 : Bool) =>
   (if (!q11) = true then
    some ([], 2)
    else
    (ref06_One b8 b9 b10).bind fun (q12 : (List Int) × Int) =>
    let tr13 : List Int := q12.1;
    let tr14 : Int := q12.2;
    ((if two7 = true then
      (ref06_Two b8 b9 b10).bind fun (q15 : (List Int) × Int) =>
      let tr16 : List Int := q15.1;
      let tr17 : Int := q15.2;
      some (tr16, tr17)
      else
      some (tr13, tr14)) : Option ((List Int) × Int)).bind (fun (p18 : (List Int) × Int) =>
     let code19 : List Int := p18.1;
     let e20 : Int := p18.2;
     (if (!decide (e20 = 0)) = true then
      some ([], e20)
      else
      (ref13_begin g1 g2 g3 g4 g5 g6).bind fun (q21 : (List Int)) =>
      (ref13_bit two7).bind fun (q22 : Int) =>
      let t23 : Int := IntKind.u8.wrap q22;
      (ref13_join [q21, [t23], code19]).bind fun (q24 : (List Int)) =>
      some (q24, 0)))) := (call_eq ..).trans (by kernel_rfl)

theorem page_Refined_eq (g1 : Int) (g2 : Int) (g3 : Int) (g4 : Int) (g5 : Int) (g6 : Bool) (o7 : Int) (o8 : Int) (o9 : Int) (o10 : Bool) (o11 : Int) (b12 : Int) (b13 : Int) (b14 : List Int) (r15 : Int) (r16 : Int) (r17 : List Int) : page_Refined g1 g2 g3 g4 g5 g6 o7 o8 o9 o10 o11 b12 b13 b14 r15 r16 r17 =
   ((page_rightBegin g1 g2 g3 g4 g5 g6).bind fun (q18 : Bool) =>
    (if (!q18) = true then
     some true
     else
     (if (!decide (g1 = b12)) = true then
      some true
      else
      some (!decide (g2 = b13)))) : Option (Bool)).bind (fun (v19 : Bool) =>
    (if v19 = true then
     some ([], 2)
     else
     (refine_Encode o7 o8 o9 o10 o11 b12 b13 b14 r15 r16 r17).bind fun (q20 : (List Int) × Int) =>
     let tr21 : List Int := q20.1;
     let tr22 : Int := q20.2;
     (page_writer_begin g1 g2 g3 g4 g5 g6 []).bind fun (q23 : (List Int)) =>
     (page_flag o10 2).bind fun (q24 : Int) =>
     let t25 : Int := IntKind.i64.wrap (o7 + q24);
     let t26 : Int := IntKind.i64.wrap (4 * o11);
     let t27 : Int := IntKind.i64.wrap (t25 + t26);
     (page_writer_byte [t27] q23).bind fun (q28 : (List Int)) =>
     (page_writer_signed [o8, o9] q28).bind fun (q29 : (List Int)) =>
     (page_writer_with tr21 tr22 q29).bind fun (q30 : (List Int) × Int) =>
     let tr31 : List Int := q30.1;
     let tr32 : Int := q30.2;
     some (tr31, tr32))) := (call_eq ..).trans (by kernel_rfl)

theorem ref13_Refined_eq (g1 : Int) (g2 : Int) (g3 : Int) (g4 : Int) (g5 : Int) (g6 : Bool) (o7 : Int) (o8 : Int) (o9 : Int) (o10 : Bool) (o11 : Int) (b12 : Int) (b13 : Int) (b14 : List Int) (r15 : Int) (r16 : Int) (r17 : List Int) : ref13_Refined g1 g2 g3 g4 g5 g6 o7 o8 o9 o10 o11 b12 b13 b14 r15 r16 r17 =
   (ref13_isRegion g1 g2 g3 g4 g5 g6 b12 b13 b14).bind fun (q18 : Bool) =>
   (if (!q18) = true then
    some ([], 2)
    else
    (ref08_Encode o7 o8 o9 o10 o11 b12 b13 b14 r15 r16 r17).bind fun (q19 : (List Int) × Int) =>
    let tr20 : List Int := q19.1;
    let tr21 : Int := q19.2;
    (if (!decide (tr21 = 0)) = true then
     some ([], tr21)
     else
     (ref13_bit o10).bind fun (q22 : Int) =>
     let t23 : Int := IntKind.i64.wrap (2 * q22);
     let t24 : Int := IntKind.i64.wrap (o7 + t23);
     let t25 : Int := IntKind.i64.wrap (4 * o11);
     let t26 : Int := IntKind.i64.wrap (t24 + t25);
     (ref13_begin g1 g2 g3 g4 g5 g6).bind fun (q27 : (List Int)) =>
     let t28 : Int := IntKind.u8.wrap t26;
     (ref13_signed o8).bind fun (q29 : (List Int)) =>
     (ref13_signed o9).bind fun (q30 : (List Int)) =>
     (ref13_join [q27, [t28], q29, q30, tr20]).bind fun (q31 : (List Int)) =>
     some (q31, 0))) := (call_eq ..).trans (by kernel_rfl)

theorem page_Info_eq (w1 : Int) (h2 : Int) (pixel3 : Int) (op4 : Int) : page_Info w1 h2 pixel3 op4 =
   let t5 : Int := imax h2 0;
   (bitmap_New w1 t5 0).bind fun (q6 : Int × Int × (List Int) × Int) =>
   let tr7 : Int := q6.1;
   let tr8 : Int := q6.2.1;
   let tr9 : List Int := q6.2.2.1;
   let tr10 : Int := q6.2.2.2;
   ((if (!decide (tr10 = 0)) = true then
     some true
     else
     (if (decide (h2 < (-1))) = true then
      some true
      else
      (if (decide (pixel3 < 0)) = true then
       some true
       else
       (if (decide (pixel3 > 1)) = true then
        some true
        else
        (if (decide (op4 < 0)) = true then
         some true
         else
         some (decide (op4 > 4))))))) : Option (Bool)).bind (fun (v11 : Bool) =>
    (if v11 = true then
     some ([], 2)
     else
     let t12 : Int := IntKind.i64.wrap (h2 + 1);
     (page_writer_size [w1, t12] []).bind fun (q13 : (List Int)) =>
     let t14 : Int := IntKind.i64.wrap (2 * op4);
     let t15 : Int := IntKind.i64.wrap (pixel3 + t14);
     (page_writer_byte [t15] q13).bind fun (q16 : (List Int)) =>
     some (q16, 0))) := (call_eq ..).trans (by kernel_rfl)

theorem page_rightBegin_eq (g1 : Int) (g2 : Int) (g3 : Int) (g4 : Int) (g5 : Int) (g6 : Bool) : page_rightBegin g1 g2 g3 g4 g5 g6 =
   (bitmap_New g1 g2 0).bind fun (q7 : Int × Int × (List Int) × Int) =>
   let tr8 : Int := q7.1;
   let tr9 : Int := q7.2.1;
   let tr10 : List Int := q7.2.2.1;
   let tr11 : Int := q7.2.2.2;
   (if (decide (tr11 = 0)) = true then
    (page_near g3).bind fun (q12 : Bool) =>
    (if q12 = true then
     (page_near g4).bind fun (q13 : Bool) =>
     (if q13 = true then
      (if (decide (g5 ≥ 0)) = true then
       some (decide (g5 ≤ 4))
       else
       some false)
      else
      some false)
     else
     some false)
    else
    some false) := (call_eq ..).trans (by kernel_rfl)

theorem generic_Encode_eq (o1 : Int) (o2 : Int) (o3 : Int) (o4 : Bool) (o5 : Int) (b6 : Int) (b7 : Int) (b8 : List Int) : generic_Encode o1 o2 o3 o4 o5 b6 b7 b8 =
   (generic_Valid o1 o2 o3 o4 o5).bind fun (q9 : Bool) =>
   (if (!q9) = true then
    some ([], 2)
    else
    (bitmap_Valid b6 b7 b8).bind fun (q10 : Bool) =>
    (if (!q10) = true then
     some ([], 30)
     else
     (generic_contexts o1 o2 o3 o4 o5).bind fun (q11 : Int) =>
     let t12 : Int := IntKind.i64.wrap (q11 + 1);
     (coder_New o5 t12).bind fun (q13 : Int × (List Int) × Int) =>
     let tr14 : Int := q13.1;
     let tr15 : List Int := q13.2.1;
     let tr16 : Int := q13.2.2;
     (coder_NewEncoder tr14 tr15).bind fun (o37 : (Int × Int × Int × (List Int) × (List Int)) ⊕ (Unit)) =>
     (Sum.elim (fun (q17 : Int × Int × Int × (List Int) × (List Int)) =>
       let tr18 : Int := q17.1;
       let tr19 : Int := q17.2.1;
       let tr20 : Int := q17.2.2.1;
       let tr21 : List Int := q17.2.2.2.1;
       let tr22 : List Int := q17.2.2.2.2;
       (generic_put 0 o1 o2 o3 o4 o5 b6 b7 b8 0 0 [] tr18 tr19 tr20 tr21 tr22).bind fun (q23 : Int × Int × Int × (List Int) × (List Int)) =>
       let tr24 : Int := q23.1;
       let tr25 : Int := q23.2.1;
       let tr26 : Int := q23.2.2.1;
       let tr27 : List Int := q23.2.2.2.1;
       let tr28 : List Int := q23.2.2.2.2;
       (coder_Encoder_End tr24 tr25 tr26 tr27 tr28).bind fun (q29 : (List Int) × Int × Int × Int × (List Int) × (List Int)) =>
       let tr30 : List Int := q29.1;
       let tr31 : Int := q29.2.1;
       let tr32 : Int := q29.2.2.1;
       let tr33 : Int := q29.2.2.2.1;
       let tr34 : List Int := q29.2.2.2.2.1;
       let tr35 : List Int := q29.2.2.2.2.2;
       some (tr30, 0))
      (fun (q36 : Unit) =>
       none) o37))) := (call_eq ..).trans (by kernel_rfl)

theorem page_writer_begin_eq (g1 : Int) (g2 : Int) (g3 : Int) (g4 : Int) (g5 : Int) (g6 : Bool) (b7 : List Int) : page_writer_begin g1 g2 g3 g4 g5 g6 b7 =
   (page_writer_size [g1, g2] b7).bind fun (q8 : (List Int)) =>
   (page_writer_signed [g3, g4] q8).bind fun (q9 : (List Int)) =>
   (page_flag g6 8).bind fun (q10 : Int) =>
   let t11 : Int := IntKind.i64.wrap (g5 + q10);
   (page_writer_byte [t11] q9).bind fun (q12 : (List Int)) =>
   some q12 := (call_eq ..).trans (by kernel_rfl)

theorem page_flag_eq (is1 : Bool) (n2 : Int) : page_flag is1 n2 =
   (if is1 = true then
    some n2
    else
    some 0) := (call_eq ..).trans (by kernel_rfl)

noncomputable def page_writer_byte_loop1 (l1 : List Int) (s3 : Int × (List Int)) : Option ((Int × (List Int)) ⊕ ((List Int))) :=
   let v4 : Int := s3.1;
   let b5 : List Int := s3.2;
   (if (decide (v4 < ((l1.length : Nat) : Int))) = true then
    (if 0 ≤ v4 ∧ v4 < (l1.length : Int) then
     let t6 : Int := IntKind.u8.wrap (rd l1 v4);
     (if (b5.length + ([t6] : List Int).length) * 1 ≤ 140737488355328 then
      let t7 : List Int := b5 ++ [t6];
      let t8 : Int := IntKind.i64.wrap (v4 + 1);
      some (Sum.inl (t8, t7))
      else
      none)
     else
     none)
    else
    some (Sum.inr b5))
noncomputable def page_writer_byte_loop1_step (i9 : Nat) (x10 : Int) (s11 : (List Int)) : Option (((List Int)) ⊕ ((List Int))) :=
   let t6 : Int := IntKind.u8.wrap (x10);
   (if (s11.length + ([t6] : List Int).length) * 1 ≤ 140737488355328 then
    let t7 : List Int := s11 ++ [t6];
    some (Sum.inl (t7))
    else
    none)
theorem page_writer_byte_loop1_overAt (l1 : List Int) (hl : l1.length ≤ 4611686018427387904) (k : Nat) (s11 : (List Int)) (hk : k ≤ l1.length) : loop (page_writer_byte_loop1 l1) ((((k : Nat) : Int), s11) : Int × (List Int)) =
    overL (page_writer_byte_loop1_step) (fun (s11 : (List Int)) => some s11) k (l1.drop k) s11 := by
  refine loop_over l1 (fun n (s : (List Int)) => ((((n : Nat) : Int), s) : Int × (List Int))) _ _ (fun s => ?_) (fun i x s h => ?_) k s11 hk
  · unfold page_writer_byte_loop1; simp
  · have hlt := lt_len_of_get h
    have h1 : ((i : Nat) : Int) < ((l1.length : Nat) : Int) := by omega
    have h0 : (0 : Int) ≤ ((i : Nat) : Int) := by omega
    have hw : IntKind.i64.wrap (((i : Nat) : Int) + 1) = (((i + 1 : Nat) : Nat) : Int) := w64 (by omega)
    have hr : rd l1 ((i : Nat) : Int) = x := rd_nat h
    unfold page_writer_byte_loop1 page_writer_byte_loop1_step
    simp only [h1, h0, hw, h, hr, decide_true, if_true, and_self, true_and, Int.toNat_natCast, Option.bind_some, Option.map_bind, Function.comp_def, map_ite, map_elim, Option.map_some, Option.map_none]
theorem page_writer_byte_loop1_over (l1 : List Int) (hl : l1.length ≤ 4611686018427387904) (s11 : (List Int)) : loop (page_writer_byte_loop1 l1) ((0, s11) : Int × (List Int)) =
    overL (page_writer_byte_loop1_step) (fun (s11 : (List Int)) => some s11) 0 l1 s11 := page_writer_byte_loop1_overAt l1 hl 0 s11 (Nat.zero_le _)

theorem page_writer_byte_eq (l1 : List Int) (b2 : List Int) : page_writer_byte l1 b2 =
   (loop (page_writer_byte_loop1 l1) (0, b2)).bind (fun (b12 : (List Int)) =>
    some b12) := (call_eq ..).trans (by kernel_rfl)

theorem page_writer_with_eq (code1 : List Int) (err2 : Int) (b3 : List Int) : page_writer_with code1 err2 b3 =
   (if (!decide (err2 = 0)) = true then
    some ([], err2)
    else
    (if (b3.length + code1.length) * 1 ≤ 140737488355328 then
     let t4 : List Int := b3 ++ code1;
     some (t4, 0)
     else
     none)) := (call_eq ..).trans (by kernel_rfl)

theorem ref13_isRegion_eq (g1 : Int) (g2 : Int) (g3 : Int) (g4 : Int) (g5 : Int) (g6 : Bool) (b7 : Int) (b8 : Int) (b9 : List Int) : ref13_isRegion g1 g2 g3 g4 g5 g6 b7 b8 b9 =
   (ref13_isBegin g1 g2 g3 g4 g5 g6).bind fun (q10 : Bool) =>
   (if q10 = true then
    (if (decide (g1 = b7)) = true then
     some (decide (g2 = b8))
     else
     some false)
    else
    some false) := (call_eq ..).trans (by kernel_rfl)

theorem ref07_Encode_eq (o1 : Int) (o2 : Int) (o3 : Int) (o4 : Bool) (o5 : Int) (b6 : Int) (b7 : Int) (b8 : List Int) : ref07_Encode o1 o2 o3 o4 o5 b6 b7 b8 =
   (ref07_Size o1 o2 o3 o4 o5).bind fun (q9 : Int × Int) =>
   let tr10 : Int := q9.1;
   let tr11 : Int := q9.2;
   (if (!decide (tr11 = 0)) = true then
    some ([], tr11)
    else
    (ref02_New o5 tr10).bind fun (q12 : Int × (List Int) × Int) =>
    let tr13 : Int := q12.1;
    let tr14 : List Int := q12.2.1;
    let tr15 : Int := q12.2.2;
    (ref02_NewEncoder tr13 tr14).bind fun (o37 : (Int × Int × Int × (List Int) × (List Int)) ⊕ (Unit)) =>
    (Sum.elim (fun (q16 : Int × Int × Int × (List Int) × (List Int)) =>
      let tr17 : Int := q16.1;
      let tr18 : Int := q16.2.1;
      let tr19 : Int := q16.2.2.1;
      let tr20 : List Int := q16.2.2.2.1;
      let tr21 : List Int := q16.2.2.2.2;
      (ref07_Put 0 o1 o2 o3 o4 o5 b6 b7 b8 0 0 [] tr17 tr18 tr19 tr20 tr21).bind fun (q22 : Int × Int × Int × Int × (List Int) × (List Int)) =>
      let tr23 : Int := q22.1;
      let tr24 : Int := q22.2.1;
      let tr25 : Int := q22.2.2.1;
      let tr26 : Int := q22.2.2.2.1;
      let tr27 : List Int := q22.2.2.2.2.1;
      let tr28 : List Int := q22.2.2.2.2.2;
      (if (!decide (tr23 = 0)) = true then
       some ([], tr23)
       else
       (ref02_Encoder_End tr24 tr25 tr26 tr27 tr28).bind fun (q29 : (List Int) × Int × Int × Int × (List Int) × (List Int)) =>
       let tr30 : List Int := q29.1;
       let tr31 : Int := q29.2.1;
       let tr32 : Int := q29.2.2.1;
       let tr33 : Int := q29.2.2.2.1;
       let tr34 : List Int := q29.2.2.2.2.1;
       let tr35 : List Int := q29.2.2.2.2.2;
       some (tr30, 0)))
     (fun (q36 : Unit) =>
      none) o37)) := (call_eq ..).trans (by kernel_rfl)

theorem ref13_bit_eq (is1 : Bool) : ref13_bit is1 =
   (if is1 = true then
    some 1
    else
    some 0) := (call_eq ..).trans (by kernel_rfl)

theorem ref13_begin_eq (g1 : Int) (g2 : Int) (g3 : Int) (g4 : Int) (g5 : Int) (g6 : Bool) : ref13_begin g1 g2 g3 g4 g5 g6 =
   (ref13_size g1).bind fun (q7 : (List Int)) =>
   (ref13_size g2).bind fun (q8 : (List Int)) =>
   (ref13_signed g3).bind fun (q9 : (List Int)) =>
   (ref13_signed g4).bind fun (q10 : (List Int)) =>
   (ref13_bit g6).bind fun (q11 : Int) =>
   let t12 : Int := IntKind.i64.wrap (8 * q11);
   let t13 : Int := IntKind.i64.wrap (g5 + t12);
   let t14 : Int := IntKind.u8.wrap t13;
   (ref13_join [q7, q8, q9, q10, [t14]]).bind fun (q15 : (List Int)) =>
   some q15 := (call_eq ..).trans (by kernel_rfl)

theorem ref13_adaptive_eq (o1 : Int) (o2 : Int) (o3 : Int) (o4 : Bool) (o5 : Int) : ref13_adaptive o1 o2 o3 o4 o5 =
   (if 0 ≤ (0 : Int) ∧ (0 : Int) < ((2 : Nat) : Int) then
    let t6 : Int := IntKind.i64.wrap (o2 + 8);
    let t7 : Int := IntKind.u8.wrap t6;
    (if 0 ≤ (1 : Int) ∧ (1 : Int) < ((2 : Nat) : Int) then
     let t8 : Int := IntKind.i64.wrap (0 - o3);
     let t9 : Int := IntKind.u8.wrap t8;
     some [t7, t9]
     else
     none)
    else
    none) := (call_eq ..).trans (by kernel_rfl)

noncomputable def ref13_join_loop3 (l1 : List (List Int)) (s2 : Int × (List Int)) : Option ((Int × (List Int)) ⊕ ((List Int))) :=
   let i3 : Int := s2.1;
   let out4 : List Int := s2.2;
   (if (decide (i3 < ((l1.length : Nat) : Int))) = true then
    (if 0 ≤ i3 then
     (l1[i3.toNat]?).bind fun e5 =>
     (if (out4.length + e5.length) * 1 ≤ 140737488355328 then
      let t6 : List Int := out4 ++ e5;
      let t7 : Int := IntKind.i64.wrap (i3 + 1);
      some (Sum.inl (t7, t6))
      else
      none)
     else
     none)
    else
    some (Sum.inr out4))
noncomputable def ref13_join_loop3_step (i8 : Nat) (x9 : (List Int)) (s10 : (List Int)) : Option (((List Int)) ⊕ ((List Int))) :=
   (if (s10.length + x9.length) * 1 ≤ 140737488355328 then
    let t6 : List Int := s10 ++ x9;
    some (Sum.inl (t6))
    else
    none)
theorem ref13_join_loop3_overAt (l1 : List (List Int)) (hl : l1.length ≤ 4611686018427387904) (k : Nat) (s10 : (List Int)) (hk : k ≤ l1.length) : loop (ref13_join_loop3 l1) ((((k : Nat) : Int), s10) : Int × (List Int)) =
    overL (ref13_join_loop3_step) (fun (s10 : (List Int)) => some s10) k (l1.drop k) s10 := by
  refine loop_over l1 (fun n (s : (List Int)) => ((((n : Nat) : Int), s) : Int × (List Int))) _ _ (fun s => ?_) (fun i x s h => ?_) k s10 hk
  · unfold ref13_join_loop3; simp
  · have hlt := lt_len_of_get h
    have h1 : ((i : Nat) : Int) < ((l1.length : Nat) : Int) := by omega
    have h0 : (0 : Int) ≤ ((i : Nat) : Int) := by omega
    have hw : IntKind.i64.wrap (((i : Nat) : Int) + 1) = (((i + 1 : Nat) : Nat) : Int) := w64 (by omega)
    unfold ref13_join_loop3 ref13_join_loop3_step
    simp only [h1, h0, hw, h, decide_true, if_true, and_self, true_and, Int.toNat_natCast, Option.bind_some, Option.map_bind, Function.comp_def, map_ite, map_elim, Option.map_some, Option.map_none]
theorem ref13_join_loop3_over (l1 : List (List Int)) (hl : l1.length ≤ 4611686018427387904) (s10 : (List Int)) : loop (ref13_join_loop3 l1) ((0, s10) : Int × (List Int)) =
    overL (ref13_join_loop3_step) (fun (s10 : (List Int)) => some s10) 0 l1 s10 := ref13_join_loop3_overAt l1 hl 0 s10 (Nat.zero_le _)

theorem ref13_join_eq (l1 : List (List Int)) : ref13_join l1 =
   (loop (ref13_join_loop3 l1) (0, [])).bind (fun (out11 : (List Int)) =>
    some out11) := (call_eq ..).trans (by kernel_rfl)

noncomputable def runs_One_loop8 (q10 : (List Int)) (s11 : Int × (List Int)) : Option ((Int × (List Int)) ⊕ ((List Int))) :=
   let v12 : Int := s11.1;
   let out13 : List Int := s11.2;
   (if (decide (v12 < ((q10.length : Nat) : Int))) = true then
    (if 0 ≤ v12 ∧ v12 < (q10.length : Int) then
     let t14 : Int := v12.tmod 2;
     (runs_runBits (rd q10 v12) t14).bind fun (q15 : (List Int)) =>
     (if (out13.length + q15.length) * 1 ≤ 140737488355328 then
      let t16 : List Int := out13 ++ q15;
      let t17 : Int := IntKind.i64.wrap (v12 + 1);
      some (Sum.inl (t17, t16))
      else
      none)
     else
     none)
    else
    some (Sum.inr out13))
noncomputable def runs_One_loop5 (q5 : (List (List Int))) (s6 : Int × (List Int)) : Option ((Int × (List Int)) ⊕ ((List Int))) :=
   let v7 : Int := s6.1;
   let out8 : List Int := s6.2;
   (if (decide (v7 < ((q5.length : Nat) : Int))) = true then
    (if 0 ≤ v7 then
     (q5[v7.toNat]?).bind fun e9 =>
     (runs_row e9).bind fun (q10 : (List Int)) =>
     (loop (runs_One_loop8 q10) (0, out8)).bind (fun (out18 : (List Int)) =>
      let t19 : Int := IntKind.i64.wrap (v7 + 1);
      some (Sum.inl (t19, out18)))
     else
     none)
    else
    some (Sum.inr out8))
theorem runs_One_eq (b1 : Int) (b2 : Int) (b3 : List Int) : runs_One b1 b2 b3 =
   (bitmap_Valid b1 b2 b3).bind fun (q4 : Bool) =>
   (if (!q4) = true then
    some ([], 30)
    else
    (runs_lines b1 b2 b3).bind fun (q5 : (List (List Int))) =>
    (loop (runs_One_loop5 q5) (0, [])).bind (fun (out20 : (List Int)) =>
     (bits_Pack out20).bind fun (q21 : (List Int) × Int) =>
     let tr22 : List Int := q21.1;
     let tr23 : Int := q21.2;
     some (tr22, tr23))) := (call_eq ..).trans (by kernel_rfl)

noncomputable def runs_Two_loop9 (q12 : (List Mode)) (s13 : Int × (List Int)) : Option ((Int × (List Int)) ⊕ ((List Int))) :=
   let v14 : Int := s13.1;
   let out15 : List Int := s13.2;
   (if (decide (v14 < ((q12.length : Nat) : Int))) = true then
    (if 0 ≤ v14 then
     (q12[v14.toNat]?).bind fun e16 =>
     (runs_mode_bits e16.kind e16.d e16.runs_0 e16.runs_1 e16.colour).bind fun (q17 : (List Int)) =>
     (if (out15.length + q17.length) * 1 ≤ 140737488355328 then
      let t18 : List Int := out15 ++ q17;
      let t19 : Int := IntKind.i64.wrap (v14 + 1);
      some (Sum.inl (t19, t18))
      else
      none)
     else
     none)
    else
    some (Sum.inr out15))
noncomputable def runs_Two_loop6 (q6 : (List (List Int))) (s7 : (List Int) × Int × (List Int)) : Option (((List Int) × Int × (List Int)) ⊕ ((List Int))) :=
   let above8 : List Int := s7.1;
   let v9 : Int := s7.2.1;
   let out10 : List Int := s7.2.2;
   (if (decide (v9 < ((q6.length : Nat) : Int))) = true then
    (if 0 ≤ v9 then
     (q6[v9.toNat]?).bind fun e11 =>
     (runs_modes above8 e11).bind fun (q12 : (List Mode)) =>
     (loop (runs_Two_loop9 q12) (0, out10)).bind (fun (out20 : (List Int)) =>
      let t21 : Int := IntKind.i64.wrap (v9 + 1);
      some (Sum.inl (e11, t21, out20)))
     else
     none)
    else
    some (Sum.inr out10))
theorem runs_Two_eq (b1 : Int) (b2 : Int) (b3 : List Int) : runs_Two b1 b2 b3 =
   (bitmap_Valid b1 b2 b3).bind fun (q4 : Bool) =>
   (if (!q4) = true then
    some ([], 30)
    else
    (if 0 ≤ b1 ∧ b1 ≤ b1 ∧ ((1 : Nat) : Int) * b1 ≤ 281474976710656 then
     let t5 : List Int := List.replicate b1.toNat 0;
     (runs_lines b1 b2 b3).bind fun (q6 : (List (List Int))) =>
     (loop (runs_Two_loop6 q6) (t5, 0, [])).bind (fun (out22 : (List Int)) =>
      (bits_Pack out22).bind fun (q23 : (List Int) × Int) =>
      let tr24 : List Int := q23.1;
      let tr25 : Int := q23.2;
      some (tr24, tr25))
     else
     none)) := (call_eq ..).trans (by kernel_rfl)

theorem ref06_One_eq (b1 : Int) (b2 : Int) (b3 : List Int) : ref06_One b1 b2 b3 =
   (ref06_IsBitmap b1 b2 b3).bind fun (q4 : Bool) =>
   (if (!q4) = true then
    some ([], 30)
    else
    (ref06_OneBits b1 b2 b3).bind fun (q5 : (List Int)) =>
    (ref04_Packed q5).bind fun (q6 : (List Int)) =>
    some (q6, 0)) := (call_eq ..).trans (by kernel_rfl)

theorem ref06_Two_eq (b1 : Int) (b2 : Int) (b3 : List Int) : ref06_Two b1 b2 b3 =
   (ref06_IsBitmap b1 b2 b3).bind fun (q4 : Bool) =>
   (if (!q4) = true then
    some ([], 30)
    else
    (ref06_TwoBits b1 b2 b3).bind fun (q5 : (List Int)) =>
    (ref04_Packed q5).bind fun (q6 : (List Int)) =>
    some (q6, 0)) := (call_eq ..).trans (by kernel_rfl)

theorem refine_Encode_eq (o1 : Int) (o2 : Int) (o3 : Int) (o4 : Bool) (o5 : Int) (b6 : Int) (b7 : Int) (b8 : List Int) (r9 : Int) (r10 : Int) (r11 : List Int) : refine_Encode o1 o2 o3 o4 o5 b6 b7 b8 r9 r10 r11 =
   (refine_Valid o1 o2 o3 o4 o5).bind fun (q12 : Bool) =>
   (if (!q12) = true then
    some ([], 2)
    else
    (refine_model o1 o2 o3 o4 o5).bind fun (q13 : Int × (List Int)) =>
    let tr14 : Int := q13.1;
    let tr15 : List Int := q13.2;
    (coder_NewEncoder tr14 tr15).bind fun (o37 : (Int × Int × Int × (List Int) × (List Int)) ⊕ (Unit)) =>
    (Sum.elim (fun (q16 : Int × Int × Int × (List Int) × (List Int)) =>
      let tr17 : Int := q16.1;
      let tr18 : Int := q16.2.1;
      let tr19 : Int := q16.2.2.1;
      let tr20 : List Int := q16.2.2.2.1;
      let tr21 : List Int := q16.2.2.2.2;
      (refine_Put 0 o1 o2 o3 o4 o5 b6 b7 b8 r9 r10 r11 tr17 tr18 tr19 tr20 tr21).bind fun (q22 : Int × Int × Int × Int × (List Int) × (List Int)) =>
      let tr23 : Int := q22.1;
      let tr24 : Int := q22.2.1;
      let tr25 : Int := q22.2.2.1;
      let tr26 : Int := q22.2.2.2.1;
      let tr27 : List Int := q22.2.2.2.2.1;
      let tr28 : List Int := q22.2.2.2.2.2;
      (if (!decide (tr23 = 0)) = true then
       some ([], tr23)
       else
       (coder_Encoder_End tr24 tr25 tr26 tr27 tr28).bind fun (q29 : (List Int) × Int × Int × Int × (List Int) × (List Int)) =>
       let tr30 : List Int := q29.1;
       let tr31 : Int := q29.2.1;
       let tr32 : Int := q29.2.2.1;
       let tr33 : Int := q29.2.2.2.1;
       let tr34 : List Int := q29.2.2.2.2.1;
       let tr35 : List Int := q29.2.2.2.2.2;
       some (tr30, 0)))
     (fun (q36 : Unit) =>
      none) o37)) := (call_eq ..).trans (by kernel_rfl)

noncomputable def page_writer_signed_loop1 (l1 : List Int) (s3 : Int × (List Int)) : Option ((Int × (List Int)) ⊕ ((List Int))) :=
   let v4 : Int := s3.1;
   let b5 : List Int := s3.2;
   (if (decide (v4 < ((l1.length : Nat) : Int))) = true then
    (if 0 ≤ v4 ∧ v4 < (l1.length : Int) then
     (bits_Signed (rd l1 v4)).bind fun (q6 : (List Int) × Int) =>
     let tr7 : List Int := q6.1;
     let tr8 : Int := q6.2;
     (if (b5.length + tr7.length) * 1 ≤ 140737488355328 then
      let t9 : List Int := b5 ++ tr7;
      let t10 : Int := IntKind.i64.wrap (v4 + 1);
      some (Sum.inl (t10, t9))
      else
      none)
     else
     none)
    else
    some (Sum.inr b5))
noncomputable def page_writer_signed_loop1_step (i11 : Nat) (x12 : Int) (s13 : (List Int)) : Option (((List Int)) ⊕ ((List Int))) :=
   (bits_Signed (x12)).bind fun (q6 : (List Int) × Int) =>
   let tr7 : List Int := q6.1;
   let tr8 : Int := q6.2;
   (if (s13.length + tr7.length) * 1 ≤ 140737488355328 then
    let t9 : List Int := s13 ++ tr7;
    some (Sum.inl (t9))
    else
    none)
theorem page_writer_signed_loop1_overAt (l1 : List Int) (hl : l1.length ≤ 4611686018427387904) (k : Nat) (s13 : (List Int)) (hk : k ≤ l1.length) : loop (page_writer_signed_loop1 l1) ((((k : Nat) : Int), s13) : Int × (List Int)) =
    overL (page_writer_signed_loop1_step) (fun (s13 : (List Int)) => some s13) k (l1.drop k) s13 := by
  refine loop_over l1 (fun n (s : (List Int)) => ((((n : Nat) : Int), s) : Int × (List Int))) _ _ (fun s => ?_) (fun i x s h => ?_) k s13 hk
  · unfold page_writer_signed_loop1; simp
  · have hlt := lt_len_of_get h
    have h1 : ((i : Nat) : Int) < ((l1.length : Nat) : Int) := by omega
    have h0 : (0 : Int) ≤ ((i : Nat) : Int) := by omega
    have hw : IntKind.i64.wrap (((i : Nat) : Int) + 1) = (((i + 1 : Nat) : Nat) : Int) := w64 (by omega)
    have hr : rd l1 ((i : Nat) : Int) = x := rd_nat h
    unfold page_writer_signed_loop1 page_writer_signed_loop1_step
    simp only [h1, h0, hw, h, hr, decide_true, if_true, and_self, true_and, Int.toNat_natCast, Option.bind_some, Option.map_bind, Function.comp_def, map_ite, map_elim, Option.map_some, Option.map_none]
theorem page_writer_signed_loop1_over (l1 : List Int) (hl : l1.length ≤ 4611686018427387904) (s13 : (List Int)) : loop (page_writer_signed_loop1 l1) ((0, s13) : Int × (List Int)) =
    overL (page_writer_signed_loop1_step) (fun (s13 : (List Int)) => some s13) 0 l1 s13 := page_writer_signed_loop1_overAt l1 hl 0 s13 (Nat.zero_le _)

theorem page_writer_signed_eq (l1 : List Int) (b2 : List Int) : page_writer_signed l1 b2 =
   (loop (page_writer_signed_loop1 l1) (0, b2)).bind (fun (b14 : (List Int)) =>
    some b14) := (call_eq ..).trans (by kernel_rfl)

theorem ref08_Encode_eq (o1 : Int) (o2 : Int) (o3 : Int) (o4 : Bool) (o5 : Int) (b6 : Int) (b7 : Int) (b8 : List Int) (r9 : Int) (r10 : Int) (r11 : List Int) : ref08_Encode o1 o2 o3 o4 o5 b6 b7 b8 r9 r10 r11 =
   (ref08_Valid o1 o2 o3 o4 o5).bind fun (q12 : Bool) =>
   (if (!q12) = true then
    some ([], 2)
    else
    ((ref06_IsBitmap b6 b7 b8).bind fun (q13 : Bool) =>
     (if (!q13) = true then
      some true
      else
      (ref06_IsBitmap r9 r10 r11).bind fun (q14 : Bool) =>
      some (!q14)) : Option (Bool)).bind (fun (v15 : Bool) =>
     (if v15 = true then
      some ([], 30)
      else
      (ref08_fresh o1 o2 o3 o4 o5).bind fun (q16 : Int × (List Int)) =>
      let tr17 : Int := q16.1;
      let tr18 : List Int := q16.2;
      (ref02_NewEncoder tr17 tr18).bind fun (o40 : (Int × Int × Int × (List Int) × (List Int)) ⊕ (Unit)) =>
      (Sum.elim (fun (q19 : Int × Int × Int × (List Int) × (List Int)) =>
        let tr20 : Int := q19.1;
        let tr21 : Int := q19.2.1;
        let tr22 : Int := q19.2.2.1;
        let tr23 : List Int := q19.2.2.2.1;
        let tr24 : List Int := q19.2.2.2.2;
        (ref08_Put 0 o1 o2 o3 o4 o5 b6 b7 b8 r9 r10 r11 tr20 tr21 tr22 tr23 tr24).bind fun (q25 : Int × Int × Int × Int × (List Int) × (List Int)) =>
        let tr26 : Int := q25.1;
        let tr27 : Int := q25.2.1;
        let tr28 : Int := q25.2.2.1;
        let tr29 : Int := q25.2.2.2.1;
        let tr30 : List Int := q25.2.2.2.2.1;
        let tr31 : List Int := q25.2.2.2.2.2;
        (ref02_Encoder_End tr27 tr28 tr29 tr30 tr31).bind fun (q32 : (List Int) × Int × Int × Int × (List Int) × (List Int)) =>
        let tr33 : List Int := q32.1;
        let tr34 : Int := q32.2.1;
        let tr35 : Int := q32.2.2.1;
        let tr36 : Int := q32.2.2.2.1;
        let tr37 : List Int := q32.2.2.2.2.1;
        let tr38 : List Int := q32.2.2.2.2.2;
        some (tr33, 0))
       (fun (q39 : Unit) =>
        none) o40)))) := (call_eq ..).trans (by kernel_rfl)

theorem ref13_signed_eq (n1 : Int) : ref13_signed n1 =
   (ref01_Signed n1).bind fun (q2 : (List Int) × Int) =>
   let tr3 : List Int := q2.1;
   let tr4 : Int := q2.2;
   some tr3 := (call_eq ..).trans (by kernel_rfl)

noncomputable def bitmap_New_loop5 (pixel3 : Int) (tr9 : List Int) (s10 : Int × (List Int)) : Option ((Int × (List Int)) ⊕ ((List Int))) :=
   let v11 : Int := s10.1;
   let b12 : List Int := s10.2;
   (if (decide (v11 < ((tr9.length : Nat) : Int))) = true then
    let t13 : Int := IntKind.u8.wrap pixel3;
    (if 0 ≤ v11 ∧ v11 < (b12.length : Int) then
     let w14 : List Int := b12.set v11.toNat t13;
     let t15 : Int := IntKind.i64.wrap (v11 + 1);
     some (Sum.inl (t15, w14))
     else
     none)
    else
    some (Sum.inr b12))
noncomputable def bitmap_New_loop5_step (pixel3 : Int) (i16 : Nat) (x17 : Int) (s18 : (List Int)) : Option (((List Int)) ⊕ ((List Int))) :=
   let t13 : Int := IntKind.u8.wrap pixel3;
   (if 0 ≤ ((i16 : Nat) : Int) ∧ ((i16 : Nat) : Int) < (s18.length : Int) then
    let w14 : List Int := s18.set ((i16 : Nat) : Int).toNat t13;
    some (Sum.inl (w14))
    else
    none)
theorem bitmap_New_loop5_overAt (pixel3 : Int) (tr9 : List Int) (hl : tr9.length ≤ 4611686018427387904) (k : Nat) (s18 : (List Int)) (hk : k ≤ tr9.length) : loop (bitmap_New_loop5 pixel3 tr9) ((((k : Nat) : Int), s18) : Int × (List Int)) =
    overL (bitmap_New_loop5_step pixel3) (fun (s18 : (List Int)) => some s18) k (tr9.drop k) s18 := by
  refine loop_over tr9 (fun n (s : (List Int)) => ((((n : Nat) : Int), s) : Int × (List Int))) _ _ (fun s => ?_) (fun i x s h => ?_) k s18 hk
  · unfold bitmap_New_loop5; simp
  · have hlt := lt_len_of_get h
    have h1 : ((i : Nat) : Int) < ((tr9.length : Nat) : Int) := by omega
    have h0 : (0 : Int) ≤ ((i : Nat) : Int) := by omega
    have hw : IntKind.i64.wrap (((i : Nat) : Int) + 1) = (((i + 1 : Nat) : Nat) : Int) := w64 (by omega)
    have hr : rd tr9 ((i : Nat) : Int) = x := rd_nat h
    unfold bitmap_New_loop5 bitmap_New_loop5_step
    simp only [h1, h0, hw, h, hr, decide_true, if_true, and_self, true_and, Int.toNat_natCast, Option.bind_some, Option.map_bind, Function.comp_def, map_ite, map_elim, Option.map_some, Option.map_none]
theorem bitmap_New_loop5_over (pixel3 : Int) (tr9 : List Int) (hl : tr9.length ≤ 4611686018427387904) (s18 : (List Int)) : loop (bitmap_New_loop5 pixel3 tr9) ((0, s18) : Int × (List Int)) =
    overL (bitmap_New_loop5_step pixel3) (fun (s18 : (List Int)) => some s18) 0 tr9 s18 := bitmap_New_loop5_overAt pixel3 tr9 hl 0 s18 (Nat.zero_le _)

theorem bitmap_New_eq (w1 : Int) (h2 : Int) (pixel3 : Int) : bitmap_New w1 h2 pixel3 =
   ((if (decide (w1 < 0)) = true then
     some true
     else
     (if (decide (h2 < 0)) = true then
      some true
      else
      (if (!decide (pixel3 = 0)) = true then
       some (!decide (pixel3 = 1))
       else
       some false))) : Option (Bool)).bind (fun (v4 : Bool) =>
    (if v4 = true then
     some (0, 0, [], 2)
     else
     (bitmap_blank w1 h2).bind fun (q5 : Int × Int × Int × (List Int)) =>
     let tr6 : Int := q5.1;
     let tr7 : Int := q5.2.1;
     let tr8 : Int := q5.2.2.1;
     let tr9 : List Int := q5.2.2.2;
     (loop (bitmap_New_loop5 pixel3 tr9) (0, tr9)).bind (fun (b19 : (List Int)) =>
      some (tr6, tr7, b19, tr8)))) := (call_eq ..).trans (by kernel_rfl)

noncomputable def page_writer_size_loop1 (l1 : List Int) (s3 : Int × (List Int)) : Option ((Int × (List Int)) ⊕ ((List Int))) :=
   let v4 : Int := s3.1;
   let b5 : List Int := s3.2;
   (if (decide (v4 < ((l1.length : Nat) : Int))) = true then
    (if 0 ≤ v4 ∧ v4 < (l1.length : Int) then
     (bits_Size (rd l1 v4)).bind fun (q6 : (List Int) × Int) =>
     let tr7 : List Int := q6.1;
     let tr8 : Int := q6.2;
     (if (b5.length + tr7.length) * 1 ≤ 140737488355328 then
      let t9 : List Int := b5 ++ tr7;
      let t10 : Int := IntKind.i64.wrap (v4 + 1);
      some (Sum.inl (t10, t9))
      else
      none)
     else
     none)
    else
    some (Sum.inr b5))
noncomputable def page_writer_size_loop1_step (i11 : Nat) (x12 : Int) (s13 : (List Int)) : Option (((List Int)) ⊕ ((List Int))) :=
   (bits_Size (x12)).bind fun (q6 : (List Int) × Int) =>
   let tr7 : List Int := q6.1;
   let tr8 : Int := q6.2;
   (if (s13.length + tr7.length) * 1 ≤ 140737488355328 then
    let t9 : List Int := s13 ++ tr7;
    some (Sum.inl (t9))
    else
    none)
theorem page_writer_size_loop1_overAt (l1 : List Int) (hl : l1.length ≤ 4611686018427387904) (k : Nat) (s13 : (List Int)) (hk : k ≤ l1.length) : loop (page_writer_size_loop1 l1) ((((k : Nat) : Int), s13) : Int × (List Int)) =
    overL (page_writer_size_loop1_step) (fun (s13 : (List Int)) => some s13) k (l1.drop k) s13 := by
  refine loop_over l1 (fun n (s : (List Int)) => ((((n : Nat) : Int), s) : Int × (List Int))) _ _ (fun s => ?_) (fun i x s h => ?_) k s13 hk
  · unfold page_writer_size_loop1; simp
  · have hlt := lt_len_of_get h
    have h1 : ((i : Nat) : Int) < ((l1.length : Nat) : Int) := by omega
    have h0 : (0 : Int) ≤ ((i : Nat) : Int) := by omega
    have hw : IntKind.i64.wrap (((i : Nat) : Int) + 1) = (((i + 1 : Nat) : Nat) : Int) := w64 (by omega)
    have hr : rd l1 ((i : Nat) : Int) = x := rd_nat h
    unfold page_writer_size_loop1 page_writer_size_loop1_step
    simp only [h1, h0, hw, h, hr, decide_true, if_true, and_self, true_and, Int.toNat_natCast, Option.bind_some, Option.map_bind, Function.comp_def, map_ite, map_elim, Option.map_some, Option.map_none]
theorem page_writer_size_loop1_over (l1 : List Int) (hl : l1.length ≤ 4611686018427387904) (s13 : (List Int)) : loop (page_writer_size_loop1 l1) ((0, s13) : Int × (List Int)) =
    overL (page_writer_size_loop1_step) (fun (s13 : (List Int)) => some s13) 0 l1 s13 := page_writer_size_loop1_overAt l1 hl 0 s13 (Nat.zero_le _)

theorem page_writer_size_eq (l1 : List Int) (b2 : List Int) : page_writer_size l1 b2 =
   (loop (page_writer_size_loop1 l1) (0, b2)).bind (fun (b14 : (List Int)) =>
    some b14) := (call_eq ..).trans (by kernel_rfl)

theorem page_near_eq (n1 : Int) : page_near n1 =
   (if (decide (n1 ≥ (-100000))) = true then
    some (decide (n1 ≤ 100000))
    else
    some false) := (call_eq ..).trans (by kernel_rfl)

theorem generic_Valid_eq (o1 : Int) (o2 : Int) (o3 : Int) (o4 : Bool) (o5 : Int) : generic_Valid o1 o2 o3 o4 o5 =
   (if 0 ≤ (0 : Int) ∧ (0 : Int) < ((2 : Nat) : Int) then
    (if 0 ≤ (1 : Int) ∧ (1 : Int) < ((2 : Nat) : Int) then
     (if (decide (o1 ≥ 0)) = true then
      (if (decide (o1 ≤ 3)) = true then
       (if (decide (o5 = 0)) = true then
        (if (decide (o2 ≥ (-8))) = true then
         (if (decide (o2 ≤ 8)) = true then
          (if (decide (o3 ≥ (-8))) = true then
           (if (decide (o3 ≤ 0)) = true then
            (if (decide (o3 < 0)) = true then
             some true
             else
             some (decide (o2 < 0)))
            else
            some false)
           else
           some false)
          else
          some false)
         else
         some false)
        else
        (if (decide (o5 = 1)) = true then
         (if (decide (o2 ≥ (-8))) = true then
          (if (decide (o2 ≤ 8)) = true then
           (if (decide (o3 ≥ (-8))) = true then
            (if (decide (o3 ≤ 0)) = true then
             (if (decide (o3 < 0)) = true then
              some true
              else
              some (decide (o2 < 0)))
             else
             some false)
            else
            some false)
           else
           some false)
          else
          some false)
         else
         some false))
       else
       some false)
      else
      some false)
     else
     none)
    else
    none) := (call_eq ..).trans (by kernel_rfl)

noncomputable def bitmap_Valid_loop4 (b3 : List Int) (v7 : Int) : Option ((Int) ⊕ ((Unit) ⊕ (Bool))) :=
   (if (decide (v7 < ((b3.length : Nat) : Int))) = true then
    (if 0 ≤ v7 ∧ v7 < (b3.length : Int) then
     (if (decide (rd b3 v7 > 1)) = true then
      some (Sum.inr (Sum.inr false))
      else
      let t8 : Int := IntKind.i64.wrap (v7 + 1);
      some (Sum.inl t8))
     else
     none)
    else
    some (Sum.inr (Sum.inl ())))
noncomputable def bitmap_Valid_loop4_step (i9 : Nat) (x10 : Int) (s11 : Unit) : Option ((Unit) ⊕ ((Unit) ⊕ (Bool))) :=
   (if (decide (x10 > 1)) = true then
    some (Sum.inr (Sum.inr false))
    else
    some (Sum.inl (())))
theorem bitmap_Valid_loop4_overAt (b3 : List Int) (hl : b3.length ≤ 4611686018427387904) (k : Nat) (s11 : Unit) (hk : k ≤ b3.length) : loop (bitmap_Valid_loop4 b3) (((k : Nat) : Int) : Int) =
    overL (bitmap_Valid_loop4_step) (fun (s11 : Unit) => some (Sum.inl ())) k (b3.drop k) s11 := by
  refine loop_over b3 (fun n (s : Unit) => (((n : Nat) : Int) : Int)) _ _ (fun s => ?_) (fun i x s h => ?_) k s11 hk
  · unfold bitmap_Valid_loop4; simp
  · have hlt := lt_len_of_get h
    have h1 : ((i : Nat) : Int) < ((b3.length : Nat) : Int) := by omega
    have h0 : (0 : Int) ≤ ((i : Nat) : Int) := by omega
    have hw : IntKind.i64.wrap (((i : Nat) : Int) + 1) = (((i + 1 : Nat) : Nat) : Int) := w64 (by omega)
    have hr : rd b3 ((i : Nat) : Int) = x := rd_nat h
    unfold bitmap_Valid_loop4 bitmap_Valid_loop4_step
    simp only [h1, h0, hw, h, hr, decide_true, if_true, and_self, true_and, Int.toNat_natCast, Option.bind_some, Option.map_bind, Function.comp_def, map_ite, map_elim, Option.map_some, Option.map_none]
theorem bitmap_Valid_loop4_over (b3 : List Int) (hl : b3.length ≤ 4611686018427387904) (s11 : Unit) : loop (bitmap_Valid_loop4 b3) (0 : Int) =
    overL (bitmap_Valid_loop4_step) (fun (s11 : Unit) => some (Sum.inl ())) 0 b3 s11 := bitmap_Valid_loop4_overAt b3 hl 0 s11 (Nat.zero_le _)

theorem bitmap_Valid_eq (b1 : Int) (b2 : Int) (b3 : List Int) : bitmap_Valid b1 b2 b3 =
   ((bitmap_fits b1 b2).bind fun (q4 : Bool) =>
    (if (!q4) = true then
     some true
     else
     let t5 : Int := IntKind.i64.wrap (b1 * b2);
     some (!decide (((b3.length : Nat) : Int) = t5))) : Option (Bool)).bind (fun (v6 : Bool) =>
    (if v6 = true then
     some false
     else
     (loop (bitmap_Valid_loop4 b3) 0).bind (fun (o14 : (Unit) ⊕ (Bool)) =>
      (Sum.elim (fun (p12 : Unit) =>
        some true)
       (fun (v13 : Bool) =>
        some v13) o14)))) := (call_eq ..).trans (by kernel_rfl)

theorem generic_contexts_eq (o1 : Int) (o2 : Int) (o3 : Int) (o4 : Bool) (o5 : Int) : generic_contexts o1 o2 o3 o4 o5 =
   (generic_pixels o1).bind fun (q6 : (List Arr2)) =>
   (if ((q6.length : Nat) : Int) < 0 then
    none
    else
    let t7 : Int := ishl .i64 2 ((q6.length : Nat) : Int);
    some t7) := (call_eq ..).trans (by kernel_rfl)

theorem coder_New_eq (kind1 : Int) (n2 : Int) : coder_New kind1 n2 =
   ((if (!decide (kind1 = 0)) = true then
     (if (!decide (kind1 = 1)) = true then
      some true
      else
      (if (decide (n2 < 0)) = true then
       some true
       else
       some (decide (n2 > 8192))))
     else
     (if (decide (n2 < 0)) = true then
      some true
      else
      some (decide (n2 > 8192)))) : Option (Bool)).bind (fun (v3 : Bool) =>
    (if v3 = true then
     some (0, [], 2)
     else
     (if 0 ≤ n2 ∧ n2 ≤ n2 ∧ ((8 : Nat) : Int) * n2 ≤ 281474976710656 then
      let t4 : List Int := List.replicate n2.toNat 0;
      some (kind1, t4, 0)
      else
      none))) := (call_eq ..).trans (by kernel_rfl)

theorem coder_NewEncoder_eq (m1 : Int) (m2 : List Int) : coder_NewEncoder m1 m2 =
   (coder_Valid m1 m2).bind fun (q3 : Bool) =>
   (if (!q3) = true then
    some (Sum.inr ())
    else
    (coder_begin m1 m2).bind fun (q4 : Int × Int × Int × (List Int)) =>
    let tr5 : Int := q4.1;
    let tr6 : Int := q4.2.1;
    let tr7 : Int := q4.2.2.1;
    let tr8 : List Int := q4.2.2.2;
    some (Sum.inl (tr5, tr6, tr7, tr8, []))) := (call_eq ..).trans (by kernel_rfl)

noncomputable def generic_put_loop13 (base1 : Int) (b7 : Int) (b9 : List Int) (skip10 : Int) (skip11 : Int) (skip12 : List Int) (v24 : Int) (s77 : Int × Int × Int × Int × (List Int) × (List Int) × Int × Int × (List Int) × (List Arr2)) : Option ((Int × Int × Int × Int × (List Int) × (List Int) × Int × Int × (List Int) × (List Arr2)) ⊕ (Int × Int × Int × (List Int) × (List Int) × Int × Int × (List Int) × (List Arr2))) :=
   let v78 : Int := s77.1;
   let b79 : Int := s77.2.1;
   let b80 : Int := s77.2.2.1;
   let b81 : Int := s77.2.2.2.1;
   let b82 : List Int := s77.2.2.2.2.1;
   let b83 : List Int := s77.2.2.2.2.2.1;
   let b84 : Int := s77.2.2.2.2.2.2.1;
   let b85 : Int := s77.2.2.2.2.2.2.2.1;
   let b86 : List Int := s77.2.2.2.2.2.2.2.2.1;
   let b87 : List Arr2 := s77.2.2.2.2.2.2.2.2.2;
   (if (decide (v78 < b7)) = true then
    let t88 : Int := IntKind.i64.wrap (v24 * b7);
    let t89 : Int := IntKind.i64.wrap (t88 + v78);
    (generic_skips skip10 skip11 skip12 t89).bind fun (q90 : Bool) =>
    (if (!q90) = true then
     (generic_plane_context v78 v24 b84 b85 b86 b87).bind fun (q91 : Int × Int × Int × (List Int) × (List Arr2)) =>
     let tr92 : Int := q91.1;
     let tr93 : Int := q91.2.1;
     let tr94 : Int := q91.2.2.1;
     let tr95 : List Int := q91.2.2.2.1;
     let tr96 : List Arr2 := q91.2.2.2.2;
     let t97 : Int := IntKind.i64.wrap (base1 + tr92);
     (if 0 ≤ t89 ∧ t89 < (b9.length : Int) then
      let t98 : Int := IntKind.i64.wrap (rd b9 t89);
      (coder_Encoder_Put t97 t98 b79 b80 b81 b82 b83).bind fun (q99 : Int × Int × Int × Int × (List Int) × (List Int)) =>
      let tr100 : Int := q99.1;
      let tr101 : Int := q99.2.1;
      let tr102 : Int := q99.2.2.1;
      let tr103 : Int := q99.2.2.2.1;
      let tr104 : List Int := q99.2.2.2.2.1;
      let tr105 : List Int := q99.2.2.2.2.2;
      let t106 : Int := IntKind.i64.wrap (v78 + 1);
      some (Sum.inl (t106, tr101, tr102, tr103, tr104, tr105, tr93, tr94, tr95, tr96))
      else
      none)
     else
     let t107 : Int := IntKind.i64.wrap (v78 + 1);
     some (Sum.inl (t107, b79, b80, b81, b82, b83, b84, b85, b86, b87)))
    else
    some (Sum.inr (b79, b80, b81, b82, b83, b84, b85, b86, b87)))
noncomputable def generic_put_loop13_step (base1 : Int) (b7 : Int) (b9 : List Int) (skip10 : Int) (skip11 : Int) (skip12 : List Int) (v24 : Int) (i108 : Nat) (x109 : Nat) (s110 : Int × Int × Int × (List Int) × (List Int) × Int × Int × (List Int) × (List Arr2)) : Option ((Int × Int × Int × (List Int) × (List Int) × Int × Int × (List Int) × (List Arr2)) ⊕ (Int × Int × Int × (List Int) × (List Int) × Int × Int × (List Int) × (List Arr2))) :=
   let b111 : Int := s110.1;
   let b112 : Int := s110.2.1;
   let b113 : Int := s110.2.2.1;
   let b114 : List Int := s110.2.2.2.1;
   let b115 : List Int := s110.2.2.2.2.1;
   let b116 : Int := s110.2.2.2.2.2.1;
   let b117 : Int := s110.2.2.2.2.2.2.1;
   let b118 : List Int := s110.2.2.2.2.2.2.2.1;
   let b119 : List Arr2 := s110.2.2.2.2.2.2.2.2;
   let t88 : Int := IntKind.i64.wrap (v24 * b7);
   let t89 : Int := IntKind.i64.wrap (t88 + ((i108 : Nat) : Int));
   (generic_skips skip10 skip11 skip12 t89).bind fun (q90 : Bool) =>
   (if (!q90) = true then
    (generic_plane_context ((i108 : Nat) : Int) v24 b116 b117 b118 b119).bind fun (q91 : Int × Int × Int × (List Int) × (List Arr2)) =>
    let tr92 : Int := q91.1;
    let tr93 : Int := q91.2.1;
    let tr94 : Int := q91.2.2.1;
    let tr95 : List Int := q91.2.2.2.1;
    let tr96 : List Arr2 := q91.2.2.2.2;
    let t97 : Int := IntKind.i64.wrap (base1 + tr92);
    (if 0 ≤ t89 ∧ t89 < (b9.length : Int) then
     let t98 : Int := IntKind.i64.wrap (rd b9 t89);
     (coder_Encoder_Put t97 t98 b111 b112 b113 b114 b115).bind fun (q99 : Int × Int × Int × Int × (List Int) × (List Int)) =>
     let tr100 : Int := q99.1;
     let tr101 : Int := q99.2.1;
     let tr102 : Int := q99.2.2.1;
     let tr103 : Int := q99.2.2.2.1;
     let tr104 : List Int := q99.2.2.2.2.1;
     let tr105 : List Int := q99.2.2.2.2.2;
     some (Sum.inl ((tr101, tr102, tr103, tr104, tr105, tr93, tr94, tr95, tr96)))
     else
     none)
    else
    some (Sum.inl ((b111, b112, b113, b114, b115, b116, b117, b118, b119))))
theorem generic_put_loop13_overAt (base1 : Int) (b7 : Int) (b9 : List Int) (skip10 : Int) (skip11 : Int) (skip12 : List Int) (v24 : Int) (hl : (List.range (b7).toNat).length ≤ 4611686018427387904) (k : Nat) (s110 : Int × Int × Int × (List Int) × (List Int) × Int × Int × (List Int) × (List Arr2)) (hk : k ≤ (List.range (b7).toNat).length) : loop (generic_put_loop13 base1 b7 b9 skip10 skip11 skip12 v24) ((((k : Nat) : Int), s110.1, s110.2.1, s110.2.2.1, s110.2.2.2.1, s110.2.2.2.2.1, s110.2.2.2.2.2.1, s110.2.2.2.2.2.2.1, s110.2.2.2.2.2.2.2.1, s110.2.2.2.2.2.2.2.2) : Int × Int × Int × Int × (List Int) × (List Int) × Int × Int × (List Int) × (List Arr2)) =
    overL (generic_put_loop13_step base1 b7 b9 skip10 skip11 skip12 v24) (fun (s110 : Int × Int × Int × (List Int) × (List Int) × Int × Int × (List Int) × (List Arr2)) => let b111 : Int := s110.1; let b112 : Int := s110.2.1; let b113 : Int := s110.2.2.1; let b114 : List Int := s110.2.2.2.1; let b115 : List Int := s110.2.2.2.2.1; let b116 : Int := s110.2.2.2.2.2.1; let b117 : Int := s110.2.2.2.2.2.2.1; let b118 : List Int := s110.2.2.2.2.2.2.2.1; let b119 : List Arr2 := s110.2.2.2.2.2.2.2.2; some (b111, b112, b113, b114, b115, b116, b117, b118, b119)) k ((List.range (b7).toNat).drop k) s110 := by
  refine loop_over (List.range (b7).toNat) (fun n (s : Int × Int × Int × (List Int) × (List Int) × Int × Int × (List Int) × (List Arr2)) => ((((n : Nat) : Int), s.1, s.2.1, s.2.2.1, s.2.2.2.1, s.2.2.2.2.1, s.2.2.2.2.2.1, s.2.2.2.2.2.2.1, s.2.2.2.2.2.2.2.1, s.2.2.2.2.2.2.2.2) : Int × Int × Int × Int × (List Int) × (List Int) × Int × Int × (List Int) × (List Arr2))) _ _ (fun s => ?_) (fun i x s h => ?_) k s110 hk
  · have h1 : ¬ (((List.range (b7).toNat).length : Nat) : Int) < b7 := by simp only [List.length_range]; omega
    unfold generic_put_loop13; simp only [h1, decide_false, Bool.false_eq_true, if_false, Option.map_some]
  · have hlt := lt_len_of_get h
    rw [List.length_range] at hlt hl
    rw [List.getElem?_range hlt] at h
    cases h
    have h1 : ((i : Nat) : Int) < b7 := by omega
    have h0 : (0 : Int) ≤ ((i : Nat) : Int) := by omega
    have hw : IntKind.i64.wrap (((i : Nat) : Int) + 1) = (((i + 1 : Nat) : Nat) : Int) := w64 (by omega)
    unfold generic_put_loop13 generic_put_loop13_step
    simp only [h1, h0, hw, decide_true, if_true, and_self, true_and, Int.toNat_natCast, Option.bind_some, Option.map_bind, Function.comp_def, map_ite, map_elim, Option.map_some, Option.map_none]
theorem generic_put_loop13_over (base1 : Int) (b7 : Int) (b9 : List Int) (skip10 : Int) (skip11 : Int) (skip12 : List Int) (v24 : Int) (hl : (List.range (b7).toNat).length ≤ 4611686018427387904) (s110 : Int × Int × Int × (List Int) × (List Int) × Int × Int × (List Int) × (List Arr2)) : loop (generic_put_loop13 base1 b7 b9 skip10 skip11 skip12 v24) ((0, s110.1, s110.2.1, s110.2.2.1, s110.2.2.2.1, s110.2.2.2.2.1, s110.2.2.2.2.2.1, s110.2.2.2.2.2.2.1, s110.2.2.2.2.2.2.2.1, s110.2.2.2.2.2.2.2.2) : Int × Int × Int × Int × (List Int) × (List Int) × Int × Int × (List Int) × (List Arr2)) =
    overL (generic_put_loop13_step base1 b7 b9 skip10 skip11 skip12 v24) (fun (s110 : Int × Int × Int × (List Int) × (List Int) × Int × Int × (List Int) × (List Arr2)) => let b111 : Int := s110.1; let b112 : Int := s110.2.1; let b113 : Int := s110.2.2.1; let b114 : List Int := s110.2.2.2.1; let b115 : List Int := s110.2.2.2.2.1; let b116 : Int := s110.2.2.2.2.2.1; let b117 : Int := s110.2.2.2.2.2.2.1; let b118 : List Int := s110.2.2.2.2.2.2.2.1; let b119 : List Arr2 := s110.2.2.2.2.2.2.2.2; some (b111, b112, b113, b114, b115, b116, b117, b118, b119)) 0 (List.range (b7).toNat) s110 := generic_put_loop13_overAt base1 b7 b9 skip10 skip11 skip12 v24 hl 0 s110 (Nat.zero_le _)

noncomputable def generic_put_loop4 (base1 : Int) (o2 : Int) (o3 : Int) (o4 : Int) (o5 : Bool) (o6 : Int) (b7 : Int) (b8 : Int) (b9 : List Int) (skip10 : Int) (skip11 : Int) (skip12 : List Int) (s23 : Int × Int × Int × Int × (List Int) × (List Int) × Int × Int × (List Int) × (List Arr2)) : Option ((Int × Int × Int × Int × (List Int) × (List Int) × Int × Int × (List Int) × (List Arr2)) ⊕ (Int × Int × Int × (List Int) × (List Int) × Int × Int × (List Int) × (List Arr2))) :=
   let v24 : Int := s23.1;
   let b25 : Int := s23.2.1;
   let b26 : Int := s23.2.2.1;
   let b27 : Int := s23.2.2.2.1;
   let b28 : List Int := s23.2.2.2.2.1;
   let b29 : List Int := s23.2.2.2.2.2.1;
   let b30 : Int := s23.2.2.2.2.2.2.1;
   let b31 : Int := s23.2.2.2.2.2.2.2.1;
   let b32 : List Int := s23.2.2.2.2.2.2.2.2.1;
   let b33 : List Arr2 := s23.2.2.2.2.2.2.2.2.2;
   (if (decide (v24 < b8)) = true then
    ((if o5 = true then
      (generic_plane_above v24 skip10 skip11 skip12 b30 b31 b32 b33).bind fun (q34 : (List Int) × Int × Int × (List Int) × (List Arr2)) =>
      let tr35 : List Int := q34.1;
      let tr36 : Int := q34.2.1;
      let tr37 : Int := q34.2.2.1;
      let tr38 : List Int := q34.2.2.2.1;
      let tr39 : List Arr2 := q34.2.2.2.2;
      let t40 : Int := IntKind.i64.wrap (v24 * b7);
      let t41 : Int := IntKind.i64.wrap (v24 + 1);
      let t42 : Int := IntKind.i64.wrap (t41 * b7);
      (if 0 ≤ t42 ∧ t42 ≤ ((b9.length : Nat) : Int) then
       (if 0 ≤ t40 ∧ t40 ≤ t42 then
        let t43 : List Int := cutL b9 t40.toNat t42.toNat;
        (bytes_Equal tr35 t43).bind fun (q44 : Bool) =>
        ((if q44 = true then
          some 1
          else
          some 0) : Option (Int)).bind (fun (bit45 : Int) =>
         (generic_contexts o2 o3 o4 o5 o6).bind fun (q46 : Int) =>
         let t47 : Int := IntKind.i64.wrap (base1 + q46);
         (coder_Encoder_Put t47 bit45 b25 b26 b27 b28 b29).bind fun (q48 : Int × Int × Int × Int × (List Int) × (List Int)) =>
         let tr49 : Int := q48.1;
         let tr50 : Int := q48.2.1;
         let tr51 : Int := q48.2.2.1;
         let tr52 : Int := q48.2.2.2.1;
         let tr53 : List Int := q48.2.2.2.2.1;
         let tr54 : List Int := q48.2.2.2.2.2;
         (if (decide (bit45 = 1)) = true then
          some (Sum.inr (tr50, tr51, tr52, tr53, tr54, tr36, tr37, tr38, tr39))
          else
          some (Sum.inl (tr50, tr51, tr52, tr53, tr54, tr36, tr37, tr38, tr39))))
        else
        none)
       else
       none)
      else
      some (Sum.inl (b25, b26, b27, b28, b29, b30, b31, b32, b33))) : Option ((Int × Int × Int × (List Int) × (List Int) × Int × Int × (List Int) × (List Arr2)) ⊕ (Int × Int × Int × (List Int) × (List Int) × Int × Int × (List Int) × (List Arr2)))).bind (fun (o76 : (Int × Int × Int × (List Int) × (List Int) × Int × Int × (List Int) × (List Arr2)) ⊕ (Int × Int × Int × (List Int) × (List Int) × Int × Int × (List Int) × (List Arr2))) =>
     (Sum.elim (fun (p55 : Int × Int × Int × (List Int) × (List Int) × Int × Int × (List Int) × (List Arr2)) =>
       let b56 : Int := p55.1;
       let b57 : Int := p55.2.1;
       let b58 : Int := p55.2.2.1;
       let b59 : List Int := p55.2.2.2.1;
       let b60 : List Int := p55.2.2.2.2.1;
       let b61 : Int := p55.2.2.2.2.2.1;
       let b62 : Int := p55.2.2.2.2.2.2.1;
       let b63 : List Int := p55.2.2.2.2.2.2.2.1;
       let b64 : List Arr2 := p55.2.2.2.2.2.2.2.2;
       (loop (generic_put_loop13 base1 b7 b9 skip10 skip11 skip12 v24) (0, b56, b57, b58, b59, b60, b61, b62, b63, b64)).bind (fun (p120 : Int × Int × Int × (List Int) × (List Int) × Int × Int × (List Int) × (List Arr2)) =>
        let b121 : Int := p120.1;
        let b122 : Int := p120.2.1;
        let b123 : Int := p120.2.2.1;
        let b124 : List Int := p120.2.2.2.1;
        let b125 : List Int := p120.2.2.2.2.1;
        let b126 : Int := p120.2.2.2.2.2.1;
        let b127 : Int := p120.2.2.2.2.2.2.1;
        let b128 : List Int := p120.2.2.2.2.2.2.2.1;
        let b129 : List Arr2 := p120.2.2.2.2.2.2.2.2;
        let t130 : Int := IntKind.i64.wrap (v24 + 1);
        some (Sum.inl (t130, b121, b122, b123, b124, b125, b126, b127, b128, b129))))
      (fun (p65 : Int × Int × Int × (List Int) × (List Int) × Int × Int × (List Int) × (List Arr2)) =>
       let b66 : Int := p65.1;
       let b67 : Int := p65.2.1;
       let b68 : Int := p65.2.2.1;
       let b69 : List Int := p65.2.2.2.1;
       let b70 : List Int := p65.2.2.2.2.1;
       let b71 : Int := p65.2.2.2.2.2.1;
       let b72 : Int := p65.2.2.2.2.2.2.1;
       let b73 : List Int := p65.2.2.2.2.2.2.2.1;
       let b74 : List Arr2 := p65.2.2.2.2.2.2.2.2;
       let t75 : Int := IntKind.i64.wrap (v24 + 1);
       some (Sum.inl (t75, b66, b67, b68, b69, b70, b71, b72, b73, b74))) o76))
    else
    some (Sum.inr (b25, b26, b27, b28, b29, b30, b31, b32, b33)))
noncomputable def generic_put_loop4_step (base1 : Int) (o2 : Int) (o3 : Int) (o4 : Int) (o5 : Bool) (o6 : Int) (b7 : Int) (b9 : List Int) (skip10 : Int) (skip11 : Int) (skip12 : List Int) (i131 : Nat) (x132 : Nat) (s133 : Int × Int × Int × (List Int) × (List Int) × Int × Int × (List Int) × (List Arr2)) : Option ((Int × Int × Int × (List Int) × (List Int) × Int × Int × (List Int) × (List Arr2)) ⊕ (Int × Int × Int × (List Int) × (List Int) × Int × Int × (List Int) × (List Arr2))) :=
   let b134 : Int := s133.1;
   let b135 : Int := s133.2.1;
   let b136 : Int := s133.2.2.1;
   let b137 : List Int := s133.2.2.2.1;
   let b138 : List Int := s133.2.2.2.2.1;
   let b139 : Int := s133.2.2.2.2.2.1;
   let b140 : Int := s133.2.2.2.2.2.2.1;
   let b141 : List Int := s133.2.2.2.2.2.2.2.1;
   let b142 : List Arr2 := s133.2.2.2.2.2.2.2.2;
   ((if o5 = true then
     (generic_plane_above ((i131 : Nat) : Int) skip10 skip11 skip12 b139 b140 b141 b142).bind fun (q34 : (List Int) × Int × Int × (List Int) × (List Arr2)) =>
     let tr35 : List Int := q34.1;
     let tr36 : Int := q34.2.1;
     let tr37 : Int := q34.2.2.1;
     let tr38 : List Int := q34.2.2.2.1;
     let tr39 : List Arr2 := q34.2.2.2.2;
     let t40 : Int := IntKind.i64.wrap (((i131 : Nat) : Int) * b7);
     let t41 : Int := IntKind.i64.wrap (((i131 : Nat) : Int) + 1);
     let t42 : Int := IntKind.i64.wrap (t41 * b7);
     (if 0 ≤ t42 ∧ t42 ≤ ((b9.length : Nat) : Int) then
      (if 0 ≤ t40 ∧ t40 ≤ t42 then
       let t43 : List Int := cutL b9 t40.toNat t42.toNat;
       (bytes_Equal tr35 t43).bind fun (q44 : Bool) =>
       ((if q44 = true then
         some 1
         else
         some 0) : Option (Int)).bind (fun (bit45 : Int) =>
        (generic_contexts o2 o3 o4 o5 o6).bind fun (q46 : Int) =>
        let t47 : Int := IntKind.i64.wrap (base1 + q46);
        (coder_Encoder_Put t47 bit45 b134 b135 b136 b137 b138).bind fun (q48 : Int × Int × Int × Int × (List Int) × (List Int)) =>
        let tr49 : Int := q48.1;
        let tr50 : Int := q48.2.1;
        let tr51 : Int := q48.2.2.1;
        let tr52 : Int := q48.2.2.2.1;
        let tr53 : List Int := q48.2.2.2.2.1;
        let tr54 : List Int := q48.2.2.2.2.2;
        (if (decide (bit45 = 1)) = true then
         some (Sum.inr (tr50, tr51, tr52, tr53, tr54, tr36, tr37, tr38, tr39))
         else
         some (Sum.inl (tr50, tr51, tr52, tr53, tr54, tr36, tr37, tr38, tr39))))
       else
       none)
      else
      none)
     else
     some (Sum.inl (b134, b135, b136, b137, b138, b139, b140, b141, b142))) : Option ((Int × Int × Int × (List Int) × (List Int) × Int × Int × (List Int) × (List Arr2)) ⊕ (Int × Int × Int × (List Int) × (List Int) × Int × Int × (List Int) × (List Arr2)))).bind (fun (o76 : (Int × Int × Int × (List Int) × (List Int) × Int × Int × (List Int) × (List Arr2)) ⊕ (Int × Int × Int × (List Int) × (List Int) × Int × Int × (List Int) × (List Arr2))) =>
    (Sum.elim (fun (p55 : Int × Int × Int × (List Int) × (List Int) × Int × Int × (List Int) × (List Arr2)) =>
      let b56 : Int := p55.1;
      let b57 : Int := p55.2.1;
      let b58 : Int := p55.2.2.1;
      let b59 : List Int := p55.2.2.2.1;
      let b60 : List Int := p55.2.2.2.2.1;
      let b61 : Int := p55.2.2.2.2.2.1;
      let b62 : Int := p55.2.2.2.2.2.2.1;
      let b63 : List Int := p55.2.2.2.2.2.2.2.1;
      let b64 : List Arr2 := p55.2.2.2.2.2.2.2.2;
      (loop (generic_put_loop13 base1 b7 b9 skip10 skip11 skip12 ((i131 : Nat) : Int)) (0, b56, b57, b58, b59, b60, b61, b62, b63, b64)).bind (fun (p120 : Int × Int × Int × (List Int) × (List Int) × Int × Int × (List Int) × (List Arr2)) =>
       let b121 : Int := p120.1;
       let b122 : Int := p120.2.1;
       let b123 : Int := p120.2.2.1;
       let b124 : List Int := p120.2.2.2.1;
       let b125 : List Int := p120.2.2.2.2.1;
       let b126 : Int := p120.2.2.2.2.2.1;
       let b127 : Int := p120.2.2.2.2.2.2.1;
       let b128 : List Int := p120.2.2.2.2.2.2.2.1;
       let b129 : List Arr2 := p120.2.2.2.2.2.2.2.2;
       some (Sum.inl ((b121, b122, b123, b124, b125, b126, b127, b128, b129)))))
     (fun (p65 : Int × Int × Int × (List Int) × (List Int) × Int × Int × (List Int) × (List Arr2)) =>
      let b66 : Int := p65.1;
      let b67 : Int := p65.2.1;
      let b68 : Int := p65.2.2.1;
      let b69 : List Int := p65.2.2.2.1;
      let b70 : List Int := p65.2.2.2.2.1;
      let b71 : Int := p65.2.2.2.2.2.1;
      let b72 : Int := p65.2.2.2.2.2.2.1;
      let b73 : List Int := p65.2.2.2.2.2.2.2.1;
      let b74 : List Arr2 := p65.2.2.2.2.2.2.2.2;
      some (Sum.inl ((b66, b67, b68, b69, b70, b71, b72, b73, b74)))) o76))
theorem generic_put_loop4_overAt (base1 : Int) (o2 : Int) (o3 : Int) (o4 : Int) (o5 : Bool) (o6 : Int) (b7 : Int) (b8 : Int) (b9 : List Int) (skip10 : Int) (skip11 : Int) (skip12 : List Int) (hl : (List.range (b8).toNat).length ≤ 4611686018427387904) (k : Nat) (s133 : Int × Int × Int × (List Int) × (List Int) × Int × Int × (List Int) × (List Arr2)) (hk : k ≤ (List.range (b8).toNat).length) : loop (generic_put_loop4 base1 o2 o3 o4 o5 o6 b7 b8 b9 skip10 skip11 skip12) ((((k : Nat) : Int), s133.1, s133.2.1, s133.2.2.1, s133.2.2.2.1, s133.2.2.2.2.1, s133.2.2.2.2.2.1, s133.2.2.2.2.2.2.1, s133.2.2.2.2.2.2.2.1, s133.2.2.2.2.2.2.2.2) : Int × Int × Int × Int × (List Int) × (List Int) × Int × Int × (List Int) × (List Arr2)) =
    overL (generic_put_loop4_step base1 o2 o3 o4 o5 o6 b7 b9 skip10 skip11 skip12) (fun (s133 : Int × Int × Int × (List Int) × (List Int) × Int × Int × (List Int) × (List Arr2)) => let b134 : Int := s133.1; let b135 : Int := s133.2.1; let b136 : Int := s133.2.2.1; let b137 : List Int := s133.2.2.2.1; let b138 : List Int := s133.2.2.2.2.1; let b139 : Int := s133.2.2.2.2.2.1; let b140 : Int := s133.2.2.2.2.2.2.1; let b141 : List Int := s133.2.2.2.2.2.2.2.1; let b142 : List Arr2 := s133.2.2.2.2.2.2.2.2; some (b134, b135, b136, b137, b138, b139, b140, b141, b142)) k ((List.range (b8).toNat).drop k) s133 := by
  refine loop_over (List.range (b8).toNat) (fun n (s : Int × Int × Int × (List Int) × (List Int) × Int × Int × (List Int) × (List Arr2)) => ((((n : Nat) : Int), s.1, s.2.1, s.2.2.1, s.2.2.2.1, s.2.2.2.2.1, s.2.2.2.2.2.1, s.2.2.2.2.2.2.1, s.2.2.2.2.2.2.2.1, s.2.2.2.2.2.2.2.2) : Int × Int × Int × Int × (List Int) × (List Int) × Int × Int × (List Int) × (List Arr2))) _ _ (fun s => ?_) (fun i x s h => ?_) k s133 hk
  · have h1 : ¬ (((List.range (b8).toNat).length : Nat) : Int) < b8 := by simp only [List.length_range]; omega
    unfold generic_put_loop4; simp only [h1, decide_false, Bool.false_eq_true, if_false, Option.map_some]
  · have hlt := lt_len_of_get h
    rw [List.length_range] at hlt hl
    rw [List.getElem?_range hlt] at h
    cases h
    have h1 : ((i : Nat) : Int) < b8 := by omega
    have h0 : (0 : Int) ≤ ((i : Nat) : Int) := by omega
    have hw : IntKind.i64.wrap (((i : Nat) : Int) + 1) = (((i + 1 : Nat) : Nat) : Int) := w64 (by omega)
    unfold generic_put_loop4 generic_put_loop4_step
    simp only [h1, h0, hw, decide_true, if_true, and_self, true_and, Int.toNat_natCast, Option.bind_some, Option.map_bind, Function.comp_def, map_ite, map_elim, Option.map_some, Option.map_none]
theorem generic_put_loop4_over (base1 : Int) (o2 : Int) (o3 : Int) (o4 : Int) (o5 : Bool) (o6 : Int) (b7 : Int) (b8 : Int) (b9 : List Int) (skip10 : Int) (skip11 : Int) (skip12 : List Int) (hl : (List.range (b8).toNat).length ≤ 4611686018427387904) (s133 : Int × Int × Int × (List Int) × (List Int) × Int × Int × (List Int) × (List Arr2)) : loop (generic_put_loop4 base1 o2 o3 o4 o5 o6 b7 b8 b9 skip10 skip11 skip12) ((0, s133.1, s133.2.1, s133.2.2.1, s133.2.2.2.1, s133.2.2.2.2.1, s133.2.2.2.2.2.1, s133.2.2.2.2.2.2.1, s133.2.2.2.2.2.2.2.1, s133.2.2.2.2.2.2.2.2) : Int × Int × Int × Int × (List Int) × (List Int) × Int × Int × (List Int) × (List Arr2)) =
    overL (generic_put_loop4_step base1 o2 o3 o4 o5 o6 b7 b9 skip10 skip11 skip12) (fun (s133 : Int × Int × Int × (List Int) × (List Int) × Int × Int × (List Int) × (List Arr2)) => let b134 : Int := s133.1; let b135 : Int := s133.2.1; let b136 : Int := s133.2.2.1; let b137 : List Int := s133.2.2.2.1; let b138 : List Int := s133.2.2.2.2.1; let b139 : Int := s133.2.2.2.2.2.1; let b140 : Int := s133.2.2.2.2.2.2.1; let b141 : List Int := s133.2.2.2.2.2.2.2.1; let b142 : List Arr2 := s133.2.2.2.2.2.2.2.2; some (b134, b135, b136, b137, b138, b139, b140, b141, b142)) 0 (List.range (b8).toNat) s133 := generic_put_loop4_overAt base1 o2 o3 o4 o5 o6 b7 b8 b9 skip10 skip11 skip12 hl 0 s133 (Nat.zero_le _)

theorem generic_put_eq (base1 : Int) (o2 : Int) (o3 : Int) (o4 : Int) (o5 : Bool) (o6 : Int) (b7 : Int) (b8 : Int) (b9 : List Int) (skip10 : Int) (skip11 : Int) (skip12 : List Int) (b13 : Int) (b14 : Int) (b15 : Int) (b16 : List Int) (b17 : List Int) : generic_put base1 o2 o3 o4 o5 o6 b7 b8 b9 skip10 skip11 skip12 b13 b14 b15 b16 b17 =
   (generic_newPlane o2 o3 o4 o5 o6 b7 b8).bind fun (q18 : Int × Int × (List Int) × (List Arr2)) =>
   let tr19 : Int := q18.1;
   let tr20 : Int := q18.2.1;
   let tr21 : List Int := q18.2.2.1;
   let tr22 : List Arr2 := q18.2.2.2;
   (loop (generic_put_loop4 base1 o2 o3 o4 o5 o6 b7 b8 b9 skip10 skip11 skip12) (0, b13, b14, b15, b16, b17, tr19, tr20, b9, tr22)).bind (fun (p143 : Int × Int × Int × (List Int) × (List Int) × Int × Int × (List Int) × (List Arr2)) =>
    let b144 : Int := p143.1;
    let b145 : Int := p143.2.1;
    let b146 : Int := p143.2.2.1;
    let b147 : List Int := p143.2.2.2.1;
    let b148 : List Int := p143.2.2.2.2.1;
    let b149 : Int := p143.2.2.2.2.2.1;
    let b150 : Int := p143.2.2.2.2.2.2.1;
    let b151 : List Int := p143.2.2.2.2.2.2.2.1;
    let b152 : List Arr2 := p143.2.2.2.2.2.2.2.2;
    some (b144, b145, b146, b147, b148)) := (call_eq ..).trans (by kernel_rfl)

noncomputable def coder_Encoder_End_loop10 (tr10 : Int) (v15 : Int) (s22 : Int × (List Int)) : Option ((Int × (List Int)) ⊕ ((List Int))) :=
   let v23 : Int := s22.1;
   let out24 : List Int := s22.2;
   (if (decide (v23 < v15)) = true then
    let t25 : Int := IntKind.i64.wrap (8 * v23);
    let t26 : Int := IntKind.i64.wrap (24 - t25);
    (if t26 < 0 then
     none
     else
     let t27 : Int := ishr .u64 tr10 t26;
     let t28 : Int := IntKind.u8.wrap t27;
     (if (out24.length + ([t28] : List Int).length) * 1 ≤ 140737488355328 then
      let t29 : List Int := out24 ++ [t28];
      let t30 : Int := IntKind.i64.wrap (v23 + 1);
      some (Sum.inl (t30, t29))
      else
      none))
    else
    some (Sum.inr out24))
noncomputable def coder_Encoder_End_loop10_step (tr10 : Int) (i31 : Nat) (x32 : Nat) (s33 : (List Int)) : Option (((List Int)) ⊕ ((List Int))) :=
   let t25 : Int := IntKind.i64.wrap (8 * ((i31 : Nat) : Int));
   let t26 : Int := IntKind.i64.wrap (24 - t25);
   (if t26 < 0 then
    none
    else
    let t27 : Int := ishr .u64 tr10 t26;
    let t28 : Int := IntKind.u8.wrap t27;
    (if (s33.length + ([t28] : List Int).length) * 1 ≤ 140737488355328 then
     let t29 : List Int := s33 ++ [t28];
     some (Sum.inl (t29))
     else
     none))
theorem coder_Encoder_End_loop10_overAt (tr10 : Int) (v15 : Int) (hl : (List.range (v15).toNat).length ≤ 4611686018427387904) (k : Nat) (s33 : (List Int)) (hk : k ≤ (List.range (v15).toNat).length) : loop (coder_Encoder_End_loop10 tr10 v15) ((((k : Nat) : Int), s33) : Int × (List Int)) =
    overL (coder_Encoder_End_loop10_step tr10) (fun (s33 : (List Int)) => some s33) k ((List.range (v15).toNat).drop k) s33 := by
  refine loop_over (List.range (v15).toNat) (fun n (s : (List Int)) => ((((n : Nat) : Int), s) : Int × (List Int))) _ _ (fun s => ?_) (fun i x s h => ?_) k s33 hk
  · have h1 : ¬ (((List.range (v15).toNat).length : Nat) : Int) < v15 := by simp only [List.length_range]; omega
    unfold coder_Encoder_End_loop10; simp only [h1, decide_false, Bool.false_eq_true, if_false, Option.map_some]
  · have hlt := lt_len_of_get h
    rw [List.length_range] at hlt hl
    rw [List.getElem?_range hlt] at h
    cases h
    have h1 : ((i : Nat) : Int) < v15 := by omega
    have h0 : (0 : Int) ≤ ((i : Nat) : Int) := by omega
    have hw : IntKind.i64.wrap (((i : Nat) : Int) + 1) = (((i + 1 : Nat) : Nat) : Int) := w64 (by omega)
    unfold coder_Encoder_End_loop10 coder_Encoder_End_loop10_step
    simp only [h1, h0, hw, decide_true, if_true, and_self, true_and, Int.toNat_natCast, Option.bind_some, Option.map_bind, Function.comp_def, map_ite, map_elim, Option.map_some, Option.map_none]
theorem coder_Encoder_End_loop10_over (tr10 : Int) (v15 : Int) (hl : (List.range (v15).toNat).length ≤ 4611686018427387904) (s33 : (List Int)) : loop (coder_Encoder_End_loop10 tr10 v15) ((0, s33) : Int × (List Int)) =
    overL (coder_Encoder_End_loop10_step tr10) (fun (s33 : (List Int)) => some s33) 0 (List.range (v15).toNat) s33 := coder_Encoder_End_loop10_overAt tr10 v15 hl 0 s33 (Nat.zero_le _)

noncomputable def coder_Encoder_End_loop5 (tr9 : Int) (tr10 : Int) (s14 : Int × (List Int)) : Option ((Int × (List Int)) ⊕ (((List Int)) ⊕ ((List Int)))) :=
   let v15 : Int := s14.1;
   let out16 : List Int := s14.2;
   (if (decide (v15 < 5)) = true then
    let t17 : Int := IntKind.i64.wrap (8 * v15);
    let t18 : Int := IntKind.i64.wrap (32 - t17);
    let t19 : Int := IntKind.u64.wrap t18;
    (if t19 < 0 then
     none
     else
     let t20 : Int := ishr .u64 tr10 t19;
     (if t19 < 0 then
      none
      else
      let t21 : Int := ishl .u64 t20 t19;
      (if (decide (t21 ≥ tr9)) = true then
       (loop (coder_Encoder_End_loop10 tr10 v15) (0, out16)).bind (fun (out34 : (List Int)) =>
        some (Sum.inr (Sum.inr out34)))
       else
       let t35 : Int := IntKind.i64.wrap (v15 + 1);
       some (Sum.inl (t35, out16)))))
    else
    some (Sum.inr (Sum.inl out16)))
noncomputable def coder_Encoder_End_loop5_step (tr9 : Int) (tr10 : Int) (i36 : Nat) (x37 : Nat) (s38 : (List Int)) : Option (((List Int)) ⊕ (((List Int)) ⊕ ((List Int)))) :=
   let t17 : Int := IntKind.i64.wrap (8 * ((i36 : Nat) : Int));
   let t18 : Int := IntKind.i64.wrap (32 - t17);
   let t19 : Int := IntKind.u64.wrap t18;
   (if t19 < 0 then
    none
    else
    let t20 : Int := ishr .u64 tr10 t19;
    (if t19 < 0 then
     none
     else
     let t21 : Int := ishl .u64 t20 t19;
     (if (decide (t21 ≥ tr9)) = true then
      (loop (coder_Encoder_End_loop10 tr10 ((i36 : Nat) : Int)) (0, s38)).bind (fun (out34 : (List Int)) =>
       some (Sum.inr (Sum.inr out34)))
      else
      some (Sum.inl (s38)))))
theorem coder_Encoder_End_loop5_overAt (tr9 : Int) (tr10 : Int) (hl : (List.range 5).length ≤ 4611686018427387904) (k : Nat) (s38 : (List Int)) (hk : k ≤ (List.range 5).length) : loop (coder_Encoder_End_loop5 tr9 tr10) ((((k : Nat) : Int), s38) : Int × (List Int)) =
    overL (coder_Encoder_End_loop5_step tr9 tr10) (fun (s38 : (List Int)) => some (Sum.inl s38)) k ((List.range 5).drop k) s38 := by
  refine loop_over (List.range 5) (fun n (s : (List Int)) => ((((n : Nat) : Int), s) : Int × (List Int))) _ _ (fun s => ?_) (fun i x s h => ?_) k s38 hk
  · have h1 : ¬ (((List.range 5).length : Nat) : Int) < 5 := by simp only [List.length_range]; omega
    unfold coder_Encoder_End_loop5; simp only [h1, decide_false, Bool.false_eq_true, if_false, Option.map_some]
  · have hlt := lt_len_of_get h
    rw [List.length_range] at hlt hl
    rw [List.getElem?_range hlt] at h
    cases h
    have h1 : ((i : Nat) : Int) < 5 := by omega
    have h0 : (0 : Int) ≤ ((i : Nat) : Int) := by omega
    have hw : IntKind.i64.wrap (((i : Nat) : Int) + 1) = (((i + 1 : Nat) : Nat) : Int) := w64 (by omega)
    unfold coder_Encoder_End_loop5 coder_Encoder_End_loop5_step
    simp only [h1, h0, hw, decide_true, if_true, and_self, true_and, Int.toNat_natCast, Option.bind_some, Option.map_bind, Function.comp_def, map_ite, map_elim, Option.map_some, Option.map_none]
theorem coder_Encoder_End_loop5_over (tr9 : Int) (tr10 : Int) (hl : (List.range 5).length ≤ 4611686018427387904) (s38 : (List Int)) : loop (coder_Encoder_End_loop5 tr9 tr10) ((0, s38) : Int × (List Int)) =
    overL (coder_Encoder_End_loop5_step tr9 tr10) (fun (s38 : (List Int)) => some (Sum.inl s38)) 0 (List.range 5) s38 := coder_Encoder_End_loop5_overAt tr9 tr10 hl 0 s38 (Nat.zero_le _)

theorem coder_Encoder_End_eq (b1 : Int) (b2 : Int) (b3 : Int) (b4 : List Int) (b5 : List Int) : coder_Encoder_End b1 b2 b3 b4 b5 =
   (coder_Encoder_none b1 b2 b3 b4 b5).bind fun (q6 : Bool × Int × Int × Int × (List Int) × (List Int)) =>
   let tr7 : Bool := q6.1;
   let tr8 : Int := q6.2.1;
   let tr9 : Int := q6.2.2.1;
   let tr10 : Int := q6.2.2.2.1;
   let tr11 : List Int := q6.2.2.2.2.1;
   let tr12 : List Int := q6.2.2.2.2.2;
   (if tr7 = true then
    some ([], tr8, tr9, tr10, tr11, tr12)
    else
    (if (([] : List Int).length + tr12.length) * 1 ≤ 140737488355328 then
     let t13 : List Int := ([] : List Int) ++ tr12;
     (loop (coder_Encoder_End_loop5 tr9 tr10) (0, t13)).bind (fun (o41 : ((List Int)) ⊕ ((List Int))) =>
      (Sum.elim (fun (out39 : (List Int)) =>
        some (out39, tr8, tr9, tr10, tr11, tr12))
       (fun (b40 : (List Int)) =>
        some (b40, tr8, tr9, tr10, tr11, tr12)) o41))
     else
     none)) := (call_eq ..).trans (by kernel_rfl)

theorem ref13_isBegin_eq (g1 : Int) (g2 : Int) (g3 : Int) (g4 : Int) (g5 : Int) (g6 : Bool) : ref13_isBegin g1 g2 g3 g4 g5 g6 =
   ((ref05_Sides g1 g2).bind fun (q7 : Bool) =>
    (if (!q7) = true then
     some true
     else
     (if (decide (g5 < 0)) = true then
      some true
      else
      some (decide (g5 > 4)))) : Option (Bool)).bind (fun (v8 : Bool) =>
    (if v8 = true then
     some false
     else
     (if (decide (g3 ≥ (-100000))) = true then
      (if (decide (g3 ≤ 100000)) = true then
       (if (decide (g4 ≥ (-100000))) = true then
        some (decide (g4 ≤ 100000))
        else
        some false)
       else
       some false)
      else
      some false))) := (call_eq ..).trans (by kernel_rfl)

theorem ref07_Size_eq (o1 : Int) (o2 : Int) (o3 : Int) (o4 : Bool) (o5 : Int) : ref07_Size o1 o2 o3 o4 o5 =
   (ref07_Valid o1 o2 o3 o4 o5).bind fun (q6 : Bool) =>
   (if (!q6) = true then
    some (0, 2)
    else
    (ref07_pixels o1 o2 o3 o4 o5).bind fun (q7 : (List Pixel)) =>
    (if ((q7.length : Nat) : Int) < 0 then
     none
     else
     let t8 : Int := ishl .i64 1 ((q7.length : Nat) : Int);
     let t9 : Int := IntKind.i64.wrap (t8 + 1);
     some (t9, 0))) := (call_eq ..).trans (by kernel_rfl)

theorem ref02_New_eq (kind1 : Int) (n2 : Int) : ref02_New kind1 n2 =
   ((if (!decide (kind1 = 0)) = true then
     (if (!decide (kind1 = 1)) = true then
      some true
      else
      (if (decide (n2 < 0)) = true then
       some true
       else
       some (decide (n2 > 8192))))
     else
     (if (decide (n2 < 0)) = true then
      some true
      else
      some (decide (n2 > 8192)))) : Option (Bool)).bind (fun (v3 : Bool) =>
    (if v3 = true then
     some (0, [], 2)
     else
     (if 0 ≤ n2 ∧ n2 ≤ n2 ∧ ((8 : Nat) : Int) * n2 ≤ 281474976710656 then
      let t4 : List Int := List.replicate n2.toNat 0;
      some (kind1, t4, 0)
      else
      none))) := (call_eq ..).trans (by kernel_rfl)

theorem ref02_NewEncoder_eq (m1 : Int) (m2 : List Int) : ref02_NewEncoder m1 m2 =
   (ref02_Valid m1 m2).bind fun (q3 : Bool) =>
   (if (!q3) = true then
    some (Sum.inr ())
    else
    (ref02_Copy m1 m2).bind fun (q4 : Int × (List Int)) =>
    let tr5 : Int := q4.1;
    let tr6 : List Int := q4.2;
    (ref02_Whole).bind fun (q7 : Int × Int) =>
    let tr8 : Int := q7.1;
    let tr9 : Int := q7.2;
    some (Sum.inl (tr5, tr8, tr9, tr6, []))) := (call_eq ..).trans (by kernel_rfl)
end
end Go.Proofs.YtkccnhkhjncpkaaGreat.P
