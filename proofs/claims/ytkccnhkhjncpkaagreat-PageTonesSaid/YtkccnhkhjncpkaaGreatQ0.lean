/- The equations of functions. Printed by wip/tool/vsym.py. -/
import Derived.Test.YtkccnhkhjncpkaaGreatG
import Derived.Test.YtkccnhkhjncpkaaGreatLib
namespace Go.Proofs.YtkccnhkhjncpkaaGreat.P
open Go Go.Proofs.YtkccnhkhjncpkaaGreat.V
set_option linter.unusedVariables false
set_option linter.unusedSimpArgs false
set_option maxRecDepth 100000
noncomputable section
theorem law13_PageTones_eq (in1 : Int) (in2 : Int) (in3 : Int) (in4 : Int) (in5 : Int) (in6 : Bool) (in7 : Int) (in8 : Int) (in9 : Int) (in10 : Bool) (in11 : Int) (in12 : Int) (in13 : Int) (in14 : Int) (in15 : Int) (in16 : Int) (in17 : Int) (in18 : Int) (in19 : Int) (in20 : Bool) (in21 : Int) (in22 : List Bitmap) (in23 : List Int) : law13_PageTones in1 in2 in3 in4 in5 in6 in7 in8 in9 in10 in11 in12 in13 in14 in15 in16 in17 in18 in19 in20 in21 in22 in23 =
   ((law13_many in22).bind fun (q24 : Int) =>
    (if (decide (q24 > 1500)) = true then
     some true
     else
     (if (decide (((in23.length : Nat) : Int) > 300)) = true then
      some true
      else
      (if (decide (in12 > 0)) = true then
       (if (decide (in13 > 0)) = true then
        (if (decide (in12 ≤ 64)) = true then
         (if (decide (in13 ≤ 64)) = true then
          let t25 : Int := IntKind.i64.wrap (in12 * in13);
          some (decide (t25 > 300))
          else
          some false)
         else
         some false)
        else
        some false)
       else
       some false))) : Option (Bool)).bind (fun (v26 : Bool) =>
    (if v26 = true then
     (law13_Sane).bind fun (q27 : Bool) =>
     some q27
     else
     (page_Patterns in7 in8 in9 in10 in11 in22).bind fun (q28 : (List Int) × Int) =>
     let tr29 : List Int := q28.1;
     let tr30 : Int := q28.2;
     (ref13_Patterns in7 in8 in9 in10 in11 in22).bind fun (q31 : (List Int) × Int) =>
     let tr32 : List Int := q31.1;
     let tr33 : Int := q31.2;
     ((if (!decide (tr30 = tr33)) = true then
       some true
       else
       (ref01_SameBytes tr29 tr32).bind fun (q34 : Bool) =>
       some (!q34)) : Option (Bool)).bind (fun (v35 : Bool) =>
      (if v35 = true then
       some false
       else
       (page_Tone in1 in2 in3 in4 in5 in6 in12 in13 in14 in15 in16 in17 in18 in19 in20 in21 in22 in23).bind fun (q36 : (List Int) × Int) =>
       let tr37 : List Int := q36.1;
       let tr38 : Int := q36.2;
       (ref13_Tone in1 in2 in3 in4 in5 in6 in12 in13 in14 in15 in16 in17 in18 in19 in20 in21 in22 in23).bind fun (q39 : (List Int) × Int) =>
       let tr40 : List Int := q39.1;
       let tr41 : Int := q39.2;
       (if (decide (tr38 = tr41)) = true then
        (ref01_SameBytes tr37 tr40).bind fun (q42 : Bool) =>
        (if q42 = true then
         (law13_Sane).bind fun (q43 : Bool) =>
         some q43
         else
         some false)
        else
        some false))))) := (call_eq ..).trans (by kernel_rfl)

noncomputable def law13_many_loop3 (l1 : List Bitmap) (s2 : Int × Int) : Option ((Int × Int) ⊕ (Int)) :=
   let n3 : Int := s2.1;
   let i4 : Int := s2.2;
   (if (decide (i4 < ((l1.length : Nat) : Int))) = true then
    let t5 : Int := IntKind.i64.wrap (n3 + 1);
    (if 0 ≤ i4 then
     (l1[i4.toNat]?).bind fun e6 =>
     let t7 : Int := IntKind.i64.wrap (t5 + ((e6.pix.length : Nat) : Int));
     let t8 : Int := IntKind.i64.wrap (i4 + 1);
     some (Sum.inl (t7, t8))
     else
     none)
    else
    some (Sum.inr n3))
noncomputable def law13_many_loop3_step (i9 : Nat) (x10 : Bitmap) (s11 : Int) : Option ((Int) ⊕ (Int)) :=
   let t5 : Int := IntKind.i64.wrap (s11 + 1);
   let t7 : Int := IntKind.i64.wrap (t5 + ((x10.pix.length : Nat) : Int));
   some (Sum.inl (t7))
theorem law13_many_loop3_overAt (l1 : List Bitmap) (hl : l1.length ≤ 9223372036854775807) (k : Nat) (s11 : Int) (hk : k ≤ l1.length) : loop (law13_many_loop3 l1) ((s11, ((k : Nat) : Int)) : Int × Int) =
    overL (law13_many_loop3_step) (fun (s11 : Int) => some s11) k (l1.drop k) s11 := by
  refine loop_over l1 (fun n (s : Int) => ((s, ((n : Nat) : Int)) : Int × Int)) _ _ (fun s => ?_) (fun i x s h => ?_) k s11 hk
  · unfold law13_many_loop3; simp
  · have hlt := lt_len_of_get h
    have h1 : ((i : Nat) : Int) < ((l1.length : Nat) : Int) := by omega
    have h0 : (0 : Int) ≤ ((i : Nat) : Int) := by omega
    have hw : IntKind.i64.wrap (((i : Nat) : Int) + 1) = (((i + 1 : Nat) : Nat) : Int) := w64 (by omega)
    unfold law13_many_loop3 law13_many_loop3_step
    simp only [h1, h0, hw, h, decide_true, if_true, and_self, true_and, Int.toNat_natCast, Option.bind_some, Option.map_bind, Function.comp_def, map_ite, map_elim, Option.map_some, Option.map_none]
theorem law13_many_loop3_over (l1 : List Bitmap) (hl : l1.length ≤ 9223372036854775807) (s11 : Int) : loop (law13_many_loop3 l1) ((s11, 0) : Int × Int) =
    overL (law13_many_loop3_step) (fun (s11 : Int) => some s11) 0 l1 s11 := law13_many_loop3_overAt l1 hl 0 s11 (Nat.zero_le _)

theorem law13_many_eq (l1 : List Bitmap) : law13_many l1 =
   (loop (law13_many_loop3 l1) (0, 0)).bind (fun (n12 : Int) =>
    some n12) := (call_eq ..).trans (by kernel_rfl)

theorem law13_Sane_eq : law13_Sane =
   (page_Info 3 2 0 1).bind fun (q1 : (List Int) × Int) =>
   let tr2 : List Int := q1.1;
   let tr3 : Int := q1.2;
   (if (decide (tr3 = 0)) = true then
    (ref01_SameBytes tr2 [3, 3, 2]).bind fun (q4 : Bool) =>
    some q4
    else
    some false) := (call_eq ..).trans (by kernel_rfl)

theorem page_Patterns_eq (o1 : Int) (o2 : Int) (o3 : Int) (o4 : Bool) (o5 : Int) (l6 : List Bitmap) : page_Patterns o1 o2 o3 o4 o5 l6 =
   (generic_Usual o1).bind fun (q7 : Int × Int × Int × Bool × Int × Int) =>
   let tr8 : Int := q7.1;
   let tr9 : Int := q7.2.1;
   let tr10 : Int := q7.2.2.1;
   let tr11 : Bool := q7.2.2.2.1;
   let tr12 : Int := q7.2.2.2.2.1;
   let tr13 : Int := q7.2.2.2.2.2;
   ((if (!decide (tr13 = 0)) = true then
     some true
     else
     (if o4 = true then
      some true
      else
      some (!(decide (o2 = tr9) && (decide (o3 = tr10) && true))))) : Option (Bool)).bind (fun (v14 : Bool) =>
    (if v14 = true then
     some ([], 2)
     else
     (tone_Patterns o1 o2 o3 o4 o5 l6).bind fun (q15 : (List Int) × Int) =>
     let tr16 : List Int := q15.1;
     let tr17 : Int := q15.2;
     (if (!decide (tr17 = 0)) = true then
      some ([], tr17)
      else
      let t18 : Int := IntKind.i64.wrap (4 * o5);
      let t19 : Int := IntKind.i64.wrap (o1 + t18);
      (page_writer_byte [t19] []).bind fun (q20 : (List Int)) =>
      (if 0 ≤ (0 : Int) then
       (l6[(0 : Int).toNat]?).bind fun e21 =>
       (if 0 ≤ (0 : Int) then
        (l6[(0 : Int).toNat]?).bind fun e22 =>
        (page_writer_size [e21.w, e22.h, ((l6.length : Nat) : Int)] q20).bind fun (q23 : (List Int)) =>
        (page_writer_with tr16 0 q23).bind fun (q24 : (List Int) × Int) =>
        let tr25 : List Int := q24.1;
        let tr26 : Int := q24.2;
        some (tr25, tr26)
        else
        none)
       else
       none)))) := (call_eq ..).trans (by kernel_rfl)

theorem ref13_Patterns_eq (o1 : Int) (o2 : Int) (o3 : Int) (o4 : Bool) (o5 : Int) (l6 : List Bitmap) : ref13_Patterns o1 o2 o3 o4 o5 l6 =
   ((ref07_Valid o1 o2 o3 o4 o5).bind fun (q7 : Bool) =>
    (if (!q7) = true then
     some true
     else
     (ref13_usual o1 o5).bind fun (q8 : Int × Int × Int × Bool × Int) =>
     let tr9 : Int := q8.1;
     let tr10 : Int := q8.2.1;
     let tr11 : Int := q8.2.2.1;
     let tr12 : Bool := q8.2.2.2.1;
     let tr13 : Int := q8.2.2.2.2;
     some (!(decide (o1 = tr9) && ((decide (o2 = tr10) && (decide (o3 = tr11) && true)) && (decide (o4 = tr12) && (decide (o5 = tr13) && true)))))) : Option (Bool)).bind (fun (v14 : Bool) =>
    (if v14 = true then
     some ([], 2)
     else
     (ref11_Patterns o1 o2 o3 o4 o5 l6).bind fun (q15 : (List Int) × Int) =>
     let tr16 : List Int := q15.1;
     let tr17 : Int := q15.2;
     (if (!decide (tr17 = 0)) = true then
      some ([], tr17)
      else
      let t18 : Int := IntKind.i64.wrap (4 * o5);
      let t19 : Int := IntKind.i64.wrap (o1 + t18);
      let t20 : Int := IntKind.u8.wrap t19;
      (if 0 ≤ (0 : Int) then
       (l6[(0 : Int).toNat]?).bind fun e21 =>
       (ref13_size e21.w).bind fun (q22 : (List Int)) =>
       (if 0 ≤ (0 : Int) then
        (l6[(0 : Int).toNat]?).bind fun e23 =>
        (ref13_size e23.h).bind fun (q24 : (List Int)) =>
        (ref13_size ((l6.length : Nat) : Int)).bind fun (q25 : (List Int)) =>
        (ref13_join [[t20], q22, q24, q25, tr16]).bind fun (q26 : (List Int)) =>
        some (q26, 0)
        else
        none)
       else
       none)))) := (call_eq ..).trans (by kernel_rfl)

theorem ref01_SameBytes_eq (a1 : List Int) (b2 : List Int) : ref01_SameBytes a1 b2 =
   some (decide (a1 = b2)) := (call_eq ..).trans (by kernel_rfl)

theorem page_Tone_eq (g1 : Int) (g2 : Int) (g3 : Int) (g4 : Int) (g5 : Int) (g6 : Bool) (a7 : Int) (a8 : Int) (a9 : Int) (a10 : Int) (a11 : Int) (a12 : Int) (a13 : Int) (a14 : Int) (a15 : Bool) (a16 : Int) (l17 : List Bitmap) (values18 : List Int) : page_Tone g1 g2 g3 g4 g5 g6 a7 a8 a9 a10 a11 a12 a13 a14 a15 a16 l17 values18 =
   ((page_rightBegin g1 g2 g3 g4 g5 g6).bind fun (q19 : Bool) =>
    (if (!q19) = true then
     some true
     else
     some (!decide (a16 = 0))) : Option (Bool)).bind (fun (v20 : Bool) =>
    (if v20 = true then
     some ([], 2)
     else
     (bitmap_New g1 g2 0).bind fun (q21 : Int × Int × Int × (List Int)) =>
     let tr22 : Int := q21.1;
     let tr23 : Int := q21.2.1;
     let tr24 : Int := q21.2.2.1;
     let tr25 : List Int := q21.2.2.2;
     (if (!decide (tr24 = 0)) = true then
      some ([], 2)
      else
      (tone_Encode a7 a8 a9 a10 a11 a12 a13 a14 a15 a16 l17 g1 g2 values18).bind fun (q26 : (List Int) × Int) =>
      let tr27 : List Int := q26.1;
      let tr28 : Int := q26.2;
      (if (!decide (tr28 = 0)) = true then
       some ([], tr28)
       else
       (page_writer_begin g1 g2 g3 g4 g5 g6 []).bind fun (q29 : (List Int)) =>
       let t30 : Int := IntKind.i64.wrap (4 * a14);
       let t31 : Int := IntKind.i64.wrap (a13 + t30);
       (page_flag a15 8).bind fun (q32 : Int) =>
       let t33 : Int := IntKind.i64.wrap (t31 + q32);
       (page_writer_byte [t33] q29).bind fun (q34 : (List Int)) =>
       (page_writer_size [a7, a8] q34).bind fun (q35 : (List Int)) =>
       (page_writer_signed [a9, a10, a11, a12] q35).bind fun (q36 : (List Int)) =>
       (page_writer_with tr27 0 q36).bind fun (q37 : (List Int) × Int) =>
       let tr38 : List Int := q37.1;
       let tr39 : Int := q37.2;
       some (tr38, tr39))))) := (call_eq ..).trans (by kernel_rfl)

theorem ref13_Tone_eq (g1 : Int) (g2 : Int) (g3 : Int) (g4 : Int) (g5 : Int) (g6 : Bool) (a7 : Int) (a8 : Int) (a9 : Int) (a10 : Int) (a11 : Int) (a12 : Int) (a13 : Int) (a14 : Int) (a15 : Bool) (a16 : Int) (l17 : List Bitmap) (values18 : List Int) : ref13_Tone g1 g2 g3 g4 g5 g6 a7 a8 a9 a10 a11 a12 a13 a14 a15 a16 l17 values18 =
   ((ref13_isBegin g1 g2 g3 g4 g5 g6).bind fun (q19 : Bool) =>
    (if (!q19) = true then
     some true
     else
     some (!decide (a16 = 0))) : Option (Bool)).bind (fun (v20 : Bool) =>
    (if v20 = true then
     some ([], 2)
     else
     (ref11_Encode a7 a8 a9 a10 a11 a12 a13 a14 a15 a16 l17 g1 g2 values18).bind fun (q21 : (List Int) × Int) =>
     let tr22 : List Int := q21.1;
     let tr23 : Int := q21.2;
     (if (!decide (tr23 = 0)) = true then
      some ([], tr23)
      else
      let t24 : Int := IntKind.i64.wrap (4 * a14);
      let t25 : Int := IntKind.i64.wrap (a13 + t24);
      (ref13_bit a15).bind fun (q26 : Int) =>
      let t27 : Int := IntKind.i64.wrap (8 * q26);
      let t28 : Int := IntKind.i64.wrap (t25 + t27);
      (ref13_begin g1 g2 g3 g4 g5 g6).bind fun (q29 : (List Int)) =>
      let t30 : Int := IntKind.u8.wrap t28;
      (ref13_size a7).bind fun (q31 : (List Int)) =>
      (ref13_size a8).bind fun (q32 : (List Int)) =>
      (ref13_signed a9).bind fun (q33 : (List Int)) =>
      (ref13_signed a10).bind fun (q34 : (List Int)) =>
      (ref13_signed a11).bind fun (q35 : (List Int)) =>
      (ref13_signed a12).bind fun (q36 : (List Int)) =>
      (ref13_join [q29, [t30], q31, q32, q33, q34, q35, q36, tr22]).bind fun (q37 : (List Int)) =>
      some (q37, 0)))) := (call_eq ..).trans (by kernel_rfl)

theorem page_Info_eq (w1 : Int) (h2 : Int) (pixel3 : Int) (op4 : Int) : page_Info w1 h2 pixel3 op4 =
   let t5 : Int := imax h2 0;
   (bitmap_New w1 t5 0).bind fun (q6 : Int × Int × Int × (List Int)) =>
   let tr7 : Int := q6.1;
   let tr8 : Int := q6.2.1;
   let tr9 : Int := q6.2.2.1;
   let tr10 : List Int := q6.2.2.2;
   ((if (!decide (tr9 = 0)) = true then
     some true
     else
     (if (decide (h2 < (-1))) = true then
      some true
      else
      (if (decide (pixel3 < 0)) = true then
       some true
       else
       (if (decide (pixel3 > 1)) = true then
        some true
        else
        (if (decide (op4 < 0)) = true then
         some true
         else
         some (decide (op4 > 4))))))) : Option (Bool)).bind (fun (v11 : Bool) =>
    (if v11 = true then
     some ([], 2)
     else
     let t12 : Int := IntKind.i64.wrap (h2 + 1);
     (page_writer_size [w1, t12] []).bind fun (q13 : (List Int)) =>
     let t14 : Int := IntKind.i64.wrap (2 * op4);
     let t15 : Int := IntKind.i64.wrap (pixel3 + t14);
     (page_writer_byte [t15] q13).bind fun (q16 : (List Int)) =>
     some (q16, 0))) := (call_eq ..).trans (by kernel_rfl)

theorem generic_Usual_eq (template1 : Int) : generic_Usual template1 =
   ((if (decide (template1 < 0)) = true then
     some true
     else
     some (decide (template1 > 3))) : Option (Bool)).bind (fun (v2 : Bool) =>
    (if v2 = true then
     some (0, 0, 0, false, 0, 2)
     else
     let t3 : Int := template1.tmod 2;
     let t4 : Int := IntKind.i64.wrap (3 - t3);
     some (template1, t4, (-1), true, 0, 0))) := (call_eq ..).trans (by kernel_rfl)

noncomputable def tone_Patterns_loop9 (l6 : List Bitmap) (e9 : Bitmap) (s17 : Int × Int × Int × (List Int)) : Option ((Int × Int × Int × (List Int)) ⊕ (Int × Int × (List Int))) :=
   let v18 : Int := s17.1;
   let b19 : Int := s17.2.1;
   let b20 : Int := s17.2.2.1;
   let b21 : List Int := s17.2.2.2;
   (if (decide (v18 < ((l6.length : Nat) : Int))) = true then
    (if 0 ≤ v18 then
     (l6[v18.toNat]?).bind fun e22 =>
     let t23 : Int := IntKind.i64.wrap (v18 * e9.w);
     (bitmap_Draw b19 b20 b21 e22.w e22.h e22.pix t23 0 0).bind fun (q24 : Int × Int × (List Int) × Int) =>
     let tr25 : Int := q24.1;
     let tr26 : Int := q24.2.1;
     let tr27 : List Int := q24.2.2.1;
     let tr28 : Int := q24.2.2.2;
     let t29 : Int := IntKind.i64.wrap (v18 + 1);
     some (Sum.inl (t29, tr25, tr26, tr27))
     else
     none)
    else
    some (Sum.inr (b19, b20, b21)))
noncomputable def tone_Patterns_loop9_step (e9 : Bitmap) (i30 : Nat) (x31 : Bitmap) (s32 : Int × Int × (List Int)) : Option ((Int × Int × (List Int)) ⊕ (Int × Int × (List Int))) :=
   let b33 : Int := s32.1;
   let b34 : Int := s32.2.1;
   let b35 : List Int := s32.2.2;
   let t23 : Int := IntKind.i64.wrap (((i30 : Nat) : Int) * e9.w);
   (bitmap_Draw b33 b34 b35 x31.w x31.h x31.pix t23 0 0).bind fun (q24 : Int × Int × (List Int) × Int) =>
   let tr25 : Int := q24.1;
   let tr26 : Int := q24.2.1;
   let tr27 : List Int := q24.2.2.1;
   let tr28 : Int := q24.2.2.2;
   some (Sum.inl ((tr25, tr26, tr27)))
theorem tone_Patterns_loop9_overAt (l6 : List Bitmap) (e9 : Bitmap) (hl : l6.length ≤ 9223372036854775807) (k : Nat) (s32 : Int × Int × (List Int)) (hk : k ≤ l6.length) : loop (tone_Patterns_loop9 l6 e9) ((((k : Nat) : Int), s32.1, s32.2.1, s32.2.2) : Int × Int × Int × (List Int)) =
    overL (tone_Patterns_loop9_step e9) (fun (s32 : Int × Int × (List Int)) => let b33 : Int := s32.1; let b34 : Int := s32.2.1; let b35 : List Int := s32.2.2; some (b33, b34, b35)) k (l6.drop k) s32 := by
  refine loop_over l6 (fun n (s : Int × Int × (List Int)) => ((((n : Nat) : Int), s.1, s.2.1, s.2.2) : Int × Int × Int × (List Int))) _ _ (fun s => ?_) (fun i x s h => ?_) k s32 hk
  · unfold tone_Patterns_loop9; simp
  · have hlt := lt_len_of_get h
    have h1 : ((i : Nat) : Int) < ((l6.length : Nat) : Int) := by omega
    have h0 : (0 : Int) ≤ ((i : Nat) : Int) := by omega
    have hw : IntKind.i64.wrap (((i : Nat) : Int) + 1) = (((i + 1 : Nat) : Nat) : Int) := w64 (by omega)
    unfold tone_Patterns_loop9 tone_Patterns_loop9_step
    simp only [h1, h0, hw, h, decide_true, if_true, and_self, true_and, Int.toNat_natCast, Option.bind_some, Option.map_bind, Function.comp_def, map_ite, map_elim, Option.map_some, Option.map_none]
theorem tone_Patterns_loop9_over (l6 : List Bitmap) (e9 : Bitmap) (hl : l6.length ≤ 9223372036854775807) (s32 : Int × Int × (List Int)) : loop (tone_Patterns_loop9 l6 e9) ((0, s32.1, s32.2.1, s32.2.2) : Int × Int × Int × (List Int)) =
    overL (tone_Patterns_loop9_step e9) (fun (s32 : Int × Int × (List Int)) => let b33 : Int := s32.1; let b34 : Int := s32.2.1; let b35 : List Int := s32.2.2; some (b33, b34, b35)) 0 l6 s32 := tone_Patterns_loop9_overAt l6 e9 hl 0 s32 (Nat.zero_le _)

theorem tone_Patterns_eq (o1 : Int) (o2 : Int) (o3 : Int) (o4 : Bool) (o5 : Int) (l6 : List Bitmap) : tone_Patterns o1 o2 o3 o4 o5 l6 =
   (tone_isPlain o1 o2 o3 o4 o5).bind fun (q7 : Bool) =>
   (if (!q7) = true then
    some ([], 2)
    else
    (tone_rightPatterns l6).bind fun (q8 : Int) =>
    (if (!decide (q8 = 0)) = true then
     some ([], q8)
     else
     (if 0 ≤ (0 : Int) then
      (l6[(0 : Int).toNat]?).bind fun e9 =>
      let t10 : Int := IntKind.i64.wrap (e9.w * ((l6.length : Nat) : Int));
      (if 0 ≤ (0 : Int) then
       (l6[(0 : Int).toNat]?).bind fun e11 =>
       (bitmap_New t10 e11.h 0).bind fun (q12 : Int × Int × Int × (List Int)) =>
       let tr13 : Int := q12.1;
       let tr14 : Int := q12.2.1;
       let tr15 : Int := q12.2.2.1;
       let tr16 : List Int := q12.2.2.2;
       (loop (tone_Patterns_loop9 l6 e9) (0, tr13, tr14, tr16)).bind (fun (p36 : Int × Int × (List Int)) =>
        let b37 : Int := p36.1;
        let b38 : Int := p36.2.1;
        let b39 : List Int := p36.2.2;
        (generic_Encode o1 o2 o3 o4 o5 b37 b38 b39).bind fun (q40 : (List Int) × Int) =>
        let tr41 : List Int := q40.1;
        let tr42 : Int := q40.2;
        some (tr41, tr42))
       else
       none)
      else
      none))) := (call_eq ..).trans (by kernel_rfl)

noncomputable def page_writer_byte_loop1 (l1 : List Int) (s3 : Int × (List Int)) : Option ((Int × (List Int)) ⊕ ((List Int))) :=
   let v4 : Int := s3.1;
   let b5 : List Int := s3.2;
   (if (decide (v4 < ((l1.length : Nat) : Int))) = true then
    (if 0 ≤ v4 ∧ v4 < (l1.length : Int) then
     let t6 : Int := IntKind.u8.wrap (rd l1 v4);
     (if (b5.length + ([t6] : List Int).length) * 1 ≤ 140737488355328 then
      let t7 : List Int := b5 ++ [t6];
      let t8 : Int := IntKind.i64.wrap (v4 + 1);
      some (Sum.inl (t8, t7))
      else
      none)
     else
     none)
    else
    some (Sum.inr b5))
noncomputable def page_writer_byte_loop1_step (i9 : Nat) (x10 : Int) (s11 : (List Int)) : Option (((List Int)) ⊕ ((List Int))) :=
   let t6 : Int := IntKind.u8.wrap (x10);
   (if (s11.length + ([t6] : List Int).length) * 1 ≤ 140737488355328 then
    let t7 : List Int := s11 ++ [t6];
    some (Sum.inl (t7))
    else
    none)
theorem page_writer_byte_loop1_overAt (l1 : List Int) (hl : l1.length ≤ 9223372036854775807) (k : Nat) (s11 : (List Int)) (hk : k ≤ l1.length) : loop (page_writer_byte_loop1 l1) ((((k : Nat) : Int), s11) : Int × (List Int)) =
    overL (page_writer_byte_loop1_step) (fun (s11 : (List Int)) => some s11) k (l1.drop k) s11 := by
  refine loop_over l1 (fun n (s : (List Int)) => ((((n : Nat) : Int), s) : Int × (List Int))) _ _ (fun s => ?_) (fun i x s h => ?_) k s11 hk
  · unfold page_writer_byte_loop1; simp
  · have hlt := lt_len_of_get h
    have h1 : ((i : Nat) : Int) < ((l1.length : Nat) : Int) := by omega
    have h0 : (0 : Int) ≤ ((i : Nat) : Int) := by omega
    have hw : IntKind.i64.wrap (((i : Nat) : Int) + 1) = (((i + 1 : Nat) : Nat) : Int) := w64 (by omega)
    have hr : rd l1 ((i : Nat) : Int) = x := rd_nat h
    unfold page_writer_byte_loop1 page_writer_byte_loop1_step
    simp only [h1, h0, hw, h, hr, decide_true, if_true, and_self, true_and, Int.toNat_natCast, Option.bind_some, Option.map_bind, Function.comp_def, map_ite, map_elim, Option.map_some, Option.map_none]
theorem page_writer_byte_loop1_over (l1 : List Int) (hl : l1.length ≤ 9223372036854775807) (s11 : (List Int)) : loop (page_writer_byte_loop1 l1) ((0, s11) : Int × (List Int)) =
    overL (page_writer_byte_loop1_step) (fun (s11 : (List Int)) => some s11) 0 l1 s11 := page_writer_byte_loop1_overAt l1 hl 0 s11 (Nat.zero_le _)

theorem page_writer_byte_eq (l1 : List Int) (b2 : List Int) : page_writer_byte l1 b2 =
   (loop (page_writer_byte_loop1 l1) (0, b2)).bind (fun (b12 : (List Int)) =>
    some b12) := (call_eq ..).trans (by kernel_rfl)

noncomputable def page_writer_size_loop1 (l1 : List Int) (s3 : Int × (List Int)) : Option ((Int × (List Int)) ⊕ ((List Int))) :=
   let v4 : Int := s3.1;
   let b5 : List Int := s3.2;
   (if (decide (v4 < ((l1.length : Nat) : Int))) = true then
    (if 0 ≤ v4 ∧ v4 < (l1.length : Int) then
     (bits_Size (rd l1 v4)).bind fun (q6 : (List Int) × Int) =>
     let tr7 : List Int := q6.1;
     let tr8 : Int := q6.2;
     (if (b5.length + tr7.length) * 1 ≤ 140737488355328 then
      let t9 : List Int := b5 ++ tr7;
      let t10 : Int := IntKind.i64.wrap (v4 + 1);
      some (Sum.inl (t10, t9))
      else
      none)
     else
     none)
    else
    some (Sum.inr b5))
noncomputable def page_writer_size_loop1_step (i11 : Nat) (x12 : Int) (s13 : (List Int)) : Option (((List Int)) ⊕ ((List Int))) :=
   (bits_Size (x12)).bind fun (q6 : (List Int) × Int) =>
   let tr7 : List Int := q6.1;
   let tr8 : Int := q6.2;
   (if (s13.length + tr7.length) * 1 ≤ 140737488355328 then
    let t9 : List Int := s13 ++ tr7;
    some (Sum.inl (t9))
    else
    none)
theorem page_writer_size_loop1_overAt (l1 : List Int) (hl : l1.length ≤ 9223372036854775807) (k : Nat) (s13 : (List Int)) (hk : k ≤ l1.length) : loop (page_writer_size_loop1 l1) ((((k : Nat) : Int), s13) : Int × (List Int)) =
    overL (page_writer_size_loop1_step) (fun (s13 : (List Int)) => some s13) k (l1.drop k) s13 := by
  refine loop_over l1 (fun n (s : (List Int)) => ((((n : Nat) : Int), s) : Int × (List Int))) _ _ (fun s => ?_) (fun i x s h => ?_) k s13 hk
  · unfold page_writer_size_loop1; simp
  · have hlt := lt_len_of_get h
    have h1 : ((i : Nat) : Int) < ((l1.length : Nat) : Int) := by omega
    have h0 : (0 : Int) ≤ ((i : Nat) : Int) := by omega
    have hw : IntKind.i64.wrap (((i : Nat) : Int) + 1) = (((i + 1 : Nat) : Nat) : Int) := w64 (by omega)
    have hr : rd l1 ((i : Nat) : Int) = x := rd_nat h
    unfold page_writer_size_loop1 page_writer_size_loop1_step
    simp only [h1, h0, hw, h, hr, decide_true, if_true, and_self, true_and, Int.toNat_natCast, Option.bind_some, Option.map_bind, Function.comp_def, map_ite, map_elim, Option.map_some, Option.map_none]
theorem page_writer_size_loop1_over (l1 : List Int) (hl : l1.length ≤ 9223372036854775807) (s13 : (List Int)) : loop (page_writer_size_loop1 l1) ((0, s13) : Int × (List Int)) =
    overL (page_writer_size_loop1_step) (fun (s13 : (List Int)) => some s13) 0 l1 s13 := page_writer_size_loop1_overAt l1 hl 0 s13 (Nat.zero_le _)

theorem page_writer_size_eq (l1 : List Int) (b2 : List Int) : page_writer_size l1 b2 =
   (loop (page_writer_size_loop1 l1) (0, b2)).bind (fun (b14 : (List Int)) =>
    some b14) := (call_eq ..).trans (by kernel_rfl)

theorem page_writer_with_eq (code1 : List Int) (err2 : Int) (b3 : List Int) : page_writer_with code1 err2 b3 =
   (if (!decide (err2 = 0)) = true then
    some ([], err2)
    else
    (if (b3.length + code1.length) * 1 ≤ 140737488355328 then
     let t4 : List Int := b3 ++ code1;
     some (t4, 0)
     else
     none)) := (call_eq ..).trans (by kernel_rfl)

theorem ref07_Valid_eq (o1 : Int) (o2 : Int) (o3 : Int) (o4 : Bool) (o5 : Int) : ref07_Valid o1 o2 o3 o4 o5 =
   ((if (decide (o1 < 0)) = true then
     some true
     else
     (if (decide (o1 > 3)) = true then
      some true
      else
      (if (decide (o5 < 0)) = true then
       some true
       else
       some (decide (o5 > 1))))) : Option (Bool)).bind (fun (v6 : Bool) =>
    (if v6 = true then
     some false
     else
     ((if 0 ≤ (0 : Int) ∧ (0 : Int) < ((2 : Nat) : Int) then
       (if (decide (o2 < (-8))) = true then
        some true
        else
        (if 0 ≤ (0 : Int) ∧ (0 : Int) < ((2 : Nat) : Int) then
         (if (decide (o2 > 8)) = true then
          some true
          else
          (if 0 ≤ (1 : Int) ∧ (1 : Int) < ((2 : Nat) : Int) then
           (if (decide (o3 < (-8))) = true then
            some true
            else
            (if 0 ≤ (1 : Int) ∧ (1 : Int) < ((2 : Nat) : Int) then
             some (decide (o3 > 0))
             else
             none))
           else
           none))
         else
         none))
       else
       none) : Option (Bool)).bind (fun (v7 : Bool) =>
      (if v7 = true then
       some false
       else
       (if 0 ≤ (1 : Int) ∧ (1 : Int) < ((2 : Nat) : Int) then
        (if (decide (o3 < 0)) = true then
         some true
         else
         (if 0 ≤ (0 : Int) ∧ (0 : Int) < ((2 : Nat) : Int) then
          some (decide (o2 < 0))
          else
          none))
        else
        none))))) := (call_eq ..).trans (by kernel_rfl)

theorem ref13_usual_eq (template1 : Int) (kind2 : Int) : ref13_usual template1 kind2 =
   (ref07_Usual template1).bind fun (q3 : Int × Int × Int × Bool × Int × Int) =>
   let tr4 : Int := q3.1;
   let tr5 : Int := q3.2.1;
   let tr6 : Int := q3.2.2.1;
   let tr7 : Bool := q3.2.2.2.1;
   let tr8 : Int := q3.2.2.2.2.1;
   let tr9 : Int := q3.2.2.2.2.2;
   some (tr4, tr5, tr6, false, kind2) := (call_eq ..).trans (by kernel_rfl)

noncomputable def ref11_Patterns_loop10 (l6 : List Bitmap) (tr16 : Int) (tr17 : Int) (s20 : Int × (List Int)) : Option ((Int × (List Int)) ⊕ ((List Int))) :=
   let i21 : Int := s20.1;
   let b22 : List Int := s20.2;
   (if (decide (i21 < ((l6.length : Nat) : Int))) = true then
    (if 0 ≤ i21 then
     (l6[i21.toNat]?).bind fun e23 =>
     (if 0 ≤ (0 : Int) then
      (l6[(0 : Int).toNat]?).bind fun e24 =>
      let t25 : Int := IntKind.i64.wrap (i21 * e24.w);
      (ref05_Lay tr16 tr17 e23.w e23.h e23.pix t25 0 0 b22).bind fun (q26 : (List Int)) =>
      let t27 : Int := IntKind.i64.wrap (i21 + 1);
      some (Sum.inl (t27, q26))
      else
      none)
     else
     none)
    else
    some (Sum.inr b22))
noncomputable def ref11_Patterns_loop10_step (l6 : List Bitmap) (tr16 : Int) (tr17 : Int) (i28 : Nat) (x29 : Bitmap) (s30 : (List Int)) : Option (((List Int)) ⊕ ((List Int))) :=
   (if 0 ≤ (0 : Int) then
    (l6[(0 : Int).toNat]?).bind fun e24 =>
    let t25 : Int := IntKind.i64.wrap (((i28 : Nat) : Int) * e24.w);
    (ref05_Lay tr16 tr17 x29.w x29.h x29.pix t25 0 0 s30).bind fun (q26 : (List Int)) =>
    some (Sum.inl (q26))
    else
    none)
theorem ref11_Patterns_loop10_overAt (l6 : List Bitmap) (tr16 : Int) (tr17 : Int) (hl : l6.length ≤ 9223372036854775807) (k : Nat) (s30 : (List Int)) (hk : k ≤ l6.length) : loop (ref11_Patterns_loop10 l6 tr16 tr17) ((((k : Nat) : Int), s30) : Int × (List Int)) =
    overL (ref11_Patterns_loop10_step l6 tr16 tr17) (fun (s30 : (List Int)) => some s30) k (l6.drop k) s30 := by
  refine loop_over l6 (fun n (s : (List Int)) => ((((n : Nat) : Int), s) : Int × (List Int))) _ _ (fun s => ?_) (fun i x s h => ?_) k s30 hk
  · unfold ref11_Patterns_loop10; simp
  · have hlt := lt_len_of_get h
    have h1 : ((i : Nat) : Int) < ((l6.length : Nat) : Int) := by omega
    have h0 : (0 : Int) ≤ ((i : Nat) : Int) := by omega
    have hw : IntKind.i64.wrap (((i : Nat) : Int) + 1) = (((i + 1 : Nat) : Nat) : Int) := w64 (by omega)
    unfold ref11_Patterns_loop10 ref11_Patterns_loop10_step
    simp only [h1, h0, hw, h, decide_true, if_true, and_self, true_and, Int.toNat_natCast, Option.bind_some, Option.map_bind, Function.comp_def, map_ite, map_elim, Option.map_some, Option.map_none]
theorem ref11_Patterns_loop10_over (l6 : List Bitmap) (tr16 : Int) (tr17 : Int) (hl : l6.length ≤ 9223372036854775807) (s30 : (List Int)) : loop (ref11_Patterns_loop10 l6 tr16 tr17) ((0, s30) : Int × (List Int)) =
    overL (ref11_Patterns_loop10_step l6 tr16 tr17) (fun (s30 : (List Int)) => some s30) 0 l6 s30 := ref11_Patterns_loop10_overAt l6 tr16 tr17 hl 0 s30 (Nat.zero_le _)

theorem ref11_Patterns_eq (o1 : Int) (o2 : Int) (o3 : Int) (o4 : Bool) (o5 : Int) (l6 : List Bitmap) : ref11_Patterns o1 o2 o3 o4 o5 l6 =
   ((ref07_Valid o1 o2 o3 o4 o5).bind fun (q7 : Bool) =>
    (if (!q7) = true then
     some true
     else
     some o4) : Option (Bool)).bind (fun (v8 : Bool) =>
    (if v8 = true then
     some ([], 2)
     else
     (ref11_bitmaps l6).bind fun (q9 : Int) =>
     ((if (decide (q9 = 0)) = true then
       (ref11_patterns l6).bind fun (q10 : Int) =>
       some q10
       else
       some q9) : Option (Int)).bind (fun (e11 : Int) =>
      (if (!decide (e11 = 0)) = true then
       some ([], e11)
       else
       (if 0 ≤ (0 : Int) then
        (l6[(0 : Int).toNat]?).bind fun e12 =>
        let t13 : Int := IntKind.i64.wrap (((l6.length : Nat) : Int) * e12.w);
        (if 0 ≤ (0 : Int) then
         (l6[(0 : Int).toNat]?).bind fun e14 =>
         (ref05_New t13 e14.h 0).bind fun (q15 : Int × Int × Int × (List Int)) =>
         let tr16 : Int := q15.1;
         let tr17 : Int := q15.2.1;
         let tr18 : Int := q15.2.2.1;
         let tr19 : List Int := q15.2.2.2;
         (loop (ref11_Patterns_loop10 l6 tr16 tr17) (0, tr19)).bind (fun (b31 : (List Int)) =>
          (ref07_Encode o1 o2 o3 o4 o5 tr16 tr17 b31).bind fun (q32 : (List Int) × Int) =>
          let tr33 : List Int := q32.1;
          let tr34 : Int := q32.2;
          some (tr33, tr34))
         else
         none)
        else
        none))))) := (call_eq ..).trans (by kernel_rfl)

theorem ref13_size_eq (n1 : Int) : ref13_size n1 =
   (ref01_Size n1).bind fun (q2 : (List Int) × Int) =>
   let tr3 : List Int := q2.1;
   let tr4 : Int := q2.2;
   some tr3 := (call_eq ..).trans (by kernel_rfl)

noncomputable def ref13_join_loop3 (l1 : List (List Int)) (s2 : Int × (List Int)) : Option ((Int × (List Int)) ⊕ ((List Int))) :=
   let i3 : Int := s2.1;
   let out4 : List Int := s2.2;
   (if (decide (i3 < ((l1.length : Nat) : Int))) = true then
    (if 0 ≤ i3 then
     (l1[i3.toNat]?).bind fun e5 =>
     (if (out4.length + e5.length) * 1 ≤ 140737488355328 then
      let t6 : List Int := out4 ++ e5;
      let t7 : Int := IntKind.i64.wrap (i3 + 1);
      some (Sum.inl (t7, t6))
      else
      none)
     else
     none)
    else
    some (Sum.inr out4))
noncomputable def ref13_join_loop3_step (i8 : Nat) (x9 : (List Int)) (s10 : (List Int)) : Option (((List Int)) ⊕ ((List Int))) :=
   (if (s10.length + x9.length) * 1 ≤ 140737488355328 then
    let t6 : List Int := s10 ++ x9;
    some (Sum.inl (t6))
    else
    none)
theorem ref13_join_loop3_overAt (l1 : List (List Int)) (hl : l1.length ≤ 9223372036854775807) (k : Nat) (s10 : (List Int)) (hk : k ≤ l1.length) : loop (ref13_join_loop3 l1) ((((k : Nat) : Int), s10) : Int × (List Int)) =
    overL (ref13_join_loop3_step) (fun (s10 : (List Int)) => some s10) k (l1.drop k) s10 := by
  refine loop_over l1 (fun n (s : (List Int)) => ((((n : Nat) : Int), s) : Int × (List Int))) _ _ (fun s => ?_) (fun i x s h => ?_) k s10 hk
  · unfold ref13_join_loop3; simp
  · have hlt := lt_len_of_get h
    have h1 : ((i : Nat) : Int) < ((l1.length : Nat) : Int) := by omega
    have h0 : (0 : Int) ≤ ((i : Nat) : Int) := by omega
    have hw : IntKind.i64.wrap (((i : Nat) : Int) + 1) = (((i + 1 : Nat) : Nat) : Int) := w64 (by omega)
    unfold ref13_join_loop3 ref13_join_loop3_step
    simp only [h1, h0, hw, h, decide_true, if_true, and_self, true_and, Int.toNat_natCast, Option.bind_some, Option.map_bind, Function.comp_def, map_ite, map_elim, Option.map_some, Option.map_none]
theorem ref13_join_loop3_over (l1 : List (List Int)) (hl : l1.length ≤ 9223372036854775807) (s10 : (List Int)) : loop (ref13_join_loop3 l1) ((0, s10) : Int × (List Int)) =
    overL (ref13_join_loop3_step) (fun (s10 : (List Int)) => some s10) 0 l1 s10 := ref13_join_loop3_overAt l1 hl 0 s10 (Nat.zero_le _)

theorem ref13_join_eq (l1 : List (List Int)) : ref13_join l1 =
   (loop (ref13_join_loop3 l1) (0, [])).bind (fun (out11 : (List Int)) =>
    some out11) := (call_eq ..).trans (by kernel_rfl)

theorem page_rightBegin_eq (g1 : Int) (g2 : Int) (g3 : Int) (g4 : Int) (g5 : Int) (g6 : Bool) : page_rightBegin g1 g2 g3 g4 g5 g6 =
   (bitmap_New g1 g2 0).bind fun (q7 : Int × Int × Int × (List Int)) =>
   let tr8 : Int := q7.1;
   let tr9 : Int := q7.2.1;
   let tr10 : Int := q7.2.2.1;
   let tr11 : List Int := q7.2.2.2;
   (if (decide (tr10 = 0)) = true then
    (page_near g3).bind fun (q12 : Bool) =>
    (if q12 = true then
     (page_near g4).bind fun (q13 : Bool) =>
     (if q13 = true then
      (if (decide (g5 ≥ 0)) = true then
       some (decide (g5 ≤ 4))
       else
       some false)
      else
      some false)
     else
     some false)
    else
    some false) := (call_eq ..).trans (by kernel_rfl)

noncomputable def bitmap_New_loop5 (pixel3 : Int) (tr9 : List Int) (s10 : Int × (List Int)) : Option ((Int × (List Int)) ⊕ ((List Int))) :=
   let v11 : Int := s10.1;
   let b12 : List Int := s10.2;
   (if (decide (v11 < ((tr9.length : Nat) : Int))) = true then
    let t13 : Int := IntKind.u8.wrap pixel3;
    (if 0 ≤ v11 ∧ v11 < (b12.length : Int) then
     let w14 : List Int := b12.set v11.toNat t13;
     let t15 : Int := IntKind.i64.wrap (v11 + 1);
     some (Sum.inl (t15, w14))
     else
     none)
    else
    some (Sum.inr b12))
noncomputable def bitmap_New_loop5_step (pixel3 : Int) (i16 : Nat) (x17 : Int) (s18 : (List Int)) : Option (((List Int)) ⊕ ((List Int))) :=
   let t13 : Int := IntKind.u8.wrap pixel3;
   (if 0 ≤ ((i16 : Nat) : Int) ∧ ((i16 : Nat) : Int) < (s18.length : Int) then
    let w14 : List Int := s18.set ((i16 : Nat) : Int).toNat t13;
    some (Sum.inl (w14))
    else
    none)
theorem bitmap_New_loop5_overAt (pixel3 : Int) (tr9 : List Int) (hl : tr9.length ≤ 9223372036854775807) (k : Nat) (s18 : (List Int)) (hk : k ≤ tr9.length) : loop (bitmap_New_loop5 pixel3 tr9) ((((k : Nat) : Int), s18) : Int × (List Int)) =
    overL (bitmap_New_loop5_step pixel3) (fun (s18 : (List Int)) => some s18) k (tr9.drop k) s18 := by
  refine loop_over tr9 (fun n (s : (List Int)) => ((((n : Nat) : Int), s) : Int × (List Int))) _ _ (fun s => ?_) (fun i x s h => ?_) k s18 hk
  · unfold bitmap_New_loop5; simp
  · have hlt := lt_len_of_get h
    have h1 : ((i : Nat) : Int) < ((tr9.length : Nat) : Int) := by omega
    have h0 : (0 : Int) ≤ ((i : Nat) : Int) := by omega
    have hw : IntKind.i64.wrap (((i : Nat) : Int) + 1) = (((i + 1 : Nat) : Nat) : Int) := w64 (by omega)
    have hr : rd tr9 ((i : Nat) : Int) = x := rd_nat h
    unfold bitmap_New_loop5 bitmap_New_loop5_step
    simp only [h1, h0, hw, h, hr, decide_true, if_true, and_self, true_and, Int.toNat_natCast, Option.bind_some, Option.map_bind, Function.comp_def, map_ite, map_elim, Option.map_some, Option.map_none]
theorem bitmap_New_loop5_over (pixel3 : Int) (tr9 : List Int) (hl : tr9.length ≤ 9223372036854775807) (s18 : (List Int)) : loop (bitmap_New_loop5 pixel3 tr9) ((0, s18) : Int × (List Int)) =
    overL (bitmap_New_loop5_step pixel3) (fun (s18 : (List Int)) => some s18) 0 tr9 s18 := bitmap_New_loop5_overAt pixel3 tr9 hl 0 s18 (Nat.zero_le _)

theorem bitmap_New_eq (w1 : Int) (h2 : Int) (pixel3 : Int) : bitmap_New w1 h2 pixel3 =
   ((if (decide (w1 < 0)) = true then
     some true
     else
     (if (decide (h2 < 0)) = true then
      some true
      else
      (if (!decide (pixel3 = 0)) = true then
       some (!decide (pixel3 = 1))
       else
       some false))) : Option (Bool)).bind (fun (v4 : Bool) =>
    (if v4 = true then
     some (0, 0, 2, [])
     else
     (bitmap_blank w1 h2).bind fun (q5 : Int × Int × Int × (List Int)) =>
     let tr6 : Int := q5.1;
     let tr7 : Int := q5.2.1;
     let tr8 : Int := q5.2.2.1;
     let tr9 : List Int := q5.2.2.2;
     (loop (bitmap_New_loop5 pixel3 tr9) (0, tr9)).bind (fun (b19 : (List Int)) =>
      some (tr6, tr7, tr8, b19)))) := (call_eq ..).trans (by kernel_rfl)

noncomputable def tone_Encode_loop13 (a1 : Int) (a2 : Int) (tr17 : Int) (tr18 : Int) (tr19 : List Int) (tr22 : Int) (tr23 : Int) (tr24 : Int) (tr25 : Bool) (tr26 : Int) (tr50 : List (List Int)) (s52 : Int × Int × Int × Int × (List Int) × (List Int)) : Option ((Int × Int × Int × Int × (List Int) × (List Int)) ⊕ (Int × Int × Int × (List Int) × (List Int))) :=
   let v53 : Int := s52.1;
   let b54 : Int := s52.2.1;
   let b55 : Int := s52.2.2.1;
   let b56 : Int := s52.2.2.2.1;
   let b57 : List Int := s52.2.2.2.2.1;
   let b58 : List Int := s52.2.2.2.2.2;
   (if (decide (v53 < ((tr50.length : Nat) : Int))) = true then
    (if 0 ≤ v53 then
     (tr50[v53.toNat]?).bind fun e59 =>
     (generic_Put 0 tr22 tr23 tr24 tr25 tr26 a1 a2 e59 tr17 tr18 tr19 b54 b55 b56 b57 b58).bind fun (q60 : Int × Int × Int × Int × (List Int) × (List Int)) =>
     let tr61 : Int := q60.1;
     let tr62 : Int := q60.2.1;
     let tr63 : Int := q60.2.2.1;
     let tr64 : Int := q60.2.2.2.1;
     let tr65 : List Int := q60.2.2.2.2.1;
     let tr66 : List Int := q60.2.2.2.2.2;
     let t67 : Int := IntKind.i64.wrap (v53 + 1);
     some (Sum.inl (t67, tr62, tr63, tr64, tr65, tr66))
     else
     none)
    else
    some (Sum.inr (b54, b55, b56, b57, b58)))
noncomputable def tone_Encode_loop13_step (a1 : Int) (a2 : Int) (tr17 : Int) (tr18 : Int) (tr19 : List Int) (tr22 : Int) (tr23 : Int) (tr24 : Int) (tr25 : Bool) (tr26 : Int) (i68 : Nat) (x69 : (List Int)) (s70 : Int × Int × Int × (List Int) × (List Int)) : Option ((Int × Int × Int × (List Int) × (List Int)) ⊕ (Int × Int × Int × (List Int) × (List Int))) :=
   let b71 : Int := s70.1;
   let b72 : Int := s70.2.1;
   let b73 : Int := s70.2.2.1;
   let b74 : List Int := s70.2.2.2.1;
   let b75 : List Int := s70.2.2.2.2;
   (generic_Put 0 tr22 tr23 tr24 tr25 tr26 a1 a2 x69 tr17 tr18 tr19 b71 b72 b73 b74 b75).bind fun (q60 : Int × Int × Int × Int × (List Int) × (List Int)) =>
   let tr61 : Int := q60.1;
   let tr62 : Int := q60.2.1;
   let tr63 : Int := q60.2.2.1;
   let tr64 : Int := q60.2.2.2.1;
   let tr65 : List Int := q60.2.2.2.2.1;
   let tr66 : List Int := q60.2.2.2.2.2;
   some (Sum.inl ((tr62, tr63, tr64, tr65, tr66)))
theorem tone_Encode_loop13_overAt (a1 : Int) (a2 : Int) (tr17 : Int) (tr18 : Int) (tr19 : List Int) (tr22 : Int) (tr23 : Int) (tr24 : Int) (tr25 : Bool) (tr26 : Int) (tr50 : List (List Int)) (hl : tr50.length ≤ 9223372036854775807) (k : Nat) (s70 : Int × Int × Int × (List Int) × (List Int)) (hk : k ≤ tr50.length) : loop (tone_Encode_loop13 a1 a2 tr17 tr18 tr19 tr22 tr23 tr24 tr25 tr26 tr50) ((((k : Nat) : Int), s70.1, s70.2.1, s70.2.2.1, s70.2.2.2.1, s70.2.2.2.2) : Int × Int × Int × Int × (List Int) × (List Int)) =
    overL (tone_Encode_loop13_step a1 a2 tr17 tr18 tr19 tr22 tr23 tr24 tr25 tr26) (fun (s70 : Int × Int × Int × (List Int) × (List Int)) => let b71 : Int := s70.1; let b72 : Int := s70.2.1; let b73 : Int := s70.2.2.1; let b74 : List Int := s70.2.2.2.1; let b75 : List Int := s70.2.2.2.2; some (b71, b72, b73, b74, b75)) k (tr50.drop k) s70 := by
  refine loop_over tr50 (fun n (s : Int × Int × Int × (List Int) × (List Int)) => ((((n : Nat) : Int), s.1, s.2.1, s.2.2.1, s.2.2.2.1, s.2.2.2.2) : Int × Int × Int × Int × (List Int) × (List Int))) _ _ (fun s => ?_) (fun i x s h => ?_) k s70 hk
  · unfold tone_Encode_loop13; simp
  · have hlt := lt_len_of_get h
    have h1 : ((i : Nat) : Int) < ((tr50.length : Nat) : Int) := by omega
    have h0 : (0 : Int) ≤ ((i : Nat) : Int) := by omega
    have hw : IntKind.i64.wrap (((i : Nat) : Int) + 1) = (((i + 1 : Nat) : Nat) : Int) := w64 (by omega)
    unfold tone_Encode_loop13 tone_Encode_loop13_step
    simp only [h1, h0, hw, h, decide_true, if_true, and_self, true_and, Int.toNat_natCast, Option.bind_some, Option.map_bind, Function.comp_def, map_ite, map_elim, Option.map_some, Option.map_none]
theorem tone_Encode_loop13_over (a1 : Int) (a2 : Int) (tr17 : Int) (tr18 : Int) (tr19 : List Int) (tr22 : Int) (tr23 : Int) (tr24 : Int) (tr25 : Bool) (tr26 : Int) (tr50 : List (List Int)) (hl : tr50.length ≤ 9223372036854775807) (s70 : Int × Int × Int × (List Int) × (List Int)) : loop (tone_Encode_loop13 a1 a2 tr17 tr18 tr19 tr22 tr23 tr24 tr25 tr26 tr50) ((0, s70.1, s70.2.1, s70.2.2.1, s70.2.2.2.1, s70.2.2.2.2) : Int × Int × Int × Int × (List Int) × (List Int)) =
    overL (tone_Encode_loop13_step a1 a2 tr17 tr18 tr19 tr22 tr23 tr24 tr25 tr26) (fun (s70 : Int × Int × Int × (List Int) × (List Int)) => let b71 : Int := s70.1; let b72 : Int := s70.2.1; let b73 : Int := s70.2.2.1; let b74 : List Int := s70.2.2.2.1; let b75 : List Int := s70.2.2.2.2; some (b71, b72, b73, b74, b75)) 0 tr50 s70 := tone_Encode_loop13_overAt a1 a2 tr17 tr18 tr19 tr22 tr23 tr24 tr25 tr26 tr50 hl 0 s70 (Nat.zero_le _)

theorem tone_Encode_eq (a1 : Int) (a2 : Int) (a3 : Int) (a4 : Int) (a5 : Int) (a6 : Int) (a7 : Int) (a8 : Int) (a9 : Bool) (a10 : Int) (l11 : List Bitmap) (w12 : Int) (h13 : Int) (values14 : List Int) : tone_Encode a1 a2 a3 a4 a5 a6 a7 a8 a9 a10 l11 w12 h13 values14 =
   (tone_begun a1 a2 a3 a4 a5 a6 a7 a8 a9 a10 l11 w12 h13).bind fun (q15 : Int) =>
   (if (!decide (q15 = 0)) = true then
    some ([], q15)
    else
    (tone_skipped a1 a2 a3 a4 a5 a6 a7 a8 a9 a10 l11 w12 h13).bind fun (q16 : Int × Int × (List Int)) =>
    let tr17 : Int := q16.1;
    let tr18 : Int := q16.2.1;
    let tr19 : List Int := q16.2.2;
    (tone_rightValues a1 a2 a3 a4 a5 a6 a7 a8 a9 a10 ((l11.length : Nat) : Int) tr17 tr18 tr19 values14).bind fun (q20 : Bool) =>
    (if (!q20) = true then
     some ([], 2)
     else
     (tone_options a1 a2 a3 a4 a5 a6 a7 a8 a9 a10).bind fun (q21 : Int × Int × Int × Bool × Int) =>
     let tr22 : Int := q21.1;
     let tr23 : Int := q21.2.1;
     let tr24 : Int := q21.2.2.1;
     let tr25 : Bool := q21.2.2.2.1;
     let tr26 : Int := q21.2.2.2.2;
     (generic_Size tr22 tr23 tr24 tr25 tr26).bind fun (q27 : Int × Int) =>
     let tr28 : Int := q27.1;
     let tr29 : Int := q27.2;
     (coder_New tr26 tr28).bind fun (q30 : Int × (List Int) × Int) =>
     let tr31 : Int := q30.1;
     let tr32 : List Int := q30.2.1;
     let tr33 : Int := q30.2.2;
     ((coder_NewEncoder tr31 tr32).bind fun (o41 : (Int × Int × Int × (List Int) × (List Int)) ⊕ (Unit)) =>
      (Sum.elim (fun (q34 : Int × Int × Int × (List Int) × (List Int)) =>
        let tr35 : Int := q34.1;
        let tr36 : Int := q34.2.1;
        let tr37 : Int := q34.2.2.1;
        let tr38 : List Int := q34.2.2.2.1;
        let tr39 : List Int := q34.2.2.2.2;
        some (tr35, tr36, tr37, tr38, tr39))
       (fun (q40 : Unit) =>
        none) o41) : Option (Int × Int × Int × (List Int) × (List Int))).bind (fun (p42 : Int × Int × Int × (List Int) × (List Int)) =>
      let b43 : Int := p42.1;
      let b44 : Int := p42.2.1;
      let b45 : Int := p42.2.2.1;
      let b46 : List Int := p42.2.2.2.1;
      let b47 : List Int := p42.2.2.2.2;
      (number_Width ((l11.length : Nat) : Int)).bind fun (q48 : Int) =>
      (tone_Planes values14 q48).bind fun (q49 : (List (List Int)) × Int) =>
      let tr50 : List (List Int) := q49.1;
      let tr51 : Int := q49.2;
      (loop (tone_Encode_loop13 a1 a2 tr17 tr18 tr19 tr22 tr23 tr24 tr25 tr26 tr50) (0, b43, b44, b45, b46, b47)).bind (fun (p76 : Int × Int × Int × (List Int) × (List Int)) =>
       let b77 : Int := p76.1;
       let b78 : Int := p76.2.1;
       let b79 : Int := p76.2.2.1;
       let b80 : List Int := p76.2.2.2.1;
       let b81 : List Int := p76.2.2.2.2;
       (coder_Encoder_End b77 b78 b79 b80 b81).bind fun (q82 : (List Int) × Int × Int × Int × (List Int) × (List Int)) =>
       let tr83 : List Int := q82.1;
       let tr84 : Int := q82.2.1;
       let tr85 : Int := q82.2.2.1;
       let tr86 : Int := q82.2.2.2.1;
       let tr87 : List Int := q82.2.2.2.2.1;
       let tr88 : List Int := q82.2.2.2.2.2;
       some (tr83, 0))))) := (call_eq ..).trans (by kernel_rfl)

theorem page_writer_begin_eq (g1 : Int) (g2 : Int) (g3 : Int) (g4 : Int) (g5 : Int) (g6 : Bool) (b7 : List Int) : page_writer_begin g1 g2 g3 g4 g5 g6 b7 =
   (page_writer_size [g1, g2] b7).bind fun (q8 : (List Int)) =>
   (page_writer_signed [g3, g4] q8).bind fun (q9 : (List Int)) =>
   (page_flag g6 8).bind fun (q10 : Int) =>
   let t11 : Int := IntKind.i64.wrap (g5 + q10);
   (page_writer_byte [t11] q9).bind fun (q12 : (List Int)) =>
   some q12 := (call_eq ..).trans (by kernel_rfl)

theorem page_flag_eq (is1 : Bool) (n2 : Int) : page_flag is1 n2 =
   (if is1 = true then
    some n2
    else
    some 0) := (call_eq ..).trans (by kernel_rfl)

noncomputable def page_writer_signed_loop1 (l1 : List Int) (s3 : Int × (List Int)) : Option ((Int × (List Int)) ⊕ ((List Int))) :=
   let v4 : Int := s3.1;
   let b5 : List Int := s3.2;
   (if (decide (v4 < ((l1.length : Nat) : Int))) = true then
    (if 0 ≤ v4 ∧ v4 < (l1.length : Int) then
     (bits_Signed (rd l1 v4)).bind fun (q6 : (List Int) × Int) =>
     let tr7 : List Int := q6.1;
     let tr8 : Int := q6.2;
     (if (b5.length + tr7.length) * 1 ≤ 140737488355328 then
      let t9 : List Int := b5 ++ tr7;
      let t10 : Int := IntKind.i64.wrap (v4 + 1);
      some (Sum.inl (t10, t9))
      else
      none)
     else
     none)
    else
    some (Sum.inr b5))
noncomputable def page_writer_signed_loop1_step (i11 : Nat) (x12 : Int) (s13 : (List Int)) : Option (((List Int)) ⊕ ((List Int))) :=
   (bits_Signed (x12)).bind fun (q6 : (List Int) × Int) =>
   let tr7 : List Int := q6.1;
   let tr8 : Int := q6.2;
   (if (s13.length + tr7.length) * 1 ≤ 140737488355328 then
    let t9 : List Int := s13 ++ tr7;
    some (Sum.inl (t9))
    else
    none)
theorem page_writer_signed_loop1_overAt (l1 : List Int) (hl : l1.length ≤ 9223372036854775807) (k : Nat) (s13 : (List Int)) (hk : k ≤ l1.length) : loop (page_writer_signed_loop1 l1) ((((k : Nat) : Int), s13) : Int × (List Int)) =
    overL (page_writer_signed_loop1_step) (fun (s13 : (List Int)) => some s13) k (l1.drop k) s13 := by
  refine loop_over l1 (fun n (s : (List Int)) => ((((n : Nat) : Int), s) : Int × (List Int))) _ _ (fun s => ?_) (fun i x s h => ?_) k s13 hk
  · unfold page_writer_signed_loop1; simp
  · have hlt := lt_len_of_get h
    have h1 : ((i : Nat) : Int) < ((l1.length : Nat) : Int) := by omega
    have h0 : (0 : Int) ≤ ((i : Nat) : Int) := by omega
    have hw : IntKind.i64.wrap (((i : Nat) : Int) + 1) = (((i + 1 : Nat) : Nat) : Int) := w64 (by omega)
    have hr : rd l1 ((i : Nat) : Int) = x := rd_nat h
    unfold page_writer_signed_loop1 page_writer_signed_loop1_step
    simp only [h1, h0, hw, h, hr, decide_true, if_true, and_self, true_and, Int.toNat_natCast, Option.bind_some, Option.map_bind, Function.comp_def, map_ite, map_elim, Option.map_some, Option.map_none]
theorem page_writer_signed_loop1_over (l1 : List Int) (hl : l1.length ≤ 9223372036854775807) (s13 : (List Int)) : loop (page_writer_signed_loop1 l1) ((0, s13) : Int × (List Int)) =
    overL (page_writer_signed_loop1_step) (fun (s13 : (List Int)) => some s13) 0 l1 s13 := page_writer_signed_loop1_overAt l1 hl 0 s13 (Nat.zero_le _)

theorem page_writer_signed_eq (l1 : List Int) (b2 : List Int) : page_writer_signed l1 b2 =
   (loop (page_writer_signed_loop1 l1) (0, b2)).bind (fun (b14 : (List Int)) =>
    some b14) := (call_eq ..).trans (by kernel_rfl)

theorem ref13_isBegin_eq (g1 : Int) (g2 : Int) (g3 : Int) (g4 : Int) (g5 : Int) (g6 : Bool) : ref13_isBegin g1 g2 g3 g4 g5 g6 =
   ((ref05_Sides g1 g2).bind fun (q7 : Bool) =>
    (if (!q7) = true then
     some true
     else
     (if (decide (g5 < 0)) = true then
      some true
      else
      some (decide (g5 > 4)))) : Option (Bool)).bind (fun (v8 : Bool) =>
    (if v8 = true then
     some false
     else
     (if (decide (g3 ≥ (-100000))) = true then
      (if (decide (g3 ≤ 100000)) = true then
       (if (decide (g4 ≥ (-100000))) = true then
        some (decide (g4 ≤ 100000))
        else
        some false)
       else
       some false)
      else
      some false))) := (call_eq ..).trans (by kernel_rfl)

noncomputable def ref11_Encode_loop10 (a1 : Int) (a2 : Int) (a3 : Int) (a4 : Int) (a5 : Int) (a6 : Int) (a7 : Int) (a8 : Int) (a9 : Bool) (a10 : Int) (l11 : List Bitmap) (w12 : Int) (h13 : Int) (tr17 : Int) (tr18 : Int) (tr19 : Int) (tr20 : Bool) (tr21 : Int) (tr45 : List (List Int)) (s47 : Int × Int × Int × Int × (List Int) × (List Int)) : Option ((Int × Int × Int × Int × (List Int) × (List Int)) ⊕ (Int × Int × Int × (List Int) × (List Int))) :=
   let i48 : Int := s47.1;
   let b49 : Int := s47.2.1;
   let b50 : Int := s47.2.2.1;
   let b51 : Int := s47.2.2.2.1;
   let b52 : List Int := s47.2.2.2.2.1;
   let b53 : List Int := s47.2.2.2.2.2;
   (if (decide (i48 < ((tr45.length : Nat) : Int))) = true then
    (if 0 ≤ i48 then
     (tr45[i48.toNat]?).bind fun e54 =>
     (ref11_skipped a1 a2 a3 a4 a5 a6 a7 a8 a9 a10 l11 w12 h13).bind fun (q55 : Int × Int × (List Int)) =>
     let tr56 : Int := q55.1;
     let tr57 : Int := q55.2.1;
     let tr58 : List Int := q55.2.2;
     (ref07_Put 0 tr17 tr18 tr19 tr20 tr21 a1 a2 e54 tr56 tr57 tr58 b49 b50 b51 b52 b53).bind fun (q59 : Int × Int × Int × Int × (List Int) × (List Int)) =>
     let tr60 : Int := q59.1;
     let tr61 : Int := q59.2.1;
     let tr62 : Int := q59.2.2.1;
     let tr63 : Int := q59.2.2.2.1;
     let tr64 : List Int := q59.2.2.2.2.1;
     let tr65 : List Int := q59.2.2.2.2.2;
     let t66 : Int := IntKind.i64.wrap (i48 + 1);
     some (Sum.inl (t66, tr61, tr62, tr63, tr64, tr65))
     else
     none)
    else
    some (Sum.inr (b49, b50, b51, b52, b53)))
noncomputable def ref11_Encode_loop10_step (a1 : Int) (a2 : Int) (a3 : Int) (a4 : Int) (a5 : Int) (a6 : Int) (a7 : Int) (a8 : Int) (a9 : Bool) (a10 : Int) (l11 : List Bitmap) (w12 : Int) (h13 : Int) (tr17 : Int) (tr18 : Int) (tr19 : Int) (tr20 : Bool) (tr21 : Int) (i67 : Nat) (x68 : (List Int)) (s69 : Int × Int × Int × (List Int) × (List Int)) : Option ((Int × Int × Int × (List Int) × (List Int)) ⊕ (Int × Int × Int × (List Int) × (List Int))) :=
   let b70 : Int := s69.1;
   let b71 : Int := s69.2.1;
   let b72 : Int := s69.2.2.1;
   let b73 : List Int := s69.2.2.2.1;
   let b74 : List Int := s69.2.2.2.2;
   (ref11_skipped a1 a2 a3 a4 a5 a6 a7 a8 a9 a10 l11 w12 h13).bind fun (q55 : Int × Int × (List Int)) =>
   let tr56 : Int := q55.1;
   let tr57 : Int := q55.2.1;
   let tr58 : List Int := q55.2.2;
   (ref07_Put 0 tr17 tr18 tr19 tr20 tr21 a1 a2 x68 tr56 tr57 tr58 b70 b71 b72 b73 b74).bind fun (q59 : Int × Int × Int × Int × (List Int) × (List Int)) =>
   let tr60 : Int := q59.1;
   let tr61 : Int := q59.2.1;
   let tr62 : Int := q59.2.2.1;
   let tr63 : Int := q59.2.2.2.1;
   let tr64 : List Int := q59.2.2.2.2.1;
   let tr65 : List Int := q59.2.2.2.2.2;
   some (Sum.inl ((tr61, tr62, tr63, tr64, tr65)))
theorem ref11_Encode_loop10_overAt (a1 : Int) (a2 : Int) (a3 : Int) (a4 : Int) (a5 : Int) (a6 : Int) (a7 : Int) (a8 : Int) (a9 : Bool) (a10 : Int) (l11 : List Bitmap) (w12 : Int) (h13 : Int) (tr17 : Int) (tr18 : Int) (tr19 : Int) (tr20 : Bool) (tr21 : Int) (tr45 : List (List Int)) (hl : tr45.length ≤ 9223372036854775807) (k : Nat) (s69 : Int × Int × Int × (List Int) × (List Int)) (hk : k ≤ tr45.length) : loop (ref11_Encode_loop10 a1 a2 a3 a4 a5 a6 a7 a8 a9 a10 l11 w12 h13 tr17 tr18 tr19 tr20 tr21 tr45) ((((k : Nat) : Int), s69.1, s69.2.1, s69.2.2.1, s69.2.2.2.1, s69.2.2.2.2) : Int × Int × Int × Int × (List Int) × (List Int)) =
    overL (ref11_Encode_loop10_step a1 a2 a3 a4 a5 a6 a7 a8 a9 a10 l11 w12 h13 tr17 tr18 tr19 tr20 tr21) (fun (s69 : Int × Int × Int × (List Int) × (List Int)) => let b70 : Int := s69.1; let b71 : Int := s69.2.1; let b72 : Int := s69.2.2.1; let b73 : List Int := s69.2.2.2.1; let b74 : List Int := s69.2.2.2.2; some (b70, b71, b72, b73, b74)) k (tr45.drop k) s69 := by
  refine loop_over tr45 (fun n (s : Int × Int × Int × (List Int) × (List Int)) => ((((n : Nat) : Int), s.1, s.2.1, s.2.2.1, s.2.2.2.1, s.2.2.2.2) : Int × Int × Int × Int × (List Int) × (List Int))) _ _ (fun s => ?_) (fun i x s h => ?_) k s69 hk
  · unfold ref11_Encode_loop10; simp
  · have hlt := lt_len_of_get h
    have h1 : ((i : Nat) : Int) < ((tr45.length : Nat) : Int) := by omega
    have h0 : (0 : Int) ≤ ((i : Nat) : Int) := by omega
    have hw : IntKind.i64.wrap (((i : Nat) : Int) + 1) = (((i + 1 : Nat) : Nat) : Int) := w64 (by omega)
    unfold ref11_Encode_loop10 ref11_Encode_loop10_step
    simp only [h1, h0, hw, h, decide_true, if_true, and_self, true_and, Int.toNat_natCast, Option.bind_some, Option.map_bind, Function.comp_def, map_ite, map_elim, Option.map_some, Option.map_none]
theorem ref11_Encode_loop10_over (a1 : Int) (a2 : Int) (a3 : Int) (a4 : Int) (a5 : Int) (a6 : Int) (a7 : Int) (a8 : Int) (a9 : Bool) (a10 : Int) (l11 : List Bitmap) (w12 : Int) (h13 : Int) (tr17 : Int) (tr18 : Int) (tr19 : Int) (tr20 : Bool) (tr21 : Int) (tr45 : List (List Int)) (hl : tr45.length ≤ 9223372036854775807) (s69 : Int × Int × Int × (List Int) × (List Int)) : loop (ref11_Encode_loop10 a1 a2 a3 a4 a5 a6 a7 a8 a9 a10 l11 w12 h13 tr17 tr18 tr19 tr20 tr21 tr45) ((0, s69.1, s69.2.1, s69.2.2.1, s69.2.2.2.1, s69.2.2.2.2) : Int × Int × Int × Int × (List Int) × (List Int)) =
    overL (ref11_Encode_loop10_step a1 a2 a3 a4 a5 a6 a7 a8 a9 a10 l11 w12 h13 tr17 tr18 tr19 tr20 tr21) (fun (s69 : Int × Int × Int × (List Int) × (List Int)) => let b70 : Int := s69.1; let b71 : Int := s69.2.1; let b72 : Int := s69.2.2.1; let b73 : List Int := s69.2.2.2.1; let b74 : List Int := s69.2.2.2.2; some (b70, b71, b72, b73, b74)) 0 tr45 s69 := ref11_Encode_loop10_overAt a1 a2 a3 a4 a5 a6 a7 a8 a9 a10 l11 w12 h13 tr17 tr18 tr19 tr20 tr21 tr45 hl 0 s69 (Nat.zero_le _)

theorem ref11_Encode_eq (a1 : Int) (a2 : Int) (a3 : Int) (a4 : Int) (a5 : Int) (a6 : Int) (a7 : Int) (a8 : Int) (a9 : Bool) (a10 : Int) (l11 : List Bitmap) (w12 : Int) (h13 : Int) (values14 : List Int) : ref11_Encode a1 a2 a3 a4 a5 a6 a7 a8 a9 a10 l11 w12 h13 values14 =
   (ref11_given a1 a2 a3 a4 a5 a6 a7 a8 a9 a10 l11 w12 h13 values14).bind fun (q15 : Int) =>
   (if (!decide (q15 = 0)) = true then
    some ([], q15)
    else
    (ref11_options a1 a2 a3 a4 a5 a6 a7 a8 a9 a10).bind fun (q16 : Int × Int × Int × Bool × Int) =>
    let tr17 : Int := q16.1;
    let tr18 : Int := q16.2.1;
    let tr19 : Int := q16.2.2.1;
    let tr20 : Bool := q16.2.2.2.1;
    let tr21 : Int := q16.2.2.2.2;
    (ref07_Size tr17 tr18 tr19 tr20 tr21).bind fun (q22 : Int × Int) =>
    let tr23 : Int := q22.1;
    let tr24 : Int := q22.2;
    (ref02_New tr21 tr23).bind fun (q25 : Int × (List Int) × Int) =>
    let tr26 : Int := q25.1;
    let tr27 : List Int := q25.2.1;
    let tr28 : Int := q25.2.2;
    ((ref02_NewEncoder tr26 tr27).bind fun (o36 : (Int × Int × Int × (List Int) × (List Int)) ⊕ (Unit)) =>
     (Sum.elim (fun (q29 : Int × Int × Int × (List Int) × (List Int)) =>
       let tr30 : Int := q29.1;
       let tr31 : Int := q29.2.1;
       let tr32 : Int := q29.2.2.1;
       let tr33 : List Int := q29.2.2.2.1;
       let tr34 : List Int := q29.2.2.2.2;
       some (tr30, tr31, tr32, tr33, tr34))
      (fun (q35 : Unit) =>
       none) o36) : Option (Int × Int × Int × (List Int) × (List Int))).bind (fun (p37 : Int × Int × Int × (List Int) × (List Int)) =>
     let b38 : Int := p37.1;
     let b39 : Int := p37.2.1;
     let b40 : Int := p37.2.2.1;
     let b41 : List Int := p37.2.2.2.1;
     let b42 : List Int := p37.2.2.2.2;
     (ref03_Width ((l11.length : Nat) : Int)).bind fun (q43 : Int) =>
     (ref11_Planes values14 q43).bind fun (q44 : (List (List Int)) × Int) =>
     let tr45 : List (List Int) := q44.1;
     let tr46 : Int := q44.2;
     (loop (ref11_Encode_loop10 a1 a2 a3 a4 a5 a6 a7 a8 a9 a10 l11 w12 h13 tr17 tr18 tr19 tr20 tr21 tr45) (0, b38, b39, b40, b41, b42)).bind (fun (p75 : Int × Int × Int × (List Int) × (List Int)) =>
      let b76 : Int := p75.1;
      let b77 : Int := p75.2.1;
      let b78 : Int := p75.2.2.1;
      let b79 : List Int := p75.2.2.2.1;
      let b80 : List Int := p75.2.2.2.2;
      (ref02_Encoder_End b76 b77 b78 b79 b80).bind fun (q81 : (List Int) × Int × Int × Int × (List Int) × (List Int)) =>
      let tr82 : List Int := q81.1;
      let tr83 : Int := q81.2.1;
      let tr84 : Int := q81.2.2.1;
      let tr85 : Int := q81.2.2.2.1;
      let tr86 : List Int := q81.2.2.2.2.1;
      let tr87 : List Int := q81.2.2.2.2.2;
      some (tr82, 0)))) := (call_eq ..).trans (by kernel_rfl)

theorem ref13_bit_eq (is1 : Bool) : ref13_bit is1 =
   (if is1 = true then
    some 1
    else
    some 0) := (call_eq ..).trans (by kernel_rfl)

theorem ref13_begin_eq (g1 : Int) (g2 : Int) (g3 : Int) (g4 : Int) (g5 : Int) (g6 : Bool) : ref13_begin g1 g2 g3 g4 g5 g6 =
   (ref13_size g1).bind fun (q7 : (List Int)) =>
   (ref13_size g2).bind fun (q8 : (List Int)) =>
   (ref13_signed g3).bind fun (q9 : (List Int)) =>
   (ref13_signed g4).bind fun (q10 : (List Int)) =>
   (ref13_bit g6).bind fun (q11 : Int) =>
   let t12 : Int := IntKind.i64.wrap (8 * q11);
   let t13 : Int := IntKind.i64.wrap (g5 + t12);
   let t14 : Int := IntKind.u8.wrap t13;
   (ref13_join [q7, q8, q9, q10, [t14]]).bind fun (q15 : (List Int)) =>
   some q15 := (call_eq ..).trans (by kernel_rfl)

theorem ref13_signed_eq (n1 : Int) : ref13_signed n1 =
   (ref01_Signed n1).bind fun (q2 : (List Int) × Int) =>
   let tr3 : List Int := q2.1;
   let tr4 : Int := q2.2;
   some tr3 := (call_eq ..).trans (by kernel_rfl)

theorem tone_isPlain_eq (o1 : Int) (o2 : Int) (o3 : Int) (o4 : Bool) (o5 : Int) : tone_isPlain o1 o2 o3 o4 o5 =
   (generic_Valid o1 o2 o3 o4 o5).bind fun (q6 : Bool) =>
   (if q6 = true then
    some (!o4)
    else
    some false) := (call_eq ..).trans (by kernel_rfl)

noncomputable def tone_rightPatterns_loop2 (l1 : List Bitmap) (v2 : Int) : Option ((Int) ⊕ ((Unit) ⊕ (Int))) :=
   (if (decide (v2 < ((l1.length : Nat) : Int))) = true then
    (if 0 ≤ v2 then
     (l1[v2.toNat]?).bind fun e3 =>
     (bitmap_Valid e3.w e3.h e3.pix).bind fun (q4 : Bool) =>
     (if (!q4) = true then
      some (Sum.inr (Sum.inr 30))
      else
      (if 0 ≤ (0 : Int) then
       (l1[(0 : Int).toNat]?).bind fun e5 =>
       (if (!decide (e3.w = e5.w)) = true then
        some (Sum.inr (Sum.inr 30))
        else
        (if 0 ≤ (0 : Int) then
         (l1[(0 : Int).toNat]?).bind fun e6 =>
         (if (!decide (e3.h = e6.h)) = true then
          some (Sum.inr (Sum.inr 30))
          else
          let t7 : Int := IntKind.i64.wrap (v2 + 1);
          some (Sum.inl t7))
         else
         none))
       else
       none))
     else
     none)
    else
    some (Sum.inr (Sum.inl ())))
noncomputable def tone_rightPatterns_loop2_step (l1 : List Bitmap) (i8 : Nat) (x9 : Bitmap) (s10 : Unit) : Option ((Unit) ⊕ ((Unit) ⊕ (Int))) :=
   (bitmap_Valid x9.w x9.h x9.pix).bind fun (q4 : Bool) =>
   (if (!q4) = true then
    some (Sum.inr (Sum.inr 30))
    else
    (if 0 ≤ (0 : Int) then
     (l1[(0 : Int).toNat]?).bind fun e5 =>
     (if (!decide (x9.w = e5.w)) = true then
      some (Sum.inr (Sum.inr 30))
      else
      (if 0 ≤ (0 : Int) then
       (l1[(0 : Int).toNat]?).bind fun e6 =>
       (if (!decide (x9.h = e6.h)) = true then
        some (Sum.inr (Sum.inr 30))
        else
        some (Sum.inl (())))
       else
       none))
     else
     none))
theorem tone_rightPatterns_loop2_overAt (l1 : List Bitmap) (hl : l1.length ≤ 9223372036854775807) (k : Nat) (s10 : Unit) (hk : k ≤ l1.length) : loop (tone_rightPatterns_loop2 l1) (((k : Nat) : Int) : Int) =
    overL (tone_rightPatterns_loop2_step l1) (fun (s10 : Unit) => some (Sum.inl ())) k (l1.drop k) s10 := by
  refine loop_over l1 (fun n (s : Unit) => (((n : Nat) : Int) : Int)) _ _ (fun s => ?_) (fun i x s h => ?_) k s10 hk
  · unfold tone_rightPatterns_loop2; simp
  · have hlt := lt_len_of_get h
    have h1 : ((i : Nat) : Int) < ((l1.length : Nat) : Int) := by omega
    have h0 : (0 : Int) ≤ ((i : Nat) : Int) := by omega
    have hw : IntKind.i64.wrap (((i : Nat) : Int) + 1) = (((i + 1 : Nat) : Nat) : Int) := w64 (by omega)
    unfold tone_rightPatterns_loop2 tone_rightPatterns_loop2_step
    simp only [h1, h0, hw, h, decide_true, if_true, and_self, true_and, Int.toNat_natCast, Option.bind_some, Option.map_bind, Function.comp_def, map_ite, map_elim, Option.map_some, Option.map_none]
theorem tone_rightPatterns_loop2_over (l1 : List Bitmap) (hl : l1.length ≤ 9223372036854775807) (s10 : Unit) : loop (tone_rightPatterns_loop2 l1) (0 : Int) =
    overL (tone_rightPatterns_loop2_step l1) (fun (s10 : Unit) => some (Sum.inl ())) 0 l1 s10 := tone_rightPatterns_loop2_overAt l1 hl 0 s10 (Nat.zero_le _)

theorem tone_rightPatterns_eq (l1 : List Bitmap) : tone_rightPatterns l1 =
   (loop (tone_rightPatterns_loop2 l1) 0).bind (fun (o13 : (Unit) ⊕ (Int)) =>
    (Sum.elim (fun (p11 : Unit) =>
      ((if (decide (((l1.length : Nat) : Int) = 0)) = true then
        some true
        else
        (if (decide (((l1.length : Nat) : Int) > 64)) = true then
         some true
         else
         (if 0 ≤ (0 : Int) then
          (l1[(0 : Int).toNat]?).bind fun e14 =>
          (if 0 ≤ (0 : Int) then
           (l1[(0 : Int).toNat]?).bind fun e15 =>
           (tone_rightSides e14.w e15.h).bind fun (q16 : Bool) =>
           some (!q16)
           else
           none)
          else
          none))) : Option (Bool)).bind (fun (v17 : Bool) =>
       (if v17 = true then
        some 2
        else
        (if 0 ≤ (0 : Int) then
         (l1[(0 : Int).toNat]?).bind fun e18 =>
         let t19 : Int := IntKind.i64.wrap (e18.w * ((l1.length : Nat) : Int));
         (if 0 ≤ (0 : Int) then
          (l1[(0 : Int).toNat]?).bind fun e20 =>
          (bitmap_New t19 e20.h 0).bind fun (q21 : Int × Int × Int × (List Int)) =>
          let tr22 : Int := q21.1;
          let tr23 : Int := q21.2.1;
          let tr24 : Int := q21.2.2.1;
          let tr25 : List Int := q21.2.2.2;
          (if (!decide (tr24 = 0)) = true then
           some 2
           else
           some 0)
          else
          none)
         else
         none))))
     (fun (v12 : Int) =>
      some v12) o13)) := (call_eq ..).trans (by kernel_rfl)

noncomputable def bitmap_Draw_loop10 (b1 : Int) (b2 : Int) (s4 : Int) (s5 : Int) (s6 : List Int) (x7 : Int) (y8 : Int) (op9 : Int) (v30 : Int) (s32 : Int × (List Int)) : Option ((Int × (List Int)) ⊕ ((List Int))) :=
   let v33 : Int := s32.1;
   let b34 : List Int := s32.2;
   (if (decide (v33 < s4)) = true then
    let t35 : Int := IntKind.i64.wrap (x7 + v33);
    let t36 : Int := IntKind.i64.wrap (y8 + v30);
    ((if (decide (t35 ≥ 0)) = true then
      (if (decide (t36 ≥ 0)) = true then
       (if (decide (t35 < b1)) = true then
        some (decide (t36 < b2))
        else
        some false)
       else
       some false)
      else
      some false) : Option (Bool)).bind (fun (v37 : Bool) =>
     (if v37 = true then
      let t38 : Int := IntKind.i64.wrap (t36 * b1);
      let t39 : Int := IntKind.i64.wrap (t38 + t35);
      (if 0 ≤ t39 ∧ t39 < (b34.length : Int) then
       let t40 : Int := rd b34 t39;
       (bitmap_at s4 s5 s6 v33 v30).bind fun (q41 : Int) =>
       (bitmap_combine t40 q41 op9).bind fun (q42 : Int) =>
       let w43 : List Int := b34.set t39.toNat q42;
       let t44 : Int := IntKind.i64.wrap (v33 + 1);
       some (Sum.inl (t44, w43))
       else
       none)
      else
      let t45 : Int := IntKind.i64.wrap (v33 + 1);
      some (Sum.inl (t45, b34))))
    else
    some (Sum.inr b34))
noncomputable def bitmap_Draw_loop10_step (b1 : Int) (b2 : Int) (s4 : Int) (s5 : Int) (s6 : List Int) (x7 : Int) (y8 : Int) (op9 : Int) (v30 : Int) (i46 : Nat) (x47 : Nat) (s48 : (List Int)) : Option (((List Int)) ⊕ ((List Int))) :=
   let t35 : Int := IntKind.i64.wrap (x7 + ((i46 : Nat) : Int));
   let t36 : Int := IntKind.i64.wrap (y8 + v30);
   ((if (decide (t35 ≥ 0)) = true then
     (if (decide (t36 ≥ 0)) = true then
      (if (decide (t35 < b1)) = true then
       some (decide (t36 < b2))
       else
       some false)
      else
      some false)
     else
     some false) : Option (Bool)).bind (fun (v37 : Bool) =>
    (if v37 = true then
     let t38 : Int := IntKind.i64.wrap (t36 * b1);
     let t39 : Int := IntKind.i64.wrap (t38 + t35);
     (if 0 ≤ t39 ∧ t39 < (s48.length : Int) then
      let t40 : Int := rd s48 t39;
      (bitmap_at s4 s5 s6 ((i46 : Nat) : Int) v30).bind fun (q41 : Int) =>
      (bitmap_combine t40 q41 op9).bind fun (q42 : Int) =>
      let w43 : List Int := s48.set t39.toNat q42;
      some (Sum.inl (w43))
      else
      none)
     else
     some (Sum.inl (s48))))
theorem bitmap_Draw_loop10_overAt (b1 : Int) (b2 : Int) (s4 : Int) (s5 : Int) (s6 : List Int) (x7 : Int) (y8 : Int) (op9 : Int) (v30 : Int) (hl : (List.range (s4).toNat).length ≤ 9223372036854775807) (k : Nat) (s48 : (List Int)) (hk : k ≤ (List.range (s4).toNat).length) : loop (bitmap_Draw_loop10 b1 b2 s4 s5 s6 x7 y8 op9 v30) ((((k : Nat) : Int), s48) : Int × (List Int)) =
    overL (bitmap_Draw_loop10_step b1 b2 s4 s5 s6 x7 y8 op9 v30) (fun (s48 : (List Int)) => some s48) k ((List.range (s4).toNat).drop k) s48 := by
  refine loop_over (List.range (s4).toNat) (fun n (s : (List Int)) => ((((n : Nat) : Int), s) : Int × (List Int))) _ _ (fun s => ?_) (fun i x s h => ?_) k s48 hk
  · have h1 : ¬ (((List.range (s4).toNat).length : Nat) : Int) < s4 := by simp only [List.length_range]; omega
    unfold bitmap_Draw_loop10; simp only [h1, decide_false, Bool.false_eq_true, if_false, Option.map_some]
  · have hlt := lt_len_of_get h
    rw [List.length_range] at hlt hl
    rw [List.getElem?_range hlt] at h
    cases h
    have h1 : ((i : Nat) : Int) < s4 := by omega
    have h0 : (0 : Int) ≤ ((i : Nat) : Int) := by omega
    have hw : IntKind.i64.wrap (((i : Nat) : Int) + 1) = (((i + 1 : Nat) : Nat) : Int) := w64 (by omega)
    unfold bitmap_Draw_loop10 bitmap_Draw_loop10_step
    simp only [h1, h0, hw, decide_true, if_true, and_self, true_and, Int.toNat_natCast, Option.bind_some, Option.map_bind, Function.comp_def, map_ite, map_elim, Option.map_some, Option.map_none]
theorem bitmap_Draw_loop10_over (b1 : Int) (b2 : Int) (s4 : Int) (s5 : Int) (s6 : List Int) (x7 : Int) (y8 : Int) (op9 : Int) (v30 : Int) (hl : (List.range (s4).toNat).length ≤ 9223372036854775807) (s48 : (List Int)) : loop (bitmap_Draw_loop10 b1 b2 s4 s5 s6 x7 y8 op9 v30) ((0, s48) : Int × (List Int)) =
    overL (bitmap_Draw_loop10_step b1 b2 s4 s5 s6 x7 y8 op9 v30) (fun (s48 : (List Int)) => some s48) 0 (List.range (s4).toNat) s48 := bitmap_Draw_loop10_overAt b1 b2 s4 s5 s6 x7 y8 op9 v30 hl 0 s48 (Nat.zero_le _)

noncomputable def bitmap_Draw_loop7 (b1 : Int) (b2 : Int) (s4 : Int) (s5 : Int) (s6 : List Int) (x7 : Int) (y8 : Int) (op9 : Int) (s29 : Int × (List Int)) : Option ((Int × (List Int)) ⊕ ((List Int))) :=
   let v30 : Int := s29.1;
   let b31 : List Int := s29.2;
   (if (decide (v30 < s5)) = true then
    (loop (bitmap_Draw_loop10 b1 b2 s4 s5 s6 x7 y8 op9 v30) (0, b31)).bind (fun (b49 : (List Int)) =>
     let t50 : Int := IntKind.i64.wrap (v30 + 1);
     some (Sum.inl (t50, b49)))
    else
    some (Sum.inr b31))
noncomputable def bitmap_Draw_loop7_step (b1 : Int) (b2 : Int) (s4 : Int) (s5 : Int) (s6 : List Int) (x7 : Int) (y8 : Int) (op9 : Int) (i51 : Nat) (x52 : Nat) (s53 : (List Int)) : Option (((List Int)) ⊕ ((List Int))) :=
   (loop (bitmap_Draw_loop10 b1 b2 s4 s5 s6 x7 y8 op9 ((i51 : Nat) : Int)) (0, s53)).bind (fun (b49 : (List Int)) =>
    some (Sum.inl (b49)))
theorem bitmap_Draw_loop7_overAt (b1 : Int) (b2 : Int) (s4 : Int) (s5 : Int) (s6 : List Int) (x7 : Int) (y8 : Int) (op9 : Int) (hl : (List.range (s5).toNat).length ≤ 9223372036854775807) (k : Nat) (s53 : (List Int)) (hk : k ≤ (List.range (s5).toNat).length) : loop (bitmap_Draw_loop7 b1 b2 s4 s5 s6 x7 y8 op9) ((((k : Nat) : Int), s53) : Int × (List Int)) =
    overL (bitmap_Draw_loop7_step b1 b2 s4 s5 s6 x7 y8 op9) (fun (s53 : (List Int)) => some s53) k ((List.range (s5).toNat).drop k) s53 := by
  refine loop_over (List.range (s5).toNat) (fun n (s : (List Int)) => ((((n : Nat) : Int), s) : Int × (List Int))) _ _ (fun s => ?_) (fun i x s h => ?_) k s53 hk
  · have h1 : ¬ (((List.range (s5).toNat).length : Nat) : Int) < s5 := by simp only [List.length_range]; omega
    unfold bitmap_Draw_loop7; simp only [h1, decide_false, Bool.false_eq_true, if_false, Option.map_some]
  · have hlt := lt_len_of_get h
    rw [List.length_range] at hlt hl
    rw [List.getElem?_range hlt] at h
    cases h
    have h1 : ((i : Nat) : Int) < s5 := by omega
    have h0 : (0 : Int) ≤ ((i : Nat) : Int) := by omega
    have hw : IntKind.i64.wrap (((i : Nat) : Int) + 1) = (((i + 1 : Nat) : Nat) : Int) := w64 (by omega)
    unfold bitmap_Draw_loop7 bitmap_Draw_loop7_step
    simp only [h1, h0, hw, decide_true, if_true, and_self, true_and, Int.toNat_natCast, Option.bind_some, Option.map_bind, Function.comp_def, map_ite, map_elim, Option.map_some, Option.map_none]
theorem bitmap_Draw_loop7_over (b1 : Int) (b2 : Int) (s4 : Int) (s5 : Int) (s6 : List Int) (x7 : Int) (y8 : Int) (op9 : Int) (hl : (List.range (s5).toNat).length ≤ 9223372036854775807) (s53 : (List Int)) : loop (bitmap_Draw_loop7 b1 b2 s4 s5 s6 x7 y8 op9) ((0, s53) : Int × (List Int)) =
    overL (bitmap_Draw_loop7_step b1 b2 s4 s5 s6 x7 y8 op9) (fun (s53 : (List Int)) => some s53) 0 (List.range (s5).toNat) s53 := bitmap_Draw_loop7_overAt b1 b2 s4 s5 s6 x7 y8 op9 hl 0 s53 (Nat.zero_le _)

theorem bitmap_Draw_eq (b1 : Int) (b2 : Int) (b3 : List Int) (s4 : Int) (s5 : Int) (s6 : List Int) (x7 : Int) (y8 : Int) (op9 : Int) : bitmap_Draw b1 b2 b3 s4 s5 s6 x7 y8 op9 =
   ((bitmap_Valid b1 b2 b3).bind fun (q10 : Bool) =>
    (if (!q10) = true then
     some true
     else
     (bitmap_Valid s4 s5 s6).bind fun (q11 : Bool) =>
     some (!q11)) : Option (Bool)).bind (fun (v12 : Bool) =>
    ((if v12 = true then
      some (Sum.inr (30, 0, 0, []))
      else
      ((if (decide (op9 < 0)) = true then
        some true
        else
        (if (decide (op9 > 4)) = true then
         some true
         else
         (bitmap_isShift x7 y8).bind fun (q13 : Bool) =>
         some (!q13))) : Option (Bool)).bind (fun (v14 : Bool) =>
       (if v14 = true then
        some (Sum.inr (2, 0, 0, []))
        else
        some (Sum.inl (0, 0, []))))) : Option ((Int × Int × (List Int)) ⊕ (Int × Int × Int × (List Int)))).bind (fun (o24 : (Int × Int × (List Int)) ⊕ (Int × Int × Int × (List Int))) =>
     (Sum.elim (fun (p15 : Int × Int × (List Int)) =>
       let b16 : Int := p15.1;
       let b17 : Int := p15.2.1;
       let b18 : List Int := p15.2.2;
       (bitmap_clone b1 b2 b3).bind fun (q25 : Int × Int × (List Int)) =>
       let tr26 : Int := q25.1;
       let tr27 : Int := q25.2.1;
       let tr28 : List Int := q25.2.2;
       (loop (bitmap_Draw_loop7 b1 b2 s4 s5 s6 x7 y8 op9) (0, tr28)).bind (fun (b54 : (List Int)) =>
        some (tr26, tr27, b54, 0)))
      (fun (p19 : Int × Int × Int × (List Int)) =>
       let v20 : Int := p19.1;
       let b21 : Int := p19.2.1;
       let b22 : Int := p19.2.2.1;
       let b23 : List Int := p19.2.2.2;
       some (b21, b22, b23, v20)) o24))) := (call_eq ..).trans (by kernel_rfl)

theorem generic_Encode_eq (o1 : Int) (o2 : Int) (o3 : Int) (o4 : Bool) (o5 : Int) (b6 : Int) (b7 : Int) (b8 : List Int) : generic_Encode o1 o2 o3 o4 o5 b6 b7 b8 =
   (generic_Valid o1 o2 o3 o4 o5).bind fun (q9 : Bool) =>
   (if (!q9) = true then
    some ([], 2)
    else
    (bitmap_Valid b6 b7 b8).bind fun (q10 : Bool) =>
    (if (!q10) = true then
     some ([], 30)
     else
     (generic_contexts o1 o2 o3 o4 o5).bind fun (q11 : Int) =>
     let t12 : Int := IntKind.i64.wrap (q11 + 1);
     (coder_New o5 t12).bind fun (q13 : Int × (List Int) × Int) =>
     let tr14 : Int := q13.1;
     let tr15 : List Int := q13.2.1;
     let tr16 : Int := q13.2.2;
     (coder_NewEncoder tr14 tr15).bind fun (o37 : (Int × Int × Int × (List Int) × (List Int)) ⊕ (Unit)) =>
     (Sum.elim (fun (q17 : Int × Int × Int × (List Int) × (List Int)) =>
       let tr18 : Int := q17.1;
       let tr19 : Int := q17.2.1;
       let tr20 : Int := q17.2.2.1;
       let tr21 : List Int := q17.2.2.2.1;
       let tr22 : List Int := q17.2.2.2.2;
       (generic_put 0 o1 o2 o3 o4 o5 b6 b7 b8 0 0 [] tr18 tr19 tr20 tr21 tr22).bind fun (q23 : Int × Int × Int × (List Int) × (List Int)) =>
       let tr24 : Int := q23.1;
       let tr25 : Int := q23.2.1;
       let tr26 : Int := q23.2.2.1;
       let tr27 : List Int := q23.2.2.2.1;
       let tr28 : List Int := q23.2.2.2.2;
       (coder_Encoder_End tr24 tr25 tr26 tr27 tr28).bind fun (q29 : (List Int) × Int × Int × Int × (List Int) × (List Int)) =>
       let tr30 : List Int := q29.1;
       let tr31 : Int := q29.2.1;
       let tr32 : Int := q29.2.2.1;
       let tr33 : Int := q29.2.2.2.1;
       let tr34 : List Int := q29.2.2.2.2.1;
       let tr35 : List Int := q29.2.2.2.2.2;
       some (tr30, 0))
      (fun (q36 : Unit) =>
       none) o37))) := (call_eq ..).trans (by kernel_rfl)

noncomputable def bits_Size_loop5 (s6 : Int × (List Int)) : Option ((Int × (List Int)) ⊕ ((List Int))) :=
   let n7 : Int := s6.1;
   let out8 : List Int := s6.2;
   (if (decide (n7 > 0)) = true then
    let t9 : Int := n7.tmod 128;
    let t10 : Int := IntKind.u8.wrap t9;
    let t11 : Int := IntKind.u8.wrap (t10 + 128);
    (if (([t11] : List Int).length + out8.length) * 1 ≤ 140737488355328 then
     let t12 : List Int := ([t11] : List Int) ++ out8;
     let t13 : Int := IntKind.i64.wrap (n7.tdiv 128);
     some (Sum.inl (t13, t12))
     else
     none)
    else
    some (Sum.inr out8))
theorem bits_Size_eq (n1 : Int) : bits_Size n1 =
   ((if (decide (n1 < 0)) = true then
     some true
     else
     some (decide (n1 > 2147483647))) : Option (Bool)).bind (fun (v2 : Bool) =>
    (if v2 = true then
     some ([], 2)
     else
     let t3 : Int := n1.tmod 128;
     let t4 : Int := IntKind.u8.wrap t3;
     let t5 : Int := IntKind.i64.wrap (n1.tdiv 128);
     (loop (bits_Size_loop5) (t5, [t4])).bind (fun (out14 : (List Int)) =>
      some (out14, 0)))) := (call_eq ..).trans (by kernel_rfl)

theorem ref07_Usual_eq (n1 : Int) : ref07_Usual n1 =
   ((if (decide (n1 < 0)) = true then
     some true
     else
     some (decide (n1 > 3))) : Option (Bool)).bind (fun (v2 : Bool) =>
    (if v2 = true then
     some (0, 0, 0, false, 0, 2)
     else
     let t3 : Int := n1.tmod 2;
     let t4 : Int := IntKind.i64.wrap (3 - t3);
     some (n1, t4, (-1), true, 0, 0))) := (call_eq ..).trans (by kernel_rfl)

noncomputable def ref11_bitmaps_loop2 (l1 : List Bitmap) (i2 : Int) : Option ((Int) ⊕ ((Unit) ⊕ (Int))) :=
   (if (decide (i2 < ((l1.length : Nat) : Int))) = true then
    (if 0 ≤ i2 then
     (l1[i2.toNat]?).bind fun e3 =>
     (ref05_Valid e3.w e3.h e3.pix).bind fun (q4 : Bool) =>
     (if (!q4) = true then
      some (Sum.inr (Sum.inr 30))
      else
      (if 0 ≤ i2 then
       (l1[i2.toNat]?).bind fun e5 =>
       (if 0 ≤ (0 : Int) then
        (l1[(0 : Int).toNat]?).bind fun e6 =>
        (if (!decide (e5.w = e6.w)) = true then
         some (Sum.inr (Sum.inr 30))
         else
         (if 0 ≤ i2 then
          (l1[i2.toNat]?).bind fun e7 =>
          (if 0 ≤ (0 : Int) then
           (l1[(0 : Int).toNat]?).bind fun e8 =>
           (if (!decide (e7.h = e8.h)) = true then
            some (Sum.inr (Sum.inr 30))
            else
            let t9 : Int := IntKind.i64.wrap (i2 + 1);
            some (Sum.inl t9))
           else
           none)
          else
          none))
        else
        none)
       else
       none))
     else
     none)
    else
    some (Sum.inr (Sum.inl ())))
noncomputable def ref11_bitmaps_loop2_step (l1 : List Bitmap) (i10 : Nat) (x11 : Bitmap) (s12 : Unit) : Option ((Unit) ⊕ ((Unit) ⊕ (Int))) :=
   (ref05_Valid x11.w x11.h x11.pix).bind fun (q4 : Bool) =>
   (if (!q4) = true then
    some (Sum.inr (Sum.inr 30))
    else
    (if 0 ≤ (0 : Int) then
     (l1[(0 : Int).toNat]?).bind fun e6 =>
     (if (!decide (x11.w = e6.w)) = true then
      some (Sum.inr (Sum.inr 30))
      else
      (if 0 ≤ (0 : Int) then
       (l1[(0 : Int).toNat]?).bind fun e8 =>
       (if (!decide (x11.h = e8.h)) = true then
        some (Sum.inr (Sum.inr 30))
        else
        some (Sum.inl (())))
       else
       none))
     else
     none))
theorem ref11_bitmaps_loop2_overAt (l1 : List Bitmap) (hl : l1.length ≤ 9223372036854775807) (k : Nat) (s12 : Unit) (hk : k ≤ l1.length) : loop (ref11_bitmaps_loop2 l1) (((k : Nat) : Int) : Int) =
    overL (ref11_bitmaps_loop2_step l1) (fun (s12 : Unit) => some (Sum.inl ())) k (l1.drop k) s12 := by
  refine loop_over l1 (fun n (s : Unit) => (((n : Nat) : Int) : Int)) _ _ (fun s => ?_) (fun i x s h => ?_) k s12 hk
  · unfold ref11_bitmaps_loop2; simp
  · have hlt := lt_len_of_get h
    have h1 : ((i : Nat) : Int) < ((l1.length : Nat) : Int) := by omega
    have h0 : (0 : Int) ≤ ((i : Nat) : Int) := by omega
    have hw : IntKind.i64.wrap (((i : Nat) : Int) + 1) = (((i + 1 : Nat) : Nat) : Int) := w64 (by omega)
    unfold ref11_bitmaps_loop2 ref11_bitmaps_loop2_step
    simp only [h1, h0, hw, h, decide_true, if_true, and_self, true_and, Int.toNat_natCast, Option.bind_some, Option.map_bind, Function.comp_def, map_ite, map_elim, Option.map_some, Option.map_none]
theorem ref11_bitmaps_loop2_over (l1 : List Bitmap) (hl : l1.length ≤ 9223372036854775807) (s12 : Unit) : loop (ref11_bitmaps_loop2 l1) (0 : Int) =
    overL (ref11_bitmaps_loop2_step l1) (fun (s12 : Unit) => some (Sum.inl ())) 0 l1 s12 := ref11_bitmaps_loop2_overAt l1 hl 0 s12 (Nat.zero_le _)

theorem ref11_bitmaps_eq (l1 : List Bitmap) : ref11_bitmaps l1 =
   (loop (ref11_bitmaps_loop2 l1) 0).bind (fun (o15 : (Unit) ⊕ (Int)) =>
    (Sum.elim (fun (p13 : Unit) =>
      some 0)
     (fun (v14 : Int) =>
      some v14) o15)) := (call_eq ..).trans (by kernel_rfl)

theorem ref11_patterns_eq (l1 : List Bitmap) : ref11_patterns l1 =
   (if (decide (((l1.length : Nat) : Int) = 0)) = true then
    some 2
    else
    (if 0 ≤ (0 : Int) then
     (l1[(0 : Int).toNat]?).bind fun e2 =>
     (if 0 ≤ (0 : Int) then
      (l1[(0 : Int).toNat]?).bind fun e3 =>
      (ref11_isSides ((l1.length : Nat) : Int) e2.w e3.h).bind fun (q4 : Bool) =>
      (if (!q4) = true then
       some 2
       else
       some 0)
      else
      none)
     else
     none)) := (call_eq ..).trans (by kernel_rfl)

theorem ref05_New_eq (w1 : Int) (h2 : Int) (pixel3 : Int) : ref05_New w1 h2 pixel3 =
   ((if (decide (w1 < 0)) = true then
     some true
     else
     (if (decide (h2 < 0)) = true then
      some true
      else
      (if (decide (pixel3 < 0)) = true then
       some true
       else
       some (decide (pixel3 > 1))))) : Option (Bool)).bind (fun (v4 : Bool) =>
    (if v4 = true then
     some (0, 0, 2, [])
     else
     (ref05_Sides w1 h2).bind fun (q5 : Bool) =>
     (if (!q5) = true then
      some (0, 0, 4, [])
      else
      (ref05_make2 w1 h2 pixel3).bind fun (q6 : Int × Int × (List Int)) =>
      let tr7 : Int := q6.1;
      let tr8 : Int := q6.2.1;
      let tr9 : List Int := q6.2.2;
      some (tr7, tr8, 0, tr9)))) := (call_eq ..).trans (by kernel_rfl)

noncomputable def ref05_Lay_loop5 (b1 : Int) (b2 : Int) (s3 : Int) (s4 : Int) (s5 : List Int) (x6 : Int) (y7 : Int) (op8 : Int) (v11 : Int) (s13 : Int × (List Int)) : Option ((Int × (List Int)) ⊕ ((List Int))) :=
   let u14 : Int := s13.1;
   let b15 : List Int := s13.2;
   (if (decide (u14 < s3)) = true then
    let t16 : Int := IntKind.i64.wrap (x6 + u14);
    let t17 : Int := IntKind.i64.wrap (y7 + v11);
    (ref05_inside b1 b2 b15 t16 t17).bind fun (q18 : Bool) =>
    (if q18 = true then
     let t19 : Int := IntKind.i64.wrap (x6 + u14);
     let t20 : Int := IntKind.i64.wrap (y7 + v11);
     let t21 : Int := IntKind.i64.wrap (x6 + u14);
     let t22 : Int := IntKind.i64.wrap (y7 + v11);
     (ref05_At b1 b2 b15 t21 t22).bind fun (q23 : Int) =>
     (ref05_At s3 s4 s5 u14 v11).bind fun (q24 : Int) =>
     (ref05_Mix op8 q23 q24).bind fun (q25 : Int) =>
     (ref05_Put b1 b2 t19 t20 q25 b15).bind fun (q26 : (List Int)) =>
     let t27 : Int := IntKind.i64.wrap (u14 + 1);
     some (Sum.inl (t27, q26))
     else
     let t28 : Int := IntKind.i64.wrap (u14 + 1);
     some (Sum.inl (t28, b15)))
    else
    some (Sum.inr b15))
noncomputable def ref05_Lay_loop5_step (b1 : Int) (b2 : Int) (s3 : Int) (s4 : Int) (s5 : List Int) (x6 : Int) (y7 : Int) (op8 : Int) (v11 : Int) (i29 : Nat) (x30 : Nat) (s31 : (List Int)) : Option (((List Int)) ⊕ ((List Int))) :=
   let t16 : Int := IntKind.i64.wrap (x6 + ((i29 : Nat) : Int));
   let t17 : Int := IntKind.i64.wrap (y7 + v11);
   (ref05_inside b1 b2 s31 t16 t17).bind fun (q18 : Bool) =>
   (if q18 = true then
    let t19 : Int := IntKind.i64.wrap (x6 + ((i29 : Nat) : Int));
    let t20 : Int := IntKind.i64.wrap (y7 + v11);
    let t21 : Int := IntKind.i64.wrap (x6 + ((i29 : Nat) : Int));
    let t22 : Int := IntKind.i64.wrap (y7 + v11);
    (ref05_At b1 b2 s31 t21 t22).bind fun (q23 : Int) =>
    (ref05_At s3 s4 s5 ((i29 : Nat) : Int) v11).bind fun (q24 : Int) =>
    (ref05_Mix op8 q23 q24).bind fun (q25 : Int) =>
    (ref05_Put b1 b2 t19 t20 q25 s31).bind fun (q26 : (List Int)) =>
    some (Sum.inl (q26))
    else
    some (Sum.inl (s31)))
theorem ref05_Lay_loop5_overAt (b1 : Int) (b2 : Int) (s3 : Int) (s4 : Int) (s5 : List Int) (x6 : Int) (y7 : Int) (op8 : Int) (v11 : Int) (hl : (List.range (s3).toNat).length ≤ 9223372036854775807) (k : Nat) (s31 : (List Int)) (hk : k ≤ (List.range (s3).toNat).length) : loop (ref05_Lay_loop5 b1 b2 s3 s4 s5 x6 y7 op8 v11) ((((k : Nat) : Int), s31) : Int × (List Int)) =
    overL (ref05_Lay_loop5_step b1 b2 s3 s4 s5 x6 y7 op8 v11) (fun (s31 : (List Int)) => some s31) k ((List.range (s3).toNat).drop k) s31 := by
  refine loop_over (List.range (s3).toNat) (fun n (s : (List Int)) => ((((n : Nat) : Int), s) : Int × (List Int))) _ _ (fun s => ?_) (fun i x s h => ?_) k s31 hk
  · have h1 : ¬ (((List.range (s3).toNat).length : Nat) : Int) < s3 := by simp only [List.length_range]; omega
    unfold ref05_Lay_loop5; simp only [h1, decide_false, Bool.false_eq_true, if_false, Option.map_some]
  · have hlt := lt_len_of_get h
    rw [List.length_range] at hlt hl
    rw [List.getElem?_range hlt] at h
    cases h
    have h1 : ((i : Nat) : Int) < s3 := by omega
    have h0 : (0 : Int) ≤ ((i : Nat) : Int) := by omega
    have hw : IntKind.i64.wrap (((i : Nat) : Int) + 1) = (((i + 1 : Nat) : Nat) : Int) := w64 (by omega)
    unfold ref05_Lay_loop5 ref05_Lay_loop5_step
    simp only [h1, h0, hw, decide_true, if_true, and_self, true_and, Int.toNat_natCast, Option.bind_some, Option.map_bind, Function.comp_def, map_ite, map_elim, Option.map_some, Option.map_none]
theorem ref05_Lay_loop5_over (b1 : Int) (b2 : Int) (s3 : Int) (s4 : Int) (s5 : List Int) (x6 : Int) (y7 : Int) (op8 : Int) (v11 : Int) (hl : (List.range (s3).toNat).length ≤ 9223372036854775807) (s31 : (List Int)) : loop (ref05_Lay_loop5 b1 b2 s3 s4 s5 x6 y7 op8 v11) ((0, s31) : Int × (List Int)) =
    overL (ref05_Lay_loop5_step b1 b2 s3 s4 s5 x6 y7 op8 v11) (fun (s31 : (List Int)) => some s31) 0 (List.range (s3).toNat) s31 := ref05_Lay_loop5_overAt b1 b2 s3 s4 s5 x6 y7 op8 v11 hl 0 s31 (Nat.zero_le _)

noncomputable def ref05_Lay_loop2 (b1 : Int) (b2 : Int) (s3 : Int) (s4 : Int) (s5 : List Int) (x6 : Int) (y7 : Int) (op8 : Int) (s10 : Int × (List Int)) : Option ((Int × (List Int)) ⊕ ((List Int))) :=
   let v11 : Int := s10.1;
   let b12 : List Int := s10.2;
   (if (decide (v11 < s4)) = true then
    (loop (ref05_Lay_loop5 b1 b2 s3 s4 s5 x6 y7 op8 v11) (0, b12)).bind (fun (b32 : (List Int)) =>
     let t33 : Int := IntKind.i64.wrap (v11 + 1);
     some (Sum.inl (t33, b32)))
    else
    some (Sum.inr b12))
noncomputable def ref05_Lay_loop2_step (b1 : Int) (b2 : Int) (s3 : Int) (s4 : Int) (s5 : List Int) (x6 : Int) (y7 : Int) (op8 : Int) (i34 : Nat) (x35 : Nat) (s36 : (List Int)) : Option (((List Int)) ⊕ ((List Int))) :=
   (loop (ref05_Lay_loop5 b1 b2 s3 s4 s5 x6 y7 op8 ((i34 : Nat) : Int)) (0, s36)).bind (fun (b32 : (List Int)) =>
    some (Sum.inl (b32)))
theorem ref05_Lay_loop2_overAt (b1 : Int) (b2 : Int) (s3 : Int) (s4 : Int) (s5 : List Int) (x6 : Int) (y7 : Int) (op8 : Int) (hl : (List.range (s4).toNat).length ≤ 9223372036854775807) (k : Nat) (s36 : (List Int)) (hk : k ≤ (List.range (s4).toNat).length) : loop (ref05_Lay_loop2 b1 b2 s3 s4 s5 x6 y7 op8) ((((k : Nat) : Int), s36) : Int × (List Int)) =
    overL (ref05_Lay_loop2_step b1 b2 s3 s4 s5 x6 y7 op8) (fun (s36 : (List Int)) => some s36) k ((List.range (s4).toNat).drop k) s36 := by
  refine loop_over (List.range (s4).toNat) (fun n (s : (List Int)) => ((((n : Nat) : Int), s) : Int × (List Int))) _ _ (fun s => ?_) (fun i x s h => ?_) k s36 hk
  · have h1 : ¬ (((List.range (s4).toNat).length : Nat) : Int) < s4 := by simp only [List.length_range]; omega
    unfold ref05_Lay_loop2; simp only [h1, decide_false, Bool.false_eq_true, if_false, Option.map_some]
  · have hlt := lt_len_of_get h
    rw [List.length_range] at hlt hl
    rw [List.getElem?_range hlt] at h
    cases h
    have h1 : ((i : Nat) : Int) < s4 := by omega
    have h0 : (0 : Int) ≤ ((i : Nat) : Int) := by omega
    have hw : IntKind.i64.wrap (((i : Nat) : Int) + 1) = (((i + 1 : Nat) : Nat) : Int) := w64 (by omega)
    unfold ref05_Lay_loop2 ref05_Lay_loop2_step
    simp only [h1, h0, hw, decide_true, if_true, and_self, true_and, Int.toNat_natCast, Option.bind_some, Option.map_bind, Function.comp_def, map_ite, map_elim, Option.map_some, Option.map_none]
theorem ref05_Lay_loop2_over (b1 : Int) (b2 : Int) (s3 : Int) (s4 : Int) (s5 : List Int) (x6 : Int) (y7 : Int) (op8 : Int) (hl : (List.range (s4).toNat).length ≤ 9223372036854775807) (s36 : (List Int)) : loop (ref05_Lay_loop2 b1 b2 s3 s4 s5 x6 y7 op8) ((0, s36) : Int × (List Int)) =
    overL (ref05_Lay_loop2_step b1 b2 s3 s4 s5 x6 y7 op8) (fun (s36 : (List Int)) => some s36) 0 (List.range (s4).toNat) s36 := ref05_Lay_loop2_overAt b1 b2 s3 s4 s5 x6 y7 op8 hl 0 s36 (Nat.zero_le _)

theorem ref05_Lay_eq (b1 : Int) (b2 : Int) (s3 : Int) (s4 : Int) (s5 : List Int) (x6 : Int) (y7 : Int) (op8 : Int) (b9 : List Int) : ref05_Lay b1 b2 s3 s4 s5 x6 y7 op8 b9 =
   (loop (ref05_Lay_loop2 b1 b2 s3 s4 s5 x6 y7 op8) (0, b9)).bind (fun (b37 : (List Int)) =>
    some b37) := (call_eq ..).trans (by kernel_rfl)

theorem ref07_Encode_eq (o1 : Int) (o2 : Int) (o3 : Int) (o4 : Bool) (o5 : Int) (b6 : Int) (b7 : Int) (b8 : List Int) : ref07_Encode o1 o2 o3 o4 o5 b6 b7 b8 =
   (ref07_Size o1 o2 o3 o4 o5).bind fun (q9 : Int × Int) =>
   let tr10 : Int := q9.1;
   let tr11 : Int := q9.2;
   (if (!decide (tr11 = 0)) = true then
    some ([], tr11)
    else
    (ref02_New o5 tr10).bind fun (q12 : Int × (List Int) × Int) =>
    let tr13 : Int := q12.1;
    let tr14 : List Int := q12.2.1;
    let tr15 : Int := q12.2.2;
    (ref02_NewEncoder tr13 tr14).bind fun (o37 : (Int × Int × Int × (List Int) × (List Int)) ⊕ (Unit)) =>
    (Sum.elim (fun (q16 : Int × Int × Int × (List Int) × (List Int)) =>
      let tr17 : Int := q16.1;
      let tr18 : Int := q16.2.1;
      let tr19 : Int := q16.2.2.1;
      let tr20 : List Int := q16.2.2.2.1;
      let tr21 : List Int := q16.2.2.2.2;
      (ref07_Put 0 o1 o2 o3 o4 o5 b6 b7 b8 0 0 [] tr17 tr18 tr19 tr20 tr21).bind fun (q22 : Int × Int × Int × Int × (List Int) × (List Int)) =>
      let tr23 : Int := q22.1;
      let tr24 : Int := q22.2.1;
      let tr25 : Int := q22.2.2.1;
      let tr26 : Int := q22.2.2.2.1;
      let tr27 : List Int := q22.2.2.2.2.1;
      let tr28 : List Int := q22.2.2.2.2.2;
      (if (!decide (tr23 = 0)) = true then
       some ([], tr23)
       else
       (ref02_Encoder_End tr24 tr25 tr26 tr27 tr28).bind fun (q29 : (List Int) × Int × Int × Int × (List Int) × (List Int)) =>
       let tr30 : List Int := q29.1;
       let tr31 : Int := q29.2.1;
       let tr32 : Int := q29.2.2.1;
       let tr33 : Int := q29.2.2.2.1;
       let tr34 : List Int := q29.2.2.2.2.1;
       let tr35 : List Int := q29.2.2.2.2.2;
       some (tr30, 0)))
     (fun (q36 : Unit) =>
      none) o37)) := (call_eq ..).trans (by kernel_rfl)

noncomputable def ref01_Size_loop5 (s6 : Int × (List Int)) : Option ((Int × (List Int)) ⊕ ((List Int))) :=
   let n7 : Int := s6.1;
   let out8 : List Int := s6.2;
   (if (decide (n7 > 0)) = true then
    let t9 : Int := n7.tmod 128;
    let t10 : Int := IntKind.i64.wrap (128 + t9);
    let t11 : Int := IntKind.u8.wrap t10;
    (if (([t11] : List Int).length + out8.length) * 1 ≤ 140737488355328 then
     let t12 : List Int := ([t11] : List Int) ++ out8;
     let t13 : Int := IntKind.i64.wrap (n7.tdiv 128);
     some (Sum.inl (t13, t12))
     else
     none)
    else
    some (Sum.inr out8))
theorem ref01_Size_eq (n1 : Int) : ref01_Size n1 =
   ((if (decide (n1 < 0)) = true then
     some true
     else
     some (decide (n1 > 2147483647))) : Option (Bool)).bind (fun (v2 : Bool) =>
    (if v2 = true then
     some ([], 2)
     else
     let t3 : Int := n1.tmod 128;
     let t4 : Int := IntKind.u8.wrap t3;
     let t5 : Int := IntKind.i64.wrap (n1.tdiv 128);
     (loop (ref01_Size_loop5) (t5, [t4])).bind (fun (out14 : (List Int)) =>
      some (out14, 0)))) := (call_eq ..).trans (by kernel_rfl)

theorem page_near_eq (n1 : Int) : page_near n1 =
   (if (decide (n1 ≥ (-100000))) = true then
    some (decide (n1 ≤ 100000))
    else
    some false) := (call_eq ..).trans (by kernel_rfl)

theorem bitmap_blank_eq (w1 : Int) (h2 : Int) : bitmap_blank w1 h2 =
   (bitmap_fits w1 h2).bind fun (q3 : Bool) =>
   (if (!q3) = true then
    some (0, 0, 4, [])
    else
    let t4 : Int := IntKind.i64.wrap (w1 * h2);
    (if 0 ≤ t4 ∧ t4 ≤ t4 ∧ ((1 : Nat) : Int) * t4 ≤ 281474976710656 then
     let t5 : List Int := List.replicate t4.toNat 0;
     some (w1, h2, 0, t5)
     else
     none)) := (call_eq ..).trans (by kernel_rfl)

theorem tone_begun_eq (a1 : Int) (a2 : Int) (a3 : Int) (a4 : Int) (a5 : Int) (a6 : Int) (a7 : Int) (a8 : Int) (a9 : Bool) (a10 : Int) (l11 : List Bitmap) (w12 : Int) (h13 : Int) : tone_begun a1 a2 a3 a4 a5 a6 a7 a8 a9 a10 l11 w12 h13 =
   (tone_Valid a1 a2 a3 a4 a5 a6 a7 a8 a9 a10).bind fun (q14 : Bool) =>
   (if (!q14) = true then
    some 2
    else
    (tone_rightPatterns l11).bind fun (q15 : Int) =>
    (if (decide (q15 = 30)) = true then
     some q15
     else
     (bitmap_New w12 h13 0).bind fun (q16 : Int × Int × Int × (List Int)) =>
     let tr17 : Int := q16.1;
     let tr18 : Int := q16.2.1;
     let tr19 : Int := q16.2.2.1;
     let tr20 : List Int := q16.2.2.2;
     (if (!decide (tr19 = 0)) = true then
      some 30
      else
      some q15))) := (call_eq ..).trans (by kernel_rfl)
end
end Go.Proofs.YtkccnhkhjncpkaaGreat.P
