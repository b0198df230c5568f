/- The equations of functions. Printed by wip/tool/vsym.py. -/
import Derived.Test.YtjabpjkomgakbaaG
import Derived.Test.YtjabpjkomgakbaaLib
namespace Go.Proofs.Ytjabpjkomgakbaa.P
open Go Go.Proofs.Ytjabpjkomgakbaa.V
set_option linter.unusedVariables false
set_option linter.unusedSimpArgs false
set_option maxRecDepth 100000
noncomputable section
theorem law13_PageInfos_eq (in1 : Int) (in2 : Int) (in3 : Int) (in4 : Int) (in5 : Int) : law13_PageInfos in1 in2 in3 in4 in5 =
   (page_Info in1 in2 in3 in4).bind fun (q6 : (List Int) × Int) =>
   let tr7 : List Int := q6.1;
   let tr8 : Int := q6.2;
   (ref13_Info in1 in2 in3 in4).bind fun (q9 : (List Int) × Int) =>
   let tr10 : List Int := q9.1;
   let tr11 : Int := q9.2;
   (page_Stripe in5).bind fun (q12 : (List Int) × Int) =>
   let tr13 : List Int := q12.1;
   let tr14 : Int := q12.2;
   (ref13_Stripe in5).bind fun (q15 : (List Int) × Int) =>
   let tr16 : List Int := q15.1;
   let tr17 : Int := q15.2;
   (if (decide (tr8 = tr11)) = true then
    (if (decide (tr14 = tr17)) = true then
     (ref01_SameBytes tr7 tr10).bind fun (q18 : Bool) =>
     (if q18 = true then
      (ref01_SameBytes tr13 tr16).bind fun (q19 : Bool) =>
      (if q19 = true then
       (law13_Sane).bind fun (q20 : Bool) =>
       some q20
       else
       some false)
      else
      some false)
     else
     some false)
    else
    some false) := (call_eq ..).trans (by kernel_rfl)

theorem law26_ChunkTogether_eq (l1 : List Chunk) (k2 : List Chunk) : law26_ChunkTogether l1 k2 =
   ((law26_large l1).bind fun (q3 : Bool) =>
    (if q3 = true then
     some true
     else
     (law26_large k2).bind fun (q4 : Bool) =>
     some q4) : Option (Bool)).bind (fun (v5 : Bool) =>
    (if v5 = true then
     (law26_Awake).bind fun (q6 : Bool) =>
     some q6
     else
     (if (([] : List Chunk).length + l1.length) * 80 ≤ 140737488355328 then
      let t7 : List Chunk := ([] : List Chunk) ++ l1;
      (if (t7.length + k2.length) * 80 ≤ 140737488355328 then
       let t8 : List Chunk := t7 ++ k2;
       (chunk_Put l1).bind fun (q9 : (List Int) × Int) =>
       let tr10 : List Int := q9.1;
       let tr11 : Int := q9.2;
       (chunk_Put k2).bind fun (q12 : (List Int) × Int) =>
       let tr13 : List Int := q12.1;
       let tr14 : Int := q12.2;
       (chunk_Put t8).bind fun (q15 : (List Int) × Int) =>
       let tr16 : List Int := q15.1;
       let tr17 : Int := q15.2;
       (if (!decide (tr17 = 0)) = true then
        ((if (decide (((tr16.length : Nat) : Int) = 0)) = true then
          (law26_Awake).bind fun (q18 : Bool) =>
          some q18
          else
          some false) : Option (Bool)).bind (fun (v19 : Bool) =>
         some v19)
        else
        (if (decide (tr11 = 0)) = true then
         (if (decide (tr14 = 0)) = true then
          (if (([] : List Int).length + tr10.length) * 1 ≤ 140737488355328 then
           let t20 : List Int := ([] : List Int) ++ tr10;
           (if (t20.length + tr13.length) * 1 ≤ 140737488355328 then
            let t21 : List Int := t20 ++ tr13;
            (ref02_SameBytes t21 tr16).bind fun (q22 : Bool) =>
            (if q22 = true then
             (law26_Awake).bind fun (q23 : Bool) =>
             some q23
             else
             some false)
            else
            none)
           else
           none)
          else
          some false)
         else
         some false))
       else
       none)
      else
      none))) := (call_eq ..).trans (by kernel_rfl)

noncomputable def law26_ChunkPuts_loop9 (l1 : List Chunk) (s18 : Int × Int) : Option ((Int × Int) ⊕ ((Int) ⊕ (Bool))) :=
   let all19 : Int := s18.1;
   let v20 : Int := s18.2;
   (if (decide (v20 < ((l1.length : Nat) : Int))) = true then
    (if 0 ≤ v20 then
     (l1[v20.toNat]?).bind fun e21 =>
     (chunk_Size e21.id e21.kind e21.data e21.kids).bind fun (q22 : Int × Int) =>
     let tr23 : Int := q22.1;
     let tr24 : Int := q22.2;
     (ref26_Size e21.id e21.kind e21.data e21.kids).bind fun (q25 : Int × Int) =>
     let tr26 : Int := q25.1;
     let tr27 : Int := q25.2;
     ((if (!decide (tr23 = tr26)) = true then
       some true
       else
       (if (!decide (tr24 = tr27)) = true then
        some true
        else
        (chunk_Valid e21.id e21.kind e21.data e21.kids).bind fun (q28 : Bool) =>
        (ref26_Valid e21.id e21.kind e21.data e21.kids).bind fun (q29 : Bool) =>
        some (!decide (q28 = q29)))) : Option (Bool)).bind (fun (v30 : Bool) =>
      (if v30 = true then
       some (Sum.inr (Sum.inr false))
       else
       let t31 : Int := IntKind.i64.wrap (all19 + tr23);
       let t32 : Int := IntKind.i64.wrap (v20 + 1);
       some (Sum.inl (t31, t32))))
     else
     none)
    else
    some (Sum.inr (Sum.inl all19)))
noncomputable def law26_ChunkPuts_loop9_step (i33 : Nat) (x34 : Chunk) (s35 : Int) : Option ((Int) ⊕ ((Int) ⊕ (Bool))) :=
   (chunk_Size x34.id x34.kind x34.data x34.kids).bind fun (q22 : Int × Int) =>
   let tr23 : Int := q22.1;
   let tr24 : Int := q22.2;
   (ref26_Size x34.id x34.kind x34.data x34.kids).bind fun (q25 : Int × Int) =>
   let tr26 : Int := q25.1;
   let tr27 : Int := q25.2;
   ((if (!decide (tr23 = tr26)) = true then
     some true
     else
     (if (!decide (tr24 = tr27)) = true then
      some true
      else
      (chunk_Valid x34.id x34.kind x34.data x34.kids).bind fun (q28 : Bool) =>
      (ref26_Valid x34.id x34.kind x34.data x34.kids).bind fun (q29 : Bool) =>
      some (!decide (q28 = q29)))) : Option (Bool)).bind (fun (v30 : Bool) =>
    (if v30 = true then
     some (Sum.inr (Sum.inr false))
     else
     let t31 : Int := IntKind.i64.wrap (s35 + tr23);
     some (Sum.inl (t31))))
theorem law26_ChunkPuts_loop9_overAt (l1 : List Chunk) (hl : l1.length ≤ 4611686018427387904) (k : Nat) (s35 : Int) (hk : k ≤ l1.length) : loop (law26_ChunkPuts_loop9 l1) ((s35, ((k : Nat) : Int)) : Int × Int) =
    overL (law26_ChunkPuts_loop9_step) (fun (s35 : Int) => some (Sum.inl s35)) k (l1.drop k) s35 := by
  refine loop_over l1 (fun n (s : Int) => ((s, ((n : Nat) : Int)) : Int × Int)) _ _ (fun s => ?_) (fun i x s h => ?_) k s35 hk
  · unfold law26_ChunkPuts_loop9; simp
  · have hlt := lt_len_of_get h
    have h1 : ((i : Nat) : Int) < ((l1.length : Nat) : Int) := by omega
    have h0 : (0 : Int) ≤ ((i : Nat) : Int) := by omega
    have hw : IntKind.i64.wrap (((i : Nat) : Int) + 1) = (((i + 1 : Nat) : Nat) : Int) := w64 (by omega)
    unfold law26_ChunkPuts_loop9 law26_ChunkPuts_loop9_step
    simp only [h1, h0, hw, h, decide_true, if_true, and_self, true_and, Int.toNat_natCast, Option.bind_some, Option.map_bind, Function.comp_def, map_ite, map_elim, Option.map_some, Option.map_none]
theorem law26_ChunkPuts_loop9_over (l1 : List Chunk) (hl : l1.length ≤ 4611686018427387904) (s35 : Int) : loop (law26_ChunkPuts_loop9 l1) ((s35, 0) : Int × Int) =
    overL (law26_ChunkPuts_loop9_step) (fun (s35 : Int) => some (Sum.inl s35)) 0 l1 s35 := law26_ChunkPuts_loop9_overAt l1 hl 0 s35 (Nat.zero_le _)

theorem law26_ChunkPuts_eq (l1 : List Chunk) (other2 : List Chunk) : law26_ChunkPuts l1 other2 =
   ((law26_large l1).bind fun (q3 : Bool) =>
    (if q3 = true then
     some true
     else
     (law26_large other2).bind fun (q4 : Bool) =>
     some q4) : Option (Bool)).bind (fun (v5 : Bool) =>
    (if v5 = true then
     (law26_Awake).bind fun (q6 : Bool) =>
     some q6
     else
     (chunk_Put l1).bind fun (q7 : (List Int) × Int) =>
     let tr8 : List Int := q7.1;
     let tr9 : Int := q7.2;
     (ref26_Put l1).bind fun (q10 : (List Int) × Int) =>
     let tr11 : List Int := q10.1;
     let tr12 : Int := q10.2;
     ((if (!decide (tr9 = tr12)) = true then
       some true
       else
       (ref02_SameBytes tr8 tr11).bind fun (q13 : Bool) =>
       (if (!q13) = true then
        some true
        else
        (chunk_Same l1 other2).bind fun (q14 : Bool) =>
        (ref26_Same l1 other2).bind fun (q15 : Bool) =>
        (if (!decide (q14 = q15)) = true then
         some true
         else
         (chunk_Same l1 l1).bind fun (q16 : Bool) =>
         some (!q16)))) : Option (Bool)).bind (fun (v17 : Bool) =>
      (if v17 = true then
       some false
       else
       (loop (law26_ChunkPuts_loop9 l1) (0, 0)).bind (fun (o38 : (Int) ⊕ (Bool)) =>
        (Sum.elim (fun (all36 : Int) =>
          (if (!decide (tr9 = 0)) = true then
           (law26_Awake).bind fun (q39 : Bool) =>
           some q39
           else
           (if (decide (all36 = ((tr8.length : Nat) : Int))) = true then
            (law26_Awake).bind fun (q40 : Bool) =>
            some q40
            else
            some false)))
         (fun (v37 : Bool) =>
          some v37) o38)))))) := (call_eq ..).trans (by kernel_rfl)

theorem law26_ChunkFinds_eq (l1 : List Chunk) (path2 : List (List Int)) (id3 : List Int) : law26_ChunkFinds l1 path2 id3 =
   ((law26_large l1).bind fun (q4 : Bool) =>
    (if q4 = true then
     some true
     else
     some (decide (((path2.length : Nat) : Int) > 100))) : Option (Bool)).bind (fun (v5 : Bool) =>
    (if v5 = true then
     (law26_Awake).bind fun (q6 : Bool) =>
     some q6
     else
     (chunk_Find l1 path2).bind fun (q7 : (List Int) × (List Int) × (List Int) × (List Chunk) × Int) =>
     let tr8 : List Int := q7.1;
     let tr9 : List Int := q7.2.1;
     let tr10 : List Int := q7.2.2.1;
     let tr11 : List Chunk := q7.2.2.2.1;
     let tr12 : Int := q7.2.2.2.2;
     (ref26_Find l1 path2).bind fun (q13 : (List Int) × (List Int) × (List Int) × (List Chunk) × Int) =>
     let tr14 : List Int := q13.1;
     let tr15 : List Int := q13.2.1;
     let tr16 : List Int := q13.2.2.1;
     let tr17 : List Chunk := q13.2.2.2.1;
     let tr18 : Int := q13.2.2.2.2;
     (chunk_All l1 id3).bind fun (q19 : (List Chunk) × Int) =>
     let tr20 : List Chunk := q19.1;
     let tr21 : Int := q19.2;
     (ref26_All l1 id3).bind fun (q22 : (List Chunk) × Int) =>
     let tr23 : List Chunk := q22.1;
     let tr24 : Int := q22.2;
     (if (decide (tr12 = tr18)) = true then
      (ref26_Same [(Chunk.mk tr8 tr9 tr10 tr11)] [(Chunk.mk tr14 tr15 tr16 tr17)]).bind fun (q25 : Bool) =>
      (if q25 = true then
       (if (decide (tr21 = tr24)) = true then
        (ref26_Same tr20 tr23).bind fun (q26 : Bool) =>
        (if q26 = true then
         (law26_Awake).bind fun (q27 : Bool) =>
         some q27
         else
         some false)
        else
        some false)
       else
       some false)
      else
      some false))) := (call_eq ..).trans (by kernel_rfl)

theorem law26_ChunkReplaces_eq (l1 : List Chunk) (id2 : List Int) (data3 : List Int) : law26_ChunkReplaces l1 id2 data3 =
   ((law26_large l1).bind fun (q4 : Bool) =>
    (if q4 = true then
     some true
     else
     some (decide (((data3.length : Nat) : Int) > 60000))) : Option (Bool)).bind (fun (v5 : Bool) =>
    (if v5 = true then
     (law26_Awake).bind fun (q6 : Bool) =>
     some q6
     else
     (chunk_Replace l1 id2 data3).bind fun (q7 : (List Chunk) × Int) =>
     let tr8 : List Chunk := q7.1;
     let tr9 : Int := q7.2;
     (ref26_Replace l1 id2 data3).bind fun (q10 : (List Chunk) × Int) =>
     let tr11 : List Chunk := q10.1;
     let tr12 : Int := q10.2;
     ((if (!decide (tr9 = tr12)) = true then
       some true
       else
       (ref26_Same tr8 tr11).bind fun (q13 : Bool) =>
       some (!q13)) : Option (Bool)).bind (fun (v14 : Bool) =>
      (if v14 = true then
       some false
       else
       (if (!decide (tr9 = 0)) = true then
        (law26_Awake).bind fun (q15 : Bool) =>
        some q15
        else
        (chunk_Find tr8 [id2]).bind fun (q16 : (List Int) × (List Int) × (List Int) × (List Chunk) × Int) =>
        let tr17 : List Int := q16.1;
        let tr18 : List Int := q16.2.1;
        let tr19 : List Int := q16.2.2.1;
        let tr20 : List Chunk := q16.2.2.2.1;
        let tr21 : Int := q16.2.2.2.2;
        (chunk_Replace tr8 id2 data3).bind fun (q22 : (List Chunk) × Int) =>
        let tr23 : List Chunk := q22.1;
        let tr24 : Int := q22.2;
        ((if (!decide (tr24 = 0)) = true then
          some true
          else
          (ref26_Same tr23 tr8).bind fun (q25 : Bool) =>
          some (!q25)) : Option (Bool)).bind (fun (v26 : Bool) =>
         (if v26 = true then
          some false
          else
          (if (decide (tr21 = 0)) = true then
           (if (decide (tr17 = [70, 79, 82, 77])) = true then
            (law26_Awake).bind fun (q27 : Bool) =>
            some q27
            else
            (ref02_SameBytes tr19 data3).bind fun (q28 : Bool) =>
            (if q28 = true then
             (law26_Awake).bind fun (q29 : Bool) =>
             some q29
             else
             some false))
           else
           some false)))))))) := (call_eq ..).trans (by kernel_rfl)

theorem law26_ChunkGets_eq (b1 : List Int) : law26_ChunkGets b1 =
   (if (decide (((b1.length : Nat) : Int) > 120000)) = true then
    (law26_Awake).bind fun (q2 : Bool) =>
    some q2
    else
    (chunk_Get b1).bind fun (q3 : (List Chunk) × Int × Int) =>
    let tr4 : List Chunk := q3.1;
    let tr5 : Int := q3.2.1;
    let tr6 : Int := q3.2.2;
    (ref26_Get b1).bind fun (q7 : (List Chunk) × Int × Int) =>
    let tr8 : List Chunk := q7.1;
    let tr9 : Int := q7.2.1;
    let tr10 : Int := q7.2.2;
    (if (decide (tr6 = tr10)) = true then
     (if (decide (tr5 = tr9)) = true then
      (ref26_Same tr4 tr8).bind fun (q11 : Bool) =>
      (if q11 = true then
       (law26_Awake).bind fun (q12 : Bool) =>
       some q12
       else
       some false)
      else
      some false)
     else
     some false)) := (call_eq ..).trans (by kernel_rfl)

theorem law26_ChunkAgain_eq (b1 : List Int) : law26_ChunkAgain b1 =
   (if (decide (((b1.length : Nat) : Int) > 120000)) = true then
    (law26_Awake).bind fun (q2 : Bool) =>
    some q2
    else
    (chunk_Get b1).bind fun (q3 : (List Chunk) × Int × Int) =>
    let tr4 : List Chunk := q3.1;
    let tr5 : Int := q3.2.1;
    let tr6 : Int := q3.2.2;
    (if (!decide (tr6 = 0)) = true then
     ((if (decide (((tr4.length : Nat) : Int) = 0)) = true then
       (law26_Awake).bind fun (q7 : Bool) =>
       some q7
       else
       some false) : Option (Bool)).bind (fun (v8 : Bool) =>
      some v8)
     else
     (chunk_Put tr4).bind fun (q9 : (List Int) × Int) =>
     let tr10 : List Int := q9.1;
     let tr11 : Int := q9.2;
     (if (decide (tr11 = 0)) = true then
      (ref02_SameBytes b1 tr10).bind fun (q12 : Bool) =>
      (if q12 = true then
       (law26_Awake).bind fun (q13 : Bool) =>
       some q13
       else
       some false)
      else
      some false))) := (call_eq ..).trans (by kernel_rfl)

theorem law26_ChunkHeals_eq (b1 : List Int) : law26_ChunkHeals b1 =
   (if (decide (((b1.length : Nat) : Int) > 5000)) = true then
    (law26_Awake).bind fun (q2 : Bool) =>
    some q2
    else
    (chunk_Heal b1).bind fun (q3 : (List Chunk) × Int) =>
    let tr4 : List Chunk := q3.1;
    let tr5 : Int := q3.2;
    (ref26_Heal b1).bind fun (q6 : (List Chunk) × Int) =>
    let tr7 : List Chunk := q6.1;
    let tr8 : Int := q6.2;
    (if (decide (tr5 = tr8)) = true then
     (ref26_Same tr4 tr7).bind fun (q9 : Bool) =>
     (if q9 = true then
      (law26_Awake).bind fun (q10 : Bool) =>
      some q10
      else
      some false)
     else
     some false)) := (call_eq ..).trans (by kernel_rfl)

theorem law26_ChunkBack_eq (l1 : List Chunk) : law26_ChunkBack l1 =
   (law26_large l1).bind fun (q2 : Bool) =>
   (if q2 = true then
    (law26_Awake).bind fun (q3 : Bool) =>
    some q3
    else
    (chunk_Put l1).bind fun (q4 : (List Int) × Int) =>
    let tr5 : List Int := q4.1;
    let tr6 : Int := q4.2;
    (if (!decide (tr6 = 0)) = true then
     ((if (decide (((tr5.length : Nat) : Int) = 0)) = true then
       (law26_Awake).bind fun (q7 : Bool) =>
       some q7
       else
       some false) : Option (Bool)).bind (fun (v8 : Bool) =>
      some v8)
     else
     (chunk_Get tr5).bind fun (q9 : (List Chunk) × Int × Int) =>
     let tr10 : List Chunk := q9.1;
     let tr11 : Int := q9.2.1;
     let tr12 : Int := q9.2.2;
     (chunk_Heal tr5).bind fun (q13 : (List Chunk) × Int) =>
     let tr14 : List Chunk := q13.1;
     let tr15 : Int := q13.2;
     (if (decide (tr12 = 0)) = true then
      (ref26_Same l1 tr10).bind fun (q16 : Bool) =>
      (if q16 = true then
       (ref26_Same l1 tr14).bind fun (q17 : Bool) =>
       (if q17 = true then
        (if (decide (tr15 = 0)) = true then
         (law26_Awake).bind fun (q18 : Bool) =>
         some q18
         else
         some false)
        else
        some false)
       else
       some false)
      else
      some false))) := (call_eq ..).trans (by kernel_rfl)

theorem page_Info_eq (w1 : Int) (h2 : Int) (pixel3 : Int) (op4 : Int) : page_Info w1 h2 pixel3 op4 =
   let t5 : Int := imax h2 0;
   (bitmap_New w1 t5 0).bind fun (q6 : Int × Int × (List Int) × Int) =>
   let tr7 : Int := q6.1;
   let tr8 : Int := q6.2.1;
   let tr9 : List Int := q6.2.2.1;
   let tr10 : Int := q6.2.2.2;
   ((if (!decide (tr10 = 0)) = true then
     some true
     else
     (if (decide (h2 < (-1))) = true then
      some true
      else
      (if (decide (pixel3 < 0)) = true then
       some true
       else
       (if (decide (pixel3 > 1)) = true then
        some true
        else
        (if (decide (op4 < 0)) = true then
         some true
         else
         some (decide (op4 > 4))))))) : Option (Bool)).bind (fun (v11 : Bool) =>
    (if v11 = true then
     some ([], 2)
     else
     let t12 : Int := IntKind.i64.wrap (h2 + 1);
     (page_writer_size [w1, t12] []).bind fun (q13 : (List Int)) =>
     let t14 : Int := IntKind.i64.wrap (2 * op4);
     let t15 : Int := IntKind.i64.wrap (pixel3 + t14);
     (page_writer_byte [t15] q13).bind fun (q16 : (List Int)) =>
     some (q16, 0))) := (call_eq ..).trans (by kernel_rfl)

theorem ref13_Info_eq (w1 : Int) (h2 : Int) (pixel3 : Int) (op4 : Int) : ref13_Info w1 h2 pixel3 op4 =
   (let t5 : Int := imax h2 0;
    (ref05_Sides w1 t5).bind fun (q6 : Bool) =>
    (if (!q6) = true then
     some true
     else
     (if (decide (h2 < (-1))) = true then
      some true
      else
      (if (decide (pixel3 < 0)) = true then
       some true
       else
       (if (decide (pixel3 > 1)) = true then
        some true
        else
        (if (decide (op4 < 0)) = true then
         some true
         else
         some (decide (op4 > 4))))))) : Option (Bool)).bind (fun (v7 : Bool) =>
    (if v7 = true then
     some ([], 2)
     else
     (ref13_size w1).bind fun (q8 : (List Int)) =>
     let t9 : Int := IntKind.i64.wrap (h2 + 1);
     (ref13_size t9).bind fun (q10 : (List Int)) =>
     let t11 : Int := IntKind.i64.wrap (2 * op4);
     let t12 : Int := IntKind.i64.wrap (pixel3 + t11);
     let t13 : Int := IntKind.u8.wrap t12;
     (ref13_join [q8, q10, [t13]]).bind fun (q14 : (List Int)) =>
     some (q14, 0))) := (call_eq ..).trans (by kernel_rfl)

theorem page_Stripe_eq (y1 : Int) : page_Stripe y1 =
   ((if (decide (y1 < 0)) = true then
     some true
     else
     some (decide (y1 ≥ 2147483648))) : Option (Bool)).bind (fun (v2 : Bool) =>
    (if v2 = true then
     some ([], 2)
     else
     (page_writer_size [y1] []).bind fun (q3 : (List Int)) =>
     some (q3, 0))) := (call_eq ..).trans (by kernel_rfl)

theorem ref13_Stripe_eq (y1 : Int) : ref13_Stripe y1 =
   (if (decide (y1 < 0)) = true then
    some ([], 2)
    else
    (if (decide (y1 > 2147483647)) = true then
     some ([], 2)
     else
     (ref13_size y1).bind fun (q2 : (List Int)) =>
     some (q2, 0))) := (call_eq ..).trans (by kernel_rfl)

theorem ref01_SameBytes_eq (a1 : List Int) (b2 : List Int) : ref01_SameBytes a1 b2 =
   some (decide (a1 = b2)) := (call_eq ..).trans (by kernel_rfl)

theorem law13_Sane_eq : law13_Sane =
   (page_Info 3 2 0 1).bind fun (q1 : (List Int) × Int) =>
   let tr2 : List Int := q1.1;
   let tr3 : Int := q1.2;
   (if (decide (tr3 = 0)) = true then
    (ref01_SameBytes tr2 [3, 3, 2]).bind fun (q4 : Bool) =>
    some q4
    else
    some false) := (call_eq ..).trans (by kernel_rfl)

theorem law26_large_eq (l1 : List Chunk) : law26_large l1 =
   (law26_weight l1 12).bind fun (q2 : Int × Int × Bool) =>
   let tr3 : Int := q2.1;
   let tr4 : Int := q2.2.1;
   let tr5 : Bool := q2.2.2;
   (if (decide (tr3 > 120000)) = true then
    some true
    else
    (if (decide (tr4 > 1200)) = true then
     some true
     else
     some tr5)) := (call_eq ..).trans (by kernel_rfl)

theorem law26_Awake_eq : law26_Awake =
   (chunk_Size [84, 69, 88, 84] [] [7] []).bind fun (q1 : Int × Int) =>
   let tr2 : Int := q1.1;
   let tr3 : Int := q1.2;
   (chunk_Put [(Chunk.mk [84, 69, 88, 84] [] [7] [])]).bind fun (q4 : (List Int) × Int) =>
   let tr5 : List Int := q4.1;
   let tr6 : Int := q4.2;
   (if (decide (tr2 = 10)) = true then
    (if (decide (tr3 = 0)) = true then
     (if (decide (tr6 = 0)) = true then
      some (decide (tr5 = [84, 69, 88, 84, 0, 0, 0, 1, 7, 0]))
      else
      some false)
     else
     some false)
    else
    some false) := (call_eq ..).trans (by kernel_rfl)

noncomputable def chunk_Put_loop5 (l1 : List Chunk) (s3 : Int × Int) : Option ((Int × Int) ⊕ (Int)) :=
   let n4 : Int := s3.1;
   let v5 : Int := s3.2;
   (if (decide (v5 < ((l1.length : Nat) : Int))) = true then
    (if 0 ≤ v5 then
     (l1[v5.toNat]?).bind fun e6 =>
     (chunk_size e6.id e6.kind e6.data e6.kids).bind fun (q7 : Int) =>
     let t8 : Int := IntKind.i64.wrap (n4 + q7);
     let t9 : Int := IntKind.i64.wrap (v5 + 1);
     some (Sum.inl (t8, t9))
     else
     none)
    else
    some (Sum.inr n4))
noncomputable def chunk_Put_loop5_step (i10 : Nat) (x11 : Chunk) (s12 : Int) : Option ((Int) ⊕ (Int)) :=
   (chunk_size x11.id x11.kind x11.data x11.kids).bind fun (q7 : Int) =>
   let t8 : Int := IntKind.i64.wrap (s12 + q7);
   some (Sum.inl (t8))
theorem chunk_Put_loop5_overAt (l1 : List Chunk) (hl : l1.length ≤ 4611686018427387904) (k : Nat) (s12 : Int) (hk : k ≤ l1.length) : loop (chunk_Put_loop5 l1) ((s12, ((k : Nat) : Int)) : Int × Int) =
    overL (chunk_Put_loop5_step) (fun (s12 : Int) => some s12) k (l1.drop k) s12 := by
  refine loop_over l1 (fun n (s : Int) => ((s, ((n : Nat) : Int)) : Int × Int)) _ _ (fun s => ?_) (fun i x s h => ?_) k s12 hk
  · unfold chunk_Put_loop5; simp
  · have hlt := lt_len_of_get h
    have h1 : ((i : Nat) : Int) < ((l1.length : Nat) : Int) := by omega
    have h0 : (0 : Int) ≤ ((i : Nat) : Int) := by omega
    have hw : IntKind.i64.wrap (((i : Nat) : Int) + 1) = (((i + 1 : Nat) : Nat) : Int) := w64 (by omega)
    unfold chunk_Put_loop5 chunk_Put_loop5_step
    simp only [h1, h0, hw, h, decide_true, if_true, and_self, true_and, Int.toNat_natCast, Option.bind_some, Option.map_bind, Function.comp_def, map_ite, map_elim, Option.map_some, Option.map_none]
theorem chunk_Put_loop5_over (l1 : List Chunk) (hl : l1.length ≤ 4611686018427387904) (s12 : Int) : loop (chunk_Put_loop5 l1) ((s12, 0) : Int × Int) =
    overL (chunk_Put_loop5_step) (fun (s12 : Int) => some s12) 0 l1 s12 := chunk_Put_loop5_overAt l1 hl 0 s12 (Nat.zero_le _)

noncomputable def chunk_Put_loop13 (l1 : List Chunk) (s14 : Int × (List Int)) : Option ((Int × (List Int)) ⊕ ((List Int))) :=
   let v15 : Int := s14.1;
   let out16 : List Int := s14.2;
   (if (decide (v15 < ((l1.length : Nat) : Int))) = true then
    (if 0 ≤ v15 then
     (l1[v15.toNat]?).bind fun e17 =>
     (chunk_put e17.id e17.kind e17.data e17.kids out16).bind fun (q18 : (List Int)) =>
     let t19 : Int := IntKind.i64.wrap (v15 + 1);
     some (Sum.inl (t19, q18))
     else
     none)
    else
    some (Sum.inr out16))
noncomputable def chunk_Put_loop13_step (i20 : Nat) (x21 : Chunk) (s22 : (List Int)) : Option (((List Int)) ⊕ ((List Int))) :=
   (chunk_put x21.id x21.kind x21.data x21.kids s22).bind fun (q18 : (List Int)) =>
   some (Sum.inl (q18))
theorem chunk_Put_loop13_overAt (l1 : List Chunk) (hl : l1.length ≤ 4611686018427387904) (k : Nat) (s22 : (List Int)) (hk : k ≤ l1.length) : loop (chunk_Put_loop13 l1) ((((k : Nat) : Int), s22) : Int × (List Int)) =
    overL (chunk_Put_loop13_step) (fun (s22 : (List Int)) => some s22) k (l1.drop k) s22 := by
  refine loop_over l1 (fun n (s : (List Int)) => ((((n : Nat) : Int), s) : Int × (List Int))) _ _ (fun s => ?_) (fun i x s h => ?_) k s22 hk
  · unfold chunk_Put_loop13; simp
  · have hlt := lt_len_of_get h
    have h1 : ((i : Nat) : Int) < ((l1.length : Nat) : Int) := by omega
    have h0 : (0 : Int) ≤ ((i : Nat) : Int) := by omega
    have hw : IntKind.i64.wrap (((i : Nat) : Int) + 1) = (((i + 1 : Nat) : Nat) : Int) := w64 (by omega)
    unfold chunk_Put_loop13 chunk_Put_loop13_step
    simp only [h1, h0, hw, h, decide_true, if_true, and_self, true_and, Int.toNat_natCast, Option.bind_some, Option.map_bind, Function.comp_def, map_ite, map_elim, Option.map_some, Option.map_none]
theorem chunk_Put_loop13_over (l1 : List Chunk) (hl : l1.length ≤ 4611686018427387904) (s22 : (List Int)) : loop (chunk_Put_loop13 l1) ((0, s22) : Int × (List Int)) =
    overL (chunk_Put_loop13_step) (fun (s22 : (List Int)) => some s22) 0 l1 s22 := chunk_Put_loop13_overAt l1 hl 0 s22 (Nat.zero_le _)

theorem chunk_Put_eq (l1 : List Chunk) : chunk_Put l1 =
   (chunk_valid l1).bind fun (q2 : Bool) =>
   (if (!q2) = true then
    some ([], 100)
    else
    (loop (chunk_Put_loop5 l1) (0, 0)).bind (fun (n13 : Int) =>
     (if (decide (n13 > 60000)) = true then
      some ([], 4)
      else
      (loop (chunk_Put_loop13 l1) (0, [])).bind (fun (out23 : (List Int)) =>
       some (out23, 0))))) := (call_eq ..).trans (by kernel_rfl)

noncomputable def ref02_SameBytes_loop4 (a1 : List Int) (b2 : List Int) (v3 : Int) : Option ((Int) ⊕ ((Unit) ⊕ (Bool))) :=
   (if (decide (v3 < ((a1.length : Nat) : Int))) = true then
    (if 0 ≤ v3 ∧ v3 < (a1.length : Int) then
     (if 0 ≤ v3 ∧ v3 < (b2.length : Int) then
      (if (!decide (rd a1 v3 = rd b2 v3)) = true then
       some (Sum.inr (Sum.inr false))
       else
       let t4 : Int := IntKind.i64.wrap (v3 + 1);
       some (Sum.inl t4))
      else
      none)
     else
     none)
    else
    some (Sum.inr (Sum.inl ())))
noncomputable def ref02_SameBytes_loop4_step (b2 : List Int) (i5 : Nat) (x6 : Int) (s7 : Unit) : Option ((Unit) ⊕ ((Unit) ⊕ (Bool))) :=
   (if 0 ≤ ((i5 : Nat) : Int) ∧ ((i5 : Nat) : Int) < (b2.length : Int) then
    (if (!decide (x6 = rd b2 ((i5 : Nat) : Int))) = true then
     some (Sum.inr (Sum.inr false))
     else
     some (Sum.inl (())))
    else
    none)
theorem ref02_SameBytes_loop4_overAt (a1 : List Int) (b2 : List Int) (hl : a1.length ≤ 4611686018427387904) (k : Nat) (s7 : Unit) (hk : k ≤ a1.length) : loop (ref02_SameBytes_loop4 a1 b2) (((k : Nat) : Int) : Int) =
    overL (ref02_SameBytes_loop4_step b2) (fun (s7 : Unit) => some (Sum.inl ())) k (a1.drop k) s7 := by
  refine loop_over a1 (fun n (s : Unit) => (((n : Nat) : Int) : Int)) _ _ (fun s => ?_) (fun i x s h => ?_) k s7 hk
  · unfold ref02_SameBytes_loop4; simp
  · have hlt := lt_len_of_get h
    have h1 : ((i : Nat) : Int) < ((a1.length : Nat) : Int) := by omega
    have h0 : (0 : Int) ≤ ((i : Nat) : Int) := by omega
    have hw : IntKind.i64.wrap (((i : Nat) : Int) + 1) = (((i + 1 : Nat) : Nat) : Int) := w64 (by omega)
    have hr : rd a1 ((i : Nat) : Int) = x := rd_nat h
    unfold ref02_SameBytes_loop4 ref02_SameBytes_loop4_step
    simp only [h1, h0, hw, h, hr, decide_true, if_true, and_self, true_and, Int.toNat_natCast, Option.bind_some, Option.map_bind, Function.comp_def, map_ite, map_elim, Option.map_some, Option.map_none]
theorem ref02_SameBytes_loop4_over (a1 : List Int) (b2 : List Int) (hl : a1.length ≤ 4611686018427387904) (s7 : Unit) : loop (ref02_SameBytes_loop4 a1 b2) (0 : Int) =
    overL (ref02_SameBytes_loop4_step b2) (fun (s7 : Unit) => some (Sum.inl ())) 0 a1 s7 := ref02_SameBytes_loop4_overAt a1 b2 hl 0 s7 (Nat.zero_le _)

theorem ref02_SameBytes_eq (a1 : List Int) (b2 : List Int) : ref02_SameBytes a1 b2 =
   (if (!decide (((a1.length : Nat) : Int) = ((b2.length : Nat) : Int))) = true then
    some false
    else
    (loop (ref02_SameBytes_loop4 a1 b2) 0).bind (fun (o10 : (Unit) ⊕ (Bool)) =>
     (Sum.elim (fun (p8 : Unit) =>
       some true)
      (fun (v9 : Bool) =>
       some v9) o10))) := (call_eq ..).trans (by kernel_rfl)

noncomputable def ref26_Put_loop5 (l1 : List Chunk) (s3 : Int × Int) : Option ((Int × Int) ⊕ (Int)) :=
   let n4 : Int := s3.1;
   let v5 : Int := s3.2;
   (if (decide (v5 < ((l1.length : Nat) : Int))) = true then
    (if 0 ≤ v5 then
     (l1[v5.toNat]?).bind fun e6 =>
     (ref26_size e6.id e6.kind e6.data e6.kids).bind fun (q7 : Int) =>
     let t8 : Int := IntKind.i64.wrap (n4 + q7);
     let t9 : Int := IntKind.i64.wrap (v5 + 1);
     some (Sum.inl (t8, t9))
     else
     none)
    else
    some (Sum.inr n4))
noncomputable def ref26_Put_loop5_step (i10 : Nat) (x11 : Chunk) (s12 : Int) : Option ((Int) ⊕ (Int)) :=
   (ref26_size x11.id x11.kind x11.data x11.kids).bind fun (q7 : Int) =>
   let t8 : Int := IntKind.i64.wrap (s12 + q7);
   some (Sum.inl (t8))
theorem ref26_Put_loop5_overAt (l1 : List Chunk) (hl : l1.length ≤ 4611686018427387904) (k : Nat) (s12 : Int) (hk : k ≤ l1.length) : loop (ref26_Put_loop5 l1) ((s12, ((k : Nat) : Int)) : Int × Int) =
    overL (ref26_Put_loop5_step) (fun (s12 : Int) => some s12) k (l1.drop k) s12 := by
  refine loop_over l1 (fun n (s : Int) => ((s, ((n : Nat) : Int)) : Int × Int)) _ _ (fun s => ?_) (fun i x s h => ?_) k s12 hk
  · unfold ref26_Put_loop5; simp
  · have hlt := lt_len_of_get h
    have h1 : ((i : Nat) : Int) < ((l1.length : Nat) : Int) := by omega
    have h0 : (0 : Int) ≤ ((i : Nat) : Int) := by omega
    have hw : IntKind.i64.wrap (((i : Nat) : Int) + 1) = (((i + 1 : Nat) : Nat) : Int) := w64 (by omega)
    unfold ref26_Put_loop5 ref26_Put_loop5_step
    simp only [h1, h0, hw, h, decide_true, if_true, and_self, true_and, Int.toNat_natCast, Option.bind_some, Option.map_bind, Function.comp_def, map_ite, map_elim, Option.map_some, Option.map_none]
theorem ref26_Put_loop5_over (l1 : List Chunk) (hl : l1.length ≤ 4611686018427387904) (s12 : Int) : loop (ref26_Put_loop5 l1) ((s12, 0) : Int × Int) =
    overL (ref26_Put_loop5_step) (fun (s12 : Int) => some s12) 0 l1 s12 := ref26_Put_loop5_overAt l1 hl 0 s12 (Nat.zero_le _)

theorem ref26_Put_eq (l1 : List Chunk) : ref26_Put l1 =
   (ref26_ValidList l1).bind fun (q2 : Bool) =>
   (if (!q2) = true then
    some ([], 100)
    else
    (loop (ref26_Put_loop5 l1) (0, 0)).bind (fun (n13 : Int) =>
     (if (decide (n13 > 60000)) = true then
      some ([], 4)
      else
      (ref26_bytes l1).bind fun (q14 : (List Int)) =>
      some (q14, 0)))) := (call_eq ..).trans (by kernel_rfl)

theorem chunk_Same_eq (a1 : List Chunk) (b2 : List Chunk) : chunk_Same a1 b2 =
   (slices_EqualFunc_api_Chunk_api_Chunk_api_Chunk_api_Chunk a1 b2).bind fun (q3 : Bool) =>
   some q3 := (call_eq ..).trans (by kernel_rfl)

noncomputable def ref26_Same_loop4 (a1 : List Chunk) (b2 : List Chunk) (v3 : Int) : Option ((Int) ⊕ ((Unit) ⊕ (Bool))) :=
   (if (decide (v3 < ((a1.length : Nat) : Int))) = true then
    (if 0 ≤ v3 then
     (a1[v3.toNat]?).bind fun e4 =>
     (if 0 ≤ v3 then
      (b2[v3.toNat]?).bind fun e5 =>
      (ref26_same e4.id e4.kind e4.data e4.kids e5.id e5.kind e5.data e5.kids).bind fun (q6 : Bool) =>
      (if (!q6) = true then
       some (Sum.inr (Sum.inr false))
       else
       let t7 : Int := IntKind.i64.wrap (v3 + 1);
       some (Sum.inl t7))
      else
      none)
     else
     none)
    else
    some (Sum.inr (Sum.inl ())))
noncomputable def ref26_Same_loop4_step (b2 : List Chunk) (i8 : Nat) (x9 : Chunk) (s10 : Unit) : Option ((Unit) ⊕ ((Unit) ⊕ (Bool))) :=
   (if 0 ≤ ((i8 : Nat) : Int) then
    (b2[((i8 : Nat) : Int).toNat]?).bind fun e5 =>
    (ref26_same x9.id x9.kind x9.data x9.kids e5.id e5.kind e5.data e5.kids).bind fun (q6 : Bool) =>
    (if (!q6) = true then
     some (Sum.inr (Sum.inr false))
     else
     some (Sum.inl (())))
    else
    none)
theorem ref26_Same_loop4_overAt (a1 : List Chunk) (b2 : List Chunk) (hl : a1.length ≤ 4611686018427387904) (k : Nat) (s10 : Unit) (hk : k ≤ a1.length) : loop (ref26_Same_loop4 a1 b2) (((k : Nat) : Int) : Int) =
    overL (ref26_Same_loop4_step b2) (fun (s10 : Unit) => some (Sum.inl ())) k (a1.drop k) s10 := by
  refine loop_over a1 (fun n (s : Unit) => (((n : Nat) : Int) : Int)) _ _ (fun s => ?_) (fun i x s h => ?_) k s10 hk
  · unfold ref26_Same_loop4; simp
  · have hlt := lt_len_of_get h
    have h1 : ((i : Nat) : Int) < ((a1.length : Nat) : Int) := by omega
    have h0 : (0 : Int) ≤ ((i : Nat) : Int) := by omega
    have hw : IntKind.i64.wrap (((i : Nat) : Int) + 1) = (((i + 1 : Nat) : Nat) : Int) := w64 (by omega)
    unfold ref26_Same_loop4 ref26_Same_loop4_step
    simp only [h1, h0, hw, h, decide_true, if_true, and_self, true_and, Int.toNat_natCast, Option.bind_some, Option.map_bind, Function.comp_def, map_ite, map_elim, Option.map_some, Option.map_none]
theorem ref26_Same_loop4_over (a1 : List Chunk) (b2 : List Chunk) (hl : a1.length ≤ 4611686018427387904) (s10 : Unit) : loop (ref26_Same_loop4 a1 b2) (0 : Int) =
    overL (ref26_Same_loop4_step b2) (fun (s10 : Unit) => some (Sum.inl ())) 0 a1 s10 := ref26_Same_loop4_overAt a1 b2 hl 0 s10 (Nat.zero_le _)

theorem ref26_Same_eq (a1 : List Chunk) (b2 : List Chunk) : ref26_Same a1 b2 =
   (if (!decide (((a1.length : Nat) : Int) = ((b2.length : Nat) : Int))) = true then
    some false
    else
    (loop (ref26_Same_loop4 a1 b2) 0).bind (fun (o13 : (Unit) ⊕ (Bool)) =>
     (Sum.elim (fun (p11 : Unit) =>
       some true)
      (fun (v12 : Bool) =>
       some v12) o13))) := (call_eq ..).trans (by kernel_rfl)

theorem chunk_Size_eq (c1 : List Int) (c2 : List Int) (c3 : List Int) (c4 : List Chunk) : chunk_Size c1 c2 c3 c4 =
   (chunk_Valid c1 c2 c3 c4).bind fun (q5 : Bool) =>
   (if (!q5) = true then
    some (0, 100)
    else
    (chunk_size c1 c2 c3 c4).bind fun (q6 : Int) =>
    some (q6, 0)) := (call_eq ..).trans (by kernel_rfl)

theorem ref26_Size_eq (c1 : List Int) (c2 : List Int) (c3 : List Int) (c4 : List Chunk) : ref26_Size c1 c2 c3 c4 =
   (ref26_Valid c1 c2 c3 c4).bind fun (q5 : Bool) =>
   (if (!q5) = true then
    some (0, 100)
    else
    (ref26_size c1 c2 c3 c4).bind fun (q6 : Int) =>
    some (q6, 0)) := (call_eq ..).trans (by kernel_rfl)

theorem chunk_Valid_eq (c1 : List Int) (c2 : List Int) (c3 : List Int) (c4 : List Chunk) : chunk_Valid c1 c2 c3 c4 =
   (chunk_valid [(Chunk.mk c1 c2 c3 c4)]).bind fun (q5 : Bool) =>
   some q5 := (call_eq ..).trans (by kernel_rfl)

theorem ref26_Valid_eq (c1 : List Int) (c2 : List Int) (c3 : List Int) (c4 : List Chunk) : ref26_Valid c1 c2 c3 c4 =
   (ref26_ValidList [(Chunk.mk c1 c2 c3 c4)]).bind fun (q5 : Bool) =>
   some q5 := (call_eq ..).trans (by kernel_rfl)

noncomputable def chunk_Find_loop5 (path2 : List (List Int)) (s4 : (List Chunk) × Int × (List Int) × (List Int) × (List Int) × (List Chunk) × (List Int) × (List Int) × (List Int) × (List Chunk)) : Option (((List Chunk) × Int × (List Int) × (List Int) × (List Int) × (List Chunk) × (List Int) × (List Int) × (List Int) × (List Chunk)) ⊕ (((List Int) × (List Int) × (List Int) × (List Chunk) × (List Int) × (List Int) × (List Int) × (List Chunk)) ⊕ (Int × (List Int) × (List Int) × (List Int) × (List Chunk) × (List Int) × (List Int) × (List Int) × (List Chunk)))) :=
   let l5 : List Chunk := s4.1;
   let v6 : Int := s4.2.1;
   let b7 : List Int := s4.2.2.1;
   let b8 : List Int := s4.2.2.2.1;
   let b9 : List Int := s4.2.2.2.2.1;
   let b10 : List Chunk := s4.2.2.2.2.2.1;
   let b11 : List Int := s4.2.2.2.2.2.2.1;
   let b12 : List Int := s4.2.2.2.2.2.2.2.1;
   let b13 : List Int := s4.2.2.2.2.2.2.2.2.1;
   let b14 : List Chunk := s4.2.2.2.2.2.2.2.2.2;
   (if (decide (v6 < ((path2.length : Nat) : Int))) = true then
    (if 0 ≤ v6 then
     (path2[v6.toNat]?).bind fun e15 =>
     (slices_IndexFunc_api_Chunk_api_Chunk l5 e15).bind fun (q16 : Int × (List Int)) =>
     let tr17 : Int := q16.1;
     let tr18 : List Int := q16.2;
     (if (decide (tr17 < 0)) = true then
      some (Sum.inr (Sum.inr (5, [], [], [], [], b11, b12, b13, b14)))
      else
      (if 0 ≤ tr17 then
       (l5[tr17.toNat]?).bind fun e19 =>
       (if 0 ≤ tr17 then
        (l5[tr17.toNat]?).bind fun e20 =>
        let t21 : Int := IntKind.i64.wrap (v6 + 1);
        some (Sum.inl (e20.kids, t21, b7, b8, b9, b10, e19.id, e19.kind, e19.data, e19.kids))
        else
        none)
       else
       none))
     else
     none)
    else
    some (Sum.inr (Sum.inl (b7, b8, b9, b10, b11, b12, b13, b14))))
noncomputable def chunk_Find_loop5_step (i22 : Nat) (x23 : (List Int)) (s24 : (List Chunk) × (List Int) × (List Int) × (List Int) × (List Chunk) × (List Int) × (List Int) × (List Int) × (List Chunk)) : Option (((List Chunk) × (List Int) × (List Int) × (List Int) × (List Chunk) × (List Int) × (List Int) × (List Int) × (List Chunk)) ⊕ (((List Int) × (List Int) × (List Int) × (List Chunk) × (List Int) × (List Int) × (List Int) × (List Chunk)) ⊕ (Int × (List Int) × (List Int) × (List Int) × (List Chunk) × (List Int) × (List Int) × (List Int) × (List Chunk)))) :=
   let l25 : List Chunk := s24.1;
   let b26 : List Int := s24.2.1;
   let b27 : List Int := s24.2.2.1;
   let b28 : List Int := s24.2.2.2.1;
   let b29 : List Chunk := s24.2.2.2.2.1;
   let b30 : List Int := s24.2.2.2.2.2.1;
   let b31 : List Int := s24.2.2.2.2.2.2.1;
   let b32 : List Int := s24.2.2.2.2.2.2.2.1;
   let b33 : List Chunk := s24.2.2.2.2.2.2.2.2;
   (slices_IndexFunc_api_Chunk_api_Chunk l25 x23).bind fun (q16 : Int × (List Int)) =>
   let tr17 : Int := q16.1;
   let tr18 : List Int := q16.2;
   (if (decide (tr17 < 0)) = true then
    some (Sum.inr (Sum.inr (5, [], [], [], [], b30, b31, b32, b33)))
    else
    (if 0 ≤ tr17 then
     (l25[tr17.toNat]?).bind fun e19 =>
     (if 0 ≤ tr17 then
      (l25[tr17.toNat]?).bind fun e20 =>
      some (Sum.inl ((e20.kids, b26, b27, b28, b29, e19.id, e19.kind, e19.data, e19.kids)))
      else
      none)
     else
     none))
theorem chunk_Find_loop5_overAt (path2 : List (List Int)) (hl : path2.length ≤ 4611686018427387904) (k : Nat) (s24 : (List Chunk) × (List Int) × (List Int) × (List Int) × (List Chunk) × (List Int) × (List Int) × (List Int) × (List Chunk)) (hk : k ≤ path2.length) : loop (chunk_Find_loop5 path2) ((s24.1, ((k : Nat) : Int), s24.2.1, s24.2.2.1, s24.2.2.2.1, s24.2.2.2.2.1, s24.2.2.2.2.2.1, s24.2.2.2.2.2.2.1, s24.2.2.2.2.2.2.2.1, s24.2.2.2.2.2.2.2.2) : (List Chunk) × Int × (List Int) × (List Int) × (List Int) × (List Chunk) × (List Int) × (List Int) × (List Int) × (List Chunk)) =
    overL (chunk_Find_loop5_step) (fun (s24 : (List Chunk) × (List Int) × (List Int) × (List Int) × (List Chunk) × (List Int) × (List Int) × (List Int) × (List Chunk)) => let l25 : List Chunk := s24.1; let b26 : List Int := s24.2.1; let b27 : List Int := s24.2.2.1; let b28 : List Int := s24.2.2.2.1; let b29 : List Chunk := s24.2.2.2.2.1; let b30 : List Int := s24.2.2.2.2.2.1; let b31 : List Int := s24.2.2.2.2.2.2.1; let b32 : List Int := s24.2.2.2.2.2.2.2.1; let b33 : List Chunk := s24.2.2.2.2.2.2.2.2; some (Sum.inl (b26, b27, b28, b29, b30, b31, b32, b33))) k (path2.drop k) s24 := by
  refine loop_over path2 (fun n (s : (List Chunk) × (List Int) × (List Int) × (List Int) × (List Chunk) × (List Int) × (List Int) × (List Int) × (List Chunk)) => ((s.1, ((n : Nat) : Int), s.2.1, s.2.2.1, s.2.2.2.1, s.2.2.2.2.1, s.2.2.2.2.2.1, s.2.2.2.2.2.2.1, s.2.2.2.2.2.2.2.1, s.2.2.2.2.2.2.2.2) : (List Chunk) × Int × (List Int) × (List Int) × (List Int) × (List Chunk) × (List Int) × (List Int) × (List Int) × (List Chunk))) _ _ (fun s => ?_) (fun i x s h => ?_) k s24 hk
  · unfold chunk_Find_loop5; simp
  · have hlt := lt_len_of_get h
    have h1 : ((i : Nat) : Int) < ((path2.length : Nat) : Int) := by omega
    have h0 : (0 : Int) ≤ ((i : Nat) : Int) := by omega
    have hw : IntKind.i64.wrap (((i : Nat) : Int) + 1) = (((i + 1 : Nat) : Nat) : Int) := w64 (by omega)
    unfold chunk_Find_loop5 chunk_Find_loop5_step
    simp only [h1, h0, hw, h, decide_true, if_true, and_self, true_and, Int.toNat_natCast, Option.bind_some, Option.map_bind, Function.comp_def, map_ite, map_elim, Option.map_some, Option.map_none]
theorem chunk_Find_loop5_over (path2 : List (List Int)) (hl : path2.length ≤ 4611686018427387904) (s24 : (List Chunk) × (List Int) × (List Int) × (List Int) × (List Chunk) × (List Int) × (List Int) × (List Int) × (List Chunk)) : loop (chunk_Find_loop5 path2) ((s24.1, 0, s24.2.1, s24.2.2.1, s24.2.2.2.1, s24.2.2.2.2.1, s24.2.2.2.2.2.1, s24.2.2.2.2.2.2.1, s24.2.2.2.2.2.2.2.1, s24.2.2.2.2.2.2.2.2) : (List Chunk) × Int × (List Int) × (List Int) × (List Int) × (List Chunk) × (List Int) × (List Int) × (List Int) × (List Chunk)) =
    overL (chunk_Find_loop5_step) (fun (s24 : (List Chunk) × (List Int) × (List Int) × (List Int) × (List Chunk) × (List Int) × (List Int) × (List Int) × (List Chunk)) => let l25 : List Chunk := s24.1; let b26 : List Int := s24.2.1; let b27 : List Int := s24.2.2.1; let b28 : List Int := s24.2.2.2.1; let b29 : List Chunk := s24.2.2.2.2.1; let b30 : List Int := s24.2.2.2.2.2.1; let b31 : List Int := s24.2.2.2.2.2.2.1; let b32 : List Int := s24.2.2.2.2.2.2.2.1; let b33 : List Chunk := s24.2.2.2.2.2.2.2.2; some (Sum.inl (b26, b27, b28, b29, b30, b31, b32, b33))) 0 path2 s24 := chunk_Find_loop5_overAt path2 hl 0 s24 (Nat.zero_le _)

theorem chunk_Find_eq (l1 : List Chunk) (path2 : List (List Int)) : chunk_Find l1 path2 =
   (chunk_valid l1).bind fun (q3 : Bool) =>
   (if (!q3) = true then
    some ([], [], [], [], 100)
    else
    (loop (chunk_Find_loop5 path2) (l1, 0, [], [], [], [], [], [], [], [])).bind (fun (o53 : ((List Int) × (List Int) × (List Int) × (List Chunk) × (List Int) × (List Int) × (List Int) × (List Chunk)) ⊕ (Int × (List Int) × (List Int) × (List Int) × (List Chunk) × (List Int) × (List Int) × (List Int) × (List Chunk))) =>
     (Sum.elim (fun (p34 : (List Int) × (List Int) × (List Int) × (List Chunk) × (List Int) × (List Int) × (List Int) × (List Chunk)) =>
       let b35 : List Int := p34.1;
       let b36 : List Int := p34.2.1;
       let b37 : List Int := p34.2.2.1;
       let b38 : List Chunk := p34.2.2.2.1;
       let b39 : List Int := p34.2.2.2.2.1;
       let b40 : List Int := p34.2.2.2.2.2.1;
       let b41 : List Int := p34.2.2.2.2.2.2.1;
       let b42 : List Chunk := p34.2.2.2.2.2.2.2;
       (if (decide (((path2.length : Nat) : Int) = 0)) = true then
        some ([], [], [], [], 5)
        else
        (chunk_clone b39 b40 b41 b42).bind fun (q54 : (List Int) × (List Int) × (List Int) × (List Chunk)) =>
        let tr55 : List Int := q54.1;
        let tr56 : List Int := q54.2.1;
        let tr57 : List Int := q54.2.2.1;
        let tr58 : List Chunk := q54.2.2.2;
        some (tr55, tr56, tr57, tr58, 0)))
      (fun (p43 : Int × (List Int) × (List Int) × (List Int) × (List Chunk) × (List Int) × (List Int) × (List Int) × (List Chunk)) =>
       let v44 : Int := p43.1;
       let b45 : List Int := p43.2.1;
       let b46 : List Int := p43.2.2.1;
       let b47 : List Int := p43.2.2.2.1;
       let b48 : List Chunk := p43.2.2.2.2.1;
       let b49 : List Int := p43.2.2.2.2.2.1;
       let b50 : List Int := p43.2.2.2.2.2.2.1;
       let b51 : List Int := p43.2.2.2.2.2.2.2.1;
       let b52 : List Chunk := p43.2.2.2.2.2.2.2.2;
       some (b45, b46, b47, b48, v44)) o53))) := (call_eq ..).trans (by kernel_rfl)

noncomputable def ref26_Find_loop7 (l5 : List Chunk) (e11 : List Int) (at12 : Int) : Option ((Int) ⊕ (Int)) :=
   (if (decide (at12 < ((l5.length : Nat) : Int))) = true then
    (if 0 ≤ at12 then
     (l5[at12.toNat]?).bind fun e13 =>
     (ref26_name e13.id e13.kind e13.data e13.kids).bind fun (q14 : (List Int)) =>
     (if (!decide (q14 = e11)) = true then
      let t15 : Int := IntKind.i64.wrap (at12 + 1);
      some (Sum.inl t15)
      else
      some (Sum.inr at12))
     else
     none)
    else
    some (Sum.inr at12))
noncomputable def ref26_Find_loop4 (path2 : List (List Int)) (s4 : (List Chunk) × Int × (List Int) × (List Int) × (List Int) × (List Chunk)) : Option (((List Chunk) × Int × (List Int) × (List Int) × (List Int) × (List Chunk)) ⊕ (((List Int) × (List Int) × (List Int) × (List Chunk)) ⊕ (Int × (List Int) × (List Int) × (List Int) × (List Chunk)))) :=
   let l5 : List Chunk := s4.1;
   let v6 : Int := s4.2.1;
   let b7 : List Int := s4.2.2.1;
   let b8 : List Int := s4.2.2.2.1;
   let b9 : List Int := s4.2.2.2.2.1;
   let b10 : List Chunk := s4.2.2.2.2.2;
   (if (decide (v6 < ((path2.length : Nat) : Int))) = true then
    (if 0 ≤ v6 then
     (path2[v6.toNat]?).bind fun e11 =>
     (loop (ref26_Find_loop7 l5 e11) 0).bind (fun (at16 : Int) =>
      (if (decide (at16 = ((l5.length : Nat) : Int))) = true then
       some (Sum.inr (Sum.inl (b7, b8, b9, b10)))
       else
       let t17 : Int := IntKind.i64.wrap (((path2.length : Nat) : Int) - 1);
       (if (decide (v6 = t17)) = true then
        (if 0 ≤ at16 then
         (l5[at16.toNat]?).bind fun e18 =>
         some (Sum.inr (Sum.inr (0, e18.id, e18.kind, e18.data, e18.kids)))
         else
         none)
        else
        (if 0 ≤ at16 then
         (l5[at16.toNat]?).bind fun e19 =>
         let t20 : Int := IntKind.i64.wrap (v6 + 1);
         some (Sum.inl (e19.kids, t20, b7, b8, b9, b10))
         else
         none))))
     else
     none)
    else
    some (Sum.inr (Sum.inl (b7, b8, b9, b10))))
noncomputable def ref26_Find_loop4_step (path2 : List (List Int)) (i21 : Nat) (x22 : (List Int)) (s23 : (List Chunk) × (List Int) × (List Int) × (List Int) × (List Chunk)) : Option (((List Chunk) × (List Int) × (List Int) × (List Int) × (List Chunk)) ⊕ (((List Int) × (List Int) × (List Int) × (List Chunk)) ⊕ (Int × (List Int) × (List Int) × (List Int) × (List Chunk)))) :=
   let l24 : List Chunk := s23.1;
   let b25 : List Int := s23.2.1;
   let b26 : List Int := s23.2.2.1;
   let b27 : List Int := s23.2.2.2.1;
   let b28 : List Chunk := s23.2.2.2.2;
   (loop (ref26_Find_loop7 l24 x22) 0).bind (fun (at16 : Int) =>
    (if (decide (at16 = ((l24.length : Nat) : Int))) = true then
     some (Sum.inr (Sum.inl (b25, b26, b27, b28)))
     else
     let t17 : Int := IntKind.i64.wrap (((path2.length : Nat) : Int) - 1);
     (if (decide (((i21 : Nat) : Int) = t17)) = true then
      (if 0 ≤ at16 then
       (l24[at16.toNat]?).bind fun e18 =>
       some (Sum.inr (Sum.inr (0, e18.id, e18.kind, e18.data, e18.kids)))
       else
       none)
      else
      (if 0 ≤ at16 then
       (l24[at16.toNat]?).bind fun e19 =>
       some (Sum.inl ((e19.kids, b25, b26, b27, b28)))
       else
       none))))
theorem ref26_Find_loop4_overAt (path2 : List (List Int)) (hl : path2.length ≤ 4611686018427387904) (k : Nat) (s23 : (List Chunk) × (List Int) × (List Int) × (List Int) × (List Chunk)) (hk : k ≤ path2.length) : loop (ref26_Find_loop4 path2) ((s23.1, ((k : Nat) : Int), s23.2.1, s23.2.2.1, s23.2.2.2.1, s23.2.2.2.2) : (List Chunk) × Int × (List Int) × (List Int) × (List Int) × (List Chunk)) =
    overL (ref26_Find_loop4_step path2) (fun (s23 : (List Chunk) × (List Int) × (List Int) × (List Int) × (List Chunk)) => let l24 : List Chunk := s23.1; let b25 : List Int := s23.2.1; let b26 : List Int := s23.2.2.1; let b27 : List Int := s23.2.2.2.1; let b28 : List Chunk := s23.2.2.2.2; some (Sum.inl (b25, b26, b27, b28))) k (path2.drop k) s23 := by
  refine loop_over path2 (fun n (s : (List Chunk) × (List Int) × (List Int) × (List Int) × (List Chunk)) => ((s.1, ((n : Nat) : Int), s.2.1, s.2.2.1, s.2.2.2.1, s.2.2.2.2) : (List Chunk) × Int × (List Int) × (List Int) × (List Int) × (List Chunk))) _ _ (fun s => ?_) (fun i x s h => ?_) k s23 hk
  · unfold ref26_Find_loop4; simp
  · have hlt := lt_len_of_get h
    have h1 : ((i : Nat) : Int) < ((path2.length : Nat) : Int) := by omega
    have h0 : (0 : Int) ≤ ((i : Nat) : Int) := by omega
    have hw : IntKind.i64.wrap (((i : Nat) : Int) + 1) = (((i + 1 : Nat) : Nat) : Int) := w64 (by omega)
    unfold ref26_Find_loop4 ref26_Find_loop4_step
    simp only [h1, h0, hw, h, decide_true, if_true, and_self, true_and, Int.toNat_natCast, Option.bind_some, Option.map_bind, Function.comp_def, map_ite, map_elim, Option.map_some, Option.map_none]
theorem ref26_Find_loop4_over (path2 : List (List Int)) (hl : path2.length ≤ 4611686018427387904) (s23 : (List Chunk) × (List Int) × (List Int) × (List Int) × (List Chunk)) : loop (ref26_Find_loop4 path2) ((s23.1, 0, s23.2.1, s23.2.2.1, s23.2.2.2.1, s23.2.2.2.2) : (List Chunk) × Int × (List Int) × (List Int) × (List Int) × (List Chunk)) =
    overL (ref26_Find_loop4_step path2) (fun (s23 : (List Chunk) × (List Int) × (List Int) × (List Int) × (List Chunk)) => let l24 : List Chunk := s23.1; let b25 : List Int := s23.2.1; let b26 : List Int := s23.2.2.1; let b27 : List Int := s23.2.2.2.1; let b28 : List Chunk := s23.2.2.2.2; some (Sum.inl (b25, b26, b27, b28))) 0 path2 s23 := ref26_Find_loop4_overAt path2 hl 0 s23 (Nat.zero_le _)

theorem ref26_Find_eq (l1 : List Chunk) (path2 : List (List Int)) : ref26_Find l1 path2 =
   (ref26_ValidList l1).bind fun (q3 : Bool) =>
   (if (!q3) = true then
    some ([], [], [], [], 100)
    else
    (loop (ref26_Find_loop4 path2) (l1, 0, [], [], [], [])).bind (fun (o40 : ((List Int) × (List Int) × (List Int) × (List Chunk)) ⊕ (Int × (List Int) × (List Int) × (List Int) × (List Chunk))) =>
     (Sum.elim (fun (p29 : (List Int) × (List Int) × (List Int) × (List Chunk)) =>
       let b30 : List Int := p29.1;
       let b31 : List Int := p29.2.1;
       let b32 : List Int := p29.2.2.1;
       let b33 : List Chunk := p29.2.2.2;
       some ([], [], [], [], 5))
      (fun (p34 : Int × (List Int) × (List Int) × (List Int) × (List Chunk)) =>
       let v35 : Int := p34.1;
       let b36 : List Int := p34.2.1;
       let b37 : List Int := p34.2.2.1;
       let b38 : List Int := p34.2.2.2.1;
       let b39 : List Chunk := p34.2.2.2.2;
       some (b36, b37, b38, b39, v35)) o40))) := (call_eq ..).trans (by kernel_rfl)

theorem chunk_All_eq (l1 : List Chunk) (id2 : List Int) : chunk_All l1 id2 =
   (chunk_valid l1).bind fun (q3 : Bool) =>
   (if (!q3) = true then
    some ([], 100)
    else
    (chunk_all l1 id2).bind fun (q4 : (List Chunk)) =>
    some (q4, 0)) := (call_eq ..).trans (by kernel_rfl)

theorem ref26_All_eq (l1 : List Chunk) (id2 : List Int) : ref26_All l1 id2 =
   (ref26_ValidList l1).bind fun (q3 : Bool) =>
   (if (!q3) = true then
    some ([], 100)
    else
    (ref26_all l1 id2).bind fun (q4 : (List Chunk)) =>
    some (q4, 0)) := (call_eq ..).trans (by kernel_rfl)

noncomputable def chunk_Replace_loop5 (l1 : List Chunk) (s7 : Int × (List Chunk)) : Option ((Int × (List Chunk)) ⊕ ((List Chunk))) :=
   let v8 : Int := s7.1;
   let out9 : List Chunk := s7.2;
   (if (decide (v8 < ((l1.length : Nat) : Int))) = true then
    (if 0 ≤ v8 then
     (l1[v8.toNat]?).bind fun e10 =>
     (chunk_clone e10.id e10.kind e10.data e10.kids).bind fun (q11 : (List Int) × (List Int) × (List Int) × (List Chunk)) =>
     let tr12 : List Int := q11.1;
     let tr13 : List Int := q11.2.1;
     let tr14 : List Int := q11.2.2.1;
     let tr15 : List Chunk := q11.2.2.2;
     (if (out9.length + ([(Chunk.mk tr12 tr13 tr14 tr15)] : List Chunk).length) * 80 ≤ 140737488355328 then
      let t16 : List Chunk := out9 ++ [(Chunk.mk tr12 tr13 tr14 tr15)];
      let t17 : Int := IntKind.i64.wrap (v8 + 1);
      some (Sum.inl (t17, t16))
      else
      none)
     else
     none)
    else
    some (Sum.inr out9))
noncomputable def chunk_Replace_loop5_step (i18 : Nat) (x19 : Chunk) (s20 : (List Chunk)) : Option (((List Chunk)) ⊕ ((List Chunk))) :=
   (chunk_clone x19.id x19.kind x19.data x19.kids).bind fun (q11 : (List Int) × (List Int) × (List Int) × (List Chunk)) =>
   let tr12 : List Int := q11.1;
   let tr13 : List Int := q11.2.1;
   let tr14 : List Int := q11.2.2.1;
   let tr15 : List Chunk := q11.2.2.2;
   (if (s20.length + ([(Chunk.mk tr12 tr13 tr14 tr15)] : List Chunk).length) * 80 ≤ 140737488355328 then
    let t16 : List Chunk := s20 ++ [(Chunk.mk tr12 tr13 tr14 tr15)];
    some (Sum.inl (t16))
    else
    none)
theorem chunk_Replace_loop5_overAt (l1 : List Chunk) (hl : l1.length ≤ 4611686018427387904) (k : Nat) (s20 : (List Chunk)) (hk : k ≤ l1.length) : loop (chunk_Replace_loop5 l1) ((((k : Nat) : Int), s20) : Int × (List Chunk)) =
    overL (chunk_Replace_loop5_step) (fun (s20 : (List Chunk)) => some s20) k (l1.drop k) s20 := by
  refine loop_over l1 (fun n (s : (List Chunk)) => ((((n : Nat) : Int), s) : Int × (List Chunk))) _ _ (fun s => ?_) (fun i x s h => ?_) k s20 hk
  · unfold chunk_Replace_loop5; simp
  · have hlt := lt_len_of_get h
    have h1 : ((i : Nat) : Int) < ((l1.length : Nat) : Int) := by omega
    have h0 : (0 : Int) ≤ ((i : Nat) : Int) := by omega
    have hw : IntKind.i64.wrap (((i : Nat) : Int) + 1) = (((i + 1 : Nat) : Nat) : Int) := w64 (by omega)
    unfold chunk_Replace_loop5 chunk_Replace_loop5_step
    simp only [h1, h0, hw, h, decide_true, if_true, and_self, true_and, Int.toNat_natCast, Option.bind_some, Option.map_bind, Function.comp_def, map_ite, map_elim, Option.map_some, Option.map_none]
theorem chunk_Replace_loop5_over (l1 : List Chunk) (hl : l1.length ≤ 4611686018427387904) (s20 : (List Chunk)) : loop (chunk_Replace_loop5 l1) ((0, s20) : Int × (List Chunk)) =
    overL (chunk_Replace_loop5_step) (fun (s20 : (List Chunk)) => some s20) 0 l1 s20 := chunk_Replace_loop5_overAt l1 hl 0 s20 (Nat.zero_le _)

theorem chunk_Replace_eq (l1 : List Chunk) (id2 : List Int) (data3 : List Int) : chunk_Replace l1 id2 data3 =
   ((chunk_valid l1).bind fun (q4 : Bool) =>
    (if (!q4) = true then
     some true
     else
     (chunk_isKind id2).bind fun (q5 : Bool) =>
     some (!q5)) : Option (Bool)).bind (fun (v6 : Bool) =>
    (if v6 = true then
     some ([], 100)
     else
     (loop (chunk_Replace_loop5 l1) (0, [])).bind (fun (out21 : (List Chunk)) =>
      (bytes_Clone data3).bind fun (q22 : (List Int)) =>
      (slices_IndexFunc_api_Chunk_api_Chunk_2 out21 id2).bind fun (q23 : Int × (List Int)) =>
      let tr24 : Int := q23.1;
      let tr25 : List Int := q23.2;
      ((if (decide (tr24 ≥ 0)) = true then
        (if 0 ≤ tr24 ∧ tr24 < (out21.length : Int) then
         (out21[tr24.toNat]?).bind fun e26 =>
         let w27 : List Chunk := out21.set tr24.toNat (Chunk.mk id2 [] q22 []);
         some w27
         else
         none)
        else
        (if (out21.length + ([(Chunk.mk id2 [] q22 [])] : List Chunk).length) * 80 ≤ 140737488355328 then
         let t28 : List Chunk := out21 ++ [(Chunk.mk id2 [] q22 [])];
         some t28
         else
         none)) : Option ((List Chunk))).bind (fun (out29 : (List Chunk)) =>
       (chunk_valid out29).bind fun (q30 : Bool) =>
       (if (!q30) = true then
        some ([], 100)
        else
        some (out29, 0)))))) := (call_eq ..).trans (by kernel_rfl)

noncomputable def ref26_Replace_loop5 (id2 : List Int) (data3 : List Int) (t7 : List Chunk) (s8 : Int × (List Chunk)) : Option ((Int × (List Chunk)) ⊕ (((List Chunk)) ⊕ (Int × (List Chunk)))) :=
   let v9 : Int := s8.1;
   let b10 : List Chunk := s8.2;
   (if (decide (v9 < ((t7.length : Nat) : Int))) = true then
    (if 0 ≤ v9 ∧ v9 < (b10.length : Int) then
     (b10[v9.toNat]?).bind fun e11 =>
     (if (decide (e11.id = id2)) = true then
      (if 0 ≤ v9 ∧ v9 < (b10.length : Int) then
       (b10[v9.toNat]?).bind fun e12 =>
       let w13 : List Chunk := b10.set v9.toNat (Chunk.mk e12.id e12.kind data3 e12.kids);
       some (Sum.inr (Sum.inr (0, w13)))
       else
       none)
      else
      let t14 : Int := IntKind.i64.wrap (v9 + 1);
      some (Sum.inl (t14, b10)))
     else
     none)
    else
    some (Sum.inr (Sum.inl b10)))
noncomputable def ref26_Replace_loop5_step (id2 : List Int) (data3 : List Int) (i15 : Nat) (x16 : Chunk) (s17 : (List Chunk)) : Option (((List Chunk)) ⊕ (((List Chunk)) ⊕ (Int × (List Chunk)))) :=
   (if 0 ≤ ((i15 : Nat) : Int) ∧ ((i15 : Nat) : Int) < (s17.length : Int) then
    (s17[((i15 : Nat) : Int).toNat]?).bind fun e11 =>
    (if (decide (e11.id = id2)) = true then
     (if 0 ≤ ((i15 : Nat) : Int) ∧ ((i15 : Nat) : Int) < (s17.length : Int) then
      (s17[((i15 : Nat) : Int).toNat]?).bind fun e12 =>
      let w13 : List Chunk := s17.set ((i15 : Nat) : Int).toNat (Chunk.mk e12.id e12.kind data3 e12.kids);
      some (Sum.inr (Sum.inr (0, w13)))
      else
      none)
     else
     some (Sum.inl (s17)))
    else
    none)
theorem ref26_Replace_loop5_overAt (id2 : List Int) (data3 : List Int) (t7 : List Chunk) (hl : t7.length ≤ 4611686018427387904) (k : Nat) (s17 : (List Chunk)) (hk : k ≤ t7.length) : loop (ref26_Replace_loop5 id2 data3 t7) ((((k : Nat) : Int), s17) : Int × (List Chunk)) =
    overL (ref26_Replace_loop5_step id2 data3) (fun (s17 : (List Chunk)) => some (Sum.inl s17)) k (t7.drop k) s17 := by
  refine loop_over t7 (fun n (s : (List Chunk)) => ((((n : Nat) : Int), s) : Int × (List Chunk))) _ _ (fun s => ?_) (fun i x s h => ?_) k s17 hk
  · unfold ref26_Replace_loop5; simp
  · have hlt := lt_len_of_get h
    have h1 : ((i : Nat) : Int) < ((t7.length : Nat) : Int) := by omega
    have h0 : (0 : Int) ≤ ((i : Nat) : Int) := by omega
    have hw : IntKind.i64.wrap (((i : Nat) : Int) + 1) = (((i + 1 : Nat) : Nat) : Int) := w64 (by omega)
    unfold ref26_Replace_loop5 ref26_Replace_loop5_step
    simp only [h1, h0, hw, h, decide_true, if_true, and_self, true_and, Int.toNat_natCast, Option.bind_some, Option.map_bind, Function.comp_def, map_ite, map_elim, Option.map_some, Option.map_none]
theorem ref26_Replace_loop5_over (id2 : List Int) (data3 : List Int) (t7 : List Chunk) (hl : t7.length ≤ 4611686018427387904) (s17 : (List Chunk)) : loop (ref26_Replace_loop5 id2 data3 t7) ((0, s17) : Int × (List Chunk)) =
    overL (ref26_Replace_loop5_step id2 data3) (fun (s17 : (List Chunk)) => some (Sum.inl s17)) 0 t7 s17 := ref26_Replace_loop5_overAt id2 data3 t7 hl 0 s17 (Nat.zero_le _)

theorem ref26_Replace_eq (l1 : List Chunk) (id2 : List Int) (data3 : List Int) : ref26_Replace l1 id2 data3 =
   ((ref26_ValidList l1).bind fun (q4 : Bool) =>
    (if (!q4) = true then
     some true
     else
     (ref26_IsId id2).bind fun (q5 : Bool) =>
     (if (!q5) = true then
      some true
      else
      some (decide (id2 = [70, 79, 82, 77])))) : Option (Bool)).bind (fun (v6 : Bool) =>
    (if v6 = true then
     some ([], 100)
     else
     (if (([] : List Chunk).length + l1.length) * 80 ≤ 140737488355328 then
      let t7 : List Chunk := ([] : List Chunk) ++ l1;
      (loop (ref26_Replace_loop5 id2 data3 t7) (0, t7)).bind (fun (o22 : ((List Chunk)) ⊕ (Int × (List Chunk))) =>
       (Sum.elim (fun (b18 : (List Chunk)) =>
         (if (b18.length + ([(Chunk.mk id2 [] data3 [])] : List Chunk).length) * 80 ≤ 140737488355328 then
          let t23 : List Chunk := b18 ++ [(Chunk.mk id2 [] data3 [])];
          (ref26_ValidList t23).bind fun (q24 : Bool) =>
          (if (!q24) = true then
           some ([], 100)
           else
           some (t23, 0))
          else
          none))
        (fun (p19 : Int × (List Chunk)) =>
         let v20 : Int := p19.1;
         let b21 : List Chunk := p19.2;
         some (b21, v20)) o22))
      else
      none))) := (call_eq ..).trans (by kernel_rfl)

theorem chunk_Get_eq (b1 : List Int) : chunk_Get b1 =
   (if (decide (((b1.length : Nat) : Int) > 60000)) = true then
    some ([], 0, 4)
    else
    (chunk_reader_list 0 ((b1.length : Nat) : Int) 1 b1 0 0 0).bind fun (q2 : (List Chunk) × (List Int) × Int × Int × Int) =>
    let tr3 : List Chunk := q2.1;
    let tr4 : List Int := q2.2.1;
    let tr5 : Int := q2.2.2.1;
    let tr6 : Int := q2.2.2.2.1;
    let tr7 : Int := q2.2.2.2.2;
    (if (!decide (tr6 = 0)) = true then
     some ([], tr7, tr6)
     else
     some (tr3, 0, 0))) := (call_eq ..).trans (by kernel_rfl)

theorem ref26_Get_eq (b1 : List Int) : ref26_Get b1 =
   (if (decide (((b1.length : Nat) : Int) > 60000)) = true then
    some ([], 0, 4)
    else
    (ref26_reader_list 0 ((b1.length : Nat) : Int) 1 b1 0).bind fun (q2 : (List Chunk) × Int × Int × (List Int) × Int) =>
    let tr3 : List Chunk := q2.1;
    let tr4 : Int := q2.2.1;
    let tr5 : Int := q2.2.2.1;
    let tr6 : List Int := q2.2.2.2.1;
    let tr7 : Int := q2.2.2.2.2;
    (if (!decide (tr5 = 0)) = true then
     some ([], tr4, tr5)
     else
     some (tr3, 0, 0))) := (call_eq ..).trans (by kernel_rfl)

noncomputable def chunk_Heal_loop5 (b1 : List Int) (t2 : Int) (s4 : Int × Int × Int × (List Chunk)) : Option ((Int × Int × Int × (List Chunk)) ⊕ (Int × (List Chunk))) :=
   let lost5 : Int := s4.1;
   let many6 : Int := s4.2.1;
   let at7 : Int := s4.2.2.1;
   let l8 : List Chunk := s4.2.2.2;
   (if (decide (at7 < t2)) = true then
    (if 0 ≤ t2 ∧ t2 ≤ ((b1.length : Nat) : Int) then
     let t9 : List Int := cutL b1 0 t2.toNat;
     (chunk_reader_chunk at7 t2 1 t9 many6 0 0).bind fun (q10 : (List Int) × (List Int) × (List Int) × (List Chunk) × Int × (List Int) × Int × Int × Int) =>
     let tr11 : List Int := q10.1;
     let tr12 : List Int := q10.2.1;
     let tr13 : List Int := q10.2.2.1;
     let tr14 : List Chunk := q10.2.2.2.1;
     let tr15 : Int := q10.2.2.2.2.1;
     let tr16 : List Int := q10.2.2.2.2.2.1;
     let tr17 : Int := q10.2.2.2.2.2.2.1;
     let tr18 : Int := q10.2.2.2.2.2.2.2.1;
     let tr19 : Int := q10.2.2.2.2.2.2.2.2;
     (if (!decide (tr18 = 0)) = true then
      let t20 : Int := IntKind.i64.wrap (at7 + 1);
      let t21 : Int := IntKind.i64.wrap (lost5 + 1);
      some (Sum.inl (t21, many6, t20, l8))
      else
      (if (l8.length + ([(Chunk.mk tr11 tr12 tr13 tr14)] : List Chunk).length) * 80 ≤ 140737488355328 then
       let t22 : List Chunk := l8 ++ [(Chunk.mk tr11 tr12 tr13 tr14)];
       some (Sum.inl (lost5, tr17, tr15, t22))
       else
       none))
     else
     none)
    else
    some (Sum.inr (lost5, l8)))
theorem chunk_Heal_eq (b1 : List Int) : chunk_Heal b1 =
   let t2 : Int := imin ((b1.length : Nat) : Int) 60000;
   let t3 : Int := IntKind.i64.wrap (((b1.length : Nat) : Int) - t2);
   (loop (chunk_Heal_loop5 b1 t2) (t3, 0, 0, [])).bind (fun (p23 : Int × (List Chunk)) =>
    let lost24 : Int := p23.1;
    let l25 : List Chunk := p23.2;
    some (l25, lost24)) := (call_eq ..).trans (by kernel_rfl)

noncomputable def ref26_Heal_loop5 (b1 : List Int) (t2 : Int) (s4 : Int × Int × Int × (List Chunk)) : Option ((Int × Int × Int × (List Chunk)) ⊕ (Int × (List Chunk))) :=
   let lost5 : Int := s4.1;
   let many6 : Int := s4.2.1;
   let at7 : Int := s4.2.2.1;
   let l8 : List Chunk := s4.2.2.2;
   (if (decide (at7 < t2)) = true then
    (if 0 ≤ t2 ∧ t2 ≤ ((b1.length : Nat) : Int) then
     let t9 : List Int := cutL b1 0 t2.toNat;
     (ref26_reader_chunk at7 t2 1 t9 many6).bind fun (q10 : (List Int) × (List Int) × (List Int) × (List Chunk) × Int × Int × (List Int) × Int) =>
     let tr11 : List Int := q10.1;
     let tr12 : List Int := q10.2.1;
     let tr13 : List Int := q10.2.2.1;
     let tr14 : List Chunk := q10.2.2.2.1;
     let tr15 : Int := q10.2.2.2.2.1;
     let tr16 : Int := q10.2.2.2.2.2.1;
     let tr17 : List Int := q10.2.2.2.2.2.2.1;
     let tr18 : Int := q10.2.2.2.2.2.2.2;
     (if (!decide (tr16 = 0)) = true then
      let t19 : Int := IntKind.i64.wrap (lost5 + 1);
      let t20 : Int := IntKind.i64.wrap (at7 + 1);
      some (Sum.inl (t19, many6, t20, l8))
      else
      (if (l8.length + ([(Chunk.mk tr11 tr12 tr13 tr14)] : List Chunk).length) * 80 ≤ 140737488355328 then
       let t21 : List Chunk := l8 ++ [(Chunk.mk tr11 tr12 tr13 tr14)];
       some (Sum.inl (lost5, tr18, tr15, t21))
       else
       none))
     else
     none)
    else
    some (Sum.inr (lost5, l8)))
theorem ref26_Heal_eq (b1 : List Int) : ref26_Heal b1 =
   let t2 : Int := imin ((b1.length : Nat) : Int) 60000;
   let t3 : Int := IntKind.i64.wrap (((b1.length : Nat) : Int) - t2);
   (loop (ref26_Heal_loop5 b1 t2) (t3, 0, 0, [])).bind (fun (p22 : Int × (List Chunk)) =>
    let lost23 : Int := p22.1;
    let l24 : List Chunk := p22.2;
    some (l24, lost23)) := (call_eq ..).trans (by kernel_rfl)

noncomputable def bitmap_New_loop5 (pixel3 : Int) (tr9 : List Int) (s10 : Int × (List Int)) : Option ((Int × (List Int)) ⊕ ((List Int))) :=
   let v11 : Int := s10.1;
   let b12 : List Int := s10.2;
   (if (decide (v11 < ((tr9.length : Nat) : Int))) = true then
    let t13 : Int := IntKind.u8.wrap pixel3;
    (if 0 ≤ v11 ∧ v11 < (b12.length : Int) then
     let w14 : List Int := b12.set v11.toNat t13;
     let t15 : Int := IntKind.i64.wrap (v11 + 1);
     some (Sum.inl (t15, w14))
     else
     none)
    else
    some (Sum.inr b12))
noncomputable def bitmap_New_loop5_step (pixel3 : Int) (i16 : Nat) (x17 : Int) (s18 : (List Int)) : Option (((List Int)) ⊕ ((List Int))) :=
   let t13 : Int := IntKind.u8.wrap pixel3;
   (if 0 ≤ ((i16 : Nat) : Int) ∧ ((i16 : Nat) : Int) < (s18.length : Int) then
    let w14 : List Int := s18.set ((i16 : Nat) : Int).toNat t13;
    some (Sum.inl (w14))
    else
    none)
theorem bitmap_New_loop5_overAt (pixel3 : Int) (tr9 : List Int) (hl : tr9.length ≤ 4611686018427387904) (k : Nat) (s18 : (List Int)) (hk : k ≤ tr9.length) : loop (bitmap_New_loop5 pixel3 tr9) ((((k : Nat) : Int), s18) : Int × (List Int)) =
    overL (bitmap_New_loop5_step pixel3) (fun (s18 : (List Int)) => some s18) k (tr9.drop k) s18 := by
  refine loop_over tr9 (fun n (s : (List Int)) => ((((n : Nat) : Int), s) : Int × (List Int))) _ _ (fun s => ?_) (fun i x s h => ?_) k s18 hk
  · unfold bitmap_New_loop5; simp
  · have hlt := lt_len_of_get h
    have h1 : ((i : Nat) : Int) < ((tr9.length : Nat) : Int) := by omega
    have h0 : (0 : Int) ≤ ((i : Nat) : Int) := by omega
    have hw : IntKind.i64.wrap (((i : Nat) : Int) + 1) = (((i + 1 : Nat) : Nat) : Int) := w64 (by omega)
    have hr : rd tr9 ((i : Nat) : Int) = x := rd_nat h
    unfold bitmap_New_loop5 bitmap_New_loop5_step
    simp only [h1, h0, hw, h, hr, decide_true, if_true, and_self, true_and, Int.toNat_natCast, Option.bind_some, Option.map_bind, Function.comp_def, map_ite, map_elim, Option.map_some, Option.map_none]
theorem bitmap_New_loop5_over (pixel3 : Int) (tr9 : List Int) (hl : tr9.length ≤ 4611686018427387904) (s18 : (List Int)) : loop (bitmap_New_loop5 pixel3 tr9) ((0, s18) : Int × (List Int)) =
    overL (bitmap_New_loop5_step pixel3) (fun (s18 : (List Int)) => some s18) 0 tr9 s18 := bitmap_New_loop5_overAt pixel3 tr9 hl 0 s18 (Nat.zero_le _)

theorem bitmap_New_eq (w1 : Int) (h2 : Int) (pixel3 : Int) : bitmap_New w1 h2 pixel3 =
   ((if (decide (w1 < 0)) = true then
     some true
     else
     (if (decide (h2 < 0)) = true then
      some true
      else
      (if (!decide (pixel3 = 0)) = true then
       some (!decide (pixel3 = 1))
       else
       some false))) : Option (Bool)).bind (fun (v4 : Bool) =>
    (if v4 = true then
     some (0, 0, [], 2)
     else
     (bitmap_blank w1 h2).bind fun (q5 : Int × Int × Int × (List Int)) =>
     let tr6 : Int := q5.1;
     let tr7 : Int := q5.2.1;
     let tr8 : Int := q5.2.2.1;
     let tr9 : List Int := q5.2.2.2;
     (loop (bitmap_New_loop5 pixel3 tr9) (0, tr9)).bind (fun (b19 : (List Int)) =>
      some (tr6, tr7, b19, tr8)))) := (call_eq ..).trans (by kernel_rfl)

noncomputable def page_writer_size_loop1 (l1 : List Int) (s3 : Int × (List Int)) : Option ((Int × (List Int)) ⊕ ((List Int))) :=
   let v4 : Int := s3.1;
   let b5 : List Int := s3.2;
   (if (decide (v4 < ((l1.length : Nat) : Int))) = true then
    (if 0 ≤ v4 ∧ v4 < (l1.length : Int) then
     (bits_Size (rd l1 v4)).bind fun (q6 : (List Int) × Int) =>
     let tr7 : List Int := q6.1;
     let tr8 : Int := q6.2;
     (if (b5.length + tr7.length) * 1 ≤ 140737488355328 then
      let t9 : List Int := b5 ++ tr7;
      let t10 : Int := IntKind.i64.wrap (v4 + 1);
      some (Sum.inl (t10, t9))
      else
      none)
     else
     none)
    else
    some (Sum.inr b5))
noncomputable def page_writer_size_loop1_step (i11 : Nat) (x12 : Int) (s13 : (List Int)) : Option (((List Int)) ⊕ ((List Int))) :=
   (bits_Size (x12)).bind fun (q6 : (List Int) × Int) =>
   let tr7 : List Int := q6.1;
   let tr8 : Int := q6.2;
   (if (s13.length + tr7.length) * 1 ≤ 140737488355328 then
    let t9 : List Int := s13 ++ tr7;
    some (Sum.inl (t9))
    else
    none)
theorem page_writer_size_loop1_overAt (l1 : List Int) (hl : l1.length ≤ 4611686018427387904) (k : Nat) (s13 : (List Int)) (hk : k ≤ l1.length) : loop (page_writer_size_loop1 l1) ((((k : Nat) : Int), s13) : Int × (List Int)) =
    overL (page_writer_size_loop1_step) (fun (s13 : (List Int)) => some s13) k (l1.drop k) s13 := by
  refine loop_over l1 (fun n (s : (List Int)) => ((((n : Nat) : Int), s) : Int × (List Int))) _ _ (fun s => ?_) (fun i x s h => ?_) k s13 hk
  · unfold page_writer_size_loop1; simp
  · have hlt := lt_len_of_get h
    have h1 : ((i : Nat) : Int) < ((l1.length : Nat) : Int) := by omega
    have h0 : (0 : Int) ≤ ((i : Nat) : Int) := by omega
    have hw : IntKind.i64.wrap (((i : Nat) : Int) + 1) = (((i + 1 : Nat) : Nat) : Int) := w64 (by omega)
    have hr : rd l1 ((i : Nat) : Int) = x := rd_nat h
    unfold page_writer_size_loop1 page_writer_size_loop1_step
    simp only [h1, h0, hw, h, hr, decide_true, if_true, and_self, true_and, Int.toNat_natCast, Option.bind_some, Option.map_bind, Function.comp_def, map_ite, map_elim, Option.map_some, Option.map_none]
theorem page_writer_size_loop1_over (l1 : List Int) (hl : l1.length ≤ 4611686018427387904) (s13 : (List Int)) : loop (page_writer_size_loop1 l1) ((0, s13) : Int × (List Int)) =
    overL (page_writer_size_loop1_step) (fun (s13 : (List Int)) => some s13) 0 l1 s13 := page_writer_size_loop1_overAt l1 hl 0 s13 (Nat.zero_le _)

theorem page_writer_size_eq (l1 : List Int) (b2 : List Int) : page_writer_size l1 b2 =
   (loop (page_writer_size_loop1 l1) (0, b2)).bind (fun (b14 : (List Int)) =>
    some b14) := (call_eq ..).trans (by kernel_rfl)

noncomputable def page_writer_byte_loop1 (l1 : List Int) (s3 : Int × (List Int)) : Option ((Int × (List Int)) ⊕ ((List Int))) :=
   let v4 : Int := s3.1;
   let b5 : List Int := s3.2;
   (if (decide (v4 < ((l1.length : Nat) : Int))) = true then
    (if 0 ≤ v4 ∧ v4 < (l1.length : Int) then
     let t6 : Int := IntKind.u8.wrap (rd l1 v4);
     (if (b5.length + ([t6] : List Int).length) * 1 ≤ 140737488355328 then
      let t7 : List Int := b5 ++ [t6];
      let t8 : Int := IntKind.i64.wrap (v4 + 1);
      some (Sum.inl (t8, t7))
      else
      none)
     else
     none)
    else
    some (Sum.inr b5))
noncomputable def page_writer_byte_loop1_step (i9 : Nat) (x10 : Int) (s11 : (List Int)) : Option (((List Int)) ⊕ ((List Int))) :=
   let t6 : Int := IntKind.u8.wrap (x10);
   (if (s11.length + ([t6] : List Int).length) * 1 ≤ 140737488355328 then
    let t7 : List Int := s11 ++ [t6];
    some (Sum.inl (t7))
    else
    none)
theorem page_writer_byte_loop1_overAt (l1 : List Int) (hl : l1.length ≤ 4611686018427387904) (k : Nat) (s11 : (List Int)) (hk : k ≤ l1.length) : loop (page_writer_byte_loop1 l1) ((((k : Nat) : Int), s11) : Int × (List Int)) =
    overL (page_writer_byte_loop1_step) (fun (s11 : (List Int)) => some s11) k (l1.drop k) s11 := by
  refine loop_over l1 (fun n (s : (List Int)) => ((((n : Nat) : Int), s) : Int × (List Int))) _ _ (fun s => ?_) (fun i x s h => ?_) k s11 hk
  · unfold page_writer_byte_loop1; simp
  · have hlt := lt_len_of_get h
    have h1 : ((i : Nat) : Int) < ((l1.length : Nat) : Int) := by omega
    have h0 : (0 : Int) ≤ ((i : Nat) : Int) := by omega
    have hw : IntKind.i64.wrap (((i : Nat) : Int) + 1) = (((i + 1 : Nat) : Nat) : Int) := w64 (by omega)
    have hr : rd l1 ((i : Nat) : Int) = x := rd_nat h
    unfold page_writer_byte_loop1 page_writer_byte_loop1_step
    simp only [h1, h0, hw, h, hr, decide_true, if_true, and_self, true_and, Int.toNat_natCast, Option.bind_some, Option.map_bind, Function.comp_def, map_ite, map_elim, Option.map_some, Option.map_none]
theorem page_writer_byte_loop1_over (l1 : List Int) (hl : l1.length ≤ 4611686018427387904) (s11 : (List Int)) : loop (page_writer_byte_loop1 l1) ((0, s11) : Int × (List Int)) =
    overL (page_writer_byte_loop1_step) (fun (s11 : (List Int)) => some s11) 0 l1 s11 := page_writer_byte_loop1_overAt l1 hl 0 s11 (Nat.zero_le _)

theorem page_writer_byte_eq (l1 : List Int) (b2 : List Int) : page_writer_byte l1 b2 =
   (loop (page_writer_byte_loop1 l1) (0, b2)).bind (fun (b12 : (List Int)) =>
    some b12) := (call_eq ..).trans (by kernel_rfl)

theorem ref05_Sides_eq (w1 : Int) (h2 : Int) : ref05_Sides w1 h2 =
   (if (decide (w1 ≥ 0)) = true then
    (if (decide (h2 ≥ 0)) = true then
     (if (decide (w1 ≤ 200)) = true then
      (if (decide (h2 ≤ 200)) = true then
       let t3 : Int := IntKind.i64.wrap (w1 * h2);
       some (decide (t3 ≤ 8192))
       else
       some false)
      else
      some false)
     else
     some false)
    else
    some false) := (call_eq ..).trans (by kernel_rfl)

theorem ref13_size_eq (n1 : Int) : ref13_size n1 =
   (ref01_Size n1).bind fun (q2 : (List Int) × Int) =>
   let tr3 : List Int := q2.1;
   let tr4 : Int := q2.2;
   some tr3 := (call_eq ..).trans (by kernel_rfl)

noncomputable def ref13_join_loop3 (l1 : List (List Int)) (s2 : Int × (List Int)) : Option ((Int × (List Int)) ⊕ ((List Int))) :=
   let i3 : Int := s2.1;
   let out4 : List Int := s2.2;
   (if (decide (i3 < ((l1.length : Nat) : Int))) = true then
    (if 0 ≤ i3 then
     (l1[i3.toNat]?).bind fun e5 =>
     (if (out4.length + e5.length) * 1 ≤ 140737488355328 then
      let t6 : List Int := out4 ++ e5;
      let t7 : Int := IntKind.i64.wrap (i3 + 1);
      some (Sum.inl (t7, t6))
      else
      none)
     else
     none)
    else
    some (Sum.inr out4))
noncomputable def ref13_join_loop3_step (i8 : Nat) (x9 : (List Int)) (s10 : (List Int)) : Option (((List Int)) ⊕ ((List Int))) :=
   (if (s10.length + x9.length) * 1 ≤ 140737488355328 then
    let t6 : List Int := s10 ++ x9;
    some (Sum.inl (t6))
    else
    none)
theorem ref13_join_loop3_overAt (l1 : List (List Int)) (hl : l1.length ≤ 4611686018427387904) (k : Nat) (s10 : (List Int)) (hk : k ≤ l1.length) : loop (ref13_join_loop3 l1) ((((k : Nat) : Int), s10) : Int × (List Int)) =
    overL (ref13_join_loop3_step) (fun (s10 : (List Int)) => some s10) k (l1.drop k) s10 := by
  refine loop_over l1 (fun n (s : (List Int)) => ((((n : Nat) : Int), s) : Int × (List Int))) _ _ (fun s => ?_) (fun i x s h => ?_) k s10 hk
  · unfold ref13_join_loop3; simp
  · have hlt := lt_len_of_get h
    have h1 : ((i : Nat) : Int) < ((l1.length : Nat) : Int) := by omega
    have h0 : (0 : Int) ≤ ((i : Nat) : Int) := by omega
    have hw : IntKind.i64.wrap (((i : Nat) : Int) + 1) = (((i + 1 : Nat) : Nat) : Int) := w64 (by omega)
    unfold ref13_join_loop3 ref13_join_loop3_step
    simp only [h1, h0, hw, h, decide_true, if_true, and_self, true_and, Int.toNat_natCast, Option.bind_some, Option.map_bind, Function.comp_def, map_ite, map_elim, Option.map_some, Option.map_none]
theorem ref13_join_loop3_over (l1 : List (List Int)) (hl : l1.length ≤ 4611686018427387904) (s10 : (List Int)) : loop (ref13_join_loop3 l1) ((0, s10) : Int × (List Int)) =
    overL (ref13_join_loop3_step) (fun (s10 : (List Int)) => some s10) 0 l1 s10 := ref13_join_loop3_overAt l1 hl 0 s10 (Nat.zero_le _)

theorem ref13_join_eq (l1 : List (List Int)) : ref13_join l1 =
   (loop (ref13_join_loop3 l1) (0, [])).bind (fun (out11 : (List Int)) =>
    some out11) := (call_eq ..).trans (by kernel_rfl)

noncomputable def law26_weight_loop2 (l1 : List Chunk) (most2 : Int) (s3 : Int × Int × Bool × Int) : Option ((Int × Int × Bool × Int) ⊕ (Int × Int × Bool)) :=
   let bytes4 : Int := s3.1;
   let many5 : Int := s3.2.1;
   let deep6 : Bool := s3.2.2.1;
   let v7 : Int := s3.2.2.2;
   (if (decide (v7 < ((l1.length : Nat) : Int))) = true then
    (if 0 ≤ v7 then
     (l1[v7.toNat]?).bind fun e8 =>
     let t9 : Int := IntKind.i64.wrap (bytes4 + ((e8.data.length : Nat) : Int));
     let t10 : Int := IntKind.i64.wrap (many5 + 1);
     (if (decide (most2 = 0)) = true then
      let t11 : Int := IntKind.i64.wrap (v7 + 1);
      some (Sum.inl (t9, t10, true, t11))
      else
      let t12 : Int := IntKind.i64.wrap (most2 - 1);
      (law26_weight e8.kids t12).bind fun (q13 : Int × Int × Bool) =>
      let tr14 : Int := q13.1;
      let tr15 : Int := q13.2.1;
      let tr16 : Bool := q13.2.2;
      let t17 : Int := IntKind.i64.wrap (t9 + tr14);
      let t18 : Int := IntKind.i64.wrap (t10 + tr15);
      (if deep6 = true then
       let t19 : Int := IntKind.i64.wrap (v7 + 1);
       some (Sum.inl (t17, t18, true, t19))
       else
       let t20 : Int := IntKind.i64.wrap (v7 + 1);
       some (Sum.inl (t17, t18, tr16, t20))))
     else
     none)
    else
    some (Sum.inr (bytes4, many5, deep6)))
noncomputable def law26_weight_loop2_step (most2 : Int) (i21 : Nat) (x22 : Chunk) (s23 : Int × Int × Bool) : Option ((Int × Int × Bool) ⊕ (Int × Int × Bool)) :=
   let bytes24 : Int := s23.1;
   let many25 : Int := s23.2.1;
   let deep26 : Bool := s23.2.2;
   let t9 : Int := IntKind.i64.wrap (bytes24 + ((x22.data.length : Nat) : Int));
   let t10 : Int := IntKind.i64.wrap (many25 + 1);
   (if (decide (most2 = 0)) = true then
    some (Sum.inl ((t9, t10, true)))
    else
    let t12 : Int := IntKind.i64.wrap (most2 - 1);
    (law26_weight x22.kids t12).bind fun (q13 : Int × Int × Bool) =>
    let tr14 : Int := q13.1;
    let tr15 : Int := q13.2.1;
    let tr16 : Bool := q13.2.2;
    let t17 : Int := IntKind.i64.wrap (t9 + tr14);
    let t18 : Int := IntKind.i64.wrap (t10 + tr15);
    (if deep26 = true then
     some (Sum.inl ((t17, t18, true)))
     else
     some (Sum.inl ((t17, t18, tr16)))))
theorem law26_weight_loop2_overAt (l1 : List Chunk) (most2 : Int) (hl : l1.length ≤ 4611686018427387904) (k : Nat) (s23 : Int × Int × Bool) (hk : k ≤ l1.length) : loop (law26_weight_loop2 l1 most2) ((s23.1, s23.2.1, s23.2.2, ((k : Nat) : Int)) : Int × Int × Bool × Int) =
    overL (law26_weight_loop2_step most2) (fun (s23 : Int × Int × Bool) => let bytes24 : Int := s23.1; let many25 : Int := s23.2.1; let deep26 : Bool := s23.2.2; some (bytes24, many25, deep26)) k (l1.drop k) s23 := by
  refine loop_over l1 (fun n (s : Int × Int × Bool) => ((s.1, s.2.1, s.2.2, ((n : Nat) : Int)) : Int × Int × Bool × Int)) _ _ (fun s => ?_) (fun i x s h => ?_) k s23 hk
  · unfold law26_weight_loop2; simp
  · have hlt := lt_len_of_get h
    have h1 : ((i : Nat) : Int) < ((l1.length : Nat) : Int) := by omega
    have h0 : (0 : Int) ≤ ((i : Nat) : Int) := by omega
    have hw : IntKind.i64.wrap (((i : Nat) : Int) + 1) = (((i + 1 : Nat) : Nat) : Int) := w64 (by omega)
    unfold law26_weight_loop2 law26_weight_loop2_step
    simp only [h1, h0, hw, h, decide_true, if_true, and_self, true_and, Int.toNat_natCast, Option.bind_some, Option.map_bind, Function.comp_def, map_ite, map_elim, Option.map_some, Option.map_none]
theorem law26_weight_loop2_over (l1 : List Chunk) (most2 : Int) (hl : l1.length ≤ 4611686018427387904) (s23 : Int × Int × Bool) : loop (law26_weight_loop2 l1 most2) ((s23.1, s23.2.1, s23.2.2, 0) : Int × Int × Bool × Int) =
    overL (law26_weight_loop2_step most2) (fun (s23 : Int × Int × Bool) => let bytes24 : Int := s23.1; let many25 : Int := s23.2.1; let deep26 : Bool := s23.2.2; some (bytes24, many25, deep26)) 0 l1 s23 := law26_weight_loop2_overAt l1 most2 hl 0 s23 (Nat.zero_le _)

theorem law26_weight_eq (l1 : List Chunk) (most2 : Int) : law26_weight l1 most2 =
   (loop (law26_weight_loop2 l1 most2) (0, 0, false, 0)).bind (fun (p27 : Int × Int × Bool) =>
    let bytes28 : Int := p27.1;
    let many29 : Int := p27.2.1;
    let deep30 : Bool := p27.2.2;
    some (bytes28, many29, deep30)) := (call_eq ..).trans (by kernel_rfl)

theorem chunk_valid_eq (l1 : List Chunk) : chunk_valid l1 =
   (chunk_looks_right l1 1 0).bind fun (q2 : Bool × Int) =>
   let tr3 : Bool := q2.1;
   let tr4 : Int := q2.2;
   some tr3 := (call_eq ..).trans (by kernel_rfl)

theorem chunk_size_eq (c1 : List Int) (c2 : List Int) (c3 : List Int) (c4 : List Chunk) : chunk_size c1 c2 c3 c4 =
   (chunk_length c1 c2 c3 c4).bind fun (q5 : Int) =>
   let t6 : Int := IntKind.i64.wrap (q5 + 1);
   let t7 : Int := IntKind.i64.wrap (t6.tdiv 2);
   let t8 : Int := IntKind.i64.wrap (t7 * 2);
   let t9 : Int := IntKind.i64.wrap (8 + t8);
   some t9 := (call_eq ..).trans (by kernel_rfl)

noncomputable def chunk_put_loop7 (c4 : List Chunk) (s17 : Int × (List Int)) : Option ((Int × (List Int)) ⊕ ((List Int))) :=
   let v18 : Int := s17.1;
   let out19 : List Int := s17.2;
   (if (decide (v18 < ((c4.length : Nat) : Int))) = true then
    (if 0 ≤ v18 then
     (c4[v18.toNat]?).bind fun e20 =>
     (chunk_put e20.id e20.kind e20.data e20.kids out19).bind fun (q21 : (List Int)) =>
     let t22 : Int := IntKind.i64.wrap (v18 + 1);
     some (Sum.inl (t22, q21))
     else
     none)
    else
    some (Sum.inr out19))
noncomputable def chunk_put_loop7_step (i23 : Nat) (x24 : Chunk) (s25 : (List Int)) : Option (((List Int)) ⊕ ((List Int))) :=
   (chunk_put x24.id x24.kind x24.data x24.kids s25).bind fun (q21 : (List Int)) =>
   some (Sum.inl (q21))
theorem chunk_put_loop7_overAt (c4 : List Chunk) (hl : c4.length ≤ 4611686018427387904) (k : Nat) (s25 : (List Int)) (hk : k ≤ c4.length) : loop (chunk_put_loop7 c4) ((((k : Nat) : Int), s25) : Int × (List Int)) =
    overL (chunk_put_loop7_step) (fun (s25 : (List Int)) => some s25) k (c4.drop k) s25 := by
  refine loop_over c4 (fun n (s : (List Int)) => ((((n : Nat) : Int), s) : Int × (List Int))) _ _ (fun s => ?_) (fun i x s h => ?_) k s25 hk
  · unfold chunk_put_loop7; simp
  · have hlt := lt_len_of_get h
    have h1 : ((i : Nat) : Int) < ((c4.length : Nat) : Int) := by omega
    have h0 : (0 : Int) ≤ ((i : Nat) : Int) := by omega
    have hw : IntKind.i64.wrap (((i : Nat) : Int) + 1) = (((i + 1 : Nat) : Nat) : Int) := w64 (by omega)
    unfold chunk_put_loop7 chunk_put_loop7_step
    simp only [h1, h0, hw, h, decide_true, if_true, and_self, true_and, Int.toNat_natCast, Option.bind_some, Option.map_bind, Function.comp_def, map_ite, map_elim, Option.map_some, Option.map_none]
theorem chunk_put_loop7_over (c4 : List Chunk) (hl : c4.length ≤ 4611686018427387904) (s25 : (List Int)) : loop (chunk_put_loop7 c4) ((0, s25) : Int × (List Int)) =
    overL (chunk_put_loop7_step) (fun (s25 : (List Int)) => some s25) 0 c4 s25 := chunk_put_loop7_overAt c4 hl 0 s25 (Nat.zero_le _)

theorem chunk_put_eq (c1 : List Int) (c2 : List Int) (c3 : List Int) (c4 : List Chunk) (b5 : List Int) : chunk_put c1 c2 c3 c4 b5 =
   (chunk_length c1 c2 c3 c4).bind fun (q6 : Int) =>
   (if (b5.length + c1.length) * 1 ≤ 140737488355328 then
    let t7 : List Int := b5 ++ c1;
    let t8 : Int := ishr .i64 q6 24;
    let t9 : Int := IntKind.u8.wrap t8;
    let t10 : Int := ishr .i64 q6 16;
    let t11 : Int := IntKind.u8.wrap t10;
    let t12 : Int := ishr .i64 q6 8;
    let t13 : Int := IntKind.u8.wrap t12;
    let t14 : Int := IntKind.u8.wrap q6;
    (if (t7.length + ([t9, t11, t13, t14] : List Int).length) * 1 ≤ 140737488355328 then
     let t15 : List Int := t7 ++ [t9, t11, t13, t14];
     ((if (decide (c1 = [70, 79, 82, 77])) = true then
       (if (t15.length + c2.length) * 1 ≤ 140737488355328 then
        let t16 : List Int := t15 ++ c2;
        (loop (chunk_put_loop7 c4) (0, t16)).bind (fun (out26 : (List Int)) =>
         some out26)
        else
        none)
       else
       (if (t15.length + c3.length) * 1 ≤ 140737488355328 then
        let t27 : List Int := t15 ++ c3;
        some t27
        else
        none)) : Option ((List Int))).bind (fun (out28 : (List Int)) =>
      let t29 : Int := q6.tmod 2;
      (if (decide (t29 = 1)) = true then
       (if (out28.length + ([0] : List Int).length) * 1 ≤ 140737488355328 then
        let t30 : List Int := out28 ++ [0];
        some t30
        else
        none)
       else
       some out28))
     else
     none)
    else
    none) := (call_eq ..).trans (by kernel_rfl)

noncomputable def ref26_ValidList_loop2 (l1 : List Chunk) (v2 : Int) : Option ((Int) ⊕ ((Unit) ⊕ (Bool))) :=
   (if (decide (v2 < ((l1.length : Nat) : Int))) = true then
    (if 0 ≤ v2 then
     (l1[v2.toNat]?).bind fun e3 =>
     (ref26_single e3.id e3.kind e3.data e3.kids).bind fun (q4 : Bool) =>
     (if (!q4) = true then
      some (Sum.inr (Sum.inr false))
      else
      let t5 : Int := IntKind.i64.wrap (v2 + 1);
      some (Sum.inl t5))
     else
     none)
    else
    some (Sum.inr (Sum.inl ())))
noncomputable def ref26_ValidList_loop2_step (i6 : Nat) (x7 : Chunk) (s8 : Unit) : Option ((Unit) ⊕ ((Unit) ⊕ (Bool))) :=
   (ref26_single x7.id x7.kind x7.data x7.kids).bind fun (q4 : Bool) =>
   (if (!q4) = true then
    some (Sum.inr (Sum.inr false))
    else
    some (Sum.inl (())))
theorem ref26_ValidList_loop2_overAt (l1 : List Chunk) (hl : l1.length ≤ 4611686018427387904) (k : Nat) (s8 : Unit) (hk : k ≤ l1.length) : loop (ref26_ValidList_loop2 l1) (((k : Nat) : Int) : Int) =
    overL (ref26_ValidList_loop2_step) (fun (s8 : Unit) => some (Sum.inl ())) k (l1.drop k) s8 := by
  refine loop_over l1 (fun n (s : Unit) => (((n : Nat) : Int) : Int)) _ _ (fun s => ?_) (fun i x s h => ?_) k s8 hk
  · unfold ref26_ValidList_loop2; simp
  · have hlt := lt_len_of_get h
    have h1 : ((i : Nat) : Int) < ((l1.length : Nat) : Int) := by omega
    have h0 : (0 : Int) ≤ ((i : Nat) : Int) := by omega
    have hw : IntKind.i64.wrap (((i : Nat) : Int) + 1) = (((i + 1 : Nat) : Nat) : Int) := w64 (by omega)
    unfold ref26_ValidList_loop2 ref26_ValidList_loop2_step
    simp only [h1, h0, hw, h, decide_true, if_true, and_self, true_and, Int.toNat_natCast, Option.bind_some, Option.map_bind, Function.comp_def, map_ite, map_elim, Option.map_some, Option.map_none]
theorem ref26_ValidList_loop2_over (l1 : List Chunk) (hl : l1.length ≤ 4611686018427387904) (s8 : Unit) : loop (ref26_ValidList_loop2 l1) (0 : Int) =
    overL (ref26_ValidList_loop2_step) (fun (s8 : Unit) => some (Sum.inl ())) 0 l1 s8 := ref26_ValidList_loop2_overAt l1 hl 0 s8 (Nat.zero_le _)

theorem ref26_ValidList_eq (l1 : List Chunk) : ref26_ValidList l1 =
   (loop (ref26_ValidList_loop2 l1) 0).bind (fun (o11 : (Unit) ⊕ (Bool)) =>
    (Sum.elim (fun (p9 : Unit) =>
      (ref26_count l1).bind fun (q12 : Int × Int) =>
      let tr13 : Int := q12.1;
      let tr14 : Int := q12.2;
      (if (decide (tr13 ≤ 400)) = true then
       some (decide (tr14 ≤ 8))
       else
       some false))
     (fun (v10 : Bool) =>
      some v10) o11)) := (call_eq ..).trans (by kernel_rfl)

noncomputable def ref26_size_loop5 (c4 : List Chunk) (s5 : Int × Int) : Option ((Int × Int) ⊕ (Int)) :=
   let n6 : Int := s5.1;
   let v7 : Int := s5.2;
   (if (decide (v7 < ((c4.length : Nat) : Int))) = true then
    (if 0 ≤ v7 then
     (c4[v7.toNat]?).bind fun e8 =>
     (ref26_size e8.id e8.kind e8.data e8.kids).bind fun (q9 : Int) =>
     let t10 : Int := IntKind.i64.wrap (n6 + q9);
     let t11 : Int := IntKind.i64.wrap (v7 + 1);
     some (Sum.inl (t10, t11))
     else
     none)
    else
    some (Sum.inr n6))
noncomputable def ref26_size_loop5_step (i12 : Nat) (x13 : Chunk) (s14 : Int) : Option ((Int) ⊕ (Int)) :=
   (ref26_size x13.id x13.kind x13.data x13.kids).bind fun (q9 : Int) =>
   let t10 : Int := IntKind.i64.wrap (s14 + q9);
   some (Sum.inl (t10))
theorem ref26_size_loop5_overAt (c4 : List Chunk) (hl : c4.length ≤ 4611686018427387904) (k : Nat) (s14 : Int) (hk : k ≤ c4.length) : loop (ref26_size_loop5 c4) ((s14, ((k : Nat) : Int)) : Int × Int) =
    overL (ref26_size_loop5_step) (fun (s14 : Int) => some s14) k (c4.drop k) s14 := by
  refine loop_over c4 (fun n (s : Int) => ((s, ((n : Nat) : Int)) : Int × Int)) _ _ (fun s => ?_) (fun i x s h => ?_) k s14 hk
  · unfold ref26_size_loop5; simp
  · have hlt := lt_len_of_get h
    have h1 : ((i : Nat) : Int) < ((c4.length : Nat) : Int) := by omega
    have h0 : (0 : Int) ≤ ((i : Nat) : Int) := by omega
    have hw : IntKind.i64.wrap (((i : Nat) : Int) + 1) = (((i + 1 : Nat) : Nat) : Int) := w64 (by omega)
    unfold ref26_size_loop5 ref26_size_loop5_step
    simp only [h1, h0, hw, h, decide_true, if_true, and_self, true_and, Int.toNat_natCast, Option.bind_some, Option.map_bind, Function.comp_def, map_ite, map_elim, Option.map_some, Option.map_none]
theorem ref26_size_loop5_over (c4 : List Chunk) (hl : c4.length ≤ 4611686018427387904) (s14 : Int) : loop (ref26_size_loop5 c4) ((s14, 0) : Int × Int) =
    overL (ref26_size_loop5_step) (fun (s14 : Int) => some s14) 0 c4 s14 := ref26_size_loop5_overAt c4 hl 0 s14 (Nat.zero_le _)

theorem ref26_size_eq (c1 : List Int) (c2 : List Int) (c3 : List Int) (c4 : List Chunk) : ref26_size c1 c2 c3 c4 =
   ((if (decide (c1 = [70, 79, 82, 77])) = true then
     (loop (ref26_size_loop5 c4) (4, 0)).bind (fun (n15 : Int) =>
      some n15)
     else
     some ((c3.length : Nat) : Int)) : Option (Int)).bind (fun (n16 : Int) =>
    let t17 : Int := IntKind.i64.wrap (8 + n16);
    let t18 : Int := n16.tmod 2;
    let t19 : Int := IntKind.i64.wrap (t17 + t18);
    some t19) := (call_eq ..).trans (by kernel_rfl)

noncomputable def ref26_bytes_loop3 (l1 : List Chunk) (s2 : Int × (List Int)) : Option ((Int × (List Int)) ⊕ ((List Int))) :=
   let v3 : Int := s2.1;
   let out4 : List Int := s2.2;
   (if (decide (v3 < ((l1.length : Nat) : Int))) = true then
    (if 0 ≤ v3 then
     (l1[v3.toNat]?).bind fun e5 =>
     ((if (decide (e5.id = [70, 79, 82, 77])) = true then
       (ref26_bytes e5.kids).bind fun (q6 : (List Int)) =>
       (if (e5.kind.length + q6.length) * 1 ≤ 140737488355328 then
        let t7 : List Int := e5.kind ++ q6;
        some t7
        else
        none)
       else
       some e5.data) : Option ((List Int))).bind (fun (inner8 : (List Int)) =>
      (if (out4.length + e5.id.length) * 1 ≤ 140737488355328 then
       let t9 : List Int := out4 ++ e5.id;
       let t10 : Int := ishr .i64 ((inner8.length : Nat) : Int) 24;
       let t11 : Int := IntKind.u8.wrap t10;
       let t12 : Int := ishr .i64 ((inner8.length : Nat) : Int) 16;
       let t13 : Int := IntKind.u8.wrap t12;
       let t14 : Int := ishr .i64 ((inner8.length : Nat) : Int) 8;
       let t15 : Int := IntKind.u8.wrap t14;
       let t16 : Int := IntKind.u8.wrap ((inner8.length : Nat) : Int);
       (if (t9.length + ([t11, t13, t15, t16] : List Int).length) * 1 ≤ 140737488355328 then
        let t17 : List Int := t9 ++ [t11, t13, t15, t16];
        (if (t17.length + inner8.length) * 1 ≤ 140737488355328 then
         let t18 : List Int := t17 ++ inner8;
         let t19 : Int := ((inner8.length : Nat) : Int).tmod 2;
         (if (decide (t19 = 1)) = true then
          (if (t18.length + ([0] : List Int).length) * 1 ≤ 140737488355328 then
           let t20 : List Int := t18 ++ [0];
           let t21 : Int := IntKind.i64.wrap (v3 + 1);
           some (Sum.inl (t21, t20))
           else
           none)
          else
          let t22 : Int := IntKind.i64.wrap (v3 + 1);
          some (Sum.inl (t22, t18)))
         else
         none)
        else
        none)
       else
       none))
     else
     none)
    else
    some (Sum.inr out4))
noncomputable def ref26_bytes_loop3_step (i23 : Nat) (x24 : Chunk) (s25 : (List Int)) : Option (((List Int)) ⊕ ((List Int))) :=
   ((if (decide (x24.id = [70, 79, 82, 77])) = true then
     (ref26_bytes x24.kids).bind fun (q6 : (List Int)) =>
     (if (x24.kind.length + q6.length) * 1 ≤ 140737488355328 then
      let t7 : List Int := x24.kind ++ q6;
      some t7
      else
      none)
     else
     some x24.data) : Option ((List Int))).bind (fun (inner8 : (List Int)) =>
    (if (s25.length + x24.id.length) * 1 ≤ 140737488355328 then
     let t9 : List Int := s25 ++ x24.id;
     let t10 : Int := ishr .i64 ((inner8.length : Nat) : Int) 24;
     let t11 : Int := IntKind.u8.wrap t10;
     let t12 : Int := ishr .i64 ((inner8.length : Nat) : Int) 16;
     let t13 : Int := IntKind.u8.wrap t12;
     let t14 : Int := ishr .i64 ((inner8.length : Nat) : Int) 8;
     let t15 : Int := IntKind.u8.wrap t14;
     let t16 : Int := IntKind.u8.wrap ((inner8.length : Nat) : Int);
     (if (t9.length + ([t11, t13, t15, t16] : List Int).length) * 1 ≤ 140737488355328 then
      let t17 : List Int := t9 ++ [t11, t13, t15, t16];
      (if (t17.length + inner8.length) * 1 ≤ 140737488355328 then
       let t18 : List Int := t17 ++ inner8;
       let t19 : Int := ((inner8.length : Nat) : Int).tmod 2;
       (if (decide (t19 = 1)) = true then
        (if (t18.length + ([0] : List Int).length) * 1 ≤ 140737488355328 then
         let t20 : List Int := t18 ++ [0];
         some (Sum.inl (t20))
         else
         none)
        else
        some (Sum.inl (t18)))
       else
       none)
      else
      none)
     else
     none))
theorem ref26_bytes_loop3_overAt (l1 : List Chunk) (hl : l1.length ≤ 4611686018427387904) (k : Nat) (s25 : (List Int)) (hk : k ≤ l1.length) : loop (ref26_bytes_loop3 l1) ((((k : Nat) : Int), s25) : Int × (List Int)) =
    overL (ref26_bytes_loop3_step) (fun (s25 : (List Int)) => some s25) k (l1.drop k) s25 := by
  refine loop_over l1 (fun n (s : (List Int)) => ((((n : Nat) : Int), s) : Int × (List Int))) _ _ (fun s => ?_) (fun i x s h => ?_) k s25 hk
  · unfold ref26_bytes_loop3; simp
  · have hlt := lt_len_of_get h
    have h1 : ((i : Nat) : Int) < ((l1.length : Nat) : Int) := by omega
    have h0 : (0 : Int) ≤ ((i : Nat) : Int) := by omega
    have hw : IntKind.i64.wrap (((i : Nat) : Int) + 1) = (((i + 1 : Nat) : Nat) : Int) := w64 (by omega)
    unfold ref26_bytes_loop3 ref26_bytes_loop3_step
    simp only [h1, h0, hw, h, decide_true, if_true, and_self, true_and, Int.toNat_natCast, Option.bind_some, Option.map_bind, Function.comp_def, map_ite, map_elim, Option.map_some, Option.map_none]
theorem ref26_bytes_loop3_over (l1 : List Chunk) (hl : l1.length ≤ 4611686018427387904) (s25 : (List Int)) : loop (ref26_bytes_loop3 l1) ((0, s25) : Int × (List Int)) =
    overL (ref26_bytes_loop3_step) (fun (s25 : (List Int)) => some s25) 0 l1 s25 := ref26_bytes_loop3_overAt l1 hl 0 s25 (Nat.zero_le _)

theorem ref26_bytes_eq (l1 : List Chunk) : ref26_bytes l1 =
   (loop (ref26_bytes_loop3 l1) (0, [])).bind (fun (out26 : (List Int)) =>
    some out26) := (call_eq ..).trans (by kernel_rfl)

noncomputable def slices_EqualFunc_api_Chunk_api_Chunk_api_Chunk_api_Chunk_loop4 (s1 : List Chunk) (s2 : List Chunk) (v3 : Int) : Option ((Int) ⊕ ((Unit) ⊕ (Bool))) :=
   (if (decide (v3 < ((s1.length : Nat) : Int))) = true then
    (if 0 ≤ v3 then
     (s1[v3.toNat]?).bind fun e4 =>
     (if 0 ≤ v3 then
      (s2[v3.toNat]?).bind fun e5 =>
      (chunk_Same_1 e4.id e4.kind e4.data e4.kids e5.id e5.kind e5.data e5.kids).bind fun (q6 : Bool) =>
      (if (!q6) = true then
       some (Sum.inr (Sum.inr false))
       else
       let t7 : Int := IntKind.i64.wrap (v3 + 1);
       some (Sum.inl t7))
      else
      none)
     else
     none)
    else
    some (Sum.inr (Sum.inl ())))
noncomputable def slices_EqualFunc_api_Chunk_api_Chunk_api_Chunk_api_Chunk_loop4_step (s2 : List Chunk) (i8 : Nat) (x9 : Chunk) (s10 : Unit) : Option ((Unit) ⊕ ((Unit) ⊕ (Bool))) :=
   (if 0 ≤ ((i8 : Nat) : Int) then
    (s2[((i8 : Nat) : Int).toNat]?).bind fun e5 =>
    (chunk_Same_1 x9.id x9.kind x9.data x9.kids e5.id e5.kind e5.data e5.kids).bind fun (q6 : Bool) =>
    (if (!q6) = true then
     some (Sum.inr (Sum.inr false))
     else
     some (Sum.inl (())))
    else
    none)
theorem slices_EqualFunc_api_Chunk_api_Chunk_api_Chunk_api_Chunk_loop4_overAt (s1 : List Chunk) (s2 : List Chunk) (hl : s1.length ≤ 4611686018427387904) (k : Nat) (s10 : Unit) (hk : k ≤ s1.length) : loop (slices_EqualFunc_api_Chunk_api_Chunk_api_Chunk_api_Chunk_loop4 s1 s2) (((k : Nat) : Int) : Int) =
    overL (slices_EqualFunc_api_Chunk_api_Chunk_api_Chunk_api_Chunk_loop4_step s2) (fun (s10 : Unit) => some (Sum.inl ())) k (s1.drop k) s10 := by
  refine loop_over s1 (fun n (s : Unit) => (((n : Nat) : Int) : Int)) _ _ (fun s => ?_) (fun i x s h => ?_) k s10 hk
  · unfold slices_EqualFunc_api_Chunk_api_Chunk_api_Chunk_api_Chunk_loop4; simp
  · have hlt := lt_len_of_get h
    have h1 : ((i : Nat) : Int) < ((s1.length : Nat) : Int) := by omega
    have h0 : (0 : Int) ≤ ((i : Nat) : Int) := by omega
    have hw : IntKind.i64.wrap (((i : Nat) : Int) + 1) = (((i + 1 : Nat) : Nat) : Int) := w64 (by omega)
    unfold slices_EqualFunc_api_Chunk_api_Chunk_api_Chunk_api_Chunk_loop4 slices_EqualFunc_api_Chunk_api_Chunk_api_Chunk_api_Chunk_loop4_step
    simp only [h1, h0, hw, h, decide_true, if_true, and_self, true_and, Int.toNat_natCast, Option.bind_some, Option.map_bind, Function.comp_def, map_ite, map_elim, Option.map_some, Option.map_none]
theorem slices_EqualFunc_api_Chunk_api_Chunk_api_Chunk_api_Chunk_loop4_over (s1 : List Chunk) (s2 : List Chunk) (hl : s1.length ≤ 4611686018427387904) (s10 : Unit) : loop (slices_EqualFunc_api_Chunk_api_Chunk_api_Chunk_api_Chunk_loop4 s1 s2) (0 : Int) =
    overL (slices_EqualFunc_api_Chunk_api_Chunk_api_Chunk_api_Chunk_loop4_step s2) (fun (s10 : Unit) => some (Sum.inl ())) 0 s1 s10 := slices_EqualFunc_api_Chunk_api_Chunk_api_Chunk_api_Chunk_loop4_overAt s1 s2 hl 0 s10 (Nat.zero_le _)

theorem slices_EqualFunc_api_Chunk_api_Chunk_api_Chunk_api_Chunk_eq (s1 : List Chunk) (s2 : List Chunk) : slices_EqualFunc_api_Chunk_api_Chunk_api_Chunk_api_Chunk s1 s2 =
   (if (!decide (((s1.length : Nat) : Int) = ((s2.length : Nat) : Int))) = true then
    some false
    else
    (loop (slices_EqualFunc_api_Chunk_api_Chunk_api_Chunk_api_Chunk_loop4 s1 s2) 0).bind (fun (o13 : (Unit) ⊕ (Bool)) =>
     (Sum.elim (fun (p11 : Unit) =>
       some true)
      (fun (v12 : Bool) =>
       some v12) o13))) := (call_eq ..).trans (by kernel_rfl)

theorem ref26_same_eq (a1 : List Int) (a2 : List Int) (a3 : List Int) (a4 : List Chunk) (b5 : List Int) (b6 : List Int) (b7 : List Int) (b8 : List Chunk) : ref26_same a1 a2 a3 a4 b5 b6 b7 b8 =
   (if (decide (a1 = b5)) = true then
    (if (decide (a2 = b6)) = true then
     (if (decide (a3 = b7)) = true then
      (ref26_Same a4 b8).bind fun (q9 : Bool) =>
      some q9
      else
      some false)
     else
     some false)
    else
    some false) := (call_eq ..).trans (by kernel_rfl)
end
end Go.Proofs.Ytjabpjkomgakbaa.P
