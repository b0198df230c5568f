/- The equations of functions. Printed by wip/tool/vsym.py. -/
import Derived.Test.YtjabpjkomgakbaaG
namespace Go.Proofs.Ytjabpjkomgakbaa.P
open Go Go.Proofs.Ytjabpjkomgakbaa.V
set_option linter.unusedVariables false
set_option linter.unusedSimpArgs false
set_option maxRecDepth 100000
noncomputable section
theorem law13_PageInfos_eq (in1 : Int) (in2 : Int) (in3 : Int) (in4 : Int) (in5 : Int) : law13_PageInfos in1 in2 in3 in4 in5 =
   (page_Info in1 in2 in3 in4).bind fun (q6 : (List Int) × Int) =>
   let tr7 : List Int := q6.1;
   let tr8 : Int := q6.2;
   (ref13_Info in1 in2 in3 in4).bind fun (q9 : (List Int) × Int) =>
   let tr10 : List Int := q9.1;
   let tr11 : Int := q9.2;
   (page_Stripe in5).bind fun (q12 : (List Int) × Int) =>
   let tr13 : List Int := q12.1;
   let tr14 : Int := q12.2;
   (ref13_Stripe in5).bind fun (q15 : (List Int) × Int) =>
   let tr16 : List Int := q15.1;
   let tr17 : Int := q15.2;
   (if (decide (tr8 = tr11)) = true then
    (if (decide (tr14 = tr17)) = true then
     (ref01_SameBytes tr7 tr10).bind fun (q18 : Bool) =>
     (if q18 = true then
      (ref01_SameBytes tr13 tr16).bind fun (q19 : Bool) =>
      (if q19 = true then
       (law13_Sane).bind fun (q20 : Bool) =>
       some q20
       else
       some false)
      else
      some false)
     else
     some false)
    else
    some false) := (call_eq ..).trans (by kernel_rfl)

theorem law26_ChunkTogether_eq (l1 : List Chunk) (k2 : List Chunk) : law26_ChunkTogether l1 k2 =
   ((law26_large l1).bind fun (q3 : Bool) =>
    (if q3 = true then
     some true
     else
     (law26_large k2).bind fun (q4 : Bool) =>
     some q4) : Option (Bool)).bind (fun (v5 : Bool) =>
    (if v5 = true then
     (law26_Awake).bind fun (q6 : Bool) =>
     some q6
     else
     (if (([] : List Chunk).length + l1.length) * 80 ≤ 140737488355328 then
      let t7 : List Chunk := ([] : List Chunk) ++ l1;
      (if (t7.length + k2.length) * 80 ≤ 140737488355328 then
       let t8 : List Chunk := t7 ++ k2;
       (chunk_Put l1).bind fun (q9 : (List Int) × Int) =>
       let tr10 : List Int := q9.1;
       let tr11 : Int := q9.2;
       (chunk_Put k2).bind fun (q12 : (List Int) × Int) =>
       let tr13 : List Int := q12.1;
       let tr14 : Int := q12.2;
       (chunk_Put t8).bind fun (q15 : (List Int) × Int) =>
       let tr16 : List Int := q15.1;
       let tr17 : Int := q15.2;
       (if (!decide (tr17 = 0)) = true then
        ((if (decide (((tr16.length : Nat) : Int) = 0)) = true then
          (law26_Awake).bind fun (q18 : Bool) =>
          some q18
          else
          some false) : Option (Bool)).bind (fun (v19 : Bool) =>
         some v19)
        else
        (if (decide (tr11 = 0)) = true then
         (if (decide (tr14 = 0)) = true then
          (if (([] : List Int).length + tr10.length) * 1 ≤ 140737488355328 then
           let t20 : List Int := ([] : List Int) ++ tr10;
           (if (t20.length + tr13.length) * 1 ≤ 140737488355328 then
            let t21 : List Int := t20 ++ tr13;
            (ref02_SameBytes t21 tr16).bind fun (q22 : Bool) =>
            (if q22 = true then
             (law26_Awake).bind fun (q23 : Bool) =>
             some q23
             else
             some false)
            else
            none)
           else
           none)
          else
          some false)
         else
         some false))
       else
       none)
      else
      none))) := (call_eq ..).trans (by kernel_rfl)

noncomputable def law26_ChunkPuts_loop9 (l1 : List Chunk) (s18 : Int × Int) : Option ((Int × Int) ⊕ ((Int) ⊕ (Bool))) :=
   let all19 : Int := s18.1;
   let v20 : Int := s18.2;
   (if (decide (v20 < ((l1.length : Nat) : Int))) = true then
    (if 0 ≤ v20 then
     (l1[v20.toNat]?).bind fun e21 =>
     (chunk_Size e21.id e21.kind e21.data e21.kids).bind fun (q22 : Int × Int) =>
     let tr23 : Int := q22.1;
     let tr24 : Int := q22.2;
     (ref26_Size e21.id e21.kind e21.data e21.kids).bind fun (q25 : Int × Int) =>
     let tr26 : Int := q25.1;
     let tr27 : Int := q25.2;
     ((if (!decide (tr23 = tr26)) = true then
       some true
       else
       (if (!decide (tr24 = tr27)) = true then
        some true
        else
        (chunk_Valid e21.id e21.kind e21.data e21.kids).bind fun (q28 : Bool) =>
        (ref26_Valid e21.id e21.kind e21.data e21.kids).bind fun (q29 : Bool) =>
        some (!decide (q28 = q29)))) : Option (Bool)).bind (fun (v30 : Bool) =>
      (if v30 = true then
       some (Sum.inr (Sum.inr false))
       else
       let t31 : Int := IntKind.i64.wrap (all19 + tr23);
       let t32 : Int := IntKind.i64.wrap (v20 + 1);
       some (Sum.inl (t31, t32))))
     else
     none)
    else
    some (Sum.inr (Sum.inl all19)))
theorem law26_ChunkPuts_eq (l1 : List Chunk) (other2 : List Chunk) : law26_ChunkPuts l1 other2 =
   ((law26_large l1).bind fun (q3 : Bool) =>
    (if q3 = true then
     some true
     else
     (law26_large other2).bind fun (q4 : Bool) =>
     some q4) : Option (Bool)).bind (fun (v5 : Bool) =>
    (if v5 = true then
     (law26_Awake).bind fun (q6 : Bool) =>
     some q6
     else
     (chunk_Put l1).bind fun (q7 : (List Int) × Int) =>
     let tr8 : List Int := q7.1;
     let tr9 : Int := q7.2;
     (ref26_Put l1).bind fun (q10 : (List Int) × Int) =>
     let tr11 : List Int := q10.1;
     let tr12 : Int := q10.2;
     ((if (!decide (tr9 = tr12)) = true then
       some true
       else
       (ref02_SameBytes tr8 tr11).bind fun (q13 : Bool) =>
       (if (!q13) = true then
        some true
        else
        (chunk_Same l1 other2).bind fun (q14 : Bool) =>
        (ref26_Same l1 other2).bind fun (q15 : Bool) =>
        (if (!decide (q14 = q15)) = true then
         some true
         else
         (chunk_Same l1 l1).bind fun (q16 : Bool) =>
         some (!q16)))) : Option (Bool)).bind (fun (v17 : Bool) =>
      (if v17 = true then
       some false
       else
       (loop (law26_ChunkPuts_loop9 l1) (0, 0)).bind (fun (o35 : (Int) ⊕ (Bool)) =>
        (match o35 with
         | Sum.inl all33 =>
         (if (!decide (tr9 = 0)) = true then
          (law26_Awake).bind fun (q36 : Bool) =>
          some q36
          else
          (if (decide (all33 = ((tr8.length : Nat) : Int))) = true then
           (law26_Awake).bind fun (q37 : Bool) =>
           some q37
           else
           some false))
         | Sum.inr v34 =>
         some v34)))))) := (call_eq ..).trans (by kernel_rfl)

theorem law26_ChunkFinds_eq (l1 : List Chunk) (path2 : List (List Int)) (id3 : List Int) : law26_ChunkFinds l1 path2 id3 =
   ((law26_large l1).bind fun (q4 : Bool) =>
    (if q4 = true then
     some true
     else
     some (decide (((path2.length : Nat) : Int) > 100))) : Option (Bool)).bind (fun (v5 : Bool) =>
    (if v5 = true then
     (law26_Awake).bind fun (q6 : Bool) =>
     some q6
     else
     (chunk_Find l1 path2).bind fun (q7 : (List Int) × (List Int) × (List Int) × (List Chunk) × Int) =>
     let tr8 : List Int := q7.1;
     let tr9 : List Int := q7.2.1;
     let tr10 : List Int := q7.2.2.1;
     let tr11 : List Chunk := q7.2.2.2.1;
     let tr12 : Int := q7.2.2.2.2;
     (ref26_Find l1 path2).bind fun (q13 : (List Int) × (List Int) × (List Int) × (List Chunk) × Int) =>
     let tr14 : List Int := q13.1;
     let tr15 : List Int := q13.2.1;
     let tr16 : List Int := q13.2.2.1;
     let tr17 : List Chunk := q13.2.2.2.1;
     let tr18 : Int := q13.2.2.2.2;
     (chunk_All l1 id3).bind fun (q19 : (List Chunk) × Int) =>
     let tr20 : List Chunk := q19.1;
     let tr21 : Int := q19.2;
     (ref26_All l1 id3).bind fun (q22 : (List Chunk) × Int) =>
     let tr23 : List Chunk := q22.1;
     let tr24 : Int := q22.2;
     (if (decide (tr12 = tr18)) = true then
      (ref26_Same [(Chunk.mk tr8 tr9 tr10 tr11)] [(Chunk.mk tr14 tr15 tr16 tr17)]).bind fun (q25 : Bool) =>
      (if q25 = true then
       (if (decide (tr21 = tr24)) = true then
        (ref26_Same tr20 tr23).bind fun (q26 : Bool) =>
        (if q26 = true then
         (law26_Awake).bind fun (q27 : Bool) =>
         some q27
         else
         some false)
        else
        some false)
       else
       some false)
      else
      some false))) := (call_eq ..).trans (by kernel_rfl)

theorem law26_ChunkReplaces_eq (l1 : List Chunk) (id2 : List Int) (data3 : List Int) : law26_ChunkReplaces l1 id2 data3 =
   ((law26_large l1).bind fun (q4 : Bool) =>
    (if q4 = true then
     some true
     else
     some (decide (((data3.length : Nat) : Int) > 60000))) : Option (Bool)).bind (fun (v5 : Bool) =>
    (if v5 = true then
     (law26_Awake).bind fun (q6 : Bool) =>
     some q6
     else
     (chunk_Replace l1 id2 data3).bind fun (q7 : (List Chunk) × Int) =>
     let tr8 : List Chunk := q7.1;
     let tr9 : Int := q7.2;
     (ref26_Replace l1 id2 data3).bind fun (q10 : (List Chunk) × Int) =>
     let tr11 : List Chunk := q10.1;
     let tr12 : Int := q10.2;
     ((if (!decide (tr9 = tr12)) = true then
       some true
       else
       (ref26_Same tr8 tr11).bind fun (q13 : Bool) =>
       some (!q13)) : Option (Bool)).bind (fun (v14 : Bool) =>
      (if v14 = true then
       some false
       else
       (if (!decide (tr9 = 0)) = true then
        (law26_Awake).bind fun (q15 : Bool) =>
        some q15
        else
        (chunk_Find tr8 [id2]).bind fun (q16 : (List Int) × (List Int) × (List Int) × (List Chunk) × Int) =>
        let tr17 : List Int := q16.1;
        let tr18 : List Int := q16.2.1;
        let tr19 : List Int := q16.2.2.1;
        let tr20 : List Chunk := q16.2.2.2.1;
        let tr21 : Int := q16.2.2.2.2;
        (chunk_Replace tr8 id2 data3).bind fun (q22 : (List Chunk) × Int) =>
        let tr23 : List Chunk := q22.1;
        let tr24 : Int := q22.2;
        ((if (!decide (tr24 = 0)) = true then
          some true
          else
          (ref26_Same tr23 tr8).bind fun (q25 : Bool) =>
          some (!q25)) : Option (Bool)).bind (fun (v26 : Bool) =>
         (if v26 = true then
          some false
          else
          (if (decide (tr21 = 0)) = true then
           (if (decide (tr17 = [70, 79, 82, 77])) = true then
            (law26_Awake).bind fun (q27 : Bool) =>
            some q27
            else
            (ref02_SameBytes tr19 data3).bind fun (q28 : Bool) =>
            (if q28 = true then
             (law26_Awake).bind fun (q29 : Bool) =>
             some q29
             else
             some false))
           else
           some false)))))))) := (call_eq ..).trans (by kernel_rfl)

theorem law26_ChunkGets_eq (b1 : List Int) : law26_ChunkGets b1 =
   (if (decide (((b1.length : Nat) : Int) > 120000)) = true then
    (law26_Awake).bind fun (q2 : Bool) =>
    some q2
    else
    (chunk_Get b1).bind fun (q3 : (List Chunk) × Int × Int) =>
    let tr4 : List Chunk := q3.1;
    let tr5 : Int := q3.2.1;
    let tr6 : Int := q3.2.2;
    (ref26_Get b1).bind fun (q7 : (List Chunk) × Int × Int) =>
    let tr8 : List Chunk := q7.1;
    let tr9 : Int := q7.2.1;
    let tr10 : Int := q7.2.2;
    (if (decide (tr6 = tr10)) = true then
     (if (decide (tr5 = tr9)) = true then
      (ref26_Same tr4 tr8).bind fun (q11 : Bool) =>
      (if q11 = true then
       (law26_Awake).bind fun (q12 : Bool) =>
       some q12
       else
       some false)
      else
      some false)
     else
     some false)) := (call_eq ..).trans (by kernel_rfl)

theorem law26_ChunkAgain_eq (b1 : List Int) : law26_ChunkAgain b1 =
   (if (decide (((b1.length : Nat) : Int) > 120000)) = true then
    (law26_Awake).bind fun (q2 : Bool) =>
    some q2
    else
    (chunk_Get b1).bind fun (q3 : (List Chunk) × Int × Int) =>
    let tr4 : List Chunk := q3.1;
    let tr5 : Int := q3.2.1;
    let tr6 : Int := q3.2.2;
    (if (!decide (tr6 = 0)) = true then
     ((if (decide (((tr4.length : Nat) : Int) = 0)) = true then
       (law26_Awake).bind fun (q7 : Bool) =>
       some q7
       else
       some false) : Option (Bool)).bind (fun (v8 : Bool) =>
      some v8)
     else
     (chunk_Put tr4).bind fun (q9 : (List Int) × Int) =>
     let tr10 : List Int := q9.1;
     let tr11 : Int := q9.2;
     (if (decide (tr11 = 0)) = true then
      (ref02_SameBytes b1 tr10).bind fun (q12 : Bool) =>
      (if q12 = true then
       (law26_Awake).bind fun (q13 : Bool) =>
       some q13
       else
       some false)
      else
      some false))) := (call_eq ..).trans (by kernel_rfl)

theorem law26_ChunkHeals_eq (b1 : List Int) : law26_ChunkHeals b1 =
   (if (decide (((b1.length : Nat) : Int) > 5000)) = true then
    (law26_Awake).bind fun (q2 : Bool) =>
    some q2
    else
    (chunk_Heal b1).bind fun (q3 : (List Chunk) × Int) =>
    let tr4 : List Chunk := q3.1;
    let tr5 : Int := q3.2;
    (ref26_Heal b1).bind fun (q6 : (List Chunk) × Int) =>
    let tr7 : List Chunk := q6.1;
    let tr8 : Int := q6.2;
    (if (decide (tr5 = tr8)) = true then
     (ref26_Same tr4 tr7).bind fun (q9 : Bool) =>
     (if q9 = true then
      (law26_Awake).bind fun (q10 : Bool) =>
      some q10
      else
      some false)
     else
     some false)) := (call_eq ..).trans (by kernel_rfl)

theorem law26_ChunkBack_eq (l1 : List Chunk) : law26_ChunkBack l1 =
   (law26_large l1).bind fun (q2 : Bool) =>
   (if q2 = true then
    (law26_Awake).bind fun (q3 : Bool) =>
    some q3
    else
    (chunk_Put l1).bind fun (q4 : (List Int) × Int) =>
    let tr5 : List Int := q4.1;
    let tr6 : Int := q4.2;
    (if (!decide (tr6 = 0)) = true then
     ((if (decide (((tr5.length : Nat) : Int) = 0)) = true then
       (law26_Awake).bind fun (q7 : Bool) =>
       some q7
       else
       some false) : Option (Bool)).bind (fun (v8 : Bool) =>
      some v8)
     else
     (chunk_Get tr5).bind fun (q9 : (List Chunk) × Int × Int) =>
     let tr10 : List Chunk := q9.1;
     let tr11 : Int := q9.2.1;
     let tr12 : Int := q9.2.2;
     (chunk_Heal tr5).bind fun (q13 : (List Chunk) × Int) =>
     let tr14 : List Chunk := q13.1;
     let tr15 : Int := q13.2;
     (if (decide (tr12 = 0)) = true then
      (ref26_Same l1 tr10).bind fun (q16 : Bool) =>
      (if q16 = true then
       (ref26_Same l1 tr14).bind fun (q17 : Bool) =>
       (if q17 = true then
        (if (decide (tr15 = 0)) = true then
         (law26_Awake).bind fun (q18 : Bool) =>
         some q18
         else
         some false)
        else
        some false)
       else
       some false)
      else
      some false))) := (call_eq ..).trans (by kernel_rfl)

theorem page_Info_eq (w1 : Int) (h2 : Int) (pixel3 : Int) (op4 : Int) : page_Info w1 h2 pixel3 op4 =
   let t5 : Int := imax h2 0;
   (bitmap_New w1 t5 0).bind fun (q6 : Int × Int × (List Int) × Int) =>
   let tr7 : Int := q6.1;
   let tr8 : Int := q6.2.1;
   let tr9 : List Int := q6.2.2.1;
   let tr10 : Int := q6.2.2.2;
   ((if (!decide (tr10 = 0)) = true then
     some true
     else
     (if (decide (h2 < (-1))) = true then
      some true
      else
      (if (decide (pixel3 < 0)) = true then
       some true
       else
       (if (decide (pixel3 > 1)) = true then
        some true
        else
        (if (decide (op4 < 0)) = true then
         some true
         else
         some (decide (op4 > 4))))))) : Option (Bool)).bind (fun (v11 : Bool) =>
    (if v11 = true then
     some ([], 2)
     else
     let t12 : Int := IntKind.i64.wrap (h2 + 1);
     (page_writer_size [w1, t12] []).bind fun (q13 : (List Int)) =>
     let t14 : Int := IntKind.i64.wrap (2 * op4);
     let t15 : Int := IntKind.i64.wrap (pixel3 + t14);
     (page_writer_byte [t15] q13).bind fun (q16 : (List Int)) =>
     some (q16, 0))) := (call_eq ..).trans (by kernel_rfl)

theorem ref13_Info_eq (w1 : Int) (h2 : Int) (pixel3 : Int) (op4 : Int) : ref13_Info w1 h2 pixel3 op4 =
   (let t5 : Int := imax h2 0;
    (ref05_Sides w1 t5).bind fun (q6 : Bool) =>
    (if (!q6) = true then
     some true
     else
     (if (decide (h2 < (-1))) = true then
      some true
      else
      (if (decide (pixel3 < 0)) = true then
       some true
       else
       (if (decide (pixel3 > 1)) = true then
        some true
        else
        (if (decide (op4 < 0)) = true then
         some true
         else
         some (decide (op4 > 4))))))) : Option (Bool)).bind (fun (v7 : Bool) =>
    (if v7 = true then
     some ([], 2)
     else
     (ref13_size w1).bind fun (q8 : (List Int)) =>
     let t9 : Int := IntKind.i64.wrap (h2 + 1);
     (ref13_size t9).bind fun (q10 : (List Int)) =>
     let t11 : Int := IntKind.i64.wrap (2 * op4);
     let t12 : Int := IntKind.i64.wrap (pixel3 + t11);
     let t13 : Int := IntKind.u8.wrap t12;
     (ref13_join [q8, q10, [t13]]).bind fun (q14 : (List Int)) =>
     some (q14, 0))) := (call_eq ..).trans (by kernel_rfl)

theorem page_Stripe_eq (y1 : Int) : page_Stripe y1 =
   ((if (decide (y1 < 0)) = true then
     some true
     else
     some (decide (y1 ≥ 2147483648))) : Option (Bool)).bind (fun (v2 : Bool) =>
    (if v2 = true then
     some ([], 2)
     else
     (page_writer_size [y1] []).bind fun (q3 : (List Int)) =>
     some (q3, 0))) := (call_eq ..).trans (by kernel_rfl)

theorem ref13_Stripe_eq (y1 : Int) : ref13_Stripe y1 =
   (if (decide (y1 < 0)) = true then
    some ([], 2)
    else
    (if (decide (y1 > 2147483647)) = true then
     some ([], 2)
     else
     (ref13_size y1).bind fun (q2 : (List Int)) =>
     some (q2, 0))) := (call_eq ..).trans (by kernel_rfl)

theorem ref01_SameBytes_eq (a1 : List Int) (b2 : List Int) : ref01_SameBytes a1 b2 =
   some (decide (a1 = b2)) := (call_eq ..).trans (by kernel_rfl)

theorem law13_Sane_eq : law13_Sane =
   (page_Info 3 2 0 1).bind fun (q1 : (List Int) × Int) =>
   let tr2 : List Int := q1.1;
   let tr3 : Int := q1.2;
   (if (decide (tr3 = 0)) = true then
    (ref01_SameBytes tr2 [3, 3, 2]).bind fun (q4 : Bool) =>
    some q4
    else
    some false) := (call_eq ..).trans (by kernel_rfl)

theorem law26_large_eq (l1 : List Chunk) : law26_large l1 =
   (law26_weight l1 12).bind fun (q2 : Int × Int × Bool) =>
   let tr3 : Int := q2.1;
   let tr4 : Int := q2.2.1;
   let tr5 : Bool := q2.2.2;
   (if (decide (tr3 > 120000)) = true then
    some true
    else
    (if (decide (tr4 > 1200)) = true then
     some true
     else
     some tr5)) := (call_eq ..).trans (by kernel_rfl)

theorem law26_Awake_eq : law26_Awake =
   (chunk_Size [84, 69, 88, 84] [] [7] []).bind fun (q1 : Int × Int) =>
   let tr2 : Int := q1.1;
   let tr3 : Int := q1.2;
   (chunk_Put [(Chunk.mk [84, 69, 88, 84] [] [7] [])]).bind fun (q4 : (List Int) × Int) =>
   let tr5 : List Int := q4.1;
   let tr6 : Int := q4.2;
   (if (decide (tr2 = 10)) = true then
    (if (decide (tr3 = 0)) = true then
     (if (decide (tr6 = 0)) = true then
      some (decide (tr5 = [84, 69, 88, 84, 0, 0, 0, 1, 7, 0]))
      else
      some false)
     else
     some false)
    else
    some false) := (call_eq ..).trans (by kernel_rfl)

noncomputable def chunk_Put_loop5 (l1 : List Chunk) (s3 : Int × Int) : Option ((Int × Int) ⊕ (Int)) :=
   let n4 : Int := s3.1;
   let v5 : Int := s3.2;
   (if (decide (v5 < ((l1.length : Nat) : Int))) = true then
    (if 0 ≤ v5 then
     (l1[v5.toNat]?).bind fun e6 =>
     (chunk_size e6.id e6.kind e6.data e6.kids).bind fun (q7 : Int) =>
     let t8 : Int := IntKind.i64.wrap (n4 + q7);
     let t9 : Int := IntKind.i64.wrap (v5 + 1);
     some (Sum.inl (t8, t9))
     else
     none)
    else
    some (Sum.inr n4))
noncomputable def chunk_Put_loop13 (l1 : List Chunk) (s11 : Int × (List Int)) : Option ((Int × (List Int)) ⊕ ((List Int))) :=
   let v12 : Int := s11.1;
   let out13 : List Int := s11.2;
   (if (decide (v12 < ((l1.length : Nat) : Int))) = true then
    (if 0 ≤ v12 then
     (l1[v12.toNat]?).bind fun e14 =>
     (chunk_put e14.id e14.kind e14.data e14.kids out13).bind fun (q15 : (List Int)) =>
     let t16 : Int := IntKind.i64.wrap (v12 + 1);
     some (Sum.inl (t16, q15))
     else
     none)
    else
    some (Sum.inr out13))
theorem chunk_Put_eq (l1 : List Chunk) : chunk_Put l1 =
   (chunk_valid l1).bind fun (q2 : Bool) =>
   (if (!q2) = true then
    some ([], 100)
    else
    (loop (chunk_Put_loop5 l1) (0, 0)).bind (fun (n10 : Int) =>
     (if (decide (n10 > 60000)) = true then
      some ([], 4)
      else
      (loop (chunk_Put_loop13 l1) (0, [])).bind (fun (out17 : (List Int)) =>
       some (out17, 0))))) := (call_eq ..).trans (by kernel_rfl)

noncomputable def ref02_SameBytes_loop4 (a1 : List Int) (b2 : List Int) (v3 : Int) : Option ((Int) ⊕ ((Unit) ⊕ (Bool))) :=
   (if (decide (v3 < ((a1.length : Nat) : Int))) = true then
    (if 0 ≤ v3 ∧ v3 < (a1.length : Int) then
     (if 0 ≤ v3 ∧ v3 < (b2.length : Int) then
      (if (!decide (rd a1 v3 = rd b2 v3)) = true then
       some (Sum.inr (Sum.inr false))
       else
       let t4 : Int := IntKind.i64.wrap (v3 + 1);
       some (Sum.inl t4))
      else
      none)
     else
     none)
    else
    some (Sum.inr (Sum.inl ())))
theorem ref02_SameBytes_eq (a1 : List Int) (b2 : List Int) : ref02_SameBytes a1 b2 =
   (if (!decide (((a1.length : Nat) : Int) = ((b2.length : Nat) : Int))) = true then
    some false
    else
    (loop (ref02_SameBytes_loop4 a1 b2) 0).bind (fun (o7 : (Unit) ⊕ (Bool)) =>
     (match o7 with
      | Sum.inl p5 =>
      some true
      | Sum.inr v6 =>
      some v6))) := (call_eq ..).trans (by kernel_rfl)

noncomputable def ref26_Put_loop5 (l1 : List Chunk) (s3 : Int × Int) : Option ((Int × Int) ⊕ (Int)) :=
   let n4 : Int := s3.1;
   let v5 : Int := s3.2;
   (if (decide (v5 < ((l1.length : Nat) : Int))) = true then
    (if 0 ≤ v5 then
     (l1[v5.toNat]?).bind fun e6 =>
     (ref26_size e6.id e6.kind e6.data e6.kids).bind fun (q7 : Int) =>
     let t8 : Int := IntKind.i64.wrap (n4 + q7);
     let t9 : Int := IntKind.i64.wrap (v5 + 1);
     some (Sum.inl (t8, t9))
     else
     none)
    else
    some (Sum.inr n4))
theorem ref26_Put_eq (l1 : List Chunk) : ref26_Put l1 =
   (ref26_ValidList l1).bind fun (q2 : Bool) =>
   (if (!q2) = true then
    some ([], 100)
    else
    (loop (ref26_Put_loop5 l1) (0, 0)).bind (fun (n10 : Int) =>
     (if (decide (n10 > 60000)) = true then
      some ([], 4)
      else
      (ref26_bytes l1).bind fun (q11 : (List Int)) =>
      some (q11, 0)))) := (call_eq ..).trans (by kernel_rfl)

theorem chunk_Same_eq (a1 : List Chunk) (b2 : List Chunk) : chunk_Same a1 b2 =
   (slices_EqualFunc_api_Chunk_api_Chunk_api_Chunk_api_Chunk a1 b2).bind fun (q3 : Bool) =>
   some q3 := (call_eq ..).trans (by kernel_rfl)

noncomputable def ref26_Same_loop4 (a1 : List Chunk) (b2 : List Chunk) (v3 : Int) : Option ((Int) ⊕ ((Unit) ⊕ (Bool))) :=
   (if (decide (v3 < ((a1.length : Nat) : Int))) = true then
    (if 0 ≤ v3 then
     (a1[v3.toNat]?).bind fun e4 =>
     (if 0 ≤ v3 then
      (b2[v3.toNat]?).bind fun e5 =>
      (ref26_same e4.id e4.kind e4.data e4.kids e5.id e5.kind e5.data e5.kids).bind fun (q6 : Bool) =>
      (if (!q6) = true then
       some (Sum.inr (Sum.inr false))
       else
       let t7 : Int := IntKind.i64.wrap (v3 + 1);
       some (Sum.inl t7))
      else
      none)
     else
     none)
    else
    some (Sum.inr (Sum.inl ())))
theorem ref26_Same_eq (a1 : List Chunk) (b2 : List Chunk) : ref26_Same a1 b2 =
   (if (!decide (((a1.length : Nat) : Int) = ((b2.length : Nat) : Int))) = true then
    some false
    else
    (loop (ref26_Same_loop4 a1 b2) 0).bind (fun (o10 : (Unit) ⊕ (Bool)) =>
     (match o10 with
      | Sum.inl p8 =>
      some true
      | Sum.inr v9 =>
      some v9))) := (call_eq ..).trans (by kernel_rfl)

theorem chunk_Size_eq (c1 : List Int) (c2 : List Int) (c3 : List Int) (c4 : List Chunk) : chunk_Size c1 c2 c3 c4 =
   (chunk_Valid c1 c2 c3 c4).bind fun (q5 : Bool) =>
   (if (!q5) = true then
    some (0, 100)
    else
    (chunk_size c1 c2 c3 c4).bind fun (q6 : Int) =>
    some (q6, 0)) := (call_eq ..).trans (by kernel_rfl)

theorem ref26_Size_eq (c1 : List Int) (c2 : List Int) (c3 : List Int) (c4 : List Chunk) : ref26_Size c1 c2 c3 c4 =
   (ref26_Valid c1 c2 c3 c4).bind fun (q5 : Bool) =>
   (if (!q5) = true then
    some (0, 100)
    else
    (ref26_size c1 c2 c3 c4).bind fun (q6 : Int) =>
    some (q6, 0)) := (call_eq ..).trans (by kernel_rfl)

theorem chunk_Valid_eq (c1 : List Int) (c2 : List Int) (c3 : List Int) (c4 : List Chunk) : chunk_Valid c1 c2 c3 c4 =
   (chunk_valid [(Chunk.mk c1 c2 c3 c4)]).bind fun (q5 : Bool) =>
   some q5 := (call_eq ..).trans (by kernel_rfl)

theorem ref26_Valid_eq (c1 : List Int) (c2 : List Int) (c3 : List Int) (c4 : List Chunk) : ref26_Valid c1 c2 c3 c4 =
   (ref26_ValidList [(Chunk.mk c1 c2 c3 c4)]).bind fun (q5 : Bool) =>
   some q5 := (call_eq ..).trans (by kernel_rfl)

noncomputable def chunk_Find_loop5 (path2 : List (List Int)) (s4 : (List Chunk) × Int × (List Int) × (List Int) × (List Int) × (List Chunk) × (List Int) × (List Int) × (List Int) × (List Chunk)) : Option (((List Chunk) × Int × (List Int) × (List Int) × (List Int) × (List Chunk) × (List Int) × (List Int) × (List Int) × (List Chunk)) ⊕ (((List Int) × (List Int) × (List Int) × (List Chunk) × (List Int) × (List Int) × (List Int) × (List Chunk)) ⊕ (Int × (List Int) × (List Int) × (List Int) × (List Chunk) × (List Int) × (List Int) × (List Int) × (List Chunk)))) :=
   let l5 : List Chunk := s4.1;
   let v6 : Int := s4.2.1;
   let b7 : List Int := s4.2.2.1;
   let b8 : List Int := s4.2.2.2.1;
   let b9 : List Int := s4.2.2.2.2.1;
   let b10 : List Chunk := s4.2.2.2.2.2.1;
   let b11 : List Int := s4.2.2.2.2.2.2.1;
   let b12 : List Int := s4.2.2.2.2.2.2.2.1;
   let b13 : List Int := s4.2.2.2.2.2.2.2.2.1;
   let b14 : List Chunk := s4.2.2.2.2.2.2.2.2.2;
   (if (decide (v6 < ((path2.length : Nat) : Int))) = true then
    (if 0 ≤ v6 then
     (path2[v6.toNat]?).bind fun e15 =>
     (slices_IndexFunc_api_Chunk_api_Chunk l5 e15).bind fun (q16 : Int × (List Int)) =>
     let tr17 : Int := q16.1;
     let tr18 : List Int := q16.2;
     (if (decide (tr17 < 0)) = true then
      some (Sum.inr (Sum.inr (5, [], [], [], [], b11, b12, b13, b14)))
      else
      (if 0 ≤ tr17 then
       (l5[tr17.toNat]?).bind fun e19 =>
       (if 0 ≤ tr17 then
        (l5[tr17.toNat]?).bind fun e20 =>
        let t21 : Int := IntKind.i64.wrap (v6 + 1);
        some (Sum.inl (e20.kids, t21, b7, b8, b9, b10, e19.id, e19.kind, e19.data, e19.kids))
        else
        none)
       else
       none))
     else
     none)
    else
    some (Sum.inr (Sum.inl (b7, b8, b9, b10, b11, b12, b13, b14))))
theorem chunk_Find_eq (l1 : List Chunk) (path2 : List (List Int)) : chunk_Find l1 path2 =
   (chunk_valid l1).bind fun (q3 : Bool) =>
   (if (!q3) = true then
    some ([], [], [], [], 100)
    else
    (loop (chunk_Find_loop5 path2) (l1, 0, [], [], [], [], [], [], [], [])).bind (fun (o41 : ((List Int) × (List Int) × (List Int) × (List Chunk) × (List Int) × (List Int) × (List Int) × (List Chunk)) ⊕ (Int × (List Int) × (List Int) × (List Int) × (List Chunk) × (List Int) × (List Int) × (List Int) × (List Chunk))) =>
     (match o41 with
      | Sum.inl p22 =>
      let b23 : List Int := p22.1;
      let b24 : List Int := p22.2.1;
      let b25 : List Int := p22.2.2.1;
      let b26 : List Chunk := p22.2.2.2.1;
      let b27 : List Int := p22.2.2.2.2.1;
      let b28 : List Int := p22.2.2.2.2.2.1;
      let b29 : List Int := p22.2.2.2.2.2.2.1;
      let b30 : List Chunk := p22.2.2.2.2.2.2.2;
      (if (decide (((path2.length : Nat) : Int) = 0)) = true then
       some ([], [], [], [], 5)
       else
       (chunk_clone b27 b28 b29 b30).bind fun (q42 : (List Int) × (List Int) × (List Int) × (List Chunk)) =>
       let tr43 : List Int := q42.1;
       let tr44 : List Int := q42.2.1;
       let tr45 : List Int := q42.2.2.1;
       let tr46 : List Chunk := q42.2.2.2;
       some (tr43, tr44, tr45, tr46, 0))
      | Sum.inr p31 =>
      let v32 : Int := p31.1;
      let b33 : List Int := p31.2.1;
      let b34 : List Int := p31.2.2.1;
      let b35 : List Int := p31.2.2.2.1;
      let b36 : List Chunk := p31.2.2.2.2.1;
      let b37 : List Int := p31.2.2.2.2.2.1;
      let b38 : List Int := p31.2.2.2.2.2.2.1;
      let b39 : List Int := p31.2.2.2.2.2.2.2.1;
      let b40 : List Chunk := p31.2.2.2.2.2.2.2.2;
      some (b33, b34, b35, b36, v32)))) := (call_eq ..).trans (by kernel_rfl)

noncomputable def ref26_Find_loop7 (l5 : List Chunk) (e11 : List Int) (at12 : Int) : Option ((Int) ⊕ (Int)) :=
   (if (decide (at12 < ((l5.length : Nat) : Int))) = true then
    (if 0 ≤ at12 then
     (l5[at12.toNat]?).bind fun e13 =>
     (ref26_name e13.id e13.kind e13.data e13.kids).bind fun (q14 : (List Int)) =>
     (if (!decide (q14 = e11)) = true then
      let t15 : Int := IntKind.i64.wrap (at12 + 1);
      some (Sum.inl t15)
      else
      some (Sum.inr at12))
     else
     none)
    else
    some (Sum.inr at12))
noncomputable def ref26_Find_loop4 (path2 : List (List Int)) (s4 : (List Chunk) × Int × (List Int) × (List Int) × (List Int) × (List Chunk)) : Option (((List Chunk) × Int × (List Int) × (List Int) × (List Int) × (List Chunk)) ⊕ (((List Int) × (List Int) × (List Int) × (List Chunk)) ⊕ (Int × (List Int) × (List Int) × (List Int) × (List Chunk)))) :=
   let l5 : List Chunk := s4.1;
   let v6 : Int := s4.2.1;
   let b7 : List Int := s4.2.2.1;
   let b8 : List Int := s4.2.2.2.1;
   let b9 : List Int := s4.2.2.2.2.1;
   let b10 : List Chunk := s4.2.2.2.2.2;
   (if (decide (v6 < ((path2.length : Nat) : Int))) = true then
    (if 0 ≤ v6 then
     (path2[v6.toNat]?).bind fun e11 =>
     (loop (ref26_Find_loop7 l5 e11) 0).bind (fun (at16 : Int) =>
      (if (decide (at16 = ((l5.length : Nat) : Int))) = true then
       some (Sum.inr (Sum.inl (b7, b8, b9, b10)))
       else
       let t17 : Int := IntKind.i64.wrap (((path2.length : Nat) : Int) - 1);
       (if (decide (v6 = t17)) = true then
        (if 0 ≤ at16 then
         (l5[at16.toNat]?).bind fun e18 =>
         some (Sum.inr (Sum.inr (0, e18.id, e18.kind, e18.data, e18.kids)))
         else
         none)
        else
        (if 0 ≤ at16 then
         (l5[at16.toNat]?).bind fun e19 =>
         let t20 : Int := IntKind.i64.wrap (v6 + 1);
         some (Sum.inl (e19.kids, t20, b7, b8, b9, b10))
         else
         none))))
     else
     none)
    else
    some (Sum.inr (Sum.inl (b7, b8, b9, b10))))
theorem ref26_Find_eq (l1 : List Chunk) (path2 : List (List Int)) : ref26_Find l1 path2 =
   (ref26_ValidList l1).bind fun (q3 : Bool) =>
   (if (!q3) = true then
    some ([], [], [], [], 100)
    else
    (loop (ref26_Find_loop4 path2) (l1, 0, [], [], [], [])).bind (fun (o32 : ((List Int) × (List Int) × (List Int) × (List Chunk)) ⊕ (Int × (List Int) × (List Int) × (List Int) × (List Chunk))) =>
     (match o32 with
      | Sum.inl p21 =>
      let b22 : List Int := p21.1;
      let b23 : List Int := p21.2.1;
      let b24 : List Int := p21.2.2.1;
      let b25 : List Chunk := p21.2.2.2;
      some ([], [], [], [], 5)
      | Sum.inr p26 =>
      let v27 : Int := p26.1;
      let b28 : List Int := p26.2.1;
      let b29 : List Int := p26.2.2.1;
      let b30 : List Int := p26.2.2.2.1;
      let b31 : List Chunk := p26.2.2.2.2;
      some (b28, b29, b30, b31, v27)))) := (call_eq ..).trans (by kernel_rfl)

theorem chunk_All_eq (l1 : List Chunk) (id2 : List Int) : chunk_All l1 id2 =
   (chunk_valid l1).bind fun (q3 : Bool) =>
   (if (!q3) = true then
    some ([], 100)
    else
    (chunk_all l1 id2).bind fun (q4 : (List Chunk)) =>
    some (q4, 0)) := (call_eq ..).trans (by kernel_rfl)

theorem ref26_All_eq (l1 : List Chunk) (id2 : List Int) : ref26_All l1 id2 =
   (ref26_ValidList l1).bind fun (q3 : Bool) =>
   (if (!q3) = true then
    some ([], 100)
    else
    (ref26_all l1 id2).bind fun (q4 : (List Chunk)) =>
    some (q4, 0)) := (call_eq ..).trans (by kernel_rfl)

noncomputable def chunk_Replace_loop5 (l1 : List Chunk) (s7 : Int × (List Chunk)) : Option ((Int × (List Chunk)) ⊕ ((List Chunk))) :=
   let v8 : Int := s7.1;
   let out9 : List Chunk := s7.2;
   (if (decide (v8 < ((l1.length : Nat) : Int))) = true then
    (if 0 ≤ v8 then
     (l1[v8.toNat]?).bind fun e10 =>
     (chunk_clone e10.id e10.kind e10.data e10.kids).bind fun (q11 : (List Int) × (List Int) × (List Int) × (List Chunk)) =>
     let tr12 : List Int := q11.1;
     let tr13 : List Int := q11.2.1;
     let tr14 : List Int := q11.2.2.1;
     let tr15 : List Chunk := q11.2.2.2;
     (if (out9.length + ([(Chunk.mk tr12 tr13 tr14 tr15)] : List Chunk).length) * 80 ≤ 140737488355328 then
      let t16 : List Chunk := out9 ++ [(Chunk.mk tr12 tr13 tr14 tr15)];
      let t17 : Int := IntKind.i64.wrap (v8 + 1);
      some (Sum.inl (t17, t16))
      else
      none)
     else
     none)
    else
    some (Sum.inr out9))
theorem chunk_Replace_eq (l1 : List Chunk) (id2 : List Int) (data3 : List Int) : chunk_Replace l1 id2 data3 =
   ((chunk_valid l1).bind fun (q4 : Bool) =>
    (if (!q4) = true then
     some true
     else
     (chunk_isKind id2).bind fun (q5 : Bool) =>
     some (!q5)) : Option (Bool)).bind (fun (v6 : Bool) =>
    (if v6 = true then
     some ([], 100)
     else
     (loop (chunk_Replace_loop5 l1) (0, [])).bind (fun (out18 : (List Chunk)) =>
      (bytes_Clone data3).bind fun (q19 : (List Int)) =>
      (slices_IndexFunc_api_Chunk_api_Chunk_2 out18 id2).bind fun (q20 : Int × (List Int)) =>
      let tr21 : Int := q20.1;
      let tr22 : List Int := q20.2;
      ((if (decide (tr21 ≥ 0)) = true then
        (if 0 ≤ tr21 ∧ tr21 < (out18.length : Int) then
         (out18[tr21.toNat]?).bind fun e23 =>
         let w24 : List Chunk := out18.set tr21.toNat (Chunk.mk id2 [] q19 []);
         some w24
         else
         none)
        else
        (if (out18.length + ([(Chunk.mk id2 [] q19 [])] : List Chunk).length) * 80 ≤ 140737488355328 then
         let t25 : List Chunk := out18 ++ [(Chunk.mk id2 [] q19 [])];
         some t25
         else
         none)) : Option ((List Chunk))).bind (fun (out26 : (List Chunk)) =>
       (chunk_valid out26).bind fun (q27 : Bool) =>
       (if (!q27) = true then
        some ([], 100)
        else
        some (out26, 0)))))) := (call_eq ..).trans (by kernel_rfl)

noncomputable def ref26_Replace_loop5 (id2 : List Int) (data3 : List Int) (t7 : List Chunk) (s8 : Int × (List Chunk)) : Option ((Int × (List Chunk)) ⊕ (((List Chunk)) ⊕ (Int × (List Chunk)))) :=
   let v9 : Int := s8.1;
   let b10 : List Chunk := s8.2;
   (if (decide (v9 < ((t7.length : Nat) : Int))) = true then
    (if 0 ≤ v9 ∧ v9 < (b10.length : Int) then
     (b10[v9.toNat]?).bind fun e11 =>
     (if (decide (e11.id = id2)) = true then
      (if 0 ≤ v9 ∧ v9 < (b10.length : Int) then
       (b10[v9.toNat]?).bind fun e12 =>
       let w13 : List Chunk := b10.set v9.toNat (Chunk.mk e12.id e12.kind data3 e12.kids);
       some (Sum.inr (Sum.inr (0, w13)))
       else
       none)
      else
      let t14 : Int := IntKind.i64.wrap (v9 + 1);
      some (Sum.inl (t14, b10)))
     else
     none)
    else
    some (Sum.inr (Sum.inl b10)))
theorem ref26_Replace_eq (l1 : List Chunk) (id2 : List Int) (data3 : List Int) : ref26_Replace l1 id2 data3 =
   ((ref26_ValidList l1).bind fun (q4 : Bool) =>
    (if (!q4) = true then
     some true
     else
     (ref26_IsId id2).bind fun (q5 : Bool) =>
     (if (!q5) = true then
      some true
      else
      some (decide (id2 = [70, 79, 82, 77])))) : Option (Bool)).bind (fun (v6 : Bool) =>
    (if v6 = true then
     some ([], 100)
     else
     (if (([] : List Chunk).length + l1.length) * 80 ≤ 140737488355328 then
      let t7 : List Chunk := ([] : List Chunk) ++ l1;
      (loop (ref26_Replace_loop5 id2 data3 t7) (0, t7)).bind (fun (o19 : ((List Chunk)) ⊕ (Int × (List Chunk))) =>
       (match o19 with
        | Sum.inl b15 =>
        (if (b15.length + ([(Chunk.mk id2 [] data3 [])] : List Chunk).length) * 80 ≤ 140737488355328 then
         let t20 : List Chunk := b15 ++ [(Chunk.mk id2 [] data3 [])];
         (ref26_ValidList t20).bind fun (q21 : Bool) =>
         (if (!q21) = true then
          some ([], 100)
          else
          some (t20, 0))
         else
         none)
        | Sum.inr p16 =>
        let v17 : Int := p16.1;
        let b18 : List Chunk := p16.2;
        some (b18, v17)))
      else
      none))) := (call_eq ..).trans (by kernel_rfl)

theorem chunk_Get_eq (b1 : List Int) : chunk_Get b1 =
   (if (decide (((b1.length : Nat) : Int) > 60000)) = true then
    some ([], 0, 4)
    else
    (chunk_reader_list 0 ((b1.length : Nat) : Int) 1 b1 0 0 0).bind fun (q2 : (List Chunk) × (List Int) × Int × Int × Int) =>
    let tr3 : List Chunk := q2.1;
    let tr4 : List Int := q2.2.1;
    let tr5 : Int := q2.2.2.1;
    let tr6 : Int := q2.2.2.2.1;
    let tr7 : Int := q2.2.2.2.2;
    (if (!decide (tr6 = 0)) = true then
     some ([], tr7, tr6)
     else
     some (tr3, 0, 0))) := (call_eq ..).trans (by kernel_rfl)

theorem ref26_Get_eq (b1 : List Int) : ref26_Get b1 =
   (if (decide (((b1.length : Nat) : Int) > 60000)) = true then
    some ([], 0, 4)
    else
    (ref26_reader_list 0 ((b1.length : Nat) : Int) 1 b1 0).bind fun (q2 : (List Chunk) × Int × Int × (List Int) × Int) =>
    let tr3 : List Chunk := q2.1;
    let tr4 : Int := q2.2.1;
    let tr5 : Int := q2.2.2.1;
    let tr6 : List Int := q2.2.2.2.1;
    let tr7 : Int := q2.2.2.2.2;
    (if (!decide (tr5 = 0)) = true then
     some ([], tr4, tr5)
     else
     some (tr3, 0, 0))) := (call_eq ..).trans (by kernel_rfl)

noncomputable def chunk_Heal_loop5 (b1 : List Int) (t2 : Int) (s4 : Int × Int × Int × (List Chunk)) : Option ((Int × Int × Int × (List Chunk)) ⊕ (Int × (List Chunk))) :=
   let lost5 : Int := s4.1;
   let many6 : Int := s4.2.1;
   let at7 : Int := s4.2.2.1;
   let l8 : List Chunk := s4.2.2.2;
   (if (decide (at7 < t2)) = true then
    (if 0 ≤ t2 ∧ t2 ≤ ((b1.length : Nat) : Int) then
     let t9 : List Int := cutL b1 0 t2.toNat;
     (chunk_reader_chunk at7 t2 1 t9 many6 0 0).bind fun (q10 : (List Int) × (List Int) × (List Int) × (List Chunk) × Int × (List Int) × Int × Int × Int) =>
     let tr11 : List Int := q10.1;
     let tr12 : List Int := q10.2.1;
     let tr13 : List Int := q10.2.2.1;
     let tr14 : List Chunk := q10.2.2.2.1;
     let tr15 : Int := q10.2.2.2.2.1;
     let tr16 : List Int := q10.2.2.2.2.2.1;
     let tr17 : Int := q10.2.2.2.2.2.2.1;
     let tr18 : Int := q10.2.2.2.2.2.2.2.1;
     let tr19 : Int := q10.2.2.2.2.2.2.2.2;
     (if (!decide (tr18 = 0)) = true then
      let t20 : Int := IntKind.i64.wrap (at7 + 1);
      let t21 : Int := IntKind.i64.wrap (lost5 + 1);
      some (Sum.inl (t21, many6, t20, l8))
      else
      (if (l8.length + ([(Chunk.mk tr11 tr12 tr13 tr14)] : List Chunk).length) * 80 ≤ 140737488355328 then
       let t22 : List Chunk := l8 ++ [(Chunk.mk tr11 tr12 tr13 tr14)];
       some (Sum.inl (lost5, tr17, tr15, t22))
       else
       none))
     else
     none)
    else
    some (Sum.inr (lost5, l8)))
theorem chunk_Heal_eq (b1 : List Int) : chunk_Heal b1 =
   let t2 : Int := imin ((b1.length : Nat) : Int) 60000;
   let t3 : Int := IntKind.i64.wrap (((b1.length : Nat) : Int) - t2);
   (loop (chunk_Heal_loop5 b1 t2) (t3, 0, 0, [])).bind (fun (p23 : Int × (List Chunk)) =>
    let lost24 : Int := p23.1;
    let l25 : List Chunk := p23.2;
    some (l25, lost24)) := (call_eq ..).trans (by kernel_rfl)

noncomputable def ref26_Heal_loop5 (b1 : List Int) (t2 : Int) (s4 : Int × Int × Int × (List Chunk)) : Option ((Int × Int × Int × (List Chunk)) ⊕ (Int × (List Chunk))) :=
   let lost5 : Int := s4.1;
   let many6 : Int := s4.2.1;
   let at7 : Int := s4.2.2.1;
   let l8 : List Chunk := s4.2.2.2;
   (if (decide (at7 < t2)) = true then
    (if 0 ≤ t2 ∧ t2 ≤ ((b1.length : Nat) : Int) then
     let t9 : List Int := cutL b1 0 t2.toNat;
     (ref26_reader_chunk at7 t2 1 t9 many6).bind fun (q10 : (List Int) × (List Int) × (List Int) × (List Chunk) × Int × Int × (List Int) × Int) =>
     let tr11 : List Int := q10.1;
     let tr12 : List Int := q10.2.1;
     let tr13 : List Int := q10.2.2.1;
     let tr14 : List Chunk := q10.2.2.2.1;
     let tr15 : Int := q10.2.2.2.2.1;
     let tr16 : Int := q10.2.2.2.2.2.1;
     let tr17 : List Int := q10.2.2.2.2.2.2.1;
     let tr18 : Int := q10.2.2.2.2.2.2.2;
     (if (!decide (tr16 = 0)) = true then
      let t19 : Int := IntKind.i64.wrap (lost5 + 1);
      let t20 : Int := IntKind.i64.wrap (at7 + 1);
      some (Sum.inl (t19, many6, t20, l8))
      else
      (if (l8.length + ([(Chunk.mk tr11 tr12 tr13 tr14)] : List Chunk).length) * 80 ≤ 140737488355328 then
       let t21 : List Chunk := l8 ++ [(Chunk.mk tr11 tr12 tr13 tr14)];
       some (Sum.inl (lost5, tr18, tr15, t21))
       else
       none))
     else
     none)
    else
    some (Sum.inr (lost5, l8)))
theorem ref26_Heal_eq (b1 : List Int) : ref26_Heal b1 =
   let t2 : Int := imin ((b1.length : Nat) : Int) 60000;
   let t3 : Int := IntKind.i64.wrap (((b1.length : Nat) : Int) - t2);
   (loop (ref26_Heal_loop5 b1 t2) (t3, 0, 0, [])).bind (fun (p22 : Int × (List Chunk)) =>
    let lost23 : Int := p22.1;
    let l24 : List Chunk := p22.2;
    some (l24, lost23)) := (call_eq ..).trans (by kernel_rfl)

noncomputable def bitmap_New_loop5 (pixel3 : Int) (tr9 : List Int) (s10 : Int × (List Int)) : Option ((Int × (List Int)) ⊕ ((List Int))) :=
   let v11 : Int := s10.1;
   let b12 : List Int := s10.2;
   (if (decide (v11 < ((tr9.length : Nat) : Int))) = true then
    let t13 : Int := IntKind.u8.wrap pixel3;
    (if 0 ≤ v11 ∧ v11 < (b12.length : Int) then
     let w14 : List Int := b12.set v11.toNat t13;
     let t15 : Int := IntKind.i64.wrap (v11 + 1);
     some (Sum.inl (t15, w14))
     else
     none)
    else
    some (Sum.inr b12))
theorem bitmap_New_eq (w1 : Int) (h2 : Int) (pixel3 : Int) : bitmap_New w1 h2 pixel3 =
   ((if (decide (w1 < 0)) = true then
     some true
     else
     (if (decide (h2 < 0)) = true then
      some true
      else
      (if (!decide (pixel3 = 0)) = true then
       some (!decide (pixel3 = 1))
       else
       some false))) : Option (Bool)).bind (fun (v4 : Bool) =>
    (if v4 = true then
     some (0, 0, [], 2)
     else
     (bitmap_blank w1 h2).bind fun (q5 : Int × Int × Int × (List Int)) =>
     let tr6 : Int := q5.1;
     let tr7 : Int := q5.2.1;
     let tr8 : Int := q5.2.2.1;
     let tr9 : List Int := q5.2.2.2;
     (loop (bitmap_New_loop5 pixel3 tr9) (0, tr9)).bind (fun (b16 : (List Int)) =>
      some (tr6, tr7, b16, tr8)))) := (call_eq ..).trans (by kernel_rfl)

noncomputable def page_writer_size_loop1 (l1 : List Int) (s3 : Int × (List Int)) : Option ((Int × (List Int)) ⊕ ((List Int))) :=
   let v4 : Int := s3.1;
   let b5 : List Int := s3.2;
   (if (decide (v4 < ((l1.length : Nat) : Int))) = true then
    (if 0 ≤ v4 ∧ v4 < (l1.length : Int) then
     (bits_Size (rd l1 v4)).bind fun (q6 : (List Int) × Int) =>
     let tr7 : List Int := q6.1;
     let tr8 : Int := q6.2;
     (if (b5.length + tr7.length) * 1 ≤ 140737488355328 then
      let t9 : List Int := b5 ++ tr7;
      let t10 : Int := IntKind.i64.wrap (v4 + 1);
      some (Sum.inl (t10, t9))
      else
      none)
     else
     none)
    else
    some (Sum.inr b5))
theorem page_writer_size_eq (l1 : List Int) (b2 : List Int) : page_writer_size l1 b2 =
   (loop (page_writer_size_loop1 l1) (0, b2)).bind (fun (b11 : (List Int)) =>
    some b11) := (call_eq ..).trans (by kernel_rfl)

noncomputable def page_writer_byte_loop1 (l1 : List Int) (s3 : Int × (List Int)) : Option ((Int × (List Int)) ⊕ ((List Int))) :=
   let v4 : Int := s3.1;
   let b5 : List Int := s3.2;
   (if (decide (v4 < ((l1.length : Nat) : Int))) = true then
    (if 0 ≤ v4 ∧ v4 < (l1.length : Int) then
     let t6 : Int := IntKind.u8.wrap (rd l1 v4);
     (if (b5.length + ([t6] : List Int).length) * 1 ≤ 140737488355328 then
      let t7 : List Int := b5 ++ [t6];
      let t8 : Int := IntKind.i64.wrap (v4 + 1);
      some (Sum.inl (t8, t7))
      else
      none)
     else
     none)
    else
    some (Sum.inr b5))
theorem page_writer_byte_eq (l1 : List Int) (b2 : List Int) : page_writer_byte l1 b2 =
   (loop (page_writer_byte_loop1 l1) (0, b2)).bind (fun (b9 : (List Int)) =>
    some b9) := (call_eq ..).trans (by kernel_rfl)

theorem ref05_Sides_eq (w1 : Int) (h2 : Int) : ref05_Sides w1 h2 =
   (if (decide (w1 ≥ 0)) = true then
    (if (decide (h2 ≥ 0)) = true then
     (if (decide (w1 ≤ 200)) = true then
      (if (decide (h2 ≤ 200)) = true then
       let t3 : Int := IntKind.i64.wrap (w1 * h2);
       some (decide (t3 ≤ 8192))
       else
       some false)
      else
      some false)
     else
     some false)
    else
    some false) := (call_eq ..).trans (by kernel_rfl)

theorem ref13_size_eq (n1 : Int) : ref13_size n1 =
   (ref01_Size n1).bind fun (q2 : (List Int) × Int) =>
   let tr3 : List Int := q2.1;
   let tr4 : Int := q2.2;
   some tr3 := (call_eq ..).trans (by kernel_rfl)

noncomputable def ref13_join_loop3 (l1 : List (List Int)) (s2 : Int × (List Int)) : Option ((Int × (List Int)) ⊕ ((List Int))) :=
   let i3 : Int := s2.1;
   let out4 : List Int := s2.2;
   (if (decide (i3 < ((l1.length : Nat) : Int))) = true then
    (if 0 ≤ i3 then
     (l1[i3.toNat]?).bind fun e5 =>
     (if (out4.length + e5.length) * 1 ≤ 140737488355328 then
      let t6 : List Int := out4 ++ e5;
      let t7 : Int := IntKind.i64.wrap (i3 + 1);
      some (Sum.inl (t7, t6))
      else
      none)
     else
     none)
    else
    some (Sum.inr out4))
theorem ref13_join_eq (l1 : List (List Int)) : ref13_join l1 =
   (loop (ref13_join_loop3 l1) (0, [])).bind (fun (out8 : (List Int)) =>
    some out8) := (call_eq ..).trans (by kernel_rfl)

noncomputable def law26_weight_loop2 (l1 : List Chunk) (most2 : Int) (s3 : Int × Int × Bool × Int) : Option ((Int × Int × Bool × Int) ⊕ (Int × Int × Bool)) :=
   let bytes4 : Int := s3.1;
   let many5 : Int := s3.2.1;
   let deep6 : Bool := s3.2.2.1;
   let v7 : Int := s3.2.2.2;
   (if (decide (v7 < ((l1.length : Nat) : Int))) = true then
    (if 0 ≤ v7 then
     (l1[v7.toNat]?).bind fun e8 =>
     let t9 : Int := IntKind.i64.wrap (bytes4 + ((e8.data.length : Nat) : Int));
     let t10 : Int := IntKind.i64.wrap (many5 + 1);
     (if (decide (most2 = 0)) = true then
      let t11 : Int := IntKind.i64.wrap (v7 + 1);
      some (Sum.inl (t9, t10, true, t11))
      else
      let t12 : Int := IntKind.i64.wrap (most2 - 1);
      (law26_weight e8.kids t12).bind fun (q13 : Int × Int × Bool) =>
      let tr14 : Int := q13.1;
      let tr15 : Int := q13.2.1;
      let tr16 : Bool := q13.2.2;
      let t17 : Int := IntKind.i64.wrap (t9 + tr14);
      let t18 : Int := IntKind.i64.wrap (t10 + tr15);
      (if deep6 = true then
       let t19 : Int := IntKind.i64.wrap (v7 + 1);
       some (Sum.inl (t17, t18, true, t19))
       else
       let t20 : Int := IntKind.i64.wrap (v7 + 1);
       some (Sum.inl (t17, t18, tr16, t20))))
     else
     none)
    else
    some (Sum.inr (bytes4, many5, deep6)))
theorem law26_weight_eq (l1 : List Chunk) (most2 : Int) : law26_weight l1 most2 =
   (loop (law26_weight_loop2 l1 most2) (0, 0, false, 0)).bind (fun (p21 : Int × Int × Bool) =>
    let bytes22 : Int := p21.1;
    let many23 : Int := p21.2.1;
    let deep24 : Bool := p21.2.2;
    some (bytes22, many23, deep24)) := (call_eq ..).trans (by kernel_rfl)

theorem chunk_valid_eq (l1 : List Chunk) : chunk_valid l1 =
   (chunk_looks_right l1 1 0).bind fun (q2 : Bool × Int) =>
   let tr3 : Bool := q2.1;
   let tr4 : Int := q2.2;
   some tr3 := (call_eq ..).trans (by kernel_rfl)

theorem chunk_size_eq (c1 : List Int) (c2 : List Int) (c3 : List Int) (c4 : List Chunk) : chunk_size c1 c2 c3 c4 =
   (chunk_length c1 c2 c3 c4).bind fun (q5 : Int) =>
   let t6 : Int := IntKind.i64.wrap (q5 + 1);
   let t7 : Int := IntKind.i64.wrap (t6.tdiv 2);
   let t8 : Int := IntKind.i64.wrap (t7 * 2);
   let t9 : Int := IntKind.i64.wrap (8 + t8);
   some t9 := (call_eq ..).trans (by kernel_rfl)

noncomputable def chunk_put_loop7 (c4 : List Chunk) (s17 : Int × (List Int)) : Option ((Int × (List Int)) ⊕ ((List Int))) :=
   let v18 : Int := s17.1;
   let out19 : List Int := s17.2;
   (if (decide (v18 < ((c4.length : Nat) : Int))) = true then
    (if 0 ≤ v18 then
     (c4[v18.toNat]?).bind fun e20 =>
     (chunk_put e20.id e20.kind e20.data e20.kids out19).bind fun (q21 : (List Int)) =>
     let t22 : Int := IntKind.i64.wrap (v18 + 1);
     some (Sum.inl (t22, q21))
     else
     none)
    else
    some (Sum.inr out19))
theorem chunk_put_eq (c1 : List Int) (c2 : List Int) (c3 : List Int) (c4 : List Chunk) (b5 : List Int) : chunk_put c1 c2 c3 c4 b5 =
   (chunk_length c1 c2 c3 c4).bind fun (q6 : Int) =>
   (if (b5.length + c1.length) * 1 ≤ 140737488355328 then
    let t7 : List Int := b5 ++ c1;
    let t8 : Int := ishr .i64 q6 24;
    let t9 : Int := IntKind.u8.wrap t8;
    let t10 : Int := ishr .i64 q6 16;
    let t11 : Int := IntKind.u8.wrap t10;
    let t12 : Int := ishr .i64 q6 8;
    let t13 : Int := IntKind.u8.wrap t12;
    let t14 : Int := IntKind.u8.wrap q6;
    (if (t7.length + ([t9, t11, t13, t14] : List Int).length) * 1 ≤ 140737488355328 then
     let t15 : List Int := t7 ++ [t9, t11, t13, t14];
     ((if (decide (c1 = [70, 79, 82, 77])) = true then
       (if (t15.length + c2.length) * 1 ≤ 140737488355328 then
        let t16 : List Int := t15 ++ c2;
        (loop (chunk_put_loop7 c4) (0, t16)).bind (fun (out23 : (List Int)) =>
         some out23)
        else
        none)
       else
       (if (t15.length + c3.length) * 1 ≤ 140737488355328 then
        let t24 : List Int := t15 ++ c3;
        some t24
        else
        none)) : Option ((List Int))).bind (fun (out25 : (List Int)) =>
      let t26 : Int := q6.tmod 2;
      (if (decide (t26 = 1)) = true then
       (if (out25.length + ([0] : List Int).length) * 1 ≤ 140737488355328 then
        let t27 : List Int := out25 ++ [0];
        some t27
        else
        none)
       else
       some out25))
     else
     none)
    else
    none) := (call_eq ..).trans (by kernel_rfl)

noncomputable def ref26_ValidList_loop2 (l1 : List Chunk) (v2 : Int) : Option ((Int) ⊕ ((Unit) ⊕ (Bool))) :=
   (if (decide (v2 < ((l1.length : Nat) : Int))) = true then
    (if 0 ≤ v2 then
     (l1[v2.toNat]?).bind fun e3 =>
     (ref26_single e3.id e3.kind e3.data e3.kids).bind fun (q4 : Bool) =>
     (if (!q4) = true then
      some (Sum.inr (Sum.inr false))
      else
      let t5 : Int := IntKind.i64.wrap (v2 + 1);
      some (Sum.inl t5))
     else
     none)
    else
    some (Sum.inr (Sum.inl ())))
theorem ref26_ValidList_eq (l1 : List Chunk) : ref26_ValidList l1 =
   (loop (ref26_ValidList_loop2 l1) 0).bind (fun (o8 : (Unit) ⊕ (Bool)) =>
    (match o8 with
     | Sum.inl p6 =>
     (ref26_count l1).bind fun (q9 : Int × Int) =>
     let tr10 : Int := q9.1;
     let tr11 : Int := q9.2;
     (if (decide (tr10 ≤ 400)) = true then
      some (decide (tr11 ≤ 8))
      else
      some false)
     | Sum.inr v7 =>
     some v7)) := (call_eq ..).trans (by kernel_rfl)

noncomputable def ref26_size_loop5 (c4 : List Chunk) (s5 : Int × Int) : Option ((Int × Int) ⊕ (Int)) :=
   let n6 : Int := s5.1;
   let v7 : Int := s5.2;
   (if (decide (v7 < ((c4.length : Nat) : Int))) = true then
    (if 0 ≤ v7 then
     (c4[v7.toNat]?).bind fun e8 =>
     (ref26_size e8.id e8.kind e8.data e8.kids).bind fun (q9 : Int) =>
     let t10 : Int := IntKind.i64.wrap (n6 + q9);
     let t11 : Int := IntKind.i64.wrap (v7 + 1);
     some (Sum.inl (t10, t11))
     else
     none)
    else
    some (Sum.inr n6))
theorem ref26_size_eq (c1 : List Int) (c2 : List Int) (c3 : List Int) (c4 : List Chunk) : ref26_size c1 c2 c3 c4 =
   ((if (decide (c1 = [70, 79, 82, 77])) = true then
     (loop (ref26_size_loop5 c4) (4, 0)).bind (fun (n12 : Int) =>
      some n12)
     else
     some ((c3.length : Nat) : Int)) : Option (Int)).bind (fun (n13 : Int) =>
    let t14 : Int := IntKind.i64.wrap (8 + n13);
    let t15 : Int := n13.tmod 2;
    let t16 : Int := IntKind.i64.wrap (t14 + t15);
    some t16) := (call_eq ..).trans (by kernel_rfl)

noncomputable def ref26_bytes_loop3 (l1 : List Chunk) (s2 : Int × (List Int)) : Option ((Int × (List Int)) ⊕ ((List Int))) :=
   let v3 : Int := s2.1;
   let out4 : List Int := s2.2;
   (if (decide (v3 < ((l1.length : Nat) : Int))) = true then
    (if 0 ≤ v3 then
     (l1[v3.toNat]?).bind fun e5 =>
     ((if (decide (e5.id = [70, 79, 82, 77])) = true then
       (ref26_bytes e5.kids).bind fun (q6 : (List Int)) =>
       (if (e5.kind.length + q6.length) * 1 ≤ 140737488355328 then
        let t7 : List Int := e5.kind ++ q6;
        some t7
        else
        none)
       else
       some e5.data) : Option ((List Int))).bind (fun (inner8 : (List Int)) =>
      (if (out4.length + e5.id.length) * 1 ≤ 140737488355328 then
       let t9 : List Int := out4 ++ e5.id;
       let t10 : Int := ishr .i64 ((inner8.length : Nat) : Int) 24;
       let t11 : Int := IntKind.u8.wrap t10;
       let t12 : Int := ishr .i64 ((inner8.length : Nat) : Int) 16;
       let t13 : Int := IntKind.u8.wrap t12;
       let t14 : Int := ishr .i64 ((inner8.length : Nat) : Int) 8;
       let t15 : Int := IntKind.u8.wrap t14;
       let t16 : Int := IntKind.u8.wrap ((inner8.length : Nat) : Int);
       (if (t9.length + ([t11, t13, t15, t16] : List Int).length) * 1 ≤ 140737488355328 then
        let t17 : List Int := t9 ++ [t11, t13, t15, t16];
        (if (t17.length + inner8.length) * 1 ≤ 140737488355328 then
         let t18 : List Int := t17 ++ inner8;
         let t19 : Int := ((inner8.length : Nat) : Int).tmod 2;
         (if (decide (t19 = 1)) = true then
          (if (t18.length + ([0] : List Int).length) * 1 ≤ 140737488355328 then
           let t20 : List Int := t18 ++ [0];
           let t21 : Int := IntKind.i64.wrap (v3 + 1);
           some (Sum.inl (t21, t20))
           else
           none)
          else
          let t22 : Int := IntKind.i64.wrap (v3 + 1);
          some (Sum.inl (t22, t18)))
         else
         none)
        else
        none)
       else
       none))
     else
     none)
    else
    some (Sum.inr out4))
theorem ref26_bytes_eq (l1 : List Chunk) : ref26_bytes l1 =
   (loop (ref26_bytes_loop3 l1) (0, [])).bind (fun (out23 : (List Int)) =>
    some out23) := (call_eq ..).trans (by kernel_rfl)

noncomputable def slices_EqualFunc_api_Chunk_api_Chunk_api_Chunk_api_Chunk_loop4 (s1 : List Chunk) (s2 : List Chunk) (v3 : Int) : Option ((Int) ⊕ ((Unit) ⊕ (Bool))) :=
   (if (decide (v3 < ((s1.length : Nat) : Int))) = true then
    (if 0 ≤ v3 then
     (s1[v3.toNat]?).bind fun e4 =>
     (if 0 ≤ v3 then
      (s2[v3.toNat]?).bind fun e5 =>
      (chunk_Same_1 e4.id e4.kind e4.data e4.kids e5.id e5.kind e5.data e5.kids).bind fun (q6 : Bool) =>
      (if (!q6) = true then
       some (Sum.inr (Sum.inr false))
       else
       let t7 : Int := IntKind.i64.wrap (v3 + 1);
       some (Sum.inl t7))
      else
      none)
     else
     none)
    else
    some (Sum.inr (Sum.inl ())))
theorem slices_EqualFunc_api_Chunk_api_Chunk_api_Chunk_api_Chunk_eq (s1 : List Chunk) (s2 : List Chunk) : slices_EqualFunc_api_Chunk_api_Chunk_api_Chunk_api_Chunk s1 s2 =
   (if (!decide (((s1.length : Nat) : Int) = ((s2.length : Nat) : Int))) = true then
    some false
    else
    (loop (slices_EqualFunc_api_Chunk_api_Chunk_api_Chunk_api_Chunk_loop4 s1 s2) 0).bind (fun (o10 : (Unit) ⊕ (Bool)) =>
     (match o10 with
      | Sum.inl p8 =>
      some true
      | Sum.inr v9 =>
      some v9))) := (call_eq ..).trans (by kernel_rfl)

theorem ref26_same_eq (a1 : List Int) (a2 : List Int) (a3 : List Int) (a4 : List Chunk) (b5 : List Int) (b6 : List Int) (b7 : List Int) (b8 : List Chunk) : ref26_same a1 a2 a3 a4 b5 b6 b7 b8 =
   (if (decide (a1 = b5)) = true then
    (if (decide (a2 = b6)) = true then
     (if (decide (a3 = b7)) = true then
      (ref26_Same a4 b8).bind fun (q9 : Bool) =>
      some q9
      else
      some false)
     else
     some false)
    else
    some false) := (call_eq ..).trans (by kernel_rfl)

noncomputable def slices_IndexFunc_api_Chunk_api_Chunk_loop2 (s1 : List Chunk) (s3 : Int × (List Int)) : Option ((Int × (List Int)) ⊕ (((List Int)) ⊕ (Int × (List Int)))) :=
   let v4 : Int := s3.1;
   let b5 : List Int := s3.2;
   (if (decide (v4 < ((s1.length : Nat) : Int))) = true then
    (if 0 ≤ v4 then
     (s1[v4.toNat]?).bind fun e6 =>
     (chunk_Find_1 e6.id e6.kind e6.data e6.kids b5).bind fun (q7 : Bool × (List Int)) =>
     let tr8 : Bool := q7.1;
     let tr9 : List Int := q7.2;
     (if tr8 = true then
      some (Sum.inr (Sum.inr (v4, tr9)))
      else
      let t10 : Int := IntKind.i64.wrap (v4 + 1);
      some (Sum.inl (t10, tr9)))
     else
     none)
    else
    some (Sum.inr (Sum.inl b5)))
theorem slices_IndexFunc_api_Chunk_api_Chunk_eq (s1 : List Chunk) (b2 : List Int) : slices_IndexFunc_api_Chunk_api_Chunk s1 b2 =
   (loop (slices_IndexFunc_api_Chunk_api_Chunk_loop2 s1) (0, b2)).bind (fun (o15 : ((List Int)) ⊕ (Int × (List Int))) =>
    (match o15 with
     | Sum.inl b11 =>
     some ((-1), b11)
     | Sum.inr p12 =>
     let v13 : Int := p12.1;
     let b14 : List Int := p12.2;
     some (v13, b14))) := (call_eq ..).trans (by kernel_rfl)

noncomputable def chunk_clone_loop4 (c4 : List Chunk) (s6 : Int × (List Chunk)) : Option ((Int × (List Chunk)) ⊕ ((List Chunk))) :=
   let v7 : Int := s6.1;
   let kids8 : List Chunk := s6.2;
   (if (decide (v7 < ((c4.length : Nat) : Int))) = true then
    (if 0 ≤ v7 then
     (c4[v7.toNat]?).bind fun e9 =>
     (chunk_clone e9.id e9.kind e9.data e9.kids).bind fun (q10 : (List Int) × (List Int) × (List Int) × (List Chunk)) =>
     let tr11 : List Int := q10.1;
     let tr12 : List Int := q10.2.1;
     let tr13 : List Int := q10.2.2.1;
     let tr14 : List Chunk := q10.2.2.2;
     (if (kids8.length + ([(Chunk.mk tr11 tr12 tr13 tr14)] : List Chunk).length) * 80 ≤ 140737488355328 then
      let t15 : List Chunk := kids8 ++ [(Chunk.mk tr11 tr12 tr13 tr14)];
      let t16 : Int := IntKind.i64.wrap (v7 + 1);
      some (Sum.inl (t16, t15))
      else
      none)
     else
     none)
    else
    some (Sum.inr kids8))
theorem chunk_clone_eq (c1 : List Int) (c2 : List Int) (c3 : List Int) (c4 : List Chunk) : chunk_clone c1 c2 c3 c4 =
   (bytes_Clone c3).bind fun (q5 : (List Int)) =>
   (loop (chunk_clone_loop4 c4) (0, [])).bind (fun (kids17 : (List Chunk)) =>
    some (c1, c2, q5, kids17)) := (call_eq ..).trans (by kernel_rfl)

theorem ref26_name_eq (c1 : List Int) (c2 : List Int) (c3 : List Int) (c4 : List Chunk) : ref26_name c1 c2 c3 c4 =
   (if (decide (c1 = [70, 79, 82, 77])) = true then
    some c2
    else
    some c1) := (call_eq ..).trans (by kernel_rfl)

noncomputable def chunk_all_loop3 (l1 : List Chunk) (id2 : List Int) (s3 : Int × (List Chunk)) : Option ((Int × (List Chunk)) ⊕ ((List Chunk))) :=
   let v4 : Int := s3.1;
   let out5 : List Chunk := s3.2;
   (if (decide (v4 < ((l1.length : Nat) : Int))) = true then
    (if 0 ≤ v4 then
     (l1[v4.toNat]?).bind fun e6 =>
     (if (decide (e6.id = [70, 79, 82, 77])) = true then
      (chunk_all e6.kids id2).bind fun (q7 : (List Chunk)) =>
      (if (out5.length + q7.length) * 80 ≤ 140737488355328 then
       let t8 : List Chunk := out5 ++ q7;
       let t9 : Int := IntKind.i64.wrap (v4 + 1);
       some (Sum.inl (t9, t8))
       else
       none)
      else
      (if (decide (e6.id = id2)) = true then
       (chunk_clone e6.id e6.kind e6.data e6.kids).bind fun (q10 : (List Int) × (List Int) × (List Int) × (List Chunk)) =>
       let tr11 : List Int := q10.1;
       let tr12 : List Int := q10.2.1;
       let tr13 : List Int := q10.2.2.1;
       let tr14 : List Chunk := q10.2.2.2;
       (if (out5.length + ([(Chunk.mk tr11 tr12 tr13 tr14)] : List Chunk).length) * 80 ≤ 140737488355328 then
        let t15 : List Chunk := out5 ++ [(Chunk.mk tr11 tr12 tr13 tr14)];
        let t16 : Int := IntKind.i64.wrap (v4 + 1);
        some (Sum.inl (t16, t15))
        else
        none)
       else
       let t17 : Int := IntKind.i64.wrap (v4 + 1);
       some (Sum.inl (t17, out5))))
     else
     none)
    else
    some (Sum.inr out5))
theorem chunk_all_eq (l1 : List Chunk) (id2 : List Int) : chunk_all l1 id2 =
   (loop (chunk_all_loop3 l1 id2) (0, [])).bind (fun (out18 : (List Chunk)) =>
    some out18) := (call_eq ..).trans (by kernel_rfl)

noncomputable def ref26_all_loop3 (l1 : List Chunk) (id2 : List Int) (s3 : Int × (List Chunk)) : Option ((Int × (List Chunk)) ⊕ ((List Chunk))) :=
   let v4 : Int := s3.1;
   let out5 : List Chunk := s3.2;
   (if (decide (v4 < ((l1.length : Nat) : Int))) = true then
    (if 0 ≤ v4 then
     (l1[v4.toNat]?).bind fun e6 =>
     ((if (decide (e6.id = id2)) = true then
       some (!decide (id2 = [70, 79, 82, 77]))
       else
       some false) : Option (Bool)).bind (fun (v7 : Bool) =>
      ((if v7 = true then
        (if (out5.length + ([(Chunk.mk e6.id e6.kind e6.data e6.kids)] : List Chunk).length) * 80 ≤ 140737488355328 then
         let t8 : List Chunk := out5 ++ [(Chunk.mk e6.id e6.kind e6.data e6.kids)];
         some t8
         else
         none)
        else
        some out5) : Option ((List Chunk))).bind (fun (out9 : (List Chunk)) =>
       (ref26_all e6.kids id2).bind fun (q10 : (List Chunk)) =>
       (if (out9.length + q10.length) * 80 ≤ 140737488355328 then
        let t11 : List Chunk := out9 ++ q10;
        let t12 : Int := IntKind.i64.wrap (v4 + 1);
        some (Sum.inl (t12, t11))
        else
        none)))
     else
     none)
    else
    some (Sum.inr out5))
theorem ref26_all_eq (l1 : List Chunk) (id2 : List Int) : ref26_all l1 id2 =
   (loop (ref26_all_loop3 l1 id2) (0, [])).bind (fun (out13 : (List Chunk)) =>
    some out13) := (call_eq ..).trans (by kernel_rfl)

theorem chunk_isKind_eq (s1 : List Int) : chunk_isKind s1 =
   (chunk_isId s1).bind fun (q2 : Bool) =>
   (if q2 = true then
    some (!decide (s1 = [70, 79, 82, 77]))
    else
    some false) := (call_eq ..).trans (by kernel_rfl)

theorem bytes_Clone_eq (b1 : List Int) : bytes_Clone b1 =
   (if b1.length = 0 then
    (demon
     (some [])
     ((if (([] : List Int).length + b1.length) * 1 ≤ 140737488355328 then
       let t2 : List Int := ([] : List Int) ++ b1;
       some t2
       else
       none)))
    else
    (if (([] : List Int).length + b1.length) * 1 ≤ 140737488355328 then
     let t3 : List Int := ([] : List Int) ++ b1;
     some t3
     else
     none)) := (call_eq ..).trans (by kernel_rfl)

noncomputable def slices_IndexFunc_api_Chunk_api_Chunk_2_loop2 (s1 : List Chunk) (s3 : Int × (List Int)) : Option ((Int × (List Int)) ⊕ (((List Int)) ⊕ (Int × (List Int)))) :=
   let v4 : Int := s3.1;
   let b5 : List Int := s3.2;
   (if (decide (v4 < ((s1.length : Nat) : Int))) = true then
    (if 0 ≤ v4 then
     (s1[v4.toNat]?).bind fun e6 =>
     (chunk_Replace_1 e6.id e6.kind e6.data e6.kids b5).bind fun (q7 : Bool × (List Int)) =>
     let tr8 : Bool := q7.1;
     let tr9 : List Int := q7.2;
     (if tr8 = true then
      some (Sum.inr (Sum.inr (v4, tr9)))
      else
      let t10 : Int := IntKind.i64.wrap (v4 + 1);
      some (Sum.inl (t10, tr9)))
     else
     none)
    else
    some (Sum.inr (Sum.inl b5)))
theorem slices_IndexFunc_api_Chunk_api_Chunk_2_eq (s1 : List Chunk) (b2 : List Int) : slices_IndexFunc_api_Chunk_api_Chunk_2 s1 b2 =
   (loop (slices_IndexFunc_api_Chunk_api_Chunk_2_loop2 s1) (0, b2)).bind (fun (o15 : ((List Int)) ⊕ (Int × (List Int))) =>
    (match o15 with
     | Sum.inl b11 =>
     some ((-1), b11)
     | Sum.inr p12 =>
     let v13 : Int := p12.1;
     let b14 : List Int := p12.2;
     some (v13, b14))) := (call_eq ..).trans (by kernel_rfl)

noncomputable def ref26_IsId_loop4 (s1 : List Int) (i2 : Int) : Option ((Int) ⊕ ((Unit) ⊕ (Bool))) :=
   (if (decide (i2 < 4)) = true then
    (if 0 ≤ i2 ∧ i2 < ((s1).length : Int) then
     let t3 : Int := rd s1 i2;
     (if (decide (t3 < 65)) = true then
      (if (decide (t3 < 48)) = true then
       some (Sum.inr (Sum.inr false))
       else
       (if (decide (t3 > 57)) = true then
        some (Sum.inr (Sum.inr false))
        else
        let t4 : Int := IntKind.i64.wrap (i2 + 1);
        some (Sum.inl t4)))
      else
      (if (decide (t3 > 90)) = true then
       (if (decide (t3 < 48)) = true then
        some (Sum.inr (Sum.inr false))
        else
        (if (decide (t3 > 57)) = true then
         some (Sum.inr (Sum.inr false))
         else
         let t5 : Int := IntKind.i64.wrap (i2 + 1);
         some (Sum.inl t5)))
       else
       let t6 : Int := IntKind.i64.wrap (i2 + 1);
       some (Sum.inl t6)))
     else
     none)
    else
    some (Sum.inr (Sum.inl ())))
theorem ref26_IsId_eq (s1 : List Int) : ref26_IsId s1 =
   (if (!decide (((s1.length : Nat) : Int) = 4)) = true then
    some false
    else
    (loop (ref26_IsId_loop4 s1) 0).bind (fun (o9 : (Unit) ⊕ (Bool)) =>
     (match o9 with
      | Sum.inl p7 =>
      some true
      | Sum.inr v8 =>
      some v8))) := (call_eq ..).trans (by kernel_rfl)

noncomputable def chunk_reader_list_loop2 (end2 : Int) (depth3 : Int) (s8 : Int × (List Int) × Int × Int × Int × (List Chunk)) : Option ((Int × (List Int) × Int × Int × Int × (List Chunk)) ⊕ ((List Int) × Int × Int × Int × (List Chunk))) :=
   let at9 : Int := s8.1;
   let b10 : List Int := s8.2.1;
   let b11 : Int := s8.2.2.1;
   let b12 : Int := s8.2.2.2.1;
   let b13 : Int := s8.2.2.2.2.1;
   let out14 : List Chunk := s8.2.2.2.2.2;
   ((if (decide (at9 < end2)) = true then
     some (decide (b12 = 0))
     else
     some false) : Option (Bool)).bind (fun (v15 : Bool) =>
    (if v15 = true then
     (chunk_reader_chunk at9 end2 depth3 b10 b11 b12 b13).bind fun (q16 : (List Int) × (List Int) × (List Int) × (List Chunk) × Int × (List Int) × Int × Int × Int) =>
     let tr17 : List Int := q16.1;
     let tr18 : List Int := q16.2.1;
     let tr19 : List Int := q16.2.2.1;
     let tr20 : List Chunk := q16.2.2.2.1;
     let tr21 : Int := q16.2.2.2.2.1;
     let tr22 : List Int := q16.2.2.2.2.2.1;
     let tr23 : Int := q16.2.2.2.2.2.2.1;
     let tr24 : Int := q16.2.2.2.2.2.2.2.1;
     let tr25 : Int := q16.2.2.2.2.2.2.2.2;
     (if (out14.length + ([(Chunk.mk tr17 tr18 tr19 tr20)] : List Chunk).length) * 80 ≤ 140737488355328 then
      let t26 : List Chunk := out14 ++ [(Chunk.mk tr17 tr18 tr19 tr20)];
      some (Sum.inl (tr21, tr22, tr23, tr24, tr25, t26))
      else
      none)
     else
     some (Sum.inr (b10, b11, b12, b13, out14))))
theorem chunk_reader_list_eq (at1 : Int) (end2 : Int) (depth3 : Int) (b4 : List Int) (b5 : Int) (b6 : Int) (b7 : Int) : chunk_reader_list at1 end2 depth3 b4 b5 b6 b7 =
   (loop (chunk_reader_list_loop2 end2 depth3) (at1, b4, b5, b6, b7, [])).bind (fun (p27 : (List Int) × Int × Int × Int × (List Chunk)) =>
    let b28 : List Int := p27.1;
    let b29 : Int := p27.2.1;
    let b30 : Int := p27.2.2.1;
    let b31 : Int := p27.2.2.2.1;
    let out32 : List Chunk := p27.2.2.2.2;
    some (out32, b28, b29, b30, b31)) := (call_eq ..).trans (by kernel_rfl)

noncomputable def ref26_reader_list_loop2 (end2 : Int) (deep3 : Int) (s6 : Int × (List Int) × Int × (List Chunk)) : Option ((Int × (List Int) × Int × (List Chunk)) ⊕ ((Int × (List Int) × Int × (List Chunk)) ⊕ ((List Chunk) × Int × Int × (List Int) × Int))) :=
   let at7 : Int := s6.1;
   let b8 : List Int := s6.2.1;
   let b9 : Int := s6.2.2.1;
   let out10 : List Chunk := s6.2.2.2;
   (if (decide (at7 < end2)) = true then
    (ref26_reader_chunk at7 end2 deep3 b8 b9).bind fun (q11 : (List Int) × (List Int) × (List Int) × (List Chunk) × Int × Int × (List Int) × Int) =>
    let tr12 : List Int := q11.1;
    let tr13 : List Int := q11.2.1;
    let tr14 : List Int := q11.2.2.1;
    let tr15 : List Chunk := q11.2.2.2.1;
    let tr16 : Int := q11.2.2.2.2.1;
    let tr17 : Int := q11.2.2.2.2.2.1;
    let tr18 : List Int := q11.2.2.2.2.2.2.1;
    let tr19 : Int := q11.2.2.2.2.2.2.2;
    (if (!decide (tr17 = 0)) = true then
     some (Sum.inr (Sum.inr ([], tr16, tr17, tr18, tr19)))
     else
     (if (out10.length + ([(Chunk.mk tr12 tr13 tr14 tr15)] : List Chunk).length) * 80 ≤ 140737488355328 then
      let t20 : List Chunk := out10 ++ [(Chunk.mk tr12 tr13 tr14 tr15)];
      some (Sum.inl (tr16, tr18, tr19, t20))
      else
      none))
    else
    some (Sum.inr (Sum.inl (at7, b8, b9, out10))))
theorem ref26_reader_list_eq (at1 : Int) (end2 : Int) (deep3 : Int) (b4 : List Int) (b5 : Int) : ref26_reader_list at1 end2 deep3 b4 b5 =
   (loop (ref26_reader_list_loop2 end2 deep3) (at1, b4, b5, [])).bind (fun (o32 : (Int × (List Int) × Int × (List Chunk)) ⊕ ((List Chunk) × Int × Int × (List Int) × Int)) =>
    (match o32 with
     | Sum.inl p21 =>
     let at22 : Int := p21.1;
     let b23 : List Int := p21.2.1;
     let b24 : Int := p21.2.2.1;
     let out25 : List Chunk := p21.2.2.2;
     some (out25, at22, 0, b23, b24)
     | Sum.inr p26 =>
     let v27 : List Chunk := p26.1;
     let v28 : Int := p26.2.1;
     let v29 : Int := p26.2.2.1;
     let b30 : List Int := p26.2.2.2.1;
     let b31 : Int := p26.2.2.2.2;
     some (v27, v28, v29, b30, b31))) := (call_eq ..).trans (by kernel_rfl)

noncomputable def chunk_reader_chunk_loop7 (t51 : List Int) (s52 : Int × Int) : Option ((Int × Int) ⊕ (Int)) :=
   let n53 : Int := s52.1;
   let v54 : Int := s52.2;
   (if (decide (v54 < ((t51.length : Nat) : Int))) = true then
    (if 0 ≤ v54 ∧ v54 < (t51.length : Int) then
     let t55 : Int := ishl .i64 n53 8;
     let t56 : Int := IntKind.i64.wrap (rd t51 v54);
     let t57 : Int := ior .i64 t55 t56;
     let t58 : Int := IntKind.i64.wrap (v54 + 1);
     some (Sum.inl (t57, t58))
     else
     none)
    else
    some (Sum.inr n53))
theorem chunk_reader_chunk_eq (at1 : Int) (end2 : Int) (depth3 : Int) (b4 : List Int) (b5 : Int) (b6 : Int) (b7 : Int) : chunk_reader_chunk at1 end2 depth3 b4 b5 b6 b7 =
   (chunk_reader_id at1 end2 b4 b5 b6 b7).bind fun (q8 : (List Int) × (List Int) × Int × Int × Int) =>
   let tr9 : List Int := q8.1;
   let tr10 : List Int := q8.2.1;
   let tr11 : Int := q8.2.2.1;
   let tr12 : Int := q8.2.2.2.1;
   let tr13 : Int := q8.2.2.2.2;
   let t14 : Int := IntKind.i64.wrap (tr11 + 1);
   ((if (decide (t14 ≤ 400)) = true then
     (chunk_reader_fail (decide (depth3 ≤ 8)) 4 at1 tr10 t14 tr12 tr13).bind fun (q15 : Bool × (List Int) × Int × Int × Int) =>
     let tr16 : Bool := q15.1;
     let tr17 : List Int := q15.2.1;
     let tr18 : Int := q15.2.2.1;
     let tr19 : Int := q15.2.2.2.1;
     let tr20 : Int := q15.2.2.2.2;
     (if (!tr16) = true then
      some (true, tr17, tr18, tr19, tr20)
      else
      let t21 : Int := IntKind.i64.wrap (end2 - at1);
      let t22 : Int := IntKind.i64.wrap (at1 + 4);
      (chunk_reader_fail (decide (t21 ≥ 8)) 6 t22 tr17 tr18 tr19 tr20).bind fun (q23 : Bool × (List Int) × Int × Int × Int) =>
      let tr24 : Bool := q23.1;
      let tr25 : List Int := q23.2.1;
      let tr26 : Int := q23.2.2.1;
      let tr27 : Int := q23.2.2.2.1;
      let tr28 : Int := q23.2.2.2.2;
      some (!tr24, tr25, tr26, tr27, tr28))
     else
     (chunk_reader_fail false 4 at1 tr10 t14 tr12 tr13).bind fun (q29 : Bool × (List Int) × Int × Int × Int) =>
     let tr30 : Bool := q29.1;
     let tr31 : List Int := q29.2.1;
     let tr32 : Int := q29.2.2.1;
     let tr33 : Int := q29.2.2.2.1;
     let tr34 : Int := q29.2.2.2.2;
     (if (!tr30) = true then
      some (true, tr31, tr32, tr33, tr34)
      else
      let t35 : Int := IntKind.i64.wrap (end2 - at1);
      let t36 : Int := IntKind.i64.wrap (at1 + 4);
      (chunk_reader_fail (decide (t35 ≥ 8)) 6 t36 tr31 tr32 tr33 tr34).bind fun (q37 : Bool × (List Int) × Int × Int × Int) =>
      let tr38 : Bool := q37.1;
      let tr39 : List Int := q37.2.1;
      let tr40 : Int := q37.2.2.1;
      let tr41 : Int := q37.2.2.2.1;
      let tr42 : Int := q37.2.2.2.2;
      some (!tr38, tr39, tr40, tr41, tr42))) : Option (Bool × (List Int) × Int × Int × Int)).bind (fun (p43 : Bool × (List Int) × Int × Int × Int) =>
    let v44 : Bool := p43.1;
    let b45 : List Int := p43.2.1;
    let b46 : Int := p43.2.2.1;
    let b47 : Int := p43.2.2.2.1;
    let b48 : Int := p43.2.2.2.2;
    (if v44 = true then
     some (tr9, [], [], [], end2, b45, b46, b47, b48)
     else
     let t49 : Int := IntKind.i64.wrap (at1 + 4);
     let t50 : Int := IntKind.i64.wrap (at1 + 8);
     (if 0 ≤ t50 ∧ t50 ≤ ((b45.length : Nat) : Int) then
      (if 0 ≤ t49 ∧ t49 ≤ t50 then
       let t51 : List Int := cutL b45 t49.toNat t50.toNat;
       (loop (chunk_reader_chunk_loop7 t51) (0, 0)).bind (fun (n59 : Int) =>
        let t60 : Int := IntKind.i64.wrap (at1 + 8);
        let t61 : Int := IntKind.i64.wrap (end2 - t60);
        let t62 : Int := IntKind.i64.wrap (at1 + 4);
        (chunk_reader_fail (decide (n59 ≤ t61)) 6 t62 b45 b46 b47 b48).bind fun (q63 : Bool × (List Int) × Int × Int × Int) =>
        let tr64 : Bool := q63.1;
        let tr65 : List Int := q63.2.1;
        let tr66 : Int := q63.2.2.1;
        let tr67 : Int := q63.2.2.2.1;
        let tr68 : Int := q63.2.2.2.2;
        (if (!tr64) = true then
         some (tr9, [], [], [], end2, tr65, tr66, tr67, tr68)
         else
         let t69 : Int := IntKind.i64.wrap (t60 + n59);
         ((if (decide (tr9 = [70, 79, 82, 77])) = true then
           (chunk_reader_id_2 t60 t69 tr65 tr66 tr67 tr68).bind fun (q70 : (List Int) × (List Int) × Int × Int × Int) =>
           let tr71 : List Int := q70.1;
           let tr72 : List Int := q70.2.1;
           let tr73 : Int := q70.2.2.1;
           let tr74 : Int := q70.2.2.2.1;
           let tr75 : Int := q70.2.2.2.2;
           let t76 : Int := IntKind.i64.wrap (t60 + 4);
           let t77 : Int := IntKind.i64.wrap (depth3 + 1);
           (chunk_reader_list t76 t69 t77 tr72 tr73 tr74 tr75).bind fun (q78 : (List Chunk) × (List Int) × Int × Int × Int) =>
           let tr79 : List Chunk := q78.1;
           let tr80 : List Int := q78.2.1;
           let tr81 : Int := q78.2.2.1;
           let tr82 : Int := q78.2.2.2.1;
           let tr83 : Int := q78.2.2.2.2;
           some (tr80, tr81, tr82, tr83, tr9, tr71, [], tr79)
           else
           (if 0 ≤ t69 ∧ t69 ≤ ((tr65.length : Nat) : Int) then
            (if 0 ≤ t60 ∧ t60 ≤ t69 then
             let t84 : List Int := cutL tr65 t60.toNat t69.toNat;
             (bytes_Clone t84).bind fun (q85 : (List Int)) =>
             some (tr65, tr66, tr67, tr68, tr9, [], q85, [])
             else
             none)
            else
            none)) : Option ((List Int) × Int × Int × Int × (List Int) × (List Int) × (List Int) × (List Chunk))).bind (fun (p86 : (List Int) × Int × Int × Int × (List Int) × (List Int) × (List Int) × (List Chunk)) =>
          let b87 : List Int := p86.1;
          let b88 : Int := p86.2.1;
          let b89 : Int := p86.2.2.1;
          let b90 : Int := p86.2.2.2.1;
          let b91 : List Int := p86.2.2.2.2.1;
          let b92 : List Int := p86.2.2.2.2.2.1;
          let b93 : List Int := p86.2.2.2.2.2.2.1;
          let b94 : List Chunk := p86.2.2.2.2.2.2.2;
          (let t95 : Int := n59.tmod 2;
           (if (decide (t95 = 1)) = true then
            (chunk_reader_fail (decide (t69 < end2)) 6 t69 b87 b88 b89 b90).bind fun (q96 : Bool × (List Int) × Int × Int × Int) =>
            let tr97 : Bool := q96.1;
            let tr98 : List Int := q96.2.1;
            let tr99 : Int := q96.2.2.1;
            let tr100 : Int := q96.2.2.2.1;
            let tr101 : Int := q96.2.2.2.2;
            some (tr97, tr98, tr99, tr100, tr101)
            else
            some (false, b87, b88, b89, b90)) : Option (Bool × (List Int) × Int × Int × Int)).bind (fun (p102 : Bool × (List Int) × Int × Int × Int) =>
           let v103 : Bool := p102.1;
           let b104 : List Int := p102.2.1;
           let b105 : Int := p102.2.2.1;
           let b106 : Int := p102.2.2.2.1;
           let b107 : Int := p102.2.2.2.2;
           (if v103 = true then
            (if 0 ≤ t69 ∧ t69 < (b104.length : Int) then
             (chunk_reader_fail (decide (rd b104 t69 = 0)) 3 t69 b104 b105 b106 b107).bind fun (q108 : Bool × (List Int) × Int × Int × Int) =>
             let tr109 : Bool := q108.1;
             let tr110 : List Int := q108.2.1;
             let tr111 : Int := q108.2.2.1;
             let tr112 : Int := q108.2.2.2.1;
             let tr113 : Int := q108.2.2.2.2;
             let t114 : Int := IntKind.i64.wrap (t69 + 1);
             some (b91, b92, b93, b94, t114, tr110, tr111, tr112, tr113)
             else
             none)
            else
            some (b91, b92, b93, b94, t69, b104, b105, b106, b107))))))
       else
       none)
      else
      none))) := (call_eq ..).trans (by kernel_rfl)

noncomputable def ref26_reader_chunk_loop11 (at1 : Int) (tr9 : List Int) (s15 : Int × Int) : Option ((Int × Int) ⊕ (Int)) :=
   let n16 : Int := s15.1;
   let i17 : Int := s15.2;
   (if (decide (i17 < 8)) = true then
    let t18 : Int := IntKind.i64.wrap (256 * n16);
    let t19 : Int := IntKind.i64.wrap (at1 + i17);
    (if 0 ≤ t19 ∧ t19 < (tr9.length : Int) then
     let t20 : Int := IntKind.i64.wrap (rd tr9 t19);
     let t21 : Int := IntKind.i64.wrap (t18 + t20);
     let t22 : Int := IntKind.i64.wrap (i17 + 1);
     some (Sum.inl (t21, t22))
     else
     none)
    else
    some (Sum.inr n16))
theorem ref26_reader_chunk_eq (at1 : Int) (end2 : Int) (deep3 : Int) (b4 : List Int) (b5 : Int) : ref26_reader_chunk at1 end2 deep3 b4 b5 =
   (ref26_reader_id at1 end2 b4 b5).bind fun (q6 : (List Int) × Int × (List Int) × Int) =>
   let tr7 : List Int := q6.1;
   let tr8 : Int := q6.2.1;
   let tr9 : List Int := q6.2.2.1;
   let tr10 : Int := q6.2.2.2;
   (if (!decide (tr8 = 0)) = true then
    some ([], [], [], [], at1, tr8, tr9, tr10)
    else
    ((if (decide (tr10 = 400)) = true then
      some true
      else
      some (decide (deep3 > 8))) : Option (Bool)).bind (fun (v11 : Bool) =>
     (if v11 = true then
      some ([], [], [], [], at1, 4, tr9, tr10)
      else
      let t12 : Int := IntKind.i64.wrap (tr10 + 1);
      let t13 : Int := IntKind.i64.wrap (end2 - at1);
      (if (decide (t13 < 8)) = true then
       let t14 : Int := IntKind.i64.wrap (at1 + 4);
       some ([], [], [], [], t14, 6, tr9, t12)
       else
       (loop (ref26_reader_chunk_loop11 at1 tr9) (0, 4)).bind (fun (n23 : Int) =>
        let t24 : Int := IntKind.i64.wrap (end2 - at1);
        let t25 : Int := IntKind.i64.wrap (t24 - 8);
        (if (decide (n23 > t25)) = true then
         let t26 : Int := IntKind.i64.wrap (at1 + 4);
         some ([], [], [], [], t26, 6, tr9, t12)
         else
         let t27 : Int := IntKind.i64.wrap (at1 + 8);
         let t28 : Int := IntKind.i64.wrap (at1 + 8);
         let t29 : Int := IntKind.i64.wrap (t28 + n23);
         ((if (decide (tr7 = [70, 79, 82, 77])) = true then
           (ref26_reader_id t27 t29 tr9 t12).bind fun (q30 : (List Int) × Int × (List Int) × Int) =>
           let tr31 : List Int := q30.1;
           let tr32 : Int := q30.2.1;
           let tr33 : List Int := q30.2.2.1;
           let tr34 : Int := q30.2.2.2;
           ((if (decide (tr32 = 0)) = true then
             some (decide (tr31 = [70, 79, 82, 77]))
             else
             some false) : Option (Bool)).bind (fun (v35 : Bool) =>
            ((if v35 = true then
              some 3
              else
              some tr32) : Option (Int)).bind (fun (e36 : Int) =>
             (if (!decide (e36 = 0)) = true then
              some (Sum.inr (t27, e36, tr33, tr34, [], [], [], [], tr7, tr31, [], []))
              else
              let t37 : Int := IntKind.i64.wrap (t27 + 4);
              let t38 : Int := IntKind.i64.wrap (deep3 + 1);
              (ref26_reader_list t37 t29 t38 tr33 tr34).bind fun (q39 : (List Chunk) × Int × Int × (List Int) × Int) =>
              let tr40 : List Chunk := q39.1;
              let tr41 : Int := q39.2.1;
              let tr42 : Int := q39.2.2.1;
              let tr43 : List Int := q39.2.2.2.1;
              let tr44 : Int := q39.2.2.2.2;
              (if (!decide (tr42 = 0)) = true then
               some (Sum.inr (tr41, tr42, tr43, tr44, [], [], [], [], tr7, tr31, [], tr40))
               else
               some (Sum.inl (tr43, tr44, [], [], [], [], tr7, tr31, tr40, []))))))
           else
           (if 0 ≤ t29 ∧ t29 ≤ ((tr9.length : Nat) : Int) then
            (if 0 ≤ t27 ∧ t27 ≤ t29 then
             let t45 : List Int := cutL tr9 t27.toNat t29.toNat;
             (if (([] : List Int).length + t45.length) * 1 ≤ 140737488355328 then
              let t46 : List Int := ([] : List Int) ++ t45;
              some (Sum.inl (tr9, t12, [], [], [], [], tr7, [], [], t46))
              else
              none)
             else
             none)
            else
            none)) : Option (((List Int) × Int × (List Int) × (List Int) × (List Int) × (List Chunk) × (List Int) × (List Int) × (List Chunk) × (List Int)) ⊕ (Int × Int × (List Int) × Int × (List Int) × (List Int) × (List Int) × (List Chunk) × (List Int) × (List Int) × (List Int) × (List Chunk)))).bind (fun (o71 : ((List Int) × Int × (List Int) × (List Int) × (List Int) × (List Chunk) × (List Int) × (List Int) × (List Chunk) × (List Int)) ⊕ (Int × Int × (List Int) × Int × (List Int) × (List Int) × (List Int) × (List Chunk) × (List Int) × (List Int) × (List Int) × (List Chunk))) =>
          (match o71 with
           | Sum.inl p47 =>
           let b48 : List Int := p47.1;
           let b49 : Int := p47.2.1;
           let b50 : List Int := p47.2.2.1;
           let b51 : List Int := p47.2.2.2.1;
           let b52 : List Int := p47.2.2.2.2.1;
           let b53 : List Chunk := p47.2.2.2.2.2.1;
           let b54 : List Int := p47.2.2.2.2.2.2.1;
           let b55 : List Int := p47.2.2.2.2.2.2.2.1;
           let b56 : List Chunk := p47.2.2.2.2.2.2.2.2.1;
           let b57 : List Int := p47.2.2.2.2.2.2.2.2.2;
           let t72 : Int := n23.tmod 2;
           (if (decide (t72 = 0)) = true then
            some (b54, b55, b57, b56, t29, 0, b48, b49)
            else
            (if (decide (t29 = end2)) = true then
             some ([], [], [], [], t29, 6, b48, b49)
             else
             (if 0 ≤ t29 ∧ t29 < (b48.length : Int) then
              (if (!decide (rd b48 t29 = 0)) = true then
               some ([], [], [], [], t29, 3, b48, b49)
               else
               let t73 : Int := IntKind.i64.wrap (t29 + 1);
               some (b54, b55, b57, b56, t73, 0, b48, b49))
              else
              none)))
           | Sum.inr p58 =>
           let v59 : Int := p58.1;
           let v60 : Int := p58.2.1;
           let b61 : List Int := p58.2.2.1;
           let b62 : Int := p58.2.2.2.1;
           let b63 : List Int := p58.2.2.2.2.1;
           let b64 : List Int := p58.2.2.2.2.2.1;
           let b65 : List Int := p58.2.2.2.2.2.2.1;
           let b66 : List Chunk := p58.2.2.2.2.2.2.2.1;
           let b67 : List Int := p58.2.2.2.2.2.2.2.2.1;
           let b68 : List Int := p58.2.2.2.2.2.2.2.2.2.1;
           let b69 : List Int := p58.2.2.2.2.2.2.2.2.2.2.1;
           let b70 : List Chunk := p58.2.2.2.2.2.2.2.2.2.2.2;
           some (b63, b64, b65, b66, v59, v60, b61, b62))))))))) := (call_eq ..).trans (by kernel_rfl)

theorem bitmap_blank_eq (w1 : Int) (h2 : Int) : bitmap_blank w1 h2 =
   (bitmap_fits w1 h2).bind fun (q3 : Bool) =>
   (if (!q3) = true then
    some (0, 0, 4, [])
    else
    let t4 : Int := IntKind.i64.wrap (w1 * h2);
    (if 0 ≤ t4 ∧ t4 ≤ t4 ∧ ((1 : Nat) : Int) * t4 ≤ 281474976710656 then
     let t5 : List Int := List.replicate t4.toNat 0;
     some (w1, h2, 0, t5)
     else
     none)) := (call_eq ..).trans (by kernel_rfl)

noncomputable def bits_Size_loop5 (s6 : Int × (List Int)) : Option ((Int × (List Int)) ⊕ ((List Int))) :=
   let n7 : Int := s6.1;
   let out8 : List Int := s6.2;
   (if (decide (n7 > 0)) = true then
    let t9 : Int := n7.tmod 128;
    let t10 : Int := IntKind.u8.wrap t9;
    let t11 : Int := IntKind.u8.wrap (t10 + 128);
    (if (([t11] : List Int).length + out8.length) * 1 ≤ 140737488355328 then
     let t12 : List Int := ([t11] : List Int) ++ out8;
     let t13 : Int := IntKind.i64.wrap (n7.tdiv 128);
     some (Sum.inl (t13, t12))
     else
     none)
    else
    some (Sum.inr out8))
theorem bits_Size_eq (n1 : Int) : bits_Size n1 =
   ((if (decide (n1 < 0)) = true then
     some true
     else
     some (decide (n1 > 2147483647))) : Option (Bool)).bind (fun (v2 : Bool) =>
    (if v2 = true then
     some ([], 2)
     else
     let t3 : Int := n1.tmod 128;
     let t4 : Int := IntKind.u8.wrap t3;
     let t5 : Int := IntKind.i64.wrap (n1.tdiv 128);
     (loop (bits_Size_loop5) (t5, [t4])).bind (fun (out14 : (List Int)) =>
      some (out14, 0)))) := (call_eq ..).trans (by kernel_rfl)

noncomputable def ref01_Size_loop5 (s6 : Int × (List Int)) : Option ((Int × (List Int)) ⊕ ((List Int))) :=
   let n7 : Int := s6.1;
   let out8 : List Int := s6.2;
   (if (decide (n7 > 0)) = true then
    let t9 : Int := n7.tmod 128;
    let t10 : Int := IntKind.i64.wrap (128 + t9);
    let t11 : Int := IntKind.u8.wrap t10;
    (if (([t11] : List Int).length + out8.length) * 1 ≤ 140737488355328 then
     let t12 : List Int := ([t11] : List Int) ++ out8;
     let t13 : Int := IntKind.i64.wrap (n7.tdiv 128);
     some (Sum.inl (t13, t12))
     else
     none)
    else
    some (Sum.inr out8))
theorem ref01_Size_eq (n1 : Int) : ref01_Size n1 =
   ((if (decide (n1 < 0)) = true then
     some true
     else
     some (decide (n1 > 2147483647))) : Option (Bool)).bind (fun (v2 : Bool) =>
    (if v2 = true then
     some ([], 2)
     else
     let t3 : Int := n1.tmod 128;
     let t4 : Int := IntKind.u8.wrap t3;
     let t5 : Int := IntKind.i64.wrap (n1.tdiv 128);
     (loop (ref01_Size_loop5) (t5, [t4])).bind (fun (out14 : (List Int)) =>
      some (out14, 0)))) := (call_eq ..).trans (by kernel_rfl)

noncomputable def chunk_looks_right_loop2 (l1 : List Chunk) (depth2 : Int) (s4 : Int × Int) : Option ((Int × Int) ⊕ ((Int) ⊕ (Bool × Int))) :=
   let v5 : Int := s4.1;
   let b6 : Int := s4.2;
   (if (decide (v5 < ((l1.length : Nat) : Int))) = true then
    (if 0 ≤ v5 then
     (l1[v5.toNat]?).bind fun e7 =>
     let t8 : Int := IntKind.i64.wrap (b6 + 1);
     ((if (decide (t8 > 400)) = true then
       some true
       else
       (if (decide (depth2 > 8)) = true then
        some true
        else
        (chunk_isId e7.id).bind fun (q9 : Bool) =>
        some (!q9))) : Option (Bool)).bind (fun (v10 : Bool) =>
      (if v10 = true then
       some (Sum.inr (Sum.inr (false, t8)))
       else
       (if (decide (e7.id = [70, 79, 82, 77])) = true then
        (chunk_isKind e7.kind).bind fun (q11 : Bool) =>
        (if (!q11) = true then
         some (Sum.inr (Sum.inr (false, t8)))
         else
         (if (decide (((e7.data.length : Nat) : Int) > 0)) = true then
          some (Sum.inr (Sum.inr (false, t8)))
          else
          let t12 : Int := IntKind.i64.wrap (depth2 + 1);
          (chunk_looks_right e7.kids t12 t8).bind fun (q13 : Bool × Int) =>
          let tr14 : Bool := q13.1;
          let tr15 : Int := q13.2;
          (if (!tr14) = true then
           some (Sum.inr (Sum.inr (false, tr15)))
           else
           let t16 : Int := IntKind.i64.wrap (v5 + 1);
           some (Sum.inl (t16, tr15)))))
        else
        (if (!decide (e7.kind = [])) = true then
         some (Sum.inr (Sum.inr (false, t8)))
         else
         (if (decide (((e7.kids.length : Nat) : Int) > 0)) = true then
          some (Sum.inr (Sum.inr (false, t8)))
          else
          let t17 : Int := IntKind.i64.wrap (v5 + 1);
          some (Sum.inl (t17, t8)))))))
     else
     none)
    else
    some (Sum.inr (Sum.inl b6)))
theorem chunk_looks_right_eq (l1 : List Chunk) (depth2 : Int) (b3 : Int) : chunk_looks_right l1 depth2 b3 =
   (loop (chunk_looks_right_loop2 l1 depth2) (0, b3)).bind (fun (o22 : (Int) ⊕ (Bool × Int)) =>
    (match o22 with
     | Sum.inl b18 =>
     some (true, b18)
     | Sum.inr p19 =>
     let v20 : Bool := p19.1;
     let b21 : Int := p19.2;
     some (v20, b21))) := (call_eq ..).trans (by kernel_rfl)

noncomputable def chunk_length_loop5 (c4 : List Chunk) (s5 : Int × Int) : Option ((Int × Int) ⊕ (Int)) :=
   let n6 : Int := s5.1;
   let v7 : Int := s5.2;
   (if (decide (v7 < ((c4.length : Nat) : Int))) = true then
    (if 0 ≤ v7 then
     (c4[v7.toNat]?).bind fun e8 =>
     (chunk_size e8.id e8.kind e8.data e8.kids).bind fun (q9 : Int) =>
     let t10 : Int := IntKind.i64.wrap (n6 + q9);
     let t11 : Int := IntKind.i64.wrap (v7 + 1);
     some (Sum.inl (t10, t11))
     else
     none)
    else
    some (Sum.inr n6))
theorem chunk_length_eq (c1 : List Int) (c2 : List Int) (c3 : List Int) (c4 : List Chunk) : chunk_length c1 c2 c3 c4 =
   (if (!decide (c1 = [70, 79, 82, 77])) = true then
    some ((c3.length : Nat) : Int)
    else
    (loop (chunk_length_loop5 c4) (4, 0)).bind (fun (n12 : Int) =>
     some n12)) := (call_eq ..).trans (by kernel_rfl)

noncomputable def ref26_single_loop8 (c4 : List Chunk) (v9 : Int) : Option ((Int) ⊕ ((Unit) ⊕ (Bool))) :=
   (if (decide (v9 < ((c4.length : Nat) : Int))) = true then
    (if 0 ≤ v9 then
     (c4[v9.toNat]?).bind fun e10 =>
     (ref26_single e10.id e10.kind e10.data e10.kids).bind fun (q11 : Bool) =>
     (if (!q11) = true then
      some (Sum.inr (Sum.inr false))
      else
      let t12 : Int := IntKind.i64.wrap (v9 + 1);
      some (Sum.inl t12))
     else
     none)
    else
    some (Sum.inr (Sum.inl ())))
theorem ref26_single_eq (c1 : List Int) (c2 : List Int) (c3 : List Int) (c4 : List Chunk) : ref26_single c1 c2 c3 c4 =
   (ref26_IsId c1).bind fun (q5 : Bool) =>
   (if (!q5) = true then
    some false
    else
    (if (!decide (c1 = [70, 79, 82, 77])) = true then
     ((if (decide (c2 = [])) = true then
       some (decide (((c4.length : Nat) : Int) = 0))
       else
       some false) : Option (Bool)).bind (fun (v6 : Bool) =>
      some v6)
     else
     ((ref26_IsId c2).bind fun (q7 : Bool) =>
      (if (!q7) = true then
       some true
       else
       (if (decide (c2 = [70, 79, 82, 77])) = true then
        some true
        else
        some (decide (((c3.length : Nat) : Int) > 0)))) : Option (Bool)).bind (fun (v8 : Bool) =>
      (if v8 = true then
       some false
       else
       (loop (ref26_single_loop8 c4) 0).bind (fun (o15 : (Unit) ⊕ (Bool)) =>
        (match o15 with
         | Sum.inl p13 =>
         some true
         | Sum.inr v14 =>
         some v14)))))) := (call_eq ..).trans (by kernel_rfl)

noncomputable def ref26_count_loop2 (l1 : List Chunk) (s2 : Int × Int × Int) : Option ((Int × Int × Int) ⊕ (Int × Int)) :=
   let all3 : Int := s2.1;
   let deep4 : Int := s2.2.1;
   let v5 : Int := s2.2.2;
   (if (decide (v5 < ((l1.length : Nat) : Int))) = true then
    (if 0 ≤ v5 then
     (l1[v5.toNat]?).bind fun e6 =>
     (ref26_count e6.kids).bind fun (q7 : Int × Int) =>
     let tr8 : Int := q7.1;
     let tr9 : Int := q7.2;
     let t10 : Int := IntKind.i64.wrap (tr8 + 1);
     let t11 : Int := IntKind.i64.wrap (all3 + t10);
     let t12 : Int := IntKind.i64.wrap (tr9 + 1);
     let t13 : Int := imax deep4 t12;
     let t14 : Int := IntKind.i64.wrap (v5 + 1);
     some (Sum.inl (t11, t13, t14))
     else
     none)
    else
    some (Sum.inr (all3, deep4)))
theorem ref26_count_eq (l1 : List Chunk) : ref26_count l1 =
   (loop (ref26_count_loop2 l1) (0, 0, 0)).bind (fun (p15 : Int × Int) =>
    let all16 : Int := p15.1;
    let deep17 : Int := p15.2;
    some (all16, deep17)) := (call_eq ..).trans (by kernel_rfl)

theorem chunk_Same_1_eq (x1 : List Int) (x2 : List Int) (x3 : List Int) (x4 : List Chunk) (y5 : List Int) (y6 : List Int) (y7 : List Int) (y8 : List Chunk) : chunk_Same_1 x1 x2 x3 x4 y5 y6 y7 y8 =
   (if (decide (x1 = y5)) = true then
    (if (decide (x2 = y6)) = true then
     (bytes_Equal x3 y7).bind fun (q9 : Bool) =>
     (if q9 = true then
      (chunk_Same x4 y8).bind fun (q10 : Bool) =>
      some q10
      else
      some false)
     else
     some false)
    else
    some false) := (call_eq ..).trans (by kernel_rfl)

theorem chunk_Find_1_eq (c1 : List Int) (c2 : List Int) (c3 : List Int) (c4 : List Chunk) (b5 : List Int) : chunk_Find_1 c1 c2 c3 c4 b5 =
   (chunk_name c1 c2 c3 c4).bind fun (q6 : (List Int)) =>
   some (decide (q6 = b5), b5) := (call_eq ..).trans (by kernel_rfl)

noncomputable def chunk_isId_loop4 (s1 : List Int) (v2 : Int) : Option ((Int) ⊕ ((Unit) ⊕ (Bool))) :=
   (if (decide (v2 < 4)) = true then
    (if 0 ≤ v2 ∧ v2 < ((s1).length : Int) then
     let t3 : Int := rd s1 v2;
     (if (decide (t3 < 65)) = true then
      (if (decide (t3 < 48)) = true then
       some (Sum.inr (Sum.inr false))
       else
       (if (decide (t3 > 57)) = true then
        some (Sum.inr (Sum.inr false))
        else
        let t4 : Int := IntKind.i64.wrap (v2 + 1);
        some (Sum.inl t4)))
      else
      (if (decide (t3 > 90)) = true then
       (if (decide (t3 < 48)) = true then
        some (Sum.inr (Sum.inr false))
        else
        (if (decide (t3 > 57)) = true then
         some (Sum.inr (Sum.inr false))
         else
         let t5 : Int := IntKind.i64.wrap (v2 + 1);
         some (Sum.inl t5)))
       else
       let t6 : Int := IntKind.i64.wrap (v2 + 1);
       some (Sum.inl t6)))
     else
     none)
    else
    some (Sum.inr (Sum.inl ())))
theorem chunk_isId_eq (s1 : List Int) : chunk_isId s1 =
   (if (!decide (((s1.length : Nat) : Int) = 4)) = true then
    some false
    else
    (loop (chunk_isId_loop4 s1) 0).bind (fun (o9 : (Unit) ⊕ (Bool)) =>
     (match o9 with
      | Sum.inl p7 =>
      some true
      | Sum.inr v8 =>
      some v8))) := (call_eq ..).trans (by kernel_rfl)

theorem chunk_Replace_1_eq (c1 : List Int) (c2 : List Int) (c3 : List Int) (c4 : List Chunk) (b5 : List Int) : chunk_Replace_1 c1 c2 c3 c4 b5 =
   some (decide (c1 = b5), b5) := (call_eq ..).trans (by kernel_rfl)

theorem chunk_reader_id_eq (at1 : Int) (end2 : Int) (b3 : List Int) (b4 : Int) (b5 : Int) (b6 : Int) : chunk_reader_id at1 end2 b3 b4 b5 b6 =
   let t7 : Int := IntKind.i64.wrap (end2 - at1);
   (chunk_reader_fail (decide (t7 ≥ 4)) 6 at1 b3 b4 b5 b6).bind fun (q8 : Bool × (List Int) × Int × Int × Int) =>
   let tr9 : Bool := q8.1;
   let tr10 : List Int := q8.2.1;
   let tr11 : Int := q8.2.2.1;
   let tr12 : Int := q8.2.2.2.1;
   let tr13 : Int := q8.2.2.2.2;
   (if (!tr9) = true then
    some ([], tr10, tr11, tr12, tr13)
    else
    let t14 : Int := IntKind.i64.wrap (at1 + 4);
    (if 0 ≤ t14 ∧ t14 ≤ ((tr10.length : Nat) : Int) then
     (if 0 ≤ at1 ∧ at1 ≤ t14 then
      let t15 : List Int := cutL tr10 at1.toNat t14.toNat;
      (chunk_isId t15).bind fun (q16 : Bool) =>
      (chunk_reader_fail q16 3 at1 tr10 tr11 tr12 tr13).bind fun (q17 : Bool × (List Int) × Int × Int × Int) =>
      let tr18 : Bool := q17.1;
      let tr19 : List Int := q17.2.1;
      let tr20 : Int := q17.2.2.1;
      let tr21 : Int := q17.2.2.2.1;
      let tr22 : Int := q17.2.2.2.2;
      some (t15, tr19, tr20, tr21, tr22)
      else
      none)
     else
     none)) := (call_eq ..).trans (by kernel_rfl)

theorem chunk_reader_fail_eq (ok1 : Bool) (err2 : Int) (at3 : Int) (b4 : List Int) (b5 : Int) (b6 : Int) (b7 : Int) : chunk_reader_fail ok1 err2 at3 b4 b5 b6 b7 =
   ((if (decide (b6 = 0)) = true then
     some (!ok1)
     else
     some false) : Option (Bool)).bind (fun (v8 : Bool) =>
    (if v8 = true then
     some (decide (err2 = 0), b4, b5, err2, at3)
     else
     some (decide (b6 = 0), b4, b5, b6, b7))) := (call_eq ..).trans (by kernel_rfl)

theorem chunk_reader_id_2_eq (at1 : Int) (end2 : Int) (b3 : List Int) (b4 : Int) (b5 : Int) (b6 : Int) : chunk_reader_id_2 at1 end2 b3 b4 b5 b6 =
   let t7 : Int := IntKind.i64.wrap (end2 - at1);
   (chunk_reader_fail (decide (t7 ≥ 4)) 6 at1 b3 b4 b5 b6).bind fun (q8 : Bool × (List Int) × Int × Int × Int) =>
   let tr9 : Bool := q8.1;
   let tr10 : List Int := q8.2.1;
   let tr11 : Int := q8.2.2.1;
   let tr12 : Int := q8.2.2.2.1;
   let tr13 : Int := q8.2.2.2.2;
   (if (!tr9) = true then
    some ([], tr10, tr11, tr12, tr13)
    else
    let t14 : Int := IntKind.i64.wrap (at1 + 4);
    (if 0 ≤ t14 ∧ t14 ≤ ((tr10.length : Nat) : Int) then
     (if 0 ≤ at1 ∧ at1 ≤ t14 then
      let t15 : List Int := cutL tr10 at1.toNat t14.toNat;
      (chunk_isKind t15).bind fun (q16 : Bool) =>
      (chunk_reader_fail q16 3 at1 tr10 tr11 tr12 tr13).bind fun (q17 : Bool × (List Int) × Int × Int × Int) =>
      let tr18 : Bool := q17.1;
      let tr19 : List Int := q17.2.1;
      let tr20 : Int := q17.2.2.1;
      let tr21 : Int := q17.2.2.2.1;
      let tr22 : Int := q17.2.2.2.2;
      some (t15, tr19, tr20, tr21, tr22)
      else
      none)
     else
     none)) := (call_eq ..).trans (by kernel_rfl)

theorem ref26_reader_id_eq (at1 : Int) (end2 : Int) (b3 : List Int) (b4 : Int) : ref26_reader_id at1 end2 b3 b4 =
   let t5 : Int := IntKind.i64.wrap (end2 - at1);
   (if (decide (t5 < 4)) = true then
    some ([], 6, b3, b4)
    else
    let t6 : Int := IntKind.i64.wrap (at1 + 4);
    (if 0 ≤ t6 ∧ t6 ≤ ((b3.length : Nat) : Int) then
     (if 0 ≤ at1 ∧ at1 ≤ t6 then
      let t7 : List Int := cutL b3 at1.toNat t6.toNat;
      (ref26_IsId t7).bind fun (q8 : Bool) =>
      (if (!q8) = true then
       some ([], 3, b3, b4)
       else
       some (t7, 0, b3, b4))
      else
      none)
     else
     none)) := (call_eq ..).trans (by kernel_rfl)

theorem bitmap_fits_eq (w1 : Int) (h2 : Int) : bitmap_fits w1 h2 =
   (if (decide (w1 ≥ 0)) = true then
    (if (decide (h2 ≥ 0)) = true then
     (if (decide (w1 ≤ 200)) = true then
      (if (decide (h2 ≤ 200)) = true then
       let t3 : Int := IntKind.i64.wrap (w1 * h2);
       some (decide (t3 ≤ 8192))
       else
       some false)
      else
      some false)
     else
     some false)
    else
    some false) := (call_eq ..).trans (by kernel_rfl)

theorem bytes_Equal_eq (a1 : List Int) (b2 : List Int) : bytes_Equal a1 b2 =
   some (decide (a1 = b2)) := (call_eq ..).trans (by kernel_rfl)

theorem chunk_name_eq (c1 : List Int) (c2 : List Int) (c3 : List Int) (c4 : List Chunk) : chunk_name c1 c2 c3 c4 =
   (if (decide (c1 = [70, 79, 82, 77])) = true then
    some c2
    else
    some c1) := (call_eq ..).trans (by kernel_rfl)
end
end Go.Proofs.Ytjabpjkomgakbaa.P
