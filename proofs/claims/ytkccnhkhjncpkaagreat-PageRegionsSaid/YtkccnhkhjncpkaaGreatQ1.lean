/- The equations of functions. Printed by wip/tool/vsym.py. -/
import Derived.Test.YtkccnhkhjncpkaaGreatG
import Derived.Test.YtkccnhkhjncpkaaGreatLib
namespace Go.Proofs.YtkccnhkhjncpkaaGreat.P
open Go Go.Proofs.YtkccnhkhjncpkaaGreat.V
set_option linter.unusedVariables false
set_option linter.unusedSimpArgs false
set_option maxRecDepth 100000
noncomputable section
noncomputable def ref07_Put_loop9 (b7 : Int) (b8 : Int) (b9 : List Int) (skip10 : Int) (skip11 : Int) (skip12 : List Int) (y22 : Int) (x24 : Int) : Option ((Int) ⊕ ((Unit) ⊕ (Int))) :=
   (if (decide (x24 < b7)) = true then
    (ref05_At b7 b8 b9 x24 y22).bind fun (q25 : Int) =>
    (if (decide (q25 = 1)) = true then
     (ref05_At skip10 skip11 skip12 x24 y22).bind fun (q26 : Int) =>
     (if (decide (q26 = 1)) = true then
      some (Sum.inr (Sum.inr 30))
      else
      let t27 : Int := IntKind.i64.wrap (x24 + 1);
      some (Sum.inl t27))
     else
     let t28 : Int := IntKind.i64.wrap (x24 + 1);
     some (Sum.inl t28))
    else
    some (Sum.inr (Sum.inl ())))
noncomputable def ref07_Put_loop9_step (b7 : Int) (b8 : Int) (b9 : List Int) (skip10 : Int) (skip11 : Int) (skip12 : List Int) (y22 : Int) (i29 : Nat) (x30 : Nat) (s31 : Unit) : Option ((Unit) ⊕ ((Unit) ⊕ (Int))) :=
   (ref05_At b7 b8 b9 ((i29 : Nat) : Int) y22).bind fun (q25 : Int) =>
   (if (decide (q25 = 1)) = true then
    (ref05_At skip10 skip11 skip12 ((i29 : Nat) : Int) y22).bind fun (q26 : Int) =>
    (if (decide (q26 = 1)) = true then
     some (Sum.inr (Sum.inr 30))
     else
     some (Sum.inl (())))
    else
    some (Sum.inl (())))
theorem ref07_Put_loop9_overAt (b7 : Int) (b8 : Int) (b9 : List Int) (skip10 : Int) (skip11 : Int) (skip12 : List Int) (y22 : Int) (hl : (List.range (b7).toNat).length ≤ 4611686018427387904) (k : Nat) (s31 : Unit) (hk : k ≤ (List.range (b7).toNat).length) : loop (ref07_Put_loop9 b7 b8 b9 skip10 skip11 skip12 y22) (((k : Nat) : Int) : Int) =
    overL (ref07_Put_loop9_step b7 b8 b9 skip10 skip11 skip12 y22) (fun (s31 : Unit) => some (Sum.inl ())) k ((List.range (b7).toNat).drop k) s31 := by
  refine loop_over (List.range (b7).toNat) (fun n (s : Unit) => (((n : Nat) : Int) : Int)) _ _ (fun s => ?_) (fun i x s h => ?_) k s31 hk
  · have h1 : ¬ (((List.range (b7).toNat).length : Nat) : Int) < b7 := by simp only [List.length_range]; omega
    unfold ref07_Put_loop9; simp only [h1, decide_false, Bool.false_eq_true, if_false, Option.map_some]
  · have hlt := lt_len_of_get h
    rw [List.length_range] at hlt hl
    rw [List.getElem?_range hlt] at h
    cases h
    have h1 : ((i : Nat) : Int) < b7 := by omega
    have h0 : (0 : Int) ≤ ((i : Nat) : Int) := by omega
    have hw : IntKind.i64.wrap (((i : Nat) : Int) + 1) = (((i + 1 : Nat) : Nat) : Int) := w64 (by omega)
    unfold ref07_Put_loop9 ref07_Put_loop9_step
    simp only [h1, h0, hw, decide_true, if_true, and_self, true_and, Int.toNat_natCast, Option.bind_some, Option.map_bind, Function.comp_def, map_ite, map_elim, Option.map_some, Option.map_none]
theorem ref07_Put_loop9_over (b7 : Int) (b8 : Int) (b9 : List Int) (skip10 : Int) (skip11 : Int) (skip12 : List Int) (y22 : Int) (hl : (List.range (b7).toNat).length ≤ 4611686018427387904) (s31 : Unit) : loop (ref07_Put_loop9 b7 b8 b9 skip10 skip11 skip12 y22) (0 : Int) =
    overL (ref07_Put_loop9_step b7 b8 b9 skip10 skip11 skip12 y22) (fun (s31 : Unit) => some (Sum.inl ())) 0 (List.range (b7).toNat) s31 := ref07_Put_loop9_overAt b7 b8 b9 skip10 skip11 skip12 y22 hl 0 s31 (Nat.zero_le _)

noncomputable def ref07_Put_loop6 (b7 : Int) (b8 : Int) (b9 : List Int) (skip10 : Int) (skip11 : Int) (skip12 : List Int) (y22 : Int) : Option ((Int) ⊕ ((Unit) ⊕ (Int))) :=
   ((if (decide (y22 < b8)) = true then
     (if (decide (b7 = skip10)) = true then
      some (decide (b8 = skip11))
      else
      some false)
     else
     some false) : Option (Bool)).bind (fun (v23 : Bool) =>
    (if v23 = true then
     (loop (ref07_Put_loop9 b7 b8 b9 skip10 skip11 skip12 y22) 0).bind (fun (o34 : (Unit) ⊕ (Int)) =>
      (Sum.elim (fun (p32 : Unit) =>
        let t35 : Int := IntKind.i64.wrap (y22 + 1);
        some (Sum.inl t35))
       (fun (v33 : Int) =>
        some (Sum.inr (Sum.inr v33))) o34))
     else
     some (Sum.inr (Sum.inl ()))))
noncomputable def ref07_Put_loop27 (base1 : Int) (o2 : Int) (o3 : Int) (o4 : Int) (o5 : Bool) (o6 : Int) (b7 : Int) (b8 : Int) (b9 : List Int) (skip10 : Int) (skip11 : Int) (skip12 : List Int) (y52 : Int) (s87 : Int × Int × Int × Int × (List Int) × (List Int)) : Option ((Int × Int × Int × Int × (List Int) × (List Int)) ⊕ (Int × Int × Int × (List Int) × (List Int))) :=
   let x88 : Int := s87.1;
   let b89 : Int := s87.2.1;
   let b90 : Int := s87.2.2.1;
   let b91 : Int := s87.2.2.2.1;
   let b92 : List Int := s87.2.2.2.2.1;
   let b93 : List Int := s87.2.2.2.2.2;
   (if (decide (x88 < b7)) = true then
    (ref05_At skip10 skip11 skip12 x88 y52).bind fun (q94 : Int) =>
    (if (decide (q94 = 0)) = true then
     (ref07_context o2 o3 o4 o5 o6 b7 b8 b9 x88 y52).bind fun (q95 : Int) =>
     let t96 : Int := IntKind.i64.wrap (base1 + q95);
     (ref05_At b7 b8 b9 x88 y52).bind fun (q97 : Int) =>
     (ref02_Encoder_Put t96 q97 b89 b90 b91 b92 b93).bind fun (q98 : Int × Int × Int × Int × (List Int) × (List Int)) =>
     let tr99 : Int := q98.1;
     let tr100 : Int := q98.2.1;
     let tr101 : Int := q98.2.2.1;
     let tr102 : Int := q98.2.2.2.1;
     let tr103 : List Int := q98.2.2.2.2.1;
     let tr104 : List Int := q98.2.2.2.2.2;
     let t105 : Int := IntKind.i64.wrap (x88 + 1);
     some (Sum.inl (t105, tr100, tr101, tr102, tr103, tr104))
     else
     let t106 : Int := IntKind.i64.wrap (x88 + 1);
     some (Sum.inl (t106, b89, b90, b91, b92, b93)))
    else
    some (Sum.inr (b89, b90, b91, b92, b93)))
noncomputable def ref07_Put_loop27_step (base1 : Int) (o2 : Int) (o3 : Int) (o4 : Int) (o5 : Bool) (o6 : Int) (b7 : Int) (b8 : Int) (b9 : List Int) (skip10 : Int) (skip11 : Int) (skip12 : List Int) (y52 : Int) (i107 : Nat) (x108 : Nat) (s109 : Int × Int × Int × (List Int) × (List Int)) : Option ((Int × Int × Int × (List Int) × (List Int)) ⊕ (Int × Int × Int × (List Int) × (List Int))) :=
   let b110 : Int := s109.1;
   let b111 : Int := s109.2.1;
   let b112 : Int := s109.2.2.1;
   let b113 : List Int := s109.2.2.2.1;
   let b114 : List Int := s109.2.2.2.2;
   (ref05_At skip10 skip11 skip12 ((i107 : Nat) : Int) y52).bind fun (q94 : Int) =>
   (if (decide (q94 = 0)) = true then
    (ref07_context o2 o3 o4 o5 o6 b7 b8 b9 ((i107 : Nat) : Int) y52).bind fun (q95 : Int) =>
    let t96 : Int := IntKind.i64.wrap (base1 + q95);
    (ref05_At b7 b8 b9 ((i107 : Nat) : Int) y52).bind fun (q97 : Int) =>
    (ref02_Encoder_Put t96 q97 b110 b111 b112 b113 b114).bind fun (q98 : Int × Int × Int × Int × (List Int) × (List Int)) =>
    let tr99 : Int := q98.1;
    let tr100 : Int := q98.2.1;
    let tr101 : Int := q98.2.2.1;
    let tr102 : Int := q98.2.2.2.1;
    let tr103 : List Int := q98.2.2.2.2.1;
    let tr104 : List Int := q98.2.2.2.2.2;
    some (Sum.inl ((tr100, tr101, tr102, tr103, tr104)))
    else
    some (Sum.inl ((b110, b111, b112, b113, b114))))
theorem ref07_Put_loop27_overAt (base1 : Int) (o2 : Int) (o3 : Int) (o4 : Int) (o5 : Bool) (o6 : Int) (b7 : Int) (b8 : Int) (b9 : List Int) (skip10 : Int) (skip11 : Int) (skip12 : List Int) (y52 : Int) (hl : (List.range (b7).toNat).length ≤ 4611686018427387904) (k : Nat) (s109 : Int × Int × Int × (List Int) × (List Int)) (hk : k ≤ (List.range (b7).toNat).length) : loop (ref07_Put_loop27 base1 o2 o3 o4 o5 o6 b7 b8 b9 skip10 skip11 skip12 y52) ((((k : Nat) : Int), s109.1, s109.2.1, s109.2.2.1, s109.2.2.2.1, s109.2.2.2.2) : Int × Int × Int × Int × (List Int) × (List Int)) =
    overL (ref07_Put_loop27_step base1 o2 o3 o4 o5 o6 b7 b8 b9 skip10 skip11 skip12 y52) (fun (s109 : Int × Int × Int × (List Int) × (List Int)) => let b110 : Int := s109.1; let b111 : Int := s109.2.1; let b112 : Int := s109.2.2.1; let b113 : List Int := s109.2.2.2.1; let b114 : List Int := s109.2.2.2.2; some (b110, b111, b112, b113, b114)) k ((List.range (b7).toNat).drop k) s109 := by
  refine loop_over (List.range (b7).toNat) (fun n (s : Int × Int × Int × (List Int) × (List Int)) => ((((n : Nat) : Int), s.1, s.2.1, s.2.2.1, s.2.2.2.1, s.2.2.2.2) : Int × Int × Int × Int × (List Int) × (List Int))) _ _ (fun s => ?_) (fun i x s h => ?_) k s109 hk
  · have h1 : ¬ (((List.range (b7).toNat).length : Nat) : Int) < b7 := by simp only [List.length_range]; omega
    unfold ref07_Put_loop27; simp only [h1, decide_false, Bool.false_eq_true, if_false, Option.map_some]
  · have hlt := lt_len_of_get h
    rw [List.length_range] at hlt hl
    rw [List.getElem?_range hlt] at h
    cases h
    have h1 : ((i : Nat) : Int) < b7 := by omega
    have h0 : (0 : Int) ≤ ((i : Nat) : Int) := by omega
    have hw : IntKind.i64.wrap (((i : Nat) : Int) + 1) = (((i + 1 : Nat) : Nat) : Int) := w64 (by omega)
    unfold ref07_Put_loop27 ref07_Put_loop27_step
    simp only [h1, h0, hw, decide_true, if_true, and_self, true_and, Int.toNat_natCast, Option.bind_some, Option.map_bind, Function.comp_def, map_ite, map_elim, Option.map_some, Option.map_none]
theorem ref07_Put_loop27_over (base1 : Int) (o2 : Int) (o3 : Int) (o4 : Int) (o5 : Bool) (o6 : Int) (b7 : Int) (b8 : Int) (b9 : List Int) (skip10 : Int) (skip11 : Int) (skip12 : List Int) (y52 : Int) (hl : (List.range (b7).toNat).length ≤ 4611686018427387904) (s109 : Int × Int × Int × (List Int) × (List Int)) : loop (ref07_Put_loop27 base1 o2 o3 o4 o5 o6 b7 b8 b9 skip10 skip11 skip12 y52) ((0, s109.1, s109.2.1, s109.2.2.1, s109.2.2.2.1, s109.2.2.2.2) : Int × Int × Int × Int × (List Int) × (List Int)) =
    overL (ref07_Put_loop27_step base1 o2 o3 o4 o5 o6 b7 b8 b9 skip10 skip11 skip12 y52) (fun (s109 : Int × Int × Int × (List Int) × (List Int)) => let b110 : Int := s109.1; let b111 : Int := s109.2.1; let b112 : Int := s109.2.2.1; let b113 : List Int := s109.2.2.2.1; let b114 : List Int := s109.2.2.2.2; some (b110, b111, b112, b113, b114)) 0 (List.range (b7).toNat) s109 := ref07_Put_loop27_overAt base1 o2 o3 o4 o5 o6 b7 b8 b9 skip10 skip11 skip12 y52 hl 0 s109 (Nat.zero_le _)

noncomputable def ref07_Put_loop18 (base1 : Int) (o2 : Int) (o3 : Int) (o4 : Int) (o5 : Bool) (o6 : Int) (b7 : Int) (b8 : Int) (b9 : List Int) (skip10 : Int) (skip11 : Int) (skip12 : List Int) (tr49 : Int) (s51 : Int × Int × Int × Int × (List Int) × (List Int)) : Option ((Int × Int × Int × Int × (List Int) × (List Int)) ⊕ (Int × Int × Int × (List Int) × (List Int))) :=
   let y52 : Int := s51.1;
   let b53 : Int := s51.2.1;
   let b54 : Int := s51.2.2.1;
   let b55 : Int := s51.2.2.2.1;
   let b56 : List Int := s51.2.2.2.2.1;
   let b57 : List Int := s51.2.2.2.2.2;
   (if (decide (y52 < b8)) = true then
    ((if o5 = true then
      (ref07_typical b7 b8 b9 skip10 skip11 skip12 y52).bind fun (q58 : (List Int)) =>
      let t59 : Int := IntKind.i64.wrap (y52 * b7);
      let t60 : Int := IntKind.i64.wrap (y52 + 1);
      let t61 : Int := IntKind.i64.wrap (t60 * b7);
      (if 0 ≤ t61 ∧ t61 ≤ ((b9.length : Nat) : Int) then
       (if 0 ≤ t59 ∧ t59 ≤ t61 then
        let t62 : List Int := cutL b9 t59.toNat t61.toNat;
        ((if (decide (q58 = t62)) = true then
          some 1
          else
          some 0) : Option (Int)).bind (fun (same63 : Int) =>
         let t64 : Int := IntKind.i64.wrap (base1 + tr49);
         let t65 : Int := IntKind.i64.wrap (t64 - 1);
         (ref02_Encoder_Put t65 same63 b53 b54 b55 b56 b57).bind fun (q66 : Int × Int × Int × Int × (List Int) × (List Int)) =>
         let tr67 : Int := q66.1;
         let tr68 : Int := q66.2.1;
         let tr69 : Int := q66.2.2.1;
         let tr70 : Int := q66.2.2.2.1;
         let tr71 : List Int := q66.2.2.2.2.1;
         let tr72 : List Int := q66.2.2.2.2.2;
         (if (decide (same63 = 1)) = true then
          some (Sum.inr (tr68, tr69, tr70, tr71, tr72))
          else
          some (Sum.inl (tr68, tr69, tr70, tr71, tr72))))
        else
        none)
       else
       none)
      else
      some (Sum.inl (b53, b54, b55, b56, b57))) : Option ((Int × Int × Int × (List Int) × (List Int)) ⊕ (Int × Int × Int × (List Int) × (List Int)))).bind (fun (o86 : (Int × Int × Int × (List Int) × (List Int)) ⊕ (Int × Int × Int × (List Int) × (List Int))) =>
     (Sum.elim (fun (p73 : Int × Int × Int × (List Int) × (List Int)) =>
       let b74 : Int := p73.1;
       let b75 : Int := p73.2.1;
       let b76 : Int := p73.2.2.1;
       let b77 : List Int := p73.2.2.2.1;
       let b78 : List Int := p73.2.2.2.2;
       (loop (ref07_Put_loop27 base1 o2 o3 o4 o5 o6 b7 b8 b9 skip10 skip11 skip12 y52) (0, b74, b75, b76, b77, b78)).bind (fun (p115 : Int × Int × Int × (List Int) × (List Int)) =>
        let b116 : Int := p115.1;
        let b117 : Int := p115.2.1;
        let b118 : Int := p115.2.2.1;
        let b119 : List Int := p115.2.2.2.1;
        let b120 : List Int := p115.2.2.2.2;
        let t121 : Int := IntKind.i64.wrap (y52 + 1);
        some (Sum.inl (t121, b116, b117, b118, b119, b120))))
      (fun (p79 : Int × Int × Int × (List Int) × (List Int)) =>
       let b80 : Int := p79.1;
       let b81 : Int := p79.2.1;
       let b82 : Int := p79.2.2.1;
       let b83 : List Int := p79.2.2.2.1;
       let b84 : List Int := p79.2.2.2.2;
       let t85 : Int := IntKind.i64.wrap (y52 + 1);
       some (Sum.inl (t85, b80, b81, b82, b83, b84))) o86))
    else
    some (Sum.inr (b53, b54, b55, b56, b57)))
noncomputable def ref07_Put_loop18_step (base1 : Int) (o2 : Int) (o3 : Int) (o4 : Int) (o5 : Bool) (o6 : Int) (b7 : Int) (b8 : Int) (b9 : List Int) (skip10 : Int) (skip11 : Int) (skip12 : List Int) (tr49 : Int) (i122 : Nat) (x123 : Nat) (s124 : Int × Int × Int × (List Int) × (List Int)) : Option ((Int × Int × Int × (List Int) × (List Int)) ⊕ (Int × Int × Int × (List Int) × (List Int))) :=
   let b125 : Int := s124.1;
   let b126 : Int := s124.2.1;
   let b127 : Int := s124.2.2.1;
   let b128 : List Int := s124.2.2.2.1;
   let b129 : List Int := s124.2.2.2.2;
   ((if o5 = true then
     (ref07_typical b7 b8 b9 skip10 skip11 skip12 ((i122 : Nat) : Int)).bind fun (q58 : (List Int)) =>
     let t59 : Int := IntKind.i64.wrap (((i122 : Nat) : Int) * b7);
     let t60 : Int := IntKind.i64.wrap (((i122 : Nat) : Int) + 1);
     let t61 : Int := IntKind.i64.wrap (t60 * b7);
     (if 0 ≤ t61 ∧ t61 ≤ ((b9.length : Nat) : Int) then
      (if 0 ≤ t59 ∧ t59 ≤ t61 then
       let t62 : List Int := cutL b9 t59.toNat t61.toNat;
       ((if (decide (q58 = t62)) = true then
         some 1
         else
         some 0) : Option (Int)).bind (fun (same63 : Int) =>
        let t64 : Int := IntKind.i64.wrap (base1 + tr49);
        let t65 : Int := IntKind.i64.wrap (t64 - 1);
        (ref02_Encoder_Put t65 same63 b125 b126 b127 b128 b129).bind fun (q66 : Int × Int × Int × Int × (List Int) × (List Int)) =>
        let tr67 : Int := q66.1;
        let tr68 : Int := q66.2.1;
        let tr69 : Int := q66.2.2.1;
        let tr70 : Int := q66.2.2.2.1;
        let tr71 : List Int := q66.2.2.2.2.1;
        let tr72 : List Int := q66.2.2.2.2.2;
        (if (decide (same63 = 1)) = true then
         some (Sum.inr (tr68, tr69, tr70, tr71, tr72))
         else
         some (Sum.inl (tr68, tr69, tr70, tr71, tr72))))
       else
       none)
      else
      none)
     else
     some (Sum.inl (b125, b126, b127, b128, b129))) : Option ((Int × Int × Int × (List Int) × (List Int)) ⊕ (Int × Int × Int × (List Int) × (List Int)))).bind (fun (o86 : (Int × Int × Int × (List Int) × (List Int)) ⊕ (Int × Int × Int × (List Int) × (List Int))) =>
    (Sum.elim (fun (p73 : Int × Int × Int × (List Int) × (List Int)) =>
      let b74 : Int := p73.1;
      let b75 : Int := p73.2.1;
      let b76 : Int := p73.2.2.1;
      let b77 : List Int := p73.2.2.2.1;
      let b78 : List Int := p73.2.2.2.2;
      (loop (ref07_Put_loop27 base1 o2 o3 o4 o5 o6 b7 b8 b9 skip10 skip11 skip12 ((i122 : Nat) : Int)) (0, b74, b75, b76, b77, b78)).bind (fun (p115 : Int × Int × Int × (List Int) × (List Int)) =>
       let b116 : Int := p115.1;
       let b117 : Int := p115.2.1;
       let b118 : Int := p115.2.2.1;
       let b119 : List Int := p115.2.2.2.1;
       let b120 : List Int := p115.2.2.2.2;
       some (Sum.inl ((b116, b117, b118, b119, b120)))))
     (fun (p79 : Int × Int × Int × (List Int) × (List Int)) =>
      let b80 : Int := p79.1;
      let b81 : Int := p79.2.1;
      let b82 : Int := p79.2.2.1;
      let b83 : List Int := p79.2.2.2.1;
      let b84 : List Int := p79.2.2.2.2;
      some (Sum.inl ((b80, b81, b82, b83, b84)))) o86))
theorem ref07_Put_loop18_overAt (base1 : Int) (o2 : Int) (o3 : Int) (o4 : Int) (o5 : Bool) (o6 : Int) (b7 : Int) (b8 : Int) (b9 : List Int) (skip10 : Int) (skip11 : Int) (skip12 : List Int) (tr49 : Int) (hl : (List.range (b8).toNat).length ≤ 4611686018427387904) (k : Nat) (s124 : Int × Int × Int × (List Int) × (List Int)) (hk : k ≤ (List.range (b8).toNat).length) : loop (ref07_Put_loop18 base1 o2 o3 o4 o5 o6 b7 b8 b9 skip10 skip11 skip12 tr49) ((((k : Nat) : Int), s124.1, s124.2.1, s124.2.2.1, s124.2.2.2.1, s124.2.2.2.2) : Int × Int × Int × Int × (List Int) × (List Int)) =
    overL (ref07_Put_loop18_step base1 o2 o3 o4 o5 o6 b7 b8 b9 skip10 skip11 skip12 tr49) (fun (s124 : Int × Int × Int × (List Int) × (List Int)) => let b125 : Int := s124.1; let b126 : Int := s124.2.1; let b127 : Int := s124.2.2.1; let b128 : List Int := s124.2.2.2.1; let b129 : List Int := s124.2.2.2.2; some (b125, b126, b127, b128, b129)) k ((List.range (b8).toNat).drop k) s124 := by
  refine loop_over (List.range (b8).toNat) (fun n (s : Int × Int × Int × (List Int) × (List Int)) => ((((n : Nat) : Int), s.1, s.2.1, s.2.2.1, s.2.2.2.1, s.2.2.2.2) : Int × Int × Int × Int × (List Int) × (List Int))) _ _ (fun s => ?_) (fun i x s h => ?_) k s124 hk
  · have h1 : ¬ (((List.range (b8).toNat).length : Nat) : Int) < b8 := by simp only [List.length_range]; omega
    unfold ref07_Put_loop18; simp only [h1, decide_false, Bool.false_eq_true, if_false, Option.map_some]
  · have hlt := lt_len_of_get h
    rw [List.length_range] at hlt hl
    rw [List.getElem?_range hlt] at h
    cases h
    have h1 : ((i : Nat) : Int) < b8 := by omega
    have h0 : (0 : Int) ≤ ((i : Nat) : Int) := by omega
    have hw : IntKind.i64.wrap (((i : Nat) : Int) + 1) = (((i + 1 : Nat) : Nat) : Int) := w64 (by omega)
    unfold ref07_Put_loop18 ref07_Put_loop18_step
    simp only [h1, h0, hw, decide_true, if_true, and_self, true_and, Int.toNat_natCast, Option.bind_some, Option.map_bind, Function.comp_def, map_ite, map_elim, Option.map_some, Option.map_none]
theorem ref07_Put_loop18_over (base1 : Int) (o2 : Int) (o3 : Int) (o4 : Int) (o5 : Bool) (o6 : Int) (b7 : Int) (b8 : Int) (b9 : List Int) (skip10 : Int) (skip11 : Int) (skip12 : List Int) (tr49 : Int) (hl : (List.range (b8).toNat).length ≤ 4611686018427387904) (s124 : Int × Int × Int × (List Int) × (List Int)) : loop (ref07_Put_loop18 base1 o2 o3 o4 o5 o6 b7 b8 b9 skip10 skip11 skip12 tr49) ((0, s124.1, s124.2.1, s124.2.2.1, s124.2.2.2.1, s124.2.2.2.2) : Int × Int × Int × Int × (List Int) × (List Int)) =
    overL (ref07_Put_loop18_step base1 o2 o3 o4 o5 o6 b7 b8 b9 skip10 skip11 skip12 tr49) (fun (s124 : Int × Int × Int × (List Int) × (List Int)) => let b125 : Int := s124.1; let b126 : Int := s124.2.1; let b127 : Int := s124.2.2.1; let b128 : List Int := s124.2.2.2.1; let b129 : List Int := s124.2.2.2.2; some (b125, b126, b127, b128, b129)) 0 (List.range (b8).toNat) s124 := ref07_Put_loop18_overAt base1 o2 o3 o4 o5 o6 b7 b8 b9 skip10 skip11 skip12 tr49 hl 0 s124 (Nat.zero_le _)

theorem ref07_Put_eq (base1 : Int) (o2 : Int) (o3 : Int) (o4 : Int) (o5 : Bool) (o6 : Int) (b7 : Int) (b8 : Int) (b9 : List Int) (skip10 : Int) (skip11 : Int) (skip12 : List Int) (b13 : Int) (b14 : Int) (b15 : Int) (b16 : List Int) (b17 : List Int) : ref07_Put base1 o2 o3 o4 o5 o6 b7 b8 b9 skip10 skip11 skip12 b13 b14 b15 b16 b17 =
   (ref07_Valid o2 o3 o4 o5 o6).bind fun (q18 : Bool) =>
   (if (!q18) = true then
    some (2, b13, b14, b15, b16, b17)
    else
    ((ref05_Valid b7 b8 b9).bind fun (q19 : Bool) =>
     (if (!q19) = true then
      some true
      else
      (ref05_Valid skip10 skip11 skip12).bind fun (q20 : Bool) =>
      some (!q20)) : Option (Bool)).bind (fun (v21 : Bool) =>
     (if v21 = true then
      some (30, b13, b14, b15, b16, b17)
      else
      (loop (ref07_Put_loop6 b7 b8 b9 skip10 skip11 skip12) 0).bind (fun (o38 : (Unit) ⊕ (Int)) =>
       (Sum.elim (fun (p36 : Unit) =>
         (ref02_Encoder_Model b13 b14 b15 b16 b17).bind fun (q39 : Int × (List Int) × Int × Int × Int × (List Int) × (List Int)) =>
         let tr40 : Int := q39.1;
         let tr41 : List Int := q39.2.1;
         let tr42 : Int := q39.2.2.1;
         let tr43 : Int := q39.2.2.2.1;
         let tr44 : Int := q39.2.2.2.2.1;
         let tr45 : List Int := q39.2.2.2.2.2.1;
         let tr46 : List Int := q39.2.2.2.2.2.2;
         (ref07_room o2 o3 o4 o5 o6 base1 ((tr41.length : Nat) : Int) b7 b8 skip10 skip11 skip12).bind fun (q47 : Int) =>
         (if (!decide (q47 = 0)) = true then
          some (q47, tr42, tr43, tr44, tr45, tr46)
          else
          (ref07_Size o2 o3 o4 o5 o6).bind fun (q48 : Int × Int) =>
          let tr49 : Int := q48.1;
          let tr50 : Int := q48.2;
          (loop (ref07_Put_loop18 base1 o2 o3 o4 o5 o6 b7 b8 b9 skip10 skip11 skip12 tr49) (0, tr42, tr43, tr44, tr45, tr46)).bind (fun (p130 : Int × Int × Int × (List Int) × (List Int)) =>
           let b131 : Int := p130.1;
           let b132 : Int := p130.2.1;
           let b133 : Int := p130.2.2.1;
           let b134 : List Int := p130.2.2.2.1;
           let b135 : List Int := p130.2.2.2.2;
           some (0, b131, b132, b133, b134, b135))))
        (fun (v37 : Int) =>
         some (v37, b13, b14, b15, b16, b17)) o38))))) := (call_eq ..).trans (by kernel_rfl)

theorem ref02_Encoder_End_eq (b1 : Int) (b2 : Int) (b3 : Int) (b4 : List Int) (b5 : List Int) : ref02_Encoder_End b1 b2 b3 b4 b5 =
   (if (([] : List Int).length + b5.length) * 1 ≤ 140737488355328 then
    let t6 : List Int := ([] : List Int) ++ b5;
    (ref02_Interval_End b2 b3).bind fun (q7 : (List Int)) =>
    (if (t6.length + q7.length) * 1 ≤ 140737488355328 then
     let t8 : List Int := t6 ++ q7;
     some (t8, b1, b2, b3, b4, b5)
     else
     none)
    else
    none) := (call_eq ..).trans (by kernel_rfl)

theorem ref13_size_eq (n1 : Int) : ref13_size n1 =
   (ref01_Size n1).bind fun (q2 : (List Int) × Int) =>
   let tr3 : List Int := q2.1;
   let tr4 : Int := q2.2;
   some tr3 := (call_eq ..).trans (by kernel_rfl)

noncomputable def runs_lines_loop3 (b1 : Int) (b2 : Int) (b3 : List Int) (s4 : Int × (List (List Int))) : Option ((Int × (List (List Int))) ⊕ ((List (List Int)))) :=
   let v5 : Int := s4.1;
   let out6 : List (List Int) := s4.2;
   (if (decide (v5 < b2)) = true then
    let t7 : Int := IntKind.i64.wrap (v5 * b1);
    let t8 : Int := IntKind.i64.wrap (v5 + 1);
    let t9 : Int := IntKind.i64.wrap (t8 * b1);
    (if 0 ≤ t9 ∧ t9 ≤ ((b3.length : Nat) : Int) then
     (if 0 ≤ t7 ∧ t7 ≤ t9 then
      let t10 : List Int := cutL b3 t7.toNat t9.toNat;
      (if (out6.length + ([t10] : List (List Int)).length) * 24 ≤ 140737488355328 then
       let t11 : List (List Int) := out6 ++ [t10];
       let t12 : Int := IntKind.i64.wrap (v5 + 1);
       some (Sum.inl (t12, t11))
       else
       none)
      else
      none)
     else
     none)
    else
    some (Sum.inr out6))
noncomputable def runs_lines_loop3_step (b1 : Int) (b3 : List Int) (i13 : Nat) (x14 : Nat) (s15 : (List (List Int))) : Option (((List (List Int))) ⊕ ((List (List Int)))) :=
   let t7 : Int := IntKind.i64.wrap (((i13 : Nat) : Int) * b1);
   let t8 : Int := IntKind.i64.wrap (((i13 : Nat) : Int) + 1);
   let t9 : Int := IntKind.i64.wrap (t8 * b1);
   (if 0 ≤ t9 ∧ t9 ≤ ((b3.length : Nat) : Int) then
    (if 0 ≤ t7 ∧ t7 ≤ t9 then
     let t10 : List Int := cutL b3 t7.toNat t9.toNat;
     (if (s15.length + ([t10] : List (List Int)).length) * 24 ≤ 140737488355328 then
      let t11 : List (List Int) := s15 ++ [t10];
      some (Sum.inl (t11))
      else
      none)
     else
     none)
    else
    none)
theorem runs_lines_loop3_overAt (b1 : Int) (b2 : Int) (b3 : List Int) (hl : (List.range (b2).toNat).length ≤ 4611686018427387904) (k : Nat) (s15 : (List (List Int))) (hk : k ≤ (List.range (b2).toNat).length) : loop (runs_lines_loop3 b1 b2 b3) ((((k : Nat) : Int), s15) : Int × (List (List Int))) =
    overL (runs_lines_loop3_step b1 b3) (fun (s15 : (List (List Int))) => some s15) k ((List.range (b2).toNat).drop k) s15 := by
  refine loop_over (List.range (b2).toNat) (fun n (s : (List (List Int))) => ((((n : Nat) : Int), s) : Int × (List (List Int)))) _ _ (fun s => ?_) (fun i x s h => ?_) k s15 hk
  · have h1 : ¬ (((List.range (b2).toNat).length : Nat) : Int) < b2 := by simp only [List.length_range]; omega
    unfold runs_lines_loop3; simp only [h1, decide_false, Bool.false_eq_true, if_false, Option.map_some]
  · have hlt := lt_len_of_get h
    rw [List.length_range] at hlt hl
    rw [List.getElem?_range hlt] at h
    cases h
    have h1 : ((i : Nat) : Int) < b2 := by omega
    have h0 : (0 : Int) ≤ ((i : Nat) : Int) := by omega
    have hw : IntKind.i64.wrap (((i : Nat) : Int) + 1) = (((i + 1 : Nat) : Nat) : Int) := w64 (by omega)
    unfold runs_lines_loop3 runs_lines_loop3_step
    simp only [h1, h0, hw, decide_true, if_true, and_self, true_and, Int.toNat_natCast, Option.bind_some, Option.map_bind, Function.comp_def, map_ite, map_elim, Option.map_some, Option.map_none]
theorem runs_lines_loop3_over (b1 : Int) (b2 : Int) (b3 : List Int) (hl : (List.range (b2).toNat).length ≤ 4611686018427387904) (s15 : (List (List Int))) : loop (runs_lines_loop3 b1 b2 b3) ((0, s15) : Int × (List (List Int))) =
    overL (runs_lines_loop3_step b1 b3) (fun (s15 : (List (List Int))) => some s15) 0 (List.range (b2).toNat) s15 := runs_lines_loop3_overAt b1 b2 b3 hl 0 s15 (Nat.zero_le _)

theorem runs_lines_eq (b1 : Int) (b2 : Int) (b3 : List Int) : runs_lines b1 b2 b3 =
   (loop (runs_lines_loop3 b1 b2 b3) (0, [])).bind (fun (out16 : (List (List Int))) =>
    some out16) := (call_eq ..).trans (by kernel_rfl)

noncomputable def runs_row_loop6 (pixels1 : List Int) (colour3 : Int) (at6 : Int) : Option ((Int) ⊕ (Int)) :=
   (if (decide (at6 < ((pixels1.length : Nat) : Int))) = true then
    (if 0 ≤ at6 ∧ at6 < (pixels1.length : Int) then
     (if (decide (rd pixels1 at6 = colour3)) = true then
      let t7 : Int := IntKind.i64.wrap (at6 + 1);
      some (Sum.inl t7)
      else
      some (Sum.inr at6))
     else
     none)
    else
    some (Sum.inr at6))
noncomputable def runs_row_loop4 (pixels1 : List Int) (s2 : Int × Int × (List Int)) : Option ((Int × Int × (List Int)) ⊕ ((List Int))) :=
   let colour3 : Int := s2.1;
   let at4 : Int := s2.2.1;
   let out5 : List Int := s2.2.2;
   (if (decide (at4 < ((pixels1.length : Nat) : Int))) = true then
    (loop (runs_row_loop6 pixels1 colour3) at4).bind (fun (at8 : Int) =>
     let t9 : Int := IntKind.i64.wrap (at8 - at4);
     (if (out5.length + ([t9] : List Int).length) * 8 ≤ 140737488355328 then
      let t10 : List Int := out5 ++ [t9];
      let t11 : Int := IntKind.u8.wrap (1 - colour3);
      some (Sum.inl (t11, at8, t10))
      else
      none))
    else
    some (Sum.inr out5))
theorem runs_row_eq (pixels1 : List Int) : runs_row pixels1 =
   (loop (runs_row_loop4 pixels1) (0, 0, [])).bind (fun (out12 : (List Int)) =>
    some out12) := (call_eq ..).trans (by kernel_rfl)

theorem runs_runBits_eq (n1 : Int) (colour2 : Int) : runs_runBits n1 colour2 =
   (prefix_Standard 0).bind fun (q3 : (List Line) × Int) =>
   let tr4 : List Line := q3.1;
   let tr5 : Int := q3.2;
   let t6 : Int := IntKind.i64.wrap (n1.tdiv 64);
   (prefix_Bits tr4 false t6).bind fun (q7 : Int × (List Int)) =>
   let tr8 : Int := q7.1;
   let tr9 : List Int := q7.2;
   (runs_remains colour2).bind fun (q10 : (List Line)) =>
   let t11 : Int := n1.tmod 64;
   (prefix_Bits q10 false t11).bind fun (q12 : Int × (List Int)) =>
   let tr13 : Int := q12.1;
   let tr14 : List Int := q12.2;
   (if (tr9.length + tr14.length) * 1 ≤ 140737488355328 then
    let t15 : List Int := tr9 ++ tr14;
    some t15
    else
    none) := (call_eq ..).trans (by kernel_rfl)

noncomputable def bits_Pack_loop3 (bits1 : List Int) (s5 : Int × (List Int)) : Option ((Int × (List Int)) ⊕ (((List Int)) ⊕ ((List Int) × Int × (List Int)))) :=
   let v6 : Int := s5.1;
   let b7 : List Int := s5.2;
   (if (decide (v6 < ((bits1.length : Nat) : Int))) = true then
    (if 0 ≤ v6 ∧ v6 < (bits1.length : Int) then
     (if (decide (rd bits1 v6 > 1)) = true then
      some (Sum.inr (Sum.inr ([], 2, b7)))
      else
      let t8 : Int := IntKind.i64.wrap (v6.tdiv 8);
      (if 0 ≤ t8 ∧ t8 < (b7.length : Int) then
       let t9 : Int := rd b7 t8;
       let t10 : Int := v6.tmod 8;
       let t11 : Int := IntKind.i64.wrap (7 - t10);
       (if t11 < 0 then
        none
        else
        let t12 : Int := ishl .u8 (rd bits1 v6) t11;
        let t13 : Int := ior .u8 t9 t12;
        (if 0 ≤ t8 ∧ t8 < (b7.length : Int) then
         let w14 : List Int := b7.set t8.toNat t13;
         let t15 : Int := IntKind.i64.wrap (v6 + 1);
         some (Sum.inl (t15, w14))
         else
         none))
       else
       none))
     else
     none)
    else
    some (Sum.inr (Sum.inl b7)))
noncomputable def bits_Pack_loop3_step (i16 : Nat) (x17 : Int) (s18 : (List Int)) : Option (((List Int)) ⊕ (((List Int)) ⊕ ((List Int) × Int × (List Int)))) :=
   (if (decide (x17 > 1)) = true then
    some (Sum.inr (Sum.inr ([], 2, s18)))
    else
    let t8 : Int := IntKind.i64.wrap (((i16 : Nat) : Int).tdiv 8);
    (if 0 ≤ t8 ∧ t8 < (s18.length : Int) then
     let t9 : Int := rd s18 t8;
     let t10 : Int := ((i16 : Nat) : Int).tmod 8;
     let t11 : Int := IntKind.i64.wrap (7 - t10);
     (if t11 < 0 then
      none
      else
      let t12 : Int := ishl .u8 (x17) t11;
      let t13 : Int := ior .u8 t9 t12;
      (if 0 ≤ t8 ∧ t8 < (s18.length : Int) then
       let w14 : List Int := s18.set t8.toNat t13;
       some (Sum.inl (w14))
       else
       none))
     else
     none))
theorem bits_Pack_loop3_overAt (bits1 : List Int) (hl : bits1.length ≤ 4611686018427387904) (k : Nat) (s18 : (List Int)) (hk : k ≤ bits1.length) : loop (bits_Pack_loop3 bits1) ((((k : Nat) : Int), s18) : Int × (List Int)) =
    overL (bits_Pack_loop3_step) (fun (s18 : (List Int)) => some (Sum.inl s18)) k (bits1.drop k) s18 := by
  refine loop_over bits1 (fun n (s : (List Int)) => ((((n : Nat) : Int), s) : Int × (List Int))) _ _ (fun s => ?_) (fun i x s h => ?_) k s18 hk
  · unfold bits_Pack_loop3; simp
  · have hlt := lt_len_of_get h
    have h1 : ((i : Nat) : Int) < ((bits1.length : Nat) : Int) := by omega
    have h0 : (0 : Int) ≤ ((i : Nat) : Int) := by omega
    have hw : IntKind.i64.wrap (((i : Nat) : Int) + 1) = (((i + 1 : Nat) : Nat) : Int) := w64 (by omega)
    have hr : rd bits1 ((i : Nat) : Int) = x := rd_nat h
    unfold bits_Pack_loop3 bits_Pack_loop3_step
    simp only [h1, h0, hw, h, hr, decide_true, if_true, and_self, true_and, Int.toNat_natCast, Option.bind_some, Option.map_bind, Function.comp_def, map_ite, map_elim, Option.map_some, Option.map_none]
theorem bits_Pack_loop3_over (bits1 : List Int) (hl : bits1.length ≤ 4611686018427387904) (s18 : (List Int)) : loop (bits_Pack_loop3 bits1) ((0, s18) : Int × (List Int)) =
    overL (bits_Pack_loop3_step) (fun (s18 : (List Int)) => some (Sum.inl s18)) 0 bits1 s18 := bits_Pack_loop3_overAt bits1 hl 0 s18 (Nat.zero_le _)

theorem bits_Pack_eq (bits1 : List Int) : bits_Pack bits1 =
   let t2 : Int := IntKind.i64.wrap (((bits1.length : Nat) : Int) + 7);
   let t3 : Int := IntKind.i64.wrap (t2.tdiv 8);
   (if 0 ≤ t3 ∧ t3 ≤ t3 ∧ ((1 : Nat) : Int) * t3 ≤ 281474976710656 then
    let t4 : List Int := List.replicate t3.toNat 0;
    (loop (bits_Pack_loop3 bits1) (0, t4)).bind (fun (o24 : ((List Int)) ⊕ ((List Int) × Int × (List Int))) =>
     (Sum.elim (fun (b19 : (List Int)) =>
       some (b19, 0))
      (fun (p20 : (List Int) × Int × (List Int)) =>
       let v21 : List Int := p20.1;
       let v22 : Int := p20.2.1;
       let b23 : List Int := p20.2.2;
       some (v21, v22)) o24))
    else
    none) := (call_eq ..).trans (by kernel_rfl)

noncomputable def runs_modes_loop4 (above1 : List Int) (pixels2 : List Int) (s3 : Int × Int × (List Mode)) : Option ((Int × Int × (List Mode)) ⊕ ((List Mode))) :=
   let a4 : Int := s3.1;
   let colour5 : Int := s3.2.1;
   let out6 : List Mode := s3.2.2;
   ((if (decide (a4 < ((pixels2.length : Nat) : Int))) = true then
     some (decide (((pixels2.length : Nat) : Int) > 0))
     else
     some false) : Option (Bool)).bind (fun (v7 : Bool) =>
    (if v7 = true then
     (runs_marks above1 a4 colour5).bind fun (q8 : Int × Int) =>
     let tr9 : Int := q8.1;
     let tr10 : Int := q8.2;
     let t11 : Int := IntKind.u8.wrap (1 - colour5);
     (runs_change pixels2 a4 t11).bind fun (q12 : Int) =>
     (if (decide (tr10 < q12)) = true then
      (if (out6.length + ([(Mode.mk [112, 97, 115, 115] 0 0 0 0)] : List Mode).length) * 48 ≤ 140737488355328 then
       let t13 : List Mode := out6 ++ [(Mode.mk [112, 97, 115, 115] 0 0 0 0)];
       some (Sum.inl (tr10, colour5, t13))
       else
       none)
      else
      (let t14 : Int := IntKind.i64.wrap (q12 - tr9);
       (if (decide (t14 ≥ (-3))) = true then
        let t15 : Int := IntKind.i64.wrap (q12 - tr9);
        some (decide (t15 ≤ 3))
        else
        some false) : Option (Bool)).bind (fun (v16 : Bool) =>
       (if v16 = true then
        let t17 : Int := IntKind.i64.wrap (q12 - tr9);
        (if (out6.length + ([(Mode.mk [117, 112] t17 0 0 0)] : List Mode).length) * 48 ≤ 140737488355328 then
         let t18 : List Mode := out6 ++ [(Mode.mk [117, 112] t17 0 0 0)];
         let t19 : Int := IntKind.u8.wrap (1 - colour5);
         some (Sum.inl (q12, t19, t18))
         else
         none)
        else
        (runs_change pixels2 q12 colour5).bind fun (q20 : Int) =>
        let t21 : Int := imax a4 0;
        let t22 : Int := IntKind.i64.wrap (q12 - t21);
        let t23 : Int := IntKind.i64.wrap (q20 - q12);
        let t24 : Int := IntKind.i64.wrap colour5;
        (if (out6.length + ([(Mode.mk [102, 108, 97, 116] 0 t22 t23 t24)] : List Mode).length) * 48 ≤ 140737488355328 then
         let t25 : List Mode := out6 ++ [(Mode.mk [102, 108, 97, 116] 0 t22 t23 t24)];
         some (Sum.inl (q20, colour5, t25))
         else
         none))))
     else
     some (Sum.inr out6)))
theorem runs_modes_eq (above1 : List Int) (pixels2 : List Int) : runs_modes above1 pixels2 =
   (loop (runs_modes_loop4 above1 pixels2) ((-1), 0, [])).bind (fun (out26 : (List Mode)) =>
    some out26) := (call_eq ..).trans (by kernel_rfl)

theorem runs_mode_bits_eq (m1 : List Int) (m2 : Int) (m3 : Int) (m4 : Int) (m5 : Int) : runs_mode_bits m1 m2 m3 m4 m5 =
   (if (decide (m1 = [112, 97, 115, 115])) = true then
    (runs_list [48, 48, 48, 49]).bind fun (q6 : (List Int)) =>
    some q6
    else
    (if (decide (m1 = [117, 112])) = true then
     (runs_uprights).bind fun (q7 : (List (List Int))) =>
     let t8 : Int := IntKind.i64.wrap (m2 + 3);
     (if 0 ≤ t8 then
      (q7[t8.toNat]?).bind fun e9 =>
      (runs_list e9).bind fun (q10 : (List Int)) =>
      some q10
      else
      none)
     else
     (runs_list [48, 48, 49]).bind fun (q11 : (List Int)) =>
     (if 0 ≤ (0 : Int) ∧ (0 : Int) < ((2 : Nat) : Int) then
      (runs_runBits m3 m5).bind fun (q12 : (List Int)) =>
      (if (q11.length + q12.length) * 1 ≤ 140737488355328 then
       let t13 : List Int := q11 ++ q12;
       (if 0 ≤ (1 : Int) ∧ (1 : Int) < ((2 : Nat) : Int) then
        let t14 : Int := IntKind.i64.wrap (1 - m5);
        (runs_runBits m4 t14).bind fun (q15 : (List Int)) =>
        (if (t13.length + q15.length) * 1 ≤ 140737488355328 then
         let t16 : List Int := t13 ++ q15;
         some t16
         else
         none)
        else
        none)
       else
       none)
      else
      none))) := (call_eq ..).trans (by kernel_rfl)

theorem ref06_IsBitmap_eq (b1 : Int) (b2 : Int) (b3 : List Int) : ref06_IsBitmap b1 b2 b3 =
   (ref06_IsSize b1 b2).bind fun (q4 : Bool) =>
   (if q4 = true then
    let t5 : Int := IntKind.i64.wrap (b1 * b2);
    (if (decide (((b3.length : Nat) : Int) = t5)) = true then
     (ref06_IsRow b3).bind fun (q6 : Bool) =>
     some q6
     else
     some false)
    else
    some false) := (call_eq ..).trans (by kernel_rfl)

noncomputable def ref06_OneBits_loop6 (q8 : (List Int)) (s9 : Int × (List Int)) : Option ((Int × (List Int)) ⊕ ((List Int))) :=
   let v10 : Int := s9.1;
   let out11 : List Int := s9.2;
   (if (decide (v10 < ((q8.length : Nat) : Int))) = true then
    (if 0 ≤ v10 ∧ v10 < (q8.length : Int) then
     let t12 : Int := v10.tmod 2;
     (ref06_RunBits (rd q8 v10) t12).bind fun (q13 : (List Int)) =>
     (if (out11.length + q13.length) * 1 ≤ 140737488355328 then
      let t14 : List Int := out11 ++ q13;
      let t15 : Int := IntKind.i64.wrap (v10 + 1);
      some (Sum.inl (t15, t14))
      else
      none)
     else
     none)
    else
    some (Sum.inr out11))
noncomputable def ref06_OneBits_loop3 (b1 : Int) (b2 : Int) (b3 : List Int) (s4 : Int × (List Int)) : Option ((Int × (List Int)) ⊕ ((List Int))) :=
   let y5 : Int := s4.1;
   let out6 : List Int := s4.2;
   (if (decide (y5 < b2)) = true then
    (ref06_RowOf b1 b2 b3 y5).bind fun (q7 : (List Int)) =>
    (ref06_Row q7).bind fun (q8 : (List Int)) =>
    (loop (ref06_OneBits_loop6 q8) (0, out6)).bind (fun (out16 : (List Int)) =>
     let t17 : Int := IntKind.i64.wrap (y5 + 1);
     some (Sum.inl (t17, out16)))
    else
    some (Sum.inr out6))
noncomputable def ref06_OneBits_loop3_step (b1 : Int) (b2 : Int) (b3 : List Int) (i18 : Nat) (x19 : Nat) (s20 : (List Int)) : Option (((List Int)) ⊕ ((List Int))) :=
   (ref06_RowOf b1 b2 b3 ((i18 : Nat) : Int)).bind fun (q7 : (List Int)) =>
   (ref06_Row q7).bind fun (q8 : (List Int)) =>
   (loop (ref06_OneBits_loop6 q8) (0, s20)).bind (fun (out16 : (List Int)) =>
    some (Sum.inl (out16)))
theorem ref06_OneBits_loop3_overAt (b1 : Int) (b2 : Int) (b3 : List Int) (hl : (List.range (b2).toNat).length ≤ 4611686018427387904) (k : Nat) (s20 : (List Int)) (hk : k ≤ (List.range (b2).toNat).length) : loop (ref06_OneBits_loop3 b1 b2 b3) ((((k : Nat) : Int), s20) : Int × (List Int)) =
    overL (ref06_OneBits_loop3_step b1 b2 b3) (fun (s20 : (List Int)) => some s20) k ((List.range (b2).toNat).drop k) s20 := by
  refine loop_over (List.range (b2).toNat) (fun n (s : (List Int)) => ((((n : Nat) : Int), s) : Int × (List Int))) _ _ (fun s => ?_) (fun i x s h => ?_) k s20 hk
  · have h1 : ¬ (((List.range (b2).toNat).length : Nat) : Int) < b2 := by simp only [List.length_range]; omega
    unfold ref06_OneBits_loop3; simp only [h1, decide_false, Bool.false_eq_true, if_false, Option.map_some]
  · have hlt := lt_len_of_get h
    rw [List.length_range] at hlt hl
    rw [List.getElem?_range hlt] at h
    cases h
    have h1 : ((i : Nat) : Int) < b2 := by omega
    have h0 : (0 : Int) ≤ ((i : Nat) : Int) := by omega
    have hw : IntKind.i64.wrap (((i : Nat) : Int) + 1) = (((i + 1 : Nat) : Nat) : Int) := w64 (by omega)
    unfold ref06_OneBits_loop3 ref06_OneBits_loop3_step
    simp only [h1, h0, hw, decide_true, if_true, and_self, true_and, Int.toNat_natCast, Option.bind_some, Option.map_bind, Function.comp_def, map_ite, map_elim, Option.map_some, Option.map_none]
theorem ref06_OneBits_loop3_over (b1 : Int) (b2 : Int) (b3 : List Int) (hl : (List.range (b2).toNat).length ≤ 4611686018427387904) (s20 : (List Int)) : loop (ref06_OneBits_loop3 b1 b2 b3) ((0, s20) : Int × (List Int)) =
    overL (ref06_OneBits_loop3_step b1 b2 b3) (fun (s20 : (List Int)) => some s20) 0 (List.range (b2).toNat) s20 := ref06_OneBits_loop3_overAt b1 b2 b3 hl 0 s20 (Nat.zero_le _)

theorem ref06_OneBits_eq (b1 : Int) (b2 : Int) (b3 : List Int) : ref06_OneBits b1 b2 b3 =
   (loop (ref06_OneBits_loop3 b1 b2 b3) (0, [])).bind (fun (out21 : (List Int)) =>
    some out21) := (call_eq ..).trans (by kernel_rfl)

noncomputable def ref04_Packed_loop3 (l1 : List Int) (s5 : Int × (List Int)) : Option ((Int × (List Int)) ⊕ ((List Int))) :=
   let v6 : Int := s5.1;
   let b7 : List Int := s5.2;
   (if (decide (v6 < ((l1.length : Nat) : Int))) = true then
    (if 0 ≤ v6 ∧ v6 < (l1.length : Int) then
     let t8 : Int := IntKind.i64.wrap (v6.tdiv 8);
     (if 0 ≤ t8 ∧ t8 < (b7.length : Int) then
      let t9 : Int := rd b7 t8;
      let t10 : Int := v6.tmod 8;
      let t11 : Int := IntKind.i64.wrap (7 - t10);
      (if t11 < 0 then
       none
       else
       let t12 : Int := ishl .u8 (rd l1 v6) t11;
       let t13 : Int := IntKind.u8.wrap (t9 + t12);
       (if 0 ≤ t8 ∧ t8 < (b7.length : Int) then
        let w14 : List Int := b7.set t8.toNat t13;
        let t15 : Int := IntKind.i64.wrap (v6 + 1);
        some (Sum.inl (t15, w14))
        else
        none))
      else
      none)
     else
     none)
    else
    some (Sum.inr b7))
noncomputable def ref04_Packed_loop3_step (i16 : Nat) (x17 : Int) (s18 : (List Int)) : Option (((List Int)) ⊕ ((List Int))) :=
   let t8 : Int := IntKind.i64.wrap (((i16 : Nat) : Int).tdiv 8);
   (if 0 ≤ t8 ∧ t8 < (s18.length : Int) then
    let t9 : Int := rd s18 t8;
    let t10 : Int := ((i16 : Nat) : Int).tmod 8;
    let t11 : Int := IntKind.i64.wrap (7 - t10);
    (if t11 < 0 then
     none
     else
     let t12 : Int := ishl .u8 (x17) t11;
     let t13 : Int := IntKind.u8.wrap (t9 + t12);
     (if 0 ≤ t8 ∧ t8 < (s18.length : Int) then
      let w14 : List Int := s18.set t8.toNat t13;
      some (Sum.inl (w14))
      else
      none))
    else
    none)
theorem ref04_Packed_loop3_overAt (l1 : List Int) (hl : l1.length ≤ 4611686018427387904) (k : Nat) (s18 : (List Int)) (hk : k ≤ l1.length) : loop (ref04_Packed_loop3 l1) ((((k : Nat) : Int), s18) : Int × (List Int)) =
    overL (ref04_Packed_loop3_step) (fun (s18 : (List Int)) => some s18) k (l1.drop k) s18 := by
  refine loop_over l1 (fun n (s : (List Int)) => ((((n : Nat) : Int), s) : Int × (List Int))) _ _ (fun s => ?_) (fun i x s h => ?_) k s18 hk
  · unfold ref04_Packed_loop3; simp
  · have hlt := lt_len_of_get h
    have h1 : ((i : Nat) : Int) < ((l1.length : Nat) : Int) := by omega
    have h0 : (0 : Int) ≤ ((i : Nat) : Int) := by omega
    have hw : IntKind.i64.wrap (((i : Nat) : Int) + 1) = (((i + 1 : Nat) : Nat) : Int) := w64 (by omega)
    have hr : rd l1 ((i : Nat) : Int) = x := rd_nat h
    unfold ref04_Packed_loop3 ref04_Packed_loop3_step
    simp only [h1, h0, hw, h, hr, decide_true, if_true, and_self, true_and, Int.toNat_natCast, Option.bind_some, Option.map_bind, Function.comp_def, map_ite, map_elim, Option.map_some, Option.map_none]
theorem ref04_Packed_loop3_over (l1 : List Int) (hl : l1.length ≤ 4611686018427387904) (s18 : (List Int)) : loop (ref04_Packed_loop3 l1) ((0, s18) : Int × (List Int)) =
    overL (ref04_Packed_loop3_step) (fun (s18 : (List Int)) => some s18) 0 l1 s18 := ref04_Packed_loop3_overAt l1 hl 0 s18 (Nat.zero_le _)

theorem ref04_Packed_eq (l1 : List Int) : ref04_Packed l1 =
   let t2 : Int := IntKind.i64.wrap (((l1.length : Nat) : Int) + 7);
   let t3 : Int := IntKind.i64.wrap (t2.tdiv 8);
   (if 0 ≤ t3 ∧ t3 ≤ t3 ∧ ((1 : Nat) : Int) * t3 ≤ 281474976710656 then
    let t4 : List Int := List.replicate t3.toNat 0;
    (loop (ref04_Packed_loop3 l1) (0, t4)).bind (fun (b19 : (List Int)) =>
     some b19)
    else
    none) := (call_eq ..).trans (by kernel_rfl)

noncomputable def ref06_TwoBits_loop6 (q10 : (List Mode')) (s11 : Int × (List Int)) : Option ((Int × (List Int)) ⊕ ((List Int))) :=
   let v12 : Int := s11.1;
   let out13 : List Int := s11.2;
   (if (decide (v12 < ((q10.length : Nat) : Int))) = true then
    (if 0 ≤ v12 then
     (q10[v12.toNat]?).bind fun e14 =>
     (if (out13.length + e14.bits.length) * 1 ≤ 140737488355328 then
      let t15 : List Int := out13 ++ e14.bits;
      let t16 : Int := IntKind.i64.wrap (v12 + 1);
      some (Sum.inl (t16, t15))
      else
      none)
     else
     none)
    else
    some (Sum.inr out13))
noncomputable def ref06_TwoBits_loop3 (b1 : Int) (b2 : Int) (b3 : List Int) (s4 : Int × (List Int)) : Option ((Int × (List Int)) ⊕ ((List Int))) :=
   let y5 : Int := s4.1;
   let out6 : List Int := s4.2;
   (if (decide (y5 < b2)) = true then
    let t7 : Int := IntKind.i64.wrap (y5 - 1);
    (ref06_RowOf b1 b2 b3 t7).bind fun (q8 : (List Int)) =>
    (ref06_RowOf b1 b2 b3 y5).bind fun (q9 : (List Int)) =>
    (ref06_Modes q8 q9).bind fun (q10 : (List Mode')) =>
    (loop (ref06_TwoBits_loop6 q10) (0, out6)).bind (fun (out17 : (List Int)) =>
     let t18 : Int := IntKind.i64.wrap (y5 + 1);
     some (Sum.inl (t18, out17)))
    else
    some (Sum.inr out6))
noncomputable def ref06_TwoBits_loop3_step (b1 : Int) (b2 : Int) (b3 : List Int) (i19 : Nat) (x20 : Nat) (s21 : (List Int)) : Option (((List Int)) ⊕ ((List Int))) :=
   let t7 : Int := IntKind.i64.wrap (((i19 : Nat) : Int) - 1);
   (ref06_RowOf b1 b2 b3 t7).bind fun (q8 : (List Int)) =>
   (ref06_RowOf b1 b2 b3 ((i19 : Nat) : Int)).bind fun (q9 : (List Int)) =>
   (ref06_Modes q8 q9).bind fun (q10 : (List Mode')) =>
   (loop (ref06_TwoBits_loop6 q10) (0, s21)).bind (fun (out17 : (List Int)) =>
    some (Sum.inl (out17)))
theorem ref06_TwoBits_loop3_overAt (b1 : Int) (b2 : Int) (b3 : List Int) (hl : (List.range (b2).toNat).length ≤ 4611686018427387904) (k : Nat) (s21 : (List Int)) (hk : k ≤ (List.range (b2).toNat).length) : loop (ref06_TwoBits_loop3 b1 b2 b3) ((((k : Nat) : Int), s21) : Int × (List Int)) =
    overL (ref06_TwoBits_loop3_step b1 b2 b3) (fun (s21 : (List Int)) => some s21) k ((List.range (b2).toNat).drop k) s21 := by
  refine loop_over (List.range (b2).toNat) (fun n (s : (List Int)) => ((((n : Nat) : Int), s) : Int × (List Int))) _ _ (fun s => ?_) (fun i x s h => ?_) k s21 hk
  · have h1 : ¬ (((List.range (b2).toNat).length : Nat) : Int) < b2 := by simp only [List.length_range]; omega
    unfold ref06_TwoBits_loop3; simp only [h1, decide_false, Bool.false_eq_true, if_false, Option.map_some]
  · have hlt := lt_len_of_get h
    rw [List.length_range] at hlt hl
    rw [List.getElem?_range hlt] at h
    cases h
    have h1 : ((i : Nat) : Int) < b2 := by omega
    have h0 : (0 : Int) ≤ ((i : Nat) : Int) := by omega
    have hw : IntKind.i64.wrap (((i : Nat) : Int) + 1) = (((i + 1 : Nat) : Nat) : Int) := w64 (by omega)
    unfold ref06_TwoBits_loop3 ref06_TwoBits_loop3_step
    simp only [h1, h0, hw, decide_true, if_true, and_self, true_and, Int.toNat_natCast, Option.bind_some, Option.map_bind, Function.comp_def, map_ite, map_elim, Option.map_some, Option.map_none]
theorem ref06_TwoBits_loop3_over (b1 : Int) (b2 : Int) (b3 : List Int) (hl : (List.range (b2).toNat).length ≤ 4611686018427387904) (s21 : (List Int)) : loop (ref06_TwoBits_loop3 b1 b2 b3) ((0, s21) : Int × (List Int)) =
    overL (ref06_TwoBits_loop3_step b1 b2 b3) (fun (s21 : (List Int)) => some s21) 0 (List.range (b2).toNat) s21 := ref06_TwoBits_loop3_overAt b1 b2 b3 hl 0 s21 (Nat.zero_le _)

theorem ref06_TwoBits_eq (b1 : Int) (b2 : Int) (b3 : List Int) : ref06_TwoBits b1 b2 b3 =
   (loop (ref06_TwoBits_loop3 b1 b2 b3) (0, [])).bind (fun (out22 : (List Int)) =>
    some out22) := (call_eq ..).trans (by kernel_rfl)

theorem refine_Valid_eq (o1 : Int) (o2 : Int) (o3 : Int) (o4 : Bool) (o5 : Int) : refine_Valid o1 o2 o3 o4 o5 =
   let t6 : Int := IntKind.i64.wrap (0 - o2);
   let t7 : Int := IntKind.i64.wrap (0 - o3);
   let t8 : Int := imax (imax (imax o2 t6) o3) t7;
   (if (decide (o1 = 0)) = true then
    (if (decide (o5 = 0)) = true then
     let t9 : Int := imin o2 o3;
     (if (decide (t9 ≥ (-200))) = true then
      some (decide (t8 ≤ 200))
      else
      some false)
     else
     (if (decide (o5 = 1)) = true then
      let t10 : Int := imin o2 o3;
      (if (decide (t10 ≥ (-200))) = true then
       some (decide (t8 ≤ 200))
       else
       some false)
      else
      some false))
    else
    (if (decide (o1 = 1)) = true then
     (if (decide (o5 = 0)) = true then
      let t11 : Int := imin o2 o3;
      (if (decide (t11 ≥ (-200))) = true then
       some (decide (t8 ≤ 200))
       else
       some false)
      else
      (if (decide (o5 = 1)) = true then
       let t12 : Int := imin o2 o3;
       (if (decide (t12 ≥ (-200))) = true then
        some (decide (t8 ≤ 200))
        else
        some false)
       else
       some false))
     else
     some false)) := (call_eq ..).trans (by kernel_rfl)

theorem refine_model_eq (o1 : Int) (o2 : Int) (o3 : Int) (o4 : Bool) (o5 : Int) : refine_model o1 o2 o3 o4 o5 =
   (refine_contexts o1).bind fun (q6 : Int) =>
   let t7 : Int := IntKind.i64.wrap (q6 + 1);
   (coder_New o5 t7).bind fun (q8 : Int × (List Int) × Int) =>
   let tr9 : Int := q8.1;
   let tr10 : List Int := q8.2.1;
   let tr11 : Int := q8.2.2;
   some (tr9, tr10) := (call_eq ..).trans (by kernel_rfl)

noncomputable def refine_Put_loop20 (base1 : Int) (b7 : Int) (v79 : Int) (typical110 : Bool) (s138 : Int × Int × Int × Int × (List Int) × (List Int) × Int × Int × Int × Bool × Int × Int × Int × (List Int) × Int × Int × (List Int)) : Option ((Int × Int × Int × Int × (List Int) × (List Int) × Int × Int × Int × Bool × Int × Int × Int × (List Int) × Int × Int × (List Int)) ⊕ (Int × Int × Int × (List Int) × (List Int) × Int × Int × Int × Bool × Int × Int × Int × (List Int) × Int × Int × (List Int))) :=
   let v139 : Int := s138.1;
   let b140 : Int := s138.2.1;
   let b141 : Int := s138.2.2.1;
   let b142 : Int := s138.2.2.2.1;
   let b143 : List Int := s138.2.2.2.2.1;
   let b144 : List Int := s138.2.2.2.2.2.1;
   let b145 : Int := s138.2.2.2.2.2.2.1;
   let b146 : Int := s138.2.2.2.2.2.2.2.1;
   let b147 : Int := s138.2.2.2.2.2.2.2.2.1;
   let b148 : Bool := s138.2.2.2.2.2.2.2.2.2.1;
   let b149 : Int := s138.2.2.2.2.2.2.2.2.2.2.1;
   let b150 : Int := s138.2.2.2.2.2.2.2.2.2.2.2.1;
   let b151 : Int := s138.2.2.2.2.2.2.2.2.2.2.2.2.1;
   let b152 : List Int := s138.2.2.2.2.2.2.2.2.2.2.2.2.2.1;
   let b153 : Int := s138.2.2.2.2.2.2.2.2.2.2.2.2.2.2.1;
   let b154 : Int := s138.2.2.2.2.2.2.2.2.2.2.2.2.2.2.2.1;
   let b155 : List Int := s138.2.2.2.2.2.2.2.2.2.2.2.2.2.2.2.2;
   (if (decide (v139 < b7)) = true then
    (refine_region_flat v139 v79 b145 b146 b147 b148 b149 b150 b151 b152 b153 b154 b155).bind fun (q156 : Int × Bool × Int × Int × Int × Bool × Int × Int × Int × (List Int) × Int × Int × (List Int)) =>
    let tr157 : Int := q156.1;
    let tr158 : Bool := q156.2.1;
    let tr159 : Int := q156.2.2.1;
    let tr160 : Int := q156.2.2.2.1;
    let tr161 : Int := q156.2.2.2.2.1;
    let tr162 : Bool := q156.2.2.2.2.2.1;
    let tr163 : Int := q156.2.2.2.2.2.2.1;
    let tr164 : Int := q156.2.2.2.2.2.2.2.1;
    let tr165 : Int := q156.2.2.2.2.2.2.2.2.1;
    let tr166 : List Int := q156.2.2.2.2.2.2.2.2.2.1;
    let tr167 : Int := q156.2.2.2.2.2.2.2.2.2.2.1;
    let tr168 : Int := q156.2.2.2.2.2.2.2.2.2.2.2.1;
    let tr169 : List Int := q156.2.2.2.2.2.2.2.2.2.2.2.2;
    ((if (!typical110) = true then
      some true
      else
      some (!tr158)) : Option (Bool)).bind (fun (v170 : Bool) =>
     (if v170 = true then
      (demon
       ((refine_region_context v139 v79 tr159 tr160 tr161 tr162 tr163 tr164 tr165 tr166 tr167 tr168 tr169).bind fun (q171 : Int × Int × Int × Int × Bool × Int × Int × Int × (List Int) × Int × Int × (List Int)) =>
        let tr172 : Int := q171.1;
        let tr173 : Int := q171.2.1;
        let tr174 : Int := q171.2.2.1;
        let tr175 : Int := q171.2.2.2.1;
        let tr176 : Bool := q171.2.2.2.2.1;
        let tr177 : Int := q171.2.2.2.2.2.1;
        let tr178 : Int := q171.2.2.2.2.2.2.1;
        let tr179 : Int := q171.2.2.2.2.2.2.2.1;
        let tr180 : List Int := q171.2.2.2.2.2.2.2.2.1;
        let tr181 : Int := q171.2.2.2.2.2.2.2.2.2.1;
        let tr182 : Int := q171.2.2.2.2.2.2.2.2.2.2.1;
        let tr183 : List Int := q171.2.2.2.2.2.2.2.2.2.2.2;
        let t184 : Int := IntKind.i64.wrap (base1 + tr172);
        (refine_grid_at tr178 tr179 tr180 v139 v79).bind fun (q185 : Int) =>
        let t186 : Int := IntKind.i64.wrap q185;
        (coder_Encoder_Put t184 t186 b140 b141 b142 b143 b144).bind fun (q187 : Int × Int × Int × Int × (List Int) × (List Int)) =>
        let tr188 : Int := q187.1;
        let tr189 : Int := q187.2.1;
        let tr190 : Int := q187.2.2.1;
        let tr191 : Int := q187.2.2.2.1;
        let tr192 : List Int := q187.2.2.2.2.1;
        let tr193 : List Int := q187.2.2.2.2.2;
        let t194 : Int := IntKind.i64.wrap (v139 + 1);
        some (Sum.inl (t194, tr189, tr190, tr191, tr192, tr193, tr173, tr174, tr175, tr176, tr177, tr178, tr179, tr180, tr181, tr182, tr183)))
       ((refine_region_context v139 v79 tr159 tr160 tr161 tr162 tr163 tr164 tr165 tr166 tr167 tr168 tr169).bind fun (q195 : Int × Int × Int × Int × Bool × Int × Int × Int × (List Int) × Int × Int × (List Int)) =>
        let tr196 : Int := q195.1;
        let tr197 : Int := q195.2.1;
        let tr198 : Int := q195.2.2.1;
        let tr199 : Int := q195.2.2.2.1;
        let tr200 : Bool := q195.2.2.2.2.1;
        let tr201 : Int := q195.2.2.2.2.2.1;
        let tr202 : Int := q195.2.2.2.2.2.2.1;
        let tr203 : Int := q195.2.2.2.2.2.2.2.1;
        let tr204 : List Int := q195.2.2.2.2.2.2.2.2.1;
        let tr205 : Int := q195.2.2.2.2.2.2.2.2.2.1;
        let tr206 : Int := q195.2.2.2.2.2.2.2.2.2.2.1;
        let tr207 : List Int := q195.2.2.2.2.2.2.2.2.2.2.2;
        let t208 : Int := IntKind.i64.wrap (base1 + tr196);
        (refine_grid_at tr164 tr165 tr166 v139 v79).bind fun (q209 : Int) =>
        let t210 : Int := IntKind.i64.wrap q209;
        (coder_Encoder_Put t208 t210 b140 b141 b142 b143 b144).bind fun (q211 : Int × Int × Int × Int × (List Int) × (List Int)) =>
        let tr212 : Int := q211.1;
        let tr213 : Int := q211.2.1;
        let tr214 : Int := q211.2.2.1;
        let tr215 : Int := q211.2.2.2.1;
        let tr216 : List Int := q211.2.2.2.2.1;
        let tr217 : List Int := q211.2.2.2.2.2;
        let t218 : Int := IntKind.i64.wrap (v139 + 1);
        some (Sum.inl (t218, tr213, tr214, tr215, tr216, tr217, tr197, tr198, tr199, tr200, tr201, tr202, tr203, tr204, tr205, tr206, tr207))))
      else
      let t219 : Int := IntKind.i64.wrap (v139 + 1);
      some (Sum.inl (t219, b140, b141, b142, b143, b144, tr159, tr160, tr161, tr162, tr163, tr164, tr165, tr166, tr167, tr168, tr169))))
    else
    some (Sum.inr (b140, b141, b142, b143, b144, b145, b146, b147, b148, b149, b150, b151, b152, b153, b154, b155)))
noncomputable def refine_Put_loop11 (base1 : Int) (o2 : Int) (o5 : Bool) (b7 : Int) (b8 : Int) (s78 : Int × Int × Int × Int × (List Int) × (List Int) × Int × Int × Int × Bool × Int × Int × Int × (List Int) × Int × Int × (List Int)) : Option ((Int × Int × Int × Int × (List Int) × (List Int) × Int × Int × Int × Bool × Int × Int × Int × (List Int) × Int × Int × (List Int)) ⊕ (Int × Int × Int × (List Int) × (List Int) × Int × Int × Int × Bool × Int × Int × Int × (List Int) × Int × Int × (List Int))) :=
   let v79 : Int := s78.1;
   let b80 : Int := s78.2.1;
   let b81 : Int := s78.2.2.1;
   let b82 : Int := s78.2.2.2.1;
   let b83 : List Int := s78.2.2.2.2.1;
   let b84 : List Int := s78.2.2.2.2.2.1;
   let b85 : Int := s78.2.2.2.2.2.2.1;
   let b86 : Int := s78.2.2.2.2.2.2.2.1;
   let b87 : Int := s78.2.2.2.2.2.2.2.2.1;
   let b88 : Bool := s78.2.2.2.2.2.2.2.2.2.1;
   let b89 : Int := s78.2.2.2.2.2.2.2.2.2.2.1;
   let b90 : Int := s78.2.2.2.2.2.2.2.2.2.2.2.1;
   let b91 : Int := s78.2.2.2.2.2.2.2.2.2.2.2.2.1;
   let b92 : List Int := s78.2.2.2.2.2.2.2.2.2.2.2.2.2.1;
   let b93 : Int := s78.2.2.2.2.2.2.2.2.2.2.2.2.2.2.1;
   let b94 : Int := s78.2.2.2.2.2.2.2.2.2.2.2.2.2.2.2.1;
   let b95 : List Int := s78.2.2.2.2.2.2.2.2.2.2.2.2.2.2.2.2;
   (if (decide (v79 < b8)) = true then
    ((if o5 = true then
      (refine_region_typical v79 b85 b86 b87 b88 b89 b90 b91 b92 b93 b94 b95).bind fun (q96 : Bool × Int × Int × Int × Bool × Int × Int × Int × (List Int) × Int × Int × (List Int)) =>
      let tr97 : Bool := q96.1;
      let tr98 : Int := q96.2.1;
      let tr99 : Int := q96.2.2.1;
      let tr100 : Int := q96.2.2.2.1;
      let tr101 : Bool := q96.2.2.2.2.1;
      let tr102 : Int := q96.2.2.2.2.2.1;
      let tr103 : Int := q96.2.2.2.2.2.2.1;
      let tr104 : Int := q96.2.2.2.2.2.2.2.1;
      let tr105 : List Int := q96.2.2.2.2.2.2.2.2.1;
      let tr106 : Int := q96.2.2.2.2.2.2.2.2.2.1;
      let tr107 : Int := q96.2.2.2.2.2.2.2.2.2.2.1;
      let tr108 : List Int := q96.2.2.2.2.2.2.2.2.2.2.2;
      some (tr97, tr98, tr99, tr100, tr101, tr102, tr103, tr104, tr105, tr106, tr107, tr108)
      else
      some (false, b85, b86, b87, b88, b89, b90, b91, b92, b93, b94, b95)) : Option (Bool × Int × Int × Int × Bool × Int × Int × Int × (List Int) × Int × Int × (List Int))).bind (fun (p109 : Bool × Int × Int × Int × Bool × Int × Int × Int × (List Int) × Int × Int × (List Int)) =>
     let typical110 : Bool := p109.1;
     let b111 : Int := p109.2.1;
     let b112 : Int := p109.2.2.1;
     let b113 : Int := p109.2.2.2.1;
     let b114 : Bool := p109.2.2.2.2.1;
     let b115 : Int := p109.2.2.2.2.2.1;
     let b116 : Int := p109.2.2.2.2.2.2.1;
     let b117 : Int := p109.2.2.2.2.2.2.2.1;
     let b118 : List Int := p109.2.2.2.2.2.2.2.2.1;
     let b119 : Int := p109.2.2.2.2.2.2.2.2.2.1;
     let b120 : Int := p109.2.2.2.2.2.2.2.2.2.2.1;
     let b121 : List Int := p109.2.2.2.2.2.2.2.2.2.2.2;
     ((if o5 = true then
       ((if typical110 = true then
         some 1
         else
         some 0) : Option (Int)).bind (fun (bit122 : Int) =>
        (refine_contexts o2).bind fun (q123 : Int) =>
        let t124 : Int := IntKind.i64.wrap (base1 + q123);
        (coder_Encoder_Put t124 bit122 b80 b81 b82 b83 b84).bind fun (q125 : Int × Int × Int × Int × (List Int) × (List Int)) =>
        let tr126 : Int := q125.1;
        let tr127 : Int := q125.2.1;
        let tr128 : Int := q125.2.2.1;
        let tr129 : Int := q125.2.2.2.1;
        let tr130 : List Int := q125.2.2.2.2.1;
        let tr131 : List Int := q125.2.2.2.2.2;
        some (tr127, tr128, tr129, tr130, tr131))
       else
       some (b80, b81, b82, b83, b84)) : Option (Int × Int × Int × (List Int) × (List Int))).bind (fun (p132 : Int × Int × Int × (List Int) × (List Int)) =>
      let b133 : Int := p132.1;
      let b134 : Int := p132.2.1;
      let b135 : Int := p132.2.2.1;
      let b136 : List Int := p132.2.2.2.1;
      let b137 : List Int := p132.2.2.2.2;
      (loop (refine_Put_loop20 base1 b7 v79 typical110) (0, b133, b134, b135, b136, b137, b111, b112, b113, b114, b115, b116, b117, b118, b119, b120, b121)).bind (fun (p239 : Int × Int × Int × (List Int) × (List Int) × Int × Int × Int × Bool × Int × Int × Int × (List Int) × Int × Int × (List Int)) =>
       let b240 : Int := p239.1;
       let b241 : Int := p239.2.1;
       let b242 : Int := p239.2.2.1;
       let b243 : List Int := p239.2.2.2.1;
       let b244 : List Int := p239.2.2.2.2.1;
       let b245 : Int := p239.2.2.2.2.2.1;
       let b246 : Int := p239.2.2.2.2.2.2.1;
       let b247 : Int := p239.2.2.2.2.2.2.2.1;
       let b248 : Bool := p239.2.2.2.2.2.2.2.2.1;
       let b249 : Int := p239.2.2.2.2.2.2.2.2.2.1;
       let b250 : Int := p239.2.2.2.2.2.2.2.2.2.2.1;
       let b251 : Int := p239.2.2.2.2.2.2.2.2.2.2.2.1;
       let b252 : List Int := p239.2.2.2.2.2.2.2.2.2.2.2.2.1;
       let b253 : Int := p239.2.2.2.2.2.2.2.2.2.2.2.2.2.1;
       let b254 : Int := p239.2.2.2.2.2.2.2.2.2.2.2.2.2.2.1;
       let b255 : List Int := p239.2.2.2.2.2.2.2.2.2.2.2.2.2.2.2;
       let t256 : Int := IntKind.i64.wrap (v79 + 1);
       some (Sum.inl (t256, b240, b241, b242, b243, b244, b245, b246, b247, b248, b249, b250, b251, b252, b253, b254, b255)))))
    else
    some (Sum.inr (b80, b81, b82, b83, b84, b85, b86, b87, b88, b89, b90, b91, b92, b93, b94, b95)))
noncomputable def refine_Put_loop11_step (base1 : Int) (o2 : Int) (o5 : Bool) (b7 : Int) (i257 : Nat) (x258 : Nat) (s259 : Int × Int × Int × (List Int) × (List Int) × Int × Int × Int × Bool × Int × Int × Int × (List Int) × Int × Int × (List Int)) : Option ((Int × Int × Int × (List Int) × (List Int) × Int × Int × Int × Bool × Int × Int × Int × (List Int) × Int × Int × (List Int)) ⊕ (Int × Int × Int × (List Int) × (List Int) × Int × Int × Int × Bool × Int × Int × Int × (List Int) × Int × Int × (List Int))) :=
   let b260 : Int := s259.1;
   let b261 : Int := s259.2.1;
   let b262 : Int := s259.2.2.1;
   let b263 : List Int := s259.2.2.2.1;
   let b264 : List Int := s259.2.2.2.2.1;
   let b265 : Int := s259.2.2.2.2.2.1;
   let b266 : Int := s259.2.2.2.2.2.2.1;
   let b267 : Int := s259.2.2.2.2.2.2.2.1;
   let b268 : Bool := s259.2.2.2.2.2.2.2.2.1;
   let b269 : Int := s259.2.2.2.2.2.2.2.2.2.1;
   let b270 : Int := s259.2.2.2.2.2.2.2.2.2.2.1;
   let b271 : Int := s259.2.2.2.2.2.2.2.2.2.2.2.1;
   let b272 : List Int := s259.2.2.2.2.2.2.2.2.2.2.2.2.1;
   let b273 : Int := s259.2.2.2.2.2.2.2.2.2.2.2.2.2.1;
   let b274 : Int := s259.2.2.2.2.2.2.2.2.2.2.2.2.2.2.1;
   let b275 : List Int := s259.2.2.2.2.2.2.2.2.2.2.2.2.2.2.2;
   ((if o5 = true then
     (refine_region_typical ((i257 : Nat) : Int) b265 b266 b267 b268 b269 b270 b271 b272 b273 b274 b275).bind fun (q96 : Bool × Int × Int × Int × Bool × Int × Int × Int × (List Int) × Int × Int × (List Int)) =>
     let tr97 : Bool := q96.1;
     let tr98 : Int := q96.2.1;
     let tr99 : Int := q96.2.2.1;
     let tr100 : Int := q96.2.2.2.1;
     let tr101 : Bool := q96.2.2.2.2.1;
     let tr102 : Int := q96.2.2.2.2.2.1;
     let tr103 : Int := q96.2.2.2.2.2.2.1;
     let tr104 : Int := q96.2.2.2.2.2.2.2.1;
     let tr105 : List Int := q96.2.2.2.2.2.2.2.2.1;
     let tr106 : Int := q96.2.2.2.2.2.2.2.2.2.1;
     let tr107 : Int := q96.2.2.2.2.2.2.2.2.2.2.1;
     let tr108 : List Int := q96.2.2.2.2.2.2.2.2.2.2.2;
     some (tr97, tr98, tr99, tr100, tr101, tr102, tr103, tr104, tr105, tr106, tr107, tr108)
     else
     some (false, b265, b266, b267, b268, b269, b270, b271, b272, b273, b274, b275)) : Option (Bool × Int × Int × Int × Bool × Int × Int × Int × (List Int) × Int × Int × (List Int))).bind (fun (p109 : Bool × Int × Int × Int × Bool × Int × Int × Int × (List Int) × Int × Int × (List Int)) =>
    let typical110 : Bool := p109.1;
    let b111 : Int := p109.2.1;
    let b112 : Int := p109.2.2.1;
    let b113 : Int := p109.2.2.2.1;
    let b114 : Bool := p109.2.2.2.2.1;
    let b115 : Int := p109.2.2.2.2.2.1;
    let b116 : Int := p109.2.2.2.2.2.2.1;
    let b117 : Int := p109.2.2.2.2.2.2.2.1;
    let b118 : List Int := p109.2.2.2.2.2.2.2.2.1;
    let b119 : Int := p109.2.2.2.2.2.2.2.2.2.1;
    let b120 : Int := p109.2.2.2.2.2.2.2.2.2.2.1;
    let b121 : List Int := p109.2.2.2.2.2.2.2.2.2.2.2;
    ((if o5 = true then
      ((if typical110 = true then
        some 1
        else
        some 0) : Option (Int)).bind (fun (bit122 : Int) =>
       (refine_contexts o2).bind fun (q123 : Int) =>
       let t124 : Int := IntKind.i64.wrap (base1 + q123);
       (coder_Encoder_Put t124 bit122 b260 b261 b262 b263 b264).bind fun (q125 : Int × Int × Int × Int × (List Int) × (List Int)) =>
       let tr126 : Int := q125.1;
       let tr127 : Int := q125.2.1;
       let tr128 : Int := q125.2.2.1;
       let tr129 : Int := q125.2.2.2.1;
       let tr130 : List Int := q125.2.2.2.2.1;
       let tr131 : List Int := q125.2.2.2.2.2;
       some (tr127, tr128, tr129, tr130, tr131))
      else
      some (b260, b261, b262, b263, b264)) : Option (Int × Int × Int × (List Int) × (List Int))).bind (fun (p132 : Int × Int × Int × (List Int) × (List Int)) =>
     let b133 : Int := p132.1;
     let b134 : Int := p132.2.1;
     let b135 : Int := p132.2.2.1;
     let b136 : List Int := p132.2.2.2.1;
     let b137 : List Int := p132.2.2.2.2;
     (loop (refine_Put_loop20 base1 b7 ((i257 : Nat) : Int) typical110) (0, b133, b134, b135, b136, b137, b111, b112, b113, b114, b115, b116, b117, b118, b119, b120, b121)).bind (fun (p239 : Int × Int × Int × (List Int) × (List Int) × Int × Int × Int × Bool × Int × Int × Int × (List Int) × Int × Int × (List Int)) =>
      let b240 : Int := p239.1;
      let b241 : Int := p239.2.1;
      let b242 : Int := p239.2.2.1;
      let b243 : List Int := p239.2.2.2.1;
      let b244 : List Int := p239.2.2.2.2.1;
      let b245 : Int := p239.2.2.2.2.2.1;
      let b246 : Int := p239.2.2.2.2.2.2.1;
      let b247 : Int := p239.2.2.2.2.2.2.2.1;
      let b248 : Bool := p239.2.2.2.2.2.2.2.2.1;
      let b249 : Int := p239.2.2.2.2.2.2.2.2.2.1;
      let b250 : Int := p239.2.2.2.2.2.2.2.2.2.2.1;
      let b251 : Int := p239.2.2.2.2.2.2.2.2.2.2.2.1;
      let b252 : List Int := p239.2.2.2.2.2.2.2.2.2.2.2.2.1;
      let b253 : Int := p239.2.2.2.2.2.2.2.2.2.2.2.2.2.1;
      let b254 : Int := p239.2.2.2.2.2.2.2.2.2.2.2.2.2.2.1;
      let b255 : List Int := p239.2.2.2.2.2.2.2.2.2.2.2.2.2.2.2;
      some (Sum.inl ((b240, b241, b242, b243, b244, b245, b246, b247, b248, b249, b250, b251, b252, b253, b254, b255))))))
theorem refine_Put_loop11_overAt (base1 : Int) (o2 : Int) (o5 : Bool) (b7 : Int) (b8 : Int) (hl : (List.range (b8).toNat).length ≤ 4611686018427387904) (k : Nat) (s259 : Int × Int × Int × (List Int) × (List Int) × Int × Int × Int × Bool × Int × Int × Int × (List Int) × Int × Int × (List Int)) (hk : k ≤ (List.range (b8).toNat).length) : loop (refine_Put_loop11 base1 o2 o5 b7 b8) ((((k : Nat) : Int), s259.1, s259.2.1, s259.2.2.1, s259.2.2.2.1, s259.2.2.2.2.1, s259.2.2.2.2.2.1, s259.2.2.2.2.2.2.1, s259.2.2.2.2.2.2.2.1, s259.2.2.2.2.2.2.2.2.1, s259.2.2.2.2.2.2.2.2.2.1, s259.2.2.2.2.2.2.2.2.2.2.1, s259.2.2.2.2.2.2.2.2.2.2.2.1, s259.2.2.2.2.2.2.2.2.2.2.2.2.1, s259.2.2.2.2.2.2.2.2.2.2.2.2.2.1, s259.2.2.2.2.2.2.2.2.2.2.2.2.2.2.1, s259.2.2.2.2.2.2.2.2.2.2.2.2.2.2.2) : Int × Int × Int × Int × (List Int) × (List Int) × Int × Int × Int × Bool × Int × Int × Int × (List Int) × Int × Int × (List Int)) =
    overL (refine_Put_loop11_step base1 o2 o5 b7) (fun (s259 : Int × Int × Int × (List Int) × (List Int) × Int × Int × Int × Bool × Int × Int × Int × (List Int) × Int × Int × (List Int)) => let b260 : Int := s259.1; let b261 : Int := s259.2.1; let b262 : Int := s259.2.2.1; let b263 : List Int := s259.2.2.2.1; let b264 : List Int := s259.2.2.2.2.1; let b265 : Int := s259.2.2.2.2.2.1; let b266 : Int := s259.2.2.2.2.2.2.1; let b267 : Int := s259.2.2.2.2.2.2.2.1; let b268 : Bool := s259.2.2.2.2.2.2.2.2.1; let b269 : Int := s259.2.2.2.2.2.2.2.2.2.1; let b270 : Int := s259.2.2.2.2.2.2.2.2.2.2.1; let b271 : Int := s259.2.2.2.2.2.2.2.2.2.2.2.1; let b272 : List Int := s259.2.2.2.2.2.2.2.2.2.2.2.2.1; let b273 : Int := s259.2.2.2.2.2.2.2.2.2.2.2.2.2.1; let b274 : Int := s259.2.2.2.2.2.2.2.2.2.2.2.2.2.2.1; let b275 : List Int := s259.2.2.2.2.2.2.2.2.2.2.2.2.2.2.2; some (b260, b261, b262, b263, b264, b265, b266, b267, b268, b269, b270, b271, b272, b273, b274, b275)) k ((List.range (b8).toNat).drop k) s259 := by
  refine loop_over (List.range (b8).toNat) (fun n (s : Int × Int × Int × (List Int) × (List Int) × Int × Int × Int × Bool × Int × Int × Int × (List Int) × Int × Int × (List Int)) => ((((n : Nat) : Int), s.1, s.2.1, s.2.2.1, s.2.2.2.1, s.2.2.2.2.1, s.2.2.2.2.2.1, s.2.2.2.2.2.2.1, s.2.2.2.2.2.2.2.1, s.2.2.2.2.2.2.2.2.1, s.2.2.2.2.2.2.2.2.2.1, s.2.2.2.2.2.2.2.2.2.2.1, s.2.2.2.2.2.2.2.2.2.2.2.1, s.2.2.2.2.2.2.2.2.2.2.2.2.1, s.2.2.2.2.2.2.2.2.2.2.2.2.2.1, s.2.2.2.2.2.2.2.2.2.2.2.2.2.2.1, s.2.2.2.2.2.2.2.2.2.2.2.2.2.2.2) : Int × Int × Int × Int × (List Int) × (List Int) × Int × Int × Int × Bool × Int × Int × Int × (List Int) × Int × Int × (List Int))) _ _ (fun s => ?_) (fun i x s h => ?_) k s259 hk
  · have h1 : ¬ (((List.range (b8).toNat).length : Nat) : Int) < b8 := by simp only [List.length_range]; omega
    unfold refine_Put_loop11; simp only [h1, decide_false, Bool.false_eq_true, if_false, Option.map_some]
  · have hlt := lt_len_of_get h
    rw [List.length_range] at hlt hl
    rw [List.getElem?_range hlt] at h
    cases h
    have h1 : ((i : Nat) : Int) < b8 := by omega
    have h0 : (0 : Int) ≤ ((i : Nat) : Int) := by omega
    have hw : IntKind.i64.wrap (((i : Nat) : Int) + 1) = (((i + 1 : Nat) : Nat) : Int) := w64 (by omega)
    unfold refine_Put_loop11 refine_Put_loop11_step
    simp only [h1, h0, hw, decide_true, if_true, and_self, true_and, Int.toNat_natCast, Option.bind_some, Option.map_bind, Function.comp_def, map_ite, map_elim, Option.map_some, Option.map_none]
theorem refine_Put_loop11_over (base1 : Int) (o2 : Int) (o5 : Bool) (b7 : Int) (b8 : Int) (hl : (List.range (b8).toNat).length ≤ 4611686018427387904) (s259 : Int × Int × Int × (List Int) × (List Int) × Int × Int × Int × Bool × Int × Int × Int × (List Int) × Int × Int × (List Int)) : loop (refine_Put_loop11 base1 o2 o5 b7 b8) ((0, s259.1, s259.2.1, s259.2.2.1, s259.2.2.2.1, s259.2.2.2.2.1, s259.2.2.2.2.2.1, s259.2.2.2.2.2.2.1, s259.2.2.2.2.2.2.2.1, s259.2.2.2.2.2.2.2.2.1, s259.2.2.2.2.2.2.2.2.2.1, s259.2.2.2.2.2.2.2.2.2.2.1, s259.2.2.2.2.2.2.2.2.2.2.2.1, s259.2.2.2.2.2.2.2.2.2.2.2.2.1, s259.2.2.2.2.2.2.2.2.2.2.2.2.2.1, s259.2.2.2.2.2.2.2.2.2.2.2.2.2.2.1, s259.2.2.2.2.2.2.2.2.2.2.2.2.2.2.2) : Int × Int × Int × Int × (List Int) × (List Int) × Int × Int × Int × Bool × Int × Int × Int × (List Int) × Int × Int × (List Int)) =
    overL (refine_Put_loop11_step base1 o2 o5 b7) (fun (s259 : Int × Int × Int × (List Int) × (List Int) × Int × Int × Int × Bool × Int × Int × Int × (List Int) × Int × Int × (List Int)) => let b260 : Int := s259.1; let b261 : Int := s259.2.1; let b262 : Int := s259.2.2.1; let b263 : List Int := s259.2.2.2.1; let b264 : List Int := s259.2.2.2.2.1; let b265 : Int := s259.2.2.2.2.2.1; let b266 : Int := s259.2.2.2.2.2.2.1; let b267 : Int := s259.2.2.2.2.2.2.2.1; let b268 : Bool := s259.2.2.2.2.2.2.2.2.1; let b269 : Int := s259.2.2.2.2.2.2.2.2.2.1; let b270 : Int := s259.2.2.2.2.2.2.2.2.2.2.1; let b271 : Int := s259.2.2.2.2.2.2.2.2.2.2.2.1; let b272 : List Int := s259.2.2.2.2.2.2.2.2.2.2.2.2.1; let b273 : Int := s259.2.2.2.2.2.2.2.2.2.2.2.2.2.1; let b274 : Int := s259.2.2.2.2.2.2.2.2.2.2.2.2.2.2.1; let b275 : List Int := s259.2.2.2.2.2.2.2.2.2.2.2.2.2.2.2; some (b260, b261, b262, b263, b264, b265, b266, b267, b268, b269, b270, b271, b272, b273, b274, b275)) 0 (List.range (b8).toNat) s259 := refine_Put_loop11_overAt base1 o2 o5 b7 b8 hl 0 s259 (Nat.zero_le _)

theorem refine_Put_eq (base1 : Int) (o2 : Int) (o3 : Int) (o4 : Int) (o5 : Bool) (o6 : Int) (b7 : Int) (b8 : Int) (b9 : List Int) (r10 : Int) (r11 : Int) (r12 : List Int) (b13 : Int) (b14 : Int) (b15 : Int) (b16 : List Int) (b17 : List Int) : refine_Put base1 o2 o3 o4 o5 o6 b7 b8 b9 r10 r11 r12 b13 b14 b15 b16 b17 =
   (coder_Encoder_Put (-1) 0 b13 b14 b15 b16 b17).bind fun (q18 : Int × Int × Int × Int × (List Int) × (List Int)) =>
   let tr19 : Int := q18.1;
   let tr20 : Int := q18.2.1;
   let tr21 : Int := q18.2.2.1;
   let tr22 : Int := q18.2.2.2.1;
   let tr23 : List Int := q18.2.2.2.2.1;
   let tr24 : List Int := q18.2.2.2.2.2;
   ((if (decide (tr19 = 7)) = true then
     some (Sum.inr (7, tr20, tr21, tr22, tr23, tr24))
     else
     (refine_Valid o2 o3 o4 o5 o6).bind fun (q25 : Bool) =>
     ((if (!q25) = true then
       some (Sum.inr (2, tr20, tr21, tr22, tr23, tr24))
       else
       ((bitmap_Valid b7 b8 b9).bind fun (q26 : Bool) =>
        (if (!q26) = true then
         some true
         else
         (bitmap_Valid r10 r11 r12).bind fun (q27 : Bool) =>
         some (!q27)) : Option (Bool)).bind (fun (v28 : Bool) =>
        (if v28 = true then
         some (Sum.inr (30, tr20, tr21, tr22, tr23, tr24))
         else
         (coder_Encoder_Model tr20 tr21 tr22 tr23 tr24).bind fun (q29 : Int × (List Int) × Int × Int × Int × (List Int) × (List Int)) =>
         let tr30 : Int := q29.1;
         let tr31 : List Int := q29.2.1;
         let tr32 : Int := q29.2.2.1;
         let tr33 : Int := q29.2.2.2.1;
         let tr34 : Int := q29.2.2.2.2.1;
         let tr35 : List Int := q29.2.2.2.2.2.1;
         let tr36 : List Int := q29.2.2.2.2.2.2;
         (refine_fits tr30 tr31 base1 o2 o3 o4 o5 o6).bind fun (q37 : Bool) =>
         (if (!q37) = true then
          some (Sum.inr (2, tr32, tr33, tr34, tr35, tr36))
          else
          some (Sum.inl (tr32, tr33, tr34, tr35, tr36)))))) : Option ((Int × Int × Int × (List Int) × (List Int)) ⊕ (Int × Int × Int × Int × (List Int) × (List Int)))).bind (fun (o51 : (Int × Int × Int × (List Int) × (List Int)) ⊕ (Int × Int × Int × Int × (List Int) × (List Int))) =>
      (Sum.elim (fun (p38 : Int × Int × Int × (List Int) × (List Int)) =>
        let b39 : Int := p38.1;
        let b40 : Int := p38.2.1;
        let b41 : Int := p38.2.2.1;
        let b42 : List Int := p38.2.2.2.1;
        let b43 : List Int := p38.2.2.2.2;
        some (Sum.inl (b39, b40, b41, b42, b43)))
       (fun (p44 : Int × Int × Int × Int × (List Int) × (List Int)) =>
        let v45 : Int := p44.1;
        let b46 : Int := p44.2.1;
        let b47 : Int := p44.2.2.1;
        let b48 : Int := p44.2.2.2.1;
        let b49 : List Int := p44.2.2.2.2.1;
        let b50 : List Int := p44.2.2.2.2.2;
        some (Sum.inr (v45, b46, b47, b48, b49, b50))) o51))) : Option ((Int × Int × Int × (List Int) × (List Int)) ⊕ (Int × Int × Int × Int × (List Int) × (List Int)))).bind (fun (o65 : (Int × Int × Int × (List Int) × (List Int)) ⊕ (Int × Int × Int × Int × (List Int) × (List Int))) =>
    (Sum.elim (fun (p52 : Int × Int × Int × (List Int) × (List Int)) =>
      let b53 : Int := p52.1;
      let b54 : Int := p52.2.1;
      let b55 : Int := p52.2.2.1;
      let b56 : List Int := p52.2.2.2.1;
      let b57 : List Int := p52.2.2.2.2;
      (refine_newRegion o2 o3 o4 o5 o6 b7 b8 b9 r10 r11 r12).bind fun (q66 : Int × Int × Int × Bool × Int × Int × Int × (List Int) × Int × Int × (List Int)) =>
      let tr67 : Int := q66.1;
      let tr68 : Int := q66.2.1;
      let tr69 : Int := q66.2.2.1;
      let tr70 : Bool := q66.2.2.2.1;
      let tr71 : Int := q66.2.2.2.2.1;
      let tr72 : Int := q66.2.2.2.2.2.1;
      let tr73 : Int := q66.2.2.2.2.2.2.1;
      let tr74 : List Int := q66.2.2.2.2.2.2.2.1;
      let tr75 : Int := q66.2.2.2.2.2.2.2.2.1;
      let tr76 : Int := q66.2.2.2.2.2.2.2.2.2.1;
      let tr77 : List Int := q66.2.2.2.2.2.2.2.2.2.2;
      (loop (refine_Put_loop11 base1 o2 o5 b7 b8) (0, b53, b54, b55, b56, b57, tr67, tr68, tr69, tr70, tr71, tr72, tr73, tr74, tr75, tr76, tr77)).bind (fun (p276 : Int × Int × Int × (List Int) × (List Int) × Int × Int × Int × Bool × Int × Int × Int × (List Int) × Int × Int × (List Int)) =>
       let b277 : Int := p276.1;
       let b278 : Int := p276.2.1;
       let b279 : Int := p276.2.2.1;
       let b280 : List Int := p276.2.2.2.1;
       let b281 : List Int := p276.2.2.2.2.1;
       let b282 : Int := p276.2.2.2.2.2.1;
       let b283 : Int := p276.2.2.2.2.2.2.1;
       let b284 : Int := p276.2.2.2.2.2.2.2.1;
       let b285 : Bool := p276.2.2.2.2.2.2.2.2.1;
       let b286 : Int := p276.2.2.2.2.2.2.2.2.2.1;
       let b287 : Int := p276.2.2.2.2.2.2.2.2.2.2.1;
       let b288 : Int := p276.2.2.2.2.2.2.2.2.2.2.2.1;
       let b289 : List Int := p276.2.2.2.2.2.2.2.2.2.2.2.2.1;
       let b290 : Int := p276.2.2.2.2.2.2.2.2.2.2.2.2.2.1;
       let b291 : Int := p276.2.2.2.2.2.2.2.2.2.2.2.2.2.2.1;
       let b292 : List Int := p276.2.2.2.2.2.2.2.2.2.2.2.2.2.2.2;
       some (0, b277, b278, b279, b280, b281)))
     (fun (p58 : Int × Int × Int × Int × (List Int) × (List Int)) =>
      let v59 : Int := p58.1;
      let b60 : Int := p58.2.1;
      let b61 : Int := p58.2.2.1;
      let b62 : Int := p58.2.2.2.1;
      let b63 : List Int := p58.2.2.2.2.1;
      let b64 : List Int := p58.2.2.2.2.2;
      some (v59, b60, b61, b62, b63, b64)) o65)) := (call_eq ..).trans (by kernel_rfl)

theorem bits_Signed_eq (n1 : Int) : bits_Signed n1 =
   ((if (decide (n1 ≥ 0)) = true then
     some (decide (n1 < 1073741824))
     else
     some false) : Option (Bool)).bind (fun (v2 : Bool) =>
    (if v2 = true then
     let t3 : Int := IntKind.i64.wrap (2 * n1);
     (bits_Size t3).bind fun (q4 : (List Int) × Int) =>
     let tr5 : List Int := q4.1;
     let tr6 : Int := q4.2;
     some (tr5, tr6)
     else
     ((if (decide (n1 < 0)) = true then
       some (decide (n1 ≥ (-1073741824)))
       else
       some false) : Option (Bool)).bind (fun (v7 : Bool) =>
      (if v7 = true then
       let t8 : Int := IntKind.i64.wrap ((-2) * n1);
       let t9 : Int := IntKind.i64.wrap (t8 - 1);
       (bits_Size t9).bind fun (q10 : (List Int) × Int) =>
       let tr11 : List Int := q10.1;
       let tr12 : Int := q10.2;
       some (tr11, tr12)
       else
       some ([], 2))))) := (call_eq ..).trans (by kernel_rfl)

theorem ref08_Valid_eq (o1 : Int) (o2 : Int) (o3 : Int) (o4 : Bool) (o5 : Int) : ref08_Valid o1 o2 o3 o4 o5 =
   ((if (decide (o2 ≥ (-200))) = true then
     (if (decide (o2 ≤ 200)) = true then
      (if (decide (o3 ≥ (-200))) = true then
       some (decide (o3 ≤ 200))
       else
       some false)
      else
      some false)
     else
     some false) : Option (Bool)).bind (fun (side6 : Bool) =>
    (if side6 = true then
     (if (decide (o1 ≥ 0)) = true then
      (if (decide (o1 ≤ 1)) = true then
       (if (decide (o5 ≥ 0)) = true then
        some (decide (o5 ≤ 1))
        else
        some false)
       else
       some false)
      else
      some false)
     else
     some false)) := (call_eq ..).trans (by kernel_rfl)

theorem ref08_fresh_eq (o1 : Int) (o2 : Int) (o3 : Int) (o4 : Bool) (o5 : Int) : ref08_fresh o1 o2 o3 o4 o5 =
   (ref08_size o1).bind fun (q6 : Int) =>
   (if 0 ≤ q6 ∧ q6 ≤ q6 ∧ ((8 : Nat) : Int) * q6 ≤ 281474976710656 then
    let t7 : List Int := List.replicate q6.toNat 0;
    some (o5, t7)
    else
    none) := (call_eq ..).trans (by kernel_rfl)

noncomputable def ref08_Put_loop17 (base1 : Int) (o2 : Int) (o3 : Int) (o4 : Int) (o5 : Bool) (o6 : Int) (b7 : Int) (b8 : Int) (b9 : List Int) (r10 : Int) (r11 : Int) (r12 : List Int) (y27 : Int) (typical34 : Bool) (s49 : Int × Int × Int × Int × (List Int) × (List Int)) : Option ((Int × Int × Int × Int × (List Int) × (List Int)) ⊕ (Int × Int × Int × (List Int) × (List Int))) :=
   let x50 : Int := s49.1;
   let b51 : Int := s49.2.1;
   let b52 : Int := s49.2.2.1;
   let b53 : Int := s49.2.2.2.1;
   let b54 : List Int := s49.2.2.2.2.1;
   let b55 : List Int := s49.2.2.2.2.2;
   (if (decide (x50 < b7)) = true then
    (ref08_Alike o2 o3 o4 o5 o6 r10 r11 r12 x50 y27).bind fun (q56 : Int × Bool) =>
    let tr57 : Int := q56.1;
    let tr58 : Bool := q56.2;
    ((if (!typical34) = true then
      some true
      else
      some (!tr58)) : Option (Bool)).bind (fun (v59 : Bool) =>
     (if v59 = true then
      (ref08_Context o2 o3 o4 o5 o6 b7 b8 b9 r10 r11 r12 x50 y27).bind fun (q60 : Int) =>
      let t61 : Int := IntKind.i64.wrap (base1 + q60);
      (ref06_Pix b7 b8 b9 x50 y27).bind fun (q62 : Int) =>
      let t63 : Int := IntKind.i64.wrap q62;
      (ref02_Encoder_Put t61 t63 b51 b52 b53 b54 b55).bind fun (q64 : Int × Int × Int × Int × (List Int) × (List Int)) =>
      let tr65 : Int := q64.1;
      let tr66 : Int := q64.2.1;
      let tr67 : Int := q64.2.2.1;
      let tr68 : Int := q64.2.2.2.1;
      let tr69 : List Int := q64.2.2.2.2.1;
      let tr70 : List Int := q64.2.2.2.2.2;
      let t71 : Int := IntKind.i64.wrap (x50 + 1);
      some (Sum.inl (t71, tr66, tr67, tr68, tr69, tr70))
      else
      let t72 : Int := IntKind.i64.wrap (x50 + 1);
      some (Sum.inl (t72, b51, b52, b53, b54, b55))))
    else
    some (Sum.inr (b51, b52, b53, b54, b55)))
noncomputable def ref08_Put_loop17_step (base1 : Int) (o2 : Int) (o3 : Int) (o4 : Int) (o5 : Bool) (o6 : Int) (b7 : Int) (b8 : Int) (b9 : List Int) (r10 : Int) (r11 : Int) (r12 : List Int) (y27 : Int) (typical34 : Bool) (i73 : Nat) (x74 : Nat) (s75 : Int × Int × Int × (List Int) × (List Int)) : Option ((Int × Int × Int × (List Int) × (List Int)) ⊕ (Int × Int × Int × (List Int) × (List Int))) :=
   let b76 : Int := s75.1;
   let b77 : Int := s75.2.1;
   let b78 : Int := s75.2.2.1;
   let b79 : List Int := s75.2.2.2.1;
   let b80 : List Int := s75.2.2.2.2;
   (ref08_Alike o2 o3 o4 o5 o6 r10 r11 r12 ((i73 : Nat) : Int) y27).bind fun (q56 : Int × Bool) =>
   let tr57 : Int := q56.1;
   let tr58 : Bool := q56.2;
   ((if (!typical34) = true then
     some true
     else
     some (!tr58)) : Option (Bool)).bind (fun (v59 : Bool) =>
    (if v59 = true then
     (ref08_Context o2 o3 o4 o5 o6 b7 b8 b9 r10 r11 r12 ((i73 : Nat) : Int) y27).bind fun (q60 : Int) =>
     let t61 : Int := IntKind.i64.wrap (base1 + q60);
     (ref06_Pix b7 b8 b9 ((i73 : Nat) : Int) y27).bind fun (q62 : Int) =>
     let t63 : Int := IntKind.i64.wrap q62;
     (ref02_Encoder_Put t61 t63 b76 b77 b78 b79 b80).bind fun (q64 : Int × Int × Int × Int × (List Int) × (List Int)) =>
     let tr65 : Int := q64.1;
     let tr66 : Int := q64.2.1;
     let tr67 : Int := q64.2.2.1;
     let tr68 : Int := q64.2.2.2.1;
     let tr69 : List Int := q64.2.2.2.2.1;
     let tr70 : List Int := q64.2.2.2.2.2;
     some (Sum.inl ((tr66, tr67, tr68, tr69, tr70)))
     else
     some (Sum.inl ((b76, b77, b78, b79, b80)))))
theorem ref08_Put_loop17_overAt (base1 : Int) (o2 : Int) (o3 : Int) (o4 : Int) (o5 : Bool) (o6 : Int) (b7 : Int) (b8 : Int) (b9 : List Int) (r10 : Int) (r11 : Int) (r12 : List Int) (y27 : Int) (typical34 : Bool) (hl : (List.range (b7).toNat).length ≤ 4611686018427387904) (k : Nat) (s75 : Int × Int × Int × (List Int) × (List Int)) (hk : k ≤ (List.range (b7).toNat).length) : loop (ref08_Put_loop17 base1 o2 o3 o4 o5 o6 b7 b8 b9 r10 r11 r12 y27 typical34) ((((k : Nat) : Int), s75.1, s75.2.1, s75.2.2.1, s75.2.2.2.1, s75.2.2.2.2) : Int × Int × Int × Int × (List Int) × (List Int)) =
    overL (ref08_Put_loop17_step base1 o2 o3 o4 o5 o6 b7 b8 b9 r10 r11 r12 y27 typical34) (fun (s75 : Int × Int × Int × (List Int) × (List Int)) => let b76 : Int := s75.1; let b77 : Int := s75.2.1; let b78 : Int := s75.2.2.1; let b79 : List Int := s75.2.2.2.1; let b80 : List Int := s75.2.2.2.2; some (b76, b77, b78, b79, b80)) k ((List.range (b7).toNat).drop k) s75 := by
  refine loop_over (List.range (b7).toNat) (fun n (s : Int × Int × Int × (List Int) × (List Int)) => ((((n : Nat) : Int), s.1, s.2.1, s.2.2.1, s.2.2.2.1, s.2.2.2.2) : Int × Int × Int × Int × (List Int) × (List Int))) _ _ (fun s => ?_) (fun i x s h => ?_) k s75 hk
  · have h1 : ¬ (((List.range (b7).toNat).length : Nat) : Int) < b7 := by simp only [List.length_range]; omega
    unfold ref08_Put_loop17; simp only [h1, decide_false, Bool.false_eq_true, if_false, Option.map_some]
  · have hlt := lt_len_of_get h
    rw [List.length_range] at hlt hl
    rw [List.getElem?_range hlt] at h
    cases h
    have h1 : ((i : Nat) : Int) < b7 := by omega
    have h0 : (0 : Int) ≤ ((i : Nat) : Int) := by omega
    have hw : IntKind.i64.wrap (((i : Nat) : Int) + 1) = (((i + 1 : Nat) : Nat) : Int) := w64 (by omega)
    unfold ref08_Put_loop17 ref08_Put_loop17_step
    simp only [h1, h0, hw, decide_true, if_true, and_self, true_and, Int.toNat_natCast, Option.bind_some, Option.map_bind, Function.comp_def, map_ite, map_elim, Option.map_some, Option.map_none]
theorem ref08_Put_loop17_over (base1 : Int) (o2 : Int) (o3 : Int) (o4 : Int) (o5 : Bool) (o6 : Int) (b7 : Int) (b8 : Int) (b9 : List Int) (r10 : Int) (r11 : Int) (r12 : List Int) (y27 : Int) (typical34 : Bool) (hl : (List.range (b7).toNat).length ≤ 4611686018427387904) (s75 : Int × Int × Int × (List Int) × (List Int)) : loop (ref08_Put_loop17 base1 o2 o3 o4 o5 o6 b7 b8 b9 r10 r11 r12 y27 typical34) ((0, s75.1, s75.2.1, s75.2.2.1, s75.2.2.2.1, s75.2.2.2.2) : Int × Int × Int × Int × (List Int) × (List Int)) =
    overL (ref08_Put_loop17_step base1 o2 o3 o4 o5 o6 b7 b8 b9 r10 r11 r12 y27 typical34) (fun (s75 : Int × Int × Int × (List Int) × (List Int)) => let b76 : Int := s75.1; let b77 : Int := s75.2.1; let b78 : Int := s75.2.2.1; let b79 : List Int := s75.2.2.2.1; let b80 : List Int := s75.2.2.2.2; some (b76, b77, b78, b79, b80)) 0 (List.range (b7).toNat) s75 := ref08_Put_loop17_overAt base1 o2 o3 o4 o5 o6 b7 b8 b9 r10 r11 r12 y27 typical34 hl 0 s75 (Nat.zero_le _)

noncomputable def ref08_Put_loop8 (base1 : Int) (o2 : Int) (o3 : Int) (o4 : Int) (o5 : Bool) (o6 : Int) (b7 : Int) (b8 : Int) (b9 : List Int) (r10 : Int) (r11 : Int) (r12 : List Int) (t25 : Int) (s26 : Int × Int × Int × Int × (List Int) × (List Int)) : Option ((Int × Int × Int × Int × (List Int) × (List Int)) ⊕ (Int × Int × Int × (List Int) × (List Int))) :=
   let y27 : Int := s26.1;
   let b28 : Int := s26.2.1;
   let b29 : Int := s26.2.2.1;
   let b30 : Int := s26.2.2.2.1;
   let b31 : List Int := s26.2.2.2.2.1;
   let b32 : List Int := s26.2.2.2.2.2;
   (if (decide (y27 < b8)) = true then
    ((if o5 = true then
      (ref08_Row o2 o3 o4 o5 o6 b7 b8 b9 r10 r11 r12 y27).bind fun (q33 : Bool) =>
      some q33
      else
      some false) : Option (Bool)).bind (fun (typical34 : Bool) =>
     ((if o5 = true then
       ((if typical34 = true then
         some 1
         else
         some 0) : Option (Int)).bind (fun (bit35 : Int) =>
        (ref02_Encoder_Put t25 bit35 b28 b29 b30 b31 b32).bind fun (q36 : Int × Int × Int × Int × (List Int) × (List Int)) =>
        let tr37 : Int := q36.1;
        let tr38 : Int := q36.2.1;
        let tr39 : Int := q36.2.2.1;
        let tr40 : Int := q36.2.2.2.1;
        let tr41 : List Int := q36.2.2.2.2.1;
        let tr42 : List Int := q36.2.2.2.2.2;
        some (tr38, tr39, tr40, tr41, tr42))
       else
       some (b28, b29, b30, b31, b32)) : Option (Int × Int × Int × (List Int) × (List Int))).bind (fun (p43 : Int × Int × Int × (List Int) × (List Int)) =>
      let b44 : Int := p43.1;
      let b45 : Int := p43.2.1;
      let b46 : Int := p43.2.2.1;
      let b47 : List Int := p43.2.2.2.1;
      let b48 : List Int := p43.2.2.2.2;
      (loop (ref08_Put_loop17 base1 o2 o3 o4 o5 o6 b7 b8 b9 r10 r11 r12 y27 typical34) (0, b44, b45, b46, b47, b48)).bind (fun (p81 : Int × Int × Int × (List Int) × (List Int)) =>
       let b82 : Int := p81.1;
       let b83 : Int := p81.2.1;
       let b84 : Int := p81.2.2.1;
       let b85 : List Int := p81.2.2.2.1;
       let b86 : List Int := p81.2.2.2.2;
       let t87 : Int := IntKind.i64.wrap (y27 + 1);
       some (Sum.inl (t87, b82, b83, b84, b85, b86)))))
    else
    some (Sum.inr (b28, b29, b30, b31, b32)))
noncomputable def ref08_Put_loop8_step (base1 : Int) (o2 : Int) (o3 : Int) (o4 : Int) (o5 : Bool) (o6 : Int) (b7 : Int) (b8 : Int) (b9 : List Int) (r10 : Int) (r11 : Int) (r12 : List Int) (t25 : Int) (i88 : Nat) (x89 : Nat) (s90 : Int × Int × Int × (List Int) × (List Int)) : Option ((Int × Int × Int × (List Int) × (List Int)) ⊕ (Int × Int × Int × (List Int) × (List Int))) :=
   let b91 : Int := s90.1;
   let b92 : Int := s90.2.1;
   let b93 : Int := s90.2.2.1;
   let b94 : List Int := s90.2.2.2.1;
   let b95 : List Int := s90.2.2.2.2;
   ((if o5 = true then
     (ref08_Row o2 o3 o4 o5 o6 b7 b8 b9 r10 r11 r12 ((i88 : Nat) : Int)).bind fun (q33 : Bool) =>
     some q33
     else
     some false) : Option (Bool)).bind (fun (typical34 : Bool) =>
    ((if o5 = true then
      ((if typical34 = true then
        some 1
        else
        some 0) : Option (Int)).bind (fun (bit35 : Int) =>
       (ref02_Encoder_Put t25 bit35 b91 b92 b93 b94 b95).bind fun (q36 : Int × Int × Int × Int × (List Int) × (List Int)) =>
       let tr37 : Int := q36.1;
       let tr38 : Int := q36.2.1;
       let tr39 : Int := q36.2.2.1;
       let tr40 : Int := q36.2.2.2.1;
       let tr41 : List Int := q36.2.2.2.2.1;
       let tr42 : List Int := q36.2.2.2.2.2;
       some (tr38, tr39, tr40, tr41, tr42))
      else
      some (b91, b92, b93, b94, b95)) : Option (Int × Int × Int × (List Int) × (List Int))).bind (fun (p43 : Int × Int × Int × (List Int) × (List Int)) =>
     let b44 : Int := p43.1;
     let b45 : Int := p43.2.1;
     let b46 : Int := p43.2.2.1;
     let b47 : List Int := p43.2.2.2.1;
     let b48 : List Int := p43.2.2.2.2;
     (loop (ref08_Put_loop17 base1 o2 o3 o4 o5 o6 b7 b8 b9 r10 r11 r12 ((i88 : Nat) : Int) typical34) (0, b44, b45, b46, b47, b48)).bind (fun (p81 : Int × Int × Int × (List Int) × (List Int)) =>
      let b82 : Int := p81.1;
      let b83 : Int := p81.2.1;
      let b84 : Int := p81.2.2.1;
      let b85 : List Int := p81.2.2.2.1;
      let b86 : List Int := p81.2.2.2.2;
      some (Sum.inl ((b82, b83, b84, b85, b86))))))
theorem ref08_Put_loop8_overAt (base1 : Int) (o2 : Int) (o3 : Int) (o4 : Int) (o5 : Bool) (o6 : Int) (b7 : Int) (b8 : Int) (b9 : List Int) (r10 : Int) (r11 : Int) (r12 : List Int) (t25 : Int) (hl : (List.range (b8).toNat).length ≤ 4611686018427387904) (k : Nat) (s90 : Int × Int × Int × (List Int) × (List Int)) (hk : k ≤ (List.range (b8).toNat).length) : loop (ref08_Put_loop8 base1 o2 o3 o4 o5 o6 b7 b8 b9 r10 r11 r12 t25) ((((k : Nat) : Int), s90.1, s90.2.1, s90.2.2.1, s90.2.2.2.1, s90.2.2.2.2) : Int × Int × Int × Int × (List Int) × (List Int)) =
    overL (ref08_Put_loop8_step base1 o2 o3 o4 o5 o6 b7 b8 b9 r10 r11 r12 t25) (fun (s90 : Int × Int × Int × (List Int) × (List Int)) => let b91 : Int := s90.1; let b92 : Int := s90.2.1; let b93 : Int := s90.2.2.1; let b94 : List Int := s90.2.2.2.1; let b95 : List Int := s90.2.2.2.2; some (b91, b92, b93, b94, b95)) k ((List.range (b8).toNat).drop k) s90 := by
  refine loop_over (List.range (b8).toNat) (fun n (s : Int × Int × Int × (List Int) × (List Int)) => ((((n : Nat) : Int), s.1, s.2.1, s.2.2.1, s.2.2.2.1, s.2.2.2.2) : Int × Int × Int × Int × (List Int) × (List Int))) _ _ (fun s => ?_) (fun i x s h => ?_) k s90 hk
  · have h1 : ¬ (((List.range (b8).toNat).length : Nat) : Int) < b8 := by simp only [List.length_range]; omega
    unfold ref08_Put_loop8; simp only [h1, decide_false, Bool.false_eq_true, if_false, Option.map_some]
  · have hlt := lt_len_of_get h
    rw [List.length_range] at hlt hl
    rw [List.getElem?_range hlt] at h
    cases h
    have h1 : ((i : Nat) : Int) < b8 := by omega
    have h0 : (0 : Int) ≤ ((i : Nat) : Int) := by omega
    have hw : IntKind.i64.wrap (((i : Nat) : Int) + 1) = (((i + 1 : Nat) : Nat) : Int) := w64 (by omega)
    unfold ref08_Put_loop8 ref08_Put_loop8_step
    simp only [h1, h0, hw, decide_true, if_true, and_self, true_and, Int.toNat_natCast, Option.bind_some, Option.map_bind, Function.comp_def, map_ite, map_elim, Option.map_some, Option.map_none]
theorem ref08_Put_loop8_over (base1 : Int) (o2 : Int) (o3 : Int) (o4 : Int) (o5 : Bool) (o6 : Int) (b7 : Int) (b8 : Int) (b9 : List Int) (r10 : Int) (r11 : Int) (r12 : List Int) (t25 : Int) (hl : (List.range (b8).toNat).length ≤ 4611686018427387904) (s90 : Int × Int × Int × (List Int) × (List Int)) : loop (ref08_Put_loop8 base1 o2 o3 o4 o5 o6 b7 b8 b9 r10 r11 r12 t25) ((0, s90.1, s90.2.1, s90.2.2.1, s90.2.2.2.1, s90.2.2.2.2) : Int × Int × Int × Int × (List Int) × (List Int)) =
    overL (ref08_Put_loop8_step base1 o2 o3 o4 o5 o6 b7 b8 b9 r10 r11 r12 t25) (fun (s90 : Int × Int × Int × (List Int) × (List Int)) => let b91 : Int := s90.1; let b92 : Int := s90.2.1; let b93 : Int := s90.2.2.1; let b94 : List Int := s90.2.2.2.1; let b95 : List Int := s90.2.2.2.2; some (b91, b92, b93, b94, b95)) 0 (List.range (b8).toNat) s90 := ref08_Put_loop8_overAt base1 o2 o3 o4 o5 o6 b7 b8 b9 r10 r11 r12 t25 hl 0 s90 (Nat.zero_le _)

theorem ref08_Put_eq (base1 : Int) (o2 : Int) (o3 : Int) (o4 : Int) (o5 : Bool) (o6 : Int) (b7 : Int) (b8 : Int) (b9 : List Int) (r10 : Int) (r11 : Int) (r12 : List Int) (b13 : Int) (b14 : Int) (b15 : Int) (b16 : List Int) (b17 : List Int) : ref08_Put base1 o2 o3 o4 o5 o6 b7 b8 b9 r10 r11 r12 b13 b14 b15 b16 b17 =
   ((ref06_IsBitmap b7 b8 b9).bind fun (q18 : Bool) =>
    (if q18 = true then
     (ref06_IsBitmap r10 r11 r12).bind fun (q19 : Bool) =>
     (ref08_asked o2 o3 o4 o5 o6 q19 base1 b13 b16).bind fun (q20 : Int) =>
     some q20
     else
     (ref08_asked o2 o3 o4 o5 o6 false base1 b13 b16).bind fun (q21 : Int) =>
     some q21) : Option (Int)).bind (fun (err22 : Int) =>
    (if (!decide (err22 = 0)) = true then
     some (err22, b13, b14, b15, b16, b17)
     else
     (ref08_size o2).bind fun (q23 : Int) =>
     let t24 : Int := IntKind.i64.wrap (base1 + q23);
     let t25 : Int := IntKind.i64.wrap (t24 - 1);
     (loop (ref08_Put_loop8 base1 o2 o3 o4 o5 o6 b7 b8 b9 r10 r11 r12 t25) (0, b13, b14, b15, b16, b17)).bind (fun (p96 : Int × Int × Int × (List Int) × (List Int)) =>
      let b97 : Int := p96.1;
      let b98 : Int := p96.2.1;
      let b99 : Int := p96.2.2.1;
      let b100 : List Int := p96.2.2.2.1;
      let b101 : List Int := p96.2.2.2.2;
      some (0, b97, b98, b99, b100, b101)))) := (call_eq ..).trans (by kernel_rfl)

theorem ref01_Signed_eq (n1 : Int) : ref01_Signed n1 =
   ((if (decide (n1 < (-1073741824))) = true then
     some true
     else
     some (decide (n1 ≥ 1073741824))) : Option (Bool)).bind (fun (v2 : Bool) =>
    (if v2 = true then
     some ([], 2)
     else
     (if (decide (n1 < 0)) = true then
      let t3 : Int := IntKind.i64.wrap ((-2) * n1);
      let t4 : Int := IntKind.i64.wrap (t3 - 1);
      (ref01_Size t4).bind fun (q5 : (List Int) × Int) =>
      let tr6 : List Int := q5.1;
      let tr7 : Int := q5.2;
      some (tr6, tr7)
      else
      let t8 : Int := IntKind.i64.wrap (2 * n1);
      (ref01_Size t8).bind fun (q9 : (List Int) × Int) =>
      let tr10 : List Int := q9.1;
      let tr11 : Int := q9.2;
      some (tr10, tr11)))) := (call_eq ..).trans (by kernel_rfl)

theorem bitmap_blank_eq (w1 : Int) (h2 : Int) : bitmap_blank w1 h2 =
   (bitmap_fits w1 h2).bind fun (q3 : Bool) =>
   (if (!q3) = true then
    some (0, 0, 4, [])
    else
    let t4 : Int := IntKind.i64.wrap (w1 * h2);
    (if 0 ≤ t4 ∧ t4 ≤ t4 ∧ ((1 : Nat) : Int) * t4 ≤ 281474976710656 then
     let t5 : List Int := List.replicate t4.toNat 0;
     some (w1, h2, 0, t5)
     else
     none)) := (call_eq ..).trans (by kernel_rfl)

noncomputable def bits_Size_loop5 (s6 : Int × (List Int)) : Option ((Int × (List Int)) ⊕ ((List Int))) :=
   let n7 : Int := s6.1;
   let out8 : List Int := s6.2;
   (if (decide (n7 > 0)) = true then
    let t9 : Int := n7.tmod 128;
    let t10 : Int := IntKind.u8.wrap t9;
    let t11 : Int := IntKind.u8.wrap (t10 + 128);
    (if (([t11] : List Int).length + out8.length) * 1 ≤ 140737488355328 then
     let t12 : List Int := ([t11] : List Int) ++ out8;
     let t13 : Int := IntKind.i64.wrap (n7.tdiv 128);
     some (Sum.inl (t13, t12))
     else
     none)
    else
    some (Sum.inr out8))
theorem bits_Size_eq (n1 : Int) : bits_Size n1 =
   ((if (decide (n1 < 0)) = true then
     some true
     else
     some (decide (n1 > 2147483647))) : Option (Bool)).bind (fun (v2 : Bool) =>
    (if v2 = true then
     some ([], 2)
     else
     let t3 : Int := n1.tmod 128;
     let t4 : Int := IntKind.u8.wrap t3;
     let t5 : Int := IntKind.i64.wrap (n1.tdiv 128);
     (loop (bits_Size_loop5) (t5, [t4])).bind (fun (out14 : (List Int)) =>
      some (out14, 0)))) := (call_eq ..).trans (by kernel_rfl)

theorem bitmap_fits_eq (w1 : Int) (h2 : Int) : bitmap_fits w1 h2 =
   (if (decide (w1 ≥ 0)) = true then
    (if (decide (h2 ≥ 0)) = true then
     (if (decide (w1 ≤ 200)) = true then
      (if (decide (h2 ≤ 200)) = true then
       let t3 : Int := IntKind.i64.wrap (w1 * h2);
       some (decide (t3 ≤ 8192))
       else
       some false)
      else
      some false)
     else
     some false)
    else
    some false) := (call_eq ..).trans (by kernel_rfl)

theorem generic_pixels_eq (template1 : Int) : generic_pixels template1 =
   (if (decide (template1 = 0)) = true then
    some [(Arr2.mk (-1) (-2)), (Arr2.mk 0 (-2)), (Arr2.mk 1 (-2)), (Arr2.mk (-2) (-1)), (Arr2.mk (-1) (-1)), (Arr2.mk 0 (-1)), (Arr2.mk 1 (-1)), (Arr2.mk 2 (-1)), (Arr2.mk (-2) 0), (Arr2.mk (-1) 0)]
    else
    (if (decide (template1 = 1)) = true then
     some [(Arr2.mk (-1) (-2)), (Arr2.mk 0 (-2)), (Arr2.mk (-1) (-1)), (Arr2.mk 0 (-1)), (Arr2.mk 1 (-1)), (Arr2.mk (-2) 0), (Arr2.mk (-1) 0)]
     else
     (if (decide (template1 = 2)) = true then
      some [(Arr2.mk (-2) (-1)), (Arr2.mk (-1) (-1)), (Arr2.mk 0 (-1)), (Arr2.mk 1 (-1)), (Arr2.mk 2 (-1)), (Arr2.mk (-2) 0), (Arr2.mk (-1) 0)]
      else
      some [(Arr2.mk (-1) (-1)), (Arr2.mk 0 (-1)), (Arr2.mk 1 (-1)), (Arr2.mk (-1) 0)]))) := (call_eq ..).trans (by kernel_rfl)
end
end Go.Proofs.YtkccnhkhjncpkaaGreat.P
