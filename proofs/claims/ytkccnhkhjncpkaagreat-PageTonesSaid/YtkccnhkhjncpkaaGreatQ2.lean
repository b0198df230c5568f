/- The equations of functions. Printed by wip/tool/vsym.py. -/
import Derived.Test.YtkccnhkhjncpkaaGreatG
import Derived.Test.YtkccnhkhjncpkaaGreatLib
namespace Go.Proofs.YtkccnhkhjncpkaaGreat.P
open Go Go.Proofs.YtkccnhkhjncpkaaGreat.V
set_option linter.unusedVariables false
set_option linter.unusedSimpArgs false
set_option maxRecDepth 100000
noncomputable section
noncomputable def generic_put_loop13 (base1 : Int) (b7 : Int) (b9 : List Int) (skip10 : Int) (skip11 : Int) (skip12 : List Int) (v24 : Int) (s77 : Int × Int × Int × Int × (List Int) × (List Int) × Int × Int × (List Int) × (List Arr2)) : Option ((Int × Int × Int × Int × (List Int) × (List Int) × Int × Int × (List Int) × (List Arr2)) ⊕ (Int × Int × Int × (List Int) × (List Int) × Int × Int × (List Int) × (List Arr2))) :=
   let v78 : Int := s77.1;
   let b79 : Int := s77.2.1;
   let b80 : Int := s77.2.2.1;
   let b81 : Int := s77.2.2.2.1;
   let b82 : List Int := s77.2.2.2.2.1;
   let b83 : List Int := s77.2.2.2.2.2.1;
   let b84 : Int := s77.2.2.2.2.2.2.1;
   let b85 : Int := s77.2.2.2.2.2.2.2.1;
   let b86 : List Int := s77.2.2.2.2.2.2.2.2.1;
   let b87 : List Arr2 := s77.2.2.2.2.2.2.2.2.2;
   (if (decide (v78 < b7)) = true then
    let t88 : Int := IntKind.i64.wrap (v24 * b7);
    let t89 : Int := IntKind.i64.wrap (t88 + v78);
    (generic_skips skip10 skip11 skip12 t89).bind fun (q90 : Bool) =>
    (if (!q90) = true then
     (generic_plane_context v78 v24 b84 b85 b86 b87).bind fun (q91 : Int × Int × Int × (List Int) × (List Arr2)) =>
     let tr92 : Int := q91.1;
     let tr93 : Int := q91.2.1;
     let tr94 : Int := q91.2.2.1;
     let tr95 : List Int := q91.2.2.2.1;
     let tr96 : List Arr2 := q91.2.2.2.2;
     let t97 : Int := IntKind.i64.wrap (base1 + tr92);
     (if 0 ≤ t89 ∧ t89 < (b9.length : Int) then
      let t98 : Int := IntKind.i64.wrap (rd b9 t89);
      (coder_Encoder_Put t97 t98 b79 b80 b81 b82 b83).bind fun (q99 : Int × Int × Int × Int × (List Int) × (List Int)) =>
      let tr100 : Int := q99.1;
      let tr101 : Int := q99.2.1;
      let tr102 : Int := q99.2.2.1;
      let tr103 : Int := q99.2.2.2.1;
      let tr104 : List Int := q99.2.2.2.2.1;
      let tr105 : List Int := q99.2.2.2.2.2;
      let t106 : Int := IntKind.i64.wrap (v78 + 1);
      some (Sum.inl (t106, tr101, tr102, tr103, tr104, tr105, tr93, tr94, tr95, tr96))
      else
      none)
     else
     let t107 : Int := IntKind.i64.wrap (v78 + 1);
     some (Sum.inl (t107, b79, b80, b81, b82, b83, b84, b85, b86, b87)))
    else
    some (Sum.inr (b79, b80, b81, b82, b83, b84, b85, b86, b87)))
noncomputable def generic_put_loop13_step (base1 : Int) (b7 : Int) (b9 : List Int) (skip10 : Int) (skip11 : Int) (skip12 : List Int) (v24 : Int) (i108 : Nat) (x109 : Nat) (s110 : Int × Int × Int × (List Int) × (List Int) × Int × Int × (List Int) × (List Arr2)) : Option ((Int × Int × Int × (List Int) × (List Int) × Int × Int × (List Int) × (List Arr2)) ⊕ (Int × Int × Int × (List Int) × (List Int) × Int × Int × (List Int) × (List Arr2))) :=
   let b111 : Int := s110.1;
   let b112 : Int := s110.2.1;
   let b113 : Int := s110.2.2.1;
   let b114 : List Int := s110.2.2.2.1;
   let b115 : List Int := s110.2.2.2.2.1;
   let b116 : Int := s110.2.2.2.2.2.1;
   let b117 : Int := s110.2.2.2.2.2.2.1;
   let b118 : List Int := s110.2.2.2.2.2.2.2.1;
   let b119 : List Arr2 := s110.2.2.2.2.2.2.2.2;
   let t88 : Int := IntKind.i64.wrap (v24 * b7);
   let t89 : Int := IntKind.i64.wrap (t88 + ((i108 : Nat) : Int));
   (generic_skips skip10 skip11 skip12 t89).bind fun (q90 : Bool) =>
   (if (!q90) = true then
    (generic_plane_context ((i108 : Nat) : Int) v24 b116 b117 b118 b119).bind fun (q91 : Int × Int × Int × (List Int) × (List Arr2)) =>
    let tr92 : Int := q91.1;
    let tr93 : Int := q91.2.1;
    let tr94 : Int := q91.2.2.1;
    let tr95 : List Int := q91.2.2.2.1;
    let tr96 : List Arr2 := q91.2.2.2.2;
    let t97 : Int := IntKind.i64.wrap (base1 + tr92);
    (if 0 ≤ t89 ∧ t89 < (b9.length : Int) then
     let t98 : Int := IntKind.i64.wrap (rd b9 t89);
     (coder_Encoder_Put t97 t98 b111 b112 b113 b114 b115).bind fun (q99 : Int × Int × Int × Int × (List Int) × (List Int)) =>
     let tr100 : Int := q99.1;
     let tr101 : Int := q99.2.1;
     let tr102 : Int := q99.2.2.1;
     let tr103 : Int := q99.2.2.2.1;
     let tr104 : List Int := q99.2.2.2.2.1;
     let tr105 : List Int := q99.2.2.2.2.2;
     some (Sum.inl ((tr101, tr102, tr103, tr104, tr105, tr93, tr94, tr95, tr96)))
     else
     none)
    else
    some (Sum.inl ((b111, b112, b113, b114, b115, b116, b117, b118, b119))))
theorem generic_put_loop13_overAt (base1 : Int) (b7 : Int) (b9 : List Int) (skip10 : Int) (skip11 : Int) (skip12 : List Int) (v24 : Int) (hl : (List.range (b7).toNat).length ≤ 9223372036854775807) (k : Nat) (s110 : Int × Int × Int × (List Int) × (List Int) × Int × Int × (List Int) × (List Arr2)) (hk : k ≤ (List.range (b7).toNat).length) : loop (generic_put_loop13 base1 b7 b9 skip10 skip11 skip12 v24) ((((k : Nat) : Int), s110.1, s110.2.1, s110.2.2.1, s110.2.2.2.1, s110.2.2.2.2.1, s110.2.2.2.2.2.1, s110.2.2.2.2.2.2.1, s110.2.2.2.2.2.2.2.1, s110.2.2.2.2.2.2.2.2) : Int × Int × Int × Int × (List Int) × (List Int) × Int × Int × (List Int) × (List Arr2)) =
    overL (generic_put_loop13_step base1 b7 b9 skip10 skip11 skip12 v24) (fun (s110 : Int × Int × Int × (List Int) × (List Int) × Int × Int × (List Int) × (List Arr2)) => let b111 : Int := s110.1; let b112 : Int := s110.2.1; let b113 : Int := s110.2.2.1; let b114 : List Int := s110.2.2.2.1; let b115 : List Int := s110.2.2.2.2.1; let b116 : Int := s110.2.2.2.2.2.1; let b117 : Int := s110.2.2.2.2.2.2.1; let b118 : List Int := s110.2.2.2.2.2.2.2.1; let b119 : List Arr2 := s110.2.2.2.2.2.2.2.2; some (b111, b112, b113, b114, b115, b116, b117, b118, b119)) k ((List.range (b7).toNat).drop k) s110 := by
  refine loop_over (List.range (b7).toNat) (fun n (s : Int × Int × Int × (List Int) × (List Int) × Int × Int × (List Int) × (List Arr2)) => ((((n : Nat) : Int), s.1, s.2.1, s.2.2.1, s.2.2.2.1, s.2.2.2.2.1, s.2.2.2.2.2.1, s.2.2.2.2.2.2.1, s.2.2.2.2.2.2.2.1, s.2.2.2.2.2.2.2.2) : Int × Int × Int × Int × (List Int) × (List Int) × Int × Int × (List Int) × (List Arr2))) _ _ (fun s => ?_) (fun i x s h => ?_) k s110 hk
  · have h1 : ¬ (((List.range (b7).toNat).length : Nat) : Int) < b7 := by simp only [List.length_range]; omega
    unfold generic_put_loop13; simp only [h1, decide_false, Bool.false_eq_true, if_false, Option.map_some]
  · have hlt := lt_len_of_get h
    rw [List.length_range] at hlt hl
    rw [List.getElem?_range hlt] at h
    cases h
    have h1 : ((i : Nat) : Int) < b7 := by omega
    have h0 : (0 : Int) ≤ ((i : Nat) : Int) := by omega
    have hw : IntKind.i64.wrap (((i : Nat) : Int) + 1) = (((i + 1 : Nat) : Nat) : Int) := w64 (by omega)
    unfold generic_put_loop13 generic_put_loop13_step
    simp only [h1, h0, hw, decide_true, if_true, and_self, true_and, Int.toNat_natCast, Option.bind_some, Option.map_bind, Function.comp_def, map_ite, map_elim, Option.map_some, Option.map_none]
theorem generic_put_loop13_over (base1 : Int) (b7 : Int) (b9 : List Int) (skip10 : Int) (skip11 : Int) (skip12 : List Int) (v24 : Int) (hl : (List.range (b7).toNat).length ≤ 9223372036854775807) (s110 : Int × Int × Int × (List Int) × (List Int) × Int × Int × (List Int) × (List Arr2)) : loop (generic_put_loop13 base1 b7 b9 skip10 skip11 skip12 v24) ((0, s110.1, s110.2.1, s110.2.2.1, s110.2.2.2.1, s110.2.2.2.2.1, s110.2.2.2.2.2.1, s110.2.2.2.2.2.2.1, s110.2.2.2.2.2.2.2.1, s110.2.2.2.2.2.2.2.2) : Int × Int × Int × Int × (List Int) × (List Int) × Int × Int × (List Int) × (List Arr2)) =
    overL (generic_put_loop13_step base1 b7 b9 skip10 skip11 skip12 v24) (fun (s110 : Int × Int × Int × (List Int) × (List Int) × Int × Int × (List Int) × (List Arr2)) => let b111 : Int := s110.1; let b112 : Int := s110.2.1; let b113 : Int := s110.2.2.1; let b114 : List Int := s110.2.2.2.1; let b115 : List Int := s110.2.2.2.2.1; let b116 : Int := s110.2.2.2.2.2.1; let b117 : Int := s110.2.2.2.2.2.2.1; let b118 : List Int := s110.2.2.2.2.2.2.2.1; let b119 : List Arr2 := s110.2.2.2.2.2.2.2.2; some (b111, b112, b113, b114, b115, b116, b117, b118, b119)) 0 (List.range (b7).toNat) s110 := generic_put_loop13_overAt base1 b7 b9 skip10 skip11 skip12 v24 hl 0 s110 (Nat.zero_le _)

noncomputable def generic_put_loop4 (base1 : Int) (o2 : Int) (o3 : Int) (o4 : Int) (o5 : Bool) (o6 : Int) (b7 : Int) (b8 : Int) (b9 : List Int) (skip10 : Int) (skip11 : Int) (skip12 : List Int) (s23 : Int × Int × Int × Int × (List Int) × (List Int) × Int × Int × (List Int) × (List Arr2)) : Option ((Int × Int × Int × Int × (List Int) × (List Int) × Int × Int × (List Int) × (List Arr2)) ⊕ (Int × Int × Int × (List Int) × (List Int) × Int × Int × (List Int) × (List Arr2))) :=
   let v24 : Int := s23.1;
   let b25 : Int := s23.2.1;
   let b26 : Int := s23.2.2.1;
   let b27 : Int := s23.2.2.2.1;
   let b28 : List Int := s23.2.2.2.2.1;
   let b29 : List Int := s23.2.2.2.2.2.1;
   let b30 : Int := s23.2.2.2.2.2.2.1;
   let b31 : Int := s23.2.2.2.2.2.2.2.1;
   let b32 : List Int := s23.2.2.2.2.2.2.2.2.1;
   let b33 : List Arr2 := s23.2.2.2.2.2.2.2.2.2;
   (if (decide (v24 < b8)) = true then
    ((if o5 = true then
      (generic_plane_above v24 skip10 skip11 skip12 b30 b31 b32 b33).bind fun (q34 : (List Int) × Int × Int × (List Int) × (List Arr2)) =>
      let tr35 : List Int := q34.1;
      let tr36 : Int := q34.2.1;
      let tr37 : Int := q34.2.2.1;
      let tr38 : List Int := q34.2.2.2.1;
      let tr39 : List Arr2 := q34.2.2.2.2;
      let t40 : Int := IntKind.i64.wrap (v24 * b7);
      let t41 : Int := IntKind.i64.wrap (v24 + 1);
      let t42 : Int := IntKind.i64.wrap (t41 * b7);
      (if 0 ≤ t42 ∧ t42 ≤ ((b9.length : Nat) : Int) then
       (if 0 ≤ t40 ∧ t40 ≤ t42 then
        let t43 : List Int := cutL b9 t40.toNat t42.toNat;
        (bytes_Equal tr35 t43).bind fun (q44 : Bool) =>
        ((if q44 = true then
          some 1
          else
          some 0) : Option (Int)).bind (fun (bit45 : Int) =>
         (generic_contexts o2 o3 o4 o5 o6).bind fun (q46 : Int) =>
         let t47 : Int := IntKind.i64.wrap (base1 + q46);
         (coder_Encoder_Put t47 bit45 b25 b26 b27 b28 b29).bind fun (q48 : Int × Int × Int × Int × (List Int) × (List Int)) =>
         let tr49 : Int := q48.1;
         let tr50 : Int := q48.2.1;
         let tr51 : Int := q48.2.2.1;
         let tr52 : Int := q48.2.2.2.1;
         let tr53 : List Int := q48.2.2.2.2.1;
         let tr54 : List Int := q48.2.2.2.2.2;
         (if (decide (bit45 = 1)) = true then
          some (Sum.inr (tr50, tr51, tr52, tr53, tr54, tr36, tr37, tr38, tr39))
          else
          some (Sum.inl (tr50, tr51, tr52, tr53, tr54, tr36, tr37, tr38, tr39))))
        else
        none)
       else
       none)
      else
      some (Sum.inl (b25, b26, b27, b28, b29, b30, b31, b32, b33))) : Option ((Int × Int × Int × (List Int) × (List Int) × Int × Int × (List Int) × (List Arr2)) ⊕ (Int × Int × Int × (List Int) × (List Int) × Int × Int × (List Int) × (List Arr2)))).bind (fun (o76 : (Int × Int × Int × (List Int) × (List Int) × Int × Int × (List Int) × (List Arr2)) ⊕ (Int × Int × Int × (List Int) × (List Int) × Int × Int × (List Int) × (List Arr2))) =>
     (Sum.elim (fun (p55 : Int × Int × Int × (List Int) × (List Int) × Int × Int × (List Int) × (List Arr2)) =>
       let b56 : Int := p55.1;
       let b57 : Int := p55.2.1;
       let b58 : Int := p55.2.2.1;
       let b59 : List Int := p55.2.2.2.1;
       let b60 : List Int := p55.2.2.2.2.1;
       let b61 : Int := p55.2.2.2.2.2.1;
       let b62 : Int := p55.2.2.2.2.2.2.1;
       let b63 : List Int := p55.2.2.2.2.2.2.2.1;
       let b64 : List Arr2 := p55.2.2.2.2.2.2.2.2;
       (loop (generic_put_loop13 base1 b7 b9 skip10 skip11 skip12 v24) (0, b56, b57, b58, b59, b60, b61, b62, b63, b64)).bind (fun (p120 : Int × Int × Int × (List Int) × (List Int) × Int × Int × (List Int) × (List Arr2)) =>
        let b121 : Int := p120.1;
        let b122 : Int := p120.2.1;
        let b123 : Int := p120.2.2.1;
        let b124 : List Int := p120.2.2.2.1;
        let b125 : List Int := p120.2.2.2.2.1;
        let b126 : Int := p120.2.2.2.2.2.1;
        let b127 : Int := p120.2.2.2.2.2.2.1;
        let b128 : List Int := p120.2.2.2.2.2.2.2.1;
        let b129 : List Arr2 := p120.2.2.2.2.2.2.2.2;
        let t130 : Int := IntKind.i64.wrap (v24 + 1);
        some (Sum.inl (t130, b121, b122, b123, b124, b125, b126, b127, b128, b129))))
      (fun (p65 : Int × Int × Int × (List Int) × (List Int) × Int × Int × (List Int) × (List Arr2)) =>
       let b66 : Int := p65.1;
       let b67 : Int := p65.2.1;
       let b68 : Int := p65.2.2.1;
       let b69 : List Int := p65.2.2.2.1;
       let b70 : List Int := p65.2.2.2.2.1;
       let b71 : Int := p65.2.2.2.2.2.1;
       let b72 : Int := p65.2.2.2.2.2.2.1;
       let b73 : List Int := p65.2.2.2.2.2.2.2.1;
       let b74 : List Arr2 := p65.2.2.2.2.2.2.2.2;
       let t75 : Int := IntKind.i64.wrap (v24 + 1);
       some (Sum.inl (t75, b66, b67, b68, b69, b70, b71, b72, b73, b74))) o76))
    else
    some (Sum.inr (b25, b26, b27, b28, b29, b30, b31, b32, b33)))
noncomputable def generic_put_loop4_step (base1 : Int) (o2 : Int) (o3 : Int) (o4 : Int) (o5 : Bool) (o6 : Int) (b7 : Int) (b9 : List Int) (skip10 : Int) (skip11 : Int) (skip12 : List Int) (i131 : Nat) (x132 : Nat) (s133 : Int × Int × Int × (List Int) × (List Int) × Int × Int × (List Int) × (List Arr2)) : Option ((Int × Int × Int × (List Int) × (List Int) × Int × Int × (List Int) × (List Arr2)) ⊕ (Int × Int × Int × (List Int) × (List Int) × Int × Int × (List Int) × (List Arr2))) :=
   let b134 : Int := s133.1;
   let b135 : Int := s133.2.1;
   let b136 : Int := s133.2.2.1;
   let b137 : List Int := s133.2.2.2.1;
   let b138 : List Int := s133.2.2.2.2.1;
   let b139 : Int := s133.2.2.2.2.2.1;
   let b140 : Int := s133.2.2.2.2.2.2.1;
   let b141 : List Int := s133.2.2.2.2.2.2.2.1;
   let b142 : List Arr2 := s133.2.2.2.2.2.2.2.2;
   ((if o5 = true then
     (generic_plane_above ((i131 : Nat) : Int) skip10 skip11 skip12 b139 b140 b141 b142).bind fun (q34 : (List Int) × Int × Int × (List Int) × (List Arr2)) =>
     let tr35 : List Int := q34.1;
     let tr36 : Int := q34.2.1;
     let tr37 : Int := q34.2.2.1;
     let tr38 : List Int := q34.2.2.2.1;
     let tr39 : List Arr2 := q34.2.2.2.2;
     let t40 : Int := IntKind.i64.wrap (((i131 : Nat) : Int) * b7);
     let t41 : Int := IntKind.i64.wrap (((i131 : Nat) : Int) + 1);
     let t42 : Int := IntKind.i64.wrap (t41 * b7);
     (if 0 ≤ t42 ∧ t42 ≤ ((b9.length : Nat) : Int) then
      (if 0 ≤ t40 ∧ t40 ≤ t42 then
       let t43 : List Int := cutL b9 t40.toNat t42.toNat;
       (bytes_Equal tr35 t43).bind fun (q44 : Bool) =>
       ((if q44 = true then
         some 1
         else
         some 0) : Option (Int)).bind (fun (bit45 : Int) =>
        (generic_contexts o2 o3 o4 o5 o6).bind fun (q46 : Int) =>
        let t47 : Int := IntKind.i64.wrap (base1 + q46);
        (coder_Encoder_Put t47 bit45 b134 b135 b136 b137 b138).bind fun (q48 : Int × Int × Int × Int × (List Int) × (List Int)) =>
        let tr49 : Int := q48.1;
        let tr50 : Int := q48.2.1;
        let tr51 : Int := q48.2.2.1;
        let tr52 : Int := q48.2.2.2.1;
        let tr53 : List Int := q48.2.2.2.2.1;
        let tr54 : List Int := q48.2.2.2.2.2;
        (if (decide (bit45 = 1)) = true then
         some (Sum.inr (tr50, tr51, tr52, tr53, tr54, tr36, tr37, tr38, tr39))
         else
         some (Sum.inl (tr50, tr51, tr52, tr53, tr54, tr36, tr37, tr38, tr39))))
       else
       none)
      else
      none)
     else
     some (Sum.inl (b134, b135, b136, b137, b138, b139, b140, b141, b142))) : Option ((Int × Int × Int × (List Int) × (List Int) × Int × Int × (List Int) × (List Arr2)) ⊕ (Int × Int × Int × (List Int) × (List Int) × Int × Int × (List Int) × (List Arr2)))).bind (fun (o76 : (Int × Int × Int × (List Int) × (List Int) × Int × Int × (List Int) × (List Arr2)) ⊕ (Int × Int × Int × (List Int) × (List Int) × Int × Int × (List Int) × (List Arr2))) =>
    (Sum.elim (fun (p55 : Int × Int × Int × (List Int) × (List Int) × Int × Int × (List Int) × (List Arr2)) =>
      let b56 : Int := p55.1;
      let b57 : Int := p55.2.1;
      let b58 : Int := p55.2.2.1;
      let b59 : List Int := p55.2.2.2.1;
      let b60 : List Int := p55.2.2.2.2.1;
      let b61 : Int := p55.2.2.2.2.2.1;
      let b62 : Int := p55.2.2.2.2.2.2.1;
      let b63 : List Int := p55.2.2.2.2.2.2.2.1;
      let b64 : List Arr2 := p55.2.2.2.2.2.2.2.2;
      (loop (generic_put_loop13 base1 b7 b9 skip10 skip11 skip12 ((i131 : Nat) : Int)) (0, b56, b57, b58, b59, b60, b61, b62, b63, b64)).bind (fun (p120 : Int × Int × Int × (List Int) × (List Int) × Int × Int × (List Int) × (List Arr2)) =>
       let b121 : Int := p120.1;
       let b122 : Int := p120.2.1;
       let b123 : Int := p120.2.2.1;
       let b124 : List Int := p120.2.2.2.1;
       let b125 : List Int := p120.2.2.2.2.1;
       let b126 : Int := p120.2.2.2.2.2.1;
       let b127 : Int := p120.2.2.2.2.2.2.1;
       let b128 : List Int := p120.2.2.2.2.2.2.2.1;
       let b129 : List Arr2 := p120.2.2.2.2.2.2.2.2;
       some (Sum.inl ((b121, b122, b123, b124, b125, b126, b127, b128, b129)))))
     (fun (p65 : Int × Int × Int × (List Int) × (List Int) × Int × Int × (List Int) × (List Arr2)) =>
      let b66 : Int := p65.1;
      let b67 : Int := p65.2.1;
      let b68 : Int := p65.2.2.1;
      let b69 : List Int := p65.2.2.2.1;
      let b70 : List Int := p65.2.2.2.2.1;
      let b71 : Int := p65.2.2.2.2.2.1;
      let b72 : Int := p65.2.2.2.2.2.2.1;
      let b73 : List Int := p65.2.2.2.2.2.2.2.1;
      let b74 : List Arr2 := p65.2.2.2.2.2.2.2.2;
      some (Sum.inl ((b66, b67, b68, b69, b70, b71, b72, b73, b74)))) o76))
theorem generic_put_loop4_overAt (base1 : Int) (o2 : Int) (o3 : Int) (o4 : Int) (o5 : Bool) (o6 : Int) (b7 : Int) (b8 : Int) (b9 : List Int) (skip10 : Int) (skip11 : Int) (skip12 : List Int) (hl : (List.range (b8).toNat).length ≤ 9223372036854775807) (k : Nat) (s133 : Int × Int × Int × (List Int) × (List Int) × Int × Int × (List Int) × (List Arr2)) (hk : k ≤ (List.range (b8).toNat).length) : loop (generic_put_loop4 base1 o2 o3 o4 o5 o6 b7 b8 b9 skip10 skip11 skip12) ((((k : Nat) : Int), s133.1, s133.2.1, s133.2.2.1, s133.2.2.2.1, s133.2.2.2.2.1, s133.2.2.2.2.2.1, s133.2.2.2.2.2.2.1, s133.2.2.2.2.2.2.2.1, s133.2.2.2.2.2.2.2.2) : Int × Int × Int × Int × (List Int) × (List Int) × Int × Int × (List Int) × (List Arr2)) =
    overL (generic_put_loop4_step base1 o2 o3 o4 o5 o6 b7 b9 skip10 skip11 skip12) (fun (s133 : Int × Int × Int × (List Int) × (List Int) × Int × Int × (List Int) × (List Arr2)) => let b134 : Int := s133.1; let b135 : Int := s133.2.1; let b136 : Int := s133.2.2.1; let b137 : List Int := s133.2.2.2.1; let b138 : List Int := s133.2.2.2.2.1; let b139 : Int := s133.2.2.2.2.2.1; let b140 : Int := s133.2.2.2.2.2.2.1; let b141 : List Int := s133.2.2.2.2.2.2.2.1; let b142 : List Arr2 := s133.2.2.2.2.2.2.2.2; some (b134, b135, b136, b137, b138, b139, b140, b141, b142)) k ((List.range (b8).toNat).drop k) s133 := by
  refine loop_over (List.range (b8).toNat) (fun n (s : Int × Int × Int × (List Int) × (List Int) × Int × Int × (List Int) × (List Arr2)) => ((((n : Nat) : Int), s.1, s.2.1, s.2.2.1, s.2.2.2.1, s.2.2.2.2.1, s.2.2.2.2.2.1, s.2.2.2.2.2.2.1, s.2.2.2.2.2.2.2.1, s.2.2.2.2.2.2.2.2) : Int × Int × Int × Int × (List Int) × (List Int) × Int × Int × (List Int) × (List Arr2))) _ _ (fun s => ?_) (fun i x s h => ?_) k s133 hk
  · have h1 : ¬ (((List.range (b8).toNat).length : Nat) : Int) < b8 := by simp only [List.length_range]; omega
    unfold generic_put_loop4; simp only [h1, decide_false, Bool.false_eq_true, if_false, Option.map_some]
  · have hlt := lt_len_of_get h
    rw [List.length_range] at hlt hl
    rw [List.getElem?_range hlt] at h
    cases h
    have h1 : ((i : Nat) : Int) < b8 := by omega
    have h0 : (0 : Int) ≤ ((i : Nat) : Int) := by omega
    have hw : IntKind.i64.wrap (((i : Nat) : Int) + 1) = (((i + 1 : Nat) : Nat) : Int) := w64 (by omega)
    unfold generic_put_loop4 generic_put_loop4_step
    simp only [h1, h0, hw, decide_true, if_true, and_self, true_and, Int.toNat_natCast, Option.bind_some, Option.map_bind, Function.comp_def, map_ite, map_elim, Option.map_some, Option.map_none]
theorem generic_put_loop4_over (base1 : Int) (o2 : Int) (o3 : Int) (o4 : Int) (o5 : Bool) (o6 : Int) (b7 : Int) (b8 : Int) (b9 : List Int) (skip10 : Int) (skip11 : Int) (skip12 : List Int) (hl : (List.range (b8).toNat).length ≤ 9223372036854775807) (s133 : Int × Int × Int × (List Int) × (List Int) × Int × Int × (List Int) × (List Arr2)) : loop (generic_put_loop4 base1 o2 o3 o4 o5 o6 b7 b8 b9 skip10 skip11 skip12) ((0, s133.1, s133.2.1, s133.2.2.1, s133.2.2.2.1, s133.2.2.2.2.1, s133.2.2.2.2.2.1, s133.2.2.2.2.2.2.1, s133.2.2.2.2.2.2.2.1, s133.2.2.2.2.2.2.2.2) : Int × Int × Int × Int × (List Int) × (List Int) × Int × Int × (List Int) × (List Arr2)) =
    overL (generic_put_loop4_step base1 o2 o3 o4 o5 o6 b7 b9 skip10 skip11 skip12) (fun (s133 : Int × Int × Int × (List Int) × (List Int) × Int × Int × (List Int) × (List Arr2)) => let b134 : Int := s133.1; let b135 : Int := s133.2.1; let b136 : Int := s133.2.2.1; let b137 : List Int := s133.2.2.2.1; let b138 : List Int := s133.2.2.2.2.1; let b139 : Int := s133.2.2.2.2.2.1; let b140 : Int := s133.2.2.2.2.2.2.1; let b141 : List Int := s133.2.2.2.2.2.2.2.1; let b142 : List Arr2 := s133.2.2.2.2.2.2.2.2; some (b134, b135, b136, b137, b138, b139, b140, b141, b142)) 0 (List.range (b8).toNat) s133 := generic_put_loop4_overAt base1 o2 o3 o4 o5 o6 b7 b8 b9 skip10 skip11 skip12 hl 0 s133 (Nat.zero_le _)

theorem generic_put_eq (base1 : Int) (o2 : Int) (o3 : Int) (o4 : Int) (o5 : Bool) (o6 : Int) (b7 : Int) (b8 : Int) (b9 : List Int) (skip10 : Int) (skip11 : Int) (skip12 : List Int) (b13 : Int) (b14 : Int) (b15 : Int) (b16 : List Int) (b17 : List Int) : generic_put base1 o2 o3 o4 o5 o6 b7 b8 b9 skip10 skip11 skip12 b13 b14 b15 b16 b17 =
   (generic_newPlane o2 o3 o4 o5 o6 b7 b8).bind fun (q18 : Int × Int × (List Int) × (List Arr2)) =>
   let tr19 : Int := q18.1;
   let tr20 : Int := q18.2.1;
   let tr21 : List Int := q18.2.2.1;
   let tr22 : List Arr2 := q18.2.2.2;
   (loop (generic_put_loop4 base1 o2 o3 o4 o5 o6 b7 b8 b9 skip10 skip11 skip12) (0, b13, b14, b15, b16, b17, tr19, tr20, b9, tr22)).bind (fun (p143 : Int × Int × Int × (List Int) × (List Int) × Int × Int × (List Int) × (List Arr2)) =>
    let b144 : Int := p143.1;
    let b145 : Int := p143.2.1;
    let b146 : Int := p143.2.2.1;
    let b147 : List Int := p143.2.2.2.1;
    let b148 : List Int := p143.2.2.2.2.1;
    let b149 : Int := p143.2.2.2.2.2.1;
    let b150 : Int := p143.2.2.2.2.2.2.1;
    let b151 : List Int := p143.2.2.2.2.2.2.2.1;
    let b152 : List Arr2 := p143.2.2.2.2.2.2.2.2;
    some (b144, b145, b146, b147, b148)) := (call_eq ..).trans (by kernel_rfl)

noncomputable def ref05_Valid_loop4 (b3 : List Int) (i7 : Int) : Option ((Int) ⊕ ((Unit) ⊕ (Bool))) :=
   (if (decide (i7 < ((b3.length : Nat) : Int))) = true then
    (if 0 ≤ i7 ∧ i7 < (b3.length : Int) then
     (if (decide (rd b3 i7 > 1)) = true then
      some (Sum.inr (Sum.inr false))
      else
      let t8 : Int := IntKind.i64.wrap (i7 + 1);
      some (Sum.inl t8))
     else
     none)
    else
    some (Sum.inr (Sum.inl ())))
noncomputable def ref05_Valid_loop4_step (i9 : Nat) (x10 : Int) (s11 : Unit) : Option ((Unit) ⊕ ((Unit) ⊕ (Bool))) :=
   (if (decide (x10 > 1)) = true then
    some (Sum.inr (Sum.inr false))
    else
    some (Sum.inl (())))
theorem ref05_Valid_loop4_overAt (b3 : List Int) (hl : b3.length ≤ 9223372036854775807) (k : Nat) (s11 : Unit) (hk : k ≤ b3.length) : loop (ref05_Valid_loop4 b3) (((k : Nat) : Int) : Int) =
    overL (ref05_Valid_loop4_step) (fun (s11 : Unit) => some (Sum.inl ())) k (b3.drop k) s11 := by
  refine loop_over b3 (fun n (s : Unit) => (((n : Nat) : Int) : Int)) _ _ (fun s => ?_) (fun i x s h => ?_) k s11 hk
  · unfold ref05_Valid_loop4; simp
  · have hlt := lt_len_of_get h
    have h1 : ((i : Nat) : Int) < ((b3.length : Nat) : Int) := by omega
    have h0 : (0 : Int) ≤ ((i : Nat) : Int) := by omega
    have hw : IntKind.i64.wrap (((i : Nat) : Int) + 1) = (((i + 1 : Nat) : Nat) : Int) := w64 (by omega)
    have hr : rd b3 ((i : Nat) : Int) = x := rd_nat h
    unfold ref05_Valid_loop4 ref05_Valid_loop4_step
    simp only [h1, h0, hw, h, hr, decide_true, if_true, and_self, true_and, Int.toNat_natCast, Option.bind_some, Option.map_bind, Function.comp_def, map_ite, map_elim, Option.map_some, Option.map_none]
theorem ref05_Valid_loop4_over (b3 : List Int) (hl : b3.length ≤ 9223372036854775807) (s11 : Unit) : loop (ref05_Valid_loop4 b3) (0 : Int) =
    overL (ref05_Valid_loop4_step) (fun (s11 : Unit) => some (Sum.inl ())) 0 b3 s11 := ref05_Valid_loop4_overAt b3 hl 0 s11 (Nat.zero_le _)

theorem ref05_Valid_eq (b1 : Int) (b2 : Int) (b3 : List Int) : ref05_Valid b1 b2 b3 =
   ((ref05_Sides b1 b2).bind fun (q4 : Bool) =>
    (if (!q4) = true then
     some true
     else
     let t5 : Int := IntKind.i64.wrap (b1 * b2);
     some (!decide (((b3.length : Nat) : Int) = t5))) : Option (Bool)).bind (fun (v6 : Bool) =>
    (if v6 = true then
     some false
     else
     (loop (ref05_Valid_loop4 b3) 0).bind (fun (o14 : (Unit) ⊕ (Bool)) =>
      (Sum.elim (fun (p12 : Unit) =>
        some true)
       (fun (v13 : Bool) =>
        some v13) o14)))) := (call_eq ..).trans (by kernel_rfl)

theorem ref11_isSides_eq (n1 : Int) (w2 : Int) (h3 : Int) : ref11_isSides n1 w2 h3 =
   (if (decide (n1 ≥ 1)) = true then
    (if (decide (n1 ≤ 64)) = true then
     (if (decide (w2 ≥ 1)) = true then
      (if (decide (h3 ≥ 1)) = true then
       (if (decide (w2 ≤ 16)) = true then
        (if (decide (h3 ≤ 16)) = true then
         let t4 : Int := IntKind.i64.wrap (n1 * w2);
         (ref05_Sides t4 h3).bind fun (q5 : Bool) =>
         some q5
         else
         some false)
        else
        some false)
       else
       some false)
      else
      some false)
     else
     some false)
    else
    some false) := (call_eq ..).trans (by kernel_rfl)

noncomputable def ref05_make2_loop3 (w1 : Int) (h2 : Int) (pixel3 : Int) (s4 : Int × Int × Int × (List Int)) : Option ((Int × Int × Int × (List Int)) ⊕ (Int × Int × (List Int))) :=
   let i5 : Int := s4.1;
   let b6 : Int := s4.2.1;
   let b7 : Int := s4.2.2.1;
   let b8 : List Int := s4.2.2.2;
   let t9 : Int := IntKind.i64.wrap (w1 * h2);
   (if (decide (i5 < t9)) = true then
    let t10 : Int := IntKind.u8.wrap pixel3;
    (if (b8.length + ([t10] : List Int).length) * 1 ≤ 140737488355328 then
     let t11 : List Int := b8 ++ [t10];
     let t12 : Int := IntKind.i64.wrap (i5 + 1);
     some (Sum.inl (t12, b6, b7, t11))
     else
     none)
    else
    some (Sum.inr (b6, b7, b8)))
theorem ref05_make2_eq (w1 : Int) (h2 : Int) (pixel3 : Int) : ref05_make2 w1 h2 pixel3 =
   (loop (ref05_make2_loop3 w1 h2 pixel3) (0, w1, h2, [])).bind (fun (p13 : Int × Int × (List Int)) =>
    let b14 : Int := p13.1;
    let b15 : Int := p13.2.1;
    let b16 : List Int := p13.2.2;
    some (b14, b15, b16)) := (call_eq ..).trans (by kernel_rfl)

theorem ref05_inside_eq (b1 : Int) (b2 : Int) (b3 : List Int) (x4 : Int) (y5 : Int) : ref05_inside b1 b2 b3 x4 y5 =
   (if (decide (x4 ≥ 0)) = true then
    (if (decide (y5 ≥ 0)) = true then
     (if (decide (x4 < b1)) = true then
      some (decide (y5 < b2))
      else
      some false)
     else
     some false)
    else
    some false) := (call_eq ..).trans (by kernel_rfl)

theorem ref05_At_eq (b1 : Int) (b2 : Int) (b3 : List Int) (x4 : Int) (y5 : Int) : ref05_At b1 b2 b3 x4 y5 =
   (ref05_inside b1 b2 b3 x4 y5).bind fun (q6 : Bool) =>
   (if (!q6) = true then
    some 0
    else
    let t7 : Int := IntKind.i64.wrap (y5 * b1);
    let t8 : Int := IntKind.i64.wrap (t7 + x4);
    (if 0 ≤ t8 ∧ t8 < (b3.length : Int) then
     let t9 : Int := IntKind.i64.wrap (rd b3 t8);
     some t9
     else
     none)) := (call_eq ..).trans (by kernel_rfl)

theorem ref05_Mix_eq (op1 : Int) (was2 : Int) (now3 : Int) : ref05_Mix op1 was2 now3 =
   (if (decide (op1 = 0)) = true then
    some now3
    else
    (if (decide (op1 = 1)) = true then
     let t4 : Int := imax was2 now3;
     some t4
     else
     (if (decide (op1 = 2)) = true then
      let t5 : Int := imin was2 now3;
      some t5
      else
      (if (decide (op1 = 3)) = true then
       let t6 : Int := IntKind.i64.wrap (was2 + now3);
       let t7 : Int := t6.tmod 2;
       some t7
       else
       let t8 : Int := IntKind.i64.wrap (was2 + now3);
       let t9 : Int := IntKind.i64.wrap (t8 + 1);
       let t10 : Int := t9.tmod 2;
       some t10)))) := (call_eq ..).trans (by kernel_rfl)

theorem ref05_Put_eq (b1 : Int) (b2 : Int) (x3 : Int) (y4 : Int) (pixel5 : Int) (b6 : List Int) : ref05_Put b1 b2 x3 y4 pixel5 b6 =
   let t7 : Int := IntKind.i64.wrap (y4 * b1);
   let t8 : Int := IntKind.i64.wrap (t7 + x3);
   let t9 : Int := IntKind.u8.wrap pixel5;
   (if 0 ≤ t8 ∧ t8 < (b6.length : Int) then
    let w10 : List Int := b6.set t8.toNat t9;
    some w10
    else
    none) := (call_eq ..).trans (by kernel_rfl)

theorem bitmap_fits_eq (w1 : Int) (h2 : Int) : bitmap_fits w1 h2 =
   (if (decide (w1 ≥ 0)) = true then
    (if (decide (h2 ≥ 0)) = true then
     (if (decide (w1 ≤ 200)) = true then
      (if (decide (h2 ≤ 200)) = true then
       let t3 : Int := IntKind.i64.wrap (w1 * h2);
       some (decide (t3 ≤ 8192))
       else
       some false)
      else
      some false)
     else
     some false)
    else
    some false) := (call_eq ..).trans (by kernel_rfl)

theorem tone_Valid_eq (a1 : Int) (a2 : Int) (a3 : Int) (a4 : Int) (a5 : Int) (a6 : Int) (a7 : Int) (a8 : Int) (a9 : Bool) (a10 : Int) : tone_Valid a1 a2 a3 a4 a5 a6 a7 a8 a9 a10 =
   (if (decide (a1 ≥ 0)) = true then
    (if (decide (a1 ≤ 64)) = true then
     (if (decide (a2 ≥ 0)) = true then
      (if (decide (a2 ≤ 64)) = true then
       let t11 : Int := IntKind.i64.wrap (a1 * a2);
       (if (decide (t11 ≤ 8192)) = true then
        (tone_near a3 1048576).bind fun (q12 : Bool) =>
        (if q12 = true then
         (tone_near a4 1048576).bind fun (q13 : Bool) =>
         (if q13 = true then
          (tone_near a5 1048576).bind fun (q14 : Bool) =>
          (if q14 = true then
           (tone_near a6 1048576).bind fun (q15 : Bool) =>
           (if q15 = true then
            (if (decide (a7 ≥ 0)) = true then
             (if (decide (a7 ≤ 3)) = true then
              (if (decide (a8 = 0)) = true then
               (if (decide (a10 ≥ 0)) = true then
                some (decide (a10 ≤ 4))
                else
                some false)
               else
               (if (decide (a8 = 1)) = true then
                (if (decide (a10 ≥ 0)) = true then
                 some (decide (a10 ≤ 4))
                 else
                 some false)
                else
                some false))
              else
              some false)
             else
             some false)
            else
            some false)
           else
           some false)
          else
          some false)
         else
         some false)
        else
        some false)
       else
       some false)
      else
      some false)
     else
     some false)
    else
    some false) := (call_eq ..).trans (by kernel_rfl)

theorem tone_cell_eq (a1 : Int) (a2 : Int) (a3 : Int) (a4 : Int) (a5 : Int) (a6 : Int) (a7 : Int) (a8 : Int) (a9 : Bool) (a10 : Int) (m11 : Int) (n12 : Int) : tone_cell a1 a2 a3 a4 a5 a6 a7 a8 a9 a10 m11 n12 =
   let t13 : Int := IntKind.i64.wrap (m11 * a6);
   let t14 : Int := IntKind.i64.wrap (a3 + t13);
   let t15 : Int := IntKind.i64.wrap (n12 * a5);
   let t16 : Int := IntKind.i64.wrap (t14 + t15);
   let t17 : Int := ishr .i64 t16 8;
   let t18 : Int := IntKind.i64.wrap (m11 * a5);
   let t19 : Int := IntKind.i64.wrap (a4 + t18);
   let t20 : Int := IntKind.i64.wrap (n12 * a6);
   let t21 : Int := IntKind.i64.wrap (t19 - t20);
   let t22 : Int := ishr .i64 t21 8;
   some (t17, t22) := (call_eq ..).trans (by kernel_rfl)

noncomputable def coder_Valid_loop7 (m2 : List Int) (end4 : Int) (v5 : Int) : Option ((Int) ⊕ ((Unit) ⊕ (Bool))) :=
   (if (decide (v5 < ((m2.length : Nat) : Int))) = true then
    (if 0 ≤ v5 ∧ v5 < (m2.length : Int) then
     (if (decide (rd m2 v5 < 0)) = true then
      some (Sum.inr (Sum.inr false))
      else
      (if (decide (rd m2 v5 ≥ end4)) = true then
       some (Sum.inr (Sum.inr false))
       else
       let t6 : Int := IntKind.i64.wrap (v5 + 1);
       some (Sum.inl t6)))
     else
     none)
    else
    some (Sum.inr (Sum.inl ())))
noncomputable def coder_Valid_loop7_step (end4 : Int) (i7 : Nat) (x8 : Int) (s9 : Unit) : Option ((Unit) ⊕ ((Unit) ⊕ (Bool))) :=
   (if (decide (x8 < 0)) = true then
    some (Sum.inr (Sum.inr false))
    else
    (if (decide (x8 ≥ end4)) = true then
     some (Sum.inr (Sum.inr false))
     else
     some (Sum.inl (()))))
theorem coder_Valid_loop7_overAt (m2 : List Int) (end4 : Int) (hl : m2.length ≤ 9223372036854775807) (k : Nat) (s9 : Unit) (hk : k ≤ m2.length) : loop (coder_Valid_loop7 m2 end4) (((k : Nat) : Int) : Int) =
    overL (coder_Valid_loop7_step end4) (fun (s9 : Unit) => some (Sum.inl ())) k (m2.drop k) s9 := by
  refine loop_over m2 (fun n (s : Unit) => (((n : Nat) : Int) : Int)) _ _ (fun s => ?_) (fun i x s h => ?_) k s9 hk
  · unfold coder_Valid_loop7; simp
  · have hlt := lt_len_of_get h
    have h1 : ((i : Nat) : Int) < ((m2.length : Nat) : Int) := by omega
    have h0 : (0 : Int) ≤ ((i : Nat) : Int) := by omega
    have hw : IntKind.i64.wrap (((i : Nat) : Int) + 1) = (((i + 1 : Nat) : Nat) : Int) := w64 (by omega)
    have hr : rd m2 ((i : Nat) : Int) = x := rd_nat h
    unfold coder_Valid_loop7 coder_Valid_loop7_step
    simp only [h1, h0, hw, h, hr, decide_true, if_true, and_self, true_and, Int.toNat_natCast, Option.bind_some, Option.map_bind, Function.comp_def, map_ite, map_elim, Option.map_some, Option.map_none]
theorem coder_Valid_loop7_over (m2 : List Int) (end4 : Int) (hl : m2.length ≤ 9223372036854775807) (s9 : Unit) : loop (coder_Valid_loop7 m2 end4) (0 : Int) =
    overL (coder_Valid_loop7_step end4) (fun (s9 : Unit) => some (Sum.inl ())) 0 m2 s9 := coder_Valid_loop7_overAt m2 end4 hl 0 s9 (Nat.zero_le _)

theorem coder_Valid_eq (m1 : Int) (m2 : List Int) : coder_Valid m1 m2 =
   ((if (!decide (m1 = 0)) = true then
     (if (!decide (m1 = 1)) = true then
      some true
      else
      some (decide (((m2.length : Nat) : Int) > 8192)))
     else
     some (decide (((m2.length : Nat) : Int) > 8192))) : Option (Bool)).bind (fun (v3 : Bool) =>
    (if v3 = true then
     some false
     else
     ((if (decide (m1 = 1)) = true then
       some 65536
       else
       some 64) : Option (Int)).bind (fun (end4 : Int) =>
      (loop (coder_Valid_loop7 m2 end4) 0).bind (fun (o12 : (Unit) ⊕ (Bool)) =>
       (Sum.elim (fun (p10 : Unit) =>
         some true)
        (fun (v11 : Bool) =>
         some v11) o12))))) := (call_eq ..).trans (by kernel_rfl)

theorem coder_begin_eq (m1 : Int) (m2 : List Int) : coder_begin m1 m2 =
   (coder_clone m1 m2).bind fun (q3 : Int × (List Int)) =>
   let tr4 : Int := q3.1;
   let tr5 : List Int := q3.2;
   (coder_chances).bind fun (q6 : Unit) =>
   some (tr4, 0, 4294967295, tr5) := (call_eq ..).trans (by kernel_rfl)

theorem math_bits_Len_eq (x1 : Int) : math_bits_Len x1 =
   (math_bits_Len64 x1).bind fun (q2 : Int) =>
   some q2 := (call_eq ..).trans (by kernel_rfl)

theorem slices_ContainsFunc_int_int_eq (s1 : List Int) (b2 : Int) : slices_ContainsFunc_int_int s1 b2 =
   (slices_IndexFunc_int_int s1 b2).bind fun (q3 : Int × Int) =>
   let tr4 : Int := q3.1;
   let tr5 : Int := q3.2;
   some (decide (tr4 ≥ 0), tr5) := (call_eq ..).trans (by kernel_rfl)

noncomputable def coder_Encoder_Put_loop6_D (s32 : Int × Int × Int × (List Int) × (List Int)) : Option ((Int × Int × Int × (List Int) × (List Int)) ⊕ (Int × Int × Int × (List Int) × (List Int))) :=
   let b33 : Int := s32.1;
   let b34 : Int := s32.2.1;
   let b35 : Int := s32.2.2.1;
   let b36 : List Int := s32.2.2.2.1;
   let b37 : List Int := s32.2.2.2.2;
   (coder_interval_same b33 b34 b35 b36 b37).bind fun (q38 : Bool × Int × Int × Int × (List Int) × (List Int)) =>
   let tr39 : Bool := q38.1;
   let tr40 : Int := q38.2.1;
   let tr41 : Int := q38.2.2.1;
   let tr42 : Int := q38.2.2.2.1;
   let tr43 : List Int := q38.2.2.2.2.1;
   let tr44 : List Int := q38.2.2.2.2.2;
   (if tr39 = true then
    (demon
     ((coder_interval_lose tr40 tr41 tr42 tr43 tr44).bind fun (q45 : Int × Int × Int × Int × (List Int) × (List Int)) =>
      let tr46 : Int := q45.1;
      let tr47 : Int := q45.2.1;
      let tr48 : Int := q45.2.2.1;
      let tr49 : Int := q45.2.2.2.1;
      let tr50 : List Int := q45.2.2.2.2.1;
      let tr51 : List Int := q45.2.2.2.2.2;
      (if (tr51.length + ([tr46] : List Int).length) * 1 ≤ 140737488355328 then
       let t52 : List Int := tr51 ++ [tr46];
       some (Sum.inl (tr47, tr48, tr49, tr50, t52))
       else
       none))
     ((coder_interval_lose tr40 tr41 tr42 tr43 tr44).bind fun (q53 : Int × Int × Int × Int × (List Int) × (List Int)) =>
      let tr54 : Int := q53.1;
      let tr55 : Int := q53.2.1;
      let tr56 : Int := q53.2.2.1;
      let tr57 : Int := q53.2.2.2.1;
      let tr58 : List Int := q53.2.2.2.2.1;
      let tr59 : List Int := q53.2.2.2.2.2;
      (if (tr59.length + ([tr54] : List Int).length) * 1 ≤ 140737488355328 then
       let t60 : List Int := tr59 ++ [tr54];
       some (Sum.inl (tr55, tr56, tr57, tr58, t60))
       else
       none)))
    else
    some (Sum.inr (tr40, tr41, tr42, tr43, tr44)))
noncomputable def coder_Encoder_Put_loop6 (s32 : Int × Int × Int × (List Int) × (List Int)) : Option ((Int × Int × Int × (List Int) × (List Int)) ⊕ (Int × Int × Int × (List Int) × (List Int))) :=
   let b33 : Int := s32.1;
   let b34 : Int := s32.2.1;
   let b35 : Int := s32.2.2.1;
   let b36 : List Int := s32.2.2.2.1;
   let b37 : List Int := s32.2.2.2.2;
   (coder_interval_same b33 b34 b35 b36 b37).bind fun (q38 : Bool × Int × Int × Int × (List Int) × (List Int)) =>
   let tr39 : Bool := q38.1;
   let tr40 : Int := q38.2.1;
   let tr41 : Int := q38.2.2.1;
   let tr42 : Int := q38.2.2.2.1;
   let tr43 : List Int := q38.2.2.2.2.1;
   let tr44 : List Int := q38.2.2.2.2.2;
   (if tr39 = true then
    ((coder_interval_lose tr40 tr41 tr42 tr43 tr44).bind fun (q45 : Int × Int × Int × Int × (List Int) × (List Int)) =>
     let tr46 : Int := q45.1;
     let tr47 : Int := q45.2.1;
     let tr48 : Int := q45.2.2.1;
     let tr49 : Int := q45.2.2.2.1;
     let tr50 : List Int := q45.2.2.2.2.1;
     let tr51 : List Int := q45.2.2.2.2.2;
     (if (tr51.length + ([tr46] : List Int).length) * 1 ≤ 140737488355328 then
      let t52 : List Int := tr51 ++ [tr46];
      some (Sum.inl (tr47, tr48, tr49, tr50, t52))
      else
      none))
    else
    some (Sum.inr (tr40, tr41, tr42, tr43, tr44)))
theorem coder_Encoder_Put_loop6_D_eq : coder_Encoder_Put_loop6_D = coder_Encoder_Put_loop6 := by
  funext s32; unfold coder_Encoder_Put_loop6_D coder_Encoder_Put_loop6; simp only [demon_same]
theorem coder_Encoder_Put_eqD (ctx1 : Int) (bit2 : Int) (b3 : Int) (b4 : Int) (b5 : Int) (b6 : List Int) (b7 : List Int) : coder_Encoder_Put ctx1 bit2 b3 b4 b5 b6 b7 =
   (coder_Encoder_none b3 b4 b5 b6 b7).bind fun (q8 : Bool × Int × Int × Int × (List Int) × (List Int)) =>
   let tr9 : Bool := q8.1;
   let tr10 : Int := q8.2.1;
   let tr11 : Int := q8.2.2.1;
   let tr12 : Int := q8.2.2.2.1;
   let tr13 : List Int := q8.2.2.2.2.1;
   let tr14 : List Int := q8.2.2.2.2.2;
   ((if tr9 = true then
     some (Sum.inr 7)
     else
     ((if (decide (ctx1 < 0)) = true then
       some true
       else
       (if (decide (ctx1 ≥ ((tr13.length : Nat) : Int))) = true then
        some true
        else
        (if (!decide (bit2 = 0)) = true then
         some (!decide (bit2 = 1))
         else
         some false))) : Option (Bool)).bind (fun (v15 : Bool) =>
      (if v15 = true then
       some (Sum.inr 2)
       else
       some (Sum.inl ())))) : Option ((Unit) ⊕ (Int))).bind (fun (o18 : (Unit) ⊕ (Int)) =>
    (Sum.elim (fun (p16 : Unit) =>
      (coder_interval_mid ctx1 tr10 tr11 tr12 tr13 tr14).bind fun (q19 : Int × Int × Int × Int × (List Int) × (List Int)) =>
      let tr20 : Int := q19.1;
      let tr21 : Int := q19.2.1;
      let tr22 : Int := q19.2.2.1;
      let tr23 : Int := q19.2.2.2.1;
      let tr24 : List Int := q19.2.2.2.2.1;
      let tr25 : List Int := q19.2.2.2.2.2;
      (coder_interval_take ctx1 bit2 tr20 tr21 tr22 tr23 tr24 tr25).bind fun (q26 : Int × Int × Int × (List Int) × (List Int)) =>
      let tr27 : Int := q26.1;
      let tr28 : Int := q26.2.1;
      let tr29 : Int := q26.2.2.1;
      let tr30 : List Int := q26.2.2.2.1;
      let tr31 : List Int := q26.2.2.2.2;
      (loop (coder_Encoder_Put_loop6_D) (tr27, tr28, tr29, tr30, tr31)).bind (fun (p61 : Int × Int × Int × (List Int) × (List Int)) =>
       let b62 : Int := p61.1;
       let b63 : Int := p61.2.1;
       let b64 : Int := p61.2.2.1;
       let b65 : List Int := p61.2.2.2.1;
       let b66 : List Int := p61.2.2.2.2;
       some (0, b62, b63, b64, b65, b66)))
     (fun (v17 : Int) =>
      some (v17, tr10, tr11, tr12, tr13, tr14)) o18)) := (call_eq ..).trans (by kernel_rfl)
theorem coder_Encoder_Put_eq (ctx1 : Int) (bit2 : Int) (b3 : Int) (b4 : Int) (b5 : Int) (b6 : List Int) (b7 : List Int) : coder_Encoder_Put ctx1 bit2 b3 b4 b5 b6 b7 =
   (coder_Encoder_none b3 b4 b5 b6 b7).bind fun (q8 : Bool × Int × Int × Int × (List Int) × (List Int)) =>
   let tr9 : Bool := q8.1;
   let tr10 : Int := q8.2.1;
   let tr11 : Int := q8.2.2.1;
   let tr12 : Int := q8.2.2.2.1;
   let tr13 : List Int := q8.2.2.2.2.1;
   let tr14 : List Int := q8.2.2.2.2.2;
   ((if tr9 = true then
     some (Sum.inr 7)
     else
     ((if (decide (ctx1 < 0)) = true then
       some true
       else
       (if (decide (ctx1 ≥ ((tr13.length : Nat) : Int))) = true then
        some true
        else
        (if (!decide (bit2 = 0)) = true then
         some (!decide (bit2 = 1))
         else
         some false))) : Option (Bool)).bind (fun (v15 : Bool) =>
      (if v15 = true then
       some (Sum.inr 2)
       else
       some (Sum.inl ())))) : Option ((Unit) ⊕ (Int))).bind (fun (o18 : (Unit) ⊕ (Int)) =>
    (Sum.elim (fun (p16 : Unit) =>
      (coder_interval_mid ctx1 tr10 tr11 tr12 tr13 tr14).bind fun (q19 : Int × Int × Int × Int × (List Int) × (List Int)) =>
      let tr20 : Int := q19.1;
      let tr21 : Int := q19.2.1;
      let tr22 : Int := q19.2.2.1;
      let tr23 : Int := q19.2.2.2.1;
      let tr24 : List Int := q19.2.2.2.2.1;
      let tr25 : List Int := q19.2.2.2.2.2;
      (coder_interval_take ctx1 bit2 tr20 tr21 tr22 tr23 tr24 tr25).bind fun (q26 : Int × Int × Int × (List Int) × (List Int)) =>
      let tr27 : Int := q26.1;
      let tr28 : Int := q26.2.1;
      let tr29 : Int := q26.2.2.1;
      let tr30 : List Int := q26.2.2.2.1;
      let tr31 : List Int := q26.2.2.2.2;
      (loop (coder_Encoder_Put_loop6) (tr27, tr28, tr29, tr30, tr31)).bind (fun (p61 : Int × Int × Int × (List Int) × (List Int)) =>
       let b62 : Int := p61.1;
       let b63 : Int := p61.2.1;
       let b64 : Int := p61.2.2.1;
       let b65 : List Int := p61.2.2.2.1;
       let b66 : List Int := p61.2.2.2.2;
       some (0, b62, b63, b64, b65, b66)))
     (fun (v17 : Int) =>
      some (v17, tr10, tr11, tr12, tr13, tr14)) o18)) := by rw [coder_Encoder_Put_eqD]; simp only [demon_same, coder_Encoder_Put_loop6_D_eq]

noncomputable def generic_clash_loop2 (b1 : Int) (b2 : Int) (b3 : List Int) (skip4 : Int) (skip5 : Int) (skip6 : List Int) (v7 : Int) : Option ((Int) ⊕ ((Unit) ⊕ (Bool))) :=
   (if (decide (v7 < ((b3.length : Nat) : Int))) = true then
    (if 0 ≤ v7 ∧ v7 < (b3.length : Int) then
     (if (decide (rd b3 v7 = 1)) = true then
      (generic_sides skip4 skip5 skip6 b1 b2).bind fun (q8 : Bool) =>
      (if q8 = true then
       (generic_skips skip4 skip5 skip6 v7).bind fun (q9 : Bool) =>
       (if q9 = true then
        some (Sum.inr (Sum.inr true))
        else
        let t10 : Int := IntKind.i64.wrap (v7 + 1);
        some (Sum.inl t10))
       else
       let t11 : Int := IntKind.i64.wrap (v7 + 1);
       some (Sum.inl t11))
      else
      let t12 : Int := IntKind.i64.wrap (v7 + 1);
      some (Sum.inl t12))
     else
     none)
    else
    some (Sum.inr (Sum.inl ())))
noncomputable def generic_clash_loop2_step (b1 : Int) (b2 : Int) (skip4 : Int) (skip5 : Int) (skip6 : List Int) (i13 : Nat) (x14 : Int) (s15 : Unit) : Option ((Unit) ⊕ ((Unit) ⊕ (Bool))) :=
   (if (decide (x14 = 1)) = true then
    (generic_sides skip4 skip5 skip6 b1 b2).bind fun (q8 : Bool) =>
    (if q8 = true then
     (generic_skips skip4 skip5 skip6 ((i13 : Nat) : Int)).bind fun (q9 : Bool) =>
     (if q9 = true then
      some (Sum.inr (Sum.inr true))
      else
      some (Sum.inl (())))
     else
     some (Sum.inl (())))
    else
    some (Sum.inl (())))
theorem generic_clash_loop2_overAt (b1 : Int) (b2 : Int) (b3 : List Int) (skip4 : Int) (skip5 : Int) (skip6 : List Int) (hl : b3.length ≤ 9223372036854775807) (k : Nat) (s15 : Unit) (hk : k ≤ b3.length) : loop (generic_clash_loop2 b1 b2 b3 skip4 skip5 skip6) (((k : Nat) : Int) : Int) =
    overL (generic_clash_loop2_step b1 b2 skip4 skip5 skip6) (fun (s15 : Unit) => some (Sum.inl ())) k (b3.drop k) s15 := by
  refine loop_over b3 (fun n (s : Unit) => (((n : Nat) : Int) : Int)) _ _ (fun s => ?_) (fun i x s h => ?_) k s15 hk
  · unfold generic_clash_loop2; simp
  · have hlt := lt_len_of_get h
    have h1 : ((i : Nat) : Int) < ((b3.length : Nat) : Int) := by omega
    have h0 : (0 : Int) ≤ ((i : Nat) : Int) := by omega
    have hw : IntKind.i64.wrap (((i : Nat) : Int) + 1) = (((i + 1 : Nat) : Nat) : Int) := w64 (by omega)
    have hr : rd b3 ((i : Nat) : Int) = x := rd_nat h
    unfold generic_clash_loop2 generic_clash_loop2_step
    simp only [h1, h0, hw, h, hr, decide_true, if_true, and_self, true_and, Int.toNat_natCast, Option.bind_some, Option.map_bind, Function.comp_def, map_ite, map_elim, Option.map_some, Option.map_none]
theorem generic_clash_loop2_over (b1 : Int) (b2 : Int) (b3 : List Int) (skip4 : Int) (skip5 : Int) (skip6 : List Int) (hl : b3.length ≤ 9223372036854775807) (s15 : Unit) : loop (generic_clash_loop2 b1 b2 b3 skip4 skip5 skip6) (0 : Int) =
    overL (generic_clash_loop2_step b1 b2 skip4 skip5 skip6) (fun (s15 : Unit) => some (Sum.inl ())) 0 b3 s15 := generic_clash_loop2_overAt b1 b2 b3 skip4 skip5 skip6 hl 0 s15 (Nat.zero_le _)

theorem generic_clash_eq (b1 : Int) (b2 : Int) (b3 : List Int) (skip4 : Int) (skip5 : Int) (skip6 : List Int) : generic_clash b1 b2 b3 skip4 skip5 skip6 =
   (loop (generic_clash_loop2 b1 b2 b3 skip4 skip5 skip6) 0).bind (fun (o18 : (Unit) ⊕ (Bool)) =>
    (Sum.elim (fun (p16 : Unit) =>
      some false)
     (fun (v17 : Bool) =>
      some v17) o18)) := (call_eq ..).trans (by kernel_rfl)

theorem generic_sides_eq (skip1 : Int) (skip2 : Int) (skip3 : List Int) (w4 : Int) (h5 : Int) : generic_sides skip1 skip2 skip3 w4 h5 =
   (if (decide (skip1 = 0)) = true then
    (if (decide (skip2 = 0)) = true then
     some true
     else
     (if (decide (skip1 = w4)) = true then
      some (decide (skip2 = h5))
      else
      some false))
    else
    (if (decide (skip1 = w4)) = true then
     some (decide (skip2 = h5))
     else
     some false)) := (call_eq ..).trans (by kernel_rfl)

theorem coder_Encoder_Model_eq (b1 : Int) (b2 : Int) (b3 : Int) (b4 : List Int) (b5 : List Int) : coder_Encoder_Model b1 b2 b3 b4 b5 =
   (coder_Encoder_none b1 b2 b3 b4 b5).bind fun (q6 : Bool × Int × Int × Int × (List Int) × (List Int)) =>
   let tr7 : Bool := q6.1;
   let tr8 : Int := q6.2.1;
   let tr9 : Int := q6.2.2.1;
   let tr10 : Int := q6.2.2.2.1;
   let tr11 : List Int := q6.2.2.2.2.1;
   let tr12 : List Int := q6.2.2.2.2.2;
   (if tr7 = true then
    some (0, [], tr8, tr9, tr10, tr11, tr12)
    else
    (coder_clone tr8 tr11).bind fun (q13 : Int × (List Int)) =>
    let tr14 : Int := q13.1;
    let tr15 : List Int := q13.2;
    some (tr14, tr15, tr8, tr9, tr10, tr11, tr12)) := (call_eq ..).trans (by kernel_rfl)

theorem generic_fits_eq (m1 : Int) (m2 : List Int) (base3 : Int) (o4 : Int) (o5 : Int) (o6 : Int) (o7 : Bool) (o8 : Int) : generic_fits m1 m2 base3 o4 o5 o6 o7 o8 =
   (if (decide (base3 ≥ 0)) = true then
    (generic_contexts o4 o5 o6 o7 o8).bind fun (q9 : Int) =>
    let t10 : Int := IntKind.i64.wrap (((m2.length : Nat) : Int) - q9);
    let t11 : Int := IntKind.i64.wrap (t10 - 1);
    some (decide (base3 ≤ t11))
    else
    some false) := (call_eq ..).trans (by kernel_rfl)

theorem coder_Encoder_none_eq (b1 : Int) (b2 : Int) (b3 : Int) (b4 : List Int) (b5 : List Int) : coder_Encoder_none b1 b2 b3 b4 b5 =
   some (false, b1, b2, b3, b4, b5) := (call_eq ..).trans (by kernel_rfl)

theorem ref11_asked_eq (a1 : Int) (a2 : Int) (a3 : Int) (a4 : Int) (a5 : Int) (a6 : Int) (a7 : Int) (a8 : Int) (a9 : Bool) (a10 : Int) (l11 : List Bitmap) (w12 : Int) (h13 : Int) : ref11_asked a1 a2 a3 a4 a5 a6 a7 a8 a9 a10 l11 w12 h13 =
   (ref11_Valid a1 a2 a3 a4 a5 a6 a7 a8 a9 a10).bind fun (q14 : Bool) =>
   (if (!q14) = true then
    some 2
    else
    (ref11_bitmaps l11).bind fun (q15 : Int) =>
    (if (!decide (q15 = 0)) = true then
     some 30
     else
     (ref05_Sides w12 h13).bind fun (q16 : Bool) =>
     (if (!q16) = true then
      some 30
      else
      (ref11_patterns l11).bind fun (q17 : Int) =>
      some q17))) := (call_eq ..).trans (by kernel_rfl)

theorem ref07_pixels_eq (o1 : Int) (o2 : Int) (o3 : Int) (o4 : Bool) (o5 : Int) : ref07_pixels o1 o2 o3 o4 o5 =
   (ref07_template o1).bind fun (q6 : (List Pixel)) =>
   (if 0 ≤ (0 : Int) ∧ (0 : Int) < ((2 : Nat) : Int) then
    (if 0 ≤ (1 : Int) ∧ (1 : Int) < ((2 : Nat) : Int) then
     (if (q6.length + ([(Pixel.mk o2 o3)] : List Pixel).length) * 16 ≤ 140737488355328 then
      let t7 : List Pixel := q6 ++ [(Pixel.mk o2 o3)];
      some t7
      else
      none)
     else
     none)
    else
    none) := (call_eq ..).trans (by kernel_rfl)

noncomputable def ref02_Valid_loop7 (m2 : List Int) (most3 : Int) (v5 : Int) : Option ((Int) ⊕ ((Unit) ⊕ (Bool))) :=
   (if (decide (v5 < ((m2.length : Nat) : Int))) = true then
    (if 0 ≤ v5 ∧ v5 < (m2.length : Int) then
     (if (decide (rd m2 v5 < 0)) = true then
      some (Sum.inr (Sum.inr false))
      else
      (if (decide (rd m2 v5 > most3)) = true then
       some (Sum.inr (Sum.inr false))
       else
       let t6 : Int := IntKind.i64.wrap (v5 + 1);
       some (Sum.inl t6)))
     else
     none)
    else
    some (Sum.inr (Sum.inl ())))
noncomputable def ref02_Valid_loop7_step (most3 : Int) (i7 : Nat) (x8 : Int) (s9 : Unit) : Option ((Unit) ⊕ ((Unit) ⊕ (Bool))) :=
   (if (decide (x8 < 0)) = true then
    some (Sum.inr (Sum.inr false))
    else
    (if (decide (x8 > most3)) = true then
     some (Sum.inr (Sum.inr false))
     else
     some (Sum.inl (()))))
theorem ref02_Valid_loop7_overAt (m2 : List Int) (most3 : Int) (hl : m2.length ≤ 9223372036854775807) (k : Nat) (s9 : Unit) (hk : k ≤ m2.length) : loop (ref02_Valid_loop7 m2 most3) (((k : Nat) : Int) : Int) =
    overL (ref02_Valid_loop7_step most3) (fun (s9 : Unit) => some (Sum.inl ())) k (m2.drop k) s9 := by
  refine loop_over m2 (fun n (s : Unit) => (((n : Nat) : Int) : Int)) _ _ (fun s => ?_) (fun i x s h => ?_) k s9 hk
  · unfold ref02_Valid_loop7; simp
  · have hlt := lt_len_of_get h
    have h1 : ((i : Nat) : Int) < ((m2.length : Nat) : Int) := by omega
    have h0 : (0 : Int) ≤ ((i : Nat) : Int) := by omega
    have hw : IntKind.i64.wrap (((i : Nat) : Int) + 1) = (((i + 1 : Nat) : Nat) : Int) := w64 (by omega)
    have hr : rd m2 ((i : Nat) : Int) = x := rd_nat h
    unfold ref02_Valid_loop7 ref02_Valid_loop7_step
    simp only [h1, h0, hw, h, hr, decide_true, if_true, and_self, true_and, Int.toNat_natCast, Option.bind_some, Option.map_bind, Function.comp_def, map_ite, map_elim, Option.map_some, Option.map_none]
theorem ref02_Valid_loop7_over (m2 : List Int) (most3 : Int) (hl : m2.length ≤ 9223372036854775807) (s9 : Unit) : loop (ref02_Valid_loop7 m2 most3) (0 : Int) =
    overL (ref02_Valid_loop7_step most3) (fun (s9 : Unit) => some (Sum.inl ())) 0 m2 s9 := ref02_Valid_loop7_overAt m2 most3 hl 0 s9 (Nat.zero_le _)

theorem ref02_Valid_eq (m1 : Int) (m2 : List Int) : ref02_Valid m1 m2 =
   ((if (decide (m1 = 1)) = true then
     some 65535
     else
     some 63) : Option (Int)).bind (fun (most3 : Int) =>
    ((if (!decide (m1 = 0)) = true then
      (if (!decide (m1 = 1)) = true then
       some true
       else
       some (decide (((m2.length : Nat) : Int) > 8192)))
      else
      some (decide (((m2.length : Nat) : Int) > 8192))) : Option (Bool)).bind (fun (v4 : Bool) =>
     (if v4 = true then
      some false
      else
      (loop (ref02_Valid_loop7 m2 most3) 0).bind (fun (o12 : (Unit) ⊕ (Bool)) =>
       (Sum.elim (fun (p10 : Unit) =>
         some true)
        (fun (v11 : Bool) =>
         some v11) o12))))) := (call_eq ..).trans (by kernel_rfl)

theorem ref02_Copy_eq (m1 : Int) (m2 : List Int) : ref02_Copy m1 m2 =
   (if (([] : List Int).length + m2.length) * 8 ≤ 140737488355328 then
    let t3 : List Int := ([] : List Int) ++ m2;
    some (m1, t3)
    else
    none) := (call_eq ..).trans (by kernel_rfl)

theorem ref02_Whole_eq : ref02_Whole =
   some (0, 4294967295) := (call_eq ..).trans (by kernel_rfl)

theorem ref11_cell_eq (a1 : Int) (a2 : Int) (a3 : Int) (a4 : Int) (a5 : Int) (a6 : Int) (a7 : Int) (a8 : Int) (a9 : Bool) (a10 : Int) (m11 : Int) (n12 : Int) : ref11_cell a1 a2 a3 a4 a5 a6 a7 a8 a9 a10 m11 n12 =
   let t13 : Int := IntKind.i64.wrap (m11 * a6);
   let t14 : Int := IntKind.i64.wrap (a3 + t13);
   let t15 : Int := IntKind.i64.wrap (n12 * a5);
   let t16 : Int := IntKind.i64.wrap (t14 + t15);
   (ref11_down t16).bind fun (q17 : Int) =>
   let t18 : Int := IntKind.i64.wrap (m11 * a5);
   let t19 : Int := IntKind.i64.wrap (a4 + t18);
   let t20 : Int := IntKind.i64.wrap (n12 * a6);
   let t21 : Int := IntKind.i64.wrap (t19 - t20);
   (ref11_down t21).bind fun (q22 : Int) =>
   some (q17, q22) := (call_eq ..).trans (by kernel_rfl)

theorem ref02_Encoder_Model_eq (b1 : Int) (b2 : Int) (b3 : Int) (b4 : List Int) (b5 : List Int) : ref02_Encoder_Model b1 b2 b3 b4 b5 =
   (ref02_Copy b1 b4).bind fun (q6 : Int × (List Int)) =>
   let tr7 : Int := q6.1;
   let tr8 : List Int := q6.2;
   some (tr7, tr8, b1, b2, b3, b4, b5) := (call_eq ..).trans (by kernel_rfl)

theorem ref07_room_eq (o1 : Int) (o2 : Int) (o3 : Int) (o4 : Bool) (o5 : Int) (base6 : Int) (states7 : Int) (w8 : Int) (h9 : Int) (skip10 : Int) (skip11 : Int) (skip12 : List Int) : ref07_room o1 o2 o3 o4 o5 base6 states7 w8 h9 skip10 skip11 skip12 =
   (ref07_Size o1 o2 o3 o4 o5).bind fun (q13 : Int × Int) =>
   let tr14 : Int := q13.1;
   let tr15 : Int := q13.2;
   (ref07_none skip10 skip11 skip12).bind fun (q16 : Bool) =>
   (if (!q16) = true then
    (if (!decide (skip10 = w8)) = true then
     some 2
     else
     (if (!decide (skip11 = h9)) = true then
      some 2
      else
      (if (decide (base6 < 0)) = true then
       some 2
       else
       (if (decide (base6 > states7)) = true then
        some 2
        else
        let t17 : Int := IntKind.i64.wrap (states7 - base6);
        (if (decide (tr14 > t17)) = true then
         some 2
         else
         some 0)))))
    else
    (if (decide (base6 < 0)) = true then
     some 2
     else
     (if (decide (base6 > states7)) = true then
      some 2
      else
      let t18 : Int := IntKind.i64.wrap (states7 - base6);
      (if (decide (tr14 > t18)) = true then
       some 2
       else
       some 0)))) := (call_eq ..).trans (by kernel_rfl)

noncomputable def ref07_typical_loop3 (b1 : Int) (b2 : Int) (b3 : List Int) (skip4 : Int) (skip5 : Int) (skip6 : List Int) (y7 : Int) (s8 : Int × (List Int)) : Option ((Int × (List Int)) ⊕ ((List Int))) :=
   let x9 : Int := s8.1;
   let out10 : List Int := s8.2;
   (if (decide (x9 < b1)) = true then
    let t11 : Int := IntKind.i64.wrap (y7 - 1);
    (ref05_At b1 b2 b3 x9 t11).bind fun (q12 : Int) =>
    (ref05_At skip4 skip5 skip6 x9 y7).bind fun (q13 : Int) =>
    ((if (decide (q13 = 1)) = true then
      some 0
      else
      some q12) : Option (Int)).bind (fun (p14 : Int) =>
     let t15 : Int := IntKind.u8.wrap p14;
     (if (out10.length + ([t15] : List Int).length) * 1 ≤ 140737488355328 then
      let t16 : List Int := out10 ++ [t15];
      let t17 : Int := IntKind.i64.wrap (x9 + 1);
      some (Sum.inl (t17, t16))
      else
      none))
    else
    some (Sum.inr out10))
noncomputable def ref07_typical_loop3_step (b1 : Int) (b2 : Int) (b3 : List Int) (skip4 : Int) (skip5 : Int) (skip6 : List Int) (y7 : Int) (i18 : Nat) (x19 : Nat) (s20 : (List Int)) : Option (((List Int)) ⊕ ((List Int))) :=
   let t11 : Int := IntKind.i64.wrap (y7 - 1);
   (ref05_At b1 b2 b3 ((i18 : Nat) : Int) t11).bind fun (q12 : Int) =>
   (ref05_At skip4 skip5 skip6 ((i18 : Nat) : Int) y7).bind fun (q13 : Int) =>
   ((if (decide (q13 = 1)) = true then
     some 0
     else
     some q12) : Option (Int)).bind (fun (p14 : Int) =>
    let t15 : Int := IntKind.u8.wrap p14;
    (if (s20.length + ([t15] : List Int).length) * 1 ≤ 140737488355328 then
     let t16 : List Int := s20 ++ [t15];
     some (Sum.inl (t16))
     else
     none))
theorem ref07_typical_loop3_overAt (b1 : Int) (b2 : Int) (b3 : List Int) (skip4 : Int) (skip5 : Int) (skip6 : List Int) (y7 : Int) (hl : (List.range (b1).toNat).length ≤ 9223372036854775807) (k : Nat) (s20 : (List Int)) (hk : k ≤ (List.range (b1).toNat).length) : loop (ref07_typical_loop3 b1 b2 b3 skip4 skip5 skip6 y7) ((((k : Nat) : Int), s20) : Int × (List Int)) =
    overL (ref07_typical_loop3_step b1 b2 b3 skip4 skip5 skip6 y7) (fun (s20 : (List Int)) => some s20) k ((List.range (b1).toNat).drop k) s20 := by
  refine loop_over (List.range (b1).toNat) (fun n (s : (List Int)) => ((((n : Nat) : Int), s) : Int × (List Int))) _ _ (fun s => ?_) (fun i x s h => ?_) k s20 hk
  · have h1 : ¬ (((List.range (b1).toNat).length : Nat) : Int) < b1 := by simp only [List.length_range]; omega
    unfold ref07_typical_loop3; simp only [h1, decide_false, Bool.false_eq_true, if_false, Option.map_some]
  · have hlt := lt_len_of_get h
    rw [List.length_range] at hlt hl
    rw [List.getElem?_range hlt] at h
    cases h
    have h1 : ((i : Nat) : Int) < b1 := by omega
    have h0 : (0 : Int) ≤ ((i : Nat) : Int) := by omega
    have hw : IntKind.i64.wrap (((i : Nat) : Int) + 1) = (((i + 1 : Nat) : Nat) : Int) := w64 (by omega)
    unfold ref07_typical_loop3 ref07_typical_loop3_step
    simp only [h1, h0, hw, decide_true, if_true, and_self, true_and, Int.toNat_natCast, Option.bind_some, Option.map_bind, Function.comp_def, map_ite, map_elim, Option.map_some, Option.map_none]
theorem ref07_typical_loop3_over (b1 : Int) (b2 : Int) (b3 : List Int) (skip4 : Int) (skip5 : Int) (skip6 : List Int) (y7 : Int) (hl : (List.range (b1).toNat).length ≤ 9223372036854775807) (s20 : (List Int)) : loop (ref07_typical_loop3 b1 b2 b3 skip4 skip5 skip6 y7) ((0, s20) : Int × (List Int)) =
    overL (ref07_typical_loop3_step b1 b2 b3 skip4 skip5 skip6 y7) (fun (s20 : (List Int)) => some s20) 0 (List.range (b1).toNat) s20 := ref07_typical_loop3_overAt b1 b2 b3 skip4 skip5 skip6 y7 hl 0 s20 (Nat.zero_le _)

theorem ref07_typical_eq (b1 : Int) (b2 : Int) (b3 : List Int) (skip4 : Int) (skip5 : Int) (skip6 : List Int) (y7 : Int) : ref07_typical b1 b2 b3 skip4 skip5 skip6 y7 =
   (loop (ref07_typical_loop3 b1 b2 b3 skip4 skip5 skip6 y7) (0, [])).bind (fun (out21 : (List Int)) =>
    some out21) := (call_eq ..).trans (by kernel_rfl)

noncomputable def ref02_Encoder_Put_loop8 (s17 : Int × Int × Int × (List Int) × (List Int)) : Option ((Int × Int × Int × (List Int) × (List Int)) ⊕ (Int × Int × Int × (List Int) × (List Int))) :=
   let b18 : Int := s17.1;
   let b19 : Int := s17.2.1;
   let b20 : Int := s17.2.2.1;
   let b21 : List Int := s17.2.2.2.1;
   let b22 : List Int := s17.2.2.2.2;
   (ref02_Interval_Fixed b19 b20).bind fun (q23 : Bool) =>
   (if q23 = true then
    let t24 : Int := ishr .u64 b20 24;
    let t25 : Int := IntKind.u8.wrap t24;
    (if (b22.length + ([t25] : List Int).length) * 1 ≤ 140737488355328 then
     let t26 : List Int := b22 ++ [t25];
     (ref02_Interval_Shifted b19 b20).bind fun (q27 : Int × Int) =>
     let tr28 : Int := q27.1;
     let tr29 : Int := q27.2;
     some (Sum.inl (b18, tr28, tr29, b21, t26))
     else
     none)
    else
    some (Sum.inr (b18, b19, b20, b21, b22)))
theorem ref02_Encoder_Put_eq (ctx1 : Int) (bit2 : Int) (b3 : Int) (b4 : Int) (b5 : Int) (b6 : List Int) (b7 : List Int) : ref02_Encoder_Put ctx1 bit2 b3 b4 b5 b6 b7 =
   ((if (decide (ctx1 < 0)) = true then
     some true
     else
     (if (decide (ctx1 ≥ ((b6.length : Nat) : Int))) = true then
      some true
      else
      (if (!decide (bit2 = 0)) = true then
       some (!decide (bit2 = 1))
       else
       some false))) : Option (Bool)).bind (fun (v8 : Bool) =>
    (if v8 = true then
     some (2, b3, b4, b5, b6, b7)
     else
     (if 0 ≤ ctx1 ∧ ctx1 < (b6.length : Int) then
      let t9 : Int := rd b6 ctx1;
      (ref02_Likely b3 t9).bind fun (q10 : Int) =>
      (ref02_Interval_Part b4 b5 q10 bit2).bind fun (q11 : Int × Int) =>
      let tr12 : Int := q11.1;
      let tr13 : Int := q11.2;
      (if 0 ≤ ctx1 ∧ ctx1 < (b6.length : Int) then
       let t14 : Int := rd b6 ctx1;
       (ref02_After b3 t14 bit2).bind fun (q15 : Int) =>
       (if 0 ≤ ctx1 ∧ ctx1 < (b6.length : Int) then
        let w16 : List Int := b6.set ctx1.toNat q15;
        (loop (ref02_Encoder_Put_loop8) (b3, tr12, tr13, w16, b7)).bind (fun (p30 : Int × Int × Int × (List Int) × (List Int)) =>
         let b31 : Int := p30.1;
         let b32 : Int := p30.2.1;
         let b33 : Int := p30.2.2.1;
         let b34 : List Int := p30.2.2.2.1;
         let b35 : List Int := p30.2.2.2.2;
         some (0, b31, b32, b33, b34, b35))
        else
        none)
       else
       none)
      else
      none))) := (call_eq ..).trans (by kernel_rfl)

noncomputable def ref07_context_loop4 (b6 : Int) (b7 : Int) (b8 : List Int) (x9 : Int) (y10 : Int) (q11 : (List Pixel)) (s12 : Int × Int) : Option ((Int × Int) ⊕ (Int)) :=
   let n13 : Int := s12.1;
   let i14 : Int := s12.2;
   (if (decide (i14 < ((q11.length : Nat) : Int))) = true then
    let t15 : Int := IntKind.i64.wrap (2 * n13);
    (if 0 ≤ i14 then
     (q11[i14.toNat]?).bind fun e16 =>
     let t17 : Int := IntKind.i64.wrap (x9 + e16.dX);
     (if 0 ≤ i14 then
      (q11[i14.toNat]?).bind fun e18 =>
      let t19 : Int := IntKind.i64.wrap (y10 + e18.dY);
      (ref05_At b6 b7 b8 t17 t19).bind fun (q20 : Int) =>
      let t21 : Int := IntKind.i64.wrap (t15 + q20);
      let t22 : Int := IntKind.i64.wrap (i14 + 1);
      some (Sum.inl (t21, t22))
      else
      none)
     else
     none)
    else
    some (Sum.inr n13))
theorem ref07_context_eq (o1 : Int) (o2 : Int) (o3 : Int) (o4 : Bool) (o5 : Int) (b6 : Int) (b7 : Int) (b8 : List Int) (x9 : Int) (y10 : Int) : ref07_context o1 o2 o3 o4 o5 b6 b7 b8 x9 y10 =
   (ref07_pixels o1 o2 o3 o4 o5).bind fun (q11 : (List Pixel)) =>
   (loop (ref07_context_loop4 b6 b7 b8 x9 y10 q11) (0, 0)).bind (fun (n23 : Int) =>
    some n23) := (call_eq ..).trans (by kernel_rfl)

noncomputable def ref02_Interval_End_loop3 (x1 : Int) (x2 : Int) (s3 : Int × (List Int)) : Option ((Int × (List Int)) ⊕ ((List Int))) :=
   let n4 : Int := s3.1;
   let out5 : List Int := s3.2;
   (if (decide (n4 < x1)) = true then
    let t6 : Int := IntKind.i64.wrap (8 * ((out5.length : Nat) : Int));
    let t7 : Int := IntKind.i64.wrap (24 - t6);
    (if t7 < 0 then
     none
     else
     let t8 : Int := ishr .u64 x2 t7;
     let t9 : Int := IntKind.u8.wrap t8;
     (if (out5.length + ([t9] : List Int).length) * 1 ≤ 140737488355328 then
      let t10 : List Int := out5 ++ [t9];
      (if t7 < 0 then
       none
       else
       let t11 : Int := ishr .u64 x2 t7;
       let t12 : Int := t11.tmod 256;
       (if t7 < 0 then
        none
        else
        let t13 : Int := ishl .u64 t12 t7;
        let t14 : Int := IntKind.u64.wrap (n4 + t13);
        some (Sum.inl (t14, t10))))
      else
      none))
    else
    some (Sum.inr out5))
theorem ref02_Interval_End_eq (x1 : Int) (x2 : Int) : ref02_Interval_End x1 x2 =
   (loop (ref02_Interval_End_loop3 x1 x2) (0, [])).bind (fun (out15 : (List Int)) =>
    some out15) := (call_eq ..).trans (by kernel_rfl)

theorem bytes_Clone_eq (b1 : List Int) : bytes_Clone b1 =
   (if b1.length = 0 then
    (demon
     (some [])
     ((if (([] : List Int).length + b1.length) * 1 ≤ 140737488355328 then
       let t2 : List Int := ([] : List Int) ++ b1;
       some t2
       else
       none)))
    else
    (if (([] : List Int).length + b1.length) * 1 ≤ 140737488355328 then
     let t3 : List Int := ([] : List Int) ++ b1;
     some t3
     else
     none)) := (call_eq ..).trans (by kernel_rfl)

theorem generic_pixels_eq (template1 : Int) : generic_pixels template1 =
   (if (decide (template1 = 0)) = true then
    some [(Arr2.mk (-1) (-2)), (Arr2.mk 0 (-2)), (Arr2.mk 1 (-2)), (Arr2.mk (-2) (-1)), (Arr2.mk (-1) (-1)), (Arr2.mk 0 (-1)), (Arr2.mk 1 (-1)), (Arr2.mk 2 (-1)), (Arr2.mk (-2) 0), (Arr2.mk (-1) 0)]
    else
    (if (decide (template1 = 1)) = true then
     some [(Arr2.mk (-1) (-2)), (Arr2.mk 0 (-2)), (Arr2.mk (-1) (-1)), (Arr2.mk 0 (-1)), (Arr2.mk 1 (-1)), (Arr2.mk (-2) 0), (Arr2.mk (-1) 0)]
     else
     (if (decide (template1 = 2)) = true then
      some [(Arr2.mk (-2) (-1)), (Arr2.mk (-1) (-1)), (Arr2.mk 0 (-1)), (Arr2.mk 1 (-1)), (Arr2.mk 2 (-1)), (Arr2.mk (-2) 0), (Arr2.mk (-1) 0)]
      else
      some [(Arr2.mk (-1) (-1)), (Arr2.mk 0 (-1)), (Arr2.mk 1 (-1)), (Arr2.mk (-1) 0)]))) := (call_eq ..).trans (by kernel_rfl)

theorem generic_newPlane_eq (o1 : Int) (o2 : Int) (o3 : Int) (o4 : Bool) (o5 : Int) (w6 : Int) (h7 : Int) : generic_newPlane o1 o2 o3 o4 o5 w6 h7 =
   let t8 : Int := IntKind.i64.wrap (w6 * h7);
   (if 0 ≤ t8 ∧ t8 ≤ t8 ∧ ((1 : Nat) : Int) * t8 ≤ 281474976710656 then
    let t9 : List Int := List.replicate t8.toNat 0;
    (generic_pixels o1).bind fun (q10 : (List Arr2)) =>
    (if (q10.length + ([(Arr2.mk o2 o3)] : List Arr2).length) * 16 ≤ 140737488355328 then
     let t11 : List Arr2 := q10 ++ [(Arr2.mk o2 o3)];
     some (w6, h7, t9, t11)
     else
     none)
    else
    none) := (call_eq ..).trans (by kernel_rfl)

noncomputable def generic_plane_above_loop3 (y1 : Int) (skip2 : Int) (skip3 : Int) (skip4 : List Int) (t9 : List Int) (s10 : Int × Int × Int × (List Int) × (List Arr2) × (List Int)) : Option ((Int × Int × Int × (List Int) × (List Arr2) × (List Int)) ⊕ (Int × Int × (List Int) × (List Arr2) × (List Int))) :=
   let v11 : Int := s10.1;
   let b12 : Int := s10.2.1;
   let b13 : Int := s10.2.2.1;
   let b14 : List Int := s10.2.2.2.1;
   let b15 : List Arr2 := s10.2.2.2.2.1;
   let b16 : List Int := s10.2.2.2.2.2;
   (if (decide (v11 < ((t9.length : Nat) : Int))) = true then
    let t17 : Int := IntKind.i64.wrap (y1 * b12);
    let t18 : Int := IntKind.i64.wrap (t17 + v11);
    (generic_skips skip2 skip3 skip4 t18).bind fun (q19 : Bool) =>
    (if (!q19) = true then
     let t20 : Int := IntKind.i64.wrap (y1 - 1);
     (generic_plane_at v11 t20 b12 b13 b14 b15).bind fun (q21 : Int × Int × Int × (List Int) × (List Arr2)) =>
     let tr22 : Int := q21.1;
     let tr23 : Int := q21.2.1;
     let tr24 : Int := q21.2.2.1;
     let tr25 : List Int := q21.2.2.2.1;
     let tr26 : List Arr2 := q21.2.2.2.2;
     (if 0 ≤ v11 ∧ v11 < (b16.length : Int) then
      let w27 : List Int := b16.set v11.toNat tr22;
      let t28 : Int := IntKind.i64.wrap (v11 + 1);
      some (Sum.inl (t28, tr23, tr24, tr25, tr26, w27))
      else
      none)
     else
     let t29 : Int := IntKind.i64.wrap (v11 + 1);
     some (Sum.inl (t29, b12, b13, b14, b15, b16)))
    else
    some (Sum.inr (b12, b13, b14, b15, b16)))
noncomputable def generic_plane_above_loop3_step (y1 : Int) (skip2 : Int) (skip3 : Int) (skip4 : List Int) (i30 : Nat) (x31 : Int) (s32 : Int × Int × (List Int) × (List Arr2) × (List Int)) : Option ((Int × Int × (List Int) × (List Arr2) × (List Int)) ⊕ (Int × Int × (List Int) × (List Arr2) × (List Int))) :=
   let b33 : Int := s32.1;
   let b34 : Int := s32.2.1;
   let b35 : List Int := s32.2.2.1;
   let b36 : List Arr2 := s32.2.2.2.1;
   let b37 : List Int := s32.2.2.2.2;
   let t17 : Int := IntKind.i64.wrap (y1 * b33);
   let t18 : Int := IntKind.i64.wrap (t17 + ((i30 : Nat) : Int));
   (generic_skips skip2 skip3 skip4 t18).bind fun (q19 : Bool) =>
   (if (!q19) = true then
    let t20 : Int := IntKind.i64.wrap (y1 - 1);
    (generic_plane_at ((i30 : Nat) : Int) t20 b33 b34 b35 b36).bind fun (q21 : Int × Int × Int × (List Int) × (List Arr2)) =>
    let tr22 : Int := q21.1;
    let tr23 : Int := q21.2.1;
    let tr24 : Int := q21.2.2.1;
    let tr25 : List Int := q21.2.2.2.1;
    let tr26 : List Arr2 := q21.2.2.2.2;
    (if 0 ≤ ((i30 : Nat) : Int) ∧ ((i30 : Nat) : Int) < (b37.length : Int) then
     let w27 : List Int := b37.set ((i30 : Nat) : Int).toNat tr22;
     some (Sum.inl ((tr23, tr24, tr25, tr26, w27)))
     else
     none)
    else
    some (Sum.inl ((b33, b34, b35, b36, b37))))
theorem generic_plane_above_loop3_overAt (y1 : Int) (skip2 : Int) (skip3 : Int) (skip4 : List Int) (t9 : List Int) (hl : t9.length ≤ 9223372036854775807) (k : Nat) (s32 : Int × Int × (List Int) × (List Arr2) × (List Int)) (hk : k ≤ t9.length) : loop (generic_plane_above_loop3 y1 skip2 skip3 skip4 t9) ((((k : Nat) : Int), s32.1, s32.2.1, s32.2.2.1, s32.2.2.2.1, s32.2.2.2.2) : Int × Int × Int × (List Int) × (List Arr2) × (List Int)) =
    overL (generic_plane_above_loop3_step y1 skip2 skip3 skip4) (fun (s32 : Int × Int × (List Int) × (List Arr2) × (List Int)) => let b33 : Int := s32.1; let b34 : Int := s32.2.1; let b35 : List Int := s32.2.2.1; let b36 : List Arr2 := s32.2.2.2.1; let b37 : List Int := s32.2.2.2.2; some (b33, b34, b35, b36, b37)) k (t9.drop k) s32 := by
  refine loop_over t9 (fun n (s : Int × Int × (List Int) × (List Arr2) × (List Int)) => ((((n : Nat) : Int), s.1, s.2.1, s.2.2.1, s.2.2.2.1, s.2.2.2.2) : Int × Int × Int × (List Int) × (List Arr2) × (List Int))) _ _ (fun s => ?_) (fun i x s h => ?_) k s32 hk
  · unfold generic_plane_above_loop3; simp
  · have hlt := lt_len_of_get h
    have h1 : ((i : Nat) : Int) < ((t9.length : Nat) : Int) := by omega
    have h0 : (0 : Int) ≤ ((i : Nat) : Int) := by omega
    have hw : IntKind.i64.wrap (((i : Nat) : Int) + 1) = (((i + 1 : Nat) : Nat) : Int) := w64 (by omega)
    have hr : rd t9 ((i : Nat) : Int) = x := rd_nat h
    unfold generic_plane_above_loop3 generic_plane_above_loop3_step
    simp only [h1, h0, hw, h, hr, decide_true, if_true, and_self, true_and, Int.toNat_natCast, Option.bind_some, Option.map_bind, Function.comp_def, map_ite, map_elim, Option.map_some, Option.map_none]
theorem generic_plane_above_loop3_over (y1 : Int) (skip2 : Int) (skip3 : Int) (skip4 : List Int) (t9 : List Int) (hl : t9.length ≤ 9223372036854775807) (s32 : Int × Int × (List Int) × (List Arr2) × (List Int)) : loop (generic_plane_above_loop3 y1 skip2 skip3 skip4 t9) ((0, s32.1, s32.2.1, s32.2.2.1, s32.2.2.2.1, s32.2.2.2.2) : Int × Int × Int × (List Int) × (List Arr2) × (List Int)) =
    overL (generic_plane_above_loop3_step y1 skip2 skip3 skip4) (fun (s32 : Int × Int × (List Int) × (List Arr2) × (List Int)) => let b33 : Int := s32.1; let b34 : Int := s32.2.1; let b35 : List Int := s32.2.2.1; let b36 : List Arr2 := s32.2.2.2.1; let b37 : List Int := s32.2.2.2.2; some (b33, b34, b35, b36, b37)) 0 t9 s32 := generic_plane_above_loop3_overAt y1 skip2 skip3 skip4 t9 hl 0 s32 (Nat.zero_le _)

theorem generic_plane_above_eq (y1 : Int) (skip2 : Int) (skip3 : Int) (skip4 : List Int) (b5 : Int) (b6 : Int) (b7 : List Int) (b8 : List Arr2) : generic_plane_above y1 skip2 skip3 skip4 b5 b6 b7 b8 =
   (if 0 ≤ b5 ∧ b5 ≤ b5 ∧ ((1 : Nat) : Int) * b5 ≤ 281474976710656 then
    let t9 : List Int := List.replicate b5.toNat 0;
    (loop (generic_plane_above_loop3 y1 skip2 skip3 skip4 t9) (0, b5, b6, b7, b8, t9)).bind (fun (p38 : Int × Int × (List Int) × (List Arr2) × (List Int)) =>
     let b39 : Int := p38.1;
     let b40 : Int := p38.2.1;
     let b41 : List Int := p38.2.2.1;
     let b42 : List Arr2 := p38.2.2.2.1;
     let b43 : List Int := p38.2.2.2.2;
     some (b43, b39, b40, b41, b42))
    else
    none) := (call_eq ..).trans (by kernel_rfl)

theorem bytes_Equal_eq (a1 : List Int) (b2 : List Int) : bytes_Equal a1 b2 =
   some (decide (a1 = b2)) := (call_eq ..).trans (by kernel_rfl)

theorem generic_skips_eq (skip1 : Int) (skip2 : Int) (skip3 : List Int) (i4 : Int) : generic_skips skip1 skip2 skip3 i4 =
   (if (decide (((skip3.length : Nat) : Int) > 0)) = true then
    (if 0 ≤ i4 ∧ i4 < (skip3.length : Int) then
     some (decide (rd skip3 i4 = 1))
     else
     none)
    else
    some false) := (call_eq ..).trans (by kernel_rfl)

noncomputable def generic_plane_context_loop3 (x1 : Int) (y2 : Int) (b6 : List Arr2) (s7 : Int × Int × Int × Int × (List Int) × (List Arr2)) : Option ((Int × Int × Int × Int × (List Int) × (List Arr2)) ⊕ (Int × Int × Int × (List Int) × (List Arr2))) :=
   let n8 : Int := s7.1;
   let v9 : Int := s7.2.1;
   let b10 : Int := s7.2.2.1;
   let b11 : Int := s7.2.2.2.1;
   let b12 : List Int := s7.2.2.2.2.1;
   let b13 : List Arr2 := s7.2.2.2.2.2;
   (if (decide (v9 < ((b6.length : Nat) : Int))) = true then
    (if 0 ≤ v9 then
     (b6[v9.toNat]?).bind fun e14 =>
     let t15 : Int := IntKind.i64.wrap (2 * n8);
     (if 0 ≤ (0 : Int) ∧ (0 : Int) < ((2 : Nat) : Int) then
      let t16 : Int := IntKind.i64.wrap (x1 + e14.a0);
      (if 0 ≤ (1 : Int) ∧ (1 : Int) < ((2 : Nat) : Int) then
       let t17 : Int := IntKind.i64.wrap (y2 + e14.a1);
       (generic_plane_at t16 t17 b10 b11 b12 b13).bind fun (q18 : Int × Int × Int × (List Int) × (List Arr2)) =>
       let tr19 : Int := q18.1;
       let tr20 : Int := q18.2.1;
       let tr21 : Int := q18.2.2.1;
       let tr22 : List Int := q18.2.2.2.1;
       let tr23 : List Arr2 := q18.2.2.2.2;
       let t24 : Int := IntKind.i64.wrap tr19;
       let t25 : Int := IntKind.i64.wrap (t15 + t24);
       let t26 : Int := IntKind.i64.wrap (v9 + 1);
       some (Sum.inl (t25, t26, tr20, tr21, tr22, tr23))
       else
       none)
      else
      none)
     else
     none)
    else
    some (Sum.inr (n8, b10, b11, b12, b13)))
noncomputable def generic_plane_context_loop3_step (x1 : Int) (y2 : Int) (i27 : Nat) (x28 : Arr2) (s29 : Int × Int × Int × (List Int) × (List Arr2)) : Option ((Int × Int × Int × (List Int) × (List Arr2)) ⊕ (Int × Int × Int × (List Int) × (List Arr2))) :=
   let n30 : Int := s29.1;
   let b31 : Int := s29.2.1;
   let b32 : Int := s29.2.2.1;
   let b33 : List Int := s29.2.2.2.1;
   let b34 : List Arr2 := s29.2.2.2.2;
   let t15 : Int := IntKind.i64.wrap (2 * n30);
   (if 0 ≤ (0 : Int) ∧ (0 : Int) < ((2 : Nat) : Int) then
    let t16 : Int := IntKind.i64.wrap (x1 + x28.a0);
    (if 0 ≤ (1 : Int) ∧ (1 : Int) < ((2 : Nat) : Int) then
     let t17 : Int := IntKind.i64.wrap (y2 + x28.a1);
     (generic_plane_at t16 t17 b31 b32 b33 b34).bind fun (q18 : Int × Int × Int × (List Int) × (List Arr2)) =>
     let tr19 : Int := q18.1;
     let tr20 : Int := q18.2.1;
     let tr21 : Int := q18.2.2.1;
     let tr22 : List Int := q18.2.2.2.1;
     let tr23 : List Arr2 := q18.2.2.2.2;
     let t24 : Int := IntKind.i64.wrap tr19;
     let t25 : Int := IntKind.i64.wrap (t15 + t24);
     some (Sum.inl ((t25, tr20, tr21, tr22, tr23)))
     else
     none)
    else
    none)
theorem generic_plane_context_loop3_overAt (x1 : Int) (y2 : Int) (b6 : List Arr2) (hl : b6.length ≤ 9223372036854775807) (k : Nat) (s29 : Int × Int × Int × (List Int) × (List Arr2)) (hk : k ≤ b6.length) : loop (generic_plane_context_loop3 x1 y2 b6) ((s29.1, ((k : Nat) : Int), s29.2.1, s29.2.2.1, s29.2.2.2.1, s29.2.2.2.2) : Int × Int × Int × Int × (List Int) × (List Arr2)) =
    overL (generic_plane_context_loop3_step x1 y2) (fun (s29 : Int × Int × Int × (List Int) × (List Arr2)) => let n30 : Int := s29.1; let b31 : Int := s29.2.1; let b32 : Int := s29.2.2.1; let b33 : List Int := s29.2.2.2.1; let b34 : List Arr2 := s29.2.2.2.2; some (n30, b31, b32, b33, b34)) k (b6.drop k) s29 := by
  refine loop_over b6 (fun n (s : Int × Int × Int × (List Int) × (List Arr2)) => ((s.1, ((n : Nat) : Int), s.2.1, s.2.2.1, s.2.2.2.1, s.2.2.2.2) : Int × Int × Int × Int × (List Int) × (List Arr2))) _ _ (fun s => ?_) (fun i x s h => ?_) k s29 hk
  · unfold generic_plane_context_loop3; simp
  · have hlt := lt_len_of_get h
    have h1 : ((i : Nat) : Int) < ((b6.length : Nat) : Int) := by omega
    have h0 : (0 : Int) ≤ ((i : Nat) : Int) := by omega
    have hw : IntKind.i64.wrap (((i : Nat) : Int) + 1) = (((i + 1 : Nat) : Nat) : Int) := w64 (by omega)
    unfold generic_plane_context_loop3 generic_plane_context_loop3_step
    simp only [h1, h0, hw, h, decide_true, if_true, and_self, true_and, Int.toNat_natCast, Option.bind_some, Option.map_bind, Function.comp_def, map_ite, map_elim, Option.map_some, Option.map_none]
theorem generic_plane_context_loop3_over (x1 : Int) (y2 : Int) (b6 : List Arr2) (hl : b6.length ≤ 9223372036854775807) (s29 : Int × Int × Int × (List Int) × (List Arr2)) : loop (generic_plane_context_loop3 x1 y2 b6) ((s29.1, 0, s29.2.1, s29.2.2.1, s29.2.2.2.1, s29.2.2.2.2) : Int × Int × Int × Int × (List Int) × (List Arr2)) =
    overL (generic_plane_context_loop3_step x1 y2) (fun (s29 : Int × Int × Int × (List Int) × (List Arr2)) => let n30 : Int := s29.1; let b31 : Int := s29.2.1; let b32 : Int := s29.2.2.1; let b33 : List Int := s29.2.2.2.1; let b34 : List Arr2 := s29.2.2.2.2; some (n30, b31, b32, b33, b34)) 0 b6 s29 := generic_plane_context_loop3_overAt x1 y2 b6 hl 0 s29 (Nat.zero_le _)

theorem generic_plane_context_eq (x1 : Int) (y2 : Int) (b3 : Int) (b4 : Int) (b5 : List Int) (b6 : List Arr2) : generic_plane_context x1 y2 b3 b4 b5 b6 =
   (loop (generic_plane_context_loop3 x1 y2 b6) (0, 0, b3, b4, b5, b6)).bind (fun (p35 : Int × Int × Int × (List Int) × (List Arr2)) =>
    let n36 : Int := p35.1;
    let b37 : Int := p35.2.1;
    let b38 : Int := p35.2.2.1;
    let b39 : List Int := p35.2.2.2.1;
    let b40 : List Arr2 := p35.2.2.2.2;
    some (n36, b37, b38, b39, b40)) := (call_eq ..).trans (by kernel_rfl)

theorem tone_near_eq (n1 : Int) (most2 : Int) : tone_near n1 most2 =
   let t3 : Int := IntKind.i64.wrap (0 - most2);
   (if (decide (n1 ≥ t3)) = true then
    some (decide (n1 ≤ most2))
    else
    some false) := (call_eq ..).trans (by kernel_rfl)

theorem coder_clone_eq (m1 : Int) (m2 : List Int) : coder_clone m1 m2 =
   (if (([] : List Int).length + m2.length) * 8 ≤ 140737488355328 then
    let t3 : List Int := ([] : List Int) ++ m2;
    some (m1, t3)
    else
    none) := (call_eq ..).trans (by kernel_rfl)

theorem coder_chances_eq : coder_chances =
   some () := (call_eq ..).trans (by kernel_rfl)

theorem math_bits_Len64_eq (x1 : Int) : math_bits_Len64 x1 =
   ((if (decide (x1 ≥ 4294967296)) = true then
     let t2 : Int := ishr .u64 x1 32;
     some (t2, 32)
     else
     some (x1, 0)) : Option (Int × Int)).bind (fun (p3 : Int × Int) =>
    let x4 : Int := p3.1;
    let n5 : Int := p3.2;
    ((if (decide (x4 ≥ 65536)) = true then
      let t6 : Int := ishr .u64 x4 16;
      let t7 : Int := IntKind.i64.wrap (n5 + 16);
      some (t6, t7)
      else
      some (x4, n5)) : Option (Int × Int)).bind (fun (p8 : Int × Int) =>
     let x9 : Int := p8.1;
     let n10 : Int := p8.2;
     ((if (decide (x9 ≥ 256)) = true then
       let t11 : Int := ishr .u64 x9 8;
       let t12 : Int := IntKind.i64.wrap (n10 + 8);
       some (t11, t12)
       else
       some (x9, n10)) : Option (Int × Int)).bind (fun (p13 : Int × Int) =>
      let x14 : Int := p13.1;
      let n15 : Int := p13.2;
      let t16 : Int := IntKind.u8.wrap x14;
      (if 0 ≤ t16 ∧ t16 < (([0, 1, 2, 2, 3, 3, 3, 3, 4, 4, 4, 4, 4, 4, 4, 4, 5, 5, 5, 5, 5, 5, 5, 5, 5, 5, 5, 5, 5, 5, 5, 5, 6, 6, 6, 6, 6, 6, 6, 6, 6, 6, 6, 6, 6, 6, 6, 6, 6, 6, 6, 6, 6, 6, 6, 6, 6, 6, 6, 6, 6, 6, 6, 6, 7, 7, 7, 7, 7, 7, 7, 7, 7, 7, 7, 7, 7, 7, 7, 7, 7, 7, 7, 7, 7, 7, 7, 7, 7, 7, 7, 7, 7, 7, 7, 7, 7, 7, 7, 7, 7, 7, 7, 7, 7, 7, 7, 7, 7, 7, 7, 7, 7, 7, 7, 7, 7, 7, 7, 7, 7, 7, 7, 7, 7, 7, 7, 7, 8, 8, 8, 8, 8, 8, 8, 8, 8, 8, 8, 8, 8, 8, 8, 8, 8, 8, 8, 8, 8, 8, 8, 8, 8, 8, 8, 8, 8, 8, 8, 8, 8, 8, 8, 8, 8, 8, 8, 8, 8, 8, 8, 8, 8, 8, 8, 8, 8, 8, 8, 8, 8, 8, 8, 8, 8, 8, 8, 8, 8, 8, 8, 8, 8, 8, 8, 8, 8, 8, 8, 8, 8, 8, 8, 8, 8, 8, 8, 8, 8, 8, 8, 8, 8, 8, 8, 8, 8, 8, 8, 8, 8, 8, 8, 8, 8, 8, 8, 8, 8, 8, 8, 8, 8, 8, 8, 8, 8, 8, 8, 8, 8, 8, 8, 8, 8, 8, 8, 8, 8, 8, 8, 8, 8, 8, 8, 8]).length : Int) then
       let t17 : Int := rd [0, 1, 2, 2, 3, 3, 3, 3, 4, 4, 4, 4, 4, 4, 4, 4, 5, 5, 5, 5, 5, 5, 5, 5, 5, 5, 5, 5, 5, 5, 5, 5, 6, 6, 6, 6, 6, 6, 6, 6, 6, 6, 6, 6, 6, 6, 6, 6, 6, 6, 6, 6, 6, 6, 6, 6, 6, 6, 6, 6, 6, 6, 6, 6, 7, 7, 7, 7, 7, 7, 7, 7, 7, 7, 7, 7, 7, 7, 7, 7, 7, 7, 7, 7, 7, 7, 7, 7, 7, 7, 7, 7, 7, 7, 7, 7, 7, 7, 7, 7, 7, 7, 7, 7, 7, 7, 7, 7, 7, 7, 7, 7, 7, 7, 7, 7, 7, 7, 7, 7, 7, 7, 7, 7, 7, 7, 7, 7, 8, 8, 8, 8, 8, 8, 8, 8, 8, 8, 8, 8, 8, 8, 8, 8, 8, 8, 8, 8, 8, 8, 8, 8, 8, 8, 8, 8, 8, 8, 8, 8, 8, 8, 8, 8, 8, 8, 8, 8, 8, 8, 8, 8, 8, 8, 8, 8, 8, 8, 8, 8, 8, 8, 8, 8, 8, 8, 8, 8, 8, 8, 8, 8, 8, 8, 8, 8, 8, 8, 8, 8, 8, 8, 8, 8, 8, 8, 8, 8, 8, 8, 8, 8, 8, 8, 8, 8, 8, 8, 8, 8, 8, 8, 8, 8, 8, 8, 8, 8, 8, 8, 8, 8, 8, 8, 8, 8, 8, 8, 8, 8, 8, 8, 8, 8, 8, 8, 8, 8, 8, 8, 8, 8, 8, 8, 8, 8] t16;
       let t18 : Int := IntKind.i64.wrap t17;
       let t19 : Int := IntKind.i64.wrap (n15 + t18);
       some t19
       else
       none)))) := (call_eq ..).trans (by kernel_rfl)

noncomputable def slices_IndexFunc_int_int_loop2 (s1 : List Int) (s3 : Int × Int) : Option ((Int × Int) ⊕ ((Int) ⊕ (Int × Int))) :=
   let v4 : Int := s3.1;
   let b5 : Int := s3.2;
   (if (decide (v4 < ((s1.length : Nat) : Int))) = true then
    (if 0 ≤ v4 ∧ v4 < (s1.length : Int) then
     (tone_Planes_1 (rd s1 v4) b5).bind fun (q6 : Bool × Int) =>
     let tr7 : Bool := q6.1;
     let tr8 : Int := q6.2;
     (if tr7 = true then
      some (Sum.inr (Sum.inr (v4, tr8)))
      else
      let t9 : Int := IntKind.i64.wrap (v4 + 1);
      some (Sum.inl (t9, tr8)))
     else
     none)
    else
    some (Sum.inr (Sum.inl b5)))
noncomputable def slices_IndexFunc_int_int_loop2_step (i10 : Nat) (x11 : Int) (s12 : Int) : Option ((Int) ⊕ ((Int) ⊕ (Int × Int))) :=
   (tone_Planes_1 (x11) s12).bind fun (q6 : Bool × Int) =>
   let tr7 : Bool := q6.1;
   let tr8 : Int := q6.2;
   (if tr7 = true then
    some (Sum.inr (Sum.inr (((i10 : Nat) : Int), tr8)))
    else
    some (Sum.inl (tr8)))
theorem slices_IndexFunc_int_int_loop2_overAt (s1 : List Int) (hl : s1.length ≤ 9223372036854775807) (k : Nat) (s12 : Int) (hk : k ≤ s1.length) : loop (slices_IndexFunc_int_int_loop2 s1) ((((k : Nat) : Int), s12) : Int × Int) =
    overL (slices_IndexFunc_int_int_loop2_step) (fun (s12 : Int) => some (Sum.inl s12)) k (s1.drop k) s12 := by
  refine loop_over s1 (fun n (s : Int) => ((((n : Nat) : Int), s) : Int × Int)) _ _ (fun s => ?_) (fun i x s h => ?_) k s12 hk
  · unfold slices_IndexFunc_int_int_loop2; simp
  · have hlt := lt_len_of_get h
    have h1 : ((i : Nat) : Int) < ((s1.length : Nat) : Int) := by omega
    have h0 : (0 : Int) ≤ ((i : Nat) : Int) := by omega
    have hw : IntKind.i64.wrap (((i : Nat) : Int) + 1) = (((i + 1 : Nat) : Nat) : Int) := w64 (by omega)
    have hr : rd s1 ((i : Nat) : Int) = x := rd_nat h
    unfold slices_IndexFunc_int_int_loop2 slices_IndexFunc_int_int_loop2_step
    simp only [h1, h0, hw, h, hr, decide_true, if_true, and_self, true_and, Int.toNat_natCast, Option.bind_some, Option.map_bind, Function.comp_def, map_ite, map_elim, Option.map_some, Option.map_none]
theorem slices_IndexFunc_int_int_loop2_over (s1 : List Int) (hl : s1.length ≤ 9223372036854775807) (s12 : Int) : loop (slices_IndexFunc_int_int_loop2 s1) ((0, s12) : Int × Int) =
    overL (slices_IndexFunc_int_int_loop2_step) (fun (s12 : Int) => some (Sum.inl s12)) 0 s1 s12 := slices_IndexFunc_int_int_loop2_overAt s1 hl 0 s12 (Nat.zero_le _)

theorem slices_IndexFunc_int_int_eq (s1 : List Int) (b2 : Int) : slices_IndexFunc_int_int s1 b2 =
   (loop (slices_IndexFunc_int_int_loop2 s1) (0, b2)).bind (fun (o17 : (Int) ⊕ (Int × Int)) =>
    (Sum.elim (fun (b13 : Int) =>
      some ((-1), b13))
     (fun (p14 : Int × Int) =>
      let v15 : Int := p14.1;
      let b16 : Int := p14.2;
      some (v15, b16)) o17)) := (call_eq ..).trans (by kernel_rfl)

theorem coder_interval_mid_eq (ctx1 : Int) (b2 : Int) (b3 : Int) (b4 : Int) (b5 : List Int) (b6 : List Int) : coder_interval_mid ctx1 b2 b3 b4 b5 b6 =
   let t7 : Int := IntKind.u64.wrap (b4 - b3);
   (if 0 ≤ ctx1 ∧ ctx1 < (b5.length : Int) then
    let t8 : Int := rd b5 ctx1;
    (coder_table_chance b2 t8).bind fun (q9 : Int) =>
    let t10 : Int := IntKind.u64.wrap q9;
    let t11 : Int := IntKind.u64.wrap (t7.tdiv 4096);
    let t12 : Int := IntKind.u64.wrap (t11 * t10);
    let t13 : Int := IntKind.u64.wrap (b3 + t12);
    let t14 : Int := t7.tmod 4096;
    let t15 : Int := IntKind.u64.wrap (t14 * t10);
    let t16 : Int := IntKind.u64.wrap (t15.tdiv 4096);
    let t17 : Int := IntKind.u64.wrap (t13 + t16);
    some (t17, b2, b3, b4, b5, b6)
    else
    none) := (call_eq ..).trans (by kernel_rfl)

theorem coder_interval_take_eq (ctx1 : Int) (bit2 : Int) (mid3 : Int) (b4 : Int) (b5 : Int) (b6 : Int) (b7 : List Int) (b8 : List Int) : coder_interval_take ctx1 bit2 mid3 b4 b5 b6 b7 b8 =
   ((if (decide (bit2 = 1)) = true then
     some (b4, b5, mid3, b7, b8)
     else
     let t9 : Int := IntKind.u64.wrap (mid3 + 1);
     some (b4, t9, b6, b7, b8)) : Option (Int × Int × Int × (List Int) × (List Int))).bind (fun (p10 : Int × Int × Int × (List Int) × (List Int)) =>
    let b11 : Int := p10.1;
    let b12 : Int := p10.2.1;
    let b13 : Int := p10.2.2.1;
    let b14 : List Int := p10.2.2.2.1;
    let b15 : List Int := p10.2.2.2.2;
    (if 0 ≤ ctx1 ∧ ctx1 < (b14.length : Int) then
     let t16 : Int := rd b14 ctx1;
     (coder_next b11 t16 bit2).bind fun (q17 : Int) =>
     (if 0 ≤ ctx1 ∧ ctx1 < (b14.length : Int) then
      let w18 : List Int := b14.set ctx1.toNat q17;
      some (b11, b12, b13, w18, b15)
      else
      none)
     else
     none)) := (call_eq ..).trans (by kernel_rfl)

theorem coder_interval_same_eq (b1 : Int) (b2 : Int) (b3 : Int) (b4 : List Int) (b5 : List Int) : coder_interval_same b1 b2 b3 b4 b5 =
   let t6 : Int := ishr .u64 b2 24;
   let t7 : Int := ishr .u64 b3 24;
   some (decide (t6 = t7), b1, b2, b3, b4, b5) := (call_eq ..).trans (by kernel_rfl)

theorem coder_interval_lose_eq (b1 : Int) (b2 : Int) (b3 : Int) (b4 : List Int) (b5 : List Int) : coder_interval_lose b1 b2 b3 b4 b5 =
   let t6 : Int := ishr .u64 b2 24;
   let t7 : Int := IntKind.u8.wrap t6;
   let t8 : Int := ishl .u64 b2 8;
   let t9 : Int := iand .u64 t8 4294967295;
   let t10 : Int := ishl .u64 b3 8;
   let t11 : Int := iand .u64 t10 4294967295;
   let t12 : Int := ior .u64 t11 255;
   some (t7, b1, t9, t12, b4, b5) := (call_eq ..).trans (by kernel_rfl)

theorem ref11_Valid_eq (a1 : Int) (a2 : Int) (a3 : Int) (a4 : Int) (a5 : Int) (a6 : Int) (a7 : Int) (a8 : Int) (a9 : Bool) (a10 : Int) : ref11_Valid a1 a2 a3 a4 a5 a6 a7 a8 a9 a10 =
   ((if (decide (a1 < 0)) = true then
     some true
     else
     (if (decide (a2 < 0)) = true then
      some true
      else
      (if (decide (a1 > 64)) = true then
       some true
       else
       (if (decide (a2 > 64)) = true then
        some true
        else
        let t11 : Int := IntKind.i64.wrap (a1 * a2);
        some (decide (t11 > 8192)))))) : Option (Bool)).bind (fun (v12 : Bool) =>
    (if v12 = true then
     some false
     else
     ((ref11_isPlace a3).bind fun (q13 : Bool) =>
      (if (!q13) = true then
       some true
       else
       (ref11_isPlace a4).bind fun (q14 : Bool) =>
       (if (!q14) = true then
        some true
        else
        (ref11_isPlace a5).bind fun (q15 : Bool) =>
        (if (!q15) = true then
         some true
         else
         (ref11_isPlace a6).bind fun (q16 : Bool) =>
         some (!q16)))) : Option (Bool)).bind (fun (v17 : Bool) =>
      (if v17 = true then
       some false
       else
       (if (decide (a7 ≥ 0)) = true then
        (if (decide (a7 ≤ 3)) = true then
         (if (decide (a8 ≥ 0)) = true then
          (if (decide (a8 ≤ 1)) = true then
           (if (decide (a10 ≥ 0)) = true then
            some (decide (a10 ≤ 4))
            else
            some false)
           else
           some false)
          else
          some false)
         else
         some false)
        else
        some false))))) := (call_eq ..).trans (by kernel_rfl)

theorem ref07_template_eq (n1 : Int) : ref07_template n1 =
   (if (decide (n1 = 0)) = true then
    some [(Pixel.mk (-1) (-2)), (Pixel.mk 0 (-2)), (Pixel.mk 1 (-2)), (Pixel.mk (-2) (-1)), (Pixel.mk (-1) (-1)), (Pixel.mk 0 (-1)), (Pixel.mk 1 (-1)), (Pixel.mk 2 (-1)), (Pixel.mk (-2) 0), (Pixel.mk (-1) 0)]
    else
    (if (decide (n1 = 1)) = true then
     some [(Pixel.mk (-1) (-2)), (Pixel.mk 0 (-2)), (Pixel.mk (-1) (-1)), (Pixel.mk 0 (-1)), (Pixel.mk 1 (-1)), (Pixel.mk (-2) 0), (Pixel.mk (-1) 0)]
     else
     (if (decide (n1 = 2)) = true then
      some [(Pixel.mk (-2) (-1)), (Pixel.mk (-1) (-1)), (Pixel.mk 0 (-1)), (Pixel.mk 1 (-1)), (Pixel.mk 2 (-1)), (Pixel.mk (-2) 0), (Pixel.mk (-1) 0)]
      else
      some [(Pixel.mk (-1) (-1)), (Pixel.mk 0 (-1)), (Pixel.mk 1 (-1)), (Pixel.mk (-1) 0)]))) := (call_eq ..).trans (by kernel_rfl)

theorem ref11_down_eq (n1 : Int) : ref11_down n1 =
   let t2 : Int := ishr .i64 n1 8;
   some t2 := (call_eq ..).trans (by kernel_rfl)

theorem ref07_none_eq (skip1 : Int) (skip2 : Int) (skip3 : List Int) : ref07_none skip1 skip2 skip3 =
   (if (decide (skip1 = 0)) = true then
    some (decide (skip2 = 0))
    else
    some false) := (call_eq ..).trans (by kernel_rfl)

theorem ref02_Likely_eq (kind1 : Int) (state2 : Int) : ref02_Likely kind1 state2 =
   (if (decide (kind1 = 0)) = true then
    let t3 : Int := state2.tmod 32;
    (ref02_unlikely t3).bind fun (q4 : Int) =>
    (if (decide (state2 < 32)) = true then
     some q4
     else
     let t5 : Int := state2.tmod 32;
     (ref02_unlikely t5).bind fun (q6 : Int) =>
     let t7 : Int := IntKind.i64.wrap (4096 - q6);
     some t7)
    else
    let t8 : Int := IntKind.i64.wrap (state2.tdiv 256);
    let t9 : Int := state2.tmod 256;
    let t10 : Int := IntKind.i64.wrap (2 * t9);
    let t11 : Int := IntKind.i64.wrap (t10 + 1);
    let t12 : Int := IntKind.i64.wrap (t11 * 4096);
    let t13 : Int := IntKind.i64.wrap (2 * t8);
    let t14 : Int := IntKind.i64.wrap (2 * t9);
    let t15 : Int := IntKind.i64.wrap (t13 + t14);
    let t16 : Int := IntKind.i64.wrap (t15 + 2);
    (if t16 = 0 then
     none
     else
     let t17 : Int := IntKind.i64.wrap (t12.tdiv t16);
     let t18 : Int := imax t17 1;
     let t19 : Int := imin t18 4095;
     some t19)) := (call_eq ..).trans (by kernel_rfl)

theorem ref02_Interval_Part_eq (x1 : Int) (x2 : Int) (p3 : Int) (bit4 : Int) : ref02_Interval_Part x1 x2 p3 bit4 =
   (if (decide (bit4 = 1)) = true then
    (ref02_Interval_Mid x1 x2 p3).bind fun (q5 : Int) =>
    some (x1, q5)
    else
    (ref02_Interval_Mid x1 x2 p3).bind fun (q6 : Int) =>
    let t7 : Int := IntKind.u64.wrap (q6 + 1);
    some (t7, x2)) := (call_eq ..).trans (by kernel_rfl)

theorem ref02_After_eq (kind1 : Int) (state2 : Int) (bit3 : Int) : ref02_After kind1 state2 bit3 =
   (if (decide (kind1 = 0)) = true then
    let t4 : Int := IntKind.i64.wrap (state2.tdiv 32);
    let t5 : Int := state2.tmod 32;
    (if (decide (bit3 = t4)) = true then
     let t6 : Int := IntKind.i64.wrap (32 * t4);
     let t7 : Int := IntKind.i64.wrap (t5 + 1);
     let t8 : Int := imin t7 31;
     let t9 : Int := IntKind.i64.wrap (t6 + t8);
     some t9
     else
     (if (decide (t5 = 0)) = true then
      let t10 : Int := IntKind.i64.wrap (32 * bit3);
      some t10
      else
      let t11 : Int := IntKind.i64.wrap (32 * t4);
      let t12 : Int := IntKind.i64.wrap (t11 + t5);
      let t13 : Int := IntKind.i64.wrap (t12 - 1);
      let t14 : Int := IntKind.i64.wrap (t5.tdiv 4);
      let t15 : Int := IntKind.i64.wrap (t13 - t14);
      some t15))
    else
    let t16 : Int := IntKind.i64.wrap (state2.tdiv 256);
    let t17 : Int := state2.tmod 256;
    (if 0 ≤ bit3 ∧ bit3 < ((2 : Nat) : Int) then
     let t18 : Int := rd [t16, t17] bit3;
     ((if (decide (t18 = 255)) = true then
       (if 0 ≤ (0 : Int) ∧ (0 : Int) < ((2 : Nat) : Int) then
        let t19 : Int := IntKind.i64.wrap (t16.tdiv 2);
        (if 0 ≤ (1 : Int) ∧ (1 : Int) < ((2 : Nat) : Int) then
         let t20 : Int := IntKind.i64.wrap (t17.tdiv 2);
         (if 0 ≤ (0 : Int) ∧ (0 : Int) < ((2 : Nat) : Int) then
          (if 0 ≤ (1 : Int) ∧ (1 : Int) < ((2 : Nat) : Int) then
           some (t19, t20)
           else
           none)
          else
          none)
         else
         none)
        else
        none)
       else
       some (t16, t17)) : Option (Int × Int)).bind (fun (p21 : Int × Int) =>
      let b22 : Int := p21.1;
      let b23 : Int := p21.2;
      (if 0 ≤ bit3 ∧ bit3 < ((2 : Nat) : Int) then
       let t24 : Int := rd [b22, b23] bit3;
       let t25 : Int := IntKind.i64.wrap (t24 + 1);
       (if 0 ≤ bit3 ∧ bit3 < ((2 : Nat) : Int) then
        let c26 : Int := if bit3 = 0 then t25 else b22;
        let c27 : Int := if bit3 = 1 then t25 else b23;
        (if 0 ≤ (0 : Int) ∧ (0 : Int) < ((2 : Nat) : Int) then
         let t28 : Int := IntKind.i64.wrap (256 * c26);
         (if 0 ≤ (1 : Int) ∧ (1 : Int) < ((2 : Nat) : Int) then
          let t29 : Int := IntKind.i64.wrap (t28 + c27);
          some t29
          else
          none)
         else
         none)
        else
        none)
       else
       none))
     else
     none)) := (call_eq ..).trans (by kernel_rfl)

theorem ref02_Interval_Fixed_eq (x1 : Int) (x2 : Int) : ref02_Interval_Fixed x1 x2 =
   let t3 : Int := ishr .u64 x1 24;
   let t4 : Int := ishr .u64 x2 24;
   some (decide (t3 = t4)) := (call_eq ..).trans (by kernel_rfl)

theorem ref02_Interval_Shifted_eq (x1 : Int) (x2 : Int) : ref02_Interval_Shifted x1 x2 =
   let t3 : Int := x1.tmod 16777216;
   let t4 : Int := IntKind.u64.wrap (t3 * 256);
   let t5 : Int := x2.tmod 16777216;
   let t6 : Int := IntKind.u64.wrap (t5 * 256);
   let t7 : Int := IntKind.u64.wrap (t6 + 255);
   some (t4, t7) := (call_eq ..).trans (by kernel_rfl)

theorem generic_plane_at_eq (x1 : Int) (y2 : Int) (b3 : Int) (b4 : Int) (b5 : List Int) (b6 : List Arr2) : generic_plane_at x1 y2 b3 b4 b5 b6 =
   ((if (decide (x1 < 0)) = true then
     some true
     else
     (if (decide (y2 < 0)) = true then
      some true
      else
      (if (decide (x1 ≥ b3)) = true then
       some true
       else
       some (decide (y2 ≥ b4))))) : Option (Bool)).bind (fun (v7 : Bool) =>
    (if v7 = true then
     some (0, b3, b4, b5, b6)
     else
     let t8 : Int := IntKind.i64.wrap (y2 * b3);
     let t9 : Int := IntKind.i64.wrap (t8 + x1);
     (if 0 ≤ t9 ∧ t9 < (b5.length : Int) then
      some (rd b5 t9, b3, b4, b5, b6)
      else
      none))) := (call_eq ..).trans (by kernel_rfl)

theorem tone_Planes_1_eq (v1 : Int) (b2 : Int) : tone_Planes_1 v1 b2 =
   (if (decide (v1 < 0)) = true then
    some (true, b2)
    else
    (if b2 < 0 then
     none
     else
     let t3 : Int := ishl .i64 1 b2;
     some (decide (v1 ≥ t3), b2))) := (call_eq ..).trans (by kernel_rfl)

theorem coder_table_chance_eq (kind1 : Int) (s2 : Int) : coder_table_chance kind1 s2 =
   (if (decide (kind1 = 1)) = true then
    let t3 : Int := IntKind.i64.wrap (s2.tdiv 256);
    let t4 : Int := s2.tmod 256;
    let t5 : Int := IntKind.i64.wrap (2 * t4);
    let t6 : Int := IntKind.i64.wrap (t5 + 1);
    let t7 : Int := IntKind.i64.wrap (t6 * 4096);
    let t8 : Int := IntKind.i64.wrap (2 * t3);
    let t9 : Int := IntKind.i64.wrap (2 * t4);
    let t10 : Int := IntKind.i64.wrap (t8 + t9);
    let t11 : Int := IntKind.i64.wrap (t10 + 2);
    (if t11 = 0 then
     none
     else
     let t12 : Int := IntKind.i64.wrap (t7.tdiv t11);
     let t13 : Int := imax t12 1;
     let t14 : Int := imin t13 4095;
     some t14)
    else
    (if (decide (s2 ≥ 32)) = true then
     let t15 : Int := IntKind.i64.wrap (s2 - 32);
     (if 0 ≤ t15 ∧ t15 < ((32 : Nat) : Int) then
      let t16 : Int := rd [2048, 1792, 1568, 1372, 1201, 1051, 920, 805, 705, 617, 540, 473, 414, 363, 318, 279, 245, 215, 189, 166, 146, 128, 112, 98, 86, 76, 67, 59, 52, 46, 41, 36] t15;
      let t17 : Int := IntKind.i64.wrap (4096 - t16);
      some t17
      else
      none)
     else
     (if 0 ≤ s2 ∧ s2 < ((32 : Nat) : Int) then
      let t18 : Int := rd [2048, 1792, 1568, 1372, 1201, 1051, 920, 805, 705, 617, 540, 473, 414, 363, 318, 279, 245, 215, 189, 166, 146, 128, 112, 98, 86, 76, 67, 59, 52, 46, 41, 36] s2;
      some t18
      else
      none))) := (call_eq ..).trans (by kernel_rfl)
end
end Go.Proofs.YtkccnhkhjncpkaaGreat.P
