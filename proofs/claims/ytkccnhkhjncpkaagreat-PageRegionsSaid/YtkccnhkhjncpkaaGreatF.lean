/- Copies of functions with fuel, for what is known: what they come to, the functions come to. Printed by wip/tool/vsym.py. -/
import Derived.Test.YtkccnhkhjncpkaaGreatQs
import Derived.Test.YtkccnhkhjncpkaaGreatLib
namespace Go.Proofs.YtkccnhkhjncpkaaGreat.P
open Go Go.Proofs.YtkccnhkhjncpkaaGreat.V
set_option linter.unusedVariables false
set_option linter.unusedSimpArgs false
set_option maxRecDepth 100000
noncomputable section
noncomputable def bitmap_fits_F (fuel : Nat) (w1 : Int) (h2 : Int) : Option Bool :=
   (if (decide (w1 ≥ 0)) = true then
    (if (decide (h2 ≥ 0)) = true then
     (if (decide (w1 ≤ 200)) = true then
      (if (decide (h2 ≤ 200)) = true then
       let t3 : Int := IntKind.i64.wrap (w1 * h2);
       some (decide (t3 ≤ 8192))
       else
       some false)
      else
      some false)
     else
     some false)
    else
    some false)
theorem bitmap_fits_F_le (fuel : Nat) (w1 : Int) (h2 : Int) : Ole (bitmap_fits_F fuel w1 h2) (bitmap_fits w1 h2) := by
  rw [bitmap_fits_eq]; unfold bitmap_fits_F; try dsimp only
  repeat' first | with_reducible exact Ole.refl _ | refine Ole.ite ?_ ?_ | refine Ole.iter fun _ => ?_ | refine Ole.elim (fun _ => ?_) (fun _ => ?_) | refine Ole.bind ?_ fun _ => ?_
noncomputable def bitmap_blank_F (fuel : Nat) (w1 : Int) (h2 : Int) : Option (Int × Int × Int × (List Int)) :=
   (bitmap_fits_F fuel w1 h2).bind fun (q3 : Bool) =>
   (if (!q3) = true then
    some (0, 0, 4, [])
    else
    let t4 : Int := IntKind.i64.wrap (w1 * h2);
    (if 0 ≤ t4 ∧ t4 ≤ t4 ∧ ((1 : Nat) : Int) * t4 ≤ 281474976710656 then
     let t5 : List Int := List.replicate t4.toNat 0;
     some (w1, h2, 0, t5)
     else
     none))
theorem bitmap_blank_F_le (fuel : Nat) (w1 : Int) (h2 : Int) : Ole (bitmap_blank_F fuel w1 h2) (bitmap_blank w1 h2) := by
  rw [bitmap_blank_eq]; unfold bitmap_blank_F; try dsimp only
  repeat' first | with_reducible exact Ole.refl _ | refine Ole.ite ?_ ?_ | with_reducible exact bitmap_fits_F_le .. | refine Ole.iter fun _ => ?_ | refine Ole.elim (fun _ => ?_) (fun _ => ?_) | refine Ole.bind ?_ fun _ => ?_
noncomputable def bitmap_New_loop5_F (fuel : Nat) (pixel3 : Int) (tr9 : List Int) (s10 : Int × (List Int)) : Option ((Int × (List Int)) ⊕ ((List Int))) :=
   let v11 : Int := s10.1;
   let b12 : List Int := s10.2;
   (if (decide (v11 < ((tr9.length : Nat) : Int))) = true then
    let t13 : Int := IntKind.u8.wrap pixel3;
    (if 0 ≤ v11 ∧ v11 < (b12.length : Int) then
     let w14 : List Int := b12.set v11.toNat t13;
     let t15 : Int := IntKind.i64.wrap (v11 + 1);
     some (Sum.inl (t15, w14))
     else
     none)
    else
    some (Sum.inr b12))
theorem bitmap_New_loop5_F_le (fuel : Nat) (pixel3 : Int) (tr9 : List Int) (s10 : Int × (List Int)) : Ole (bitmap_New_loop5_F fuel pixel3 tr9 s10) (bitmap_New_loop5 pixel3 tr9 s10) := by
  unfold bitmap_New_loop5_F bitmap_New_loop5; try dsimp only
  repeat' first | with_reducible exact Ole.refl _ | refine Ole.ite ?_ ?_ | with_reducible exact bitmap_blank_F_le .. | refine Ole.iter fun _ => ?_ | refine Ole.elim (fun _ => ?_) (fun _ => ?_) | refine Ole.bind ?_ fun _ => ?_
noncomputable def bitmap_New_F (fuel : Nat) (w1 : Int) (h2 : Int) (pixel3 : Int) : Option (Int × Int × (List Int) × Int) :=
   ((if (decide (w1 < 0)) = true then
     some true
     else
     (if (decide (h2 < 0)) = true then
      some true
      else
      (if (!decide (pixel3 = 0)) = true then
       some (!decide (pixel3 = 1))
       else
       some false))) : Option (Bool)).bind (fun (v4 : Bool) =>
    (if v4 = true then
     some (0, 0, [], 2)
     else
     (bitmap_blank_F fuel w1 h2).bind fun (q5 : Int × Int × Int × (List Int)) =>
     let tr6 : Int := q5.1;
     let tr7 : Int := q5.2.1;
     let tr8 : Int := q5.2.2.1;
     let tr9 : List Int := q5.2.2.2;
     (iter (bitmap_New_loop5_F fuel pixel3 tr9) fuel (0, tr9)).bind (fun (b19 : (List Int)) =>
      some (tr6, tr7, b19, tr8))))
theorem bitmap_New_F_le (fuel : Nat) (w1 : Int) (h2 : Int) (pixel3 : Int) : Ole (bitmap_New_F fuel w1 h2 pixel3) (bitmap_New w1 h2 pixel3) := by
  rw [bitmap_New_eq]; unfold bitmap_New_F; try dsimp only
  repeat' first | with_reducible exact Ole.refl _ | refine Ole.ite ?_ ?_ | with_reducible exact bitmap_blank_F_le .. | with_reducible exact bitmap_New_loop5_F_le .. | refine Ole.iter fun _ => ?_ | refine Ole.elim (fun _ => ?_) (fun _ => ?_) | refine Ole.bind ?_ fun _ => ?_
noncomputable def page_writer_byte_loop1_F (fuel : Nat) (l1 : List Int) (s3 : Int × (List Int)) : Option ((Int × (List Int)) ⊕ ((List Int))) :=
   let v4 : Int := s3.1;
   let b5 : List Int := s3.2;
   (if (decide (v4 < ((l1.length : Nat) : Int))) = true then
    (if 0 ≤ v4 ∧ v4 < (l1.length : Int) then
     let t6 : Int := IntKind.u8.wrap (rd l1 v4);
     (if (b5.length + ([t6] : List Int).length) * 1 ≤ 140737488355328 then
      let t7 : List Int := b5 ++ [t6];
      let t8 : Int := IntKind.i64.wrap (v4 + 1);
      some (Sum.inl (t8, t7))
      else
      none)
     else
     none)
    else
    some (Sum.inr b5))
theorem page_writer_byte_loop1_F_le (fuel : Nat) (l1 : List Int) (s3 : Int × (List Int)) : Ole (page_writer_byte_loop1_F fuel l1 s3) (page_writer_byte_loop1 l1 s3) := by
  unfold page_writer_byte_loop1_F page_writer_byte_loop1; try dsimp only
  repeat' first | with_reducible exact Ole.refl _ | refine Ole.ite ?_ ?_ | refine Ole.iter fun _ => ?_ | refine Ole.elim (fun _ => ?_) (fun _ => ?_) | refine Ole.bind ?_ fun _ => ?_
noncomputable def page_writer_byte_F (fuel : Nat) (l1 : List Int) (b2 : List Int) : Option (List Int) :=
   (iter (page_writer_byte_loop1_F fuel l1) fuel (0, b2)).bind (fun (b12 : (List Int)) =>
    some b12)
theorem page_writer_byte_F_le (fuel : Nat) (l1 : List Int) (b2 : List Int) : Ole (page_writer_byte_F fuel l1 b2) (page_writer_byte l1 b2) := by
  rw [page_writer_byte_eq]; unfold page_writer_byte_F; try dsimp only
  repeat' first | with_reducible exact Ole.refl _ | refine Ole.ite ?_ ?_ | with_reducible exact page_writer_byte_loop1_F_le .. | refine Ole.iter fun _ => ?_ | refine Ole.elim (fun _ => ?_) (fun _ => ?_) | refine Ole.bind ?_ fun _ => ?_
noncomputable def bits_Size_loop5_F (fuel : Nat) (s6 : Int × (List Int)) : Option ((Int × (List Int)) ⊕ ((List Int))) :=
   let n7 : Int := s6.1;
   let out8 : List Int := s6.2;
   (if (decide (n7 > 0)) = true then
    let t9 : Int := n7.tmod 128;
    let t10 : Int := IntKind.u8.wrap t9;
    let t11 : Int := IntKind.u8.wrap (t10 + 128);
    (if (([t11] : List Int).length + out8.length) * 1 ≤ 140737488355328 then
     let t12 : List Int := ([t11] : List Int) ++ out8;
     let t13 : Int := IntKind.i64.wrap (n7.tdiv 128);
     some (Sum.inl (t13, t12))
     else
     none)
    else
    some (Sum.inr out8))
theorem bits_Size_loop5_F_le (fuel : Nat) (s6 : Int × (List Int)) : Ole (bits_Size_loop5_F fuel s6) (bits_Size_loop5 s6) := by
  unfold bits_Size_loop5_F bits_Size_loop5; try dsimp only
  repeat' first | with_reducible exact Ole.refl _ | refine Ole.ite ?_ ?_ | refine Ole.iter fun _ => ?_ | refine Ole.elim (fun _ => ?_) (fun _ => ?_) | refine Ole.bind ?_ fun _ => ?_
noncomputable def bits_Size_F (fuel : Nat) (n1 : Int) : Option ((List Int) × Int) :=
   ((if (decide (n1 < 0)) = true then
     some true
     else
     some (decide (n1 > 2147483647))) : Option (Bool)).bind (fun (v2 : Bool) =>
    (if v2 = true then
     some ([], 2)
     else
     let t3 : Int := n1.tmod 128;
     let t4 : Int := IntKind.u8.wrap t3;
     let t5 : Int := IntKind.i64.wrap (n1.tdiv 128);
     (iter (bits_Size_loop5_F fuel) fuel (t5, [t4])).bind (fun (out14 : (List Int)) =>
      some (out14, 0))))
theorem bits_Size_F_le (fuel : Nat) (n1 : Int) : Ole (bits_Size_F fuel n1) (bits_Size n1) := by
  rw [bits_Size_eq]; unfold bits_Size_F; try dsimp only
  repeat' first | with_reducible exact Ole.refl _ | refine Ole.ite ?_ ?_ | with_reducible exact bits_Size_loop5_F_le .. | refine Ole.iter fun _ => ?_ | refine Ole.elim (fun _ => ?_) (fun _ => ?_) | refine Ole.bind ?_ fun _ => ?_
noncomputable def page_writer_size_loop1_F (fuel : Nat) (l1 : List Int) (s3 : Int × (List Int)) : Option ((Int × (List Int)) ⊕ ((List Int))) :=
   let v4 : Int := s3.1;
   let b5 : List Int := s3.2;
   (if (decide (v4 < ((l1.length : Nat) : Int))) = true then
    (if 0 ≤ v4 ∧ v4 < (l1.length : Int) then
     (bits_Size_F fuel (rd l1 v4)).bind fun (q6 : (List Int) × Int) =>
     let tr7 : List Int := q6.1;
     let tr8 : Int := q6.2;
     (if (b5.length + tr7.length) * 1 ≤ 140737488355328 then
      let t9 : List Int := b5 ++ tr7;
      let t10 : Int := IntKind.i64.wrap (v4 + 1);
      some (Sum.inl (t10, t9))
      else
      none)
     else
     none)
    else
    some (Sum.inr b5))
theorem page_writer_size_loop1_F_le (fuel : Nat) (l1 : List Int) (s3 : Int × (List Int)) : Ole (page_writer_size_loop1_F fuel l1 s3) (page_writer_size_loop1 l1 s3) := by
  unfold page_writer_size_loop1_F page_writer_size_loop1; try dsimp only
  repeat' first | with_reducible exact Ole.refl _ | refine Ole.ite ?_ ?_ | with_reducible exact bits_Size_F_le .. | refine Ole.iter fun _ => ?_ | refine Ole.elim (fun _ => ?_) (fun _ => ?_) | refine Ole.bind ?_ fun _ => ?_
noncomputable def page_writer_size_F (fuel : Nat) (l1 : List Int) (b2 : List Int) : Option (List Int) :=
   (iter (page_writer_size_loop1_F fuel l1) fuel (0, b2)).bind (fun (b14 : (List Int)) =>
    some b14)
theorem page_writer_size_F_le (fuel : Nat) (l1 : List Int) (b2 : List Int) : Ole (page_writer_size_F fuel l1 b2) (page_writer_size l1 b2) := by
  rw [page_writer_size_eq]; unfold page_writer_size_F; try dsimp only
  repeat' first | with_reducible exact Ole.refl _ | refine Ole.ite ?_ ?_ | with_reducible exact bits_Size_F_le .. | with_reducible exact page_writer_size_loop1_F_le .. | refine Ole.iter fun _ => ?_ | refine Ole.elim (fun _ => ?_) (fun _ => ?_) | refine Ole.bind ?_ fun _ => ?_
noncomputable def page_Info_F (fuel : Nat) (w1 : Int) (h2 : Int) (pixel3 : Int) (op4 : Int) : Option ((List Int) × Int) :=
   let t5 : Int := imax h2 0;
   (bitmap_New_F fuel w1 t5 0).bind fun (q6 : Int × Int × (List Int) × Int) =>
   let tr7 : Int := q6.1;
   let tr8 : Int := q6.2.1;
   let tr9 : List Int := q6.2.2.1;
   let tr10 : Int := q6.2.2.2;
   ((if (!decide (tr10 = 0)) = true then
     some true
     else
     (if (decide (h2 < (-1))) = true then
      some true
      else
      (if (decide (pixel3 < 0)) = true then
       some true
       else
       (if (decide (pixel3 > 1)) = true then
        some true
        else
        (if (decide (op4 < 0)) = true then
         some true
         else
         some (decide (op4 > 4))))))) : Option (Bool)).bind (fun (v11 : Bool) =>
    (if v11 = true then
     some ([], 2)
     else
     let t12 : Int := IntKind.i64.wrap (h2 + 1);
     (page_writer_size_F fuel [w1, t12] []).bind fun (q13 : (List Int)) =>
     let t14 : Int := IntKind.i64.wrap (2 * op4);
     let t15 : Int := IntKind.i64.wrap (pixel3 + t14);
     (page_writer_byte_F fuel [t15] q13).bind fun (q16 : (List Int)) =>
     some (q16, 0)))
theorem page_Info_F_le (fuel : Nat) (w1 : Int) (h2 : Int) (pixel3 : Int) (op4 : Int) : Ole (page_Info_F fuel w1 h2 pixel3 op4) (page_Info w1 h2 pixel3 op4) := by
  rw [page_Info_eq]; unfold page_Info_F; try dsimp only
  repeat' first | with_reducible exact Ole.refl _ | refine Ole.ite ?_ ?_ | with_reducible exact bitmap_New_F_le .. | with_reducible exact page_writer_byte_F_le .. | with_reducible exact page_writer_size_F_le .. | refine Ole.iter fun _ => ?_ | refine Ole.elim (fun _ => ?_) (fun _ => ?_) | refine Ole.bind ?_ fun _ => ?_
noncomputable def ref01_SameBytes_F (fuel : Nat) (a1 : List Int) (b2 : List Int) : Option Bool :=
   some (decide (a1 = b2))
theorem ref01_SameBytes_F_le (fuel : Nat) (a1 : List Int) (b2 : List Int) : Ole (ref01_SameBytes_F fuel a1 b2) (ref01_SameBytes a1 b2) := by
  rw [ref01_SameBytes_eq]; unfold ref01_SameBytes_F; try dsimp only
  repeat' first | with_reducible exact Ole.refl _ | refine Ole.ite ?_ ?_ | refine Ole.iter fun _ => ?_ | refine Ole.elim (fun _ => ?_) (fun _ => ?_) | refine Ole.bind ?_ fun _ => ?_
noncomputable def law13_Sane_F (fuel : Nat) : Option Bool :=
   (page_Info_F fuel 3 2 0 1).bind fun (q1 : (List Int) × Int) =>
   let tr2 : List Int := q1.1;
   let tr3 : Int := q1.2;
   (if (decide (tr3 = 0)) = true then
    (ref01_SameBytes_F fuel tr2 [3, 3, 2]).bind fun (q4 : Bool) =>
    some q4
    else
    some false)
theorem law13_Sane_F_le (fuel : Nat) : Ole (law13_Sane_F fuel) (law13_Sane) := by
  rw [law13_Sane_eq]; unfold law13_Sane_F; try dsimp only
  repeat' first | with_reducible exact Ole.refl _ | refine Ole.ite ?_ ?_ | with_reducible exact page_Info_F_le .. | with_reducible exact ref01_SameBytes_F_le .. | refine Ole.iter fun _ => ?_ | refine Ole.elim (fun _ => ?_) (fun _ => ?_) | refine Ole.bind ?_ fun _ => ?_
noncomputable def prefix_lines_loop3_F (fuel : Nat) (l1 : List Arr4) (s2 : Int × (List Line)) : Option ((Int × (List Line)) ⊕ ((List Line))) :=
   let v3 : Int := s2.1;
   let out4 : List Line := s2.2;
   (if (decide (v3 < ((l1.length : Nat) : Int))) = true then
    (if 0 ≤ v3 then
     (l1[v3.toNat]?).bind fun e5 =>
     (if 0 ≤ (0 : Int) ∧ (0 : Int) < ((4 : Nat) : Int) then
      (if 0 ≤ (1 : Int) ∧ (1 : Int) < ((4 : Nat) : Int) then
       (if 0 ≤ (2 : Int) ∧ (2 : Int) < ((4 : Nat) : Int) then
        (if 0 ≤ (3 : Int) ∧ (3 : Int) < ((4 : Nat) : Int) then
         (if (out4.length + ([(Line.mk e5.a0 e5.a1 e5.a2 e5.a3)] : List Line).length) * 32 ≤ 140737488355328 then
          let t6 : List Line := out4 ++ [(Line.mk e5.a0 e5.a1 e5.a2 e5.a3)];
          let t7 : Int := IntKind.i64.wrap (v3 + 1);
          some (Sum.inl (t7, t6))
          else
          none)
         else
         none)
        else
        none)
       else
       none)
      else
      none)
     else
     none)
    else
    some (Sum.inr out4))
theorem prefix_lines_loop3_F_le (fuel : Nat) (l1 : List Arr4) (s2 : Int × (List Line)) : Ole (prefix_lines_loop3_F fuel l1 s2) (prefix_lines_loop3 l1 s2) := by
  unfold prefix_lines_loop3_F prefix_lines_loop3; try dsimp only
  repeat' first | with_reducible exact Ole.refl _ | refine Ole.ite ?_ ?_ | refine Ole.iter fun _ => ?_ | refine Ole.elim (fun _ => ?_) (fun _ => ?_) | refine Ole.bind ?_ fun _ => ?_
noncomputable def prefix_lines_F (fuel : Nat) (l1 : List Arr4) : Option (List Line) :=
   (iter (prefix_lines_loop3_F fuel l1) fuel (0, [])).bind (fun (out11 : (List Line)) =>
    some out11)
theorem prefix_lines_F_le (fuel : Nat) (l1 : List Arr4) : Ole (prefix_lines_F fuel l1) (prefix_lines l1) := by
  rw [prefix_lines_eq]; unfold prefix_lines_F; try dsimp only
  repeat' first | with_reducible exact Ole.refl _ | refine Ole.ite ?_ ?_ | with_reducible exact prefix_lines_loop3_F_le .. | refine Ole.iter fun _ => ?_ | refine Ole.elim (fun _ => ?_) (fun _ => ?_) | refine Ole.bind ?_ fun _ => ?_
noncomputable def prefix_Standard_F (fuel : Nat) (k1 : Int) : Option ((List Line) × Int) :=
   (if (decide (k1 = 0)) = true then
    (prefix_lines_F fuel [(Arr4.mk 1 0 0 0), (Arr4.mk 2 1 1 0), (Arr4.mk 3 3 3 0), (Arr4.mk 4 5 11 0), (Arr4.mk 5 8 43 0), (Arr4.mk 5 20 299 0)]).bind fun (q2 : (List Line)) =>
    some (q2, 0)
    else
    (if (decide (k1 = 1)) = true then
     (prefix_lines_F fuel [(Arr4.mk 1 2 0 0), (Arr4.mk 2 4 4 0), (Arr4.mk 3 8 20 0), (Arr4.mk 4 20 (-1) 1), (Arr4.mk 4 0 0 2)]).bind fun (q3 : (List Line)) =>
     some (q3, 0)
     else
     (if (decide (k1 = 2)) = true then
      (prefix_lines_F fuel [(Arr4.mk 1 0 0 0), (Arr4.mk 3 2 1 0), (Arr4.mk 3 2 (-1) 1), (Arr4.mk 3 20 5 0), (Arr4.mk 3 20 (-5) 1)]).bind fun (q4 : (List Line)) =>
      some (q4, 0)
      else
      some ([], 2))))
theorem prefix_Standard_F_le (fuel : Nat) (k1 : Int) : Ole (prefix_Standard_F fuel k1) (prefix_Standard k1) := by
  rw [prefix_Standard_eq]; unfold prefix_Standard_F; try dsimp only
  repeat' first | with_reducible exact Ole.refl _ | refine Ole.ite ?_ ?_ | with_reducible exact prefix_lines_F_le .. | refine Ole.iter fun _ => ?_ | refine Ole.elim (fun _ => ?_) (fun _ => ?_) | refine Ole.bind ?_ fun _ => ?_
theorem prefix_isLine_at0 : prefix_isLine 1 0 0 0 = some true := (call_eq ..).trans (by kernel_rfl)
theorem prefix_isLine_at1 : prefix_isLine 2 1 1 0 = some true := (call_eq ..).trans (by kernel_rfl)
theorem prefix_isLine_at2 : prefix_isLine 3 3 3 0 = some true := (call_eq ..).trans (by kernel_rfl)
theorem prefix_isLine_at3 : prefix_isLine 4 5 11 0 = some true := (call_eq ..).trans (by kernel_rfl)
theorem prefix_isLine_at4 : prefix_isLine 5 8 43 0 = some true := (call_eq ..).trans (by kernel_rfl)
theorem prefix_isLine_at5 : prefix_isLine 5 20 299 0 = some true := (call_eq ..).trans (by kernel_rfl)
theorem prefix_isLine_at6 : prefix_isLine 2 2 0 0 = some true := (call_eq ..).trans (by kernel_rfl)
theorem prefix_isLine_at7 : prefix_isLine 2 3 4 0 = some true := (call_eq ..).trans (by kernel_rfl)
theorem prefix_isLine_at8 : prefix_isLine 2 4 12 0 = some true := (call_eq ..).trans (by kernel_rfl)
theorem prefix_isLine_at9 : prefix_isLine 2 6 28 0 = some true := (call_eq ..).trans (by kernel_rfl)
theorem prefix_isLine_at10 : prefix_isLine 1 1 0 0 = some true := (call_eq ..).trans (by kernel_rfl)
theorem prefix_isLine_at11 : prefix_isLine 2 1 2 0 = some true := (call_eq ..).trans (by kernel_rfl)
theorem prefix_isLine_at12 : prefix_isLine 3 2 4 0 = some true := (call_eq ..).trans (by kernel_rfl)
theorem prefix_isLine_at13 : prefix_isLine 3 6 8 0 = some true := (call_eq ..).trans (by kernel_rfl)
noncomputable def prefix_isLine_F (fuel : Nat) (x1 : Int) (x2 : Int) (x3 : Int) (x4 : Int) : Option Bool := if x1 = 1 ∧ x2 = 0 ∧ x3 = 0 ∧ x4 = 0 then some true else if x1 = 2 ∧ x2 = 1 ∧ x3 = 1 ∧ x4 = 0 then some true else if x1 = 3 ∧ x2 = 3 ∧ x3 = 3 ∧ x4 = 0 then some true else if x1 = 4 ∧ x2 = 5 ∧ x3 = 11 ∧ x4 = 0 then some true else if x1 = 5 ∧ x2 = 8 ∧ x3 = 43 ∧ x4 = 0 then some true else if x1 = 5 ∧ x2 = 20 ∧ x3 = 299 ∧ x4 = 0 then some true else if x1 = 2 ∧ x2 = 2 ∧ x3 = 0 ∧ x4 = 0 then some true else if x1 = 2 ∧ x2 = 3 ∧ x3 = 4 ∧ x4 = 0 then some true else if x1 = 2 ∧ x2 = 4 ∧ x3 = 12 ∧ x4 = 0 then some true else if x1 = 2 ∧ x2 = 6 ∧ x3 = 28 ∧ x4 = 0 then some true else if x1 = 1 ∧ x2 = 1 ∧ x3 = 0 ∧ x4 = 0 then some true else if x1 = 2 ∧ x2 = 1 ∧ x3 = 2 ∧ x4 = 0 then some true else if x1 = 3 ∧ x2 = 2 ∧ x3 = 4 ∧ x4 = 0 then some true else if x1 = 3 ∧ x2 = 6 ∧ x3 = 8 ∧ x4 = 0 then some true else none
theorem prefix_isLine_F_le (fuel : Nat) (x1 : Int) (x2 : Int) (x3 : Int) (x4 : Int) : Ole (prefix_isLine_F fuel x1 x2 x3 x4) (prefix_isLine x1 x2 x3 x4) := by
  unfold prefix_isLine_F
  refine Ole.known (fun q => by obtain ⟨rfl, rfl, rfl, rfl⟩ := q; exact prefix_isLine_at0) ?_
  refine Ole.known (fun q => by obtain ⟨rfl, rfl, rfl, rfl⟩ := q; exact prefix_isLine_at1) ?_
  refine Ole.known (fun q => by obtain ⟨rfl, rfl, rfl, rfl⟩ := q; exact prefix_isLine_at2) ?_
  refine Ole.known (fun q => by obtain ⟨rfl, rfl, rfl, rfl⟩ := q; exact prefix_isLine_at3) ?_
  refine Ole.known (fun q => by obtain ⟨rfl, rfl, rfl, rfl⟩ := q; exact prefix_isLine_at4) ?_
  refine Ole.known (fun q => by obtain ⟨rfl, rfl, rfl, rfl⟩ := q; exact prefix_isLine_at5) ?_
  refine Ole.known (fun q => by obtain ⟨rfl, rfl, rfl, rfl⟩ := q; exact prefix_isLine_at6) ?_
  refine Ole.known (fun q => by obtain ⟨rfl, rfl, rfl, rfl⟩ := q; exact prefix_isLine_at7) ?_
  refine Ole.known (fun q => by obtain ⟨rfl, rfl, rfl, rfl⟩ := q; exact prefix_isLine_at8) ?_
  refine Ole.known (fun q => by obtain ⟨rfl, rfl, rfl, rfl⟩ := q; exact prefix_isLine_at9) ?_
  refine Ole.known (fun q => by obtain ⟨rfl, rfl, rfl, rfl⟩ := q; exact prefix_isLine_at10) ?_
  refine Ole.known (fun q => by obtain ⟨rfl, rfl, rfl, rfl⟩ := q; exact prefix_isLine_at11) ?_
  refine Ole.known (fun q => by obtain ⟨rfl, rfl, rfl, rfl⟩ := q; exact prefix_isLine_at12) ?_
  refine Ole.known (fun q => by obtain ⟨rfl, rfl, rfl, rfl⟩ := q; exact prefix_isLine_at13) ?_
  exact fun _ h => nomatch h
noncomputable def prefix_weight_loop2_F (fuel : Nat) (a1 : List Line) (s2 : Int × Int × Int × Int) : Option ((Int × Int × Int × Int) ⊕ (Int × Int × Int)) :=
   let sum3 : Int := s2.1;
   let used4 : Int := s2.2.1;
   let nones5 : Int := s2.2.2.1;
   let v6 : Int := s2.2.2.2;
   (if (decide (v6 < ((a1.length : Nat) : Int))) = true then
    (if 0 ≤ v6 then
     (a1[v6.toNat]?).bind fun e7 =>
     (if (decide (e7.length = 0)) = true then
      let t8 : Int := IntKind.i64.wrap (v6 + 1);
      some (Sum.inl (sum3, used4, nones5, t8))
      else
      let t9 : Int := IntKind.i64.wrap (15 - e7.length);
      (if t9 < 0 then
       none
       else
       let t10 : Int := ishl .i64 1 t9;
       let t11 : Int := IntKind.i64.wrap (sum3 + t10);
       let t12 : Int := IntKind.i64.wrap (used4 + 1);
       (if (decide (e7.kind = 2)) = true then
        let t13 : Int := IntKind.i64.wrap (nones5 + 1);
        let t14 : Int := IntKind.i64.wrap (v6 + 1);
        some (Sum.inl (t11, t12, t13, t14))
        else
        let t15 : Int := IntKind.i64.wrap (v6 + 1);
        some (Sum.inl (t11, t12, nones5, t15)))))
     else
     none)
    else
    some (Sum.inr (sum3, used4, nones5)))
theorem prefix_weight_loop2_F_le (fuel : Nat) (a1 : List Line) (s2 : Int × Int × Int × Int) : Ole (prefix_weight_loop2_F fuel a1 s2) (prefix_weight_loop2 a1 s2) := by
  unfold prefix_weight_loop2_F prefix_weight_loop2; try dsimp only
  repeat' first | with_reducible exact Ole.refl _ | refine Ole.ite ?_ ?_ | refine Ole.iter fun _ => ?_ | refine Ole.elim (fun _ => ?_) (fun _ => ?_) | refine Ole.bind ?_ fun _ => ?_
noncomputable def prefix_weight_F (fuel : Nat) (a1 : List Line) : Option (Int × Int × Int) :=
   (iter (prefix_weight_loop2_F fuel a1) fuel (0, 0, 0, 0)).bind (fun (p22 : Int × Int × Int) =>
    let sum23 : Int := p22.1;
    let used24 : Int := p22.2.1;
    let nones25 : Int := p22.2.2;
    some (sum23, used24, nones25))
theorem prefix_weight_F_le (fuel : Nat) (a1 : List Line) : Ole (prefix_weight_F fuel a1) (prefix_weight a1) := by
  rw [prefix_weight_eq]; unfold prefix_weight_F; try dsimp only
  repeat' first | with_reducible exact Ole.refl _ | refine Ole.ite ?_ ?_ | with_reducible exact prefix_weight_loop2_F_le .. | refine Ole.iter fun _ => ?_ | refine Ole.elim (fun _ => ?_) (fun _ => ?_) | refine Ole.bind ?_ fun _ => ?_
noncomputable def prefix_Valid_loop4_F (fuel : Nat) (a1 : List Line) (v2 : Int) : Option ((Int) ⊕ ((Unit) ⊕ (Bool))) :=
   (if (decide (v2 < ((a1.length : Nat) : Int))) = true then
    (if 0 ≤ v2 then
     (a1[v2.toNat]?).bind fun e3 =>
     (prefix_isLine_F fuel e3.length e3.bits e3.low e3.kind).bind fun (q4 : Bool) =>
     (if (!q4) = true then
      some (Sum.inr (Sum.inr false))
      else
      let t5 : Int := IntKind.i64.wrap (v2 + 1);
      some (Sum.inl t5))
     else
     none)
    else
    some (Sum.inr (Sum.inl ())))
theorem prefix_Valid_loop4_F_le (fuel : Nat) (a1 : List Line) (v2 : Int) : Ole (prefix_Valid_loop4_F fuel a1 v2) (prefix_Valid_loop4 a1 v2) := by
  unfold prefix_Valid_loop4_F prefix_Valid_loop4; try dsimp only
  repeat' first | with_reducible exact Ole.refl _ | refine Ole.ite ?_ ?_ | with_reducible exact prefix_isLine_F_le .. | with_reducible exact prefix_weight_F_le .. | refine Ole.iter fun _ => ?_ | refine Ole.elim (fun _ => ?_) (fun _ => ?_) | refine Ole.bind ?_ fun _ => ?_
noncomputable def prefix_Valid_F (fuel : Nat) (a1 : List Line) : Option Bool :=
   (if (decide (((a1.length : Nat) : Int) > 64)) = true then
    some false
    else
    (iter (prefix_Valid_loop4_F fuel a1) fuel 0).bind (fun (o11 : (Unit) ⊕ (Bool)) =>
     (Sum.elim (fun (p9 : Unit) =>
       (prefix_weight_F fuel a1).bind fun (q12 : Int × Int × Int) =>
       let tr13 : Int := q12.1;
       let tr14 : Int := q12.2.1;
       let tr15 : Int := q12.2.2;
       (if (decide (tr14 > 0)) = true then
        (if (decide (tr15 ≤ 1)) = true then
         some (decide (tr13 ≤ 32768))
         else
         some false)
        else
        some false))
      (fun (v10 : Bool) =>
       some v10) o11)))
theorem prefix_Valid_F_le (fuel : Nat) (a1 : List Line) : Ole (prefix_Valid_F fuel a1) (prefix_Valid a1) := by
  rw [prefix_Valid_eq]; unfold prefix_Valid_F; try dsimp only
  repeat' first | with_reducible exact Ole.refl _ | refine Ole.ite ?_ ?_ | with_reducible exact prefix_isLine_F_le .. | with_reducible exact prefix_weight_F_le .. | with_reducible exact prefix_Valid_loop4_F_le .. | refine Ole.iter fun _ => ?_ | refine Ole.elim (fun _ => ?_) (fun _ => ?_) | refine Ole.bind ?_ fun _ => ?_
noncomputable def prefix_codes_loop8_F (fuel : Nat) (a1 : List Line) (length4 : Int) (s10 : Int × (List Code) × Int × Int) : Option ((Int × (List Code) × Int × Int) ⊕ ((List Code) × Int × Int)) :=
   let v11 : Int := s10.1;
   let b12 : List Code := s10.2.1;
   let b13 : Int := s10.2.2.1;
   let b14 : Int := s10.2.2.2;
   (if (decide (v11 < ((a1.length : Nat) : Int))) = true then
    (if 0 ≤ v11 then
     (a1[v11.toNat]?).bind fun e15 =>
     (if (decide (e15.length = length4)) = true then
      (if 0 ≤ v11 ∧ v11 < (b12.length : Int) then
       (b12[v11.toNat]?).bind fun e16 =>
       let w17 : List Code := b12.set v11.toNat (Code.mk b13 b14);
       let t18 : Int := IntKind.i64.wrap (b13 + 1);
       let t19 : Int := IntKind.i64.wrap (v11 + 1);
       some (Sum.inl (t19, w17, t18, b14))
       else
       none)
      else
      let t20 : Int := IntKind.i64.wrap (v11 + 1);
      some (Sum.inl (t20, b12, b13, b14)))
     else
     none)
    else
    some (Sum.inr (b12, b13, b14)))
theorem prefix_codes_loop8_F_le (fuel : Nat) (a1 : List Line) (length4 : Int) (s10 : Int × (List Code) × Int × Int) : Ole (prefix_codes_loop8_F fuel a1 length4 s10) (prefix_codes_loop8 a1 length4 s10) := by
  unfold prefix_codes_loop8_F prefix_codes_loop8; try dsimp only
  repeat' first | with_reducible exact Ole.refl _ | refine Ole.ite ?_ ?_ | refine Ole.iter fun _ => ?_ | refine Ole.elim (fun _ => ?_) (fun _ => ?_) | refine Ole.bind ?_ fun _ => ?_
noncomputable def prefix_codes_loop4_F (fuel : Nat) (a1 : List Line) (s3 : Int × (List Code) × Int × Int) : Option ((Int × (List Code) × Int × Int) ⊕ ((List Code) × Int × Int)) :=
   let length4 : Int := s3.1;
   let b5 : List Code := s3.2.1;
   let b6 : Int := s3.2.2.1;
   let b7 : Int := s3.2.2.2;
   (if (decide (length4 ≤ 15)) = true then
    let t8 : Int := IntKind.i64.wrap (length4 - b7);
    (if t8 < 0 then
     none
     else
     let t9 : Int := ishl .i64 b6 t8;
     (iter (prefix_codes_loop8_F fuel a1 length4) fuel (0, b5, t9, length4)).bind (fun (p27 : (List Code) × Int × Int) =>
      let b28 : List Code := p27.1;
      let b29 : Int := p27.2.1;
      let b30 : Int := p27.2.2;
      let t31 : Int := IntKind.i64.wrap (length4 + 1);
      some (Sum.inl (t31, b28, b29, b30))))
    else
    some (Sum.inr (b5, b6, b7)))
theorem prefix_codes_loop4_F_le (fuel : Nat) (a1 : List Line) (s3 : Int × (List Code) × Int × Int) : Ole (prefix_codes_loop4_F fuel a1 s3) (prefix_codes_loop4 a1 s3) := by
  unfold prefix_codes_loop4_F prefix_codes_loop4; try dsimp only
  repeat' first | with_reducible exact Ole.refl _ | refine Ole.ite ?_ ?_ | with_reducible exact prefix_codes_loop8_F_le .. | refine Ole.iter fun _ => ?_ | refine Ole.elim (fun _ => ?_) (fun _ => ?_) | refine Ole.bind ?_ fun _ => ?_
noncomputable def prefix_codes_F (fuel : Nat) (a1 : List Line) : Option (List Code) :=
   (if 0 ≤ ((a1.length : Nat) : Int) ∧ ((a1.length : Nat) : Int) ≤ ((a1.length : Nat) : Int) ∧ ((16 : Nat) : Int) * ((a1.length : Nat) : Int) ≤ 281474976710656 then
    let t2 : List Code := List.replicate ((a1.length : Nat) : Int).toNat (Code.mk 0 0);
    (iter (prefix_codes_loop4_F fuel a1) fuel (1, t2, 0, 1)).bind (fun (p32 : (List Code) × Int × Int) =>
     let b33 : List Code := p32.1;
     let b34 : Int := p32.2.1;
     let b35 : Int := p32.2.2;
     some b33)
    else
    none)
theorem prefix_codes_F_le (fuel : Nat) (a1 : List Line) : Ole (prefix_codes_F fuel a1) (prefix_codes a1) := by
  rw [prefix_codes_eq]; unfold prefix_codes_F; try dsimp only
  repeat' first | with_reducible exact Ole.refl _ | refine Ole.ite ?_ ?_ | with_reducible exact prefix_codes_loop8_F_le .. | with_reducible exact prefix_codes_loop4_F_le .. | refine Ole.iter fun _ => ?_ | refine Ole.elim (fun _ => ?_) (fun _ => ?_) | refine Ole.bind ?_ fun _ => ?_
noncomputable def prefix_digits_loop3_F (fuel : Nat) (x1 : Int) (n2 : Int) (t3 : List Int) (s4 : Int × (List Int)) : Option ((Int × (List Int)) ⊕ ((List Int))) :=
   let v5 : Int := s4.1;
   let b6 : List Int := s4.2;
   (if (decide (v5 < ((t3.length : Nat) : Int))) = true then
    let t7 : Int := IntKind.i64.wrap (n2 - 1);
    let t8 : Int := IntKind.i64.wrap (t7 - v5);
    (if t8 < 0 then
     none
     else
     let t9 : Int := ishr .i64 x1 t8;
     let t10 : Int := iand .i64 t9 1;
     let t11 : Int := IntKind.u8.wrap t10;
     (if 0 ≤ v5 ∧ v5 < (b6.length : Int) then
      let w12 : List Int := b6.set v5.toNat t11;
      let t13 : Int := IntKind.i64.wrap (v5 + 1);
      some (Sum.inl (t13, w12))
      else
      none))
    else
    some (Sum.inr b6))
theorem prefix_digits_loop3_F_le (fuel : Nat) (x1 : Int) (n2 : Int) (t3 : List Int) (s4 : Int × (List Int)) : Ole (prefix_digits_loop3_F fuel x1 n2 t3 s4) (prefix_digits_loop3 x1 n2 t3 s4) := by
  unfold prefix_digits_loop3_F prefix_digits_loop3; try dsimp only
  repeat' first | with_reducible exact Ole.refl _ | refine Ole.ite ?_ ?_ | refine Ole.iter fun _ => ?_ | refine Ole.elim (fun _ => ?_) (fun _ => ?_) | refine Ole.bind ?_ fun _ => ?_
noncomputable def prefix_digits_F (fuel : Nat) (x1 : Int) (n2 : Int) : Option (List Int) :=
   (if 0 ≤ n2 ∧ n2 ≤ n2 ∧ ((1 : Nat) : Int) * n2 ≤ 281474976710656 then
    let t3 : List Int := List.replicate n2.toNat 0;
    (iter (prefix_digits_loop3_F fuel x1 n2 t3) fuel (0, t3)).bind (fun (b17 : (List Int)) =>
     some b17)
    else
    none)
theorem prefix_digits_F_le (fuel : Nat) (x1 : Int) (n2 : Int) : Ole (prefix_digits_F fuel x1 n2) (prefix_digits x1 n2) := by
  rw [prefix_digits_eq]; unfold prefix_digits_F; try dsimp only
  repeat' first | with_reducible exact Ole.refl _ | refine Ole.ite ?_ ?_ | with_reducible exact prefix_digits_loop3_F_le .. | refine Ole.iter fun _ => ?_ | refine Ole.elim (fun _ => ?_) (fun _ => ?_) | refine Ole.bind ?_ fun _ => ?_
noncomputable def prefix_offset_F (fuel : Nat) (x1 : Int) (x2 : Int) (x3 : Int) (x4 : Int) (n5 : Bool) (n6 : Int) : Option (Int × Bool) :=
   ((if n5 = true then
     some true
     else
     some (decide (x4 = 2))) : Option (Bool)).bind (fun (v7 : Bool) =>
    (if v7 = true then
     ((if n5 = true then
       (if (decide (n6 = 0)) = true then
        some (0, decide (x4 = 2))
        else
        some (0, false))
       else
       some (0, false)) : Option (Int × Bool)).bind (fun (p8 : Int × Bool) =>
      let v9 : Int := p8.1;
      let v10 : Bool := p8.2;
      some (v9, v10))
     else
     ((if (decide (n6 < (-4194304))) = true then
       some true
       else
       some (decide (n6 > 4194304))) : Option (Bool)).bind (fun (v11 : Bool) =>
      (if v11 = true then
       some (0, false)
       else
       let t12 : Int := IntKind.i64.wrap (n6 - x3);
       ((if (decide (x4 = 1)) = true then
         let t13 : Int := IntKind.i64.wrap (0 - t12);
         some t13
         else
         some t12) : Option (Int)).bind (fun (d14 : Int) =>
        (if (decide (d14 ≥ 0)) = true then
         (if x2 < 0 then
          none
          else
          let t15 : Int := ishl .i64 1 x2;
          some (d14, decide (d14 < t15)))
         else
         some (d14, false)))))))
theorem prefix_offset_F_le (fuel : Nat) (x1 : Int) (x2 : Int) (x3 : Int) (x4 : Int) (n5 : Bool) (n6 : Int) : Ole (prefix_offset_F fuel x1 x2 x3 x4 n5 n6) (prefix_offset x1 x2 x3 x4 n5 n6) := by
  rw [prefix_offset_eq]; unfold prefix_offset_F; try dsimp only
  repeat' first | with_reducible exact Ole.refl _ | refine Ole.ite ?_ ?_ | refine Ole.iter fun _ => ?_ | refine Ole.elim (fun _ => ?_) (fun _ => ?_) | refine Ole.bind ?_ fun _ => ?_
noncomputable def prefix_line_loop3_F (fuel : Nat) (a1 : List Line) (n2 : Bool) (n3 : Int) (s4 : Int × Int × Int) : Option ((Int × Int × Int) ⊕ (Int × Int)) :=
   let best5 : Int := s4.1;
   let d6 : Int := s4.2.1;
   let v7 : Int := s4.2.2;
   (if (decide (v7 < ((a1.length : Nat) : Int))) = true then
    (if 0 ≤ v7 then
     (a1[v7.toNat]?).bind fun e8 =>
     (prefix_offset_F fuel e8.length e8.bits e8.low e8.kind n2 n3).bind fun (q9 : Int × Bool) =>
     let tr10 : Int := q9.1;
     let tr11 : Bool := q9.2;
     (if tr11 = true then
      (if (decide (e8.length > 0)) = true then
       (if (decide (best5 < 0)) = true then
        let t12 : Int := IntKind.i64.wrap (v7 + 1);
        some (Sum.inl (v7, tr10, t12))
        else
        let t13 : Int := IntKind.i64.wrap (e8.length + e8.bits);
        (if 0 ≤ best5 then
         (a1[best5.toNat]?).bind fun e14 =>
         (if 0 ≤ best5 then
          (a1[best5.toNat]?).bind fun e15 =>
          let t16 : Int := IntKind.i64.wrap (e14.length + e15.bits);
          (if (decide (t13 < t16)) = true then
           let t17 : Int := IntKind.i64.wrap (v7 + 1);
           some (Sum.inl (v7, tr10, t17))
           else
           let t18 : Int := IntKind.i64.wrap (v7 + 1);
           some (Sum.inl (best5, d6, t18)))
          else
          none)
         else
         none))
       else
       let t19 : Int := IntKind.i64.wrap (v7 + 1);
       some (Sum.inl (best5, d6, t19)))
      else
      let t20 : Int := IntKind.i64.wrap (v7 + 1);
      some (Sum.inl (best5, d6, t20)))
     else
     none)
    else
    some (Sum.inr (best5, d6)))
theorem prefix_line_loop3_F_le (fuel : Nat) (a1 : List Line) (n2 : Bool) (n3 : Int) (s4 : Int × Int × Int) : Ole (prefix_line_loop3_F fuel a1 n2 n3 s4) (prefix_line_loop3 a1 n2 n3 s4) := by
  unfold prefix_line_loop3_F prefix_line_loop3; try dsimp only
  repeat' first | with_reducible exact Ole.refl _ | refine Ole.ite ?_ ?_ | with_reducible exact prefix_offset_F_le .. | refine Ole.iter fun _ => ?_ | refine Ole.elim (fun _ => ?_) (fun _ => ?_) | refine Ole.bind ?_ fun _ => ?_
noncomputable def prefix_line_F (fuel : Nat) (a1 : List Line) (n2 : Bool) (n3 : Int) : Option (Int × Int) :=
   (iter (prefix_line_loop3_F fuel a1 n2 n3) fuel ((-1), 0, 0)).bind (fun (p26 : Int × Int) =>
    let best27 : Int := p26.1;
    let d28 : Int := p26.2;
    some (best27, d28))
theorem prefix_line_F_le (fuel : Nat) (a1 : List Line) (n2 : Bool) (n3 : Int) : Ole (prefix_line_F fuel a1 n2 n3) (prefix_line a1 n2 n3) := by
  rw [prefix_line_eq]; unfold prefix_line_F; try dsimp only
  repeat' first | with_reducible exact Ole.refl _ | refine Ole.ite ?_ ?_ | with_reducible exact prefix_offset_F_le .. | with_reducible exact prefix_line_loop3_F_le .. | refine Ole.iter fun _ => ?_ | refine Ole.elim (fun _ => ?_) (fun _ => ?_) | refine Ole.bind ?_ fun _ => ?_
noncomputable def prefix_put_F (fuel : Nat) (a1 : List Line) (l2 : List Code) (n3 : Bool) (n4 : Int) : Option (Int × (List Int)) :=
   (prefix_line_F fuel a1 n3 n4).bind fun (q5 : Int × Int) =>
   let tr6 : Int := q5.1;
   let tr7 : Int := q5.2;
   (if (decide (tr6 < 0)) = true then
    some (5, [])
    else
    (if 0 ≤ tr6 then
     (l2[tr6.toNat]?).bind fun e8 =>
     (if 0 ≤ tr6 then
      (l2[tr6.toNat]?).bind fun e9 =>
      (prefix_digits_F fuel e8.bits e9.length).bind fun (q10 : (List Int)) =>
      (if 0 ≤ tr6 then
       (a1[tr6.toNat]?).bind fun e11 =>
       (prefix_digits_F fuel tr7 e11.bits).bind fun (q12 : (List Int)) =>
       (if (q10.length + q12.length) * 1 ≤ 140737488355328 then
        let t13 : List Int := q10 ++ q12;
        some (0, t13)
        else
        none)
       else
       none)
      else
      none)
     else
     none))
theorem prefix_put_F_le (fuel : Nat) (a1 : List Line) (l2 : List Code) (n3 : Bool) (n4 : Int) : Ole (prefix_put_F fuel a1 l2 n3 n4) (prefix_put a1 l2 n3 n4) := by
  rw [prefix_put_eq]; unfold prefix_put_F; try dsimp only
  repeat' first | with_reducible exact Ole.refl _ | refine Ole.ite ?_ ?_ | with_reducible exact prefix_digits_F_le .. | with_reducible exact prefix_line_F_le .. | refine Ole.iter fun _ => ?_ | refine Ole.elim (fun _ => ?_) (fun _ => ?_) | refine Ole.bind ?_ fun _ => ?_
noncomputable def prefix_Bits_F (fuel : Nat) (a1 : List Line) (n2 : Bool) (n3 : Int) : Option (Int × (List Int)) :=
   (prefix_Valid_F fuel a1).bind fun (q4 : Bool) =>
   (if (!q4) = true then
    some (20, [])
    else
    (prefix_codes_F fuel a1).bind fun (q5 : (List Code)) =>
    (prefix_put_F fuel a1 q5 n2 n3).bind fun (q6 : Int × (List Int)) =>
    let tr7 : Int := q6.1;
    let tr8 : List Int := q6.2;
    some (tr7, tr8))
theorem prefix_Bits_F_le (fuel : Nat) (a1 : List Line) (n2 : Bool) (n3 : Int) : Ole (prefix_Bits_F fuel a1 n2 n3) (prefix_Bits a1 n2 n3) := by
  rw [prefix_Bits_eq]; unfold prefix_Bits_F; try dsimp only
  repeat' first | with_reducible exact Ole.refl _ | refine Ole.ite ?_ ?_ | with_reducible exact prefix_Valid_F_le .. | with_reducible exact prefix_codes_F_le .. | with_reducible exact prefix_put_F_le .. | refine Ole.iter fun _ => ?_ | refine Ole.elim (fun _ => ?_) (fun _ => ?_) | refine Ole.bind ?_ fun _ => ?_
noncomputable def runs_list_loop3_F (fuel : Nat) (s1 : List Int) (s2 : Int × (List Int)) : Option ((Int × (List Int)) ⊕ ((List Int))) :=
   let v3 : Int := s2.1;
   let b4 : List Int := s2.2;
   (if (decide (v3 < ((s1.length : Nat) : Int))) = true then
    (if 0 ≤ v3 ∧ v3 < (b4.length : Int) then
     let t5 : Int := rd b4 v3;
     let t6 : Int := IntKind.u8.wrap (t5 - 48);
     (if 0 ≤ v3 ∧ v3 < (b4.length : Int) then
      let w7 : List Int := b4.set v3.toNat t6;
      let t8 : Int := IntKind.i64.wrap (v3 + 1);
      some (Sum.inl (t8, w7))
      else
      none)
     else
     none)
    else
    some (Sum.inr b4))
theorem runs_list_loop3_F_le (fuel : Nat) (s1 : List Int) (s2 : Int × (List Int)) : Ole (runs_list_loop3_F fuel s1 s2) (runs_list_loop3 s1 s2) := by
  unfold runs_list_loop3_F runs_list_loop3; try dsimp only
  repeat' first | with_reducible exact Ole.refl _ | refine Ole.ite ?_ ?_ | refine Ole.iter fun _ => ?_ | refine Ole.elim (fun _ => ?_) (fun _ => ?_) | refine Ole.bind ?_ fun _ => ?_
noncomputable def runs_list_F (fuel : Nat) (s1 : List Int) : Option (List Int) :=
   (iter (runs_list_loop3_F fuel s1) fuel (0, s1)).bind (fun (b12 : (List Int)) =>
    some b12)
theorem runs_list_F_le (fuel : Nat) (s1 : List Int) : Ole (runs_list_F fuel s1) (runs_list s1) := by
  rw [runs_list_eq]; unfold runs_list_F; try dsimp only
  repeat' first | with_reducible exact Ole.refl _ | refine Ole.ite ?_ ?_ | with_reducible exact runs_list_loop3_F_le .. | refine Ole.iter fun _ => ?_ | refine Ole.elim (fun _ => ?_) (fun _ => ?_) | refine Ole.bind ?_ fun _ => ?_
noncomputable def runs_uprights_F (fuel : Nat) : Option (List (List Int)) :=
   some [[48, 48, 48, 48, 48, 49, 48], [48, 48, 48, 48, 49, 48], [48, 49, 48], [49], [48, 49, 49], [48, 48, 48, 48, 49, 49], [48, 48, 48, 48, 48, 49, 49]]
theorem runs_uprights_F_le (fuel : Nat) : Ole (runs_uprights_F fuel) (runs_uprights) := by
  rw [runs_uprights_eq]; unfold runs_uprights_F; try dsimp only
  repeat' first | with_reducible exact Ole.refl _ | refine Ole.ite ?_ ?_ | refine Ole.iter fun _ => ?_ | refine Ole.elim (fun _ => ?_) (fun _ => ?_) | refine Ole.bind ?_ fun _ => ?_
noncomputable def ref04_digits_loop3_F (fuel : Nat) (n1 : Int) (s4 : Int × (List Int)) : Option ((Int × (List Int)) ⊕ ((List Int))) :=
   let i5 : Int := s4.1;
   let out6 : List Int := s4.2;
   (if (decide (i5 ≥ 0)) = true then
    (if i5 < 0 then
     none
     else
     let t7 : Int := ishr .i64 n1 i5;
     let t8 : Int := t7.tmod 2;
     let t9 : Int := IntKind.u8.wrap t8;
     (if (out6.length + ([t9] : List Int).length) * 1 ≤ 140737488355328 then
      let t10 : List Int := out6 ++ [t9];
      let t11 : Int := IntKind.i64.wrap (i5 - 1);
      some (Sum.inl (t11, t10))
      else
      none))
    else
    some (Sum.inr out6))
theorem ref04_digits_loop3_F_le (fuel : Nat) (n1 : Int) (s4 : Int × (List Int)) : Ole (ref04_digits_loop3_F fuel n1 s4) (ref04_digits_loop3 n1 s4) := by
  unfold ref04_digits_loop3_F ref04_digits_loop3; try dsimp only
  repeat' first | with_reducible exact Ole.refl _ | refine Ole.ite ?_ ?_ | refine Ole.iter fun _ => ?_ | refine Ole.elim (fun _ => ?_) (fun _ => ?_) | refine Ole.bind ?_ fun _ => ?_
noncomputable def ref04_digits_F (fuel : Nat) (n1 : Int) (many2 : Int) : Option (List Int) :=
   let t3 : Int := IntKind.i64.wrap (many2 - 1);
   (iter (ref04_digits_loop3_F fuel n1) fuel (t3, [])).bind (fun (out12 : (List Int)) =>
    some out12)
theorem ref04_digits_F_le (fuel : Nat) (n1 : Int) (many2 : Int) : Ole (ref04_digits_F fuel n1 many2) (ref04_digits n1 many2) := by
  rw [ref04_digits_eq]; unfold ref04_digits_F; try dsimp only
  repeat' first | with_reducible exact Ole.refl _ | refine Ole.ite ?_ ?_ | with_reducible exact ref04_digits_loop3_F_le .. | refine Ole.iter fun _ => ?_ | refine Ole.elim (fun _ => ?_) (fun _ => ?_) | refine Ole.bind ?_ fun _ => ?_
noncomputable def ref04_used_F (fuel : Nat) (x1 : Int) (x2 : Int) (x3 : Int) (x4 : Int) : Option Bool :=
   some (decide (x1 > 0))
theorem ref04_used_F_le (fuel : Nat) (x1 : Int) (x2 : Int) (x3 : Int) (x4 : Int) : Ole (ref04_used_F fuel x1 x2 x3 x4) (ref04_used x1 x2 x3 x4) := by
  rw [ref04_used_eq]; unfold ref04_used_F; try dsimp only
  repeat' first | with_reducible exact Ole.refl _ | refine Ole.ite ?_ ?_ | refine Ole.iter fun _ => ?_ | refine Ole.elim (fun _ => ?_) (fun _ => ?_) | refine Ole.bind ?_ fun _ => ?_
noncomputable def ref04_Code_loop3_F (fuel : Nat) (a1 : List Line) (i2 : Int) (s3 : Int × Int) : Option ((Int × Int) ⊕ (Int)) :=
   let front4 : Int := s3.1;
   let v5 : Int := s3.2;
   (if (decide (v5 < ((a1.length : Nat) : Int))) = true then
    (if 0 ≤ v5 then
     (a1[v5.toNat]?).bind fun e6 =>
     ((ref04_used_F fuel e6.length e6.bits e6.low e6.kind).bind fun (q7 : Bool) =>
      (if q7 = true then
       (if 0 ≤ i2 then
        (a1[i2.toNat]?).bind fun e8 =>
        (if (decide (e6.length < e8.length)) = true then
         some true
         else
         (if 0 ≤ i2 then
          (a1[i2.toNat]?).bind fun e9 =>
          (if (decide (e6.length = e9.length)) = true then
           some (decide (v5 < i2))
           else
           some false)
          else
          none))
        else
        none)
       else
       some false) : Option (Bool)).bind (fun (v10 : Bool) =>
      (if v10 = true then
       let t11 : Int := IntKind.i64.wrap (15 - e6.length);
       (if t11 < 0 then
        none
        else
        let t12 : Int := ishl .i64 1 t11;
        let t13 : Int := IntKind.i64.wrap (front4 + t12);
        let t14 : Int := IntKind.i64.wrap (v5 + 1);
        some (Sum.inl (t13, t14)))
       else
       let t15 : Int := IntKind.i64.wrap (v5 + 1);
       some (Sum.inl (front4, t15))))
     else
     none)
    else
    some (Sum.inr front4))
theorem ref04_Code_loop3_F_le (fuel : Nat) (a1 : List Line) (i2 : Int) (s3 : Int × Int) : Ole (ref04_Code_loop3_F fuel a1 i2 s3) (ref04_Code_loop3 a1 i2 s3) := by
  unfold ref04_Code_loop3_F ref04_Code_loop3; try dsimp only
  repeat' first | with_reducible exact Ole.refl _ | refine Ole.ite ?_ ?_ | with_reducible exact ref04_digits_F_le .. | with_reducible exact ref04_used_F_le .. | refine Ole.iter fun _ => ?_ | refine Ole.elim (fun _ => ?_) (fun _ => ?_) | refine Ole.bind ?_ fun _ => ?_
noncomputable def ref04_Code_F (fuel : Nat) (a1 : List Line) (i2 : Int) : Option (List Int) :=
   (iter (ref04_Code_loop3_F fuel a1 i2) fuel (0, 0)).bind (fun (front19 : Int) =>
    (if 0 ≤ i2 then
     (a1[i2.toNat]?).bind fun e20 =>
     let t21 : Int := IntKind.i64.wrap (15 - e20.length);
     (if t21 < 0 then
      none
      else
      let t22 : Int := ishr .i64 front19 t21;
      (if 0 ≤ i2 then
       (a1[i2.toNat]?).bind fun e23 =>
       (ref04_digits_F fuel t22 e23.length).bind fun (q24 : (List Int)) =>
       some q24
       else
       none))
     else
     none))
theorem ref04_Code_F_le (fuel : Nat) (a1 : List Line) (i2 : Int) : Ole (ref04_Code_F fuel a1 i2) (ref04_Code a1 i2) := by
  rw [ref04_Code_eq]; unfold ref04_Code_F; try dsimp only
  repeat' first | with_reducible exact Ole.refl _ | refine Ole.ite ?_ ?_ | with_reducible exact ref04_digits_F_le .. | with_reducible exact ref04_used_F_le .. | with_reducible exact ref04_Code_loop3_F_le .. | refine Ole.iter fun _ => ?_ | refine Ole.elim (fun _ => ?_) (fun _ => ?_) | refine Ole.bind ?_ fun _ => ?_
noncomputable def ref04_Place_F (fuel : Nat) (x1 : Int) (x2 : Int) (x3 : Int) (x4 : Int) (n5 : Bool) (n6 : Int) : Option (Int × Bool) :=
   ((if (decide (x4 = 2)) = true then
     some true
     else
     some n5) : Option (Bool)).bind (fun (v7 : Bool) =>
    (if v7 = true then
     ((if (decide (x4 = 2)) = true then
       (if n5 = true then
        some (0, decide (n6 = 0))
        else
        some (0, false))
       else
       some (0, false)) : Option (Int × Bool)).bind (fun (p8 : Int × Bool) =>
      let v9 : Int := p8.1;
      let v10 : Bool := p8.2;
      some (v9, v10))
     else
     let t11 : Int := IntKind.i64.wrap (n6 - x3);
     ((if (decide (x4 = 1)) = true then
       let t12 : Int := IntKind.i64.wrap (x3 - n6);
       some t12
       else
       some t11) : Option (Int)).bind (fun (at13 : Int) =>
      ((if (decide (n6 < (-4194304))) = true then
        some true
        else
        some (decide (n6 > 4194304))) : Option (Bool)).bind (fun (far14 : Bool) =>
       (if (!far14) = true then
        (if (decide (at13 ≥ 0)) = true then
         (if x2 < 0 then
          none
          else
          let t15 : Int := ishl .i64 1 x2;
          some (at13, decide (at13 < t15)))
         else
         some (at13, false))
        else
        some (at13, false))))))
theorem ref04_Place_F_le (fuel : Nat) (x1 : Int) (x2 : Int) (x3 : Int) (x4 : Int) (n5 : Bool) (n6 : Int) : Ole (ref04_Place_F fuel x1 x2 x3 x4 n5 n6) (ref04_Place x1 x2 x3 x4 n5 n6) := by
  rw [ref04_Place_eq]; unfold ref04_Place_F; try dsimp only
  repeat' first | with_reducible exact Ole.refl _ | refine Ole.ite ?_ ?_ | refine Ole.iter fun _ => ?_ | refine Ole.elim (fun _ => ?_) (fun _ => ?_) | refine Ole.bind ?_ fun _ => ?_
noncomputable def ref04_Bits_loop3_F (fuel : Nat) (a1 : List Line) (n2 : Bool) (n3 : Int) (s4 : Int × Int) : Option ((Int × Int) ⊕ (Int)) :=
   let best5 : Int := s4.1;
   let v6 : Int := s4.2;
   (if (decide (v6 < ((a1.length : Nat) : Int))) = true then
    (if 0 ≤ v6 then
     (a1[v6.toNat]?).bind fun e7 =>
     (ref04_Place_F fuel e7.length e7.bits e7.low e7.kind n2 n3).bind fun (q8 : Int × Bool) =>
     let tr9 : Int := q8.1;
     let tr10 : Bool := q8.2;
     (ref04_used_F fuel e7.length e7.bits e7.low e7.kind).bind fun (q11 : Bool) =>
     (if q11 = true then
      (if tr10 = true then
       (if (decide (best5 < 0)) = true then
        let t12 : Int := IntKind.i64.wrap (v6 + 1);
        some (Sum.inl (v6, t12))
        else
        let t13 : Int := IntKind.i64.wrap (e7.length + e7.bits);
        (if 0 ≤ best5 then
         (a1[best5.toNat]?).bind fun e14 =>
         (if 0 ≤ best5 then
          (a1[best5.toNat]?).bind fun e15 =>
          let t16 : Int := IntKind.i64.wrap (e14.length + e15.bits);
          (if (decide (t13 < t16)) = true then
           let t17 : Int := IntKind.i64.wrap (v6 + 1);
           some (Sum.inl (v6, t17))
           else
           let t18 : Int := IntKind.i64.wrap (v6 + 1);
           some (Sum.inl (best5, t18)))
          else
          none)
         else
         none))
       else
       let t19 : Int := IntKind.i64.wrap (v6 + 1);
       some (Sum.inl (best5, t19)))
      else
      let t20 : Int := IntKind.i64.wrap (v6 + 1);
      some (Sum.inl (best5, t20)))
     else
     none)
    else
    some (Sum.inr best5))
theorem ref04_Bits_loop3_F_le (fuel : Nat) (a1 : List Line) (n2 : Bool) (n3 : Int) (s4 : Int × Int) : Ole (ref04_Bits_loop3_F fuel a1 n2 n3 s4) (ref04_Bits_loop3 a1 n2 n3 s4) := by
  unfold ref04_Bits_loop3_F ref04_Bits_loop3; try dsimp only
  repeat' first | with_reducible exact Ole.refl _ | refine Ole.ite ?_ ?_ | with_reducible exact ref04_Code_F_le .. | with_reducible exact ref04_Place_F_le .. | with_reducible exact ref04_digits_F_le .. | with_reducible exact ref04_used_F_le .. | refine Ole.iter fun _ => ?_ | refine Ole.elim (fun _ => ?_) (fun _ => ?_) | refine Ole.bind ?_ fun _ => ?_
noncomputable def ref04_Bits_F (fuel : Nat) (a1 : List Line) (n2 : Bool) (n3 : Int) : Option ((List Int) × Bool) :=
   (iter (ref04_Bits_loop3_F fuel a1 n2 n3) fuel ((-1), 0)).bind (fun (best24 : Int) =>
    (if (decide (best24 < 0)) = true then
     some ([], false)
     else
     (if 0 ≤ best24 then
      (a1[best24.toNat]?).bind fun e25 =>
      (ref04_Place_F fuel e25.length e25.bits e25.low e25.kind n2 n3).bind fun (q26 : Int × Bool) =>
      let tr27 : Int := q26.1;
      let tr28 : Bool := q26.2;
      (ref04_Code_F fuel a1 best24).bind fun (q29 : (List Int)) =>
      (if 0 ≤ best24 then
       (a1[best24.toNat]?).bind fun e30 =>
       (ref04_digits_F fuel tr27 e30.bits).bind fun (q31 : (List Int)) =>
       (if (q29.length + q31.length) * 1 ≤ 140737488355328 then
        let t32 : List Int := q29 ++ q31;
        some (t32, true)
        else
        none)
       else
       none)
      else
      none)))
theorem ref04_Bits_F_le (fuel : Nat) (a1 : List Line) (n2 : Bool) (n3 : Int) : Ole (ref04_Bits_F fuel a1 n2 n3) (ref04_Bits a1 n2 n3) := by
  rw [ref04_Bits_eq]; unfold ref04_Bits_F; try dsimp only
  repeat' first | with_reducible exact Ole.refl _ | refine Ole.ite ?_ ?_ | with_reducible exact ref04_Code_F_le .. | with_reducible exact ref04_Place_F_le .. | with_reducible exact ref04_digits_F_le .. | with_reducible exact ref04_used_F_le .. | with_reducible exact ref04_Bits_loop3_F_le .. | refine Ole.iter fun _ => ?_ | refine Ole.elim (fun _ => ?_) (fun _ => ?_) | refine Ole.bind ?_ fun _ => ?_
noncomputable def ref06_bitsOf_loop3_F (fuel : Nat) (s1 : List Int) (s2 : Int × (List Int)) : Option ((Int × (List Int)) ⊕ ((List Int))) :=
   let i3 : Int := s2.1;
   let out4 : List Int := s2.2;
   (if (decide (i3 < ((s1.length : Nat) : Int))) = true then
    (if 0 ≤ i3 ∧ i3 < ((s1).length : Int) then
     let t5 : Int := rd s1 i3;
     let t6 : Int := IntKind.u8.wrap (t5 - 48);
     (if (out4.length + ([t6] : List Int).length) * 1 ≤ 140737488355328 then
      let t7 : List Int := out4 ++ [t6];
      let t8 : Int := IntKind.i64.wrap (i3 + 1);
      some (Sum.inl (t8, t7))
      else
      none)
     else
     none)
    else
    some (Sum.inr out4))
theorem ref06_bitsOf_loop3_F_le (fuel : Nat) (s1 : List Int) (s2 : Int × (List Int)) : Ole (ref06_bitsOf_loop3_F fuel s1 s2) (ref06_bitsOf_loop3 s1 s2) := by
  unfold ref06_bitsOf_loop3_F ref06_bitsOf_loop3; try dsimp only
  repeat' first | with_reducible exact Ole.refl _ | refine Ole.ite ?_ ?_ | refine Ole.iter fun _ => ?_ | refine Ole.elim (fun _ => ?_) (fun _ => ?_) | refine Ole.bind ?_ fun _ => ?_
noncomputable def ref06_bitsOf_F (fuel : Nat) (s1 : List Int) : Option (List Int) :=
   (iter (ref06_bitsOf_loop3_F fuel s1) fuel (0, [])).bind (fun (out12 : (List Int)) =>
    some out12)
theorem ref06_bitsOf_F_le (fuel : Nat) (s1 : List Int) : Ole (ref06_bitsOf_F fuel s1) (ref06_bitsOf s1) := by
  rw [ref06_bitsOf_eq]; unfold ref06_bitsOf_F; try dsimp only
  repeat' first | with_reducible exact Ole.refl _ | refine Ole.ite ?_ ?_ | with_reducible exact ref06_bitsOf_loop3_F_le .. | refine Ole.iter fun _ => ?_ | refine Ole.elim (fun _ => ?_) (fun _ => ?_) | refine Ole.bind ?_ fun _ => ?_
noncomputable def ref06_name_F (fuel : Nat) (d1 : Int) : Option (List Int) :=
   (if (decide (d1 = (-3))) = true then
    some [117, 112, 45, 51]
    else
    (if (decide (d1 = (-2))) = true then
     some [117, 112, 45, 50]
     else
     (if (decide (d1 = (-1))) = true then
      some [117, 112, 45, 49]
      else
      (if (decide (d1 = 0)) = true then
       some [117, 112, 48]
       else
       (if (decide (d1 = 1)) = true then
        some [117, 112, 49]
        else
        (if (decide (d1 = 2)) = true then
         some [117, 112, 50]
         else
         some [117, 112, 51]))))))
theorem ref06_name_F_le (fuel : Nat) (d1 : Int) : Ole (ref06_name_F fuel d1) (ref06_name d1) := by
  rw [ref06_name_eq]; unfold ref06_name_F; try dsimp only
  repeat' first | with_reducible exact Ole.refl _ | refine Ole.ite ?_ ?_ | refine Ole.iter fun _ => ?_ | refine Ole.elim (fun _ => ?_) (fun _ => ?_) | refine Ole.bind ?_ fun _ => ?_
noncomputable def ref06_upright_F (fuel : Nat) (d1 : Int) : Option (List Int) :=
   (if (decide (d1 = 0)) = true then
    some [49]
    else
    (if (decide (d1 = 1)) = true then
     some [48, 49, 49]
     else
     (if (decide (d1 = 2)) = true then
      some [48, 48, 48, 48, 49, 49]
      else
      (if (decide (d1 = 3)) = true then
       some [48, 48, 48, 48, 48, 49, 49]
       else
       (if (decide (d1 = (-1))) = true then
        some [48, 49, 48]
        else
        (if (decide (d1 = (-2))) = true then
         some [48, 48, 48, 48, 49, 48]
         else
         some [48, 48, 48, 48, 48, 49, 48]))))))
theorem ref06_upright_F_le (fuel : Nat) (d1 : Int) : Ole (ref06_upright_F fuel d1) (ref06_upright d1) := by
  rw [ref06_upright_eq]; unfold ref06_upright_F; try dsimp only
  repeat' first | with_reducible exact Ole.refl _ | refine Ole.ite ?_ ?_ | refine Ole.iter fun _ => ?_ | refine Ole.elim (fun _ => ?_) (fun _ => ?_) | refine Ole.bind ?_ fun _ => ?_
end
end Go.Proofs.YtkccnhkhjncpkaaGreat.P
