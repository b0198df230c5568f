/- Copies of functions with fuel, for what is known: what they come to, the functions come to. Printed by wip/tool/vsym.py. -/
import Derived.Test.YtkccnhkhjncpkaaGreatQs
import Derived.Test.YtkccnhkhjncpkaaGreatLib
namespace Go.Proofs.YtkccnhkhjncpkaaGreat.P
open Go Go.Proofs.YtkccnhkhjncpkaaGreat.V
set_option linter.unusedVariables false
set_option linter.unusedSimpArgs false
set_option maxRecDepth 100000
noncomputable section
noncomputable def bitmap_fits_F (fuel : Nat) (w1 : Int) (h2 : Int) : Option Bool :=
 (if (decide (w1 ≥ 0)) = true then
 (if (decide (h2 ≥ 0)) = true then
 (if (decide (w1 ≤ 200)) = true then
 (if (decide (h2 ≤ 200)) = true then
 let t3 : Int := IntKind.i64.wrap (w1 * h2);
 some (decide (t3 ≤ 8192))
 else
 some false)
 else
 some false)
 else
 some false)
 else
 some false)
theorem bitmap_fits_F_le (fuel : Nat) (w1 : Int) (h2 : Int) : Ole (bitmap_fits_F fuel w1 h2) (bitmap_fits w1 h2) := by
  rw [bitmap_fits_eq]; unfold bitmap_fits_F; try dsimp only
  repeat' first | with_reducible exact Ole.refl _ | refine Ole.ite ?_ ?_ | refine Ole.iter fun _ => ?_ | refine Ole.elim (fun _ => ?_) (fun _ => ?_) | refine Ole.bind ?_ fun _ => ?_
noncomputable def bitmap_blank_F (fuel : Nat) (w1 : Int) (h2 : Int) : Option (Int × Int × Int × (List Int)) :=
 (bitmap_fits_F fuel w1 h2).bind fun (q3 : Bool) =>
 (if (!q3) = true then
 some (0, 0, 4, [])
 else
 let t4 : Int := IntKind.i64.wrap (w1 * h2);
 (if 0 ≤ t4 ∧ t4 ≤ t4 ∧ ((1 : Nat) : Int) * t4 ≤ 281474976710656 then
 let t5 : List Int := List.replicate t4.toNat 0;
 some (w1, h2, 0, t5)
 else
 none))
theorem bitmap_blank_F_le (fuel : Nat) (w1 : Int) (h2 : Int) : Ole (bitmap_blank_F fuel w1 h2) (bitmap_blank w1 h2) := by
  rw [bitmap_blank_eq]; unfold bitmap_blank_F; try dsimp only
  repeat' first | with_reducible exact Ole.refl _ | refine Ole.ite ?_ ?_ | with_reducible exact bitmap_fits_F_le .. | refine Ole.iter fun _ => ?_ | refine Ole.elim (fun _ => ?_) (fun _ => ?_) | refine Ole.bind ?_ fun _ => ?_
noncomputable def bitmap_New_loop5_F (fuel : Nat) (pixel3 : Int) (tr9 : List Int) (s10 : Int × (List Int)) : Option ((Int × (List Int)) ⊕ ((List Int))) :=
 let v11 : Int := s10.1;
 let b12 : List Int := s10.2;
 (if (decide (v11 < ((tr9.length : Nat) : Int))) = true then
 let t13 : Int := IntKind.u8.wrap pixel3;
 (if 0 ≤ v11 ∧ v11 < (b12.length : Int) then
 let w14 : List Int := b12.set v11.toNat t13;
 let t15 : Int := IntKind.i64.wrap (v11 + 1);
 some (Sum.inl (t15, w14))
 else
 none)
 else
 some (Sum.inr b12))
theorem bitmap_New_loop5_F_le (fuel : Nat) (pixel3 : Int) (tr9 : List Int) (s10 : Int × (List Int)) : Ole (bitmap_New_loop5_F fuel pixel3 tr9 s10) (bitmap_New_loop5 pixel3 tr9 s10) := by
  unfold bitmap_New_loop5_F bitmap_New_loop5; try dsimp only
  repeat' first | with_reducible exact Ole.refl _ | refine Ole.ite ?_ ?_ | with_reducible exact bitmap_blank_F_le .. | refine Ole.iter fun _ => ?_ | refine Ole.elim (fun _ => ?_) (fun _ => ?_) | refine Ole.bind ?_ fun _ => ?_
noncomputable def bitmap_New_F (fuel : Nat) (w1 : Int) (h2 : Int) (pixel3 : Int) : Option (Int × Int × Int × (List Int)) :=
 ((if (decide (w1 < 0)) = true then
 some true
 else
 (if (decide (h2 < 0)) = true then
 some true
 else
 (if (!decide (pixel3 = 0)) = true then
 some (!decide (pixel3 = 1))
 else
 some false))) : Option (Bool)).bind (fun (v4 : Bool) =>
 (if v4 = true then
 some (0, 0, 2, [])
 else
 (bitmap_blank_F fuel w1 h2).bind fun (q5 : Int × Int × Int × (List Int)) =>
 let tr6 : Int := q5.1;
 let tr7 : Int := q5.2.1;
 let tr8 : Int := q5.2.2.1;
 let tr9 : List Int := q5.2.2.2;
 (iter (bitmap_New_loop5_F fuel pixel3 tr9) fuel (0, tr9)).bind (fun (b19 : (List Int)) =>
 some (tr6, tr7, tr8, b19))))
theorem bitmap_New_F_le (fuel : Nat) (w1 : Int) (h2 : Int) (pixel3 : Int) : Ole (bitmap_New_F fuel w1 h2 pixel3) (bitmap_New w1 h2 pixel3) := by
  rw [bitmap_New_eq]; unfold bitmap_New_F; try dsimp only
  repeat' first | with_reducible exact Ole.refl _ | refine Ole.ite ?_ ?_ | with_reducible exact bitmap_blank_F_le .. | with_reducible exact bitmap_New_loop5_F_le .. | refine Ole.iter fun _ => ?_ | refine Ole.elim (fun _ => ?_) (fun _ => ?_) | refine Ole.bind ?_ fun _ => ?_
noncomputable def page_writer_byte_loop1_F (fuel : Nat) (l1 : List Int) (s3 : Int × (List Int)) : Option ((Int × (List Int)) ⊕ ((List Int))) :=
 let v4 : Int := s3.1;
 let b5 : List Int := s3.2;
 (if (decide (v4 < ((l1.length : Nat) : Int))) = true then
 (if 0 ≤ v4 ∧ v4 < (l1.length : Int) then
 let t6 : Int := IntKind.u8.wrap (rd l1 v4);
 (if (b5.length + ([t6] : List Int).length) * 1 ≤ 140737488355328 then
 let t7 : List Int := b5 ++ [t6];
 let t8 : Int := IntKind.i64.wrap (v4 + 1);
 some (Sum.inl (t8, t7))
 else
 none)
 else
 none)
 else
 some (Sum.inr b5))
theorem page_writer_byte_loop1_F_le (fuel : Nat) (l1 : List Int) (s3 : Int × (List Int)) : Ole (page_writer_byte_loop1_F fuel l1 s3) (page_writer_byte_loop1 l1 s3) := by
  unfold page_writer_byte_loop1_F page_writer_byte_loop1; try dsimp only
  repeat' first | with_reducible exact Ole.refl _ | refine Ole.ite ?_ ?_ | refine Ole.iter fun _ => ?_ | refine Ole.elim (fun _ => ?_) (fun _ => ?_) | refine Ole.bind ?_ fun _ => ?_
noncomputable def page_writer_byte_F (fuel : Nat) (l1 : List Int) (b2 : List Int) : Option (List Int) :=
 (iter (page_writer_byte_loop1_F fuel l1) fuel (0, b2)).bind (fun (b12 : (List Int)) =>
 some b12)
theorem page_writer_byte_F_le (fuel : Nat) (l1 : List Int) (b2 : List Int) : Ole (page_writer_byte_F fuel l1 b2) (page_writer_byte l1 b2) := by
  rw [page_writer_byte_eq]; unfold page_writer_byte_F; try dsimp only
  repeat' first | with_reducible exact Ole.refl _ | refine Ole.ite ?_ ?_ | with_reducible exact page_writer_byte_loop1_F_le .. | refine Ole.iter fun _ => ?_ | refine Ole.elim (fun _ => ?_) (fun _ => ?_) | refine Ole.bind ?_ fun _ => ?_
noncomputable def bits_Size_loop5_F (fuel : Nat) (s6 : Int × (List Int)) : Option ((Int × (List Int)) ⊕ ((List Int))) :=
 let n7 : Int := s6.1;
 let out8 : List Int := s6.2;
 (if (decide (n7 > 0)) = true then
 let t9 : Int := n7.tmod 128;
 let t10 : Int := IntKind.u8.wrap t9;
 let t11 : Int := IntKind.u8.wrap (t10 + 128);
 (if (([t11] : List Int).length + out8.length) * 1 ≤ 140737488355328 then
 let t12 : List Int := ([t11] : List Int) ++ out8;
 let t13 : Int := IntKind.i64.wrap (n7.tdiv 128);
 some (Sum.inl (t13, t12))
 else
 none)
 else
 some (Sum.inr out8))
theorem bits_Size_loop5_F_le (fuel : Nat) (s6 : Int × (List Int)) : Ole (bits_Size_loop5_F fuel s6) (bits_Size_loop5 s6) := by
  unfold bits_Size_loop5_F bits_Size_loop5; try dsimp only
  repeat' first | with_reducible exact Ole.refl _ | refine Ole.ite ?_ ?_ | refine Ole.iter fun _ => ?_ | refine Ole.elim (fun _ => ?_) (fun _ => ?_) | refine Ole.bind ?_ fun _ => ?_
noncomputable def bits_Size_F (fuel : Nat) (n1 : Int) : Option ((List Int) × Int) :=
 ((if (decide (n1 < 0)) = true then
 some true
 else
 some (decide (n1 > 2147483647))) : Option (Bool)).bind (fun (v2 : Bool) =>
 (if v2 = true then
 some ([], 2)
 else
 let t3 : Int := n1.tmod 128;
 let t4 : Int := IntKind.u8.wrap t3;
 let t5 : Int := IntKind.i64.wrap (n1.tdiv 128);
 (iter (bits_Size_loop5_F fuel) fuel (t5, [t4])).bind (fun (out14 : (List Int)) =>
 some (out14, 0))))
theorem bits_Size_F_le (fuel : Nat) (n1 : Int) : Ole (bits_Size_F fuel n1) (bits_Size n1) := by
  rw [bits_Size_eq]; unfold bits_Size_F; try dsimp only
  repeat' first | with_reducible exact Ole.refl _ | refine Ole.ite ?_ ?_ | with_reducible exact bits_Size_loop5_F_le .. | refine Ole.iter fun _ => ?_ | refine Ole.elim (fun _ => ?_) (fun _ => ?_) | refine Ole.bind ?_ fun _ => ?_
noncomputable def page_writer_size_loop1_F (fuel : Nat) (l1 : List Int) (s3 : Int × (List Int)) : Option ((Int × (List Int)) ⊕ ((List Int))) :=
 let v4 : Int := s3.1;
 let b5 : List Int := s3.2;
 (if (decide (v4 < ((l1.length : Nat) : Int))) = true then
 (if 0 ≤ v4 ∧ v4 < (l1.length : Int) then
 (bits_Size_F fuel (rd l1 v4)).bind fun (q6 : (List Int) × Int) =>
 let tr7 : List Int := q6.1;
 let tr8 : Int := q6.2;
 (if (b5.length + tr7.length) * 1 ≤ 140737488355328 then
 let t9 : List Int := b5 ++ tr7;
 let t10 : Int := IntKind.i64.wrap (v4 + 1);
 some (Sum.inl (t10, t9))
 else
 none)
 else
 none)
 else
 some (Sum.inr b5))
theorem page_writer_size_loop1_F_le (fuel : Nat) (l1 : List Int) (s3 : Int × (List Int)) : Ole (page_writer_size_loop1_F fuel l1 s3) (page_writer_size_loop1 l1 s3) := by
  unfold page_writer_size_loop1_F page_writer_size_loop1; try dsimp only
  repeat' first | with_reducible exact Ole.refl _ | refine Ole.ite ?_ ?_ | with_reducible exact bits_Size_F_le .. | refine Ole.iter fun _ => ?_ | refine Ole.elim (fun _ => ?_) (fun _ => ?_) | refine Ole.bind ?_ fun _ => ?_
noncomputable def page_writer_size_F (fuel : Nat) (l1 : List Int) (b2 : List Int) : Option (List Int) :=
 (iter (page_writer_size_loop1_F fuel l1) fuel (0, b2)).bind (fun (b14 : (List Int)) =>
 some b14)
theorem page_writer_size_F_le (fuel : Nat) (l1 : List Int) (b2 : List Int) : Ole (page_writer_size_F fuel l1 b2) (page_writer_size l1 b2) := by
  rw [page_writer_size_eq]; unfold page_writer_size_F; try dsimp only
  repeat' first | with_reducible exact Ole.refl _ | refine Ole.ite ?_ ?_ | with_reducible exact bits_Size_F_le .. | with_reducible exact page_writer_size_loop1_F_le .. | refine Ole.iter fun _ => ?_ | refine Ole.elim (fun _ => ?_) (fun _ => ?_) | refine Ole.bind ?_ fun _ => ?_
noncomputable def page_Info_F (fuel : Nat) (w1 : Int) (h2 : Int) (pixel3 : Int) (op4 : Int) : Option ((List Int) × Int) :=
 let t5 : Int := imax h2 0;
 (bitmap_New_F fuel w1 t5 0).bind fun (q6 : Int × Int × Int × (List Int)) =>
 let tr7 : Int := q6.1;
 let tr8 : Int := q6.2.1;
 let tr9 : Int := q6.2.2.1;
 let tr10 : List Int := q6.2.2.2;
 ((if (!decide (tr9 = 0)) = true then
 some true
 else
 (if (decide (h2 < (-1))) = true then
 some true
 else
 (if (decide (pixel3 < 0)) = true then
 some true
 else
 (if (decide (pixel3 > 1)) = true then
 some true
 else
 (if (decide (op4 < 0)) = true then
 some true
 else
 some (decide (op4 > 4))))))) : Option (Bool)).bind (fun (v11 : Bool) =>
 (if v11 = true then
 some ([], 2)
 else
 let t12 : Int := IntKind.i64.wrap (h2 + 1);
 (page_writer_size_F fuel [w1, t12] []).bind fun (q13 : (List Int)) =>
 let t14 : Int := IntKind.i64.wrap (2 * op4);
 let t15 : Int := IntKind.i64.wrap (pixel3 + t14);
 (page_writer_byte_F fuel [t15] q13).bind fun (q16 : (List Int)) =>
 some (q16, 0)))
theorem page_Info_F_le (fuel : Nat) (w1 : Int) (h2 : Int) (pixel3 : Int) (op4 : Int) : Ole (page_Info_F fuel w1 h2 pixel3 op4) (page_Info w1 h2 pixel3 op4) := by
  rw [page_Info_eq]; unfold page_Info_F; try dsimp only
  repeat' first | with_reducible exact Ole.refl _ | refine Ole.ite ?_ ?_ | with_reducible exact bitmap_New_F_le .. | with_reducible exact page_writer_byte_F_le .. | with_reducible exact page_writer_size_F_le .. | refine Ole.iter fun _ => ?_ | refine Ole.elim (fun _ => ?_) (fun _ => ?_) | refine Ole.bind ?_ fun _ => ?_
noncomputable def ref01_SameBytes_F (fuel : Nat) (a1 : List Int) (b2 : List Int) : Option Bool :=
 some (decide (a1 = b2))
theorem ref01_SameBytes_F_le (fuel : Nat) (a1 : List Int) (b2 : List Int) : Ole (ref01_SameBytes_F fuel a1 b2) (ref01_SameBytes a1 b2) := by
  rw [ref01_SameBytes_eq]; unfold ref01_SameBytes_F; try dsimp only
  repeat' first | with_reducible exact Ole.refl _ | refine Ole.ite ?_ ?_ | refine Ole.iter fun _ => ?_ | refine Ole.elim (fun _ => ?_) (fun _ => ?_) | refine Ole.bind ?_ fun _ => ?_
noncomputable def law13_Sane_F (fuel : Nat) : Option Bool :=
 (page_Info_F fuel 3 2 0 1).bind fun (q1 : (List Int) × Int) =>
 let tr2 : List Int := q1.1;
 let tr3 : Int := q1.2;
 (if (decide (tr3 = 0)) = true then
 (ref01_SameBytes_F fuel tr2 [3, 3, 2]).bind fun (q4 : Bool) =>
 some q4
 else
 some false)
theorem law13_Sane_F_le (fuel : Nat) : Ole (law13_Sane_F fuel) (law13_Sane) := by
  rw [law13_Sane_eq]; unfold law13_Sane_F; try dsimp only
  repeat' first | with_reducible exact Ole.refl _ | refine Ole.ite ?_ ?_ | with_reducible exact page_Info_F_le .. | with_reducible exact ref01_SameBytes_F_le .. | refine Ole.iter fun _ => ?_ | refine Ole.elim (fun _ => ?_) (fun _ => ?_) | refine Ole.bind ?_ fun _ => ?_
end
end Go.Proofs.YtkccnhkhjncpkaaGreat.P
