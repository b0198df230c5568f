/- Copies of functions with fuel, for what is known: what they come to, the functions come to. Printed by wip/tool/vsym.py. -/
import Derived.Test.YthnonplijagpdaaGreatF0
namespace Go.Proofs.YthnonplijagpdaaGreat.P
open Go Go.Proofs.YthnonplijagpdaaGreat.V
set_option linter.unusedVariables false
set_option linter.unusedSimpArgs false
set_option maxRecDepth 100000
noncomputable section
noncomputable def book_rightFile_F (fuel : Nat) (f1 : List Int) (f2 : Int) (f3 : List Int) : Option Bool :=
 (book_isName_F fuel f1).bind fun q4 =>
 (if q4 = true then
 (if (decide (f2 ≥ 0)) = true then
 (if (decide (f2 ≤ 2)) = true then
 some (decide (((f3.length : Nat) : Int) ≤ 60000))
 else
 some false)
 else
 some false)
 else
 some false)
theorem book_rightFile_F_le (fuel : Nat) (f1 : List Int) (f2 : Int) (f3 : List Int) : Ole (book_rightFile_F fuel f1 f2 f3) (book_rightFile f1 f2 f3) := by
  rw [book_rightFile_eq]; unfold book_rightFile_F; try dsimp only
  repeat' first | with_reducible exact Ole.refl _ | refine Ole.ite ?_ ?_ | with_reducible exact book_isName_F_le .. | refine Ole.iter fun _ => ?_ | refine Ole.elim (fun _ => ?_) (fun _ => ?_) | refine Ole.bind ?_ fun _ => ?_ | refine Ole.demD ?_ ?_
noncomputable def note_looks_outlines_loop2_F (fuel : Nat) (r_note_looks_outlines : (List Outline) → Int → Int → Option (Bool × Int)) (l1 : List Outline) (depth2 : Int) (s4 : Int × Int) : Option ((Int × Int) ⊕ ((Int) ⊕ (Bool × Int))) :=
 let v5 := s4.1;
 let b6 := s4.2;
 (if (decide (v5 < ((l1.length : Nat) : Int))) = true then
 (if 0 ≤ v5 then
 (l1[v5.toNat]?).bind fun e7 =>
 let t8 := IntKind.i64.wrap (b6 + 1);
 (if (decide (t8 > 400)) = true then
 some (Sum.inr (Sum.inr (false, t8)))
 else
 (if (decide (depth2 > 20)) = true then
 some (Sum.inr (Sum.inr (false, t8)))
 else
 (if (decide (((e7.title.length : Nat) : Int) > 200)) = true then
 some (Sum.inr (Sum.inr (false, t8)))
 else
 (if (decide (e7.page < 1)) = true then
 some (Sum.inr (Sum.inr (false, t8)))
 else
 (if (decide (e7.page > 1000)) = true then
 some (Sum.inr (Sum.inr (false, t8)))
 else
 let t9 := IntKind.i64.wrap (depth2 + 1);
 (r_note_looks_outlines e7.kids t9 t8).bind fun q10 =>
 let tr11 := q10.1;
 let tr12 := q10.2;
 (if (!tr11) = true then
 some (Sum.inr (Sum.inr (false, tr12)))
 else
 let t13 := IntKind.i64.wrap (v5 + 1);
 some (Sum.inl (t13, tr12))))))))
 else
 none)
 else
 some (Sum.inr (Sum.inl b6)))
theorem note_looks_outlines_loop2_F_le (fuel : Nat) (r_note_looks_outlines : (List Outline) → Int → Int → Option (Bool × Int)) (h_note_looks_outlines : ∀ l1 depth2 b3, Ole (r_note_looks_outlines l1 depth2 b3) (note_looks_outlines l1 depth2 b3)) (l1 : List Outline) (depth2 : Int) (s4 : Int × Int) : Ole (note_looks_outlines_loop2_F fuel r_note_looks_outlines l1 depth2 s4) (note_looks_outlines_loop2 l1 depth2 s4) := by
  unfold note_looks_outlines_loop2_F note_looks_outlines_loop2; try dsimp only
  repeat' first | with_reducible exact Ole.refl _ | refine Ole.ite ?_ ?_ | with_reducible exact h_note_looks_outlines .. | refine Ole.iter fun _ => ?_ | refine Ole.elim (fun _ => ?_) (fun _ => ?_) | refine Ole.bind ?_ fun _ => ?_ | refine Ole.demD ?_ ?_
noncomputable def note_looks_outlines_B (fuel : Nat) (r_note_looks_outlines : (List Outline) → Int → Int → Option (Bool × Int)) (l1 : List Outline) (depth2 b3 : Int) : Option (Bool × Int) :=
 (iter (note_looks_outlines_loop2_F fuel r_note_looks_outlines l1 depth2) fuel (0, b3)).bind (fun o21 =>
 (Sum.elim (fun (b17 : Int) =>
 some (true, b17))
 (fun (p18 : Bool × Int) =>
 let v19 := p18.1;
 let b20 := p18.2;
 some (v19, b20)) o21))
theorem note_looks_outlines_B_le (fuel : Nat) (r_note_looks_outlines : (List Outline) → Int → Int → Option (Bool × Int)) (h_note_looks_outlines : ∀ l1 depth2 b3, Ole (r_note_looks_outlines l1 depth2 b3) (note_looks_outlines l1 depth2 b3)) (l1 : List Outline) (depth2 b3 : Int) : Ole (note_looks_outlines_B fuel r_note_looks_outlines l1 depth2 b3) (note_looks_outlines l1 depth2 b3) := by
  rw [note_looks_outlines_eq]; unfold note_looks_outlines_B; try dsimp only
  repeat' first | with_reducible exact Ole.refl _ | refine Ole.ite ?_ ?_ | with_reducible exact h_note_looks_outlines .. | with_reducible exact note_looks_outlines_loop2_F_le fuel r_note_looks_outlines h_note_looks_outlines .. | refine Ole.iter fun _ => ?_ | refine Ole.elim (fun _ => ?_) (fun _ => ?_) | refine Ole.bind ?_ fun _ => ?_ | refine Ole.demD ?_ ?_
noncomputable def note_looks_outlines_R (fuel : Nat) : Nat → ((List Outline) → Int → Int → Option (Bool × Int))
  | 0 => (fun l1 depth2 b3 => none)
  | n + 1 => (fun l1 depth2 b3 => note_looks_outlines_B fuel (note_looks_outlines_R fuel n) l1 depth2 b3)
theorem note_looks_outlines_R_le (fuel : Nat) : ∀ n, (∀ l1 depth2 b3, Ole (note_looks_outlines_R fuel n l1 depth2 b3) (note_looks_outlines l1 depth2 b3))
  | 0 => fun _ _ _ => Ole.none
  | n + 1 => fun l1 depth2 b3 => note_looks_outlines_B_le fuel (note_looks_outlines_R fuel n) (note_looks_outlines_R_le fuel n) l1 depth2 b3
noncomputable def note_looks_outlines_F (fuel : Nat) (l1 : List Outline) (depth2 b3 : Int) : Option (Bool × Int) := note_looks_outlines_R fuel fuel l1 depth2 b3
theorem note_looks_outlines_F_le (fuel : Nat) (l1 : List Outline) (depth2 b3 : Int) : Ole (note_looks_outlines_F fuel l1 depth2 b3) (note_looks_outlines l1 depth2 b3) := (note_looks_outlines_R_le fuel fuel) l1 depth2 b3
noncomputable def note_ValidOutlines_F (fuel : Nat) (l1 : List Outline) : Option Bool :=
 (note_looks_outlines_F fuel l1 1 0).bind fun q2 =>
 let tr3 := q2.1;
 let tr4 := q2.2;
 some tr3
theorem note_ValidOutlines_F_le (fuel : Nat) (l1 : List Outline) : Ole (note_ValidOutlines_F fuel l1) (note_ValidOutlines l1) := by
  rw [note_ValidOutlines_eq]; unfold note_ValidOutlines_F; try dsimp only
  repeat' first | with_reducible exact Ole.refl _ | refine Ole.ite ?_ ?_ | with_reducible exact note_looks_outlines_F_le .. | refine Ole.iter fun _ => ?_ | refine Ole.elim (fun _ => ?_) (fun _ => ?_) | refine Ole.bind ?_ fun _ => ?_ | refine Ole.demD ?_ ?_
noncomputable def book_Valid_loop4_F (fuel : Nat) (b1 : List File) (v5 : Int) : Option ((Int) ⊕ ((Unit) ⊕ (Bool))) :=
 (if (decide (v5 < ((b1.length : Nat) : Int))) = true then
 (if 0 ≤ v5 then
 (b1[v5.toNat]?).bind fun e6 =>
 (book_rightFile_F fuel e6.name e6.kind e6.data).bind fun q7 =>
 (if (!q7) = true then
 some (Sum.inr (Sum.inr false))
 else
 (if 0 ≤ v5 ∧ v5 ≤ ((b1.length : Nat) : Int) then
 let t8 : List File := cutL b1 0 v5.toNat;
 (book_index_F fuel t8 e6.name).bind fun q9 =>
 (if (decide (q9 ≥ 0)) = true then
 some (Sum.inr (Sum.inr false))
 else
 let t10 := IntKind.i64.wrap (v5 + 1);
 some (Sum.inl t10))
 else
 none))
 else
 none)
 else
 some (Sum.inr (Sum.inl ())))
theorem book_Valid_loop4_F_le (fuel : Nat) (b1 : List File) (v5 : Int) : Ole (book_Valid_loop4_F fuel b1 v5) (book_Valid_loop4 b1 v5) := by
  unfold book_Valid_loop4_F book_Valid_loop4; try dsimp only
  repeat' first | with_reducible exact Ole.refl _ | refine Ole.ite ?_ ?_ | with_reducible exact book_index_F_le .. | with_reducible exact book_rightFile_F_le .. | with_reducible exact note_ValidOutlines_F_le .. | refine Ole.iter fun _ => ?_ | refine Ole.elim (fun _ => ?_) (fun _ => ?_) | refine Ole.bind ?_ fun _ => ?_ | refine Ole.demD ?_ ?_
noncomputable def book_Valid_F (fuel : Nat) (b1 : List File) (b2 : List Outline) : Option Bool :=
 ((if (decide (((b1.length : Nat) : Int) > 40)) = true then
 some true
 else
 (note_ValidOutlines_F fuel b2).bind fun q3 =>
 some (!q3)) : Option (Bool)).bind (fun v4 =>
 (if v4 = true then
 some false
 else
 (iter (book_Valid_loop4_F fuel b1) fuel 0).bind (fun o16 =>
 (Sum.elim (fun (p14 : Unit) =>
 some true)
 (fun (v15 : Bool) =>
 some v15) o16))))
theorem book_Valid_F_le (fuel : Nat) (b1 : List File) (b2 : List Outline) : Ole (book_Valid_F fuel b1 b2) (book_Valid b1 b2) := by
  rw [book_Valid_eq]; unfold book_Valid_F; try dsimp only
  repeat' first | with_reducible exact Ole.refl _ | refine Ole.ite ?_ ?_ | with_reducible exact book_index_F_le .. | with_reducible exact book_rightFile_F_le .. | with_reducible exact note_ValidOutlines_F_le .. | with_reducible exact book_Valid_loop4_F_le .. | refine Ole.iter fun _ => ?_ | refine Ole.elim (fun _ => ?_) (fun _ => ?_) | refine Ole.bind ?_ fun _ => ?_ | refine Ole.demD ?_ ?_
noncomputable def bits_Size_loop5_F (fuel : Nat) (s6 : Int × (List Int)) : Option ((Int × (List Int)) ⊕ ((List Int))) :=
 let n7 := s6.1;
 let out8 := s6.2;
 (if (decide (n7 > 0)) = true then
 let t9 : Int := n7.tmod 128;
 let t10 := IntKind.u8.wrap t9;
 let t11 := IntKind.u8.wrap (t10 + 128);
 (if (([t11] : List Int).length + out8.length) * 1 ≤ 140737488355328 then
 let t12 : List Int := ([t11] : List Int) ++ out8;
 let t13 := IntKind.i64.wrap (n7.tdiv 128);
 some (Sum.inl (t13, t12))
 else
 none)
 else
 some (Sum.inr out8))
theorem bits_Size_loop5_F_le (fuel : Nat) (s6 : Int × (List Int)) : Ole (bits_Size_loop5_F fuel s6) (bits_Size_loop5 s6) := by
  unfold bits_Size_loop5_F bits_Size_loop5; try dsimp only
  repeat' first | with_reducible exact Ole.refl _ | refine Ole.ite ?_ ?_ | refine Ole.iter fun _ => ?_ | refine Ole.elim (fun _ => ?_) (fun _ => ?_) | refine Ole.bind ?_ fun _ => ?_ | refine Ole.demD ?_ ?_
noncomputable def bits_Size_F (fuel : Nat) (n1 : Int) : Option (Int × (List Int)) :=
 ((if (decide (n1 < 0)) = true then
 some true
 else
 some (decide (n1 > 2147483647))) : Option (Bool)).bind (fun v2 =>
 (if v2 = true then
 some (2, [])
 else
 let t3 : Int := n1.tmod 128;
 let t4 := IntKind.u8.wrap t3;
 let t5 := IntKind.i64.wrap (n1.tdiv 128);
 (iter (bits_Size_loop5_F fuel) fuel (t5, [t4])).bind (fun out14 =>
 some (0, out14))))
theorem bits_Size_F_le (fuel : Nat) (n1 : Int) : Ole (bits_Size_F fuel n1) (bits_Size n1) := by
  rw [bits_Size_eq]; unfold bits_Size_F; try dsimp only
  repeat' first | with_reducible exact Ole.refl _ | refine Ole.ite ?_ ?_ | with_reducible exact bits_Size_loop5_F_le .. | refine Ole.iter fun _ => ?_ | refine Ole.elim (fun _ => ?_) (fun _ => ?_) | refine Ole.bind ?_ fun _ => ?_ | refine Ole.demD ?_ ?_
noncomputable def book_sized_F (fuel : Nat) (n1 : Int) (l2 : List Int) : Option (List Int) :=
 (bits_Size_F fuel n1).bind fun q3 =>
 let tr4 := q3.1;
 let tr5 := q3.2;
 (if (tr5.length + l2.length) * 1 ≤ 140737488355328 then
 let t6 : List Int := tr5 ++ l2;
 some t6
 else
 none)
theorem book_sized_F_le (fuel : Nat) (n1 : Int) (l2 : List Int) : Ole (book_sized_F fuel n1 l2) (book_sized n1 l2) := by
  rw [book_sized_eq]; unfold book_sized_F; try dsimp only
  repeat' first | with_reducible exact Ole.refl _ | refine Ole.ite ?_ ?_ | with_reducible exact bits_Size_F_le .. | refine Ole.iter fun _ => ?_ | refine Ole.elim (fun _ => ?_) (fun _ => ?_) | refine Ole.bind ?_ fun _ => ?_ | refine Ole.demD ?_ ?_
noncomputable def note_size_F (fuel : Nat) (n1 : Int) : Option (List Int) :=
 (bits_Size_F fuel n1).bind fun q2 =>
 let tr3 := q2.1;
 let tr4 := q2.2;
 some tr4
theorem note_size_F_le (fuel : Nat) (n1 : Int) : Ole (note_size_F fuel n1) (note_size n1) := by
  rw [note_size_eq]; unfold note_size_F; try dsimp only
  repeat' first | with_reducible exact Ole.refl _ | refine Ole.ite ?_ ?_ | with_reducible exact bits_Size_F_le .. | refine Ole.iter fun _ => ?_ | refine Ole.elim (fun _ => ?_) (fun _ => ?_) | refine Ole.bind ?_ fun _ => ?_ | refine Ole.demD ?_ ?_
noncomputable def slices_Grow_byte_byte_F (fuel : Nat) (s1 : List Int) (n2 : Int) : Option (List Int) :=
 (if (decide (n2 < 0)) = true then
 none
 else
 none)
theorem slices_Grow_byte_byte_F_le (fuel : Nat) (s1 : List Int) (n2 : Int) : Ole (slices_Grow_byte_byte_F fuel s1 n2) (slices_Grow_byte_byte s1 n2) := by
  rw [slices_Grow_byte_byte_eq]; unfold slices_Grow_byte_byte_F; try dsimp only
  repeat' first | with_reducible exact Ole.refl _ | refine Ole.ite ?_ ?_ | refine Ole.iter fun _ => ?_ | refine Ole.elim (fun _ => ?_) (fun _ => ?_) | refine Ole.bind ?_ fun _ => ?_ | refine Ole.demD ?_ ?_
noncomputable def slices_Concat_byte_byte_loop3_F (fuel : Nat) (slices1 : List (List Int)) (s2 : Int × Int) : Option ((Int × Int) ⊕ (Int)) :=
 let size3 := s2.1;
 let v4 := s2.2;
 (if (decide (v4 < ((slices1.length : Nat) : Int))) = true then
 (if 0 ≤ v4 then
 (slices1[v4.toNat]?).bind fun e5 =>
 let t6 := IntKind.i64.wrap (size3 + ((e5.length : Nat) : Int));
 (if (decide (t6 < 0)) = true then
 none
 else
 let t7 := IntKind.i64.wrap (v4 + 1);
 some (Sum.inl (t6, t7)))
 else
 none)
 else
 some (Sum.inr size3))
theorem slices_Concat_byte_byte_loop3_F_le (fuel : Nat) (slices1 : List (List Int)) (s2 : Int × Int) : Ole (slices_Concat_byte_byte_loop3_F fuel slices1 s2) (slices_Concat_byte_byte_loop3 slices1 s2) := by
  unfold slices_Concat_byte_byte_loop3_F slices_Concat_byte_byte_loop3; try dsimp only
  repeat' first | with_reducible exact Ole.refl _ | refine Ole.ite ?_ ?_ | with_reducible exact slices_Grow_byte_byte_F_le .. | refine Ole.iter fun _ => ?_ | refine Ole.elim (fun _ => ?_) (fun _ => ?_) | refine Ole.bind ?_ fun _ => ?_ | refine Ole.demD ?_ ?_
noncomputable def slices_Concat_byte_byte_loop11_F (fuel : Nat) (slices1 : List (List Int)) (s13 : (List Int) × Int) : Option (((List Int) × Int) ⊕ ((List Int))) :=
 let newslice14 := s13.1;
 let v15 := s13.2;
 (if (decide (v15 < ((slices1.length : Nat) : Int))) = true then
 (if 0 ≤ v15 then
 (slices1[v15.toNat]?).bind fun e16 =>
 none
 else
 none)
 else
 some (Sum.inr newslice14))
theorem slices_Concat_byte_byte_loop11_F_le (fuel : Nat) (slices1 : List (List Int)) (s13 : (List Int) × Int) : Ole (slices_Concat_byte_byte_loop11_F fuel slices1 s13) (slices_Concat_byte_byte_loop11 slices1 s13) := by
  unfold slices_Concat_byte_byte_loop11_F slices_Concat_byte_byte_loop11; try dsimp only
  repeat' first | with_reducible exact Ole.refl _ | refine Ole.ite ?_ ?_ | with_reducible exact slices_Grow_byte_byte_F_le .. | with_reducible exact slices_Concat_byte_byte_loop3_F_le .. | refine Ole.iter fun _ => ?_ | refine Ole.elim (fun _ => ?_) (fun _ => ?_) | refine Ole.bind ?_ fun _ => ?_ | refine Ole.demD ?_ ?_
noncomputable def slices_Concat_byte_byte_F (fuel : Nat) (slices1 : List (List Int)) : Option (List Int) :=
 (iter (slices_Concat_byte_byte_loop3_F fuel slices1) fuel (0, 0)).bind (fun size11 =>
 (slices_Grow_byte_byte_F fuel [] size11).bind fun q12 =>
 (iter (slices_Concat_byte_byte_loop11_F fuel slices1) fuel (q12, 0)).bind (fun newslice20 =>
 some newslice20))
theorem slices_Concat_byte_byte_F_le (fuel : Nat) (slices1 : List (List Int)) : Ole (slices_Concat_byte_byte_F fuel slices1) (slices_Concat_byte_byte slices1) := by
  rw [slices_Concat_byte_byte_eq]; unfold slices_Concat_byte_byte_F; try dsimp only
  repeat' first | with_reducible exact Ole.refl _ | refine Ole.ite ?_ ?_ | with_reducible exact slices_Grow_byte_byte_F_le .. | with_reducible exact slices_Concat_byte_byte_loop3_F_le .. | with_reducible exact slices_Concat_byte_byte_loop11_F_le .. | refine Ole.iter fun _ => ?_ | refine Ole.elim (fun _ => ?_) (fun _ => ?_) | refine Ole.bind ?_ fun _ => ?_ | refine Ole.demD ?_ ?_
noncomputable def note_put_loop3_F (fuel : Nat) (r_note_put : (List Outline) → Option (List Int)) (l1 : List Outline) (s3 : (List Int) × Int) : Option (((List Int) × Int) ⊕ ((List Int))) :=
 let out4 := s3.1;
 let v5 := s3.2;
 (if (decide (v5 < ((l1.length : Nat) : Int))) = true then
 (if 0 ≤ v5 then
 (l1[v5.toNat]?).bind fun e6 =>
 (note_size_F fuel ((e6.title.length : Nat) : Int)).bind fun q7 =>
 (note_size_F fuel e6.page).bind fun q8 =>
 (r_note_put e6.kids).bind fun q9 =>
 (slices_Concat_byte_byte_F fuel [out4, q7, e6.title, q8, q9]).bind fun q10 =>
 let t11 := IntKind.i64.wrap (v5 + 1);
 some (Sum.inl (q10, t11))
 else
 none)
 else
 some (Sum.inr out4))
theorem note_put_loop3_F_le (fuel : Nat) (r_note_put : (List Outline) → Option (List Int)) (h_note_put : ∀ l1, Ole (r_note_put l1) (note_put l1)) (l1 : List Outline) (s3 : (List Int) × Int) : Ole (note_put_loop3_F fuel r_note_put l1 s3) (note_put_loop3 l1 s3) := by
  unfold note_put_loop3_F note_put_loop3; try dsimp only
  repeat' first | with_reducible exact Ole.refl _ | refine Ole.ite ?_ ?_ | with_reducible exact note_size_F_le .. | with_reducible exact slices_Concat_byte_byte_F_le .. | with_reducible exact h_note_put .. | refine Ole.iter fun _ => ?_ | refine Ole.elim (fun _ => ?_) (fun _ => ?_) | refine Ole.bind ?_ fun _ => ?_ | refine Ole.demD ?_ ?_
noncomputable def note_put_B (fuel : Nat) (r_note_put : (List Outline) → Option (List Int)) (l1 : List Outline) : Option (List Int) :=
 (note_size_F fuel ((l1.length : Nat) : Int)).bind fun q2 =>
 (iter (note_put_loop3_F fuel r_note_put l1) fuel (q2, 0)).bind (fun out15 =>
 some out15)
theorem note_put_B_le (fuel : Nat) (r_note_put : (List Outline) → Option (List Int)) (h_note_put : ∀ l1, Ole (r_note_put l1) (note_put l1)) (l1 : List Outline) : Ole (note_put_B fuel r_note_put l1) (note_put l1) := by
  rw [note_put_eq]; unfold note_put_B; try dsimp only
  repeat' first | with_reducible exact Ole.refl _ | refine Ole.ite ?_ ?_ | with_reducible exact note_size_F_le .. | with_reducible exact slices_Concat_byte_byte_F_le .. | with_reducible exact h_note_put .. | with_reducible exact note_put_loop3_F_le fuel r_note_put h_note_put .. | refine Ole.iter fun _ => ?_ | refine Ole.elim (fun _ => ?_) (fun _ => ?_) | refine Ole.bind ?_ fun _ => ?_ | refine Ole.demD ?_ ?_
noncomputable def note_put_R (fuel : Nat) : Nat → ((List Outline) → Option (List Int))
  | 0 => (fun l1 => none)
  | n + 1 => (fun l1 => note_put_B fuel (note_put_R fuel n) l1)
theorem note_put_R_le (fuel : Nat) : ∀ n, (∀ l1, Ole (note_put_R fuel n l1) (note_put l1))
  | 0 => fun _ => Ole.none
  | n + 1 => fun l1 => note_put_B_le fuel (note_put_R fuel n) (note_put_R_le fuel n) l1
noncomputable def note_put_F (fuel : Nat) (l1 : List Outline) : Option (List Int) := note_put_R fuel fuel l1
theorem note_put_F_le (fuel : Nat) (l1 : List Outline) : Ole (note_put_F fuel l1) (note_put l1) := (note_put_R_le fuel fuel) l1
noncomputable def note_PutOutlines_F (fuel : Nat) (l1 : List Outline) : Option ((List Int) × Int) :=
 (note_ValidOutlines_F fuel l1).bind fun q2 =>
 (if (!q2) = true then
 some ([], 95)
 else
 (note_put_F fuel l1).bind fun q3 =>
 some (q3, 0))
theorem note_PutOutlines_F_le (fuel : Nat) (l1 : List Outline) : Ole (note_PutOutlines_F fuel l1) (note_PutOutlines l1) := by
  rw [note_PutOutlines_eq]; unfold note_PutOutlines_F; try dsimp only
  repeat' first | with_reducible exact Ole.refl _ | refine Ole.ite ?_ ?_ | with_reducible exact note_ValidOutlines_F_le .. | with_reducible exact note_put_F_le .. | refine Ole.iter fun _ => ?_ | refine Ole.elim (fun _ => ?_) (fun _ => ?_) | refine Ole.bind ?_ fun _ => ?_ | refine Ole.demD ?_ ?_
noncomputable def coder_Encoder_none_F (fuel : Nat) (b1 b2 b3 : Int) (b4 b5 : List Int) : Option (Bool × Int × Int × Int × (List Int) × (List Int)) :=
 some (false, b1, b2, b3, b4, b5)
theorem coder_Encoder_none_F_le (fuel : Nat) (b1 b2 b3 : Int) (b4 b5 : List Int) : Ole (coder_Encoder_none_F fuel b1 b2 b3 b4 b5) (coder_Encoder_none b1 b2 b3 b4 b5) := by
  rw [coder_Encoder_none_eq]; unfold coder_Encoder_none_F; try dsimp only
  repeat' first | with_reducible exact Ole.refl _ | refine Ole.ite ?_ ?_ | refine Ole.iter fun _ => ?_ | refine Ole.elim (fun _ => ?_) (fun _ => ?_) | refine Ole.bind ?_ fun _ => ?_ | refine Ole.demD ?_ ?_
noncomputable def coder_Encoder_End_loop10_F (fuel : Nat) (tr10 v15 : Int) (s22 : Int × (List Int)) : Option ((Int × (List Int)) ⊕ ((List Int))) :=
 let v23 := s22.1;
 let out24 := s22.2;
 (if (decide (v23 < v15)) = true then
 let t25 := IntKind.i64.wrap (8 * v23);
 let t26 := IntKind.i64.wrap (24 - t25);
 (if t26 < 0 then
 none
 else
 let t27 := ishr .u64 tr10 t26;
 let t28 := IntKind.u8.wrap t27;
 (if (out24.length + ([t28] : List Int).length) * 1 ≤ 140737488355328 then
 let t29 : List Int := out24 ++ [t28];
 let t30 := IntKind.i64.wrap (v23 + 1);
 some (Sum.inl (t30, t29))
 else
 none))
 else
 some (Sum.inr out24))
theorem coder_Encoder_End_loop10_F_le (fuel : Nat) (tr10 v15 : Int) (s22 : Int × (List Int)) : Ole (coder_Encoder_End_loop10_F fuel tr10 v15 s22) (coder_Encoder_End_loop10 tr10 v15 s22) := by
  unfold coder_Encoder_End_loop10_F coder_Encoder_End_loop10; try dsimp only
  repeat' first | with_reducible exact Ole.refl _ | refine Ole.ite ?_ ?_ | with_reducible exact coder_Encoder_none_F_le .. | refine Ole.iter fun _ => ?_ | refine Ole.elim (fun _ => ?_) (fun _ => ?_) | refine Ole.bind ?_ fun _ => ?_ | refine Ole.demD ?_ ?_
noncomputable def coder_Encoder_End_loop5_F (fuel : Nat) (tr9 tr10 : Int) (s14 : Int × (List Int)) : Option ((Int × (List Int)) ⊕ (((List Int)) ⊕ ((List Int)))) :=
 let v15 := s14.1;
 let out16 := s14.2;
 (if (decide (v15 < 5)) = true then
 let t17 := IntKind.i64.wrap (8 * v15);
 let t18 := IntKind.i64.wrap (32 - t17);
 let t19 := IntKind.u64.wrap t18;
 (if t19 < 0 then
 none
 else
 let t20 := ishr .u64 tr10 t19;
 (if t19 < 0 then
 none
 else
 let t21 := ishl .u64 t20 t19;
 (if (decide (t21 ≥ tr9)) = true then
 (iter (coder_Encoder_End_loop10_F fuel tr10 v15) fuel (0, out16)).bind (fun out34 =>
 some (Sum.inr (Sum.inr out34)))
 else
 let t35 := IntKind.i64.wrap (v15 + 1);
 some (Sum.inl (t35, out16)))))
 else
 some (Sum.inr (Sum.inl out16)))
theorem coder_Encoder_End_loop5_F_le (fuel : Nat) (tr9 tr10 : Int) (s14 : Int × (List Int)) : Ole (coder_Encoder_End_loop5_F fuel tr9 tr10 s14) (coder_Encoder_End_loop5 tr9 tr10 s14) := by
  unfold coder_Encoder_End_loop5_F coder_Encoder_End_loop5; try dsimp only
  repeat' first | with_reducible exact Ole.refl _ | refine Ole.ite ?_ ?_ | with_reducible exact coder_Encoder_none_F_le .. | with_reducible exact coder_Encoder_End_loop10_F_le .. | refine Ole.iter fun _ => ?_ | refine Ole.elim (fun _ => ?_) (fun _ => ?_) | refine Ole.bind ?_ fun _ => ?_ | refine Ole.demD ?_ ?_
noncomputable def coder_Encoder_End_F (fuel : Nat) (b1 b2 b3 : Int) (b4 b5 : List Int) : Option ((List Int) × Int × Int × Int × (List Int) × (List Int)) :=
 (coder_Encoder_none_F fuel b1 b2 b3 b4 b5).bind fun q6 =>
 let tr7 := q6.1;
 let tr8 := q6.2.1;
 let tr9 := q6.2.2.1;
 let tr10 := q6.2.2.2.1;
 let tr11 := q6.2.2.2.2.1;
 let tr12 := q6.2.2.2.2.2;
 (if tr7 = true then
 some ([], tr8, tr9, tr10, tr11, tr12)
 else
 (if (([] : List Int).length + tr12.length) * 1 ≤ 140737488355328 then
 let t13 : List Int := ([] : List Int) ++ tr12;
 (iter (coder_Encoder_End_loop5_F fuel tr9 tr10) fuel (0, t13)).bind (fun o41 =>
 (Sum.elim (fun (out39 : (List Int)) =>
 some (out39, tr8, tr9, tr10, tr11, tr12))
 (fun (b40 : (List Int)) =>
 some (b40, tr8, tr9, tr10, tr11, tr12)) o41))
 else
 none))
theorem coder_Encoder_End_F_le (fuel : Nat) (b1 b2 b3 : Int) (b4 b5 : List Int) : Ole (coder_Encoder_End_F fuel b1 b2 b3 b4 b5) (coder_Encoder_End b1 b2 b3 b4 b5) := by
  rw [coder_Encoder_End_eq]; unfold coder_Encoder_End_F; try dsimp only
  repeat' first | with_reducible exact Ole.refl _ | refine Ole.ite ?_ ?_ | with_reducible exact coder_Encoder_none_F_le .. | with_reducible exact coder_Encoder_End_loop10_F_le .. | with_reducible exact coder_Encoder_End_loop5_F_le .. | refine Ole.iter fun _ => ?_ | refine Ole.elim (fun _ => ?_) (fun _ => ?_) | refine Ole.bind ?_ fun _ => ?_ | refine Ole.demD ?_ ?_
noncomputable def coder_NewEncoder_F (fuel : Nat) (m1 : Int) (m2 : List Int) : Option ((Int × Int × Int × (List Int) × (List Int)) ⊕ (Unit)) :=
 (coder_Valid_F fuel m1 m2).bind fun q3 =>
 (if (!q3) = true then
 some (Sum.inr ())
 else
 (coder_begin_F fuel m1 m2).bind fun q4 =>
 let tr5 := q4.1;
 let tr6 := q4.2.1;
 let tr7 := q4.2.2.1;
 let tr8 := q4.2.2.2;
 some (Sum.inl (tr5, tr6, tr7, tr8, [])))
theorem coder_NewEncoder_F_le (fuel : Nat) (m1 : Int) (m2 : List Int) : Ole (coder_NewEncoder_F fuel m1 m2) (coder_NewEncoder m1 m2) := by
  rw [coder_NewEncoder_eq]; unfold coder_NewEncoder_F; try dsimp only
  repeat' first | with_reducible exact Ole.refl _ | refine Ole.ite ?_ ?_ | with_reducible exact coder_Valid_F_le .. | with_reducible exact coder_begin_F_le .. | refine Ole.iter fun _ => ?_ | refine Ole.elim (fun _ => ?_) (fun _ => ?_) | refine Ole.bind ?_ fun _ => ?_ | refine Ole.demD ?_ ?_
noncomputable def coder_Encoder_Model_F (fuel : Nat) (b1 b2 b3 : Int) (b4 b5 : List Int) : Option (Int × (List Int) × Int × Int × Int × (List Int) × (List Int)) :=
 (coder_Encoder_none_F fuel b1 b2 b3 b4 b5).bind fun q6 =>
 let tr7 := q6.1;
 let tr8 := q6.2.1;
 let tr9 := q6.2.2.1;
 let tr10 := q6.2.2.2.1;
 let tr11 := q6.2.2.2.2.1;
 let tr12 := q6.2.2.2.2.2;
 (if tr7 = true then
 some (0, [], tr8, tr9, tr10, tr11, tr12)
 else
 (coder_clone_F fuel tr8 tr11).bind fun q13 =>
 let tr14 := q13.1;
 let tr15 := q13.2;
 some (tr14, tr15, tr8, tr9, tr10, tr11, tr12))
theorem coder_Encoder_Model_F_le (fuel : Nat) (b1 b2 b3 : Int) (b4 b5 : List Int) : Ole (coder_Encoder_Model_F fuel b1 b2 b3 b4 b5) (coder_Encoder_Model b1 b2 b3 b4 b5) := by
  rw [coder_Encoder_Model_eq]; unfold coder_Encoder_Model_F; try dsimp only
  repeat' first | with_reducible exact Ole.refl _ | refine Ole.ite ?_ ?_ | with_reducible exact coder_Encoder_none_F_le .. | with_reducible exact coder_clone_F_le .. | refine Ole.iter fun _ => ?_ | refine Ole.elim (fun _ => ?_) (fun _ => ?_) | refine Ole.bind ?_ fun _ => ?_ | refine Ole.demD ?_ ?_
noncomputable def coder_interval_lose_2_F (fuel : Nat) (b1 b2 b3 : Int) (b4 b5 : List Int) : Option (Int × Int × Int × Int × (List Int) × (List Int)) :=
 let t6 := ishr .u64 b2 24;
 let t7 := IntKind.u8.wrap t6;
 let t8 := ishl .u64 b2 8;
 let t9 := iand .u64 t8 4294967295;
 let t10 := ishl .u64 b3 8;
 let t11 := iand .u64 t10 4294967295;
 let t12 := ior .u64 t11 255;
 some (t7, b1, t9, t12, b4, b5)
theorem coder_interval_lose_2_F_le (fuel : Nat) (b1 b2 b3 : Int) (b4 b5 : List Int) : Ole (coder_interval_lose_2_F fuel b1 b2 b3 b4 b5) (coder_interval_lose_2 b1 b2 b3 b4 b5) := by
  rw [coder_interval_lose_2_eq]; unfold coder_interval_lose_2_F; try dsimp only
  repeat' first | with_reducible exact Ole.refl _ | refine Ole.ite ?_ ?_ | refine Ole.iter fun _ => ?_ | refine Ole.elim (fun _ => ?_) (fun _ => ?_) | refine Ole.bind ?_ fun _ => ?_ | refine Ole.demD ?_ ?_
noncomputable def coder_interval_mid_2_F (fuel : Nat) (ctx1 b2 b3 b4 : Int) (b5 b6 : List Int) : Option (Int × Int × Int × Int × (List Int) × (List Int)) :=
 let t7 := IntKind.u64.wrap (b4 - b3);
 (if 0 ≤ ctx1 ∧ ctx1 < (b5.length : Int) then
 let t8 : Int := rd b5 ctx1;
 (coder_table_chance_F fuel b2 t8).bind fun q9 =>
 let t10 := IntKind.u64.wrap q9;
 let t11 := IntKind.u64.wrap (t7.tdiv 4096);
 let t12 := IntKind.u64.wrap (t11 * t10);
 let t13 := IntKind.u64.wrap (b3 + t12);
 let t14 : Int := t7.tmod 4096;
 let t15 := IntKind.u64.wrap (t14 * t10);
 let t16 := IntKind.u64.wrap (t15.tdiv 4096);
 let t17 := IntKind.u64.wrap (t13 + t16);
 some (t17, b2, b3, b4, b5, b6)
 else
 none)
theorem coder_interval_mid_2_F_le (fuel : Nat) (ctx1 b2 b3 b4 : Int) (b5 b6 : List Int) : Ole (coder_interval_mid_2_F fuel ctx1 b2 b3 b4 b5 b6) (coder_interval_mid_2 ctx1 b2 b3 b4 b5 b6) := by
  rw [coder_interval_mid_2_eq]; unfold coder_interval_mid_2_F; try dsimp only
  repeat' first | with_reducible exact Ole.refl _ | refine Ole.ite ?_ ?_ | with_reducible exact coder_table_chance_F_le .. | refine Ole.iter fun _ => ?_ | refine Ole.elim (fun _ => ?_) (fun _ => ?_) | refine Ole.bind ?_ fun _ => ?_ | refine Ole.demD ?_ ?_
noncomputable def coder_interval_same_2_F (fuel : Nat) (b1 b2 b3 : Int) (b4 b5 : List Int) : Option (Bool × Int × Int × Int × (List Int) × (List Int)) :=
 let t6 := ishr .u64 b2 24;
 let t7 := ishr .u64 b3 24;
 some (decide (t6 = t7), b1, b2, b3, b4, b5)
theorem coder_interval_same_2_F_le (fuel : Nat) (b1 b2 b3 : Int) (b4 b5 : List Int) : Ole (coder_interval_same_2_F fuel b1 b2 b3 b4 b5) (coder_interval_same_2 b1 b2 b3 b4 b5) := by
  rw [coder_interval_same_2_eq]; unfold coder_interval_same_2_F; try dsimp only
  repeat' first | with_reducible exact Ole.refl _ | refine Ole.ite ?_ ?_ | refine Ole.iter fun _ => ?_ | refine Ole.elim (fun _ => ?_) (fun _ => ?_) | refine Ole.bind ?_ fun _ => ?_ | refine Ole.demD ?_ ?_
noncomputable def coder_interval_take_2_F (fuel : Nat) (ctx1 bit2 mid3 b4 b5 b6 : Int) (b7 b8 : List Int) : Option (Int × Int × Int × (List Int) × (List Int)) :=
 ((if (decide (bit2 = 1)) = true then
 some (b4, b5, mid3, b7, b8)
 else
 let t9 := IntKind.u64.wrap (mid3 + 1);
 some (b4, t9, b6, b7, b8)) : Option (Int × Int × Int × (List Int) × (List Int))).bind (fun p10 =>
 let b11 := p10.1;
 let b12 := p10.2.1;
 let b13 := p10.2.2.1;
 let b14 := p10.2.2.2.1;
 let b15 := p10.2.2.2.2;
 (if 0 ≤ ctx1 ∧ ctx1 < (b14.length : Int) then
 let t16 : Int := rd b14 ctx1;
 (coder_next_F fuel b11 t16 bit2).bind fun q17 =>
 (if 0 ≤ ctx1 ∧ ctx1 < (b14.length : Int) then
 let w18 : List Int := b14.set ctx1.toNat q17;
 some (b11, b12, b13, w18, b15)
 else
 none)
 else
 none))
theorem coder_interval_take_2_F_le (fuel : Nat) (ctx1 bit2 mid3 b4 b5 b6 : Int) (b7 b8 : List Int) : Ole (coder_interval_take_2_F fuel ctx1 bit2 mid3 b4 b5 b6 b7 b8) (coder_interval_take_2 ctx1 bit2 mid3 b4 b5 b6 b7 b8) := by
  rw [coder_interval_take_2_eq]; unfold coder_interval_take_2_F; try dsimp only
  repeat' first | with_reducible exact Ole.refl _ | refine Ole.ite ?_ ?_ | with_reducible exact coder_next_F_le .. | refine Ole.iter fun _ => ?_ | refine Ole.elim (fun _ => ?_) (fun _ => ?_) | refine Ole.bind ?_ fun _ => ?_ | refine Ole.demD ?_ ?_
noncomputable def coder_Encoder_Put_loop6_F (fuel : Nat) (s32 : Int × Int × Int × (List Int) × (List Int)) : Option ((Int × Int × Int × (List Int) × (List Int)) ⊕ (Int × Int × Int × (List Int) × (List Int))) :=
 let b33 := s32.1;
 let b34 := s32.2.1;
 let b35 := s32.2.2.1;
 let b36 := s32.2.2.2.1;
 let b37 := s32.2.2.2.2;
 (coder_interval_same_2_F fuel b33 b34 b35 b36 b37).bind fun q38 =>
 let tr39 := q38.1;
 let tr40 := q38.2.1;
 let tr41 := q38.2.2.1;
 let tr42 := q38.2.2.2.1;
 let tr43 := q38.2.2.2.2.1;
 let tr44 := q38.2.2.2.2.2;
 (if tr39 = true then
 ((coder_interval_lose_2_F fuel tr40 tr41 tr42 tr43 tr44).bind fun q45 =>
 let tr46 := q45.1;
 let tr47 := q45.2.1;
 let tr48 := q45.2.2.1;
 let tr49 := q45.2.2.2.1;
 let tr50 := q45.2.2.2.2.1;
 let tr51 := q45.2.2.2.2.2;
 (if (tr51.length + ([tr46] : List Int).length) * 1 ≤ 140737488355328 then
 let t52 : List Int := tr51 ++ [tr46];
 some (Sum.inl (tr47, tr48, tr49, tr50, t52))
 else
 none))
 else
 some (Sum.inr (tr40, tr41, tr42, tr43, tr44)))
theorem coder_Encoder_Put_loop6_F_le (fuel : Nat) (s32 : Int × Int × Int × (List Int) × (List Int)) : Ole (coder_Encoder_Put_loop6_F fuel s32) (coder_Encoder_Put_loop6 s32) := by
  unfold coder_Encoder_Put_loop6_F coder_Encoder_Put_loop6; try dsimp only
  repeat' first | with_reducible exact Ole.refl _ | refine Ole.ite ?_ ?_ | with_reducible exact coder_Encoder_none_F_le .. | with_reducible exact coder_interval_lose_2_F_le .. | with_reducible exact coder_interval_mid_2_F_le .. | with_reducible exact coder_interval_same_2_F_le .. | with_reducible exact coder_interval_take_2_F_le .. | refine Ole.iter fun _ => ?_ | refine Ole.elim (fun _ => ?_) (fun _ => ?_) | refine Ole.bind ?_ fun _ => ?_ | refine Ole.demD ?_ ?_
noncomputable def coder_Encoder_Put_F (fuel : Nat) (ctx1 bit2 b3 b4 b5 : Int) (b6 b7 : List Int) : Option (Int × Int × Int × Int × (List Int) × (List Int)) :=
 (coder_Encoder_none_F fuel b3 b4 b5 b6 b7).bind fun q8 =>
 let tr9 := q8.1;
 let tr10 := q8.2.1;
 let tr11 := q8.2.2.1;
 let tr12 := q8.2.2.2.1;
 let tr13 := q8.2.2.2.2.1;
 let tr14 := q8.2.2.2.2.2;
 ((if tr9 = true then
 some (Sum.inr 7)
 else
 ((if (decide (ctx1 < 0)) = true then
 some true
 else
 (if (decide (ctx1 ≥ ((tr13.length : Nat) : Int))) = true then
 some true
 else
 (if (!decide (bit2 = 0)) = true then
 some (!decide (bit2 = 1))
 else
 some false))) : Option (Bool)).bind (fun v15 =>
 (if v15 = true then
 some (Sum.inr 2)
 else
 some (Sum.inl ())))) : Option ((Unit) ⊕ (Int))).bind (fun o18 =>
 (Sum.elim (fun (p16 : Unit) =>
 (coder_interval_mid_2_F fuel ctx1 tr10 tr11 tr12 tr13 tr14).bind fun q19 =>
 let tr20 := q19.1;
 let tr21 := q19.2.1;
 let tr22 := q19.2.2.1;
 let tr23 := q19.2.2.2.1;
 let tr24 := q19.2.2.2.2.1;
 let tr25 := q19.2.2.2.2.2;
 (coder_interval_take_2_F fuel ctx1 bit2 tr20 tr21 tr22 tr23 tr24 tr25).bind fun q26 =>
 let tr27 := q26.1;
 let tr28 := q26.2.1;
 let tr29 := q26.2.2.1;
 let tr30 := q26.2.2.2.1;
 let tr31 := q26.2.2.2.2;
 (iter (coder_Encoder_Put_loop6_F fuel) fuel (tr27, tr28, tr29, tr30, tr31)).bind (fun p61 =>
 let b62 := p61.1;
 let b63 := p61.2.1;
 let b64 := p61.2.2.1;
 let b65 := p61.2.2.2.1;
 let b66 := p61.2.2.2.2;
 some (0, b62, b63, b64, b65, b66)))
 (fun (v17 : Int) =>
 some (v17, tr10, tr11, tr12, tr13, tr14)) o18))
theorem coder_Encoder_Put_F_le (fuel : Nat) (ctx1 bit2 b3 b4 b5 : Int) (b6 b7 : List Int) : Ole (coder_Encoder_Put_F fuel ctx1 bit2 b3 b4 b5 b6 b7) (coder_Encoder_Put ctx1 bit2 b3 b4 b5 b6 b7) := by
  rw [coder_Encoder_Put_eq]; unfold coder_Encoder_Put_F; try dsimp only
  repeat' first | with_reducible exact Ole.refl _ | refine Ole.ite ?_ ?_ | with_reducible exact coder_Encoder_none_F_le .. | with_reducible exact coder_interval_lose_2_F_le .. | with_reducible exact coder_interval_mid_2_F_le .. | with_reducible exact coder_interval_same_2_F_le .. | with_reducible exact coder_interval_take_2_F_le .. | with_reducible exact coder_Encoder_Put_loop6_F_le .. | refine Ole.iter fun _ => ?_ | refine Ole.elim (fun _ => ?_) (fun _ => ?_) | refine Ole.bind ?_ fun _ => ?_ | refine Ole.demD ?_ ?_
noncomputable def number_Valid_F (fuel : Nat) (n1 : Bool) (n2 : Int) : Option Bool :=
 (if n1 = true then
 some (decide (n2 = 0))
 else
 (if (decide (n2 ≥ (-1048576))) = true then
 some (decide (n2 ≤ 1048576))
 else
 some false))
theorem number_Valid_F_le (fuel : Nat) (n1 : Bool) (n2 : Int) : Ole (number_Valid_F fuel n1 n2) (number_Valid n1 n2) := by
  rw [number_Valid_eq]; unfold number_Valid_F; try dsimp only
  repeat' first | with_reducible exact Ole.refl _ | refine Ole.ite ?_ ?_ | refine Ole.iter fun _ => ?_ | refine Ole.elim (fun _ => ?_) (fun _ => ?_) | refine Ole.bind ?_ fun _ => ?_ | refine Ole.demD ?_ ?_
noncomputable def number_events_loop7_F (fuel : Nat) (base1 t9 : Int) (s10 : Int × (List Event)) : Option ((Int × (List Event)) ⊕ ((List Event))) :=
 let v11 := s10.1;
 let out12 := s10.2;
 (if (decide (v11 < t9)) = true then
 let t13 := IntKind.i64.wrap (base1 + 1);
 let t14 := IntKind.i64.wrap (t13 + v11);
 (if (out12.length + ([(Event.mk t14 1)] : List Event).length) * 16 ≤ 140737488355328 then
 let t15 : List Event := out12 ++ [(Event.mk t14 1)];
 let t16 := IntKind.i64.wrap (v11 + 1);
 some (Sum.inl (t16, t15))
 else
 none)
 else
 some (Sum.inr out12))
theorem number_events_loop7_F_le (fuel : Nat) (base1 t9 : Int) (s10 : Int × (List Event)) : Ole (number_events_loop7_F fuel base1 t9 s10) (number_events_loop7 base1 t9 s10) := by
  unfold number_events_loop7_F number_events_loop7; try dsimp only
  repeat' first | with_reducible exact Ole.refl _ | refine Ole.ite ?_ ?_ | with_reducible exact math_bits_Len_F_le .. | with_reducible exact number_tail_take_F_le .. | refine Ole.iter fun _ => ?_ | refine Ole.elim (fun _ => ?_) (fun _ => ?_) | refine Ole.bind ?_ fun _ => ?_ | refine Ole.demD ?_ ?_
noncomputable def number_events_loop15_F (fuel : Nat) (base1 t6 t9 : Int) (s26 : Int × (List Event) × Int) : Option ((Int × (List Event) × Int) ⊕ ((List Event) × Int)) :=
 let i27 := s26.1;
 let out28 := s26.2.1;
 let b29 := s26.2.2;
 (if (decide (i27 ≥ 0)) = true then
 let t30 := IntKind.i64.wrap (23 + t9);
 let t31 := IntKind.i64.wrap (t9 - 1);
 ((if (decide (i27 < t31)) = true then
 (number_tail_take_F fuel b29).bind fun q32 =>
 let tr33 := q32.1;
 let tr34 := q32.2;
 some (tr33, tr34)
 else
 some (t30, b29)) : Option (Int × Int)).bind (fun p35 =>
 let ctx36 := p35.1;
 let b37 := p35.2;
 let t38 := IntKind.i64.wrap (base1 + ctx36);
 (if i27 < 0 then
 none
 else
 let t39 := ishr .i64 t6 i27;
 let t40 := iand .i64 t39 1;
 (if (out28.length + ([(Event.mk t38 t40)] : List Event).length) * 16 ≤ 140737488355328 then
 let t41 : List Event := out28 ++ [(Event.mk t38 t40)];
 let t42 := IntKind.i64.wrap (i27 - 1);
 some (Sum.inl (t42, t41, b37))
 else
 none)))
 else
 some (Sum.inr (out28, b29)))
theorem number_events_loop15_F_le (fuel : Nat) (base1 t6 t9 : Int) (s26 : Int × (List Event) × Int) : Ole (number_events_loop15_F fuel base1 t6 t9 s26) (number_events_loop15 base1 t6 t9 s26) := by
  unfold number_events_loop15_F number_events_loop15; try dsimp only
  repeat' first | with_reducible exact Ole.refl _ | refine Ole.ite ?_ ?_ | with_reducible exact math_bits_Len_F_le .. | with_reducible exact number_tail_take_F_le .. | with_reducible exact number_events_loop7_F_le .. | refine Ole.iter fun _ => ?_ | refine Ole.elim (fun _ => ?_) (fun _ => ?_) | refine Ole.bind ?_ fun _ => ?_ | refine Ole.demD ?_ ?_
noncomputable def number_events_F (fuel : Nat) (base1 : Int) (n2 : Bool) (n3 : Int) : Option (List Event) :=
 (if n2 = true then
 some [(Event.mk base1 1)]
 else
 let t4 := IntKind.i64.wrap (0 - n3);
 let t5 := imax n3 t4;
 let t6 := IntKind.i64.wrap (t5 + 1);
 let t7 := IntKind.u64.wrap t6;
 (math_bits_Len_F fuel t7).bind fun q8 =>
 let t9 := IntKind.i64.wrap (q8 - 1);
 (iter (number_events_loop7_F fuel base1 t9) fuel (0, [(Event.mk base1 0)])).bind (fun out20 =>
 ((if (decide (t9 < 20)) = true then
 let t21 := IntKind.i64.wrap (base1 + 1);
 let t22 := IntKind.i64.wrap (t21 + t9);
 (if (out20.length + ([(Event.mk t22 0)] : List Event).length) * 16 ≤ 140737488355328 then
 let t23 : List Event := out20 ++ [(Event.mk t22 0)];
 some t23
 else
 none)
 else
 some out20) : Option ((List Event))).bind (fun out24 =>
 let t25 := IntKind.i64.wrap (t9 - 1);
 (iter (number_events_loop15_F fuel base1 t6 t9) fuel (t25, out24, 44)).bind (fun p43 =>
 let out44 := p43.1;
 let b45 := p43.2;
 (if (!decide (n3 = 0)) = true then
 let t46 := IntKind.i64.wrap (base1 + 22);
 ((if (decide (n3 < 0)) = true then
 some (t46, 1)
 else
 some (t46, 0)) : Option (Int × Int)).bind (fun p47 =>
 let b48 := p47.1;
 let b49 := p47.2;
 (if (out44.length + ([(Event.mk b48 b49)] : List Event).length) * 16 ≤ 140737488355328 then
 let t50 : List Event := out44 ++ [(Event.mk b48 b49)];
 some t50
 else
 none))
 else
 some out44)))))
theorem number_events_F_le (fuel : Nat) (base1 : Int) (n2 : Bool) (n3 : Int) : Ole (number_events_F fuel base1 n2 n3) (number_events base1 n2 n3) := by
  rw [number_events_eq]; unfold number_events_F; try dsimp only
  repeat' first | with_reducible exact Ole.refl _ | refine Ole.ite ?_ ?_ | with_reducible exact math_bits_Len_F_le .. | with_reducible exact number_tail_take_F_le .. | with_reducible exact number_events_loop7_F_le .. | with_reducible exact number_events_loop15_F_le .. | refine Ole.iter fun _ => ?_ | refine Ole.elim (fun _ => ?_) (fun _ => ?_) | refine Ole.bind ?_ fun _ => ?_ | refine Ole.demD ?_ ?_
noncomputable def number_put_loop2_F (fuel : Nat) (l1 : List Event) (s7 : Int × Int × Int × Int × (List Int) × (List Int)) : Option ((Int × Int × Int × Int × (List Int) × (List Int)) ⊕ ((Int × Int × Int × (List Int) × (List Int)) ⊕ (Int × Int × Int × Int × (List Int) × (List Int)))) :=
 let v8 := s7.1;
 let b9 := s7.2.1;
 let b10 := s7.2.2.1;
 let b11 := s7.2.2.2.1;
 let b12 := s7.2.2.2.2.1;
 let b13 := s7.2.2.2.2.2;
 (if (decide (v8 < ((l1.length : Nat) : Int))) = true then
 (if 0 ≤ v8 then
 (l1[v8.toNat]?).bind fun e14 =>
 (coder_Encoder_Put_F fuel e14.ctx e14.bit b9 b10 b11 b12 b13).bind fun q15 =>
 let tr16 := q15.1;
 let tr17 := q15.2.1;
 let tr18 := q15.2.2.1;
 let tr19 := q15.2.2.2.1;
 let tr20 := q15.2.2.2.2.1;
 let tr21 := q15.2.2.2.2.2;
 (if (!decide (tr16 = 0)) = true then
 some (Sum.inr (Sum.inr (tr16, tr17, tr18, tr19, tr20, tr21)))
 else
 let t22 := IntKind.i64.wrap (v8 + 1);
 some (Sum.inl (t22, tr17, tr18, tr19, tr20, tr21)))
 else
 none)
 else
 some (Sum.inr (Sum.inl (b9, b10, b11, b12, b13))))
theorem number_put_loop2_F_le (fuel : Nat) (l1 : List Event) (s7 : Int × Int × Int × Int × (List Int) × (List Int)) : Ole (number_put_loop2_F fuel l1 s7) (number_put_loop2 l1 s7) := by
  unfold number_put_loop2_F number_put_loop2; try dsimp only
  repeat' first | with_reducible exact Ole.refl _ | refine Ole.ite ?_ ?_ | with_reducible exact coder_Encoder_Put_F_le .. | refine Ole.iter fun _ => ?_ | refine Ole.elim (fun _ => ?_) (fun _ => ?_) | refine Ole.bind ?_ fun _ => ?_ | refine Ole.demD ?_ ?_
noncomputable def number_put_F (fuel : Nat) (l1 : List Event) (b2 b3 b4 : Int) (b5 b6 : List Int) : Option (Int × Int × Int × Int × (List Int) × (List Int)) :=
 (iter (number_put_loop2_F fuel l1) fuel (0, b2, b3, b4, b5, b6)).bind (fun o44 =>
 (Sum.elim (fun (p31 : Int × Int × Int × (List Int) × (List Int)) =>
 let b32 := p31.1;
 let b33 := p31.2.1;
 let b34 := p31.2.2.1;
 let b35 := p31.2.2.2.1;
 let b36 := p31.2.2.2.2;
 some (0, b32, b33, b34, b35, b36))
 (fun (p37 : Int × Int × Int × Int × (List Int) × (List Int)) =>
 let v38 := p37.1;
 let b39 := p37.2.1;
 let b40 := p37.2.2.1;
 let b41 := p37.2.2.2.1;
 let b42 := p37.2.2.2.2.1;
 let b43 := p37.2.2.2.2.2;
 some (v38, b39, b40, b41, b42, b43)) o44))
theorem number_put_F_le (fuel : Nat) (l1 : List Event) (b2 b3 b4 : Int) (b5 b6 : List Int) : Ole (number_put_F fuel l1 b2 b3 b4 b5 b6) (number_put l1 b2 b3 b4 b5 b6) := by
  rw [number_put_eq]; unfold number_put_F; try dsimp only
  repeat' first | with_reducible exact Ole.refl _ | refine Ole.ite ?_ ?_ | with_reducible exact coder_Encoder_Put_F_le .. | with_reducible exact number_put_loop2_F_le .. | refine Ole.iter fun _ => ?_ | refine Ole.elim (fun _ => ?_) (fun _ => ?_) | refine Ole.bind ?_ fun _ => ?_ | refine Ole.demD ?_ ?_
noncomputable def number_Put_F (fuel : Nat) (base1 : Int) (n2 : Bool) (n3 b4 b5 b6 : Int) (b7 b8 : List Int) : Option (Int × Int × Int × Int × (List Int) × (List Int)) :=
 (coder_Encoder_Put_F fuel (-1) 0 b4 b5 b6 b7 b8).bind fun q9 =>
 let tr10 := q9.1;
 let tr11 := q9.2.1;
 let tr12 := q9.2.2.1;
 let tr13 := q9.2.2.2.1;
 let tr14 := q9.2.2.2.2.1;
 let tr15 := q9.2.2.2.2.2;
 (if (decide (tr10 = 7)) = true then
 some (7, tr11, tr12, tr13, tr14, tr15)
 else
 (number_Valid_F fuel n2 n3).bind fun q16 =>
 (if (!q16) = true then
 some (2, tr11, tr12, tr13, tr14, tr15)
 else
 (coder_Encoder_Model_F fuel tr11 tr12 tr13 tr14 tr15).bind fun q17 =>
 let tr18 := q17.1;
 let tr19 := q17.2.1;
 let tr20 := q17.2.2.1;
 let tr21 := q17.2.2.2.1;
 let tr22 := q17.2.2.2.2.1;
 let tr23 := q17.2.2.2.2.2.1;
 let tr24 := q17.2.2.2.2.2.2;
 (number_fits_F fuel tr18 tr19 base1 48).bind fun q25 =>
 (if (!decide (q25 = 0)) = true then
 some (q25, tr20, tr21, tr22, tr23, tr24)
 else
 (number_events_F fuel base1 n2 n3).bind fun q26 =>
 (number_put_F fuel q26 tr20 tr21 tr22 tr23 tr24).bind fun q27 =>
 let tr28 := q27.1;
 let tr29 := q27.2.1;
 let tr30 := q27.2.2.1;
 let tr31 := q27.2.2.2.1;
 let tr32 := q27.2.2.2.2.1;
 let tr33 := q27.2.2.2.2.2;
 some (tr28, tr29, tr30, tr31, tr32, tr33))))
theorem number_Put_F_le (fuel : Nat) (base1 : Int) (n2 : Bool) (n3 b4 b5 b6 : Int) (b7 b8 : List Int) : Ole (number_Put_F fuel base1 n2 n3 b4 b5 b6 b7 b8) (number_Put base1 n2 n3 b4 b5 b6 b7 b8) := by
  rw [number_Put_eq]; unfold number_Put_F; try dsimp only
  repeat' first | with_reducible exact Ole.refl _ | refine Ole.ite ?_ ?_ | with_reducible exact coder_Encoder_Model_F_le .. | with_reducible exact coder_Encoder_Put_F_le .. | with_reducible exact number_Valid_F_le .. | with_reducible exact number_events_F_le .. | with_reducible exact number_fits_F_le .. | with_reducible exact number_put_F_le .. | refine Ole.iter fun _ => ?_ | refine Ole.elim (fun _ => ?_) (fun _ => ?_) | refine Ole.bind ?_ fun _ => ?_ | refine Ole.demD ?_ ?_
noncomputable def sort_Column_F (fuel : Nat) (text1 : List Int) : Option ((List Int) × Int) :=
 (if (decide (((text1.length : Nat) : Int) > 4000)) = true then
 some ([], 4)
 else
 (sort_column_F fuel text1).bind fun q2 =>
 some (q2, 0))
theorem sort_Column_F_le (fuel : Nat) (text1 : List Int) : Ole (sort_Column_F fuel text1) (sort_Column text1) := by
  rw [sort_Column_eq]; unfold sort_Column_F; try dsimp only
  repeat' first | with_reducible exact Ole.refl _ | refine Ole.ite ?_ ?_ | with_reducible exact sort_column_F_le .. | refine Ole.iter fun _ => ?_ | refine Ole.elim (fun _ => ?_) (fun _ => ?_) | refine Ole.bind ?_ fun _ => ?_ | refine Ole.demD ?_ ?_
noncomputable def slices_Index_int_int_loop2_F (fuel : Nat) (s1 : List Int) (v2 v3 : Int) : Option ((Int) ⊕ ((Unit) ⊕ (Int))) :=
 (if (decide (v3 < ((s1.length : Nat) : Int))) = true then
 (if 0 ≤ v3 ∧ v3 < (s1.length : Int) then
 (if (decide (v2 = rd s1 v3)) = true then
 some (Sum.inr (Sum.inr v3))
 else
 let t4 := IntKind.i64.wrap (v3 + 1);
 some (Sum.inl t4))
 else
 none)
 else
 some (Sum.inr (Sum.inl ())))
theorem slices_Index_int_int_loop2_F_le (fuel : Nat) (s1 : List Int) (v2 v3 : Int) : Ole (slices_Index_int_int_loop2_F fuel s1 v2 v3) (slices_Index_int_int_loop2 s1 v2 v3) := by
  unfold slices_Index_int_int_loop2_F slices_Index_int_int_loop2; try dsimp only
  repeat' first | with_reducible exact Ole.refl _ | refine Ole.ite ?_ ?_ | refine Ole.iter fun _ => ?_ | refine Ole.elim (fun _ => ?_) (fun _ => ?_) | refine Ole.bind ?_ fun _ => ?_ | refine Ole.demD ?_ ?_
noncomputable def slices_Index_int_int_F (fuel : Nat) (s1 : List Int) (v2 : Int) : Option Int :=
 (iter (slices_Index_int_int_loop2_F fuel s1 v2) fuel 0).bind (fun o10 =>
 (Sum.elim (fun (p8 : Unit) =>
 some (-1))
 (fun (v9 : Int) =>
 some v9) o10))
theorem slices_Index_int_int_F_le (fuel : Nat) (s1 : List Int) (v2 : Int) : Ole (slices_Index_int_int_F fuel s1 v2) (slices_Index_int_int s1 v2) := by
  rw [slices_Index_int_int_eq]; unfold slices_Index_int_int_F; try dsimp only
  repeat' first | with_reducible exact Ole.refl _ | refine Ole.ite ?_ ?_ | with_reducible exact slices_Index_int_int_loop2_F_le .. | refine Ole.iter fun _ => ?_ | refine Ole.elim (fun _ => ?_) (fun _ => ?_) | refine Ole.bind ?_ fun _ => ?_ | refine Ole.demD ?_ ?_
noncomputable def sort_Front_loop7_F (fuel : Nat) (l1 : List Int) (s4 : Int × (List Int) × (List Int)) : Option ((Int × (List Int) × (List Int)) ⊕ ((List Int) × (List Int))) :=
 let v5 := s4.1;
 let b6 := s4.2.1;
 let out7 := s4.2.2;
 (if (decide (v5 < ((l1.length : Nat) : Int))) = true then
 (if 0 ≤ v5 ∧ v5 < (l1.length : Int) then
 (slices_Index_int_int_F fuel b6 (rd l1 v5)).bind fun q8 =>
 (sort_front_F fuel q8 b6).bind fun q9 =>
 let tr10 := q9.1;
 let tr11 := q9.2;
 (if (out7.length + ([q8] : List Int).length) * 8 ≤ 140737488355328 then
 let t12 : List Int := out7 ++ [q8];
 let t13 := IntKind.i64.wrap (v5 + 1);
 some (Sum.inl (t13, tr11, t12))
 else
 none)
 else
 none)
 else
 some (Sum.inr (b6, out7)))
theorem sort_Front_loop7_F_le (fuel : Nat) (l1 : List Int) (s4 : Int × (List Int) × (List Int)) : Ole (sort_Front_loop7_F fuel l1 s4) (sort_Front_loop7 l1 s4) := by
  unfold sort_Front_loop7_F sort_Front_loop7; try dsimp only
  repeat' first | with_reducible exact Ole.refl _ | refine Ole.ite ?_ ?_ | with_reducible exact slices_Index_int_int_F_le .. | with_reducible exact sort_asked_F_le .. | with_reducible exact sort_front_F_le .. | with_reducible exact sort_list_F_le .. | refine Ole.iter fun _ => ?_ | refine Ole.elim (fun _ => ?_) (fun _ => ?_) | refine Ole.bind ?_ fun _ => ?_ | refine Ole.demD ?_ ?_
noncomputable def sort_Front_F (fuel : Nat) (l1 : List Int) : Option ((List Int) × Int) :=
 (sort_asked_F fuel l1).bind fun q2 =>
 (if (!decide (q2 = 0)) = true then
 some ([], q2)
 else
 (sort_list_F fuel).bind fun q3 =>
 (iter (sort_Front_loop7_F fuel l1) fuel (0, q3, [])).bind (fun p19 =>
 let b20 := p19.1;
 let out21 := p19.2;
 some (out21, 0)))
theorem sort_Front_F_le (fuel : Nat) (l1 : List Int) : Ole (sort_Front_F fuel l1) (sort_Front l1) := by
  rw [sort_Front_eq]; unfold sort_Front_F; try dsimp only
  repeat' first | with_reducible exact Ole.refl _ | refine Ole.ite ?_ ?_ | with_reducible exact slices_Index_int_int_F_le .. | with_reducible exact sort_asked_F_le .. | with_reducible exact sort_front_F_le .. | with_reducible exact sort_list_F_le .. | with_reducible exact sort_Front_loop7_F_le .. | refine Ole.iter fun _ => ?_ | refine Ole.elim (fun _ => ?_) (fun _ => ?_) | refine Ole.bind ?_ fun _ => ?_ | refine Ole.demD ?_ ?_
noncomputable def sort_Pack_loop12_F (fuel : Nat) (tr27 : List Int) (s29 : Int × Int × Int × Int × Int × (List Int) × (List Int)) : Option ((Int × Int × Int × Int × Int × (List Int) × (List Int)) ⊕ (Int × Int × Int × (List Int) × (List Int))) :=
 let last30 := s29.1;
 let v31 := s29.2.1;
 let b32 := s29.2.2.1;
 let b33 := s29.2.2.2.1;
 let b34 := s29.2.2.2.2.1;
 let b35 := s29.2.2.2.2.2.1;
 let b36 := s29.2.2.2.2.2.2;
 (if (decide (v31 < ((tr27.length : Nat) : Int))) = true then
 (if 0 ≤ v31 ∧ v31 < (tr27.length : Int) then
 (sort_base_F fuel last30).bind fun q37 =>
 (number_Put_F fuel q37 false (rd tr27 v31) b32 b33 b34 b35 b36).bind fun q38 =>
 let tr39 := q38.1;
 let tr40 := q38.2.1;
 let tr41 := q38.2.2.1;
 let tr42 := q38.2.2.2.1;
 let tr43 := q38.2.2.2.2.1;
 let tr44 := q38.2.2.2.2.2;
 let t45 := IntKind.i64.wrap (v31 + 1);
 some (Sum.inl (rd tr27 v31, t45, tr40, tr41, tr42, tr43, tr44))
 else
 none)
 else
 some (Sum.inr (b32, b33, b34, b35, b36)))
theorem sort_Pack_loop12_F_le (fuel : Nat) (tr27 : List Int) (s29 : Int × Int × Int × Int × Int × (List Int) × (List Int)) : Ole (sort_Pack_loop12_F fuel tr27 s29) (sort_Pack_loop12 tr27 s29) := by
  unfold sort_Pack_loop12_F sort_Pack_loop12; try dsimp only
  repeat' first | with_reducible exact Ole.refl _ | refine Ole.ite ?_ ?_ | with_reducible exact bits_Size_F_le .. | with_reducible exact coder_Encoder_End_F_le .. | with_reducible exact coder_New_F_le .. | with_reducible exact coder_NewEncoder_F_le .. | with_reducible exact number_Put_F_le .. | with_reducible exact sort_Column_F_le .. | with_reducible exact sort_Front_F_le .. | with_reducible exact sort_base_F_le .. | refine Ole.iter fun _ => ?_ | refine Ole.elim (fun _ => ?_) (fun _ => ?_) | refine Ole.bind ?_ fun _ => ?_ | refine Ole.demD ?_ ?_
noncomputable def sort_Pack_F (fuel : Nat) (text1 : List Int) : Option ((List Int) × Int) :=
 (sort_Column_F fuel text1).bind fun q2 =>
 let tr3 := q2.1;
 let tr4 := q2.2;
 (if (!decide (tr4 = 0)) = true then
 some ([], tr4)
 else
 (bits_Size_F fuel ((text1.length : Nat) : Int)).bind fun q5 =>
 let tr6 := q5.1;
 let tr7 := q5.2;
 (if (decide (((text1.length : Nat) : Int) = 0)) = true then
 some (tr7, 0)
 else
 (coder_New_F fuel 0 144).bind fun q8 =>
 let tr9 := q8.1;
 let tr10 := q8.2.1;
 let tr11 := q8.2.2;
 ((coder_NewEncoder_F fuel tr9 tr11).bind fun o19 =>
 (Sum.elim (fun (q12 : Int × Int × Int × (List Int) × (List Int)) =>
 let tr13 := q12.1;
 let tr14 := q12.2.1;
 let tr15 := q12.2.2.1;
 let tr16 := q12.2.2.2.1;
 let tr17 := q12.2.2.2.2;
 some (tr13, tr14, tr15, tr16, tr17))
 (fun (q18 : Unit) =>
 none) o19) : Option (Int × Int × Int × (List Int) × (List Int))).bind (fun p20 =>
 let b21 := p20.1;
 let b22 := p20.2.1;
 let b23 := p20.2.2.1;
 let b24 := p20.2.2.2.1;
 let b25 := p20.2.2.2.2;
 (sort_Front_F fuel tr3).bind fun q26 =>
 let tr27 := q26.1;
 let tr28 := q26.2;
 (iter (sort_Pack_loop12_F fuel tr27) fuel (0, 0, b21, b22, b23, b24, b25)).bind (fun p55 =>
 let b56 := p55.1;
 let b57 := p55.2.1;
 let b58 := p55.2.2.1;
 let b59 := p55.2.2.2.1;
 let b60 := p55.2.2.2.2;
 (coder_Encoder_End_F fuel b56 b57 b58 b59 b60).bind fun q61 =>
 let tr62 := q61.1;
 let tr63 := q61.2.1;
 let tr64 := q61.2.2.1;
 let tr65 := q61.2.2.2.1;
 let tr66 := q61.2.2.2.2.1;
 let tr67 := q61.2.2.2.2.2;
 (if (tr7.length + tr62.length) * 1 ≤ 140737488355328 then
 let t68 : List Int := tr7 ++ tr62;
 some (t68, 0)
 else
 none)))))
theorem sort_Pack_F_le (fuel : Nat) (text1 : List Int) : Ole (sort_Pack_F fuel text1) (sort_Pack text1) := by
  rw [sort_Pack_eq]; unfold sort_Pack_F; try dsimp only
  repeat' first | with_reducible exact Ole.refl _ | refine Ole.ite ?_ ?_ | with_reducible exact bits_Size_F_le .. | with_reducible exact coder_Encoder_End_F_le .. | with_reducible exact coder_New_F_le .. | with_reducible exact coder_NewEncoder_F_le .. | with_reducible exact number_Put_F_le .. | with_reducible exact sort_Column_F_le .. | with_reducible exact sort_Front_F_le .. | with_reducible exact sort_base_F_le .. | with_reducible exact sort_Pack_loop12_F_le .. | refine Ole.iter fun _ => ?_ | refine Ole.elim (fun _ => ?_) (fun _ => ?_) | refine Ole.bind ?_ fun _ => ?_ | refine Ole.demD ?_ ?_
noncomputable def book_Directory_loop5_F (fuel : Nat) (b1 : List File) (s5 : Int × (List Int)) : Option ((Int × (List Int)) ⊕ ((List Int))) :=
 let v6 := s5.1;
 let out7 := s5.2;
 (if (decide (v6 < ((b1.length : Nat) : Int))) = true then
 (if 0 ≤ v6 then
 (b1[v6.toNat]?).bind fun e8 =>
 let t9 := IntKind.u8.wrap e8.kind;
 (if (out7.length + ([t9] : List Int).length) * 1 ≤ 140737488355328 then
 let t10 : List Int := out7 ++ [t9];
 (book_sized_F fuel ((e8.name.length : Nat) : Int) e8.name).bind fun q11 =>
 (if (t10.length + q11.length) * 1 ≤ 140737488355328 then
 let t12 : List Int := t10 ++ q11;
 (book_sized_F fuel ((e8.data.length : Nat) : Int) []).bind fun q13 =>
 (if (t12.length + q13.length) * 1 ≤ 140737488355328 then
 let t14 : List Int := t12 ++ q13;
 let t15 := IntKind.i64.wrap (v6 + 1);
 some (Sum.inl (t15, t14))
 else
 none)
 else
 none)
 else
 none)
 else
 none)
 else
 some (Sum.inr out7))
theorem book_Directory_loop5_F_le (fuel : Nat) (b1 : List File) (s5 : Int × (List Int)) : Ole (book_Directory_loop5_F fuel b1 s5) (book_Directory_loop5 b1 s5) := by
  unfold book_Directory_loop5_F book_Directory_loop5; try dsimp only
  repeat' first | with_reducible exact Ole.refl _ | refine Ole.ite ?_ ?_ | with_reducible exact book_Valid_F_le .. | with_reducible exact book_sized_F_le .. | with_reducible exact note_PutOutlines_F_le .. | with_reducible exact sort_Pack_F_le .. | refine Ole.iter fun _ => ?_ | refine Ole.elim (fun _ => ?_) (fun _ => ?_) | refine Ole.bind ?_ fun _ => ?_ | refine Ole.demD ?_ ?_
noncomputable def book_Directory_F (fuel : Nat) (b1 : List File) (b2 : List Outline) : Option ((List Int) × Int) :=
 (book_Valid_F fuel b1 b2).bind fun q3 =>
 (if (!q3) = true then
 some ([], 110)
 else
 (book_sized_F fuel ((b1.length : Nat) : Int) []).bind fun q4 =>
 (iter (book_Directory_loop5_F fuel b1) fuel (0, q4)).bind (fun out19 =>
 (note_PutOutlines_F fuel b2).bind fun q20 =>
 let tr21 := q20.1;
 let tr22 := q20.2;
 (if (out19.length + tr21.length) * 1 ≤ 140737488355328 then
 let t23 : List Int := out19 ++ tr21;
 (sort_Pack_F fuel t23).bind fun q24 =>
 let tr25 := q24.1;
 let tr26 := q24.2;
 some (tr25, tr26)
 else
 none)))
theorem book_Directory_F_le (fuel : Nat) (b1 : List File) (b2 : List Outline) : Ole (book_Directory_F fuel b1 b2) (book_Directory b1 b2) := by
  rw [book_Directory_eq]; unfold book_Directory_F; try dsimp only
  repeat' first | with_reducible exact Ole.refl _ | refine Ole.ite ?_ ?_ | with_reducible exact book_Valid_F_le .. | with_reducible exact book_sized_F_le .. | with_reducible exact note_PutOutlines_F_le .. | with_reducible exact sort_Pack_F_le .. | with_reducible exact book_Directory_loop5_F_le .. | refine Ole.iter fun _ => ?_ | refine Ole.elim (fun _ => ?_) (fun _ => ?_) | refine Ole.bind ?_ fun _ => ?_ | refine Ole.demD ?_ ?_
noncomputable def book_one_F (fuel : Nat) (f1 : List Int) (f2 : Int) (f3 : List Int) : Option ((List Int) × (List Int) × (List Int) × (List Chunk)) :=
 (book_sized_F fuel ((f1.length : Nat) : Int) f1).bind fun q4 =>
 (if (q4.length + f3.length) * 1 ≤ 140737488355328 then
 let t5 : List Int := q4 ++ f3;
 some ([70, 73, 76, 69], [], t5, [])
 else
 none)
theorem book_one_F_le (fuel : Nat) (f1 : List Int) (f2 : Int) (f3 : List Int) : Ole (book_one_F fuel f1 f2 f3) (book_one f1 f2 f3) := by
  rw [book_one_eq]; unfold book_one_F; try dsimp only
  repeat' first | with_reducible exact Ole.refl _ | refine Ole.ite ?_ ?_ | with_reducible exact book_sized_F_le .. | refine Ole.iter fun _ => ?_ | refine Ole.elim (fun _ => ?_) (fun _ => ?_) | refine Ole.bind ?_ fun _ => ?_ | refine Ole.demD ?_ ?_
noncomputable def chunk_size_B (fuel : Nat) (r_chunk_size r_chunk_length : (List Int) → (List Int) → (List Int) → (List Chunk) → Option Int) (c1 c2 c3 : List Int) (c4 : List Chunk) : Option Int :=
 (r_chunk_length c1 c2 c3 c4).bind fun q5 =>
 let t6 := IntKind.i64.wrap (q5 + 1);
 let t7 := IntKind.i64.wrap (t6.tdiv 2);
 let t8 := IntKind.i64.wrap (t7 * 2);
 let t9 := IntKind.i64.wrap (8 + t8);
 some t9
theorem chunk_size_B_le (fuel : Nat) (r_chunk_size r_chunk_length : (List Int) → (List Int) → (List Int) → (List Chunk) → Option Int) (h_chunk_size : ∀ c1 c2 c3 c4, Ole (r_chunk_size c1 c2 c3 c4) (chunk_size c1 c2 c3 c4)) (h_chunk_length : ∀ c1 c2 c3 c4, Ole (r_chunk_length c1 c2 c3 c4) (chunk_length c1 c2 c3 c4)) (c1 c2 c3 : List Int) (c4 : List Chunk) : Ole (chunk_size_B fuel r_chunk_size r_chunk_length c1 c2 c3 c4) (chunk_size c1 c2 c3 c4) := by
  rw [chunk_size_eq]; unfold chunk_size_B; try dsimp only
  repeat' first | with_reducible exact Ole.refl _ | refine Ole.ite ?_ ?_ | with_reducible exact h_chunk_length .. | refine Ole.iter fun _ => ?_ | refine Ole.elim (fun _ => ?_) (fun _ => ?_) | refine Ole.bind ?_ fun _ => ?_ | refine Ole.demD ?_ ?_
noncomputable def chunk_length_loop5_F (fuel : Nat) (r_chunk_size r_chunk_length : (List Int) → (List Int) → (List Int) → (List Chunk) → Option Int) (c4 : List Chunk) (s5 : Int × Int) : Option ((Int × Int) ⊕ (Int)) :=
 let n6 := s5.1;
 let v7 := s5.2;
 (if (decide (v7 < ((c4.length : Nat) : Int))) = true then
 (if 0 ≤ v7 then
 (c4[v7.toNat]?).bind fun e8 =>
 (r_chunk_size e8.id e8.kind e8.data e8.kids).bind fun q9 =>
 let t10 := IntKind.i64.wrap (n6 + q9);
 let t11 := IntKind.i64.wrap (v7 + 1);
 some (Sum.inl (t10, t11))
 else
 none)
 else
 some (Sum.inr n6))
theorem chunk_length_loop5_F_le (fuel : Nat) (r_chunk_size r_chunk_length : (List Int) → (List Int) → (List Int) → (List Chunk) → Option Int) (h_chunk_size : ∀ c1 c2 c3 c4, Ole (r_chunk_size c1 c2 c3 c4) (chunk_size c1 c2 c3 c4)) (h_chunk_length : ∀ c1 c2 c3 c4, Ole (r_chunk_length c1 c2 c3 c4) (chunk_length c1 c2 c3 c4)) (c4 : List Chunk) (s5 : Int × Int) : Ole (chunk_length_loop5_F fuel r_chunk_size r_chunk_length c4 s5) (chunk_length_loop5 c4 s5) := by
  unfold chunk_length_loop5_F chunk_length_loop5; try dsimp only
  repeat' first | with_reducible exact Ole.refl _ | refine Ole.ite ?_ ?_ | with_reducible exact h_chunk_size .. | refine Ole.iter fun _ => ?_ | refine Ole.elim (fun _ => ?_) (fun _ => ?_) | refine Ole.bind ?_ fun _ => ?_ | refine Ole.demD ?_ ?_
noncomputable def chunk_length_B (fuel : Nat) (r_chunk_size r_chunk_length : (List Int) → (List Int) → (List Int) → (List Chunk) → Option Int) (c1 c2 c3 : List Int) (c4 : List Chunk) : Option Int :=
 (if (!decide (c1 = [70, 79, 82, 77])) = true then
 some ((c3.length : Nat) : Int)
 else
 (iter (chunk_length_loop5_F fuel r_chunk_size r_chunk_length c4) fuel (4, 0)).bind (fun n15 =>
 some n15))
theorem chunk_length_B_le (fuel : Nat) (r_chunk_size r_chunk_length : (List Int) → (List Int) → (List Int) → (List Chunk) → Option Int) (h_chunk_size : ∀ c1 c2 c3 c4, Ole (r_chunk_size c1 c2 c3 c4) (chunk_size c1 c2 c3 c4)) (h_chunk_length : ∀ c1 c2 c3 c4, Ole (r_chunk_length c1 c2 c3 c4) (chunk_length c1 c2 c3 c4)) (c1 c2 c3 : List Int) (c4 : List Chunk) : Ole (chunk_length_B fuel r_chunk_size r_chunk_length c1 c2 c3 c4) (chunk_length c1 c2 c3 c4) := by
  rw [chunk_length_eq]; unfold chunk_length_B; try dsimp only
  repeat' first | with_reducible exact Ole.refl _ | refine Ole.ite ?_ ?_ | with_reducible exact h_chunk_size .. | with_reducible exact chunk_length_loop5_F_le fuel r_chunk_size r_chunk_length h_chunk_size h_chunk_length .. | refine Ole.iter fun _ => ?_ | refine Ole.elim (fun _ => ?_) (fun _ => ?_) | refine Ole.bind ?_ fun _ => ?_ | refine Ole.demD ?_ ?_
noncomputable def chunk_size_R (fuel : Nat) : Nat → ((List Int) → (List Int) → (List Int) → (List Chunk) → Option Int) × ((List Int) → (List Int) → (List Int) → (List Chunk) → Option Int)
  | 0 => (fun c1 c2 c3 c4 => none, fun c1 c2 c3 c4 => none)
  | n + 1 => (fun c1 c2 c3 c4 => chunk_size_B fuel (chunk_size_R fuel n).1 (chunk_size_R fuel n).2 c1 c2 c3 c4, fun c1 c2 c3 c4 => chunk_length_B fuel (chunk_size_R fuel n).1 (chunk_size_R fuel n).2 c1 c2 c3 c4)
theorem chunk_size_R_le (fuel : Nat) : ∀ n, (∀ c1 c2 c3 c4, Ole ((chunk_size_R fuel n).1 c1 c2 c3 c4) (chunk_size c1 c2 c3 c4)) ∧ (∀ c1 c2 c3 c4, Ole ((chunk_size_R fuel n).2 c1 c2 c3 c4) (chunk_length c1 c2 c3 c4))
  | 0 => ⟨fun _ _ _ _ => Ole.none, fun _ _ _ _ => Ole.none⟩
  | n + 1 => ⟨fun c1 c2 c3 c4 => chunk_size_B_le fuel (chunk_size_R fuel n).1 (chunk_size_R fuel n).2 (chunk_size_R_le fuel n).1 (chunk_size_R_le fuel n).2 c1 c2 c3 c4, fun c1 c2 c3 c4 => chunk_length_B_le fuel (chunk_size_R fuel n).1 (chunk_size_R fuel n).2 (chunk_size_R_le fuel n).1 (chunk_size_R_le fuel n).2 c1 c2 c3 c4⟩
noncomputable def chunk_size_F (fuel : Nat) (c1 c2 c3 : List Int) (c4 : List Chunk) : Option Int := (chunk_size_R fuel fuel).1 c1 c2 c3 c4
theorem chunk_size_F_le (fuel : Nat) (c1 c2 c3 : List Int) (c4 : List Chunk) : Ole (chunk_size_F fuel c1 c2 c3 c4) (chunk_size c1 c2 c3 c4) := (chunk_size_R_le fuel fuel).1 c1 c2 c3 c4
noncomputable def chunk_length_F (fuel : Nat) (c1 c2 c3 : List Int) (c4 : List Chunk) : Option Int := (chunk_size_R fuel fuel).2 c1 c2 c3 c4
theorem chunk_length_F_le (fuel : Nat) (c1 c2 c3 : List Int) (c4 : List Chunk) : Ole (chunk_length_F fuel c1 c2 c3 c4) (chunk_length c1 c2 c3 c4) := (chunk_size_R_le fuel fuel).2 c1 c2 c3 c4
noncomputable def chunk_put_loop7_F (fuel : Nat) (r_chunk_put : (List Int) → (List Int) → (List Int) → (List Chunk) → (List Int) → Option (List Int)) (c4 : List Chunk) (s17 : Int × (List Int)) : Option ((Int × (List Int)) ⊕ ((List Int))) :=
 let v18 := s17.1;
 let out19 := s17.2;
 (if (decide (v18 < ((c4.length : Nat) : Int))) = true then
 (if 0 ≤ v18 then
 (c4[v18.toNat]?).bind fun e20 =>
 (r_chunk_put e20.id e20.kind e20.data e20.kids out19).bind fun q21 =>
 let t22 := IntKind.i64.wrap (v18 + 1);
 some (Sum.inl (t22, q21))
 else
 none)
 else
 some (Sum.inr out19))
theorem chunk_put_loop7_F_le (fuel : Nat) (r_chunk_put : (List Int) → (List Int) → (List Int) → (List Chunk) → (List Int) → Option (List Int)) (h_chunk_put : ∀ c1 c2 c3 c4 b5, Ole (r_chunk_put c1 c2 c3 c4 b5) (chunk_put c1 c2 c3 c4 b5)) (c4 : List Chunk) (s17 : Int × (List Int)) : Ole (chunk_put_loop7_F fuel r_chunk_put c4 s17) (chunk_put_loop7 c4 s17) := by
  unfold chunk_put_loop7_F chunk_put_loop7; try dsimp only
  repeat' first | with_reducible exact Ole.refl _ | refine Ole.ite ?_ ?_ | with_reducible exact chunk_length_F_le .. | with_reducible exact h_chunk_put .. | refine Ole.iter fun _ => ?_ | refine Ole.elim (fun _ => ?_) (fun _ => ?_) | refine Ole.bind ?_ fun _ => ?_ | refine Ole.demD ?_ ?_
noncomputable def chunk_put_B (fuel : Nat) (r_chunk_put : (List Int) → (List Int) → (List Int) → (List Chunk) → (List Int) → Option (List Int)) (c1 c2 c3 : List Int) (c4 : List Chunk) (b5 : List Int) : Option (List Int) :=
 (chunk_length_F fuel c1 c2 c3 c4).bind fun q6 =>
 (if (b5.length + c1.length) * 1 ≤ 140737488355328 then
 let t7 : List Int := b5 ++ c1;
 let t8 := ishr .i64 q6 24;
 let t9 := IntKind.u8.wrap t8;
 let t10 := ishr .i64 q6 16;
 let t11 := IntKind.u8.wrap t10;
 let t12 := ishr .i64 q6 8;
 let t13 := IntKind.u8.wrap t12;
 let t14 := IntKind.u8.wrap q6;
 (if (t7.length + ([t9, t11, t13, t14] : List Int).length) * 1 ≤ 140737488355328 then
 let t15 : List Int := t7 ++ [t9, t11, t13, t14];
 ((if (decide (c1 = [70, 79, 82, 77])) = true then
 (if (t15.length + c2.length) * 1 ≤ 140737488355328 then
 let t16 : List Int := t15 ++ c2;
 (iter (chunk_put_loop7_F fuel r_chunk_put c4) fuel (0, t16)).bind (fun out26 =>
 some out26)
 else
 none)
 else
 (if (t15.length + c3.length) * 1 ≤ 140737488355328 then
 let t27 : List Int := t15 ++ c3;
 some t27
 else
 none)) : Option ((List Int))).bind (fun out28 =>
 let t29 : Int := q6.tmod 2;
 (if (decide (t29 = 1)) = true then
 (if (out28.length + ([0] : List Int).length) * 1 ≤ 140737488355328 then
 let t30 : List Int := out28 ++ [0];
 some t30
 else
 none)
 else
 some out28))
 else
 none)
 else
 none)
theorem chunk_put_B_le (fuel : Nat) (r_chunk_put : (List Int) → (List Int) → (List Int) → (List Chunk) → (List Int) → Option (List Int)) (h_chunk_put : ∀ c1 c2 c3 c4 b5, Ole (r_chunk_put c1 c2 c3 c4 b5) (chunk_put c1 c2 c3 c4 b5)) (c1 c2 c3 : List Int) (c4 : List Chunk) (b5 : List Int) : Ole (chunk_put_B fuel r_chunk_put c1 c2 c3 c4 b5) (chunk_put c1 c2 c3 c4 b5) := by
  rw [chunk_put_eq]; unfold chunk_put_B; try dsimp only
  repeat' first | with_reducible exact Ole.refl _ | refine Ole.ite ?_ ?_ | with_reducible exact chunk_length_F_le .. | with_reducible exact h_chunk_put .. | with_reducible exact chunk_put_loop7_F_le fuel r_chunk_put h_chunk_put .. | refine Ole.iter fun _ => ?_ | refine Ole.elim (fun _ => ?_) (fun _ => ?_) | refine Ole.bind ?_ fun _ => ?_ | refine Ole.demD ?_ ?_
noncomputable def chunk_put_R (fuel : Nat) : Nat → ((List Int) → (List Int) → (List Int) → (List Chunk) → (List Int) → Option (List Int))
  | 0 => (fun c1 c2 c3 c4 b5 => none)
  | n + 1 => (fun c1 c2 c3 c4 b5 => chunk_put_B fuel (chunk_put_R fuel n) c1 c2 c3 c4 b5)
theorem chunk_put_R_le (fuel : Nat) : ∀ n, (∀ c1 c2 c3 c4 b5, Ole (chunk_put_R fuel n c1 c2 c3 c4 b5) (chunk_put c1 c2 c3 c4 b5))
  | 0 => fun _ _ _ _ _ => Ole.none
  | n + 1 => fun c1 c2 c3 c4 b5 => chunk_put_B_le fuel (chunk_put_R fuel n) (chunk_put_R_le fuel n) c1 c2 c3 c4 b5
noncomputable def chunk_put_F (fuel : Nat) (c1 c2 c3 : List Int) (c4 : List Chunk) (b5 : List Int) : Option (List Int) := chunk_put_R fuel fuel c1 c2 c3 c4 b5
theorem chunk_put_F_le (fuel : Nat) (c1 c2 c3 : List Int) (c4 : List Chunk) (b5 : List Int) : Ole (chunk_put_F fuel c1 c2 c3 c4 b5) (chunk_put c1 c2 c3 c4 b5) := (chunk_put_R_le fuel fuel) c1 c2 c3 c4 b5
noncomputable def chunk_looks_right_loop2_F (fuel : Nat) (r_chunk_looks_right : (List Chunk) → Int → Int → Option (Bool × Int)) (l1 : List Chunk) (depth2 : Int) (s4 : Int × Int) : Option ((Int × Int) ⊕ ((Int) ⊕ (Bool × Int))) :=
 let v5 := s4.1;
 let b6 := s4.2;
 (if (decide (v5 < ((l1.length : Nat) : Int))) = true then
 (if 0 ≤ v5 then
 (l1[v5.toNat]?).bind fun e7 =>
 let t8 := IntKind.i64.wrap (b6 + 1);
 ((if (decide (t8 > 400)) = true then
 some true
 else
 (if (decide (depth2 > 8)) = true then
 some true
 else
 (chunk_isId_F fuel e7.id).bind fun q9 =>
 some (!q9))) : Option (Bool)).bind (fun v10 =>
 (if v10 = true then
 some (Sum.inr (Sum.inr (false, t8)))
 else
 (if (decide (e7.id = [70, 79, 82, 77])) = true then
 (chunk_isKind_F fuel e7.kind).bind fun q11 =>
 (if (!q11) = true then
 some (Sum.inr (Sum.inr (false, t8)))
 else
 (if (decide (((e7.data.length : Nat) : Int) > 0)) = true then
 some (Sum.inr (Sum.inr (false, t8)))
 else
 let t12 := IntKind.i64.wrap (depth2 + 1);
 (r_chunk_looks_right e7.kids t12 t8).bind fun q13 =>
 let tr14 := q13.1;
 let tr15 := q13.2;
 (if (!tr14) = true then
 some (Sum.inr (Sum.inr (false, tr15)))
 else
 let t16 := IntKind.i64.wrap (v5 + 1);
 some (Sum.inl (t16, tr15)))))
 else
 (if (!decide (e7.kind = [])) = true then
 some (Sum.inr (Sum.inr (false, t8)))
 else
 (if (decide (((e7.kids.length : Nat) : Int) > 0)) = true then
 some (Sum.inr (Sum.inr (false, t8)))
 else
 let t17 := IntKind.i64.wrap (v5 + 1);
 some (Sum.inl (t17, t8)))))))
 else
 none)
 else
 some (Sum.inr (Sum.inl b6)))
theorem chunk_looks_right_loop2_F_le (fuel : Nat) (r_chunk_looks_right : (List Chunk) → Int → Int → Option (Bool × Int)) (h_chunk_looks_right : ∀ l1 depth2 b3, Ole (r_chunk_looks_right l1 depth2 b3) (chunk_looks_right l1 depth2 b3)) (l1 : List Chunk) (depth2 : Int) (s4 : Int × Int) : Ole (chunk_looks_right_loop2_F fuel r_chunk_looks_right l1 depth2 s4) (chunk_looks_right_loop2 l1 depth2 s4) := by
  unfold chunk_looks_right_loop2_F chunk_looks_right_loop2; try dsimp only
  repeat' first | with_reducible exact Ole.refl _ | refine Ole.ite ?_ ?_ | with_reducible exact chunk_isId_F_le .. | with_reducible exact chunk_isKind_F_le .. | with_reducible exact h_chunk_looks_right .. | refine Ole.iter fun _ => ?_ | refine Ole.elim (fun _ => ?_) (fun _ => ?_) | refine Ole.bind ?_ fun _ => ?_ | refine Ole.demD ?_ ?_
noncomputable def chunk_looks_right_B (fuel : Nat) (r_chunk_looks_right : (List Chunk) → Int → Int → Option (Bool × Int)) (l1 : List Chunk) (depth2 b3 : Int) : Option (Bool × Int) :=
 (iter (chunk_looks_right_loop2_F fuel r_chunk_looks_right l1 depth2) fuel (0, b3)).bind (fun o25 =>
 (Sum.elim (fun (b21 : Int) =>
 some (true, b21))
 (fun (p22 : Bool × Int) =>
 let v23 := p22.1;
 let b24 := p22.2;
 some (v23, b24)) o25))
theorem chunk_looks_right_B_le (fuel : Nat) (r_chunk_looks_right : (List Chunk) → Int → Int → Option (Bool × Int)) (h_chunk_looks_right : ∀ l1 depth2 b3, Ole (r_chunk_looks_right l1 depth2 b3) (chunk_looks_right l1 depth2 b3)) (l1 : List Chunk) (depth2 b3 : Int) : Ole (chunk_looks_right_B fuel r_chunk_looks_right l1 depth2 b3) (chunk_looks_right l1 depth2 b3) := by
  rw [chunk_looks_right_eq]; unfold chunk_looks_right_B; try dsimp only
  repeat' first | with_reducible exact Ole.refl _ | refine Ole.ite ?_ ?_ | with_reducible exact chunk_isId_F_le .. | with_reducible exact chunk_isKind_F_le .. | with_reducible exact h_chunk_looks_right .. | with_reducible exact chunk_looks_right_loop2_F_le fuel r_chunk_looks_right h_chunk_looks_right .. | refine Ole.iter fun _ => ?_ | refine Ole.elim (fun _ => ?_) (fun _ => ?_) | refine Ole.bind ?_ fun _ => ?_ | refine Ole.demD ?_ ?_
noncomputable def chunk_looks_right_R (fuel : Nat) : Nat → ((List Chunk) → Int → Int → Option (Bool × Int))
  | 0 => (fun l1 depth2 b3 => none)
  | n + 1 => (fun l1 depth2 b3 => chunk_looks_right_B fuel (chunk_looks_right_R fuel n) l1 depth2 b3)
theorem chunk_looks_right_R_le (fuel : Nat) : ∀ n, (∀ l1 depth2 b3, Ole (chunk_looks_right_R fuel n l1 depth2 b3) (chunk_looks_right l1 depth2 b3))
  | 0 => fun _ _ _ => Ole.none
  | n + 1 => fun l1 depth2 b3 => chunk_looks_right_B_le fuel (chunk_looks_right_R fuel n) (chunk_looks_right_R_le fuel n) l1 depth2 b3
noncomputable def chunk_looks_right_F (fuel : Nat) (l1 : List Chunk) (depth2 b3 : Int) : Option (Bool × Int) := chunk_looks_right_R fuel fuel l1 depth2 b3
theorem chunk_looks_right_F_le (fuel : Nat) (l1 : List Chunk) (depth2 b3 : Int) : Ole (chunk_looks_right_F fuel l1 depth2 b3) (chunk_looks_right l1 depth2 b3) := (chunk_looks_right_R_le fuel fuel) l1 depth2 b3
noncomputable def chunk_valid_F (fuel : Nat) (l1 : List Chunk) : Option Bool :=
 (chunk_looks_right_F fuel l1 1 0).bind fun q2 =>
 let tr3 := q2.1;
 let tr4 := q2.2;
 some tr3
theorem chunk_valid_F_le (fuel : Nat) (l1 : List Chunk) : Ole (chunk_valid_F fuel l1) (chunk_valid l1) := by
  rw [chunk_valid_eq]; unfold chunk_valid_F; try dsimp only
  repeat' first | with_reducible exact Ole.refl _ | refine Ole.ite ?_ ?_ | with_reducible exact chunk_looks_right_F_le .. | refine Ole.iter fun _ => ?_ | refine Ole.elim (fun _ => ?_) (fun _ => ?_) | refine Ole.bind ?_ fun _ => ?_ | refine Ole.demD ?_ ?_
noncomputable def chunk_Put_loop5_F (fuel : Nat) (l1 : List Chunk) (s3 : Int × Int) : Option ((Int × Int) ⊕ (Int)) :=
 let n4 := s3.1;
 let v5 := s3.2;
 (if (decide (v5 < ((l1.length : Nat) : Int))) = true then
 (if 0 ≤ v5 then
 (l1[v5.toNat]?).bind fun e6 =>
 (chunk_size_F fuel e6.id e6.kind e6.data e6.kids).bind fun q7 =>
 let t8 := IntKind.i64.wrap (n4 + q7);
 let t9 := IntKind.i64.wrap (v5 + 1);
 some (Sum.inl (t8, t9))
 else
 none)
 else
 some (Sum.inr n4))
theorem chunk_Put_loop5_F_le (fuel : Nat) (l1 : List Chunk) (s3 : Int × Int) : Ole (chunk_Put_loop5_F fuel l1 s3) (chunk_Put_loop5 l1 s3) := by
  unfold chunk_Put_loop5_F chunk_Put_loop5; try dsimp only
  repeat' first | with_reducible exact Ole.refl _ | refine Ole.ite ?_ ?_ | with_reducible exact chunk_put_F_le .. | with_reducible exact chunk_size_F_le .. | with_reducible exact chunk_valid_F_le .. | refine Ole.iter fun _ => ?_ | refine Ole.elim (fun _ => ?_) (fun _ => ?_) | refine Ole.bind ?_ fun _ => ?_ | refine Ole.demD ?_ ?_
noncomputable def chunk_Put_loop13_F (fuel : Nat) (l1 : List Chunk) (s14 : Int × (List Int)) : Option ((Int × (List Int)) ⊕ ((List Int))) :=
 let v15 := s14.1;
 let out16 := s14.2;
 (if (decide (v15 < ((l1.length : Nat) : Int))) = true then
 (if 0 ≤ v15 then
 (l1[v15.toNat]?).bind fun e17 =>
 (chunk_put_F fuel e17.id e17.kind e17.data e17.kids out16).bind fun q18 =>
 let t19 := IntKind.i64.wrap (v15 + 1);
 some (Sum.inl (t19, q18))
 else
 none)
 else
 some (Sum.inr out16))
theorem chunk_Put_loop13_F_le (fuel : Nat) (l1 : List Chunk) (s14 : Int × (List Int)) : Ole (chunk_Put_loop13_F fuel l1 s14) (chunk_Put_loop13 l1 s14) := by
  unfold chunk_Put_loop13_F chunk_Put_loop13; try dsimp only
  repeat' first | with_reducible exact Ole.refl _ | refine Ole.ite ?_ ?_ | with_reducible exact chunk_put_F_le .. | with_reducible exact chunk_size_F_le .. | with_reducible exact chunk_valid_F_le .. | with_reducible exact chunk_Put_loop5_F_le .. | refine Ole.iter fun _ => ?_ | refine Ole.elim (fun _ => ?_) (fun _ => ?_) | refine Ole.bind ?_ fun _ => ?_ | refine Ole.demD ?_ ?_
noncomputable def chunk_Put_F (fuel : Nat) (l1 : List Chunk) : Option ((List Int) × Int) :=
 (chunk_valid_F fuel l1).bind fun q2 =>
 (if (!q2) = true then
 some ([], 100)
 else
 (iter (chunk_Put_loop5_F fuel l1) fuel (0, 0)).bind (fun n13 =>
 (if (decide (n13 > 60000)) = true then
 some ([], 4)
 else
 (iter (chunk_Put_loop13_F fuel l1) fuel (0, [])).bind (fun out23 =>
 some (out23, 0)))))
theorem chunk_Put_F_le (fuel : Nat) (l1 : List Chunk) : Ole (chunk_Put_F fuel l1) (chunk_Put l1) := by
  rw [chunk_Put_eq]; unfold chunk_Put_F; try dsimp only
  repeat' first | with_reducible exact Ole.refl _ | refine Ole.ite ?_ ?_ | with_reducible exact chunk_put_F_le .. | with_reducible exact chunk_size_F_le .. | with_reducible exact chunk_valid_F_le .. | with_reducible exact chunk_Put_loop5_F_le .. | with_reducible exact chunk_Put_loop13_F_le .. | refine Ole.iter fun _ => ?_ | refine Ole.elim (fun _ => ?_) (fun _ => ?_) | refine Ole.bind ?_ fun _ => ?_ | refine Ole.demD ?_ ?_
noncomputable def book_put_loop6_F (fuel : Nat) (files4 : List File) (s8 : Int × (List Chunk) × (List Int) × (List Int) × (List Int)) : Option ((Int × (List Chunk) × (List Int) × (List Int) × (List Int)) ⊕ ((List Chunk) × (List Int) × (List Int) × (List Int))) :=
 let v9 := s8.1;
 let b10 := s8.2.1;
 let b11 := s8.2.2.1;
 let b12 := s8.2.2.2.1;
 let b13 := s8.2.2.2.2;
 (if (decide (v9 < ((files4.length : Nat) : Int))) = true then
 (if 0 ≤ v9 then
 (files4[v9.toNat]?).bind fun e14 =>
 (book_one_F fuel e14.name e14.kind e14.data).bind fun q15 =>
 let tr16 := q15.1;
 let tr17 := q15.2.1;
 let tr18 := q15.2.2.1;
 let tr19 := q15.2.2.2;
 (if (b10.length + ([(Chunk.mk tr16 tr17 tr18 tr19)] : List Chunk).length) * 80 ≤ 140737488355328 then
 let t20 : List Chunk := b10 ++ [(Chunk.mk tr16 tr17 tr18 tr19)];
 let t21 := IntKind.i64.wrap (v9 + 1);
 some (Sum.inl (t21, t20, b11, b12, b13))
 else
 none)
 else
 none)
 else
 some (Sum.inr (b10, b11, b12, b13)))
theorem book_put_loop6_F_le (fuel : Nat) (files4 : List File) (s8 : Int × (List Chunk) × (List Int) × (List Int) × (List Int)) : Ole (book_put_loop6_F fuel files4 s8) (book_put_loop6 files4 s8) := by
  unfold book_put_loop6_F book_put_loop6; try dsimp only
  repeat' first | with_reducible exact Ole.refl _ | refine Ole.ite ?_ ?_ | with_reducible exact book_Directory_F_le .. | with_reducible exact book_one_F_le .. | with_reducible exact chunk_Put_F_le .. | refine Ole.iter fun _ => ?_ | refine Ole.elim (fun _ => ?_) (fun _ => ?_) | refine Ole.bind ?_ fun _ => ?_ | refine Ole.demD ?_ ?_
noncomputable def book_put_F (fuel : Nat) (kind1 : List Int) (b2 : List File) (b3 : List Outline) (files4 : List File) : Option ((List Int) × Int) :=
 (book_Directory_F fuel b2 b3).bind fun q5 =>
 let tr6 := q5.1;
 let tr7 := q5.2;
 (if (!decide (tr7 = 0)) = true then
 some ([], tr7)
 else
 (iter (book_put_loop6_F fuel files4) fuel (0, [(Chunk.mk [68, 73, 82, 77] [] tr6 [])], [70, 79, 82, 77], kind1, [])).bind (fun p29 =>
 let b30 := p29.1;
 let b31 := p29.2.1;
 let b32 := p29.2.2.1;
 let b33 := p29.2.2.2;
 (chunk_Put_F fuel [(Chunk.mk b31 b32 b33 b30)]).bind fun q34 =>
 let tr35 := q34.1;
 let tr36 := q34.2;
 (if (!decide (tr36 = 0)) = true then
 some ([], 4)
 else
 some (tr35, 0))))
theorem book_put_F_le (fuel : Nat) (kind1 : List Int) (b2 : List File) (b3 : List Outline) (files4 : List File) : Ole (book_put_F fuel kind1 b2 b3 files4) (book_put kind1 b2 b3 files4) := by
  rw [book_put_eq]; unfold book_put_F; try dsimp only
  repeat' first | with_reducible exact Ole.refl _ | refine Ole.ite ?_ ?_ | with_reducible exact book_Directory_F_le .. | with_reducible exact book_one_F_le .. | with_reducible exact chunk_Put_F_le .. | with_reducible exact book_put_loop6_F_le .. | refine Ole.iter fun _ => ?_ | refine Ole.elim (fun _ => ?_) (fun _ => ?_) | refine Ole.bind ?_ fun _ => ?_ | refine Ole.demD ?_ ?_
noncomputable def book_Index_F (fuel : Nat) (b1 : List File) (b2 : List Outline) : Option ((List Int) × Int) :=
 (book_put_F fuel [66, 79, 79, 75] b1 b2 []).bind fun q3 =>
 let tr4 := q3.1;
 let tr5 := q3.2;
 some (tr4, tr5)
theorem book_Index_F_le (fuel : Nat) (b1 : List File) (b2 : List Outline) : Ole (book_Index_F fuel b1 b2) (book_Index b1 b2) := by
  rw [book_Index_eq]; unfold book_Index_F; try dsimp only
  repeat' first | with_reducible exact Ole.refl _ | refine Ole.ite ?_ ?_ | with_reducible exact book_put_F_le .. | refine Ole.iter fun _ => ?_ | refine Ole.elim (fun _ => ?_) (fun _ => ?_) | refine Ole.bind ?_ fun _ => ?_ | refine Ole.demD ?_ ?_
noncomputable def slices_Clone_byte_byte_F (fuel : Nat) (s1 : List Int) : Option (List Int) :=
 (if s1.length = 0 then
 (demD
 (some [])
 ((if (([] : List Int).length + s1.length) * 1 ≤ 140737488355328 then
 let t2 : List Int := ([] : List Int) ++ s1;
 some t2
 else
 none)))
 else
 (if (([] : List Int).length + s1.length) * 1 ≤ 140737488355328 then
 let t3 : List Int := ([] : List Int) ++ s1;
 some t3
 else
 none))
theorem slices_Clone_byte_byte_F_le (fuel : Nat) (s1 : List Int) : Ole (slices_Clone_byte_byte_F fuel s1) (slices_Clone_byte_byte s1) := by
  rw [slices_Clone_byte_byte_eq]; unfold slices_Clone_byte_byte_F; try dsimp only
  repeat' first | with_reducible exact Ole.refl _ | refine Ole.ite ?_ ?_ | refine Ole.iter fun _ => ?_ | refine Ole.elim (fun _ => ?_) (fun _ => ?_) | refine Ole.bind ?_ fun _ => ?_ | refine Ole.demD ?_ ?_
noncomputable def view_Serve_loop6_F (fuel : Nat) (b1 : List File) (name3 : List Int) (v8 : Int) : Option ((Int) ⊕ ((Unit) ⊕ ((List Int) × Int))) :=
 (if (decide (v8 < ((b1.length : Nat) : Int))) = true then
 (if 0 ≤ v8 then
 (b1[v8.toNat]?).bind fun e9 =>
 (if (decide (e9.name = name3)) = true then
 (slices_Clone_byte_byte_F fuel e9.data).bind fun q10 =>
 some (Sum.inr (Sum.inr (q10, 0)))
 else
 let t11 := IntKind.i64.wrap (v8 + 1);
 some (Sum.inl t11))
 else
 none)
 else
 some (Sum.inr (Sum.inl ())))
theorem view_Serve_loop6_F_le (fuel : Nat) (b1 : List File) (name3 : List Int) (v8 : Int) : Ole (view_Serve_loop6_F fuel b1 name3 v8) (view_Serve_loop6 b1 name3 v8) := by
  unfold view_Serve_loop6_F view_Serve_loop6; try dsimp only
  repeat' first | with_reducible exact Ole.refl _ | refine Ole.ite ?_ ?_ | with_reducible exact book_Index_F_le .. | with_reducible exact book_Valid_F_le .. | with_reducible exact slices_Clone_byte_byte_F_le .. | refine Ole.iter fun _ => ?_ | refine Ole.elim (fun _ => ?_) (fun _ => ?_) | refine Ole.bind ?_ fun _ => ?_ | refine Ole.demD ?_ ?_
noncomputable def view_Serve_F (fuel : Nat) (b1 : List File) (b2 : List Outline) (name3 : List Int) : Option ((List Int) × Int) :=
 (book_Valid_F fuel b1 b2).bind fun q4 =>
 (if (!q4) = true then
 some ([], 110)
 else
 (if (decide (name3 = [])) = true then
 (book_Index_F fuel b1 b2).bind fun q5 =>
 let tr6 := q5.1;
 let tr7 := q5.2;
 some (tr6, tr7)
 else
 (iter (view_Serve_loop6_F fuel b1 name3) fuel 0).bind (fun o19 =>
 (Sum.elim (fun (p15 : Unit) =>
 some ([], 5))
 (fun (p16 : (List Int) × Int) =>
 let v17 := p16.1;
 let v18 := p16.2;
 some (v17, v18)) o19))))
theorem view_Serve_F_le (fuel : Nat) (b1 : List File) (b2 : List Outline) (name3 : List Int) : Ole (view_Serve_F fuel b1 b2 name3) (view_Serve b1 b2 name3) := by
  rw [view_Serve_eq]; unfold view_Serve_F; try dsimp only
  repeat' first | with_reducible exact Ole.refl _ | refine Ole.ite ?_ ?_ | with_reducible exact book_Index_F_le .. | with_reducible exact book_Valid_F_le .. | with_reducible exact slices_Clone_byte_byte_F_le .. | with_reducible exact view_Serve_loop6_F_le .. | refine Ole.iter fun _ => ?_ | refine Ole.elim (fun _ => ?_) (fun _ => ?_) | refine Ole.bind ?_ fun _ => ?_ | refine Ole.demD ?_ ?_
noncomputable def view_Viewer_none_2_F (fuel : Nat) (b1 : Bool) (b2 : List Int) (b3 : Int) (b4 : List File) (b5 : List Int) : Option (Bool × Bool × (List Int) × Int × (List File) × (List Int)) :=
 some (!b1, b1, b2, b3, b4, b5)
theorem view_Viewer_none_2_F_le (fuel : Nat) (b1 : Bool) (b2 : List Int) (b3 : Int) (b4 : List File) (b5 : List Int) : Ole (view_Viewer_none_2_F fuel b1 b2 b3 b4 b5) (view_Viewer_none_2 b1 b2 b3 b4 b5) := by
  rw [view_Viewer_none_2_eq]; unfold view_Viewer_none_2_F; try dsimp only
  repeat' first | with_reducible exact Ole.refl _ | refine Ole.ite ?_ ?_ | refine Ole.iter fun _ => ?_ | refine Ole.elim (fun _ => ?_) (fun _ => ?_) | refine Ole.bind ?_ fun _ => ?_ | refine Ole.demD ?_ ?_
noncomputable def view_Viewer_Size_2_loop5_F (fuel : Nat) (tr9 tr12 : List Int) (s13 : Int × Int) : Option ((Int × Int) ⊕ (Int)) :=
 let n14 := s13.1;
 let v15 := s13.2;
 (if (decide (v15 < ((tr12.length : Nat) : Int))) = true then
 (if 0 ≤ v15 ∧ v15 < (tr12.length : Int) then
 let t16 : Int := rd tr12 v15;
 (if 0 ≤ t16 ∧ t16 < (tr9.length : Int) then
 let t17 := IntKind.i64.wrap (n14 + rd tr9 t16);
 let t18 := IntKind.i64.wrap (v15 + 1);
 some (Sum.inl (t17, t18))
 else
 none)
 else
 none)
 else
 some (Sum.inr n14))
theorem view_Viewer_Size_2_loop5_F_le (fuel : Nat) (tr9 tr12 : List Int) (s13 : Int × Int) : Ole (view_Viewer_Size_2_loop5_F fuel tr9 tr12 s13) (view_Viewer_Size_2_loop5 tr9 tr12 s13) := by
  unfold view_Viewer_Size_2_loop5_F view_Viewer_Size_2_loop5; try dsimp only
  repeat' first | with_reducible exact Ole.refl _ | refine Ole.ite ?_ ?_ | with_reducible exact view_Viewer_none_2_F_le .. | refine Ole.iter fun _ => ?_ | refine Ole.elim (fun _ => ?_) (fun _ => ?_) | refine Ole.bind ?_ fun _ => ?_ | refine Ole.demD ?_ ?_
noncomputable def view_Viewer_Size_2_F (fuel : Nat) (b1 : Bool) (b2 : List Int) (b3 : Int) (b4 : List File) (b5 : List Int) : Option (Int × Bool × (List Int) × Int × (List File) × (List Int)) :=
 (view_Viewer_none_2_F fuel b1 b2 b3 b4 b5).bind fun q6 =>
 let tr7 := q6.1;
 let tr8 := q6.2.1;
 let tr9 := q6.2.2.1;
 let tr10 := q6.2.2.2.1;
 let tr11 := q6.2.2.2.2.1;
 let tr12 := q6.2.2.2.2.2;
 (if tr7 = true then
 some (0, tr8, tr9, tr10, tr11, tr12)
 else
 (iter (view_Viewer_Size_2_loop5_F fuel tr9 tr12) fuel (0, 0)).bind (fun n22 =>
 some (n22, tr8, tr9, tr10, tr11, tr12)))
theorem view_Viewer_Size_2_F_le (fuel : Nat) (b1 : Bool) (b2 : List Int) (b3 : Int) (b4 : List File) (b5 : List Int) : Ole (view_Viewer_Size_2_F fuel b1 b2 b3 b4 b5) (view_Viewer_Size_2 b1 b2 b3 b4 b5) := by
  rw [view_Viewer_Size_2_eq]; unfold view_Viewer_Size_2_F; try dsimp only
  repeat' first | with_reducible exact Ole.refl _ | refine Ole.ite ?_ ?_ | with_reducible exact view_Viewer_none_2_F_le .. | with_reducible exact view_Viewer_Size_2_loop5_F_le .. | refine Ole.iter fun _ => ?_ | refine Ole.elim (fun _ => ?_) (fun _ => ?_) | refine Ole.bind ?_ fun _ => ?_ | refine Ole.demD ?_ ?_
noncomputable def view_Viewer_find_1_F (fuel : Nat) (f1 : List Int) (f2 : Int) (f3 b4 : List Int) : Option (Bool × (List Int)) :=
 some (decide (f1 = b4), b4)
theorem view_Viewer_find_1_F_le (fuel : Nat) (f1 : List Int) (f2 : Int) (f3 b4 : List Int) : Ole (view_Viewer_find_1_F fuel f1 f2 f3 b4) (view_Viewer_find_1 f1 f2 f3 b4) := by
  rw [view_Viewer_find_1_eq]; unfold view_Viewer_find_1_F; try dsimp only
  repeat' first | with_reducible exact Ole.refl _ | refine Ole.ite ?_ ?_ | refine Ole.iter fun _ => ?_ | refine Ole.elim (fun _ => ?_) (fun _ => ?_) | refine Ole.bind ?_ fun _ => ?_ | refine Ole.demD ?_ ?_
noncomputable def slices_IndexFunc_api_File_api_File_loop2_F (fuel : Nat) (s1 : List File) (s3 : Int × (List Int)) : Option ((Int × (List Int)) ⊕ (((List Int)) ⊕ (Int × (List Int)))) :=
 let v4 := s3.1;
 let b5 := s3.2;
 (if (decide (v4 < ((s1.length : Nat) : Int))) = true then
 (if 0 ≤ v4 then
 (s1[v4.toNat]?).bind fun e6 =>
 (view_Viewer_find_1_F fuel e6.name e6.kind e6.data b5).bind fun q7 =>
 let tr8 := q7.1;
 let tr9 := q7.2;
 (if tr8 = true then
 some (Sum.inr (Sum.inr (v4, tr9)))
 else
 let t10 := IntKind.i64.wrap (v4 + 1);
 some (Sum.inl (t10, tr9)))
 else
 none)
 else
 some (Sum.inr (Sum.inl b5)))
theorem slices_IndexFunc_api_File_api_File_loop2_F_le (fuel : Nat) (s1 : List File) (s3 : Int × (List Int)) : Ole (slices_IndexFunc_api_File_api_File_loop2_F fuel s1 s3) (slices_IndexFunc_api_File_api_File_loop2 s1 s3) := by
  unfold slices_IndexFunc_api_File_api_File_loop2_F slices_IndexFunc_api_File_api_File_loop2; try dsimp only
  repeat' first | with_reducible exact Ole.refl _ | refine Ole.ite ?_ ?_ | with_reducible exact view_Viewer_find_1_F_le .. | refine Ole.iter fun _ => ?_ | refine Ole.elim (fun _ => ?_) (fun _ => ?_) | refine Ole.bind ?_ fun _ => ?_ | refine Ole.demD ?_ ?_
noncomputable def slices_IndexFunc_api_File_api_File_F (fuel : Nat) (s1 : List File) (b2 : List Int) : Option (Int × (List Int)) :=
 (iter (slices_IndexFunc_api_File_api_File_loop2_F fuel s1) fuel (0, b2)).bind (fun o18 =>
 (Sum.elim (fun (b14 : (List Int)) =>
 some ((-1), b14))
 (fun (p15 : Int × (List Int)) =>
 let v16 := p15.1;
 let b17 := p15.2;
 some (v16, b17)) o18))
theorem slices_IndexFunc_api_File_api_File_F_le (fuel : Nat) (s1 : List File) (b2 : List Int) : Ole (slices_IndexFunc_api_File_api_File_F fuel s1 b2) (slices_IndexFunc_api_File_api_File s1 b2) := by
  rw [slices_IndexFunc_api_File_api_File_eq]; unfold slices_IndexFunc_api_File_api_File_F; try dsimp only
  repeat' first | with_reducible exact Ole.refl _ | refine Ole.ite ?_ ?_ | with_reducible exact view_Viewer_find_1_F_le .. | with_reducible exact slices_IndexFunc_api_File_api_File_loop2_F_le .. | refine Ole.iter fun _ => ?_ | refine Ole.elim (fun _ => ?_) (fun _ => ?_) | refine Ole.bind ?_ fun _ => ?_ | refine Ole.demD ?_ ?_
noncomputable def view_Viewer_find_F (fuel : Nat) (name1 : List Int) (b2 : Bool) (b3 : List Int) (b4 : Int) (b5 : List File) (b6 : List Int) : Option (Int × Bool × (List Int) × Int × (List File) × (List Int)) :=
 (slices_IndexFunc_api_File_api_File_F fuel b5 name1).bind fun q7 =>
 let tr8 := q7.1;
 let tr9 := q7.2;
 some (tr8, b2, b3, b4, b5, b6)
theorem view_Viewer_find_F_le (fuel : Nat) (name1 : List Int) (b2 : Bool) (b3 : List Int) (b4 : Int) (b5 : List File) (b6 : List Int) : Ole (view_Viewer_find_F fuel name1 b2 b3 b4 b5 b6) (view_Viewer_find name1 b2 b3 b4 b5 b6) := by
  rw [view_Viewer_find_eq]; unfold view_Viewer_find_F; try dsimp only
  repeat' first | with_reducible exact Ole.refl _ | refine Ole.ite ?_ ?_ | with_reducible exact slices_IndexFunc_api_File_api_File_F_le .. | refine Ole.iter fun _ => ?_ | refine Ole.elim (fun _ => ?_) (fun _ => ?_) | refine Ole.bind ?_ fun _ => ?_ | refine Ole.demD ?_ ?_
noncomputable def view_Viewer_latest_1_F (fuel : Nat) (k1 b2 : Int) : Option (Bool × Int) :=
 some (decide (k1 = b2), b2)
theorem view_Viewer_latest_1_F_le (fuel : Nat) (k1 b2 : Int) : Ole (view_Viewer_latest_1_F fuel k1 b2) (view_Viewer_latest_1 k1 b2) := by
  rw [view_Viewer_latest_1_eq]; unfold view_Viewer_latest_1_F; try dsimp only
  repeat' first | with_reducible exact Ole.refl _ | refine Ole.ite ?_ ?_ | refine Ole.iter fun _ => ?_ | refine Ole.elim (fun _ => ?_) (fun _ => ?_) | refine Ole.bind ?_ fun _ => ?_ | refine Ole.demD ?_ ?_
noncomputable def slices_IndexFunc_int_int_loop2_F (fuel : Nat) (s1 : List Int) (s3 : Int × Int) : Option ((Int × Int) ⊕ ((Int) ⊕ (Int × Int))) :=
 let v4 := s3.1;
 let b5 := s3.2;
 (if (decide (v4 < ((s1.length : Nat) : Int))) = true then
 (if 0 ≤ v4 ∧ v4 < (s1.length : Int) then
 (view_Viewer_latest_1_F fuel (rd s1 v4) b5).bind fun q6 =>
 let tr7 := q6.1;
 let tr8 := q6.2;
 (if tr7 = true then
 some (Sum.inr (Sum.inr (v4, tr8)))
 else
 let t9 := IntKind.i64.wrap (v4 + 1);
 some (Sum.inl (t9, tr8)))
 else
 none)
 else
 some (Sum.inr (Sum.inl b5)))
theorem slices_IndexFunc_int_int_loop2_F_le (fuel : Nat) (s1 : List Int) (s3 : Int × Int) : Ole (slices_IndexFunc_int_int_loop2_F fuel s1 s3) (slices_IndexFunc_int_int_loop2 s1 s3) := by
  unfold slices_IndexFunc_int_int_loop2_F slices_IndexFunc_int_int_loop2; try dsimp only
  repeat' first | with_reducible exact Ole.refl _ | refine Ole.ite ?_ ?_ | with_reducible exact view_Viewer_latest_1_F_le .. | refine Ole.iter fun _ => ?_ | refine Ole.elim (fun _ => ?_) (fun _ => ?_) | refine Ole.bind ?_ fun _ => ?_ | refine Ole.demD ?_ ?_
noncomputable def slices_IndexFunc_int_int_F (fuel : Nat) (s1 : List Int) (b2 : Int) : Option (Int × Int) :=
 (iter (slices_IndexFunc_int_int_loop2_F fuel s1) fuel (0, b2)).bind (fun o17 =>
 (Sum.elim (fun (b13 : Int) =>
 some ((-1), b13))
 (fun (p14 : Int × Int) =>
 let v15 := p14.1;
 let b16 := p14.2;
 some (v15, b16)) o17))
theorem slices_IndexFunc_int_int_F_le (fuel : Nat) (s1 : List Int) (b2 : Int) : Ole (slices_IndexFunc_int_int_F fuel s1 b2) (slices_IndexFunc_int_int s1 b2) := by
  rw [slices_IndexFunc_int_int_eq]; unfold slices_IndexFunc_int_int_F; try dsimp only
  repeat' first | with_reducible exact Ole.refl _ | refine Ole.ite ?_ ?_ | with_reducible exact view_Viewer_latest_1_F_le .. | with_reducible exact slices_IndexFunc_int_int_loop2_F_le .. | refine Ole.iter fun _ => ?_ | refine Ole.elim (fun _ => ?_) (fun _ => ?_) | refine Ole.bind ?_ fun _ => ?_ | refine Ole.demD ?_ ?_
noncomputable def slices_DeleteFunc_int_int_loop5_F (fuel : Nat) (s7 : Int × Int × (List Int) × Int) : Option ((Int × Int × (List Int) × Int) ⊕ (Int × (List Int) × Int)) :=
 let i8 := s7.1;
 let j9 := s7.2.1;
 let b10 := s7.2.2.1;
 let b11 := s7.2.2.2;
 (if (decide (j9 < ((b10.length : Nat) : Int))) = true then
 (if 0 ≤ j9 ∧ j9 < (b10.length : Int) then
 let t12 : Int := rd b10 j9;
 (view_Viewer_latest_1_F fuel t12 b11).bind fun q13 =>
 let tr14 := q13.1;
 let tr15 := q13.2;
 (if (!tr14) = true then
 (if 0 ≤ i8 ∧ i8 < (b10.length : Int) then
 let w16 : List Int := b10.set i8.toNat t12;
 let t17 := IntKind.i64.wrap (i8 + 1);
 let t18 := IntKind.i64.wrap (j9 + 1);
 some (Sum.inl (t17, t18, w16, tr15))
 else
 none)
 else
 let t19 := IntKind.i64.wrap (j9 + 1);
 some (Sum.inl (i8, t19, b10, tr15)))
 else
 none)
 else
 some (Sum.inr (i8, b10, b11)))
theorem slices_DeleteFunc_int_int_loop5_F_le (fuel : Nat) (s7 : Int × Int × (List Int) × Int) : Ole (slices_DeleteFunc_int_int_loop5_F fuel s7) (slices_DeleteFunc_int_int_loop5 s7) := by
  unfold slices_DeleteFunc_int_int_loop5_F slices_DeleteFunc_int_int_loop5; try dsimp only
  repeat' first | with_reducible exact Ole.refl _ | refine Ole.ite ?_ ?_ | with_reducible exact slices_IndexFunc_int_int_F_le .. | with_reducible exact view_Viewer_latest_1_F_le .. | refine Ole.iter fun _ => ?_ | refine Ole.elim (fun _ => ?_) (fun _ => ?_) | refine Ole.bind ?_ fun _ => ?_ | refine Ole.demD ?_ ?_
noncomputable def slices_DeleteFunc_int_int_F (fuel : Nat) (b1 : List Int) (b2 : Int) : Option ((List Int) × Int) :=
 (slices_IndexFunc_int_int_F fuel b1 b2).bind fun q3 =>
 let tr4 := q3.1;
 let tr5 := q3.2;
 (if (decide (tr4 = (-1))) = true then
 some (b1, tr5)
 else
 let t6 := IntKind.i64.wrap (tr4 + 1);
 (iter (slices_DeleteFunc_int_int_loop5_F fuel) fuel (tr4, t6, b1, tr5)).bind (fun p20 =>
 let i21 := p20.1;
 let b22 := p20.2.1;
 let b23 := p20.2.2;
 (if 0 ≤ i21 ∧ i21 ≤ ((b22.length : Nat) : Int) then
 none
 else
 none)))
theorem slices_DeleteFunc_int_int_F_le (fuel : Nat) (b1 : List Int) (b2 : Int) : Ole (slices_DeleteFunc_int_int_F fuel b1 b2) (slices_DeleteFunc_int_int b1 b2) := by
  rw [slices_DeleteFunc_int_int_eq]; unfold slices_DeleteFunc_int_int_F; try dsimp only
  repeat' first | with_reducible exact Ole.refl _ | refine Ole.ite ?_ ?_ | with_reducible exact slices_IndexFunc_int_int_F_le .. | with_reducible exact view_Viewer_latest_1_F_le .. | with_reducible exact slices_DeleteFunc_int_int_loop5_F_le .. | refine Ole.iter fun _ => ?_ | refine Ole.elim (fun _ => ?_) (fun _ => ?_) | refine Ole.bind ?_ fun _ => ?_ | refine Ole.demD ?_ ?_
noncomputable def view_Viewer_latest_F (fuel : Nat) (i1 : Int) (b2 : Bool) (b3 : List Int) (b4 : Int) (b5 : List File) (b6 : List Int) : Option (Bool × (List Int) × Int × (List File) × (List Int)) :=
 (slices_DeleteFunc_int_int_F fuel b6 i1).bind fun q7 =>
 let tr8 := q7.1;
 let tr9 := q7.2;
 (if (tr8.length + ([tr9] : List Int).length) * 8 ≤ 140737488355328 then
 let t10 : List Int := tr8 ++ [tr9];
 some (b2, b3, b4, b5, t10)
 else
 none)
theorem view_Viewer_latest_F_le (fuel : Nat) (i1 : Int) (b2 : Bool) (b3 : List Int) (b4 : Int) (b5 : List File) (b6 : List Int) : Ole (view_Viewer_latest_F fuel i1 b2 b3 b4 b5 b6) (view_Viewer_latest i1 b2 b3 b4 b5 b6) := by
  rw [view_Viewer_latest_eq]; unfold view_Viewer_latest_F; try dsimp only
  repeat' first | with_reducible exact Ole.refl _ | refine Ole.ite ?_ ?_ | with_reducible exact slices_DeleteFunc_int_int_F_le .. | refine Ole.iter fun _ => ?_ | refine Ole.elim (fun _ => ?_) (fun _ => ?_) | refine Ole.bind ?_ fun _ => ?_ | refine Ole.demD ?_ ?_
noncomputable def view_Viewer_Arrive_loop10_F (fuel : Nat) (s31 : Bool × (List Int) × Int × (List File) × (List Int)) : Option ((Bool × (List Int) × Int × (List File) × (List Int)) ⊕ (Bool × (List Int) × Int × (List File) × (List Int))) :=
 let b32 := s31.1;
 let b33 := s31.2.1;
 let b34 := s31.2.2.1;
 let b35 := s31.2.2.2.1;
 let b36 := s31.2.2.2.2;
 ((demD
 ((view_Viewer_Size_2_F fuel b32 b33 b34 b35 b36).bind fun q37 =>
 let tr38 := q37.1;
 let tr39 := q37.2.1;
 let tr40 := q37.2.2.1;
 let tr41 := q37.2.2.2.1;
 let tr42 := q37.2.2.2.2.1;
 let tr43 := q37.2.2.2.2.2;
 some (decide (tr38 > tr41), tr39, tr40, tr41, tr42, tr43))
 ((view_Viewer_Size_2_F fuel b32 b33 b34 b35 b36).bind fun q44 =>
 let tr45 := q44.1;
 let tr46 := q44.2.1;
 let tr47 := q44.2.2.1;
 let tr48 := q44.2.2.2.1;
 let tr49 := q44.2.2.2.2.1;
 let tr50 := q44.2.2.2.2.2;
 some (decide (tr45 > b34), tr46, tr47, tr48, tr49, tr50))) : Option (Bool × Bool × (List Int) × Int × (List File) × (List Int))).bind (fun p51 =>
 let v52 := p51.1;
 let b53 := p51.2.1;
 let b54 := p51.2.2.1;
 let b55 := p51.2.2.2.1;
 let b56 := p51.2.2.2.2.1;
 let b57 := p51.2.2.2.2.2;
 (if v52 = true then
 (if 0 ≤ (0 : Int) ∧ (0 : Int) < (b57.length : Int) then
 let t58 : Int := rd b57 0;
 (if 0 ≤ t58 ∧ t58 < (b56.length : Int) then
 (b56[t58.toNat]?).bind fun e59 =>
 let w60 : List File := b56.set t58.toNat (File.mk e59.name e59.kind []);
 (if 0 ≤ (1 : Int) ∧ (1 : Int) ≤ ((b57.length : Nat) : Int) then
 let t61 : List Int := cutL b57 ((1 : Int).toNat) b57.length;
 some (Sum.inl (b53, b54, b55, w60, t61))
 else
 none)
 else
 none)
 else
 none)
 else
 some (Sum.inr (b53, b54, b55, b56, b57))))
theorem view_Viewer_Arrive_loop10_F_le (fuel : Nat) (s31 : Bool × (List Int) × Int × (List File) × (List Int)) : Ole (view_Viewer_Arrive_loop10_F fuel s31) (view_Viewer_Arrive_loop10 s31) := by
  unfold view_Viewer_Arrive_loop10_F view_Viewer_Arrive_loop10; try dsimp only
  repeat' first | with_reducible exact Ole.refl _ | refine Ole.ite ?_ ?_ | with_reducible exact slices_Clone_byte_byte_F_le .. | with_reducible exact view_Viewer_Size_2_F_le .. | with_reducible exact view_Viewer_find_F_le .. | with_reducible exact view_Viewer_latest_F_le .. | with_reducible exact view_Viewer_none_2_F_le .. | refine Ole.iter fun _ => ?_ | refine Ole.elim (fun _ => ?_) (fun _ => ?_) | refine Ole.bind ?_ fun _ => ?_ | refine Ole.demD ?_ ?_
noncomputable def view_Viewer_Arrive_F (fuel : Nat) (name1 data2 : List Int) (b3 : Bool) (b4 : List Int) (b5 : Int) (b6 : List File) (b7 : List Int) : Option (Int × Bool × (List Int) × Int × (List File) × (List Int)) :=
 (view_Viewer_none_2_F fuel b3 b4 b5 b6 b7).bind fun q8 =>
 let tr9 := q8.1;
 let tr10 := q8.2.1;
 let tr11 := q8.2.2.1;
 let tr12 := q8.2.2.2.1;
 let tr13 := q8.2.2.2.2.1;
 let tr14 := q8.2.2.2.2.2;
 (if tr9 = true then
 some (7, tr10, tr11, tr12, tr13, tr14)
 else
 (view_Viewer_find_F fuel name1 tr10 tr11 tr12 tr13 tr14).bind fun q15 =>
 let tr16 := q15.1;
 let tr17 := q15.2.1;
 let tr18 := q15.2.2.1;
 let tr19 := q15.2.2.2.1;
 let tr20 := q15.2.2.2.2.1;
 let tr21 := q15.2.2.2.2.2;
 (if (decide (tr16 < 0)) = true then
 some (5, tr17, tr18, tr19, tr20, tr21)
 else
 (if 0 ≤ tr16 ∧ tr16 < (tr18.length : Int) then
 (if (!decide (((data2.length : Nat) : Int) = rd tr18 tr16)) = true then
 some (110, tr17, tr18, tr19, tr20, tr21)
 else
 (slices_Clone_byte_byte_F fuel data2).bind fun q22 =>
 (if 0 ≤ tr16 ∧ tr16 < (tr20.length : Int) then
 (tr20[tr16.toNat]?).bind fun e23 =>
 let w24 : List File := tr20.set tr16.toNat (File.mk e23.name e23.kind q22);
 (view_Viewer_latest_F fuel tr16 tr17 tr18 tr19 w24 tr21).bind fun q25 =>
 let tr26 := q25.1;
 let tr27 := q25.2.1;
 let tr28 := q25.2.2.1;
 let tr29 := q25.2.2.2.1;
 let tr30 := q25.2.2.2.2;
 (iter (view_Viewer_Arrive_loop10_F fuel) fuel (tr26, tr27, tr28, tr29, tr30)).bind (fun p62 =>
 let b63 := p62.1;
 let b64 := p62.2.1;
 let b65 := p62.2.2.1;
 let b66 := p62.2.2.2.1;
 let b67 := p62.2.2.2.2;
 some (0, b63, b64, b65, b66, b67))
 else
 none))
 else
 none)))
theorem view_Viewer_Arrive_F_le (fuel : Nat) (name1 data2 : List Int) (b3 : Bool) (b4 : List Int) (b5 : Int) (b6 : List File) (b7 : List Int) : Ole (view_Viewer_Arrive_F fuel name1 data2 b3 b4 b5 b6 b7) (view_Viewer_Arrive name1 data2 b3 b4 b5 b6 b7) := by
  rw [view_Viewer_Arrive_eq]; unfold view_Viewer_Arrive_F; try dsimp only
  repeat' first | with_reducible exact Ole.refl _ | refine Ole.ite ?_ ?_ | with_reducible exact slices_Clone_byte_byte_F_le .. | with_reducible exact view_Viewer_Size_2_F_le .. | with_reducible exact view_Viewer_find_F_le .. | with_reducible exact view_Viewer_latest_F_le .. | with_reducible exact view_Viewer_none_2_F_le .. | with_reducible exact view_Viewer_Arrive_loop10_F_le .. | refine Ole.iter fun _ => ?_ | refine Ole.elim (fun _ => ?_) (fun _ => ?_) | refine Ole.bind ?_ fun _ => ?_ | refine Ole.demD ?_ ?_
noncomputable def view_Viewer_Pages_2_loop5_F (fuel : Nat) (tr11 : List File) (s13 : Int × Int) : Option ((Int × Int) ⊕ (Int)) :=
 let n14 := s13.1;
 let v15 := s13.2;
 (if (decide (v15 < ((tr11.length : Nat) : Int))) = true then
 (if 0 ≤ v15 ∧ v15 < (tr11.length : Int) then
 (tr11[v15.toNat]?).bind fun e16 =>
 (if (decide (e16.kind = 0)) = true then
 let t17 := IntKind.i64.wrap (n14 + 1);
 let t18 := IntKind.i64.wrap (v15 + 1);
 some (Sum.inl (t17, t18))
 else
 let t19 := IntKind.i64.wrap (v15 + 1);
 some (Sum.inl (n14, t19)))
 else
 none)
 else
 some (Sum.inr n14))
theorem view_Viewer_Pages_2_loop5_F_le (fuel : Nat) (tr11 : List File) (s13 : Int × Int) : Ole (view_Viewer_Pages_2_loop5_F fuel tr11 s13) (view_Viewer_Pages_2_loop5 tr11 s13) := by
  unfold view_Viewer_Pages_2_loop5_F view_Viewer_Pages_2_loop5; try dsimp only
  repeat' first | with_reducible exact Ole.refl _ | refine Ole.ite ?_ ?_ | with_reducible exact view_Viewer_none_2_F_le .. | refine Ole.iter fun _ => ?_ | refine Ole.elim (fun _ => ?_) (fun _ => ?_) | refine Ole.bind ?_ fun _ => ?_ | refine Ole.demD ?_ ?_
noncomputable def view_Viewer_Pages_2_F (fuel : Nat) (b1 : Bool) (b2 : List Int) (b3 : Int) (b4 : List File) (b5 : List Int) : Option (Int × Bool × (List Int) × Int × (List File) × (List Int)) :=
 (view_Viewer_none_2_F fuel b1 b2 b3 b4 b5).bind fun q6 =>
 let tr7 := q6.1;
 let tr8 := q6.2.1;
 let tr9 := q6.2.2.1;
 let tr10 := q6.2.2.2.1;
 let tr11 := q6.2.2.2.2.1;
 let tr12 := q6.2.2.2.2.2;
 (if tr7 = true then
 some (0, tr8, tr9, tr10, tr11, tr12)
 else
 (iter (view_Viewer_Pages_2_loop5_F fuel tr11) fuel (0, 0)).bind (fun n23 =>
 some (n23, tr8, tr9, tr10, tr11, tr12)))
theorem view_Viewer_Pages_2_F_le (fuel : Nat) (b1 : Bool) (b2 : List Int) (b3 : Int) (b4 : List File) (b5 : List Int) : Ole (view_Viewer_Pages_2_F fuel b1 b2 b3 b4 b5) (view_Viewer_Pages_2 b1 b2 b3 b4 b5) := by
  rw [view_Viewer_Pages_2_eq]; unfold view_Viewer_Pages_2_F; try dsimp only
  repeat' first | with_reducible exact Ole.refl _ | refine Ole.ite ?_ ?_ | with_reducible exact view_Viewer_none_2_F_le .. | with_reducible exact view_Viewer_Pages_2_loop5_F_le .. | refine Ole.iter fun _ => ?_ | refine Ole.elim (fun _ => ?_) (fun _ => ?_) | refine Ole.bind ?_ fun _ => ?_ | refine Ole.demD ?_ ?_
noncomputable def view_Viewer_Stored_2_loop5_F (fuel : Nat) (tr11 : List File) (tr12 : List Int) (s13 : Int × (List (List Int))) : Option ((Int × (List (List Int))) ⊕ ((List (List Int)))) :=
 let v14 := s13.1;
 let out15 := s13.2;
 (if (decide (v14 < ((tr12.length : Nat) : Int))) = true then
 (if 0 ≤ v14 ∧ v14 < (tr12.length : Int) then
 let t16 : Int := rd tr12 v14;
 (if 0 ≤ t16 ∧ t16 < (tr11.length : Int) then
 (tr11[t16.toNat]?).bind fun e17 =>
 (if (out15.length + ([e17.name] : List (List Int)).length) * 16 ≤ 140737488355328 then
 let t18 : List (List Int) := out15 ++ [e17.name];
 let t19 := IntKind.i64.wrap (v14 + 1);
 some (Sum.inl (t19, t18))
 else
 none)
 else
 none)
 else
 none)
 else
 some (Sum.inr out15))
theorem view_Viewer_Stored_2_loop5_F_le (fuel : Nat) (tr11 : List File) (tr12 : List Int) (s13 : Int × (List (List Int))) : Ole (view_Viewer_Stored_2_loop5_F fuel tr11 tr12 s13) (view_Viewer_Stored_2_loop5 tr11 tr12 s13) := by
  unfold view_Viewer_Stored_2_loop5_F view_Viewer_Stored_2_loop5; try dsimp only
  repeat' first | with_reducible exact Ole.refl _ | refine Ole.ite ?_ ?_ | with_reducible exact view_Viewer_none_2_F_le .. | refine Ole.iter fun _ => ?_ | refine Ole.elim (fun _ => ?_) (fun _ => ?_) | refine Ole.bind ?_ fun _ => ?_ | refine Ole.demD ?_ ?_
noncomputable def view_Viewer_Stored_2_F (fuel : Nat) (b1 : Bool) (b2 : List Int) (b3 : Int) (b4 : List File) (b5 : List Int) : Option ((List (List Int)) × Bool × (List Int) × Int × (List File) × (List Int)) :=
 (view_Viewer_none_2_F fuel b1 b2 b3 b4 b5).bind fun q6 =>
 let tr7 := q6.1;
 let tr8 := q6.2.1;
 let tr9 := q6.2.2.1;
 let tr10 := q6.2.2.2.1;
 let tr11 := q6.2.2.2.2.1;
 let tr12 := q6.2.2.2.2.2;
 (if tr7 = true then
 some ([], tr8, tr9, tr10, tr11, tr12)
 else
 (iter (view_Viewer_Stored_2_loop5_F fuel tr11 tr12) fuel (0, [])).bind (fun out23 =>
 some (out23, tr8, tr9, tr10, tr11, tr12)))
theorem view_Viewer_Stored_2_F_le (fuel : Nat) (b1 : Bool) (b2 : List Int) (b3 : Int) (b4 : List File) (b5 : List Int) : Ole (view_Viewer_Stored_2_F fuel b1 b2 b3 b4 b5) (view_Viewer_Stored_2 b1 b2 b3 b4 b5) := by
  rw [view_Viewer_Stored_2_eq]; unfold view_Viewer_Stored_2_F; try dsimp only
  repeat' first | with_reducible exact Ole.refl _ | refine Ole.ite ?_ ?_ | with_reducible exact view_Viewer_none_2_F_le .. | with_reducible exact view_Viewer_Stored_2_loop5_F_le .. | refine Ole.iter fun _ => ?_ | refine Ole.elim (fun _ => ?_) (fun _ => ?_) | refine Ole.bind ?_ fun _ => ?_ | refine Ole.demD ?_ ?_
noncomputable def law28_Awake_F (fuel : Nat) : Option Bool :=
 (if 0 < ([120, 121] : List Int).length then
 (view_Serve_F fuel [(File.mk [97] 2 [120, 121])] [] []).bind fun q1 =>
 let tr2 := q1.1;
 let tr3 := q1.2;
 ((view_New_F fuel tr2 10).bind fun o11 =>
 (Sum.elim (fun (q4 : Bool × (List Int) × Int × (List File) × (List Int)) =>
 let tr5 := q4.1;
 let tr6 := q4.2.1;
 let tr7 := q4.2.2.1;
 let tr8 := q4.2.2.2.1;
 let tr9 := q4.2.2.2.2;
 some (0, tr5, tr6, tr7, tr8, tr9))
 (fun (q10 : Int) =>
 none) o11) : Option (Int × Bool × (List Int) × Int × (List File) × (List Int))).bind (fun p12 =>
 let f13 := p12.1;
 let b14 := p12.2.1;
 let b15 := p12.2.2.1;
 let b16 := p12.2.2.2.1;
 let b17 := p12.2.2.2.2.1;
 let b18 := p12.2.2.2.2.2;
 ((if (!decide (tr3 = 0)) = true then
 some true
 else
 some (!decide (f13 = 0))) : Option (Bool)).bind (fun v19 =>
 (if v19 = true then
 some false
 else
 (if 0 < ([120, 121] : List Int).length then
 (view_Viewer_Arrive_F fuel [97] [120, 121] b14 b15 b16 b17 b18).bind fun q20 =>
 let tr21 := q20.1;
 let tr22 := q20.2.1;
 let tr23 := q20.2.2.1;
 let tr24 := q20.2.2.2.1;
 let tr25 := q20.2.2.2.2.1;
 let tr26 := q20.2.2.2.2.2;
 (if (decide (tr21 = 0)) = true then
 (view_Viewer_Size_2_F fuel tr22 tr23 tr24 tr25 tr26).bind fun q27 =>
 let tr28 := q27.1;
 let tr29 := q27.2.1;
 let tr30 := q27.2.2.1;
 let tr31 := q27.2.2.2.1;
 let tr32 := q27.2.2.2.2.1;
 let tr33 := q27.2.2.2.2.2;
 (if (decide (tr28 = 2)) = true then
 (view_Viewer_Pages_2_F fuel tr29 tr30 tr31 tr32 tr33).bind fun q34 =>
 let tr35 := q34.1;
 let tr36 := q34.2.1;
 let tr37 := q34.2.2.1;
 let tr38 := q34.2.2.2.1;
 let tr39 := q34.2.2.2.2.1;
 let tr40 := q34.2.2.2.2.2;
 (if (decide (tr35 = 0)) = true then
 (view_Viewer_Stored_2_F fuel tr36 tr37 tr38 tr39 tr40).bind fun q41 =>
 let tr42 := q41.1;
 let tr43 := q41.2.1;
 let tr44 := q41.2.2.1;
 let tr45 := q41.2.2.2.1;
 let tr46 := q41.2.2.2.2.1;
 let tr47 := q41.2.2.2.2.2;
 some (decide (((tr42.length : Nat) : Int) = 1))
 else
 some false)
 else
 some false)
 else
 some false)
 else
 none))))
 else
 none)
theorem law28_Awake_F_le (fuel : Nat) : Ole (law28_Awake_F fuel) (law28_Awake) := by
  rw [law28_Awake_eq]; unfold law28_Awake_F; try dsimp only
  repeat' first | with_reducible exact Ole.refl _ | refine Ole.ite ?_ ?_ | with_reducible exact view_New_F_le .. | with_reducible exact view_Serve_F_le .. | with_reducible exact view_Viewer_Arrive_F_le .. | with_reducible exact view_Viewer_Pages_2_F_le .. | with_reducible exact view_Viewer_Size_2_F_le .. | with_reducible exact view_Viewer_Stored_2_F_le .. | refine Ole.iter fun _ => ?_ | refine Ole.elim (fun _ => ?_) (fun _ => ?_) | refine Ole.bind ?_ fun _ => ?_ | refine Ole.demD ?_ ?_
noncomputable def view_Viewer_none_F (fuel : Nat) : Option Bool :=
 some true
theorem view_Viewer_none_F_le (fuel : Nat) : Ole (view_Viewer_none_F fuel) (view_Viewer_none) := by
  rw [view_Viewer_none_eq]; unfold view_Viewer_none_F; try dsimp only
  repeat' first | with_reducible exact Ole.refl _ | refine Ole.ite ?_ ?_ | refine Ole.iter fun _ => ?_ | refine Ole.elim (fun _ => ?_) (fun _ => ?_) | refine Ole.bind ?_ fun _ => ?_ | refine Ole.demD ?_ ?_
noncomputable def view_Same_F (fuel : Nat) : Option Bool :=
 ((view_Viewer_none_F fuel).bind fun q1 =>
 (if q1 = true then
 some true
 else
 (view_Viewer_none_F fuel).bind fun q2 =>
 some q2) : Option (Bool)).bind (fun v3 =>
 (if v3 = true then
 ((view_Viewer_none_F fuel).bind fun q4 =>
 (if q4 = true then
 (view_Viewer_none_F fuel).bind fun q5 =>
 some q5
 else
 some false) : Option (Bool)).bind (fun v6 =>
 some v6)
 else
 none))
theorem view_Same_F_le (fuel : Nat) : Ole (view_Same_F fuel) (view_Same) := by
  rw [view_Same_eq]; unfold view_Same_F; try dsimp only
  repeat' first | with_reducible exact Ole.refl _ | refine Ole.ite ?_ ?_ | with_reducible exact view_Viewer_none_F_le .. | refine Ole.iter fun _ => ?_ | refine Ole.elim (fun _ => ?_) (fun _ => ?_) | refine Ole.bind ?_ fun _ => ?_ | refine Ole.demD ?_ ?_
noncomputable def view_Viewer_find_2_F (fuel : Nat) (name1 : List Int) : Option Int :=
 none
theorem view_Viewer_find_2_F_le (fuel : Nat) (name1 : List Int) : Ole (view_Viewer_find_2_F fuel name1) (view_Viewer_find_2 name1) := by
  rw [view_Viewer_find_2_eq]; unfold view_Viewer_find_2_F; try dsimp only
  repeat' first | with_reducible exact Ole.refl _ | refine Ole.ite ?_ ?_ | refine Ole.iter fun _ => ?_ | refine Ole.elim (fun _ => ?_) (fun _ => ?_) | refine Ole.bind ?_ fun _ => ?_ | refine Ole.demD ?_ ?_
noncomputable def view_Viewer_Arrive_2_F (fuel : Nat) (name1 data2 : List Int) : Option Int :=
 (view_Viewer_none_F fuel).bind fun q3 =>
 (if q3 = true then
 some 7
 else
 (view_Viewer_find_2_F fuel name1).bind fun q4 =>
 (if (decide (q4 < 0)) = true then
 some 5
 else
 none))
theorem view_Viewer_Arrive_2_F_le (fuel : Nat) (name1 data2 : List Int) : Ole (view_Viewer_Arrive_2_F fuel name1 data2) (view_Viewer_Arrive_2 name1 data2) := by
  rw [view_Viewer_Arrive_2_eq]; unfold view_Viewer_Arrive_2_F; try dsimp only
  repeat' first | with_reducible exact Ole.refl _ | refine Ole.ite ?_ ?_ | with_reducible exact view_Viewer_find_2_F_le .. | with_reducible exact view_Viewer_none_F_le .. | refine Ole.iter fun _ => ?_ | refine Ole.elim (fun _ => ?_) (fun _ => ?_) | refine Ole.bind ?_ fun _ => ?_ | refine Ole.demD ?_ ?_
noncomputable def view_Viewer_Copy_F (fuel : Nat) : Option Unit :=
 (view_Viewer_none_F fuel).bind fun q1 =>
 (if q1 = true then
 some ()
 else
 none)
theorem view_Viewer_Copy_F_le (fuel : Nat) : Ole (view_Viewer_Copy_F fuel) (view_Viewer_Copy) := by
  rw [view_Viewer_Copy_eq]; unfold view_Viewer_Copy_F; try dsimp only
  repeat' first | with_reducible exact Ole.refl _ | refine Ole.ite ?_ ?_ | with_reducible exact view_Viewer_none_F_le .. | refine Ole.iter fun _ => ?_ | refine Ole.elim (fun _ => ?_) (fun _ => ?_) | refine Ole.bind ?_ fun _ => ?_ | refine Ole.demD ?_ ?_
noncomputable def view_Viewer_book_F (fuel : Nat) : Option ((List File) × (List Outline)) :=
 none
theorem view_Viewer_book_F_le (fuel : Nat) : Ole (view_Viewer_book_F fuel) (view_Viewer_book) := by
  rw [view_Viewer_book_eq]; unfold view_Viewer_book_F; try dsimp only
  repeat' first | with_reducible exact Ole.refl _ | refine Ole.ite ?_ ?_ | refine Ole.iter fun _ => ?_ | refine Ole.elim (fun _ => ?_) (fun _ => ?_) | refine Ole.bind ?_ fun _ => ?_ | refine Ole.demD ?_ ?_
noncomputable def view_Viewer_has_F (fuel : Nat) (i1 : Int) : Option Bool :=
 none
theorem view_Viewer_has_F_le (fuel : Nat) (i1 : Int) : Ole (view_Viewer_has_F fuel i1) (view_Viewer_has i1) := by
  rw [view_Viewer_has_eq]; unfold view_Viewer_has_F; try dsimp only
  repeat' first | with_reducible exact Ole.refl _ | refine Ole.ite ?_ ?_ | refine Ole.iter fun _ => ?_ | refine Ole.elim (fun _ => ?_) (fun _ => ?_) | refine Ole.bind ?_ fun _ => ?_ | refine Ole.demD ?_ ?_
noncomputable def view_Viewer_page_F (fuel : Nat) (n1 : Int) : Option Int :=
 none
theorem view_Viewer_page_F_le (fuel : Nat) (n1 : Int) : Ole (view_Viewer_page_F fuel n1) (view_Viewer_page n1) := by
  rw [view_Viewer_page_eq]; unfold view_Viewer_page_F; try dsimp only
  repeat' first | with_reducible exact Ole.refl _ | refine Ole.ite ?_ ?_ | refine Ole.iter fun _ => ?_ | refine Ole.elim (fun _ => ?_) (fun _ => ?_) | refine Ole.bind ?_ fun _ => ?_ | refine Ole.demD ?_ ?_
noncomputable def view_Viewer_all_F (fuel : Nat) (page1 : Int) : Option ((List Int) × Int) :=
 (view_Viewer_page_F fuel page1).bind fun q2 =>
 (if (decide (q2 < 0)) = true then
 some ([], 5)
 else
 (view_Viewer_has_F fuel q2).bind fun q3 =>
 (if (!q3) = true then
 some ([q2], 0)
 else
 (view_Viewer_book_F fuel).bind fun q4 =>
 let tr5 := q4.1;
 let tr6 := q4.2;
 none))
theorem view_Viewer_all_F_le (fuel : Nat) (page1 : Int) : Ole (view_Viewer_all_F fuel page1) (view_Viewer_all page1) := by
  rw [view_Viewer_all_eq]; unfold view_Viewer_all_F; try dsimp only
  repeat' first | with_reducible exact Ole.refl _ | refine Ole.ite ?_ ?_ | with_reducible exact view_Viewer_book_F_le .. | with_reducible exact view_Viewer_has_F_le .. | with_reducible exact view_Viewer_page_F_le .. | refine Ole.iter fun _ => ?_ | refine Ole.elim (fun _ => ?_) (fun _ => ?_) | refine Ole.bind ?_ fun _ => ?_ | refine Ole.demD ?_ ?_
noncomputable def view_Viewer_Needs_loop8_F (fuel : Nat) (tr4 : List Int) (s6 : Int × (List (List Int))) : Option ((Int × (List (List Int))) ⊕ ((List (List Int)))) :=
 let v7 := s6.1;
 let out8 := s6.2;
 (if (decide (v7 < ((tr4.length : Nat) : Int))) = true then
 (if 0 ≤ v7 ∧ v7 < (tr4.length : Int) then
 (view_Viewer_has_F fuel (rd tr4 v7)).bind fun q9 =>
 (if (!q9) = true then
 none
 else
 let t10 := IntKind.i64.wrap (v7 + 1);
 some (Sum.inl (t10, out8)))
 else
 none)
 else
 some (Sum.inr out8))
theorem view_Viewer_Needs_loop8_F_le (fuel : Nat) (tr4 : List Int) (s6 : Int × (List (List Int))) : Ole (view_Viewer_Needs_loop8_F fuel tr4 s6) (view_Viewer_Needs_loop8 tr4 s6) := by
  unfold view_Viewer_Needs_loop8_F view_Viewer_Needs_loop8; try dsimp only
  repeat' first | with_reducible exact Ole.refl _ | refine Ole.ite ?_ ?_ | with_reducible exact view_Viewer_all_F_le .. | with_reducible exact view_Viewer_has_F_le .. | with_reducible exact view_Viewer_none_F_le .. | refine Ole.iter fun _ => ?_ | refine Ole.elim (fun _ => ?_) (fun _ => ?_) | refine Ole.bind ?_ fun _ => ?_ | refine Ole.demD ?_ ?_
noncomputable def view_Viewer_Needs_F (fuel : Nat) (page1 : Int) : Option ((List (List Int)) × Int) :=
 (view_Viewer_none_F fuel).bind fun q2 =>
 (if q2 = true then
 some ([], 7)
 else
 (view_Viewer_all_F fuel page1).bind fun q3 =>
 let tr4 := q3.1;
 let tr5 := q3.2;
 (if (!decide (tr5 = 0)) = true then
 some ([], tr5)
 else
 (iter (view_Viewer_Needs_loop8_F fuel tr4) fuel (0, [])).bind (fun out14 =>
 some (out14, 0))))
theorem view_Viewer_Needs_F_le (fuel : Nat) (page1 : Int) : Ole (view_Viewer_Needs_F fuel page1) (view_Viewer_Needs page1) := by
  rw [view_Viewer_Needs_eq]; unfold view_Viewer_Needs_F; try dsimp only
  repeat' first | with_reducible exact Ole.refl _ | refine Ole.ite ?_ ?_ | with_reducible exact view_Viewer_all_F_le .. | with_reducible exact view_Viewer_has_F_le .. | with_reducible exact view_Viewer_none_F_le .. | with_reducible exact view_Viewer_Needs_loop8_F_le .. | refine Ole.iter fun _ => ?_ | refine Ole.elim (fun _ => ?_) (fun _ => ?_) | refine Ole.bind ?_ fun _ => ?_ | refine Ole.demD ?_ ?_
noncomputable def view_Viewer_Pages_F (fuel : Nat) : Option Int :=
 (view_Viewer_none_F fuel).bind fun q1 =>
 (if q1 = true then
 some 0
 else
 none)
theorem view_Viewer_Pages_F_le (fuel : Nat) : Ole (view_Viewer_Pages_F fuel) (view_Viewer_Pages) := by
  rw [view_Viewer_Pages_eq]; unfold view_Viewer_Pages_F; try dsimp only
  repeat' first | with_reducible exact Ole.refl _ | refine Ole.ite ?_ ?_ | with_reducible exact view_Viewer_none_F_le .. | refine Ole.iter fun _ => ?_ | refine Ole.elim (fun _ => ?_) (fun _ => ?_) | refine Ole.bind ?_ fun _ => ?_ | refine Ole.demD ?_ ?_
noncomputable def view_Viewer_Show_F (fuel : Nat) (page1 : Int) : Option (Int × Int × (List Int) × (List Int) × (List Int) × Int) :=
 (view_Viewer_Needs_F fuel page1).bind fun q2 =>
 let tr3 := q2.1;
 let tr4 := q2.2;
 (if (!decide (tr4 = 0)) = true then
 some (0, 0, [], [], [], tr4)
 else
 (if (decide (((tr3.length : Nat) : Int) > 0)) = true then
 some (0, 0, [], [], [], 120)
 else
 (view_Viewer_book_F fuel).bind fun q5 =>
 let tr6 := q5.1;
 let tr7 := q5.2;
 none))
theorem view_Viewer_Show_F_le (fuel : Nat) (page1 : Int) : Ole (view_Viewer_Show_F fuel page1) (view_Viewer_Show page1) := by
  rw [view_Viewer_Show_eq]; unfold view_Viewer_Show_F; try dsimp only
  repeat' first | with_reducible exact Ole.refl _ | refine Ole.ite ?_ ?_ | with_reducible exact view_Viewer_Needs_F_le .. | with_reducible exact view_Viewer_book_F_le .. | refine Ole.iter fun _ => ?_ | refine Ole.elim (fun _ => ?_) (fun _ => ?_) | refine Ole.bind ?_ fun _ => ?_ | refine Ole.demD ?_ ?_
noncomputable def view_Viewer_book_2_F (fuel : Nat) (b1 : Bool) (b2 : List Int) (b3 : Int) (b4 : List File) (b5 : List Int) : Option ((List File) × (List Outline) × Bool × (List Int) × Int × (List File) × (List Int)) :=
 none
theorem view_Viewer_book_2_F_le (fuel : Nat) (b1 : Bool) (b2 : List Int) (b3 : Int) (b4 : List File) (b5 : List Int) : Ole (view_Viewer_book_2_F fuel b1 b2 b3 b4 b5) (view_Viewer_book_2 b1 b2 b3 b4 b5) := by
  rw [view_Viewer_book_2_eq]; unfold view_Viewer_book_2_F; try dsimp only
  repeat' first | with_reducible exact Ole.refl _ | refine Ole.ite ?_ ?_ | refine Ole.iter fun _ => ?_ | refine Ole.elim (fun _ => ?_) (fun _ => ?_) | refine Ole.bind ?_ fun _ => ?_ | refine Ole.demD ?_ ?_
noncomputable def slices_Contains_int_int_F (fuel : Nat) (s1 : List Int) (v2 : Int) : Option Bool :=
 (slices_Index_int_int_F fuel s1 v2).bind fun q3 =>
 some (decide (q3 ≥ 0))
theorem slices_Contains_int_int_F_le (fuel : Nat) (s1 : List Int) (v2 : Int) : Ole (slices_Contains_int_int_F fuel s1 v2) (slices_Contains_int_int s1 v2) := by
  rw [slices_Contains_int_int_eq]; unfold slices_Contains_int_int_F; try dsimp only
  repeat' first | with_reducible exact Ole.refl _ | refine Ole.ite ?_ ?_ | with_reducible exact slices_Index_int_int_F_le .. | refine Ole.iter fun _ => ?_ | refine Ole.elim (fun _ => ?_) (fun _ => ?_) | refine Ole.bind ?_ fun _ => ?_ | refine Ole.demD ?_ ?_
noncomputable def view_Viewer_has_2_F (fuel : Nat) (i1 : Int) (b2 : Bool) (b3 : List Int) (b4 : Int) (b5 : List File) (b6 : List Int) : Option (Bool × Bool × (List Int) × Int × (List File) × (List Int)) :=
 (slices_Contains_int_int_F fuel b6 i1).bind fun q7 =>
 some (q7, b2, b3, b4, b5, b6)
theorem view_Viewer_has_2_F_le (fuel : Nat) (i1 : Int) (b2 : Bool) (b3 : List Int) (b4 : Int) (b5 : List File) (b6 : List Int) : Ole (view_Viewer_has_2_F fuel i1 b2 b3 b4 b5 b6) (view_Viewer_has_2 i1 b2 b3 b4 b5 b6) := by
  rw [view_Viewer_has_2_eq]; unfold view_Viewer_has_2_F; try dsimp only
  repeat' first | with_reducible exact Ole.refl _ | refine Ole.ite ?_ ?_ | with_reducible exact slices_Contains_int_int_F_le .. | refine Ole.iter fun _ => ?_ | refine Ole.elim (fun _ => ?_) (fun _ => ?_) | refine Ole.bind ?_ fun _ => ?_ | refine Ole.demD ?_ ?_
noncomputable def view_Viewer_page_2_loop2_F (fuel : Nat) (b5 : List File) (s7 : Int × Int) : Option ((Int × Int) ⊕ ((Unit) ⊕ (Int))) :=
 let n8 := s7.1;
 let v9 := s7.2;
 (if (decide (v9 < ((b5.length : Nat) : Int))) = true then
 (if 0 ≤ v9 ∧ v9 < (b5.length : Int) then
 (b5[v9.toNat]?).bind fun e10 =>
 (if (decide (e10.kind = 0)) = true then
 let t11 := IntKind.i64.wrap (n8 - 1);
 (if (decide (t11 = 0)) = true then
 some (Sum.inr (Sum.inr v9))
 else
 let t12 := IntKind.i64.wrap (v9 + 1);
 some (Sum.inl (t11, t12)))
 else
 let t13 := IntKind.i64.wrap (v9 + 1);
 some (Sum.inl (n8, t13)))
 else
 none)
 else
 some (Sum.inr (Sum.inl ())))
theorem view_Viewer_page_2_loop2_F_le (fuel : Nat) (b5 : List File) (s7 : Int × Int) : Ole (view_Viewer_page_2_loop2_F fuel b5 s7) (view_Viewer_page_2_loop2 b5 s7) := by
  unfold view_Viewer_page_2_loop2_F view_Viewer_page_2_loop2; try dsimp only
  repeat' first | with_reducible exact Ole.refl _ | refine Ole.ite ?_ ?_ | refine Ole.iter fun _ => ?_ | refine Ole.elim (fun _ => ?_) (fun _ => ?_) | refine Ole.bind ?_ fun _ => ?_ | refine Ole.demD ?_ ?_
noncomputable def view_Viewer_page_2_F (fuel : Nat) (n1 : Int) (b2 : Bool) (b3 : List Int) (b4 : Int) (b5 : List File) (b6 : List Int) : Option (Int × Bool × (List Int) × Int × (List File) × (List Int)) :=
 (iter (view_Viewer_page_2_loop2_F fuel b5) fuel (n1, 0)).bind (fun o19 =>
 (Sum.elim (fun (p17 : Unit) =>
 some ((-1), b2, b3, b4, b5, b6))
 (fun (v18 : Int) =>
 some (v18, b2, b3, b4, b5, b6)) o19))
theorem view_Viewer_page_2_F_le (fuel : Nat) (n1 : Int) (b2 : Bool) (b3 : List Int) (b4 : Int) (b5 : List File) (b6 : List Int) : Ole (view_Viewer_page_2_F fuel n1 b2 b3 b4 b5 b6) (view_Viewer_page_2 n1 b2 b3 b4 b5 b6) := by
  rw [view_Viewer_page_2_eq]; unfold view_Viewer_page_2_F; try dsimp only
  repeat' first | with_reducible exact Ole.refl _ | refine Ole.ite ?_ ?_ | with_reducible exact view_Viewer_page_2_loop2_F_le .. | refine Ole.iter fun _ => ?_ | refine Ole.elim (fun _ => ?_) (fun _ => ?_) | refine Ole.bind ?_ fun _ => ?_ | refine Ole.demD ?_ ?_
noncomputable def view_Viewer_all_2_F (fuel : Nat) (page1 : Int) (b2 : Bool) (b3 : List Int) (b4 : Int) (b5 : List File) (b6 : List Int) : Option ((List Int) × Int × Bool × (List Int) × Int × (List File) × (List Int)) :=
 (view_Viewer_page_2_F fuel page1 b2 b3 b4 b5 b6).bind fun q7 =>
 let tr8 := q7.1;
 let tr9 := q7.2.1;
 let tr10 := q7.2.2.1;
 let tr11 := q7.2.2.2.1;
 let tr12 := q7.2.2.2.2.1;
 let tr13 := q7.2.2.2.2.2;
 (if (decide (tr8 < 0)) = true then
 some ([], 5, tr9, tr10, tr11, tr12, tr13)
 else
 (view_Viewer_has_2_F fuel tr8 tr9 tr10 tr11 tr12 tr13).bind fun q14 =>
 let tr15 := q14.1;
 let tr16 := q14.2.1;
 let tr17 := q14.2.2.1;
 let tr18 := q14.2.2.2.1;
 let tr19 := q14.2.2.2.2.1;
 let tr20 := q14.2.2.2.2.2;
 (if (!tr15) = true then
 some ([tr8], 0, tr16, tr17, tr18, tr19, tr20)
 else
 (view_Viewer_book_2_F fuel tr16 tr17 tr18 tr19 tr20).bind fun q21 =>
 let tr22 := q21.1;
 let tr23 := q21.2.1;
 let tr24 := q21.2.2.1;
 let tr25 := q21.2.2.2.1;
 let tr26 := q21.2.2.2.2.1;
 let tr27 := q21.2.2.2.2.2.1;
 let tr28 := q21.2.2.2.2.2.2;
 (if 0 ≤ tr8 ∧ tr8 < (tr27.length : Int) then
 (tr27[tr8.toNat]?).bind fun e29 =>
 none
 else
 none)))
theorem view_Viewer_all_2_F_le (fuel : Nat) (page1 : Int) (b2 : Bool) (b3 : List Int) (b4 : Int) (b5 : List File) (b6 : List Int) : Ole (view_Viewer_all_2_F fuel page1 b2 b3 b4 b5 b6) (view_Viewer_all_2 page1 b2 b3 b4 b5 b6) := by
  rw [view_Viewer_all_2_eq]; unfold view_Viewer_all_2_F; try dsimp only
  repeat' first | with_reducible exact Ole.refl _ | refine Ole.ite ?_ ?_ | with_reducible exact view_Viewer_book_2_F_le .. | with_reducible exact view_Viewer_has_2_F_le .. | with_reducible exact view_Viewer_page_2_F_le .. | refine Ole.iter fun _ => ?_ | refine Ole.elim (fun _ => ?_) (fun _ => ?_) | refine Ole.bind ?_ fun _ => ?_ | refine Ole.demD ?_ ?_
noncomputable def view_Viewer_Needs_2_loop8_F (fuel : Nat) (tr15 : List Int) (s22 : Int × Bool × (List Int) × Int × (List File) × (List Int) × (List (List Int))) : Option ((Int × Bool × (List Int) × Int × (List File) × (List Int) × (List (List Int))) ⊕ (Bool × (List Int) × Int × (List File) × (List Int) × (List (List Int)))) :=
 let v23 := s22.1;
 let b24 := s22.2.1;
 let b25 := s22.2.2.1;
 let b26 := s22.2.2.2.1;
 let b27 := s22.2.2.2.2.1;
 let b28 := s22.2.2.2.2.2.1;
 let out29 := s22.2.2.2.2.2.2;
 (if (decide (v23 < ((tr15.length : Nat) : Int))) = true then
 (if 0 ≤ v23 ∧ v23 < (tr15.length : Int) then
 (view_Viewer_has_2_F fuel (rd tr15 v23) b24 b25 b26 b27 b28).bind fun q30 =>
 let tr31 := q30.1;
 let tr32 := q30.2.1;
 let tr33 := q30.2.2.1;
 let tr34 := q30.2.2.2.1;
 let tr35 := q30.2.2.2.2.1;
 let tr36 := q30.2.2.2.2.2;
 (if (!tr31) = true then
 (if 0 ≤ rd tr15 v23 ∧ rd tr15 v23 < (tr35.length : Int) then
 (tr35[(rd tr15 v23).toNat]?).bind fun e37 =>
 (if (out29.length + ([e37.name] : List (List Int)).length) * 16 ≤ 140737488355328 then
 let t38 : List (List Int) := out29 ++ [e37.name];
 let t39 := IntKind.i64.wrap (v23 + 1);
 some (Sum.inl (t39, tr32, tr33, tr34, tr35, tr36, t38))
 else
 none)
 else
 none)
 else
 let t40 := IntKind.i64.wrap (v23 + 1);
 some (Sum.inl (t40, tr32, tr33, tr34, tr35, tr36, out29)))
 else
 none)
 else
 some (Sum.inr (b24, b25, b26, b27, b28, out29)))
theorem view_Viewer_Needs_2_loop8_F_le (fuel : Nat) (tr15 : List Int) (s22 : Int × Bool × (List Int) × Int × (List File) × (List Int) × (List (List Int))) : Ole (view_Viewer_Needs_2_loop8_F fuel tr15 s22) (view_Viewer_Needs_2_loop8 tr15 s22) := by
  unfold view_Viewer_Needs_2_loop8_F view_Viewer_Needs_2_loop8; try dsimp only
  repeat' first | with_reducible exact Ole.refl _ | refine Ole.ite ?_ ?_ | with_reducible exact view_Viewer_all_2_F_le .. | with_reducible exact view_Viewer_has_2_F_le .. | with_reducible exact view_Viewer_none_2_F_le .. | refine Ole.iter fun _ => ?_ | refine Ole.elim (fun _ => ?_) (fun _ => ?_) | refine Ole.bind ?_ fun _ => ?_ | refine Ole.demD ?_ ?_
noncomputable def view_Viewer_Needs_2_F (fuel : Nat) (page1 : Int) (b2 : Bool) (b3 : List Int) (b4 : Int) (b5 : List File) (b6 : List Int) : Option ((List (List Int)) × Int × Bool × (List Int) × Int × (List File) × (List Int)) :=
 (view_Viewer_none_2_F fuel b2 b3 b4 b5 b6).bind fun q7 =>
 let tr8 := q7.1;
 let tr9 := q7.2.1;
 let tr10 := q7.2.2.1;
 let tr11 := q7.2.2.2.1;
 let tr12 := q7.2.2.2.2.1;
 let tr13 := q7.2.2.2.2.2;
 (if tr8 = true then
 some ([], 7, tr9, tr10, tr11, tr12, tr13)
 else
 (view_Viewer_all_2_F fuel page1 tr9 tr10 tr11 tr12 tr13).bind fun q14 =>
 let tr15 := q14.1;
 let tr16 := q14.2.1;
 let tr17 := q14.2.2.1;
 let tr18 := q14.2.2.2.1;
 let tr19 := q14.2.2.2.2.1;
 let tr20 := q14.2.2.2.2.2.1;
 let tr21 := q14.2.2.2.2.2.2;
 (if (!decide (tr16 = 0)) = true then
 some ([], tr16, tr17, tr18, tr19, tr20, tr21)
 else
 (iter (view_Viewer_Needs_2_loop8_F fuel tr15) fuel (0, tr17, tr18, tr19, tr20, tr21, [])).bind (fun p50 =>
 let b51 := p50.1;
 let b52 := p50.2.1;
 let b53 := p50.2.2.1;
 let b54 := p50.2.2.2.1;
 let b55 := p50.2.2.2.2.1;
 let out56 := p50.2.2.2.2.2;
 some (out56, 0, b51, b52, b53, b54, b55))))
theorem view_Viewer_Needs_2_F_le (fuel : Nat) (page1 : Int) (b2 : Bool) (b3 : List Int) (b4 : Int) (b5 : List File) (b6 : List Int) : Ole (view_Viewer_Needs_2_F fuel page1 b2 b3 b4 b5 b6) (view_Viewer_Needs_2 page1 b2 b3 b4 b5 b6) := by
  rw [view_Viewer_Needs_2_eq]; unfold view_Viewer_Needs_2_F; try dsimp only
  repeat' first | with_reducible exact Ole.refl _ | refine Ole.ite ?_ ?_ | with_reducible exact view_Viewer_all_2_F_le .. | with_reducible exact view_Viewer_has_2_F_le .. | with_reducible exact view_Viewer_none_2_F_le .. | with_reducible exact view_Viewer_Needs_2_loop8_F_le .. | refine Ole.iter fun _ => ?_ | refine Ole.elim (fun _ => ?_) (fun _ => ?_) | refine Ole.bind ?_ fun _ => ?_ | refine Ole.demD ?_ ?_
noncomputable def view_Viewer_Show_2_F (fuel : Nat) (page1 : Int) (b2 : Bool) (b3 : List Int) (b4 : Int) (b5 : List File) (b6 : List Int) : Option (Int × Int × (List Int) × (List Int) × (List Int) × Int × Bool × (List Int) × Int × (List File) × (List Int)) :=
 (view_Viewer_Needs_2_F fuel page1 b2 b3 b4 b5 b6).bind fun q7 =>
 let tr8 := q7.1;
 let tr9 := q7.2.1;
 let tr10 := q7.2.2.1;
 let tr11 := q7.2.2.2.1;
 let tr12 := q7.2.2.2.2.1;
 let tr13 := q7.2.2.2.2.2.1;
 let tr14 := q7.2.2.2.2.2.2;
 (if (!decide (tr9 = 0)) = true then
 some (0, 0, [], [], [], tr9, tr10, tr11, tr12, tr13, tr14)
 else
 (if (decide (((tr8.length : Nat) : Int) > 0)) = true then
 some (0, 0, [], [], [], 120, tr10, tr11, tr12, tr13, tr14)
 else
 (view_Viewer_book_2_F fuel tr10 tr11 tr12 tr13 tr14).bind fun q15 =>
 let tr16 := q15.1;
 let tr17 := q15.2.1;
 let tr18 := q15.2.2.1;
 let tr19 := q15.2.2.2.1;
 let tr20 := q15.2.2.2.2.1;
 let tr21 := q15.2.2.2.2.2.1;
 let tr22 := q15.2.2.2.2.2.2;
 none))
theorem view_Viewer_Show_2_F_le (fuel : Nat) (page1 : Int) (b2 : Bool) (b3 : List Int) (b4 : Int) (b5 : List File) (b6 : List Int) : Ole (view_Viewer_Show_2_F fuel page1 b2 b3 b4 b5 b6) (view_Viewer_Show_2 page1 b2 b3 b4 b5 b6) := by
  rw [view_Viewer_Show_2_eq]; unfold view_Viewer_Show_2_F; try dsimp only
  repeat' first | with_reducible exact Ole.refl _ | refine Ole.ite ?_ ?_ | with_reducible exact view_Viewer_Needs_2_F_le .. | with_reducible exact view_Viewer_book_2_F_le .. | refine Ole.iter fun _ => ?_ | refine Ole.elim (fun _ => ?_) (fun _ => ?_) | refine Ole.bind ?_ fun _ => ?_ | refine Ole.demD ?_ ?_
noncomputable def view_Viewer_Size_F (fuel : Nat) : Option Int :=
 (view_Viewer_none_F fuel).bind fun q1 =>
 (if q1 = true then
 some 0
 else
 none)
theorem view_Viewer_Size_F_le (fuel : Nat) : Ole (view_Viewer_Size_F fuel) (view_Viewer_Size) := by
  rw [view_Viewer_Size_eq]; unfold view_Viewer_Size_F; try dsimp only
  repeat' first | with_reducible exact Ole.refl _ | refine Ole.ite ?_ ?_ | with_reducible exact view_Viewer_none_F_le .. | refine Ole.iter fun _ => ?_ | refine Ole.elim (fun _ => ?_) (fun _ => ?_) | refine Ole.bind ?_ fun _ => ?_ | refine Ole.demD ?_ ?_
noncomputable def view_Viewer_Stored_F (fuel : Nat) : Option (List (List Int)) :=
 (view_Viewer_none_F fuel).bind fun q1 =>
 (if q1 = true then
 some []
 else
 none)
theorem view_Viewer_Stored_F_le (fuel : Nat) : Ole (view_Viewer_Stored_F fuel) (view_Viewer_Stored) := by
  rw [view_Viewer_Stored_eq]; unfold view_Viewer_Stored_F; try dsimp only
  repeat' first | with_reducible exact Ole.refl _ | refine Ole.ite ?_ ?_ | with_reducible exact view_Viewer_none_F_le .. | refine Ole.iter fun _ => ?_ | refine Ole.elim (fun _ => ?_) (fun _ => ?_) | refine Ole.bind ?_ fun _ => ?_ | refine Ole.demD ?_ ?_
noncomputable def law28_ViewNil_F (fuel : Nat) (page1 : Int) (name2 : List Int) : Option Bool :=
 (view_Viewer_Needs_F fuel page1).bind fun q3 =>
 let tr4 := q3.1;
 let tr5 := q3.2;
 (view_Viewer_Show_F fuel page1).bind fun q6 =>
 let tr7 := q6.1;
 let tr8 := q6.2.1;
 let tr9 := q6.2.2.1;
 let tr10 := q6.2.2.2.1;
 let tr11 := q6.2.2.2.2.1;
 let tr12 := q6.2.2.2.2.2;
 (view_Viewer_Show_2_F fuel page1 false [] 0 [] []).bind fun q13 =>
 let tr14 := q13.1;
 let tr15 := q13.2.1;
 let tr16 := q13.2.2.1;
 let tr17 := q13.2.2.2.1;
 let tr18 := q13.2.2.2.2.1;
 let tr19 := q13.2.2.2.2.2.1;
 let tr20 := q13.2.2.2.2.2.2.1;
 let tr21 := q13.2.2.2.2.2.2.2.1;
 let tr22 := q13.2.2.2.2.2.2.2.2.1;
 let tr23 := q13.2.2.2.2.2.2.2.2.2.1;
 let tr24 := q13.2.2.2.2.2.2.2.2.2.2;
 (view_Viewer_Arrive_F fuel name2 [] tr20 tr21 tr22 tr23 tr24).bind fun q25 =>
 let tr26 := q25.1;
 let tr27 := q25.2.1;
 let tr28 := q25.2.2.1;
 let tr29 := q25.2.2.2.1;
 let tr30 := q25.2.2.2.2.1;
 let tr31 := q25.2.2.2.2.2;
 (if (decide (tr5 = 7)) = true then
 (if (decide (tr12 = 7)) = true then
 (if (decide (tr19 = 7)) = true then
 (if (decide (tr26 = 7)) = true then
 (view_Viewer_Arrive_2_F fuel name2 []).bind fun q32 =>
 (if (decide (q32 = 7)) = true then
 (view_Viewer_Stored_F fuel).bind fun q33 =>
 (if (decide (((q33.length : Nat) : Int) = 0)) = true then
 (view_Viewer_Size_F fuel).bind fun q34 =>
 (if (decide (q34 = 0)) = true then
 (view_Viewer_Pages_F fuel).bind fun q35 =>
 (if (decide (q35 = 0)) = true then
 (view_Viewer_Copy_F fuel).bind fun q36 =>
 (view_Same_F fuel).bind fun q37 =>
 (if q37 = true then
 (law28_Awake_F fuel).bind fun q38 =>
 some q38
 else
 some false)
 else
 some false)
 else
 some false)
 else
 some false)
 else
 some false)
 else
 some false)
 else
 some false)
 else
 some false)
 else
 some false)
theorem law28_ViewNil_F_le (fuel : Nat) (page1 : Int) (name2 : List Int) : Ole (law28_ViewNil_F fuel page1 name2) (law28_ViewNil page1 name2) := by
  rw [law28_ViewNil_eq]; unfold law28_ViewNil_F; try dsimp only
  repeat' first | with_reducible exact Ole.refl _ | refine Ole.ite ?_ ?_ | with_reducible exact law28_Awake_F_le .. | with_reducible exact view_Same_F_le .. | with_reducible exact view_Viewer_Arrive_F_le .. | with_reducible exact view_Viewer_Arrive_2_F_le .. | with_reducible exact view_Viewer_Copy_F_le .. | with_reducible exact view_Viewer_Needs_F_le .. | with_reducible exact view_Viewer_Pages_F_le .. | with_reducible exact view_Viewer_Show_F_le .. | with_reducible exact view_Viewer_Show_2_F_le .. | with_reducible exact view_Viewer_Size_F_le .. | with_reducible exact view_Viewer_Stored_F_le .. | refine Ole.iter fun _ => ?_ | refine Ole.elim (fun _ => ?_) (fun _ => ?_) | refine Ole.bind ?_ fun _ => ?_ | refine Ole.demD ?_ ?_
end
end Go.Proofs.YthnonplijagpdaaGreat.P
