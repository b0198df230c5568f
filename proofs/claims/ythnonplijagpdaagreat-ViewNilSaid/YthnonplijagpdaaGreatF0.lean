/- Copies of functions with fuel, for what is known: what they come to, the functions come to. Printed by wip/tool/vsym.py. -/
import Derived.Test.YthnonplijagpdaaGreatQs
import Derived.Test.YthnonplijagpdaaGreatLib
namespace Go.Proofs.YthnonplijagpdaaGreat.P
open Go Go.Proofs.YthnonplijagpdaaGreat.V
set_option linter.unusedVariables false
set_option linter.unusedSimpArgs false
set_option maxRecDepth 100000
noncomputable section
instance : DecidableEq File := fun a b => if h : a.name = b.name ∧ a.kind = b.kind ∧ a.data = b.data then .isTrue (by cases a; cases b; simp_all) else .isFalse (by intro e; subst e; simp at h)
instance : DecidableEq (List File × List Int) := inferInstance
instance : DecidableEq (List Int × Int × List File × List Int) := inferInstance
noncomputable def book_cursor_check_F (fuel : Nat) (ok1 : Bool) (err2 : Int) (b3 : List Int) (b4 b5 : Int) : Option (Bool × (List Int) × Int × Int) :=
 ((if (decide (b5 = 0)) = true then
 some (!ok1)
 else
 some false) : Option (Bool)).bind (fun v6 =>
 (if v6 = true then
 some (decide (err2 = 0), b3, b4, err2)
 else
 some (decide (b5 = 0), b3, b4, b5)))
theorem book_cursor_check_F_le (fuel : Nat) (ok1 : Bool) (err2 : Int) (b3 : List Int) (b4 b5 : Int) : Ole (book_cursor_check_F fuel ok1 err2 b3 b4 b5) (book_cursor_check ok1 err2 b3 b4 b5) := by
  rw [book_cursor_check_eq]; unfold book_cursor_check_F; try dsimp only
  repeat' first | with_reducible exact Ole.refl _ | refine Ole.ite ?_ ?_ | refine Ole.iter fun _ => ?_ | refine Ole.elim (fun _ => ?_) (fun _ => ?_) | refine Ole.bind ?_ fun _ => ?_ | refine Ole.demD ?_ ?_
noncomputable def bits_GetSize_loop4_F (fuel : Nat) (b1 : List Int) (at2 : Int) (s4 : Int × Int) : Option ((Int × Int) ⊕ ((Unit) ⊕ (Int × Int × Int))) :=
 let n5 := s4.1;
 let v6 := s4.2;
 (if (decide (v6 < 5)) = true then
 let t7 := IntKind.i64.wrap (at2 + v6);
 (if (decide (t7 ≥ ((b1.length : Nat) : Int))) = true then
 some (Sum.inr (Sum.inr (0, 0, 6)))
 else
 let t8 := IntKind.i64.wrap (at2 + v6);
 (if 0 ≤ t8 ∧ t8 < (b1.length : Int) then
 let t9 := IntKind.i64.wrap (rd b1 t8);
 let t10 := IntKind.i64.wrap (n5 * 128);
 let t11 : Int := t9.tmod 128;
 let t12 := IntKind.i64.wrap (t10 + t11);
 (if (decide (t9 < 128)) = true then
 ((if (decide (t12 > 2147483647)) = true then
 some true
 else
 (if (decide (v6 > 0)) = true then
 (if 0 ≤ at2 ∧ at2 < (b1.length : Int) then
 some (decide (rd b1 at2 = 128))
 else
 none)
 else
 some false)) : Option (Bool)).bind (fun v13 =>
 (if v13 = true then
 some (Sum.inr (Sum.inr (0, 0, 3)))
 else
 let t14 := IntKind.i64.wrap (at2 + v6);
 let t15 := IntKind.i64.wrap (t14 + 1);
 some (Sum.inr (Sum.inr (t12, t15, 0)))))
 else
 let t16 := IntKind.i64.wrap (v6 + 1);
 some (Sum.inl (t12, t16)))
 else
 none))
 else
 some (Sum.inr (Sum.inl ())))
theorem bits_GetSize_loop4_F_le (fuel : Nat) (b1 : List Int) (at2 : Int) (s4 : Int × Int) : Ole (bits_GetSize_loop4_F fuel b1 at2 s4) (bits_GetSize_loop4 b1 at2 s4) := by
  unfold bits_GetSize_loop4_F bits_GetSize_loop4; try dsimp only
  repeat' first | with_reducible exact Ole.refl _ | refine Ole.ite ?_ ?_ | refine Ole.iter fun _ => ?_ | refine Ole.elim (fun _ => ?_) (fun _ => ?_) | refine Ole.bind ?_ fun _ => ?_ | refine Ole.demD ?_ ?_
noncomputable def bits_GetSize_F (fuel : Nat) (b1 : List Int) (at2 : Int) : Option (Int × Int × Int) :=
 ((if (decide (at2 < 0)) = true then
 some true
 else
 some (decide (at2 > ((b1.length : Nat) : Int)))) : Option (Bool)).bind (fun v3 =>
 (if v3 = true then
 some (0, 0, 2)
 else
 (iter (bits_GetSize_loop4_F fuel b1 at2) fuel (0, 0)).bind (fun o25 =>
 (Sum.elim (fun (p20 : Unit) =>
 some (0, 0, 3))
 (fun (p21 : Int × Int × Int) =>
 let n22 := p21.1;
 let next23 := p21.2.1;
 let err24 := p21.2.2;
 some (n22, next23, err24)) o25))))
theorem bits_GetSize_F_le (fuel : Nat) (b1 : List Int) (at2 : Int) : Ole (bits_GetSize_F fuel b1 at2) (bits_GetSize b1 at2) := by
  rw [bits_GetSize_eq]; unfold bits_GetSize_F; try dsimp only
  repeat' first | with_reducible exact Ole.refl _ | refine Ole.ite ?_ ?_ | with_reducible exact bits_GetSize_loop4_F_le .. | refine Ole.iter fun _ => ?_ | refine Ole.elim (fun _ => ?_) (fun _ => ?_) | refine Ole.bind ?_ fun _ => ?_ | refine Ole.demD ?_ ?_
noncomputable def book_cursor_size_F (fuel : Nat) (b1 : List Int) (b2 b3 : Int) : Option (Int × (List Int) × Int × Int) :=
 (if (!decide (b3 = 0)) = true then
 some (0, b1, b2, b3)
 else
 (bits_GetSize_F fuel b1 b2).bind fun q4 =>
 let tr5 := q4.1;
 let tr6 := q4.2.1;
 let tr7 := q4.2.2;
 (book_cursor_check_F fuel (decide (tr7 = 0)) tr7 b1 b2 b3).bind fun q8 =>
 let tr9 := q8.1;
 let tr10 := q8.2.1;
 let tr11 := q8.2.2.1;
 let tr12 := q8.2.2.2;
 (if tr9 = true then
 some (tr5, tr10, tr6, tr12)
 else
 some (tr5, tr10, tr11, tr12)))
theorem book_cursor_size_F_le (fuel : Nat) (b1 : List Int) (b2 b3 : Int) : Ole (book_cursor_size_F fuel b1 b2 b3) (book_cursor_size b1 b2 b3) := by
  rw [book_cursor_size_eq]; unfold book_cursor_size_F; try dsimp only
  repeat' first | with_reducible exact Ole.refl _ | refine Ole.ite ?_ ?_ | with_reducible exact bits_GetSize_F_le .. | with_reducible exact book_cursor_check_F_le .. | refine Ole.iter fun _ => ?_ | refine Ole.elim (fun _ => ?_) (fun _ => ?_) | refine Ole.bind ?_ fun _ => ?_ | refine Ole.demD ?_ ?_
noncomputable def book_cursor_take_F (fuel : Nat) (n1 : Int) (b2 : List Int) (b3 b4 : Int) : Option ((List Int) × (List Int) × Int × Int) :=
 let t5 := IntKind.i64.wrap (((b2.length : Nat) : Int) - b3);
 (book_cursor_check_F fuel (decide (n1 ≤ t5)) 6 b2 b3 b4).bind fun q6 =>
 let tr7 := q6.1;
 let tr8 := q6.2.1;
 let tr9 := q6.2.2.1;
 let tr10 := q6.2.2.2;
 (if (!tr7) = true then
 some ([], tr8, tr9, tr10)
 else
 let t11 := IntKind.i64.wrap (tr9 + n1);
 let t12 := IntKind.i64.wrap (t11 - n1);
 (if 0 ≤ t11 ∧ t11 ≤ ((tr8.length : Nat) : Int) then
 (if 0 ≤ t12 ∧ t12 ≤ t11 then
 let t13 : List Int := cutL tr8 t12.toNat t11.toNat;
 some (t13, tr8, t11, tr10)
 else
 none)
 else
 none))
theorem book_cursor_take_F_le (fuel : Nat) (n1 : Int) (b2 : List Int) (b3 b4 : Int) : Ole (book_cursor_take_F fuel n1 b2 b3 b4) (book_cursor_take n1 b2 b3 b4) := by
  rw [book_cursor_take_eq]; unfold book_cursor_take_F; try dsimp only
  repeat' first | with_reducible exact Ole.refl _ | refine Ole.ite ?_ ?_ | with_reducible exact book_cursor_check_F_le .. | refine Ole.iter fun _ => ?_ | refine Ole.elim (fun _ => ?_) (fun _ => ?_) | refine Ole.bind ?_ fun _ => ?_ | refine Ole.demD ?_ ?_
noncomputable def book_isName_loop2_F (fuel : Nat) (s1 : List Int) (v2 : Int) : Option ((Int) ⊕ ((Unit) ⊕ (Bool))) :=
 (if (decide (v2 < ((s1.length : Nat) : Int))) = true then
 (if 0 ≤ v2 ∧ v2 < ((s1).length : Int) then
 let t3 : Int := rd s1 v2;
 (if (decide (t3 < 97)) = true then
 (if (decide (t3 < 48)) = true then
 (if (!decide (t3 = 46)) = true then
 (if (!decide (t3 = 45)) = true then
 some (Sum.inr (Sum.inr false))
 else
 let t4 := IntKind.i64.wrap (v2 + 1);
 some (Sum.inl t4))
 else
 let t5 := IntKind.i64.wrap (v2 + 1);
 some (Sum.inl t5))
 else
 (if (decide (t3 > 57)) = true then
 (if (!decide (t3 = 46)) = true then
 (if (!decide (t3 = 45)) = true then
 some (Sum.inr (Sum.inr false))
 else
 let t6 := IntKind.i64.wrap (v2 + 1);
 some (Sum.inl t6))
 else
 let t7 := IntKind.i64.wrap (v2 + 1);
 some (Sum.inl t7))
 else
 let t8 := IntKind.i64.wrap (v2 + 1);
 some (Sum.inl t8)))
 else
 (if (decide (t3 > 122)) = true then
 (if (decide (t3 < 48)) = true then
 (if (!decide (t3 = 46)) = true then
 (if (!decide (t3 = 45)) = true then
 some (Sum.inr (Sum.inr false))
 else
 let t9 := IntKind.i64.wrap (v2 + 1);
 some (Sum.inl t9))
 else
 let t10 := IntKind.i64.wrap (v2 + 1);
 some (Sum.inl t10))
 else
 (if (decide (t3 > 57)) = true then
 (if (!decide (t3 = 46)) = true then
 (if (!decide (t3 = 45)) = true then
 some (Sum.inr (Sum.inr false))
 else
 let t11 := IntKind.i64.wrap (v2 + 1);
 some (Sum.inl t11))
 else
 let t12 := IntKind.i64.wrap (v2 + 1);
 some (Sum.inl t12))
 else
 let t13 := IntKind.i64.wrap (v2 + 1);
 some (Sum.inl t13)))
 else
 let t14 := IntKind.i64.wrap (v2 + 1);
 some (Sum.inl t14)))
 else
 none)
 else
 some (Sum.inr (Sum.inl ())))
theorem book_isName_loop2_F_le (fuel : Nat) (s1 : List Int) (v2 : Int) : Ole (book_isName_loop2_F fuel s1 v2) (book_isName_loop2 s1 v2) := by
  unfold book_isName_loop2_F book_isName_loop2; try dsimp only
  repeat' first | with_reducible exact Ole.refl _ | refine Ole.ite ?_ ?_ | refine Ole.iter fun _ => ?_ | refine Ole.elim (fun _ => ?_) (fun _ => ?_) | refine Ole.bind ?_ fun _ => ?_ | refine Ole.demD ?_ ?_
noncomputable def book_isName_F (fuel : Nat) (s1 : List Int) : Option Bool :=
 (iter (book_isName_loop2_F fuel s1) fuel 0).bind (fun o20 =>
 (Sum.elim (fun (p18 : Unit) =>
 (if (decide (((s1.length : Nat) : Int) ≥ 1)) = true then
 some (decide (((s1.length : Nat) : Int) ≤ 20))
 else
 some false))
 (fun (v19 : Bool) =>
 some v19) o20))
theorem book_isName_F_le (fuel : Nat) (s1 : List Int) : Ole (book_isName_F fuel s1) (book_isName s1) := by
  rw [book_isName_eq]; unfold book_isName_F; try dsimp only
  repeat' first | with_reducible exact Ole.refl _ | refine Ole.ite ?_ ?_ | with_reducible exact book_isName_loop2_F_le .. | refine Ole.iter fun _ => ?_ | refine Ole.elim (fun _ => ?_) (fun _ => ?_) | refine Ole.bind ?_ fun _ => ?_ | refine Ole.demD ?_ ?_
noncomputable def book_cursor_name_F (fuel : Nat) (b1 : List Int) (b2 b3 : Int) : Option ((List Int) × (List Int) × Int × Int) :=
 (book_cursor_size_F fuel b1 b2 b3).bind fun q4 =>
 let tr5 := q4.1;
 let tr6 := q4.2.1;
 let tr7 := q4.2.2.1;
 let tr8 := q4.2.2.2;
 (book_cursor_check_F fuel (decide (tr5 ≤ 20)) 3 tr6 tr7 tr8).bind fun q9 =>
 let tr10 := q9.1;
 let tr11 := q9.2.1;
 let tr12 := q9.2.2.1;
 let tr13 := q9.2.2.2;
 (book_cursor_take_F fuel tr5 tr11 tr12 tr13).bind fun q14 =>
 let tr15 := q14.1;
 let tr16 := q14.2.1;
 let tr17 := q14.2.2.1;
 let tr18 := q14.2.2.2;
 (book_isName_F fuel tr15).bind fun q19 =>
 (book_cursor_check_F fuel q19 3 tr16 tr17 tr18).bind fun q20 =>
 let tr21 := q20.1;
 let tr22 := q20.2.1;
 let tr23 := q20.2.2.1;
 let tr24 := q20.2.2.2;
 some (tr15, tr22, tr23, tr24)
theorem book_cursor_name_F_le (fuel : Nat) (b1 : List Int) (b2 b3 : Int) : Ole (book_cursor_name_F fuel b1 b2 b3) (book_cursor_name b1 b2 b3) := by
  rw [book_cursor_name_eq]; unfold book_cursor_name_F; try dsimp only
  repeat' first | with_reducible exact Ole.refl _ | refine Ole.ite ?_ ?_ | with_reducible exact book_cursor_check_F_le .. | with_reducible exact book_cursor_size_F_le .. | with_reducible exact book_cursor_take_F_le .. | with_reducible exact book_isName_F_le .. | refine Ole.iter fun _ => ?_ | refine Ole.elim (fun _ => ?_) (fun _ => ?_) | refine Ole.bind ?_ fun _ => ?_ | refine Ole.demD ?_ ?_
noncomputable def book_cursor_file_F (fuel : Nat) (b1 : List Int) (b2 b3 : Int) : Option ((List Int) × Int × (List Int) × Int × (List Int) × Int × Int) :=
 (book_cursor_take_F fuel 1 b1 b2 b3).bind fun q4 =>
 let tr5 := q4.1;
 let tr6 := q4.2.1;
 let tr7 := q4.2.2.1;
 let tr8 := q4.2.2.2;
 ((if (decide (((tr5.length : Nat) : Int) = 1)) = true then
 (if 0 ≤ (0 : Int) ∧ (0 : Int) < (tr5.length : Int) then
 (book_cursor_check_F fuel (decide (rd tr5 0 ≤ 2)) 3 tr6 tr7 tr8).bind fun q9 =>
 let tr10 := q9.1;
 let tr11 := q9.2.1;
 let tr12 := q9.2.2.1;
 let tr13 := q9.2.2.2;
 some (!tr10, tr11, tr12, tr13)
 else
 none)
 else
 (book_cursor_check_F fuel false 3 tr6 tr7 tr8).bind fun q14 =>
 let tr15 := q14.1;
 let tr16 := q14.2.1;
 let tr17 := q14.2.2.1;
 let tr18 := q14.2.2.2;
 some (!tr15, tr16, tr17, tr18)) : Option (Bool × (List Int) × Int × Int)).bind (fun p19 =>
 let v20 := p19.1;
 let b21 := p19.2.1;
 let b22 := p19.2.2.1;
 let b23 := p19.2.2.2;
 (if v20 = true then
 some ([], 0, [], 0, b21, b22, b23)
 else
 (if 0 ≤ (0 : Int) ∧ (0 : Int) < (tr5.length : Int) then
 let t24 := IntKind.i64.wrap (rd tr5 0);
 (book_cursor_name_F fuel b21 b22 b23).bind fun q25 =>
 let tr26 := q25.1;
 let tr27 := q25.2.1;
 let tr28 := q25.2.2.1;
 let tr29 := q25.2.2.2;
 (book_cursor_size_F fuel tr27 tr28 tr29).bind fun q30 =>
 let tr31 := q30.1;
 let tr32 := q30.2.1;
 let tr33 := q30.2.2.1;
 let tr34 := q30.2.2.2;
 some (tr26, t24, [], tr31, tr32, tr33, tr34)
 else
 none)))
theorem book_cursor_file_F_le (fuel : Nat) (b1 : List Int) (b2 b3 : Int) : Ole (book_cursor_file_F fuel b1 b2 b3) (book_cursor_file b1 b2 b3) := by
  rw [book_cursor_file_eq]; unfold book_cursor_file_F; try dsimp only
  repeat' first | with_reducible exact Ole.refl _ | refine Ole.ite ?_ ?_ | with_reducible exact book_cursor_check_F_le .. | with_reducible exact book_cursor_name_F_le .. | with_reducible exact book_cursor_size_F_le .. | with_reducible exact book_cursor_take_F_le .. | refine Ole.iter fun _ => ?_ | refine Ole.elim (fun _ => ?_) (fun _ => ?_) | refine Ole.bind ?_ fun _ => ?_ | refine Ole.demD ?_ ?_
noncomputable def book_index_1_F (fuel : Nat) (f1 : List Int) (f2 : Int) (f3 b4 : List Int) : Option (Bool × (List Int)) :=
 some (decide (f1 = b4), b4)
theorem book_index_1_F_le (fuel : Nat) (f1 : List Int) (f2 : Int) (f3 b4 : List Int) : Ole (book_index_1_F fuel f1 f2 f3 b4) (book_index_1 f1 f2 f3 b4) := by
  rw [book_index_1_eq]; unfold book_index_1_F; try dsimp only
  repeat' first | with_reducible exact Ole.refl _ | refine Ole.ite ?_ ?_ | refine Ole.iter fun _ => ?_ | refine Ole.elim (fun _ => ?_) (fun _ => ?_) | refine Ole.bind ?_ fun _ => ?_ | refine Ole.demD ?_ ?_
noncomputable def slices_IndexFunc_api_File_api_File_2_loop2_F (fuel : Nat) (s1 : List File) (s3 : Int × (List Int)) : Option ((Int × (List Int)) ⊕ (((List Int)) ⊕ (Int × (List Int)))) :=
 let v4 := s3.1;
 let b5 := s3.2;
 (if (decide (v4 < ((s1.length : Nat) : Int))) = true then
 (if 0 ≤ v4 then
 (s1[v4.toNat]?).bind fun e6 =>
 (book_index_1_F fuel e6.name e6.kind e6.data b5).bind fun q7 =>
 let tr8 := q7.1;
 let tr9 := q7.2;
 (if tr8 = true then
 some (Sum.inr (Sum.inr (v4, tr9)))
 else
 let t10 := IntKind.i64.wrap (v4 + 1);
 some (Sum.inl (t10, tr9)))
 else
 none)
 else
 some (Sum.inr (Sum.inl b5)))
theorem slices_IndexFunc_api_File_api_File_2_loop2_F_le (fuel : Nat) (s1 : List File) (s3 : Int × (List Int)) : Ole (slices_IndexFunc_api_File_api_File_2_loop2_F fuel s1 s3) (slices_IndexFunc_api_File_api_File_2_loop2 s1 s3) := by
  unfold slices_IndexFunc_api_File_api_File_2_loop2_F slices_IndexFunc_api_File_api_File_2_loop2; try dsimp only
  repeat' first | with_reducible exact Ole.refl _ | refine Ole.ite ?_ ?_ | with_reducible exact book_index_1_F_le .. | refine Ole.iter fun _ => ?_ | refine Ole.elim (fun _ => ?_) (fun _ => ?_) | refine Ole.bind ?_ fun _ => ?_ | refine Ole.demD ?_ ?_
noncomputable def slices_IndexFunc_api_File_api_File_2_F (fuel : Nat) (s1 : List File) (b2 : List Int) : Option (Int × (List Int)) :=
 (iter (slices_IndexFunc_api_File_api_File_2_loop2_F fuel s1) fuel (0, b2)).bind (fun o18 =>
 (Sum.elim (fun (b14 : (List Int)) =>
 some ((-1), b14))
 (fun (p15 : Int × (List Int)) =>
 let v16 := p15.1;
 let b17 := p15.2;
 some (v16, b17)) o18))
theorem slices_IndexFunc_api_File_api_File_2_F_le (fuel : Nat) (s1 : List File) (b2 : List Int) : Ole (slices_IndexFunc_api_File_api_File_2_F fuel s1 b2) (slices_IndexFunc_api_File_api_File_2 s1 b2) := by
  rw [slices_IndexFunc_api_File_api_File_2_eq]; unfold slices_IndexFunc_api_File_api_File_2_F; try dsimp only
  repeat' first | with_reducible exact Ole.refl _ | refine Ole.ite ?_ ?_ | with_reducible exact book_index_1_F_le .. | with_reducible exact slices_IndexFunc_api_File_api_File_2_loop2_F_le .. | refine Ole.iter fun _ => ?_ | refine Ole.elim (fun _ => ?_) (fun _ => ?_) | refine Ole.bind ?_ fun _ => ?_ | refine Ole.demD ?_ ?_
noncomputable def book_index_F (fuel : Nat) (l1 : List File) (name2 : List Int) : Option Int :=
 (slices_IndexFunc_api_File_api_File_2_F fuel l1 name2).bind fun q3 =>
 let tr4 := q3.1;
 let tr5 := q3.2;
 some tr4
theorem book_index_F_le (fuel : Nat) (l1 : List File) (name2 : List Int) : Ole (book_index_F fuel l1 name2) (book_index l1 name2) := by
  rw [book_index_eq]; unfold book_index_F; try dsimp only
  repeat' first | with_reducible exact Ole.refl _ | refine Ole.ite ?_ ?_ | with_reducible exact slices_IndexFunc_api_File_api_File_2_F_le .. | refine Ole.iter fun _ => ?_ | refine Ole.elim (fun _ => ?_) (fun _ => ?_) | refine Ole.bind ?_ fun _ => ?_ | refine Ole.demD ?_ ?_
noncomputable def note_reader_size_F (fuel : Nat) (low1 high2 : Int) (b3 : List Int) (b4 b5 b6 : Int) : Option (Int × (List Int) × Int × Int × Int) :=
 (if (!decide (b6 = 0)) = true then
 some (0, b3, b4, b5, b6)
 else
 (bits_GetSize_F fuel b3 b4).bind fun q7 =>
 let tr8 := q7.1;
 let tr9 := q7.2.1;
 let tr10 := q7.2.2;
 ((if (decide (tr10 = 0)) = true then
 (if (decide (tr8 < low1)) = true then
 some true
 else
 some (decide (tr8 > high2)))
 else
 some false) : Option (Bool)).bind (fun v11 =>
 ((if v11 = true then
 some 3
 else
 some tr10) : Option (Int)).bind (fun err12 =>
 (if (!decide (err12 = 0)) = true then
 some (0, b3, b4, b5, err12)
 else
 some (tr8, b3, tr9, b5, err12)))))
theorem note_reader_size_F_le (fuel : Nat) (low1 high2 : Int) (b3 : List Int) (b4 b5 b6 : Int) : Ole (note_reader_size_F fuel low1 high2 b3 b4 b5 b6) (note_reader_size low1 high2 b3 b4 b5 b6) := by
  rw [note_reader_size_eq]; unfold note_reader_size_F; try dsimp only
  repeat' first | with_reducible exact Ole.refl _ | refine Ole.ite ?_ ?_ | with_reducible exact bits_GetSize_F_le .. | refine Ole.iter fun _ => ?_ | refine Ole.elim (fun _ => ?_) (fun _ => ?_) | refine Ole.bind ?_ fun _ => ?_ | refine Ole.demD ?_ ?_
noncomputable def note_reader_title_F (fuel : Nat) (b1 : List Int) (b2 b3 b4 : Int) : Option ((List Int) × (List Int) × Int × Int × Int) :=
 (note_reader_size_F fuel 0 200 b1 b2 b3 b4).bind fun q5 =>
 let tr6 := q5.1;
 let tr7 := q5.2.1;
 let tr8 := q5.2.2.1;
 let tr9 := q5.2.2.2.1;
 let tr10 := q5.2.2.2.2;
 ((if (decide (tr10 = 0)) = true then
 let t11 := IntKind.i64.wrap (((tr7.length : Nat) : Int) - tr8);
 some (decide (t11 < tr6))
 else
 some false) : Option (Bool)).bind (fun v12 =>
 ((if v12 = true then
 some (tr7, tr8, tr9, 6)
 else
 some (tr7, tr8, tr9, tr10)) : Option ((List Int) × Int × Int × Int)).bind (fun p13 =>
 let b14 := p13.1;
 let b15 := p13.2.1;
 let b16 := p13.2.2.1;
 let b17 := p13.2.2.2;
 (if (!decide (b17 = 0)) = true then
 some ([], b14, b15, b16, b17)
 else
 let t18 := IntKind.i64.wrap (b15 + tr6);
 let t19 := IntKind.i64.wrap (t18 - tr6);
 (if 0 ≤ t18 ∧ t18 ≤ ((b14.length : Nat) : Int) then
 (if 0 ≤ t19 ∧ t19 ≤ t18 then
 let t20 : List Int := cutL b14 t19.toNat t18.toNat;
 some (t20, b14, t18, b16, b17)
 else
 none)
 else
 none))))
theorem note_reader_title_F_le (fuel : Nat) (b1 : List Int) (b2 b3 b4 : Int) : Ole (note_reader_title_F fuel b1 b2 b3 b4) (note_reader_title b1 b2 b3 b4) := by
  rw [note_reader_title_eq]; unfold note_reader_title_F; try dsimp only
  repeat' first | with_reducible exact Ole.refl _ | refine Ole.ite ?_ ?_ | with_reducible exact note_reader_size_F_le .. | refine Ole.iter fun _ => ?_ | refine Ole.elim (fun _ => ?_) (fun _ => ?_) | refine Ole.bind ?_ fun _ => ?_ | refine Ole.demD ?_ ?_
noncomputable def note_reader_list_loop3_F (fuel : Nat) (r_note_reader_list : Int → (List Int) → Int → Int → Int → Option ((List Outline) × (List Int) × Int × Int × Int)) (depth1 : Int) (s12 : Int × (List Int) × Int × Int × Int × (List Outline)) : Option ((Int × (List Int) × Int × Int × Int × (List Outline)) ⊕ (((List Int) × Int × Int × Int × (List Outline)) ⊕ ((List Outline) × (List Int) × Int × Int × Int))) :=
 let n13 := s12.1;
 let b14 := s12.2.1;
 let b15 := s12.2.2.1;
 let b16 := s12.2.2.2.1;
 let b17 := s12.2.2.2.2.1;
 let out18 := s12.2.2.2.2.2;
 ((if (decide (n13 > 0)) = true then
 some (decide (b17 = 0))
 else
 some false) : Option (Bool)).bind (fun v19 =>
 (if v19 = true then
 let t20 := IntKind.i64.wrap (b16 + 1);
 ((if (decide (t20 > 400)) = true then
 some true
 else
 some (decide (depth1 > 20))) : Option (Bool)).bind (fun v21 =>
 (if v21 = true then
 some (Sum.inr (Sum.inr ([], b14, b15, t20, 4)))
 else
 (note_reader_title_F fuel b14 b15 t20 b17).bind fun q22 =>
 let tr23 := q22.1;
 let tr24 := q22.2.1;
 let tr25 := q22.2.2.1;
 let tr26 := q22.2.2.2.1;
 let tr27 := q22.2.2.2.2;
 (note_reader_size_F fuel 1 1000 tr24 tr25 tr26 tr27).bind fun q28 =>
 let tr29 := q28.1;
 let tr30 := q28.2.1;
 let tr31 := q28.2.2.1;
 let tr32 := q28.2.2.2.1;
 let tr33 := q28.2.2.2.2;
 let t34 := IntKind.i64.wrap (depth1 + 1);
 (r_note_reader_list t34 tr30 tr31 tr32 tr33).bind fun q35 =>
 let tr36 := q35.1;
 let tr37 := q35.2.1;
 let tr38 := q35.2.2.1;
 let tr39 := q35.2.2.2.1;
 let tr40 := q35.2.2.2.2;
 (if (out18.length + ([(Outline.mk tr23 tr29 tr36)] : List Outline).length) * 48 ≤ 140737488355328 then
 let t41 : List Outline := out18 ++ [(Outline.mk tr23 tr29 tr36)];
 let t42 := IntKind.i64.wrap (n13 - 1);
 some (Sum.inl (t42, tr37, tr38, tr39, tr40, t41))
 else
 none)))
 else
 some (Sum.inr (Sum.inl (b14, b15, b16, b17, out18)))))
theorem note_reader_list_loop3_F_le (fuel : Nat) (r_note_reader_list : Int → (List Int) → Int → Int → Int → Option ((List Outline) × (List Int) × Int × Int × Int)) (h_note_reader_list : ∀ depth1 b2 b3 b4 b5, Ole (r_note_reader_list depth1 b2 b3 b4 b5) (note_reader_list depth1 b2 b3 b4 b5)) (depth1 : Int) (s12 : Int × (List Int) × Int × Int × Int × (List Outline)) : Ole (note_reader_list_loop3_F fuel r_note_reader_list depth1 s12) (note_reader_list_loop3 depth1 s12) := by
  unfold note_reader_list_loop3_F note_reader_list_loop3; try dsimp only
  repeat' first | with_reducible exact Ole.refl _ | refine Ole.ite ?_ ?_ | with_reducible exact note_reader_size_F_le .. | with_reducible exact note_reader_title_F_le .. | with_reducible exact h_note_reader_list .. | refine Ole.iter fun _ => ?_ | refine Ole.elim (fun _ => ?_) (fun _ => ?_) | refine Ole.bind ?_ fun _ => ?_ | refine Ole.demD ?_ ?_
noncomputable def note_reader_list_B (fuel : Nat) (r_note_reader_list : Int → (List Int) → Int → Int → Int → Option ((List Outline) × (List Int) × Int × Int × Int)) (depth1 : Int) (b2 : List Int) (b3 b4 b5 : Int) : Option ((List Outline) × (List Int) × Int × Int × Int) :=
 (note_reader_size_F fuel 0 2147483648 b2 b3 b4 b5).bind fun q6 =>
 let tr7 := q6.1;
 let tr8 := q6.2.1;
 let tr9 := q6.2.2.1;
 let tr10 := q6.2.2.2.1;
 let tr11 := q6.2.2.2.2;
 (iter (note_reader_list_loop3_F fuel r_note_reader_list depth1) fuel (tr7, tr8, tr9, tr10, tr11, [])).bind (fun o55 =>
 (Sum.elim (fun (p43 : (List Int) × Int × Int × Int × (List Outline)) =>
 let b44 := p43.1;
 let b45 := p43.2.1;
 let b46 := p43.2.2.1;
 let b47 := p43.2.2.2.1;
 let out48 := p43.2.2.2.2;
 some (out48, b44, b45, b46, b47))
 (fun (p49 : (List Outline) × (List Int) × Int × Int × Int) =>
 let v50 := p49.1;
 let b51 := p49.2.1;
 let b52 := p49.2.2.1;
 let b53 := p49.2.2.2.1;
 let b54 := p49.2.2.2.2;
 some (v50, b51, b52, b53, b54)) o55))
theorem note_reader_list_B_le (fuel : Nat) (r_note_reader_list : Int → (List Int) → Int → Int → Int → Option ((List Outline) × (List Int) × Int × Int × Int)) (h_note_reader_list : ∀ depth1 b2 b3 b4 b5, Ole (r_note_reader_list depth1 b2 b3 b4 b5) (note_reader_list depth1 b2 b3 b4 b5)) (depth1 : Int) (b2 : List Int) (b3 b4 b5 : Int) : Ole (note_reader_list_B fuel r_note_reader_list depth1 b2 b3 b4 b5) (note_reader_list depth1 b2 b3 b4 b5) := by
  rw [note_reader_list_eq]; unfold note_reader_list_B; try dsimp only
  repeat' first | with_reducible exact Ole.refl _ | refine Ole.ite ?_ ?_ | with_reducible exact note_reader_size_F_le .. | with_reducible exact note_reader_title_F_le .. | with_reducible exact h_note_reader_list .. | with_reducible exact note_reader_list_loop3_F_le fuel r_note_reader_list h_note_reader_list .. | refine Ole.iter fun _ => ?_ | refine Ole.elim (fun _ => ?_) (fun _ => ?_) | refine Ole.bind ?_ fun _ => ?_ | refine Ole.demD ?_ ?_
noncomputable def note_reader_list_R (fuel : Nat) : Nat → (Int → (List Int) → Int → Int → Int → Option ((List Outline) × (List Int) × Int × Int × Int))
  | 0 => (fun depth1 b2 b3 b4 b5 => none)
  | n + 1 => (fun depth1 b2 b3 b4 b5 => note_reader_list_B fuel (note_reader_list_R fuel n) depth1 b2 b3 b4 b5)
theorem note_reader_list_R_le (fuel : Nat) : ∀ n, (∀ depth1 b2 b3 b4 b5, Ole (note_reader_list_R fuel n depth1 b2 b3 b4 b5) (note_reader_list depth1 b2 b3 b4 b5))
  | 0 => fun _ _ _ _ _ => Ole.none
  | n + 1 => fun depth1 b2 b3 b4 b5 => note_reader_list_B_le fuel (note_reader_list_R fuel n) (note_reader_list_R_le fuel n) depth1 b2 b3 b4 b5
noncomputable def note_reader_list_F (fuel : Nat) (depth1 : Int) (b2 : List Int) (b3 b4 b5 : Int) : Option ((List Outline) × (List Int) × Int × Int × Int) := note_reader_list_R fuel fuel depth1 b2 b3 b4 b5
theorem note_reader_list_F_le (fuel : Nat) (depth1 : Int) (b2 : List Int) (b3 b4 b5 : Int) : Ole (note_reader_list_F fuel depth1 b2 b3 b4 b5) (note_reader_list depth1 b2 b3 b4 b5) := (note_reader_list_R_le fuel fuel) depth1 b2 b3 b4 b5
noncomputable def note_GetOutlines_F (fuel : Nat) (b1 : List Int) : Option ((List Outline) × Int) :=
 (note_reader_list_F fuel 1 b1 0 0 0).bind fun q2 =>
 let tr3 := q2.1;
 let tr4 := q2.2.1;
 let tr5 := q2.2.2.1;
 let tr6 := q2.2.2.2.1;
 let tr7 := q2.2.2.2.2;
 (if (!decide (tr7 = 0)) = true then
 some ([], tr7)
 else
 (if (decide (tr5 < ((b1.length : Nat) : Int))) = true then
 some ([], 3)
 else
 some (tr3, 0)))
theorem note_GetOutlines_F_le (fuel : Nat) (b1 : List Int) : Ole (note_GetOutlines_F fuel b1) (note_GetOutlines b1) := by
  rw [note_GetOutlines_eq]; unfold note_GetOutlines_F; try dsimp only
  repeat' first | with_reducible exact Ole.refl _ | refine Ole.ite ?_ ?_ | with_reducible exact note_reader_list_F_le .. | refine Ole.iter fun _ => ?_ | refine Ole.elim (fun _ => ?_) (fun _ => ?_) | refine Ole.bind ?_ fun _ => ?_ | refine Ole.demD ?_ ?_
noncomputable def coder_New_F (fuel : Nat) (kind1 n2 : Int) : Option (Int × Int × (List Int)) :=
 ((if (!decide (kind1 = 0)) = true then
 (if (!decide (kind1 = 1)) = true then
 some true
 else
 (if (decide (n2 < 0)) = true then
 some true
 else
 some (decide (n2 > 8192))))
 else
 (if (decide (n2 < 0)) = true then
 some true
 else
 some (decide (n2 > 8192)))) : Option (Bool)).bind (fun v3 =>
 (if v3 = true then
 some (0, 2, [])
 else
 (if 0 ≤ n2 ∧ n2 ≤ n2 ∧ ((8 : Nat) : Int) * n2 ≤ 281474976710656 then
 let t4 : List Int := List.replicate n2.toNat 0;
 some (kind1, 0, t4)
 else
 none)))
theorem coder_New_F_le (fuel : Nat) (kind1 n2 : Int) : Ole (coder_New_F fuel kind1 n2) (coder_New kind1 n2) := by
  rw [coder_New_eq]; unfold coder_New_F; try dsimp only
  repeat' first | with_reducible exact Ole.refl _ | refine Ole.ite ?_ ?_ | refine Ole.iter fun _ => ?_ | refine Ole.elim (fun _ => ?_) (fun _ => ?_) | refine Ole.bind ?_ fun _ => ?_ | refine Ole.demD ?_ ?_
noncomputable def coder_Decoder_shift_F (fuel : Nat) (b1 b2 b3 b4 b5 b6 : Int) (b7 b8 : List Int) : Option (Int × Int × Int × Int × Int × Int × (List Int) × (List Int)) :=
 ((if (decide (b4 < ((b8.length : Nat) : Int))) = true then
 (if 0 ≤ b4 ∧ b4 < (b8.length : Int) then
 let t9 : Int := rd b8 b4;
 some (t9, b1, b2, b3, b4, b5, b6, b7, b8)
 else
 none)
 else
 let t10 := IntKind.i64.wrap (b6 + 1);
 some (0, b1, b2, b3, b4, b5, t10, b7, b8)) : Option (Int × Int × Int × Int × Int × Int × Int × (List Int) × (List Int))).bind (fun p11 =>
 let b12 := p11.1;
 let b13 := p11.2.1;
 let b14 := p11.2.2.1;
 let b15 := p11.2.2.2.1;
 let b16 := p11.2.2.2.2.1;
 let b17 := p11.2.2.2.2.2.1;
 let b18 := p11.2.2.2.2.2.2.1;
 let b19 := p11.2.2.2.2.2.2.2.1;
 let b20 := p11.2.2.2.2.2.2.2.2;
 let t21 := IntKind.i64.wrap (b16 + 1);
 let t22 := ishl .u64 b17 8;
 let t23 := iand .u64 t22 4294967295;
 let t24 := IntKind.u64.wrap b12;
 let t25 := ior .u64 t23 t24;
 some (b13, b14, b15, t21, t25, b18, b19, b20))
theorem coder_Decoder_shift_F_le (fuel : Nat) (b1 b2 b3 b4 b5 b6 : Int) (b7 b8 : List Int) : Ole (coder_Decoder_shift_F fuel b1 b2 b3 b4 b5 b6 b7 b8) (coder_Decoder_shift b1 b2 b3 b4 b5 b6 b7 b8) := by
  rw [coder_Decoder_shift_eq]; unfold coder_Decoder_shift_F; try dsimp only
  repeat' first | with_reducible exact Ole.refl _ | refine Ole.ite ?_ ?_ | refine Ole.iter fun _ => ?_ | refine Ole.elim (fun _ => ?_) (fun _ => ?_) | refine Ole.bind ?_ fun _ => ?_ | refine Ole.demD ?_ ?_
noncomputable def coder_Valid_loop7_F (fuel : Nat) (m2 : List Int) (end4 v5 : Int) : Option ((Int) ⊕ ((Unit) ⊕ (Bool))) :=
 (if (decide (v5 < ((m2.length : Nat) : Int))) = true then
 (if 0 ≤ v5 ∧ v5 < (m2.length : Int) then
 (if (decide (rd m2 v5 < 0)) = true then
 some (Sum.inr (Sum.inr false))
 else
 (if (decide (rd m2 v5 ≥ end4)) = true then
 some (Sum.inr (Sum.inr false))
 else
 let t6 := IntKind.i64.wrap (v5 + 1);
 some (Sum.inl t6)))
 else
 none)
 else
 some (Sum.inr (Sum.inl ())))
theorem coder_Valid_loop7_F_le (fuel : Nat) (m2 : List Int) (end4 v5 : Int) : Ole (coder_Valid_loop7_F fuel m2 end4 v5) (coder_Valid_loop7 m2 end4 v5) := by
  unfold coder_Valid_loop7_F coder_Valid_loop7; try dsimp only
  repeat' first | with_reducible exact Ole.refl _ | refine Ole.ite ?_ ?_ | refine Ole.iter fun _ => ?_ | refine Ole.elim (fun _ => ?_) (fun _ => ?_) | refine Ole.bind ?_ fun _ => ?_ | refine Ole.demD ?_ ?_
noncomputable def coder_Valid_F (fuel : Nat) (m1 : Int) (m2 : List Int) : Option Bool :=
 ((if (!decide (m1 = 0)) = true then
 (if (!decide (m1 = 1)) = true then
 some true
 else
 some (decide (((m2.length : Nat) : Int) > 8192)))
 else
 some (decide (((m2.length : Nat) : Int) > 8192))) : Option (Bool)).bind (fun v3 =>
 (if v3 = true then
 some false
 else
 ((if (decide (m1 = 1)) = true then
 some 65536
 else
 some 64) : Option (Int)).bind (fun end4 =>
 (iter (coder_Valid_loop7_F fuel m2 end4) fuel 0).bind (fun o12 =>
 (Sum.elim (fun (p10 : Unit) =>
 some true)
 (fun (v11 : Bool) =>
 some v11) o12)))))
theorem coder_Valid_F_le (fuel : Nat) (m1 : Int) (m2 : List Int) : Ole (coder_Valid_F fuel m1 m2) (coder_Valid m1 m2) := by
  rw [coder_Valid_eq]; unfold coder_Valid_F; try dsimp only
  repeat' first | with_reducible exact Ole.refl _ | refine Ole.ite ?_ ?_ | with_reducible exact coder_Valid_loop7_F_le .. | refine Ole.iter fun _ => ?_ | refine Ole.elim (fun _ => ?_) (fun _ => ?_) | refine Ole.bind ?_ fun _ => ?_ | refine Ole.demD ?_ ?_
noncomputable def coder_chances_F (fuel : Nat) : Option Unit :=
 some ()
theorem coder_chances_F_le (fuel : Nat) : Ole (coder_chances_F fuel) (coder_chances) := by
  rw [coder_chances_eq]; unfold coder_chances_F; try dsimp only
  repeat' first | with_reducible exact Ole.refl _ | refine Ole.ite ?_ ?_ | refine Ole.iter fun _ => ?_ | refine Ole.elim (fun _ => ?_) (fun _ => ?_) | refine Ole.bind ?_ fun _ => ?_ | refine Ole.demD ?_ ?_
noncomputable def coder_clone_F (fuel : Nat) (m1 : Int) (m2 : List Int) : Option (Int × (List Int)) :=
 (if (([] : List Int).length + m2.length) * 8 ≤ 140737488355328 then
 let t3 : List Int := ([] : List Int) ++ m2;
 some (m1, t3)
 else
 none)
theorem coder_clone_F_le (fuel : Nat) (m1 : Int) (m2 : List Int) : Ole (coder_clone_F fuel m1 m2) (coder_clone m1 m2) := by
  rw [coder_clone_eq]; unfold coder_clone_F; try dsimp only
  repeat' first | with_reducible exact Ole.refl _ | refine Ole.ite ?_ ?_ | refine Ole.iter fun _ => ?_ | refine Ole.elim (fun _ => ?_) (fun _ => ?_) | refine Ole.bind ?_ fun _ => ?_ | refine Ole.demD ?_ ?_
noncomputable def coder_begin_F (fuel : Nat) (m1 : Int) (m2 : List Int) : Option (Int × Int × Int × (List Int)) :=
 (coder_clone_F fuel m1 m2).bind fun q3 =>
 let tr4 := q3.1;
 let tr5 := q3.2;
 (coder_chances_F fuel).bind fun q6 =>
 some (tr4, 0, 4294967295, tr5)
theorem coder_begin_F_le (fuel : Nat) (m1 : Int) (m2 : List Int) : Ole (coder_begin_F fuel m1 m2) (coder_begin m1 m2) := by
  rw [coder_begin_eq]; unfold coder_begin_F; try dsimp only
  repeat' first | with_reducible exact Ole.refl _ | refine Ole.ite ?_ ?_ | with_reducible exact coder_chances_F_le .. | with_reducible exact coder_clone_F_le .. | refine Ole.iter fun _ => ?_ | refine Ole.elim (fun _ => ?_) (fun _ => ?_) | refine Ole.bind ?_ fun _ => ?_ | refine Ole.demD ?_ ?_
noncomputable def coder_NewDecoder_loop5_F (fuel : Nat) (s11 : Int × (List Int) × (List Int) × Int × Int × Int × Int × Int × Int) : Option ((Int × (List Int) × (List Int) × Int × Int × Int × Int × Int × Int) ⊕ ((List Int) × (List Int) × Int × Int × Int × Int × Int × Int)) :=
 let v12 := s11.1;
 let b13 := s11.2.1;
 let b14 := s11.2.2.1;
 let b15 := s11.2.2.2.1;
 let b16 := s11.2.2.2.2.1;
 let b17 := s11.2.2.2.2.2.1;
 let b18 := s11.2.2.2.2.2.2.1;
 let b19 := s11.2.2.2.2.2.2.2.1;
 let b20 := s11.2.2.2.2.2.2.2.2;
 (if (decide (v12 < 4)) = true then
 (coder_Decoder_shift_F fuel b15 b16 b17 b18 b19 b20 b13 b14).bind fun q21 =>
 let tr22 := q21.1;
 let tr23 := q21.2.1;
 let tr24 := q21.2.2.1;
 let tr25 := q21.2.2.2.1;
 let tr26 := q21.2.2.2.2.1;
 let tr27 := q21.2.2.2.2.2.1;
 let tr28 := q21.2.2.2.2.2.2.1;
 let tr29 := q21.2.2.2.2.2.2.2;
 let t30 := IntKind.i64.wrap (v12 + 1);
 some (Sum.inl (t30, tr28, tr29, tr22, tr23, tr24, tr25, tr26, tr27))
 else
 some (Sum.inr (b13, b14, b15, b16, b17, b18, b19, b20)))
theorem coder_NewDecoder_loop5_F_le (fuel : Nat) (s11 : Int × (List Int) × (List Int) × Int × Int × Int × Int × Int × Int) : Ole (coder_NewDecoder_loop5_F fuel s11) (coder_NewDecoder_loop5 s11) := by
  unfold coder_NewDecoder_loop5_F coder_NewDecoder_loop5; try dsimp only
  repeat' first | with_reducible exact Ole.refl _ | refine Ole.ite ?_ ?_ | with_reducible exact coder_Decoder_shift_F_le .. | with_reducible exact coder_Valid_F_le .. | with_reducible exact coder_begin_F_le .. | refine Ole.iter fun _ => ?_ | refine Ole.elim (fun _ => ?_) (fun _ => ?_) | refine Ole.bind ?_ fun _ => ?_ | refine Ole.demD ?_ ?_
noncomputable def coder_NewDecoder_F (fuel : Nat) (m1 : Int) (m2 b3 : List Int) : Option ((Int × Int × Int × (List Int) × Int × Int × Int × Bool × (List Int)) ⊕ (Unit)) :=
 (coder_Valid_F fuel m1 m2).bind fun q4 =>
 (if (!q4) = true then
 some (Sum.inr ())
 else
 (coder_begin_F fuel m1 m2).bind fun q5 =>
 let tr6 := q5.1;
 let tr7 := q5.2.1;
 let tr8 := q5.2.2.1;
 let tr9 := q5.2.2.2;
 (if (([] : List Int).length + b3.length) * 1 ≤ 140737488355328 then
 let t10 : List Int := ([] : List Int) ++ b3;
 (iter (coder_NewDecoder_loop5_F fuel) fuel (0, tr9, t10, tr6, tr7, tr8, 0, 0, 0)).bind (fun p42 =>
 let b43 := p42.1;
 let b44 := p42.2.1;
 let b45 := p42.2.2.1;
 let b46 := p42.2.2.2.1;
 let b47 := p42.2.2.2.2.1;
 let b48 := p42.2.2.2.2.2.1;
 let b49 := p42.2.2.2.2.2.2.1;
 let b50 := p42.2.2.2.2.2.2.2;
 some (Sum.inl (b45, b46, b47, b44, b48, b49, b50, false, b43)))
 else
 none))
theorem coder_NewDecoder_F_le (fuel : Nat) (m1 : Int) (m2 b3 : List Int) : Ole (coder_NewDecoder_F fuel m1 m2 b3) (coder_NewDecoder m1 m2 b3) := by
  rw [coder_NewDecoder_eq]; unfold coder_NewDecoder_F; try dsimp only
  repeat' first | with_reducible exact Ole.refl _ | refine Ole.ite ?_ ?_ | with_reducible exact coder_Decoder_shift_F_le .. | with_reducible exact coder_Valid_F_le .. | with_reducible exact coder_begin_F_le .. | with_reducible exact coder_NewDecoder_loop5_F_le .. | refine Ole.iter fun _ => ?_ | refine Ole.elim (fun _ => ?_) (fun _ => ?_) | refine Ole.bind ?_ fun _ => ?_ | refine Ole.demD ?_ ?_
noncomputable def coder_Decoder_none_F (fuel : Nat) (b1 b2 b3 : Int) (b4 : List Int) (b5 b6 b7 : Int) (b8 : Bool) (b9 : List Int) : Option (Bool × Int × Int × Int × (List Int) × Int × Int × Int × Bool × (List Int)) :=
 some (false, b1, b2, b3, b4, b5, b6, b7, b8, b9)
theorem coder_Decoder_none_F_le (fuel : Nat) (b1 b2 b3 : Int) (b4 : List Int) (b5 b6 b7 : Int) (b8 : Bool) (b9 : List Int) : Ole (coder_Decoder_none_F fuel b1 b2 b3 b4 b5 b6 b7 b8 b9) (coder_Decoder_none b1 b2 b3 b4 b5 b6 b7 b8 b9) := by
  rw [coder_Decoder_none_eq]; unfold coder_Decoder_none_F; try dsimp only
  repeat' first | with_reducible exact Ole.refl _ | refine Ole.ite ?_ ?_ | refine Ole.iter fun _ => ?_ | refine Ole.elim (fun _ => ?_) (fun _ => ?_) | refine Ole.bind ?_ fun _ => ?_ | refine Ole.demD ?_ ?_
noncomputable def coder_Decoder_shift_2_F (fuel : Nat) (b1 b2 b3 : Int) (b4 : List Int) (b5 b6 b7 : Int) (b8 : Bool) (b9 : List Int) : Option (Int × Int × Int × (List Int) × Int × Int × Int × Bool × (List Int)) :=
 ((if (decide (b5 < ((b4.length : Nat) : Int))) = true then
 (if 0 ≤ b5 ∧ b5 < (b4.length : Int) then
 some (rd b4 b5, b1, b2, b3, b4, b5, b6, b7, b8, b9)
 else
 none)
 else
 let t10 := IntKind.i64.wrap (b7 + 1);
 some (0, b1, b2, b3, b4, b5, b6, t10, b8, b9)) : Option (Int × Int × Int × Int × (List Int) × Int × Int × Int × Bool × (List Int))).bind (fun p11 =>
 let b12 := p11.1;
 let b13 := p11.2.1;
 let b14 := p11.2.2.1;
 let b15 := p11.2.2.2.1;
 let b16 := p11.2.2.2.2.1;
 let b17 := p11.2.2.2.2.2.1;
 let b18 := p11.2.2.2.2.2.2.1;
 let b19 := p11.2.2.2.2.2.2.2.1;
 let b20 := p11.2.2.2.2.2.2.2.2.1;
 let b21 := p11.2.2.2.2.2.2.2.2.2;
 let t22 := IntKind.i64.wrap (b17 + 1);
 let t23 := ishl .u64 b18 8;
 let t24 := iand .u64 t23 4294967295;
 let t25 := IntKind.u64.wrap b12;
 let t26 := ior .u64 t24 t25;
 some (b13, b14, b15, b16, t22, t26, b19, b20, b21))
theorem coder_Decoder_shift_2_F_le (fuel : Nat) (b1 b2 b3 : Int) (b4 : List Int) (b5 b6 b7 : Int) (b8 : Bool) (b9 : List Int) : Ole (coder_Decoder_shift_2_F fuel b1 b2 b3 b4 b5 b6 b7 b8 b9) (coder_Decoder_shift_2 b1 b2 b3 b4 b5 b6 b7 b8 b9) := by
  rw [coder_Decoder_shift_2_eq]; unfold coder_Decoder_shift_2_F; try dsimp only
  repeat' first | with_reducible exact Ole.refl _ | refine Ole.ite ?_ ?_ | refine Ole.iter fun _ => ?_ | refine Ole.elim (fun _ => ?_) (fun _ => ?_) | refine Ole.bind ?_ fun _ => ?_ | refine Ole.demD ?_ ?_
noncomputable def coder_interval_lose_F (fuel : Nat) (b1 b2 b3 : Int) (b4 : List Int) (b5 b6 b7 : Int) (b8 : Bool) (b9 : List Int) : Option (Int × Int × Int × Int × (List Int) × Int × Int × Int × Bool × (List Int)) :=
 let t10 := ishr .u64 b2 24;
 let t11 := IntKind.u8.wrap t10;
 let t12 := ishl .u64 b2 8;
 let t13 := iand .u64 t12 4294967295;
 let t14 := ishl .u64 b3 8;
 let t15 := iand .u64 t14 4294967295;
 let t16 := ior .u64 t15 255;
 some (t11, b1, t13, t16, b4, b5, b6, b7, b8, b9)
theorem coder_interval_lose_F_le (fuel : Nat) (b1 b2 b3 : Int) (b4 : List Int) (b5 b6 b7 : Int) (b8 : Bool) (b9 : List Int) : Ole (coder_interval_lose_F fuel b1 b2 b3 b4 b5 b6 b7 b8 b9) (coder_interval_lose b1 b2 b3 b4 b5 b6 b7 b8 b9) := by
  rw [coder_interval_lose_eq]; unfold coder_interval_lose_F; try dsimp only
  repeat' first | with_reducible exact Ole.refl _ | refine Ole.ite ?_ ?_ | refine Ole.iter fun _ => ?_ | refine Ole.elim (fun _ => ?_) (fun _ => ?_) | refine Ole.bind ?_ fun _ => ?_ | refine Ole.demD ?_ ?_
noncomputable def coder_table_chance_F (fuel : Nat) (kind1 s2 : Int) : Option Int :=
 (if (decide (kind1 = 1)) = true then
 let t3 := IntKind.i64.wrap (s2.tdiv 256);
 let t4 : Int := s2.tmod 256;
 let t5 := IntKind.i64.wrap (2 * t4);
 let t6 := IntKind.i64.wrap (t5 + 1);
 let t7 := IntKind.i64.wrap (t6 * 4096);
 let t8 := IntKind.i64.wrap (2 * t3);
 let t9 := IntKind.i64.wrap (2 * t4);
 let t10 := IntKind.i64.wrap (t8 + t9);
 let t11 := IntKind.i64.wrap (t10 + 2);
 (if t11 = 0 then
 none
 else
 let t12 := IntKind.i64.wrap (t7.tdiv t11);
 let t13 := imax t12 1;
 let t14 := imin t13 4095;
 some t14)
 else
 (if (decide (s2 ≥ 32)) = true then
 let t15 := IntKind.i64.wrap (s2 - 32);
 (if 0 ≤ t15 ∧ t15 < ((32 : Nat) : Int) then
 let t16 : Int := rd [2048, 1792, 1568, 1372, 1201, 1051, 920, 805, 705, 617, 540, 473, 414, 363, 318, 279, 245, 215, 189, 166, 146, 128, 112, 98, 86, 76, 67, 59, 52, 46, 41, 36] t15;
 let t17 := IntKind.i64.wrap (4096 - t16);
 some t17
 else
 none)
 else
 (if 0 ≤ s2 ∧ s2 < ((32 : Nat) : Int) then
 let t18 : Int := rd [2048, 1792, 1568, 1372, 1201, 1051, 920, 805, 705, 617, 540, 473, 414, 363, 318, 279, 245, 215, 189, 166, 146, 128, 112, 98, 86, 76, 67, 59, 52, 46, 41, 36] s2;
 some t18
 else
 none)))
theorem coder_table_chance_F_le (fuel : Nat) (kind1 s2 : Int) : Ole (coder_table_chance_F fuel kind1 s2) (coder_table_chance kind1 s2) := by
  rw [coder_table_chance_eq]; unfold coder_table_chance_F; try dsimp only
  repeat' first | with_reducible exact Ole.refl _ | refine Ole.ite ?_ ?_ | refine Ole.iter fun _ => ?_ | refine Ole.elim (fun _ => ?_) (fun _ => ?_) | refine Ole.bind ?_ fun _ => ?_ | refine Ole.demD ?_ ?_
noncomputable def coder_interval_mid_F (fuel : Nat) (ctx1 b2 b3 b4 : Int) (b5 : List Int) (b6 b7 b8 : Int) (b9 : Bool) (b10 : List Int) : Option (Int × Int × Int × Int × (List Int) × Int × Int × Int × Bool × (List Int)) :=
 let t11 := IntKind.u64.wrap (b4 - b3);
 (if 0 ≤ ctx1 ∧ ctx1 < (b10.length : Int) then
 let t12 : Int := rd b10 ctx1;
 (coder_table_chance_F fuel b2 t12).bind fun q13 =>
 let t14 := IntKind.u64.wrap q13;
 let t15 := IntKind.u64.wrap (t11.tdiv 4096);
 let t16 := IntKind.u64.wrap (t15 * t14);
 let t17 := IntKind.u64.wrap (b3 + t16);
 let t18 : Int := t11.tmod 4096;
 let t19 := IntKind.u64.wrap (t18 * t14);
 let t20 := IntKind.u64.wrap (t19.tdiv 4096);
 let t21 := IntKind.u64.wrap (t17 + t20);
 some (t21, b2, b3, b4, b5, b6, b7, b8, b9, b10)
 else
 none)
theorem coder_interval_mid_F_le (fuel : Nat) (ctx1 b2 b3 b4 : Int) (b5 : List Int) (b6 b7 b8 : Int) (b9 : Bool) (b10 : List Int) : Ole (coder_interval_mid_F fuel ctx1 b2 b3 b4 b5 b6 b7 b8 b9 b10) (coder_interval_mid ctx1 b2 b3 b4 b5 b6 b7 b8 b9 b10) := by
  rw [coder_interval_mid_eq]; unfold coder_interval_mid_F; try dsimp only
  repeat' first | with_reducible exact Ole.refl _ | refine Ole.ite ?_ ?_ | with_reducible exact coder_table_chance_F_le .. | refine Ole.iter fun _ => ?_ | refine Ole.elim (fun _ => ?_) (fun _ => ?_) | refine Ole.bind ?_ fun _ => ?_ | refine Ole.demD ?_ ?_
noncomputable def coder_interval_same_F (fuel : Nat) (b1 b2 b3 : Int) (b4 : List Int) (b5 b6 b7 : Int) (b8 : Bool) (b9 : List Int) : Option (Bool × Int × Int × Int × (List Int) × Int × Int × Int × Bool × (List Int)) :=
 let t10 := ishr .u64 b2 24;
 let t11 := ishr .u64 b3 24;
 some (decide (t10 = t11), b1, b2, b3, b4, b5, b6, b7, b8, b9)
theorem coder_interval_same_F_le (fuel : Nat) (b1 b2 b3 : Int) (b4 : List Int) (b5 b6 b7 : Int) (b8 : Bool) (b9 : List Int) : Ole (coder_interval_same_F fuel b1 b2 b3 b4 b5 b6 b7 b8 b9) (coder_interval_same b1 b2 b3 b4 b5 b6 b7 b8 b9) := by
  rw [coder_interval_same_eq]; unfold coder_interval_same_F; try dsimp only
  repeat' first | with_reducible exact Ole.refl _ | refine Ole.ite ?_ ?_ | refine Ole.iter fun _ => ?_ | refine Ole.elim (fun _ => ?_) (fun _ => ?_) | refine Ole.bind ?_ fun _ => ?_ | refine Ole.demD ?_ ?_
noncomputable def coder_next_F (fuel : Nat) (kind1 s2 bit3 : Int) : Option Int :=
 (if (decide (kind1 = 1)) = true then
 let t4 := IntKind.i64.wrap (s2.tdiv 256);
 let t5 : Int := s2.tmod 256;
 (if 0 ≤ bit3 ∧ bit3 < ((2 : Nat) : Int) then
 let t6 : Int := rd [t4, t5] bit3;
 ((if (decide (t6 = 255)) = true then
 (if 0 ≤ (0 : Int) ∧ (0 : Int) < ((2 : Nat) : Int) then
 let t7 := IntKind.i64.wrap (t4.tdiv 2);
 (if 0 ≤ (1 : Int) ∧ (1 : Int) < ((2 : Nat) : Int) then
 let t8 := IntKind.i64.wrap (t5.tdiv 2);
 (if 0 ≤ (0 : Int) ∧ (0 : Int) < ((2 : Nat) : Int) then
 (if 0 ≤ (1 : Int) ∧ (1 : Int) < ((2 : Nat) : Int) then
 some (t7, t8)
 else
 none)
 else
 none)
 else
 none)
 else
 none)
 else
 some (t4, t5)) : Option (Int × Int)).bind (fun p9 =>
 let b10 := p9.1;
 let b11 := p9.2;
 (if 0 ≤ bit3 ∧ bit3 < ((2 : Nat) : Int) then
 let t12 : Int := rd [b10, b11] bit3;
 let t13 := IntKind.i64.wrap (t12 + 1);
 (if 0 ≤ bit3 ∧ bit3 < ((2 : Nat) : Int) then
 let c14 : Int := if bit3 = 0 then t13 else b10;
 let c15 : Int := if bit3 = 1 then t13 else b11;
 (if 0 ≤ (0 : Int) ∧ (0 : Int) < ((2 : Nat) : Int) then
 let t16 := IntKind.i64.wrap (256 * c14);
 (if 0 ≤ (1 : Int) ∧ (1 : Int) < ((2 : Nat) : Int) then
 let t17 := IntKind.i64.wrap (t16 + c15);
 some t17
 else
 none)
 else
 none)
 else
 none)
 else
 none))
 else
 none)
 else
 let t18 := IntKind.i64.wrap (s2.tdiv 32);
 let t19 : Int := s2.tmod 32;
 (if (decide (bit3 = t18)) = true then
 let t20 := IntKind.i64.wrap (t19 + 1);
 let t21 := imin t20 31;
 let t22 := IntKind.i64.wrap (32 * t18);
 let t23 := IntKind.i64.wrap (t22 + t21);
 some t23
 else
 (if (decide (t19 = 0)) = true then
 let t24 := IntKind.i64.wrap (32 * bit3);
 let t25 := IntKind.i64.wrap (t24 + t19);
 some t25
 else
 let t26 := IntKind.i64.wrap (t19.tdiv 4);
 let t27 := IntKind.i64.wrap (1 + t26);
 let t28 := IntKind.i64.wrap (t19 - t27);
 let t29 := IntKind.i64.wrap (32 * t18);
 let t30 := IntKind.i64.wrap (t29 + t28);
 some t30)))
theorem coder_next_F_le (fuel : Nat) (kind1 s2 bit3 : Int) : Ole (coder_next_F fuel kind1 s2 bit3) (coder_next kind1 s2 bit3) := by
  rw [coder_next_eq]; unfold coder_next_F; try dsimp only
  repeat' first | with_reducible exact Ole.refl _ | refine Ole.ite ?_ ?_ | refine Ole.iter fun _ => ?_ | refine Ole.elim (fun _ => ?_) (fun _ => ?_) | refine Ole.bind ?_ fun _ => ?_ | refine Ole.demD ?_ ?_
noncomputable def coder_interval_take_F (fuel : Nat) (ctx1 bit2 mid3 b4 b5 b6 : Int) (b7 : List Int) (b8 b9 b10 : Int) (b11 : Bool) (b12 : List Int) : Option (Int × Int × Int × (List Int) × Int × Int × Int × Bool × (List Int)) :=
 ((if (decide (bit2 = 1)) = true then
 some (b4, b5, mid3, b7, b8, b9, b10, b11, b12)
 else
 let t13 := IntKind.u64.wrap (mid3 + 1);
 some (b4, t13, b6, b7, b8, b9, b10, b11, b12)) : Option (Int × Int × Int × (List Int) × Int × Int × Int × Bool × (List Int))).bind (fun p14 =>
 let b15 := p14.1;
 let b16 := p14.2.1;
 let b17 := p14.2.2.1;
 let b18 := p14.2.2.2.1;
 let b19 := p14.2.2.2.2.1;
 let b20 := p14.2.2.2.2.2.1;
 let b21 := p14.2.2.2.2.2.2.1;
 let b22 := p14.2.2.2.2.2.2.2.1;
 let b23 := p14.2.2.2.2.2.2.2.2;
 (if 0 ≤ ctx1 ∧ ctx1 < (b23.length : Int) then
 let t24 : Int := rd b23 ctx1;
 (coder_next_F fuel b15 t24 bit2).bind fun q25 =>
 (if 0 ≤ ctx1 ∧ ctx1 < (b23.length : Int) then
 let w26 : List Int := b23.set ctx1.toNat q25;
 some (b15, b16, b17, b18, b19, b20, b21, b22, w26)
 else
 none)
 else
 none))
theorem coder_interval_take_F_le (fuel : Nat) (ctx1 bit2 mid3 b4 b5 b6 : Int) (b7 : List Int) (b8 b9 b10 : Int) (b11 : Bool) (b12 : List Int) : Ole (coder_interval_take_F fuel ctx1 bit2 mid3 b4 b5 b6 b7 b8 b9 b10 b11 b12) (coder_interval_take ctx1 bit2 mid3 b4 b5 b6 b7 b8 b9 b10 b11 b12) := by
  rw [coder_interval_take_eq]; unfold coder_interval_take_F; try dsimp only
  repeat' first | with_reducible exact Ole.refl _ | refine Ole.ite ?_ ?_ | with_reducible exact coder_next_F_le .. | refine Ole.iter fun _ => ?_ | refine Ole.elim (fun _ => ?_) (fun _ => ?_) | refine Ole.bind ?_ fun _ => ?_ | refine Ole.demD ?_ ?_
noncomputable def coder_Decoder_Get_loop12_F (fuel : Nat) (s51 : Int × Int × Int × (List Int) × Int × Int × Int × Bool × (List Int)) : Option ((Int × Int × Int × (List Int) × Int × Int × Int × Bool × (List Int)) ⊕ (Int × Int × Int × (List Int) × Int × Int × Int × Bool × (List Int))) :=
 let b52 := s51.1;
 let b53 := s51.2.1;
 let b54 := s51.2.2.1;
 let b55 := s51.2.2.2.1;
 let b56 := s51.2.2.2.2.1;
 let b57 := s51.2.2.2.2.2.1;
 let b58 := s51.2.2.2.2.2.2.1;
 let b59 := s51.2.2.2.2.2.2.2.1;
 let b60 := s51.2.2.2.2.2.2.2.2;
 (coder_interval_same_F fuel b52 b53 b54 b55 b56 b57 b58 b59 b60).bind fun q61 =>
 let tr62 := q61.1;
 let tr63 := q61.2.1;
 let tr64 := q61.2.2.1;
 let tr65 := q61.2.2.2.1;
 let tr66 := q61.2.2.2.2.1;
 let tr67 := q61.2.2.2.2.2.1;
 let tr68 := q61.2.2.2.2.2.2.1;
 let tr69 := q61.2.2.2.2.2.2.2.1;
 let tr70 := q61.2.2.2.2.2.2.2.2.1;
 let tr71 := q61.2.2.2.2.2.2.2.2.2;
 (if tr62 = true then
 (coder_interval_lose_F fuel tr63 tr64 tr65 tr66 tr67 tr68 tr69 tr70 tr71).bind fun q72 =>
 let tr73 := q72.1;
 let tr74 := q72.2.1;
 let tr75 := q72.2.2.1;
 let tr76 := q72.2.2.2.1;
 let tr77 := q72.2.2.2.2.1;
 let tr78 := q72.2.2.2.2.2.1;
 let tr79 := q72.2.2.2.2.2.2.1;
 let tr80 := q72.2.2.2.2.2.2.2.1;
 let tr81 := q72.2.2.2.2.2.2.2.2.1;
 let tr82 := q72.2.2.2.2.2.2.2.2.2;
 (coder_Decoder_shift_2_F fuel tr74 tr75 tr76 tr77 tr78 tr79 tr80 tr81 tr82).bind fun q83 =>
 let tr84 := q83.1;
 let tr85 := q83.2.1;
 let tr86 := q83.2.2.1;
 let tr87 := q83.2.2.2.1;
 let tr88 := q83.2.2.2.2.1;
 let tr89 := q83.2.2.2.2.2.1;
 let tr90 := q83.2.2.2.2.2.2.1;
 let tr91 := q83.2.2.2.2.2.2.2.1;
 let tr92 := q83.2.2.2.2.2.2.2.2;
 some (Sum.inl (tr84, tr85, tr86, tr87, tr88, tr89, tr90, tr91, tr92))
 else
 some (Sum.inr (tr63, tr64, tr65, tr66, tr67, tr68, tr69, tr70, tr71)))
theorem coder_Decoder_Get_loop12_F_le (fuel : Nat) (s51 : Int × Int × Int × (List Int) × Int × Int × Int × Bool × (List Int)) : Ole (coder_Decoder_Get_loop12_F fuel s51) (coder_Decoder_Get_loop12 s51) := by
  unfold coder_Decoder_Get_loop12_F coder_Decoder_Get_loop12; try dsimp only
  repeat' first | with_reducible exact Ole.refl _ | refine Ole.ite ?_ ?_ | with_reducible exact coder_Decoder_none_F_le .. | with_reducible exact coder_Decoder_shift_2_F_le .. | with_reducible exact coder_interval_lose_F_le .. | with_reducible exact coder_interval_mid_F_le .. | with_reducible exact coder_interval_same_F_le .. | with_reducible exact coder_interval_take_F_le .. | refine Ole.iter fun _ => ?_ | refine Ole.elim (fun _ => ?_) (fun _ => ?_) | refine Ole.bind ?_ fun _ => ?_ | refine Ole.demD ?_ ?_
noncomputable def coder_Decoder_Get_F (fuel : Nat) (ctx1 b2 b3 b4 : Int) (b5 : List Int) (b6 b7 b8 : Int) (b9 : Bool) (b10 : List Int) : Option (Int × Int × Int × Int × Int × (List Int) × Int × Int × Int × Bool × (List Int)) :=
 (coder_Decoder_none_F fuel b2 b3 b4 b5 b6 b7 b8 b9 b10).bind fun q11 =>
 let tr12 := q11.1;
 let tr13 := q11.2.1;
 let tr14 := q11.2.2.1;
 let tr15 := q11.2.2.2.1;
 let tr16 := q11.2.2.2.2.1;
 let tr17 := q11.2.2.2.2.2.1;
 let tr18 := q11.2.2.2.2.2.2.1;
 let tr19 := q11.2.2.2.2.2.2.2.1;
 let tr20 := q11.2.2.2.2.2.2.2.2.1;
 let tr21 := q11.2.2.2.2.2.2.2.2.2;
 ((if tr12 = true then
 some (Sum.inr (0, 7))
 else
 ((if (decide (ctx1 < 0)) = true then
 some true
 else
 some (decide (ctx1 ≥ ((tr21.length : Nat) : Int)))) : Option (Bool)).bind (fun v22 =>
 (if v22 = true then
 some (Sum.inr (0, 2))
 else
 (if tr20 = true then
 some (Sum.inr (0, 6))
 else
 some (Sum.inl ()))))) : Option ((Unit) ⊕ (Int × Int))).bind (fun o27 =>
 (Sum.elim (fun (p23 : Unit) =>
 (coder_interval_mid_F fuel ctx1 tr13 tr14 tr15 tr16 tr17 tr18 tr19 tr20 tr21).bind fun q28 =>
 let tr29 := q28.1;
 let tr30 := q28.2.1;
 let tr31 := q28.2.2.1;
 let tr32 := q28.2.2.2.1;
 let tr33 := q28.2.2.2.2.1;
 let tr34 := q28.2.2.2.2.2.1;
 let tr35 := q28.2.2.2.2.2.2.1;
 let tr36 := q28.2.2.2.2.2.2.2.1;
 let tr37 := q28.2.2.2.2.2.2.2.2.1;
 let tr38 := q28.2.2.2.2.2.2.2.2.2;
 ((if (decide (tr35 ≤ tr29)) = true then
 some 1
 else
 some 0) : Option (Int)).bind (fun bit39 =>
 (if 0 ≤ ctx1 ∧ ctx1 < (tr38.length : Int) then
 let t40 : Int := rd tr38 ctx1;
 (coder_interval_take_F fuel ctx1 bit39 tr29 tr30 tr31 tr32 tr33 tr34 tr35 tr36 tr37 tr38).bind fun q41 =>
 let tr42 := q41.1;
 let tr43 := q41.2.1;
 let tr44 := q41.2.2.1;
 let tr45 := q41.2.2.2.1;
 let tr46 := q41.2.2.2.2.1;
 let tr47 := q41.2.2.2.2.2.1;
 let tr48 := q41.2.2.2.2.2.2.1;
 let tr49 := q41.2.2.2.2.2.2.2.1;
 let tr50 := q41.2.2.2.2.2.2.2.2;
 (iter (coder_Decoder_Get_loop12_F fuel) fuel (tr42, tr43, tr44, tr45, tr46, tr47, tr48, tr49, tr50)).bind (fun p93 =>
 let b94 := p93.1;
 let b95 := p93.2.1;
 let b96 := p93.2.2.1;
 let b97 := p93.2.2.2.1;
 let b98 := p93.2.2.2.2.1;
 let b99 := p93.2.2.2.2.2.1;
 let b100 := p93.2.2.2.2.2.2.1;
 let b101 := p93.2.2.2.2.2.2.2.1;
 let b102 := p93.2.2.2.2.2.2.2.2;
 (if (decide (b100 > 4)) = true then
 (if 0 ≤ ctx1 ∧ ctx1 < (b102.length : Int) then
 let w103 : List Int := b102.set ctx1.toNat t40;
 some (0, 6, tr30, tr31, tr32, tr33, tr34, tr35, tr36, true, w103)
 else
 none)
 else
 some (bit39, 0, b94, b95, b96, b97, b98, b99, b100, b101, b102)))
 else
 none)))
 (fun (p24 : Int × Int) =>
 let v25 := p24.1;
 let v26 := p24.2;
 some (v25, v26, tr13, tr14, tr15, tr16, tr17, tr18, tr19, tr20, tr21)) o27))
theorem coder_Decoder_Get_F_le (fuel : Nat) (ctx1 b2 b3 b4 : Int) (b5 : List Int) (b6 b7 b8 : Int) (b9 : Bool) (b10 : List Int) : Ole (coder_Decoder_Get_F fuel ctx1 b2 b3 b4 b5 b6 b7 b8 b9 b10) (coder_Decoder_Get ctx1 b2 b3 b4 b5 b6 b7 b8 b9 b10) := by
  rw [coder_Decoder_Get_eq]; unfold coder_Decoder_Get_F; try dsimp only
  repeat' first | with_reducible exact Ole.refl _ | refine Ole.ite ?_ ?_ | with_reducible exact coder_Decoder_none_F_le .. | with_reducible exact coder_Decoder_shift_2_F_le .. | with_reducible exact coder_interval_lose_F_le .. | with_reducible exact coder_interval_mid_F_le .. | with_reducible exact coder_interval_same_F_le .. | with_reducible exact coder_interval_take_F_le .. | with_reducible exact coder_Decoder_Get_loop12_F_le .. | refine Ole.iter fun _ => ?_ | refine Ole.elim (fun _ => ?_) (fun _ => ?_) | refine Ole.bind ?_ fun _ => ?_ | refine Ole.demD ?_ ?_
noncomputable def coder_Decoder_Model_F (fuel : Nat) (b1 b2 b3 : Int) (b4 : List Int) (b5 b6 b7 : Int) (b8 : Bool) (b9 : List Int) : Option (Int × (List Int) × Int × Int × Int × (List Int) × Int × Int × Int × Bool × (List Int)) :=
 (coder_Decoder_none_F fuel b1 b2 b3 b4 b5 b6 b7 b8 b9).bind fun q10 =>
 let tr11 := q10.1;
 let tr12 := q10.2.1;
 let tr13 := q10.2.2.1;
 let tr14 := q10.2.2.2.1;
 let tr15 := q10.2.2.2.2.1;
 let tr16 := q10.2.2.2.2.2.1;
 let tr17 := q10.2.2.2.2.2.2.1;
 let tr18 := q10.2.2.2.2.2.2.2.1;
 let tr19 := q10.2.2.2.2.2.2.2.2.1;
 let tr20 := q10.2.2.2.2.2.2.2.2.2;
 (if tr11 = true then
 some (0, [], tr12, tr13, tr14, tr15, tr16, tr17, tr18, tr19, tr20)
 else
 (coder_clone_F fuel tr12 tr20).bind fun q21 =>
 let tr22 := q21.1;
 let tr23 := q21.2;
 some (tr22, tr23, tr12, tr13, tr14, tr15, tr16, tr17, tr18, tr19, tr20))
theorem coder_Decoder_Model_F_le (fuel : Nat) (b1 b2 b3 : Int) (b4 : List Int) (b5 b6 b7 : Int) (b8 : Bool) (b9 : List Int) : Ole (coder_Decoder_Model_F fuel b1 b2 b3 b4 b5 b6 b7 b8 b9) (coder_Decoder_Model b1 b2 b3 b4 b5 b6 b7 b8 b9) := by
  rw [coder_Decoder_Model_eq]; unfold coder_Decoder_Model_F; try dsimp only
  repeat' first | with_reducible exact Ole.refl _ | refine Ole.ite ?_ ?_ | with_reducible exact coder_Decoder_none_F_le .. | with_reducible exact coder_clone_F_le .. | refine Ole.iter fun _ => ?_ | refine Ole.elim (fun _ => ?_) (fun _ => ?_) | refine Ole.bind ?_ fun _ => ?_ | refine Ole.demD ?_ ?_
noncomputable def number_fits_F (fuel : Nat) (m1 : Int) (m2 : List Int) (base3 n4 : Int) : Option Int :=
 (if (decide (base3 < 0)) = true then
 some 2
 else
 let t5 := IntKind.i64.wrap (((m2.length : Nat) : Int) - n4);
 (if (decide (base3 > t5)) = true then
 some 2
 else
 some 0))
theorem number_fits_F_le (fuel : Nat) (m1 : Int) (m2 : List Int) (base3 n4 : Int) : Ole (number_fits_F fuel m1 m2 base3 n4) (number_fits m1 m2 base3 n4) := by
  rw [number_fits_eq]; unfold number_fits_F; try dsimp only
  repeat' first | with_reducible exact Ole.refl _ | refine Ole.ite ?_ ?_ | refine Ole.iter fun _ => ?_ | refine Ole.elim (fun _ => ?_) (fun _ => ?_) | refine Ole.bind ?_ fun _ => ?_ | refine Ole.demD ?_ ?_
noncomputable def number_tail_take_F (fuel : Nat) (b1 : Int) : Option (Int × Int) :=
 let t2 := IntKind.i64.wrap (b1 + 1);
 let t3 := imin t2 47;
 some (b1, t3)
theorem number_tail_take_F_le (fuel : Nat) (b1 : Int) : Ole (number_tail_take_F fuel b1) (number_tail_take b1) := by
  rw [number_tail_take_eq]; unfold number_tail_take_F; try dsimp only
  repeat' first | with_reducible exact Ole.refl _ | refine Ole.ite ?_ ?_ | refine Ole.iter fun _ => ?_ | refine Ole.elim (fun _ => ?_) (fun _ => ?_) | refine Ole.bind ?_ fun _ => ?_ | refine Ole.demD ?_ ?_
noncomputable def number_get_loop5_F (fuel : Nat) (base1 : Int) (s24 : Int × Int × Int × Int × (List Int) × Int × Int × Int × Bool × (List Int) × Bool × Int) : Option ((Int × Int × Int × Int × (List Int) × Int × Int × Int × Bool × (List Int) × Bool × Int) ⊕ ((Int × Int × Int × Int × (List Int) × Int × Int × Int × Bool × (List Int) × Bool × Int) ⊕ (Int × Int × Int × Int × (List Int) × Int × Int × Int × Bool × (List Int) × Bool × Int))) :=
 let c25 := s24.1;
 let b26 := s24.2.1;
 let b27 := s24.2.2.1;
 let b28 := s24.2.2.2.1;
 let b29 := s24.2.2.2.2.1;
 let b30 := s24.2.2.2.2.2.1;
 let b31 := s24.2.2.2.2.2.2.1;
 let b32 := s24.2.2.2.2.2.2.2.1;
 let b33 := s24.2.2.2.2.2.2.2.2.1;
 let b34 := s24.2.2.2.2.2.2.2.2.2.1;
 let b35 := s24.2.2.2.2.2.2.2.2.2.2.1;
 let b36 := s24.2.2.2.2.2.2.2.2.2.2.2;
 (if (decide (c25 < 20)) = true then
 let t37 := IntKind.i64.wrap (base1 + 1);
 let t38 := IntKind.i64.wrap (t37 + c25);
 (coder_Decoder_Get_F fuel t38 b26 b27 b28 b29 b30 b31 b32 b33 b34).bind fun q39 =>
 let tr40 := q39.1;
 let tr41 := q39.2.1;
 let tr42 := q39.2.2.1;
 let tr43 := q39.2.2.2.1;
 let tr44 := q39.2.2.2.2.1;
 let tr45 := q39.2.2.2.2.2.1;
 let tr46 := q39.2.2.2.2.2.2.1;
 let tr47 := q39.2.2.2.2.2.2.2.1;
 let tr48 := q39.2.2.2.2.2.2.2.2.1;
 let tr49 := q39.2.2.2.2.2.2.2.2.2.1;
 let tr50 := q39.2.2.2.2.2.2.2.2.2.2;
 (if (!decide (tr41 = 0)) = true then
 some (Sum.inr (Sum.inr (tr41, tr42, tr43, tr44, tr45, tr46, tr47, tr48, tr49, tr50, false, 0)))
 else
 (if (decide (tr40 = 0)) = true then
 some (Sum.inr (Sum.inl (c25, tr42, tr43, tr44, tr45, tr46, tr47, tr48, tr49, tr50, b35, b36)))
 else
 let t51 := IntKind.i64.wrap (c25 + 1);
 some (Sum.inl (t51, tr42, tr43, tr44, tr45, tr46, tr47, tr48, tr49, tr50, b35, b36))))
 else
 some (Sum.inr (Sum.inl (c25, b26, b27, b28, b29, b30, b31, b32, b33, b34, b35, b36))))
theorem number_get_loop5_F_le (fuel : Nat) (base1 : Int) (s24 : Int × Int × Int × Int × (List Int) × Int × Int × Int × Bool × (List Int) × Bool × Int) : Ole (number_get_loop5_F fuel base1 s24) (number_get_loop5 base1 s24) := by
  unfold number_get_loop5_F number_get_loop5; try dsimp only
  repeat' first | with_reducible exact Ole.refl _ | refine Ole.ite ?_ ?_ | with_reducible exact coder_Decoder_Get_F_le .. | with_reducible exact number_tail_take_F_le .. | refine Ole.iter fun _ => ?_ | refine Ole.elim (fun _ => ?_) (fun _ => ?_) | refine Ole.bind ?_ fun _ => ?_ | refine Ole.demD ?_ ?_
noncomputable def number_get_loop14_F (fuel : Nat) (base1 c53 : Int) (s79 : Int × Int × Int × Int × Int × (List Int) × Int × Int × Int × Bool × (List Int) × Bool × Int × Int) : Option ((Int × Int × Int × Int × Int × (List Int) × Int × Int × Int × Bool × (List Int) × Bool × Int × Int) ⊕ ((Int × Int × Int × Int × (List Int) × Int × Int × Int × Bool × (List Int) × Bool × Int × Int) ⊕ (Int × Int × Int × Int × (List Int) × Int × Int × Int × Bool × (List Int) × Bool × Int × Int))) :=
 let v80 := s79.1;
 let v81 := s79.2.1;
 let b82 := s79.2.2.1;
 let b83 := s79.2.2.2.1;
 let b84 := s79.2.2.2.2.1;
 let b85 := s79.2.2.2.2.2.1;
 let b86 := s79.2.2.2.2.2.2.1;
 let b87 := s79.2.2.2.2.2.2.2.1;
 let b88 := s79.2.2.2.2.2.2.2.2.1;
 let b89 := s79.2.2.2.2.2.2.2.2.2.1;
 let b90 := s79.2.2.2.2.2.2.2.2.2.2.1;
 let b91 := s79.2.2.2.2.2.2.2.2.2.2.2.1;
 let b92 := s79.2.2.2.2.2.2.2.2.2.2.2.2.1;
 let b93 := s79.2.2.2.2.2.2.2.2.2.2.2.2.2;
 (if (decide (v81 < c53)) = true then
 let t94 := IntKind.i64.wrap (23 + c53);
 ((if (decide (v81 > 0)) = true then
 (number_tail_take_F fuel b93).bind fun q95 =>
 let tr96 := q95.1;
 let tr97 := q95.2;
 some (tr96, tr97)
 else
 some (t94, b93)) : Option (Int × Int)).bind (fun p98 =>
 let ctx99 := p98.1;
 let b100 := p98.2;
 let t101 := IntKind.i64.wrap (base1 + ctx99);
 (coder_Decoder_Get_F fuel t101 b82 b83 b84 b85 b86 b87 b88 b89 b90).bind fun q102 =>
 let tr103 := q102.1;
 let tr104 := q102.2.1;
 let tr105 := q102.2.2.1;
 let tr106 := q102.2.2.2.1;
 let tr107 := q102.2.2.2.2.1;
 let tr108 := q102.2.2.2.2.2.1;
 let tr109 := q102.2.2.2.2.2.2.1;
 let tr110 := q102.2.2.2.2.2.2.2.1;
 let tr111 := q102.2.2.2.2.2.2.2.2.1;
 let tr112 := q102.2.2.2.2.2.2.2.2.2.1;
 let tr113 := q102.2.2.2.2.2.2.2.2.2.2;
 (if (!decide (tr104 = 0)) = true then
 some (Sum.inr (Sum.inr (tr104, tr105, tr106, tr107, tr108, tr109, tr110, tr111, tr112, tr113, false, 0, b100)))
 else
 let t114 := IntKind.i64.wrap (2 * v80);
 let t115 := IntKind.i64.wrap (t114 + tr103);
 let t116 := IntKind.i64.wrap (v81 + 1);
 some (Sum.inl (t115, t116, tr105, tr106, tr107, tr108, tr109, tr110, tr111, tr112, tr113, b91, b92, b100))))
 else
 some (Sum.inr (Sum.inl (v80, b82, b83, b84, b85, b86, b87, b88, b89, b90, b91, b92, b93))))
theorem number_get_loop14_F_le (fuel : Nat) (base1 c53 : Int) (s79 : Int × Int × Int × Int × Int × (List Int) × Int × Int × Int × Bool × (List Int) × Bool × Int × Int) : Ole (number_get_loop14_F fuel base1 c53 s79) (number_get_loop14 base1 c53 s79) := by
  unfold number_get_loop14_F number_get_loop14; try dsimp only
  repeat' first | with_reducible exact Ole.refl _ | refine Ole.ite ?_ ?_ | with_reducible exact coder_Decoder_Get_F_le .. | with_reducible exact number_tail_take_F_le .. | with_reducible exact number_get_loop5_F_le .. | refine Ole.iter fun _ => ?_ | refine Ole.elim (fun _ => ?_) (fun _ => ?_) | refine Ole.bind ?_ fun _ => ?_ | refine Ole.demD ?_ ?_
noncomputable def number_get_F (fuel : Nat) (base1 b2 b3 b4 : Int) (b5 : List Int) (b6 b7 b8 : Int) (b9 : Bool) (b10 : List Int) : Option (Bool × Int × Int × Int × Int × Int × (List Int) × Int × Int × Int × Bool × (List Int)) :=
 (coder_Decoder_Get_F fuel base1 b2 b3 b4 b5 b6 b7 b8 b9 b10).bind fun q11 =>
 let tr12 := q11.1;
 let tr13 := q11.2.1;
 let tr14 := q11.2.2.1;
 let tr15 := q11.2.2.2.1;
 let tr16 := q11.2.2.2.2.1;
 let tr17 := q11.2.2.2.2.2.1;
 let tr18 := q11.2.2.2.2.2.2.1;
 let tr19 := q11.2.2.2.2.2.2.2.1;
 let tr20 := q11.2.2.2.2.2.2.2.2.1;
 let tr21 := q11.2.2.2.2.2.2.2.2.2.1;
 let tr22 := q11.2.2.2.2.2.2.2.2.2.2;
 ((if (!decide (tr13 = 0)) = true then
 some true
 else
 some (decide (tr12 = 1))) : Option (Bool)).bind (fun v23 =>
 (if v23 = true then
 some (decide (tr13 = 0), 0, tr13, tr14, tr15, tr16, tr17, tr18, tr19, tr20, tr21, tr22)
 else
 (iter (number_get_loop5_F fuel base1) fuel (0, tr14, tr15, tr16, tr17, tr18, tr19, tr20, tr21, tr22, false, 0)).bind (fun o78 =>
 (Sum.elim (fun (p52 : Int × Int × Int × Int × (List Int) × Int × Int × Int × Bool × (List Int) × Bool × Int) =>
 let c53 := p52.1;
 let b54 := p52.2.1;
 let b55 := p52.2.2.1;
 let b56 := p52.2.2.2.1;
 let b57 := p52.2.2.2.2.1;
 let b58 := p52.2.2.2.2.2.1;
 let b59 := p52.2.2.2.2.2.2.1;
 let b60 := p52.2.2.2.2.2.2.2.1;
 let b61 := p52.2.2.2.2.2.2.2.2.1;
 let b62 := p52.2.2.2.2.2.2.2.2.2.1;
 let b63 := p52.2.2.2.2.2.2.2.2.2.2.1;
 let b64 := p52.2.2.2.2.2.2.2.2.2.2.2;
 (iter (number_get_loop14_F fuel base1 c53) fuel (1, 0, b54, b55, b56, b57, b58, b59, b60, b61, b62, b63, b64, 44)).bind (fun o161 =>
 (Sum.elim (fun (p133 : Int × Int × Int × Int × (List Int) × Int × Int × Int × Bool × (List Int) × Bool × Int × Int) =>
 let v134 := p133.1;
 let b135 := p133.2.1;
 let b136 := p133.2.2.1;
 let b137 := p133.2.2.2.1;
 let b138 := p133.2.2.2.2.1;
 let b139 := p133.2.2.2.2.2.1;
 let b140 := p133.2.2.2.2.2.2.1;
 let b141 := p133.2.2.2.2.2.2.2.1;
 let b142 := p133.2.2.2.2.2.2.2.2.1;
 let b143 := p133.2.2.2.2.2.2.2.2.2.1;
 let b144 := p133.2.2.2.2.2.2.2.2.2.2.1;
 let b145 := p133.2.2.2.2.2.2.2.2.2.2.2.1;
 let b146 := p133.2.2.2.2.2.2.2.2.2.2.2.2;
 (if (decide (v134 > 1048577)) = true then
 some (false, 0, 3, b135, b136, b137, b138, b139, b140, b141, b142, b143)
 else
 (if (decide (v134 = 1)) = true then
 some (false, 0, 0, b135, b136, b137, b138, b139, b140, b141, b142, b143)
 else
 let t162 := IntKind.i64.wrap (base1 + 22);
 (coder_Decoder_Get_F fuel t162 b135 b136 b137 b138 b139 b140 b141 b142 b143).bind fun q163 =>
 let tr164 := q163.1;
 let tr165 := q163.2.1;
 let tr166 := q163.2.2.1;
 let tr167 := q163.2.2.2.1;
 let tr168 := q163.2.2.2.2.1;
 let tr169 := q163.2.2.2.2.2.1;
 let tr170 := q163.2.2.2.2.2.2.1;
 let tr171 := q163.2.2.2.2.2.2.2.1;
 let tr172 := q163.2.2.2.2.2.2.2.2.1;
 let tr173 := q163.2.2.2.2.2.2.2.2.2.1;
 let tr174 := q163.2.2.2.2.2.2.2.2.2.2;
 (if (!decide (tr165 = 0)) = true then
 some (false, 0, tr165, tr166, tr167, tr168, tr169, tr170, tr171, tr172, tr173, tr174)
 else
 let t175 := IntKind.i64.wrap (v134 - 1);
 let t176 := IntKind.i64.wrap (2 * tr164);
 let t177 := IntKind.i64.wrap (1 - t176);
 let t178 := IntKind.i64.wrap (t175 * t177);
 some (false, t178, 0, tr166, tr167, tr168, tr169, tr170, tr171, tr172, tr173, tr174)))))
 (fun (p147 : Int × Int × Int × Int × (List Int) × Int × Int × Int × Bool × (List Int) × Bool × Int × Int) =>
 let v148 := p147.1;
 let b149 := p147.2.1;
 let b150 := p147.2.2.1;
 let b151 := p147.2.2.2.1;
 let b152 := p147.2.2.2.2.1;
 let b153 := p147.2.2.2.2.2.1;
 let b154 := p147.2.2.2.2.2.2.1;
 let b155 := p147.2.2.2.2.2.2.2.1;
 let b156 := p147.2.2.2.2.2.2.2.2.1;
 let b157 := p147.2.2.2.2.2.2.2.2.2.1;
 let b158 := p147.2.2.2.2.2.2.2.2.2.2.1;
 let b159 := p147.2.2.2.2.2.2.2.2.2.2.2.1;
 let b160 := p147.2.2.2.2.2.2.2.2.2.2.2.2;
 some (b158, b159, v148, b149, b150, b151, b152, b153, b154, b155, b156, b157)) o161)))
 (fun (p65 : Int × Int × Int × Int × (List Int) × Int × Int × Int × Bool × (List Int) × Bool × Int) =>
 let v66 := p65.1;
 let b67 := p65.2.1;
 let b68 := p65.2.2.1;
 let b69 := p65.2.2.2.1;
 let b70 := p65.2.2.2.2.1;
 let b71 := p65.2.2.2.2.2.1;
 let b72 := p65.2.2.2.2.2.2.1;
 let b73 := p65.2.2.2.2.2.2.2.1;
 let b74 := p65.2.2.2.2.2.2.2.2.1;
 let b75 := p65.2.2.2.2.2.2.2.2.2.1;
 let b76 := p65.2.2.2.2.2.2.2.2.2.2.1;
 let b77 := p65.2.2.2.2.2.2.2.2.2.2.2;
 some (b76, b77, v66, b67, b68, b69, b70, b71, b72, b73, b74, b75)) o78))))
theorem number_get_F_le (fuel : Nat) (base1 b2 b3 b4 : Int) (b5 : List Int) (b6 b7 b8 : Int) (b9 : Bool) (b10 : List Int) : Ole (number_get_F fuel base1 b2 b3 b4 b5 b6 b7 b8 b9 b10) (number_get base1 b2 b3 b4 b5 b6 b7 b8 b9 b10) := by
  rw [number_get_eq]; unfold number_get_F; try dsimp only
  repeat' first | with_reducible exact Ole.refl _ | refine Ole.ite ?_ ?_ | with_reducible exact coder_Decoder_Get_F_le .. | with_reducible exact number_tail_take_F_le .. | with_reducible exact number_get_loop5_F_le .. | with_reducible exact number_get_loop14_F_le .. | refine Ole.iter fun _ => ?_ | refine Ole.elim (fun _ => ?_) (fun _ => ?_) | refine Ole.bind ?_ fun _ => ?_ | refine Ole.demD ?_ ?_
noncomputable def number_Get_F (fuel : Nat) (base1 b2 b3 b4 : Int) (b5 : List Int) (b6 b7 b8 : Int) (b9 : Bool) (b10 : List Int) : Option (Bool × Int × Int × Int × Int × Int × (List Int) × Int × Int × Int × Bool × (List Int)) :=
 (coder_Decoder_Get_F fuel (-1) b2 b3 b4 b5 b6 b7 b8 b9 b10).bind fun q11 =>
 let tr12 := q11.1;
 let tr13 := q11.2.1;
 let tr14 := q11.2.2.1;
 let tr15 := q11.2.2.2.1;
 let tr16 := q11.2.2.2.2.1;
 let tr17 := q11.2.2.2.2.2.1;
 let tr18 := q11.2.2.2.2.2.2.1;
 let tr19 := q11.2.2.2.2.2.2.2.1;
 let tr20 := q11.2.2.2.2.2.2.2.2.1;
 let tr21 := q11.2.2.2.2.2.2.2.2.2.1;
 let tr22 := q11.2.2.2.2.2.2.2.2.2.2;
 (if (decide (tr13 = 7)) = true then
 some (false, 0, tr13, tr14, tr15, tr16, tr17, tr18, tr19, tr20, tr21, tr22)
 else
 (coder_Decoder_Model_F fuel tr14 tr15 tr16 tr17 tr18 tr19 tr20 tr21 tr22).bind fun q23 =>
 let tr24 := q23.1;
 let tr25 := q23.2.1;
 let tr26 := q23.2.2.1;
 let tr27 := q23.2.2.2.1;
 let tr28 := q23.2.2.2.2.1;
 let tr29 := q23.2.2.2.2.2.1;
 let tr30 := q23.2.2.2.2.2.2.1;
 let tr31 := q23.2.2.2.2.2.2.2.1;
 let tr32 := q23.2.2.2.2.2.2.2.2.1;
 let tr33 := q23.2.2.2.2.2.2.2.2.2.1;
 let tr34 := q23.2.2.2.2.2.2.2.2.2.2;
 (number_fits_F fuel tr24 tr25 base1 48).bind fun q35 =>
 (if (!decide (q35 = 0)) = true then
 some (false, 0, q35, tr26, tr27, tr28, tr29, tr30, tr31, tr32, tr33, tr34)
 else
 (number_get_F fuel base1 tr26 tr27 tr28 tr29 tr30 tr31 tr32 tr33 tr34).bind fun q36 =>
 let tr37 := q36.1;
 let tr38 := q36.2.1;
 let tr39 := q36.2.2.1;
 let tr40 := q36.2.2.2.1;
 let tr41 := q36.2.2.2.2.1;
 let tr42 := q36.2.2.2.2.2.1;
 let tr43 := q36.2.2.2.2.2.2.1;
 let tr44 := q36.2.2.2.2.2.2.2.1;
 let tr45 := q36.2.2.2.2.2.2.2.2.1;
 let tr46 := q36.2.2.2.2.2.2.2.2.2.1;
 let tr47 := q36.2.2.2.2.2.2.2.2.2.2.1;
 let tr48 := q36.2.2.2.2.2.2.2.2.2.2.2;
 some (tr37, tr38, tr39, tr40, tr41, tr42, tr43, tr44, tr45, tr46, tr47, tr48)))
theorem number_Get_F_le (fuel : Nat) (base1 b2 b3 b4 : Int) (b5 : List Int) (b6 b7 b8 : Int) (b9 : Bool) (b10 : List Int) : Ole (number_Get_F fuel base1 b2 b3 b4 b5 b6 b7 b8 b9 b10) (number_Get base1 b2 b3 b4 b5 b6 b7 b8 b9 b10) := by
  rw [number_Get_eq]; unfold number_Get_F; try dsimp only
  repeat' first | with_reducible exact Ole.refl _ | refine Ole.ite ?_ ?_ | with_reducible exact coder_Decoder_Get_F_le .. | with_reducible exact coder_Decoder_Model_F_le .. | with_reducible exact number_fits_F_le .. | with_reducible exact number_get_F_le .. | refine Ole.iter fun _ => ?_ | refine Ole.elim (fun _ => ?_) (fun _ => ?_) | refine Ole.bind ?_ fun _ => ?_ | refine Ole.demD ?_ ?_
noncomputable def sort_asked_1_F (fuel : Nat) (s1 : Int) : Option Bool :=
 (if (decide (s1 < 0)) = true then
 some true
 else
 some (decide (s1 ≥ 257)))
theorem sort_asked_1_F_le (fuel : Nat) (s1 : Int) : Ole (sort_asked_1_F fuel s1) (sort_asked_1 s1) := by
  rw [sort_asked_1_eq]; unfold sort_asked_1_F; try dsimp only
  repeat' first | with_reducible exact Ole.refl _ | refine Ole.ite ?_ ?_ | refine Ole.iter fun _ => ?_ | refine Ole.elim (fun _ => ?_) (fun _ => ?_) | refine Ole.bind ?_ fun _ => ?_ | refine Ole.demD ?_ ?_
noncomputable def slices_IndexFunc_int_int_2_loop2_F (fuel : Nat) (s1 : List Int) (v2 : Int) : Option ((Int) ⊕ ((Unit) ⊕ (Int))) :=
 (if (decide (v2 < ((s1.length : Nat) : Int))) = true then
 (if 0 ≤ v2 ∧ v2 < (s1.length : Int) then
 (sort_asked_1_F fuel (rd s1 v2)).bind fun q3 =>
 (if q3 = true then
 some (Sum.inr (Sum.inr v2))
 else
 let t4 := IntKind.i64.wrap (v2 + 1);
 some (Sum.inl t4))
 else
 none)
 else
 some (Sum.inr (Sum.inl ())))
theorem slices_IndexFunc_int_int_2_loop2_F_le (fuel : Nat) (s1 : List Int) (v2 : Int) : Ole (slices_IndexFunc_int_int_2_loop2_F fuel s1 v2) (slices_IndexFunc_int_int_2_loop2 s1 v2) := by
  unfold slices_IndexFunc_int_int_2_loop2_F slices_IndexFunc_int_int_2_loop2; try dsimp only
  repeat' first | with_reducible exact Ole.refl _ | refine Ole.ite ?_ ?_ | with_reducible exact sort_asked_1_F_le .. | refine Ole.iter fun _ => ?_ | refine Ole.elim (fun _ => ?_) (fun _ => ?_) | refine Ole.bind ?_ fun _ => ?_ | refine Ole.demD ?_ ?_
noncomputable def slices_IndexFunc_int_int_2_F (fuel : Nat) (s1 : List Int) : Option Int :=
 (iter (slices_IndexFunc_int_int_2_loop2_F fuel s1) fuel 0).bind (fun o10 =>
 (Sum.elim (fun (p8 : Unit) =>
 some (-1))
 (fun (v9 : Int) =>
 some v9) o10))
theorem slices_IndexFunc_int_int_2_F_le (fuel : Nat) (s1 : List Int) : Ole (slices_IndexFunc_int_int_2_F fuel s1) (slices_IndexFunc_int_int_2 s1) := by
  rw [slices_IndexFunc_int_int_2_eq]; unfold slices_IndexFunc_int_int_2_F; try dsimp only
  repeat' first | with_reducible exact Ole.refl _ | refine Ole.ite ?_ ?_ | with_reducible exact sort_asked_1_F_le .. | with_reducible exact slices_IndexFunc_int_int_2_loop2_F_le .. | refine Ole.iter fun _ => ?_ | refine Ole.elim (fun _ => ?_) (fun _ => ?_) | refine Ole.bind ?_ fun _ => ?_ | refine Ole.demD ?_ ?_
noncomputable def slices_ContainsFunc_int_int_F (fuel : Nat) (s1 : List Int) : Option Bool :=
 (slices_IndexFunc_int_int_2_F fuel s1).bind fun q2 =>
 some (decide (q2 ≥ 0))
theorem slices_ContainsFunc_int_int_F_le (fuel : Nat) (s1 : List Int) : Ole (slices_ContainsFunc_int_int_F fuel s1) (slices_ContainsFunc_int_int s1) := by
  rw [slices_ContainsFunc_int_int_eq]; unfold slices_ContainsFunc_int_int_F; try dsimp only
  repeat' first | with_reducible exact Ole.refl _ | refine Ole.ite ?_ ?_ | with_reducible exact slices_IndexFunc_int_int_2_F_le .. | refine Ole.iter fun _ => ?_ | refine Ole.elim (fun _ => ?_) (fun _ => ?_) | refine Ole.bind ?_ fun _ => ?_ | refine Ole.demD ?_ ?_
noncomputable def sort_asked_F (fuel : Nat) (l1 : List Int) : Option Int :=
 (if (decide (((l1.length : Nat) : Int) > 4001)) = true then
 some 4
 else
 (slices_ContainsFunc_int_int_F fuel l1).bind fun q2 =>
 (if q2 = true then
 some 2
 else
 some 0))
theorem sort_asked_F_le (fuel : Nat) (l1 : List Int) : Ole (sort_asked_F fuel l1) (sort_asked l1) := by
  rw [sort_asked_eq]; unfold sort_asked_F; try dsimp only
  repeat' first | with_reducible exact Ole.refl _ | refine Ole.ite ?_ ?_ | with_reducible exact slices_ContainsFunc_int_int_F_le .. | refine Ole.iter fun _ => ?_ | refine Ole.elim (fun _ => ?_) (fun _ => ?_) | refine Ole.bind ?_ fun _ => ?_ | refine Ole.demD ?_ ?_
noncomputable def sort_front_F (fuel : Nat) (place1 : Int) (b2 : List Int) : Option (Int × (List Int)) :=
 (if 0 ≤ place1 ∧ place1 < (b2.length : Int) then
 let t3 : Int := rd b2 place1;
 let t4 := IntKind.i64.wrap (place1 + 1);
 (if 0 ≤ t4 ∧ t4 ≤ ((b2.length : Nat) : Int) then
 (if 0 ≤ (1 : Int) ∧ (1 : Int) ≤ t4 then
 (if 0 ≤ place1 ∧ place1 ≤ ((b2.length : Nat) : Int) then
 let w5 : List Int := b2.take ((1 : Int).toNat) ++ ((b2.drop 0).take (place1.toNat - 0)).take (min ((b2.drop 0).take (place1.toNat - 0)).length (t4.toNat - (1 : Int).toNat)) ++ b2.drop (((1 : Int).toNat) + min ((b2.drop 0).take (place1.toNat - 0)).length (t4.toNat - (1 : Int).toNat));
 (if 0 ≤ (0 : Int) ∧ (0 : Int) < (w5.length : Int) then
 let w6 : List Int := w5.set (0 : Int).toNat t3;
 some (t3, w6)
 else
 none)
 else
 none)
 else
 none)
 else
 none)
 else
 none)
theorem sort_front_F_le (fuel : Nat) (place1 : Int) (b2 : List Int) : Ole (sort_front_F fuel place1 b2) (sort_front place1 b2) := by
  rw [sort_front_eq]; unfold sort_front_F; try dsimp only
  repeat' first | with_reducible exact Ole.refl _ | refine Ole.ite ?_ ?_ | refine Ole.iter fun _ => ?_ | refine Ole.elim (fun _ => ?_) (fun _ => ?_) | refine Ole.bind ?_ fun _ => ?_ | refine Ole.demD ?_ ?_
noncomputable def sort_list_loop3_F (fuel : Nat) (t1 : List Int) (s2 : Int × (List Int)) : Option ((Int × (List Int)) ⊕ ((List Int))) :=
 let v3 := s2.1;
 let b4 := s2.2;
 (if (decide (v3 < ((t1.length : Nat) : Int))) = true then
 (if 0 ≤ v3 ∧ v3 < (b4.length : Int) then
 let w5 : List Int := b4.set v3.toNat v3;
 let t6 := IntKind.i64.wrap (v3 + 1);
 some (Sum.inl (t6, w5))
 else
 none)
 else
 some (Sum.inr b4))
theorem sort_list_loop3_F_le (fuel : Nat) (t1 : List Int) (s2 : Int × (List Int)) : Ole (sort_list_loop3_F fuel t1 s2) (sort_list_loop3 t1 s2) := by
  unfold sort_list_loop3_F sort_list_loop3; try dsimp only
  repeat' first | with_reducible exact Ole.refl _ | refine Ole.ite ?_ ?_ | refine Ole.iter fun _ => ?_ | refine Ole.elim (fun _ => ?_) (fun _ => ?_) | refine Ole.bind ?_ fun _ => ?_ | refine Ole.demD ?_ ?_
noncomputable def sort_list_F (fuel : Nat) : Option (List Int) :=
 (if 0 ≤ (257 : Int) ∧ (257 : Int) ≤ (257 : Int) ∧ ((8 : Nat) : Int) * (257 : Int) ≤ 281474976710656 then
 let t1 : List Int := List.replicate (257 : Int).toNat 0;
 (iter (sort_list_loop3_F fuel t1) fuel (0, t1)).bind (fun b10 =>
 some b10)
 else
 none)
theorem sort_list_F_le (fuel : Nat) : Ole (sort_list_F fuel) (sort_list) := by
  rw [sort_list_eq]; unfold sort_list_F; try dsimp only
  repeat' first | with_reducible exact Ole.refl _ | refine Ole.ite ?_ ?_ | with_reducible exact sort_list_loop3_F_le .. | refine Ole.iter fun _ => ?_ | refine Ole.elim (fun _ => ?_) (fun _ => ?_) | refine Ole.bind ?_ fun _ => ?_ | refine Ole.demD ?_ ?_
noncomputable def sort_Unfront_loop7_F (fuel : Nat) (l1 : List Int) (s4 : Int × (List Int) × (List Int)) : Option ((Int × (List Int) × (List Int)) ⊕ ((List Int) × (List Int))) :=
 let v5 := s4.1;
 let b6 := s4.2.1;
 let out7 := s4.2.2;
 (if (decide (v5 < ((l1.length : Nat) : Int))) = true then
 (if 0 ≤ v5 ∧ v5 < (l1.length : Int) then
 (sort_front_F fuel (rd l1 v5) b6).bind fun q8 =>
 let tr9 := q8.1;
 let tr10 := q8.2;
 (if (out7.length + ([tr9] : List Int).length) * 8 ≤ 140737488355328 then
 let t11 : List Int := out7 ++ [tr9];
 let t12 := IntKind.i64.wrap (v5 + 1);
 some (Sum.inl (t12, tr10, t11))
 else
 none)
 else
 none)
 else
 some (Sum.inr (b6, out7)))
theorem sort_Unfront_loop7_F_le (fuel : Nat) (l1 : List Int) (s4 : Int × (List Int) × (List Int)) : Ole (sort_Unfront_loop7_F fuel l1 s4) (sort_Unfront_loop7 l1 s4) := by
  unfold sort_Unfront_loop7_F sort_Unfront_loop7; try dsimp only
  repeat' first | with_reducible exact Ole.refl _ | refine Ole.ite ?_ ?_ | with_reducible exact sort_asked_F_le .. | with_reducible exact sort_front_F_le .. | with_reducible exact sort_list_F_le .. | refine Ole.iter fun _ => ?_ | refine Ole.elim (fun _ => ?_) (fun _ => ?_) | refine Ole.bind ?_ fun _ => ?_ | refine Ole.demD ?_ ?_
noncomputable def sort_Unfront_F (fuel : Nat) (l1 : List Int) : Option ((List Int) × Int) :=
 (sort_asked_F fuel l1).bind fun q2 =>
 (if (!decide (q2 = 0)) = true then
 some ([], q2)
 else
 (sort_list_F fuel).bind fun q3 =>
 (iter (sort_Unfront_loop7_F fuel l1) fuel (0, q3, [])).bind (fun p18 =>
 let b19 := p18.1;
 let out20 := p18.2;
 some (out20, 0)))
theorem sort_Unfront_F_le (fuel : Nat) (l1 : List Int) : Ole (sort_Unfront_F fuel l1) (sort_Unfront l1) := by
  rw [sort_Unfront_eq]; unfold sort_Unfront_F; try dsimp only
  repeat' first | with_reducible exact Ole.refl _ | refine Ole.ite ?_ ?_ | with_reducible exact sort_asked_F_le .. | with_reducible exact sort_front_F_le .. | with_reducible exact sort_list_F_le .. | with_reducible exact sort_Unfront_loop7_F_le .. | refine Ole.iter fun _ => ?_ | refine Ole.elim (fun _ => ?_) (fun _ => ?_) | refine Ole.bind ?_ fun _ => ?_ | refine Ole.demD ?_ ?_
noncomputable def sort_base_F (fuel : Nat) (last1 : Int) : Option Int :=
 (if (decide (last1 = 0)) = true then
 some 0
 else
 (if (decide (last1 ≤ 15)) = true then
 some 48
 else
 some 96))
theorem sort_base_F_le (fuel : Nat) (last1 : Int) : Ole (sort_base_F fuel last1) (sort_base last1) := by
  rw [sort_base_eq]; unfold sort_base_F; try dsimp only
  repeat' first | with_reducible exact Ole.refl _ | refine Ole.ite ?_ ?_ | refine Ole.iter fun _ => ?_ | refine Ole.elim (fun _ => ?_) (fun _ => ?_) | refine Ole.bind ?_ fun _ => ?_ | refine Ole.demD ?_ ?_
noncomputable def slices_Backward_byte_byte_F (fuel : Nat) (b1 : List Int) : Option (List Int) :=
 some b1
theorem slices_Backward_byte_byte_F_le (fuel : Nat) (b1 : List Int) : Ole (slices_Backward_byte_byte_F fuel b1) (slices_Backward_byte_byte b1) := by
  rw [slices_Backward_byte_byte_eq]; unfold slices_Backward_byte_byte_F; try dsimp only
  repeat' first | with_reducible exact Ole.refl _ | refine Ole.ite ?_ ?_ | refine Ole.iter fun _ => ?_ | refine Ole.elim (fun _ => ?_) (fun _ => ?_) | refine Ole.bind ?_ fun _ => ?_ | refine Ole.demD ?_ ?_
noncomputable def slices_Equal_int_int_loop4_F (fuel : Nat) (s1 s2 : List Int) (v3 : Int) : Option ((Int) ⊕ ((Unit) ⊕ (Bool))) :=
 (if (decide (v3 < ((s1.length : Nat) : Int))) = true then
 (if 0 ≤ v3 ∧ v3 < (s1.length : Int) then
 (if 0 ≤ v3 ∧ v3 < (s2.length : Int) then
 (if (!decide (rd s1 v3 = rd s2 v3)) = true then
 some (Sum.inr (Sum.inr false))
 else
 let t4 := IntKind.i64.wrap (v3 + 1);
 some (Sum.inl t4))
 else
 none)
 else
 none)
 else
 some (Sum.inr (Sum.inl ())))
theorem slices_Equal_int_int_loop4_F_le (fuel : Nat) (s1 s2 : List Int) (v3 : Int) : Ole (slices_Equal_int_int_loop4_F fuel s1 s2 v3) (slices_Equal_int_int_loop4 s1 s2 v3) := by
  unfold slices_Equal_int_int_loop4_F slices_Equal_int_int_loop4; try dsimp only
  repeat' first | with_reducible exact Ole.refl _ | refine Ole.ite ?_ ?_ | refine Ole.iter fun _ => ?_ | refine Ole.elim (fun _ => ?_) (fun _ => ?_) | refine Ole.bind ?_ fun _ => ?_ | refine Ole.demD ?_ ?_
noncomputable def slices_Equal_int_int_F (fuel : Nat) (s1 s2 : List Int) : Option Bool :=
 (if (!decide (((s1.length : Nat) : Int) = ((s2.length : Nat) : Int))) = true then
 some false
 else
 (iter (slices_Equal_int_int_loop4_F fuel s1 s2) fuel 0).bind (fun o10 =>
 (Sum.elim (fun (p8 : Unit) =>
 some true)
 (fun (v9 : Bool) =>
 some v9) o10)))
theorem slices_Equal_int_int_F_le (fuel : Nat) (s1 s2 : List Int) : Ole (slices_Equal_int_int_F fuel s1 s2) (slices_Equal_int_int s1 s2) := by
  rw [slices_Equal_int_int_eq]; unfold slices_Equal_int_int_F; try dsimp only
  repeat' first | with_reducible exact Ole.refl _ | refine Ole.ite ?_ ?_ | with_reducible exact slices_Equal_int_int_loop4_F_le .. | refine Ole.iter fun _ => ?_ | refine Ole.elim (fun _ => ?_) (fun _ => ?_) | refine Ole.bind ?_ fun _ => ?_ | refine Ole.demD ?_ ?_
noncomputable def math_bits_Len64_F (fuel : Nat) (x1 : Int) : Option Int :=
 ((if (decide (x1 ≥ 4294967296)) = true then
 let t2 := ishr .u64 x1 32;
 some (t2, 32)
 else
 some (x1, 0)) : Option (Int × Int)).bind (fun p3 =>
 let x4 := p3.1;
 let n5 := p3.2;
 ((if (decide (x4 ≥ 65536)) = true then
 let t6 := ishr .u64 x4 16;
 let t7 := IntKind.i64.wrap (n5 + 16);
 some (t6, t7)
 else
 some (x4, n5)) : Option (Int × Int)).bind (fun p8 =>
 let x9 := p8.1;
 let n10 := p8.2;
 ((if (decide (x9 ≥ 256)) = true then
 let t11 := ishr .u64 x9 8;
 let t12 := IntKind.i64.wrap (n10 + 8);
 some (t11, t12)
 else
 some (x9, n10)) : Option (Int × Int)).bind (fun p13 =>
 let x14 := p13.1;
 let n15 := p13.2;
 let t16 := IntKind.u8.wrap x14;
 (if 0 ≤ t16 ∧ t16 < (([0, 1, 2, 2, 3, 3, 3, 3, 4, 4, 4, 4, 4, 4, 4, 4, 5, 5, 5, 5, 5, 5, 5, 5, 5, 5, 5, 5, 5, 5, 5, 5, 6, 6, 6, 6, 6, 6, 6, 6, 6, 6, 6, 6, 6, 6, 6, 6, 6, 6, 6, 6, 6, 6, 6, 6, 6, 6, 6, 6, 6, 6, 6, 6, 7, 7, 7, 7, 7, 7, 7, 7, 7, 7, 7, 7, 7, 7, 7, 7, 7, 7, 7, 7, 7, 7, 7, 7, 7, 7, 7, 7, 7, 7, 7, 7, 7, 7, 7, 7, 7, 7, 7, 7, 7, 7, 7, 7, 7, 7, 7, 7, 7, 7, 7, 7, 7, 7, 7, 7, 7, 7, 7, 7, 7, 7, 7, 7, 8, 8, 8, 8, 8, 8, 8, 8, 8, 8, 8, 8, 8, 8, 8, 8, 8, 8, 8, 8, 8, 8, 8, 8, 8, 8, 8, 8, 8, 8, 8, 8, 8, 8, 8, 8, 8, 8, 8, 8, 8, 8, 8, 8, 8, 8, 8, 8, 8, 8, 8, 8, 8, 8, 8, 8, 8, 8, 8, 8, 8, 8, 8, 8, 8, 8, 8, 8, 8, 8, 8, 8, 8, 8, 8, 8, 8, 8, 8, 8, 8, 8, 8, 8, 8, 8, 8, 8, 8, 8, 8, 8, 8, 8, 8, 8, 8, 8, 8, 8, 8, 8, 8, 8, 8, 8, 8, 8, 8, 8, 8, 8, 8, 8, 8, 8, 8, 8, 8, 8, 8, 8, 8, 8, 8, 8, 8, 8]).length : Int) then
 let t17 : Int := rd [0, 1, 2, 2, 3, 3, 3, 3, 4, 4, 4, 4, 4, 4, 4, 4, 5, 5, 5, 5, 5, 5, 5, 5, 5, 5, 5, 5, 5, 5, 5, 5, 6, 6, 6, 6, 6, 6, 6, 6, 6, 6, 6, 6, 6, 6, 6, 6, 6, 6, 6, 6, 6, 6, 6, 6, 6, 6, 6, 6, 6, 6, 6, 6, 7, 7, 7, 7, 7, 7, 7, 7, 7, 7, 7, 7, 7, 7, 7, 7, 7, 7, 7, 7, 7, 7, 7, 7, 7, 7, 7, 7, 7, 7, 7, 7, 7, 7, 7, 7, 7, 7, 7, 7, 7, 7, 7, 7, 7, 7, 7, 7, 7, 7, 7, 7, 7, 7, 7, 7, 7, 7, 7, 7, 7, 7, 7, 7, 8, 8, 8, 8, 8, 8, 8, 8, 8, 8, 8, 8, 8, 8, 8, 8, 8, 8, 8, 8, 8, 8, 8, 8, 8, 8, 8, 8, 8, 8, 8, 8, 8, 8, 8, 8, 8, 8, 8, 8, 8, 8, 8, 8, 8, 8, 8, 8, 8, 8, 8, 8, 8, 8, 8, 8, 8, 8, 8, 8, 8, 8, 8, 8, 8, 8, 8, 8, 8, 8, 8, 8, 8, 8, 8, 8, 8, 8, 8, 8, 8, 8, 8, 8, 8, 8, 8, 8, 8, 8, 8, 8, 8, 8, 8, 8, 8, 8, 8, 8, 8, 8, 8, 8, 8, 8, 8, 8, 8, 8, 8, 8, 8, 8, 8, 8, 8, 8, 8, 8, 8, 8, 8, 8, 8, 8, 8, 8] t16;
 let t18 := IntKind.i64.wrap t17;
 let t19 := IntKind.i64.wrap (n15 + t18);
 some t19
 else
 none))))
theorem math_bits_Len64_F_le (fuel : Nat) (x1 : Int) : Ole (math_bits_Len64_F fuel x1) (math_bits_Len64 x1) := by
  rw [math_bits_Len64_eq]; unfold math_bits_Len64_F; try dsimp only
  repeat' first | with_reducible exact Ole.refl _ | refine Ole.ite ?_ ?_ | refine Ole.iter fun _ => ?_ | refine Ole.elim (fun _ => ?_) (fun _ => ?_) | refine Ole.bind ?_ fun _ => ?_ | refine Ole.demD ?_ ?_
noncomputable def math_bits_Len_F (fuel : Nat) (x1 : Int) : Option Int :=
 (math_bits_Len64_F fuel x1).bind fun q2 =>
 some q2
theorem math_bits_Len_F_le (fuel : Nat) (x1 : Int) : Ole (math_bits_Len_F fuel x1) (math_bits_Len x1) := by
  rw [math_bits_Len_eq]; unfold math_bits_Len_F; try dsimp only
  repeat' first | with_reducible exact Ole.refl _ | refine Ole.ite ?_ ?_ | with_reducible exact math_bits_Len64_F_le .. | refine Ole.iter fun _ => ?_ | refine Ole.elim (fun _ => ?_) (fun _ => ?_) | refine Ole.bind ?_ fun _ => ?_ | refine Ole.demD ?_ ?_
noncomputable def slices_nextPowerOfTwo_F (fuel : Nat) (length1 : Int) : Option Int :=
 let t2 := IntKind.u64.wrap length1;
 (math_bits_Len_F fuel t2).bind fun q3 =>
 (if q3 < 0 then
 none
 else
 let t4 := ishl .u64 1 q3;
 some t4)
theorem slices_nextPowerOfTwo_F_le (fuel : Nat) (length1 : Int) : Ole (slices_nextPowerOfTwo_F fuel length1) (slices_nextPowerOfTwo length1) := by
  rw [slices_nextPowerOfTwo_eq]; unfold slices_nextPowerOfTwo_F; try dsimp only
  repeat' first | with_reducible exact Ole.refl _ | refine Ole.ite ?_ ?_ | with_reducible exact math_bits_Len_F_le .. | refine Ole.iter fun _ => ?_ | refine Ole.elim (fun _ => ?_) (fun _ => ?_) | refine Ole.bind ?_ fun _ => ?_ | refine Ole.demD ?_ ?_
noncomputable def slices_xorshift_Next_F (fuel : Nat) (b1 : Int) : Option (Int × Int) :=
 let t2 := ishl .u64 b1 13;
 let t3 := ixor .u64 b1 t2;
 let t4 := ishr .u64 t3 7;
 let t5 := ixor .u64 t3 t4;
 let t6 := ishl .u64 t5 17;
 let t7 := ixor .u64 t5 t6;
 some (t7, t7)
theorem slices_xorshift_Next_F_le (fuel : Nat) (b1 : Int) : Ole (slices_xorshift_Next_F fuel b1) (slices_xorshift_Next b1) := by
  rw [slices_xorshift_Next_eq]; unfold slices_xorshift_Next_F; try dsimp only
  repeat' first | with_reducible exact Ole.refl _ | refine Ole.ite ?_ ?_ | refine Ole.iter fun _ => ?_ | refine Ole.elim (fun _ => ?_) (fun _ => ?_) | refine Ole.bind ?_ fun _ => ?_ | refine Ole.demD ?_ ?_
noncomputable def slices_breakPatternsCmpFunc_int_loop5_F (fuel : Nat) (a1 t5 q7 : Int) (s12 : Int × (List Int) × Int) : Option ((Int × (List Int) × Int) ⊕ ((List Int) × Int)) :=
 let idx13 := s12.1;
 let b14 := s12.2.1;
 let b15 := s12.2.2;
 let t16 := IntKind.i64.wrap (t5.tdiv 4);
 let t17 := IntKind.i64.wrap (t16 * 2);
 let t18 := IntKind.i64.wrap (a1 + t17);
 let t19 := IntKind.i64.wrap (t18 + 1);
 (if (decide (idx13 ≤ t19)) = true then
 (slices_xorshift_Next_F fuel b15).bind fun q20 =>
 let tr21 := q20.1;
 let tr22 := q20.2;
 let t23 := IntKind.u64.wrap (q7 - 1);
 let t24 := iand .u64 tr21 t23;
 let t25 := IntKind.i64.wrap t24;
 ((if (decide (t25 ≥ t5)) = true then
 let t26 := IntKind.i64.wrap (t25 - t5);
 some t26
 else
 some t25) : Option (Int)).bind (fun other27 =>
 let t28 := IntKind.i64.wrap (a1 + other27);
 let t29 := IntKind.i64.wrap (a1 + other27);
 (if 0 ≤ t29 ∧ t29 < (b14.length : Int) then
 let t30 : Int := rd b14 t29;
 (if 0 ≤ idx13 ∧ idx13 < (b14.length : Int) then
 let t31 : Int := rd b14 idx13;
 (if 0 ≤ idx13 ∧ idx13 < (b14.length : Int) then
 let w32 : List Int := b14.set idx13.toNat t30;
 (if 0 ≤ t28 ∧ t28 < (w32.length : Int) then
 let w33 : List Int := w32.set t28.toNat t31;
 let t34 := IntKind.i64.wrap (idx13 + 1);
 some (Sum.inl (t34, w33, tr22))
 else
 none)
 else
 none)
 else
 none)
 else
 none))
 else
 some (Sum.inr (b14, b15)))
theorem slices_breakPatternsCmpFunc_int_loop5_F_le (fuel : Nat) (a1 t5 q7 : Int) (s12 : Int × (List Int) × Int) : Ole (slices_breakPatternsCmpFunc_int_loop5_F fuel a1 t5 q7 s12) (slices_breakPatternsCmpFunc_int_loop5 a1 t5 q7 s12) := by
  unfold slices_breakPatternsCmpFunc_int_loop5_F slices_breakPatternsCmpFunc_int_loop5; try dsimp only
  repeat' first | with_reducible exact Ole.refl _ | refine Ole.ite ?_ ?_ | with_reducible exact slices_nextPowerOfTwo_F_le .. | with_reducible exact slices_xorshift_Next_F_le .. | refine Ole.iter fun _ => ?_ | refine Ole.elim (fun _ => ?_) (fun _ => ?_) | refine Ole.bind ?_ fun _ => ?_ | refine Ole.demD ?_ ?_
noncomputable def slices_breakPatternsCmpFunc_int_F (fuel : Nat) (a1 b2 : Int) (b3 b4 : List Int) : Option ((List Int) × (List Int)) :=
 let t5 := IntKind.i64.wrap (b2 - a1);
 (if (decide (t5 ≥ 8)) = true then
 let t6 := IntKind.u64.wrap t5;
 (slices_nextPowerOfTwo_F fuel t5).bind fun q7 =>
 let t8 := IntKind.i64.wrap (t5.tdiv 4);
 let t9 := IntKind.i64.wrap (t8 * 2);
 let t10 := IntKind.i64.wrap (a1 + t9);
 let t11 := IntKind.i64.wrap (t10 - 1);
 (iter (slices_breakPatternsCmpFunc_int_loop5_F fuel a1 t5 q7) fuel (t11, b3, t6)).bind (fun p35 =>
 let b36 := p35.1;
 let b37 := p35.2;
 some (b36, b4))
 else
 some (b3, b4))
theorem slices_breakPatternsCmpFunc_int_F_le (fuel : Nat) (a1 b2 : Int) (b3 b4 : List Int) : Ole (slices_breakPatternsCmpFunc_int_F fuel a1 b2 b3 b4) (slices_breakPatternsCmpFunc_int a1 b2 b3 b4) := by
  rw [slices_breakPatternsCmpFunc_int_eq]; unfold slices_breakPatternsCmpFunc_int_F; try dsimp only
  repeat' first | with_reducible exact Ole.refl _ | refine Ole.ite ?_ ?_ | with_reducible exact slices_nextPowerOfTwo_F_le .. | with_reducible exact slices_xorshift_Next_F_le .. | with_reducible exact slices_breakPatternsCmpFunc_int_loop5_F_le .. | refine Ole.iter fun _ => ?_ | refine Ole.elim (fun _ => ?_) (fun _ => ?_) | refine Ole.bind ?_ fun _ => ?_ | refine Ole.demD ?_ ?_
noncomputable def bytes_Compare_F (fuel : Nat) (a1 b2 : List Int) : Option Int :=
 let t3 : Int := cmpI a1 b2;
 some t3
theorem bytes_Compare_F_le (fuel : Nat) (a1 b2 : List Int) : Ole (bytes_Compare_F fuel a1 b2) (bytes_Compare a1 b2) := by
  rw [bytes_Compare_eq]; unfold bytes_Compare_F; try dsimp only
  repeat' first | with_reducible exact Ole.refl _ | refine Ole.ite ?_ ?_ | refine Ole.iter fun _ => ?_ | refine Ole.elim (fun _ => ?_) (fun _ => ?_) | refine Ole.bind ?_ fun _ => ?_ | refine Ole.demD ?_ ?_
noncomputable def sort_suffixes_1_F (fuel : Nat) (a1 b2 : Int) (b3 : List Int) : Option (Int × (List Int)) :=
 (if 0 ≤ a1 ∧ a1 ≤ ((b3.length : Nat) : Int) then
 let t4 : List Int := cutL b3 a1.toNat b3.length;
 (if 0 ≤ b2 ∧ b2 ≤ ((b3.length : Nat) : Int) then
 let t5 : List Int := cutL b3 b2.toNat b3.length;
 (bytes_Compare_F fuel t4 t5).bind fun q6 =>
 some (q6, b3)
 else
 none)
 else
 none)
theorem sort_suffixes_1_F_le (fuel : Nat) (a1 b2 : Int) (b3 : List Int) : Ole (sort_suffixes_1_F fuel a1 b2 b3) (sort_suffixes_1 a1 b2 b3) := by
  rw [sort_suffixes_1_eq]; unfold sort_suffixes_1_F; try dsimp only
  repeat' first | with_reducible exact Ole.refl _ | refine Ole.ite ?_ ?_ | with_reducible exact bytes_Compare_F_le .. | refine Ole.iter fun _ => ?_ | refine Ole.elim (fun _ => ?_) (fun _ => ?_) | refine Ole.bind ?_ fun _ => ?_ | refine Ole.demD ?_ ?_
noncomputable def slices_order2CmpFunc_int_F (fuel : Nat) (a1 b2 : Int) (b3 : List Int) (b4 : Int) (b5 : List Int) : Option (Int × Int × (List Int) × Int × (List Int)) :=
 (if 0 ≤ b2 ∧ b2 < (b3.length : Int) then
 let t6 : Int := rd b3 b2;
 (if 0 ≤ a1 ∧ a1 < (b3.length : Int) then
 let t7 : Int := rd b3 a1;
 (sort_suffixes_1_F fuel t6 t7 b5).bind fun q8 =>
 let tr9 := q8.1;
 let tr10 := q8.2;
 (if (decide (tr9 < 0)) = true then
 let t11 := IntKind.i64.wrap (b4 + 1);
 some (b2, a1, b3, t11, tr10)
 else
 some (a1, b2, b3, b4, tr10))
 else
 none)
 else
 none)
theorem slices_order2CmpFunc_int_F_le (fuel : Nat) (a1 b2 : Int) (b3 : List Int) (b4 : Int) (b5 : List Int) : Ole (slices_order2CmpFunc_int_F fuel a1 b2 b3 b4 b5) (slices_order2CmpFunc_int a1 b2 b3 b4 b5) := by
  rw [slices_order2CmpFunc_int_eq]; unfold slices_order2CmpFunc_int_F; try dsimp only
  repeat' first | with_reducible exact Ole.refl _ | refine Ole.ite ?_ ?_ | with_reducible exact sort_suffixes_1_F_le .. | refine Ole.iter fun _ => ?_ | refine Ole.elim (fun _ => ?_) (fun _ => ?_) | refine Ole.bind ?_ fun _ => ?_ | refine Ole.demD ?_ ?_
noncomputable def slices_medianCmpFunc_int_F (fuel : Nat) (a1 b2 c3 : Int) (b4 : List Int) (b5 : Int) (b6 : List Int) : Option (Int × (List Int) × Int × (List Int)) :=
 (slices_order2CmpFunc_int_F fuel a1 b2 b4 b5 b6).bind fun q7 =>
 let tr8 := q7.1;
 let tr9 := q7.2.1;
 let tr10 := q7.2.2.1;
 let tr11 := q7.2.2.2.1;
 let tr12 := q7.2.2.2.2;
 (slices_order2CmpFunc_int_F fuel tr9 c3 tr10 tr11 tr12).bind fun q13 =>
 let tr14 := q13.1;
 let tr15 := q13.2.1;
 let tr16 := q13.2.2.1;
 let tr17 := q13.2.2.2.1;
 let tr18 := q13.2.2.2.2;
 (slices_order2CmpFunc_int_F fuel tr8 tr14 tr16 tr17 tr18).bind fun q19 =>
 let tr20 := q19.1;
 let tr21 := q19.2.1;
 let tr22 := q19.2.2.1;
 let tr23 := q19.2.2.2.1;
 let tr24 := q19.2.2.2.2;
 some (tr21, tr22, tr23, tr24)
theorem slices_medianCmpFunc_int_F_le (fuel : Nat) (a1 b2 c3 : Int) (b4 : List Int) (b5 : Int) (b6 : List Int) : Ole (slices_medianCmpFunc_int_F fuel a1 b2 c3 b4 b5 b6) (slices_medianCmpFunc_int a1 b2 c3 b4 b5 b6) := by
  rw [slices_medianCmpFunc_int_eq]; unfold slices_medianCmpFunc_int_F; try dsimp only
  repeat' first | with_reducible exact Ole.refl _ | refine Ole.ite ?_ ?_ | with_reducible exact slices_order2CmpFunc_int_F_le .. | refine Ole.iter fun _ => ?_ | refine Ole.elim (fun _ => ?_) (fun _ => ?_) | refine Ole.bind ?_ fun _ => ?_ | refine Ole.demD ?_ ?_
noncomputable def slices_medianAdjacentCmpFunc_int_F (fuel : Nat) (a1 : Int) (b2 : List Int) (b3 : Int) (b4 : List Int) : Option (Int × (List Int) × Int × (List Int)) :=
 let t5 := IntKind.i64.wrap (a1 - 1);
 let t6 := IntKind.i64.wrap (a1 + 1);
 (slices_medianCmpFunc_int_F fuel t5 a1 t6 b2 b3 b4).bind fun q7 =>
 let tr8 := q7.1;
 let tr9 := q7.2.1;
 let tr10 := q7.2.2.1;
 let tr11 := q7.2.2.2;
 some (tr8, tr9, tr10, tr11)
theorem slices_medianAdjacentCmpFunc_int_F_le (fuel : Nat) (a1 : Int) (b2 : List Int) (b3 : Int) (b4 : List Int) : Ole (slices_medianAdjacentCmpFunc_int_F fuel a1 b2 b3 b4) (slices_medianAdjacentCmpFunc_int a1 b2 b3 b4) := by
  rw [slices_medianAdjacentCmpFunc_int_eq]; unfold slices_medianAdjacentCmpFunc_int_F; try dsimp only
  repeat' first | with_reducible exact Ole.refl _ | refine Ole.ite ?_ ?_ | with_reducible exact slices_medianCmpFunc_int_F_le .. | refine Ole.iter fun _ => ?_ | refine Ole.elim (fun _ => ?_) (fun _ => ?_) | refine Ole.bind ?_ fun _ => ?_ | refine Ole.demD ?_ ?_
noncomputable def slices_choosePivotCmpFunc_int_F (fuel : Nat) (a1 b2 : Int) (b3 b4 : List Int) : Option (Int × Int × (List Int) × (List Int)) :=
 let t5 := IntKind.i64.wrap (b2 - a1);
 let t6 := IntKind.i64.wrap (t5.tdiv 4);
 let t7 := IntKind.i64.wrap (t6 * 1);
 let t8 := IntKind.i64.wrap (a1 + t7);
 let t9 := IntKind.i64.wrap (t5.tdiv 4);
 let t10 := IntKind.i64.wrap (t9 * 2);
 let t11 := IntKind.i64.wrap (a1 + t10);
 let t12 := IntKind.i64.wrap (t5.tdiv 4);
 let t13 := IntKind.i64.wrap (t12 * 3);
 let t14 := IntKind.i64.wrap (a1 + t13);
 ((if (decide (t5 ≥ 8)) = true then
 ((if (decide (t5 ≥ 50)) = true then
 (slices_medianAdjacentCmpFunc_int_F fuel t8 b3 0 b4).bind fun q15 =>
 let tr16 := q15.1;
 let tr17 := q15.2.1;
 let tr18 := q15.2.2.1;
 let tr19 := q15.2.2.2;
 (slices_medianAdjacentCmpFunc_int_F fuel t11 tr17 tr18 tr19).bind fun q20 =>
 let tr21 := q20.1;
 let tr22 := q20.2.1;
 let tr23 := q20.2.2.1;
 let tr24 := q20.2.2.2;
 (slices_medianAdjacentCmpFunc_int_F fuel t14 tr22 tr23 tr24).bind fun q25 =>
 let tr26 := q25.1;
 let tr27 := q25.2.1;
 let tr28 := q25.2.2.1;
 let tr29 := q25.2.2.2;
 some (tr16, tr21, tr26, tr27, tr29, tr28)
 else
 some (t8, t11, t14, b3, b4, 0)) : Option (Int × Int × Int × (List Int) × (List Int) × Int)).bind (fun p30 =>
 let i31 := p30.1;
 let j32 := p30.2.1;
 let k33 := p30.2.2.1;
 let b34 := p30.2.2.2.1;
 let b35 := p30.2.2.2.2.1;
 let b36 := p30.2.2.2.2.2;
 (slices_medianCmpFunc_int_F fuel i31 j32 k33 b34 b36 b35).bind fun q37 =>
 let tr38 := q37.1;
 let tr39 := q37.2.1;
 let tr40 := q37.2.2.1;
 let tr41 := q37.2.2.2;
 some (tr38, tr39, tr41, tr40))
 else
 some (t11, b3, b4, 0)) : Option (Int × (List Int) × (List Int) × Int)).bind (fun p42 =>
 let j43 := p42.1;
 let b44 := p42.2.1;
 let b45 := p42.2.2.1;
 let b46 := p42.2.2.2;
 (if (decide (b46 = 0)) = true then
 some (j43, 1, b44, b45)
 else
 (if (decide (b46 = 12)) = true then
 some (j43, 2, b44, b45)
 else
 some (j43, 0, b44, b45))))
theorem slices_choosePivotCmpFunc_int_F_le (fuel : Nat) (a1 b2 : Int) (b3 b4 : List Int) : Ole (slices_choosePivotCmpFunc_int_F fuel a1 b2 b3 b4) (slices_choosePivotCmpFunc_int a1 b2 b3 b4) := by
  rw [slices_choosePivotCmpFunc_int_eq]; unfold slices_choosePivotCmpFunc_int_F; try dsimp only
  repeat' first | with_reducible exact Ole.refl _ | refine Ole.ite ?_ ?_ | with_reducible exact slices_medianAdjacentCmpFunc_int_F_le .. | with_reducible exact slices_medianCmpFunc_int_F_le .. | refine Ole.iter fun _ => ?_ | refine Ole.elim (fun _ => ?_) (fun _ => ?_) | refine Ole.bind ?_ fun _ => ?_ | refine Ole.demD ?_ ?_
noncomputable def slices_siftDownCmpFunc_int_loop1_F (fuel : Nat) (hi2 first3 : Int) (s6 : Int × (List Int) × (List Int)) : Option ((Int × (List Int) × (List Int)) ⊕ (((List Int) × (List Int)) ⊕ ((List Int) × (List Int)))) :=
 let root7 := s6.1;
 let b8 := s6.2.1;
 let b9 := s6.2.2;
 let t10 := IntKind.i64.wrap (2 * root7);
 let t11 := IntKind.i64.wrap (t10 + 1);
 (if (decide (t11 ≥ hi2)) = true then
 some (Sum.inr (Sum.inl (b8, b9)))
 else
 (let t12 := IntKind.i64.wrap (t11 + 1);
 (if (decide (t12 < hi2)) = true then
 let t13 := IntKind.i64.wrap (first3 + t11);
 (if 0 ≤ t13 ∧ t13 < (b8.length : Int) then
 let t14 : Int := rd b8 t13;
 let t15 := IntKind.i64.wrap (first3 + t11);
 let t16 := IntKind.i64.wrap (t15 + 1);
 (if 0 ≤ t16 ∧ t16 < (b8.length : Int) then
 let t17 : Int := rd b8 t16;
 (sort_suffixes_1_F fuel t14 t17 b9).bind fun q18 =>
 let tr19 := q18.1;
 let tr20 := q18.2;
 some (decide (tr19 < 0), tr20)
 else
 none)
 else
 none)
 else
 some (false, b9)) : Option (Bool × (List Int))).bind (fun p21 =>
 let v22 := p21.1;
 let b23 := p21.2;
 ((if v22 = true then
 let t24 := IntKind.i64.wrap (t11 + 1);
 some t24
 else
 some t11) : Option (Int)).bind (fun child25 =>
 let t26 := IntKind.i64.wrap (first3 + root7);
 (if 0 ≤ t26 ∧ t26 < (b8.length : Int) then
 let t27 : Int := rd b8 t26;
 let t28 := IntKind.i64.wrap (first3 + child25);
 (if 0 ≤ t28 ∧ t28 < (b8.length : Int) then
 let t29 : Int := rd b8 t28;
 (sort_suffixes_1_F fuel t27 t29 b23).bind fun q30 =>
 let tr31 := q30.1;
 let tr32 := q30.2;
 (if (!(decide (tr31 < 0))) = true then
 some (Sum.inr (Sum.inr (b8, tr32)))
 else
 let t33 := IntKind.i64.wrap (first3 + root7);
 let t34 := IntKind.i64.wrap (first3 + child25);
 let t35 := IntKind.i64.wrap (first3 + child25);
 (if 0 ≤ t35 ∧ t35 < (b8.length : Int) then
 let t36 : Int := rd b8 t35;
 let t37 := IntKind.i64.wrap (first3 + root7);
 (if 0 ≤ t37 ∧ t37 < (b8.length : Int) then
 let t38 : Int := rd b8 t37;
 (if 0 ≤ t33 ∧ t33 < (b8.length : Int) then
 let w39 : List Int := b8.set t33.toNat t36;
 (if 0 ≤ t34 ∧ t34 < (w39.length : Int) then
 let w40 : List Int := w39.set t34.toNat t38;
 some (Sum.inl (child25, w40, tr32))
 else
 none)
 else
 none)
 else
 none)
 else
 none))
 else
 none)
 else
 none))))
theorem slices_siftDownCmpFunc_int_loop1_F_le (fuel : Nat) (hi2 first3 : Int) (s6 : Int × (List Int) × (List Int)) : Ole (slices_siftDownCmpFunc_int_loop1_F fuel hi2 first3 s6) (slices_siftDownCmpFunc_int_loop1 hi2 first3 s6) := by
  unfold slices_siftDownCmpFunc_int_loop1_F slices_siftDownCmpFunc_int_loop1; try dsimp only
  repeat' first | with_reducible exact Ole.refl _ | refine Ole.ite ?_ ?_ | with_reducible exact sort_suffixes_1_F_le .. | refine Ole.iter fun _ => ?_ | refine Ole.elim (fun _ => ?_) (fun _ => ?_) | refine Ole.bind ?_ fun _ => ?_ | refine Ole.demD ?_ ?_
noncomputable def slices_siftDownCmpFunc_int_F (fuel : Nat) (lo1 hi2 first3 : Int) (b4 b5 : List Int) : Option ((List Int) × (List Int)) :=
 (iter (slices_siftDownCmpFunc_int_loop1_F fuel hi2 first3) fuel (lo1, b4, b5)).bind (fun o47 =>
 (Sum.elim (fun (p41 : (List Int) × (List Int)) =>
 let b42 := p41.1;
 let b43 := p41.2;
 some (b42, b43))
 (fun (p44 : (List Int) × (List Int)) =>
 let b45 := p44.1;
 let b46 := p44.2;
 some (b45, b46)) o47))
theorem slices_siftDownCmpFunc_int_F_le (fuel : Nat) (lo1 hi2 first3 : Int) (b4 b5 : List Int) : Ole (slices_siftDownCmpFunc_int_F fuel lo1 hi2 first3 b4 b5) (slices_siftDownCmpFunc_int lo1 hi2 first3 b4 b5) := by
  rw [slices_siftDownCmpFunc_int_eq]; unfold slices_siftDownCmpFunc_int_F; try dsimp only
  repeat' first | with_reducible exact Ole.refl _ | refine Ole.ite ?_ ?_ | with_reducible exact sort_suffixes_1_F_le .. | with_reducible exact slices_siftDownCmpFunc_int_loop1_F_le .. | refine Ole.iter fun _ => ?_ | refine Ole.elim (fun _ => ?_) (fun _ => ?_) | refine Ole.bind ?_ fun _ => ?_ | refine Ole.demD ?_ ?_
noncomputable def slices_heapSortCmpFunc_int_loop4_F (fuel : Nat) (a1 t5 : Int) (s8 : Int × (List Int) × (List Int)) : Option ((Int × (List Int) × (List Int)) ⊕ ((List Int) × (List Int))) :=
 let i9 := s8.1;
 let b10 := s8.2.1;
 let b11 := s8.2.2;
 (if (decide (i9 ≥ 0)) = true then
 (slices_siftDownCmpFunc_int_F fuel i9 t5 a1 b10 b11).bind fun q12 =>
 let tr13 := q12.1;
 let tr14 := q12.2;
 let t15 := IntKind.i64.wrap (i9 - 1);
 some (Sum.inl (t15, tr13, tr14))
 else
 some (Sum.inr (b10, b11)))
theorem slices_heapSortCmpFunc_int_loop4_F_le (fuel : Nat) (a1 t5 : Int) (s8 : Int × (List Int) × (List Int)) : Ole (slices_heapSortCmpFunc_int_loop4_F fuel a1 t5 s8) (slices_heapSortCmpFunc_int_loop4 a1 t5 s8) := by
  unfold slices_heapSortCmpFunc_int_loop4_F slices_heapSortCmpFunc_int_loop4; try dsimp only
  repeat' first | with_reducible exact Ole.refl _ | refine Ole.ite ?_ ?_ | with_reducible exact slices_siftDownCmpFunc_int_F_le .. | refine Ole.iter fun _ => ?_ | refine Ole.elim (fun _ => ?_) (fun _ => ?_) | refine Ole.bind ?_ fun _ => ?_ | refine Ole.demD ?_ ?_
noncomputable def slices_heapSortCmpFunc_int_loop8_F (fuel : Nat) (a1 : Int) (s20 : Int × (List Int) × (List Int)) : Option ((Int × (List Int) × (List Int)) ⊕ ((List Int) × (List Int))) :=
 let i21 := s20.1;
 let b22 := s20.2.1;
 let b23 := s20.2.2;
 (if (decide (i21 ≥ 0)) = true then
 let t24 := IntKind.i64.wrap (a1 + i21);
 let t25 := IntKind.i64.wrap (a1 + i21);
 (if 0 ≤ t25 ∧ t25 < (b22.length : Int) then
 let t26 : Int := rd b22 t25;
 (if 0 ≤ a1 ∧ a1 < (b22.length : Int) then
 let t27 : Int := rd b22 a1;
 (if 0 ≤ a1 ∧ a1 < (b22.length : Int) then
 let w28 : List Int := b22.set a1.toNat t26;
 (if 0 ≤ t24 ∧ t24 < (w28.length : Int) then
 let w29 : List Int := w28.set t24.toNat t27;
 (slices_siftDownCmpFunc_int_F fuel 0 i21 a1 w29 b23).bind fun q30 =>
 let tr31 := q30.1;
 let tr32 := q30.2;
 let t33 := IntKind.i64.wrap (i21 - 1);
 some (Sum.inl (t33, tr31, tr32))
 else
 none)
 else
 none)
 else
 none)
 else
 none)
 else
 some (Sum.inr (b22, b23)))
theorem slices_heapSortCmpFunc_int_loop8_F_le (fuel : Nat) (a1 : Int) (s20 : Int × (List Int) × (List Int)) : Ole (slices_heapSortCmpFunc_int_loop8_F fuel a1 s20) (slices_heapSortCmpFunc_int_loop8 a1 s20) := by
  unfold slices_heapSortCmpFunc_int_loop8_F slices_heapSortCmpFunc_int_loop8; try dsimp only
  repeat' first | with_reducible exact Ole.refl _ | refine Ole.ite ?_ ?_ | with_reducible exact slices_siftDownCmpFunc_int_F_le .. | with_reducible exact slices_heapSortCmpFunc_int_loop4_F_le .. | refine Ole.iter fun _ => ?_ | refine Ole.elim (fun _ => ?_) (fun _ => ?_) | refine Ole.bind ?_ fun _ => ?_ | refine Ole.demD ?_ ?_
noncomputable def slices_heapSortCmpFunc_int_F (fuel : Nat) (a1 b2 : Int) (b3 b4 : List Int) : Option ((List Int) × (List Int)) :=
 let t5 := IntKind.i64.wrap (b2 - a1);
 let t6 := IntKind.i64.wrap (t5 - 1);
 let t7 := IntKind.i64.wrap (t6.tdiv 2);
 (iter (slices_heapSortCmpFunc_int_loop4_F fuel a1 t5) fuel (t7, b3, b4)).bind (fun p16 =>
 let b17 := p16.1;
 let b18 := p16.2;
 let t19 := IntKind.i64.wrap (t5 - 1);
 (iter (slices_heapSortCmpFunc_int_loop8_F fuel a1) fuel (t19, b17, b18)).bind (fun p34 =>
 let b35 := p34.1;
 let b36 := p34.2;
 some (b35, b36)))
theorem slices_heapSortCmpFunc_int_F_le (fuel : Nat) (a1 b2 : Int) (b3 b4 : List Int) : Ole (slices_heapSortCmpFunc_int_F fuel a1 b2 b3 b4) (slices_heapSortCmpFunc_int a1 b2 b3 b4) := by
  rw [slices_heapSortCmpFunc_int_eq]; unfold slices_heapSortCmpFunc_int_F; try dsimp only
  repeat' first | with_reducible exact Ole.refl _ | refine Ole.ite ?_ ?_ | with_reducible exact slices_siftDownCmpFunc_int_F_le .. | with_reducible exact slices_heapSortCmpFunc_int_loop4_F_le .. | with_reducible exact slices_heapSortCmpFunc_int_loop8_F_le .. | refine Ole.iter fun _ => ?_ | refine Ole.elim (fun _ => ?_) (fun _ => ?_) | refine Ole.bind ?_ fun _ => ?_ | refine Ole.demD ?_ ?_
noncomputable def slices_insertionSortCmpFunc_int_loop4_F (fuel : Nat) (a1 : Int) (s10 : Int × (List Int) × (List Int)) : Option ((Int × (List Int) × (List Int)) ⊕ ((List Int) × (List Int))) :=
 let j11 := s10.1;
 let b12 := s10.2.1;
 let b13 := s10.2.2;
 ((if (decide (j11 > a1)) = true then
 (if 0 ≤ j11 ∧ j11 < (b12.length : Int) then
 let t14 : Int := rd b12 j11;
 let t15 := IntKind.i64.wrap (j11 - 1);
 (if 0 ≤ t15 ∧ t15 < (b12.length : Int) then
 let t16 : Int := rd b12 t15;
 (sort_suffixes_1_F fuel t14 t16 b13).bind fun q17 =>
 let tr18 := q17.1;
 let tr19 := q17.2;
 some (decide (tr18 < 0), tr19)
 else
 none)
 else
 none)
 else
 some (false, b13)) : Option (Bool × (List Int))).bind (fun p20 =>
 let v21 := p20.1;
 let b22 := p20.2;
 (if v21 = true then
 let t23 := IntKind.i64.wrap (j11 - 1);
 let t24 := IntKind.i64.wrap (j11 - 1);
 (if 0 ≤ t24 ∧ t24 < (b12.length : Int) then
 let t25 : Int := rd b12 t24;
 (if 0 ≤ j11 ∧ j11 < (b12.length : Int) then
 let t26 : Int := rd b12 j11;
 (if 0 ≤ j11 ∧ j11 < (b12.length : Int) then
 let w27 : List Int := b12.set j11.toNat t25;
 (if 0 ≤ t23 ∧ t23 < (w27.length : Int) then
 let w28 : List Int := w27.set t23.toNat t26;
 let t29 := IntKind.i64.wrap (j11 - 1);
 some (Sum.inl (t29, w28, b22))
 else
 none)
 else
 none)
 else
 none)
 else
 none)
 else
 some (Sum.inr (b12, b22))))
theorem slices_insertionSortCmpFunc_int_loop4_F_le (fuel : Nat) (a1 : Int) (s10 : Int × (List Int) × (List Int)) : Ole (slices_insertionSortCmpFunc_int_loop4_F fuel a1 s10) (slices_insertionSortCmpFunc_int_loop4 a1 s10) := by
  unfold slices_insertionSortCmpFunc_int_loop4_F slices_insertionSortCmpFunc_int_loop4; try dsimp only
  repeat' first | with_reducible exact Ole.refl _ | refine Ole.ite ?_ ?_ | with_reducible exact sort_suffixes_1_F_le .. | refine Ole.iter fun _ => ?_ | refine Ole.elim (fun _ => ?_) (fun _ => ?_) | refine Ole.bind ?_ fun _ => ?_ | refine Ole.demD ?_ ?_
noncomputable def slices_insertionSortCmpFunc_int_loop1_F (fuel : Nat) (a1 b2 : Int) (s6 : Int × (List Int) × (List Int)) : Option ((Int × (List Int) × (List Int)) ⊕ ((List Int) × (List Int))) :=
 let i7 := s6.1;
 let b8 := s6.2.1;
 let b9 := s6.2.2;
 (if (decide (i7 < b2)) = true then
 (iter (slices_insertionSortCmpFunc_int_loop4_F fuel a1) fuel (i7, b8, b9)).bind (fun p30 =>
 let b31 := p30.1;
 let b32 := p30.2;
 let t33 := IntKind.i64.wrap (i7 + 1);
 some (Sum.inl (t33, b31, b32)))
 else
 some (Sum.inr (b8, b9)))
theorem slices_insertionSortCmpFunc_int_loop1_F_le (fuel : Nat) (a1 b2 : Int) (s6 : Int × (List Int) × (List Int)) : Ole (slices_insertionSortCmpFunc_int_loop1_F fuel a1 b2 s6) (slices_insertionSortCmpFunc_int_loop1 a1 b2 s6) := by
  unfold slices_insertionSortCmpFunc_int_loop1_F slices_insertionSortCmpFunc_int_loop1; try dsimp only
  repeat' first | with_reducible exact Ole.refl _ | refine Ole.ite ?_ ?_ | with_reducible exact sort_suffixes_1_F_le .. | with_reducible exact slices_insertionSortCmpFunc_int_loop4_F_le .. | refine Ole.iter fun _ => ?_ | refine Ole.elim (fun _ => ?_) (fun _ => ?_) | refine Ole.bind ?_ fun _ => ?_ | refine Ole.demD ?_ ?_
noncomputable def slices_insertionSortCmpFunc_int_F (fuel : Nat) (a1 b2 : Int) (b3 b4 : List Int) : Option ((List Int) × (List Int)) :=
 let t5 := IntKind.i64.wrap (a1 + 1);
 (iter (slices_insertionSortCmpFunc_int_loop1_F fuel a1 b2) fuel (t5, b3, b4)).bind (fun p39 =>
 let b40 := p39.1;
 let b41 := p39.2;
 some (b40, b41))
theorem slices_insertionSortCmpFunc_int_F_le (fuel : Nat) (a1 b2 : Int) (b3 b4 : List Int) : Ole (slices_insertionSortCmpFunc_int_F fuel a1 b2 b3 b4) (slices_insertionSortCmpFunc_int a1 b2 b3 b4) := by
  rw [slices_insertionSortCmpFunc_int_eq]; unfold slices_insertionSortCmpFunc_int_F; try dsimp only
  repeat' first | with_reducible exact Ole.refl _ | refine Ole.ite ?_ ?_ | with_reducible exact sort_suffixes_1_F_le .. | with_reducible exact slices_insertionSortCmpFunc_int_loop4_F_le .. | with_reducible exact slices_insertionSortCmpFunc_int_loop1_F_le .. | refine Ole.iter fun _ => ?_ | refine Ole.elim (fun _ => ?_) (fun _ => ?_) | refine Ole.bind ?_ fun _ => ?_ | refine Ole.demD ?_ ?_
noncomputable def slices_partialInsertionSortCmpFunc_int_loop5_F (fuel : Nat) (b2 : Int) (b9 : List Int) (s11 : Int × (List Int)) : Option ((Int × (List Int)) ⊕ (Int × (List Int))) :=
 let i12 := s11.1;
 let b13 := s11.2;
 (if (decide (i12 < b2)) = true then
 (if 0 ≤ i12 ∧ i12 < (b9.length : Int) then
 let t14 : Int := rd b9 i12;
 let t15 := IntKind.i64.wrap (i12 - 1);
 (if 0 ≤ t15 ∧ t15 < (b9.length : Int) then
 let t16 : Int := rd b9 t15;
 (sort_suffixes_1_F fuel t14 t16 b13).bind fun q17 =>
 let tr18 := q17.1;
 let tr19 := q17.2;
 (if (!(decide (tr18 < 0))) = true then
 let t20 := IntKind.i64.wrap (i12 + 1);
 some (Sum.inl (t20, tr19))
 else
 some (Sum.inr (i12, tr19)))
 else
 none)
 else
 none)
 else
 some (Sum.inr (i12, b13)))
theorem slices_partialInsertionSortCmpFunc_int_loop5_F_le (fuel : Nat) (b2 : Int) (b9 : List Int) (s11 : Int × (List Int)) : Ole (slices_partialInsertionSortCmpFunc_int_loop5_F fuel b2 b9 s11) (slices_partialInsertionSortCmpFunc_int_loop5 b2 b9 s11) := by
  unfold slices_partialInsertionSortCmpFunc_int_loop5_F slices_partialInsertionSortCmpFunc_int_loop5; try dsimp only
  repeat' first | with_reducible exact Ole.refl _ | refine Ole.ite ?_ ?_ | with_reducible exact sort_suffixes_1_F_le .. | refine Ole.iter fun _ => ?_ | refine Ole.elim (fun _ => ?_) (fun _ => ?_) | refine Ole.bind ?_ fun _ => ?_ | refine Ole.demD ?_ ?_
noncomputable def slices_partialInsertionSortCmpFunc_int_loop14_F (fuel : Nat) (s33 : Int × (List Int) × (List Int)) : Option ((Int × (List Int) × (List Int)) ⊕ ((List Int) × (List Int))) :=
 let j34 := s33.1;
 let b35 := s33.2.1;
 let b36 := s33.2.2;
 (if (decide (j34 ≥ 1)) = true then
 (if 0 ≤ j34 ∧ j34 < (b35.length : Int) then
 let t37 : Int := rd b35 j34;
 let t38 := IntKind.i64.wrap (j34 - 1);
 (if 0 ≤ t38 ∧ t38 < (b35.length : Int) then
 let t39 : Int := rd b35 t38;
 (sort_suffixes_1_F fuel t37 t39 b36).bind fun q40 =>
 let tr41 := q40.1;
 let tr42 := q40.2;
 (if (!(decide (tr41 < 0))) = true then
 some (Sum.inr (b35, tr42))
 else
 let t43 := IntKind.i64.wrap (j34 - 1);
 let t44 := IntKind.i64.wrap (j34 - 1);
 (if 0 ≤ t44 ∧ t44 < (b35.length : Int) then
 let t45 : Int := rd b35 t44;
 (if 0 ≤ j34 ∧ j34 < (b35.length : Int) then
 let t46 : Int := rd b35 j34;
 (if 0 ≤ j34 ∧ j34 < (b35.length : Int) then
 let w47 : List Int := b35.set j34.toNat t45;
 (if 0 ≤ t43 ∧ t43 < (w47.length : Int) then
 let w48 : List Int := w47.set t43.toNat t46;
 let t49 := IntKind.i64.wrap (j34 - 1);
 some (Sum.inl (t49, w48, tr42))
 else
 none)
 else
 none)
 else
 none)
 else
 none))
 else
 none)
 else
 none)
 else
 some (Sum.inr (b35, b36)))
theorem slices_partialInsertionSortCmpFunc_int_loop14_F_le (fuel : Nat) (s33 : Int × (List Int) × (List Int)) : Ole (slices_partialInsertionSortCmpFunc_int_loop14_F fuel s33) (slices_partialInsertionSortCmpFunc_int_loop14 s33) := by
  unfold slices_partialInsertionSortCmpFunc_int_loop14_F slices_partialInsertionSortCmpFunc_int_loop14; try dsimp only
  repeat' first | with_reducible exact Ole.refl _ | refine Ole.ite ?_ ?_ | with_reducible exact sort_suffixes_1_F_le .. | with_reducible exact slices_partialInsertionSortCmpFunc_int_loop5_F_le .. | refine Ole.iter fun _ => ?_ | refine Ole.elim (fun _ => ?_) (fun _ => ?_) | refine Ole.bind ?_ fun _ => ?_ | refine Ole.demD ?_ ?_
noncomputable def slices_partialInsertionSortCmpFunc_int_loop20_F (fuel : Nat) (b2 : Int) (s58 : Int × (List Int) × (List Int)) : Option ((Int × (List Int) × (List Int)) ⊕ ((List Int) × (List Int))) :=
 let j59 := s58.1;
 let b60 := s58.2.1;
 let b61 := s58.2.2;
 (if (decide (j59 < b2)) = true then
 (if 0 ≤ j59 ∧ j59 < (b60.length : Int) then
 let t62 : Int := rd b60 j59;
 let t63 := IntKind.i64.wrap (j59 - 1);
 (if 0 ≤ t63 ∧ t63 < (b60.length : Int) then
 let t64 : Int := rd b60 t63;
 (sort_suffixes_1_F fuel t62 t64 b61).bind fun q65 =>
 let tr66 := q65.1;
 let tr67 := q65.2;
 (if (!(decide (tr66 < 0))) = true then
 some (Sum.inr (b60, tr67))
 else
 let t68 := IntKind.i64.wrap (j59 - 1);
 let t69 := IntKind.i64.wrap (j59 - 1);
 (if 0 ≤ t69 ∧ t69 < (b60.length : Int) then
 let t70 : Int := rd b60 t69;
 (if 0 ≤ j59 ∧ j59 < (b60.length : Int) then
 let t71 : Int := rd b60 j59;
 (if 0 ≤ j59 ∧ j59 < (b60.length : Int) then
 let w72 : List Int := b60.set j59.toNat t70;
 (if 0 ≤ t68 ∧ t68 < (w72.length : Int) then
 let w73 : List Int := w72.set t68.toNat t71;
 let t74 := IntKind.i64.wrap (j59 + 1);
 some (Sum.inl (t74, w73, tr67))
 else
 none)
 else
 none)
 else
 none)
 else
 none))
 else
 none)
 else
 none)
 else
 some (Sum.inr (b60, b61)))
theorem slices_partialInsertionSortCmpFunc_int_loop20_F_le (fuel : Nat) (b2 : Int) (s58 : Int × (List Int) × (List Int)) : Ole (slices_partialInsertionSortCmpFunc_int_loop20_F fuel b2 s58) (slices_partialInsertionSortCmpFunc_int_loop20 b2 s58) := by
  unfold slices_partialInsertionSortCmpFunc_int_loop20_F slices_partialInsertionSortCmpFunc_int_loop20; try dsimp only
  repeat' first | with_reducible exact Ole.refl _ | refine Ole.ite ?_ ?_ | with_reducible exact sort_suffixes_1_F_le .. | with_reducible exact slices_partialInsertionSortCmpFunc_int_loop5_F_le .. | with_reducible exact slices_partialInsertionSortCmpFunc_int_loop14_F_le .. | refine Ole.iter fun _ => ?_ | refine Ole.elim (fun _ => ?_) (fun _ => ?_) | refine Ole.bind ?_ fun _ => ?_ | refine Ole.demD ?_ ?_
noncomputable def slices_partialInsertionSortCmpFunc_int_loop3_F (fuel : Nat) (a1 b2 : Int) (s6 : Int × Int × (List Int) × (List Int)) : Option ((Int × Int × (List Int) × (List Int)) ⊕ (((List Int) × (List Int)) ⊕ (Bool × (List Int) × (List Int)))) :=
 let i7 := s6.1;
 let j8 := s6.2.1;
 let b9 := s6.2.2.1;
 let b10 := s6.2.2.2;
 (if (decide (j8 < 5)) = true then
 (iter (slices_partialInsertionSortCmpFunc_int_loop5_F fuel b2 b9) fuel (i7, b10)).bind (fun p21 =>
 let i22 := p21.1;
 let b23 := p21.2;
 (if (decide (i22 = b2)) = true then
 some (Sum.inr (Sum.inr (true, b9, b23)))
 else
 let t24 := IntKind.i64.wrap (b2 - a1);
 (if (decide (t24 < 50)) = true then
 some (Sum.inr (Sum.inr (false, b9, b23)))
 else
 let t25 := IntKind.i64.wrap (i22 - 1);
 let t26 := IntKind.i64.wrap (i22 - 1);
 (if 0 ≤ t26 ∧ t26 < (b9.length : Int) then
 let t27 : Int := rd b9 t26;
 (if 0 ≤ i22 ∧ i22 < (b9.length : Int) then
 let t28 : Int := rd b9 i22;
 (if 0 ≤ i22 ∧ i22 < (b9.length : Int) then
 let w29 : List Int := b9.set i22.toNat t27;
 (if 0 ≤ t25 ∧ t25 < (w29.length : Int) then
 let w30 : List Int := w29.set t25.toNat t28;
 let t31 := IntKind.i64.wrap (i22 - a1);
 ((if (decide (t31 ≥ 2)) = true then
 let t32 := IntKind.i64.wrap (i22 - 1);
 (iter (slices_partialInsertionSortCmpFunc_int_loop14_F fuel) fuel (t32, w30, b23)).bind (fun p50 =>
 let b51 := p50.1;
 let b52 := p50.2;
 some (b51, b52))
 else
 some (w30, b23)) : Option ((List Int) × (List Int))).bind (fun p53 =>
 let b54 := p53.1;
 let b55 := p53.2;
 let t56 := IntKind.i64.wrap (b2 - i22);
 (if (decide (t56 ≥ 2)) = true then
 let t57 := IntKind.i64.wrap (i22 + 1);
 (iter (slices_partialInsertionSortCmpFunc_int_loop20_F fuel b2) fuel (t57, b54, b55)).bind (fun p80 =>
 let b81 := p80.1;
 let b82 := p80.2;
 let t83 := IntKind.i64.wrap (j8 + 1);
 some (Sum.inl (i22, t83, b81, b82)))
 else
 let t84 := IntKind.i64.wrap (j8 + 1);
 some (Sum.inl (i22, t84, b54, b55))))
 else
 none)
 else
 none)
 else
 none)
 else
 none))))
 else
 some (Sum.inr (Sum.inl (b9, b10))))
theorem slices_partialInsertionSortCmpFunc_int_loop3_F_le (fuel : Nat) (a1 b2 : Int) (s6 : Int × Int × (List Int) × (List Int)) : Ole (slices_partialInsertionSortCmpFunc_int_loop3_F fuel a1 b2 s6) (slices_partialInsertionSortCmpFunc_int_loop3 a1 b2 s6) := by
  unfold slices_partialInsertionSortCmpFunc_int_loop3_F slices_partialInsertionSortCmpFunc_int_loop3; try dsimp only
  repeat' first | with_reducible exact Ole.refl _ | refine Ole.ite ?_ ?_ | with_reducible exact sort_suffixes_1_F_le .. | with_reducible exact slices_partialInsertionSortCmpFunc_int_loop5_F_le .. | with_reducible exact slices_partialInsertionSortCmpFunc_int_loop14_F_le .. | with_reducible exact slices_partialInsertionSortCmpFunc_int_loop20_F_le .. | refine Ole.iter fun _ => ?_ | refine Ole.elim (fun _ => ?_) (fun _ => ?_) | refine Ole.bind ?_ fun _ => ?_ | refine Ole.demD ?_ ?_
noncomputable def slices_partialInsertionSortCmpFunc_int_F (fuel : Nat) (a1 b2 : Int) (b3 b4 : List Int) : Option (Bool × (List Int) × (List Int)) :=
 let t5 := IntKind.i64.wrap (a1 + 1);
 (iter (slices_partialInsertionSortCmpFunc_int_loop3_F fuel a1 b2) fuel (t5, 0, b3, b4)).bind (fun o98 =>
 (Sum.elim (fun (p91 : (List Int) × (List Int)) =>
 let b92 := p91.1;
 let b93 := p91.2;
 some (false, b92, b93))
 (fun (p94 : Bool × (List Int) × (List Int)) =>
 let v95 := p94.1;
 let b96 := p94.2.1;
 let b97 := p94.2.2;
 some (v95, b96, b97)) o98))
theorem slices_partialInsertionSortCmpFunc_int_F_le (fuel : Nat) (a1 b2 : Int) (b3 b4 : List Int) : Ole (slices_partialInsertionSortCmpFunc_int_F fuel a1 b2 b3 b4) (slices_partialInsertionSortCmpFunc_int a1 b2 b3 b4) := by
  rw [slices_partialInsertionSortCmpFunc_int_eq]; unfold slices_partialInsertionSortCmpFunc_int_F; try dsimp only
  repeat' first | with_reducible exact Ole.refl _ | refine Ole.ite ?_ ?_ | with_reducible exact sort_suffixes_1_F_le .. | with_reducible exact slices_partialInsertionSortCmpFunc_int_loop5_F_le .. | with_reducible exact slices_partialInsertionSortCmpFunc_int_loop14_F_le .. | with_reducible exact slices_partialInsertionSortCmpFunc_int_loop20_F_le .. | with_reducible exact slices_partialInsertionSortCmpFunc_int_loop3_F_le .. | refine Ole.iter fun _ => ?_ | refine Ole.elim (fun _ => ?_) (fun _ => ?_) | refine Ole.bind ?_ fun _ => ?_ | refine Ole.demD ?_ ?_
noncomputable def slices_partitionCmpFunc_int_loop3_F (fuel : Nat) (a1 : Int) (w9 : List Int) (t11 : Int) (s12 : Int × (List Int)) : Option ((Int × (List Int)) ⊕ (Int × (List Int))) :=
 let i13 := s12.1;
 let b14 := s12.2;
 (if (decide (i13 ≤ t11)) = true then
 (if 0 ≤ i13 ∧ i13 < (w9.length : Int) then
 let t15 : Int := rd w9 i13;
 (if 0 ≤ a1 ∧ a1 < (w9.length : Int) then
 let t16 : Int := rd w9 a1;
 (sort_suffixes_1_F fuel t15 t16 b14).bind fun q17 =>
 let tr18 := q17.1;
 let tr19 := q17.2;
 (if (decide (tr18 < 0)) = true then
 let t20 := IntKind.i64.wrap (i13 + 1);
 some (Sum.inl (t20, tr19))
 else
 some (Sum.inr (i13, tr19)))
 else
 none)
 else
 none)
 else
 some (Sum.inr (i13, b14)))
theorem slices_partitionCmpFunc_int_loop3_F_le (fuel : Nat) (a1 : Int) (w9 : List Int) (t11 : Int) (s12 : Int × (List Int)) : Ole (slices_partitionCmpFunc_int_loop3_F fuel a1 w9 t11 s12) (slices_partitionCmpFunc_int_loop3 a1 w9 t11 s12) := by
  unfold slices_partitionCmpFunc_int_loop3_F slices_partitionCmpFunc_int_loop3; try dsimp only
  repeat' first | with_reducible exact Ole.refl _ | refine Ole.ite ?_ ?_ | with_reducible exact sort_suffixes_1_F_le .. | refine Ole.iter fun _ => ?_ | refine Ole.elim (fun _ => ?_) (fun _ => ?_) | refine Ole.bind ?_ fun _ => ?_ | refine Ole.demD ?_ ?_
noncomputable def slices_partitionCmpFunc_int_loop5_F (fuel : Nat) (a1 : Int) (w9 : List Int) (i22 : Int) (s24 : Int × (List Int)) : Option ((Int × (List Int)) ⊕ (Int × (List Int))) :=
 let j25 := s24.1;
 let b26 := s24.2;
 (if (decide (i22 ≤ j25)) = true then
 (if 0 ≤ j25 ∧ j25 < (w9.length : Int) then
 let t27 : Int := rd w9 j25;
 (if 0 ≤ a1 ∧ a1 < (w9.length : Int) then
 let t28 : Int := rd w9 a1;
 (sort_suffixes_1_F fuel t27 t28 b26).bind fun q29 =>
 let tr30 := q29.1;
 let tr31 := q29.2;
 (if (!(decide (tr30 < 0))) = true then
 let t32 := IntKind.i64.wrap (j25 - 1);
 some (Sum.inl (t32, tr31))
 else
 some (Sum.inr (j25, tr31)))
 else
 none)
 else
 none)
 else
 some (Sum.inr (j25, b26)))
theorem slices_partitionCmpFunc_int_loop5_F_le (fuel : Nat) (a1 : Int) (w9 : List Int) (i22 : Int) (s24 : Int × (List Int)) : Ole (slices_partitionCmpFunc_int_loop5_F fuel a1 w9 i22 s24) (slices_partitionCmpFunc_int_loop5 a1 w9 i22 s24) := by
  unfold slices_partitionCmpFunc_int_loop5_F slices_partitionCmpFunc_int_loop5; try dsimp only
  repeat' first | with_reducible exact Ole.refl _ | refine Ole.ite ?_ ?_ | with_reducible exact sort_suffixes_1_F_le .. | with_reducible exact slices_partitionCmpFunc_int_loop3_F_le .. | refine Ole.iter fun _ => ?_ | refine Ole.elim (fun _ => ?_) (fun _ => ?_) | refine Ole.bind ?_ fun _ => ?_ | refine Ole.demD ?_ ?_
noncomputable def slices_partitionCmpFunc_int_loop13_F (fuel : Nat) (a1 j48 : Int) (b49 : List Int) (s51 : Int × (List Int)) : Option ((Int × (List Int)) ⊕ (Int × (List Int))) :=
 let i52 := s51.1;
 let b53 := s51.2;
 (if (decide (i52 ≤ j48)) = true then
 (if 0 ≤ i52 ∧ i52 < (b49.length : Int) then
 let t54 : Int := rd b49 i52;
 (if 0 ≤ a1 ∧ a1 < (b49.length : Int) then
 let t55 : Int := rd b49 a1;
 (sort_suffixes_1_F fuel t54 t55 b53).bind fun q56 =>
 let tr57 := q56.1;
 let tr58 := q56.2;
 (if (decide (tr57 < 0)) = true then
 let t59 := IntKind.i64.wrap (i52 + 1);
 some (Sum.inl (t59, tr58))
 else
 some (Sum.inr (i52, tr58)))
 else
 none)
 else
 none)
 else
 some (Sum.inr (i52, b53)))
theorem slices_partitionCmpFunc_int_loop13_F_le (fuel : Nat) (a1 j48 : Int) (b49 : List Int) (s51 : Int × (List Int)) : Ole (slices_partitionCmpFunc_int_loop13_F fuel a1 j48 b49 s51) (slices_partitionCmpFunc_int_loop13 a1 j48 b49 s51) := by
  unfold slices_partitionCmpFunc_int_loop13_F slices_partitionCmpFunc_int_loop13; try dsimp only
  repeat' first | with_reducible exact Ole.refl _ | refine Ole.ite ?_ ?_ | with_reducible exact sort_suffixes_1_F_le .. | with_reducible exact slices_partitionCmpFunc_int_loop3_F_le .. | with_reducible exact slices_partitionCmpFunc_int_loop5_F_le .. | refine Ole.iter fun _ => ?_ | refine Ole.elim (fun _ => ?_) (fun _ => ?_) | refine Ole.bind ?_ fun _ => ?_ | refine Ole.demD ?_ ?_
noncomputable def slices_partitionCmpFunc_int_loop15_F (fuel : Nat) (a1 : Int) (b49 : List Int) (i61 : Int) (s63 : Int × (List Int)) : Option ((Int × (List Int)) ⊕ (Int × (List Int))) :=
 let j64 := s63.1;
 let b65 := s63.2;
 (if (decide (i61 ≤ j64)) = true then
 (if 0 ≤ j64 ∧ j64 < (b49.length : Int) then
 let t66 : Int := rd b49 j64;
 (if 0 ≤ a1 ∧ a1 < (b49.length : Int) then
 let t67 : Int := rd b49 a1;
 (sort_suffixes_1_F fuel t66 t67 b65).bind fun q68 =>
 let tr69 := q68.1;
 let tr70 := q68.2;
 (if (!(decide (tr69 < 0))) = true then
 let t71 := IntKind.i64.wrap (j64 - 1);
 some (Sum.inl (t71, tr70))
 else
 some (Sum.inr (j64, tr70)))
 else
 none)
 else
 none)
 else
 some (Sum.inr (j64, b65)))
theorem slices_partitionCmpFunc_int_loop15_F_le (fuel : Nat) (a1 : Int) (b49 : List Int) (i61 : Int) (s63 : Int × (List Int)) : Ole (slices_partitionCmpFunc_int_loop15_F fuel a1 b49 i61 s63) (slices_partitionCmpFunc_int_loop15 a1 b49 i61 s63) := by
  unfold slices_partitionCmpFunc_int_loop15_F slices_partitionCmpFunc_int_loop15; try dsimp only
  repeat' first | with_reducible exact Ole.refl _ | refine Ole.ite ?_ ?_ | with_reducible exact sort_suffixes_1_F_le .. | with_reducible exact slices_partitionCmpFunc_int_loop3_F_le .. | with_reducible exact slices_partitionCmpFunc_int_loop5_F_le .. | with_reducible exact slices_partitionCmpFunc_int_loop13_F_le .. | refine Ole.iter fun _ => ?_ | refine Ole.elim (fun _ => ?_) (fun _ => ?_) | refine Ole.bind ?_ fun _ => ?_ | refine Ole.demD ?_ ?_
noncomputable def slices_partitionCmpFunc_int_loop1000013_F (fuel : Nat) (a1 : Int) (s46 : Int × Int × (List Int) × (List Int)) : Option ((Int × Int × (List Int) × (List Int)) ⊕ (Int × (List Int) × (List Int))) :=
 let i47 := s46.1;
 let j48 := s46.2.1;
 let b49 := s46.2.2.1;
 let b50 := s46.2.2.2;
 (iter (slices_partitionCmpFunc_int_loop13_F fuel a1 j48 b49) fuel (i47, b50)).bind (fun p60 =>
 let i61 := p60.1;
 let b62 := p60.2;
 (iter (slices_partitionCmpFunc_int_loop15_F fuel a1 b49 i61) fuel (j48, b62)).bind (fun p72 =>
 let j73 := p72.1;
 let b74 := p72.2;
 (if (decide (i61 > j73)) = true then
 some (Sum.inr (j73, b49, b74))
 else
 (if 0 ≤ j73 ∧ j73 < (b49.length : Int) then
 let t75 : Int := rd b49 j73;
 (if 0 ≤ i61 ∧ i61 < (b49.length : Int) then
 let t76 : Int := rd b49 i61;
 (if 0 ≤ i61 ∧ i61 < (b49.length : Int) then
 let w77 : List Int := b49.set i61.toNat t75;
 (if 0 ≤ j73 ∧ j73 < (w77.length : Int) then
 let w78 : List Int := w77.set j73.toNat t76;
 let t79 := IntKind.i64.wrap (i61 + 1);
 let t80 := IntKind.i64.wrap (j73 - 1);
 some (Sum.inl (t79, t80, w78, b74))
 else
 none)
 else
 none)
 else
 none)
 else
 none))))
theorem slices_partitionCmpFunc_int_loop1000013_F_le (fuel : Nat) (a1 : Int) (s46 : Int × Int × (List Int) × (List Int)) : Ole (slices_partitionCmpFunc_int_loop1000013_F fuel a1 s46) (slices_partitionCmpFunc_int_loop1000013 a1 s46) := by
  unfold slices_partitionCmpFunc_int_loop1000013_F slices_partitionCmpFunc_int_loop1000013; try dsimp only
  repeat' first | with_reducible exact Ole.refl _ | refine Ole.ite ?_ ?_ | with_reducible exact sort_suffixes_1_F_le .. | with_reducible exact slices_partitionCmpFunc_int_loop3_F_le .. | with_reducible exact slices_partitionCmpFunc_int_loop5_F_le .. | with_reducible exact slices_partitionCmpFunc_int_loop13_F_le .. | with_reducible exact slices_partitionCmpFunc_int_loop15_F_le .. | refine Ole.iter fun _ => ?_ | refine Ole.elim (fun _ => ?_) (fun _ => ?_) | refine Ole.bind ?_ fun _ => ?_ | refine Ole.demD ?_ ?_
noncomputable def slices_partitionCmpFunc_int_F (fuel : Nat) (a1 b2 pivot3 : Int) (b4 b5 : List Int) : Option (Int × Bool × (List Int) × (List Int)) :=
 (if 0 ≤ pivot3 ∧ pivot3 < (b4.length : Int) then
 let t6 : Int := rd b4 pivot3;
 (if 0 ≤ a1 ∧ a1 < (b4.length : Int) then
 let t7 : Int := rd b4 a1;
 (if 0 ≤ a1 ∧ a1 < (b4.length : Int) then
 let w8 : List Int := b4.set a1.toNat t6;
 (if 0 ≤ pivot3 ∧ pivot3 < (w8.length : Int) then
 let w9 : List Int := w8.set pivot3.toNat t7;
 let t10 := IntKind.i64.wrap (a1 + 1);
 let t11 := IntKind.i64.wrap (b2 - 1);
 (iter (slices_partitionCmpFunc_int_loop3_F fuel a1 w9 t11) fuel (t10, b5)).bind (fun p21 =>
 let i22 := p21.1;
 let b23 := p21.2;
 (iter (slices_partitionCmpFunc_int_loop5_F fuel a1 w9 i22) fuel (t11, b23)).bind (fun p33 =>
 let j34 := p33.1;
 let b35 := p33.2;
 (if (decide (i22 > j34)) = true then
 (if 0 ≤ a1 ∧ a1 < (w9.length : Int) then
 let t36 : Int := rd w9 a1;
 (if 0 ≤ j34 ∧ j34 < (w9.length : Int) then
 let t37 : Int := rd w9 j34;
 (if 0 ≤ j34 ∧ j34 < (w9.length : Int) then
 let w38 : List Int := w9.set j34.toNat t36;
 (if 0 ≤ a1 ∧ a1 < (w38.length : Int) then
 let w39 : List Int := w38.set a1.toNat t37;
 some (j34, true, w39, b35)
 else
 none)
 else
 none)
 else
 none)
 else
 none)
 else
 (if 0 ≤ j34 ∧ j34 < (w9.length : Int) then
 let t40 : Int := rd w9 j34;
 (if 0 ≤ i22 ∧ i22 < (w9.length : Int) then
 let t41 : Int := rd w9 i22;
 (if 0 ≤ i22 ∧ i22 < (w9.length : Int) then
 let w42 : List Int := w9.set i22.toNat t40;
 (if 0 ≤ j34 ∧ j34 < (w42.length : Int) then
 let w43 : List Int := w42.set j34.toNat t41;
 let t44 := IntKind.i64.wrap (i22 + 1);
 let t45 := IntKind.i64.wrap (j34 - 1);
 (iter (slices_partitionCmpFunc_int_loop1000013_F fuel a1) fuel (t44, t45, w43, b35)).bind (fun p81 =>
 let j82 := p81.1;
 let b83 := p81.2.1;
 let b84 := p81.2.2;
 (if 0 ≤ a1 ∧ a1 < (b83.length : Int) then
 let t85 : Int := rd b83 a1;
 (if 0 ≤ j82 ∧ j82 < (b83.length : Int) then
 let t86 : Int := rd b83 j82;
 (if 0 ≤ j82 ∧ j82 < (b83.length : Int) then
 let w87 : List Int := b83.set j82.toNat t85;
 (if 0 ≤ a1 ∧ a1 < (w87.length : Int) then
 let w88 : List Int := w87.set a1.toNat t86;
 some (j82, false, w88, b84)
 else
 none)
 else
 none)
 else
 none)
 else
 none))
 else
 none)
 else
 none)
 else
 none)
 else
 none))))
 else
 none)
 else
 none)
 else
 none)
 else
 none)
theorem slices_partitionCmpFunc_int_F_le (fuel : Nat) (a1 b2 pivot3 : Int) (b4 b5 : List Int) : Ole (slices_partitionCmpFunc_int_F fuel a1 b2 pivot3 b4 b5) (slices_partitionCmpFunc_int a1 b2 pivot3 b4 b5) := by
  rw [slices_partitionCmpFunc_int_eq]; unfold slices_partitionCmpFunc_int_F; try dsimp only
  repeat' first | with_reducible exact Ole.refl _ | refine Ole.ite ?_ ?_ | with_reducible exact sort_suffixes_1_F_le .. | with_reducible exact slices_partitionCmpFunc_int_loop3_F_le .. | with_reducible exact slices_partitionCmpFunc_int_loop5_F_le .. | with_reducible exact slices_partitionCmpFunc_int_loop13_F_le .. | with_reducible exact slices_partitionCmpFunc_int_loop15_F_le .. | with_reducible exact slices_partitionCmpFunc_int_loop1000013_F_le .. | refine Ole.iter fun _ => ?_ | refine Ole.elim (fun _ => ?_) (fun _ => ?_) | refine Ole.bind ?_ fun _ => ?_ | refine Ole.demD ?_ ?_
noncomputable def slices_partitionEqualCmpFunc_int_loop3_F (fuel : Nat) (a1 j14 : Int) (b15 : List Int) (s17 : Int × (List Int)) : Option ((Int × (List Int)) ⊕ (Int × (List Int))) :=
 let i18 := s17.1;
 let b19 := s17.2;
 (if (decide (i18 ≤ j14)) = true then
 (if 0 ≤ a1 ∧ a1 < (b15.length : Int) then
 let t20 : Int := rd b15 a1;
 (if 0 ≤ i18 ∧ i18 < (b15.length : Int) then
 let t21 : Int := rd b15 i18;
 (sort_suffixes_1_F fuel t20 t21 b19).bind fun q22 =>
 let tr23 := q22.1;
 let tr24 := q22.2;
 (if (!(decide (tr23 < 0))) = true then
 let t25 := IntKind.i64.wrap (i18 + 1);
 some (Sum.inl (t25, tr24))
 else
 some (Sum.inr (i18, tr24)))
 else
 none)
 else
 none)
 else
 some (Sum.inr (i18, b19)))
theorem slices_partitionEqualCmpFunc_int_loop3_F_le (fuel : Nat) (a1 j14 : Int) (b15 : List Int) (s17 : Int × (List Int)) : Ole (slices_partitionEqualCmpFunc_int_loop3_F fuel a1 j14 b15 s17) (slices_partitionEqualCmpFunc_int_loop3 a1 j14 b15 s17) := by
  unfold slices_partitionEqualCmpFunc_int_loop3_F slices_partitionEqualCmpFunc_int_loop3; try dsimp only
  repeat' first | with_reducible exact Ole.refl _ | refine Ole.ite ?_ ?_ | with_reducible exact sort_suffixes_1_F_le .. | refine Ole.iter fun _ => ?_ | refine Ole.elim (fun _ => ?_) (fun _ => ?_) | refine Ole.bind ?_ fun _ => ?_ | refine Ole.demD ?_ ?_
noncomputable def slices_partitionEqualCmpFunc_int_loop5_F (fuel : Nat) (a1 : Int) (b15 : List Int) (i27 : Int) (s29 : Int × (List Int)) : Option ((Int × (List Int)) ⊕ (Int × (List Int))) :=
 let j30 := s29.1;
 let b31 := s29.2;
 (if (decide (i27 ≤ j30)) = true then
 (if 0 ≤ a1 ∧ a1 < (b15.length : Int) then
 let t32 : Int := rd b15 a1;
 (if 0 ≤ j30 ∧ j30 < (b15.length : Int) then
 let t33 : Int := rd b15 j30;
 (sort_suffixes_1_F fuel t32 t33 b31).bind fun q34 =>
 let tr35 := q34.1;
 let tr36 := q34.2;
 (if (decide (tr35 < 0)) = true then
 let t37 := IntKind.i64.wrap (j30 - 1);
 some (Sum.inl (t37, tr36))
 else
 some (Sum.inr (j30, tr36)))
 else
 none)
 else
 none)
 else
 some (Sum.inr (j30, b31)))
theorem slices_partitionEqualCmpFunc_int_loop5_F_le (fuel : Nat) (a1 : Int) (b15 : List Int) (i27 : Int) (s29 : Int × (List Int)) : Ole (slices_partitionEqualCmpFunc_int_loop5_F fuel a1 b15 i27 s29) (slices_partitionEqualCmpFunc_int_loop5 a1 b15 i27 s29) := by
  unfold slices_partitionEqualCmpFunc_int_loop5_F slices_partitionEqualCmpFunc_int_loop5; try dsimp only
  repeat' first | with_reducible exact Ole.refl _ | refine Ole.ite ?_ ?_ | with_reducible exact sort_suffixes_1_F_le .. | with_reducible exact slices_partitionEqualCmpFunc_int_loop3_F_le .. | refine Ole.iter fun _ => ?_ | refine Ole.elim (fun _ => ?_) (fun _ => ?_) | refine Ole.bind ?_ fun _ => ?_ | refine Ole.demD ?_ ?_
noncomputable def slices_partitionEqualCmpFunc_int_loop1000003_F (fuel : Nat) (a1 : Int) (s12 : Int × Int × (List Int) × (List Int)) : Option ((Int × Int × (List Int) × (List Int)) ⊕ (Int × (List Int) × (List Int))) :=
 let i13 := s12.1;
 let j14 := s12.2.1;
 let b15 := s12.2.2.1;
 let b16 := s12.2.2.2;
 (iter (slices_partitionEqualCmpFunc_int_loop3_F fuel a1 j14 b15) fuel (i13, b16)).bind (fun p26 =>
 let i27 := p26.1;
 let b28 := p26.2;
 (iter (slices_partitionEqualCmpFunc_int_loop5_F fuel a1 b15 i27) fuel (j14, b28)).bind (fun p38 =>
 let j39 := p38.1;
 let b40 := p38.2;
 (if (decide (i27 > j39)) = true then
 some (Sum.inr (i27, b15, b40))
 else
 (if 0 ≤ j39 ∧ j39 < (b15.length : Int) then
 let t41 : Int := rd b15 j39;
 (if 0 ≤ i27 ∧ i27 < (b15.length : Int) then
 let t42 : Int := rd b15 i27;
 (if 0 ≤ i27 ∧ i27 < (b15.length : Int) then
 let w43 : List Int := b15.set i27.toNat t41;
 (if 0 ≤ j39 ∧ j39 < (w43.length : Int) then
 let w44 : List Int := w43.set j39.toNat t42;
 let t45 := IntKind.i64.wrap (i27 + 1);
 let t46 := IntKind.i64.wrap (j39 - 1);
 some (Sum.inl (t45, t46, w44, b40))
 else
 none)
 else
 none)
 else
 none)
 else
 none))))
theorem slices_partitionEqualCmpFunc_int_loop1000003_F_le (fuel : Nat) (a1 : Int) (s12 : Int × Int × (List Int) × (List Int)) : Ole (slices_partitionEqualCmpFunc_int_loop1000003_F fuel a1 s12) (slices_partitionEqualCmpFunc_int_loop1000003 a1 s12) := by
  unfold slices_partitionEqualCmpFunc_int_loop1000003_F slices_partitionEqualCmpFunc_int_loop1000003; try dsimp only
  repeat' first | with_reducible exact Ole.refl _ | refine Ole.ite ?_ ?_ | with_reducible exact sort_suffixes_1_F_le .. | with_reducible exact slices_partitionEqualCmpFunc_int_loop3_F_le .. | with_reducible exact slices_partitionEqualCmpFunc_int_loop5_F_le .. | refine Ole.iter fun _ => ?_ | refine Ole.elim (fun _ => ?_) (fun _ => ?_) | refine Ole.bind ?_ fun _ => ?_ | refine Ole.demD ?_ ?_
noncomputable def slices_partitionEqualCmpFunc_int_F (fuel : Nat) (a1 b2 pivot3 : Int) (b4 b5 : List Int) : Option (Int × (List Int) × (List Int)) :=
 (if 0 ≤ pivot3 ∧ pivot3 < (b4.length : Int) then
 let t6 : Int := rd b4 pivot3;
 (if 0 ≤ a1 ∧ a1 < (b4.length : Int) then
 let t7 : Int := rd b4 a1;
 (if 0 ≤ a1 ∧ a1 < (b4.length : Int) then
 let w8 : List Int := b4.set a1.toNat t6;
 (if 0 ≤ pivot3 ∧ pivot3 < (w8.length : Int) then
 let w9 : List Int := w8.set pivot3.toNat t7;
 let t10 := IntKind.i64.wrap (a1 + 1);
 let t11 := IntKind.i64.wrap (b2 - 1);
 (iter (slices_partitionEqualCmpFunc_int_loop1000003_F fuel a1) fuel (t10, t11, w9, b5)).bind (fun p47 =>
 let i48 := p47.1;
 let b49 := p47.2.1;
 let b50 := p47.2.2;
 some (i48, b49, b50))
 else
 none)
 else
 none)
 else
 none)
 else
 none)
theorem slices_partitionEqualCmpFunc_int_F_le (fuel : Nat) (a1 b2 pivot3 : Int) (b4 b5 : List Int) : Ole (slices_partitionEqualCmpFunc_int_F fuel a1 b2 pivot3 b4 b5) (slices_partitionEqualCmpFunc_int a1 b2 pivot3 b4 b5) := by
  rw [slices_partitionEqualCmpFunc_int_eq]; unfold slices_partitionEqualCmpFunc_int_F; try dsimp only
  repeat' first | with_reducible exact Ole.refl _ | refine Ole.ite ?_ ?_ | with_reducible exact sort_suffixes_1_F_le .. | with_reducible exact slices_partitionEqualCmpFunc_int_loop3_F_le .. | with_reducible exact slices_partitionEqualCmpFunc_int_loop5_F_le .. | with_reducible exact slices_partitionEqualCmpFunc_int_loop1000003_F_le .. | refine Ole.iter fun _ => ?_ | refine Ole.elim (fun _ => ?_) (fun _ => ?_) | refine Ole.bind ?_ fun _ => ?_ | refine Ole.demD ?_ ?_
noncomputable def slices_reverseRangeCmpFunc_int_loop2_F (fuel : Nat) (s6 : Int × Int × (List Int)) : Option ((Int × Int × (List Int)) ⊕ ((List Int))) :=
 let i7 := s6.1;
 let j8 := s6.2.1;
 let b9 := s6.2.2;
 (if (decide (i7 < j8)) = true then
 (if 0 ≤ j8 ∧ j8 < (b9.length : Int) then
 let t10 : Int := rd b9 j8;
 (if 0 ≤ i7 ∧ i7 < (b9.length : Int) then
 let t11 : Int := rd b9 i7;
 (if 0 ≤ i7 ∧ i7 < (b9.length : Int) then
 let w12 : List Int := b9.set i7.toNat t10;
 (if 0 ≤ j8 ∧ j8 < (w12.length : Int) then
 let w13 : List Int := w12.set j8.toNat t11;
 let t14 := IntKind.i64.wrap (i7 + 1);
 let t15 := IntKind.i64.wrap (j8 - 1);
 some (Sum.inl (t14, t15, w13))
 else
 none)
 else
 none)
 else
 none)
 else
 none)
 else
 some (Sum.inr b9))
theorem slices_reverseRangeCmpFunc_int_loop2_F_le (fuel : Nat) (s6 : Int × Int × (List Int)) : Ole (slices_reverseRangeCmpFunc_int_loop2_F fuel s6) (slices_reverseRangeCmpFunc_int_loop2 s6) := by
  unfold slices_reverseRangeCmpFunc_int_loop2_F slices_reverseRangeCmpFunc_int_loop2; try dsimp only
  repeat' first | with_reducible exact Ole.refl _ | refine Ole.ite ?_ ?_ | refine Ole.iter fun _ => ?_ | refine Ole.elim (fun _ => ?_) (fun _ => ?_) | refine Ole.bind ?_ fun _ => ?_ | refine Ole.demD ?_ ?_
noncomputable def slices_reverseRangeCmpFunc_int_F (fuel : Nat) (a1 b2 : Int) (b3 b4 : List Int) : Option ((List Int) × (List Int)) :=
 let t5 := IntKind.i64.wrap (b2 - 1);
 (iter (slices_reverseRangeCmpFunc_int_loop2_F fuel) fuel (a1, t5, b3)).bind (fun b16 =>
 some (b16, b4))
theorem slices_reverseRangeCmpFunc_int_F_le (fuel : Nat) (a1 b2 : Int) (b3 b4 : List Int) : Ole (slices_reverseRangeCmpFunc_int_F fuel a1 b2 b3 b4) (slices_reverseRangeCmpFunc_int a1 b2 b3 b4) := by
  rw [slices_reverseRangeCmpFunc_int_eq]; unfold slices_reverseRangeCmpFunc_int_F; try dsimp only
  repeat' first | with_reducible exact Ole.refl _ | refine Ole.ite ?_ ?_ | with_reducible exact slices_reverseRangeCmpFunc_int_loop2_F_le .. | refine Ole.iter fun _ => ?_ | refine Ole.elim (fun _ => ?_) (fun _ => ?_) | refine Ole.bind ?_ fun _ => ?_ | refine Ole.demD ?_ ?_
noncomputable def slices_pdqsortCmpFunc_int_loop2_F (fuel : Nat) (r_slices_pdqsortCmpFunc_int : Int → Int → Int → (List Int) → (List Int) → Option ((List Int) × (List Int))) (s6 : Int × Int × Int × Bool × Bool × (List Int) × (List Int)) : Option ((Int × Int × Int × Bool × Bool × (List Int) × (List Int)) ⊕ ((List Int) × (List Int))) :=
 let a7 := s6.1;
 let b8 := s6.2.1;
 let limit9 := s6.2.2.1;
 let wasBalanced10 := s6.2.2.2.1;
 let wasPartitioned11 := s6.2.2.2.2.1;
 let b12 := s6.2.2.2.2.2.1;
 let b13 := s6.2.2.2.2.2.2;
 let t14 := IntKind.i64.wrap (b8 - a7);
 (if (decide (t14 ≤ 12)) = true then
 (slices_insertionSortCmpFunc_int_F fuel a7 b8 b12 b13).bind fun q15 =>
 let tr16 := q15.1;
 let tr17 := q15.2;
 some (Sum.inr (tr16, tr17))
 else
 (if (decide (limit9 = 0)) = true then
 (slices_heapSortCmpFunc_int_F fuel a7 b8 b12 b13).bind fun q18 =>
 let tr19 := q18.1;
 let tr20 := q18.2;
 some (Sum.inr (tr19, tr20))
 else
 ((if (!wasBalanced10) = true then
 (slices_breakPatternsCmpFunc_int_F fuel a7 b8 b12 b13).bind fun q21 =>
 let tr22 := q21.1;
 let tr23 := q21.2;
 let t24 := IntKind.i64.wrap (limit9 - 1);
 some (t24, tr22, tr23)
 else
 some (limit9, b12, b13)) : Option (Int × (List Int) × (List Int))).bind (fun p25 =>
 let limit26 := p25.1;
 let b27 := p25.2.1;
 let b28 := p25.2.2;
 (slices_choosePivotCmpFunc_int_F fuel a7 b8 b27 b28).bind fun q29 =>
 let tr30 := q29.1;
 let tr31 := q29.2.1;
 let tr32 := q29.2.2.1;
 let tr33 := q29.2.2.2;
 ((if (decide (tr31 = 2)) = true then
 (slices_reverseRangeCmpFunc_int_F fuel a7 b8 tr32 tr33).bind fun q34 =>
 let tr35 := q34.1;
 let tr36 := q34.2;
 let t37 := IntKind.i64.wrap (b8 - 1);
 let t38 := IntKind.i64.wrap (tr30 - a7);
 let t39 := IntKind.i64.wrap (t37 - t38);
 some (t39, 1, tr35, tr36)
 else
 some (tr30, tr31, tr32, tr33)) : Option (Int × Int × (List Int) × (List Int))).bind (fun p40 =>
 let pivot41 := p40.1;
 let hint42 := p40.2.1;
 let b43 := p40.2.2.1;
 let b44 := p40.2.2.2;
 ((if wasBalanced10 = true then
 (if wasPartitioned11 = true then
 some (decide (hint42 = 1))
 else
 some false)
 else
 some false) : Option (Bool)).bind (fun v45 =>
 ((if v45 = true then
 (slices_partialInsertionSortCmpFunc_int_F fuel a7 b8 b43 b44).bind fun q46 =>
 let tr47 := q46.1;
 let tr48 := q46.2.1;
 let tr49 := q46.2.2;
 (if tr47 = true then
 some (Sum.inr (tr48, tr49))
 else
 some (Sum.inl (tr48, tr49)))
 else
 some (Sum.inl (b43, b44))) : Option (((List Int) × (List Int)) ⊕ ((List Int) × (List Int)))).bind (fun o56 =>
 (Sum.elim (fun (p50 : (List Int) × (List Int)) =>
 let b51 := p50.1;
 let b52 := p50.2;
 ((if (decide (a7 > 0)) = true then
 let t57 := IntKind.i64.wrap (a7 - 1);
 (if 0 ≤ t57 ∧ t57 < (b51.length : Int) then
 let t58 : Int := rd b51 t57;
 (if 0 ≤ pivot41 ∧ pivot41 < (b51.length : Int) then
 let t59 : Int := rd b51 pivot41;
 (sort_suffixes_1_F fuel t58 t59 b52).bind fun q60 =>
 let tr61 := q60.1;
 let tr62 := q60.2;
 some (!(decide (tr61 < 0)), tr62)
 else
 none)
 else
 none)
 else
 some (false, b52)) : Option (Bool × (List Int))).bind (fun p63 =>
 let v64 := p63.1;
 let b65 := p63.2;
 (if v64 = true then
 (slices_partitionEqualCmpFunc_int_F fuel a7 b8 pivot41 b51 b65).bind fun q66 =>
 let tr67 := q66.1;
 let tr68 := q66.2.1;
 let tr69 := q66.2.2;
 some (Sum.inl (tr67, b8, limit26, wasBalanced10, wasPartitioned11, tr68, tr69))
 else
 (slices_partitionCmpFunc_int_F fuel a7 b8 pivot41 b51 b65).bind fun q70 =>
 let tr71 := q70.1;
 let tr72 := q70.2.1;
 let tr73 := q70.2.2.1;
 let tr74 := q70.2.2.2;
 let t75 := IntKind.i64.wrap (tr71 - a7);
 let t76 := IntKind.i64.wrap (b8 - tr71);
 let t77 := IntKind.i64.wrap (t14.tdiv 8);
 (if (decide (t75 < t76)) = true then
 (r_slices_pdqsortCmpFunc_int a7 tr71 limit26 tr73 tr74).bind fun q78 =>
 let tr79 := q78.1;
 let tr80 := q78.2;
 let t81 := IntKind.i64.wrap (tr71 + 1);
 some (Sum.inl (t81, b8, limit26, decide (t75 ≥ t77), tr72, tr79, tr80))
 else
 let t82 := IntKind.i64.wrap (tr71 + 1);
 (r_slices_pdqsortCmpFunc_int t82 b8 limit26 tr73 tr74).bind fun q83 =>
 let tr84 := q83.1;
 let tr85 := q83.2;
 some (Sum.inl (a7, tr71, limit26, decide (t76 ≥ t77), tr72, tr84, tr85))))))
 (fun (p53 : (List Int) × (List Int)) =>
 let b54 := p53.1;
 let b55 := p53.2;
 some (Sum.inr (b54, b55))) o56)))))))
theorem slices_pdqsortCmpFunc_int_loop2_F_le (fuel : Nat) (r_slices_pdqsortCmpFunc_int : Int → Int → Int → (List Int) → (List Int) → Option ((List Int) × (List Int))) (h_slices_pdqsortCmpFunc_int : ∀ a1 b2 limit3 b4 b5, Ole (r_slices_pdqsortCmpFunc_int a1 b2 limit3 b4 b5) (slices_pdqsortCmpFunc_int a1 b2 limit3 b4 b5)) (s6 : Int × Int × Int × Bool × Bool × (List Int) × (List Int)) : Ole (slices_pdqsortCmpFunc_int_loop2_F fuel r_slices_pdqsortCmpFunc_int s6) (slices_pdqsortCmpFunc_int_loop2 s6) := by
  unfold slices_pdqsortCmpFunc_int_loop2_F slices_pdqsortCmpFunc_int_loop2; try dsimp only
  repeat' first | with_reducible exact Ole.refl _ | refine Ole.ite ?_ ?_ | with_reducible exact slices_breakPatternsCmpFunc_int_F_le .. | with_reducible exact slices_choosePivotCmpFunc_int_F_le .. | with_reducible exact slices_heapSortCmpFunc_int_F_le .. | with_reducible exact slices_insertionSortCmpFunc_int_F_le .. | with_reducible exact slices_partialInsertionSortCmpFunc_int_F_le .. | with_reducible exact slices_partitionCmpFunc_int_F_le .. | with_reducible exact slices_partitionEqualCmpFunc_int_F_le .. | with_reducible exact slices_reverseRangeCmpFunc_int_F_le .. | with_reducible exact sort_suffixes_1_F_le .. | with_reducible exact h_slices_pdqsortCmpFunc_int .. | refine Ole.iter fun _ => ?_ | refine Ole.elim (fun _ => ?_) (fun _ => ?_) | refine Ole.bind ?_ fun _ => ?_ | refine Ole.demD ?_ ?_
noncomputable def slices_pdqsortCmpFunc_int_B (fuel : Nat) (r_slices_pdqsortCmpFunc_int : Int → Int → Int → (List Int) → (List Int) → Option ((List Int) × (List Int))) (a1 b2 limit3 : Int) (b4 b5 : List Int) : Option ((List Int) × (List Int)) :=
 (iter (slices_pdqsortCmpFunc_int_loop2_F fuel r_slices_pdqsortCmpFunc_int) fuel (a1, b2, limit3, true, true, b4, b5)).bind (fun p86 =>
 let b87 := p86.1;
 let b88 := p86.2;
 some (b87, b88))
theorem slices_pdqsortCmpFunc_int_B_le (fuel : Nat) (r_slices_pdqsortCmpFunc_int : Int → Int → Int → (List Int) → (List Int) → Option ((List Int) × (List Int))) (h_slices_pdqsortCmpFunc_int : ∀ a1 b2 limit3 b4 b5, Ole (r_slices_pdqsortCmpFunc_int a1 b2 limit3 b4 b5) (slices_pdqsortCmpFunc_int a1 b2 limit3 b4 b5)) (a1 b2 limit3 : Int) (b4 b5 : List Int) : Ole (slices_pdqsortCmpFunc_int_B fuel r_slices_pdqsortCmpFunc_int a1 b2 limit3 b4 b5) (slices_pdqsortCmpFunc_int a1 b2 limit3 b4 b5) := by
  rw [slices_pdqsortCmpFunc_int_eq]; unfold slices_pdqsortCmpFunc_int_B; try dsimp only
  repeat' first | with_reducible exact Ole.refl _ | refine Ole.ite ?_ ?_ | with_reducible exact slices_breakPatternsCmpFunc_int_F_le .. | with_reducible exact slices_choosePivotCmpFunc_int_F_le .. | with_reducible exact slices_heapSortCmpFunc_int_F_le .. | with_reducible exact slices_insertionSortCmpFunc_int_F_le .. | with_reducible exact slices_partialInsertionSortCmpFunc_int_F_le .. | with_reducible exact slices_partitionCmpFunc_int_F_le .. | with_reducible exact slices_partitionEqualCmpFunc_int_F_le .. | with_reducible exact slices_reverseRangeCmpFunc_int_F_le .. | with_reducible exact sort_suffixes_1_F_le .. | with_reducible exact h_slices_pdqsortCmpFunc_int .. | with_reducible exact slices_pdqsortCmpFunc_int_loop2_F_le fuel r_slices_pdqsortCmpFunc_int h_slices_pdqsortCmpFunc_int .. | refine Ole.iter fun _ => ?_ | refine Ole.elim (fun _ => ?_) (fun _ => ?_) | refine Ole.bind ?_ fun _ => ?_ | refine Ole.demD ?_ ?_
noncomputable def slices_pdqsortCmpFunc_int_R (fuel : Nat) : Nat → (Int → Int → Int → (List Int) → (List Int) → Option ((List Int) × (List Int)))
  | 0 => (fun a1 b2 limit3 b4 b5 => none)
  | n + 1 => (fun a1 b2 limit3 b4 b5 => slices_pdqsortCmpFunc_int_B fuel (slices_pdqsortCmpFunc_int_R fuel n) a1 b2 limit3 b4 b5)
theorem slices_pdqsortCmpFunc_int_R_le (fuel : Nat) : ∀ n, (∀ a1 b2 limit3 b4 b5, Ole (slices_pdqsortCmpFunc_int_R fuel n a1 b2 limit3 b4 b5) (slices_pdqsortCmpFunc_int a1 b2 limit3 b4 b5))
  | 0 => fun _ _ _ _ _ => Ole.none
  | n + 1 => fun a1 b2 limit3 b4 b5 => slices_pdqsortCmpFunc_int_B_le fuel (slices_pdqsortCmpFunc_int_R fuel n) (slices_pdqsortCmpFunc_int_R_le fuel n) a1 b2 limit3 b4 b5
noncomputable def slices_pdqsortCmpFunc_int_F (fuel : Nat) (a1 b2 limit3 : Int) (b4 b5 : List Int) : Option ((List Int) × (List Int)) := slices_pdqsortCmpFunc_int_R fuel fuel a1 b2 limit3 b4 b5
theorem slices_pdqsortCmpFunc_int_F_le (fuel : Nat) (a1 b2 limit3 : Int) (b4 b5 : List Int) : Ole (slices_pdqsortCmpFunc_int_F fuel a1 b2 limit3 b4 b5) (slices_pdqsortCmpFunc_int a1 b2 limit3 b4 b5) := (slices_pdqsortCmpFunc_int_R_le fuel fuel) a1 b2 limit3 b4 b5
noncomputable def slices_SortFunc_int_int_F (fuel : Nat) (b1 b2 : List Int) : Option ((List Int) × (List Int)) :=
 let t3 := IntKind.u64.wrap ((b1.length : Nat) : Int);
 (math_bits_Len_F fuel t3).bind fun q4 =>
 (slices_pdqsortCmpFunc_int_F fuel 0 ((b1.length : Nat) : Int) q4 b1 b2).bind fun q5 =>
 let tr6 := q5.1;
 let tr7 := q5.2;
 some (tr6, tr7)
theorem slices_SortFunc_int_int_F_le (fuel : Nat) (b1 b2 : List Int) : Ole (slices_SortFunc_int_int_F fuel b1 b2) (slices_SortFunc_int_int b1 b2) := by
  rw [slices_SortFunc_int_int_eq]; unfold slices_SortFunc_int_int_F; try dsimp only
  repeat' first | with_reducible exact Ole.refl _ | refine Ole.ite ?_ ?_ | with_reducible exact math_bits_Len_F_le .. | with_reducible exact slices_pdqsortCmpFunc_int_F_le .. | refine Ole.iter fun _ => ?_ | refine Ole.elim (fun _ => ?_) (fun _ => ?_) | refine Ole.bind ?_ fun _ => ?_ | refine Ole.demD ?_ ?_
noncomputable def sort_suffixes_loop3_F (fuel : Nat) (t3 : List Int) (s4 : Int × (List Int)) : Option ((Int × (List Int)) ⊕ ((List Int))) :=
 let v5 := s4.1;
 let b6 := s4.2;
 (if (decide (v5 < ((t3.length : Nat) : Int))) = true then
 (if 0 ≤ v5 ∧ v5 < (b6.length : Int) then
 let w7 : List Int := b6.set v5.toNat v5;
 let t8 := IntKind.i64.wrap (v5 + 1);
 some (Sum.inl (t8, w7))
 else
 none)
 else
 some (Sum.inr b6))
theorem sort_suffixes_loop3_F_le (fuel : Nat) (t3 : List Int) (s4 : Int × (List Int)) : Ole (sort_suffixes_loop3_F fuel t3 s4) (sort_suffixes_loop3 t3 s4) := by
  unfold sort_suffixes_loop3_F sort_suffixes_loop3; try dsimp only
  repeat' first | with_reducible exact Ole.refl _ | refine Ole.ite ?_ ?_ | with_reducible exact slices_SortFunc_int_int_F_le .. | refine Ole.iter fun _ => ?_ | refine Ole.elim (fun _ => ?_) (fun _ => ?_) | refine Ole.bind ?_ fun _ => ?_ | refine Ole.demD ?_ ?_
noncomputable def sort_suffixes_F (fuel : Nat) (text1 : List Int) : Option (List Int) :=
 let t2 := IntKind.i64.wrap (((text1.length : Nat) : Int) + 1);
 (if 0 ≤ t2 ∧ t2 ≤ t2 ∧ ((8 : Nat) : Int) * t2 ≤ 281474976710656 then
 let t3 : List Int := List.replicate t2.toNat 0;
 (iter (sort_suffixes_loop3_F fuel t3) fuel (0, t3)).bind (fun b12 =>
 (slices_SortFunc_int_int_F fuel b12 text1).bind fun q13 =>
 let tr14 := q13.1;
 let tr15 := q13.2;
 some tr14)
 else
 none)
theorem sort_suffixes_F_le (fuel : Nat) (text1 : List Int) : Ole (sort_suffixes_F fuel text1) (sort_suffixes text1) := by
  rw [sort_suffixes_eq]; unfold sort_suffixes_F; try dsimp only
  repeat' first | with_reducible exact Ole.refl _ | refine Ole.ite ?_ ?_ | with_reducible exact slices_SortFunc_int_int_F_le .. | with_reducible exact sort_suffixes_loop3_F_le .. | refine Ole.iter fun _ => ?_ | refine Ole.elim (fun _ => ?_) (fun _ => ?_) | refine Ole.bind ?_ fun _ => ?_ | refine Ole.demD ?_ ?_
noncomputable def sort_column_loop3_F (fuel : Nat) (text1 : List Int) (q2 : (List Int)) (s3 : Int × (List Int)) : Option ((Int × (List Int)) ⊕ ((List Int))) :=
 let v4 := s3.1;
 let b5 := s3.2;
 (if (decide (v4 < ((q2.length : Nat) : Int))) = true then
 (if 0 ≤ v4 ∧ v4 < (b5.length : Int) then
 let t6 : Int := rd b5 v4;
 (if (decide (t6 = 0)) = true then
 (if 0 ≤ v4 ∧ v4 < (b5.length : Int) then
 let w7 : List Int := b5.set v4.toNat 0;
 let t8 := IntKind.i64.wrap (v4 + 1);
 some (Sum.inl (t8, w7))
 else
 none)
 else
 let t9 := IntKind.i64.wrap (t6 - 1);
 (if 0 ≤ t9 ∧ t9 < (text1.length : Int) then
 let t10 := IntKind.i64.wrap (rd text1 t9);
 let t11 := IntKind.i64.wrap (t10 + 1);
 (if 0 ≤ v4 ∧ v4 < (b5.length : Int) then
 let w12 : List Int := b5.set v4.toNat t11;
 let t13 := IntKind.i64.wrap (v4 + 1);
 some (Sum.inl (t13, w12))
 else
 none)
 else
 none))
 else
 none)
 else
 some (Sum.inr b5))
theorem sort_column_loop3_F_le (fuel : Nat) (text1 : List Int) (q2 : (List Int)) (s3 : Int × (List Int)) : Ole (sort_column_loop3_F fuel text1 q2 s3) (sort_column_loop3 text1 q2 s3) := by
  unfold sort_column_loop3_F sort_column_loop3; try dsimp only
  repeat' first | with_reducible exact Ole.refl _ | refine Ole.ite ?_ ?_ | with_reducible exact sort_suffixes_F_le .. | refine Ole.iter fun _ => ?_ | refine Ole.elim (fun _ => ?_) (fun _ => ?_) | refine Ole.bind ?_ fun _ => ?_ | refine Ole.demD ?_ ?_
noncomputable def sort_column_F (fuel : Nat) (text1 : List Int) : Option (List Int) :=
 (sort_suffixes_F fuel text1).bind fun q2 =>
 (iter (sort_column_loop3_F fuel text1 q2) fuel (0, q2)).bind (fun b14 =>
 some b14)
theorem sort_column_F_le (fuel : Nat) (text1 : List Int) : Ole (sort_column_F fuel text1) (sort_column text1) := by
  rw [sort_column_eq]; unfold sort_column_F; try dsimp only
  repeat' first | with_reducible exact Ole.refl _ | refine Ole.ite ?_ ?_ | with_reducible exact sort_suffixes_F_le .. | with_reducible exact sort_column_loop3_F_le .. | refine Ole.iter fun _ => ?_ | refine Ole.elim (fun _ => ?_) (fun _ => ?_) | refine Ole.bind ?_ fun _ => ?_ | refine Ole.demD ?_ ?_
noncomputable def sort_uncolumn_loop3_F (fuel : Nat) (l1 : List Int) (s4 : Int × (List Int)) : Option ((Int × (List Int)) ⊕ ((List Int))) :=
 let v5 := s4.1;
 let b6 := s4.2;
 (if (decide (v5 < ((l1.length : Nat) : Int))) = true then
 (if 0 ≤ v5 ∧ v5 < (l1.length : Int) then
 let t7 := IntKind.i64.wrap (rd l1 v5 + 1);
 (if 0 ≤ t7 ∧ t7 < ((258 : Nat) : Int) ∧ t7 < (b6.length : Int) then
 let t8 : Int := rd b6 t7;
 let t9 := IntKind.i64.wrap (t8 + 1);
 (if 0 ≤ t7 ∧ t7 < ((258 : Nat) : Int) ∧ t7 < (b6.length : Int) then
 let w10 : List Int := b6.set t7.toNat t9;
 let t11 := IntKind.i64.wrap (v5 + 1);
 some (Sum.inl (t11, w10))
 else
 none)
 else
 none)
 else
 none)
 else
 some (Sum.inr b6))
theorem sort_uncolumn_loop3_F_le (fuel : Nat) (l1 : List Int) (s4 : Int × (List Int)) : Ole (sort_uncolumn_loop3_F fuel l1 s4) (sort_uncolumn_loop3 l1 s4) := by
  unfold sort_uncolumn_loop3_F sort_uncolumn_loop3; try dsimp only
  repeat' first | with_reducible exact Ole.refl _ | refine Ole.ite ?_ ?_ | with_reducible exact slices_Backward_byte_byte_F_le .. | with_reducible exact slices_Equal_int_int_F_le .. | with_reducible exact sort_column_F_le .. | refine Ole.iter fun _ => ?_ | refine Ole.elim (fun _ => ?_) (fun _ => ?_) | refine Ole.bind ?_ fun _ => ?_ | refine Ole.demD ?_ ?_
noncomputable def sort_uncolumn_loop10_F (fuel : Nat) (s17 : Int × (List Int)) : Option ((Int × (List Int)) ⊕ ((List Int))) :=
 let v18 := s17.1;
 let b19 := s17.2;
 (if (decide (v18 < 257)) = true then
 let t20 := IntKind.i64.wrap (v18 + 1);
 (if 0 ≤ t20 ∧ t20 < ((258 : Nat) : Int) ∧ t20 < (b19.length : Int) then
 let t21 : Int := rd b19 t20;
 (if 0 ≤ v18 ∧ v18 < ((258 : Nat) : Int) ∧ v18 < (b19.length : Int) then
 let t22 : Int := rd b19 v18;
 let t23 := IntKind.i64.wrap (t21 + t22);
 (if 0 ≤ t20 ∧ t20 < ((258 : Nat) : Int) ∧ t20 < (b19.length : Int) then
 let w24 : List Int := b19.set t20.toNat t23;
 let t25 := IntKind.i64.wrap (v18 + 1);
 some (Sum.inl (t25, w24))
 else
 none)
 else
 none)
 else
 none)
 else
 some (Sum.inr b19))
theorem sort_uncolumn_loop10_F_le (fuel : Nat) (s17 : Int × (List Int)) : Ole (sort_uncolumn_loop10_F fuel s17) (sort_uncolumn_loop10 s17) := by
  unfold sort_uncolumn_loop10_F sort_uncolumn_loop10; try dsimp only
  repeat' first | with_reducible exact Ole.refl _ | refine Ole.ite ?_ ?_ | with_reducible exact slices_Backward_byte_byte_F_le .. | with_reducible exact slices_Equal_int_int_F_le .. | with_reducible exact sort_column_F_le .. | with_reducible exact sort_uncolumn_loop3_F_le .. | refine Ole.iter fun _ => ?_ | refine Ole.elim (fun _ => ?_) (fun _ => ?_) | refine Ole.bind ?_ fun _ => ?_ | refine Ole.demD ?_ ?_
noncomputable def sort_uncolumn_loop16_F (fuel : Nat) (l1 : List Int) (b29 : (List Int)) (s31 : Int × (List Int) × (List Int)) : Option ((Int × (List Int) × (List Int)) ⊕ ((List Int) × (List Int))) :=
 let v32 := s31.1;
 let b33 := s31.2.1;
 let b34 := s31.2.2;
 (if (decide (v32 < ((l1.length : Nat) : Int))) = true then
 (if 0 ≤ v32 ∧ v32 < (l1.length : Int) then
 (if 0 ≤ rd l1 v32 ∧ rd l1 v32 < ((258 : Nat) : Int) ∧ rd l1 v32 < (b29.length : Int) then
 let t35 : Int := rd b29 (rd l1 v32);
 (if 0 ≤ rd l1 v32 ∧ rd l1 v32 < ((258 : Nat) : Int) ∧ rd l1 v32 < (b33.length : Int) then
 let t36 : Int := rd b33 (rd l1 v32);
 let t37 := IntKind.i64.wrap (t35 + t36);
 (if 0 ≤ v32 ∧ v32 < (b34.length : Int) then
 let w38 : List Int := b34.set v32.toNat t37;
 (if 0 ≤ rd l1 v32 ∧ rd l1 v32 < ((258 : Nat) : Int) ∧ rd l1 v32 < (b33.length : Int) then
 let t39 : Int := rd b33 (rd l1 v32);
 let t40 := IntKind.i64.wrap (t39 + 1);
 (if 0 ≤ rd l1 v32 ∧ rd l1 v32 < ((258 : Nat) : Int) ∧ rd l1 v32 < (b33.length : Int) then
 let w41 : List Int := b33.set (rd l1 v32).toNat t40;
 let t42 := IntKind.i64.wrap (v32 + 1);
 some (Sum.inl (t42, w41, w38))
 else
 none)
 else
 none)
 else
 none)
 else
 none)
 else
 none)
 else
 none)
 else
 some (Sum.inr (b33, b34)))
theorem sort_uncolumn_loop16_F_le (fuel : Nat) (l1 : List Int) (b29 : (List Int)) (s31 : Int × (List Int) × (List Int)) : Ole (sort_uncolumn_loop16_F fuel l1 b29 s31) (sort_uncolumn_loop16 l1 b29 s31) := by
  unfold sort_uncolumn_loop16_F sort_uncolumn_loop16; try dsimp only
  repeat' first | with_reducible exact Ole.refl _ | refine Ole.ite ?_ ?_ | with_reducible exact slices_Backward_byte_byte_F_le .. | with_reducible exact slices_Equal_int_int_F_le .. | with_reducible exact sort_column_F_le .. | with_reducible exact sort_uncolumn_loop3_F_le .. | with_reducible exact sort_uncolumn_loop10_F_le .. | refine Ole.iter fun _ => ?_ | refine Ole.elim (fun _ => ?_) (fun _ => ?_) | refine Ole.bind ?_ fun _ => ?_ | refine Ole.demD ?_ ?_
noncomputable def sort_uncolumn_loop25_F (fuel : Nat) (l1 b50 : List Int) (s55 : Int × (List Int) × Int × (List Int) × Int) : Option ((Int × (List Int) × Int × (List Int) × Int) ⊕ (((List Int) × Int × (List Int) × Int) ⊕ ((List Int) × Int × (List Int) × Int))) :=
 let i56 := s55.1;
 let b57 := s55.2.1;
 let b58 := s55.2.2.1;
 let b59 := s55.2.2.2.1;
 let b60 := s55.2.2.2.2;
 (if (decide (i56 ≥ 0)) = true then
 (if 0 ≤ i56 ∧ i56 < (b59.length : Int) then
 let t61 : Int := rd b59 i56;
 (if 0 ≤ b60 ∧ b60 < (l1.length : Int) then
 (if (decide (rd l1 b60 = 0)) = true then
 some (Sum.inr (Sum.inr ([], 3, b59, b60)))
 else
 (if 0 ≤ b60 ∧ b60 < (l1.length : Int) then
 let t62 := IntKind.i64.wrap (rd l1 b60 - 1);
 let t63 := IntKind.u8.wrap t62;
 (if 0 ≤ i56 ∧ i56 < (b59.length : Int) then
 let w64 : List Int := b59.set i56.toNat t63;
 (if 0 ≤ b60 ∧ b60 < (b50.length : Int) then
 let t65 : Int := rd b50 b60;
 let i66 := IntKind.i64.wrap (i56 - 1);
 some (Sum.inl (i66, b57, b58, w64, t65))
 else
 none)
 else
 none)
 else
 none))
 else
 none)
 else
 none)
 else
 some (Sum.inr (Sum.inl (b57, b58, b59, b60))))
theorem sort_uncolumn_loop25_F_le (fuel : Nat) (l1 b50 : List Int) (s55 : Int × (List Int) × Int × (List Int) × Int) : Ole (sort_uncolumn_loop25_F fuel l1 b50 s55) (sort_uncolumn_loop25 l1 b50 s55) := by
  unfold sort_uncolumn_loop25_F sort_uncolumn_loop25; try dsimp only
  repeat' first | with_reducible exact Ole.refl _ | refine Ole.ite ?_ ?_ | with_reducible exact slices_Backward_byte_byte_F_le .. | with_reducible exact slices_Equal_int_int_F_le .. | with_reducible exact sort_column_F_le .. | with_reducible exact sort_uncolumn_loop3_F_le .. | with_reducible exact sort_uncolumn_loop10_F_le .. | with_reducible exact sort_uncolumn_loop16_F_le .. | refine Ole.iter fun _ => ?_ | refine Ole.elim (fun _ => ?_) (fun _ => ?_) | refine Ole.bind ?_ fun _ => ?_ | refine Ole.demD ?_ ?_
noncomputable def sort_uncolumn_F (fuel : Nat) (l1 : List Int) : Option ((List Int) × Int) :=
 let begins2 : List Int := List.replicate 258 0;
 let seen3 : List Int := List.replicate 258 0;
 (iter (sort_uncolumn_loop3_F fuel l1) fuel (0, begins2)).bind (fun b15 =>
 (if 0 ≤ (1 : Int) ∧ (1 : Int) < ((258 : Nat) : Int) ∧ (1 : Int) < (b15.length : Int) then
 let t16 : Int := rd b15 1;
 (if (!decide (t16 = 1)) = true then
 some ([], 3)
 else
 (iter (sort_uncolumn_loop10_F fuel) fuel (0, b15)).bind (fun b29 =>
 (if 0 ≤ ((l1.length : Nat) : Int) ∧ ((l1.length : Nat) : Int) ≤ ((l1.length : Nat) : Int) ∧ ((8 : Nat) : Int) * ((l1.length : Nat) : Int) ≤ 281474976710656 then
 let t30 : List Int := List.replicate ((l1.length : Nat) : Int).toNat 0;
 (iter (sort_uncolumn_loop16_F fuel l1 b29) fuel (0, seen3, t30)).bind (fun p48 =>
 let b49 := p48.1;
 let b50 := p48.2;
 let t51 := IntKind.i64.wrap (((l1.length : Nat) : Int) - 1);
 (if 0 ≤ t51 ∧ t51 ≤ t51 ∧ ((1 : Nat) : Int) * t51 ≤ 281474976710656 then
 let t52 : List Int := List.replicate t51.toNat 0;
 (slices_Backward_byte_byte_F fuel t52).bind fun q53 =>
 let x54 := IntKind.i64.wrap (((q53.length : Nat) : Int) - 1);
 (iter (sort_uncolumn_loop25_F fuel l1 b50) fuel (x54, [], 0, q53, 0)).bind (fun o77 =>
 (Sum.elim (fun (p67 : (List Int) × Int × (List Int) × Int) =>
 let b68 := p67.1;
 let b69 := p67.2.1;
 let b70 := p67.2.2.1;
 let b71 := p67.2.2.2;
 (sort_column_F fuel b70).bind fun q78 =>
 (slices_Equal_int_int_F fuel q78 l1).bind fun q79 =>
 (if (!q79) = true then
 some ([], 3)
 else
 some (b70, 0)))
 (fun (p72 : (List Int) × Int × (List Int) × Int) =>
 let b73 := p72.1;
 let b74 := p72.2.1;
 let b75 := p72.2.2.1;
 let b76 := p72.2.2.2;
 some (b73, b74)) o77))
 else
 none))
 else
 none)))
 else
 none))
theorem sort_uncolumn_F_le (fuel : Nat) (l1 : List Int) : Ole (sort_uncolumn_F fuel l1) (sort_uncolumn l1) := by
  rw [sort_uncolumn_eq]; unfold sort_uncolumn_F; try dsimp only
  repeat' first | with_reducible exact Ole.refl _ | refine Ole.ite ?_ ?_ | with_reducible exact slices_Backward_byte_byte_F_le .. | with_reducible exact slices_Equal_int_int_F_le .. | with_reducible exact sort_column_F_le .. | with_reducible exact sort_uncolumn_loop3_F_le .. | with_reducible exact sort_uncolumn_loop10_F_le .. | with_reducible exact sort_uncolumn_loop16_F_le .. | with_reducible exact sort_uncolumn_loop25_F_le .. | refine Ole.iter fun _ => ?_ | refine Ole.elim (fun _ => ?_) (fun _ => ?_) | refine Ole.bind ?_ fun _ => ?_ | refine Ole.demD ?_ ?_
noncomputable def sort_Unpack_loop15_F (fuel : Nat) (t44 : Int) (s45 : Int × Int × Int × Int × Int × (List Int) × Int × Int × Int × Bool × (List Int) × (List Int)) : Option ((Int × Int × Int × Int × Int × (List Int) × Int × Int × Int × Bool × (List Int) × (List Int)) ⊕ ((Int × Int × Int × (List Int) × Int × Int × Int × Bool × (List Int) × (List Int)) ⊕ ((List Int) × Int × Int × Int × Int × (List Int) × Int × Int × Int × Bool × (List Int)))) :=
 let last46 := s45.1;
 let v47 := s45.2.1;
 let b48 := s45.2.2.1;
 let b49 := s45.2.2.2.1;
 let b50 := s45.2.2.2.2.1;
 let b51 := s45.2.2.2.2.2.1;
 let b52 := s45.2.2.2.2.2.2.1;
 let b53 := s45.2.2.2.2.2.2.2.1;
 let b54 := s45.2.2.2.2.2.2.2.2.1;
 let b55 := s45.2.2.2.2.2.2.2.2.2.1;
 let b56 := s45.2.2.2.2.2.2.2.2.2.2.1;
 let places57 := s45.2.2.2.2.2.2.2.2.2.2.2;
 (if (decide (v47 < t44)) = true then
 (sort_base_F fuel last46).bind fun q58 =>
 (number_Get_F fuel q58 b48 b49 b50 b51 b52 b53 b54 b55 b56).bind fun q59 =>
 let tr60 := q59.1;
 let tr61 := q59.2.1;
 let tr62 := q59.2.2.1;
 let tr63 := q59.2.2.2.1;
 let tr64 := q59.2.2.2.2.1;
 let tr65 := q59.2.2.2.2.2.1;
 let tr66 := q59.2.2.2.2.2.2.1;
 let tr67 := q59.2.2.2.2.2.2.2.1;
 let tr68 := q59.2.2.2.2.2.2.2.2.1;
 let tr69 := q59.2.2.2.2.2.2.2.2.2.1;
 let tr70 := q59.2.2.2.2.2.2.2.2.2.2.1;
 let tr71 := q59.2.2.2.2.2.2.2.2.2.2.2;
 (if (!decide (tr62 = 0)) = true then
 some (Sum.inr (Sum.inr ([], tr62, tr63, tr64, tr65, tr66, tr67, tr68, tr69, tr70, tr71)))
 else
 ((if tr60 = true then
 some true
 else
 (if (decide (tr61 < 0)) = true then
 some true
 else
 some (decide (tr61 ≥ 257)))) : Option (Bool)).bind (fun v72 =>
 (if v72 = true then
 some (Sum.inr (Sum.inr ([], 3, tr63, tr64, tr65, tr66, tr67, tr68, tr69, tr70, tr71)))
 else
 (if (places57.length + ([tr61] : List Int).length) * 8 ≤ 140737488355328 then
 let t73 : List Int := places57 ++ [tr61];
 let t74 := IntKind.i64.wrap (v47 + 1);
 some (Sum.inl (tr61, t74, tr63, tr64, tr65, tr66, tr67, tr68, tr69, tr70, tr71, t73))
 else
 none))))
 else
 some (Sum.inr (Sum.inl (b48, b49, b50, b51, b52, b53, b54, b55, b56, places57))))
theorem sort_Unpack_loop15_F_le (fuel : Nat) (t44 : Int) (s45 : Int × Int × Int × Int × Int × (List Int) × Int × Int × Int × Bool × (List Int) × (List Int)) : Ole (sort_Unpack_loop15_F fuel t44 s45) (sort_Unpack_loop15 t44 s45) := by
  unfold sort_Unpack_loop15_F sort_Unpack_loop15; try dsimp only
  repeat' first | with_reducible exact Ole.refl _ | refine Ole.ite ?_ ?_ | with_reducible exact bits_GetSize_F_le .. | with_reducible exact coder_New_F_le .. | with_reducible exact coder_NewDecoder_F_le .. | with_reducible exact number_Get_F_le .. | with_reducible exact sort_Unfront_F_le .. | with_reducible exact sort_base_F_le .. | with_reducible exact sort_uncolumn_F_le .. | refine Ole.iter fun _ => ?_ | refine Ole.elim (fun _ => ?_) (fun _ => ?_) | refine Ole.bind ?_ fun _ => ?_ | refine Ole.demD ?_ ?_
noncomputable def sort_Unpack_F (fuel : Nat) (b1 : List Int) : Option ((List Int) × Int) :=
 (bits_GetSize_F fuel b1 0).bind fun q2 =>
 let tr3 := q2.1;
 let tr4 := q2.2.1;
 let tr5 := q2.2.2;
 ((if (!decide (tr5 = 0)) = true then
 some (Sum.inr ([], tr5))
 else
 ((if (decide (tr3 > 4000)) = true then
 some (Sum.inr ([], 4))
 else
 ((if (decide (tr3 = 0)) = true then
 some (decide (tr4 < ((b1.length : Nat) : Int)))
 else
 some false) : Option (Bool)).bind (fun v6 =>
 (if v6 = true then
 some (Sum.inr ([], 3))
 else
 (if (decide (tr3 = 0)) = true then
 some (Sum.inr ([], 0))
 else
 some (Sum.inl ()))))) : Option ((Unit) ⊕ ((List Int) × Int))).bind (fun o11 =>
 (Sum.elim (fun (p7 : Unit) =>
 some (Sum.inl ()))
 (fun (p8 : (List Int) × Int) =>
 let v9 := p8.1;
 let v10 := p8.2;
 some (Sum.inr (v9, v10))) o11))) : Option ((Unit) ⊕ ((List Int) × Int))).bind (fun o16 =>
 (Sum.elim (fun (p12 : Unit) =>
 (coder_New_F fuel 0 144).bind fun q17 =>
 let tr18 := q17.1;
 let tr19 := q17.2.1;
 let tr20 := q17.2.2;
 ((if 0 ≤ tr4 ∧ tr4 ≤ ((b1.length : Nat) : Int) then
 let t21 : List Int := cutL b1 tr4.toNat b1.length;
 (coder_NewDecoder_F fuel tr18 tr20 t21).bind fun o33 =>
 (Sum.elim (fun (q22 : Int × Int × Int × (List Int) × Int × Int × Int × Bool × (List Int)) =>
 let tr23 := q22.1;
 let tr24 := q22.2.1;
 let tr25 := q22.2.2.1;
 let tr26 := q22.2.2.2.1;
 let tr27 := q22.2.2.2.2.1;
 let tr28 := q22.2.2.2.2.2.1;
 let tr29 := q22.2.2.2.2.2.2.1;
 let tr30 := q22.2.2.2.2.2.2.2.1;
 let tr31 := q22.2.2.2.2.2.2.2.2;
 some (tr23, tr24, tr25, tr26, tr27, tr28, tr29, tr30, tr31))
 (fun (q32 : Unit) =>
 none) o33)
 else
 none) : Option (Int × Int × Int × (List Int) × Int × Int × Int × Bool × (List Int))).bind (fun p34 =>
 let b35 := p34.1;
 let b36 := p34.2.1;
 let b37 := p34.2.2.1;
 let b38 := p34.2.2.2.1;
 let b39 := p34.2.2.2.2.1;
 let b40 := p34.2.2.2.2.2.1;
 let b41 := p34.2.2.2.2.2.2.1;
 let b42 := p34.2.2.2.2.2.2.2.1;
 let b43 := p34.2.2.2.2.2.2.2.2;
 let t44 := IntKind.i64.wrap (tr3 + 1);
 (iter (sort_Unpack_loop15_F fuel t44) fuel (0, 0, b35, b36, b37, b38, b39, b40, b41, b42, b43, [])).bind (fun o112 =>
 (Sum.elim (fun (p89 : Int × Int × Int × (List Int) × Int × Int × Int × Bool × (List Int) × (List Int)) =>
 let b90 := p89.1;
 let b91 := p89.2.1;
 let b92 := p89.2.2.1;
 let b93 := p89.2.2.2.1;
 let b94 := p89.2.2.2.2.1;
 let b95 := p89.2.2.2.2.2.1;
 let b96 := p89.2.2.2.2.2.2.1;
 let b97 := p89.2.2.2.2.2.2.2.1;
 let b98 := p89.2.2.2.2.2.2.2.2.1;
 let places99 := p89.2.2.2.2.2.2.2.2.2;
 (sort_Unfront_F fuel places99).bind fun q113 =>
 let tr114 := q113.1;
 let tr115 := q113.2;
 (sort_uncolumn_F fuel tr114).bind fun q116 =>
 let tr117 := q116.1;
 let tr118 := q116.2;
 some (tr117, tr118))
 (fun (p100 : (List Int) × Int × Int × Int × Int × (List Int) × Int × Int × Int × Bool × (List Int)) =>
 let v101 := p100.1;
 let v102 := p100.2.1;
 let b103 := p100.2.2.1;
 let b104 := p100.2.2.2.1;
 let b105 := p100.2.2.2.2.1;
 let b106 := p100.2.2.2.2.2.1;
 let b107 := p100.2.2.2.2.2.2.1;
 let b108 := p100.2.2.2.2.2.2.2.1;
 let b109 := p100.2.2.2.2.2.2.2.2.1;
 let b110 := p100.2.2.2.2.2.2.2.2.2.1;
 let b111 := p100.2.2.2.2.2.2.2.2.2.2;
 some (v101, v102)) o112))))
 (fun (p13 : (List Int) × Int) =>
 let v14 := p13.1;
 let v15 := p13.2;
 some (v14, v15)) o16))
theorem sort_Unpack_F_le (fuel : Nat) (b1 : List Int) : Ole (sort_Unpack_F fuel b1) (sort_Unpack b1) := by
  rw [sort_Unpack_eq]; unfold sort_Unpack_F; try dsimp only
  repeat' first | with_reducible exact Ole.refl _ | refine Ole.ite ?_ ?_ | with_reducible exact bits_GetSize_F_le .. | with_reducible exact coder_New_F_le .. | with_reducible exact coder_NewDecoder_F_le .. | with_reducible exact number_Get_F_le .. | with_reducible exact sort_Unfront_F_le .. | with_reducible exact sort_base_F_le .. | with_reducible exact sort_uncolumn_F_le .. | with_reducible exact sort_Unpack_loop15_F_le .. | refine Ole.iter fun _ => ?_ | refine Ole.elim (fun _ => ?_) (fun _ => ?_) | refine Ole.bind ?_ fun _ => ?_ | refine Ole.demD ?_ ?_
noncomputable def book_GetDirectory_loop10_F (fuel : Nat) (tr6 : Int) (s15 : Int × (List Int) × Int × Int × (List File) × (List Int)) : Option ((Int × (List Int) × Int × Int × (List File) × (List Int)) ⊕ ((List Int) × Int × Int × (List File) × (List Int))) :=
 let v16 := s15.1;
 let b17 := s15.2.1;
 let b18 := s15.2.2.1;
 let b19 := s15.2.2.2.1;
 let files20 := s15.2.2.2.2.1;
 let sizes21 := s15.2.2.2.2.2;
 (if (decide (v16 < tr6)) = true then
 (if (!decide (b19 = 0)) = true then
 some (Sum.inr (b17, b18, b19, files20, sizes21))
 else
 (book_cursor_file_F fuel b17 b18 b19).bind fun q22 =>
 let tr23 := q22.1;
 let tr24 := q22.2.1;
 let tr25 := q22.2.2.1;
 let tr26 := q22.2.2.2.1;
 let tr27 := q22.2.2.2.2.1;
 let tr28 := q22.2.2.2.2.2.1;
 let tr29 := q22.2.2.2.2.2.2;
 (if (files20.length + ([(File.mk tr23 tr24 tr25)] : List File).length) * 48 ≤ 140737488355328 then
 let t30 : List File := files20 ++ [(File.mk tr23 tr24 tr25)];
 (if (sizes21.length + ([tr26] : List Int).length) * 8 ≤ 140737488355328 then
 let t31 : List Int := sizes21 ++ [tr26];
 let t32 := IntKind.i64.wrap (v16 + 1);
 some (Sum.inl (t32, tr27, tr28, tr29, t30, t31))
 else
 none)
 else
 none))
 else
 some (Sum.inr (b17, b18, b19, files20, sizes21)))
theorem book_GetDirectory_loop10_F_le (fuel : Nat) (tr6 : Int) (s15 : Int × (List Int) × Int × Int × (List File) × (List Int)) : Ole (book_GetDirectory_loop10_F fuel tr6 s15) (book_GetDirectory_loop10 tr6 s15) := by
  unfold book_GetDirectory_loop10_F book_GetDirectory_loop10; try dsimp only
  repeat' first | with_reducible exact Ole.refl _ | refine Ole.ite ?_ ?_ | with_reducible exact book_cursor_check_F_le .. | with_reducible exact book_cursor_file_F_le .. | with_reducible exact book_cursor_size_F_le .. | with_reducible exact book_index_F_le .. | with_reducible exact note_GetOutlines_F_le .. | with_reducible exact sort_Unpack_F_le .. | refine Ole.iter fun _ => ?_ | refine Ole.elim (fun _ => ?_) (fun _ => ?_) | refine Ole.bind ?_ fun _ => ?_ | refine Ole.demD ?_ ?_
noncomputable def book_GetDirectory_loop21_F (fuel : Nat) (files45 : List File) (v51 : Int) : Option ((Int) ⊕ ((Unit) ⊕ ((List Int) × (List Outline) × Int × (List File)))) :=
 (if (decide (v51 < ((files45.length : Nat) : Int))) = true then
 (if 0 ≤ v51 ∧ v51 < (files45.length : Int) then
 (files45[v51.toNat]?).bind fun e52 =>
 (if 0 ≤ v51 ∧ v51 ≤ ((files45.length : Nat) : Int) then
 (book_index_F fuel ((files45.drop 0).take (v51.toNat - 0)) e52.name).bind fun q53 =>
 (if (decide (q53 ≥ 0)) = true then
 some (Sum.inr (Sum.inr ([], [], 8, [])))
 else
 let t54 := IntKind.i64.wrap (v51 + 1);
 some (Sum.inl t54))
 else
 none)
 else
 none)
 else
 some (Sum.inr (Sum.inl ())))
theorem book_GetDirectory_loop21_F_le (fuel : Nat) (files45 : List File) (v51 : Int) : Ole (book_GetDirectory_loop21_F fuel files45 v51) (book_GetDirectory_loop21 files45 v51) := by
  unfold book_GetDirectory_loop21_F book_GetDirectory_loop21; try dsimp only
  repeat' first | with_reducible exact Ole.refl _ | refine Ole.ite ?_ ?_ | with_reducible exact book_cursor_check_F_le .. | with_reducible exact book_cursor_file_F_le .. | with_reducible exact book_cursor_size_F_le .. | with_reducible exact book_index_F_le .. | with_reducible exact note_GetOutlines_F_le .. | with_reducible exact sort_Unpack_F_le .. | with_reducible exact book_GetDirectory_loop10_F_le .. | refine Ole.iter fun _ => ?_ | refine Ole.elim (fun _ => ?_) (fun _ => ?_) | refine Ole.bind ?_ fun _ => ?_ | refine Ole.demD ?_ ?_
noncomputable def book_GetDirectory_F (fuel : Nat) (d1 : List Int) : Option ((List Int) × (List Outline) × Int × (List File)) :=
 (sort_Unpack_F fuel d1).bind fun q2 =>
 let tr3 := q2.1;
 let tr4 := q2.2;
 (if (!decide (tr4 = 0)) = true then
 some ([], [], tr4, [])
 else
 (book_cursor_size_F fuel tr3 0 0).bind fun q5 =>
 let tr6 := q5.1;
 let tr7 := q5.2.1;
 let tr8 := q5.2.2.1;
 let tr9 := q5.2.2.2;
 (book_cursor_check_F fuel (decide (tr6 ≤ 40)) 4 tr7 tr8 tr9).bind fun q10 =>
 let tr11 := q10.1;
 let tr12 := q10.2.1;
 let tr13 := q10.2.2.1;
 let tr14 := q10.2.2.2;
 (iter (book_GetDirectory_loop10_F fuel tr6) fuel (0, tr12, tr13, tr14, [], [])).bind (fun p41 =>
 let b42 := p41.1;
 let b43 := p41.2.1;
 let b44 := p41.2.2.1;
 let files45 := p41.2.2.2.1;
 let sizes46 := p41.2.2.2.2;
 (if (!decide (b44 = 0)) = true then
 some ([], [], b44, [])
 else
 (if 0 ≤ b43 ∧ b43 ≤ ((tr3.length : Nat) : Int) then
 let t47 : List Int := cutL tr3 b43.toNat tr3.length;
 (note_GetOutlines_F fuel t47).bind fun q48 =>
 let tr49 := q48.1;
 let tr50 := q48.2;
 (if (!decide (tr50 = 0)) = true then
 some ([], [], tr50, [])
 else
 (iter (book_GetDirectory_loop21_F fuel files45) fuel 0).bind (fun o64 =>
 (Sum.elim (fun (p58 : Unit) =>
 some (sizes46, tr49, 0, files45))
 (fun (p59 : (List Int) × (List Outline) × Int × (List File)) =>
 let v60 := p59.1;
 let v61 := p59.2.1;
 let v62 := p59.2.2.1;
 let b63 := p59.2.2.2;
 some (v60, v61, v62, b63)) o64)))
 else
 none))))
theorem book_GetDirectory_F_le (fuel : Nat) (d1 : List Int) : Ole (book_GetDirectory_F fuel d1) (book_GetDirectory d1) := by
  rw [book_GetDirectory_eq]; unfold book_GetDirectory_F; try dsimp only
  repeat' first | with_reducible exact Ole.refl _ | refine Ole.ite ?_ ?_ | with_reducible exact book_cursor_check_F_le .. | with_reducible exact book_cursor_file_F_le .. | with_reducible exact book_cursor_size_F_le .. | with_reducible exact book_index_F_le .. | with_reducible exact note_GetOutlines_F_le .. | with_reducible exact sort_Unpack_F_le .. | with_reducible exact book_GetDirectory_loop10_F_le .. | with_reducible exact book_GetDirectory_loop21_F_le .. | refine Ole.iter fun _ => ?_ | refine Ole.elim (fun _ => ?_) (fun _ => ?_) | refine Ole.bind ?_ fun _ => ?_ | refine Ole.demD ?_ ?_
noncomputable def bytes_Clone_F (fuel : Nat) (b1 : List Int) : Option (List Int) :=
 (if b1.length = 0 then
 (demD
 (some [])
 ((if (([] : List Int).length + b1.length) * 1 ≤ 140737488355328 then
 let t2 : List Int := ([] : List Int) ++ b1;
 some t2
 else
 none)))
 else
 (if (([] : List Int).length + b1.length) * 1 ≤ 140737488355328 then
 let t3 : List Int := ([] : List Int) ++ b1;
 some t3
 else
 none))
theorem bytes_Clone_F_le (fuel : Nat) (b1 : List Int) : Ole (bytes_Clone_F fuel b1) (bytes_Clone b1) := by
  rw [bytes_Clone_eq]; unfold bytes_Clone_F; try dsimp only
  repeat' first | with_reducible exact Ole.refl _ | refine Ole.ite ?_ ?_ | refine Ole.iter fun _ => ?_ | refine Ole.elim (fun _ => ?_) (fun _ => ?_) | refine Ole.bind ?_ fun _ => ?_ | refine Ole.demD ?_ ?_
noncomputable def chunk_reader_fail_F (fuel : Nat) (ok1 : Bool) (err2 at3 : Int) (b4 : List Int) (b5 b6 b7 : Int) : Option (Bool × (List Int) × Int × Int × Int) :=
 ((if (decide (b6 = 0)) = true then
 some (!ok1)
 else
 some false) : Option (Bool)).bind (fun v8 =>
 (if v8 = true then
 some (decide (err2 = 0), b4, b5, err2, at3)
 else
 some (decide (b6 = 0), b4, b5, b6, b7)))
theorem chunk_reader_fail_F_le (fuel : Nat) (ok1 : Bool) (err2 at3 : Int) (b4 : List Int) (b5 b6 b7 : Int) : Ole (chunk_reader_fail_F fuel ok1 err2 at3 b4 b5 b6 b7) (chunk_reader_fail ok1 err2 at3 b4 b5 b6 b7) := by
  rw [chunk_reader_fail_eq]; unfold chunk_reader_fail_F; try dsimp only
  repeat' first | with_reducible exact Ole.refl _ | refine Ole.ite ?_ ?_ | refine Ole.iter fun _ => ?_ | refine Ole.elim (fun _ => ?_) (fun _ => ?_) | refine Ole.bind ?_ fun _ => ?_ | refine Ole.demD ?_ ?_
noncomputable def chunk_isId_loop4_F (fuel : Nat) (s1 : List Int) (v2 : Int) : Option ((Int) ⊕ ((Unit) ⊕ (Bool))) :=
 (if (decide (v2 < 4)) = true then
 (if 0 ≤ v2 ∧ v2 < ((s1).length : Int) then
 let t3 : Int := rd s1 v2;
 (if (decide (t3 < 65)) = true then
 (if (decide (t3 < 48)) = true then
 some (Sum.inr (Sum.inr false))
 else
 (if (decide (t3 > 57)) = true then
 some (Sum.inr (Sum.inr false))
 else
 let t4 := IntKind.i64.wrap (v2 + 1);
 some (Sum.inl t4)))
 else
 (if (decide (t3 > 90)) = true then
 (if (decide (t3 < 48)) = true then
 some (Sum.inr (Sum.inr false))
 else
 (if (decide (t3 > 57)) = true then
 some (Sum.inr (Sum.inr false))
 else
 let t5 := IntKind.i64.wrap (v2 + 1);
 some (Sum.inl t5)))
 else
 let t6 := IntKind.i64.wrap (v2 + 1);
 some (Sum.inl t6)))
 else
 none)
 else
 some (Sum.inr (Sum.inl ())))
theorem chunk_isId_loop4_F_le (fuel : Nat) (s1 : List Int) (v2 : Int) : Ole (chunk_isId_loop4_F fuel s1 v2) (chunk_isId_loop4 s1 v2) := by
  unfold chunk_isId_loop4_F chunk_isId_loop4; try dsimp only
  repeat' first | with_reducible exact Ole.refl _ | refine Ole.ite ?_ ?_ | refine Ole.iter fun _ => ?_ | refine Ole.elim (fun _ => ?_) (fun _ => ?_) | refine Ole.bind ?_ fun _ => ?_ | refine Ole.demD ?_ ?_
noncomputable def chunk_isId_F (fuel : Nat) (s1 : List Int) : Option Bool :=
 (if (!decide (((s1.length : Nat) : Int) = 4)) = true then
 some false
 else
 (iter (chunk_isId_loop4_F fuel s1) fuel 0).bind (fun o12 =>
 (Sum.elim (fun (p10 : Unit) =>
 some true)
 (fun (v11 : Bool) =>
 some v11) o12)))
theorem chunk_isId_F_le (fuel : Nat) (s1 : List Int) : Ole (chunk_isId_F fuel s1) (chunk_isId s1) := by
  rw [chunk_isId_eq]; unfold chunk_isId_F; try dsimp only
  repeat' first | with_reducible exact Ole.refl _ | refine Ole.ite ?_ ?_ | with_reducible exact chunk_isId_loop4_F_le .. | refine Ole.iter fun _ => ?_ | refine Ole.elim (fun _ => ?_) (fun _ => ?_) | refine Ole.bind ?_ fun _ => ?_ | refine Ole.demD ?_ ?_
noncomputable def chunk_reader_id_F (fuel : Nat) (at1 end2 : Int) (b3 : List Int) (b4 b5 b6 : Int) : Option ((List Int) × (List Int) × Int × Int × Int) :=
 let t7 := IntKind.i64.wrap (end2 - at1);
 (chunk_reader_fail_F fuel (decide (t7 ≥ 4)) 6 at1 b3 b4 b5 b6).bind fun q8 =>
 let tr9 := q8.1;
 let tr10 := q8.2.1;
 let tr11 := q8.2.2.1;
 let tr12 := q8.2.2.2.1;
 let tr13 := q8.2.2.2.2;
 (if (!tr9) = true then
 some ([], tr10, tr11, tr12, tr13)
 else
 let t14 := IntKind.i64.wrap (at1 + 4);
 (if 0 ≤ t14 ∧ t14 ≤ ((tr10.length : Nat) : Int) then
 (if 0 ≤ at1 ∧ at1 ≤ t14 then
 let t15 : List Int := cutL tr10 at1.toNat t14.toNat;
 (chunk_isId_F fuel t15).bind fun q16 =>
 (chunk_reader_fail_F fuel q16 3 at1 tr10 tr11 tr12 tr13).bind fun q17 =>
 let tr18 := q17.1;
 let tr19 := q17.2.1;
 let tr20 := q17.2.2.1;
 let tr21 := q17.2.2.2.1;
 let tr22 := q17.2.2.2.2;
 some (t15, tr19, tr20, tr21, tr22)
 else
 none)
 else
 none))
theorem chunk_reader_id_F_le (fuel : Nat) (at1 end2 : Int) (b3 : List Int) (b4 b5 b6 : Int) : Ole (chunk_reader_id_F fuel at1 end2 b3 b4 b5 b6) (chunk_reader_id at1 end2 b3 b4 b5 b6) := by
  rw [chunk_reader_id_eq]; unfold chunk_reader_id_F; try dsimp only
  repeat' first | with_reducible exact Ole.refl _ | refine Ole.ite ?_ ?_ | with_reducible exact chunk_isId_F_le .. | with_reducible exact chunk_reader_fail_F_le .. | refine Ole.iter fun _ => ?_ | refine Ole.elim (fun _ => ?_) (fun _ => ?_) | refine Ole.bind ?_ fun _ => ?_ | refine Ole.demD ?_ ?_
noncomputable def chunk_isKind_F (fuel : Nat) (s1 : List Int) : Option Bool :=
 (chunk_isId_F fuel s1).bind fun q2 =>
 (if q2 = true then
 some (!decide (s1 = [70, 79, 82, 77]))
 else
 some false)
theorem chunk_isKind_F_le (fuel : Nat) (s1 : List Int) : Ole (chunk_isKind_F fuel s1) (chunk_isKind s1) := by
  rw [chunk_isKind_eq]; unfold chunk_isKind_F; try dsimp only
  repeat' first | with_reducible exact Ole.refl _ | refine Ole.ite ?_ ?_ | with_reducible exact chunk_isId_F_le .. | refine Ole.iter fun _ => ?_ | refine Ole.elim (fun _ => ?_) (fun _ => ?_) | refine Ole.bind ?_ fun _ => ?_ | refine Ole.demD ?_ ?_
noncomputable def chunk_reader_id_2_F (fuel : Nat) (at1 end2 : Int) (b3 : List Int) (b4 b5 b6 : Int) : Option ((List Int) × (List Int) × Int × Int × Int) :=
 let t7 := IntKind.i64.wrap (end2 - at1);
 (chunk_reader_fail_F fuel (decide (t7 ≥ 4)) 6 at1 b3 b4 b5 b6).bind fun q8 =>
 let tr9 := q8.1;
 let tr10 := q8.2.1;
 let tr11 := q8.2.2.1;
 let tr12 := q8.2.2.2.1;
 let tr13 := q8.2.2.2.2;
 (if (!tr9) = true then
 some ([], tr10, tr11, tr12, tr13)
 else
 let t14 := IntKind.i64.wrap (at1 + 4);
 (if 0 ≤ t14 ∧ t14 ≤ ((tr10.length : Nat) : Int) then
 (if 0 ≤ at1 ∧ at1 ≤ t14 then
 let t15 : List Int := cutL tr10 at1.toNat t14.toNat;
 (chunk_isKind_F fuel t15).bind fun q16 =>
 (chunk_reader_fail_F fuel q16 3 at1 tr10 tr11 tr12 tr13).bind fun q17 =>
 let tr18 := q17.1;
 let tr19 := q17.2.1;
 let tr20 := q17.2.2.1;
 let tr21 := q17.2.2.2.1;
 let tr22 := q17.2.2.2.2;
 some (t15, tr19, tr20, tr21, tr22)
 else
 none)
 else
 none))
theorem chunk_reader_id_2_F_le (fuel : Nat) (at1 end2 : Int) (b3 : List Int) (b4 b5 b6 : Int) : Ole (chunk_reader_id_2_F fuel at1 end2 b3 b4 b5 b6) (chunk_reader_id_2 at1 end2 b3 b4 b5 b6) := by
  rw [chunk_reader_id_2_eq]; unfold chunk_reader_id_2_F; try dsimp only
  repeat' first | with_reducible exact Ole.refl _ | refine Ole.ite ?_ ?_ | with_reducible exact chunk_isKind_F_le .. | with_reducible exact chunk_reader_fail_F_le .. | refine Ole.iter fun _ => ?_ | refine Ole.elim (fun _ => ?_) (fun _ => ?_) | refine Ole.bind ?_ fun _ => ?_ | refine Ole.demD ?_ ?_
noncomputable def chunk_reader_list_loop2_F (fuel : Nat) (r_chunk_reader_list : Int → Int → Int → (List Int) → Int → Int → Int → Option ((List Chunk) × (List Int) × Int × Int × Int)) (r_chunk_reader_chunk : Int → Int → Int → (List Int) → Int → Int → Int → Option ((List Int) × (List Int) × (List Int) × (List Chunk) × Int × (List Int) × Int × Int × Int)) (end2 depth3 : Int) (s8 : Int × (List Int) × Int × Int × Int × (List Chunk)) : Option ((Int × (List Int) × Int × Int × Int × (List Chunk)) ⊕ ((List Int) × Int × Int × Int × (List Chunk))) :=
 let at9 := s8.1;
 let b10 := s8.2.1;
 let b11 := s8.2.2.1;
 let b12 := s8.2.2.2.1;
 let b13 := s8.2.2.2.2.1;
 let out14 := s8.2.2.2.2.2;
 ((if (decide (at9 < end2)) = true then
 some (decide (b12 = 0))
 else
 some false) : Option (Bool)).bind (fun v15 =>
 (if v15 = true then
 (r_chunk_reader_chunk at9 end2 depth3 b10 b11 b12 b13).bind fun q16 =>
 let tr17 := q16.1;
 let tr18 := q16.2.1;
 let tr19 := q16.2.2.1;
 let tr20 := q16.2.2.2.1;
 let tr21 := q16.2.2.2.2.1;
 let tr22 := q16.2.2.2.2.2.1;
 let tr23 := q16.2.2.2.2.2.2.1;
 let tr24 := q16.2.2.2.2.2.2.2.1;
 let tr25 := q16.2.2.2.2.2.2.2.2;
 (if (out14.length + ([(Chunk.mk tr17 tr18 tr19 tr20)] : List Chunk).length) * 80 ≤ 140737488355328 then
 let t26 : List Chunk := out14 ++ [(Chunk.mk tr17 tr18 tr19 tr20)];
 some (Sum.inl (tr21, tr22, tr23, tr24, tr25, t26))
 else
 none)
 else
 some (Sum.inr (b10, b11, b12, b13, out14))))
theorem chunk_reader_list_loop2_F_le (fuel : Nat) (r_chunk_reader_list : Int → Int → Int → (List Int) → Int → Int → Int → Option ((List Chunk) × (List Int) × Int × Int × Int)) (r_chunk_reader_chunk : Int → Int → Int → (List Int) → Int → Int → Int → Option ((List Int) × (List Int) × (List Int) × (List Chunk) × Int × (List Int) × Int × Int × Int)) (h_chunk_reader_list : ∀ at1 end2 depth3 b4 b5 b6 b7, Ole (r_chunk_reader_list at1 end2 depth3 b4 b5 b6 b7) (chunk_reader_list at1 end2 depth3 b4 b5 b6 b7)) (h_chunk_reader_chunk : ∀ at1 end2 depth3 b4 b5 b6 b7, Ole (r_chunk_reader_chunk at1 end2 depth3 b4 b5 b6 b7) (chunk_reader_chunk at1 end2 depth3 b4 b5 b6 b7)) (end2 depth3 : Int) (s8 : Int × (List Int) × Int × Int × Int × (List Chunk)) : Ole (chunk_reader_list_loop2_F fuel r_chunk_reader_list r_chunk_reader_chunk end2 depth3 s8) (chunk_reader_list_loop2 end2 depth3 s8) := by
  unfold chunk_reader_list_loop2_F chunk_reader_list_loop2; try dsimp only
  repeat' first | with_reducible exact Ole.refl _ | refine Ole.ite ?_ ?_ | with_reducible exact h_chunk_reader_chunk .. | refine Ole.iter fun _ => ?_ | refine Ole.elim (fun _ => ?_) (fun _ => ?_) | refine Ole.bind ?_ fun _ => ?_ | refine Ole.demD ?_ ?_
noncomputable def chunk_reader_list_B (fuel : Nat) (r_chunk_reader_list : Int → Int → Int → (List Int) → Int → Int → Int → Option ((List Chunk) × (List Int) × Int × Int × Int)) (r_chunk_reader_chunk : Int → Int → Int → (List Int) → Int → Int → Int → Option ((List Int) × (List Int) × (List Int) × (List Chunk) × Int × (List Int) × Int × Int × Int)) (at1 end2 depth3 : Int) (b4 : List Int) (b5 b6 b7 : Int) : Option ((List Chunk) × (List Int) × Int × Int × Int) :=
 (iter (chunk_reader_list_loop2_F fuel r_chunk_reader_list r_chunk_reader_chunk end2 depth3) fuel (at1, b4, b5, b6, b7, [])).bind (fun p27 =>
 let b28 := p27.1;
 let b29 := p27.2.1;
 let b30 := p27.2.2.1;
 let b31 := p27.2.2.2.1;
 let out32 := p27.2.2.2.2;
 some (out32, b28, b29, b30, b31))
theorem chunk_reader_list_B_le (fuel : Nat) (r_chunk_reader_list : Int → Int → Int → (List Int) → Int → Int → Int → Option ((List Chunk) × (List Int) × Int × Int × Int)) (r_chunk_reader_chunk : Int → Int → Int → (List Int) → Int → Int → Int → Option ((List Int) × (List Int) × (List Int) × (List Chunk) × Int × (List Int) × Int × Int × Int)) (h_chunk_reader_list : ∀ at1 end2 depth3 b4 b5 b6 b7, Ole (r_chunk_reader_list at1 end2 depth3 b4 b5 b6 b7) (chunk_reader_list at1 end2 depth3 b4 b5 b6 b7)) (h_chunk_reader_chunk : ∀ at1 end2 depth3 b4 b5 b6 b7, Ole (r_chunk_reader_chunk at1 end2 depth3 b4 b5 b6 b7) (chunk_reader_chunk at1 end2 depth3 b4 b5 b6 b7)) (at1 end2 depth3 : Int) (b4 : List Int) (b5 b6 b7 : Int) : Ole (chunk_reader_list_B fuel r_chunk_reader_list r_chunk_reader_chunk at1 end2 depth3 b4 b5 b6 b7) (chunk_reader_list at1 end2 depth3 b4 b5 b6 b7) := by
  rw [chunk_reader_list_eq]; unfold chunk_reader_list_B; try dsimp only
  repeat' first | with_reducible exact Ole.refl _ | refine Ole.ite ?_ ?_ | with_reducible exact h_chunk_reader_chunk .. | with_reducible exact chunk_reader_list_loop2_F_le fuel r_chunk_reader_list r_chunk_reader_chunk h_chunk_reader_list h_chunk_reader_chunk .. | refine Ole.iter fun _ => ?_ | refine Ole.elim (fun _ => ?_) (fun _ => ?_) | refine Ole.bind ?_ fun _ => ?_ | refine Ole.demD ?_ ?_
noncomputable def chunk_reader_chunk_loop7_F (fuel : Nat) (r_chunk_reader_list : Int → Int → Int → (List Int) → Int → Int → Int → Option ((List Chunk) × (List Int) × Int × Int × Int)) (r_chunk_reader_chunk : Int → Int → Int → (List Int) → Int → Int → Int → Option ((List Int) × (List Int) × (List Int) × (List Chunk) × Int × (List Int) × Int × Int × Int)) (t51 : List Int) (s52 : Int × Int) : Option ((Int × Int) ⊕ (Int)) :=
 let n53 := s52.1;
 let v54 := s52.2;
 (if (decide (v54 < ((t51.length : Nat) : Int))) = true then
 (if 0 ≤ v54 ∧ v54 < (t51.length : Int) then
 let t55 := ishl .i64 n53 8;
 let t56 := IntKind.i64.wrap (rd t51 v54);
 let t57 := ior .i64 t55 t56;
 let t58 := IntKind.i64.wrap (v54 + 1);
 some (Sum.inl (t57, t58))
 else
 none)
 else
 some (Sum.inr n53))
theorem chunk_reader_chunk_loop7_F_le (fuel : Nat) (r_chunk_reader_list : Int → Int → Int → (List Int) → Int → Int → Int → Option ((List Chunk) × (List Int) × Int × Int × Int)) (r_chunk_reader_chunk : Int → Int → Int → (List Int) → Int → Int → Int → Option ((List Int) × (List Int) × (List Int) × (List Chunk) × Int × (List Int) × Int × Int × Int)) (h_chunk_reader_list : ∀ at1 end2 depth3 b4 b5 b6 b7, Ole (r_chunk_reader_list at1 end2 depth3 b4 b5 b6 b7) (chunk_reader_list at1 end2 depth3 b4 b5 b6 b7)) (h_chunk_reader_chunk : ∀ at1 end2 depth3 b4 b5 b6 b7, Ole (r_chunk_reader_chunk at1 end2 depth3 b4 b5 b6 b7) (chunk_reader_chunk at1 end2 depth3 b4 b5 b6 b7)) (t51 : List Int) (s52 : Int × Int) : Ole (chunk_reader_chunk_loop7_F fuel r_chunk_reader_list r_chunk_reader_chunk t51 s52) (chunk_reader_chunk_loop7 t51 s52) := by
  unfold chunk_reader_chunk_loop7_F chunk_reader_chunk_loop7; try dsimp only
  repeat' first | with_reducible exact Ole.refl _ | refine Ole.ite ?_ ?_ | with_reducible exact bytes_Clone_F_le .. | with_reducible exact chunk_reader_fail_F_le .. | with_reducible exact chunk_reader_id_F_le .. | with_reducible exact chunk_reader_id_2_F_le .. | with_reducible exact h_chunk_reader_list .. | refine Ole.iter fun _ => ?_ | refine Ole.elim (fun _ => ?_) (fun _ => ?_) | refine Ole.bind ?_ fun _ => ?_ | refine Ole.demD ?_ ?_
noncomputable def chunk_reader_chunk_B (fuel : Nat) (r_chunk_reader_list : Int → Int → Int → (List Int) → Int → Int → Int → Option ((List Chunk) × (List Int) × Int × Int × Int)) (r_chunk_reader_chunk : Int → Int → Int → (List Int) → Int → Int → Int → Option ((List Int) × (List Int) × (List Int) × (List Chunk) × Int × (List Int) × Int × Int × Int)) (at1 end2 depth3 : Int) (b4 : List Int) (b5 b6 b7 : Int) : Option ((List Int) × (List Int) × (List Int) × (List Chunk) × Int × (List Int) × Int × Int × Int) :=
 (chunk_reader_id_F fuel at1 end2 b4 b5 b6 b7).bind fun q8 =>
 let tr9 := q8.1;
 let tr10 := q8.2.1;
 let tr11 := q8.2.2.1;
 let tr12 := q8.2.2.2.1;
 let tr13 := q8.2.2.2.2;
 let t14 := IntKind.i64.wrap (tr11 + 1);
 ((if (decide (t14 ≤ 400)) = true then
 (chunk_reader_fail_F fuel (decide (depth3 ≤ 8)) 4 at1 tr10 t14 tr12 tr13).bind fun q15 =>
 let tr16 := q15.1;
 let tr17 := q15.2.1;
 let tr18 := q15.2.2.1;
 let tr19 := q15.2.2.2.1;
 let tr20 := q15.2.2.2.2;
 (if (!tr16) = true then
 some (true, tr17, tr18, tr19, tr20)
 else
 let t21 := IntKind.i64.wrap (end2 - at1);
 let t22 := IntKind.i64.wrap (at1 + 4);
 (chunk_reader_fail_F fuel (decide (t21 ≥ 8)) 6 t22 tr17 tr18 tr19 tr20).bind fun q23 =>
 let tr24 := q23.1;
 let tr25 := q23.2.1;
 let tr26 := q23.2.2.1;
 let tr27 := q23.2.2.2.1;
 let tr28 := q23.2.2.2.2;
 some (!tr24, tr25, tr26, tr27, tr28))
 else
 (chunk_reader_fail_F fuel false 4 at1 tr10 t14 tr12 tr13).bind fun q29 =>
 let tr30 := q29.1;
 let tr31 := q29.2.1;
 let tr32 := q29.2.2.1;
 let tr33 := q29.2.2.2.1;
 let tr34 := q29.2.2.2.2;
 (if (!tr30) = true then
 some (true, tr31, tr32, tr33, tr34)
 else
 let t35 := IntKind.i64.wrap (end2 - at1);
 let t36 := IntKind.i64.wrap (at1 + 4);
 (chunk_reader_fail_F fuel (decide (t35 ≥ 8)) 6 t36 tr31 tr32 tr33 tr34).bind fun q37 =>
 let tr38 := q37.1;
 let tr39 := q37.2.1;
 let tr40 := q37.2.2.1;
 let tr41 := q37.2.2.2.1;
 let tr42 := q37.2.2.2.2;
 some (!tr38, tr39, tr40, tr41, tr42))) : Option (Bool × (List Int) × Int × Int × Int)).bind (fun p43 =>
 let v44 := p43.1;
 let b45 := p43.2.1;
 let b46 := p43.2.2.1;
 let b47 := p43.2.2.2.1;
 let b48 := p43.2.2.2.2;
 (if v44 = true then
 some (tr9, [], [], [], end2, b45, b46, b47, b48)
 else
 let t49 := IntKind.i64.wrap (at1 + 4);
 let t50 := IntKind.i64.wrap (at1 + 8);
 (if 0 ≤ t50 ∧ t50 ≤ ((b45.length : Nat) : Int) then
 (if 0 ≤ t49 ∧ t49 ≤ t50 then
 let t51 : List Int := cutL b45 t49.toNat t50.toNat;
 (iter (chunk_reader_chunk_loop7_F fuel r_chunk_reader_list r_chunk_reader_chunk t51) fuel (0, 0)).bind (fun n62 =>
 let t63 := IntKind.i64.wrap (at1 + 8);
 let t64 := IntKind.i64.wrap (end2 - t63);
 let t65 := IntKind.i64.wrap (at1 + 4);
 (chunk_reader_fail_F fuel (decide (n62 ≤ t64)) 6 t65 b45 b46 b47 b48).bind fun q66 =>
 let tr67 := q66.1;
 let tr68 := q66.2.1;
 let tr69 := q66.2.2.1;
 let tr70 := q66.2.2.2.1;
 let tr71 := q66.2.2.2.2;
 (if (!tr67) = true then
 some (tr9, [], [], [], end2, tr68, tr69, tr70, tr71)
 else
 let t72 := IntKind.i64.wrap (t63 + n62);
 ((if (decide (tr9 = [70, 79, 82, 77])) = true then
 (chunk_reader_id_2_F fuel t63 t72 tr68 tr69 tr70 tr71).bind fun q73 =>
 let tr74 := q73.1;
 let tr75 := q73.2.1;
 let tr76 := q73.2.2.1;
 let tr77 := q73.2.2.2.1;
 let tr78 := q73.2.2.2.2;
 let t79 := IntKind.i64.wrap (t63 + 4);
 let t80 := IntKind.i64.wrap (depth3 + 1);
 (r_chunk_reader_list t79 t72 t80 tr75 tr76 tr77 tr78).bind fun q81 =>
 let tr82 := q81.1;
 let tr83 := q81.2.1;
 let tr84 := q81.2.2.1;
 let tr85 := q81.2.2.2.1;
 let tr86 := q81.2.2.2.2;
 some (tr83, tr84, tr85, tr86, tr9, tr74, [], tr82)
 else
 (if 0 ≤ t72 ∧ t72 ≤ ((tr68.length : Nat) : Int) then
 (if 0 ≤ t63 ∧ t63 ≤ t72 then
 let t87 : List Int := cutL tr68 t63.toNat t72.toNat;
 (bytes_Clone_F fuel t87).bind fun q88 =>
 some (tr68, tr69, tr70, tr71, tr9, [], q88, [])
 else
 none)
 else
 none)) : Option ((List Int) × Int × Int × Int × (List Int) × (List Int) × (List Int) × (List Chunk))).bind (fun p89 =>
 let b90 := p89.1;
 let b91 := p89.2.1;
 let b92 := p89.2.2.1;
 let b93 := p89.2.2.2.1;
 let b94 := p89.2.2.2.2.1;
 let b95 := p89.2.2.2.2.2.1;
 let b96 := p89.2.2.2.2.2.2.1;
 let b97 := p89.2.2.2.2.2.2.2;
 (let t98 : Int := n62.tmod 2;
 (if (decide (t98 = 1)) = true then
 (chunk_reader_fail_F fuel (decide (t72 < end2)) 6 t72 b90 b91 b92 b93).bind fun q99 =>
 let tr100 := q99.1;
 let tr101 := q99.2.1;
 let tr102 := q99.2.2.1;
 let tr103 := q99.2.2.2.1;
 let tr104 := q99.2.2.2.2;
 some (tr100, tr101, tr102, tr103, tr104)
 else
 some (false, b90, b91, b92, b93)) : Option (Bool × (List Int) × Int × Int × Int)).bind (fun p105 =>
 let v106 := p105.1;
 let b107 := p105.2.1;
 let b108 := p105.2.2.1;
 let b109 := p105.2.2.2.1;
 let b110 := p105.2.2.2.2;
 (if v106 = true then
 (if 0 ≤ t72 ∧ t72 < (b107.length : Int) then
 (chunk_reader_fail_F fuel (decide (rd b107 t72 = 0)) 3 t72 b107 b108 b109 b110).bind fun q111 =>
 let tr112 := q111.1;
 let tr113 := q111.2.1;
 let tr114 := q111.2.2.1;
 let tr115 := q111.2.2.2.1;
 let tr116 := q111.2.2.2.2;
 let t117 := IntKind.i64.wrap (t72 + 1);
 some (b94, b95, b96, b97, t117, tr113, tr114, tr115, tr116)
 else
 none)
 else
 some (b94, b95, b96, b97, t72, b107, b108, b109, b110))))))
 else
 none)
 else
 none)))
theorem chunk_reader_chunk_B_le (fuel : Nat) (r_chunk_reader_list : Int → Int → Int → (List Int) → Int → Int → Int → Option ((List Chunk) × (List Int) × Int × Int × Int)) (r_chunk_reader_chunk : Int → Int → Int → (List Int) → Int → Int → Int → Option ((List Int) × (List Int) × (List Int) × (List Chunk) × Int × (List Int) × Int × Int × Int)) (h_chunk_reader_list : ∀ at1 end2 depth3 b4 b5 b6 b7, Ole (r_chunk_reader_list at1 end2 depth3 b4 b5 b6 b7) (chunk_reader_list at1 end2 depth3 b4 b5 b6 b7)) (h_chunk_reader_chunk : ∀ at1 end2 depth3 b4 b5 b6 b7, Ole (r_chunk_reader_chunk at1 end2 depth3 b4 b5 b6 b7) (chunk_reader_chunk at1 end2 depth3 b4 b5 b6 b7)) (at1 end2 depth3 : Int) (b4 : List Int) (b5 b6 b7 : Int) : Ole (chunk_reader_chunk_B fuel r_chunk_reader_list r_chunk_reader_chunk at1 end2 depth3 b4 b5 b6 b7) (chunk_reader_chunk at1 end2 depth3 b4 b5 b6 b7) := by
  rw [chunk_reader_chunk_eq]; unfold chunk_reader_chunk_B; try dsimp only
  repeat' first | with_reducible exact Ole.refl _ | refine Ole.ite ?_ ?_ | with_reducible exact bytes_Clone_F_le .. | with_reducible exact chunk_reader_fail_F_le .. | with_reducible exact chunk_reader_id_F_le .. | with_reducible exact chunk_reader_id_2_F_le .. | with_reducible exact h_chunk_reader_list .. | with_reducible exact chunk_reader_chunk_loop7_F_le fuel r_chunk_reader_list r_chunk_reader_chunk h_chunk_reader_list h_chunk_reader_chunk .. | refine Ole.iter fun _ => ?_ | refine Ole.elim (fun _ => ?_) (fun _ => ?_) | refine Ole.bind ?_ fun _ => ?_ | refine Ole.demD ?_ ?_
noncomputable def chunk_reader_list_R (fuel : Nat) : Nat → (Int → Int → Int → (List Int) → Int → Int → Int → Option ((List Chunk) × (List Int) × Int × Int × Int)) × (Int → Int → Int → (List Int) → Int → Int → Int → Option ((List Int) × (List Int) × (List Int) × (List Chunk) × Int × (List Int) × Int × Int × Int))
  | 0 => (fun at1 end2 depth3 b4 b5 b6 b7 => none, fun at1 end2 depth3 b4 b5 b6 b7 => none)
  | n + 1 => (fun at1 end2 depth3 b4 b5 b6 b7 => chunk_reader_list_B fuel (chunk_reader_list_R fuel n).1 (chunk_reader_list_R fuel n).2 at1 end2 depth3 b4 b5 b6 b7, fun at1 end2 depth3 b4 b5 b6 b7 => chunk_reader_chunk_B fuel (chunk_reader_list_R fuel n).1 (chunk_reader_list_R fuel n).2 at1 end2 depth3 b4 b5 b6 b7)
theorem chunk_reader_list_R_le (fuel : Nat) : ∀ n, (∀ at1 end2 depth3 b4 b5 b6 b7, Ole ((chunk_reader_list_R fuel n).1 at1 end2 depth3 b4 b5 b6 b7) (chunk_reader_list at1 end2 depth3 b4 b5 b6 b7)) ∧ (∀ at1 end2 depth3 b4 b5 b6 b7, Ole ((chunk_reader_list_R fuel n).2 at1 end2 depth3 b4 b5 b6 b7) (chunk_reader_chunk at1 end2 depth3 b4 b5 b6 b7))
  | 0 => ⟨fun _ _ _ _ _ _ _ => Ole.none, fun _ _ _ _ _ _ _ => Ole.none⟩
  | n + 1 => ⟨fun at1 end2 depth3 b4 b5 b6 b7 => chunk_reader_list_B_le fuel (chunk_reader_list_R fuel n).1 (chunk_reader_list_R fuel n).2 (chunk_reader_list_R_le fuel n).1 (chunk_reader_list_R_le fuel n).2 at1 end2 depth3 b4 b5 b6 b7, fun at1 end2 depth3 b4 b5 b6 b7 => chunk_reader_chunk_B_le fuel (chunk_reader_list_R fuel n).1 (chunk_reader_list_R fuel n).2 (chunk_reader_list_R_le fuel n).1 (chunk_reader_list_R_le fuel n).2 at1 end2 depth3 b4 b5 b6 b7⟩
noncomputable def chunk_reader_list_F (fuel : Nat) (at1 end2 depth3 : Int) (b4 : List Int) (b5 b6 b7 : Int) : Option ((List Chunk) × (List Int) × Int × Int × Int) := (chunk_reader_list_R fuel fuel).1 at1 end2 depth3 b4 b5 b6 b7
theorem chunk_reader_list_F_le (fuel : Nat) (at1 end2 depth3 : Int) (b4 : List Int) (b5 b6 b7 : Int) : Ole (chunk_reader_list_F fuel at1 end2 depth3 b4 b5 b6 b7) (chunk_reader_list at1 end2 depth3 b4 b5 b6 b7) := (chunk_reader_list_R_le fuel fuel).1 at1 end2 depth3 b4 b5 b6 b7
noncomputable def chunk_reader_chunk_F (fuel : Nat) (at1 end2 depth3 : Int) (b4 : List Int) (b5 b6 b7 : Int) : Option ((List Int) × (List Int) × (List Int) × (List Chunk) × Int × (List Int) × Int × Int × Int) := (chunk_reader_list_R fuel fuel).2 at1 end2 depth3 b4 b5 b6 b7
theorem chunk_reader_chunk_F_le (fuel : Nat) (at1 end2 depth3 : Int) (b4 : List Int) (b5 b6 b7 : Int) : Ole (chunk_reader_chunk_F fuel at1 end2 depth3 b4 b5 b6 b7) (chunk_reader_chunk at1 end2 depth3 b4 b5 b6 b7) := (chunk_reader_list_R_le fuel fuel).2 at1 end2 depth3 b4 b5 b6 b7
noncomputable def chunk_Get_F (fuel : Nat) (b1 : List Int) : Option ((List Chunk) × Int × Int) :=
 (if (decide (((b1.length : Nat) : Int) > 60000)) = true then
 some ([], 0, 4)
 else
 (chunk_reader_list_F fuel 0 ((b1.length : Nat) : Int) 1 b1 0 0 0).bind fun q2 =>
 let tr3 := q2.1;
 let tr4 := q2.2.1;
 let tr5 := q2.2.2.1;
 let tr6 := q2.2.2.2.1;
 let tr7 := q2.2.2.2.2;
 (if (!decide (tr6 = 0)) = true then
 some ([], tr7, tr6)
 else
 some (tr3, 0, 0)))
theorem chunk_Get_F_le (fuel : Nat) (b1 : List Int) : Ole (chunk_Get_F fuel b1) (chunk_Get b1) := by
  rw [chunk_Get_eq]; unfold chunk_Get_F; try dsimp only
  repeat' first | with_reducible exact Ole.refl _ | refine Ole.ite ?_ ?_ | with_reducible exact chunk_reader_list_F_le .. | refine Ole.iter fun _ => ?_ | refine Ole.elim (fun _ => ?_) (fun _ => ?_) | refine Ole.bind ?_ fun _ => ?_ | refine Ole.demD ?_ ?_
noncomputable def view_New_F (fuel : Nat) (index1 : List Int) (bound2 : Int) : Option ((Bool × (List Int) × Int × (List File) × (List Int)) ⊕ (Int)) :=
 (chunk_Get_F fuel index1).bind fun q3 =>
 let tr4 := q3.1;
 let tr5 := q3.2.1;
 let tr6 := q3.2.2;
 (if (!decide (tr6 = 0)) = true then
 some (Sum.inr tr6)
 else
 ((if (!decide (((tr4.length : Nat) : Int) = 1)) = true then
 some true
 else
 (if 0 ≤ (0 : Int) then
 (tr4[(0 : Int).toNat]?).bind fun e7 =>
 (if (!decide (e7.id = [70, 79, 82, 77])) = true then
 some true
 else
 (if 0 ≤ (0 : Int) then
 (tr4[(0 : Int).toNat]?).bind fun e8 =>
 (if (!decide (e8.kind = [66, 79, 79, 75])) = true then
 some true
 else
 (if 0 ≤ (0 : Int) then
 (tr4[(0 : Int).toNat]?).bind fun e9 =>
 (if (!decide (((e9.kids.length : Nat) : Int) = 1)) = true then
 some true
 else
 (if 0 ≤ (0 : Int) then
 (tr4[(0 : Int).toNat]?).bind fun e10 =>
 (if 0 ≤ (0 : Int) then
 (e10.kids[(0 : Int).toNat]?).bind fun e11 =>
 some (!decide (e11.id = [68, 73, 82, 77]))
 else
 none)
 else
 none))
 else
 none))
 else
 none))
 else
 none)) : Option (Bool)).bind (fun v12 =>
 (if v12 = true then
 some (Sum.inr 3)
 else
 (if 0 ≤ (0 : Int) then
 (tr4[(0 : Int).toNat]?).bind fun e13 =>
 (if 0 ≤ (0 : Int) then
 (e13.kids[(0 : Int).toNat]?).bind fun e14 =>
 (book_GetDirectory_F fuel e14.data).bind fun q15 =>
 let tr16 := q15.1;
 let tr17 := q15.2.1;
 let tr18 := q15.2.2.1;
 let tr19 := q15.2.2.2;
 (if (!decide (tr18 = 0)) = true then
 some (Sum.inr tr18)
 else
 ((if (decide (bound2 < 0)) = true then
 some true
 else
 some (decide (bound2 > 600000))) : Option (Bool)).bind (fun v20 =>
 (if v20 = true then
 some (Sum.inr 2)
 else
 some (Sum.inl (true, tr16, bound2, tr19, [])))))
 else
 none)
 else
 none))))
theorem view_New_F_le (fuel : Nat) (index1 : List Int) (bound2 : Int) : Ole (view_New_F fuel index1 bound2) (view_New index1 bound2) := by
  rw [view_New_eq]; unfold view_New_F; try dsimp only
  repeat' first | with_reducible exact Ole.refl _ | refine Ole.ite ?_ ?_ | with_reducible exact book_GetDirectory_F_le .. | with_reducible exact chunk_Get_F_le .. | refine Ole.iter fun _ => ?_ | refine Ole.elim (fun _ => ?_) (fun _ => ?_) | refine Ole.bind ?_ fun _ => ?_ | refine Ole.demD ?_ ?_
end
end Go.Proofs.YthnonplijagpdaaGreat.P
