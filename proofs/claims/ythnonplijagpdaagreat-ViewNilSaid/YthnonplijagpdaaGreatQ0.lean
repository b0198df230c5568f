/- The equations of functions. Printed by wip/tool/vsym.py. -/
import Derived.Test.YthnonplijagpdaaGreatG
import Derived.Test.YthnonplijagpdaaGreatLib
namespace Go.Proofs.YthnonplijagpdaaGreat.P
open Go Go.Proofs.YthnonplijagpdaaGreat.V
set_option linter.unusedVariables false
set_option linter.unusedSimpArgs false
set_option maxRecDepth 100000
noncomputable section
theorem law28_ViewNil_eq (page1 : Int) (name2 : List Int) : law28_ViewNil page1 name2 =
 (view_Viewer_Needs page1).bind fun q3 =>
 let tr4 := q3.1;
 let tr5 := q3.2;
 (view_Viewer_Show page1).bind fun q6 =>
 let tr7 := q6.1;
 let tr8 := q6.2.1;
 let tr9 := q6.2.2.1;
 let tr10 := q6.2.2.2.1;
 let tr11 := q6.2.2.2.2.1;
 let tr12 := q6.2.2.2.2.2;
 (view_Viewer_Show_2 page1 false [] 0 [] []).bind fun q13 =>
 let tr14 := q13.1;
 let tr15 := q13.2.1;
 let tr16 := q13.2.2.1;
 let tr17 := q13.2.2.2.1;
 let tr18 := q13.2.2.2.2.1;
 let tr19 := q13.2.2.2.2.2.1;
 let tr20 := q13.2.2.2.2.2.2.1;
 let tr21 := q13.2.2.2.2.2.2.2.1;
 let tr22 := q13.2.2.2.2.2.2.2.2.1;
 let tr23 := q13.2.2.2.2.2.2.2.2.2.1;
 let tr24 := q13.2.2.2.2.2.2.2.2.2.2;
 (view_Viewer_Arrive name2 [] tr20 tr21 tr22 tr23 tr24).bind fun q25 =>
 let tr26 := q25.1;
 let tr27 := q25.2.1;
 let tr28 := q25.2.2.1;
 let tr29 := q25.2.2.2.1;
 let tr30 := q25.2.2.2.2.1;
 let tr31 := q25.2.2.2.2.2;
 (if (decide (tr5 = 7)) = true then
 (if (decide (tr12 = 7)) = true then
 (if (decide (tr19 = 7)) = true then
 (if (decide (tr26 = 7)) = true then
 (view_Viewer_Arrive_2 name2 []).bind fun q32 =>
 (if (decide (q32 = 7)) = true then
 (view_Viewer_Stored).bind fun q33 =>
 (if (decide (((q33.length : Nat) : Int) = 0)) = true then
 (view_Viewer_Size).bind fun q34 =>
 (if (decide (q34 = 0)) = true then
 (view_Viewer_Pages).bind fun q35 =>
 (if (decide (q35 = 0)) = true then
 (view_Viewer_Copy).bind fun q36 =>
 (view_Same).bind fun q37 =>
 (if q37 = true then
 (law28_Awake).bind fun q38 =>
 some q38
 else
 some false)
 else
 some false)
 else
 some false)
 else
 some false)
 else
 some false)
 else
 some false)
 else
 some false)
 else
 some false)
 else
 some false) := (call_eq ..).trans (by kernel_rfl)

noncomputable def view_Viewer_Needs_loop8 (tr4 : List Int) (s6 : Int × (List (List Int))) : Option ((Int × (List (List Int))) ⊕ ((List (List Int)))) :=
 let v7 := s6.1;
 let out8 := s6.2;
 (if (decide (v7 < ((tr4.length : Nat) : Int))) = true then
 (if 0 ≤ v7 ∧ v7 < (tr4.length : Int) then
 (view_Viewer_has (rd tr4 v7)).bind fun q9 =>
 (if (!q9) = true then
 none
 else
 let t10 := IntKind.i64.wrap (v7 + 1);
 some (Sum.inl (t10, out8)))
 else
 none)
 else
 some (Sum.inr out8))

theorem view_Viewer_Needs_eq (page1 : Int) : view_Viewer_Needs page1 =
 (view_Viewer_none).bind fun q2 =>
 (if q2 = true then
 some ([], 7)
 else
 (view_Viewer_all page1).bind fun q3 =>
 let tr4 := q3.1;
 let tr5 := q3.2;
 (if (!decide (tr5 = 0)) = true then
 some ([], tr5)
 else
 (loop (view_Viewer_Needs_loop8 tr4) (0, [])).bind (fun out14 =>
 some (out14, 0)))) := (call_eq ..).trans (by kernel_rfl)

theorem view_Viewer_Show_eq (page1 : Int) : view_Viewer_Show page1 =
 (view_Viewer_Needs page1).bind fun q2 =>
 let tr3 := q2.1;
 let tr4 := q2.2;
 (if (!decide (tr4 = 0)) = true then
 some (0, 0, [], [], [], tr4)
 else
 (if (decide (((tr3.length : Nat) : Int) > 0)) = true then
 some (0, 0, [], [], [], 120)
 else
 (view_Viewer_book).bind fun q5 =>
 let tr6 := q5.1;
 let tr7 := q5.2;
 none)) := (call_eq ..).trans (by kernel_rfl)

theorem view_Viewer_Show_2_eq (page1 : Int) (b2 : Bool) (b3 : List Int) (b4 : Int) (b5 : List File) (b6 : List Int) : view_Viewer_Show_2 page1 b2 b3 b4 b5 b6 =
 (view_Viewer_Needs_2 page1 b2 b3 b4 b5 b6).bind fun q7 =>
 let tr8 := q7.1;
 let tr9 := q7.2.1;
 let tr10 := q7.2.2.1;
 let tr11 := q7.2.2.2.1;
 let tr12 := q7.2.2.2.2.1;
 let tr13 := q7.2.2.2.2.2.1;
 let tr14 := q7.2.2.2.2.2.2;
 (if (!decide (tr9 = 0)) = true then
 some (0, 0, [], [], [], tr9, tr10, tr11, tr12, tr13, tr14)
 else
 (if (decide (((tr8.length : Nat) : Int) > 0)) = true then
 some (0, 0, [], [], [], 120, tr10, tr11, tr12, tr13, tr14)
 else
 (view_Viewer_book_2 tr10 tr11 tr12 tr13 tr14).bind fun q15 =>
 let tr16 := q15.1;
 let tr17 := q15.2.1;
 let tr18 := q15.2.2.1;
 let tr19 := q15.2.2.2.1;
 let tr20 := q15.2.2.2.2.1;
 let tr21 := q15.2.2.2.2.2.1;
 let tr22 := q15.2.2.2.2.2.2;
 none)) := (call_eq ..).trans (by kernel_rfl)

noncomputable def view_Viewer_Arrive_loop10 (s31 : Bool × (List Int) × Int × (List File) × (List Int)) : Option ((Bool × (List Int) × Int × (List File) × (List Int)) ⊕ (Bool × (List Int) × Int × (List File) × (List Int))) :=
 let b32 := s31.1;
 let b33 := s31.2.1;
 let b34 := s31.2.2.1;
 let b35 := s31.2.2.2.1;
 let b36 := s31.2.2.2.2;
 ((demon
 ((view_Viewer_Size_2 b32 b33 b34 b35 b36).bind fun q37 =>
 let tr38 := q37.1;
 let tr39 := q37.2.1;
 let tr40 := q37.2.2.1;
 let tr41 := q37.2.2.2.1;
 let tr42 := q37.2.2.2.2.1;
 let tr43 := q37.2.2.2.2.2;
 some (decide (tr38 > tr41), tr39, tr40, tr41, tr42, tr43))
 ((view_Viewer_Size_2 b32 b33 b34 b35 b36).bind fun q44 =>
 let tr45 := q44.1;
 let tr46 := q44.2.1;
 let tr47 := q44.2.2.1;
 let tr48 := q44.2.2.2.1;
 let tr49 := q44.2.2.2.2.1;
 let tr50 := q44.2.2.2.2.2;
 some (decide (tr45 > b34), tr46, tr47, tr48, tr49, tr50))) : Option (Bool × Bool × (List Int) × Int × (List File) × (List Int))).bind (fun p51 =>
 let v52 := p51.1;
 let b53 := p51.2.1;
 let b54 := p51.2.2.1;
 let b55 := p51.2.2.2.1;
 let b56 := p51.2.2.2.2.1;
 let b57 := p51.2.2.2.2.2;
 (if v52 = true then
 (if 0 ≤ (0 : Int) ∧ (0 : Int) < (b57.length : Int) then
 let t58 : Int := rd b57 0;
 (if 0 ≤ t58 ∧ t58 < (b56.length : Int) then
 (b56[t58.toNat]?).bind fun e59 =>
 let w60 : List File := b56.set t58.toNat (File.mk e59.name e59.kind []);
 (if 0 ≤ (1 : Int) ∧ (1 : Int) ≤ ((b57.length : Nat) : Int) then
 let t61 : List Int := cutL b57 ((1 : Int).toNat) b57.length;
 some (Sum.inl (b53, b54, b55, w60, t61))
 else
 none)
 else
 none)
 else
 none)
 else
 some (Sum.inr (b53, b54, b55, b56, b57))))
theorem view_Viewer_Arrive_eq (name1 data2 : List Int) (b3 : Bool) (b4 : List Int) (b5 : Int) (b6 : List File) (b7 : List Int) : view_Viewer_Arrive name1 data2 b3 b4 b5 b6 b7 =
 (view_Viewer_none_2 b3 b4 b5 b6 b7).bind fun q8 =>
 let tr9 := q8.1;
 let tr10 := q8.2.1;
 let tr11 := q8.2.2.1;
 let tr12 := q8.2.2.2.1;
 let tr13 := q8.2.2.2.2.1;
 let tr14 := q8.2.2.2.2.2;
 (if tr9 = true then
 some (7, tr10, tr11, tr12, tr13, tr14)
 else
 (view_Viewer_find name1 tr10 tr11 tr12 tr13 tr14).bind fun q15 =>
 let tr16 := q15.1;
 let tr17 := q15.2.1;
 let tr18 := q15.2.2.1;
 let tr19 := q15.2.2.2.1;
 let tr20 := q15.2.2.2.2.1;
 let tr21 := q15.2.2.2.2.2;
 (if (decide (tr16 < 0)) = true then
 some (5, tr17, tr18, tr19, tr20, tr21)
 else
 (if 0 ≤ tr16 ∧ tr16 < (tr18.length : Int) then
 (if (!decide (((data2.length : Nat) : Int) = rd tr18 tr16)) = true then
 some (110, tr17, tr18, tr19, tr20, tr21)
 else
 (slices_Clone_byte_byte data2).bind fun q22 =>
 (if 0 ≤ tr16 ∧ tr16 < (tr20.length : Int) then
 (tr20[tr16.toNat]?).bind fun e23 =>
 let w24 : List File := tr20.set tr16.toNat (File.mk e23.name e23.kind q22);
 (view_Viewer_latest tr16 tr17 tr18 tr19 w24 tr21).bind fun q25 =>
 let tr26 := q25.1;
 let tr27 := q25.2.1;
 let tr28 := q25.2.2.1;
 let tr29 := q25.2.2.2.1;
 let tr30 := q25.2.2.2.2;
 (loop (view_Viewer_Arrive_loop10) (tr26, tr27, tr28, tr29, tr30)).bind (fun p62 =>
 let b63 := p62.1;
 let b64 := p62.2.1;
 let b65 := p62.2.2.1;
 let b66 := p62.2.2.2.1;
 let b67 := p62.2.2.2.2;
 some (0, b63, b64, b65, b66, b67))
 else
 none))
 else
 none))) := (call_eq ..).trans (by kernel_rfl)

theorem view_Viewer_Arrive_2_eq (name1 data2 : List Int) : view_Viewer_Arrive_2 name1 data2 =
 (view_Viewer_none).bind fun q3 =>
 (if q3 = true then
 some 7
 else
 (view_Viewer_find_2 name1).bind fun q4 =>
 (if (decide (q4 < 0)) = true then
 some 5
 else
 none)) := (call_eq ..).trans (by kernel_rfl)

theorem view_Viewer_Stored_eq : view_Viewer_Stored =
 (view_Viewer_none).bind fun q1 =>
 (if q1 = true then
 some []
 else
 none) := (call_eq ..).trans (by kernel_rfl)

theorem view_Viewer_Size_eq : view_Viewer_Size =
 (view_Viewer_none).bind fun q1 =>
 (if q1 = true then
 some 0
 else
 none) := (call_eq ..).trans (by kernel_rfl)

theorem view_Viewer_Pages_eq : view_Viewer_Pages =
 (view_Viewer_none).bind fun q1 =>
 (if q1 = true then
 some 0
 else
 none) := (call_eq ..).trans (by kernel_rfl)

theorem view_Viewer_Copy_eq : view_Viewer_Copy =
 (view_Viewer_none).bind fun q1 =>
 (if q1 = true then
 some ()
 else
 none) := (call_eq ..).trans (by kernel_rfl)

theorem view_Same_eq : view_Same =
 ((view_Viewer_none).bind fun q1 =>
 (if q1 = true then
 some true
 else
 (view_Viewer_none).bind fun q2 =>
 some q2) : Option (Bool)).bind (fun v3 =>
 (if v3 = true then
 ((view_Viewer_none).bind fun q4 =>
 (if q4 = true then
 (view_Viewer_none).bind fun q5 =>
 some q5
 else
 some false) : Option (Bool)).bind (fun v6 =>
 some v6)
 else
 none)) := (call_eq ..).trans (by kernel_rfl)

theorem law28_Awake_eq : law28_Awake =
 (if 0 < ([120, 121] : List Int).length then
 (view_Serve [(File.mk [97] 2 [120, 121])] [] []).bind fun q1 =>
 let tr2 := q1.1;
 let tr3 := q1.2;
 ((view_New tr2 10).bind fun o11 =>
 (Sum.elim (fun (q4 : Bool × (List Int) × Int × (List File) × (List Int)) =>
 let tr5 := q4.1;
 let tr6 := q4.2.1;
 let tr7 := q4.2.2.1;
 let tr8 := q4.2.2.2.1;
 let tr9 := q4.2.2.2.2;
 some (0, tr5, tr6, tr7, tr8, tr9))
 (fun (q10 : Int) =>
 none) o11) : Option (Int × Bool × (List Int) × Int × (List File) × (List Int))).bind (fun p12 =>
 let f13 := p12.1;
 let b14 := p12.2.1;
 let b15 := p12.2.2.1;
 let b16 := p12.2.2.2.1;
 let b17 := p12.2.2.2.2.1;
 let b18 := p12.2.2.2.2.2;
 ((if (!decide (tr3 = 0)) = true then
 some true
 else
 some (!decide (f13 = 0))) : Option (Bool)).bind (fun v19 =>
 (if v19 = true then
 some false
 else
 (if 0 < ([120, 121] : List Int).length then
 (view_Viewer_Arrive [97] [120, 121] b14 b15 b16 b17 b18).bind fun q20 =>
 let tr21 := q20.1;
 let tr22 := q20.2.1;
 let tr23 := q20.2.2.1;
 let tr24 := q20.2.2.2.1;
 let tr25 := q20.2.2.2.2.1;
 let tr26 := q20.2.2.2.2.2;
 (if (decide (tr21 = 0)) = true then
 (view_Viewer_Size_2 tr22 tr23 tr24 tr25 tr26).bind fun q27 =>
 let tr28 := q27.1;
 let tr29 := q27.2.1;
 let tr30 := q27.2.2.1;
 let tr31 := q27.2.2.2.1;
 let tr32 := q27.2.2.2.2.1;
 let tr33 := q27.2.2.2.2.2;
 (if (decide (tr28 = 2)) = true then
 (view_Viewer_Pages_2 tr29 tr30 tr31 tr32 tr33).bind fun q34 =>
 let tr35 := q34.1;
 let tr36 := q34.2.1;
 let tr37 := q34.2.2.1;
 let tr38 := q34.2.2.2.1;
 let tr39 := q34.2.2.2.2.1;
 let tr40 := q34.2.2.2.2.2;
 (if (decide (tr35 = 0)) = true then
 (view_Viewer_Stored_2 tr36 tr37 tr38 tr39 tr40).bind fun q41 =>
 let tr42 := q41.1;
 let tr43 := q41.2.1;
 let tr44 := q41.2.2.1;
 let tr45 := q41.2.2.2.1;
 let tr46 := q41.2.2.2.2.1;
 let tr47 := q41.2.2.2.2.2;
 some (decide (((tr42.length : Nat) : Int) = 1))
 else
 some false)
 else
 some false)
 else
 some false)
 else
 none))))
 else
 none) := (call_eq ..).trans (by kernel_rfl)

theorem view_Viewer_none_eq : view_Viewer_none =
 some true := (call_eq ..).trans (by kernel_rfl)

theorem view_Viewer_all_eq (page1 : Int) : view_Viewer_all page1 =
 (view_Viewer_page page1).bind fun q2 =>
 (if (decide (q2 < 0)) = true then
 some ([], 5)
 else
 (view_Viewer_has q2).bind fun q3 =>
 (if (!q3) = true then
 some ([q2], 0)
 else
 (view_Viewer_book).bind fun q4 =>
 let tr5 := q4.1;
 let tr6 := q4.2;
 none)) := (call_eq ..).trans (by kernel_rfl)

theorem view_Viewer_has_eq (i1 : Int) : view_Viewer_has i1 =
 none := (call_eq ..).trans (by kernel_rfl)

theorem view_Viewer_book_eq : view_Viewer_book =
 none := (call_eq ..).trans (by kernel_rfl)

noncomputable def view_Viewer_Needs_2_loop8 (tr15 : List Int) (s22 : Int × Bool × (List Int) × Int × (List File) × (List Int) × (List (List Int))) : Option ((Int × Bool × (List Int) × Int × (List File) × (List Int) × (List (List Int))) ⊕ (Bool × (List Int) × Int × (List File) × (List Int) × (List (List Int)))) :=
 let v23 := s22.1;
 let b24 := s22.2.1;
 let b25 := s22.2.2.1;
 let b26 := s22.2.2.2.1;
 let b27 := s22.2.2.2.2.1;
 let b28 := s22.2.2.2.2.2.1;
 let out29 := s22.2.2.2.2.2.2;
 (if (decide (v23 < ((tr15.length : Nat) : Int))) = true then
 (if 0 ≤ v23 ∧ v23 < (tr15.length : Int) then
 (view_Viewer_has_2 (rd tr15 v23) b24 b25 b26 b27 b28).bind fun q30 =>
 let tr31 := q30.1;
 let tr32 := q30.2.1;
 let tr33 := q30.2.2.1;
 let tr34 := q30.2.2.2.1;
 let tr35 := q30.2.2.2.2.1;
 let tr36 := q30.2.2.2.2.2;
 (if (!tr31) = true then
 (if 0 ≤ rd tr15 v23 ∧ rd tr15 v23 < (tr35.length : Int) then
 (tr35[(rd tr15 v23).toNat]?).bind fun e37 =>
 (if (out29.length + ([e37.name] : List (List Int)).length) * 16 ≤ 140737488355328 then
 let t38 : List (List Int) := out29 ++ [e37.name];
 let t39 := IntKind.i64.wrap (v23 + 1);
 some (Sum.inl (t39, tr32, tr33, tr34, tr35, tr36, t38))
 else
 none)
 else
 none)
 else
 let t40 := IntKind.i64.wrap (v23 + 1);
 some (Sum.inl (t40, tr32, tr33, tr34, tr35, tr36, out29)))
 else
 none)
 else
 some (Sum.inr (b24, b25, b26, b27, b28, out29)))

theorem view_Viewer_Needs_2_eq (page1 : Int) (b2 : Bool) (b3 : List Int) (b4 : Int) (b5 : List File) (b6 : List Int) : view_Viewer_Needs_2 page1 b2 b3 b4 b5 b6 =
 (view_Viewer_none_2 b2 b3 b4 b5 b6).bind fun q7 =>
 let tr8 := q7.1;
 let tr9 := q7.2.1;
 let tr10 := q7.2.2.1;
 let tr11 := q7.2.2.2.1;
 let tr12 := q7.2.2.2.2.1;
 let tr13 := q7.2.2.2.2.2;
 (if tr8 = true then
 some ([], 7, tr9, tr10, tr11, tr12, tr13)
 else
 (view_Viewer_all_2 page1 tr9 tr10 tr11 tr12 tr13).bind fun q14 =>
 let tr15 := q14.1;
 let tr16 := q14.2.1;
 let tr17 := q14.2.2.1;
 let tr18 := q14.2.2.2.1;
 let tr19 := q14.2.2.2.2.1;
 let tr20 := q14.2.2.2.2.2.1;
 let tr21 := q14.2.2.2.2.2.2;
 (if (!decide (tr16 = 0)) = true then
 some ([], tr16, tr17, tr18, tr19, tr20, tr21)
 else
 (loop (view_Viewer_Needs_2_loop8 tr15) (0, tr17, tr18, tr19, tr20, tr21, [])).bind (fun p50 =>
 let b51 := p50.1;
 let b52 := p50.2.1;
 let b53 := p50.2.2.1;
 let b54 := p50.2.2.2.1;
 let b55 := p50.2.2.2.2.1;
 let out56 := p50.2.2.2.2.2;
 some (out56, 0, b51, b52, b53, b54, b55)))) := (call_eq ..).trans (by kernel_rfl)

theorem view_Viewer_book_2_eq (b1 : Bool) (b2 : List Int) (b3 : Int) (b4 : List File) (b5 : List Int) : view_Viewer_book_2 b1 b2 b3 b4 b5 =
 none := (call_eq ..).trans (by kernel_rfl)

theorem view_Viewer_none_2_eq (b1 : Bool) (b2 : List Int) (b3 : Int) (b4 : List File) (b5 : List Int) : view_Viewer_none_2 b1 b2 b3 b4 b5 =
 some (!b1, b1, b2, b3, b4, b5) := (call_eq ..).trans (by kernel_rfl)

theorem view_Viewer_find_eq (name1 : List Int) (b2 : Bool) (b3 : List Int) (b4 : Int) (b5 : List File) (b6 : List Int) : view_Viewer_find name1 b2 b3 b4 b5 b6 =
 (slices_IndexFunc_api_File_api_File b5 name1).bind fun q7 =>
 let tr8 := q7.1;
 let tr9 := q7.2;
 some (tr8, b2, b3, b4, b5, b6) := (call_eq ..).trans (by kernel_rfl)

theorem slices_Clone_byte_byte_eq (s1 : List Int) : slices_Clone_byte_byte s1 =
 (if s1.length = 0 then
 (demon
 (some [])
 ((if (([] : List Int).length + s1.length) * 1 ≤ 140737488355328 then
 let t2 : List Int := ([] : List Int) ++ s1;
 some t2
 else
 none)))
 else
 (if (([] : List Int).length + s1.length) * 1 ≤ 140737488355328 then
 let t3 : List Int := ([] : List Int) ++ s1;
 some t3
 else
 none)) := (call_eq ..).trans (by kernel_rfl)

theorem view_Viewer_latest_eq (i1 : Int) (b2 : Bool) (b3 : List Int) (b4 : Int) (b5 : List File) (b6 : List Int) : view_Viewer_latest i1 b2 b3 b4 b5 b6 =
 (slices_DeleteFunc_int_int b6 i1).bind fun q7 =>
 let tr8 := q7.1;
 let tr9 := q7.2;
 (if (tr8.length + ([tr9] : List Int).length) * 8 ≤ 140737488355328 then
 let t10 : List Int := tr8 ++ [tr9];
 some (b2, b3, b4, b5, t10)
 else
 none) := (call_eq ..).trans (by kernel_rfl)

noncomputable def view_Viewer_Size_2_loop5 (tr9 tr12 : List Int) (s13 : Int × Int) : Option ((Int × Int) ⊕ (Int)) :=
 let n14 := s13.1;
 let v15 := s13.2;
 (if (decide (v15 < ((tr12.length : Nat) : Int))) = true then
 (if 0 ≤ v15 ∧ v15 < (tr12.length : Int) then
 let t16 : Int := rd tr12 v15;
 (if 0 ≤ t16 ∧ t16 < (tr9.length : Int) then
 let t17 := IntKind.i64.wrap (n14 + rd tr9 t16);
 let t18 := IntKind.i64.wrap (v15 + 1);
 some (Sum.inl (t17, t18))
 else
 none)
 else
 none)
 else
 some (Sum.inr n14))

theorem view_Viewer_Size_2_eq (b1 : Bool) (b2 : List Int) (b3 : Int) (b4 : List File) (b5 : List Int) : view_Viewer_Size_2 b1 b2 b3 b4 b5 =
 (view_Viewer_none_2 b1 b2 b3 b4 b5).bind fun q6 =>
 let tr7 := q6.1;
 let tr8 := q6.2.1;
 let tr9 := q6.2.2.1;
 let tr10 := q6.2.2.2.1;
 let tr11 := q6.2.2.2.2.1;
 let tr12 := q6.2.2.2.2.2;
 (if tr7 = true then
 some (0, tr8, tr9, tr10, tr11, tr12)
 else
 (loop (view_Viewer_Size_2_loop5 tr9 tr12) (0, 0)).bind (fun n22 =>
 some (n22, tr8, tr9, tr10, tr11, tr12))) := (call_eq ..).trans (by kernel_rfl)

theorem view_Viewer_find_2_eq (name1 : List Int) : view_Viewer_find_2 name1 =
 none := (call_eq ..).trans (by kernel_rfl)

noncomputable def view_Serve_loop6 (b1 : List File) (name3 : List Int) (v8 : Int) : Option ((Int) ⊕ ((Unit) ⊕ ((List Int) × Int))) :=
 (if (decide (v8 < ((b1.length : Nat) : Int))) = true then
 (if 0 ≤ v8 then
 (b1[v8.toNat]?).bind fun e9 =>
 (if (decide (e9.name = name3)) = true then
 (slices_Clone_byte_byte e9.data).bind fun q10 =>
 some (Sum.inr (Sum.inr (q10, 0)))
 else
 let t11 := IntKind.i64.wrap (v8 + 1);
 some (Sum.inl t11))
 else
 none)
 else
 some (Sum.inr (Sum.inl ())))

theorem view_Serve_eq (b1 : List File) (b2 : List Outline) (name3 : List Int) : view_Serve b1 b2 name3 =
 (book_Valid b1 b2).bind fun q4 =>
 (if (!q4) = true then
 some ([], 110)
 else
 (if (decide (name3 = [])) = true then
 (book_Index b1 b2).bind fun q5 =>
 let tr6 := q5.1;
 let tr7 := q5.2;
 some (tr6, tr7)
 else
 (loop (view_Serve_loop6 b1 name3) 0).bind (fun o19 =>
 (Sum.elim (fun (p15 : Unit) =>
 some ([], 5))
 (fun (p16 : (List Int) × Int) =>
 let v17 := p16.1;
 let v18 := p16.2;
 some (v17, v18)) o19)))) := (call_eq ..).trans (by kernel_rfl)

theorem view_New_eq (index1 : List Int) (bound2 : Int) : view_New index1 bound2 =
 (chunk_Get index1).bind fun q3 =>
 let tr4 := q3.1;
 let tr5 := q3.2.1;
 let tr6 := q3.2.2;
 (if (!decide (tr6 = 0)) = true then
 some (Sum.inr tr6)
 else
 ((if (!decide (((tr4.length : Nat) : Int) = 1)) = true then
 some true
 else
 (if 0 ≤ (0 : Int) then
 (tr4[(0 : Int).toNat]?).bind fun e7 =>
 (if (!decide (e7.id = [70, 79, 82, 77])) = true then
 some true
 else
 (if 0 ≤ (0 : Int) then
 (tr4[(0 : Int).toNat]?).bind fun e8 =>
 (if (!decide (e8.kind = [66, 79, 79, 75])) = true then
 some true
 else
 (if 0 ≤ (0 : Int) then
 (tr4[(0 : Int).toNat]?).bind fun e9 =>
 (if (!decide (((e9.kids.length : Nat) : Int) = 1)) = true then
 some true
 else
 (if 0 ≤ (0 : Int) then
 (tr4[(0 : Int).toNat]?).bind fun e10 =>
 (if 0 ≤ (0 : Int) then
 (e10.kids[(0 : Int).toNat]?).bind fun e11 =>
 some (!decide (e11.id = [68, 73, 82, 77]))
 else
 none)
 else
 none))
 else
 none))
 else
 none))
 else
 none)) : Option (Bool)).bind (fun v12 =>
 (if v12 = true then
 some (Sum.inr 3)
 else
 (if 0 ≤ (0 : Int) then
 (tr4[(0 : Int).toNat]?).bind fun e13 =>
 (if 0 ≤ (0 : Int) then
 (e13.kids[(0 : Int).toNat]?).bind fun e14 =>
 (book_GetDirectory e14.data).bind fun q15 =>
 let tr16 := q15.1;
 let tr17 := q15.2.1;
 let tr18 := q15.2.2.1;
 let tr19 := q15.2.2.2;
 (if (!decide (tr18 = 0)) = true then
 some (Sum.inr tr18)
 else
 ((if (decide (bound2 < 0)) = true then
 some true
 else
 some (decide (bound2 > 600000))) : Option (Bool)).bind (fun v20 =>
 (if v20 = true then
 some (Sum.inr 2)
 else
 some (Sum.inl (true, tr16, bound2, tr19, [])))))
 else
 none)
 else
 none)))) := (call_eq ..).trans (by kernel_rfl)

noncomputable def view_Viewer_Pages_2_loop5 (tr11 : List File) (s13 : Int × Int) : Option ((Int × Int) ⊕ (Int)) :=
 let n14 := s13.1;
 let v15 := s13.2;
 (if (decide (v15 < ((tr11.length : Nat) : Int))) = true then
 (if 0 ≤ v15 ∧ v15 < (tr11.length : Int) then
 (tr11[v15.toNat]?).bind fun e16 =>
 (if (decide (e16.kind = 0)) = true then
 let t17 := IntKind.i64.wrap (n14 + 1);
 let t18 := IntKind.i64.wrap (v15 + 1);
 some (Sum.inl (t17, t18))
 else
 let t19 := IntKind.i64.wrap (v15 + 1);
 some (Sum.inl (n14, t19)))
 else
 none)
 else
 some (Sum.inr n14))

theorem view_Viewer_Pages_2_eq (b1 : Bool) (b2 : List Int) (b3 : Int) (b4 : List File) (b5 : List Int) : view_Viewer_Pages_2 b1 b2 b3 b4 b5 =
 (view_Viewer_none_2 b1 b2 b3 b4 b5).bind fun q6 =>
 let tr7 := q6.1;
 let tr8 := q6.2.1;
 let tr9 := q6.2.2.1;
 let tr10 := q6.2.2.2.1;
 let tr11 := q6.2.2.2.2.1;
 let tr12 := q6.2.2.2.2.2;
 (if tr7 = true then
 some (0, tr8, tr9, tr10, tr11, tr12)
 else
 (loop (view_Viewer_Pages_2_loop5 tr11) (0, 0)).bind (fun n23 =>
 some (n23, tr8, tr9, tr10, tr11, tr12))) := (call_eq ..).trans (by kernel_rfl)

noncomputable def view_Viewer_Stored_2_loop5 (tr11 : List File) (tr12 : List Int) (s13 : Int × (List (List Int))) : Option ((Int × (List (List Int))) ⊕ ((List (List Int)))) :=
 let v14 := s13.1;
 let out15 := s13.2;
 (if (decide (v14 < ((tr12.length : Nat) : Int))) = true then
 (if 0 ≤ v14 ∧ v14 < (tr12.length : Int) then
 let t16 : Int := rd tr12 v14;
 (if 0 ≤ t16 ∧ t16 < (tr11.length : Int) then
 (tr11[t16.toNat]?).bind fun e17 =>
 (if (out15.length + ([e17.name] : List (List Int)).length) * 16 ≤ 140737488355328 then
 let t18 : List (List Int) := out15 ++ [e17.name];
 let t19 := IntKind.i64.wrap (v14 + 1);
 some (Sum.inl (t19, t18))
 else
 none)
 else
 none)
 else
 none)
 else
 some (Sum.inr out15))

theorem view_Viewer_Stored_2_eq (b1 : Bool) (b2 : List Int) (b3 : Int) (b4 : List File) (b5 : List Int) : view_Viewer_Stored_2 b1 b2 b3 b4 b5 =
 (view_Viewer_none_2 b1 b2 b3 b4 b5).bind fun q6 =>
 let tr7 := q6.1;
 let tr8 := q6.2.1;
 let tr9 := q6.2.2.1;
 let tr10 := q6.2.2.2.1;
 let tr11 := q6.2.2.2.2.1;
 let tr12 := q6.2.2.2.2.2;
 (if tr7 = true then
 some ([], tr8, tr9, tr10, tr11, tr12)
 else
 (loop (view_Viewer_Stored_2_loop5 tr11 tr12) (0, [])).bind (fun out23 =>
 some (out23, tr8, tr9, tr10, tr11, tr12))) := (call_eq ..).trans (by kernel_rfl)

theorem view_Viewer_page_eq (n1 : Int) : view_Viewer_page n1 =
 none := (call_eq ..).trans (by kernel_rfl)

theorem view_Viewer_all_2_eq (page1 : Int) (b2 : Bool) (b3 : List Int) (b4 : Int) (b5 : List File) (b6 : List Int) : view_Viewer_all_2 page1 b2 b3 b4 b5 b6 =
 (view_Viewer_page_2 page1 b2 b3 b4 b5 b6).bind fun q7 =>
 let tr8 := q7.1;
 let tr9 := q7.2.1;
 let tr10 := q7.2.2.1;
 let tr11 := q7.2.2.2.1;
 let tr12 := q7.2.2.2.2.1;
 let tr13 := q7.2.2.2.2.2;
 (if (decide (tr8 < 0)) = true then
 some ([], 5, tr9, tr10, tr11, tr12, tr13)
 else
 (view_Viewer_has_2 tr8 tr9 tr10 tr11 tr12 tr13).bind fun q14 =>
 let tr15 := q14.1;
 let tr16 := q14.2.1;
 let tr17 := q14.2.2.1;
 let tr18 := q14.2.2.2.1;
 let tr19 := q14.2.2.2.2.1;
 let tr20 := q14.2.2.2.2.2;
 (if (!tr15) = true then
 some ([tr8], 0, tr16, tr17, tr18, tr19, tr20)
 else
 (view_Viewer_book_2 tr16 tr17 tr18 tr19 tr20).bind fun q21 =>
 let tr22 := q21.1;
 let tr23 := q21.2.1;
 let tr24 := q21.2.2.1;
 let tr25 := q21.2.2.2.1;
 let tr26 := q21.2.2.2.2.1;
 let tr27 := q21.2.2.2.2.2.1;
 let tr28 := q21.2.2.2.2.2.2;
 (if 0 ≤ tr8 ∧ tr8 < (tr27.length : Int) then
 (tr27[tr8.toNat]?).bind fun e29 =>
 none
 else
 none))) := (call_eq ..).trans (by kernel_rfl)

theorem view_Viewer_has_2_eq (i1 : Int) (b2 : Bool) (b3 : List Int) (b4 : Int) (b5 : List File) (b6 : List Int) : view_Viewer_has_2 i1 b2 b3 b4 b5 b6 =
 (slices_Contains_int_int b6 i1).bind fun q7 =>
 some (q7, b2, b3, b4, b5, b6) := (call_eq ..).trans (by kernel_rfl)

noncomputable def slices_IndexFunc_api_File_api_File_loop2 (s1 : List File) (s3 : Int × (List Int)) : Option ((Int × (List Int)) ⊕ (((List Int)) ⊕ (Int × (List Int)))) :=
 let v4 := s3.1;
 let b5 := s3.2;
 (if (decide (v4 < ((s1.length : Nat) : Int))) = true then
 (if 0 ≤ v4 then
 (s1[v4.toNat]?).bind fun e6 =>
 (view_Viewer_find_1 e6.name e6.kind e6.data b5).bind fun q7 =>
 let tr8 := q7.1;
 let tr9 := q7.2;
 (if tr8 = true then
 some (Sum.inr (Sum.inr (v4, tr9)))
 else
 let t10 := IntKind.i64.wrap (v4 + 1);
 some (Sum.inl (t10, tr9)))
 else
 none)
 else
 some (Sum.inr (Sum.inl b5)))

theorem slices_IndexFunc_api_File_api_File_eq (s1 : List File) (b2 : List Int) : slices_IndexFunc_api_File_api_File s1 b2 =
 (loop (slices_IndexFunc_api_File_api_File_loop2 s1) (0, b2)).bind (fun o18 =>
 (Sum.elim (fun (b14 : (List Int)) =>
 some ((-1), b14))
 (fun (p15 : Int × (List Int)) =>
 let v16 := p15.1;
 let b17 := p15.2;
 some (v16, b17)) o18)) := (call_eq ..).trans (by kernel_rfl)

noncomputable def slices_DeleteFunc_int_int_loop5 (s7 : Int × Int × (List Int) × Int) : Option ((Int × Int × (List Int) × Int) ⊕ (Int × (List Int) × Int)) :=
 let i8 := s7.1;
 let j9 := s7.2.1;
 let b10 := s7.2.2.1;
 let b11 := s7.2.2.2;
 (if (decide (j9 < ((b10.length : Nat) : Int))) = true then
 (if 0 ≤ j9 ∧ j9 < (b10.length : Int) then
 let t12 : Int := rd b10 j9;
 (view_Viewer_latest_1 t12 b11).bind fun q13 =>
 let tr14 := q13.1;
 let tr15 := q13.2;
 (if (!tr14) = true then
 (if 0 ≤ i8 ∧ i8 < (b10.length : Int) then
 let w16 : List Int := b10.set i8.toNat t12;
 let t17 := IntKind.i64.wrap (i8 + 1);
 let t18 := IntKind.i64.wrap (j9 + 1);
 some (Sum.inl (t17, t18, w16, tr15))
 else
 none)
 else
 let t19 := IntKind.i64.wrap (j9 + 1);
 some (Sum.inl (i8, t19, b10, tr15)))
 else
 none)
 else
 some (Sum.inr (i8, b10, b11)))
theorem slices_DeleteFunc_int_int_eq (b1 : List Int) (b2 : Int) : slices_DeleteFunc_int_int b1 b2 =
 (slices_IndexFunc_int_int b1 b2).bind fun q3 =>
 let tr4 := q3.1;
 let tr5 := q3.2;
 (if (decide (tr4 = (-1))) = true then
 some (b1, tr5)
 else
 let t6 := IntKind.i64.wrap (tr4 + 1);
 (loop (slices_DeleteFunc_int_int_loop5) (tr4, t6, b1, tr5)).bind (fun p20 =>
 let i21 := p20.1;
 let b22 := p20.2.1;
 let b23 := p20.2.2;
 (if 0 ≤ i21 ∧ i21 ≤ ((b22.length : Nat) : Int) then
 none
 else
 none))) := (call_eq ..).trans (by kernel_rfl)

noncomputable def book_Valid_loop4 (b1 : List File) (v5 : Int) : Option ((Int) ⊕ ((Unit) ⊕ (Bool))) :=
 (if (decide (v5 < ((b1.length : Nat) : Int))) = true then
 (if 0 ≤ v5 then
 (b1[v5.toNat]?).bind fun e6 =>
 (book_rightFile e6.name e6.kind e6.data).bind fun q7 =>
 (if (!q7) = true then
 some (Sum.inr (Sum.inr false))
 else
 (if 0 ≤ v5 ∧ v5 ≤ ((b1.length : Nat) : Int) then
 let t8 : List File := cutL b1 0 v5.toNat;
 (book_index t8 e6.name).bind fun q9 =>
 (if (decide (q9 ≥ 0)) = true then
 some (Sum.inr (Sum.inr false))
 else
 let t10 := IntKind.i64.wrap (v5 + 1);
 some (Sum.inl t10))
 else
 none))
 else
 none)
 else
 some (Sum.inr (Sum.inl ())))

theorem book_Valid_eq (b1 : List File) (b2 : List Outline) : book_Valid b1 b2 =
 ((if (decide (((b1.length : Nat) : Int) > 40)) = true then
 some true
 else
 (note_ValidOutlines b2).bind fun q3 =>
 some (!q3)) : Option (Bool)).bind (fun v4 =>
 (if v4 = true then
 some false
 else
 (loop (book_Valid_loop4 b1) 0).bind (fun o16 =>
 (Sum.elim (fun (p14 : Unit) =>
 some true)
 (fun (v15 : Bool) =>
 some v15) o16)))) := (call_eq ..).trans (by kernel_rfl)

theorem book_Index_eq (b1 : List File) (b2 : List Outline) : book_Index b1 b2 =
 (book_put [66, 79, 79, 75] b1 b2 []).bind fun q3 =>
 let tr4 := q3.1;
 let tr5 := q3.2;
 some (tr4, tr5) := (call_eq ..).trans (by kernel_rfl)

theorem chunk_Get_eq (b1 : List Int) : chunk_Get b1 =
 (if (decide (((b1.length : Nat) : Int) > 60000)) = true then
 some ([], 0, 4)
 else
 (chunk_reader_list 0 ((b1.length : Nat) : Int) 1 b1 0 0 0).bind fun q2 =>
 let tr3 := q2.1;
 let tr4 := q2.2.1;
 let tr5 := q2.2.2.1;
 let tr6 := q2.2.2.2.1;
 let tr7 := q2.2.2.2.2;
 (if (!decide (tr6 = 0)) = true then
 some ([], tr7, tr6)
 else
 some (tr3, 0, 0))) := (call_eq ..).trans (by kernel_rfl)

noncomputable def book_GetDirectory_loop10 (tr6 : Int) (s15 : Int × (List Int) × Int × Int × (List File) × (List Int)) : Option ((Int × (List Int) × Int × Int × (List File) × (List Int)) ⊕ ((List Int) × Int × Int × (List File) × (List Int))) :=
 let v16 := s15.1;
 let b17 := s15.2.1;
 let b18 := s15.2.2.1;
 let b19 := s15.2.2.2.1;
 let files20 := s15.2.2.2.2.1;
 let sizes21 := s15.2.2.2.2.2;
 (if (decide (v16 < tr6)) = true then
 (if (!decide (b19 = 0)) = true then
 some (Sum.inr (b17, b18, b19, files20, sizes21))
 else
 (book_cursor_file b17 b18 b19).bind fun q22 =>
 let tr23 := q22.1;
 let tr24 := q22.2.1;
 let tr25 := q22.2.2.1;
 let tr26 := q22.2.2.2.1;
 let tr27 := q22.2.2.2.2.1;
 let tr28 := q22.2.2.2.2.2.1;
 let tr29 := q22.2.2.2.2.2.2;
 (if (files20.length + ([(File.mk tr23 tr24 tr25)] : List File).length) * 48 ≤ 140737488355328 then
 let t30 : List File := files20 ++ [(File.mk tr23 tr24 tr25)];
 (if (sizes21.length + ([tr26] : List Int).length) * 8 ≤ 140737488355328 then
 let t31 : List Int := sizes21 ++ [tr26];
 let t32 := IntKind.i64.wrap (v16 + 1);
 some (Sum.inl (t32, tr27, tr28, tr29, t30, t31))
 else
 none)
 else
 none))
 else
 some (Sum.inr (b17, b18, b19, files20, sizes21)))

noncomputable def book_GetDirectory_loop21 (files45 : List File) (v51 : Int) : Option ((Int) ⊕ ((Unit) ⊕ ((List Int) × (List Outline) × Int × (List File)))) :=
 (if (decide (v51 < ((files45.length : Nat) : Int))) = true then
 (if 0 ≤ v51 ∧ v51 < (files45.length : Int) then
 (files45[v51.toNat]?).bind fun e52 =>
 (if 0 ≤ v51 ∧ v51 ≤ ((files45.length : Nat) : Int) then
 (book_index ((files45.drop 0).take (v51.toNat - 0)) e52.name).bind fun q53 =>
 (if (decide (q53 ≥ 0)) = true then
 some (Sum.inr (Sum.inr ([], [], 8, [])))
 else
 let t54 := IntKind.i64.wrap (v51 + 1);
 some (Sum.inl t54))
 else
 none)
 else
 none)
 else
 some (Sum.inr (Sum.inl ())))

theorem book_GetDirectory_eq (d1 : List Int) : book_GetDirectory d1 =
 (sort_Unpack d1).bind fun q2 =>
 let tr3 := q2.1;
 let tr4 := q2.2;
 (if (!decide (tr4 = 0)) = true then
 some ([], [], tr4, [])
 else
 (book_cursor_size tr3 0 0).bind fun q5 =>
 let tr6 := q5.1;
 let tr7 := q5.2.1;
 let tr8 := q5.2.2.1;
 let tr9 := q5.2.2.2;
 (book_cursor_check (decide (tr6 ≤ 40)) 4 tr7 tr8 tr9).bind fun q10 =>
 let tr11 := q10.1;
 let tr12 := q10.2.1;
 let tr13 := q10.2.2.1;
 let tr14 := q10.2.2.2;
 (loop (book_GetDirectory_loop10 tr6) (0, tr12, tr13, tr14, [], [])).bind (fun p41 =>
 let b42 := p41.1;
 let b43 := p41.2.1;
 let b44 := p41.2.2.1;
 let files45 := p41.2.2.2.1;
 let sizes46 := p41.2.2.2.2;
 (if (!decide (b44 = 0)) = true then
 some ([], [], b44, [])
 else
 (if 0 ≤ b43 ∧ b43 ≤ ((tr3.length : Nat) : Int) then
 let t47 : List Int := cutL tr3 b43.toNat tr3.length;
 (note_GetOutlines t47).bind fun q48 =>
 let tr49 := q48.1;
 let tr50 := q48.2;
 (if (!decide (tr50 = 0)) = true then
 some ([], [], tr50, [])
 else
 (loop (book_GetDirectory_loop21 files45) 0).bind (fun o64 =>
 (Sum.elim (fun (p58 : Unit) =>
 some (sizes46, tr49, 0, files45))
 (fun (p59 : (List Int) × (List Outline) × Int × (List File)) =>
 let v60 := p59.1;
 let v61 := p59.2.1;
 let v62 := p59.2.2.1;
 let b63 := p59.2.2.2;
 some (v60, v61, v62, b63)) o64)))
 else
 none)))) := (call_eq ..).trans (by kernel_rfl)

noncomputable def view_Viewer_page_2_loop2 (b5 : List File) (s7 : Int × Int) : Option ((Int × Int) ⊕ ((Unit) ⊕ (Int))) :=
 let n8 := s7.1;
 let v9 := s7.2;
 (if (decide (v9 < ((b5.length : Nat) : Int))) = true then
 (if 0 ≤ v9 ∧ v9 < (b5.length : Int) then
 (b5[v9.toNat]?).bind fun e10 =>
 (if (decide (e10.kind = 0)) = true then
 let t11 := IntKind.i64.wrap (n8 - 1);
 (if (decide (t11 = 0)) = true then
 some (Sum.inr (Sum.inr v9))
 else
 let t12 := IntKind.i64.wrap (v9 + 1);
 some (Sum.inl (t11, t12)))
 else
 let t13 := IntKind.i64.wrap (v9 + 1);
 some (Sum.inl (n8, t13)))
 else
 none)
 else
 some (Sum.inr (Sum.inl ())))

theorem view_Viewer_page_2_eq (n1 : Int) (b2 : Bool) (b3 : List Int) (b4 : Int) (b5 : List File) (b6 : List Int) : view_Viewer_page_2 n1 b2 b3 b4 b5 b6 =
 (loop (view_Viewer_page_2_loop2 b5) (n1, 0)).bind (fun o19 =>
 (Sum.elim (fun (p17 : Unit) =>
 some ((-1), b2, b3, b4, b5, b6))
 (fun (v18 : Int) =>
 some (v18, b2, b3, b4, b5, b6)) o19)) := (call_eq ..).trans (by kernel_rfl)

theorem slices_Contains_int_int_eq (s1 : List Int) (v2 : Int) : slices_Contains_int_int s1 v2 =
 (slices_Index_int_int s1 v2).bind fun q3 =>
 some (decide (q3 ≥ 0)) := (call_eq ..).trans (by kernel_rfl)

theorem view_Viewer_find_1_eq (f1 : List Int) (f2 : Int) (f3 b4 : List Int) : view_Viewer_find_1 f1 f2 f3 b4 =
 some (decide (f1 = b4), b4) := (call_eq ..).trans (by kernel_rfl)

noncomputable def slices_IndexFunc_int_int_loop2 (s1 : List Int) (s3 : Int × Int) : Option ((Int × Int) ⊕ ((Int) ⊕ (Int × Int))) :=
 let v4 := s3.1;
 let b5 := s3.2;
 (if (decide (v4 < ((s1.length : Nat) : Int))) = true then
 (if 0 ≤ v4 ∧ v4 < (s1.length : Int) then
 (view_Viewer_latest_1 (rd s1 v4) b5).bind fun q6 =>
 let tr7 := q6.1;
 let tr8 := q6.2;
 (if tr7 = true then
 some (Sum.inr (Sum.inr (v4, tr8)))
 else
 let t9 := IntKind.i64.wrap (v4 + 1);
 some (Sum.inl (t9, tr8)))
 else
 none)
 else
 some (Sum.inr (Sum.inl b5)))
noncomputable def slices_IndexFunc_int_int_loop2_step (i10 : Nat) (x11 s12 : Int) : Option ((Int) ⊕ ((Int) ⊕ (Int × Int))) :=
 (view_Viewer_latest_1 (x11) s12).bind fun q6 =>
 let tr7 := q6.1;
 let tr8 := q6.2;
 (if tr7 = true then
 some (Sum.inr (Sum.inr (((i10 : Nat) : Int), tr8)))
 else
 some (Sum.inl (tr8)))
theorem slices_IndexFunc_int_int_loop2_over (s1 : List Int) (hl : s1.length ≤ 9223372036854775807) (s12 : Int) : loop (slices_IndexFunc_int_int_loop2 s1) ((0, s12) : Int × Int) =
    overL (slices_IndexFunc_int_int_loop2_step) (fun (s12 : Int) => some (Sum.inl s12)) 0 s1 s12 := by
  refine loop_over s1 (fun n (s : Int) => ((((n : Nat) : Int), s) : Int × Int)) _ _ (fun s => ?_) (fun i x s h => ?_) 0 s12 (Nat.zero_le _)
  · unfold slices_IndexFunc_int_int_loop2; simp
  · have hlt := lt_len_of_get h
    have h1 : ((i : Nat) : Int) < ((s1.length : Nat) : Int) := by omega
    have h0 : (0 : Int) ≤ ((i : Nat) : Int) := by omega
    have hw : IntKind.i64.wrap (((i : Nat) : Int) + 1) = (((i + 1 : Nat) : Nat) : Int) := w64 (by omega)
    have hr : rd s1 ((i : Nat) : Int) = x := rd_nat h
    unfold slices_IndexFunc_int_int_loop2 slices_IndexFunc_int_int_loop2_step
    simp only [h1, h0, hw, h, hr, decide_true, if_true, and_self, true_and, Int.toNat_natCast, Option.bind_some, Option.map_bind, Function.comp_def, map_ite, map_elim, Option.map_some, Option.map_none]

theorem slices_IndexFunc_int_int_eq (s1 : List Int) (b2 : Int) : slices_IndexFunc_int_int s1 b2 =
 (loop (slices_IndexFunc_int_int_loop2 s1) (0, b2)).bind (fun o17 =>
 (Sum.elim (fun (b13 : Int) =>
 some ((-1), b13))
 (fun (p14 : Int × Int) =>
 let v15 := p14.1;
 let b16 := p14.2;
 some (v15, b16)) o17)) := (call_eq ..).trans (by kernel_rfl)

theorem view_Viewer_latest_1_eq (k1 b2 : Int) : view_Viewer_latest_1 k1 b2 =
 some (decide (k1 = b2), b2) := (call_eq ..).trans (by kernel_rfl)

theorem note_ValidOutlines_eq (l1 : List Outline) : note_ValidOutlines l1 =
 (note_looks_outlines l1 1 0).bind fun q2 =>
 let tr3 := q2.1;
 let tr4 := q2.2;
 some tr3 := (call_eq ..).trans (by kernel_rfl)

theorem book_rightFile_eq (f1 : List Int) (f2 : Int) (f3 : List Int) : book_rightFile f1 f2 f3 =
 (book_isName f1).bind fun q4 =>
 (if q4 = true then
 (if (decide (f2 ≥ 0)) = true then
 (if (decide (f2 ≤ 2)) = true then
 some (decide (((f3.length : Nat) : Int) ≤ 60000))
 else
 some false)
 else
 some false)
 else
 some false) := (call_eq ..).trans (by kernel_rfl)

theorem book_index_eq (l1 : List File) (name2 : List Int) : book_index l1 name2 =
 (slices_IndexFunc_api_File_api_File_2 l1 name2).bind fun q3 =>
 let tr4 := q3.1;
 let tr5 := q3.2;
 some tr4 := (call_eq ..).trans (by kernel_rfl)

noncomputable def book_put_loop6 (files4 : List File) (s8 : Int × (List Chunk) × (List Int) × (List Int) × (List Int)) : Option ((Int × (List Chunk) × (List Int) × (List Int) × (List Int)) ⊕ ((List Chunk) × (List Int) × (List Int) × (List Int))) :=
 let v9 := s8.1;
 let b10 := s8.2.1;
 let b11 := s8.2.2.1;
 let b12 := s8.2.2.2.1;
 let b13 := s8.2.2.2.2;
 (if (decide (v9 < ((files4.length : Nat) : Int))) = true then
 (if 0 ≤ v9 then
 (files4[v9.toNat]?).bind fun e14 =>
 (book_one e14.name e14.kind e14.data).bind fun q15 =>
 let tr16 := q15.1;
 let tr17 := q15.2.1;
 let tr18 := q15.2.2.1;
 let tr19 := q15.2.2.2;
 (if (b10.length + ([(Chunk.mk tr16 tr17 tr18 tr19)] : List Chunk).length) * 80 ≤ 140737488355328 then
 let t20 : List Chunk := b10 ++ [(Chunk.mk tr16 tr17 tr18 tr19)];
 let t21 := IntKind.i64.wrap (v9 + 1);
 some (Sum.inl (t21, t20, b11, b12, b13))
 else
 none)
 else
 none)
 else
 some (Sum.inr (b10, b11, b12, b13)))

theorem book_put_eq (kind1 : List Int) (b2 : List File) (b3 : List Outline) (files4 : List File) : book_put kind1 b2 b3 files4 =
 (book_Directory b2 b3).bind fun q5 =>
 let tr6 := q5.1;
 let tr7 := q5.2;
 (if (!decide (tr7 = 0)) = true then
 some ([], tr7)
 else
 (loop (book_put_loop6 files4) (0, [(Chunk.mk [68, 73, 82, 77] [] tr6 [])], [70, 79, 82, 77], kind1, [])).bind (fun p29 =>
 let b30 := p29.1;
 let b31 := p29.2.1;
 let b32 := p29.2.2.1;
 let b33 := p29.2.2.2;
 (chunk_Put [(Chunk.mk b31 b32 b33 b30)]).bind fun q34 =>
 let tr35 := q34.1;
 let tr36 := q34.2;
 (if (!decide (tr36 = 0)) = true then
 some ([], 4)
 else
 some (tr35, 0)))) := (call_eq ..).trans (by kernel_rfl)

noncomputable def chunk_reader_list_loop2 (end2 depth3 : Int) (s8 : Int × (List Int) × Int × Int × Int × (List Chunk)) : Option ((Int × (List Int) × Int × Int × Int × (List Chunk)) ⊕ ((List Int) × Int × Int × Int × (List Chunk))) :=
 let at9 := s8.1;
 let b10 := s8.2.1;
 let b11 := s8.2.2.1;
 let b12 := s8.2.2.2.1;
 let b13 := s8.2.2.2.2.1;
 let out14 := s8.2.2.2.2.2;
 ((if (decide (at9 < end2)) = true then
 some (decide (b12 = 0))
 else
 some false) : Option (Bool)).bind (fun v15 =>
 (if v15 = true then
 (chunk_reader_chunk at9 end2 depth3 b10 b11 b12 b13).bind fun q16 =>
 let tr17 := q16.1;
 let tr18 := q16.2.1;
 let tr19 := q16.2.2.1;
 let tr20 := q16.2.2.2.1;
 let tr21 := q16.2.2.2.2.1;
 let tr22 := q16.2.2.2.2.2.1;
 let tr23 := q16.2.2.2.2.2.2.1;
 let tr24 := q16.2.2.2.2.2.2.2.1;
 let tr25 := q16.2.2.2.2.2.2.2.2;
 (if (out14.length + ([(Chunk.mk tr17 tr18 tr19 tr20)] : List Chunk).length) * 80 ≤ 140737488355328 then
 let t26 : List Chunk := out14 ++ [(Chunk.mk tr17 tr18 tr19 tr20)];
 some (Sum.inl (tr21, tr22, tr23, tr24, tr25, t26))
 else
 none)
 else
 some (Sum.inr (b10, b11, b12, b13, out14))))
theorem chunk_reader_list_eq (at1 end2 depth3 : Int) (b4 : List Int) (b5 b6 b7 : Int) : chunk_reader_list at1 end2 depth3 b4 b5 b6 b7 =
 (loop (chunk_reader_list_loop2 end2 depth3) (at1, b4, b5, b6, b7, [])).bind (fun p27 =>
 let b28 := p27.1;
 let b29 := p27.2.1;
 let b30 := p27.2.2.1;
 let b31 := p27.2.2.2.1;
 let out32 := p27.2.2.2.2;
 some (out32, b28, b29, b30, b31)) := (call_eq ..).trans (by kernel_rfl)

noncomputable def sort_Unpack_loop15 (t44 : Int) (s45 : Int × Int × Int × Int × Int × (List Int) × Int × Int × Int × Bool × (List Int) × (List Int)) : Option ((Int × Int × Int × Int × Int × (List Int) × Int × Int × Int × Bool × (List Int) × (List Int)) ⊕ ((Int × Int × Int × (List Int) × Int × Int × Int × Bool × (List Int) × (List Int)) ⊕ ((List Int) × Int × Int × Int × Int × (List Int) × Int × Int × Int × Bool × (List Int)))) :=
 let last46 := s45.1;
 let v47 := s45.2.1;
 let b48 := s45.2.2.1;
 let b49 := s45.2.2.2.1;
 let b50 := s45.2.2.2.2.1;
 let b51 := s45.2.2.2.2.2.1;
 let b52 := s45.2.2.2.2.2.2.1;
 let b53 := s45.2.2.2.2.2.2.2.1;
 let b54 := s45.2.2.2.2.2.2.2.2.1;
 let b55 := s45.2.2.2.2.2.2.2.2.2.1;
 let b56 := s45.2.2.2.2.2.2.2.2.2.2.1;
 let places57 := s45.2.2.2.2.2.2.2.2.2.2.2;
 (if (decide (v47 < t44)) = true then
 (sort_base last46).bind fun q58 =>
 (number_Get q58 b48 b49 b50 b51 b52 b53 b54 b55 b56).bind fun q59 =>
 let tr60 := q59.1;
 let tr61 := q59.2.1;
 let tr62 := q59.2.2.1;
 let tr63 := q59.2.2.2.1;
 let tr64 := q59.2.2.2.2.1;
 let tr65 := q59.2.2.2.2.2.1;
 let tr66 := q59.2.2.2.2.2.2.1;
 let tr67 := q59.2.2.2.2.2.2.2.1;
 let tr68 := q59.2.2.2.2.2.2.2.2.1;
 let tr69 := q59.2.2.2.2.2.2.2.2.2.1;
 let tr70 := q59.2.2.2.2.2.2.2.2.2.2.1;
 let tr71 := q59.2.2.2.2.2.2.2.2.2.2.2;
 (if (!decide (tr62 = 0)) = true then
 some (Sum.inr (Sum.inr ([], tr62, tr63, tr64, tr65, tr66, tr67, tr68, tr69, tr70, tr71)))
 else
 ((if tr60 = true then
 some true
 else
 (if (decide (tr61 < 0)) = true then
 some true
 else
 some (decide (tr61 ≥ 257)))) : Option (Bool)).bind (fun v72 =>
 (if v72 = true then
 some (Sum.inr (Sum.inr ([], 3, tr63, tr64, tr65, tr66, tr67, tr68, tr69, tr70, tr71)))
 else
 (if (places57.length + ([tr61] : List Int).length) * 8 ≤ 140737488355328 then
 let t73 : List Int := places57 ++ [tr61];
 let t74 := IntKind.i64.wrap (v47 + 1);
 some (Sum.inl (tr61, t74, tr63, tr64, tr65, tr66, tr67, tr68, tr69, tr70, tr71, t73))
 else
 none))))
 else
 some (Sum.inr (Sum.inl (b48, b49, b50, b51, b52, b53, b54, b55, b56, places57))))

theorem sort_Unpack_eq (b1 : List Int) : sort_Unpack b1 =
 (bits_GetSize b1 0).bind fun q2 =>
 let tr3 := q2.1;
 let tr4 := q2.2.1;
 let tr5 := q2.2.2;
 ((if (!decide (tr5 = 0)) = true then
 some (Sum.inr ([], tr5))
 else
 ((if (decide (tr3 > 4000)) = true then
 some (Sum.inr ([], 4))
 else
 ((if (decide (tr3 = 0)) = true then
 some (decide (tr4 < ((b1.length : Nat) : Int)))
 else
 some false) : Option (Bool)).bind (fun v6 =>
 (if v6 = true then
 some (Sum.inr ([], 3))
 else
 (if (decide (tr3 = 0)) = true then
 some (Sum.inr ([], 0))
 else
 some (Sum.inl ()))))) : Option ((Unit) ⊕ ((List Int) × Int))).bind (fun o11 =>
 (Sum.elim (fun (p7 : Unit) =>
 some (Sum.inl ()))
 (fun (p8 : (List Int) × Int) =>
 let v9 := p8.1;
 let v10 := p8.2;
 some (Sum.inr (v9, v10))) o11))) : Option ((Unit) ⊕ ((List Int) × Int))).bind (fun o16 =>
 (Sum.elim (fun (p12 : Unit) =>
 (coder_New 0 144).bind fun q17 =>
 let tr18 := q17.1;
 let tr19 := q17.2.1;
 let tr20 := q17.2.2;
 ((if 0 ≤ tr4 ∧ tr4 ≤ ((b1.length : Nat) : Int) then
 let t21 : List Int := cutL b1 tr4.toNat b1.length;
 (coder_NewDecoder tr18 tr20 t21).bind fun o33 =>
 (Sum.elim (fun (q22 : Int × Int × Int × (List Int) × Int × Int × Int × Bool × (List Int)) =>
 let tr23 := q22.1;
 let tr24 := q22.2.1;
 let tr25 := q22.2.2.1;
 let tr26 := q22.2.2.2.1;
 let tr27 := q22.2.2.2.2.1;
 let tr28 := q22.2.2.2.2.2.1;
 let tr29 := q22.2.2.2.2.2.2.1;
 let tr30 := q22.2.2.2.2.2.2.2.1;
 let tr31 := q22.2.2.2.2.2.2.2.2;
 some (tr23, tr24, tr25, tr26, tr27, tr28, tr29, tr30, tr31))
 (fun (q32 : Unit) =>
 none) o33)
 else
 none) : Option (Int × Int × Int × (List Int) × Int × Int × Int × Bool × (List Int))).bind (fun p34 =>
 let b35 := p34.1;
 let b36 := p34.2.1;
 let b37 := p34.2.2.1;
 let b38 := p34.2.2.2.1;
 let b39 := p34.2.2.2.2.1;
 let b40 := p34.2.2.2.2.2.1;
 let b41 := p34.2.2.2.2.2.2.1;
 let b42 := p34.2.2.2.2.2.2.2.1;
 let b43 := p34.2.2.2.2.2.2.2.2;
 let t44 := IntKind.i64.wrap (tr3 + 1);
 (loop (sort_Unpack_loop15 t44) (0, 0, b35, b36, b37, b38, b39, b40, b41, b42, b43, [])).bind (fun o112 =>
 (Sum.elim (fun (p89 : Int × Int × Int × (List Int) × Int × Int × Int × Bool × (List Int) × (List Int)) =>
 let b90 := p89.1;
 let b91 := p89.2.1;
 let b92 := p89.2.2.1;
 let b93 := p89.2.2.2.1;
 let b94 := p89.2.2.2.2.1;
 let b95 := p89.2.2.2.2.2.1;
 let b96 := p89.2.2.2.2.2.2.1;
 let b97 := p89.2.2.2.2.2.2.2.1;
 let b98 := p89.2.2.2.2.2.2.2.2.1;
 let places99 := p89.2.2.2.2.2.2.2.2.2;
 (sort_Unfront places99).bind fun q113 =>
 let tr114 := q113.1;
 let tr115 := q113.2;
 (sort_uncolumn tr114).bind fun q116 =>
 let tr117 := q116.1;
 let tr118 := q116.2;
 some (tr117, tr118))
 (fun (p100 : (List Int) × Int × Int × Int × Int × (List Int) × Int × Int × Int × Bool × (List Int)) =>
 let v101 := p100.1;
 let v102 := p100.2.1;
 let b103 := p100.2.2.1;
 let b104 := p100.2.2.2.1;
 let b105 := p100.2.2.2.2.1;
 let b106 := p100.2.2.2.2.2.1;
 let b107 := p100.2.2.2.2.2.2.1;
 let b108 := p100.2.2.2.2.2.2.2.1;
 let b109 := p100.2.2.2.2.2.2.2.2.1;
 let b110 := p100.2.2.2.2.2.2.2.2.2.1;
 let b111 := p100.2.2.2.2.2.2.2.2.2.2;
 some (v101, v102)) o112))))
 (fun (p13 : (List Int) × Int) =>
 let v14 := p13.1;
 let v15 := p13.2;
 some (v14, v15)) o16)) := (call_eq ..).trans (by kernel_rfl)

theorem book_cursor_size_eq (b1 : List Int) (b2 b3 : Int) : book_cursor_size b1 b2 b3 =
 (if (!decide (b3 = 0)) = true then
 some (0, b1, b2, b3)
 else
 (bits_GetSize b1 b2).bind fun q4 =>
 let tr5 := q4.1;
 let tr6 := q4.2.1;
 let tr7 := q4.2.2;
 (book_cursor_check (decide (tr7 = 0)) tr7 b1 b2 b3).bind fun q8 =>
 let tr9 := q8.1;
 let tr10 := q8.2.1;
 let tr11 := q8.2.2.1;
 let tr12 := q8.2.2.2;
 (if tr9 = true then
 some (tr5, tr10, tr6, tr12)
 else
 some (tr5, tr10, tr11, tr12))) := (call_eq ..).trans (by kernel_rfl)

theorem book_cursor_check_eq (ok1 : Bool) (err2 : Int) (b3 : List Int) (b4 b5 : Int) : book_cursor_check ok1 err2 b3 b4 b5 =
 ((if (decide (b5 = 0)) = true then
 some (!ok1)
 else
 some false) : Option (Bool)).bind (fun v6 =>
 (if v6 = true then
 some (decide (err2 = 0), b3, b4, err2)
 else
 some (decide (b5 = 0), b3, b4, b5))) := (call_eq ..).trans (by kernel_rfl)

theorem book_cursor_file_eq (b1 : List Int) (b2 b3 : Int) : book_cursor_file b1 b2 b3 =
 (book_cursor_take 1 b1 b2 b3).bind fun q4 =>
 let tr5 := q4.1;
 let tr6 := q4.2.1;
 let tr7 := q4.2.2.1;
 let tr8 := q4.2.2.2;
 ((if (decide (((tr5.length : Nat) : Int) = 1)) = true then
 (if 0 ≤ (0 : Int) ∧ (0 : Int) < (tr5.length : Int) then
 (book_cursor_check (decide (rd tr5 0 ≤ 2)) 3 tr6 tr7 tr8).bind fun q9 =>
 let tr10 := q9.1;
 let tr11 := q9.2.1;
 let tr12 := q9.2.2.1;
 let tr13 := q9.2.2.2;
 some (!tr10, tr11, tr12, tr13)
 else
 none)
 else
 (book_cursor_check false 3 tr6 tr7 tr8).bind fun q14 =>
 let tr15 := q14.1;
 let tr16 := q14.2.1;
 let tr17 := q14.2.2.1;
 let tr18 := q14.2.2.2;
 some (!tr15, tr16, tr17, tr18)) : Option (Bool × (List Int) × Int × Int)).bind (fun p19 =>
 let v20 := p19.1;
 let b21 := p19.2.1;
 let b22 := p19.2.2.1;
 let b23 := p19.2.2.2;
 (if v20 = true then
 some ([], 0, [], 0, b21, b22, b23)
 else
 (if 0 ≤ (0 : Int) ∧ (0 : Int) < (tr5.length : Int) then
 let t24 := IntKind.i64.wrap (rd tr5 0);
 (book_cursor_name b21 b22 b23).bind fun q25 =>
 let tr26 := q25.1;
 let tr27 := q25.2.1;
 let tr28 := q25.2.2.1;
 let tr29 := q25.2.2.2;
 (book_cursor_size tr27 tr28 tr29).bind fun q30 =>
 let tr31 := q30.1;
 let tr32 := q30.2.1;
 let tr33 := q30.2.2.1;
 let tr34 := q30.2.2.2;
 some (tr26, t24, [], tr31, tr32, tr33, tr34)
 else
 none))) := (call_eq ..).trans (by kernel_rfl)

theorem note_GetOutlines_eq (b1 : List Int) : note_GetOutlines b1 =
 (note_reader_list 1 b1 0 0 0).bind fun q2 =>
 let tr3 := q2.1;
 let tr4 := q2.2.1;
 let tr5 := q2.2.2.1;
 let tr6 := q2.2.2.2.1;
 let tr7 := q2.2.2.2.2;
 (if (!decide (tr7 = 0)) = true then
 some ([], tr7)
 else
 (if (decide (tr5 < ((b1.length : Nat) : Int))) = true then
 some ([], 3)
 else
 some (tr3, 0))) := (call_eq ..).trans (by kernel_rfl)

noncomputable def slices_Index_int_int_loop2 (s1 : List Int) (v2 v3 : Int) : Option ((Int) ⊕ ((Unit) ⊕ (Int))) :=
 (if (decide (v3 < ((s1.length : Nat) : Int))) = true then
 (if 0 ≤ v3 ∧ v3 < (s1.length : Int) then
 (if (decide (v2 = rd s1 v3)) = true then
 some (Sum.inr (Sum.inr v3))
 else
 let t4 := IntKind.i64.wrap (v3 + 1);
 some (Sum.inl t4))
 else
 none)
 else
 some (Sum.inr (Sum.inl ())))
noncomputable def slices_Index_int_int_loop2_step (v2 : Int) (i5 : Nat) (x6 : Int) (s7 : Unit) : Option ((Unit) ⊕ ((Unit) ⊕ (Int))) :=
 (if (decide (v2 = x6)) = true then
 some (Sum.inr (Sum.inr ((i5 : Nat) : Int)))
 else
 some (Sum.inl (())))
theorem slices_Index_int_int_loop2_over (s1 : List Int) (v2 : Int) (hl : s1.length ≤ 9223372036854775807) (s7 : Unit) : loop (slices_Index_int_int_loop2 s1 v2) (0 : Int) =
    overL (slices_Index_int_int_loop2_step v2) (fun (s7 : Unit) => some (Sum.inl ())) 0 s1 s7 := by
  refine loop_over s1 (fun n (s : Unit) => (((n : Nat) : Int) : Int)) _ _ (fun s => ?_) (fun i x s h => ?_) 0 s7 (Nat.zero_le _)
  · unfold slices_Index_int_int_loop2; simp
  · have hlt := lt_len_of_get h
    have h1 : ((i : Nat) : Int) < ((s1.length : Nat) : Int) := by omega
    have h0 : (0 : Int) ≤ ((i : Nat) : Int) := by omega
    have hw : IntKind.i64.wrap (((i : Nat) : Int) + 1) = (((i + 1 : Nat) : Nat) : Int) := w64 (by omega)
    have hr : rd s1 ((i : Nat) : Int) = x := rd_nat h
    unfold slices_Index_int_int_loop2 slices_Index_int_int_loop2_step
    simp only [h1, h0, hw, h, hr, decide_true, if_true, and_self, true_and, Int.toNat_natCast, Option.bind_some, Option.map_bind, Function.comp_def, map_ite, map_elim, Option.map_some, Option.map_none]

theorem slices_Index_int_int_eq (s1 : List Int) (v2 : Int) : slices_Index_int_int s1 v2 =
 (loop (slices_Index_int_int_loop2 s1 v2) 0).bind (fun o10 =>
 (Sum.elim (fun (p8 : Unit) =>
 some (-1))
 (fun (v9 : Int) =>
 some v9) o10)) := (call_eq ..).trans (by kernel_rfl)

noncomputable def note_looks_outlines_loop2 (l1 : List Outline) (depth2 : Int) (s4 : Int × Int) : Option ((Int × Int) ⊕ ((Int) ⊕ (Bool × Int))) :=
 let v5 := s4.1;
 let b6 := s4.2;
 (if (decide (v5 < ((l1.length : Nat) : Int))) = true then
 (if 0 ≤ v5 then
 (l1[v5.toNat]?).bind fun e7 =>
 let t8 := IntKind.i64.wrap (b6 + 1);
 (if (decide (t8 > 400)) = true then
 some (Sum.inr (Sum.inr (false, t8)))
 else
 (if (decide (depth2 > 20)) = true then
 some (Sum.inr (Sum.inr (false, t8)))
 else
 (if (decide (((e7.title.length : Nat) : Int) > 200)) = true then
 some (Sum.inr (Sum.inr (false, t8)))
 else
 (if (decide (e7.page < 1)) = true then
 some (Sum.inr (Sum.inr (false, t8)))
 else
 (if (decide (e7.page > 1000)) = true then
 some (Sum.inr (Sum.inr (false, t8)))
 else
 let t9 := IntKind.i64.wrap (depth2 + 1);
 (note_looks_outlines e7.kids t9 t8).bind fun q10 =>
 let tr11 := q10.1;
 let tr12 := q10.2;
 (if (!tr11) = true then
 some (Sum.inr (Sum.inr (false, tr12)))
 else
 let t13 := IntKind.i64.wrap (v5 + 1);
 some (Sum.inl (t13, tr12))))))))
 else
 none)
 else
 some (Sum.inr (Sum.inl b6)))

theorem note_looks_outlines_eq (l1 : List Outline) (depth2 b3 : Int) : note_looks_outlines l1 depth2 b3 =
 (loop (note_looks_outlines_loop2 l1 depth2) (0, b3)).bind (fun o21 =>
 (Sum.elim (fun (b17 : Int) =>
 some (true, b17))
 (fun (p18 : Bool × Int) =>
 let v19 := p18.1;
 let b20 := p18.2;
 some (v19, b20)) o21)) := (call_eq ..).trans (by kernel_rfl)

noncomputable def book_isName_loop2 (s1 : List Int) (v2 : Int) : Option ((Int) ⊕ ((Unit) ⊕ (Bool))) :=
 (if (decide (v2 < ((s1.length : Nat) : Int))) = true then
 (if 0 ≤ v2 ∧ v2 < ((s1).length : Int) then
 let t3 : Int := rd s1 v2;
 (if (decide (t3 < 97)) = true then
 (if (decide (t3 < 48)) = true then
 (if (!decide (t3 = 46)) = true then
 (if (!decide (t3 = 45)) = true then
 some (Sum.inr (Sum.inr false))
 else
 let t4 := IntKind.i64.wrap (v2 + 1);
 some (Sum.inl t4))
 else
 let t5 := IntKind.i64.wrap (v2 + 1);
 some (Sum.inl t5))
 else
 (if (decide (t3 > 57)) = true then
 (if (!decide (t3 = 46)) = true then
 (if (!decide (t3 = 45)) = true then
 some (Sum.inr (Sum.inr false))
 else
 let t6 := IntKind.i64.wrap (v2 + 1);
 some (Sum.inl t6))
 else
 let t7 := IntKind.i64.wrap (v2 + 1);
 some (Sum.inl t7))
 else
 let t8 := IntKind.i64.wrap (v2 + 1);
 some (Sum.inl t8)))
 else
 (if (decide (t3 > 122)) = true then
 (if (decide (t3 < 48)) = true then
 (if (!decide (t3 = 46)) = true then
 (if (!decide (t3 = 45)) = true then
 some (Sum.inr (Sum.inr false))
 else
 let t9 := IntKind.i64.wrap (v2 + 1);
 some (Sum.inl t9))
 else
 let t10 := IntKind.i64.wrap (v2 + 1);
 some (Sum.inl t10))
 else
 (if (decide (t3 > 57)) = true then
 (if (!decide (t3 = 46)) = true then
 (if (!decide (t3 = 45)) = true then
 some (Sum.inr (Sum.inr false))
 else
 let t11 := IntKind.i64.wrap (v2 + 1);
 some (Sum.inl t11))
 else
 let t12 := IntKind.i64.wrap (v2 + 1);
 some (Sum.inl t12))
 else
 let t13 := IntKind.i64.wrap (v2 + 1);
 some (Sum.inl t13)))
 else
 let t14 := IntKind.i64.wrap (v2 + 1);
 some (Sum.inl t14)))
 else
 none)
 else
 some (Sum.inr (Sum.inl ())))

theorem book_isName_eq (s1 : List Int) : book_isName s1 =
 (loop (book_isName_loop2 s1) 0).bind (fun o20 =>
 (Sum.elim (fun (p18 : Unit) =>
 (if (decide (((s1.length : Nat) : Int) ≥ 1)) = true then
 some (decide (((s1.length : Nat) : Int) ≤ 20))
 else
 some false))
 (fun (v19 : Bool) =>
 some v19) o20)) := (call_eq ..).trans (by kernel_rfl)

noncomputable def slices_IndexFunc_api_File_api_File_2_loop2 (s1 : List File) (s3 : Int × (List Int)) : Option ((Int × (List Int)) ⊕ (((List Int)) ⊕ (Int × (List Int)))) :=
 let v4 := s3.1;
 let b5 := s3.2;
 (if (decide (v4 < ((s1.length : Nat) : Int))) = true then
 (if 0 ≤ v4 then
 (s1[v4.toNat]?).bind fun e6 =>
 (book_index_1 e6.name e6.kind e6.data b5).bind fun q7 =>
 let tr8 := q7.1;
 let tr9 := q7.2;
 (if tr8 = true then
 some (Sum.inr (Sum.inr (v4, tr9)))
 else
 let t10 := IntKind.i64.wrap (v4 + 1);
 some (Sum.inl (t10, tr9)))
 else
 none)
 else
 some (Sum.inr (Sum.inl b5)))

theorem slices_IndexFunc_api_File_api_File_2_eq (s1 : List File) (b2 : List Int) : slices_IndexFunc_api_File_api_File_2 s1 b2 =
 (loop (slices_IndexFunc_api_File_api_File_2_loop2 s1) (0, b2)).bind (fun o18 =>
 (Sum.elim (fun (b14 : (List Int)) =>
 some ((-1), b14))
 (fun (p15 : Int × (List Int)) =>
 let v16 := p15.1;
 let b17 := p15.2;
 some (v16, b17)) o18)) := (call_eq ..).trans (by kernel_rfl)

noncomputable def book_Directory_loop5 (b1 : List File) (s5 : Int × (List Int)) : Option ((Int × (List Int)) ⊕ ((List Int))) :=
 let v6 := s5.1;
 let out7 := s5.2;
 (if (decide (v6 < ((b1.length : Nat) : Int))) = true then
 (if 0 ≤ v6 then
 (b1[v6.toNat]?).bind fun e8 =>
 let t9 := IntKind.u8.wrap e8.kind;
 (if (out7.length + ([t9] : List Int).length) * 1 ≤ 140737488355328 then
 let t10 : List Int := out7 ++ [t9];
 (book_sized ((e8.name.length : Nat) : Int) e8.name).bind fun q11 =>
 (if (t10.length + q11.length) * 1 ≤ 140737488355328 then
 let t12 : List Int := t10 ++ q11;
 (book_sized ((e8.data.length : Nat) : Int) []).bind fun q13 =>
 (if (t12.length + q13.length) * 1 ≤ 140737488355328 then
 let t14 : List Int := t12 ++ q13;
 let t15 := IntKind.i64.wrap (v6 + 1);
 some (Sum.inl (t15, t14))
 else
 none)
 else
 none)
 else
 none)
 else
 none)
 else
 some (Sum.inr out7))

theorem book_Directory_eq (b1 : List File) (b2 : List Outline) : book_Directory b1 b2 =
 (book_Valid b1 b2).bind fun q3 =>
 (if (!q3) = true then
 some ([], 110)
 else
 (book_sized ((b1.length : Nat) : Int) []).bind fun q4 =>
 (loop (book_Directory_loop5 b1) (0, q4)).bind (fun out19 =>
 (note_PutOutlines b2).bind fun q20 =>
 let tr21 := q20.1;
 let tr22 := q20.2;
 (if (out19.length + tr21.length) * 1 ≤ 140737488355328 then
 let t23 : List Int := out19 ++ tr21;
 (sort_Pack t23).bind fun q24 =>
 let tr25 := q24.1;
 let tr26 := q24.2;
 some (tr25, tr26)
 else
 none))) := (call_eq ..).trans (by kernel_rfl)

theorem book_one_eq (f1 : List Int) (f2 : Int) (f3 : List Int) : book_one f1 f2 f3 =
 (book_sized ((f1.length : Nat) : Int) f1).bind fun q4 =>
 (if (q4.length + f3.length) * 1 ≤ 140737488355328 then
 let t5 : List Int := q4 ++ f3;
 some ([70, 73, 76, 69], [], t5, [])
 else
 none) := (call_eq ..).trans (by kernel_rfl)

noncomputable def chunk_Put_loop5 (l1 : List Chunk) (s3 : Int × Int) : Option ((Int × Int) ⊕ (Int)) :=
 let n4 := s3.1;
 let v5 := s3.2;
 (if (decide (v5 < ((l1.length : Nat) : Int))) = true then
 (if 0 ≤ v5 then
 (l1[v5.toNat]?).bind fun e6 =>
 (chunk_size e6.id e6.kind e6.data e6.kids).bind fun q7 =>
 let t8 := IntKind.i64.wrap (n4 + q7);
 let t9 := IntKind.i64.wrap (v5 + 1);
 some (Sum.inl (t8, t9))
 else
 none)
 else
 some (Sum.inr n4))
noncomputable def chunk_Put_loop5_step (i10 : Nat) (x11 : Chunk) (s12 : Int) : Option ((Int) ⊕ (Int)) :=
 (chunk_size x11.id x11.kind x11.data x11.kids).bind fun q7 =>
 let t8 := IntKind.i64.wrap (s12 + q7);
 some (Sum.inl (t8))
theorem chunk_Put_loop5_over (l1 : List Chunk) (hl : l1.length ≤ 9223372036854775807) (s12 : Int) : loop (chunk_Put_loop5 l1) ((s12, 0) : Int × Int) =
    overL (chunk_Put_loop5_step) (fun (s12 : Int) => some s12) 0 l1 s12 := by
  refine loop_over l1 (fun n (s : Int) => ((s, ((n : Nat) : Int)) : Int × Int)) _ _ (fun s => ?_) (fun i x s h => ?_) 0 s12 (Nat.zero_le _)
  · unfold chunk_Put_loop5; simp
  · have hlt := lt_len_of_get h
    have h1 : ((i : Nat) : Int) < ((l1.length : Nat) : Int) := by omega
    have h0 : (0 : Int) ≤ ((i : Nat) : Int) := by omega
    have hw : IntKind.i64.wrap (((i : Nat) : Int) + 1) = (((i + 1 : Nat) : Nat) : Int) := w64 (by omega)
    unfold chunk_Put_loop5 chunk_Put_loop5_step
    simp only [h1, h0, hw, h, decide_true, if_true, and_self, true_and, Int.toNat_natCast, Option.bind_some, Option.map_bind, Function.comp_def, map_ite, map_elim, Option.map_some, Option.map_none]

noncomputable def chunk_Put_loop13 (l1 : List Chunk) (s14 : Int × (List Int)) : Option ((Int × (List Int)) ⊕ ((List Int))) :=
 let v15 := s14.1;
 let out16 := s14.2;
 (if (decide (v15 < ((l1.length : Nat) : Int))) = true then
 (if 0 ≤ v15 then
 (l1[v15.toNat]?).bind fun e17 =>
 (chunk_put e17.id e17.kind e17.data e17.kids out16).bind fun q18 =>
 let t19 := IntKind.i64.wrap (v15 + 1);
 some (Sum.inl (t19, q18))
 else
 none)
 else
 some (Sum.inr out16))
noncomputable def chunk_Put_loop13_step (i20 : Nat) (x21 : Chunk) (s22 : (List Int)) : Option (((List Int)) ⊕ ((List Int))) :=
 (chunk_put x21.id x21.kind x21.data x21.kids s22).bind fun q18 =>
 some (Sum.inl (q18))
theorem chunk_Put_loop13_over (l1 : List Chunk) (hl : l1.length ≤ 9223372036854775807) (s22 : (List Int)) : loop (chunk_Put_loop13 l1) ((0, s22) : Int × (List Int)) =
    overL (chunk_Put_loop13_step) (fun (s22 : (List Int)) => some s22) 0 l1 s22 := by
  refine loop_over l1 (fun n (s : (List Int)) => ((((n : Nat) : Int), s) : Int × (List Int))) _ _ (fun s => ?_) (fun i x s h => ?_) 0 s22 (Nat.zero_le _)
  · unfold chunk_Put_loop13; simp
  · have hlt := lt_len_of_get h
    have h1 : ((i : Nat) : Int) < ((l1.length : Nat) : Int) := by omega
    have h0 : (0 : Int) ≤ ((i : Nat) : Int) := by omega
    have hw : IntKind.i64.wrap (((i : Nat) : Int) + 1) = (((i + 1 : Nat) : Nat) : Int) := w64 (by omega)
    unfold chunk_Put_loop13 chunk_Put_loop13_step
    simp only [h1, h0, hw, h, decide_true, if_true, and_self, true_and, Int.toNat_natCast, Option.bind_some, Option.map_bind, Function.comp_def, map_ite, map_elim, Option.map_some, Option.map_none]

theorem chunk_Put_eq (l1 : List Chunk) : chunk_Put l1 =
 (chunk_valid l1).bind fun q2 =>
 (if (!q2) = true then
 some ([], 100)
 else
 (loop (chunk_Put_loop5 l1) (0, 0)).bind (fun n13 =>
 (if (decide (n13 > 60000)) = true then
 some ([], 4)
 else
 (loop (chunk_Put_loop13 l1) (0, [])).bind (fun out23 =>
 some (out23, 0))))) := (call_eq ..).trans (by kernel_rfl)

noncomputable def chunk_reader_chunk_loop7 (t51 : List Int) (s52 : Int × Int) : Option ((Int × Int) ⊕ (Int)) :=
 let n53 := s52.1;
 let v54 := s52.2;
 (if (decide (v54 < ((t51.length : Nat) : Int))) = true then
 (if 0 ≤ v54 ∧ v54 < (t51.length : Int) then
 let t55 := ishl .i64 n53 8;
 let t56 := IntKind.i64.wrap (rd t51 v54);
 let t57 := ior .i64 t55 t56;
 let t58 := IntKind.i64.wrap (v54 + 1);
 some (Sum.inl (t57, t58))
 else
 none)
 else
 some (Sum.inr n53))
noncomputable def chunk_reader_chunk_loop7_step (i59 : Nat) (x60 s61 : Int) : Option ((Int) ⊕ (Int)) :=
 let t55 := ishl .i64 s61 8;
 let t56 := IntKind.i64.wrap (x60);
 let t57 := ior .i64 t55 t56;
 some (Sum.inl (t57))
theorem chunk_reader_chunk_loop7_over (t51 : List Int) (hl : t51.length ≤ 9223372036854775807) (s61 : Int) : loop (chunk_reader_chunk_loop7 t51) ((s61, 0) : Int × Int) =
    overL (chunk_reader_chunk_loop7_step) (fun (s61 : Int) => some s61) 0 t51 s61 := by
  refine loop_over t51 (fun n (s : Int) => ((s, ((n : Nat) : Int)) : Int × Int)) _ _ (fun s => ?_) (fun i x s h => ?_) 0 s61 (Nat.zero_le _)
  · unfold chunk_reader_chunk_loop7; simp
  · have hlt := lt_len_of_get h
    have h1 : ((i : Nat) : Int) < ((t51.length : Nat) : Int) := by omega
    have h0 : (0 : Int) ≤ ((i : Nat) : Int) := by omega
    have hw : IntKind.i64.wrap (((i : Nat) : Int) + 1) = (((i + 1 : Nat) : Nat) : Int) := w64 (by omega)
    have hr : rd t51 ((i : Nat) : Int) = x := rd_nat h
    unfold chunk_reader_chunk_loop7 chunk_reader_chunk_loop7_step
    simp only [h1, h0, hw, h, hr, decide_true, if_true, and_self, true_and, Int.toNat_natCast, Option.bind_some, Option.map_bind, Function.comp_def, map_ite, map_elim, Option.map_some, Option.map_none]

theorem chunk_reader_chunk_eq (at1 end2 depth3 : Int) (b4 : List Int) (b5 b6 b7 : Int) : chunk_reader_chunk at1 end2 depth3 b4 b5 b6 b7 =
 (chunk_reader_id at1 end2 b4 b5 b6 b7).bind fun q8 =>
 let tr9 := q8.1;
 let tr10 := q8.2.1;
 let tr11 := q8.2.2.1;
 let tr12 := q8.2.2.2.1;
 let tr13 := q8.2.2.2.2;
 let t14 := IntKind.i64.wrap (tr11 + 1);
 ((if (decide (t14 ≤ 400)) = true then
 (chunk_reader_fail (decide (depth3 ≤ 8)) 4 at1 tr10 t14 tr12 tr13).bind fun q15 =>
 let tr16 := q15.1;
 let tr17 := q15.2.1;
 let tr18 := q15.2.2.1;
 let tr19 := q15.2.2.2.1;
 let tr20 := q15.2.2.2.2;
 (if (!tr16) = true then
 some (true, tr17, tr18, tr19, tr20)
 else
 let t21 := IntKind.i64.wrap (end2 - at1);
 let t22 := IntKind.i64.wrap (at1 + 4);
 (chunk_reader_fail (decide (t21 ≥ 8)) 6 t22 tr17 tr18 tr19 tr20).bind fun q23 =>
 let tr24 := q23.1;
 let tr25 := q23.2.1;
 let tr26 := q23.2.2.1;
 let tr27 := q23.2.2.2.1;
 let tr28 := q23.2.2.2.2;
 some (!tr24, tr25, tr26, tr27, tr28))
 else
 (chunk_reader_fail false 4 at1 tr10 t14 tr12 tr13).bind fun q29 =>
 let tr30 := q29.1;
 let tr31 := q29.2.1;
 let tr32 := q29.2.2.1;
 let tr33 := q29.2.2.2.1;
 let tr34 := q29.2.2.2.2;
 (if (!tr30) = true then
 some (true, tr31, tr32, tr33, tr34)
 else
 let t35 := IntKind.i64.wrap (end2 - at1);
 let t36 := IntKind.i64.wrap (at1 + 4);
 (chunk_reader_fail (decide (t35 ≥ 8)) 6 t36 tr31 tr32 tr33 tr34).bind fun q37 =>
 let tr38 := q37.1;
 let tr39 := q37.2.1;
 let tr40 := q37.2.2.1;
 let tr41 := q37.2.2.2.1;
 let tr42 := q37.2.2.2.2;
 some (!tr38, tr39, tr40, tr41, tr42))) : Option (Bool × (List Int) × Int × Int × Int)).bind (fun p43 =>
 let v44 := p43.1;
 let b45 := p43.2.1;
 let b46 := p43.2.2.1;
 let b47 := p43.2.2.2.1;
 let b48 := p43.2.2.2.2;
 (if v44 = true then
 some (tr9, [], [], [], end2, b45, b46, b47, b48)
 else
 let t49 := IntKind.i64.wrap (at1 + 4);
 let t50 := IntKind.i64.wrap (at1 + 8);
 (if 0 ≤ t50 ∧ t50 ≤ ((b45.length : Nat) : Int) then
 (if 0 ≤ t49 ∧ t49 ≤ t50 then
 let t51 : List Int := cutL b45 t49.toNat t50.toNat;
 (loop (chunk_reader_chunk_loop7 t51) (0, 0)).bind (fun n62 =>
 let t63 := IntKind.i64.wrap (at1 + 8);
 let t64 := IntKind.i64.wrap (end2 - t63);
 let t65 := IntKind.i64.wrap (at1 + 4);
 (chunk_reader_fail (decide (n62 ≤ t64)) 6 t65 b45 b46 b47 b48).bind fun q66 =>
 let tr67 := q66.1;
 let tr68 := q66.2.1;
 let tr69 := q66.2.2.1;
 let tr70 := q66.2.2.2.1;
 let tr71 := q66.2.2.2.2;
 (if (!tr67) = true then
 some (tr9, [], [], [], end2, tr68, tr69, tr70, tr71)
 else
 let t72 := IntKind.i64.wrap (t63 + n62);
 ((if (decide (tr9 = [70, 79, 82, 77])) = true then
 (chunk_reader_id_2 t63 t72 tr68 tr69 tr70 tr71).bind fun q73 =>
 let tr74 := q73.1;
 let tr75 := q73.2.1;
 let tr76 := q73.2.2.1;
 let tr77 := q73.2.2.2.1;
 let tr78 := q73.2.2.2.2;
 let t79 := IntKind.i64.wrap (t63 + 4);
 let t80 := IntKind.i64.wrap (depth3 + 1);
 (chunk_reader_list t79 t72 t80 tr75 tr76 tr77 tr78).bind fun q81 =>
 let tr82 := q81.1;
 let tr83 := q81.2.1;
 let tr84 := q81.2.2.1;
 let tr85 := q81.2.2.2.1;
 let tr86 := q81.2.2.2.2;
 some (tr83, tr84, tr85, tr86, tr9, tr74, [], tr82)
 else
 (if 0 ≤ t72 ∧ t72 ≤ ((tr68.length : Nat) : Int) then
 (if 0 ≤ t63 ∧ t63 ≤ t72 then
 let t87 : List Int := cutL tr68 t63.toNat t72.toNat;
 (bytes_Clone t87).bind fun q88 =>
 some (tr68, tr69, tr70, tr71, tr9, [], q88, [])
 else
 none)
 else
 none)) : Option ((List Int) × Int × Int × Int × (List Int) × (List Int) × (List Int) × (List Chunk))).bind (fun p89 =>
 let b90 := p89.1;
 let b91 := p89.2.1;
 let b92 := p89.2.2.1;
 let b93 := p89.2.2.2.1;
 let b94 := p89.2.2.2.2.1;
 let b95 := p89.2.2.2.2.2.1;
 let b96 := p89.2.2.2.2.2.2.1;
 let b97 := p89.2.2.2.2.2.2.2;
 (let t98 : Int := n62.tmod 2;
 (if (decide (t98 = 1)) = true then
 (chunk_reader_fail (decide (t72 < end2)) 6 t72 b90 b91 b92 b93).bind fun q99 =>
 let tr100 := q99.1;
 let tr101 := q99.2.1;
 let tr102 := q99.2.2.1;
 let tr103 := q99.2.2.2.1;
 let tr104 := q99.2.2.2.2;
 some (tr100, tr101, tr102, tr103, tr104)
 else
 some (false, b90, b91, b92, b93)) : Option (Bool × (List Int) × Int × Int × Int)).bind (fun p105 =>
 let v106 := p105.1;
 let b107 := p105.2.1;
 let b108 := p105.2.2.1;
 let b109 := p105.2.2.2.1;
 let b110 := p105.2.2.2.2;
 (if v106 = true then
 (if 0 ≤ t72 ∧ t72 < (b107.length : Int) then
 (chunk_reader_fail (decide (rd b107 t72 = 0)) 3 t72 b107 b108 b109 b110).bind fun q111 =>
 let tr112 := q111.1;
 let tr113 := q111.2.1;
 let tr114 := q111.2.2.1;
 let tr115 := q111.2.2.2.1;
 let tr116 := q111.2.2.2.2;
 let t117 := IntKind.i64.wrap (t72 + 1);
 some (b94, b95, b96, b97, t117, tr113, tr114, tr115, tr116)
 else
 none)
 else
 some (b94, b95, b96, b97, t72, b107, b108, b109, b110))))))
 else
 none)
 else
 none))) := (call_eq ..).trans (by kernel_rfl)

noncomputable def bits_GetSize_loop4 (b1 : List Int) (at2 : Int) (s4 : Int × Int) : Option ((Int × Int) ⊕ ((Unit) ⊕ (Int × Int × Int))) :=
 let n5 := s4.1;
 let v6 := s4.2;
 (if (decide (v6 < 5)) = true then
 let t7 := IntKind.i64.wrap (at2 + v6);
 (if (decide (t7 ≥ ((b1.length : Nat) : Int))) = true then
 some (Sum.inr (Sum.inr (0, 0, 6)))
 else
 let t8 := IntKind.i64.wrap (at2 + v6);
 (if 0 ≤ t8 ∧ t8 < (b1.length : Int) then
 let t9 := IntKind.i64.wrap (rd b1 t8);
 let t10 := IntKind.i64.wrap (n5 * 128);
 let t11 : Int := t9.tmod 128;
 let t12 := IntKind.i64.wrap (t10 + t11);
 (if (decide (t9 < 128)) = true then
 ((if (decide (t12 > 2147483647)) = true then
 some true
 else
 (if (decide (v6 > 0)) = true then
 (if 0 ≤ at2 ∧ at2 < (b1.length : Int) then
 some (decide (rd b1 at2 = 128))
 else
 none)
 else
 some false)) : Option (Bool)).bind (fun v13 =>
 (if v13 = true then
 some (Sum.inr (Sum.inr (0, 0, 3)))
 else
 let t14 := IntKind.i64.wrap (at2 + v6);
 let t15 := IntKind.i64.wrap (t14 + 1);
 some (Sum.inr (Sum.inr (t12, t15, 0)))))
 else
 let t16 := IntKind.i64.wrap (v6 + 1);
 some (Sum.inl (t12, t16)))
 else
 none))
 else
 some (Sum.inr (Sum.inl ())))

theorem bits_GetSize_eq (b1 : List Int) (at2 : Int) : bits_GetSize b1 at2 =
 ((if (decide (at2 < 0)) = true then
 some true
 else
 some (decide (at2 > ((b1.length : Nat) : Int)))) : Option (Bool)).bind (fun v3 =>
 (if v3 = true then
 some (0, 0, 2)
 else
 (loop (bits_GetSize_loop4 b1 at2) (0, 0)).bind (fun o25 =>
 (Sum.elim (fun (p20 : Unit) =>
 some (0, 0, 3))
 (fun (p21 : Int × Int × Int) =>
 let n22 := p21.1;
 let next23 := p21.2.1;
 let err24 := p21.2.2;
 some (n22, next23, err24)) o25)))) := (call_eq ..).trans (by kernel_rfl)

theorem coder_New_eq (kind1 n2 : Int) : coder_New kind1 n2 =
 ((if (!decide (kind1 = 0)) = true then
 (if (!decide (kind1 = 1)) = true then
 some true
 else
 (if (decide (n2 < 0)) = true then
 some true
 else
 some (decide (n2 > 8192))))
 else
 (if (decide (n2 < 0)) = true then
 some true
 else
 some (decide (n2 > 8192)))) : Option (Bool)).bind (fun v3 =>
 (if v3 = true then
 some (0, 2, [])
 else
 (if 0 ≤ n2 ∧ n2 ≤ n2 ∧ ((8 : Nat) : Int) * n2 ≤ 281474976710656 then
 let t4 : List Int := List.replicate n2.toNat 0;
 some (kind1, 0, t4)
 else
 none))) := (call_eq ..).trans (by kernel_rfl)

noncomputable def coder_NewDecoder_loop5 (s11 : Int × (List Int) × (List Int) × Int × Int × Int × Int × Int × Int) : Option ((Int × (List Int) × (List Int) × Int × Int × Int × Int × Int × Int) ⊕ ((List Int) × (List Int) × Int × Int × Int × Int × Int × Int)) :=
 let v12 := s11.1;
 let b13 := s11.2.1;
 let b14 := s11.2.2.1;
 let b15 := s11.2.2.2.1;
 let b16 := s11.2.2.2.2.1;
 let b17 := s11.2.2.2.2.2.1;
 let b18 := s11.2.2.2.2.2.2.1;
 let b19 := s11.2.2.2.2.2.2.2.1;
 let b20 := s11.2.2.2.2.2.2.2.2;
 (if (decide (v12 < 4)) = true then
 (coder_Decoder_shift b15 b16 b17 b18 b19 b20 b13 b14).bind fun q21 =>
 let tr22 := q21.1;
 let tr23 := q21.2.1;
 let tr24 := q21.2.2.1;
 let tr25 := q21.2.2.2.1;
 let tr26 := q21.2.2.2.2.1;
 let tr27 := q21.2.2.2.2.2.1;
 let tr28 := q21.2.2.2.2.2.2.1;
 let tr29 := q21.2.2.2.2.2.2.2;
 let t30 := IntKind.i64.wrap (v12 + 1);
 some (Sum.inl (t30, tr28, tr29, tr22, tr23, tr24, tr25, tr26, tr27))
 else
 some (Sum.inr (b13, b14, b15, b16, b17, b18, b19, b20)))

theorem coder_NewDecoder_eq (m1 : Int) (m2 b3 : List Int) : coder_NewDecoder m1 m2 b3 =
 (coder_Valid m1 m2).bind fun q4 =>
 (if (!q4) = true then
 some (Sum.inr ())
 else
 (coder_begin m1 m2).bind fun q5 =>
 let tr6 := q5.1;
 let tr7 := q5.2.1;
 let tr8 := q5.2.2.1;
 let tr9 := q5.2.2.2;
 (if (([] : List Int).length + b3.length) * 1 ≤ 140737488355328 then
 let t10 : List Int := ([] : List Int) ++ b3;
 (loop (coder_NewDecoder_loop5) (0, tr9, t10, tr6, tr7, tr8, 0, 0, 0)).bind (fun p42 =>
 let b43 := p42.1;
 let b44 := p42.2.1;
 let b45 := p42.2.2.1;
 let b46 := p42.2.2.2.1;
 let b47 := p42.2.2.2.2.1;
 let b48 := p42.2.2.2.2.2.1;
 let b49 := p42.2.2.2.2.2.2.1;
 let b50 := p42.2.2.2.2.2.2.2;
 some (Sum.inl (b45, b46, b47, b44, b48, b49, b50, false, b43)))
 else
 none)) := (call_eq ..).trans (by kernel_rfl)

theorem sort_base_eq (last1 : Int) : sort_base last1 =
 (if (decide (last1 = 0)) = true then
 some 0
 else
 (if (decide (last1 ≤ 15)) = true then
 some 48
 else
 some 96)) := (call_eq ..).trans (by kernel_rfl)

theorem number_Get_eq (base1 b2 b3 b4 : Int) (b5 : List Int) (b6 b7 b8 : Int) (b9 : Bool) (b10 : List Int) : number_Get base1 b2 b3 b4 b5 b6 b7 b8 b9 b10 =
 (coder_Decoder_Get (-1) b2 b3 b4 b5 b6 b7 b8 b9 b10).bind fun q11 =>
 let tr12 := q11.1;
 let tr13 := q11.2.1;
 let tr14 := q11.2.2.1;
 let tr15 := q11.2.2.2.1;
 let tr16 := q11.2.2.2.2.1;
 let tr17 := q11.2.2.2.2.2.1;
 let tr18 := q11.2.2.2.2.2.2.1;
 let tr19 := q11.2.2.2.2.2.2.2.1;
 let tr20 := q11.2.2.2.2.2.2.2.2.1;
 let tr21 := q11.2.2.2.2.2.2.2.2.2.1;
 let tr22 := q11.2.2.2.2.2.2.2.2.2.2;
 (if (decide (tr13 = 7)) = true then
 some (false, 0, tr13, tr14, tr15, tr16, tr17, tr18, tr19, tr20, tr21, tr22)
 else
 (coder_Decoder_Model tr14 tr15 tr16 tr17 tr18 tr19 tr20 tr21 tr22).bind fun q23 =>
 let tr24 := q23.1;
 let tr25 := q23.2.1;
 let tr26 := q23.2.2.1;
 let tr27 := q23.2.2.2.1;
 let tr28 := q23.2.2.2.2.1;
 let tr29 := q23.2.2.2.2.2.1;
 let tr30 := q23.2.2.2.2.2.2.1;
 let tr31 := q23.2.2.2.2.2.2.2.1;
 let tr32 := q23.2.2.2.2.2.2.2.2.1;
 let tr33 := q23.2.2.2.2.2.2.2.2.2.1;
 let tr34 := q23.2.2.2.2.2.2.2.2.2.2;
 (number_fits tr24 tr25 base1 48).bind fun q35 =>
 (if (!decide (q35 = 0)) = true then
 some (false, 0, q35, tr26, tr27, tr28, tr29, tr30, tr31, tr32, tr33, tr34)
 else
 (number_get base1 tr26 tr27 tr28 tr29 tr30 tr31 tr32 tr33 tr34).bind fun q36 =>
 let tr37 := q36.1;
 let tr38 := q36.2.1;
 let tr39 := q36.2.2.1;
 let tr40 := q36.2.2.2.1;
 let tr41 := q36.2.2.2.2.1;
 let tr42 := q36.2.2.2.2.2.1;
 let tr43 := q36.2.2.2.2.2.2.1;
 let tr44 := q36.2.2.2.2.2.2.2.1;
 let tr45 := q36.2.2.2.2.2.2.2.2.1;
 let tr46 := q36.2.2.2.2.2.2.2.2.2.1;
 let tr47 := q36.2.2.2.2.2.2.2.2.2.2.1;
 let tr48 := q36.2.2.2.2.2.2.2.2.2.2.2;
 some (tr37, tr38, tr39, tr40, tr41, tr42, tr43, tr44, tr45, tr46, tr47, tr48))) := (call_eq ..).trans (by kernel_rfl)

noncomputable def sort_Unfront_loop7 (l1 : List Int) (s4 : Int × (List Int) × (List Int)) : Option ((Int × (List Int) × (List Int)) ⊕ ((List Int) × (List Int))) :=
 let v5 := s4.1;
 let b6 := s4.2.1;
 let out7 := s4.2.2;
 (if (decide (v5 < ((l1.length : Nat) : Int))) = true then
 (if 0 ≤ v5 ∧ v5 < (l1.length : Int) then
 (sort_front (rd l1 v5) b6).bind fun q8 =>
 let tr9 := q8.1;
 let tr10 := q8.2;
 (if (out7.length + ([tr9] : List Int).length) * 8 ≤ 140737488355328 then
 let t11 : List Int := out7 ++ [tr9];
 let t12 := IntKind.i64.wrap (v5 + 1);
 some (Sum.inl (t12, tr10, t11))
 else
 none)
 else
 none)
 else
 some (Sum.inr (b6, out7)))

theorem sort_Unfront_eq (l1 : List Int) : sort_Unfront l1 =
 (sort_asked l1).bind fun q2 =>
 (if (!decide (q2 = 0)) = true then
 some ([], q2)
 else
 (sort_list).bind fun q3 =>
 (loop (sort_Unfront_loop7 l1) (0, q3, [])).bind (fun p18 =>
 let b19 := p18.1;
 let out20 := p18.2;
 some (out20, 0))) := (call_eq ..).trans (by kernel_rfl)

noncomputable def sort_uncolumn_loop3 (l1 : List Int) (s4 : Int × (List Int)) : Option ((Int × (List Int)) ⊕ ((List Int))) :=
 let v5 := s4.1;
 let b6 := s4.2;
 (if (decide (v5 < ((l1.length : Nat) : Int))) = true then
 (if 0 ≤ v5 ∧ v5 < (l1.length : Int) then
 let t7 := IntKind.i64.wrap (rd l1 v5 + 1);
 (if 0 ≤ t7 ∧ t7 < ((258 : Nat) : Int) ∧ t7 < (b6.length : Int) then
 let t8 : Int := rd b6 t7;
 let t9 := IntKind.i64.wrap (t8 + 1);
 (if 0 ≤ t7 ∧ t7 < ((258 : Nat) : Int) ∧ t7 < (b6.length : Int) then
 let w10 : List Int := b6.set t7.toNat t9;
 let t11 := IntKind.i64.wrap (v5 + 1);
 some (Sum.inl (t11, w10))
 else
 none)
 else
 none)
 else
 none)
 else
 some (Sum.inr b6))

noncomputable def sort_uncolumn_loop10 (s17 : Int × (List Int)) : Option ((Int × (List Int)) ⊕ ((List Int))) :=
 let v18 := s17.1;
 let b19 := s17.2;
 (if (decide (v18 < 257)) = true then
 let t20 := IntKind.i64.wrap (v18 + 1);
 (if 0 ≤ t20 ∧ t20 < ((258 : Nat) : Int) ∧ t20 < (b19.length : Int) then
 let t21 : Int := rd b19 t20;
 (if 0 ≤ v18 ∧ v18 < ((258 : Nat) : Int) ∧ v18 < (b19.length : Int) then
 let t22 : Int := rd b19 v18;
 let t23 := IntKind.i64.wrap (t21 + t22);
 (if 0 ≤ t20 ∧ t20 < ((258 : Nat) : Int) ∧ t20 < (b19.length : Int) then
 let w24 : List Int := b19.set t20.toNat t23;
 let t25 := IntKind.i64.wrap (v18 + 1);
 some (Sum.inl (t25, w24))
 else
 none)
 else
 none)
 else
 none)
 else
 some (Sum.inr b19))

noncomputable def sort_uncolumn_loop16 (l1 : List Int) (b29 : (List Int)) (s31 : Int × (List Int) × (List Int)) : Option ((Int × (List Int) × (List Int)) ⊕ ((List Int) × (List Int))) :=
 let v32 := s31.1;
 let b33 := s31.2.1;
 let b34 := s31.2.2;
 (if (decide (v32 < ((l1.length : Nat) : Int))) = true then
 (if 0 ≤ v32 ∧ v32 < (l1.length : Int) then
 (if 0 ≤ rd l1 v32 ∧ rd l1 v32 < ((258 : Nat) : Int) ∧ rd l1 v32 < (b29.length : Int) then
 let t35 : Int := rd b29 (rd l1 v32);
 (if 0 ≤ rd l1 v32 ∧ rd l1 v32 < ((258 : Nat) : Int) ∧ rd l1 v32 < (b33.length : Int) then
 let t36 : Int := rd b33 (rd l1 v32);
 let t37 := IntKind.i64.wrap (t35 + t36);
 (if 0 ≤ v32 ∧ v32 < (b34.length : Int) then
 let w38 : List Int := b34.set v32.toNat t37;
 (if 0 ≤ rd l1 v32 ∧ rd l1 v32 < ((258 : Nat) : Int) ∧ rd l1 v32 < (b33.length : Int) then
 let t39 : Int := rd b33 (rd l1 v32);
 let t40 := IntKind.i64.wrap (t39 + 1);
 (if 0 ≤ rd l1 v32 ∧ rd l1 v32 < ((258 : Nat) : Int) ∧ rd l1 v32 < (b33.length : Int) then
 let w41 : List Int := b33.set (rd l1 v32).toNat t40;
 let t42 := IntKind.i64.wrap (v32 + 1);
 some (Sum.inl (t42, w41, w38))
 else
 none)
 else
 none)
 else
 none)
 else
 none)
 else
 none)
 else
 none)
 else
 some (Sum.inr (b33, b34)))

noncomputable def sort_uncolumn_loop25 (l1 b50 : List Int) (s55 : Int × (List Int) × Int × (List Int) × Int) : Option ((Int × (List Int) × Int × (List Int) × Int) ⊕ (((List Int) × Int × (List Int) × Int) ⊕ ((List Int) × Int × (List Int) × Int))) :=
 let i56 := s55.1;
 let b57 := s55.2.1;
 let b58 := s55.2.2.1;
 let b59 := s55.2.2.2.1;
 let b60 := s55.2.2.2.2;
 (if (decide (i56 ≥ 0)) = true then
 (if 0 ≤ i56 ∧ i56 < (b59.length : Int) then
 let t61 : Int := rd b59 i56;
 (if 0 ≤ b60 ∧ b60 < (l1.length : Int) then
 (if (decide (rd l1 b60 = 0)) = true then
 some (Sum.inr (Sum.inr ([], 3, b59, b60)))
 else
 (if 0 ≤ b60 ∧ b60 < (l1.length : Int) then
 let t62 := IntKind.i64.wrap (rd l1 b60 - 1);
 let t63 := IntKind.u8.wrap t62;
 (if 0 ≤ i56 ∧ i56 < (b59.length : Int) then
 let w64 : List Int := b59.set i56.toNat t63;
 (if 0 ≤ b60 ∧ b60 < (b50.length : Int) then
 let t65 : Int := rd b50 b60;
 let i66 := IntKind.i64.wrap (i56 - 1);
 some (Sum.inl (i66, b57, b58, w64, t65))
 else
 none)
 else
 none)
 else
 none))
 else
 none)
 else
 none)
 else
 some (Sum.inr (Sum.inl (b57, b58, b59, b60))))
theorem sort_uncolumn_eq (l1 : List Int) : sort_uncolumn l1 =
 let begins2 : List Int := List.replicate 258 0;
 let seen3 : List Int := List.replicate 258 0;
 (loop (sort_uncolumn_loop3 l1) (0, begins2)).bind (fun b15 =>
 (if 0 ≤ (1 : Int) ∧ (1 : Int) < ((258 : Nat) : Int) ∧ (1 : Int) < (b15.length : Int) then
 let t16 : Int := rd b15 1;
 (if (!decide (t16 = 1)) = true then
 some ([], 3)
 else
 (loop (sort_uncolumn_loop10) (0, b15)).bind (fun b29 =>
 (if 0 ≤ ((l1.length : Nat) : Int) ∧ ((l1.length : Nat) : Int) ≤ ((l1.length : Nat) : Int) ∧ ((8 : Nat) : Int) * ((l1.length : Nat) : Int) ≤ 281474976710656 then
 let t30 : List Int := List.replicate ((l1.length : Nat) : Int).toNat 0;
 (loop (sort_uncolumn_loop16 l1 b29) (0, seen3, t30)).bind (fun p48 =>
 let b49 := p48.1;
 let b50 := p48.2;
 let t51 := IntKind.i64.wrap (((l1.length : Nat) : Int) - 1);
 (if 0 ≤ t51 ∧ t51 ≤ t51 ∧ ((1 : Nat) : Int) * t51 ≤ 281474976710656 then
 let t52 : List Int := List.replicate t51.toNat 0;
 (slices_Backward_byte_byte t52).bind fun q53 =>
 let x54 := IntKind.i64.wrap (((q53.length : Nat) : Int) - 1);
 (loop (sort_uncolumn_loop25 l1 b50) (x54, [], 0, q53, 0)).bind (fun o77 =>
 (Sum.elim (fun (p67 : (List Int) × Int × (List Int) × Int) =>
 let b68 := p67.1;
 let b69 := p67.2.1;
 let b70 := p67.2.2.1;
 let b71 := p67.2.2.2;
 (sort_column b70).bind fun q78 =>
 (slices_Equal_int_int q78 l1).bind fun q79 =>
 (if (!q79) = true then
 some ([], 3)
 else
 some (b70, 0)))
 (fun (p72 : (List Int) × Int × (List Int) × Int) =>
 let b73 := p72.1;
 let b74 := p72.2.1;
 let b75 := p72.2.2.1;
 let b76 := p72.2.2.2;
 some (b73, b74)) o77))
 else
 none))
 else
 none)))
 else
 none)) := (call_eq ..).trans (by kernel_rfl)

theorem book_cursor_take_eq (n1 : Int) (b2 : List Int) (b3 b4 : Int) : book_cursor_take n1 b2 b3 b4 =
 let t5 := IntKind.i64.wrap (((b2.length : Nat) : Int) - b3);
 (book_cursor_check (decide (n1 ≤ t5)) 6 b2 b3 b4).bind fun q6 =>
 let tr7 := q6.1;
 let tr8 := q6.2.1;
 let tr9 := q6.2.2.1;
 let tr10 := q6.2.2.2;
 (if (!tr7) = true then
 some ([], tr8, tr9, tr10)
 else
 let t11 := IntKind.i64.wrap (tr9 + n1);
 let t12 := IntKind.i64.wrap (t11 - n1);
 (if 0 ≤ t11 ∧ t11 ≤ ((tr8.length : Nat) : Int) then
 (if 0 ≤ t12 ∧ t12 ≤ t11 then
 let t13 : List Int := cutL tr8 t12.toNat t11.toNat;
 some (t13, tr8, t11, tr10)
 else
 none)
 else
 none)) := (call_eq ..).trans (by kernel_rfl)

theorem book_cursor_name_eq (b1 : List Int) (b2 b3 : Int) : book_cursor_name b1 b2 b3 =
 (book_cursor_size b1 b2 b3).bind fun q4 =>
 let tr5 := q4.1;
 let tr6 := q4.2.1;
 let tr7 := q4.2.2.1;
 let tr8 := q4.2.2.2;
 (book_cursor_check (decide (tr5 ≤ 20)) 3 tr6 tr7 tr8).bind fun q9 =>
 let tr10 := q9.1;
 let tr11 := q9.2.1;
 let tr12 := q9.2.2.1;
 let tr13 := q9.2.2.2;
 (book_cursor_take tr5 tr11 tr12 tr13).bind fun q14 =>
 let tr15 := q14.1;
 let tr16 := q14.2.1;
 let tr17 := q14.2.2.1;
 let tr18 := q14.2.2.2;
 (book_isName tr15).bind fun q19 =>
 (book_cursor_check q19 3 tr16 tr17 tr18).bind fun q20 =>
 let tr21 := q20.1;
 let tr22 := q20.2.1;
 let tr23 := q20.2.2.1;
 let tr24 := q20.2.2.2;
 some (tr15, tr22, tr23, tr24) := (call_eq ..).trans (by kernel_rfl)

noncomputable def note_reader_list_loop3 (depth1 : Int) (s12 : Int × (List Int) × Int × Int × Int × (List Outline)) : Option ((Int × (List Int) × Int × Int × Int × (List Outline)) ⊕ (((List Int) × Int × Int × Int × (List Outline)) ⊕ ((List Outline) × (List Int) × Int × Int × Int))) :=
 let n13 := s12.1;
 let b14 := s12.2.1;
 let b15 := s12.2.2.1;
 let b16 := s12.2.2.2.1;
 let b17 := s12.2.2.2.2.1;
 let out18 := s12.2.2.2.2.2;
 ((if (decide (n13 > 0)) = true then
 some (decide (b17 = 0))
 else
 some false) : Option (Bool)).bind (fun v19 =>
 (if v19 = true then
 let t20 := IntKind.i64.wrap (b16 + 1);
 ((if (decide (t20 > 400)) = true then
 some true
 else
 some (decide (depth1 > 20))) : Option (Bool)).bind (fun v21 =>
 (if v21 = true then
 some (Sum.inr (Sum.inr ([], b14, b15, t20, 4)))
 else
 (note_reader_title b14 b15 t20 b17).bind fun q22 =>
 let tr23 := q22.1;
 let tr24 := q22.2.1;
 let tr25 := q22.2.2.1;
 let tr26 := q22.2.2.2.1;
 let tr27 := q22.2.2.2.2;
 (note_reader_size 1 1000 tr24 tr25 tr26 tr27).bind fun q28 =>
 let tr29 := q28.1;
 let tr30 := q28.2.1;
 let tr31 := q28.2.2.1;
 let tr32 := q28.2.2.2.1;
 let tr33 := q28.2.2.2.2;
 let t34 := IntKind.i64.wrap (depth1 + 1);
 (note_reader_list t34 tr30 tr31 tr32 tr33).bind fun q35 =>
 let tr36 := q35.1;
 let tr37 := q35.2.1;
 let tr38 := q35.2.2.1;
 let tr39 := q35.2.2.2.1;
 let tr40 := q35.2.2.2.2;
 (if (out18.length + ([(Outline.mk tr23 tr29 tr36)] : List Outline).length) * 48 ≤ 140737488355328 then
 let t41 : List Outline := out18 ++ [(Outline.mk tr23 tr29 tr36)];
 let t42 := IntKind.i64.wrap (n13 - 1);
 some (Sum.inl (t42, tr37, tr38, tr39, tr40, t41))
 else
 none)))
 else
 some (Sum.inr (Sum.inl (b14, b15, b16, b17, out18)))))
theorem note_reader_list_eq (depth1 : Int) (b2 : List Int) (b3 b4 b5 : Int) : note_reader_list depth1 b2 b3 b4 b5 =
 (note_reader_size 0 2147483648 b2 b3 b4 b5).bind fun q6 =>
 let tr7 := q6.1;
 let tr8 := q6.2.1;
 let tr9 := q6.2.2.1;
 let tr10 := q6.2.2.2.1;
 let tr11 := q6.2.2.2.2;
 (loop (note_reader_list_loop3 depth1) (tr7, tr8, tr9, tr10, tr11, [])).bind (fun o55 =>
 (Sum.elim (fun (p43 : (List Int) × Int × Int × Int × (List Outline)) =>
 let b44 := p43.1;
 let b45 := p43.2.1;
 let b46 := p43.2.2.1;
 let b47 := p43.2.2.2.1;
 let out48 := p43.2.2.2.2;
 some (out48, b44, b45, b46, b47))
 (fun (p49 : (List Outline) × (List Int) × Int × Int × Int) =>
 let v50 := p49.1;
 let b51 := p49.2.1;
 let b52 := p49.2.2.1;
 let b53 := p49.2.2.2.1;
 let b54 := p49.2.2.2.2;
 some (v50, b51, b52, b53, b54)) o55)) := (call_eq ..).trans (by kernel_rfl)

theorem book_index_1_eq (f1 : List Int) (f2 : Int) (f3 b4 : List Int) : book_index_1 f1 f2 f3 b4 =
 some (decide (f1 = b4), b4) := (call_eq ..).trans (by kernel_rfl)

theorem book_sized_eq (n1 : Int) (l2 : List Int) : book_sized n1 l2 =
 (bits_Size n1).bind fun q3 =>
 let tr4 := q3.1;
 let tr5 := q3.2;
 (if (tr5.length + l2.length) * 1 ≤ 140737488355328 then
 let t6 : List Int := tr5 ++ l2;
 some t6
 else
 none) := (call_eq ..).trans (by kernel_rfl)

theorem note_PutOutlines_eq (l1 : List Outline) : note_PutOutlines l1 =
 (note_ValidOutlines l1).bind fun q2 =>
 (if (!q2) = true then
 some ([], 95)
 else
 (note_put l1).bind fun q3 =>
 some (q3, 0)) := (call_eq ..).trans (by kernel_rfl)

noncomputable def sort_Pack_loop12 (tr27 : List Int) (s29 : Int × Int × Int × Int × Int × (List Int) × (List Int)) : Option ((Int × Int × Int × Int × Int × (List Int) × (List Int)) ⊕ (Int × Int × Int × (List Int) × (List Int))) :=
 let last30 := s29.1;
 let v31 := s29.2.1;
 let b32 := s29.2.2.1;
 let b33 := s29.2.2.2.1;
 let b34 := s29.2.2.2.2.1;
 let b35 := s29.2.2.2.2.2.1;
 let b36 := s29.2.2.2.2.2.2;
 (if (decide (v31 < ((tr27.length : Nat) : Int))) = true then
 (if 0 ≤ v31 ∧ v31 < (tr27.length : Int) then
 (sort_base last30).bind fun q37 =>
 (number_Put q37 false (rd tr27 v31) b32 b33 b34 b35 b36).bind fun q38 =>
 let tr39 := q38.1;
 let tr40 := q38.2.1;
 let tr41 := q38.2.2.1;
 let tr42 := q38.2.2.2.1;
 let tr43 := q38.2.2.2.2.1;
 let tr44 := q38.2.2.2.2.2;
 let t45 := IntKind.i64.wrap (v31 + 1);
 some (Sum.inl (rd tr27 v31, t45, tr40, tr41, tr42, tr43, tr44))
 else
 none)
 else
 some (Sum.inr (b32, b33, b34, b35, b36)))

theorem sort_Pack_eq (text1 : List Int) : sort_Pack text1 =
 (sort_Column text1).bind fun q2 =>
 let tr3 := q2.1;
 let tr4 := q2.2;
 (if (!decide (tr4 = 0)) = true then
 some ([], tr4)
 else
 (bits_Size ((text1.length : Nat) : Int)).bind fun q5 =>
 let tr6 := q5.1;
 let tr7 := q5.2;
 (if (decide (((text1.length : Nat) : Int) = 0)) = true then
 some (tr7, 0)
 else
 (coder_New 0 144).bind fun q8 =>
 let tr9 := q8.1;
 let tr10 := q8.2.1;
 let tr11 := q8.2.2;
 ((coder_NewEncoder tr9 tr11).bind fun o19 =>
 (Sum.elim (fun (q12 : Int × Int × Int × (List Int) × (List Int)) =>
 let tr13 := q12.1;
 let tr14 := q12.2.1;
 let tr15 := q12.2.2.1;
 let tr16 := q12.2.2.2.1;
 let tr17 := q12.2.2.2.2;
 some (tr13, tr14, tr15, tr16, tr17))
 (fun (q18 : Unit) =>
 none) o19) : Option (Int × Int × Int × (List Int) × (List Int))).bind (fun p20 =>
 let b21 := p20.1;
 let b22 := p20.2.1;
 let b23 := p20.2.2.1;
 let b24 := p20.2.2.2.1;
 let b25 := p20.2.2.2.2;
 (sort_Front tr3).bind fun q26 =>
 let tr27 := q26.1;
 let tr28 := q26.2;
 (loop (sort_Pack_loop12 tr27) (0, 0, b21, b22, b23, b24, b25)).bind (fun p55 =>
 let b56 := p55.1;
 let b57 := p55.2.1;
 let b58 := p55.2.2.1;
 let b59 := p55.2.2.2.1;
 let b60 := p55.2.2.2.2;
 (coder_Encoder_End b56 b57 b58 b59 b60).bind fun q61 =>
 let tr62 := q61.1;
 let tr63 := q61.2.1;
 let tr64 := q61.2.2.1;
 let tr65 := q61.2.2.2.1;
 let tr66 := q61.2.2.2.2.1;
 let tr67 := q61.2.2.2.2.2;
 (if (tr7.length + tr62.length) * 1 ≤ 140737488355328 then
 let t68 : List Int := tr7 ++ tr62;
 some (t68, 0)
 else
 none))))) := (call_eq ..).trans (by kernel_rfl)
end
end Go.Proofs.YthnonplijagpdaaGreat.P
