/- The equations of functions. Printed by wip/tool/vsym.py. -/
import Derived.Test.YtkccnhkhjncpkaaGreatG
import Derived.Test.YtkccnhkhjncpkaaGreatLib
namespace Go.Proofs.YtkccnhkhjncpkaaGreat.P
open Go Go.Proofs.YtkccnhkhjncpkaaGreat.V
set_option linter.unusedVariables false
set_option linter.unusedSimpArgs false
set_option maxRecDepth 100000
noncomputable section
noncomputable def slices_IndexFunc_api_Item_api_Item_2_loop2 (s1 : List Item) (s11 : Int × Int × Int × Bool × Int × Int × Int × Bool × Int × Int) : Option ((Int × Int × Int × Bool × Int × Int × Int × Bool × Int × Int) ⊕ ((Int × Int × Bool × Int × Int × Int × Bool × Int × Int) ⊕ (Int × Int × Int × Bool × Int × Int × Int × Bool × Int × Int))) :=
 let v12 := s11.1;
 let b13 := s11.2.1;
 let b14 := s11.2.2.1;
 let b15 := s11.2.2.2.1;
 let b16 := s11.2.2.2.2.1;
 let b17 := s11.2.2.2.2.2.1;
 let b18 := s11.2.2.2.2.2.2.1;
 let b19 := s11.2.2.2.2.2.2.2.1;
 let b20 := s11.2.2.2.2.2.2.2.2.1;
 let b21 := s11.2.2.2.2.2.2.2.2.2;
 (if (decide (v12 < ((s1.length : Nat) : Int))) = true then
 (if 0 ≤ v12 then
 (s1[v12.toNat]?).bind fun e22 =>
 (text_right_1 e22.symbol e22.s e22.t e22.refined e22.dX e22.dY e22.pix_w e22.pix_h e22.pix_pix b13 b14 b15 b16 b17 b18 b19 b20 b21).bind fun q23 =>
 let tr24 := q23.1;
 let tr25 := q23.2.1;
 let tr26 := q23.2.2.1;
 let tr27 := q23.2.2.2.1;
 let tr28 := q23.2.2.2.2.1;
 let tr29 := q23.2.2.2.2.2.1;
 let tr30 := q23.2.2.2.2.2.2.1;
 let tr31 := q23.2.2.2.2.2.2.2.1;
 let tr32 := q23.2.2.2.2.2.2.2.2.1;
 let tr33 := q23.2.2.2.2.2.2.2.2.2;
 (if tr24 = true then
 some (Sum.inr (Sum.inr (v12, tr25, tr26, tr27, tr28, tr29, tr30, tr31, tr32, tr33)))
 else
 let t34 := IntKind.i64.wrap (v12 + 1);
 some (Sum.inl (t34, tr25, tr26, tr27, tr28, tr29, tr30, tr31, tr32, tr33)))
 else
 none)
 else
 some (Sum.inr (Sum.inl (b13, b14, b15, b16, b17, b18, b19, b20, b21))))
noncomputable def slices_IndexFunc_api_Item_api_Item_2_loop2_step (i35 : Nat) (x36 : Item) (s37 : Int × Int × Bool × Int × Int × Int × Bool × Int × Int) : Option ((Int × Int × Bool × Int × Int × Int × Bool × Int × Int) ⊕ ((Int × Int × Bool × Int × Int × Int × Bool × Int × Int) ⊕ (Int × Int × Int × Bool × Int × Int × Int × Bool × Int × Int))) :=
 let b38 := s37.1;
 let b39 := s37.2.1;
 let b40 := s37.2.2.1;
 let b41 := s37.2.2.2.1;
 let b42 := s37.2.2.2.2.1;
 let b43 := s37.2.2.2.2.2.1;
 let b44 := s37.2.2.2.2.2.2.1;
 let b45 := s37.2.2.2.2.2.2.2.1;
 let b46 := s37.2.2.2.2.2.2.2.2;
 (text_right_1 x36.symbol x36.s x36.t x36.refined x36.dX x36.dY x36.pix_w x36.pix_h x36.pix_pix b38 b39 b40 b41 b42 b43 b44 b45 b46).bind fun q23 =>
 let tr24 := q23.1;
 let tr25 := q23.2.1;
 let tr26 := q23.2.2.1;
 let tr27 := q23.2.2.2.1;
 let tr28 := q23.2.2.2.2.1;
 let tr29 := q23.2.2.2.2.2.1;
 let tr30 := q23.2.2.2.2.2.2.1;
 let tr31 := q23.2.2.2.2.2.2.2.1;
 let tr32 := q23.2.2.2.2.2.2.2.2.1;
 let tr33 := q23.2.2.2.2.2.2.2.2.2;
 (if tr24 = true then
 some (Sum.inr (Sum.inr (((i35 : Nat) : Int), tr25, tr26, tr27, tr28, tr29, tr30, tr31, tr32, tr33)))
 else
 some (Sum.inl ((tr25, tr26, tr27, tr28, tr29, tr30, tr31, tr32, tr33))))
theorem slices_IndexFunc_api_Item_api_Item_2_loop2_over (s1 : List Item) (hl : s1.length ≤ 9223372036854775807) (s37 : Int × Int × Bool × Int × Int × Int × Bool × Int × Int) : loop (slices_IndexFunc_api_Item_api_Item_2_loop2 s1) ((0, s37.1, s37.2.1, s37.2.2.1, s37.2.2.2.1, s37.2.2.2.2.1, s37.2.2.2.2.2.1, s37.2.2.2.2.2.2.1, s37.2.2.2.2.2.2.2.1, s37.2.2.2.2.2.2.2.2) : Int × Int × Int × Bool × Int × Int × Int × Bool × Int × Int) =
    overL (slices_IndexFunc_api_Item_api_Item_2_loop2_step) (fun (s37 : Int × Int × Bool × Int × Int × Int × Bool × Int × Int) => let b38 := s37.1; let b39 := s37.2.1; let b40 := s37.2.2.1; let b41 := s37.2.2.2.1; let b42 := s37.2.2.2.2.1; let b43 := s37.2.2.2.2.2.1; let b44 := s37.2.2.2.2.2.2.1; let b45 := s37.2.2.2.2.2.2.2.1; let b46 := s37.2.2.2.2.2.2.2.2; some (Sum.inl (b38, b39, b40, b41, b42, b43, b44, b45, b46))) 0 s1 s37 := by
  refine loop_over s1 (fun n (s : Int × Int × Bool × Int × Int × Int × Bool × Int × Int) => ((((n : Nat) : Int), s.1, s.2.1, s.2.2.1, s.2.2.2.1, s.2.2.2.2.1, s.2.2.2.2.2.1, s.2.2.2.2.2.2.1, s.2.2.2.2.2.2.2.1, s.2.2.2.2.2.2.2.2) : Int × Int × Int × Bool × Int × Int × Int × Bool × Int × Int)) _ _ (fun s => ?_) (fun i x s h => ?_) 0 s37 (Nat.zero_le _)
  · unfold slices_IndexFunc_api_Item_api_Item_2_loop2; simp
  · have hlt := lt_len_of_get h
    have h1 : ((i : Nat) : Int) < ((s1.length : Nat) : Int) := by omega
    have h0 : (0 : Int) ≤ ((i : Nat) : Int) := by omega
    have hw : IntKind.i64.wrap (((i : Nat) : Int) + 1) = (((i + 1 : Nat) : Nat) : Int) := w64 (by omega)
    unfold slices_IndexFunc_api_Item_api_Item_2_loop2 slices_IndexFunc_api_Item_api_Item_2_loop2_step
    simp only [h1, h0, hw, h, decide_true, if_true, and_self, true_and, Int.toNat_natCast, Option.bind_some, Option.map_bind, Function.comp_def, map_ite, map_elim, Option.map_some, Option.map_none]

theorem slices_IndexFunc_api_Item_api_Item_2_eq (s1 : List Item) (b2 b3 : Int) (b4 : Bool) (b5 b6 b7 : Int) (b8 : Bool) (b9 b10 : Int) : slices_IndexFunc_api_Item_api_Item_2 s1 b2 b3 b4 b5 b6 b7 b8 b9 b10 =
 (loop (slices_IndexFunc_api_Item_api_Item_2_loop2 s1) (0, b2, b3, b4, b5, b6, b7, b8, b9, b10)).bind (fun o68 =>
 (Sum.elim (fun (p47 : Int × Int × Bool × Int × Int × Int × Bool × Int × Int) =>
 let b48 := p47.1;
 let b49 := p47.2.1;
 let b50 := p47.2.2.1;
 let b51 := p47.2.2.2.1;
 let b52 := p47.2.2.2.2.1;
 let b53 := p47.2.2.2.2.2.1;
 let b54 := p47.2.2.2.2.2.2.1;
 let b55 := p47.2.2.2.2.2.2.2.1;
 let b56 := p47.2.2.2.2.2.2.2.2;
 some ((-1), b48, b49, b50, b51, b52, b53, b54, b55, b56))
 (fun (p57 : Int × Int × Int × Bool × Int × Int × Int × Bool × Int × Int) =>
 let v58 := p57.1;
 let b59 := p57.2.1;
 let b60 := p57.2.2.1;
 let b61 := p57.2.2.2.1;
 let b62 := p57.2.2.2.2.1;
 let b63 := p57.2.2.2.2.2.1;
 let b64 := p57.2.2.2.2.2.2.1;
 let b65 := p57.2.2.2.2.2.2.2.1;
 let b66 := p57.2.2.2.2.2.2.2.2.1;
 let b67 := p57.2.2.2.2.2.2.2.2.2;
 some (v58, b59, b60, b61, b62, b63, b64, b65, b66, b67)) o68)) := (call_eq ..).trans (by kernel_rfl)

theorem coder_interval_mid_eq (ctx1 b2 b3 b4 : Int) (b5 b6 : List Int) : coder_interval_mid ctx1 b2 b3 b4 b5 b6 =
 let t7 := IntKind.u64.wrap (b4 - b3);
 (if 0 ≤ ctx1 ∧ ctx1 < (b5.length : Int) then
 let t8 : Int := rd b5 ctx1;
 (coder_table_chance b2 t8).bind fun q9 =>
 let t10 := IntKind.u64.wrap q9;
 let t11 := IntKind.u64.wrap (t7.tdiv 4096);
 let t12 := IntKind.u64.wrap (t11 * t10);
 let t13 := IntKind.u64.wrap (b3 + t12);
 let t14 : Int := t7.tmod 4096;
 let t15 := IntKind.u64.wrap (t14 * t10);
 let t16 := IntKind.u64.wrap (t15.tdiv 4096);
 let t17 := IntKind.u64.wrap (t13 + t16);
 some (t17, b2, b3, b4, b5, b6)
 else
 none) := (call_eq ..).trans (by kernel_rfl)

theorem coder_interval_take_eq (ctx1 bit2 mid3 b4 b5 b6 : Int) (b7 b8 : List Int) : coder_interval_take ctx1 bit2 mid3 b4 b5 b6 b7 b8 =
 ((if (decide (bit2 = 1)) = true then
 some (b4, b5, mid3, b7, b8)
 else
 let t9 := IntKind.u64.wrap (mid3 + 1);
 some (b4, t9, b6, b7, b8)) : Option (Int × Int × Int × (List Int) × (List Int))).bind (fun p10 =>
 let b11 := p10.1;
 let b12 := p10.2.1;
 let b13 := p10.2.2.1;
 let b14 := p10.2.2.2.1;
 let b15 := p10.2.2.2.2;
 (if 0 ≤ ctx1 ∧ ctx1 < (b14.length : Int) then
 let t16 : Int := rd b14 ctx1;
 (coder_next b11 t16 bit2).bind fun q17 =>
 (if 0 ≤ ctx1 ∧ ctx1 < (b14.length : Int) then
 let w18 : List Int := b14.set ctx1.toNat q17;
 some (b11, b12, b13, w18, b15)
 else
 none)
 else
 none)) := (call_eq ..).trans (by kernel_rfl)

theorem coder_interval_same_eq (b1 b2 b3 : Int) (b4 b5 : List Int) : coder_interval_same b1 b2 b3 b4 b5 =
 let t6 := ishr .u64 b2 24;
 let t7 := ishr .u64 b3 24;
 some (decide (t6 = t7), b1, b2, b3, b4, b5) := (call_eq ..).trans (by kernel_rfl)

theorem coder_interval_lose_eq (b1 b2 b3 : Int) (b4 b5 : List Int) : coder_interval_lose b1 b2 b3 b4 b5 =
 let t6 := ishr .u64 b2 24;
 let t7 := IntKind.u8.wrap t6;
 let t8 := ishl .u64 b2 8;
 let t9 := iand .u64 t8 4294967295;
 let t10 := ishl .u64 b3 8;
 let t11 := iand .u64 t10 4294967295;
 let t12 := ior .u64 t11 255;
 some (t7, b1, t9, t12, b4, b5) := (call_eq ..).trans (by kernel_rfl)

theorem refine_Valid_eq (o1 o2 o3 : Int) (o4 : Bool) (o5 : Int) : refine_Valid o1 o2 o3 o4 o5 =
 let t6 := IntKind.i64.wrap (0 - o2);
 let t7 := IntKind.i64.wrap (0 - o3);
 let t8 := imax (imax (imax o2 t6) o3) t7;
 (if (decide (o1 = 0)) = true then
 (if (decide (o5 = 0)) = true then
 let t9 := imin o2 o3;
 (if (decide (t9 ≥ (-200))) = true then
 some (decide (t8 ≤ 200))
 else
 some false)
 else
 (if (decide (o5 = 1)) = true then
 let t10 := imin o2 o3;
 (if (decide (t10 ≥ (-200))) = true then
 some (decide (t8 ≤ 200))
 else
 some false)
 else
 some false))
 else
 (if (decide (o1 = 1)) = true then
 (if (decide (o5 = 0)) = true then
 let t11 := imin o2 o3;
 (if (decide (t11 ≥ (-200))) = true then
 some (decide (t8 ≤ 200))
 else
 some false)
 else
 (if (decide (o5 = 1)) = true then
 let t12 := imin o2 o3;
 (if (decide (t12 ≥ (-200))) = true then
 some (decide (t8 ≤ 200))
 else
 some false)
 else
 some false))
 else
 some false)) := (call_eq ..).trans (by kernel_rfl)

theorem refine_fits_eq (m1 : Int) (m2 : List Int) (base3 o4 o5 o6 : Int) (o7 : Bool) (o8 : Int) : refine_fits m1 m2 base3 o4 o5 o6 o7 o8 =
 (if (decide (base3 ≥ 0)) = true then
 (refine_contexts o4).bind fun q9 =>
 let t10 := IntKind.i64.wrap (((m2.length : Nat) : Int) - q9);
 let t11 := IntKind.i64.wrap (t10 - 1);
 some (decide (base3 ≤ t11))
 else
 some false) := (call_eq ..).trans (by kernel_rfl)

theorem refine_newRegion_eq (o1 o2 o3 : Int) (o4 : Bool) (o5 w6 h7 : Int) (pix8 : List Int) (r9 r10 : Int) (r11 : List Int) : refine_newRegion o1 o2 o3 o4 o5 w6 h7 pix8 r9 r10 r11 =
 some (o1, o2, o3, o4, o5, w6, h7, pix8, r9, r10, r11) := (call_eq ..).trans (by kernel_rfl)

noncomputable def refine_region_typical_loop2 (y1 b7 : Int) (s13 : Int × Int × Int × Int × Bool × Int × Int × Int × (List Int) × Int × Int × (List Int)) : Option ((Int × Int × Int × Int × Bool × Int × Int × Int × (List Int) × Int × Int × (List Int)) ⊕ ((Int × Int × Int × Bool × Int × Int × Int × (List Int) × Int × Int × (List Int)) ⊕ (Bool × Int × Int × Int × Bool × Int × Int × Int × (List Int) × Int × Int × (List Int)))) :=
 let v14 := s13.1;
 let b15 := s13.2.1;
 let b16 := s13.2.2.1;
 let b17 := s13.2.2.2.1;
 let b18 := s13.2.2.2.2.1;
 let b19 := s13.2.2.2.2.2.1;
 let b20 := s13.2.2.2.2.2.2.1;
 let b21 := s13.2.2.2.2.2.2.2.1;
 let b22 := s13.2.2.2.2.2.2.2.2.1;
 let b23 := s13.2.2.2.2.2.2.2.2.2.1;
 let b24 := s13.2.2.2.2.2.2.2.2.2.2.1;
 let b25 := s13.2.2.2.2.2.2.2.2.2.2.2;
 (if (decide (v14 < b7)) = true then
 (refine_region_flat v14 y1 b15 b16 b17 b18 b19 b20 b21 b22 b23 b24 b25).bind fun q26 =>
 let tr27 := q26.1;
 let tr28 := q26.2.1;
 let tr29 := q26.2.2.1;
 let tr30 := q26.2.2.2.1;
 let tr31 := q26.2.2.2.2.1;
 let tr32 := q26.2.2.2.2.2.1;
 let tr33 := q26.2.2.2.2.2.2.1;
 let tr34 := q26.2.2.2.2.2.2.2.1;
 let tr35 := q26.2.2.2.2.2.2.2.2.1;
 let tr36 := q26.2.2.2.2.2.2.2.2.2.1;
 let tr37 := q26.2.2.2.2.2.2.2.2.2.2.1;
 let tr38 := q26.2.2.2.2.2.2.2.2.2.2.2.1;
 let tr39 := q26.2.2.2.2.2.2.2.2.2.2.2.2;
 (if tr28 = true then
 (refine_grid_at tr34 tr35 tr36 v14 y1).bind fun q40 =>
 (if (!decide (tr27 = q40)) = true then
 some (Sum.inr (Sum.inr (false, tr29, tr30, tr31, tr32, tr33, tr34, tr35, tr36, tr37, tr38, tr39)))
 else
 let t41 := IntKind.i64.wrap (v14 + 1);
 some (Sum.inl (t41, tr29, tr30, tr31, tr32, tr33, tr34, tr35, tr36, tr37, tr38, tr39)))
 else
 let t42 := IntKind.i64.wrap (v14 + 1);
 some (Sum.inl (t42, tr29, tr30, tr31, tr32, tr33, tr34, tr35, tr36, tr37, tr38, tr39)))
 else
 some (Sum.inr (Sum.inl (b15, b16, b17, b18, b19, b20, b21, b22, b23, b24, b25))))
noncomputable def refine_region_typical_loop2_step (y1 : Int) (i43 x44 : Nat) (s45 : Int × Int × Int × Bool × Int × Int × Int × (List Int) × Int × Int × (List Int)) : Option ((Int × Int × Int × Bool × Int × Int × Int × (List Int) × Int × Int × (List Int)) ⊕ ((Int × Int × Int × Bool × Int × Int × Int × (List Int) × Int × Int × (List Int)) ⊕ (Bool × Int × Int × Int × Bool × Int × Int × Int × (List Int) × Int × Int × (List Int)))) :=
 let b46 := s45.1;
 let b47 := s45.2.1;
 let b48 := s45.2.2.1;
 let b49 := s45.2.2.2.1;
 let b50 := s45.2.2.2.2.1;
 let b51 := s45.2.2.2.2.2.1;
 let b52 := s45.2.2.2.2.2.2.1;
 let b53 := s45.2.2.2.2.2.2.2.1;
 let b54 := s45.2.2.2.2.2.2.2.2.1;
 let b55 := s45.2.2.2.2.2.2.2.2.2.1;
 let b56 := s45.2.2.2.2.2.2.2.2.2.2;
 (refine_region_flat ((i43 : Nat) : Int) y1 b46 b47 b48 b49 b50 b51 b52 b53 b54 b55 b56).bind fun q26 =>
 let tr27 := q26.1;
 let tr28 := q26.2.1;
 let tr29 := q26.2.2.1;
 let tr30 := q26.2.2.2.1;
 let tr31 := q26.2.2.2.2.1;
 let tr32 := q26.2.2.2.2.2.1;
 let tr33 := q26.2.2.2.2.2.2.1;
 let tr34 := q26.2.2.2.2.2.2.2.1;
 let tr35 := q26.2.2.2.2.2.2.2.2.1;
 let tr36 := q26.2.2.2.2.2.2.2.2.2.1;
 let tr37 := q26.2.2.2.2.2.2.2.2.2.2.1;
 let tr38 := q26.2.2.2.2.2.2.2.2.2.2.2.1;
 let tr39 := q26.2.2.2.2.2.2.2.2.2.2.2.2;
 (if tr28 = true then
 (refine_grid_at tr34 tr35 tr36 ((i43 : Nat) : Int) y1).bind fun q40 =>
 (if (!decide (tr27 = q40)) = true then
 some (Sum.inr (Sum.inr (false, tr29, tr30, tr31, tr32, tr33, tr34, tr35, tr36, tr37, tr38, tr39)))
 else
 some (Sum.inl ((tr29, tr30, tr31, tr32, tr33, tr34, tr35, tr36, tr37, tr38, tr39))))
 else
 some (Sum.inl ((tr29, tr30, tr31, tr32, tr33, tr34, tr35, tr36, tr37, tr38, tr39))))
theorem refine_region_typical_loop2_over (y1 b7 : Int) (hl : (List.range (b7).toNat).length ≤ 9223372036854775807) (s45 : Int × Int × Int × Bool × Int × Int × Int × (List Int) × Int × Int × (List Int)) : loop (refine_region_typical_loop2 y1 b7) ((0, s45.1, s45.2.1, s45.2.2.1, s45.2.2.2.1, s45.2.2.2.2.1, s45.2.2.2.2.2.1, s45.2.2.2.2.2.2.1, s45.2.2.2.2.2.2.2.1, s45.2.2.2.2.2.2.2.2.1, s45.2.2.2.2.2.2.2.2.2.1, s45.2.2.2.2.2.2.2.2.2.2) : Int × Int × Int × Int × Bool × Int × Int × Int × (List Int) × Int × Int × (List Int)) =
    overL (refine_region_typical_loop2_step y1) (fun (s45 : Int × Int × Int × Bool × Int × Int × Int × (List Int) × Int × Int × (List Int)) => let b46 := s45.1; let b47 := s45.2.1; let b48 := s45.2.2.1; let b49 := s45.2.2.2.1; let b50 := s45.2.2.2.2.1; let b51 := s45.2.2.2.2.2.1; let b52 := s45.2.2.2.2.2.2.1; let b53 := s45.2.2.2.2.2.2.2.1; let b54 := s45.2.2.2.2.2.2.2.2.1; let b55 := s45.2.2.2.2.2.2.2.2.2.1; let b56 := s45.2.2.2.2.2.2.2.2.2.2; some (Sum.inl (b46, b47, b48, b49, b50, b51, b52, b53, b54, b55, b56))) 0 (List.range (b7).toNat) s45 := by
  refine loop_over (List.range (b7).toNat) (fun n (s : Int × Int × Int × Bool × Int × Int × Int × (List Int) × Int × Int × (List Int)) => ((((n : Nat) : Int), s.1, s.2.1, s.2.2.1, s.2.2.2.1, s.2.2.2.2.1, s.2.2.2.2.2.1, s.2.2.2.2.2.2.1, s.2.2.2.2.2.2.2.1, s.2.2.2.2.2.2.2.2.1, s.2.2.2.2.2.2.2.2.2.1, s.2.2.2.2.2.2.2.2.2.2) : Int × Int × Int × Int × Bool × Int × Int × Int × (List Int) × Int × Int × (List Int))) _ _ (fun s => ?_) (fun i x s h => ?_) 0 s45 (Nat.zero_le _)
  · have h1 : ¬ (((List.range (b7).toNat).length : Nat) : Int) < b7 := by simp only [List.length_range]; omega
    unfold refine_region_typical_loop2; simp only [h1, decide_false, Bool.false_eq_true, if_false, Option.map_some]
  · have hlt := lt_len_of_get h
    rw [List.length_range] at hlt hl
    rw [List.getElem?_range hlt] at h
    cases h
    have h1 : ((i : Nat) : Int) < b7 := by omega
    have h0 : (0 : Int) ≤ ((i : Nat) : Int) := by omega
    have hw : IntKind.i64.wrap (((i : Nat) : Int) + 1) = (((i + 1 : Nat) : Nat) : Int) := w64 (by omega)
    unfold refine_region_typical_loop2 refine_region_typical_loop2_step
    simp only [h1, h0, hw, decide_true, if_true, and_self, true_and, Int.toNat_natCast, Option.bind_some, Option.map_bind, Function.comp_def, map_ite, map_elim, Option.map_some, Option.map_none]

theorem refine_region_typical_eq (y1 b2 b3 b4 : Int) (b5 : Bool) (b6 b7 b8 : Int) (b9 : List Int) (b10 b11 : Int) (b12 : List Int) : refine_region_typical y1 b2 b3 b4 b5 b6 b7 b8 b9 b10 b11 b12 =
 (loop (refine_region_typical_loop2 y1 b7) (0, b2, b3, b4, b5, b6, b7, b8, b9, b10, b11, b12)).bind (fun o82 =>
 (Sum.elim (fun (p57 : Int × Int × Int × Bool × Int × Int × Int × (List Int) × Int × Int × (List Int)) =>
 let b58 := p57.1;
 let b59 := p57.2.1;
 let b60 := p57.2.2.1;
 let b61 := p57.2.2.2.1;
 let b62 := p57.2.2.2.2.1;
 let b63 := p57.2.2.2.2.2.1;
 let b64 := p57.2.2.2.2.2.2.1;
 let b65 := p57.2.2.2.2.2.2.2.1;
 let b66 := p57.2.2.2.2.2.2.2.2.1;
 let b67 := p57.2.2.2.2.2.2.2.2.2.1;
 let b68 := p57.2.2.2.2.2.2.2.2.2.2;
 some (true, b58, b59, b60, b61, b62, b63, b64, b65, b66, b67, b68))
 (fun (p69 : Bool × Int × Int × Int × Bool × Int × Int × Int × (List Int) × Int × Int × (List Int)) =>
 let v70 := p69.1;
 let b71 := p69.2.1;
 let b72 := p69.2.2.1;
 let b73 := p69.2.2.2.1;
 let b74 := p69.2.2.2.2.1;
 let b75 := p69.2.2.2.2.2.1;
 let b76 := p69.2.2.2.2.2.2.1;
 let b77 := p69.2.2.2.2.2.2.2.1;
 let b78 := p69.2.2.2.2.2.2.2.2.1;
 let b79 := p69.2.2.2.2.2.2.2.2.2.1;
 let b80 := p69.2.2.2.2.2.2.2.2.2.2.1;
 let b81 := p69.2.2.2.2.2.2.2.2.2.2.2;
 some (v70, b71, b72, b73, b74, b75, b76, b77, b78, b79, b80, b81)) o82)) := (call_eq ..).trans (by kernel_rfl)

noncomputable def refine_region_flat_loop3 (x1 y2 b4 b5 b11 b12 : Int) (b13 : List Int) (q16 v17 : Int) : Option ((Int) ⊕ ((Unit) ⊕ (Int × Bool))) :=
 (if (decide (v17 < 9)) = true then
 let t18 := IntKind.i64.wrap (x1 - b4);
 let t19 : Int := v17.tmod 3;
 let t20 := IntKind.i64.wrap (t18 + t19);
 let t21 := IntKind.i64.wrap (t20 - 1);
 let t22 := IntKind.i64.wrap (y2 - b5);
 let t23 := IntKind.i64.wrap (v17.tdiv 3);
 let t24 := IntKind.i64.wrap (t22 + t23);
 let t25 := IntKind.i64.wrap (t24 - 1);
 (refine_grid_at b11 b12 b13 t21 t25).bind fun q26 =>
 (if (!decide (q26 = q16)) = true then
 some (Sum.inr (Sum.inr (0, false)))
 else
 let t27 := IntKind.i64.wrap (v17 + 1);
 some (Sum.inl t27))
 else
 some (Sum.inr (Sum.inl ())))

theorem refine_region_flat_eq (x1 y2 b3 b4 b5 : Int) (b6 : Bool) (b7 b8 b9 : Int) (b10 : List Int) (b11 b12 : Int) (b13 : List Int) : refine_region_flat x1 y2 b3 b4 b5 b6 b7 b8 b9 b10 b11 b12 b13 =
 let t14 := IntKind.i64.wrap (x1 - b4);
 let t15 := IntKind.i64.wrap (y2 - b5);
 (refine_grid_at b11 b12 b13 t14 t15).bind fun q16 =>
 (loop (refine_region_flat_loop3 x1 y2 b4 b5 b11 b12 b13 q16) 0).bind (fun o35 =>
 (Sum.elim (fun (p31 : Unit) =>
 some (q16, true, b3, b4, b5, b6, b7, b8, b9, b10, b11, b12, b13))
 (fun (p32 : Int × Bool) =>
 let v33 := p32.1;
 let v34 := p32.2;
 some (v33, v34, b3, b4, b5, b6, b7, b8, b9, b10, b11, b12, b13)) o35)) := (call_eq ..).trans (by kernel_rfl)

noncomputable def refine_region_context_loop3 (x1 y2 b8 b9 : Int) (b10 : List Int) (q14 : (List Arr2)) (s15 : Int × Int) : Option ((Int × Int) ⊕ (Int)) :=
 let n16 := s15.1;
 let v17 := s15.2;
 (if (decide (v17 < ((q14.length : Nat) : Int))) = true then
 (if 0 ≤ v17 then
 (q14[v17.toNat]?).bind fun e18 =>
 let t19 := IntKind.i64.wrap (2 * n16);
 (if 0 ≤ (0 : Int) ∧ (0 : Int) < ((2 : Nat) : Int) then
 let t20 := IntKind.i64.wrap (x1 + e18.a0);
 (if 0 ≤ (1 : Int) ∧ (1 : Int) < ((2 : Nat) : Int) then
 let t21 := IntKind.i64.wrap (y2 + e18.a1);
 (refine_grid_at b8 b9 b10 t20 t21).bind fun q22 =>
 let t23 := IntKind.i64.wrap q22;
 let t24 := IntKind.i64.wrap (t19 + t23);
 let t25 := IntKind.i64.wrap (v17 + 1);
 some (Sum.inl (t24, t25))
 else
 none)
 else
 none)
 else
 none)
 else
 some (Sum.inr n16))
noncomputable def refine_region_context_loop8 (x1 y2 b4 b5 b11 b12 : Int) (b13 : List Int) (q27 : (List Arr2)) (s28 : Int × Int) : Option ((Int × Int) ⊕ (Int)) :=
 let n29 := s28.1;
 let v30 := s28.2;
 (if (decide (v30 < ((q27.length : Nat) : Int))) = true then
 (if 0 ≤ v30 then
 (q27[v30.toNat]?).bind fun e31 =>
 let t32 := IntKind.i64.wrap (2 * n29);
 let t33 := IntKind.i64.wrap (x1 - b4);
 (if 0 ≤ (0 : Int) ∧ (0 : Int) < ((2 : Nat) : Int) then
 let t34 := IntKind.i64.wrap (t33 + e31.a0);
 let t35 := IntKind.i64.wrap (y2 - b5);
 (if 0 ≤ (1 : Int) ∧ (1 : Int) < ((2 : Nat) : Int) then
 let t36 := IntKind.i64.wrap (t35 + e31.a1);
 (refine_grid_at b11 b12 b13 t34 t36).bind fun q37 =>
 let t38 := IntKind.i64.wrap q37;
 let t39 := IntKind.i64.wrap (t32 + t38);
 let t40 := IntKind.i64.wrap (v30 + 1);
 some (Sum.inl (t39, t40))
 else
 none)
 else
 none)
 else
 none)
 else
 some (Sum.inr n29))
theorem refine_region_context_eq (x1 y2 b3 b4 b5 : Int) (b6 : Bool) (b7 b8 b9 : Int) (b10 : List Int) (b11 b12 : Int) (b13 : List Int) : refine_region_context x1 y2 b3 b4 b5 b6 b7 b8 b9 b10 b11 b12 b13 =
 (refine_fresh b3).bind fun q14 =>
 (loop (refine_region_context_loop3 x1 y2 b8 b9 b10 q14) (0, 0)).bind (fun n26 =>
 (refine_beside).bind fun q27 =>
 (loop (refine_region_context_loop8 x1 y2 b4 b5 b11 b12 b13 q27) (n26, 0)).bind (fun n41 =>
 some (n41, b3, b4, b5, b6, b7, b8, b9, b10, b11, b12, b13))) := (call_eq ..).trans (by kernel_rfl)

theorem refine_grid_at_eq (g1 g2 : Int) (g3 : List Int) (x4 y5 : Int) : refine_grid_at g1 g2 g3 x4 y5 =
 ((if (decide (x4 < 0)) = true then
 some true
 else
 (if (decide (y5 < 0)) = true then
 some true
 else
 (if (decide (x4 ≥ g1)) = true then
 some true
 else
 some (decide (y5 ≥ g2))))) : Option (Bool)).bind (fun v6 =>
 (if v6 = true then
 some 0
 else
 let t7 := IntKind.i64.wrap (y5 * g1);
 let t8 := IntKind.i64.wrap (t7 + x4);
 (if 0 ≤ t8 ∧ t8 < (g3.length : Int) then
 some (rd g3 t8)
 else
 none))) := (call_eq ..).trans (by kernel_rfl)

theorem number_tail_take_eq (b1 : Int) : number_tail_take b1 =
 let t2 := IntKind.i64.wrap (b1 + 1);
 let t3 := imin t2 47;
 some (b1, t3) := (call_eq ..).trans (by kernel_rfl)

theorem ref10_isShift_eq (n1 : Int) : ref10_isShift n1 =
 (if (decide (n1 ≥ (-100000))) = true then
 some (decide (n1 ≤ 100000))
 else
 some false) := (call_eq ..).trans (by kernel_rfl)

theorem ref10_isSide_eq (n1 : Int) : ref10_isSide n1 =
 (if (decide (n1 ≥ (-200))) = true then
 some (decide (n1 ≤ 200))
 else
 some false) := (call_eq ..).trans (by kernel_rfl)

theorem symbol_begun_1_eq (b1 b2 : Int) (b3 : List Int) : symbol_begun_1 b1 b2 b3 =
 (symbol_isShape b1 b2 b3).bind fun q4 =>
 some (!q4) := (call_eq ..).trans (by kernel_rfl)

theorem generic_pixels_eq (template1 : Int) : generic_pixels template1 =
 (if (decide (template1 = 0)) = true then
 some [(Arr2.mk (-1) (-2)), (Arr2.mk 0 (-2)), (Arr2.mk 1 (-2)), (Arr2.mk (-2) (-1)), (Arr2.mk (-1) (-1)), (Arr2.mk 0 (-1)), (Arr2.mk 1 (-1)), (Arr2.mk 2 (-1)), (Arr2.mk (-2) 0), (Arr2.mk (-1) 0)]
 else
 (if (decide (template1 = 1)) = true then
 some [(Arr2.mk (-1) (-2)), (Arr2.mk 0 (-2)), (Arr2.mk (-1) (-1)), (Arr2.mk 0 (-1)), (Arr2.mk 1 (-1)), (Arr2.mk (-2) 0), (Arr2.mk (-1) 0)]
 else
 (if (decide (template1 = 2)) = true then
 some [(Arr2.mk (-2) (-1)), (Arr2.mk (-1) (-1)), (Arr2.mk 0 (-1)), (Arr2.mk 1 (-1)), (Arr2.mk 2 (-1)), (Arr2.mk (-2) 0), (Arr2.mk (-1) 0)]
 else
 some [(Arr2.mk (-1) (-1)), (Arr2.mk 0 (-1)), (Arr2.mk 1 (-1)), (Arr2.mk (-1) 0)]))) := (call_eq ..).trans (by kernel_rfl)

theorem refine_fresh_eq (template1 : Int) : refine_fresh template1 =
 (if (decide (template1 = 0)) = true then
 some [(Arr2.mk (-1) (-1)), (Arr2.mk 0 (-1)), (Arr2.mk 1 (-1)), (Arr2.mk (-1) 0)]
 else
 some [(Arr2.mk 0 (-1)), (Arr2.mk (-1) 0)]) := (call_eq ..).trans (by kernel_rfl)

noncomputable def generic_clash_loop2 (b1 b2 : Int) (b3 : List Int) (skip4 skip5 : Int) (skip6 : List Int) (v7 : Int) : Option ((Int) ⊕ ((Unit) ⊕ (Bool))) :=
 (if (decide (v7 < ((b3.length : Nat) : Int))) = true then
 (if 0 ≤ v7 ∧ v7 < (b3.length : Int) then
 (if (decide (rd b3 v7 = 1)) = true then
 (generic_sides skip4 skip5 skip6 b1 b2).bind fun q8 =>
 (if q8 = true then
 (generic_skips skip4 skip5 skip6 v7).bind fun q9 =>
 (if q9 = true then
 some (Sum.inr (Sum.inr true))
 else
 let t10 := IntKind.i64.wrap (v7 + 1);
 some (Sum.inl t10))
 else
 let t11 := IntKind.i64.wrap (v7 + 1);
 some (Sum.inl t11))
 else
 let t12 := IntKind.i64.wrap (v7 + 1);
 some (Sum.inl t12))
 else
 none)
 else
 some (Sum.inr (Sum.inl ())))
noncomputable def generic_clash_loop2_step (b1 b2 skip4 skip5 : Int) (skip6 : List Int) (i13 : Nat) (x14 : Int) (s15 : Unit) : Option ((Unit) ⊕ ((Unit) ⊕ (Bool))) :=
 (if (decide (x14 = 1)) = true then
 (generic_sides skip4 skip5 skip6 b1 b2).bind fun q8 =>
 (if q8 = true then
 (generic_skips skip4 skip5 skip6 ((i13 : Nat) : Int)).bind fun q9 =>
 (if q9 = true then
 some (Sum.inr (Sum.inr true))
 else
 some (Sum.inl (())))
 else
 some (Sum.inl (())))
 else
 some (Sum.inl (())))
theorem generic_clash_loop2_over (b1 b2 : Int) (b3 : List Int) (skip4 skip5 : Int) (skip6 : List Int) (hl : b3.length ≤ 9223372036854775807) (s15 : Unit) : loop (generic_clash_loop2 b1 b2 b3 skip4 skip5 skip6) (0 : Int) =
    overL (generic_clash_loop2_step b1 b2 skip4 skip5 skip6) (fun (s15 : Unit) => some (Sum.inl ())) 0 b3 s15 := by
  refine loop_over b3 (fun n (s : Unit) => (((n : Nat) : Int) : Int)) _ _ (fun s => ?_) (fun i x s h => ?_) 0 s15 (Nat.zero_le _)
  · unfold generic_clash_loop2; simp
  · have hlt := lt_len_of_get h
    have h1 : ((i : Nat) : Int) < ((b3.length : Nat) : Int) := by omega
    have h0 : (0 : Int) ≤ ((i : Nat) : Int) := by omega
    have hw : IntKind.i64.wrap (((i : Nat) : Int) + 1) = (((i + 1 : Nat) : Nat) : Int) := w64 (by omega)
    have hr : rd b3 ((i : Nat) : Int) = x := rd_nat h
    unfold generic_clash_loop2 generic_clash_loop2_step
    simp only [h1, h0, hw, h, hr, decide_true, if_true, and_self, true_and, Int.toNat_natCast, Option.bind_some, Option.map_bind, Function.comp_def, map_ite, map_elim, Option.map_some, Option.map_none]

theorem generic_clash_eq (b1 b2 : Int) (b3 : List Int) (skip4 skip5 : Int) (skip6 : List Int) : generic_clash b1 b2 b3 skip4 skip5 skip6 =
 (loop (generic_clash_loop2 b1 b2 b3 skip4 skip5 skip6) 0).bind (fun o18 =>
 (Sum.elim (fun (p16 : Unit) =>
 some false)
 (fun (v17 : Bool) =>
 some v17) o18)) := (call_eq ..).trans (by kernel_rfl)

theorem generic_sides_eq (skip1 skip2 : Int) (skip3 : List Int) (w4 h5 : Int) : generic_sides skip1 skip2 skip3 w4 h5 =
 (if (decide (skip1 = 0)) = true then
 (if (decide (skip2 = 0)) = true then
 some true
 else
 (if (decide (skip1 = w4)) = true then
 some (decide (skip2 = h5))
 else
 some false))
 else
 (if (decide (skip1 = w4)) = true then
 some (decide (skip2 = h5))
 else
 some false)) := (call_eq ..).trans (by kernel_rfl)

theorem generic_fits_eq (m1 : Int) (m2 : List Int) (base3 o4 o5 o6 : Int) (o7 : Bool) (o8 : Int) : generic_fits m1 m2 base3 o4 o5 o6 o7 o8 =
 (if (decide (base3 ≥ 0)) = true then
 (generic_contexts o4 o5 o6 o7 o8).bind fun q9 =>
 let t10 := IntKind.i64.wrap (((m2.length : Nat) : Int) - q9);
 let t11 := IntKind.i64.wrap (t10 - 1);
 some (decide (base3 ≤ t11))
 else
 some false) := (call_eq ..).trans (by kernel_rfl)

noncomputable def generic_put_loop13 (base1 b7 : Int) (b9 : List Int) (skip10 skip11 : Int) (skip12 : List Int) (v24 : Int) (s77 : Int × Int × Int × Int × (List Int) × (List Int) × Int × Int × (List Int) × (List Arr2)) : Option ((Int × Int × Int × Int × (List Int) × (List Int) × Int × Int × (List Int) × (List Arr2)) ⊕ (Int × Int × Int × (List Int) × (List Int) × Int × Int × (List Int) × (List Arr2))) :=
 let v78 := s77.1;
 let b79 := s77.2.1;
 let b80 := s77.2.2.1;
 let b81 := s77.2.2.2.1;
 let b82 := s77.2.2.2.2.1;
 let b83 := s77.2.2.2.2.2.1;
 let b84 := s77.2.2.2.2.2.2.1;
 let b85 := s77.2.2.2.2.2.2.2.1;
 let b86 := s77.2.2.2.2.2.2.2.2.1;
 let b87 := s77.2.2.2.2.2.2.2.2.2;
 (if (decide (v78 < b7)) = true then
 let t88 := IntKind.i64.wrap (v24 * b7);
 let t89 := IntKind.i64.wrap (t88 + v78);
 (generic_skips skip10 skip11 skip12 t89).bind fun q90 =>
 (if (!q90) = true then
 (generic_plane_context v78 v24 b84 b85 b86 b87).bind fun q91 =>
 let tr92 := q91.1;
 let tr93 := q91.2.1;
 let tr94 := q91.2.2.1;
 let tr95 := q91.2.2.2.1;
 let tr96 := q91.2.2.2.2;
 let t97 := IntKind.i64.wrap (base1 + tr92);
 (if 0 ≤ t89 ∧ t89 < (b9.length : Int) then
 let t98 := IntKind.i64.wrap (rd b9 t89);
 (coder_Encoder_Put t97 t98 b79 b80 b81 b82 b83).bind fun q99 =>
 let tr100 := q99.1;
 let tr101 := q99.2.1;
 let tr102 := q99.2.2.1;
 let tr103 := q99.2.2.2.1;
 let tr104 := q99.2.2.2.2.1;
 let tr105 := q99.2.2.2.2.2;
 let t106 := IntKind.i64.wrap (v78 + 1);
 some (Sum.inl (t106, tr101, tr102, tr103, tr104, tr105, tr93, tr94, tr95, tr96))
 else
 none)
 else
 let t107 := IntKind.i64.wrap (v78 + 1);
 some (Sum.inl (t107, b79, b80, b81, b82, b83, b84, b85, b86, b87)))
 else
 some (Sum.inr (b79, b80, b81, b82, b83, b84, b85, b86, b87)))
noncomputable def generic_put_loop13_step (base1 b7 : Int) (b9 : List Int) (skip10 skip11 : Int) (skip12 : List Int) (v24 : Int) (i108 x109 : Nat) (s110 : Int × Int × Int × (List Int) × (List Int) × Int × Int × (List Int) × (List Arr2)) : Option ((Int × Int × Int × (List Int) × (List Int) × Int × Int × (List Int) × (List Arr2)) ⊕ (Int × Int × Int × (List Int) × (List Int) × Int × Int × (List Int) × (List Arr2))) :=
 let b111 := s110.1;
 let b112 := s110.2.1;
 let b113 := s110.2.2.1;
 let b114 := s110.2.2.2.1;
 let b115 := s110.2.2.2.2.1;
 let b116 := s110.2.2.2.2.2.1;
 let b117 := s110.2.2.2.2.2.2.1;
 let b118 := s110.2.2.2.2.2.2.2.1;
 let b119 := s110.2.2.2.2.2.2.2.2;
 let t88 := IntKind.i64.wrap (v24 * b7);
 let t89 := IntKind.i64.wrap (t88 + ((i108 : Nat) : Int));
 (generic_skips skip10 skip11 skip12 t89).bind fun q90 =>
 (if (!q90) = true then
 (generic_plane_context ((i108 : Nat) : Int) v24 b116 b117 b118 b119).bind fun q91 =>
 let tr92 := q91.1;
 let tr93 := q91.2.1;
 let tr94 := q91.2.2.1;
 let tr95 := q91.2.2.2.1;
 let tr96 := q91.2.2.2.2;
 let t97 := IntKind.i64.wrap (base1 + tr92);
 (if 0 ≤ t89 ∧ t89 < (b9.length : Int) then
 let t98 := IntKind.i64.wrap (rd b9 t89);
 (coder_Encoder_Put t97 t98 b111 b112 b113 b114 b115).bind fun q99 =>
 let tr100 := q99.1;
 let tr101 := q99.2.1;
 let tr102 := q99.2.2.1;
 let tr103 := q99.2.2.2.1;
 let tr104 := q99.2.2.2.2.1;
 let tr105 := q99.2.2.2.2.2;
 some (Sum.inl ((tr101, tr102, tr103, tr104, tr105, tr93, tr94, tr95, tr96)))
 else
 none)
 else
 some (Sum.inl ((b111, b112, b113, b114, b115, b116, b117, b118, b119))))
theorem generic_put_loop13_over (base1 b7 : Int) (b9 : List Int) (skip10 skip11 : Int) (skip12 : List Int) (v24 : Int) (hl : (List.range (b7).toNat).length ≤ 9223372036854775807) (s110 : Int × Int × Int × (List Int) × (List Int) × Int × Int × (List Int) × (List Arr2)) : loop (generic_put_loop13 base1 b7 b9 skip10 skip11 skip12 v24) ((0, s110.1, s110.2.1, s110.2.2.1, s110.2.2.2.1, s110.2.2.2.2.1, s110.2.2.2.2.2.1, s110.2.2.2.2.2.2.1, s110.2.2.2.2.2.2.2.1, s110.2.2.2.2.2.2.2.2) : Int × Int × Int × Int × (List Int) × (List Int) × Int × Int × (List Int) × (List Arr2)) =
    overL (generic_put_loop13_step base1 b7 b9 skip10 skip11 skip12 v24) (fun (s110 : Int × Int × Int × (List Int) × (List Int) × Int × Int × (List Int) × (List Arr2)) => let b111 := s110.1; let b112 := s110.2.1; let b113 := s110.2.2.1; let b114 := s110.2.2.2.1; let b115 := s110.2.2.2.2.1; let b116 := s110.2.2.2.2.2.1; let b117 := s110.2.2.2.2.2.2.1; let b118 := s110.2.2.2.2.2.2.2.1; let b119 := s110.2.2.2.2.2.2.2.2; some (b111, b112, b113, b114, b115, b116, b117, b118, b119)) 0 (List.range (b7).toNat) s110 := by
  refine loop_over (List.range (b7).toNat) (fun n (s : Int × Int × Int × (List Int) × (List Int) × Int × Int × (List Int) × (List Arr2)) => ((((n : Nat) : Int), s.1, s.2.1, s.2.2.1, s.2.2.2.1, s.2.2.2.2.1, s.2.2.2.2.2.1, s.2.2.2.2.2.2.1, s.2.2.2.2.2.2.2.1, s.2.2.2.2.2.2.2.2) : Int × Int × Int × Int × (List Int) × (List Int) × Int × Int × (List Int) × (List Arr2))) _ _ (fun s => ?_) (fun i x s h => ?_) 0 s110 (Nat.zero_le _)
  · have h1 : ¬ (((List.range (b7).toNat).length : Nat) : Int) < b7 := by simp only [List.length_range]; omega
    unfold generic_put_loop13; simp only [h1, decide_false, Bool.false_eq_true, if_false, Option.map_some]
  · have hlt := lt_len_of_get h
    rw [List.length_range] at hlt hl
    rw [List.getElem?_range hlt] at h
    cases h
    have h1 : ((i : Nat) : Int) < b7 := by omega
    have h0 : (0 : Int) ≤ ((i : Nat) : Int) := by omega
    have hw : IntKind.i64.wrap (((i : Nat) : Int) + 1) = (((i + 1 : Nat) : Nat) : Int) := w64 (by omega)
    unfold generic_put_loop13 generic_put_loop13_step
    simp only [h1, h0, hw, decide_true, if_true, and_self, true_and, Int.toNat_natCast, Option.bind_some, Option.map_bind, Function.comp_def, map_ite, map_elim, Option.map_some, Option.map_none]

noncomputable def generic_put_loop4 (base1 o2 o3 o4 : Int) (o5 : Bool) (o6 b7 b8 : Int) (b9 : List Int) (skip10 skip11 : Int) (skip12 : List Int) (s23 : Int × Int × Int × Int × (List Int) × (List Int) × Int × Int × (List Int) × (List Arr2)) : Option ((Int × Int × Int × Int × (List Int) × (List Int) × Int × Int × (List Int) × (List Arr2)) ⊕ (Int × Int × Int × (List Int) × (List Int) × Int × Int × (List Int) × (List Arr2))) :=
 let v24 := s23.1;
 let b25 := s23.2.1;
 let b26 := s23.2.2.1;
 let b27 := s23.2.2.2.1;
 let b28 := s23.2.2.2.2.1;
 let b29 := s23.2.2.2.2.2.1;
 let b30 := s23.2.2.2.2.2.2.1;
 let b31 := s23.2.2.2.2.2.2.2.1;
 let b32 := s23.2.2.2.2.2.2.2.2.1;
 let b33 := s23.2.2.2.2.2.2.2.2.2;
 (if (decide (v24 < b8)) = true then
 ((if o5 = true then
 (generic_plane_above v24 skip10 skip11 skip12 b30 b31 b32 b33).bind fun q34 =>
 let tr35 := q34.1;
 let tr36 := q34.2.1;
 let tr37 := q34.2.2.1;
 let tr38 := q34.2.2.2.1;
 let tr39 := q34.2.2.2.2;
 let t40 := IntKind.i64.wrap (v24 * b7);
 let t41 := IntKind.i64.wrap (v24 + 1);
 let t42 := IntKind.i64.wrap (t41 * b7);
 (if 0 ≤ t42 ∧ t42 ≤ ((b9.length : Nat) : Int) then
 (if 0 ≤ t40 ∧ t40 ≤ t42 then
 let t43 : List Int := cutL b9 t40.toNat t42.toNat;
 (bytes_Equal tr35 t43).bind fun q44 =>
 ((if q44 = true then
 some 1
 else
 some 0) : Option (Int)).bind (fun bit45 =>
 (generic_contexts o2 o3 o4 o5 o6).bind fun q46 =>
 let t47 := IntKind.i64.wrap (base1 + q46);
 (coder_Encoder_Put t47 bit45 b25 b26 b27 b28 b29).bind fun q48 =>
 let tr49 := q48.1;
 let tr50 := q48.2.1;
 let tr51 := q48.2.2.1;
 let tr52 := q48.2.2.2.1;
 let tr53 := q48.2.2.2.2.1;
 let tr54 := q48.2.2.2.2.2;
 (if (decide (bit45 = 1)) = true then
 some (Sum.inr (tr50, tr51, tr52, tr53, tr54, tr36, tr37, tr38, tr39))
 else
 some (Sum.inl (tr50, tr51, tr52, tr53, tr54, tr36, tr37, tr38, tr39))))
 else
 none)
 else
 none)
 else
 some (Sum.inl (b25, b26, b27, b28, b29, b30, b31, b32, b33))) : Option ((Int × Int × Int × (List Int) × (List Int) × Int × Int × (List Int) × (List Arr2)) ⊕ (Int × Int × Int × (List Int) × (List Int) × Int × Int × (List Int) × (List Arr2)))).bind (fun o76 =>
 (Sum.elim (fun (p55 : Int × Int × Int × (List Int) × (List Int) × Int × Int × (List Int) × (List Arr2)) =>
 let b56 := p55.1;
 let b57 := p55.2.1;
 let b58 := p55.2.2.1;
 let b59 := p55.2.2.2.1;
 let b60 := p55.2.2.2.2.1;
 let b61 := p55.2.2.2.2.2.1;
 let b62 := p55.2.2.2.2.2.2.1;
 let b63 := p55.2.2.2.2.2.2.2.1;
 let b64 := p55.2.2.2.2.2.2.2.2;
 (loop (generic_put_loop13 base1 b7 b9 skip10 skip11 skip12 v24) (0, b56, b57, b58, b59, b60, b61, b62, b63, b64)).bind (fun p120 =>
 let b121 := p120.1;
 let b122 := p120.2.1;
 let b123 := p120.2.2.1;
 let b124 := p120.2.2.2.1;
 let b125 := p120.2.2.2.2.1;
 let b126 := p120.2.2.2.2.2.1;
 let b127 := p120.2.2.2.2.2.2.1;
 let b128 := p120.2.2.2.2.2.2.2.1;
 let b129 := p120.2.2.2.2.2.2.2.2;
 let t130 := IntKind.i64.wrap (v24 + 1);
 some (Sum.inl (t130, b121, b122, b123, b124, b125, b126, b127, b128, b129))))
 (fun (p65 : Int × Int × Int × (List Int) × (List Int) × Int × Int × (List Int) × (List Arr2)) =>
 let b66 := p65.1;
 let b67 := p65.2.1;
 let b68 := p65.2.2.1;
 let b69 := p65.2.2.2.1;
 let b70 := p65.2.2.2.2.1;
 let b71 := p65.2.2.2.2.2.1;
 let b72 := p65.2.2.2.2.2.2.1;
 let b73 := p65.2.2.2.2.2.2.2.1;
 let b74 := p65.2.2.2.2.2.2.2.2;
 let t75 := IntKind.i64.wrap (v24 + 1);
 some (Sum.inl (t75, b66, b67, b68, b69, b70, b71, b72, b73, b74))) o76))
 else
 some (Sum.inr (b25, b26, b27, b28, b29, b30, b31, b32, b33)))
noncomputable def generic_put_loop4_step (base1 o2 o3 o4 : Int) (o5 : Bool) (o6 b7 : Int) (b9 : List Int) (skip10 skip11 : Int) (skip12 : List Int) (i131 x132 : Nat) (s133 : Int × Int × Int × (List Int) × (List Int) × Int × Int × (List Int) × (List Arr2)) : Option ((Int × Int × Int × (List Int) × (List Int) × Int × Int × (List Int) × (List Arr2)) ⊕ (Int × Int × Int × (List Int) × (List Int) × Int × Int × (List Int) × (List Arr2))) :=
 let b134 := s133.1;
 let b135 := s133.2.1;
 let b136 := s133.2.2.1;
 let b137 := s133.2.2.2.1;
 let b138 := s133.2.2.2.2.1;
 let b139 := s133.2.2.2.2.2.1;
 let b140 := s133.2.2.2.2.2.2.1;
 let b141 := s133.2.2.2.2.2.2.2.1;
 let b142 := s133.2.2.2.2.2.2.2.2;
 ((if o5 = true then
 (generic_plane_above ((i131 : Nat) : Int) skip10 skip11 skip12 b139 b140 b141 b142).bind fun q34 =>
 let tr35 := q34.1;
 let tr36 := q34.2.1;
 let tr37 := q34.2.2.1;
 let tr38 := q34.2.2.2.1;
 let tr39 := q34.2.2.2.2;
 let t40 := IntKind.i64.wrap (((i131 : Nat) : Int) * b7);
 let t41 := IntKind.i64.wrap (((i131 : Nat) : Int) + 1);
 let t42 := IntKind.i64.wrap (t41 * b7);
 (if 0 ≤ t42 ∧ t42 ≤ ((b9.length : Nat) : Int) then
 (if 0 ≤ t40 ∧ t40 ≤ t42 then
 let t43 : List Int := cutL b9 t40.toNat t42.toNat;
 (bytes_Equal tr35 t43).bind fun q44 =>
 ((if q44 = true then
 some 1
 else
 some 0) : Option (Int)).bind (fun bit45 =>
 (generic_contexts o2 o3 o4 o5 o6).bind fun q46 =>
 let t47 := IntKind.i64.wrap (base1 + q46);
 (coder_Encoder_Put t47 bit45 b134 b135 b136 b137 b138).bind fun q48 =>
 let tr49 := q48.1;
 let tr50 := q48.2.1;
 let tr51 := q48.2.2.1;
 let tr52 := q48.2.2.2.1;
 let tr53 := q48.2.2.2.2.1;
 let tr54 := q48.2.2.2.2.2;
 (if (decide (bit45 = 1)) = true then
 some (Sum.inr (tr50, tr51, tr52, tr53, tr54, tr36, tr37, tr38, tr39))
 else
 some (Sum.inl (tr50, tr51, tr52, tr53, tr54, tr36, tr37, tr38, tr39))))
 else
 none)
 else
 none)
 else
 some (Sum.inl (b134, b135, b136, b137, b138, b139, b140, b141, b142))) : Option ((Int × Int × Int × (List Int) × (List Int) × Int × Int × (List Int) × (List Arr2)) ⊕ (Int × Int × Int × (List Int) × (List Int) × Int × Int × (List Int) × (List Arr2)))).bind (fun o76 =>
 (Sum.elim (fun (p55 : Int × Int × Int × (List Int) × (List Int) × Int × Int × (List Int) × (List Arr2)) =>
 let b56 := p55.1;
 let b57 := p55.2.1;
 let b58 := p55.2.2.1;
 let b59 := p55.2.2.2.1;
 let b60 := p55.2.2.2.2.1;
 let b61 := p55.2.2.2.2.2.1;
 let b62 := p55.2.2.2.2.2.2.1;
 let b63 := p55.2.2.2.2.2.2.2.1;
 let b64 := p55.2.2.2.2.2.2.2.2;
 (loop (generic_put_loop13 base1 b7 b9 skip10 skip11 skip12 ((i131 : Nat) : Int)) (0, b56, b57, b58, b59, b60, b61, b62, b63, b64)).bind (fun p120 =>
 let b121 := p120.1;
 let b122 := p120.2.1;
 let b123 := p120.2.2.1;
 let b124 := p120.2.2.2.1;
 let b125 := p120.2.2.2.2.1;
 let b126 := p120.2.2.2.2.2.1;
 let b127 := p120.2.2.2.2.2.2.1;
 let b128 := p120.2.2.2.2.2.2.2.1;
 let b129 := p120.2.2.2.2.2.2.2.2;
 some (Sum.inl ((b121, b122, b123, b124, b125, b126, b127, b128, b129)))))
 (fun (p65 : Int × Int × Int × (List Int) × (List Int) × Int × Int × (List Int) × (List Arr2)) =>
 let b66 := p65.1;
 let b67 := p65.2.1;
 let b68 := p65.2.2.1;
 let b69 := p65.2.2.2.1;
 let b70 := p65.2.2.2.2.1;
 let b71 := p65.2.2.2.2.2.1;
 let b72 := p65.2.2.2.2.2.2.1;
 let b73 := p65.2.2.2.2.2.2.2.1;
 let b74 := p65.2.2.2.2.2.2.2.2;
 some (Sum.inl ((b66, b67, b68, b69, b70, b71, b72, b73, b74)))) o76))
theorem generic_put_loop4_over (base1 o2 o3 o4 : Int) (o5 : Bool) (o6 b7 b8 : Int) (b9 : List Int) (skip10 skip11 : Int) (skip12 : List Int) (hl : (List.range (b8).toNat).length ≤ 9223372036854775807) (s133 : Int × Int × Int × (List Int) × (List Int) × Int × Int × (List Int) × (List Arr2)) : loop (generic_put_loop4 base1 o2 o3 o4 o5 o6 b7 b8 b9 skip10 skip11 skip12) ((0, s133.1, s133.2.1, s133.2.2.1, s133.2.2.2.1, s133.2.2.2.2.1, s133.2.2.2.2.2.1, s133.2.2.2.2.2.2.1, s133.2.2.2.2.2.2.2.1, s133.2.2.2.2.2.2.2.2) : Int × Int × Int × Int × (List Int) × (List Int) × Int × Int × (List Int) × (List Arr2)) =
    overL (generic_put_loop4_step base1 o2 o3 o4 o5 o6 b7 b9 skip10 skip11 skip12) (fun (s133 : Int × Int × Int × (List Int) × (List Int) × Int × Int × (List Int) × (List Arr2)) => let b134 := s133.1; let b135 := s133.2.1; let b136 := s133.2.2.1; let b137 := s133.2.2.2.1; let b138 := s133.2.2.2.2.1; let b139 := s133.2.2.2.2.2.1; let b140 := s133.2.2.2.2.2.2.1; let b141 := s133.2.2.2.2.2.2.2.1; let b142 := s133.2.2.2.2.2.2.2.2; some (b134, b135, b136, b137, b138, b139, b140, b141, b142)) 0 (List.range (b8).toNat) s133 := by
  refine loop_over (List.range (b8).toNat) (fun n (s : Int × Int × Int × (List Int) × (List Int) × Int × Int × (List Int) × (List Arr2)) => ((((n : Nat) : Int), s.1, s.2.1, s.2.2.1, s.2.2.2.1, s.2.2.2.2.1, s.2.2.2.2.2.1, s.2.2.2.2.2.2.1, s.2.2.2.2.2.2.2.1, s.2.2.2.2.2.2.2.2) : Int × Int × Int × Int × (List Int) × (List Int) × Int × Int × (List Int) × (List Arr2))) _ _ (fun s => ?_) (fun i x s h => ?_) 0 s133 (Nat.zero_le _)
  · have h1 : ¬ (((List.range (b8).toNat).length : Nat) : Int) < b8 := by simp only [List.length_range]; omega
    unfold generic_put_loop4; simp only [h1, decide_false, Bool.false_eq_true, if_false, Option.map_some]
  · have hlt := lt_len_of_get h
    rw [List.length_range] at hlt hl
    rw [List.getElem?_range hlt] at h
    cases h
    have h1 : ((i : Nat) : Int) < b8 := by omega
    have h0 : (0 : Int) ≤ ((i : Nat) : Int) := by omega
    have hw : IntKind.i64.wrap (((i : Nat) : Int) + 1) = (((i + 1 : Nat) : Nat) : Int) := w64 (by omega)
    unfold generic_put_loop4 generic_put_loop4_step
    simp only [h1, h0, hw, decide_true, if_true, and_self, true_and, Int.toNat_natCast, Option.bind_some, Option.map_bind, Function.comp_def, map_ite, map_elim, Option.map_some, Option.map_none]

theorem generic_put_eq (base1 o2 o3 o4 : Int) (o5 : Bool) (o6 b7 b8 : Int) (b9 : List Int) (skip10 skip11 : Int) (skip12 : List Int) (b13 b14 b15 : Int) (b16 b17 : List Int) : generic_put base1 o2 o3 o4 o5 o6 b7 b8 b9 skip10 skip11 skip12 b13 b14 b15 b16 b17 =
 (generic_newPlane o2 o3 o4 o5 o6 b7 b8).bind fun q18 =>
 let tr19 := q18.1;
 let tr20 := q18.2.1;
 let tr21 := q18.2.2.1;
 let tr22 := q18.2.2.2;
 (loop (generic_put_loop4 base1 o2 o3 o4 o5 o6 b7 b8 b9 skip10 skip11 skip12) (0, b13, b14, b15, b16, b17, tr19, tr20, b9, tr22)).bind (fun p143 =>
 let b144 := p143.1;
 let b145 := p143.2.1;
 let b146 := p143.2.2.1;
 let b147 := p143.2.2.2.1;
 let b148 := p143.2.2.2.2.1;
 let b149 := p143.2.2.2.2.2.1;
 let b150 := p143.2.2.2.2.2.2.1;
 let b151 := p143.2.2.2.2.2.2.2.1;
 let b152 := p143.2.2.2.2.2.2.2.2;
 some (b144, b145, b146, b147, b148)) := (call_eq ..).trans (by kernel_rfl)

theorem ref07_template_eq (n1 : Int) : ref07_template n1 =
 (if (decide (n1 = 0)) = true then
 some [(Pixel.mk (-1) (-2)), (Pixel.mk 0 (-2)), (Pixel.mk 1 (-2)), (Pixel.mk (-2) (-1)), (Pixel.mk (-1) (-1)), (Pixel.mk 0 (-1)), (Pixel.mk 1 (-1)), (Pixel.mk 2 (-1)), (Pixel.mk (-2) 0), (Pixel.mk (-1) 0)]
 else
 (if (decide (n1 = 1)) = true then
 some [(Pixel.mk (-1) (-2)), (Pixel.mk 0 (-2)), (Pixel.mk (-1) (-1)), (Pixel.mk 0 (-1)), (Pixel.mk 1 (-1)), (Pixel.mk (-2) 0), (Pixel.mk (-1) 0)]
 else
 (if (decide (n1 = 2)) = true then
 some [(Pixel.mk (-2) (-1)), (Pixel.mk (-1) (-1)), (Pixel.mk 0 (-1)), (Pixel.mk 1 (-1)), (Pixel.mk 2 (-1)), (Pixel.mk (-2) 0), (Pixel.mk (-1) 0)]
 else
 some [(Pixel.mk (-1) (-1)), (Pixel.mk 0 (-1)), (Pixel.mk 1 (-1)), (Pixel.mk (-1) 0)]))) := (call_eq ..).trans (by kernel_rfl)

noncomputable def slices_Index_int_int_loop2 (s1 : List Int) (v2 v3 : Int) : Option ((Int) ⊕ ((Unit) ⊕ (Int))) :=
 (if (decide (v3 < ((s1.length : Nat) : Int))) = true then
 (if 0 ≤ v3 ∧ v3 < (s1.length : Int) then
 (if (decide (v2 = rd s1 v3)) = true then
 some (Sum.inr (Sum.inr v3))
 else
 let t4 := IntKind.i64.wrap (v3 + 1);
 some (Sum.inl t4))
 else
 none)
 else
 some (Sum.inr (Sum.inl ())))
noncomputable def slices_Index_int_int_loop2_step (v2 : Int) (i5 : Nat) (x6 : Int) (s7 : Unit) : Option ((Unit) ⊕ ((Unit) ⊕ (Int))) :=
 (if (decide (v2 = x6)) = true then
 some (Sum.inr (Sum.inr ((i5 : Nat) : Int)))
 else
 some (Sum.inl (())))
theorem slices_Index_int_int_loop2_over (s1 : List Int) (v2 : Int) (hl : s1.length ≤ 9223372036854775807) (s7 : Unit) : loop (slices_Index_int_int_loop2 s1 v2) (0 : Int) =
    overL (slices_Index_int_int_loop2_step v2) (fun (s7 : Unit) => some (Sum.inl ())) 0 s1 s7 := by
  refine loop_over s1 (fun n (s : Unit) => (((n : Nat) : Int) : Int)) _ _ (fun s => ?_) (fun i x s h => ?_) 0 s7 (Nat.zero_le _)
  · unfold slices_Index_int_int_loop2; simp
  · have hlt := lt_len_of_get h
    have h1 : ((i : Nat) : Int) < ((s1.length : Nat) : Int) := by omega
    have h0 : (0 : Int) ≤ ((i : Nat) : Int) := by omega
    have hw : IntKind.i64.wrap (((i : Nat) : Int) + 1) = (((i + 1 : Nat) : Nat) : Int) := w64 (by omega)
    have hr : rd s1 ((i : Nat) : Int) = x := rd_nat h
    unfold slices_Index_int_int_loop2 slices_Index_int_int_loop2_step
    simp only [h1, h0, hw, h, hr, decide_true, if_true, and_self, true_and, Int.toNat_natCast, Option.bind_some, Option.map_bind, Function.comp_def, map_ite, map_elim, Option.map_some, Option.map_none]

theorem slices_Index_int_int_eq (s1 : List Int) (v2 : Int) : slices_Index_int_int s1 v2 =
 (loop (slices_Index_int_int_loop2 s1 v2) 0).bind (fun o10 =>
 (Sum.elim (fun (p8 : Unit) =>
 some (-1))
 (fun (v9 : Int) =>
 some v9) o10)) := (call_eq ..).trans (by kernel_rfl)

theorem text_begun_1_eq (b1 b2 : Int) (b3 : List Int) : text_begun_1 b1 b2 b3 =
 (text_isShape b1 b2 b3).bind fun q4 =>
 some (!q4) := (call_eq ..).trans (by kernel_rfl)

theorem text_begun_2_eq (i1 i2 i3 : Int) (i4 : Bool) (i5 i6 i7 i8 : Int) (i9 : List Int) : text_begun_2 i1 i2 i3 i4 i5 i6 i7 i8 i9 =
 (if i4 = true then
 (text_isShape i7 i8 i9).bind fun q10 =>
 some (!q10)
 else
 some false) := (call_eq ..).trans (by kernel_rfl)

theorem text_right_1_eq (i1 i2 i3 : Int) (i4 : Bool) (i5 i6 i7 i8 : Int) (i9 : List Int) (b10 b11 : Int) (b12 : Bool) (b13 b14 b15 : Int) (b16 : Bool) (b17 b18 : Int) : text_right_1 i1 i2 i3 i4 i5 i6 i7 i8 i9 b10 b11 b12 b13 b14 b15 b16 b17 b18 =
 (text_rightItem b10 b11 b12 b13 b14 b15 b16 b17 b18 i1 i2 i3 i4 i5 i6 i7 i8 i9).bind fun q19 =>
 some (!q19, b10, b11, b12, b13, b14, b15, b16, b17, b18) := (call_eq ..).trans (by kernel_rfl)

theorem coder_table_chance_eq (kind1 s2 : Int) : coder_table_chance kind1 s2 =
 (if (decide (kind1 = 1)) = true then
 let t3 := IntKind.i64.wrap (s2.tdiv 256);
 let t4 : Int := s2.tmod 256;
 let t5 := IntKind.i64.wrap (2 * t4);
 let t6 := IntKind.i64.wrap (t5 + 1);
 let t7 := IntKind.i64.wrap (t6 * 4096);
 let t8 := IntKind.i64.wrap (2 * t3);
 let t9 := IntKind.i64.wrap (2 * t4);
 let t10 := IntKind.i64.wrap (t8 + t9);
 let t11 := IntKind.i64.wrap (t10 + 2);
 (if t11 = 0 then
 none
 else
 let t12 := IntKind.i64.wrap (t7.tdiv t11);
 let t13 := imax t12 1;
 let t14 := imin t13 4095;
 some t14)
 else
 (if (decide (s2 ≥ 32)) = true then
 let t15 := IntKind.i64.wrap (s2 - 32);
 (if 0 ≤ t15 ∧ t15 < ((32 : Nat) : Int) then
 let t16 : Int := rd [2048, 1792, 1568, 1372, 1201, 1051, 920, 805, 705, 617, 540, 473, 414, 363, 318, 279, 245, 215, 189, 166, 146, 128, 112, 98, 86, 76, 67, 59, 52, 46, 41, 36] t15;
 let t17 := IntKind.i64.wrap (4096 - t16);
 some t17
 else
 none)
 else
 (if 0 ≤ s2 ∧ s2 < ((32 : Nat) : Int) then
 let t18 : Int := rd [2048, 1792, 1568, 1372, 1201, 1051, 920, 805, 705, 617, 540, 473, 414, 363, 318, 279, 245, 215, 189, 166, 146, 128, 112, 98, 86, 76, 67, 59, 52, 46, 41, 36] s2;
 some t18
 else
 none))) := (call_eq ..).trans (by kernel_rfl)

theorem coder_next_eq (kind1 s2 bit3 : Int) : coder_next kind1 s2 bit3 =
 (if (decide (kind1 = 1)) = true then
 let t4 := IntKind.i64.wrap (s2.tdiv 256);
 let t5 : Int := s2.tmod 256;
 (if 0 ≤ bit3 ∧ bit3 < ((2 : Nat) : Int) then
 let t6 : Int := rd [t4, t5] bit3;
 ((if (decide (t6 = 255)) = true then
 (if 0 ≤ (0 : Int) ∧ (0 : Int) < ((2 : Nat) : Int) then
 let t7 := IntKind.i64.wrap (t4.tdiv 2);
 (if 0 ≤ (1 : Int) ∧ (1 : Int) < ((2 : Nat) : Int) then
 let t8 := IntKind.i64.wrap (t5.tdiv 2);
 (if 0 ≤ (0 : Int) ∧ (0 : Int) < ((2 : Nat) : Int) then
 (if 0 ≤ (1 : Int) ∧ (1 : Int) < ((2 : Nat) : Int) then
 some (t7, t8)
 else
 none)
 else
 none)
 else
 none)
 else
 none)
 else
 some (t4, t5)) : Option (Int × Int)).bind (fun p9 =>
 let b10 := p9.1;
 let b11 := p9.2;
 (if 0 ≤ bit3 ∧ bit3 < ((2 : Nat) : Int) then
 let t12 : Int := rd [b10, b11] bit3;
 let t13 := IntKind.i64.wrap (t12 + 1);
 (if 0 ≤ bit3 ∧ bit3 < ((2 : Nat) : Int) then
 let c14 : Int := if bit3 = 0 then t13 else b10;
 let c15 : Int := if bit3 = 1 then t13 else b11;
 (if 0 ≤ (0 : Int) ∧ (0 : Int) < ((2 : Nat) : Int) then
 let t16 := IntKind.i64.wrap (256 * c14);
 (if 0 ≤ (1 : Int) ∧ (1 : Int) < ((2 : Nat) : Int) then
 let t17 := IntKind.i64.wrap (t16 + c15);
 some t17
 else
 none)
 else
 none)
 else
 none)
 else
 none))
 else
 none)
 else
 let t18 := IntKind.i64.wrap (s2.tdiv 32);
 let t19 : Int := s2.tmod 32;
 (if (decide (bit3 = t18)) = true then
 let t20 := IntKind.i64.wrap (t19 + 1);
 let t21 := imin t20 31;
 let t22 := IntKind.i64.wrap (32 * t18);
 let t23 := IntKind.i64.wrap (t22 + t21);
 some t23
 else
 (if (decide (t19 = 0)) = true then
 let t24 := IntKind.i64.wrap (32 * bit3);
 let t25 := IntKind.i64.wrap (t24 + t19);
 some t25
 else
 let t26 := IntKind.i64.wrap (t19.tdiv 4);
 let t27 := IntKind.i64.wrap (1 + t26);
 let t28 := IntKind.i64.wrap (t19 - t27);
 let t29 := IntKind.i64.wrap (32 * t18);
 let t30 := IntKind.i64.wrap (t29 + t28);
 some t30))) := (call_eq ..).trans (by kernel_rfl)

theorem refine_beside_eq : refine_beside =
 some [(Arr2.mk 0 0), (Arr2.mk (-1) 0), (Arr2.mk 1 0), (Arr2.mk 0 (-1)), (Arr2.mk 0 1)] := (call_eq ..).trans (by kernel_rfl)

theorem generic_skips_eq (skip1 skip2 : Int) (skip3 : List Int) (i4 : Int) : generic_skips skip1 skip2 skip3 i4 =
 (if (decide (((skip3.length : Nat) : Int) > 0)) = true then
 (if 0 ≤ i4 ∧ i4 < (skip3.length : Int) then
 some (decide (rd skip3 i4 = 1))
 else
 none)
 else
 some false) := (call_eq ..).trans (by kernel_rfl)

theorem generic_newPlane_eq (o1 o2 o3 : Int) (o4 : Bool) (o5 w6 h7 : Int) : generic_newPlane o1 o2 o3 o4 o5 w6 h7 =
 let t8 := IntKind.i64.wrap (w6 * h7);
 (if 0 ≤ t8 ∧ t8 ≤ t8 ∧ ((1 : Nat) : Int) * t8 ≤ 281474976710656 then
 let t9 : List Int := List.replicate t8.toNat 0;
 (generic_pixels o1).bind fun q10 =>
 (if (q10.length + ([(Arr2.mk o2 o3)] : List Arr2).length) * 16 ≤ 140737488355328 then
 let t11 : List Arr2 := q10 ++ [(Arr2.mk o2 o3)];
 some (w6, h7, t9, t11)
 else
 none)
 else
 none) := (call_eq ..).trans (by kernel_rfl)

noncomputable def generic_plane_above_loop3 (y1 skip2 skip3 : Int) (skip4 t9 : List Int) (s10 : Int × Int × Int × (List Int) × (List Arr2) × (List Int)) : Option ((Int × Int × Int × (List Int) × (List Arr2) × (List Int)) ⊕ (Int × Int × (List Int) × (List Arr2) × (List Int))) :=
 let v11 := s10.1;
 let b12 := s10.2.1;
 let b13 := s10.2.2.1;
 let b14 := s10.2.2.2.1;
 let b15 := s10.2.2.2.2.1;
 let b16 := s10.2.2.2.2.2;
 (if (decide (v11 < ((t9.length : Nat) : Int))) = true then
 let t17 := IntKind.i64.wrap (y1 * b12);
 let t18 := IntKind.i64.wrap (t17 + v11);
 (generic_skips skip2 skip3 skip4 t18).bind fun q19 =>
 (if (!q19) = true then
 let t20 := IntKind.i64.wrap (y1 - 1);
 (generic_plane_at v11 t20 b12 b13 b14 b15).bind fun q21 =>
 let tr22 := q21.1;
 let tr23 := q21.2.1;
 let tr24 := q21.2.2.1;
 let tr25 := q21.2.2.2.1;
 let tr26 := q21.2.2.2.2;
 (if 0 ≤ v11 ∧ v11 < (b16.length : Int) then
 let w27 : List Int := b16.set v11.toNat tr22;
 let t28 := IntKind.i64.wrap (v11 + 1);
 some (Sum.inl (t28, tr23, tr24, tr25, tr26, w27))
 else
 none)
 else
 let t29 := IntKind.i64.wrap (v11 + 1);
 some (Sum.inl (t29, b12, b13, b14, b15, b16)))
 else
 some (Sum.inr (b12, b13, b14, b15, b16)))
noncomputable def generic_plane_above_loop3_step (y1 skip2 skip3 : Int) (skip4 : List Int) (i30 : Nat) (x31 : Int) (s32 : Int × Int × (List Int) × (List Arr2) × (List Int)) : Option ((Int × Int × (List Int) × (List Arr2) × (List Int)) ⊕ (Int × Int × (List Int) × (List Arr2) × (List Int))) :=
 let b33 := s32.1;
 let b34 := s32.2.1;
 let b35 := s32.2.2.1;
 let b36 := s32.2.2.2.1;
 let b37 := s32.2.2.2.2;
 let t17 := IntKind.i64.wrap (y1 * b33);
 let t18 := IntKind.i64.wrap (t17 + ((i30 : Nat) : Int));
 (generic_skips skip2 skip3 skip4 t18).bind fun q19 =>
 (if (!q19) = true then
 let t20 := IntKind.i64.wrap (y1 - 1);
 (generic_plane_at ((i30 : Nat) : Int) t20 b33 b34 b35 b36).bind fun q21 =>
 let tr22 := q21.1;
 let tr23 := q21.2.1;
 let tr24 := q21.2.2.1;
 let tr25 := q21.2.2.2.1;
 let tr26 := q21.2.2.2.2;
 (if 0 ≤ ((i30 : Nat) : Int) ∧ ((i30 : Nat) : Int) < (b37.length : Int) then
 let w27 : List Int := b37.set ((i30 : Nat) : Int).toNat tr22;
 some (Sum.inl ((tr23, tr24, tr25, tr26, w27)))
 else
 none)
 else
 some (Sum.inl ((b33, b34, b35, b36, b37))))
theorem generic_plane_above_loop3_over (y1 skip2 skip3 : Int) (skip4 t9 : List Int) (hl : t9.length ≤ 9223372036854775807) (s32 : Int × Int × (List Int) × (List Arr2) × (List Int)) : loop (generic_plane_above_loop3 y1 skip2 skip3 skip4 t9) ((0, s32.1, s32.2.1, s32.2.2.1, s32.2.2.2.1, s32.2.2.2.2) : Int × Int × Int × (List Int) × (List Arr2) × (List Int)) =
    overL (generic_plane_above_loop3_step y1 skip2 skip3 skip4) (fun (s32 : Int × Int × (List Int) × (List Arr2) × (List Int)) => let b33 := s32.1; let b34 := s32.2.1; let b35 := s32.2.2.1; let b36 := s32.2.2.2.1; let b37 := s32.2.2.2.2; some (b33, b34, b35, b36, b37)) 0 t9 s32 := by
  refine loop_over t9 (fun n (s : Int × Int × (List Int) × (List Arr2) × (List Int)) => ((((n : Nat) : Int), s.1, s.2.1, s.2.2.1, s.2.2.2.1, s.2.2.2.2) : Int × Int × Int × (List Int) × (List Arr2) × (List Int))) _ _ (fun s => ?_) (fun i x s h => ?_) 0 s32 (Nat.zero_le _)
  · unfold generic_plane_above_loop3; simp
  · have hlt := lt_len_of_get h
    have h1 : ((i : Nat) : Int) < ((t9.length : Nat) : Int) := by omega
    have h0 : (0 : Int) ≤ ((i : Nat) : Int) := by omega
    have hw : IntKind.i64.wrap (((i : Nat) : Int) + 1) = (((i + 1 : Nat) : Nat) : Int) := w64 (by omega)
    have hr : rd t9 ((i : Nat) : Int) = x := rd_nat h
    unfold generic_plane_above_loop3 generic_plane_above_loop3_step
    simp only [h1, h0, hw, h, hr, decide_true, if_true, and_self, true_and, Int.toNat_natCast, Option.bind_some, Option.map_bind, Function.comp_def, map_ite, map_elim, Option.map_some, Option.map_none]

theorem generic_plane_above_eq (y1 skip2 skip3 : Int) (skip4 : List Int) (b5 b6 : Int) (b7 : List Int) (b8 : List Arr2) : generic_plane_above y1 skip2 skip3 skip4 b5 b6 b7 b8 =
 (if 0 ≤ b5 ∧ b5 ≤ b5 ∧ ((1 : Nat) : Int) * b5 ≤ 281474976710656 then
 let t9 : List Int := List.replicate b5.toNat 0;
 (loop (generic_plane_above_loop3 y1 skip2 skip3 skip4 t9) (0, b5, b6, b7, b8, t9)).bind (fun p38 =>
 let b39 := p38.1;
 let b40 := p38.2.1;
 let b41 := p38.2.2.1;
 let b42 := p38.2.2.2.1;
 let b43 := p38.2.2.2.2;
 some (b43, b39, b40, b41, b42))
 else
 none) := (call_eq ..).trans (by kernel_rfl)

theorem bytes_Equal_eq (a1 b2 : List Int) : bytes_Equal a1 b2 =
 some (decide (a1 = b2)) := (call_eq ..).trans (by kernel_rfl)

noncomputable def generic_plane_context_loop3 (x1 y2 : Int) (b6 : List Arr2) (s7 : Int × Int × Int × Int × (List Int) × (List Arr2)) : Option ((Int × Int × Int × Int × (List Int) × (List Arr2)) ⊕ (Int × Int × Int × (List Int) × (List Arr2))) :=
 let n8 := s7.1;
 let v9 := s7.2.1;
 let b10 := s7.2.2.1;
 let b11 := s7.2.2.2.1;
 let b12 := s7.2.2.2.2.1;
 let b13 := s7.2.2.2.2.2;
 (if (decide (v9 < ((b6.length : Nat) : Int))) = true then
 (if 0 ≤ v9 then
 (b6[v9.toNat]?).bind fun e14 =>
 let t15 := IntKind.i64.wrap (2 * n8);
 (if 0 ≤ (0 : Int) ∧ (0 : Int) < ((2 : Nat) : Int) then
 let t16 := IntKind.i64.wrap (x1 + e14.a0);
 (if 0 ≤ (1 : Int) ∧ (1 : Int) < ((2 : Nat) : Int) then
 let t17 := IntKind.i64.wrap (y2 + e14.a1);
 (generic_plane_at t16 t17 b10 b11 b12 b13).bind fun q18 =>
 let tr19 := q18.1;
 let tr20 := q18.2.1;
 let tr21 := q18.2.2.1;
 let tr22 := q18.2.2.2.1;
 let tr23 := q18.2.2.2.2;
 let t24 := IntKind.i64.wrap tr19;
 let t25 := IntKind.i64.wrap (t15 + t24);
 let t26 := IntKind.i64.wrap (v9 + 1);
 some (Sum.inl (t25, t26, tr20, tr21, tr22, tr23))
 else
 none)
 else
 none)
 else
 none)
 else
 some (Sum.inr (n8, b10, b11, b12, b13)))
noncomputable def generic_plane_context_loop3_step (x1 y2 : Int) (i27 : Nat) (x28 : Arr2) (s29 : Int × Int × Int × (List Int) × (List Arr2)) : Option ((Int × Int × Int × (List Int) × (List Arr2)) ⊕ (Int × Int × Int × (List Int) × (List Arr2))) :=
 let n30 := s29.1;
 let b31 := s29.2.1;
 let b32 := s29.2.2.1;
 let b33 := s29.2.2.2.1;
 let b34 := s29.2.2.2.2;
 let t15 := IntKind.i64.wrap (2 * n30);
 (if 0 ≤ (0 : Int) ∧ (0 : Int) < ((2 : Nat) : Int) then
 let t16 := IntKind.i64.wrap (x1 + x28.a0);
 (if 0 ≤ (1 : Int) ∧ (1 : Int) < ((2 : Nat) : Int) then
 let t17 := IntKind.i64.wrap (y2 + x28.a1);
 (generic_plane_at t16 t17 b31 b32 b33 b34).bind fun q18 =>
 let tr19 := q18.1;
 let tr20 := q18.2.1;
 let tr21 := q18.2.2.1;
 let tr22 := q18.2.2.2.1;
 let tr23 := q18.2.2.2.2;
 let t24 := IntKind.i64.wrap tr19;
 let t25 := IntKind.i64.wrap (t15 + t24);
 some (Sum.inl ((t25, tr20, tr21, tr22, tr23)))
 else
 none)
 else
 none)
theorem generic_plane_context_loop3_over (x1 y2 : Int) (b6 : List Arr2) (hl : b6.length ≤ 9223372036854775807) (s29 : Int × Int × Int × (List Int) × (List Arr2)) : loop (generic_plane_context_loop3 x1 y2 b6) ((s29.1, 0, s29.2.1, s29.2.2.1, s29.2.2.2.1, s29.2.2.2.2) : Int × Int × Int × Int × (List Int) × (List Arr2)) =
    overL (generic_plane_context_loop3_step x1 y2) (fun (s29 : Int × Int × Int × (List Int) × (List Arr2)) => let n30 := s29.1; let b31 := s29.2.1; let b32 := s29.2.2.1; let b33 := s29.2.2.2.1; let b34 := s29.2.2.2.2; some (n30, b31, b32, b33, b34)) 0 b6 s29 := by
  refine loop_over b6 (fun n (s : Int × Int × Int × (List Int) × (List Arr2)) => ((s.1, ((n : Nat) : Int), s.2.1, s.2.2.1, s.2.2.2.1, s.2.2.2.2) : Int × Int × Int × Int × (List Int) × (List Arr2))) _ _ (fun s => ?_) (fun i x s h => ?_) 0 s29 (Nat.zero_le _)
  · unfold generic_plane_context_loop3; simp
  · have hlt := lt_len_of_get h
    have h1 : ((i : Nat) : Int) < ((b6.length : Nat) : Int) := by omega
    have h0 : (0 : Int) ≤ ((i : Nat) : Int) := by omega
    have hw : IntKind.i64.wrap (((i : Nat) : Int) + 1) = (((i + 1 : Nat) : Nat) : Int) := w64 (by omega)
    unfold generic_plane_context_loop3 generic_plane_context_loop3_step
    simp only [h1, h0, hw, h, decide_true, if_true, and_self, true_and, Int.toNat_natCast, Option.bind_some, Option.map_bind, Function.comp_def, map_ite, map_elim, Option.map_some, Option.map_none]

theorem generic_plane_context_eq (x1 y2 b3 b4 : Int) (b5 : List Int) (b6 : List Arr2) : generic_plane_context x1 y2 b3 b4 b5 b6 =
 (loop (generic_plane_context_loop3 x1 y2 b6) (0, 0, b3, b4, b5, b6)).bind (fun p35 =>
 let n36 := p35.1;
 let b37 := p35.2.1;
 let b38 := p35.2.2.1;
 let b39 := p35.2.2.2.1;
 let b40 := p35.2.2.2.2;
 some (n36, b37, b38, b39, b40)) := (call_eq ..).trans (by kernel_rfl)

theorem text_isShape_eq (b1 b2 : Int) (b3 : List Int) : text_isShape b1 b2 b3 =
 (bitmap_Valid b1 b2 b3).bind fun q4 =>
 (if q4 = true then
 (if (decide (b1 ≥ 1)) = true then
 (if (decide (b1 ≤ 40)) = true then
 (if (decide (b2 ≥ 1)) = true then
 some (decide (b2 ≤ 40))
 else
 some false)
 else
 some false)
 else
 some false)
 else
 some false) := (call_eq ..).trans (by kernel_rfl)

theorem text_rightItem_eq (o1 o2 : Int) (o3 : Bool) (o4 o5 o6 : Int) (o7 : Bool) (o8 symbols9 i10 i11 i12 : Int) (i13 : Bool) (i14 i15 i16 i17 : Int) (i18 : List Int) : text_rightItem o1 o2 o3 o4 o5 o6 o7 o8 symbols9 i10 i11 i12 i13 i14 i15 i16 i17 i18 =
 ((if (decide (i10 < 0)) = true then
 some true
 else
 (if (decide (i10 ≥ symbols9)) = true then
 some true
 else
 (text_near i11 100000).bind fun q19 =>
 (if (!q19) = true then
 some true
 else
 (text_near i12 100000).bind fun q20 =>
 some (!q20)))) : Option (Bool)).bind (fun v21 =>
 (if v21 = true then
 some false
 else
 (if (!i13) = true then
 ((if (decide (i14 = 0)) = true then
 (if (decide (i15 = 0)) = true then
 (if (decide (i16 = 0)) = true then
 (if (decide (i17 = 0)) = true then
 some (decide (((i18.length : Nat) : Int) = 0))
 else
 some false)
 else
 some false)
 else
 some false)
 else
 some false) : Option (Bool)).bind (fun v22 =>
 some v22)
 else
 (if o7 = true then
 (text_near i14 200).bind fun q23 =>
 (if q23 = true then
 (text_near i15 200).bind fun q24 =>
 some q24
 else
 some false)
 else
 some false)))) := (call_eq ..).trans (by kernel_rfl)

theorem generic_plane_at_eq (x1 y2 b3 b4 : Int) (b5 : List Int) (b6 : List Arr2) : generic_plane_at x1 y2 b3 b4 b5 b6 =
 ((if (decide (x1 < 0)) = true then
 some true
 else
 (if (decide (y2 < 0)) = true then
 some true
 else
 (if (decide (x1 ≥ b3)) = true then
 some true
 else
 some (decide (y2 ≥ b4))))) : Option (Bool)).bind (fun v7 =>
 (if v7 = true then
 some (0, b3, b4, b5, b6)
 else
 let t8 := IntKind.i64.wrap (y2 * b3);
 let t9 := IntKind.i64.wrap (t8 + x1);
 (if 0 ≤ t9 ∧ t9 < (b5.length : Int) then
 some (rd b5 t9, b3, b4, b5, b6)
 else
 none))) := (call_eq ..).trans (by kernel_rfl)

theorem text_near_eq (n1 most2 : Int) : text_near n1 most2 =
 let t3 := IntKind.i64.wrap (0 - most2);
 (if (decide (n1 ≥ t3)) = true then
 some (decide (n1 ≤ most2))
 else
 some false) := (call_eq ..).trans (by kernel_rfl)
end
end Go.Proofs.YtkccnhkhjncpkaaGreat.P
