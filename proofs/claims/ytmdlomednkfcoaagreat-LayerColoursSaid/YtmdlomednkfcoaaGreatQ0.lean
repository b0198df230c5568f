/- The equations of functions. Printed by wip/tool/vsym.py. -/
import Derived.Test.YtmdlomednkfcoaaGreatG
import Derived.Test.YtmdlomednkfcoaaGreatLib
namespace Go.Proofs.YtmdlomednkfcoaaGreat.P
open Go Go.Proofs.YtmdlomednkfcoaaGreat.V
set_option linter.unusedVariables false
set_option linter.unusedSimpArgs false
set_option maxRecDepth 100000
noncomputable section
noncomputable def law22_LayerColours_loop8 (tr13 tr17 : List Rgb) (v22 : Int) : Option ((Int) ⊕ ((Unit) ⊕ (Bool))) :=
   (if (decide (v22 < ((tr13.length : Nat) : Int))) = true then
    (if 0 ≤ v22 then
     (tr13[v22.toNat]?).bind fun e23 =>
     (if 0 ≤ v22 then
      (tr17[v22.toNat]?).bind fun e24 =>
      (if (!(decide (e23.r = e24.r) && (decide (e23.g = e24.g) && (decide (e23.b = e24.b) && true)))) = true then
       some (Sum.inr (Sum.inr false))
       else
       let t25 := IntKind.i64.wrap (v22 + 1);
       some (Sum.inl t25))
      else
      none)
     else
     none)
    else
    some (Sum.inr (Sum.inl ())))
noncomputable def law22_LayerColours_loop8_step (tr17 : List Rgb) (i26 : Nat) (x27 : Rgb) (s28 : Unit) : Option ((Unit) ⊕ ((Unit) ⊕ (Bool))) :=
   (if 0 ≤ ((i26 : Nat) : Int) then
    (tr17[((i26 : Nat) : Int).toNat]?).bind fun e24 =>
    (if (!(decide (x27.r = e24.r) && (decide (x27.g = e24.g) && (decide (x27.b = e24.b) && true)))) = true then
     some (Sum.inr (Sum.inr false))
     else
     some (Sum.inl (())))
    else
    none)
theorem law22_LayerColours_loop8_over (tr13 tr17 : List Rgb) (hl : tr13.length ≤ 9223372036854775807) (s28 : Unit) : loop (law22_LayerColours_loop8 tr13 tr17) (0 : Int) =
    overL (law22_LayerColours_loop8_step tr17) (fun (s28 : Unit) => some (Sum.inl ())) 0 tr13 s28 := by
  refine loop_over tr13 (fun n (s : Unit) => (((n : Nat) : Int) : Int)) _ _ (fun s => ?_) (fun i x s h => ?_) 0 s28 (Nat.zero_le _)
  · unfold law22_LayerColours_loop8; simp
  · have hlt := lt_len_of_get h
    have h1 : ((i : Nat) : Int) < ((tr13.length : Nat) : Int) := by omega
    have h0 : (0 : Int) ≤ ((i : Nat) : Int) := by omega
    have hw : IntKind.i64.wrap (((i : Nat) : Int) + 1) = (((i + 1 : Nat) : Nat) : Int) := w64 (by omega)
    unfold law22_LayerColours_loop8 law22_LayerColours_loop8_step
    simp only [h1, h0, hw, h, decide_true, if_true, and_self, true_and, Int.toNat_natCast, Option.bind_some, Option.map_bind, Function.comp_def, map_ite, map_elim, Option.map_some, Option.map_none]

theorem law22_LayerColours_eq (i1 i2 : Int) (i3 i4 i5 : List Int) (mask6 mask7 : Int) (mask8 : List Int) (n9 : Int) : law22_LayerColours i1 i2 i3 i4 i5 mask6 mask7 mask8 n9 =
   ((if (decide (((i3.length : Nat) : Int) > 2500)) = true then
     some true
     else
     some (decide (((mask8.length : Nat) : Int) > 2500))) : Option (Bool)).bind (fun v10 =>
    (if v10 = true then
     (law22_Awake).bind fun q11 =>
     some q11
     else
     (layer_Colours i1 i2 i3 i4 i5 mask6 mask7 mask8 n9).bind fun q12 =>
     let tr13 := q12.1;
     let tr14 := q12.2.1;
     let tr15 := q12.2.2;
     (ref22_Colours i1 i2 i3 i4 i5 mask6 mask7 mask8 n9).bind fun q16 =>
     let tr17 := q16.1;
     let tr18 := q16.2.1;
     let tr19 := q16.2.2;
     ((if (!decide (tr15 = tr19)) = true then
       some true
       else
       (if (!decide (((tr13.length : Nat) : Int) = ((tr17.length : Nat) : Int))) = true then
        some true
        else
        (ref02_SameInts tr14 tr18).bind fun q20 =>
        some (!q20))) : Option (Bool)).bind (fun v21 =>
      (if v21 = true then
       some false
       else
       (loop (law22_LayerColours_loop8 tr13 tr17) 0).bind (fun o31 =>
        (Sum.elim (fun (p29 : Unit) =>
          (if (!decide (tr15 = 0)) = true then
           (law22_Awake).bind fun q32 =>
           some q32
           else
           (if (decide (((tr13.length : Nat) : Int) ≤ n9)) = true then
            (law22_Awake).bind fun q33 =>
            some q33
            else
            some false)))
         (fun (v30 : Bool) =>
          some v30) o31)))))) := (call_eq ..).trans (by kernel_rfl)

theorem law22_Awake_eq : law22_Awake =
   (layer_Render 2 1 0 0 [] [] [] 1 []).bind fun q1 =>
   let tr2 := q1.1;
   let tr3 := q1.2.1;
   let tr4 := q1.2.2.1;
   let tr5 := q1.2.2.2.1;
   let tr6 := q1.2.2.2.2.1;
   let tr7 := q1.2.2.2.2.2;
   (if (decide (tr7 = 0)) = true then
    (ref19_Of 2 1 255 255 255).bind fun q8 =>
    let tr9 := q8.1;
    let tr10 := q8.2.1;
    let tr11 := q8.2.2.1;
    let tr12 := q8.2.2.2.1;
    let tr13 := q8.2.2.2.2;
    (ref19_Same tr2 tr3 tr4 tr5 tr6 tr9 tr10 tr11 tr12 tr13).bind fun q14 =>
    (if q14 = true then
     (layer_Valid 2 1 0 0 [] [] [] 1 []).bind fun q15 =>
     some q15
     else
     some false)
    else
    some false) := (call_eq ..).trans (by kernel_rfl)

noncomputable def layer_Colours_loop9 (i1 i2 : Int) (i3 i4 i5 : List Int) (n9 : Int) (tr20 : List Placed) (s22 : Int × (List Rgb) × (List Int)) : Option ((Int × (List Rgb) × (List Int)) ⊕ ((List Rgb) × (List Int))) :=
   let v23 := s22.1;
   let l24 := s22.2.1;
   let marks25 := s22.2.2;
   (if (decide (v23 < ((tr20.length : Nat) : Int))) = true then
    (if 0 ≤ v23 then
     (tr20[v23.toNat]?).bind fun e26 =>
     (layer_ink i1 i2 i3 i4 i5 e26.pix_w e26.pix_h e26.pix_pix e26.x e26.y).bind fun q27 =>
     let tr28 := q27.1;
     let tr29 := q27.2.1;
     let tr30 := q27.2.2;
     (slices_Index_api_Rgb_api_Rgb l24 tr28 tr29 tr30).bind fun q31 =>
     ((if (decide (q31 < 0)) = true then
       some (decide (((l24.length : Nat) : Int) < n9))
       else
       some false) : Option (Bool)).bind (fun v32 =>
      ((if v32 = true then
        (if (l24.length + ([(Rgb.mk tr28 tr29 tr30)] : List Rgb).length) * 24 ≤ 140737488355328 then
         let t33 : List Rgb := l24 ++ [(Rgb.mk tr28 tr29 tr30)];
         some (((l24.length : Nat) : Int), t33)
         else
         none)
        else
        ((if (decide (q31 < 0)) = true then
          (layer_nearest l24 tr28 tr29 tr30).bind fun q34 =>
          some q34
          else
          some q31) : Option (Int)).bind (fun at35 =>
         some (at35, l24))) : Option (Int × (List Rgb))).bind (fun p36 =>
       let at37 := p36.1;
       let l38 := p36.2;
       (if (marks25.length + ([at37] : List Int).length) * 8 ≤ 140737488355328 then
        let t39 : List Int := marks25 ++ [at37];
        let t40 := IntKind.i64.wrap (v23 + 1);
        some (Sum.inl (t40, l38, t39))
        else
        none)))
     else
     none)
    else
    some (Sum.inr (l24, marks25)))
noncomputable def layer_Colours_loop9_step (i1 i2 : Int) (i3 i4 i5 : List Int) (n9 : Int) (i41 : Nat) (x42 : Placed) (s43 : (List Rgb) × (List Int)) : Option (((List Rgb) × (List Int)) ⊕ ((List Rgb) × (List Int))) :=
   let l44 := s43.1;
   let marks45 := s43.2;
   (layer_ink i1 i2 i3 i4 i5 x42.pix_w x42.pix_h x42.pix_pix x42.x x42.y).bind fun q27 =>
   let tr28 := q27.1;
   let tr29 := q27.2.1;
   let tr30 := q27.2.2;
   (slices_Index_api_Rgb_api_Rgb l44 tr28 tr29 tr30).bind fun q31 =>
   ((if (decide (q31 < 0)) = true then
     some (decide (((l44.length : Nat) : Int) < n9))
     else
     some false) : Option (Bool)).bind (fun v32 =>
    ((if v32 = true then
      (if (l44.length + ([(Rgb.mk tr28 tr29 tr30)] : List Rgb).length) * 24 ≤ 140737488355328 then
       let t33 : List Rgb := l44 ++ [(Rgb.mk tr28 tr29 tr30)];
       some (((l44.length : Nat) : Int), t33)
       else
       none)
      else
      ((if (decide (q31 < 0)) = true then
        (layer_nearest l44 tr28 tr29 tr30).bind fun q34 =>
        some q34
        else
        some q31) : Option (Int)).bind (fun at35 =>
       some (at35, l44))) : Option (Int × (List Rgb))).bind (fun p36 =>
     let at37 := p36.1;
     let l38 := p36.2;
     (if (marks45.length + ([at37] : List Int).length) * 8 ≤ 140737488355328 then
      let t39 : List Int := marks45 ++ [at37];
      some (Sum.inl ((l38, t39)))
      else
      none)))
theorem layer_Colours_loop9_over (i1 i2 : Int) (i3 i4 i5 : List Int) (n9 : Int) (tr20 : List Placed) (hl : tr20.length ≤ 9223372036854775807) (s43 : (List Rgb) × (List Int)) : loop (layer_Colours_loop9 i1 i2 i3 i4 i5 n9 tr20) ((0, s43.1, s43.2) : Int × (List Rgb) × (List Int)) =
    overL (layer_Colours_loop9_step i1 i2 i3 i4 i5 n9) (fun (s43 : (List Rgb) × (List Int)) => let l44 := s43.1; let marks45 := s43.2; some (l44, marks45)) 0 tr20 s43 := by
  refine loop_over tr20 (fun n (s : (List Rgb) × (List Int)) => ((((n : Nat) : Int), s.1, s.2) : Int × (List Rgb) × (List Int))) _ _ (fun s => ?_) (fun i x s h => ?_) 0 s43 (Nat.zero_le _)
  · unfold layer_Colours_loop9; simp
  · have hlt := lt_len_of_get h
    have h1 : ((i : Nat) : Int) < ((tr20.length : Nat) : Int) := by omega
    have h0 : (0 : Int) ≤ ((i : Nat) : Int) := by omega
    have hw : IntKind.i64.wrap (((i : Nat) : Int) + 1) = (((i + 1 : Nat) : Nat) : Int) := w64 (by omega)
    unfold layer_Colours_loop9 layer_Colours_loop9_step
    simp only [h1, h0, hw, h, decide_true, if_true, and_self, true_and, Int.toNat_natCast, Option.bind_some, Option.map_bind, Function.comp_def, map_ite, map_elim, Option.map_some, Option.map_none]

theorem layer_Colours_eq (i1 i2 : Int) (i3 i4 i5 : List Int) (mask6 mask7 : Int) (mask8 : List Int) (n9 : Int) : layer_Colours i1 i2 i3 i4 i5 mask6 mask7 mask8 n9 =
   (colour_Valid i1 i2 i3 i4 i5).bind fun q10 =>
   ((if (!q10) = true then
     some (Sum.inr ([], [], 75))
     else
     ((layer_rightMask i1 i2 i3 i4 i5 mask6 mask7 mask8).bind fun q11 =>
      (if (!q11) = true then
       some true
       else
       (if (decide (n9 < 1)) = true then
        some true
        else
        some (decide (n9 > 16)))) : Option (Bool)).bind (fun v12 =>
      (if v12 = true then
       some (Sum.inr ([], [], 2))
       else
       some (Sum.inl ())))) : Option ((Unit) ⊕ ((List Rgb) × (List Int) × Int))).bind (fun o18 =>
    (Sum.elim (fun (p13 : Unit) =>
      (shape_Components mask6 mask7 mask8).bind fun q19 =>
      let tr20 := q19.1;
      let tr21 := q19.2;
      (loop (layer_Colours_loop9 i1 i2 i3 i4 i5 n9 tr20) (0, [], [])).bind (fun p46 =>
       let l47 := p46.1;
       let marks48 := p46.2;
       some (l47, marks48, 0)))
     (fun (p14 : (List Rgb) × (List Int) × Int) =>
      let v15 := p14.1;
      let v16 := p14.2.1;
      let v17 := p14.2.2;
      some (v15, v16, v17)) o18)) := (call_eq ..).trans (by kernel_rfl)

noncomputable def ref22_Colours_loop11 (l16 : List Rgb) (tr20 tr21 tr22 : Int) (s23 : Int × Int) : Option ((Int × Int) ⊕ (Int)) :=
   let best24 := s23.1;
   let v25 := s23.2;
   (if (decide (v25 < ((l16.length : Nat) : Int))) = true then
    (if 0 ≤ v25 ∧ v25 < (l16.length : Int) then
     (l16[v25.toNat]?).bind fun e26 =>
     (if (decide (best24 < 0)) = true then
      let t27 := IntKind.i64.wrap (v25 + 1);
      some (Sum.inl (v25, t27))
      else
      (ref22_far tr20 tr21 tr22 e26.r e26.g e26.b).bind fun q28 =>
      (if 0 ≤ best24 ∧ best24 < (l16.length : Int) then
       (l16[best24.toNat]?).bind fun e29 =>
       (ref22_far tr20 tr21 tr22 e29.r e29.g e29.b).bind fun q30 =>
       (if (decide (q28 < q30)) = true then
        let t31 := IntKind.i64.wrap (v25 + 1);
        some (Sum.inl (v25, t31))
        else
        let t32 := IntKind.i64.wrap (v25 + 1);
        some (Sum.inl (best24, t32)))
       else
       none))
     else
     none)
    else
    some (Sum.inr best24))
noncomputable def ref22_Colours_loop11_step (l16 : List Rgb) (tr20 tr21 tr22 : Int) (i33 : Nat) (x34 : Rgb) (s35 : Int) : Option ((Int) ⊕ (Int)) :=
   (l16[((i33 : Nat) : Int).toNat]?).bind fun e26 =>
   (if (decide (s35 < 0)) = true then
    some (Sum.inl (((i33 : Nat) : Int)))
    else
    (ref22_far tr20 tr21 tr22 e26.r e26.g e26.b).bind fun q28 =>
    (if 0 ≤ s35 ∧ s35 < (l16.length : Int) then
     (l16[s35.toNat]?).bind fun e29 =>
     (ref22_far tr20 tr21 tr22 e29.r e29.g e29.b).bind fun q30 =>
     (if (decide (q28 < q30)) = true then
      some (Sum.inl (((i33 : Nat) : Int)))
      else
      some (Sum.inl (s35)))
     else
     none))
theorem ref22_Colours_loop11_over (l16 : List Rgb) (tr20 tr21 tr22 : Int) (hl : l16.length ≤ 9223372036854775807) (s35 : Int) : loop (ref22_Colours_loop11 l16 tr20 tr21 tr22) ((s35, 0) : Int × Int) =
    overL (ref22_Colours_loop11_step l16 tr20 tr21 tr22) (fun (s35 : Int) => some s35) 0 l16 s35 := by
  refine loop_over l16 (fun n (s : Int) => ((s, ((n : Nat) : Int)) : Int × Int)) _ _ (fun s => ?_) (fun i x s h => ?_) 0 s35 (Nat.zero_le _)
  · unfold ref22_Colours_loop11; simp
  · have hlt := lt_len_of_get h
    have h1 : ((i : Nat) : Int) < ((l16.length : Nat) : Int) := by omega
    have h0 : (0 : Int) ≤ ((i : Nat) : Int) := by omega
    have hw : IntKind.i64.wrap (((i : Nat) : Int) + 1) = (((i + 1 : Nat) : Nat) : Int) := w64 (by omega)
    unfold ref22_Colours_loop11 ref22_Colours_loop11_step
    simp only [h1, h0, hw, h, decide_true, if_true, and_self, true_and, Int.toNat_natCast, Option.bind_some, Option.map_bind, Function.comp_def, map_ite, map_elim, Option.map_some, Option.map_none]

noncomputable def ref22_Colours_loop6 (i1 i2 : Int) (i3 i4 i5 : List Int) (n9 : Int) (tr12 : List Placed) (s14 : Int × (List Rgb) × (List Int)) : Option ((Int × (List Rgb) × (List Int)) ⊕ ((List Rgb) × (List Int))) :=
   let v15 := s14.1;
   let l16 := s14.2.1;
   let marks17 := s14.2.2;
   (if (decide (v15 < ((tr12.length : Nat) : Int))) = true then
    (if 0 ≤ v15 then
     (tr12[v15.toNat]?).bind fun e18 =>
     (ref22_mean i1 i2 i3 i4 i5 e18.pix_w e18.pix_h e18.pix_pix e18.x e18.y).bind fun q19 =>
     let tr20 := q19.1;
     let tr21 := q19.2.1;
     let tr22 := q19.2.2;
     (loop (ref22_Colours_loop11 l16 tr20 tr21 tr22) ((-1), 0)).bind (fun best36 =>
      ((if (decide (best36 < 0)) = true then
        some true
        else
        (if 0 ≤ best36 ∧ best36 < (l16.length : Int) then
         (l16[best36.toNat]?).bind fun e37 =>
         (ref22_far tr20 tr21 tr22 e37.r e37.g e37.b).bind fun q38 =>
         (if (decide (q38 > 0)) = true then
          some (decide (((l16.length : Nat) : Int) < n9))
          else
          some false)
         else
         none)) : Option (Bool)).bind (fun v39 =>
       ((if v39 = true then
         (if (l16.length + ([(Rgb.mk tr20 tr21 tr22)] : List Rgb).length) * 24 ≤ 140737488355328 then
          let t40 : List Rgb := l16 ++ [(Rgb.mk tr20 tr21 tr22)];
          let t41 := IntKind.i64.wrap (((t40.length : Nat) : Int) - 1);
          some (t41, t40)
          else
          none)
         else
         some (best36, l16)) : Option (Int × (List Rgb))).bind (fun p42 =>
        let best43 := p42.1;
        let l44 := p42.2;
        (if (marks17.length + ([best43] : List Int).length) * 8 ≤ 140737488355328 then
         let t45 : List Int := marks17 ++ [best43];
         let t46 := IntKind.i64.wrap (v15 + 1);
         some (Sum.inl (t46, l44, t45))
         else
         none))))
     else
     none)
    else
    some (Sum.inr (l16, marks17)))
noncomputable def ref22_Colours_loop6_step (i1 i2 : Int) (i3 i4 i5 : List Int) (n9 : Int) (i47 : Nat) (x48 : Placed) (s49 : (List Rgb) × (List Int)) : Option (((List Rgb) × (List Int)) ⊕ ((List Rgb) × (List Int))) :=
   let l50 := s49.1;
   let marks51 := s49.2;
   (ref22_mean i1 i2 i3 i4 i5 x48.pix_w x48.pix_h x48.pix_pix x48.x x48.y).bind fun q19 =>
   let tr20 := q19.1;
   let tr21 := q19.2.1;
   let tr22 := q19.2.2;
   (loop (ref22_Colours_loop11 l50 tr20 tr21 tr22) ((-1), 0)).bind (fun best36 =>
    ((if (decide (best36 < 0)) = true then
      some true
      else
      (if 0 ≤ best36 ∧ best36 < (l50.length : Int) then
       (l50[best36.toNat]?).bind fun e37 =>
       (ref22_far tr20 tr21 tr22 e37.r e37.g e37.b).bind fun q38 =>
       (if (decide (q38 > 0)) = true then
        some (decide (((l50.length : Nat) : Int) < n9))
        else
        some false)
       else
       none)) : Option (Bool)).bind (fun v39 =>
     ((if v39 = true then
       (if (l50.length + ([(Rgb.mk tr20 tr21 tr22)] : List Rgb).length) * 24 ≤ 140737488355328 then
        let t40 : List Rgb := l50 ++ [(Rgb.mk tr20 tr21 tr22)];
        let t41 := IntKind.i64.wrap (((t40.length : Nat) : Int) - 1);
        some (t41, t40)
        else
        none)
       else
       some (best36, l50)) : Option (Int × (List Rgb))).bind (fun p42 =>
      let best43 := p42.1;
      let l44 := p42.2;
      (if (marks51.length + ([best43] : List Int).length) * 8 ≤ 140737488355328 then
       let t45 : List Int := marks51 ++ [best43];
       some (Sum.inl ((l44, t45)))
       else
       none))))
theorem ref22_Colours_loop6_over (i1 i2 : Int) (i3 i4 i5 : List Int) (n9 : Int) (tr12 : List Placed) (hl : tr12.length ≤ 9223372036854775807) (s49 : (List Rgb) × (List Int)) : loop (ref22_Colours_loop6 i1 i2 i3 i4 i5 n9 tr12) ((0, s49.1, s49.2) : Int × (List Rgb) × (List Int)) =
    overL (ref22_Colours_loop6_step i1 i2 i3 i4 i5 n9) (fun (s49 : (List Rgb) × (List Int)) => let l50 := s49.1; let marks51 := s49.2; some (l50, marks51)) 0 tr12 s49 := by
  refine loop_over tr12 (fun n (s : (List Rgb) × (List Int)) => ((((n : Nat) : Int), s.1, s.2) : Int × (List Rgb) × (List Int))) _ _ (fun s => ?_) (fun i x s h => ?_) 0 s49 (Nat.zero_le _)
  · unfold ref22_Colours_loop6; simp
  · have hlt := lt_len_of_get h
    have h1 : ((i : Nat) : Int) < ((tr12.length : Nat) : Int) := by omega
    have h0 : (0 : Int) ≤ ((i : Nat) : Int) := by omega
    have hw : IntKind.i64.wrap (((i : Nat) : Int) + 1) = (((i + 1 : Nat) : Nat) : Int) := w64 (by omega)
    unfold ref22_Colours_loop6 ref22_Colours_loop6_step
    simp only [h1, h0, hw, h, decide_true, if_true, and_self, true_and, Int.toNat_natCast, Option.bind_some, Option.map_bind, Function.comp_def, map_ite, map_elim, Option.map_some, Option.map_none]

theorem ref22_Colours_eq (i1 i2 : Int) (i3 i4 i5 : List Int) (mask6 mask7 : Int) (mask8 : List Int) (n9 : Int) : ref22_Colours i1 i2 i3 i4 i5 mask6 mask7 mask8 n9 =
   (ref22_asked i1 i2 i3 i4 i5 mask6 mask7 mask8 n9).bind fun q10 =>
   (if (!decide (q10 = 0)) = true then
    some ([], [], q10)
    else
    (ref15_Components mask6 mask7 mask8).bind fun q11 =>
    let tr12 := q11.1;
    let tr13 := q11.2;
    (loop (ref22_Colours_loop6 i1 i2 i3 i4 i5 n9 tr12) (0, [], [])).bind (fun p52 =>
     let l53 := p52.1;
     let marks54 := p52.2;
     some (l53, marks54, 0))) := (call_eq ..).trans (by kernel_rfl)

noncomputable def ref02_SameInts_loop4 (a1 b2 : List Int) (v3 : Int) : Option ((Int) ⊕ ((Unit) ⊕ (Bool))) :=
   (if (decide (v3 < ((a1.length : Nat) : Int))) = true then
    (if 0 ≤ v3 ∧ v3 < (a1.length : Int) then
     (if 0 ≤ v3 ∧ v3 < (b2.length : Int) then
      (if (!decide (rd a1 v3 = rd b2 v3)) = true then
       some (Sum.inr (Sum.inr false))
       else
       let t4 := IntKind.i64.wrap (v3 + 1);
       some (Sum.inl t4))
      else
      none)
     else
     none)
    else
    some (Sum.inr (Sum.inl ())))
noncomputable def ref02_SameInts_loop4_step (b2 : List Int) (i5 : Nat) (x6 : Int) (s7 : Unit) : Option ((Unit) ⊕ ((Unit) ⊕ (Bool))) :=
   (if 0 ≤ ((i5 : Nat) : Int) ∧ ((i5 : Nat) : Int) < (b2.length : Int) then
    (if (!decide (x6 = rd b2 ((i5 : Nat) : Int))) = true then
     some (Sum.inr (Sum.inr false))
     else
     some (Sum.inl (())))
    else
    none)
theorem ref02_SameInts_loop4_over (a1 b2 : List Int) (hl : a1.length ≤ 9223372036854775807) (s7 : Unit) : loop (ref02_SameInts_loop4 a1 b2) (0 : Int) =
    overL (ref02_SameInts_loop4_step b2) (fun (s7 : Unit) => some (Sum.inl ())) 0 a1 s7 := by
  refine loop_over a1 (fun n (s : Unit) => (((n : Nat) : Int) : Int)) _ _ (fun s => ?_) (fun i x s h => ?_) 0 s7 (Nat.zero_le _)
  · unfold ref02_SameInts_loop4; simp
  · have hlt := lt_len_of_get h
    have h1 : ((i : Nat) : Int) < ((a1.length : Nat) : Int) := by omega
    have h0 : (0 : Int) ≤ ((i : Nat) : Int) := by omega
    have hw : IntKind.i64.wrap (((i : Nat) : Int) + 1) = (((i + 1 : Nat) : Nat) : Int) := w64 (by omega)
    have hr : rd a1 ((i : Nat) : Int) = x := rd_nat h
    unfold ref02_SameInts_loop4 ref02_SameInts_loop4_step
    simp only [h1, h0, hw, h, hr, decide_true, if_true, and_self, true_and, Int.toNat_natCast, Option.bind_some, Option.map_bind, Function.comp_def, map_ite, map_elim, Option.map_some, Option.map_none]

theorem ref02_SameInts_eq (a1 b2 : List Int) : ref02_SameInts a1 b2 =
   (if (!decide (((a1.length : Nat) : Int) = ((b2.length : Nat) : Int))) = true then
    some false
    else
    (loop (ref02_SameInts_loop4 a1 b2) 0).bind (fun o10 =>
     (Sum.elim (fun (p8 : Unit) =>
       some true)
      (fun (v9 : Bool) =>
       some v9) o10))) := (call_eq ..).trans (by kernel_rfl)

noncomputable def layer_Render_loop7 (l1 l8 : Int) (tr15 : List Int) (tr19 : Int) (tr21 tr22 tr23 : List Int) (s25 : Int × (List Int) × (List Int) × (List Int)) : Option ((Int × (List Int) × (List Int) × (List Int)) ⊕ ((List Int) × (List Int) × (List Int))) :=
   let v26 := s25.1;
   let b27 := s25.2.1;
   let b28 := s25.2.2.1;
   let b29 := s25.2.2.2;
   (if (decide (v26 < ((tr15.length : Nat) : Int))) = true then
    (if l1 = 0 then
     none
     else
     let t30 := IntKind.i64.wrap (v26.tdiv l1);
     (if l8 = 0 then
      none
      else
      let t31 := IntKind.i64.wrap (t30.tdiv l8);
      let t32 := IntKind.i64.wrap (t31 * tr19);
      (if l1 = 0 then
       none
       else
       let t33 : Int := v26.tmod l1;
       (if l8 = 0 then
        none
        else
        let t34 := IntKind.i64.wrap (t33.tdiv l8);
        let t35 := IntKind.i64.wrap (t32 + t34);
        (if 0 ≤ t35 ∧ t35 < (tr21.length : Int) then
         (if 0 ≤ t35 ∧ t35 < (tr22.length : Int) then
          (if 0 ≤ t35 ∧ t35 < (tr23.length : Int) then
           (if 0 ≤ v26 ∧ v26 < (b27.length : Int) then
            let w36 : List Int := b27.set v26.toNat (rd tr21 t35);
            (if 0 ≤ v26 ∧ v26 < (b28.length : Int) then
             let w37 : List Int := b28.set v26.toNat (rd tr22 t35);
             (if 0 ≤ v26 ∧ v26 < (b29.length : Int) then
              let w38 : List Int := b29.set v26.toNat (rd tr23 t35);
              let t39 := IntKind.i64.wrap (v26 + 1);
              some (Sum.inl (t39, w36, w37, w38))
              else
              none)
             else
             none)
            else
            none)
           else
           none)
          else
          none)
         else
         none)))))
    else
    some (Sum.inr (b27, b28, b29)))
noncomputable def layer_Render_loop7_step (l1 l8 tr19 : Int) (tr21 tr22 tr23 : List Int) (i40 : Nat) (x41 : Int) (s42 : (List Int) × (List Int) × (List Int)) : Option (((List Int) × (List Int) × (List Int)) ⊕ ((List Int) × (List Int) × (List Int))) :=
   let b43 := s42.1;
   let b44 := s42.2.1;
   let b45 := s42.2.2;
   (if l1 = 0 then
    none
    else
    let t30 := IntKind.i64.wrap (((i40 : Nat) : Int).tdiv l1);
    (if l8 = 0 then
     none
     else
     let t31 := IntKind.i64.wrap (t30.tdiv l8);
     let t32 := IntKind.i64.wrap (t31 * tr19);
     (if l1 = 0 then
      none
      else
      let t33 : Int := ((i40 : Nat) : Int).tmod l1;
      (if l8 = 0 then
       none
       else
       let t34 := IntKind.i64.wrap (t33.tdiv l8);
       let t35 := IntKind.i64.wrap (t32 + t34);
       (if 0 ≤ t35 ∧ t35 < (tr21.length : Int) then
        (if 0 ≤ t35 ∧ t35 < (tr22.length : Int) then
         (if 0 ≤ t35 ∧ t35 < (tr23.length : Int) then
          (if 0 ≤ ((i40 : Nat) : Int) ∧ ((i40 : Nat) : Int) < (b43.length : Int) then
           let w36 : List Int := b43.set ((i40 : Nat) : Int).toNat (rd tr21 t35);
           (if 0 ≤ ((i40 : Nat) : Int) ∧ ((i40 : Nat) : Int) < (b44.length : Int) then
            let w37 : List Int := b44.set ((i40 : Nat) : Int).toNat (rd tr22 t35);
            (if 0 ≤ ((i40 : Nat) : Int) ∧ ((i40 : Nat) : Int) < (b45.length : Int) then
             let w38 : List Int := b45.set ((i40 : Nat) : Int).toNat (rd tr23 t35);
             some (Sum.inl ((w36, w37, w38)))
             else
             none)
            else
            none)
           else
           none)
          else
          none)
         else
         none)
        else
        none)))))
theorem layer_Render_loop7_over (l1 l8 : Int) (tr15 : List Int) (tr19 : Int) (tr21 tr22 tr23 : List Int) (hl : tr15.length ≤ 9223372036854775807) (s42 : (List Int) × (List Int) × (List Int)) : loop (layer_Render_loop7 l1 l8 tr15 tr19 tr21 tr22 tr23) ((0, s42.1, s42.2.1, s42.2.2) : Int × (List Int) × (List Int) × (List Int)) =
    overL (layer_Render_loop7_step l1 l8 tr19 tr21 tr22 tr23) (fun (s42 : (List Int) × (List Int) × (List Int)) => let b43 := s42.1; let b44 := s42.2.1; let b45 := s42.2.2; some (b43, b44, b45)) 0 tr15 s42 := by
  refine loop_over tr15 (fun n (s : (List Int) × (List Int) × (List Int)) => ((((n : Nat) : Int), s.1, s.2.1, s.2.2) : Int × (List Int) × (List Int) × (List Int))) _ _ (fun s => ?_) (fun i x s h => ?_) 0 s42 (Nat.zero_le _)
  · unfold layer_Render_loop7; simp
  · have hlt := lt_len_of_get h
    have h1 : ((i : Nat) : Int) < ((tr15.length : Nat) : Int) := by omega
    have h0 : (0 : Int) ≤ ((i : Nat) : Int) := by omega
    have hw : IntKind.i64.wrap (((i : Nat) : Int) + 1) = (((i + 1 : Nat) : Nat) : Int) := w64 (by omega)
    have hr : rd tr15 ((i : Nat) : Int) = x := rd_nat h
    unfold layer_Render_loop7 layer_Render_loop7_step
    simp only [h1, h0, hw, h, hr, decide_true, if_true, and_self, true_and, Int.toNat_natCast, Option.bind_some, Option.map_bind, Function.comp_def, map_ite, map_elim, Option.map_some, Option.map_none]

noncomputable def layer_Render_loop14 (l6 : List Rgb) (l7 : List Int) (tr55 : List Placed) (s57 : Int × Int × Int × (List Int) × (List Int) × (List Int)) : Option ((Int × Int × Int × (List Int) × (List Int) × (List Int)) ⊕ (Int × Int × (List Int) × (List Int) × (List Int))) :=
   let v58 := s57.1;
   let b59 := s57.2.1;
   let b60 := s57.2.2.1;
   let b61 := s57.2.2.2.1;
   let b62 := s57.2.2.2.2.1;
   let b63 := s57.2.2.2.2.2;
   (if (decide (v58 < ((tr55.length : Nat) : Int))) = true then
    (if 0 ≤ v58 then
     (tr55[v58.toNat]?).bind fun e64 =>
     ((if (decide (((l6.length : Nat) : Int) > 0)) = true then
       (if 0 ≤ v58 ∧ v58 < (l7.length : Int) then
        (if 0 ≤ rd l7 v58 then
         (l6[(rd l7 v58).toNat]?).bind fun e65 =>
         some (e65.r, e65.g, e65.b)
         else
         none)
        else
        none)
       else
       some (0, 0, 0)) : Option (Int × Int × Int)).bind (fun p66 =>
      let b67 := p66.1;
      let b68 := p66.2.1;
      let b69 := p66.2.2;
      (colour_Paint b59 b60 b61 b62 b63 e64.pix_w e64.pix_h e64.pix_pix e64.x e64.y b67 b68 b69).bind fun q70 =>
      let tr71 := q70.1;
      let tr72 := q70.2.1;
      let tr73 := q70.2.2.1;
      let tr74 := q70.2.2.2.1;
      let tr75 := q70.2.2.2.2.1;
      let tr76 := q70.2.2.2.2.2;
      let t77 := IntKind.i64.wrap (v58 + 1);
      some (Sum.inl (t77, tr71, tr72, tr73, tr74, tr75)))
     else
     none)
    else
    some (Sum.inr (b59, b60, b61, b62, b63)))
noncomputable def layer_Render_loop14_step (l6 : List Rgb) (l7 : List Int) (i78 : Nat) (x79 : Placed) (s80 : Int × Int × (List Int) × (List Int) × (List Int)) : Option ((Int × Int × (List Int) × (List Int) × (List Int)) ⊕ (Int × Int × (List Int) × (List Int) × (List Int))) :=
   let b81 := s80.1;
   let b82 := s80.2.1;
   let b83 := s80.2.2.1;
   let b84 := s80.2.2.2.1;
   let b85 := s80.2.2.2.2;
   ((if (decide (((l6.length : Nat) : Int) > 0)) = true then
     (if 0 ≤ ((i78 : Nat) : Int) ∧ ((i78 : Nat) : Int) < (l7.length : Int) then
      (if 0 ≤ rd l7 ((i78 : Nat) : Int) then
       (l6[(rd l7 ((i78 : Nat) : Int)).toNat]?).bind fun e65 =>
       some (e65.r, e65.g, e65.b)
       else
       none)
      else
      none)
     else
     some (0, 0, 0)) : Option (Int × Int × Int)).bind (fun p66 =>
    let b67 := p66.1;
    let b68 := p66.2.1;
    let b69 := p66.2.2;
    (colour_Paint b81 b82 b83 b84 b85 x79.pix_w x79.pix_h x79.pix_pix x79.x x79.y b67 b68 b69).bind fun q70 =>
    let tr71 := q70.1;
    let tr72 := q70.2.1;
    let tr73 := q70.2.2.1;
    let tr74 := q70.2.2.2.1;
    let tr75 := q70.2.2.2.2.1;
    let tr76 := q70.2.2.2.2.2;
    some (Sum.inl ((tr71, tr72, tr73, tr74, tr75))))
theorem layer_Render_loop14_over (l6 : List Rgb) (l7 : List Int) (tr55 : List Placed) (hl : tr55.length ≤ 9223372036854775807) (s80 : Int × Int × (List Int) × (List Int) × (List Int)) : loop (layer_Render_loop14 l6 l7 tr55) ((0, s80.1, s80.2.1, s80.2.2.1, s80.2.2.2.1, s80.2.2.2.2) : Int × Int × Int × (List Int) × (List Int) × (List Int)) =
    overL (layer_Render_loop14_step l6 l7) (fun (s80 : Int × Int × (List Int) × (List Int) × (List Int)) => let b81 := s80.1; let b82 := s80.2.1; let b83 := s80.2.2.1; let b84 := s80.2.2.2.1; let b85 := s80.2.2.2.2; some (b81, b82, b83, b84, b85)) 0 tr55 s80 := by
  refine loop_over tr55 (fun n (s : Int × Int × (List Int) × (List Int) × (List Int)) => ((((n : Nat) : Int), s.1, s.2.1, s.2.2.1, s.2.2.2.1, s.2.2.2.2) : Int × Int × Int × (List Int) × (List Int) × (List Int))) _ _ (fun s => ?_) (fun i x s h => ?_) 0 s80 (Nat.zero_le _)
  · unfold layer_Render_loop14; simp
  · have hlt := lt_len_of_get h
    have h1 : ((i : Nat) : Int) < ((tr55.length : Nat) : Int) := by omega
    have h0 : (0 : Int) ≤ ((i : Nat) : Int) := by omega
    have hw : IntKind.i64.wrap (((i : Nat) : Int) + 1) = (((i + 1 : Nat) : Nat) : Int) := w64 (by omega)
    unfold layer_Render_loop14 layer_Render_loop14_step
    simp only [h1, h0, hw, h, decide_true, if_true, and_self, true_and, Int.toNat_natCast, Option.bind_some, Option.map_bind, Function.comp_def, map_ite, map_elim, Option.map_some, Option.map_none]

theorem layer_Render_eq (l1 l2 l3 l4 : Int) (l5 : List Int) (l6 : List Rgb) (l7 : List Int) (l8 : Int) (l9 : List (List Int)) : layer_Render l1 l2 l3 l4 l5 l6 l7 l8 l9 =
   (layer_Valid l1 l2 l3 l4 l5 l6 l7 l8 l9).bind fun q10 =>
   (if (!q10) = true then
    some (0, 0, [], [], [], 85)
    else
    (colour_New l1 l2 255 255 255).bind fun q11 =>
    let tr12 := q11.1;
    let tr13 := q11.2.1;
    let tr14 := q11.2.2.1;
    let tr15 := q11.2.2.2.1;
    let tr16 := q11.2.2.2.2.1;
    let tr17 := q11.2.2.2.2.2;
    ((if (decide (((l9.length : Nat) : Int) > 0)) = true then
      (layer_back l1 l2 l3 l4 l5 l6 l7 l8 l9).bind fun q18 =>
      let tr19 := q18.1;
      let tr20 := q18.2.1;
      let tr21 := q18.2.2.1;
      let tr22 := q18.2.2.2.1;
      let tr23 := q18.2.2.2.2.1;
      let tr24 := q18.2.2.2.2.2;
      (loop (layer_Render_loop7 l1 l8 tr15 tr19 tr21 tr22 tr23) (0, tr15, tr16, tr17)).bind (fun p46 =>
       let b47 := p46.1;
       let b48 := p46.2.1;
       let b49 := p46.2.2;
       some (b47, b48, b49))
      else
      some (tr15, tr16, tr17)) : Option ((List Int) × (List Int) × (List Int))).bind (fun p50 =>
     let b51 := p50.1;
     let b52 := p50.2.1;
     let b53 := p50.2.2;
     (shape_Components l3 l4 l5).bind fun q54 =>
     let tr55 := q54.1;
     let tr56 := q54.2;
     (loop (layer_Render_loop14 l6 l7 tr55) (0, tr12, tr13, b51, b52, b53)).bind (fun p86 =>
      let b87 := p86.1;
      let b88 := p86.2.1;
      let b89 := p86.2.2.1;
      let b90 := p86.2.2.2.1;
      let b91 := p86.2.2.2.2;
      some (b87, b88, b89, b90, b91, 0)))) := (call_eq ..).trans (by kernel_rfl)

noncomputable def ref19_Of_loop3 (w1 h2 r3 g4 b5 : Int) (s6 : Int × Int × Int × (List Int) × (List Int) × (List Int)) : Option ((Int × Int × Int × (List Int) × (List Int) × (List Int)) ⊕ (Int × Int × (List Int) × (List Int) × (List Int))) :=
   let k7 := s6.1;
   let b8 := s6.2.1;
   let b9 := s6.2.2.1;
   let b10 := s6.2.2.2.1;
   let b11 := s6.2.2.2.2.1;
   let b12 := s6.2.2.2.2.2;
   let t13 := IntKind.i64.wrap (w1 * h2);
   (if (decide (k7 < t13)) = true then
    (if (b10.length + ([r3] : List Int).length) * 8 ≤ 140737488355328 then
     let t14 : List Int := b10 ++ [r3];
     (if (b11.length + ([g4] : List Int).length) * 8 ≤ 140737488355328 then
      let t15 : List Int := b11 ++ [g4];
      (if (b12.length + ([b5] : List Int).length) * 8 ≤ 140737488355328 then
       let t16 : List Int := b12 ++ [b5];
       let t17 := IntKind.i64.wrap (k7 + 1);
       some (Sum.inl (t17, b8, b9, t14, t15, t16))
       else
       none)
      else
      none)
     else
     none)
    else
    some (Sum.inr (b8, b9, b10, b11, b12)))
theorem ref19_Of_eq (w1 h2 r3 g4 b5 : Int) : ref19_Of w1 h2 r3 g4 b5 =
   (loop (ref19_Of_loop3 w1 h2 r3 g4 b5) (0, w1, h2, [], [], [])).bind (fun p18 =>
    let b19 := p18.1;
    let b20 := p18.2.1;
    let b21 := p18.2.2.1;
    let b22 := p18.2.2.2.1;
    let b23 := p18.2.2.2.2;
    some (b19, b20, b21, b22, b23)) := (call_eq ..).trans (by kernel_rfl)

noncomputable def ref19_Same_loop4 (a3 b8 : List Int) (k12 : Int) : Option ((Int) ⊕ ((Unit) ⊕ (Bool))) :=
   (if (decide (k12 < ((a3.length : Nat) : Int))) = true then
    (if 0 ≤ k12 ∧ k12 < (a3.length : Int) then
     (if 0 ≤ k12 ∧ k12 < (b8.length : Int) then
      (if (!decide (rd a3 k12 = rd b8 k12)) = true then
       some (Sum.inr (Sum.inr false))
       else
       let t13 := IntKind.i64.wrap (k12 + 1);
       some (Sum.inl t13))
      else
      none)
     else
     none)
    else
    some (Sum.inr (Sum.inl ())))
noncomputable def ref19_Same_loop4_step (b8 : List Int) (i14 : Nat) (x15 : Int) (s16 : Unit) : Option ((Unit) ⊕ ((Unit) ⊕ (Bool))) :=
   (if 0 ≤ ((i14 : Nat) : Int) ∧ ((i14 : Nat) : Int) < (b8.length : Int) then
    (if (!decide (x15 = rd b8 ((i14 : Nat) : Int))) = true then
     some (Sum.inr (Sum.inr false))
     else
     some (Sum.inl (())))
    else
    none)
theorem ref19_Same_loop4_over (a3 b8 : List Int) (hl : a3.length ≤ 9223372036854775807) (s16 : Unit) : loop (ref19_Same_loop4 a3 b8) (0 : Int) =
    overL (ref19_Same_loop4_step b8) (fun (s16 : Unit) => some (Sum.inl ())) 0 a3 s16 := by
  refine loop_over a3 (fun n (s : Unit) => (((n : Nat) : Int) : Int)) _ _ (fun s => ?_) (fun i x s h => ?_) 0 s16 (Nat.zero_le _)
  · unfold ref19_Same_loop4; simp
  · have hlt := lt_len_of_get h
    have h1 : ((i : Nat) : Int) < ((a3.length : Nat) : Int) := by omega
    have h0 : (0 : Int) ≤ ((i : Nat) : Int) := by omega
    have hw : IntKind.i64.wrap (((i : Nat) : Int) + 1) = (((i + 1 : Nat) : Nat) : Int) := w64 (by omega)
    have hr : rd a3 ((i : Nat) : Int) = x := rd_nat h
    unfold ref19_Same_loop4 ref19_Same_loop4_step
    simp only [h1, h0, hw, h, hr, decide_true, if_true, and_self, true_and, Int.toNat_natCast, Option.bind_some, Option.map_bind, Function.comp_def, map_ite, map_elim, Option.map_some, Option.map_none]

noncomputable def ref19_Same_loop9 (a4 b9 : List Int) (k20 : Int) : Option ((Int) ⊕ ((Unit) ⊕ (Bool))) :=
   (if (decide (k20 < ((a4.length : Nat) : Int))) = true then
    (if 0 ≤ k20 ∧ k20 < (a4.length : Int) then
     (if 0 ≤ k20 ∧ k20 < (b9.length : Int) then
      (if (!decide (rd a4 k20 = rd b9 k20)) = true then
       some (Sum.inr (Sum.inr false))
       else
       let t21 := IntKind.i64.wrap (k20 + 1);
       some (Sum.inl t21))
      else
      none)
     else
     none)
    else
    some (Sum.inr (Sum.inl ())))
noncomputable def ref19_Same_loop9_step (b9 : List Int) (i22 : Nat) (x23 : Int) (s24 : Unit) : Option ((Unit) ⊕ ((Unit) ⊕ (Bool))) :=
   (if 0 ≤ ((i22 : Nat) : Int) ∧ ((i22 : Nat) : Int) < (b9.length : Int) then
    (if (!decide (x23 = rd b9 ((i22 : Nat) : Int))) = true then
     some (Sum.inr (Sum.inr false))
     else
     some (Sum.inl (())))
    else
    none)
theorem ref19_Same_loop9_over (a4 b9 : List Int) (hl : a4.length ≤ 9223372036854775807) (s24 : Unit) : loop (ref19_Same_loop9 a4 b9) (0 : Int) =
    overL (ref19_Same_loop9_step b9) (fun (s24 : Unit) => some (Sum.inl ())) 0 a4 s24 := by
  refine loop_over a4 (fun n (s : Unit) => (((n : Nat) : Int) : Int)) _ _ (fun s => ?_) (fun i x s h => ?_) 0 s24 (Nat.zero_le _)
  · unfold ref19_Same_loop9; simp
  · have hlt := lt_len_of_get h
    have h1 : ((i : Nat) : Int) < ((a4.length : Nat) : Int) := by omega
    have h0 : (0 : Int) ≤ ((i : Nat) : Int) := by omega
    have hw : IntKind.i64.wrap (((i : Nat) : Int) + 1) = (((i + 1 : Nat) : Nat) : Int) := w64 (by omega)
    have hr : rd a4 ((i : Nat) : Int) = x := rd_nat h
    unfold ref19_Same_loop9 ref19_Same_loop9_step
    simp only [h1, h0, hw, h, hr, decide_true, if_true, and_self, true_and, Int.toNat_natCast, Option.bind_some, Option.map_bind, Function.comp_def, map_ite, map_elim, Option.map_some, Option.map_none]

noncomputable def ref19_Same_loop14 (a5 b10 : List Int) (k28 : Int) : Option ((Int) ⊕ ((Unit) ⊕ (Bool))) :=
   (if (decide (k28 < ((a5.length : Nat) : Int))) = true then
    (if 0 ≤ k28 ∧ k28 < (a5.length : Int) then
     (if 0 ≤ k28 ∧ k28 < (b10.length : Int) then
      (if (!decide (rd a5 k28 = rd b10 k28)) = true then
       some (Sum.inr (Sum.inr false))
       else
       let t29 := IntKind.i64.wrap (k28 + 1);
       some (Sum.inl t29))
      else
      none)
     else
     none)
    else
    some (Sum.inr (Sum.inl ())))
noncomputable def ref19_Same_loop14_step (b10 : List Int) (i30 : Nat) (x31 : Int) (s32 : Unit) : Option ((Unit) ⊕ ((Unit) ⊕ (Bool))) :=
   (if 0 ≤ ((i30 : Nat) : Int) ∧ ((i30 : Nat) : Int) < (b10.length : Int) then
    (if (!decide (x31 = rd b10 ((i30 : Nat) : Int))) = true then
     some (Sum.inr (Sum.inr false))
     else
     some (Sum.inl (())))
    else
    none)
theorem ref19_Same_loop14_over (a5 b10 : List Int) (hl : a5.length ≤ 9223372036854775807) (s32 : Unit) : loop (ref19_Same_loop14 a5 b10) (0 : Int) =
    overL (ref19_Same_loop14_step b10) (fun (s32 : Unit) => some (Sum.inl ())) 0 a5 s32 := by
  refine loop_over a5 (fun n (s : Unit) => (((n : Nat) : Int) : Int)) _ _ (fun s => ?_) (fun i x s h => ?_) 0 s32 (Nat.zero_le _)
  · unfold ref19_Same_loop14; simp
  · have hlt := lt_len_of_get h
    have h1 : ((i : Nat) : Int) < ((a5.length : Nat) : Int) := by omega
    have h0 : (0 : Int) ≤ ((i : Nat) : Int) := by omega
    have hw : IntKind.i64.wrap (((i : Nat) : Int) + 1) = (((i + 1 : Nat) : Nat) : Int) := w64 (by omega)
    have hr : rd a5 ((i : Nat) : Int) = x := rd_nat h
    unfold ref19_Same_loop14 ref19_Same_loop14_step
    simp only [h1, h0, hw, h, hr, decide_true, if_true, and_self, true_and, Int.toNat_natCast, Option.bind_some, Option.map_bind, Function.comp_def, map_ite, map_elim, Option.map_some, Option.map_none]

theorem ref19_Same_eq (a1 a2 : Int) (a3 a4 a5 : List Int) (b6 b7 : Int) (b8 b9 b10 : List Int) : ref19_Same a1 a2 a3 a4 a5 b6 b7 b8 b9 b10 =
   ((if (!decide (a1 = b6)) = true then
     some true
     else
     (if (!decide (a2 = b7)) = true then
      some true
      else
      (if (!decide (((a3.length : Nat) : Int) = ((b8.length : Nat) : Int))) = true then
       some true
       else
       (if (!decide (((a4.length : Nat) : Int) = ((b9.length : Nat) : Int))) = true then
        some true
        else
        some (!decide (((a5.length : Nat) : Int) = ((b10.length : Nat) : Int))))))) : Option (Bool)).bind (fun v11 =>
    (if v11 = true then
     some false
     else
     (loop (ref19_Same_loop4 a3 b8) 0).bind (fun o19 =>
      (Sum.elim (fun (p17 : Unit) =>
        (loop (ref19_Same_loop9 a4 b9) 0).bind (fun o27 =>
         (Sum.elim (fun (p25 : Unit) =>
           (loop (ref19_Same_loop14 a5 b10) 0).bind (fun o35 =>
            (Sum.elim (fun (p33 : Unit) =>
              some true)
             (fun (v34 : Bool) =>
              some v34) o35)))
          (fun (v26 : Bool) =>
           some v26) o27)))
       (fun (v18 : Bool) =>
        some v18) o19)))) := (call_eq ..).trans (by kernel_rfl)

theorem layer_Valid_eq (l1 l2 l3 l4 : Int) (l5 : List Int) (l6 : List Rgb) (l7 : List Int) (l8 : Int) (l9 : List (List Int)) : layer_Valid l1 l2 l3 l4 l5 l6 l7 l8 l9 =
   ((layer_isImage l1 l2).bind fun q10 =>
    (if (!q10) = true then
     some true
     else
     (bitmap_Valid l3 l4 l5).bind fun q11 =>
     (if (!q11) = true then
      some true
      else
      (layer_hasMask l1 l2 l3 l4 l5 l6 l7 l8 l9).bind fun q12 =>
      (if q12 = true then
       (if (!decide (l3 = l1)) = true then
        some true
        else
        (if (!decide (l4 = l2)) = true then
         some true
         else
         (if (decide (l8 < 1)) = true then
          some true
          else
          some (decide (l8 > 6)))))
       else
       (if (decide (l8 < 1)) = true then
        some true
        else
        some (decide (l8 > 6)))))) : Option (Bool)).bind (fun v13 =>
    (if v13 = true then
     some false
     else
     (shape_Components l3 l4 l5).bind fun q14 =>
     let tr15 := q14.1;
     let tr16 := q14.2;
     (layer_rightColours l1 l2 l3 l4 l5 l6 l7 l8 l9 ((tr15.length : Nat) : Int)).bind fun q17 =>
     (if (!q17) = true then
      some false
      else
      (if (decide (((l9.length : Nat) : Int) = 0)) = true then
       some true
       else
       (layer_back l1 l2 l3 l4 l5 l6 l7 l8 l9).bind fun q18 =>
       let tr19 := q18.1;
       let tr20 := q18.2.1;
       let tr21 := q18.2.2.1;
       let tr22 := q18.2.2.2.1;
       let tr23 := q18.2.2.2.2.1;
       let tr24 := q18.2.2.2.2.2;
       some tr24)))) := (call_eq ..).trans (by kernel_rfl)

theorem colour_Valid_eq (i1 i2 : Int) (i3 i4 i5 : List Int) : colour_Valid i1 i2 i3 i4 i5 =
   let t6 := IntKind.i64.wrap (i1 * i2);
   (colour_rightSides i1 i2).bind fun q7 =>
   (if q7 = true then
    (colour_rightValues i3 t6).bind fun q8 =>
    (if q8 = true then
     (colour_rightValues i4 t6).bind fun q9 =>
     (if q9 = true then
      (colour_rightValues i5 t6).bind fun q10 =>
      some q10
      else
      some false)
     else
     some false)
    else
    some false) := (call_eq ..).trans (by kernel_rfl)

theorem layer_rightMask_eq (i1 i2 : Int) (i3 i4 i5 : List Int) (mask6 mask7 : Int) (mask8 : List Int) : layer_rightMask i1 i2 i3 i4 i5 mask6 mask7 mask8 =
   (bitmap_Valid mask6 mask7 mask8).bind fun q9 =>
   (if q9 = true then
    (if (decide (mask6 = 0)) = true then
     (if (decide (mask7 = 0)) = true then
      some true
      else
      (if (decide (mask6 = i1)) = true then
       some (decide (mask7 = i2))
       else
       some false))
     else
     (if (decide (mask6 = i1)) = true then
      some (decide (mask7 = i2))
      else
      some false))
    else
    some false) := (call_eq ..).trans (by kernel_rfl)

theorem shape_Components_eq (b1 b2 : Int) (b3 : List Int) : shape_Components b1 b2 b3 =
   (bitmap_Valid b1 b2 b3).bind fun q4 =>
   (if (!q4) = true then
    some ([], 30)
    else
    (shape_components b1 b2 b3).bind fun q5 =>
    some (q5, 0)) := (call_eq ..).trans (by kernel_rfl)

noncomputable def layer_ink_loop4 (i1 : Int) (i3 i4 i5 : List Int) (c6 : Int) (c8 : List Int) (c9 c10 : Int) (s11 : Int × Int × Int × Int × Int) : Option ((Int × Int × Int × Int × Int) ⊕ (Int × Int × Int × Int)) :=
   let n12 := s11.1;
   let v13 := s11.2.1;
   let b14 := s11.2.2.1;
   let b15 := s11.2.2.2.1;
   let b16 := s11.2.2.2.2;
   (if (decide (v13 < ((c8.length : Nat) : Int))) = true then
    (if 0 ≤ v13 ∧ v13 < (c8.length : Int) then
     (if (decide (rd c8 v13 = 1)) = true then
      (if c6 = 0 then
       none
       else
       let t17 := IntKind.i64.wrap (v13.tdiv c6);
       let t18 := IntKind.i64.wrap (c10 + t17);
       let t19 := IntKind.i64.wrap (t18 * i1);
       let t20 := IntKind.i64.wrap (t19 + c9);
       (if c6 = 0 then
        none
        else
        let t21 : Int := v13.tmod c6;
        let t22 := IntKind.i64.wrap (t20 + t21);
        (if 0 ≤ t22 ∧ t22 < (i3.length : Int) then
         let t23 := IntKind.i64.wrap (b14 + rd i3 t22);
         (if 0 ≤ t22 ∧ t22 < (i4.length : Int) then
          let t24 := IntKind.i64.wrap (b15 + rd i4 t22);
          (if 0 ≤ t22 ∧ t22 < (i5.length : Int) then
           let t25 := IntKind.i64.wrap (b16 + rd i5 t22);
           let t26 := IntKind.i64.wrap (n12 + 1);
           let t27 := IntKind.i64.wrap (v13 + 1);
           some (Sum.inl (t26, t27, t23, t24, t25))
           else
           none)
          else
          none)
         else
         none)))
      else
      let t28 := IntKind.i64.wrap (v13 + 1);
      some (Sum.inl (n12, t28, b14, b15, b16)))
     else
     none)
    else
    some (Sum.inr (n12, b14, b15, b16)))
noncomputable def layer_ink_loop4_step (i1 : Int) (i3 i4 i5 : List Int) (c6 c9 c10 : Int) (i29 : Nat) (x30 : Int) (s31 : Int × Int × Int × Int) : Option ((Int × Int × Int × Int) ⊕ (Int × Int × Int × Int)) :=
   let n32 := s31.1;
   let b33 := s31.2.1;
   let b34 := s31.2.2.1;
   let b35 := s31.2.2.2;
   (if (decide (x30 = 1)) = true then
    (if c6 = 0 then
     none
     else
     let t17 := IntKind.i64.wrap (((i29 : Nat) : Int).tdiv c6);
     let t18 := IntKind.i64.wrap (c10 + t17);
     let t19 := IntKind.i64.wrap (t18 * i1);
     let t20 := IntKind.i64.wrap (t19 + c9);
     (if c6 = 0 then
      none
      else
      let t21 : Int := ((i29 : Nat) : Int).tmod c6;
      let t22 := IntKind.i64.wrap (t20 + t21);
      (if 0 ≤ t22 ∧ t22 < (i3.length : Int) then
       let t23 := IntKind.i64.wrap (b33 + rd i3 t22);
       (if 0 ≤ t22 ∧ t22 < (i4.length : Int) then
        let t24 := IntKind.i64.wrap (b34 + rd i4 t22);
        (if 0 ≤ t22 ∧ t22 < (i5.length : Int) then
         let t25 := IntKind.i64.wrap (b35 + rd i5 t22);
         let t26 := IntKind.i64.wrap (n32 + 1);
         some (Sum.inl ((t26, t23, t24, t25)))
         else
         none)
        else
        none)
       else
       none)))
    else
    some (Sum.inl ((n32, b33, b34, b35))))
theorem layer_ink_loop4_over (i1 : Int) (i3 i4 i5 : List Int) (c6 : Int) (c8 : List Int) (c9 c10 : Int) (hl : c8.length ≤ 9223372036854775807) (s31 : Int × Int × Int × Int) : loop (layer_ink_loop4 i1 i3 i4 i5 c6 c8 c9 c10) ((s31.1, 0, s31.2.1, s31.2.2.1, s31.2.2.2) : Int × Int × Int × Int × Int) =
    overL (layer_ink_loop4_step i1 i3 i4 i5 c6 c9 c10) (fun (s31 : Int × Int × Int × Int) => let n32 := s31.1; let b33 := s31.2.1; let b34 := s31.2.2.1; let b35 := s31.2.2.2; some (n32, b33, b34, b35)) 0 c8 s31 := by
  refine loop_over c8 (fun n (s : Int × Int × Int × Int) => ((s.1, ((n : Nat) : Int), s.2.1, s.2.2.1, s.2.2.2) : Int × Int × Int × Int × Int)) _ _ (fun s => ?_) (fun i x s h => ?_) 0 s31 (Nat.zero_le _)
  · unfold layer_ink_loop4; simp
  · have hlt := lt_len_of_get h
    have h1 : ((i : Nat) : Int) < ((c8.length : Nat) : Int) := by omega
    have h0 : (0 : Int) ≤ ((i : Nat) : Int) := by omega
    have hw : IntKind.i64.wrap (((i : Nat) : Int) + 1) = (((i + 1 : Nat) : Nat) : Int) := w64 (by omega)
    have hr : rd c8 ((i : Nat) : Int) = x := rd_nat h
    unfold layer_ink_loop4 layer_ink_loop4_step
    simp only [h1, h0, hw, h, hr, decide_true, if_true, and_self, true_and, Int.toNat_natCast, Option.bind_some, Option.map_bind, Function.comp_def, map_ite, map_elim, Option.map_some, Option.map_none]

theorem layer_ink_eq (i1 i2 : Int) (i3 i4 i5 : List Int) (c6 c7 : Int) (c8 : List Int) (c9 c10 : Int) : layer_ink i1 i2 i3 i4 i5 c6 c7 c8 c9 c10 =
   (loop (layer_ink_loop4 i1 i3 i4 i5 c6 c8 c9 c10) (0, 0, 0, 0, 0)).bind (fun p36 =>
    let n37 := p36.1;
    let b38 := p36.2.1;
    let b39 := p36.2.2.1;
    let b40 := p36.2.2.2;
    (layer_mean b38 n37).bind fun q41 =>
    (layer_mean b39 n37).bind fun q42 =>
    (layer_mean b40 n37).bind fun q43 =>
    some (q41, q42, q43)) := (call_eq ..).trans (by kernel_rfl)

noncomputable def slices_Index_api_Rgb_api_Rgb_loop2 (s1 : List Rgb) (v2 v3 v4 v5 : Int) : Option ((Int) ⊕ ((Unit) ⊕ (Int))) :=
   (if (decide (v5 < ((s1.length : Nat) : Int))) = true then
    (if 0 ≤ v5 then
     (s1[v5.toNat]?).bind fun e6 =>
     (if (decide (v2 = e6.r) && (decide (v3 = e6.g) && (decide (v4 = e6.b) && true))) = true then
      some (Sum.inr (Sum.inr v5))
      else
      let t7 := IntKind.i64.wrap (v5 + 1);
      some (Sum.inl t7))
     else
     none)
    else
    some (Sum.inr (Sum.inl ())))
noncomputable def slices_Index_api_Rgb_api_Rgb_loop2_step (v2 v3 v4 : Int) (i8 : Nat) (x9 : Rgb) (s10 : Unit) : Option ((Unit) ⊕ ((Unit) ⊕ (Int))) :=
   (if (decide (v2 = x9.r) && (decide (v3 = x9.g) && (decide (v4 = x9.b) && true))) = true then
    some (Sum.inr (Sum.inr ((i8 : Nat) : Int)))
    else
    some (Sum.inl (())))
theorem slices_Index_api_Rgb_api_Rgb_loop2_over (s1 : List Rgb) (v2 v3 v4 : Int) (hl : s1.length ≤ 9223372036854775807) (s10 : Unit) : loop (slices_Index_api_Rgb_api_Rgb_loop2 s1 v2 v3 v4) (0 : Int) =
    overL (slices_Index_api_Rgb_api_Rgb_loop2_step v2 v3 v4) (fun (s10 : Unit) => some (Sum.inl ())) 0 s1 s10 := by
  refine loop_over s1 (fun n (s : Unit) => (((n : Nat) : Int) : Int)) _ _ (fun s => ?_) (fun i x s h => ?_) 0 s10 (Nat.zero_le _)
  · unfold slices_Index_api_Rgb_api_Rgb_loop2; simp
  · have hlt := lt_len_of_get h
    have h1 : ((i : Nat) : Int) < ((s1.length : Nat) : Int) := by omega
    have h0 : (0 : Int) ≤ ((i : Nat) : Int) := by omega
    have hw : IntKind.i64.wrap (((i : Nat) : Int) + 1) = (((i + 1 : Nat) : Nat) : Int) := w64 (by omega)
    unfold slices_Index_api_Rgb_api_Rgb_loop2 slices_Index_api_Rgb_api_Rgb_loop2_step
    simp only [h1, h0, hw, h, decide_true, if_true, and_self, true_and, Int.toNat_natCast, Option.bind_some, Option.map_bind, Function.comp_def, map_ite, map_elim, Option.map_some, Option.map_none]

theorem slices_Index_api_Rgb_api_Rgb_eq (s1 : List Rgb) (v2 v3 v4 : Int) : slices_Index_api_Rgb_api_Rgb s1 v2 v3 v4 =
   (loop (slices_Index_api_Rgb_api_Rgb_loop2 s1 v2 v3 v4) 0).bind (fun o13 =>
    (Sum.elim (fun (p11 : Unit) =>
      some (-1))
     (fun (v12 : Int) =>
      some v12) o13)) := (call_eq ..).trans (by kernel_rfl)

noncomputable def layer_nearest_loop3 (l1 : List Rgb) (c2 c3 c4 : Int) (s5 : Int × Int × Int) : Option ((Int × Int × Int) ⊕ (Int)) :=
   let best6 := s5.1;
   let least7 := s5.2.1;
   let v8 := s5.2.2;
   (if (decide (v8 < ((l1.length : Nat) : Int))) = true then
    (if 0 ≤ v8 then
     (l1[v8.toNat]?).bind fun e9 =>
     let t10 := IntKind.i64.wrap (e9.r - c2);
     (layer_abs t10).bind fun q11 =>
     let t12 := IntKind.i64.wrap (e9.g - c3);
     (layer_abs t12).bind fun q13 =>
     let t14 := IntKind.i64.wrap (q11 + q13);
     let t15 := IntKind.i64.wrap (e9.b - c4);
     (layer_abs t15).bind fun q16 =>
     let t17 := IntKind.i64.wrap (t14 + q16);
     (if (decide (least7 < 0)) = true then
      let t18 := IntKind.i64.wrap (v8 + 1);
      some (Sum.inl (v8, t17, t18))
      else
      (if (decide (t17 < least7)) = true then
       let t19 := IntKind.i64.wrap (v8 + 1);
       some (Sum.inl (v8, t17, t19))
       else
       let t20 := IntKind.i64.wrap (v8 + 1);
       some (Sum.inl (best6, least7, t20))))
     else
     none)
    else
    some (Sum.inr best6))
noncomputable def layer_nearest_loop3_step (c2 c3 c4 : Int) (i21 : Nat) (x22 : Rgb) (s23 : Int × Int) : Option ((Int × Int) ⊕ (Int)) :=
   let best24 := s23.1;
   let least25 := s23.2;
   let t10 := IntKind.i64.wrap (x22.r - c2);
   (layer_abs t10).bind fun q11 =>
   let t12 := IntKind.i64.wrap (x22.g - c3);
   (layer_abs t12).bind fun q13 =>
   let t14 := IntKind.i64.wrap (q11 + q13);
   let t15 := IntKind.i64.wrap (x22.b - c4);
   (layer_abs t15).bind fun q16 =>
   let t17 := IntKind.i64.wrap (t14 + q16);
   (if (decide (least25 < 0)) = true then
    some (Sum.inl ((((i21 : Nat) : Int), t17)))
    else
    (if (decide (t17 < least25)) = true then
     some (Sum.inl ((((i21 : Nat) : Int), t17)))
     else
     some (Sum.inl ((best24, least25)))))
theorem layer_nearest_loop3_over (l1 : List Rgb) (c2 c3 c4 : Int) (hl : l1.length ≤ 9223372036854775807) (s23 : Int × Int) : loop (layer_nearest_loop3 l1 c2 c3 c4) ((s23.1, s23.2, 0) : Int × Int × Int) =
    overL (layer_nearest_loop3_step c2 c3 c4) (fun (s23 : Int × Int) => let best24 := s23.1; let least25 := s23.2; some best24) 0 l1 s23 := by
  refine loop_over l1 (fun n (s : Int × Int) => ((s.1, s.2, ((n : Nat) : Int)) : Int × Int × Int)) _ _ (fun s => ?_) (fun i x s h => ?_) 0 s23 (Nat.zero_le _)
  · unfold layer_nearest_loop3; simp
  · have hlt := lt_len_of_get h
    have h1 : ((i : Nat) : Int) < ((l1.length : Nat) : Int) := by omega
    have h0 : (0 : Int) ≤ ((i : Nat) : Int) := by omega
    have hw : IntKind.i64.wrap (((i : Nat) : Int) + 1) = (((i + 1 : Nat) : Nat) : Int) := w64 (by omega)
    unfold layer_nearest_loop3 layer_nearest_loop3_step
    simp only [h1, h0, hw, h, decide_true, if_true, and_self, true_and, Int.toNat_natCast, Option.bind_some, Option.map_bind, Function.comp_def, map_ite, map_elim, Option.map_some, Option.map_none]

theorem layer_nearest_eq (l1 : List Rgb) (c2 c3 c4 : Int) : layer_nearest l1 c2 c3 c4 =
   (loop (layer_nearest_loop3 l1 c2 c3 c4) (0, (-1), 0)).bind (fun best26 =>
    some best26) := (call_eq ..).trans (by kernel_rfl)

theorem ref22_asked_eq (i1 i2 : Int) (i3 i4 i5 : List Int) (mask6 mask7 : Int) (mask8 : List Int) (n9 : Int) : ref22_asked i1 i2 i3 i4 i5 mask6 mask7 mask8 n9 =
   (ref19_Valid i1 i2 i3 i4 i5).bind fun q10 =>
   (if (!q10) = true then
    some 75
    else
    (ref06_IsBitmap mask6 mask7 mask8).bind fun q11 =>
    (if (!q11) = true then
     some 2
     else
     (ref22_none mask6 mask7 mask8).bind fun q12 =>
     (if (!q12) = true then
      (if (!decide (mask6 = i1)) = true then
       some 2
       else
       (if (!decide (mask7 = i2)) = true then
        some 2
        else
        (if (decide (n9 < 1)) = true then
         some 2
         else
         (if (decide (n9 > 16)) = true then
          some 2
          else
          some 0))))
      else
      (if (decide (n9 < 1)) = true then
       some 2
       else
       (if (decide (n9 > 16)) = true then
        some 2
        else
        some 0))))) := (call_eq ..).trans (by kernel_rfl)

noncomputable def ref15_Components_loop10 (tr6 : List Int) (k9 : Int) (s15 : Int × (List Int)) : Option ((Int × (List Int)) ⊕ ((List Int))) :=
   let i16 := s15.1;
   let b17 := s15.2;
   (if (decide (i16 < ((tr6.length : Nat) : Int))) = true then
    (if 0 ≤ i16 ∧ i16 < (tr6.length : Int) then
     (if (!decide (rd tr6 i16 = k9)) = true then
      (if 0 ≤ i16 ∧ i16 < (b17.length : Int) then
       let w18 : List Int := b17.set i16.toNat 0;
       let t19 := IntKind.i64.wrap (i16 + 1);
       some (Sum.inl (t19, w18))
       else
       none)
      else
      let t20 := IntKind.i64.wrap (i16 + 1);
      some (Sum.inl (t20, b17)))
     else
     none)
    else
    some (Sum.inr b17))
noncomputable def ref15_Components_loop10_step (k9 : Int) (i21 : Nat) (x22 : Int) (s23 : (List Int)) : Option (((List Int)) ⊕ ((List Int))) :=
   (if (!decide (x22 = k9)) = true then
    (if 0 ≤ ((i21 : Nat) : Int) ∧ ((i21 : Nat) : Int) < (s23.length : Int) then
     let w18 : List Int := s23.set ((i21 : Nat) : Int).toNat 0;
     some (Sum.inl (w18))
     else
     none)
    else
    some (Sum.inl (s23)))
theorem ref15_Components_loop10_over (tr6 : List Int) (k9 : Int) (hl : tr6.length ≤ 9223372036854775807) (s23 : (List Int)) : loop (ref15_Components_loop10 tr6 k9) ((0, s23) : Int × (List Int)) =
    overL (ref15_Components_loop10_step k9) (fun (s23 : (List Int)) => some s23) 0 tr6 s23 := by
  refine loop_over tr6 (fun n (s : (List Int)) => ((((n : Nat) : Int), s) : Int × (List Int))) _ _ (fun s => ?_) (fun i x s h => ?_) 0 s23 (Nat.zero_le _)
  · unfold ref15_Components_loop10; simp
  · have hlt := lt_len_of_get h
    have h1 : ((i : Nat) : Int) < ((tr6.length : Nat) : Int) := by omega
    have h0 : (0 : Int) ≤ ((i : Nat) : Int) := by omega
    have hw : IntKind.i64.wrap (((i : Nat) : Int) + 1) = (((i + 1 : Nat) : Nat) : Int) := w64 (by omega)
    have hr : rd tr6 ((i : Nat) : Int) = x := rd_nat h
    unfold ref15_Components_loop10 ref15_Components_loop10_step
    simp only [h1, h0, hw, h, hr, decide_true, if_true, and_self, true_and, Int.toNat_natCast, Option.bind_some, Option.map_bind, Function.comp_def, map_ite, map_elim, Option.map_some, Option.map_none]

noncomputable def ref15_Components_loop6 (b1 b2 : Int) (b3 tr6 : List Int) (tr7 : Int) (s8 : Int × (List Placed)) : Option ((Int × (List Placed)) ⊕ ((List Placed))) :=
   let k9 := s8.1;
   let out10 := s8.2;
   (if (decide (k9 ≤ tr7)) = true then
    (ref05_Copy b1 b2 b3).bind fun q11 =>
    let tr12 := q11.1;
    let tr13 := q11.2.1;
    let tr14 := q11.2.2;
    (loop (ref15_Components_loop10 tr6 k9) (0, tr14)).bind (fun b24 =>
     (ref05_Trim tr12 tr13 b24).bind fun q25 =>
     let tr26 := q25.1;
     let tr27 := q25.2.1;
     let tr28 := q25.2.2.1;
     let tr29 := q25.2.2.2.1;
     let tr30 := q25.2.2.2.2.1;
     let tr31 := q25.2.2.2.2.2;
     (if (out10.length + ([(Placed.mk tr26 tr27 tr28 tr29 tr30)] : List Placed).length) * 56 ≤ 140737488355328 then
      let t32 : List Placed := out10 ++ [(Placed.mk tr26 tr27 tr28 tr29 tr30)];
      let t33 := IntKind.i64.wrap (k9 + 1);
      some (Sum.inl (t33, t32))
      else
      none))
    else
    some (Sum.inr out10))
theorem ref15_Components_eq (b1 b2 : Int) (b3 : List Int) : ref15_Components b1 b2 b3 =
   (ref05_Valid b1 b2 b3).bind fun q4 =>
   (if (!q4) = true then
    some ([], 30)
    else
    (ref15_Marks b1 b2 b3).bind fun q5 =>
    let tr6 := q5.1;
    let tr7 := q5.2;
    (loop (ref15_Components_loop6 b1 b2 b3 tr6 tr7) (1, [])).bind (fun out34 =>
     some (out34, 0))) := (call_eq ..).trans (by kernel_rfl)

noncomputable def ref22_mean_loop6 (i1 : Int) (i3 i4 i5 : List Int) (s6 s7 : Int) (s8 : List Int) (s9 s10 v16 : Int) (s17 : Int × Int × Int × Int × Int) : Option ((Int × Int × Int × Int × Int) ⊕ (Int × Int × Int × Int)) :=
   let n18 := s17.1;
   let r19 := s17.2.1;
   let g20 := s17.2.2.1;
   let b21 := s17.2.2.2.1;
   let u22 := s17.2.2.2.2;
   (if (decide (u22 < s6)) = true then
    (ref06_Pix s6 s7 s8 u22 v16).bind fun q23 =>
    (if (decide (q23 = 1)) = true then
     let t24 := IntKind.i64.wrap (s10 + v16);
     let t25 := IntKind.i64.wrap (t24 * i1);
     let t26 := IntKind.i64.wrap (t25 + s9);
     let t27 := IntKind.i64.wrap (t26 + u22);
     let t28 := IntKind.i64.wrap (n18 + 1);
     (if 0 ≤ t27 ∧ t27 < (i3.length : Int) then
      let t29 := IntKind.i64.wrap (r19 + rd i3 t27);
      (if 0 ≤ t27 ∧ t27 < (i4.length : Int) then
       let t30 := IntKind.i64.wrap (g20 + rd i4 t27);
       (if 0 ≤ t27 ∧ t27 < (i5.length : Int) then
        let t31 := IntKind.i64.wrap (b21 + rd i5 t27);
        let t32 := IntKind.i64.wrap (u22 + 1);
        some (Sum.inl (t28, t29, t30, t31, t32))
        else
        none)
       else
       none)
      else
      none)
     else
     let t33 := IntKind.i64.wrap (u22 + 1);
     some (Sum.inl (n18, r19, g20, b21, t33)))
    else
    some (Sum.inr (n18, r19, g20, b21)))
noncomputable def ref22_mean_loop6_step (i1 : Int) (i3 i4 i5 : List Int) (s6 s7 : Int) (s8 : List Int) (s9 s10 v16 : Int) (i34 x35 : Nat) (s36 : Int × Int × Int × Int) : Option ((Int × Int × Int × Int) ⊕ (Int × Int × Int × Int)) :=
   let n37 := s36.1;
   let r38 := s36.2.1;
   let g39 := s36.2.2.1;
   let b40 := s36.2.2.2;
   (ref06_Pix s6 s7 s8 ((i34 : Nat) : Int) v16).bind fun q23 =>
   (if (decide (q23 = 1)) = true then
    let t24 := IntKind.i64.wrap (s10 + v16);
    let t25 := IntKind.i64.wrap (t24 * i1);
    let t26 := IntKind.i64.wrap (t25 + s9);
    let t27 := IntKind.i64.wrap (t26 + ((i34 : Nat) : Int));
    let t28 := IntKind.i64.wrap (n37 + 1);
    (if 0 ≤ t27 ∧ t27 < (i3.length : Int) then
     let t29 := IntKind.i64.wrap (r38 + rd i3 t27);
     (if 0 ≤ t27 ∧ t27 < (i4.length : Int) then
      let t30 := IntKind.i64.wrap (g39 + rd i4 t27);
      (if 0 ≤ t27 ∧ t27 < (i5.length : Int) then
       let t31 := IntKind.i64.wrap (b40 + rd i5 t27);
       some (Sum.inl ((t28, t29, t30, t31)))
       else
       none)
      else
      none)
     else
     none)
    else
    some (Sum.inl ((n37, r38, g39, b40))))
theorem ref22_mean_loop6_over (i1 : Int) (i3 i4 i5 : List Int) (s6 s7 : Int) (s8 : List Int) (s9 s10 v16 : Int) (hl : (List.range (s6).toNat).length ≤ 9223372036854775807) (s36 : Int × Int × Int × Int) : loop (ref22_mean_loop6 i1 i3 i4 i5 s6 s7 s8 s9 s10 v16) ((s36.1, s36.2.1, s36.2.2.1, s36.2.2.2, 0) : Int × Int × Int × Int × Int) =
    overL (ref22_mean_loop6_step i1 i3 i4 i5 s6 s7 s8 s9 s10 v16) (fun (s36 : Int × Int × Int × Int) => let n37 := s36.1; let r38 := s36.2.1; let g39 := s36.2.2.1; let b40 := s36.2.2.2; some (n37, r38, g39, b40)) 0 (List.range (s6).toNat) s36 := by
  refine loop_over (List.range (s6).toNat) (fun n (s : Int × Int × Int × Int) => ((s.1, s.2.1, s.2.2.1, s.2.2.2, ((n : Nat) : Int)) : Int × Int × Int × Int × Int)) _ _ (fun s => ?_) (fun i x s h => ?_) 0 s36 (Nat.zero_le _)
  · have h1 : ¬ (((List.range (s6).toNat).length : Nat) : Int) < s6 := by simp only [List.length_range]; omega
    unfold ref22_mean_loop6; simp only [h1, decide_false, Bool.false_eq_true, if_false, Option.map_some]
  · have hlt := lt_len_of_get h
    rw [List.length_range] at hlt hl
    rw [List.getElem?_range hlt] at h
    cases h
    have h1 : ((i : Nat) : Int) < s6 := by omega
    have h0 : (0 : Int) ≤ ((i : Nat) : Int) := by omega
    have hw : IntKind.i64.wrap (((i : Nat) : Int) + 1) = (((i + 1 : Nat) : Nat) : Int) := w64 (by omega)
    unfold ref22_mean_loop6 ref22_mean_loop6_step
    simp only [h1, h0, hw, decide_true, if_true, and_self, true_and, Int.toNat_natCast, Option.bind_some, Option.map_bind, Function.comp_def, map_ite, map_elim, Option.map_some, Option.map_none]

noncomputable def ref22_mean_loop3 (i1 : Int) (i3 i4 i5 : List Int) (s6 s7 : Int) (s8 : List Int) (s9 s10 : Int) (s11 : Int × Int × Int × Int × Int) : Option ((Int × Int × Int × Int × Int) ⊕ (Int × Int × Int × Int)) :=
   let n12 := s11.1;
   let r13 := s11.2.1;
   let g14 := s11.2.2.1;
   let b15 := s11.2.2.2.1;
   let v16 := s11.2.2.2.2;
   (if (decide (v16 < s7)) = true then
    (loop (ref22_mean_loop6 i1 i3 i4 i5 s6 s7 s8 s9 s10 v16) (n12, r13, g14, b15, 0)).bind (fun p41 =>
     let n42 := p41.1;
     let r43 := p41.2.1;
     let g44 := p41.2.2.1;
     let b45 := p41.2.2.2;
     let t46 := IntKind.i64.wrap (v16 + 1);
     some (Sum.inl (n42, r43, g44, b45, t46)))
    else
    some (Sum.inr (n12, r13, g14, b15)))
noncomputable def ref22_mean_loop3_step (i1 : Int) (i3 i4 i5 : List Int) (s6 s7 : Int) (s8 : List Int) (s9 s10 : Int) (i47 x48 : Nat) (s49 : Int × Int × Int × Int) : Option ((Int × Int × Int × Int) ⊕ (Int × Int × Int × Int)) :=
   let n50 := s49.1;
   let r51 := s49.2.1;
   let g52 := s49.2.2.1;
   let b53 := s49.2.2.2;
   (loop (ref22_mean_loop6 i1 i3 i4 i5 s6 s7 s8 s9 s10 ((i47 : Nat) : Int)) (n50, r51, g52, b53, 0)).bind (fun p41 =>
    let n42 := p41.1;
    let r43 := p41.2.1;
    let g44 := p41.2.2.1;
    let b45 := p41.2.2.2;
    some (Sum.inl ((n42, r43, g44, b45))))
theorem ref22_mean_loop3_over (i1 : Int) (i3 i4 i5 : List Int) (s6 s7 : Int) (s8 : List Int) (s9 s10 : Int) (hl : (List.range (s7).toNat).length ≤ 9223372036854775807) (s49 : Int × Int × Int × Int) : loop (ref22_mean_loop3 i1 i3 i4 i5 s6 s7 s8 s9 s10) ((s49.1, s49.2.1, s49.2.2.1, s49.2.2.2, 0) : Int × Int × Int × Int × Int) =
    overL (ref22_mean_loop3_step i1 i3 i4 i5 s6 s7 s8 s9 s10) (fun (s49 : Int × Int × Int × Int) => let n50 := s49.1; let r51 := s49.2.1; let g52 := s49.2.2.1; let b53 := s49.2.2.2; some (n50, r51, g52, b53)) 0 (List.range (s7).toNat) s49 := by
  refine loop_over (List.range (s7).toNat) (fun n (s : Int × Int × Int × Int) => ((s.1, s.2.1, s.2.2.1, s.2.2.2, ((n : Nat) : Int)) : Int × Int × Int × Int × Int)) _ _ (fun s => ?_) (fun i x s h => ?_) 0 s49 (Nat.zero_le _)
  · have h1 : ¬ (((List.range (s7).toNat).length : Nat) : Int) < s7 := by simp only [List.length_range]; omega
    unfold ref22_mean_loop3; simp only [h1, decide_false, Bool.false_eq_true, if_false, Option.map_some]
  · have hlt := lt_len_of_get h
    rw [List.length_range] at hlt hl
    rw [List.getElem?_range hlt] at h
    cases h
    have h1 : ((i : Nat) : Int) < s7 := by omega
    have h0 : (0 : Int) ≤ ((i : Nat) : Int) := by omega
    have hw : IntKind.i64.wrap (((i : Nat) : Int) + 1) = (((i + 1 : Nat) : Nat) : Int) := w64 (by omega)
    unfold ref22_mean_loop3 ref22_mean_loop3_step
    simp only [h1, h0, hw, decide_true, if_true, and_self, true_and, Int.toNat_natCast, Option.bind_some, Option.map_bind, Function.comp_def, map_ite, map_elim, Option.map_some, Option.map_none]

theorem ref22_mean_eq (i1 i2 : Int) (i3 i4 i5 : List Int) (s6 s7 : Int) (s8 : List Int) (s9 s10 : Int) : ref22_mean i1 i2 i3 i4 i5 s6 s7 s8 s9 s10 =
   (loop (ref22_mean_loop3 i1 i3 i4 i5 s6 s7 s8 s9 s10) (0, 0, 0, 0, 0)).bind (fun p54 =>
    let n55 := p54.1;
    let r56 := p54.2.1;
    let g57 := p54.2.2.1;
    let b58 := p54.2.2.2;
    (ref19_Mean r56 n55).bind fun q59 =>
    (ref19_Mean g57 n55).bind fun q60 =>
    (ref19_Mean b58 n55).bind fun q61 =>
    some (q59, q60, q61)) := (call_eq ..).trans (by kernel_rfl)

theorem ref22_far_eq (a1 a2 a3 b4 b5 b6 : Int) : ref22_far a1 a2 a3 b4 b5 b6 =
   let t7 := IntKind.i64.wrap (a1 - b4);
   let t8 := IntKind.i64.wrap (b4 - a1);
   let t9 := imax t7 t8;
   let t10 := IntKind.i64.wrap (a2 - b5);
   let t11 := IntKind.i64.wrap (b5 - a2);
   let t12 := imax t10 t11;
   let t13 := IntKind.i64.wrap (t9 + t12);
   let t14 := IntKind.i64.wrap (a3 - b6);
   let t15 := IntKind.i64.wrap (b6 - a3);
   let t16 := imax t14 t15;
   let t17 := IntKind.i64.wrap (t13 + t16);
   some t17 := (call_eq ..).trans (by kernel_rfl)

noncomputable def colour_New_loop5 (r3 g4 b5 t17 : Int) (s18 : Int × (List Int) × (List Int) × (List Int) × Int × Int) : Option ((Int × (List Int) × (List Int) × (List Int) × Int × Int) ⊕ ((List Int) × (List Int) × (List Int) × Int × Int)) :=
   let v19 := s18.1;
   let b20 := s18.2.1;
   let b21 := s18.2.2.1;
   let b22 := s18.2.2.2.1;
   let b23 := s18.2.2.2.2.1;
   let b24 := s18.2.2.2.2.2;
   (if (decide (v19 < t17)) = true then
    (colour_set v19 r3 g4 b5 b23 b24 b20 b21 b22).bind fun q25 =>
    let tr26 := q25.1;
    let tr27 := q25.2.1;
    let tr28 := q25.2.2.1;
    let tr29 := q25.2.2.2.1;
    let tr30 := q25.2.2.2.2;
    let t31 := IntKind.i64.wrap (v19 + 1);
    some (Sum.inl (t31, tr28, tr29, tr30, tr26, tr27))
    else
    some (Sum.inr (b20, b21, b22, b23, b24)))
noncomputable def colour_New_loop5_step (r3 g4 b5 : Int) (i32 x33 : Nat) (s34 : (List Int) × (List Int) × (List Int) × Int × Int) : Option (((List Int) × (List Int) × (List Int) × Int × Int) ⊕ ((List Int) × (List Int) × (List Int) × Int × Int)) :=
   let b35 := s34.1;
   let b36 := s34.2.1;
   let b37 := s34.2.2.1;
   let b38 := s34.2.2.2.1;
   let b39 := s34.2.2.2.2;
   (colour_set ((i32 : Nat) : Int) r3 g4 b5 b38 b39 b35 b36 b37).bind fun q25 =>
   let tr26 := q25.1;
   let tr27 := q25.2.1;
   let tr28 := q25.2.2.1;
   let tr29 := q25.2.2.2.1;
   let tr30 := q25.2.2.2.2;
   some (Sum.inl ((tr28, tr29, tr30, tr26, tr27)))
theorem colour_New_loop5_over (r3 g4 b5 t17 : Int) (hl : (List.range (t17).toNat).length ≤ 9223372036854775807) (s34 : (List Int) × (List Int) × (List Int) × Int × Int) : loop (colour_New_loop5 r3 g4 b5 t17) ((0, s34.1, s34.2.1, s34.2.2.1, s34.2.2.2.1, s34.2.2.2.2) : Int × (List Int) × (List Int) × (List Int) × Int × Int) =
    overL (colour_New_loop5_step r3 g4 b5) (fun (s34 : (List Int) × (List Int) × (List Int) × Int × Int) => let b35 := s34.1; let b36 := s34.2.1; let b37 := s34.2.2.1; let b38 := s34.2.2.2.1; let b39 := s34.2.2.2.2; some (b35, b36, b37, b38, b39)) 0 (List.range (t17).toNat) s34 := by
  refine loop_over (List.range (t17).toNat) (fun n (s : (List Int) × (List Int) × (List Int) × Int × Int) => ((((n : Nat) : Int), s.1, s.2.1, s.2.2.1, s.2.2.2.1, s.2.2.2.2) : Int × (List Int) × (List Int) × (List Int) × Int × Int)) _ _ (fun s => ?_) (fun i x s h => ?_) 0 s34 (Nat.zero_le _)
  · have h1 : ¬ (((List.range (t17).toNat).length : Nat) : Int) < t17 := by simp only [List.length_range]; omega
    unfold colour_New_loop5; simp only [h1, decide_false, Bool.false_eq_true, if_false, Option.map_some]
  · have hlt := lt_len_of_get h
    rw [List.length_range] at hlt hl
    rw [List.getElem?_range hlt] at h
    cases h
    have h1 : ((i : Nat) : Int) < t17 := by omega
    have h0 : (0 : Int) ≤ ((i : Nat) : Int) := by omega
    have hw : IntKind.i64.wrap (((i : Nat) : Int) + 1) = (((i + 1 : Nat) : Nat) : Int) := w64 (by omega)
    unfold colour_New_loop5 colour_New_loop5_step
    simp only [h1, h0, hw, decide_true, if_true, and_self, true_and, Int.toNat_natCast, Option.bind_some, Option.map_bind, Function.comp_def, map_ite, map_elim, Option.map_some, Option.map_none]

theorem colour_New_eq (w1 h2 r3 g4 b5 : Int) : colour_New w1 h2 r3 g4 b5 =
   ((colour_rightSides w1 h2).bind fun q6 =>
    (if (!q6) = true then
     some true
     else
     (colour_isValue r3).bind fun q7 =>
     (if (!q7) = true then
      some true
      else
      (colour_isValue g4).bind fun q8 =>
      (if (!q8) = true then
       some true
       else
       (colour_isValue b5).bind fun q9 =>
       some (!q9)))) : Option (Bool)).bind (fun v10 =>
    (if v10 = true then
     some (0, 0, 2, [], [], [])
     else
     (colour_blank w1 h2).bind fun q11 =>
     let tr12 := q11.1;
     let tr13 := q11.2.1;
     let tr14 := q11.2.2.1;
     let tr15 := q11.2.2.2.1;
     let tr16 := q11.2.2.2.2;
     let t17 := IntKind.i64.wrap (w1 * h2);
     (loop (colour_New_loop5 r3 g4 b5 t17) (0, tr14, tr15, tr16, tr12, tr13)).bind (fun p40 =>
      let b41 := p40.1;
      let b42 := p40.2.1;
      let b43 := p40.2.2.1;
      let b44 := p40.2.2.2.1;
      let b45 := p40.2.2.2.2;
      some (b44, b45, 0, b41, b42, b43)))) := (call_eq ..).trans (by kernel_rfl)

theorem layer_back_eq (l1 l2 l3 l4 : Int) (l5 : List Int) (l6 : List Rgb) (l7 : List Int) (l8 : Int) (l9 : List (List Int)) : layer_back l1 l2 l3 l4 l5 l6 l7 l8 l9 =
   none := (call_eq ..).trans (by kernel_rfl)

noncomputable def colour_Paint_loop7 (i1 i2 b6 : Int) (b8 : List Int) (x9 y10 r11 g12 bl13 : Int) (s28 : Int × (List Int) × (List Int) × (List Int) × Int × Int) : Option ((Int × (List Int) × (List Int) × (List Int) × Int × Int) ⊕ ((List Int) × (List Int) × (List Int) × Int × Int)) :=
   let v29 := s28.1;
   let b30 := s28.2.1;
   let b31 := s28.2.2.1;
   let b32 := s28.2.2.2.1;
   let b33 := s28.2.2.2.2.1;
   let b34 := s28.2.2.2.2.2;
   (if (decide (v29 < ((b8.length : Nat) : Int))) = true then
    (if 0 ≤ v29 ∧ v29 < (b8.length : Int) then
     (if b6 = 0 then
      none
      else
      let t35 : Int := v29.tmod b6;
      let t36 := IntKind.i64.wrap (x9 + t35);
      (if b6 = 0 then
       none
       else
       let t37 := IntKind.i64.wrap (v29.tdiv b6);
       let t38 := IntKind.i64.wrap (y10 + t37);
       ((if (decide (rd b8 v29 = 1)) = true then
         (if (decide (t36 ≥ 0)) = true then
          (if (decide (t38 ≥ 0)) = true then
           (if (decide (t36 < i1)) = true then
            some (decide (t38 < i2))
            else
            some false)
           else
           some false)
          else
          some false)
         else
         some false) : Option (Bool)).bind (fun v39 =>
        (if v39 = true then
         let t40 := IntKind.i64.wrap (t38 * i1);
         let t41 := IntKind.i64.wrap (t40 + t36);
         (colour_set t41 r11 g12 bl13 b33 b34 b30 b31 b32).bind fun q42 =>
         let tr43 := q42.1;
         let tr44 := q42.2.1;
         let tr45 := q42.2.2.1;
         let tr46 := q42.2.2.2.1;
         let tr47 := q42.2.2.2.2;
         let t48 := IntKind.i64.wrap (v29 + 1);
         some (Sum.inl (t48, tr45, tr46, tr47, tr43, tr44))
         else
         let t49 := IntKind.i64.wrap (v29 + 1);
         some (Sum.inl (t49, b30, b31, b32, b33, b34))))))
     else
     none)
    else
    some (Sum.inr (b30, b31, b32, b33, b34)))
noncomputable def colour_Paint_loop7_step (i1 i2 b6 x9 y10 r11 g12 bl13 : Int) (i50 : Nat) (x51 : Int) (s52 : (List Int) × (List Int) × (List Int) × Int × Int) : Option (((List Int) × (List Int) × (List Int) × Int × Int) ⊕ ((List Int) × (List Int) × (List Int) × Int × Int)) :=
   let b53 := s52.1;
   let b54 := s52.2.1;
   let b55 := s52.2.2.1;
   let b56 := s52.2.2.2.1;
   let b57 := s52.2.2.2.2;
   (if b6 = 0 then
    none
    else
    let t35 : Int := ((i50 : Nat) : Int).tmod b6;
    let t36 := IntKind.i64.wrap (x9 + t35);
    (if b6 = 0 then
     none
     else
     let t37 := IntKind.i64.wrap (((i50 : Nat) : Int).tdiv b6);
     let t38 := IntKind.i64.wrap (y10 + t37);
     ((if (decide (x51 = 1)) = true then
       (if (decide (t36 ≥ 0)) = true then
        (if (decide (t38 ≥ 0)) = true then
         (if (decide (t36 < i1)) = true then
          some (decide (t38 < i2))
          else
          some false)
         else
         some false)
        else
        some false)
       else
       some false) : Option (Bool)).bind (fun v39 =>
      (if v39 = true then
       let t40 := IntKind.i64.wrap (t38 * i1);
       let t41 := IntKind.i64.wrap (t40 + t36);
       (colour_set t41 r11 g12 bl13 b56 b57 b53 b54 b55).bind fun q42 =>
       let tr43 := q42.1;
       let tr44 := q42.2.1;
       let tr45 := q42.2.2.1;
       let tr46 := q42.2.2.2.1;
       let tr47 := q42.2.2.2.2;
       some (Sum.inl ((tr45, tr46, tr47, tr43, tr44)))
       else
       some (Sum.inl ((b53, b54, b55, b56, b57)))))))
theorem colour_Paint_loop7_over (i1 i2 b6 : Int) (b8 : List Int) (x9 y10 r11 g12 bl13 : Int) (hl : b8.length ≤ 9223372036854775807) (s52 : (List Int) × (List Int) × (List Int) × Int × Int) : loop (colour_Paint_loop7 i1 i2 b6 b8 x9 y10 r11 g12 bl13) ((0, s52.1, s52.2.1, s52.2.2.1, s52.2.2.2.1, s52.2.2.2.2) : Int × (List Int) × (List Int) × (List Int) × Int × Int) =
    overL (colour_Paint_loop7_step i1 i2 b6 x9 y10 r11 g12 bl13) (fun (s52 : (List Int) × (List Int) × (List Int) × Int × Int) => let b53 := s52.1; let b54 := s52.2.1; let b55 := s52.2.2.1; let b56 := s52.2.2.2.1; let b57 := s52.2.2.2.2; some (b53, b54, b55, b56, b57)) 0 b8 s52 := by
  refine loop_over b8 (fun n (s : (List Int) × (List Int) × (List Int) × Int × Int) => ((((n : Nat) : Int), s.1, s.2.1, s.2.2.1, s.2.2.2.1, s.2.2.2.2) : Int × (List Int) × (List Int) × (List Int) × Int × Int)) _ _ (fun s => ?_) (fun i x s h => ?_) 0 s52 (Nat.zero_le _)
  · unfold colour_Paint_loop7; simp
  · have hlt := lt_len_of_get h
    have h1 : ((i : Nat) : Int) < ((b8.length : Nat) : Int) := by omega
    have h0 : (0 : Int) ≤ ((i : Nat) : Int) := by omega
    have hw : IntKind.i64.wrap (((i : Nat) : Int) + 1) = (((i + 1 : Nat) : Nat) : Int) := w64 (by omega)
    have hr : rd b8 ((i : Nat) : Int) = x := rd_nat h
    unfold colour_Paint_loop7 colour_Paint_loop7_step
    simp only [h1, h0, hw, h, hr, decide_true, if_true, and_self, true_and, Int.toNat_natCast, Option.bind_some, Option.map_bind, Function.comp_def, map_ite, map_elim, Option.map_some, Option.map_none]

theorem colour_Paint_eq (i1 i2 : Int) (i3 i4 i5 : List Int) (b6 b7 : Int) (b8 : List Int) (x9 y10 r11 g12 bl13 : Int) : colour_Paint i1 i2 i3 i4 i5 b6 b7 b8 x9 y10 r11 g12 bl13 =
   (colour_Valid i1 i2 i3 i4 i5).bind fun q14 =>
   (if (!q14) = true then
    some (0, 0, [], [], [], 75)
    else
    ((bitmap_Valid b6 b7 b8).bind fun q15 =>
     (if (!q15) = true then
      some true
      else
      (colour_near x9).bind fun q16 =>
      (if (!q16) = true then
       some true
       else
       (colour_near y10).bind fun q17 =>
       (if (!q17) = true then
        some true
        else
        (colour_isValue r11).bind fun q18 =>
        (if (!q18) = true then
         some true
         else
         (colour_isValue g12).bind fun q19 =>
         (if (!q19) = true then
          some true
          else
          (colour_isValue bl13).bind fun q20 =>
          some (!q20)))))) : Option (Bool)).bind (fun v21 =>
     (if v21 = true then
      some (0, 0, [], [], [], 2)
      else
      (colour_own i1 i2 i3 i4 i5).bind fun q22 =>
      let tr23 := q22.1;
      let tr24 := q22.2.1;
      let tr25 := q22.2.2.1;
      let tr26 := q22.2.2.2.1;
      let tr27 := q22.2.2.2.2;
      (loop (colour_Paint_loop7 i1 i2 b6 b8 x9 y10 r11 g12 bl13) (0, tr25, tr26, tr27, tr23, tr24)).bind (fun p58 =>
       let b59 := p58.1;
       let b60 := p58.2.1;
       let b61 := p58.2.2.1;
       let b62 := p58.2.2.2.1;
       let b63 := p58.2.2.2.2;
       some (b62, b63, b59, b60, b61, 0))))) := (call_eq ..).trans (by kernel_rfl)

theorem layer_isImage_eq (w1 h2 : Int) : layer_isImage w1 h2 =
   (colour_New w1 h2 0 0 0).bind fun q3 =>
   let tr4 := q3.1;
   let tr5 := q3.2.1;
   let tr6 := q3.2.2.1;
   let tr7 := q3.2.2.2.1;
   let tr8 := q3.2.2.2.2.1;
   let tr9 := q3.2.2.2.2.2;
   some (decide (tr6 = 0)) := (call_eq ..).trans (by kernel_rfl)

noncomputable def bitmap_Valid_loop4 (b3 : List Int) (v7 : Int) : Option ((Int) ⊕ ((Unit) ⊕ (Bool))) :=
   (if (decide (v7 < ((b3.length : Nat) : Int))) = true then
    (if 0 ≤ v7 ∧ v7 < (b3.length : Int) then
     (if (decide (rd b3 v7 > 1)) = true then
      some (Sum.inr (Sum.inr false))
      else
      let t8 := IntKind.i64.wrap (v7 + 1);
      some (Sum.inl t8))
     else
     none)
    else
    some (Sum.inr (Sum.inl ())))
noncomputable def bitmap_Valid_loop4_step (i9 : Nat) (x10 : Int) (s11 : Unit) : Option ((Unit) ⊕ ((Unit) ⊕ (Bool))) :=
   (if (decide (x10 > 1)) = true then
    some (Sum.inr (Sum.inr false))
    else
    some (Sum.inl (())))
theorem bitmap_Valid_loop4_over (b3 : List Int) (hl : b3.length ≤ 9223372036854775807) (s11 : Unit) : loop (bitmap_Valid_loop4 b3) (0 : Int) =
    overL (bitmap_Valid_loop4_step) (fun (s11 : Unit) => some (Sum.inl ())) 0 b3 s11 := by
  refine loop_over b3 (fun n (s : Unit) => (((n : Nat) : Int) : Int)) _ _ (fun s => ?_) (fun i x s h => ?_) 0 s11 (Nat.zero_le _)
  · unfold bitmap_Valid_loop4; simp
  · have hlt := lt_len_of_get h
    have h1 : ((i : Nat) : Int) < ((b3.length : Nat) : Int) := by omega
    have h0 : (0 : Int) ≤ ((i : Nat) : Int) := by omega
    have hw : IntKind.i64.wrap (((i : Nat) : Int) + 1) = (((i + 1 : Nat) : Nat) : Int) := w64 (by omega)
    have hr : rd b3 ((i : Nat) : Int) = x := rd_nat h
    unfold bitmap_Valid_loop4 bitmap_Valid_loop4_step
    simp only [h1, h0, hw, h, hr, decide_true, if_true, and_self, true_and, Int.toNat_natCast, Option.bind_some, Option.map_bind, Function.comp_def, map_ite, map_elim, Option.map_some, Option.map_none]

theorem bitmap_Valid_eq (b1 b2 : Int) (b3 : List Int) : bitmap_Valid b1 b2 b3 =
   ((bitmap_fits b1 b2).bind fun q4 =>
    (if (!q4) = true then
     some true
     else
     let t5 := IntKind.i64.wrap (b1 * b2);
     some (!decide (((b3.length : Nat) : Int) = t5))) : Option (Bool)).bind (fun v6 =>
    (if v6 = true then
     some false
     else
     (loop (bitmap_Valid_loop4 b3) 0).bind (fun o14 =>
      (Sum.elim (fun (p12 : Unit) =>
        some true)
       (fun (v13 : Bool) =>
        some v13) o14)))) := (call_eq ..).trans (by kernel_rfl)

theorem layer_hasMask_eq (l1 l2 l3 l4 : Int) (l5 : List Int) (l6 : List Rgb) (l7 : List Int) (l8 : Int) (l9 : List (List Int)) : layer_hasMask l1 l2 l3 l4 l5 l6 l7 l8 l9 =
   (if (decide (l3 > 0)) = true then
    some true
    else
    some (decide (l4 > 0))) := (call_eq ..).trans (by kernel_rfl)

theorem layer_rightColours_eq (l1 l2 l3 l4 : Int) (l5 : List Int) (l6 : List Rgb) (l7 : List Int) (l8 : Int) (l9 : List (List Int)) (components10 : Int) : layer_rightColours l1 l2 l3 l4 l5 l6 l7 l8 l9 components10 =
   ((if (decide (((l6.length : Nat) : Int) > 16)) = true then
     some true
     else
     (slices_ContainsFunc_api_Rgb_api_Rgb l6).bind fun q11 =>
     some q11) : Option (Bool)).bind (fun v12 =>
    (if v12 = true then
     some false
     else
     (if (decide (((l6.length : Nat) : Int) = 0)) = true then
      some (decide (((l7.length : Nat) : Int) = 0))
      else
      (if (decide (((l7.length : Nat) : Int) = components10)) = true then
       (slices_ContainsFunc_int_int l7 l1 l2 l3 l4 l5 l6 l7 l8 l9).bind fun q13 =>
       let tr14 := q13.1;
       let tr15 := q13.2.1;
       let tr16 := q13.2.2.1;
       let tr17 := q13.2.2.2.1;
       let tr18 := q13.2.2.2.2.1;
       let tr19 := q13.2.2.2.2.2.1;
       let tr20 := q13.2.2.2.2.2.2.1;
       let tr21 := q13.2.2.2.2.2.2.2.1;
       let tr22 := q13.2.2.2.2.2.2.2.2.1;
       let tr23 := q13.2.2.2.2.2.2.2.2.2;
       some (!tr14)
       else
       some false)))) := (call_eq ..).trans (by kernel_rfl)

theorem colour_rightSides_eq (w1 h2 : Int) : colour_rightSides w1 h2 =
   (if (decide (w1 ≥ 0)) = true then
    (if (decide (h2 ≥ 0)) = true then
     (if (decide (w1 ≤ 200)) = true then
      (if (decide (h2 ≤ 200)) = true then
       let t3 := IntKind.i64.wrap (w1 * h2);
       some (decide (t3 ≤ 8192))
       else
       some false)
      else
      some false)
     else
     some false)
    else
    some false) := (call_eq ..).trans (by kernel_rfl)

theorem colour_rightValues_eq (l1 : List Int) (n2 : Int) : colour_rightValues l1 n2 =
   (if (decide (((l1.length : Nat) : Int) = n2)) = true then
    (slices_ContainsFunc_int_int_2 l1).bind fun q3 =>
    some (!q3)
    else
    some false) := (call_eq ..).trans (by kernel_rfl)

noncomputable def shape_components_loop4 (b1 b2 : Int) (b3 : List Int) (s5 : Int × (List Bool) × (List Placed)) : Option ((Int × (List Bool) × (List Placed)) ⊕ ((List Bool) × (List Placed))) :=
   let v6 := s5.1;
   let b7 := s5.2.1;
   let out8 := s5.2.2;
   (if (decide (v6 < ((b3.length : Nat) : Int))) = true then
    (if 0 ≤ v6 ∧ v6 < (b3.length : Int) then
     ((if (decide (rd b3 v6 = 1)) = true then
       (if 0 ≤ v6 ∧ v6 < (b7.length : Int) then
        (b7[v6.toNat]?).bind fun e9 =>
        some (!e9)
        else
        none)
       else
       some false) : Option (Bool)).bind (fun v10 =>
      (if v10 = true then
       (if b1 = 0 then
        none
        else
        let t11 : Int := v6.tmod b1;
        (if b1 = 0 then
         none
         else
         let t12 := IntKind.i64.wrap (v6.tdiv b1);
         (shape_eight).bind fun q13 =>
         (shape_flood b1 b2 b3 t11 t12 q13 b7).bind fun q14 =>
         let tr15 := q14.1;
         let tr16 := q14.2;
         (shape_placed tr15).bind fun q17 =>
         let tr18 := q17.1;
         let tr19 := q17.2.1;
         let tr20 := q17.2.2.1;
         let tr21 := q17.2.2.2.1;
         let tr22 := q17.2.2.2.2;
         (if (out8.length + ([(Placed.mk tr18 tr19 tr20 tr21 tr22)] : List Placed).length) * 56 ≤ 140737488355328 then
          let t23 : List Placed := out8 ++ [(Placed.mk tr18 tr19 tr20 tr21 tr22)];
          let t24 := IntKind.i64.wrap (v6 + 1);
          some (Sum.inl (t24, tr16, t23))
          else
          none)))
       else
       let t25 := IntKind.i64.wrap (v6 + 1);
       some (Sum.inl (t25, b7, out8))))
     else
     none)
    else
    some (Sum.inr (b7, out8)))
noncomputable def shape_components_loop4_step (b1 b2 : Int) (b3 : List Int) (i26 : Nat) (x27 : Int) (s28 : (List Bool) × (List Placed)) : Option (((List Bool) × (List Placed)) ⊕ ((List Bool) × (List Placed))) :=
   let b29 := s28.1;
   let out30 := s28.2;
   ((if (decide (x27 = 1)) = true then
     (if 0 ≤ ((i26 : Nat) : Int) ∧ ((i26 : Nat) : Int) < (b29.length : Int) then
      (b29[((i26 : Nat) : Int).toNat]?).bind fun e9 =>
      some (!e9)
      else
      none)
     else
     some false) : Option (Bool)).bind (fun v10 =>
    (if v10 = true then
     (if b1 = 0 then
      none
      else
      let t11 : Int := ((i26 : Nat) : Int).tmod b1;
      (if b1 = 0 then
       none
       else
       let t12 := IntKind.i64.wrap (((i26 : Nat) : Int).tdiv b1);
       (shape_eight).bind fun q13 =>
       (shape_flood b1 b2 b3 t11 t12 q13 b29).bind fun q14 =>
       let tr15 := q14.1;
       let tr16 := q14.2;
       (shape_placed tr15).bind fun q17 =>
       let tr18 := q17.1;
       let tr19 := q17.2.1;
       let tr20 := q17.2.2.1;
       let tr21 := q17.2.2.2.1;
       let tr22 := q17.2.2.2.2;
       (if (out30.length + ([(Placed.mk tr18 tr19 tr20 tr21 tr22)] : List Placed).length) * 56 ≤ 140737488355328 then
        let t23 : List Placed := out30 ++ [(Placed.mk tr18 tr19 tr20 tr21 tr22)];
        some (Sum.inl ((tr16, t23)))
        else
        none)))
     else
     some (Sum.inl ((b29, out30)))))
theorem shape_components_loop4_over (b1 b2 : Int) (b3 : List Int) (hl : b3.length ≤ 9223372036854775807) (s28 : (List Bool) × (List Placed)) : loop (shape_components_loop4 b1 b2 b3) ((0, s28.1, s28.2) : Int × (List Bool) × (List Placed)) =
    overL (shape_components_loop4_step b1 b2 b3) (fun (s28 : (List Bool) × (List Placed)) => let b29 := s28.1; let out30 := s28.2; some (b29, out30)) 0 b3 s28 := by
  refine loop_over b3 (fun n (s : (List Bool) × (List Placed)) => ((((n : Nat) : Int), s.1, s.2) : Int × (List Bool) × (List Placed))) _ _ (fun s => ?_) (fun i x s h => ?_) 0 s28 (Nat.zero_le _)
  · unfold shape_components_loop4; simp
  · have hlt := lt_len_of_get h
    have h1 : ((i : Nat) : Int) < ((b3.length : Nat) : Int) := by omega
    have h0 : (0 : Int) ≤ ((i : Nat) : Int) := by omega
    have hw : IntKind.i64.wrap (((i : Nat) : Int) + 1) = (((i + 1 : Nat) : Nat) : Int) := w64 (by omega)
    have hr : rd b3 ((i : Nat) : Int) = x := rd_nat h
    unfold shape_components_loop4 shape_components_loop4_step
    simp only [h1, h0, hw, h, hr, decide_true, if_true, and_self, true_and, Int.toNat_natCast, Option.bind_some, Option.map_bind, Function.comp_def, map_ite, map_elim, Option.map_some, Option.map_none]

theorem shape_components_eq (b1 b2 : Int) (b3 : List Int) : shape_components b1 b2 b3 =
   (if 0 ≤ ((b3.length : Nat) : Int) ∧ ((b3.length : Nat) : Int) ≤ ((b3.length : Nat) : Int) ∧ ((1 : Nat) : Int) * ((b3.length : Nat) : Int) ≤ 281474976710656 then
    let t4 : List Bool := List.replicate ((b3.length : Nat) : Int).toNat false;
    (loop (shape_components_loop4 b1 b2 b3) (0, t4, [])).bind (fun p31 =>
     let b32 := p31.1;
     let out33 := p31.2;
     some out33)
    else
    none) := (call_eq ..).trans (by kernel_rfl)

theorem layer_mean_eq (s1 n2 : Int) : layer_mean s1 n2 =
   let t3 := IntKind.i64.wrap (2 * s1);
   let t4 := IntKind.i64.wrap (t3 + n2);
   let t5 := IntKind.i64.wrap (2 * n2);
   (if t5 = 0 then
    none
    else
    let t6 := IntKind.i64.wrap (t4.tdiv t5);
    some t6) := (call_eq ..).trans (by kernel_rfl)

theorem layer_abs_eq (n1 : Int) : layer_abs n1 =
   let t2 := IntKind.i64.wrap (0 - n1);
   let t3 := imax n1 t2;
   some t3 := (call_eq ..).trans (by kernel_rfl)

noncomputable def ref19_Valid_loop7 (i3 i4 i5 : List Int) (t7 k9 : Int) : Option ((Int) ⊕ ((Unit) ⊕ (Bool))) :=
   (if (decide (k9 < t7)) = true then
    (if 0 ≤ k9 ∧ k9 < (i3.length : Int) then
     (ref19_isValue (rd i3 k9)).bind fun q10 =>
     (if (!q10) = true then
      some (Sum.inr (Sum.inr false))
      else
      (if 0 ≤ k9 ∧ k9 < (i4.length : Int) then
       (ref19_isValue (rd i4 k9)).bind fun q11 =>
       (if (!q11) = true then
        some (Sum.inr (Sum.inr false))
        else
        (if 0 ≤ k9 ∧ k9 < (i5.length : Int) then
         (ref19_isValue (rd i5 k9)).bind fun q12 =>
         (if (!q12) = true then
          some (Sum.inr (Sum.inr false))
          else
          let t13 := IntKind.i64.wrap (k9 + 1);
          some (Sum.inl t13))
         else
         none))
       else
       none))
     else
     none)
    else
    some (Sum.inr (Sum.inl ())))
noncomputable def ref19_Valid_loop7_step (i3 i4 i5 : List Int) (i14 x15 : Nat) (s16 : Unit) : Option ((Unit) ⊕ ((Unit) ⊕ (Bool))) :=
   (if 0 ≤ ((i14 : Nat) : Int) ∧ ((i14 : Nat) : Int) < (i3.length : Int) then
    (ref19_isValue (rd i3 ((i14 : Nat) : Int))).bind fun q10 =>
    (if (!q10) = true then
     some (Sum.inr (Sum.inr false))
     else
     (if 0 ≤ ((i14 : Nat) : Int) ∧ ((i14 : Nat) : Int) < (i4.length : Int) then
      (ref19_isValue (rd i4 ((i14 : Nat) : Int))).bind fun q11 =>
      (if (!q11) = true then
       some (Sum.inr (Sum.inr false))
       else
       (if 0 ≤ ((i14 : Nat) : Int) ∧ ((i14 : Nat) : Int) < (i5.length : Int) then
        (ref19_isValue (rd i5 ((i14 : Nat) : Int))).bind fun q12 =>
        (if (!q12) = true then
         some (Sum.inr (Sum.inr false))
         else
         some (Sum.inl (())))
        else
        none))
      else
      none))
    else
    none)
theorem ref19_Valid_loop7_over (i3 i4 i5 : List Int) (t7 : Int) (hl : (List.range (t7).toNat).length ≤ 9223372036854775807) (s16 : Unit) : loop (ref19_Valid_loop7 i3 i4 i5 t7) (0 : Int) =
    overL (ref19_Valid_loop7_step i3 i4 i5) (fun (s16 : Unit) => some (Sum.inl ())) 0 (List.range (t7).toNat) s16 := by
  refine loop_over (List.range (t7).toNat) (fun n (s : Unit) => (((n : Nat) : Int) : Int)) _ _ (fun s => ?_) (fun i x s h => ?_) 0 s16 (Nat.zero_le _)
  · have h1 : ¬ (((List.range (t7).toNat).length : Nat) : Int) < t7 := by simp only [List.length_range]; omega
    unfold ref19_Valid_loop7; simp only [h1, decide_false, Bool.false_eq_true, if_false, Option.map_some]
  · have hlt := lt_len_of_get h
    rw [List.length_range] at hlt hl
    rw [List.getElem?_range hlt] at h
    cases h
    have h1 : ((i : Nat) : Int) < t7 := by omega
    have h0 : (0 : Int) ≤ ((i : Nat) : Int) := by omega
    have hw : IntKind.i64.wrap (((i : Nat) : Int) + 1) = (((i + 1 : Nat) : Nat) : Int) := w64 (by omega)
    unfold ref19_Valid_loop7 ref19_Valid_loop7_step
    simp only [h1, h0, hw, decide_true, if_true, and_self, true_and, Int.toNat_natCast, Option.bind_some, Option.map_bind, Function.comp_def, map_ite, map_elim, Option.map_some, Option.map_none]

theorem ref19_Valid_eq (i1 i2 : Int) (i3 i4 i5 : List Int) : ref19_Valid i1 i2 i3 i4 i5 =
   (ref05_Sides i1 i2).bind fun q6 =>
   (if (!q6) = true then
    some false
    else
    let t7 := IntKind.i64.wrap (i1 * i2);
    ((if (!decide (((i3.length : Nat) : Int) = t7)) = true then
      some true
      else
      (if (!decide (((i4.length : Nat) : Int) = t7)) = true then
       some true
       else
       some (!decide (((i5.length : Nat) : Int) = t7)))) : Option (Bool)).bind (fun v8 =>
     (if v8 = true then
      some false
      else
      (loop (ref19_Valid_loop7 i3 i4 i5 t7) 0).bind (fun o19 =>
       (Sum.elim (fun (p17 : Unit) =>
         some true)
        (fun (v18 : Bool) =>
         some v18) o19))))) := (call_eq ..).trans (by kernel_rfl)

theorem ref06_IsBitmap_eq (b1 b2 : Int) (b3 : List Int) : ref06_IsBitmap b1 b2 b3 =
   (ref06_IsSize b1 b2).bind fun q4 =>
   (if q4 = true then
    let t5 := IntKind.i64.wrap (b1 * b2);
    (if (decide (((b3.length : Nat) : Int) = t5)) = true then
     (ref06_IsRow b3).bind fun q6 =>
     some q6
     else
     some false)
    else
    some false) := (call_eq ..).trans (by kernel_rfl)

theorem ref22_none_eq (b1 b2 : Int) (b3 : List Int) : ref22_none b1 b2 b3 =
   (if (decide (b1 = 0)) = true then
    some (decide (b2 = 0))
    else
    some false) := (call_eq ..).trans (by kernel_rfl)
end
end Go.Proofs.YtmdlomednkfcoaaGreat.P
