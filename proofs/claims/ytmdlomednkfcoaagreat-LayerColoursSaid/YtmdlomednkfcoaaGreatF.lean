/- Copies of functions with fuel, for what is known: what they come to, the functions come to. Printed by wip/tool/vsym.py. -/
import Derived.Test.YtmdlomednkfcoaaGreatQs
import Derived.Test.YtmdlomednkfcoaaGreatLib
namespace Go.Proofs.YtmdlomednkfcoaaGreat.P
open Go Go.Proofs.YtmdlomednkfcoaaGreat.V
set_option linter.unusedVariables false
set_option linter.unusedSimpArgs false
set_option maxRecDepth 100000
noncomputable section
noncomputable def colour_blank_F (fuel : Nat) (w1 : Int) (h2 : Int) : Option (Int × Int × (List Int) × (List Int) × (List Int)) :=
   let t3 : Int := IntKind.i64.wrap (w1 * h2);
   (if 0 ≤ t3 ∧ t3 ≤ t3 ∧ ((8 : Nat) : Int) * t3 ≤ 281474976710656 then
    let t4 : List Int := List.replicate t3.toNat 0;
    (if 0 ≤ t3 ∧ t3 ≤ t3 ∧ ((8 : Nat) : Int) * t3 ≤ 281474976710656 then
     let t5 : List Int := List.replicate t3.toNat 0;
     (if 0 ≤ t3 ∧ t3 ≤ t3 ∧ ((8 : Nat) : Int) * t3 ≤ 281474976710656 then
      let t6 : List Int := List.replicate t3.toNat 0;
      some (w1, h2, t4, t5, t6)
      else
      none)
     else
     none)
    else
    none)
theorem colour_blank_F_le (fuel : Nat) (w1 : Int) (h2 : Int) : Ole (colour_blank_F fuel w1 h2) (colour_blank w1 h2) := by
  rw [colour_blank_eq]; unfold colour_blank_F; try dsimp only
  repeat' first | with_reducible exact Ole.refl _ | refine Ole.ite ?_ ?_ | refine Ole.iter fun _ => ?_ | refine Ole.elim (fun _ => ?_) (fun _ => ?_) | refine Ole.bind ?_ fun _ => ?_
noncomputable def colour_isValue_F (fuel : Nat) (v1 : Int) : Option Bool :=
   (if (decide (v1 ≥ 0)) = true then
    some (decide (v1 ≤ 255))
    else
    some false)
theorem colour_isValue_F_le (fuel : Nat) (v1 : Int) : Ole (colour_isValue_F fuel v1) (colour_isValue v1) := by
  rw [colour_isValue_eq]; unfold colour_isValue_F; try dsimp only
  repeat' first | with_reducible exact Ole.refl _ | refine Ole.ite ?_ ?_ | refine Ole.iter fun _ => ?_ | refine Ole.elim (fun _ => ?_) (fun _ => ?_) | refine Ole.bind ?_ fun _ => ?_
noncomputable def colour_rightSides_F (fuel : Nat) (w1 : Int) (h2 : Int) : Option Bool :=
   (if (decide (w1 ≥ 0)) = true then
    (if (decide (h2 ≥ 0)) = true then
     (if (decide (w1 ≤ 200)) = true then
      (if (decide (h2 ≤ 200)) = true then
       let t3 : Int := IntKind.i64.wrap (w1 * h2);
       some (decide (t3 ≤ 8192))
       else
       some false)
      else
      some false)
     else
     some false)
    else
    some false)
theorem colour_rightSides_F_le (fuel : Nat) (w1 : Int) (h2 : Int) : Ole (colour_rightSides_F fuel w1 h2) (colour_rightSides w1 h2) := by
  rw [colour_rightSides_eq]; unfold colour_rightSides_F; try dsimp only
  repeat' first | with_reducible exact Ole.refl _ | refine Ole.ite ?_ ?_ | refine Ole.iter fun _ => ?_ | refine Ole.elim (fun _ => ?_) (fun _ => ?_) | refine Ole.bind ?_ fun _ => ?_
noncomputable def colour_set_F (fuel : Nat) (at1 : Int) (r2 : Int) (g3 : Int) (b4 : Int) (b5 : Int) (b6 : Int) (b7 : List Int) (b8 : List Int) (b9 : List Int) : Option (Int × Int × (List Int) × (List Int) × (List Int)) :=
   (if 0 ≤ at1 ∧ at1 < (b7.length : Int) then
    let w10 : List Int := b7.set at1.toNat r2;
    (if 0 ≤ at1 ∧ at1 < (b8.length : Int) then
     let w11 : List Int := b8.set at1.toNat g3;
     (if 0 ≤ at1 ∧ at1 < (b9.length : Int) then
      let w12 : List Int := b9.set at1.toNat b4;
      some (b5, b6, w10, w11, w12)
      else
      none)
     else
     none)
    else
    none)
theorem colour_set_F_le (fuel : Nat) (at1 : Int) (r2 : Int) (g3 : Int) (b4 : Int) (b5 : Int) (b6 : Int) (b7 : List Int) (b8 : List Int) (b9 : List Int) : Ole (colour_set_F fuel at1 r2 g3 b4 b5 b6 b7 b8 b9) (colour_set at1 r2 g3 b4 b5 b6 b7 b8 b9) := by
  rw [colour_set_eq]; unfold colour_set_F; try dsimp only
  repeat' first | with_reducible exact Ole.refl _ | refine Ole.ite ?_ ?_ | refine Ole.iter fun _ => ?_ | refine Ole.elim (fun _ => ?_) (fun _ => ?_) | refine Ole.bind ?_ fun _ => ?_
noncomputable def colour_New_loop5_F (fuel : Nat) (r3 : Int) (g4 : Int) (b5 : Int) (t17 : Int) (s18 : Int × (List Int) × (List Int) × (List Int) × Int × Int) : Option ((Int × (List Int) × (List Int) × (List Int) × Int × Int) ⊕ ((List Int) × (List Int) × (List Int) × Int × Int)) :=
   let v19 : Int := s18.1;
   let b20 : List Int := s18.2.1;
   let b21 : List Int := s18.2.2.1;
   let b22 : List Int := s18.2.2.2.1;
   let b23 : Int := s18.2.2.2.2.1;
   let b24 : Int := s18.2.2.2.2.2;
   (if (decide (v19 < t17)) = true then
    (colour_set_F fuel v19 r3 g4 b5 b23 b24 b20 b21 b22).bind fun (q25 : Int × Int × (List Int) × (List Int) × (List Int)) =>
    let tr26 : Int := q25.1;
    let tr27 : Int := q25.2.1;
    let tr28 : List Int := q25.2.2.1;
    let tr29 : List Int := q25.2.2.2.1;
    let tr30 : List Int := q25.2.2.2.2;
    let t31 : Int := IntKind.i64.wrap (v19 + 1);
    some (Sum.inl (t31, tr28, tr29, tr30, tr26, tr27))
    else
    some (Sum.inr (b20, b21, b22, b23, b24)))
theorem colour_New_loop5_F_le (fuel : Nat) (r3 : Int) (g4 : Int) (b5 : Int) (t17 : Int) (s18 : Int × (List Int) × (List Int) × (List Int) × Int × Int) : Ole (colour_New_loop5_F fuel r3 g4 b5 t17 s18) (colour_New_loop5 r3 g4 b5 t17 s18) := by
  unfold colour_New_loop5_F colour_New_loop5; try dsimp only
  repeat' first | with_reducible exact Ole.refl _ | refine Ole.ite ?_ ?_ | with_reducible exact colour_blank_F_le .. | with_reducible exact colour_isValue_F_le .. | with_reducible exact colour_rightSides_F_le .. | with_reducible exact colour_set_F_le .. | refine Ole.iter fun _ => ?_ | refine Ole.elim (fun _ => ?_) (fun _ => ?_) | refine Ole.bind ?_ fun _ => ?_
noncomputable def colour_New_F (fuel : Nat) (w1 : Int) (h2 : Int) (r3 : Int) (g4 : Int) (b5 : Int) : Option (Int × Int × Int × (List Int) × (List Int) × (List Int)) :=
   ((colour_rightSides_F fuel w1 h2).bind fun (q6 : Bool) =>
    (if (!q6) = true then
     some true
     else
     (colour_isValue_F fuel r3).bind fun (q7 : Bool) =>
     (if (!q7) = true then
      some true
      else
      (colour_isValue_F fuel g4).bind fun (q8 : Bool) =>
      (if (!q8) = true then
       some true
       else
       (colour_isValue_F fuel b5).bind fun (q9 : Bool) =>
       some (!q9)))) : Option (Bool)).bind (fun (v10 : Bool) =>
    (if v10 = true then
     some (0, 0, 2, [], [], [])
     else
     (colour_blank_F fuel w1 h2).bind fun (q11 : Int × Int × (List Int) × (List Int) × (List Int)) =>
     let tr12 : Int := q11.1;
     let tr13 : Int := q11.2.1;
     let tr14 : List Int := q11.2.2.1;
     let tr15 : List Int := q11.2.2.2.1;
     let tr16 : List Int := q11.2.2.2.2;
     let t17 : Int := IntKind.i64.wrap (w1 * h2);
     (iter (colour_New_loop5_F fuel r3 g4 b5 t17) fuel (0, tr14, tr15, tr16, tr12, tr13)).bind (fun (p40 : (List Int) × (List Int) × (List Int) × Int × Int) =>
      let b41 : List Int := p40.1;
      let b42 : List Int := p40.2.1;
      let b43 : List Int := p40.2.2.1;
      let b44 : Int := p40.2.2.2.1;
      let b45 : Int := p40.2.2.2.2;
      some (b44, b45, 0, b41, b42, b43))))
theorem colour_New_F_le (fuel : Nat) (w1 : Int) (h2 : Int) (r3 : Int) (g4 : Int) (b5 : Int) : Ole (colour_New_F fuel w1 h2 r3 g4 b5) (colour_New w1 h2 r3 g4 b5) := by
  rw [colour_New_eq]; unfold colour_New_F; try dsimp only
  repeat' first | with_reducible exact Ole.refl _ | refine Ole.ite ?_ ?_ | with_reducible exact colour_blank_F_le .. | with_reducible exact colour_isValue_F_le .. | with_reducible exact colour_rightSides_F_le .. | with_reducible exact colour_set_F_le .. | with_reducible exact colour_New_loop5_F_le .. | refine Ole.iter fun _ => ?_ | refine Ole.elim (fun _ => ?_) (fun _ => ?_) | refine Ole.bind ?_ fun _ => ?_
noncomputable def bitmap_fits_F (fuel : Nat) (w1 : Int) (h2 : Int) : Option Bool :=
   (if (decide (w1 ≥ 0)) = true then
    (if (decide (h2 ≥ 0)) = true then
     (if (decide (w1 ≤ 200)) = true then
      (if (decide (h2 ≤ 200)) = true then
       let t3 : Int := IntKind.i64.wrap (w1 * h2);
       some (decide (t3 ≤ 8192))
       else
       some false)
      else
      some false)
     else
     some false)
    else
    some false)
theorem bitmap_fits_F_le (fuel : Nat) (w1 : Int) (h2 : Int) : Ole (bitmap_fits_F fuel w1 h2) (bitmap_fits w1 h2) := by
  rw [bitmap_fits_eq]; unfold bitmap_fits_F; try dsimp only
  repeat' first | with_reducible exact Ole.refl _ | refine Ole.ite ?_ ?_ | refine Ole.iter fun _ => ?_ | refine Ole.elim (fun _ => ?_) (fun _ => ?_) | refine Ole.bind ?_ fun _ => ?_
noncomputable def bitmap_Valid_loop4_F (fuel : Nat) (b3 : List Int) (v7 : Int) : Option ((Int) ⊕ ((Unit) ⊕ (Bool))) :=
   (if (decide (v7 < ((b3.length : Nat) : Int))) = true then
    (if 0 ≤ v7 ∧ v7 < (b3.length : Int) then
     (if (decide (rd b3 v7 > 1)) = true then
      some (Sum.inr (Sum.inr false))
      else
      let t8 : Int := IntKind.i64.wrap (v7 + 1);
      some (Sum.inl t8))
     else
     none)
    else
    some (Sum.inr (Sum.inl ())))
theorem bitmap_Valid_loop4_F_le (fuel : Nat) (b3 : List Int) (v7 : Int) : Ole (bitmap_Valid_loop4_F fuel b3 v7) (bitmap_Valid_loop4 b3 v7) := by
  unfold bitmap_Valid_loop4_F bitmap_Valid_loop4; try dsimp only
  repeat' first | with_reducible exact Ole.refl _ | refine Ole.ite ?_ ?_ | with_reducible exact bitmap_fits_F_le .. | refine Ole.iter fun _ => ?_ | refine Ole.elim (fun _ => ?_) (fun _ => ?_) | refine Ole.bind ?_ fun _ => ?_
noncomputable def bitmap_Valid_F (fuel : Nat) (b1 : Int) (b2 : Int) (b3 : List Int) : Option Bool :=
   ((bitmap_fits_F fuel b1 b2).bind fun (q4 : Bool) =>
    (if (!q4) = true then
     some true
     else
     let t5 : Int := IntKind.i64.wrap (b1 * b2);
     some (!decide (((b3.length : Nat) : Int) = t5))) : Option (Bool)).bind (fun (v6 : Bool) =>
    (if v6 = true then
     some false
     else
     (iter (bitmap_Valid_loop4_F fuel b3) fuel 0).bind (fun (o14 : (Unit) ⊕ (Bool)) =>
      (Sum.elim (fun (p12 : Unit) =>
        some true)
       (fun (v13 : Bool) =>
        some v13) o14))))
theorem bitmap_Valid_F_le (fuel : Nat) (b1 : Int) (b2 : Int) (b3 : List Int) : Ole (bitmap_Valid_F fuel b1 b2 b3) (bitmap_Valid b1 b2 b3) := by
  rw [bitmap_Valid_eq]; unfold bitmap_Valid_F; try dsimp only
  repeat' first | with_reducible exact Ole.refl _ | refine Ole.ite ?_ ?_ | with_reducible exact bitmap_fits_F_le .. | with_reducible exact bitmap_Valid_loop4_F_le .. | refine Ole.iter fun _ => ?_ | refine Ole.elim (fun _ => ?_) (fun _ => ?_) | refine Ole.bind ?_ fun _ => ?_
noncomputable def colour_rightValues_1_F (fuel : Nat) (v1 : Int) : Option Bool :=
   (colour_isValue_F fuel v1).bind fun (q2 : Bool) =>
   some (!q2)
theorem colour_rightValues_1_F_le (fuel : Nat) (v1 : Int) : Ole (colour_rightValues_1_F fuel v1) (colour_rightValues_1 v1) := by
  rw [colour_rightValues_1_eq]; unfold colour_rightValues_1_F; try dsimp only
  repeat' first | with_reducible exact Ole.refl _ | refine Ole.ite ?_ ?_ | with_reducible exact colour_isValue_F_le .. | refine Ole.iter fun _ => ?_ | refine Ole.elim (fun _ => ?_) (fun _ => ?_) | refine Ole.bind ?_ fun _ => ?_
noncomputable def slices_IndexFunc_int_int_2_loop2_F (fuel : Nat) (s1 : List Int) (v2 : Int) : Option ((Int) ⊕ ((Unit) ⊕ (Int))) :=
   (if (decide (v2 < ((s1.length : Nat) : Int))) = true then
    (if 0 ≤ v2 ∧ v2 < (s1.length : Int) then
     (colour_rightValues_1_F fuel (rd s1 v2)).bind fun (q3 : Bool) =>
     (if q3 = true then
      some (Sum.inr (Sum.inr v2))
      else
      let t4 : Int := IntKind.i64.wrap (v2 + 1);
      some (Sum.inl t4))
     else
     none)
    else
    some (Sum.inr (Sum.inl ())))
theorem slices_IndexFunc_int_int_2_loop2_F_le (fuel : Nat) (s1 : List Int) (v2 : Int) : Ole (slices_IndexFunc_int_int_2_loop2_F fuel s1 v2) (slices_IndexFunc_int_int_2_loop2 s1 v2) := by
  unfold slices_IndexFunc_int_int_2_loop2_F slices_IndexFunc_int_int_2_loop2; try dsimp only
  repeat' first | with_reducible exact Ole.refl _ | refine Ole.ite ?_ ?_ | with_reducible exact colour_rightValues_1_F_le .. | refine Ole.iter fun _ => ?_ | refine Ole.elim (fun _ => ?_) (fun _ => ?_) | refine Ole.bind ?_ fun _ => ?_
noncomputable def slices_IndexFunc_int_int_2_F (fuel : Nat) (s1 : List Int) : Option Int :=
   (iter (slices_IndexFunc_int_int_2_loop2_F fuel s1) fuel 0).bind (fun (o10 : (Unit) ⊕ (Int)) =>
    (Sum.elim (fun (p8 : Unit) =>
      some (-1))
     (fun (v9 : Int) =>
      some v9) o10))
theorem slices_IndexFunc_int_int_2_F_le (fuel : Nat) (s1 : List Int) : Ole (slices_IndexFunc_int_int_2_F fuel s1) (slices_IndexFunc_int_int_2 s1) := by
  rw [slices_IndexFunc_int_int_2_eq]; unfold slices_IndexFunc_int_int_2_F; try dsimp only
  repeat' first | with_reducible exact Ole.refl _ | refine Ole.ite ?_ ?_ | with_reducible exact colour_rightValues_1_F_le .. | with_reducible exact slices_IndexFunc_int_int_2_loop2_F_le .. | refine Ole.iter fun _ => ?_ | refine Ole.elim (fun _ => ?_) (fun _ => ?_) | refine Ole.bind ?_ fun _ => ?_
noncomputable def slices_ContainsFunc_int_int_2_F (fuel : Nat) (s1 : List Int) : Option Bool :=
   (slices_IndexFunc_int_int_2_F fuel s1).bind fun (q2 : Int) =>
   some (decide (q2 ≥ 0))
theorem slices_ContainsFunc_int_int_2_F_le (fuel : Nat) (s1 : List Int) : Ole (slices_ContainsFunc_int_int_2_F fuel s1) (slices_ContainsFunc_int_int_2 s1) := by
  rw [slices_ContainsFunc_int_int_2_eq]; unfold slices_ContainsFunc_int_int_2_F; try dsimp only
  repeat' first | with_reducible exact Ole.refl _ | refine Ole.ite ?_ ?_ | with_reducible exact slices_IndexFunc_int_int_2_F_le .. | refine Ole.iter fun _ => ?_ | refine Ole.elim (fun _ => ?_) (fun _ => ?_) | refine Ole.bind ?_ fun _ => ?_
noncomputable def colour_rightValues_F (fuel : Nat) (l1 : List Int) (n2 : Int) : Option Bool :=
   (if (decide (((l1.length : Nat) : Int) = n2)) = true then
    (slices_ContainsFunc_int_int_2_F fuel l1).bind fun (q3 : Bool) =>
    some (!q3)
    else
    some false)
theorem colour_rightValues_F_le (fuel : Nat) (l1 : List Int) (n2 : Int) : Ole (colour_rightValues_F fuel l1 n2) (colour_rightValues l1 n2) := by
  rw [colour_rightValues_eq]; unfold colour_rightValues_F; try dsimp only
  repeat' first | with_reducible exact Ole.refl _ | refine Ole.ite ?_ ?_ | with_reducible exact slices_ContainsFunc_int_int_2_F_le .. | refine Ole.iter fun _ => ?_ | refine Ole.elim (fun _ => ?_) (fun _ => ?_) | refine Ole.bind ?_ fun _ => ?_
noncomputable def colour_Valid_F (fuel : Nat) (i1 : Int) (i2 : Int) (i3 : List Int) (i4 : List Int) (i5 : List Int) : Option Bool :=
   let t6 : Int := IntKind.i64.wrap (i1 * i2);
   (colour_rightSides_F fuel i1 i2).bind fun (q7 : Bool) =>
   (if q7 = true then
    (colour_rightValues_F fuel i3 t6).bind fun (q8 : Bool) =>
    (if q8 = true then
     (colour_rightValues_F fuel i4 t6).bind fun (q9 : Bool) =>
     (if q9 = true then
      (colour_rightValues_F fuel i5 t6).bind fun (q10 : Bool) =>
      some q10
      else
      some false)
     else
     some false)
    else
    some false)
theorem colour_Valid_F_le (fuel : Nat) (i1 : Int) (i2 : Int) (i3 : List Int) (i4 : List Int) (i5 : List Int) : Ole (colour_Valid_F fuel i1 i2 i3 i4 i5) (colour_Valid i1 i2 i3 i4 i5) := by
  rw [colour_Valid_eq]; unfold colour_Valid_F; try dsimp only
  repeat' first | with_reducible exact Ole.refl _ | refine Ole.ite ?_ ?_ | with_reducible exact colour_rightSides_F_le .. | with_reducible exact colour_rightValues_F_le .. | refine Ole.iter fun _ => ?_ | refine Ole.elim (fun _ => ?_) (fun _ => ?_) | refine Ole.bind ?_ fun _ => ?_
noncomputable def colour_near_F (fuel : Nat) (n1 : Int) : Option Bool :=
   (if (decide (n1 ≥ (-100000))) = true then
    some (decide (n1 ≤ 100000))
    else
    some false)
theorem colour_near_F_le (fuel : Nat) (n1 : Int) : Ole (colour_near_F fuel n1) (colour_near n1) := by
  rw [colour_near_eq]; unfold colour_near_F; try dsimp only
  repeat' first | with_reducible exact Ole.refl _ | refine Ole.ite ?_ ?_ | refine Ole.iter fun _ => ?_ | refine Ole.elim (fun _ => ?_) (fun _ => ?_) | refine Ole.bind ?_ fun _ => ?_
noncomputable def slices_Clone_int_int_F (fuel : Nat) (s1 : List Int) : Option (List Int) :=
   (if s1.length = 0 then
    (demon
     (some [])
     ((if (([] : List Int).length + s1.length) * 8 ≤ 140737488355328 then
       let t2 : List Int := ([] : List Int) ++ s1;
       some t2
       else
       none)))
    else
    (if (([] : List Int).length + s1.length) * 8 ≤ 140737488355328 then
     let t3 : List Int := ([] : List Int) ++ s1;
     some t3
     else
     none))
theorem slices_Clone_int_int_F_le (fuel : Nat) (s1 : List Int) : Ole (slices_Clone_int_int_F fuel s1) (slices_Clone_int_int s1) := by
  rw [slices_Clone_int_int_eq]; unfold slices_Clone_int_int_F; try dsimp only
  repeat' first | with_reducible exact Ole.refl _ | refine Ole.ite ?_ ?_ | refine Ole.iter fun _ => ?_ | refine Ole.elim (fun _ => ?_) (fun _ => ?_) | refine Ole.bind ?_ fun _ => ?_
noncomputable def colour_own_F (fuel : Nat) (i1 : Int) (i2 : Int) (i3 : List Int) (i4 : List Int) (i5 : List Int) : Option (Int × Int × (List Int) × (List Int) × (List Int)) :=
   (slices_Clone_int_int_F fuel i3).bind fun (q6 : (List Int)) =>
   (slices_Clone_int_int_F fuel i4).bind fun (q7 : (List Int)) =>
   (slices_Clone_int_int_F fuel i5).bind fun (q8 : (List Int)) =>
   some (i1, i2, q6, q7, q8)
theorem colour_own_F_le (fuel : Nat) (i1 : Int) (i2 : Int) (i3 : List Int) (i4 : List Int) (i5 : List Int) : Ole (colour_own_F fuel i1 i2 i3 i4 i5) (colour_own i1 i2 i3 i4 i5) := by
  rw [colour_own_eq]; unfold colour_own_F; try dsimp only
  repeat' first | with_reducible exact Ole.refl _ | refine Ole.ite ?_ ?_ | with_reducible exact slices_Clone_int_int_F_le .. | refine Ole.iter fun _ => ?_ | refine Ole.elim (fun _ => ?_) (fun _ => ?_) | refine Ole.bind ?_ fun _ => ?_
noncomputable def colour_Paint_loop7_F (fuel : Nat) (i1 : Int) (i2 : Int) (b6 : Int) (b8 : List Int) (x9 : Int) (y10 : Int) (r11 : Int) (g12 : Int) (bl13 : Int) (s28 : Int × (List Int) × (List Int) × (List Int) × Int × Int) : Option ((Int × (List Int) × (List Int) × (List Int) × Int × Int) ⊕ ((List Int) × (List Int) × (List Int) × Int × Int)) :=
   let v29 : Int := s28.1;
   let b30 : List Int := s28.2.1;
   let b31 : List Int := s28.2.2.1;
   let b32 : List Int := s28.2.2.2.1;
   let b33 : Int := s28.2.2.2.2.1;
   let b34 : Int := s28.2.2.2.2.2;
   (if (decide (v29 < ((b8.length : Nat) : Int))) = true then
    (if 0 ≤ v29 ∧ v29 < (b8.length : Int) then
     (if b6 = 0 then
      none
      else
      let t35 : Int := v29.tmod b6;
      let t36 : Int := IntKind.i64.wrap (x9 + t35);
      (if b6 = 0 then
       none
       else
       let t37 : Int := IntKind.i64.wrap (v29.tdiv b6);
       let t38 : Int := IntKind.i64.wrap (y10 + t37);
       ((if (decide (rd b8 v29 = 1)) = true then
         (if (decide (t36 ≥ 0)) = true then
          (if (decide (t38 ≥ 0)) = true then
           (if (decide (t36 < i1)) = true then
            some (decide (t38 < i2))
            else
            some false)
           else
           some false)
          else
          some false)
         else
         some false) : Option (Bool)).bind (fun (v39 : Bool) =>
        (if v39 = true then
         let t40 : Int := IntKind.i64.wrap (t38 * i1);
         let t41 : Int := IntKind.i64.wrap (t40 + t36);
         (colour_set_F fuel t41 r11 g12 bl13 b33 b34 b30 b31 b32).bind fun (q42 : Int × Int × (List Int) × (List Int) × (List Int)) =>
         let tr43 : Int := q42.1;
         let tr44 : Int := q42.2.1;
         let tr45 : List Int := q42.2.2.1;
         let tr46 : List Int := q42.2.2.2.1;
         let tr47 : List Int := q42.2.2.2.2;
         let t48 : Int := IntKind.i64.wrap (v29 + 1);
         some (Sum.inl (t48, tr45, tr46, tr47, tr43, tr44))
         else
         let t49 : Int := IntKind.i64.wrap (v29 + 1);
         some (Sum.inl (t49, b30, b31, b32, b33, b34))))))
     else
     none)
    else
    some (Sum.inr (b30, b31, b32, b33, b34)))
theorem colour_Paint_loop7_F_le (fuel : Nat) (i1 : Int) (i2 : Int) (b6 : Int) (b8 : List Int) (x9 : Int) (y10 : Int) (r11 : Int) (g12 : Int) (bl13 : Int) (s28 : Int × (List Int) × (List Int) × (List Int) × Int × Int) : Ole (colour_Paint_loop7_F fuel i1 i2 b6 b8 x9 y10 r11 g12 bl13 s28) (colour_Paint_loop7 i1 i2 b6 b8 x9 y10 r11 g12 bl13 s28) := by
  unfold colour_Paint_loop7_F colour_Paint_loop7; try dsimp only
  repeat' first | with_reducible exact Ole.refl _ | refine Ole.ite ?_ ?_ | with_reducible exact bitmap_Valid_F_le .. | with_reducible exact colour_Valid_F_le .. | with_reducible exact colour_isValue_F_le .. | with_reducible exact colour_near_F_le .. | with_reducible exact colour_own_F_le .. | with_reducible exact colour_set_F_le .. | refine Ole.iter fun _ => ?_ | refine Ole.elim (fun _ => ?_) (fun _ => ?_) | refine Ole.bind ?_ fun _ => ?_
noncomputable def colour_Paint_F (fuel : Nat) (i1 : Int) (i2 : Int) (i3 : List Int) (i4 : List Int) (i5 : List Int) (b6 : Int) (b7 : Int) (b8 : List Int) (x9 : Int) (y10 : Int) (r11 : Int) (g12 : Int) (bl13 : Int) : Option (Int × Int × (List Int) × (List Int) × (List Int) × Int) :=
   (colour_Valid_F fuel i1 i2 i3 i4 i5).bind fun (q14 : Bool) =>
   (if (!q14) = true then
    some (0, 0, [], [], [], 75)
    else
    ((bitmap_Valid_F fuel b6 b7 b8).bind fun (q15 : Bool) =>
     (if (!q15) = true then
      some true
      else
      (colour_near_F fuel x9).bind fun (q16 : Bool) =>
      (if (!q16) = true then
       some true
       else
       (colour_near_F fuel y10).bind fun (q17 : Bool) =>
       (if (!q17) = true then
        some true
        else
        (colour_isValue_F fuel r11).bind fun (q18 : Bool) =>
        (if (!q18) = true then
         some true
         else
         (colour_isValue_F fuel g12).bind fun (q19 : Bool) =>
         (if (!q19) = true then
          some true
          else
          (colour_isValue_F fuel bl13).bind fun (q20 : Bool) =>
          some (!q20)))))) : Option (Bool)).bind (fun (v21 : Bool) =>
     (if v21 = true then
      some (0, 0, [], [], [], 2)
      else
      (colour_own_F fuel i1 i2 i3 i4 i5).bind fun (q22 : Int × Int × (List Int) × (List Int) × (List Int)) =>
      let tr23 : Int := q22.1;
      let tr24 : Int := q22.2.1;
      let tr25 : List Int := q22.2.2.1;
      let tr26 : List Int := q22.2.2.2.1;
      let tr27 : List Int := q22.2.2.2.2;
      (iter (colour_Paint_loop7_F fuel i1 i2 b6 b8 x9 y10 r11 g12 bl13) fuel (0, tr25, tr26, tr27, tr23, tr24)).bind (fun (p58 : (List Int) × (List Int) × (List Int) × Int × Int) =>
       let b59 : List Int := p58.1;
       let b60 : List Int := p58.2.1;
       let b61 : List Int := p58.2.2.1;
       let b62 : Int := p58.2.2.2.1;
       let b63 : Int := p58.2.2.2.2;
       some (b62, b63, b59, b60, b61, 0)))))
theorem colour_Paint_F_le (fuel : Nat) (i1 : Int) (i2 : Int) (i3 : List Int) (i4 : List Int) (i5 : List Int) (b6 : Int) (b7 : Int) (b8 : List Int) (x9 : Int) (y10 : Int) (r11 : Int) (g12 : Int) (bl13 : Int) : Ole (colour_Paint_F fuel i1 i2 i3 i4 i5 b6 b7 b8 x9 y10 r11 g12 bl13) (colour_Paint i1 i2 i3 i4 i5 b6 b7 b8 x9 y10 r11 g12 bl13) := by
  rw [colour_Paint_eq]; unfold colour_Paint_F; try dsimp only
  repeat' first | with_reducible exact Ole.refl _ | refine Ole.ite ?_ ?_ | with_reducible exact bitmap_Valid_F_le .. | with_reducible exact colour_Valid_F_le .. | with_reducible exact colour_isValue_F_le .. | with_reducible exact colour_near_F_le .. | with_reducible exact colour_own_F_le .. | with_reducible exact colour_set_F_le .. | with_reducible exact colour_Paint_loop7_F_le .. | refine Ole.iter fun _ => ?_ | refine Ole.elim (fun _ => ?_) (fun _ => ?_) | refine Ole.bind ?_ fun _ => ?_
noncomputable def layer_back_F (fuel : Nat) (l1 : Int) (l2 : Int) (l3 : Int) (l4 : Int) (l5 : List Int) (l6 : List Rgb) (l7 : List Int) (l8 : Int) (l9 : List (List Int)) : Option (Int × Int × (List Int) × (List Int) × (List Int) × Bool) :=
   none
theorem layer_back_F_le (fuel : Nat) (l1 : Int) (l2 : Int) (l3 : Int) (l4 : Int) (l5 : List Int) (l6 : List Rgb) (l7 : List Int) (l8 : Int) (l9 : List (List Int)) : Ole (layer_back_F fuel l1 l2 l3 l4 l5 l6 l7 l8 l9) (layer_back l1 l2 l3 l4 l5 l6 l7 l8 l9) := by
  rw [layer_back_eq]; unfold layer_back_F; try dsimp only
  repeat' first | with_reducible exact Ole.refl _ | refine Ole.ite ?_ ?_ | refine Ole.iter fun _ => ?_ | refine Ole.elim (fun _ => ?_) (fun _ => ?_) | refine Ole.bind ?_ fun _ => ?_
noncomputable def layer_hasMask_F (fuel : Nat) (l1 : Int) (l2 : Int) (l3 : Int) (l4 : Int) (l5 : List Int) (l6 : List Rgb) (l7 : List Int) (l8 : Int) (l9 : List (List Int)) : Option Bool :=
   (if (decide (l3 > 0)) = true then
    some true
    else
    some (decide (l4 > 0)))
theorem layer_hasMask_F_le (fuel : Nat) (l1 : Int) (l2 : Int) (l3 : Int) (l4 : Int) (l5 : List Int) (l6 : List Rgb) (l7 : List Int) (l8 : Int) (l9 : List (List Int)) : Ole (layer_hasMask_F fuel l1 l2 l3 l4 l5 l6 l7 l8 l9) (layer_hasMask l1 l2 l3 l4 l5 l6 l7 l8 l9) := by
  rw [layer_hasMask_eq]; unfold layer_hasMask_F; try dsimp only
  repeat' first | with_reducible exact Ole.refl _ | refine Ole.ite ?_ ?_ | refine Ole.iter fun _ => ?_ | refine Ole.elim (fun _ => ?_) (fun _ => ?_) | refine Ole.bind ?_ fun _ => ?_
noncomputable def layer_isImage_F (fuel : Nat) (w1 : Int) (h2 : Int) : Option Bool :=
   (colour_New_F fuel w1 h2 0 0 0).bind fun (q3 : Int × Int × Int × (List Int) × (List Int) × (List Int)) =>
   let tr4 : Int := q3.1;
   let tr5 : Int := q3.2.1;
   let tr6 : Int := q3.2.2.1;
   let tr7 : List Int := q3.2.2.2.1;
   let tr8 : List Int := q3.2.2.2.2.1;
   let tr9 : List Int := q3.2.2.2.2.2;
   some (decide (tr6 = 0))
theorem layer_isImage_F_le (fuel : Nat) (w1 : Int) (h2 : Int) : Ole (layer_isImage_F fuel w1 h2) (layer_isImage w1 h2) := by
  rw [layer_isImage_eq]; unfold layer_isImage_F; try dsimp only
  repeat' first | with_reducible exact Ole.refl _ | refine Ole.ite ?_ ?_ | with_reducible exact colour_New_F_le .. | refine Ole.iter fun _ => ?_ | refine Ole.elim (fun _ => ?_) (fun _ => ?_) | refine Ole.bind ?_ fun _ => ?_
noncomputable def layer_isValue_F (fuel : Nat) (v1 : Int) : Option Bool :=
   (if (decide (v1 ≥ 0)) = true then
    some (decide (v1 ≤ 255))
    else
    some false)
theorem layer_isValue_F_le (fuel : Nat) (v1 : Int) : Ole (layer_isValue_F fuel v1) (layer_isValue v1) := by
  rw [layer_isValue_eq]; unfold layer_isValue_F; try dsimp only
  repeat' first | with_reducible exact Ole.refl _ | refine Ole.ite ?_ ?_ | refine Ole.iter fun _ => ?_ | refine Ole.elim (fun _ => ?_) (fun _ => ?_) | refine Ole.bind ?_ fun _ => ?_
noncomputable def layer_rightColours_1_F (fuel : Nat) (c1 : Int) (c2 : Int) (c3 : Int) : Option Bool :=
   (layer_isValue_F fuel c1).bind fun (q4 : Bool) =>
   (if (!q4) = true then
    some true
    else
    (layer_isValue_F fuel c2).bind fun (q5 : Bool) =>
    (if (!q5) = true then
     some true
     else
     (layer_isValue_F fuel c3).bind fun (q6 : Bool) =>
     some (!q6)))
theorem layer_rightColours_1_F_le (fuel : Nat) (c1 : Int) (c2 : Int) (c3 : Int) : Ole (layer_rightColours_1_F fuel c1 c2 c3) (layer_rightColours_1 c1 c2 c3) := by
  rw [layer_rightColours_1_eq]; unfold layer_rightColours_1_F; try dsimp only
  repeat' first | with_reducible exact Ole.refl _ | refine Ole.ite ?_ ?_ | with_reducible exact layer_isValue_F_le .. | refine Ole.iter fun _ => ?_ | refine Ole.elim (fun _ => ?_) (fun _ => ?_) | refine Ole.bind ?_ fun _ => ?_
noncomputable def slices_IndexFunc_api_Rgb_api_Rgb_loop2_F (fuel : Nat) (s1 : List Rgb) (v2 : Int) : Option ((Int) ⊕ ((Unit) ⊕ (Int))) :=
   (if (decide (v2 < ((s1.length : Nat) : Int))) = true then
    (if 0 ≤ v2 then
     (s1[v2.toNat]?).bind fun e3 =>
     (layer_rightColours_1_F fuel e3.r e3.g e3.b).bind fun (q4 : Bool) =>
     (if q4 = true then
      some (Sum.inr (Sum.inr v2))
      else
      let t5 : Int := IntKind.i64.wrap (v2 + 1);
      some (Sum.inl t5))
     else
     none)
    else
    some (Sum.inr (Sum.inl ())))
theorem slices_IndexFunc_api_Rgb_api_Rgb_loop2_F_le (fuel : Nat) (s1 : List Rgb) (v2 : Int) : Ole (slices_IndexFunc_api_Rgb_api_Rgb_loop2_F fuel s1 v2) (slices_IndexFunc_api_Rgb_api_Rgb_loop2 s1 v2) := by
  unfold slices_IndexFunc_api_Rgb_api_Rgb_loop2_F slices_IndexFunc_api_Rgb_api_Rgb_loop2; try dsimp only
  repeat' first | with_reducible exact Ole.refl _ | refine Ole.ite ?_ ?_ | with_reducible exact layer_rightColours_1_F_le .. | refine Ole.iter fun _ => ?_ | refine Ole.elim (fun _ => ?_) (fun _ => ?_) | refine Ole.bind ?_ fun _ => ?_
noncomputable def slices_IndexFunc_api_Rgb_api_Rgb_F (fuel : Nat) (s1 : List Rgb) : Option Int :=
   (iter (slices_IndexFunc_api_Rgb_api_Rgb_loop2_F fuel s1) fuel 0).bind (fun (o11 : (Unit) ⊕ (Int)) =>
    (Sum.elim (fun (p9 : Unit) =>
      some (-1))
     (fun (v10 : Int) =>
      some v10) o11))
theorem slices_IndexFunc_api_Rgb_api_Rgb_F_le (fuel : Nat) (s1 : List Rgb) : Ole (slices_IndexFunc_api_Rgb_api_Rgb_F fuel s1) (slices_IndexFunc_api_Rgb_api_Rgb s1) := by
  rw [slices_IndexFunc_api_Rgb_api_Rgb_eq]; unfold slices_IndexFunc_api_Rgb_api_Rgb_F; try dsimp only
  repeat' first | with_reducible exact Ole.refl _ | refine Ole.ite ?_ ?_ | with_reducible exact layer_rightColours_1_F_le .. | with_reducible exact slices_IndexFunc_api_Rgb_api_Rgb_loop2_F_le .. | refine Ole.iter fun _ => ?_ | refine Ole.elim (fun _ => ?_) (fun _ => ?_) | refine Ole.bind ?_ fun _ => ?_
noncomputable def slices_ContainsFunc_api_Rgb_api_Rgb_F (fuel : Nat) (s1 : List Rgb) : Option Bool :=
   (slices_IndexFunc_api_Rgb_api_Rgb_F fuel s1).bind fun (q2 : Int) =>
   some (decide (q2 ≥ 0))
theorem slices_ContainsFunc_api_Rgb_api_Rgb_F_le (fuel : Nat) (s1 : List Rgb) : Ole (slices_ContainsFunc_api_Rgb_api_Rgb_F fuel s1) (slices_ContainsFunc_api_Rgb_api_Rgb s1) := by
  rw [slices_ContainsFunc_api_Rgb_api_Rgb_eq]; unfold slices_ContainsFunc_api_Rgb_api_Rgb_F; try dsimp only
  repeat' first | with_reducible exact Ole.refl _ | refine Ole.ite ?_ ?_ | with_reducible exact slices_IndexFunc_api_Rgb_api_Rgb_F_le .. | refine Ole.iter fun _ => ?_ | refine Ole.elim (fun _ => ?_) (fun _ => ?_) | refine Ole.bind ?_ fun _ => ?_
noncomputable def layer_rightColours_2_F (fuel : Nat) (m1 : Int) (b2 : Int) (b3 : Int) (b4 : Int) (b5 : Int) (b6 : List Int) (b7 : List Rgb) (b8 : List Int) (b9 : Int) (b10 : List (List Int)) : Option (Bool × Int × Int × Int × Int × (List Int) × (List Rgb) × (List Int) × Int × (List (List Int))) :=
   (if (decide (m1 < 0)) = true then
    some (true, b2, b3, b4, b5, b6, b7, b8, b9, b10)
    else
    some (decide (m1 ≥ ((b7.length : Nat) : Int)), b2, b3, b4, b5, b6, b7, b8, b9, b10))
theorem layer_rightColours_2_F_le (fuel : Nat) (m1 : Int) (b2 : Int) (b3 : Int) (b4 : Int) (b5 : Int) (b6 : List Int) (b7 : List Rgb) (b8 : List Int) (b9 : Int) (b10 : List (List Int)) : Ole (layer_rightColours_2_F fuel m1 b2 b3 b4 b5 b6 b7 b8 b9 b10) (layer_rightColours_2 m1 b2 b3 b4 b5 b6 b7 b8 b9 b10) := by
  rw [layer_rightColours_2_eq]; unfold layer_rightColours_2_F; try dsimp only
  repeat' first | with_reducible exact Ole.refl _ | refine Ole.ite ?_ ?_ | refine Ole.iter fun _ => ?_ | refine Ole.elim (fun _ => ?_) (fun _ => ?_) | refine Ole.bind ?_ fun _ => ?_
noncomputable def slices_IndexFunc_int_int_loop2_F (fuel : Nat) (s1 : List Int) (s11 : Int × Int × Int × Int × Int × (List Int) × (List Rgb) × (List Int) × Int × (List (List Int))) : Option ((Int × Int × Int × Int × Int × (List Int) × (List Rgb) × (List Int) × Int × (List (List Int))) ⊕ ((Int × Int × Int × Int × (List Int) × (List Rgb) × (List Int) × Int × (List (List Int))) ⊕ (Int × Int × Int × Int × Int × (List Int) × (List Rgb) × (List Int) × Int × (List (List Int))))) :=
   let v12 : Int := s11.1;
   let b13 : Int := s11.2.1;
   let b14 : Int := s11.2.2.1;
   let b15 : Int := s11.2.2.2.1;
   let b16 : Int := s11.2.2.2.2.1;
   let b17 : List Int := s11.2.2.2.2.2.1;
   let b18 : List Rgb := s11.2.2.2.2.2.2.1;
   let b19 : List Int := s11.2.2.2.2.2.2.2.1;
   let b20 : Int := s11.2.2.2.2.2.2.2.2.1;
   let b21 : List (List Int) := s11.2.2.2.2.2.2.2.2.2;
   (if (decide (v12 < ((s1.length : Nat) : Int))) = true then
    (if 0 ≤ v12 ∧ v12 < (s1.length : Int) then
     (layer_rightColours_2_F fuel (rd s1 v12) b13 b14 b15 b16 b17 b18 b19 b20 b21).bind fun (q22 : Bool × Int × Int × Int × Int × (List Int) × (List Rgb) × (List Int) × Int × (List (List Int))) =>
     let tr23 : Bool := q22.1;
     let tr24 : Int := q22.2.1;
     let tr25 : Int := q22.2.2.1;
     let tr26 : Int := q22.2.2.2.1;
     let tr27 : Int := q22.2.2.2.2.1;
     let tr28 : List Int := q22.2.2.2.2.2.1;
     let tr29 : List Rgb := q22.2.2.2.2.2.2.1;
     let tr30 : List Int := q22.2.2.2.2.2.2.2.1;
     let tr31 : Int := q22.2.2.2.2.2.2.2.2.1;
     let tr32 : List (List Int) := q22.2.2.2.2.2.2.2.2.2;
     (if tr23 = true then
      some (Sum.inr (Sum.inr (v12, tr24, tr25, tr26, tr27, tr28, tr29, tr30, tr31, tr32)))
      else
      let t33 : Int := IntKind.i64.wrap (v12 + 1);
      some (Sum.inl (t33, tr24, tr25, tr26, tr27, tr28, tr29, tr30, tr31, tr32)))
     else
     none)
    else
    some (Sum.inr (Sum.inl (b13, b14, b15, b16, b17, b18, b19, b20, b21))))
theorem slices_IndexFunc_int_int_loop2_F_le (fuel : Nat) (s1 : List Int) (s11 : Int × Int × Int × Int × Int × (List Int) × (List Rgb) × (List Int) × Int × (List (List Int))) : Ole (slices_IndexFunc_int_int_loop2_F fuel s1 s11) (slices_IndexFunc_int_int_loop2 s1 s11) := by
  unfold slices_IndexFunc_int_int_loop2_F slices_IndexFunc_int_int_loop2; try dsimp only
  repeat' first | with_reducible exact Ole.refl _ | refine Ole.ite ?_ ?_ | with_reducible exact layer_rightColours_2_F_le .. | refine Ole.iter fun _ => ?_ | refine Ole.elim (fun _ => ?_) (fun _ => ?_) | refine Ole.bind ?_ fun _ => ?_
noncomputable def slices_IndexFunc_int_int_F (fuel : Nat) (s1 : List Int) (b2 : Int) (b3 : Int) (b4 : Int) (b5 : Int) (b6 : List Int) (b7 : List Rgb) (b8 : List Int) (b9 : Int) (b10 : List (List Int)) : Option (Int × Int × Int × Int × Int × (List Int) × (List Rgb) × (List Int) × Int × (List (List Int))) :=
   (iter (slices_IndexFunc_int_int_loop2_F fuel s1) fuel (0, b2, b3, b4, b5, b6, b7, b8, b9, b10)).bind (fun (o67 : (Int × Int × Int × Int × (List Int) × (List Rgb) × (List Int) × Int × (List (List Int))) ⊕ (Int × Int × Int × Int × Int × (List Int) × (List Rgb) × (List Int) × Int × (List (List Int)))) =>
    (Sum.elim (fun (p46 : Int × Int × Int × Int × (List Int) × (List Rgb) × (List Int) × Int × (List (List Int))) =>
      let b47 : Int := p46.1;
      let b48 : Int := p46.2.1;
      let b49 : Int := p46.2.2.1;
      let b50 : Int := p46.2.2.2.1;
      let b51 : List Int := p46.2.2.2.2.1;
      let b52 : List Rgb := p46.2.2.2.2.2.1;
      let b53 : List Int := p46.2.2.2.2.2.2.1;
      let b54 : Int := p46.2.2.2.2.2.2.2.1;
      let b55 : List (List Int) := p46.2.2.2.2.2.2.2.2;
      some ((-1), b47, b48, b49, b50, b51, b52, b53, b54, b55))
     (fun (p56 : Int × Int × Int × Int × Int × (List Int) × (List Rgb) × (List Int) × Int × (List (List Int))) =>
      let v57 : Int := p56.1;
      let b58 : Int := p56.2.1;
      let b59 : Int := p56.2.2.1;
      let b60 : Int := p56.2.2.2.1;
      let b61 : Int := p56.2.2.2.2.1;
      let b62 : List Int := p56.2.2.2.2.2.1;
      let b63 : List Rgb := p56.2.2.2.2.2.2.1;
      let b64 : List Int := p56.2.2.2.2.2.2.2.1;
      let b65 : Int := p56.2.2.2.2.2.2.2.2.1;
      let b66 : List (List Int) := p56.2.2.2.2.2.2.2.2.2;
      some (v57, b58, b59, b60, b61, b62, b63, b64, b65, b66)) o67))
theorem slices_IndexFunc_int_int_F_le (fuel : Nat) (s1 : List Int) (b2 : Int) (b3 : Int) (b4 : Int) (b5 : Int) (b6 : List Int) (b7 : List Rgb) (b8 : List Int) (b9 : Int) (b10 : List (List Int)) : Ole (slices_IndexFunc_int_int_F fuel s1 b2 b3 b4 b5 b6 b7 b8 b9 b10) (slices_IndexFunc_int_int s1 b2 b3 b4 b5 b6 b7 b8 b9 b10) := by
  rw [slices_IndexFunc_int_int_eq]; unfold slices_IndexFunc_int_int_F; try dsimp only
  repeat' first | with_reducible exact Ole.refl _ | refine Ole.ite ?_ ?_ | with_reducible exact layer_rightColours_2_F_le .. | with_reducible exact slices_IndexFunc_int_int_loop2_F_le .. | refine Ole.iter fun _ => ?_ | refine Ole.elim (fun _ => ?_) (fun _ => ?_) | refine Ole.bind ?_ fun _ => ?_
noncomputable def slices_ContainsFunc_int_int_F (fuel : Nat) (s1 : List Int) (b2 : Int) (b3 : Int) (b4 : Int) (b5 : Int) (b6 : List Int) (b7 : List Rgb) (b8 : List Int) (b9 : Int) (b10 : List (List Int)) : Option (Bool × Int × Int × Int × Int × (List Int) × (List Rgb) × (List Int) × Int × (List (List Int))) :=
   (slices_IndexFunc_int_int_F fuel s1 b2 b3 b4 b5 b6 b7 b8 b9 b10).bind fun (q11 : Int × Int × Int × Int × Int × (List Int) × (List Rgb) × (List Int) × Int × (List (List Int))) =>
   let tr12 : Int := q11.1;
   let tr13 : Int := q11.2.1;
   let tr14 : Int := q11.2.2.1;
   let tr15 : Int := q11.2.2.2.1;
   let tr16 : Int := q11.2.2.2.2.1;
   let tr17 : List Int := q11.2.2.2.2.2.1;
   let tr18 : List Rgb := q11.2.2.2.2.2.2.1;
   let tr19 : List Int := q11.2.2.2.2.2.2.2.1;
   let tr20 : Int := q11.2.2.2.2.2.2.2.2.1;
   let tr21 : List (List Int) := q11.2.2.2.2.2.2.2.2.2;
   some (decide (tr12 ≥ 0), tr13, tr14, tr15, tr16, tr17, tr18, tr19, tr20, tr21)
theorem slices_ContainsFunc_int_int_F_le (fuel : Nat) (s1 : List Int) (b2 : Int) (b3 : Int) (b4 : Int) (b5 : Int) (b6 : List Int) (b7 : List Rgb) (b8 : List Int) (b9 : Int) (b10 : List (List Int)) : Ole (slices_ContainsFunc_int_int_F fuel s1 b2 b3 b4 b5 b6 b7 b8 b9 b10) (slices_ContainsFunc_int_int s1 b2 b3 b4 b5 b6 b7 b8 b9 b10) := by
  rw [slices_ContainsFunc_int_int_eq]; unfold slices_ContainsFunc_int_int_F; try dsimp only
  repeat' first | with_reducible exact Ole.refl _ | refine Ole.ite ?_ ?_ | with_reducible exact slices_IndexFunc_int_int_F_le .. | refine Ole.iter fun _ => ?_ | refine Ole.elim (fun _ => ?_) (fun _ => ?_) | refine Ole.bind ?_ fun _ => ?_
noncomputable def layer_rightColours_F (fuel : Nat) (l1 : Int) (l2 : Int) (l3 : Int) (l4 : Int) (l5 : List Int) (l6 : List Rgb) (l7 : List Int) (l8 : Int) (l9 : List (List Int)) (components10 : Int) : Option Bool :=
   ((if (decide (((l6.length : Nat) : Int) > 16)) = true then
     some true
     else
     (slices_ContainsFunc_api_Rgb_api_Rgb_F fuel l6).bind fun (q11 : Bool) =>
     some q11) : Option (Bool)).bind (fun (v12 : Bool) =>
    (if v12 = true then
     some false
     else
     (if (decide (((l6.length : Nat) : Int) = 0)) = true then
      some (decide (((l7.length : Nat) : Int) = 0))
      else
      (if (decide (((l7.length : Nat) : Int) = components10)) = true then
       (slices_ContainsFunc_int_int_F fuel l7 l1 l2 l3 l4 l5 l6 l7 l8 l9).bind fun (q13 : Bool × Int × Int × Int × Int × (List Int) × (List Rgb) × (List Int) × Int × (List (List Int))) =>
       let tr14 : Bool := q13.1;
       let tr15 : Int := q13.2.1;
       let tr16 : Int := q13.2.2.1;
       let tr17 : Int := q13.2.2.2.1;
       let tr18 : Int := q13.2.2.2.2.1;
       let tr19 : List Int := q13.2.2.2.2.2.1;
       let tr20 : List Rgb := q13.2.2.2.2.2.2.1;
       let tr21 : List Int := q13.2.2.2.2.2.2.2.1;
       let tr22 : Int := q13.2.2.2.2.2.2.2.2.1;
       let tr23 : List (List Int) := q13.2.2.2.2.2.2.2.2.2;
       some (!tr14)
       else
       some false))))
theorem layer_rightColours_F_le (fuel : Nat) (l1 : Int) (l2 : Int) (l3 : Int) (l4 : Int) (l5 : List Int) (l6 : List Rgb) (l7 : List Int) (l8 : Int) (l9 : List (List Int)) (components10 : Int) : Ole (layer_rightColours_F fuel l1 l2 l3 l4 l5 l6 l7 l8 l9 components10) (layer_rightColours l1 l2 l3 l4 l5 l6 l7 l8 l9 components10) := by
  rw [layer_rightColours_eq]; unfold layer_rightColours_F; try dsimp only
  repeat' first | with_reducible exact Ole.refl _ | refine Ole.ite ?_ ?_ | with_reducible exact slices_ContainsFunc_api_Rgb_api_Rgb_F_le .. | with_reducible exact slices_ContainsFunc_int_int_F_le .. | refine Ole.iter fun _ => ?_ | refine Ole.elim (fun _ => ?_) (fun _ => ?_) | refine Ole.bind ?_ fun _ => ?_
noncomputable def shape_four_F (fuel : Nat) : Option (List Point) :=
   some [(Point.mk (-1) 0), (Point.mk 1 0), (Point.mk 0 (-1)), (Point.mk 0 1)]
theorem shape_four_F_le (fuel : Nat) : Ole (shape_four_F fuel) (shape_four) := by
  rw [shape_four_eq]; unfold shape_four_F; try dsimp only
  repeat' first | with_reducible exact Ole.refl _ | refine Ole.ite ?_ ?_ | refine Ole.iter fun _ => ?_ | refine Ole.elim (fun _ => ?_) (fun _ => ?_) | refine Ole.bind ?_ fun _ => ?_
noncomputable def shape_eight_F (fuel : Nat) : Option (List Point) :=
   (shape_four_F fuel).bind fun (q1 : (List Point)) =>
   (if (q1.length + ([(Point.mk (-1) (-1)), (Point.mk 1 (-1)), (Point.mk (-1) 1), (Point.mk 1 1)] : List Point).length) * 16 ≤ 140737488355328 then
    let t2 : List Point := q1 ++ [(Point.mk (-1) (-1)), (Point.mk 1 (-1)), (Point.mk (-1) 1), (Point.mk 1 1)];
    some t2
    else
    none)
theorem shape_eight_F_le (fuel : Nat) : Ole (shape_eight_F fuel) (shape_eight) := by
  rw [shape_eight_eq]; unfold shape_eight_F; try dsimp only
  repeat' first | with_reducible exact Ole.refl _ | refine Ole.ite ?_ ?_ | with_reducible exact shape_four_F_le .. | refine Ole.iter fun _ => ?_ | refine Ole.elim (fun _ => ?_) (fun _ => ?_) | refine Ole.bind ?_ fun _ => ?_
noncomputable def shape_flood_loop8_F (fuel : Nat) (b1 : Int) (b2 : Int) (b3 : List Int) (steps6 : List Point) (t9 : Int) (i15 : Int) (s18 : Int × (List Bool) × (List Point)) : Option ((Int × (List Bool) × (List Point)) ⊕ ((List Bool) × (List Point))) :=
   let v19 : Int := s18.1;
   let b20 : List Bool := s18.2.1;
   let out21 : List Point := s18.2.2;
   (if (decide (v19 < ((steps6.length : Nat) : Int))) = true then
    (if 0 ≤ v19 then
     (steps6[v19.toNat]?).bind fun e22 =>
     (if 0 ≤ i15 ∧ i15 < (out21.length : Int) then
      (out21[i15.toNat]?).bind fun e23 =>
      let t24 : Int := IntKind.i64.wrap (e23.x + e22.x);
      (if 0 ≤ i15 ∧ i15 < (out21.length : Int) then
       (out21[i15.toNat]?).bind fun e25 =>
       let t26 : Int := IntKind.i64.wrap (e25.y + e22.y);
       ((if (decide (t24 < 0)) = true then
         some true
         else
         (if (decide (t26 < 0)) = true then
          some true
          else
          (if (decide (t24 ≥ b1)) = true then
           some true
           else
           (if (decide (t26 ≥ b2)) = true then
            some true
            else
            let t27 : Int := IntKind.i64.wrap (t26 * b1);
            let t28 : Int := IntKind.i64.wrap (t27 + t24);
            (if 0 ≤ t28 ∧ t28 < (b20.length : Int) then
             (b20[t28.toNat]?).bind fun e29 =>
             (if e29 = true then
              some true
              else
              let t30 : Int := IntKind.i64.wrap (t26 * b1);
              let t31 : Int := IntKind.i64.wrap (t30 + t24);
              (if 0 ≤ t31 ∧ t31 < (b3.length : Int) then
               some (!decide (rd b3 t31 = rd b3 t9))
               else
               none))
             else
             none))))) : Option (Bool)).bind (fun (v32 : Bool) =>
        (if v32 = true then
         let t33 : Int := IntKind.i64.wrap (v19 + 1);
         some (Sum.inl (t33, b20, out21))
         else
         let t34 : Int := IntKind.i64.wrap (t26 * b1);
         let t35 : Int := IntKind.i64.wrap (t34 + t24);
         (if 0 ≤ t35 ∧ t35 < (b20.length : Int) then
          (b20[t35.toNat]?).bind fun e36 =>
          let w37 : List Bool := b20.set t35.toNat true;
          (if (out21.length + ([(Point.mk t24 t26)] : List Point).length) * 16 ≤ 140737488355328 then
           let t38 : List Point := out21 ++ [(Point.mk t24 t26)];
           let t39 : Int := IntKind.i64.wrap (v19 + 1);
           some (Sum.inl (t39, w37, t38))
           else
           none)
          else
          none)))
       else
       none)
      else
      none)
     else
     none)
    else
    some (Sum.inr (b20, out21)))
theorem shape_flood_loop8_F_le (fuel : Nat) (b1 : Int) (b2 : Int) (b3 : List Int) (steps6 : List Point) (t9 : Int) (i15 : Int) (s18 : Int × (List Bool) × (List Point)) : Ole (shape_flood_loop8_F fuel b1 b2 b3 steps6 t9 i15 s18) (shape_flood_loop8 b1 b2 b3 steps6 t9 i15 s18) := by
  unfold shape_flood_loop8_F shape_flood_loop8; try dsimp only
  repeat' first | with_reducible exact Ole.refl _ | refine Ole.ite ?_ ?_ | refine Ole.iter fun _ => ?_ | refine Ole.elim (fun _ => ?_) (fun _ => ?_) | refine Ole.bind ?_ fun _ => ?_
noncomputable def shape_flood_loop5_F (fuel : Nat) (b1 : Int) (b2 : Int) (b3 : List Int) (steps6 : List Point) (t9 : Int) (s14 : Int × (List Bool) × (List Point)) : Option ((Int × (List Bool) × (List Point)) ⊕ ((List Bool) × (List Point))) :=
   let i15 : Int := s14.1;
   let b16 : List Bool := s14.2.1;
   let out17 : List Point := s14.2.2;
   (if (decide (i15 < ((out17.length : Nat) : Int))) = true then
    (iter (shape_flood_loop8_F fuel b1 b2 b3 steps6 t9 i15) fuel (0, b16, out17)).bind (fun (p45 : (List Bool) × (List Point)) =>
     let b46 : List Bool := p45.1;
     let out47 : List Point := p45.2;
     let t48 : Int := IntKind.i64.wrap (i15 + 1);
     some (Sum.inl (t48, b46, out47)))
    else
    some (Sum.inr (b16, out17)))
theorem shape_flood_loop5_F_le (fuel : Nat) (b1 : Int) (b2 : Int) (b3 : List Int) (steps6 : List Point) (t9 : Int) (s14 : Int × (List Bool) × (List Point)) : Ole (shape_flood_loop5_F fuel b1 b2 b3 steps6 t9 s14) (shape_flood_loop5 b1 b2 b3 steps6 t9 s14) := by
  unfold shape_flood_loop5_F shape_flood_loop5; try dsimp only
  repeat' first | with_reducible exact Ole.refl _ | refine Ole.ite ?_ ?_ | with_reducible exact shape_flood_loop8_F_le .. | refine Ole.iter fun _ => ?_ | refine Ole.elim (fun _ => ?_) (fun _ => ?_) | refine Ole.bind ?_ fun _ => ?_
noncomputable def shape_flood_F (fuel : Nat) (b1 : Int) (b2 : Int) (b3 : List Int) (from4 : Int) (from5 : Int) (steps6 : List Point) (b7 : List Bool) : Option ((List Point) × (List Bool)) :=
   let t8 : Int := IntKind.i64.wrap (from5 * b1);
   let t9 : Int := IntKind.i64.wrap (t8 + from4);
   (if 0 ≤ t9 ∧ t9 < (b3.length : Int) then
    let t10 : Int := IntKind.i64.wrap (from5 * b1);
    let t11 : Int := IntKind.i64.wrap (t10 + from4);
    (if 0 ≤ t11 ∧ t11 < (b7.length : Int) then
     (b7[t11.toNat]?).bind fun e12 =>
     let w13 : List Bool := b7.set t11.toNat true;
     (iter (shape_flood_loop5_F fuel b1 b2 b3 steps6 t9) fuel (0, w13, [(Point.mk from4 from5)])).bind (fun (p49 : (List Bool) × (List Point)) =>
      let b50 : List Bool := p49.1;
      let out51 : List Point := p49.2;
      some (out51, b50))
     else
     none)
    else
    none)
theorem shape_flood_F_le (fuel : Nat) (b1 : Int) (b2 : Int) (b3 : List Int) (from4 : Int) (from5 : Int) (steps6 : List Point) (b7 : List Bool) : Ole (shape_flood_F fuel b1 b2 b3 from4 from5 steps6 b7) (shape_flood b1 b2 b3 from4 from5 steps6 b7) := by
  rw [shape_flood_eq]; unfold shape_flood_F; try dsimp only
  repeat' first | with_reducible exact Ole.refl _ | refine Ole.ite ?_ ?_ | with_reducible exact shape_flood_loop8_F_le .. | with_reducible exact shape_flood_loop5_F_le .. | refine Ole.iter fun _ => ?_ | refine Ole.elim (fun _ => ?_) (fun _ => ?_) | refine Ole.bind ?_ fun _ => ?_
noncomputable def bitmap_blank_F (fuel : Nat) (w1 : Int) (h2 : Int) : Option (Int × Int × Int × (List Int)) :=
   (bitmap_fits_F fuel w1 h2).bind fun (q3 : Bool) =>
   (if (!q3) = true then
    some (0, 0, 4, [])
    else
    let t4 : Int := IntKind.i64.wrap (w1 * h2);
    (if 0 ≤ t4 ∧ t4 ≤ t4 ∧ ((1 : Nat) : Int) * t4 ≤ 281474976710656 then
     let t5 : List Int := List.replicate t4.toNat 0;
     some (w1, h2, 0, t5)
     else
     none))
theorem bitmap_blank_F_le (fuel : Nat) (w1 : Int) (h2 : Int) : Ole (bitmap_blank_F fuel w1 h2) (bitmap_blank w1 h2) := by
  rw [bitmap_blank_eq]; unfold bitmap_blank_F; try dsimp only
  repeat' first | with_reducible exact Ole.refl _ | refine Ole.ite ?_ ?_ | with_reducible exact bitmap_fits_F_le .. | refine Ole.iter fun _ => ?_ | refine Ole.elim (fun _ => ?_) (fun _ => ?_) | refine Ole.bind ?_ fun _ => ?_
noncomputable def bitmap_New_loop5_F (fuel : Nat) (pixel3 : Int) (tr9 : List Int) (s10 : Int × (List Int)) : Option ((Int × (List Int)) ⊕ ((List Int))) :=
   let v11 : Int := s10.1;
   let b12 : List Int := s10.2;
   (if (decide (v11 < ((tr9.length : Nat) : Int))) = true then
    let t13 : Int := IntKind.u8.wrap pixel3;
    (if 0 ≤ v11 ∧ v11 < (b12.length : Int) then
     let w14 : List Int := b12.set v11.toNat t13;
     let t15 : Int := IntKind.i64.wrap (v11 + 1);
     some (Sum.inl (t15, w14))
     else
     none)
    else
    some (Sum.inr b12))
theorem bitmap_New_loop5_F_le (fuel : Nat) (pixel3 : Int) (tr9 : List Int) (s10 : Int × (List Int)) : Ole (bitmap_New_loop5_F fuel pixel3 tr9 s10) (bitmap_New_loop5 pixel3 tr9 s10) := by
  unfold bitmap_New_loop5_F bitmap_New_loop5; try dsimp only
  repeat' first | with_reducible exact Ole.refl _ | refine Ole.ite ?_ ?_ | with_reducible exact bitmap_blank_F_le .. | refine Ole.iter fun _ => ?_ | refine Ole.elim (fun _ => ?_) (fun _ => ?_) | refine Ole.bind ?_ fun _ => ?_
noncomputable def bitmap_New_F (fuel : Nat) (w1 : Int) (h2 : Int) (pixel3 : Int) : Option (Int × Int × Int × (List Int)) :=
   ((if (decide (w1 < 0)) = true then
     some true
     else
     (if (decide (h2 < 0)) = true then
      some true
      else
      (if (!decide (pixel3 = 0)) = true then
       some (!decide (pixel3 = 1))
       else
       some false))) : Option (Bool)).bind (fun (v4 : Bool) =>
    (if v4 = true then
     some (0, 0, 2, [])
     else
     (bitmap_blank_F fuel w1 h2).bind fun (q5 : Int × Int × Int × (List Int)) =>
     let tr6 : Int := q5.1;
     let tr7 : Int := q5.2.1;
     let tr8 : Int := q5.2.2.1;
     let tr9 : List Int := q5.2.2.2;
     (iter (bitmap_New_loop5_F fuel pixel3 tr9) fuel (0, tr9)).bind (fun (b19 : (List Int)) =>
      some (tr6, tr7, tr8, b19))))
theorem bitmap_New_F_le (fuel : Nat) (w1 : Int) (h2 : Int) (pixel3 : Int) : Ole (bitmap_New_F fuel w1 h2 pixel3) (bitmap_New w1 h2 pixel3) := by
  rw [bitmap_New_eq]; unfold bitmap_New_F; try dsimp only
  repeat' first | with_reducible exact Ole.refl _ | refine Ole.ite ?_ ?_ | with_reducible exact bitmap_blank_F_le .. | with_reducible exact bitmap_New_loop5_F_le .. | refine Ole.iter fun _ => ?_ | refine Ole.elim (fun _ => ?_) (fun _ => ?_) | refine Ole.bind ?_ fun _ => ?_
noncomputable def shape_placed_loop3_F (fuel : Nat) (l1 : List Point) (s6 : Int × Int × Int × Int × Int) : Option ((Int × Int × Int × Int × Int) ⊕ (Int × Int × Int × Int)) :=
   let left7 : Int := s6.1;
   let top8 : Int := s6.2.1;
   let right9 : Int := s6.2.2.1;
   let bottom10 : Int := s6.2.2.2.1;
   let v11 : Int := s6.2.2.2.2;
   (if (decide (v11 < ((l1.length : Nat) : Int))) = true then
    (if 0 ≤ v11 then
     (l1[v11.toNat]?).bind fun e12 =>
     let t13 : Int := imin left7 e12.x;
     let t14 : Int := imax right9 e12.x;
     let t15 : Int := imin top8 e12.y;
     let t16 : Int := imax bottom10 e12.y;
     let t17 : Int := IntKind.i64.wrap (v11 + 1);
     some (Sum.inl (t13, t15, t14, t16, t17))
     else
     none)
    else
    some (Sum.inr (left7, top8, right9, bottom10)))
theorem shape_placed_loop3_F_le (fuel : Nat) (l1 : List Point) (s6 : Int × Int × Int × Int × Int) : Ole (shape_placed_loop3_F fuel l1 s6) (shape_placed_loop3 l1 s6) := by
  unfold shape_placed_loop3_F shape_placed_loop3; try dsimp only
  repeat' first | with_reducible exact Ole.refl _ | refine Ole.ite ?_ ?_ | with_reducible exact bitmap_New_F_le .. | refine Ole.iter fun _ => ?_ | refine Ole.elim (fun _ => ?_) (fun _ => ?_) | refine Ole.bind ?_ fun _ => ?_
noncomputable def shape_placed_loop10_F (fuel : Nat) (l1 : List Point) (left26 : Int) (top27 : Int) (tr35 : Int) (s39 : Int × (List Int)) : Option ((Int × (List Int)) ⊕ ((List Int))) :=
   let v40 : Int := s39.1;
   let b41 : List Int := s39.2;
   (if (decide (v40 < ((l1.length : Nat) : Int))) = true then
    (if 0 ≤ v40 then
     (l1[v40.toNat]?).bind fun e42 =>
     let t43 : Int := IntKind.i64.wrap (e42.y - top27);
     let t44 : Int := IntKind.i64.wrap (t43 * tr35);
     let t45 : Int := IntKind.i64.wrap (t44 + e42.x);
     let t46 : Int := IntKind.i64.wrap (t45 - left26);
     (if 0 ≤ t46 ∧ t46 < (b41.length : Int) then
      let w47 : List Int := b41.set t46.toNat 1;
      let t48 : Int := IntKind.i64.wrap (v40 + 1);
      some (Sum.inl (t48, w47))
      else
      none)
     else
     none)
    else
    some (Sum.inr b41))
theorem shape_placed_loop10_F_le (fuel : Nat) (l1 : List Point) (left26 : Int) (top27 : Int) (tr35 : Int) (s39 : Int × (List Int)) : Ole (shape_placed_loop10_F fuel l1 left26 top27 tr35 s39) (shape_placed_loop10 l1 left26 top27 tr35 s39) := by
  unfold shape_placed_loop10_F shape_placed_loop10; try dsimp only
  repeat' first | with_reducible exact Ole.refl _ | refine Ole.ite ?_ ?_ | with_reducible exact bitmap_New_F_le .. | with_reducible exact shape_placed_loop3_F_le .. | refine Ole.iter fun _ => ?_ | refine Ole.elim (fun _ => ?_) (fun _ => ?_) | refine Ole.bind ?_ fun _ => ?_
noncomputable def shape_placed_F (fuel : Nat) (l1 : List Point) : Option (Int × Int × (List Int) × Int × Int) :=
   (if 0 ≤ (0 : Int) then
    (l1[(0 : Int).toNat]?).bind fun e2 =>
    (if 0 ≤ (0 : Int) then
     (l1[(0 : Int).toNat]?).bind fun e3 =>
     (if 0 ≤ (0 : Int) then
      (l1[(0 : Int).toNat]?).bind fun e4 =>
      (if 0 ≤ (0 : Int) then
       (l1[(0 : Int).toNat]?).bind fun e5 =>
       (iter (shape_placed_loop3_F fuel l1) fuel (e2.x, e3.y, e4.x, e5.y, 0)).bind (fun (p25 : Int × Int × Int × Int) =>
        let left26 : Int := p25.1;
        let top27 : Int := p25.2.1;
        let right28 : Int := p25.2.2.1;
        let bottom29 : Int := p25.2.2.2;
        let t30 : Int := IntKind.i64.wrap (right28 - left26);
        let t31 : Int := IntKind.i64.wrap (t30 + 1);
        let t32 : Int := IntKind.i64.wrap (bottom29 - top27);
        let t33 : Int := IntKind.i64.wrap (t32 + 1);
        (bitmap_New_F fuel t31 t33 0).bind fun (q34 : Int × Int × Int × (List Int)) =>
        let tr35 : Int := q34.1;
        let tr36 : Int := q34.2.1;
        let tr37 : Int := q34.2.2.1;
        let tr38 : List Int := q34.2.2.2;
        (iter (shape_placed_loop10_F fuel l1 left26 top27 tr35) fuel (0, tr38)).bind (fun (b52 : (List Int)) =>
         some (tr35, tr36, b52, left26, top27)))
       else
       none)
      else
      none)
     else
     none)
    else
    none)
theorem shape_placed_F_le (fuel : Nat) (l1 : List Point) : Ole (shape_placed_F fuel l1) (shape_placed l1) := by
  rw [shape_placed_eq]; unfold shape_placed_F; try dsimp only
  repeat' first | with_reducible exact Ole.refl _ | refine Ole.ite ?_ ?_ | with_reducible exact bitmap_New_F_le .. | with_reducible exact shape_placed_loop3_F_le .. | with_reducible exact shape_placed_loop10_F_le .. | refine Ole.iter fun _ => ?_ | refine Ole.elim (fun _ => ?_) (fun _ => ?_) | refine Ole.bind ?_ fun _ => ?_
noncomputable def shape_components_loop4_F (fuel : Nat) (b1 : Int) (b2 : Int) (b3 : List Int) (s5 : Int × (List Bool) × (List Placed)) : Option ((Int × (List Bool) × (List Placed)) ⊕ ((List Bool) × (List Placed))) :=
   let v6 : Int := s5.1;
   let b7 : List Bool := s5.2.1;
   let out8 : List Placed := s5.2.2;
   (if (decide (v6 < ((b3.length : Nat) : Int))) = true then
    (if 0 ≤ v6 ∧ v6 < (b3.length : Int) then
     ((if (decide (rd b3 v6 = 1)) = true then
       (if 0 ≤ v6 ∧ v6 < (b7.length : Int) then
        (b7[v6.toNat]?).bind fun e9 =>
        some (!e9)
        else
        none)
       else
       some false) : Option (Bool)).bind (fun (v10 : Bool) =>
      (if v10 = true then
       (if b1 = 0 then
        none
        else
        let t11 : Int := v6.tmod b1;
        (if b1 = 0 then
         none
         else
         let t12 : Int := IntKind.i64.wrap (v6.tdiv b1);
         (shape_eight_F fuel).bind fun (q13 : (List Point)) =>
         (shape_flood_F fuel b1 b2 b3 t11 t12 q13 b7).bind fun (q14 : (List Point) × (List Bool)) =>
         let tr15 : List Point := q14.1;
         let tr16 : List Bool := q14.2;
         (shape_placed_F fuel tr15).bind fun (q17 : Int × Int × (List Int) × Int × Int) =>
         let tr18 : Int := q17.1;
         let tr19 : Int := q17.2.1;
         let tr20 : List Int := q17.2.2.1;
         let tr21 : Int := q17.2.2.2.1;
         let tr22 : Int := q17.2.2.2.2;
         (if (out8.length + ([(Placed.mk tr18 tr19 tr20 tr21 tr22)] : List Placed).length) * 56 ≤ 140737488355328 then
          let t23 : List Placed := out8 ++ [(Placed.mk tr18 tr19 tr20 tr21 tr22)];
          let t24 : Int := IntKind.i64.wrap (v6 + 1);
          some (Sum.inl (t24, tr16, t23))
          else
          none)))
       else
       let t25 : Int := IntKind.i64.wrap (v6 + 1);
       some (Sum.inl (t25, b7, out8))))
     else
     none)
    else
    some (Sum.inr (b7, out8)))
theorem shape_components_loop4_F_le (fuel : Nat) (b1 : Int) (b2 : Int) (b3 : List Int) (s5 : Int × (List Bool) × (List Placed)) : Ole (shape_components_loop4_F fuel b1 b2 b3 s5) (shape_components_loop4 b1 b2 b3 s5) := by
  unfold shape_components_loop4_F shape_components_loop4; try dsimp only
  repeat' first | with_reducible exact Ole.refl _ | refine Ole.ite ?_ ?_ | with_reducible exact shape_eight_F_le .. | with_reducible exact shape_flood_F_le .. | with_reducible exact shape_placed_F_le .. | refine Ole.iter fun _ => ?_ | refine Ole.elim (fun _ => ?_) (fun _ => ?_) | refine Ole.bind ?_ fun _ => ?_
noncomputable def shape_components_F (fuel : Nat) (b1 : Int) (b2 : Int) (b3 : List Int) : Option (List Placed) :=
   (if 0 ≤ ((b3.length : Nat) : Int) ∧ ((b3.length : Nat) : Int) ≤ ((b3.length : Nat) : Int) ∧ ((1 : Nat) : Int) * ((b3.length : Nat) : Int) ≤ 281474976710656 then
    let t4 : List Bool := List.replicate ((b3.length : Nat) : Int).toNat false;
    (iter (shape_components_loop4_F fuel b1 b2 b3) fuel (0, t4, [])).bind (fun (p31 : (List Bool) × (List Placed)) =>
     let b32 : List Bool := p31.1;
     let out33 : List Placed := p31.2;
     some out33)
    else
    none)
theorem shape_components_F_le (fuel : Nat) (b1 : Int) (b2 : Int) (b3 : List Int) : Ole (shape_components_F fuel b1 b2 b3) (shape_components b1 b2 b3) := by
  rw [shape_components_eq]; unfold shape_components_F; try dsimp only
  repeat' first | with_reducible exact Ole.refl _ | refine Ole.ite ?_ ?_ | with_reducible exact shape_eight_F_le .. | with_reducible exact shape_flood_F_le .. | with_reducible exact shape_placed_F_le .. | with_reducible exact shape_components_loop4_F_le .. | refine Ole.iter fun _ => ?_ | refine Ole.elim (fun _ => ?_) (fun _ => ?_) | refine Ole.bind ?_ fun _ => ?_
noncomputable def shape_Components_F (fuel : Nat) (b1 : Int) (b2 : Int) (b3 : List Int) : Option ((List Placed) × Int) :=
   (bitmap_Valid_F fuel b1 b2 b3).bind fun (q4 : Bool) =>
   (if (!q4) = true then
    some ([], 30)
    else
    (shape_components_F fuel b1 b2 b3).bind fun (q5 : (List Placed)) =>
    some (q5, 0))
theorem shape_Components_F_le (fuel : Nat) (b1 : Int) (b2 : Int) (b3 : List Int) : Ole (shape_Components_F fuel b1 b2 b3) (shape_Components b1 b2 b3) := by
  rw [shape_Components_eq]; unfold shape_Components_F; try dsimp only
  repeat' first | with_reducible exact Ole.refl _ | refine Ole.ite ?_ ?_ | with_reducible exact bitmap_Valid_F_le .. | with_reducible exact shape_components_F_le .. | refine Ole.iter fun _ => ?_ | refine Ole.elim (fun _ => ?_) (fun _ => ?_) | refine Ole.bind ?_ fun _ => ?_
noncomputable def layer_Valid_F (fuel : Nat) (l1 : Int) (l2 : Int) (l3 : Int) (l4 : Int) (l5 : List Int) (l6 : List Rgb) (l7 : List Int) (l8 : Int) (l9 : List (List Int)) : Option Bool :=
   ((layer_isImage_F fuel l1 l2).bind fun (q10 : Bool) =>
    (if (!q10) = true then
     some true
     else
     (bitmap_Valid_F fuel l3 l4 l5).bind fun (q11 : Bool) =>
     (if (!q11) = true then
      some true
      else
      (layer_hasMask_F fuel l1 l2 l3 l4 l5 l6 l7 l8 l9).bind fun (q12 : Bool) =>
      (if q12 = true then
       (if (!decide (l3 = l1)) = true then
        some true
        else
        (if (!decide (l4 = l2)) = true then
         some true
         else
         (if (decide (l8 < 1)) = true then
          some true
          else
          some (decide (l8 > 6)))))
       else
       (if (decide (l8 < 1)) = true then
        some true
        else
        some (decide (l8 > 6)))))) : Option (Bool)).bind (fun (v13 : Bool) =>
    (if v13 = true then
     some false
     else
     (shape_Components_F fuel l3 l4 l5).bind fun (q14 : (List Placed) × Int) =>
     let tr15 : List Placed := q14.1;
     let tr16 : Int := q14.2;
     (layer_rightColours_F fuel l1 l2 l3 l4 l5 l6 l7 l8 l9 ((tr15.length : Nat) : Int)).bind fun (q17 : Bool) =>
     (if (!q17) = true then
      some false
      else
      (if (decide (((l9.length : Nat) : Int) = 0)) = true then
       some true
       else
       (layer_back_F fuel l1 l2 l3 l4 l5 l6 l7 l8 l9).bind fun (q18 : Int × Int × (List Int) × (List Int) × (List Int) × Bool) =>
       let tr19 : Int := q18.1;
       let tr20 : Int := q18.2.1;
       let tr21 : List Int := q18.2.2.1;
       let tr22 : List Int := q18.2.2.2.1;
       let tr23 : List Int := q18.2.2.2.2.1;
       let tr24 : Bool := q18.2.2.2.2.2;
       some tr24))))
theorem layer_Valid_F_le (fuel : Nat) (l1 : Int) (l2 : Int) (l3 : Int) (l4 : Int) (l5 : List Int) (l6 : List Rgb) (l7 : List Int) (l8 : Int) (l9 : List (List Int)) : Ole (layer_Valid_F fuel l1 l2 l3 l4 l5 l6 l7 l8 l9) (layer_Valid l1 l2 l3 l4 l5 l6 l7 l8 l9) := by
  rw [layer_Valid_eq]; unfold layer_Valid_F; try dsimp only
  repeat' first | with_reducible exact Ole.refl _ | refine Ole.ite ?_ ?_ | with_reducible exact bitmap_Valid_F_le .. | with_reducible exact layer_back_F_le .. | with_reducible exact layer_hasMask_F_le .. | with_reducible exact layer_isImage_F_le .. | with_reducible exact layer_rightColours_F_le .. | with_reducible exact shape_Components_F_le .. | refine Ole.iter fun _ => ?_ | refine Ole.elim (fun _ => ?_) (fun _ => ?_) | refine Ole.bind ?_ fun _ => ?_
noncomputable def layer_Render_loop7_F (fuel : Nat) (l1 : Int) (l8 : Int) (tr15 : List Int) (tr19 : Int) (tr21 : List Int) (tr22 : List Int) (tr23 : List Int) (s25 : Int × (List Int) × (List Int) × (List Int)) : Option ((Int × (List Int) × (List Int) × (List Int)) ⊕ ((List Int) × (List Int) × (List Int))) :=
   let v26 : Int := s25.1;
   let b27 : List Int := s25.2.1;
   let b28 : List Int := s25.2.2.1;
   let b29 : List Int := s25.2.2.2;
   (if (decide (v26 < ((tr15.length : Nat) : Int))) = true then
    (if l1 = 0 then
     none
     else
     let t30 : Int := IntKind.i64.wrap (v26.tdiv l1);
     (if l8 = 0 then
      none
      else
      let t31 : Int := IntKind.i64.wrap (t30.tdiv l8);
      let t32 : Int := IntKind.i64.wrap (t31 * tr19);
      (if l1 = 0 then
       none
       else
       let t33 : Int := v26.tmod l1;
       (if l8 = 0 then
        none
        else
        let t34 : Int := IntKind.i64.wrap (t33.tdiv l8);
        let t35 : Int := IntKind.i64.wrap (t32 + t34);
        (if 0 ≤ t35 ∧ t35 < (tr21.length : Int) then
         (if 0 ≤ t35 ∧ t35 < (tr22.length : Int) then
          (if 0 ≤ t35 ∧ t35 < (tr23.length : Int) then
           (if 0 ≤ v26 ∧ v26 < (b27.length : Int) then
            let w36 : List Int := b27.set v26.toNat (rd tr21 t35);
            (if 0 ≤ v26 ∧ v26 < (b28.length : Int) then
             let w37 : List Int := b28.set v26.toNat (rd tr22 t35);
             (if 0 ≤ v26 ∧ v26 < (b29.length : Int) then
              let w38 : List Int := b29.set v26.toNat (rd tr23 t35);
              let t39 : Int := IntKind.i64.wrap (v26 + 1);
              some (Sum.inl (t39, w36, w37, w38))
              else
              none)
             else
             none)
            else
            none)
           else
           none)
          else
          none)
         else
         none)))))
    else
    some (Sum.inr (b27, b28, b29)))
theorem layer_Render_loop7_F_le (fuel : Nat) (l1 : Int) (l8 : Int) (tr15 : List Int) (tr19 : Int) (tr21 : List Int) (tr22 : List Int) (tr23 : List Int) (s25 : Int × (List Int) × (List Int) × (List Int)) : Ole (layer_Render_loop7_F fuel l1 l8 tr15 tr19 tr21 tr22 tr23 s25) (layer_Render_loop7 l1 l8 tr15 tr19 tr21 tr22 tr23 s25) := by
  unfold layer_Render_loop7_F layer_Render_loop7; try dsimp only
  repeat' first | with_reducible exact Ole.refl _ | refine Ole.ite ?_ ?_ | with_reducible exact colour_New_F_le .. | with_reducible exact colour_Paint_F_le .. | with_reducible exact layer_Valid_F_le .. | with_reducible exact layer_back_F_le .. | with_reducible exact shape_Components_F_le .. | refine Ole.iter fun _ => ?_ | refine Ole.elim (fun _ => ?_) (fun _ => ?_) | refine Ole.bind ?_ fun _ => ?_
noncomputable def layer_Render_loop14_F (fuel : Nat) (l6 : List Rgb) (l7 : List Int) (tr55 : List Placed) (s57 : Int × Int × Int × (List Int) × (List Int) × (List Int)) : Option ((Int × Int × Int × (List Int) × (List Int) × (List Int)) ⊕ (Int × Int × (List Int) × (List Int) × (List Int))) :=
   let v58 : Int := s57.1;
   let b59 : Int := s57.2.1;
   let b60 : Int := s57.2.2.1;
   let b61 : List Int := s57.2.2.2.1;
   let b62 : List Int := s57.2.2.2.2.1;
   let b63 : List Int := s57.2.2.2.2.2;
   (if (decide (v58 < ((tr55.length : Nat) : Int))) = true then
    (if 0 ≤ v58 then
     (tr55[v58.toNat]?).bind fun e64 =>
     ((if (decide (((l6.length : Nat) : Int) > 0)) = true then
       (if 0 ≤ v58 ∧ v58 < (l7.length : Int) then
        (if 0 ≤ rd l7 v58 then
         (l6[(rd l7 v58).toNat]?).bind fun e65 =>
         some (e65.r, e65.g, e65.b)
         else
         none)
        else
        none)
       else
       some (0, 0, 0)) : Option (Int × Int × Int)).bind (fun (p66 : Int × Int × Int) =>
      let b67 : Int := p66.1;
      let b68 : Int := p66.2.1;
      let b69 : Int := p66.2.2;
      (colour_Paint_F fuel b59 b60 b61 b62 b63 e64.pix_w e64.pix_h e64.pix_pix e64.x e64.y b67 b68 b69).bind fun (q70 : Int × Int × (List Int) × (List Int) × (List Int) × Int) =>
      let tr71 : Int := q70.1;
      let tr72 : Int := q70.2.1;
      let tr73 : List Int := q70.2.2.1;
      let tr74 : List Int := q70.2.2.2.1;
      let tr75 : List Int := q70.2.2.2.2.1;
      let tr76 : Int := q70.2.2.2.2.2;
      let t77 : Int := IntKind.i64.wrap (v58 + 1);
      some (Sum.inl (t77, tr71, tr72, tr73, tr74, tr75)))
     else
     none)
    else
    some (Sum.inr (b59, b60, b61, b62, b63)))
theorem layer_Render_loop14_F_le (fuel : Nat) (l6 : List Rgb) (l7 : List Int) (tr55 : List Placed) (s57 : Int × Int × Int × (List Int) × (List Int) × (List Int)) : Ole (layer_Render_loop14_F fuel l6 l7 tr55 s57) (layer_Render_loop14 l6 l7 tr55 s57) := by
  unfold layer_Render_loop14_F layer_Render_loop14; try dsimp only
  repeat' first | with_reducible exact Ole.refl _ | refine Ole.ite ?_ ?_ | with_reducible exact colour_New_F_le .. | with_reducible exact colour_Paint_F_le .. | with_reducible exact layer_Valid_F_le .. | with_reducible exact layer_back_F_le .. | with_reducible exact shape_Components_F_le .. | with_reducible exact layer_Render_loop7_F_le .. | refine Ole.iter fun _ => ?_ | refine Ole.elim (fun _ => ?_) (fun _ => ?_) | refine Ole.bind ?_ fun _ => ?_
noncomputable def layer_Render_F (fuel : Nat) (l1 : Int) (l2 : Int) (l3 : Int) (l4 : Int) (l5 : List Int) (l6 : List Rgb) (l7 : List Int) (l8 : Int) (l9 : List (List Int)) : Option (Int × Int × (List Int) × (List Int) × (List Int) × Int) :=
   (layer_Valid_F fuel l1 l2 l3 l4 l5 l6 l7 l8 l9).bind fun (q10 : Bool) =>
   (if (!q10) = true then
    some (0, 0, [], [], [], 85)
    else
    (colour_New_F fuel l1 l2 255 255 255).bind fun (q11 : Int × Int × Int × (List Int) × (List Int) × (List Int)) =>
    let tr12 : Int := q11.1;
    let tr13 : Int := q11.2.1;
    let tr14 : Int := q11.2.2.1;
    let tr15 : List Int := q11.2.2.2.1;
    let tr16 : List Int := q11.2.2.2.2.1;
    let tr17 : List Int := q11.2.2.2.2.2;
    ((if (decide (((l9.length : Nat) : Int) > 0)) = true then
      (layer_back_F fuel l1 l2 l3 l4 l5 l6 l7 l8 l9).bind fun (q18 : Int × Int × (List Int) × (List Int) × (List Int) × Bool) =>
      let tr19 : Int := q18.1;
      let tr20 : Int := q18.2.1;
      let tr21 : List Int := q18.2.2.1;
      let tr22 : List Int := q18.2.2.2.1;
      let tr23 : List Int := q18.2.2.2.2.1;
      let tr24 : Bool := q18.2.2.2.2.2;
      (iter (layer_Render_loop7_F fuel l1 l8 tr15 tr19 tr21 tr22 tr23) fuel (0, tr15, tr16, tr17)).bind (fun (p46 : (List Int) × (List Int) × (List Int)) =>
       let b47 : List Int := p46.1;
       let b48 : List Int := p46.2.1;
       let b49 : List Int := p46.2.2;
       some (b47, b48, b49))
      else
      some (tr15, tr16, tr17)) : Option ((List Int) × (List Int) × (List Int))).bind (fun (p50 : (List Int) × (List Int) × (List Int)) =>
     let b51 : List Int := p50.1;
     let b52 : List Int := p50.2.1;
     let b53 : List Int := p50.2.2;
     (shape_Components_F fuel l3 l4 l5).bind fun (q54 : (List Placed) × Int) =>
     let tr55 : List Placed := q54.1;
     let tr56 : Int := q54.2;
     (iter (layer_Render_loop14_F fuel l6 l7 tr55) fuel (0, tr12, tr13, b51, b52, b53)).bind (fun (p86 : Int × Int × (List Int) × (List Int) × (List Int)) =>
      let b87 : Int := p86.1;
      let b88 : Int := p86.2.1;
      let b89 : List Int := p86.2.2.1;
      let b90 : List Int := p86.2.2.2.1;
      let b91 : List Int := p86.2.2.2.2;
      some (b87, b88, b89, b90, b91, 0))))
theorem layer_Render_F_le (fuel : Nat) (l1 : Int) (l2 : Int) (l3 : Int) (l4 : Int) (l5 : List Int) (l6 : List Rgb) (l7 : List Int) (l8 : Int) (l9 : List (List Int)) : Ole (layer_Render_F fuel l1 l2 l3 l4 l5 l6 l7 l8 l9) (layer_Render l1 l2 l3 l4 l5 l6 l7 l8 l9) := by
  rw [layer_Render_eq]; unfold layer_Render_F; try dsimp only
  repeat' first | with_reducible exact Ole.refl _ | refine Ole.ite ?_ ?_ | with_reducible exact colour_New_F_le .. | with_reducible exact colour_Paint_F_le .. | with_reducible exact layer_Valid_F_le .. | with_reducible exact layer_back_F_le .. | with_reducible exact shape_Components_F_le .. | with_reducible exact layer_Render_loop7_F_le .. | with_reducible exact layer_Render_loop14_F_le .. | refine Ole.iter fun _ => ?_ | refine Ole.elim (fun _ => ?_) (fun _ => ?_) | refine Ole.bind ?_ fun _ => ?_
noncomputable def ref19_Of_loop3_F (fuel : Nat) (w1 : Int) (h2 : Int) (r3 : Int) (g4 : Int) (b5 : Int) (s6 : Int × Int × Int × (List Int) × (List Int) × (List Int)) : Option ((Int × Int × Int × (List Int) × (List Int) × (List Int)) ⊕ (Int × Int × (List Int) × (List Int) × (List Int))) :=
   let k7 : Int := s6.1;
   let b8 : Int := s6.2.1;
   let b9 : Int := s6.2.2.1;
   let b10 : List Int := s6.2.2.2.1;
   let b11 : List Int := s6.2.2.2.2.1;
   let b12 : List Int := s6.2.2.2.2.2;
   let t13 : Int := IntKind.i64.wrap (w1 * h2);
   (if (decide (k7 < t13)) = true then
    (if (b10.length + ([r3] : List Int).length) * 8 ≤ 140737488355328 then
     let t14 : List Int := b10 ++ [r3];
     (if (b11.length + ([g4] : List Int).length) * 8 ≤ 140737488355328 then
      let t15 : List Int := b11 ++ [g4];
      (if (b12.length + ([b5] : List Int).length) * 8 ≤ 140737488355328 then
       let t16 : List Int := b12 ++ [b5];
       let t17 : Int := IntKind.i64.wrap (k7 + 1);
       some (Sum.inl (t17, b8, b9, t14, t15, t16))
       else
       none)
      else
      none)
     else
     none)
    else
    some (Sum.inr (b8, b9, b10, b11, b12)))
theorem ref19_Of_loop3_F_le (fuel : Nat) (w1 : Int) (h2 : Int) (r3 : Int) (g4 : Int) (b5 : Int) (s6 : Int × Int × Int × (List Int) × (List Int) × (List Int)) : Ole (ref19_Of_loop3_F fuel w1 h2 r3 g4 b5 s6) (ref19_Of_loop3 w1 h2 r3 g4 b5 s6) := by
  unfold ref19_Of_loop3_F ref19_Of_loop3; try dsimp only
  repeat' first | with_reducible exact Ole.refl _ | refine Ole.ite ?_ ?_ | refine Ole.iter fun _ => ?_ | refine Ole.elim (fun _ => ?_) (fun _ => ?_) | refine Ole.bind ?_ fun _ => ?_
noncomputable def ref19_Of_F (fuel : Nat) (w1 : Int) (h2 : Int) (r3 : Int) (g4 : Int) (b5 : Int) : Option (Int × Int × (List Int) × (List Int) × (List Int)) :=
   (iter (ref19_Of_loop3_F fuel w1 h2 r3 g4 b5) fuel (0, w1, h2, [], [], [])).bind (fun (p18 : Int × Int × (List Int) × (List Int) × (List Int)) =>
    let b19 : Int := p18.1;
    let b20 : Int := p18.2.1;
    let b21 : List Int := p18.2.2.1;
    let b22 : List Int := p18.2.2.2.1;
    let b23 : List Int := p18.2.2.2.2;
    some (b19, b20, b21, b22, b23))
theorem ref19_Of_F_le (fuel : Nat) (w1 : Int) (h2 : Int) (r3 : Int) (g4 : Int) (b5 : Int) : Ole (ref19_Of_F fuel w1 h2 r3 g4 b5) (ref19_Of w1 h2 r3 g4 b5) := by
  rw [ref19_Of_eq]; unfold ref19_Of_F; try dsimp only
  repeat' first | with_reducible exact Ole.refl _ | refine Ole.ite ?_ ?_ | with_reducible exact ref19_Of_loop3_F_le .. | refine Ole.iter fun _ => ?_ | refine Ole.elim (fun _ => ?_) (fun _ => ?_) | refine Ole.bind ?_ fun _ => ?_
noncomputable def ref19_Same_loop4_F (fuel : Nat) (a3 : List Int) (b8 : List Int) (k12 : Int) : Option ((Int) ⊕ ((Unit) ⊕ (Bool))) :=
   (if (decide (k12 < ((a3.length : Nat) : Int))) = true then
    (if 0 ≤ k12 ∧ k12 < (a3.length : Int) then
     (if 0 ≤ k12 ∧ k12 < (b8.length : Int) then
      (if (!decide (rd a3 k12 = rd b8 k12)) = true then
       some (Sum.inr (Sum.inr false))
       else
       let t13 : Int := IntKind.i64.wrap (k12 + 1);
       some (Sum.inl t13))
      else
      none)
     else
     none)
    else
    some (Sum.inr (Sum.inl ())))
theorem ref19_Same_loop4_F_le (fuel : Nat) (a3 : List Int) (b8 : List Int) (k12 : Int) : Ole (ref19_Same_loop4_F fuel a3 b8 k12) (ref19_Same_loop4 a3 b8 k12) := by
  unfold ref19_Same_loop4_F ref19_Same_loop4; try dsimp only
  repeat' first | with_reducible exact Ole.refl _ | refine Ole.ite ?_ ?_ | refine Ole.iter fun _ => ?_ | refine Ole.elim (fun _ => ?_) (fun _ => ?_) | refine Ole.bind ?_ fun _ => ?_
noncomputable def ref19_Same_loop9_F (fuel : Nat) (a4 : List Int) (b9 : List Int) (k20 : Int) : Option ((Int) ⊕ ((Unit) ⊕ (Bool))) :=
   (if (decide (k20 < ((a4.length : Nat) : Int))) = true then
    (if 0 ≤ k20 ∧ k20 < (a4.length : Int) then
     (if 0 ≤ k20 ∧ k20 < (b9.length : Int) then
      (if (!decide (rd a4 k20 = rd b9 k20)) = true then
       some (Sum.inr (Sum.inr false))
       else
       let t21 : Int := IntKind.i64.wrap (k20 + 1);
       some (Sum.inl t21))
      else
      none)
     else
     none)
    else
    some (Sum.inr (Sum.inl ())))
theorem ref19_Same_loop9_F_le (fuel : Nat) (a4 : List Int) (b9 : List Int) (k20 : Int) : Ole (ref19_Same_loop9_F fuel a4 b9 k20) (ref19_Same_loop9 a4 b9 k20) := by
  unfold ref19_Same_loop9_F ref19_Same_loop9; try dsimp only
  repeat' first | with_reducible exact Ole.refl _ | refine Ole.ite ?_ ?_ | with_reducible exact ref19_Same_loop4_F_le .. | refine Ole.iter fun _ => ?_ | refine Ole.elim (fun _ => ?_) (fun _ => ?_) | refine Ole.bind ?_ fun _ => ?_
noncomputable def ref19_Same_loop14_F (fuel : Nat) (a5 : List Int) (b10 : List Int) (k28 : Int) : Option ((Int) ⊕ ((Unit) ⊕ (Bool))) :=
   (if (decide (k28 < ((a5.length : Nat) : Int))) = true then
    (if 0 ≤ k28 ∧ k28 < (a5.length : Int) then
     (if 0 ≤ k28 ∧ k28 < (b10.length : Int) then
      (if (!decide (rd a5 k28 = rd b10 k28)) = true then
       some (Sum.inr (Sum.inr false))
       else
       let t29 : Int := IntKind.i64.wrap (k28 + 1);
       some (Sum.inl t29))
      else
      none)
     else
     none)
    else
    some (Sum.inr (Sum.inl ())))
theorem ref19_Same_loop14_F_le (fuel : Nat) (a5 : List Int) (b10 : List Int) (k28 : Int) : Ole (ref19_Same_loop14_F fuel a5 b10 k28) (ref19_Same_loop14 a5 b10 k28) := by
  unfold ref19_Same_loop14_F ref19_Same_loop14; try dsimp only
  repeat' first | with_reducible exact Ole.refl _ | refine Ole.ite ?_ ?_ | with_reducible exact ref19_Same_loop4_F_le .. | with_reducible exact ref19_Same_loop9_F_le .. | refine Ole.iter fun _ => ?_ | refine Ole.elim (fun _ => ?_) (fun _ => ?_) | refine Ole.bind ?_ fun _ => ?_
noncomputable def ref19_Same_F (fuel : Nat) (a1 : Int) (a2 : Int) (a3 : List Int) (a4 : List Int) (a5 : List Int) (b6 : Int) (b7 : Int) (b8 : List Int) (b9 : List Int) (b10 : List Int) : Option Bool :=
   ((if (!decide (a1 = b6)) = true then
     some true
     else
     (if (!decide (a2 = b7)) = true then
      some true
      else
      (if (!decide (((a3.length : Nat) : Int) = ((b8.length : Nat) : Int))) = true then
       some true
       else
       (if (!decide (((a4.length : Nat) : Int) = ((b9.length : Nat) : Int))) = true then
        some true
        else
        some (!decide (((a5.length : Nat) : Int) = ((b10.length : Nat) : Int))))))) : Option (Bool)).bind (fun (v11 : Bool) =>
    (if v11 = true then
     some false
     else
     (iter (ref19_Same_loop4_F fuel a3 b8) fuel 0).bind (fun (o19 : (Unit) ⊕ (Bool)) =>
      (Sum.elim (fun (p17 : Unit) =>
        (iter (ref19_Same_loop9_F fuel a4 b9) fuel 0).bind (fun (o27 : (Unit) ⊕ (Bool)) =>
         (Sum.elim (fun (p25 : Unit) =>
           (iter (ref19_Same_loop14_F fuel a5 b10) fuel 0).bind (fun (o35 : (Unit) ⊕ (Bool)) =>
            (Sum.elim (fun (p33 : Unit) =>
              some true)
             (fun (v34 : Bool) =>
              some v34) o35)))
          (fun (v26 : Bool) =>
           some v26) o27)))
       (fun (v18 : Bool) =>
        some v18) o19))))
theorem ref19_Same_F_le (fuel : Nat) (a1 : Int) (a2 : Int) (a3 : List Int) (a4 : List Int) (a5 : List Int) (b6 : Int) (b7 : Int) (b8 : List Int) (b9 : List Int) (b10 : List Int) : Ole (ref19_Same_F fuel a1 a2 a3 a4 a5 b6 b7 b8 b9 b10) (ref19_Same a1 a2 a3 a4 a5 b6 b7 b8 b9 b10) := by
  rw [ref19_Same_eq]; unfold ref19_Same_F; try dsimp only
  repeat' first | with_reducible exact Ole.refl _ | refine Ole.ite ?_ ?_ | with_reducible exact ref19_Same_loop4_F_le .. | with_reducible exact ref19_Same_loop9_F_le .. | with_reducible exact ref19_Same_loop14_F_le .. | refine Ole.iter fun _ => ?_ | refine Ole.elim (fun _ => ?_) (fun _ => ?_) | refine Ole.bind ?_ fun _ => ?_
noncomputable def law22_Awake_F (fuel : Nat) : Option Bool :=
   (layer_Render_F fuel 2 1 0 0 [] [] [] 1 []).bind fun (q1 : Int × Int × (List Int) × (List Int) × (List Int) × Int) =>
   let tr2 : Int := q1.1;
   let tr3 : Int := q1.2.1;
   let tr4 : List Int := q1.2.2.1;
   let tr5 : List Int := q1.2.2.2.1;
   let tr6 : List Int := q1.2.2.2.2.1;
   let tr7 : Int := q1.2.2.2.2.2;
   (if (decide (tr7 = 0)) = true then
    (ref19_Of_F fuel 2 1 255 255 255).bind fun (q8 : Int × Int × (List Int) × (List Int) × (List Int)) =>
    let tr9 : Int := q8.1;
    let tr10 : Int := q8.2.1;
    let tr11 : List Int := q8.2.2.1;
    let tr12 : List Int := q8.2.2.2.1;
    let tr13 : List Int := q8.2.2.2.2;
    (ref19_Same_F fuel tr2 tr3 tr4 tr5 tr6 tr9 tr10 tr11 tr12 tr13).bind fun (q14 : Bool) =>
    (if q14 = true then
     (layer_Valid_F fuel 2 1 0 0 [] [] [] 1 []).bind fun (q15 : Bool) =>
     some q15
     else
     some false)
    else
    some false)
theorem law22_Awake_F_le (fuel : Nat) : Ole (law22_Awake_F fuel) (law22_Awake) := by
  rw [law22_Awake_eq]; unfold law22_Awake_F; try dsimp only
  repeat' first | with_reducible exact Ole.refl _ | refine Ole.ite ?_ ?_ | with_reducible exact layer_Render_F_le .. | with_reducible exact layer_Valid_F_le .. | with_reducible exact ref19_Of_F_le .. | with_reducible exact ref19_Same_F_le .. | refine Ole.iter fun _ => ?_ | refine Ole.elim (fun _ => ?_) (fun _ => ?_) | refine Ole.bind ?_ fun _ => ?_
end
end Go.Proofs.YtmdlomednkfcoaaGreat.P
