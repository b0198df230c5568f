/- The equations of functions. Printed by wip/tool/vsym.py. -/
import Derived.Test.YtkccnhkhjncpkaaGreatG
import Derived.Test.YtkccnhkhjncpkaaGreatLib
namespace Go.Proofs.YtkccnhkhjncpkaaGreat.P
open Go Go.Proofs.YtkccnhkhjncpkaaGreat.V
set_option linter.unusedVariables false
set_option linter.unusedSimpArgs false
set_option maxRecDepth 100000
noncomputable section
theorem coder_next_eq (kind1 : Int) (s2 : Int) (bit3 : Int) : coder_next kind1 s2 bit3 =
   (if (decide (kind1 = 1)) = true then
    let t4 : Int := IntKind.i64.wrap (s2.tdiv 256);
    let t5 : Int := s2.tmod 256;
    (if 0 ≤ bit3 ∧ bit3 < ((2 : Nat) : Int) then
     let t6 : Int := rd [t4, t5] bit3;
     ((if (decide (t6 = 255)) = true then
       (if 0 ≤ (0 : Int) ∧ (0 : Int) < ((2 : Nat) : Int) then
        let t7 : Int := IntKind.i64.wrap (t4.tdiv 2);
        (if 0 ≤ (1 : Int) ∧ (1 : Int) < ((2 : Nat) : Int) then
         let t8 : Int := IntKind.i64.wrap (t5.tdiv 2);
         (if 0 ≤ (0 : Int) ∧ (0 : Int) < ((2 : Nat) : Int) then
          (if 0 ≤ (1 : Int) ∧ (1 : Int) < ((2 : Nat) : Int) then
           some (t7, t8)
           else
           none)
          else
          none)
         else
         none)
        else
        none)
       else
       some (t4, t5)) : Option (Int × Int)).bind (fun (p9 : Int × Int) =>
      let b10 : Int := p9.1;
      let b11 : Int := p9.2;
      (if 0 ≤ bit3 ∧ bit3 < ((2 : Nat) : Int) then
       let t12 : Int := rd [b10, b11] bit3;
       let t13 : Int := IntKind.i64.wrap (t12 + 1);
       (if 0 ≤ bit3 ∧ bit3 < ((2 : Nat) : Int) then
        let c14 : Int := if bit3 = 0 then t13 else b10;
        let c15 : Int := if bit3 = 1 then t13 else b11;
        (if 0 ≤ (0 : Int) ∧ (0 : Int) < ((2 : Nat) : Int) then
         let t16 : Int := IntKind.i64.wrap (256 * c14);
         (if 0 ≤ (1 : Int) ∧ (1 : Int) < ((2 : Nat) : Int) then
          let t17 : Int := IntKind.i64.wrap (t16 + c15);
          some t17
          else
          none)
         else
         none)
        else
        none)
       else
       none))
     else
     none)
    else
    let t18 : Int := IntKind.i64.wrap (s2.tdiv 32);
    let t19 : Int := s2.tmod 32;
    (if (decide (bit3 = t18)) = true then
     let t20 : Int := IntKind.i64.wrap (t19 + 1);
     let t21 : Int := imin t20 31;
     let t22 : Int := IntKind.i64.wrap (32 * t18);
     let t23 : Int := IntKind.i64.wrap (t22 + t21);
     some t23
     else
     (if (decide (t19 = 0)) = true then
      let t24 : Int := IntKind.i64.wrap (32 * bit3);
      let t25 : Int := IntKind.i64.wrap (t24 + t19);
      some t25
      else
      let t26 : Int := IntKind.i64.wrap (t19.tdiv 4);
      let t27 : Int := IntKind.i64.wrap (1 + t26);
      let t28 : Int := IntKind.i64.wrap (t19 - t27);
      let t29 : Int := IntKind.i64.wrap (32 * t18);
      let t30 : Int := IntKind.i64.wrap (t29 + t28);
      some t30))) := (call_eq ..).trans (by kernel_rfl)

theorem ref11_isPlace_eq (n1 : Int) : ref11_isPlace n1 =
   (if (decide (n1 ≥ (-1048576))) = true then
    some (decide (n1 ≤ 1048576))
    else
    some false) := (call_eq ..).trans (by kernel_rfl)

noncomputable def ref02_unlikely_loop3 (k1 : Int) (s2 : Int × Int) : Option ((Int × Int) ⊕ (Int)) :=
   let q3 : Int := s2.1;
   let i4 : Int := s2.2;
   (if (decide (i4 < k1)) = true then
    let t5 : Int := IntKind.i64.wrap (q3.tdiv 8);
    let t6 : Int := IntKind.i64.wrap (q3 - t5);
    let t7 : Int := IntKind.i64.wrap (i4 + 1);
    some (Sum.inl (t6, t7))
    else
    some (Sum.inr q3))
noncomputable def ref02_unlikely_loop3_step (i8 : Nat) (x9 : Nat) (s10 : Int) : Option ((Int) ⊕ (Int)) :=
   let t5 : Int := IntKind.i64.wrap (s10.tdiv 8);
   let t6 : Int := IntKind.i64.wrap (s10 - t5);
   some (Sum.inl (t6))
theorem ref02_unlikely_loop3_overAt (k1 : Int) (hl : (List.range (k1).toNat).length ≤ 9223372036854775807) (k : Nat) (s10 : Int) (hk : k ≤ (List.range (k1).toNat).length) : loop (ref02_unlikely_loop3 k1) ((s10, ((k : Nat) : Int)) : Int × Int) =
    overL (ref02_unlikely_loop3_step) (fun (s10 : Int) => some s10) k ((List.range (k1).toNat).drop k) s10 := by
  refine loop_over (List.range (k1).toNat) (fun n (s : Int) => ((s, ((n : Nat) : Int)) : Int × Int)) _ _ (fun s => ?_) (fun i x s h => ?_) k s10 hk
  · have h1 : ¬ (((List.range (k1).toNat).length : Nat) : Int) < k1 := by simp only [List.length_range]; omega
    unfold ref02_unlikely_loop3; simp only [h1, decide_false, Bool.false_eq_true, if_false, Option.map_some]
  · have hlt := lt_len_of_get h
    rw [List.length_range] at hlt hl
    rw [List.getElem?_range hlt] at h
    cases h
    have h1 : ((i : Nat) : Int) < k1 := by omega
    have h0 : (0 : Int) ≤ ((i : Nat) : Int) := by omega
    have hw : IntKind.i64.wrap (((i : Nat) : Int) + 1) = (((i + 1 : Nat) : Nat) : Int) := w64 (by omega)
    unfold ref02_unlikely_loop3 ref02_unlikely_loop3_step
    simp only [h1, h0, hw, decide_true, if_true, and_self, true_and, Int.toNat_natCast, Option.bind_some, Option.map_bind, Function.comp_def, map_ite, map_elim, Option.map_some, Option.map_none]
theorem ref02_unlikely_loop3_over (k1 : Int) (hl : (List.range (k1).toNat).length ≤ 9223372036854775807) (s10 : Int) : loop (ref02_unlikely_loop3 k1) ((s10, 0) : Int × Int) =
    overL (ref02_unlikely_loop3_step) (fun (s10 : Int) => some s10) 0 (List.range (k1).toNat) s10 := ref02_unlikely_loop3_overAt k1 hl 0 s10 (Nat.zero_le _)

theorem ref02_unlikely_eq (k1 : Int) : ref02_unlikely k1 =
   (loop (ref02_unlikely_loop3 k1) (2048, 0)).bind (fun (q11 : Int) =>
    some q11) := (call_eq ..).trans (by kernel_rfl)

theorem ref02_Interval_Mid_eq (x1 : Int) (x2 : Int) (p3 : Int) : ref02_Interval_Mid x1 x2 p3 =
   let t4 : Int := IntKind.u64.wrap (x2 - x1);
   let t5 : Int := IntKind.u64.wrap (t4.tdiv 4096);
   let t6 : Int := IntKind.u64.wrap p3;
   let t7 : Int := IntKind.u64.wrap (t5 * t6);
   let t8 : Int := IntKind.u64.wrap (x1 + t7);
   let t9 : Int := t4.tmod 4096;
   let t10 : Int := IntKind.u64.wrap p3;
   let t11 : Int := IntKind.u64.wrap (t9 * t10);
   let t12 : Int := IntKind.u64.wrap (t11.tdiv 4096);
   let t13 : Int := IntKind.u64.wrap (t8 + t12);
   some t13 := (call_eq ..).trans (by kernel_rfl)
end
end Go.Proofs.YtkccnhkhjncpkaaGreat.P
