/- The equations of functions. Printed by wip/tool/vsym.py. -/
import Derived.Test.YtgffdmgidnnedaaGreatG
import Derived.Test.YtgffdmgidnnedaaGreatLib
namespace Go.Proofs.YtgffdmgidnnedaaGreat.P
open Go Go.Proofs.YtgffdmgidnnedaaGreat.V
set_option linter.unusedVariables false
set_option linter.unusedSimpArgs false
set_option maxRecDepth 100000
noncomputable section
noncomputable def runs_read_loop8 (w2 h3 : Int) (s20 : (List Int) × Int × Int × Int × (List Line) × (List (List Int)) × (List Line) × (List (List Int)) × (List Line) × (List (List Int)) × (List (List Int)) × (List Int) × Int × (List Int)) : Option (((List Int) × Int × Int × Int × (List Line) × (List (List Int)) × (List Line) × (List (List Int)) × (List Line) × (List (List Int)) × (List (List Int)) × (List Int) × Int × (List Int)) ⊕ ((Int × Int × (List Line) × (List (List Int)) × (List Line) × (List (List Int)) × (List Line) × (List (List Int)) × (List (List Int)) × (List Int) × Int × (List Int)) ⊕ (Int × Int × Int × Int × (List Line) × (List (List Int)) × (List Line) × (List (List Int)) × (List Line) × (List (List Int)) × (List (List Int)) × (List Int) × Int × (List Int)))) :=
 let b29 := s20.2.2.2.2.2.2.2.2.1;
 let b30 := s20.2.2.2.2.2.2.2.2.2.1;
 let b31 := s20.2.2.2.2.2.2.2.2.2.2.1;
 let b32 := s20.2.2.2.2.2.2.2.2.2.2.2.1;
 let b33 := s20.2.2.2.2.2.2.2.2.2.2.2.2.1;
 let b34 := s20.2.2.2.2.2.2.2.2.2.2.2.2.2;
 (if (decide (s20.2.1 < h3)) = true then
 (runs_reader_two w2 s20.1 s20.2.2.2.2.1 s20.2.2.2.2.2.1 s20.2.2.2.2.2.2.1 s20.2.2.2.2.2.2.2.1 b29 b30 b31 b32 b33).bind fun q35 =>
 let tr45 := q35.2.2.2.2.2.2.2.2.2.1;
 let tr46 := q35.2.2.2.2.2.2.2.2.2.2;
 (if (!decide (q35.2.1 = 0)) = true then
 some (Sum.inr (Sum.inr (0, q35.2.1, 0, 0, q35.2.2.1, q35.2.2.2.1, q35.2.2.2.2.1, q35.2.2.2.2.2.1, q35.2.2.2.2.2.2.1, q35.2.2.2.2.2.2.2.1, q35.2.2.2.2.2.2.2.2.1, tr45, tr46, [])))
 else
 (if (b34.length + q35.1.length) * 1 ≤ 140737488355328 then
 let t47 : List Int := b34 ++ q35.1;
 let t48 := IntKind.i64.wrap (s20.2.1 + 1);
 some (Sum.inl (q35.1, t48, s20.2.2.1, s20.2.2.2.1, q35.2.2.1, q35.2.2.2.1, q35.2.2.2.2.1, q35.2.2.2.2.2.1, q35.2.2.2.2.2.2.1, q35.2.2.2.2.2.2.2.1, q35.2.2.2.2.2.2.2.2.1, tr45, tr46, t47))
 else
 none))
 else
 some (Sum.inr (Sum.inl (s20.2.2.1, s20.2.2.2.1, s20.2.2.2.2.1, s20.2.2.2.2.2.1, s20.2.2.2.2.2.2.1, s20.2.2.2.2.2.2.2.1, b29, b30, b31, b32, b33, b34))))

theorem runs_read_eq (b1 : List Int) (w2 h3 : Int) : runs_read b1 w2 h3 =
 (bitmap_New w2 h3 0).bind fun q4 =>
 (if (!decide (q4.2.2.1 = 0)) = true then
 some (0, 0, [], 0, 2)
 else
 (runs_newReader b1).bind fun q9 =>
 (if 0 ≤ w2 ∧ w2 ≤ w2 ∧ ((1 : Nat) : Int) * w2 ≤ 281474976710656 then
 let t19 : List Int := List.replicate w2.toNat 0;
 (loop (runs_read_loop8 w2 h3) (t19, 0, w2, h3, q9.1, q9.2.1, q9.2.2.1, q9.2.2.2.1, q9.2.2.2.2.1, q9.2.2.2.2.2.1, q9.2.2.2.2.2.2.1, q9.2.2.2.2.2.2.2.1, q9.2.2.2.2.2.2.2.2, [])).bind (fun o93 =>
 (Sum.elim (fun (p65 : Int × Int × (List Line) × (List (List Int)) × (List Line) × (List (List Int)) × (List Line) × (List (List Int)) × (List (List Int)) × (List Int) × Int × (List Int)) =>
 (bits_Reader_At p65.2.2.2.2.2.2.2.2.2.1 p65.2.2.2.2.2.2.2.2.2.2.1).bind fun q94 =>
 some (p65.1, p65.2.1, p65.2.2.2.2.2.2.2.2.2.2.2, q94.1, 0))
 (fun (p78 : Int × Int × Int × Int × (List Line) × (List (List Int)) × (List Line) × (List (List Int)) × (List Line) × (List (List Int)) × (List (List Int)) × (List Int) × Int × (List Int)) =>
 some (p78.2.2.1, p78.2.2.2.1, p78.2.2.2.2.2.2.2.2.2.2.2.2.2, p78.1, p78.2.1)) o93))
 else
 none)) := (call_eq ..).trans (by kernel_rfl)

noncomputable def runs_read_2_loop8 (w2 h3 : Int) (s20 : (List Int) × Int × Int × Int × (List Line) × (List (List Int)) × (List Line) × (List (List Int)) × (List Line) × (List (List Int)) × (List (List Int)) × (List Int) × Int × (List Int)) : Option (((List Int) × Int × Int × Int × (List Line) × (List (List Int)) × (List Line) × (List (List Int)) × (List Line) × (List (List Int)) × (List (List Int)) × (List Int) × Int × (List Int)) ⊕ ((Int × Int × (List Line) × (List (List Int)) × (List Line) × (List (List Int)) × (List Line) × (List (List Int)) × (List (List Int)) × (List Int) × Int × (List Int)) ⊕ (Int × Int × Int × Int × (List Line) × (List (List Int)) × (List Line) × (List (List Int)) × (List Line) × (List (List Int)) × (List (List Int)) × (List Int) × Int × (List Int)))) :=
 let b29 := s20.2.2.2.2.2.2.2.2.1;
 let b30 := s20.2.2.2.2.2.2.2.2.2.1;
 let b31 := s20.2.2.2.2.2.2.2.2.2.2.1;
 let b32 := s20.2.2.2.2.2.2.2.2.2.2.2.1;
 let b33 := s20.2.2.2.2.2.2.2.2.2.2.2.2.1;
 let b34 := s20.2.2.2.2.2.2.2.2.2.2.2.2.2;
 (if (decide (s20.2.1 < h3)) = true then
 (runs_reader_one w2 s20.1 s20.2.2.2.2.1 s20.2.2.2.2.2.1 s20.2.2.2.2.2.2.1 s20.2.2.2.2.2.2.2.1 b29 b30 b31 b32 b33).bind fun q35 =>
 let tr45 := q35.2.2.2.2.2.2.2.2.2.1;
 let tr46 := q35.2.2.2.2.2.2.2.2.2.2;
 (if (!decide (q35.2.1 = 0)) = true then
 some (Sum.inr (Sum.inr (0, q35.2.1, 0, 0, q35.2.2.1, q35.2.2.2.1, q35.2.2.2.2.1, q35.2.2.2.2.2.1, q35.2.2.2.2.2.2.1, q35.2.2.2.2.2.2.2.1, q35.2.2.2.2.2.2.2.2.1, tr45, tr46, [])))
 else
 (if (b34.length + q35.1.length) * 1 ≤ 140737488355328 then
 let t47 : List Int := b34 ++ q35.1;
 let t48 := IntKind.i64.wrap (s20.2.1 + 1);
 some (Sum.inl (q35.1, t48, s20.2.2.1, s20.2.2.2.1, q35.2.2.1, q35.2.2.2.1, q35.2.2.2.2.1, q35.2.2.2.2.2.1, q35.2.2.2.2.2.2.1, q35.2.2.2.2.2.2.2.1, q35.2.2.2.2.2.2.2.2.1, tr45, tr46, t47))
 else
 none))
 else
 some (Sum.inr (Sum.inl (s20.2.2.1, s20.2.2.2.1, s20.2.2.2.2.1, s20.2.2.2.2.2.1, s20.2.2.2.2.2.2.1, s20.2.2.2.2.2.2.2.1, b29, b30, b31, b32, b33, b34))))

theorem runs_read_2_eq (b1 : List Int) (w2 h3 : Int) : runs_read_2 b1 w2 h3 =
 (bitmap_New w2 h3 0).bind fun q4 =>
 (if (!decide (q4.2.2.1 = 0)) = true then
 some (0, 0, [], 0, 2)
 else
 (runs_newReader b1).bind fun q9 =>
 (if 0 ≤ w2 ∧ w2 ≤ w2 ∧ ((1 : Nat) : Int) * w2 ≤ 281474976710656 then
 let t19 : List Int := List.replicate w2.toNat 0;
 (loop (runs_read_2_loop8 w2 h3) (t19, 0, w2, h3, q9.1, q9.2.1, q9.2.2.1, q9.2.2.2.1, q9.2.2.2.2.1, q9.2.2.2.2.2.1, q9.2.2.2.2.2.2.1, q9.2.2.2.2.2.2.2.1, q9.2.2.2.2.2.2.2.2, [])).bind (fun o93 =>
 (Sum.elim (fun (p65 : Int × Int × (List Line) × (List (List Int)) × (List Line) × (List (List Int)) × (List Line) × (List (List Int)) × (List (List Int)) × (List Int) × Int × (List Int)) =>
 (bits_Reader_At p65.2.2.2.2.2.2.2.2.2.1 p65.2.2.2.2.2.2.2.2.2.2.1).bind fun q94 =>
 some (p65.1, p65.2.1, p65.2.2.2.2.2.2.2.2.2.2.2, q94.1, 0))
 (fun (p78 : Int × Int × Int × Int × (List Line) × (List (List Int)) × (List Line) × (List (List Int)) × (List Line) × (List (List Int)) × (List (List Int)) × (List Int) × Int × (List Int)) =>
 some (p78.2.2.1, p78.2.2.2.1, p78.2.2.2.2.2.2.2.2.2.2.2.2.2, p78.1, p78.2.1)) o93))
 else
 none)) := (call_eq ..).trans (by kernel_rfl)

noncomputable def prefix_weight_loop2 (a1 : List Line) (s2 : Int × Int × Int × Int) : Option ((Int × Int × Int × Int) ⊕ (Int × Int × Int)) :=
 let v6 := s2.2.2.2;
 (if (decide (v6 < ((a1.length : Nat) : Int))) = true then
 (if 0 ≤ v6 then
 (a1[v6.toNat]?).bind fun e7 =>
 (if (decide (e7.length = 0)) = true then
 let t8 := IntKind.i64.wrap (v6 + 1);
 some (Sum.inl (s2.1, s2.2.1, s2.2.2.1, t8))
 else
 let t9 := IntKind.i64.wrap (15 - e7.length);
 (if t9 < 0 then
 none
 else
 let t10 := ishl .i64 1 t9;
 let t11 := IntKind.i64.wrap (s2.1 + t10);
 let t12 := IntKind.i64.wrap (s2.2.1 + 1);
 (if (decide (e7.kind = 2)) = true then
 let t13 := IntKind.i64.wrap (s2.2.2.1 + 1);
 let t14 := IntKind.i64.wrap (v6 + 1);
 some (Sum.inl (t11, t12, t13, t14))
 else
 let t15 := IntKind.i64.wrap (v6 + 1);
 some (Sum.inl (t11, t12, s2.2.2.1, t15)))))
 else
 none)
 else
 some (Sum.inr (s2.1, s2.2.1, s2.2.2.1)))

noncomputable def prefix_weight_b (loop : type_of% @loop) (prefix_weight_loop2 : type_of% @prefix_weight_loop2) (a1 : List Line) : Option (Int × Int × Int) :=
 (loop (prefix_weight_loop2 a1) (0, 0, 0, 0)).bind (fun p22 =>
 some (p22.1, p22.2.1, p22.2.2))
theorem prefix_weight_eq a1 : prefix_weight a1 = prefix_weight_b @loop @prefix_weight_loop2 a1 := (call_eq ..).trans (by kernel_rfl)

noncomputable def prefix_line_loop3_b (prefix_offset : type_of% @prefix_offset) (a1 : List Line) (n2 : Bool) (n3 : Int) (s4 : Int × Int × Int) : Option ((Int × Int × Int) ⊕ (Int × Int)) :=
 let v7 := s4.2.2;
 (if (decide (v7 < ((a1.length : Nat) : Int))) = true then
 (if 0 ≤ v7 then
 (a1[v7.toNat]?).bind fun e8 =>
 (prefix_offset e8.length e8.bits e8.low e8.kind n2 n3).bind fun q9 =>
 (if q9.2 = true then
 (if (decide (e8.length > 0)) = true then
 (if (decide (s4.1 < 0)) = true then
 let t12 := IntKind.i64.wrap (v7 + 1);
 some (Sum.inl (v7, q9.1, t12))
 else
 let t13 := IntKind.i64.wrap (e8.length + e8.bits);
 (if 0 ≤ s4.1 then
 (a1[s4.1.toNat]?).bind fun e14 =>
 (if 0 ≤ s4.1 then
 (a1[s4.1.toNat]?).bind fun e15 =>
 let t16 := IntKind.i64.wrap (e14.length + e15.bits);
 (if (decide (t13 < t16)) = true then
 let t17 := IntKind.i64.wrap (v7 + 1);
 some (Sum.inl (v7, q9.1, t17))
 else
 let t18 := IntKind.i64.wrap (v7 + 1);
 some (Sum.inl (s4.1, s4.2.1, t18)))
 else
 none)
 else
 none))
 else
 let t19 := IntKind.i64.wrap (v7 + 1);
 some (Sum.inl (s4.1, s4.2.1, t19)))
 else
 let t20 := IntKind.i64.wrap (v7 + 1);
 some (Sum.inl (s4.1, s4.2.1, t20)))
 else
 none)
 else
 some (Sum.inr (s4.1, s4.2.1)))
noncomputable def prefix_line_loop3 := prefix_line_loop3_b @prefix_offset

noncomputable def prefix_line_b (loop : type_of% @loop) (prefix_line_loop3 : type_of% @prefix_line_loop3) (a1 : List Line) (n2 : Bool) (n3 : Int) : Option (Int × Int) :=
 (loop (prefix_line_loop3 a1 n2 n3) ((-1), 0, 0)).bind (fun p26 =>
 some (p26.1, p26.2))
theorem prefix_line_eq a1 n2 n3 : prefix_line a1 n2 n3 = prefix_line_b @loop @prefix_line_loop3 a1 n2 n3 := (call_eq ..).trans (by kernel_rfl)

noncomputable def prefix_digits_loop3 (x1 n2 : Int) (t3 : List Int) (s4 : Int × (List Int)) : Option ((Int × (List Int)) ⊕ ((List Int))) :=
 (if (decide (s4.1 < ((t3.length : Nat) : Int))) = true then
 let t7 := IntKind.i64.wrap (n2 - 1);
 let t8 := IntKind.i64.wrap (t7 - s4.1);
 (if t8 < 0 then
 none
 else
 let t9 := ishr .i64 x1 t8;
 let t10 := iand .i64 t9 1;
 let t11 := IntKind.u8.wrap t10;
 (if 0 ≤ s4.1 ∧ s4.1 < (s4.2.length : Int) then
 let w12 : List Int := s4.2.set s4.1.toNat t11;
 let t13 := IntKind.i64.wrap (s4.1 + 1);
 some (Sum.inl (t13, w12))
 else
 none))
 else
 some (Sum.inr s4.2))

noncomputable def prefix_digits_b (loop : type_of% @loop) (prefix_digits_loop3 : type_of% @prefix_digits_loop3) (x1 n2 : Int) : Option (List Int) :=
 (if 0 ≤ n2 ∧ n2 ≤ n2 ∧ ((1 : Nat) : Int) * n2 ≤ 281474976710656 then
 let t3 : List Int := List.replicate n2.toNat 0;
 (loop (prefix_digits_loop3 x1 n2 t3) (0, t3)).bind (fun b17 =>
 some b17)
 else
 none)
theorem prefix_digits_eq x1 n2 : prefix_digits x1 n2 = prefix_digits_b @loop @prefix_digits_loop3 x1 n2 := (call_eq ..).trans (by kernel_rfl)

theorem coder_table_chance_eq (kind1 s2 : Int) : coder_table_chance kind1 s2 =
 (if (decide (kind1 = 1)) = true then
 let t3 := IntKind.i64.wrap (s2.tdiv 256);
 let t4 : Int := s2.tmod 256;
 let t5 := IntKind.i64.wrap (2 * t4);
 let t6 := IntKind.i64.wrap (t5 + 1);
 let t7 := IntKind.i64.wrap (t6 * 4096);
 let t8 := IntKind.i64.wrap (2 * t3);
 let t9 := IntKind.i64.wrap (2 * t4);
 let t10 := IntKind.i64.wrap (t8 + t9);
 let t11 := IntKind.i64.wrap (t10 + 2);
 (if t11 = 0 then
 none
 else
 let t12 := IntKind.i64.wrap (t7.tdiv t11);
 let t13 := imax t12 1;
 let t14 := imin t13 4095;
 some t14)
 else
 (if (decide (s2 ≥ 32)) = true then
 let t15 := IntKind.i64.wrap (s2 - 32);
 (if 0 ≤ t15 ∧ t15 < ((32 : Nat) : Int) then
 let t16 : Int := rd [2048, 1792, 1568, 1372, 1201, 1051, 920, 805, 705, 617, 540, 473, 414, 363, 318, 279, 245, 215, 189, 166, 146, 128, 112, 98, 86, 76, 67, 59, 52, 46, 41, 36] t15;
 let t17 := IntKind.i64.wrap (4096 - t16);
 some t17
 else
 none)
 else
 (if 0 ≤ s2 ∧ s2 < ((32 : Nat) : Int) then
 let t18 : Int := rd [2048, 1792, 1568, 1372, 1201, 1051, 920, 805, 705, 617, 540, 473, 414, 363, 318, 279, 245, 215, 189, 166, 146, 128, 112, 98, 86, 76, 67, 59, 52, 46, 41, 36] s2;
 some t18
 else
 none))) := (call_eq ..).trans (by kernel_rfl)

theorem coder_next_eq (kind1 s2 bit3 : Int) : coder_next kind1 s2 bit3 =
 (if (decide (kind1 = 1)) = true then
 let t4 := IntKind.i64.wrap (s2.tdiv 256);
 let t5 : Int := s2.tmod 256;
 (if 0 ≤ bit3 ∧ bit3 < ((2 : Nat) : Int) then
 let t6 : Int := rd [t4, t5] bit3;
 ((if (decide (t6 = 255)) = true then
 (if 0 ≤ (0 : Int) ∧ (0 : Int) < ((2 : Nat) : Int) then
 let t7 := IntKind.i64.wrap (t4.tdiv 2);
 (if 0 ≤ (1 : Int) ∧ (1 : Int) < ((2 : Nat) : Int) then
 let t8 := IntKind.i64.wrap (t5.tdiv 2);
 (if 0 ≤ (0 : Int) ∧ (0 : Int) < ((2 : Nat) : Int) then
 (if 0 ≤ (1 : Int) ∧ (1 : Int) < ((2 : Nat) : Int) then
 some (t7, t8)
 else
 none)
 else
 none)
 else
 none)
 else
 none)
 else
 some (t4, t5)) : Option (Int × Int)).bind (fun p9 =>
 (if 0 ≤ bit3 ∧ bit3 < ((2 : Nat) : Int) then
 let t12 : Int := rd [p9.1, p9.2] bit3;
 let t13 := IntKind.i64.wrap (t12 + 1);
 (if 0 ≤ bit3 ∧ bit3 < ((2 : Nat) : Int) then
 let c14 : Int := if bit3 = 0 then t13 else p9.1;
 let c15 : Int := if bit3 = 1 then t13 else p9.2;
 (if 0 ≤ (0 : Int) ∧ (0 : Int) < ((2 : Nat) : Int) then
 let t16 := IntKind.i64.wrap (256 * c14);
 (if 0 ≤ (1 : Int) ∧ (1 : Int) < ((2 : Nat) : Int) then
 let t17 := IntKind.i64.wrap (t16 + c15);
 some t17
 else
 none)
 else
 none)
 else
 none)
 else
 none))
 else
 none)
 else
 let t18 := IntKind.i64.wrap (s2.tdiv 32);
 let t19 : Int := s2.tmod 32;
 (if (decide (bit3 = t18)) = true then
 let t20 := IntKind.i64.wrap (t19 + 1);
 let t21 := imin t20 31;
 let t22 := IntKind.i64.wrap (32 * t18);
 let t23 := IntKind.i64.wrap (t22 + t21);
 some t23
 else
 (if (decide (t19 = 0)) = true then
 let t24 := IntKind.i64.wrap (32 * bit3);
 let t25 := IntKind.i64.wrap (t24 + t19);
 some t25
 else
 let t26 := IntKind.i64.wrap (t19.tdiv 4);
 let t27 := IntKind.i64.wrap (1 + t26);
 let t28 := IntKind.i64.wrap (t19 - t27);
 let t29 := IntKind.i64.wrap (32 * t18);
 let t30 := IntKind.i64.wrap (t29 + t28);
 some t30))) := (call_eq ..).trans (by kernel_rfl)

theorem coder_Decoder_shift_eq (b1 b2 b3 b4 b5 b6 : Int) (b7 b8 : List Int) : coder_Decoder_shift b1 b2 b3 b4 b5 b6 b7 b8 =
 ((if (decide (b4 < ((b8.length : Nat) : Int))) = true then
 (if 0 ≤ b4 ∧ b4 < (b8.length : Int) then
 let t9 : Int := rd b8 b4;
 some (t9, b1, b2, b3, b4, b5, b6, b7, b8)
 else
 none)
 else
 let t10 := IntKind.i64.wrap (b6 + 1);
 some (0, b1, b2, b3, b4, b5, t10, b7, b8)) : Option (Int × Int × Int × Int × Int × Int × Int × (List Int) × (List Int))).bind (fun p11 =>
 let t21 := IntKind.i64.wrap (p11.2.2.2.2.1 + 1);
 let t22 := ishl .u64 p11.2.2.2.2.2.1 8;
 let t23 := iand .u64 t22 4294967295;
 let t24 := IntKind.u64.wrap p11.1;
 let t25 := ior .u64 t23 t24;
 some (p11.2.1, p11.2.2.1, p11.2.2.2.1, t21, t25, p11.2.2.2.2.2.2.1, p11.2.2.2.2.2.2.2.1, p11.2.2.2.2.2.2.2.2)) := (call_eq ..).trans (by kernel_rfl)

noncomputable def coder_Decoder_Get_loop12 (s51 : Int × Int × Int × (List Int) × Int × Int × Int × Bool × (List Int)) : Option ((Int × Int × Int × (List Int) × Int × Int × Int × Bool × (List Int)) ⊕ (Int × Int × Int × (List Int) × Int × Int × Int × Bool × (List Int))) :=
 (coder_interval_same_2 s51.1 s51.2.1 s51.2.2.1 s51.2.2.2.1 s51.2.2.2.2.1 s51.2.2.2.2.2.1 s51.2.2.2.2.2.2.1 s51.2.2.2.2.2.2.2.1 s51.2.2.2.2.2.2.2.2).bind fun q61 =>
 (if q61.1 = true then
 (coder_interval_lose_2 q61.2.1 q61.2.2.1 q61.2.2.2.1 q61.2.2.2.2.1 q61.2.2.2.2.2.1 q61.2.2.2.2.2.2.1 q61.2.2.2.2.2.2.2.1 q61.2.2.2.2.2.2.2.2.1 q61.2.2.2.2.2.2.2.2.2).bind fun q72 =>
 (coder_Decoder_shift_2 q72.2.1 q72.2.2.1 q72.2.2.2.1 q72.2.2.2.2.1 q72.2.2.2.2.2.1 q72.2.2.2.2.2.2.1 q72.2.2.2.2.2.2.2.1 q72.2.2.2.2.2.2.2.2.1 q72.2.2.2.2.2.2.2.2.2).bind fun q83 =>
 some (Sum.inl (q83.1, q83.2.1, q83.2.2.1, q83.2.2.2.1, q83.2.2.2.2.1, q83.2.2.2.2.2.1, q83.2.2.2.2.2.2.1, q83.2.2.2.2.2.2.2.1, q83.2.2.2.2.2.2.2.2))
 else
 some (Sum.inr (q61.2.1, q61.2.2.1, q61.2.2.2.1, q61.2.2.2.2.1, q61.2.2.2.2.2.1, q61.2.2.2.2.2.2.1, q61.2.2.2.2.2.2.2.1, q61.2.2.2.2.2.2.2.2.1, q61.2.2.2.2.2.2.2.2.2)))
theorem coder_Decoder_Get_eq (ctx1 b2 b3 b4 : Int) (b5 : List Int) (b6 b7 b8 : Int) (b9 : Bool) (b10 : List Int) : coder_Decoder_Get ctx1 b2 b3 b4 b5 b6 b7 b8 b9 b10 =
 (coder_Decoder_none b2 b3 b4 b5 b6 b7 b8 b9 b10).bind fun q11 =>
 let tr20 := q11.2.2.2.2.2.2.2.2.1;
 let tr21 := q11.2.2.2.2.2.2.2.2.2;
 ((if q11.1 = true then
 some (Sum.inr (0, 7))
 else
 ((if (decide (ctx1 < 0)) = true then
 some true
 else
 some (decide (ctx1 ≥ ((tr21.length : Nat) : Int)))) : Option (Bool)).bind (fun v22 =>
 (if v22 = true then
 some (Sum.inr (0, 2))
 else
 (if tr20 = true then
 some (Sum.inr (0, 6))
 else
 some (Sum.inl ()))))) : Option ((Unit) ⊕ (Int × Int))).bind (fun o27 =>
 (Sum.elim (fun (p23 : Unit) =>
 (coder_interval_mid_2 ctx1 q11.2.1 q11.2.2.1 q11.2.2.2.1 q11.2.2.2.2.1 q11.2.2.2.2.2.1 q11.2.2.2.2.2.2.1 q11.2.2.2.2.2.2.2.1 tr20 tr21).bind fun q28 =>
 let tr35 := q28.2.2.2.2.2.2.1;
 let tr38 := q28.2.2.2.2.2.2.2.2.2;
 ((if (decide (tr35 ≤ q28.1)) = true then
 some 1
 else
 some 0) : Option (Int)).bind (fun bit39 =>
 (if 0 ≤ ctx1 ∧ ctx1 < (tr38.length : Int) then
 let t40 : Int := rd tr38 ctx1;
 (coder_interval_take_2 ctx1 bit39 q28.1 q28.2.1 q28.2.2.1 q28.2.2.2.1 q28.2.2.2.2.1 q28.2.2.2.2.2.1 tr35 q28.2.2.2.2.2.2.2.1 q28.2.2.2.2.2.2.2.2.1 tr38).bind fun q41 =>
 (loop (coder_Decoder_Get_loop12) (q41.1, q41.2.1, q41.2.2.1, q41.2.2.2.1, q41.2.2.2.2.1, q41.2.2.2.2.2.1, q41.2.2.2.2.2.2.1, q41.2.2.2.2.2.2.2.1, q41.2.2.2.2.2.2.2.2)).bind (fun p93 =>
 let b102 := p93.2.2.2.2.2.2.2.2;
 (if (decide (p93.2.2.2.2.2.2.1 > 4)) = true then
 (if 0 ≤ ctx1 ∧ ctx1 < (b102.length : Int) then
 let w103 : List Int := b102.set ctx1.toNat t40;
 some (0, 6, q28.2.1, q28.2.2.1, q28.2.2.2.1, q28.2.2.2.2.1, q28.2.2.2.2.2.1, tr35, q28.2.2.2.2.2.2.2.1, true, w103)
 else
 none)
 else
 some (bit39, 0, p93.1, p93.2.1, p93.2.2.1, p93.2.2.2.1, p93.2.2.2.2.1, p93.2.2.2.2.2.1, p93.2.2.2.2.2.2.1, p93.2.2.2.2.2.2.2.1, b102)))
 else
 none)))
 (fun (p24 : Int × Int) =>
 some (p24.1, p24.2, q11.2.1, q11.2.2.1, q11.2.2.2.1, q11.2.2.2.2.1, q11.2.2.2.2.2.1, q11.2.2.2.2.2.2.1, q11.2.2.2.2.2.2.2.1, tr20, tr21)) o27)) := (call_eq ..).trans (by kernel_rfl)

theorem coder_Decoder_Model_eq (b1 b2 b3 : Int) (b4 : List Int) (b5 b6 b7 : Int) (b8 : Bool) (b9 : List Int) : coder_Decoder_Model b1 b2 b3 b4 b5 b6 b7 b8 b9 =
 (coder_Decoder_none b1 b2 b3 b4 b5 b6 b7 b8 b9).bind fun q10 =>
 let tr20 := q10.2.2.2.2.2.2.2.2.2;
 (if q10.1 = true then
 some (0, [], q10.2.1, q10.2.2.1, q10.2.2.2.1, q10.2.2.2.2.1, q10.2.2.2.2.2.1, q10.2.2.2.2.2.2.1, q10.2.2.2.2.2.2.2.1, q10.2.2.2.2.2.2.2.2.1, tr20)
 else
 (coder_clone q10.2.1 tr20).bind fun q21 =>
 some (q21.1, q21.2, q10.2.1, q10.2.2.1, q10.2.2.2.1, q10.2.2.2.2.1, q10.2.2.2.2.2.1, q10.2.2.2.2.2.2.1, q10.2.2.2.2.2.2.2.1, q10.2.2.2.2.2.2.2.2.1, tr20)) := (call_eq ..).trans (by kernel_rfl)

theorem refine_newRegion_2_eq (o1 o2 o3 : Int) (o4 : Bool) (o5 w6 h7 r8 r9 : Int) (r10 b11 : List Int) : refine_newRegion_2 o1 o2 o3 o4 o5 w6 h7 r8 r9 r10 b11 =
 some (b11, o1, o2, o3, o4, o5, w6, h7, r8, r9, r10) := (call_eq ..).trans (by kernel_rfl)

noncomputable def refine_region_row_loop8 (base1 y2 b8 typical38 : Int) (s60 : Int × Int × Int × Int × Bool × Int × Int × Int × Int × Int × (List Int) × (List Int) × Int × Int × Int × (List Int) × Int × Int × Int × Bool × (List Int)) : Option ((Int × Int × Int × Int × Bool × Int × Int × Int × Int × Int × (List Int) × (List Int) × Int × Int × Int × (List Int) × Int × Int × Int × Bool × (List Int)) ⊕ ((Int × Int × Int × Bool × Int × Int × Int × Int × Int × (List Int) × (List Int) × Int × Int × Int × (List Int) × Int × Int × Int × Bool × (List Int)) ⊕ (Int × Int × Int × Int × Bool × Int × Int × Int × Int × Int × (List Int) × (List Int) × Int × Int × Int × (List Int) × Int × Int × Int × Bool × (List Int)))) :=
 let b67 := s60.2.2.2.2.2.2.1;
 let b69 := s60.2.2.2.2.2.2.2.2.1;
 let b70 := s60.2.2.2.2.2.2.2.2.2.1;
 let b71 := s60.2.2.2.2.2.2.2.2.2.2.1;
 let b72 := s60.2.2.2.2.2.2.2.2.2.2.2.1;
 let b73 := s60.2.2.2.2.2.2.2.2.2.2.2.2.1;
 let b74 := s60.2.2.2.2.2.2.2.2.2.2.2.2.2.1;
 let b75 := s60.2.2.2.2.2.2.2.2.2.2.2.2.2.2.1;
 let b76 := s60.2.2.2.2.2.2.2.2.2.2.2.2.2.2.2.1;
 let b77 := s60.2.2.2.2.2.2.2.2.2.2.2.2.2.2.2.2.1;
 let b78 := s60.2.2.2.2.2.2.2.2.2.2.2.2.2.2.2.2.2.1;
 let b79 := s60.2.2.2.2.2.2.2.2.2.2.2.2.2.2.2.2.2.2.1;
 let b80 := s60.2.2.2.2.2.2.2.2.2.2.2.2.2.2.2.2.2.2.2.1;
 let b81 := s60.2.2.2.2.2.2.2.2.2.2.2.2.2.2.2.2.2.2.2.2;
 (if (decide (s60.1 < b8)) = true then
 let t82 := IntKind.i64.wrap (y2 * b67);
 let t83 := IntKind.i64.wrap (t82 + s60.1);
 (refine_region_flat_2 s60.1 y2 s60.2.1 s60.2.2.1 s60.2.2.2.1 s60.2.2.2.2.1 s60.2.2.2.2.2.1 b67 s60.2.2.2.2.2.2.2.1 b69 b70 b71 b72).bind fun q84 =>
 let tr94 := q84.2.2.2.2.2.2.2.2.2.1;
 let tr95 := q84.2.2.2.2.2.2.2.2.2.2.1;
 let tr96 := q84.2.2.2.2.2.2.2.2.2.2.2.1;
 let tr97 := q84.2.2.2.2.2.2.2.2.2.2.2.2;
 ((if (decide (typical38 = 1)) = true then
 some q84.2.1
 else
 some false) : Option (Bool)).bind (fun v98 =>
 (if v98 = true then
 (if 0 ≤ t83 ∧ t83 < (tr97.length : Int) then
 let w99 : List Int := tr97.set t83.toNat q84.1;
 let t100 := IntKind.i64.wrap (s60.1 + 1);
 some (Sum.inl (t100, q84.2.2.1, q84.2.2.2.1, q84.2.2.2.2.1, q84.2.2.2.2.2.1, q84.2.2.2.2.2.2.1, q84.2.2.2.2.2.2.2.1, q84.2.2.2.2.2.2.2.2.1, tr94, tr95, tr96, w99, b73, b74, b75, b76, b77, b78, b79, b80, b81))
 else
 none)
 else
 (refine_region_context_2 s60.1 y2 q84.2.2.1 q84.2.2.2.1 q84.2.2.2.2.1 q84.2.2.2.2.2.1 q84.2.2.2.2.2.2.1 q84.2.2.2.2.2.2.2.1 q84.2.2.2.2.2.2.2.2.1 tr94 tr95 tr96 tr97).bind fun q101 =>
 let tr112 := q101.2.2.2.2.2.2.2.2.2.2.1;
 let tr113 := q101.2.2.2.2.2.2.2.2.2.2.2;
 let t114 := IntKind.i64.wrap (base1 + q101.1);
 (coder_Decoder_Get t114 b73 b74 b75 b76 b77 b78 b79 b80 b81).bind fun q115 =>
 (if (!decide (q115.2.1 = 0)) = true then
 some (Sum.inr (Sum.inr (q115.2.1, q101.2.1, q101.2.2.1, q101.2.2.2.1, q101.2.2.2.2.1, q101.2.2.2.2.2.1, q101.2.2.2.2.2.2.1, q101.2.2.2.2.2.2.2.1, q101.2.2.2.2.2.2.2.2.1, q101.2.2.2.2.2.2.2.2.2.1, tr112, tr113, q115.2.2.1, q115.2.2.2.1, q115.2.2.2.2.1, q115.2.2.2.2.2.1, q115.2.2.2.2.2.2.1, q115.2.2.2.2.2.2.2.1, q115.2.2.2.2.2.2.2.2.1, q115.2.2.2.2.2.2.2.2.2.1, q115.2.2.2.2.2.2.2.2.2.2)))
 else
 let t127 := IntKind.u8.wrap q115.1;
 (if 0 ≤ t83 ∧ t83 < (tr113.length : Int) then
 let w128 : List Int := tr113.set t83.toNat t127;
 let t129 := IntKind.i64.wrap (s60.1 + 1);
 some (Sum.inl (t129, q101.2.1, q101.2.2.1, q101.2.2.2.1, q101.2.2.2.2.1, q101.2.2.2.2.2.1, q101.2.2.2.2.2.2.1, q101.2.2.2.2.2.2.2.1, q101.2.2.2.2.2.2.2.2.1, q101.2.2.2.2.2.2.2.2.2.1, tr112, w128, q115.2.2.1, q115.2.2.2.1, q115.2.2.2.2.1, q115.2.2.2.2.2.1, q115.2.2.2.2.2.2.1, q115.2.2.2.2.2.2.2.1, q115.2.2.2.2.2.2.2.2.1, q115.2.2.2.2.2.2.2.2.2.1, q115.2.2.2.2.2.2.2.2.2.2))
 else
 none))))
 else
 some (Sum.inr (Sum.inl (s60.2.1, s60.2.2.1, s60.2.2.2.1, s60.2.2.2.2.1, s60.2.2.2.2.2.1, b67, s60.2.2.2.2.2.2.2.1, b69, b70, b71, b72, b73, b74, b75, b76, b77, b78, b79, b80, b81))))

theorem refine_region_row_eq (base1 y2 b3 b4 b5 : Int) (b6 : Bool) (b7 b8 b9 b10 b11 : Int) (b12 b13 : List Int) (b14 b15 b16 : Int) (b17 : List Int) (b18 b19 b20 : Int) (b21 : Bool) (b22 : List Int) : refine_region_row base1 y2 b3 b4 b5 b6 b7 b8 b9 b10 b11 b12 b13 b14 b15 b16 b17 b18 b19 b20 b21 b22 =
 ((if b6 = true then
 (refine_contexts b3).bind fun q23 =>
 let t24 := IntKind.i64.wrap (base1 + q23);
 (coder_Decoder_Get t24 b14 b15 b16 b17 b18 b19 b20 b21 b22).bind fun q25 =>
 let tr35 := q25.2.2.2.2.2.2.2.2.2.1;
 let tr36 := q25.2.2.2.2.2.2.2.2.2.2;
 (if (!decide (q25.2.1 = 0)) = true then
 some (Sum.inr (q25.2.1, q25.2.2.1, q25.2.2.2.1, q25.2.2.2.2.1, q25.2.2.2.2.2.1, q25.2.2.2.2.2.2.1, q25.2.2.2.2.2.2.2.1, q25.2.2.2.2.2.2.2.2.1, tr35, tr36))
 else
 some (Sum.inl (q25.1, q25.2.2.1, q25.2.2.2.1, q25.2.2.2.2.1, q25.2.2.2.2.2.1, q25.2.2.2.2.2.2.1, q25.2.2.2.2.2.2.2.1, q25.2.2.2.2.2.2.2.2.1, tr35, tr36)))
 else
 some (Sum.inl (0, b14, b15, b16, b17, b18, b19, b20, b21, b22))) : Option ((Int × Int × Int × Int × (List Int) × Int × Int × Int × Bool × (List Int)) ⊕ (Int × Int × Int × Int × (List Int) × Int × Int × Int × Bool × (List Int)))).bind (fun o59 =>
 (Sum.elim (fun (p37 : Int × Int × Int × Int × (List Int) × Int × Int × Int × Bool × (List Int)) =>
 (loop (refine_region_row_loop8 base1 y2 b8 p37.1) (0, b3, b4, b5, b6, b7, b8, b9, b10, b11, b12, b13, p37.2.1, p37.2.2.1, p37.2.2.2.1, p37.2.2.2.2.1, p37.2.2.2.2.2.1, p37.2.2.2.2.2.2.1, p37.2.2.2.2.2.2.2.1, p37.2.2.2.2.2.2.2.2.1, p37.2.2.2.2.2.2.2.2.2)).bind (fun o196 =>
 (Sum.elim (fun (p153 : Int × Int × Int × Bool × Int × Int × Int × Int × Int × (List Int) × (List Int) × Int × Int × Int × (List Int) × Int × Int × Int × Bool × (List Int)) =>
 some (0, p153.1, p153.2.1, p153.2.2.1, p153.2.2.2.1, p153.2.2.2.2.1, p153.2.2.2.2.2.1, p153.2.2.2.2.2.2.1, p153.2.2.2.2.2.2.2.1, p153.2.2.2.2.2.2.2.2.1, p153.2.2.2.2.2.2.2.2.2.1, p153.2.2.2.2.2.2.2.2.2.2.1, p153.2.2.2.2.2.2.2.2.2.2.2.1, p153.2.2.2.2.2.2.2.2.2.2.2.2.1, p153.2.2.2.2.2.2.2.2.2.2.2.2.2.1, p153.2.2.2.2.2.2.2.2.2.2.2.2.2.2.1, p153.2.2.2.2.2.2.2.2.2.2.2.2.2.2.2.1, p153.2.2.2.2.2.2.2.2.2.2.2.2.2.2.2.2.1, p153.2.2.2.2.2.2.2.2.2.2.2.2.2.2.2.2.2.1, p153.2.2.2.2.2.2.2.2.2.2.2.2.2.2.2.2.2.2.1, p153.2.2.2.2.2.2.2.2.2.2.2.2.2.2.2.2.2.2.2))
 (fun (p174 : Int × Int × Int × Int × Bool × Int × Int × Int × Int × Int × (List Int) × (List Int) × Int × Int × Int × (List Int) × Int × Int × Int × Bool × (List Int)) =>
 some (p174.1, p174.2.1, p174.2.2.1, p174.2.2.2.1, p174.2.2.2.2.1, p174.2.2.2.2.2.1, p174.2.2.2.2.2.2.1, p174.2.2.2.2.2.2.2.1, p174.2.2.2.2.2.2.2.2.1, p174.2.2.2.2.2.2.2.2.2.1, p174.2.2.2.2.2.2.2.2.2.2.1, p174.2.2.2.2.2.2.2.2.2.2.2.1, p174.2.2.2.2.2.2.2.2.2.2.2.2.1, p174.2.2.2.2.2.2.2.2.2.2.2.2.2.1, p174.2.2.2.2.2.2.2.2.2.2.2.2.2.2.1, p174.2.2.2.2.2.2.2.2.2.2.2.2.2.2.2.1, p174.2.2.2.2.2.2.2.2.2.2.2.2.2.2.2.2.1, p174.2.2.2.2.2.2.2.2.2.2.2.2.2.2.2.2.2.1, p174.2.2.2.2.2.2.2.2.2.2.2.2.2.2.2.2.2.2.1, p174.2.2.2.2.2.2.2.2.2.2.2.2.2.2.2.2.2.2.2.1, p174.2.2.2.2.2.2.2.2.2.2.2.2.2.2.2.2.2.2.2.2)) o196)))
 (fun (p48 : Int × Int × Int × Int × (List Int) × Int × Int × Int × Bool × (List Int)) =>
 some (p48.1, b3, b4, b5, b6, b7, b8, b9, b10, b11, b12, b13, p48.2.1, p48.2.2.1, p48.2.2.2.1, p48.2.2.2.2.1, p48.2.2.2.2.2.1, p48.2.2.2.2.2.2.1, p48.2.2.2.2.2.2.2.1, p48.2.2.2.2.2.2.2.2.1, p48.2.2.2.2.2.2.2.2.2)) o59)) := (call_eq ..).trans (by kernel_rfl)

theorem bitmap_clone_eq (b1 b2 : Int) (b3 : List Int) : bitmap_clone b1 b2 b3 =
 (bytes_Clone b3).bind fun q4 =>
 some (b1, b2, q4) := (call_eq ..).trans (by kernel_rfl)

theorem bitmap_combine_eq (a1 b2 op3 : Int) : bitmap_combine a1 b2 op3 =
 (if (decide (op3 = 1)) = true then
 let t4 := ior .u8 a1 b2;
 some t4
 else
 (if (decide (op3 = 2)) = true then
 let t5 := iand .u8 a1 b2;
 some t5
 else
 (if (decide (op3 = 3)) = true then
 let t6 := ixor .u8 a1 b2;
 some t6
 else
 (if (decide (op3 = 4)) = true then
 let t7 := IntKind.u8.wrap (1 - a1);
 let t8 := ixor .u8 t7 b2;
 some t8
 else
 some b2)))) := (call_eq ..).trans (by kernel_rfl)

theorem runs_newReader_eq (b1 : List Int) : runs_newReader b1 =
 (prefix_Standard 0).bind fun q2 =>
 (bits_NewReader b1).bind fun q5 =>
 (runs_newTable q2.1).bind fun q8 =>
 (runs_remains 0).bind fun q11 =>
 (runs_newTable q11).bind fun q12 =>
 (runs_remains 1).bind fun q15 =>
 (runs_newTable q15).bind fun q16 =>
 (runs_uprights).bind fun q19 =>
 (if (([[48, 48, 48, 49], [48, 48, 49]] : List (List Int)).length + q19.length) * 16 ≤ 140737488355328 then
 let t20 : List (List Int) := ([[48, 48, 48, 49], [48, 48, 49]] : List (List Int)) ++ q19;
 some (q8.1, q8.2, q12.1, q12.2, q16.1, q16.2, t20, q5.1, q5.2)
 else
 none) := (call_eq ..).trans (by kernel_rfl)

noncomputable def runs_reader_two_loop2 (w1 : Int) (s12 : (List Line) × (List (List Int)) × (List Line) × (List (List Int)) × (List Line) × (List (List Int)) × (List (List Int)) × (List Int) × Int × Int × Int × Int × (List Int) × (List Int)) : Option (((List Line) × (List (List Int)) × (List Line) × (List (List Int)) × (List Line) × (List (List Int)) × (List (List Int)) × (List Int) × Int × Int × Int × Int × (List Int) × (List Int)) ⊕ (((List Line) × (List (List Int)) × (List Line) × (List (List Int)) × (List Line) × (List (List Int)) × (List (List Int)) × (List Int) × Int × Int × Int × Int × (List Int) × (List Int)) ⊕ ((List Int) × Int × (List Line) × (List (List Int)) × (List Line) × (List (List Int)) × (List Line) × (List (List Int)) × (List (List Int)) × (List Int) × Int × Int × Int × Int × (List Int) × (List Int)))) :=
 let b21 := s12.2.2.2.2.2.2.2.2.1;
 let b22 := s12.2.2.2.2.2.2.2.2.2.1;
 let b23 := s12.2.2.2.2.2.2.2.2.2.2.1;
 let b24 := s12.2.2.2.2.2.2.2.2.2.2.2.1;
 let b25 := s12.2.2.2.2.2.2.2.2.2.2.2.2.1;
 let b26 := s12.2.2.2.2.2.2.2.2.2.2.2.2.2;
 ((if (decide (b23 < w1)) = true then
 some (decide (w1 > 0))
 else
 some false) : Option (Bool)).bind (fun v27 =>
 (if v27 = true then
 (runs_reader_mode s12.1 s12.2.1 s12.2.2.1 s12.2.2.2.1 s12.2.2.2.2.1 s12.2.2.2.2.2.1 s12.2.2.2.2.2.2.1 s12.2.2.2.2.2.2.2.1 b21 b22 b23 b24 b25 b26).bind fun q28 =>
 let tr38 := q28.2.2.2.2.2.2.2.2.2.1;
 let tr39 := q28.2.2.2.2.2.2.2.2.2.2.1;
 let tr40 := q28.2.2.2.2.2.2.2.2.2.2.2.1;
 let tr41 := q28.2.2.2.2.2.2.2.2.2.2.2.2.1;
 let tr42 := q28.2.2.2.2.2.2.2.2.2.2.2.2.2.1;
 let tr43 := q28.2.2.2.2.2.2.2.2.2.2.2.2.2.2;
 (if (!decide (q28.1 = 0)) = true then
 some (Sum.inr (Sum.inr ([], q28.1, q28.2.1, q28.2.2.1, q28.2.2.2.1, q28.2.2.2.2.1, q28.2.2.2.2.2.1, q28.2.2.2.2.2.2.1, q28.2.2.2.2.2.2.2.1, q28.2.2.2.2.2.2.2.2.1, tr38, tr39, tr40, tr41, tr42, tr43)))
 else
 some (Sum.inl (q28.2.1, q28.2.2.1, q28.2.2.2.1, q28.2.2.2.2.1, q28.2.2.2.2.2.1, q28.2.2.2.2.2.2.1, q28.2.2.2.2.2.2.2.1, q28.2.2.2.2.2.2.2.2.1, tr38, tr39, tr40, tr41, tr42, tr43)))
 else
 some (Sum.inr (Sum.inl (s12.1, s12.2.1, s12.2.2.1, s12.2.2.2.1, s12.2.2.2.2.1, s12.2.2.2.2.2.1, s12.2.2.2.2.2.2.1, s12.2.2.2.2.2.2.2.1, b21, b22, b23, b24, b25, b26)))))
theorem runs_reader_two_eq (w1 : Int) (above2 : List Int) (b3 : List Line) (b4 : List (List Int)) (b5 : List Line) (b6 : List (List Int)) (b7 : List Line) (b8 b9 : List (List Int)) (b10 : List Int) (b11 : Int) : runs_reader_two w1 above2 b3 b4 b5 b6 b7 b8 b9 b10 b11 =
 (loop (runs_reader_two_loop2 w1) (b3, b4, b5, b6, b7, b8, b9, b10, b11, w1, (-1), 0, above2, [])).bind (fun o76 =>
 (Sum.elim (fun (p44 : (List Line) × (List (List Int)) × (List Line) × (List (List Int)) × (List Line) × (List (List Int)) × (List (List Int)) × (List Int) × Int × Int × Int × Int × (List Int) × (List Int)) =>
 some (p44.2.2.2.2.2.2.2.2.2.2.2.2.2, 0, p44.1, p44.2.1, p44.2.2.1, p44.2.2.2.1, p44.2.2.2.2.1, p44.2.2.2.2.2.1, p44.2.2.2.2.2.2.1, p44.2.2.2.2.2.2.2.1, p44.2.2.2.2.2.2.2.2.1))
 (fun (p59 : (List Int) × Int × (List Line) × (List (List Int)) × (List Line) × (List (List Int)) × (List Line) × (List (List Int)) × (List (List Int)) × (List Int) × Int × Int × Int × Int × (List Int) × (List Int)) =>
 some (p59.1, p59.2.1, p59.2.2.1, p59.2.2.2.1, p59.2.2.2.2.1, p59.2.2.2.2.2.1, p59.2.2.2.2.2.2.1, p59.2.2.2.2.2.2.2.1, p59.2.2.2.2.2.2.2.2.1, p59.2.2.2.2.2.2.2.2.2.1, p59.2.2.2.2.2.2.2.2.2.2.1)) o76)) := (call_eq ..).trans (by kernel_rfl)

theorem bits_Reader_At_eq (b1 : List Int) (b2 : Int) : bits_Reader_At b1 b2 =
 (bits_Reader_none b1 b2).bind fun q3 =>
 (if q3.1 = true then
 some (0, q3.2.1, q3.2.2)
 else
 some (q3.2.2, q3.2.1, q3.2.2)) := (call_eq ..).trans (by kernel_rfl)

noncomputable def runs_reader_one_loop3 (w1 : Int) (s12 : Int × (List Line) × (List (List Int)) × (List Line) × (List (List Int)) × (List Line) × (List (List Int)) × (List (List Int)) × (List Int) × Int × (List Int)) : Option ((Int × (List Line) × (List (List Int)) × (List Line) × (List (List Int)) × (List Line) × (List (List Int)) × (List (List Int)) × (List Int) × Int × (List Int)) ⊕ (((List Line) × (List (List Int)) × (List Line) × (List (List Int)) × (List Line) × (List (List Int)) × (List (List Int)) × (List Int) × Int × (List Int)) ⊕ ((List Int) × Int × (List Line) × (List (List Int)) × (List Line) × (List (List Int)) × (List Line) × (List (List Int)) × (List (List Int)) × (List Int) × Int))) :=
 let b21 := s12.2.2.2.2.2.2.2.2.1;
 let b22 := s12.2.2.2.2.2.2.2.2.2.1;
 let out23 := s12.2.2.2.2.2.2.2.2.2.2;
 (if (decide (((out23.length : Nat) : Int) < w1)) = true then
 let t24 : Int := s12.1.tmod 2;
 (runs_reader_run t24 s12.2.1 s12.2.2.1 s12.2.2.2.1 s12.2.2.2.2.1 s12.2.2.2.2.2.1 s12.2.2.2.2.2.2.1 s12.2.2.2.2.2.2.2.1 b21 b22).bind fun q25 =>
 let tr31 := q25.2.2.2.2.2.1;
 let tr32 := q25.2.2.2.2.2.2.1;
 let tr33 := q25.2.2.2.2.2.2.2.1;
 let tr34 := q25.2.2.2.2.2.2.2.2.1;
 let tr35 := q25.2.2.2.2.2.2.2.2.2.1;
 let tr36 := q25.2.2.2.2.2.2.2.2.2.2;
 (if (!decide (q25.2.1 = 0)) = true then
 some (Sum.inr (Sum.inr ([], q25.2.1, q25.2.2.1, q25.2.2.2.1, q25.2.2.2.2.1, tr31, tr32, tr33, tr34, tr35, tr36)))
 else
 ((if (decide (q25.1 = 0)) = true then
 (if (decide (s12.1 > 0)) = true then
 some true
 else
 let t37 := IntKind.i64.wrap (w1 - ((out23.length : Nat) : Int));
 some (decide (q25.1 > t37)))
 else
 let t38 := IntKind.i64.wrap (w1 - ((out23.length : Nat) : Int));
 some (decide (q25.1 > t38))) : Option (Bool)).bind (fun v39 =>
 (if v39 = true then
 some (Sum.inr (Sum.inr ([], 3, q25.2.2.1, q25.2.2.2.1, q25.2.2.2.2.1, tr31, tr32, tr33, tr34, tr35, tr36)))
 else
 let t40 : Int := s12.1.tmod 2;
 let t41 := IntKind.u8.wrap t40;
 (slices_Repeat_byte_byte [t41] q25.1).bind fun q42 =>
 (if (out23.length + q42.length) * 1 ≤ 140737488355328 then
 let t43 : List Int := out23 ++ q42;
 let t44 := IntKind.i64.wrap (s12.1 + 1);
 some (Sum.inl (t44, q25.2.2.1, q25.2.2.2.1, q25.2.2.2.2.1, tr31, tr32, tr33, tr34, tr35, tr36, t43))
 else
 none))))
 else
 some (Sum.inr (Sum.inl (s12.2.1, s12.2.2.1, s12.2.2.2.1, s12.2.2.2.2.1, s12.2.2.2.2.2.1, s12.2.2.2.2.2.2.1, s12.2.2.2.2.2.2.2.1, b21, b22, out23))))
theorem runs_reader_one_eq (w1 : Int) (x2 : List Int) (b3 : List Line) (b4 : List (List Int)) (b5 : List Line) (b6 : List (List Int)) (b7 : List Line) (b8 b9 : List (List Int)) (b10 : List Int) (b11 : Int) : runs_reader_one w1 x2 b3 b4 b5 b6 b7 b8 b9 b10 b11 =
 (loop (runs_reader_one_loop3 w1) (0, b3, b4, b5, b6, b7, b8, b9, b10, b11, [])).bind (fun o68 =>
 (Sum.elim (fun (p45 : (List Line) × (List (List Int)) × (List Line) × (List (List Int)) × (List Line) × (List (List Int)) × (List (List Int)) × (List Int) × Int × (List Int)) =>
 some (p45.2.2.2.2.2.2.2.2.2, 0, p45.1, p45.2.1, p45.2.2.1, p45.2.2.2.1, p45.2.2.2.2.1, p45.2.2.2.2.2.1, p45.2.2.2.2.2.2.1, p45.2.2.2.2.2.2.2.1, p45.2.2.2.2.2.2.2.2.1))
 (fun (p56 : (List Int) × Int × (List Line) × (List (List Int)) × (List Line) × (List (List Int)) × (List Line) × (List (List Int)) × (List (List Int)) × (List Int) × Int) =>
 some (p56.1, p56.2.1, p56.2.2.1, p56.2.2.2.1, p56.2.2.2.2.1, p56.2.2.2.2.2.1, p56.2.2.2.2.2.2.1, p56.2.2.2.2.2.2.2.1, p56.2.2.2.2.2.2.2.2.1, p56.2.2.2.2.2.2.2.2.2.1, p56.2.2.2.2.2.2.2.2.2.2)) o68)) := (call_eq ..).trans (by kernel_rfl)

noncomputable def prefix_offset_b (x1 x2 x3 x4 : Int) (n5 : Bool) (n6 : Int) : Option (Int × Bool) :=
 ((if n5 = true then
 some true
 else
 some (decide (x4 = 2))) : Option (Bool)).bind (fun v7 =>
 (if v7 = true then
 ((if n5 = true then
 (if (decide (n6 = 0)) = true then
 some (0, decide (x4 = 2))
 else
 some (0, false))
 else
 some (0, false)) : Option (Int × Bool)).bind (fun p8 =>
 some (p8.1, p8.2))
 else
 ((if (decide (n6 < (-4194304))) = true then
 some true
 else
 some (decide (n6 > 4194304))) : Option (Bool)).bind (fun v11 =>
 (if v11 = true then
 some (0, false)
 else
 let t12 := IntKind.i64.wrap (n6 - x3);
 ((if (decide (x4 = 1)) = true then
 let t13 := IntKind.i64.wrap (0 - t12);
 some t13
 else
 some t12) : Option (Int)).bind (fun d14 =>
 (if (decide (d14 ≥ 0)) = true then
 (if x2 < 0 then
 none
 else
 let t15 := ishl .i64 1 x2;
 some (d14, decide (d14 < t15)))
 else
 some (d14, false)))))))
theorem prefix_offset_eq x1 x2 x3 x4 n5 n6 : prefix_offset x1 x2 x3 x4 n5 n6 = prefix_offset_b x1 x2 x3 x4 n5 n6 := (call_eq ..).trans (by kernel_rfl)

theorem coder_Decoder_none_eq (b1 b2 b3 : Int) (b4 : List Int) (b5 b6 b7 : Int) (b8 : Bool) (b9 : List Int) : coder_Decoder_none b1 b2 b3 b4 b5 b6 b7 b8 b9 =
 some (false, b1, b2, b3, b4, b5, b6, b7, b8, b9) := (call_eq ..).trans (by kernel_rfl)

theorem coder_interval_mid_2_eq (ctx1 b2 b3 b4 : Int) (b5 : List Int) (b6 b7 b8 : Int) (b9 : Bool) (b10 : List Int) : coder_interval_mid_2 ctx1 b2 b3 b4 b5 b6 b7 b8 b9 b10 =
 let t11 := IntKind.u64.wrap (b4 - b3);
 (if 0 ≤ ctx1 ∧ ctx1 < (b10.length : Int) then
 let t12 : Int := rd b10 ctx1;
 (coder_table_chance b2 t12).bind fun q13 =>
 let t14 := IntKind.u64.wrap q13;
 let t15 := IntKind.u64.wrap (t11.tdiv 4096);
 let t16 := IntKind.u64.wrap (t15 * t14);
 let t17 := IntKind.u64.wrap (b3 + t16);
 let t18 : Int := t11.tmod 4096;
 let t19 := IntKind.u64.wrap (t18 * t14);
 let t20 := IntKind.u64.wrap (t19.tdiv 4096);
 let t21 := IntKind.u64.wrap (t17 + t20);
 some (t21, b2, b3, b4, b5, b6, b7, b8, b9, b10)
 else
 none) := (call_eq ..).trans (by kernel_rfl)

theorem coder_interval_take_2_eq (ctx1 bit2 mid3 b4 b5 b6 : Int) (b7 : List Int) (b8 b9 b10 : Int) (b11 : Bool) (b12 : List Int) : coder_interval_take_2 ctx1 bit2 mid3 b4 b5 b6 b7 b8 b9 b10 b11 b12 =
 ((if (decide (bit2 = 1)) = true then
 some (b4, b5, mid3, b7, b8, b9, b10, b11, b12)
 else
 let t13 := IntKind.u64.wrap (mid3 + 1);
 some (b4, t13, b6, b7, b8, b9, b10, b11, b12)) : Option (Int × Int × Int × (List Int) × Int × Int × Int × Bool × (List Int))).bind (fun p14 =>
 let b23 := p14.2.2.2.2.2.2.2.2;
 (if 0 ≤ ctx1 ∧ ctx1 < (b23.length : Int) then
 let t24 : Int := rd b23 ctx1;
 (coder_next p14.1 t24 bit2).bind fun q25 =>
 (if 0 ≤ ctx1 ∧ ctx1 < (b23.length : Int) then
 let w26 : List Int := b23.set ctx1.toNat q25;
 some (p14.1, p14.2.1, p14.2.2.1, p14.2.2.2.1, p14.2.2.2.2.1, p14.2.2.2.2.2.1, p14.2.2.2.2.2.2.1, p14.2.2.2.2.2.2.2.1, w26)
 else
 none)
 else
 none)) := (call_eq ..).trans (by kernel_rfl)

theorem coder_interval_same_2_eq (b1 b2 b3 : Int) (b4 : List Int) (b5 b6 b7 : Int) (b8 : Bool) (b9 : List Int) : coder_interval_same_2 b1 b2 b3 b4 b5 b6 b7 b8 b9 =
 let t10 := ishr .u64 b2 24;
 let t11 := ishr .u64 b3 24;
 some (decide (t10 = t11), b1, b2, b3, b4, b5, b6, b7, b8, b9) := (call_eq ..).trans (by kernel_rfl)

theorem coder_interval_lose_2_eq (b1 b2 b3 : Int) (b4 : List Int) (b5 b6 b7 : Int) (b8 : Bool) (b9 : List Int) : coder_interval_lose_2 b1 b2 b3 b4 b5 b6 b7 b8 b9 =
 let t10 := ishr .u64 b2 24;
 let t11 := IntKind.u8.wrap t10;
 let t12 := ishl .u64 b2 8;
 let t13 := iand .u64 t12 4294967295;
 let t14 := ishl .u64 b3 8;
 let t15 := iand .u64 t14 4294967295;
 let t16 := ior .u64 t15 255;
 some (t11, b1, t13, t16, b4, b5, b6, b7, b8, b9) := (call_eq ..).trans (by kernel_rfl)

theorem coder_Decoder_shift_2_eq (b1 b2 b3 : Int) (b4 : List Int) (b5 b6 b7 : Int) (b8 : Bool) (b9 : List Int) : coder_Decoder_shift_2 b1 b2 b3 b4 b5 b6 b7 b8 b9 =
 ((if (decide (b5 < ((b4.length : Nat) : Int))) = true then
 (if 0 ≤ b5 ∧ b5 < (b4.length : Int) then
 some (rd b4 b5, b1, b2, b3, b4, b5, b6, b7, b8, b9)
 else
 none)
 else
 let t10 := IntKind.i64.wrap (b7 + 1);
 some (0, b1, b2, b3, b4, b5, b6, t10, b8, b9)) : Option (Int × Int × Int × Int × (List Int) × Int × Int × Int × Bool × (List Int))).bind (fun p11 =>
 let t22 := IntKind.i64.wrap (p11.2.2.2.2.2.1 + 1);
 let t23 := ishl .u64 p11.2.2.2.2.2.2.1 8;
 let t24 := iand .u64 t23 4294967295;
 let t25 := IntKind.u64.wrap p11.1;
 let t26 := ior .u64 t24 t25;
 some (p11.2.1, p11.2.2.1, p11.2.2.2.1, p11.2.2.2.2.1, t22, t26, p11.2.2.2.2.2.2.2.1, p11.2.2.2.2.2.2.2.2.1, p11.2.2.2.2.2.2.2.2.2)) := (call_eq ..).trans (by kernel_rfl)

noncomputable def refine_region_flat_2_loop3 (x1 y2 b4 b5 b10 b11 : Int) (b12 : List Int) (q16 v17 : Int) : Option ((Int) ⊕ ((Unit) ⊕ (Int × Bool))) :=
 (if (decide (v17 < 9)) = true then
 let t18 := IntKind.i64.wrap (x1 - b4);
 let t19 : Int := v17.tmod 3;
 let t20 := IntKind.i64.wrap (t18 + t19);
 let t21 := IntKind.i64.wrap (t20 - 1);
 let t22 := IntKind.i64.wrap (y2 - b5);
 let t23 := IntKind.i64.wrap (v17.tdiv 3);
 let t24 := IntKind.i64.wrap (t22 + t23);
 let t25 := IntKind.i64.wrap (t24 - 1);
 (refine_grid_at b10 b11 b12 t21 t25).bind fun q26 =>
 (if (!decide (q26 = q16)) = true then
 some (Sum.inr (Sum.inr (0, false)))
 else
 let t27 := IntKind.i64.wrap (v17 + 1);
 some (Sum.inl t27))
 else
 some (Sum.inr (Sum.inl ())))

theorem refine_region_flat_2_eq (x1 y2 b3 b4 b5 : Int) (b6 : Bool) (b7 b8 b9 b10 b11 : Int) (b12 b13 : List Int) : refine_region_flat_2 x1 y2 b3 b4 b5 b6 b7 b8 b9 b10 b11 b12 b13 =
 let t14 := IntKind.i64.wrap (x1 - b4);
 let t15 := IntKind.i64.wrap (y2 - b5);
 (refine_grid_at b10 b11 b12 t14 t15).bind fun q16 =>
 (loop (refine_region_flat_2_loop3 x1 y2 b4 b5 b10 b11 b12 q16) 0).bind (fun o35 =>
 (Sum.elim (fun (p31 : Unit) =>
 some (q16, true, b3, b4, b5, b6, b7, b8, b9, b10, b11, b12, b13))
 (fun (p32 : Int × Bool) =>
 some (p32.1, p32.2, b3, b4, b5, b6, b7, b8, b9, b10, b11, b12, b13)) o35)) := (call_eq ..).trans (by kernel_rfl)

noncomputable def refine_region_context_2_loop3 (x1 y2 b8 b9 : Int) (b13 : List Int) (q14 : (List Arr2)) (s15 : Int × Int) : Option ((Int × Int) ⊕ (Int)) :=
 (if (decide (s15.2 < ((q14.length : Nat) : Int))) = true then
 (if 0 ≤ s15.2 then
 (q14[s15.2.toNat]?).bind fun e18 =>
 let t19 := IntKind.i64.wrap (2 * s15.1);
 (if 0 ≤ (0 : Int) ∧ (0 : Int) < ((2 : Nat) : Int) then
 let t20 := IntKind.i64.wrap (x1 + e18.a0);
 (if 0 ≤ (1 : Int) ∧ (1 : Int) < ((2 : Nat) : Int) then
 let t21 := IntKind.i64.wrap (y2 + e18.a1);
 (refine_grid_at b8 b9 b13 t20 t21).bind fun q22 =>
 let t23 := IntKind.i64.wrap q22;
 let t24 := IntKind.i64.wrap (t19 + t23);
 let t25 := IntKind.i64.wrap (s15.2 + 1);
 some (Sum.inl (t24, t25))
 else
 none)
 else
 none)
 else
 none)
 else
 some (Sum.inr s15.1))
noncomputable def refine_region_context_2_loop8 (x1 y2 b4 b5 b10 b11 : Int) (b12 : List Int) (q27 : (List Arr2)) (s28 : Int × Int) : Option ((Int × Int) ⊕ (Int)) :=
 (if (decide (s28.2 < ((q27.length : Nat) : Int))) = true then
 (if 0 ≤ s28.2 then
 (q27[s28.2.toNat]?).bind fun e31 =>
 let t32 := IntKind.i64.wrap (2 * s28.1);
 let t33 := IntKind.i64.wrap (x1 - b4);
 (if 0 ≤ (0 : Int) ∧ (0 : Int) < ((2 : Nat) : Int) then
 let t34 := IntKind.i64.wrap (t33 + e31.a0);
 let t35 := IntKind.i64.wrap (y2 - b5);
 (if 0 ≤ (1 : Int) ∧ (1 : Int) < ((2 : Nat) : Int) then
 let t36 := IntKind.i64.wrap (t35 + e31.a1);
 (refine_grid_at b10 b11 b12 t34 t36).bind fun q37 =>
 let t38 := IntKind.i64.wrap q37;
 let t39 := IntKind.i64.wrap (t32 + t38);
 let t40 := IntKind.i64.wrap (s28.2 + 1);
 some (Sum.inl (t39, t40))
 else
 none)
 else
 none)
 else
 none)
 else
 some (Sum.inr s28.1))
theorem refine_region_context_2_eq (x1 y2 b3 b4 b5 : Int) (b6 : Bool) (b7 b8 b9 b10 b11 : Int) (b12 b13 : List Int) : refine_region_context_2 x1 y2 b3 b4 b5 b6 b7 b8 b9 b10 b11 b12 b13 =
 (refine_fresh b3).bind fun q14 =>
 (loop (refine_region_context_2_loop3 x1 y2 b8 b9 b13 q14) (0, 0)).bind (fun n26 =>
 (refine_beside).bind fun q27 =>
 (loop (refine_region_context_2_loop8 x1 y2 b4 b5 b10 b11 b12 q27) (n26, 0)).bind (fun n41 =>
 some (n41, b3, b4, b5, b6, b7, b8, b9, b10, b11, b12, b13))) := (call_eq ..).trans (by kernel_rfl)

theorem bytes_Clone_eq (b1 : List Int) : bytes_Clone b1 =
 (if b1.length = 0 then
 (demon
 (some [])
 ((if (([] : List Int).length + b1.length) * 1 ≤ 140737488355328 then
 let t2 : List Int := ([] : List Int) ++ b1;
 some t2
 else
 none)))
 else
 (if (([] : List Int).length + b1.length) * 1 ≤ 140737488355328 then
 let t3 : List Int := ([] : List Int) ++ b1;
 some t3
 else
 none)) := (call_eq ..).trans (by kernel_rfl)

theorem bits_NewReader_eq (b1 : List Int) : bits_NewReader b1 =
 (if (([] : List Int).length + b1.length) * 1 ≤ 140737488355328 then
 let t2 : List Int := ([] : List Int) ++ b1;
 some (t2, 0)
 else
 none) := (call_eq ..).trans (by kernel_rfl)

noncomputable def runs_newTable_loop8 (e9 : List Int) (s10 : (List Int) × Int) : Option (((List Int) × Int) ⊕ ((List Int))) :=
 (if (decide (s10.2 < ((e9.length : Nat) : Int))) = true then
 (if 0 ≤ s10.2 ∧ s10.2 < (e9.length : Int) then
 let t13 := IntKind.i32.wrap (rd e9 s10.2);
 let t14 := IntKind.i32.wrap (48 + t13);
 (if 0 ≤ t14 ∧ t14 < 128 then
 (if (s10.1).length + (([t14] : List Int)).length ≤ 9223372036854775807 then
 let t15 : List Int := s10.1 ++ [t14];
 let t16 := IntKind.i64.wrap (s10.2 + 1);
 some (Sum.inl (t15, t16))
 else
 none)
 else
 none)
 else
 none)
 else
 some (Sum.inr s10.1))

noncomputable def runs_newTable_loop4_b (loop : type_of% @loop) (runs_newTable_loop8 : type_of% @runs_newTable_loop8) (tr3 : List (List Int)) (s5 : Int × (List Line) × (List (List Int))) : Option ((Int × (List Line) × (List (List Int))) ⊕ ((List Line) × (List (List Int)))) :=
 (if (decide (s5.1 < ((tr3.length : Nat) : Int))) = true then
 (if 0 ≤ s5.1 then
 (tr3[s5.1.toNat]?).bind fun e9 =>
 (loop (runs_newTable_loop8 e9) ([], 0)).bind (fun s20 =>
 (if (s5.2.2.length + ([s20] : List (List Int)).length) * 16 ≤ 140737488355328 then
 let t21 : List (List Int) := s5.2.2 ++ [s20];
 let t22 := IntKind.i64.wrap (s5.1 + 1);
 some (Sum.inl (t22, s5.2.1, t21))
 else
 none))
 else
 none)
 else
 some (Sum.inr (s5.2.1, s5.2.2)))
noncomputable def runs_newTable_loop4 := runs_newTable_loop4_b @loop @runs_newTable_loop8

noncomputable def runs_newTable_b (prefix_Codes : type_of% @prefix_Codes) (loop : type_of% @loop) (runs_newTable_loop4 : type_of% @runs_newTable_loop4) (l1 : List Line) : Option ((List Line) × (List (List Int))) :=
 (prefix_Codes l1).bind fun q2 =>
 (loop (runs_newTable_loop4 q2.1) (0, l1, [])).bind (fun p28 =>
 some (p28.1, p28.2))
theorem runs_newTable_eq l1 : runs_newTable l1 = runs_newTable_b @prefix_Codes @loop @runs_newTable_loop4 l1 := (call_eq ..).trans (by kernel_rfl)

theorem runs_reader_mode_eq (b1 : List Line) (b2 : List (List Int)) (b3 : List Line) (b4 : List (List Int)) (b5 : List Line) (b6 b7 : List (List Int)) (b8 : List Int) (b9 b10 b11 b12 : Int) (b13 b14 : List Int) : runs_reader_mode b1 b2 b3 b4 b5 b6 b7 b8 b9 b10 b11 b12 b13 b14 =
 (runs_reader_word b7 b1 b2 b3 b4 b5 b6 b7 b8 b9).bind fun q15 =>
 let tr18 := q15.2.2.1;
 let tr19 := q15.2.2.2.1;
 let tr20 := q15.2.2.2.2.1;
 let tr21 := q15.2.2.2.2.2.1;
 let tr22 := q15.2.2.2.2.2.2.1;
 let tr23 := q15.2.2.2.2.2.2.2.1;
 let tr24 := q15.2.2.2.2.2.2.2.2.1;
 let tr25 := q15.2.2.2.2.2.2.2.2.2.1;
 let tr26 := q15.2.2.2.2.2.2.2.2.2.2;
 (if (!decide (q15.2.1 = 0)) = true then
 some (q15.2.1, tr18, tr19, tr20, tr21, tr22, tr23, tr24, tr25, tr26, b10, b11, b12, b13, b14)
 else
 let t27 := IntKind.u8.wrap b12;
 (runs_marks b13 b11 t27).bind fun q28 =>
 ((if (decide (q15.1 = 1)) = true then
 (runs_reader_flat tr18 tr19 tr20 tr21 tr22 tr23 tr24 tr25 tr26 b10 b11 b12 b13 b14).bind fun q31 =>
 some (Sum.inr (q31.1, q31.2.1, q31.2.2.1, q31.2.2.2.1, q31.2.2.2.2.1, q31.2.2.2.2.2.1, q31.2.2.2.2.2.2.1, q31.2.2.2.2.2.2.2.1, q31.2.2.2.2.2.2.2.2.1, q31.2.2.2.2.2.2.2.2.2.1, q31.2.2.2.2.2.2.2.2.2.2.1, q31.2.2.2.2.2.2.2.2.2.2.2.1, q31.2.2.2.2.2.2.2.2.2.2.2.2.1, q31.2.2.2.2.2.2.2.2.2.2.2.2.2.1, q31.2.2.2.2.2.2.2.2.2.2.2.2.2.2))
 else
 ((if (decide (q15.1 = 0)) = true then
 some (decide (q28.2 = b10))
 else
 some false) : Option (Bool)).bind (fun v47 =>
 (if v47 = true then
 some (Sum.inr (3, tr18, tr19, tr20, tr21, tr22, tr23, tr24, tr25, tr26, b10, b11, b12, b13, b14))
 else
 (if (decide (q15.1 = 0)) = true then
 (runs_state_fill q28.2 b12 b10 b11 b12 b13 b14).bind fun q48 =>
 some (Sum.inr (0, tr18, tr19, tr20, tr21, tr22, tr23, tr24, tr25, tr26, q48.1, q48.2.1, q48.2.2.1, q48.2.2.2.1, q48.2.2.2.2))
 else
 some (Sum.inl (tr18, tr19, tr20, tr21, tr22, tr23, tr24, tr25, tr26, b10, b11, b12, b13, b14)))))) : Option (((List Line) × (List (List Int)) × (List Line) × (List (List Int)) × (List Line) × (List (List Int)) × (List (List Int)) × (List Int) × Int × Int × Int × Int × (List Int) × (List Int)) ⊕ (Int × (List Line) × (List (List Int)) × (List Line) × (List (List Int)) × (List Line) × (List (List Int)) × (List (List Int)) × (List Int) × Int × Int × Int × Int × (List Int) × (List Int)))).bind (fun o85 =>
 (Sum.elim (fun (p54 : (List Line) × (List (List Int)) × (List Line) × (List (List Int)) × (List Line) × (List (List Int)) × (List (List Int)) × (List Int) × Int × Int × Int × Int × (List Int) × (List Int)) =>
 let b63 := p54.2.2.2.2.2.2.2.2.1;
 let b64 := p54.2.2.2.2.2.2.2.2.2.1;
 let b65 := p54.2.2.2.2.2.2.2.2.2.2.1;
 let b66 := p54.2.2.2.2.2.2.2.2.2.2.2.1;
 let b67 := p54.2.2.2.2.2.2.2.2.2.2.2.2.1;
 let b68 := p54.2.2.2.2.2.2.2.2.2.2.2.2.2;
 let t86 := IntKind.i64.wrap (q28.1 + q15.1);
 let t87 := IntKind.i64.wrap (t86 - 5);
 ((if (decide (t87 ≤ b65)) = true then
 some true
 else
 some (decide (t87 > b64))) : Option (Bool)).bind (fun v88 =>
 (if v88 = true then
 some (3, p54.1, p54.2.1, p54.2.2.1, p54.2.2.2.1, p54.2.2.2.2.1, p54.2.2.2.2.2.1, p54.2.2.2.2.2.2.1, p54.2.2.2.2.2.2.2.1, b63, b64, b65, b66, b67, b68)
 else
 (runs_state_fill t87 b66 b64 b65 b66 b67 b68).bind fun q89 =>
 let t95 := IntKind.i64.wrap (1 - q89.2.2.1);
 some (0, p54.1, p54.2.1, p54.2.2.1, p54.2.2.2.1, p54.2.2.2.2.1, p54.2.2.2.2.2.1, p54.2.2.2.2.2.2.1, p54.2.2.2.2.2.2.2.1, b63, q89.1, q89.2.1, t95, q89.2.2.2.1, q89.2.2.2.2))))
 (fun (p69 : Int × (List Line) × (List (List Int)) × (List Line) × (List (List Int)) × (List Line) × (List (List Int)) × (List (List Int)) × (List Int) × Int × Int × Int × Int × (List Int) × (List Int)) =>
 some (p69.1, p69.2.1, p69.2.2.1, p69.2.2.2.1, p69.2.2.2.2.1, p69.2.2.2.2.2.1, p69.2.2.2.2.2.2.1, p69.2.2.2.2.2.2.2.1, p69.2.2.2.2.2.2.2.2.1, p69.2.2.2.2.2.2.2.2.2.1, p69.2.2.2.2.2.2.2.2.2.2.1, p69.2.2.2.2.2.2.2.2.2.2.2.1, p69.2.2.2.2.2.2.2.2.2.2.2.2.1, p69.2.2.2.2.2.2.2.2.2.2.2.2.2.1, p69.2.2.2.2.2.2.2.2.2.2.2.2.2.2)) o85))) := (call_eq ..).trans (by kernel_rfl)

theorem bits_Reader_none_eq (b1 : List Int) (b2 : Int) : bits_Reader_none b1 b2 =
 some (false, b1, b2) := (call_eq ..).trans (by kernel_rfl)

theorem runs_reader_run_eq (colour1 : Int) (b2 : List Line) (b3 : List (List Int)) (b4 : List Line) (b5 : List (List Int)) (b6 : List Line) (b7 b8 : List (List Int)) (b9 : List Int) (b10 : Int) : runs_reader_run colour1 b2 b3 b4 b5 b6 b7 b8 b9 b10 =
 (runs_reader_number b2 b3 b2 b3 b4 b5 b6 b7 b8 b9 b10).bind fun q11 =>
 let tr16 := q11.2.2.2.2.1;
 let tr17 := q11.2.2.2.2.2.1;
 let tr18 := q11.2.2.2.2.2.2.1;
 let tr19 := q11.2.2.2.2.2.2.2.1;
 let tr20 := q11.2.2.2.2.2.2.2.2.1;
 let tr21 := q11.2.2.2.2.2.2.2.2.2.1;
 let tr22 := q11.2.2.2.2.2.2.2.2.2.2;
 (if (!decide (q11.2.1 = 0)) = true then
 some (0, q11.2.1, q11.2.2.1, q11.2.2.2.1, tr16, tr17, tr18, tr19, tr20, tr21, tr22)
 else
 (if 0 ≤ colour1 ∧ colour1 < ((2 : Nat) : Int) then
 (if colour1 = ((1 : Nat) : Int) then
 (runs_reader_number tr18 tr19 q11.2.2.1 q11.2.2.2.1 tr16 tr17 tr18 tr19 tr20 tr21 tr22).bind fun q23 =>
 let tr29 := q23.2.2.2.2.2.1;
 let tr30 := q23.2.2.2.2.2.2.1;
 let tr31 := q23.2.2.2.2.2.2.2.1;
 let tr32 := q23.2.2.2.2.2.2.2.2.1;
 let tr33 := q23.2.2.2.2.2.2.2.2.2.1;
 let tr34 := q23.2.2.2.2.2.2.2.2.2.2;
 (if (!decide (q23.2.1 = 0)) = true then
 some (0, q23.2.1, q23.2.2.1, q23.2.2.2.1, q23.2.2.2.2.1, tr29, tr30, tr31, tr32, tr33, tr34)
 else
 (if (decide (q23.1 ≥ 64)) = true then
 some (0, 3, q23.2.2.1, q23.2.2.2.1, q23.2.2.2.2.1, tr29, tr30, tr31, tr32, tr33, tr34)
 else
 let t35 := IntKind.i64.wrap (q11.1 * 64);
 let t36 := IntKind.i64.wrap (t35 + q23.1);
 some (t36, 0, q23.2.2.1, q23.2.2.2.1, q23.2.2.2.2.1, tr29, tr30, tr31, tr32, tr33, tr34)))
 else
 (if colour1 = ((0 : Nat) : Int) then
 (runs_reader_number tr16 tr17 q11.2.2.1 q11.2.2.2.1 tr16 tr17 tr18 tr19 tr20 tr21 tr22).bind fun q37 =>
 let tr43 := q37.2.2.2.2.2.1;
 let tr44 := q37.2.2.2.2.2.2.1;
 let tr45 := q37.2.2.2.2.2.2.2.1;
 let tr46 := q37.2.2.2.2.2.2.2.2.1;
 let tr47 := q37.2.2.2.2.2.2.2.2.2.1;
 let tr48 := q37.2.2.2.2.2.2.2.2.2.2;
 (if (!decide (q37.2.1 = 0)) = true then
 some (0, q37.2.1, q37.2.2.1, q37.2.2.2.1, q37.2.2.2.2.1, tr43, tr44, tr45, tr46, tr47, tr48)
 else
 (if (decide (q37.1 ≥ 64)) = true then
 some (0, 3, q37.2.2.1, q37.2.2.2.1, q37.2.2.2.2.1, tr43, tr44, tr45, tr46, tr47, tr48)
 else
 let t49 := IntKind.i64.wrap (q11.1 * 64);
 let t50 := IntKind.i64.wrap (t49 + q37.1);
 some (t50, 0, q37.2.2.1, q37.2.2.2.1, q37.2.2.2.2.1, tr43, tr44, tr45, tr46, tr47, tr48)))
 else
 none))
 else
 none)) := (call_eq ..).trans (by kernel_rfl)

noncomputable def slices_Repeat_byte_byte_loop8 (s12 : Int × (List Int)) : Option ((Int × (List Int)) ⊕ ((List Int))) :=
 let n13 := s12.1;
 let b14 := s12.2;
 (if (decide (n13 < ((b14.length : Nat) : Int))) = true then
 (if 0 ≤ n13 ∧ n13 ≤ ((b14.length : Nat) : Int) then
 (if 0 ≤ n13 ∧ n13 ≤ ((b14.length : Nat) : Int) then
 let w15 : List Int := b14.take n13.toNat ++ ((b14.drop 0).take (n13.toNat - 0)).take (min ((b14.drop 0).take (n13.toNat - 0)).length (b14.length - n13.toNat)) ++ b14.drop (n13.toNat + min ((b14.drop 0).take (n13.toNat - 0)).length (b14.length - n13.toNat));
 let t16 := IntKind.i64.wrap (n13 + ((min ((b14.drop 0).take (n13.toNat - 0)).length (b14.length - n13.toNat) : Nat) : Int));
 some (Sum.inl (t16, w15))
 else
 none)
 else
 none)
 else
 some (Sum.inr b14))
noncomputable def slices_Repeat_byte_byte_b (math_bits_Mul : type_of% @math_bits_Mul) (loop : type_of% @loop) (slices_Repeat_byte_byte_loop8 : type_of% @slices_Repeat_byte_byte_loop8) (x1 : List Int) (count2 : Int) : Option (List Int) :=
 (if (decide (count2 < 0)) = true then
 none
 else
 let t3 := IntKind.u64.wrap ((x1.length : Nat) : Int);
 let t4 := IntKind.u64.wrap count2;
 (math_bits_Mul t3 t4).bind fun q5 =>
 ((if (decide (q5.1 > 0)) = true then
 some true
 else
 some (decide (q5.2 > 9223372036854775807))) : Option (Bool)).bind (fun v8 =>
 (if v8 = true then
 none
 else
 let t9 := IntKind.i64.wrap q5.2;
 (if 0 ≤ t9 ∧ t9 ≤ t9 ∧ ((1 : Nat) : Int) * t9 ≤ 281474976710656 then
 let t10 : List Int := List.replicate t9.toNat 0;
 let w11 : List Int := t10.take 0 ++ x1.take (min x1.length t10.length) ++ t10.drop (0 + min x1.length t10.length);
 (loop (slices_Repeat_byte_byte_loop8) (((min x1.length t10.length : Nat) : Int), w11)).bind (fun b17 =>
 some b17)
 else
 none))))
theorem slices_Repeat_byte_byte_eq x1 count2 : slices_Repeat_byte_byte x1 count2 = slices_Repeat_byte_byte_b @math_bits_Mul @loop @slices_Repeat_byte_byte_loop8 x1 count2 := (call_eq ..).trans (by kernel_rfl)

noncomputable def prefix_Codes_loop5_b (prefix_digits : type_of% @prefix_digits) (q3 : (List Code)) (s4 : Int × (List (List Int))) : Option ((Int × (List (List Int))) ⊕ ((List (List Int)))) :=
 (if (decide (s4.1 < ((q3.length : Nat) : Int))) = true then
 (if 0 ≤ s4.1 then
 (q3[s4.1.toNat]?).bind fun e7 =>
 (prefix_digits e7.bits e7.length).bind fun q8 =>
 (if (s4.2.length + ([q8] : List (List Int)).length) * 24 ≤ 140737488355328 then
 let t9 : List (List Int) := s4.2 ++ [q8];
 let t10 := IntKind.i64.wrap (s4.1 + 1);
 some (Sum.inl (t10, t9))
 else
 none)
 else
 none)
 else
 some (Sum.inr s4.2))
noncomputable def prefix_Codes_loop5 := prefix_Codes_loop5_b @prefix_digits
noncomputable def prefix_Codes_b (prefix_Valid : type_of% @prefix_Valid) (prefix_codes : type_of% @prefix_codes) (loop : type_of% @loop) (prefix_Codes_loop5 : type_of% @prefix_Codes_loop5) (a1 : List Line) : Option ((List (List Int)) × Int) :=
 (prefix_Valid a1).bind fun q2 =>
 (if (!q2) = true then
 some ([], 20)
 else
 (prefix_codes a1).bind fun q3 =>
 (loop (prefix_Codes_loop5 q3) (0, [])).bind (fun out11 =>
 some (out11, 0)))
theorem prefix_Codes_eq a1 : prefix_Codes a1 = prefix_Codes_b @prefix_Valid @prefix_codes @loop @prefix_Codes_loop5 a1 := (call_eq ..).trans (by kernel_rfl)

noncomputable def runs_reader_word_loop2 (l1 : List (List Int)) (s11 : (List Int) × Int × (List Int)) : Option (((List Int) × Int × (List Int)) ⊕ (Int × Int × (List Int) × Int × (List Int))) :=
 (slices_Index_string_string l1 s11.2.2).bind fun q15 =>
 ((if (decide (q15 ≥ 0)) = true then
 some (!decide (s11.2.2 = []))
 else
 some false) : Option (Bool)).bind (fun v16 =>
 (if v16 = true then
 some (Sum.inr (q15, 0, s11.1, s11.2.1, s11.2.2))
 else
 (slices_ContainsFunc_string_string l1 s11.2.2).bind fun q17 =>
 (if (!q17.1) = true then
 some (Sum.inr (0, 3, s11.1, s11.2.1, q17.2))
 else
 (bits_Reader_Bits 1 s11.1 s11.2.1).bind fun q20 =>
 (if (!decide (q20.2.1 = 0)) = true then
 some (Sum.inr (0, q20.2.1, q20.2.2.1, q20.2.2.2, q17.2))
 else
 let t25 := IntKind.i32.wrap q20.1;
 let t26 := IntKind.i32.wrap (48 + t25);
 (if 0 ≤ t26 ∧ t26 < 128 then
 (if (q17.2).length + (([t26] : List Int)).length ≤ 9223372036854775807 then
 let t27 : List Int := q17.2 ++ [t26];
 some (Sum.inl (q20.2.2.1, q20.2.2.2, t27))
 else
 none)
 else
 none)))))
theorem runs_reader_word_eq (l1 : List (List Int)) (b2 : List Line) (b3 : List (List Int)) (b4 : List Line) (b5 : List (List Int)) (b6 : List Line) (b7 b8 : List (List Int)) (b9 : List Int) (b10 : Int) : runs_reader_word l1 b2 b3 b4 b5 b6 b7 b8 b9 b10 =
 (loop (runs_reader_word_loop2 l1) (b9, b10, [])).bind (fun p28 =>
 some (p28.1, p28.2.1, b2, b3, b4, b5, b6, b7, b8, p28.2.2.1, p28.2.2.2.1)) := (call_eq ..).trans (by kernel_rfl)

theorem runs_reader_flat_eq (b1 : List Line) (b2 : List (List Int)) (b3 : List Line) (b4 : List (List Int)) (b5 : List Line) (b6 b7 : List (List Int)) (b8 : List Int) (b9 b10 b11 b12 : Int) (b13 b14 : List Int) : runs_reader_flat b1 b2 b3 b4 b5 b6 b7 b8 b9 b10 b11 b12 b13 b14 =
 (runs_reader_run b12 b1 b2 b3 b4 b5 b6 b7 b8 b9).bind fun q15 =>
 let tr21 := q15.2.2.2.2.2.1;
 let tr22 := q15.2.2.2.2.2.2.1;
 let tr23 := q15.2.2.2.2.2.2.2.1;
 let tr24 := q15.2.2.2.2.2.2.2.2.1;
 let tr25 := q15.2.2.2.2.2.2.2.2.2.1;
 let tr26 := q15.2.2.2.2.2.2.2.2.2.2;
 (if (!decide (q15.2.1 = 0)) = true then
 some (q15.2.1, q15.2.2.1, q15.2.2.2.1, q15.2.2.2.2.1, tr21, tr22, tr23, tr24, tr25, tr26, b10, b11, b12, b13, b14)
 else
 let t27 := IntKind.i64.wrap (((b14.length : Nat) : Int) + q15.1);
 ((if (decide (q15.1 = 0)) = true then
 (if (decide (b11 ≥ 0)) = true then
 some true
 else
 some (decide (t27 > b10)))
 else
 some (decide (t27 > b10))) : Option (Bool)).bind (fun v28 =>
 (if v28 = true then
 some (3, q15.2.2.1, q15.2.2.2.1, q15.2.2.2.2.1, tr21, tr22, tr23, tr24, tr25, tr26, b10, b11, b12, b13, b14)
 else
 let t29 := IntKind.i64.wrap (1 - b12);
 (runs_reader_run t29 q15.2.2.1 q15.2.2.2.1 q15.2.2.2.2.1 tr21 tr22 tr23 tr24 tr25 tr26).bind fun q30 =>
 let tr36 := q30.2.2.2.2.2.1;
 let tr37 := q30.2.2.2.2.2.2.1;
 let tr38 := q30.2.2.2.2.2.2.2.1;
 let tr39 := q30.2.2.2.2.2.2.2.2.1;
 let tr40 := q30.2.2.2.2.2.2.2.2.2.1;
 let tr41 := q30.2.2.2.2.2.2.2.2.2.2;
 (if (!decide (q30.2.1 = 0)) = true then
 some (q30.2.1, q30.2.2.1, q30.2.2.2.1, q30.2.2.2.2.1, tr36, tr37, tr38, tr39, tr40, tr41, b10, b11, b12, b13, b14)
 else
 (let t42 := IntKind.i64.wrap (b10 - t27);
 (if (decide (q30.1 > t42)) = true then
 some true
 else
 some (!decide (decide (q30.1 = 0) = decide (t27 = b10)))) : Option (Bool)).bind (fun v43 =>
 (if v43 = true then
 some (3, q30.2.2.1, q30.2.2.2.1, q30.2.2.2.2.1, tr36, tr37, tr38, tr39, tr40, tr41, b10, b11, b12, b13, b14)
 else
 (runs_state_fill t27 b12 b10 b11 b12 b13 b14).bind fun q44 =>
 let t50 := IntKind.i64.wrap (t27 + q30.1);
 let t51 := IntKind.i64.wrap (1 - q44.2.2.1);
 (runs_state_fill t50 t51 q44.1 q44.2.1 q44.2.2.1 q44.2.2.2.1 q44.2.2.2.2).bind fun q52 =>
 some (0, q30.2.2.1, q30.2.2.2.1, q30.2.2.2.2.1, tr36, tr37, tr38, tr39, tr40, tr41, q52.1, q52.2.1, q52.2.2.1, q52.2.2.2.1, q52.2.2.2.2))))))) := (call_eq ..).trans (by kernel_rfl)

theorem runs_state_fill_eq (x1 colour2 b3 b4 b5 : Int) (b6 b7 : List Int) : runs_state_fill x1 colour2 b3 b4 b5 b6 b7 =
 let t8 := IntKind.u8.wrap colour2;
 let t9 := IntKind.i64.wrap (x1 - ((b7.length : Nat) : Int));
 (slices_Repeat_byte_byte [t8] t9).bind fun q10 =>
 (if (b7.length + q10.length) * 1 ≤ 140737488355328 then
 let t11 : List Int := b7 ++ q10;
 some (b3, x1, b5, b6, t11)
 else
 none) := (call_eq ..).trans (by kernel_rfl)

theorem runs_reader_number_eq (a1 : List Line) (a2 : List (List Int)) (b3 : List Line) (b4 : List (List Int)) (b5 : List Line) (b6 : List (List Int)) (b7 : List Line) (b8 b9 : List (List Int)) (b10 : List Int) (b11 : Int) : runs_reader_number a1 a2 b3 b4 b5 b6 b7 b8 b9 b10 b11 =
 (runs_reader_word a2 b3 b4 b5 b6 b7 b8 b9 b10 b11).bind fun q12 =>
 let tr22 := q12.2.2.2.2.2.2.2.2.2.1;
 let tr23 := q12.2.2.2.2.2.2.2.2.2.2;
 (if (!decide (q12.2.1 = 0)) = true then
 some (0, q12.2.1, q12.2.2.1, q12.2.2.2.1, q12.2.2.2.2.1, q12.2.2.2.2.2.1, q12.2.2.2.2.2.2.1, q12.2.2.2.2.2.2.2.1, q12.2.2.2.2.2.2.2.2.1, tr22, tr23)
 else
 (if 0 ≤ q12.1 then
 (a1[q12.1.toNat]?).bind fun e24 =>
 (bits_Reader_Bits e24.bits tr22 tr23).bind fun q25 =>
 (if 0 ≤ q12.1 then
 (a1[q12.1.toNat]?).bind fun e30 =>
 let t31 := IntKind.i64.wrap (q25.1 + e30.low);
 some (t31, q25.2.1, q12.2.2.1, q12.2.2.2.1, q12.2.2.2.2.1, q12.2.2.2.2.2.1, q12.2.2.2.2.2.2.1, q12.2.2.2.2.2.2.2.1, q12.2.2.2.2.2.2.2.2.1, q25.2.2.1, q25.2.2.2)
 else
 none)
 else
 none)) := (call_eq ..).trans (by kernel_rfl)

noncomputable def math_bits_Mul_b (math_bits_Mul64 : type_of% @math_bits_Mul64) (x1 y2 : Int) : Option (Int × Int) :=
 (math_bits_Mul64 x1 y2).bind fun q3 =>
 some (q3.1, q3.2)
theorem math_bits_Mul_eq x1 y2 : math_bits_Mul x1 y2 = math_bits_Mul_b @math_bits_Mul64 x1 y2 := (call_eq ..).trans (by kernel_rfl)

noncomputable def slices_Index_string_string_loop2 (s1 : List (List Int)) (v2 : List Int) (v3 : Int) : Option ((Int) ⊕ ((Unit) ⊕ (Int))) :=
 (if (decide (v3 < ((s1.length : Nat) : Int))) = true then
 (if 0 ≤ v3 then
 (s1[v3.toNat]?).bind fun e4 =>
 (if (decide (v2 = e4)) = true then
 some (Sum.inr (Sum.inr v3))
 else
 let t5 := IntKind.i64.wrap (v3 + 1);
 some (Sum.inl t5))
 else
 none)
 else
 some (Sum.inr (Sum.inl ())))

noncomputable def slices_Index_string_string_b (loop : type_of% @loop) (slices_Index_string_string_loop2 : type_of% @slices_Index_string_string_loop2) (s1 : List (List Int)) (v2 : List Int) : Option Int :=
 (loop (slices_Index_string_string_loop2 s1 v2) 0).bind (fun o11 =>
 (Sum.elim (fun (p9 : Unit) =>
 some (-1))
 (fun (v10 : Int) =>
 some v10) o11))
theorem slices_Index_string_string_eq s1 v2 : slices_Index_string_string s1 v2 = slices_Index_string_string_b @loop @slices_Index_string_string_loop2 s1 v2 := (call_eq ..).trans (by kernel_rfl)

noncomputable def slices_ContainsFunc_string_string_b (slices_IndexFunc_string_string : type_of% @slices_IndexFunc_string_string) (s1 : List (List Int)) (b2 : List Int) : Option (Bool × (List Int)) :=
 (slices_IndexFunc_string_string s1 b2).bind fun q3 =>
 some (decide (q3.1 ≥ 0), q3.2)
theorem slices_ContainsFunc_string_string_eq s1 b2 : slices_ContainsFunc_string_string s1 b2 = slices_ContainsFunc_string_string_b @slices_IndexFunc_string_string s1 b2 := (call_eq ..).trans (by kernel_rfl)

noncomputable def bits_Reader_Bits_loop9 (n1 : Int) (s22 : Int × Int × (List Int) × Int) : Option ((Int × Int × (List Int) × Int) ⊕ (Int × (List Int) × Int)) :=
 let b25 := s22.2.2.1;
 let b26 := s22.2.2.2;
 (if (decide (s22.2.1 < n1)) = true then
 let t27 := IntKind.i64.wrap (2 * s22.1);
 let t28 := IntKind.i64.wrap (b26.tdiv 8);
 (if 0 ≤ t28 ∧ t28 < (b25.length : Int) then
 let t29 : Int := b26.tmod 8;
 let t30 := IntKind.i64.wrap (7 - t29);
 (if t30 < 0 then
 none
 else
 let t31 := ishr .u8 (rd b25 t28) t30;
 let t32 := iand .u8 t31 1;
 let t33 := IntKind.i64.wrap t32;
 let t34 := IntKind.i64.wrap (t27 + t33);
 let t35 := IntKind.i64.wrap (b26 + 1);
 let t36 := IntKind.i64.wrap (s22.2.1 + 1);
 some (Sum.inl (t34, t36, b25, t35)))
 else
 none)
 else
 some (Sum.inr (s22.1, b25, b26)))

theorem bits_Reader_Bits_eq (n1 : Int) (b2 : List Int) (b3 : Int) : bits_Reader_Bits n1 b2 b3 =
 (bits_Reader_none b2 b3).bind fun q4 =>
 ((if q4.1 = true then
 some (Sum.inr (0, 7, q4.2.1, q4.2.2))
 else
 ((if (decide (n1 < 0)) = true then
 some true
 else
 some (decide (n1 > 32))) : Option (Bool)).bind (fun v8 =>
 (if v8 = true then
 some (Sum.inr (0, 2, q4.2.1, q4.2.2))
 else
 (bits_Reader_Left q4.2.1 q4.2.2).bind fun q9 =>
 (if (decide (n1 > q9.1)) = true then
 some (Sum.inr (0, 6, q9.2.1, q9.2.2))
 else
 some (Sum.inl (q9.2.1, q9.2.2)))))) : Option (((List Int) × Int) ⊕ (Int × Int × (List Int) × Int))).bind (fun o21 =>
 (Sum.elim (fun (p13 : (List Int) × Int) =>
 (loop (bits_Reader_Bits_loop9 n1) (0, 0, p13.1, p13.2)).bind (fun p43 =>
 some (p43.1, 0, p43.2.1, p43.2.2)))
 (fun (p16 : Int × Int × (List Int) × Int) =>
 some (p16.1, p16.2.1, p16.2.2.1, p16.2.2.2)) o21)) := (call_eq ..).trans (by kernel_rfl)

noncomputable def math_bits_Mul64_b (x1 y2 : Int) : Option (Int × Int) :=
 let t3 := iand .u64 x1 4294967295;
 let t4 := ishr .u64 x1 32;
 let t5 := iand .u64 y2 4294967295;
 let t6 := ishr .u64 y2 32;
 let t7 := IntKind.u64.wrap (t3 * t5);
 let t8 := IntKind.u64.wrap (t4 * t5);
 let t9 := ishr .u64 t7 32;
 let t10 := IntKind.u64.wrap (t8 + t9);
 let t11 := iand .u64 t10 4294967295;
 let t12 := ishr .u64 t10 32;
 let t13 := IntKind.u64.wrap (t3 * t6);
 let t14 := IntKind.u64.wrap (t11 + t13);
 let t15 := IntKind.u64.wrap (t4 * t6);
 let t16 := IntKind.u64.wrap (t15 + t12);
 let t17 := ishr .u64 t14 32;
 let t18 := IntKind.u64.wrap (t16 + t17);
 let t19 := IntKind.u64.wrap (x1 * y2);
 some (t18, t19)
theorem math_bits_Mul64_eq x1 y2 : math_bits_Mul64 x1 y2 = math_bits_Mul64_b x1 y2 := (call_eq ..).trans (by kernel_rfl)

noncomputable def slices_IndexFunc_string_string_loop2_b (runs_reader_word_1 : type_of% @runs_reader_word_1) (s1 : List (List Int)) (s3 : Int × (List Int)) : Option ((Int × (List Int)) ⊕ (((List Int)) ⊕ (Int × (List Int)))) :=
 (if (decide (s3.1 < ((s1.length : Nat) : Int))) = true then
 (if 0 ≤ s3.1 then
 (s1[s3.1.toNat]?).bind fun e6 =>
 (runs_reader_word_1 e6 s3.2).bind fun q7 =>
 (if q7.1 = true then
 some (Sum.inr (Sum.inr (s3.1, q7.2)))
 else
 let t10 := IntKind.i64.wrap (s3.1 + 1);
 some (Sum.inl (t10, q7.2)))
 else
 none)
 else
 some (Sum.inr (Sum.inl s3.2)))
noncomputable def slices_IndexFunc_string_string_loop2 := slices_IndexFunc_string_string_loop2_b @runs_reader_word_1

noncomputable def slices_IndexFunc_string_string_b (loop : type_of% @loop) (slices_IndexFunc_string_string_loop2 : type_of% @slices_IndexFunc_string_string_loop2) (s1 : List (List Int)) (b2 : List Int) : Option (Int × (List Int)) :=
 (loop (slices_IndexFunc_string_string_loop2 s1) (0, b2)).bind (fun o18 =>
 (Sum.elim (fun (b14 : (List Int)) =>
 some ((-1), b14))
 (fun (p15 : Int × (List Int)) =>
 some (p15.1, p15.2)) o18))
theorem slices_IndexFunc_string_string_eq s1 b2 : slices_IndexFunc_string_string s1 b2 = slices_IndexFunc_string_string_b @loop @slices_IndexFunc_string_string_loop2 s1 b2 := (call_eq ..).trans (by kernel_rfl)

theorem bits_Reader_Left_eq (b1 : List Int) (b2 : Int) : bits_Reader_Left b1 b2 =
 (bits_Reader_none b1 b2).bind fun q3 =>
 (if q3.1 = true then
 some (0, q3.2.1, q3.2.2)
 else
 let t7 := IntKind.i64.wrap (8 * ((q3.2.1.length : Nat) : Int));
 let t8 := IntKind.i64.wrap (t7 - q3.2.2);
 some (t8, q3.2.1, q3.2.2)) := (call_eq ..).trans (by kernel_rfl)

noncomputable def runs_reader_word_1_b (strings_HasPrefix : type_of% @strings_HasPrefix) (w1 b2 : List Int) : Option (Bool × (List Int)) :=
 (strings_HasPrefix w1 b2).bind fun q3 =>
 some (q3, b2)
theorem runs_reader_word_1_eq w1 b2 : runs_reader_word_1 w1 b2 = runs_reader_word_1_b @strings_HasPrefix w1 b2 := (call_eq ..).trans (by kernel_rfl)

noncomputable def strings_HasPrefix_b (internal_stringslite_HasPrefix : type_of% @internal_stringslite_HasPrefix) (s1 prefix2 : List Int) : Option Bool :=
 (internal_stringslite_HasPrefix s1 prefix2).bind fun q3 =>
 some q3
theorem strings_HasPrefix_eq s1 prefix2 : strings_HasPrefix s1 prefix2 = strings_HasPrefix_b @internal_stringslite_HasPrefix s1 prefix2 := (call_eq ..).trans (by kernel_rfl)

noncomputable def internal_stringslite_HasPrefix_b (s1 prefix2 : List Int) : Option Bool :=
 (if (decide (((s1.length : Nat) : Int) ≥ ((prefix2.length : Nat) : Int))) = true then
 (if 0 ≤ ((prefix2.length : Nat) : Int) ∧ ((prefix2.length : Nat) : Int) ≤ ((s1.length : Nat) : Int) then
 let t3 : List Int := cutL s1 0 (((prefix2.length : Nat) : Int).toNat);
 some (decide (t3 = prefix2))
 else
 none)
 else
 some false)
theorem internal_stringslite_HasPrefix_eq s1 prefix2 : internal_stringslite_HasPrefix s1 prefix2 = internal_stringslite_HasPrefix_b s1 prefix2 := (call_eq ..).trans (by kernel_rfl)
end
end Go.Proofs.YtgffdmgidnnedaaGreat.P
