/- The equations of functions. Printed by wip/tool/vsym.py. -/
import Derived.Test.YthnonplijagpdaaGreatG
import Derived.Test.YthnonplijagpdaaGreatLib
namespace Go.Proofs.YthnonplijagpdaaGreat.P
open Go Go.Proofs.YthnonplijagpdaaGreat.V
set_option linter.unusedVariables false
set_option linter.unusedSimpArgs false
set_option maxRecDepth 100000
noncomputable section
theorem chunk_valid_eq (l1 : List Chunk) : chunk_valid l1 =
 (chunk_looks_right l1 1 0).bind fun q2 =>
 let tr3 := q2.1;
 let tr4 := q2.2;
 some tr3 := (call_eq ..).trans (by kernel_rfl)

theorem chunk_size_eq (c1 c2 c3 : List Int) (c4 : List Chunk) : chunk_size c1 c2 c3 c4 =
 (chunk_length c1 c2 c3 c4).bind fun q5 =>
 let t6 := IntKind.i64.wrap (q5 + 1);
 let t7 := IntKind.i64.wrap (t6.tdiv 2);
 let t8 := IntKind.i64.wrap (t7 * 2);
 let t9 := IntKind.i64.wrap (8 + t8);
 some t9 := (call_eq ..).trans (by kernel_rfl)

noncomputable def chunk_put_loop7 (c4 : List Chunk) (s17 : Int × (List Int)) : Option ((Int × (List Int)) ⊕ ((List Int))) :=
 let v18 := s17.1;
 let out19 := s17.2;
 (if (decide (v18 < ((c4.length : Nat) : Int))) = true then
 (if 0 ≤ v18 then
 (c4[v18.toNat]?).bind fun e20 =>
 (chunk_put e20.id e20.kind e20.data e20.kids out19).bind fun q21 =>
 let t22 := IntKind.i64.wrap (v18 + 1);
 some (Sum.inl (t22, q21))
 else
 none)
 else
 some (Sum.inr out19))
noncomputable def chunk_put_loop7_step (i23 : Nat) (x24 : Chunk) (s25 : (List Int)) : Option (((List Int)) ⊕ ((List Int))) :=
 (chunk_put x24.id x24.kind x24.data x24.kids s25).bind fun q21 =>
 some (Sum.inl (q21))
theorem chunk_put_loop7_over (c4 : List Chunk) (hl : c4.length ≤ 9223372036854775807) (s25 : (List Int)) : loop (chunk_put_loop7 c4) ((0, s25) : Int × (List Int)) =
    overL (chunk_put_loop7_step) (fun (s25 : (List Int)) => some s25) 0 c4 s25 := by
  refine loop_over c4 (fun n (s : (List Int)) => ((((n : Nat) : Int), s) : Int × (List Int))) _ _ (fun s => ?_) (fun i x s h => ?_) 0 s25 (Nat.zero_le _)
  · unfold chunk_put_loop7; simp
  · have hlt := lt_len_of_get h
    have h1 : ((i : Nat) : Int) < ((c4.length : Nat) : Int) := by omega
    have h0 : (0 : Int) ≤ ((i : Nat) : Int) := by omega
    have hw : IntKind.i64.wrap (((i : Nat) : Int) + 1) = (((i + 1 : Nat) : Nat) : Int) := w64 (by omega)
    unfold chunk_put_loop7 chunk_put_loop7_step
    simp only [h1, h0, hw, h, decide_true, if_true, and_self, true_and, Int.toNat_natCast, Option.bind_some, Option.map_bind, Function.comp_def, map_ite, map_elim, Option.map_some, Option.map_none]

theorem chunk_put_eq (c1 c2 c3 : List Int) (c4 : List Chunk) (b5 : List Int) : chunk_put c1 c2 c3 c4 b5 =
 (chunk_length c1 c2 c3 c4).bind fun q6 =>
 (if (b5.length + c1.length) * 1 ≤ 140737488355328 then
 let t7 : List Int := b5 ++ c1;
 let t8 := ishr .i64 q6 24;
 let t9 := IntKind.u8.wrap t8;
 let t10 := ishr .i64 q6 16;
 let t11 := IntKind.u8.wrap t10;
 let t12 := ishr .i64 q6 8;
 let t13 := IntKind.u8.wrap t12;
 let t14 := IntKind.u8.wrap q6;
 (if (t7.length + ([t9, t11, t13, t14] : List Int).length) * 1 ≤ 140737488355328 then
 let t15 : List Int := t7 ++ [t9, t11, t13, t14];
 ((if (decide (c1 = [70, 79, 82, 77])) = true then
 (if (t15.length + c2.length) * 1 ≤ 140737488355328 then
 let t16 : List Int := t15 ++ c2;
 (loop (chunk_put_loop7 c4) (0, t16)).bind (fun out26 =>
 some out26)
 else
 none)
 else
 (if (t15.length + c3.length) * 1 ≤ 140737488355328 then
 let t27 : List Int := t15 ++ c3;
 some t27
 else
 none)) : Option ((List Int))).bind (fun out28 =>
 let t29 : Int := q6.tmod 2;
 (if (decide (t29 = 1)) = true then
 (if (out28.length + ([0] : List Int).length) * 1 ≤ 140737488355328 then
 let t30 : List Int := out28 ++ [0];
 some t30
 else
 none)
 else
 some out28))
 else
 none)
 else
 none) := (call_eq ..).trans (by kernel_rfl)

theorem chunk_reader_id_eq (at1 end2 : Int) (b3 : List Int) (b4 b5 b6 : Int) : chunk_reader_id at1 end2 b3 b4 b5 b6 =
 let t7 := IntKind.i64.wrap (end2 - at1);
 (chunk_reader_fail (decide (t7 ≥ 4)) 6 at1 b3 b4 b5 b6).bind fun q8 =>
 let tr9 := q8.1;
 let tr10 := q8.2.1;
 let tr11 := q8.2.2.1;
 let tr12 := q8.2.2.2.1;
 let tr13 := q8.2.2.2.2;
 (if (!tr9) = true then
 some ([], tr10, tr11, tr12, tr13)
 else
 let t14 := IntKind.i64.wrap (at1 + 4);
 (if 0 ≤ t14 ∧ t14 ≤ ((tr10.length : Nat) : Int) then
 (if 0 ≤ at1 ∧ at1 ≤ t14 then
 let t15 : List Int := cutL tr10 at1.toNat t14.toNat;
 (chunk_isId t15).bind fun q16 =>
 (chunk_reader_fail q16 3 at1 tr10 tr11 tr12 tr13).bind fun q17 =>
 let tr18 := q17.1;
 let tr19 := q17.2.1;
 let tr20 := q17.2.2.1;
 let tr21 := q17.2.2.2.1;
 let tr22 := q17.2.2.2.2;
 some (t15, tr19, tr20, tr21, tr22)
 else
 none)
 else
 none)) := (call_eq ..).trans (by kernel_rfl)

theorem chunk_reader_fail_eq (ok1 : Bool) (err2 at3 : Int) (b4 : List Int) (b5 b6 b7 : Int) : chunk_reader_fail ok1 err2 at3 b4 b5 b6 b7 =
 ((if (decide (b6 = 0)) = true then
 some (!ok1)
 else
 some false) : Option (Bool)).bind (fun v8 =>
 (if v8 = true then
 some (decide (err2 = 0), b4, b5, err2, at3)
 else
 some (decide (b6 = 0), b4, b5, b6, b7))) := (call_eq ..).trans (by kernel_rfl)

theorem chunk_reader_id_2_eq (at1 end2 : Int) (b3 : List Int) (b4 b5 b6 : Int) : chunk_reader_id_2 at1 end2 b3 b4 b5 b6 =
 let t7 := IntKind.i64.wrap (end2 - at1);
 (chunk_reader_fail (decide (t7 ≥ 4)) 6 at1 b3 b4 b5 b6).bind fun q8 =>
 let tr9 := q8.1;
 let tr10 := q8.2.1;
 let tr11 := q8.2.2.1;
 let tr12 := q8.2.2.2.1;
 let tr13 := q8.2.2.2.2;
 (if (!tr9) = true then
 some ([], tr10, tr11, tr12, tr13)
 else
 let t14 := IntKind.i64.wrap (at1 + 4);
 (if 0 ≤ t14 ∧ t14 ≤ ((tr10.length : Nat) : Int) then
 (if 0 ≤ at1 ∧ at1 ≤ t14 then
 let t15 : List Int := cutL tr10 at1.toNat t14.toNat;
 (chunk_isKind t15).bind fun q16 =>
 (chunk_reader_fail q16 3 at1 tr10 tr11 tr12 tr13).bind fun q17 =>
 let tr18 := q17.1;
 let tr19 := q17.2.1;
 let tr20 := q17.2.2.1;
 let tr21 := q17.2.2.2.1;
 let tr22 := q17.2.2.2.2;
 some (t15, tr19, tr20, tr21, tr22)
 else
 none)
 else
 none)) := (call_eq ..).trans (by kernel_rfl)

theorem bytes_Clone_eq (b1 : List Int) : bytes_Clone b1 =
 (if b1.length = 0 then
 (demon
 (some [])
 ((if (([] : List Int).length + b1.length) * 1 ≤ 140737488355328 then
 let t2 : List Int := ([] : List Int) ++ b1;
 some t2
 else
 none)))
 else
 (if (([] : List Int).length + b1.length) * 1 ≤ 140737488355328 then
 let t3 : List Int := ([] : List Int) ++ b1;
 some t3
 else
 none)) := (call_eq ..).trans (by kernel_rfl)

noncomputable def coder_Valid_loop7 (m2 : List Int) (end4 v5 : Int) : Option ((Int) ⊕ ((Unit) ⊕ (Bool))) :=
 (if (decide (v5 < ((m2.length : Nat) : Int))) = true then
 (if 0 ≤ v5 ∧ v5 < (m2.length : Int) then
 (if (decide (rd m2 v5 < 0)) = true then
 some (Sum.inr (Sum.inr false))
 else
 (if (decide (rd m2 v5 ≥ end4)) = true then
 some (Sum.inr (Sum.inr false))
 else
 let t6 := IntKind.i64.wrap (v5 + 1);
 some (Sum.inl t6)))
 else
 none)
 else
 some (Sum.inr (Sum.inl ())))
noncomputable def coder_Valid_loop7_step (end4 : Int) (i7 : Nat) (x8 : Int) (s9 : Unit) : Option ((Unit) ⊕ ((Unit) ⊕ (Bool))) :=
 (if (decide (x8 < 0)) = true then
 some (Sum.inr (Sum.inr false))
 else
 (if (decide (x8 ≥ end4)) = true then
 some (Sum.inr (Sum.inr false))
 else
 some (Sum.inl (()))))
theorem coder_Valid_loop7_over (m2 : List Int) (end4 : Int) (hl : m2.length ≤ 9223372036854775807) (s9 : Unit) : loop (coder_Valid_loop7 m2 end4) (0 : Int) =
    overL (coder_Valid_loop7_step end4) (fun (s9 : Unit) => some (Sum.inl ())) 0 m2 s9 := by
  refine loop_over m2 (fun n (s : Unit) => (((n : Nat) : Int) : Int)) _ _ (fun s => ?_) (fun i x s h => ?_) 0 s9 (Nat.zero_le _)
  · unfold coder_Valid_loop7; simp
  · have hlt := lt_len_of_get h
    have h1 : ((i : Nat) : Int) < ((m2.length : Nat) : Int) := by omega
    have h0 : (0 : Int) ≤ ((i : Nat) : Int) := by omega
    have hw : IntKind.i64.wrap (((i : Nat) : Int) + 1) = (((i + 1 : Nat) : Nat) : Int) := w64 (by omega)
    have hr : rd m2 ((i : Nat) : Int) = x := rd_nat h
    unfold coder_Valid_loop7 coder_Valid_loop7_step
    simp only [h1, h0, hw, h, hr, decide_true, if_true, and_self, true_and, Int.toNat_natCast, Option.bind_some, Option.map_bind, Function.comp_def, map_ite, map_elim, Option.map_some, Option.map_none]

theorem coder_Valid_eq (m1 : Int) (m2 : List Int) : coder_Valid m1 m2 =
 ((if (!decide (m1 = 0)) = true then
 (if (!decide (m1 = 1)) = true then
 some true
 else
 some (decide (((m2.length : Nat) : Int) > 8192)))
 else
 some (decide (((m2.length : Nat) : Int) > 8192))) : Option (Bool)).bind (fun v3 =>
 (if v3 = true then
 some false
 else
 ((if (decide (m1 = 1)) = true then
 some 65536
 else
 some 64) : Option (Int)).bind (fun end4 =>
 (loop (coder_Valid_loop7 m2 end4) 0).bind (fun o12 =>
 (Sum.elim (fun (p10 : Unit) =>
 some true)
 (fun (v11 : Bool) =>
 some v11) o12))))) := (call_eq ..).trans (by kernel_rfl)

theorem coder_begin_eq (m1 : Int) (m2 : List Int) : coder_begin m1 m2 =
 (coder_clone m1 m2).bind fun q3 =>
 let tr4 := q3.1;
 let tr5 := q3.2;
 (coder_chances).bind fun q6 =>
 some (tr4, 0, 4294967295, tr5) := (call_eq ..).trans (by kernel_rfl)

theorem coder_Decoder_shift_eq (b1 b2 b3 b4 b5 b6 : Int) (b7 b8 : List Int) : coder_Decoder_shift b1 b2 b3 b4 b5 b6 b7 b8 =
 ((if (decide (b4 < ((b8.length : Nat) : Int))) = true then
 (if 0 ≤ b4 ∧ b4 < (b8.length : Int) then
 let t9 : Int := rd b8 b4;
 some (t9, b1, b2, b3, b4, b5, b6, b7, b8)
 else
 none)
 else
 let t10 := IntKind.i64.wrap (b6 + 1);
 some (0, b1, b2, b3, b4, b5, t10, b7, b8)) : Option (Int × Int × Int × Int × Int × Int × Int × (List Int) × (List Int))).bind (fun p11 =>
 let b12 := p11.1;
 let b13 := p11.2.1;
 let b14 := p11.2.2.1;
 let b15 := p11.2.2.2.1;
 let b16 := p11.2.2.2.2.1;
 let b17 := p11.2.2.2.2.2.1;
 let b18 := p11.2.2.2.2.2.2.1;
 let b19 := p11.2.2.2.2.2.2.2.1;
 let b20 := p11.2.2.2.2.2.2.2.2;
 let t21 := IntKind.i64.wrap (b16 + 1);
 let t22 := ishl .u64 b17 8;
 let t23 := iand .u64 t22 4294967295;
 let t24 := IntKind.u64.wrap b12;
 let t25 := ior .u64 t23 t24;
 some (b13, b14, b15, t21, t25, b18, b19, b20)) := (call_eq ..).trans (by kernel_rfl)

noncomputable def coder_Decoder_Get_loop12 (s51 : Int × Int × Int × (List Int) × Int × Int × Int × Bool × (List Int)) : Option ((Int × Int × Int × (List Int) × Int × Int × Int × Bool × (List Int)) ⊕ (Int × Int × Int × (List Int) × Int × Int × Int × Bool × (List Int))) :=
 let b52 := s51.1;
 let b53 := s51.2.1;
 let b54 := s51.2.2.1;
 let b55 := s51.2.2.2.1;
 let b56 := s51.2.2.2.2.1;
 let b57 := s51.2.2.2.2.2.1;
 let b58 := s51.2.2.2.2.2.2.1;
 let b59 := s51.2.2.2.2.2.2.2.1;
 let b60 := s51.2.2.2.2.2.2.2.2;
 (coder_interval_same b52 b53 b54 b55 b56 b57 b58 b59 b60).bind fun q61 =>
 let tr62 := q61.1;
 let tr63 := q61.2.1;
 let tr64 := q61.2.2.1;
 let tr65 := q61.2.2.2.1;
 let tr66 := q61.2.2.2.2.1;
 let tr67 := q61.2.2.2.2.2.1;
 let tr68 := q61.2.2.2.2.2.2.1;
 let tr69 := q61.2.2.2.2.2.2.2.1;
 let tr70 := q61.2.2.2.2.2.2.2.2.1;
 let tr71 := q61.2.2.2.2.2.2.2.2.2;
 (if tr62 = true then
 (coder_interval_lose tr63 tr64 tr65 tr66 tr67 tr68 tr69 tr70 tr71).bind fun q72 =>
 let tr73 := q72.1;
 let tr74 := q72.2.1;
 let tr75 := q72.2.2.1;
 let tr76 := q72.2.2.2.1;
 let tr77 := q72.2.2.2.2.1;
 let tr78 := q72.2.2.2.2.2.1;
 let tr79 := q72.2.2.2.2.2.2.1;
 let tr80 := q72.2.2.2.2.2.2.2.1;
 let tr81 := q72.2.2.2.2.2.2.2.2.1;
 let tr82 := q72.2.2.2.2.2.2.2.2.2;
 (coder_Decoder_shift_2 tr74 tr75 tr76 tr77 tr78 tr79 tr80 tr81 tr82).bind fun q83 =>
 let tr84 := q83.1;
 let tr85 := q83.2.1;
 let tr86 := q83.2.2.1;
 let tr87 := q83.2.2.2.1;
 let tr88 := q83.2.2.2.2.1;
 let tr89 := q83.2.2.2.2.2.1;
 let tr90 := q83.2.2.2.2.2.2.1;
 let tr91 := q83.2.2.2.2.2.2.2.1;
 let tr92 := q83.2.2.2.2.2.2.2.2;
 some (Sum.inl (tr84, tr85, tr86, tr87, tr88, tr89, tr90, tr91, tr92))
 else
 some (Sum.inr (tr63, tr64, tr65, tr66, tr67, tr68, tr69, tr70, tr71)))
theorem coder_Decoder_Get_eq (ctx1 b2 b3 b4 : Int) (b5 : List Int) (b6 b7 b8 : Int) (b9 : Bool) (b10 : List Int) : coder_Decoder_Get ctx1 b2 b3 b4 b5 b6 b7 b8 b9 b10 =
 (coder_Decoder_none b2 b3 b4 b5 b6 b7 b8 b9 b10).bind fun q11 =>
 let tr12 := q11.1;
 let tr13 := q11.2.1;
 let tr14 := q11.2.2.1;
 let tr15 := q11.2.2.2.1;
 let tr16 := q11.2.2.2.2.1;
 let tr17 := q11.2.2.2.2.2.1;
 let tr18 := q11.2.2.2.2.2.2.1;
 let tr19 := q11.2.2.2.2.2.2.2.1;
 let tr20 := q11.2.2.2.2.2.2.2.2.1;
 let tr21 := q11.2.2.2.2.2.2.2.2.2;
 ((if tr12 = true then
 some (Sum.inr (0, 7))
 else
 ((if (decide (ctx1 < 0)) = true then
 some true
 else
 some (decide (ctx1 ≥ ((tr21.length : Nat) : Int)))) : Option (Bool)).bind (fun v22 =>
 (if v22 = true then
 some (Sum.inr (0, 2))
 else
 (if tr20 = true then
 some (Sum.inr (0, 6))
 else
 some (Sum.inl ()))))) : Option ((Unit) ⊕ (Int × Int))).bind (fun o27 =>
 (Sum.elim (fun (p23 : Unit) =>
 (coder_interval_mid ctx1 tr13 tr14 tr15 tr16 tr17 tr18 tr19 tr20 tr21).bind fun q28 =>
 let tr29 := q28.1;
 let tr30 := q28.2.1;
 let tr31 := q28.2.2.1;
 let tr32 := q28.2.2.2.1;
 let tr33 := q28.2.2.2.2.1;
 let tr34 := q28.2.2.2.2.2.1;
 let tr35 := q28.2.2.2.2.2.2.1;
 let tr36 := q28.2.2.2.2.2.2.2.1;
 let tr37 := q28.2.2.2.2.2.2.2.2.1;
 let tr38 := q28.2.2.2.2.2.2.2.2.2;
 ((if (decide (tr35 ≤ tr29)) = true then
 some 1
 else
 some 0) : Option (Int)).bind (fun bit39 =>
 (if 0 ≤ ctx1 ∧ ctx1 < (tr38.length : Int) then
 let t40 : Int := rd tr38 ctx1;
 (coder_interval_take ctx1 bit39 tr29 tr30 tr31 tr32 tr33 tr34 tr35 tr36 tr37 tr38).bind fun q41 =>
 let tr42 := q41.1;
 let tr43 := q41.2.1;
 let tr44 := q41.2.2.1;
 let tr45 := q41.2.2.2.1;
 let tr46 := q41.2.2.2.2.1;
 let tr47 := q41.2.2.2.2.2.1;
 let tr48 := q41.2.2.2.2.2.2.1;
 let tr49 := q41.2.2.2.2.2.2.2.1;
 let tr50 := q41.2.2.2.2.2.2.2.2;
 (loop (coder_Decoder_Get_loop12) (tr42, tr43, tr44, tr45, tr46, tr47, tr48, tr49, tr50)).bind (fun p93 =>
 let b94 := p93.1;
 let b95 := p93.2.1;
 let b96 := p93.2.2.1;
 let b97 := p93.2.2.2.1;
 let b98 := p93.2.2.2.2.1;
 let b99 := p93.2.2.2.2.2.1;
 let b100 := p93.2.2.2.2.2.2.1;
 let b101 := p93.2.2.2.2.2.2.2.1;
 let b102 := p93.2.2.2.2.2.2.2.2;
 (if (decide (b100 > 4)) = true then
 (if 0 ≤ ctx1 ∧ ctx1 < (b102.length : Int) then
 let w103 : List Int := b102.set ctx1.toNat t40;
 some (0, 6, tr30, tr31, tr32, tr33, tr34, tr35, tr36, true, w103)
 else
 none)
 else
 some (bit39, 0, b94, b95, b96, b97, b98, b99, b100, b101, b102)))
 else
 none)))
 (fun (p24 : Int × Int) =>
 let v25 := p24.1;
 let v26 := p24.2;
 some (v25, v26, tr13, tr14, tr15, tr16, tr17, tr18, tr19, tr20, tr21)) o27)) := (call_eq ..).trans (by kernel_rfl)

theorem coder_Decoder_Model_eq (b1 b2 b3 : Int) (b4 : List Int) (b5 b6 b7 : Int) (b8 : Bool) (b9 : List Int) : coder_Decoder_Model b1 b2 b3 b4 b5 b6 b7 b8 b9 =
 (coder_Decoder_none b1 b2 b3 b4 b5 b6 b7 b8 b9).bind fun q10 =>
 let tr11 := q10.1;
 let tr12 := q10.2.1;
 let tr13 := q10.2.2.1;
 let tr14 := q10.2.2.2.1;
 let tr15 := q10.2.2.2.2.1;
 let tr16 := q10.2.2.2.2.2.1;
 let tr17 := q10.2.2.2.2.2.2.1;
 let tr18 := q10.2.2.2.2.2.2.2.1;
 let tr19 := q10.2.2.2.2.2.2.2.2.1;
 let tr20 := q10.2.2.2.2.2.2.2.2.2;
 (if tr11 = true then
 some (0, [], tr12, tr13, tr14, tr15, tr16, tr17, tr18, tr19, tr20)
 else
 (coder_clone tr12 tr20).bind fun q21 =>
 let tr22 := q21.1;
 let tr23 := q21.2;
 some (tr22, tr23, tr12, tr13, tr14, tr15, tr16, tr17, tr18, tr19, tr20)) := (call_eq ..).trans (by kernel_rfl)

theorem number_fits_eq (m1 : Int) (m2 : List Int) (base3 n4 : Int) : number_fits m1 m2 base3 n4 =
 (if (decide (base3 < 0)) = true then
 some 2
 else
 let t5 := IntKind.i64.wrap (((m2.length : Nat) : Int) - n4);
 (if (decide (base3 > t5)) = true then
 some 2
 else
 some 0)) := (call_eq ..).trans (by kernel_rfl)

noncomputable def number_get_loop5 (base1 : Int) (s24 : Int × Int × Int × Int × (List Int) × Int × Int × Int × Bool × (List Int) × Bool × Int) : Option ((Int × Int × Int × Int × (List Int) × Int × Int × Int × Bool × (List Int) × Bool × Int) ⊕ ((Int × Int × Int × Int × (List Int) × Int × Int × Int × Bool × (List Int) × Bool × Int) ⊕ (Int × Int × Int × Int × (List Int) × Int × Int × Int × Bool × (List Int) × Bool × Int))) :=
 let c25 := s24.1;
 let b26 := s24.2.1;
 let b27 := s24.2.2.1;
 let b28 := s24.2.2.2.1;
 let b29 := s24.2.2.2.2.1;
 let b30 := s24.2.2.2.2.2.1;
 let b31 := s24.2.2.2.2.2.2.1;
 let b32 := s24.2.2.2.2.2.2.2.1;
 let b33 := s24.2.2.2.2.2.2.2.2.1;
 let b34 := s24.2.2.2.2.2.2.2.2.2.1;
 let b35 := s24.2.2.2.2.2.2.2.2.2.2.1;
 let b36 := s24.2.2.2.2.2.2.2.2.2.2.2;
 (if (decide (c25 < 20)) = true then
 let t37 := IntKind.i64.wrap (base1 + 1);
 let t38 := IntKind.i64.wrap (t37 + c25);
 (coder_Decoder_Get t38 b26 b27 b28 b29 b30 b31 b32 b33 b34).bind fun q39 =>
 let tr40 := q39.1;
 let tr41 := q39.2.1;
 let tr42 := q39.2.2.1;
 let tr43 := q39.2.2.2.1;
 let tr44 := q39.2.2.2.2.1;
 let tr45 := q39.2.2.2.2.2.1;
 let tr46 := q39.2.2.2.2.2.2.1;
 let tr47 := q39.2.2.2.2.2.2.2.1;
 let tr48 := q39.2.2.2.2.2.2.2.2.1;
 let tr49 := q39.2.2.2.2.2.2.2.2.2.1;
 let tr50 := q39.2.2.2.2.2.2.2.2.2.2;
 (if (!decide (tr41 = 0)) = true then
 some (Sum.inr (Sum.inr (tr41, tr42, tr43, tr44, tr45, tr46, tr47, tr48, tr49, tr50, false, 0)))
 else
 (if (decide (tr40 = 0)) = true then
 some (Sum.inr (Sum.inl (c25, tr42, tr43, tr44, tr45, tr46, tr47, tr48, tr49, tr50, b35, b36)))
 else
 let t51 := IntKind.i64.wrap (c25 + 1);
 some (Sum.inl (t51, tr42, tr43, tr44, tr45, tr46, tr47, tr48, tr49, tr50, b35, b36))))
 else
 some (Sum.inr (Sum.inl (c25, b26, b27, b28, b29, b30, b31, b32, b33, b34, b35, b36))))
noncomputable def number_get_loop14 (base1 c53 : Int) (s79 : Int × Int × Int × Int × Int × (List Int) × Int × Int × Int × Bool × (List Int) × Bool × Int × Int) : Option ((Int × Int × Int × Int × Int × (List Int) × Int × Int × Int × Bool × (List Int) × Bool × Int × Int) ⊕ ((Int × Int × Int × Int × (List Int) × Int × Int × Int × Bool × (List Int) × Bool × Int × Int) ⊕ (Int × Int × Int × Int × (List Int) × Int × Int × Int × Bool × (List Int) × Bool × Int × Int))) :=
 let v80 := s79.1;
 let v81 := s79.2.1;
 let b82 := s79.2.2.1;
 let b83 := s79.2.2.2.1;
 let b84 := s79.2.2.2.2.1;
 let b85 := s79.2.2.2.2.2.1;
 let b86 := s79.2.2.2.2.2.2.1;
 let b87 := s79.2.2.2.2.2.2.2.1;
 let b88 := s79.2.2.2.2.2.2.2.2.1;
 let b89 := s79.2.2.2.2.2.2.2.2.2.1;
 let b90 := s79.2.2.2.2.2.2.2.2.2.2.1;
 let b91 := s79.2.2.2.2.2.2.2.2.2.2.2.1;
 let b92 := s79.2.2.2.2.2.2.2.2.2.2.2.2.1;
 let b93 := s79.2.2.2.2.2.2.2.2.2.2.2.2.2;
 (if (decide (v81 < c53)) = true then
 let t94 := IntKind.i64.wrap (23 + c53);
 ((if (decide (v81 > 0)) = true then
 (number_tail_take b93).bind fun q95 =>
 let tr96 := q95.1;
 let tr97 := q95.2;
 some (tr96, tr97)
 else
 some (t94, b93)) : Option (Int × Int)).bind (fun p98 =>
 let ctx99 := p98.1;
 let b100 := p98.2;
 let t101 := IntKind.i64.wrap (base1 + ctx99);
 (coder_Decoder_Get t101 b82 b83 b84 b85 b86 b87 b88 b89 b90).bind fun q102 =>
 let tr103 := q102.1;
 let tr104 := q102.2.1;
 let tr105 := q102.2.2.1;
 let tr106 := q102.2.2.2.1;
 let tr107 := q102.2.2.2.2.1;
 let tr108 := q102.2.2.2.2.2.1;
 let tr109 := q102.2.2.2.2.2.2.1;
 let tr110 := q102.2.2.2.2.2.2.2.1;
 let tr111 := q102.2.2.2.2.2.2.2.2.1;
 let tr112 := q102.2.2.2.2.2.2.2.2.2.1;
 let tr113 := q102.2.2.2.2.2.2.2.2.2.2;
 (if (!decide (tr104 = 0)) = true then
 some (Sum.inr (Sum.inr (tr104, tr105, tr106, tr107, tr108, tr109, tr110, tr111, tr112, tr113, false, 0, b100)))
 else
 let t114 := IntKind.i64.wrap (2 * v80);
 let t115 := IntKind.i64.wrap (t114 + tr103);
 let t116 := IntKind.i64.wrap (v81 + 1);
 some (Sum.inl (t115, t116, tr105, tr106, tr107, tr108, tr109, tr110, tr111, tr112, tr113, b91, b92, b100))))
 else
 some (Sum.inr (Sum.inl (v80, b82, b83, b84, b85, b86, b87, b88, b89, b90, b91, b92, b93))))

theorem number_get_eq (base1 b2 b3 b4 : Int) (b5 : List Int) (b6 b7 b8 : Int) (b9 : Bool) (b10 : List Int) : number_get base1 b2 b3 b4 b5 b6 b7 b8 b9 b10 =
 (coder_Decoder_Get base1 b2 b3 b4 b5 b6 b7 b8 b9 b10).bind fun q11 =>
 let tr12 := q11.1;
 let tr13 := q11.2.1;
 let tr14 := q11.2.2.1;
 let tr15 := q11.2.2.2.1;
 let tr16 := q11.2.2.2.2.1;
 let tr17 := q11.2.2.2.2.2.1;
 let tr18 := q11.2.2.2.2.2.2.1;
 let tr19 := q11.2.2.2.2.2.2.2.1;
 let tr20 := q11.2.2.2.2.2.2.2.2.1;
 let tr21 := q11.2.2.2.2.2.2.2.2.2.1;
 let tr22 := q11.2.2.2.2.2.2.2.2.2.2;
 ((if (!decide (tr13 = 0)) = true then
 some true
 else
 some (decide (tr12 = 1))) : Option (Bool)).bind (fun v23 =>
 (if v23 = true then
 some (decide (tr13 = 0), 0, tr13, tr14, tr15, tr16, tr17, tr18, tr19, tr20, tr21, tr22)
 else
 (loop (number_get_loop5 base1) (0, tr14, tr15, tr16, tr17, tr18, tr19, tr20, tr21, tr22, false, 0)).bind (fun o78 =>
 (Sum.elim (fun (p52 : Int × Int × Int × Int × (List Int) × Int × Int × Int × Bool × (List Int) × Bool × Int) =>
 let c53 := p52.1;
 let b54 := p52.2.1;
 let b55 := p52.2.2.1;
 let b56 := p52.2.2.2.1;
 let b57 := p52.2.2.2.2.1;
 let b58 := p52.2.2.2.2.2.1;
 let b59 := p52.2.2.2.2.2.2.1;
 let b60 := p52.2.2.2.2.2.2.2.1;
 let b61 := p52.2.2.2.2.2.2.2.2.1;
 let b62 := p52.2.2.2.2.2.2.2.2.2.1;
 let b63 := p52.2.2.2.2.2.2.2.2.2.2.1;
 let b64 := p52.2.2.2.2.2.2.2.2.2.2.2;
 (loop (number_get_loop14 base1 c53) (1, 0, b54, b55, b56, b57, b58, b59, b60, b61, b62, b63, b64, 44)).bind (fun o161 =>
 (Sum.elim (fun (p133 : Int × Int × Int × Int × (List Int) × Int × Int × Int × Bool × (List Int) × Bool × Int × Int) =>
 let v134 := p133.1;
 let b135 := p133.2.1;
 let b136 := p133.2.2.1;
 let b137 := p133.2.2.2.1;
 let b138 := p133.2.2.2.2.1;
 let b139 := p133.2.2.2.2.2.1;
 let b140 := p133.2.2.2.2.2.2.1;
 let b141 := p133.2.2.2.2.2.2.2.1;
 let b142 := p133.2.2.2.2.2.2.2.2.1;
 let b143 := p133.2.2.2.2.2.2.2.2.2.1;
 let b144 := p133.2.2.2.2.2.2.2.2.2.2.1;
 let b145 := p133.2.2.2.2.2.2.2.2.2.2.2.1;
 let b146 := p133.2.2.2.2.2.2.2.2.2.2.2.2;
 (if (decide (v134 > 1048577)) = true then
 some (false, 0, 3, b135, b136, b137, b138, b139, b140, b141, b142, b143)
 else
 (if (decide (v134 = 1)) = true then
 some (false, 0, 0, b135, b136, b137, b138, b139, b140, b141, b142, b143)
 else
 let t162 := IntKind.i64.wrap (base1 + 22);
 (coder_Decoder_Get t162 b135 b136 b137 b138 b139 b140 b141 b142 b143).bind fun q163 =>
 let tr164 := q163.1;
 let tr165 := q163.2.1;
 let tr166 := q163.2.2.1;
 let tr167 := q163.2.2.2.1;
 let tr168 := q163.2.2.2.2.1;
 let tr169 := q163.2.2.2.2.2.1;
 let tr170 := q163.2.2.2.2.2.2.1;
 let tr171 := q163.2.2.2.2.2.2.2.1;
 let tr172 := q163.2.2.2.2.2.2.2.2.1;
 let tr173 := q163.2.2.2.2.2.2.2.2.2.1;
 let tr174 := q163.2.2.2.2.2.2.2.2.2.2;
 (if (!decide (tr165 = 0)) = true then
 some (false, 0, tr165, tr166, tr167, tr168, tr169, tr170, tr171, tr172, tr173, tr174)
 else
 let t175 := IntKind.i64.wrap (v134 - 1);
 let t176 := IntKind.i64.wrap (2 * tr164);
 let t177 := IntKind.i64.wrap (1 - t176);
 let t178 := IntKind.i64.wrap (t175 * t177);
 some (false, t178, 0, tr166, tr167, tr168, tr169, tr170, tr171, tr172, tr173, tr174)))))
 (fun (p147 : Int × Int × Int × Int × (List Int) × Int × Int × Int × Bool × (List Int) × Bool × Int × Int) =>
 let v148 := p147.1;
 let b149 := p147.2.1;
 let b150 := p147.2.2.1;
 let b151 := p147.2.2.2.1;
 let b152 := p147.2.2.2.2.1;
 let b153 := p147.2.2.2.2.2.1;
 let b154 := p147.2.2.2.2.2.2.1;
 let b155 := p147.2.2.2.2.2.2.2.1;
 let b156 := p147.2.2.2.2.2.2.2.2.1;
 let b157 := p147.2.2.2.2.2.2.2.2.2.1;
 let b158 := p147.2.2.2.2.2.2.2.2.2.2.1;
 let b159 := p147.2.2.2.2.2.2.2.2.2.2.2.1;
 let b160 := p147.2.2.2.2.2.2.2.2.2.2.2.2;
 some (b158, b159, v148, b149, b150, b151, b152, b153, b154, b155, b156, b157)) o161)))
 (fun (p65 : Int × Int × Int × Int × (List Int) × Int × Int × Int × Bool × (List Int) × Bool × Int) =>
 let v66 := p65.1;
 let b67 := p65.2.1;
 let b68 := p65.2.2.1;
 let b69 := p65.2.2.2.1;
 let b70 := p65.2.2.2.2.1;
 let b71 := p65.2.2.2.2.2.1;
 let b72 := p65.2.2.2.2.2.2.1;
 let b73 := p65.2.2.2.2.2.2.2.1;
 let b74 := p65.2.2.2.2.2.2.2.2.1;
 let b75 := p65.2.2.2.2.2.2.2.2.2.1;
 let b76 := p65.2.2.2.2.2.2.2.2.2.2.1;
 let b77 := p65.2.2.2.2.2.2.2.2.2.2.2;
 some (b76, b77, v66, b67, b68, b69, b70, b71, b72, b73, b74, b75)) o78)))) := (call_eq ..).trans (by kernel_rfl)

theorem sort_asked_eq (l1 : List Int) : sort_asked l1 =
 (if (decide (((l1.length : Nat) : Int) > 4001)) = true then
 some 4
 else
 (slices_ContainsFunc_int_int l1).bind fun q2 =>
 (if q2 = true then
 some 2
 else
 some 0)) := (call_eq ..).trans (by kernel_rfl)

noncomputable def sort_list_loop3 (t1 : List Int) (s2 : Int × (List Int)) : Option ((Int × (List Int)) ⊕ ((List Int))) :=
 let v3 := s2.1;
 let b4 := s2.2;
 (if (decide (v3 < ((t1.length : Nat) : Int))) = true then
 (if 0 ≤ v3 ∧ v3 < (b4.length : Int) then
 let w5 : List Int := b4.set v3.toNat v3;
 let t6 := IntKind.i64.wrap (v3 + 1);
 some (Sum.inl (t6, w5))
 else
 none)
 else
 some (Sum.inr b4))

theorem sort_list_eq : sort_list =
 (if 0 ≤ (257 : Int) ∧ (257 : Int) ≤ (257 : Int) ∧ ((8 : Nat) : Int) * (257 : Int) ≤ 281474976710656 then
 let t1 : List Int := List.replicate (257 : Int).toNat 0;
 (loop (sort_list_loop3 t1) (0, t1)).bind (fun b10 =>
 some b10)
 else
 none) := (call_eq ..).trans (by kernel_rfl)

theorem sort_front_eq (place1 : Int) (b2 : List Int) : sort_front place1 b2 =
 (if 0 ≤ place1 ∧ place1 < (b2.length : Int) then
 let t3 : Int := rd b2 place1;
 let t4 := IntKind.i64.wrap (place1 + 1);
 (if 0 ≤ t4 ∧ t4 ≤ ((b2.length : Nat) : Int) then
 (if 0 ≤ (1 : Int) ∧ (1 : Int) ≤ t4 then
 (if 0 ≤ place1 ∧ place1 ≤ ((b2.length : Nat) : Int) then
 let w5 : List Int := b2.take ((1 : Int).toNat) ++ ((b2.drop 0).take (place1.toNat - 0)).take (min ((b2.drop 0).take (place1.toNat - 0)).length (t4.toNat - (1 : Int).toNat)) ++ b2.drop (((1 : Int).toNat) + min ((b2.drop 0).take (place1.toNat - 0)).length (t4.toNat - (1 : Int).toNat));
 (if 0 ≤ (0 : Int) ∧ (0 : Int) < (w5.length : Int) then
 let w6 : List Int := w5.set (0 : Int).toNat t3;
 some (t3, w6)
 else
 none)
 else
 none)
 else
 none)
 else
 none)
 else
 none) := (call_eq ..).trans (by kernel_rfl)

theorem slices_Backward_byte_byte_eq (b1 : List Int) : slices_Backward_byte_byte b1 =
 some b1 := (call_eq ..).trans (by kernel_rfl)

noncomputable def sort_column_loop3 (text1 : List Int) (q2 : (List Int)) (s3 : Int × (List Int)) : Option ((Int × (List Int)) ⊕ ((List Int))) :=
 let v4 := s3.1;
 let b5 := s3.2;
 (if (decide (v4 < ((q2.length : Nat) : Int))) = true then
 (if 0 ≤ v4 ∧ v4 < (b5.length : Int) then
 let t6 : Int := rd b5 v4;
 (if (decide (t6 = 0)) = true then
 (if 0 ≤ v4 ∧ v4 < (b5.length : Int) then
 let w7 : List Int := b5.set v4.toNat 0;
 let t8 := IntKind.i64.wrap (v4 + 1);
 some (Sum.inl (t8, w7))
 else
 none)
 else
 let t9 := IntKind.i64.wrap (t6 - 1);
 (if 0 ≤ t9 ∧ t9 < (text1.length : Int) then
 let t10 := IntKind.i64.wrap (rd text1 t9);
 let t11 := IntKind.i64.wrap (t10 + 1);
 (if 0 ≤ v4 ∧ v4 < (b5.length : Int) then
 let w12 : List Int := b5.set v4.toNat t11;
 let t13 := IntKind.i64.wrap (v4 + 1);
 some (Sum.inl (t13, w12))
 else
 none)
 else
 none))
 else
 none)
 else
 some (Sum.inr b5))
theorem sort_column_eq (text1 : List Int) : sort_column text1 =
 (sort_suffixes text1).bind fun q2 =>
 (loop (sort_column_loop3 text1 q2) (0, q2)).bind (fun b14 =>
 some b14) := (call_eq ..).trans (by kernel_rfl)

noncomputable def slices_Equal_int_int_loop4 (s1 s2 : List Int) (v3 : Int) : Option ((Int) ⊕ ((Unit) ⊕ (Bool))) :=
 (if (decide (v3 < ((s1.length : Nat) : Int))) = true then
 (if 0 ≤ v3 ∧ v3 < (s1.length : Int) then
 (if 0 ≤ v3 ∧ v3 < (s2.length : Int) then
 (if (!decide (rd s1 v3 = rd s2 v3)) = true then
 some (Sum.inr (Sum.inr false))
 else
 let t4 := IntKind.i64.wrap (v3 + 1);
 some (Sum.inl t4))
 else
 none)
 else
 none)
 else
 some (Sum.inr (Sum.inl ())))

theorem slices_Equal_int_int_eq (s1 s2 : List Int) : slices_Equal_int_int s1 s2 =
 (if (!decide (((s1.length : Nat) : Int) = ((s2.length : Nat) : Int))) = true then
 some false
 else
 (loop (slices_Equal_int_int_loop4 s1 s2) 0).bind (fun o10 =>
 (Sum.elim (fun (p8 : Unit) =>
 some true)
 (fun (v9 : Bool) =>
 some v9) o10))) := (call_eq ..).trans (by kernel_rfl)

theorem note_reader_size_eq (low1 high2 : Int) (b3 : List Int) (b4 b5 b6 : Int) : note_reader_size low1 high2 b3 b4 b5 b6 =
 (if (!decide (b6 = 0)) = true then
 some (0, b3, b4, b5, b6)
 else
 (bits_GetSize b3 b4).bind fun q7 =>
 let tr8 := q7.1;
 let tr9 := q7.2.1;
 let tr10 := q7.2.2;
 ((if (decide (tr10 = 0)) = true then
 (if (decide (tr8 < low1)) = true then
 some true
 else
 some (decide (tr8 > high2)))
 else
 some false) : Option (Bool)).bind (fun v11 =>
 ((if v11 = true then
 some 3
 else
 some tr10) : Option (Int)).bind (fun err12 =>
 (if (!decide (err12 = 0)) = true then
 some (0, b3, b4, b5, err12)
 else
 some (tr8, b3, tr9, b5, err12))))) := (call_eq ..).trans (by kernel_rfl)

theorem note_reader_title_eq (b1 : List Int) (b2 b3 b4 : Int) : note_reader_title b1 b2 b3 b4 =
 (note_reader_size 0 200 b1 b2 b3 b4).bind fun q5 =>
 let tr6 := q5.1;
 let tr7 := q5.2.1;
 let tr8 := q5.2.2.1;
 let tr9 := q5.2.2.2.1;
 let tr10 := q5.2.2.2.2;
 ((if (decide (tr10 = 0)) = true then
 let t11 := IntKind.i64.wrap (((tr7.length : Nat) : Int) - tr8);
 some (decide (t11 < tr6))
 else
 some false) : Option (Bool)).bind (fun v12 =>
 ((if v12 = true then
 some (tr7, tr8, tr9, 6)
 else
 some (tr7, tr8, tr9, tr10)) : Option ((List Int) × Int × Int × Int)).bind (fun p13 =>
 let b14 := p13.1;
 let b15 := p13.2.1;
 let b16 := p13.2.2.1;
 let b17 := p13.2.2.2;
 (if (!decide (b17 = 0)) = true then
 some ([], b14, b15, b16, b17)
 else
 let t18 := IntKind.i64.wrap (b15 + tr6);
 let t19 := IntKind.i64.wrap (t18 - tr6);
 (if 0 ≤ t18 ∧ t18 ≤ ((b14.length : Nat) : Int) then
 (if 0 ≤ t19 ∧ t19 ≤ t18 then
 let t20 : List Int := cutL b14 t19.toNat t18.toNat;
 some (t20, b14, t18, b16, b17)
 else
 none)
 else
 none)))) := (call_eq ..).trans (by kernel_rfl)

noncomputable def bits_Size_loop5 (s6 : Int × (List Int)) : Option ((Int × (List Int)) ⊕ ((List Int))) :=
 let n7 := s6.1;
 let out8 := s6.2;
 (if (decide (n7 > 0)) = true then
 let t9 : Int := n7.tmod 128;
 let t10 := IntKind.u8.wrap t9;
 let t11 := IntKind.u8.wrap (t10 + 128);
 (if (([t11] : List Int).length + out8.length) * 1 ≤ 140737488355328 then
 let t12 : List Int := ([t11] : List Int) ++ out8;
 let t13 := IntKind.i64.wrap (n7.tdiv 128);
 some (Sum.inl (t13, t12))
 else
 none)
 else
 some (Sum.inr out8))
theorem bits_Size_eq (n1 : Int) : bits_Size n1 =
 ((if (decide (n1 < 0)) = true then
 some true
 else
 some (decide (n1 > 2147483647))) : Option (Bool)).bind (fun v2 =>
 (if v2 = true then
 some (2, [])
 else
 let t3 : Int := n1.tmod 128;
 let t4 := IntKind.u8.wrap t3;
 let t5 := IntKind.i64.wrap (n1.tdiv 128);
 (loop (bits_Size_loop5) (t5, [t4])).bind (fun out14 =>
 some (0, out14)))) := (call_eq ..).trans (by kernel_rfl)

noncomputable def note_put_loop3 (l1 : List Outline) (s3 : (List Int) × Int) : Option (((List Int) × Int) ⊕ ((List Int))) :=
 let out4 := s3.1;
 let v5 := s3.2;
 (if (decide (v5 < ((l1.length : Nat) : Int))) = true then
 (if 0 ≤ v5 then
 (l1[v5.toNat]?).bind fun e6 =>
 (note_size ((e6.title.length : Nat) : Int)).bind fun q7 =>
 (note_size e6.page).bind fun q8 =>
 (note_put e6.kids).bind fun q9 =>
 (slices_Concat_byte_byte [out4, q7, e6.title, q8, q9]).bind fun q10 =>
 let t11 := IntKind.i64.wrap (v5 + 1);
 some (Sum.inl (q10, t11))
 else
 none)
 else
 some (Sum.inr out4))

theorem note_put_eq (l1 : List Outline) : note_put l1 =
 (note_size ((l1.length : Nat) : Int)).bind fun q2 =>
 (loop (note_put_loop3 l1) (q2, 0)).bind (fun out15 =>
 some out15) := (call_eq ..).trans (by kernel_rfl)

theorem sort_Column_eq (text1 : List Int) : sort_Column text1 =
 (if (decide (((text1.length : Nat) : Int) > 4000)) = true then
 some ([], 4)
 else
 (sort_column text1).bind fun q2 =>
 some (q2, 0)) := (call_eq ..).trans (by kernel_rfl)

theorem coder_NewEncoder_eq (m1 : Int) (m2 : List Int) : coder_NewEncoder m1 m2 =
 (coder_Valid m1 m2).bind fun q3 =>
 (if (!q3) = true then
 some (Sum.inr ())
 else
 (coder_begin m1 m2).bind fun q4 =>
 let tr5 := q4.1;
 let tr6 := q4.2.1;
 let tr7 := q4.2.2.1;
 let tr8 := q4.2.2.2;
 some (Sum.inl (tr5, tr6, tr7, tr8, []))) := (call_eq ..).trans (by kernel_rfl)

noncomputable def sort_Front_loop7 (l1 : List Int) (s4 : Int × (List Int) × (List Int)) : Option ((Int × (List Int) × (List Int)) ⊕ ((List Int) × (List Int))) :=
 let v5 := s4.1;
 let b6 := s4.2.1;
 let out7 := s4.2.2;
 (if (decide (v5 < ((l1.length : Nat) : Int))) = true then
 (if 0 ≤ v5 ∧ v5 < (l1.length : Int) then
 (slices_Index_int_int b6 (rd l1 v5)).bind fun q8 =>
 (sort_front q8 b6).bind fun q9 =>
 let tr10 := q9.1;
 let tr11 := q9.2;
 (if (out7.length + ([q8] : List Int).length) * 8 ≤ 140737488355328 then
 let t12 : List Int := out7 ++ [q8];
 let t13 := IntKind.i64.wrap (v5 + 1);
 some (Sum.inl (t13, tr11, t12))
 else
 none)
 else
 none)
 else
 some (Sum.inr (b6, out7)))

theorem sort_Front_eq (l1 : List Int) : sort_Front l1 =
 (sort_asked l1).bind fun q2 =>
 (if (!decide (q2 = 0)) = true then
 some ([], q2)
 else
 (sort_list).bind fun q3 =>
 (loop (sort_Front_loop7 l1) (0, q3, [])).bind (fun p19 =>
 let b20 := p19.1;
 let out21 := p19.2;
 some (out21, 0))) := (call_eq ..).trans (by kernel_rfl)

theorem number_Put_eq (base1 : Int) (n2 : Bool) (n3 b4 b5 b6 : Int) (b7 b8 : List Int) : number_Put base1 n2 n3 b4 b5 b6 b7 b8 =
 (coder_Encoder_Put (-1) 0 b4 b5 b6 b7 b8).bind fun q9 =>
 let tr10 := q9.1;
 let tr11 := q9.2.1;
 let tr12 := q9.2.2.1;
 let tr13 := q9.2.2.2.1;
 let tr14 := q9.2.2.2.2.1;
 let tr15 := q9.2.2.2.2.2;
 (if (decide (tr10 = 7)) = true then
 some (7, tr11, tr12, tr13, tr14, tr15)
 else
 (number_Valid n2 n3).bind fun q16 =>
 (if (!q16) = true then
 some (2, tr11, tr12, tr13, tr14, tr15)
 else
 (coder_Encoder_Model tr11 tr12 tr13 tr14 tr15).bind fun q17 =>
 let tr18 := q17.1;
 let tr19 := q17.2.1;
 let tr20 := q17.2.2.1;
 let tr21 := q17.2.2.2.1;
 let tr22 := q17.2.2.2.2.1;
 let tr23 := q17.2.2.2.2.2.1;
 let tr24 := q17.2.2.2.2.2.2;
 (number_fits tr18 tr19 base1 48).bind fun q25 =>
 (if (!decide (q25 = 0)) = true then
 some (q25, tr20, tr21, tr22, tr23, tr24)
 else
 (number_events base1 n2 n3).bind fun q26 =>
 (number_put q26 tr20 tr21 tr22 tr23 tr24).bind fun q27 =>
 let tr28 := q27.1;
 let tr29 := q27.2.1;
 let tr30 := q27.2.2.1;
 let tr31 := q27.2.2.2.1;
 let tr32 := q27.2.2.2.2.1;
 let tr33 := q27.2.2.2.2.2;
 some (tr28, tr29, tr30, tr31, tr32, tr33)))) := (call_eq ..).trans (by kernel_rfl)

noncomputable def coder_Encoder_End_loop10 (tr10 v15 : Int) (s22 : Int × (List Int)) : Option ((Int × (List Int)) ⊕ ((List Int))) :=
 let v23 := s22.1;
 let out24 := s22.2;
 (if (decide (v23 < v15)) = true then
 let t25 := IntKind.i64.wrap (8 * v23);
 let t26 := IntKind.i64.wrap (24 - t25);
 (if t26 < 0 then
 none
 else
 let t27 := ishr .u64 tr10 t26;
 let t28 := IntKind.u8.wrap t27;
 (if (out24.length + ([t28] : List Int).length) * 1 ≤ 140737488355328 then
 let t29 : List Int := out24 ++ [t28];
 let t30 := IntKind.i64.wrap (v23 + 1);
 some (Sum.inl (t30, t29))
 else
 none))
 else
 some (Sum.inr out24))

noncomputable def coder_Encoder_End_loop5 (tr9 tr10 : Int) (s14 : Int × (List Int)) : Option ((Int × (List Int)) ⊕ (((List Int)) ⊕ ((List Int)))) :=
 let v15 := s14.1;
 let out16 := s14.2;
 (if (decide (v15 < 5)) = true then
 let t17 := IntKind.i64.wrap (8 * v15);
 let t18 := IntKind.i64.wrap (32 - t17);
 let t19 := IntKind.u64.wrap t18;
 (if t19 < 0 then
 none
 else
 let t20 := ishr .u64 tr10 t19;
 (if t19 < 0 then
 none
 else
 let t21 := ishl .u64 t20 t19;
 (if (decide (t21 ≥ tr9)) = true then
 (loop (coder_Encoder_End_loop10 tr10 v15) (0, out16)).bind (fun out34 =>
 some (Sum.inr (Sum.inr out34)))
 else
 let t35 := IntKind.i64.wrap (v15 + 1);
 some (Sum.inl (t35, out16)))))
 else
 some (Sum.inr (Sum.inl out16)))

theorem coder_Encoder_End_eq (b1 b2 b3 : Int) (b4 b5 : List Int) : coder_Encoder_End b1 b2 b3 b4 b5 =
 (coder_Encoder_none b1 b2 b3 b4 b5).bind fun q6 =>
 let tr7 := q6.1;
 let tr8 := q6.2.1;
 let tr9 := q6.2.2.1;
 let tr10 := q6.2.2.2.1;
 let tr11 := q6.2.2.2.2.1;
 let tr12 := q6.2.2.2.2.2;
 (if tr7 = true then
 some ([], tr8, tr9, tr10, tr11, tr12)
 else
 (if (([] : List Int).length + tr12.length) * 1 ≤ 140737488355328 then
 let t13 : List Int := ([] : List Int) ++ tr12;
 (loop (coder_Encoder_End_loop5 tr9 tr10) (0, t13)).bind (fun o41 =>
 (Sum.elim (fun (out39 : (List Int)) =>
 some (out39, tr8, tr9, tr10, tr11, tr12))
 (fun (b40 : (List Int)) =>
 some (b40, tr8, tr9, tr10, tr11, tr12)) o41))
 else
 none)) := (call_eq ..).trans (by kernel_rfl)

noncomputable def chunk_looks_right_loop2 (l1 : List Chunk) (depth2 : Int) (s4 : Int × Int) : Option ((Int × Int) ⊕ ((Int) ⊕ (Bool × Int))) :=
 let v5 := s4.1;
 let b6 := s4.2;
 (if (decide (v5 < ((l1.length : Nat) : Int))) = true then
 (if 0 ≤ v5 then
 (l1[v5.toNat]?).bind fun e7 =>
 let t8 := IntKind.i64.wrap (b6 + 1);
 ((if (decide (t8 > 400)) = true then
 some true
 else
 (if (decide (depth2 > 8)) = true then
 some true
 else
 (chunk_isId e7.id).bind fun q9 =>
 some (!q9))) : Option (Bool)).bind (fun v10 =>
 (if v10 = true then
 some (Sum.inr (Sum.inr (false, t8)))
 else
 (if (decide (e7.id = [70, 79, 82, 77])) = true then
 (chunk_isKind e7.kind).bind fun q11 =>
 (if (!q11) = true then
 some (Sum.inr (Sum.inr (false, t8)))
 else
 (if (decide (((e7.data.length : Nat) : Int) > 0)) = true then
 some (Sum.inr (Sum.inr (false, t8)))
 else
 let t12 := IntKind.i64.wrap (depth2 + 1);
 (chunk_looks_right e7.kids t12 t8).bind fun q13 =>
 let tr14 := q13.1;
 let tr15 := q13.2;
 (if (!tr14) = true then
 some (Sum.inr (Sum.inr (false, tr15)))
 else
 let t16 := IntKind.i64.wrap (v5 + 1);
 some (Sum.inl (t16, tr15)))))
 else
 (if (!decide (e7.kind = [])) = true then
 some (Sum.inr (Sum.inr (false, t8)))
 else
 (if (decide (((e7.kids.length : Nat) : Int) > 0)) = true then
 some (Sum.inr (Sum.inr (false, t8)))
 else
 let t17 := IntKind.i64.wrap (v5 + 1);
 some (Sum.inl (t17, t8)))))))
 else
 none)
 else
 some (Sum.inr (Sum.inl b6)))
noncomputable def chunk_looks_right_loop2_step (depth2 : Int) (i18 : Nat) (x19 : Chunk) (s20 : Int) : Option ((Int) ⊕ ((Int) ⊕ (Bool × Int))) :=
 let t8 := IntKind.i64.wrap (s20 + 1);
 ((if (decide (t8 > 400)) = true then
 some true
 else
 (if (decide (depth2 > 8)) = true then
 some true
 else
 (chunk_isId x19.id).bind fun q9 =>
 some (!q9))) : Option (Bool)).bind (fun v10 =>
 (if v10 = true then
 some (Sum.inr (Sum.inr (false, t8)))
 else
 (if (decide (x19.id = [70, 79, 82, 77])) = true then
 (chunk_isKind x19.kind).bind fun q11 =>
 (if (!q11) = true then
 some (Sum.inr (Sum.inr (false, t8)))
 else
 (if (decide (((x19.data.length : Nat) : Int) > 0)) = true then
 some (Sum.inr (Sum.inr (false, t8)))
 else
 let t12 := IntKind.i64.wrap (depth2 + 1);
 (chunk_looks_right x19.kids t12 t8).bind fun q13 =>
 let tr14 := q13.1;
 let tr15 := q13.2;
 (if (!tr14) = true then
 some (Sum.inr (Sum.inr (false, tr15)))
 else
 some (Sum.inl (tr15)))))
 else
 (if (!decide (x19.kind = [])) = true then
 some (Sum.inr (Sum.inr (false, t8)))
 else
 (if (decide (((x19.kids.length : Nat) : Int) > 0)) = true then
 some (Sum.inr (Sum.inr (false, t8)))
 else
 some (Sum.inl (t8)))))))
theorem chunk_looks_right_loop2_over (l1 : List Chunk) (depth2 : Int) (hl : l1.length ≤ 9223372036854775807) (s20 : Int) : loop (chunk_looks_right_loop2 l1 depth2) ((0, s20) : Int × Int) =
    overL (chunk_looks_right_loop2_step depth2) (fun (s20 : Int) => some (Sum.inl s20)) 0 l1 s20 := by
  refine loop_over l1 (fun n (s : Int) => ((((n : Nat) : Int), s) : Int × Int)) _ _ (fun s => ?_) (fun i x s h => ?_) 0 s20 (Nat.zero_le _)
  · unfold chunk_looks_right_loop2; simp
  · have hlt := lt_len_of_get h
    have h1 : ((i : Nat) : Int) < ((l1.length : Nat) : Int) := by omega
    have h0 : (0 : Int) ≤ ((i : Nat) : Int) := by omega
    have hw : IntKind.i64.wrap (((i : Nat) : Int) + 1) = (((i + 1 : Nat) : Nat) : Int) := w64 (by omega)
    unfold chunk_looks_right_loop2 chunk_looks_right_loop2_step
    simp only [h1, h0, hw, h, decide_true, if_true, and_self, true_and, Int.toNat_natCast, Option.bind_some, Option.map_bind, Function.comp_def, map_ite, map_elim, Option.map_some, Option.map_none]

theorem chunk_looks_right_eq (l1 : List Chunk) (depth2 b3 : Int) : chunk_looks_right l1 depth2 b3 =
 (loop (chunk_looks_right_loop2 l1 depth2) (0, b3)).bind (fun o25 =>
 (Sum.elim (fun (b21 : Int) =>
 some (true, b21))
 (fun (p22 : Bool × Int) =>
 let v23 := p22.1;
 let b24 := p22.2;
 some (v23, b24)) o25)) := (call_eq ..).trans (by kernel_rfl)

noncomputable def chunk_length_loop5 (c4 : List Chunk) (s5 : Int × Int) : Option ((Int × Int) ⊕ (Int)) :=
 let n6 := s5.1;
 let v7 := s5.2;
 (if (decide (v7 < ((c4.length : Nat) : Int))) = true then
 (if 0 ≤ v7 then
 (c4[v7.toNat]?).bind fun e8 =>
 (chunk_size e8.id e8.kind e8.data e8.kids).bind fun q9 =>
 let t10 := IntKind.i64.wrap (n6 + q9);
 let t11 := IntKind.i64.wrap (v7 + 1);
 some (Sum.inl (t10, t11))
 else
 none)
 else
 some (Sum.inr n6))
noncomputable def chunk_length_loop5_step (i12 : Nat) (x13 : Chunk) (s14 : Int) : Option ((Int) ⊕ (Int)) :=
 (chunk_size x13.id x13.kind x13.data x13.kids).bind fun q9 =>
 let t10 := IntKind.i64.wrap (s14 + q9);
 some (Sum.inl (t10))
theorem chunk_length_loop5_over (c4 : List Chunk) (hl : c4.length ≤ 9223372036854775807) (s14 : Int) : loop (chunk_length_loop5 c4) ((s14, 0) : Int × Int) =
    overL (chunk_length_loop5_step) (fun (s14 : Int) => some s14) 0 c4 s14 := by
  refine loop_over c4 (fun n (s : Int) => ((s, ((n : Nat) : Int)) : Int × Int)) _ _ (fun s => ?_) (fun i x s h => ?_) 0 s14 (Nat.zero_le _)
  · unfold chunk_length_loop5; simp
  · have hlt := lt_len_of_get h
    have h1 : ((i : Nat) : Int) < ((c4.length : Nat) : Int) := by omega
    have h0 : (0 : Int) ≤ ((i : Nat) : Int) := by omega
    have hw : IntKind.i64.wrap (((i : Nat) : Int) + 1) = (((i + 1 : Nat) : Nat) : Int) := w64 (by omega)
    unfold chunk_length_loop5 chunk_length_loop5_step
    simp only [h1, h0, hw, h, decide_true, if_true, and_self, true_and, Int.toNat_natCast, Option.bind_some, Option.map_bind, Function.comp_def, map_ite, map_elim, Option.map_some, Option.map_none]

theorem chunk_length_eq (c1 c2 c3 : List Int) (c4 : List Chunk) : chunk_length c1 c2 c3 c4 =
 (if (!decide (c1 = [70, 79, 82, 77])) = true then
 some ((c3.length : Nat) : Int)
 else
 (loop (chunk_length_loop5 c4) (4, 0)).bind (fun n15 =>
 some n15)) := (call_eq ..).trans (by kernel_rfl)

noncomputable def chunk_isId_loop4 (s1 : List Int) (v2 : Int) : Option ((Int) ⊕ ((Unit) ⊕ (Bool))) :=
 (if (decide (v2 < 4)) = true then
 (if 0 ≤ v2 ∧ v2 < ((s1).length : Int) then
 let t3 : Int := rd s1 v2;
 (if (decide (t3 < 65)) = true then
 (if (decide (t3 < 48)) = true then
 some (Sum.inr (Sum.inr false))
 else
 (if (decide (t3 > 57)) = true then
 some (Sum.inr (Sum.inr false))
 else
 let t4 := IntKind.i64.wrap (v2 + 1);
 some (Sum.inl t4)))
 else
 (if (decide (t3 > 90)) = true then
 (if (decide (t3 < 48)) = true then
 some (Sum.inr (Sum.inr false))
 else
 (if (decide (t3 > 57)) = true then
 some (Sum.inr (Sum.inr false))
 else
 let t5 := IntKind.i64.wrap (v2 + 1);
 some (Sum.inl t5)))
 else
 let t6 := IntKind.i64.wrap (v2 + 1);
 some (Sum.inl t6)))
 else
 none)
 else
 some (Sum.inr (Sum.inl ())))

theorem chunk_isId_eq (s1 : List Int) : chunk_isId s1 =
 (if (!decide (((s1.length : Nat) : Int) = 4)) = true then
 some false
 else
 (loop (chunk_isId_loop4 s1) 0).bind (fun o12 =>
 (Sum.elim (fun (p10 : Unit) =>
 some true)
 (fun (v11 : Bool) =>
 some v11) o12))) := (call_eq ..).trans (by kernel_rfl)

theorem chunk_isKind_eq (s1 : List Int) : chunk_isKind s1 =
 (chunk_isId s1).bind fun q2 =>
 (if q2 = true then
 some (!decide (s1 = [70, 79, 82, 77]))
 else
 some false) := (call_eq ..).trans (by kernel_rfl)

theorem coder_clone_eq (m1 : Int) (m2 : List Int) : coder_clone m1 m2 =
 (if (([] : List Int).length + m2.length) * 8 ≤ 140737488355328 then
 let t3 : List Int := ([] : List Int) ++ m2;
 some (m1, t3)
 else
 none) := (call_eq ..).trans (by kernel_rfl)

theorem coder_chances_eq : coder_chances =
 some () := (call_eq ..).trans (by kernel_rfl)

theorem coder_Decoder_none_eq (b1 b2 b3 : Int) (b4 : List Int) (b5 b6 b7 : Int) (b8 : Bool) (b9 : List Int) : coder_Decoder_none b1 b2 b3 b4 b5 b6 b7 b8 b9 =
 some (false, b1, b2, b3, b4, b5, b6, b7, b8, b9) := (call_eq ..).trans (by kernel_rfl)

theorem coder_interval_mid_eq (ctx1 b2 b3 b4 : Int) (b5 : List Int) (b6 b7 b8 : Int) (b9 : Bool) (b10 : List Int) : coder_interval_mid ctx1 b2 b3 b4 b5 b6 b7 b8 b9 b10 =
 let t11 := IntKind.u64.wrap (b4 - b3);
 (if 0 ≤ ctx1 ∧ ctx1 < (b10.length : Int) then
 let t12 : Int := rd b10 ctx1;
 (coder_table_chance b2 t12).bind fun q13 =>
 let t14 := IntKind.u64.wrap q13;
 let t15 := IntKind.u64.wrap (t11.tdiv 4096);
 let t16 := IntKind.u64.wrap (t15 * t14);
 let t17 := IntKind.u64.wrap (b3 + t16);
 let t18 : Int := t11.tmod 4096;
 let t19 := IntKind.u64.wrap (t18 * t14);
 let t20 := IntKind.u64.wrap (t19.tdiv 4096);
 let t21 := IntKind.u64.wrap (t17 + t20);
 some (t21, b2, b3, b4, b5, b6, b7, b8, b9, b10)
 else
 none) := (call_eq ..).trans (by kernel_rfl)

theorem coder_interval_take_eq (ctx1 bit2 mid3 b4 b5 b6 : Int) (b7 : List Int) (b8 b9 b10 : Int) (b11 : Bool) (b12 : List Int) : coder_interval_take ctx1 bit2 mid3 b4 b5 b6 b7 b8 b9 b10 b11 b12 =
 ((if (decide (bit2 = 1)) = true then
 some (b4, b5, mid3, b7, b8, b9, b10, b11, b12)
 else
 let t13 := IntKind.u64.wrap (mid3 + 1);
 some (b4, t13, b6, b7, b8, b9, b10, b11, b12)) : Option (Int × Int × Int × (List Int) × Int × Int × Int × Bool × (List Int))).bind (fun p14 =>
 let b15 := p14.1;
 let b16 := p14.2.1;
 let b17 := p14.2.2.1;
 let b18 := p14.2.2.2.1;
 let b19 := p14.2.2.2.2.1;
 let b20 := p14.2.2.2.2.2.1;
 let b21 := p14.2.2.2.2.2.2.1;
 let b22 := p14.2.2.2.2.2.2.2.1;
 let b23 := p14.2.2.2.2.2.2.2.2;
 (if 0 ≤ ctx1 ∧ ctx1 < (b23.length : Int) then
 let t24 : Int := rd b23 ctx1;
 (coder_next b15 t24 bit2).bind fun q25 =>
 (if 0 ≤ ctx1 ∧ ctx1 < (b23.length : Int) then
 let w26 : List Int := b23.set ctx1.toNat q25;
 some (b15, b16, b17, b18, b19, b20, b21, b22, w26)
 else
 none)
 else
 none)) := (call_eq ..).trans (by kernel_rfl)

theorem coder_interval_same_eq (b1 b2 b3 : Int) (b4 : List Int) (b5 b6 b7 : Int) (b8 : Bool) (b9 : List Int) : coder_interval_same b1 b2 b3 b4 b5 b6 b7 b8 b9 =
 let t10 := ishr .u64 b2 24;
 let t11 := ishr .u64 b3 24;
 some (decide (t10 = t11), b1, b2, b3, b4, b5, b6, b7, b8, b9) := (call_eq ..).trans (by kernel_rfl)

theorem coder_interval_lose_eq (b1 b2 b3 : Int) (b4 : List Int) (b5 b6 b7 : Int) (b8 : Bool) (b9 : List Int) : coder_interval_lose b1 b2 b3 b4 b5 b6 b7 b8 b9 =
 let t10 := ishr .u64 b2 24;
 let t11 := IntKind.u8.wrap t10;
 let t12 := ishl .u64 b2 8;
 let t13 := iand .u64 t12 4294967295;
 let t14 := ishl .u64 b3 8;
 let t15 := iand .u64 t14 4294967295;
 let t16 := ior .u64 t15 255;
 some (t11, b1, t13, t16, b4, b5, b6, b7, b8, b9) := (call_eq ..).trans (by kernel_rfl)

theorem coder_Decoder_shift_2_eq (b1 b2 b3 : Int) (b4 : List Int) (b5 b6 b7 : Int) (b8 : Bool) (b9 : List Int) : coder_Decoder_shift_2 b1 b2 b3 b4 b5 b6 b7 b8 b9 =
 ((if (decide (b5 < ((b4.length : Nat) : Int))) = true then
 (if 0 ≤ b5 ∧ b5 < (b4.length : Int) then
 some (rd b4 b5, b1, b2, b3, b4, b5, b6, b7, b8, b9)
 else
 none)
 else
 let t10 := IntKind.i64.wrap (b7 + 1);
 some (0, b1, b2, b3, b4, b5, b6, t10, b8, b9)) : Option (Int × Int × Int × Int × (List Int) × Int × Int × Int × Bool × (List Int))).bind (fun p11 =>
 let b12 := p11.1;
 let b13 := p11.2.1;
 let b14 := p11.2.2.1;
 let b15 := p11.2.2.2.1;
 let b16 := p11.2.2.2.2.1;
 let b17 := p11.2.2.2.2.2.1;
 let b18 := p11.2.2.2.2.2.2.1;
 let b19 := p11.2.2.2.2.2.2.2.1;
 let b20 := p11.2.2.2.2.2.2.2.2.1;
 let b21 := p11.2.2.2.2.2.2.2.2.2;
 let t22 := IntKind.i64.wrap (b17 + 1);
 let t23 := ishl .u64 b18 8;
 let t24 := iand .u64 t23 4294967295;
 let t25 := IntKind.u64.wrap b12;
 let t26 := ior .u64 t24 t25;
 some (b13, b14, b15, b16, t22, t26, b19, b20, b21)) := (call_eq ..).trans (by kernel_rfl)

theorem number_tail_take_eq (b1 : Int) : number_tail_take b1 =
 let t2 := IntKind.i64.wrap (b1 + 1);
 let t3 := imin t2 47;
 some (b1, t3) := (call_eq ..).trans (by kernel_rfl)

theorem slices_ContainsFunc_int_int_eq (s1 : List Int) : slices_ContainsFunc_int_int s1 =
 (slices_IndexFunc_int_int_2 s1).bind fun q2 =>
 some (decide (q2 ≥ 0)) := (call_eq ..).trans (by kernel_rfl)

noncomputable def sort_suffixes_loop3 (t3 : List Int) (s4 : Int × (List Int)) : Option ((Int × (List Int)) ⊕ ((List Int))) :=
 let v5 := s4.1;
 let b6 := s4.2;
 (if (decide (v5 < ((t3.length : Nat) : Int))) = true then
 (if 0 ≤ v5 ∧ v5 < (b6.length : Int) then
 let w7 : List Int := b6.set v5.toNat v5;
 let t8 := IntKind.i64.wrap (v5 + 1);
 some (Sum.inl (t8, w7))
 else
 none)
 else
 some (Sum.inr b6))

theorem sort_suffixes_eq (text1 : List Int) : sort_suffixes text1 =
 let t2 := IntKind.i64.wrap (((text1.length : Nat) : Int) + 1);
 (if 0 ≤ t2 ∧ t2 ≤ t2 ∧ ((8 : Nat) : Int) * t2 ≤ 281474976710656 then
 let t3 : List Int := List.replicate t2.toNat 0;
 (loop (sort_suffixes_loop3 t3) (0, t3)).bind (fun b12 =>
 (slices_SortFunc_int_int b12 text1).bind fun q13 =>
 let tr14 := q13.1;
 let tr15 := q13.2;
 some tr14)
 else
 none) := (call_eq ..).trans (by kernel_rfl)

theorem note_size_eq (n1 : Int) : note_size n1 =
 (bits_Size n1).bind fun q2 =>
 let tr3 := q2.1;
 let tr4 := q2.2;
 some tr4 := (call_eq ..).trans (by kernel_rfl)

noncomputable def slices_Concat_byte_byte_loop3 (slices1 : List (List Int)) (s2 : Int × Int) : Option ((Int × Int) ⊕ (Int)) :=
 let size3 := s2.1;
 let v4 := s2.2;
 (if (decide (v4 < ((slices1.length : Nat) : Int))) = true then
 (if 0 ≤ v4 then
 (slices1[v4.toNat]?).bind fun e5 =>
 let t6 := IntKind.i64.wrap (size3 + ((e5.length : Nat) : Int));
 (if (decide (t6 < 0)) = true then
 none
 else
 let t7 := IntKind.i64.wrap (v4 + 1);
 some (Sum.inl (t6, t7)))
 else
 none)
 else
 some (Sum.inr size3))

noncomputable def slices_Concat_byte_byte_loop11 (slices1 : List (List Int)) (s13 : (List Int) × Int) : Option (((List Int) × Int) ⊕ ((List Int))) :=
 let newslice14 := s13.1;
 let v15 := s13.2;
 (if (decide (v15 < ((slices1.length : Nat) : Int))) = true then
 (if 0 ≤ v15 then
 (slices1[v15.toNat]?).bind fun e16 =>
 none
 else
 none)
 else
 some (Sum.inr newslice14))

theorem slices_Concat_byte_byte_eq (slices1 : List (List Int)) : slices_Concat_byte_byte slices1 =
 (loop (slices_Concat_byte_byte_loop3 slices1) (0, 0)).bind (fun size11 =>
 (slices_Grow_byte_byte [] size11).bind fun q12 =>
 (loop (slices_Concat_byte_byte_loop11 slices1) (q12, 0)).bind (fun newslice20 =>
 some newslice20)) := (call_eq ..).trans (by kernel_rfl)

noncomputable def coder_Encoder_Put_loop6_D (s32 : Int × Int × Int × (List Int) × (List Int)) : Option ((Int × Int × Int × (List Int) × (List Int)) ⊕ (Int × Int × Int × (List Int) × (List Int))) :=
 let b33 := s32.1;
 let b34 := s32.2.1;
 let b35 := s32.2.2.1;
 let b36 := s32.2.2.2.1;
 let b37 := s32.2.2.2.2;
 (coder_interval_same_2 b33 b34 b35 b36 b37).bind fun q38 =>
 let tr39 := q38.1;
 let tr40 := q38.2.1;
 let tr41 := q38.2.2.1;
 let tr42 := q38.2.2.2.1;
 let tr43 := q38.2.2.2.2.1;
 let tr44 := q38.2.2.2.2.2;
 (if tr39 = true then
 (demon
 ((coder_interval_lose_2 tr40 tr41 tr42 tr43 tr44).bind fun q45 =>
 let tr46 := q45.1;
 let tr47 := q45.2.1;
 let tr48 := q45.2.2.1;
 let tr49 := q45.2.2.2.1;
 let tr50 := q45.2.2.2.2.1;
 let tr51 := q45.2.2.2.2.2;
 (if (tr51.length + ([tr46] : List Int).length) * 1 ≤ 140737488355328 then
 let t52 : List Int := tr51 ++ [tr46];
 some (Sum.inl (tr47, tr48, tr49, tr50, t52))
 else
 none))
 ((coder_interval_lose_2 tr40 tr41 tr42 tr43 tr44).bind fun q53 =>
 let tr54 := q53.1;
 let tr55 := q53.2.1;
 let tr56 := q53.2.2.1;
 let tr57 := q53.2.2.2.1;
 let tr58 := q53.2.2.2.2.1;
 let tr59 := q53.2.2.2.2.2;
 (if (tr59.length + ([tr54] : List Int).length) * 1 ≤ 140737488355328 then
 let t60 : List Int := tr59 ++ [tr54];
 some (Sum.inl (tr55, tr56, tr57, tr58, t60))
 else
 none)))
 else
 some (Sum.inr (tr40, tr41, tr42, tr43, tr44)))
noncomputable def coder_Encoder_Put_loop6 (s32 : Int × Int × Int × (List Int) × (List Int)) : Option ((Int × Int × Int × (List Int) × (List Int)) ⊕ (Int × Int × Int × (List Int) × (List Int))) :=
 let b33 := s32.1;
 let b34 := s32.2.1;
 let b35 := s32.2.2.1;
 let b36 := s32.2.2.2.1;
 let b37 := s32.2.2.2.2;
 (coder_interval_same_2 b33 b34 b35 b36 b37).bind fun q38 =>
 let tr39 := q38.1;
 let tr40 := q38.2.1;
 let tr41 := q38.2.2.1;
 let tr42 := q38.2.2.2.1;
 let tr43 := q38.2.2.2.2.1;
 let tr44 := q38.2.2.2.2.2;
 (if tr39 = true then
 ((coder_interval_lose_2 tr40 tr41 tr42 tr43 tr44).bind fun q45 =>
 let tr46 := q45.1;
 let tr47 := q45.2.1;
 let tr48 := q45.2.2.1;
 let tr49 := q45.2.2.2.1;
 let tr50 := q45.2.2.2.2.1;
 let tr51 := q45.2.2.2.2.2;
 (if (tr51.length + ([tr46] : List Int).length) * 1 ≤ 140737488355328 then
 let t52 : List Int := tr51 ++ [tr46];
 some (Sum.inl (tr47, tr48, tr49, tr50, t52))
 else
 none))
 else
 some (Sum.inr (tr40, tr41, tr42, tr43, tr44)))
theorem coder_Encoder_Put_loop6_D_eq : coder_Encoder_Put_loop6_D = coder_Encoder_Put_loop6 := by
  funext s32; unfold coder_Encoder_Put_loop6_D coder_Encoder_Put_loop6; simp only [demon_same]
theorem coder_Encoder_Put_eqD (ctx1 bit2 b3 b4 b5 : Int) (b6 b7 : List Int) : coder_Encoder_Put ctx1 bit2 b3 b4 b5 b6 b7 =
 (coder_Encoder_none b3 b4 b5 b6 b7).bind fun q8 =>
 let tr9 := q8.1;
 let tr10 := q8.2.1;
 let tr11 := q8.2.2.1;
 let tr12 := q8.2.2.2.1;
 let tr13 := q8.2.2.2.2.1;
 let tr14 := q8.2.2.2.2.2;
 ((if tr9 = true then
 some (Sum.inr 7)
 else
 ((if (decide (ctx1 < 0)) = true then
 some true
 else
 (if (decide (ctx1 ≥ ((tr13.length : Nat) : Int))) = true then
 some true
 else
 (if (!decide (bit2 = 0)) = true then
 some (!decide (bit2 = 1))
 else
 some false))) : Option (Bool)).bind (fun v15 =>
 (if v15 = true then
 some (Sum.inr 2)
 else
 some (Sum.inl ())))) : Option ((Unit) ⊕ (Int))).bind (fun o18 =>
 (Sum.elim (fun (p16 : Unit) =>
 (coder_interval_mid_2 ctx1 tr10 tr11 tr12 tr13 tr14).bind fun q19 =>
 let tr20 := q19.1;
 let tr21 := q19.2.1;
 let tr22 := q19.2.2.1;
 let tr23 := q19.2.2.2.1;
 let tr24 := q19.2.2.2.2.1;
 let tr25 := q19.2.2.2.2.2;
 (coder_interval_take_2 ctx1 bit2 tr20 tr21 tr22 tr23 tr24 tr25).bind fun q26 =>
 let tr27 := q26.1;
 let tr28 := q26.2.1;
 let tr29 := q26.2.2.1;
 let tr30 := q26.2.2.2.1;
 let tr31 := q26.2.2.2.2;
 (loop (coder_Encoder_Put_loop6_D) (tr27, tr28, tr29, tr30, tr31)).bind (fun p61 =>
 let b62 := p61.1;
 let b63 := p61.2.1;
 let b64 := p61.2.2.1;
 let b65 := p61.2.2.2.1;
 let b66 := p61.2.2.2.2;
 some (0, b62, b63, b64, b65, b66)))
 (fun (v17 : Int) =>
 some (v17, tr10, tr11, tr12, tr13, tr14)) o18)) := (call_eq ..).trans (by kernel_rfl)
theorem coder_Encoder_Put_eq (ctx1 bit2 b3 b4 b5 : Int) (b6 b7 : List Int) : coder_Encoder_Put ctx1 bit2 b3 b4 b5 b6 b7 =
 (coder_Encoder_none b3 b4 b5 b6 b7).bind fun q8 =>
 let tr9 := q8.1;
 let tr10 := q8.2.1;
 let tr11 := q8.2.2.1;
 let tr12 := q8.2.2.2.1;
 let tr13 := q8.2.2.2.2.1;
 let tr14 := q8.2.2.2.2.2;
 ((if tr9 = true then
 some (Sum.inr 7)
 else
 ((if (decide (ctx1 < 0)) = true then
 some true
 else
 (if (decide (ctx1 ≥ ((tr13.length : Nat) : Int))) = true then
 some true
 else
 (if (!decide (bit2 = 0)) = true then
 some (!decide (bit2 = 1))
 else
 some false))) : Option (Bool)).bind (fun v15 =>
 (if v15 = true then
 some (Sum.inr 2)
 else
 some (Sum.inl ())))) : Option ((Unit) ⊕ (Int))).bind (fun o18 =>
 (Sum.elim (fun (p16 : Unit) =>
 (coder_interval_mid_2 ctx1 tr10 tr11 tr12 tr13 tr14).bind fun q19 =>
 let tr20 := q19.1;
 let tr21 := q19.2.1;
 let tr22 := q19.2.2.1;
 let tr23 := q19.2.2.2.1;
 let tr24 := q19.2.2.2.2.1;
 let tr25 := q19.2.2.2.2.2;
 (coder_interval_take_2 ctx1 bit2 tr20 tr21 tr22 tr23 tr24 tr25).bind fun q26 =>
 let tr27 := q26.1;
 let tr28 := q26.2.1;
 let tr29 := q26.2.2.1;
 let tr30 := q26.2.2.2.1;
 let tr31 := q26.2.2.2.2;
 (loop (coder_Encoder_Put_loop6) (tr27, tr28, tr29, tr30, tr31)).bind (fun p61 =>
 let b62 := p61.1;
 let b63 := p61.2.1;
 let b64 := p61.2.2.1;
 let b65 := p61.2.2.2.1;
 let b66 := p61.2.2.2.2;
 some (0, b62, b63, b64, b65, b66)))
 (fun (v17 : Int) =>
 some (v17, tr10, tr11, tr12, tr13, tr14)) o18)) := by rw [coder_Encoder_Put_eqD]; simp only [demon_same, coder_Encoder_Put_loop6_D_eq]

theorem number_Valid_eq (n1 : Bool) (n2 : Int) : number_Valid n1 n2 =
 (if n1 = true then
 some (decide (n2 = 0))
 else
 (if (decide (n2 ≥ (-1048576))) = true then
 some (decide (n2 ≤ 1048576))
 else
 some false)) := (call_eq ..).trans (by kernel_rfl)

theorem coder_Encoder_Model_eq (b1 b2 b3 : Int) (b4 b5 : List Int) : coder_Encoder_Model b1 b2 b3 b4 b5 =
 (coder_Encoder_none b1 b2 b3 b4 b5).bind fun q6 =>
 let tr7 := q6.1;
 let tr8 := q6.2.1;
 let tr9 := q6.2.2.1;
 let tr10 := q6.2.2.2.1;
 let tr11 := q6.2.2.2.2.1;
 let tr12 := q6.2.2.2.2.2;
 (if tr7 = true then
 some (0, [], tr8, tr9, tr10, tr11, tr12)
 else
 (coder_clone tr8 tr11).bind fun q13 =>
 let tr14 := q13.1;
 let tr15 := q13.2;
 some (tr14, tr15, tr8, tr9, tr10, tr11, tr12)) := (call_eq ..).trans (by kernel_rfl)

noncomputable def number_events_loop7 (base1 t9 : Int) (s10 : Int × (List Event)) : Option ((Int × (List Event)) ⊕ ((List Event))) :=
 let v11 := s10.1;
 let out12 := s10.2;
 (if (decide (v11 < t9)) = true then
 let t13 := IntKind.i64.wrap (base1 + 1);
 let t14 := IntKind.i64.wrap (t13 + v11);
 (if (out12.length + ([(Event.mk t14 1)] : List Event).length) * 16 ≤ 140737488355328 then
 let t15 : List Event := out12 ++ [(Event.mk t14 1)];
 let t16 := IntKind.i64.wrap (v11 + 1);
 some (Sum.inl (t16, t15))
 else
 none)
 else
 some (Sum.inr out12))
noncomputable def number_events_loop7_step (base1 : Int) (i17 x18 : Nat) (s19 : (List Event)) : Option (((List Event)) ⊕ ((List Event))) :=
 let t13 := IntKind.i64.wrap (base1 + 1);
 let t14 := IntKind.i64.wrap (t13 + ((i17 : Nat) : Int));
 (if (s19.length + ([(Event.mk t14 1)] : List Event).length) * 16 ≤ 140737488355328 then
 let t15 : List Event := s19 ++ [(Event.mk t14 1)];
 some (Sum.inl (t15))
 else
 none)
theorem number_events_loop7_over (base1 t9 : Int) (hl : (List.range (t9).toNat).length ≤ 9223372036854775807) (s19 : (List Event)) : loop (number_events_loop7 base1 t9) ((0, s19) : Int × (List Event)) =
    overL (number_events_loop7_step base1) (fun (s19 : (List Event)) => some s19) 0 (List.range (t9).toNat) s19 := by
  refine loop_over (List.range (t9).toNat) (fun n (s : (List Event)) => ((((n : Nat) : Int), s) : Int × (List Event))) _ _ (fun s => ?_) (fun i x s h => ?_) 0 s19 (Nat.zero_le _)
  · have h1 : ¬ (((List.range (t9).toNat).length : Nat) : Int) < t9 := by simp only [List.length_range]; omega
    unfold number_events_loop7; simp only [h1, decide_false, Bool.false_eq_true, if_false, Option.map_some]
  · have hlt := lt_len_of_get h
    rw [List.length_range] at hlt hl
    rw [List.getElem?_range hlt] at h
    cases h
    have h1 : ((i : Nat) : Int) < t9 := by omega
    have h0 : (0 : Int) ≤ ((i : Nat) : Int) := by omega
    have hw : IntKind.i64.wrap (((i : Nat) : Int) + 1) = (((i + 1 : Nat) : Nat) : Int) := w64 (by omega)
    unfold number_events_loop7 number_events_loop7_step
    simp only [h1, h0, hw, decide_true, if_true, and_self, true_and, Int.toNat_natCast, Option.bind_some, Option.map_bind, Function.comp_def, map_ite, map_elim, Option.map_some, Option.map_none]

noncomputable def number_events_loop15 (base1 t6 t9 : Int) (s26 : Int × (List Event) × Int) : Option ((Int × (List Event) × Int) ⊕ ((List Event) × Int)) :=
 let i27 := s26.1;
 let out28 := s26.2.1;
 let b29 := s26.2.2;
 (if (decide (i27 ≥ 0)) = true then
 let t30 := IntKind.i64.wrap (23 + t9);
 let t31 := IntKind.i64.wrap (t9 - 1);
 ((if (decide (i27 < t31)) = true then
 (number_tail_take b29).bind fun q32 =>
 let tr33 := q32.1;
 let tr34 := q32.2;
 some (tr33, tr34)
 else
 some (t30, b29)) : Option (Int × Int)).bind (fun p35 =>
 let ctx36 := p35.1;
 let b37 := p35.2;
 let t38 := IntKind.i64.wrap (base1 + ctx36);
 (if i27 < 0 then
 none
 else
 let t39 := ishr .i64 t6 i27;
 let t40 := iand .i64 t39 1;
 (if (out28.length + ([(Event.mk t38 t40)] : List Event).length) * 16 ≤ 140737488355328 then
 let t41 : List Event := out28 ++ [(Event.mk t38 t40)];
 let t42 := IntKind.i64.wrap (i27 - 1);
 some (Sum.inl (t42, t41, b37))
 else
 none)))
 else
 some (Sum.inr (out28, b29)))
theorem number_events_eq (base1 : Int) (n2 : Bool) (n3 : Int) : number_events base1 n2 n3 =
 (if n2 = true then
 some [(Event.mk base1 1)]
 else
 let t4 := IntKind.i64.wrap (0 - n3);
 let t5 := imax n3 t4;
 let t6 := IntKind.i64.wrap (t5 + 1);
 let t7 := IntKind.u64.wrap t6;
 (math_bits_Len t7).bind fun q8 =>
 let t9 := IntKind.i64.wrap (q8 - 1);
 (loop (number_events_loop7 base1 t9) (0, [(Event.mk base1 0)])).bind (fun out20 =>
 ((if (decide (t9 < 20)) = true then
 let t21 := IntKind.i64.wrap (base1 + 1);
 let t22 := IntKind.i64.wrap (t21 + t9);
 (if (out20.length + ([(Event.mk t22 0)] : List Event).length) * 16 ≤ 140737488355328 then
 let t23 : List Event := out20 ++ [(Event.mk t22 0)];
 some t23
 else
 none)
 else
 some out20) : Option ((List Event))).bind (fun out24 =>
 let t25 := IntKind.i64.wrap (t9 - 1);
 (loop (number_events_loop15 base1 t6 t9) (t25, out24, 44)).bind (fun p43 =>
 let out44 := p43.1;
 let b45 := p43.2;
 (if (!decide (n3 = 0)) = true then
 let t46 := IntKind.i64.wrap (base1 + 22);
 ((if (decide (n3 < 0)) = true then
 some (t46, 1)
 else
 some (t46, 0)) : Option (Int × Int)).bind (fun p47 =>
 let b48 := p47.1;
 let b49 := p47.2;
 (if (out44.length + ([(Event.mk b48 b49)] : List Event).length) * 16 ≤ 140737488355328 then
 let t50 : List Event := out44 ++ [(Event.mk b48 b49)];
 some t50
 else
 none))
 else
 some out44))))) := (call_eq ..).trans (by kernel_rfl)

noncomputable def number_put_loop2 (l1 : List Event) (s7 : Int × Int × Int × Int × (List Int) × (List Int)) : Option ((Int × Int × Int × Int × (List Int) × (List Int)) ⊕ ((Int × Int × Int × (List Int) × (List Int)) ⊕ (Int × Int × Int × Int × (List Int) × (List Int)))) :=
 let v8 := s7.1;
 let b9 := s7.2.1;
 let b10 := s7.2.2.1;
 let b11 := s7.2.2.2.1;
 let b12 := s7.2.2.2.2.1;
 let b13 := s7.2.2.2.2.2;
 (if (decide (v8 < ((l1.length : Nat) : Int))) = true then
 (if 0 ≤ v8 then
 (l1[v8.toNat]?).bind fun e14 =>
 (coder_Encoder_Put e14.ctx e14.bit b9 b10 b11 b12 b13).bind fun q15 =>
 let tr16 := q15.1;
 let tr17 := q15.2.1;
 let tr18 := q15.2.2.1;
 let tr19 := q15.2.2.2.1;
 let tr20 := q15.2.2.2.2.1;
 let tr21 := q15.2.2.2.2.2;
 (if (!decide (tr16 = 0)) = true then
 some (Sum.inr (Sum.inr (tr16, tr17, tr18, tr19, tr20, tr21)))
 else
 let t22 := IntKind.i64.wrap (v8 + 1);
 some (Sum.inl (t22, tr17, tr18, tr19, tr20, tr21)))
 else
 none)
 else
 some (Sum.inr (Sum.inl (b9, b10, b11, b12, b13))))
noncomputable def number_put_loop2_step (i23 : Nat) (x24 : Event) (s25 : Int × Int × Int × (List Int) × (List Int)) : Option ((Int × Int × Int × (List Int) × (List Int)) ⊕ ((Int × Int × Int × (List Int) × (List Int)) ⊕ (Int × Int × Int × Int × (List Int) × (List Int)))) :=
 let b26 := s25.1;
 let b27 := s25.2.1;
 let b28 := s25.2.2.1;
 let b29 := s25.2.2.2.1;
 let b30 := s25.2.2.2.2;
 (coder_Encoder_Put x24.ctx x24.bit b26 b27 b28 b29 b30).bind fun q15 =>
 let tr16 := q15.1;
 let tr17 := q15.2.1;
 let tr18 := q15.2.2.1;
 let tr19 := q15.2.2.2.1;
 let tr20 := q15.2.2.2.2.1;
 let tr21 := q15.2.2.2.2.2;
 (if (!decide (tr16 = 0)) = true then
 some (Sum.inr (Sum.inr (tr16, tr17, tr18, tr19, tr20, tr21)))
 else
 some (Sum.inl ((tr17, tr18, tr19, tr20, tr21))))
theorem number_put_loop2_over (l1 : List Event) (hl : l1.length ≤ 9223372036854775807) (s25 : Int × Int × Int × (List Int) × (List Int)) : loop (number_put_loop2 l1) ((0, s25.1, s25.2.1, s25.2.2.1, s25.2.2.2.1, s25.2.2.2.2) : Int × Int × Int × Int × (List Int) × (List Int)) =
    overL (number_put_loop2_step) (fun (s25 : Int × Int × Int × (List Int) × (List Int)) => let b26 := s25.1; let b27 := s25.2.1; let b28 := s25.2.2.1; let b29 := s25.2.2.2.1; let b30 := s25.2.2.2.2; some (Sum.inl (b26, b27, b28, b29, b30))) 0 l1 s25 := by
  refine loop_over l1 (fun n (s : Int × Int × Int × (List Int) × (List Int)) => ((((n : Nat) : Int), s.1, s.2.1, s.2.2.1, s.2.2.2.1, s.2.2.2.2) : Int × Int × Int × Int × (List Int) × (List Int))) _ _ (fun s => ?_) (fun i x s h => ?_) 0 s25 (Nat.zero_le _)
  · unfold number_put_loop2; simp
  · have hlt := lt_len_of_get h
    have h1 : ((i : Nat) : Int) < ((l1.length : Nat) : Int) := by omega
    have h0 : (0 : Int) ≤ ((i : Nat) : Int) := by omega
    have hw : IntKind.i64.wrap (((i : Nat) : Int) + 1) = (((i + 1 : Nat) : Nat) : Int) := w64 (by omega)
    unfold number_put_loop2 number_put_loop2_step
    simp only [h1, h0, hw, h, decide_true, if_true, and_self, true_and, Int.toNat_natCast, Option.bind_some, Option.map_bind, Function.comp_def, map_ite, map_elim, Option.map_some, Option.map_none]

theorem number_put_eq (l1 : List Event) (b2 b3 b4 : Int) (b5 b6 : List Int) : number_put l1 b2 b3 b4 b5 b6 =
 (loop (number_put_loop2 l1) (0, b2, b3, b4, b5, b6)).bind (fun o44 =>
 (Sum.elim (fun (p31 : Int × Int × Int × (List Int) × (List Int)) =>
 let b32 := p31.1;
 let b33 := p31.2.1;
 let b34 := p31.2.2.1;
 let b35 := p31.2.2.2.1;
 let b36 := p31.2.2.2.2;
 some (0, b32, b33, b34, b35, b36))
 (fun (p37 : Int × Int × Int × Int × (List Int) × (List Int)) =>
 let v38 := p37.1;
 let b39 := p37.2.1;
 let b40 := p37.2.2.1;
 let b41 := p37.2.2.2.1;
 let b42 := p37.2.2.2.2.1;
 let b43 := p37.2.2.2.2.2;
 some (v38, b39, b40, b41, b42, b43)) o44)) := (call_eq ..).trans (by kernel_rfl)

theorem coder_Encoder_none_eq (b1 b2 b3 : Int) (b4 b5 : List Int) : coder_Encoder_none b1 b2 b3 b4 b5 =
 some (false, b1, b2, b3, b4, b5) := (call_eq ..).trans (by kernel_rfl)

theorem coder_table_chance_eq (kind1 s2 : Int) : coder_table_chance kind1 s2 =
 (if (decide (kind1 = 1)) = true then
 let t3 := IntKind.i64.wrap (s2.tdiv 256);
 let t4 : Int := s2.tmod 256;
 let t5 := IntKind.i64.wrap (2 * t4);
 let t6 := IntKind.i64.wrap (t5 + 1);
 let t7 := IntKind.i64.wrap (t6 * 4096);
 let t8 := IntKind.i64.wrap (2 * t3);
 let t9 := IntKind.i64.wrap (2 * t4);
 let t10 := IntKind.i64.wrap (t8 + t9);
 let t11 := IntKind.i64.wrap (t10 + 2);
 (if t11 = 0 then
 none
 else
 let t12 := IntKind.i64.wrap (t7.tdiv t11);
 let t13 := imax t12 1;
 let t14 := imin t13 4095;
 some t14)
 else
 (if (decide (s2 ≥ 32)) = true then
 let t15 := IntKind.i64.wrap (s2 - 32);
 (if 0 ≤ t15 ∧ t15 < ((32 : Nat) : Int) then
 let t16 : Int := rd [2048, 1792, 1568, 1372, 1201, 1051, 920, 805, 705, 617, 540, 473, 414, 363, 318, 279, 245, 215, 189, 166, 146, 128, 112, 98, 86, 76, 67, 59, 52, 46, 41, 36] t15;
 let t17 := IntKind.i64.wrap (4096 - t16);
 some t17
 else
 none)
 else
 (if 0 ≤ s2 ∧ s2 < ((32 : Nat) : Int) then
 let t18 : Int := rd [2048, 1792, 1568, 1372, 1201, 1051, 920, 805, 705, 617, 540, 473, 414, 363, 318, 279, 245, 215, 189, 166, 146, 128, 112, 98, 86, 76, 67, 59, 52, 46, 41, 36] s2;
 some t18
 else
 none))) := (call_eq ..).trans (by kernel_rfl)

theorem coder_next_eq (kind1 s2 bit3 : Int) : coder_next kind1 s2 bit3 =
 (if (decide (kind1 = 1)) = true then
 let t4 := IntKind.i64.wrap (s2.tdiv 256);
 let t5 : Int := s2.tmod 256;
 (if 0 ≤ bit3 ∧ bit3 < ((2 : Nat) : Int) then
 let t6 : Int := rd [t4, t5] bit3;
 ((if (decide (t6 = 255)) = true then
 (if 0 ≤ (0 : Int) ∧ (0 : Int) < ((2 : Nat) : Int) then
 let t7 := IntKind.i64.wrap (t4.tdiv 2);
 (if 0 ≤ (1 : Int) ∧ (1 : Int) < ((2 : Nat) : Int) then
 let t8 := IntKind.i64.wrap (t5.tdiv 2);
 (if 0 ≤ (0 : Int) ∧ (0 : Int) < ((2 : Nat) : Int) then
 (if 0 ≤ (1 : Int) ∧ (1 : Int) < ((2 : Nat) : Int) then
 some (t7, t8)
 else
 none)
 else
 none)
 else
 none)
 else
 none)
 else
 some (t4, t5)) : Option (Int × Int)).bind (fun p9 =>
 let b10 := p9.1;
 let b11 := p9.2;
 (if 0 ≤ bit3 ∧ bit3 < ((2 : Nat) : Int) then
 let t12 : Int := rd [b10, b11] bit3;
 let t13 := IntKind.i64.wrap (t12 + 1);
 (if 0 ≤ bit3 ∧ bit3 < ((2 : Nat) : Int) then
 let c14 : Int := if bit3 = 0 then t13 else b10;
 let c15 : Int := if bit3 = 1 then t13 else b11;
 (if 0 ≤ (0 : Int) ∧ (0 : Int) < ((2 : Nat) : Int) then
 let t16 := IntKind.i64.wrap (256 * c14);
 (if 0 ≤ (1 : Int) ∧ (1 : Int) < ((2 : Nat) : Int) then
 let t17 := IntKind.i64.wrap (t16 + c15);
 some t17
 else
 none)
 else
 none)
 else
 none)
 else
 none))
 else
 none)
 else
 let t18 := IntKind.i64.wrap (s2.tdiv 32);
 let t19 : Int := s2.tmod 32;
 (if (decide (bit3 = t18)) = true then
 let t20 := IntKind.i64.wrap (t19 + 1);
 let t21 := imin t20 31;
 let t22 := IntKind.i64.wrap (32 * t18);
 let t23 := IntKind.i64.wrap (t22 + t21);
 some t23
 else
 (if (decide (t19 = 0)) = true then
 let t24 := IntKind.i64.wrap (32 * bit3);
 let t25 := IntKind.i64.wrap (t24 + t19);
 some t25
 else
 let t26 := IntKind.i64.wrap (t19.tdiv 4);
 let t27 := IntKind.i64.wrap (1 + t26);
 let t28 := IntKind.i64.wrap (t19 - t27);
 let t29 := IntKind.i64.wrap (32 * t18);
 let t30 := IntKind.i64.wrap (t29 + t28);
 some t30))) := (call_eq ..).trans (by kernel_rfl)

noncomputable def slices_IndexFunc_int_int_2_loop2 (s1 : List Int) (v2 : Int) : Option ((Int) ⊕ ((Unit) ⊕ (Int))) :=
 (if (decide (v2 < ((s1.length : Nat) : Int))) = true then
 (if 0 ≤ v2 ∧ v2 < (s1.length : Int) then
 (sort_asked_1 (rd s1 v2)).bind fun q3 =>
 (if q3 = true then
 some (Sum.inr (Sum.inr v2))
 else
 let t4 := IntKind.i64.wrap (v2 + 1);
 some (Sum.inl t4))
 else
 none)
 else
 some (Sum.inr (Sum.inl ())))
noncomputable def slices_IndexFunc_int_int_2_loop2_step (i5 : Nat) (x6 : Int) (s7 : Unit) : Option ((Unit) ⊕ ((Unit) ⊕ (Int))) :=
 (sort_asked_1 (x6)).bind fun q3 =>
 (if q3 = true then
 some (Sum.inr (Sum.inr ((i5 : Nat) : Int)))
 else
 some (Sum.inl (())))
theorem slices_IndexFunc_int_int_2_loop2_over (s1 : List Int) (hl : s1.length ≤ 9223372036854775807) (s7 : Unit) : loop (slices_IndexFunc_int_int_2_loop2 s1) (0 : Int) =
    overL (slices_IndexFunc_int_int_2_loop2_step) (fun (s7 : Unit) => some (Sum.inl ())) 0 s1 s7 := by
  refine loop_over s1 (fun n (s : Unit) => (((n : Nat) : Int) : Int)) _ _ (fun s => ?_) (fun i x s h => ?_) 0 s7 (Nat.zero_le _)
  · unfold slices_IndexFunc_int_int_2_loop2; simp
  · have hlt := lt_len_of_get h
    have h1 : ((i : Nat) : Int) < ((s1.length : Nat) : Int) := by omega
    have h0 : (0 : Int) ≤ ((i : Nat) : Int) := by omega
    have hw : IntKind.i64.wrap (((i : Nat) : Int) + 1) = (((i + 1 : Nat) : Nat) : Int) := w64 (by omega)
    have hr : rd s1 ((i : Nat) : Int) = x := rd_nat h
    unfold slices_IndexFunc_int_int_2_loop2 slices_IndexFunc_int_int_2_loop2_step
    simp only [h1, h0, hw, h, hr, decide_true, if_true, and_self, true_and, Int.toNat_natCast, Option.bind_some, Option.map_bind, Function.comp_def, map_ite, map_elim, Option.map_some, Option.map_none]

theorem slices_IndexFunc_int_int_2_eq (s1 : List Int) : slices_IndexFunc_int_int_2 s1 =
 (loop (slices_IndexFunc_int_int_2_loop2 s1) 0).bind (fun o10 =>
 (Sum.elim (fun (p8 : Unit) =>
 some (-1))
 (fun (v9 : Int) =>
 some v9) o10)) := (call_eq ..).trans (by kernel_rfl)

theorem slices_SortFunc_int_int_eq (b1 b2 : List Int) : slices_SortFunc_int_int b1 b2 =
 let t3 := IntKind.u64.wrap ((b1.length : Nat) : Int);
 (math_bits_Len t3).bind fun q4 =>
 (slices_pdqsortCmpFunc_int 0 ((b1.length : Nat) : Int) q4 b1 b2).bind fun q5 =>
 let tr6 := q5.1;
 let tr7 := q5.2;
 some (tr6, tr7) := (call_eq ..).trans (by kernel_rfl)

theorem slices_Grow_byte_byte_eq (s1 : List Int) (n2 : Int) : slices_Grow_byte_byte s1 n2 =
 (if (decide (n2 < 0)) = true then
 none
 else
 none) := (call_eq ..).trans (by kernel_rfl)

theorem coder_interval_mid_2_eq (ctx1 b2 b3 b4 : Int) (b5 b6 : List Int) : coder_interval_mid_2 ctx1 b2 b3 b4 b5 b6 =
 let t7 := IntKind.u64.wrap (b4 - b3);
 (if 0 ≤ ctx1 ∧ ctx1 < (b5.length : Int) then
 let t8 : Int := rd b5 ctx1;
 (coder_table_chance b2 t8).bind fun q9 =>
 let t10 := IntKind.u64.wrap q9;
 let t11 := IntKind.u64.wrap (t7.tdiv 4096);
 let t12 := IntKind.u64.wrap (t11 * t10);
 let t13 := IntKind.u64.wrap (b3 + t12);
 let t14 : Int := t7.tmod 4096;
 let t15 := IntKind.u64.wrap (t14 * t10);
 let t16 := IntKind.u64.wrap (t15.tdiv 4096);
 let t17 := IntKind.u64.wrap (t13 + t16);
 some (t17, b2, b3, b4, b5, b6)
 else
 none) := (call_eq ..).trans (by kernel_rfl)

theorem coder_interval_take_2_eq (ctx1 bit2 mid3 b4 b5 b6 : Int) (b7 b8 : List Int) : coder_interval_take_2 ctx1 bit2 mid3 b4 b5 b6 b7 b8 =
 ((if (decide (bit2 = 1)) = true then
 some (b4, b5, mid3, b7, b8)
 else
 let t9 := IntKind.u64.wrap (mid3 + 1);
 some (b4, t9, b6, b7, b8)) : Option (Int × Int × Int × (List Int) × (List Int))).bind (fun p10 =>
 let b11 := p10.1;
 let b12 := p10.2.1;
 let b13 := p10.2.2.1;
 let b14 := p10.2.2.2.1;
 let b15 := p10.2.2.2.2;
 (if 0 ≤ ctx1 ∧ ctx1 < (b14.length : Int) then
 let t16 : Int := rd b14 ctx1;
 (coder_next b11 t16 bit2).bind fun q17 =>
 (if 0 ≤ ctx1 ∧ ctx1 < (b14.length : Int) then
 let w18 : List Int := b14.set ctx1.toNat q17;
 some (b11, b12, b13, w18, b15)
 else
 none)
 else
 none)) := (call_eq ..).trans (by kernel_rfl)

theorem coder_interval_same_2_eq (b1 b2 b3 : Int) (b4 b5 : List Int) : coder_interval_same_2 b1 b2 b3 b4 b5 =
 let t6 := ishr .u64 b2 24;
 let t7 := ishr .u64 b3 24;
 some (decide (t6 = t7), b1, b2, b3, b4, b5) := (call_eq ..).trans (by kernel_rfl)

theorem coder_interval_lose_2_eq (b1 b2 b3 : Int) (b4 b5 : List Int) : coder_interval_lose_2 b1 b2 b3 b4 b5 =
 let t6 := ishr .u64 b2 24;
 let t7 := IntKind.u8.wrap t6;
 let t8 := ishl .u64 b2 8;
 let t9 := iand .u64 t8 4294967295;
 let t10 := ishl .u64 b3 8;
 let t11 := iand .u64 t10 4294967295;
 let t12 := ior .u64 t11 255;
 some (t7, b1, t9, t12, b4, b5) := (call_eq ..).trans (by kernel_rfl)

theorem math_bits_Len_eq (x1 : Int) : math_bits_Len x1 =
 (math_bits_Len64 x1).bind fun q2 =>
 some q2 := (call_eq ..).trans (by kernel_rfl)

theorem sort_asked_1_eq (s1 : Int) : sort_asked_1 s1 =
 (if (decide (s1 < 0)) = true then
 some true
 else
 some (decide (s1 ≥ 257))) := (call_eq ..).trans (by kernel_rfl)

noncomputable def slices_pdqsortCmpFunc_int_loop2 (s6 : Int × Int × Int × Bool × Bool × (List Int) × (List Int)) : Option ((Int × Int × Int × Bool × Bool × (List Int) × (List Int)) ⊕ ((List Int) × (List Int))) :=
 let a7 := s6.1;
 let b8 := s6.2.1;
 let limit9 := s6.2.2.1;
 let wasBalanced10 := s6.2.2.2.1;
 let wasPartitioned11 := s6.2.2.2.2.1;
 let b12 := s6.2.2.2.2.2.1;
 let b13 := s6.2.2.2.2.2.2;
 let t14 := IntKind.i64.wrap (b8 - a7);
 (if (decide (t14 ≤ 12)) = true then
 (slices_insertionSortCmpFunc_int a7 b8 b12 b13).bind fun q15 =>
 let tr16 := q15.1;
 let tr17 := q15.2;
 some (Sum.inr (tr16, tr17))
 else
 (if (decide (limit9 = 0)) = true then
 (slices_heapSortCmpFunc_int a7 b8 b12 b13).bind fun q18 =>
 let tr19 := q18.1;
 let tr20 := q18.2;
 some (Sum.inr (tr19, tr20))
 else
 ((if (!wasBalanced10) = true then
 (slices_breakPatternsCmpFunc_int a7 b8 b12 b13).bind fun q21 =>
 let tr22 := q21.1;
 let tr23 := q21.2;
 let t24 := IntKind.i64.wrap (limit9 - 1);
 some (t24, tr22, tr23)
 else
 some (limit9, b12, b13)) : Option (Int × (List Int) × (List Int))).bind (fun p25 =>
 let limit26 := p25.1;
 let b27 := p25.2.1;
 let b28 := p25.2.2;
 (slices_choosePivotCmpFunc_int a7 b8 b27 b28).bind fun q29 =>
 let tr30 := q29.1;
 let tr31 := q29.2.1;
 let tr32 := q29.2.2.1;
 let tr33 := q29.2.2.2;
 ((if (decide (tr31 = 2)) = true then
 (slices_reverseRangeCmpFunc_int a7 b8 tr32 tr33).bind fun q34 =>
 let tr35 := q34.1;
 let tr36 := q34.2;
 let t37 := IntKind.i64.wrap (b8 - 1);
 let t38 := IntKind.i64.wrap (tr30 - a7);
 let t39 := IntKind.i64.wrap (t37 - t38);
 some (t39, 1, tr35, tr36)
 else
 some (tr30, tr31, tr32, tr33)) : Option (Int × Int × (List Int) × (List Int))).bind (fun p40 =>
 let pivot41 := p40.1;
 let hint42 := p40.2.1;
 let b43 := p40.2.2.1;
 let b44 := p40.2.2.2;
 ((if wasBalanced10 = true then
 (if wasPartitioned11 = true then
 some (decide (hint42 = 1))
 else
 some false)
 else
 some false) : Option (Bool)).bind (fun v45 =>
 ((if v45 = true then
 (slices_partialInsertionSortCmpFunc_int a7 b8 b43 b44).bind fun q46 =>
 let tr47 := q46.1;
 let tr48 := q46.2.1;
 let tr49 := q46.2.2;
 (if tr47 = true then
 some (Sum.inr (tr48, tr49))
 else
 some (Sum.inl (tr48, tr49)))
 else
 some (Sum.inl (b43, b44))) : Option (((List Int) × (List Int)) ⊕ ((List Int) × (List Int)))).bind (fun o56 =>
 (Sum.elim (fun (p50 : (List Int) × (List Int)) =>
 let b51 := p50.1;
 let b52 := p50.2;
 ((if (decide (a7 > 0)) = true then
 let t57 := IntKind.i64.wrap (a7 - 1);
 (if 0 ≤ t57 ∧ t57 < (b51.length : Int) then
 let t58 : Int := rd b51 t57;
 (if 0 ≤ pivot41 ∧ pivot41 < (b51.length : Int) then
 let t59 : Int := rd b51 pivot41;
 (sort_suffixes_1 t58 t59 b52).bind fun q60 =>
 let tr61 := q60.1;
 let tr62 := q60.2;
 some (!(decide (tr61 < 0)), tr62)
 else
 none)
 else
 none)
 else
 some (false, b52)) : Option (Bool × (List Int))).bind (fun p63 =>
 let v64 := p63.1;
 let b65 := p63.2;
 (if v64 = true then
 (slices_partitionEqualCmpFunc_int a7 b8 pivot41 b51 b65).bind fun q66 =>
 let tr67 := q66.1;
 let tr68 := q66.2.1;
 let tr69 := q66.2.2;
 some (Sum.inl (tr67, b8, limit26, wasBalanced10, wasPartitioned11, tr68, tr69))
 else
 (slices_partitionCmpFunc_int a7 b8 pivot41 b51 b65).bind fun q70 =>
 let tr71 := q70.1;
 let tr72 := q70.2.1;
 let tr73 := q70.2.2.1;
 let tr74 := q70.2.2.2;
 let t75 := IntKind.i64.wrap (tr71 - a7);
 let t76 := IntKind.i64.wrap (b8 - tr71);
 let t77 := IntKind.i64.wrap (t14.tdiv 8);
 (if (decide (t75 < t76)) = true then
 (slices_pdqsortCmpFunc_int a7 tr71 limit26 tr73 tr74).bind fun q78 =>
 let tr79 := q78.1;
 let tr80 := q78.2;
 let t81 := IntKind.i64.wrap (tr71 + 1);
 some (Sum.inl (t81, b8, limit26, decide (t75 ≥ t77), tr72, tr79, tr80))
 else
 let t82 := IntKind.i64.wrap (tr71 + 1);
 (slices_pdqsortCmpFunc_int t82 b8 limit26 tr73 tr74).bind fun q83 =>
 let tr84 := q83.1;
 let tr85 := q83.2;
 some (Sum.inl (a7, tr71, limit26, decide (t76 ≥ t77), tr72, tr84, tr85))))))
 (fun (p53 : (List Int) × (List Int)) =>
 let b54 := p53.1;
 let b55 := p53.2;
 some (Sum.inr (b54, b55))) o56)))))))
theorem slices_pdqsortCmpFunc_int_eq (a1 b2 limit3 : Int) (b4 b5 : List Int) : slices_pdqsortCmpFunc_int a1 b2 limit3 b4 b5 =
 (loop (slices_pdqsortCmpFunc_int_loop2) (a1, b2, limit3, true, true, b4, b5)).bind (fun p86 =>
 let b87 := p86.1;
 let b88 := p86.2;
 some (b87, b88)) := (call_eq ..).trans (by kernel_rfl)

theorem math_bits_Len64_eq (x1 : Int) : math_bits_Len64 x1 =
 ((if (decide (x1 ≥ 4294967296)) = true then
 let t2 := ishr .u64 x1 32;
 some (t2, 32)
 else
 some (x1, 0)) : Option (Int × Int)).bind (fun p3 =>
 let x4 := p3.1;
 let n5 := p3.2;
 ((if (decide (x4 ≥ 65536)) = true then
 let t6 := ishr .u64 x4 16;
 let t7 := IntKind.i64.wrap (n5 + 16);
 some (t6, t7)
 else
 some (x4, n5)) : Option (Int × Int)).bind (fun p8 =>
 let x9 := p8.1;
 let n10 := p8.2;
 ((if (decide (x9 ≥ 256)) = true then
 let t11 := ishr .u64 x9 8;
 let t12 := IntKind.i64.wrap (n10 + 8);
 some (t11, t12)
 else
 some (x9, n10)) : Option (Int × Int)).bind (fun p13 =>
 let x14 := p13.1;
 let n15 := p13.2;
 let t16 := IntKind.u8.wrap x14;
 (if 0 ≤ t16 ∧ t16 < (([0, 1, 2, 2, 3, 3, 3, 3, 4, 4, 4, 4, 4, 4, 4, 4, 5, 5, 5, 5, 5, 5, 5, 5, 5, 5, 5, 5, 5, 5, 5, 5, 6, 6, 6, 6, 6, 6, 6, 6, 6, 6, 6, 6, 6, 6, 6, 6, 6, 6, 6, 6, 6, 6, 6, 6, 6, 6, 6, 6, 6, 6, 6, 6, 7, 7, 7, 7, 7, 7, 7, 7, 7, 7, 7, 7, 7, 7, 7, 7, 7, 7, 7, 7, 7, 7, 7, 7, 7, 7, 7, 7, 7, 7, 7, 7, 7, 7, 7, 7, 7, 7, 7, 7, 7, 7, 7, 7, 7, 7, 7, 7, 7, 7, 7, 7, 7, 7, 7, 7, 7, 7, 7, 7, 7, 7, 7, 7, 8, 8, 8, 8, 8, 8, 8, 8, 8, 8, 8, 8, 8, 8, 8, 8, 8, 8, 8, 8, 8, 8, 8, 8, 8, 8, 8, 8, 8, 8, 8, 8, 8, 8, 8, 8, 8, 8, 8, 8, 8, 8, 8, 8, 8, 8, 8, 8, 8, 8, 8, 8, 8, 8, 8, 8, 8, 8, 8, 8, 8, 8, 8, 8, 8, 8, 8, 8, 8, 8, 8, 8, 8, 8, 8, 8, 8, 8, 8, 8, 8, 8, 8, 8, 8, 8, 8, 8, 8, 8, 8, 8, 8, 8, 8, 8, 8, 8, 8, 8, 8, 8, 8, 8, 8, 8, 8, 8, 8, 8, 8, 8, 8, 8, 8, 8, 8, 8, 8, 8, 8, 8, 8, 8, 8, 8, 8, 8]).length : Int) then
 let t17 : Int := rd [0, 1, 2, 2, 3, 3, 3, 3, 4, 4, 4, 4, 4, 4, 4, 4, 5, 5, 5, 5, 5, 5, 5, 5, 5, 5, 5, 5, 5, 5, 5, 5, 6, 6, 6, 6, 6, 6, 6, 6, 6, 6, 6, 6, 6, 6, 6, 6, 6, 6, 6, 6, 6, 6, 6, 6, 6, 6, 6, 6, 6, 6, 6, 6, 7, 7, 7, 7, 7, 7, 7, 7, 7, 7, 7, 7, 7, 7, 7, 7, 7, 7, 7, 7, 7, 7, 7, 7, 7, 7, 7, 7, 7, 7, 7, 7, 7, 7, 7, 7, 7, 7, 7, 7, 7, 7, 7, 7, 7, 7, 7, 7, 7, 7, 7, 7, 7, 7, 7, 7, 7, 7, 7, 7, 7, 7, 7, 7, 8, 8, 8, 8, 8, 8, 8, 8, 8, 8, 8, 8, 8, 8, 8, 8, 8, 8, 8, 8, 8, 8, 8, 8, 8, 8, 8, 8, 8, 8, 8, 8, 8, 8, 8, 8, 8, 8, 8, 8, 8, 8, 8, 8, 8, 8, 8, 8, 8, 8, 8, 8, 8, 8, 8, 8, 8, 8, 8, 8, 8, 8, 8, 8, 8, 8, 8, 8, 8, 8, 8, 8, 8, 8, 8, 8, 8, 8, 8, 8, 8, 8, 8, 8, 8, 8, 8, 8, 8, 8, 8, 8, 8, 8, 8, 8, 8, 8, 8, 8, 8, 8, 8, 8, 8, 8, 8, 8, 8, 8, 8, 8, 8, 8, 8, 8, 8, 8, 8, 8, 8, 8, 8, 8, 8, 8, 8, 8] t16;
 let t18 := IntKind.i64.wrap t17;
 let t19 := IntKind.i64.wrap (n15 + t18);
 some t19
 else
 none)))) := (call_eq ..).trans (by kernel_rfl)

noncomputable def slices_insertionSortCmpFunc_int_loop4 (a1 : Int) (s10 : Int × (List Int) × (List Int)) : Option ((Int × (List Int) × (List Int)) ⊕ ((List Int) × (List Int))) :=
 let j11 := s10.1;
 let b12 := s10.2.1;
 let b13 := s10.2.2;
 ((if (decide (j11 > a1)) = true then
 (if 0 ≤ j11 ∧ j11 < (b12.length : Int) then
 let t14 : Int := rd b12 j11;
 let t15 := IntKind.i64.wrap (j11 - 1);
 (if 0 ≤ t15 ∧ t15 < (b12.length : Int) then
 let t16 : Int := rd b12 t15;
 (sort_suffixes_1 t14 t16 b13).bind fun q17 =>
 let tr18 := q17.1;
 let tr19 := q17.2;
 some (decide (tr18 < 0), tr19)
 else
 none)
 else
 none)
 else
 some (false, b13)) : Option (Bool × (List Int))).bind (fun p20 =>
 let v21 := p20.1;
 let b22 := p20.2;
 (if v21 = true then
 let t23 := IntKind.i64.wrap (j11 - 1);
 let t24 := IntKind.i64.wrap (j11 - 1);
 (if 0 ≤ t24 ∧ t24 < (b12.length : Int) then
 let t25 : Int := rd b12 t24;
 (if 0 ≤ j11 ∧ j11 < (b12.length : Int) then
 let t26 : Int := rd b12 j11;
 (if 0 ≤ j11 ∧ j11 < (b12.length : Int) then
 let w27 : List Int := b12.set j11.toNat t25;
 (if 0 ≤ t23 ∧ t23 < (w27.length : Int) then
 let w28 : List Int := w27.set t23.toNat t26;
 let t29 := IntKind.i64.wrap (j11 - 1);
 some (Sum.inl (t29, w28, b22))
 else
 none)
 else
 none)
 else
 none)
 else
 none)
 else
 some (Sum.inr (b12, b22))))
noncomputable def slices_insertionSortCmpFunc_int_loop1 (a1 b2 : Int) (s6 : Int × (List Int) × (List Int)) : Option ((Int × (List Int) × (List Int)) ⊕ ((List Int) × (List Int))) :=
 let i7 := s6.1;
 let b8 := s6.2.1;
 let b9 := s6.2.2;
 (if (decide (i7 < b2)) = true then
 (loop (slices_insertionSortCmpFunc_int_loop4 a1) (i7, b8, b9)).bind (fun p30 =>
 let b31 := p30.1;
 let b32 := p30.2;
 let t33 := IntKind.i64.wrap (i7 + 1);
 some (Sum.inl (t33, b31, b32)))
 else
 some (Sum.inr (b8, b9)))

theorem slices_insertionSortCmpFunc_int_eq (a1 b2 : Int) (b3 b4 : List Int) : slices_insertionSortCmpFunc_int a1 b2 b3 b4 =
 let t5 := IntKind.i64.wrap (a1 + 1);
 (loop (slices_insertionSortCmpFunc_int_loop1 a1 b2) (t5, b3, b4)).bind (fun p39 =>
 let b40 := p39.1;
 let b41 := p39.2;
 some (b40, b41)) := (call_eq ..).trans (by kernel_rfl)

noncomputable def slices_heapSortCmpFunc_int_loop4 (a1 t5 : Int) (s8 : Int × (List Int) × (List Int)) : Option ((Int × (List Int) × (List Int)) ⊕ ((List Int) × (List Int))) :=
 let i9 := s8.1;
 let b10 := s8.2.1;
 let b11 := s8.2.2;
 (if (decide (i9 ≥ 0)) = true then
 (slices_siftDownCmpFunc_int i9 t5 a1 b10 b11).bind fun q12 =>
 let tr13 := q12.1;
 let tr14 := q12.2;
 let t15 := IntKind.i64.wrap (i9 - 1);
 some (Sum.inl (t15, tr13, tr14))
 else
 some (Sum.inr (b10, b11)))
noncomputable def slices_heapSortCmpFunc_int_loop8 (a1 : Int) (s20 : Int × (List Int) × (List Int)) : Option ((Int × (List Int) × (List Int)) ⊕ ((List Int) × (List Int))) :=
 let i21 := s20.1;
 let b22 := s20.2.1;
 let b23 := s20.2.2;
 (if (decide (i21 ≥ 0)) = true then
 let t24 := IntKind.i64.wrap (a1 + i21);
 let t25 := IntKind.i64.wrap (a1 + i21);
 (if 0 ≤ t25 ∧ t25 < (b22.length : Int) then
 let t26 : Int := rd b22 t25;
 (if 0 ≤ a1 ∧ a1 < (b22.length : Int) then
 let t27 : Int := rd b22 a1;
 (if 0 ≤ a1 ∧ a1 < (b22.length : Int) then
 let w28 : List Int := b22.set a1.toNat t26;
 (if 0 ≤ t24 ∧ t24 < (w28.length : Int) then
 let w29 : List Int := w28.set t24.toNat t27;
 (slices_siftDownCmpFunc_int 0 i21 a1 w29 b23).bind fun q30 =>
 let tr31 := q30.1;
 let tr32 := q30.2;
 let t33 := IntKind.i64.wrap (i21 - 1);
 some (Sum.inl (t33, tr31, tr32))
 else
 none)
 else
 none)
 else
 none)
 else
 none)
 else
 some (Sum.inr (b22, b23)))
theorem slices_heapSortCmpFunc_int_eq (a1 b2 : Int) (b3 b4 : List Int) : slices_heapSortCmpFunc_int a1 b2 b3 b4 =
 let t5 := IntKind.i64.wrap (b2 - a1);
 let t6 := IntKind.i64.wrap (t5 - 1);
 let t7 := IntKind.i64.wrap (t6.tdiv 2);
 (loop (slices_heapSortCmpFunc_int_loop4 a1 t5) (t7, b3, b4)).bind (fun p16 =>
 let b17 := p16.1;
 let b18 := p16.2;
 let t19 := IntKind.i64.wrap (t5 - 1);
 (loop (slices_heapSortCmpFunc_int_loop8 a1) (t19, b17, b18)).bind (fun p34 =>
 let b35 := p34.1;
 let b36 := p34.2;
 some (b35, b36))) := (call_eq ..).trans (by kernel_rfl)

noncomputable def slices_breakPatternsCmpFunc_int_loop5 (a1 t5 q7 : Int) (s12 : Int × (List Int) × Int) : Option ((Int × (List Int) × Int) ⊕ ((List Int) × Int)) :=
 let idx13 := s12.1;
 let b14 := s12.2.1;
 let b15 := s12.2.2;
 let t16 := IntKind.i64.wrap (t5.tdiv 4);
 let t17 := IntKind.i64.wrap (t16 * 2);
 let t18 := IntKind.i64.wrap (a1 + t17);
 let t19 := IntKind.i64.wrap (t18 + 1);
 (if (decide (idx13 ≤ t19)) = true then
 (slices_xorshift_Next b15).bind fun q20 =>
 let tr21 := q20.1;
 let tr22 := q20.2;
 let t23 := IntKind.u64.wrap (q7 - 1);
 let t24 := iand .u64 tr21 t23;
 let t25 := IntKind.i64.wrap t24;
 ((if (decide (t25 ≥ t5)) = true then
 let t26 := IntKind.i64.wrap (t25 - t5);
 some t26
 else
 some t25) : Option (Int)).bind (fun other27 =>
 let t28 := IntKind.i64.wrap (a1 + other27);
 let t29 := IntKind.i64.wrap (a1 + other27);
 (if 0 ≤ t29 ∧ t29 < (b14.length : Int) then
 let t30 : Int := rd b14 t29;
 (if 0 ≤ idx13 ∧ idx13 < (b14.length : Int) then
 let t31 : Int := rd b14 idx13;
 (if 0 ≤ idx13 ∧ idx13 < (b14.length : Int) then
 let w32 : List Int := b14.set idx13.toNat t30;
 (if 0 ≤ t28 ∧ t28 < (w32.length : Int) then
 let w33 : List Int := w32.set t28.toNat t31;
 let t34 := IntKind.i64.wrap (idx13 + 1);
 some (Sum.inl (t34, w33, tr22))
 else
 none)
 else
 none)
 else
 none)
 else
 none))
 else
 some (Sum.inr (b14, b15)))
theorem slices_breakPatternsCmpFunc_int_eq (a1 b2 : Int) (b3 b4 : List Int) : slices_breakPatternsCmpFunc_int a1 b2 b3 b4 =
 let t5 := IntKind.i64.wrap (b2 - a1);
 (if (decide (t5 ≥ 8)) = true then
 let t6 := IntKind.u64.wrap t5;
 (slices_nextPowerOfTwo t5).bind fun q7 =>
 let t8 := IntKind.i64.wrap (t5.tdiv 4);
 let t9 := IntKind.i64.wrap (t8 * 2);
 let t10 := IntKind.i64.wrap (a1 + t9);
 let t11 := IntKind.i64.wrap (t10 - 1);
 (loop (slices_breakPatternsCmpFunc_int_loop5 a1 t5 q7) (t11, b3, t6)).bind (fun p35 =>
 let b36 := p35.1;
 let b37 := p35.2;
 some (b36, b4))
 else
 some (b3, b4)) := (call_eq ..).trans (by kernel_rfl)
end
end Go.Proofs.YthnonplijagpdaaGreat.P
