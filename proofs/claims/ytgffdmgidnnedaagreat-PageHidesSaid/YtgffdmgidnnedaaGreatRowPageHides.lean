/- The law PageHides of the given program: for every input it answers true and leaves its arguments as they were. Conditions: none beyond the given statement. -/
import Derived.Test.YtgffdmgidnnedaaGreatRows
import Derived.Test.YtgffdmgidnnedaaGreatPure2
import Derived.WalkKit
import Derived.ProofKit
import Derived.OpenShut
import Derived.JoinedCond
import Derived.Carry
import Derived.ChangeSame
namespace Go.Proofs.YtgffdmgidnnedaaGreat.pageHides
open Go Go.Proofs.YtgffdmgidnnedaaGreat.V Go.Proofs.YtgffdmgidnnedaaGreat.P Go.ChangeShapes Go.WideShapes Go.ChangeAt Go.RowKit
set_option linter.unusedVariables false

theorem own : ownKnob Tryz.prog.godebug = none := by kernel_rfl
theorem laidOut : laidOutB Tryz.prog = true := by kernel_rfl
set_option maxRecDepth 100000 in
theorem contract (H : Type) (enc : TypeId × Value → H) (W : World) (base : Nat) (args : Array Value) (ds gs : List (DataW H)) (before : List MemPlace)
    (hval : ∀ (j : Nat) t v, Tryz.f6.params[j]? = some t → args[j]? = some v → Value.okWide Tryz.prog W .any base t v)
    (hW : DataW.Whole enc Tryz.prog Tryz.f6.params.toList Rows.pageHidesSpec.vars false W args.toList ds gs before) :
    Calls Tryz.prog 6 args W fun e W' => ∃ v, e = .returned v ∧ Rows.pageHidesSpec.post enc Tryz.prog Tryz.f6 false true false false W args v W' := by
  have hW' := hW
  obtain ⟨p, q, hA0, hV, rfl, hfz, hnd⟩ := hW
  have hA : DataW.TrodAll enc Tryz.prog W 0 (fun _ => true) true Tryz.f6.params.toList args.toList ds p := hA0
  rw [Tryz.params6] at hA hval
  obtain ⟨v0, vs0, d0, ds0, p0, q0, hargs, rfl, rfl, h0, r0⟩ := trodAll_cons hA
  obtain ⟨v1, vs1, d1, ds1, p1, q1, rfl, rfl, rfl, h1, r1⟩ := trodAll_cons r0
  obtain ⟨v2, vs2, d2, ds2, p2, q2, rfl, rfl, rfl, h2, r2⟩ := trodAll_cons r1
  obtain ⟨rfl, rfl, rfl⟩ := trodAll_nil r2
  obtain rfl : args = #[v0, v1, v2] := by cases args; simp_all
  obtain ⟨rfl, rfl⟩ := trodVars_none hV
  obtain ⟨u0, f0, e0, g0, b0⟩ := arg_reads rowsOk (d := 12) (s := .agg [.int .i64, .int .i64, .ints .u8]) (by kernel_rfl) (hval 0 29 v0 rfl rfl) h0 (ι := fun _ => ⟨none, 0⟩) (Hp := [])
  have l0 : ∀ x ∈ p0, x.block < W.heap.size := by obtain ⟨m, hm⟩ := h0; exact DataW.trod_lt m _ _ _ hm
  obtain ⟨a0, rfl, f0_0⟩ := fitsP_agg f0
  obtain ⟨x0_0, a0_0, rfl, f0_1⟩ := fits_int f0_0
  obtain ⟨x0_1, a0_1, rfl, f0_2⟩ := fits_int f0_1
  obtain ⟨x0_2, a0_2, rfl, f0_3⟩ := fits_ints f0_2
  cases fits_nil f0_3
  obtain ⟨u1, f1, e1, g1, b1⟩ := arg_reads rowsOk (d := 12) (s := .agg [.int .i64, .int .i64, .ints .u8]) (by kernel_rfl) (hval 1 29 v1 rfl rfl) h1 (ι := fun _ => ⟨none, 0⟩) (Hp := [])
  have l1 : ∀ x ∈ p1, x.block < W.heap.size := by obtain ⟨m, hm⟩ := h1; exact DataW.trod_lt m _ _ _ hm
  obtain ⟨a1, rfl, f1_0⟩ := fitsP_agg f1
  obtain ⟨x1_0, a1_0, rfl, f1_1⟩ := fits_int f1_0
  obtain ⟨x1_1, a1_1, rfl, f1_2⟩ := fits_int f1_1
  obtain ⟨x1_2, a1_2, rfl, f1_3⟩ := fits_ints f1_2
  cases fits_nil f1_3
  obtain ⟨u2, f2, e2, g2, b2⟩ := arg_reads rowsOk (d := 12) (s := .agg [.int .i64, .int .i64, .int .i64, .bool, .int .i64]) (by kernel_rfl) (hval 2 60 v2 rfl rfl) h2 (ι := fun _ => ⟨none, 0⟩) (Hp := [])
  have l2 : ∀ x ∈ p2, x.block < W.heap.size := by obtain ⟨m, hm⟩ := h2; exact DataW.trod_lt m _ _ _ hm
  obtain ⟨a2, rfl, f2_0⟩ := fitsP_agg f2
  obtain ⟨x2_0, a2_0, rfl, f2_1⟩ := fits_int f2_0
  obtain ⟨x2_1, a2_1, rfl, f2_2⟩ := fits_int f2_1
  obtain ⟨x2_2, a2_2, rfl, f2_3⟩ := fits_int f2_2
  obtain ⟨x2_3, a2_3, rfl, f2_4⟩ := fits_bool f2_3
  obtain ⟨x2_4, a2_4, rfl, f2_5⟩ := fits_int f2_4
  cases fits_nil f2_5
  have hc := pageHides_true x0_0 x0_1 x0_2 x1_0 x1_1 x1_2 x2_0 x2_1 x2_2 x2_3 x2_4 g0 g1 g2
  refine (law_calls (G := G) prgOk (i := 0) (p := (x0_0, x0_1, x0_2, x1_0, x1_1, x1_2, x2_0, x2_1, x2_2, x2_3, x2_4)) (q := true) (b := true) hc rfl rfl (args := [v0, v1, v2]) ⟨e0, e1, e2, trivial⟩).mono fun e W' ⟨he, bel⟩ => ?_
  subst he
  exact ⟨_, rfl, _, _, _, [], _, [], hW', trodAll_mk1 (shut_bool Tryz.underlying4 _), (trodAll_cons_mk (Below.trod laidOut (by kernel_rfl) (of_decide_eq_true (by kernel_rfl)) h0 bel l0) (trodAll_cons_mk (Below.trod laidOut (by kernel_rfl) (of_decide_eq_true (by kernel_rfl)) h1 bel l1) (trodAll_cons_mk (Below.trod laidOut (by kernel_rfl) (of_decide_eq_true (by kernel_rfl)) h2 bel l2) trodAll_mk0))), rfl, bel.frame _, fun h => by cases h⟩

set_option maxRecDepth 100000 in
theorem lifted (os : Os) (started : os.Started) (H : Type) (enc : TypeId × Value → H) :
    ReturnsInHanded {} Tryz.checked os 6 .any (Rows.pageHidesSpec.pre6 enc Tryz.prog Tryz.f6 Rows.pageHidesRow.domain false) (Rows.pageHidesSpec.post enc Tryz.prog Tryz.f6 false true false false) := by
  refine returnsInHanded_of_change (C := Tryz.checked) own started (by kernel_rfl) Tryz.func6
    (ChangeSpec.witness6 (enc := enc) (C := Tryz.checked) false ⟨#[], #[.agg #[.int .i64 0, .int .i64 0, .slice none 0 0], .agg #[.int .i64 0, .int .i64 0, .slice none 0 0], .agg #[.int .i64 0, .int .i64 0, .int .i64 0, .bool false, .int .i64 0]], []⟩ 12 (by kernel_rfl) (by kernel_rfl) (by kernel_rfl) (by kernel_rfl)) ?_
  intro W base args ds gs before hval hW _ _
  exact contract H enc W base args ds gs before hval hW

theorem over : Rows.pageHidesRow.holds Tryz.pinned (OpenSpec.ofChange Rows.pageHidesSpec) :=
  OpenClaim.holds_of_wide 6 Tryz.f6 rfl rfl rfl rfl rfl rfl rfl ⟨rfl, rfl, rfl, rfl, rfl⟩ rfl rfl rfl rfl rfl (by kernel_rfl) Tryz.func6 (by kernel_rfl)
    (of_decide_eq_true (by kernel_rfl)) (by unfold Func.isWrapper; first | (rw [if_pos (by decide +kernel)]; kernel_rfl) | (rw [if_neg (by decide +kernel)]; exact ⟨rfl, rfl⟩))
    (fun os started H enc _ => lifted os started H enc)

theorem proved : Rows.PageHidesSaid := over
end Go.Proofs.YtgffdmgidnnedaaGreat.pageHides
namespace Go.Proofs.YtgffdmgidnnedaaGreat
/-- The row, under a short name, for the claim. -/
theorem pageHides_holds : Rows.PageHidesSaid := pageHides.proved
#print axioms pageHides_holds
end Go.Proofs.YtgffdmgidnnedaaGreat
