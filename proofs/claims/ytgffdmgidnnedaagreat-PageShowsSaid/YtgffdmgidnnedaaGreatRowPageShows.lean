/- The law PageShows of the given program: for every input it answers true and leaves its arguments as they were. Conditions: none beyond the given statement. -/
import Derived.Test.YtgffdmgidnnedaaGreatRows
import Derived.Test.YtgffdmgidnnedaaGreatPure2
import Derived.WalkKit
import Derived.ProofKit
import Derived.OpenShut
import Derived.JoinedCond
import Derived.Carry
import Derived.ChangeSame
namespace Go.Proofs.YtgffdmgidnnedaaGreat.pageShows
open Go Go.Proofs.YtgffdmgidnnedaaGreat.V Go.Proofs.YtgffdmgidnnedaaGreat.P Go.ChangeShapes Go.WideShapes Go.ChangeAt Go.RowKit
set_option linter.unusedVariables false

theorem own : ownKnob Tryz.prog.godebug = none := by kernel_rfl
theorem laidOut : laidOutB Tryz.prog = true := by kernel_rfl
set_option maxRecDepth 100000 in
theorem contract (H : Type) (enc : TypeId × Value → H) (W : World) (base : Nat) (args : Array Value) (ds gs : List (DataW H)) (before : List MemPlace)
    (hval : ∀ (j : Nat) t v, Tryz.f5.params[j]? = some t → args[j]? = some v → Value.okWide Tryz.prog W .any base t v)
    (hW : DataW.Whole enc Tryz.prog Tryz.f5.params.toList Rows.pageShowsSpec.vars false W args.toList ds gs before) :
    Calls Tryz.prog 5 args W fun e W' => ∃ v, e = .returned v ∧ Rows.pageShowsSpec.post enc Tryz.prog Tryz.f5 false true false false W args v W' := by
  have hW' := hW
  obtain ⟨p, q, hA0, hV, rfl, hfz, hnd⟩ := hW
  have hA : DataW.TrodAll enc Tryz.prog W 0 (fun _ => true) true Tryz.f5.params.toList args.toList ds p := hA0
  rw [Tryz.params5] at hA hval
  obtain ⟨v0, vs0, d0, ds0, p0, q0, hargs, rfl, rfl, h0, r0⟩ := trodAll_cons hA
  obtain ⟨rfl, rfl, rfl⟩ := trodAll_nil r0
  obtain rfl : args = #[v0] := by cases args; simp_all
  obtain ⟨rfl, rfl⟩ := trodVars_none hV
  obtain ⟨u0, f0, e0, g0, b0⟩ := arg_reads rowsOk (d := 12) (s := .agg [.int .i64, .int .i64, .ints .u8, .int .i64, .int .i64, .int .i64, .bool, .int .i64, .bool, .int .i64]) (by kernel_rfl) (hval 0 55 v0 rfl rfl) h0 (ι := fun _ => ⟨none, 0⟩) (Hp := [])
  have l0 : ∀ x ∈ p0, x.block < W.heap.size := by obtain ⟨m, hm⟩ := h0; exact DataW.trod_lt m _ _ _ hm
  obtain ⟨a0, rfl, f0_0⟩ := fitsP_agg f0
  obtain ⟨x0_0, a0_0, rfl, f0_1⟩ := fits_int f0_0
  obtain ⟨x0_1, a0_1, rfl, f0_2⟩ := fits_int f0_1
  obtain ⟨x0_2, a0_2, rfl, f0_3⟩ := fits_ints f0_2
  obtain ⟨x0_3, a0_3, rfl, f0_4⟩ := fits_int f0_3
  obtain ⟨x0_4, a0_4, rfl, f0_5⟩ := fits_int f0_4
  obtain ⟨x0_5, a0_5, rfl, f0_6⟩ := fits_int f0_5
  obtain ⟨x0_6, a0_6, rfl, f0_7⟩ := fits_bool f0_6
  obtain ⟨x0_7, a0_7, rfl, f0_8⟩ := fits_int f0_7
  obtain ⟨x0_8, a0_8, rfl, f0_9⟩ := fits_bool f0_8
  obtain ⟨x0_9, a0_9, rfl, f0_10⟩ := fits_int f0_9
  cases fits_nil f0_10
  have hc := pageShows_true x0_0 x0_1 x0_2 x0_3 x0_4 x0_5 x0_6 x0_7 x0_8 x0_9 g0
  refine (law_calls (G := G) prgOk (i := 0) (p := (x0_0, x0_1, x0_2, x0_3, x0_4, x0_5, x0_6, x0_7, x0_8, x0_9)) (q := true) (b := true) hc rfl rfl (args := [v0]) ⟨e0, trivial⟩).mono fun e W' ⟨he, bel⟩ => ?_
  subst he
  exact ⟨_, rfl, _, _, _, [], _, [], hW', trodAll_mk1 (shut_bool Tryz.underlying4 _), (trodAll_cons_mk (Below.trod laidOut (by kernel_rfl) (of_decide_eq_true (by kernel_rfl)) h0 bel l0) trodAll_mk0), rfl, bel.frame _, fun h => by cases h⟩

set_option maxRecDepth 100000 in
theorem lifted (os : Os) (started : os.Started) (H : Type) (enc : TypeId × Value → H) :
    ReturnsInHanded {} Tryz.checked os 5 .any (Rows.pageShowsSpec.pre6 enc Tryz.prog Tryz.f5 Rows.pageShowsRow.domain false) (Rows.pageShowsSpec.post enc Tryz.prog Tryz.f5 false true false false) := by
  refine returnsInHanded_of_change (C := Tryz.checked) own started (by kernel_rfl) Tryz.func5
    (ChangeSpec.witness6 (enc := enc) (C := Tryz.checked) false ⟨#[], #[.agg #[.int .i64 0, .int .i64 0, .slice none 0 0, .int .i64 0, .int .i64 0, .int .i64 0, .bool false, .int .i64 0, .bool false, .int .i64 0]], []⟩ 12 (by kernel_rfl) (by kernel_rfl) (by kernel_rfl) (by kernel_rfl)) ?_
  intro W base args ds gs before hval hW _ _
  exact contract H enc W base args ds gs before hval hW

theorem over : Rows.pageShowsRow.holds Tryz.pinned (OpenSpec.ofChange Rows.pageShowsSpec) :=
  OpenClaim.holds_of_wide 5 Tryz.f5 rfl rfl rfl rfl rfl rfl rfl ⟨rfl, rfl, rfl, rfl, rfl⟩ rfl rfl rfl rfl rfl (by kernel_rfl) Tryz.func5 (by kernel_rfl)
    (of_decide_eq_true (by kernel_rfl)) (by unfold Func.isWrapper; first | (rw [if_pos (by decide +kernel)]; kernel_rfl) | (rw [if_neg (by decide +kernel)]; exact ⟨rfl, rfl⟩))
    (fun os started H enc _ => lifted os started H enc)

theorem proved : Rows.PageShowsSaid := over
end Go.Proofs.YtgffdmgidnnedaaGreat.pageShows
namespace Go.Proofs.YtgffdmgidnnedaaGreat
/-- The row, under a short name, for the claim. -/
theorem pageShows_holds : Rows.PageShowsSaid := pageShows.proved
#print axioms pageShows_holds
end Go.Proofs.YtgffdmgidnnedaaGreat
