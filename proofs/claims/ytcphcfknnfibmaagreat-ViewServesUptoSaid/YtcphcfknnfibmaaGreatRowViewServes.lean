/- ViewServes: the server's answers are the reference's, for every input that the given statement ViewServesUptoSaid lets in; no other condition. -/
import Derived.Test.YtcphcfknnfibmaaGreatRows
import Derived.Test.YtcphcfknnfibmaaGreatPure3
import Derived.WalkKit
import Derived.ProofKit
import Derived.OpenShut
import Derived.JoinedCond
import Derived.Carry
import Derived.ChangeSame
namespace Go.Proofs.YtcphcfknnfibmaaGreat.viewServes
open Go Go.Proofs.YtcphcfknnfibmaaGreat.V Go.Proofs.YtcphcfknnfibmaaGreat.P Go.ChangeShapes Go.WideShapes Go.ChangeAt Go.RowKit
set_option linter.unusedVariables false
theorem own : ownKnob Tryz.prog.godebug = none := by kernel_rfl
theorem B712 : laidOutB Tryz.prog = true := by kernel_rfl
set_option maxRecDepth 100000 in
theorem B860 (H : Type) (enc : TypeId × Value -> H) (W : World) (base : Nat) (args : Array Value) (ds gs : List (DataW H)) (before : List MemPlace)
    (hval : ∀ (j : Nat) t v, Tryz.f3.params[j]? = some t -> args[j]? = some v -> Value.okWide Tryz.prog W .any base t v)
    (hW : DataW.Whole enc Tryz.prog Tryz.f3.params.toList Rows.viewServesSpec.vars false W args.toList ds gs before) (hk : Rows.uptoSmall H (ds ++ gs) = true) :
    Calls Tryz.prog 3 args W fun e W' => ∃ v, e = .returned v ∧ Rows.viewServesSpec.post enc Tryz.prog Tryz.f3 false true false false W args v W' := by
  have hW' := hW
  obtain ⟨p, q, hA0, hV, rfl, hfz, hnd⟩ := hW
  have hA : DataW.TrodAll enc Tryz.prog W 0 (fun _ => true) true Tryz.f3.params.toList args.toList ds p := hA0
  rw [Tryz.params3] at hA hval
  obtain ⟨v0, vs0, d0, ds0, p0, q0, hargs, rfl, rfl, h0, r0⟩ := trodAll_cons hA
  obtain ⟨v1, vs1, d1, ds1, p1, q1, rfl, rfl, rfl, h1, r1⟩ := trodAll_cons r0
  obtain ⟨rfl, rfl, rfl⟩ := trodAll_nil r1
  obtain rfl : args = #[v0, v1] := by cases args; simp_all
  obtain ⟨rfl, rfl⟩ := trodVars_none hV
  obtain ⟨u0, f0, e0, g0, b0⟩ := B588 B794 (d := 12) (s := .agg [.rows 0, .rows 1]) (by kernel_rfl) (hval 0 25 v0 rfl rfl) h0 (ι := fun _ => ⟨none, 0⟩) (Hp := [])
  have l0 : ∀ x ∈ p0, x.block < W.heap.size := by obtain ⟨m, hm⟩ := h0; exact DataW.trod_lt m _ _ _ hm
  obtain ⟨a0, rfl, f0_0⟩ := B762 f0
  obtain ⟨x0_0, a0_0, rfl, f0_1⟩ := B172 f0_0
  obtain ⟨x0_1, a0_1, rfl, f0_2⟩ := B172 f0_1
  cases B109 f0_2
  obtain ⟨u1, f1, e1, g1, b1⟩ := B588 B794 (d := 12) (s := .str) (by kernel_rfl) (hval 1 9 v1 rfl rfl) h1 (ι := fun _ => ⟨none, 0⟩) (Hp := [])
  have l1 : ∀ x ∈ p1, x.block < W.heap.size := by obtain ⟨m, hm⟩ := h1; exact DataW.trod_lt m _ _ _ hm
  obtain ⟨x1, rfl⟩ := B808 f1
  have hb := A40 hk
  simp only [Rows.uptoBulkAll, A41] at hb
  have c0 : bulkA bulk (.agg [.rows 0 x0_0, .rows 1 x0_1]) <= Rows.uptoBulk d0 := b0
  have c1 : bulkA bulk (.str x1) <= Rows.uptoBulk d1 := b1
  have hc := B505 x0_0 x0_1 x1 g0 g1 (by omega)
  refine (B768 (G := G) prgOk (i := 0) (p := (x0_0, x0_1, x1)) (q := true) (b := true) hc rfl rfl (args := [v0, v1]) ⟨e0, e1, trivial⟩).mono fun e W' ⟨he, bel⟩ => ?_
  subst he
  exact ⟨_, rfl, _, _, _, [], _, [], hW', trodAll_mk1 (shut_bool Tryz.underlying4 _), (trodAll_cons_mk (Below.trod B712 (by kernel_rfl) (A40 (by kernel_rfl)) h0 bel l0) (trodAll_cons_mk (Below.trod B712 (by kernel_rfl) (A40 (by kernel_rfl)) h1 bel l1) trodAll_mk0)), rfl, bel.frame _, fun h => by cases h⟩
set_option maxRecDepth 100000 in
theorem B948 (os : Os) (started : os.Started) (H : Type) (enc : TypeId × Value -> H) (F : Stop.Interp) :
    ReturnsInHanded {} Tryz.checked os 3 .any ((Rows.OpenSpec.upto Rows.viewServesSpec).pre6 enc Tryz.prog Tryz.f3 Rows.viewServesUptoRow.domain false) (((Rows.OpenSpec.upto Rows.viewServesSpec).at F).post enc Tryz.prog Tryz.f3 false true false false) := by
  refine returnsInHanded_of_cond (C := Tryz.checked) (s := Rows.OpenSpec.upto Rows.viewServesSpec) (k := Rows.uptoSmall) rfl own started (by kernel_rfl) Tryz.func3
    (OpenSpec.witness (enc := enc) (C := Tryz.checked) (s := Rows.OpenSpec.upto Rows.viewServesSpec) (k := Rows.uptoSmall) rfl false ⟨#[], #[.agg #[.slice none 0 0, .slice none 0 0], .string ByteArray.empty], []⟩ 12 (by kernel_rfl) (by kernel_rfl) (by kernel_rfl)
      (x := ([.agg [.nil, .nil], .lit (.string [])], [], [])) (by kernel_rfl) rfl (by kernel_rfl)) ?_
  intro W base args ds gs before hval hW _ hk _
  exact B860 H enc W base args ds gs before hval hW hk
theorem over : Rows.viewServesUptoRow.holds Tryz.pinned (Rows.OpenSpec.upto Rows.viewServesSpec) :=
  OpenClaim.holds_of_cond 3 Tryz.f3 rfl rfl rfl rfl rfl rfl rfl ⟨rfl, rfl, rfl, rfl, rfl⟩ rfl rfl rfl rfl rfl (by kernel_rfl) Tryz.func3 (by kernel_rfl)
    (A40 (by kernel_rfl)) (by unfold Func.isWrapper; first | (rw [A6 (by decide +kernel)]; kernel_rfl) | (rw [A9 (by decide +kernel)]; exact ⟨rfl, rfl⟩))
    (fun os started H enc _ F => B948 os started H enc F)
theorem proved : Rows.ViewServesUptoSaid := over
end Go.Proofs.YtcphcfknnfibmaaGreat.viewServes
namespace Go.Proofs.YtcphcfknnfibmaaGreat
theorem viewServes_holds : Rows.ViewServesUptoSaid := viewServes.proved
#print axioms viewServes_holds
end Go.Proofs.YtcphcfknnfibmaaGreat
