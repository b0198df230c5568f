import Derived.Test.YtcphcfknnfibmaaGreatRows
import Derived.Test.YtcphcfknnfibmaaGreatPure3
import Derived.WalkKit
import Derived.ProofKit
import Derived.OpenShut
import Derived.JoinedCond
import Derived.Carry
import Derived.ChangeSame
namespace Go.Proofs.YtcphcfknnfibmaaGreat.bookBundles
open Go Go.Proofs.YtcphcfknnfibmaaGreat.V Go.Proofs.YtcphcfknnfibmaaGreat.P Go.ChangeShapes Go.WideShapes Go.ChangeAt Go.RowKit
set_option linter.unusedVariables false
theorem own : ownKnob Tryz.prog.godebug = none := by kernel_rfl
theorem B1037 : laidOutB Tryz.prog = true := by kernel_rfl
set_option maxRecDepth 100000 in
theorem B969 (H : Type) (enc : TypeId × Value -> H) (W : World) (base : Nat) (args : Array Value) (ds gs : List (DataW H)) (before : List MemPlace)
    (hval : ∀ (j : Nat) t v, Tryz.f5.params[j]? = some t -> args[j]? = some v -> Value.okWide Tryz.prog W .any base t v)
    (hW : DataW.Whole enc Tryz.prog Tryz.f5.params.toList Rows.bookBundlesSpec.vars false W args.toList ds gs before) (hk : Rows.uptoSmall H (ds ++ gs) = true) :
    Calls Tryz.prog 5 args W fun e W' => ∃ v, e = .returned v ∧ Rows.bookBundlesSpec.post enc Tryz.prog Tryz.f5 false true false false W args v W' := by
  have hW' := hW
  obtain ⟨p, q, hA0, hV, rfl, hfz, hnd⟩ := hW
  have hA : DataW.TrodAll enc Tryz.prog W 0 (fun _ => true) true Tryz.f5.params.toList args.toList ds p := hA0
  rw [Tryz.params5] at hA hval
  obtain ⟨v0, vs0, d0, ds0, p0, q0, hargs, rfl, rfl, h0, r0⟩ := trodAll_cons hA
  obtain ⟨rfl, rfl, rfl⟩ := trodAll_nil r0
  obtain rfl : args = #[v0] := by cases args; simp_all
  obtain ⟨rfl, rfl⟩ := trodVars_none hV
  obtain ⟨u0, f0, e0, g0, b0⟩ := B882 B1072 (d := 12) (s := .agg [.rows 0, .rows 1]) (by kernel_rfl) (hval 0 25 v0 rfl rfl) h0 (ι := fun _ => ⟨none, 0⟩) (Hp := [])
  have l0 : ∀ x ∈ p0, x.block < W.heap.size := by obtain ⟨m, hm⟩ := h0; exact DataW.trod_lt m _ _ _ hm
  obtain ⟨a0, rfl, f0_0⟩ := B900 f0
  obtain ⟨x0_0, a0_0, rfl, f0_1⟩ := B235 f0_0
  obtain ⟨x0_1, a0_1, rfl, f0_2⟩ := B235 f0_1
  cases B218 f0_2
  have hb := A39 hk
  simp only [Rows.uptoBulkAll, A38] at hb
  have c0 : bulkA bulk (.agg [.rows 0 x0_0, .rows 1 x0_1]) <= Rows.uptoBulk d0 := b0
  have hc := B505 x0_0 x0_1 g0 (by omega)
  refine (B912 (G := G) prgOk (i := 0) (p := (x0_0, x0_1)) (q := true) (b := true) hc rfl rfl (args := [v0]) ⟨e0, trivial⟩).mono fun e W' ⟨he, bel⟩ => ?_
  subst he
  exact ⟨_, rfl, _, _, _, [], _, [], hW', trodAll_mk1 (shut_bool Tryz.underlying4 _), (trodAll_cons_mk (Below.trod B1037 (by kernel_rfl) (A39 (by kernel_rfl)) h0 bel l0) trodAll_mk0), rfl, bel.frame _, fun h => by cases h⟩
set_option maxRecDepth 100000 in
theorem B1063 (os : Os) (started : os.Started) (H : Type) (enc : TypeId × Value -> H) (F : Stop.Interp) :
    ReturnsInHanded {} Tryz.checked os 5 .any ((Rows.OpenSpec.upto Rows.bookBundlesSpec).pre6 enc Tryz.prog Tryz.f5 Rows.bookBundlesUptoRow.domain false) (((Rows.OpenSpec.upto Rows.bookBundlesSpec).at F).post enc Tryz.prog Tryz.f5 false true false false) := by
  refine returnsInHanded_of_cond (C := Tryz.checked) (s := Rows.OpenSpec.upto Rows.bookBundlesSpec) (k := Rows.uptoSmall) rfl own started (by kernel_rfl) Tryz.func5
    (OpenSpec.witness (enc := enc) (C := Tryz.checked) (s := Rows.OpenSpec.upto Rows.bookBundlesSpec) (k := Rows.uptoSmall) rfl false ⟨#[], #[.agg #[.slice none 0 0, .slice none 0 0]], []⟩ 12 (by kernel_rfl) (by kernel_rfl) (by kernel_rfl)
      (x := ([.agg [.nil, .nil]], [], [])) (by kernel_rfl) rfl (by kernel_rfl)) ?_
  intro W base args ds gs before hval hW _ hk _
  exact B969 H enc W base args ds gs before hval hW hk
theorem over : Rows.bookBundlesUptoRow.holds Tryz.pinned (Rows.OpenSpec.upto Rows.bookBundlesSpec) :=
  OpenClaim.holds_of_cond 5 Tryz.f5 rfl rfl rfl rfl rfl rfl rfl ⟨rfl, rfl, rfl, rfl, rfl⟩ rfl rfl rfl rfl rfl (by kernel_rfl) Tryz.func5 (by kernel_rfl)
    (A39 (by kernel_rfl)) (by unfold Func.isWrapper; first | (rw [A3 (by decide +kernel)]; kernel_rfl) | (rw [A7 (by decide +kernel)]; exact ⟨rfl, rfl⟩))
    (fun os started H enc _ F => B1063 os started H enc F)
theorem proved : Rows.BookBundlesUptoSaid := over
end Go.Proofs.YtcphcfknnfibmaaGreat.bookBundles
namespace Go.Proofs.YtcphcfknnfibmaaGreat
theorem bookBundles_holds : Rows.BookBundlesUptoSaid := bookBundles.proved
#print axioms bookBundles_holds
end Go.Proofs.YtcphcfknnfibmaaGreat
