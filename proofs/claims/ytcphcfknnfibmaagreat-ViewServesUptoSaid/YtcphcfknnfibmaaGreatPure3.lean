/- Part of the proof of ViewServes: plain lemmas. -/
import Derived.Test.YtcphcfknnfibmaaGreatF
import Derived.Test.YtcphcfknnfibmaaGreatPure2
namespace Go.Proofs.YtcphcfknnfibmaaGreat.P
open Go Go.IntKind Go.Proofs.YtcphcfknnfibmaaGreat.V
set_option linter.unusedVariables false
set_option linter.unusedSimpArgs false
set_option linter.unusedSectionVars false
set_option maxRecDepth 100000
theorem B912 : Z2 = some true := Z2_F_le 300 _ (by kernel_rfl)
theorem B617 {s : List Int} (h : V.Good E (.str s)) : Byt s := by
 cases h with | str _ h => exact h
theorem B928 {b : List Int} (h : V.Good E (.ints .u8 b)) : Byt b := by
 cases h with
 | ints h1 _ => intro x hx; simpa [IntKind.has, IntKind.min, IntKind.max, IntKind.signed, IntKind.bits] using h1 x hx
theorem B814 : ∀ (n : Nat) (o : List Outline), B14 o <= n -> V.Good E (.rows 1 o) -> TxtO o := by
 intro n
 induction n using Nat.strongRecOn with
 | _ n ih =>
 intro o hn hg
 cases o with
 | nil => exact .nil
 | cons x l =>
  cases hg with
  | rows hl hr =>
   cases x with
   | mk t p k =>
    have h0 := hr (Outline.mk t p k) (A33 ..)
    have ht : V.Good E (.str t) := h0 (.str t) (.head _)
    have hk : V.Good E (.rows 1 k) := h0 (.rows 1 k) (.tail _ (.tail _ (.head _)))
    simp only [B14, bulk1] at hn
    refine .cons (B617 ht) (ih (B14 k) (by omega) k (A11 _) hk) (ih (B14 l) (by omega) l (A11 _) ?_)
    exact .rows (Nat.le_of_succ_le hl) fun y hy => hr y (A37 _ hy)
theorem sumF : ∀ l : List File, bulkF l <= 4 * sumL bulk0 l ∧ 3 * l.length <= sumL bulk0 l ∧ ∀ f ∈ l, f.data.length <= sumL bulk0 l
 | [] => by simp [bulkF, sumL]
 | f :: r => by
  obtain ⟨h1, h2, h3⟩ := sumF r
  simp only [bulkF, sumL, A25, bulk0]
  refine ⟨by omega, by omega, fun g hg => ?_⟩
  rcases A18.1 hg with hg | hg
  ·subst hg; omega
  ·have := h3 g hg; omega
theorem B505 (l : List File) (o : List Outline) (nm : List Int) (h0 : GoodP E (.agg [.rows 0 l, .rows 1 o])) (h1 : GoodP E (.str nm)) (hb : bulkA bulk (.agg [.rows 0 l, .rows 1 o]) + bulkA bulk (.str nm) <= 1048576) : Z0 l o nm = some true := by
 obtain ⟨gl, go, _⟩ := h0
 have e1 : sumL bulk0 l + B14 o <= 1048576 := by
  have q1 := B243 (b := bulk) (i := 0) (f := bulk0) (fun _ => rfl) l
  have q2 := B243 (b := bulk) (i := 1) (f := bulk1) (fun _ => rfl) o
  have e : bulkA bulk (.agg [.rows 0 l, .rows 1 o]) + bulkA bulk (.str nm) = (sumB bulk 0 l + 1 + (sumB bulk 1 o + 1 + 0)) + (nm.length + 1) := rfl
  have hb2 : (sumL bulk0 l + 1 + (sumL bulk1 o + 1 + 0)) + (nm.length + 1) <= 1048576 := by rw [e, q1, q2] at hb; exact hb
  rw [B371]
  omega
 obtain ⟨s1, s2, s3⟩ := sumF l
 have hd : ∀ f ∈ l, Byt f.name ∧ Byt f.data := by
  intro f hf
  cases gl with
  | rows _ hr =>
   have h := hr f hf
   exact ⟨B617 (h (.str f.name) (.head _)), B928 (h (.ints .u8 f.data) (.tail _ (.tail _ (.head _))))⟩
 have hk : BookOk l o := ⟨by omega, by omega, by omega, fun f hf => (hd f hf).1, B814 _ o (A11 _) go⟩
 obtain ⟨v, hv⟩ := B846 (l := l) (o := o) (by omega) (fun f hf => ⟨(hd f hf).2, by have := s3 f hf; omega⟩)
 obtain ⟨x, e, v1, v2, v3⟩ := B729 (nm := nm) hk (fun f hf => by have := s3 f hf; omega)
 rw [Z0_eq, hv, B912, v1, v2]
 simp only [A1]
 cases v with
 | true => rfl
 | false =>
  simp only [A4, A3, A7, A5, B648 x x (by omega), A1]
end Go.Proofs.YtcphcfknnfibmaaGreat.P
