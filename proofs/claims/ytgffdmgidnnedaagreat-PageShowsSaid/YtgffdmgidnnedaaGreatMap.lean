/- Maps: the reading's is the machine's. -/
import Derived.Test.YtgffdmgidnnedaaGreatMem3
import Derived.MapFrom
namespace Go.Proofs.YtgffdmgidnnedaaGreat.V
open Go
set_option linter.unusedVariables false
set_option linter.unusedSimpArgs false
section
variable {G : Prg} {w w' : World} {Fz : Nat → Prop} {ι : Nat → Loc} {H : List (Blk G.E.T)} {R : Type} {r : R} {X : Ctx}
theorem makeMapV_sound {pl : Option Nat} {t : TypeId} {K : PV G.E.T → List (Blk G.E.T) → Option R} (h : makeMapV G pl H t K = some r) (hH : HRep G.E w Fz ι H) (hF : Fram G.E X w Fz ι H) :
  ∃ p H' v w' ι', K p H' = some r ∧ (Instr.makeMap t none).run G.P w = .ok v w' ∧ Step G.E X w w' Fz Fz ι ι' H H' ∧ PRep G.E w' Fz ι' H' p v := by
 unfold makeMapV at h
 split at h
 ·split at h
  ·rename_i k _ hpl
   refine ⟨_, _, .map (some w.heap.size), w.alloc (.map #[] 0), updι ι (plId pl H) ⟨some ⟨w.heap.size, 0, none⟩, 0⟩, h, by simp [Instr.makeMap], ?_, ?_⟩
   ·refine Step.at_ hpl hH hF _ _ (.inl rfl) rfl rfl rfl (by simp) (alloc_mem _) (fun A' hA' => by simp at hA'; subst hA'; simp) rfl fun KK => ?_
    simp only [BRep]
    exact ⟨w.heap.size, by rw [updι_same], #[], 0, by show (w.heap.push _)[w.heap.size]? = _; simp, fun e he => by simp at he⟩
   ·simp only [PRep]
    exact ⟨_, getL_plPut hpl, rfl, w.heap.size, by rw [updι_same], rfl⟩
  ·cases h
 ·cases h
theorem mapUpdV_sound {t : TypeId} {m k : PV G.E.T} {K : List (Blk G.E.T) → Option R} (h : mapUpdV G H t m k K = some r) (hH : HRep G.E w Fz ι H) (hF : Fram G.E X w Fz ι H) {vm vk x : Value}
  (hm : PRep G.E w Fz ι H m vm) (hk : PRep G.E w Fz ι H k vk) :
  ∃ w', K H = some r ∧ (Instr.mapUpdate t vm vk x).run G.P w = .ok () w' ∧ Step G.E X w w' Fz Fz ι ι H H := by
 unfold mapUpdV at h
 split at h
 ·rename_i kt et id k1 n ht
  split at h
  ·rename_i k2 k3 hd hb
   split at h
   ·rename_i e1 e2
    have e1 := of_decide_eq_true e1
    have e2 := of_decide_eq_true e2
    subst e1; subst e2
    simp only [PRep] at hm hk
    cases hk with | int hn =>
    obtain ⟨b, hb', _, B, ha, rfl⟩ := hm
    rw [hb] at hb'; cases hb'
    have hr := hH.rep id _ hb
    simp only [BRep] at hr
    obtain ⟨B', ha', es, c, hes, hkeys⟩ := hr
    rw [ha] at ha'; cases ha'
    have hks : ∀ x ∈ es.toList, MapKept.IsKey (.int k1) x.key := fun x hx => by
     obtain ⟨n, e⟩ := hkeys x hx
     rw [e]; rfl
    have hkey : MapKept.IsKey (.int k1) (.int k1 n) := rfl
    have hlt : B < w.heap.size := by
     rcases Nat.lt_or_ge B w.heap.size with q | q
     ·exact q
     ·rw [Array.getElem?_eq_none q] at hes; cases hes
    have hstep : ∀ es' c', (∀ e ∈ es'.toList, ∃ n, e.key = .int k1 n) → Step G.E X w { w with heap := w.heap.setIfInBounds B (.map es' c') } Fz Fz ι ι H H := fun es' c' hk' => by
     refine Step.upd hH hF id (.mp .own k1) hb (fun _ _ => rfl) (fun _ _ => rfl) (fun b hb2 => ?_) rfl rfl rfl (by simp) (fun C hC hne => ?_) (fun A' hA' => .inl ⟨_, A', hb, hA', rfl⟩) rfl fun KK => ?_
     ·rw [hb] at hb2; cases hb2
      exact ⟨rfl, rfl, .refl _⟩
     ·have : C ≠ B := hne _ _ hb ha
      simp only [Array.getElem?_setIfInBounds]
      rw [if_neg (fun e => this e.symm)]
     ·simp only [BRep]
      exact ⟨B, ha, es', c', by simp [Array.getElem?_setIfInBounds, hlt], hk'⟩
    rcases MapKept.findNow_spec hkey es.toList 0 hks with ⟨h1, _⟩ | ⟨j, e, h1, h2, h3⟩
    ·refine ⟨_, h, by simp [Instr.mapUpdate, run_underlying ht, MapKept.run_getObj_map hes, MapKept.run_checkKey hd hkey, MapKept.run_findKey hd h1, MapKept.run_setObj_map _ hes, Result.andThen]; rfl, hstep _ _ fun e he => ?_⟩
     simp only [Array.toList_push, List.mem_append, List.mem_singleton] at he
     rcases he with he | rfl
     ·exact hkeys e he
     ·exact ⟨n, rfl⟩
    ·have hj : es[j]? = some e := by simpa using h2
     refine ⟨_, h, by simp [Instr.mapUpdate, run_underlying ht, MapKept.run_getObj_map hes, MapKept.run_checkKey hd hkey, MapKept.run_findKey hd h1, hj, h3, MapKept.run_keyThatStays hkey, MapKept.run_setObj_map _ hes, Result.andThen]; rfl, hstep _ _ fun e' he => ?_⟩
     simp only [Array.toList_modify] at he
     obtain ⟨i, hi, rfl⟩ := List.getElem_of_mem he
     rw [List.getElem_modify]
     split
     ·exact ⟨n, rfl⟩
     ·exact hkeys _ (List.getElem_mem _)
   ·cases h
  ·cases h
 ·cases h
end
end Go.Proofs.YtgffdmgidnnedaaGreat.V
