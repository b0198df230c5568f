/- A function does what the reading says, at whatever depth. -/
import Derived.Test.YtgffdmgidnnedaaGreatSound2
namespace Go.Proofs.YtgffdmgidnnedaaGreat.V
open Go
set_option linter.unusedVariables false
set_option linter.unusedSimpArgs false
section
variable {G : Prg} {w w' : World} {Fz Fz' : Nat → Prop} {ι ι' : Nat → Loc} {X : Ctx} {N : Nat}
def resOf (tmps : Array Value) : ResultVar → Sem Value
 | .tmp t => pure (tmps.getD t undef)
 | .cell a t => do loadVar t (← asAddr (tmps.getD a undef))
theorem results_eq (fn : Func) (tmps : Array Value) {us : List Value} (h : (fn.results.toList.mapM (resOf tmps)).run G.P w = .ok us w) : (results fn tmps).run G.P w = .ok (retV us) w := by
 have h1 : (fn.results.mapM (resOf tmps)).run G.P w = .ok us.toArray w := by
  rw [Array.mapM_eq_mapM_toList, Sem.run_map, h]; rfl
 have h2 : results fn tmps = (do
   let vs ← fn.results.mapM (resOf tmps)
   pure (if h : vs.size = 1 then vs[0] else .tuple vs)) := rfl
 rw [h2, Sem.run_bind, h1]
 simp only [Result.andThen_ok, Sem.run_pure]
 rcases us with _ | ⟨u, _ | ⟨v, us⟩⟩
 ·rfl
 ·rfl
 ·simp [retV]
theorem resultsV_sound (ok : PrgOk G) {σ : St G.E.T} {a : Act} (hH : HRep G.E w Fz ι σ.heap) (hE : EnvRep G.E w Fz ι σ.heap σ.env a) : ∀ {l : List ResultVar} {vs : List (PV G.E.T)}, resultsV G σ l = some vs →
  ∃ us, (l.mapM (resOf a.tmps)).run G.P w = .ok us w ∧ PReps G.E w Fz ι σ.heap vs us
 | [], vs, h => by
  simp only [resultsV] at h; cases h
  exact ⟨[], by simp, by simp [PReps]⟩
 | .tmp t :: l, vs, h => by
  simp only [resultsV] at h
  split at h
  ·rename_i r hr
   cases h
   obtain ⟨us, h1, h2⟩ := resultsV_sound ok hH hE hr
   refine ⟨a.tmps.getD t undef :: us, ?_, by simp only [PReps]; exact ⟨hE t, h2⟩⟩
   rw [List.mapM_cons]
   simp only [resOf, Sem.run_bind, Sem.run_pure, Result.andThen_ok, h1]
  ·cases h
 | .cell c t :: l, vs, h => by
  simp only [resultsV] at h
  split at h
  ·rename_i v hv
   split at h
   ·rename_i r hr
    cases h
    obtain ⟨us, h1, h2⟩ := resultsV_sound ok hH hE hr
    obtain ⟨p, u, g1, g2, g3⟩ := loadV_sound ok.env hv hH (hE c)
    cases g1
    refine ⟨u :: us, ?_, by simp only [PReps]; exact ⟨g3, h2⟩⟩
    rw [List.mapM_cons]
    have g2' : (resOf a.tmps (.cell c t)).run G.P w = .ok u w := by
     simp only [resOf]
     generalize a.tmps.getD c undef = x at g2
     simp only [Instr.loadAt, Sem.run_bind] at g2
     cases x with
     | pointer A =>
      cases A with
      | none => simp [Instr.sureAddr, stuck] at g2
      | some A => simpa [asAddr, Instr.sureAddr] using g2
     | _ => simp [Instr.sureAddr, stuck] at g2
    simp only [Sem.run_bind, g2', Sem.run_pure, Result.andThen_ok, h1]
   ·cases h
  ·cases h
theorem paramsEnv_rep {E : Env} {H : List (Blk E.T)} {tmps : Array Value} : ∀ (n : Nat) (vs : List (PV E.T)) (us : List Value), PReps E w Fz ι H vs us → (∀ i u, us[i]? = some u → tmps[n + i]? = some u) →
  ∀ t, PRep E w Fz ι H (look t (paramsEnv n vs)) (tmps.getD t undef)
 | n, [], us, h, ht, t => by simp [paramsEnv, look, PRep]
 | n, v :: vs, [], h, ht, t => by simp [PReps] at h
 | n, v :: vs, u :: us, h, ht, t => by
  simp only [PReps] at h
  simp only [paramsEnv, look]
  split
  ·rename_i e
   have := nat_beq e
   subst this
   have := ht 0 u rfl
   rw [Array.getD_eq_getD_getElem?, show t = t + 0 from rfl, this]
   exact h.1
  ·exact paramsEnv_rep (n + 1) vs us h.2 (fun i u hi => by have := ht (i + 1) u hi; rwa [show n + (i + 1) = n + 1 + i by omega] at this) t
theorem putOut_sound {T : Nat → Type} : ∀ {a : Way} {l : List Way} {base heap : List (Blk T)} {vs : List (PV T)} {q : OutT T a l}, putOut a l base vs heap = some q →
  ∃ L cs, castAll (outWay a l q).1.1 vs (outWay a l q).1.2 base heap = some (L, cs) ∧ (outWay a l q).2 = L := by
 have one : ∀ {a : Way} {base heap : List (Blk T)} {vs : List (PV T)} {q : Pay T a.leaves}, finishW a base vs heap = some q → ∃ L cs, castAll a.1 vs a.2 base heap = some (L, cs) ∧ toL a.leaves q = L := by
  intro a base heap vs q h
  unfold finishW at h
  split at h
  ·cases h
  ·rename_i L cs hc
   split at h
   ·exact ⟨L, cs, hc, toL_ofL h⟩
   ·cases h
 intro a l
 induction l generalizing a with
 | nil => intro base heap vs q h; exact one h
 | cons b l ih =>
  intro base heap vs q h
  simp only [putOut] at h
  split at h
  ·rename_i q' hq; cases h; exact one hq
  ·split at h
   ·rename_i q' hq; cases h; exact ih hq
   ·cases h
/-- a function's own beginning -/
def Ctx.from_ (X : Ctx) (w : World) (Fz : Nat → Prop) : Ctx := ⟨w, fun B => X.O B ∨ X.w0.heap.size ≤ B, Fz⟩
theorem Fram.from_ {E : Env} {H : List (Blk E.T)} (h : Fram E X w Fz ι H) : Fram E (X.from_ w Fz) w Fz ι H :=
 ⟨rfl, rfl, rfl, Nat.le_refl _, fun _ _ _ => rfl, fun id b A h1 h2 h3 => .inl (h.own id b A h1 h2 h3), fun B hB => .inl hB⟩
theorem Step.to_ {E : Env} {H H' : List (Blk E.T)} (h : Step E (X.from_ w Fz) w w' Fz Fz' ι ι' H H') (f : Fram E X w Fz ι H) : Step E X w w' Fz Fz' ι ι' H H' := by
 have g := h.fram
 have hsz : w.heap.size ≤ w'.heap.size := g.size
 refine ⟨h.keep, h.still, h.heap, ⟨g.os.trans f.os, g.tape.trans f.tape, g.output.trans f.output, Nat.le_trans f.size hsz, fun B hB hO => ?_, fun id b A h1 h2 h3 => ?_, fun B hB => ?_⟩, h.un⟩
 ·have hlt : B < w.heap.size := Nat.lt_of_lt_of_le hB f.size
  rw [g.block B hlt fun e => ?_]
  ·exact f.block B hB hO
  ·rcases e with e | e
   ·exact hO e
   ·have : X.w0.heap.size ≤ B := e
    omega
 ·rcases g.own id b A h1 h2 h3 with (e | e) | e
  ·exact .inl e
  ·exact .inr e
  ·exact .inr (Nat.le_trans f.size e)
 ·rcases g.fz B hB with e | (e | e) | e
  ·exact f.fz B e
  ·exact .inr (.inl e)
  ·exact .inr (.inr e)
  ·exact .inr (.inr (Nat.le_trans f.size e))
theorem leaves_marks {fn : Func} {R : Ending → World → Prop} {a : Act} {H : List (Blk G.E.T)} {σ : St G.E.T} : ∀ (Ds : List Nat) {w' : World}, Ds.Nodup → Step G.E X w w' Fz Fz' ι ι' H σ.heap → EnvRep G.E w' Fz' ι' σ.heap σ.env a →
  (∀ D, D ∈ Ds → (X.from_ w Fz).w0.heap.size ≤ D ∧ Un w' Fz' ι' σ.heap D ∧ w'.heap[D]? = some (.deferred (some []))) →
  (∀ w2, Step G.E X w w2 Fz Fz' ι ι' H σ.heap → EnvRep G.E w2 Fz' ι' σ.heap σ.env a → ∃ v, (results fn a.tmps).run G.P w2 = .ok v w2 ∧ R (.returned v) w2) →
  (hX : X.w0.heap.size ≤ w.heap.size) → (hH : HRep G.E w Fz ι H) → LeavesInM Fence.wide 0 G.P fn a.tmps R (Ds.map markOf) .returning w'
 | [], w', _, hs, he, _, k, _, _ => k w' hs he
 | D :: Ds, w', hnd, hs, he, hD, k, hX, hH => by
  obtain ⟨h1, h2⟩ := List.nodup_cons.1 hnd
  obtain ⟨g1, g2, g3⟩ := hD D (List.mem_cons_self ..)
  have g1 : w.heap.size ≤ D := g1
  have hs' : Step G.E X w (w'.putObj D (.deferred none)) Fz Fz' ι ι' H σ.heap := hs.turn g2 g1 (by omega) hH.fz fun id b A hb hg hA => (hH.rep id b hb).lt hg hA
  refine ⟨by simp, .inl ⟨D, _, rfl, run_takeDeferred g3, leaves_marks Ds h2 hs' (he.mono (Keep.turn g2)) (fun D' hD' => ?_) k hX hH⟩⟩
  obtain ⟨q1, q2, q3⟩ := hD D' (List.mem_cons_of_mem _ hD')
  exact ⟨q1, q2.turn, by rw [World.putObj_heap_other (show D' ≠ D from fun e => h1 (by rw [← e]; exact hD'))]; exact q3⟩
theorem vbody_sound (ok : PrgOk G) {rec : Rec G} (hrec : Spec G rec) : Spec G (vbody G rec) := by
 intro i p q h
 unfold vbody at h
 split at h
 ·cases h
 ·rename_i fn hfn
  split at h
  ·cases h
  ·rename_i c hbody
   refine ⟨⟨fn, hfn, by rw [hbody]; rfl⟩, fun X w Fz ι args hH hF hV => ?_⟩
   refine callsIn_wide.1 (callsIn_of_wp_marks (F := Fence.wide) (n := 0) hfn hbody trivial ?_)
   have hst : startSt G (G.F i).sig p = ⟨paramsEnv 0 (inV G i p), inH G i p⟩ := rfl
   rw [hst] at h
   have hA : At G (X.from_ w Fz) fn.ntmps w Fz ι ⟨paramsEnv 0 (inV G i p), inH G i p⟩ { tmps := args.toArray ++ Array.replicate (fn.ntmps - args.toArray.size) undef, defers := [] } := by
    refine ⟨hH, hF.from_, paramsEnv_rep 0 _ args hV fun j u hj => ?_, by simp; omega, .nil⟩
    rw [Nat.zero_add, Array.getElem?_append_left (by simpa using (List.getElem?_eq_some_iff.1 hj).1)]
    simpa using hj
   refine wpIn_mono (vrun_sound (ro := none) ok hrec c (.inl rfl) _ _ q h hA) ?_
   rintro e a' w' ⟨ex, σ', Fz', ι', he, hk, hg⟩
   have fin : finish G (G.F i).sig (inH G i p) fn.results.toList σ' = some q → LeavesInM Fence.wide 0 G.P fn a'.tmps (fun e w' =>
     ∃ vs Fz' ι', e = .returned (retV vs) ∧ Step G.E X w w' Fz Fz' ι ι' (inH G i p) (outH G i p q) ∧ PReps G.E w' Fz' ι' (outH G i p q) (outV G i p q) vs ∧ (inH G i p).length ≤ (outW q).1.2.length) a'.defers .returning w' := by
    intro hf
    unfold finish at hf
    split at hf
    ·rename_i vs hvs
     obtain ⟨l, cs, hcast, hl⟩ := putOut_sound hf
     change castAll (outW q).1.1 vs (outW q).1.2 _ _ = _ at hcast
     change (outW q).2 = l at hl
     obtain ⟨Ds, hds, hnd, hD⟩ := hg.defers
     rw [hds]
     refine leaves_marks Ds hnd (hg.step.to_ hF) hg.env hD (fun w2 hst henv => ?_) hF.size hH
     ·obtain ⟨us, h1, h2⟩ := resultsV_sound ok hst.heap henv hvs
      obtain ⟨s1, s2, _⟩ := cast_cut hst hH .refl hcast
      refine ⟨_, results_eq fn _ h1, us, lentFz Fz' ι' cs.lent, bindι ι' cs, rfl, ?_, ?_, (castAll_tr (ρ := ρcut (inH G i p) (outW q).1.2) (Fz' := Fz') (ι' := ι') (H' := []) hst.heap hcast).1.le⟩
      ·unfold outH; rw [hl]; exact s1
      ·unfold outH outV; rw [hl]; exact s2.reps h2
    ·cases hf
   cases ex <;> cases e <;> simp only [exitIs] at he
   ·exact fin hk
   ·cases hk
   ·exact fin hk
theorem vcall_sound (ok : PrgOk G) : ∀ n, Spec G (vcall G n)
 | 0 => fun i p q h => by simp [vcall] at h
 | n + 1 => vbody_sound ok (vcall_sound ok n)
theorem vcall_of_call {i : Nat} {p : Pay G.E.T (G.F i).sig.ins} {q : (G.F i).sig.Out G.E.T} (h : call G i p = some q) : ∃ n, vcall G n i p = some q := by
 unfold call at h
 split at h
 ·exact ⟨_, h⟩
 ·cases h
theorem call_sound (ok : PrgOk G) : Spec G (call G) := fun i p q h => by
 obtain ⟨n, hn⟩ := vcall_of_call h
 exact vcall_sound ok n i p q hn
end
end Go.Proofs.YtgffdmgidnnedaaGreat.V
