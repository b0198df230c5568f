/- A region whose order is drawn: sound. -/
import Derived.Test.YtjabpjkomgakbaaDraw4
namespace Go.Proofs.Ytjabpjkomgakbaa.V
open Go
set_option linter.unusedVariables false
set_option linter.unusedSimpArgs false

section
variable {G : Prg} {R : Type} {r : R} {X : Ctx} {N : Nat}

/-! ### Each order comes to an end -/
theorem mem_ready {md : Region.Mode} {ops : Array Oper} {listed : Array Bool} {i : Nat} : i ∈ Region.ready md ops listed ↔ i < ops.size ∧ listed.getD i true = false ∧ ∃ o, getL ops.toList i = some o ∧ ∀ e, e ∈ o.after.toList → Region.binds md e = true → listed.getD e.on false = true := by
  unfold Region.ready
  rw [List.mem_filter, List.mem_range]
  constructor
  · rintro ⟨h1, h2⟩
    rw [Bool.and_eq_true] at h2
    obtain ⟨h2, h3⟩ := h2
    refine ⟨h1, by simpa using h2, ops[i], by rw [getL_eq]; simp [h1], fun e he hb => ?_⟩
    simp only [Array.getElem?_eq_getElem h1, Option.map_some, Option.getD_some] at h3
    rw [← Array.all_toList, List.all_eq_true] at h3
    have := h3 e he
    simpa [hb] using this
  · rintro ⟨h1, h2, o, h3, h4⟩
    refine ⟨h1, ?_⟩
    rw [getL_eq] at h3
    have h3' : ops[i]? = some o := by simpa using h3
    rw [h3']
    simp only [h2, Option.map_some, Option.getD_some, Bool.not_false, Bool.true_and]
    rw [← Array.all_toList, List.all_eq_true]
    intro e he
    cases hb : Region.binds md e with
    | false => simp
    | true => simp [h4 e he hb]

theorem edgesIn_spec {md : Region.Mode} {m : Nat} : ∀ {l : List Edge}, edgesIn md m l = true → ∀ e ∈ l, Region.binds md e = true → Nat.testBit m e.on = true
  | [], _, e, h, _ => by simp at h
  | x :: l, h, e, he, hb => by
    simp only [edgesIn] at h
    split at h
    · split at h
      · rename_i h1
        rcases List.mem_cons.1 he with rfl | he
        · exact h1
        · exact edgesIn_spec h e he hb
      · cases h
    · rename_i h1
      rcases List.mem_cons.1 he with rfl | he
      · rw [hb] at h1; cases h1
      · exact edgesIn_spec h e he hb

theorem passMask_spec {md : Region.Mode} {ops : Array Oper} {listed : Array Bool} (hsz : listed.size = ops.size) (hr : Region.ready md ops listed = []) : ∀ (l : List Oper) (i m : Nat), (∀ j o, getL l j = some o → getL ops.toList (i + j) = some o) →
    (∀ j, Nat.testBit m j = true → listed.getD j false = true) → ∀ j, Nat.testBit (passMask md l i m) j = true → listed.getD j false = true
  | [], i, m, _, hm, j, h => hm j h
  | o :: l, i, m, hl, hm, j, h => by
    have hl' : ∀ j o', getL l j = some o' → getL ops.toList (i + 1 + j) = some o' := fun j o' hj => by have := hl (j + 1) o' hj; rwa [show i + (j + 1) = i + 1 + j by omega] at this
    simp only [passMask] at h
    split at h
    · rename_i he
      refine passMask_spec hsz hr l (i + 1) _ hl' (fun j hj => ?_) j h
      rw [Nat.testBit_or, Nat.testBit_two_pow, Bool.or_eq_true] at hj
      rcases hj with hj | hj
      · exact hm j hj
      · have : i = j := by simpa using hj
        subst this
        have ho : getL ops.toList i = some o := by simpa using hl 0 o rfl
        have hi : i < ops.size := by simpa using getL_lt ho
        cases hli : listed.getD i false with
        | true => rfl
        | false =>
          exfalso
          have : i ∈ Region.ready md ops listed := mem_ready.2 ⟨hi, by
            rw [Array.getD_eq_getD_getElem?] at hli ⊢
            rw [Array.getElem?_eq_getElem (by omega)] at hli ⊢
            exact hli, o, ho, fun e he' hb => hm _ (edgesIn_spec he e he' hb)⟩
          rw [hr] at this
          simp at this
    · exact passMask_spec hsz hr l (i + 1) _ hl' hm j h

theorem allBits_spec : ∀ {n m : Nat}, allBits n m = true → ∀ i, i < n → Nat.testBit m i = true
  | 0, _, _, i, h => by omega
  | n + 1, m, h, i, hi => by
    simp only [allBits] at h
    split at h
    · rename_i h1
      by_cases e : i = n
      · subst e; exact h1
      · exact allBits_spec h i (by omega)
    · cases h

theorem topo_spec {md : Region.Mode} {ops : Array Oper} {listed : Array Bool} (hsz : listed.size = ops.size) (hr : Region.ready md ops listed = []) : ∀ {f m : Nat}, topoFrom md ops.toList f m = true →
    (∀ j, Nat.testBit m j = true → listed.getD j false = true) → ∀ i, i < ops.size → listed.getD i false = true
  | 0, m, h, hm, i, hi => hm i (allBits_spec h i (by simpa using hi))
  | f + 1, m, h, hm, i, hi => by
    simp only [topoFrom] at h
    split at h
    · rename_i h1
      exact hm i (allBits_spec h1 i (by simpa using hi))
    · exact topo_spec hsz hr h (passMask_spec hsz hr _ _ _ (fun j o hj => by simpa using hj) hm) i hi

theorem filter_lt {α : Type} {p q : α → Bool} : ∀ {l : List α}, (∀ x, q x = true → p x = true) → (∃ x ∈ l, p x = true ∧ q x = false) → (l.filter q).length < (l.filter p).length
  | [], _, ⟨x, hx, _⟩ => by simp at hx
  | a :: l, h, ⟨x, hx, h1, h2⟩ => by
    have le : ∀ l : List α, (l.filter q).length ≤ (l.filter p).length := by
      intro l
      induction l with
      | nil => simp
      | cons b l ih =>
        rw [List.filter_cons, List.filter_cons]
        cases hq : q b with
        | true => simp [h b hq, ih]
        | false =>
          cases p b <;> simp <;> omega
    rw [List.filter_cons, List.filter_cons]
    rcases List.mem_cons.1 hx with rfl | hx
    · rw [h1, h2]
      simp only [Bool.false_eq_true, if_false, if_true, List.length_cons]
      have := le l
      omega
    · have := filter_lt (l := l) h ⟨x, hx, h1, h2⟩
      cases hq : q a with
      | true => simp [h a hq, this]
      | false => cases p a <;> simp <;> omega

/-! ### The world when an order has been drawn -/
theorem HRep.drawn {E : Env} {w : World} {Fz : Nat → Prop} {ι : Nat → Loc} {H : List (Blk E.T)} (h : HRep E w Fz ι H) : HRep E { w with drawn := w.drawn + 1 } Fz ι H := by
  have K : Keep E w { w with drawn := w.drawn + 1 } Fz Fz ι ι H H := ⟨fun _ h => h, fun _ _ => rfl, .refl ι H⟩
  exact ⟨fun id b hb => BRep.keep K (h.rep id b hb) rfl fun _ _ => rfl, h.apart, h.free, h.held, h.fz⟩
theorem Step.drawn {w : World} {Fz : Nat → Prop} {ι : Nat → Loc} {H : List (Blk G.E.T)} (h : HRep G.E w Fz ι H) (f : Fram G.E X w Fz ι H) : Step G.E X w { w with drawn := w.drawn + 1 } Fz Fz ι ι H H :=
  ⟨⟨fun _ h => h, fun _ _ => rfl, .refl ι H⟩, fun _ _ hb _ => ⟨hb, rfl, fun _ _ => rfl⟩, h.drawn, ⟨f.os, f.tape, f.output, f.size, f.block, f.own, f.fz⟩⟩

/-! ### One operation, in whatever order -/
theorem wanted_guard {w : World} {Fz : Nat → Prop} {ι : Nat → Loc} {H : List (Blk G.E.T)} {ops : Array Oper} {env : List (Nat × PV G.E.T)} {o : Oper} {b : Bool} (h : guardB ops.toList env o = some b) {a : Act} (hE : EnvRep G.E w Fz ι H env a) :
    Region.wanted o (yielded ops a.tmps) = b := by
  unfold guardB at h
  unfold Region.wanted
  split at h
  · rename_i e; rw [e]; cases h; rfl
  · rename_i j want e
    rw [e]
    simp only
    split at h
    · cases h
    · rename_i g hg
      have hy := yielded_eq (tmps := a.tmps) hg
      have hgr := hE g
      split at h
      · rename_i c hc
        cases h
        rw [hc] at hgr
        simp only [PRep] at hgr
        generalize hgv : a.tmps.getD g undef = gv at hgr hy
        cases hgr
        simp only at hy
        rw [hy]
        cases c <;> cases want <;> rfl
      · rename_i l hl
        rw [hl] at hgr
        simp only [PRep] at hgr
        obtain ⟨cs, hcs, _⟩ := hgr
        rw [hcs] at hy
        simp only at hy
        rw [hy]
        split at h
        · cases h; rfl
        · cases h
      · cases h

theorem opTmps_mem : ∀ {l : List Operand} {t : Nat}, Operand.tmp t ∈ l → t ∈ opTmps l
  | [], t, h => by simp at h
  | x :: l, t, h => by
    rcases List.mem_cons.1 h with rfl | h
    · simp [opTmps]
    · have := opTmps_mem h
      cases x <;> simp [opTmps, this]
theorem eval_of_looks {T : Nat → Type} {ops : List Oper} {o : Oper} {e e' : List (Nat × PV T)} (h : ∀ t, t ∈ looksOf ops o → look t e = look t e') : ∀ x, x ∈ opersOf o.op → eval e x = eval e' x := by
  intro x hx
  cases x with
  | tmp t =>
    refine h t ?_
    unfold looksOf
    split
    · exact opTmps_mem hx
    · split
      · exact List.mem_cons_of_mem _ (opTmps_mem hx)
      · exact opTmps_mem hx
  | const v => rfl
  | global g => rfl
  | func f => rfl
theorem guard_of_looks {T : Nat → Type} {ops : List Oper} {o : Oper} {e e' : List (Nat × PV T)} (h : ∀ t, t ∈ looksOf ops o → look t e = look t e') : guardB ops e o = guardB ops e' o := by
  unfold guardB
  split
  · rfl
  · rename_i j want hg
    split
    · rfl
    · rename_i g hg'
      rw [h g (by unfold looksOf; rw [hg]; simp only; rw [hg']; simp)]

theorem mem_dstsOps : ∀ {l : List Oper} {i : Nat} {o : Oper} {t : Nat}, getL l i = some o → t ∈ dsOf o.dst → t ∈ dstsOps l
  | [], i, o, t, h, _ => by simp [getL] at h
  | q :: l, 0, o, t, h, ht => by
    simp only [getL, Option.some.injEq] at h
    subst h
    simp only [dstsOps]
    cases hd : q.dst with
    | none => rw [hd] at ht; simp [dsOf] at ht
    | some d => rw [hd] at ht; simp only [dsOf, List.mem_singleton] at ht; subst ht; exact List.mem_cons_self ..
  | q :: l, i + 1, o, t, h, ht => by
    simp only [getL] at h
    have := mem_dstsOps h ht
    simp only [dstsOps]
    cases q.dst with
    | none => exact this
    | some d => exact List.mem_cons_of_mem _ this

theorem vregion_sound (ok : PrgOk G) {rec : Rec G} (hrec : Spec G rec) {ann : Ann} {ops : Array Oper} {σ : St G.E.T} {k : St G.E.T → Option R} (h : vregion G rec ann N ops.toList σ k = some r) {id : Nat} {a : Act} {w : World} {Fz : Nat → Prop} {ι : Nat → Loc}
    (hAt : At G X N w Fz ι σ a) {Q : Exit → Act → World → Prop} (hQ : ∀ σ' a' w' Fz' ι', k σ' = some r → Goes G X N (dstsOps ops.toList) w Fz ι σ.heap a w' Fz' ι' σ' a' → Q .normal a' w') : (Code.region id ops true).wp G.P Q a w := by
  unfold vregion at h
  split at h
  · rename_i anc hanc ht hg hany
    split at h
    · rename_i hap
      obtain ⟨recs, σ', σk, hlex, hk, hheap, halike, hfit⟩ := vdraw_lex h σ.env (.refl _)
      have hA := anc_ok hanc
      have hlen := hlex.len
      have apart : ∀ i j o o', i < j → getL ops.toList i = some o → getL ops.toList j = some o' → ordB anc i j = true ∨ Apart (o.dst, looksOf ops.toList o) (o'.dst, looksOf ops.toList o') := by
        intro i j o o' hij ho ho'
        exact (apartAll_spec (done := []) hap (fun i o hi => by simp [getL] at hi) i j o o' hij (Nat.zero_le _) ho ho').imp (fun x => x) apartT_spec
      have fits : ∀ i j ρ ρ', i < j → getL recs i = some ρ → getL recs j = some ρ' → ordB anc i j = true ∨ kindsFit ρ.kind ρ'.kind = true := by
        intro i j ρ ρ' hij h1 h2
        have e1 := kindsRev_at recs 0 [] i ρ h1
        have e2 := kindsRev_at recs 0 [] j ρ' h2
        rw [Nat.zero_add] at e1 e2
        have := getL_lt h2
        exact kinds_spec hfit _ _ i j ρ.kind ρ'.kind e2 e1 (by omega)
      -- the state behind a set
      let SS : Array Bool → Nat → Bool := fun l i => l.getD i false
      let st : (Nat → Bool) → St G.E.T := fun S => ⟨envS S 0 ops.toList recs σ.env, heapS S 0 recs σ.heap⟩
      let Inv : Array Bool → Act → World → Prop := fun l a' w' => l.size = ops.size ∧ Closed ops.toList (SS l) ∧ ∃ Fz' ι', Goes G X N (dstsOps ops.toList) w Fz ι σ.heap a w' Fz' ι' (st (SS l)) a'
      have step : ∀ (md : Region.Mode) (l : Array Bool) (a' : Act) (w' : World) (i : Nat), Inv l a' w' → i ∈ Region.ready md ops l → wpOp G.P ops Q i (Inv (l.setIfInBounds i true)) a' w' := by
        intro md l a' w' i ⟨hsz, hcl, Fz', ι', hgo⟩ hi
        obtain ⟨hi1, hi2, o, ho, hi3⟩ := mem_ready.1 hi
        have hSi : SS l i = false := by
          show l.getD i false = false
          rw [Array.getD_eq_getD_getElem?] at hi2 ⊢
          rw [Array.getElem?_eq_getElem (by omega)] at hi2 ⊢
          exact hi2
        have hpre : ∀ j, Pre ops.toList j i → SS l j = true := by
          rintro j ⟨o', e, q1, q2, q3, rfl⟩
          rw [ho] at q1; cases q1
          refine hi3 e q2 ?_
          unfold Region.binds at q3 ⊢
          cases hgr : e.ground <;> rw [hgr] at q3 <;> simp_all
        have before : ∀ j, ordB anc j i = true → SS l j = true := hA.ready hcl i hpre
        have after : ∀ j, ordB anc i j = true → SS l j = false := by
          intro j hj
          cases hq : SS l j with
          | false => rfl
          | true => have := hA.inS hcl hq hj; rw [hSi] at this; cases this
        have hS' : ∀ j, SS (l.setIfInBounds i true) j = if j = i then true else SS l j := by
          intro j
          show (l.setIfInBounds i true).getD j false = _
          rw [Array.getD_eq_getD_getElem?, Array.getElem?_setIfInBounds]
          by_cases e : i = j
          · subst e; simp [show i < l.size by omega]
          · rw [if_neg e, if_neg (Ne.symm e)]
            show _ = l.getD j false
            rw [Array.getD_eq_getD_getElem?]
        obtain ⟨ρ, σi, hρ, hei, hhi, hgi, hN, hrun, hskip, hnext⟩ := hlex.at_ 0 i o ho
        simp only [Nat.zero_add] at hei hhi hnext
        -- what it looks at
        have hlooks : ∀ t, t ∈ looksOf ops.toList o → look t (st (SS l)).env = look t σi.env := by
          intro t ht
          rw [hei]
          refine envS_congr _ _ _ _ _ rfl fun j o' hj hd => ?_
          simp only [Nat.zero_add]
          rcases Nat.lt_trichotomy j i with hlt | heq | hgt
          · rcases apart j i o' o hlt hj ho with q | q
            · rw [before j q]; simp [hlt]
            · exact absurd ht (q.l t hd)
          · subst heq; rw [hSi]; simp
          · rcases apart i j o o' hgt ho hj with q | q
            · rw [after j q]; simp; omega
            · exact absurd ht (q.r t hd)
        have hev := eval_of_looks hlooks
        have hgd : guardB ops.toList (st (SS l)).env o = some ρ.run := by rw [guard_of_looks hlooks]; exact hgi
        -- the operations that change blocks, in the set as in the order written
        have hinit : ∀ i j ρ ρ', getL recs i = some ρ → getL recs j = some ρ' → isEff ρ.kind = true → isEff ρ'.kind = true → i < j → SS l (0 + j) = true → SS l (0 + i) = true := by
          intro i' j' ρ1 ρ2 g1 g2 g3 g4 g5 g6
          rw [Nat.zero_add] at g6 ⊢
          rcases fits i' j' ρ1 ρ2 g5 g1 g2 with q | q
          · exact hA.inS hcl g6 q
          · cases h1 : ρ1.kind <;> cases h2 : ρ2.kind <;> rw [h1] at q g3 <;> rw [h2] at q g4 <;> simp [isEff, kindsFit] at g3 g4 q
        have heff : isEff ρ.kind = true → ∀ j ρ', getL recs j = some ρ' → isEff ρ'.kind = true → SS l j = decide (j < i) := by
          intro he j ρ' hj hej
          rcases Nat.lt_trichotomy j i with hlt | heq | hgt
          · rcases fits j i ρ' ρ hlt hj hρ with q | q
            · rw [before j q]; simp [hlt]
            · cases h1 : ρ.kind <;> cases h2 : ρ'.kind <;> rw [h1] at q he <;> rw [h2] at q hej <;> simp [isEff, kindsFit] at he hej q
          · subst heq; rw [hSi]; simp
          · rcases fits i j ρ ρ' hgt hρ hj with q | q
            · rw [after j q]; simp; omega
            · cases h1 : ρ.kind <;> cases h2 : ρ'.kind <;> rw [h1] at q he <;> rw [h2] at q hej <;> simp [isEff, kindsFit] at he hej q
        -- the new environment
        have henv : Alike (putE o.dst ρ.val (st (SS l)).env) (st (SS (l.setIfInBounds i true))).env := by
          intro t
          rw [look_putE]
          by_cases hd : o.dst = some t
          · rw [if_pos hd]
            symm
            refine envS_last _ _ _ i o ρ _ ho hρ hd (by rw [Nat.zero_add, hS', if_pos rfl]) fun j o' hj ho' hd' => ?_
            rw [Nat.zero_add, hS', if_neg (by omega)]
            rcases apart i j o o' hj ho ho' with q | q
            · exact after j q
            · exact absurd hd' (q.ne t hd)
          · rw [if_neg hd]
            refine envS_congr _ _ _ _ _ rfl fun j o' hj hd' => ?_
            rw [Nat.zero_add, hS', if_neg]
            rintro rfl
            rw [ho] at hj; cases hj
            exact hd hd'
        have hclosed : Closed ops.toList (SS (l.setIfInBounds i true)) := by
          intro p q hq hp
          rw [hS'] at hq ⊢
          by_cases e : p = i
          · rw [if_pos e]
          · rw [if_neg e]
            by_cases e' : q = i
            · subst e'; exact hpre p hp
            · rw [if_neg e'] at hq; exact hcl p q hq hp
        have hsize : (l.setIfInBounds i true).size = ops.size := by simpa using hsz
        have hpure : isEff ρ.kind = false → (st (SS (l.setIfInBounds i true))).heap = (st (SS l)).heap := by
          intro he
          refine heapS_congr _ _ _ fun j ρ' hj hej => ?_
          rw [Nat.zero_add, hS', if_neg]
          rintro rfl
          rw [hρ] at hj; cases hj
          rw [he] at hej; cases hej
        have hdst : ∀ t, t ∈ dsOf o.dst → t ∈ dstsOps ops.toList := fun t ht => mem_dstsOps ho ht
        have done : ∀ {v : Value} {w2 : World} {Fz2 : Nat → Prop} {ι2 : Nat → Loc}, Step G.E X w' w2 Fz' Fz2 ι' ι2 (st (SS l)).heap (st (SS (l.setIfInBounds i true))).heap → PRep G.E w2 Fz2 ι2 (st (SS (l.setIfInBounds i true))).heap ρ.val v →
            Inv (l.setIfInBounds i true) (a'.put o.dst v) w2 := by
          intro v w2 Fz2 ι2 hs hp
          have hput : V.put N o.dst ρ.val (st (SS l)).env = some (putE o.dst ρ.val (st (SS l)).env) := by
            cases hd : o.dst with
            | none => rfl
            | some d => simp only [V.put, blt_iff.2 (hN d hd), putE]
          obtain ⟨e1, e2⟩ := EnvRep.put (N := N) (hgo.env.mono hs.keep) hp hput hgo.size
          refine ⟨hsize, hclosed, Fz2, ι2, hgo.step.trans hs, fun t => ?_, by rw [put_size]; exact hgo.size, by rw [put_defers]; exact hgo.defers, fun t ht => ?_⟩
          · rw [← henv t]; exact e1 t
          · rw [e2 t fun e => ht (hdst t e)]; exact hgo.stay t ht
        have ho' : ops[i]? = some o := by rw [getL_eq] at ho; simpa using ho
        unfold wpOp
        rw [ho']
        simp only
        rw [wanted_guard hgd hgo.env]
        cases hr : ρ.run with
        | false =>
          obtain ⟨q1, q2, q3⟩ := hskip hr
          simp only [Bool.false_eq_true, if_false]
          have hp := hpure (by rw [q3]; rfl)
          refine done (v := undef) (Fz2 := Fz') (ι2 := ι') ?_ ?_
          · rw [hp]; exact .refl hgo.step.heap hgo.step.fram
          · rw [q1]; simp only [PRep]; exact ⟨#[], rfl, by simp [PReps]⟩
        | true =>
          simp only [if_true]
          refine .inl ?_
          obtain ⟨hkind, hvop⟩ := hrun hr
          have hv : vop G rec ann o (st (SS l)) PK = some (ρ.val, (st (SS (l.setIfInBounds i true))).heap) := by
            have e0 : vop G rec ann o (st (SS l)) PK = vop G rec ann o ⟨σi.env, (st (SS l)).heap⟩ PK := vop_env _ hev
            rw [e0]
            cases hkd : ρ.kind with
            | pure F =>
              rw [hpure (by rw [hkd]; rfl)]
              rw [hkd] at hkind
              refine (vop_pure (rec := rec) hkind ρ.val ρ.heap hvop).2 _ fun id hid => ?_
              rw [hhi]
              refine hlex.foot 0 _ _ rfl (fun _ => rfl) (fun _ => rfl) hinit (fun i' j' ρ1 ρ2 _ _ _ _ hij hj => by simp at hj ⊢; omega) fun j ρ' T n hj hkj hne => ?_
              rw [Nat.zero_add] at hne
              rcases Nat.lt_trichotomy j i with hlt | heq | hgt
              · rcases fits j i ρ' ρ hlt hj hρ with q | q
                · rw [before j q] at hne; simp [hlt] at hne
                · rw [hkj, hkd] at q; exact footOk_spec q id hid
              · subst heq; rw [hρ] at hj; cases hj; rw [hkd] at hkj; cases hkj
              · rcases fits i j ρ ρ' hgt hρ hj with q | q
                · rw [after j q] at hne; simp at hne; omega
                · rw [hkj, hkd] at q; exact footOk_spec q id hid
            | eff T n =>
              have he : isEff ρ.kind = true := by rw [hkd]; rfl
              have e1 : (st (SS l)).heap = σi.heap := by
                rw [hhi]
                exact heapS_congr _ _ _ fun j ρ' hj hej => by rw [Nat.zero_add]; exact heff he j ρ' hj hej
              have e2 : (st (SS (l.setIfInBounds i true))).heap = ρ.heap := by
                rw [hnext]
                refine heapS_congr _ _ _ fun j ρ' hj hej => ?_
                rw [Nat.zero_add, hS']
                by_cases e : j = i
                · subst e; simp
                · rw [if_neg e, heff he j ρ' hj hej]
                  simp; omega
              rw [e1, e2]
              exact hvop
          refine vop_sound ok hrec hv hgo.at_ fun p H' v w2 Fz2 ι2 hK hs hp => ?_
          cases hK
          exact done hs hp
      have all : ∀ (md : Region.Mode), topoOk ops.toList md = true → ∀ (fuel : Nat) (l : Array Bool) (a' : Act) (w' : World), ((List.range ops.size).filter fun i => !l.getD i true).length ≤ fuel → Inv l a' w' → wpAny G.P md ops Q fuel l a' w' := by
        intro md htopo
        have fin : ∀ (l : Array Bool) (a' : Act) (w' : World), Inv l a' w' → Region.ready md ops l = [] → Q .normal a' w' := by
          intro l a' w' ⟨hsz, hcl, Fz', ι', hgo⟩ hr
          have hallS := topo_spec hsz hr htopo (fun j hj => by simp at hj)
          obtain ⟨e1, e2⟩ := hlex.end_ 0 (S := SS l) fun i hi => by rw [Nat.zero_add]; exact hallS i (by simpa using hi)
          refine hQ σk a' w' Fz' ι' hk ⟨?_, fun t => ?_, hgo.size, hgo.defers, hgo.stay⟩
          · rw [hheap, e2]; exact hgo.step
          · rw [halike t, hheap, e1, e2]; exact hgo.env t
        intro fuel
        induction fuel with
        | zero =>
          intro l a' w' hc hI
          have hr : Region.ready md ops l = [] := by
            cases hr : Region.ready md ops l with
            | nil => rfl
            | cons i rs =>
              have hi : i ∈ Region.ready md ops l := by rw [hr]; exact List.mem_cons_self ..
              obtain ⟨h1, h2, _⟩ := mem_ready.1 hi
              have : i ∈ (List.range ops.size).filter fun i => !l.getD i true := List.mem_filter.2 ⟨List.mem_range.2 h1, by rw [h2]; rfl⟩
              have := List.length_pos_of_mem this
              omega
          exact ⟨hr, fin l a' w' hI hr⟩
        | succ fuel ih =>
          intro l a' w' hc hI
          refine ⟨fin l a' w' hI, fun i hi => wpOp_mono (fun a2 w2 h2 => ih _ a2 w2 ?_ h2) (step md l a' w' i hI hi)⟩
          obtain ⟨h1, h2, _⟩ := mem_ready.1 hi
          have hisz : i < l.size := by rw [hI.1]; exact h1
          have := filter_lt (l := List.range ops.size) (p := fun i => !l.getD i true) (q := fun j => !(l.setIfInBounds i true).getD j true) (fun x hx => by
            rw [Array.getD_eq_getD_getElem?, Array.getElem?_setIfInBounds] at hx
            rw [Array.getD_eq_getD_getElem?]
            by_cases e : i = x
            · subst e; simp [hisz] at hx
            · rw [if_neg e] at hx; exact hx) ⟨i, List.mem_range.2 h1, by rw [h2]; rfl, by
            rw [Array.getD_eq_getD_getElem?, Array.getElem?_setIfInBounds, if_pos rfl, if_pos hisz]; rfl⟩
          omega
      have hfalse : ∀ i, SS (Array.replicate ops.size false) i = false := by
        intro i
        show (Array.replicate ops.size false).getD i false = false
        rw [Array.getD_eq_getD_getElem?, Array.getElem?_replicate]
        split <;> rfl
      have h0 : Inv (Array.replicate ops.size false) a { w with drawn := w.drawn + 1 } := by
        refine ⟨by simp, (fun i j hj _ => by rw [hfalse] at hj; cases hj), Fz, ι, ?_⟩
        have e1 : st (SS (Array.replicate ops.size false)) = σ := by
          have ef : SS (Array.replicate ops.size false) = fun _ => false := funext hfalse
          rw [ef]
          have nE : ∀ (l : List Oper) (recs : List (DRec G.E.T)) (k : Nat) (e : List (Nat × PV G.E.T)), envS (fun _ => false) k l recs e = e := by
            intro l
            induction l with
            | nil => intro recs k e; cases recs <;> rfl
            | cons o l ih =>
              intro recs k e
              cases recs with
              | nil => rfl
              | cons ρ recs => simp only [envS, Bool.false_eq_true, if_false]; exact ih recs (k + 1) e
          have nH : ∀ (recs : List (DRec G.E.T)) (k : Nat) (e : List (Blk G.E.T)), heapS (fun _ => false) k recs e = e := by
            intro recs
            induction recs with
            | nil => intro k e; rfl
            | cons ρ recs ih => intro k e; simp only [heapS, Bool.false_and, Bool.false_eq_true, if_false]; exact ih (k + 1) e
          show (⟨envS _ 0 _ _ _, heapS _ 0 _ _⟩ : St G.E.T) = σ
          rw [nE, nH]
        rw [e1]
        have hs := Step.drawn hAt.heap hAt.fram
        exact ⟨hs, hAt.env.mono hs.keep, hAt.size, hAt.defers, fun _ _ => rfl⟩
      refine wp_region_draw fun t => ?_
      have go : ∀ md, topoOk ops.toList md = true → ∀ t, wpOps G.P ops Q (Region.linearise md ops t) a { w with drawn := w.drawn + 1 } := fun md hmd t =>
        wpAny_sound ops.size t _ a _ (all md hmd ops.size _ a _ (by
          have := List.length_filter_le (fun i => !(Array.replicate ops.size false).getD i true) (List.range ops.size)
          simpa using this) h0)
      unfold Region.schedule
      split
      · exact go .any hany t
      · split
        · exact go .text ht _
        · exact go .gc hg _
    · cases h
  · cases h
end
end Go.Proofs.Ytjabpjkomgakbaa.V
