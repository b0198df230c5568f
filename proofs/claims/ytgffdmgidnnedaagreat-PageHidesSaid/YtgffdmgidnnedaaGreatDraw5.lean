/- A region whose order is drawn: sound. -/
import Derived.Test.YtgffdmgidnnedaaGreatDraw4
namespace Go.Proofs.YtgffdmgidnnedaaGreat.V
open Go
set_option linter.unusedVariables false
set_option linter.unusedSimpArgs false
section
variable {G : Prg} {R : Type} {r : R} {X : Ctx} {N : Nat} {ro : Option Nat}
/-! ### Each order comes to an end -/
theorem mem_ready {md : Region.Mode} {ops : Array Oper} {listed : Array Bool} {i : Nat} : i ∈ Region.ready md ops listed ↔ i < ops.size ∧ listed.getD i true = false ∧ ∃ o, getL ops.toList i = some o ∧ ∀ e, e ∈ o.after.toList → Region.binds md e = true → listed.getD e.on false = true := by
 unfold Region.ready
 rw [List.mem_filter, List.mem_range]
 constructor
 ·rintro ⟨h1, h2⟩
  rw [Bool.and_eq_true] at h2
  obtain ⟨h2, h3⟩ := h2
  refine ⟨h1, by simpa using h2, ops[i], by rw [getL_eq]; simp [h1], fun e he hb => ?_⟩
  simp only [Array.getElem?_eq_getElem h1, Option.map_some, Option.getD_some] at h3
  rw [← Array.all_toList, List.all_eq_true] at h3
  have := h3 e he
  simpa [hb] using this
 ·rintro ⟨h1, h2, o, h3, h4⟩
  refine ⟨h1, ?_⟩
  rw [getL_eq] at h3
  have h3' : ops[i]? = some o := by simpa using h3
  rw [h3']
  simp only [h2, Option.map_some, Option.getD_some, Bool.not_false, Bool.true_and]
  rw [← Array.all_toList, List.all_eq_true]
  intro e he
  cases hb : Region.binds md e with
  | false => simp
  | true => simp [h4 e he hb]
theorem edgesIn_spec {md : Region.Mode} {m : Nat} : ∀ {l : List Edge}, edgesIn md m l = true → ∀ e ∈ l, Region.binds md e = true → Nat.testBit m e.on = true
 | [], _, e, h, _ => by simp at h
 | x :: l, h, e, he, hb => by
  simp only [edgesIn] at h
  split at h
  ·split at h
   ·rename_i h1
    rcases List.mem_cons.1 he with rfl | he
    ·exact h1
    ·exact edgesIn_spec h e he hb
   ·cases h
  ·rename_i h1
   rcases List.mem_cons.1 he with rfl | he
   ·rw [hb] at h1; cases h1
   ·exact edgesIn_spec h e he hb
theorem passMask_spec {md : Region.Mode} {ops : Array Oper} {listed : Array Bool} (hsz : listed.size = ops.size) (hr : Region.ready md ops listed = []) : ∀ (l : List Oper) (i m : Nat), (∀ j o, getL l j = some o → getL ops.toList (i + j) = some o) →
  (∀ j, Nat.testBit m j = true → listed.getD j false = true) → ∀ j, Nat.testBit (passMask md l i m) j = true → listed.getD j false = true
 | [], i, m, _, hm, j, h => hm j h
 | o :: l, i, m, hl, hm, j, h => by
  have hl' : ∀ j o', getL l j = some o' → getL ops.toList (i + 1 + j) = some o' := fun j o' hj => by have := hl (j + 1) o' hj; rwa [show i + (j + 1) = i + 1 + j by omega] at this
  simp only [passMask] at h
  split at h
  ·rename_i he
   refine passMask_spec hsz hr l (i + 1) _ hl' (fun j hj => ?_) j h
   rw [Nat.testBit_or, Nat.testBit_two_pow, Bool.or_eq_true] at hj
   rcases hj with hj | hj
   ·exact hm j hj
   ·have : i = j := by simpa using hj
    subst this
    have ho : getL ops.toList i = some o := by simpa using hl 0 o rfl
    have hi : i < ops.size := by simpa using getL_lt ho
    cases hli : listed.getD i false with
    | true => rfl
    | false =>
     exfalso
     have : i ∈ Region.ready md ops listed := mem_ready.2 ⟨hi, by
      rw [Array.getD_eq_getD_getElem?] at hli ⊢
      rw [Array.getElem?_eq_getElem (by omega)] at hli ⊢
      exact hli, o, ho, fun e he' hb => hm _ (edgesIn_spec he e he' hb)⟩
     rw [hr] at this
     simp at this
  ·exact passMask_spec hsz hr l (i + 1) _ hl' hm j h
theorem allBits_spec : ∀ {n m : Nat}, allBits n m = true → ∀ i, i < n → Nat.testBit m i = true
 | 0, _, _, i, h => by omega
 | n + 1, m, h, i, hi => by
  simp only [allBits] at h
  split at h
  ·rename_i h1
   by_cases e : i = n
   ·subst e; exact h1
   ·exact allBits_spec h i (by omega)
  ·cases h
theorem topo_spec {md : Region.Mode} {ops : Array Oper} {listed : Array Bool} (hsz : listed.size = ops.size) (hr : Region.ready md ops listed = []) : ∀ {f m : Nat}, topoFrom md ops.toList f m = true →
  (∀ j, Nat.testBit m j = true → listed.getD j false = true) → ∀ i, i < ops.size → listed.getD i false = true
 | 0, m, h, hm, i, hi => hm i (allBits_spec h i (by simpa using hi))
 | f + 1, m, h, hm, i, hi => by
  simp only [topoFrom] at h
  split at h
  ·rename_i h1
   exact hm i (allBits_spec h1 i (by simpa using hi))
  ·exact topo_spec hsz hr h (passMask_spec hsz hr _ _ _ (fun j o hj => by simpa using hj) hm) i hi
theorem filter_lt {α : Type} {p q : α → Bool} : ∀ {l : List α}, (∀ x, q x = true → p x = true) → (∃ x ∈ l, p x = true ∧ q x = false) → (l.filter q).length < (l.filter p).length
 | [], _, ⟨x, hx, _⟩ => by simp at hx
 | a :: l, h, ⟨x, hx, h1, h2⟩ => by
  have le : ∀ l : List α, (l.filter q).length ≤ (l.filter p).length := by
   intro l
   induction l with
   | nil => simp
   | cons b l ih =>
    rw [List.filter_cons, List.filter_cons]
    cases hq : q b with
    | true => simp [h b hq, ih]
    | false =>
     cases p b <;> simp <;> omega
  rw [List.filter_cons, List.filter_cons]
  rcases List.mem_cons.1 hx with rfl | hx
  ·rw [h1, h2]
   simp only [Bool.false_eq_true, if_false, if_true, List.length_cons]
   have := le l
   omega
  ·have := filter_lt (l := l) h ⟨x, hx, h1, h2⟩
   cases hq : q a with
   | true => simp [h a hq, this]
   | false => cases p a <;> simp <;> omega
/-! ### The world when an order has been drawn -/
theorem HRep.drawn {E : Env} {w : World} {Fz : Nat → Prop} {ι : Nat → Loc} {H : List (Blk E.T)} (h : HRep E w Fz ι H) : HRep E { w with drawn := w.drawn + 1 } Fz ι H := by
 have K : Keep E w { w with drawn := w.drawn + 1 } Fz Fz ι ι H H := ⟨fun _ h => h, fun _ _ => rfl, .refl ι H⟩
 exact ⟨fun id b hb => BRep.keep K (h.rep id b hb) rfl fun _ _ => rfl, h.apart, h.free, h.held, h.fz⟩
theorem Step.drawn {w : World} {Fz : Nat → Prop} {ι : Nat → Loc} {H : List (Blk G.E.T)} (h : HRep G.E w Fz ι H) (f : Fram G.E X w Fz ι H) : Step G.E X w { w with drawn := w.drawn + 1 } Fz Fz ι ι H H :=
 ⟨⟨fun _ h => h, fun _ _ => rfl, .refl ι H⟩, fun _ _ hb _ => ⟨hb, rfl, fun _ _ => rfl⟩, h.drawn, ⟨f.os, f.tape, f.output, f.size, f.block, f.own, f.fz⟩, fun _ h => ⟨rfl, h⟩⟩
/-! ### One operation, in whatever order -/
theorem wanted_guard {w : World} {Fz : Nat → Prop} {ι : Nat → Loc} {H : List (Blk G.E.T)} {ops : Array Oper} {env : List (Nat × PV G.E.T)} {o : Oper} {b : Bool} (h : guardB ops.toList env o = some b) {a : Act} (hE : EnvRep G.E w Fz ι H env a) :
  Region.wanted o (yielded ops a.tmps) = b := by
 unfold guardB at h
 unfold Region.wanted
 split at h
 ·rename_i e; rw [e]; cases h; rfl
 ·rename_i j want e
  rw [e]
  simp only
  split at h
  ·cases h
  ·rename_i g hg
   have hy := yielded_eq (tmps := a.tmps) hg
   have hgr := hE g
   split at h
   ·rename_i c hc
    cases h
    rw [hc] at hgr
    simp only [PRep] at hgr
    generalize hgv : a.tmps.getD g undef = gv at hgr hy
    cases hgr
    simp only at hy
    rw [hy]
    cases c <;> cases want <;> rfl
   ·rename_i l hl
    rw [hl] at hgr
    simp only [PRep] at hgr
    obtain ⟨cs, hcs, _⟩ := hgr
    rw [hcs] at hy
    simp only at hy
    rw [hy]
    split at h
    ·cases h; rfl
    ·cases h
   ·cases h
theorem opTmps_mem : ∀ {l : List Operand} {t : Nat}, Operand.tmp t ∈ l → t ∈ opTmps l
 | [], t, h => by simp at h
 | x :: l, t, h => by
  rcases List.mem_cons.1 h with rfl | h
  ·simp [opTmps]
  ·have := opTmps_mem h
   cases x <;> simp [opTmps, this]
theorem eval_of_looks {T : Nat → Type} {ops : List Oper} {o : Oper} {e e' : List (Nat × PV T)} (h : ∀ t, t ∈ looksOf ops o → look t e = look t e') : ∀ x, x ∈ opersOf o.op → eval e x = eval e' x := by
 intro x hx
 cases x with
 | tmp t =>
  refine h t ?_
  unfold looksOf
  split
  ·exact opTmps_mem hx
  ·split
   ·exact List.mem_cons_of_mem _ (opTmps_mem hx)
   ·exact opTmps_mem hx
 | const v => rfl
 | global g => rfl
 | func f => rfl
theorem guard_of_looks {T : Nat → Type} {ops : List Oper} {o : Oper} {e e' : List (Nat × PV T)} (h : ∀ t, t ∈ looksOf ops o → look t e = look t e') : guardB ops e o = guardB ops e' o := by
 unfold guardB
 split
 ·rfl
 ·rename_i j want hg
  split
  ·rfl
  ·rename_i g hg'
   rw [h g (by unfold looksOf; rw [hg]; simp only; rw [hg']; simp)]
theorem mem_dstsOps : ∀ {l : List Oper} {i : Nat} {o : Oper} {t : Nat}, getL l i = some o → t ∈ dsOf o.dst → t ∈ dstsOps l
 | [], i, o, t, h, _ => by simp [getL] at h
 | q :: l, 0, o, t, h, ht => by
  simp only [getL, Option.some.injEq] at h
  subst h
  simp only [dstsOps]
  cases hd : q.dst with
  | none => rw [hd] at ht; simp [dsOf] at ht
  | some d => rw [hd] at ht; simp only [dsOf, List.mem_singleton] at ht; subst ht; exact List.mem_cons_self ..
 | q :: l, i + 1, o, t, h, ht => by
  simp only [getL] at h
  have := mem_dstsOps h ht
  simp only [dstsOps]
  cases q.dst with
  | none => exact this
  | some d => exact List.mem_cons_of_mem _ this
/-! ### What unordered operations leave each other -/
theorem fit_pure {κ : Kind} {F : List Nat} (h : kindsFit κ (.pure F) = true ∨ kindsFit (.pure F) κ = true) {id : Nat} (hid : id ∈ F) : writesB κ id = false := by
 cases κ with
 | pure F' => rfl
 | eff T n =>
  have := footOk_spec (h.elim (fun e => e) fun e => e) id hid
  simp only [writesB, decide_eq_false_iff_not, not_or]
  exact ⟨this.2, by omega⟩
 | effp F' T n =>
  have := footOk_spec (h.elim (fun e => e) fun e => e) id hid
  simp only [writesB, decide_eq_false_iff_not, not_or]
  exact ⟨this.2, by omega⟩
 | slot s =>
  have : memN s F = false := by
   cases hm : memN s F with
   | false => rfl
   | true => rcases h with h | h <;> simp [kindsFit, hm] at h
  simp only [writesB, decide_eq_false_iff_not]
  rintro rfl
  rw [memN_iff.2 hid] at this; cases this
theorem fit_eff {κ : Kind} {T : List Nat} {n : Nat} (h : kindsFit κ (.eff T n) = true ∨ kindsFit (.eff T n) κ = true) {id : Nat} : writesB κ id = false := by
 cases κ with
 | pure F' => rfl
 | _ => rcases h with h | h <;> simp [kindsFit] at h
theorem fit_effp {κ : Kind} {F T : List Nat} {n : Nat} (h : kindsFit κ (.effp F T n) = true ∨ kindsFit (.effp F T n) κ = true) :
  (∀ id, id ∈ F ∨ id ∈ T ∨ n ≤ id → writesB κ id = false) ∧ (isEff κ = true → ∃ s, κ = .slot s) := by
 cases κ with
 | pure F' => exact ⟨fun _ _ => rfl, fun e => by cases e⟩
 | slot s =>
  refine ⟨fun id hid => ?_, fun _ => ⟨s, rfl⟩⟩
  have : memN s F = false ∧ footOk T n [s] = true := by
   rcases h with h | h <;> simp only [kindsFit] at h <;> split at h <;> first | exact ⟨‹_›, ‹_›⟩ | cases h
  obtain ⟨h1, h2⟩ := this
  have h3 := footOk_spec h2 s (by simp)
  simp only [writesB, decide_eq_false_iff_not]
  rintro rfl
  rcases hid with q | q | q
  ·rw [memN_iff.2 q] at h1; cases h1
  ·exact h3.2 q
  ·omega
 | _ => rcases h with h | h <;> simp [kindsFit] at h
theorem fit_slot {κ : Kind} {s : Nat} (h : kindsFit κ (.slot s) = true ∨ kindsFit (.slot s) κ = true) : writesB κ s = false := by
 cases κ with
 | pure F' => rfl
 | slot s' =>
  simp only [writesB, decide_eq_false_iff_not]
  rintro rfl
  rcases h with h | h <;> simp [kindsFit] at h
 | effp F T n =>
  have : footOk T n [s] = true := by
   rcases h with h | h <;> simp only [kindsFit] at h <;> split at h <;> first | (rename_i _ _ e1 e2; exact e2) | cases h
  have h3 := footOk_spec this s (by simp)
  simp only [writesB, decide_eq_false_iff_not, not_or]
  exact ⟨h3.2, by omega⟩
 | eff T n => rcases h with h | h <;> simp [kindsFit] at h
theorem getL_ext {α : Type} {l m : List α} (h : getL l = getL m) : l = m := by
 apply List.ext_getElem?
 intro i
 rw [← getL_eq, ← getL_eq, h]
theorem getL_isSome {α : Type} {l : List α} {i : Nat} : (getL l i).isSome = decide (i < l.length) := by
 rw [getL_eq]
 by_cases h : i < l.length
 ·rw [List.getElem?_eq_getElem h]; simp [h]
 ·rw [List.getElem?_eq_none (by omega)]; simp [h]
theorem length_of_some {α : Type} {l m : List α} (h : ∀ i, (getL l i).isSome = (getL m i).isSome) : l.length = m.length := by
 rcases Nat.lt_trichotomy l.length m.length with h1 | h1 | h1
 ·have := h l.length; rw [getL_isSome, getL_isSome] at this; simp [h1] at this
 ·exact h1
 ·have := h m.length; rw [getL_isSome, getL_isSome] at this; simp [h1] at this
/-- places are kept -/
theorem Step.pad {w : World} {Fz : Nat → Prop} : ∀ (m : Nat) {ι : Nat → Loc} {H : List (Blk G.E.T)}, HRep G.E w Fz ι H → Fram G.E X w Fz ι H → ∃ ι', Step G.E X w w Fz Fz ι ι' H (H ++ padB m)
 | 0, ι, H, hH, hF => ⟨ι, by simp only [padB, List.append_nil]; exact .refl hH hF⟩
 | m + 1, ι, H, hH, hF => by
  have s1 : Step G.E X w w Fz Fz ι (updι ι H.length ⟨none, 0⟩) H (H ++ [.ints .own .u8 0 []]) := by
   refine Step.new hH hF _ _ rfl rfl rfl (Nat.le_refl _) (fun _ _ => rfl) (fun A' h => by cases h) rfl fun KK => ?_
   simp only [BRep]
   rw [updι_same]
   exact ⟨by simp [RowAt], by simp, by simp⟩
  obtain ⟨ι', s2⟩ := Step.pad m s1.heap s1.fram
  refine ⟨ι', ?_⟩
  have := s1.trans s2
  simpa only [padB, List.append_assoc, List.singleton_append] using this
theorem padB_length {T : Nat → Type} : ∀ m : Nat, (padB (T := T) m).length = m
 | 0 => rfl
 | m + 1 => by simp [padB, padB_length m]
theorem vplain_any (ok : PrgOk G) {rec : Rec G} (hrec : Spec G rec) {ann : Ann} {ops : Array Oper} {σ : St G.E.T} {k : St G.E.T → Option R} {id : Nat} (h : vplain G rec ann id N ops.toList σ k = some r) {a : Act} {w : World} {Fz : Nat → Prop} {ι : Nat → Loc}
  (hAt : At G X N w Fz ι σ a) {Q : Exit → Act → World → Prop} (hQ : ∀ σ' a' w' Fz' ι', k σ' = some r → Goes G X N (dstsOps ops.toList) w Fz ι σ.heap a w' Fz' ι' σ' a' → Q .normal a' w')
  {md : Region.Mode} (hmd : topoOk ops.toList md = true) : wpAnyIn (fence ro) 0 G.P md ops Q ops.size (Array.replicate ops.size false) a { w with drawn := w.drawn + 1 } := by
 have hcase : ∃ anc, ancOf ops.toList [] = some anc ∧ apartAll anc ops.toList 0 ops.toList [] = true ∧
    vdraw G rec ann σ.heap.length (padN ann id) N ops.toList anc 0 ops.toList [] ⟨σ.env, σ.heap ++ padB (padN ann id)⟩ k = some r := by
  unfold vplain at h
  split at h
  ·rename_i anc ea
   split at h
   ·rename_i ep
    exact ⟨anc, ea, ep, h⟩
   ·cases h
  ·cases h
 obtain ⟨anc, hanc, hap, h⟩ := hcase
 obtain ⟨recs, σ', σk, hlex, hk, hheap, halike, hfit⟩ := vdraw_lex h σ.env (.refl _)
 have hA := anc_ok hanc
 have hlen := hlex.len
 have apart : ∀ i j o o', i < j → getL ops.toList i = some o → getL ops.toList j = some o' → ordB anc i j = true ∨ Apart (o.dst, looksOf ops.toList o) (o'.dst, looksOf ops.toList o') := by
  intro i j o o' hij ho ho'
  exact (apartAll_spec (done := []) hap (fun i o hi => by simp [getL] at hi) i j o o' hij (Nat.zero_le _) ho ho').imp (fun x => x) apartT_spec
 have fits : ∀ i j ρ ρ', i < j → getL recs i = some ρ → getL recs j = some ρ' → ordB anc i j = true ∨ kindsFit ρ.kind ρ'.kind = true := by
  intro i j ρ ρ' hij h1 h2
  have e1 := kindsRev_at recs 0 [] i ρ h1
  have e2 := kindsRev_at recs 0 [] j ρ' h2
  rw [Nat.zero_add] at e1 e2
  have := getL_lt h2
  exact kinds_spec hfit _ _ i j ρ.kind ρ'.kind e2 e1 (by omega)
 -- the state behind a set
 let SS : Array Bool → Nat → Bool := fun l i => l.getD i false
 let ev : (Nat → Bool) → List (Nat × PV G.E.T) := fun S => envS S 0 ops.toList recs σ.env
 let bl : (Nat → Bool) → Nat → Option (Blk G.E.T) := fun S => blkS S 0 recs (getL (σ.heap ++ padB (padN ann id)))
 let Inv : Array Bool → Act → World → Prop := fun l a' w' => l.size = ops.size ∧ Closed ops.toList (SS l) ∧ ∃ Fz' ι' HS, getL HS = bl (SS l) ∧ Goes G X N (dstsOps ops.toList) w Fz ι σ.heap a w' Fz' ι' ⟨ev (SS l), HS⟩ a'
 have step : ∀ (md : Region.Mode) (l : Array Bool) (a' : Act) (w' : World) (i : Nat), Inv l a' w' → i ∈ Region.ready md ops l → wpOpIn (fence ro) 0 G.P ops Q i (Inv (l.setIfInBounds i true)) a' w' := by
  intro md l a' w' i ⟨hsz, hcl, Fz', ι', HS, hHS, hgo⟩ hi
  obtain ⟨hi1, hi2, o, ho, hi3⟩ := mem_ready.1 hi
  have hSi : SS l i = false := by
   show l.getD i false = false
   rw [Array.getD_eq_getD_getElem?] at hi2 ⊢
   rw [Array.getElem?_eq_getElem (by omega)] at hi2 ⊢
   exact hi2
  have hpre : ∀ j, Pre ops.toList j i → SS l j = true := by
   rintro j ⟨o', e, q1, q2, q3, rfl⟩
   rw [ho] at q1; cases q1
   refine hi3 e q2 ?_
   unfold Region.binds at q3 ⊢
   cases hgr : e.ground <;> rw [hgr] at q3 <;> simp_all
  have before : ∀ j, ordB anc j i = true → SS l j = true := hA.ready hcl i hpre
  have after : ∀ j, ordB anc i j = true → SS l j = false := by
   intro j hj
   cases hq : SS l j with
   | false => rfl
   | true => have := hA.inS hcl hq hj; rw [hSi] at this; cases this
  have hS' : ∀ j, SS (l.setIfInBounds i true) j = if j = i then true else SS l j := by
   intro j
   show (l.setIfInBounds i true).getD j false = _
   rw [Array.getD_eq_getD_getElem?, Array.getElem?_setIfInBounds]
   by_cases e : i = j
   ·subst e; simp [show i < l.size by omega]
   ·rw [if_neg e, if_neg (Ne.symm e)]
    show _ = l.getD j false
    rw [Array.getD_eq_getD_getElem?]
  obtain ⟨ρ, σi, hρ, hei, hhi, hgi, hN, hrun, hskip, hnext, hbig⟩ := hlex.at_ 0 i o ho
  simp only [Nat.zero_add] at hei hhi hnext
  -- what it looks at
  have hlooks : ∀ t, t ∈ looksOf ops.toList o → look t (ev (SS l)) = look t σi.env := by
   intro t ht
   rw [hei]
   refine envS_congr _ _ _ _ _ rfl fun j o' hj hd => ?_
   simp only [Nat.zero_add]
   rcases Nat.lt_trichotomy j i with hlt | heq | hgt
   ·rcases apart j i o' o hlt hj ho with q | q
    ·rw [before j q]; simp [hlt]
    ·exact absurd ht (q.l t hd)
   ·subst heq; rw [hSi]; simp
   ·rcases apart i j o o' hgt ho hj with q | q
    ·rw [after j q]; simp; omega
    ·exact absurd ht (q.r t hd)
  have hev := eval_of_looks hlooks
  have hgd : guardB ops.toList (ev (SS l)) o = some ρ.run := by rw [guard_of_looks hlooks]; exact hgi
  -- two operations: ordered, or they leave each other alone
  have pair : ∀ j ρ', j ≠ i → getL recs j = some ρ' → SS l j = decide (j < i) ∨ (kindsFit ρ'.kind ρ.kind = true ∨ kindsFit ρ.kind ρ'.kind = true) := by
   intro j ρ' hne hj
   rcases Nat.lt_trichotomy j i with hlt | heq | hgt
   ·rcases fits j i ρ' ρ hlt hj hρ with q | q
    ·exact .inl (by rw [before j q]; simp [hlt])
    ·exact .inr (.inl q)
   ·exact absurd heq hne
   ·rcases fits i j ρ ρ' hgt hρ hj with q | q
    ·exact .inl (by rw [after j q]; simp; omega)
    ·exact .inr (.inr q)
  -- what no unordered operation writes is as in the order written
  have sameAt : ∀ b : Nat, (∀ j ρ', j ≠ i → getL recs j = some ρ' → (kindsFit ρ'.kind ρ.kind = true ∨ kindsFit ρ.kind ρ'.kind = true) → writesB ρ'.kind b = false) → getL HS b = getL σi.heap b := by
   intro b hb
   rw [hHS, hhi]
   refine blkS_congr _ _ _ _ rfl fun j ρ' hj hw => ?_
   rw [Nat.zero_add]
   by_cases hne : j = i
   ·subst hne; rw [hSi]; simp
   ·rcases pair j ρ' hne hj with q | q
    ·exact q
    ·rw [hb j ρ' hne hj q] at hw; cases hw
  have keepAt : ∀ b : Nat, writesB ρ.kind b = false → bl (SS (l.setIfInBounds i true)) b = getL HS b := by
   intro b hb
   rw [hHS]
   refine blkS_congr _ _ _ _ rfl fun j ρ' hj hw => ?_
   rw [Nat.zero_add, hS', if_neg]
   rintro rfl
   rw [hρ] at hj; cases hj
   rw [hb] at hw; cases hw
  have newAt : ∀ b : Nat, (∀ j ρ', j ≠ i → getL recs j = some ρ' → (kindsFit ρ'.kind ρ.kind = true ∨ kindsFit ρ.kind ρ'.kind = true) → writesB ρ'.kind b = false) → bl (SS (l.setIfInBounds i true)) b = getL ρ.heap b := by
   intro b hb
   rw [hnext]
   refine blkS_congr _ _ _ _ rfl fun j ρ' hj hw => ?_
   rw [Nat.zero_add, hS']
   by_cases hne : j = i
   ·subst hne; simp
   ·rw [if_neg hne]
    rcases pair j ρ' hne hj with q | q
    ·rw [q]; simp; omega
    ·rw [hb j ρ' hne hj q] at hw; cases hw
  -- the new environment
  have henv : Alike (putE o.dst ρ.val (ev (SS l))) (ev (SS (l.setIfInBounds i true))) := by
   intro t
   rw [look_putE]
   by_cases hd : o.dst = some t
   ·rw [if_pos hd]
    symm
    refine envS_last _ _ _ i o ρ _ ho hρ hd (by rw [Nat.zero_add, hS', if_pos rfl]) fun j o' hj ho' hd' => ?_
    rw [Nat.zero_add, hS', if_neg (by omega)]
    rcases apart i j o o' hj ho ho' with q | q
    ·exact after j q
    ·exact absurd hd' (q.ne t hd)
   ·rw [if_neg hd]
    refine envS_congr _ _ _ _ _ rfl fun j o' hj hd' => ?_
    rw [Nat.zero_add, hS', if_neg]
    rintro rfl
    rw [ho] at hj; cases hj
    exact hd hd'
  have hclosed : Closed ops.toList (SS (l.setIfInBounds i true)) := by
   intro p q hq hp
   rw [hS'] at hq ⊢
   by_cases e : p = i
   ·rw [if_pos e]
   ·rw [if_neg e]
    by_cases e' : q = i
    ·subst e'; exact hpre p hp
    ·rw [if_neg e'] at hq; exact hcl p q hq hp
  have hsize : (l.setIfInBounds i true).size = ops.size := by simpa using hsz
  have hdst : ∀ t, t ∈ dsOf o.dst → t ∈ dstsOps ops.toList := fun t ht => mem_dstsOps ho ht
  have done : ∀ {v : Value} {w2 : World} {Fz2 : Nat → Prop} {ι2 : Nat → Loc} {H2 : List (Blk G.E.T)}, getL H2 = bl (SS (l.setIfInBounds i true)) → Step G.E X w' w2 Fz' Fz2 ι' ι2 HS H2 → PRep G.E w2 Fz2 ι2 H2 ρ.val v →
    Inv (l.setIfInBounds i true) (a'.put o.dst v) w2 := by
   intro v w2 Fz2 ι2 H2 hH2 hs hp
   have hput : V.put N o.dst ρ.val (ev (SS l)) = some (putE o.dst ρ.val (ev (SS l))) := by
    cases hd : o.dst with
    | none => rfl
    | some d => simp only [V.put, blt_iff.2 (hN d hd), putE]
   obtain ⟨e1, e2⟩ := EnvRep.put (N := N) (hgo.env.mono hs.keep) hp hput hgo.size
   refine ⟨hsize, hclosed, Fz2, ι2, H2, hH2, hgo.step.trans hs, fun t => ?_, by rw [put_size]; exact hgo.size, by rw [put_defers]; exact hgo.defers.step hs, fun t ht => ?_⟩
   ·rw [← henv t]; exact e1 t
   ·rw [e2 t fun e => ht (hdst t e)]; exact hgo.stay t ht
  have ho' : ops[i]? = some o := by rw [getL_eq] at ho; simpa using ho
  unfold wpOpIn
  rw [ho']
  simp only
  rw [wanted_guard hgd hgo.env]
  cases hr : ρ.run with
  | false =>
   obtain ⟨q1, q2, q3⟩ := hskip hr
   simp only [Bool.false_eq_true, if_false]
   refine ⟨fun _ _ => trivial, ?_⟩
   refine done (v := undef) (Fz2 := Fz') (ι2 := ι') (H2 := HS) (funext fun b => (keepAt b (by rw [q3]; rfl)).symm) (.refl hgo.step.heap hgo.step.fram) ?_
   rw [q1]; simp only [PRep]; exact ⟨#[], rfl, by simp [PReps]⟩
  | true =>
   simp only [if_true]
   obtain ⟨hkind, hvop⟩ := hrun hr
   obtain ⟨envi, Hi⟩ := σi
   have hv : ∃ H2, getL H2 = bl (SS (l.setIfInBounds i true)) ∧ vop G rec ann (plOf ann σ.heap.length (padN ann id) o) o ⟨ev (SS l), HS⟩ PK = some (ρ.val, H2) := by
    have e0 : ∀ H, vop G rec ann (plOf ann σ.heap.length (padN ann id) o) o ⟨ev (SS l), H⟩ PK = vop G rec ann (plOf ann σ.heap.length (padN ann id) o) o ⟨envi, H⟩ PK := fun H => vop_env _ hev
    rw [e0]
    cases hkd : ρ.kind with
    | pure F =>
     rw [hkd] at hkind
     refine ⟨HS, funext fun b => (keepAt b (by rw [hkd]; rfl)).symm, (vop_pure (rec := rec) hkind ρ.val ρ.heap hvop).2 _ fun b hb => sameAt b fun j ρ' _ _ q => ?_⟩
     rw [hkd] at q
     exact fit_pure q hb
    | eff T n =>
     have hall : ∀ b j ρ', j ≠ i → getL recs j = some ρ' → (kindsFit ρ'.kind ρ.kind = true ∨ kindsFit ρ.kind ρ'.kind = true) → writesB ρ'.kind b = false := by
      intro b j ρ' _ _ q
      rw [hkd] at q
      exact fit_eff q
     have e1 : HS = Hi := getL_ext (funext fun b => sameAt b (hall b))
     exact ⟨ρ.heap, funext fun b => (newAt b (hall b)).symm, by rw [e1]; exact hvop⟩
    | effp F T n =>
     rw [hkd] at hkind
     have hfe : ∀ j ρ', j ≠ i → getL recs j = some ρ' → (kindsFit ρ'.kind ρ.kind = true ∨ kindsFit ρ.kind ρ'.kind = true) → (∀ b, b ∈ F ∨ b ∈ T ∨ n ≤ b → writesB ρ'.kind b = false) ∧ (isEff ρ'.kind = true → ∃ s, ρ'.kind = .slot s) := by
      intro j ρ' _ _ q
      rw [hkd] at q
      exact fit_effp q
     have hl : HS.length = Hi.length := length_of_some fun b => by
      rw [hHS, hhi]
      refine blkS_some (L := σ.heap.length + padN ann id) recs 0 _ _ (fun _ => rfl) (fun b hb => ?_) (fun j ρ' hj => ?_) (fun j ρ' s hj hs => hlex.slots j ρ' s hj hs) (fun j ρ' hj he => ?_) b
      ·rw [getL_isSome]; simp only [List.length_append, padB_length, decide_eq_true_eq]; exact hb
      ·have hjl := getL_lt hj
       rw [hlen] at hjl
       obtain ⟨oj, hoj⟩ := getL_some_of_lt hjl
       obtain ⟨ρ2, _, q1, _, _, _, _, _, _, _, q9⟩ := hlex.at_ 0 j oj hoj
       rw [hj] at q1; cases q1
       exact q9
      ·rw [Nat.zero_add]
       by_cases hne : j = i
       ·subst hne; rw [hSi]; simp
       ·rcases pair j ρ' hne hj with q | q
        ·exact .inr q
        ·exact .inl ((hfe j ρ' hne hj q).2 he)
     obtain ⟨rfl, _, g⟩ := vop_effp hkind hvop
     obtain ⟨H2, q1, q2⟩ := g HS hl (fun b hb => sameAt b fun j ρ' h1 h2 h3 => (hfe j ρ' h1 h2 h3).1 b (.inl hb)) (fun b hb => sameAt b fun j ρ' h1 h2 h3 => (hfe j ρ' h1 h2 h3).1 b (.inr (.inl hb)))
     refine ⟨H2, funext fun b => ?_, q1⟩
     rw [q2 b]
     split
     ·rename_i hb
      exact (newAt b fun j ρ' h1 h2 h3 => (hfe j ρ' h1 h2 h3).1 b (.inr hb)).symm
     ·rename_i hb
      exact (keepAt b (by rw [hkd]; simpa [writesB] using hb)).symm
    | slot s =>
     rw [hkd] at hkind
     have hfs : ∀ j ρ', j ≠ i → getL recs j = some ρ' → (kindsFit ρ'.kind ρ.kind = true ∨ kindsFit ρ.kind ρ'.kind = true) → writesB ρ'.kind s = false := by
      intro j ρ' _ _ q
      rw [hkd] at q
      exact fit_slot q
     obtain ⟨⟨b0, hb0⟩, b1, e1, g⟩ := vop_slot hkind hvop
     have hs := sameAt s hfs
     refine ⟨setL HS s b1, funext fun b => ?_, g HS hs⟩
     by_cases hb : b = s
     ·subst hb
      rw [newAt b hfs, e1, getL_setL (by rw [hs]; exact hb0), getL_setL hb0]
     ·rw [getL_setL_ne hb]
      exact (keepAt b (by rw [hkd]; simpa [writesB] using hb)).symm
   obtain ⟨H2, hH2, hv⟩ := hv
   refine vop_sound ok hrec hv hgo.at_ fun p H' v w2 Fz2 ι2 hK hs hp => ?_
   cases hK
   exact done hH2 hs hp
 have all : ∀ (md : Region.Mode), topoOk ops.toList md = true → ∀ (fuel : Nat) (l : Array Bool) (a' : Act) (w' : World), ((List.range ops.size).filter fun i => !l.getD i true).length ≤ fuel → Inv l a' w' → wpAnyIn (fence ro) 0 G.P md ops Q fuel l a' w' := by
  intro md htopo
  have fin : ∀ (l : Array Bool) (a' : Act) (w' : World), Inv l a' w' → Region.ready md ops l = [] → Q .normal a' w' := by
   intro l a' w' ⟨hsz, hcl, Fz', ι', HS, hHS, hgo⟩ hr
   have hallS := topo_spec hsz hr htopo (fun j hj => by simp at hj)
   obtain ⟨e1, e2⟩ := hlex.end_ 0 (S := SS l) fun i hi => by rw [Nat.zero_add]; exact hallS i (by simpa using hi)
   have e3 : HS = σk.heap := by rw [hheap]; exact getL_ext (by rw [hHS, e2])
   subst e3
   refine hQ σk a' w' Fz' ι' hk ⟨hgo.step, fun t => ?_, hgo.size, hgo.defers, hgo.stay⟩
   rw [halike t, e1]; exact hgo.env t
  intro fuel
  induction fuel with
  | zero =>
   intro l a' w' hc hI
   have hr : Region.ready md ops l = [] := by
    cases hr : Region.ready md ops l with
    | nil => rfl
    | cons i rs =>
     have hi : i ∈ Region.ready md ops l := by rw [hr]; exact List.mem_cons_self ..
     obtain ⟨h1, h2, _⟩ := mem_ready.1 hi
     have : i ∈ (List.range ops.size).filter fun i => !l.getD i true := List.mem_filter.2 ⟨List.mem_range.2 h1, by rw [h2]; rfl⟩
     have := List.length_pos_of_mem this
     omega
   exact ⟨hr, fin l a' w' hI hr⟩
  | succ fuel ih =>
   intro l a' w' hc hI
   refine ⟨fin l a' w' hI, fun i hi => wpOpIn_mono (fun a2 w2 h2 => ih _ a2 w2 ?_ h2) (step md l a' w' i hI hi)⟩
   obtain ⟨h1, h2, _⟩ := mem_ready.1 hi
   have hisz : i < l.size := by rw [hI.1]; exact h1
   have := filter_lt (l := List.range ops.size) (p := fun i => !l.getD i true) (q := fun j => !(l.setIfInBounds i true).getD j true) (fun x hx => by
    rw [Array.getD_eq_getD_getElem?, Array.getElem?_setIfInBounds] at hx
    rw [Array.getD_eq_getD_getElem?]
    by_cases e : i = x
    ·subst e; simp [hisz] at hx
    ·rw [if_neg e] at hx; exact hx) ⟨i, List.mem_range.2 h1, by rw [h2]; rfl, by
    rw [Array.getD_eq_getD_getElem?, Array.getElem?_setIfInBounds, if_pos rfl, if_pos hisz]; rfl⟩
   omega
 have hfalse : ∀ i, SS (Array.replicate ops.size false) i = false := by
  intro i
  show (Array.replicate ops.size false).getD i false = false
  rw [Array.getD_eq_getD_getElem?, Array.getElem?_replicate]
  split <;> rfl
 have h0 : Inv (Array.replicate ops.size false) a { w with drawn := w.drawn + 1 } := by
  have hs := Step.drawn hAt.heap hAt.fram
  obtain ⟨ι0, hp⟩ := Step.pad (padN ann id) hs.heap hs.fram
  refine ⟨by simp, (fun i j hj _ => by rw [hfalse] at hj; cases hj), Fz, ι0, σ.heap ++ padB (padN ann id), (blkS_none _ _ _ fun i => by rw [hfalse]).symm, ?_⟩
  have e1 : ev (SS (Array.replicate ops.size false)) = σ.env := by
   have ef : SS (Array.replicate ops.size false) = fun _ => false := funext hfalse
   rw [ef]
   have nE : ∀ (l : List Oper) (recs : List (DRec G.E.T)) (k : Nat) (e : List (Nat × PV G.E.T)), envS (fun _ => false) k l recs e = e := by
    intro l
    induction l with
    | nil => intro recs k e; cases recs <;> rfl
    | cons o l ih =>
     intro recs k e
     cases recs with
     | nil => rfl
     | cons ρ recs => simp only [envS, Bool.false_eq_true, if_false]; exact ih recs (k + 1) e
   exact nE _ _ _ _
  rw [e1]
  have ht := hs.trans hp
  exact ⟨ht, hAt.env.mono ht.keep, hAt.size, hAt.defers.step ht, fun _ _ => rfl⟩
 exact all md hmd ops.size _ a _ (by
  have := List.length_filter_le (fun i => !(Array.replicate ops.size false).getD i true) (List.range ops.size)
  simpa using this) h0
/-! ### An order that may be drawn -/
/-- each operation once, each behind those that it must stand behind -/
def Topo (md : Region.Mode) (ops : Array Oper) (L : List Nat) : Prop :=
 (∀ i, i < ops.size ↔ i ∈ L) ∧ ∀ A i B, L = A ++ i :: B → i ∉ A ∧ ∀ o, getL ops.toList i = some o → ∀ e, e ∈ o.after.toList → Region.binds md e = true → e.on ∈ A
theorem go_topo {md : Region.Mode} {ops : Array Oper} (htopo : topoOk ops.toList md = true) : ∀ (fuel t : Nat) (l : Array Bool) (acc : List Nat), l.size = ops.size → (∀ j, l.getD j false = true ↔ j ∈ acc) →
  ((List.range ops.size).filter fun i => !l.getD i true).length ≤ fuel → (∀ j, j ∈ acc → j < ops.size) →
  (∀ A i B, acc.reverse = A ++ i :: B → i ∉ A ∧ ∀ o, getL ops.toList i = some o → ∀ e, e ∈ o.after.toList → Region.binds md e = true → e.on ∈ A) →
  Topo md ops (Region.linearise.go md ops fuel t l acc) := by
 have done : ∀ (l : Array Bool) (acc : List Nat), l.size = ops.size → (∀ j, l.getD j false = true ↔ j ∈ acc) → Region.ready md ops l = [] → (∀ j, j ∈ acc → j < ops.size) →
   (∀ A i B, acc.reverse = A ++ i :: B → i ∉ A ∧ ∀ o, getL ops.toList i = some o → ∀ e, e ∈ o.after.toList → Region.binds md e = true → e.on ∈ A) → Topo md ops acc.reverse := by
  intro l acc hsz hl hr hlt hp
  have hall := topo_spec hsz hr htopo (m := 0) (f := ops.toList.length) (fun j hj => by simp at hj)
  exact ⟨fun i => ⟨fun hi => List.mem_reverse.2 ((hl i).1 (hall i hi)), fun hi => hlt i (List.mem_reverse.1 hi)⟩, hp⟩
 intro fuel
 induction fuel with
 | zero =>
  intro t l acc hsz hl hf hlt hp
  have hr : Region.ready md ops l = [] := by
   cases hr : Region.ready md ops l with
   | nil => rfl
   | cons i rs =>
    have hi : i ∈ Region.ready md ops l := by rw [hr]; exact List.mem_cons_self ..
    obtain ⟨h1, h2, _⟩ := mem_ready.1 hi
    have : i ∈ (List.range ops.size).filter fun i => !l.getD i true := List.mem_filter.2 ⟨List.mem_range.2 h1, by rw [h2]; rfl⟩
    have := List.length_pos_of_mem this
    omega
  simp only [Region.linearise.go]
  exact done l acc hsz hl hr hlt hp
 | succ fuel ih =>
  intro t l acc hsz hl hf hlt hp
  simp only [Region.linearise.go]
  change Topo md ops (match (Region.ready md ops l)[t % (Region.ready md ops l).length]? with
   | some i => Region.linearise.go md ops fuel (t / (Region.ready md ops l).length) (l.setIfInBounds i true) (i :: acc)
   | none => acc.reverse)
  cases hi : (Region.ready md ops l)[t % (Region.ready md ops l).length]? with
  | none =>
   have hnil : Region.ready md ops l = [] := by
    cases hr : Region.ready md ops l with
    | nil => rfl
    | cons x xs =>
     rw [hr] at hi
     have hlt : t % (x :: xs).length < (x :: xs).length := Nat.mod_lt _ (by simp)
     simp at hi
     simp at hlt
     omega
   exact done l acc hsz hl hnil hlt hp
  | some i =>
   simp only []
   obtain ⟨h1, h2, o, h3, h4⟩ := mem_ready.1 (List.mem_of_getElem? hi)
   have hisz : i < l.size := by omega
   have h2' : l.getD i false = false := by
    rw [Array.getD_eq_getD_getElem?] at h2 ⊢
    rw [Array.getElem?_eq_getElem hisz] at h2 ⊢
    exact h2
   have hni : i ∉ acc := fun hm => by rw [(hl i).2 hm] at h2'; cases h2'
   refine ih _ _ _ (by simpa using hsz) (fun j => ?_) ?_ (fun j hj => ?_) ?_
   ·rw [Array.getD_eq_getD_getElem?, Array.getElem?_setIfInBounds, List.mem_cons]
    by_cases e : i = j
    ·subst e; simp [hisz]
    ·rw [if_neg e, ← Array.getD_eq_getD_getElem?, hl]
     exact ⟨.inr, fun q => q.elim (fun q => absurd q.symm e) fun q => q⟩
   ·have := filter_lt (l := List.range ops.size) (p := fun i => !l.getD i true) (q := fun j => !(l.setIfInBounds i true).getD j true) (fun x hx => by
     rw [Array.getD_eq_getD_getElem?, Array.getElem?_setIfInBounds] at hx
     rw [Array.getD_eq_getD_getElem?]
     by_cases e : i = x
     ·subst e; simp [hisz] at hx
     ·rw [if_neg e] at hx; exact hx) ⟨i, List.mem_range.2 h1, by rw [h2]; rfl, by
     rw [Array.getD_eq_getD_getElem?, Array.getElem?_setIfInBounds, if_pos rfl, if_pos hisz]; rfl⟩
    omega
   ·rcases List.mem_cons.1 hj with rfl | hj
    ·exact h1
    ·exact hlt j hj
   ·intro A x B hAB
    rw [List.reverse_cons] at hAB
    rcases List.append_eq_append_iff.1 hAB with ⟨C, hC1, hC2⟩ | ⟨C, hC1, hC2⟩
    ·-- the last one
     cases C with
     | nil =>
      simp only [List.nil_append, List.cons.injEq] at hC2
      obtain ⟨rfl, rfl⟩ := hC2
      rw [List.append_nil] at hC1
      subst hC1
      refine ⟨fun hm => hni (List.mem_reverse.1 hm), fun o' ho' e he hb => ?_⟩
      rw [h3] at ho'; cases ho'
      exact List.mem_reverse.2 ((hl _).1 (h4 e he hb))
     | cons c C => simp at hC2
    ·cases C with
     | nil =>
      simp only [List.nil_append, List.cons.injEq] at hC2
      obtain ⟨rfl, rfl⟩ := hC2
      rw [List.append_nil] at hC1
      subst hC1
      refine ⟨fun hm => hni (List.mem_reverse.1 hm), fun o' ho' e he hb => ?_⟩
      rw [h3] at ho'; cases ho'
      exact List.mem_reverse.2 ((hl _).1 (h4 e he hb))
     | cons c C =>
      simp only [List.cons_append, List.cons.injEq] at hC2
      obtain ⟨rfl, _⟩ := hC2
      exact hp A x C hC1
theorem lin_topo {md : Region.Mode} {ops : Array Oper} (htopo : topoOk ops.toList md = true) (t : Nat) : Topo md ops (Region.linearise md ops t) := by
 have hfalse : ∀ i, (Array.replicate ops.size false).getD i false = false := by
  intro i
  rw [Array.getD_eq_getD_getElem?, Array.getElem?_replicate]
  split <;> rfl
 refine go_topo htopo ops.size t _ [] (by simp) (fun j => by rw [hfalse]; simp) ?_ (fun j hj => by simp at hj) (fun A i B h => by simp at h)
 have := List.length_filter_le (fun i => !(Array.replicate ops.size false).getD i true) (List.range ops.size)
 simpa using this
theorem go_length {md : Region.Mode} {ops : Array Oper} : ∀ (fuel t : Nat) (l : Array Bool) (acc : List Nat), (Region.linearise.go md ops fuel t l acc).length ≤ fuel + acc.length := by
 intro fuel
 induction fuel with
 | zero => intro t l acc; simp [Region.linearise.go]
 | succ fuel ih =>
  intro t l acc
  simp only [Region.linearise.go]
  split
  ·rename_i i _
   have := ih (t / ((List.range ops.size).filter fun i => !l.getD i true && ((ops[i]?).map (·.after.all fun e => !Region.binds md e || l.getD e.on false)).getD false).length) (l.setIfInBounds i true) (i :: acc)
   simp only [List.length_cons] at this
   omega
  ·simp
theorem Topo.any {md : Region.Mode} {ops : Array Oper} {L : List Nat} (h : Topo md ops L) : Topo .any ops L := by
 refine ⟨h.1, fun A i B hL => ⟨(h.2 A i B hL).1, fun o ho e he hb => (h.2 A i B hL).2 o ho e he ?_⟩⟩
 unfold Region.binds at hb ⊢
 cases hgr : e.ground <;> rw [hgr] at hb <;> simp_all
theorem wpAnyIn_order {F : Fence} {n0 : Nat} {P : Program} {md : Region.Mode} {ops : Array Oper} {Q : Exit → Act → World → Prop} : ∀ (B A : List Nat) (l : Array Bool) (fuel : Nat) (a : Act) (w : World), wpAnyIn F n0 P md ops Q fuel l a w → Topo md ops (A ++ B) →
  l.size = ops.size → (∀ j, l.getD j false = true ↔ j ∈ A) → B.length ≤ fuel → wpOpsIn F n0 P ops Q B a w
 | [], A, l, fuel, a, w, h, hT, hsz, hl, hf => by
  have hr : Region.ready md ops l = [] := by
   cases hr : Region.ready md ops l with
   | nil => rfl
   | cons i rs =>
    have hi : i ∈ Region.ready md ops l := by rw [hr]; exact List.mem_cons_self ..
    obtain ⟨h1, h2, _⟩ := mem_ready.1 hi
    have h3 := (hl i).2 (by simpa using (hT.1 i).1 h1)
    rw [Array.getD_eq_getD_getElem?] at h2 h3
    rw [Array.getElem?_eq_getElem (by omega)] at h2 h3
    simp only [Option.getD_some] at h2 h3
    rw [h2] at h3; cases h3
  simp only [wpOpsIn]
  cases fuel with
  | zero => exact h.2
  | succ n => exact h.1 hr
 | i :: B, A, l, fuel, a, w, h, hT, hsz, hl, hf => by
  obtain ⟨n, rfl⟩ : ∃ n, fuel = n + 1 := ⟨fuel - 1, by simp at hf; omega⟩
  obtain ⟨h1, h2⟩ := hT.2 A i B rfl
  have hi : i < ops.size := (hT.1 i).2 (by simp)
  obtain ⟨o, ho⟩ := getL_some_of_lt (l := ops.toList) (i := i) (by simpa using hi)
  have hli : l.getD i false = false := by
   cases e : l.getD i false with
   | false => rfl
   | true => exact absurd ((hl i).1 e) h1
  have hr : i ∈ Region.ready md ops l := mem_ready.2 ⟨hi, by
   rw [Array.getD_eq_getD_getElem?] at hli ⊢
   rw [Array.getElem?_eq_getElem (by omega)] at hli ⊢
   exact hli, o, ho, fun e he hb => (hl _).2 (h2 o ho e he hb)⟩
  rw [wpOpsIn_cons]
  refine wpOpIn_mono (fun a' w' h' => ?_) (h.2 i hr)
  refine wpAnyIn_order B (A ++ [i]) (l.setIfInBounds i true) n a' w' h' (by simpa using hT) (by simpa using hsz) (fun j => ?_) (by simp at hf; omega)
  rw [Array.getD_eq_getD_getElem?, Array.getElem?_setIfInBounds, List.mem_append, List.mem_singleton]
  by_cases e : i = j
  ·subst e; simp [show i < l.size by omega]
  ·rw [if_neg e, ← Array.getD_eq_getD_getElem?, hl]
   exact ⟨.inl, fun q => q.elim (fun q => q) fun q => absurd q.symm e⟩
/-! ### The operations in another order -/
theorem posN_some {i : Nat} : ∀ {l : List Nat} {q0 q : Nat}, posN i l q0 = some q → ∃ k, q = q0 + k ∧ l[k]? = some i
 | [], q0, q, h => by simp [posN] at h
 | j :: l, q0, q, h => by
  simp only [posN] at h
  split at h
  ·rename_i e
   cases h
   exact ⟨0, rfl, by simp [nat_beq e]⟩
  ·obtain ⟨k, h1, h2⟩ := posN_some h
   exact ⟨k + 1, by omega, by simpa using h2⟩
theorem posN_mem {i : Nat} : ∀ {l : List Nat} {q0 : Nat}, i ∈ l → ∃ q, posN i l q0 = some q
 | j :: l, q0, h => by
  simp only [posN]
  split
  ·exact ⟨_, rfl⟩
  ·rename_i e
   rcases List.mem_cons.1 h with rfl | h
   ·simp at e
   ·exact posN_mem h
theorem nodupN_get : ∀ {l : List Nat} {a b i : Nat}, nodupN l = true → l[a]? = some i → l[b]? = some i → a = b
 | [], a, b, i, _, h, _ => by simp at h
 | x :: l, a, b, i, h, ha, hb => by
  simp only [nodupN] at h
  split at h
  ·cases h
  ·rename_i hx
   have nx : ∀ k, l[k]? = some x → False := fun k hk => by
    rw [memN_iff.2 (List.mem_of_getElem? hk)] at hx; cases hx
   cases a with
   | zero =>
    simp only [List.length_cons, Nat.zero_lt_succ, List.getElem?_eq_getElem, List.getElem_cons_zero, Option.some.injEq] at ha
    subst ha
    cases b with
    | zero => rfl
    | succ b => exact (nx b (by simpa using hb)).elim
   | succ a =>
    cases b with
    | zero =>
     simp only [List.length_cons, Nat.zero_lt_succ, List.getElem?_eq_getElem, List.getElem_cons_zero, Option.some.injEq] at hb
     subst hb
     exact (nx a (by simpa using ha)).elim
    | succ b => exact congrArg (· + 1) (nodupN_get (i := i) h (by simpa using ha) (by simpa using hb))
theorem allIn_spec {L : List Nat} : ∀ {n : Nat}, allIn L n = true → ∀ i, i < n → i ∈ L
 | 0, _, i, h => by omega
 | n + 1, h, i, hi => by
  simp only [allIn] at h
  split at h
  ·rename_i e
   by_cases he : i = n
   ·subst he; exact memN_iff.1 e
   ·exact allIn_spec h i (by omega)
  ·cases h
theorem allLt_spec {n : Nat} : ∀ {l : List Nat}, allLt n l = true → ∀ i, i ∈ l → i < n
 | [], _, i, h => by simp at h
 | x :: l, h, i, hi => by
  simp only [allLt] at h
  split at h
  ·rename_i e
   rcases List.mem_cons.1 hi with rfl | hi
   ·exact blt_iff.1 e
   ·exact allLt_spec h i hi
  ·cases h
theorem reEdges_spec {L : List Nat} : ∀ {es es' : List Edge}, reEdges L es = some es' → ∀ e', e' ∈ es' → ∃ e, e ∈ es ∧ posN e.on L 0 = some e'.on ∧ e'.ground = e.ground
 | [], es', h, e', he => by simp only [reEdges, Option.some.injEq] at h; subst h; simp at he
 | e :: es, es', h, e', he => by
  simp only [reEdges] at h
  split at h
  ·rename_i q r e1 e2
   cases h
   rcases List.mem_cons.1 he with rfl | he
   ·exact ⟨e, List.mem_cons_self .., e1, rfl⟩
   ·obtain ⟨e0, h1, h2, h3⟩ := reEdges_spec e2 e' he
    exact ⟨e0, List.mem_cons_of_mem _ h1, h2, h3⟩
  ·cases h
theorem reOper_spec {L : List Nat} {ch : List (Nat × Nat)} {i : Nat} {o o' : Oper} (h : reOper L ch i o = some o') :
  o.guard = none ∧ (∃ X, o' = { o with after := X }) ∧ ∀ e', e' ∈ o'.after.toList → (∃ e, e ∈ o.after.toList ∧ posN e.on L 0 = some e'.on ∧ e'.ground = e.ground) ∨ ∃ p, lookN i ch = some p ∧ posN p L 0 = some e'.on := by
 unfold reOper at h
 split at h
 ·rename_i es hg hes
  split at h
  ·cases h
   exact ⟨hg, ⟨_, rfl⟩, fun e' he' => .inl (reEdges_spec hes e' (by simpa using he'))⟩
  ·rename_i p hp
   split at h
   ·rename_i q hq
    cases h
    refine ⟨hg, ⟨_, rfl⟩, fun e' he' => ?_⟩
    rcases List.mem_cons.1 (show e' ∈ _ :: es by simpa using he') with rfl | he'
    ·exact .inr ⟨p, hp, hq⟩
    ·exact .inl (reEdges_spec hes e' he')
   ·cases h
 ·cases h
theorem reOps_spec {ops : List Oper} {L : List Nat} {ch : List (Nat × Nat)} : ∀ {l : List Nat} {ops' : List Oper}, reOps ops L ch l = some ops' → ops'.length = l.length ∧ ∀ k i, l[k]? = some i → ∃ o o', getL ops i = some o ∧ reOper L ch i o = some o' ∧ getL ops' k = some o'
 | [], ops', h => by simp only [reOps, Option.some.injEq] at h; subst h; exact ⟨rfl, fun k i hk => by simp at hk⟩
 | x :: l, ops', h => by
  simp only [reOps] at h
  split at h
  ·cases h
  ·rename_i o ho
   split at h
   ·rename_i o' r e1 e2
    cases h
    obtain ⟨h1, h2⟩ := reOps_spec e2
    refine ⟨by simp [h1], fun k i hk => ?_⟩
    cases k with
    | zero =>
     simp only [List.length_cons, Nat.zero_lt_succ, List.getElem?_eq_getElem, List.getElem_cons_zero, Option.some.injEq] at hk
     subst hk
     exact ⟨o, o', ho, e1, rfl⟩
    | succ k => exact h2 k i (by simpa using hk)
   ·cases h
theorem chainP_spec {i p : Nat} : ∀ {P : List Nat}, lookN i (chainP P) = some p → ∃ P1 P2, P = P1 ++ p :: i :: P2
 | [], h => by simp [chainP, lookN] at h
 | [a], h => by simp [chainP, lookN] at h
 | a :: b :: l, h => by
  simp only [chainP, lookN] at h
  split at h
  ·rename_i e
   cases h
   exact ⟨[], l, by simp [nat_beq e]⟩
  ·obtain ⟨P1, P2, hP⟩ := chainP_spec (P := b :: l) h
   exact ⟨a :: P1, P2, by rw [hP]; rfl⟩
theorem split_at {i : Nat} : ∀ {A A' B B' : List Nat}, i ∉ A → i ∉ A' → A ++ i :: B = A' ++ i :: B' → A = A'
 | [], [], _, _, _, _, _ => rfl
 | [], a :: A', _, _, _, h, e => by
  simp only [List.nil_append, List.cons_append, List.cons.injEq] at e
  exact absurd (by rw [e.1]; exact List.mem_cons_self ..) h
 | a :: A, [], _, _, h, _, e => by
  simp only [List.nil_append, List.cons_append, List.cons.injEq] at e
  exact absurd (by rw [e.1]; exact List.mem_cons_self ..) h
 | a :: A, a' :: A', _, _, h, h', e => by
  simp only [List.cons_append, List.cons.injEq] at e
  rw [e.1, split_at (fun q => h (List.mem_cons_of_mem _ q)) (fun q => h' (List.mem_cons_of_mem _ q)) e.2]
theorem pairwise_of {R : Nat → Nat → Prop} : ∀ {L : List Nat}, (∀ A i B, L = A ++ i :: B → ∀ x ∈ B, R i x) → L.Pairwise R
 | [], _ => .nil
 | a :: L, h => .cons (h [] a L rfl) (pairwise_of fun A i B e => h (a :: A) i B (by rw [e]; rfl))
theorem firstB_of {anc : List Nat} {h : Nat} : ∀ {l : List Nat}, (∀ x ∈ l, ordB anc x h = false) → firstB anc h l = true
 | [], _ => rfl
 | x :: l, hx => by
  simp only [firstB]
  rw [hx x (List.mem_cons_self ..)]
  exact firstB_of fun y hy => hx y (List.mem_cons_of_mem _ hy)
theorem consO_mem {anc : List Nat} : ∀ (P rem : List Nat) (n : Nat), P.length ≤ n → (∀ x, x ∈ P ↔ x ∈ rem) → P.Pairwise (fun h x => h ≠ x ∧ ordB anc x h = false) → (∀ h ∈ P, ordB anc h h = false) → P ∈ consO anc n rem
 | [], rem, n, _, hm, _, _ => by
  cases rem with
  | nil => cases n <;> simp [consO]
  | cons x l => exact absurd ((hm x).2 (List.mem_cons_self ..)) (by simp)
 | h :: P, rem, n, hn, hm, hp, hi => by
  obtain ⟨n, rfl⟩ : ∃ m, n = m + 1 := ⟨n - 1, by simp at hn; omega⟩
  cases rem with
  | nil => exact absurd ((hm h).1 (List.mem_cons_self ..)) (by simp)
  | cons x l =>
   simp only [consO, List.mem_flatMap, List.mem_filter, List.mem_map]
   rw [List.pairwise_cons] at hp
   refine ⟨h, ⟨(hm h).1 (List.mem_cons_self ..), firstB_of fun y hy => ?_⟩, P, ?_, rfl⟩
   ·rcases List.mem_cons.1 ((hm y).2 hy) with rfl | hy
    ·exact hi y (List.mem_cons_self ..)
    ·exact (hp.1 y hy).2
   ·refine consO_mem P _ n (by simp at hn; omega) (fun y => ?_) hp.2 fun y hy => hi y (List.mem_cons_of_mem _ hy)
    rw [List.mem_filter, ← hm y, List.mem_cons]
    constructor
    ·intro hy
     refine ⟨.inr hy, ?_⟩
     have := (hp.1 y hy).1
     simp only [Bool.not_eq_true']
     cases e : Nat.beq y h with
     | false => rfl
     | true => exact absurd (nat_beq e).symm this
    ·rintro ⟨rfl | hy, e⟩
     ·simp at e
     ·exact hy
theorem eqNs_eq : ∀ {a b : List Nat}, eqNs a b = true → a = b
 | [], [], _ => rfl
 | [], _ :: _, h => by cases h
 | _ :: _, [], h => by cases h
 | x :: l, y :: m, h => by
  simp only [eqNs] at h
  split at h
  ·rename_i e; rw [nat_beq e, eqNs_eq h]
  ·cases h
theorem someEq_spec {hs P : List Nat} : ∀ {Ls : List (List Nat)}, someEq hs P Ls = true → ∃ L, L ∈ Ls ∧ (L.filter fun i => memN i hs) = P
 | [], h => by cases h
 | L :: l, h => by
  simp only [someEq] at h
  split at h
  ·rename_i e; exact ⟨L, List.mem_cons_self .., eqNs_eq e⟩
  ·obtain ⟨L', h1, h2⟩ := someEq_spec h
   exact ⟨L', List.mem_cons_of_mem _ h1, h2⟩
theorem covers_spec {hs : List Nat} {Ls : List (List Nat)} : ∀ {Ps : List (List Nat)}, covers hs Ls Ps = true → ∀ P, P ∈ Ps → ∃ L, L ∈ Ls ∧ (L.filter fun i => memN i hs) = P
 | [], _, P, h => by simp at h
 | Q :: l, h, P, hP => by
  simp only [covers] at h
  split at h
  ·rename_i e
   rcases List.mem_cons.1 hP with rfl | hP
   ·exact someEq_spec e
   ·exact covers_spec h P hP
  ·cases h
theorem demons_spec {run : List Nat → Option R} : ∀ {Ls : List (List Nat)}, demons run Ls = some r → ∀ L, L ∈ Ls → run L = some r
 | [], h, _, _ => by cases h
 | [L], h, L', hL => by simp only [demons] at h; rw [List.mem_singleton] at hL; subst hL; exact h
 | L :: M :: l, h, L', hL => by
  simp only [demons] at h
  obtain ⟨h1, h2⟩ := demon_some h
  rcases List.mem_cons.1 hL with rfl | hL
  ·exact h1
  ·exact demons_spec (Ls := M :: l) h2 L' hL
theorem wpOpsIn_re {F : Fence} {n0 : Nat} {P : Program} {ops ops' : Array Oper} {Q : Exit → Act → World → Prop} {f : Nat → Nat} : ∀ (L : List Nat), (∀ i, i ∈ L → ∃ o X, ops[i]? = some o ∧ o.guard = none ∧ ops'[f i]? = some { o with after := X }) →
  ∀ (a : Act) (w : World), wpOpsIn F n0 P ops' Q (L.map f) a w → wpOpsIn F n0 P ops Q L a w
 | [], _, a, w, h => h
 | i :: L, hL, a, w, h => by
  rw [List.map_cons, wpOpsIn_cons] at h
  rw [wpOpsIn_cons]
  have h := wpOpIn_mono (fun a w => wpOpsIn_re L (fun j hj => hL j (List.mem_cons_of_mem _ hj)) a w) h
  obtain ⟨o, X, h1, h2, h3⟩ := hL i (List.mem_cons_self ..)
  unfold wpOpIn at h ⊢
  rw [h1]
  rw [h3] at h
  simp only [Region.wanted, h2, if_true] at h ⊢
  exact h
theorem vorder_sound (ok : PrgOk G) {rec : Rec G} (hrec : Spec G rec) {ann : Ann} {ops : Array Oper} {σ : St G.E.T} {k : St G.E.T → Option R} {id : Nat} {hs : List Nat} {L0 : List Nat} (h : vorder G rec ann id N ops.toList hs σ k L0 = some r)
  {a : Act} {w : World} {Fz : Nat → Prop} {ι : Nat → Loc}
  (hAt : At G X N w Fz ι σ a) {Q : Exit → Act → World → Prop} (hQ : ∀ σ' a' w' Fz' ι', k σ' = some r → Goes G X N (dstsOps ops.toList) w Fz ι σ.heap a w' Fz' ι' σ' a' → Q .normal a' w')
  {L : List Nat} (hT : Topo .any ops L) (hlen : L.length ≤ ops.size) (hP : (L0.filter fun i => memN i hs) = L.filter fun i => memN i hs) : wpOpsIn (fence ro) 0 G.P ops Q L a { w with drawn := w.drawn + 1 } := by
 unfold vorder at h
 split at h
 ·rename_i ops' hnd hall hre
  split at h
  ·rename_i htop
   obtain ⟨hl', hat⟩ := reOps_spec hre
   have hin := allIn_spec hall
   have hlt : ∀ i, i ∈ L → i < ops.size := fun i hi => (hT.1 i).2 hi
   have hpos : ∀ i, i ∈ L → ∃ q, posN i L0 0 = some q ∧ L0[q]? = some i := fun i hi => by
    obtain ⟨q, hq⟩ := posN_mem (q0 := 0) (hin i (by simpa using hlt i hi))
    obtain ⟨k, h1, h2⟩ := posN_some hq
    rw [Nat.zero_add] at h1; subst h1
    exact ⟨q, hq, h2⟩
   let f : Nat → Nat := fun i => (posN i L0 0).getD 0
   have hf : ∀ i q, posN i L0 0 = some q → f i = q := fun i q hq => by show (posN i L0 0).getD 0 = q; rw [hq]; rfl
   have hfi : ∀ i j, i ∈ L → j ∈ L → f i = f j → i = j := fun i j hi hj e => by
    obtain ⟨q, h1, h2⟩ := hpos i hi
    obtain ⟨q', h1', h2'⟩ := hpos j hj
    rw [hf i q h1, hf j q' h1'] at e
    subst e
    rw [h2] at h2'; exact Option.some.inj h2'
   have hops' : ∀ i, i ∈ L → ∃ o o', getL ops.toList i = some o ∧ reOper L0 (chainP (L0.filter fun i => memN i hs)) i o = some o' ∧ getL ops' (f i) = some o' := fun i hi => by
    obtain ⟨q, h1, h2⟩ := hpos i hi
    rw [hf i q h1]; exact hat q i h2
   refine wpOpsIn_re (ops' := ops'.toArray) (f := f) L (fun i hi => ?_) a _ ?_
   ·obtain ⟨o, o', h1, h2, h3⟩ := hops' i hi
    obtain ⟨g1, ⟨X, g2⟩, _⟩ := reOper_spec h2
    rw [getL_eq] at h1 h3
    exact ⟨o, X, by simpa using h1, g1, by rw [← g2]; simpa using h3⟩
   ·have hany := vplain_any (ro := ro) (ops := ops'.toArray) ok hrec (by simpa using h) hAt (Q := Q) (fun σ' a' w' Fz' ι' hk hg => hQ σ' a' w' Fz' ι' hk (hg.more fun t ht => ?_)) (md := .any) (by simpa using htop)
    ·have hT' : Topo .any ops'.toArray ([] ++ L.map f) := by
      refine ⟨fun q => ?_, fun A' q B' hAB => ?_⟩
      ·rw [List.nil_append, List.mem_map]
       constructor
       ·intro hq
        have hq' : q < L0.length := by rw [← hl']; simpa using hq
        obtain ⟨o, o', h1, _, _⟩ := hat q L0[q] (List.getElem?_eq_getElem hq')
        have hi : L0[q] < ops.size := by simpa using getL_lt h1
        have hiL := (hT.1 _).1 hi
        obtain ⟨q', g1, g2⟩ := hpos _ hiL
        refine ⟨L0[q], hiL, ?_⟩
        rw [hf _ q' g1]
        exact nodupN_get hnd g2 (List.getElem?_eq_getElem hq')
       ·rintro ⟨i, hi, rfl⟩
        obtain ⟨o, o', _, _, h3⟩ := hops' i hi
        simpa using getL_lt h3
      ·rw [List.nil_append] at hAB
       obtain ⟨A, S, hL, hA, hS⟩ := List.map_eq_append_iff.1 hAB
       obtain ⟨i, B, hS', rfl, hB⟩ := List.map_eq_cons_iff.1 hS
       subst hS'
       obtain ⟨t1, t2⟩ := hT.2 A i B hL
       have hiL : i ∈ L := by rw [hL]; simp
       have hAL : ∀ x, x ∈ A → x ∈ L := fun x hx => by rw [hL]; exact List.mem_append_left _ hx
       refine ⟨fun hm => ?_, fun o2 ho2 e' he' hb => ?_⟩
       ·rw [← hA] at hm
        obtain ⟨x, hx, hxi⟩ := List.mem_map.1 hm
        rw [hfi x i (hAL x hx) hiL hxi] at hx
        exact t1 hx
       ·obtain ⟨o, o', h1, h2, h3⟩ := hops' i hiL
        simp only at ho2
        rw [h3] at ho2; cases ho2
        obtain ⟨_, _, g3⟩ := reOper_spec h2
        rw [← hA, List.mem_map]
        rcases g3 e' he' with ⟨e, q1, q2, q3⟩ | ⟨p, q1, q2⟩
        ·refine ⟨e.on, t2 o h1 e q1 ?_, hf _ _ q2⟩
         unfold Region.binds at hb ⊢
         rw [← q3]; exact hb
        ·refine ⟨p, ?_, hf _ _ q2⟩
         rw [hP] at q1
         obtain ⟨P1, P2, hPP⟩ := chainP_spec q1
         have hi_mem : memN i hs = true := by
          have : i ∈ L.filter fun i => memN i hs := by rw [hPP]; simp
          exact (List.mem_filter.1 this).2
         have e1 : (L.filter fun i => memN i hs) = (A.filter fun i => memN i hs) ++ i :: B.filter fun i => memN i hs := by
          rw [hL, List.filter_append, List.filter_cons]; simp [hi_mem]
         have nd : (L.filter fun i => memN i hs).Pairwise (· ≠ ·) := List.Pairwise.filter _ (pairwise_of fun A i B e x hx => by
          obtain ⟨C, D, rfl⟩ := List.append_of_mem hx
          have := (hT.2 (A ++ i :: C) x D (by rw [e]; simp)).1
          rintro rfl
          exact this (by simp))
         have n1 : i ∉ P1 ++ [p] := by
          intro hm
          rw [hPP, show P1 ++ p :: i :: P2 = (P1 ++ [p]) ++ i :: P2 by simp, List.pairwise_append] at nd
          exact nd.2.2 i hm i (List.mem_cons_self ..) rfl
         have n2 : i ∉ A.filter fun i => memN i hs := fun hm => t1 (List.mem_filter.1 hm).1
         have := split_at (B := P2) (B' := B.filter fun i => memN i hs) n1 n2 (by rw [← e1, hPP]; simp)
         have hp : p ∈ A.filter fun i => memN i hs := by rw [← this]; simp
         exact (List.mem_filter.1 hp).1
     refine wpAnyIn_order (L.map f) [] _ ops'.toArray.size a _ hany hT' (by simp) (fun j => ?_) ?_
     ·have e0 : (Array.replicate ops'.toArray.size false).getD j false = false := by
       rw [Array.getD_eq_getD_getElem?, Array.getElem?_replicate]
       split <;> rfl
      rw [e0]; simp
     ·have : ∀ i, i < ops.size → i < ops'.length + 0 ∨ True := fun _ _ => .inr trivial
      have hsz : ops.size ≤ ops'.length := by
       rw [hl']
       have : ∀ (n : Nat) (l : List Nat), (∀ i, i < n → i ∈ l) → n ≤ l.length := by
        intro n
        induction n with
        | zero => intro l _; omega
        | succ n ih =>
         intro l hl
         have h1 := ih (l.filter fun x => x != n) (fun i hi => List.mem_filter.2 ⟨hl i (by omega), by simp; omega⟩)
         have h2 : (l.filter fun x => x != n).length < l.length := by
          have := filter_lt (l := l) (p := fun _ => true) (q := fun x => x != n) (fun _ _ => rfl) ⟨n, hl n (by omega), rfl, by simp⟩
          rwa [show (l.filter fun _ => true) = l from by simp] at this
         omega
       exact this _ _ fun i hi => hin i (by simpa using hi)
      simp only [List.length_map, List.size_toArray]
      omega
    ·-- what is written
     have : ∀ {l : List Nat} {m : List Oper}, reOps ops.toList L0 (chainP (L0.filter fun i => memN i hs)) l = some m → ∀ t, t ∈ dstsOps m → t ∈ dstsOps ops.toList := by
      intro l
      induction l with
      | nil => intro m hm t ht; simp only [reOps, Option.some.injEq] at hm; subst hm; simp [dstsOps] at ht
      | cons i l ih =>
       intro m hm t ht
       simp only [reOps] at hm
       split at hm
       ·cases hm
       ·rename_i o ho
        split at hm
        ·rename_i o' r' e1 e2
         cases hm
         obtain ⟨_, ⟨X, rfl⟩, _⟩ := reOper_spec e1
         simp only [dstsOps] at ht
         split at ht
         ·rename_i d hd
          rcases List.mem_cons.1 ht with rfl | ht
          ·exact mem_dstsOps ho (by rw [hd]; simp [dsOf])
          ·exact ih e2 t ht
         ·exact ih e2 t ht
        ·cases hm
     exact this hre t (by simpa using ht)
  ·cases h
 ·cases h
theorem vregion_sound (ok : PrgOk G) {rec : Rec G} (hrec : Spec G rec) {ann : Ann} {ops : Array Oper} {σ : St G.E.T} {k : St G.E.T → Option R} {id : Nat} (h : vregion G rec ann id N ops.toList σ k = some r) {a : Act} {w : World} {Fz : Nat → Prop} {ι : Nat → Loc}
  (hAt : At G X N w Fz ι σ a) {Q : Exit → Act → World → Prop} (hQ : ∀ σ' a' w' Fz' ι', k σ' = some r → Goes G X N (dstsOps ops.toList) w Fz ι σ.heap a w' Fz' ι' σ' a' → Q .normal a' w') : (Code.region id ops true).wpIn (fence ro) 0 G.P Q a w := by
 unfold vregion at h
 split at h
 ·rename_i ht hg hany
  have fin : (∀ md, topoOk ops.toList md = true → ∀ t, wpOpsIn (fence ro) 0 G.P ops Q (Region.linearise md ops t) a { w with drawn := w.drawn + 1 }) → (Code.region id ops true).wpIn (fence ro) 0 G.P Q a w := by
   intro go
   refine wpIn_region_draw fun t => ?_
   unfold Region.schedule
   split
   ·exact go .any hany t
   ·split
    ·exact go .text ht _
    ·exact go .gc hg _
  split at h
  ·exact fin fun md hmd t => wpAnyIn_sound ops.size t _ a _ (vplain_any ok hrec h hAt hQ hmd)
  ·rename_i hs Ls hlk
   split at h
   ·cases h
   ·rename_i anc hanc
    split at h
    ·rename_i hl hcov
     refine fin fun md hmd t => ?_
     have hT := (lin_topo hmd t).any
     have hA := anc_ok hanc
     have hcons : ∀ A i B, Region.linearise md ops t = A ++ i :: B → ∀ x, ordB anc x i = true → x ∈ A := by
      intro A i B e x hx
      have hcl : Closed ops.toList (fun j => decide (j ∈ A)) := by
       rintro i' j hj ⟨o, e', q1, q2, q3, rfl⟩
       have hj := of_decide_eq_true hj
       obtain ⟨C, D, rfl⟩ := List.append_of_mem hj
       have := (hT.2 C j (D ++ i :: B) (by rw [e]; simp)).2 o q1 e' q2 q3
       exact decide_eq_true (List.mem_append_left _ this)
      exact of_decide_eq_true (hA.ready hcl i (fun i' ⟨o, e', q1, q2, q3, q4⟩ => decide_eq_true (by rw [← q4]; exact (hT.2 A i B e).2 o q1 e' q2 q3)) x hx)
     obtain ⟨L0, hL0, hP⟩ := covers_spec hcov ((Region.linearise md ops t).filter fun i => memN i hs) (by
      refine consO_mem _ _ _ ?_ (fun x => ?_) (List.Pairwise.filter _ (pairwise_of fun A i B e x hx => ?_)) (fun i hi => ?_)
      ·have h1 := List.length_filter_le (fun i => memN i hs) (Region.linearise md ops t)
       have h2 := go_length (md := md) (ops := ops) ops.size t (Array.replicate ops.size false) []
       simp only [List.length_nil, Nat.add_zero] at h2
       have h3 : (Region.linearise md ops t).length ≤ ops.size := h2
       simpa using Nat.le_trans h1 h3
      ·rw [List.mem_filter]
       exact ⟨fun q => memN_iff.1 q.2, fun q => ⟨(hT.1 x).1 (by simpa using allLt_spec hl x q), memN_iff.2 q⟩⟩
      ·obtain ⟨C, D, rfl⟩ := List.append_of_mem hx
       have hn := (hT.2 (A ++ i :: C) x D (by rw [e]; simp)).1
       refine ⟨fun q => hn (by rw [q]; simp), ?_⟩
       cases ho : ordB anc x i with
       | false => rfl
       | true => exact absurd (List.mem_append_left _ (hcons A i _ e x ho)) hn
      ·have hi := (List.mem_filter.1 hi).1
       obtain ⟨C, D, e⟩ := List.append_of_mem hi
       cases ho : ordB anc i i with
       | false => rfl
       | true => exact absurd (hcons C i D e i ho) (hT.2 C i D e).1)
     exact vorder_sound ok hrec (demons_spec h L0 hL0) hAt hQ hT (go_length (md := md) (ops := ops) ops.size t (Array.replicate ops.size false) []) hP
    ·cases h
 ·cases h
end
end Go.Proofs.YtgffdmgidnnedaaGreat.V
