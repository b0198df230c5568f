/- A region whose order is drawn: the record of the order as written, and the state behind any set of operations. -/
import Derived.Test.YtjabpjkomgakbaaDraw3
namespace Go.Proofs.Ytjabpjkomgakbaa.V
open Go
set_option linter.unusedVariables false
set_option linter.unusedSimpArgs false

section
variable {G : Prg} {R : Type} {r : R} {X : Ctx} {N : Nat}

structure DRec (T : Nat → Type) where
  val : PV T
  run : Bool
  kind : Kind
  /-- behind it -/
  heap : List (Blk T)

def putE {T : Nat → Type} (dst : Option Nat) (v : PV T) (env : List (Nat × PV T)) : List (Nat × PV T) := match dst with
  | some d => (d, v) :: env
  | none => env

def guardB {T : Nat → Type} (ops : List Oper) (env : List (Nat × PV T)) (o : Oper) : Option Bool := match o.guard with
  | none => some true
  | some (j, want) => match dstOf ops j with
    | none => none
    | some g => match look g env with
      | .bool b => some (b == want)
      | .tup l => match l with
        | [] => some false
        | _ :: _ => none
      | _ => none

def Lex (G : Prg) (rec : Rec G) (ann : Ann) (N : Nat) (ops : List Oper) : List Oper → St G.E.T → List (DRec G.E.T) → St G.E.T → Prop
  | [], σ, [], σ' => σ' = σ
  | o :: rest, σ, ρ :: recs, σ' => guardB ops σ.env o = some ρ.run ∧ (∀ d, o.dst = some d → d < N) ∧
      (ρ.run = true → kindOf G ann o σ = some ρ.kind ∧ vop G rec ann o σ PK = some (ρ.val, ρ.heap)) ∧
      (ρ.run = false → ρ.val = .tup [] ∧ ρ.heap = σ.heap ∧ ρ.kind = .pure []) ∧
      Lex G rec ann N ops rest ⟨putE o.dst ρ.val σ.env, ρ.heap⟩ recs σ'
  | _, _, _, _ => False

def Alike {T : Nat → Type} (e e' : List (Nat × PV T)) : Prop := ∀ t, look t e = look t e'
theorem Alike.refl {T : Nat → Type} (e : List (Nat × PV T)) : Alike e e := fun _ => rfl
theorem Alike.symm {T : Nat → Type} {e e' : List (Nat × PV T)} (h : Alike e e') : Alike e' e := fun t => (h t).symm
theorem Alike.trans {T : Nat → Type} {e e' e'' : List (Nat × PV T)} (h : Alike e e') (g : Alike e' e'') : Alike e e'' := fun t => (h t).trans (g t)
theorem Alike.eval {T : Nat → Type} {e e' : List (Nat × PV T)} (h : Alike e e') (x : Operand) : eval e x = eval e' x := by cases x <;> first | rfl | exact h _
theorem Alike.put {T : Nat → Type} {e e' : List (Nat × PV T)} (h : Alike e e') (d : Option Nat) (v : PV T) : Alike (putE d v e) (putE d v e') := by
  intro t
  cases d with
  | none => exact h t
  | some d =>
    simp only [putE, look]
    split
    · rfl
    · exact h t
theorem Alike.push {T : Nat → Type} {e : List (Nat × PV T)} {g : Nat} {v : PV T} (h : look g e = v) : Alike ((g, v) :: e) e := by
  intro t
  simp only [look]
  split
  · rename_i e'
    have := nat_beq e'
    subst this
    exact h.symm
  · rfl
theorem Alike.guard {T : Nat → Type} {ops : List Oper} {e e' : List (Nat × PV T)} (h : Alike e e') (o : Oper) : guardB ops e o = guardB ops e' o := by
  unfold guardB
  split
  · rfl
  · split
    · rfl
    · rw [h]

theorem put_some {T : Nat → Type} {dst : Option Nat} {v : PV T} {env env' : List (Nat × PV T)} (h : V.put N dst v env = some env') : env' = putE dst v env ∧ ∀ d, dst = some d → d < N := by
  cases dst with
  | none => simp only [V.put] at h; cases h; exact ⟨rfl, fun d h => by cases h⟩
  | some d =>
    simp only [V.put] at h
    split at h
    · rename_i hd
      cases h
      exact ⟨rfl, fun d' e => by cases e; exact blt_iff.1 hd⟩
    · cases h

def kindsRev {T : Nat → Type} : Nat → List (DRec T) → List (Nat × Kind) → List (Nat × Kind)
  | _, [], tr => tr
  | i, ρ :: recs, tr => kindsRev (i + 1) recs ((i, ρ.kind) :: tr)

theorem vdraw_lex {rec : Rec G} {ann : Ann} {ops : List Oper} {anc : List Nat} {k : St G.E.T → Option R} : ∀ {rest : List Oper} {i : Nat} {tr : List (Nat × Kind)} {σ : St G.E.T}, vdraw G rec ann N ops anc i rest tr σ k = some r →
    ∀ env, Alike env σ.env → ∃ recs σ' σk, Lex G rec ann N ops rest ⟨env, σ.heap⟩ recs σ' ∧ k σk = some r ∧ σk.heap = σ'.heap ∧ Alike σk.env σ'.env ∧ fitsAll anc (kindsRev i recs tr) = true
  | [], i, tr, σ, h, env, he => by
    simp only [vdraw] at h
    split at h
    · rename_i hf
      exact ⟨[], ⟨env, σ.heap⟩, σ, rfl, h, rfl, he.symm, hf⟩
    · cases h
  | o :: rest, i, tr, σ, h, env, he => by
    have go : ∀ {env1 : List (Nat × PV G.E.T)}, Alike env env1 → guardB ops env o = some true → (match kindOf G ann o ⟨env1, σ.heap⟩ with
        | none => none
        | some κ => vop G rec ann o ⟨env1, σ.heap⟩ fun v h => match V.put N o.dst v env1 with
          | some env => vdraw G rec ann N ops anc (i + 1) rest ((i, κ) :: tr) ⟨env, h⟩ k
          | none => none) = some r → ∃ recs σ' σk, Lex G rec ann N ops (o :: rest) ⟨env, σ.heap⟩ recs σ' ∧ k σk = some r ∧ σk.heap = σ'.heap ∧ Alike σk.env σ'.env ∧ fitsAll anc (kindsRev i recs tr) = true := by
      intro env1 h1 hg hh
      split at hh
      · cases hh
      · rename_i κ hκ
        rw [vop_k] at hh
        obtain ⟨⟨p, H'⟩, h2, h3⟩ := Option.bind_eq_some_iff.1 hh
        simp only at h3
        split at h3
        · rename_i env2 hput
          obtain ⟨rfl, hN⟩ := put_some hput
          obtain ⟨recs, σ', σk, g1, g2, g3, g4, g5⟩ := vdraw_lex h3 (putE o.dst p env) (h1.put _ _)
          refine ⟨⟨p, true, κ, H'⟩ :: recs, σ', σk, ⟨hg, hN, fun _ => ⟨?_, ?_⟩, (fun e => by cases e), g1⟩, g2, g3, g4, g5⟩
          · rw [kindOf_env fun x _ => h1.eval x]; exact hκ
          · rw [vop_env _ fun x _ => h1.eval x]; exact h2
        · cases h3
    have skip : ∀ {env1 : List (Nat × PV G.E.T)}, Alike env env1 → guardB ops env o = some false → (match V.put N o.dst (.tup []) env1 with
          | some env => vdraw G rec ann N ops anc (i + 1) rest ((i, .pure []) :: tr) ⟨env, σ.heap⟩ k
          | none => none) = some r → ∃ recs σ' σk, Lex G rec ann N ops (o :: rest) ⟨env, σ.heap⟩ recs σ' ∧ k σk = some r ∧ σk.heap = σ'.heap ∧ Alike σk.env σ'.env ∧ fitsAll anc (kindsRev i recs tr) = true := by
      intro env1 h1 hg hh
      split at hh
      · rename_i env2 hput
        obtain ⟨rfl, hN⟩ := put_some hput
        obtain ⟨recs, σ', σk, g1, g2, g3, g4, g5⟩ := vdraw_lex hh (putE o.dst (.tup []) env) (h1.put _ _)
        exact ⟨⟨.tup [], false, .pure [], σ.heap⟩ :: recs, σ', σk, ⟨hg, hN, (fun e => by cases e), fun _ => ⟨rfl, rfl, rfl⟩, g1⟩, g2, g3, g4, g5⟩
      · cases hh
    simp only [vdraw] at h
    split at h
    · rename_i e1
      exact go he (by unfold guardB; rw [e1]) h
    · rename_i j want e1
      split at h
      · cases h
      · rename_i g e2
        split at h
        · rename_i b e3
          have hg : guardB ops env o = some (b == want) := by unfold guardB; rw [e1]; simp only; rw [e2]; simp only; rw [he g, e3]
          have ha : Alike env ((g, .bool b) :: σ.env) := he.trans (Alike.push e3).symm
          cases b with
          | true =>
            simp only [if_true] at h
            cases want
            · exact skip ha hg h
            · exact go ha hg h
          | false =>
            simp only [Bool.false_eq_true, if_false] at h
            cases want
            · exact go ha hg h
            · exact skip ha hg h
        · rename_i l e3
          split at h
          · exact skip he (by unfold guardB; rw [e1]; simp only; rw [e2]; simp only; rw [he g, e3]) h
          · cases h
        · cases h

/-! ### The state behind a set of operations -/
def isEff : Kind → Bool
  | .pure _ => false
  | .eff _ _ => true

def envS {T : Nat → Type} (S : Nat → Bool) : Nat → List Oper → List (DRec T) → List (Nat × PV T) → List (Nat × PV T)
  | k, o :: l, ρ :: recs, env => envS S (k + 1) l recs (if S k = true then putE o.dst ρ.val env else env)
  | _, _, _, env => env
def heapS {T : Nat → Type} (S : Nat → Bool) : Nat → List (DRec T) → List (Blk T) → List (Blk T)
  | k, ρ :: recs, h => heapS S (k + 1) recs (if (S k && isEff ρ.kind) = true then ρ.heap else h)
  | _, [], h => h

theorem look_putE {T : Nat → Type} {d : Option Nat} {v : PV T} {e : List (Nat × PV T)} {t : Nat} : look t (putE d v e) = if d = some t then v else look t e := by
  cases d with
  | none => simp [putE]
  | some d =>
    simp only [putE, look]
    by_cases h : d = t
    · subst h; simp
    · have : Nat.beq t d = false := by
        rcases hq : Nat.beq t d with _ | _
        · rfl
        · exact absurd (nat_beq hq).symm h
      simp [this, h]

theorem envS_congr {T : Nat → Type} {S S' : Nat → Bool} {t : Nat} : ∀ (l : List Oper) (recs : List (DRec T)) (k : Nat) (e e' : List (Nat × PV T)), look t e = look t e' → (∀ i o, getL l i = some o → o.dst = some t → S (k + i) = S' (k + i)) →
    look t (envS S k l recs e) = look t (envS S' k l recs e')
  | [], recs, k, e, e', he, h => by cases recs <;> exact he
  | o :: l, [], k, e, e', he, h => he
  | o :: l, ρ :: recs, k, e, e', he, h => by
    simp only [envS]
    refine envS_congr l recs (k + 1) _ _ ?_ fun i o' hi hd => by have := h (i + 1) o' hi hd; rwa [show k + (i + 1) = k + 1 + i by omega] at this
    by_cases hd : o.dst = some t
    · have h0 : S k = S' k := by simpa using h 0 o rfl hd
      rw [h0]
      split
      · rw [look_putE, look_putE, if_pos hd, if_pos hd]
      · exact he
    · have h1 : ∀ e : List (Nat × PV T), look t (putE o.dst ρ.val e) = look t e := fun e => by rw [look_putE, if_neg hd]
      split <;> split <;> (try simp only [h1]) <;> exact he

theorem envS_last {T : Nat → Type} {S : Nat → Bool} {t : Nat} : ∀ (l : List Oper) (recs : List (DRec T)) (k i : Nat) (o : Oper) (ρ : DRec T) (e : List (Nat × PV T)), getL l i = some o → getL recs i = some ρ → o.dst = some t → S (k + i) = true →
    (∀ j o', i < j → getL l j = some o' → o'.dst = some t → S (k + j) = false) → look t (envS S k l recs e) = ρ.val
  | [], recs, k, i, o, ρ, e, h, _, _, _, _ => by simp [getL] at h
  | q :: l, [], k, i, o, ρ, e, _, h, _, _, _ => by simp [getL] at h
  | q :: l, ρ0 :: recs, k, 0, o, ρ, e, h1, h2, h3, h4, h5 => by
    simp only [getL, Option.some.injEq] at h1 h2
    subst h1; subst h2
    simp only [envS]
    rw [Nat.add_zero] at h4
    rw [if_pos h4]
    have : look t (envS S (k + 1) l recs (putE q.dst ρ0.val e)) = look t (envS (fun _ => false) (k + 1) l recs (putE q.dst ρ0.val e)) :=
      envS_congr l recs (k + 1) _ _ rfl fun i o' hi hd => by have := h5 (i + 1) o' (by omega) hi hd; rwa [show k + (i + 1) = k + 1 + i by omega] at this
    rw [this]
    have none : ∀ (l : List Oper) (recs : List (DRec T)) (k : Nat) (e : List (Nat × PV T)), envS (fun _ => false) k l recs e = e := by
      intro l
      induction l with
      | nil => intro recs k e; cases recs <;> rfl
      | cons o l ih =>
        intro recs k e
        cases recs with
        | nil => rfl
        | cons ρ recs => simp only [envS, Bool.false_eq_true, if_false]; exact ih recs (k + 1) e
    rw [none, look_putE, if_pos h3]
  | q :: l, ρ0 :: recs, k, i + 1, o, ρ, e, h1, h2, h3, h4, h5 => by
    simp only [getL] at h1 h2
    simp only [envS]
    refine envS_last l recs (k + 1) i o ρ _ h1 h2 h3 (by rwa [show k + (i + 1) = k + 1 + i by omega] at h4) fun j o' hj ho hd => ?_
    have := h5 (j + 1) o' (by omega) ho hd
    rwa [show k + (j + 1) = k + 1 + j by omega] at this

theorem heapS_congr {T : Nat → Type} {S S' : Nat → Bool} : ∀ (recs : List (DRec T)) (k : Nat) (h : List (Blk T)), (∀ i ρ, getL recs i = some ρ → isEff ρ.kind = true → S (k + i) = S' (k + i)) → heapS S k recs h = heapS S' k recs h
  | [], k, h, _ => rfl
  | ρ :: recs, k, h, hh => by
    simp only [heapS]
    have e : (S k && isEff ρ.kind) = (S' k && isEff ρ.kind) := by
      cases he : isEff ρ.kind with
      | false => simp
      | true => have := hh 0 ρ rfl he; simp only [Nat.add_zero] at this; rw [this]
    rw [e]
    exact heapS_congr recs (k + 1) _ fun i ρ' hi he => by have := hh (i + 1) ρ' hi he; rwa [show k + (i + 1) = k + 1 + i by omega] at this

/-- a record of the order as written: what holds at each operation -/
theorem Lex.len {rec : Rec G} {ann : Ann} {ops : List Oper} : ∀ {l : List Oper} {σ : St G.E.T} {recs : List (DRec G.E.T)} {σ' : St G.E.T}, Lex G rec ann N ops l σ recs σ' → recs.length = l.length
  | [], σ, [], σ', h => rfl
  | o :: l, σ, ρ :: recs, σ', h => by simp [Lex.len h.2.2.2.2]
  | [], σ, _ :: _, σ', h => h.elim
  | _ :: _, σ, [], σ', h => h.elim

/-- a pure operation's record leaves the blocks; another's leaves what it does not touch -/
theorem Lex.pure1 {rec : Rec G} {ann : Ann} {ops : List Oper} {o : Oper} {l : List Oper} {σ : St G.E.T} {ρ : DRec G.E.T} {recs : List (DRec G.E.T)} {σ' : St G.E.T} (h : Lex G rec ann N ops (o :: l) σ (ρ :: recs) σ') (he : isEff ρ.kind = false) : ρ.heap = σ.heap := by
  obtain ⟨h1, h2, h3, h4, h5⟩ := h
  cases hr : ρ.run with
  | false => exact (h4 hr).2.1
  | true =>
    obtain ⟨g1, g2⟩ := h3 hr
    cases hk : ρ.kind with
    | pure F =>
      rw [hk] at g1
      exact (vop_pure (rec := rec) g1 ρ.val ρ.heap g2).1
    | eff T n => rw [hk] at he; cases he
theorem Lex.eff1 {rec : Rec G} {ann : Ann} {ops : List Oper} {o : Oper} {l : List Oper} {σ : St G.E.T} {ρ : DRec G.E.T} {recs : List (DRec G.E.T)} {σ' : St G.E.T} (h : Lex G rec ann N ops (o :: l) σ (ρ :: recs) σ') {T : List Nat} {n : Nat} (he : ρ.kind = .eff T n) :
    n = σ.heap.length ∧ Stays T σ.heap ρ.heap := by
  obtain ⟨h1, h2, h3, h4, h5⟩ := h
  cases hr : ρ.run with
  | false => rw [(h4 hr).2.2] at he; cases he
  | true =>
    obtain ⟨g1, g2⟩ := h3 hr
    rw [he] at g1
    exact vop_eff g1 g2

theorem Lex.at_ {rec : Rec G} {ann : Ann} {ops : List Oper} : ∀ {l : List Oper} {σ : St G.E.T} {recs : List (DRec G.E.T)} {σ' : St G.E.T} (k : Nat), Lex G rec ann N ops l σ recs σ' → ∀ i o, getL l i = some o → ∃ ρ σi, getL recs i = some ρ ∧
    σi.env = envS (fun j => decide (j < k + i)) k l recs σ.env ∧ σi.heap = heapS (fun j => decide (j < k + i)) k recs σ.heap ∧ guardB ops σi.env o = some ρ.run ∧ (∀ d, o.dst = some d → d < N) ∧
    (ρ.run = true → kindOf G ann o σi = some ρ.kind ∧ vop G rec ann o σi PK = some (ρ.val, ρ.heap)) ∧ (ρ.run = false → ρ.val = .tup [] ∧ ρ.heap = σi.heap ∧ ρ.kind = .pure []) ∧
    ρ.heap = heapS (fun j => decide (j < k + i + 1)) k recs σ.heap
  | [], σ, recs, σ', k, h, i, o, hi => by simp [getL] at hi
  | q :: l, σ, [], σ', k, h, i, o, hi => h.elim
  | q :: l, σ, ρ0 :: recs, σ', k, h, i, o, hi => by
    have zeroE : ∀ (l : List Oper) (recs : List (DRec G.E.T)) (m k : Nat) (e : List (Nat × PV G.E.T)), m ≤ k → envS (fun j => decide (j < m)) k l recs e = e := by
      intro l
      induction l with
      | nil => intro recs m k e _; cases recs <;> rfl
      | cons o l ih =>
        intro recs m k e hm
        cases recs with
        | nil => rfl
        | cons ρ recs =>
          simp only [envS]
          rw [if_neg (by simp; omega)]
          exact ih recs m (k + 1) e (by omega)
    have zeroH : ∀ (recs : List (DRec G.E.T)) (m k : Nat) (e : List (Blk G.E.T)), m ≤ k → heapS (fun j => decide (j < m)) k recs e = e := by
      intro recs
      induction recs with
      | nil => intro m k e _; rfl
      | cons ρ recs ih =>
        intro m k e hm
        simp only [heapS]
        rw [if_neg (by simp; omega)]
        exact ih m (k + 1) e (by omega)
    have hheap : (if (decide (k < k + 1) && isEff ρ0.kind) = true then ρ0.heap else σ.heap) = ρ0.heap := by
      cases he : isEff ρ0.kind with
      | true => simp
      | false => simp [h.pure1 he]
    cases i with
    | zero =>
      simp only [getL, Option.some.injEq] at hi
      subst hi
      obtain ⟨h1, h2, h3, h4, h5⟩ := id h
      refine ⟨ρ0, σ, rfl, (zeroE _ _ _ _ _ (by omega)).symm, (zeroH _ _ _ _ (by omega)).symm, h1, h2, h3, h4, ?_⟩
      simp only [heapS, Nat.add_zero]
      rw [hheap, zeroH _ _ _ _ (by omega)]
    | succ i =>
      simp only [getL] at hi
      obtain ⟨ρ, σi, g1, g2, g3, g4, g5, g6, g7, g8⟩ := Lex.at_ (k + 1) h.2.2.2.2 i o hi
      have e1 : k + (i + 1) = k + 1 + i := by omega
      refine ⟨ρ, σi, g1, ?_, ?_, g4, g5, g6, g7, ?_⟩
      · simp only [envS]
        rw [if_pos (by simp), e1]; exact g2
      · simp only [heapS]
        rw [g3, e1]
        congr 1
        cases he : isEff ρ0.kind with
        | true => simp; omega
        | false => simp [h.pure1 he]
      · simp only [heapS]
        rw [g8, e1]
        congr 1
        cases he : isEff ρ0.kind with
        | true => simp; omega
        | false => simp [h.pure1 he]

theorem Lex.end_ {rec : Rec G} {ann : Ann} {ops : List Oper} : ∀ {l : List Oper} {σ : St G.E.T} {recs : List (DRec G.E.T)} {σ' : St G.E.T} (k : Nat) {S : Nat → Bool}, Lex G rec ann N ops l σ recs σ' → (∀ i, i < l.length → S (k + i) = true) →
    σ'.env = envS S k l recs σ.env ∧ σ'.heap = heapS S k recs σ.heap
  | [], σ, [], σ', k, S, h, hS => by
    have : σ' = σ := h
    subst this; exact ⟨rfl, rfl⟩
  | q :: l, σ, ρ :: recs, σ', k, S, h, hS => by
    obtain ⟨g1, g2⟩ := Lex.end_ (k + 1) (S := S) h.2.2.2.2 fun i hi => by have := hS (i + 1) (by simpa using hi); rwa [show k + (i + 1) = k + 1 + i by omega] at this
    have h0 : S k = true := by simpa using hS 0 (by simp)
    simp only [envS, heapS, h0, if_true, Bool.true_and]
    refine ⟨g1, ?_⟩
    rw [g2]
    congr 1
    cases he : isEff ρ.kind with
    | true => simp
    | false => simp [h.pure1 he]
  | [], σ, _ :: _, σ', k, S, h, hS => h.elim
  | _ :: _, σ, [], σ', k, S, h, hS => h.elim

/-- two sets of operations that differ in what does not touch a block -/
theorem Lex.foot {rec : Rec G} {ann : Ann} {ops : List Oper} {id : Nat} {S S' : Nat → Bool} : ∀ {l : List Oper} {σ : St G.E.T} {recs : List (DRec G.E.T)} {σ' : St G.E.T} (k : Nat) (h1 h2 : List (Blk G.E.T)), Lex G rec ann N ops l σ recs σ' →
    getL h1 id = getL h2 id → ((∃ i ρ, getL recs i = some ρ ∧ isEff ρ.kind = true ∧ S (k + i) = true) → h1 = σ.heap) → ((∃ i ρ, getL recs i = some ρ ∧ isEff ρ.kind = true ∧ S' (k + i) = true) → h2 = σ.heap) →
    (∀ i j ρ ρ', getL recs i = some ρ → getL recs j = some ρ' → isEff ρ.kind = true → isEff ρ'.kind = true → i < j → S (k + j) = true → S (k + i) = true) →
    (∀ i j ρ ρ', getL recs i = some ρ → getL recs j = some ρ' → isEff ρ.kind = true → isEff ρ'.kind = true → i < j → S' (k + j) = true → S' (k + i) = true) →
    (∀ i ρ T n, getL recs i = some ρ → ρ.kind = .eff T n → S (k + i) ≠ S' (k + i) → id < n ∧ id ∉ T) → getL (heapS S k recs h1) id = getL (heapS S' k recs h2) id
  | [], σ, [], σ', k, h1, h2, h, he, _, _, _, _, _ => he
  | q :: l, σ, ρ :: recs, σ', k, h1, h2, h, he, a1, a2, b1, b2, c => by
    simp only [heapS]
    have sh : ∀ i, k + (i + 1) = k + 1 + i := fun i => by omega
    have up : ∀ {S : Nat → Bool} {h1 : List (Blk G.E.T)}, ((∃ i ρ', getL (ρ :: recs) i = some ρ' ∧ isEff ρ'.kind = true ∧ S (k + i) = true) → h1 = σ.heap) →
        (∀ i j ρ1 ρ', getL (ρ :: recs) i = some ρ1 → getL (ρ :: recs) j = some ρ' → isEff ρ1.kind = true → isEff ρ'.kind = true → i < j → S (k + j) = true → S (k + i) = true) →
        (∃ i ρ', getL recs i = some ρ' ∧ isEff ρ'.kind = true ∧ S (k + 1 + i) = true) → (if (S k && isEff ρ.kind) = true then ρ.heap else h1) = ρ.heap := by
      rintro S h1 a b ⟨i, ρ', g1, g2, g3⟩
      cases hk : isEff ρ.kind with
      | false => simp only [Bool.and_false, Bool.false_eq_true, if_false]; rw [h.pure1 hk]; exact a ⟨i + 1, ρ', g1, g2, by rw [sh]; exact g3⟩
      | true =>
        have : S k = true := by simpa using b 0 (i + 1) ρ ρ' rfl g1 hk g2 (by omega) (by rw [sh]; exact g3)
        simp [this]
    refine Lex.foot (k + 1) _ _ h.2.2.2.2 ?_ (up a1 b1) (up a2 b2) ?_ ?_ ?_
    · cases hk : ρ.kind with
      | pure F => simpa [isEff] using he
      | eff T n =>
        have hk' : isEff ρ.kind = true := by rw [hk]; rfl
        obtain ⟨e1, e2⟩ := h.eff1 hk
        simp only [isEff, Bool.and_true]
        by_cases hs : S k = true <;> by_cases hs' : S' k = true
        · rw [if_pos hs, if_pos hs']
        · rw [if_pos hs, if_neg hs']
          obtain ⟨c1, c2⟩ := c 0 ρ T n rfl hk (by simp [hs, hs'])
          rw [e2 id (by omega) c2, ← a1 ⟨0, ρ, rfl, hk', hs⟩, he]
        · rw [if_neg hs, if_pos hs']
          obtain ⟨c1, c2⟩ := c 0 ρ T n rfl hk (by simp [hs, hs'])
          rw [e2 id (by omega) c2, ← a2 ⟨0, ρ, rfl, hk', hs'⟩, he]
        · rw [if_neg hs, if_neg hs']; exact he
    · intro i j ρ1 ρ2 g1 g2 g3 g4 g5 g6
      have := b1 (i + 1) (j + 1) ρ1 ρ2 g1 g2 g3 g4 (by omega) (by rw [sh]; exact g6)
      rwa [sh] at this
    · intro i j ρ1 ρ2 g1 g2 g3 g4 g5 g6
      have := b2 (i + 1) (j + 1) ρ1 ρ2 g1 g2 g3 g4 (by omega) (by rw [sh]; exact g6)
      rwa [sh] at this
    · intro i ρ' T n g1 g2 g3
      exact c (i + 1) ρ' T n g1 g2 (by rw [sh]; exact g3)
  | [], σ, _ :: _, σ', k, h1, h2, h, _, _, _, _, _, _ => h.elim
  | _ :: _, σ, [], σ', k, h1, h2, h, _, _, _, _, _, _ => h.elim

theorem kindsRev_length {T : Nat → Type} : ∀ (recs : List (DRec T)) (i : Nat) (tr : List (Nat × Kind)), (kindsRev i recs tr).length = recs.length + tr.length
  | [], i, tr => by simp [kindsRev]
  | ρ :: recs, i, tr => by simp only [kindsRev]; rw [kindsRev_length recs]; simp; omega
theorem kindsRev_old {T : Nat → Type} : ∀ (recs : List (DRec T)) (i : Nat) (tr : List (Nat × Kind)) (a : Nat), getL (kindsRev i recs tr) (recs.length + a) = getL tr a
  | [], i, tr, a => by simp [kindsRev]
  | ρ :: recs, i, tr, a => by
    simp only [kindsRev, List.length_cons]
    rw [show recs.length + 1 + a = recs.length + (a + 1) by omega, kindsRev_old recs]; rfl
theorem kindsRev_at {T : Nat → Type} : ∀ (recs : List (DRec T)) (i : Nat) (tr : List (Nat × Kind)) (a : Nat) (ρ : DRec T), getL recs a = some ρ → getL (kindsRev i recs tr) (recs.length - 1 - a) = some (i + a, ρ.kind)
  | [], i, tr, a, ρ, h => by simp [getL] at h
  | ρ0 :: recs, i, tr, 0, ρ, h => by
    simp only [getL, Option.some.injEq] at h
    subst h
    simp only [kindsRev, List.length_cons]
    rw [show recs.length + 1 - 1 - 0 = recs.length + 0 by omega, kindsRev_old]; rfl
  | ρ0 :: recs, i, tr, a + 1, ρ, h => by
    simp only [getL] at h
    have hlt := getL_lt h
    have := kindsRev_at recs (i + 1) ((i, ρ0.kind) :: tr) a ρ h
    simp only [kindsRev, List.length_cons]
    rw [show recs.length + 1 - 1 - (a + 1) = recs.length - 1 - a by omega, this]
    congr 2
    omega
end
end Go.Proofs.Ytjabpjkomgakbaa.V
