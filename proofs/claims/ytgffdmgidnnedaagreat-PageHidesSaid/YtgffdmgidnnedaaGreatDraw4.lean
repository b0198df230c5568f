/- A region whose order is drawn: the record of the order as written, and the state behind any set of operations. -/
import Derived.Test.YtgffdmgidnnedaaGreatDraw3
namespace Go.Proofs.YtgffdmgidnnedaaGreat.V
open Go
set_option linter.unusedVariables false
set_option linter.unusedSimpArgs false
section
variable {G : Prg} {R : Type} {r : R} {X : Ctx} {N : Nat}
theorem kindOf_pl {ann : Ann} {pl : Option Nat} {o : Oper} {σ : St G.E.T} {s : Nat} (h : kindOf G ann pl o σ = some (.slot s)) : pl = some s := by
 obtain ⟨dst, op, type, pos, after, guard⟩ := o
 obtain ⟨env, H⟩ := σ
 cases op <;> simp only [kindOf] at h <;> try (cases h; done)
 case alloc t => split at h <;> cases h; rfl
 case makeMap t res => split at h <;> cases h; rfl
 case makeSlice t l c => split at h <;> cases h; rfl
 case buildSlice t m ps =>
  split at h
  ·cases h
  ·split at h <;> cases h; rfl
 case convert src dst x => split at h <;> cases h
 case slice t x lo hi mx => split at h <;> cases h
 case call c =>
  obtain ⟨callee, args, argTypes⟩ := c
  cases callee with
  | invoke r m => cases h
  | value f =>
   simp only at h
   split at h
   ·split at h
    ·split at h
     ·cases h
     ·split at h
      ·split at h <;> cases h
      ·cases h
    ·cases h
   ·cases h
  | builtin b =>
   cases b <;> simp only at h <;> try (cases h; done)
   case len => split at h <;> cases h
   case append => split at h <;> cases h
   case delete => split at h <;> cases h
   case copy => split at h <;> cases h
theorem kindOf_noslot {ann : Ann} {o : Oper} {σ : St G.E.T} {s : Nat} (h : kindOf G ann none o σ = some (.slot s)) : False := by cases kindOf_pl h
theorem kindOf_slot {ann : Ann} {o : Oper} {σ : St G.E.T} {s s' : Nat} (h : kindOf G ann (some s') o σ = some (.slot s)) : s' = s := by have := kindOf_pl h; cases this; rfl
structure DRec (T : Nat → Type) where
 val : PV T
 run : Bool
 kind : Kind
 /-- behind it -/
 heap : List (Blk T)
def putE {T : Nat → Type} (dst : Option Nat) (v : PV T) (env : List (Nat × PV T)) : List (Nat × PV T) := match dst with
 | some d => (d, v) :: env
 | none => env
def guardB {T : Nat → Type} (ops : List Oper) (env : List (Nat × PV T)) (o : Oper) : Option Bool := match o.guard with
 | none => some true
 | some (j, want) => match dstOf ops j with
  | none => none
  | some g => match look g env with
   | .bool b => some (b == want)
   | .tup l => match l with
    | [] => some false
    | _ :: _ => none
   | _ => none
def Lex (G : Prg) (rec : Rec G) (ann : Ann) (base m N : Nat) (ops : List Oper) : List Oper → St G.E.T → List (DRec G.E.T) → St G.E.T → Prop
 | [], σ, [], σ' => σ' = σ ∧ base + m ≤ σ.heap.length
 | o :: rest, σ, ρ :: recs, σ' => base + m ≤ σ.heap.length ∧ guardB ops σ.env o = some ρ.run ∧ (∀ d, o.dst = some d → d < N) ∧
   (ρ.run = true → kindOf G ann (plOf ann base m o) o σ = some ρ.kind ∧ vop G rec ann (plOf ann base m o) o σ PK = some (ρ.val, ρ.heap)) ∧
   (ρ.run = false → ρ.val = .tup [] ∧ ρ.heap = σ.heap ∧ ρ.kind = .pure []) ∧
   Lex G rec ann base m N ops rest ⟨putE o.dst ρ.val σ.env, ρ.heap⟩ recs σ'
 | _, _, _, _ => False
theorem Lex.big {rec : Rec G} {ann : Ann} {base m : Nat} {ops : List Oper} : ∀ {l : List Oper} {σ : St G.E.T} {recs : List (DRec G.E.T)} {σ' : St G.E.T}, Lex G rec ann base m N ops l σ recs σ' → base + m ≤ σ.heap.length
 | [], σ, [], σ', h => h.2
 | o :: l, σ, ρ :: recs, σ', h => h.1
 | [], σ, _ :: _, σ', h => h.elim
 | _ :: _, σ, [], σ', h => h.elim
def Alike {T : Nat → Type} (e e' : List (Nat × PV T)) : Prop := ∀ t, look t e = look t e'
theorem Alike.refl {T : Nat → Type} (e : List (Nat × PV T)) : Alike e e := fun _ => rfl
theorem Alike.symm {T : Nat → Type} {e e' : List (Nat × PV T)} (h : Alike e e') : Alike e' e := fun t => (h t).symm
theorem Alike.trans {T : Nat → Type} {e e' e'' : List (Nat × PV T)} (h : Alike e e') (g : Alike e' e'') : Alike e e'' := fun t => (h t).trans (g t)
theorem Alike.eval {T : Nat → Type} {e e' : List (Nat × PV T)} (h : Alike e e') (x : Operand) : eval e x = eval e' x := by cases x <;> first | rfl | exact h _
theorem Alike.put {T : Nat → Type} {e e' : List (Nat × PV T)} (h : Alike e e') (d : Option Nat) (v : PV T) : Alike (putE d v e) (putE d v e') := by
 intro t
 cases d with
 | none => exact h t
 | some d =>
  simp only [putE, look]
  split
  ·rfl
  ·exact h t
theorem Alike.push {T : Nat → Type} {e : List (Nat × PV T)} {g : Nat} {v : PV T} (h : look g e = v) : Alike ((g, v) :: e) e := by
 intro t
 simp only [look]
 split
 ·rename_i e'
  have := nat_beq e'
  subst this
  exact h.symm
 ·rfl
theorem Alike.guard {T : Nat → Type} {ops : List Oper} {e e' : List (Nat × PV T)} (h : Alike e e') (o : Oper) : guardB ops e o = guardB ops e' o := by
 unfold guardB
 split
 ·rfl
 ·split
  ·rfl
  ·rw [h]
theorem put_some {T : Nat → Type} {dst : Option Nat} {v : PV T} {env env' : List (Nat × PV T)} (h : V.put N dst v env = some env') : env' = putE dst v env ∧ ∀ d, dst = some d → d < N := by
 cases dst with
 | none => simp only [V.put] at h; cases h; exact ⟨rfl, fun d h => by cases h⟩
 | some d =>
  simp only [V.put] at h
  split at h
  ·rename_i hd
   cases h
   exact ⟨rfl, fun d' e => by cases e; exact blt_iff.1 hd⟩
  ·cases h
def kindsRev {T : Nat → Type} : Nat → List (DRec T) → List (Nat × Kind) → List (Nat × Kind)
 | _, [], tr => tr
 | i, ρ :: recs, tr => kindsRev (i + 1) recs ((i, ρ.kind) :: tr)
theorem vdraw_lex {rec : Rec G} {ann : Ann} {base m : Nat} {ops : List Oper} {anc : List Nat} {k : St G.E.T → Option R} : ∀ {rest : List Oper} {i : Nat} {tr : List (Nat × Kind)} {σ : St G.E.T}, vdraw G rec ann base m N ops anc i rest tr σ k = some r →
  ∀ env, Alike env σ.env → ∃ recs σ' σk, Lex G rec ann base m N ops rest ⟨env, σ.heap⟩ recs σ' ∧ k σk = some r ∧ σk.heap = σ'.heap ∧ Alike σk.env σ'.env ∧ fitsAll anc (kindsRev i recs tr) = true
 | [], i, tr, σ, h, env, he => by
  simp only [vdraw] at h
  split at h
  ·rename_i hf hb
   exact ⟨[], ⟨env, σ.heap⟩, σ, ⟨rfl, Nat.le_of_ble_eq_true hb⟩, h, rfl, he.symm, hf⟩
  ·cases h
 | o :: rest, i, tr, σ, h, env, he => by
  have hbig : base + m ≤ σ.heap.length := by
   simp only [vdraw] at h
   split at h
   ·cases h
   ·rename_i hb _; exact Nat.le_of_ble_eq_true hb
   ·rename_i hb _; exact Nat.le_of_ble_eq_true hb
  have go : ∀ {env1 : List (Nat × PV G.E.T)}, Alike env env1 → guardB ops env o = some true → (match kindOf G ann (plOf ann base m o) o ⟨env1, σ.heap⟩ with
    | none => none
    | some κ => vop G rec ann (plOf ann base m o) o ⟨env1, σ.heap⟩ fun v h => match V.put N o.dst v env1 with
     | some env => vdraw G rec ann base m N ops anc (i + 1) rest ((i, κ) :: tr) ⟨env, h⟩ k
     | none => none) = some r → ∃ recs σ' σk, Lex G rec ann base m N ops (o :: rest) ⟨env, σ.heap⟩ recs σ' ∧ k σk = some r ∧ σk.heap = σ'.heap ∧ Alike σk.env σ'.env ∧ fitsAll anc (kindsRev i recs tr) = true := by
   intro env1 h1 hg hh
   split at hh
   ·cases hh
   ·rename_i κ hκ
    rw [vop_k] at hh
    obtain ⟨⟨p, H'⟩, h2, h3⟩ := Option.bind_eq_some_iff.1 hh
    simp only at h3
    split at h3
    ·rename_i env2 hput
     obtain ⟨rfl, hN⟩ := put_some hput
     obtain ⟨recs, σ', σk, g1, g2, g3, g4, g5⟩ := vdraw_lex h3 (putE o.dst p env) (h1.put _ _)
     refine ⟨⟨p, true, κ, H'⟩ :: recs, σ', σk, ⟨hbig, hg, hN, fun _ => ⟨?_, ?_⟩, (fun e => by cases e), g1⟩, g2, g3, g4, g5⟩
     ·rw [kindOf_env fun x _ => h1.eval x]; exact hκ
     ·rw [vop_env _ fun x _ => h1.eval x]; exact h2
    ·cases h3
  have skip : ∀ {env1 : List (Nat × PV G.E.T)}, Alike env env1 → guardB ops env o = some false → (match V.put N o.dst (.tup []) env1 with
     | some env => vdraw G rec ann base m N ops anc (i + 1) rest ((i, .pure []) :: tr) ⟨env, σ.heap⟩ k
     | none => none) = some r → ∃ recs σ' σk, Lex G rec ann base m N ops (o :: rest) ⟨env, σ.heap⟩ recs σ' ∧ k σk = some r ∧ σk.heap = σ'.heap ∧ Alike σk.env σ'.env ∧ fitsAll anc (kindsRev i recs tr) = true := by
   intro env1 h1 hg hh
   split at hh
   ·rename_i env2 hput
    obtain ⟨rfl, hN⟩ := put_some hput
    obtain ⟨recs, σ', σk, g1, g2, g3, g4, g5⟩ := vdraw_lex hh (putE o.dst (.tup []) env) (h1.put _ _)
    exact ⟨⟨.tup [], false, .pure [], σ.heap⟩ :: recs, σ', σk, ⟨hbig, hg, hN, (fun e => by cases e), fun _ => ⟨rfl, rfl, rfl⟩, g1⟩, g2, g3, g4, g5⟩
   ·cases hh
  simp only [vdraw] at h
  split at h
  ·cases h
  ·rename_i _ e1
   exact go he (by unfold guardB; rw [e1]) h
  ·rename_i j want _ e1
   split at h
   ·cases h
   ·rename_i g e2
    split at h
    ·rename_i b e3
     have hg : guardB ops env o = some (b == want) := by unfold guardB; rw [e1]; simp only; rw [e2]; simp only; rw [he g, e3]
     have ha : Alike env ((g, .bool b) :: σ.env) := he.trans (Alike.push e3).symm
     cases b with
     | true =>
      simp only [if_true] at h
      cases want
      ·exact skip ha hg h
      ·exact go ha hg h
     | false =>
      simp only [Bool.false_eq_true, if_false] at h
      cases want
      ·exact go ha hg h
      ·exact skip ha hg h
    ·rename_i l e3
     split at h
     ·exact skip he (by unfold guardB; rw [e1]; simp only; rw [e2]; simp only; rw [he g, e3]) h
     ·cases h
    ·cases h
/-! ### The state behind a set of operations -/
def isEff : Kind → Bool
 | .pure _ => false
 | .eff _ _ => true
 | .effp _ _ _ => true
 | .slot _ => true
/-- which blocks an operation may change -/
def writesB (κ : Kind) (id : Nat) : Bool := match κ with
 | .pure _ => false
 | .eff T n => decide (id ∈ T ∨ n ≤ id)
 | .effp _ T n => decide (id ∈ T ∨ n ≤ id)
 | .slot s => decide (id = s)
def envS {T : Nat → Type} (S : Nat → Bool) : Nat → List Oper → List (DRec T) → List (Nat × PV T) → List (Nat × PV T)
 | k, o :: l, ρ :: recs, env => envS S (k + 1) l recs (if S k = true then putE o.dst ρ.val env else env)
 | _, _, _, env => env
def overF {T : Nat → Type} (ρ : DRec T) (f : Nat → Option (Blk T)) : Nat → Option (Blk T) := fun id => if writesB ρ.kind id = true then getL ρ.heap id else f id
/-- the blocks, each as the last operation of the set that may change it left it -/
def blkS {T : Nat → Type} (S : Nat → Bool) : Nat → List (DRec T) → (Nat → Option (Blk T)) → Nat → Option (Blk T)
 | k, ρ :: recs, f => blkS S (k + 1) recs (if S k = true then overF ρ f else f)
 | _, [], f => f
theorem look_putE {T : Nat → Type} {d : Option Nat} {v : PV T} {e : List (Nat × PV T)} {t : Nat} : look t (putE d v e) = if d = some t then v else look t e := by
 cases d with
 | none => simp [putE]
 | some d =>
  simp only [putE, look]
  by_cases h : d = t
  ·subst h; simp
  ·have : Nat.beq t d = false := by
    rcases hq : Nat.beq t d with _ | _
    ·rfl
    ·exact absurd (nat_beq hq).symm h
   simp [this, h]
theorem envS_congr {T : Nat → Type} {S S' : Nat → Bool} {t : Nat} : ∀ (l : List Oper) (recs : List (DRec T)) (k : Nat) (e e' : List (Nat × PV T)), look t e = look t e' → (∀ i o, getL l i = some o → o.dst = some t → S (k + i) = S' (k + i)) →
  look t (envS S k l recs e) = look t (envS S' k l recs e')
 | [], recs, k, e, e', he, h => by cases recs <;> exact he
 | o :: l, [], k, e, e', he, h => he
 | o :: l, ρ :: recs, k, e, e', he, h => by
  simp only [envS]
  refine envS_congr l recs (k + 1) _ _ ?_ fun i o' hi hd => by have := h (i + 1) o' hi hd; rwa [show k + (i + 1) = k + 1 + i by omega] at this
  by_cases hd : o.dst = some t
  ·have h0 : S k = S' k := by simpa using h 0 o rfl hd
   rw [h0]
   split
   ·rw [look_putE, look_putE, if_pos hd, if_pos hd]
   ·exact he
  ·have h1 : ∀ e : List (Nat × PV T), look t (putE o.dst ρ.val e) = look t e := fun e => by rw [look_putE, if_neg hd]
   split <;> split <;> (try simp only [h1]) <;> exact he
theorem envS_last {T : Nat → Type} {S : Nat → Bool} {t : Nat} : ∀ (l : List Oper) (recs : List (DRec T)) (k i : Nat) (o : Oper) (ρ : DRec T) (e : List (Nat × PV T)), getL l i = some o → getL recs i = some ρ → o.dst = some t → S (k + i) = true →
  (∀ j o', i < j → getL l j = some o' → o'.dst = some t → S (k + j) = false) → look t (envS S k l recs e) = ρ.val
 | [], recs, k, i, o, ρ, e, h, _, _, _, _ => by simp [getL] at h
 | q :: l, [], k, i, o, ρ, e, _, h, _, _, _ => by simp [getL] at h
 | q :: l, ρ0 :: recs, k, 0, o, ρ, e, h1, h2, h3, h4, h5 => by
  simp only [getL, Option.some.injEq] at h1 h2
  subst h1; subst h2
  simp only [envS]
  rw [Nat.add_zero] at h4
  rw [if_pos h4]
  have : look t (envS S (k + 1) l recs (putE q.dst ρ0.val e)) = look t (envS (fun _ => false) (k + 1) l recs (putE q.dst ρ0.val e)) :=
   envS_congr l recs (k + 1) _ _ rfl fun i o' hi hd => by have := h5 (i + 1) o' (by omega) hi hd; rwa [show k + (i + 1) = k + 1 + i by omega] at this
  rw [this]
  have none : ∀ (l : List Oper) (recs : List (DRec T)) (k : Nat) (e : List (Nat × PV T)), envS (fun _ => false) k l recs e = e := by
   intro l
   induction l with
   | nil => intro recs k e; cases recs <;> rfl
   | cons o l ih =>
    intro recs k e
    cases recs with
    | nil => rfl
    | cons ρ recs => simp only [envS, Bool.false_eq_true, if_false]; exact ih recs (k + 1) e
  rw [none, look_putE, if_pos h3]
 | q :: l, ρ0 :: recs, k, i + 1, o, ρ, e, h1, h2, h3, h4, h5 => by
  simp only [getL] at h1 h2
  simp only [envS]
  refine envS_last l recs (k + 1) i o ρ _ h1 h2 h3 (by rwa [show k + (i + 1) = k + 1 + i by omega] at h4) fun j o' hj ho hd => ?_
  have := h5 (j + 1) o' (by omega) ho hd
  rwa [show k + (j + 1) = k + 1 + j by omega] at this
theorem blkS_congr {T : Nat → Type} {S S' : Nat → Bool} {id : Nat} : ∀ (recs : List (DRec T)) (k : Nat) (f f' : Nat → Option (Blk T)), f id = f' id → (∀ i ρ, getL recs i = some ρ → writesB ρ.kind id = true → S (k + i) = S' (k + i)) → blkS S k recs f id = blkS S' k recs f' id
 | [], k, f, f', h, _ => h
 | ρ :: recs, k, f, f', h, hh => by
  simp only [blkS]
  refine blkS_congr recs (k + 1) _ _ ?_ fun i ρ' hi hw => by have := hh (i + 1) ρ' hi hw; rwa [show k + (i + 1) = k + 1 + i by omega] at this
  cases hw : writesB ρ.kind id with
  | true =>
   have h0 := hh 0 ρ rfl hw
   rw [Nat.add_zero] at h0
   rw [h0]
   split
   ·simp only [overF, hw, if_true]
   ·exact h
  | false =>
   have o1 : ∀ f : Nat → Option (Blk T), overF ρ f id = f id := fun f => by simp only [overF, hw, Bool.false_eq_true, if_false]
   have o2 : ∀ (c : Prop) [Decidable c] (f : Nat → Option (Blk T)), (if c then overF ρ f else f) id = f id := fun c _ f => by
    split
    ·exact o1 f
    ·rfl
   rw [o2, o2]; exact h
theorem blkS_none {T : Nat → Type} {S : Nat → Bool} : ∀ (recs : List (DRec T)) (k : Nat) (f : Nat → Option (Blk T)), (∀ i, S (k + i) = false) → blkS S k recs f = f
 | [], k, f, _ => rfl
 | ρ :: recs, k, f, h => by
  simp only [blkS]
  have h0 := h 0
  rw [Nat.add_zero] at h0
  rw [h0]
  simp only [Bool.false_eq_true, if_false]
  exact blkS_none recs (k + 1) f fun i => by have := h (i + 1); rwa [show k + (i + 1) = k + 1 + i by omega] at this
/-- which blocks there are hangs on the operations that lay new ones behind the others -/
theorem blkS_some {T : Nat → Type} {S S' : Nat → Bool} {L : Nat} : ∀ (recs : List (DRec T)) (k : Nat) (f f' : Nat → Option (Blk T)), (∀ id, (f id).isSome = (f' id).isSome) → (∀ id, id < L → (f id).isSome = true) →
  (∀ i ρ, getL recs i = some ρ → L ≤ ρ.heap.length) → (∀ i ρ s, getL recs i = some ρ → ρ.kind = .slot s → s < L) → (∀ i ρ, getL recs i = some ρ → isEff ρ.kind = true → (∃ s, ρ.kind = .slot s) ∨ S (k + i) = S' (k + i)) →
  ∀ id, (blkS S k recs f id).isSome = (blkS S' k recs f' id).isSome
 | [], k, f, f', h, _, _, _, _ => h
 | ρ :: recs, k, f, f', h, hL, h1, h2, h3 => by
  simp only [blkS]
  have big : ∀ id, id < L → (getL ρ.heap id).isSome = true := fun id hid => by
   obtain ⟨b, hb⟩ := getL_some_of_lt (l := ρ.heap) (i := id) (Nat.lt_of_lt_of_le hid (h1 0 ρ rfl))
   rw [hb]; rfl
  have sh : ∀ i, k + (i + 1) = k + 1 + i := fun i => by omega
  refine blkS_some (L := L) recs (k + 1) _ _ (fun id => ?_) (fun id hid => ?_) (fun i ρ' hi => h1 (i + 1) ρ' hi) (fun i ρ' s hi hs => h2 (i + 1) ρ' s hi hs) (fun i ρ' hi he => by have := h3 (i + 1) ρ' hi he; rwa [sh] at this)
  ·cases he : isEff ρ.kind with
   | false =>
    have o1 : ∀ f : Nat → Option (Blk T), overF ρ f id = f id := fun f => by
     have : writesB ρ.kind id = false := by cases hk : ρ.kind <;> rw [hk] at he <;> simp [isEff] at he <;> rfl
     simp only [overF, this, Bool.false_eq_true, if_false]
    have o2 : ∀ (c : Prop) [Decidable c] (f : Nat → Option (Blk T)), (if c then overF ρ f else f) id = f id := fun c _ f => by
     split
     ·exact o1 f
     ·rfl
    rw [o2, o2]; exact h id
   | true =>
    rcases h3 0 ρ rfl he with ⟨s, hs⟩ | h0
    ·have hsL := h2 0 ρ s rfl hs
     have o1 : ∀ f : Nat → Option (Blk T), (∀ id, id < L → (f id).isSome = true) → (overF ρ f id).isSome = (f id).isSome := fun f hf => by
      simp only [overF, hs, writesB, decide_eq_true_eq]
      split
      ·rename_i e
       subst e
       rw [big id hsL, hf id hsL]
      ·rfl
     have hL' : ∀ id, id < L → (f' id).isSome = true := fun id hid => by rw [← h id]; exact hL id hid
     have o2 : ∀ (c : Prop) [Decidable c] (f : Nat → Option (Blk T)), (∀ id, id < L → (f id).isSome = true) → ((if c then overF ρ f else f) id).isSome = (f id).isSome := fun c _ f hf => by
      split
      ·exact o1 f hf
      ·rfl
     rw [o2 _ f hL, o2 _ f' hL']; exact h id
    ·rw [Nat.add_zero] at h0
     rw [h0]
     split
     ·simp only [overF]
      split
      ·rfl
      ·exact h id
     ·exact h id
  ·split
   ·simp only [overF]
    split
    ·exact big id hid
    ·exact hL id hid
   ·exact hL id hid
/-- a record of the order as written: what holds at each operation -/
theorem Lex.len {rec : Rec G} {ann : Ann} {base m : Nat} {ops : List Oper} : ∀ {l : List Oper} {σ : St G.E.T} {recs : List (DRec G.E.T)} {σ' : St G.E.T}, Lex G rec ann base m N ops l σ recs σ' → recs.length = l.length
 | [], σ, [], σ', h => rfl
 | o :: l, σ, ρ :: recs, σ', h => by simp [Lex.len h.2.2.2.2.2]
 | [], σ, _ :: _, σ', h => h.elim
 | _ :: _, σ, [], σ', h => h.elim
/-- an operation leaves what it does not change -/
theorem Lex.stay {rec : Rec G} {ann : Ann} {base m : Nat} {ops : List Oper} {o : Oper} {l : List Oper} {σ : St G.E.T} {ρ : DRec G.E.T} {recs : List (DRec G.E.T)} {σ' : St G.E.T} (h : Lex G rec ann base m N ops (o :: l) σ (ρ :: recs) σ') {id : Nat} (hw : writesB ρ.kind id = false) : getL ρ.heap id = getL σ.heap id := by
 obtain ⟨_, h1, h2, h3, h4, h5⟩ := h
 cases hr : ρ.run with
 | false => rw [(h4 hr).2.1]
 | true =>
  obtain ⟨g1, g2⟩ := h3 hr
  obtain ⟨env, H⟩ := σ
  cases hk : ρ.kind with
  | pure F => rw [hk] at g1; rw [(vop_pure (rec := rec) g1 ρ.val ρ.heap g2).1]
  | eff T n =>
   rw [hk] at g1 hw
   obtain ⟨rfl, q⟩ := vop_eff g1 g2
   simp only [writesB, decide_eq_false_iff_not, not_or] at hw
   exact q id (by simp only at hw ⊢; omega) hw.1
  | effp F T n =>
   rw [hk] at g1 hw
   obtain ⟨rfl, q, _⟩ := vop_effp g1 g2
   simp only [writesB, decide_eq_false_iff_not, not_or] at hw
   exact q id (by omega) hw.1
  | slot s =>
   rw [hk] at g1 hw
   obtain ⟨_, b, q, _⟩ := vop_slot g1 g2
   simp only [writesB, decide_eq_false_iff_not] at hw
   rw [q, getL_setL_ne hw]
theorem Lex.over {rec : Rec G} {ann : Ann} {base m : Nat} {ops : List Oper} {o : Oper} {l : List Oper} {σ : St G.E.T} {ρ : DRec G.E.T} {recs : List (DRec G.E.T)} {σ' : St G.E.T} (h : Lex G rec ann base m N ops (o :: l) σ (ρ :: recs) σ') : overF ρ (getL σ.heap) = getL ρ.heap := by
 funext id
 cases hw : writesB ρ.kind id with
 | true => simp only [overF, hw, if_true]
 | false => simp only [overF, hw, Bool.false_eq_true, if_false]; exact (h.stay hw).symm
theorem envS_zero {T : Nat → Type} : ∀ (l : List Oper) (recs : List (DRec T)) (m k : Nat) (e : List (Nat × PV T)), m ≤ k → envS (fun j => decide (j < m)) k l recs e = e
 | [], recs, m, k, e, _ => by cases recs <;> rfl
 | o :: l, [], m, k, e, _ => rfl
 | o :: l, ρ :: recs, m, k, e, hm => by
  simp only [envS]
  rw [if_neg (by simp; omega)]
  exact envS_zero l recs m (k + 1) e (by omega)
theorem Lex.at_ {rec : Rec G} {ann : Ann} {base m : Nat} {ops : List Oper} : ∀ {l : List Oper} {σ : St G.E.T} {recs : List (DRec G.E.T)} {σ' : St G.E.T} (k : Nat), Lex G rec ann base m N ops l σ recs σ' → ∀ i o, getL l i = some o → ∃ ρ σi, getL recs i = some ρ ∧
  σi.env = envS (fun j => decide (j < k + i)) k l recs σ.env ∧ getL σi.heap = blkS (fun j => decide (j < k + i)) k recs (getL σ.heap) ∧ guardB ops σi.env o = some ρ.run ∧ (∀ d, o.dst = some d → d < N) ∧
  (ρ.run = true → kindOf G ann (plOf ann base m o) o σi = some ρ.kind ∧ vop G rec ann (plOf ann base m o) o σi PK = some (ρ.val, ρ.heap)) ∧ (ρ.run = false → ρ.val = .tup [] ∧ ρ.heap = σi.heap ∧ ρ.kind = .pure []) ∧
  getL ρ.heap = blkS (fun j => decide (j < k + i + 1)) k recs (getL σ.heap) ∧ base + m ≤ ρ.heap.length
 | [], σ, recs, σ', k, h, i, o, hi => by simp [getL] at hi
 | q :: l, σ, [], σ', k, h, i, o, hi => h.elim
 | q :: l, σ, ρ0 :: recs, σ', k, h, i, o, hi => by
  cases i with
  | zero =>
   simp only [getL, Option.some.injEq] at hi
   subst hi
   obtain ⟨h0, h1, h2, h3, h4, h5⟩ := id h
   refine ⟨ρ0, σ, rfl, (envS_zero _ _ _ _ _ (by omega)).symm, (blkS_none _ _ _ fun i => by simp).symm, h1, h2, h3, h4, ?_, h5.big⟩
   simp only [blkS, Nat.add_zero]
   rw [if_pos (by simp), h.over, blkS_none _ _ _ fun i => by simp]
  | succ i =>
   simp only [getL] at hi
   obtain ⟨ρ, σi, g1, g2, g3, g4, g5, g6, g7, g8, g9⟩ := Lex.at_ (k + 1) h.2.2.2.2.2 i o hi
   have e1 : k + (i + 1) = k + 1 + i := by omega
   refine ⟨ρ, σi, g1, ?_, ?_, g4, g5, g6, g7, ?_, g9⟩
   ·simp only [envS]
    rw [if_pos (by simp), e1]; exact g2
   ·simp only [blkS]
    rw [g3, e1, if_pos (by simp; omega), h.over]
   ·simp only [blkS]
    rw [g8, e1, if_pos (by simp; omega), h.over]
theorem Lex.end_ {rec : Rec G} {ann : Ann} {base m : Nat} {ops : List Oper} : ∀ {l : List Oper} {σ : St G.E.T} {recs : List (DRec G.E.T)} {σ' : St G.E.T} (k : Nat) {S : Nat → Bool}, Lex G rec ann base m N ops l σ recs σ' → (∀ i, i < l.length → S (k + i) = true) →
  σ'.env = envS S k l recs σ.env ∧ getL σ'.heap = blkS S k recs (getL σ.heap)
 | [], σ, [], σ', k, S, h, hS => by
  have : σ' = σ := h.1
  subst this; exact ⟨rfl, rfl⟩
 | q :: l, σ, ρ :: recs, σ', k, S, h, hS => by
  obtain ⟨g1, g2⟩ := Lex.end_ (k + 1) (S := S) h.2.2.2.2.2 fun i hi => by have := hS (i + 1) (by simpa using hi); rwa [show k + (i + 1) = k + 1 + i by omega] at this
  have h0 : S k = true := by simpa using hS 0 (by simp)
  simp only [envS, blkS, h0, if_true]
  exact ⟨g1, by rw [g2, h.over]⟩
 | [], σ, _ :: _, σ', k, S, h, hS => h.elim
 | _ :: _, σ, [], σ', k, S, h, hS => h.elim
theorem Lex.slots {rec : Rec G} {ann : Ann} {base m : Nat} {ops : List Oper} : ∀ {l : List Oper} {σ : St G.E.T} {recs : List (DRec G.E.T)} {σ' : St G.E.T}, Lex G rec ann base m N ops l σ recs σ' → ∀ i ρ s, getL recs i = some ρ → ρ.kind = .slot s → s < base + m
 | [], σ, [], σ', h, i, ρ, s, hi, _ => by simp [getL] at hi
 | o :: l, σ, ρ0 :: recs, σ', h, 0, ρ, s, hi, hs => by
  simp only [getL, Option.some.injEq] at hi
  subst hi
  obtain ⟨_, h1, h2, h3, h4, h5⟩ := h
  cases hr : ρ0.run with
  | false => rw [(h4 hr).2.2] at hs; cases hs
  | true =>
   have g := (h3 hr).1
   rw [hs] at g
   have hp : plOf ann base m o = some s := by
    obtain ⟨dst, op, type, pos, after, guard⟩ := o
    cases hpl : plOf ann base m ⟨dst, op, type, pos, after, guard⟩ with
    | none => rw [hpl] at g; exact (kindOf_noslot g).elim
    | some s' => rw [hpl] at g; rw [kindOf_slot g]
   unfold plOf at hp
   split at hp
   ·split at hp
    ·split at hp
     ·rename_i hq
      have := blt_iff.1 hq
      cases hp; omega
     ·cases hp
    ·cases hp
   ·cases hp
 | o :: l, σ, ρ0 :: recs, σ', h, i + 1, ρ, s, hi, hs => Lex.slots h.2.2.2.2.2 i ρ s hi hs
 | [], σ, _ :: _, σ', h, _, _, _, _, _ => h.elim
 | _ :: _, σ, [], σ', h, _, _, _, _, _ => h.elim
theorem kindsRev_length {T : Nat → Type} : ∀ (recs : List (DRec T)) (i : Nat) (tr : List (Nat × Kind)), (kindsRev i recs tr).length = recs.length + tr.length
 | [], i, tr => by simp [kindsRev]
 | ρ :: recs, i, tr => by simp only [kindsRev]; rw [kindsRev_length recs]; simp; omega
theorem kindsRev_old {T : Nat → Type} : ∀ (recs : List (DRec T)) (i : Nat) (tr : List (Nat × Kind)) (a : Nat), getL (kindsRev i recs tr) (recs.length + a) = getL tr a
 | [], i, tr, a => by simp [kindsRev]
 | ρ :: recs, i, tr, a => by
  simp only [kindsRev, List.length_cons]
  rw [show recs.length + 1 + a = recs.length + (a + 1) by omega, kindsRev_old recs]; rfl
theorem kindsRev_at {T : Nat → Type} : ∀ (recs : List (DRec T)) (i : Nat) (tr : List (Nat × Kind)) (a : Nat) (ρ : DRec T), getL recs a = some ρ → getL (kindsRev i recs tr) (recs.length - 1 - a) = some (i + a, ρ.kind)
 | [], i, tr, a, ρ, h => by simp [getL] at h
 | ρ0 :: recs, i, tr, 0, ρ, h => by
  simp only [getL, Option.some.injEq] at h
  subst h
  simp only [kindsRev, List.length_cons]
  rw [show recs.length + 1 - 1 - 0 = recs.length + 0 by omega, kindsRev_old]; rfl
 | ρ0 :: recs, i, tr, a + 1, ρ, h => by
  simp only [getL] at h
  have hlt := getL_lt h
  have := kindsRev_at recs (i + 1) ((i, ρ0.kind) :: tr) a ρ h
  simp only [kindsRev, List.length_cons]
  rw [show recs.length + 1 - 1 - (a + 1) = recs.length - 1 - a by omega, this]
  congr 2
  omega
end
end Go.Proofs.YtgffdmgidnnedaaGreat.V
