/- The equation of a function: what it answers is what its body answers, calls answered alike. -/
import Derived.Test.YtgffdmgidnnedaaGreatFun
namespace Go.Proofs.YtgffdmgidnnedaaGreat.V
open Go
set_option linter.unusedVariables false
set_option linter.unusedSimpArgs false
section
variable {G : Prg} {R : Type} {r : R}
/-! ### From some depth on -/
def Ev (P : Nat → Prop) : Prop := ∃ n, ∀ m, n ≤ m → P m
theorem Ev.all {P : Nat → Prop} (h : ∀ m, P m) : Ev P := ⟨0, fun m _ => h m⟩
theorem Ev.and {P Q R : Nat → Prop} (h : Ev P) (g : Ev Q) (hr : ∀ m, P m → Q m → R m) : Ev R := by
 obtain ⟨n, hn⟩ := h
 obtain ⟨m, hm⟩ := g
 exact ⟨max n m, fun k hk => hr k (hn k (by omega)) (hm k (by omega))⟩
theorem Ev.imp {P Q : Nat → Prop} (h : Ev P) (hr : ∀ m, P m → Q m) : Ev Q := by
 obtain ⟨n, hn⟩ := h
 exact ⟨n, fun k hk => hr k (hn k hk)⟩
variable {recI : Rec G} {recs : Nat → Rec G} {N : Nat}
def RecEv (recI : Rec G) (recs : Nat → Rec G) : Prop := ∀ i p q, recI i p = some q → Ev fun m => recs m i p = some q
theorem callV_ev (hrec : RecEv recI recs) {i : Nat} {H : List (Blk G.E.T)} {args : List (PV G.E.T)} {y : PV G.E.T × List (Blk G.E.T)} (h : callV G recI i H args PK = some y) : Ev fun m => callV G (recs m) i H args PK = some y := by
 unfold callV at h
 split at h
 ·cases h
 ·cases h
 ·rename_i a cs h1 h2
  split at h
  ·cases h
  ·rename_i p hp
   split at h
   ·cases h
   ·rename_i heap' hh
    obtain ⟨q, hq, hK⟩ := Option.bind_eq_some_iff.1 h
    refine (hrec i p q hq).imp fun m hm => ?_
    unfold callV
    rw [h1, h2]
    simp only
    rw [hp]
    simp only
    rw [hh]
    simp only
    exact Option.bind_eq_some_iff.2 ⟨q, hm, hK⟩
theorem vop_ev (hrec : RecEv recI recs) {ann : Ann} {pl : Option Nat} {o : Oper} {σ : St G.E.T} {KI : PV G.E.T → List (Blk G.E.T) → Option R} {Ks : Nat → PV G.E.T → List (Blk G.E.T) → Option R}
  (hK : ∀ p h, KI p h = some r → Ev fun m => Ks m p h = some r) (h : vop G recI ann pl o σ KI = some r) : Ev fun m => vop G (recs m) ann pl o σ (Ks m) = some r := by
 rw [vop_k] at h
 obtain ⟨y, h1, h2⟩ := Option.bind_eq_some_iff.1 h
 have : Ev fun m => vop G (recs m) ann pl o σ PK = some y := by
  cases hc : isCall o with
  | false =>
   refine .all fun m => ?_
   rw [← h1]
   obtain ⟨dst, op, type, pos, after, guard⟩ := o
   cases op
   case call c =>
    obtain ⟨callee, args, argTypes⟩ := c
    cases callee
    case value => simp [isCall] at hc
    case builtin b => cases b <;> simp only [vop]
    case invoke => simp only [vop]
   case makeFunc fn first captured => cases fn <;> simp only [vop]
   case makeMap t res => cases res <;> simp only [vop]
   all_goals simp only [vop]
  | true =>
   obtain ⟨dst, op, type, pos, after, guard⟩ := o
   cases op <;> simp only [isCall] at hc <;> try (cases hc; done)
   rename_i c
   obtain ⟨callee, args, argTypes⟩ := c
   cases callee <;> simp only at hc <;> try (cases hc; done)
   simp only [vop] at h1
   split at h1
   ·rename_i e1
    split at h1
    ·rename_i e2
     split at h1
     ·rename_i e3
      refine (callV_ev hrec h1).imp fun m hm => ?_
      simp only [vop]
      rw [e1]
      simp only
      rw [e2]
      simp only
      rw [e3]
      exact hm
     ·cases h1
    ·rename_i e2
     refine .all fun m => ?_
     simp only [vop]
     rw [e1]
     simp only
     rw [e2]
     exact h1
   ·cases h1
 exact this.and (hK y.1 y.2 h2) fun m a b => by rw [vop_k, a]; exact b
theorem vops_ev (hrec : RecEv recI recs) {ann : Ann} {ops : List Oper} : ∀ {rest : List Oper} {σ : St G.E.T} {kI : St G.E.T → Option R} {ks : Nat → St G.E.T → Option R},
  (∀ σ, kI σ = some r → Ev fun m => ks m σ = some r) → vops G recI ann N ops rest σ kI = some r → Ev fun m => vops G (recs m) ann N ops rest σ (ks m) = some r
 | [], σ, kI, ks, hk, h => by
  simp only [vops] at h ⊢
  exact hk σ h
 | o :: rest, σ, kI, ks, hk, h => by
  have go : ∀ {σ0 : St G.E.T} {env0 : List (Nat × PV G.E.T)}, (vop G recI ann none o σ0 fun v h => match V.put N o.dst v env0 with
     | some env => vops G recI ann N ops rest ⟨env, h⟩ kI
     | none => none) = some r → Ev fun m => (vop G (recs m) ann none o σ0 fun v h => match V.put N o.dst v env0 with
     | some env => vops G (recs m) ann N ops rest ⟨env, h⟩ (ks m)
     | none => none) = some r := fun h => vop_ev hrec (fun p h' hh => by
    split at hh
    ·rename_i e1
     refine (vops_ev hrec hk hh).imp fun m hm => ?_
     first | exact hm | (rw [e1]; exact hm)
    ·cases hh) h
  have skip : ∀ {env0 : List (Nat × PV G.E.T)}, (match V.put N o.dst (.tup []) env0 with
     | some env => vops G recI ann N ops rest ⟨env, σ.heap⟩ kI
     | none => none) = some r → Ev fun m => (match V.put N o.dst (.tup []) env0 with
     | some env => vops G (recs m) ann N ops rest ⟨env, σ.heap⟩ (ks m)
     | none => none) = some r := fun hh => by
    split at hh
    ·rename_i e1
     refine (vops_ev hrec hk hh).imp fun m hm => ?_
     first | exact hm | (rw [e1]; exact hm)
    ·cases hh
  simp only [vops] at h
  split at h
  ·rename_i e1
   refine (go h).imp fun m hm => ?_
   simp only [vops]
   rw [e1]; exact hm
  ·rename_i j want e1
   split at h
   ·cases h
   ·rename_i g e2
    split at h
    ·rename_i b e3
     cases b with
     | true =>
      simp only [if_true] at h
      cases want
      ·refine (skip h).imp fun m hm => ?_
       simp only [vops]; rw [e1]; simp only; rw [e2]; simp only; rw [e3]; exact hm
      ·refine (go h).imp fun m hm => ?_
       simp only [vops]; rw [e1]; simp only; rw [e2]; simp only; rw [e3]; exact hm
     | false =>
      simp only [Bool.false_eq_true, if_false] at h
      cases want
      ·refine (go h).imp fun m hm => ?_
       simp only [vops]; rw [e1]; simp only; rw [e2]; simp only; rw [e3]; exact hm
      ·refine (skip h).imp fun m hm => ?_
       simp only [vops]; rw [e1]; simp only; rw [e2]; simp only; rw [e3]; exact hm
    ·rename_i l e3
     split at h
     ·refine (skip h).imp fun m hm => ?_
      simp only [vops]; rw [e1]; simp only; rw [e2]; simp only; rw [e3]; exact hm
     ·cases h
    ·cases h
theorem vdraw_ev (hrec : RecEv recI recs) {ann : Ann} {base m0 : Nat} {ops : List Oper} {anc : List Nat} : ∀ {rest : List Oper} {i : Nat} {tr : List (Nat × Kind)} {σ : St G.E.T} {kI : St G.E.T → Option R} {ks : Nat → St G.E.T → Option R},
  (∀ σ, kI σ = some r → Ev fun m => ks m σ = some r) → vdraw G recI ann base m0 N ops anc i rest tr σ kI = some r → Ev fun m => vdraw G (recs m) ann base m0 N ops anc i rest tr σ (ks m) = some r
 | [], i, tr, σ, kI, ks, hk, h => by
  simp only [vdraw] at h ⊢
  split at h
  ·rename_i e eb
   refine (hk σ h).imp fun m hm => ?_
   first | exact hm | (rw [e, eb]; exact hm)
  ·cases h
 | o :: rest, i, tr, σ, kI, ks, hk, h => by
  have go : ∀ {σ0 : St G.E.T} {env0 : List (Nat × PV G.E.T)} {κ : Kind}, (vop G recI ann (plOf ann base m0 o) o σ0 fun v h => match V.put N o.dst v env0 with
     | some env => vdraw G recI ann base m0 N ops anc (i + 1) rest ((i, κ) :: tr) ⟨env, h⟩ kI
     | none => none) = some r → Ev fun m => (vop G (recs m) ann (plOf ann base m0 o) o σ0 fun v h => match V.put N o.dst v env0 with
     | some env => vdraw G (recs m) ann base m0 N ops anc (i + 1) rest ((i, κ) :: tr) ⟨env, h⟩ (ks m)
     | none => none) = some r := fun h => vop_ev hrec (fun p h' hh => by
    split at hh
    ·rename_i e1
     refine (vdraw_ev hrec hk hh).imp fun m hm => ?_
     first | exact hm | (rw [e1]; exact hm)
    ·cases hh) h
  have skip : ∀ {env0 : List (Nat × PV G.E.T)}, (match V.put N o.dst (.tup []) env0 with
     | some env => vdraw G recI ann base m0 N ops anc (i + 1) rest ((i, .pure []) :: tr) ⟨env, σ.heap⟩ kI
     | none => none) = some r → Ev fun m => (match V.put N o.dst (.tup []) env0 with
     | some env => vdraw G (recs m) ann base m0 N ops anc (i + 1) rest ((i, .pure []) :: tr) ⟨env, σ.heap⟩ (ks m)
     | none => none) = some r := fun hh => by
    split at hh
    ·rename_i e1
     refine (vdraw_ev hrec hk hh).imp fun m hm => ?_
     first | exact hm | (rw [e1]; exact hm)
    ·cases hh
  simp only [vdraw] at h
  split at h
  ·cases h
  ·rename_i eb e1
   split at h
   ·cases h
   ·rename_i κ e0
    refine (go h).imp fun m hm => ?_
    simp only [vdraw]
    rw [eb, e1]; simp only; rw [e0]; exact hm
  ·rename_i j want eb e1
   split at h
   ·cases h
   ·rename_i g e2
    split at h
    ·rename_i b e3
     cases b with
     | true =>
      simp only [if_true] at h
      cases want
      ·refine (skip h).imp fun m hm => ?_
       simp only [vdraw]; rw [eb, e1]; simp only; rw [e2]; simp only; rw [e3]; exact hm
      ·simp only at h
       split at h
       ·cases h
       ·rename_i κ e0
        refine (go h).imp fun m hm => ?_
        simp only [vdraw]; rw [eb, e1]; simp only; rw [e2]; simp only; rw [e3]; simp only [if_true]; rw [e0]; exact hm
     | false =>
      simp only [Bool.false_eq_true, if_false] at h
      cases want
      ·simp only at h
       split at h
       ·cases h
       ·rename_i κ e0
        refine (go h).imp fun m hm => ?_
        simp only [vdraw]; rw [eb, e1]; simp only; rw [e2]; simp only; rw [e3]; simp only [Bool.false_eq_true, if_false]; rw [e0]; exact hm
      ·refine (skip h).imp fun m hm => ?_
       simp only [vdraw]; rw [eb, e1]; simp only; rw [e2]; simp only; rw [e3]; exact hm
    ·rename_i l e3
     split at h
     ·refine (skip h).imp fun m hm => ?_
      simp only [vdraw]; rw [eb, e1]; simp only; rw [e2]; simp only; rw [e3]; exact hm
     ·cases h
    ·cases h
theorem vplain_ev (hrec : RecEv recI recs) {ann : Ann} {id : Nat} {ops : List Oper} {σ : St G.E.T} {kI : St G.E.T → Option R} {ks : Nat → St G.E.T → Option R}
  (hk : ∀ σ, kI σ = some r → Ev fun m => ks m σ = some r) (h : vplain G recI ann id N ops σ kI = some r) : Ev fun m => vplain G (recs m) ann id N ops σ (ks m) = some r := by
 unfold vplain at h
 split at h
 ·rename_i anc ea
  split at h
  ·rename_i e5
   refine (vdraw_ev hrec hk h).imp fun m hm => ?_
   unfold vplain
   rw [ea]
   simp only
   rw [e5]
   exact hm
  ·cases h
 ·cases h
theorem vorder_ev (hrec : RecEv recI recs) {ann : Ann} {id : Nat} {ops : List Oper} {hs : List Nat} {σ : St G.E.T} {kI : St G.E.T → Option R} {ks : Nat → St G.E.T → Option R}
  (hk : ∀ σ, kI σ = some r → Ev fun m => ks m σ = some r) {L : List Nat} (h : vorder G recI ann id N ops hs σ kI L = some r) : Ev fun m => vorder G (recs m) ann id N ops hs σ (ks m) L = some r := by
 unfold vorder at h
 split at h
 ·rename_i ops' e1 e2 e3
  split at h
  ·rename_i e4
   refine (vplain_ev hrec hk h).imp fun m hm => ?_
   unfold vorder
   rw [e1, e2, e3]
   simp only
   rw [e4]
   exact hm
  ·cases h
 ·cases h
theorem demons_ev {fI : List Nat → Option R} {fs : Nat → List Nat → Option R} (hf : ∀ L, fI L = some r → Ev fun m => fs m L = some r) : ∀ {Ls : List (List Nat)}, demons fI Ls = some r → Ev fun m => demons (fs m) Ls = some r
 | [], h => by cases h
 | [L], h => by simp only [demons] at h ⊢; exact hf L h
 | L :: M :: l, h => by
  simp only [demons] at h
  obtain ⟨h1, h2⟩ := demon_some h
  refine (hf L h1).and (demons_ev hf (Ls := M :: l) h2) fun m g1 g2 => ?_
  simp only [demons]
  rw [g1]
  simp only [demons] at g2
  rw [g2]; exact demon_same _
theorem vregion_ev (hrec : RecEv recI recs) {ann : Ann} {id : Nat} {ops : List Oper} {σ : St G.E.T} {kI : St G.E.T → Option R} {ks : Nat → St G.E.T → Option R}
  (hk : ∀ σ, kI σ = some r → Ev fun m => ks m σ = some r) (h : vregion G recI ann id N ops σ kI = some r) : Ev fun m => vregion G (recs m) ann id N ops σ (ks m) = some r := by
 unfold vregion at h
 split at h
 ·rename_i e1 e2 e3
  split at h
  ·rename_i e4
   refine (vplain_ev hrec hk h).imp fun m hm => ?_
   unfold vregion
   rw [e1, e2, e3]
   simp only
   rw [e4]
   exact hm
  ·rename_i hs Ls e4
   split at h
   ·cases h
   ·rename_i anc e5
    split at h
    ·rename_i e6 e7
     refine (demons_ev (fun L hL => vorder_ev hrec hk hL) h).imp fun m hm => ?_
     unfold vregion
     rw [e1, e2, e3]
     simp only
     rw [e4]
     simp only
     rw [e5]
     simp only
     rw [e6, e7]
     exact hm
    ·cases h
 ·cases h
theorem getAlt_ev {kI : Ex → St G.E.T → Option R} {ks : Nat → Ex → St G.E.T → Option R} (hk : ∀ e σ, kI e σ = some r → Ev fun m => ks m e σ = some r) {base : St G.E.T} :
  ∀ (as : List (Ex × Cut)) (p : AltT G.E.T as), getAlt as base p kI = some r → Ev fun m => getAlt as base p (ks m) = some r := by
 intro as
 induction as with
 | nil => exact fun p => p.elim
 | cons a as ih =>
  obtain ⟨e, c⟩ := a
  cases as with
  | nil => exact fun p h => hk _ _ h
  | cons b as =>
   intro p h
   cases p with
   | inl p => exact hk _ _ h
   | inr p => exact ih p h
theorem joined_ev {as : Option (List (Ex × Cut))} {ds : List Nat} {σ : St G.E.T} {runI : St G.E.T → {A : Type} → (Ex → St G.E.T → Option A) → Option A} {runs : Nat → St G.E.T → {A : Type} → (Ex → St G.E.T → Option A) → Option A}
  {kI : Ex → St G.E.T → Option R} {ks : Nat → Ex → St G.E.T → Option R} (hk : ∀ e σ, kI e σ = some r → Ev fun m => ks m e σ = some r)
  (hrun : ∀ (σ : St G.E.T) {A : Type} (kI : Ex → St G.E.T → Option A) (ks : Nat → Ex → St G.E.T → Option A) (x : A), (∀ e σ, kI e σ = some x → Ev fun m => ks m e σ = some x) → runI σ kI = some x → Ev fun m => runs m σ (ks m) = some x)
  (h : joined G as ds σ runI kI = some r) : Ev fun m => joined G as ds σ (runs m) (ks m) = some r := by
 unfold joined at h ⊢
 split at h
 ·exact hrun σ kI ks r hk h
 ·rename_i as
  obtain ⟨p, h1, h2⟩ := Option.bind_eq_some_iff.1 h
  exact (hrun _ _ (fun _ => putAlt as (protect (firstBs as) σ.heap)) p (fun e σ he => .all fun _ => he) h1).and (getAlt_ev hk as p h2) fun m a b =>
   Option.bind_eq_some_iff.2 ⟨p, a, b⟩
theorem iter_ev {S A : Type} {fI : S → Option (S ⊕ A)} {fs : Nat → S → Option (S ⊕ A)} (hf : ∀ s y, fI s = some y → Ev fun m => fs m s = some y) : ∀ {n : Nat} {s : S} {a : A}, iter fI n s = some a → Ev fun m => iter (fs m) n s = some a
 | 0, s, a, h => by simp [iter] at h
 | n + 1, s, a, h => by
  simp only [iter] at h
  split at h
  ·rename_i s' e
   exact (hf s _ e).and (iter_ev hf h) fun m a b => by simp only [iter]; rw [a]; exact b
  ·rename_i a' e
   exact (hf s _ e).imp fun m a => by simp only [iter]; rw [a]; exact h
  ·cases h
theorem loop_ev {S A : Type} {fI : S → Option (S ⊕ A)} {fs : Nat → S → Option (S ⊕ A)} (hf : ∀ s y, fI s = some y → Ev fun m => fs m s = some y) {s : S} {a : A} (h : loop fI s = some a) : Ev fun m => loop (fs m) s = some a := by
 obtain ⟨n, hn⟩ := iter_of_loop h
 exact (iter_ev hf hn).imp fun m hm => loop_of_iter hm
theorem unrolled_ev {runI : St G.E.T → {A : Type} → (Ex → St G.E.T → Option A) → Option A} {runs : Nat → St G.E.T → {A : Type} → (Ex → St G.E.T → Option A) → Option A} {r : R}
  (hrun : ∀ (σ : St G.E.T) (kI : Ex → St G.E.T → Option R) (ks : Nat → Ex → St G.E.T → Option R), (∀ e σ, kI e σ = some r → Ev fun m => ks m e σ = some r) → runI σ kI = some r → Ev fun m => runs m σ (ks m) = some r)
  {kI : Ex → St G.E.T → Option R} {ks : Nat → Ex → St G.E.T → Option R} (hk : ∀ e σ, kI e σ = some r → Ev fun m => ks m e σ = some r) :
  ∀ (n : Nat) (σ : St G.E.T), unrolled G runI n σ kI = some r → Ev fun m => unrolled G (runs m) n σ (ks m) = some r
 | 0, σ, h => by simp [unrolled] at h
 | n + 1, σ, h => by
  simp only [unrolled] at h ⊢
  refine hrun σ _ _ (fun e σ' he => ?_) h
  cases e with
  | normal => exact unrolled_ev hrun hk n σ' he
  | exit id => exact hk _ _ he
  | ret => exact hk _ _ he
theorem vround_ev (hrec : RecEv recI recs) {N' : Nat} {I : It} {head : Cut} {as : List (Ex × Cut)} {cap : PV G.E.T} {ps : List Nat} {σ : St G.E.T} {runI : St G.E.T → {A : Type} → (Ex → St G.E.T → Option A) → Option A} {runs : Nat → St G.E.T → {A : Type} → (Ex → St G.E.T → Option A) → Option A}
  (hrun : ∀ (σ : St G.E.T) {A : Type} (kI : Ex → St G.E.T → Option A) (ks : Nat → Ex → St G.E.T → Option A) (x : A), (∀ e σ, kI e σ = some x → Ev fun m => ks m e σ = some x) → runI σ kI = some x → Ev fun m => runs m σ (ks m) = some x)
  {s : Pay G.E.T head.leaves} {y : Pay G.E.T head.leaves ⊕ AltT G.E.T as} (h : vround G recI N' I head as cap ps N σ runI s = some y) : Ev fun m => vround G (recs m) N' I head as cap ps N σ (runs m) s = some y := by
 unfold vround at h ⊢
 refine vops_ev hrec (fun σ1 h1 => ?_) h
 split at h1
 ·rename_i c e
  try simp only [e]
  cases c with
  | false => simp only [Bool.false_eq_true, if_false] at h1 ⊢; exact .all fun _ => h1
  | true =>
   simp only [if_true] at h1 ⊢
   split at h1
   ·cases h1
   rename_i env e2
   try simp only [e2]
   refine vops_ev hrec (fun σ2 h2 => ?_) h1
   split at h2
   ·rename_i p q u v e4
    try simp only [e4]
    split at h2
    ·cases h2
    rename_i envp e5
    try simp only [e5]
    split at h2
    ·cases h2
    rename_i envq e6
    try simp only [e6]
    refine hrun _ _ _ y (fun e σ3 h3 => ?_) h2
    try simp only at h3
    split at h3
    ·cases h3
    rename_i env7 e7
    try simp only [e7]
    refine vops_ev hrec (fun σ4 h4 => ?_) h3
    split at h4
    ·rename_i d e8
     try simp only [e8]
     cases e with
     | normal =>
      try simp only at h4 ⊢
      cases d with
      | true => simp at h4
      | false =>
       simp only [Bool.false_eq_true, if_false] at h4 ⊢
       exact vops_ev hrec (fun σ5 h5 => .all fun _ => h5) h4
     | exit id => exact .all fun _ => h4
     | ret => exact .all fun _ => h4
    ·cases h4
   ·cases h2
 ·cases h1
theorem vrange_ev (hrec : RecEv recI recs) {N' : Nat} {I : It} {head : Cut} {as : List (Ex × Cut)} {cap : PV G.E.T} {ps : List Nat} {σ : St G.E.T} {runI : St G.E.T → {A : Type} → (Ex → St G.E.T → Option A) → Option A} {runs : Nat → St G.E.T → {A : Type} → (Ex → St G.E.T → Option A) → Option A}
  (hrun : ∀ (σ : St G.E.T) {A : Type} (kI : Ex → St G.E.T → Option A) (ks : Nat → Ex → St G.E.T → Option A) (x : A), (∀ e σ, kI e σ = some x → Ev fun m => ks m e σ = some x) → runI σ kI = some x → Ev fun m => runs m σ (ks m) = some x)
  {kI : Ex → St G.E.T → Option R} {ks : Nat → Ex → St G.E.T → Option R} (hk : ∀ e σ, kI e σ = some r → Ev fun m => ks m e σ = some r) (h : vrange G recI N' I head as cap ps N σ runI kI = some r) :
  Ev fun m => vrange G (recs m) N' I head as cap ps N σ (runs m) (ks m) = some r := by
 unfold vrange at h ⊢
 refine vops_ev hrec (fun σ0 h0 => ?_) h
 split at h0
 ·cases h0
 rename_i s e
 try simp only [e]
 obtain ⟨p, h1, h2⟩ := Option.bind_eq_some_iff.1 h0
 exact (loop_ev (fs := fun m => vround G (recs m) N' I head as cap ps N σ (runs m)) (fun s y hy => vround_ev hrec hrun hy) h1).and (getAlt_ev hk as p h2) fun m a b => Option.bind_eq_some_iff.2 ⟨p, a, b⟩
theorem vrun_ev (hrec : RecEv recI recs) {ann : Ann} : ∀ (c : Code) {R : Type} (σ : St G.E.T) (kI : Ex → St G.E.T → Option R) (ks : Nat → Ex → St G.E.T → Option R) (r : R),
  (∀ e σ, kI e σ = some r → Ev fun m => ks m e σ = some r) → vrun G recI ann N c σ kI = some r → Ev fun m => vrun G (recs m) ann N c σ (ks m) = some r
 | .skip, R, σ, kI, ks, r, hk, h => by simp only [vrun] at h ⊢; exact hk _ _ h
 | .region id ops draw, R, σ, kI, ks, r, hk, h => by
  simp only [vrun] at h ⊢
  cases draw with
  | true => exact joined_ev hk (fun σ A kI ks x hk h => vregion_ev hrec (fun σ => hk .normal σ) h) h
  | false => exact joined_ev hk (fun σ A kI ks x hk h => vops_ev hrec (fun σ => hk .normal σ) h) h
 | .seq x y, R, σ, kI, ks, r, hk, h => by
  simp only [vrun] at h ⊢
  refine vrun_ev hrec x σ _ _ r (fun e σ' he => ?_) h
  cases e with
  | normal => exact vrun_ev hrec y σ' kI ks r hk he
  | exit id => exact hk _ _ he
  | ret => exact hk _ _ he
 | .cond c x y, R, σ, kI, ks, r, hk, h => by
  simp only [vrun] at h
  split at h
  ·rename_i t
   split at h
   ·rename_i b e
    refine (joined_ev (runs := fun m σ _ k => if b = true then vrun G (recs m) ann N x σ k else vrun G (recs m) ann N y σ k) hk (fun σ A kI ks z hk h => ?_) h).imp fun m hm => ?_
    ·cases b with
     | true => simp only [if_true] at h ⊢; exact vrun_ev hrec x σ kI ks z hk h
     | false => simp only [Bool.false_eq_true, if_false] at h ⊢; exact vrun_ev hrec y σ kI ks z hk h
    ·simp only [vrun]; rw [e]; exact hm
   ·rename_i e
    refine (joined_ev (runs := fun m σ _ k => demon (vrun G (recs m) ann N x σ k) (vrun G (recs m) ann N y σ k)) hk (fun σ A kI ks z hk h => ?_) h).imp fun m hm => ?_
    ·obtain ⟨h2, h3⟩ := demon_some h
     refine (vrun_ev hrec x σ kI ks z hk h2).and (vrun_ev hrec y σ kI ks z hk h3) fun m g1 g2 => ?_
     rw [g1, g2]; exact demon_same _
    ·simp only [vrun]; rw [e]; exact hm
   ·cases h
  ·rename_i b
   cases b with
   | true => simp only [if_true] at h; exact (vrun_ev hrec x σ kI ks r hk h).imp fun m hm => by simp only [vrun, if_true]; exact hm
   | false => simp only [Bool.false_eq_true, if_false] at h; exact (vrun_ev hrec y σ kI ks r hk h).imp fun m hm => by simp only [vrun, Bool.false_eq_true, if_false]; exact hm
  ·cases h
 | .block id c, R, σ, kI, ks, r, hk, h => by
  simp only [vrun] at h ⊢
  refine vrun_ev hrec c σ _ _ r (fun e σ' he => ?_) h
  cases e with
  | normal => exact hk _ _ he
  | exit j =>
   simp only at he
   split at he
   ·rename_i e1; exact (hk _ _ he).imp fun m hm => by simp only; rw [e1]; exact hm
   ·rename_i e1; exact (hk _ _ he).imp fun m hm => by simp only; rw [e1]; exact hm
  | ret => exact hk _ _ he
 | .loop c, R, σ, kI, ks, r, hk, h => by
  simp only [vrun] at h
  split at h
  ·rename_i e1
   split at h
   ·cases h
   ·rename_i n e2
    refine (unrolled_ev (runs := fun m σ _ k => vrun G (recs m) ann N c σ k) (fun σ kI ks hk h => vrun_ev hrec c σ kI ks r hk h) hk n σ h).imp fun m hm => ?_
    simp only [vrun]
    rw [e1]
    simp only
    rw [e2]
    exact hm
  ·rename_i head as e1
   split at h
   ·cases h
   ·rename_i s e2
    obtain ⟨p, h1, h2⟩ := Option.bind_eq_some_iff.1 h
    have hl := loop_ev (fs := fun m s => vrun G (recs m) ann N c (rebSt head (baseSt head.bs (dsts c) σ) s) fun e σ' => match e with
     | .normal => match castSt head (protect head.bs σ.heap) σ' with
      | some s => some (.inl s)
      | none => none
     | .exit id => match putAlt as (protect head.bs σ.heap) (.exit id) σ' with
      | some p => some (.inr p)
      | none => none
     | .ret => match putAlt as (protect head.bs σ.heap) .ret σ' with
      | some p => some (.inr p)
      | none => none) (fun s y hy => vrun_ev hrec c _ _ (fun _ e σ' => match e with
     | .normal => match castSt head (protect head.bs σ.heap) σ' with
      | some s => some (.inl s)
      | none => none
     | .exit id => match putAlt as (protect head.bs σ.heap) (.exit id) σ' with
      | some p => some (.inr p)
      | none => none
     | .ret => match putAlt as (protect head.bs σ.heap) .ret σ' with
      | some p => some (.inr p)
      | none => none) y (fun e σ he => .all fun _ => he) hy) h1
    refine hl.and (getAlt_ev hk as p h2) fun m a b => ?_
    simp only [vrun]
    rw [e1]
    simp only
    rw [e2]
    exact Option.bind_eq_some_iff.2 ⟨p, a, b⟩
 | .exit id, R, σ, kI, ks, r, hk, h => by simp only [vrun] at h ⊢; exact hk _ _ h
 | .ret, R, σ, kI, ks, r, hk, h => by simp only [vrun] at h ⊢; exact hk _ _ h
 | .rangeFunc g ps assign body, R, σ, kI, ks, r, hk, h => by
  simp only [vrun] at h ⊢
  cases hl : lookN (firstRegion body) ann.loops with
  | none => rw [hl] at h; cases h
  | some ha =>
   obtain ⟨head, as⟩ := ha
   rw [hl] at h
   cases hg : eval σ.env g <;> rw [hg] at h <;> try (cases h; done)
   rename_i f caps
   rcases caps with _ | ⟨cap, _ | ⟨_, _⟩⟩ <;> try (cases h; done)
   simp only at h ⊢
   split at h
   ·cases h
   ·rename_i fn hfn
    split at h
    ·cases h
    ·rename_i c hc
     try simp only [hc]
     split at h
     ·rename_i I hI hres ha hb
      try simp only [hI, hres, ha, hb]
      exact vrange_ev (runs := fun m σ _ k => vrun G (recs m) ann N assign σ fun e σ => match e with
       | .normal => vrun G (recs m) ann N body σ k
       | _ => none) hrec (fun σ A kI ks x hk h => vrun_ev hrec assign σ _ _ x (fun e σ he => by
        cases e with
        | normal => exact vrun_ev hrec body σ kI ks x hk he
        | exit id => cases he
        | ret => cases he) h) hk h
     ·cases h
 | .scope .., R, σ, kI, ks, r, hk, h => by simp only [vrun] at h; cases h
 | .label .., R, σ, kI, ks, r, hk, h => by simp only [vrun] at h; cases h
 | .goto .., R, σ, kI, ks, r, hk, h => by simp only [vrun] at h; cases h
 | .refuse .., R, σ, kI, ks, r, hk, h => by simp only [vrun] at h; cases h
theorem vbody_ev (hrec : RecEv recI recs) {i : Nat} {p : Pay G.E.T (G.F i).sig.ins} {q : (G.F i).sig.Out G.E.T} (h : vbody G recI i p = some q) : Ev fun m => vbody G (recs m) i p = some q := by
 unfold vbody at h
 split at h
 ·cases h
 ·rename_i fn e1
  split at h
  ·cases h
  ·rename_i c e2
   refine (vrun_ev hrec c _ _ (fun _ e σ => match e with
   | .normal => finish G (G.F i).sig (startSt G (G.F i).sig p).heap fn.results.toList σ
   | .ret => finish G (G.F i).sig (startSt G (G.F i).sig p).heap fn.results.toList σ
   | .exit _ => none) q (fun e σ he => .all fun _ => he) h).imp fun m hm => ?_
   unfold vbody
   rw [e1]
   simp only
   rw [e2]
   exact hm
theorem vcall_succ : ∀ {n : Nat} {i : Nat} {p : Pay G.E.T (G.F i).sig.ins} {q : (G.F i).sig.Out G.E.T}, vcall G n i p = some q → vcall G (n + 1) i p = some q
 | 0, i, p, q, h => by simp [vcall] at h
 | n + 1, i, p, q, h => by
  simp only [vcall] at h ⊢
  obtain ⟨m, hm⟩ := vbody_ev (recI := vcall G n) (recs := fun _ => vbody G (vcall G n)) (fun i p q h => .all fun _ => by have := vcall_succ h; simpa only [vcall] using this) h
  exact hm m (Nat.le_refl _)
theorem vcall_le {n m : Nat} (hle : n ≤ m) {i : Nat} {p : Pay G.E.T (G.F i).sig.ins} {q : (G.F i).sig.Out G.E.T} (h : vcall G n i p = some q) : vcall G m i p = some q := by
 induction hle with
 | refl => exact h
 | step _ ih => exact vcall_succ ih
theorem call_of_vcall {n : Nat} {i : Nat} {p : Pay G.E.T (G.F i).sig.ins} {q : (G.F i).sig.Out G.E.T} (h : vcall G n i p = some q) : call G i p = some q := by
 have hex : ∃ n q, vcall G n i p = some q := ⟨n, q, h⟩
 unfold call
 rw [dif_pos hex]
 obtain ⟨q', hq'⟩ := hex.choose_spec
 have h1 := vcall_le (Nat.le_max_left n hex.choose) h
 have h2 := vcall_le (Nat.le_max_right n hex.choose) hq'
 rw [h1] at h2
 rw [hq', h2]
/-- THE EQUATION. -/
theorem call_eq (i : Nat) (p : Pay G.E.T (G.F i).sig.ins) : call G i p = vbody G (call G) i p := by
 have up : ∀ q, call G i p = some q → vbody G (call G) i p = some q := by
  intro q h
  obtain ⟨n, hn⟩ := vcall_of_call h
  cases n with
  | zero => simp [vcall] at hn
  | succ n =>
   simp only [vcall] at hn
   obtain ⟨m, hm⟩ := vbody_ev (recI := vcall G n) (recs := fun _ => call G) (fun i p q h => .all fun _ => call_of_vcall h) hn
   exact hm m (Nat.le_refl _)
 cases h : call G i p with
 | some q => exact (up q h).symm
 | none =>
  cases h' : vbody G (call G) i p with
  | none => rfl
  | some q =>
   obtain ⟨m, hm⟩ := vbody_ev (recI := call G) (recs := fun n => vcall G n) (fun i p q h => by
    obtain ⟨n, hn⟩ := vcall_of_call h
    exact ⟨n, fun m hm => vcall_le hm hn⟩) h'
   have := call_of_vcall (n := m + 1) (by simp only [vcall]; exact hm m (Nat.le_refl _))
   rw [this] at h; cases h
end
end Go.Proofs.YtgffdmgidnnedaaGreat.V
