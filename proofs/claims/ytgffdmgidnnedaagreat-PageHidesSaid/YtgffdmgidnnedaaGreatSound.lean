/- The code that the reading runs does what the reading says: operations. -/
import Derived.Test.YtgffdmgidnnedaaGreatCall3
import Derived.Test.YtgffdmgidnnedaaGreatExt
import Derived.TacticsIn
import Derived.OrdersIn
namespace Go.Proofs.YtgffdmgidnnedaaGreat.V
open Go
set_option linter.unusedVariables false
set_option linter.unusedSimpArgs false
section
variable {G : Prg} {w w' : World} {Fz Fz' : Nat → Prop} {ι ι' : Nat → Loc} {R : Type} {r : R} {X : Ctx} {N : Nat} {ro : Option Nat}
/-- the blocks for the calls that a range over a function puts off: none is put off -/
def markOf (D : Nat) : Deferred := { target := .collected D, args := #[] }
def Marks {T : Nat → Type} (X : Ctx) (w : World) (Fz : Nat → Prop) (ι : Nat → Loc) (H : List (Blk T)) (ds : List Deferred) : Prop :=
 ∃ Ds : List Nat, ds = Ds.map markOf ∧ Ds.Nodup ∧ ∀ D, D ∈ Ds → X.w0.heap.size ≤ D ∧ Un w Fz ι H D ∧ w.heap[D]? = some (.deferred (some []))
theorem Marks.nil {T : Nat → Type} {H : List (Blk T)} : Marks X w Fz ι H [] := ⟨[], rfl, .nil, fun D h => by cases h⟩
theorem Marks.un {T : Nat → Type} {H H' : List (Blk T)} {ds : List Deferred} (h : Marks X w Fz ι H ds) (hu : ∀ B, Un w Fz ι H B → w'.heap[B]? = w.heap[B]? ∧ Un w' Fz' ι' H' B) : Marks X w' Fz' ι' H' ds := by
 obtain ⟨Ds, h1, h2, h3⟩ := h
 refine ⟨Ds, h1, h2, fun D hD => ?_⟩
 obtain ⟨g1, g2, g3⟩ := h3 D hD
 obtain ⟨e1, e2⟩ := hu D g2
 exact ⟨g1, e2, e1.trans g3⟩
theorem Marks.step {E : Env} {H H' : List (Blk E.T)} {ds : List Deferred} (h : Marks X w Fz ι H ds) (s : Step E X w w' Fz Fz' ι ι' H H') : Marks X w' Fz' ι' H' ds := h.un s.un
/-- the machine is where the reading is -/
structure At (G : Prg) (X : Ctx) (N : Nat) (w : World) (Fz : Nat → Prop) (ι : Nat → Loc) (σ : St G.E.T) (a : Act) : Prop where
 heap : HRep G.E w Fz ι σ.heap
 fram : Fram G.E X w Fz ι σ.heap
 env : EnvRep G.E w Fz ι σ.heap σ.env a
 size : N ≤ a.tmps.size
 defers : Marks X w Fz ι σ.heap a.defers
/-- from one point to a later one -/
structure Goes (G : Prg) (X : Ctx) (N : Nat) (ds : List Nat) (w : World) (Fz : Nat → Prop) (ι : Nat → Loc) (H : List (Blk G.E.T)) (a : Act) (w' : World) (Fz' : Nat → Prop) (ι' : Nat → Loc) (σ' : St G.E.T) (a' : Act) : Prop where
 step : Step G.E X w w' Fz Fz' ι ι' H σ'.heap
 env : EnvRep G.E w' Fz' ι' σ'.heap σ'.env a'
 size : N ≤ a'.tmps.size
 defers : Marks X w' Fz' ι' σ'.heap a'.defers
 stay : ∀ t, t ∉ ds → a'.tmps.getD t undef = a.tmps.getD t undef
theorem At.refl {σ : St G.E.T} {a : Act} (h : At G X N w Fz ι σ a) : Goes G X N [] w Fz ι σ.heap a w Fz ι σ a := ⟨.refl h.heap h.fram, h.env, h.size, h.defers, fun _ _ => rfl⟩
theorem Goes.at_ {ds : List Nat} {H : List (Blk G.E.T)} {a a' : Act} {σ' : St G.E.T} (h : Goes G X N ds w Fz ι H a w' Fz' ι' σ' a') : At G X N w' Fz' ι' σ' a' := ⟨h.step.heap, h.step.fram, h.env, h.size, h.defers⟩
theorem Goes.more {ds ds' : List Nat} {H : List (Blk G.E.T)} {a a' : Act} {σ' : St G.E.T} (h : Goes G X N ds w Fz ι H a w' Fz' ι' σ' a') (hd : ∀ t, t ∈ ds → t ∈ ds') : Goes G X N ds' w Fz ι H a w' Fz' ι' σ' a' :=
 ⟨h.step, h.env, h.size, h.defers, fun t ht => h.stay t fun e => ht (hd t e)⟩
theorem Goes.trans {ds ds' : List Nat} {H : List (Blk G.E.T)} {a a' a'' : Act} {σ' σ'' : St G.E.T} {w'' : World} {Fz'' : Nat → Prop} {ι'' : Nat → Loc}
  (h : Goes G X N ds w Fz ι H a w' Fz' ι' σ' a') (g : Goes G X N ds' w' Fz' ι' σ'.heap a' w'' Fz'' ι'' σ'' a'') : Goes G X N (ds ++ ds') w Fz ι H a w'' Fz'' ι'' σ'' a'' :=
 ⟨h.step.trans g.step, g.env, g.size, g.defers, fun t ht => by
  rw [g.stay t fun e => ht (List.mem_append_right _ e), h.stay t fun e => ht (List.mem_append_left _ e)]⟩
theorem put_tmps {a : Act} {d : Nat} {v : Value} (h : d < a.tmps.size) (t : Nat) : (a.put (some d) v).tmps.getD t undef = if t = d then v else a.tmps.getD t undef := by
 simp only [Act.put, Array.getD_eq_getD_getElem?, Array.getElem?_setIfInBounds]
 by_cases e : d = t
 ·subst e; simp [h]
 ·rw [if_neg e, if_neg (Ne.symm e)]
theorem put_size {a : Act} {d : Option Nat} {v : Value} : (a.put d v).tmps.size = a.tmps.size := by cases d <;> simp [Act.put]
theorem put_defers {a : Act} {d : Option Nat} {v : Value} : (a.put d v).defers = a.defers := by cases d <;> simp [Act.put]
def dsOf : Option Nat → List Nat
 | some d => [d]
 | none => []
theorem EnvRep.put {E : Env} {env env' : List (Nat × PV E.T)} {H : List (Blk E.T)} {a : Act} (h : EnvRep E w Fz ι H env a) {dst : Option Nat} {p : PV E.T} {v : Value} (hp : PRep E w Fz ι H p v)
  (hput : put N dst p env = some env') (hs : N ≤ a.tmps.size) : EnvRep E w Fz ι H env' (a.put dst v) ∧ ∀ t, t ∉ dsOf dst → (a.put dst v).tmps.getD t undef = a.tmps.getD t undef := by
 cases dst with
 | none =>
  simp only [V.put] at hput; cases hput
  exact ⟨h, fun _ _ => rfl⟩
 | some d =>
  simp only [V.put] at hput
  split at hput
  ·rename_i hd
   cases hput
   have hlt : d < a.tmps.size := Nat.lt_of_lt_of_le (blt_iff.1 hd) hs
   refine ⟨fun t => ?_, fun t ht => ?_⟩
   ·rw [put_tmps hlt]
    simp only [look]
    by_cases e : t = d
    ·subst e
     simp only [Nat.beq_refl, if_true]; exact hp
    ·have : Nat.beq t d = false := by
      rcases hq : Nat.beq t d with _ | _
      ·rfl
      ·exact absurd (nat_beq hq) e
     simp only [this, if_neg e]; exact h t
   ·rw [put_tmps hlt, if_neg]
    simpa [dsOf] using ht
  ·cases hput
/-- the fence of a frame that is no round, or of a round of a range over a function -/
def fence (ro : Option Nat) : Fence := { Fence.wide with round := ro }
theorem callsIn_fence {n : Nat} {P : Program} {f : FuncId} {args : Array Value} {w : World} {R : Ending → World → Prop} (h : Calls P f args w R) : CallsIn (fence ro) n P f args w R :=
 (callsIn_wide (n := n)).2 h
theorem semAt_of_vop {rec : Rec G} {ann : Ann} {pl : Option Nat} {o : Oper} {σ : St G.E.T} {K : PV G.E.T → List (Blk G.E.T) → Option R} (h : vop G rec ann pl o σ K = some r) {ρ : Operand → Value} :
  o.semAt (fence ro).round ρ = execOp ρ o := by
 cases ro with
 | none => exact Oper.semAt_none ..
 | some l => exact Oper.semAt_some _ _ _ fun c e => by obtain ⟨dst, op, type, pos, after, guard⟩ := o; simp only at e; subst e; simp [vop] at h
/-- One operation, whichever. -/
theorem vop_sound (ok : PrgOk G) {rec : Rec G} (hrec : Spec G rec) {ann : Ann} {pl : Option Nat} {o : Oper} {σ : St G.E.T} {K : PV G.E.T → List (Blk G.E.T) → Option R} (h : vop G rec ann pl o σ K = some r) {a : Act}
  (hA : At G X N w Fz ι σ a) {next : Act → World → Prop} {Q : Exit → Act → World → Prop}
  (hn : ∀ p H' v w' Fz' ι', K p H' = some r → Step G.E X w w' Fz Fz' ι ι' σ.heap H' → PRep G.E w' Fz' ι' H' p v → next (a.put o.dst v) w') : o.wpIn (fence ro) 0 G.P a w next Q := by
 have hsem : ∀ ρ, o.semAt (fence ro).round ρ = execOp ρ o := fun _ => semAt_of_vop h
 cases hc : isCall o with
 | false =>
  obtain ⟨p, H', v, w', Fz', ι', hK, hg⟩ := vop_plain ok h hc hA.env hA.heap hA.fram
  have := hn p H' v w' Fz' ι' hK hg.step hg.rep
  unfold Oper.wpIn
  refine ⟨fun _ _ => trivial, ?_⟩
  rw [hsem]
  rcases hg.run with e | ⟨e, rfl⟩
  ·rw [e]; exact this
  ·rw [e]; exact this
 | true =>
  obtain ⟨dst, op, type, pos, after, guard⟩ := o
  cases op <;> simp only [isCall] at hc <;> try (cases hc; done)
  rename_i c
  obtain ⟨callee, args, argTypes⟩ := c
  cases callee <;> simp only at hc <;> try (cases hc; done)
  rename_i f
  simp only [vop] at h
  split at h
  ·rename_i fid caps d hf
   split at h
   ·rename_i i hi
    split at h
    ·rename_i hfid
     have hfid := nat_beq hfid
     have hfr := eval_rep hA.env f
     rw [hf] at hfr
     simp only [PRep] at hfr
     obtain ⟨cs, hfv, hcs⟩ := hfr
     have hargs := (evals_rep hA.env args.toList).append hcs
     obtain ⟨⟨fn, hfn, hbody⟩, hcall⟩ := callV_sound ok hrec h hA.heap hA.fram hargs
     have hname := ok.names _ fn hfn hbody
     rw [hfid] at hfn hcall
     have hnone : fn.body.isNone = false := by cases hb : fn.body <;> simp_all
     have hrun : (execOp a.eval ⟨some d, .call ⟨.value f, args, argTypes⟩, type, pos, after, guard⟩).run G.P w = .ok (.enter fid (args.map a.eval ++ cs)) w := by
      simp only [execOp, resolve, Deferred.ofValue, hfv, Sem.run_bind, Sem.run_pure, Result.andThen_ok, invoke]
      simp only [callFunc, Sem.run_bind, run_program, Result.andThen_ok, hfn, hname, hnone, Bool.false_eq_true, if_false, Array.empty_append]
      rfl
     unfold Oper.wpIn
     refine ⟨fun _ _ => trivial, ?_⟩
     rw [hsem, hrun, Oper.uponIn_enter]
     refine ⟨fun e => (by cases e), callsIn_fence ?_⟩
     have hl : (args.toList.map a.eval ++ cs.toList).toArray = args.map a.eval ++ cs := by
      apply Array.ext'; simp
     rw [hl] at hcall
     refine hcall.mono ?_
     rintro e w' ⟨v, p, H', Fz', ι', rfl, hK, hs, hp⟩
     exact hn p H' v w' Fz' ι' hK hs hp
    ·cases h
   ·obtain ⟨p, hp, hK⟩ := Option.bind_eq_some_iff.1 h
    have hfr := eval_rep hA.env f
    rw [hf] at hfr
    simp only [PRep] at hfr
    obtain ⟨cs, hfv, hcs⟩ := hfr
    have hargs := (evals_rep hA.env args.toList).append hcs
    obtain ⟨v, hrun, hv⟩ := cmpV_sound ok hp hA.heap hargs
    have hl : (args.toList.map a.eval ++ cs.toList).toArray = args.map a.eval ++ cs := by
     apply Array.ext'; simp
    rw [hl] at hrun
    have hrun' : (execOp a.eval ⟨some d, .call ⟨.value f, args, argTypes⟩, type, pos, after, guard⟩).run G.P w = .ok (.value v) w := by
     simp only [execOp, resolve, Deferred.ofValue, hfv, Sem.run_bind, Sem.run_pure, Result.andThen_ok, invoke]
     simpa using hrun
    unfold Oper.wpIn
    refine ⟨fun _ _ => trivial, ?_⟩
    rw [hsem, hrun']
    exact hn p σ.heap v w Fz ι hK (.refl hA.heap hA.fram) hv
  ·cases h
theorem dstOf_eq {ops : List Oper} {j g : Nat} (h : dstOf ops j = some g) : ∃ o, ops[j]? = some o ∧ o.dst = some g := by
 unfold dstOf at h
 split at h
 ·rename_i o ho
  rw [getL_eq] at ho
  exact ⟨o, ho, h⟩
 ·cases h
theorem yielded_eq {ops : Array Oper} {tmps : Array Value} {j g : Nat} (h : dstOf ops.toList j = some g) :
  yielded ops tmps j = match tmps.getD g undef with
   | .bool b => some b
   | _ => none := by
 obtain ⟨o, h1, h2⟩ := dstOf_eq h
 have h3 : ops[j]? = some o := by simpa using h1
 simp only [yielded, h3, Option.bind_some, h2]
 rw [Array.getD_eq_getD_getElem?]
 cases tmps[g]? with
 | none => rfl
 | some v => cases v <;> rfl
theorem vops_sound (ok : PrgOk G) {rec : Rec G} (hrec : Spec G rec) {ann : Ann} {ops : Array Oper} {Q : Exit → Act → World → Prop} :
  ∀ (rest : List Oper) {σ : St G.E.T} {k : St G.E.T → Option R}, vops G rec ann N ops.toList rest σ k = some r → ∀ {a : Act} {w : World} {Fz : Nat → Prop} {ι : Nat → Loc}, At G X N w Fz ι σ a →
   (∀ σ' a' w' Fz' ι', k σ' = some r → a'.defers = a.defers → Goes G X N (dstsOps rest) w Fz ι σ.heap a w' Fz' ι' σ' a' → Q .normal a' w') → wpListIn (fence ro) 0 G.P ops Q rest a w
 | [], σ, k, h, a, w, Fz, ι, hA, hQ => by
  simp only [vops] at h
  exact hQ σ a w Fz ι h rfl hA.refl
 | o :: rest, σ, k, h, a, w, Fz, ι, hA, hQ => by
  have hds : ∀ t, t ∈ dsOf o.dst ++ dstsOps rest → t ∈ dstsOps (o :: rest) := by
   intro t ht
   simp only [dstsOps]
   cases hd : o.dst with
   | none => rw [hd] at ht; simpa [dsOf] using ht
   | some d => rw [hd] at ht; simpa [dsOf] using ht
  -- the operation is carried out
  have run : ∀ σ0 : St G.E.T, σ0.heap = σ.heap → EnvRep G.E w Fz ι σ.heap σ0.env a →
    (vop G rec ann none o σ0 fun v h => match V.put N o.dst v σ0.env with
     | some env => vops G rec ann N ops.toList rest ⟨env, h⟩ k
     | none => none) = some r → o.wpIn (fence ro) 0 G.P a w (wpListIn (fence ro) 0 G.P ops Q rest) Q := by
   intro σ0 hh he h
   have hA0 : At G X N w Fz ι σ0 a := ⟨by rw [hh]; exact hA.heap, by rw [hh]; exact hA.fram, by rw [hh]; exact he, hA.size, by rw [hh]; exact hA.defers⟩
   refine vop_sound ok hrec h hA0 fun p H' v w' Fz' ι' hK hs hp => ?_
   split at hK
   ·rename_i env' hput
    obtain ⟨e1, e2⟩ := EnvRep.put (N := N) (hA0.env.mono hs.keep) hp hput hA.size
    have hg : Goes G X N (dsOf o.dst) w Fz ι σ.heap a w' Fz' ι' ⟨env', H'⟩ (a.put o.dst v) :=
     ⟨by rw [← hh]; exact hs, e1, by rw [put_size]; exact hA.size, by rw [put_defers]; exact hA0.defers.step hs, e2⟩
    exact vops_sound ok hrec rest hK hg.at_ fun σ' a' w'' Fz'' ι'' hk hd hg' => hQ σ' a' w'' Fz'' ι'' hk (by rw [hd, put_defers]) ((hg.trans hg').more hds)
   ·cases hK
  -- it is not
  have skip : ∀ env0 : List (Nat × PV G.E.T), EnvRep G.E w Fz ι σ.heap env0 a → (match V.put N o.dst (.tup []) env0 with
     | some env => vops G rec ann N ops.toList rest ⟨env, σ.heap⟩ k
     | none => none) = some r → wpListIn (fence ro) 0 G.P ops Q rest (a.put o.dst undef) w := by
   intro env0 he h
   split at h
   ·rename_i env' hput
    obtain ⟨e1, e2⟩ := EnvRep.put (N := N) he (v := undef) (by simp only [PRep]; exact ⟨#[], rfl, by simp [PReps]⟩) hput hA.size
    have hg : Goes G X N (dsOf o.dst) w Fz ι σ.heap a w Fz ι ⟨env', σ.heap⟩ (a.put o.dst undef) :=
     ⟨.refl hA.heap hA.fram, e1, by rw [put_size]; exact hA.size, by rw [put_defers]; exact hA.defers, e2⟩
    exact vops_sound ok hrec rest h hg.at_ fun σ' a' w'' Fz'' ι'' hk hd hg' => hQ σ' a' w'' Fz'' ι'' hk (by rw [hd, put_defers]) ((hg.trans hg').more hds)
   ·cases h
  unfold wpListIn
  cases hgd : o.guard with
  | none =>
   simp only [vops, hgd] at h
   simp only [Region.wanted, hgd, if_true]
   exact run σ rfl hA.env h
  | some jw =>
   obtain ⟨j, want⟩ := jw
   simp only [vops, hgd] at h
   split at h
   ·cases h
   ·rename_i g hg
    have hy := yielded_eq (tmps := a.tmps) hg
    have hgr := hA.env g
    split at h
    ·rename_i b hb
     rw [hb] at hgr
     simp only [PRep] at hgr
     generalize hgv : a.tmps.getD g undef = gv at hgr hy
     cases hgr
     simp only at hy
     have he : EnvRep G.E w Fz ι σ.heap ((g, .bool b) :: σ.env) a := by
      intro t
      simp only [look]
      split
      ·rename_i e
       have := nat_beq e
       subst this
       rw [hgv]; simp only [PRep]; exact .bool
      ·exact hA.env t
     simp only [Region.wanted, hgd, hy]
     cases b with
     | true =>
      simp only [if_true] at h
      cases want with
      | true => simp only [beq_self_eq_true, if_true]; exact run ⟨(g, .bool true) :: σ.env, σ.heap⟩ rfl he h
      | false => simp only [show (some true == some false) = false from rfl, Bool.false_eq_true, if_false]; exact ⟨fun _ _ => trivial, skip _ he h⟩
     | false =>
      simp only [Bool.false_eq_true, if_false] at h
      cases want with
      | true => simp only [show (some false == some true) = false from rfl, Bool.false_eq_true, if_false]; exact ⟨fun _ _ => trivial, skip _ he h⟩
      | false => simp only [beq_self_eq_true, if_true]; exact run ⟨(g, .bool false) :: σ.env, σ.heap⟩ rfl he h
    ·rename_i l hl
     rw [hl] at hgr
     simp only [PRep] at hgr
     obtain ⟨cs, hcs, _⟩ := hgr
     rw [hcs] at hy
     simp only at hy
     simp only [Region.wanted, hgd, hy]
     split at h
     ·simp only [show (none == some want) = false from rfl, Bool.false_eq_true, if_false]; exact ⟨fun _ _ => trivial, skip _ hA.env h⟩
     ·cases h
    ·cases h
/-! ### A part of a region -/
theorem wpIn_monoQ {F : Fence} {n : Nat} {P : Program} {Q Q' : Exit → Act → World → Prop} {o : Oper} {a : Act} {w : World} {K K' : Act → World → Prop} (h : ∀ a w, K a w → K' a w) (hq : ∀ c a w, Q (.panic c) a w → Q' (.panic c) a w)
  (ho : LetsOut Q → LetsOut Q') (hh : o.wpIn F n P a w K Q) : o.wpIn F n P a w K' Q' := by
 unfold Oper.wpIn at *
 refine ⟨hh.1, ?_⟩
 have hh := hh.2
 generalize (o.semAt F.round a.eval).run P w = r at *
 cases r with
 | ok x w' =>
  cases x <;> simp only [Oper.uponIn] at hh ⊢ <;>
   first
    | exact h _ _ hh
    | exact ⟨hh.1, CallsIn.mono hh.2 (fun e w'' he => by cases e <;> first | exact h _ _ he | exact hq _ _ _ he | exact ho he)⟩
    | exact ⟨hh.1, RowsIn.mono hh.2 (fun _ _ he => h _ _ he)⟩
    | exact ⟨hh.1, RoundIn.mono hh.2 (fun e w'' he => by cases e <;> first | exact h _ _ he | exact hq _ _ _ he | exact ho he)⟩
 | halt x w' => cases x <;> simp only [Oper.uponIn] at hh ⊢ <;> first | exact hq _ _ _ hh | exact hh
/-- what comes behind a part of a region -/
def behind (F : Fence) (n : Nat) (P : Program) (ops : Array Oper) (Q : Exit → Act → World → Prop) (rest : List Oper) : Exit → Act → World → Prop
 | .normal, a, w => wpListIn F n P ops Q rest a w
 | e, a, w => Q e a w
theorem wpListIn_append {F : Fence} {n : Nat} {P : Program} {ops : Array Oper} {Q : Exit → Act → World → Prop} {rest : List Oper} : ∀ (pre : List Oper) {a : Act} {w : World}, wpListIn F n P ops (behind F n P ops Q rest) pre a w → wpListIn F n P ops Q (pre ++ rest) a w
 | [], _, _, h => h
 | o :: pre, a, w, h => by
  simp only [List.cons_append]
  unfold wpListIn at h ⊢
  split
  ·rename_i hw
   rw [if_pos hw] at h
   exact wpIn_monoQ (fun a w h => wpListIn_append pre h) (fun _ _ _ h => h) (fun ⟨a, w, h⟩ => ⟨a, w, h⟩) h
  ·rename_i hw
   rw [if_neg hw] at h
   exact ⟨h.1, wpListIn_append pre h.2⟩
end
end Go.Proofs.YtgffdmgidnnedaaGreat.V
