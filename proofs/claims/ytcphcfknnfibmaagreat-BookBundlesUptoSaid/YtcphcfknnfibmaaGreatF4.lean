import Derived.Test.YtcphcfknnfibmaaGreatF3
import Derived.Test.YtcphcfknnfibmaaGreatF2
import Derived.TacticsIn
import Derived.OrdersIn
import Derived.RangeFuncRecord
import Derived.Below
namespace Go.Proofs.YtcphcfknnfibmaaGreat.V
open Go Go.IntKind
set_option linter.unusedVariables false
set_option linter.unusedSimpArgs false
set_option linter.unusedSectionVars false
set_option maxRecDepth 100000
section
variable {G : Prg} {w w' : World} {Fz Fz' : Nat -> Prop} {ι ι' : Nat -> Loc} {R : Type} {r : R} {X : Ctx} {N : Nat} {ro : Option Nat}
def B555 (D : Nat) : Deferred := { target := .collected D, args := #[] }
def Marks {T : Nat -> Type} (X : Ctx) (w : World) (Fz : Nat -> Prop) (ι : Nat -> Loc) (H : List (Blk T)) (ds : List Deferred) : Prop :=
 ∃ Ds : List Nat, ds = Ds.map B555 ∧ Ds.Nodup ∧ ∀ D, D ∈ Ds -> X.w0.heap.size <= D ∧ Un w Fz ι H D ∧ w.heap[D]? = some (.deferred (some []))
theorem Marks.nil {T : Nat -> Type} {H : List (Blk T)} : Marks X w Fz ι H [] := ⟨[], rfl, .nil, fun D h => by cases h⟩
theorem Marks.un {T : Nat -> Type} {H H' : List (Blk T)} {ds : List Deferred} (h : Marks X w Fz ι H ds) (hu : ∀ B, Un w Fz ι H B -> w'.heap[B]? = w.heap[B]? ∧ Un w' Fz' ι' H' B) : Marks X w' Fz' ι' H' ds := by
 obtain ⟨Ds, h1, h2, h3⟩ := h
 refine ⟨Ds, h1, h2, fun D hD => ?_⟩
 obtain ⟨g1, g2, g3⟩ := h3 D hD
 obtain ⟨e1, e2⟩ := hu D g2
 exact ⟨g1, e2, e1.trans g3⟩
theorem Marks.step {E : Env} {H H' : List (Blk E.T)} {ds : List Deferred} (h : Marks X w Fz ι H ds) (s : Step E X w w' Fz Fz' ι ι' H H') : Marks X w' Fz' ι' H' ds := h.un s.un
structure At (G : Prg) (X : Ctx) (N : Nat) (w : World) (Fz : Nat -> Prop) (ι : Nat -> Loc) (σ : St G.E.T) (a : Act) : Prop where
 heap : HRep G.E w Fz ι σ.heap
 fram : Fram G.E X w Fz ι σ.heap
 env : B23 G.E w Fz ι σ.heap σ.env a
 size : N <= a.tmps.size
 defers : Marks X w Fz ι σ.heap a.defers
structure Goes (G : Prg) (X : Ctx) (N : Nat) (ds : List Nat) (w : World) (Fz : Nat -> Prop) (ι : Nat -> Loc) (H : List (Blk G.E.T)) (a : Act) (w' : World) (Fz' : Nat -> Prop) (ι' : Nat -> Loc) (σ' : St G.E.T) (a' : Act) : Prop where
 step : Step G.E X w w' Fz Fz' ι ι' H σ'.heap
 env : B23 G.E w' Fz' ι' σ'.heap σ'.env a'
 size : N <= a'.tmps.size
 defers : Marks X w' Fz' ι' σ'.heap a'.defers
 stay : ∀ t, t ∉ ds -> a'.tmps.getD t undef = a.tmps.getD t undef
theorem At.refl {σ : St G.E.T} {a : Act} (h : At G X N w Fz ι σ a) : Goes G X N [] w Fz ι σ.heap a w Fz ι σ a := ⟨.refl h.heap h.fram, h.env, h.size, h.defers, fun _ _ => rfl⟩
theorem Goes.at_ {ds : List Nat} {H : List (Blk G.E.T)} {a a' : Act} {σ' : St G.E.T} (h : Goes G X N ds w Fz ι H a w' Fz' ι' σ' a') : At G X N w' Fz' ι' σ' a' := ⟨h.step.heap, h.step.fram, h.env, h.size, h.defers⟩
theorem Goes.more {ds ds' : List Nat} {H : List (Blk G.E.T)} {a a' : Act} {σ' : St G.E.T} (h : Goes G X N ds w Fz ι H a w' Fz' ι' σ' a') (hd : ∀ t, t ∈ ds -> t ∈ ds') : Goes G X N ds' w Fz ι H a w' Fz' ι' σ' a' :=
 ⟨h.step, h.env, h.size, h.defers, fun t ht => h.stay t fun e => ht (hd t e)⟩
theorem Goes.trans {ds ds' : List Nat} {H : List (Blk G.E.T)} {a a' a'' : Act} {σ' σ'' : St G.E.T} {w'' : World} {Fz'' : Nat -> Prop} {ι'' : Nat -> Loc}
  (h : Goes G X N ds w Fz ι H a w' Fz' ι' σ' a') (g : Goes G X N ds' w' Fz' ι' σ'.heap a' w'' Fz'' ι'' σ'' a'') : Goes G X N (ds ++ ds') w Fz ι H a w'' Fz'' ι'' σ'' a'' :=
 ⟨h.step.trans g.step, g.env, g.size, g.defers, fun t ht => by
  rw [g.stay t fun e => ht (A70 _ e), h.stay t fun e => ht (A90 _ e)]⟩
theorem B516 {a : Act} {d : Nat} {v : Value} (h : d < a.tmps.size) (t : Nat) : (a.put (some d) v).tmps.getD t undef = if t = d then v else a.tmps.getD t undef := by
 simp only [Act.put, A47, A83]
 by_cases e : d = t
 ·subst e; simp [h]
 ·rw [A7 e, A7 (Ne.symm e)]
theorem B155 {a : Act} {d : Option Nat} {v : Value} : (a.put d v).tmps.size = a.tmps.size := by cases d <;> simp [Act.put]
theorem B112 {a : Act} {d : Option Nat} {v : Value} : (a.put d v).defers = a.defers := by cases d <;> simp [Act.put]
def dsOf : Option Nat -> List Nat
 | some d => [d]
 | none => []
theorem B23.put {E : Env} {env env' : List (Nat × PV E.T)} {H : List (Blk E.T)} {a : Act} (h : B23 E w Fz ι H env a) {dst : Option Nat} {p : PV E.T} {v : Value} (hp : PRep E w Fz ι H p v)
  (hput : put N dst p env = some env') (hs : N <= a.tmps.size) : B23 E w Fz ι H env' (a.put dst v) ∧ ∀ t, t ∉ dsOf dst -> (a.put dst v).tmps.getD t undef = a.tmps.getD t undef := by
 cases dst with
 | none =>
  simp only [V.put] at hput; cases hput
  exact ⟨h, fun _ _ => rfl⟩
 | some d =>
  simp only [V.put] at hput
  split at hput
  ·rename_i hd
   cases hput
   have hlt : d < a.tmps.size := A75 (B94.1 hd) hs
   refine ⟨fun t => ?_, fun t ht => ?_⟩
   ·rw [B516 hlt]
    simp only [look]
    by_cases e : t = d
    ·subst e
     simp only [Nat.beq_refl, A6]; exact hp
    ·have : Nat.beq t d = false := by
      rcases hq : Nat.beq t d with _ | _
      ·rfl
      ·exact absurd (B7 hq) e
     simp only [this, A7 e]; exact h t
   ·rw [B516 hlt, A7]
    simpa [dsOf] using ht
  ·cases hput
def fence (ro : Option Nat) : Fence := { Fence.wide with round := ro }
theorem B664 {n : Nat} {P : Program} {f : FuncId} {args : Array Value} {w : World} {R : Ending -> World -> Prop} (h : Calls P f args w R) : CallsIn (fence ro) n P f args w R :=
 (callsIn_wide (n := n)).2 h
theorem B745 {rec : Rec G} {ann : Ann} {pl : Option Nat} {o : Oper} {σ : St G.E.T} {K : PV G.E.T -> List (Blk G.E.T) -> Option R} (h : vop G rec ann pl o σ K = some r) {ρ : Operand -> Value} :
  o.semAt (fence ro).round ρ = execOp ρ o := by
 cases ro with
 | none => exact Oper.semAt_none ..
 | some l => exact Oper.semAt_some _ _ _ fun c e => by obtain ⟨dst, op, type, pos, after, guard⟩ := o; simp only at e; subst e; simp [vop] at h
theorem B658 (ok : PrgOk G) {rec : Rec G} (hrec : Spec G rec) {ann : Ann} {pl : Option Nat} {o : Oper} {σ : St G.E.T} {K : PV G.E.T -> List (Blk G.E.T) -> Option R} (h : vop G rec ann pl o σ K = some r) {a : Act}
  (hA : At G X N w Fz ι σ a) {next : Act -> World -> Prop} {Q : Exit -> Act -> World -> Prop}
  (hn : ∀ p H' v w' Fz' ι', K p H' = some r -> Step G.E X w w' Fz Fz' ι ι' σ.heap H' -> PRep G.E w' Fz' ι' H' p v -> next (a.put o.dst v) w') : o.wpIn (fence ro) 0 G.P a w next Q := by
 have hsem : ∀ ρ, o.semAt (fence ro).round ρ = execOp ρ o := fun _ => B745 h
 cases hc : B283 o with
 | false =>
  obtain ⟨p, H', v, w', Fz', ι', hK, hg⟩ := B946 ok h hc hA.env hA.heap hA.fram
  have := hn p H' v w' Fz' ι' hK hg.step hg.rep
  unfold Oper.wpIn
  refine ⟨fun _ _ => trivial, ?_⟩
  rw [hsem]
  rcases hg.run with e | ⟨e, rfl⟩
  ·rw [e]; exact this
  ·rw [e]; exact this
 | true =>
  obtain ⟨dst, op, type, pos, after, guard⟩ := o
  cases op <;> simp only [B283] at hc <;> try (cases hc; done)
  rename_i c
  obtain ⟨callee, args, argTypes⟩ := c
  cases callee <;> simp only at hc <;> try (cases hc; done)
  rename_i f
  simp only [vop] at h
  split at h
  ·rename_i fid caps d hf
   split at h
   ·rename_i i hi
    split at h
    ·rename_i hfid
     have hfid := B7 hfid
     have hfr := B11 hA.env f
     rw [hf] at hfr
     simp only [PRep] at hfr
     obtain ⟨cs, hfv, hcs⟩ := hfr
     have hargs := (B147 hA.env args.toList).append hcs
     obtain ⟨⟨fn, hfn, hbody⟩, hcall⟩ := B771 ok hrec h hA.heap hA.fram hargs
     have hname := ok.names _ fn hfn hbody
     rw [hfid] at hfn hcall
     have hnone : fn.body.isNone = false := by cases hb : fn.body <;> simp_all
     have hrun : (execOp a.eval ⟨some d, .call ⟨.value f, args, argTypes⟩, type, pos, after, guard⟩).run G.P w = .ok (.enter fid (args.map a.eval ++ cs)) w := by
      simp only [execOp, resolve, Deferred.ofValue, hfv, Sem.run_bind, Sem.run_pure, Result.andThen_ok, invoke]
      simp only [callFunc, Sem.run_bind, run_program, Result.andThen_ok, hfn, hname, hnone, A5, A4, Array.empty_append]
      rfl
     unfold Oper.wpIn
     refine ⟨fun _ _ => trivial, ?_⟩
     rw [hsem, hrun, Oper.uponIn_enter]
     refine ⟨fun e => (by cases e), B664 ?_⟩
     have hl : (args.toList.map a.eval ++ cs.toList).toArray = args.map a.eval ++ cs := by
      apply Array.ext'; simp
     rw [hl] at hcall
     refine hcall.mono ?_
     rintro e w' ⟨v, p, H', Fz', ι', rfl, hK, hs, hp⟩
     exact hn p H' v w' Fz' ι' hK hs hp
    ·cases h
   ·obtain ⟨p, hp, hK⟩ := A34.1 h
    have hfr := B11 hA.env f
    rw [hf] at hfr
    simp only [PRep] at hfr
    obtain ⟨cs, hfv, hcs⟩ := hfr
    have hargs := (B147 hA.env args.toList).append hcs
    obtain ⟨v, hrun, hv⟩ := B837 ok hp hA.heap hargs
    have hl : (args.toList.map a.eval ++ cs.toList).toArray = args.map a.eval ++ cs := by
     apply Array.ext'; simp
    rw [hl] at hrun
    have hrun' : (execOp a.eval ⟨some d, .call ⟨.value f, args, argTypes⟩, type, pos, after, guard⟩).run G.P w = .ok (.value v) w := by
     simp only [execOp, resolve, Deferred.ofValue, hfv, Sem.run_bind, Sem.run_pure, Result.andThen_ok, invoke]
     simpa using hrun
    unfold Oper.wpIn
    refine ⟨fun _ _ => trivial, ?_⟩
    rw [hsem, hrun']
    exact hn p σ.heap v w Fz ι hK (.refl hA.heap hA.fram) hv
  ·cases h
theorem B970 {ops : List Oper} {j g : Nat} (h : dstOf ops j = some g) : ∃ o, ops[j]? = some o ∧ o.dst = some g := by
 unfold dstOf at h
 split at h
 ·rename_i o ho
  rw [B24] at ho
  exact ⟨o, ho, h⟩
 ·cases h
theorem B583 {ops : Array Oper} {tmps : Array Value} {j g : Nat} (h : dstOf ops.toList j = some g) :
  yielded ops tmps j = match tmps.getD g undef with
   | .bool b => some b
   | _ => none := by
 obtain ⟨o, h1, h2⟩ := B970 h
 have h3 : ops[j]? = some o := by simpa using h1
 simp only [yielded, h3, A1, h2]
 rw [A47]
 cases tmps[g]? with
 | none => rfl
 | some v => cases v <;> rfl
theorem B115 (ok : PrgOk G) {rec : Rec G} (hrec : Spec G rec) {ann : Ann} {ops : Array Oper} {Q : Exit -> Act -> World -> Prop} :
  ∀ (rest : List Oper) {σ : St G.E.T} {k : St G.E.T -> Option R}, vops G rec ann N ops.toList rest σ k = some r -> ∀ {a : Act} {w : World} {Fz : Nat -> Prop} {ι : Nat -> Loc}, At G X N w Fz ι σ a ->
   (∀ σ' a' w' Fz' ι', k σ' = some r -> a'.defers = a.defers -> Goes G X N (B12 rest) w Fz ι σ.heap a w' Fz' ι' σ' a' -> Q .normal a' w') -> wpListIn (fence ro) 0 G.P ops Q rest a w
 | [], σ, k, h, a, w, Fz, ι, hA, hQ => by
  simp only [vops] at h
  exact hQ σ a w Fz ι h rfl hA.refl
 | o :: rest, σ, k, h, a, w, Fz, ι, hA, hQ => by
  have hds : ∀ t, t ∈ dsOf o.dst ++ B12 rest -> t ∈ B12 (o :: rest) := by
   intro t ht
   simp only [B12]
   cases hd : o.dst with
   | none => rw [hd] at ht; simpa [dsOf] using ht
   | some d => rw [hd] at ht; simpa [dsOf] using ht
  -- the operation is carried out
  have run : ∀ σ0 : St G.E.T, σ0.heap = σ.heap -> B23 G.E w Fz ι σ.heap σ0.env a ->
    (vop G rec ann none o σ0 fun v h => match V.put N o.dst v σ0.env with
     | some env => vops G rec ann N ops.toList rest ⟨env, h⟩ k
     | none => none) = some r -> o.wpIn (fence ro) 0 G.P a w (wpListIn (fence ro) 0 G.P ops Q rest) Q := by
   intro σ0 hh he h
   have hA0 : At G X N w Fz ι σ0 a := ⟨by rw [hh]; exact hA.heap, by rw [hh]; exact hA.fram, by rw [hh]; exact he, hA.size, by rw [hh]; exact hA.defers⟩
   refine B658 ok hrec h hA0 fun p H' v w' Fz' ι' hK hs hp => ?_
   split at hK
   ·rename_i env' hput
    obtain ⟨e1, e2⟩ := B23.put (N := N) (hA0.env.mono hs.keep) hp hput hA.size
    have hg : Goes G X N (dsOf o.dst) w Fz ι σ.heap a w' Fz' ι' ⟨env', H'⟩ (a.put o.dst v) :=
     ⟨by rw [← hh]; exact hs, e1, by rw [B155]; exact hA.size, by rw [B112]; exact hA0.defers.step hs, e2⟩
    exact B115 ok hrec rest hK hg.at_ fun σ' a' w'' Fz'' ι'' hk hd hg' => hQ σ' a' w'' Fz'' ι'' hk (by rw [hd, B112]) ((hg.trans hg').more hds)
   ·cases hK
  -- it is not
  have skip : ∀ env0 : List (Nat × PV G.E.T), B23 G.E w Fz ι σ.heap env0 a -> (match V.put N o.dst (.tup []) env0 with
     | some env => vops G rec ann N ops.toList rest ⟨env, σ.heap⟩ k
     | none => none) = some r -> wpListIn (fence ro) 0 G.P ops Q rest (a.put o.dst undef) w := by
   intro env0 he h
   split at h
   ·rename_i env' hput
    obtain ⟨e1, e2⟩ := B23.put (N := N) he (v := undef) (by simp only [PRep]; exact ⟨#[], rfl, by simp [PReps]⟩) hput hA.size
    have hg : Goes G X N (dsOf o.dst) w Fz ι σ.heap a w Fz ι ⟨env', σ.heap⟩ (a.put o.dst undef) :=
     ⟨.refl hA.heap hA.fram, e1, by rw [B155]; exact hA.size, by rw [B112]; exact hA.defers, e2⟩
    exact B115 ok hrec rest h hg.at_ fun σ' a' w'' Fz'' ι'' hk hd hg' => hQ σ' a' w'' Fz'' ι'' hk (by rw [hd, B112]) ((hg.trans hg').more hds)
   ·cases h
  unfold wpListIn
  cases hgd : o.guard with
  | none =>
   simp only [vops, hgd] at h
   simp only [Region.wanted, hgd, A6]
   exact run σ rfl hA.env h
  | some jw =>
   obtain ⟨j, want⟩ := jw
   simp only [vops, hgd] at h
   split at h
   ·cases h
   ·rename_i g hg
    have hy := B583 (tmps := a.tmps) hg
    have hgr := hA.env g
    split at h
    ·rename_i b hb
     rw [hb] at hgr
     simp only [PRep] at hgr
     generalize hgv : a.tmps.getD g undef = gv at hgr hy
     cases hgr
     simp only at hy
     have he : B23 G.E w Fz ι σ.heap ((g, .bool b) :: σ.env) a := by
      intro t
      simp only [look]
      split
      ·rename_i e
       have := B7 e
       subst this
       rw [hgv]; simp only [PRep]; exact .bool
      ·exact hA.env t
     simp only [Region.wanted, hgd, hy]
     cases b with
     | true =>
      simp only [A6] at h
      cases want with
      | true => simp only [beq_self_eq_true, A6]; exact run ⟨(g, .bool true) :: σ.env, σ.heap⟩ rfl he h
      | false => simp only [show (some true == some false) = false from rfl, A5, A4]; exact ⟨fun _ _ => trivial, skip _ he h⟩
     | false =>
      simp only [A5, A4] at h
      cases want with
      | true => simp only [show (some false == some true) = false from rfl, A5, A4]; exact ⟨fun _ _ => trivial, skip _ he h⟩
      | false => simp only [beq_self_eq_true, A6]; exact run ⟨(g, .bool false) :: σ.env, σ.heap⟩ rfl he h
    ·rename_i l hl
     rw [hl] at hgr
     simp only [PRep] at hgr
     obtain ⟨cs, hcs, _⟩ := hgr
     rw [hcs] at hy
     simp only at hy
     simp only [Region.wanted, hgd, hy]
     split at h
     ·simp only [show (none == some want) = false from rfl, A5, A4]; exact ⟨fun _ _ => trivial, skip _ hA.env h⟩
     ·cases h
    ·cases h
theorem B874 {F : Fence} {n : Nat} {P : Program} {Q Q' : Exit -> Act -> World -> Prop} {o : Oper} {a : Act} {w : World} {K K' : Act -> World -> Prop} (h : ∀ a w, K a w -> K' a w) (hq : ∀ c a w, Q (.panic c) a w -> Q' (.panic c) a w)
  (ho : LetsOut Q -> LetsOut Q') (hh : o.wpIn F n P a w K Q) : o.wpIn F n P a w K' Q' := by
 unfold Oper.wpIn at *
 refine ⟨hh.1, ?_⟩
 have hh := hh.2
 generalize (o.semAt F.round a.eval).run P w = r at *
 cases r with
 | ok x w' =>
  cases x <;> simp only [Oper.uponIn] at hh ⊢ <;>
   first
    | exact h _ _ hh
    | exact ⟨hh.1, CallsIn.mono hh.2 (fun e w'' he => by cases e <;> first | exact h _ _ he | exact hq _ _ _ he | exact ho he)⟩
    | exact ⟨hh.1, RowsIn.mono hh.2 (fun _ _ he => h _ _ he)⟩
    | exact ⟨hh.1, RoundIn.mono hh.2 (fun e w'' he => by cases e <;> first | exact h _ _ he | exact hq _ _ _ he | exact ho he)⟩
 | halt x w' => cases x <;> simp only [Oper.uponIn] at hh ⊢ <;> first | exact hq _ _ _ hh | exact hh
def B328 (F : Fence) (n : Nat) (P : Program) (ops : Array Oper) (Q : Exit -> Act -> World -> Prop) (rest : List Oper) : Exit -> Act -> World -> Prop
 | .normal, a, w => wpListIn F n P ops Q rest a w
 | e, a, w => Q e a w
theorem B212 {F : Fence} {n : Nat} {P : Program} {ops : Array Oper} {Q : Exit -> Act -> World -> Prop} {rest : List Oper} : ∀ (pre : List Oper) {a : Act} {w : World}, wpListIn F n P ops (B328 F n P ops Q rest) pre a w -> wpListIn F n P ops Q (pre ++ rest) a w
 | [], _, _, h => h
 | o :: pre, a, w, h => by
  simp only [A40]
  unfold wpListIn at h ⊢
  split
  ·rename_i hw
   rw [A3 hw] at h
   exact B874 (fun a w h => B212 pre h) (fun _ _ _ h => h) (fun ⟨a, w, h⟩ => ⟨a, w, h⟩) h
  ·rename_i hw
   rw [A7 hw] at h
   exact ⟨h.1, B212 pre h.2⟩
end
section
variable {G : Prg} {R : Type} {r : R} {X : Ctx} {N : Nat}
def Pre (ops : List Oper) (i j : Nat) : Prop := ∃ o e, getL ops j = some o ∧ e ∈ o.after.toList ∧ Region.binds .any e = true ∧ e.on = i
structure AncOk (ops : List Oper) (anc : List Nat) : Prop where
 len : anc.length = ops.length
 pre : ∀ i j, Pre ops i j -> i < j
 mask : ∀ i j, ordB anc i j = true -> i < j ∧ (Pre ops i j ∨ ∃ c, Pre ops c j ∧ ordB anc c j = true ∧ ordB anc i c = true)
theorem B249 {anc : List Nat} : ∀ {l : List Edge} {m : Nat}, B146 anc l = some m -> (∀ e ∈ l, Region.binds .any e = true -> e.on < anc.length) ∧
  ∀ i, Nat.testBit m i = true -> ∃ e ∈ l, Region.binds .any e = true ∧ (i = e.on ∨ ∃ a, getL anc e.on = some a ∧ Nat.testBit a i = true)
 | [], m, h => by
  simp only [B146] at h; cases h
  exact ⟨by simp, fun i hi => by simp at hi⟩
 | e :: l, m, h => by
  simp only [B146] at h
  split at h
  ·rename_i hb
   split at h
   ·rename_i a m' ha hm
    cases h
    obtain ⟨h1, h2⟩ := B249 hm
    refine ⟨fun e' he' hb' => ?_, fun i hi => ?_⟩
    ·rcases A19.1 he' with rfl | he'
     ·exact B17 ha
     ·exact h1 e' he' hb'
    ·rw [Nat.testBit_or, Nat.testBit_or, Nat.testBit_two_pow] at hi
     simp only [Bool.or_eq_true, A20] at hi
     rcases hi with (hi | hi) | hi
     ·exact ⟨e, A23 .., hb, .inl hi.symm⟩
     ·exact ⟨e, A23 .., hb, .inr ⟨a, ha, hi⟩⟩
     ·obtain ⟨e', h3, h4, h5⟩ := h2 i hi
      exact ⟨e', A29 _ h3, h4, h5⟩
   ·cases h
  ·rename_i hb
   obtain ⟨h1, h2⟩ := B249 h
   refine ⟨fun e' he' hb' => ?_, fun i hi => ?_⟩
   ·rcases A19.1 he' with rfl | he'
    ·rw [hb] at hb'; cases hb'
    ·exact h1 e' he' hb'
   ·obtain ⟨e', h3, h4, h5⟩ := h2 i hi
    exact ⟨e', A29 _ h3, h4, h5⟩
theorem B755 {m i : Nat} {l : List Edge} {anc : List Nat} (h : B146 anc l = some m) {e : Edge} (he : e ∈ l) (hb : Region.binds .any e = true) : Nat.testBit m e.on = true := by
 induction l generalizing m with
 | nil => simp at he
 | cons x l ih =>
  simp only [B146] at h
  split at h
  ·split at h
   ·rename_i a m' ha hm
    cases h
    rw [Nat.testBit_or, Nat.testBit_or, Nat.testBit_two_pow]
    rcases A19.1 he with rfl | he
    ·simp
    ·rw [ih hm he]; simp
   ·cases h
  ·rename_i hb'
   rcases A19.1 he with rfl | he
   ·rw [hb] at hb'; cases hb'
   ·exact ih h he
theorem B526 : ∀ {rest : List Oper} {done : List Oper} {acc anc : List Nat}, ancOf rest acc = some anc -> AncOk done acc -> AncOk (done ++ rest) anc
 | [], done, acc, anc, h, hok => by
  simp only [ancOf] at h; cases h
  rw [A38]; exact hok
 | o :: rest, done, acc, anc, h, hok => by
  simp only [ancOf] at h
  split at h
  ·rename_i m hm
   have := B526 (done := done ++ [o]) h ?_
   ·rw [A27] at this; exact this
   ·obtain ⟨h1, h2⟩ := B249 hm
    have old : ∀ i j, j < done.length -> ordB (acc ++ [m]) i j = ordB acc i j := by
     intro i j hj
     unfold ordB
     rw [B43 (by rw [hok.len]; exact hj)]
    have preold : ∀ i j, j < done.length -> (Pre (done ++ [o]) i j ↔ Pre done i j) := by
     intro i j hj
     unfold Pre
     rw [B43 hj]
    have prenew : ∀ i, Pre (done ++ [o]) i done.length ↔ ∃ e ∈ o.after.toList, Region.binds .any e = true ∧ e.on = i := by
     intro i
     unfold Pre
     rw [B64]
     constructor
     ·rintro ⟨o', e, h3, h4, h5, h6⟩
      cases h3
      exact ⟨e, h4, h5, h6⟩
     ·rintro ⟨e, h4, h5, h6⟩
      exact ⟨o, e, rfl, h4, h5, h6⟩
    have ordnew : ∀ i, ordB (acc ++ [m]) i done.length = Nat.testBit m i := by
     intro i
     unfold ordB
     rw [← hok.len, B64]
    refine ⟨by simp [hok.len], fun i j hp => ?_, fun i j hb => ?_⟩
    ·have hj : j < (done ++ [o]).length := by
      obtain ⟨o', e, h3, _⟩ := hp
      exact B17 h3
     simp at hj
     by_cases hlt : j < done.length
     ·exact hok.pre i j ((preold i j hlt).1 hp)
     ·have : j = done.length := by omega
      subst this
      obtain ⟨e, h4, h5, h6⟩ := (prenew i).1 hp
      have := h1 e h4 h5
      rw [hok.len] at this
      omega
    ·have hj : j < acc.length + 1 := by
      unfold ordB at hb
      split at hb
      ·rename_i hg
       have := B17 hg
       simpa using this
      ·cases hb
     rw [hok.len] at hj
     by_cases hlt : j < done.length
     ·rw [old i j hlt] at hb
      obtain ⟨h3, h4⟩ := hok.mask i j hb
      refine ⟨h3, ?_⟩
      rcases h4 with h4 | ⟨c, h4, h5, h6⟩
      ·exact .inl ((preold i j hlt).2 h4)
      ·refine .inr ⟨c, (preold c j hlt).2 h4, by rw [old c j hlt]; exact h5, ?_⟩
       rw [old i c (Nat.lt_trans (hok.pre c j h4) hlt)]; exact h6
     ·have : j = done.length := by omega
      subst this
      rw [ordnew] at hb
      obtain ⟨e, h4, h5, h6⟩ := h2 i hb
      have hlt' := h1 e h4 h5
      rw [hok.len] at hlt'
      rcases h6 with rfl | ⟨a, h6, h7⟩
      ·exact ⟨hlt', .inl ((prenew _).2 ⟨e, h4, h5, rfl⟩)⟩
      ·have ho : ordB acc i e.on = true := by unfold ordB; rw [h6]; exact h7
       obtain ⟨h8, _⟩ := hok.mask i e.on ho
       refine ⟨by omega, .inr ⟨e.on, (prenew _).2 ⟨e, h4, h5, rfl⟩, by rw [ordnew]; exact B755 (i := i) hm h4 h5, by rw [old i e.on hlt']; exact ho⟩⟩
  ·cases h
theorem B879 {ops : List Oper} {anc : List Nat} (h : ancOf ops [] = some anc) : AncOk ops anc := by
 have := B526 (done := []) h ⟨rfl, fun i j hp => by obtain ⟨o, e, h3, _⟩ := hp; simp [getL] at h3, fun i j hb => by simp [ordB, getL] at hb⟩
 simpa using this
def B403 (ops : List Oper) (S : Nat -> Bool) : Prop := ∀ i j, S j = true -> Pre ops i j -> S i = true
theorem AncOk.ready {ops : List Oper} {anc : List Nat} (h : AncOk ops anc) {S : Nat -> Bool} (hS : B403 ops S) : ∀ (j : Nat), (∀ i, Pre ops i j -> S i = true) -> ∀ i, ordB anc i j = true -> S i = true := by
 intro j
 induction j using Nat.strongRecOn with
 | _ j ih =>
  intro hp i hi
  obtain ⟨_, h2⟩ := h.mask i j hi
  rcases h2 with h2 | ⟨c, h2, h3, h4⟩
  ·exact hp i h2
  ·exact ih c (h.pre c j h2) (fun i' hi' => hS i' c (hp c h2) hi') i h4
theorem AncOk.inS {ops : List Oper} {anc : List Nat} (h : AncOk ops anc) {S : Nat -> Bool} (hS : B403 ops S) {i j : Nat} (hj : S j = true) (hi : ordB anc i j = true) : S i = true :=
 h.ready hS j (fun i' hi' => hS i' j hj hi') i hi
theorem B248 {anc : List Nat} {j : Nat} {y : Option Nat × List Nat} : ∀ {l : List (Nat × (Option Nat × List Nat))}, B271 anc j y l = true -> ∀ i x, (i, x) ∈ l -> ordB anc i j = true ∨ B407 x y = true
 | [], _, i, x, h => by simp at h
 | (i', x') :: l, h, i, x, hm => by
  simp only [B271] at h
  split at h
  ·rename_i ho
   rcases A19.1 hm with e | hm
   ·cases e; exact .inl ho
   ·exact B248 h i x hm
  ·split at h
   ·rename_i ha
    rcases A19.1 hm with e | hm
    ·cases e; exact .inr ha
    ·exact B248 h i x hm
   ·cases h
theorem B390 {anc : List Nat} {ops : List Oper} : ∀ {rest done : List Oper} {acc : List (Nat × (Option Nat × List Nat))}, B270 anc ops done.length rest acc = true ->
  (∀ i o, getL done i = some o -> (i, (o.dst, B103 ops o)) ∈ acc) -> ∀ i j o o', i < j -> done.length <= j -> getL (done ++ rest) i = some o -> getL (done ++ rest) j = some o' ->
   ordB anc i j = true ∨ B407 (o.dst, B103 ops o) (o'.dst, B103 ops o') = true
 | [], done, acc, h, hacc, i, j, o, o', hij, hj, ho, ho' => by
  have := B17 ho'
  simp at this
  omega
 | q :: rest, done, acc, h, hacc, i, j, o, o', hij, hj, ho, ho' => by
  simp only [B270] at h
  split at h
  ·rename_i h1
   by_cases he : j = done.length
   ·subst he
    have e1 : getL (done ++ q :: rest) i = getL done i := B43 hij
    have e2 : getL (done ++ q :: rest) done.length = some q := by rw [B100 (A11 _), A104]; rfl
    rw [e1] at ho
    rw [e2] at ho'; cases ho'
    exact B248 h1 i _ (hacc i o ho)
   ·have hl : (done ++ [q]).length = done.length + 1 := by simp
    refine B390 (done := done ++ [q]) (acc := (done.length, (q.dst, B103 ops q)) :: acc) (by rw [hl]; exact h) (fun i o hi => ?_) i j o o' hij (by rw [hl]; omega) (by simpa using ho) (by simpa using ho')
    by_cases hd : i = done.length
    ·subst hd
     rw [B64] at hi; cases hi
     exact A23 ..
    ·rw [B342 hd] at hi
     exact A29 _ (hacc i o hi)
  ·cases h
structure Apart (x y : Option Nat × List Nat) : Prop where
 l : ∀ d, x.1 = some d -> d ∉ y.2
 r : ∀ d, y.1 = some d -> d ∉ x.2
 ne : ∀ d, x.1 = some d -> y.1 ≠ some d
theorem B377 {d : Option Nat} {l : List Nat} (h : notIn d l = true) : ∀ e, d = some e -> e ∉ l := by
 rintro e rfl hm
 simp only [notIn, B72.2 hm] at h
 cases h
theorem B770 {x y : Option Nat × List Nat} (h : B407 x y = true) : Apart x y := by
 unfold B407 at h
 split at h
 ·rename_i h1 h2 h3
  refine ⟨B377 h1, B377 h2, fun d hd e => ?_⟩
  rw [hd] at h3
  exact B377 h3 d e (by simp)
 ·cases h
theorem B549 {anc : List Nat} : ∀ {tr : List (Nat × Kind)}, B217 anc tr = true -> ∀ a b : Nat, ∀ i j κ κ', getL tr a = some (j, κ') -> getL tr b = some (i, κ) -> a < b -> ordB anc i j = true ∨ B16 κ κ' = true
 | [], _, a, b, i, j, κ, κ', h, _, _ => by simp [getL] at h
 | (j0, κ0) :: l, h, a, b, i, j, κ, κ', ha, hb, hab => by
  simp only [B217] at h
  split at h
  ·rename_i h1
   obtain ⟨b, rfl⟩ : ∃ c, b = c + 1 := ⟨b - 1, by omega⟩
   simp only [getL] at hb
   cases a with
   | zero =>
    simp only [getL, A16, A33] at ha
    obtain ⟨rfl, rfl⟩ := ha
    have one : ∀ {l : List (Nat × Kind)} {b : Nat}, B340 anc j0 κ0 l = true -> getL l b = some (i, κ) -> ordB anc i j0 = true ∨ B16 κ κ0 = true := by
     intro l
     induction l with
     | nil => intro b _ hb; simp [getL] at hb
     | cons q l ih =>
      obtain ⟨i', κ''⟩ := q
      intro b h1 hb
      simp only [B340] at h1
      cases b with
      | zero =>
       simp only [getL, A16, A33] at hb
       obtain ⟨rfl, rfl⟩ := hb
       split at h1
       ·exact .inl ‹_›
       ·split at h1
        ·exact .inr ‹_›
        ·cases h1
      | succ b =>
       simp only [getL] at hb
       split at h1
       ·exact ih h1 hb
       ·split at h1
        ·exact ih h1 hb
        ·cases h1
    exact one h1 hb
   | succ a =>
    simp only [getL] at ha
    exact B549 h a b i j κ κ' ha hb (by omega)
  ·cases h
theorem B179 {T : List Nat} {n : Nat} : ∀ {F : List Nat}, B148 T n F = true -> ∀ id, id ∈ F -> id < n ∧ id ∉ T
 | [], _, id, h => by simp at h
 | x :: F, h, id, hm => by
  simp only [B148] at h
  split at h
  ·rename_i h1 h2
   rcases A19.1 hm with rfl | hm
   ·exact ⟨B94.1 h1, fun e => by rw [B72.2 e] at h2; cases h2⟩
   ·exact B179 h id hm
  ·cases h
end
section
variable {G : Prg} {R : Type} {r : R} {X : Ctx} {N : Nat}
theorem B634 {ann : Ann} {pl : Option Nat} {o : Oper} {σ : St G.E.T} {s : Nat} (h : B38 G ann pl o σ = some (.slot s)) : pl = some s := by
 obtain ⟨dst, op, type, pos, after, guard⟩ := o
 obtain ⟨env, H⟩ := σ
 cases op <;> simp only [B38] at h <;> try (cases h; done)
 case alloc t => split at h <;> cases h; rfl
 case makeMap t res => split at h <;> cases h; rfl
 case makeSlice t l c => split at h <;> cases h; rfl
 case buildSlice t m ps =>
  split at h
  ·cases h
  ·split at h <;> cases h; rfl
 case convert src dst x => split at h <;> cases h
 case slice t x lo hi mx => split at h <;> cases h
 case call c =>
  obtain ⟨callee, args, argTypes⟩ := c
  cases callee with
  | invoke r m => cases h
  | value f =>
   simp only at h
   split at h
   ·split at h
    ·split at h
     ·cases h
     ·split at h
      ·split at h <;> cases h
      ·cases h
    ·cases h
   ·cases h
  | builtin b =>
   cases b <;> simp only at h <;> try (cases h; done)
   case len => split at h <;> cases h
   case append => split at h <;> cases h
   case delete => split at h <;> cases h
   case copy => split at h <;> cases h
theorem B671 {ann : Ann} {o : Oper} {σ : St G.E.T} {s : Nat} (h : B38 G ann none o σ = some (.slot s)) : False := by cases B634 h
theorem B783 {ann : Ann} {o : Oper} {σ : St G.E.T} {s s' : Nat} (h : B38 G ann (some s') o σ = some (.slot s)) : s' = s := by have := B634 h; cases this; rfl
structure DRec (T : Nat -> Type) where
 val : PV T
 run : Bool
 kind : Kind
 heap : List (Blk T)
def putE {T : Nat -> Type} (dst : Option Nat) (v : PV T) (env : List (Nat × PV T)) : List (Nat × PV T) := match dst with
 | some d => (d, v) :: env
 | none => env
def B92 {T : Nat -> Type} (ops : List Oper) (env : List (Nat × PV T)) (o : Oper) : Option Bool := match o.guard with
 | none => some true
 | some (j, want) => match dstOf ops j with
  | none => none
  | some g => match look g env with
   | .bool b => some (b == want)
   | .tup l => match l with
    | [] => some false
    | _ :: _ => none
   | _ => none
def Lex (G : Prg) (rec : Rec G) (ann : Ann) (base m N : Nat) (ops : List Oper) : List Oper -> St G.E.T -> List (DRec G.E.T) -> St G.E.T -> Prop
 | [], σ, [], σ' => σ' = σ ∧ base + m <= σ.heap.length
 | o :: rest, σ, ρ :: recs, σ' => base + m <= σ.heap.length ∧ B92 ops σ.env o = some ρ.run ∧ (∀ d, o.dst = some d -> d < N) ∧
   (ρ.run = true -> B38 G ann (plOf ann base m o) o σ = some ρ.kind ∧ vop G rec ann (plOf ann base m o) o σ PK = some (ρ.val, ρ.heap)) ∧
   (ρ.run = false -> ρ.val = .tup [] ∧ ρ.heap = σ.heap ∧ ρ.kind = .pure []) ∧
   Lex G rec ann base m N ops rest ⟨putE o.dst ρ.val σ.env, ρ.heap⟩ recs σ'
 | _, _, _, _ => False
theorem Lex.big {rec : Rec G} {ann : Ann} {base m : Nat} {ops : List Oper} : ∀ {l : List Oper} {σ : St G.E.T} {recs : List (DRec G.E.T)} {σ' : St G.E.T}, Lex G rec ann base m N ops l σ recs σ' -> base + m <= σ.heap.length
 | [], σ, [], σ', h => h.2
 | o :: l, σ, ρ :: recs, σ', h => h.1
 | [], σ, _ :: _, σ', h => h.elim
 | _ :: _, σ, [], σ', h => h.elim
def Alike {T : Nat -> Type} (e e' : List (Nat × PV T)) : Prop := ∀ t, look t e = look t e'
theorem Alike.refl {T : Nat -> Type} (e : List (Nat × PV T)) : Alike e e := fun _ => rfl
theorem Alike.symm {T : Nat -> Type} {e e' : List (Nat × PV T)} (h : Alike e e') : Alike e' e := fun t => (h t).symm
theorem Alike.trans {T : Nat -> Type} {e e' e'' : List (Nat × PV T)} (h : Alike e e') (g : Alike e' e'') : Alike e e'' := fun t => (h t).trans (g t)
theorem Alike.eval {T : Nat -> Type} {e e' : List (Nat × PV T)} (h : Alike e e') (x : Operand) : eval e x = eval e' x := by cases x <;> first | rfl | exact h _
theorem Alike.put {T : Nat -> Type} {e e' : List (Nat × PV T)} (h : Alike e e') (d : Option Nat) (v : PV T) : Alike (putE d v e) (putE d v e') := by
 intro t
 cases d with
 | none => exact h t
 | some d =>
  simp only [putE, look]
  split
  ·rfl
  ·exact h t
theorem Alike.push {T : Nat -> Type} {e : List (Nat × PV T)} {g : Nat} {v : PV T} (h : look g e = v) : Alike ((g, v) :: e) e := by
 intro t
 simp only [look]
 split
 ·rename_i e'
  have := B7 e'
  subst this
  exact h.symm
 ·rfl
theorem Alike.guard {T : Nat -> Type} {ops : List Oper} {e e' : List (Nat × PV T)} (h : Alike e e') (o : Oper) : B92 ops e o = B92 ops e' o := by
 unfold B92
 split
 ·rfl
 ·split
  ·rfl
  ·rw [h]
theorem B739 {T : Nat -> Type} {dst : Option Nat} {v : PV T} {env env' : List (Nat × PV T)} (h : V.put N dst v env = some env') : env' = putE dst v env ∧ ∀ d, dst = some d -> d < N := by
 cases dst with
 | none => simp only [V.put] at h; cases h; exact ⟨rfl, fun d h => by cases h⟩
 | some d =>
  simp only [V.put] at h
  split at h
  ·rename_i hd
   cases h
   exact ⟨rfl, fun d' e => by cases e; exact B94.1 hd⟩
  ·cases h
def B83 {T : Nat -> Type} : Nat -> List (DRec T) -> List (Nat × Kind) -> List (Nat × Kind)
 | _, [], tr => tr
 | i, ρ :: recs, tr => B83 (i + 1) recs ((i, ρ.kind) :: tr)
theorem B444 {rec : Rec G} {ann : Ann} {base m : Nat} {ops : List Oper} {anc : List Nat} {k : St G.E.T -> Option R} : ∀ {rest : List Oper} {i : Nat} {tr : List (Nat × Kind)} {σ : St G.E.T}, vdraw G rec ann base m N ops anc i rest tr σ k = some r ->
  ∀ env, Alike env σ.env -> ∃ recs σ' σk, Lex G rec ann base m N ops rest ⟨env, σ.heap⟩ recs σ' ∧ k σk = some r ∧ σk.heap = σ'.heap ∧ Alike σk.env σ'.env ∧ B217 anc (B83 i recs tr) = true
 | [], i, tr, σ, h, env, he => by
  simp only [vdraw] at h
  split at h
  ·rename_i hf hb
   exact ⟨[], ⟨env, σ.heap⟩, σ, ⟨rfl, A86 hb⟩, h, rfl, he.symm, hf⟩
  ·cases h
 | o :: rest, i, tr, σ, h, env, he => by
  have hbig : base + m <= σ.heap.length := by
   simp only [vdraw] at h
   split at h
   ·cases h
   ·rename_i hb _; exact A86 hb
   ·rename_i hb _; exact A86 hb
  have go : ∀ {env1 : List (Nat × PV G.E.T)}, Alike env env1 -> B92 ops env o = some true -> (match B38 G ann (plOf ann base m o) o ⟨env1, σ.heap⟩ with
    | none => none
    | some κ => vop G rec ann (plOf ann base m o) o ⟨env1, σ.heap⟩ fun v h => match V.put N o.dst v env1 with
     | some env => vdraw G rec ann base m N ops anc (i + 1) rest ((i, κ) :: tr) ⟨env, h⟩ k
     | none => none) = some r -> ∃ recs σ' σk, Lex G rec ann base m N ops (o :: rest) ⟨env, σ.heap⟩ recs σ' ∧ k σk = some r ∧ σk.heap = σ'.heap ∧ Alike σk.env σ'.env ∧ B217 anc (B83 i recs tr) = true := by
   intro env1 h1 hg hh
   split at hh
   ·cases hh
   ·rename_i κ hκ
    rw [vop_k] at hh
    obtain ⟨⟨p, H'⟩, h2, h3⟩ := A34.1 hh
    simp only at h3
    split at h3
    ·rename_i env2 hput
     obtain ⟨rfl, hN⟩ := B739 hput
     obtain ⟨recs, σ', σk, g1, g2, g3, g4, g5⟩ := B444 h3 (putE o.dst p env) (h1.put _ _)
     refine ⟨⟨p, true, κ, H'⟩ :: recs, σ', σk, ⟨hbig, hg, hN, fun _ => ⟨?_, ?_⟩, (fun e => by cases e), g1⟩, g2, g3, g4, g5⟩
     ·rw [B847 fun x _ => h1.eval x]; exact hκ
     ·rw [B824 _ fun x _ => h1.eval x]; exact h2
    ·cases h3
  have skip : ∀ {env1 : List (Nat × PV G.E.T)}, Alike env env1 -> B92 ops env o = some false -> (match V.put N o.dst (.tup []) env1 with
     | some env => vdraw G rec ann base m N ops anc (i + 1) rest ((i, .pure []) :: tr) ⟨env, σ.heap⟩ k
     | none => none) = some r -> ∃ recs σ' σk, Lex G rec ann base m N ops (o :: rest) ⟨env, σ.heap⟩ recs σ' ∧ k σk = some r ∧ σk.heap = σ'.heap ∧ Alike σk.env σ'.env ∧ B217 anc (B83 i recs tr) = true := by
   intro env1 h1 hg hh
   split at hh
   ·rename_i env2 hput
    obtain ⟨rfl, hN⟩ := B739 hput
    obtain ⟨recs, σ', σk, g1, g2, g3, g4, g5⟩ := B444 hh (putE o.dst (.tup []) env) (h1.put _ _)
    exact ⟨⟨.tup [], false, .pure [], σ.heap⟩ :: recs, σ', σk, ⟨hbig, hg, hN, (fun e => by cases e), fun _ => ⟨rfl, rfl, rfl⟩, g1⟩, g2, g3, g4, g5⟩
   ·cases hh
  simp only [vdraw] at h
  split at h
  ·cases h
  ·rename_i _ e1
   exact go he (by unfold B92; rw [e1]) h
  ·rename_i j want _ e1
   split at h
   ·cases h
   ·rename_i g e2
    split at h
    ·rename_i b e3
     have hg : B92 ops env o = some (b == want) := by unfold B92; rw [e1]; simp only; rw [e2]; simp only; rw [he g, e3]
     have ha : Alike env ((g, .bool b) :: σ.env) := he.trans (Alike.push e3).symm
     cases b with
     | true =>
      simp only [A6] at h
      cases want
      ·exact skip ha hg h
      ·exact go ha hg h
     | false =>
      simp only [A5, A4] at h
      cases want
      ·exact go ha hg h
      ·exact skip ha hg h
    ·rename_i l e3
     split at h
     ·exact skip he (by unfold B92; rw [e1]; simp only; rw [e2]; simp only; rw [he g, e3]) h
     ·cases h
    ·cases h
def isEff : Kind -> Bool
 | .pure _ => false
 | .eff _ _ => true
 | .effp _ _ _ => true
 | .slot _ => true
def B29 (κ : Kind) (id : Nat) : Bool := match κ with
 | .pure _ => false
 | .eff T n => decide (id ∈ T ∨ n <= id)
 | .effp _ T n => decide (id ∈ T ∨ n <= id)
 | .slot s => decide (id = s)
def envS {T : Nat -> Type} (S : Nat -> Bool) : Nat -> List Oper -> List (DRec T) -> List (Nat × PV T) -> List (Nat × PV T)
 | k, o :: l, ρ :: recs, env => envS S (k + 1) l recs (if S k = true then putE o.dst ρ.val env else env)
 | _, _, _, env => env
def overF {T : Nat -> Type} (ρ : DRec T) (f : Nat -> Option (Blk T)) : Nat -> Option (Blk T) := fun id => if B29 ρ.kind id = true then getL ρ.heap id else f id
def blkS {T : Nat -> Type} (S : Nat -> Bool) : Nat -> List (DRec T) -> (Nat -> Option (Blk T)) -> Nat -> Option (Blk T)
 | k, ρ :: recs, f => blkS S (k + 1) recs (if S k = true then overF ρ f else f)
 | _, [], f => f
theorem B240 {T : Nat -> Type} {d : Option Nat} {v : PV T} {e : List (Nat × PV T)} {t : Nat} : look t (putE d v e) = if d = some t then v else look t e := by
 cases d with
 | none => simp [putE]
 | some d =>
  simp only [putE, look]
  by_cases h : d = t
  ·subst h; simp
  ·have : Nat.beq t d = false := by
    rcases hq : Nat.beq t d with _ | _
    ·rfl
    ·exact absurd (B7 hq).symm h
   simp [this, h]
theorem B259 {T : Nat -> Type} {S S' : Nat -> Bool} {t : Nat} : ∀ (l : List Oper) (recs : List (DRec T)) (k : Nat) (e e' : List (Nat × PV T)), look t e = look t e' -> (∀ i o, getL l i = some o -> o.dst = some t -> S (k + i) = S' (k + i)) ->
  look t (envS S k l recs e) = look t (envS S' k l recs e')
 | [], recs, k, e, e', he, h => by cases recs <;> exact he
 | o :: l, [], k, e, e', he, h => he
 | o :: l, ρ :: recs, k, e, e', he, h => by
  simp only [envS]
  refine B259 l recs (k + 1) _ _ ?_ fun i o' hi hd => by have := h (i + 1) o' hi hd; rwa [show k + (i + 1) = k + 1 + i by omega] at this
  by_cases hd : o.dst = some t
  ·have h0 : S k = S' k := by simpa using h 0 o rfl hd
   rw [h0]
   split
   ·rw [B240, B240, A3 hd, A3 hd]
   ·exact he
  ·have h1 : ∀ e : List (Nat × PV T), look t (putE o.dst ρ.val e) = look t e := fun e => by rw [B240, A7 hd]
   split <;> split <;> (try simp only [h1]) <;> exact he
theorem B623 {T : Nat -> Type} {S : Nat -> Bool} {t : Nat} : ∀ (l : List Oper) (recs : List (DRec T)) (k i : Nat) (o : Oper) (ρ : DRec T) (e : List (Nat × PV T)), getL l i = some o -> getL recs i = some ρ -> o.dst = some t -> S (k + i) = true ->
  (∀ j o', i < j -> getL l j = some o' -> o'.dst = some t -> S (k + j) = false) -> look t (envS S k l recs e) = ρ.val
 | [], recs, k, i, o, ρ, e, h, _, _, _, _ => by simp [getL] at h
 | q :: l, [], k, i, o, ρ, e, _, h, _, _, _ => by simp [getL] at h
 | q :: l, ρ0 :: recs, k, 0, o, ρ, e, h1, h2, h3, h4, h5 => by
  simp only [getL, A16] at h1 h2
  subst h1; subst h2
  simp only [envS]
  rw [A36] at h4
  rw [A3 h4]
  have : look t (envS S (k + 1) l recs (putE q.dst ρ0.val e)) = look t (envS (fun _ => false) (k + 1) l recs (putE q.dst ρ0.val e)) :=
   B259 l recs (k + 1) _ _ rfl fun i o' hi hd => by have := h5 (i + 1) o' (by omega) hi hd; rwa [show k + (i + 1) = k + 1 + i by omega] at this
  rw [this]
  have none : ∀ (l : List Oper) (recs : List (DRec T)) (k : Nat) (e : List (Nat × PV T)), envS (fun _ => false) k l recs e = e := by
   intro l
   induction l with
   | nil => intro recs k e; cases recs <;> rfl
   | cons o l ih =>
    intro recs k e
    cases recs with
    | nil => rfl
    | cons ρ recs => simp only [envS, A5, A4]; exact ih recs (k + 1) e
  rw [none, B240, A3 h3]
 | q :: l, ρ0 :: recs, k, i + 1, o, ρ, e, h1, h2, h3, h4, h5 => by
  simp only [getL] at h1 h2
  simp only [envS]
  refine B623 l recs (k + 1) i o ρ _ h1 h2 h3 (by rwa [show k + (i + 1) = k + 1 + i by omega] at h4) fun j o' hj ho hd => ?_
  have := h5 (j + 1) o' (by omega) ho hd
  rwa [show k + (j + 1) = k + 1 + j by omega] at this
theorem B255 {T : Nat -> Type} {S S' : Nat -> Bool} {id : Nat} : ∀ (recs : List (DRec T)) (k : Nat) (f f' : Nat -> Option (Blk T)), f id = f' id -> (∀ i ρ, getL recs i = some ρ -> B29 ρ.kind id = true -> S (k + i) = S' (k + i)) -> blkS S k recs f id = blkS S' k recs f' id
 | [], k, f, f', h, _ => h
 | ρ :: recs, k, f, f', h, hh => by
  simp only [blkS]
  refine B255 recs (k + 1) _ _ ?_ fun i ρ' hi hw => by have := hh (i + 1) ρ' hi hw; rwa [show k + (i + 1) = k + 1 + i by omega] at this
  cases hw : B29 ρ.kind id with
  | true =>
   have h0 := hh 0 ρ rfl hw
   rw [A36] at h0
   rw [h0]
   split
   ·simp only [overF, hw, A6]
   ·exact h
  | false =>
   have o1 : ∀ f : Nat -> Option (Blk T), overF ρ f id = f id := fun f => by simp only [overF, hw, A5, A4]
   have o2 : ∀ (c : Prop) [Decidable c] (f : Nat -> Option (Blk T)), (if c then overF ρ f else f) id = f id := fun c _ f => by
    split
    ·exact o1 f
    ·rfl
   rw [o2, o2]; exact h
theorem B296 {T : Nat -> Type} {S : Nat -> Bool} : ∀ (recs : List (DRec T)) (k : Nat) (f : Nat -> Option (Blk T)), (∀ i, S (k + i) = false) -> blkS S k recs f = f
 | [], k, f, _ => rfl
 | ρ :: recs, k, f, h => by
  simp only [blkS]
  have h0 := h 0
  rw [A36] at h0
  rw [h0]
  simp only [A5, A4]
  exact B296 recs (k + 1) f fun i => by have := h (i + 1); rwa [show k + (i + 1) = k + 1 + i by omega] at this
theorem B609 {T : Nat -> Type} {S S' : Nat -> Bool} {L : Nat} : ∀ (recs : List (DRec T)) (k : Nat) (f f' : Nat -> Option (Blk T)), (∀ id, (f id).isSome = (f' id).isSome) -> (∀ id, id < L -> (f id).isSome = true) ->
  (∀ i ρ, getL recs i = some ρ -> L <= ρ.heap.length) -> (∀ i ρ s, getL recs i = some ρ -> ρ.kind = .slot s -> s < L) -> (∀ i ρ, getL recs i = some ρ -> isEff ρ.kind = true -> (∃ s, ρ.kind = .slot s) ∨ S (k + i) = S' (k + i)) ->
  ∀ id, (blkS S k recs f id).isSome = (blkS S' k recs f' id).isSome
 | [], k, f, f', h, _, _, _, _ => h
 | ρ :: recs, k, f, f', h, hL, h1, h2, h3 => by
  simp only [blkS]
  have big : ∀ id, id < L -> (getL ρ.heap id).isSome = true := fun id hid => by
   obtain ⟨b, hb⟩ := B26 (l := ρ.heap) (i := id) (A75 hid (h1 0 ρ rfl))
   rw [hb]; rfl
  have sh : ∀ i, k + (i + 1) = k + 1 + i := fun i => by omega
  refine B609 (L := L) recs (k + 1) _ _ (fun id => ?_) (fun id hid => ?_) (fun i ρ' hi => h1 (i + 1) ρ' hi) (fun i ρ' s hi hs => h2 (i + 1) ρ' s hi hs) (fun i ρ' hi he => by have := h3 (i + 1) ρ' hi he; rwa [sh] at this)
  ·cases he : isEff ρ.kind with
   | false =>
    have o1 : ∀ f : Nat -> Option (Blk T), overF ρ f id = f id := fun f => by
     have : B29 ρ.kind id = false := by cases hk : ρ.kind <;> rw [hk] at he <;> simp [isEff] at he <;> rfl
     simp only [overF, this, A5, A4]
    have o2 : ∀ (c : Prop) [Decidable c] (f : Nat -> Option (Blk T)), (if c then overF ρ f else f) id = f id := fun c _ f => by
     split
     ·exact o1 f
     ·rfl
    rw [o2, o2]; exact h id
   | true =>
    rcases h3 0 ρ rfl he with ⟨s, hs⟩ | h0
    ·have hsL := h2 0 ρ s rfl hs
     have o1 : ∀ f : Nat -> Option (Blk T), (∀ id, id < L -> (f id).isSome = true) -> (overF ρ f id).isSome = (f id).isSome := fun f hf => by
      simp only [overF, hs, B29, A20]
      split
      ·rename_i e
       subst e
       rw [big id hsL, hf id hsL]
      ·rfl
     have hL' : ∀ id, id < L -> (f' id).isSome = true := fun id hid => by rw [← h id]; exact hL id hid
     have o2 : ∀ (c : Prop) [Decidable c] (f : Nat -> Option (Blk T)), (∀ id, id < L -> (f id).isSome = true) -> ((if c then overF ρ f else f) id).isSome = (f id).isSome := fun c _ f hf => by
      split
      ·exact o1 f hf
      ·rfl
     rw [o2 _ f hL, o2 _ f' hL']; exact h id
    ·rw [A36] at h0
     rw [h0]
     split
     ·simp only [overF]
      split
      ·rfl
      ·exact h id
     ·exact h id
  ·split
   ·simp only [overF]
    split
    ·exact big id hid
    ·exact hL id hid
   ·exact hL id hid
theorem Lex.len {rec : Rec G} {ann : Ann} {base m : Nat} {ops : List Oper} : ∀ {l : List Oper} {σ : St G.E.T} {recs : List (DRec G.E.T)} {σ' : St G.E.T}, Lex G rec ann base m N ops l σ recs σ' -> recs.length = l.length
 | [], σ, [], σ', h => rfl
 | o :: l, σ, ρ :: recs, σ', h => by simp [Lex.len h.2.2.2.2.2]
 | [], σ, _ :: _, σ', h => h.elim
 | _ :: _, σ, [], σ', h => h.elim
theorem Lex.stay {rec : Rec G} {ann : Ann} {base m : Nat} {ops : List Oper} {o : Oper} {l : List Oper} {σ : St G.E.T} {ρ : DRec G.E.T} {recs : List (DRec G.E.T)} {σ' : St G.E.T} (h : Lex G rec ann base m N ops (o :: l) σ (ρ :: recs) σ') {id : Nat} (hw : B29 ρ.kind id = false) : getL ρ.heap id = getL σ.heap id := by
 obtain ⟨_, h1, h2, h3, h4, h5⟩ := h
 cases hr : ρ.run with
 | false => rw [(h4 hr).2.1]
 | true =>
  obtain ⟨g1, g2⟩ := h3 hr
  obtain ⟨env, H⟩ := σ
  cases hk : ρ.kind with
  | pure F => rw [hk] at g1; rw [(B759 (rec := rec) g1 ρ.val ρ.heap g2).1]
  | eff T n =>
   rw [hk] at g1 hw
   obtain ⟨rfl, q⟩ := B1057 g1 g2
   simp only [B29, A62, not_or] at hw
   exact q id (by simp only at hw ⊢; omega) hw.1
  | effp F T n =>
   rw [hk] at g1 hw
   obtain ⟨rfl, q, _⟩ := B758 g1 g2
   simp only [B29, A62, not_or] at hw
   exact q id (by omega) hw.1
  | slot s =>
   rw [hk] at g1 hw
   obtain ⟨_, b, q, _⟩ := B760 g1 g2
   simp only [B29, A62] at hw
   rw [q, B10 hw]
theorem Lex.over {rec : Rec G} {ann : Ann} {base m : Nat} {ops : List Oper} {o : Oper} {l : List Oper} {σ : St G.E.T} {ρ : DRec G.E.T} {recs : List (DRec G.E.T)} {σ' : St G.E.T} (h : Lex G rec ann base m N ops (o :: l) σ (ρ :: recs) σ') : overF ρ (getL σ.heap) = getL ρ.heap := by
 funext id
 cases hw : B29 ρ.kind id with
 | true => simp only [overF, hw, A6]
 | false => simp only [overF, hw, A5, A4]; exact (h.stay hw).symm
theorem B624 {T : Nat -> Type} : ∀ (l : List Oper) (recs : List (DRec T)) (m k : Nat) (e : List (Nat × PV T)), m <= k -> envS (fun j => decide (j < m)) k l recs e = e
 | [], recs, m, k, e, _ => by cases recs <;> rfl
 | o :: l, [], m, k, e, _ => rfl
 | o :: l, ρ :: recs, m, k, e, hm => by
  simp only [envS]
  rw [A7 (by simp; omega)]
  exact B624 l recs m (k + 1) e (by omega)
theorem Lex.at_ {rec : Rec G} {ann : Ann} {base m : Nat} {ops : List Oper} : ∀ {l : List Oper} {σ : St G.E.T} {recs : List (DRec G.E.T)} {σ' : St G.E.T} (k : Nat), Lex G rec ann base m N ops l σ recs σ' -> ∀ i o, getL l i = some o -> ∃ ρ σi, getL recs i = some ρ ∧
  σi.env = envS (fun j => decide (j < k + i)) k l recs σ.env ∧ getL σi.heap = blkS (fun j => decide (j < k + i)) k recs (getL σ.heap) ∧ B92 ops σi.env o = some ρ.run ∧ (∀ d, o.dst = some d -> d < N) ∧
  (ρ.run = true -> B38 G ann (plOf ann base m o) o σi = some ρ.kind ∧ vop G rec ann (plOf ann base m o) o σi PK = some (ρ.val, ρ.heap)) ∧ (ρ.run = false -> ρ.val = .tup [] ∧ ρ.heap = σi.heap ∧ ρ.kind = .pure []) ∧
  getL ρ.heap = blkS (fun j => decide (j < k + i + 1)) k recs (getL σ.heap) ∧ base + m <= ρ.heap.length
 | [], σ, recs, σ', k, h, i, o, hi => by simp [getL] at hi
 | q :: l, σ, [], σ', k, h, i, o, hi => h.elim
 | q :: l, σ, ρ0 :: recs, σ', k, h, i, o, hi => by
  cases i with
  | zero =>
   simp only [getL, A16] at hi
   subst hi
   obtain ⟨h0, h1, h2, h3, h4, h5⟩ := id h
   refine ⟨ρ0, σ, rfl, (B624 _ _ _ _ _ (by omega)).symm, (B296 _ _ _ fun i => by simp).symm, h1, h2, h3, h4, ?_, h5.big⟩
   simp only [blkS, A36]
   rw [A3 (by simp), h.over, B296 _ _ _ fun i => by simp]
  | succ i =>
   simp only [getL] at hi
   obtain ⟨ρ, σi, g1, g2, g3, g4, g5, g6, g7, g8, g9⟩ := Lex.at_ (k + 1) h.2.2.2.2.2 i o hi
   have e1 : k + (i + 1) = k + 1 + i := by omega
   refine ⟨ρ, σi, g1, ?_, ?_, g4, g5, g6, g7, ?_, g9⟩
   ·simp only [envS]
    rw [A3 (by simp), e1]; exact g2
   ·simp only [blkS]
    rw [g3, e1, A3 (by simp; omega), h.over]
   ·simp only [blkS]
    rw [g8, e1, A3 (by simp; omega), h.over]
theorem Lex.end_ {rec : Rec G} {ann : Ann} {base m : Nat} {ops : List Oper} : ∀ {l : List Oper} {σ : St G.E.T} {recs : List (DRec G.E.T)} {σ' : St G.E.T} (k : Nat) {S : Nat -> Bool}, Lex G rec ann base m N ops l σ recs σ' -> (∀ i, i < l.length -> S (k + i) = true) ->
  σ'.env = envS S k l recs σ.env ∧ getL σ'.heap = blkS S k recs (getL σ.heap)
 | [], σ, [], σ', k, S, h, hS => by
  have : σ' = σ := h.1
  subst this; exact ⟨rfl, rfl⟩
 | q :: l, σ, ρ :: recs, σ', k, S, h, hS => by
  obtain ⟨g1, g2⟩ := Lex.end_ (k + 1) (S := S) h.2.2.2.2.2 fun i hi => by have := hS (i + 1) (by simpa using hi); rwa [show k + (i + 1) = k + 1 + i by omega] at this
  have h0 : S k = true := by simpa using hS 0 (by simp)
  simp only [envS, blkS, h0, A6]
  exact ⟨g1, by rw [g2, h.over]⟩
 | [], σ, _ :: _, σ', k, S, h, hS => h.elim
 | _ :: _, σ, [], σ', k, S, h, hS => h.elim
theorem Lex.slots {rec : Rec G} {ann : Ann} {base m : Nat} {ops : List Oper} : ∀ {l : List Oper} {σ : St G.E.T} {recs : List (DRec G.E.T)} {σ' : St G.E.T}, Lex G rec ann base m N ops l σ recs σ' -> ∀ i ρ s, getL recs i = some ρ -> ρ.kind = .slot s -> s < base + m
 | [], σ, [], σ', h, i, ρ, s, hi, _ => by simp [getL] at hi
 | o :: l, σ, ρ0 :: recs, σ', h, 0, ρ, s, hi, hs => by
  simp only [getL, A16] at hi
  subst hi
  obtain ⟨_, h1, h2, h3, h4, h5⟩ := h
  cases hr : ρ0.run with
  | false => rw [(h4 hr).2.2] at hs; cases hs
  | true =>
   have g := (h3 hr).1
   rw [hs] at g
   have hp : plOf ann base m o = some s := by
    obtain ⟨dst, op, type, pos, after, guard⟩ := o
    cases hpl : plOf ann base m ⟨dst, op, type, pos, after, guard⟩ with
    | none => rw [hpl] at g; exact (B671 g).elim
    | some s' => rw [hpl] at g; rw [B783 g]
   unfold plOf at hp
   split at hp
   ·split at hp
    ·split at hp
     ·rename_i hq
      have := B94.1 hq
      cases hp; omega
     ·cases hp
    ·cases hp
   ·cases hp
 | o :: l, σ, ρ0 :: recs, σ', h, i + 1, ρ, s, hi, hs => Lex.slots h.2.2.2.2.2 i ρ s hi hs
 | [], σ, _ :: _, σ', h, _, _, _, _, _ => h.elim
 | _ :: _, σ, [], σ', h, _, _, _, _, _ => h.elim
theorem B548 {T : Nat -> Type} : ∀ (recs : List (DRec T)) (i : Nat) (tr : List (Nat × Kind)), (B83 i recs tr).length = recs.length + tr.length
 | [], i, tr => by simp [B83]
 | ρ :: recs, i, tr => by simp only [B83]; rw [B548 recs]; simp; omega
theorem B421 {T : Nat -> Type} : ∀ (recs : List (DRec T)) (i : Nat) (tr : List (Nat × Kind)) (a : Nat), getL (B83 i recs tr) (recs.length + a) = getL tr a
 | [], i, tr, a => by simp [B83]
 | ρ :: recs, i, tr, a => by
  simp only [B83, A21]
  rw [show recs.length + 1 + a = recs.length + (a + 1) by omega, B421 recs]; rfl
theorem B314 {T : Nat -> Type} : ∀ (recs : List (DRec T)) (i : Nat) (tr : List (Nat × Kind)) (a : Nat) (ρ : DRec T), getL recs a = some ρ -> getL (B83 i recs tr) (recs.length - 1 - a) = some (i + a, ρ.kind)
 | [], i, tr, a, ρ, h => by simp [getL] at h
 | ρ0 :: recs, i, tr, 0, ρ, h => by
  simp only [getL, A16] at h
  subst h
  simp only [B83, A21]
  rw [show recs.length + 1 - 1 - 0 = recs.length + 0 by omega, B421]; rfl
 | ρ0 :: recs, i, tr, a + 1, ρ, h => by
  simp only [getL] at h
  have hlt := B17 h
  have := B314 recs (i + 1) ((i, ρ0.kind) :: tr) a ρ h
  simp only [B83, A21]
  rw [show recs.length + 1 - 1 - (a + 1) = recs.length - 1 - a by omega, this]
  congr 2
  omega
end
section
variable {G : Prg} {R : Type} {r : R} {X : Ctx} {N : Nat} {ro : Option Nat}
theorem B126 {md : Region.Mode} {ops : Array Oper} {listed : Array Bool} {i : Nat} : i ∈ Region.ready md ops listed ↔ i < ops.size ∧ listed.getD i true = false ∧ ∃ o, getL ops.toList i = some o ∧ ∀ e, e ∈ o.after.toList -> Region.binds md e = true -> listed.getD e.on false = true := by
 unfold Region.ready
 rw [A91, A87]
 constructor
 ·rintro ⟨h1, h2⟩
  rw [A25] at h2
  obtain ⟨h2, h3⟩ := h2
  refine ⟨h1, by simpa using h2, ops[i], by rw [B24]; simp [h1], fun e he hb => ?_⟩
  simp only [A74 h1, A37, A128] at h3
  rw [← Array.all_toList, A106] at h3
  have := h3 e he
  simpa [hb] using this
 ·rintro ⟨h1, h2, o, h3, h4⟩
  refine ⟨h1, ?_⟩
  rw [B24] at h3
  have h3' : ops[i]? = some o := by simpa using h3
  rw [h3']
  simp only [h2, A37, A128, A46, A49]
  rw [← Array.all_toList, A106]
  intro e he
  cases hb : Region.binds md e with
  | false => simp
  | true => simp [h4 e he hb]
theorem B273 {md : Region.Mode} {m : Nat} : ∀ {l : List Edge}, B337 md m l = true -> ∀ e ∈ l, Region.binds md e = true -> Nat.testBit m e.on = true
 | [], _, e, h, _ => by simp at h
 | x :: l, h, e, he, hb => by
  simp only [B337] at h
  split at h
  ·split at h
   ·rename_i h1
    rcases A19.1 he with rfl | he
    ·exact h1
    ·exact B273 h e he hb
   ·cases h
  ·rename_i h1
   rcases A19.1 he with rfl | he
   ·rw [hb] at h1; cases h1
   ·exact B273 h e he hb
theorem B252 {md : Region.Mode} {ops : Array Oper} {listed : Array Bool} (hsz : listed.size = ops.size) (hr : Region.ready md ops listed = []) : ∀ (l : List Oper) (i m : Nat), (∀ j o, getL l j = some o -> getL ops.toList (i + j) = some o) ->
  (∀ j, Nat.testBit m j = true -> listed.getD j false = true) -> ∀ j, Nat.testBit (B288 md l i m) j = true -> listed.getD j false = true
 | [], i, m, _, hm, j, h => hm j h
 | o :: l, i, m, hl, hm, j, h => by
  have hl' : ∀ j o', getL l j = some o' -> getL ops.toList (i + 1 + j) = some o' := fun j o' hj => by have := hl (j + 1) o' hj; rwa [show i + (j + 1) = i + 1 + j by omega] at this
  simp only [B288] at h
  split at h
  ·rename_i he
   refine B252 hsz hr l (i + 1) _ hl' (fun j hj => ?_) j h
   rw [Nat.testBit_or, Nat.testBit_two_pow, Bool.or_eq_true] at hj
   rcases hj with hj | hj
   ·exact hm j hj
   ·have : i = j := by simpa using hj
    subst this
    have ho : getL ops.toList i = some o := by simpa using hl 0 o rfl
    have hi : i < ops.size := by simpa using B17 ho
    cases hli : listed.getD i false with
    | true => rfl
    | false =>
     exfalso
     have : i ∈ Region.ready md ops listed := B126.2 ⟨hi, by
      rw [A47] at hli ⊢
      rw [A74 (by omega)] at hli ⊢
      exact hli, o, ho, fun e he' hb => hm _ (B273 he e he' hb)⟩
     rw [hr] at this
     simp at this
  ·exact B252 hsz hr l (i + 1) _ hl' hm j h
theorem B268 : ∀ {n m : Nat}, B327 n m = true -> ∀ i, i < n -> Nat.testBit m i = true
 | 0, _, _, i, h => by omega
 | n + 1, m, h, i, hi => by
  simp only [B327] at h
  split at h
  ·rename_i h1
   by_cases e : i = n
   ·subst e; exact h1
   ·exact B268 h i (by omega)
  ·cases h
theorem B438 {md : Region.Mode} {ops : Array Oper} {listed : Array Bool} (hsz : listed.size = ops.size) (hr : Region.ready md ops listed = []) : ∀ {f m : Nat}, B384 md ops.toList f m = true ->
  (∀ j, Nat.testBit m j = true -> listed.getD j false = true) -> ∀ i, i < ops.size -> listed.getD i false = true
 | 0, m, h, hm, i, hi => hm i (B268 h i (by simpa using hi))
 | f + 1, m, h, hm, i, hi => by
  simp only [B384] at h
  split at h
  ·rename_i h1
   exact hm i (B268 h1 i (by simpa using hi))
  ·exact B438 hsz hr h (B252 hsz hr _ _ _ (fun j o hj => by simpa using hj) hm) i hi
theorem B299 {α : Type} {p q : α -> Bool} : ∀ {l : List α}, (∀ x, q x = true -> p x = true) -> (∃ x ∈ l, p x = true ∧ q x = false) -> (l.filter q).length < (l.filter p).length
 | [], _, ⟨x, hx, _⟩ => by simp at hx
 | a :: l, h, ⟨x, hx, h1, h2⟩ => by
  have le : ∀ l : List α, (l.filter q).length <= (l.filter p).length := by
   intro l
   induction l with
   | nil => simp
   | cons b l ih =>
    rw [A130, A130]
    cases hq : q b with
    | true => simp [h b hq, ih]
    | false =>
     cases p b <;> simp <;> omega
  rw [A130, A130]
  rcases A19.1 hx with rfl | hx
  ·rw [h1, h2]
   simp only [A5, A4, A6, A21]
   have := le l
   omega
  ·have := B299 (l := l) h ⟨x, hx, h1, h2⟩
   cases hq : q a with
   | true => simp [h a hq, this]
   | false => cases p a <;> simp <;> omega
theorem HRep.drawn {E : Env} {w : World} {Fz : Nat -> Prop} {ι : Nat -> Loc} {H : List (Blk E.T)} (h : HRep E w Fz ι H) : HRep E { w with drawn := w.drawn + 1 } Fz ι H := by
 have K : Keep E w { w with drawn := w.drawn + 1 } Fz Fz ι ι H H := ⟨fun _ h => h, fun _ _ => rfl, .refl ι H⟩
 exact ⟨fun id b hb => BRep.keep K (h.rep id b hb) rfl fun _ _ => rfl, h.apart, h.free, h.held, h.fz⟩
theorem Step.drawn {w : World} {Fz : Nat -> Prop} {ι : Nat -> Loc} {H : List (Blk G.E.T)} (h : HRep G.E w Fz ι H) (f : Fram G.E X w Fz ι H) : Step G.E X w { w with drawn := w.drawn + 1 } Fz Fz ι ι H H :=
 ⟨⟨fun _ h => h, fun _ _ => rfl, .refl ι H⟩, fun _ _ hb _ => ⟨hb, rfl, fun _ _ => rfl⟩, h.drawn, ⟨f.os, f.tape, f.output, f.size, f.block, f.own, f.fz⟩, fun _ h => ⟨rfl, h⟩⟩
theorem B763 {w : World} {Fz : Nat -> Prop} {ι : Nat -> Loc} {H : List (Blk G.E.T)} {ops : Array Oper} {env : List (Nat × PV G.E.T)} {o : Oper} {b : Bool} (h : B92 ops.toList env o = some b) {a : Act} (hE : B23 G.E w Fz ι H env a) :
  Region.wanted o (yielded ops a.tmps) = b := by
 unfold B92 at h
 unfold Region.wanted
 split at h
 ·rename_i e; rw [e]; cases h; rfl
 ·rename_i j want e
  rw [e]
  simp only
  split at h
  ·cases h
  ·rename_i g hg
   have hy := B583 (tmps := a.tmps) hg
   have hgr := hE g
   split at h
   ·rename_i c hc
    cases h
    rw [hc] at hgr
    simp only [PRep] at hgr
    generalize hgv : a.tmps.getD g undef = gv at hgr hy
    cases hgr
    simp only at hy
    rw [hy]
    cases c <;> cases want <;> rfl
   ·rename_i l hl
    rw [hl] at hgr
    simp only [PRep] at hgr
    obtain ⟨cs, hcs, _⟩ := hgr
    rw [hcs] at hy
    simp only at hy
    rw [hy]
    split at h
    ·cases h; rfl
    ·cases h
   ·cases h
theorem B261 : ∀ {l : List Operand} {t : Nat}, Operand.tmp t ∈ l -> t ∈ B242 l
 | [], t, h => by simp at h
 | x :: l, t, h => by
  rcases A19.1 h with rfl | h
  ·simp [B242]
  ·have := B261 h
   cases x <;> simp [B242, this]
theorem B667 {T : Nat -> Type} {ops : List Oper} {o : Oper} {e e' : List (Nat × PV T)} (h : ∀ t, t ∈ B103 ops o -> look t e = look t e') : ∀ x, x ∈ B65 o.op -> eval e x = eval e' x := by
 intro x hx
 cases x with
 | tmp t =>
  refine h t ?_
  unfold B103
  split
  ·exact B261 hx
  ·split
   ·exact A29 _ (B261 hx)
   ·exact B261 hx
 | const v => rfl
 | global g => rfl
 | func f => rfl
theorem B592 {T : Nat -> Type} {ops : List Oper} {o : Oper} {e e' : List (Nat × PV T)} (h : ∀ t, t ∈ B103 ops o -> look t e = look t e') : B92 ops e o = B92 ops e' o := by
 unfold B92
 split
 ·rfl
 ·rename_i j want hg
  split
  ·rfl
  ·rename_i g hg'
   rw [h g (by unfold B103; rw [hg]; simp only; rw [hg']; simp)]
theorem B315 : ∀ {l : List Oper} {i : Nat} {o : Oper} {t : Nat}, getL l i = some o -> t ∈ dsOf o.dst -> t ∈ B12 l
 | [], i, o, t, h, _ => by simp [getL] at h
 | q :: l, 0, o, t, h, ht => by
  simp only [getL, A16] at h
  subst h
  simp only [B12]
  cases hd : q.dst with
  | none => rw [hd] at ht; simp [dsOf] at ht
  | some d => rw [hd] at ht; simp only [dsOf, A61] at ht; subst ht; exact A23 ..
 | q :: l, i + 1, o, t, h, ht => by
  simp only [getL] at h
  have := B315 h ht
  simp only [B12]
  cases q.dst with
  | none => exact this
  | some d => exact A29 _ this
theorem B974 {κ : Kind} {F : List Nat} (h : B16 κ (.pure F) = true ∨ B16 (.pure F) κ = true) {id : Nat} (hid : id ∈ F) : B29 κ id = false := by
 cases κ with
 | pure F' => rfl
 | eff T n =>
  have := B179 (h.elim (fun e => e) fun e => e) id hid
  simp only [B29, A62, not_or]
  exact ⟨this.2, by omega⟩
 | effp F' T n =>
  have := B179 (h.elim (fun e => e) fun e => e) id hid
  simp only [B29, A62, not_or]
  exact ⟨this.2, by omega⟩
 | slot s =>
  have : memN s F = false := by
   cases hm : memN s F with
   | false => rfl
   | true => rcases h with h | h <;> simp [B16, hm] at h
  simp only [B29, A62]
  rintro rfl
  rw [B72.2 hid] at this; cases this
theorem B1023 {κ : Kind} {T : List Nat} {n : Nat} (h : B16 κ (.eff T n) = true ∨ B16 (.eff T n) κ = true) {id : Nat} : B29 κ id = false := by
 cases κ with
 | pure F' => rfl
 | _ => rcases h with h | h <;> simp [B16] at h
theorem B973 {κ : Kind} {F T : List Nat} {n : Nat} (h : B16 κ (.effp F T n) = true ∨ B16 (.effp F T n) κ = true) :
  (∀ id, id ∈ F ∨ id ∈ T ∨ n <= id -> B29 κ id = false) ∧ (isEff κ = true -> ∃ s, κ = .slot s) := by
 cases κ with
 | pure F' => exact ⟨fun _ _ => rfl, fun e => by cases e⟩
 | slot s =>
  refine ⟨fun id hid => ?_, fun _ => ⟨s, rfl⟩⟩
  have : memN s F = false ∧ B148 T n [s] = true := by
   rcases h with h | h <;> simp only [B16] at h <;> split at h <;> first | exact ⟨‹_›, ‹_›⟩ | cases h
  obtain ⟨h1, h2⟩ := this
  have h3 := B179 h2 s (by simp)
  simp only [B29, A62]
  rintro rfl
  rcases hid with q | q | q
  ·rw [B72.2 q] at h1; cases h1
  ·exact h3.2 q
  ·omega
 | _ => rcases h with h | h <;> simp [B16] at h
theorem B975 {κ : Kind} {s : Nat} (h : B16 κ (.slot s) = true ∨ B16 (.slot s) κ = true) : B29 κ s = false := by
 cases κ with
 | pure F' => rfl
 | slot s' =>
  simp only [B29, A62]
  rintro rfl
  rcases h with h | h <;> simp [B16] at h
 | effp F T n =>
  have : B148 T n [s] = true := by
   rcases h with h | h <;> simp only [B16] at h <;> split at h <;> first | (rename_i _ _ e1 e2; exact e2) | cases h
  have h3 := B179 this s (by simp)
  simp only [B29, A62, not_or]
  exact ⟨h3.2, by omega⟩
 | eff T n => rcases h with h | h <;> simp [B16] at h
theorem B710 {α : Type} {l m : List α} (h : getL l = getL m) : l = m := by
 apply A98
 intro i
 rw [← B24, ← B24, h]
theorem B180 {α : Type} {l : List α} {i : Nat} : (getL l i).isSome = decide (i < l.length) := by
 rw [B24]
 by_cases h : i < l.length
 ·rw [A18 h]; simp [h]
 ·rw [A65 (by omega)]; simp [h]
theorem B594 {α : Type} {l m : List α} (h : ∀ i, (getL l i).isSome = (getL m i).isSome) : l.length = m.length := by
 rcases A117 l.length m.length with h1 | h1 | h1
 ·have := h l.length; rw [B180, B180] at this; simp [h1] at this
 ·exact h1
 ·have := h m.length; rw [B180, B180] at this; simp [h1] at this
theorem Step.pad {w : World} {Fz : Nat -> Prop} : ∀ (m : Nat) {ι : Nat -> Loc} {H : List (Blk G.E.T)}, HRep G.E w Fz ι H -> Fram G.E X w Fz ι H -> ∃ ι', Step G.E X w w Fz Fz ι ι' H (H ++ padB m)
 | 0, ι, H, hH, hF => ⟨ι, by simp only [padB, A38]; exact .refl hH hF⟩
 | m + 1, ι, H, hH, hF => by
  have s1 : Step G.E X w w Fz Fz ι (updι ι H.length ⟨none, 0⟩) H (H ++ [.ints .own .u8 0 []]) := by
   refine Step.new hH hF _ _ rfl rfl rfl (A11 _) (fun _ _ => rfl) (fun A' h => by cases h) rfl fun KK => ?_
   simp only [BRep]
   rw [B14]
   exact ⟨by simp [RowAt], by simp, by simp⟩
  obtain ⟨ι', s2⟩ := Step.pad m s1.heap s1.fram
  refine ⟨ι', ?_⟩
  have := s1.trans s2
  simpa only [padB, A27, List.singleton_append] using this
theorem B485 {T : Nat -> Type} : ∀ m : Nat, (padB (T := T) m).length = m
 | 0 => rfl
 | m + 1 => by simp [padB, B485 m]
theorem B581 (ok : PrgOk G) {rec : Rec G} (hrec : Spec G rec) {ann : Ann} {ops : Array Oper} {σ : St G.E.T} {k : St G.E.T -> Option R} {id : Nat} (h : B247 G rec ann id N ops.toList σ k = some r) {a : Act} {w : World} {Fz : Nat -> Prop} {ι : Nat -> Loc}
  (hAt : At G X N w Fz ι σ a) {Q : Exit -> Act -> World -> Prop} (hQ : ∀ σ' a' w' Fz' ι', k σ' = some r -> Goes G X N (B12 ops.toList) w Fz ι σ.heap a w' Fz' ι' σ' a' -> Q .normal a' w')
  {md : Region.Mode} (hmd : B210 ops.toList md = true) : wpAnyIn (fence ro) 0 G.P md ops Q ops.size (Array.replicate ops.size false) a { w with drawn := w.drawn + 1 } := by
 have hcase : ∃ anc, ancOf ops.toList [] = some anc ∧ B270 anc ops.toList 0 ops.toList [] = true ∧
    vdraw G rec ann σ.heap.length (padN ann id) N ops.toList anc 0 ops.toList [] ⟨σ.env, σ.heap ++ padB (padN ann id)⟩ k = some r := by
  unfold B247 at h
  split at h
  ·rename_i anc ea
   split at h
   ·rename_i ep
    exact ⟨anc, ea, ep, h⟩
   ·cases h
  ·cases h
 obtain ⟨anc, hanc, hap, h⟩ := hcase
 obtain ⟨recs, σ', σk, hlex, hk, hheap, halike, hfit⟩ := B444 h σ.env (.refl _)
 have hA := B879 hanc
 have hlen := hlex.len
 have apart : ∀ i j o o', i < j -> getL ops.toList i = some o -> getL ops.toList j = some o' -> ordB anc i j = true ∨ Apart (o.dst, B103 ops.toList o) (o'.dst, B103 ops.toList o') := by
  intro i j o o' hij ho ho'
  exact (B390 (done := []) hap (fun i o hi => by simp [getL] at hi) i j o o' hij (A30 _) ho ho').imp (fun x => x) B770
 have fits : ∀ i j ρ ρ', i < j -> getL recs i = some ρ -> getL recs j = some ρ' -> ordB anc i j = true ∨ B16 ρ.kind ρ'.kind = true := by
  intro i j ρ ρ' hij h1 h2
  have e1 := B314 recs 0 [] i ρ h1
  have e2 := B314 recs 0 [] j ρ' h2
  rw [A22] at e1 e2
  have := B17 h2
  exact B549 hfit _ _ i j ρ.kind ρ'.kind e2 e1 (by omega)
 -- the state B328 a set
 let SS : Array Bool -> Nat -> Bool := fun l i => l.getD i false
 let ev : (Nat -> Bool) -> List (Nat × PV G.E.T) := fun S => envS S 0 ops.toList recs σ.env
 let bl : (Nat -> Bool) -> Nat -> Option (Blk G.E.T) := fun S => blkS S 0 recs (getL (σ.heap ++ padB (padN ann id)))
 let Inv : Array Bool -> Act -> World -> Prop := fun l a' w' => l.size = ops.size ∧ B403 ops.toList (SS l) ∧ ∃ Fz' ι' HS, getL HS = bl (SS l) ∧ Goes G X N (B12 ops.toList) w Fz ι σ.heap a w' Fz' ι' ⟨ev (SS l), HS⟩ a'
 have step : ∀ (md : Region.Mode) (l : Array Bool) (a' : Act) (w' : World) (i : Nat), Inv l a' w' -> i ∈ Region.ready md ops l -> wpOpIn (fence ro) 0 G.P ops Q i (Inv (l.setIfInBounds i true)) a' w' := by
  intro md l a' w' i ⟨hsz, hcl, Fz', ι', HS, hHS, hgo⟩ hi
  obtain ⟨hi1, hi2, o, ho, hi3⟩ := B126.1 hi
  have hSi : SS l i = false := by
   show l.getD i false = false
   rw [A47] at hi2 ⊢
   rw [A74 (by omega)] at hi2 ⊢
   exact hi2
  have hpre : ∀ j, Pre ops.toList j i -> SS l j = true := by
   rintro j ⟨o', e, q1, q2, q3, rfl⟩
   rw [ho] at q1; cases q1
   refine hi3 e q2 ?_
   unfold Region.binds at q3 ⊢
   cases hgr : e.ground <;> rw [hgr] at q3 <;> simp_all
  have before : ∀ j, ordB anc j i = true -> SS l j = true := hA.ready hcl i hpre
  have after : ∀ j, ordB anc i j = true -> SS l j = false := by
   intro j hj
   cases hq : SS l j with
   | false => rfl
   | true => have := hA.inS hcl hq hj; rw [hSi] at this; cases this
  have hS' : ∀ j, SS (l.setIfInBounds i true) j = if j = i then true else SS l j := by
   intro j
   show (l.setIfInBounds i true).getD j false = _
   rw [A47, A83]
   by_cases e : i = j
   ·subst e; simp [show i < l.size by omega]
   ·rw [A7 e, A7 (Ne.symm e)]
    show _ = l.getD j false
    rw [A47]
  obtain ⟨ρ, σi, hρ, hei, hhi, hgi, hN, hrun, hskip, hnext, hbig⟩ := hlex.at_ 0 i o ho
  simp only [A22] at hei hhi hnext
  -- what it looks at
  have hlooks : ∀ t, t ∈ B103 ops.toList o -> look t (ev (SS l)) = look t σi.env := by
   intro t ht
   rw [hei]
   refine B259 _ _ _ _ _ rfl fun j o' hj hd => ?_
   simp only [A22]
   rcases A117 j i with hlt | heq | hgt
   ·rcases apart j i o' o hlt hj ho with q | q
    ·rw [before j q]; simp [hlt]
    ·exact absurd ht (q.l t hd)
   ·subst heq; rw [hSi]; simp
   ·rcases apart i j o o' hgt ho hj with q | q
    ·rw [after j q]; simp; omega
    ·exact absurd ht (q.r t hd)
  have hev := B667 hlooks
  have hgd : B92 ops.toList (ev (SS l)) o = some ρ.run := by rw [B592 hlooks]; exact hgi
  -- two operations: ordered, or they leave each other alone
  have pair : ∀ j ρ', j ≠ i -> getL recs j = some ρ' -> SS l j = decide (j < i) ∨ (B16 ρ'.kind ρ.kind = true ∨ B16 ρ.kind ρ'.kind = true) := by
   intro j ρ' hne hj
   rcases A117 j i with hlt | heq | hgt
   ·rcases fits j i ρ' ρ hlt hj hρ with q | q
    ·exact .inl (by rw [before j q]; simp [hlt])
    ·exact .inr (.inl q)
   ·exact absurd heq hne
   ·rcases fits i j ρ ρ' hgt hρ hj with q | q
    ·exact .inl (by rw [after j q]; simp; omega)
    ·exact .inr (.inr q)
  -- what no unordered operation writes is as in the order written
  have sameAt : ∀ b : Nat, (∀ j ρ', j ≠ i -> getL recs j = some ρ' -> (B16 ρ'.kind ρ.kind = true ∨ B16 ρ.kind ρ'.kind = true) -> B29 ρ'.kind b = false) -> getL HS b = getL σi.heap b := by
   intro b hb
   rw [hHS, hhi]
   refine B255 _ _ _ _ rfl fun j ρ' hj hw => ?_
   rw [A22]
   by_cases hne : j = i
   ·subst hne; rw [hSi]; simp
   ·rcases pair j ρ' hne hj with q | q
    ·exact q
    ·rw [hb j ρ' hne hj q] at hw; cases hw
  have keepAt : ∀ b : Nat, B29 ρ.kind b = false -> bl (SS (l.setIfInBounds i true)) b = getL HS b := by
   intro b hb
   rw [hHS]
   refine B255 _ _ _ _ rfl fun j ρ' hj hw => ?_
   rw [A22, hS', A7]
   rintro rfl
   rw [hρ] at hj; cases hj
   rw [hb] at hw; cases hw
  have newAt : ∀ b : Nat, (∀ j ρ', j ≠ i -> getL recs j = some ρ' -> (B16 ρ'.kind ρ.kind = true ∨ B16 ρ.kind ρ'.kind = true) -> B29 ρ'.kind b = false) -> bl (SS (l.setIfInBounds i true)) b = getL ρ.heap b := by
   intro b hb
   rw [hnext]
   refine B255 _ _ _ _ rfl fun j ρ' hj hw => ?_
   rw [A22, hS']
   by_cases hne : j = i
   ·subst hne; simp
   ·rw [A7 hne]
    rcases pair j ρ' hne hj with q | q
    ·rw [q]; simp; omega
    ·rw [hb j ρ' hne hj q] at hw; cases hw
  -- the new environment
  have henv : Alike (putE o.dst ρ.val (ev (SS l))) (ev (SS (l.setIfInBounds i true))) := by
   intro t
   rw [B240]
   by_cases hd : o.dst = some t
   ·rw [A3 hd]
    symm
    refine B623 _ _ _ i o ρ _ ho hρ hd (by rw [A22, hS', A3 rfl]) fun j o' hj ho' hd' => ?_
    rw [A22, hS', A7 (by omega)]
    rcases apart i j o o' hj ho ho' with q | q
    ·exact after j q
    ·exact absurd hd' (q.ne t hd)
   ·rw [A7 hd]
    refine B259 _ _ _ _ _ rfl fun j o' hj hd' => ?_
    rw [A22, hS', A7]
    rintro rfl
    rw [ho] at hj; cases hj
    exact hd hd'
  have hclosed : B403 ops.toList (SS (l.setIfInBounds i true)) := by
   intro p q hq hp
   rw [hS'] at hq ⊢
   by_cases e : p = i
   ·rw [A3 e]
   ·rw [A7 e]
    by_cases e' : q = i
    ·subst e'; exact hpre p hp
    ·rw [A7 e'] at hq; exact hcl p q hq hp
  have hsize : (l.setIfInBounds i true).size = ops.size := by simpa using hsz
  have hdst : ∀ t, t ∈ dsOf o.dst -> t ∈ B12 ops.toList := fun t ht => B315 ho ht
  have done : ∀ {v : Value} {w2 : World} {Fz2 : Nat -> Prop} {ι2 : Nat -> Loc} {H2 : List (Blk G.E.T)}, getL H2 = bl (SS (l.setIfInBounds i true)) -> Step G.E X w' w2 Fz' Fz2 ι' ι2 HS H2 -> PRep G.E w2 Fz2 ι2 H2 ρ.val v ->
    Inv (l.setIfInBounds i true) (a'.put o.dst v) w2 := by
   intro v w2 Fz2 ι2 H2 hH2 hs hp
   have hput : V.put N o.dst ρ.val (ev (SS l)) = some (putE o.dst ρ.val (ev (SS l))) := by
    cases hd : o.dst with
    | none => rfl
    | some d => simp only [V.put, B94.2 (hN d hd), putE]
   obtain ⟨e1, e2⟩ := B23.put (N := N) (hgo.env.mono hs.keep) hp hput hgo.size
   refine ⟨hsize, hclosed, Fz2, ι2, H2, hH2, hgo.step.trans hs, fun t => ?_, by rw [B155]; exact hgo.size, by rw [B112]; exact hgo.defers.step hs, fun t ht => ?_⟩
   ·rw [← henv t]; exact e1 t
   ·rw [e2 t fun e => ht (hdst t e)]; exact hgo.stay t ht
  have ho' : ops[i]? = some o := by rw [B24] at ho; simpa using ho
  unfold wpOpIn
  rw [ho']
  simp only
  rw [B763 hgd hgo.env]
  cases hr : ρ.run with
  | false =>
   obtain ⟨q1, q2, q3⟩ := hskip hr
   simp only [A5, A4]
   refine ⟨fun _ _ => trivial, ?_⟩
   refine done (v := undef) (Fz2 := Fz') (ι2 := ι') (H2 := HS) (funext fun b => (keepAt b (by rw [q3]; rfl)).symm) (.refl hgo.step.heap hgo.step.fram) ?_
   rw [q1]; simp only [PRep]; exact ⟨#[], rfl, by simp [PReps]⟩
  | true =>
   simp only [A6]
   obtain ⟨hkind, hvop⟩ := hrun hr
   obtain ⟨envi, Hi⟩ := σi
   have hv : ∃ H2, getL H2 = bl (SS (l.setIfInBounds i true)) ∧ vop G rec ann (plOf ann σ.heap.length (padN ann id) o) o ⟨ev (SS l), HS⟩ PK = some (ρ.val, H2) := by
    have e0 : ∀ H, vop G rec ann (plOf ann σ.heap.length (padN ann id) o) o ⟨ev (SS l), H⟩ PK = vop G rec ann (plOf ann σ.heap.length (padN ann id) o) o ⟨envi, H⟩ PK := fun H => B824 _ hev
    rw [e0]
    cases hkd : ρ.kind with
    | pure F =>
     rw [hkd] at hkind
     refine ⟨HS, funext fun b => (keepAt b (by rw [hkd]; rfl)).symm, (B759 (rec := rec) hkind ρ.val ρ.heap hvop).2 _ fun b hb => sameAt b fun j ρ' _ _ q => ?_⟩
     rw [hkd] at q
     exact B974 q hb
    | eff T n =>
     have hall : ∀ b j ρ', j ≠ i -> getL recs j = some ρ' -> (B16 ρ'.kind ρ.kind = true ∨ B16 ρ.kind ρ'.kind = true) -> B29 ρ'.kind b = false := by
      intro b j ρ' _ _ q
      rw [hkd] at q
      exact B1023 q
     have e1 : HS = Hi := B710 (funext fun b => sameAt b (hall b))
     exact ⟨ρ.heap, funext fun b => (newAt b (hall b)).symm, by rw [e1]; exact hvop⟩
    | effp F T n =>
     rw [hkd] at hkind
     have hfe : ∀ j ρ', j ≠ i -> getL recs j = some ρ' -> (B16 ρ'.kind ρ.kind = true ∨ B16 ρ.kind ρ'.kind = true) -> (∀ b, b ∈ F ∨ b ∈ T ∨ n <= b -> B29 ρ'.kind b = false) ∧ (isEff ρ'.kind = true -> ∃ s, ρ'.kind = .slot s) := by
      intro j ρ' _ _ q
      rw [hkd] at q
      exact B973 q
     have hl : HS.length = Hi.length := B594 fun b => by
      rw [hHS, hhi]
      refine B609 (L := σ.heap.length + padN ann id) recs 0 _ _ (fun _ => rfl) (fun b hb => ?_) (fun j ρ' hj => ?_) (fun j ρ' s hj hs => hlex.slots j ρ' s hj hs) (fun j ρ' hj he => ?_) b
      ·rw [B180]; simp only [A13, B485, A20]; exact hb
      ·have hjl := B17 hj
       rw [hlen] at hjl
       obtain ⟨oj, hoj⟩ := B26 hjl
       obtain ⟨ρ2, _, q1, _, _, _, _, _, _, _, q9⟩ := hlex.at_ 0 j oj hoj
       rw [hj] at q1; cases q1
       exact q9
      ·rw [A22]
       by_cases hne : j = i
       ·subst hne; rw [hSi]; simp
       ·rcases pair j ρ' hne hj with q | q
        ·exact .inr q
        ·exact .inl ((hfe j ρ' hne hj q).2 he)
     obtain ⟨rfl, _, g⟩ := B758 hkind hvop
     obtain ⟨H2, q1, q2⟩ := g HS hl (fun b hb => sameAt b fun j ρ' h1 h2 h3 => (hfe j ρ' h1 h2 h3).1 b (.inl hb)) (fun b hb => sameAt b fun j ρ' h1 h2 h3 => (hfe j ρ' h1 h2 h3).1 b (.inr (.inl hb)))
     refine ⟨H2, funext fun b => ?_, q1⟩
     rw [q2 b]
     split
     ·rename_i hb
      exact (newAt b fun j ρ' h1 h2 h3 => (hfe j ρ' h1 h2 h3).1 b (.inr hb)).symm
     ·rename_i hb
      exact (keepAt b (by rw [hkd]; simpa [B29] using hb)).symm
    | slot s =>
     rw [hkd] at hkind
     have hfs : ∀ j ρ', j ≠ i -> getL recs j = some ρ' -> (B16 ρ'.kind ρ.kind = true ∨ B16 ρ.kind ρ'.kind = true) -> B29 ρ'.kind s = false := by
      intro j ρ' _ _ q
      rw [hkd] at q
      exact B975 q
     obtain ⟨⟨b0, hb0⟩, b1, e1, g⟩ := B760 hkind hvop
     have hs := sameAt s hfs
     refine ⟨setL HS s b1, funext fun b => ?_, g HS hs⟩
     by_cases hb : b = s
     ·subst hb
      rw [newAt b hfs, e1, B13 (by rw [hs]; exact hb0), B13 hb0]
     ·rw [B10 hb]
      exact (keepAt b (by rw [hkd]; simpa [B29] using hb)).symm
   obtain ⟨H2, hH2, hv⟩ := hv
   refine B658 ok hrec hv hgo.at_ fun p H' v w2 Fz2 ι2 hK hs hp => ?_
   cases hK
   exact done hH2 hs hp
 have all : ∀ (md : Region.Mode), B210 ops.toList md = true -> ∀ (fuel : Nat) (l : Array Bool) (a' : Act) (w' : World), ((List.range ops.size).filter fun i => !l.getD i true).length <= fuel -> Inv l a' w' -> wpAnyIn (fence ro) 0 G.P md ops Q fuel l a' w' := by
  intro md htopo
  have fin : ∀ (l : Array Bool) (a' : Act) (w' : World), Inv l a' w' -> Region.ready md ops l = [] -> Q .normal a' w' := by
   intro l a' w' ⟨hsz, hcl, Fz', ι', HS, hHS, hgo⟩ hr
   have hallS := B438 hsz hr htopo (fun j hj => by simp at hj)
   obtain ⟨e1, e2⟩ := hlex.end_ 0 (S := SS l) fun i hi => by rw [A22]; exact hallS i (by simpa using hi)
   have e3 : HS = σk.heap := by rw [hheap]; exact B710 (by rw [hHS, e2])
   subst e3
   refine hQ σk a' w' Fz' ι' hk ⟨hgo.step, fun t => ?_, hgo.size, hgo.defers, hgo.stay⟩
   rw [halike t, e1]; exact hgo.env t
  intro fuel
  induction fuel with
  | zero =>
   intro l a' w' hc hI
   have hr : Region.ready md ops l = [] := by
    cases hr : Region.ready md ops l with
    | nil => rfl
    | cons i rs =>
     have hi : i ∈ Region.ready md ops l := by rw [hr]; exact A23 ..
     obtain ⟨h1, h2, _⟩ := B126.1 hi
     have : i ∈ (List.range ops.size).filter fun i => !l.getD i true := A91.2 ⟨A87.2 h1, by rw [h2]; rfl⟩
     have := List.length_pos_of_mem this
     omega
   exact ⟨hr, fin l a' w' hI hr⟩
  | succ fuel ih =>
   intro l a' w' hc hI
   refine ⟨fin l a' w' hI, fun i hi => wpOpIn_mono (fun a2 w2 h2 => ih _ a2 w2 ?_ h2) (step md l a' w' i hI hi)⟩
   obtain ⟨h1, h2, _⟩ := B126.1 hi
   have hisz : i < l.size := by rw [hI.1]; exact h1
   have := B299 (l := List.range ops.size) (p := fun i => !l.getD i true) (q := fun j => !(l.setIfInBounds i true).getD j true) (fun x hx => by
    rw [A47, A83] at hx
    rw [A47]
    by_cases e : i = x
    ·subst e; simp [hisz] at hx
    ·rw [A7 e] at hx; exact hx) ⟨i, A87.2 h1, by rw [h2]; rfl, by
    rw [A47, A83, A3 rfl, A3 hisz]; rfl⟩
   omega
 have hfalse : ∀ i, SS (Array.replicate ops.size false) i = false := by
  intro i
  show (Array.replicate ops.size false).getD i false = false
  rw [A47, Array.getElem?_replicate]
  split <;> rfl
 have h0 : Inv (Array.replicate ops.size false) a { w with drawn := w.drawn + 1 } := by
  have hs := Step.drawn hAt.heap hAt.fram
  obtain ⟨ι0, hp⟩ := Step.pad (padN ann id) hs.heap hs.fram
  refine ⟨by simp, (fun i j hj _ => by rw [hfalse] at hj; cases hj), Fz, ι0, σ.heap ++ padB (padN ann id), (B296 _ _ _ fun i => by rw [hfalse]).symm, ?_⟩
  have e1 : ev (SS (Array.replicate ops.size false)) = σ.env := by
   have ef : SS (Array.replicate ops.size false) = fun _ => false := funext hfalse
   rw [ef]
   have nE : ∀ (l : List Oper) (recs : List (DRec G.E.T)) (k : Nat) (e : List (Nat × PV G.E.T)), envS (fun _ => false) k l recs e = e := by
    intro l
    induction l with
    | nil => intro recs k e; cases recs <;> rfl
    | cons o l ih =>
     intro recs k e
     cases recs with
     | nil => rfl
     | cons ρ recs => simp only [envS, A5, A4]; exact ih recs (k + 1) e
   exact nE _ _ _ _
  rw [e1]
  have ht := hs.trans hp
  exact ⟨ht, hAt.env.mono ht.keep, hAt.size, hAt.defers.step ht, fun _ _ => rfl⟩
 exact all md hmd ops.size _ a _ (by
  have := List.length_filter_le (fun i => !(Array.replicate ops.size false).getD i true) (List.range ops.size)
  simpa using this) h0
def Topo (md : Region.Mode) (ops : Array Oper) (L : List Nat) : Prop :=
 (∀ i, i < ops.size ↔ i ∈ L) ∧ ∀ A i B, L = A ++ i :: B -> i ∉ A ∧ ∀ o, getL ops.toList i = some o -> ∀ e, e ∈ o.after.toList -> Region.binds md e = true -> e.on ∈ A
theorem B1025 {md : Region.Mode} {ops : Array Oper} (htopo : B210 ops.toList md = true) : ∀ (fuel t : Nat) (l : Array Bool) (acc : List Nat), l.size = ops.size -> (∀ j, l.getD j false = true ↔ j ∈ acc) ->
  ((List.range ops.size).filter fun i => !l.getD i true).length <= fuel -> (∀ j, j ∈ acc -> j < ops.size) ->
  (∀ A i B, acc.reverse = A ++ i :: B -> i ∉ A ∧ ∀ o, getL ops.toList i = some o -> ∀ e, e ∈ o.after.toList -> Region.binds md e = true -> e.on ∈ A) ->
  Topo md ops (Region.linearise.go md ops fuel t l acc) := by
 have done : ∀ (l : Array Bool) (acc : List Nat), l.size = ops.size -> (∀ j, l.getD j false = true ↔ j ∈ acc) -> Region.ready md ops l = [] -> (∀ j, j ∈ acc -> j < ops.size) ->
   (∀ A i B, acc.reverse = A ++ i :: B -> i ∉ A ∧ ∀ o, getL ops.toList i = some o -> ∀ e, e ∈ o.after.toList -> Region.binds md e = true -> e.on ∈ A) -> Topo md ops acc.reverse := by
  intro l acc hsz hl hr hlt hp
  have hall := B438 hsz hr htopo (m := 0) (f := ops.toList.length) (fun j hj => by simp at hj)
  exact ⟨fun i => ⟨fun hi => A118.2 ((hl i).1 (hall i hi)), fun hi => hlt i (A118.1 hi)⟩, hp⟩
 intro fuel
 induction fuel with
 | zero =>
  intro t l acc hsz hl hf hlt hp
  have hr : Region.ready md ops l = [] := by
   cases hr : Region.ready md ops l with
   | nil => rfl
   | cons i rs =>
    have hi : i ∈ Region.ready md ops l := by rw [hr]; exact A23 ..
    obtain ⟨h1, h2, _⟩ := B126.1 hi
    have : i ∈ (List.range ops.size).filter fun i => !l.getD i true := A91.2 ⟨A87.2 h1, by rw [h2]; rfl⟩
    have := List.length_pos_of_mem this
    omega
  simp only [Region.linearise.go]
  exact done l acc hsz hl hr hlt hp
 | succ fuel ih =>
  intro t l acc hsz hl hf hlt hp
  simp only [Region.linearise.go]
  change Topo md ops (match (Region.ready md ops l)[t % (Region.ready md ops l).length]? with
   | some i => Region.linearise.go md ops fuel (t / (Region.ready md ops l).length) (l.setIfInBounds i true) (i :: acc)
   | none => acc.reverse)
  cases hi : (Region.ready md ops l)[t % (Region.ready md ops l).length]? with
  | none =>
   have hnil : Region.ready md ops l = [] := by
    cases hr : Region.ready md ops l with
    | nil => rfl
    | cons x xs =>
     rw [hr] at hi
     have hlt : t % (x :: xs).length < (x :: xs).length := Nat.mod_lt _ (by simp)
     simp at hi
     simp at hlt
     omega
   exact done l acc hsz hl hnil hlt hp
  | some i =>
   simp only []
   obtain ⟨h1, h2, o, h3, h4⟩ := B126.1 (A41 hi)
   have hisz : i < l.size := by omega
   have h2' : l.getD i false = false := by
    rw [A47] at h2 ⊢
    rw [A74 hisz] at h2 ⊢
    exact h2
   have hni : i ∉ acc := fun hm => by rw [(hl i).2 hm] at h2'; cases h2'
   refine ih _ _ _ (by simpa using hsz) (fun j => ?_) ?_ (fun j hj => ?_) ?_
   ·rw [A47, A83, A19]
    by_cases e : i = j
    ·subst e; simp [hisz]
    ·rw [A7 e, ← A47, hl]
     exact ⟨.inr, fun q => q.elim (fun q => absurd q.symm e) fun q => q⟩
   ·have := B299 (l := List.range ops.size) (p := fun i => !l.getD i true) (q := fun j => !(l.setIfInBounds i true).getD j true) (fun x hx => by
     rw [A47, A83] at hx
     rw [A47]
     by_cases e : i = x
     ·subst e; simp [hisz] at hx
     ·rw [A7 e] at hx; exact hx) ⟨i, A87.2 h1, by rw [h2]; rfl, by
     rw [A47, A83, A3 rfl, A3 hisz]; rfl⟩
    omega
   ·rcases A19.1 hj with rfl | hj
    ·exact h1
    ·exact hlt j hj
   ·intro A x B hAB
    rw [List.reverse_cons] at hAB
    rcases List.append_eq_append_iff.1 hAB with ⟨C, hC1, hC2⟩ | ⟨C, hC1, hC2⟩
    ·-- the last one
     cases C with
     | nil =>
      simp only [A28, List.cons.injEq] at hC2
      obtain ⟨rfl, rfl⟩ := hC2
      rw [A38] at hC1
      subst hC1
      refine ⟨fun hm => hni (A118.1 hm), fun o' ho' e he hb => ?_⟩
      rw [h3] at ho'; cases ho'
      exact A118.2 ((hl _).1 (h4 e he hb))
     | cons c C => simp at hC2
    ·cases C with
     | nil =>
      simp only [A28, List.cons.injEq] at hC2
      obtain ⟨rfl, rfl⟩ := hC2
      rw [A38] at hC1
      subst hC1
      refine ⟨fun hm => hni (A118.1 hm), fun o' ho' e he hb => ?_⟩
      rw [h3] at ho'; cases ho'
      exact A118.2 ((hl _).1 (h4 e he hb))
     | cons c C =>
      simp only [A40, List.cons.injEq] at hC2
      obtain ⟨rfl, _⟩ := hC2
      exact hp A x C hC1
theorem B989 {md : Region.Mode} {ops : Array Oper} (htopo : B210 ops.toList md = true) (t : Nat) : Topo md ops (Region.linearise md ops t) := by
 have hfalse : ∀ i, (Array.replicate ops.size false).getD i false = false := by
  intro i
  rw [A47, Array.getElem?_replicate]
  split <;> rfl
 refine B1025 htopo ops.size t _ [] (by simp) (fun j => by rw [hfalse]; simp) ?_ (fun j hj => by simp at hj) (fun A i B h => by simp at h)
 have := List.length_filter_le (fun i => !(Array.replicate ops.size false).getD i true) (List.range ops.size)
 simpa using this
theorem B630 {md : Region.Mode} {ops : Array Oper} : ∀ (fuel t : Nat) (l : Array Bool) (acc : List Nat), (Region.linearise.go md ops fuel t l acc).length <= fuel + acc.length := by
 intro fuel
 induction fuel with
 | zero => intro t l acc; simp [Region.linearise.go]
 | succ fuel ih =>
  intro t l acc
  simp only [Region.linearise.go]
  split
  ·rename_i i _
   have := ih (t / ((List.range ops.size).filter fun i => !l.getD i true && ((ops[i]?).map (·.after.all fun e => !Region.binds md e || l.getD e.on false)).getD false).length) (l.setIfInBounds i true) (i :: acc)
   simp only [A21] at this
   omega
  ·simp
theorem Topo.any {md : Region.Mode} {ops : Array Oper} {L : List Nat} (h : Topo md ops L) : Topo .any ops L := by
 refine ⟨h.1, fun A i B hL => ⟨(h.2 A i B hL).1, fun o ho e he hb => (h.2 A i B hL).2 o ho e he ?_⟩⟩
 unfold Region.binds at hb ⊢
 cases hgr : e.ground <;> rw [hgr] at hb <;> simp_all
theorem B402 {F : Fence} {n0 : Nat} {P : Program} {md : Region.Mode} {ops : Array Oper} {Q : Exit -> Act -> World -> Prop} : ∀ (B A : List Nat) (l : Array Bool) (fuel : Nat) (a : Act) (w : World), wpAnyIn F n0 P md ops Q fuel l a w -> Topo md ops (A ++ B) ->
  l.size = ops.size -> (∀ j, l.getD j false = true ↔ j ∈ A) -> B.length <= fuel -> wpOpsIn F n0 P ops Q B a w
 | [], A, l, fuel, a, w, h, hT, hsz, hl, hf => by
  have hr : Region.ready md ops l = [] := by
   cases hr : Region.ready md ops l with
   | nil => rfl
   | cons i rs =>
    have hi : i ∈ Region.ready md ops l := by rw [hr]; exact A23 ..
    obtain ⟨h1, h2, _⟩ := B126.1 hi
    have h3 := (hl i).2 (by simpa using (hT.1 i).1 h1)
    rw [A47] at h2 h3
    rw [A74 (by omega)] at h2 h3
    simp only [A128] at h2 h3
    rw [h2] at h3; cases h3
  simp only [wpOpsIn]
  cases fuel with
  | zero => exact h.2
  | succ n => exact h.1 hr
 | i :: B, A, l, fuel, a, w, h, hT, hsz, hl, hf => by
  obtain ⟨n, rfl⟩ : ∃ n, fuel = n + 1 := ⟨fuel - 1, by simp at hf; omega⟩
  obtain ⟨h1, h2⟩ := hT.2 A i B rfl
  have hi : i < ops.size := (hT.1 i).2 (by simp)
  obtain ⟨o, ho⟩ := B26 (l := ops.toList) (i := i) (by simpa using hi)
  have hli : l.getD i false = false := by
   cases e : l.getD i false with
   | false => rfl
   | true => exact absurd ((hl i).1 e) h1
  have hr : i ∈ Region.ready md ops l := B126.2 ⟨hi, by
   rw [A47] at hli ⊢
   rw [A74 (by omega)] at hli ⊢
   exact hli, o, ho, fun e he hb => (hl _).2 (h2 o ho e he hb)⟩
  rw [wpOpsIn_cons]
  refine wpOpIn_mono (fun a' w' h' => ?_) (h.2 i hr)
  refine B402 B (A ++ [i]) (l.setIfInBounds i true) n a' w' h' (by simpa using hT) (by simpa using hsz) (fun j => ?_) (by simp at hf; omega)
  rw [A47, A83, A44, A61]
  by_cases e : i = j
  ·subst e; simp [show i < l.size by omega]
  ·rw [A7 e, ← A47, hl]
   exact ⟨.inl, fun q => q.elim (fun q => q) fun q => absurd q.symm e⟩
theorem B645 {i : Nat} : ∀ {l : List Nat} {q0 q : Nat}, posN i l q0 = some q -> ∃ k, q = q0 + k ∧ l[k]? = some i
 | [], q0, q, h => by simp [posN] at h
 | j :: l, q0, q, h => by
  simp only [posN] at h
  split at h
  ·rename_i e
   cases h
   exact ⟨0, rfl, by simp [B7 e]⟩
  ·obtain ⟨k, h1, h2⟩ := B645 h
   exact ⟨k + 1, by omega, by simpa using h2⟩
theorem B734 {i : Nat} : ∀ {l : List Nat} {q0 : Nat}, i ∈ l -> ∃ q, posN i l q0 = some q
 | j :: l, q0, h => by
  simp only [posN]
  split
  ·exact ⟨_, rfl⟩
  ·rename_i e
   rcases A19.1 h with rfl | h
   ·simp at e
   ·exact B734 h
theorem B560 : ∀ {l : List Nat} {a b i : Nat}, B286 l = true -> l[a]? = some i -> l[b]? = some i -> a = b
 | [], a, b, i, _, h, _ => by simp at h
 | x :: l, a, b, i, h, ha, hb => by
  simp only [B286] at h
  split at h
  ·cases h
  ·rename_i hx
   have nx : ∀ k, l[k]? = some x -> False := fun k hk => by
    rw [B72.2 (A41 hk)] at hx; cases hx
   cases a with
   | zero =>
    simp only [A21, Nat.zero_lt_succ, A18, List.getElem_cons_zero, A16] at ha
    subst ha
    cases b with
    | zero => rfl
    | succ b => exact (nx b (by simpa using hb)).elim
   | succ a =>
    cases b with
    | zero =>
     simp only [A21, Nat.zero_lt_succ, A18, List.getElem_cons_zero, A16] at hb
     subst hb
     exact (nx a (by simpa using ha)).elim
    | succ b => exact congrArg (· + 1) (B560 (i := i) h (by simpa using ha) (by simpa using hb))
theorem B524 {L : List Nat} : ∀ {n : Nat}, allIn L n = true -> ∀ i, i < n -> i ∈ L
 | 0, _, i, h => by omega
 | n + 1, h, i, hi => by
  simp only [allIn] at h
  split at h
  ·rename_i e
   by_cases he : i = n
   ·subst he; exact B72.1 e
   ·exact B524 h i (by omega)
  ·cases h
theorem B525 {n : Nat} : ∀ {l : List Nat}, allLt n l = true -> ∀ i, i ∈ l -> i < n
 | [], _, i, h => by simp at h
 | x :: l, h, i, hi => by
  simp only [allLt] at h
  split at h
  ·rename_i e
   rcases A19.1 hi with rfl | hi
   ·exact B94.1 e
   ·exact B525 h i hi
  ·cases h
theorem B289 {L : List Nat} : ∀ {es es' : List Edge}, B354 L es = some es' -> ∀ e', e' ∈ es' -> ∃ e, e ∈ es ∧ posN e.on L 0 = some e'.on ∧ e'.ground = e.ground
 | [], es', h, e', he => by simp only [B354, A16] at h; subst h; simp at he
 | e :: es, es', h, e', he => by
  simp only [B354] at h
  split at h
  ·rename_i q r e1 e2
   cases h
   rcases A19.1 he with rfl | he
   ·exact ⟨e, A23 .., e1, rfl⟩
   ·obtain ⟨e0, h1, h2, h3⟩ := B289 e2 e' he
    exact ⟨e0, A29 _ h1, h2, h3⟩
  ·cases h
theorem B320 {L : List Nat} {ch : List (Nat × Nat)} {i : Nat} {o o' : Oper} (h : B428 L ch i o = some o') :
  o.guard = none ∧ (∃ X, o' = { o with after := X }) ∧ ∀ e', e' ∈ o'.after.toList -> (∃ e, e ∈ o.after.toList ∧ posN e.on L 0 = some e'.on ∧ e'.ground = e.ground) ∨ ∃ p, lookN i ch = some p ∧ posN p L 0 = some e'.on := by
 unfold B428 at h
 split at h
 ·rename_i es hg hes
  split at h
  ·cases h
   exact ⟨hg, ⟨_, rfl⟩, fun e' he' => .inl (B289 hes e' (by simpa using he'))⟩
  ·rename_i p hp
   split at h
   ·rename_i q hq
    cases h
    refine ⟨hg, ⟨_, rfl⟩, fun e' he' => ?_⟩
    rcases A19.1 (show e' ∈ _ :: es by simpa using he') with rfl | he'
    ·exact .inr ⟨p, hp, hq⟩
    ·exact .inl (B289 hes e' he')
   ·cases h
 ·cases h
theorem B566 {ops : List Oper} {L : List Nat} {ch : List (Nat × Nat)} : ∀ {l : List Nat} {ops' : List Oper}, reOps ops L ch l = some ops' -> ops'.length = l.length ∧ ∀ k i, l[k]? = some i -> ∃ o o', getL ops i = some o ∧ B428 L ch i o = some o' ∧ getL ops' k = some o'
 | [], ops', h => by simp only [reOps, A16] at h; subst h; exact ⟨rfl, fun k i hk => by simp at hk⟩
 | x :: l, ops', h => by
  simp only [reOps] at h
  split at h
  ·cases h
  ·rename_i o ho
   split at h
   ·rename_i o' r e1 e2
    cases h
    obtain ⟨h1, h2⟩ := B566 e2
    refine ⟨by simp [h1], fun k i hk => ?_⟩
    cases k with
    | zero =>
     simp only [A21, Nat.zero_lt_succ, A18, List.getElem_cons_zero, A16] at hk
     subst hk
     exact ⟨o, o', ho, e1, rfl⟩
    | succ k => exact h2 k i (by simpa using hk)
   ·cases h
theorem B470 {i p : Nat} : ∀ {P : List Nat}, lookN i (B234 P) = some p -> ∃ P1 P2, P = P1 ++ p :: i :: P2
 | [], h => by simp [B234, lookN] at h
 | [a], h => by simp [B234, lookN] at h
 | a :: b :: l, h => by
  simp only [B234, lookN] at h
  split at h
  ·rename_i e
   cases h
   exact ⟨[], l, by simp [B7 e]⟩
  ·obtain ⟨P1, P2, hP⟩ := B470 (P := b :: l) h
   exact ⟨a :: P1, P2, by rw [hP]; rfl⟩
theorem B749 {i : Nat} : ∀ {A A' B B' : List Nat}, i ∉ A -> i ∉ A' -> A ++ i :: B = A' ++ i :: B' -> A = A'
 | [], [], _, _, _, _, _ => rfl
 | [], a :: A', _, _, _, h, e => by
  simp only [A28, A40, List.cons.injEq] at e
  exact absurd (by rw [e.1]; exact A23 ..) h
 | a :: A, [], _, _, h, _, e => by
  simp only [A28, A40, List.cons.injEq] at e
  exact absurd (by rw [e.1]; exact A23 ..) h
 | a :: A, a' :: A', _, _, h, h', e => by
  simp only [A40, List.cons.injEq] at e
  rw [e.1, B749 (fun q => h (A29 _ q)) (fun q => h' (A29 _ q)) e.2]
theorem B319 {R : Nat -> Nat -> Prop} : ∀ {L : List Nat}, (∀ A i B, L = A ++ i :: B -> ∀ x ∈ B, R i x) -> L.Pairwise R
 | [], _ => .nil
 | a :: L, h => .cons (h [] a L rfl) (B319 fun A i B e => h (a :: A) i B (by rw [e]; rfl))
theorem B626 {anc : List Nat} {h : Nat} : ∀ {l : List Nat}, (∀ x ∈ l, ordB anc x h = false) -> B539 anc h l = true
 | [], _ => rfl
 | x :: l, hx => by
  simp only [B539]
  rw [hx x (A23 ..)]
  exact B626 fun y hy => hx y (A29 _ hy)
theorem B617 {anc : List Nat} : ∀ (P rem : List Nat) (n : Nat), P.length <= n -> (∀ x, x ∈ P ↔ x ∈ rem) -> P.Pairwise (fun h x => h ≠ x ∧ ordB anc x h = false) -> (∀ h ∈ P, ordB anc h h = false) -> P ∈ consO anc n rem
 | [], rem, n, _, hm, _, _ => by
  cases rem with
  | nil => cases n <;> simp [consO]
  | cons x l => exact absurd ((hm x).2 (A23 ..)) (by simp)
 | h :: P, rem, n, hn, hm, hp, hi => by
  obtain ⟨n, rfl⟩ : ∃ m, n = m + 1 := ⟨n - 1, by simp at hn; omega⟩
  cases rem with
  | nil => exact absurd ((hm h).1 (A23 ..)) (by simp)
  | cons x l =>
   simp only [consO, List.mem_flatMap, A91, A60]
   rw [List.pairwise_cons] at hp
   refine ⟨h, ⟨(hm h).1 (A23 ..), B626 fun y hy => ?_⟩, P, ?_, rfl⟩
   ·rcases A19.1 ((hm y).2 hy) with rfl | hy
    ·exact hi y (A23 ..)
    ·exact (hp.1 y hy).2
   ·refine B617 P _ n (by simp at hn; omega) (fun y => ?_) hp.2 fun y hy => hi y (A29 _ hy)
    rw [A91, ← hm y, A19]
    constructor
    ·intro hy
     refine ⟨.inr hy, ?_⟩
     have := (hp.1 y hy).1
     simp only [Bool.not_eq_true']
     cases e : Nat.beq y h with
     | false => rfl
     | true => exact absurd (B7 e).symm this
    ·rintro ⟨rfl | hy, e⟩
     ·simp at e
     ·exact hy
theorem B803 : ∀ {a b : List Nat}, eqNs a b = true -> a = b
 | [], [], _ => rfl
 | [], _ :: _, h => by cases h
 | _ :: _, [], h => by cases h
 | x :: l, y :: m, h => by
  simp only [eqNs] at h
  split at h
  ·rename_i e; rw [B7 e, B803 h]
  ·cases h
theorem B496 {hs P : List Nat} : ∀ {Ls : List (List Nat)}, B574 hs P Ls = true -> ∃ L, L ∈ Ls ∧ (L.filter fun i => memN i hs) = P
 | [], h => by cases h
 | L :: l, h => by
  simp only [B574] at h
  split at h
  ·rename_i e; exact ⟨L, A23 .., B803 e⟩
  ·obtain ⟨L', h1, h2⟩ := B496 h
   exact ⟨L', A29 _ h1, h2⟩
theorem B471 {hs : List Nat} {Ls : List (List Nat)} : ∀ {Ps : List (List Nat)}, B531 hs Ls Ps = true -> ∀ P, P ∈ Ps -> ∃ L, L ∈ Ls ∧ (L.filter fun i => memN i hs) = P
 | [], _, P, h => by simp at h
 | Q :: l, h, P, hP => by
  simp only [B531] at h
  split at h
  ·rename_i e
   rcases A19.1 hP with rfl | hP
   ·exact B496 e
   ·exact B471 h P hP
  ·cases h
theorem B472 {run : List Nat -> Option R} : ∀ {Ls : List (List Nat)}, B144 run Ls = some r -> ∀ L, L ∈ Ls -> run L = some r
 | [], h, _, _ => by cases h
 | [L], h, L', hL => by simp only [B144] at h; rw [A61] at hL; subst hL; exact h
 | L :: M :: l, h, L', hL => by
  simp only [B144] at h
  obtain ⟨h1, h2⟩ := B258 h
  rcases A19.1 hL with rfl | hL
  ·exact h1
  ·exact B472 (Ls := M :: l) h2 L' hL
theorem B582 {F : Fence} {n0 : Nat} {P : Program} {ops ops' : Array Oper} {Q : Exit -> Act -> World -> Prop} {f : Nat -> Nat} : ∀ (L : List Nat), (∀ i, i ∈ L -> ∃ o X, ops[i]? = some o ∧ o.guard = none ∧ ops'[f i]? = some { o with after := X }) ->
  ∀ (a : Act) (w : World), wpOpsIn F n0 P ops' Q (L.map f) a w -> wpOpsIn F n0 P ops Q L a w
 | [], _, a, w, h => h
 | i :: L, hL, a, w, h => by
  rw [A53, wpOpsIn_cons] at h
  rw [wpOpsIn_cons]
  have h := wpOpIn_mono (fun a w => B582 L (fun j hj => hL j (A29 _ hj)) a w) h
  obtain ⟨o, X, h1, h2, h3⟩ := hL i (A23 ..)
  unfold wpOpIn at h ⊢
  rw [h1]
  rw [h3] at h
  simp only [Region.wanted, h2, A6] at h ⊢
  exact h
theorem B761 (ok : PrgOk G) {rec : Rec G} (hrec : Spec G rec) {ann : Ann} {ops : Array Oper} {σ : St G.E.T} {k : St G.E.T -> Option R} {id : Nat} {hs : List Nat} {L0 : List Nat} (h : B294 G rec ann id N ops.toList hs σ k L0 = some r)
  {a : Act} {w : World} {Fz : Nat -> Prop} {ι : Nat -> Loc}
  (hAt : At G X N w Fz ι σ a) {Q : Exit -> Act -> World -> Prop} (hQ : ∀ σ' a' w' Fz' ι', k σ' = some r -> Goes G X N (B12 ops.toList) w Fz ι σ.heap a w' Fz' ι' σ' a' -> Q .normal a' w')
  {L : List Nat} (hT : Topo .any ops L) (hlen : L.length <= ops.size) (hP : (L0.filter fun i => memN i hs) = L.filter fun i => memN i hs) : wpOpsIn (fence ro) 0 G.P ops Q L a { w with drawn := w.drawn + 1 } := by
 unfold B294 at h
 split at h
 ·rename_i ops' hnd hall hre
  split at h
  ·rename_i htop
   obtain ⟨hl', hat⟩ := B566 hre
   have hin := B524 hall
   have hlt : ∀ i, i ∈ L -> i < ops.size := fun i hi => (hT.1 i).2 hi
   have hpos : ∀ i, i ∈ L -> ∃ q, posN i L0 0 = some q ∧ L0[q]? = some i := fun i hi => by
    obtain ⟨q, hq⟩ := B734 (q0 := 0) (hin i (by simpa using hlt i hi))
    obtain ⟨k, h1, h2⟩ := B645 hq
    rw [A22] at h1; subst h1
    exact ⟨q, hq, h2⟩
   let f : Nat -> Nat := fun i => (posN i L0 0).getD 0
   have hf : ∀ i q, posN i L0 0 = some q -> f i = q := fun i q hq => by show (posN i L0 0).getD 0 = q; rw [hq]; rfl
   have hfi : ∀ i j, i ∈ L -> j ∈ L -> f i = f j -> i = j := fun i j hi hj e => by
    obtain ⟨q, h1, h2⟩ := hpos i hi
    obtain ⟨q', h1', h2'⟩ := hpos j hj
    rw [hf i q h1, hf j q' h1'] at e
    subst e
    rw [h2] at h2'; exact Option.some.inj h2'
   have hops' : ∀ i, i ∈ L -> ∃ o o', getL ops.toList i = some o ∧ B428 L0 (B234 (L0.filter fun i => memN i hs)) i o = some o' ∧ getL ops' (f i) = some o' := fun i hi => by
    obtain ⟨q, h1, h2⟩ := hpos i hi
    rw [hf i q h1]; exact hat q i h2
   refine B582 (ops' := ops'.toArray) (f := f) L (fun i hi => ?_) a _ ?_
   ·obtain ⟨o, o', h1, h2, h3⟩ := hops' i hi
    obtain ⟨g1, ⟨X, g2⟩, _⟩ := B320 h2
    rw [B24] at h1 h3
    exact ⟨o, X, by simpa using h1, g1, by rw [← g2]; simpa using h3⟩
   ·have hany := B581 (ro := ro) (ops := ops'.toArray) ok hrec (by simpa using h) hAt (Q := Q) (fun σ' a' w' Fz' ι' hk hg => hQ σ' a' w' Fz' ι' hk (hg.more fun t ht => ?_)) (md := .any) (by simpa using htop)
    ·have hT' : Topo .any ops'.toArray ([] ++ L.map f) := by
      refine ⟨fun q => ?_, fun A' q B' hAB => ?_⟩
      ·rw [A28, A60]
       constructor
       ·intro hq
        have hq' : q < L0.length := by rw [← hl']; simpa using hq
        obtain ⟨o, o', h1, _, _⟩ := hat q L0[q] (A18 hq')
        have hi : L0[q] < ops.size := by simpa using B17 h1
        have hiL := (hT.1 _).1 hi
        obtain ⟨q', g1, g2⟩ := hpos _ hiL
        refine ⟨L0[q], hiL, ?_⟩
        rw [hf _ q' g1]
        exact B560 hnd g2 (A18 hq')
       ·rintro ⟨i, hi, rfl⟩
        obtain ⟨o, o', _, _, h3⟩ := hops' i hi
        simpa using B17 h3
      ·rw [A28] at hAB
       obtain ⟨A, S, hL, hA, hS⟩ := List.map_eq_append_iff.1 hAB
       obtain ⟨i, B, hS', rfl, hB⟩ := List.map_eq_cons_iff.1 hS
       subst hS'
       obtain ⟨t1, t2⟩ := hT.2 A i B hL
       have hiL : i ∈ L := by rw [hL]; simp
       have hAL : ∀ x, x ∈ A -> x ∈ L := fun x hx => by rw [hL]; exact A90 _ hx
       refine ⟨fun hm => ?_, fun o2 ho2 e' he' hb => ?_⟩
       ·rw [← hA] at hm
        obtain ⟨x, hx, hxi⟩ := A60.1 hm
        rw [hfi x i (hAL x hx) hiL hxi] at hx
        exact t1 hx
       ·obtain ⟨o, o', h1, h2, h3⟩ := hops' i hiL
        simp only at ho2
        rw [h3] at ho2; cases ho2
        obtain ⟨_, _, g3⟩ := B320 h2
        rw [← hA, A60]
        rcases g3 e' he' with ⟨e, q1, q2, q3⟩ | ⟨p, q1, q2⟩
        ·refine ⟨e.on, t2 o h1 e q1 ?_, hf _ _ q2⟩
         unfold Region.binds at hb ⊢
         rw [← q3]; exact hb
        ·refine ⟨p, ?_, hf _ _ q2⟩
         rw [hP] at q1
         obtain ⟨P1, P2, hPP⟩ := B470 q1
         have hi_mem : memN i hs = true := by
          have : i ∈ L.filter fun i => memN i hs := by rw [hPP]; simp
          exact (A91.1 this).2
         have e1 : (L.filter fun i => memN i hs) = (A.filter fun i => memN i hs) ++ i :: B.filter fun i => memN i hs := by
          rw [hL, List.filter_append, A130]; simp [hi_mem]
         have nd : (L.filter fun i => memN i hs).Pairwise (· ≠ ·) := List.Pairwise.filter _ (B319 fun A i B e x hx => by
          obtain ⟨C, D, rfl⟩ := List.append_of_mem hx
          have := (hT.2 (A ++ i :: C) x D (by rw [e]; simp)).1
          rintro rfl
          exact this (by simp))
         have n1 : i ∉ P1 ++ [p] := by
          intro hm
          rw [hPP, show P1 ++ p :: i :: P2 = (P1 ++ [p]) ++ i :: P2 by simp, A132] at nd
          exact nd.2.2 i hm i (A23 ..) rfl
         have n2 : i ∉ A.filter fun i => memN i hs := fun hm => t1 (A91.1 hm).1
         have := B749 (B := P2) (B' := B.filter fun i => memN i hs) n1 n2 (by rw [← e1, hPP]; simp)
         have hp : p ∈ A.filter fun i => memN i hs := by rw [← this]; simp
         exact (A91.1 hp).1
     refine B402 (L.map f) [] _ ops'.toArray.size a _ hany hT' (by simp) (fun j => ?_) ?_
     ·have e0 : (Array.replicate ops'.toArray.size false).getD j false = false := by
       rw [A47, Array.getElem?_replicate]
       split <;> rfl
      rw [e0]; simp
     ·have : ∀ i, i < ops.size -> i < ops'.length + 0 ∨ True := fun _ _ => .inr trivial
      have hsz : ops.size <= ops'.length := by
       rw [hl']
       have : ∀ (n : Nat) (l : List Nat), (∀ i, i < n -> i ∈ l) -> n <= l.length := by
        intro n
        induction n with
        | zero => intro l _; omega
        | succ n ih =>
         intro l hl
         have h1 := ih (l.filter fun x => x != n) (fun i hi => A91.2 ⟨hl i (by omega), by simp; omega⟩)
         have h2 : (l.filter fun x => x != n).length < l.length := by
          have := B299 (l := l) (p := fun _ => true) (q := fun x => x != n) (fun _ _ => rfl) ⟨n, hl n (by omega), rfl, by simp⟩
          rwa [show (l.filter fun _ => true) = l from by simp] at this
         omega
       exact this _ _ fun i hi => hin i (by simpa using hi)
      simp only [A51, List.size_toArray]
      omega
    ·-- what is written
     have : ∀ {l : List Nat} {m : List Oper}, reOps ops.toList L0 (B234 (L0.filter fun i => memN i hs)) l = some m -> ∀ t, t ∈ B12 m -> t ∈ B12 ops.toList := by
      intro l
      induction l with
      | nil => intro m hm t ht; simp only [reOps, A16] at hm; subst hm; simp [B12] at ht
      | cons i l ih =>
       intro m hm t ht
       simp only [reOps] at hm
       split at hm
       ·cases hm
       ·rename_i o ho
        split at hm
        ·rename_i o' r' e1 e2
         cases hm
         obtain ⟨_, ⟨X, rfl⟩, _⟩ := B320 e1
         simp only [B12] at ht
         split at ht
         ·rename_i d hd
          rcases A19.1 ht with rfl | ht
          ·exact B315 ho (by rw [hd]; simp [dsOf])
          ·exact ih e2 t ht
         ·exact ih e2 t ht
        ·cases hm
     exact this hre t (by simpa using ht)
  ·cases h
 ·cases h
theorem B678 (ok : PrgOk G) {rec : Rec G} (hrec : Spec G rec) {ann : Ann} {ops : Array Oper} {σ : St G.E.T} {k : St G.E.T -> Option R} {id : Nat} (h : B195 G rec ann id N ops.toList σ k = some r) {a : Act} {w : World} {Fz : Nat -> Prop} {ι : Nat -> Loc}
  (hAt : At G X N w Fz ι σ a) {Q : Exit -> Act -> World -> Prop} (hQ : ∀ σ' a' w' Fz' ι', k σ' = some r -> Goes G X N (B12 ops.toList) w Fz ι σ.heap a w' Fz' ι' σ' a' -> Q .normal a' w') : (Code.region id ops true).wpIn (fence ro) 0 G.P Q a w := by
 unfold B195 at h
 split at h
 ·rename_i ht hg hany
  have fin : (∀ md, B210 ops.toList md = true -> ∀ t, wpOpsIn (fence ro) 0 G.P ops Q (Region.linearise md ops t) a { w with drawn := w.drawn + 1 }) -> (Code.region id ops true).wpIn (fence ro) 0 G.P Q a w := by
   intro go
   refine wpIn_region_draw fun t => ?_
   unfold Region.schedule
   split
   ·exact go .any hany t
   ·split
    ·exact go .text ht _
    ·exact go .gc hg _
  split at h
  ·exact fin fun md hmd t => wpAnyIn_sound ops.size t _ a _ (B581 ok hrec h hAt hQ hmd)
  ·rename_i hs Ls hlk
   split at h
   ·cases h
   ·rename_i anc hanc
    split at h
    ·rename_i hl hcov
     refine fin fun md hmd t => ?_
     have hT := (B989 hmd t).any
     have hA := B879 hanc
     have hcons : ∀ A i B, Region.linearise md ops t = A ++ i :: B -> ∀ x, ordB anc x i = true -> x ∈ A := by
      intro A i B e x hx
      have hcl : B403 ops.toList (fun j => decide (j ∈ A)) := by
       rintro i' j hj ⟨o, e', q1, q2, q3, rfl⟩
       have hj := A39 hj
       obtain ⟨C, D, rfl⟩ := List.append_of_mem hj
       have := (hT.2 C j (D ++ i :: B) (by rw [e]; simp)).2 o q1 e' q2 q3
       exact decide_eq_true (A90 _ this)
      exact A39 (hA.ready hcl i (fun i' ⟨o, e', q1, q2, q3, q4⟩ => decide_eq_true (by rw [← q4]; exact (hT.2 A i B e).2 o q1 e' q2 q3)) x hx)
     obtain ⟨L0, hL0, hP⟩ := B471 hcov ((Region.linearise md ops t).filter fun i => memN i hs) (by
      refine B617 _ _ _ ?_ (fun x => ?_) (List.Pairwise.filter _ (B319 fun A i B e x hx => ?_)) (fun i hi => ?_)
      ·have h1 := List.length_filter_le (fun i => memN i hs) (Region.linearise md ops t)
       have h2 := B630 (md := md) (ops := ops) ops.size t (Array.replicate ops.size false) []
       simp only [A35, A36] at h2
       have h3 : (Region.linearise md ops t).length <= ops.size := h2
       simpa using A80 h1 h3
      ·rw [A91]
       exact ⟨fun q => B72.1 q.2, fun q => ⟨(hT.1 x).1 (by simpa using B525 hl x q), B72.2 q⟩⟩
      ·obtain ⟨C, D, rfl⟩ := List.append_of_mem hx
       have hn := (hT.2 (A ++ i :: C) x D (by rw [e]; simp)).1
       refine ⟨fun q => hn (by rw [q]; simp), ?_⟩
       cases ho : ordB anc x i with
       | false => rfl
       | true => exact absurd (A90 _ (hcons A i _ e x ho)) hn
      ·have hi := (A91.1 hi).1
       obtain ⟨C, D, e⟩ := List.append_of_mem hi
       cases ho : ordB anc i i with
       | false => rfl
       | true => exact absurd (hcons C i D e i ho) (hT.2 C i D e).1)
     exact B761 ok hrec (B472 h L0 hL0) hAt hQ hT (B630 (md := md) (ops := ops) ops.size t (Array.replicate ops.size false) []) hP
    ·cases h
 ·cases h
end
section
variable {G : Prg} {w w' : World} {Fz Fz' : Nat -> Prop} {ι ι' : Nat -> Loc} {R : Type} {r : R} {X : Ctx} {N : Nat} {ro : Option Nat}
theorem B222 {T : Nat -> Type} : ∀ (bs : List BSh) (H : List (Blk T)), (B8 bs H).length = H.length
 | [], [] => rfl
 | [], b :: h => by simp [B8, B222 [] h]
 | s :: bs, [] => by cases s <;> rfl
 | s :: bs, b :: h => by cases s <;> simp [B8, B222 bs h]
theorem B379 : ∀ (bs : List BSh) (H : List (Blk G.E.T)) (j : Nat) (b : Blk G.E.T), getL H j = some b -> getL (B8 bs H) j = some b ∨ getL (B8 bs H) j = some (protB b)
 | [], [], j, b, h => by simp [getL] at h
 | s :: bs, [], j, b, h => by simp [getL] at h
 | [], c :: H, 0, b, h => by simp only [getL, A16] at h; subst h; exact .inr rfl
 | [], c :: H, j + 1, b, h => by simp only [getL] at h; exact B379 [] H j b h
 | s :: bs, c :: H, 0, b, h => by
  simp only [getL, A16] at h; subst h
  cases s <;> first | exact .inr rfl | exact .inl rfl
 | s :: bs, c :: H, j + 1, b, h => by
  simp only [getL] at h
  have := B379 bs H j b h
  cases s <;> simpa only [B8, getL] using this
theorem B322 (bs : List BSh) (H : List (Blk G.E.T)) : Sim (G := G) H (B8 bs H) := ⟨(B222 bs H).symm, fun j b h => B379 bs H j b h⟩
theorem Sim.back {P base : List (Blk G.E.T)} (h : Sim (G := G) P base) {j : Nat} {b : Blk G.E.T} (hb : getL base j = some b) :
  ∃ p, getL P j = some p ∧ b.owned = p.owned ∧ b.frozen = p.frozen ∧ b.info G.E = p.info G.E ∧ (b = p ∨ b = protB p) := by
 obtain ⟨p, h1, h2⟩ := h.get hb
 refine ⟨p, h1, ?_, ?_, ?_, h2⟩ <;> rcases h2 with rfl | rfl <;> first | rfl | exact B486 _ | exact B427 _ | exact B263 _
theorem BRep.protB {E : Env} {id : Nat} {H : List (Blk E.T)} {b : Blk E.T} (h : BRep E w Fz ι H id b) : BRep E w Fz ι H id (V.protB b) := by
 cases b with
 | gone => exact h
 | mp m k => cases m <;> exact h
 | mpr m k i xs => cases m <;> exact h
 | box m c => cases m <;> exact h
 | ints m k ep xs => cases m <;> exact h
 | rows m k ep xs => cases m <;> exact h
theorem Sim.keep {P base : List (Blk G.E.T)} (h : Sim (G := G) P base) : Keep G.E w w Fz Fz ι ι P base :=
 ⟨fun _ h => h, fun _ _ => rfl, fun j b hb => by
  rcases h.at_ j b hb with e | e
  ·exact ⟨b, e, .refl b⟩
  ·refine ⟨_, e, fun hi => ⟨by rw [B263]; exact hi, rfl⟩, fun ep len sz hi => .inr ⟨ep, len, sz, by rw [B263]; exact hi, A11 _, fun _ => ⟨rfl, rfl, rfl⟩⟩, fun e => by subst e; rfl⟩⟩
theorem HRep.sim {P base : List (Blk G.E.T)} (h : Sim (G := G) P base) (hP : HRep G.E w Fz ι P) : HRep G.E w Fz ι base := by
 refine ⟨fun id b hb => ?_, fun i j b b' A A' hij hi hj ho ho' hA hA' => ?_, fun i b A hi ho hA => ?_, fun i b A hi ho hA => ?_, hP.fz⟩
 ·obtain ⟨p, h1, _, _, _, h2⟩ := h.back hb
  have := (hP.rep id p h1).keep h.keep rfl (fun _ _ => rfl)
  rcases h2 with rfl | rfl
  ·exact this
  ·exact this.protB
 ·obtain ⟨p, h1, h2, _⟩ := h.back hi
  obtain ⟨q, g1, g2, _⟩ := h.back hj
  exact hP.apart i j p q A A' hij h1 g1 (by rw [← h2]; exact ho) (by rw [← g2]; exact ho') hA hA'
 ·obtain ⟨p, h1, h2, _⟩ := h.back hi
  exact hP.free i p A h1 (by rw [← h2]; exact ho) hA
 ·obtain ⟨p, h1, _, h2, _⟩ := h.back hi
  exact hP.held i p A h1 (by rw [← h2]; exact ho) hA
theorem Fram.sim {P base : List (Blk G.E.T)} (h : Sim (G := G) P base) (hP : Fram G.E X w Fz ι P) : Fram G.E X w Fz ι base :=
 ⟨hP.os, hP.tape, hP.output, hP.size, hP.block, fun i b A hi ho hA => by
  obtain ⟨p, h1, h2, _⟩ := h.back hi
  exact hP.own i p A h1 (by rw [← h2]; exact ho) hA, hP.fz⟩
theorem B642 {E : Env} {H : List (Blk E.T)} {env : List (Nat × PV E.T)} {a : Act} (h : B23 E w Fz ι H env a) : ∀ tm : List (Nat × TSh), PReps E w Fz ι H (looks env tm) (tm.map fun x => a.tmps.getD x.1 undef)
 | [] => by simp [looks, PReps]
 | (t, s) :: l => by simp only [looks, A53, PReps]; exact ⟨h t, B642 h l⟩
theorem B769 {E : Env} {H : List (Blk E.T)} {env : List (Nat × PV E.T)} {a : Act} (h : B23 E w Fz ι H env a) : ∀ (tm : List (Nat × TSh)) (vs : List (PV E.T)),
  PReps E w Fz ι H vs (tm.map fun x => a.tmps.getD x.1 undef) -> B23 E w Fz ι H (zipT tm vs env) a
 | [], vs, _ => by cases vs <;> exact h
 | (t, s) :: l, [], hv => by simp [PReps] at hv
 | (t, s) :: l, v :: vs, hv => by
  simp only [A53, PReps] at hv
  intro u
  simp only [zipT, look]
  split
  ·rename_i e
   have := B7 e
   subst this
   exact hv.1
  ·exact B769 h l vs hv.2 u
theorem B374 {T : Nat -> Type} : ∀ (env : List (Nat × PV T)) (ds : List Nat) (t : Nat), look t (minus env ds) = .any ∨ (t ∉ ds ∧ look t (minus env ds) = look t env)
 | [], ds, t => by simp [minus, look]
 | (u, v) :: r, ds, t => by
  simp only [minus]
  split
  ·rename_i hm
   rcases B374 r ds t with h | ⟨h1, h2⟩
   ·exact .inl h
   ·refine .inr ⟨h1, ?_⟩
    rw [h2]
    simp only [look]
    split
    ·rename_i e
     have := B7 e
     subst this
     exact absurd (B72.1 hm) h1
    ·rfl
  ·rename_i hm
   simp only [look]
   split
   ·rename_i e
    have := B7 e
    subst this
    exact .inr ⟨fun e => (by rw [B72.2 e] at hm; cases hm), rfl⟩
   ·exact B374 r ds t
theorem B917 {E : Env} {H : List (Blk E.T)} {env : List (Nat × PV E.T)} {a a' : Act} {ds : List Nat} (h : B23 E w Fz ι H env a) (hs : ∀ t, t ∉ ds -> a'.tmps.getD t undef = a.tmps.getD t undef) :
  B23 E w Fz ι H (minus env ds) a' := by
 intro t
 rcases B374 env ds t with e | ⟨e1, e2⟩
 ·rw [e]; simp [PRep]
 ·rw [e2, hs t e1]; exact h t
theorem B142 {c : Cut} {ds : List Nat} {σ0 σ' : St G.E.T} {P base : List (Blk G.E.T)} {p : Pay G.E.T c.leaves} (hc : B111 c base σ' = some p) {a a' : Act}
  (hP : HRep G.E w Fz ι P) (hFP : B23 G.E w Fz ι P σ0.env a) (hsim : Sim (G := G) P base)
  (hg : Goes G X N ds w Fz ι base a w' Fz' ι' σ' a') :
  ∃ Fz'' ι'', Goes G X N ds w Fz ι P a w' Fz'' ι'' (rebSt c ⟨minus σ0.env ds, P⟩ p) a' ∧ ∀ B, Un w' Fz' ι' σ'.heap B -> Un w' Fz'' ι'' (rebSt c ⟨minus σ0.env ds, P⟩ p).heap B := by
 unfold B111 at hc
 split at hc
 ·cases hc
 ·rename_i l cs hcast
  split at hc
  ·have hl := B602 hc
   obtain ⟨h1, h2, h3⟩ := B695 hg.step hP hsim hcast
   refine ⟨B34 Fz' ι' cs.lent, bindι ι' cs, ⟨?_, ?_, hg.size, ?_, hg.stay⟩, by simp only [rebSt, hl]; exact h3⟩
   ·simp only [rebSt, hl]; exact h1
   ·simp only [rebSt, hl]
    exact B769 (B917 (hFP.mono h1.keep) hg.stay) c.tm _ (h2.reps (B642 hg.env c.tm))
   ·simp only [rebSt, hl]
    exact hg.defers.un fun B hB => ⟨rfl, h3 B hB⟩
  ·cases hc
theorem B228 {ex : Ex} {σ' : St G.E.T} {base : List (Blk G.E.T)} {base' : St G.E.T} {k : Ex -> St G.E.T -> Option R} : ∀ {as : List (Ex × Cut)} {p : AltT G.E.T as}, B75 as base ex σ' = some p -> B279 as base' p k = some r ->
  ∃ c q, B111 c base σ' = some q ∧ k ex (rebSt c base' q) = some r
 | [], p, h, _ => p.elim
 | [(e, c)], p, h, g => by
  simp only [B75] at h
  split at h
  ·rename_i he
   have : ex = e := by
    cases ex <;> cases e <;> simp only [Ex.same] at he <;> first | rfl | cases he | (rw [B7 he])
   subst this
   exact ⟨c, p, h, g⟩
  ·cases h
 | (e, c) :: b :: as, p, h, g => by
  simp only [B75] at h
  split at h
  ·rename_i he
   have : ex = e := by
    cases ex <;> cases e <;> simp only [Ex.same] at he <;> first | rfl | cases he | (rw [B7 he])
   subst this
   split at h
   ·rename_i q hq
    cases h
    exact ⟨c, q, hq, g⟩
   ·cases h
  ·split at h
   ·rename_i q hq
    cases h
    exact B228 hq g
   ·cases h
def B199 : Ex -> Exit -> Prop
 | .normal, .normal => True
 | .exit i, .exit j => i = j
 | .ret, .ret => True
 | _, _ => False
def Post (G : Prg) (X : Ctx) (N : Nat) (ds : List Nat) (w : World) (Fz : Nat -> Prop) (ι : Nat -> Loc) (H : List (Blk G.E.T)) (a : Act) (k : Ex -> St G.E.T -> Option R) (r : R) : Exit -> Act -> World -> Prop :=
 fun e a' w' => ∃ ex σ' Fz' ι', B199 ex e ∧ k ex σ' = some r ∧ Goes G X N ds w Fz ι H a w' Fz' ι' σ' a'
theorem B206 {ds : List Nat} {as : Option (List (Ex × Cut))} {σ : St G.E.T} {run : St G.E.T -> {A : Type} -> (Ex -> St G.E.T -> Option A) -> Option A} {k : Ex -> St G.E.T -> Option R} (h : B205 G as ds σ run k = some r)
  {c : Code} {a : Act} (hA : At G X N w Fz ι σ a)
  (hrun : ∀ (σ1 : St G.E.T) {A : Type} (k1 : Ex -> St G.E.T -> Option A) (r1 : A), σ1.env = σ.env -> run σ1 k1 = some r1 -> At G X N w Fz ι σ1 a -> c.wpIn (fence ro) 0 G.P (Post G X N ds w Fz ι σ1.heap a k1 r1) a w) :
  c.wpIn (fence ro) 0 G.P (Post G X N ds w Fz ι σ.heap a k r) a w := by
 unfold B205 at h
 split at h
 ·exact hrun σ k r rfl h hA
 ·rename_i as
  obtain ⟨p, h1, h2⟩ := A34.1 h
  have hsim := B322 (G := G) (B339 as) σ.heap
  refine wpIn_mono (hrun ⟨σ.env, B8 (B339 as) σ.heap⟩ _ p rfl h1 ⟨hA.heap.sim hsim, hA.fram.sim hsim, hA.env.mono hsim.keep, hA.size, hA.defers.un fun B hB => ⟨rfl, hsim.un hB⟩⟩) ?_
  rintro e a' w' ⟨ex, σ', Fz', ι', he, hp, hg⟩
  obtain ⟨c, q, hc, hk⟩ := B228 hp h2
  obtain ⟨Fz'', ι'', hgo, _⟩ := B142 (σ0 := σ) hc hA.heap hA.env hsim hg
  exact ⟨ex, _, Fz'', ι'', he, hk, hgo⟩
theorem B373 {p : Nat -> Prop} : ∀ n, p n -> ∃ m, m <= n ∧ p m ∧ ∀ k, k < m -> ¬ p k := by
 intro n
 induction n using Nat.strongRecOn with
 | _ n ih =>
  intro hn
  by_cases h : ∃ k, k < n ∧ p k
  ·obtain ⟨k, h1, h2⟩ := h
   obtain ⟨m, g1, g2, g3⟩ := ih k h1 h2
   exact ⟨m, by omega, g2, g3⟩
  ·exact ⟨n, A11 _, hn, fun k hk hp => h ⟨k, hk, hp⟩⟩
theorem B325 {F : Fence} {n0 : Nat} {P : Program} {Q : Exit -> Act -> World -> Prop} {c : Code} {a : Act} {w : World} (I : Nat -> Act -> World -> Prop) {n : Nat} (h0 : I n a w)
  (round : ∀ n a w, I n a w -> c.wpIn F n0 P (Exit.then (fun a' w' => ∃ m, m < n ∧ I m a' w') Q) a w) : (Code.loop c).wpIn F n0 P Q a w := by
 classical
 let μ : Act -> World -> Nat := fun a w => if h : ∃ n, I n a w then (B373 (p := fun n => I n a w) h.choose h.choose_spec).choose else 0
 have hμ : ∀ n a w, I n a w -> I (μ a w) a w ∧ μ a w <= n := by
  intro n a w hn
  have hex : ∃ n, I n a w := ⟨n, hn⟩
  have hs := (B373 (p := fun n => I n a w) hex.choose hex.choose_spec).choose_spec
  have : μ a w = (B373 (p := fun n => I n a w) hex.choose hex.choose_spec).choose := by simp only [μ, dif_pos hex]
  rw [this]
  refine ⟨hs.2.1, ?_⟩
  rcases A85 n (B373 (p := fun n => I n a w) hex.choose hex.choose_spec).choose with q | q
  ·exact absurd hn (hs.2.2 n q)
  ·exact q
 refine wpIn_loop (fun a w => I (μ a w) a w) μ (hμ n a w h0).1 fun a w hI => ?_
 refine wpIn_mono (round _ a w hI) fun e a' w' he => ?_
 cases e with
 | normal =>
  obtain ⟨m, h1, h2⟩ := he
  obtain ⟨g1, g2⟩ := hμ m a' w' h2
  exact ⟨g1, by omega⟩
 | exit id => exact he
 | goto l => exact he
 | ret => exact he
 | panic ch => exact he
 | outgrown => exact he
theorem Keep.turn {E : Env} {H : List (Blk E.T)} {D : Nat} {o : Obj} (hu : Un w Fz ι H D) : Keep E w (w.putObj D o) Fz Fz ι ι H H :=
 ⟨fun _ h => h, fun B hB => World.putObj_heap_other fun e => hu.2.1 (e ▸ hB), .refl ι H⟩
theorem HRep.turn {E : Env} {H : List (Blk E.T)} {D : Nat} {o : Obj} (hu : Un w Fz ι H D) (h : HRep E w Fz ι H) : HRep E (w.putObj D o) Fz ι H :=
 ⟨fun id b hb => by
  by_cases hg : b = .gone
  ·subst hg; trivial
  ·exact (h.rep id b hb).keep (Keep.turn hu) rfl fun A hA => World.putObj_heap_other fun e => hu.2.2 id b A hb hg hA e, h.apart, h.free, h.held, fun B hB => by rw [World.putObj_size]; exact h.fz B hB⟩
theorem Un.turn {T : Nat -> Type} {H : List (Blk T)} {B D : Nat} {o : Obj} (hu : Un w Fz ι H B) : Un (w.putObj D o) Fz ι H B := ⟨by rw [World.putObj_size]; exact hu.1, hu.2⟩
theorem Step.turn {E : Env} {H H' : List (Blk E.T)} {D : Nat} {o : Obj} (h : Step E X w w' Fz Fz' ι ι' H H') (hu : Un w' Fz' ι' H' D) (h1 : w.heap.size <= D) (h2 : X.w0.heap.size <= D) (hz : ∀ B, Fz B -> B < w.heap.size)
  (hl : ∀ id b A, getL H id = some b -> b ≠ .gone -> (ι id).a = some A -> A.block < w.heap.size) : Step E X w (w'.putObj D o) Fz Fz' ι ι' H H' := by
 have hk := Keep.turn (o := o) hu
 have hne : ∀ B, B < w.heap.size -> B ≠ D := fun B hB e => by omega
 refine ⟨h.keep.trans hk, fun id b hb hp => ?_, h.heap.turn hu, ⟨h.fram.os, h.fram.tape, h.fram.output, by rw [World.putObj_size]; exact h.fram.size, fun B hB hO => ?_, h.fram.own, h.fram.fz⟩, fun B hB => ?_⟩
 ·obtain ⟨e1, e2, e3⟩ := h.still id b hb hp
  refine ⟨e1, e2, fun A hA => ?_⟩
  rw [← e3 A hA]
  refine World.putObj_heap_other fun e => ?_
  have := hl id b A hb (by rintro rfl; rcases hp with hp | hp <;> cases hp) hA
  omega
 ·rw [World.putObj_heap_other (by omega)]; exact h.fram.block B hB hO
 ·obtain ⟨e1, e2⟩ := h.un B hB
  exact ⟨by rw [World.putObj_heap_other (hne B hB.1)]; exact e1, e2.turn⟩
theorem Step.lay {E : Env} {H : List (Blk E.T)} {o : Obj} (h : HRep E w Fz ι H) (f : Fram E X w Fz ι H) : Step E X w (w.alloc o) Fz Fz ι ι H H := by
 have hs : (w.alloc o).heap.size = w.heap.size + 1 := World.size_alloc ..
 have hb : ∀ B, B < w.heap.size -> (w.alloc o).heap[B]? = w.heap[B]? := fun B hB => RowKit.Below.heap_alloc w o B hB
 have K : Keep E w (w.alloc o) Fz Fz ι ι H H := ⟨fun _ h => h, fun B hB => hb B (h.fz B hB), .refl ι H⟩
 have hl : ∀ id b A, getL H id = some b -> b ≠ .gone -> (ι id).a = some A -> A.block < w.heap.size := fun id b A hb' hg hA => (h.rep id b hb').lt hg hA
 have hpg : ∀ {b : Blk E.T}, b.prot = true ∨ b.frozen = true -> b ≠ .gone := fun {b} hp e => by subst e; rcases hp with hp | hp <;> cases hp
 refine ⟨K, fun id b hb' hp => ⟨hb', rfl, fun A hA => hb _ (hl id b A hb' (hpg hp) hA)⟩, ⟨fun id b hb' => ?_, h.apart, h.free, h.held, fun B hB => by rw [hs]; have := h.fz B hB; omega⟩,
  ⟨f.os, f.tape, f.output, by rw [hs]; have := f.size; omega, fun B hB hO => by rw [hb B (A75 hB f.size)]; exact f.block B hB hO, f.own, f.fz⟩, fun B hB => ⟨hb B hB.1, by rw [hs]; have := hB.1; omega, hB.2⟩⟩
 by_cases hg : b = .gone
 ·subst hg; trivial
 ·exact (h.rep id b hb').keep K rfl fun A hA => hb _ (hl id b A hb' hg hA)
theorem B497 {y : Nat} : ∀ {l acc : List Oper} {pre post : List Oper} {d : Nat} {args : List Operand}, B436 y l acc = some (pre, d, args, post) ->
  ∃ z, acc.reverse ++ l = pre ++ z :: post ∧ z.guard = none ∧ z.dst = some d ∧ ∃ as ts, z.op = .call ⟨.value (.tmp y), as, ts⟩ ∧ args = as.toList
 | [], acc, pre, post, d, args, h => by simp [B436] at h
 | o :: l, acc, pre, post, d, args, h => by
  simp only [B436] at h
  split at h
  ·rename_i h1 h2 h3
   split at h
   ·rename_i hz
    cases h
    have := B7 hz
    subst this
    exact ⟨o, rfl, h3, h2, _, _, h1, rfl⟩
   ·cases h
  ·cases h
  ·obtain ⟨z, q1, q2⟩ := B497 h
   exact ⟨z, by simpa using q1, q2⟩
theorem B908 {c : Code} {I : It} (h : itOf c = some I) : ∃ i0 r0 b i1 r1 bb i3 r3 i2 r2 o z as ts,
  c = .seq (.region i0 r0 false) (.block b (.loop (.seq (.seq (.region i1 r1 false) (.cond (.tmp I.tb) .skip (.exit b))) (.seq (.block bb (.seq (.region i3 r3 false) (.cond (.tmp I.td) .ret .skip))) (.region i2 r2 false))))) ∧
  I.r0 = r0.toList ∧ I.r1 = r1.toList ∧ I.r2 = r2.toList ∧ I.r3 = r3.toList ∧ r3.toList = o :: (I.pre ++ z :: I.post) ∧ o.op = .move (.tmp 0) ∧ o.dst = some I.y ∧ o.guard = none ∧
  z.guard = none ∧ z.dst = some I.dy ∧ z.op = .call ⟨.value (.tmp I.y), as, ts⟩ ∧ I.args = as.toList ∧ 0 ∉ I.ds ∧ I.y ∉ B12 I.pre := by
 unfold itOf at h
 split at h
 ·rename_i i0 r0 b i1 r1 tb b' bb i3 r3 td i2 r2
  split at h
  ·rename_i o l hb hl
   have hb := B7 hb
   subst hb
   split at h
   ·rename_i y h1 h2 h3
    split at h
    ·rename_i pre dy args post h4 h5
     split at h
     ·rename_i h6
      cases h
      obtain ⟨z, q1, q2, q3, as, ts, q4, q5⟩ := B497 h4
      refine ⟨i0, r0, _, i1, r1, bb, i3, r3, i2, r2, o, z, as, ts, rfl, rfl, rfl, rfl, rfl, by rw [hl]; simpa using q1, h1, h2, h3, q2, q3, q4, q5, fun e => ?_, fun e => ?_⟩
      ·rw [B72.2 (show 0 ∈ B12 r0.toList ++ (B12 r1.toList ++ (B12 r3.toList ++ B12 r2.toList)) from e)] at h5; cases h5
      ·rw [B72.2 (show y ∈ B12 pre from e)] at h6; cases h6
     ·cases h
    ·cases h
   ·cases h
  ·cases h
 ·cases h
structure RecAt {T : Nat -> Type} (W : World) (rc : LoopState -> Option Code -> Loop) (st : LoopState) (pe : Option Code) (w : World) (Fz : Nat -> Prop) (ι : Nat -> Loc) (H : List (Blk T)) : Prop where
 l : Un w Fz ι H (W.heap.size + 1)
 lo : w.heap[W.heap.size + 1]? = some (.loop (rc st pe))
 d : Un w Fz ι H W.heap.size
 do_ : w.heap[W.heap.size]? = some (.deferred (some []))
theorem RecAt.un {T : Nat -> Type} {W : World} {rc : LoopState -> Option Code -> Loop} {st : LoopState} {pe : Option Code} {H H' : List (Blk T)} (h : RecAt W rc st pe w Fz ι H) (hu : ∀ B, Un w Fz ι H B -> w'.heap[B]? = w.heap[B]? ∧ Un w' Fz' ι' H' B) : RecAt W rc st pe w' Fz' ι' H' :=
 ⟨(hu _ h.l).2, (hu _ h.l).1.trans h.lo, (hu _ h.d).2, (hu _ h.d).1.trans h.do_⟩
theorem RecAt.turn {T : Nat -> Type} {W : World} {rc : LoopState -> Option Code -> Loop} {st st' : LoopState} {pe pe' : Option Code} {H : List (Blk T)} (h : RecAt W rc st pe w Fz ι H) :
  RecAt W rc st' pe' (w.putObj (W.heap.size + 1) (.loop (rc st' pe'))) Fz ι H :=
 ⟨h.l.turn, World.putObj_heap_same h.l.1, h.d.turn, (World.putObj_heap_other (by omega)).trans h.do_⟩
theorem Marks.turn {T : Nat -> Type} {H : List (Blk T)} {ds : List Deferred} {l : Nat} {lo : Loop} {o : Obj} (h : Marks X w Fz ι H ds) (hl : w.heap[l]? = some (.loop lo)) : Marks X (w.putObj l o) Fz ι H ds := by
 obtain ⟨Ds, h1, h2, h3⟩ := h
 refine ⟨Ds, h1, h2, fun D hD => ?_⟩
 obtain ⟨g1, g2, g3⟩ := h3 D hD
 exact ⟨g1, g2.turn, by rw [World.putObj_heap_other (show D ≠ l from fun e => by subst e; rw [g3] at hl; cases hl)]; exact g3⟩
theorem B215 : ∀ (l m : List Oper), B12 (l ++ m) = B12 l ++ B12 m
 | [], m => rfl
 | o :: l, m => by
  simp only [A40, B12]
  cases o.dst with
  | none => exact B215 l m
  | some d => simp [B215 l m]
def B74 : Ex -> Option Code
 | .normal => none
 | .exit id => some (.exit id)
 | .ret => some .ret
theorem B605 {F : Fence} {n : Nat} {P : Program} {ops : Array Oper} {Q : Exit -> Act -> World -> Prop} {l : List Oper} {a : Act} {w : World} (h : ∀ Q', Q' = Q -> wpListIn F n P ops Q' l a w) : wpListIn F n P ops Q l a w := h Q rfl
theorem B1038 {t u : Nat} {T : Nat -> Type} {v : PV T} {l : List (Nat × PV T)} : look t ((u, v) :: l) = if t = u then v else look t l := by
 simp only [look]
 by_cases e : t = u
 ·subst e; simp
 ·have : Nat.beq t u = false := by
   rcases hq : Nat.beq t u with _ | _
   ·rfl
   ·exact absurd (B7 hq) e
  rw [this, A7 e]
theorem B762 (ok : PrgOk G) {rec : Rec G} (hrec : Spec G rec) {ann : Ann} {I : It} {c assign body : Code} {fn : Func} {f : Nat} {g : Operand} {ps : Array Nat} {head : Cut} {as : List (Ex × Cut)} {cap : PV G.E.T} {σ : St G.E.T} {k : Ex -> St G.E.T -> Option R}
  (hfn : G.P.funcs[f]? = some fn) (hc : fn.body = some c) (hI : itOf c = some I) (hres : fn.results.toList = [])
  (hA' : ∀ (l : Nat) {A : Type} (σ : St G.E.T) (k : Ex -> St G.E.T -> Option A) (r : A), vrun G rec ann N assign σ k = some r -> ∀ {a : Act} {w : World} {Fz : Nat -> Prop} {ι : Nat -> Loc}, At G X N w Fz ι σ a ->
   assign.wpIn (fence (some l)) 0 G.P (Post G X N (dsts assign) w Fz ι σ.heap a k r) a w)
  (hB' : ∀ (l : Nat) {A : Type} (σ : St G.E.T) (k : Ex -> St G.E.T -> Option A) (r : A), vrun G rec ann N body σ k = some r -> ∀ {a : Act} {w : World} {Fz : Nat -> Prop} {ι : Nat -> Loc}, At G X N w Fz ι σ a ->
   body.wpIn (fence (some l)) 0 G.P (Post G X N (dsts body) w Fz ι σ.heap a k r) a w)
  (h : B360 G rec fn.ntmps I head as cap ps.toList N σ (fun σ _ k => vrun G rec ann N assign σ fun e σ => match e with
   | .normal => vrun G rec ann N body σ k
   | _ => none) k = some r)
  (hg : eval σ.env g = .fn f [cap]) {a : Act} (hA : At G X N w Fz ι σ a) : (Code.rangeFunc g ps assign body).wpIn (fence none) 0 G.P (Post G X N [] w Fz ι σ.heap a k r) a w := by
 have hgr := B11 hA.env g
 rw [hg] at hgr
 simp only [PRep] at hgr
 obtain ⟨cs, hfv, hcs⟩ := hgr
 obtain ⟨cv, rfl⟩ : ∃ cv, cs = #[cv] := by
  rcases cs with ⟨_ | ⟨cv, _ | ⟨b, l⟩⟩⟩
  ·simp [PReps] at hcs
  ·exact ⟨cv, rfl⟩
  ·simp [PReps] at hcs
 have hcap : PRep G.E w Fz ι σ.heap cap cv := by simpa [PReps] using hcs
 obtain ⟨i0, r0, b, i1, r1, bb, i3, r3, i2, r2, o, z, ys, ts, rfl, e0, e1, e2, e3, hr3, ho, hod, hog, hzg, hzd, hzo, hargs, h0, hy⟩ := B908 hI
 have hname := ok.names _ fn hfn (by rw [hc]; rfl)
 have hnone : fn.body.isNone = false := by rw [hc]; rfl
 refine wpIn_rangeFunc fun fo _ => ?_
 obtain ⟨rc, hrc⟩ : ∃ rc : LoopState -> Option Code -> Loop, rc = fun st pe => { state := st, pending := pe, fn := fo, tmps := a.tmps, params := ps, assign, body, defers := w.heap.size } := ⟨_, rfl⟩
 obtain ⟨w1, hw1⟩ : ∃ w1, w1 = (w.alloc (.deferred (some []))).alloc (.loop (rc .ready none)) := ⟨_, rfl⟩
 have hsz : w.heap.size + 1 < w1.heap.size := by rw [hw1, World.size_alloc, World.size_alloc]; omega
 -- where all begins
 have hsim := B322 (G := G) head.bs σ.heap
 have hB : HRep G.E w Fz ι (B8 head.bs σ.heap) := hA.heap.sim hsim
 have hFB : Fram G.E X w Fz ι (B8 head.bs σ.heap) := hA.fram.sim hsim
 have hEB : B23 G.E w Fz ι (B8 head.bs σ.heap) σ.env a := hA.env.mono hsim.keep
 have hs1 : Step G.E X w w1 Fz Fz ι ι (B8 head.bs σ.heap) (B8 head.bs σ.heap) := by
  have s1 := Step.lay (o := .deferred (some [])) hB hFB
  rw [hw1]
  exact s1.trans (Step.lay s1.heap s1.fram)
 have hrec1 : RecAt w rc .ready none w1 Fz ι (B8 head.bs σ.heap) := by
  have hun : ∀ B, w.heap.size <= B -> B < w1.heap.size -> Un w1 Fz ι (B8 head.bs σ.heap) B := fun B h1 h2 =>
   ⟨h2, fun hF => by have := hB.fz B hF; omega, fun id b A hb hg hA e => by have := (hB.rep id b hb).lt hg hA; omega⟩
  refine ⟨hun _ (by omega) hsz, ?_, hun _ (A11 _) (by omega), ?_⟩
  ·rw [hw1]; have := World.alloc_heap_new (w.alloc (.deferred (some []))) (.loop (rc .ready none)); rwa [World.size_alloc] at this
  ·rw [hw1, RowKit.Below.heap_alloc _ _ _ (by rw [World.size_alloc]; omega)]; exact World.alloc_heap_new ..
 -- the act of the iterator
 obtain ⟨a0, ha0⟩ : ∃ a0 : Act, a0 = { tmps := #[.func (.yield (w.heap.size + 1)) #[] #[], cv] ++ Array.replicate (fn.ntmps - 2) undef, defers := [] } := ⟨_, rfl⟩
 have hy0 : a0.tmps.getD 0 undef = .func (.yield (w.heap.size + 1)) #[] #[] := by rw [ha0, A47, A114 (by simp)]; rfl
 have hc0 : a0.tmps.getD 1 undef = cv := by rw [ha0, A47, A114 (by simp)]; rfl
 have hE0 : B23 G.E w Fz ι (B8 head.bs σ.heap) [(1, cap)] a0 := by
  intro t
  rw [B1038]
  split
  ·rename_i e; subst e; rw [hc0]; exact hcap.mono hsim.keep
  ·simp [look, PRep]
 have hG0 : Goes G X fn.ntmps I.ds w Fz ι (B8 head.bs σ.heap) a0 w1 Fz ι ⟨[(1, cap)], B8 head.bs σ.heap⟩ a0 :=
  ⟨hs1, fun t => (hE0 t).mono hs1.keep, by rw [ha0]; simp; omega, by rw [ha0]; exact .nil, fun _ _ => rfl⟩
 -- the act B328 the statement
 obtain ⟨aQ, haQ⟩ : ∃ aQ : Act, aQ = { a with defers := [B555 w.heap.size] ++ a.defers } := ⟨_, rfl⟩
 refine ⟨w.heap.size + 1, [B555 w.heap.size], w1, { target := .fn (.func f) #[cv], args := #[.func (.yield (w.heap.size + 1)) #[] #[]] }, w1, f, #[.func (.yield (w.heap.size + 1)) #[] #[]] ++ #[cv], w1, ?_, ?_, fun _ _ => trivial, ?_, fun e => (by cases e), ?_⟩
 ·rw [hw1, hrc]; exact run_enterLoop_outer ..
 ·simp only [resolve, hfv]
  simp [go_sem]
 ·simp only [invoke, callFunc, Sem.run_bind, run_program, Result.andThen_ok, hfn, hname, hnone, A5, A4]
  rfl
 -- the end
 have hloc : ∀ id b A, getL σ.heap id = some b -> b ≠ .gone -> (ι id).a = some A -> A.block < w.heap.size := fun id b A hb hg hA' => (hA.heap.rep id b hb).lt hg hA'
 have hlocB : ∀ id b A, getL (B8 head.bs σ.heap) id = some b -> b ≠ .gone -> (ι id).a = some A -> A.block < w.heap.size := fun id b A hb hg hA' => (hB.rep id b hb).lt hg hA'
 have hX : X.w0.heap.size <= w.heap.size + 1 := by have := hA.fram.size; omega
 have hend : ∀ (ex : Ex) (σ' : St G.E.T) (w' : World) (Fz' : Nat -> Prop) (ι' : Nat -> Loc) (st : LoopState), k ex σ' = some r -> Goes G X N [] w Fz ι σ.heap a w' Fz' ι' σ' aQ -> Un w' Fz' ι' σ'.heap (w.heap.size + 1) ->
   w'.heap[w.heap.size + 1]? = some (.loop (rc st (B74 ex))) -> st ≠ .busy -> rangePost (fence none) 0 G.P (w.heap.size + 1) (Post G X N [] w Fz ι σ.heap a k r) aQ (.returned (.tuple #[])) w' := by
  intro ex σ' w' Fz' ι' st hk hgo hu hl hst
  refine ⟨B74 ex, w'.putObj (w.heap.size + 1) (.loop (rc .exhausted (B74 ex))), ?_, ?_⟩
  ·have := run_endLoop (P := G.P) hl (by rw [hrc]; exact hst)
   rw [hrc] at this ⊢
   exact this
  ·have hgo' : ∀ o : Obj, Goes G X N [] w Fz ι σ.heap a (w'.putObj (w.heap.size + 1) o) Fz' ι' σ' aQ := fun o =>
    ⟨hgo.step.turn hu (by omega) hX hA.heap.fz hloc, fun t => (hgo.env t).mono (Keep.turn hu), hgo.size, hgo.defers.turn hl, hgo.stay⟩
   cases ex with
   | normal => exact ⟨.normal, σ', Fz', ι', trivial, hk, hgo' _⟩
   | exit id => exact wpIn_exit ⟨.exit id, σ', Fz', ι', rfl, hk, hgo' _⟩
   | ret => exact wpIn_ret ⟨.ret, σ', Fz', ι', trivial, hk, hgo' _⟩
 have hresult : ∀ (tmps : Array Value) (w' : World), (results fn tmps).run G.P w' = .ok (.tuple #[]) w' := by
  intro tmps w'
  have : fn.results = #[] := by apply Array.ext'; simpa using hres
  simp [results, this]
 -- the iterator
 unfold B360 at h
 rw [e0] at h
 have hds0 : ∀ t, t ∈ B12 r0.toList -> t ∈ I.ds := fun t ht => by unfold It.ds; rw [e0]; simp [ht]
 have hds1 : ∀ t, t ∈ B12 r1.toList -> t ∈ I.ds := fun t ht => by unfold It.ds; rw [e1]; simp [ht]
 have hds2 : ∀ t, t ∈ B12 r2.toList -> t ∈ I.ds := fun t ht => by unfold It.ds; rw [e2]; simp [ht]
 have hds3 : ∀ t, t ∈ B12 r3.toList -> t ∈ I.ds := fun t ht => by unfold It.ds; rw [e3]; simp [ht]
 have hd3 : B12 r3.toList = I.y :: (B12 I.pre ++ I.dy :: B12 I.post) := by
  rw [hr3]
  simp only [B12, hod, B215, hzd]
 have hdy : I.y ∈ I.ds := hds3 _ (by rw [hd3]; simp)
 have hdd : I.dy ∈ I.ds := hds3 _ (by rw [hd3]; simp)
 have hdpre : ∀ t, t ∈ B12 I.pre -> t ∈ I.ds := fun t ht => hds3 t (by rw [hd3]; simp [ht])
 have hdpost : ∀ t, t ∈ B12 I.post -> t ∈ I.ds := fun t ht => hds3 t (by rw [hd3]; simp [ht])
 rw [← haQ]
 refine callsIn_of_wp (F := fence none) hfn hc trivial ?_
 have hact : ({ tmps := #[.func (.yield (w.heap.size + 1)) #[] #[]] ++ #[cv] ++ Array.replicate (fn.ntmps - (#[.func (.yield (w.heap.size + 1)) #[] #[]] ++ #[cv] : Array Value).size) undef, defers := [] } : Act) = a0 := by rw [ha0]; rfl
 rw [hact]
 change Code.wpIn (fence none) 0 G.P _ _ a0 w1
 refine wpIn_seq (wpIn_region_list (B115 (N := fn.ntmps) ok hrec r0.toList h hG0.at_ fun σ0 a1 w2 Fz2 ι2 hk0 hd1 hg0 => ?_))
 split at hk0
 ·cases hk0
 rename_i s0 hs0
 obtain ⟨p, hloop, hget⟩ := A34.1 hk0
 obtain ⟨n0, hit0⟩ := B149 hloop
 have hcast : ∀ {a' : Act} {w' : World} {σ' : St G.E.T} {Fz' : Nat -> Prop} {ι' : Nat -> Loc} {s' : Pay G.E.T head.leaves}, B111 head (B8 head.bs σ.heap) σ' = some s' ->
   Goes G X fn.ntmps I.ds w Fz ι (B8 head.bs σ.heap) a0 w' Fz' ι' σ' a' -> RecAt w rc .ready none w' Fz' ι' σ'.heap ->
   ∃ Fz' ι', Goes G X fn.ntmps I.ds w Fz ι (B8 head.bs σ.heap) a0 w' Fz' ι' (rebSt head (B176 head.bs I.ds ⟨[(1, cap)], σ.heap⟩) s') a' ∧ RecAt w rc .ready none w' Fz' ι' (rebSt head (B176 head.bs I.ds ⟨[(1, cap)], σ.heap⟩) s').heap := by
  intro a' w' σ' Fz' ι' s' hc hg hr
  obtain ⟨Fz'', ι'', h1, h2⟩ := B142 (σ0 := ⟨[(1, cap)], σ.heap⟩) hc hB hE0 .refl hg
  exact ⟨Fz'', ι'', h1, hr.un fun B hB => ⟨rfl, h2 B hB⟩⟩
 -- the statement is left
 have hleave : ∀ {w' : World} {H' : List (Blk G.E.T)} {Fz' : Nat -> Prop} {ι' : Nat -> Loc} {ex : Ex} {st : LoopState}, B75 as (B8 head.bs σ.heap) ex ⟨σ.env, H'⟩ = some p ->
   Step G.E X w w' Fz Fz' ι ι' (B8 head.bs σ.heap) H' -> RecAt w rc st (B74 ex) w' Fz' ι' H' -> st ≠ .busy -> rangePost (fence none) 0 G.P (w.heap.size + 1) (Post G X N [] w Fz ι σ.heap a k r) aQ (.returned (.tuple #[])) w' := by
  intro w' H' Fz' ι' ex st hp hs hr hst
  obtain ⟨c', q, hc, hk⟩ := B228 hp hget
  have hm : Marks X w' Fz' ι' H' aQ.defers := by
   obtain ⟨Ds, h1, h2, h3⟩ := (hA.defers.un fun B hB => ⟨rfl, hsim.un hB⟩ : Marks X w Fz ι (B8 head.bs σ.heap) a.defers)
   refine ⟨w.heap.size :: Ds, by rw [haQ, h1]; rfl, List.nodup_cons.2 ⟨fun e => by have := (h3 _ e).2.1.1; omega, h2⟩, fun D hD => ?_⟩
   rcases A19.1 hD with rfl | hD
   ·exact ⟨hA.fram.size, hr.d, hr.do_⟩
   ·obtain ⟨g1, g2, g3⟩ := h3 D hD
    obtain ⟨q1, q2⟩ := hs.un D g2
    exact ⟨g1, q2, q1.trans g3⟩
  have hgo : Goes G X N [] w Fz ι (B8 head.bs σ.heap) a w' Fz' ι' ⟨σ.env, H'⟩ aQ := ⟨hs, by rw [haQ]; exact hEB.mono hs.keep, by rw [haQ]; exact hA.size, hm, fun _ _ => by rw [haQ]⟩
  obtain ⟨Fz'', ι'', h1, h2⟩ := B142 (σ0 := σ) hc hA.heap hA.env hsim hgo
  exact hend ex _ w' Fz'' ι'' st hk h1 (h2 _ hr.l) hr.lo hst
 let Inv : Nat -> Act -> World -> Prop := fun n a' w' => ∃ s, iter (B211 G rec fn.ntmps I head as cap ps.toList N σ (fun σ _ k => vrun G rec ann N assign σ fun e σ => match e with
   | .normal => vrun G rec ann N body σ k
   | _ => none)) n s = some p ∧ ∃ Fz' ι', Goes G X fn.ntmps I.ds w Fz ι (B8 head.bs σ.heap) a0 w' Fz' ι' (rebSt head (B176 head.bs I.ds ⟨[(1, cap)], σ.heap⟩) s) a' ∧ RecAt w rc .ready none w' Fz' ι' (rebSt head (B176 head.bs I.ds ⟨[(1, cap)], σ.heap⟩) s).heap ∧ a'.defers = []
 have hinv : Inv n0 a1 w2 := by
  obtain ⟨Fz', ι', q1, q2⟩ := hcast hs0 ((hG0.trans hg0).more fun t ht => (A44.1 ht).elim id (hds0 t)) (hrec1.un hg0.step.un)
  exact ⟨s0, hit0, Fz', ι', q1, q2, by rw [hd1, ha0]⟩
 refine wpIn_block (B325 Inv hinv fun n a' w' ⟨s, hit, Fz1, ι1, hg1, hr1, hdf1⟩ => ?_)
 cases n with
 | zero => simp [iter] at hit
 | succ n =>
  obtain ⟨y, hf, hyl, hyr⟩ : ∃ y, B211 G rec fn.ntmps I head as cap ps.toList N σ (fun σ _ k => vrun G rec ann N assign σ fun e σ => match e with
    | .normal => vrun G rec ann N body σ k
    | _ => none) s = some y ∧ (∀ s', y = .inl s' -> iter (B211 G rec fn.ntmps I head as cap ps.toList N σ (fun σ _ k => vrun G rec ann N assign σ fun e σ => match e with
    | .normal => vrun G rec ann N body σ k
    | _ => none)) n s' = some p) ∧ (∀ p', y = .inr p' -> p' = p) := by
   simp only [iter] at hit
   split at hit
   ·rename_i s' hf; exact ⟨_, hf, (fun _ e => by cases e; exact hit), fun _ e => by cases e⟩
   ·rename_i p' hf; cases hit; exact ⟨_, hf, (fun _ e => by cases e), fun _ e => by cases e; rfl⟩
   ·cases hit
  unfold B211 at hf
  rw [e1, e2, e3] at hf
  refine wpIn_seq (wpIn_seq (wpIn_region_list (B115 (N := fn.ntmps) ok hrec r1.toList hf hg1.at_ fun σ1 a2 w3 Fz3 ι3 hk1 hdf2 hg2 => ?_)))
  have hr2 := hr1.un hg2.step.un
  split at hk1
  ·rename_i cb hcb
   have hev : a2.eval (.tmp I.tb) = .bool cb := by
    have hbr := hg2.env I.tb
    rw [hcb] at hbr
    simp only [PRep] at hbr
    generalize hv : a2.tmps.getD I.tb undef = v at hbr
    cases hbr
    exact hv
   refine wpIn_cond hev ?_
   cases cb with
   | false =>
    simp only [A5, A4] at hk1 ⊢
    split at hk1
    ·rename_i p' hp
     cases hk1
     have := hyr _ rfl
     subst this
     refine wpIn_exit ?_
     simp only [Exit.then, Exit.inBlock, A6]
     exact ⟨by rw [hdf2, hdf1], _, hresult _ _, hleave hp (hg1.step.trans hg2.step) hr2 (by simp)⟩
    ·cases hk1
   | true =>
    simp only [A6] at hk1 ⊢
    refine wpIn_skip ?_
    split at hk1
    ·cases hk1
    rename_i env1 hput1
    refine wpIn_seq (wpIn_block (wpIn_seq (wpIn_region_list (B605 fun Qr hQr => ?_))))
    rw [hr3]
    obtain ⟨odst, oop, otype, opos, oafter, oguard⟩ := o
    simp only at ho hod hog
    subst ho hod hog
    unfold wpListIn
    simp only [Region.wanted, A6]
    refine ⟨fun _ _ => trivial, ?_⟩
    have hrun : ((⟨some I.y, .move (.tmp 0), otype, opos, oafter, none⟩ : Oper).semAt (fence none).round a2.eval).run G.P w3 = .ok (.value (a2.eval (.tmp 0))) w3 := rfl
    rw [hrun, Oper.uponIn_value]
    -- B328 the first operation
    obtain ⟨a3, ha3⟩ : ∃ a3, a3 = a2.put (some I.y) (a2.eval (.tmp 0)) := ⟨_, rfl⟩
    rw [← ha3]
    obtain ⟨q1, q2⟩ := B23.put (N := fn.ntmps) hg2.env (v := a2.eval (.tmp 0)) (by simp only [PRep]) hput1 hg2.size
    rw [← ha3] at q1 q2
    have hs3 : Step G.E X w w3 Fz Fz3 ι ι3 (B8 head.bs σ.heap) σ1.heap := hg1.step.trans hg2.step
    have hdf3 : a3.defers = [] := by rw [ha3, B112, hdf2, hdf1]
    have hA3 : At G X fn.ntmps w3 Fz3 ι3 ⟨env1, σ1.heap⟩ a3 := ⟨hs3.heap, hs3.fram, q1, by rw [ha3, B155]; exact hg2.size, by rw [hdf3]; exact .nil⟩
    have hstay3 : ∀ t, t ∉ I.ds -> a3.tmps.getD t undef = a0.tmps.getD t undef := fun t ht => by
     rw [q2 t (by simp only [dsOf, A61]; rintro rfl; exact ht hdy), hg2.stay t fun e => ht (hds1 t e), hg1.stay t ht]
    have hy3 : a3.tmps.getD I.y undef = .func (.yield (w.heap.size + 1)) #[] #[] := by
     have hlt : I.y < a2.tmps.size := by
      simp only [V.put] at hput1
      split at hput1
      ·rename_i hlt; exact A75 (B94.1 hlt) hg2.size
      ·cases hput1
     rw [ha3, B516 hlt, A3 rfl]
     show a2.tmps.getD 0 undef = _
     rw [hg2.stay 0 fun e => h0 (hds1 0 e), hg1.stay 0 h0, hy0]
    refine B212 I.pre (B115 (N := fn.ntmps) (ops := r3) ok hrec I.pre hk1 hA3 fun σ2 a4 w4 Fz4 ι4 hk2 hdf4 hg4 => ?_)
    have hr4 := hr2.un hg4.step.un
    have hs4 := hs3.trans hg4.step
    have hdf4 : a4.defers = [] := by rw [hdf4, hdf3]
    have hy4 : a4.eval (.tmp I.y) = .func (.yield (w.heap.size + 1)) #[] #[] := by
     show a4.tmps.getD I.y undef = _
     rw [hg4.stay I.y hy, hy3]
    split at hk2
    ·rename_i pp qq uu vv hps hevs
     split at hk2
     ·cases hk2
     rename_i envp hputp
     split at hk2
     ·cases hk2
     rename_i envq hputq
     -- the call of yield
     obtain ⟨x1, x2, hys⟩ : ∃ x1 x2, ys.toList = [x1, x2] := by
      rw [hargs] at hevs
      rcases hl : ys.toList with _ | ⟨x1, _ | ⟨x2, _ | ⟨x3, l⟩⟩⟩ <;> rw [hl] at hevs <;> simp [evals] at hevs
      exact ⟨x1, x2, rfl⟩
     have hre := B147 hg4.env I.args
     rw [hevs, hargs, hys] at hre
     simp only [A53, A79, PReps, A69] at hre
     obtain rfl : ps = #[pp, qq] := by apply Array.ext'; simpa using hps
     obtain rfl : ys = #[x1, x2] := by apply Array.ext'; simpa using hys
     obtain ⟨zdst, zop, ztype, zpos, zafter, zguard⟩ := z
     simp only at hzg hzd hzo
     subst hzg hzd hzo
     unfold B328
     simp only
     unfold wpListIn
     simp only [Region.wanted, A6]
     refine ⟨fun _ _ => trivial, ?_⟩
     have hyield := run_yield (P := G.P) (args := #[a4.eval x1, a4.eval x2]) hr4.lo (by rw [hrc]; rfl)
     have hrun : ((⟨some I.dy, .call ⟨.value (.tmp I.y), #[x1, x2], ts⟩, ztype, zpos, zafter, none⟩ : Oper).semAt (fence none).round a4.eval).run G.P w4 =
       (Instr.yield (w.heap.size + 1) #[a4.eval x1, a4.eval x2]).run G.P w4 := by
      rw [show (fence none).round = none from rfl, Oper.semAt_none]
      simp only [execOp, resolve, Deferred.ofValue, hy4, Sem.run_bind, Sem.run_pure, Result.andThen_ok, invoke]
      simp
     rw [hrun, hyield, Oper.uponIn_round]
     obtain ⟨u1, _⟩ := B23.put (N := N) (a := { tmps := a.tmps, defers := [] }) (env := σ.env) (fun t => (hEB t).mono hs4.keep) hre.1 hputp hA.size
     obtain ⟨u2, _⟩ := B23.put (N := N) u1 hre.2 hputq (by rw [B155]; exact hA.size)
     have hAR : At G X N w4 Fz4 ι4 ⟨envq, σ2.heap⟩ ((({ tmps := a.tmps, defers := [] } : Act).put (some pp) (a4.eval x1)).put (some qq) (a4.eval x2)) :=
      ⟨hs4.heap, hs4.fram, u2, by rw [B155, B155]; exact hA.size, .nil⟩
     refine ⟨fun e => (by cases e), roundIn_of_wpIn trivial ?_⟩
     have hact2 : ({ tmps := ((rc .ready none).params.zip #[a4.eval x1, a4.eval x2]).foldl (fun tmps (t, a) => tmps.setIfInBounds t a) (rc .ready none).tmps, defers := [] } : Act) =
       (({ tmps := a.tmps, defers := [] } : Act).put (some pp) (a4.eval x1)).put (some qq) (a4.eval x2) := by rw [hrc]; simp [Act.put]
     rw [hact2, show (rc .ready none).assign = assign by rw [hrc], show (rc .ready none).body = body by rw [hrc]]
     refine wpIn_mono (hA' (w.heap.size + 1) ⟨envq, σ2.heap⟩ _ y hk2 hAR) ?_
     rintro e a5 w5 ⟨ex, σ5, Fz5, ι5, he, hk5, hg5⟩
     cases ex with
     | exit id => cases hk5
     | ret => cases hk5
     | normal =>
      cases e <;> simp only [B199] at he
      have hr5 := hr4.un hg5.step.un
      have hs5 := hs4.trans hg5.step
      have hs6 : Step G.E X w (w5.putObj (w.heap.size + 1) (.loop (rc .busy none))) Fz Fz5 ι ι5 (B8 head.bs σ.heap) σ5.heap := hs5.turn hr5.l (by omega) hX hB.fz hlocB
      refine ⟨w5.putObj (w.heap.size + 1) (.loop (rc .busy none)), ?_, ?_⟩
      ·have := run_beginRound (P := G.P) hr5.lo (by rw [hrc])
       rw [hrc] at this ⊢
       exact this
      ·have hA6 : At G X N (w5.putObj (w.heap.size + 1) (.loop (rc .busy none))) Fz5 ι5 σ5 a5 :=
        ⟨hs6.heap, hs6.fram, fun t => (hg5.env t).mono (Keep.turn hr5.l), hg5.size, hg5.defers.turn hr5.lo⟩
       have hr6 : RecAt w rc .busy none _ _ _ _ := hr5.turn
       refine wpIn_mono (hB' (w.heap.size + 1) σ5 _ y hk5 hA6) ?_
       rintro e a7 w7 ⟨ex, σ7, Fz7, ι7, he7, hk7, hg7⟩
       have hr7 := hr6.un hg7.step.un
       have hs7 := hs6.trans hg7.step
       have hround : ∃ v w', (Instr.endRound (w.heap.size + 1) (B74 ex)).run G.P w7 = .ok v w' ∧ wpListIn (fence none) 0 G.P r3 Qr I.post (a4.put (some I.dy) v) w' := by
        refine ⟨.bool (B74 ex).isNone, w7.putObj (w.heap.size + 1) (.loop (rc (if (B74 ex).isNone then .ready else .done) (B74 ex))), ?_, ?_⟩
        ·have := run_endRound (P := G.P) (B74 ex) hr7.lo
         rw [hrc] at this ⊢
         exact this
        ·have hon : ex.on = (B74 ex).isNone := by cases ex <;> rfl
         simp only at hk7
         split at hk7
         ·cases hk7
         rename_i env8 hput8
         have hr8 : RecAt w rc (if (B74 ex).isNone then .ready else .done) (B74 ex) _ _ _ _ := hr7.turn
         have hs8 : Step G.E X w (w7.putObj (w.heap.size + 1) (.loop (rc (if (B74 ex).isNone then .ready else .done) (B74 ex)))) Fz Fz7 ι ι7 (B8 head.bs σ.heap) σ7.heap := hs7.turn hr7.l (by omega) hX hB.fz hlocB
         have K48 : Keep G.E w4 (w7.putObj (w.heap.size + 1) (.loop (rc (if (B74 ex).isNone then .ready else .done) (B74 ex)))) Fz4 Fz7 ι4 ι7 σ2.heap σ7.heap :=
          ((hg5.step.keep.trans (Keep.turn hr5.l)).trans hg7.step.keep).trans (Keep.turn hr7.l)
         obtain ⟨v1, v2⟩ := B23.put (N := fn.ntmps) (hg4.env.mono K48) (p := .bool ex.on) (v := .bool (B74 ex).isNone) (by rw [hon]; simp only [PRep]; exact .bool) hput8 hg4.size
         have hA8 : At G X fn.ntmps _ Fz7 ι7 ⟨env8, σ7.heap⟩ (a4.put (some I.dy) (.bool (B74 ex).isNone)) := ⟨hs8.heap, hs8.fram, v1, by rw [B155]; exact hg4.size, by rw [B112, hdf4]; exact .nil⟩
         refine B115 (N := fn.ntmps) (ops := r3) ok hrec I.post hk7 hA8 fun σ9 a9 w9 Fz9 ι9 hk9 hdf9 hg9 => ?_
         rw [hQr]
         have hr9 := hr8.un hg9.step.un
         have hs9 := hs8.trans hg9.step
         have hdf9' : a9.defers = [] := by rw [hdf9, B112, hdf4]
         change Code.wpIn (fence none) 0 G.P (.cond (.tmp I.td) .ret .skip) _ a9 w9
         split at hk9
         ·rename_i db hdb
          have hev9 : a9.eval (.tmp I.td) = .bool db := by
           have hbr := hg9.env I.td
           rw [hdb] at hbr
           simp only [PRep] at hbr
           generalize hv : a9.tmps.getD I.td undef = v at hbr
           cases hbr
           exact hv
          refine wpIn_cond hev9 ?_
          have hout : ∀ {e : Ex}, e = ex -> e ≠ .normal -> (if db = true then (match B75 as (B8 head.bs σ.heap) e ⟨σ.env, σ9.heap⟩ with
            | some p => some (.inr p)
            | none => none) else none) = some y -> db = true ∧ rangePost (fence none) 0 G.P (w.heap.size + 1) (Post G X N [] w Fz ι σ.heap a k r) aQ (.returned (.tuple #[])) w9 := by
           intro e hee hne hk
           subst hee
           split at hk
           ·rename_i hd
            split at hk
            ·rename_i p' hp
             cases hk
             have := hyr _ rfl
             subst this
             exact ⟨hd, hleave hp hs9 hr9 (by cases e <;> simp [B74])⟩
            ·cases hk
           ·cases hk
          cases ex with
          | normal =>
           simp only at hk9
           cases db with
           | true => simp at hk9
           | false =>
            simp only [A5, A4] at hk9 ⊢
            refine wpIn_skip ?_
            change Code.wpIn (fence none) 0 G.P (.region i2 r2 false) _ a9 w9
            refine wpIn_region_list (B115 (N := fn.ntmps) ok hrec r2.toList hk9 hg9.at_ fun σ10 a10 w10 Fz10 ι10 hk10 hdf10 hg10 => ?_)
            split at hk10
            ·rename_i s2 hs2
             cases hk10
             obtain ⟨Fz', ι', t1, t2⟩ := hcast hs2 ⟨hs9.trans hg10.step, hg10.env, hg10.size, by rw [hdf10, hdf9']; exact .nil, fun t ht => by
              rw [hg10.stay t fun e => ht (hds2 t e), hg9.stay t fun e => ht (hdpost t e), v2 t (by simp only [dsOf, A61]; rintro rfl; exact ht hdd), hg4.stay t fun e => ht (hdpre t e), hstay3 t ht]⟩ (hr9.un hg10.step.un)
             exact ⟨n, Nat.lt_succ_self _, s2, hyl s2 rfl, Fz', ι', t1, t2, by rw [hdf10, hdf9']⟩
            ·cases hk10
          | exit id =>
           obtain ⟨hd, hl⟩ := hout rfl (by simp) hk9
           subst hd
           exact wpIn_ret ⟨hdf9', _, hresult _ _, hl⟩
          | ret =>
           obtain ⟨hd, hl⟩ := hout rfl (by simp) hk9
           subst hd
           exact wpIn_ret ⟨hdf9', _, hresult _ _, hl⟩
         ·cases hk9
       cases ex <;> cases e <;> simp only [B199] at he7
       ·exact hround
       ·subst he7; exact hround
       ·exact hround
    ·cases hk2
  ·cases hk1
theorem andl {x y : Code} (h : B77 (.seq x y) = true) : B77 x = true := by simp only [B77, A25] at h; exact h.1
theorem andr {x y : Code} (h : B77 (.seq x y) = true) : B77 y = true := by simp only [B77, A25] at h; exact h.2
theorem B46 (ok : PrgOk G) {rec : Rec G} (hrec : Spec G rec) {ann : Ann} : ∀ (c : Code) {R : Type} {ro : Option Nat} (hro : ro = none ∨ B77 c = true) (σ : St G.E.T) (k : Ex -> St G.E.T -> Option R) (r : R), vrun G rec ann N c σ k = some r ->
  ∀ {a : Act} {w : World} {Fz : Nat -> Prop} {ι : Nat -> Loc}, At G X N w Fz ι σ a -> c.wpIn (fence ro) 0 G.P (Post G X N (dsts c) w Fz ι σ.heap a k r) a w
 | .skip, R, ro, hro, σ, k, r, h, a, w, Fz, ι, hA => by
  simp only [vrun] at h
  exact wpIn_skip ⟨.normal, σ, Fz, ι, trivial, h, hA.refl⟩
 | .region id ops draw, R, ro, hro, σ, k, r, h, a, w, Fz, ι, hA => by
  simp only [vrun] at h
  cases draw with
  | true =>
   refine B206 h hA fun σ1 A k1 r1 _ h1 hA1 => ?_
   exact B678 ok hrec h1 hA1 fun σ' a' w' Fz' ι' hk hg => ⟨.normal, σ', Fz', ι', trivial, hk, hg⟩
  | false =>
   refine B206 h hA fun σ1 A k1 r1 _ h1 hA1 => wpIn_region_list ?_
   exact B115 ok hrec ops.toList h1 hA1 fun σ' a' w' Fz' ι' hk _ hg => ⟨.normal, σ', Fz', ι', trivial, hk, hg⟩
 | .seq x y, R, ro, hro, σ, k, r, h, a, w, Fz, ι, hA => by
  simp only [vrun] at h
  refine wpIn_seq (wpIn_mono (B46 ok hrec x (hro.imp_right andl) σ _ r h hA) ?_)
  rintro e a' w' ⟨ex, σ', Fz', ι', he, hk, hg⟩
  cases ex <;> cases e <;> simp only [B199] at he
  ·refine wpIn_mono (B46 ok hrec y (hro.imp_right andr) σ' k r hk hg.at_) ?_
   rintro e a'' w'' ⟨ex, σ'', Fz'', ι'', he, hk, hg'⟩
   exact ⟨ex, σ'', Fz'', ι'', he, hk, (hg.trans hg').more fun t ht => by simpa [dsts] using ht⟩
  ·subst he
   exact ⟨.exit _, σ', Fz', ι', rfl, hk, hg.more fun t ht => by simp [dsts, ht]⟩
  ·exact ⟨.ret, σ', Fz', ι', trivial, hk, hg.more fun t ht => by simp [dsts, ht]⟩
 | .cond c x y, R, ro, hro, σ, k, r, h, a, w, Fz, ι, hA => by
  simp only [vrun] at h
  split at h
  ·rename_i t
   split at h
   ·rename_i b hb
    have hbr := hA.env t
    rw [hb] at hbr
    simp only [PRep] at hbr
    have hev : a.eval (.tmp t) = .bool b := by
     generalize hv : a.tmps.getD t undef = v at hbr
     cases hbr
     exact hv
    refine B206 h hA fun σ1 A k1 r1 _ h1 hA1 => wpIn_cond hev ?_
    cases b with
    | true =>
     simp only [A6] at h1 ⊢
     refine wpIn_mono (B46 ok hrec x (hro.imp_right andl) σ1 k1 r1 h1 hA1) ?_
     rintro e a' w' ⟨ex, σ', Fz', ι', he, hk, hg⟩
     exact ⟨ex, σ', Fz', ι', he, hk, hg.more fun t ht => by simp [ht]⟩
    | false =>
     simp only [A5, A4] at h1 ⊢
     refine wpIn_mono (B46 ok hrec y (hro.imp_right andr) σ1 k1 r1 h1 hA1) ?_
     rintro e a' w' ⟨ex, σ', Fz', ι', he, hk, hg⟩
     exact ⟨ex, σ', Fz', ι', he, hk, hg.more fun t ht => by simp [ht]⟩
   ·rename_i hb
    have hbr := hA.env t
    rw [hb] at hbr
    simp only [PRep] at hbr
    obtain ⟨b, hbr⟩ := hbr
    have hev : a.eval (.tmp t) = .bool b := hbr
    refine B206 h hA fun σ1 A k1 r1 _ h1 hA1 => wpIn_cond hev ?_
    obtain ⟨h2, h3⟩ := B258 h1
    cases b with
    | true =>
     simp only [A6]
     refine wpIn_mono (B46 ok hrec x (hro.imp_right andl) σ1 k1 r1 h2 hA1) ?_
     rintro e a' w' ⟨ex, σ', Fz', ι', he, hk, hg⟩
     exact ⟨ex, σ', Fz', ι', he, hk, hg.more fun t ht => by simp [ht]⟩
    | false =>
     simp only [A5, A4]
     refine wpIn_mono (B46 ok hrec y (hro.imp_right andr) σ1 k1 r1 h3 hA1) ?_
     rintro e a' w' ⟨ex, σ', Fz', ι', he, hk, hg⟩
     exact ⟨ex, σ', Fz', ι', he, hk, hg.more fun t ht => by simp [ht]⟩
   ·cases h
  ·rename_i b
   refine wpIn_cond (t := b) rfl ?_
   cases b with
   | true =>
    simp only [A6] at h ⊢
    refine wpIn_mono (B46 ok hrec x (hro.imp_right andl) σ k r h hA) ?_
    rintro e a' w' ⟨ex, σ', Fz', ι', he, hk, hg⟩
    exact ⟨ex, σ', Fz', ι', he, hk, hg.more fun t ht => by simp only [dsts, A44]; exact .inl ht⟩
   | false =>
    simp only [A5, A4] at h ⊢
    refine wpIn_mono (B46 ok hrec y (hro.imp_right andr) σ k r h hA) ?_
    rintro e a' w' ⟨ex, σ', Fz', ι', he, hk, hg⟩
    exact ⟨ex, σ', Fz', ι', he, hk, hg.more fun t ht => by simp only [dsts, A44]; exact .inr ht⟩
  ·cases h
 | .block id c, R, ro, hro, σ, k, r, h, a, w, Fz, ι, hA => by
  simp only [vrun] at h
  refine wpIn_block (wpIn_mono (B46 ok hrec c hro σ _ r h hA) ?_)
  rintro e a' w' ⟨ex, σ', Fz', ι', he, hk, hg⟩
  cases ex <;> cases e <;> simp only [B199] at he
  ·exact ⟨.normal, σ', Fz', ι', trivial, hk, hg⟩
  ·subst he
   simp only [Exit.inBlock]
   simp only at hk
   split at hk
   ·rename_i e
    have := B7 e
    subst this
    rw [A3 rfl]
    exact ⟨.normal, σ', Fz', ι', trivial, hk, hg⟩
   ·rename_i e
    rw [A7 (fun e' => by subst e'; simp at e)]
    exact ⟨.exit _, σ', Fz', ι', rfl, hk, hg⟩
  ·exact ⟨.ret, σ', Fz', ι', trivial, hk, hg⟩
 | .loop c, R, ro, hro, σ, k, r, h, a, w, Fz, ι, hA => by
  simp only [vrun] at h
  split at h
  ·split at h
   ·cases h
   ·rename_i n0 _
    let Inv : Nat -> Act -> World -> Prop := fun n a' w' => ∃ σ' Fz' ι', B132 G (fun σ _ k => vrun G rec ann N c σ k) n σ' k = some r ∧ Goes G X N (dsts c) w Fz ι σ.heap a w' Fz' ι' σ' a'
    have h0 : Inv n0 a w := ⟨σ, Fz, ι, h, ⟨.refl hA.heap hA.fram, hA.env, hA.size, hA.defers, fun _ _ => rfl⟩⟩
    refine B325 Inv h0 fun n a' w' ⟨σ1, Fz1, ι1, hit, hg1⟩ => ?_
    cases n with
    | zero => simp [B132] at hit
    | succ n =>
     simp only [B132] at hit
     refine wpIn_mono (B46 ok hrec c hro _ _ _ hit hg1.at_) ?_
     rintro e a'' w'' ⟨ex, σ', Fz2, ι2, he, hk, hg2⟩
     have hg := (hg1.trans hg2).more (ds' := dsts c) fun t ht => by simpa using ht
     cases ex <;> cases e <;> simp only [B199] at he
     ·exact ⟨n, Nat.lt_succ_self _, σ', Fz2, ι2, hk, hg⟩
     ·subst he
      exact ⟨.exit _, σ', Fz2, ι2, rfl, hk, hg.more fun t ht => by simpa [dsts] using ht⟩
     ·exact ⟨.ret, σ', Fz2, ι2, trivial, hk, hg.more fun t ht => by simpa [dsts] using ht⟩
  ·rename_i head as hann
   split at h
   ·cases h
   ·rename_i s hs
    obtain ⟨p, h1, h2⟩ := A34.1 h
    obtain ⟨n, hn⟩ := B149 h1
    have hsim := B322 (G := G) head.bs σ.heap
    have hB : HRep G.E w Fz ι (B8 head.bs σ.heap) := hA.heap.sim hsim
    have hFB : Fram G.E X w Fz ι (B8 head.bs σ.heap) := hA.fram.sim hsim
    have hEB : B23 G.E w Fz ι (B8 head.bs σ.heap) σ.env a := hA.env.mono hsim.keep
    -- the state at the head
    let Inv : Nat -> Act -> World -> Prop := fun n a' w' => ∃ s, iter (fun s => vrun G rec ann N c (rebSt head (B176 head.bs (dsts c) σ) s) fun e σ' => match e with
     | .normal => match B111 head (B8 head.bs σ.heap) σ' with
      | some s => some (.inl s)
      | none => none
     | .exit id => match B75 as (B8 head.bs σ.heap) (.exit id) σ' with
      | some p => some (.inr p)
      | none => none
     | .ret => match B75 as (B8 head.bs σ.heap) .ret σ' with
      | some p => some (.inr p)
      | none => none) n s = some p ∧ ∃ Fz' ι', Goes G X N (dsts c) w Fz ι (B8 head.bs σ.heap) a w' Fz' ι' (rebSt head (B176 head.bs (dsts c) σ) s) a'
    have hback : ∀ {a' : Act} {w' : World} {σ' : St G.E.T} {Fz' : Nat -> Prop} {ι' : Nat -> Loc} {s' : Pay G.E.T head.leaves}, B111 head (B8 head.bs σ.heap) σ' = some s' ->
      Goes G X N (dsts c) w Fz ι (B8 head.bs σ.heap) a w' Fz' ι' σ' a' -> ∃ Fz' ι', Goes G X N (dsts c) w Fz ι (B8 head.bs σ.heap) a w' Fz' ι' (rebSt head (B176 head.bs (dsts c) σ) s') a' :=
     fun hc hg => by obtain ⟨Fz'', ι'', hgo, _⟩ := B142 (σ0 := σ) hc hB hEB .refl hg; exact ⟨Fz'', ι'', hgo⟩
    have hleave : ∀ {a' : Act} {w' : World} {σ' : St G.E.T} {Fz' : Nat -> Prop} {ι' : Nat -> Loc} {ex : Ex}, B75 as (B8 head.bs σ.heap) ex σ' = some p ->
      Goes G X N (dsts c) w Fz ι (B8 head.bs σ.heap) a w' Fz' ι' σ' a' -> ∃ σ'' Fz' ι', k ex σ'' = some r ∧ Goes G X N (dsts c) w Fz ι σ.heap a w' Fz' ι' σ'' a' := fun hp hg => by
     obtain ⟨c', q, hc, hk⟩ := B228 hp h2
     obtain ⟨Fz'', ι'', hgo, _⟩ := B142 (σ0 := σ) hc hA.heap hA.env hsim hg
     exact ⟨_, Fz'', ι'', hk, hgo⟩
    have h0 : Inv n a w := ⟨s, hn, hback hs ⟨.refl hB hFB, hEB, hA.size, hA.defers.un (fun B hB => ⟨rfl, hsim.un hB⟩), fun _ _ => rfl⟩⟩
    refine B325 Inv h0 fun n a' w' ⟨s, hit, Fz1, ι1, hg1⟩ => ?_
    cases n with
    | zero => simp [iter] at hit
    | succ n =>
     simp only [iter] at hit
     split at hit
     ·rename_i s' hf
      refine wpIn_mono (B46 ok hrec c hro _ _ _ hf hg1.at_) ?_
      rintro e a'' w'' ⟨ex, σ', Fz2, ι2, he, hk, hg2⟩
      have hg := (hg1.trans hg2).more (ds' := dsts c) fun t ht => by simpa using ht
      cases ex <;> cases e <;> simp only [B199] at he
      ·simp only at hk
       split at hk
       ·rename_i s2 hc
        cases hk
        exact ⟨n, Nat.lt_succ_self _, s', hit, hback hc hg⟩
       ·cases hk
      ·simp only at hk
       split at hk <;> cases hk
      ·simp only at hk
       split at hk <;> cases hk
     ·rename_i p' hf
      cases hit
      refine wpIn_mono (B46 ok hrec c hro _ _ _ hf hg1.at_) ?_
      rintro e a'' w'' ⟨ex, σ', Fz2, ι2, he, hk, hg2⟩
      have hg := (hg1.trans hg2).more (ds' := dsts c) fun t ht => by simpa using ht
      cases ex <;> cases e <;> simp only [B199] at he
      ·simp only at hk
       split at hk <;> cases hk
      ·subst he
       simp only at hk
       split at hk
       ·rename_i p2 hc
        cases hk
        obtain ⟨σ'', Fz3, ι3, q1, q2⟩ := hleave hc hg
        exact ⟨.exit _, σ'', Fz3, ι3, rfl, q1, q2⟩
       ·cases hk
      ·simp only at hk
       split at hk
       ·rename_i p2 hc
        cases hk
        obtain ⟨σ'', Fz3, ι3, q1, q2⟩ := hleave hc hg
        exact ⟨.ret, σ'', Fz3, ι3, trivial, q1, q2⟩
       ·cases hk
     ·cases hit
 | .exit id, R, ro, hro, σ, k, r, h, a, w, Fz, ι, hA => by
  simp only [vrun] at h
  exact wpIn_exit ⟨.exit id, σ, Fz, ι, rfl, h, hA.refl⟩
 | .ret, R, ro, hro, σ, k, r, h, a, w, Fz, ι, hA => by
  simp only [vrun] at h
  exact wpIn_ret ⟨.ret, σ, Fz, ι, trivial, h, hA.refl⟩
 | .rangeFunc g ps assign body, R, ro, hro, σ, k, r, h, a, w, Fz, ι, hA => by
  have hn : ro = none := hro.resolve_right (by simp [B77])
  subst hn
  simp only [vrun] at h
  cases hl : lookN (B87 body) ann.loops with
  | none => rw [hl] at h; cases h
  | some ha =>
   obtain ⟨head, as⟩ := ha
   rw [hl] at h
   cases hg : eval σ.env g <;> rw [hg] at h <;> try (cases h; done)
   rename_i f caps
   rcases caps with _ | ⟨cap, _ | ⟨_, _⟩⟩ <;> try (cases h; done)
   simp only at h
   split at h
   ·cases h
   ·rename_i fn hfn
    split at h
    ·cases h
    ·rename_i c hc
     split at h
     ·rename_i I hI hres ha hb
      exact B762 ok hrec hfn hc hI hres (fun l A σ k r h => B46 ok hrec assign (.inr ha) σ k r h) (fun l A σ k r h => B46 ok hrec body (.inr hb) σ k r h) h hg hA
     ·cases h
 | .scope .., R, ro, hro, σ, k, r, h, _, _, _, _, _ => by simp only [vrun] at h; cases h
 | .label .., R, ro, hro, σ, k, r, h, _, _, _, _, _ => by simp only [vrun] at h; cases h
 | .goto .., R, ro, hro, σ, k, r, h, _, _, _, _, _ => by simp only [vrun] at h; cases h
 | .refuse .., R, ro, hro, σ, k, r, h, _, _, _, _, _ => by simp only [vrun] at h; cases h
end
section
variable {G : Prg} {w w' : World} {Fz Fz' : Nat -> Prop} {ι ι' : Nat -> Loc} {X : Ctx} {N : Nat}
def resOf (tmps : Array Value) : ResultVar -> Sem Value
 | .tmp t => pure (tmps.getD t undef)
 | .cell a t => do loadVar t (← asAddr (tmps.getD a undef))
theorem B863 (fn : Func) (tmps : Array Value) {us : List Value} (h : (fn.results.toList.mapM (resOf tmps)).run G.P w = .ok us w) : (results fn tmps).run G.P w = .ok (retV us) w := by
 have h1 : (fn.results.mapM (resOf tmps)).run G.P w = .ok us.toArray w := by
  rw [Array.mapM_eq_mapM_toList, Sem.run_map, h]; rfl
 have h2 : results fn tmps = (do
   let vs ← fn.results.mapM (resOf tmps)
   pure (if h : vs.size = 1 then vs[0] else .tuple vs)) := rfl
 rw [h2, Sem.run_bind, h1]
 simp only [Result.andThen_ok, Sem.run_pure]
 rcases us with _ | ⟨u, _ | ⟨v, us⟩⟩
 ·rfl
 ·rfl
 ·simp [retV]
theorem B224 (ok : PrgOk G) {σ : St G.E.T} {a : Act} (hH : HRep G.E w Fz ι σ.heap) (hE : B23 G.E w Fz ι σ.heap σ.env a) : ∀ {l : List ResultVar} {vs : List (PV G.E.T)}, B188 G σ l = some vs ->
  ∃ us, (l.mapM (resOf a.tmps)).run G.P w = .ok us w ∧ PReps G.E w Fz ι σ.heap vs us
 | [], vs, h => by
  simp only [B188] at h; cases h
  exact ⟨[], by simp, by simp [PReps]⟩
 | .tmp t :: l, vs, h => by
  simp only [B188] at h
  split at h
  ·rename_i r hr
   cases h
   obtain ⟨us, h1, h2⟩ := B224 ok hH hE hr
   refine ⟨a.tmps.getD t undef :: us, ?_, by simp only [PReps]; exact ⟨hE t, h2⟩⟩
   rw [List.mapM_cons]
   simp only [resOf, Sem.run_bind, Sem.run_pure, Result.andThen_ok, h1]
  ·cases h
 | .cell c t :: l, vs, h => by
  simp only [B188] at h
  split at h
  ·rename_i v hv
   split at h
   ·rename_i r hr
    cases h
    obtain ⟨us, h1, h2⟩ := B224 ok hH hE hr
    obtain ⟨p, u, g1, g2, g3⟩ := B483 ok.env hv hH (hE c)
    cases g1
    refine ⟨u :: us, ?_, by simp only [PReps]; exact ⟨g3, h2⟩⟩
    rw [List.mapM_cons]
    have g2' : (resOf a.tmps (.cell c t)).run G.P w = .ok u w := by
     simp only [resOf]
     generalize a.tmps.getD c undef = x at g2
     simp only [Instr.loadAt, Sem.run_bind] at g2
     cases x with
     | pointer A =>
      cases A with
      | none => simp [Instr.sureAddr, stuck] at g2
      | some A => simpa [asAddr, Instr.sureAddr] using g2
     | _ => simp [Instr.sureAddr, stuck] at g2
    simp only [Sem.run_bind, g2', Sem.run_pure, Result.andThen_ok, h1]
   ·cases h
  ·cases h
theorem B398 {E : Env} {H : List (Blk E.T)} {tmps : Array Value} : ∀ (n : Nat) (vs : List (PV E.T)) (us : List Value), PReps E w Fz ι H vs us -> (∀ i u, us[i]? = some u -> tmps[n + i]? = some u) ->
  ∀ t, PRep E w Fz ι H (look t (B152 n vs)) (tmps.getD t undef)
 | n, [], us, h, ht, t => by simp [B152, look, PRep]
 | n, v :: vs, [], h, ht, t => by simp [PReps] at h
 | n, v :: vs, u :: us, h, ht, t => by
  simp only [PReps] at h
  simp only [B152, look]
  split
  ·rename_i e
   have := B7 e
   subst this
   have := ht 0 u rfl
   rw [A47, show t = t + 0 from rfl, this]
   exact h.1
  ·exact B398 (n + 1) vs us h.2 (fun i u hi => by have := ht (i + 1) u hi; rwa [show n + (i + 1) = n + 1 + i by omega] at this) t
theorem B736 {T : Nat -> Type} : ∀ {a : Way} {l : List Way} {base heap : List (Blk T)} {vs : List (PV T)} {q : OutT T a l}, B565 a l base vs heap = some q ->
  ∃ L cs, B51 (B243 a l q).1.1 vs (B243 a l q).1.2 base heap = some (L, cs) ∧ (B243 a l q).2 = L := by
 have one : ∀ {a : Way} {base heap : List (Blk T)} {vs : List (PV T)} {q : Pay T a.leaves}, B450 a base vs heap = some q -> ∃ L cs, B51 a.1 vs a.2 base heap = some (L, cs) ∧ toL a.leaves q = L := by
  intro a base heap vs q h
  unfold B450 at h
  split at h
  ·cases h
  ·rename_i L cs hc
   split at h
   ·exact ⟨L, cs, hc, B602 h⟩
   ·cases h
 intro a l
 induction l generalizing a with
 | nil => intro base heap vs q h; exact one h
 | cons b l ih =>
  intro base heap vs q h
  simp only [B565] at h
  split at h
  ·rename_i q' hq; cases h; exact one hq
  ·split at h
   ·rename_i q' hq; cases h; exact ih hq
   ·cases h
def Ctx.from_ (X : Ctx) (w : World) (Fz : Nat -> Prop) : Ctx := ⟨w, fun B => X.O B ∨ X.w0.heap.size <= B, Fz⟩
theorem Fram.from_ {E : Env} {H : List (Blk E.T)} (h : Fram E X w Fz ι H) : Fram E (X.from_ w Fz) w Fz ι H :=
 ⟨rfl, rfl, rfl, A11 _, fun _ _ _ => rfl, fun id b A h1 h2 h3 => .inl (h.own id b A h1 h2 h3), fun B hB => .inl hB⟩
theorem Step.to_ {E : Env} {H H' : List (Blk E.T)} (h : Step E (X.from_ w Fz) w w' Fz Fz' ι ι' H H') (f : Fram E X w Fz ι H) : Step E X w w' Fz Fz' ι ι' H H' := by
 have g := h.fram
 have hsz : w.heap.size <= w'.heap.size := g.size
 refine ⟨h.keep, h.still, h.heap, ⟨g.os.trans f.os, g.tape.trans f.tape, g.output.trans f.output, A80 f.size hsz, fun B hB hO => ?_, fun id b A h1 h2 h3 => ?_, fun B hB => ?_⟩, h.un⟩
 ·have hlt : B < w.heap.size := A75 hB f.size
  rw [g.block B hlt fun e => ?_]
  ·exact f.block B hB hO
  ·rcases e with e | e
   ·exact hO e
   ·have : X.w0.heap.size <= B := e
    omega
 ·rcases g.own id b A h1 h2 h3 with (e | e) | e
  ·exact .inl e
  ·exact .inr e
  ·exact .inr (A80 f.size e)
 ·rcases g.fz B hB with e | (e | e) | e
  ·exact f.fz B e
  ·exact .inr (.inl e)
  ·exact .inr (.inr e)
  ·exact .inr (.inr (A80 f.size e))
theorem B422 {fn : Func} {R : Ending -> World -> Prop} {a : Act} {H : List (Blk G.E.T)} {σ : St G.E.T} : ∀ (Ds : List Nat) {w' : World}, Ds.Nodup -> Step G.E X w w' Fz Fz' ι ι' H σ.heap -> B23 G.E w' Fz' ι' σ.heap σ.env a ->
  (∀ D, D ∈ Ds -> (X.from_ w Fz).w0.heap.size <= D ∧ Un w' Fz' ι' σ.heap D ∧ w'.heap[D]? = some (.deferred (some []))) ->
  (∀ w2, Step G.E X w w2 Fz Fz' ι ι' H σ.heap -> B23 G.E w2 Fz' ι' σ.heap σ.env a -> ∃ v, (results fn a.tmps).run G.P w2 = .ok v w2 ∧ R (.returned v) w2) ->
  (hX : X.w0.heap.size <= w.heap.size) -> (hH : HRep G.E w Fz ι H) -> LeavesInM Fence.wide 0 G.P fn a.tmps R (Ds.map B555) .returning w'
 | [], w', _, hs, he, _, k, _, _ => k w' hs he
 | D :: Ds, w', hnd, hs, he, hD, k, hX, hH => by
  obtain ⟨h1, h2⟩ := List.nodup_cons.1 hnd
  obtain ⟨g1, g2, g3⟩ := hD D (A23 ..)
  have g1 : w.heap.size <= D := g1
  have hs' : Step G.E X w (w'.putObj D (.deferred none)) Fz Fz' ι ι' H σ.heap := hs.turn g2 g1 (by omega) hH.fz fun id b A hb hg hA => (hH.rep id b hb).lt hg hA
  refine ⟨by simp, .inl ⟨D, _, rfl, run_takeDeferred g3, B422 Ds h2 hs' (he.mono (Keep.turn g2)) (fun D' hD' => ?_) k hX hH⟩⟩
  obtain ⟨q1, q2, q3⟩ := hD D' (A29 _ hD')
  exact ⟨q1, q2.turn, by rw [World.putObj_heap_other (show D' ≠ D from fun e => h1 (by rw [← e]; exact hD'))]; exact q3⟩
theorem B795 (ok : PrgOk G) {rec : Rec G} (hrec : Spec G rec) : Spec G (vbody G rec) := by
 intro i p q h
 unfold vbody at h
 split at h
 ·cases h
 ·rename_i fn hfn
  split at h
  ·cases h
  ·rename_i c hbody
   refine ⟨⟨fn, hfn, by rw [hbody]; rfl⟩, fun X w Fz ι args hH hF hV => ?_⟩
   refine callsIn_wide.1 (callsIn_of_wp_marks (F := Fence.wide) (n := 0) hfn hbody trivial ?_)
   have hst : B266 G (G.F i).sig p = ⟨B152 0 (inV G i p), inH G i p⟩ := rfl
   rw [hst] at h
   have hA : At G (X.from_ w Fz) fn.ntmps w Fz ι ⟨B152 0 (inV G i p), inH G i p⟩ { tmps := args.toArray ++ Array.replicate (fn.ntmps - args.toArray.size) undef, defers := [] } := by
    refine ⟨hH, hF.from_, B398 0 _ args hV fun j u hj => ?_, by simp; omega, .nil⟩
    rw [A22, A114 (by simpa using (A42.1 hj).1)]
    simpa using hj
   refine wpIn_mono (B46 (ro := none) ok hrec c (.inl rfl) _ _ q h hA) ?_
   rintro e a' w' ⟨ex, σ', Fz', ι', he, hk, hg⟩
   have fin : B338 G (G.F i).sig (inH G i p) fn.results.toList σ' = some q -> LeavesInM Fence.wide 0 G.P fn a'.tmps (fun e w' =>
     ∃ vs Fz' ι', e = .returned (retV vs) ∧ Step G.E X w w' Fz Fz' ι ι' (inH G i p) (outH G i p q) ∧ PReps G.E w' Fz' ι' (outH G i p q) (outV G i p q) vs ∧ (inH G i p).length <= (outW q).1.2.length) a'.defers .returning w' := by
    intro hf
    unfold B338 at hf
    split at hf
    ·rename_i vs hvs
     obtain ⟨l, cs, hcast, hl⟩ := B736 hf
     change B51 (outW q).1.1 vs (outW q).1.2 _ _ = _ at hcast
     change (outW q).2 = l at hl
     obtain ⟨Ds, hds, hnd, hD⟩ := hg.defers
     rw [hds]
     refine B422 Ds hnd (hg.step.to_ hF) hg.env hD (fun w2 hst henv => ?_) hF.size hH
     ·obtain ⟨us, h1, h2⟩ := B224 ok hst.heap henv hvs
      obtain ⟨s1, s2, _⟩ := B695 hst hH .refl hcast
      refine ⟨_, B863 fn _ h1, us, B34 Fz' ι' cs.lent, bindι ι' cs, rfl, ?_, ?_, (B362 (ρ := ρcut (inH G i p) (outW q).1.2) (Fz' := Fz') (ι' := ι') (H' := []) hst.heap hcast).1.le⟩
      ·unfold outH; rw [hl]; exact s1
      ·unfold outH outV; rw [hl]; exact s2.reps h2
    ·cases hf
   cases ex <;> cases e <;> simp only [B199] at he
   ·exact fin hk
   ·cases hk
   ·exact fin hk
theorem B502 (ok : PrgOk G) : ∀ n, Spec G (vcall G n)
 | 0 => fun i p q h => by simp [vcall] at h
 | n + 1 => B795 ok (B502 ok n)
theorem B254 {i : Nat} {p : Pay G.E.T (G.F i).sig.ins} {q : (G.F i).sig.Out G.E.T} (h : call G i p = some q) : ∃ n, vcall G n i p = some q := by
 unfold call at h
 split at h
 ·exact ⟨_, h⟩
 ·cases h
theorem B832 (ok : PrgOk G) : Spec G (call G) := fun i p q h => by
 obtain ⟨n, hn⟩ := B254 h
 exact B502 ok n i p q hn
end
section
variable {G : Prg} {R : Type} {r : R}
def Ev (P : Nat -> Prop) : Prop := ∃ n, ∀ m, n <= m -> P m
theorem Ev.all {P : Nat -> Prop} (h : ∀ m, P m) : Ev P := ⟨0, fun m _ => h m⟩
theorem Ev.and {P Q R : Nat -> Prop} (h : Ev P) (g : Ev Q) (hr : ∀ m, P m -> Q m -> R m) : Ev R := by
 obtain ⟨n, hn⟩ := h
 obtain ⟨m, hm⟩ := g
 exact ⟨max n m, fun k hk => hr k (hn k (by omega)) (hm k (by omega))⟩
theorem Ev.imp {P Q : Nat -> Prop} (h : Ev P) (hr : ∀ m, P m -> Q m) : Ev Q := by
 obtain ⟨n, hn⟩ := h
 exact ⟨n, fun k hk => hr k (hn k hk)⟩
variable {recI : Rec G} {recs : Nat -> Rec G} {N : Nat}
def RecEv (recI : Rec G) (recs : Nat -> Rec G) : Prop := ∀ i p q, recI i p = some q -> Ev fun m => recs m i p = some q
theorem B966 (hrec : RecEv recI recs) {i : Nat} {H : List (Blk G.E.T)} {args : List (PV G.E.T)} {y : PV G.E.T × List (Blk G.E.T)} (h : callV G recI i H args PK = some y) : Ev fun m => callV G (recs m) i H args PK = some y := by
 unfold callV at h
 split at h
 ·cases h
 ·cases h
 ·rename_i a cs h1 h2
  split at h
  ·cases h
  ·rename_i p hp
   split at h
   ·cases h
   ·rename_i heap' hh
    obtain ⟨q, hq, hK⟩ := A34.1 h
    refine (hrec i p q hq).imp fun m hm => ?_
    unfold callV
    rw [h1, h2]
    simp only
    rw [hp]
    simp only
    rw [hh]
    simp only
    exact A34.2 ⟨q, hm, hK⟩
theorem B945 (hrec : RecEv recI recs) {ann : Ann} {pl : Option Nat} {o : Oper} {σ : St G.E.T} {KI : PV G.E.T -> List (Blk G.E.T) -> Option R} {Ks : Nat -> PV G.E.T -> List (Blk G.E.T) -> Option R}
  (hK : ∀ p h, KI p h = some r -> Ev fun m => Ks m p h = some r) (h : vop G recI ann pl o σ KI = some r) : Ev fun m => vop G (recs m) ann pl o σ (Ks m) = some r := by
 rw [vop_k] at h
 obtain ⟨y, h1, h2⟩ := A34.1 h
 have : Ev fun m => vop G (recs m) ann pl o σ PK = some y := by
  cases hc : B283 o with
  | false =>
   refine .all fun m => ?_
   rw [← h1]
   obtain ⟨dst, op, type, pos, after, guard⟩ := o
   cases op
   case call c =>
    obtain ⟨callee, args, argTypes⟩ := c
    cases callee
    case value => simp [B283] at hc
    case builtin b => cases b <;> simp only [vop]
    case invoke => simp only [vop]
   case makeFunc fn first captured => cases fn <;> simp only [vop]
   case makeMap t res => cases res <;> simp only [vop]
   all_goals simp only [vop]
  | true =>
   obtain ⟨dst, op, type, pos, after, guard⟩ := o
   cases op <;> simp only [B283] at hc <;> try (cases hc; done)
   rename_i c
   obtain ⟨callee, args, argTypes⟩ := c
   cases callee <;> simp only at hc <;> try (cases hc; done)
   simp only [vop] at h1
   split at h1
   ·rename_i e1
    split at h1
    ·rename_i e2
     split at h1
     ·rename_i e3
      refine (B966 hrec h1).imp fun m hm => ?_
      simp only [vop]
      rw [e1]
      simp only
      rw [e2]
      simp only
      rw [e3]
      exact hm
     ·cases h1
    ·rename_i e2
     refine .all fun m => ?_
     simp only [vop]
     rw [e1]
     simp only
     rw [e2]
     exact h1
   ·cases h1
 exact this.and (hK y.1 y.2 h2) fun m a b => by rw [vop_k, a]; exact b
theorem B194 (hrec : RecEv recI recs) {ann : Ann} {ops : List Oper} : ∀ {rest : List Oper} {σ : St G.E.T} {kI : St G.E.T -> Option R} {ks : Nat -> St G.E.T -> Option R},
  (∀ σ, kI σ = some r -> Ev fun m => ks m σ = some r) -> vops G recI ann N ops rest σ kI = some r -> Ev fun m => vops G (recs m) ann N ops rest σ (ks m) = some r
 | [], σ, kI, ks, hk, h => by
  simp only [vops] at h ⊢
  exact hk σ h
 | o :: rest, σ, kI, ks, hk, h => by
  have go : ∀ {σ0 : St G.E.T} {env0 : List (Nat × PV G.E.T)}, (vop G recI ann none o σ0 fun v h => match V.put N o.dst v env0 with
     | some env => vops G recI ann N ops rest ⟨env, h⟩ kI
     | none => none) = some r -> Ev fun m => (vop G (recs m) ann none o σ0 fun v h => match V.put N o.dst v env0 with
     | some env => vops G (recs m) ann N ops rest ⟨env, h⟩ (ks m)
     | none => none) = some r := fun h => B945 hrec (fun p h' hh => by
    split at hh
    ·rename_i e1
     refine (B194 hrec hk hh).imp fun m hm => ?_
     first | exact hm | (rw [e1]; exact hm)
    ·cases hh) h
  have skip : ∀ {env0 : List (Nat × PV G.E.T)}, (match V.put N o.dst (.tup []) env0 with
     | some env => vops G recI ann N ops rest ⟨env, σ.heap⟩ kI
     | none => none) = some r -> Ev fun m => (match V.put N o.dst (.tup []) env0 with
     | some env => vops G (recs m) ann N ops rest ⟨env, σ.heap⟩ (ks m)
     | none => none) = some r := fun hh => by
    split at hh
    ·rename_i e1
     refine (B194 hrec hk hh).imp fun m hm => ?_
     first | exact hm | (rw [e1]; exact hm)
    ·cases hh
  simp only [vops] at h
  split at h
  ·rename_i e1
   refine (go h).imp fun m hm => ?_
   simp only [vops]
   rw [e1]; exact hm
  ·rename_i j want e1
   split at h
   ·cases h
   ·rename_i g e2
    split at h
    ·rename_i b e3
     cases b with
     | true =>
      simp only [A6] at h
      cases want
      ·refine (skip h).imp fun m hm => ?_
       simp only [vops]; rw [e1]; simp only; rw [e2]; simp only; rw [e3]; exact hm
      ·refine (go h).imp fun m hm => ?_
       simp only [vops]; rw [e1]; simp only; rw [e2]; simp only; rw [e3]; exact hm
     | false =>
      simp only [A5, A4] at h
      cases want
      ·refine (go h).imp fun m hm => ?_
       simp only [vops]; rw [e1]; simp only; rw [e2]; simp only; rw [e3]; exact hm
      ·refine (skip h).imp fun m hm => ?_
       simp only [vops]; rw [e1]; simp only; rw [e2]; simp only; rw [e3]; exact hm
    ·rename_i l e3
     split at h
     ·refine (skip h).imp fun m hm => ?_
      simp only [vops]; rw [e1]; simp only; rw [e2]; simp only; rw [e3]; exact hm
     ·cases h
    ·cases h
theorem B523 (hrec : RecEv recI recs) {ann : Ann} {base m0 : Nat} {ops : List Oper} {anc : List Nat} : ∀ {rest : List Oper} {i : Nat} {tr : List (Nat × Kind)} {σ : St G.E.T} {kI : St G.E.T -> Option R} {ks : Nat -> St G.E.T -> Option R},
  (∀ σ, kI σ = some r -> Ev fun m => ks m σ = some r) -> vdraw G recI ann base m0 N ops anc i rest tr σ kI = some r -> Ev fun m => vdraw G (recs m) ann base m0 N ops anc i rest tr σ (ks m) = some r
 | [], i, tr, σ, kI, ks, hk, h => by
  simp only [vdraw] at h ⊢
  split at h
  ·rename_i e eb
   refine (hk σ h).imp fun m hm => ?_
   first | exact hm | (rw [e, eb]; exact hm)
  ·cases h
 | o :: rest, i, tr, σ, kI, ks, hk, h => by
  have go : ∀ {σ0 : St G.E.T} {env0 : List (Nat × PV G.E.T)} {κ : Kind}, (vop G recI ann (plOf ann base m0 o) o σ0 fun v h => match V.put N o.dst v env0 with
     | some env => vdraw G recI ann base m0 N ops anc (i + 1) rest ((i, κ) :: tr) ⟨env, h⟩ kI
     | none => none) = some r -> Ev fun m => (vop G (recs m) ann (plOf ann base m0 o) o σ0 fun v h => match V.put N o.dst v env0 with
     | some env => vdraw G (recs m) ann base m0 N ops anc (i + 1) rest ((i, κ) :: tr) ⟨env, h⟩ (ks m)
     | none => none) = some r := fun h => B945 hrec (fun p h' hh => by
    split at hh
    ·rename_i e1
     refine (B523 hrec hk hh).imp fun m hm => ?_
     first | exact hm | (rw [e1]; exact hm)
    ·cases hh) h
  have skip : ∀ {env0 : List (Nat × PV G.E.T)}, (match V.put N o.dst (.tup []) env0 with
     | some env => vdraw G recI ann base m0 N ops anc (i + 1) rest ((i, .pure []) :: tr) ⟨env, σ.heap⟩ kI
     | none => none) = some r -> Ev fun m => (match V.put N o.dst (.tup []) env0 with
     | some env => vdraw G (recs m) ann base m0 N ops anc (i + 1) rest ((i, .pure []) :: tr) ⟨env, σ.heap⟩ (ks m)
     | none => none) = some r := fun hh => by
    split at hh
    ·rename_i e1
     refine (B523 hrec hk hh).imp fun m hm => ?_
     first | exact hm | (rw [e1]; exact hm)
    ·cases hh
  simp only [vdraw] at h
  split at h
  ·cases h
  ·rename_i eb e1
   split at h
   ·cases h
   ·rename_i κ e0
    refine (go h).imp fun m hm => ?_
    simp only [vdraw]
    rw [eb, e1]; simp only; rw [e0]; exact hm
  ·rename_i j want eb e1
   split at h
   ·cases h
   ·rename_i g e2
    split at h
    ·rename_i b e3
     cases b with
     | true =>
      simp only [A6] at h
      cases want
      ·refine (skip h).imp fun m hm => ?_
       simp only [vdraw]; rw [eb, e1]; simp only; rw [e2]; simp only; rw [e3]; exact hm
      ·simp only at h
       split at h
       ·cases h
       ·rename_i κ e0
        refine (go h).imp fun m hm => ?_
        simp only [vdraw]; rw [eb, e1]; simp only; rw [e2]; simp only; rw [e3]; simp only [A6]; rw [e0]; exact hm
     | false =>
      simp only [A5, A4] at h
      cases want
      ·simp only at h
       split at h
       ·cases h
       ·rename_i κ e0
        refine (go h).imp fun m hm => ?_
        simp only [vdraw]; rw [eb, e1]; simp only; rw [e2]; simp only; rw [e3]; simp only [A5, A4]; rw [e0]; exact hm
      ·refine (skip h).imp fun m hm => ?_
       simp only [vdraw]; rw [eb, e1]; simp only; rw [e2]; simp only; rw [e3]; exact hm
    ·rename_i l e3
     split at h
     ·refine (skip h).imp fun m hm => ?_
      simp only [vdraw]; rw [eb, e1]; simp only; rw [e2]; simp only; rw [e3]; exact hm
     ·cases h
    ·cases h
theorem B659 (hrec : RecEv recI recs) {ann : Ann} {id : Nat} {ops : List Oper} {σ : St G.E.T} {kI : St G.E.T -> Option R} {ks : Nat -> St G.E.T -> Option R}
  (hk : ∀ σ, kI σ = some r -> Ev fun m => ks m σ = some r) (h : B247 G recI ann id N ops σ kI = some r) : Ev fun m => B247 G (recs m) ann id N ops σ (ks m) = some r := by
 unfold B247 at h
 split at h
 ·rename_i anc ea
  split at h
  ·rename_i e5
   refine (B523 hrec hk h).imp fun m hm => ?_
   unfold B247
   rw [ea]
   simp only
   rw [e5]
   exact hm
  ·cases h
 ·cases h
theorem B947 (hrec : RecEv recI recs) {ann : Ann} {id : Nat} {ops : List Oper} {hs : List Nat} {σ : St G.E.T} {kI : St G.E.T -> Option R} {ks : Nat -> St G.E.T -> Option R}
  (hk : ∀ σ, kI σ = some r -> Ev fun m => ks m σ = some r) {L : List Nat} (h : B294 G recI ann id N ops hs σ kI L = some r) : Ev fun m => B294 G (recs m) ann id N ops hs σ (ks m) L = some r := by
 unfold B294 at h
 split at h
 ·rename_i ops' e1 e2 e3
  split at h
  ·rename_i e4
   refine (B659 hrec hk h).imp fun m hm => ?_
   unfold B294
   rw [e1, e2, e3]
   simp only
   rw [e4]
   exact hm
  ·cases h
 ·cases h
theorem B619 {fI : List Nat -> Option R} {fs : Nat -> List Nat -> Option R} (hf : ∀ L, fI L = some r -> Ev fun m => fs m L = some r) : ∀ {Ls : List (List Nat)}, B144 fI Ls = some r -> Ev fun m => B144 (fs m) Ls = some r
 | [], h => by cases h
 | [L], h => by simp only [B144] at h ⊢; exact hf L h
 | L :: M :: l, h => by
  simp only [B144] at h
  obtain ⟨h1, h2⟩ := B258 h
  refine (hf L h1).and (B619 hf (Ls := M :: l) h2) fun m g1 g2 => ?_
  simp only [B144]
  rw [g1]
  simp only [B144] at g2
  rw [g2]; exact B129 _
theorem B873 (hrec : RecEv recI recs) {ann : Ann} {id : Nat} {ops : List Oper} {σ : St G.E.T} {kI : St G.E.T -> Option R} {ks : Nat -> St G.E.T -> Option R}
  (hk : ∀ σ, kI σ = some r -> Ev fun m => ks m σ = some r) (h : B195 G recI ann id N ops σ kI = some r) : Ev fun m => B195 G (recs m) ann id N ops σ (ks m) = some r := by
 unfold B195 at h
 split at h
 ·rename_i e1 e2 e3
  split at h
  ·rename_i e4
   refine (B659 hrec hk h).imp fun m hm => ?_
   unfold B195
   rw [e1, e2, e3]
   simp only
   rw [e4]
   exact hm
  ·rename_i hs Ls e4
   split at h
   ·cases h
   ·rename_i anc e5
    split at h
    ·rename_i e6 e7
     refine (B619 (fun L hL => B947 hrec hk hL) h).imp fun m hm => ?_
     unfold B195
     rw [e1, e2, e3]
     simp only
     rw [e4]
     simp only
     rw [e5]
     simp only
     rw [e6, e7]
     exact hm
    ·cases h
 ·cases h
theorem B418 {kI : Ex -> St G.E.T -> Option R} {ks : Nat -> Ex -> St G.E.T -> Option R} (hk : ∀ e σ, kI e σ = some r -> Ev fun m => ks m e σ = some r) {base : St G.E.T} :
  ∀ (as : List (Ex × Cut)) (p : AltT G.E.T as), B279 as base p kI = some r -> Ev fun m => B279 as base p (ks m) = some r := by
 intro as
 induction as with
 | nil => exact fun p => p.elim
 | cons a as ih =>
  obtain ⟨e, c⟩ := a
  cases as with
  | nil => exact fun p h => hk _ _ h
  | cons b as =>
   intro p h
   cases p with
   | inl p => exact hk _ _ h
   | inr p => exact ih p h
theorem B302 {as : Option (List (Ex × Cut))} {ds : List Nat} {σ : St G.E.T} {runI : St G.E.T -> {A : Type} -> (Ex -> St G.E.T -> Option A) -> Option A} {runs : Nat -> St G.E.T -> {A : Type} -> (Ex -> St G.E.T -> Option A) -> Option A}
  {kI : Ex -> St G.E.T -> Option R} {ks : Nat -> Ex -> St G.E.T -> Option R} (hk : ∀ e σ, kI e σ = some r -> Ev fun m => ks m e σ = some r)
  (hrun : ∀ (σ : St G.E.T) {A : Type} (kI : Ex -> St G.E.T -> Option A) (ks : Nat -> Ex -> St G.E.T -> Option A) (x : A), (∀ e σ, kI e σ = some x -> Ev fun m => ks m e σ = some x) -> runI σ kI = some x -> Ev fun m => runs m σ (ks m) = some x)
  (h : B205 G as ds σ runI kI = some r) : Ev fun m => B205 G as ds σ (runs m) (ks m) = some r := by
 unfold B205 at h ⊢
 split at h
 ·exact hrun σ kI ks r hk h
 ·rename_i as
  obtain ⟨p, h1, h2⟩ := A34.1 h
  exact (hrun _ _ (fun _ => B75 as (B8 (B339 as) σ.heap)) p (fun e σ he => .all fun _ => he) h1).and (B418 hk as p h2) fun m a b =>
   A34.2 ⟨p, a, b⟩
theorem B807 {S A : Type} {fI : S -> Option (S ⊕ A)} {fs : Nat -> S -> Option (S ⊕ A)} (hf : ∀ s y, fI s = some y -> Ev fun m => fs m s = some y) : ∀ {n : Nat} {s : S} {a : A}, iter fI n s = some a -> Ev fun m => iter (fs m) n s = some a
 | 0, s, a, h => by simp [iter] at h
 | n + 1, s, a, h => by
  simp only [iter] at h
  split at h
  ·rename_i s' e
   exact (hf s _ e).and (B807 hf h) fun m a b => by simp only [iter]; rw [a]; exact b
  ·rename_i a' e
   exact (hf s _ e).imp fun m a => by simp only [iter]; rw [a]; exact h
  ·cases h
theorem B813 {S A : Type} {fI : S -> Option (S ⊕ A)} {fs : Nat -> S -> Option (S ⊕ A)} (hf : ∀ s y, fI s = some y -> Ev fun m => fs m s = some y) {s : S} {a : A} (h : loop fI s = some a) : Ev fun m => loop (fs m) s = some a := by
 obtain ⟨n, hn⟩ := B149 h
 exact (B807 hf hn).imp fun m hm => B151 hm
theorem B500 {runI : St G.E.T -> {A : Type} -> (Ex -> St G.E.T -> Option A) -> Option A} {runs : Nat -> St G.E.T -> {A : Type} -> (Ex -> St G.E.T -> Option A) -> Option A} {r : R}
  (hrun : ∀ (σ : St G.E.T) (kI : Ex -> St G.E.T -> Option R) (ks : Nat -> Ex -> St G.E.T -> Option R), (∀ e σ, kI e σ = some r -> Ev fun m => ks m e σ = some r) -> runI σ kI = some r -> Ev fun m => runs m σ (ks m) = some r)
  {kI : Ex -> St G.E.T -> Option R} {ks : Nat -> Ex -> St G.E.T -> Option R} (hk : ∀ e σ, kI e σ = some r -> Ev fun m => ks m e σ = some r) :
  ∀ (n : Nat) (σ : St G.E.T), B132 G runI n σ kI = some r -> Ev fun m => B132 G (runs m) n σ (ks m) = some r
 | 0, σ, h => by simp [B132] at h
 | n + 1, σ, h => by
  simp only [B132] at h ⊢
  refine hrun σ _ _ (fun e σ' he => ?_) h
  cases e with
  | normal => exact B500 hrun hk n σ' he
  | exit id => exact hk _ _ he
  | ret => exact hk _ _ he
theorem B949 (hrec : RecEv recI recs) {N' : Nat} {I : It} {head : Cut} {as : List (Ex × Cut)} {cap : PV G.E.T} {ps : List Nat} {σ : St G.E.T} {runI : St G.E.T -> {A : Type} -> (Ex -> St G.E.T -> Option A) -> Option A} {runs : Nat -> St G.E.T -> {A : Type} -> (Ex -> St G.E.T -> Option A) -> Option A}
  (hrun : ∀ (σ : St G.E.T) {A : Type} (kI : Ex -> St G.E.T -> Option A) (ks : Nat -> Ex -> St G.E.T -> Option A) (x : A), (∀ e σ, kI e σ = some x -> Ev fun m => ks m e σ = some x) -> runI σ kI = some x -> Ev fun m => runs m σ (ks m) = some x)
  {s : Pay G.E.T head.leaves} {y : Pay G.E.T head.leaves ⊕ AltT G.E.T as} (h : B211 G recI N' I head as cap ps N σ runI s = some y) : Ev fun m => B211 G (recs m) N' I head as cap ps N σ (runs m) s = some y := by
 unfold B211 at h ⊢
 refine B194 hrec (fun σ1 h1 => ?_) h
 split at h1
 ·rename_i c e
  try simp only [e]
  cases c with
  | false => simp only [A5, A4] at h1 ⊢; exact .all fun _ => h1
  | true =>
   simp only [A6] at h1 ⊢
   split at h1
   ·cases h1
   rename_i env e2
   try simp only [e2]
   refine B194 hrec (fun σ2 h2 => ?_) h1
   split at h2
   ·rename_i p q u v e4
    try simp only [e4]
    split at h2
    ·cases h2
    rename_i envp e5
    try simp only [e5]
    split at h2
    ·cases h2
    rename_i envq e6
    try simp only [e6]
    refine hrun _ _ _ y (fun e σ3 h3 => ?_) h2
    try simp only at h3
    split at h3
    ·cases h3
    rename_i env7 e7
    try simp only [e7]
    refine B194 hrec (fun σ4 h4 => ?_) h3
    split at h4
    ·rename_i d e8
     try simp only [e8]
     cases e with
     | normal =>
      try simp only at h4 ⊢
      cases d with
      | true => simp at h4
      | false =>
       simp only [A5, A4] at h4 ⊢
       exact B194 hrec (fun σ5 h5 => .all fun _ => h5) h4
     | exit id => exact .all fun _ => h4
     | ret => exact .all fun _ => h4
    ·cases h4
   ·cases h2
 ·cases h1
theorem B948 (hrec : RecEv recI recs) {N' : Nat} {I : It} {head : Cut} {as : List (Ex × Cut)} {cap : PV G.E.T} {ps : List Nat} {σ : St G.E.T} {runI : St G.E.T -> {A : Type} -> (Ex -> St G.E.T -> Option A) -> Option A} {runs : Nat -> St G.E.T -> {A : Type} -> (Ex -> St G.E.T -> Option A) -> Option A}
  (hrun : ∀ (σ : St G.E.T) {A : Type} (kI : Ex -> St G.E.T -> Option A) (ks : Nat -> Ex -> St G.E.T -> Option A) (x : A), (∀ e σ, kI e σ = some x -> Ev fun m => ks m e σ = some x) -> runI σ kI = some x -> Ev fun m => runs m σ (ks m) = some x)
  {kI : Ex -> St G.E.T -> Option R} {ks : Nat -> Ex -> St G.E.T -> Option R} (hk : ∀ e σ, kI e σ = some r -> Ev fun m => ks m e σ = some r) (h : B360 G recI N' I head as cap ps N σ runI kI = some r) :
  Ev fun m => B360 G (recs m) N' I head as cap ps N σ (runs m) (ks m) = some r := by
 unfold B360 at h ⊢
 refine B194 hrec (fun σ0 h0 => ?_) h
 split at h0
 ·cases h0
 rename_i s e
 try simp only [e]
 obtain ⟨p, h1, h2⟩ := A34.1 h0
 exact (B813 (fs := fun m => B211 G (recs m) N' I head as cap ps N σ (runs m)) (fun s y hy => B949 hrec hrun hy) h1).and (B418 hk as p h2) fun m a b => A34.2 ⟨p, a, b⟩
theorem B96 (hrec : RecEv recI recs) {ann : Ann} : ∀ (c : Code) {R : Type} (σ : St G.E.T) (kI : Ex -> St G.E.T -> Option R) (ks : Nat -> Ex -> St G.E.T -> Option R) (r : R),
  (∀ e σ, kI e σ = some r -> Ev fun m => ks m e σ = some r) -> vrun G recI ann N c σ kI = some r -> Ev fun m => vrun G (recs m) ann N c σ (ks m) = some r
 | .skip, R, σ, kI, ks, r, hk, h => by simp only [vrun] at h ⊢; exact hk _ _ h
 | .region id ops draw, R, σ, kI, ks, r, hk, h => by
  simp only [vrun] at h ⊢
  cases draw with
  | true => exact B302 hk (fun σ A kI ks x hk h => B873 hrec (fun σ => hk .normal σ) h) h
  | false => exact B302 hk (fun σ A kI ks x hk h => B194 hrec (fun σ => hk .normal σ) h) h
 | .seq x y, R, σ, kI, ks, r, hk, h => by
  simp only [vrun] at h ⊢
  refine B96 hrec x σ _ _ r (fun e σ' he => ?_) h
  cases e with
  | normal => exact B96 hrec y σ' kI ks r hk he
  | exit id => exact hk _ _ he
  | ret => exact hk _ _ he
 | .cond c x y, R, σ, kI, ks, r, hk, h => by
  simp only [vrun] at h
  split at h
  ·rename_i t
   split at h
   ·rename_i b e
    refine (B302 (runs := fun m σ _ k => if b = true then vrun G (recs m) ann N x σ k else vrun G (recs m) ann N y σ k) hk (fun σ A kI ks z hk h => ?_) h).imp fun m hm => ?_
    ·cases b with
     | true => simp only [A6] at h ⊢; exact B96 hrec x σ kI ks z hk h
     | false => simp only [A5, A4] at h ⊢; exact B96 hrec y σ kI ks z hk h
    ·simp only [vrun]; rw [e]; exact hm
   ·rename_i e
    refine (B302 (runs := fun m σ _ k => demon (vrun G (recs m) ann N x σ k) (vrun G (recs m) ann N y σ k)) hk (fun σ A kI ks z hk h => ?_) h).imp fun m hm => ?_
    ·obtain ⟨h2, h3⟩ := B258 h
     refine (B96 hrec x σ kI ks z hk h2).and (B96 hrec y σ kI ks z hk h3) fun m g1 g2 => ?_
     rw [g1, g2]; exact B129 _
    ·simp only [vrun]; rw [e]; exact hm
   ·cases h
  ·rename_i b
   cases b with
   | true => simp only [A6] at h; exact (B96 hrec x σ kI ks r hk h).imp fun m hm => by simp only [vrun, A6]; exact hm
   | false => simp only [A5, A4] at h; exact (B96 hrec y σ kI ks r hk h).imp fun m hm => by simp only [vrun, A5, A4]; exact hm
  ·cases h
 | .block id c, R, σ, kI, ks, r, hk, h => by
  simp only [vrun] at h ⊢
  refine B96 hrec c σ _ _ r (fun e σ' he => ?_) h
  cases e with
  | normal => exact hk _ _ he
  | exit j =>
   simp only at he
   split at he
   ·rename_i e1; exact (hk _ _ he).imp fun m hm => by simp only; rw [e1]; exact hm
   ·rename_i e1; exact (hk _ _ he).imp fun m hm => by simp only; rw [e1]; exact hm
  | ret => exact hk _ _ he
 | .loop c, R, σ, kI, ks, r, hk, h => by
  simp only [vrun] at h
  split at h
  ·rename_i e1
   split at h
   ·cases h
   ·rename_i n e2
    refine (B500 (runs := fun m σ _ k => vrun G (recs m) ann N c σ k) (fun σ kI ks hk h => B96 hrec c σ kI ks r hk h) hk n σ h).imp fun m hm => ?_
    simp only [vrun]
    rw [e1]
    simp only
    rw [e2]
    exact hm
  ·rename_i head as e1
   split at h
   ·cases h
   ·rename_i s e2
    obtain ⟨p, h1, h2⟩ := A34.1 h
    have hl := B813 (fs := fun m s => vrun G (recs m) ann N c (rebSt head (B176 head.bs (dsts c) σ) s) fun e σ' => match e with
     | .normal => match B111 head (B8 head.bs σ.heap) σ' with
      | some s => some (.inl s)
      | none => none
     | .exit id => match B75 as (B8 head.bs σ.heap) (.exit id) σ' with
      | some p => some (.inr p)
      | none => none
     | .ret => match B75 as (B8 head.bs σ.heap) .ret σ' with
      | some p => some (.inr p)
      | none => none) (fun s y hy => B96 hrec c _ _ (fun _ e σ' => match e with
     | .normal => match B111 head (B8 head.bs σ.heap) σ' with
      | some s => some (.inl s)
      | none => none
     | .exit id => match B75 as (B8 head.bs σ.heap) (.exit id) σ' with
      | some p => some (.inr p)
      | none => none
     | .ret => match B75 as (B8 head.bs σ.heap) .ret σ' with
      | some p => some (.inr p)
      | none => none) y (fun e σ he => .all fun _ => he) hy) h1
    refine hl.and (B418 hk as p h2) fun m a b => ?_
    simp only [vrun]
    rw [e1]
    simp only
    rw [e2]
    exact A34.2 ⟨p, a, b⟩
 | .exit id, R, σ, kI, ks, r, hk, h => by simp only [vrun] at h ⊢; exact hk _ _ h
 | .ret, R, σ, kI, ks, r, hk, h => by simp only [vrun] at h ⊢; exact hk _ _ h
 | .rangeFunc g ps assign body, R, σ, kI, ks, r, hk, h => by
  simp only [vrun] at h ⊢
  cases hl : lookN (B87 body) ann.loops with
  | none => rw [hl] at h; cases h
  | some ha =>
   obtain ⟨head, as⟩ := ha
   rw [hl] at h
   cases hg : eval σ.env g <;> rw [hg] at h <;> try (cases h; done)
   rename_i f caps
   rcases caps with _ | ⟨cap, _ | ⟨_, _⟩⟩ <;> try (cases h; done)
   simp only at h ⊢
   split at h
   ·cases h
   ·rename_i fn hfn
    split at h
    ·cases h
    ·rename_i c hc
     try simp only [hc]
     split at h
     ·rename_i I hI hres ha hb
      try simp only [hI, hres, ha, hb]
      exact B948 (runs := fun m σ _ k => vrun G (recs m) ann N assign σ fun e σ => match e with
       | .normal => vrun G (recs m) ann N body σ k
       | _ => none) hrec (fun σ A kI ks x hk h => B96 hrec assign σ _ _ x (fun e σ he => by
        cases e with
        | normal => exact B96 hrec body σ kI ks x hk he
        | exit id => cases he
        | ret => cases he) h) hk h
     ·cases h
 | .scope .., R, σ, kI, ks, r, hk, h => by simp only [vrun] at h; cases h
 | .label .., R, σ, kI, ks, r, hk, h => by simp only [vrun] at h; cases h
 | .goto .., R, σ, kI, ks, r, hk, h => by simp only [vrun] at h; cases h
 | .refuse .., R, σ, kI, ks, r, hk, h => by simp only [vrun] at h; cases h
theorem B521 (hrec : RecEv recI recs) {i : Nat} {p : Pay G.E.T (G.F i).sig.ins} {q : (G.F i).sig.Out G.E.T} (h : vbody G recI i p = some q) : Ev fun m => vbody G (recs m) i p = some q := by
 unfold vbody at h
 split at h
 ·cases h
 ·rename_i fn e1
  split at h
  ·cases h
  ·rename_i c e2
   refine (B96 hrec c _ _ (fun _ e σ => match e with
   | .normal => B338 G (G.F i).sig (B266 G (G.F i).sig p).heap fn.results.toList σ
   | .ret => B338 G (G.F i).sig (B266 G (G.F i).sig p).heap fn.results.toList σ
   | .exit _ => none) q (fun e σ he => .all fun _ => he) h).imp fun m hm => ?_
   unfold vbody
   rw [e1]
   simp only
   rw [e2]
   exact hm
theorem B579 : ∀ {n : Nat} {i : Nat} {p : Pay G.E.T (G.F i).sig.ins} {q : (G.F i).sig.Out G.E.T}, vcall G n i p = some q -> vcall G (n + 1) i p = some q
 | 0, i, p, q, h => by simp [vcall] at h
 | n + 1, i, p, q, h => by
  simp only [vcall] at h ⊢
  obtain ⟨m, hm⟩ := B521 (recI := vcall G n) (recs := fun _ => vbody G (vcall G n)) (fun i p q h => .all fun _ => by have := B579 h; simpa only [vcall] using this) h
  exact hm m (A11 _)
theorem B522 {n m : Nat} (hle : n <= m) {i : Nat} {p : Pay G.E.T (G.F i).sig.ins} {q : (G.F i).sig.Out G.E.T} (h : vcall G n i p = some q) : vcall G m i p = some q := by
 induction hle with
 | refl => exact h
 | step _ ih => exact B579 ih
theorem B393 {n : Nat} {i : Nat} {p : Pay G.E.T (G.F i).sig.ins} {q : (G.F i).sig.Out G.E.T} (h : vcall G n i p = some q) : call G i p = some q := by
 have hex : ∃ n q, vcall G n i p = some q := ⟨n, q, h⟩
 unfold call
 rw [dif_pos hex]
 obtain ⟨q', hq'⟩ := hex.choose_spec
 have h1 := B522 (Nat.le_max_left n hex.choose) h
 have h2 := B522 (Nat.le_max_right n hex.choose) hq'
 rw [h1] at h2
 rw [hq', h2]
theorem B0 (i : Nat) (p : Pay G.E.T (G.F i).sig.ins) : call G i p = vbody G (call G) i p := by
 have up : ∀ q, call G i p = some q -> vbody G (call G) i p = some q := by
  intro q h
  obtain ⟨n, hn⟩ := B254 h
  cases n with
  | zero => simp [vcall] at hn
  | succ n =>
   simp only [vcall] at hn
   obtain ⟨m, hm⟩ := B521 (recI := vcall G n) (recs := fun _ => call G) (fun i p q h => .all fun _ => B393 h) hn
   exact hm m (A11 _)
 cases h : call G i p with
 | some q => exact (up q h).symm
 | none =>
  cases h' : vbody G (call G) i p with
  | none => rfl
  | some q =>
   obtain ⟨m, hm⟩ := B521 (recI := call G) (recs := fun n => vcall G n) (fun i p q h => by
    obtain ⟨n, hn⟩ := B254 h
    exact ⟨n, fun m hm => B522 hm hn⟩) h'
   have := B393 (n := m + 1) (by simp only [vcall]; exact hm m (A11 _))
   rw [this] at h; cases h
end
end Go.Proofs.YtcphcfknnfibmaaGreat.V
