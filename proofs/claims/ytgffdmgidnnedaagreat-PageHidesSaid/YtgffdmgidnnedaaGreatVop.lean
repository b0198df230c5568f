/- Each operation that is no call of a function: the reading's is the machine's. -/
import Derived.Test.YtgffdmgidnnedaaGreatSlc
import Derived.Test.YtgffdmgidnnedaaGreatCopy
import Derived.Test.YtgffdmgidnnedaaGreatMap
import Derived.ChangeKeysEq
namespace Go.Proofs.YtgffdmgidnnedaaGreat.V
open Go
set_option linter.unusedVariables false
set_option linter.unusedSimpArgs false
section
variable {G : Prg} {w w' : World} {Fz : Nat → Prop} {ι : Nat → Loc} {H : List (Blk G.E.T)} {R : Type} {r : R} {X : Ctx}
def EnvRep (E : Env) (w : World) (Fz : Nat → Prop) (ι : Nat → Loc) (H : List (Blk E.T)) (env : List (Nat × PV E.T)) (a : Act) : Prop :=
 ∀ t, PRep E w Fz ι H (look t env) (a.tmps.getD t undef)
theorem EnvRep.mono {E : Env} {w w' : World} {Fz Fz' : Nat → Prop} {ι ι' : Nat → Loc} {H H' : List (Blk E.T)} (K : Keep E w w' Fz Fz' ι ι' H H') {env : List (Nat × PV E.T)} {a : Act} (h : EnvRep E w Fz ι H env a) : EnvRep E w' Fz' ι' H' env a :=
 fun t => (h t).mono K
theorem eval_rep {env : List (Nat × PV G.E.T)} {a : Act} (h : EnvRep G.E w Fz ι H env a) (x : Operand) : PRep G.E w Fz ι H (eval env x) (a.eval x) := by
 cases x with
 | tmp t => exact h t
 | const v => exact ofConst_rep v
 | global g => simp [eval, PRep]
 | func f => simp only [eval, PRep, Act.eval]; exact ⟨#[], rfl, by simp [PReps]⟩
theorem evals_rep {env : List (Nat × PV G.E.T)} {a : Act} (h : EnvRep G.E w Fz ι H env a) : ∀ l : List Operand, PReps G.E w Fz ι H (evals env l) (l.map a.eval)
 | [] => by simp [evals, PReps]
 | x :: l => by simp only [evals, List.map_cons, PReps]; exact ⟨eval_rep h x, evals_rep h l⟩
theorem evalParts_rep {env : List (Nat × PV G.E.T)} {a : Act} (h : EnvRep G.E w Fz ι H env a) : ∀ l : List (Nat × Operand), PartsRep G.E w Fz ι H (evalParts env l) (l.map fun (i, x) => (i, a.eval x))
 | [] => trivial
 | (i, x) :: l => ⟨rfl, eval_rep h x, evalParts_rep h l⟩
theorem evalParts_length {T : Nat → Type} {env : List (Nat × PV T)} : ∀ l : List (Nat × Operand), (evalParts env l).length = l.length
 | [] => rfl
 | (_, _) :: l => by simp [evalParts, evalParts_length l]
/-- What an operation gives. -/
structure Gives (G : Prg) (X : Ctx) (o : Oper) (a : Act) (w : World) (Fz : Nat → Prop) (ι : Nat → Loc) (H : List (Blk G.E.T)) (p : PV G.E.T) (H' : List (Blk G.E.T)) (v : Value) (w' : World) (Fz' : Nat → Prop) (ι' : Nat → Loc) : Prop where
 run : (execOp a.eval o).run G.P w = .ok (.value v) w' ∨ ((execOp a.eval o).run G.P w = .ok .skip w' ∧ v = undef)
 step : Step G.E X w w' Fz Fz' ι ι' H H'
 rep : PRep G.E w' Fz' ι' H' p v
theorem foldMM_max {k : IntKind} : ∀ {l : List (PV G.E.T)} {vs : List Value} {a n : Int}, foldMM true k a l = some n → PReps G.E w Fz ι H l vs → k.has a → (vs.foldlM Builtin.max2 (.int k a)).run G.P w = .ok (.int k n) w ∧ k.has n
 | [], [], a, n, h, _, ha => by
  simp [foldMM] at h; subst h
  exact ⟨by simp, ha⟩
 | p :: l, v :: vs, a, n, h, hr, ha => by
  simp only [PReps] at hr
  cases p <;> simp only [foldMM] at h <;> try (cases h; done)
  rename_i kb b
  have hp := hr.1
  simp only [PRep] at hp
  cases hp with | int hb =>
  split at h
  ·rename_i hk hm
   have := of_decide_eq_true hk; subst this
   have hi : k.has (imax a b) := by unfold imax; split <;> assumption
   obtain ⟨h1, h2⟩ := foldMM_max h hr.2 hi
   refine ⟨?_, h2⟩
   rw [List.foldlM_cons]
   simp only [Builtin.max2, pure_bind]
   exact h1
  ·rename_i hk hm; cases hm
  ·cases h
 | [], _ :: _, _, _, _, hr, _ => by simp only [PReps] at hr
 | _ :: _, [], _, _, _, hr, _ => by simp only [PReps] at hr
theorem foldMM_min {k : IntKind} : ∀ {l : List (PV G.E.T)} {vs : List Value} {a n : Int}, foldMM false k a l = some n → PReps G.E w Fz ι H l vs → k.has a → (vs.foldlM Builtin.min2 (.int k a)).run G.P w = .ok (.int k n) w ∧ k.has n
 | [], [], a, n, h, _, ha => by
  simp [foldMM] at h; subst h
  exact ⟨by simp, ha⟩
 | p :: l, v :: vs, a, n, h, hr, ha => by
  simp only [PReps] at hr
  cases p <;> simp only [foldMM] at h <;> try (cases h; done)
  rename_i kb b
  have hp := hr.1
  simp only [PRep] at hp
  cases hp with | int hb =>
  split at h
  ·rename_i hk hm; cases hm
  ·rename_i hk hm
   have := of_decide_eq_true hk; subst this
   have hi : k.has (imin a b) := by unfold imin; split <;> assumption
   obtain ⟨h1, h2⟩ := foldMM_min h hr.2 hi
   refine ⟨?_, h2⟩
   rw [List.foldlM_cons]
   simp only [Builtin.min2, pure_bind]
   exact h1
  ·cases h
 | [], _ :: _, _, _, _, hr, _ => by simp only [PReps] at hr
 | _ :: _, [], _, _, _, hr, _ => by simp only [PReps] at hr
theorem part_sound {t : TypeId} {cs : Array Value} {l l' : List (PV G.E.T)} {p : PV G.E.T} {o : Nat} (hl : PReps G.E w Fz ι H l cs.toList) (h1 : ∀ p ∈ l, p.one = true) (hd : dropL o l = some l') (h : packT G t l' = some p) :
  ∃ v, (part t cs o).run G.P w = .ok v w ∧ PRep G.E w Fz ι H p v := by
 obtain ⟨g1, rfl⟩ := dropL_eq _ _ _ hd
 have hdrop := hl.drop o
 unfold packT at h
 split at h
 ·rename_i ha
  split at h
  ·rename_i n hn
   split at h
   ·rename_i q hq
    cases h
    obtain ⟨g2, rfl⟩ := takeL_eq _ _ _ hq
    refine ⟨.agg (cs.extract o (o + n)), by simp [part, run_isAgg ha, run_sizeOf hn], ?_⟩
    simp only [PRep]
    refine ⟨_, rfl, fun p hp => h1 p (List.mem_of_mem_drop (List.mem_of_mem_take hp)), ?_⟩
    have := hdrop.take n
    simpa [List.extract_eq_take_drop] using this
   ·cases h
  ·cases h
 ·rename_i ha
  split at h
  ·rename_i v l'' heq
   cases h
   have hq : (l.drop o)[0]? = some p := by rw [heq]; rfl
   obtain ⟨u, hu, hp⟩ := hdrop.get hq
   rw [List.getElem?_drop, Nat.add_zero] at hu
   have : cs[o]? = some u := by simpa using hu
   exact ⟨u, by simp [part, run_isAgg ha, this], hp⟩
  ·cases h
 ·cases h
/-! ### Values of many parts that are compared -/
def EqOk (G : Prg) (w : World) (Fz : Nat → Prop) (ι : Nat → Loc) (H : List (Blk G.E.T)) (D : Nat) (t : TypeId) (g : PV G.E.T → PV G.E.T → Option Bool) : Prop :=
 ∀ p q b x y, g p q = some b → PRep G.E w Fz ι H p x → PRep G.E w Fz ι H q y → (Op.equalIn D t x y).run G.P w = .ok b w
theorem eqAt_sound {g : PV G.E.T → PV G.E.T → Option Bool} {t : TypeId} {D off : Nat} (hg : EqOk G w Fz ι H D t g) {xs ys : List (PV G.E.T)} {cs ds : Array Value} (hx : PReps G.E w Fz ι H xs cs.toList) (hy : PReps G.E w Fz ι H ys ds.toList)
  (h1 : ∀ p ∈ xs, p.one = true) (h2 : ∀ p ∈ ys, p.one = true) {b : Bool} (h : eqAt G g t off xs ys = some b) : ∃ x y, (part t cs off).run G.P w = .ok x w ∧ (part t ds off).run G.P w = .ok y w ∧ (Op.equalIn D t x y).run G.P w = .ok b w := by
 unfold eqAt at h
 split at h
 ·rename_i l m e1 e2
  split at h
  ·rename_i p q e3 e4
   obtain ⟨x, rx, px⟩ := part_sound hx h1 e1 e3
   obtain ⟨y, ry, py⟩ := part_sound hy h2 e2 e4
   exact ⟨x, y, rx, ry, hg p q b x y h px py⟩
  ·cases h
 ·cases h
theorem eqFs_sound {g : TypeId → PV G.E.T → PV G.E.T → Option Bool} {D : Nat} (hg : ∀ t, EqOk G w Fz ι H D t (g t)) {xs ys : List (PV G.E.T)} {cs ds : Array Value} (hx : PReps G.E w Fz ι H xs cs.toList) (hy : PReps G.E w Fz ι H ys ds.toList)
  (h1 : ∀ p ∈ xs, p.one = true) (h2 : ∀ p ∈ ys, p.one = true) : ∀ (l : List Field) (b : Bool), eqFs G g xs ys l = some b → (Op.eqFields D cs ds l).run G.P w = .ok b w
 | [], b, h => by simp only [eqFs, Option.some.injEq] at h; subst h; simp [Op.eqFields]
 | f :: l, b, h => by
  simp only [eqFs] at h
  simp only [Op.eqFields, Sem.run_ite]
  by_cases hn : f.name = "_"
  ·rw [if_pos hn] at h
   rw [if_neg (by simp [hn])]
   exact eqFs_sound hg hx hy h1 h2 l b h
  ·rw [if_neg hn] at h
   rw [if_pos hn]
   split at h
   ·rename_i a c e1 e2
    cases h
    obtain ⟨x, y, rx, ry, re⟩ := eqAt_sound (hg f.type) hx hy h1 h2 e1
    have ih := eqFs_sound hg hx hy h1 h2 l c e2
    simp only [Sem.run_bind, rx, ry, re, Result.andThen_ok, Sem.run_ite]
    cases a with
    | true => simpa using ih
    | false => simp
   ·cases h
theorem eqNV_sound {g : PV G.E.T → PV G.E.T → Option Bool} {D : Nat} {t : TypeId} {sz : Nat} (hg : EqOk G w Fz ι H D t g) {xs ys : List (PV G.E.T)} {cs ds : Array Value} (hx : PReps G.E w Fz ι H xs cs.toList) (hy : PReps G.E w Fz ι H ys ds.toList)
  (h1 : ∀ p ∈ xs, p.one = true) (h2 : ∀ p ∈ ys, p.one = true) : ∀ (l : List Nat) (b : Bool), eqNV G g t sz xs ys l = some b → (Op.eqItems D t sz cs ds l).run G.P w = .ok b w
 | [], b, h => by simp only [eqNV, Option.some.injEq] at h; subst h; simp [Op.eqItems]
 | i :: l, b, h => by
  simp only [eqNV] at h
  simp only [Op.eqItems]
  split at h
  ·rename_i a c e1 e2
   cases h
   obtain ⟨x, y, rx, ry, re⟩ := eqAt_sound hg hx hy h1 h2 e1
   have ih := eqNV_sound hg hx hy h1 h2 l c e2
   simp only [Sem.run_bind, rx, ry, re, Result.andThen_ok, Sem.run_ite]
   cases a with
   | true => simpa using ih
   | false => simp
  ·cases h
theorem aggEq_sound : ∀ (d D : Nat) (t : TypeId), d ≤ D → EqOk G w Fz ι H D t (aggEq G d t)
 | 0, D, t, _ => fun p q b x y h _ _ => by simp [aggEq] at h
 | d + 1, D, t, hD => fun p q b x y h hp hq => by
  obtain ⟨D, rfl⟩ : ∃ m, D = m + 1 := ⟨D - 1, by omega⟩
  simp only [aggEq] at h
  split at h
  ·rename_i k k1 a k2 b' hu
   split at h
   ·rename_i hk
    cases h
    have hk := of_decide_eq_true hk
    subst hk
    simp only [PRep] at hp hq
    cases hp; cases hq
    rw [run_equalIn_int (w := w) D t k1 k a b' hu]
    congr 1
   ·cases h
  ·rename_i a b' hu
   cases h
   simp only [PRep] at hp hq
   cases hp; cases hq
   rw [equalIn_bool D t hu]
   congr 1
  ·rename_i a b' hu
   cases h
   simp only [PRep] at hp hq
   cases hp with | str e1 l1 => cases hq with | str e2 l2 =>
   subst e1; subst e2
   rw [run_equalIn_string (w := w) D t _ _ hu, bytesOfStr_beq]
  ·rename_i fs xs ys hu
   simp only [PRep] at hp hq
   obtain ⟨cs, rfl, h1, hx⟩ := hp
   obtain ⟨ds, rfl, h2, hy⟩ := hq
   split at h
   ·rename_i hst
    have hf : G.P.fieldsOf t = fs := by simp [Program.fieldsOf, hu]
    rw [run_equalIn_struct (w := w) D t cs ds (by rw [hf]; exact hu) hst, hf]
    exact eqFs_sound (fun t => aggEq_sound d D t (by omega)) hx hy h1 h2 _ _ h
   ·cases h
  ·rename_i n e xs ys hu
   simp only [PRep] at hp hq
   obtain ⟨cs, rfl, h1, hx⟩ := hp
   obtain ⟨ds, rfl, h2, hy⟩ := hq
   split at h
   ·rename_i sz hsz
    unfold typeSize at hsz
    split at hsz
    ·rename_i i hi
     cases hsz
     rw [run_equalIn_array (w := w) D cs ds hu hi, show G.P.cellsOf e = i.size by simp [Program.cellsOf, hi]]
     exact eqNV_sound (aggEq_sound d D e (by omega)) hx hy h1 h2 _ _ h
    ·cases hsz
   ·cases h
  ·cases h
theorem binOpA_sound {op : BinOp} {p q : PV G.E.T} {K : PV G.E.T → Option R} {t : TypeId} (h : binOpA G t op p q K = some r) {x y : Value}
  (hp : PRep G.E w Fz ι H p x) (hq : PRep G.E w Fz ι H q y) (ox oy : Operand) :
  ∃ s v, K s = some r ∧ (do eqGuard op t ox oy x y; binOp op t x y).run G.P w = .ok v w ∧ PRep G.E w Fz ι H s v := by
 unfold binOpA at h
 split at h
 ·rename_i xs ys
  split at h
  ·rename_i b hg hb
   have he := aggEq_sound (G := G) (w := w) (Fz := Fz) (ι := ι) (H := H) 20 10000 t (by omega) _ _ b x y hb hp hq
   simp only [PRep] at hp hq
   obtain ⟨cs, rfl, _, _⟩ := hp
   obtain ⟨ds, rfl, _, _⟩ := hq
   obtain ⟨s, v, h1, h2, h3⟩ := eqOp_sound (w := w) (P := G.P) (Fz := Fz) (E := G.E) (x := .agg cs) (y := .agg ds) h t (by simpa [Op.equal, Op.maxDepth] using he) rfl rfl
   exact ⟨s, v, h1, by simp [run_eqGuard_agg w op t ox oy cs ds hg, h2], h3.toPR⟩
  ·cases h
 ·exact binOpV_sound h hp hq ox oy
theorem fieldT_eq {s : TypeId} {f o : Nat} {t : TypeId} (h1 : fieldOff G s f = some o) (h2 : fieldT G s f = some t) : ∃ (fields : Array Field) (fd : Field), G.P.underlying s = some (.struct fields) ∧ fields[f]? = some fd ∧ fd.offset = o ∧ fd.type = t := by
 unfold fieldOff at h1
 unfold fieldT at h2
 split at h1
 ·rename_i fields hu
  rw [hu] at h2
  simp only at h2
  split at h1
  ·rename_i fd hfd
   rw [hfd] at h2
   split at h1
   ·cases h1; cases h2
    exact ⟨fields, fd, hu, by simpa using hfd, rfl, rfl⟩
   ·cases h1
  ·cases h1
 ·cases h1
theorem OptRep.map {env : List (Nat × PV G.E.T)} {a : Act} (h : EnvRep G.E w Fz ι H env a) (o : Option Operand) : OptRep G.E w Fz ι H (o.map (eval env)) (o.map a.eval) := by
 cases o with
 | none => trivial
 | some x => exact eval_rep h x
/-- no function of the program is called -/
def isCall (o : Oper) : Bool := match o.op with
 | .call c => match c.callee with
  | .value _ => true
  | _ => false
 | _ => false
theorem newArrAt {pl : Option Nat} (hpl : plOk pl H = true) (hH : HRep G.E w Fz ι H) (hF : Fram G.E X w Fz ι H) {z : List (PV G.E.T)} {cs : List Value} (hl : PReps G.E w Fz ι H z cs) {k : IntKind} {xs : List Int} (h : bigArr z = some (k, xs)) (t : TypeId) :
  Step G.E X w (w.alloc (.cells cs.toArray t)) Fz Fz ι (updι ι (plId pl H) ⟨some ⟨w.heap.size, 0, none⟩, xs.length⟩) H (plPut pl H (.ints .own k (plEp pl) xs)) ∧
   PRep G.E (w.alloc (.cells cs.toArray t)) Fz (updι ι (plId pl H) ⟨some ⟨w.heap.size, 0, none⟩, xs.length⟩) (plPut pl H (.ints .own k (plEp pl) xs)) (.eptr (plId pl H) (plEp pl) 0 0) (.pointer (some ⟨w.heap.size, 0, none⟩)) ∧ True := by
 unfold bigArr at h
 split at h
 ·rename_i hb1 hb2
  have hb1 : 33 ≤ z.length := Nat.le_of_ble_eq_true hb1
  have hb2 := Nat.le_of_ble_eq_true hb2
  obtain ⟨g1, g2⟩ := intsK_spec h
  have hcell : ∀ (j : Nat) (x : Int), xs[j]? = some x → cs[j]? = some (.int k x) ∧ k.has x := fun j x hj => by
   obtain ⟨u, hu, hp⟩ := hl.get (g2 j x hj)
   simp only [PRep] at hp
   cases hp with
   | int hk => exact ⟨hu, hk⟩
  have hat : ∀ q, (w.alloc (.cells cs.toArray t)).cell? ⟨w.heap.size, 0 + q, none⟩ = cs[q]? := fun q => by rw [cells_of_array q 0 rfl]; simp
  have hr : RowBecomes w (w.alloc (.cells cs.toArray t)) ⟨none, 0⟩ ⟨some ⟨w.heap.size, 0, none⟩, xs.length⟩ 1 xs.length (xs.map fun y => Value.int k y) := by
   refine ⟨⟨Nat.le_refl _, by simp only [maxLen]; omega, .inr ⟨w.heap.size, 0, rfl, by simp, fun c hc => ?_⟩⟩, fun B o ha q v hv => ?_, rfl, rfl, rfl, by simp, fun B hB _ => heap_alloc_old w _ B hB, fun A' hA' => .inr ?_⟩
   ·have hc' : c < xs.length := by simpa using hc
    refine ⟨⟨_, by rw [hat]; exact (hcell c _ (List.getElem?_eq_getElem hc')).1⟩, by simp⟩
   ·simp only [Option.some.injEq, Addr.mk.injEq] at ha
    obtain ⟨rfl, rfl, _⟩ := ha
    rw [hat]
    rw [List.getElem?_map] at hv
    obtain ⟨y, hy, rfl⟩ := Option.map_eq_some_iff.1 hv
    exact (hcell q y hy).1
   ·simp at hA'; subst hA'; simp
  refine ⟨Step.rowAt hpl hH hF ⟨_, _, rfl⟩ rfl hr fun _ => hr.ints (fun y hy => ?_) (by rw [updι_same]), ?_, trivial⟩
  ·obtain ⟨j, hj⟩ := List.mem_iff_getElem?.1 hy
   exact (hcell j y hj).2
  ·simp only [PRep]
   refine ⟨_, getL_plPut hpl, ⟨_, rfl⟩, fun ep' len sz hi => ?_⟩
   simp only [Blk.info, Option.some.injEq, Prod.mk.injEq] at hi
   obtain ⟨rfl, rfl, rfl⟩ := hi
   exact ⟨Nat.le_refl _, fun _ => ⟨Int.le_refl _, by simp; omega, w.heap.size, 0, by rw [updι_same], by simp⟩⟩
 ·cases h
theorem vop_plain (ok : PrgOk G) {rec : Rec G} {ann : Ann} {pl : Option Nat} {o : Oper} {σ : St G.E.T} {K : PV G.E.T → List (Blk G.E.T) → Option R} (h : vop G rec ann pl o σ K = some r) (hc : isCall o = false) {a : Act}
  (hE : EnvRep G.E w Fz ι σ.heap σ.env a) (hH : HRep G.E w Fz ι σ.heap) (hF : Fram G.E X w Fz ι σ.heap) :
  ∃ p H' v w' Fz' ι', K p H' = some r ∧ Gives G X o a w Fz ι σ.heap p H' v w' Fz' ι' := by
 obtain ⟨dst, op, type, pos, after, guard⟩ := o
 have pure : ∀ {p : PV G.E.T} {v : Value}, K p σ.heap = some r → (execOp a.eval ⟨dst, op, type, pos, after, guard⟩).run G.P w = .ok (.value v) w → PRep G.E w Fz ι σ.heap p v →
   ∃ p H' v w' Fz' ι', K p H' = some r ∧ Gives G X ⟨dst, op, type, pos, after, guard⟩ a w Fz ι σ.heap p H' v w' Fz' ι' :=
  fun h1 h2 h3 => ⟨_, _, _, w, Fz, ι, h1, .inl h2, .refl hH hF, h3⟩
 cases op <;> simp only [vop] at h <;> try (cases h; done)
 case move x => exact pure h (by simp [execOp]) (eval_rep hE x)
 case assign x => exact pure h (by simp [execOp]) (eval_rep hE x)
 case pick c x y =>
  have hcr := eval_rep hE c
  split at h
  ·rename_i b hb
   rw [hb] at hcr
   simp only [PRep] at hcr
   generalize hcv : a.eval c = cv at hcr
   cases hcr
   split at h
   ·rename_i hbt
    exact pure h (by simp [execOp, hcv, asBool, hbt]) (eval_rep hE x)
   ·rename_i hbt
    exact pure h (by simp [execOp, hcv, asBool, hbt]) (eval_rep hE y)
  ·cases h
 case alloc t =>
  split at h
  ·rename_i z hz hpl
   obtain ⟨zv, hrun, hzr, h1, _⟩ := zeroCellsP_sound (w := w) (Fz := Fz) (ι := ι) (H := σ.heap) hz
   unfold allocP allocB at h
   cases hbg : bigArr z with
   | none =>
    rw [hbg] at h
    refine ⟨_, _, .pointer (some ⟨w.heap.size, 0, none⟩), _, Fz, _, h, .inl ?_, Step.newBoxAt hpl hH hF hzr h1 t, newBoxAt_ptr hpl rfl⟩
    simp [execOp, Instr.alloc, hrun, newVar, newRow]
   | some kx =>
    obtain ⟨k, xs⟩ := kx
    rw [hbg] at h
    obtain ⟨s1, s2, s3⟩ := newArrAt (X := X) hpl hH hF hzr hbg t
    refine ⟨_, _, .pointer (some ⟨w.heap.size, 0, none⟩), _, Fz, _, h, .inl ?_, s1, s2⟩
    simp [execOp, Instr.alloc, hrun, newVar, newRow]
  ·cases h
 case box t x =>
  split at h
  ·rename_i h1
   have hcr := cells_rep (eval_rep hE x) h1
   refine ⟨_, _, .pointer (some ⟨w.heap.size, 0, none⟩), _, Fz, _, h, .inl ?_, Step.newBox hH hF hcr (allOne_iff.1 h1) t, newBox_ptr rfl⟩
   simp [execOp, Instr.box, newVar, newRow]
  ·cases h
 case makeMap t res =>
  cases res with
  | some _ => simp only [vop] at h; cases h
  | none =>
   obtain ⟨p, H', v, w', ι', hK, hrun, hs, hp⟩ := makeMapV_sound h hH hF
   exact ⟨p, H', v, w', Fz, ι', hK, .inl (by simp [execOp, hrun]), hs, hp⟩
 case mapUpdate t m k x =>
  obtain ⟨H', w', Fz', hK, hrun, hs⟩ := mapUpdV_sound ok.env h hH hF (x := a.eval x) (eval_rep hE m) (eval_rep hE k) (eval_rep hE x)
  refine ⟨_, _, undef, w', Fz', ι, hK, .inr ⟨by simp [execOp, hrun], rfl⟩, hs, ?_⟩
  simp only [PRep]
  exact ⟨#[], rfl, by simp [PReps]⟩
 case lookup t m k okb =>
  obtain ⟨p, v, hK, hrun, hp⟩ := lookupV_sound ok.env h hH (eval_rep hE m) (eval_rep hE k)
  exact pure hK (by simp [execOp, hrun]) hp
 case build t parts =>
  obtain ⟨p, v, hK, hrun, hp⟩ := buildV_sound h (vals := parts.map fun (i, x) => (i, a.eval x)) (by simpa using evalParts_rep hE parts.toList)
  exact pure hK (by simp [execOp, hrun]) hp
 case buildSlice t n parts =>
  obtain ⟨p, H', v, w', Fz', ι', hK, hrun, hs, hp⟩ := buildSliceV_sound ok h hH hF (vals := parts.map fun (i, x) => (i, a.eval x)) (by simpa using evalParts_rep hE parts.toList) (by simp [evalParts_length])
  exact ⟨p, H', v, w', Fz', ι', hK, .inl (by simp [execOp, hrun]), hs, hp⟩
 case makeSlice t l c =>
  obtain ⟨p, H', v, w', ι', hK, hrun, hs, hp⟩ := makeSliceV_sound ok h hH hF (eval_rep hE l) (eval_rep hE c)
  exact ⟨p, H', v, w', Fz, ι', hK, .inl (by simp [execOp, hrun]), hs, hp⟩
 case makeFunc fn first captured =>
  cases fn <;> simp only [vop] at h <;> try (cases h; done)
  rename_i f
  split at h
  ·rename_i hf
   have hf' : first = #[] := by cases first; simp_all
   subst hf'
   refine pure h (v := .func (.func f) #[] (captured.map a.eval)) (by simp [execOp, Instr.makeFunc]) ?_
   simp only [PRep]
   exact ⟨_, rfl, by simpa using evals_rep hE captured.toList⟩
  ·cases h
 case load t x =>
  obtain ⟨p, v, hK, hrun, hp⟩ := loadV_sound ok.env h hH (eval_rep hE x)
  exact pure hK (by simp [execOp, hrun]) hp
 case store t x y =>
  obtain ⟨H', w', Fz', hK, hrun, hs⟩ := storeV_sound ok.env h hH hF (eval_rep hE x) (eval_rep hE y)
  refine ⟨_, H', undef, w', Fz', ι, hK, .inr ⟨by simp [execOp, hrun], rfl⟩, hs, ?_⟩
  simp only [PRep]
  exact ⟨#[], rfl, by simp [PReps]⟩
 case nilCheck x =>
  have hx := eval_rep hE x
  split at h
  ·rename_i id off he
   rw [he] at hx
   have hx' := hx
   simp only [PRep] at hx'
   obtain ⟨b, _, _, B, o, _, hv⟩ := hx'
   exact pure h (v := a.eval x) (by simp [execOp, hv]) hx
  ·rename_i id ep i f he
   rw [he] at hx
   have hx' := hx
   simp only [PRep] at hx'
   obtain ⟨b, _, ⟨A, hv⟩, _⟩ := hx'
   exact pure h (v := a.eval x) (by simp [execOp, hv]) hx
  ·rename_i l he
   rw [he] at hx
   have hx' := hx
   simp only [PRep] at hx'
   obtain ⟨B, o, hv, _⟩ := hx'
   exact pure h (v := a.eval x) (by simp [execOp, hv]) hx
  ·rename_i f l he
   rw [he] at hx
   have hx' := hx
   simp only [PRep] at hx'
   obtain ⟨cs, hv, _⟩ := hx'
   exact pure h (v := a.eval x) (by simp [execOp, hv]) hx
  ·cases h
 case binOp op t x y yt =>
  obtain ⟨p, v, hK, hrun, hp⟩ := binOpA_sound h (eval_rep hE x) (eval_rep hE y) x y
  refine pure hK ?_ hp
  simp only [Sem.run_bind] at hrun
  cases hg : (eqGuard op t x y (a.eval x) (a.eval y)).run G.P w <;> simp [hg] at hrun <;> simp [execOp, hg, hrun]
 case unOp op t x =>
  obtain ⟨p, v, hK, hrun, hp⟩ := unOpV_sound (P := G.P) h (eval_rep hE x)
  exact pure hK (by simp [execOp, hrun]) hp.toP
 case convert src dst x =>
  obtain ⟨p, H', v, w', Fz', ι', hK, hrun, hs, hp⟩ := convertV_sound ok h hH hF (eval_rep hE x)
  exact ⟨p, H', v, w', Fz', ι', hK, .inl (by simp [execOp, hrun]), hs, hp⟩
 case slice t x lo hi mx =>
  split at h
  ·cases h
  ·obtain ⟨p, H', v, ι', hK, hrun, hs, hp⟩ := sliceV_sound ok h hH hF (eval_rep hE x) (OptRep.map hE lo) (OptRep.map hE hi)
   exact ⟨p, H', v, w, Fz, ι', hK, .inl (by simp [execOp, hrun]), hs, hp⟩
 case fieldAddr s x f =>
  obtain ⟨p, v, hK, hrun, hp⟩ := fieldAddrV_sound h (eval_rep hE x)
  exact pure hK (by simp [execOp, hrun]) hp
 case field s x f =>
  have hx := eval_rep hE x
  split at h
  ·rename_i l o t he ho ht
   rw [he] at hx
   simp only [PRep] at hx
   obtain ⟨cs, hv, h1, hl⟩ := hx
   split at h
   ·rename_i l' hd
    split at h
    ·rename_i p hp
     obtain ⟨v, hrun, hpv⟩ := part_sound hl h1 hd hp
     obtain ⟨fields, fd, hu, hfd, rfl, rfl⟩ := fieldT_eq ho ht
     exact pure h (by simp [execOp, Instr.field, hv, run_underlying hu, hfd, asAgg, hrun]) hpv
    ·cases h
   ·cases h
  ·cases h
 case indexAddr t x i =>
  obtain ⟨p, v, hK, hrun, hp⟩ := indexAddrV_sound ok h hH (eval_rep hE x) (eval_rep hE i)
  exact pure hK (by simp [execOp, hrun]) hp
 case index t x i =>
  have hx := eval_rep hE x
  have hi := eval_rep hE i
  split at h
  ·rename_i s k j he hei
   rw [he] at hx
   rw [hei] at hi
   simp only [PRep] at hx hi
   generalize hxv : a.eval x = xv at hx
   generalize hiv : a.eval i = iv at hi
   cases hx with | str e1 l1 =>
   cases hi with | int hk =>
   rename_i bs
   subst e1
   split at h
   ·rename_i ht
    split at h
    ·rename_i hin
     have hm := rd_mem hin.1 (show j.toNat < (bytesOfStr bs).length by omega)
     have hlt : j.toNat < bs.size := by rw [← bytesOfStr_len]; omega
     have hb : bs[j.toNat]? = some bs[j.toNat] := by simp [hlt]
     have hval : ((bs[j.toNat].toNat : Nat) : Int) = rd (bytesOfStr bs) j := by
      have h2 : (bytesOfStr bs)[j.toNat]? = some ((bs[j.toNat].toNat : Nat) : Int) := by
       rw [bytesOfStr, List.getElem?_map]
       have : bs.data.toList[j.toNat]? = some bs[j.toNat] := by
        rw [List.getElem?_eq_getElem (by simpa using hlt)]; rfl
       rw [this]; rfl
      rw [hm] at h2
      exact (Option.some.inj h2).symm
     refine pure h (v := .int .u8 (bs[j.toNat].toNat : Nat)) (by simp [execOp, Instr.index, hxv, hiv, asIntOf, run_underlying ht, hin.1, hlt]) ?_
     simp only [PRep]
     rw [← hval]
     refine .int ?_
     rw [has_iff]
     have := bs[j.toNat].toNat_lt
     simp only; omega
    ·cases h
   ·cases h
  ·rename_i l k j he hei
   rw [he] at hx
   rw [hei] at hi
   simp only [PRep] at hx hi
   generalize hiv : a.eval i = iv at hi
   cases hi with | int hk =>
   obtain ⟨cs, hv, h1, hl⟩ := hx
   split at h
   ·rename_i n e ht
    split at h
    ·rename_i sz hs
     split at h
     ·rename_i hin
      split at h
      ·rename_i hit
       split at h
       ·rename_i kk xs hkk
        have ha : isAggT G e = some false := by
         unfold isIntT at hit
         unfold isAggT
         split at hit
         ·rename_i q; rw [q]
         ·cases hit
        obtain ⟨g1, g2⟩ := intsK_spec hkk
        have hxx : xs[j.toNat]? = some (rd xs j) := by
         unfold rd
         rw [List.getD_eq_getElem?_getD, List.getElem?_eq_getElem (by omega)]; rfl
        have hcc := g2 _ _ hxx
        have hlt := (List.getElem?_eq_some_iff.1 hcc).1
        have hd : dropL (j.toNat * 1) l = some (l.drop j.toNat) := by rw [Nat.mul_one]; exact dropL_of (by omega)
        have hp : packT G e (l.drop j.toNat) = some (.int kk (rd xs j)) := by
         rw [List.drop_eq_getElem_cons hlt, (List.getElem?_eq_some_iff.1 hcc).2]
         simp only [packT, ha]
        obtain ⟨v, hrun, hpv⟩ := part_sound hl h1 hd hp
        rw [Nat.mul_one] at hrun
        exact pure h (by simp [execOp, Instr.index, hv, hiv, asIntOf, run_underlying ht, hin.1, hin.2, run_sizeOf hs, hrun]) hpv
       ·cases h
      ·have h := atIx_some h hin
       split at h
       ·rename_i l' hd
        split at h
        ·rename_i p hp
         obtain ⟨v, hrun, hpv⟩ := part_sound hl h1 hd hp
         exact pure h (by simp [execOp, Instr.index, hv, hiv, asIntOf, run_underlying ht, hin.1, hin.2, run_sizeOf hs, hrun]) hpv
        ·cases h
       ·cases h
     ·cases h
    ·cases h
   ·cases h
  ·cases h
 case extract x i =>
  have hx := eval_rep hE x
  split at h
  ·rename_i l he
   rw [he] at hx
   simp only [PRep] at hx
   obtain ⟨vs, hv, hl⟩ := hx
   split at h
   ·rename_i p hp
    rw [getL_eq] at hp
    obtain ⟨v, hv', hpv⟩ := hl.get hp
    have : vs[i]? = some v := by simpa using hv'
    exact pure h (by simp [execOp, Instr.extract, hv, this]) hpv
   ·cases h
  ·cases h
 case call c =>
  obtain ⟨callee, args, argTypes⟩ := c
  cases callee with
  | value f => simp [isCall] at hc
  | invoke r m => simp only at h; cases h
  | builtin b =>
   have run : ∀ {v : Value} {w' : World}, (builtin b argTypes type (args.map fun | .const _ => true | _ => false) (args.map a.eval)).run G.P w = .ok (.value v) w' →
     (execOp a.eval ⟨dst, .call ⟨.builtin b, args, argTypes⟩, type, pos, after, guard⟩).run G.P w = .ok (.value v) w' := fun hr => by
    simp only [execOp, resolve, Sem.run_bind, Sem.run_pure, Result.andThen_ok, invoke]
    exact hr
   cases b <;> simp only at h <;> try (cases h; done)
   case append =>
    split at h
    ·rename_i s x t tx ha ht
     have hargs : args = #[s, x] := by cases args; simp_all
     have htys : argTypes = #[t, tx] := by cases argTypes; simp_all
     subst hargs; subst htys
     split at h
     ·rename_i e' htx
      obtain ⟨p, H', v, w', ι', hK, hrun, hs, hp⟩ := appendV_sound ok (ty := type) h hH hF (eval_rep hE s) (eval_rep hE x) htx (.inr ⟨e', rfl⟩)
      exact ⟨p, H', v, w', Fz, ι', hK, .inl (run (by simp [builtin, hrun])), hs, hp⟩
     ·rename_i htx
      obtain ⟨p, H', v, w', ι', hK, hrun, hs, hp⟩ := appendV_sound ok (ty := type) h hH hF (eval_rep hE s) (eval_rep hE x) htx (.inl rfl)
      exact ⟨p, H', v, w', Fz, ι', hK, .inl (run (by simp [builtin, hrun])), hs, hp⟩
     ·rename_i k' htx
      obtain ⟨p, H', v, w', ι', hK, hrun, hs, hp⟩ := appendZ_sound ok (ty := type) h hH hF (eval_rep hE s) (eval_rep hE x) htx
      exact ⟨p, H', v, w', Fz, ι', hK, .inl (run (by simp [builtin, hrun])), hs, hp⟩
     ·cases h
    ·cases h
   case delete =>
    split at h
    ·rename_i m k t rest ha ht
     have hargs : args = #[m, k] := by cases args; simp_all
     subst hargs
     have htys : argTypes = (t :: rest).toArray := by cases argTypes; simp_all
     subst htys
     obtain ⟨H', w', hK, hrun, hs⟩ := deleteV_sound (ty := type) h hH hF (eval_rep hE m) (eval_rep hE k) rest
     refine ⟨_, _, .tuple #[], w', Fz, ι, hK, .inl (run (by simp [builtin, hrun])), hs, ?_⟩
     simp only [PRep]
     exact ⟨#[], rfl, by simp [PReps]⟩
    ·cases h
   case copy =>
    split at h
    ·rename_i s x t tx ha ht
     have hargs : args = #[s, x] := by cases args; simp_all
     have htys : argTypes = #[t, tx] := by cases argTypes; simp_all
     subst hargs; subst htys
     obtain ⟨p, H', v, w', hK, hrun, hs, hp⟩ := copyV_sound ok (tx := tx) (ty := type) h hH hF (subOf_rep hH (eval_rep hE s)) (eval_rep hE x)
     exact ⟨p, H', v, w', Fz, ι, hK, .inl (run (by simp [builtin, hrun])), hs, hp⟩
    ·cases h
   case len =>
    split at h
    ·rename_i x t rest ha ht
     have hargs : args = #[x] := by cases args; simp_all
     subst hargs
     obtain ⟨p, v, hK, hrun, hp⟩ := lenV_sound (ty := type) h hH (eval_rep hE x) rest
     have htys : argTypes = (t :: rest).toArray := by cases argTypes; simp_all
     subst htys
     exact pure hK (run (by simp [builtin, hrun])) hp
    ·cases h
   case cap =>
    split at h
    ·rename_i x t rest ha ht
     have hargs : args = #[x] := by cases args; simp_all
     subst hargs
     have htys : argTypes = (t :: rest).toArray := by cases argTypes; simp_all
     subst htys
     split at h
     ·rename_i e he hu
      have hx := eval_rep hE x
      rw [he] at hx
      simp only [PRep] at hx
      exact pure (p := .int .i64 0) (v := goInt 0) h (run (by simp [builtin, hx, Builtin.cap_, run_underlying hu])) (by simp only [PRep]; exact .int (by rw [has_iff]; simp only; omega))
     ·cases h
    ·cases h
   case max =>
    split at h
    ·rename_i k n l he
     split at h
     ·rename_i m hm
      have hr := evals_rep hE args.toList
      rw [he] at hr
      cases hv : args.toList.map a.eval with
      | nil => rw [hv] at hr; simp only [PReps] at hr
      | cons v vs =>
       rw [hv] at hr
       simp only [PReps] at hr
       have hp := hr.1
       simp only [PRep] at hp
       cases hp with | int hn =>
       obtain ⟨h1, h2⟩ := foldMM_max hm hr.2 hn
       refine pure h (run ?_) (by simp only [PRep]; exact .int h2)
       simp [builtin, Builtin.max_, hv, h1]
     ·cases h
    ·cases h
   case min =>
    split at h
    ·rename_i k n l he
     split at h
     ·rename_i m hm
      have hr := evals_rep hE args.toList
      rw [he] at hr
      cases hv : args.toList.map a.eval with
      | nil => rw [hv] at hr; simp only [PReps] at hr
      | cons v vs =>
       rw [hv] at hr
       simp only [PReps] at hr
       have hp := hr.1
       simp only [PRep] at hp
       cases hp with | int hn =>
       obtain ⟨h1, h2⟩ := foldMM_min hm hr.2 hn
       refine pure h (run ?_) (by simp only [PRep]; exact .int h2)
       simp [builtin, Builtin.min_, hv, h1]
     ·cases h
    ·cases h
end
end Go.Proofs.YtgffdmgidnnedaaGreat.V
