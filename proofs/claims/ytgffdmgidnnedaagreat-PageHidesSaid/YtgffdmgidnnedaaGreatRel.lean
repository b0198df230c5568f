/- How the value reading stands to the machine's memory: representation, and what keeps it. -/
import Derived.Test.YtgffdmgidnnedaaGreatRun
import Derived.Laws.AppendOwn
import Derived.Laws.IdiomCopy
import Derived.Deep.Draws
namespace Go.Proofs.YtgffdmgidnnedaaGreat.V
open Go
set_option linter.unusedVariables false
/-- where a block lies: a row's slice (pointer and capacity), a box's address -/
structure Loc where
 a : Option Addr
 cap : Nat
/-- What is read only. Fz: the blocks that nobody writes. -/
inductive FRep (E : Env) (w : World) (Fz : Nat → Prop) : PV E.T → Value → Prop
 | int {k : IntKind} {n : Int} : k.has n → FRep E w Fz (.int k n) (.int k n)
 | bool {b : Bool} : FRep E w Fz (.bool b) (.bool b)
 | str {s : List Int} {bs : ByteArray} : bytesOfStr bs = s → s.length ≤ maxLen → FRep E w Fz (.str s) (.string bs)
 | ints {k : IntKind} {xs : List Int} {a : Option Addr} {cap : Nat} : (∀ x ∈ xs, k.has x) → xs.length ≤ maxLen → xs.length ≤ cap →
   (xs ≠ [] → ∃ B o, a = some ⟨B, o, none⟩ ∧ Fz B ∧ ∀ j x, xs[j]? = some x → w.cell? ⟨B, o + j, none⟩ = some (.int k x)) →
   FRep E w Fz (.ints k xs) (.slice a xs.length cap)
 | rows {i : Nat} {xs : List (E.T i)} {a : Option Addr} {cap : Nat} (cv : Nat → Nat → Value) : xs.length ≤ maxLen → xs.length ≤ cap →
   (xs ≠ [] → ∃ B o, a = some ⟨B, o, none⟩ ∧ Fz B ∧ ∀ j x c pv, xs[j]? = some x → (E.outs i x)[c]? = some pv → w.cell? ⟨B, o + j * E.sz i + c, none⟩ = some (cv j c)) →
   (∀ j x c pv, xs[j]? = some x → (E.outs i x)[c]? = some pv → FRep E w Fz pv (cv j c)) →
   FRep E w Fz (.rows i xs) (.slice a xs.length cap)
theorem FRep.mono {E : Env} {w w' : World} {Fz Fz' : Nat → Prop} (h1 : ∀ B, Fz B → Fz' B) (h2 : ∀ B, Fz B → w'.heap[B]? = w.heap[B]?)
  {p : PV E.T} {v : Value} (h : FRep E w Fz p v) : FRep E w' Fz' p v := by
 induction h with
 | int h => exact .int h
 | bool => exact .bool
 | str h hl => exact .str h hl
 | ints hk hl hcap hc =>
  refine .ints hk hl hcap fun hne => ?_
  obtain ⟨B, o, ha, hf, hx⟩ := hc hne
  exact ⟨B, o, ha, h1 _ hf, fun j x hj => by rw [World.cell?_of_block (w := w) (h2 B hf)]; exact hx j x hj⟩
 | rows cv hl hcap hc hr ih =>
  refine .rows cv hl hcap (fun hne => ?_) ih
  obtain ⟨B, o, ha, hf, hx⟩ := hc hne
  exact ⟨B, o, ha, h1 _ hf, fun j x c pv hj hp => by rw [World.cell?_of_block (w := w) (h2 B hf)]; exact hx j x c pv hj hp⟩
/-- a row's mark, its length, the cells of an element -/
def Blk.info (E : Env) : Blk E.T → Option (Nat × Nat × Nat)
 | .ints _ _ ep xs => some (ep, xs.length, 1)
 | .rows _ i ep xs => some (ep, xs.length, E.sz i)
 | _ => none
def isSlice (v : Value) : Prop := ∃ a l c, v = .slice a l c
def isPtr (v : Value) : Prop := ∃ a, v = .pointer (some a)
def ArrAt (E : Env) (ι : Nat → Loc) (id ep : Nat) (b : Blk E.T) (v : Value) : Prop :=
 isSlice v ∧ ∀ ep' len sz, b.info E = some (ep', len, sz) → ep ≤ ep' ∧ (ep = ep' → v = .slice (ι id).a len (ι id).cap)
def SubAt (E : Env) (ι : Nat → Loc) (id ep off len : Nat) (b : Blk E.T) (v : Value) : Prop :=
 isSlice v ∧ ∀ ep' len' sz, b.info E = some (ep', len', sz) → ep ≤ ep' ∧ (ep = ep' → off + len ≤ len' ∧ ∃ a cap, v = .slice a len cap ∧ len ≤ cap ∧
  (0 < len → ∃ B o, (ι id).a = some ⟨B, o, none⟩ ∧ a = some ⟨B, o + off * sz, none⟩))
def EptrAt (E : Env) (ι : Nat → Loc) (id ep : Nat) (i : Int) (fld : Nat) (b : Blk E.T) (v : Value) : Prop :=
 isPtr v ∧ ∀ ep' len sz, b.info E = some (ep', len, sz) → ep ≤ ep' ∧ (ep = ep' → 0 ≤ i ∧ i.toNat < len ∧ ∃ B o, (ι id).a = some ⟨B, o, none⟩ ∧ v = .pointer (some ⟨B, o + i.toNat * sz + fld, none⟩))
mutual
def PRep (E : Env) (w : World) (Fz : Nat → Prop) (ι : Nat → Loc) (H : List (Blk E.T)) : PV E.T → Value → Prop
 | .any, _ => True
 | .boold, v => ∃ b, v = .bool b
 | .aptr id off n i, v => (0 ≤ i ∧ i.toNat < n) ∧ ∃ b, getL H id = some b ∧ b.info E = none ∧ ∃ B o, (ι id).a = some ⟨B, o, none⟩ ∧ v = .pointer (some ⟨B, o + (off + i.toNat), none⟩)
 | .arr id ep, v => ∃ b, getL H id = some b ∧ ArrAt E ι id ep b v
 | .sub id ep off len, v => ∃ b, getL H id = some b ∧ SubAt E ι id ep off len b v
 | .eptr id ep i fld, v => ∃ b, getL H id = some b ∧ EptrAt E ι id ep i fld b v
 | .ptr id off, v => ∃ b, getL H id = some b ∧ b.info E = none ∧ ∃ B o, (ι id).a = some ⟨B, o, none⟩ ∧ v = .pointer (some ⟨B, o + off, none⟩)
 | .mapr id, v => ∃ b, getL H id = some b ∧ b.info E = none ∧ ∃ B, (ι id).a = some ⟨B, 0, none⟩ ∧ v = .map (some B)
 | .fptr l, v => ∃ B o, v = .pointer (some ⟨B, o, none⟩) ∧ (l ≠ [] → Fz B) ∧ ∀ c pv, l[c]? = some pv → ∃ u, w.cell? ⟨B, o + c, none⟩ = some u ∧ FRep E w Fz pv u
 | .nil, v => v = .pointer none
 | .nilm, v => v = .map none
 | .nilsl, v => v = .slice none 0 0
 | .agg l, v => ∃ cs, v = .agg cs ∧ (∀ p ∈ l, p.one = true) ∧ PReps E w Fz ι H l cs.toList
 | .tup l, v => ∃ cs, v = .tuple cs ∧ PReps E w Fz ι H l cs.toList
 | .fn f caps, v => ∃ cs, v = .func (.func f) #[] cs ∧ PReps E w Fz ι H caps cs.toList
 | .int k n, v => FRep E w Fz (.int k n) v
 | .bool b, v => FRep E w Fz (.bool b) v
 | .str s, v => FRep E w Fz (.str s) v
 | .ints k xs, v => FRep E w Fz (.ints k xs) v
 | .rows i xs, v => FRep E w Fz (.rows i xs) v
def PReps (E : Env) (w : World) (Fz : Nat → Prop) (ι : Nat → Loc) (H : List (Blk E.T)) : List (PV E.T) → List Value → Prop
 | [], [] => True
 | p :: ps, v :: vs => PRep E w Fz ι H p v ∧ PReps E w Fz ι H ps vs
 | _, _ => False
end
/-- what a block may become -/
structure StepB (E : Env) (ι ι' : Nat → Loc) (id : Nat) (b b' : Blk E.T) : Prop where
 flat : b.info E = none → b'.info E = none ∧ (ι' id).a = (ι id).a
 row : ∀ ep len sz, b.info E = some (ep, len, sz) → b'.info E = none ∨ ∃ ep' len' sz', b'.info E = some (ep', len', sz') ∧ ep ≤ ep' ∧ (ep = ep' → len' = len ∧ sz' = sz ∧ ι' id = ι id)
 gone : b = .gone → b' = .gone
def HLe (E : Env) (ι : Nat → Loc) (H : List (Blk E.T)) (ι' : Nat → Loc) (H' : List (Blk E.T)) : Prop :=
 ∀ id b, getL H id = some b → ∃ b', getL H' id = some b' ∧ StepB E ι ι' id b b'
theorem StepB.refl {E : Env} {ι : Nat → Loc} {id : Nat} (b : Blk E.T) : StepB E ι ι id b b :=
 ⟨fun h => ⟨h, rfl⟩, fun ep len sz h => .inr ⟨ep, len, sz, h, Nat.le_refl _, fun _ => ⟨rfl, rfl, rfl⟩⟩, fun e => e⟩
theorem StepB.of_loc {E : Env} {ι ι' : Nat → Loc} {id : Nat} (b : Blk E.T) (h : ι' id = ι id) : StepB E ι ι' id b b :=
 ⟨fun hb => ⟨hb, by rw [h]⟩, fun ep len sz hb => .inr ⟨ep, len, sz, hb, Nat.le_refl _, fun _ => ⟨rfl, rfl, h⟩⟩, fun e => e⟩
theorem StepB.trans {E : Env} {ι ι' ι'' : Nat → Loc} {id : Nat} {b b' b'' : Blk E.T} (h : StepB E ι ι' id b b') (g : StepB E ι' ι'' id b' b'') : StepB E ι ι'' id b b'' := by
 refine ⟨fun hb => ?_, fun ep len sz hb => ?_, fun hb => g.gone (h.gone hb)⟩
 ·obtain ⟨h1, h2⟩ := h.flat hb
  obtain ⟨g1, g2⟩ := g.flat h1
  exact ⟨g1, by rw [g2, h2]⟩
 ·rcases h.row ep len sz hb with h1 | ⟨ep', len', sz', h1, h2, h3⟩
  ·exact .inl (g.flat h1).1
  ·rcases g.row ep' len' sz' h1 with g1 | ⟨ep'', len'', sz'', g1, g2, g3⟩
   ·exact .inl g1
   ·refine .inr ⟨ep'', len'', sz'', g1, by omega, fun e => ?_⟩
    obtain ⟨e1, e2, e3⟩ := h3 (by omega)
    obtain ⟨f1, f2, f3⟩ := g3 (by omega)
    exact ⟨by rw [f1, e1], by rw [f2, e2], by rw [f3, e3]⟩
theorem HLe.refl {E : Env} (ι : Nat → Loc) (H : List (Blk E.T)) : HLe E ι H ι H := fun id b h => ⟨b, h, .refl b⟩
theorem HLe.trans {E : Env} {ι ι' ι'' : Nat → Loc} {H H' H'' : List (Blk E.T)} (h : HLe E ι H ι' H') (g : HLe E ι' H' ι'' H'') : HLe E ι H ι'' H'' := by
 intro id b hb
 obtain ⟨b', h1, h2⟩ := h id b hb
 obtain ⟨b'', g1, g2⟩ := g id b' h1
 exact ⟨b'', g1, h2.trans g2⟩
section
variable {E : Env} {w w' : World} {Fz Fz' : Nat → Prop} {ι ι' : Nat → Loc} {H H' : List (Blk E.T)}
theorem ArrAt.step {id ep : Nat} {b b' : Blk E.T} {v : Value} (h : ArrAt E ι id ep b v) (s : StepB E ι ι' id b b') : ArrAt E ι' id ep b' v := by
 obtain ⟨h1, h2⟩ := h
 refine ⟨h1, fun ep' len sz hb => ?_⟩
 cases hi : b.info E with
 | none => rw [(s.flat hi).1] at hb; cases hb
 | some x =>
  obtain ⟨e0, l0, s0⟩ := x
  obtain ⟨g1, g2⟩ := h2 e0 l0 s0 hi
  rcases s.row e0 l0 s0 hi with q | ⟨e1, l1, s1, q1, q2, q3⟩
  ·rw [q] at hb; cases hb
  ·rw [q1] at hb
   simp only [Option.some.injEq, Prod.mk.injEq] at hb
   obtain ⟨rfl, rfl, rfl⟩ := hb
   refine ⟨by omega, fun e => ?_⟩
   obtain ⟨r1, r2, r3⟩ := q3 (by omega)
   rw [r1, r3]; exact g2 (by omega)
theorem SubAt.step {id ep off len : Nat} {b b' : Blk E.T} {v : Value} (h : SubAt E ι id ep off len b v) (s : StepB E ι ι' id b b') : SubAt E ι' id ep off len b' v := by
 obtain ⟨h1, h2⟩ := h
 refine ⟨h1, fun ep' len' sz hb => ?_⟩
 cases hi : b.info E with
 | none => rw [(s.flat hi).1] at hb; cases hb
 | some x =>
  obtain ⟨e0, l0, s0⟩ := x
  obtain ⟨g1, g2⟩ := h2 e0 l0 s0 hi
  rcases s.row e0 l0 s0 hi with q | ⟨e1, l1, s1, q1, q2, q3⟩
  ·rw [q] at hb; cases hb
  ·rw [q1] at hb
   simp only [Option.some.injEq, Prod.mk.injEq] at hb
   obtain ⟨rfl, rfl, rfl⟩ := hb
   refine ⟨by omega, fun e => ?_⟩
   obtain ⟨r1, r2, r3⟩ := q3 (by omega)
   rw [r1, r2, r3]; exact g2 (by omega)
theorem EptrAt.step {id ep : Nat} {i : Int} {fld : Nat} {b b' : Blk E.T} {v : Value} (h : EptrAt E ι id ep i fld b v) (s : StepB E ι ι' id b b') : EptrAt E ι' id ep i fld b' v := by
 obtain ⟨h1, h2⟩ := h
 refine ⟨h1, fun ep' len' sz hb => ?_⟩
 cases hi : b.info E with
 | none => rw [(s.flat hi).1] at hb; cases hb
 | some x =>
  obtain ⟨e0, l0, s0⟩ := x
  obtain ⟨g1, g2⟩ := h2 e0 l0 s0 hi
  rcases s.row e0 l0 s0 hi with q | ⟨e1, l1, s1, q1, q2, q3⟩
  ·rw [q] at hb; cases hb
  ·rw [q1] at hb
   simp only [Option.some.injEq, Prod.mk.injEq] at hb
   obtain ⟨rfl, rfl, rfl⟩ := hb
   refine ⟨by omega, fun e => ?_⟩
   obtain ⟨r1, r2, r3⟩ := q3 (by omega)
   rw [r1, r2, r3]; exact g2 (by omega)
/-- the three things that a reading rests on -/
structure Keep (E : Env) (w w' : World) (Fz Fz' : Nat → Prop) (ι ι' : Nat → Loc) (H H' : List (Blk E.T)) : Prop where
 fz : ∀ B, Fz B → Fz' B
 heap : ∀ B, Fz B → w'.heap[B]? = w.heap[B]?
 le : HLe E ι H ι' H'
mutual
theorem PRep.mono (K : Keep E w w' Fz Fz' ι ι' H H') : ∀ {p : PV E.T} {v : Value}, PRep E w Fz ι H p v → PRep E w' Fz' ι' H' p v
 | .any, _, _ => by simp [PRep]
 | .arr id ep, v, h => by
  simp only [PRep] at h ⊢
  obtain ⟨b, hb, h⟩ := h
  obtain ⟨b', hb', s⟩ := K.le id b hb
  exact ⟨b', hb', h.step s⟩
 | .sub id ep off len, v, h => by
  simp only [PRep] at h ⊢
  obtain ⟨b, hb, h⟩ := h
  obtain ⟨b', hb', s⟩ := K.le id b hb
  exact ⟨b', hb', h.step s⟩
 | .eptr id ep i fld, v, h => by
  simp only [PRep] at h ⊢
  obtain ⟨b, hb, h⟩ := h
  obtain ⟨b', hb', s⟩ := K.le id b hb
  exact ⟨b', hb', h.step s⟩
 | .ptr id off, v, h => by
  simp only [PRep] at h ⊢
  obtain ⟨b, hb, hi, h⟩ := h
  obtain ⟨b', hb', s⟩ := K.le id b hb
  obtain ⟨s1, s2⟩ := s.flat hi
  exact ⟨b', hb', s1, by rw [s2]; exact h⟩
 | .mapr id, v, h => by
  simp only [PRep] at h ⊢
  obtain ⟨b, hb, hi, h⟩ := h
  obtain ⟨b', hb', s⟩ := K.le id b hb
  obtain ⟨s1, s2⟩ := s.flat hi
  exact ⟨b', hb', s1, by rw [s2]; exact h⟩
 | .fptr l, v, h => by
  simp only [PRep] at h ⊢
  obtain ⟨B, o, rfl, hf, hc⟩ := h
  refine ⟨B, o, rfl, fun hl => K.fz _ (hf hl), fun c pv hl => ?_⟩
  obtain ⟨u, hu, hr⟩ := hc c pv hl
  have hne : l ≠ [] := fun e => by subst e; simp at hl
  exact ⟨u, by rw [World.cell?_of_block (w := w) (K.heap B (hf hne))]; exact hu, hr.mono K.fz K.heap⟩
 | .boold, v, h => by simpa only [PRep] using h
 | .aptr id off n i, v, h => by
  simp only [PRep] at h ⊢
  obtain ⟨h0, b, hb, hi, h⟩ := h
  obtain ⟨b', hb', s⟩ := K.le id b hb
  obtain ⟨s1, s2⟩ := s.flat hi
  exact ⟨h0, b', hb', s1, by rw [s2]; exact h⟩
 | .nil, v, h => by simpa only [PRep] using h
 | .nilm, v, h => by simpa only [PRep] using h
 | .nilsl, v, h => by simpa only [PRep] using h
 | .agg l, v, h => by
  simp only [PRep] at h ⊢
  obtain ⟨cs, rfl, h1, h⟩ := h
  exact ⟨cs, rfl, h1, PReps.mono K h⟩
 | .tup l, v, h => by
  simp only [PRep] at h ⊢
  obtain ⟨cs, rfl, h⟩ := h
  exact ⟨cs, rfl, PReps.mono K h⟩
 | .fn f caps, v, h => by
  simp only [PRep] at h ⊢
  obtain ⟨cs, rfl, h⟩ := h
  exact ⟨cs, rfl, PReps.mono K h⟩
 | .int k n, v, h => by simp only [PRep] at h ⊢; exact h.mono K.fz K.heap
 | .bool b, v, h => by simp only [PRep] at h ⊢; exact h.mono K.fz K.heap
 | .str s, v, h => by simp only [PRep] at h ⊢; exact h.mono K.fz K.heap
 | .ints k xs, v, h => by simp only [PRep] at h ⊢; exact h.mono K.fz K.heap
 | .rows i xs, v, h => by simp only [PRep] at h ⊢; exact h.mono K.fz K.heap
theorem PReps.mono (K : Keep E w w' Fz Fz' ι ι' H H') : ∀ {ps : List (PV E.T)} {vs : List Value}, PReps E w Fz ι H ps vs → PReps E w' Fz' ι' H' ps vs
 | [], [], h => by simp only [PReps]
 | p :: ps, v :: vs, h => by
  simp only [PReps] at h ⊢
  exact ⟨PRep.mono K h.1, PReps.mono K h.2⟩
 | [], _ :: _, h => by simp only [PReps] at h
 | _ :: _, [], h => by simp only [PReps] at h
end
/-- what a value that fills one cell is -/
theorem PRep.cell {p : PV E.T} {v : Value} (h : PRep E w Fz ι H p v) (h1 : p.one = true) : v.oneCell' = true := by
 cases p <;> simp only [PV.one, Bool.false_eq_true] at h1 <;> simp only [PRep] at h
 case int => cases h; rfl
 case bool => cases h; rfl
 case str => cases h; rfl
 case ints => cases h; rfl
 case rows => cases h; rfl
 case arr => obtain ⟨b, _, ⟨a, l, c, rfl⟩, _⟩ := h; rfl
 case sub => obtain ⟨b, _, ⟨a, l, c, rfl⟩, _⟩ := h; rfl
 case eptr => obtain ⟨b, _, ⟨a, rfl⟩, _⟩ := h; rfl
 case ptr => obtain ⟨b, _, _, B, o, _, rfl⟩ := h; rfl
 case fptr => obtain ⟨B, o, rfl, _⟩ := h; rfl
 case mapr => obtain ⟨b, _, _, B, _, rfl⟩ := h; rfl
 case nil => subst h; rfl
 case nilm => subst h; rfl
 case nilsl => subst h; rfl
 case fn => obtain ⟨cs, rfl, _⟩ := h; rfl
theorem oneCell_cells {v : Value} (h : v.oneCell' = true) : v.cells = #[v] := by
 cases v <;> first | rfl | simp [Value.oneCell'] at h
theorem PReps.length : ∀ {ps : List (PV E.T)} {vs : List Value}, PReps E w Fz ι H ps vs → ps.length = vs.length
 | [], [], _ => rfl
 | _ :: _, _ :: _, h => by simp only [PReps] at h; simp [PReps.length h.2]
 | [], _ :: _, h => by simp only [PReps] at h
 | _ :: _, [], h => by simp only [PReps] at h
theorem PReps.get : ∀ {ps : List (PV E.T)} {vs : List Value}, PReps E w Fz ι H ps vs → ∀ {i : Nat} {p : PV E.T}, ps[i]? = some p → ∃ v, vs[i]? = some v ∧ PRep E w Fz ι H p v
 | [], [], _, i, p, hi => by simp at hi
 | q :: ps, v :: vs, h, 0, p, hi => by
  simp only [PReps] at h
  simp only [List.getElem?_cons_zero, Option.some.injEq] at hi
  subst hi
  exact ⟨v, rfl, h.1⟩
 | q :: ps, v :: vs, h, i + 1, p, hi => by
  simp only [PReps] at h
  simp only [List.getElem?_cons_succ] at hi ⊢
  exact h.2.get hi
 | [], _ :: _, h, _, _, _ => by simp only [PReps] at h
 | _ :: _, [], h, _, _, _ => by simp only [PReps] at h
theorem PReps.of_get : ∀ {ps : List (PV E.T)} {vs : List Value}, ps.length = vs.length → (∀ (i : Nat) (p : PV E.T) (v : Value), ps[i]? = some p → vs[i]? = some v → PRep E w Fz ι H p v) → PReps E w Fz ι H ps vs
 | [], [], _, _ => by simp only [PReps]
 | p :: ps, v :: vs, hl, h => by
  simp only [PReps]
  exact ⟨h 0 p v rfl rfl, PReps.of_get (by simpa using hl) fun i p v hp hv => h (i + 1) p v (by simpa using hp) (by simpa using hv)⟩
 | [], _ :: _, hl, _ => by simp at hl
 | _ :: _, [], hl, _ => by simp at hl
theorem PReps.append : ∀ {ps : List (PV E.T)} {vs : List Value} {qs : List (PV E.T)} {us : List Value}, PReps E w Fz ι H ps vs → PReps E w Fz ι H qs us → PReps E w Fz ι H (ps ++ qs) (vs ++ us)
 | [], [], _, _, _, h => h
 | _ :: _, _ :: _, _, _, g, h => by
  simp only [PReps] at g
  simp only [List.cons_append, PReps]
  exact ⟨g.1, g.2.append h⟩
 | [], _ :: _, _, _, g, _ => by simp only [PReps] at g
 | _ :: _, [], _, _, g, _ => by simp only [PReps] at g
end
theorem getL_eq {α : Type} : ∀ (l : List α) (i : Nat), getL l i = l[i]?
 | [], _ => rfl
 | _ :: _, 0 => rfl
 | _ :: l, i + 1 => by simp [getL, getL_eq l i]
theorem setL_eq {α : Type} : ∀ (l : List α) (i : Nat) (a : α), setL l i a = l.set i a
 | [], _, _ => rfl
 | _ :: _, 0, _ => rfl
 | _ :: l, i + 1, a => by simp [setL, setL_eq l i]
theorem takeL_eq {α : Type} : ∀ (n : Nat) (l r : List α), takeL n l = some r → n ≤ l.length ∧ r = l.take n
 | 0, _, _, h => by simp [takeL] at h; subst h; simp
 | n + 1, [], _, h => by simp [takeL] at h
 | n + 1, x :: l, r, h => by
  simp only [takeL] at h
  split at h
  ·rename_i q hq
   obtain ⟨h1, rfl⟩ := takeL_eq n l q hq
   simp at h; subst h
   exact ⟨by simp; omega, by simp⟩
  ·cases h
theorem dropL_eq {α : Type} : ∀ (n : Nat) (l r : List α), dropL n l = some r → n ≤ l.length ∧ r = l.drop n
 | 0, _, _, h => by simp [dropL] at h; subst h; simp
 | n + 1, [], _, h => by simp [dropL] at h
 | n + 1, x :: l, r, h => by
  simp only [dropL] at h
  obtain ⟨h1, rfl⟩ := dropL_eq n l r h
  exact ⟨by simp; omega, by simp⟩
theorem dropL_of {α : Type} : ∀ {n : Nat} {l : List α}, n ≤ l.length → dropL n l = some (l.drop n)
 | 0, _, _ => rfl
 | n + 1, [], h => by simp at h
 | n + 1, x :: l, h => by
  simp only [dropL]
  rw [dropL_of (by simpa using h)]
  simp
theorem replL_eq {α : Type} : ∀ (l : List α) (n : Nat) (as r : List α), replL l n as = some r → n + as.length ≤ l.length ∧ r = l.take n ++ as ++ l.drop (n + as.length)
 | l, 0, [], r, h => by simp [replL] at h; subst h; simp
 | [], 0, _ :: _, _, h => by simp [replL] at h
 | x :: l, 0, a :: as, r, h => by
  simp only [replL] at h
  split at h
  ·rename_i q hq
   obtain ⟨h1, rfl⟩ := replL_eq l 0 as q hq
   simp at h h1; subst h
   exact ⟨by simp; omega, by simp⟩
  ·cases h
 | [], n + 1, as, r, h => by cases as <;> simp [replL] at h
 | x :: l, n + 1, as, r, h => by
  obtain ⟨q, hq, h'⟩ : ∃ q, replL l n as = some q ∧ x :: q = r := by
   cases as <;> simp only [replL] at h <;> split at h <;> first | (rename_i q hq; exact ⟨q, hq, by simpa using h⟩) | cases h
  ·
   obtain ⟨h1, rfl⟩ := replL_eq l n as q hq
   subst h'
   refine ⟨by simp; omega, ?_⟩
   rw [show n + 1 + as.length = (n + as.length) + 1 by omega]
   simp
def Blk.owned {T : Nat → Type} : Blk T → Bool
 | .box _ _ => true
 | .ints .frozen _ _ _ => false
 | .ints _ _ _ _ => true
 | .rows .frozen _ _ _ => false
 | .rows _ _ _ _ => true
 | .gone => false
 | .mp _ _ => true
 | .mpr _ _ _ _ => true
def Blk.frozen {T : Nat → Type} : Blk T → Bool
 | .ints .frozen _ _ _ => true
 | .rows .frozen _ _ _ => true
 | _ => false
/-- the memory of a row: its cells up to its capacity, each to be written -/
def RowAt (w : World) (l : Loc) (len sz : Nat) : Prop :=
 len ≤ l.cap ∧ len ≤ maxLen ∧ ((l.a = none ∧ l.cap = 0) ∨ ∃ B o, l.a = some ⟨B, o, none⟩ ∧ B < w.heap.size ∧ ∀ c, c < l.cap * sz → (∃ u, w.cell? ⟨B, o + c, none⟩ = some u) ∧ w.frozen? ⟨B, o + c, none⟩ = false)
/-- the cells of a value that lies in a map -/
def CellsRep (E : Env) (w : World) (Fz : Nat → Prop) : List (PV E.T) → List Value → Prop
 | [], [] => True
 | p :: ps, v :: vs => p.one = true ∧ FRep E w Fz p v ∧ CellsRep E w Fz ps vs
 | _, _ => False
/-- what stands in a map, of its cells: a struct, or one cell -/
def entVal (sz : Nat) (vs : List Value) : Value := match Nat.beq sz 2, vs with
 | true, [v] => v
 | _, vs => .agg vs.toArray
/-- an entry of a map -/
def EntRep (E : Env) (w : World) (Fz : Nat → Prop) (k : KK) (i : Nat) (x : E.T i) (e : MapEntry) : Prop :=
 ∃ kp ps vs, E.outs i x = kp :: ps ∧ FRep E w Fz kp e.key ∧ (kvOf k kp).isSome = true ∧ e.val = entVal (E.sz i) vs ∧ CellsRep E w Fz ps vs
def EntsRep (E : Env) (w : World) (Fz : Nat → Prop) (k : KK) (i : Nat) : List (E.T i) → List MapEntry → Prop
 | [], [] => True
 | x :: xs, e :: es => EntRep E w Fz k i x e ∧ EntsRep E w Fz k i xs es
 | _, _ => False
theorem CellsRep.mono {E : Env} {w w' : World} {Fz Fz' : Nat → Prop} (h1 : ∀ B, Fz B → Fz' B) (h2 : ∀ B, Fz B → w'.heap[B]? = w.heap[B]?) : ∀ {ps : List (PV E.T)} {vs : List Value}, CellsRep E w Fz ps vs → CellsRep E w' Fz' ps vs
 | [], [], _ => trivial
 | _ :: _, _ :: _, h => ⟨h.1, h.2.1.mono h1 h2, h.2.2.mono h1 h2⟩
theorem EntsRep.mono {E : Env} {w w' : World} {Fz Fz' : Nat → Prop} (h1 : ∀ B, Fz B → Fz' B) (h2 : ∀ B, Fz B → w'.heap[B]? = w.heap[B]?) {k : KK} {i : Nat} : ∀ {xs : List (E.T i)} {es : List MapEntry}, EntsRep E w Fz k i xs es → EntsRep E w' Fz' k i xs es
 | [], [], _ => trivial
 | _ :: _, _ :: _, h => by
  obtain ⟨⟨kp, ps, vs, a, b, b', c, d⟩, h⟩ := h
  exact ⟨⟨kp, ps, vs, a, b.mono h1 h2, b', c, d.mono h1 h2⟩, h.mono h1 h2⟩
def BRep (E : Env) (w : World) (Fz : Nat → Prop) (ι : Nat → Loc) (H : List (Blk E.T)) (id : Nat) : Blk E.T → Prop
 | .gone => True
 | .mp _ k => ∃ B, (ι id).a = some ⟨B, 0, none⟩ ∧ ∃ es c, w.heap[B]? = some (.map es c) ∧ ∀ e ∈ es.toList, ∃ n, e.key = .int k n
 | .mpr _ k i xs => ∃ B, (ι id).a = some ⟨B, 0, none⟩ ∧ ∃ es c, w.heap[B]? = some (.map es c) ∧ EntsRep E w Fz k i xs es.toList
 | .box _ cells => ∃ B o, (ι id).a = some ⟨B, o, none⟩ ∧ B < w.heap.size ∧ ∀ c p, cells[c]? = some p → p.one = true ∧ w.frozen? ⟨B, o + c, none⟩ = false ∧ ∃ u, w.cell? ⟨B, o + c, none⟩ = some u ∧ PRep E w Fz ι H p u
 | .ints _ k _ xs => RowAt w (ι id) xs.length 1 ∧ (∀ x ∈ xs, k.has x) ∧ ∀ B o, (ι id).a = some ⟨B, o, none⟩ → ∀ j x, xs[j]? = some x → w.cell? ⟨B, o + j, none⟩ = some (.int k x)
 | .rows _ i _ xs => RowAt w (ι id) xs.length (E.sz i) ∧ ∀ B o, (ι id).a = some ⟨B, o, none⟩ → ∀ j x c p, xs[j]? = some x → (E.outs i x)[c]? = some p → ∃ u, w.cell? ⟨B, o + j * E.sz i + c, none⟩ = some u ∧ FRep E w Fz p u
/-- the blocks that the call may write; where they lie -/
structure HRep (E : Env) (w : World) (Fz : Nat → Prop) (ι : Nat → Loc) (H : List (Blk E.T)) : Prop where
 rep : ∀ id b, getL H id = some b → BRep E w Fz ι H id b
 apart : ∀ i j b b' A A', i ≠ j → getL H i = some b → getL H j = some b' → b.owned = true → b'.owned = true → (ι i).a = some A → (ι j).a = some A' → A.block ≠ A'.block
 free : ∀ i b A, getL H i = some b → b.owned = true → (ι i).a = some A → ¬ Fz A.block
 held : ∀ i b A, getL H i = some b → b.frozen = true → (ι i).a = some A → Fz A.block
 fz : ∀ B, Fz B → B < w.heap.size
theorem RowAt.keep {w w' : World} {l : Loc} {len sz : Nat} (h : RowAt w l len sz) (hb : ∀ A, l.a = some A → w'.heap[A.block]? = w.heap[A.block]?) : RowAt w' l len sz := by
 obtain ⟨h1, h2, h3⟩ := h
 refine ⟨h1, h2, ?_⟩
 rcases h3 with h3 | ⟨B, o, ha, hB, hc⟩
 ·exact .inl h3
 ·have e := hb _ ha
  simp only at e
  refine .inr ⟨B, o, ha, ?_, fun c hc' => ?_⟩
  ·rcases Nat.lt_or_ge B w'.heap.size with q | q
   ·exact q
   ·rw [Array.getElem?_eq_none q, Array.getElem?_eq_getElem hB] at e; cases e
  ·rw [World.cell?_of_block (w := w) e, World.frozen?_of_block (w := w) e]; exact hc c hc'
theorem BRep.keep {E : Env} {w w' : World} {Fz Fz' : Nat → Prop} {ι ι' : Nat → Loc} {H H' : List (Blk E.T)} (K : Keep E w w' Fz Fz' ι ι' H H') {id : Nat} {b : Blk E.T}
  (h : BRep E w Fz ι H id b) (hι : ι' id = ι id) (hb : ∀ A, (ι id).a = some A → w'.heap[A.block]? = w.heap[A.block]?) : BRep E w' Fz' ι' H' id b := by
 cases b with
 | gone => trivial
 | mp m k =>
  simp only [BRep] at h ⊢
  obtain ⟨B, ha, es, c, he, hk⟩ := h
  have e := hb _ ha
  exact ⟨B, by rw [hι]; exact ha, es, c, by rw [← he]; exact e, hk⟩
 | mpr m k i xs =>
  simp only [BRep] at h ⊢
  obtain ⟨B, ha, es, c, he, hk⟩ := h
  have e := hb _ ha
  exact ⟨B, by rw [hι]; exact ha, es, c, by rw [← he]; exact e, hk.mono K.fz K.heap⟩
 | box m cells =>
  simp only [BRep] at h ⊢
  obtain ⟨B, o, ha, hB, hc⟩ := h
  have e := hb _ ha
  simp only at e
  refine ⟨B, o, by rw [hι]; exact ha, ?_, fun c p hp => ?_⟩
  ·rcases Nat.lt_or_ge B w'.heap.size with q | q
   ·exact q
   ·rw [Array.getElem?_eq_none q, Array.getElem?_eq_getElem hB] at e; cases e
  ·obtain ⟨h1, h2, u, h3, h4⟩ := hc c p hp
   exact ⟨h1, by rw [World.frozen?_of_block (w := w) e]; exact h2, u, by rw [World.cell?_of_block (w := w) e]; exact h3, h4.mono K⟩
 | ints m k ep xs =>
  simp only [BRep] at h ⊢
  rw [hι]
  refine ⟨h.1.keep hb, h.2.1, fun B o ha j x hj => ?_⟩
  have e : w'.heap[B]? = w.heap[B]? := hb _ ha
  rw [World.cell?_of_block (w := w) e]; exact h.2.2 B o ha j x hj
 | rows m i ep xs =>
  simp only [BRep] at h ⊢
  rw [hι]
  refine ⟨h.1.keep hb, fun B o ha j x c p hj hp => ?_⟩
  have e : w'.heap[B]? = w.heap[B]? := hb _ ha
  rw [World.cell?_of_block (w := w) e]
  obtain ⟨u, h1, h2⟩ := h.2 B o ha j x c p hj hp
  exact ⟨u, h1, h2.mono K.fz K.heap⟩
end Go.Proofs.YtgffdmgidnnedaaGreat.V
