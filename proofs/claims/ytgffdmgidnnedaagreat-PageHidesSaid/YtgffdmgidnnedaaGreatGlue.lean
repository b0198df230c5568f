/- From a row's reading of an argument to the value reading of it. -/
import Derived.Test.YtgffdmgidnnedaaGreatFun
import Derived.Test.YtgffdmgidnnedaaGreatRows
import Derived.Below
import Derived.ChangeSlices
import Derived.ChangeArms
import Derived.OpenShut
namespace Go.Proofs.YtgffdmgidnnedaaGreat.V
open Go
set_option linter.unusedVariables false
set_option linter.unusedSimpArgs false
section
variable {G : Prg} {w : World} {Fz : Nat → Prop}
/-- the shapes of fields, one behind the other -/
def descF (G : Prg) (rec : TypeId → Option (List TSh)) : Nat → List Field → Option (List TSh)
 | _, [] => some []
 | o, f :: fs => match rec f.type with
  | some sh => match Nat.beq f.offset o, Nat.beq (G.P.cellsOf f.type) sh.length, descF G rec (o + sh.length) fs with
   | true, true, some r => some (sh ++ r)
   | _, _, _ => none
  | none => none
/-- the elements of an array, as if they were fields -/
def arrF (G : Prg) (e : TypeId) : Nat → Nat → List Field
 | 0, _ => []
 | n + 1, j => { name := "", type := e, offset := j * G.P.cellsOf e, embedded := false, tag := "", pkgPath := "", byteOffset := 0 } :: arrF G e n (j + 1)
/-- the shapes of a type's cells -/
def descT (G : Prg) : Nat → TypeId → Option (List TSh)
 | 0, _ => none
 | d + 1, t => match G.P.underlying t with
  | some (.int k) => some [.int k]
  | some .bool => some [.bool]
  | some .string => some [.str]
  | some (.slice e) => match G.el e with
   | some (.int k) => some [.ints k]
   | some (.row i) => some [.rows i]
   | none => none
  | some (.struct fs) => match descF G (fun t => descT G d t) 0 fs.toList with
   | some r => match Nat.beq (G.P.cellsOf t) r.length with
    | true => some r
    | false => none
   | none => none
  | some (.array n e) => match descF G (fun t => descT G d t) 0 (arrF G e n 0) with
   | some r => match Nat.beq (G.P.cellsOf t) r.length with
    | true => some r
    | false => none
   | none => none
  | _ => none
/-- values of these shapes -/
def Fits {T : Nat → Type} : List TSh → List (PV T) → Prop
 | [], [] => True
 | s :: l, p :: ps => (match s, p with
   | .int k, .int k' _ => k = k'
   | .bool, .bool _ => True
   | .str, .str _ => True
   | .ints k, .ints k' _ => k = k'
   | .rows i, .rows j _ => i = j
   | _, _ => False) ∧ Fits l ps
 | _, _ => False
def FReps (E : Env) (w : World) (Fz : Nat → Prop) : List (PV E.T) → List Value → Prop
 | [], [] => True
 | p :: ps, v :: vs => FRep E w Fz p v ∧ FReps E w Fz ps vs
 | _, _ => False
theorem FReps.append {E : Env} : ∀ {ps qs : List (PV E.T)} {vs us : List Value}, FReps E w Fz ps vs → FReps E w Fz qs us → FReps E w Fz (ps ++ qs) (vs ++ us)
 | [], _, [], _, _, h => h
 | _ :: _, _, _ :: _, _, g, h => ⟨g.1, g.2.append h⟩
 | [], _, _ :: _, _, g, _ => g.elim
 | _ :: _, _, [], _, g, _ => g.elim
theorem FReps.length {E : Env} : ∀ {ps : List (PV E.T)} {vs : List Value}, FReps E w Fz ps vs → ps.length = vs.length
 | [], [], _ => rfl
 | _ :: _, _ :: _, g => by simp [g.2.length]
 | [], _ :: _, g => g.elim
 | _ :: _, [], g => g.elim
theorem FReps.get {E : Env} : ∀ {ps : List (PV E.T)} {vs : List Value}, FReps E w Fz ps vs → ∀ {c : Nat} {p : PV E.T}, ps[c]? = some p → ∃ v, vs[c]? = some v ∧ FRep E w Fz p v
 | [], [], _, c, p, h => by simp at h
 | q :: ps, v :: vs, g, 0, p, h => by simp only [List.getElem?_cons_zero, Option.some.injEq] at h; subst h; exact ⟨v, rfl, g.1⟩
 | q :: ps, v :: vs, g, c + 1, p, h => by simp only [List.getElem?_cons_succ] at h ⊢; exact g.2.get h
 | [], _ :: _, g, _, _, _ => g.elim
 | _ :: _, [], g, _, _, _ => g.elim
theorem FReps.toP {ι : Nat → Loc} {H : List (Blk G.E.T)} : ∀ {ps : List (PV G.E.T)} {vs : List Value}, FReps G.E w Fz ps vs → PReps G.E w Fz ι H ps vs
 | [], [], _ => by simp [PReps]
 | _ :: _, _ :: _, g => by simp only [PReps]; exact ⟨g.1.toP, FReps.toP g.2⟩
 | [], _ :: _, g => g.elim
 | _ :: _, [], g => g.elim
theorem Fits.append {T : Nat → Type} : ∀ {l m : List TSh} {ps qs : List (PV T)}, Fits l ps → Fits m qs → Fits (l ++ m) (ps ++ qs)
 | [], _, [], _, _, h => h
 | _ :: _, _, _ :: _, _, g, h => ⟨g.1, g.2.append h⟩
 | [], _, _ :: _, _, g, _ => g.elim
 | _ :: _, _, [], _, g, _ => g.elim
/-- the payload of values that fit -/
def payOf {T : Nat → Type} : List (PV T) → List (LV T)
 | [] => []
 | .int _ n :: l => .int n :: payOf l
 | .bool b :: l => .bool b :: payOf l
 | .str s :: l => .str s :: payOf l
 | .ints _ xs :: l => .ints xs :: payOf l
 | .rows i xs :: l => .rows i xs :: payOf l
 | _ :: l => payOf l
theorem reb_payOf {T : Nat → Type} {ρ : Nat → Nat × Nat} : ∀ {shs : List TSh} {ps : List (PV T)}, Fits shs ps → ∀ r, rebTs ρ shs (payOf ps ++ r) = (ps, r)
 | [], [], _, r => rfl
 | s :: l, p :: ps, h, r => by
  obtain ⟨h1, h2⟩ := h
  have ih := reb_payOf (ρ := ρ) h2 r
  cases s <;> cases p <;> simp only at h1
  case int.int => subst h1; simp only [payOf, List.cons_append, rebTs, rebT, ih]
  case bool.bool => simp only [payOf, List.cons_append, rebTs, rebT, ih]
  case str.str => simp only [payOf, List.cons_append, rebTs, rebT, ih]
  case ints.ints => subst h1; simp only [payOf, List.cons_append, rebTs, rebT, ih]
  case rows.rows => subst h1; simp only [payOf, List.cons_append, rebTs, rebT, dite_true, ih]; rfl
 | [], _ :: _, h, _ => h.elim
 | _ :: _, [], h, _ => h.elim
/-- how many values and letters a value holds, each counted as often as it is met -/
def sumB {T : Nat → Type} (b : (i : Nat) → T i → Nat) (i : Nat) : List (T i) → Nat
 | [] => 0
 | x :: l => b i x + sumB b i l
def bulkP {T : Nat → Type} (b : (i : Nat) → T i → Nat) : PV T → Nat
 | .int _ _ => 1
 | .bool _ => 1
 | .str s => s.length + 1
 | .ints _ xs => xs.length + 1
 | .rows i xs => sumB b i xs + 1
 | _ => 0
def bulkPs {T : Nat → Type} (b : (i : Nat) → T i → Nat) : List (PV T) → Nat
 | [] => 0
 | p :: l => bulkP b p + bulkPs b l
theorem bulkPs_append {T : Nat → Type} {b : (i : Nat) → T i → Nat} : ∀ {l m : List (PV T)}, bulkPs b (l ++ m) = bulkPs b l + bulkPs b m
 | [], m => by simp [bulkPs]
 | p :: l, m => by simp only [List.cons_append, bulkPs]; rw [bulkPs_append]; omega
/-- what is asked of the program's rows; b: the bulk of an element -/
structure RowsOk (G : Prg) (b : (i : Nat) → G.E.T i → Nat) : Prop where
 bulk : ∀ i x, b i x = bulkPs b (G.E.outs i x)
 row : ∀ e i, G.el e = some (.row i) → ∃ d shs, descT G d e = some shs ∧ G.P.cellsOf e = G.E.sz i ∧ 0 < G.E.sz i ∧ ∀ ps : List (PV G.E.T), Fits shs ps → ∃ x, G.E.outs i x = ps
 int : ∀ e k, G.el e = some (.int k) → G.P.underlying e = some (.int k) ∧ G.P.cellsOf e = 1
theorem wf_has {k : IntKind} {n : Int} (h : (Lit.int k n).wf = true) : k.has n := by
 simpa [Lit.wf, IntKind.has] using h
theorem list_of {α : Type} {Q : Nat → α → Prop} : ∀ (n : Nat), (∀ i, i < n → ∃ x, Q i x) → ∃ xs : List α, xs.length = n ∧ ∀ i x, xs[i]? = some x → Q i x
 | 0, _ => ⟨[], rfl, fun i x h => by simp at h⟩
 | n + 1, h => by
  obtain ⟨xs, h1, h2⟩ := list_of n fun i hi => h i (by omega)
  obtain ⟨x, hx⟩ := h n (by omega)
  refine ⟨xs ++ [x], by simp [h1], fun i y hy => ?_⟩
  by_cases hi : i < n
  ·rw [List.getElem?_append_left (by omega)] at hy; exact h2 i y hy
  ·have : i = n := by
    have := (List.getElem?_eq_some_iff.1 hy).1
    simp at this; omega
   subst this
   rw [List.getElem?_append_right (by omega)] at hy
   simp [h1] at hy
   subst hy; exact hx
theorem cell?_lt {a : Addr} {v : Value} (h : w.cell? a = some v) : a.block < w.heap.size ∧ a.spot = none := by
 unfold World.cell? at h
 split at h
 ·rename_i hb
  refine ⟨(Array.getElem?_eq_some_iff.1 hb).1, ?_⟩
  split at h
  ·cases h
  ·rename_i hs; simpa using hs
 ·cases h
variable {H : Type} {enc : TypeId × Value → H} {base : Nat} {spare : Nat → Bool} {held : Bool}
/-- one place's reading: its cells, read -/
theorem elem_reads {n : Nat} {e : TypeId} {a : Addr} {x : DataW H × List MemPlace} {sz : Nat} (hsz : G.P.cellsOf e = sz)
  (h : (w.cells? base a (G.P.cellsOf e)).bind (DataW.trod enc G.P w base spare held n e) = some x) :
  ∃ cs : List Value, cs.length = sz ∧ (∀ c, c < sz → w.cell? (a.add c) = cs[c]?) ∧ DataW.trod enc G.P w base spare held n e cs = some x := by
 obtain ⟨cs, h1, h2⟩ := Option.bind_eq_some_iff.1 h
 obtain ⟨_, h3, h4⟩ := World.cells?_some h1
 rw [hsz] at h3 h4
 exact ⟨cs, h3, h4, h2⟩
theorem addr_add {B o : Nat} {i : Nat} : ((⟨B, o, none⟩ : Addr).add i) = ⟨B, o + i, none⟩ := by
 unfold Addr.add
 split
 ·rename_i h; subst h; rfl
 ·rfl
theorem trod_fields {b : (i : Nat) → G.E.T i → Nat} {n d : Nat} (ih : ∀ (d : Nat) (t : TypeId) (shs : List TSh) (cs : List Value) (x : DataW H × List MemPlace), descT G d t = some shs → DataW.trod enc G.P w base spare held n t cs = some x →
  ∃ ps, Fits shs ps ∧ FReps G.E w (· < w.heap.size) ps cs ∧ bulkPs b ps ≤ Rows.uptoBulk x.1) {cs : List Value} : ∀ (fs : List Field) (o : Nat) (shs : List TSh) (xs : List (DataW H × List MemPlace)), descF G (fun t => descT G d t) o fs = some shs → cs.length = o + shs.length →
  xs.length = fs.length → (∀ (i : Nat) (f : Field), fs[i]? = some f → DataW.trod enc G.P w base spare held n f.type ((cs.drop f.offset).take (G.P.cellsOf f.type)) = xs[i]?) →
  ∃ ps, Fits shs ps ∧ FReps G.E w (· < w.heap.size) ps (cs.drop o) ∧ bulkPs b ps ≤ Rows.uptoBulkAll (xs.map (·.1))
 | [], o, shs, xs, hd, hl, hx, _ => by
  simp only [descF] at hd; cases hd
  rw [List.length_nil, Nat.add_zero] at hl
  rw [List.drop_eq_nil_of_le (by omega)]
  exact ⟨[], trivial, trivial, Nat.zero_le _⟩
 | f :: fs, o, shs, [], hd, hl, hx, hf => by simp at hx
 | f :: fs, o, shs, x :: xs, hd, hl, hx, hf => by
  simp only [descF] at hd
  split at hd
  ·rename_i sh hsh
   split at hd
   ·rename_i r h1 h2 h3
    cases hd
    have e1 := nat_beq h1
    have e2 := nat_beq h2
    have hx0 := hf 0 f rfl
    rw [List.getElem?_cons_zero] at hx0
    obtain ⟨ps, p1, p2, p3⟩ := ih _ _ _ _ _ hsh hx0
    rw [List.length_append] at hl
    obtain ⟨qs, q1, q2, q3⟩ := trod_fields (cs := cs) ih fs (o + sh.length) r xs h3 (by omega) (by simpa using hx) fun i f' hf' => by have := hf (i + 1) f' (by simpa using hf'); simpa using this
    refine ⟨ps ++ qs, p1.append q1, ?_, ?_⟩
    ·have : cs.drop o = (cs.drop f.offset).take (G.P.cellsOf f.type) ++ cs.drop (o + sh.length) := by
      rw [e1, e2, ← List.drop_drop, List.take_append_drop]
     rw [this]
     exact p2.append q2
    ·rw [bulkPs_append]
     simp only [List.map_cons, Rows.uptoBulkAll]
     omega
   ·cases hd
  ·cases hd
theorem uptoBulkAll_append {l m : List (DataW H)} : Rows.uptoBulkAll (l ++ m) = Rows.uptoBulkAll l + Rows.uptoBulkAll m := by
 induction l with
 | nil => simp [Rows.uptoBulkAll]
 | cons d l ih => simp only [List.cons_append, Rows.uptoBulkAll]; rw [ih]; omega
theorem uptoBulkAll_lits {k : IntKind} : ∀ zs : List Int, Rows.uptoBulkAll (ChangeShapes.lits (H := H) k zs) = zs.length
 | [] => rfl
 | z :: zs => by
  have := uptoBulkAll_lits (k := k) zs
  simp only [ChangeShapes.lits] at this ⊢
  simp only [List.map_cons, Rows.uptoBulkAll, Rows.uptoBulk, List.length_cons]
  omega
theorem sumB_le {b : (i : Nat) → G.E.T i → Nat} {i : Nat} : ∀ {xs : List (G.E.T i)} {ds : List (DataW H)}, xs.length = ds.length → (∀ (j : Nat) (x : G.E.T i) (d : DataW H), xs[j]? = some x → ds[j]? = some d → b i x ≤ Rows.uptoBulk d) → sumB b i xs ≤ Rows.uptoBulkAll ds
 | [], [], _, _ => Nat.zero_le _
 | x :: xs, d :: ds, hl, h => by
  simp only [sumB, Rows.uptoBulkAll]
  have := h 0 x d rfl rfl
  have := sumB_le (xs := xs) (ds := ds) (by simpa using hl) fun j x d hx hd => h (j + 1) x d (by simpa using hx) (by simpa using hd)
  omega
 | [], _ :: _, hl, _ => by simp at hl
 | _ :: _, [], hl, _ => by simp at hl
theorem arrF_length {e : TypeId} : ∀ (n j : Nat), (arrF G e n j).length = n
 | 0, _ => rfl
 | n + 1, j => by simp [arrF, arrF_length n (j + 1)]
theorem arrF_get {e : TypeId} : ∀ {n j i : Nat} {f : Field}, (arrF G e n j)[i]? = some f → i < n ∧ f = { name := "", type := e, offset := (j + i) * G.P.cellsOf e, embedded := false, tag := "", pkgPath := "", byteOffset := 0 }
 | 0, j, i, f, h => by simp [arrF] at h
 | n + 1, j, 0, f, h => by simp [arrF] at h; exact ⟨by omega, h.symm⟩
 | n + 1, j, i + 1, f, h => by
  simp only [arrF, List.getElem?_cons_succ] at h
  obtain ⟨h1, h2⟩ := arrF_get h
  exact ⟨by omega, by rw [h2]; congr 2; omega⟩
theorem trod_reads {b : (i : Nat) → G.E.T i → Nat} (ok : RowsOk G b) : ∀ (n d : Nat) (t : TypeId) (shs : List TSh) (cs : List Value) (x : DataW H × List MemPlace), descT G d t = some shs → DataW.trod enc G.P w base spare held n t cs = some x →
  ∃ ps, Fits shs ps ∧ FReps G.E w (· < w.heap.size) ps cs ∧ bulkPs b ps ≤ Rows.uptoBulk x.1 := by
 intro n
 induction n with
 | zero => intro d t shs cs x _ h; simp [DataW.trod] at h
 | succ n ih =>
  intro d t shs cs x hd h
  cases d with
  | zero => simp [descT] at hd
  | succ d =>
   unfold descT at hd
   split at hd
   ·rename_i k hu
    cases hd
    obtain ⟨m, rfl, rfl, hw⟩ := DataW.trod_int hu h
    exact ⟨[.int k m], ⟨rfl, trivial⟩, ⟨.int (wf_has hw), trivial⟩, by simp [bulkPs, bulkP, Rows.uptoBulk]⟩
   ·rename_i hu
    cases hd
    obtain ⟨c, rfl, rfl⟩ := DataW.trod_bool hu h
    exact ⟨[.bool c], ⟨trivial, trivial⟩, ⟨.bool, trivial⟩, by simp [bulkPs, bulkP, Rows.uptoBulk]⟩
   ·rename_i hu
    cases hd
    obtain ⟨s, rfl, rfl, hs⟩ := DataW.trod_string hu h
    refine ⟨[.str (bytesOfStr s)], ⟨trivial, trivial⟩, ⟨.str rfl ?_, trivial⟩, ?_⟩
    ·rw [bytesOfStr_len]; exact hs
    ·simp [bulkPs, bulkP, Rows.uptoBulk, bytesOfStr]
   ·rename_i e hu
    split at hd
    ·rename_i k he
     cases hd
     obtain ⟨hue, hce⟩ := ok.int e k he
     rcases ChangeShapes.open_ints hu hue hce h with ⟨rfl, rfl⟩ | ⟨a, len, cap, zs, rfl, _, hl, hm, hz, rfl, hc, hw⟩
     ·exact ⟨[.ints k []], ⟨rfl, trivial⟩, ⟨.ints (xs := []) (by simp) (by simp) (by simp) (by simp), trivial⟩, by simp [bulkPs, bulkP, Rows.uptoBulk]⟩
     ·have hlen : len ≤ zs.length := by rw [hz]; split <;> omega
      have hl' : (zs.take len).length = len := by simp; omega
      have hr : FRep G.E w (· < w.heap.size) (.ints k (zs.take len)) (.slice (some a) (zs.take len).length cap) := by
       refine .ints (fun x hx => wf_has (hw x (List.mem_of_mem_take hx))) (by omega) (by omega) fun hne => ?_
       have hpos : 0 < zs.length := by
        rcases Nat.eq_zero_or_pos zs.length with h0 | h0
        ·exfalso; apply hne; rw [List.length_eq_zero_iff.1 h0]; simp
        ·exact h0
       have h0 := hc 0 hpos
       rw [show a.add 0 = a from rfl] at h0
       obtain ⟨hB, hs⟩ := cell?_lt h0
       obtain ⟨B, o, sp⟩ := a
       simp only at hs hB
       subst hs
       refine ⟨B, o, rfl, hB, fun j x hj => ?_⟩
       rw [List.getElem?_take] at hj
       split at hj
       ·rename_i hjl
        have hjz : j < zs.length := by omega
        have := hc j hjz
        rw [addr_add] at this
        rw [this, List.getD_eq_getElem?_getD, hj]; rfl
       ·cases hj
      rw [hl'] at hr
      refine ⟨[.ints k (zs.take len)], ⟨rfl, trivial⟩, ⟨hr, trivial⟩, ?_⟩
      simp only [bulkPs, bulkP, Rows.uptoBulk, uptoBulkAll_lits]
      omega
    ·rename_i i he
     cases hd
     obtain ⟨d', shs', hd', hce, hsz, hout⟩ := ok.row e i he
     rcases DataW.trod_slice hu h with ⟨rfl, rfl⟩ | ⟨a, len, cap, elems, rest, m, hm', rfl, rfl, _, hl, hm, hlen, hel, _⟩
     ·exact ⟨[.rows i []], ⟨rfl, trivial⟩, ⟨.rows (xs := []) (fun _ _ => undef) (by simp) (by simp) (by simp) (by simp), trivial⟩, by simp [bulkPs, bulkP, sumB, Rows.uptoBulk]⟩
     ·have hnm : n = m := by omega
      subst hnm
      obtain ⟨xs, hx1, hx2⟩ := list_of (Q := fun j (x : G.E.T i) => ∃ cs : List Value, cs.length = G.E.sz i ∧ (∀ c, c < G.E.sz i → w.cell? ((a.add (j * G.E.sz i)).add c) = cs[c]?) ∧ FReps G.E w (· < w.heap.size) (G.E.outs i x) cs ∧ ∀ y, elems[j]? = some y → b i x ≤ Rows.uptoBulk y.1) len fun j hj => by
       have h1 := hel j hj
       have hjl : j < elems.length := by omega
       rw [List.getElem?_eq_getElem hjl] at h1
       obtain ⟨cs, g1, g2, g3⟩ := elem_reads hce h1
       obtain ⟨ps, p1, p2, p3⟩ := ih _ _ _ _ _ hd' g3
       obtain ⟨x, hx⟩ := hout ps p1
       rw [hce] at g2
       exact ⟨x, cs, g1, g2, by rw [hx]; exact p2, fun y hy => by rw [List.getElem?_eq_getElem hjl] at hy; cases hy; rw [ok.bulk, hx]; exact p3⟩
      have hr : FRep G.E w (· < w.heap.size) (.rows i xs) (.slice (some a) xs.length cap) := by
       have spot : xs ≠ [] → a.spot = none ∧ a.block < w.heap.size := fun hne => by
        cases xs with
        | nil => exact absurd rfl hne
        | cons x xs =>
         obtain ⟨cs, g1, g2, _, _⟩ := hx2 0 x rfl
         have h0 := g2 0 hsz
         rw [Nat.zero_mul, show (a.add 0).add 0 = a from rfl, List.getElem?_eq_getElem (by omega)] at h0
         obtain ⟨q1, q2⟩ := cell?_lt h0
         exact ⟨q2, q1⟩
       refine .rows (fun j c => (w.cell? ((a.add (j * G.E.sz i)).add c)).getD undef) (by omega) (by omega) (fun hne => ?_) fun j x c pv hj hp => ?_
       ·obtain ⟨hs, hB⟩ := spot hne
        obtain ⟨B, o, sp⟩ := a
        simp only at hs hB
        subst hs
        refine ⟨B, o, rfl, hB, fun j x c pv hj hp => ?_⟩
        obtain ⟨cs, g1, g2, g3, _⟩ := hx2 j x hj
        obtain ⟨v, hv, _⟩ := g3.get hp
        have hc : c < G.E.sz i := by rw [← g1]; exact (List.getElem?_eq_some_iff.1 hv).1
        have := g2 c hc
        rw [addr_add, addr_add] at this
        rw [addr_add, addr_add, this, hv]; rfl
       ·obtain ⟨cs, g1, g2, g3, _⟩ := hx2 j x hj
        obtain ⟨v, hv, hf⟩ := g3.get hp
        have hc : c < G.E.sz i := by rw [← g1]; exact (List.getElem?_eq_some_iff.1 hv).1
        rw [g2 c hc, hv]; exact hf
      rw [hx1] at hr
      refine ⟨[.rows i xs], ⟨rfl, trivial⟩, ⟨hr, trivial⟩, ?_⟩
      have := sumB_le (b := b) (xs := xs) (ds := elems.map (·.1)) (by simp; omega) fun j x dd hj hdd => by
       obtain ⟨cs, g1, g2, g3, g4⟩ := hx2 j x hj
       rw [List.getElem?_map] at hdd
       obtain ⟨y, hy, rfl⟩ := Option.map_eq_some_iff.1 hdd
       exact g4 y hy
      simp only [bulkPs, bulkP, Rows.uptoBulk]
      omega
    ·cases hd
   ·rename_i fs hu
    split at hd
    ·rename_i r hr
     split at hd
     ·rename_i hc
      cases hd
      have hc := nat_beq hc
      obtain ⟨xs, m, hm, rfl, hl, hxl, hf⟩ := DataW.trod_struct hu h
      have hnm : n = m := by omega
      subst hnm
      obtain ⟨ps, p1, p2, p3⟩ := trod_fields (cs := cs) ih fs.toList 0 shs xs hr (by omega) (by simpa using hxl) fun i f hf' => hf i f (by simpa using hf')
      rw [List.drop_zero] at p2
      refine ⟨ps, p1, p2, ?_⟩
      simp only [Rows.uptoBulk]
      omega
     ·cases hd
    ·cases hd
   ·rename_i k e hu
    split at hd
    ·rename_i r hr
     split at hd
     ·rename_i hc
      cases hd
      have hc := nat_beq hc
      obtain ⟨xs, m, hm, rfl, hl, hxl, hf⟩ := DataW.trod_array hu h
      have hnm : n = m := by omega
      subst hnm
      obtain ⟨ps, p1, p2, p3⟩ := trod_fields (cs := cs) ih (arrF G e k 0) 0 shs xs hr (by omega) (by rw [arrF_length]; exact hxl) fun i f hf' => by
       obtain ⟨h1, rfl⟩ := arrF_get hf'
       have := hf i h1
       simpa using this
      rw [List.drop_zero] at p2
      refine ⟨ps, p1, p2, ?_⟩
      simp only [Rows.uptoBulk]
      omega
     ·cases hd
    ·cases hd
   ·cases hd
/-! ### What a reading tells -/
inductive Good (E : Env) : PV E.T → Prop
 | int {k : IntKind} {n : Int} : k.has n → Good E (.int k n)
 | bool {b : Bool} : Good E (.bool b)
 | str {s : List Int} : s.length ≤ maxLen → (∀ x ∈ s, 0 ≤ x ∧ x ≤ 255) → Good E (.str s)
 | ints {k : IntKind} {xs : List Int} : (∀ x ∈ xs, k.has x) → xs.length ≤ maxLen → Good E (.ints k xs)
 | rows {i : Nat} {xs : List (E.T i)} : xs.length ≤ maxLen → (∀ x ∈ xs, ∀ p ∈ E.outs i x, Good E p) → Good E (.rows i xs)
theorem FRep.good {E : Env} {p : PV E.T} {v : Value} (h : FRep E w Fz p v) : Good E p := by
 induction h with
 | int h => exact .int h
 | bool => exact .bool
 | str h hl =>
  subst h
  refine .str hl fun x hx => ?_
  simp only [bytesOfStr, List.mem_map] at hx
  obtain ⟨c, _, rfl⟩ := hx
  have := c.toNat_lt
  omega
 | ints hk hl _ _ => exact .ints hk hl
 | rows cv hl _ _ hr ih =>
  refine .rows hl fun x hx p hp => ?_
  obtain ⟨j, hj⟩ := List.getElem?_of_mem hx
  obtain ⟨c, hc⟩ := List.getElem?_of_mem hp
  exact ih j x c p hj hc
def Goods (E : Env) : List (PV E.T) → Prop
 | [] => True
 | p :: l => Good E p ∧ Goods E l
theorem FReps.goods {E : Env} : ∀ {ps : List (PV E.T)} {vs : List Value}, FReps E w Fz ps vs → Goods E ps
 | [], [], _ => trivial
 | _ :: _, _ :: _, h => ⟨h.1.good, h.2.goods⟩
 | [], _ :: _, h => h.elim
 | _ :: _, [], h => h.elim
/-! ### A law's call -/
theorem law_calls (ok : PrgOk G) {i : Nat} {p : Pay G.E.T (G.F i).sig.ins} {q : (G.F i).sig.Out G.E.T} {b : Bool} (hc : call G i p = some q) (hH : inH G i p = []) (hV : outV G i p q = [.bool b]) {args : List Value}
  (ha : PReps G.E w (· < w.heap.size) (fun _ => ⟨none, 0⟩) [] (inV G i p) args) : Calls G.P (G.F i).fid args.toArray w fun e w' => e = .returned (.bool b) ∧ RowKit.Below w.heap.size w w' := by
 have hS := call_sound ok i p q hc
 refine (hS.calls ⟨w, fun _ => False, (· < w.heap.size)⟩ w (· < w.heap.size) (fun _ => ⟨none, 0⟩) args ?_ ?_ ?_).mono ?_
 ·rw [hH]
  exact ⟨fun id b h => by simp [getL] at h, fun i j b b' A A' _ h => by simp [getL] at h, fun i b A h => by simp [getL] at h, fun i b A h => by simp [getL] at h, fun _ h => h⟩
 ·rw [hH]
  exact ⟨rfl, rfl, rfl, Nat.le_refl _, fun _ _ _ => rfl, fun i b A h => by simp [getL] at h, fun B hB => .inl hB⟩
 ·rw [hH]; exact ha
 ·rintro e w' ⟨vs, Fz', ι', rfl, hs, hv, _⟩
  rw [hV] at hv
  refine ⟨?_, hs.fram.os, hs.fram.tape, hs.fram.output, hs.fram.size, fun k hk => hs.fram.block k hk (fun h => h)⟩
  cases vs with
  | nil => simp [PReps] at hv
  | cons v vs =>
   simp only [PReps] at hv
   cases vs with
   | cons => simp [PReps] at hv
   | nil =>
    have := hv.1
    simp only [PRep] at this
    cases this
    rfl
end
end Go.Proofs.YtgffdmgidnnedaaGreat.V
