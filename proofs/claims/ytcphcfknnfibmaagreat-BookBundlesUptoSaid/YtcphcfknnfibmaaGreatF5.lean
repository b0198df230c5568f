import Derived.Test.YtcphcfknnfibmaaGreatF4
import Derived.Test.YtcphcfknnfibmaaGreatRows
import Derived.Below
import Derived.ChangeSlices
import Derived.ChangeArms
import Derived.OpenShut
import Derived.WideShapes
import Derived.Test.YtcphcfknnfibmaaGreatF1
import Derived.Laws.BitsLemmas
namespace Go.Proofs.YtcphcfknnfibmaaGreat.V
open Go Go.IntKind
set_option linter.unusedVariables false
set_option linter.unusedSimpArgs false
set_option linter.unusedSectionVars false
set_option maxRecDepth 100000
section
variable {G : Prg} {w : World} {Fz : Nat -> Prop}
def descF (G : Prg) (rec : TypeId -> Option (List TSh)) : Nat -> List Field -> Option (List TSh)
 | _, [] => some []
 | o, f :: fs => match rec f.type with
  | some sh => match Nat.beq f.offset o, Nat.beq (G.P.cellsOf f.type) sh.length, descF G rec (o + sh.length) fs with
   | true, true, some r => some (sh ++ r)
   | _, _, _ => none
  | none => none
def arrF (G : Prg) (e : TypeId) : Nat -> Nat -> List Field
 | 0, _ => []
 | n + 1, j => { name := "", type := e, offset := j * G.P.cellsOf e, embedded := false, tag := "", pkgPath := "", byteOffset := 0 } :: arrF G e n (j + 1)
def descT (G : Prg) : Nat -> TypeId -> Option (List TSh)
 | 0, _ => none
 | d + 1, t => match G.P.underlying t with
  | some (.int k) => some [.int k]
  | some .bool => some [.bool]
  | some .string => some [.str]
  | some (.slice e) => match G.el e with
   | some (.int k) => some [.ints k]
   | some (.row i) => some [.rows i]
   | none => none
  | some (.struct fs) => match descF G (fun t => descT G d t) 0 fs.toList with
   | some r => match Nat.beq (G.P.cellsOf t) r.length with
    | true => some r
    | false => none
   | none => none
  | some (.array n e) => match descF G (fun t => descT G d t) 0 (arrF G e n 0) with
   | some r => match Nat.beq (G.P.cellsOf t) r.length with
    | true => some r
    | false => none
   | none => none
  | _ => none
def Fits {T : Nat -> Type} : List TSh -> List (PV T) -> Prop
 | [], [] => True
 | s :: l, p :: ps => (match s, p with
   | .int k, .int k' _ => k = k'
   | .bool, .bool _ => True
   | .str, .str _ => True
   | .ints k, .ints k' _ => k = k'
   | .rows i, .rows j _ => i = j
   | _, _ => False) ∧ Fits l ps
 | _, _ => False
def FReps (E : Env) (w : World) (Fz : Nat -> Prop) : List (PV E.T) -> List Value -> Prop
 | [], [] => True
 | p :: ps, v :: vs => FRep E w Fz p v ∧ FReps E w Fz ps vs
 | _, _ => False
theorem FReps.append {E : Env} : ∀ {ps qs : List (PV E.T)} {vs us : List Value}, FReps E w Fz ps vs -> FReps E w Fz qs us -> FReps E w Fz (ps ++ qs) (vs ++ us)
 | [], _, [], _, _, h => h
 | _ :: _, _, _ :: _, _, g, h => ⟨g.1, g.2.append h⟩
 | [], _, _ :: _, _, g, _ => g.elim
 | _ :: _, _, [], _, g, _ => g.elim
theorem FReps.length {E : Env} : ∀ {ps : List (PV E.T)} {vs : List Value}, FReps E w Fz ps vs -> ps.length = vs.length
 | [], [], _ => rfl
 | _ :: _, _ :: _, g => by simp [g.2.length]
 | [], _ :: _, g => g.elim
 | _ :: _, [], g => g.elim
theorem FReps.get {E : Env} : ∀ {ps : List (PV E.T)} {vs : List Value}, FReps E w Fz ps vs -> ∀ {c : Nat} {p : PV E.T}, ps[c]? = some p -> ∃ v, vs[c]? = some v ∧ FRep E w Fz p v
 | [], [], _, c, p, h => by simp at h
 | q :: ps, v :: vs, g, 0, p, h => by simp only [A110, A16] at h; subst h; exact ⟨v, rfl, g.1⟩
 | q :: ps, v :: vs, g, c + 1, p, h => by simp only [A123] at h ⊢; exact g.2.get h
 | [], _ :: _, g, _, _, _ => g.elim
 | _ :: _, [], g, _, _, _ => g.elim
theorem FReps.toP {ι : Nat -> Loc} {H : List (Blk G.E.T)} : ∀ {ps : List (PV G.E.T)} {vs : List Value}, FReps G.E w Fz ps vs -> PReps G.E w Fz ι H ps vs
 | [], [], _ => by simp [PReps]
 | _ :: _, _ :: _, g => by simp only [PReps]; exact ⟨g.1.toP, FReps.toP g.2⟩
 | [], _ :: _, g => g.elim
 | _ :: _, [], g => g.elim
theorem Fits.append {T : Nat -> Type} : ∀ {l m : List TSh} {ps qs : List (PV T)}, Fits l ps -> Fits m qs -> Fits (l ++ m) (ps ++ qs)
 | [], _, [], _, _, h => h
 | _ :: _, _, _ :: _, _, g, h => ⟨g.1, g.2.append h⟩
 | [], _, _ :: _, _, g, _ => g.elim
 | _ :: _, _, [], _, g, _ => g.elim
def payOf {T : Nat -> Type} : List (PV T) -> List (LV T)
 | [] => []
 | .int _ n :: l => .int n :: payOf l
 | .bool b :: l => .bool b :: payOf l
 | .str s :: l => .str s :: payOf l
 | .ints _ xs :: l => .ints xs :: payOf l
 | .rows i xs :: l => .rows i xs :: payOf l
 | _ :: l => payOf l
theorem B429 {T : Nat -> Type} {ρ : Nat -> Nat × Nat} : ∀ {shs : List TSh} {ps : List (PV T)}, Fits shs ps -> ∀ r, rebTs ρ shs (payOf ps ++ r) = (ps, r)
 | [], [], _, r => rfl
 | s :: l, p :: ps, h, r => by
  obtain ⟨h1, h2⟩ := h
  have ih := B429 (ρ := ρ) h2 r
  cases s <;> cases p <;> simp only at h1
  case int.int => subst h1; simp only [payOf, A40, rebTs, rebT, ih]
  case bool.bool => simp only [payOf, A40, rebTs, rebT, ih]
  case str.str => simp only [payOf, A40, rebTs, rebT, ih]
  case ints.ints => subst h1; simp only [payOf, A40, rebTs, rebT, ih]
  case rows.rows => subst h1; simp only [payOf, A40, rebTs, rebT, dite_true, ih]; rfl
 | [], _ :: _, h, _ => h.elim
 | _ :: _, [], h, _ => h.elim
def sumB {T : Nat -> Type} (b : (i : Nat) -> T i -> Nat) (i : Nat) : List (T i) -> Nat
 | [] => 0
 | x :: l => b i x + sumB b i l
def bulkP {T : Nat -> Type} (b : (i : Nat) -> T i -> Nat) : PV T -> Nat
 | .int _ _ => 1
 | .bool _ => 1
 | .str s => s.length + 1
 | .ints _ xs => xs.length + 1
 | .rows i xs => sumB b i xs + 1
 | _ => 0
def B31 {T : Nat -> Type} (b : (i : Nat) -> T i -> Nat) : List (PV T) -> Nat
 | [] => 0
 | p :: l => bulkP b p + B31 b l
theorem B392 {T : Nat -> Type} {b : (i : Nat) -> T i -> Nat} : ∀ {l m : List (PV T)}, B31 b (l ++ m) = B31 b l + B31 b m
 | [], m => by simp [B31]
 | p :: l, m => by simp only [A40, B31]; rw [B392]; omega
structure RowsOk (G : Prg) (b : (i : Nat) -> G.E.T i -> Nat) : Prop where
 bulk : ∀ i x, b i x = B31 b (G.E.outs i x)
 row : ∀ e i, G.el e = some (.row i) -> ∃ d shs, descT G d e = some shs ∧ G.P.cellsOf e = G.E.sz i ∧ 0 < G.E.sz i ∧ ∀ ps : List (PV G.E.T), Fits shs ps -> ∃ x, G.E.outs i x = ps
 int : ∀ e k, G.el e = some (.int k) -> G.P.underlying e = some (.int k) ∧ G.P.cellsOf e = 1
theorem B951 {k : IntKind} {n : Int} (h : (Lit.int k n).wf = true) : k.has n := by
 simpa [Lit.wf, IntKind.has] using h
theorem B812 {α : Type} {Q : Nat -> α -> Prop} : ∀ (n : Nat), (∀ i, i < n -> ∃ x, Q i x) -> ∃ xs : List α, xs.length = n ∧ ∀ i x, xs[i]? = some x -> Q i x
 | 0, _ => ⟨[], rfl, fun i x h => by simp at h⟩
 | n + 1, h => by
  obtain ⟨xs, h1, h2⟩ := B812 n fun i hi => h i (by omega)
  obtain ⟨x, hx⟩ := h n (by omega)
  refine ⟨xs ++ [x], by simp [h1], fun i y hy => ?_⟩
  by_cases hi : i < n
  ·rw [A57 (by omega)] at hy; exact h2 i y hy
  ·have : i = n := by
    have := (A42.1 hy).1
    simp at this; omega
   subst this
   rw [A48 (by omega)] at hy
   simp [h1] at hy
   subst hy; exact hx
theorem cell?_lt {a : Addr} {v : Value} (h : w.cell? a = some v) : a.block < w.heap.size ∧ a.spot = none := by
 unfold World.cell? at h
 split at h
 ·rename_i hb
  refine ⟨(Array.getElem?_eq_some_iff.1 hb).1, ?_⟩
  split at h
  ·cases h
  ·rename_i hs; simpa using hs
 ·cases h
variable {H : Type} {enc : TypeId × Value -> H} {base : Nat} {spare : Nat -> Bool} {held : Bool}
theorem B839 {n : Nat} {e : TypeId} {a : Addr} {x : DataW H × List MemPlace} {sz : Nat} (hsz : G.P.cellsOf e = sz)
  (h : (w.cells? base a (G.P.cellsOf e)).bind (DataW.trod enc G.P w base spare held n e) = some x) :
  ∃ cs : List Value, cs.length = sz ∧ (∀ c, c < sz -> w.cell? (a.add c) = cs[c]?) ∧ DataW.trod enc G.P w base spare held n e cs = some x := by
 obtain ⟨cs, h1, h2⟩ := A34.1 h
 obtain ⟨_, h3, h4⟩ := World.cells?_some h1
 rw [hsz] at h3 h4
 exact ⟨cs, h3, h4, h2⟩
theorem B267 {B o : Nat} {i : Nat} : ((⟨B, o, none⟩ : Addr).add i) = ⟨B, o + i, none⟩ := by
 unfold Addr.add
 split
 ·rename_i h; subst h; rfl
 ·rfl
theorem B323 {b : (i : Nat) -> G.E.T i -> Nat} {n d : Nat} (ih : ∀ (d : Nat) (t : TypeId) (shs : List TSh) (cs : List Value) (x : DataW H × List MemPlace), descT G d t = some shs -> DataW.trod enc G.P w base spare held n t cs = some x ->
  ∃ ps, Fits shs ps ∧ FReps G.E w (· < w.heap.size) ps cs ∧ B31 b ps <= Rows.uptoBulk x.1) {cs : List Value} : ∀ (fs : List Field) (o : Nat) (shs : List TSh) (xs : List (DataW H × List MemPlace)), descF G (fun t => descT G d t) o fs = some shs -> cs.length = o + shs.length ->
  xs.length = fs.length -> (∀ (i : Nat) (f : Field), fs[i]? = some f -> DataW.trod enc G.P w base spare held n f.type ((cs.drop f.offset).take (G.P.cellsOf f.type)) = xs[i]?) ->
  ∃ ps, Fits shs ps ∧ FReps G.E w (· < w.heap.size) ps (cs.drop o) ∧ B31 b ps <= Rows.uptoBulkAll (xs.map (·.1))
 | [], o, shs, xs, hd, hl, hx, _ => by
  simp only [descF] at hd; cases hd
  rw [A35, A36] at hl
  rw [A100 (by omega)]
  exact ⟨[], trivial, trivial, A30 _⟩
 | f :: fs, o, shs, [], hd, hl, hx, hf => by simp at hx
 | f :: fs, o, shs, x :: xs, hd, hl, hx, hf => by
  simp only [descF] at hd
  split at hd
  ·rename_i sh hsh
   split at hd
   ·rename_i r h1 h2 h3
    cases hd
    have e1 := B7 h1
    have e2 := B7 h2
    have hx0 := hf 0 f rfl
    rw [A110] at hx0
    obtain ⟨ps, p1, p2, p3⟩ := ih _ _ _ _ _ hsh hx0
    rw [A13] at hl
    obtain ⟨qs, q1, q2, q3⟩ := B323 (cs := cs) ih fs (o + sh.length) r xs h3 (by omega) (by simpa using hx) fun i f' hf' => by have := hf (i + 1) f' (by simpa using hf'); simpa using this
    refine ⟨ps ++ qs, p1.append q1, ?_, ?_⟩
    ·have : cs.drop o = (cs.drop f.offset).take (G.P.cellsOf f.type) ++ cs.drop (o + sh.length) := by
      rw [e1, e2, ← A115, A105]
     rw [this]
     exact p2.append q2
    ·rw [B392]
     simp only [A53, Rows.uptoBulkAll]
     omega
   ·cases hd
  ·cases hd
theorem B944 {l m : List (DataW H)} : Rows.uptoBulkAll (l ++ m) = Rows.uptoBulkAll l + Rows.uptoBulkAll m := by
 induction l with
 | nil => simp [Rows.uptoBulkAll]
 | cons d l ih => simp only [A40, Rows.uptoBulkAll]; rw [ih]; omega
theorem B293 {k : IntKind} : ∀ zs : List Int, Rows.uptoBulkAll (ChangeShapes.lits (H := H) k zs) = zs.length
 | [] => rfl
 | z :: zs => by
  have := B293 (k := k) zs
  simp only [ChangeShapes.lits] at this ⊢
  simp only [A53, Rows.uptoBulkAll, Rows.uptoBulk, A21]
  omega
theorem B823 {b : (i : Nat) -> G.E.T i -> Nat} {i : Nat} : ∀ {xs : List (G.E.T i)} {ds : List (DataW H)}, xs.length = ds.length -> (∀ (j : Nat) (x : G.E.T i) (d : DataW H), xs[j]? = some x -> ds[j]? = some d -> b i x <= Rows.uptoBulk d) -> sumB b i xs <= Rows.uptoBulkAll ds
 | [], [], _, _ => A30 _
 | x :: xs, d :: ds, hl, h => by
  simp only [sumB, Rows.uptoBulkAll]
  have := h 0 x d rfl rfl
  have := B823 (xs := xs) (ds := ds) (by simpa using hl) fun j x d hx hd => h (j + 1) x d (by simpa using hx) (by simpa using hd)
  omega
 | [], _ :: _, hl, _ => by simp at hl
 | _ :: _, [], hl, _ => by simp at hl
theorem B466 {e : TypeId} : ∀ (n j : Nat), (arrF G e n j).length = n
 | 0, _ => rfl
 | n + 1, j => by simp [arrF, B466 n (j + 1)]
theorem B685 {e : TypeId} : ∀ {n j i : Nat} {f : Field}, (arrF G e n j)[i]? = some f -> i < n ∧ f = { name := "", type := e, offset := (j + i) * G.P.cellsOf e, embedded := false, tag := "", pkgPath := "", byteOffset := 0 }
 | 0, j, i, f, h => by simp [arrF] at h
 | n + 1, j, 0, f, h => by simp [arrF] at h; exact ⟨by omega, h.symm⟩
 | n + 1, j, i + 1, f, h => by
  simp only [arrF, A123] at h
  obtain ⟨h1, h2⟩ := B685 h
  exact ⟨by omega, by rw [h2]; congr 2; omega⟩
theorem B385 {b : (i : Nat) -> G.E.T i -> Nat} (ok : RowsOk G b) : ∀ (n d : Nat) (t : TypeId) (shs : List TSh) (cs : List Value) (x : DataW H × List MemPlace), descT G d t = some shs -> DataW.trod enc G.P w base spare held n t cs = some x ->
  ∃ ps, Fits shs ps ∧ FReps G.E w (· < w.heap.size) ps cs ∧ B31 b ps <= Rows.uptoBulk x.1 := by
 intro n
 induction n with
 | zero => intro d t shs cs x _ h; simp [DataW.trod] at h
 | succ n ih =>
  intro d t shs cs x hd h
  cases d with
  | zero => simp [descT] at hd
  | succ d =>
   unfold descT at hd
   split at hd
   ·rename_i k hu
    cases hd
    obtain ⟨m, rfl, rfl, hw⟩ := DataW.trod_int hu h
    exact ⟨[.int k m], ⟨rfl, trivial⟩, ⟨.int (B951 hw), trivial⟩, by simp [B31, bulkP, Rows.uptoBulk]⟩
   ·rename_i hu
    cases hd
    obtain ⟨c, rfl, rfl⟩ := DataW.trod_bool hu h
    exact ⟨[.bool c], ⟨trivial, trivial⟩, ⟨.bool, trivial⟩, by simp [B31, bulkP, Rows.uptoBulk]⟩
   ·rename_i hu
    cases hd
    obtain ⟨s, rfl, rfl, hs⟩ := DataW.trod_string hu h
    refine ⟨[.str (B9 s)], ⟨trivial, trivial⟩, ⟨.str rfl ?_, trivial⟩, ?_⟩
    ·rw [B42]; exact hs
    ·simp [B31, bulkP, Rows.uptoBulk, B9]
   ·rename_i e hu
    split at hd
    ·rename_i k he
     cases hd
     obtain ⟨hue, hce⟩ := ok.int e k he
     rcases ChangeShapes.open_ints hu hue hce h with ⟨rfl, rfl⟩ | ⟨a, len, cap, zs, rfl, _, hl, hm, hz, rfl, hc, hw⟩
     ·exact ⟨[.ints k []], ⟨rfl, trivial⟩, ⟨.ints (xs := []) (by simp) (by simp) (by simp) (by simp), trivial⟩, by simp [B31, bulkP, Rows.uptoBulk]⟩
     ·have hlen : len <= zs.length := by rw [hz]; split <;> omega
      have hl' : (zs.take len).length = len := by simp; omega
      have hr : FRep G.E w (· < w.heap.size) (.ints k (zs.take len)) (.slice (some a) (zs.take len).length cap) := by
       refine .ints (fun x hx => B951 (hw x (A81 hx))) (by omega) (by omega) fun hne => ?_
       have hpos : 0 < zs.length := by
        rcases A124 zs.length with h0 | h0
        ·exfalso; apply hne; rw [List.length_eq_zero_iff.1 h0]; simp
        ·exact h0
       have h0 := hc 0 hpos
       rw [show a.add 0 = a from rfl] at h0
       obtain ⟨hB, hs⟩ := cell?_lt h0
       obtain ⟨B, o, sp⟩ := a
       simp only at hs hB
       subst hs
       refine ⟨B, o, rfl, hB, fun j x hj => ?_⟩
       rw [A66] at hj
       split at hj
       ·rename_i hjl
        have hjz : j < zs.length := by omega
        have := hc j hjz
        rw [B267] at this
        rw [this, A96, hj]; rfl
       ·cases hj
      rw [hl'] at hr
      refine ⟨[.ints k (zs.take len)], ⟨rfl, trivial⟩, ⟨hr, trivial⟩, ?_⟩
      simp only [B31, bulkP, Rows.uptoBulk, B293]
      omega
    ·rename_i i he
     cases hd
     obtain ⟨d', shs', hd', hce, hsz, hout⟩ := ok.row e i he
     rcases DataW.trod_slice hu h with ⟨rfl, rfl⟩ | ⟨a, len, cap, elems, rest, m, hm', rfl, rfl, _, hl, hm, hlen, hel, _⟩
     ·exact ⟨[.rows i []], ⟨rfl, trivial⟩, ⟨.rows (xs := []) (fun _ _ => undef) (by simp) (by simp) (by simp) (by simp), trivial⟩, by simp [B31, bulkP, sumB, Rows.uptoBulk]⟩
     ·have hnm : n = m := by omega
      subst hnm
      obtain ⟨xs, hx1, hx2⟩ := B812 (Q := fun j (x : G.E.T i) => ∃ cs : List Value, cs.length = G.E.sz i ∧ (∀ c, c < G.E.sz i -> w.cell? ((a.add (j * G.E.sz i)).add c) = cs[c]?) ∧ FReps G.E w (· < w.heap.size) (G.E.outs i x) cs ∧ ∀ y, elems[j]? = some y -> b i x <= Rows.uptoBulk y.1) len fun j hj => by
       have h1 := hel j hj
       have hjl : j < elems.length := by omega
       rw [A18 hjl] at h1
       obtain ⟨cs, g1, g2, g3⟩ := B839 hce h1
       obtain ⟨ps, p1, p2, p3⟩ := ih _ _ _ _ _ hd' g3
       obtain ⟨x, hx⟩ := hout ps p1
       rw [hce] at g2
       exact ⟨x, cs, g1, g2, by rw [hx]; exact p2, fun y hy => by rw [A18 hjl] at hy; cases hy; rw [ok.bulk, hx]; exact p3⟩
      have hr : FRep G.E w (· < w.heap.size) (.rows i xs) (.slice (some a) xs.length cap) := by
       have spot : xs ≠ [] -> a.spot = none ∧ a.block < w.heap.size := fun hne => by
        cases xs with
        | nil => exact absurd rfl hne
        | cons x xs =>
         obtain ⟨cs, g1, g2, _, _⟩ := hx2 0 x rfl
         have h0 := g2 0 hsz
         rw [Nat.zero_mul, show (a.add 0).add 0 = a from rfl, A18 (by omega)] at h0
         obtain ⟨q1, q2⟩ := cell?_lt h0
         exact ⟨q2, q1⟩
       refine .rows (fun j c => (w.cell? ((a.add (j * G.E.sz i)).add c)).getD undef) (by omega) (by omega) (fun hne => ?_) fun j x c pv hj hp => ?_
       ·obtain ⟨hs, hB⟩ := spot hne
        obtain ⟨B, o, sp⟩ := a
        simp only at hs hB
        subst hs
        refine ⟨B, o, rfl, hB, fun j x c pv hj hp => ?_⟩
        obtain ⟨cs, g1, g2, g3, _⟩ := hx2 j x hj
        obtain ⟨v, hv, _⟩ := g3.get hp
        have hc : c < G.E.sz i := by rw [← g1]; exact (A42.1 hv).1
        have := g2 c hc
        rw [B267, B267] at this
        rw [B267, B267, this, hv]; rfl
       ·obtain ⟨cs, g1, g2, g3, _⟩ := hx2 j x hj
        obtain ⟨v, hv, hf⟩ := g3.get hp
        have hc : c < G.E.sz i := by rw [← g1]; exact (A42.1 hv).1
        rw [g2 c hc, hv]; exact hf
      rw [hx1] at hr
      refine ⟨[.rows i xs], ⟨rfl, trivial⟩, ⟨hr, trivial⟩, ?_⟩
      have := B823 (b := b) (xs := xs) (ds := elems.map (·.1)) (by simp; omega) fun j x dd hj hdd => by
       obtain ⟨cs, g1, g2, g3, g4⟩ := hx2 j x hj
       rw [A45] at hdd
       obtain ⟨y, hy, rfl⟩ := A93.1 hdd
       exact g4 y hy
      simp only [B31, bulkP, Rows.uptoBulk]
      omega
    ·cases hd
   ·rename_i fs hu
    split at hd
    ·rename_i r hr
     split at hd
     ·rename_i hc
      cases hd
      have hc := B7 hc
      obtain ⟨xs, m, hm, rfl, hl, hxl, hf⟩ := DataW.trod_struct hu h
      have hnm : n = m := by omega
      subst hnm
      obtain ⟨ps, p1, p2, p3⟩ := B323 (cs := cs) ih fs.toList 0 shs xs hr (by omega) (by simpa using hxl) fun i f hf' => hf i f (by simpa using hf')
      rw [List.drop_zero] at p2
      refine ⟨ps, p1, p2, ?_⟩
      simp only [Rows.uptoBulk]
      omega
     ·cases hd
    ·cases hd
   ·rename_i k e hu
    split at hd
    ·rename_i r hr
     split at hd
     ·rename_i hc
      cases hd
      have hc := B7 hc
      obtain ⟨xs, m, hm, rfl, hl, hxl, hf⟩ := DataW.trod_array hu h
      have hnm : n = m := by omega
      subst hnm
      obtain ⟨ps, p1, p2, p3⟩ := B323 (cs := cs) ih (arrF G e k 0) 0 shs xs hr (by omega) (by rw [B466]; exact hxl) fun i f hf' => by
       obtain ⟨h1, rfl⟩ := B685 hf'
       have := hf i h1
       simpa using this
      rw [List.drop_zero] at p2
      refine ⟨ps, p1, p2, ?_⟩
      simp only [Rows.uptoBulk]
      omega
     ·cases hd
    ·cases hd
   ·cases hd
inductive Good (E : Env) : PV E.T -> Prop
 | int {k : IntKind} {n : Int} : k.has n -> Good E (.int k n)
 | bool {b : Bool} : Good E (.bool b)
 | str {s : List Int} : s.length <= maxLen -> (∀ x ∈ s, 0 <= x ∧ x <= 255) -> Good E (.str s)
 | ints {k : IntKind} {xs : List Int} : (∀ x ∈ xs, k.has x) -> xs.length <= maxLen -> Good E (.ints k xs)
 | rows {i : Nat} {xs : List (E.T i)} : xs.length <= maxLen -> (∀ x ∈ xs, ∀ p ∈ E.outs i x, Good E p) -> Good E (.rows i xs)
theorem FRep.good {E : Env} {p : PV E.T} {v : Value} (h : FRep E w Fz p v) : Good E p := by
 induction h with
 | int h => exact .int h
 | bool => exact .bool
 | str h hl =>
  subst h
  refine .str hl fun x hx => ?_
  simp only [B9, A60] at hx
  obtain ⟨c, _, rfl⟩ := hx
  have := c.toNat_lt
  omega
 | ints hk hl _ _ => exact .ints hk hl
 | rows cv hl _ _ hr ih =>
  refine .rows hl fun x hx p hp => ?_
  obtain ⟨j, hj⟩ := A76 hx
  obtain ⟨c, hc⟩ := A76 hp
  exact ih j x c p hj hc
def Goods (E : Env) : List (PV E.T) -> Prop
 | [] => True
 | p :: l => Good E p ∧ Goods E l
theorem FReps.goods {E : Env} : ∀ {ps : List (PV E.T)} {vs : List Value}, FReps E w Fz ps vs -> Goods E ps
 | [], [], _ => trivial
 | _ :: _, _ :: _, h => ⟨h.1.good, h.2.goods⟩
 | [], _ :: _, h => h.elim
 | _ :: _, [], h => h.elim
theorem B912 (ok : PrgOk G) {i : Nat} {p : Pay G.E.T (G.F i).sig.ins} {q : (G.F i).sig.Out G.E.T} {b : Bool} (hc : call G i p = some q) (hH : inH G i p = []) (hV : outV G i p q = [.bool b]) {args : List Value}
  (ha : PReps G.E w (· < w.heap.size) (fun _ => ⟨none, 0⟩) [] (inV G i p) args) : Calls G.P (G.F i).fid args.toArray w fun e w' => e = .returned (.bool b) ∧ RowKit.Below w.heap.size w w' := by
 have hS := B832 ok i p q hc
 refine (hS.calls ⟨w, fun _ => False, (· < w.heap.size)⟩ w (· < w.heap.size) (fun _ => ⟨none, 0⟩) args ?_ ?_ ?_).mono ?_
 ·rw [hH]
  exact ⟨fun id b h => by simp [getL] at h, fun i j b b' A A' _ h => by simp [getL] at h, fun i b A h => by simp [getL] at h, fun i b A h => by simp [getL] at h, fun _ h => h⟩
 ·rw [hH]
  exact ⟨rfl, rfl, rfl, A11 _, fun _ _ _ => rfl, fun i b A h => by simp [getL] at h, fun B hB => .inl hB⟩
 ·rw [hH]; exact ha
 ·rintro e w' ⟨vs, Fz', ι', rfl, hs, hv, _⟩
  rw [hV] at hv
  refine ⟨?_, hs.fram.os, hs.fram.tape, hs.fram.output, hs.fram.size, fun k hk => hs.fram.block k hk (fun h => h)⟩
  cases vs with
  | nil => simp [PReps] at hv
  | cons v vs =>
   simp only [PReps] at hv
   cases vs with
   | cons => simp [PReps] at hv
   | nil =>
    have := hv.1
    simp only [PRep] at this
    cases this
    rfl
end
section
variable {G : Prg} {w : World} {H : Type} {enc : TypeId × Value -> H} {base : Nat} {spare : Nat -> Bool} {held : Bool}
def descP (G : Prg) (d : Nat) (t : TypeId) : Option TSh := match G.P.underlying t with
 | some (.struct _) => match descT G d t with
  | some shs => some (.agg shs)
  | none => none
 | some (.array _ _) => match descT G d t with
  | some shs => some (.agg shs)
  | none => none
 | _ => match descT G d t with
  | some [s] => some s
  | _ => none
def FitsP {T : Nat -> Type} : TSh -> PV T -> Prop
 | .agg shs, .agg ps => Fits shs ps
 | .agg _, _ => False
 | s, p => Fits [s] [p]
def payP {T : Nat -> Type} : PV T -> List (LV T)
 | .agg ps => payOf ps
 | p => payOf [p]
def GoodP (E : Env) : PV E.T -> Prop
 | .agg ps => Goods E ps
 | p => Good E p
def bulkA {T : Nat -> Type} (b : (i : Nat) -> T i -> Nat) : PV T -> Nat
 | .agg ps => B31 b ps
 | p => bulkP b p
theorem B1048 {T : Nat -> Type} {ρ : Nat -> Nat × Nat} {s : TSh} {p : PV T} (h : Fits [s] [p]) (r : List (LV T)) : rebT ρ s (payOf [p] ++ r) = (p, r) := by
 have e := B429 (ρ := ρ) h r
 simp only [rebTs] at e
 cases hq : rebT ρ s (payOf [p] ++ r) with
 | mk v r' =>
  rw [hq] at e
  simp only [A33, List.cons.injEq, A69] at e
  rw [e.1, e.2]
theorem B1002 {T : Nat -> Type} {ρ : Nat -> Nat × Nat} {s : TSh} {p : PV T} (h : FitsP s p) (r : List (LV T)) : rebT ρ s (payP p ++ r) = (p, r) := by
 have other : Fits [s] [p] -> rebT ρ s (payP p ++ r) = (p, r) := by
  intro h
  have h1 := h.1
  have e : payP p = payOf [p] := by
   cases s <;> cases p <;> simp only at h1 <;> rfl
  rw [e]; exact B1048 h r
 cases s with
 | agg shs =>
  cases p <;> simp only [FitsP] at h
  simp only [payP, rebT]
  rw [B429 h r]
 | int k => exact other h
 | bool => exact other h
 | str => exact other h
 | ints k => exact other h
 | rows i => exact other h
 | arr j => exact other h
 | ptr j o => exact other h
 | mapr _ => exact other h
 | nil => exact other h
 | lit k n => exact other h
 | litb b => exact other h
 | nilsl => exact other h
 | fn f l => exact other h
def B875 {T : Nat -> Type} : List TSh -> List (PV T) -> Prop
 | [], [] => True
 | s :: l, p :: ps => FitsP s p ∧ B875 l ps
 | _, _ => False
def payPs {T : Nat -> Type} : List (PV T) -> List (LV T)
 | [] => []
 | p :: l => payP p ++ payPs l
theorem B926 {T : Nat -> Type} {ρ : Nat -> Nat × Nat} : ∀ {ss : List TSh} {ps : List (PV T)}, B875 ss ps -> ∀ r : List (LV T), rebTs ρ ss (payPs ps ++ r) = (ps, r)
 | [], [], _, r => rfl
 | s :: l, p :: ps, h, r => by
  simp only [payPs, rebTs, A27]
  rw [B1002 h.1, B926 h.2]
 | [], _ :: _, h, _ => h.elim
 | _ :: _, [], h, _ => h.elim
theorem Fits.ones {T : Nat -> Type} : ∀ {shs : List TSh} {ps : List (PV T)}, Fits shs ps -> ∀ p ∈ ps, p.one = true
 | [], [], _ => by simp
 | s :: l, p :: ps, h => by
  intro q hq
  rcases A19.1 hq with rfl | hq
  ·have h1 := h.1
   cases s <;> cases q <;> simp only at h1 <;> rfl
  ·exact Fits.ones h.2 q hq
 | [], _ :: _, h => h.elim
 | _ :: _, [], h => h.elim
theorem B882 {b : (i : Nat) -> G.E.T i -> Nat} (ok : RowsOk G b) {r : Reach} {b0 d : Nat} {t : TypeId} {s : TSh} {v : Value} {dd : DataW H} {pl : List MemPlace} (hs : descP G d t = some s) (hval : Value.okWide G.P w r b0 t v)
  (h : DataW.Trod enc G.P w base spare held t v dd pl) {ι : Nat -> Loc} {Hp : List (Blk G.E.T)} : ∃ p : PV G.E.T, FitsP s p ∧ PRep G.E w (· < w.heap.size) ι Hp p v ∧ GoodP G.E p ∧ bulkA b p <= Rows.uptoBulk dd := by
 obtain ⟨n, h⟩ := h
 unfold descP at hs
 split at hs
 ·rename_i fs hu
  split at hs
  ·rename_i shs hd
   cases hs
   obtain ⟨ps, p1, p2, p3⟩ := B385 ok n d t shs _ _ hd h
   have hv : ∃ cs, v = .agg cs := by
    simp only [Value.okWide, hu] at hval
    obtain ⟨cs, hv, _⟩ := hval
    exact ⟨cs, hv⟩
   obtain ⟨cs, rfl⟩ := hv
   refine ⟨.agg ps, p1, ?_, p2.goods, p3⟩
   simp only [PRep]
   exact ⟨cs, rfl, p1.ones, p2.toP⟩
  ·cases hs
 ·rename_i na ea hu
  split at hs
  ·rename_i shs hd
   cases hs
   obtain ⟨ps, p1, p2, p3⟩ := B385 ok n d t shs _ _ hd h
   have hv : ∃ cs, v = .agg cs := by
    simp only [Value.okWide, hu] at hval
    obtain ⟨cs, hv, _⟩ := hval
    exact ⟨cs, hv⟩
   obtain ⟨cs, rfl⟩ := hv
   refine ⟨.agg ps, p1, ?_, p2.goods, p3⟩
   simp only [PRep]
   exact ⟨cs, rfl, p1.ones, p2.toP⟩
  ·cases hs
 ·rename_i hns hna
  split at hs
  ·rename_i s' hd
   cases hs
   have hv : v.cells.toList = [v] := by
    cases d with
    | zero => simp [descT] at hd
    | succ d =>
     unfold descT at hd
     split at hd
     ·rename_i k hu; obtain ⟨m, rfl⟩ := WideShapes.okWide_int hu hval; rfl
     ·rename_i hu; obtain ⟨m, rfl⟩ := WideShapes.okWide_bool hu hval; rfl
     ·rename_i hu; obtain ⟨m, rfl⟩ := WideShapes.okWide_string hu hval; rfl
     ·rename_i e hu; obtain ⟨a, l, c, rfl⟩ := WideShapes.okWide_slice hu hval; rfl
     ·rename_i fs hu; exact absurd hu (hns fs)
     ·rename_i na ea hu; exact absurd hu (hna na ea)
     ·cases hd
   rw [hv] at h
   obtain ⟨ps, p1, p2, p3⟩ := B385 ok n d t [s] [v] _ hd h
   cases ps with
   | nil => exact p1.elim
   | cons p ps =>
    cases ps with
    | cons => exact p1.2.elim
    | nil =>
     have h1 := p1.1
     refine ⟨p, ?_, p2.1.toP, ?_, ?_⟩
     ·cases s <;> cases p <;> simp only at h1 <;> exact p1
     ·cases p <;> first | exact p2.1.good | (cases s <;> simp only at h1)
     ·simp only [B31, A36] at p3
      cases p <;> first | exact p3 | (cases s <;> simp only at h1)
  ·cases hs
end
section
variable {T : Nat -> Type}
def asInt (k : IntKind) : PV T -> Option Int
 | .int k' n => match decide (k = k') with
  | true => some n
  | false => none
 | _ => none
def asBool : PV T -> Option Bool
 | .bool b => some b
 | _ => none
def asStr : PV T -> Option (List Int)
 | .str s => some s
 | _ => none
def asInts (k : IntKind) : PV T -> Option (List Int)
 | .ints k' xs => match decide (k = k') with
  | true => some xs
  | false => none
 | .nilsl => some []
 | _ => none
def asRows (i : Nat) : PV T -> Option (List (T i))
 | .rows j xs => if h : j = i then some (castR h xs) else none
 | .nilsl => some []
 | _ => none
end
section
variable {E : Env}
structure Same1 (p q : PV E.T) : Prop where
 cold : p.cold = true
 rep : ∀ (w : World) (Fz : Nat -> Prop) (v : Value), (FRep E w Fz p v ∨ (p = .nilsl ∧ v = .slice none 0 0)) -> FRep E w Fz q v
theorem asInt_same {k : IntKind} {p : PV E.T} {n : Int} (h : asInt k p = some n) : Same1 p (.int k n) := by
 unfold asInt at h
 split at h
 ·split at h
  ·rename_i e; have := A39 e; subst this; cases h
   exact ⟨rfl, fun w Fz v hv => hv.elim id fun e => by cases e.1⟩
  ·cases h
 ·cases h
theorem B1077 {p : PV E.T} {b : Bool} (h : asBool p = some b) : Same1 p (.bool b) := by
 unfold asBool at h
 split at h
 ·cases h; exact ⟨rfl, fun w Fz v hv => hv.elim id fun e => by cases e.1⟩
 ·cases h
theorem asStr_same {p : PV E.T} {b : List Int} (h : asStr p = some b) : Same1 p (.str b) := by
 unfold asStr at h
 split at h
 ·cases h; exact ⟨rfl, fun w Fz v hv => hv.elim id fun e => by cases e.1⟩
 ·cases h
theorem asInts_same {k : IntKind} {p : PV E.T} {xs : List Int} (h : asInts k p = some xs) : Same1 p (.ints k xs) := by
 unfold asInts at h
 split at h
 ·split at h
  ·rename_i e; have := A39 e; subst this; cases h
   exact ⟨rfl, fun w Fz v hv => hv.elim id fun e => by cases e.1⟩
  ·cases h
 ·cases h
  refine ⟨rfl, fun w Fz v hv => ?_⟩
  rcases hv with hv | ⟨_, rfl⟩
  ·cases hv
  ·exact .ints (by simp) (by simp) (by simp) (by simp)
 ·cases h
theorem asRows_same {i : Nat} {p : PV E.T} {xs : List (E.T i)} (h : asRows i p = some xs) : Same1 p (.rows i xs) := by
 unfold asRows at h
 split at h
 ·split at h
  ·rename_i e; subst e; cases h
   exact ⟨rfl, fun w Fz v hv => hv.elim id fun e => by cases e.1⟩
  ·cases h
 ·cases h
  refine ⟨rfl, fun w Fz v hv => ?_⟩
  rcases hv with hv | ⟨_, rfl⟩
  ·cases hv
  ·exact .rows (fun _ _ => .bool true) (by simp) (by simp) (by simp) (by simp)
 ·cases h
inductive Sames : List (PV E.T) -> List (PV E.T) -> Prop where
 | nil : Sames [] []
 | cons {p q : PV E.T} {l m : List (PV E.T)} : Same1 p q -> Sames l m -> Sames (p :: l) (q :: m)
theorem Sames.get {l m : List (PV E.T)} (h : Sames l m) : m.length = l.length ∧ (∀ p ∈ l, p.cold = true) ∧ ∀ (c : Nat) (p q : PV E.T), l[c]? = some p -> m[c]? = some q -> Same1 p q := by
 induction h with
 | nil => exact ⟨rfl, by simp, by simp⟩
 | cons h1 _ ih =>
  obtain ⟨i1, i2, i3⟩ := ih
  refine ⟨by simp [i1], fun p hp => ?_, fun c p q hp hq => ?_⟩
  ·rcases A19.1 hp with rfl | hp
   ·exact h1.cold
   ·exact i2 p hp
  ·cases c with
   | zero => simp at hp hq; subst hp; subst hq; exact h1
   | succ c => simp at hp hq; exact i3 c p q hp hq
theorem EnvOk.of {E : Env} (h : ∀ i l x, E.inn i l = some x -> Sames l (E.outs i x)) (hz : ∀ i x, (E.outs i x).length = E.sz i)
  (hf : ∀ i x p, E.flat i = true -> p ∈ E.outs i x -> (∃ k n, p = .int k n) ∨ (∃ b, p = .bool b) ∨ (∃ s, p = .str s)) : EnvOk E where
 cold i l x hx := (h i l x hx).get.2.1
 sz := hz
 inn i l x hx := ⟨(h i l x hx).get.1, fun w Fz c p q v hp hq hv => ((h i l x hx).get.2.2 c p q hp hq).rep w Fz v hv⟩
 flat := hf
end
def okEl (G : Prg) (p : TypeId × EK) : Bool := match p.2 with
 | .int k => match G.P.underlying p.1, G.P.info? p.1 with
  | some (.int k'), some i => decide (k = k') && Nat.beq i.size 1 && Nat.blt 0 i.bytes && (match i.zero with
   | some (.int k'' n) => decide (k = k'') && decide (n = 0)
   | _ => false) && Nat.beq (G.P.cellsOf p.1) 1
  | _, _ => false
 | .row n => match G.P.info? p.1 with
  | some i => Nat.beq i.size (G.E.sz n) && Nat.blt 0 i.bytes && (match i.zero with
   | some z => Nat.beq z.cells.size (G.E.sz n)
   | none => false) && Nat.blt 0 (G.E.sz n) && Nat.beq (G.P.cellsOf p.1) (G.E.sz n)
  | none => false
theorem B239 {α : Type} {t : Nat} {a : α} : ∀ {l : List (Nat × α)}, lookN t l = some a -> (t, a) ∈ l
 | [], h => by simp [lookN] at h
 | (u, v) :: r, h => by
  simp only [lookN] at h
  split at h
  ·rename_i e; cases h; have := A95 e; subst this; simp
  ·exact A29 _ (B239 h)
theorem PrgOk.of {G : Prg} (env : EnvOk G.E) (els : List (TypeId × EK)) (hel : ∀ t, G.el t = lookN t els) (h : els.all (okEl G) = true)
  (hn : G.P.funcs.toList.all (fun fn => !(fn.name == "runtime.NumGoroutine")) = true) (hc : ∀ f, G.cmp f = true -> CmpAt G.P f := by intro f h; cases h) : PrgOk G where
 env := env
 cmp := hc
 int e k hk := by
  rw [hel] at hk
  have := A106.1 h _ (B239 hk)
  simp only [okEl] at this
  split at this
  ·rename_i k' i h1 h2
   simp only [A25, A20, Nat.beq_eq_true_eq, Nat.blt_eq] at this
   obtain ⟨⟨⟨⟨a1, a2⟩, a3⟩, a4⟩, a5⟩ := this
   subst a1
   refine ⟨h1, i, h2, A95 a2, a3, ?_⟩
   split at a4
   ·rename_i k'' n hz
    simp only [A25, A20] at a4
    obtain ⟨rfl, rfl⟩ := a4; exact hz
   ·cases a4
  ·cases this
 row e n hk := by
  rw [hel] at hk
  have := A106.1 h _ (B239 hk)
  simp only [okEl] at this
  split at this
  ·rename_i i h2
   simp only [A25, Nat.beq_eq_true_eq, Nat.blt_eq] at this
   obtain ⟨⟨⟨⟨a2, a3⟩, a4⟩, a5⟩, a6⟩ := this
   split at a4
   ·rename_i z hz
    exact ⟨i, z, h2, A95 a2, a3, hz, A95 a4, a5, fun _ => trivial⟩
   ·cases a4
  ·cases this
 names f fn hf hb := by
  have := A106.1 hn fn (by rw [Array.mem_toList_iff]; exact Array.mem_of_getElem? hf)
  simpa using this
def EK.cells (G : Prg) : EK -> Nat
 | .int _ => 1
 | .row n => G.E.sz n
theorem B561 {G : Prg} {els : List (TypeId × EK)} (h : els.all (okEl G) = true) {e : TypeId} {k : EK} (hk : lookN e els = some k) : G.P.cellsOf e = k.cells G := by
 have := A106.1 h _ (B239 hk)
 cases k with
 | int k =>
  simp only [okEl] at this
  split at this
  ·simp only [A25] at this; exact A95 this.2
  ·cases this
 | row n =>
  simp only [okEl] at this
  split at this
  ·simp only [A25] at this; exact A95 this.2
  ·cases this
section
variable {T : Nat -> Type}
theorem B218 {ps : List (PV T)} (h : Fits [] ps) : ps = [] := by cases ps with | nil => rfl | cons => exact h.elim
theorem B276 {k : IntKind} {l : List TSh} {ps : List (PV T)} (h : Fits (.int k :: l) ps) : ∃ n r, ps = .int k n :: r ∧ Fits l r := by
 cases ps with
 | nil => exact h.elim
 | cons p r => have h1 := h.1; cases p <;> simp only at h1; subst h1; exact ⟨_, r, rfl, h.2⟩
theorem B901 {l : List TSh} {ps : List (PV T)} (h : Fits (.bool :: l) ps) : ∃ n r, ps = .bool n :: r ∧ Fits l r := by
 cases ps with
 | nil => exact h.elim
 | cons p r => have h1 := h.1; cases p <;> simp only at h1; exact ⟨_, r, rfl, h.2⟩
theorem B277 {l : List TSh} {ps : List (PV T)} (h : Fits (.str :: l) ps) : ∃ n r, ps = .str n :: r ∧ Fits l r := by
 cases ps with
 | nil => exact h.elim
 | cons p r => have h1 := h.1; cases p <;> simp only at h1; exact ⟨_, r, rfl, h.2⟩
theorem B300 {k : IntKind} {l : List TSh} {ps : List (PV T)} (h : Fits (.ints k :: l) ps) : ∃ n r, ps = .ints k n :: r ∧ Fits l r := by
 cases ps with
 | nil => exact h.elim
 | cons p r => have h1 := h.1; cases p <;> simp only at h1; subst h1; exact ⟨_, r, rfl, h.2⟩
theorem B235 {i : Nat} {l : List TSh} {ps : List (PV T)} (h : Fits (.rows i :: l) ps) : ∃ n r, ps = .rows i n :: r ∧ Fits l r := by
 cases ps with
 | nil => exact h.elim
 | cons p r => have h1 := h.1; cases p <;> simp only at h1; subst h1; exact ⟨_, r, rfl, h.2⟩
end
section
variable {T : Nat -> Type}
theorem B900 {l : List TSh} {p : PV T} (h : FitsP (.agg l) p) : ∃ ps, p = .agg ps ∧ Fits l ps := by
 cases p <;> simp only [FitsP] at h
 exact ⟨_, rfl, h⟩
theorem B1088 {k : IntKind} {p : PV T} (h : FitsP (.int k) p) : ∃ n, p = .int k n := by
 obtain ⟨n, r, e, _⟩ := B276 (show Fits [.int k] [p] from h); cases e; exact ⟨n, rfl⟩
theorem B1081 {p : PV T} (h : FitsP .bool p) : ∃ n, p = .bool n := by
 obtain ⟨n, r, e, _⟩ := B901 (show Fits [.bool] [p] from h); cases e; exact ⟨n, rfl⟩
theorem B1089 {p : PV T} (h : FitsP .str p) : ∃ n, p = .str n := by
 obtain ⟨n, r, e, _⟩ := B277 (show Fits [.str] [p] from h); cases e; exact ⟨n, rfl⟩
theorem B1082 {k : IntKind} {p : PV T} (h : FitsP (.ints k) p) : ∃ n, p = .ints k n := by
 obtain ⟨n, r, e, _⟩ := B300 (show Fits [.ints k] [p] from h); cases e; exact ⟨n, rfl⟩
theorem B1083 {i : Nat} {p : PV T} (h : FitsP (.rows i) p) : ∃ n, p = .rows i n := by
 obtain ⟨n, r, e, _⟩ := B235 (show Fits [.rows i] [p] from h); cases e; exact ⟨n, rfl⟩
end
section
variable {T : Nat -> Type}
def Flats (l : List (PV T)) : Prop := ∀ p ∈ l, (∃ k n, p = .int k n) ∨ (∃ b, p = .bool b) ∨ (∃ s, p = .str s)
theorem B976 : Flats (T := T) [] := by intro p hp; cases hp
theorem B627 {p : PV T} {l : List (PV T)} (h : (∃ k n, p = .int k n) ∨ (∃ b, p = .bool b) ∨ (∃ s, p = .str s)) (hl : Flats l) : Flats (p :: l) := by
 intro q hq
 rcases A19.1 hq with rfl | hq
 ·exact h
 ·exact hl q hq
end
def sumL {α : Type} (f : α -> Nat) : List α -> Nat
 | [] => 0
 | x :: l => f x + sumL f l
theorem B359 {T : Nat -> Type} {b : (i : Nat) -> T i -> Nat} {i : Nat} {f : T i -> Nat} (h : ∀ x, b i x = f x) : ∀ l : List (T i), sumB b i l = sumL f l
 | [] => rfl
 | x :: l => by simp only [sumB, sumL, h, B359 h l]
theorem w64 {n : Int} (h : -9223372036854775808 <= n ∧ n <= 9223372036854775807) : i64.wrap n = n := by rw [IntKind.wrap_i64]; omega
theorem w64s (n : Int) : i64.wrap n = (n + 9223372036854775808) % 18446744073709551616 - 9223372036854775808 := IntKind.wrap_i64 n
theorem w8 (n : Int) : u8.wrap n = n % 256 := by
 simp only [IntKind.wrap, IntKind.signed, IntKind.bits]
 simp
theorem w16 (n : Int) : IntKind.u16.wrap n = n % 65536 := by
 simp only [IntKind.wrap, IntKind.signed, IntKind.bits]
 simp
theorem w32 (n : Int) : IntKind.u32.wrap n = n % 4294967296 := by
 simp only [IntKind.wrap, IntKind.signed, IntKind.bits]
 simp
theorem wu64 (n : Int) : u64.wrap n = n % 18446744073709551616 := by
 simp only [IntKind.wrap, IntKind.signed, IntKind.bits]
 simp
theorem B27 {a b : Int} (ha : 0 <= a) : a.tdiv b = a / b := by rw [Int.tdiv_eq_ediv_of_nonneg ha]
theorem B20 {a b : Int} (ha : 0 <= a) : a.tmod b = a % b := by rw [Int.tmod_eq_emod_of_nonneg ha]
theorem B452 (a b : Int) : imax a b = max a b := by unfold imax; split <;> omega
theorem B345 (a b : Int) : imin a b = min a b := by unfold imin; split <;> omega
section
variable {S A B : Type} {f : S -> Option (S ⊕ A)}
theorem B5 {s s' : S} (h : f s = some (.inl s')) : loop f s = loop f s' := by rw [B347, h]
theorem B4 {s : S} {a : A} (h : f s = some (.inr a)) : loop f s = some a := by rw [B347, h]
theorem B1090 {s : S} (h : f s = none) : loop f s = none := by rw [B347, h]
theorem B720 (P : S -> Prop) (m : S -> Nat) (Q : A -> Prop)
  (h : ∀ s, P s -> (∃ s', f s = some (.inl s') ∧ P s' ∧ m s' < m s) ∨ ∃ a, f s = some (.inr a) ∧ Q a) : ∀ s, P s -> ∃ a, loop f s = some a ∧ Q a := by
 intro s
 generalize hn : m s = n
 induction n using Nat.strongRecOn generalizing s with
 | _ n ih =>
  intro hs
  rcases h s hs with ⟨s', h1, h2, h3⟩ | ⟨a, h1, h2⟩
  ·rw [B5 h1]; exact ih _ (hn ▸ h3) s' rfl h2
  ·exact ⟨a, B4 h1, h2⟩
theorem B991 {S' A' : Type} {g : S' -> Option (S' ⊕ A')} (R : S -> S' -> Prop) (Q : A -> A' -> Prop) (m : S -> Nat)
  (h : ∀ s t, R s t -> (∃ s' t', f s = some (.inl s') ∧ g t = some (.inl t') ∧ R s' t' ∧ m s' < m s) ∨ ∃ a b, f s = some (.inr a) ∧ g t = some (.inr b) ∧ Q a b) :
  ∀ s t, R s t -> ∃ a b, loop f s = some a ∧ loop g t = some b ∧ Q a b := by
 intro s
 generalize hn : m s = n
 induction n using Nat.strongRecOn generalizing s with
 | _ n ih =>
  intro t hs
  rcases h s t hs with ⟨s', t', h1, h2, h3, h4⟩ | ⟨a, b, h1, h2, h3⟩
  ·rw [B5 h1, B5 h2]; exact ih _ (hn ▸ h4) s' rfl t' h3
  ·exact ⟨a, b, B4 h1, B4 h2, h3⟩
def overL {X : Type} (step : Nat -> X -> S -> Option (S ⊕ A)) (fin : S -> Option A) : Nat -> List X -> S -> Option A
 | _, [], s => fin s
 | n, x :: l, s => match step n x s with
  | some (.inl s') => overL step fin (n + 1) l s'
  | some (.inr a) => some a
  | none => none
theorem B304 {X : Type} {step : Nat -> X -> S -> Option (S ⊕ A)} {fin : S -> Option A} {n : Nat} {s : S} : overL step fin n [] s = fin s := rfl
theorem B40 {X : Type} {step : Nat -> X -> S -> Option (S ⊕ A)} {fin : S -> Option A} {n : Nat} {x : X} {l : List X} {s s' : S} (h : step n x s = some (.inl s')) : overL step fin n (x :: l) s = overL step fin (n + 1) l s' := by
 rw [overL, h]
theorem B172 {X : Type} {step : Nat -> X -> S -> Option (S ⊕ A)} {fin : S -> Option A} {n : Nat} {x : X} {l : List X} {s : S} {a : A} (h : step n x s = some (.inr a)) : overL step fin n (x :: l) s = some a := by
 rw [overL, h]
theorem B28 {X T : Type} {g : T -> Option (T ⊕ A)} (xs : List X) (at_ : Nat -> S -> T) (step : Nat -> X -> S -> Option (S ⊕ A)) (fin : S -> Option A)
  (hend : ∀ s, g (at_ xs.length s) = (fin s).map .inr)
  (hstep : ∀ i x s, xs[i]? = some x -> g (at_ i s) = (step i x s).map fun r => match r with
   | .inl s' => .inl (at_ (i + 1) s')
   | .inr a => .inr a) : ∀ (n : Nat) (s : S), n <= xs.length -> loop g (at_ n s) = overL step fin n (xs.drop n) s := by
 intro n s hn
 generalize hk : xs.length - n = k
 induction k generalizing n s with
 | zero =>
  have : n = xs.length := by omega
  subst this
  rw [List.drop_length, overL, B347, hend]
  cases fin s <;> rfl
 | succ k ih =>
  have hlt : n < xs.length := by omega
  rw [A68 hlt, overL, B347, hstep n xs[n] s (A18 hlt)]
  cases hs : step n xs[n] s with
  | none => rfl
  | some r =>
   cases r with
   | inl s' => simp only [A37]; exact ih (n + 1) s' (by omega) (by omega)
   | inr a => rfl
end
theorem B48 {α β : Type} (f : α -> β) (c : Prop) [Decidable c] (a b : Option α) : (if c then a else b).map f = if c then a.map f else b.map f := by
 split <;> rfl
theorem B36 {A B C D : Type} (f : C -> D) (a : A -> Option C) (b : B -> Option C) (o : A ⊕ B) : (Sum.elim a b o).map f = Sum.elim (fun x => (a x).map f) (fun x => (b x).map f) o := by
 cases o <;> rfl
theorem B208 {xs : List Int} {i : Int} (h0 : 0 <= i) (h : i < (xs.length : Int)) : xs[i.toNat]? = some (rd xs i) := by
 unfold rd
 rw [A96]
 have : i.toNat < xs.length := by omega
 rw [A18 this]; rfl
theorem B18 {xs : List Int} {i : Nat} {x : Int} (h : xs[i]? = some x) : rd xs (i : Int) = x := by
 unfold rd
 rw [A96, A12, h]; rfl
theorem B1080 {α β : Type} {a : α} {f : α -> Option β} : (some a).bind f = f a := rfl
theorem B6 {α : Type} {xs : List α} {i : Nat} {x : α} (h : xs[i]? = some x) : i < xs.length := (A42.1 h).1
theorem iteD {α : Type} {p : Prop} [Decidable p] {a b : α} : (if (decide p) = true then a else b) = if p then a else b := by
 by_cases h : p <;> simp [h]
theorem iteND {α : Type} {p : Prop} [Decidable p] {a b : α} : (if (!decide p) = true then a else b) = if p then b else a := by
 by_cases h : p <;> simp [h]
def Ole {A : Type} (x y : Option A) : Prop := ∀ r, x = some r -> y = some r
theorem Ole.refl {A : Type} (x : Option A) : Ole x x := fun _ h => h
theorem Ole.ite {A : Type} {c : Prop} [Decidable c] {a b a' b' : Option A} (h : Ole a a') (g : Ole b b') : Ole (if c then a else b) (if c then a' else b') := by
 split
 ·exact h
 ·exact g
theorem Ole.bind {A B : Type} {x y : Option A} {f g : A -> Option B} (h : Ole x y) (k : ∀ a, Ole (f a) (g a)) : Ole (x.bind f) (y.bind g) := by
 intro r hr
 obtain ⟨a, h1, h2⟩ := A34.1 hr
 exact A34.2 ⟨a, h a h1, k a r h2⟩
theorem Ole.elim {A B C : Type} {f f' : A -> Option C} {g g' : B -> Option C} {o : A ⊕ B} (h : ∀ a, Ole (f a) (f' a)) (k : ∀ b, Ole (g b) (g' b)) : Ole (Sum.elim f g o) (Sum.elim f' g' o) := by
 cases o with
 | inl a => exact h a
 | inr b => exact k b
theorem Ole.known {A : Type} {c : Prop} [Decidable c] {v y rest : Option A} (h : c -> y = v) (k : Ole rest y) : Ole (if c then v else rest) y := by
 split
 ·rename_i q; rw [h q]; exact Ole.refl _
 ·exact k
theorem Ole.none {A : Type} {y : Option A} : Ole (none : Option A) y := fun _ h => nomatch h
def demD {A : Type} [DecidableEq A] (a b : Option A) : Option A := if a = b then a else Option.none
theorem Ole.demD {A : Type} [DecidableEq A] {a b a' b' : Option A} (h : Ole a a') (g : Ole b b') : Ole (V.demD a b) (demon a' b') := by
 intro r hr
 unfold V.demD at hr
 split at hr
 ·rename_i e
  rw [h r hr, g r (e ▸ hr)]
  exact B129 _
 ·cases hr
theorem Ole.iter {S A : Type} {f g : S -> Option (S ⊕ A)} {n : Nat} {s : S} (h : ∀ s, Ole (f s) (g s)) : Ole (V.iter f n s) (loop g s) := by
 intro r hr
 refine B151 (n := n) ?_
 induction n generalizing s with
 | zero => simp [V.iter] at hr
 | succ n ih =>
  simp only [V.iter] at hr ⊢
  cases hf : f s with
  | none => rw [hf] at hr; cases hr
  | some x =>
   rw [hf] at hr
   rw [h s x hf]
   cases x with
   | inl s' => exact ih hr
   | inr a => exact hr
def itf (n : Nat) {S A : Type} (f : S -> Option (S ⊕ A)) (s : S) : Option A := V.iter f n s
class OL {A : Type} (x y : Option A) : Prop where
 le : Ole x y
instance (priority := 10) OL.refl {A : Type} (x : Option A) : OL x x := ⟨Ole.refl x⟩
instance OL.none {A : Type} (y : Option A) : OL (none : Option A) y := ⟨Ole.none⟩
instance OL.ite {A : Type} {c : Prop} [Decidable c] {a b a' b' : Option A} [h : OL a a'] [g : OL b b'] : OL (if c then a else b) (if c then a' else b') := ⟨Ole.ite h.le g.le⟩
instance OL.bind {A B : Type} {x y : Option A} {f g : A -> Option B} [h : OL x y] [k : ∀ a, OL (f a) (g a)] : OL (x.bind f) (y.bind g) := ⟨Ole.bind h.le fun a => (k a).le⟩
instance OL.elim {A B C : Type} {f f' : A -> Option C} {g g' : B -> Option C} {o : A ⊕ B} [h : ∀ a, OL (f a) (f' a)] [k : ∀ b, OL (g b) (g' b)] : OL (Sum.elim f g o) (Sum.elim f' g' o) := ⟨Ole.elim (fun a => (h a).le) fun b => (k b).le⟩
instance OL.iter {S A : Type} {f g : S -> Option (S ⊕ A)} {n : Nat} {s : S} [h : ∀ s, OL (f s) (g s)] : OL (itf n f s) (loop g s) := ⟨Ole.iter fun s => (h s).le⟩
end Go.Proofs.YtcphcfknnfibmaaGreat.V
