/- What elements are made of, and the checks that a program's rows stand. -/
import Derived.Test.YtgffdmgidnnedaaGreatGlue2
import Derived.Test.YtgffdmgidnnedaaGreatLim
namespace Go.Proofs.YtgffdmgidnnedaaGreat.V
open Go
set_option linter.unusedVariables false
set_option linter.unusedSimpArgs false
section
variable {T : Nat → Type}
def asInt (k : IntKind) : PV T → Option Int
 | .int k' n => match decide (k = k') with
  | true => some n
  | false => none
 | _ => none
def asBool : PV T → Option Bool
 | .bool b => some b
 | _ => none
def asStr : PV T → Option (List Int)
 | .str s => some s
 | _ => none
def asInts (k : IntKind) : PV T → Option (List Int)
 | .ints k' xs => match decide (k = k') with
  | true => some xs
  | false => none
 | .nilsl => some []
 | _ => none
def asRows (i : Nat) : PV T → Option (List (T i))
 | .rows j xs => if h : j = i then some (castR h xs) else none
 | .nilsl => some []
 | _ => none
end
section
variable {E : Env}
/-- what is put in comes out -/
structure Same1 (p q : PV E.T) : Prop where
 cold : p.cold = true
 rep : ∀ (w : World) (Fz : Nat → Prop) (v : Value), (FRep E w Fz p v ∨ (p = .nilsl ∧ v = .slice none 0 0)) → FRep E w Fz q v
theorem asInt_same {k : IntKind} {p : PV E.T} {n : Int} (h : asInt k p = some n) : Same1 p (.int k n) := by
 unfold asInt at h
 split at h
 ·split at h
  ·rename_i e; have := of_decide_eq_true e; subst this; cases h
   exact ⟨rfl, fun w Fz v hv => hv.elim id fun e => by cases e.1⟩
  ·cases h
 ·cases h
theorem asBool_same {p : PV E.T} {b : Bool} (h : asBool p = some b) : Same1 p (.bool b) := by
 unfold asBool at h
 split at h
 ·cases h; exact ⟨rfl, fun w Fz v hv => hv.elim id fun e => by cases e.1⟩
 ·cases h
theorem asStr_same {p : PV E.T} {b : List Int} (h : asStr p = some b) : Same1 p (.str b) := by
 unfold asStr at h
 split at h
 ·cases h; exact ⟨rfl, fun w Fz v hv => hv.elim id fun e => by cases e.1⟩
 ·cases h
theorem asInts_same {k : IntKind} {p : PV E.T} {xs : List Int} (h : asInts k p = some xs) : Same1 p (.ints k xs) := by
 unfold asInts at h
 split at h
 ·split at h
  ·rename_i e; have := of_decide_eq_true e; subst this; cases h
   exact ⟨rfl, fun w Fz v hv => hv.elim id fun e => by cases e.1⟩
  ·cases h
 ·cases h
  refine ⟨rfl, fun w Fz v hv => ?_⟩
  rcases hv with hv | ⟨_, rfl⟩
  ·cases hv
  ·exact .ints (by simp) (by simp) (by simp) (by simp)
 ·cases h
theorem asRows_same {i : Nat} {p : PV E.T} {xs : List (E.T i)} (h : asRows i p = some xs) : Same1 p (.rows i xs) := by
 unfold asRows at h
 split at h
 ·split at h
  ·rename_i e; subst e; cases h
   exact ⟨rfl, fun w Fz v hv => hv.elim id fun e => by cases e.1⟩
  ·cases h
 ·cases h
  refine ⟨rfl, fun w Fz v hv => ?_⟩
  rcases hv with hv | ⟨_, rfl⟩
  ·cases hv
  ·exact .rows (fun _ _ => .bool true) (by simp) (by simp) (by simp) (by simp)
 ·cases h
inductive Sames : List (PV E.T) → List (PV E.T) → Prop where
 | nil : Sames [] []
 | cons {p q : PV E.T} {l m : List (PV E.T)} : Same1 p q → Sames l m → Sames (p :: l) (q :: m)
theorem Sames.get {l m : List (PV E.T)} (h : Sames l m) : m.length = l.length ∧ (∀ p ∈ l, p.cold = true) ∧ ∀ (c : Nat) (p q : PV E.T), l[c]? = some p → m[c]? = some q → Same1 p q := by
 induction h with
 | nil => exact ⟨rfl, by simp, by simp⟩
 | cons h1 _ ih =>
  obtain ⟨i1, i2, i3⟩ := ih
  refine ⟨by simp [i1], fun p hp => ?_, fun c p q hp hq => ?_⟩
  ·rcases List.mem_cons.1 hp with rfl | hp
   ·exact h1.cold
   ·exact i2 p hp
  ·cases c with
   | zero => simp at hp hq; subst hp; subst hq; exact h1
   | succ c => simp at hp hq; exact i3 c p q hp hq
theorem EnvOk.of {E : Env} (h : ∀ i l x, E.inn i l = some x → Sames l (E.outs i x)) (hz : ∀ i x, (E.outs i x).length = E.sz i)
  (hf : ∀ i x p, E.flat i = true → p ∈ E.outs i x → (∃ k n, p = .int k n) ∨ (∃ b, p = .bool b) ∨ (∃ s, p = .str s)) : EnvOk E where
 cold i l x hx := (h i l x hx).get.2.1
 sz := hz
 inn i l x hx := ⟨(h i l x hx).get.1, fun w Fz c p q v hp hq hv => ((h i l x hx).get.2.2 c p q hp hq).rep w Fz v hv⟩
 flat := hf
end
/-! ### The program's kinds of elements -/
def okEl (G : Prg) (p : TypeId × EK) : Bool := match p.2 with
 | .int k => match G.P.underlying p.1, G.P.info? p.1 with
  | some (.int k'), some i => decide (k = k') && Nat.beq i.size 1 && Nat.blt 0 i.bytes && (match i.zero with
   | some (.int k'' n) => decide (k = k'') && decide (n = 0)
   | _ => false) && Nat.beq (G.P.cellsOf p.1) 1
  | _, _ => false
 | .row n => match G.P.info? p.1 with
  | some i => Nat.beq i.size (G.E.sz n) && Nat.blt 0 i.bytes && (match i.zero with
   | some z => Nat.beq z.cells.size (G.E.sz n)
   | none => false) && Nat.blt 0 (G.E.sz n) && Nat.beq (G.P.cellsOf p.1) (G.E.sz n)
  | none => false
theorem lookN_mem {α : Type} {t : Nat} {a : α} : ∀ {l : List (Nat × α)}, lookN t l = some a → (t, a) ∈ l
 | [], h => by simp [lookN] at h
 | (u, v) :: r, h => by
  simp only [lookN] at h
  split at h
  ·rename_i e; cases h; have := Nat.eq_of_beq_eq_true e; subst this; simp
  ·exact List.mem_cons_of_mem _ (lookN_mem h)
theorem PrgOk.of {G : Prg} (env : EnvOk G.E) (els : List (TypeId × EK)) (hel : ∀ t, G.el t = lookN t els) (h : els.all (okEl G) = true)
  (hn : G.P.funcs.toList.all (fun fn => !(fn.name == "runtime.NumGoroutine")) = true) (hc : ∀ f, G.cmp f = true → CmpAt G.P f := by intro f h; cases h) : PrgOk G where
 env := env
 cmp := hc
 int e k hk := by
  rw [hel] at hk
  have := List.all_eq_true.1 h _ (lookN_mem hk)
  simp only [okEl] at this
  split at this
  ·rename_i k' i h1 h2
   simp only [Bool.and_eq_true, decide_eq_true_eq, Nat.beq_eq_true_eq, Nat.blt_eq] at this
   obtain ⟨⟨⟨⟨a1, a2⟩, a3⟩, a4⟩, a5⟩ := this
   subst a1
   refine ⟨h1, i, h2, Nat.eq_of_beq_eq_true a2, a3, ?_⟩
   split at a4
   ·rename_i k'' n hz
    simp only [Bool.and_eq_true, decide_eq_true_eq] at a4
    obtain ⟨rfl, rfl⟩ := a4; exact hz
   ·cases a4
  ·cases this
 row e n hk := by
  rw [hel] at hk
  have := List.all_eq_true.1 h _ (lookN_mem hk)
  simp only [okEl] at this
  split at this
  ·rename_i i h2
   simp only [Bool.and_eq_true, Nat.beq_eq_true_eq, Nat.blt_eq] at this
   obtain ⟨⟨⟨⟨a2, a3⟩, a4⟩, a5⟩, a6⟩ := this
   split at a4
   ·rename_i z hz
    exact ⟨i, z, h2, Nat.eq_of_beq_eq_true a2, a3, hz, Nat.eq_of_beq_eq_true a4, a5, fun _ => trivial⟩
   ·cases a4
  ·cases this
 names f fn hf hb := by
  have := List.all_eq_true.1 hn fn (by rw [Array.mem_toList_iff]; exact Array.mem_of_getElem? hf)
  simpa using this
def EK.cells (G : Prg) : EK → Nat
 | .int _ => 1
 | .row n => G.E.sz n
theorem okEl_cells {G : Prg} {els : List (TypeId × EK)} (h : els.all (okEl G) = true) {e : TypeId} {k : EK} (hk : lookN e els = some k) : G.P.cellsOf e = k.cells G := by
 have := List.all_eq_true.1 h _ (lookN_mem hk)
 cases k with
 | int k =>
  simp only [okEl] at this
  split at this
  ·simp only [Bool.and_eq_true] at this; exact Nat.eq_of_beq_eq_true this.2
  ·cases this
 | row n =>
  simp only [okEl] at this
  split at this
  ·simp only [Bool.and_eq_true] at this; exact Nat.eq_of_beq_eq_true this.2
  ·cases this
section
variable {T : Nat → Type}
theorem fits_nil {ps : List (PV T)} (h : Fits [] ps) : ps = [] := by cases ps with | nil => rfl | cons => exact h.elim
theorem fits_int {k : IntKind} {l : List TSh} {ps : List (PV T)} (h : Fits (.int k :: l) ps) : ∃ n r, ps = .int k n :: r ∧ Fits l r := by
 cases ps with
 | nil => exact h.elim
 | cons p r => have h1 := h.1; cases p <;> simp only at h1; subst h1; exact ⟨_, r, rfl, h.2⟩
theorem fits_bool {l : List TSh} {ps : List (PV T)} (h : Fits (.bool :: l) ps) : ∃ n r, ps = .bool n :: r ∧ Fits l r := by
 cases ps with
 | nil => exact h.elim
 | cons p r => have h1 := h.1; cases p <;> simp only at h1; exact ⟨_, r, rfl, h.2⟩
theorem fits_str {l : List TSh} {ps : List (PV T)} (h : Fits (.str :: l) ps) : ∃ n r, ps = .str n :: r ∧ Fits l r := by
 cases ps with
 | nil => exact h.elim
 | cons p r => have h1 := h.1; cases p <;> simp only at h1; exact ⟨_, r, rfl, h.2⟩
theorem fits_ints {k : IntKind} {l : List TSh} {ps : List (PV T)} (h : Fits (.ints k :: l) ps) : ∃ n r, ps = .ints k n :: r ∧ Fits l r := by
 cases ps with
 | nil => exact h.elim
 | cons p r => have h1 := h.1; cases p <;> simp only at h1; subst h1; exact ⟨_, r, rfl, h.2⟩
theorem fits_rows {i : Nat} {l : List TSh} {ps : List (PV T)} (h : Fits (.rows i :: l) ps) : ∃ n r, ps = .rows i n :: r ∧ Fits l r := by
 cases ps with
 | nil => exact h.elim
 | cons p r => have h1 := h.1; cases p <;> simp only at h1; subst h1; exact ⟨_, r, rfl, h.2⟩
end
section
variable {T : Nat → Type}
theorem fitsP_agg {l : List TSh} {p : PV T} (h : FitsP (.agg l) p) : ∃ ps, p = .agg ps ∧ Fits l ps := by
 cases p <;> simp only [FitsP] at h
 exact ⟨_, rfl, h⟩
theorem fitsP_int {k : IntKind} {p : PV T} (h : FitsP (.int k) p) : ∃ n, p = .int k n := by
 obtain ⟨n, r, e, _⟩ := fits_int (show Fits [.int k] [p] from h); cases e; exact ⟨n, rfl⟩
theorem fitsP_bool {p : PV T} (h : FitsP .bool p) : ∃ n, p = .bool n := by
 obtain ⟨n, r, e, _⟩ := fits_bool (show Fits [.bool] [p] from h); cases e; exact ⟨n, rfl⟩
theorem fitsP_str {p : PV T} (h : FitsP .str p) : ∃ n, p = .str n := by
 obtain ⟨n, r, e, _⟩ := fits_str (show Fits [.str] [p] from h); cases e; exact ⟨n, rfl⟩
theorem fitsP_ints {k : IntKind} {p : PV T} (h : FitsP (.ints k) p) : ∃ n, p = .ints k n := by
 obtain ⟨n, r, e, _⟩ := fits_ints (show Fits [.ints k] [p] from h); cases e; exact ⟨n, rfl⟩
theorem fitsP_rows {i : Nat} {p : PV T} (h : FitsP (.rows i) p) : ∃ n, p = .rows i n := by
 obtain ⟨n, r, e, _⟩ := fits_rows (show Fits [.rows i] [p] from h); cases e; exact ⟨n, rfl⟩
end
section
variable {T : Nat → Type}
def Flats (l : List (PV T)) : Prop := ∀ p ∈ l, (∃ k n, p = .int k n) ∨ (∃ b, p = .bool b) ∨ (∃ s, p = .str s)
theorem flat_nil : Flats (T := T) [] := by intro p hp; cases hp
theorem flat_cons {p : PV T} {l : List (PV T)} (h : (∃ k n, p = .int k n) ∨ (∃ b, p = .bool b) ∨ (∃ s, p = .str s)) (hl : Flats l) : Flats (p :: l) := by
 intro q hq
 rcases List.mem_cons.1 hq with rfl | hq
 ·exact h
 ·exact hl q hq
end
def sumL {α : Type} (f : α → Nat) : List α → Nat
 | [] => 0
 | x :: l => f x + sumL f l
theorem sumB_eq {T : Nat → Type} {b : (i : Nat) → T i → Nat} {i : Nat} {f : T i → Nat} (h : ∀ x, b i x = f x) : ∀ l : List (T i), sumB b i l = sumL f l
 | [] => rfl
 | x :: l => by simp only [sumB, sumL, h, sumB_eq h l]
end Go.Proofs.YtgffdmgidnnedaaGreat.V
