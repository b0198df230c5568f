/- A row's arguments, one by one. -/
import Derived.Test.YtgffdmgidnnedaaGreatGlue
import Derived.WideShapes
namespace Go.Proofs.YtgffdmgidnnedaaGreat.V
open Go
set_option linter.unusedVariables false
set_option linter.unusedSimpArgs false
section
variable {G : Prg} {w : World} {H : Type} {enc : TypeId × Value → H} {base : Nat} {spare : Nat → Bool} {held : Bool}
/-- an argument's shape -/
def descP (G : Prg) (d : Nat) (t : TypeId) : Option TSh := match G.P.underlying t with
 | some (.struct _) => match descT G d t with
  | some shs => some (.agg shs)
  | none => none
 | some (.array _ _) => match descT G d t with
  | some shs => some (.agg shs)
  | none => none
 | _ => match descT G d t with
  | some [s] => some s
  | _ => none
def FitsP {T : Nat → Type} : TSh → PV T → Prop
 | .agg shs, .agg ps => Fits shs ps
 | .agg _, _ => False
 | s, p => Fits [s] [p]
def payP {T : Nat → Type} : PV T → List (LV T)
 | .agg ps => payOf ps
 | p => payOf [p]
def GoodP (E : Env) : PV E.T → Prop
 | .agg ps => Goods E ps
 | p => Good E p
def bulkA {T : Nat → Type} (b : (i : Nat) → T i → Nat) : PV T → Nat
 | .agg ps => bulkPs b ps
 | p => bulkP b p
theorem reb_one {T : Nat → Type} {ρ : Nat → Nat × Nat} {s : TSh} {p : PV T} (h : Fits [s] [p]) (r : List (LV T)) : rebT ρ s (payOf [p] ++ r) = (p, r) := by
 have e := reb_payOf (ρ := ρ) h r
 simp only [rebTs] at e
 cases hq : rebT ρ s (payOf [p] ++ r) with
 | mk v r' =>
  rw [hq] at e
  simp only [Prod.mk.injEq, List.cons.injEq, and_true] at e
  rw [e.1, e.2]
theorem payP_reb {T : Nat → Type} {ρ : Nat → Nat × Nat} {s : TSh} {p : PV T} (h : FitsP s p) (r : List (LV T)) : rebT ρ s (payP p ++ r) = (p, r) := by
 have other : Fits [s] [p] → rebT ρ s (payP p ++ r) = (p, r) := by
  intro h
  have h1 := h.1
  have e : payP p = payOf [p] := by
   cases s <;> cases p <;> simp only at h1 <;> rfl
  rw [e]; exact reb_one h r
 cases s with
 | agg shs =>
  cases p <;> simp only [FitsP] at h
  simp only [payP, rebT]
  rw [reb_payOf h r]
 | int k => exact other h
 | bool => exact other h
 | str => exact other h
 | ints k => exact other h
 | rows i => exact other h
 | arr j => exact other h
 | ptr j o => exact other h
 | mapr _ => exact other h
 | nil => exact other h
 | lit k n => exact other h
 | litb b => exact other h
 | nilsl => exact other h
 | fn f l => exact other h
/-- the arguments' values fit the shapes -/
def FitsPs {T : Nat → Type} : List TSh → List (PV T) → Prop
 | [], [] => True
 | s :: l, p :: ps => FitsP s p ∧ FitsPs l ps
 | _, _ => False
def payPs {T : Nat → Type} : List (PV T) → List (LV T)
 | [] => []
 | p :: l => payP p ++ payPs l
theorem payPs_reb {T : Nat → Type} {ρ : Nat → Nat × Nat} : ∀ {ss : List TSh} {ps : List (PV T)}, FitsPs ss ps → ∀ r : List (LV T), rebTs ρ ss (payPs ps ++ r) = (ps, r)
 | [], [], _, r => rfl
 | s :: l, p :: ps, h, r => by
  simp only [payPs, rebTs, List.append_assoc]
  rw [payP_reb h.1, payPs_reb h.2]
 | [], _ :: _, h, _ => h.elim
 | _ :: _, [], h, _ => h.elim
theorem Fits.ones {T : Nat → Type} : ∀ {shs : List TSh} {ps : List (PV T)}, Fits shs ps → ∀ p ∈ ps, p.one = true
 | [], [], _ => by simp
 | s :: l, p :: ps, h => by
  intro q hq
  rcases List.mem_cons.1 hq with rfl | hq
  ·have h1 := h.1
   cases s <;> cases q <;> simp only at h1 <;> rfl
  ·exact Fits.ones h.2 q hq
 | [], _ :: _, h => h.elim
 | _ :: _, [], h => h.elim
theorem arg_reads {b : (i : Nat) → G.E.T i → Nat} (ok : RowsOk G b) {r : Reach} {b0 d : Nat} {t : TypeId} {s : TSh} {v : Value} {dd : DataW H} {pl : List MemPlace} (hs : descP G d t = some s) (hval : Value.okWide G.P w r b0 t v)
  (h : DataW.Trod enc G.P w base spare held t v dd pl) {ι : Nat → Loc} {Hp : List (Blk G.E.T)} : ∃ p : PV G.E.T, FitsP s p ∧ PRep G.E w (· < w.heap.size) ι Hp p v ∧ GoodP G.E p ∧ bulkA b p ≤ Rows.uptoBulk dd := by
 obtain ⟨n, h⟩ := h
 unfold descP at hs
 split at hs
 ·rename_i fs hu
  split at hs
  ·rename_i shs hd
   cases hs
   obtain ⟨ps, p1, p2, p3⟩ := trod_reads ok n d t shs _ _ hd h
   have hv : ∃ cs, v = .agg cs := by
    simp only [Value.okWide, hu] at hval
    obtain ⟨cs, hv, _⟩ := hval
    exact ⟨cs, hv⟩
   obtain ⟨cs, rfl⟩ := hv
   refine ⟨.agg ps, p1, ?_, p2.goods, p3⟩
   simp only [PRep]
   exact ⟨cs, rfl, p1.ones, p2.toP⟩
  ·cases hs
 ·rename_i na ea hu
  split at hs
  ·rename_i shs hd
   cases hs
   obtain ⟨ps, p1, p2, p3⟩ := trod_reads ok n d t shs _ _ hd h
   have hv : ∃ cs, v = .agg cs := by
    simp only [Value.okWide, hu] at hval
    obtain ⟨cs, hv, _⟩ := hval
    exact ⟨cs, hv⟩
   obtain ⟨cs, rfl⟩ := hv
   refine ⟨.agg ps, p1, ?_, p2.goods, p3⟩
   simp only [PRep]
   exact ⟨cs, rfl, p1.ones, p2.toP⟩
  ·cases hs
 ·rename_i hns hna
  split at hs
  ·rename_i s' hd
   cases hs
   have hv : v.cells.toList = [v] := by
    cases d with
    | zero => simp [descT] at hd
    | succ d =>
     unfold descT at hd
     split at hd
     ·rename_i k hu; obtain ⟨m, rfl⟩ := WideShapes.okWide_int hu hval; rfl
     ·rename_i hu; obtain ⟨m, rfl⟩ := WideShapes.okWide_bool hu hval; rfl
     ·rename_i hu; obtain ⟨m, rfl⟩ := WideShapes.okWide_string hu hval; rfl
     ·rename_i e hu; obtain ⟨a, l, c, rfl⟩ := WideShapes.okWide_slice hu hval; rfl
     ·rename_i fs hu; exact absurd hu (hns fs)
     ·rename_i na ea hu; exact absurd hu (hna na ea)
     ·cases hd
   rw [hv] at h
   obtain ⟨ps, p1, p2, p3⟩ := trod_reads ok n d t [s] [v] _ hd h
   cases ps with
   | nil => exact p1.elim
   | cons p ps =>
    cases ps with
    | cons => exact p1.2.elim
    | nil =>
     have h1 := p1.1
     refine ⟨p, ?_, p2.1.toP, ?_, ?_⟩
     ·cases s <;> cases p <;> simp only at h1 <;> exact p1
     ·cases p <;> first | exact p2.1.good | (cases s <;> simp only at h1)
     ·simp only [bulkPs, Nat.add_zero] at p3
      cases p <;> first | exact p3 | (cases s <;> simp only at h1)
  ·cases hs
end
end Go.Proofs.YtgffdmgidnnedaaGreat.V
