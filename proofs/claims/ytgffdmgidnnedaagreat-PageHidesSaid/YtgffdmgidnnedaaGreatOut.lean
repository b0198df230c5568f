/- What a step of the value reading leaves: the steps that make, write, freeze a block. -/
import Derived.Test.YtgffdmgidnnedaaGreatRel
namespace Go.Proofs.YtgffdmgidnnedaaGreat.V
open Go
set_option linter.unusedVariables false
/-- the call's beginning: the memory, what it may write, what nobody writes -/
structure Ctx where
 w0 : World
 O : Nat → Prop
 Fz0 : Nat → Prop
structure Fram (E : Env) (X : Ctx) (w : World) (Fz : Nat → Prop) (ι : Nat → Loc) (H : List (Blk E.T)) : Prop where
 os : w.os = X.w0.os
 tape : w.tape = X.w0.tape
 output : w.output = X.w0.output
 size : X.w0.heap.size ≤ w.heap.size
 block : ∀ B, B < X.w0.heap.size → ¬ X.O B → w.heap[B]? = X.w0.heap[B]?
 own : ∀ id b A, getL H id = some b → b.owned = true → (ι id).a = some A → X.O A.block ∨ X.w0.heap.size ≤ A.block
 fz : ∀ B, Fz B → X.Fz0 B ∨ X.O B ∨ X.w0.heap.size ≤ B
def Blk.prot {T : Nat → Type} : Blk T → Bool
 | .box .prot _ => true
 | .ints .prot _ _ _ => true
 | .rows .prot _ _ _ => true
 | .mp .prot _ => true
 | .mpr .prot _ _ _ => true
 | _ => false
/-- what stands as it stood -/
def Still {E : Env} (w w' : World) (ι : Nat → Loc) (H : List (Blk E.T)) (ι' : Nat → Loc) (H' : List (Blk E.T)) : Prop :=
 ∀ id b, getL H id = some b → (b.prot = true ∨ b.frozen = true) → getL H' id = some b ∧ ι' id = ι id ∧ ∀ A, (ι id).a = some A → w'.heap[A.block]? = w.heap[A.block]?
theorem Still.refl {E : Env} (w : World) (ι : Nat → Loc) (H : List (Blk E.T)) : Still w w ι H ι H := fun _ _ h _ => ⟨h, rfl, fun _ _ => rfl⟩
theorem Still.trans {E : Env} {w w' w'' : World} {ι ι' ι'' : Nat → Loc} {H H' H'' : List (Blk E.T)} (h : Still w w' ι H ι' H') (g : Still w' w'' ι' H' ι'' H'') : Still w w'' ι H ι'' H'' := by
 intro id b hb hp
 obtain ⟨h1, h2, h3⟩ := h id b hb hp
 obtain ⟨g1, g2, g3⟩ := g id b h1 hp
 exact ⟨g1, by rw [g2, h2], fun A hA => by rw [g3 A (by rw [h2]; exact hA), h3 A hA]⟩
/-- a block on which nothing rests -/
def Un {T : Nat → Type} (w : World) (Fz : Nat → Prop) (ι : Nat → Loc) (H : List (Blk T)) (B : Nat) : Prop :=
 B < w.heap.size ∧ ¬ Fz B ∧ ∀ id b A, getL H id = some b → b ≠ .gone → (ι id).a = some A → A.block ≠ B
/-- from one state to a later one -/
structure Step (E : Env) (X : Ctx) (w w' : World) (Fz Fz' : Nat → Prop) (ι ι' : Nat → Loc) (H H' : List (Blk E.T)) : Prop where
 keep : Keep E w w' Fz Fz' ι ι' H H'
 still : Still w w' ι H ι' H'
 heap : HRep E w' Fz' ι' H'
 fram : Fram E X w' Fz' ι' H'
 un : ∀ B, Un w Fz ι H B → w'.heap[B]? = w.heap[B]? ∧ Un w' Fz' ι' H' B
theorem Keep.refl {E : Env} {w : World} {Fz : Nat → Prop} {ι : Nat → Loc} {H : List (Blk E.T)} : Keep E w w Fz Fz ι ι H H := ⟨fun _ h => h, fun _ _ => rfl, .refl ι H⟩
theorem Keep.trans {E : Env} {w w' w'' : World} {Fz Fz' Fz'' : Nat → Prop} {ι ι' ι'' : Nat → Loc} {H H' H'' : List (Blk E.T)}
  (h : Keep E w w' Fz Fz' ι ι' H H') (g : Keep E w' w'' Fz' Fz'' ι' ι'' H' H'') : Keep E w w'' Fz Fz'' ι ι'' H H'' :=
 ⟨fun B hB => g.fz B (h.fz B hB), fun B hB => by rw [g.heap B (h.fz B hB), h.heap B hB], h.le.trans g.le⟩
theorem Step.trans {E : Env} {X : Ctx} {w w' w'' : World} {Fz Fz' Fz'' : Nat → Prop} {ι ι' ι'' : Nat → Loc} {H H' H'' : List (Blk E.T)}
  (h : Step E X w w' Fz Fz' ι ι' H H') (g : Step E X w' w'' Fz' Fz'' ι' ι'' H' H'') : Step E X w w'' Fz Fz'' ι ι'' H H'' :=
 ⟨h.keep.trans g.keep, h.still.trans g.still, g.heap, g.fram, fun B hB => by
  obtain ⟨h1, h2⟩ := h.un B hB
  obtain ⟨g1, g2⟩ := g.un B h2
  exact ⟨g1.trans h1, g2⟩⟩
theorem Step.refl {E : Env} {X : Ctx} {w : World} {Fz : Nat → Prop} {ι : Nat → Loc} {H : List (Blk E.T)} (h : HRep E w Fz ι H) (f : Fram E X w Fz ι H) : Step E X w w Fz Fz ι ι H H :=
 ⟨.refl, .refl w ι H, h, f, fun _ h => ⟨rfl, h⟩⟩
section
variable {E : Env} {X : Ctx} {w w' : World} {Fz : Nat → Prop} {ι ι' : Nat → Loc} {H H' : List (Blk E.T)}
theorem owned_not_frozen {b : Blk E.T} (h : b.owned = true) : b.frozen = false := by
 cases b with
 | gone => rfl
 | mp m k => rfl
 | mpr m k i xs => rfl
 | box m c => rfl
 | ints m k ep xs => cases m <;> first | rfl | (simp [Blk.owned] at h)
 | rows m k ep xs => cases m <;> first | rfl | (simp [Blk.owned] at h)
theorem frozen_of_not_owned {b : Blk E.T} (h : b.owned = false) (hg : b ≠ .gone) : b.frozen = true := by
 cases b with
 | gone => exact absurd rfl hg
 | mp m k => simp [Blk.owned] at h
 | mpr m k i xs => simp [Blk.owned] at h
 | box m c => simp [Blk.owned] at h
 | ints m k ep xs => cases m <;> first | rfl | (simp [Blk.owned] at h)
 | rows m k ep xs => cases m <;> first | rfl | (simp [Blk.owned] at h)
theorem owned_ne_gone {b : Blk E.T} (h : b.owned = true) : b ≠ .gone := by rintro rfl; simp [Blk.owned] at h
theorem BRep.lt {id : Nat} {b : Blk E.T} {A : Addr} (h : BRep E w Fz ι H id b) (hb : b ≠ .gone) (ha : (ι id).a = some A) : A.block < w.heap.size := by
 cases b with
 | gone => exact absurd rfl hb
 | mp m k =>
  simp only [BRep] at h
  obtain ⟨B, h1, es, c, h2, _⟩ := h
  rw [ha] at h1; cases h1
  rcases Nat.lt_or_ge B w.heap.size with q | q
  ·exact q
  ·rw [Array.getElem?_eq_none q] at h2; cases h2
 | mpr m k i xs =>
  simp only [BRep] at h
  obtain ⟨B, h1, es, c, h2, _⟩ := h
  rw [ha] at h1; cases h1
  rcases Nat.lt_or_ge B w.heap.size with q | q
  ·exact q
  ·rw [Array.getElem?_eq_none q] at h2; cases h2
 | box m cells =>
  simp only [BRep] at h
  obtain ⟨B, o, h1, h2, _⟩ := h
  rw [ha] at h1; cases h1; exact h2
 | ints m k ep xs =>
  simp only [BRep] at h
  rcases h.1.2.2 with ⟨h1, _⟩ | ⟨B, o, h1, h2, _⟩
  ·rw [ha] at h1; cases h1
  ·rw [ha] at h1; cases h1; exact h2
 | rows m i ep xs =>
  simp only [BRep] at h
  rcases h.1.2.2 with ⟨h1, _⟩ | ⟨B, o, h1, h2, _⟩
  ·rw [ha] at h1; cases h1
  ·rw [ha] at h1; cases h1; exact h2
theorem getL_lt {α : Type} {l : List α} {i : Nat} {a : α} (h : getL l i = some a) : i < l.length := by
 rw [getL_eq] at h; exact (List.getElem?_eq_some_iff.1 h).1
theorem getL_setL {α : Type} {l : List α} {i : Nat} {a b : α} (h : getL l i = some b) : getL (setL l i a) i = some a := by
 have := getL_lt h
 rw [getL_eq, setL_eq]; simp [this]
theorem getL_setL_ne {α : Type} {l : List α} {i j : Nat} {a : α} (h : j ≠ i) : getL (setL l i a) j = getL l j := by
 rw [getL_eq, getL_eq, setL_eq]; simp [Ne.symm h]
theorem getL_append_lt {α : Type} {l m : List α} {i : Nat} (h : i < l.length) : getL (l ++ m) i = getL l i := by
 rw [getL_eq, getL_eq, List.getElem?_append_left h]
theorem getL_append_len {α : Type} {l : List α} {a : α} : getL (l ++ [a]) l.length = some a := by
 rw [getL_eq]; simp
theorem getL_append_ne {α : Type} {l : List α} {a : α} {i : Nat} (h : i ≠ l.length) : getL (l ++ [a]) i = getL l i := by
 rw [getL_eq, getL_eq]
 rcases Nat.lt_or_ge i l.length with h1 | h1
 ·rw [List.getElem?_append_left h1]
 ·rw [List.getElem?_eq_none h1, List.getElem?_eq_none (by simp; omega)]
/-- One block is made or written; all else stands. -/
theorem Step.upd (h : HRep E w Fz ι H) (f : Fram E X w Fz ι H) (id : Nat) (b' : Blk E.T)
  (hget : getL H' id = some b') (hoth : ∀ j, j ≠ id → getL H' j = getL H j) (hι : ∀ j, j ≠ id → ι' j = ι j)
  (hold : ∀ b, getL H id = some b → b.owned = true ∧ b.prot = false ∧ StepB E ι ι' id b b')
  (hos : w'.os = w.os) (htape : w'.tape = w.tape) (hout : w'.output = w.output) (hsize : w.heap.size ≤ w'.heap.size)
  (hmem : ∀ B, B < w.heap.size → (∀ b A, getL H id = some b → (ι id).a = some A → B ≠ A.block) → w'.heap[B]? = w.heap[B]?)
  (hloc : ∀ A', (ι' id).a = some A' → (∃ b A, getL H id = some b ∧ (ι id).a = some A ∧ A'.block = A.block) ∨ w.heap.size ≤ A'.block)
  (hb' : b'.owned = true)
  (hrep : (K : Keep E w w' Fz Fz ι ι' H H') → BRep E w' Fz ι' H' id b') : Step E X w w' Fz Fz ι ι' H H' := by
 have hfzne : ∀ B, Fz B → ∀ b A, getL H id = some b → (ι id).a = some A → B ≠ A.block := by
  intro B hB b A hb hA e
  subst e
  exact h.free id b A hb (hold b hb).1 hA hB
 have hle : HLe E ι H ι' H' := by
  intro j b hb
  by_cases hj : j = id
  ·subst hj
   exact ⟨b', hget, (hold b hb).2.2⟩
  ·exact ⟨b, by rw [hoth j hj]; exact hb, StepB.of_loc b (hι j hj)⟩
 have K : Keep E w w' Fz Fz ι ι' H H' := ⟨fun _ h => h, fun B hB => hmem B (h.fz B hB) (hfzne B hB), hle⟩
 refine ⟨K, ?_, ?_, ?_, fun B ⟨u1, u2, u3⟩ => ⟨hmem B u1 fun b A hb hA e => u3 id b A hb (owned_ne_gone (hold b hb).1) hA e.symm, Nat.lt_of_lt_of_le u1 hsize, u2, fun j b A hb hg hA e => ?_⟩⟩
 rotate_right
 ·by_cases hj : j = id
  ·subst hj
   rcases hloc A hA with ⟨b0, A0, h0, h1, h2⟩ | h2
   ·exact u3 j b0 A0 h0 (owned_ne_gone (hold b0 h0).1) h1 (by rw [← h2]; exact e)
   ·omega
  ·rw [hoth j hj] at hb
   rw [hι j hj] at hA
   exact u3 j b A hb hg hA e
 ·intro j b hb hp
  by_cases hj : j = id
  ·subst hj
   obtain ⟨h1, h2, _⟩ := hold b hb
   rcases hp with hp | hp
   ·rw [h2] at hp; cases hp
   ·rw [owned_not_frozen h1] at hp; cases hp
  ·refine ⟨by rw [hoth j hj]; exact hb, hι j hj, fun A hA => ?_⟩
   have hbg : b ≠ .gone := by rintro rfl; rcases hp with hp | hp <;> cases hp
   refine hmem _ ((h.rep j b hb).lt hbg hA) fun b0 A0 h0 h1 e => ?_
   by_cases hbo : b.owned = true
   ·exact h.apart j id b b0 A A0 hj hb h0 hbo (hold b0 h0).1 hA h1 e
   ·have hbf : b.frozen = true := frozen_of_not_owned (by simpa using hbo) hbg
    exact h.free id b0 A0 h0 (hold b0 h0).1 h1 (e ▸ h.held j b A hb hbf hA)
 ·have hne : ∀ j b A, j ≠ id → getL H j = some b → b.owned = true → (ι j).a = some A → ∀ A', (ι' id).a = some A' → A.block ≠ A'.block := by
   intro j b A hj hb ho hA A' hA' e
   rcases hloc A' hA' with ⟨b0, A0, h0, h1, h2⟩ | h2
   ·exact h.apart j id b b0 A A0 hj hb h0 ho (hold b0 h0).1 hA h1 (by rw [e, h2])
   ·have := (h.rep j b hb).lt (owned_ne_gone ho) hA
    omega
  refine ⟨fun j b hb => ?_, fun i j b c A A' hij hi hj hbo hco hA hA' => ?_, fun i b A hi ho hA hF => ?_, fun i b A hi ho hA => ?_, fun B hB => Nat.lt_of_lt_of_le (h.fz B hB) hsize⟩
  ·by_cases hj : j = id
   ·subst hj
    rw [hget] at hb; cases hb
    exact hrep K
   ·rw [hoth j hj] at hb
    by_cases hbg : b = .gone
    ·subst hbg; trivial
    ·refine (h.rep j b hb).keep K (hι j hj) fun A hA => ?_
     refine hmem _ ((h.rep j b hb).lt hbg hA) fun b0 A0 h0 h1 e => ?_
     by_cases hbo : b.owned = true
     ·exact h.apart j id b b0 A A0 hj hb h0 hbo (hold b0 h0).1 hA h1 e
     ·have hbf : b.frozen = true := frozen_of_not_owned (by simpa using hbo) hbg
      exact h.free id b0 A0 h0 (hold b0 h0).1 h1 (e ▸ h.held j b A hb hbf hA)
  ·by_cases hi' : i = id
   ·subst hi'
    rw [hget] at hi; cases hi
    rw [hoth j (Ne.symm hij)] at hj
    rw [hι j (Ne.symm hij)] at hA'
    exact fun e => hne j c A' (Ne.symm hij) hj hco hA' A hA e.symm
   ·rw [hoth i hi'] at hi
    rw [hι i hi'] at hA
    by_cases hj' : j = id
    ·subst hj'
     rw [hget] at hj; cases hj
     exact hne i b A hi' hi hbo hA A' hA'
    ·rw [hoth j hj'] at hj
     rw [hι j hj'] at hA'
     exact h.apart i j b c A A' hij hi hj hbo hco hA hA'
  ·by_cases hi' : i = id
   ·subst hi'
    rcases hloc A hA with ⟨b0, A0, h0, h1, h2⟩ | h2
    ·exact h.free i b0 A0 h0 (hold b0 h0).1 h1 (h2 ▸ hF)
    ·have := h.fz _ hF; omega
   ·rw [hoth i hi'] at hi
    rw [hι i hi'] at hA
    exact h.free i b A hi ho hA hF
  ·by_cases hi' : i = id
   ·subst hi'
    rw [hget] at hi; cases hi
    rw [owned_not_frozen hb'] at ho; cases ho
   ·rw [hoth i hi'] at hi
    rw [hι i hi'] at hA
    exact h.held i b A hi ho hA
 ·refine ⟨by rw [hos, f.os], by rw [htape, f.tape], by rw [hout, f.output], Nat.le_trans f.size hsize, fun B hB hO => ?_, fun i b A hi ho hA => ?_, f.fz⟩
  ·rw [hmem B (Nat.lt_of_lt_of_le hB f.size) fun b A hb hA e => ?_]
   ·exact f.block B hB hO
   ·subst e
    rcases f.own id b A hb (hold b hb).1 hA with h1 | h1
    ·exact hO h1
    ·omega
  ·by_cases hi' : i = id
   ·subst hi'
    rcases hloc A hA with ⟨b0, A0, h0, h1, h2⟩ | h2
    ·rw [h2]; exact f.own i b0 A0 h0 (hold b0 h0).1 h1
    ·exact .inr (Nat.le_trans f.size h2)
   ·rw [hoth i hi'] at hi
    rw [hι i hi'] at hA
    exact f.own i b A hi ho hA
end
end Go.Proofs.YtgffdmgidnnedaaGreat.V
