/- Built up of the same payload, under other numbers: the same meaning. -/
import Derived.Test.YtgffdmgidnnedaaGreatCut2
namespace Go.Proofs.YtgffdmgidnnedaaGreat.V
open Go
set_option linter.unusedVariables false
set_option linter.unusedSimpArgs false
section
variable {G : Prg} {w : World} {Fz Fz' : Nat → Prop} {ι ι' : Nat → Loc} {H H' : List (Blk G.E.T)} {ρ ρ' : Nat → Nat × Nat}
structure Agree2 (G : Prg) (ι ι' : Nat → Loc) (H H' : List (Blk G.E.T)) (ρ ρ' : Nat → Nat × Nat) : Prop where
 at_ : ∀ j b, getL H (ρ j).1 = some b → ∃ b', getL H' (ρ' j).1 = some b' ∧ ι' (ρ' j).1 = ι (ρ j).1 ∧ (b.info G.E = none → b'.info G.E = none) ∧
  ∀ ep len sz, b.info G.E = some (ep, len, sz) → ep = (ρ j).2 ∧ b'.info G.E = some ((ρ' j).2, len, sz)
theorem FRep.nohold {E : Env} {p : PV E.T} {v : Value} (h : FRep E w Fz p v) (hp : (∃ k n, p = .int k n) ∨ (∃ b, p = .bool b) ∨ (∃ s, p = .str s)) : FRep E w Fz' p v := by
 cases h with
 | int h => exact .int h
 | bool => exact .bool
 | str h1 h2 => exact .str h1 h2
 | ints => rcases hp with ⟨_, _, e⟩ | ⟨_, e⟩ | ⟨_, e⟩ <;> cases e
 | rows => rcases hp with ⟨_, _, e⟩ | ⟨_, e⟩ | ⟨_, e⟩ <;> cases e
theorem holdsL_cons {s : TSh} {l : List TSh} (h : TSh.holdsL (s :: l) = false) : s.holds = false ∧ TSh.holdsL l = false := by
 simp only [TSh.holdsL] at h
 split at h
 ·cases h
 ·rename_i e; exact ⟨e, h⟩
mutual
theorem renT (hA : Agree2 G ι ι' H H' ρ ρ') : ∀ (s : TSh), ((∀ B, Fz B → Fz' B) ∨ s.holds = false) → ∀ r : List (LV G.E.T), (rebT ρ s r).2 = (rebT ρ' s r).2 ∧ Tr G w Fz Fz' ι ι' H H' (rebT ρ s r).1 (rebT ρ' s r).1
 | .int k, hz, r => by
  rcases r with _ | ⟨_ | _ | _ | _ | _, r⟩ <;> simp only [rebT] <;> refine ⟨trivial, fun e => e, fun u hu => ?_⟩ <;> simp only [PRep] at hu ⊢
  exact hu.nohold (.inl ⟨_, _, rfl⟩)
 | .bool, hz, r => by
  rcases r with _ | ⟨_ | _ | _ | _ | _, r⟩ <;> simp only [rebT] <;> refine ⟨trivial, fun e => e, fun u hu => ?_⟩ <;> simp only [PRep] at hu ⊢
  exact hu.nohold (.inr (.inl ⟨_, rfl⟩))
 | .str, hz, r => by
  rcases r with _ | ⟨_ | _ | _ | _ | _, r⟩ <;> simp only [rebT] <;> refine ⟨trivial, fun e => e, fun u hu => ?_⟩ <;> simp only [PRep] at hu ⊢
  exact hu.nohold (.inr (.inr ⟨_, rfl⟩))
 | .ints k, hz, r => by
  have hz' : ∀ B, Fz B → Fz' B := hz.resolve_right (by simp [TSh.holds])
  rcases r with _ | ⟨_ | _ | _ | _ | _, r⟩ <;> simp only [rebT] <;> refine ⟨trivial, fun e => e, fun u hu => ?_⟩ <;> simp only [PRep] at hu ⊢
  exact hu.mono hz' fun _ _ => rfl
 | .rows i, hz, r => by
  have hz' : ∀ B, Fz B → Fz' B := hz.resolve_right (by simp [TSh.holds])
  rcases r with _ | ⟨_ | _ | _ | _ | ⟨j, xs⟩, r⟩ <;> simp only [rebT]
  case cons.rows =>
   split
   ·refine ⟨trivial, fun e => e, fun u hu => ?_⟩
    simp only [PRep] at hu ⊢
    exact hu.mono hz' fun _ _ => rfl
   ·refine ⟨trivial, fun e => e, fun u hu => ?_⟩
    simp only [PRep] at hu ⊢
  all_goals
   refine ⟨trivial, fun e => e, fun u hu => ?_⟩
   simp only [PRep] at hu ⊢
 | .arr j, hz, r => by
  simp only [rebT]
  refine ⟨trivial, fun _ => rfl, fun u hu => ?_⟩
  simp only [PRep] at hu ⊢
  obtain ⟨b, hb, h1, h2⟩ := hu
  obtain ⟨b', g1, g2, g3, g4⟩ := hA.at_ j b hb
  refine ⟨b', g1, h1, fun ep len sz hi => ?_⟩
  cases hq : b.info G.E with
  | none => rw [g3 hq] at hi; cases hi
  | some x =>
   obtain ⟨ep0, len0, sz0⟩ := x
   obtain ⟨e1, e2⟩ := g4 ep0 len0 sz0 hq
   rw [e2] at hi
   simp only [Option.some.injEq, Prod.mk.injEq] at hi
   obtain ⟨rfl, rfl, rfl⟩ := hi
   exact ⟨Nat.le_refl _, fun _ => by rw [g2]; exact (h2 ep0 len0 sz0 hq).2 e1.symm⟩
 | .agg l, hz, r => by
  obtain ⟨h1, h2⟩ := renTs hA l (hz.imp id fun e => by simpa only [TSh.holds] using e) r
  simp only [rebT]
  refine ⟨h1, fun e => by simp [PV.one] at e, fun u hu => ?_⟩
  simp only [PRep] at hu ⊢
  obtain ⟨cs, rfl, q1, q2⟩ := hu
  exact ⟨cs, rfl, h2.ones q1, h2.reps q2⟩
 | .ptr j off, hz, r => by
  simp only [rebT]
  refine ⟨trivial, fun _ => rfl, fun u hu => ?_⟩
  simp only [PRep] at hu ⊢
  obtain ⟨b, hb, hi, B, o, ha, rfl⟩ := hu
  obtain ⟨b', g1, g2, g3, g4⟩ := hA.at_ j b hb
  exact ⟨b', g1, g3 hi, B, o, by rw [g2]; exact ha, rfl⟩
 | .mapr j, hz, r => by
  simp only [rebT]
  refine ⟨trivial, fun _ => rfl, fun u hu => ?_⟩
  simp only [PRep] at hu ⊢
  obtain ⟨b, hb, hi, B, ha, rfl⟩ := hu
  obtain ⟨b', g1, g2, g3, g4⟩ := hA.at_ j b hb
  exact ⟨b', g1, g3 hi, B, by rw [g2]; exact ha, rfl⟩
 | .nil, hz, r => by
  simp only [rebT]
  refine ⟨trivial, fun e => e, fun u hu => ?_⟩
  simp only [PRep] at hu ⊢
  exact hu
 | .nilsl, hz, r => by
  simp only [rebT]
  refine ⟨trivial, fun e => e, fun u hu => ?_⟩
  simp only [PRep] at hu ⊢
  exact hu
 | .lit k n, hz, r => by
  simp only [rebT]
  refine ⟨trivial, fun e => e, fun u hu => ?_⟩
  simp only [PRep] at hu ⊢
  cases hu; exact .int ‹_›
 | .litb b, hz, r => by
  simp only [rebT]
  refine ⟨trivial, fun e => e, fun u hu => ?_⟩
  simp only [PRep] at hu ⊢
  cases hu; exact .bool
 | .fn f l, hz, r => by
  obtain ⟨h1, h2⟩ := renTs hA l (hz.imp id fun e => by simpa only [TSh.holds] using e) r
  simp only [rebT]
  refine ⟨h1, fun _ => rfl, fun u hu => ?_⟩
  simp only [PRep] at hu ⊢
  obtain ⟨cs, rfl, q2⟩ := hu
  exact ⟨cs, rfl, h2.reps q2⟩
theorem renTs (hA : Agree2 G ι ι' H H' ρ ρ') : ∀ (l : List TSh), ((∀ B, Fz B → Fz' B) ∨ TSh.holdsL l = false) → ∀ r : List (LV G.E.T), (rebTs ρ l r).2 = (rebTs ρ' l r).2 ∧ Trs G w Fz Fz' ι ι' H H' (rebTs ρ l r).1 (rebTs ρ' l r).1
 | [], _, r => by simp only [rebTs]; exact ⟨trivial, trivial⟩
 | s :: l, hz, r => by
  obtain ⟨h1, h2⟩ := renT hA s (hz.imp id fun e => (holdsL_cons e).1) r
  obtain ⟨g1, g2⟩ := renTs hA l (hz.imp id fun e => (holdsL_cons e).2) (rebT ρ s r).2
  simp only [rebTs]
  rw [← h1]
  exact ⟨g1, h2, g2⟩
end
mutual
theorem rebT_rest : ∀ (s : TSh) (r : List (LV G.E.T)), (rebT ρ s r).2 = (rebT ρ' s r).2
 | .int k, r => by rcases r with _ | ⟨_ | _ | _ | _ | _, r⟩ <;> simp only [rebT]
 | .bool, r => by rcases r with _ | ⟨_ | _ | _ | _ | _, r⟩ <;> simp only [rebT]
 | .str, r => by rcases r with _ | ⟨_ | _ | _ | _ | _, r⟩ <;> simp only [rebT]
 | .ints k, r => by rcases r with _ | ⟨_ | _ | _ | _ | _, r⟩ <;> simp only [rebT]
 | .rows i, r => by rcases r with _ | ⟨_ | _ | _ | _ | _, r⟩ <;> simp only [rebT]
 | .arr j, r => by simp only [rebT]
 | .agg l, r => by simp only [rebT]; exact rebTs_rest l r
 | .ptr j off, r => by simp only [rebT]
 | .mapr j, r => by simp only [rebT]
 | .nil, r => by simp only [rebT]
 | .lit k n, r => by simp only [rebT]
 | .litb b, r => by simp only [rebT]
 | .nilsl, r => by simp only [rebT]
 | .fn f l, r => by simp only [rebT]; exact rebTs_rest l r
theorem rebTs_rest : ∀ (l : List TSh) (r : List (LV G.E.T)), (rebTs ρ l r).2 = (rebTs ρ' l r).2
 | [], r => by simp only [rebTs]
 | s :: l, r => by
  simp only [rebTs]
  rw [rebT_rest s r]
  exact rebTs_rest l _
end
/-- one block, built up twice -/
inductive RTr (G : Prg) (TR : List (PV G.E.T) → List (PV G.E.T) → Prop) (Z : Prop) (e e' : Nat) : Blk G.E.T → Blk G.E.T → Prop
 | gone : RTr G TR Z e e' .gone .gone
 | box {vs vs' : List (PV G.E.T)} : TR vs vs' → RTr G TR Z e e' (.box .own vs) (.box .own vs')
 | mp {k : IntKind} : RTr G TR Z e e' (.mp .own k) (.mp .own k)
 | mpr {k : KK} {i : Nat} {xs : List (G.E.T i)} : (Z ∨ G.E.flat i = true) → RTr G TR Z e e' (.mpr .own k i xs) (.mpr .own k i xs)
 | ints {k : IntKind} {xs : List Int} : RTr G TR Z e e' (.ints .own k e xs) (.ints .own k e' xs)
 | rows {i : Nat} {xs : List (G.E.T i)} : (Z ∨ G.E.flat i = true) → RTr G TR Z e e' (.rows .own i e xs) (.rows .own i e' xs)
theorem rebB_ren {e e' : Nat} {b b' : Blk G.E.T} {s : BSh} (hs : s ≠ .same) (hz : (∀ B, Fz B → Fz' B) ∨ s.holds G.E = false) (r : List (LV G.E.T)) :
  (rebB ρ e b s r).2 = (rebB ρ' e' b' s r).2 ∧ RTr G (fun vs vs' => Agree2 G ι ι' H H' ρ ρ' → Trs G w Fz Fz' ι ι' H H' vs vs') (∀ B, Fz B → Fz' B) e e' (rebB ρ e b s r).1 (rebB ρ' e' b' s r).1 := by
 cases s with
 | same => exact absurd rfl hs
 | gone => simp only [rebB]; exact ⟨trivial, .gone⟩
 | mp k => simp only [rebB]; exact ⟨trivial, .mp⟩
 | mpr k i =>
  rcases r with _ | ⟨_ | _ | _ | _ | ⟨j, xs⟩, r⟩ <;> simp only [rebB]
  case cons.rows =>
   split
   ·exact ⟨trivial, .mpr (hz.imp id fun e => by simpa [BSh.holds] using e)⟩
   ·exact ⟨trivial, .gone⟩
  all_goals exact ⟨trivial, .gone⟩
 | box cells =>
  simp only [rebB]
  exact ⟨rebTs_rest _ _, .box fun hA => (renTs hA cells (hz.imp id fun e => by simpa only [BSh.holds] using e) r).2⟩
 | ints k keep =>
  rcases r with _ | ⟨_ | _ | _ | _ | _, r⟩ <;> simp only [rebB] <;> refine ⟨trivial, ?_⟩ <;> first | exact .gone | exact .ints
 | rows i keep =>
  rcases r with _ | ⟨_ | _ | _ | _ | ⟨j, xs⟩, r⟩ <;> simp only [rebB]
  case cons.rows =>
   split
   ·exact ⟨rfl, .rows (hz.imp id fun e => by simpa [BSh.holds] using e)⟩
   ·exact ⟨rfl, .gone⟩
  all_goals exact ⟨trivial, .gone⟩
theorem holdsLB_cons {E : Env} {s : BSh} {l : List BSh} (h : BSh.holdsL E (s :: l) = false) : s.holds E = false ∧ BSh.holdsL E l = false := by
 simp only [BSh.holdsL] at h
 split at h
 ·cases h
 ·rename_i e; exact ⟨e, h⟩
theorem noSame_cons {s : BSh} {l : List BSh} (h : noSame (s :: l) = true) : s ≠ .same ∧ noSame l = true := by
 cases s <;> simp_all [noSame]
theorem rebBs_ren : ∀ (bs : List BSh) (j : Nat) (P P' : List (Blk G.E.T)) (r : List (LV G.E.T)), noSame bs = true → ((∀ B, Fz B → Fz' B) ∨ BSh.holdsL G.E bs = false) → ∀ k, k < bs.length →
  ∃ b b', getL (rebBs ρ j bs P r) k = some b ∧ getL (rebBs ρ' j bs P' r) k = some b' ∧ RTr G (fun vs vs' => Agree2 G ι ι' H H' ρ ρ' → Trs G w Fz Fz' ι ι' H H' vs vs') (∀ B, Fz B → Fz' B) (ρ (j + k)).2 (ρ' (j + k)).2 b b'
 | [], j, P, P', r, _, _, k, hk => by simp at hk
 | s :: bs, j, P, P', r, hn, hz, k, hk => by
  obtain ⟨n1, n2⟩ := noSame_cons hn
  obtain ⟨h1, h2⟩ := rebB_ren (w := w) (ι := ι) (ι' := ι') (H := H) (H' := H') (ρ := ρ) (ρ' := ρ') (e := (ρ j).2) (e' := (ρ' j).2) (b := headB P) (b' := headB P') n1 (hz.imp id fun e => (holdsLB_cons e).1) r
  simp only [rebBs]
  cases k with
  | zero => exact ⟨_, _, rfl, rfl, h2⟩
  | succ k =>
   simp only [getL]
   rw [← h1]
   have := rebBs_ren bs (j + 1) (tailB P) (tailB P') (rebB ρ (ρ j).2 (headB P) s r).2 n2 (hz.imp id fun e => (holdsLB_cons e).2) k (by simpa using hk)
   rwa [show j + 1 + k = j + (k + 1) by omega] at this
end
end Go.Proofs.YtgffdmgidnnedaaGreat.V
