/- The code that the reading runs does what the reading says: all of it. -/
import Derived.Test.YtgffdmgidnnedaaGreatDraw5
import Derived.RangeFuncRecord
import Derived.Below
namespace Go.Proofs.YtgffdmgidnnedaaGreat.V
open Go
set_option linter.unusedVariables false
set_option linter.unusedSimpArgs false
section
variable {G : Prg} {w w' : World} {Fz Fz' : Nat → Prop} {ι ι' : Nat → Loc} {R : Type} {r : R} {X : Ctx} {N : Nat} {ro : Option Nat}
/-! ### Protection -/
theorem protect_length {T : Nat → Type} : ∀ (bs : List BSh) (H : List (Blk T)), (protect bs H).length = H.length
 | [], [] => rfl
 | [], b :: h => by simp [protect, protect_length [] h]
 | s :: bs, [] => by cases s <;> rfl
 | s :: bs, b :: h => by cases s <;> simp [protect, protect_length bs h]
theorem protect_at : ∀ (bs : List BSh) (H : List (Blk G.E.T)) (j : Nat) (b : Blk G.E.T), getL H j = some b → getL (protect bs H) j = some b ∨ getL (protect bs H) j = some (protB b)
 | [], [], j, b, h => by simp [getL] at h
 | s :: bs, [], j, b, h => by simp [getL] at h
 | [], c :: H, 0, b, h => by simp only [getL, Option.some.injEq] at h; subst h; exact .inr rfl
 | [], c :: H, j + 1, b, h => by simp only [getL] at h; exact protect_at [] H j b h
 | s :: bs, c :: H, 0, b, h => by
  simp only [getL, Option.some.injEq] at h; subst h
  cases s <;> first | exact .inr rfl | exact .inl rfl
 | s :: bs, c :: H, j + 1, b, h => by
  simp only [getL] at h
  have := protect_at bs H j b h
  cases s <;> simpa only [protect, getL] using this
theorem sim_protect (bs : List BSh) (H : List (Blk G.E.T)) : Sim (G := G) H (protect bs H) := ⟨(protect_length bs H).symm, fun j b h => protect_at bs H j b h⟩
theorem Sim.back {P base : List (Blk G.E.T)} (h : Sim (G := G) P base) {j : Nat} {b : Blk G.E.T} (hb : getL base j = some b) :
  ∃ p, getL P j = some p ∧ b.owned = p.owned ∧ b.frozen = p.frozen ∧ b.info G.E = p.info G.E ∧ (b = p ∨ b = protB p) := by
 obtain ⟨p, h1, h2⟩ := h.get hb
 refine ⟨p, h1, ?_, ?_, ?_, h2⟩ <;> rcases h2 with rfl | rfl <;> first | rfl | exact protB_owned _ | exact protB_frozen _ | exact protB_info _
theorem BRep.protB {E : Env} {id : Nat} {H : List (Blk E.T)} {b : Blk E.T} (h : BRep E w Fz ι H id b) : BRep E w Fz ι H id (V.protB b) := by
 cases b with
 | gone => exact h
 | mp m k => cases m <;> exact h
 | mpr m k i xs => cases m <;> exact h
 | box m c => cases m <;> exact h
 | ints m k ep xs => cases m <;> exact h
 | rows m k ep xs => cases m <;> exact h
theorem Sim.keep {P base : List (Blk G.E.T)} (h : Sim (G := G) P base) : Keep G.E w w Fz Fz ι ι P base :=
 ⟨fun _ h => h, fun _ _ => rfl, fun j b hb => by
  rcases h.at_ j b hb with e | e
  ·exact ⟨b, e, .refl b⟩
  ·refine ⟨_, e, fun hi => ⟨by rw [protB_info]; exact hi, rfl⟩, fun ep len sz hi => .inr ⟨ep, len, sz, by rw [protB_info]; exact hi, Nat.le_refl _, fun _ => ⟨rfl, rfl, rfl⟩⟩, fun e => by subst e; rfl⟩⟩
theorem HRep.sim {P base : List (Blk G.E.T)} (h : Sim (G := G) P base) (hP : HRep G.E w Fz ι P) : HRep G.E w Fz ι base := by
 refine ⟨fun id b hb => ?_, fun i j b b' A A' hij hi hj ho ho' hA hA' => ?_, fun i b A hi ho hA => ?_, fun i b A hi ho hA => ?_, hP.fz⟩
 ·obtain ⟨p, h1, _, _, _, h2⟩ := h.back hb
  have := (hP.rep id p h1).keep h.keep rfl (fun _ _ => rfl)
  rcases h2 with rfl | rfl
  ·exact this
  ·exact this.protB
 ·obtain ⟨p, h1, h2, _⟩ := h.back hi
  obtain ⟨q, g1, g2, _⟩ := h.back hj
  exact hP.apart i j p q A A' hij h1 g1 (by rw [← h2]; exact ho) (by rw [← g2]; exact ho') hA hA'
 ·obtain ⟨p, h1, h2, _⟩ := h.back hi
  exact hP.free i p A h1 (by rw [← h2]; exact ho) hA
 ·obtain ⟨p, h1, _, h2, _⟩ := h.back hi
  exact hP.held i p A h1 (by rw [← h2]; exact ho) hA
theorem Fram.sim {P base : List (Blk G.E.T)} (h : Sim (G := G) P base) (hP : Fram G.E X w Fz ι P) : Fram G.E X w Fz ι base :=
 ⟨hP.os, hP.tape, hP.output, hP.size, hP.block, fun i b A hi ho hA => by
  obtain ⟨p, h1, h2, _⟩ := h.back hi
  exact hP.own i p A h1 (by rw [← h2]; exact ho) hA, hP.fz⟩
/-! ### Environments -/
theorem looks_rep {E : Env} {H : List (Blk E.T)} {env : List (Nat × PV E.T)} {a : Act} (h : EnvRep E w Fz ι H env a) : ∀ tm : List (Nat × TSh), PReps E w Fz ι H (looks env tm) (tm.map fun x => a.tmps.getD x.1 undef)
 | [] => by simp [looks, PReps]
 | (t, s) :: l => by simp only [looks, List.map_cons, PReps]; exact ⟨h t, looks_rep h l⟩
theorem zipT_rep {E : Env} {H : List (Blk E.T)} {env : List (Nat × PV E.T)} {a : Act} (h : EnvRep E w Fz ι H env a) : ∀ (tm : List (Nat × TSh)) (vs : List (PV E.T)),
  PReps E w Fz ι H vs (tm.map fun x => a.tmps.getD x.1 undef) → EnvRep E w Fz ι H (zipT tm vs env) a
 | [], vs, _ => by cases vs <;> exact h
 | (t, s) :: l, [], hv => by simp [PReps] at hv
 | (t, s) :: l, v :: vs, hv => by
  simp only [List.map_cons, PReps] at hv
  intro u
  simp only [zipT, look]
  split
  ·rename_i e
   have := nat_beq e
   subst this
   exact hv.1
  ·exact zipT_rep h l vs hv.2 u
theorem look_minus {T : Nat → Type} : ∀ (env : List (Nat × PV T)) (ds : List Nat) (t : Nat), look t (minus env ds) = .any ∨ (t ∉ ds ∧ look t (minus env ds) = look t env)
 | [], ds, t => by simp [minus, look]
 | (u, v) :: r, ds, t => by
  simp only [minus]
  split
  ·rename_i hm
   rcases look_minus r ds t with h | ⟨h1, h2⟩
   ·exact .inl h
   ·refine .inr ⟨h1, ?_⟩
    rw [h2]
    simp only [look]
    split
    ·rename_i e
     have := nat_beq e
     subst this
     exact absurd (memN_iff.1 hm) h1
    ·rfl
  ·rename_i hm
   simp only [look]
   split
   ·rename_i e
    have := nat_beq e
    subst this
    exact .inr ⟨fun e => (by rw [memN_iff.2 e] at hm; cases hm), rfl⟩
   ·exact look_minus r ds t
theorem minus_rep {E : Env} {H : List (Blk E.T)} {env : List (Nat × PV E.T)} {a a' : Act} {ds : List Nat} (h : EnvRep E w Fz ι H env a) (hs : ∀ t, t ∉ ds → a'.tmps.getD t undef = a.tmps.getD t undef) :
  EnvRep E w Fz ι H (minus env ds) a' := by
 intro t
 rcases look_minus env ds t with e | ⟨e1, e2⟩
 ·rw [e]; simp [PRep]
 ·rw [e2, hs t e1]; exact h t
/-! ### Cuts -/
theorem castSt_sound {c : Cut} {ds : List Nat} {σ0 σ' : St G.E.T} {P base : List (Blk G.E.T)} {p : Pay G.E.T c.leaves} (hc : castSt c base σ' = some p) {a a' : Act}
  (hP : HRep G.E w Fz ι P) (hFP : EnvRep G.E w Fz ι P σ0.env a) (hsim : Sim (G := G) P base)
  (hg : Goes G X N ds w Fz ι base a w' Fz' ι' σ' a') :
  ∃ Fz'' ι'', Goes G X N ds w Fz ι P a w' Fz'' ι'' (rebSt c ⟨minus σ0.env ds, P⟩ p) a' ∧ ∀ B, Un w' Fz' ι' σ'.heap B → Un w' Fz'' ι'' (rebSt c ⟨minus σ0.env ds, P⟩ p).heap B := by
 unfold castSt at hc
 split at hc
 ·cases hc
 ·rename_i l cs hcast
  split at hc
  ·have hl := toL_ofL hc
   obtain ⟨h1, h2, h3⟩ := cast_cut hg.step hP hsim hcast
   refine ⟨lentFz Fz' ι' cs.lent, bindι ι' cs, ⟨?_, ?_, hg.size, ?_, hg.stay⟩, by simp only [rebSt, hl]; exact h3⟩
   ·simp only [rebSt, hl]; exact h1
   ·simp only [rebSt, hl]
    exact zipT_rep (minus_rep (hFP.mono h1.keep) hg.stay) c.tm _ (h2.reps (looks_rep hg.env c.tm))
   ·simp only [rebSt, hl]
    exact hg.defers.un fun B hB => ⟨rfl, h3 B hB⟩
  ·cases hc
theorem put_get_alt {ex : Ex} {σ' : St G.E.T} {base : List (Blk G.E.T)} {base' : St G.E.T} {k : Ex → St G.E.T → Option R} : ∀ {as : List (Ex × Cut)} {p : AltT G.E.T as}, putAlt as base ex σ' = some p → getAlt as base' p k = some r →
  ∃ c q, castSt c base σ' = some q ∧ k ex (rebSt c base' q) = some r
 | [], p, h, _ => p.elim
 | [(e, c)], p, h, g => by
  simp only [putAlt] at h
  split at h
  ·rename_i he
   have : ex = e := by
    cases ex <;> cases e <;> simp only [Ex.same] at he <;> first | rfl | cases he | (rw [nat_beq he])
   subst this
   exact ⟨c, p, h, g⟩
  ·cases h
 | (e, c) :: b :: as, p, h, g => by
  simp only [putAlt] at h
  split at h
  ·rename_i he
   have : ex = e := by
    cases ex <;> cases e <;> simp only [Ex.same] at he <;> first | rfl | cases he | (rw [nat_beq he])
   subst this
   split at h
   ·rename_i q hq
    cases h
    exact ⟨c, q, hq, g⟩
   ·cases h
  ·split at h
   ·rename_i q hq
    cases h
    exact put_get_alt hq g
   ·cases h
/-! ### What is left behind -/
def exitIs : Ex → Exit → Prop
 | .normal, .normal => True
 | .exit i, .exit j => i = j
 | .ret, .ret => True
 | _, _ => False
/-- behind a piece of code that began at (w, a) with the blocks H and writes ds: the reading goes on with k and answers r -/
def Post (G : Prg) (X : Ctx) (N : Nat) (ds : List Nat) (w : World) (Fz : Nat → Prop) (ι : Nat → Loc) (H : List (Blk G.E.T)) (a : Act) (k : Ex → St G.E.T → Option R) (r : R) : Exit → Act → World → Prop :=
 fun e a' w' => ∃ ex σ' Fz' ι', exitIs ex e ∧ k ex σ' = some r ∧ Goes G X N ds w Fz ι H a w' Fz' ι' σ' a'
theorem joined_sound {ds : List Nat} {as : Option (List (Ex × Cut))} {σ : St G.E.T} {run : St G.E.T → {A : Type} → (Ex → St G.E.T → Option A) → Option A} {k : Ex → St G.E.T → Option R} (h : joined G as ds σ run k = some r)
  {c : Code} {a : Act} (hA : At G X N w Fz ι σ a)
  (hrun : ∀ (σ1 : St G.E.T) {A : Type} (k1 : Ex → St G.E.T → Option A) (r1 : A), σ1.env = σ.env → run σ1 k1 = some r1 → At G X N w Fz ι σ1 a → c.wpIn (fence ro) 0 G.P (Post G X N ds w Fz ι σ1.heap a k1 r1) a w) :
  c.wpIn (fence ro) 0 G.P (Post G X N ds w Fz ι σ.heap a k r) a w := by
 unfold joined at h
 split at h
 ·exact hrun σ k r rfl h hA
 ·rename_i as
  obtain ⟨p, h1, h2⟩ := Option.bind_eq_some_iff.1 h
  have hsim := sim_protect (G := G) (firstBs as) σ.heap
  refine wpIn_mono (hrun ⟨σ.env, protect (firstBs as) σ.heap⟩ _ p rfl h1 ⟨hA.heap.sim hsim, hA.fram.sim hsim, hA.env.mono hsim.keep, hA.size, hA.defers.un fun B hB => ⟨rfl, hsim.un hB⟩⟩) ?_
  rintro e a' w' ⟨ex, σ', Fz', ι', he, hp, hg⟩
  obtain ⟨c, q, hc, hk⟩ := put_get_alt hp h2
  obtain ⟨Fz'', ι'', hgo, _⟩ := castSt_sound (σ0 := σ) hc hA.heap hA.env hsim hg
  exact ⟨ex, _, Fz'', ι'', he, hk, hgo⟩
theorem least_of {p : Nat → Prop} : ∀ n, p n → ∃ m, m ≤ n ∧ p m ∧ ∀ k, k < m → ¬ p k := by
 intro n
 induction n using Nat.strongRecOn with
 | _ n ih =>
  intro hn
  by_cases h : ∃ k, k < n ∧ p k
  ·obtain ⟨k, h1, h2⟩ := h
   obtain ⟨m, g1, g2, g3⟩ := ih k h1 h2
   exact ⟨m, by omega, g2, g3⟩
  ·exact ⟨n, Nat.le_refl _, hn, fun k hk hp => h ⟨k, hk, hp⟩⟩
theorem wpIn_loop_n {F : Fence} {n0 : Nat} {P : Program} {Q : Exit → Act → World → Prop} {c : Code} {a : Act} {w : World} (I : Nat → Act → World → Prop) {n : Nat} (h0 : I n a w)
  (round : ∀ n a w, I n a w → c.wpIn F n0 P (Exit.then (fun a' w' => ∃ m, m < n ∧ I m a' w') Q) a w) : (Code.loop c).wpIn F n0 P Q a w := by
 classical
 let μ : Act → World → Nat := fun a w => if h : ∃ n, I n a w then (least_of (p := fun n => I n a w) h.choose h.choose_spec).choose else 0
 have hμ : ∀ n a w, I n a w → I (μ a w) a w ∧ μ a w ≤ n := by
  intro n a w hn
  have hex : ∃ n, I n a w := ⟨n, hn⟩
  have hs := (least_of (p := fun n => I n a w) hex.choose hex.choose_spec).choose_spec
  have : μ a w = (least_of (p := fun n => I n a w) hex.choose hex.choose_spec).choose := by simp only [μ, dif_pos hex]
  rw [this]
  refine ⟨hs.2.1, ?_⟩
  rcases Nat.lt_or_ge n (least_of (p := fun n => I n a w) hex.choose hex.choose_spec).choose with q | q
  ·exact absurd hn (hs.2.2 n q)
  ·exact q
 refine wpIn_loop (fun a w => I (μ a w) a w) μ (hμ n a w h0).1 fun a w hI => ?_
 refine wpIn_mono (round _ a w hI) fun e a' w' he => ?_
 cases e with
 | normal =>
  obtain ⟨m, h1, h2⟩ := he
  obtain ⟨g1, g2⟩ := hμ m a' w' h2
  exact ⟨g1, by omega⟩
 | exit id => exact he
 | goto l => exact he
 | ret => exact he
 | panic ch => exact he
 | outgrown => exact he
/-- a block that is laid since, and on which nothing rests, is turned -/
theorem Keep.turn {E : Env} {H : List (Blk E.T)} {D : Nat} {o : Obj} (hu : Un w Fz ι H D) : Keep E w (w.putObj D o) Fz Fz ι ι H H :=
 ⟨fun _ h => h, fun B hB => World.putObj_heap_other fun e => hu.2.1 (e ▸ hB), .refl ι H⟩
theorem HRep.turn {E : Env} {H : List (Blk E.T)} {D : Nat} {o : Obj} (hu : Un w Fz ι H D) (h : HRep E w Fz ι H) : HRep E (w.putObj D o) Fz ι H :=
 ⟨fun id b hb => by
  by_cases hg : b = .gone
  ·subst hg; trivial
  ·exact (h.rep id b hb).keep (Keep.turn hu) rfl fun A hA => World.putObj_heap_other fun e => hu.2.2 id b A hb hg hA e, h.apart, h.free, h.held, fun B hB => by rw [World.putObj_size]; exact h.fz B hB⟩
theorem Un.turn {T : Nat → Type} {H : List (Blk T)} {B D : Nat} {o : Obj} (hu : Un w Fz ι H B) : Un (w.putObj D o) Fz ι H B := ⟨by rw [World.putObj_size]; exact hu.1, hu.2⟩
theorem Step.turn {E : Env} {H H' : List (Blk E.T)} {D : Nat} {o : Obj} (h : Step E X w w' Fz Fz' ι ι' H H') (hu : Un w' Fz' ι' H' D) (h1 : w.heap.size ≤ D) (h2 : X.w0.heap.size ≤ D) (hz : ∀ B, Fz B → B < w.heap.size)
  (hl : ∀ id b A, getL H id = some b → b ≠ .gone → (ι id).a = some A → A.block < w.heap.size) : Step E X w (w'.putObj D o) Fz Fz' ι ι' H H' := by
 have hk := Keep.turn (o := o) hu
 have hne : ∀ B, B < w.heap.size → B ≠ D := fun B hB e => by omega
 refine ⟨h.keep.trans hk, fun id b hb hp => ?_, h.heap.turn hu, ⟨h.fram.os, h.fram.tape, h.fram.output, by rw [World.putObj_size]; exact h.fram.size, fun B hB hO => ?_, h.fram.own, h.fram.fz⟩, fun B hB => ?_⟩
 ·obtain ⟨e1, e2, e3⟩ := h.still id b hb hp
  refine ⟨e1, e2, fun A hA => ?_⟩
  rw [← e3 A hA]
  refine World.putObj_heap_other fun e => ?_
  have := hl id b A hb (by rintro rfl; rcases hp with hp | hp <;> cases hp) hA
  omega
 ·rw [World.putObj_heap_other (by omega)]; exact h.fram.block B hB hO
 ·obtain ⟨e1, e2⟩ := h.un B hB
  exact ⟨by rw [World.putObj_heap_other (hne B hB.1)]; exact e1, e2.turn⟩
/-! ### A range over a function -/
theorem Step.lay {E : Env} {H : List (Blk E.T)} {o : Obj} (h : HRep E w Fz ι H) (f : Fram E X w Fz ι H) : Step E X w (w.alloc o) Fz Fz ι ι H H := by
 have hs : (w.alloc o).heap.size = w.heap.size + 1 := World.size_alloc ..
 have hb : ∀ B, B < w.heap.size → (w.alloc o).heap[B]? = w.heap[B]? := fun B hB => RowKit.Below.heap_alloc w o B hB
 have K : Keep E w (w.alloc o) Fz Fz ι ι H H := ⟨fun _ h => h, fun B hB => hb B (h.fz B hB), .refl ι H⟩
 have hl : ∀ id b A, getL H id = some b → b ≠ .gone → (ι id).a = some A → A.block < w.heap.size := fun id b A hb' hg hA => (h.rep id b hb').lt hg hA
 have hpg : ∀ {b : Blk E.T}, b.prot = true ∨ b.frozen = true → b ≠ .gone := fun {b} hp e => by subst e; rcases hp with hp | hp <;> cases hp
 refine ⟨K, fun id b hb' hp => ⟨hb', rfl, fun A hA => hb _ (hl id b A hb' (hpg hp) hA)⟩, ⟨fun id b hb' => ?_, h.apart, h.free, h.held, fun B hB => by rw [hs]; have := h.fz B hB; omega⟩,
  ⟨f.os, f.tape, f.output, by rw [hs]; have := f.size; omega, fun B hB hO => by rw [hb B (Nat.lt_of_lt_of_le hB f.size)]; exact f.block B hB hO, f.own, f.fz⟩, fun B hB => ⟨hb B hB.1, by rw [hs]; have := hB.1; omega, hB.2⟩⟩
 by_cases hg : b = .gone
 ·subst hg; trivial
 ·exact (h.rep id b hb').keep K rfl fun A hA => hb _ (hl id b A hb' hg hA)
theorem splitY_spec {y : Nat} : ∀ {l acc : List Oper} {pre post : List Oper} {d : Nat} {args : List Operand}, splitY y l acc = some (pre, d, args, post) →
  ∃ z, acc.reverse ++ l = pre ++ z :: post ∧ z.guard = none ∧ z.dst = some d ∧ ∃ as ts, z.op = .call ⟨.value (.tmp y), as, ts⟩ ∧ args = as.toList
 | [], acc, pre, post, d, args, h => by simp [splitY] at h
 | o :: l, acc, pre, post, d, args, h => by
  simp only [splitY] at h
  split at h
  ·rename_i h1 h2 h3
   split at h
   ·rename_i hz
    cases h
    have := nat_beq hz
    subst this
    exact ⟨o, rfl, h3, h2, _, _, h1, rfl⟩
   ·cases h
  ·cases h
  ·obtain ⟨z, q1, q2⟩ := splitY_spec h
   exact ⟨z, by simpa using q1, q2⟩
theorem itOf_spec {c : Code} {I : It} (h : itOf c = some I) : ∃ i0 r0 b i1 r1 bb i3 r3 i2 r2 o z as ts,
  c = .seq (.region i0 r0 false) (.block b (.loop (.seq (.seq (.region i1 r1 false) (.cond (.tmp I.tb) .skip (.exit b))) (.seq (.block bb (.seq (.region i3 r3 false) (.cond (.tmp I.td) .ret .skip))) (.region i2 r2 false))))) ∧
  I.r0 = r0.toList ∧ I.r1 = r1.toList ∧ I.r2 = r2.toList ∧ I.r3 = r3.toList ∧ r3.toList = o :: (I.pre ++ z :: I.post) ∧ o.op = .move (.tmp 0) ∧ o.dst = some I.y ∧ o.guard = none ∧
  z.guard = none ∧ z.dst = some I.dy ∧ z.op = .call ⟨.value (.tmp I.y), as, ts⟩ ∧ I.args = as.toList ∧ 0 ∉ I.ds ∧ I.y ∉ dstsOps I.pre := by
 unfold itOf at h
 split at h
 ·rename_i i0 r0 b i1 r1 tb b' bb i3 r3 td i2 r2
  split at h
  ·rename_i o l hb hl
   have hb := nat_beq hb
   subst hb
   split at h
   ·rename_i y h1 h2 h3
    split at h
    ·rename_i pre dy args post h4 h5
     split at h
     ·rename_i h6
      cases h
      obtain ⟨z, q1, q2, q3, as, ts, q4, q5⟩ := splitY_spec h4
      refine ⟨i0, r0, _, i1, r1, bb, i3, r3, i2, r2, o, z, as, ts, rfl, rfl, rfl, rfl, rfl, by rw [hl]; simpa using q1, h1, h2, h3, q2, q3, q4, q5, fun e => ?_, fun e => ?_⟩
      ·rw [memN_iff.2 (show 0 ∈ dstsOps r0.toList ++ (dstsOps r1.toList ++ (dstsOps r3.toList ++ dstsOps r2.toList)) from e)] at h5; cases h5
      ·rw [memN_iff.2 (show y ∈ dstsOps pre from e)] at h6; cases h6
     ·cases h
    ·cases h
   ·cases h
  ·cases h
 ·cases h
/-- the record of a range over a function, and the block for what its rounds put off -/
structure RecAt {T : Nat → Type} (W : World) (rc : LoopState → Option Code → Loop) (st : LoopState) (pe : Option Code) (w : World) (Fz : Nat → Prop) (ι : Nat → Loc) (H : List (Blk T)) : Prop where
 l : Un w Fz ι H (W.heap.size + 1)
 lo : w.heap[W.heap.size + 1]? = some (.loop (rc st pe))
 d : Un w Fz ι H W.heap.size
 do_ : w.heap[W.heap.size]? = some (.deferred (some []))
theorem RecAt.un {T : Nat → Type} {W : World} {rc : LoopState → Option Code → Loop} {st : LoopState} {pe : Option Code} {H H' : List (Blk T)} (h : RecAt W rc st pe w Fz ι H) (hu : ∀ B, Un w Fz ι H B → w'.heap[B]? = w.heap[B]? ∧ Un w' Fz' ι' H' B) : RecAt W rc st pe w' Fz' ι' H' :=
 ⟨(hu _ h.l).2, (hu _ h.l).1.trans h.lo, (hu _ h.d).2, (hu _ h.d).1.trans h.do_⟩
theorem RecAt.turn {T : Nat → Type} {W : World} {rc : LoopState → Option Code → Loop} {st st' : LoopState} {pe pe' : Option Code} {H : List (Blk T)} (h : RecAt W rc st pe w Fz ι H) :
  RecAt W rc st' pe' (w.putObj (W.heap.size + 1) (.loop (rc st' pe'))) Fz ι H :=
 ⟨h.l.turn, World.putObj_heap_same h.l.1, h.d.turn, (World.putObj_heap_other (by omega)).trans h.do_⟩
theorem Marks.turn {T : Nat → Type} {H : List (Blk T)} {ds : List Deferred} {l : Nat} {lo : Loop} {o : Obj} (h : Marks X w Fz ι H ds) (hl : w.heap[l]? = some (.loop lo)) : Marks X (w.putObj l o) Fz ι H ds := by
 obtain ⟨Ds, h1, h2, h3⟩ := h
 refine ⟨Ds, h1, h2, fun D hD => ?_⟩
 obtain ⟨g1, g2, g3⟩ := h3 D hD
 exact ⟨g1, g2.turn, by rw [World.putObj_heap_other (show D ≠ l from fun e => by subst e; rw [g3] at hl; cases hl)]; exact g3⟩
theorem dstsOps_append : ∀ (l m : List Oper), dstsOps (l ++ m) = dstsOps l ++ dstsOps m
 | [], m => rfl
 | o :: l, m => by
  simp only [List.cons_append, dstsOps]
  cases o.dst with
  | none => exact dstsOps_append l m
  | some d => simp [dstsOps_append l m]
/-- the jump that a round leaves behind -/
def jumpOf : Ex → Option Code
 | .normal => none
 | .exit id => some (.exit id)
 | .ret => some .ret
theorem wpListIn_named {F : Fence} {n : Nat} {P : Program} {ops : Array Oper} {Q : Exit → Act → World → Prop} {l : List Oper} {a : Act} {w : World} (h : ∀ Q', Q' = Q → wpListIn F n P ops Q' l a w) : wpListIn F n P ops Q l a w := h Q rfl
theorem look_at {t u : Nat} {T : Nat → Type} {v : PV T} {l : List (Nat × PV T)} : look t ((u, v) :: l) = if t = u then v else look t l := by
 simp only [look]
 by_cases e : t = u
 ·subst e; simp
 ·have : Nat.beq t u = false := by
   rcases hq : Nat.beq t u with _ | _
   ·rfl
   ·exact absurd (nat_beq hq) e
  rw [this, if_neg e]
theorem vrange_sound (ok : PrgOk G) {rec : Rec G} (hrec : Spec G rec) {ann : Ann} {I : It} {c assign body : Code} {fn : Func} {f : Nat} {g : Operand} {ps : Array Nat} {head : Cut} {as : List (Ex × Cut)} {cap : PV G.E.T} {σ : St G.E.T} {k : Ex → St G.E.T → Option R}
  (hfn : G.P.funcs[f]? = some fn) (hc : fn.body = some c) (hI : itOf c = some I) (hres : fn.results.toList = [])
  (hA' : ∀ (l : Nat) {A : Type} (σ : St G.E.T) (k : Ex → St G.E.T → Option A) (r : A), vrun G rec ann N assign σ k = some r → ∀ {a : Act} {w : World} {Fz : Nat → Prop} {ι : Nat → Loc}, At G X N w Fz ι σ a →
   assign.wpIn (fence (some l)) 0 G.P (Post G X N (dsts assign) w Fz ι σ.heap a k r) a w)
  (hB' : ∀ (l : Nat) {A : Type} (σ : St G.E.T) (k : Ex → St G.E.T → Option A) (r : A), vrun G rec ann N body σ k = some r → ∀ {a : Act} {w : World} {Fz : Nat → Prop} {ι : Nat → Loc}, At G X N w Fz ι σ a →
   body.wpIn (fence (some l)) 0 G.P (Post G X N (dsts body) w Fz ι σ.heap a k r) a w)
  (h : vrange G rec fn.ntmps I head as cap ps.toList N σ (fun σ _ k => vrun G rec ann N assign σ fun e σ => match e with
   | .normal => vrun G rec ann N body σ k
   | _ => none) k = some r)
  (hg : eval σ.env g = .fn f [cap]) {a : Act} (hA : At G X N w Fz ι σ a) : (Code.rangeFunc g ps assign body).wpIn (fence none) 0 G.P (Post G X N [] w Fz ι σ.heap a k r) a w := by
 have hgr := eval_rep hA.env g
 rw [hg] at hgr
 simp only [PRep] at hgr
 obtain ⟨cs, hfv, hcs⟩ := hgr
 obtain ⟨cv, rfl⟩ : ∃ cv, cs = #[cv] := by
  rcases cs with ⟨_ | ⟨cv, _ | ⟨b, l⟩⟩⟩
  ·simp [PReps] at hcs
  ·exact ⟨cv, rfl⟩
  ·simp [PReps] at hcs
 have hcap : PRep G.E w Fz ι σ.heap cap cv := by simpa [PReps] using hcs
 obtain ⟨i0, r0, b, i1, r1, bb, i3, r3, i2, r2, o, z, ys, ts, rfl, e0, e1, e2, e3, hr3, ho, hod, hog, hzg, hzd, hzo, hargs, h0, hy⟩ := itOf_spec hI
 have hname := ok.names _ fn hfn (by rw [hc]; rfl)
 have hnone : fn.body.isNone = false := by rw [hc]; rfl
 refine wpIn_rangeFunc fun fo _ => ?_
 obtain ⟨rc, hrc⟩ : ∃ rc : LoopState → Option Code → Loop, rc = fun st pe => { state := st, pending := pe, fn := fo, tmps := a.tmps, params := ps, assign, body, defers := w.heap.size } := ⟨_, rfl⟩
 obtain ⟨w1, hw1⟩ : ∃ w1, w1 = (w.alloc (.deferred (some []))).alloc (.loop (rc .ready none)) := ⟨_, rfl⟩
 have hsz : w.heap.size + 1 < w1.heap.size := by rw [hw1, World.size_alloc, World.size_alloc]; omega
 -- where all begins
 have hsim := sim_protect (G := G) head.bs σ.heap
 have hB : HRep G.E w Fz ι (protect head.bs σ.heap) := hA.heap.sim hsim
 have hFB : Fram G.E X w Fz ι (protect head.bs σ.heap) := hA.fram.sim hsim
 have hEB : EnvRep G.E w Fz ι (protect head.bs σ.heap) σ.env a := hA.env.mono hsim.keep
 have hs1 : Step G.E X w w1 Fz Fz ι ι (protect head.bs σ.heap) (protect head.bs σ.heap) := by
  have s1 := Step.lay (o := .deferred (some [])) hB hFB
  rw [hw1]
  exact s1.trans (Step.lay s1.heap s1.fram)
 have hrec1 : RecAt w rc .ready none w1 Fz ι (protect head.bs σ.heap) := by
  have hun : ∀ B, w.heap.size ≤ B → B < w1.heap.size → Un w1 Fz ι (protect head.bs σ.heap) B := fun B h1 h2 =>
   ⟨h2, fun hF => by have := hB.fz B hF; omega, fun id b A hb hg hA e => by have := (hB.rep id b hb).lt hg hA; omega⟩
  refine ⟨hun _ (by omega) hsz, ?_, hun _ (Nat.le_refl _) (by omega), ?_⟩
  ·rw [hw1]; have := World.alloc_heap_new (w.alloc (.deferred (some []))) (.loop (rc .ready none)); rwa [World.size_alloc] at this
  ·rw [hw1, RowKit.Below.heap_alloc _ _ _ (by rw [World.size_alloc]; omega)]; exact World.alloc_heap_new ..
 -- the act of the iterator
 obtain ⟨a0, ha0⟩ : ∃ a0 : Act, a0 = { tmps := #[.func (.yield (w.heap.size + 1)) #[] #[], cv] ++ Array.replicate (fn.ntmps - 2) undef, defers := [] } := ⟨_, rfl⟩
 have hy0 : a0.tmps.getD 0 undef = .func (.yield (w.heap.size + 1)) #[] #[] := by rw [ha0, Array.getD_eq_getD_getElem?, Array.getElem?_append_left (by simp)]; rfl
 have hc0 : a0.tmps.getD 1 undef = cv := by rw [ha0, Array.getD_eq_getD_getElem?, Array.getElem?_append_left (by simp)]; rfl
 have hE0 : EnvRep G.E w Fz ι (protect head.bs σ.heap) [(1, cap)] a0 := by
  intro t
  rw [look_at]
  split
  ·rename_i e; subst e; rw [hc0]; exact hcap.mono hsim.keep
  ·simp [look, PRep]
 have hG0 : Goes G X fn.ntmps I.ds w Fz ι (protect head.bs σ.heap) a0 w1 Fz ι ⟨[(1, cap)], protect head.bs σ.heap⟩ a0 :=
  ⟨hs1, fun t => (hE0 t).mono hs1.keep, by rw [ha0]; simp; omega, by rw [ha0]; exact .nil, fun _ _ => rfl⟩
 -- the act behind the statement
 obtain ⟨aQ, haQ⟩ : ∃ aQ : Act, aQ = { a with defers := [markOf w.heap.size] ++ a.defers } := ⟨_, rfl⟩
 refine ⟨w.heap.size + 1, [markOf w.heap.size], w1, { target := .fn (.func f) #[cv], args := #[.func (.yield (w.heap.size + 1)) #[] #[]] }, w1, f, #[.func (.yield (w.heap.size + 1)) #[] #[]] ++ #[cv], w1, ?_, ?_, fun _ _ => trivial, ?_, fun e => (by cases e), ?_⟩
 ·rw [hw1, hrc]; exact run_enterLoop_outer ..
 ·simp only [resolve, hfv]
  simp [go_sem]
 ·simp only [invoke, callFunc, Sem.run_bind, run_program, Result.andThen_ok, hfn, hname, hnone, Bool.false_eq_true, if_false]
  rfl
 -- the end
 have hloc : ∀ id b A, getL σ.heap id = some b → b ≠ .gone → (ι id).a = some A → A.block < w.heap.size := fun id b A hb hg hA' => (hA.heap.rep id b hb).lt hg hA'
 have hlocB : ∀ id b A, getL (protect head.bs σ.heap) id = some b → b ≠ .gone → (ι id).a = some A → A.block < w.heap.size := fun id b A hb hg hA' => (hB.rep id b hb).lt hg hA'
 have hX : X.w0.heap.size ≤ w.heap.size + 1 := by have := hA.fram.size; omega
 have hend : ∀ (ex : Ex) (σ' : St G.E.T) (w' : World) (Fz' : Nat → Prop) (ι' : Nat → Loc) (st : LoopState), k ex σ' = some r → Goes G X N [] w Fz ι σ.heap a w' Fz' ι' σ' aQ → Un w' Fz' ι' σ'.heap (w.heap.size + 1) →
   w'.heap[w.heap.size + 1]? = some (.loop (rc st (jumpOf ex))) → st ≠ .busy → rangePost (fence none) 0 G.P (w.heap.size + 1) (Post G X N [] w Fz ι σ.heap a k r) aQ (.returned (.tuple #[])) w' := by
  intro ex σ' w' Fz' ι' st hk hgo hu hl hst
  refine ⟨jumpOf ex, w'.putObj (w.heap.size + 1) (.loop (rc .exhausted (jumpOf ex))), ?_, ?_⟩
  ·have := run_endLoop (P := G.P) hl (by rw [hrc]; exact hst)
   rw [hrc] at this ⊢
   exact this
  ·have hgo' : ∀ o : Obj, Goes G X N [] w Fz ι σ.heap a (w'.putObj (w.heap.size + 1) o) Fz' ι' σ' aQ := fun o =>
    ⟨hgo.step.turn hu (by omega) hX hA.heap.fz hloc, fun t => (hgo.env t).mono (Keep.turn hu), hgo.size, hgo.defers.turn hl, hgo.stay⟩
   cases ex with
   | normal => exact ⟨.normal, σ', Fz', ι', trivial, hk, hgo' _⟩
   | exit id => exact wpIn_exit ⟨.exit id, σ', Fz', ι', rfl, hk, hgo' _⟩
   | ret => exact wpIn_ret ⟨.ret, σ', Fz', ι', trivial, hk, hgo' _⟩
 have hresult : ∀ (tmps : Array Value) (w' : World), (results fn tmps).run G.P w' = .ok (.tuple #[]) w' := by
  intro tmps w'
  have : fn.results = #[] := by apply Array.ext'; simpa using hres
  simp [results, this]
 -- the iterator
 unfold vrange at h
 rw [e0] at h
 have hds0 : ∀ t, t ∈ dstsOps r0.toList → t ∈ I.ds := fun t ht => by unfold It.ds; rw [e0]; simp [ht]
 have hds1 : ∀ t, t ∈ dstsOps r1.toList → t ∈ I.ds := fun t ht => by unfold It.ds; rw [e1]; simp [ht]
 have hds2 : ∀ t, t ∈ dstsOps r2.toList → t ∈ I.ds := fun t ht => by unfold It.ds; rw [e2]; simp [ht]
 have hds3 : ∀ t, t ∈ dstsOps r3.toList → t ∈ I.ds := fun t ht => by unfold It.ds; rw [e3]; simp [ht]
 have hd3 : dstsOps r3.toList = I.y :: (dstsOps I.pre ++ I.dy :: dstsOps I.post) := by
  rw [hr3]
  simp only [dstsOps, hod, dstsOps_append, hzd]
 have hdy : I.y ∈ I.ds := hds3 _ (by rw [hd3]; simp)
 have hdd : I.dy ∈ I.ds := hds3 _ (by rw [hd3]; simp)
 have hdpre : ∀ t, t ∈ dstsOps I.pre → t ∈ I.ds := fun t ht => hds3 t (by rw [hd3]; simp [ht])
 have hdpost : ∀ t, t ∈ dstsOps I.post → t ∈ I.ds := fun t ht => hds3 t (by rw [hd3]; simp [ht])
 rw [← haQ]
 refine callsIn_of_wp (F := fence none) hfn hc trivial ?_
 have hact : ({ tmps := #[.func (.yield (w.heap.size + 1)) #[] #[]] ++ #[cv] ++ Array.replicate (fn.ntmps - (#[.func (.yield (w.heap.size + 1)) #[] #[]] ++ #[cv] : Array Value).size) undef, defers := [] } : Act) = a0 := by rw [ha0]; rfl
 rw [hact]
 change Code.wpIn (fence none) 0 G.P _ _ a0 w1
 refine wpIn_seq (wpIn_region_list (vops_sound (N := fn.ntmps) ok hrec r0.toList h hG0.at_ fun σ0 a1 w2 Fz2 ι2 hk0 hd1 hg0 => ?_))
 split at hk0
 ·cases hk0
 rename_i s0 hs0
 obtain ⟨p, hloop, hget⟩ := Option.bind_eq_some_iff.1 hk0
 obtain ⟨n0, hit0⟩ := iter_of_loop hloop
 have hcast : ∀ {a' : Act} {w' : World} {σ' : St G.E.T} {Fz' : Nat → Prop} {ι' : Nat → Loc} {s' : Pay G.E.T head.leaves}, castSt head (protect head.bs σ.heap) σ' = some s' →
   Goes G X fn.ntmps I.ds w Fz ι (protect head.bs σ.heap) a0 w' Fz' ι' σ' a' → RecAt w rc .ready none w' Fz' ι' σ'.heap →
   ∃ Fz' ι', Goes G X fn.ntmps I.ds w Fz ι (protect head.bs σ.heap) a0 w' Fz' ι' (rebSt head (baseSt head.bs I.ds ⟨[(1, cap)], σ.heap⟩) s') a' ∧ RecAt w rc .ready none w' Fz' ι' (rebSt head (baseSt head.bs I.ds ⟨[(1, cap)], σ.heap⟩) s').heap := by
  intro a' w' σ' Fz' ι' s' hc hg hr
  obtain ⟨Fz'', ι'', h1, h2⟩ := castSt_sound (σ0 := ⟨[(1, cap)], σ.heap⟩) hc hB hE0 .refl hg
  exact ⟨Fz'', ι'', h1, hr.un fun B hB => ⟨rfl, h2 B hB⟩⟩
 -- the statement is left
 have hleave : ∀ {w' : World} {H' : List (Blk G.E.T)} {Fz' : Nat → Prop} {ι' : Nat → Loc} {ex : Ex} {st : LoopState}, putAlt as (protect head.bs σ.heap) ex ⟨σ.env, H'⟩ = some p →
   Step G.E X w w' Fz Fz' ι ι' (protect head.bs σ.heap) H' → RecAt w rc st (jumpOf ex) w' Fz' ι' H' → st ≠ .busy → rangePost (fence none) 0 G.P (w.heap.size + 1) (Post G X N [] w Fz ι σ.heap a k r) aQ (.returned (.tuple #[])) w' := by
  intro w' H' Fz' ι' ex st hp hs hr hst
  obtain ⟨c', q, hc, hk⟩ := put_get_alt hp hget
  have hm : Marks X w' Fz' ι' H' aQ.defers := by
   obtain ⟨Ds, h1, h2, h3⟩ := (hA.defers.un fun B hB => ⟨rfl, hsim.un hB⟩ : Marks X w Fz ι (protect head.bs σ.heap) a.defers)
   refine ⟨w.heap.size :: Ds, by rw [haQ, h1]; rfl, List.nodup_cons.2 ⟨fun e => by have := (h3 _ e).2.1.1; omega, h2⟩, fun D hD => ?_⟩
   rcases List.mem_cons.1 hD with rfl | hD
   ·exact ⟨hA.fram.size, hr.d, hr.do_⟩
   ·obtain ⟨g1, g2, g3⟩ := h3 D hD
    obtain ⟨q1, q2⟩ := hs.un D g2
    exact ⟨g1, q2, q1.trans g3⟩
  have hgo : Goes G X N [] w Fz ι (protect head.bs σ.heap) a w' Fz' ι' ⟨σ.env, H'⟩ aQ := ⟨hs, by rw [haQ]; exact hEB.mono hs.keep, by rw [haQ]; exact hA.size, hm, fun _ _ => by rw [haQ]⟩
  obtain ⟨Fz'', ι'', h1, h2⟩ := castSt_sound (σ0 := σ) hc hA.heap hA.env hsim hgo
  exact hend ex _ w' Fz'' ι'' st hk h1 (h2 _ hr.l) hr.lo hst
 let Inv : Nat → Act → World → Prop := fun n a' w' => ∃ s, iter (vround G rec fn.ntmps I head as cap ps.toList N σ (fun σ _ k => vrun G rec ann N assign σ fun e σ => match e with
   | .normal => vrun G rec ann N body σ k
   | _ => none)) n s = some p ∧ ∃ Fz' ι', Goes G X fn.ntmps I.ds w Fz ι (protect head.bs σ.heap) a0 w' Fz' ι' (rebSt head (baseSt head.bs I.ds ⟨[(1, cap)], σ.heap⟩) s) a' ∧ RecAt w rc .ready none w' Fz' ι' (rebSt head (baseSt head.bs I.ds ⟨[(1, cap)], σ.heap⟩) s).heap ∧ a'.defers = []
 have hinv : Inv n0 a1 w2 := by
  obtain ⟨Fz', ι', q1, q2⟩ := hcast hs0 ((hG0.trans hg0).more fun t ht => (List.mem_append.1 ht).elim id (hds0 t)) (hrec1.un hg0.step.un)
  exact ⟨s0, hit0, Fz', ι', q1, q2, by rw [hd1, ha0]⟩
 refine wpIn_block (wpIn_loop_n Inv hinv fun n a' w' ⟨s, hit, Fz1, ι1, hg1, hr1, hdf1⟩ => ?_)
 cases n with
 | zero => simp [iter] at hit
 | succ n =>
  obtain ⟨y, hf, hyl, hyr⟩ : ∃ y, vround G rec fn.ntmps I head as cap ps.toList N σ (fun σ _ k => vrun G rec ann N assign σ fun e σ => match e with
    | .normal => vrun G rec ann N body σ k
    | _ => none) s = some y ∧ (∀ s', y = .inl s' → iter (vround G rec fn.ntmps I head as cap ps.toList N σ (fun σ _ k => vrun G rec ann N assign σ fun e σ => match e with
    | .normal => vrun G rec ann N body σ k
    | _ => none)) n s' = some p) ∧ (∀ p', y = .inr p' → p' = p) := by
   simp only [iter] at hit
   split at hit
   ·rename_i s' hf; exact ⟨_, hf, (fun _ e => by cases e; exact hit), fun _ e => by cases e⟩
   ·rename_i p' hf; cases hit; exact ⟨_, hf, (fun _ e => by cases e), fun _ e => by cases e; rfl⟩
   ·cases hit
  unfold vround at hf
  rw [e1, e2, e3] at hf
  refine wpIn_seq (wpIn_seq (wpIn_region_list (vops_sound (N := fn.ntmps) ok hrec r1.toList hf hg1.at_ fun σ1 a2 w3 Fz3 ι3 hk1 hdf2 hg2 => ?_)))
  have hr2 := hr1.un hg2.step.un
  split at hk1
  ·rename_i cb hcb
   have hev : a2.eval (.tmp I.tb) = .bool cb := by
    have hbr := hg2.env I.tb
    rw [hcb] at hbr
    simp only [PRep] at hbr
    generalize hv : a2.tmps.getD I.tb undef = v at hbr
    cases hbr
    exact hv
   refine wpIn_cond hev ?_
   cases cb with
   | false =>
    simp only [Bool.false_eq_true, if_false] at hk1 ⊢
    split at hk1
    ·rename_i p' hp
     cases hk1
     have := hyr _ rfl
     subst this
     refine wpIn_exit ?_
     simp only [Exit.then, Exit.inBlock, if_true]
     exact ⟨by rw [hdf2, hdf1], _, hresult _ _, hleave hp (hg1.step.trans hg2.step) hr2 (by simp)⟩
    ·cases hk1
   | true =>
    simp only [if_true] at hk1 ⊢
    refine wpIn_skip ?_
    split at hk1
    ·cases hk1
    rename_i env1 hput1
    refine wpIn_seq (wpIn_block (wpIn_seq (wpIn_region_list (wpListIn_named fun Qr hQr => ?_))))
    rw [hr3]
    obtain ⟨odst, oop, otype, opos, oafter, oguard⟩ := o
    simp only at ho hod hog
    subst ho hod hog
    unfold wpListIn
    simp only [Region.wanted, if_true]
    refine ⟨fun _ _ => trivial, ?_⟩
    have hrun : ((⟨some I.y, .move (.tmp 0), otype, opos, oafter, none⟩ : Oper).semAt (fence none).round a2.eval).run G.P w3 = .ok (.value (a2.eval (.tmp 0))) w3 := rfl
    rw [hrun, Oper.uponIn_value]
    -- behind the first operation
    obtain ⟨a3, ha3⟩ : ∃ a3, a3 = a2.put (some I.y) (a2.eval (.tmp 0)) := ⟨_, rfl⟩
    rw [← ha3]
    obtain ⟨q1, q2⟩ := EnvRep.put (N := fn.ntmps) hg2.env (v := a2.eval (.tmp 0)) (by simp only [PRep]) hput1 hg2.size
    rw [← ha3] at q1 q2
    have hs3 : Step G.E X w w3 Fz Fz3 ι ι3 (protect head.bs σ.heap) σ1.heap := hg1.step.trans hg2.step
    have hdf3 : a3.defers = [] := by rw [ha3, put_defers, hdf2, hdf1]
    have hA3 : At G X fn.ntmps w3 Fz3 ι3 ⟨env1, σ1.heap⟩ a3 := ⟨hs3.heap, hs3.fram, q1, by rw [ha3, put_size]; exact hg2.size, by rw [hdf3]; exact .nil⟩
    have hstay3 : ∀ t, t ∉ I.ds → a3.tmps.getD t undef = a0.tmps.getD t undef := fun t ht => by
     rw [q2 t (by simp only [dsOf, List.mem_singleton]; rintro rfl; exact ht hdy), hg2.stay t fun e => ht (hds1 t e), hg1.stay t ht]
    have hy3 : a3.tmps.getD I.y undef = .func (.yield (w.heap.size + 1)) #[] #[] := by
     have hlt : I.y < a2.tmps.size := by
      simp only [V.put] at hput1
      split at hput1
      ·rename_i hlt; exact Nat.lt_of_lt_of_le (blt_iff.1 hlt) hg2.size
      ·cases hput1
     rw [ha3, put_tmps hlt, if_pos rfl]
     show a2.tmps.getD 0 undef = _
     rw [hg2.stay 0 fun e => h0 (hds1 0 e), hg1.stay 0 h0, hy0]
    refine wpListIn_append I.pre (vops_sound (N := fn.ntmps) (ops := r3) ok hrec I.pre hk1 hA3 fun σ2 a4 w4 Fz4 ι4 hk2 hdf4 hg4 => ?_)
    have hr4 := hr2.un hg4.step.un
    have hs4 := hs3.trans hg4.step
    have hdf4 : a4.defers = [] := by rw [hdf4, hdf3]
    have hy4 : a4.eval (.tmp I.y) = .func (.yield (w.heap.size + 1)) #[] #[] := by
     show a4.tmps.getD I.y undef = _
     rw [hg4.stay I.y hy, hy3]
    split at hk2
    ·rename_i pp qq uu vv hps hevs
     split at hk2
     ·cases hk2
     rename_i envp hputp
     split at hk2
     ·cases hk2
     rename_i envq hputq
     -- the call of yield
     obtain ⟨x1, x2, hys⟩ : ∃ x1 x2, ys.toList = [x1, x2] := by
      rw [hargs] at hevs
      rcases hl : ys.toList with _ | ⟨x1, _ | ⟨x2, _ | ⟨x3, l⟩⟩⟩ <;> rw [hl] at hevs <;> simp [evals] at hevs
      exact ⟨x1, x2, rfl⟩
     have hre := evals_rep hg4.env I.args
     rw [hevs, hargs, hys] at hre
     simp only [List.map_cons, List.map_nil, PReps, and_true] at hre
     obtain rfl : ps = #[pp, qq] := by apply Array.ext'; simpa using hps
     obtain rfl : ys = #[x1, x2] := by apply Array.ext'; simpa using hys
     obtain ⟨zdst, zop, ztype, zpos, zafter, zguard⟩ := z
     simp only at hzg hzd hzo
     subst hzg hzd hzo
     unfold behind
     simp only
     unfold wpListIn
     simp only [Region.wanted, if_true]
     refine ⟨fun _ _ => trivial, ?_⟩
     have hyield := run_yield (P := G.P) (args := #[a4.eval x1, a4.eval x2]) hr4.lo (by rw [hrc]; rfl)
     have hrun : ((⟨some I.dy, .call ⟨.value (.tmp I.y), #[x1, x2], ts⟩, ztype, zpos, zafter, none⟩ : Oper).semAt (fence none).round a4.eval).run G.P w4 =
       (Instr.yield (w.heap.size + 1) #[a4.eval x1, a4.eval x2]).run G.P w4 := by
      rw [show (fence none).round = none from rfl, Oper.semAt_none]
      simp only [execOp, resolve, Deferred.ofValue, hy4, Sem.run_bind, Sem.run_pure, Result.andThen_ok, invoke]
      simp
     rw [hrun, hyield, Oper.uponIn_round]
     obtain ⟨u1, _⟩ := EnvRep.put (N := N) (a := { tmps := a.tmps, defers := [] }) (env := σ.env) (fun t => (hEB t).mono hs4.keep) hre.1 hputp hA.size
     obtain ⟨u2, _⟩ := EnvRep.put (N := N) u1 hre.2 hputq (by rw [put_size]; exact hA.size)
     have hAR : At G X N w4 Fz4 ι4 ⟨envq, σ2.heap⟩ ((({ tmps := a.tmps, defers := [] } : Act).put (some pp) (a4.eval x1)).put (some qq) (a4.eval x2)) :=
      ⟨hs4.heap, hs4.fram, u2, by rw [put_size, put_size]; exact hA.size, .nil⟩
     refine ⟨fun e => (by cases e), roundIn_of_wpIn trivial ?_⟩
     have hact2 : ({ tmps := ((rc .ready none).params.zip #[a4.eval x1, a4.eval x2]).foldl (fun tmps (t, a) => tmps.setIfInBounds t a) (rc .ready none).tmps, defers := [] } : Act) =
       (({ tmps := a.tmps, defers := [] } : Act).put (some pp) (a4.eval x1)).put (some qq) (a4.eval x2) := by rw [hrc]; simp [Act.put]
     rw [hact2, show (rc .ready none).assign = assign by rw [hrc], show (rc .ready none).body = body by rw [hrc]]
     refine wpIn_mono (hA' (w.heap.size + 1) ⟨envq, σ2.heap⟩ _ y hk2 hAR) ?_
     rintro e a5 w5 ⟨ex, σ5, Fz5, ι5, he, hk5, hg5⟩
     cases ex with
     | exit id => cases hk5
     | ret => cases hk5
     | normal =>
      cases e <;> simp only [exitIs] at he
      have hr5 := hr4.un hg5.step.un
      have hs5 := hs4.trans hg5.step
      have hs6 : Step G.E X w (w5.putObj (w.heap.size + 1) (.loop (rc .busy none))) Fz Fz5 ι ι5 (protect head.bs σ.heap) σ5.heap := hs5.turn hr5.l (by omega) hX hB.fz hlocB
      refine ⟨w5.putObj (w.heap.size + 1) (.loop (rc .busy none)), ?_, ?_⟩
      ·have := run_beginRound (P := G.P) hr5.lo (by rw [hrc])
       rw [hrc] at this ⊢
       exact this
      ·have hA6 : At G X N (w5.putObj (w.heap.size + 1) (.loop (rc .busy none))) Fz5 ι5 σ5 a5 :=
        ⟨hs6.heap, hs6.fram, fun t => (hg5.env t).mono (Keep.turn hr5.l), hg5.size, hg5.defers.turn hr5.lo⟩
       have hr6 : RecAt w rc .busy none _ _ _ _ := hr5.turn
       refine wpIn_mono (hB' (w.heap.size + 1) σ5 _ y hk5 hA6) ?_
       rintro e a7 w7 ⟨ex, σ7, Fz7, ι7, he7, hk7, hg7⟩
       have hr7 := hr6.un hg7.step.un
       have hs7 := hs6.trans hg7.step
       have hround : ∃ v w', (Instr.endRound (w.heap.size + 1) (jumpOf ex)).run G.P w7 = .ok v w' ∧ wpListIn (fence none) 0 G.P r3 Qr I.post (a4.put (some I.dy) v) w' := by
        refine ⟨.bool (jumpOf ex).isNone, w7.putObj (w.heap.size + 1) (.loop (rc (if (jumpOf ex).isNone then .ready else .done) (jumpOf ex))), ?_, ?_⟩
        ·have := run_endRound (P := G.P) (jumpOf ex) hr7.lo
         rw [hrc] at this ⊢
         exact this
        ·have hon : ex.on = (jumpOf ex).isNone := by cases ex <;> rfl
         simp only at hk7
         split at hk7
         ·cases hk7
         rename_i env8 hput8
         have hr8 : RecAt w rc (if (jumpOf ex).isNone then .ready else .done) (jumpOf ex) _ _ _ _ := hr7.turn
         have hs8 : Step G.E X w (w7.putObj (w.heap.size + 1) (.loop (rc (if (jumpOf ex).isNone then .ready else .done) (jumpOf ex)))) Fz Fz7 ι ι7 (protect head.bs σ.heap) σ7.heap := hs7.turn hr7.l (by omega) hX hB.fz hlocB
         have K48 : Keep G.E w4 (w7.putObj (w.heap.size + 1) (.loop (rc (if (jumpOf ex).isNone then .ready else .done) (jumpOf ex)))) Fz4 Fz7 ι4 ι7 σ2.heap σ7.heap :=
          ((hg5.step.keep.trans (Keep.turn hr5.l)).trans hg7.step.keep).trans (Keep.turn hr7.l)
         obtain ⟨v1, v2⟩ := EnvRep.put (N := fn.ntmps) (hg4.env.mono K48) (p := .bool ex.on) (v := .bool (jumpOf ex).isNone) (by rw [hon]; simp only [PRep]; exact .bool) hput8 hg4.size
         have hA8 : At G X fn.ntmps _ Fz7 ι7 ⟨env8, σ7.heap⟩ (a4.put (some I.dy) (.bool (jumpOf ex).isNone)) := ⟨hs8.heap, hs8.fram, v1, by rw [put_size]; exact hg4.size, by rw [put_defers, hdf4]; exact .nil⟩
         refine vops_sound (N := fn.ntmps) (ops := r3) ok hrec I.post hk7 hA8 fun σ9 a9 w9 Fz9 ι9 hk9 hdf9 hg9 => ?_
         rw [hQr]
         have hr9 := hr8.un hg9.step.un
         have hs9 := hs8.trans hg9.step
         have hdf9' : a9.defers = [] := by rw [hdf9, put_defers, hdf4]
         change Code.wpIn (fence none) 0 G.P (.cond (.tmp I.td) .ret .skip) _ a9 w9
         split at hk9
         ·rename_i db hdb
          have hev9 : a9.eval (.tmp I.td) = .bool db := by
           have hbr := hg9.env I.td
           rw [hdb] at hbr
           simp only [PRep] at hbr
           generalize hv : a9.tmps.getD I.td undef = v at hbr
           cases hbr
           exact hv
          refine wpIn_cond hev9 ?_
          have hout : ∀ {e : Ex}, e = ex → e ≠ .normal → (if db = true then (match putAlt as (protect head.bs σ.heap) e ⟨σ.env, σ9.heap⟩ with
            | some p => some (.inr p)
            | none => none) else none) = some y → db = true ∧ rangePost (fence none) 0 G.P (w.heap.size + 1) (Post G X N [] w Fz ι σ.heap a k r) aQ (.returned (.tuple #[])) w9 := by
           intro e hee hne hk
           subst hee
           split at hk
           ·rename_i hd
            split at hk
            ·rename_i p' hp
             cases hk
             have := hyr _ rfl
             subst this
             exact ⟨hd, hleave hp hs9 hr9 (by cases e <;> simp [jumpOf])⟩
            ·cases hk
           ·cases hk
          cases ex with
          | normal =>
           simp only at hk9
           cases db with
           | true => simp at hk9
           | false =>
            simp only [Bool.false_eq_true, if_false] at hk9 ⊢
            refine wpIn_skip ?_
            change Code.wpIn (fence none) 0 G.P (.region i2 r2 false) _ a9 w9
            refine wpIn_region_list (vops_sound (N := fn.ntmps) ok hrec r2.toList hk9 hg9.at_ fun σ10 a10 w10 Fz10 ι10 hk10 hdf10 hg10 => ?_)
            split at hk10
            ·rename_i s2 hs2
             cases hk10
             obtain ⟨Fz', ι', t1, t2⟩ := hcast hs2 ⟨hs9.trans hg10.step, hg10.env, hg10.size, by rw [hdf10, hdf9']; exact .nil, fun t ht => by
              rw [hg10.stay t fun e => ht (hds2 t e), hg9.stay t fun e => ht (hdpost t e), v2 t (by simp only [dsOf, List.mem_singleton]; rintro rfl; exact ht hdd), hg4.stay t fun e => ht (hdpre t e), hstay3 t ht]⟩ (hr9.un hg10.step.un)
             exact ⟨n, Nat.lt_succ_self _, s2, hyl s2 rfl, Fz', ι', t1, t2, by rw [hdf10, hdf9']⟩
            ·cases hk10
          | exit id =>
           obtain ⟨hd, hl⟩ := hout rfl (by simp) hk9
           subst hd
           exact wpIn_ret ⟨hdf9', _, hresult _ _, hl⟩
          | ret =>
           obtain ⟨hd, hl⟩ := hout rfl (by simp) hk9
           subst hd
           exact wpIn_ret ⟨hdf9', _, hresult _ _, hl⟩
         ·cases hk9
       cases ex <;> cases e <;> simp only [exitIs] at he7
       ·exact hround
       ·subst he7; exact hround
       ·exact hround
    ·cases hk2
  ·cases hk1
theorem andl {x y : Code} (h : noRange (.seq x y) = true) : noRange x = true := by simp only [noRange, Bool.and_eq_true] at h; exact h.1
theorem andr {x y : Code} (h : noRange (.seq x y) = true) : noRange y = true := by simp only [noRange, Bool.and_eq_true] at h; exact h.2
theorem vrun_sound (ok : PrgOk G) {rec : Rec G} (hrec : Spec G rec) {ann : Ann} : ∀ (c : Code) {R : Type} {ro : Option Nat} (hro : ro = none ∨ noRange c = true) (σ : St G.E.T) (k : Ex → St G.E.T → Option R) (r : R), vrun G rec ann N c σ k = some r →
  ∀ {a : Act} {w : World} {Fz : Nat → Prop} {ι : Nat → Loc}, At G X N w Fz ι σ a → c.wpIn (fence ro) 0 G.P (Post G X N (dsts c) w Fz ι σ.heap a k r) a w
 | .skip, R, ro, hro, σ, k, r, h, a, w, Fz, ι, hA => by
  simp only [vrun] at h
  exact wpIn_skip ⟨.normal, σ, Fz, ι, trivial, h, hA.refl⟩
 | .region id ops draw, R, ro, hro, σ, k, r, h, a, w, Fz, ι, hA => by
  simp only [vrun] at h
  cases draw with
  | true =>
   refine joined_sound h hA fun σ1 A k1 r1 _ h1 hA1 => ?_
   exact vregion_sound ok hrec h1 hA1 fun σ' a' w' Fz' ι' hk hg => ⟨.normal, σ', Fz', ι', trivial, hk, hg⟩
  | false =>
   refine joined_sound h hA fun σ1 A k1 r1 _ h1 hA1 => wpIn_region_list ?_
   exact vops_sound ok hrec ops.toList h1 hA1 fun σ' a' w' Fz' ι' hk _ hg => ⟨.normal, σ', Fz', ι', trivial, hk, hg⟩
 | .seq x y, R, ro, hro, σ, k, r, h, a, w, Fz, ι, hA => by
  simp only [vrun] at h
  refine wpIn_seq (wpIn_mono (vrun_sound ok hrec x (hro.imp_right andl) σ _ r h hA) ?_)
  rintro e a' w' ⟨ex, σ', Fz', ι', he, hk, hg⟩
  cases ex <;> cases e <;> simp only [exitIs] at he
  ·refine wpIn_mono (vrun_sound ok hrec y (hro.imp_right andr) σ' k r hk hg.at_) ?_
   rintro e a'' w'' ⟨ex, σ'', Fz'', ι'', he, hk, hg'⟩
   exact ⟨ex, σ'', Fz'', ι'', he, hk, (hg.trans hg').more fun t ht => by simpa [dsts] using ht⟩
  ·subst he
   exact ⟨.exit _, σ', Fz', ι', rfl, hk, hg.more fun t ht => by simp [dsts, ht]⟩
  ·exact ⟨.ret, σ', Fz', ι', trivial, hk, hg.more fun t ht => by simp [dsts, ht]⟩
 | .cond c x y, R, ro, hro, σ, k, r, h, a, w, Fz, ι, hA => by
  simp only [vrun] at h
  split at h
  ·rename_i t
   split at h
   ·rename_i b hb
    have hbr := hA.env t
    rw [hb] at hbr
    simp only [PRep] at hbr
    have hev : a.eval (.tmp t) = .bool b := by
     generalize hv : a.tmps.getD t undef = v at hbr
     cases hbr
     exact hv
    refine joined_sound h hA fun σ1 A k1 r1 _ h1 hA1 => wpIn_cond hev ?_
    cases b with
    | true =>
     simp only [if_true] at h1 ⊢
     refine wpIn_mono (vrun_sound ok hrec x (hro.imp_right andl) σ1 k1 r1 h1 hA1) ?_
     rintro e a' w' ⟨ex, σ', Fz', ι', he, hk, hg⟩
     exact ⟨ex, σ', Fz', ι', he, hk, hg.more fun t ht => by simp [ht]⟩
    | false =>
     simp only [Bool.false_eq_true, if_false] at h1 ⊢
     refine wpIn_mono (vrun_sound ok hrec y (hro.imp_right andr) σ1 k1 r1 h1 hA1) ?_
     rintro e a' w' ⟨ex, σ', Fz', ι', he, hk, hg⟩
     exact ⟨ex, σ', Fz', ι', he, hk, hg.more fun t ht => by simp [ht]⟩
   ·rename_i hb
    have hbr := hA.env t
    rw [hb] at hbr
    simp only [PRep] at hbr
    obtain ⟨b, hbr⟩ := hbr
    have hev : a.eval (.tmp t) = .bool b := hbr
    refine joined_sound h hA fun σ1 A k1 r1 _ h1 hA1 => wpIn_cond hev ?_
    obtain ⟨h2, h3⟩ := demon_some h1
    cases b with
    | true =>
     simp only [if_true]
     refine wpIn_mono (vrun_sound ok hrec x (hro.imp_right andl) σ1 k1 r1 h2 hA1) ?_
     rintro e a' w' ⟨ex, σ', Fz', ι', he, hk, hg⟩
     exact ⟨ex, σ', Fz', ι', he, hk, hg.more fun t ht => by simp [ht]⟩
    | false =>
     simp only [Bool.false_eq_true, if_false]
     refine wpIn_mono (vrun_sound ok hrec y (hro.imp_right andr) σ1 k1 r1 h3 hA1) ?_
     rintro e a' w' ⟨ex, σ', Fz', ι', he, hk, hg⟩
     exact ⟨ex, σ', Fz', ι', he, hk, hg.more fun t ht => by simp [ht]⟩
   ·cases h
  ·rename_i b
   refine wpIn_cond (t := b) rfl ?_
   cases b with
   | true =>
    simp only [if_true] at h ⊢
    refine wpIn_mono (vrun_sound ok hrec x (hro.imp_right andl) σ k r h hA) ?_
    rintro e a' w' ⟨ex, σ', Fz', ι', he, hk, hg⟩
    exact ⟨ex, σ', Fz', ι', he, hk, hg.more fun t ht => by simp only [dsts, List.mem_append]; exact .inl ht⟩
   | false =>
    simp only [Bool.false_eq_true, if_false] at h ⊢
    refine wpIn_mono (vrun_sound ok hrec y (hro.imp_right andr) σ k r h hA) ?_
    rintro e a' w' ⟨ex, σ', Fz', ι', he, hk, hg⟩
    exact ⟨ex, σ', Fz', ι', he, hk, hg.more fun t ht => by simp only [dsts, List.mem_append]; exact .inr ht⟩
  ·cases h
 | .block id c, R, ro, hro, σ, k, r, h, a, w, Fz, ι, hA => by
  simp only [vrun] at h
  refine wpIn_block (wpIn_mono (vrun_sound ok hrec c hro σ _ r h hA) ?_)
  rintro e a' w' ⟨ex, σ', Fz', ι', he, hk, hg⟩
  cases ex <;> cases e <;> simp only [exitIs] at he
  ·exact ⟨.normal, σ', Fz', ι', trivial, hk, hg⟩
  ·subst he
   simp only [Exit.inBlock]
   simp only at hk
   split at hk
   ·rename_i e
    have := nat_beq e
    subst this
    rw [if_pos rfl]
    exact ⟨.normal, σ', Fz', ι', trivial, hk, hg⟩
   ·rename_i e
    rw [if_neg (fun e' => by subst e'; simp at e)]
    exact ⟨.exit _, σ', Fz', ι', rfl, hk, hg⟩
  ·exact ⟨.ret, σ', Fz', ι', trivial, hk, hg⟩
 | .loop c, R, ro, hro, σ, k, r, h, a, w, Fz, ι, hA => by
  simp only [vrun] at h
  split at h
  ·split at h
   ·cases h
   ·rename_i n0 _
    let Inv : Nat → Act → World → Prop := fun n a' w' => ∃ σ' Fz' ι', unrolled G (fun σ _ k => vrun G rec ann N c σ k) n σ' k = some r ∧ Goes G X N (dsts c) w Fz ι σ.heap a w' Fz' ι' σ' a'
    have h0 : Inv n0 a w := ⟨σ, Fz, ι, h, ⟨.refl hA.heap hA.fram, hA.env, hA.size, hA.defers, fun _ _ => rfl⟩⟩
    refine wpIn_loop_n Inv h0 fun n a' w' ⟨σ1, Fz1, ι1, hit, hg1⟩ => ?_
    cases n with
    | zero => simp [unrolled] at hit
    | succ n =>
     simp only [unrolled] at hit
     refine wpIn_mono (vrun_sound ok hrec c hro _ _ _ hit hg1.at_) ?_
     rintro e a'' w'' ⟨ex, σ', Fz2, ι2, he, hk, hg2⟩
     have hg := (hg1.trans hg2).more (ds' := dsts c) fun t ht => by simpa using ht
     cases ex <;> cases e <;> simp only [exitIs] at he
     ·exact ⟨n, Nat.lt_succ_self _, σ', Fz2, ι2, hk, hg⟩
     ·subst he
      exact ⟨.exit _, σ', Fz2, ι2, rfl, hk, hg.more fun t ht => by simpa [dsts] using ht⟩
     ·exact ⟨.ret, σ', Fz2, ι2, trivial, hk, hg.more fun t ht => by simpa [dsts] using ht⟩
  ·rename_i head as hann
   split at h
   ·cases h
   ·rename_i s hs
    obtain ⟨p, h1, h2⟩ := Option.bind_eq_some_iff.1 h
    obtain ⟨n, hn⟩ := iter_of_loop h1
    have hsim := sim_protect (G := G) head.bs σ.heap
    have hB : HRep G.E w Fz ι (protect head.bs σ.heap) := hA.heap.sim hsim
    have hFB : Fram G.E X w Fz ι (protect head.bs σ.heap) := hA.fram.sim hsim
    have hEB : EnvRep G.E w Fz ι (protect head.bs σ.heap) σ.env a := hA.env.mono hsim.keep
    -- the state at the head
    let Inv : Nat → Act → World → Prop := fun n a' w' => ∃ s, iter (fun s => vrun G rec ann N c (rebSt head (baseSt head.bs (dsts c) σ) s) fun e σ' => match e with
     | .normal => match castSt head (protect head.bs σ.heap) σ' with
      | some s => some (.inl s)
      | none => none
     | .exit id => match putAlt as (protect head.bs σ.heap) (.exit id) σ' with
      | some p => some (.inr p)
      | none => none
     | .ret => match putAlt as (protect head.bs σ.heap) .ret σ' with
      | some p => some (.inr p)
      | none => none) n s = some p ∧ ∃ Fz' ι', Goes G X N (dsts c) w Fz ι (protect head.bs σ.heap) a w' Fz' ι' (rebSt head (baseSt head.bs (dsts c) σ) s) a'
    have hback : ∀ {a' : Act} {w' : World} {σ' : St G.E.T} {Fz' : Nat → Prop} {ι' : Nat → Loc} {s' : Pay G.E.T head.leaves}, castSt head (protect head.bs σ.heap) σ' = some s' →
      Goes G X N (dsts c) w Fz ι (protect head.bs σ.heap) a w' Fz' ι' σ' a' → ∃ Fz' ι', Goes G X N (dsts c) w Fz ι (protect head.bs σ.heap) a w' Fz' ι' (rebSt head (baseSt head.bs (dsts c) σ) s') a' :=
     fun hc hg => by obtain ⟨Fz'', ι'', hgo, _⟩ := castSt_sound (σ0 := σ) hc hB hEB .refl hg; exact ⟨Fz'', ι'', hgo⟩
    have hleave : ∀ {a' : Act} {w' : World} {σ' : St G.E.T} {Fz' : Nat → Prop} {ι' : Nat → Loc} {ex : Ex}, putAlt as (protect head.bs σ.heap) ex σ' = some p →
      Goes G X N (dsts c) w Fz ι (protect head.bs σ.heap) a w' Fz' ι' σ' a' → ∃ σ'' Fz' ι', k ex σ'' = some r ∧ Goes G X N (dsts c) w Fz ι σ.heap a w' Fz' ι' σ'' a' := fun hp hg => by
     obtain ⟨c', q, hc, hk⟩ := put_get_alt hp h2
     obtain ⟨Fz'', ι'', hgo, _⟩ := castSt_sound (σ0 := σ) hc hA.heap hA.env hsim hg
     exact ⟨_, Fz'', ι'', hk, hgo⟩
    have h0 : Inv n a w := ⟨s, hn, hback hs ⟨.refl hB hFB, hEB, hA.size, hA.defers.un (fun B hB => ⟨rfl, hsim.un hB⟩), fun _ _ => rfl⟩⟩
    refine wpIn_loop_n Inv h0 fun n a' w' ⟨s, hit, Fz1, ι1, hg1⟩ => ?_
    cases n with
    | zero => simp [iter] at hit
    | succ n =>
     simp only [iter] at hit
     split at hit
     ·rename_i s' hf
      refine wpIn_mono (vrun_sound ok hrec c hro _ _ _ hf hg1.at_) ?_
      rintro e a'' w'' ⟨ex, σ', Fz2, ι2, he, hk, hg2⟩
      have hg := (hg1.trans hg2).more (ds' := dsts c) fun t ht => by simpa using ht
      cases ex <;> cases e <;> simp only [exitIs] at he
      ·simp only at hk
       split at hk
       ·rename_i s2 hc
        cases hk
        exact ⟨n, Nat.lt_succ_self _, s', hit, hback hc hg⟩
       ·cases hk
      ·simp only at hk
       split at hk <;> cases hk
      ·simp only at hk
       split at hk <;> cases hk
     ·rename_i p' hf
      cases hit
      refine wpIn_mono (vrun_sound ok hrec c hro _ _ _ hf hg1.at_) ?_
      rintro e a'' w'' ⟨ex, σ', Fz2, ι2, he, hk, hg2⟩
      have hg := (hg1.trans hg2).more (ds' := dsts c) fun t ht => by simpa using ht
      cases ex <;> cases e <;> simp only [exitIs] at he
      ·simp only at hk
       split at hk <;> cases hk
      ·subst he
       simp only at hk
       split at hk
       ·rename_i p2 hc
        cases hk
        obtain ⟨σ'', Fz3, ι3, q1, q2⟩ := hleave hc hg
        exact ⟨.exit _, σ'', Fz3, ι3, rfl, q1, q2⟩
       ·cases hk
      ·simp only at hk
       split at hk
       ·rename_i p2 hc
        cases hk
        obtain ⟨σ'', Fz3, ι3, q1, q2⟩ := hleave hc hg
        exact ⟨.ret, σ'', Fz3, ι3, trivial, q1, q2⟩
       ·cases hk
     ·cases hit
 | .exit id, R, ro, hro, σ, k, r, h, a, w, Fz, ι, hA => by
  simp only [vrun] at h
  exact wpIn_exit ⟨.exit id, σ, Fz, ι, rfl, h, hA.refl⟩
 | .ret, R, ro, hro, σ, k, r, h, a, w, Fz, ι, hA => by
  simp only [vrun] at h
  exact wpIn_ret ⟨.ret, σ, Fz, ι, trivial, h, hA.refl⟩
 | .rangeFunc g ps assign body, R, ro, hro, σ, k, r, h, a, w, Fz, ι, hA => by
  have hn : ro = none := hro.resolve_right (by simp [noRange])
  subst hn
  simp only [vrun] at h
  cases hl : lookN (firstRegion body) ann.loops with
  | none => rw [hl] at h; cases h
  | some ha =>
   obtain ⟨head, as⟩ := ha
   rw [hl] at h
   cases hg : eval σ.env g <;> rw [hg] at h <;> try (cases h; done)
   rename_i f caps
   rcases caps with _ | ⟨cap, _ | ⟨_, _⟩⟩ <;> try (cases h; done)
   simp only at h
   split at h
   ·cases h
   ·rename_i fn hfn
    split at h
    ·cases h
    ·rename_i c hc
     split at h
     ·rename_i I hI hres ha hb
      exact vrange_sound ok hrec hfn hc hI hres (fun l A σ k r h => vrun_sound ok hrec assign (.inr ha) σ k r h) (fun l A σ k r h => vrun_sound ok hrec body (.inr hb) σ k r h) h hg hA
     ·cases h
 | .scope .., R, ro, hro, σ, k, r, h, _, _, _, _, _ => by simp only [vrun] at h; cases h
 | .label .., R, ro, hro, σ, k, r, h, _, _, _, _, _ => by simp only [vrun] at h; cases h
 | .goto .., R, ro, hro, σ, k, r, h, _, _, _, _, _ => by simp only [vrun] at h; cases h
 | .refuse .., R, ro, hro, σ, k, r, h, _, _, _, _, _ => by simp only [vrun] at h; cases h
end
end Go.Proofs.YtgffdmgidnnedaaGreat.V
