/- The code that the reading runs does what the reading says: all of it. -/
import Derived.Test.YtkccnhkhjncpkaaGreatDraw5
namespace Go.Proofs.YtkccnhkhjncpkaaGreat.V
open Go
set_option linter.unusedVariables false
set_option linter.unusedSimpArgs false
section
variable {G : Prg} {w w' : World} {Fz Fz' : Nat → Prop} {ι ι' : Nat → Loc} {R : Type} {r : R} {X : Ctx} {N : Nat}
/-! ### Protection -/
theorem protect_length {T : Nat → Type} : ∀ (bs : List BSh) (H : List (Blk T)), (protect bs H).length = H.length
 | [], [] => rfl
 | [], b :: h => by simp [protect, protect_length [] h]
 | s :: bs, [] => by cases s <;> rfl
 | s :: bs, b :: h => by cases s <;> simp [protect, protect_length bs h]
theorem protect_at : ∀ (bs : List BSh) (H : List (Blk G.E.T)) (j : Nat) (b : Blk G.E.T), getL H j = some b → getL (protect bs H) j = some b ∨ getL (protect bs H) j = some (protB b)
 | [], [], j, b, h => by simp [getL] at h
 | s :: bs, [], j, b, h => by simp [getL] at h
 | [], c :: H, 0, b, h => by simp only [getL, Option.some.injEq] at h; subst h; exact .inr rfl
 | [], c :: H, j + 1, b, h => by simp only [getL] at h; exact protect_at [] H j b h
 | s :: bs, c :: H, 0, b, h => by
  simp only [getL, Option.some.injEq] at h; subst h
  cases s <;> first | exact .inr rfl | exact .inl rfl
 | s :: bs, c :: H, j + 1, b, h => by
  simp only [getL] at h
  have := protect_at bs H j b h
  cases s <;> simpa only [protect, getL] using this
theorem sim_protect (bs : List BSh) (H : List (Blk G.E.T)) : Sim (G := G) H (protect bs H) := ⟨(protect_length bs H).symm, fun j b h => protect_at bs H j b h⟩
theorem Sim.back {P base : List (Blk G.E.T)} (h : Sim (G := G) P base) {j : Nat} {b : Blk G.E.T} (hb : getL base j = some b) :
  ∃ p, getL P j = some p ∧ b.owned = p.owned ∧ b.frozen = p.frozen ∧ b.info G.E = p.info G.E ∧ (b = p ∨ b = protB p) := by
 obtain ⟨p, h1, h2⟩ := h.get hb
 refine ⟨p, h1, ?_, ?_, ?_, h2⟩ <;> rcases h2 with rfl | rfl <;> first | rfl | exact protB_owned _ | exact protB_frozen _ | exact protB_info _
theorem BRep.protB {E : Env} {id : Nat} {H : List (Blk E.T)} {b : Blk E.T} (h : BRep E w Fz ι H id b) : BRep E w Fz ι H id (V.protB b) := by
 cases b with
 | gone => exact h
 | box m c => cases m <;> exact h
 | ints m k ep xs => cases m <;> exact h
 | rows m k ep xs => cases m <;> exact h
theorem Sim.keep {P base : List (Blk G.E.T)} (h : Sim (G := G) P base) : Keep G.E w w Fz Fz ι ι P base :=
 ⟨fun _ h => h, fun _ _ => rfl, fun j b hb => by
  rcases h.at_ j b hb with e | e
  ·exact ⟨b, e, .refl b⟩
  ·refine ⟨_, e, fun hi => ⟨by rw [protB_info]; exact hi, rfl⟩, fun ep len sz hi => .inr ⟨ep, len, sz, by rw [protB_info]; exact hi, Nat.le_refl _, fun _ => ⟨rfl, rfl, rfl⟩⟩, fun e => by subst e; rfl⟩⟩
theorem HRep.sim {P base : List (Blk G.E.T)} (h : Sim (G := G) P base) (hP : HRep G.E w Fz ι P) : HRep G.E w Fz ι base := by
 refine ⟨fun id b hb => ?_, fun i j b b' A A' hij hi hj ho ho' hA hA' => ?_, fun i b A hi ho hA => ?_, fun i b A hi ho hA => ?_, hP.fz⟩
 ·obtain ⟨p, h1, _, _, _, h2⟩ := h.back hb
  have := (hP.rep id p h1).keep h.keep rfl (fun _ _ => rfl)
  rcases h2 with rfl | rfl
  ·exact this
  ·exact this.protB
 ·obtain ⟨p, h1, h2, _⟩ := h.back hi
  obtain ⟨q, g1, g2, _⟩ := h.back hj
  exact hP.apart i j p q A A' hij h1 g1 (by rw [← h2]; exact ho) (by rw [← g2]; exact ho') hA hA'
 ·obtain ⟨p, h1, h2, _⟩ := h.back hi
  exact hP.free i p A h1 (by rw [← h2]; exact ho) hA
 ·obtain ⟨p, h1, _, h2, _⟩ := h.back hi
  exact hP.held i p A h1 (by rw [← h2]; exact ho) hA
theorem Fram.sim {P base : List (Blk G.E.T)} (h : Sim (G := G) P base) (hP : Fram G.E X w Fz ι P) : Fram G.E X w Fz ι base :=
 ⟨hP.os, hP.tape, hP.output, hP.size, hP.block, fun i b A hi ho hA => by
  obtain ⟨p, h1, h2, _⟩ := h.back hi
  exact hP.own i p A h1 (by rw [← h2]; exact ho) hA, hP.fz⟩
/-! ### Environments -/
theorem looks_rep {E : Env} {H : List (Blk E.T)} {env : List (Nat × PV E.T)} {a : Act} (h : EnvRep E w Fz ι H env a) : ∀ tm : List (Nat × TSh), PReps E w Fz ι H (looks env tm) (tm.map fun x => a.tmps.getD x.1 undef)
 | [] => by simp [looks, PReps]
 | (t, s) :: l => by simp only [looks, List.map_cons, PReps]; exact ⟨h t, looks_rep h l⟩
theorem zipT_rep {E : Env} {H : List (Blk E.T)} {env : List (Nat × PV E.T)} {a : Act} (h : EnvRep E w Fz ι H env a) : ∀ (tm : List (Nat × TSh)) (vs : List (PV E.T)),
  PReps E w Fz ι H vs (tm.map fun x => a.tmps.getD x.1 undef) → EnvRep E w Fz ι H (zipT tm vs env) a
 | [], vs, _ => by cases vs <;> exact h
 | (t, s) :: l, [], hv => by simp [PReps] at hv
 | (t, s) :: l, v :: vs, hv => by
  simp only [List.map_cons, PReps] at hv
  intro u
  simp only [zipT, look]
  split
  ·rename_i e
   have := nat_beq e
   subst this
   exact hv.1
  ·exact zipT_rep h l vs hv.2 u
theorem look_minus {T : Nat → Type} : ∀ (env : List (Nat × PV T)) (ds : List Nat) (t : Nat), look t (minus env ds) = .any ∨ (t ∉ ds ∧ look t (minus env ds) = look t env)
 | [], ds, t => by simp [minus, look]
 | (u, v) :: r, ds, t => by
  simp only [minus]
  split
  ·rename_i hm
   rcases look_minus r ds t with h | ⟨h1, h2⟩
   ·exact .inl h
   ·refine .inr ⟨h1, ?_⟩
    rw [h2]
    simp only [look]
    split
    ·rename_i e
     have := nat_beq e
     subst this
     exact absurd (memN_iff.1 hm) h1
    ·rfl
  ·rename_i hm
   simp only [look]
   split
   ·rename_i e
    have := nat_beq e
    subst this
    exact .inr ⟨fun e => (by rw [memN_iff.2 e] at hm; cases hm), rfl⟩
   ·exact look_minus r ds t
theorem minus_rep {E : Env} {H : List (Blk E.T)} {env : List (Nat × PV E.T)} {a a' : Act} {ds : List Nat} (h : EnvRep E w Fz ι H env a) (hs : ∀ t, t ∉ ds → a'.tmps.getD t undef = a.tmps.getD t undef) :
  EnvRep E w Fz ι H (minus env ds) a' := by
 intro t
 rcases look_minus env ds t with e | ⟨e1, e2⟩
 ·rw [e]; simp [PRep]
 ·rw [e2, hs t e1]; exact h t
/-! ### Cuts -/
theorem castSt_sound {c : Cut} {ds : List Nat} {σ0 σ' : St G.E.T} {P base : List (Blk G.E.T)} {p : Pay G.E.T c.leaves} (hc : castSt c base σ' = some p) {a a' : Act}
  (hP : HRep G.E w Fz ι P) (hFP : EnvRep G.E w Fz ι P σ0.env a) (hsim : Sim (G := G) P base)
  (hg : Goes G X N ds w Fz ι base a w' Fz' ι' σ' a') :
  ∃ Fz'' ι'', Goes G X N ds w Fz ι P a w' Fz'' ι'' (rebSt c ⟨minus σ0.env ds, P⟩ p) a' := by
 unfold castSt at hc
 split at hc
 ·cases hc
 ·rename_i l cs hcast
  split at hc
  ·have hl := toL_ofL hc
   obtain ⟨h1, h2⟩ := cast_cut hg.step hP hsim hcast
   refine ⟨lentFz Fz' ι' cs.lent, bindι ι' cs, ?_, ?_, hg.size, hg.defers, hg.stay⟩
   ·simp only [rebSt, hl]; exact h1
   ·simp only [rebSt, hl]
    exact zipT_rep (minus_rep (hFP.mono h1.keep) hg.stay) c.tm _ (h2.reps (looks_rep hg.env c.tm))
  ·cases hc
theorem put_get_alt {ex : Ex} {σ' : St G.E.T} {base : List (Blk G.E.T)} {base' : St G.E.T} {k : Ex → St G.E.T → Option R} : ∀ {as : List (Ex × Cut)} {p : AltT G.E.T as}, putAlt as base ex σ' = some p → getAlt as base' p k = some r →
  ∃ c q, castSt c base σ' = some q ∧ k ex (rebSt c base' q) = some r
 | [], p, h, _ => p.elim
 | [(e, c)], p, h, g => by
  simp only [putAlt] at h
  split at h
  ·rename_i he
   have : ex = e := by
    cases ex <;> cases e <;> simp only [Ex.same] at he <;> first | rfl | cases he | (rw [nat_beq he])
   subst this
   exact ⟨c, p, h, g⟩
  ·cases h
 | (e, c) :: b :: as, p, h, g => by
  simp only [putAlt] at h
  split at h
  ·rename_i he
   have : ex = e := by
    cases ex <;> cases e <;> simp only [Ex.same] at he <;> first | rfl | cases he | (rw [nat_beq he])
   subst this
   split at h
   ·rename_i q hq
    cases h
    exact ⟨c, q, hq, g⟩
   ·cases h
  ·split at h
   ·rename_i q hq
    cases h
    exact put_get_alt hq g
   ·cases h
/-! ### What is left behind -/
def exitIs : Ex → Exit → Prop
 | .normal, .normal => True
 | .exit i, .exit j => i = j
 | .ret, .ret => True
 | _, _ => False
/-- behind a piece of code that began at (w, a) with the blocks H and writes ds: the reading goes on with k and answers r -/
def Post (G : Prg) (X : Ctx) (N : Nat) (ds : List Nat) (w : World) (Fz : Nat → Prop) (ι : Nat → Loc) (H : List (Blk G.E.T)) (a : Act) (k : Ex → St G.E.T → Option R) (r : R) : Exit → Act → World → Prop :=
 fun e a' w' => ∃ ex σ' Fz' ι', exitIs ex e ∧ k ex σ' = some r ∧ Goes G X N ds w Fz ι H a w' Fz' ι' σ' a'
theorem joined_sound {ds : List Nat} {as : Option (List (Ex × Cut))} {σ : St G.E.T} {run : St G.E.T → {A : Type} → (Ex → St G.E.T → Option A) → Option A} {k : Ex → St G.E.T → Option R} (h : joined G as ds σ run k = some r)
  {c : Code} {a : Act} (hA : At G X N w Fz ι σ a)
  (hrun : ∀ (σ1 : St G.E.T) {A : Type} (k1 : Ex → St G.E.T → Option A) (r1 : A), σ1.env = σ.env → run σ1 k1 = some r1 → At G X N w Fz ι σ1 a → c.wp G.P (Post G X N ds w Fz ι σ1.heap a k1 r1) a w) :
  c.wp G.P (Post G X N ds w Fz ι σ.heap a k r) a w := by
 unfold joined at h
 split at h
 ·exact hrun σ k r rfl h hA
 ·rename_i as
  obtain ⟨p, h1, h2⟩ := Option.bind_eq_some_iff.1 h
  have hsim := sim_protect (G := G) (firstBs as) σ.heap
  refine wp_mono (hrun ⟨σ.env, protect (firstBs as) σ.heap⟩ _ p rfl h1 ⟨hA.heap.sim hsim, hA.fram.sim hsim, hA.env.mono hsim.keep, hA.size, hA.defers⟩) ?_
  rintro e a' w' ⟨ex, σ', Fz', ι', he, hp, hg⟩
  obtain ⟨c, q, hc, hk⟩ := put_get_alt hp h2
  obtain ⟨Fz'', ι'', hgo⟩ := castSt_sound (σ0 := σ) hc hA.heap hA.env hsim hg
  exact ⟨ex, _, Fz'', ι'', he, hk, hgo⟩
theorem least_of {p : Nat → Prop} : ∀ n, p n → ∃ m, m ≤ n ∧ p m ∧ ∀ k, k < m → ¬ p k := by
 intro n
 induction n using Nat.strongRecOn with
 | _ n ih =>
  intro hn
  by_cases h : ∃ k, k < n ∧ p k
  ·obtain ⟨k, h1, h2⟩ := h
   obtain ⟨m, g1, g2, g3⟩ := ih k h1 h2
   exact ⟨m, by omega, g2, g3⟩
  ·exact ⟨n, Nat.le_refl _, hn, fun k hk hp => h ⟨k, hk, hp⟩⟩
theorem wp_loop_n {P : Program} {Q : Exit → Act → World → Prop} {c : Code} {a : Act} {w : World} (I : Nat → Act → World → Prop) {n : Nat} (h0 : I n a w)
  (round : ∀ n a w, I n a w → c.wp P (Exit.then (fun a' w' => ∃ m, m < n ∧ I m a' w') Q) a w) : (Code.loop c).wp P Q a w := by
 classical
 let μ : Act → World → Nat := fun a w => if h : ∃ n, I n a w then (least_of (p := fun n => I n a w) h.choose h.choose_spec).choose else 0
 have hμ : ∀ n a w, I n a w → I (μ a w) a w ∧ μ a w ≤ n := by
  intro n a w hn
  have hex : ∃ n, I n a w := ⟨n, hn⟩
  have hs := (least_of (p := fun n => I n a w) hex.choose hex.choose_spec).choose_spec
  have : μ a w = (least_of (p := fun n => I n a w) hex.choose hex.choose_spec).choose := by simp only [μ, dif_pos hex]
  rw [this]
  refine ⟨hs.2.1, ?_⟩
  rcases Nat.lt_or_ge n (least_of (p := fun n => I n a w) hex.choose hex.choose_spec).choose with q | q
  ·exact absurd hn (hs.2.2 n q)
  ·exact q
 refine wp_loop (fun a w => I (μ a w) a w) μ (hμ n a w h0).1 fun a w hI => ?_
 refine wp_mono (round _ a w hI) fun e a' w' he => ?_
 cases e with
 | normal =>
  obtain ⟨m, h1, h2⟩ := he
  obtain ⟨g1, g2⟩ := hμ m a' w' h2
  exact ⟨g1, by omega⟩
 | exit id => exact he
 | goto l => exact he
 | ret => exact he
 | panic ch => exact he
 | outgrown => exact he
theorem vrun_sound (ok : PrgOk G) {rec : Rec G} (hrec : Spec G rec) {ann : Ann} : ∀ (c : Code) {R : Type} (σ : St G.E.T) (k : Ex → St G.E.T → Option R) (r : R), vrun G rec ann N c σ k = some r →
  ∀ {a : Act} {w : World} {Fz : Nat → Prop} {ι : Nat → Loc}, At G X N w Fz ι σ a → c.wp G.P (Post G X N (dsts c) w Fz ι σ.heap a k r) a w
 | .skip, R, σ, k, r, h, a, w, Fz, ι, hA => by
  simp only [vrun] at h
  exact wp_skip ⟨.normal, σ, Fz, ι, trivial, h, hA.refl⟩
 | .region id ops draw, R, σ, k, r, h, a, w, Fz, ι, hA => by
  simp only [vrun] at h
  cases draw with
  | true =>
   refine joined_sound h hA fun σ1 A k1 r1 _ h1 hA1 => ?_
   exact vregion_sound ok hrec h1 hA1 fun σ' a' w' Fz' ι' hk hg => ⟨.normal, σ', Fz', ι', trivial, hk, hg⟩
  | false =>
   refine joined_sound h hA fun σ1 A k1 r1 _ h1 hA1 => wp_region_list ?_
   exact vops_sound ok hrec ops.toList h1 hA1 fun σ' a' w' Fz' ι' hk hg => ⟨.normal, σ', Fz', ι', trivial, hk, hg⟩
 | .seq x y, R, σ, k, r, h, a, w, Fz, ι, hA => by
  simp only [vrun] at h
  refine wp_seq (wp_mono (vrun_sound ok hrec x σ _ r h hA) ?_)
  rintro e a' w' ⟨ex, σ', Fz', ι', he, hk, hg⟩
  cases ex <;> cases e <;> simp only [exitIs] at he
  ·refine wp_mono (vrun_sound ok hrec y σ' k r hk hg.at_) ?_
   rintro e a'' w'' ⟨ex, σ'', Fz'', ι'', he, hk, hg'⟩
   exact ⟨ex, σ'', Fz'', ι'', he, hk, (hg.trans hg').more fun t ht => by simpa [dsts] using ht⟩
  ·subst he
   exact ⟨.exit _, σ', Fz', ι', rfl, hk, hg.more fun t ht => by simp [dsts, ht]⟩
  ·exact ⟨.ret, σ', Fz', ι', trivial, hk, hg.more fun t ht => by simp [dsts, ht]⟩
 | .cond c x y, R, σ, k, r, h, a, w, Fz, ι, hA => by
  simp only [vrun] at h
  split at h
  ·rename_i t
   split at h
   ·rename_i b hb
    have hbr := hA.env t
    rw [hb] at hbr
    simp only [PRep] at hbr
    have hev : a.eval (.tmp t) = .bool b := by
     generalize hv : a.tmps.getD t undef = v at hbr
     cases hbr
     exact hv
    refine joined_sound h hA fun σ1 A k1 r1 _ h1 hA1 => wp_cond hev ?_
    cases b with
    | true =>
     simp only [if_true] at h1 ⊢
     refine wp_mono (vrun_sound ok hrec x σ1 k1 r1 h1 hA1) ?_
     rintro e a' w' ⟨ex, σ', Fz', ι', he, hk, hg⟩
     exact ⟨ex, σ', Fz', ι', he, hk, hg.more fun t ht => by simp [ht]⟩
    | false =>
     simp only [Bool.false_eq_true, if_false] at h1 ⊢
     refine wp_mono (vrun_sound ok hrec y σ1 k1 r1 h1 hA1) ?_
     rintro e a' w' ⟨ex, σ', Fz', ι', he, hk, hg⟩
     exact ⟨ex, σ', Fz', ι', he, hk, hg.more fun t ht => by simp [ht]⟩
   ·rename_i hb
    have hbr := hA.env t
    rw [hb] at hbr
    simp only [PRep] at hbr
    obtain ⟨b, hbr⟩ := hbr
    have hev : a.eval (.tmp t) = .bool b := hbr
    refine joined_sound h hA fun σ1 A k1 r1 _ h1 hA1 => wp_cond hev ?_
    obtain ⟨h2, h3⟩ := demon_some h1
    cases b with
    | true =>
     simp only [if_true]
     refine wp_mono (vrun_sound ok hrec x σ1 k1 r1 h2 hA1) ?_
     rintro e a' w' ⟨ex, σ', Fz', ι', he, hk, hg⟩
     exact ⟨ex, σ', Fz', ι', he, hk, hg.more fun t ht => by simp [ht]⟩
    | false =>
     simp only [Bool.false_eq_true, if_false]
     refine wp_mono (vrun_sound ok hrec y σ1 k1 r1 h3 hA1) ?_
     rintro e a' w' ⟨ex, σ', Fz', ι', he, hk, hg⟩
     exact ⟨ex, σ', Fz', ι', he, hk, hg.more fun t ht => by simp [ht]⟩
   ·cases h
  ·rename_i b
   refine wp_cond (t := b) rfl ?_
   cases b with
   | true =>
    simp only [if_true] at h ⊢
    refine wp_mono (vrun_sound ok hrec x σ k r h hA) ?_
    rintro e a' w' ⟨ex, σ', Fz', ι', he, hk, hg⟩
    exact ⟨ex, σ', Fz', ι', he, hk, hg.more fun t ht => by simp only [dsts, List.mem_append]; exact .inl ht⟩
   | false =>
    simp only [Bool.false_eq_true, if_false] at h ⊢
    refine wp_mono (vrun_sound ok hrec y σ k r h hA) ?_
    rintro e a' w' ⟨ex, σ', Fz', ι', he, hk, hg⟩
    exact ⟨ex, σ', Fz', ι', he, hk, hg.more fun t ht => by simp only [dsts, List.mem_append]; exact .inr ht⟩
  ·cases h
 | .block id c, R, σ, k, r, h, a, w, Fz, ι, hA => by
  simp only [vrun] at h
  refine wp_block (wp_mono (vrun_sound ok hrec c σ _ r h hA) ?_)
  rintro e a' w' ⟨ex, σ', Fz', ι', he, hk, hg⟩
  cases ex <;> cases e <;> simp only [exitIs] at he
  ·exact ⟨.normal, σ', Fz', ι', trivial, hk, hg⟩
  ·subst he
   simp only [Exit.inBlock]
   simp only at hk
   split at hk
   ·rename_i e
    have := nat_beq e
    subst this
    rw [if_pos rfl]
    exact ⟨.normal, σ', Fz', ι', trivial, hk, hg⟩
   ·rename_i e
    rw [if_neg (fun e' => by subst e'; simp at e)]
    exact ⟨.exit _, σ', Fz', ι', rfl, hk, hg⟩
  ·exact ⟨.ret, σ', Fz', ι', trivial, hk, hg⟩
 | .loop c, R, σ, k, r, h, a, w, Fz, ι, hA => by
  simp only [vrun] at h
  split at h
  ·split at h
   ·cases h
   ·rename_i n0 _
    let Inv : Nat → Act → World → Prop := fun n a' w' => ∃ σ' Fz' ι', unrolled G (fun σ _ k => vrun G rec ann N c σ k) n σ' k = some r ∧ Goes G X N (dsts c) w Fz ι σ.heap a w' Fz' ι' σ' a'
    have h0 : Inv n0 a w := ⟨σ, Fz, ι, h, ⟨.refl hA.heap hA.fram, hA.env, hA.size, hA.defers, fun _ _ => rfl⟩⟩
    refine wp_loop_n Inv h0 fun n a' w' ⟨σ1, Fz1, ι1, hit, hg1⟩ => ?_
    cases n with
    | zero => simp [unrolled] at hit
    | succ n =>
     simp only [unrolled] at hit
     refine wp_mono (vrun_sound ok hrec c _ _ _ hit hg1.at_) ?_
     rintro e a'' w'' ⟨ex, σ', Fz2, ι2, he, hk, hg2⟩
     have hg := (hg1.trans hg2).more (ds' := dsts c) fun t ht => by simpa using ht
     cases ex <;> cases e <;> simp only [exitIs] at he
     ·exact ⟨n, Nat.lt_succ_self _, σ', Fz2, ι2, hk, hg⟩
     ·subst he
      exact ⟨.exit _, σ', Fz2, ι2, rfl, hk, hg.more fun t ht => by simpa [dsts] using ht⟩
     ·exact ⟨.ret, σ', Fz2, ι2, trivial, hk, hg.more fun t ht => by simpa [dsts] using ht⟩
  ·rename_i head as hann
   split at h
   ·cases h
   ·rename_i s hs
    obtain ⟨p, h1, h2⟩ := Option.bind_eq_some_iff.1 h
    obtain ⟨n, hn⟩ := iter_of_loop h1
    have hsim := sim_protect (G := G) head.bs σ.heap
    have hB : HRep G.E w Fz ι (protect head.bs σ.heap) := hA.heap.sim hsim
    have hFB : Fram G.E X w Fz ι (protect head.bs σ.heap) := hA.fram.sim hsim
    have hEB : EnvRep G.E w Fz ι (protect head.bs σ.heap) σ.env a := hA.env.mono hsim.keep
    -- the state at the head
    let Inv : Nat → Act → World → Prop := fun n a' w' => ∃ s, iter (fun s => vrun G rec ann N c (rebSt head (baseSt head.bs (dsts c) σ) s) fun e σ' => match e with
     | .normal => match castSt head (protect head.bs σ.heap) σ' with
      | some s => some (.inl s)
      | none => none
     | .exit id => match putAlt as (protect head.bs σ.heap) (.exit id) σ' with
      | some p => some (.inr p)
      | none => none
     | .ret => match putAlt as (protect head.bs σ.heap) .ret σ' with
      | some p => some (.inr p)
      | none => none) n s = some p ∧ ∃ Fz' ι', Goes G X N (dsts c) w Fz ι (protect head.bs σ.heap) a w' Fz' ι' (rebSt head (baseSt head.bs (dsts c) σ) s) a'
    have hback : ∀ {a' : Act} {w' : World} {σ' : St G.E.T} {Fz' : Nat → Prop} {ι' : Nat → Loc} {s' : Pay G.E.T head.leaves}, castSt head (protect head.bs σ.heap) σ' = some s' →
      Goes G X N (dsts c) w Fz ι (protect head.bs σ.heap) a w' Fz' ι' σ' a' → ∃ Fz' ι', Goes G X N (dsts c) w Fz ι (protect head.bs σ.heap) a w' Fz' ι' (rebSt head (baseSt head.bs (dsts c) σ) s') a' :=
     fun hc hg => castSt_sound (σ0 := σ) hc hB hEB .refl hg
    have hleave : ∀ {a' : Act} {w' : World} {σ' : St G.E.T} {Fz' : Nat → Prop} {ι' : Nat → Loc} {ex : Ex}, putAlt as (protect head.bs σ.heap) ex σ' = some p →
      Goes G X N (dsts c) w Fz ι (protect head.bs σ.heap) a w' Fz' ι' σ' a' → ∃ σ'' Fz' ι', k ex σ'' = some r ∧ Goes G X N (dsts c) w Fz ι σ.heap a w' Fz' ι' σ'' a' := fun hp hg => by
     obtain ⟨c', q, hc, hk⟩ := put_get_alt hp h2
     obtain ⟨Fz'', ι'', hgo⟩ := castSt_sound (σ0 := σ) hc hA.heap hA.env hsim hg
     exact ⟨_, Fz'', ι'', hk, hgo⟩
    have h0 : Inv n a w := ⟨s, hn, hback hs ⟨.refl hB hFB, hEB, hA.size, hA.defers, fun _ _ => rfl⟩⟩
    refine wp_loop_n Inv h0 fun n a' w' ⟨s, hit, Fz1, ι1, hg1⟩ => ?_
    cases n with
    | zero => simp [iter] at hit
    | succ n =>
     simp only [iter] at hit
     split at hit
     ·rename_i s' hf
      refine wp_mono (vrun_sound ok hrec c _ _ _ hf hg1.at_) ?_
      rintro e a'' w'' ⟨ex, σ', Fz2, ι2, he, hk, hg2⟩
      have hg := (hg1.trans hg2).more (ds' := dsts c) fun t ht => by simpa using ht
      cases ex <;> cases e <;> simp only [exitIs] at he
      ·simp only at hk
       split at hk
       ·rename_i s2 hc
        cases hk
        exact ⟨n, Nat.lt_succ_self _, s', hit, hback hc hg⟩
       ·cases hk
      ·simp only at hk
       split at hk <;> cases hk
      ·simp only at hk
       split at hk <;> cases hk
     ·rename_i p' hf
      cases hit
      refine wp_mono (vrun_sound ok hrec c _ _ _ hf hg1.at_) ?_
      rintro e a'' w'' ⟨ex, σ', Fz2, ι2, he, hk, hg2⟩
      have hg := (hg1.trans hg2).more (ds' := dsts c) fun t ht => by simpa using ht
      cases ex <;> cases e <;> simp only [exitIs] at he
      ·simp only at hk
       split at hk <;> cases hk
      ·subst he
       simp only at hk
       split at hk
       ·rename_i p2 hc
        cases hk
        obtain ⟨σ'', Fz3, ι3, q1, q2⟩ := hleave hc hg
        exact ⟨.exit _, σ'', Fz3, ι3, rfl, q1, q2⟩
       ·cases hk
      ·simp only at hk
       split at hk
       ·rename_i p2 hc
        cases hk
        obtain ⟨σ'', Fz3, ι3, q1, q2⟩ := hleave hc hg
        exact ⟨.ret, σ'', Fz3, ι3, trivial, q1, q2⟩
       ·cases hk
     ·cases hit
 | .exit id, R, σ, k, r, h, a, w, Fz, ι, hA => by
  simp only [vrun] at h
  exact wp_exit ⟨.exit id, σ, Fz, ι, rfl, h, hA.refl⟩
 | .ret, R, σ, k, r, h, a, w, Fz, ι, hA => by
  simp only [vrun] at h
  exact wp_ret ⟨.ret, σ, Fz, ι, trivial, h, hA.refl⟩
 | .rangeFunc .., R, σ, k, r, h, _, _, _, _, _ => by simp only [vrun] at h; cases h
 | .scope .., R, σ, k, r, h, _, _, _, _, _ => by simp only [vrun] at h; cases h
 | .label .., R, σ, k, r, h, _, _, _, _, _ => by simp only [vrun] at h; cases h
 | .goto .., R, σ, k, r, h, _, _, _, _, _ => by simp only [vrun] at h; cases h
 | .refuse .., R, σ, k, r, h, _, _, _, _, _ => by simp only [vrun] at h; cases h
end
end Go.Proofs.YtkccnhkhjncpkaaGreat.V
