/- A state cast to a cut, and the state that is built up of it. -/
import Derived.Test.YtgffdmgidnnedaaGreatCast
namespace Go.Proofs.YtgffdmgidnnedaaGreat.V
open Go
set_option linter.unusedVariables false
set_option linter.unusedSimpArgs false
section
variable {G : Prg} {w w0 : World} {Fz Fz0 Fz' : Nat → Prop} {ι ι0 ι' : Nat → Loc} {H H' P base : List (Blk G.E.T)} {ρ : Nat → Nat × Nat} {X : Ctx}
theorem lookB_mem : ∀ {l : List (Nat × Option Nat)} {j : Nat} {x : Option Nat}, lookB j l = some x → (j, x) ∈ l
 | [], _, _, h => by simp [lookB] at h
 | (u, v) :: r, j, x, h => by
  simp only [lookB] at h
  split at h
  ·rename_i e
   have := nat_beq e
   subst this
   cases h
   exact List.mem_cons_self ..
  ·exact List.mem_cons_of_mem _ (lookB_mem h)
theorem memN_iff {n : Nat} : ∀ {l : List Nat}, memN n l = true ↔ n ∈ l
 | [] => by simp [memN]
 | m :: l => by
  simp only [memN]
  split
  ·rename_i e
   have := nat_beq e
   subst this
   simp
  ·rename_i e
   have hne : n ≠ m := by rintro rfl; simp at e
   rw [memN_iff, List.mem_cons]
   simp [hne]
theorem mem_olds : ∀ {l : List (Nat × Option Nat)} {j a : Nat}, (j, some a) ∈ l → a ∈ olds l
 | [], _, _, h => by simp at h
 | (u, some b) :: r, j, a, h => by
  simp only [olds]
  rcases List.mem_cons.1 h with h | h
  ·cases h; exact List.mem_cons_self ..
  ·exact List.mem_cons_of_mem _ (mem_olds h)
 | (u, none) :: r, j, a, h => by
  simp only [olds]
  rcases List.mem_cons.1 h with h | h
  ·cases h
  ·exact mem_olds h
theorem nodupN_olds : ∀ {l : List (Nat × Option Nat)} {j1 j2 a : Nat}, nodupN (olds l) = true → (j1, some a) ∈ l → (j2, some a) ∈ l → j1 = j2
 | [], _, _, _, _, h, _ => by simp at h
 | (u, some b) :: r, j1, j2, a, hn, h1, h2 => by
  simp only [olds, nodupN] at hn
  split at hn
  ·cases hn
  ·rename_i hm
   have hm' : b ∉ olds r := fun e => by rw [memN_iff.2 e] at hm; cases hm
   rcases List.mem_cons.1 h1 with e1 | e1 <;> rcases List.mem_cons.1 h2 with e2 | e2
   ·cases e1; cases e2; rfl
   ·cases e1; exact absurd (mem_olds e2) hm'
   ·cases e2; exact absurd (mem_olds e1) hm'
   ·exact nodupN_olds hn e1 e2
 | (u, none) :: r, j1, j2, a, hn, h1, h2 => by
  simp only [olds] at hn
  rcases List.mem_cons.1 h1 with e1 | e1
  ·cases e1
  ·rcases List.mem_cons.1 h2 with e2 | e2
   ·cases e2
   ·exact nodupN_olds hn e1 e2
theorem disjN_mem : ∀ {l m : List Nat} {x : Nat}, disjN l m = true → x ∈ l → x ∉ m
 | [], _, _, _, h => by simp at h
 | n :: l, m, x, hd, h => by
  simp only [disjN] at hd
  split at hd
  ·cases hd
  ·rename_i hm
   rcases List.mem_cons.1 h with rfl | h
   ·exact fun e => by rw [memN_iff.2 e] at hm; cases hm
   ·exact disjN_mem hd h
theorem newsIn_mem {bs : List BSh} : ∀ {l : List (Nat × Option Nat)} {j : Nat} {x : Option Nat}, newsIn bs l = true → (j, x) ∈ l → ∃ b, getL bs j = some b ∧ b ≠ .gone
 | [], _, _, _, h => by simp at h
 | (u, v) :: r, j, x, hn, h => by
  simp only [newsIn] at hn
  split at hn
  ·cases hn
  ·cases hn
  ·rename_i b hne hb
   rcases List.mem_cons.1 h with e | e
   ·cases e; exact ⟨_, hb, by rintro rfl; exact hne rfl⟩
   ·exact newsIn_mem hn e
theorem startBind_look : ∀ {n j0 : Nat} {bs : List BSh} {k : Nat} {b : BSh}, k < n → getL bs k = some b → b ≠ .gone → lookB (j0 + k) (startBind n j0 bs) = some (some (j0 + k))
 | 0, _, _, _, _, h, _, _ => by omega
 | n + 1, j0, [], k, b, _, h, _ => by simp [getL] at h
 | n + 1, j0, c :: l, 0, b, _, h, hb => by
  simp only [getL, Option.some.injEq] at h
  subst h
  cases c <;> first | exact absurd rfl hb | simp [startBind, lookB]
 | n + 1, j0, c :: l, k + 1, b, hk, h, hb => by
  simp only [getL] at h
  have ih := startBind_look (j0 := j0 + 1) (Nat.lt_of_succ_lt_succ hk) h hb
  rw [show j0 + 1 + k = j0 + (k + 1) by omega] at ih
  have hne : Nat.beq (j0 + (k + 1)) j0 = false := by
   rcases hq : Nat.beq (j0 + (k + 1)) j0 with _ | _
   ·rfl
   ·have := nat_beq hq; omega
  cases c <;> simp only [startBind, lookB, hne] <;> exact ih
theorem goneFine_at : ∀ {base : List (Blk G.E.T)} {bs : List BSh} {j : Nat} {b : Blk G.E.T}, goneFine base bs = true → getL base j = some b → getL bs j = some .gone → b.frozen = false ∧ b.prot = false
 | [], _, _, _, _, h, _ => by simp [getL] at h
 | _ :: _, [], _, _, _, _, h => by simp [getL] at h
 | c :: l, s :: m, 0, b, hg, h, hs => by
  simp only [getL, Option.some.injEq] at h hs
  subst h; subst hs
  cases c with
  | gone => exact ⟨rfl, rfl⟩
  | box m _ => cases m <;> simp only [goneFine] at hg <;> first | exact ⟨rfl, rfl⟩ | cases hg
  | ints m _ _ _ => cases m <;> simp only [goneFine] at hg <;> first | exact ⟨rfl, rfl⟩ | cases hg
  | rows m _ _ _ => cases m <;> simp only [goneFine] at hg <;> first | exact ⟨rfl, rfl⟩ | cases hg
  | mpr m _ _ _ => cases m <;> simp only [goneFine] at hg <;> first | exact ⟨rfl, rfl⟩ | cases hg
  | mp m _ => cases m <;> simp only [goneFine] at hg <;> first | exact ⟨rfl, rfl⟩ | cases hg
 | c :: l, s :: m, j + 1, b, hg, h, hs => by
  simp only [getL] at h hs
  have : goneFine l m = true := by
   cases s <;> simp only [goneFine] at hg <;> try exact hg
   split at hg <;> first | exact hg | cases hg
  exact goneFine_at this h hs
/-- what a cast has found -/
structure Found (bs : List BSh) (base : List (Blk G.E.T)) (cs : CS) : Prop where
 le : base.length ≤ bs.length
 one : ∀ {j1 j2 a}, lookB j1 cs.bind = some (some a) → lookB j2 cs.bind = some (some a) → j1 = j2
 apart : ∀ {j a}, lookB j cs.bind = some (some a) → a ∉ cs.lent
 told : ∀ {j x}, lookB j cs.bind = some x → ∃ b, getL bs j = some b ∧ b ≠ .gone
 stay : ∀ {j b}, j < base.length → getL bs j = some b → b ≠ .gone → lookB j cs.bind = some (some j)
 gone : ∀ {j b}, getL base j = some b → getL bs j = some .gone → b.frozen = false ∧ b.prot = false
theorem castAll_tr (hH : HRep G.E w Fz ι H) {ss : List TSh} {vs : List (PV G.E.T)} {bs : List BSh} {l : List (LV G.E.T)} {cs : CS} (h : castAll ss vs bs base H = some (l, cs)) :
  Found bs base cs ∧ ∀ P : List (Blk G.E.T), (Agree G w Fz Fz' ι ι' H H' ρ cs → Trs G w Fz Fz' ι ι' H H' vs (rebTs ρ ss l).1) ∧
   ∀ k b, getL bs k = some b → ∃ blk, getL (rebBs ρ 0 bs P (rebTs ρ ss l).2) k = some blk ∧
    BTr H base ρ cs (fun vs vs' => Agree G w Fz Fz' ι ι' H H' ρ cs → Trs G w Fz Fz' ι ι' H H' vs vs') k (atB P k) b blk := by
 unfold castAll at h
 split at h
 ·cases h
 ·rename_i a cs1 h1
  split at h
  ·cases h
  ·rename_i b cs2 h2
   split at h
   ·rename_i hle hfine hgone
    cases h
    obtain ⟨p1, p2⟩ := castTs_tr (ρ := ρ) (Fz' := Fz') (ι' := ι') (H' := H') hH ss vs h1
    obtain ⟨q1, q2⟩ := castBs_tr (ρ := ρ) (Fz' := Fz') (ι' := ι') (H' := H') hH bs 0 h2
    unfold CS.fine at hfine
    split at hfine
    ·rename_i hn hd hi
     refine ⟨⟨Nat.le_of_ble_eq_true hle, fun e1 e2 => nodupN_olds hn (lookB_mem e1) (lookB_mem e2), fun e => disjN_mem hd (mem_olds (lookB_mem e)), fun e => newsIn_mem hi (lookB_mem e), fun hj hb hne => ?_, fun h1 h2 => goneFine_at hgone h1 h2⟩, fun P => ?_⟩
     ·have := startBind_look (j0 := 0) hj hb hne
      rw [Nat.zero_add] at this
      exact q1.1 _ _ (p1.1 _ _ this)
     ·obtain ⟨e1, t1⟩ := p2 b
      refine ⟨t1 q1, fun k sh hk => ?_⟩
      rw [e1]
      obtain ⟨blk, g1, g2⟩ := q2 P [] (CS.le.refl _) k sh hk
      rw [List.append_nil] at g1
      rw [Nat.zero_add] at g2
      exact ⟨blk, g1, g2⟩
    ·cases hfine
   ·cases h
/-! ### What is lent was the call's own -/
def LentIn (H : List (Blk G.E.T)) (l : List Nat) : Prop := ∀ id, id ∈ l → ∃ b, getL H id = some b ∧ b.owned = true
theorem LentIn.append {l m : List Nat} (h : LentIn H l) (g : LentIn H m) : LentIn H (l ++ m) := fun id hi => (List.mem_append.1 hi).elim (h id) (g id)
theorem LentIn.if {m : Mode} {id : Nat} {b : Blk G.E.T} (hb : getL H id = some b) (h : m ≠ .frozen → b.owned = true) : LentIn H (lentIf m id) := by
 intro i hi
 cases m with
 | frozen => simp [lentIf] at hi
 | own => simp only [lentIf, List.mem_singleton] at hi; subst hi; exact ⟨b, hb, h (by simp)⟩
 | prot => simp only [lentIf, List.mem_singleton] at hi; subst hi; exact ⟨b, hb, h (by simp)⟩
theorem LentIn.nil : LentIn H [] := fun id hi => by simp at hi
theorem intsOf_lent {k : IntKind} {p : PV G.E.T} {ys : List Int} {l : List Nat} (h : intsOf H k p = some (ys, l)) : LentIn H l := by
 unfold intsOf at h
 split at h
 ·split at h <;> cases h; exact .nil
 ·cases h; exact .nil
 ·split at h
  ·rename_i m k' ep' xs hb
   split at h <;> cases h
   exact .if hb fun hm => by cases m <;> simp_all [Blk.owned]
  ·cases h
 ·split at h
  ·rename_i m k' ep' xs hb
   split at h <;> cases h
   exact .if hb fun hm => by cases m <;> simp_all [Blk.owned]
  ·cases h
 ·cases h
theorem rowsOf_lent {i : Nat} {p : PV G.E.T} {ys : List (G.E.T i)} {l : List Nat} (h : rowsOf H i p = some (ys, l)) : LentIn H l := by
 unfold rowsOf at h
 split at h
 ·split at h <;> cases h; exact .nil
 ·cases h; exact .nil
 ·split at h
  ·rename_i m k' ep' xs hb
   split at h
   ·split at h <;> cases h
    exact .if hb fun hm => by cases m <;> simp_all [Blk.owned]
   ·cases h
  ·cases h
 ·split at h
  ·rename_i m k' ep' xs hb
   split at h
   ·split at h <;> cases h
    exact .if hb fun hm => by cases m <;> simp_all [Blk.owned]
   ·cases h
  ·cases h
 ·cases h
mutual
theorem castT_lent : ∀ (s : TSh) (v : PV G.E.T) {a : List (LV G.E.T)} {cs cs' : CS}, castT H s v cs = some (a, cs') → LentIn H cs.lent → LentIn H cs'.lent
 | .int k, v, a, cs, cs', h, hl => by
  cases v <;> simp only [castT] at h <;> try (cases h; done)
  split at h <;> cases h; exact hl
 | .bool, v, a, cs, cs', h, hl => by
  cases v <;> simp only [castT] at h <;> try (cases h; done)
  cases h; exact hl
 | .str, v, a, cs, cs', h, hl => by
  cases v <;> simp only [castT] at h <;> try (cases h; done)
  cases h; exact hl
 | .ints k, v, a, cs, cs', h, hl => by
  simp only [castT] at h
  split at h
  ·rename_i q; cases h; exact (intsOf_lent q).append hl
  ·cases h
 | .rows i, v, a, cs, cs', h, hl => by
  simp only [castT] at h
  split at h
  ·rename_i q; cases h; exact (rowsOf_lent q).append hl
  ·cases h
 | .arr j, v, a, cs, cs', h, hl => by
  cases v <;> simp only [castT] at h <;> try (cases h; done)
  case arr id ep =>
   split at h
   ·split at h
    ·rename_i hb; cases h; rw [(bindTo_le hb).2.2]; exact hl
    ·cases h
   ·cases h
  case nilsl =>
   split at h
   ·rename_i hb; cases h; rw [(bindTo_le hb).2.2]; exact hl
   ·cases h
 | .agg l, v, a, cs, cs', h, hl => by
  cases v <;> simp only [castT] at h <;> try (cases h; done)
  exact castTs_lent l _ h hl
 | .ptr j off, v, a, cs, cs', h, hl => by
  cases v <;> simp only [castT] at h <;> try (cases h; done)
  split at h
  ·split at h
   ·rename_i hb; cases h; rw [(bindTo_le hb).2.2]; exact hl
   ·cases h
  ·cases h
 | .mapr j, v, a, cs, cs', h, hl => by
  cases v <;> simp only [castT] at h <;> try (cases h; done)
  split at h
  ·rename_i hb; cases h; rw [(bindTo_le hb).2.2]; exact hl
  ·cases h
 | .nil, v, a, cs, cs', h, hl => by
  cases v <;> simp only [castT] at h <;> try (cases h; done)
  cases h; exact hl
 | .nilsl, v, a, cs, cs', h, hl => by
  cases v <;> simp only [castT] at h <;> try (cases h; done)
  cases h; exact hl
 | .lit k n, v, a, cs, cs', h, hl => by
  cases v <;> simp only [castT] at h <;> try (cases h; done)
  split at h
  ·cases h; exact hl
  ·cases h
 | .litb b, v, a, cs, cs', h, hl => by
  cases v <;> simp only [castT] at h <;> try (cases h; done)
  rename_i c
  cases b <;> cases c <;> simp only at h <;> try (cases h; done)
  all_goals cases h; exact hl
 | .fn f l, v, a, cs, cs', h, hl => by
  cases v <;> simp only [castT] at h <;> try (cases h; done)
  split at h
  ·exact castTs_lent l _ h hl
  ·cases h
theorem castTs_lent : ∀ (l : List TSh) (m : List (PV G.E.T)) {a : List (LV G.E.T)} {cs cs' : CS}, castTs H l m cs = some (a, cs') → LentIn H cs.lent → LentIn H cs'.lent
 | [], [], a, cs, cs', h, hl => by
  simp only [castTs] at h
  cases h; exact hl
 | s :: l, v :: m, a, cs, cs', h, hl => by
  simp only [castTs] at h
  split at h
  ·rename_i h1
   split at h
   ·rename_i h2
    cases h
    exact castTs_lent l m h2 (castT_lent s v h1 hl)
   ·cases h
  ·cases h
 | [], _ :: _, a, cs, cs', h, _ => by simp only [castTs] at h; cases h
 | _ :: _, [], a, cs, cs', h, _ => by simp only [castTs] at h; cases h
end
theorem castB_lent {j : Nat} {b : BSh} {a : List (LV G.E.T)} {cs cs' : CS} (h : castB H base j b cs = some (a, cs')) (hl : LentIn H cs.lent) : LentIn H cs'.lent := by
 cases b with
 | gone => simp only [castB] at h; cases h; exact hl
 | same => simp only [castB] at h; split at h <;> cases h; exact hl
 | box cells =>
  simp only [castB] at h
  split at h
  ·split at h
   ·exact castTs_lent _ _ h hl
   ·cases h
  ·cases h
 | mp k =>
  simp only [castB] at h
  split at h
  ·split at h
   ·split at h <;> cases h; exact hl
   ·cases h
  ·cases h
 | mpr k i =>
  simp only [castB] at h
  split at h
  ·split at h
   ·split at h
    ·split at h <;> cases h; exact hl
    ·cases h
   ·cases h
  ·cases h
 | ints k keep =>
  simp only [castB] at h
  split at h
  ·split at h
   ·split at h <;> cases h; exact hl
   ·cases h
  ·split at h <;> cases h; exact hl
  ·cases h
 | rows i keep =>
  simp only [castB] at h
  split at h
  ·split at h
   ·split at h
    ·split at h <;> cases h; exact hl
    ·cases h
   ·cases h
  ·split at h <;> cases h; exact hl
  ·cases h
theorem castBs_lent : ∀ {bs : List BSh} {j : Nat} {a : List (LV G.E.T)} {cs cs' : CS}, castBs H base j bs cs = some (a, cs') → LentIn H cs.lent → LentIn H cs'.lent
 | [], j, a, cs, cs', h, hl => by simp only [castBs] at h; cases h; exact hl
 | b :: bs, j, a, cs, cs', h, hl => by
  simp only [castBs] at h
  split at h
  ·rename_i h1
   split at h
   ·rename_i h2
    cases h
    exact castBs_lent h2 (castB_lent h1 hl)
   ·cases h
  ·cases h
theorem castAll_lent {ss : List TSh} {vs : List (PV G.E.T)} {bs : List BSh} {l : List (LV G.E.T)} {cs : CS} (h : castAll ss vs bs base H = some (l, cs)) : LentIn H cs.lent := by
 unfold castAll at h
 split at h
 ·cases h
 ·rename_i a cs1 h1
  split at h
  ·cases h
  ·rename_i b cs2 h2
   split at h
   ·cases h
    exact castBs_lent h2 (castTs_lent _ _ h1 .nil)
   ·cases h
/-! ### The new blocks -/
def lentFz (Fz : Nat → Prop) (ι : Nat → Loc) (l : List Nat) (B : Nat) : Prop := Fz B ∨ ∃ id, id ∈ l ∧ ∃ A, (ι id).a = some A ∧ B = A.block
def bindι (ι : Nat → Loc) (cs : CS) (j : Nat) : Loc := match lookB j cs.bind with
 | some (some id) => ι id
 | some none => ⟨none, 0⟩
 | none => ι j
theorem bindι_old {cs : CS} {j id : Nat} (h : lookB j cs.bind = some (some id)) : bindι ι cs j = ι id := by simp [bindι, h]
theorem bindι_new {cs : CS} {j : Nat} (h : lookB j cs.bind = some none) : bindι ι cs j = ⟨none, 0⟩ := by simp [bindι, h]
theorem bindι_none {cs : CS} {j : Nat} (h : lookB j cs.bind = none) : bindι ι cs j = ι j := by simp [bindι, h]
theorem agree_of {bs : List BSh} {cs : CS} (hf : Found bs base cs) (hρ : ∀ j, (ρ j).1 = j) {TR : List (PV G.E.T) → List (PV G.E.T) → Prop}
  (hb : ∀ k b, getL bs k = some b → ∃ blk, getL H' k = some blk ∧ BTr H base ρ cs TR k (atB P k) b blk)
  (hs : ∀ j, getL bs j = some .same → sameB H base j = true → lookB j cs.bind = some (some j) ∧ ∃ b, getL H j = some b ∧ (b.info G.E = none → (atB P j).info G.E = none) ∧
   (∀ ep len sz, b.info G.E = some (ep, len, sz) → (atB P j).info G.E = some ((ρ j).2, len, sz))) :
  Agree G w Fz (lentFz Fz ι cs.lent) ι (bindι ι cs) H H' ρ cs := by
 refine ⟨fun j id hl => ?_, fun j hl => ?_, fun id hi A hA => .inr ⟨id, hi, A, hA, rfl⟩, fun B h => .inl h⟩
 ·obtain ⟨sh, h1, h2⟩ := hf.told hl
  obtain ⟨blk, g1, g2⟩ := hb j sh h1
  rw [hρ, bindι_old hl]
  cases g2 with
  | gone => exact absurd rfl h2
  | same hsm =>
   obtain ⟨q1, b, q2, q3, q4⟩ := hs j h1 hsm
   rw [hl] at q1; cases q1
   exact ⟨b, _, q2, g1, rfl, q3, q4⟩
  | box e1 e2 e3 =>
   rw [hl] at e1; cases e1
   exact ⟨_, _, e2, g1, rfl, fun _ => rfl, fun ep len sz hi => by simp [Blk.info] at hi⟩
  | mp e1 e2 =>
   rw [hl] at e1; cases e1
   exact ⟨_, _, e2, g1, rfl, fun _ => rfl, fun ep len sz hi => by simp [Blk.info] at hi⟩
  | mpr e1 e2 =>
   rw [hl] at e1; cases e1
   exact ⟨_, _, e2, g1, rfl, fun _ => rfl, fun ep len sz hi => by simp [Blk.info] at hi⟩
  | ints e1 e2 e3 =>
   rw [hl] at e1; cases e1
   exact ⟨_, _, e2, g1, rfl, fun hi => by simp [Blk.info] at hi, fun ep len sz hi => by
    simp only [Blk.info, Option.some.injEq, Prod.mk.injEq] at hi ⊢; exact ⟨trivial, hi.2.1, hi.2.2⟩⟩
  | ints0 e1 => rw [hl] at e1; cases e1
  | rows e1 e2 e3 =>
   rw [hl] at e1; cases e1
   exact ⟨_, _, e2, g1, rfl, fun hi => by simp [Blk.info] at hi, fun ep len sz hi => by
    simp only [Blk.info, Option.some.injEq, Prod.mk.injEq] at hi ⊢; exact ⟨trivial, hi.2.1, hi.2.2⟩⟩
  | rows0 e1 => rw [hl] at e1; cases e1
 ·obtain ⟨sh, h1, h2⟩ := hf.told hl
  obtain ⟨blk, g1, g2⟩ := hb j sh h1
  rw [hρ, bindι_new hl]
  cases g2 with
  | gone => exact absurd rfl h2
  | same hsm =>
   obtain ⟨q1, _⟩ := hs j h1 hsm
   rw [hl] at q1; cases q1
  | box e1 e2 e3 => rw [hl] at e1; cases e1
  | mp e1 e2 => rw [hl] at e1; cases e1
  | mpr e1 e2 => rw [hl] at e1; cases e1
  | ints e1 e2 e3 => rw [hl] at e1; cases e1
  | ints0 e1 => exact ⟨_, 1, g1, rfl, rfl⟩
  | rows e1 e2 e3 => rw [hl] at e1; cases e1
  | rows0 e1 => exact ⟨_, _, g1, rfl, rfl⟩
/-- where a new block that is owned comes from -/
theorem src_of {bs : List BSh} {cs : CS} {TR : List (PV G.E.T) → List (PV G.E.T) → Prop} {k : Nat} {b : BSh} {blk : Blk G.E.T} (hk : getL bs k = some b) (g : BTr H base ρ cs TR k (atB P k) b blk)
  (hs : ∀ j, getL bs j = some .same → sameB H base j = true → lookB j cs.bind = some (some j) ∧ ∃ b, getL H j = some b ∧ b.owned = (atB P j).owned ∧ b.frozen = (atB P j).frozen)
  {A : Addr} (hA : (bindι ι cs k).a = some A) (ho : blk.owned = true) :
  ∃ id b, lookB k cs.bind = some (some id) ∧ getL H id = some b ∧ b.owned = true ∧ (ι id).a = some A := by
 cases g with
 | gone => simp [Blk.owned] at ho
 | same hsm =>
  obtain ⟨q1, b, q2, q3, _⟩ := hs k hk hsm
  rw [bindι_old q1] at hA
  exact ⟨k, b, q1, q2, by rw [q3]; exact ho, hA⟩
 | box e1 e2 e3 => rw [bindι_old e1] at hA; exact ⟨_, _, e1, e2, rfl, hA⟩
 | mp e1 e2 => rw [bindι_old e1] at hA; exact ⟨_, _, e1, e2, rfl, hA⟩
 | mpr e1 e2 => rw [bindι_old e1] at hA; exact ⟨_, _, e1, e2, rfl, hA⟩
 | ints e1 e2 e3 => rw [bindι_old e1] at hA; exact ⟨_, _, e1, e2, rfl, hA⟩
 | ints0 e1 => rw [bindι_new e1] at hA; cases hA
 | rows e1 e2 e3 => rw [bindι_old e1] at hA; exact ⟨_, _, e1, e2, rfl, hA⟩
 | rows0 e1 => rw [bindι_new e1] at hA; cases hA
theorem src_un {bs : List BSh} {cs : CS} {TR : List (PV G.E.T) → List (PV G.E.T) → Prop} {k : Nat} {b : BSh} {blk : Blk G.E.T} (hk : getL bs k = some b) (g : BTr H base ρ cs TR k (atB P k) b blk)
  (hs : ∀ j, getL bs j = some .same → sameB H base j = true → lookB j cs.bind = some (some j) ∧ ∃ b, getL H j = some b ∧ b.owned = (atB P j).owned ∧ b.frozen = (atB P j).frozen)
  {A : Addr} (hA : (bindι ι cs k).a = some A) (hg : blk ≠ .gone) : ∃ id b, getL H id = some b ∧ b ≠ .gone ∧ (ι id).a = some A := by
 by_cases ho : blk.owned = true
 ·obtain ⟨id, b, _, h2, h3, h4⟩ := src_of hk g hs hA ho
  exact ⟨id, b, h2, owned_ne_gone h3, h4⟩
 ·have hf := frozen_of_not_owned (by simpa using ho) hg
  cases g with
  | same hsm =>
   obtain ⟨q1, b, q2, q3, q4⟩ := hs k hk hsm
   rw [bindι_old q1] at hA
   exact ⟨k, b, q2, (by rintro rfl; rw [hf] at q4; cases q4), hA⟩
  | gone => cases hf
  | box => cases hf
  | mp => cases hf
  | mpr => cases hf
  | ints => cases hf
  | ints0 => cases hf
  | rows => cases hf
  | rows0 => cases hf
theorem row_empty {sz : Nat} : RowAt w ⟨none, 0⟩ 0 sz := ⟨Nat.le_refl _, Nat.zero_le _, .inl ⟨rfl, rfl⟩⟩
theorem cast_heap (hH : HRep G.E w Fz ι H) {bs : List BSh} {cs : CS} (hf : Found bs base cs) (hlent : LentIn H cs.lent) (hA : Agree G w Fz (lentFz Fz ι cs.lent) ι (bindι ι cs) H H' ρ cs)
  (hlen : H'.length = bs.length)
  (hb : ∀ k b, getL bs k = some b → ∃ blk, getL H' k = some blk ∧ BTr H base ρ cs (fun vs vs' => Agree G w Fz (lentFz Fz ι cs.lent) ι (bindι ι cs) H H' ρ cs → Trs G w Fz (lentFz Fz ι cs.lent) ι (bindι ι cs) H H' vs vs') k (atB P k) b blk)
  (hs : ∀ j, getL bs j = some .same → sameB H base j = true → lookB j cs.bind = some (some j) ∧ ∃ b, getL H j = some b ∧ b.owned = (atB P j).owned ∧ b.frozen = (atB P j).frozen)
  (hrep : ∀ j, sameB H base j = true → getL bs j = some .same → BRep G.E w (lentFz Fz ι cs.lent) (bindι ι cs) H' j (atB P j)) :
  HRep G.E w (lentFz Fz ι cs.lent) (bindι ι cs) H' := by
 have at_ : ∀ {k blk}, getL H' k = some blk → ∃ b, getL bs k = some b ∧ BTr H base ρ cs (fun vs vs' => Agree G w Fz (lentFz Fz ι cs.lent) ι (bindι ι cs) H H' ρ cs → Trs G w Fz (lentFz Fz ι cs.lent) ι (bindι ι cs) H H' vs vs') k (atB P k) b blk := by
  intro k blk hk
  have hlt := getL_lt hk
  rw [hlen] at hlt
  have : getL bs k = some bs[k] := by rw [getL_eq, List.getElem?_eq_getElem hlt]
  obtain ⟨blk', g1, g2⟩ := hb k _ this
  rw [hk] at g1; cases g1
  exact ⟨_, this, g2⟩
 refine ⟨fun k blk hk => ?_, fun i j b b' A A' hij hi hj ho ho' ha ha' => ?_, fun i b A hi ho ha hF => ?_, fun i b A hi ho ha => ?_, fun B hB => ?_⟩
 ·obtain ⟨sh, h1, h2⟩ := at_ hk
  cases h2 with
  | gone => trivial
  | same hsm => exact hrep k hsm h1
  | mp e1 e2 =>
   have hr := hH.rep _ _ e2
   simp only [BRep] at hr ⊢
   rw [bindι_old e1]
   exact hr
  | mpr e1 e2 =>
   have hr := hH.rep _ _ e2
   simp only [BRep] at hr ⊢
   rw [bindι_old e1]
   obtain ⟨B, q1, es, c, q2, q3⟩ := hr
   exact ⟨B, q1, es, c, q2, q3.mono hA.fz fun _ _ => rfl⟩
  | box e1 e2 e3 =>
   have hr := hH.rep _ _ e2
   simp only [BRep] at hr ⊢
   rw [bindι_old e1]
   obtain ⟨B, o, q1, q2, q3⟩ := hr
   refine ⟨B, o, q1, q2, fun c p hp => ?_⟩
   obtain ⟨p0, g1, g2⟩ := (e3 hA).get hp
   obtain ⟨r1, r2, u, r3, r4⟩ := q3 c p0 g1
   exact ⟨g2.1 r1, r2, u, r3, g2.2 u r4⟩
  | ints e1 e2 e3 =>
   have hr := hH.rep _ _ e2
   simp only [BRep] at hr ⊢
   rw [bindι_old e1]
   exact hr
  | ints0 e1 =>
   simp only [BRep]
   rw [bindι_new e1]
   exact ⟨row_empty, by simp, fun B o hn => by cases hn⟩
  | rows e1 e2 e3 =>
   have hr := hH.rep _ _ e2
   simp only [BRep] at hr ⊢
   rw [bindι_old e1]
   exact ⟨hr.1, fun B o ha j x c p hj hp => by
    obtain ⟨u, q1, q2⟩ := hr.2 B o ha j x c p hj hp
    exact ⟨u, q1, q2.mono hA.fz fun _ _ => rfl⟩⟩
  | rows0 e1 =>
   simp only [BRep]
   rw [bindι_new e1]
   exact ⟨row_empty, fun B o hn => by cases hn⟩
 ·obtain ⟨_, k1, g1⟩ := at_ hi
  obtain ⟨_, k2, g2⟩ := at_ hj
  obtain ⟨id, c, p1, p2, p3, p4⟩ := src_of k1 g1 hs ha ho
  obtain ⟨id', c', q1, q2, q3, q4⟩ := src_of k2 g2 hs ha' ho'
  refine hH.apart id id' c c' A A' (fun e => ?_) p2 q2 p3 q3 p4 q4
  subst e
  exact hij (hf.one p1 q1)
 ·obtain ⟨_, k1, g1⟩ := at_ hi
  obtain ⟨id, c, p1, p2, p3, p4⟩ := src_of k1 g1 hs ha ho
  rcases hF with hF | ⟨id2, hl, A2, hA2, e⟩
  ·exact hH.free id c A p2 p3 p4 hF
  ·obtain ⟨c2, q1, q2⟩ := hlent id2 hl
   exact hH.apart id id2 c c2 A A2 (fun e => by subst e; exact hf.apart p1 hl) p2 q1 p3 q2 p4 hA2 e
 ·obtain ⟨_, k1, g1⟩ := at_ hi
  cases g1 with
  | same hsm =>
   obtain ⟨q1, c, q2, _, q3⟩ := hs i k1 hsm
   rw [bindι_old q1] at ha
   exact .inl (hH.held i c A q2 (by rw [q3]; exact ho) ha)
  | gone => cases ho
  | box => cases ho
  | mp => cases ho
  | mpr => cases ho
  | ints => cases ho
  | ints0 => cases ho
  | rows => cases ho
  | rows0 => cases ho
 ·rcases hB with hB | ⟨id, hl, A, hA', rfl⟩
  ·exact hH.fz B hB
  ·obtain ⟨c, q1, q2⟩ := hlent id hl
   exact (hH.rep id c q1).lt (owned_ne_gone q2) hA'
end
end Go.Proofs.YtgffdmgidnnedaaGreat.V
