/- From a state to the state that a cut of it builds up. -/
import Derived.Test.YtgffdmgidnnedaaGreatCut
namespace Go.Proofs.YtgffdmgidnnedaaGreat.V
open Go
set_option linter.unusedVariables false
set_option linter.unusedSimpArgs false
section
variable {G : Prg} {w w0 : World} {Fz Fz0 Fz' : Nat → Prop} {ι ι0 ι' : Nat → Loc} {H H' P base : List (Blk G.E.T)} {ρ : Nat → Nat × Nat} {X : Ctx}
/-- the same blocks, but for their protection -/
structure Sim (P base : List (Blk G.E.T)) : Prop where
 len : P.length = base.length
 at_ : ∀ j b, getL P j = some b → getL base j = some b ∨ getL base j = some (protB b)
theorem protB_info (b : Blk G.E.T) : (protB b).info G.E = b.info G.E := by
 cases b with
 | gone => rfl
 | box m c => cases m <;> rfl
 | mp m k => cases m <;> rfl
 | mpr m k i xs => cases m <;> rfl
 | ints m k ep xs => cases m <;> rfl
 | rows m k ep xs => cases m <;> rfl
theorem protB_owned (b : Blk G.E.T) : (protB b).owned = b.owned := by
 cases b with
 | gone => rfl
 | box m c => cases m <;> rfl
 | mp m k => cases m <;> rfl
 | mpr m k i xs => cases m <;> rfl
 | ints m k ep xs => cases m <;> rfl
 | rows m k ep xs => cases m <;> rfl
theorem protB_frozen (b : Blk G.E.T) : (protB b).frozen = b.frozen := by
 cases b with
 | gone => rfl
 | box m c => cases m <;> rfl
 | mp m k => cases m <;> rfl
 | mpr m k i xs => cases m <;> rfl
 | ints m k ep xs => cases m <;> rfl
 | rows m k ep xs => cases m <;> rfl
theorem protB_id {b : Blk G.E.T} (h : b.prot = true ∨ b.frozen = true) : protB b = b := by
 cases b with
 | gone => rfl
 | box m c => cases m <;> first | rfl | (rcases h with h | h <;> cases h)
 | mp m k => cases m <;> first | rfl | (rcases h with h | h <;> cases h)
 | mpr m k i xs => cases m <;> first | rfl | (rcases h with h | h <;> cases h)
 | ints m k ep xs => cases m <;> first | rfl | (rcases h with h | h <;> cases h)
 | rows m k ep xs => cases m <;> first | rfl | (rcases h with h | h <;> cases h)
theorem protB_gone {b : Blk G.E.T} (h : protB b = .gone) : b = .gone := by
 cases b with
 | gone => rfl
 | box m c => cases m <;> cases h
 | mp m k => cases m <;> cases h
 | mpr m k i xs => cases m <;> cases h
 | ints m k ep xs => cases m <;> cases h
 | rows m k ep xs => cases m <;> cases h
theorem Sim.get (h : Sim (G := G) P base) {j : Nat} {b : Blk G.E.T} (hb : getL base j = some b) : ∃ p, getL P j = some p ∧ (b = p ∨ b = protB p) := by
 have hlt := getL_lt hb
 rw [← h.len] at hlt
 have : getL P j = some P[j] := by rw [getL_eq, List.getElem?_eq_getElem hlt]
 refine ⟨_, this, ?_⟩
 rcases h.at_ j _ this with e | e <;> rw [hb] at e <;> cases e
 ·exact .inl rfl
 ·exact .inr rfl
theorem Sim.refl : Sim (G := G) P P := ⟨rfl, fun _ _ h => .inl h⟩
theorem Sim.un (h : Sim (G := G) P base) {B : Nat} (hu : Un w Fz ι P B) : Un w Fz ι base B :=
 ⟨hu.1, hu.2.1, fun j b A hb hg hA => by
  obtain ⟨p, h1, h2⟩ := h.get hb
  refine hu.2.2 j p A h1 (fun e => hg ?_) hA
  subst e
  rcases h2 with rfl | rfl <;> rfl⟩
theorem keepN_eq : ∀ {bs : List BSh} {j : Nat} {b : BSh}, getL bs j = some b → keepN j bs = keepB b
 | [], _, _, h => by simp [getL] at h
 | c :: l, 0, b, h => by simp only [getL, Option.some.injEq] at h; subst h; rfl
 | c :: l, j + 1, b, h => by simp only [getL] at h; simp only [keepN]; exact keepN_eq h
theorem ρcut_fst {bs : List BSh} {j : Nat} : (ρcut P bs j).1 = j := by
 unfold ρcut; split <;> first | (split <;> rfl) | rfl
theorem ρcut_old {bs : List BSh} {j : Nat} {b : BSh} (hj : j < P.length) (hb : getL bs j = some b) : (ρcut P bs j).2 = if keepB b = true then epOf P j else epOf P j + 1 := by
 have : Nat.blt j P.length = true := by simp [Nat.blt]; omega
 simp only [ρcut, this, keepN_eq hb]
 cases keepB b <;> simp
theorem epOf_info {j : Nat} {b : Blk G.E.T} (h : getL P j = some b) {ep len sz : Nat} (hi : b.info G.E = some (ep, len, sz)) : epOf P j = ep := by
 unfold epOf
 rw [h]
 cases b <;> simp_all [Blk.info]
theorem atB_eq {j : Nat} {b : Blk G.E.T} (h : getL P j = some b) : atB P j = b := by simp [atB, h]
theorem sameB_cases {j : Nat} (h : sameB H base j = true) : ∃ b c, getL H j = some b ∧ getL base j = some c ∧ ((c.prot = true ∨ c.frozen = true) ∨ (b = .gone ∧ c = .gone)) := by
 unfold sameB at h
 split at h <;> first
  | (rename_i h1 h2; exact ⟨_, _, h1, h2, .inl (.inl rfl)⟩)
  | (rename_i h1 h2; exact ⟨_, _, h1, h2, .inl (.inr rfl)⟩)
  | (rename_i h1 h2; exact ⟨_, _, h1, h2, .inr ⟨rfl, rfl⟩⟩)
  | cases h
theorem lentOwn_at : ∀ {l : List Nat} {id : Nat}, lentOwn H l = true → id ∈ l → ∃ b, getL H id = some b ∧ b.owned = true ∧ b.prot = false
 | [], _, _, h => by simp at h
 | i :: l, id, hl, h => by
  simp only [lentOwn] at hl
  split at hl
  ·rename_i hb
   rcases List.mem_cons.1 h with rfl | h
   ·exact ⟨_, hb, rfl, rfl⟩
   ·exact lentOwn_at hl h
  ·rename_i hb
   rcases List.mem_cons.1 h with rfl | h
   ·exact ⟨_, hb, rfl, rfl⟩
   ·exact lentOwn_at hl h
  ·cases hl
theorem cast_cut (hS : Step G.E X w0 w Fz0 Fz ι0 ι base H) (hP : HRep G.E w0 Fz0 ι0 P) (hsim : Sim P base) {ss : List TSh} {vs : List (PV G.E.T)} {bs : List BSh} {l : List (LV G.E.T)} {cs : CS}
  (h : castAll ss vs bs base H = some (l, cs)) :
  Step G.E X w0 w Fz0 (lentFz Fz ι cs.lent) ι0 (bindι ι cs) P (rebBs (ρcut P bs) 0 bs P (rebTs (ρcut P bs) ss l).2) ∧
   Trs G w Fz (lentFz Fz ι cs.lent) ι (bindι ι cs) H (rebBs (ρcut P bs) 0 bs P (rebTs (ρcut P bs) ss l).2) vs (rebTs (ρcut P bs) ss l).1 ∧
   ∀ B, Un w Fz ι H B → Un w (lentFz Fz ι cs.lent) (bindι ι cs) (rebBs (ρcut P bs) 0 bs P (rebTs (ρcut P bs) ss l).2) B := by
 have hH := hS.heap
 obtain ⟨hf, hall⟩ := castAll_tr (ρ := ρcut P bs) (Fz' := lentFz Fz ι cs.lent) (ι' := bindι ι cs) (H' := rebBs (ρcut P bs) 0 bs P (rebTs (ρcut P bs) ss l).2) hH h
 obtain ⟨hv, hb⟩ := hall P
 generalize hH' : rebBs (ρcut P bs) 0 bs P (rebTs (ρcut P bs) ss l).2 = H' at *
 have hlen : H'.length = bs.length := by rw [← hH', rebBs_length]
 have hlent := castAll_lent h
 -- the blocks that stand as they stood
 have hsame : ∀ j, sameB H base j = true → getL H j = getL base j ∧ ∃ p c, getL P j = some p ∧ getL base j = some c ∧ (c = p ∨ c = protB p) ∧ ((c.prot = true ∨ c.frozen = true) ∨ c = .gone) ∧ j < base.length := by
  intro j hj
  obtain ⟨b, c, h1, h2, h3⟩ := sameB_cases hj
  obtain ⟨p, h4, h5⟩ := hsim.get h2
  refine ⟨?_, p, c, h4, h2, h5, ?_, getL_lt h2⟩
  ·rcases h3 with h3 | ⟨h3, h3'⟩
   ·rw [(hS.still j c h2 h3).1, h2]
   ·rw [h1, h2, h3, h3']
  ·rcases h3 with h3 | ⟨h3, h3'⟩
   ·exact .inl h3
   ·exact .inr h3'
 have hstay : ∀ j sh, j < base.length → getL bs j = some sh → sh ≠ .gone → lookB j cs.bind = some (some j) := fun j sh h1 h2 h3 => hf.stay h1 h2 h3
 have hbs : ∀ j, j < base.length → ∃ sh, getL bs j = some sh := fun j hj => by
  have : j < bs.length := Nat.lt_of_lt_of_le hj hf.le
  exact ⟨bs[j], by rw [getL_eq, List.getElem?_eq_getElem this]⟩
 have hbind : ∀ j sh, j < base.length → getL bs j = some sh → bindι ι cs j = ι j := by
  intro j sh hj hsh
  by_cases hg : sh = .gone
  ·subst hg
   refine bindι_none ?_
   cases hq : lookB j cs.bind with
   | none => rfl
   | some x =>
    obtain ⟨sh', q1, q2⟩ := hf.told hq
    rw [hsh] at q1; cases q1
    exact absurd rfl q2
  ·exact bindι_old (hstay j sh hj hsh hg)
 have infoP : ∀ {j p c}, getL P j = some p → getL base j = some c → (c = p ∨ c = protB p) → c.info G.E = p.info G.E := by
  intro j p c _ _ h
  rcases h with rfl | rfl
  ·rfl
  ·exact protB_info _
 -- a block that is told as the same
 have hone : ∀ j, getL bs j = some .same → sameB H base j = true → lookB j cs.bind = some (some j) ∧ ∃ b p, getL H j = some b ∧ getL P j = some p ∧ atB P j = p ∧ b.info G.E = p.info G.E ∧ b.owned = p.owned ∧ b.frozen = p.frozen := by
  intro j h1 h2
  obtain ⟨q1, p, c, q2, q3, q4, q5, q6⟩ := hsame j h2
  refine ⟨hstay j _ q6 h1 (by simp), c, p, by rw [q1, q3], q2, atB_eq q2, infoP q2 q3 q4, ?_, ?_⟩
  ·rcases q4 with rfl | rfl
   ·rfl
   ·exact protB_owned _
  ·rcases q4 with rfl | rfl
   ·rfl
   ·exact protB_frozen _
 have hA : Agree G w Fz (lentFz Fz ι cs.lent) ι (bindι ι cs) H H' (ρcut P bs) cs := by
  refine agree_of (P := P) hf (fun j => ρcut_fst) hb fun j h1 h2 => ?_
  obtain ⟨q1, b, p, q2, q3, q4, q5, _⟩ := hone j h1 h2
  refine ⟨q1, b, q2, fun hi => by rw [q4, ← q5]; exact hi, fun ep len sz hi => ?_⟩
  have hi' := hi
  rw [q5] at hi'
  rw [q4, hi', ρcut_old (getL_lt q3) h1, epOf_info q3 hi']
  simp [keepB]
 -- what each of the base's blocks becomes
 have hstep : ∀ j p, getL P j = some p → ∃ blk, getL H' j = some blk ∧ StepB G.E ι0 (bindι ι cs) j p blk ∧ ((p.prot = true ∨ p.frozen = true) → blk = p ∧ bindι ι cs j = ι0 j ∧ ∀ A, (ι0 j).a = some A → w.heap[A.block]? = w0.heap[A.block]?) := by
  intro j p hp
  have hj : j < base.length := by rw [← hsim.len]; exact getL_lt hp
  obtain ⟨sh, hsh⟩ := hbs j hj
  obtain ⟨c, hc, hcp⟩ : ∃ c, getL base j = some c ∧ (c = p ∨ c = protB p) := by
   rcases hsim.at_ j p hp with e | e
   ·exact ⟨_, e, .inl rfl⟩
   ·exact ⟨_, e, .inr rfl⟩
  obtain ⟨bH, hbH, sB⟩ := hS.keep.le j c hc
  have hic := infoP hp hc hcp
  have hcpp : (p.prot = true ∨ p.frozen = true) → c = p := fun e => by
   rcases hcp with e' | e'
   ·exact e'
   ·rw [e', protB_id e]
  have hι := hbind j sh hj hsh
  obtain ⟨blk, g1, g2⟩ := hb j sh hsh
  have flatι : p.info G.E = none → (bindι ι cs j).a = (ι0 j).a := fun hi => by rw [hι]; exact (sB.flat (by rw [hic]; exact hi)).2
  have goneP : p = .gone → bH = .gone := fun e => by
   refine sB.gone ?_
   rcases hcp with e' | e' <;> rw [e', e]
   rfl
  refine ⟨blk, g1, ?_⟩
  cases g2 with
  | gone =>
   refine ⟨⟨fun hi => ⟨rfl, flatι hi⟩, fun _ _ _ _ => .inl rfl, fun _ => rfl⟩, fun e => ?_⟩
   have := hcpp e
   subst this
   obtain ⟨q1, q2⟩ := hf.gone hc hsh
   rcases e with e | e
   ·rw [q2] at e; cases e
   ·rw [q1] at e; cases e
  | same hsm =>
   obtain ⟨q1, p', c', q2, q3, q4, q5, q6⟩ := hsame j hsm
   rw [hp] at q2; cases q2
   rw [hc] at q3; cases q3
   rw [atB_eq hp]
   have hst : (c.prot = true ∨ c.frozen = true) → bindι ι cs j = ι0 j ∧ ∀ A, (ι0 j).a = some A → w.heap[A.block]? = w0.heap[A.block]? := fun e => by
    obtain ⟨r1, r2, r3⟩ := hS.still j c hc e
    exact ⟨by rw [hι, r2], r3⟩
   refine ⟨⟨fun hi => ⟨hi, flatι hi⟩, fun ep len sz hi => .inr ⟨ep, len, sz, hi, Nat.le_refl _, fun _ => ⟨rfl, rfl, ?_⟩⟩, fun e => e⟩, fun e => ?_⟩
   ·rcases q5 with q5 | q5
    ·exact (hst q5).1
    ·rw [q5] at hic
     rw [hi] at hic; cases hic
   ·have := hcpp e
    subst this
    exact ⟨rfl, hst e⟩
  | box e1 e2 e3 =>
   rename_i id cells vs' vs''
   have hid := hstay j _ hj hsh (by simp)
   rw [hid] at e1; cases e1
   rw [hbH] at e2; cases e2
   refine ⟨⟨fun hi => ⟨rfl, flatι hi⟩, fun _ _ _ _ => .inl rfl, fun e => by have := goneP e; cases this⟩, fun e => ?_⟩
   have := hcpp e
   subst this
   have := (hS.still j c hc e).1
   rw [hbH] at this; cases this
   rcases e with e | e <;> cases e
  | mp e1 e2 =>
   rename_i id k
   have hid := hstay j _ hj hsh (by simp)
   rw [hid] at e1; cases e1
   rw [hbH] at e2; cases e2
   refine ⟨⟨fun hi => ⟨rfl, flatι hi⟩, fun _ _ _ _ => .inl rfl, fun e => by have := goneP e; cases this⟩, fun e => ?_⟩
   have := hcpp e
   subst this
   have := (hS.still j c hc e).1
   rw [hbH] at this; cases this
   rcases e with e | e <;> cases e
  | mpr e1 e2 =>
   rename_i id k i xs
   have hid := hstay j _ hj hsh (by simp)
   rw [hid] at e1; cases e1
   rw [hbH] at e2; cases e2
   refine ⟨⟨fun hi => ⟨rfl, flatι hi⟩, fun _ _ _ _ => .inl rfl, fun e => by have := goneP e; cases this⟩, fun e => ?_⟩
   have := hcpp e
   subst this
   have := (hS.still j c hc e).1
   rw [hbH] at this; cases this
   rcases e with e | e <;> cases e
  | ints e1 e2 e3 =>
   rename_i id k keep ep xs
   have hid := hstay j _ hj hsh (by simp)
   rw [hid] at e1; cases e1
   rw [hbH] at e2; cases e2
   refine ⟨⟨fun hi => ?_, fun ep0 len0 sz0 hi => ?_, fun e => by have := goneP e; cases this⟩, fun e => ?_⟩
   ·have := (sB.flat (by rw [hic]; exact hi)).1
    cases this
   ·rcases sB.row ep0 len0 sz0 (by rw [hic]; exact hi) with q | ⟨ep', len', sz', q1, q2, q3⟩
    ·cases q
    ·simp only [Blk.info, Option.some.injEq, Prod.mk.injEq] at q1
     obtain ⟨rfl, rfl, rfl⟩ := q1
     refine .inr ⟨_, xs.length, 1, rfl, ?_, fun e => ?_⟩
     ·rw [ρcut_old (getL_lt hp) hsh, epOf_info hp hi]; split <;> omega
     ·rw [ρcut_old (getL_lt hp) hsh, epOf_info hp hi] at e
      split at e
      ·rename_i hk
       have := (e3 hk).1
       rw [epOf_info hc (by rw [hic]; exact hi)] at this
       rw [hι]
       exact q3 this.symm
      ·omega
   ·have := hcpp e
    subst this
    have := (hS.still j c hc e).1
    rw [hbH] at this; cases this
    rcases e with e | e <;> cases e
  | ints0 e1 =>
   have hid := hstay j _ hj hsh (by simp)
   rw [hid] at e1; cases e1
  | rows e1 e2 e3 =>
   rename_i id k keep ep xs
   have hid := hstay j _ hj hsh (by simp)
   rw [hid] at e1; cases e1
   rw [hbH] at e2; cases e2
   refine ⟨⟨fun hi => ?_, fun ep0 len0 sz0 hi => ?_, fun e => by have := goneP e; cases this⟩, fun e => ?_⟩
   ·have := (sB.flat (by rw [hic]; exact hi)).1
    cases this
   ·rcases sB.row ep0 len0 sz0 (by rw [hic]; exact hi) with q | ⟨ep', len', sz', q1, q2, q3⟩
    ·cases q
    ·simp only [Blk.info, Option.some.injEq, Prod.mk.injEq] at q1
     obtain ⟨rfl, rfl, rfl⟩ := q1
     refine .inr ⟨_, xs.length, _, rfl, ?_, fun e => ?_⟩
     ·rw [ρcut_old (getL_lt hp) hsh, epOf_info hp hi]; split <;> omega
     ·rw [ρcut_old (getL_lt hp) hsh, epOf_info hp hi] at e
      split at e
      ·rename_i hk
       have := (e3 hk).1
       rw [epOf_info hc (by rw [hic]; exact hi)] at this
       rw [hι]
       exact q3 this.symm
      ·omega
   ·have := hcpp e
    subst this
    have := (hS.still j c hc e).1
    rw [hbH] at this; cases this
    rcases e with e | e <;> cases e
  | rows0 e1 =>
   have hid := hstay j _ hj hsh (by simp)
   rw [hid] at e1; cases e1
 have K : Keep G.E w0 w Fz0 (lentFz Fz ι cs.lent) ι0 (bindι ι cs) P H' :=
  ⟨fun B hB => .inl (hS.keep.fz B hB), hS.keep.heap, fun j p hp => by obtain ⟨blk, q1, q2, _⟩ := hstep j p hp; exact ⟨blk, q1, q2⟩⟩
 have hs2 : ∀ j, getL bs j = some .same → sameB H base j = true → lookB j cs.bind = some (some j) ∧ ∃ b, getL H j = some b ∧ b.owned = (atB P j).owned ∧ b.frozen = (atB P j).frozen := by
  intro j h1 h2
  obtain ⟨q1, b, p, q2, q3, q4, q5, q6, q7⟩ := hone j h1 h2
  exact ⟨q1, b, q2, by rw [q4]; exact q6, by rw [q4]; exact q7⟩
 have hHR : HRep G.E w (lentFz Fz ι cs.lent) (bindι ι cs) H' := by
  refine cast_heap (P := P) hH hf hlent hA hlen hb hs2 fun j h1 h2 => ?_
  obtain ⟨q1, p, c, q2, q3, q4, q5, q6⟩ := hsame j h1
  rw [atB_eq q2]
  rcases q5 with q5 | q5
  ·obtain ⟨r1, r2, r3⟩ := hS.still j c q3 q5
   exact (hP.rep j p q2).keep K (by rw [hbind j _ q6 h2, r2]) r3
  ·subst q5
   have : p = .gone := by
    rcases q4 with e | e
    ·exact e.symm
    ·exact protB_gone e.symm
   subst this
   trivial
 have hun : ∀ B, Un w Fz ι H B → Un w (lentFz Fz ι cs.lent) (bindι ι cs) H' B := by
  rintro B ⟨u1, u2, u3⟩
  refine ⟨u1, ?_, fun j blk A hj hg ha => ?_⟩
  ·rintro (hB | ⟨id, hl, A, hA', rfl⟩)
   ·exact u2 hB
   ·obtain ⟨c, q1, q2⟩ := hlent id hl
    exact u3 id c A q1 (owned_ne_gone q2) hA' rfl
  ·have hlt : j < bs.length := by rw [← hlen]; exact getL_lt hj
   have hsh : getL bs j = some bs[j] := by rw [getL_eq, List.getElem?_eq_getElem hlt]
   obtain ⟨blk', g1, g2⟩ := hb j _ hsh
   rw [hj] at g1; cases g1
   obtain ⟨id, c, p2, p3, p4⟩ := src_un hsh g2 hs2 ha hg
   exact u3 id c A p2 p3 p4
 refine ⟨⟨K, fun j p hp he => ?_, hHR, ⟨hS.fram.os, hS.fram.tape, hS.fram.output, hS.fram.size, hS.fram.block, fun j blk A hj ho ha => ?_, fun B hB => ?_⟩,
  fun B hB => ⟨(hS.un B (hsim.un hB)).1, hun B (hS.un B (hsim.un hB)).2⟩⟩, hv hA, hun⟩
 ·obtain ⟨blk, q1, q2, q3⟩ := hstep j p hp
  obtain ⟨rfl, r2, r3⟩ := q3 he
  exact ⟨q1, r2, r3⟩
 ·have hlt : j < bs.length := by rw [← hlen]; exact getL_lt hj
  have hsh : getL bs j = some bs[j] := by rw [getL_eq, List.getElem?_eq_getElem hlt]
  obtain ⟨blk', g1, g2⟩ := hb j _ hsh
  rw [hj] at g1; cases g1
  obtain ⟨id, c, p1, p2, p3, p4⟩ := src_of hsh g2 hs2 ha ho
  exact hS.fram.own id c A p2 p3 p4
 ·rcases hB with hB | ⟨id, hl, A, hA', rfl⟩
  ·exact hS.fram.fz B hB
  ·obtain ⟨c, q1, q2⟩ := hlent id hl
   exact .inr (hS.fram.own id c A q1 q2 hA')
end
end Go.Proofs.YtgffdmgidnnedaaGreat.V
