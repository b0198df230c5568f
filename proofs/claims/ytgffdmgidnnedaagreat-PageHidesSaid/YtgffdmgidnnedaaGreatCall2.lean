/- What a call leaves with the caller. -/
import Derived.Test.YtgffdmgidnnedaaGreatCall
namespace Go.Proofs.YtgffdmgidnnedaaGreat.V
open Go
set_option linter.unusedVariables false
set_option linter.unusedSimpArgs false
section
variable {G : Prg} {w w' : World} {Fz Fz1 : Nat → Prop} {ι ι1 : Nat → Loc} {H heap' H0 : List (Blk G.E.T)} {R : Type} {r : R} {X : Ctx}
open Classical in
noncomputable def outι (pls : List (Nat × Nat)) (ι1 ι : Nat → Loc) : Nat → Loc := fun id => if h : ∃ k, ∃ p, getL pls k = some p ∧ p.1 = id then ι1 h.choose else ι id
theorem outι_at {pls : List (Nat × Nat)} (hu : ∀ k1 k2 p1 p2, k1 ≠ k2 → getL pls k1 = some p1 → getL pls k2 = some p2 → p1.1 ≠ p2.1) {k : Nat} {p : Nat × Nat} (hk : getL pls k = some p) : outι pls ι1 ι p.1 = ι1 k := by
 have h : ∃ k, ∃ q, getL pls k = some q ∧ q.1 = p.1 := ⟨k, p, hk, rfl⟩
 unfold outι
 rw [dif_pos h]
 obtain ⟨q, h1, h2⟩ := h.choose_spec
 by_cases e : h.choose = k
 ·rw [e]
 ·exact absurd h2 (hu _ _ _ _ e h1 hk)
theorem outι_ne {pls : List (Nat × Nat)} {id : Nat} (h : ∀ k p, getL pls k = some p → p.1 ≠ id) : outι pls ι1 ι id = ι id := by
 unfold outι
 rw [dif_neg]
 rintro ⟨k, p, h1, h2⟩
 exact h k p h1 h2
theorem ρof_eq {pls : List (Nat × Nat)} {k : Nat} {p : Nat × Nat} (h : getL pls k = some p) : ρof pls k = p := by simp [ρof, h]
theorem RTr.info {TR : List (PV G.E.T) → List (PV G.E.T) → Prop} {Z : Prop} {e e' : Nat} {b b' : Blk G.E.T} (h : RTr G TR Z e e' b b') :
  (b.info G.E = none → b'.info G.E = none) ∧ ∀ ep len sz, b.info G.E = some (ep, len, sz) → ep = e ∧ b'.info G.E = some (e', len, sz) := by
 cases h with
 | gone => exact ⟨fun _ => rfl, fun _ _ _ h => by cases h⟩
 | box => exact ⟨fun _ => rfl, fun _ _ _ h => by cases h⟩
 | mp => exact ⟨fun _ => rfl, fun _ _ _ h => by cases h⟩
 | mpr => exact ⟨fun _ => rfl, fun _ _ _ h => by cases h⟩
 | ints => exact ⟨fun h => (by cases h), fun ep len sz h => by simp only [Blk.info, Option.some.injEq, Prod.mk.injEq] at h ⊢; exact ⟨h.1.symm, trivial, h.2⟩⟩
 | rows => exact ⟨fun h => (by cases h), fun ep len sz h => by simp only [Blk.info, Option.some.injEq, Prod.mk.injEq] at h ⊢; exact ⟨h.1.symm, trivial, h.2⟩⟩
theorem CellsRep.nohold {E : Env} {w : World} {Fz Fz' : Nat → Prop} : ∀ {ps : List (PV E.T)} {vs : List Value}, (∀ p ∈ ps, (∃ k n, p = .int k n) ∨ (∃ b, p = .bool b) ∨ (∃ s, p = .str s)) → CellsRep E w Fz ps vs → CellsRep E w Fz' ps vs
 | [], [], _, _ => trivial
 | p :: ps, _ :: _, hp, h => ⟨h.1, h.2.1.nohold (hp p (List.mem_cons_self ..)), h.2.2.nohold fun q hq => hp q (List.mem_cons_of_mem _ hq)⟩
theorem EntsRep.nohold {E : Env} {w : World} {Fz Fz' : Nat → Prop} (ok : EnvOk E) {k : KK} {i : Nat} (hz : E.flat i = true) : ∀ {xs : List (E.T i)} {es : List MapEntry}, EntsRep E w Fz k i xs es → EntsRep E w Fz' k i xs es
 | [], [], _ => trivial
 | x :: _, _ :: _, h => by
  obtain ⟨⟨kp, ps, vs, a, b, b', c, d⟩, h⟩ := h
  exact ⟨⟨kp, ps, vs, a, b.nohold (ok.flat i x kp hz (by rw [a]; exact List.mem_cons_self ..)), b', c, d.nohold fun p hp => ok.flat i x p hz (by rw [a]; exact List.mem_cons_of_mem _ hp)⟩, h.nohold ok hz⟩
theorem freeze_info {E : Env} {b : Blk E.T} : b.freeze.info E = b.info E := info_freeze b
theorem call_exit (ok : EnvOk G.E) {cs : CS} (hE : Enters G w Fz ι H cs H0) (hH : HRep G.E w Fz ι H) (hF : Fram G.E X w Fz ι H) {rb : List BSh} {rs : List TSh} {L : List (LV G.E.T)} {m : Nat}
  (hS : Step G.E (callX w Fz ι cs) w w' (lentFz Fz ι cs.lent) Fz1 (bindι ι cs) ι1 H0 (rebBs (ρcut H0 rb) 0 rb H0 (rebTs (ρcut H0 rb) rs L).2))
  (hm : m = H0.length) (hle : H0.length ≤ rb.length) (hns : noSame rb = true)
  {Fz2 : Nat → Prop} (c1 : ∀ B, Fz B → Fz2 B) (c2 : ∀ B, Fz2 B → Fz1 B) (hz : (∀ B, Fz1 B → Fz2 B) ∨ (TSh.holdsL rs = false ∧ BSh.holdsL G.E rb = false))
  (hlen : heap'.length = H.length)
  (hfr : ∀ id b, getL H id = some b → ∃ b', getL heap' id = some b' ∧ ((b' = b ∧ (b.owned = true → id ∈ cs.lent → ∀ A, (ι id).a = some A → ¬ Fz2 A.block)) ∨
   (b' = b.freeze ∧ b.owned = true ∧ b.prot = false ∧ b'.frozen = true ∧ ∀ A, (ι id).a = some A → Fz2 A.block)))
  (hown2 : ∀ id b A, getL H id = some b → b.owned = true → (ι id).a = some A → id ∉ cs.lent → (∀ j, lookB j cs.bind ≠ some (some id)) → ¬ Fz2 A.block) :
  ∃ ι2, Step G.E X w w' Fz Fz2 ι ι2 H (giveBack (places H cs m 0 H.length rb) (rebBs (ρof (places H cs m 0 H.length rb)) 0 rb [] (rebTs (ρof (places H cs m 0 H.length rb)) rs L).2) heap') ∧
   Trs G w' Fz1 Fz2 ι1 ι2 (rebBs (ρcut H0 rb) 0 rb H0 (rebTs (ρcut H0 rb) rs L).2)
    (giveBack (places H cs m 0 H.length rb) (rebBs (ρof (places H cs m 0 H.length rb)) 0 rb [] (rebTs (ρof (places H cs m 0 H.length rb)) rs L).2) heap')
    (rebTs (ρcut H0 rb) rs L).1 (rebTs (ρof (places H cs m 0 H.length rb)) rs L).1 := by
 subst hm
 have hbl : ∀ j a, lookB j cs.bind = some (some a) → a < H.length := fun j a h => by
  obtain ⟨b, _, hb, _⟩ := hE.old j a h
  exact getL_lt hb
 obtain ⟨H2, g1, g2, g3, g4, g5, g6⟩ := giveBack_spec (heap0 := H) (cs := cs) (m := H0.length) hE.one (fun {j a} h => hbl j a h) rb 0 (rebBs (ρof (places H cs H0.length 0 H.length rb)) 0 rb [] (rebTs (ρof (places H cs H0.length 0 H.length rb)) rs L).2) heap' (rebBs_length ..) (by omega)
 rw [hlen] at g1 g2 g3 g4 g5 g6
 simp only [Nat.zero_add] at g3 g5
 rw [← g1]
 have hr : (rebTs (ρcut H0 rb) rs L).2 = (rebTs (ρof (places H cs H0.length 0 H.length rb)) rs L).2 := rebTs_rest _ _
 have hpl : (places H cs H0.length 0 H.length rb).length = rb.length := places_length ..
 generalize hP : places H cs H0.length 0 H.length rb = pls at *
 -- the two heaps that the callee's blocks lie in
 have hrb := fun k (hk : k < rb.length) => rebBs_ren (w := w') (Fz := Fz1) (Fz' := Fz2) (ι := ι1) (ι' := outι pls ι1 ι) (H := rebBs (ρcut H0 rb) 0 rb H0 (rebTs (ρcut H0 rb) rs L).2) (H' := H2) (ρ := ρcut H0 rb) (ρ' := ρof pls)
  rb 0 H0 [] (rebTs (ρcut H0 rb) rs L).2 hns (hz.imp id (·.2)) k hk
 simp only [Nat.zero_add] at hrb
 rw [← hr] at g3
 generalize hH1 : rebBs (ρcut H0 rb) 0 rb H0 (rebTs (ρcut H0 rb) rs L).2 = H1 at *
 have hlen1 : H1.length = rb.length := by rw [← hH1, rebBs_length]
 -- a block that came back
 have hback : ∀ k b1, getL H1 k = some b1 → ∃ b2 p, getL pls k = some p ∧ getL H2 p.1 = some b2 ∧
   RTr G (fun vs vs' => Agree2 G ι1 (outι pls ι1 ι) H1 H2 (ρcut H0 rb) (ρof pls) → Trs G w' Fz1 Fz2 ι1 (outι pls ι1 ι) H1 H2 vs vs') (∀ B, Fz1 B → Fz2 B) (ρcut H0 rb k).2 p.2 b1 b2 ∧ outι pls ι1 ι p.1 = ι1 k ∧
   ((∃ a sh, lookB k cs.bind = some (some a) ∧ getL rb k = some sh ∧ p = (a, if keepB sh = true then epOf H a else epOf H a + 1)) ∨
     ((¬ ∃ a, lookB k cs.bind = some (some a)) ∧ H.length ≤ p.1)) := by
  intro k b1 hk
  obtain ⟨b, b', q1, q2, q3⟩ := hrb k (by rw [← hlen1]; exact getL_lt hk)
  rw [hk] at q1; cases q1
  obtain ⟨p, r1, r2, r3⟩ := g3 k b' q2
  rw [ρof_eq r1] at q3
  refine ⟨b', p, r1, r2, q3, outι_at g4 r1, ?_⟩
  rcases r3 with ⟨a, sh, s1, s2, s3, s4⟩ | ⟨s1, s2, s3⟩
  ·exact .inl ⟨a, sh, s2, s3, s4⟩
  ·exact .inr ⟨fun ⟨a, ha⟩ => s1 ⟨hE.lt ha, a, ha⟩, s2⟩
 have hA2 : Agree2 G ι1 (outι pls ι1 ι) H1 H2 (ρcut H0 rb) (ρof pls) := by
  refine ⟨fun j b hb => ?_⟩
  rw [ρcut_fst] at hb
  obtain ⟨b2, p, q1, q2, q3, q4, _⟩ := hback j b hb
  rw [ρof_eq q1, ρcut_fst]
  exact ⟨b2, q2, q4, q3.info.1, q3.info.2⟩
 -- a block that was not handed over
 have hplne : ∀ id, id < H.length → (∀ j, lookB j cs.bind ≠ some (some id)) → ∀ k p, getL pls k = some p → p.1 ≠ id := by
  intro id hid hno k p hk e
  obtain ⟨b1, hb1⟩ := getL_some_of_lt (l := H1) (i := k) (by rw [hlen1, ← hpl]; exact getL_lt hk)
  obtain ⟨b2, p', q1, q2, q3, q4, q5⟩ := hback k b1 hb1
  rw [hk] at q1; cases q1
  rcases q5 with ⟨a, sh, s1, s2, s3⟩ | ⟨s1, s2⟩
  ·rw [s3] at e
   simp only at e
   subst e
   exact hno k s1
  ·omega
 have hoth : ∀ id b, getL H id = some b → (∀ j, lookB j cs.bind ≠ some (some id)) → getL H2 id = getL heap' id ∧ outι pls ι1 ι id = ι id := by
  intro id b hb hno
  exact ⟨g5 id (getL_lt hb) fun k _ _ => hno k, outι_ne (hplne id (getL_lt hb) hno)⟩
 have hmem : ∀ id b A, getL H id = some b → b ≠ .gone → (∀ j, lookB j cs.bind ≠ some (some id)) → (ι id).a = some A → w'.heap[A.block]? = w.heap[A.block]? := by
  intro id b A hb hg hno hA
  refine hS.fram.block A.block ((hH.rep id b hb).lt hg hA) ?_
  rintro ⟨j, id2, A2, h1, h2, h3⟩
  obtain ⟨b2, _, h4, h5, h6, _⟩ := hE.old j id2 h1
  by_cases ho : b.owned = true
  ·exact hH.apart id id2 b b2 A A2 (fun e => by subst e; exact hno j h1) hb h4 ho h5 hA h2 h3
  ·exact hH.free id2 b2 A2 h4 h5 h2 (h3 ▸ hH.held id b A hb (frozen_of_not_owned (by simpa using ho) hg) hA)
 have hsize : w.heap.size ≤ w'.heap.size := hS.fram.size
 -- where a block of the new heap comes from
 have hsrc : ∀ id b2, getL H2 id = some b2 → (∃ k b1 p, getL H1 k = some b1 ∧ getL pls k = some p ∧ p.1 = id ∧ getL H2 p.1 = some b2) ∨ (∃ b, getL H id = some b ∧ (∀ j, lookB j cs.bind ≠ some (some id)) ∧ getL heap' id = some b2) := by
  intro id b2 hb2
  by_cases hlt : id < H.length
  ·by_cases hbnd : ∃ j, lookB j cs.bind = some (some id)
   ·obtain ⟨j, hj⟩ := hbnd
    have hjlt : j < rb.length := Nat.lt_of_lt_of_le (hE.lt hj) hle
    obtain ⟨b1, hb1⟩ := getL_some_of_lt (l := H1) (i := j) (by rw [hlen1]; exact hjlt)
    obtain ⟨b2', p, q1, q2, q3, q4, q5⟩ := hback j b1 hb1
    have hp : p.1 = id := by
     rcases q5 with ⟨a, sh, s1, s2, s3⟩ | ⟨s1, s2⟩
     ·rw [hj] at s1; cases s1; rw [s3]
     ·exact absurd ⟨id, hj⟩ s1
    exact .inl ⟨j, b1, p, hb1, q1, hp, by rw [hp]; exact hb2⟩
   ·have hno : ∀ j, lookB j cs.bind ≠ some (some id) := fun j hj => hbnd ⟨j, hj⟩
    obtain ⟨b, hb⟩ := getL_some_of_lt hlt
    exact .inr ⟨b, hb, hno, by rw [← (hoth id b hb hno).1]; exact hb2⟩
  ·obtain ⟨k, p, q1, q2⟩ := g6 id (getL_lt hb2) (by omega)
   obtain ⟨b1, hb1⟩ := getL_some_of_lt (l := H1) (i := k) (by rw [hlen1, ← hpl]; exact getL_lt q1)
   exact .inl ⟨k, b1, p, hb1, q1, q2, by rw [q2]; exact hb2⟩
 -- each old block
 have hHLe : HLe G.E ι H (outι pls ι1 ι) H2 := by
  intro id b hb
  by_cases hbnd : ∃ j, lookB j cs.bind = some (some id)
  ·obtain ⟨j, hj⟩ := hbnd
   obtain ⟨b', b0, h1, h2, h3, h4, h5, h6⟩ := hE.old j id hj
   rw [hb] at h1; cases h1
   obtain ⟨b1, hb1, sB⟩ := hS.keep.le j b0 h4
   obtain ⟨b2, p, q1, q2, q3, q4, q5⟩ := hback j b1 hb1
   obtain ⟨sh, hsh, hp⟩ : ∃ sh, getL rb j = some sh ∧ p = (id, if keepB sh = true then epOf H id else epOf H id + 1) := by
    rcases q5 with ⟨a, sh, s1, s2, s3⟩ | ⟨s1, s2⟩
    ·rw [hj] at s1; cases s1; exact ⟨sh, s2, s3⟩
    ·exact absurd ⟨id, hj⟩ s1
   have hp1 : p.1 = id := by rw [hp]
   rw [hp1] at q2 q4
   refine ⟨b2, q2, fun hi => ?_, fun ep len sz hi => ?_, fun e => absurd e (owned_ne_gone h2)⟩
   ·obtain ⟨e1, e2⟩ := sB.flat (h5 hi)
    exact ⟨q3.info.1 e1, by rw [q4, e2, bindι_old hj]⟩
   ·have hi0 := h6 ep len sz hi
    rcases sB.row 0 len sz hi0 with e | ⟨ep1, len1, sz1, e1, e2, e3⟩
    ·exact .inl (q3.info.1 e)
    ·obtain ⟨f1, f2⟩ := q3.info.2 ep1 len1 sz1 e1
     refine .inr ⟨p.2, len1, sz1, f2, ?_, fun e => ?_⟩
     ·rw [hp, epOf_info hb hi]; simp only; split <;> omega
     ·have hk : keepB sh = true := by
       rw [hp, epOf_info hb hi] at e
       simp only at e
       split at e
       ·assumption
       ·omega
      rw [ρcut_old (getL_lt h4) hsh, if_pos hk, epOf_info h4 hi0] at f1
      obtain ⟨r1, r2, r3⟩ := e3 f1.symm
      exact ⟨r1, r2, by rw [q4, r3, bindι_old hj]⟩
  ·have hno : ∀ j, lookB j cs.bind ≠ some (some id) := fun j hj => hbnd ⟨j, hj⟩
   obtain ⟨e1, e2⟩ := hoth id b hb hno
   obtain ⟨b', r1, r2⟩ := hfr id b hb
   refine ⟨b', by rw [e1]; exact r1, ?_⟩
   have hi : b'.info G.E = b.info G.E := by
    rcases r2 with ⟨rfl, _⟩ | ⟨rfl, _⟩
    ·rfl
    ·exact freeze_info
   refine ⟨fun h => ⟨by rw [hi]; exact h, by rw [e2]⟩, fun ep len sz h => .inr ⟨ep, len, sz, by rw [hi]; exact h, Nat.le_refl _, fun _ => ⟨rfl, rfl, e2⟩⟩, fun e => ?_⟩
   subst e
   rcases r2 with ⟨e, _⟩ | ⟨e, _⟩ <;> exact e
 have K : Keep G.E w w' Fz Fz2 ι (outι pls ι1 ι) H H2 := ⟨c1, fun B hB => hS.keep.heap B (.inl hB), hHLe⟩
 -- where an owned block's memory lies
 have hownsrc : ∀ id b2 A, getL H2 id = some b2 → b2.owned = true → (outι pls ι1 ι id).a = some A →
   (∃ k b1 p, getL H1 k = some b1 ∧ b1.owned = true ∧ getL pls k = some p ∧ p.1 = id ∧ (ι1 k).a = some A) ∨
   (∃ b, getL H id = some b ∧ b.owned = true ∧ (ι id).a = some A ∧ (∀ j, lookB j cs.bind ≠ some (some id)) ∧ getL heap' id = some b2 ∧ b2 = b) := by
  intro id b2 A hb2 ho hA
  rcases hsrc id b2 hb2 with ⟨k, b1, p, q1, q2, q3, q4⟩ | ⟨b, q1, q2, q3⟩
  ·obtain ⟨b2', p', r1, r2, r3, r4, _⟩ := hback k b1 q1
   rw [q2] at r1; cases r1
   rw [q4] at r2; cases r2
   refine .inl ⟨k, b1, p, q1, ?_, q2, q3, by rw [← r4, q3]; exact hA⟩
   cases r3 with
   | gone => cases ho
   | box => rfl
   | mp => rfl
   | mpr => rfl
   | ints => rfl
   | rows => rfl
  ·obtain ⟨e1, e2⟩ := hoth id b q1 q2
   rw [e2] at hA
   obtain ⟨b', r1, r2⟩ := hfr id b q1
   rw [q3] at r1; cases r1
   rcases r2 with ⟨rfl, _⟩ | ⟨rfl, _, _, r3, _⟩
   ·exact .inr ⟨b2, q1, ho, hA, q2, q3, rfl⟩
   ·rw [owned_not_frozen ho] at r3; cases r3
 have hO : ∀ k b1 A, getL H1 k = some b1 → b1.owned = true → (ι1 k).a = some A → (∃ j id A2, lookB j cs.bind = some (some id) ∧ (ι id).a = some A2 ∧ A.block = A2.block) ∨ w.heap.size ≤ A.block :=
  fun k b1 A h1 h2 h3 => hS.fram.own k b1 A h1 h2 h3
 have hun : ∀ B, Un w Fz ι H B → w'.heap[B]? = w.heap[B]? ∧ Un w' Fz2 (outι pls ι1 ι) H2 B := by
  rintro B ⟨u1, u2, u3⟩
  have uO : ∀ {j id : Nat} {A : Addr}, lookB j cs.bind = some (some id) → (ι id).a = some A → A.block ≠ B := fun {j id A} h1 h2 => by
   obtain ⟨b, _, h3, h4, _⟩ := hE.old j id h1
   exact u3 id b A h3 (owned_ne_gone h4) h2
  refine ⟨hS.fram.block B u1 fun ⟨j, id, A, h1, h2, h3⟩ => uO h1 h2 h3.symm, Nat.lt_of_lt_of_le u1 hsize, fun hB => ?_, fun id b2 A hb2 hg hA e => ?_⟩
  ·rcases hS.fram.fz B (c2 B hB) with h | ⟨j, id, A, h1, h2, h3⟩ | h
   ·rcases h with h | ⟨id, hl, A, hA, rfl⟩
    ·exact u2 h
    ·obtain ⟨b, h3, h4⟩ := hE.lent id hl
     exact u3 id b A h3 (owned_ne_gone h4) hA rfl
   ·exact uO h1 h2 h3.symm
   ·have h' : w.heap.size ≤ B := h
    omega
  ·rcases hsrc id b2 hb2 with ⟨k, b1, p, q1, q2, q3, q4⟩ | ⟨b, q1, q2, q3⟩
   ·obtain ⟨b2', p', r1, r2, r3, r4, _⟩ := hback k b1 q1
    rw [q2] at r1; cases r1
    rw [q4] at r2; cases r2
    have hbo : b1.owned = true := by
     cases r3 with
     | gone => exact absurd rfl hg
     | box => rfl
     | mp => rfl
     | mpr => rfl
     | ints => rfl
     | rows => rfl
    rcases hO k b1 A q1 hbo (by rw [← r4, q3]; exact hA) with ⟨j, id2, A2, s1, s2, s3⟩ | s
    ·exact uO s1 s2 (by rw [← s3]; exact e)
    ·omega
   ·obtain ⟨e1, e2⟩ := hoth id b q1 q2
    rw [e2] at hA
    obtain ⟨b', r1, r2⟩ := hfr id b q1
    rw [q3] at r1; cases r1
    refine u3 id b A q1 (fun eg => ?_) hA e
    subst eg
    rcases r2 with ⟨rfl, _⟩ | ⟨rfl, r3, _⟩
    ·exact hg rfl
    ·cases r3
 refine ⟨outι pls ι1 ι, ⟨K, fun id b hb hp => ?_, ⟨fun id b2 hb2 => ?_, fun i j b c A A' hij hi hj hbo hco hA hA' => ?_, fun id b2 A hb2 ho hA hFz => ?_, fun id b2 A hb2 hf hA => ?_, fun B hB => hS.heap.fz B (c2 B hB)⟩, ⟨?_, ?_, ?_, ?_, fun B hB hOB => ?_, fun id b2 A hb2 ho hA => ?_, fun B hB => ?_⟩, hun⟩, ?_⟩
 ·-- still
  have hno : ∀ j, lookB j cs.bind ≠ some (some id) := by
   intro j hj
   obtain ⟨b', b0, h1, h2, h3, _⟩ := hE.old j id hj
   rw [hb] at h1; cases h1
   rcases hp with hp | hp
   ·rw [h3] at hp; cases hp
   ·rw [owned_not_frozen h2] at hp; cases hp
  have hg : b ≠ .gone := by rintro rfl; rcases hp with hp | hp <;> cases hp
  obtain ⟨e1, e2⟩ := hoth id b hb hno
  obtain ⟨b', r1, r2⟩ := hfr id b hb
  refine ⟨?_, e2, fun A hA => hmem id b A hb hg hno hA⟩
  rw [e1, r1]
  rcases r2 with ⟨rfl, _⟩ | ⟨rfl, r3, r4, _⟩
  ·rfl
  ·rcases hp with hp | hp
   ·rw [r4] at hp; cases hp
   ·rw [owned_not_frozen r3] at hp; cases hp
 ·-- rep
  rcases hsrc id b2 hb2 with ⟨k, b1, p, q1, q2, q3, q4⟩ | ⟨b, q1, q2, q3⟩
  ·obtain ⟨b2', p', r1, r2, r3, r4, _⟩ := hback k b1 q1
   rw [q2] at r1; cases r1
   rw [q4] at r2; cases r2
   rw [q3] at r4
   have hr1 := hS.heap.rep k b1 q1
   cases r3 with
   | gone => trivial
   | box t =>
    simp only [BRep] at hr1 ⊢
    obtain ⟨B, o, s1, s2, s3⟩ := hr1
    refine ⟨B, o, by rw [r4]; exact s1, s2, fun c p hp => ?_⟩
    obtain ⟨p0, t1, t2⟩ := (t hA2).get hp
    obtain ⟨u1, u2, u, u3, u4⟩ := s3 c p0 t1
    exact ⟨t2.1 u1, u2, u, u3, t2.2 u u4⟩
   | mp =>
    simp only [BRep] at hr1 ⊢
    rw [r4]; exact hr1
   | mpr hflat =>
    simp only [BRep] at hr1 ⊢
    rw [r4]
    obtain ⟨B, s1, es, c, s2, s3⟩ := hr1
    refine ⟨B, s1, es, c, s2, ?_⟩
    rcases hflat with hz | hz
    ·exact s3.mono hz fun _ _ => rfl
    ·exact s3.nohold ok hz
   | ints =>
    simp only [BRep] at hr1 ⊢
    rw [r4]; exact hr1
   | rows =>
    rename_i i xs hflat
    simp only [BRep] at hr1 ⊢
    rw [r4]
    refine ⟨hr1.1, fun B o ha j x c pv hj hpv => ?_⟩
    obtain ⟨u, u1, u2⟩ := hr1.2 B o ha j x c pv hj hpv
    refine ⟨u, u1, ?_⟩
    rcases hflat with hz | hz
    ·exact u2.mono hz fun _ _ => rfl
    ·exact u2.nohold (ok.flat i x pv hz (List.mem_of_getElem? hpv))
  ·obtain ⟨e1, e2⟩ := hoth id b q1 q2
   obtain ⟨b', r1, r2⟩ := hfr id b q1
   rw [q3] at r1; cases r1
   by_cases hg : b = .gone
   ·subst hg
    rcases r2 with ⟨rfl, _⟩ | ⟨rfl, r3, _⟩
    ·trivial
    ·cases r3
   ·have := (hH.rep id b q1).keep K e2 fun A hA => hmem id b A q1 hg q2 hA
    rcases r2 with ⟨rfl, _⟩ | ⟨rfl, _⟩
    ·exact this
    ·exact this.freeze
 ·-- apart
  have cross : ∀ {k b1 A b A'} {id' : Nat}, getL H1 k = some b1 → b1.owned = true → (ι1 k).a = some A → getL H id' = some b → b.owned = true → (ι id').a = some A' → (∀ j, lookB j cs.bind ≠ some (some id')) → A.block ≠ A'.block := by
   intro k b1 A b A' id' h1 h2 h3 h4 h5 h6 h7 e
   rcases hO k b1 A h1 h2 h3 with ⟨j, id2, A2, s1, s2, s3⟩ | s
   ·obtain ⟨b2, _, t1, t2, _⟩ := hE.old j id2 s1
    exact hH.apart id' id2 b b2 A' A2 (fun e' => by subst e'; exact h7 j s1) h4 t1 h5 t2 h6 s2 (by rw [← e, s3])
   ·have := (hH.rep id' b h4).lt (owned_ne_gone h5) h6
    omega
  rcases hownsrc i b A hi hbo hA with ⟨k, b1, p, p1, p2, p3, p4, p5⟩ | ⟨b', p1, p2, p3, p4, p5, p6⟩
  ·rcases hownsrc j c A' hj hco hA' with ⟨k', c1', p', s1, s2, s3, s4, s5⟩ | ⟨c', s1, s2, s3, s4, s5, s6⟩
   ·refine hS.heap.apart k k' b1 c1' A A' (fun e => ?_) p1 s1 p2 s2 p5 s5
    subst e
    rw [p3] at s3; cases s3
    exact hij (by rw [← p4, ← s4])
   ·exact cross p1 p2 p5 s1 s2 s3 s4
  ·rcases hownsrc j c A' hj hco hA' with ⟨k', c1', p', s1, s2, s3, s4, s5⟩ | ⟨c', s1, s2, s3, s4, s5, s6⟩
   ·exact fun e => cross s1 s2 s5 p1 p2 p3 p4 e.symm
   ·exact hH.apart i j b' c' A A' hij p1 s1 p2 s2 p3 s3
 ·-- free
  rcases hownsrc id b2 A hb2 ho hA with ⟨k, b1, p, p1, p2, p3, p4, p5⟩ | ⟨b', p1, p2, p3, p4, p5, p6⟩
  ·exact hS.heap.free k b1 A p1 p2 p5 (c2 _ hFz)
  ·by_cases hl : id ∈ cs.lent
   ·obtain ⟨b3, r1, r2⟩ := hfr id b' p1
    rw [p5] at r1; cases r1
    rcases r2 with ⟨_, r3⟩ | ⟨_, _, _, r3, _⟩
    ·exact r3 p2 hl A p3 hFz
    ·rw [owned_not_frozen ho] at r3; cases r3
   ·exact hown2 id b' A p1 p2 p3 hl p4 hFz
 ·-- held
  rcases hsrc id b2 hb2 with ⟨k, b1, p, q1, q2, q3, q4⟩ | ⟨b, q1, q2, q3⟩
  ·obtain ⟨b2', p', r1, r2, r3, r4, _⟩ := hback k b1 q1
   rw [q2] at r1; cases r1
   rw [q4] at r2; cases r2
   cases r3 <;> cases hf
  ·obtain ⟨e1, e2⟩ := hoth id b q1 q2
   rw [e2] at hA
   obtain ⟨b', r1, r2⟩ := hfr id b q1
   rw [q3] at r1; cases r1
   rcases r2 with ⟨rfl, _⟩ | ⟨rfl, _, _, _, r3⟩
   ·exact c1 _ (hH.held id b2 A q1 hf hA)
   ·exact r3 A hA
 ·rw [hS.fram.os]; exact hF.os
 ·rw [hS.fram.tape]; exact hF.tape
 ·rw [hS.fram.output]; exact hF.output
 ·exact Nat.le_trans hF.size hsize
 ·rw [hS.fram.block B (Nat.lt_of_lt_of_le hB hF.size) ?_]
  ·exact hF.block B hB hOB
  ·rintro ⟨j, id, A, h1, h2, rfl⟩
   obtain ⟨b, _, h3, h4, _⟩ := hE.old j id h1
   rcases hF.own id b A h3 h4 h2 with h | h
   ·exact hOB h
   ·omega
 ·rcases hownsrc id b2 A hb2 ho hA with ⟨k, b1, p, p1, p2, p3, p4, p5⟩ | ⟨b', p1, p2, p3, p4, p5, p6⟩
  ·rcases hO k b1 A p1 p2 p5 with ⟨j, id2, A2, s1, s2, s3⟩ | s
   ·obtain ⟨b3, _, t1, t2, _⟩ := hE.old j id2 s1
    rw [s3]; exact hF.own id2 b3 A2 t1 t2 s2
   ·exact .inr (Nat.le_trans hF.size s)
  ·exact hF.own id b' A p1 p2 p3
 ·rcases hS.fram.fz B (c2 B hB) with h | ⟨j, id, A, h1, h2, rfl⟩ | h
  ·rcases h with h | ⟨id, hl, A, hA, rfl⟩
   ·exact hF.fz B h
   ·obtain ⟨b, h3, h4⟩ := hE.lent id hl
    exact .inr (hF.own id b A h3 h4 hA)
  ·obtain ⟨b, _, h3, h4, _⟩ := hE.old j id h1
   exact .inr (hF.own id b A h3 h4 h2)
  ·exact .inr (.inr (Nat.le_trans hF.size h))
 ·exact (renTs hA2 rs (hz.imp id (·.1)) L).2
end
end Go.Proofs.YtgffdmgidnnedaaGreat.V
