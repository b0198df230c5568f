/- A call: what goes in, what comes back. -/
import Derived.Test.YtgffdmgidnnedaaGreatRen
namespace Go.Proofs.YtgffdmgidnnedaaGreat.V
open Go
set_option linter.unusedVariables false
set_option linter.unusedSimpArgs false
section
variable {G : Prg} {w w' : World} {Fz Fz' : Nat → Prop} {ι ι' : Nat → Loc} {H H' : List (Blk G.E.T)} {R : Type} {r : R} {X : Ctx}
/-- what goes in: the callee's blocks -/
structure Enters (G : Prg) (w : World) (Fz : Nat → Prop) (ι : Nat → Loc) (H : List (Blk G.E.T)) (cs : CS) (H0 : List (Blk G.E.T)) : Prop where
 heap : HRep G.E w (lentFz Fz ι cs.lent) (bindι ι cs) H0
 lent : LentIn H cs.lent
 one : ∀ {j1 j2 a}, lookB j1 cs.bind = some (some a) → lookB j2 cs.bind = some (some a) → j1 = j2
 apart : ∀ {j a}, lookB j cs.bind = some (some a) → a ∉ cs.lent
 lt : ∀ {j x}, lookB j cs.bind = some x → j < H0.length
 old : ∀ j id, lookB j cs.bind = some (some id) → ∃ b b0, getL H id = some b ∧ b.owned = true ∧ b.prot = false ∧ getL H0 j = some b0 ∧ (b.info G.E = none → b0.info G.E = none) ∧
  ∀ ep len sz, b.info G.E = some (ep, len, sz) → b0.info G.E = some (0, len, sz)
 src : ∀ k b0 A, getL H0 k = some b0 → b0.owned = true → (bindι ι cs k).a = some A → ∃ id, lookB k cs.bind = some (some id) ∧ (ι id).a = some A
 nofr : ∀ k b0, getL H0 k = some b0 → b0.frozen = false ∧ b0.prot = false
 ep0 : ∀ k b0 ep len sz, getL H0 k = some b0 → b0.info G.E = some (ep, len, sz) → ep = 0
theorem blt_iff {a b : Nat} : Nat.blt a b = true ↔ a < b := by simp [Nat.blt]; omega
theorem ρcut_nil {T : Nat → Type} {bs : List BSh} {j : Nat} : ρcut (T := T) [] bs j = (j, 0) := by
 have : Nat.blt j 0 = false := by
  rcases hq : Nat.blt j 0 with _ | _
  ·rfl
  ·have := blt_iff.1 hq; omega
 simp only [ρcut, List.length_nil, this]
theorem getL_some_of_lt {α : Type} {l : List α} {i : Nat} (h : i < l.length) : ∃ a, getL l i = some a := ⟨l[i], by rw [getL_eq, List.getElem?_eq_getElem h]⟩
theorem cast_entry (hH : HRep G.E w Fz ι H) {ss : List TSh} {vs : List (PV G.E.T)} {bs : List BSh} {l : List (LV G.E.T)} {cs : CS} (h : castAll ss vs bs [] H = some (l, cs)) :
  Enters G w Fz ι H cs (rebBs (ρcut (T := G.E.T) [] bs) 0 bs [] (rebTs (ρcut (T := G.E.T) [] bs) ss l).2) ∧
  Trs G w Fz (lentFz Fz ι cs.lent) ι (bindι ι cs) H (rebBs (ρcut (T := G.E.T) [] bs) 0 bs [] (rebTs (ρcut (T := G.E.T) [] bs) ss l).2) vs (rebTs (ρcut (T := G.E.T) [] bs) ss l).1 := by
 obtain ⟨hf, hall⟩ := castAll_tr (ρ := ρcut (T := G.E.T) [] bs) (Fz' := lentFz Fz ι cs.lent) (ι' := bindι ι cs) (H' := rebBs (ρcut (T := G.E.T) [] bs) 0 bs [] (rebTs (ρcut (T := G.E.T) [] bs) ss l).2) hH h
 obtain ⟨hv, hb⟩ := hall []
 generalize hH0 : rebBs (ρcut (T := G.E.T) [] bs) 0 bs [] (rebTs (ρcut (T := G.E.T) [] bs) ss l).2 = H0 at *
 have hlen : H0.length = bs.length := by rw [← hH0, rebBs_length]
 have hlent := castAll_lent h
 have hns : ∀ j, sameB H ([] : List (Blk G.E.T)) j = true → False := by
  intro j hj
  obtain ⟨b, c, _, h2, _⟩ := sameB_cases hj
  simp [getL] at h2
 have hA : Agree G w Fz (lentFz Fz ι cs.lent) ι (bindι ι cs) H H0 (ρcut (T := G.E.T) [] bs) cs :=
  agree_of (P := []) hf (fun j => ρcut_fst) hb fun j _ h2 => (hns j h2).elim
 have hs2 : ∀ j, getL bs j = some .same → sameB H ([] : List (Blk G.E.T)) j = true → lookB j cs.bind = some (some j) ∧ ∃ b, getL H j = some b ∧ b.owned = (atB ([] : List (Blk G.E.T)) j).owned ∧ b.frozen = (atB ([] : List (Blk G.E.T)) j).frozen :=
  fun j _ h2 => (hns j h2).elim
 have hHR : HRep G.E w (lentFz Fz ι cs.lent) (bindι ι cs) H0 := cast_heap (P := []) hH hf hlent hA hlen hb hs2 fun j h1 _ => (hns j h1).elim
 have at_ : ∀ {k blk}, getL H0 k = some blk → ∃ b, getL bs k = some b ∧ BTr H ([] : List (Blk G.E.T)) (ρcut (T := G.E.T) [] bs) cs (fun vs vs' => Agree G w Fz (lentFz Fz ι cs.lent) ι (bindι ι cs) H H0 (ρcut (T := G.E.T) [] bs) cs → Trs G w Fz (lentFz Fz ι cs.lent) ι (bindι ι cs) H H0 vs vs') k (atB [] k) b blk := by
  intro k blk hk
  have hlt := getL_lt hk
  rw [hlen] at hlt
  obtain ⟨b, this⟩ := getL_some_of_lt hlt
  obtain ⟨blk', g1, g2⟩ := hb k _ this
  rw [hk] at g1; cases g1
  exact ⟨_, this, g2⟩
 refine ⟨⟨hHR, hlent, hf.one, hf.apart, fun hl => ?_, fun j id hl => ?_, fun k b0 A hk ho ha => ?_, fun k b0 hk => ?_, fun k b0 ep len sz hk hi => ?_⟩, hv hA⟩
 ·obtain ⟨sh, h1, _⟩ := hf.told hl
  rw [hlen]; exact getL_lt h1
 ·obtain ⟨sh, h1, h2⟩ := hf.told hl
  obtain ⟨blk, g1, g2⟩ := hb j sh h1
  cases g2 with
  | gone => exact absurd rfl h2
  | same hsm => exact (hns j hsm).elim
  | box e1 e2 e3 =>
   rw [hl] at e1; cases e1
   exact ⟨_, _, e2, rfl, rfl, g1, fun _ => rfl, fun ep len sz hi => by simp [Blk.info] at hi⟩
  | mp e1 e2 =>
   rw [hl] at e1; cases e1
   exact ⟨_, _, e2, rfl, rfl, g1, fun _ => rfl, fun ep len sz hi => by simp [Blk.info] at hi⟩
  | mpr e1 e2 =>
   rw [hl] at e1; cases e1
   exact ⟨_, _, e2, rfl, rfl, g1, fun _ => rfl, fun ep len sz hi => by simp [Blk.info] at hi⟩
  | ints e1 e2 e3 =>
   rw [hl] at e1; cases e1
   exact ⟨_, _, e2, rfl, rfl, g1, fun hi => by simp [Blk.info] at hi, fun ep len sz hi => by
    simp only [Blk.info, Option.some.injEq, Prod.mk.injEq, ρcut_nil] at hi ⊢; exact ⟨trivial, hi.2.1, hi.2.2⟩⟩
  | ints0 e1 => rw [hl] at e1; cases e1
  | rows e1 e2 e3 =>
   rw [hl] at e1; cases e1
   exact ⟨_, _, e2, rfl, rfl, g1, fun hi => by simp [Blk.info] at hi, fun ep len sz hi => by
    simp only [Blk.info, Option.some.injEq, Prod.mk.injEq, ρcut_nil] at hi ⊢; exact ⟨trivial, hi.2.1, hi.2.2⟩⟩
  | rows0 e1 => rw [hl] at e1; cases e1
 ·obtain ⟨sh, h1, h2⟩ := at_ hk
  obtain ⟨id, b, p1, p2, p3, p4⟩ := src_of h1 h2 hs2 ha ho
  exact ⟨id, p1, p4⟩
 ·obtain ⟨sh, h1, h2⟩ := at_ hk
  cases h2 with
  | same hsm => exact (hns k hsm).elim
  | _ => exact ⟨rfl, rfl⟩
 ·obtain ⟨sh, h1, h2⟩ := at_ hk
  cases h2 with
  | same hsm => exact (hns k hsm).elim
  | gone => cases hi
  | box => cases hi
  | mp => cases hi
  | mpr => cases hi
  | ints => simp only [Blk.info, Option.some.injEq, Prod.mk.injEq, ρcut_nil] at hi; exact hi.1.symm
  | ints0 => simp only [Blk.info, Option.some.injEq, Prod.mk.injEq, ρcut_nil] at hi; exact hi.1.symm
  | rows => simp only [Blk.info, Option.some.injEq, Prod.mk.injEq, ρcut_nil] at hi; exact hi.1.symm
  | rows0 => simp only [Blk.info, Option.some.injEq, Prod.mk.injEq, ρcut_nil] at hi; exact hi.1.symm
/-- the callee's beginning -/
def callX (w : World) (Fz : Nat → Prop) (ι : Nat → Loc) (cs : CS) : Ctx :=
 { w0 := w, O := fun B => ∃ j id A, lookB j cs.bind = some (some id) ∧ (ι id).a = some A ∧ B = A.block, Fz0 := lentFz Fz ι cs.lent }
theorem Enters.fram {cs : CS} {H0 : List (Blk G.E.T)} (h : Enters G w Fz ι H cs H0) : Fram G.E (callX w Fz ι cs) w (lentFz Fz ι cs.lent) (bindι ι cs) H0 :=
 ⟨rfl, rfl, rfl, Nat.le_refl _, fun _ _ _ => rfl, fun k b A hk ho ha => by
  obtain ⟨id, h1, h2⟩ := h.src k b A hk ho ha
  exact .inl ⟨k, id, A, h1, h2, rfl⟩, fun B hB => .inl hB⟩
/-! ### Blocks that stand still from now on -/
structure Frozen (G : Prg) (H H' : List (Blk G.E.T)) (l : List Nat) : Prop where
 len : H'.length = H.length
 at_ : ∀ id b, getL H id = some b → ∃ b', getL H' id = some b' ∧ ((b' = b ∧ (id ∈ l → b.frozen = true)) ∨ (b' = b.freeze ∧ b.owned = true ∧ b.prot = false ∧ b'.frozen = true ∧ id ∈ l))
theorem Frozen.refl {l : List Nat} (h : ∀ id, id ∈ l → False) : Frozen G H H l := ⟨rfl, fun id b hb => ⟨b, hb, .inl ⟨rfl, fun hi => (h id hi).elim⟩⟩⟩
theorem setL_length {α : Type} (l : List α) (i : Nat) (a : α) : (setL l i a).length = l.length := by rw [setL_eq]; simp
theorem freezeIds_spec : ∀ {l : List Nat} {H H' : List (Blk G.E.T)}, freezeIds H l = some H' → Frozen G H H' l
 | [], H, H', h => by
  simp only [freezeIds] at h; cases h
  exact .refl fun _ hi => by simp at hi
 | id :: l, H, H', h => by
  have step : ∀ {b : Blk G.E.T}, getL H id = some b → b.owned = true → b.prot = false → b.freeze.frozen = true → freezeIds (setL H id b.freeze) l = some H' → Frozen G H H' (id :: l) := by
   intro b hb h1 h2 h3 h
   obtain ⟨e, g⟩ := freezeIds_spec h
   refine ⟨by rw [e, setL_length], fun j c hc => ?_⟩
   by_cases hj : j = id
   ·subst hj
    rw [hb] at hc; cases hc
    obtain ⟨b', q1, q2⟩ := g j _ (getL_setL hb)
    refine ⟨b', q1, .inr ?_⟩
    rcases q2 with ⟨rfl, q3⟩ | ⟨rfl, q3, _⟩
    ·exact ⟨rfl, h1, h2, h3, List.mem_cons_self ..⟩
    ·rw [owned_not_frozen q3] at h3; cases h3
   ·obtain ⟨b', q1, q2⟩ := g j c (by rw [getL_setL_ne hj]; exact hc)
    refine ⟨b', q1, ?_⟩
    rcases q2 with ⟨rfl, q3⟩ | ⟨rfl, q3, q4, q5, q6⟩
    ·exact .inl ⟨rfl, fun hi => by
      rcases List.mem_cons.1 hi with e | hi
      ·exact absurd e hj
      ·exact q3 hi⟩
    ·exact .inr ⟨rfl, q3, q4, q5, List.mem_cons_of_mem _ q6⟩
  have stay : ∀ {b : Blk G.E.T}, getL H id = some b → b.frozen = true → freezeIds H l = some H' → Frozen G H H' (id :: l) := by
   intro b hb hfr h
   obtain ⟨e, g⟩ := freezeIds_spec h
   refine ⟨e, fun j c hc => ?_⟩
   obtain ⟨b', q1, q2⟩ := g j c hc
   refine ⟨b', q1, ?_⟩
   rcases q2 with ⟨rfl, q3⟩ | ⟨rfl, q3, q4, q5, q6⟩
   ·exact .inl ⟨rfl, fun hi => by
     rcases List.mem_cons.1 hi with rfl | hi
     ·rw [hb] at hc; cases hc; exact hfr
     ·exact q3 hi⟩
   ·exact .inr ⟨rfl, q3, q4, q5, List.mem_cons_of_mem _ q6⟩
  simp only [freezeIds] at h
  split at h
  ·rename_i hb; exact step hb rfl rfl rfl h
  ·rename_i hb; exact step hb rfl rfl rfl h
  ·rename_i hb; exact stay hb rfl h
  ·rename_i hb; exact stay hb rfl h
  ·cases h
/-! ### Where the callee's blocks go -/
theorem places_length {heap : List (Blk G.E.T)} {cs : CS} {m : Nat} : ∀ (bs : List BSh) (j n : Nat), (places heap cs m j n bs).length = bs.length
 | [], j, n => rfl
 | b :: l, j, n => by
  simp only [places]
  split <;> simp [places_length l]
/-- what it is to give back; heap: as it stands now -/
abbrev GaveBack (heap0 : List (Blk G.E.T)) (cs : CS) (m : Nat) (bs : List BSh) (j : Nat) (blks heap : List (Blk G.E.T)) : Prop :=
   ∃ out, out = giveBack (places heap0 cs m j heap.length bs) blks heap ∧ heap.length ≤ out.length ∧
   (∀ k b, getL blks k = some b → ∃ p, getL (places heap0 cs m j heap.length bs) k = some p ∧ getL out p.1 = some b ∧
    ((∃ a sh, j + k < m ∧ lookB (j + k) cs.bind = some (some a) ∧ getL bs k = some sh ∧ p = (a, if keepB sh = true then epOf heap0 a else epOf heap0 a + 1)) ∨
     ((¬ (j + k < m ∧ ∃ a, lookB (j + k) cs.bind = some (some a))) ∧ heap.length ≤ p.1 ∧ p.2 = 0))) ∧
   (∀ k1 k2 p1 p2, k1 ≠ k2 → getL (places heap0 cs m j heap.length bs) k1 = some p1 → getL (places heap0 cs m j heap.length bs) k2 = some p2 → p1.1 ≠ p2.1) ∧
   (∀ id, id < heap.length → (∀ k, k < bs.length → j + k < m → lookB (j + k) cs.bind ≠ some (some id)) → getL out id = getL heap id) ∧
   (∀ id, id < out.length → heap.length ≤ id → ∃ k p, getL (places heap0 cs m j heap.length bs) k = some p ∧ p.1 = id)
theorem giveBack_spec {heap0 : List (Blk G.E.T)} {cs : CS} {m : Nat} (hone : ∀ {j1 j2 a}, lookB j1 cs.bind = some (some a) → lookB j2 cs.bind = some (some a) → j1 = j2)
  (hin : ∀ {j a}, lookB j cs.bind = some (some a) → a < heap0.length) :
  ∀ (bs : List BSh) (j : Nat) (blks heap : List (Blk G.E.T)), blks.length = bs.length → heap0.length ≤ heap.length →
   GaveBack heap0 cs m bs j blks heap
 | [], j, blks, heap, hb, hle => by
  have : blks = [] := by simpa using hb
  subst this
  refine ⟨heap, by simp [giveBack, places], Nat.le_refl _, fun k b hk => by simp [getL] at hk, fun k1 k2 p1 p2 _ h => by simp [places, getL] at h, fun _ _ _ => rfl, fun id h1 h2 => by omega⟩
 | s :: bs, j, [], heap, hb, hle => by simp at hb
 | s :: bs, j, b :: blks, heap, hb, hle => by
  have hb' : blks.length = bs.length := by simpa using hb
  -- the two ways
  have new : (∀ q : Nat × Nat, places heap0 cs m j heap.length (s :: bs) = (heap.length, 0) :: places heap0 cs m (j + 1) (heap.length + 1) bs) → (¬ (j < m ∧ ∃ a, lookB j cs.bind = some (some a))) → GaveBack heap0 cs m (s :: bs) j (b :: blks) heap := by
   intro hp hno
   have hp := hp (0, 0)
   obtain ⟨out, h1, h2, h3, h4, h5, h6⟩ := giveBack_spec hone hin bs (j + 1) blks (heap ++ [b]) hb' (by simp; omega)
   rw [List.length_append, List.length_singleton] at h1 h2 h3 h4 h5 h6
   have hlt : Nat.blt heap.length heap.length = false := by
    rcases hq : Nat.blt heap.length heap.length with _ | _
    ·rfl
    ·have := blt_iff.1 hq; omega
   have hlast : getL out heap.length = some b := by
    rw [h5 heap.length (by omega) (fun k hk hkm e => by have := hin e; omega)]
    exact getL_append_len
   refine ⟨out, by rw [hp]; simp only [giveBack, hlt]; exact h1, by omega, ?_, ?_, ?_, ?_⟩
   ·intro k c hk
    rw [hp]
    cases k with
    | zero =>
     simp only [getL, Option.some.injEq] at hk
     subst hk
     exact ⟨_, rfl, hlast, .inr ⟨by simpa using hno, Nat.le_refl _, rfl⟩⟩
    | succ k =>
     simp only [getL] at hk ⊢
     obtain ⟨p, q1, q2, q3⟩ := h3 k c hk
     rw [show j + 1 + k = j + (k + 1) by omega] at q3
     refine ⟨p, q1, q2, ?_⟩
     rcases q3 with q3 | ⟨q3, q4, q5⟩
     ·exact .inl q3
     ·exact .inr ⟨q3, by omega, q5⟩
   ·intro k1 k2 p1 p2 hne e1 e2
    rw [hp] at e1 e2
    have aux : ∀ k p, getL (places heap0 cs m (j + 1) (heap.length + 1) bs) k = some p → p.1 ≠ heap.length := by
     intro k p e
     have hk : k < blks.length := by have := getL_lt e; rw [places_length] at this; omega
     obtain ⟨c, hc⟩ := getL_some_of_lt hk
     obtain ⟨p', q1, q2, q3⟩ := h3 k c hc
     rw [e] at q1; cases q1
     rcases q3 with ⟨a, sh, r1, r2, r3, r4⟩ | ⟨_, r2, _⟩
     ·have := hin r2
      rw [r4]; simp only; omega
     ·omega
    cases k1 with
    | zero =>
     cases k2 with
     | zero => exact absurd rfl hne
     | succ k2 =>
      simp only [getL, Option.some.injEq] at e1 e2
      subst e1
      exact fun e => aux k2 p2 e2 e.symm
    | succ k1 =>
     cases k2 with
     | zero =>
      simp only [getL, Option.some.injEq] at e1 e2
      subst e2
      exact aux k1 p1 e1
     | succ k2 =>
      simp only [getL] at e1 e2
      exact h4 k1 k2 p1 p2 (by omega) e1 e2
   ·intro id hid hno'
    rw [h5 id (by omega) (fun k hk hkm => by
     have := hno' (k + 1) (by simpa using hk) (by omega)
     rwa [show j + (k + 1) = j + 1 + k by omega] at this)]
    exact getL_append_lt hid
   ·intro id h7 h8
    rw [hp]
    by_cases he : id = heap.length
    ·exact ⟨0, _, rfl, he.symm⟩
    ·obtain ⟨k, p, q1, q2⟩ := h6 id h7 (by omega)
     exact ⟨k + 1, p, q1, q2⟩
  by_cases hc : j < m ∧ ∃ a, lookB j cs.bind = some (some a)
  ·obtain ⟨hjm, a, ha⟩ := hc
   have hp : places heap0 cs m j heap.length (s :: bs) = (a, if keepB s = true then epOf heap0 a else epOf heap0 a + 1) :: places heap0 cs m (j + 1) heap.length bs := by
    simp only [places, blt_iff.2 hjm, ha]
    cases keepB s <;> simp
   have hlt : a < heap.length := Nat.lt_of_lt_of_le (hin ha) hle
   obtain ⟨ba, hba⟩ := getL_some_of_lt hlt
   obtain ⟨out, h1, h2, h3, h4, h5, h6⟩ := giveBack_spec hone hin bs (j + 1) blks (setL heap a b) hb' (by rw [setL_length]; exact hle)
   rw [setL_length] at h1 h2 h3 h4 h5 h6
   have hno : ∀ k, lookB (j + 1 + k) cs.bind ≠ some (some a) := fun k e => by have := hone e ha; omega
   have hout : getL out a = some b := by rw [h5 a hlt (fun k _ _ => hno k)]; exact getL_setL hba
   refine ⟨out, by rw [hp]; simp only [giveBack, blt_iff.2 hlt]; exact h1, h2, ?_, ?_, ?_, ?_⟩
   ·intro k c hk
    rw [hp]
    cases k with
    | zero =>
     simp only [getL, Option.some.injEq] at hk
     subst hk
     exact ⟨_, rfl, hout, .inl ⟨a, s, by simpa using hjm, by simpa using ha, rfl, rfl⟩⟩
    | succ k =>
     simp only [getL] at hk ⊢
     obtain ⟨p, q1, q2, q3⟩ := h3 k c hk
     rw [show j + 1 + k = j + (k + 1) by omega] at q3
     exact ⟨p, q1, q2, q3⟩
   ·intro k1 k2 p1 p2 hne e1 e2
    rw [hp] at e1 e2
    have aux : ∀ k p, getL (places heap0 cs m (j + 1) heap.length bs) k = some p → p.1 ≠ a := by
     intro k p e
     have hk : k < blks.length := by have := getL_lt e; rw [places_length] at this; omega
     obtain ⟨c, hc⟩ := getL_some_of_lt hk
     obtain ⟨p', q1, q2, q3⟩ := h3 k c hc
     rw [e] at q1; cases q1
     rcases q3 with ⟨a', sh, r1, r2, r3, r4⟩ | ⟨_, r2, _⟩
     ·rw [r4]
      intro e'
      simp only at e'
      subst e'
      exact hno k r2
     ·omega
    cases k1 with
    | zero =>
     cases k2 with
     | zero => exact absurd rfl hne
     | succ k2 =>
      simp only [getL, Option.some.injEq] at e1 e2
      subst e1
      exact fun e => aux k2 p2 e2 e.symm
    | succ k1 =>
     cases k2 with
     | zero =>
      simp only [getL, Option.some.injEq] at e1 e2
      subst e2
      exact aux k1 p1 e1
     | succ k2 =>
      simp only [getL] at e1 e2
      exact h4 k1 k2 p1 p2 (by omega) e1 e2
   ·intro id hid hno'
    have hne : id ≠ a := by
     rintro rfl
     exact hno' 0 (by simp) (by simpa using hjm) (by simpa using ha)
    rw [h5 id hid (fun k hk hkm => by
     have := hno' (k + 1) (by simpa using hk) (by omega)
     rwa [show j + (k + 1) = j + 1 + k by omega] at this)]
    exact getL_setL_ne hne
   ·intro id h7 h8
    rw [hp]
    obtain ⟨k, p, q1, q2⟩ := h6 id h7 h8
    exact ⟨k + 1, p, q1, q2⟩
  ·refine new (fun _ => ?_) hc
   simp only [places]
   split
   ·rename_i a e1 e2
    exact absurd ⟨blt_iff.1 e1, a, e2⟩ hc
   ·rfl
end
end Go.Proofs.YtgffdmgidnnedaaGreat.V
