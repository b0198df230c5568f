/- Stores, addresses, lengths, new boxes. -/
import Derived.Test.YtgffdmgidnnedaaGreatFrz
namespace Go.Proofs.YtgffdmgidnnedaaGreat.V
open Go
set_option linter.unusedVariables false
set_option linter.unusedSimpArgs false
section
variable {G : Prg} {w : World} {Fz : Nat → Prop} {ι : Nat → Loc} {H : List (Blk G.E.T)} {R : Type} {r : R} {X : Ctx}
theorem updInts_len {T : Nat → Type} {k : IntKind} {i x : Int} : ∀ {xs : List Int} {j : Int}, (updInts (T := T) k i x j xs).length = xs.length
 | [], j => rfl
 | y :: l, j => by simp only [updInts, List.length_cons, updInts_len]
theorem updInts_get {T : Nat → Type} {k : IntKind} {i x : Int} : ∀ {xs : List Int} {j : Int} {c : Nat} {y : Int}, xs[c]? = some y → (updInts (T := T) k i x j xs)[c]? = some (.int k (if i = j + c then x else y))
 | [], j, c, y, h => by simp at h
 | z :: l, j, 0, y, h => by simp at h; subst h; simp [updInts]
 | z :: l, j, c + 1, y, h => by
  simp at h
  simp only [updInts, List.getElem?_cons_succ, updInts_get h]
  rw [show j + 1 + (c : Int) = j + ((c + 1 : Nat) : Int) by omega]
theorem replL_some {α : Type} : ∀ (l : List α) (n : Nat) (as : List α), n + as.length ≤ l.length → replL l n as = some (l.take n ++ as ++ l.drop (n + as.length))
 | l, 0, [], h => by cases l <;> simp [replL]
 | [], 0, a :: as, h => by simp at h
 | y :: l, 0, a :: as, h => by
  have := replL_some l 0 as (by simp at h ⊢; omega)
  simp [replL, this]
 | [], n + 1, as, h => by simp at h
 | y :: l, n + 1, as, h => by
  have := replL_some l n as (by simp at h; omega)
  simp only [replL, this]
  rw [show n + 1 + as.length = n + as.length + 1 by omega]
  simp
theorem repl_upd {T : Nat → Type} {cells c' : List (PV T)} {off n : Nat} {k : IntKind} {i x : Int} {xs : List Int} (hk : intsK n (cells.drop off) = some (k, xs)) (h0 : 0 ≤ i ∧ i.toNat < n) (h : replL cells off (updInts k i x 0 xs) = some c') :
  replL cells (off + i.toNat) [.int k x] = some c' := by
 obtain ⟨g1, g2⟩ := intsK_spec hk
 obtain ⟨h1, rfl⟩ := replL_eq cells off _ _ h
 rw [updInts_len] at h1
 rw [replL_some _ _ _ (by simp; omega)]
 congr 1
 apply List.ext_getElem?
 intro c
 simp only [List.append_assoc]
 by_cases hc : c < off
 ·rw [List.getElem?_append_left (by rw [List.length_take]; omega), List.getElem?_append_left (by rw [List.length_take]; omega), List.getElem?_take, List.getElem?_take, if_pos (by omega), if_pos hc]
 ·rw [List.getElem?_append_right (l₁ := cells.take off) (by rw [List.length_take]; omega), List.length_take, show min off cells.length = off by omega]
  by_cases hc2 : c < off + n
  ·obtain ⟨y, hy⟩ : ∃ y, xs[c - off]? = some y := ⟨_, List.getElem?_eq_getElem (by omega)⟩
   have hcell := g2 _ _ hy
   rw [List.getElem?_drop, show off + (c - off) = c by omega] at hcell
   rw [List.getElem?_append_left (l₁ := updInts k i x 0 xs) (by rw [updInts_len]; omega), updInts_get hy]
   by_cases hi : c = off + i.toNat
   ·rw [List.getElem?_append_right (by rw [List.length_take]; omega), List.length_take, show c - min (off + i.toNat) cells.length = 0 by omega, if_pos (by omega)]
    rfl
   ·rw [if_neg (by omega)]
    by_cases hlt : c < off + i.toNat
    ·rw [List.getElem?_append_left (by rw [List.length_take]; omega), List.getElem?_take, if_pos hlt, hcell]
    ·rw [List.getElem?_append_right (by rw [List.length_take]; omega), List.length_take, List.getElem?_append_right (by simp; omega), List.getElem?_drop]
     simp only [List.length_cons, List.length_nil]
     rw [show off + i.toNat + (0 + 1) + (c - min (off + i.toNat) cells.length - (0 + 1)) = c by omega, hcell]
  ·rw [List.getElem?_append_right (l₁ := updInts k i x 0 xs) (by rw [updInts_len]; omega), updInts_len, List.getElem?_drop, List.getElem?_append_right (by rw [List.length_take]; omega), List.length_take, List.getElem?_append_right (by simp; omega), List.getElem?_drop]
   simp only [List.length_cons, List.length_nil]
   congr 1
   omega
/-- a number of an array is stored as into its cell -/
theorem storeV_aptr {t : TypeId} {id off n : Nat} {i : Int} {v : PV G.E.T} {K : List (Blk G.E.T) → Option R} (h0 : 0 ≤ i ∧ i.toNat < n) (h : storeV G H t (.aptr id off n i) v K = some r) : storeV G H t (.ptr id (off + i.toNat)) v K = some r := by
 unfold storeV at h ⊢
 split at h
 ·cases h
 rename_i m hm
 split at h
 ·cases h
 ·cases h
 rename_i hlen hone
 simp only at h
 split at h
 ·rename_i cells k x hb
  split at h
  ·rename_i l hd
   obtain ⟨h1, rfl⟩ := dropL_eq off cells l hd
   split at h
   ·rename_i k' xs hk
    split at h
    ·rename_i c' hkk hr
     have hkk := of_decide_eq_true hkk
     subst hkk
     have := repl_upd hk h0 hr
     simp only [hb, cellsP, this]
     exact h
    ·cases h
   ·cases h
  ·cases h
 ·cases h
theorem storeV_sound0 (ok : EnvOk G.E) {t : TypeId} {a p : PV G.E.T} (hna : ∀ id off n i, a ≠ .aptr id off n i) {K : List (Blk G.E.T) → Option R} (h : storeV G H t a p K = some r) (hH : HRep G.E w Fz ι H) (hF : Fram G.E X w Fz ι H)
  {x v : Value} (hx : PRep G.E w Fz ι H a x) (hv : PRep G.E w Fz ι H p v) :
  ∃ H' w' Fz', K H' = some r ∧ (Instr.storeAt t x v).run G.P w = .ok () w' ∧ Step G.E X w w' Fz Fz' ι ι H H' := by
 unfold storeV at h
 split at h
 ·cases h
 rename_i n hn
 split at h
 ·cases h
 ·cases h
 rename_i hlen hone
 have hcr := cells_rep hv hone
 have hsz : v.cells.size = n := by rw [nat_beq hlen, hcr.length, Array.length_toList]
 have h1 : ∀ u ∈ v.cells.toList, u.oneCell' = true := hcr.ones (allOne_iff.1 hone)
 split at h
 ·-- a box
  rename_i id off
  simp only [PRep] at hx
  obtain ⟨b, hb, hi, B, o, hl, rfl⟩ := hx
  split at h
  ·rename_i cells hb'
   rw [hb] at hb'; cases hb'
   split at h
   ·rename_i cells' hr
    obtain ⟨g1, rfl⟩ := replL_eq cells off _ _ hr
    have hrep := hH.rep id _ hb
    simp only [BRep] at hrep
    obtain ⟨B', o', ha, hB, hc⟩ := hrep
    rw [hl] at ha; cases ha
    have hn' : n = (cellsP p).length := nat_beq hlen
    have hex : ∀ j, j < n → (∃ u, w.cell? ⟨B, o + off + j, none⟩ = some u) ∧ w.frozen? ⟨B, o + off + j, none⟩ = false := fun j hj => by
     obtain ⟨k1, k2, u, k3, k4⟩ := hc (off + j) _ (List.getElem?_eq_getElem (by omega))
     rw [show o + off + j = o + (off + j) by omega]
     exact ⟨⟨u, k3⟩, k2⟩
    have hst := run_storeVar hn hsz h1 hex
    refine ⟨_, w.setCells B (o + off) v.cells.toList, Fz, h, by simp [Instr.storeAt, Instr.sureAddr, hst], Step.write hH hF hb rfl rfl (b' := .box .own (cells.take off ++ cellsP p ++ cells.drop (off + (cellsP p).length))) rfl rfl hl (o + off) v.cells.toList fun KK => ?_⟩
    have hcl : v.cells.toList.length = (cellsP p).length := hcr.length.symm
    simp only [BRep]
    refine ⟨B, o, hl, by rw [(setCells_frame B _ _ w).2.2.2.1]; exact hB, fun c q hq => ?_⟩
    have hcell := cell_setCells (w := w) (B := B) (o := o + off) (vs := v.cells.toList) (fun j hj => (hex j (by omega)).1) (o + c)
    rw [World.frozen?_setCells, hcell]
    by_cases hin : off ≤ c ∧ c < off + (cellsP p).length
    ·rw [if_pos (by omega)]
     have hq' : (cellsP p)[c - off]? = some q := by
      rw [List.append_assoc, List.getElem?_append_right (by rw [List.length_take]; omega), List.getElem?_append_left (by rw [List.length_take]; omega), List.length_take] at hq
      rwa [show c - min off cells.length = c - off by omega] at hq
     obtain ⟨u, hu, hp⟩ := hcr.get hq'
     obtain ⟨_, k2, _⟩ := hc c _ (List.getElem?_eq_getElem (by omega))
     exact ⟨allOne_iff.1 hone q (List.mem_of_getElem? hq'), k2, u, by rw [show o + c - (o + off) = c - off by omega]; exact hu, hp.mono KK⟩
    ·rw [if_neg (by omega)]
     have hq' : cells[c]? = some q := by
      by_cases hlt : c < off
      ·rw [List.append_assoc, List.getElem?_append_left (by rw [List.length_take]; omega), List.getElem?_take, if_pos hlt] at hq
       exact hq
      ·rw [List.getElem?_append_right (by rw [List.length_append, List.length_take]; omega), List.getElem?_drop, List.length_append, List.length_take] at hq
       rwa [show off + (cellsP p).length + (c - (min off cells.length + (cellsP p).length)) = c by omega] at hq
     obtain ⟨k1, k2, u, k3, k4⟩ := hc c q hq'
     exact ⟨k1, k2, u, k3, k4.mono KK⟩
   ·cases h
  ·cases h
 ·-- an element
  rename_i id ep i fld
  simp only [PRep] at hx
  obtain ⟨b, hb, hptr, hi⟩ := hx
  split at h
  ·rename_i k ep' xs hb'
   rw [hb] at hb'; cases hb'
   replace hi := (hi ep' xs.length 1 rfl).2
   split at h
   ·rename_i k' y he
    split at h
    ·rename_i hk
     obtain ⟨i0, i1, B, o, hl, rfl⟩ := hi (nat_beq he)
     have hk' := of_decide_eq_true hk
     subst hk'
     simp only [PRep] at hv
     cases hv with | int hy =>
     have hrep := hH.rep id _ hb
     simp only [BRep] at hrep
     obtain ⟨hrow, hrange, hcells⟩ := hrep
     have hcur := hcells B o hl _ _ (rd_mem i0 i1)
     rcases hrow.2.2 with ⟨hn0, _⟩ | ⟨B', o', ha, hB, hc⟩
     ·rw [hl] at hn0; cases hn0
     rw [hl] at ha; cases ha
     have hn1 : n = 1 := by simpa [cellsP] using nat_beq hlen
     subst hn1
     have hst := run_storeVar (w := w) hn (v := .int k y) rfl (by simp [Value.cells, Value.oneCell']) (B := B) (o := o + i.toNat) (fun j hj => by
      have := hc (i.toNat + j) (by have := hrow.1; omega)
      rwa [← Nat.add_assoc] at this)
     refine ⟨_, w.setCells B (o + i.toNat) [.int k y], Fz, h, by simp only [Nat.mul_one, Nat.add_zero]; simpa [Instr.storeAt, Instr.sureAddr, Value.cells] using hst, Step.write hH hF hb rfl rfl (b' := .ints .own k ep' (xs.set i.toNat y)) (by simp [Blk.info]) rfl hl (o + i.toNat) [.int k y] fun KK => ?_⟩
     simp only [BRep, List.length_set]
     have hcell := fun c => cell_setCells (w := w) (B := B) (o := o + i.toNat) (vs := [Value.int k y]) (fun j hj => by
      have : j = 0 := by simpa using hj
      subst this; exact ⟨_, hcur⟩) c
     refine ⟨⟨hrow.1, hrow.2.1, .inr ⟨B, o, hl, by rw [(setCells_frame B _ _ w).2.2.2.1]; exact hB, fun c hc' => ?_⟩⟩, fun z hz => ?_, fun B' o' ha j z hz => ?_⟩
     ·rw [World.frozen?_setCells, hcell]
      refine ⟨?_, (hc c hc').2⟩
      split
      ·rename_i hin
       exact ⟨_, by simp at hin ⊢; rw [show o + c - (o + i.toNat) = 0 by omega]; rfl⟩
      ·exact (hc c hc').1
     ·rcases List.mem_or_eq_of_mem_set hz with hz | rfl
      ·exact hrange z hz
      ·exact hy
     ·rw [hl] at ha; cases ha
      rw [hcell]
      rw [List.getElem?_set] at hz
      by_cases hij : i.toNat = j
      ·subst hij
       rw [if_pos rfl] at hz
       simp [i1] at hz; subst hz
       simp
      ·rw [if_neg hij] at hz
       rw [if_neg (by simp; omega)]
       exact hcells B o hl j z hz
    ·cases h
   ·cases h
  ·rename_i j0 ep0 xs0 hb0
   split at h
   ·rename_i cells H1 hfz
    obtain ⟨F1, s1, c1⟩ := freezePs_sound hH hF hfz hcr
    obtain ⟨b1, hb1, st1⟩ := s1.keep.le id b hb
    have hx1 : EptrAt G.E ι id ep i fld b1 x := EptrAt.step ⟨hptr, hi⟩ st1
    split at h
    ·rename_i j ep' xs hb'
     rw [hb1] at hb'; cases hb'
     obtain ⟨_, hi1⟩ := hx1
     replace hi1 := (hi1 ep' xs.length (G.E.sz j) rfl).2
     split at h
     ·rename_i he
      obtain ⟨i0, i1, B, o, hl, rfl⟩ := hi1 (nat_beq he)
      obtain ⟨x0, hx0, h⟩ := Option.bind_eq_some_iff.1 h
      split at h
      ·rename_i l hrl
       split at h
       ·rename_i y hy
        obtain ⟨g1, rfl⟩ := replL_eq _ fld cells _ hrl
        obtain ⟨y1, y2⟩ := ok.inn j _ y hy
        have hrep := s1.heap.rep id _ hb1
        simp only [BRep] at hrep
        obtain ⟨hrow, hcells⟩ := hrep
        rcases hrow.2.2 with ⟨hn0, _⟩ | ⟨B', o', ha, hB, hc⟩
        ·rw [hl] at hn0; cases hn0
        rw [hl] at ha; cases ha
        have hout : (G.E.outs j x0).length = G.E.sz j := ok.sz j x0
        have hcl : cells.length = v.cells.toList.length := c1.length
        have hn' : n = cells.length := by rw [hcl]; simp [hsz]
        have hfit : i.toNat * G.E.sz j + fld + cells.length ≤ (ι id).cap * G.E.sz j := by
         have h1 : (i.toNat + 1) * G.E.sz j ≤ (ι id).cap * G.E.sz j := Nat.mul_le_mul_right _ (by have := hrow.1; omega)
         rw [Nat.add_mul] at h1
         omega
        have hex : ∀ c, c < n → (∃ u, w.cell? ⟨B, o + i.toNat * G.E.sz j + fld + c, none⟩ = some u) ∧ w.frozen? ⟨B, o + i.toNat * G.E.sz j + fld + c, none⟩ = false := fun c hc' => by
         have := hc (i.toNat * G.E.sz j + fld + c) (by omega)
         rwa [show o + (i.toNat * G.E.sz j + fld + c) = o + i.toNat * G.E.sz j + fld + c by omega] at this
        have hst := run_storeVar hn hsz h1 hex
        refine ⟨_, w.setCells B (o + i.toNat * G.E.sz j + fld) v.cells.toList, F1, h, by simp [Instr.storeAt, Instr.sureAddr, hst], s1.trans (Step.write s1.heap s1.fram hb1 rfl rfl (b' := .rows .own j ep' (xs.set i.toNat y)) (by simp [Blk.info]) rfl hl (o + i.toNat * G.E.sz j + fld) v.cells.toList fun KK => ?_)⟩
        have hcell := fun c => cell_setCells (w := w) (B := B) (o := o + i.toNat * G.E.sz j + fld) (vs := v.cells.toList) (fun c hc' => (hex c (by omega)).1) c
        simp only [BRep, List.length_set]
        refine ⟨⟨hrow.1, hrow.2.1, .inr ⟨B, o, hl, by rw [(setCells_frame B _ _ w).2.2.2.1]; exact hB, fun c hc' => ?_⟩⟩, fun B' o' ha q z c p hz hp => ?_⟩
        ·rw [World.frozen?_setCells, hcell]
         refine ⟨?_, (hc c hc').2⟩
         split
         ·rename_i hin
          exact ⟨_, List.getElem?_eq_getElem (by omega)⟩
         ·exact (hc c hc').1
        ·rw [hl] at ha; cases ha
         rw [hcell]
         have hclt : c < G.E.sz j := by
          have := (List.getElem?_eq_some_iff.1 hp).1
          rwa [ok.sz] at this
         have hqlt : q < xs.length := by
          have := (List.getElem?_eq_some_iff.1 hz).1
          simpa using this
         rw [List.getElem?_set] at hz
         by_cases hiq : i.toNat = q
         ·subst hiq
          rw [if_pos rfl] at hz
          simp [i1] at hz; subst hz
          have hc2 : c < ((G.E.outs j x0).take fld ++ cells ++ (G.E.outs j x0).drop (fld + cells.length)).length := by
           rw [← y1, ok.sz]; exact hclt
          by_cases hin : fld ≤ c ∧ c < fld + cells.length
          ·rw [if_pos (by omega)]
           have hq' : ((G.E.outs j x0).take fld ++ cells ++ (G.E.outs j x0).drop (fld + cells.length))[c]? = some cells[c - fld] := by
            rw [List.append_assoc, List.getElem?_append_right (by rw [List.length_take]; omega), List.getElem?_append_left (by rw [List.length_take]; omega), List.length_take, show c - min fld (G.E.outs j x0).length = c - fld by omega, List.getElem?_eq_getElem (by omega)]
           obtain ⟨u, hu, hcold⟩ := c1.get (List.getElem?_eq_getElem (show c - fld < cells.length by omega))
           refine ⟨u, by rw [show o + i.toNat * G.E.sz j + c - (o + i.toNat * G.E.sz j + fld) = c - fld by omega]; exact hu, ?_⟩
           exact FRep.mono KK.fz KK.heap (y2 w F1 c _ p u hq' hp hcold)
          ·rw [if_neg (by omega)]
           have hq' : ((G.E.outs j x0).take fld ++ cells ++ (G.E.outs j x0).drop (fld + cells.length))[c]? = (G.E.outs j x0)[c]? := by
            by_cases hlt : c < fld
            ·rw [List.append_assoc, List.getElem?_append_left (by rw [List.length_take]; omega), List.getElem?_take, if_pos hlt]
            ·rw [List.getElem?_append_right (by rw [List.length_append, List.length_take]; omega), List.getElem?_drop, List.length_append, List.length_take, show fld + cells.length + (c - (min fld (G.E.outs j x0).length + cells.length)) = c by omega]
           rw [List.getElem?_eq_getElem (show c < (G.E.outs j x0).length by omega)] at hq'
           obtain ⟨u, k1, k2⟩ := hcells B o hl _ x0 c _ hx0 (List.getElem?_eq_getElem (show c < (G.E.outs j x0).length by omega))
           exact ⟨u, k1, FRep.mono KK.fz KK.heap (y2 w F1 c _ p u hq' hp (.inl k2))⟩
         ·rw [if_neg hiq] at hz
          have hfar : ¬ (o + i.toNat * G.E.sz j + fld ≤ o + q * G.E.sz j + c ∧ o + q * G.E.sz j + c < o + i.toNat * G.E.sz j + fld + v.cells.toList.length) := by
           rintro ⟨q1, q2⟩
           rcases Nat.lt_or_gt_of_ne hiq with hlt | hgt
           ·have h3 : (i.toNat + 1) * G.E.sz j ≤ q * G.E.sz j := Nat.mul_le_mul_right _ hlt
            rw [Nat.add_mul] at h3
            omega
           ·have h3 : (q + 1) * G.E.sz j ≤ i.toNat * G.E.sz j := Nat.mul_le_mul_right _ hgt
            rw [Nat.add_mul] at h3
            omega
          rw [if_neg hfar]
          obtain ⟨u, k1, k2⟩ := hcells B o hl q z c p hz hp
          exact ⟨u, k1, FRep.mono KK.fz KK.heap k2⟩
       ·cases h
      ·cases h
     ·cases h
    ·cases h
   ·cases h
  ·cases h
 ·exact absurd rfl (hna _ _ _ _)
 ·cases h
theorem storeV_sound (ok : EnvOk G.E) {t : TypeId} {a p : PV G.E.T} {K : List (Blk G.E.T) → Option R} (h : storeV G H t a p K = some r) (hH : HRep G.E w Fz ι H) (hF : Fram G.E X w Fz ι H)
  {x v : Value} (hx : PRep G.E w Fz ι H a x) (hv : PRep G.E w Fz ι H p v) :
  ∃ H' w' Fz', K H' = some r ∧ (Instr.storeAt t x v).run G.P w = .ok () w' ∧ Step G.E X w w' Fz Fz' ι ι H H' := by
 cases a with
 | aptr id off n i =>
  simp only [PRep] at hx
  obtain ⟨h0, hx⟩ := hx
  exact storeV_sound0 ok (by intros; simp) (storeV_aptr h0 h) hH hF (a := .ptr id (off + i.toNat)) (by simp only [PRep]; exact hx) hv
 | _ => exact storeV_sound0 ok (by intros; simp) h hH hF hx hv
end
end Go.Proofs.YtgffdmgidnnedaaGreat.V
