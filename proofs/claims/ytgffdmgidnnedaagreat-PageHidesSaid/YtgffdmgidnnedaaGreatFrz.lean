/- What is put into an element stands still from then on; stores. -/
import Derived.Test.YtgffdmgidnnedaaGreatMem
namespace Go.Proofs.YtgffdmgidnnedaaGreat.V
open Go
set_option linter.unusedVariables false
set_option linter.unusedSimpArgs false
section
variable {G : Prg} {w : World} {Fz : Nat → Prop} {ι : Nat → Loc} {H : List (Blk G.E.T)} {R : Type} {r : R} {X : Ctx}
def Blk.freeze {T : Nat → Type} : Blk T → Blk T
 | .ints _ k ep xs => .ints .frozen k ep xs
 | .rows _ i ep xs => .rows .frozen i ep xs
 | b => b
/-- the frozen blocks, and one more -/
def andBlock (Fz : Nat → Prop) (l : Loc) (B : Nat) : Prop := Fz B ∨ ∃ A, l.a = some A ∧ B = A.block
theorem info_freeze {E : Env} (b : Blk E.T) : b.freeze.info E = b.info E := by cases b <;> rfl
theorem BRep.freeze {E : Env} {w : World} {Fz : Nat → Prop} {ι : Nat → Loc} {H : List (Blk E.T)} {id : Nat} {b : Blk E.T} (h : BRep E w Fz ι H id b) : BRep E w Fz ι H id b.freeze := by
 cases b <;> exact h
theorem Step.freeze (hH : HRep G.E w Fz ι H) (hF : Fram G.E X w Fz ι H) {id : Nat} {b : Blk G.E.T} (hb : getL H id = some b) (hown : b.owned = true) (hprot : b.prot = false) (hfr : b.freeze.frozen = true) :
  Step G.E X w w Fz (andBlock Fz (ι id)) ι ι H (setL H id b.freeze) := by
 have hnf : b.freeze.owned = false := by cases b <;> simp_all [Blk.freeze, Blk.frozen, Blk.owned]
 have hle : HLe G.E ι H ι (setL H id b.freeze) := by
  intro j c hc
  by_cases hj : j = id
  ·subst hj
   rw [hb] at hc; cases hc
   exact ⟨_, getL_setL hb, StepB.same_info (info_freeze _) (owned_ne_gone hown)⟩
  ·exact ⟨c, by rw [getL_setL_ne hj]; exact hc, .refl c⟩
 have K : Keep G.E w w Fz (andBlock Fz (ι id)) ι ι H (setL H id b.freeze) := ⟨fun B h => .inl h, fun _ _ => rfl, hle⟩
 refine ⟨K, ?_, ⟨fun j c hc => ?_, fun i j c d A A' hij hi hj hc hd hA hA' => ?_, fun i c A hi ho hA hB => ?_, fun i c A hi ho hA => ?_, fun B hB => ?_⟩, ⟨hF.os, hF.tape, hF.output, hF.size, hF.block, fun i c A hi ho hA => ?_, fun B hB => ?_⟩,
  fun B ⟨u1, u2, u3⟩ => ⟨rfl, u1, fun hB => ?_, fun j c A hc hg hA e => ?_⟩⟩
 rotate_right 2
 ·rcases hB with hB | ⟨A, hA, rfl⟩
  ·exact u2 hB
  ·exact u3 id b A hb (owned_ne_gone hown) hA rfl
 ·by_cases hj : j = id
  ·subst hj
   exact u3 j b A hb (owned_ne_gone hown) hA e
  ·rw [getL_setL_ne hj] at hc
   exact u3 j c A hc hg hA e
 ·intro j c hc hp
  by_cases hj : j = id
  ·subst hj
   rw [hb] at hc; cases hc
   rcases hp with hp | hp
   ·rw [hprot] at hp; cases hp
   ·rw [owned_not_frozen hown] at hp; cases hp
  ·exact ⟨by rw [getL_setL_ne hj]; exact hc, rfl, fun _ _ => rfl⟩
 ·by_cases hj : j = id
  ·subst hj
   rw [getL_setL hb] at hc; cases hc
   exact ((hH.rep j b hb).keep K rfl (fun _ _ => rfl)).freeze
  ·rw [getL_setL_ne hj] at hc
   exact (hH.rep j c hc).keep K rfl (fun _ _ => rfl)
 ·by_cases hi' : i = id
  ·subst hi'
   rw [getL_setL hb] at hi; cases hi
   rw [hnf] at hc; cases hc
  ·by_cases hj' : j = id
   ·subst hj'
    rw [getL_setL hb] at hj; cases hj
    rw [hnf] at hd; cases hd
   ·rw [getL_setL_ne hi'] at hi
    rw [getL_setL_ne hj'] at hj
    exact hH.apart i j c d A A' hij hi hj hc hd hA hA'
 ·by_cases hi' : i = id
  ·subst hi'
   rw [getL_setL hb] at hi; cases hi
   rw [hnf] at ho; cases ho
  ·rw [getL_setL_ne hi'] at hi
   rcases hB with hB | ⟨A', hA', e⟩
   ·exact hH.free i c A hi ho hA hB
   ·exact hH.apart i id c b A A' hi' hi hb ho hown hA hA' e
 ·by_cases hi' : i = id
  ·subst hi'
   exact .inr ⟨A, hA, rfl⟩
  ·rw [getL_setL_ne hi'] at hi
   exact .inl (hH.held i c A hi ho hA)
 ·rcases hB with hB | ⟨A', hA', rfl⟩
  ·exact hH.fz B hB
  ·exact (hH.rep id b hb).lt (owned_ne_gone hown) hA'
 ·by_cases hi' : i = id
  ·subst hi'
   rw [getL_setL hb] at hi; cases hi
   rw [hnf] at ho; cases ho
  ·rw [getL_setL_ne hi'] at hi
   exact hF.own i c A hi ho hA
 ·rcases hB with hB | ⟨A', hA', rfl⟩
  ·exact hF.fz B hB
  ·exact .inr (hF.own id b A' hb hown hA')
/-- A block is given up, its memory is marked, and nobody writes it any more. -/
theorem Step.goneW (hH : HRep G.E w Fz ι H) (hF : Fram G.E X w Fz ι H) {id : Nat} {b : Blk G.E.T} (hb : getL H id = some b) (hown : b.owned = true) (hprot : b.prot = false)
  {w' : World} (hos : w'.os = w.os) (htape : w'.tape = w.tape) (hout : w'.output = w.output) (hsize : w'.heap.size = w.heap.size)
  (hmem : ∀ B, (∀ A, (ι id).a = some A → B ≠ A.block) → w'.heap[B]? = w.heap[B]?) :
  Step G.E X w w' Fz (andBlock Fz (ι id)) ι ι H (setL H id .gone) := by
 have hle : HLe G.E ι H ι (setL H id .gone) := by
  intro j c hc
  by_cases hj : j = id
  ·subst hj
   exact ⟨_, getL_setL hb, ⟨fun _ => ⟨rfl, rfl⟩, fun _ _ _ _ => .inl rfl, fun _ => rfl⟩⟩
  ·exact ⟨c, by rw [getL_setL_ne hj]; exact hc, .refl c⟩
 have hfz : ∀ B, Fz B → w'.heap[B]? = w.heap[B]? := fun B hB => hmem B fun A hA e => hH.free id b A hb hown hA (e ▸ hB)
 have hoth : ∀ j c A, j ≠ id → getL H j = some c → c ≠ .gone → (ι j).a = some A → w'.heap[A.block]? = w.heap[A.block]? := by
  intro j c A hj hc hg hA
  by_cases hco : c.owned = true
  ·exact hmem _ fun A' hA' => hH.apart j id c b A A' hj hc hb hco hown hA hA'
  ·exact hfz _ (hH.held j c A hc (frozen_of_not_owned (by simpa using hco) hg) hA)
 have K : Keep G.E w w' Fz (andBlock Fz (ι id)) ι ι H (setL H id .gone) := ⟨fun B h => .inl h, hfz, hle⟩
 refine ⟨K, ?_, ⟨fun j c hc => ?_, fun i j c d A A' hij hi hj hc hd hA hA' => ?_, fun i c A hi ho hA hB => ?_, fun i c A hi ho hA => ?_, fun B hB => ?_⟩, ⟨hos.trans hF.os, htape.trans hF.tape, hout.trans hF.output, by rw [hsize]; exact hF.size, fun B hB hO => ?_, fun i c A hi ho hA => ?_, fun B hB => ?_⟩,
  fun B ⟨u1, u2, u3⟩ => ⟨hmem B fun A hA e => u3 id b A hb (owned_ne_gone hown) hA e.symm, by rw [hsize]; exact u1, fun hB => ?_, fun j c A hc hg hA e => ?_⟩⟩
 rotate_right 2
 ·rcases hB with hB | ⟨A, hA, rfl⟩
  ·exact u2 hB
  ·exact u3 id b A hb (owned_ne_gone hown) hA rfl
 ·by_cases hj : j = id
  ·subst hj
   rw [getL_setL hb] at hc; cases hc
   exact hg rfl
  ·rw [getL_setL_ne hj] at hc
   exact u3 j c A hc hg hA e
 ·intro j c hc hp
  by_cases hj : j = id
  ·subst hj
   rw [hb] at hc; cases hc
   rcases hp with hp | hp
   ·rw [hprot] at hp; cases hp
   ·rw [owned_not_frozen hown] at hp; cases hp
  ·refine ⟨by rw [getL_setL_ne hj]; exact hc, rfl, fun A hA => hoth j c A hj hc ?_ hA⟩
   rintro rfl; rcases hp with hp | hp <;> cases hp
 ·by_cases hj : j = id
  ·subst hj
   rw [getL_setL hb] at hc; cases hc
   trivial
  ·rw [getL_setL_ne hj] at hc
   by_cases hg : c = .gone
   ·subst hg; trivial
   ·exact (hH.rep j c hc).keep K rfl fun A hA => hoth j c A hj hc hg hA
 ·by_cases hi' : i = id
  ·subst hi'
   rw [getL_setL hb] at hi; cases hi
   cases hc
  ·by_cases hj' : j = id
   ·subst hj'
    rw [getL_setL hb] at hj; cases hj
    cases hd
   ·rw [getL_setL_ne hi'] at hi
    rw [getL_setL_ne hj'] at hj
    exact hH.apart i j c d A A' hij hi hj hc hd hA hA'
 ·by_cases hi' : i = id
  ·subst hi'
   rw [getL_setL hb] at hi; cases hi
   cases ho
  ·rw [getL_setL_ne hi'] at hi
   rcases hB with hB | ⟨A', hA', e⟩
   ·exact hH.free i c A hi ho hA hB
   ·exact hH.apart i id c b A A' hi' hi hb ho hown hA hA' e
 ·by_cases hi' : i = id
  ·subst hi'
   exact .inr ⟨A, hA, rfl⟩
  ·rw [getL_setL_ne hi'] at hi
   exact .inl (hH.held i c A hi ho hA)
 ·rw [hsize]
  rcases hB with hB | ⟨A', hA', rfl⟩
  ·exact hH.fz B hB
  ·exact (hH.rep id b hb).lt (owned_ne_gone hown) hA'
 ·rw [hmem B fun A hA e => ?_]
  ·exact hF.block B hB hO
  ·subst e
   rcases hF.own id b A hb hown hA with h1 | h1
   ·exact hO h1
   ·omega
 ·by_cases hi' : i = id
  ·subst hi'
   rw [getL_setL hb] at hi; cases hi
   cases ho
  ·rw [getL_setL_ne hi'] at hi
   exact hF.own i c A hi ho hA
 ·rcases hB with hB | ⟨A', hA', rfl⟩
  ·exact hF.fz B hB
  ·exact .inr (hF.own id b A' hb hown hA')
/-- a part of a row of numbers, as what is read only -/
theorem FRep.of_ints {E : Env} {k : IntKind} {xs : List Int} {l : Loc} {a : Option Addr} {off len cap : Nat} (hr : RowAt w l xs.length 1) (hk : ∀ x ∈ xs, k.has x)
  (hc : ∀ B o, l.a = some ⟨B, o, none⟩ → ∀ j x, xs[j]? = some x → w.cell? ⟨B, o + j, none⟩ = some (.int k x)) (hlen : off + len ≤ xs.length) (hcap : len ≤ cap)
  (ha : 0 < len → ∃ B o, l.a = some ⟨B, o, none⟩ ∧ a = some ⟨B, o + off * 1, none⟩) (hf : ∀ A, l.a = some A → Fz A.block) :
  FRep E w Fz (.ints k ((xs.drop off).take len)) (.slice a len cap) := by
 have hl : ((xs.drop off).take len).length = len := by simp; omega
 have h := FRep.ints (E := E) (w := w) (Fz := Fz) (k := k) (xs := (xs.drop off).take len) (a := a) (cap := cap)
  (fun x hx => hk x (List.mem_of_mem_drop (List.mem_of_mem_take hx))) (by have := hr.2.1; omega) (by omega) (fun hne => by
   have hpos : 0 < len := by
    rcases Nat.eq_zero_or_pos len with h0 | h0
    ·subst h0; simp at hne
    ·exact h0
   obtain ⟨B, o, h1, h2⟩ := ha hpos
   refine ⟨B, o + off * 1, h2, hf _ h1, fun j x hj => ?_⟩
   rw [List.getElem?_take] at hj
   split at hj
   ·rw [List.getElem?_drop] at hj
    have := hc B o h1 _ x hj
    rwa [show o + off * 1 + j = o + (off + j) by omega]
   ·cases hj)
 rw [hl] at h
 exact h
theorem FRep.of_rows {i : Nat} {xs : List (G.E.T i)} {l : Loc} {a : Option Addr} {off len cap : Nat} (hr : RowAt w l xs.length (G.E.sz i))
  (hc : ∀ B o, l.a = some ⟨B, o, none⟩ → ∀ j x c p, xs[j]? = some x → (G.E.outs i x)[c]? = some p → ∃ u, w.cell? ⟨B, o + j * G.E.sz i + c, none⟩ = some u ∧ FRep G.E w Fz p u) (hlen : off + len ≤ xs.length) (hcap : len ≤ cap)
  (ha : 0 < len → ∃ B o, l.a = some ⟨B, o, none⟩ ∧ a = some ⟨B, o + off * G.E.sz i, none⟩) (hf : ∀ A, l.a = some A → Fz A.block) :
  FRep G.E w Fz (.rows i ((xs.drop off).take len)) (.slice a len cap) := by
 have hl : ((xs.drop off).take len).length = len := by simp; omega
 have hget : ∀ j x, ((xs.drop off).take len)[j]? = some x → xs[off + j]? = some x := by
  intro j x hj
  rw [List.getElem?_take] at hj
  split at hj
  ·rwa [List.getElem?_drop] at hj
  ·cases hj
 rcases Nat.eq_zero_or_pos len with h0 | hpos
 ·subst h0
  have h := FRep.rows (E := G.E) (w := w) (Fz := Fz) (i := i) (xs := (xs.drop off).take 0) (a := a) (cap := cap) (fun _ _ => undef) (by simp) (by simp) (by simp) (fun j x c p hj => by simp at hj)
  simpa using h
 ·obtain ⟨B, o, h1, h2⟩ := ha hpos
  have h := FRep.rows (E := G.E) (w := w) (Fz := Fz) (i := i) (xs := (xs.drop off).take len) (a := a) (cap := cap)
   (fun j c => (w.cell? ⟨B, o + (off + j) * G.E.sz i + c, none⟩).getD undef) (by have := hr.2.1; omega) (by omega)
   (fun _ => ⟨B, o + off * G.E.sz i, h2, hf _ h1, fun j x c p hj hp => by
    obtain ⟨u, g1, g2⟩ := hc B o h1 _ x c p (hget j x hj) hp
    rw [show o + off * G.E.sz i + j * G.E.sz i + c = o + (off + j) * G.E.sz i + c by rw [Nat.add_mul]; omega, g1]; rfl⟩)
   (fun j x c p hj hp => by
    obtain ⟨u, g1, g2⟩ := hc B o h1 _ x c p (hget j x hj) hp
    rw [g1]; exact g2)
  rw [hl] at h
  exact h
theorem take_all {α : Type} (xs : List α) : (xs.drop 0).take xs.length = xs := by simp
/-- what is read of a row as a whole, or of a part of it, whoever owns it (F: the memory that is held to stand still) -/
theorem ArrAt.frep_ints {E : Env} {ι : Nat → Loc} {id ep : Nat} {m : Mode} {k : IntKind} {ep' : Nat} {xs : List Int} {v : Value} (h : ArrAt E ι id ep (.ints m k ep' xs : Blk E.T) v) (he : ep = ep')
  (hr : RowAt w (ι id) xs.length 1) (hk : ∀ x ∈ xs, k.has x) (hc : ∀ B o, (ι id).a = some ⟨B, o, none⟩ → ∀ j x, xs[j]? = some x → w.cell? ⟨B, o + j, none⟩ = some (.int k x))
  {F : Nat → Prop} (hf : ∀ A, (ι id).a = some A → F A.block) : FRep E w F (.ints k xs) v := by
 have hv := (h.2 ep' xs.length 1 rfl).2 he
 subst hv
 have := FRep.of_ints (E := E) (Fz := F) (a := (ι id).a) (cap := (ι id).cap) (off := 0) (len := xs.length) hr hk hc (by omega) hr.1 (fun hp => by
  obtain ⟨B, o, h1⟩ := hr.addr hp
  exact ⟨B, o, h1, by rw [h1]; simp⟩) hf
 rwa [take_all] at this
theorem SubAt.frep_ints {E : Env} {ι : Nat → Loc} {id ep off len : Nat} {m : Mode} {k : IntKind} {ep' : Nat} {xs : List Int} {v : Value} (h : SubAt E ι id ep off len (.ints m k ep' xs : Blk E.T) v) (he : ep = ep')
  (hr : RowAt w (ι id) xs.length 1) (hk : ∀ x ∈ xs, k.has x) (hc : ∀ B o, (ι id).a = some ⟨B, o, none⟩ → ∀ j x, xs[j]? = some x → w.cell? ⟨B, o + j, none⟩ = some (.int k x))
  {F : Nat → Prop} (hf : ∀ A, (ι id).a = some A → F A.block) : FRep E w F (.ints k ((xs.drop off).take len)) v := by
 obtain ⟨h1, a, cap, rfl, h0, h2⟩ := (h.2 ep' xs.length 1 rfl).2 he
 exact FRep.of_ints hr hk hc h1 h0 h2 hf
theorem ArrAt.frep_rows {id ep : Nat} {m : Mode} {i : Nat} {ep' : Nat} {xs : List (G.E.T i)} {v : Value} (h : ArrAt G.E ι id ep (.rows m i ep' xs : Blk G.E.T) v) (he : ep = ep') {F : Nat → Prop}
  (hr : RowAt w (ι id) xs.length (G.E.sz i)) (hc : ∀ B o, (ι id).a = some ⟨B, o, none⟩ → ∀ j x c p, xs[j]? = some x → (G.E.outs i x)[c]? = some p → ∃ u, w.cell? ⟨B, o + j * G.E.sz i + c, none⟩ = some u ∧ FRep G.E w F p u)
  (hf : ∀ A, (ι id).a = some A → F A.block) : FRep G.E w F (.rows i xs) v := by
 have hv := (h.2 ep' xs.length (G.E.sz i) rfl).2 he
 subst hv
 have := FRep.of_rows (G := G) (Fz := F) (a := (ι id).a) (cap := (ι id).cap) (off := 0) (len := xs.length) hr hc (by omega) hr.1 (fun hp => by
  obtain ⟨B, o, h1⟩ := hr.addr hp
  exact ⟨B, o, h1, by rw [h1]; simp⟩) hf
 rwa [take_all] at this
theorem SubAt.frep_rows {id ep off len : Nat} {m : Mode} {i : Nat} {ep' : Nat} {xs : List (G.E.T i)} {v : Value} (h : SubAt G.E ι id ep off len (.rows m i ep' xs : Blk G.E.T) v) (he : ep = ep') {F : Nat → Prop}
  (hr : RowAt w (ι id) xs.length (G.E.sz i)) (hc : ∀ B o, (ι id).a = some ⟨B, o, none⟩ → ∀ j x c p, xs[j]? = some x → (G.E.outs i x)[c]? = some p → ∃ u, w.cell? ⟨B, o + j * G.E.sz i + c, none⟩ = some u ∧ FRep G.E w F p u)
  (hf : ∀ A, (ι id).a = some A → F A.block) : FRep G.E w F (.rows i ((xs.drop off).take len)) v := by
 obtain ⟨h1, a, cap, rfl, h0, h2⟩ := (h.2 ep' xs.length (G.E.sz i) rfl).2 he
 exact FRep.of_rows hr hc h1 h0 h2 hf
/-- read only, or the slice that is nil -/
def Cold (E : Env) (w : World) (Fz : Nat → Prop) (p : PV E.T) (v : Value) : Prop := FRep E w Fz p v ∨ (p = .nilsl ∧ v = .slice none 0 0)
theorem Cold.one {E : Env} {w : World} {Fz : Nat → Prop} {p : PV E.T} {v : Value} (h : Cold E w Fz p v) : v.oneCell' = true := by
 rcases h with h | ⟨_, rfl⟩
 ·cases h <;> rfl
 ·rfl
theorem Cold.mono {E : Env} {w w' : World} {Fz Fz' : Nat → Prop} (h1 : ∀ B, Fz B → Fz' B) (h2 : ∀ B, Fz B → w'.heap[B]? = w.heap[B]?) {p : PV E.T} {v : Value} (h : Cold E w Fz p v) : Cold E w' Fz' p v :=
 h.imp (·.mono h1 h2) id
theorem freezeP_sound (hH : HRep G.E w Fz ι H) (hF : Fram G.E X w Fz ι H) {p q : PV G.E.T} {H' : List (Blk G.E.T)} (h : freezeP H p = some (q, H')) {v : Value} (hv : PRep G.E w Fz ι H p v) :
  ∃ Fz', Step G.E X w w Fz Fz' ι ι H H' ∧ Cold G.E w Fz' q v := by
 have stay : ∀ {q' : PV G.E.T}, FRep G.E w Fz q' v → ∃ Fz', Step G.E X w w Fz Fz' ι ι H H ∧ Cold G.E w Fz' q' v := fun g => ⟨Fz, .refl hH hF, .inl g⟩
 unfold freezeP at h
 split at h
 case h_1 => cases h; simp only [PRep] at hv; exact stay hv
 case h_2 => cases h; simp only [PRep] at hv; exact stay hv
 case h_3 => cases h; simp only [PRep] at hv; exact stay hv
 case h_4 => cases h; simp only [PRep] at hv; exact stay hv
 case h_5 => cases h; simp only [PRep] at hv; exact stay hv
 case h_6 => cases h; simp only [PRep] at hv; exact ⟨Fz, .refl hH hF, .inr ⟨rfl, hv⟩⟩
 case h_7 id ep =>
  simp only [PRep] at hv
  obtain ⟨b, hb, hv⟩ := hv
  split at h
  ·rename_i k ep' xs hb'
   rw [hb] at hb'; cases hb'
   split at h
   ·rename_i he
    cases h
    have hs := Step.freeze hH hF hb rfl rfl rfl
    have hr := hs.heap.rep id _ (getL_setL hb)
    simp only [BRep, Blk.freeze] at hr
    exact ⟨_, hs, .inl (hv.frep_ints (nat_beq he) hr.1 hr.2.1 hr.2.2 fun A hA => .inr ⟨A, hA, rfl⟩)⟩
   ·cases h
  ·rename_i k ep' xs hb'
   rw [hb] at hb'; cases hb'
   split at h
   ·rename_i he
    cases h
    have hr := hH.rep id _ hb
    simp only [BRep] at hr
    exact stay (hv.frep_ints (nat_beq he) hr.1 hr.2.1 hr.2.2 fun A hA => hH.held id _ A hb rfl hA)
   ·cases h
  ·rename_i i ep' xs hb'
   rw [hb] at hb'; cases hb'
   split at h
   ·rename_i he
    cases h
    have hs := Step.freeze hH hF hb rfl rfl rfl
    have hr := hs.heap.rep id _ (getL_setL hb)
    simp only [BRep, Blk.freeze] at hr
    exact ⟨_, hs, .inl (hv.frep_rows (nat_beq he) hr.1 hr.2 fun A hA => .inr ⟨A, hA, rfl⟩)⟩
   ·cases h
  ·rename_i i ep' xs hb'
   rw [hb] at hb'; cases hb'
   split at h
   ·rename_i he
    cases h
    have hr := hH.rep id _ hb
    simp only [BRep] at hr
    exact stay (hv.frep_rows (nat_beq he) hr.1 hr.2 fun A hA => hH.held id _ A hb rfl hA)
   ·cases h
  ·cases h
 case h_8 id ep off len =>
  simp only [PRep] at hv
  obtain ⟨b, hb, hv⟩ := hv
  split at h
  ·rename_i k ep' xs hb'
   rw [hb] at hb'; cases hb'
   split at h
   ·rename_i he
    cases h
    have hs := Step.freeze hH hF hb rfl rfl rfl
    have hr := hs.heap.rep id _ (getL_setL hb)
    simp only [BRep, Blk.freeze] at hr
    exact ⟨_, hs, .inl (hv.frep_ints (nat_beq he) hr.1 hr.2.1 hr.2.2 fun A hA => .inr ⟨A, hA, rfl⟩)⟩
   ·cases h
  ·rename_i k ep' xs hb'
   rw [hb] at hb'; cases hb'
   split at h
   ·rename_i he
    cases h
    have hr := hH.rep id _ hb
    simp only [BRep] at hr
    exact stay (hv.frep_ints (nat_beq he) hr.1 hr.2.1 hr.2.2 fun A hA => hH.held id _ A hb rfl hA)
   ·cases h
  ·rename_i i ep' xs hb'
   rw [hb] at hb'; cases hb'
   split at h
   ·rename_i he
    cases h
    have hs := Step.freeze hH hF hb rfl rfl rfl
    have hr := hs.heap.rep id _ (getL_setL hb)
    simp only [BRep, Blk.freeze] at hr
    exact ⟨_, hs, .inl (hv.frep_rows (nat_beq he) hr.1 hr.2 fun A hA => .inr ⟨A, hA, rfl⟩)⟩
   ·cases h
  ·rename_i i ep' xs hb'
   rw [hb] at hb'; cases hb'
   split at h
   ·rename_i he
    cases h
    have hr := hH.rep id _ hb
    simp only [BRep] at hr
    exact stay (hv.frep_rows (nat_beq he) hr.1 hr.2 fun A hA => hH.held id _ A hb rfl hA)
   ·cases h
  ·cases h
 case h_9 => cases h
def Colds (E : Env) (w : World) (Fz : Nat → Prop) : List (PV E.T) → List Value → Prop
 | [], [] => True
 | p :: ps, v :: vs => Cold E w Fz p v ∧ Colds E w Fz ps vs
 | _, _ => False
theorem Colds.mono {E : Env} {w w' : World} {Fz Fz' : Nat → Prop} (h1 : ∀ B, Fz B → Fz' B) (h2 : ∀ B, Fz B → w'.heap[B]? = w.heap[B]?) : ∀ {ps : List (PV E.T)} {vs : List Value}, Colds E w Fz ps vs → Colds E w' Fz' ps vs
 | [], [], _ => trivial
 | _ :: _, _ :: _, h => ⟨h.1.mono h1 h2, h.2.mono h1 h2⟩
 | [], _ :: _, h => h
 | _ :: _, [], h => h
theorem Colds.length {E : Env} {w : World} {Fz : Nat → Prop} : ∀ {ps : List (PV E.T)} {vs : List Value}, Colds E w Fz ps vs → ps.length = vs.length
 | [], [], _ => rfl
 | _ :: _, _ :: _, h => by simp [Colds.length h.2]
 | [], _ :: _, h => h.elim
 | _ :: _, [], h => h.elim
theorem Colds.get {E : Env} {w : World} {Fz : Nat → Prop} : ∀ {ps : List (PV E.T)} {vs : List Value}, Colds E w Fz ps vs → ∀ {i : Nat} {p : PV E.T}, ps[i]? = some p → ∃ v, vs[i]? = some v ∧ Cold E w Fz p v
 | [], [], _, i, p, hi => by simp at hi
 | q :: ps, v :: vs, h, 0, p, hi => by simp at hi; subst hi; exact ⟨v, rfl, h.1⟩
 | q :: ps, v :: vs, h, i + 1, p, hi => by simp at hi ⊢; exact h.2.get hi
 | [], _ :: _, h, _, _, _ => h.elim
 | _ :: _, [], h, _, _, _ => h.elim
theorem Colds.ones {E : Env} {w : World} {Fz : Nat → Prop} : ∀ {ps : List (PV E.T)} {vs : List Value}, Colds E w Fz ps vs → ∀ u ∈ vs, u.oneCell' = true
 | [], [], _, u, hu => by simp at hu
 | _ :: _, v :: vs, h, u, hu => by
  simp only [List.mem_cons] at hu
  rcases hu with rfl | hu
  ·exact h.1.one
  ·exact h.2.ones u hu
 | [], _ :: _, h, _, _ => h.elim
 | _ :: _, [], h, _, _ => h.elim
theorem freezePs_sound : ∀ {ps qs : List (PV G.E.T)} {H H' : List (Blk G.E.T)} {Fz : Nat → Prop} (hH : HRep G.E w Fz ι H) (hF : Fram G.E X w Fz ι H) (h : freezePs H ps = some (qs, H')) {vs : List Value} (hv : PReps G.E w Fz ι H ps vs),
  ∃ Fz', Step G.E X w w Fz Fz' ι ι H H' ∧ Colds G.E w Fz' qs vs
 | [], qs, H, H', Fz, hH, hF, h, vs, hv => by
  simp [freezePs] at h
  obtain ⟨rfl, rfl⟩ := h
  cases vs with
  | nil => exact ⟨Fz, .refl hH hF, trivial⟩
  | cons v vs => simp only [PReps] at hv
 | p :: ps, qs, H, H', Fz, hH, hF, h, vs, hv => by
  cases vs with
  | nil => simp only [PReps] at hv
  | cons v vs =>
   simp only [PReps] at hv
   simp only [freezePs] at h
   split at h
   ·rename_i q H1 hq
    split at h
    ·rename_i l H2 hl
     cases h
     obtain ⟨F1, s1, c1⟩ := freezeP_sound hH hF hq hv.1
     obtain ⟨F2, s2, c2⟩ := freezePs_sound s1.heap s1.fram hl (PReps.mono s1.keep hv.2)
     exact ⟨F2, s1.trans s2, c1.mono s2.keep.fz s2.keep.heap, c2⟩
    ·cases h
   ·cases h
end
end Go.Proofs.YtgffdmgidnnedaaGreat.V
