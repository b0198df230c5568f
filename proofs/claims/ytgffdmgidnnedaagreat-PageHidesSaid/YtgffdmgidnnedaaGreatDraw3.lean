/- A region whose order is drawn: every order comes to the same. -/
import Derived.Test.YtgffdmgidnnedaaGreatDraw2
import Derived.Test.YtgffdmgidnnedaaGreatSound
import Derived.OrdersIn
namespace Go.Proofs.YtgffdmgidnnedaaGreat.V
open Go
set_option linter.unusedVariables false
set_option linter.unusedSimpArgs false
section
variable {G : Prg} {R : Type} {r : R} {X : Ctx} {N : Nat}
/-! ### 1. What must come before -/
/-- i must come up before j, in every mode -/
def Pre (ops : List Oper) (i j : Nat) : Prop := ∃ o e, getL ops j = some o ∧ e ∈ o.after.toList ∧ Region.binds .any e = true ∧ e.on = i
structure AncOk (ops : List Oper) (anc : List Nat) : Prop where
 len : anc.length = ops.length
 pre : ∀ i j, Pre ops i j → i < j
 mask : ∀ i j, ordB anc i j = true → i < j ∧ (Pre ops i j ∨ ∃ c, Pre ops c j ∧ ordB anc c j = true ∧ ordB anc i c = true)
theorem edgeMask_spec {anc : List Nat} : ∀ {l : List Edge} {m : Nat}, edgeMask anc l = some m → (∀ e ∈ l, Region.binds .any e = true → e.on < anc.length) ∧
  ∀ i, Nat.testBit m i = true → ∃ e ∈ l, Region.binds .any e = true ∧ (i = e.on ∨ ∃ a, getL anc e.on = some a ∧ Nat.testBit a i = true)
 | [], m, h => by
  simp only [edgeMask] at h; cases h
  exact ⟨by simp, fun i hi => by simp at hi⟩
 | e :: l, m, h => by
  simp only [edgeMask] at h
  split at h
  ·rename_i hb
   split at h
   ·rename_i a m' ha hm
    cases h
    obtain ⟨h1, h2⟩ := edgeMask_spec hm
    refine ⟨fun e' he' hb' => ?_, fun i hi => ?_⟩
    ·rcases List.mem_cons.1 he' with rfl | he'
     ·exact getL_lt ha
     ·exact h1 e' he' hb'
    ·rw [Nat.testBit_or, Nat.testBit_or, Nat.testBit_two_pow] at hi
     simp only [Bool.or_eq_true, decide_eq_true_eq] at hi
     rcases hi with (hi | hi) | hi
     ·exact ⟨e, List.mem_cons_self .., hb, .inl hi.symm⟩
     ·exact ⟨e, List.mem_cons_self .., hb, .inr ⟨a, ha, hi⟩⟩
     ·obtain ⟨e', h3, h4, h5⟩ := h2 i hi
      exact ⟨e', List.mem_cons_of_mem _ h3, h4, h5⟩
   ·cases h
  ·rename_i hb
   obtain ⟨h1, h2⟩ := edgeMask_spec h
   refine ⟨fun e' he' hb' => ?_, fun i hi => ?_⟩
   ·rcases List.mem_cons.1 he' with rfl | he'
    ·rw [hb] at hb'; cases hb'
    ·exact h1 e' he' hb'
   ·obtain ⟨e', h3, h4, h5⟩ := h2 i hi
    exact ⟨e', List.mem_cons_of_mem _ h3, h4, h5⟩
theorem testBit_self {m i : Nat} {l : List Edge} {anc : List Nat} (h : edgeMask anc l = some m) {e : Edge} (he : e ∈ l) (hb : Region.binds .any e = true) : Nat.testBit m e.on = true := by
 induction l generalizing m with
 | nil => simp at he
 | cons x l ih =>
  simp only [edgeMask] at h
  split at h
  ·split at h
   ·rename_i a m' ha hm
    cases h
    rw [Nat.testBit_or, Nat.testBit_or, Nat.testBit_two_pow]
    rcases List.mem_cons.1 he with rfl | he
    ·simp
    ·rw [ih hm he]; simp
   ·cases h
  ·rename_i hb'
   rcases List.mem_cons.1 he with rfl | he
   ·rw [hb] at hb'; cases hb'
   ·exact ih h he
theorem ancOf_spec : ∀ {rest : List Oper} {done : List Oper} {acc anc : List Nat}, ancOf rest acc = some anc → AncOk done acc → AncOk (done ++ rest) anc
 | [], done, acc, anc, h, hok => by
  simp only [ancOf] at h; cases h
  rw [List.append_nil]; exact hok
 | o :: rest, done, acc, anc, h, hok => by
  simp only [ancOf] at h
  split at h
  ·rename_i m hm
   have := ancOf_spec (done := done ++ [o]) h ?_
   ·rw [List.append_assoc] at this; exact this
   ·obtain ⟨h1, h2⟩ := edgeMask_spec hm
    have old : ∀ i j, j < done.length → ordB (acc ++ [m]) i j = ordB acc i j := by
     intro i j hj
     unfold ordB
     rw [getL_append_lt (by rw [hok.len]; exact hj)]
    have preold : ∀ i j, j < done.length → (Pre (done ++ [o]) i j ↔ Pre done i j) := by
     intro i j hj
     unfold Pre
     rw [getL_append_lt hj]
    have prenew : ∀ i, Pre (done ++ [o]) i done.length ↔ ∃ e ∈ o.after.toList, Region.binds .any e = true ∧ e.on = i := by
     intro i
     unfold Pre
     rw [getL_append_len]
     constructor
     ·rintro ⟨o', e, h3, h4, h5, h6⟩
      cases h3
      exact ⟨e, h4, h5, h6⟩
     ·rintro ⟨e, h4, h5, h6⟩
      exact ⟨o, e, rfl, h4, h5, h6⟩
    have ordnew : ∀ i, ordB (acc ++ [m]) i done.length = Nat.testBit m i := by
     intro i
     unfold ordB
     rw [← hok.len, getL_append_len]
    refine ⟨by simp [hok.len], fun i j hp => ?_, fun i j hb => ?_⟩
    ·have hj : j < (done ++ [o]).length := by
      obtain ⟨o', e, h3, _⟩ := hp
      exact getL_lt h3
     simp at hj
     by_cases hlt : j < done.length
     ·exact hok.pre i j ((preold i j hlt).1 hp)
     ·have : j = done.length := by omega
      subst this
      obtain ⟨e, h4, h5, h6⟩ := (prenew i).1 hp
      have := h1 e h4 h5
      rw [hok.len] at this
      omega
    ·have hj : j < acc.length + 1 := by
      unfold ordB at hb
      split at hb
      ·rename_i hg
       have := getL_lt hg
       simpa using this
      ·cases hb
     rw [hok.len] at hj
     by_cases hlt : j < done.length
     ·rw [old i j hlt] at hb
      obtain ⟨h3, h4⟩ := hok.mask i j hb
      refine ⟨h3, ?_⟩
      rcases h4 with h4 | ⟨c, h4, h5, h6⟩
      ·exact .inl ((preold i j hlt).2 h4)
      ·refine .inr ⟨c, (preold c j hlt).2 h4, by rw [old c j hlt]; exact h5, ?_⟩
       rw [old i c (Nat.lt_trans (hok.pre c j h4) hlt)]; exact h6
     ·have : j = done.length := by omega
      subst this
      rw [ordnew] at hb
      obtain ⟨e, h4, h5, h6⟩ := h2 i hb
      have hlt' := h1 e h4 h5
      rw [hok.len] at hlt'
      rcases h6 with rfl | ⟨a, h6, h7⟩
      ·exact ⟨hlt', .inl ((prenew _).2 ⟨e, h4, h5, rfl⟩)⟩
      ·have ho : ordB acc i e.on = true := by unfold ordB; rw [h6]; exact h7
       obtain ⟨h8, _⟩ := hok.mask i e.on ho
       refine ⟨by omega, .inr ⟨e.on, (prenew _).2 ⟨e, h4, h5, rfl⟩, by rw [ordnew]; exact testBit_self (i := i) hm h4 h5, by rw [old i e.on hlt']; exact ho⟩⟩
  ·cases h
theorem anc_ok {ops : List Oper} {anc : List Nat} (h : ancOf ops [] = some anc) : AncOk ops anc := by
 have := ancOf_spec (done := []) h ⟨rfl, fun i j hp => by obtain ⟨o, e, h3, _⟩ := hp; simp [getL] at h3, fun i j hb => by simp [ordB, getL] at hb⟩
 simpa using this
/-- a set of operations that have come up -/
def Closed (ops : List Oper) (S : Nat → Bool) : Prop := ∀ i j, S j = true → Pre ops i j → S i = true
theorem AncOk.ready {ops : List Oper} {anc : List Nat} (h : AncOk ops anc) {S : Nat → Bool} (hS : Closed ops S) : ∀ (j : Nat), (∀ i, Pre ops i j → S i = true) → ∀ i, ordB anc i j = true → S i = true := by
 intro j
 induction j using Nat.strongRecOn with
 | _ j ih =>
  intro hp i hi
  obtain ⟨_, h2⟩ := h.mask i j hi
  rcases h2 with h2 | ⟨c, h2, h3, h4⟩
  ·exact hp i h2
  ·exact ih c (h.pre c j h2) (fun i' hi' => hS i' c (hp c h2) hi') i h4
theorem AncOk.inS {ops : List Oper} {anc : List Nat} (h : AncOk ops anc) {S : Nat → Bool} (hS : Closed ops S) {i j : Nat} (hj : S j = true) (hi : ordB anc i j = true) : S i = true :=
 h.ready hS j (fun i' hi' => hS i' j hj hi') i hi
/-! ### 2. Operations that do not stand in each other's way -/
theorem apartOne_spec {anc : List Nat} {j : Nat} {y : Option Nat × List Nat} : ∀ {l : List (Nat × (Option Nat × List Nat))}, apartOne anc j y l = true → ∀ i x, (i, x) ∈ l → ordB anc i j = true ∨ apartT x y = true
 | [], _, i, x, h => by simp at h
 | (i', x') :: l, h, i, x, hm => by
  simp only [apartOne] at h
  split at h
  ·rename_i ho
   rcases List.mem_cons.1 hm with e | hm
   ·cases e; exact .inl ho
   ·exact apartOne_spec h i x hm
  ·split at h
   ·rename_i ha
    rcases List.mem_cons.1 hm with e | hm
    ·cases e; exact .inr ha
    ·exact apartOne_spec h i x hm
   ·cases h
theorem apartAll_spec {anc : List Nat} {ops : List Oper} : ∀ {rest done : List Oper} {acc : List (Nat × (Option Nat × List Nat))}, apartAll anc ops done.length rest acc = true →
  (∀ i o, getL done i = some o → (i, (o.dst, looksOf ops o)) ∈ acc) → ∀ i j o o', i < j → done.length ≤ j → getL (done ++ rest) i = some o → getL (done ++ rest) j = some o' →
   ordB anc i j = true ∨ apartT (o.dst, looksOf ops o) (o'.dst, looksOf ops o') = true
 | [], done, acc, h, hacc, i, j, o, o', hij, hj, ho, ho' => by
  have := getL_lt ho'
  simp at this
  omega
 | q :: rest, done, acc, h, hacc, i, j, o, o', hij, hj, ho, ho' => by
  simp only [apartAll] at h
  split at h
  ·rename_i h1
   by_cases he : j = done.length
   ·subst he
    have e1 : getL (done ++ q :: rest) i = getL done i := getL_append_lt hij
    have e2 : getL (done ++ q :: rest) done.length = some q := by rw [getL_append_right (Nat.le_refl _), Nat.sub_self]; rfl
    rw [e1] at ho
    rw [e2] at ho'; cases ho'
    exact apartOne_spec h1 i _ (hacc i o ho)
   ·have hl : (done ++ [q]).length = done.length + 1 := by simp
    refine apartAll_spec (done := done ++ [q]) (acc := (done.length, (q.dst, looksOf ops q)) :: acc) (by rw [hl]; exact h) (fun i o hi => ?_) i j o o' hij (by rw [hl]; omega) (by simpa using ho) (by simpa using ho')
    by_cases hd : i = done.length
    ·subst hd
     rw [getL_append_len] at hi; cases hi
     exact List.mem_cons_self ..
    ·rw [getL_append_ne hd] at hi
     exact List.mem_cons_of_mem _ (hacc i o hi)
  ·cases h
structure Apart (x y : Option Nat × List Nat) : Prop where
 l : ∀ d, x.1 = some d → d ∉ y.2
 r : ∀ d, y.1 = some d → d ∉ x.2
 ne : ∀ d, x.1 = some d → y.1 ≠ some d
theorem notIn_spec {d : Option Nat} {l : List Nat} (h : notIn d l = true) : ∀ e, d = some e → e ∉ l := by
 rintro e rfl hm
 simp only [notIn, memN_iff.2 hm] at h
 cases h
theorem apartT_spec {x y : Option Nat × List Nat} (h : apartT x y = true) : Apart x y := by
 unfold apartT at h
 split at h
 ·rename_i h1 h2 h3
  refine ⟨notIn_spec h1, notIn_spec h2, fun d hd e => ?_⟩
  rw [hd] at h3
  exact notIn_spec h3 d e (by simp)
 ·cases h
theorem kinds_spec {anc : List Nat} : ∀ {tr : List (Nat × Kind)}, fitsAll anc tr = true → ∀ a b : Nat, ∀ i j κ κ', getL tr a = some (j, κ') → getL tr b = some (i, κ) → a < b → ordB anc i j = true ∨ kindsFit κ κ' = true
 | [], _, a, b, i, j, κ, κ', h, _, _ => by simp [getL] at h
 | (j0, κ0) :: l, h, a, b, i, j, κ, κ', ha, hb, hab => by
  simp only [fitsAll] at h
  split at h
  ·rename_i h1
   obtain ⟨b, rfl⟩ : ∃ c, b = c + 1 := ⟨b - 1, by omega⟩
   simp only [getL] at hb
   cases a with
   | zero =>
    simp only [getL, Option.some.injEq, Prod.mk.injEq] at ha
    obtain ⟨rfl, rfl⟩ := ha
    have one : ∀ {l : List (Nat × Kind)} {b : Nat}, fitsOne anc j0 κ0 l = true → getL l b = some (i, κ) → ordB anc i j0 = true ∨ kindsFit κ κ0 = true := by
     intro l
     induction l with
     | nil => intro b _ hb; simp [getL] at hb
     | cons q l ih =>
      obtain ⟨i', κ''⟩ := q
      intro b h1 hb
      simp only [fitsOne] at h1
      cases b with
      | zero =>
       simp only [getL, Option.some.injEq, Prod.mk.injEq] at hb
       obtain ⟨rfl, rfl⟩ := hb
       split at h1
       ·exact .inl ‹_›
       ·split at h1
        ·exact .inr ‹_›
        ·cases h1
      | succ b =>
       simp only [getL] at hb
       split at h1
       ·exact ih h1 hb
       ·split at h1
        ·exact ih h1 hb
        ·cases h1
    exact one h1 hb
   | succ a =>
    simp only [getL] at ha
    exact kinds_spec h a b i j κ κ' ha hb (by omega)
  ·cases h
theorem footOk_spec {T : List Nat} {n : Nat} : ∀ {F : List Nat}, footOk T n F = true → ∀ id, id ∈ F → id < n ∧ id ∉ T
 | [], _, id, h => by simp at h
 | x :: F, h, id, hm => by
  simp only [footOk] at h
  split at h
  ·rename_i h1 h2
   rcases List.mem_cons.1 hm with rfl | hm
   ·exact ⟨blt_iff.1 h1, fun e => by rw [memN_iff.2 e] at h2; cases h2⟩
   ·exact footOk_spec h id hm
  ·cases h
end
end Go.Proofs.YtgffdmgidnnedaaGreat.V
