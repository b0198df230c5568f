/- Values cast to shapes and built up again mean the same. -/
import Derived.Test.YtgffdmgidnnedaaGreatVop
namespace Go.Proofs.YtgffdmgidnnedaaGreat.V
open Go
set_option linter.unusedVariables false
set_option linter.unusedSimpArgs false
section
variable {G : Prg} {w : World} {Fz Fz' : Nat → Prop} {ι ι' : Nat → Loc} {H H' : List (Blk G.E.T)} {ρ : Nat → Nat × Nat}
def CS.le (a b : CS) : Prop := (∀ j x, lookB j a.bind = some x → lookB j b.bind = some x) ∧ ∀ id, id ∈ a.lent → id ∈ b.lent
theorem CS.le.refl (a : CS) : a.le a := ⟨fun _ _ h => h, fun _ h => h⟩
theorem CS.le.trans {a b c : CS} (h : a.le b) (g : b.le c) : a.le c := ⟨fun j x q => g.1 j x (h.1 j x q), fun i q => g.2 i (h.2 i q)⟩
theorem bindTo_le {cs cs' : CS} {j : Nat} {x : Option Nat} (h : bindTo cs j x = some cs') : cs.le cs' ∧ lookB j cs'.bind = some x ∧ cs'.lent = cs.lent := by
 unfold bindTo at h
 split at h
 ·rename_i hn
  cases h
  refine ⟨⟨fun i y hi => ?_, fun _ q => q⟩, ?_, rfl⟩
  ·simp only [lookB]
   split
   ·rename_i e
    have := Nat.eq_of_beq_eq_true e
    subst this
    rw [hn] at hi; cases hi
   ·exact hi
  ·simp only [lookB]
   have : Nat.beq j j = true := by simp
   rw [this]
 ·rename_i a b hn
  split at h
  ·rename_i e
   have := Nat.eq_of_beq_eq_true e
   subst this
   cases h
   exact ⟨.refl _, hn, rfl⟩
  ·cases h
 ·cases h
/-- what the bindings say of the old blocks and of the new ones -/
structure Agree (G : Prg) (w : World) (Fz Fz' : Nat → Prop) (ι ι' : Nat → Loc) (H H' : List (Blk G.E.T)) (ρ : Nat → Nat × Nat) (cs : CS) : Prop where
 old : ∀ j id, lookB j cs.bind = some (some id) → ∃ b b', getL H id = some b ∧ getL H' (ρ j).1 = some b' ∧ ι' (ρ j).1 = ι id ∧ (b.info G.E = none → b'.info G.E = none) ∧
  ∀ ep len sz, b.info G.E = some (ep, len, sz) → b'.info G.E = some ((ρ j).2, len, sz)
 new : ∀ j, lookB j cs.bind = some none → ∃ b' sz, getL H' (ρ j).1 = some b' ∧ b'.info G.E = some ((ρ j).2, 0, sz) ∧ ι' (ρ j).1 = ⟨none, 0⟩
 lent : ∀ id, id ∈ cs.lent → ∀ A, (ι id).a = some A → Fz' A.block
 fz : ∀ B, Fz B → Fz' B
/-- one value means at least what the other means -/
def Tr (G : Prg) (w : World) (Fz Fz' : Nat → Prop) (ι ι' : Nat → Loc) (H H' : List (Blk G.E.T)) (v v' : PV G.E.T) : Prop :=
 (v.one = true → v'.one = true) ∧ ∀ u, PRep G.E w Fz ι H v u → PRep G.E w Fz' ι' H' v' u
def Trs (G : Prg) (w : World) (Fz Fz' : Nat → Prop) (ι ι' : Nat → Loc) (H H' : List (Blk G.E.T)) : List (PV G.E.T) → List (PV G.E.T) → Prop
 | [], [] => True
 | v :: l, v' :: l' => Tr G w Fz Fz' ι ι' H H' v v' ∧ Trs G w Fz Fz' ι ι' H H' l l'
 | _, _ => False
theorem Trs.reps : ∀ {l l' : List (PV G.E.T)} {us : List Value}, Trs G w Fz Fz' ι ι' H H' l l' → PReps G.E w Fz ι H l us → PReps G.E w Fz' ι' H' l' us
 | [], [], _, _, h => by cases ‹List Value› <;> simp only [PReps] at h ⊢
 | v :: l, v' :: l', [], _, h => by simp only [PReps] at h
 | v :: l, v' :: l', u :: us, t, h => by
  simp only [PReps] at h ⊢
  exact ⟨t.1.2 u h.1, t.2.reps h.2⟩
 | [], _ :: _, _, t, _ => t.elim
 | _ :: _, [], _, t, _ => t.elim
theorem Trs.ones : ∀ {l l' : List (PV G.E.T)}, Trs G w Fz Fz' ι ι' H H' l l' → (∀ p ∈ l, p.one = true) → ∀ p ∈ l', p.one = true
 | [], [], _, _ => by simp
 | v :: l, v' :: l', t, h => by
  intro p hp
  rcases List.mem_cons.1 hp with rfl | hp
  ·exact t.1.1 (h v (List.mem_cons_self ..))
  ·exact t.2.ones (fun q hq => h q (List.mem_cons_of_mem _ hq)) p hp
 | [], _ :: _, t, _ => t.elim
 | _ :: _, [], t, _ => t.elim
theorem Trs.get : ∀ {l l' : List (PV G.E.T)}, Trs G w Fz Fz' ι ι' H H' l l' → ∀ {i : Nat} {p' : PV G.E.T}, l'[i]? = some p' → ∃ p, l[i]? = some p ∧ Tr G w Fz Fz' ι ι' H H' p p'
 | [], [], _, i, p', h => by simp at h
 | v :: l, v' :: l', t, 0, p', h => by
  simp only [List.getElem?_cons_zero, Option.some.injEq] at h
  subst h
  exact ⟨v, rfl, t.1⟩
 | v :: l, v' :: l', t, i + 1, p', h => by
  simp only [List.getElem?_cons_succ] at h ⊢
  exact t.2.get h
 | [], _ :: _, t, _, _, _ => t.elim
 | _ :: _, [], t, _, _, _ => t.elim
theorem lentIf_own {m : Mode} {id : Nat} (h : m ≠ .frozen) : id ∈ lentIf m id := by cases m <;> simp_all [lentIf]
theorem held_or_lent (hH : HRep G.E w Fz ι H) (hfz : ∀ B, Fz B → Fz' B) {id : Nat} {b : Blk G.E.T} (hb : getL H id = some b) {m : Mode} (hm : m = .frozen → b.frozen = true)
  (hl : ∀ i, i ∈ lentIf m id → ∀ A, (ι i).a = some A → Fz' A.block) : ∀ A, (ι id).a = some A → Fz' A.block := by
 intro A hA
 by_cases h : m = .frozen
 ·exact hfz _ (hH.held id b A hb (hm h) hA)
 ·exact hl id (lentIf_own h) A hA
theorem intsOf_rep (hH : HRep G.E w Fz ι H) (hfz : ∀ B, Fz B → Fz' B) {k : IntKind} {p : PV G.E.T} {ys : List Int} {l : List Nat} (h : intsOf H k p = some (ys, l))
  (hl : ∀ i, i ∈ l → ∀ A, (ι i).a = some A → Fz' A.block) : p.one = true ∧ ∀ x, PRep G.E w Fz ι H p x → FRep G.E w Fz' (.ints k ys) x := by
 unfold intsOf at h
 split at h
 ·split at h
  ·rename_i hk
   have := of_decide_eq_true hk
   subst this
   cases h
   refine ⟨rfl, fun x hx => ?_⟩
   simp only [PRep] at hx
   exact hx.mono hfz fun _ _ => rfl
  ·cases h
 ·cases h
  refine ⟨rfl, fun x hx => ?_⟩
  simp only [PRep] at hx
  subst hx
  exact .ints (xs := []) (by simp) (by simp) (by simp) (by simp)
 ·split at h
  ·rename_i m k' ep' xs hb
   split at h
   ·rename_i hk he
    have := of_decide_eq_true hk
    subst this
    cases h
    refine ⟨rfl, fun x hx => ?_⟩
    simp only [PRep] at hx
    obtain ⟨b, hb', hx⟩ := hx
    rw [hb] at hb'; cases hb'
    have hr := hH.rep _ _ hb
    simp only [BRep] at hr
    exact hx.frep_ints (nat_beq he) hr.1 hr.2.1 hr.2.2 (held_or_lent hH hfz hb (fun e => by subst e; rfl) hl)
   ·cases h
  ·cases h
 ·split at h
  ·rename_i m k' ep' xs hb
   split at h
   ·rename_i hk he
    have := of_decide_eq_true hk
    subst this
    cases h
    refine ⟨rfl, fun x hx => ?_⟩
    simp only [PRep] at hx
    obtain ⟨b, hb', hx⟩ := hx
    rw [hb] at hb'; cases hb'
    have hr := hH.rep _ _ hb
    simp only [BRep] at hr
    exact hx.frep_ints (nat_beq he) hr.1 hr.2.1 hr.2.2 (held_or_lent hH hfz hb (fun e => by subst e; rfl) hl)
   ·cases h
  ·cases h
 ·cases h
theorem BRep.rows_mono {id m i ep : Nat} {md : Mode} {xs : List (G.E.T i)} (h : BRep G.E w Fz ι H id (.rows md i ep xs)) (hfz : ∀ B, Fz B → Fz' B) :
  ∀ B o, (ι id).a = some ⟨B, o, none⟩ → ∀ j x c p, xs[j]? = some x → (G.E.outs i x)[c]? = some p → ∃ u, w.cell? ⟨B, o + j * G.E.sz i + c, none⟩ = some u ∧ FRep G.E w Fz' p u := by
 intro B o ha j x c p hj hp
 obtain ⟨u, h1, h2⟩ := h.2 B o ha j x c p hj hp
 exact ⟨u, h1, h2.mono hfz fun _ _ => rfl⟩
theorem rowsOf_rep (hH : HRep G.E w Fz ι H) (hfz : ∀ B, Fz B → Fz' B) {i : Nat} {p : PV G.E.T} {ys : List (G.E.T i)} {l : List Nat} (h : rowsOf H i p = some (ys, l))
  (hl : ∀ i, i ∈ l → ∀ A, (ι i).a = some A → Fz' A.block) : p.one = true ∧ ∀ x, PRep G.E w Fz ι H p x → FRep G.E w Fz' (.rows i ys) x := by
 unfold rowsOf at h
 split at h
 ·split at h
  ·rename_i hj
   subst hj
   cases h
   refine ⟨rfl, fun x hx => ?_⟩
   simp only [PRep] at hx
   exact hx.mono hfz fun _ _ => rfl
  ·cases h
 ·cases h
  refine ⟨rfl, fun x hx => ?_⟩
  simp only [PRep] at hx
  subst hx
  exact .rows (xs := []) (fun _ _ => undef) (by simp) (by simp) (by simp) (by simp)
 ·split at h
  ·rename_i m j ep' xs hb
   split at h
   ·rename_i he
    split at h
    ·rename_i hj
     subst hj
     cases h
     refine ⟨rfl, fun x hx => ?_⟩
     simp only [PRep] at hx
     obtain ⟨b, hb', hx⟩ := hx
     rw [hb] at hb'; cases hb'
     have hr := hH.rep _ _ hb
     exact hx.frep_rows (nat_beq he) hr.1 (BRep.rows_mono (m := 0) hr hfz) (held_or_lent hH hfz hb (fun e => by subst e; rfl) hl)
    ·cases h
   ·cases h
  ·cases h
 ·split at h
  ·rename_i m j ep' xs hb
   split at h
   ·rename_i he
    split at h
    ·rename_i hj
     subst hj
     cases h
     refine ⟨rfl, fun x hx => ?_⟩
     simp only [PRep] at hx
     obtain ⟨b, hb', hx⟩ := hx
     rw [hb] at hb'; cases hb'
     have hr := hH.rep _ _ hb
     exact hx.frep_rows (nat_beq he) hr.1 (BRep.rows_mono (m := 0) hr hfz) (held_or_lent hH hfz hb (fun e => by subst e; rfl) hl)
    ·cases h
   ·cases h
  ·cases h
 ·cases h
theorem isOwn_info {id ep : Nat} (h : isOwn H id ep = true) : ∃ b len sz, getL H id = some b ∧ b.info G.E = some (ep, len, sz) := by
 unfold isOwn at h
 split at h
 ·rename_i k ep' xs hb
  have := nat_beq h
  subst this
  exact ⟨_, _, _, hb, rfl⟩
 ·rename_i k ep' xs hb
  have := nat_beq h
  subst this
  exact ⟨_, _, _, hb, rfl⟩
 ·cases h
mutual
theorem castT_tr (hH : HRep G.E w Fz ι H) : ∀ (s : TSh) (v : PV G.E.T) {a : List (LV G.E.T)} {cs cs' : CS}, castT H s v cs = some (a, cs') →
  cs.le cs' ∧ ∀ r, (rebT ρ s (a ++ r)).2 = r ∧ ∀ {csF : CS}, cs'.le csF → Agree G w Fz Fz' ι ι' H H' ρ csF → Tr G w Fz Fz' ι ι' H H' v (rebT ρ s (a ++ r)).1
 | .int k, v, a, cs, cs', h => by
  cases v <;> simp only [castT] at h <;> try (cases h; done)
  split at h
  ·rename_i hk
   have := of_decide_eq_true hk
   subst this
   cases h
   refine ⟨.refl _, fun r => ⟨rfl, fun _ _ => ⟨fun _ => rfl, fun u hu => ?_⟩⟩⟩
   simp only [List.cons_append, List.nil_append, rebT, PRep] at hu ⊢
   cases hu; exact .int ‹_›
  ·cases h
 | .bool, v, a, cs, cs', h => by
  cases v <;> simp only [castT] at h <;> try (cases h; done)
  cases h
  refine ⟨.refl _, fun r => ⟨rfl, fun _ _ => ⟨fun _ => rfl, fun u hu => ?_⟩⟩⟩
  simp only [List.cons_append, List.nil_append, rebT, PRep] at hu ⊢
  cases hu; exact .bool
 | .str, v, a, cs, cs', h => by
  cases v <;> simp only [castT] at h <;> try (cases h; done)
  cases h
  refine ⟨.refl _, fun r => ⟨rfl, fun _ _ => ⟨fun _ => rfl, fun u hu => ?_⟩⟩⟩
  simp only [List.cons_append, List.nil_append, rebT, PRep] at hu ⊢
  cases hu; exact .str ‹_› ‹_›
 | .ints k, v, a, cs, cs', h => by
  simp only [castT] at h
  split at h
  ·rename_i xs l hl
   cases h
   refine ⟨⟨fun _ _ q => q, fun _ q => List.mem_append_right _ q⟩, fun r => ⟨rfl, fun hle hA => ?_⟩⟩
   obtain ⟨h1, h2⟩ := intsOf_rep (Fz' := Fz') hH hA.fz hl (fun i hi => hA.lent i (hle.2 i (List.mem_append_left _ hi)))
   refine ⟨fun _ => rfl, fun u hu => ?_⟩
   simp only [List.cons_append, List.nil_append, rebT, PRep]
   exact h2 u hu
  ·cases h
 | .rows i, v, a, cs, cs', h => by
  simp only [castT] at h
  split at h
  ·rename_i xs l hl
   cases h
   refine ⟨⟨fun _ _ q => q, fun _ q => List.mem_append_right _ q⟩, fun r => ⟨by simp [rebT], fun hle hA => ?_⟩⟩
   obtain ⟨h1, h2⟩ := rowsOf_rep (Fz' := Fz') hH hA.fz hl (fun i hi => hA.lent i (hle.2 i (List.mem_append_left _ hi)))
   refine ⟨fun _ => by simp [rebT, PV.one], fun u hu => ?_⟩
   simp only [List.cons_append, List.nil_append, rebT, dite_true, PRep]
   exact h2 u hu
  ·cases h
 | .arr j, v, a, cs, cs', h => by
  cases v <;> simp only [castT] at h <;> try (cases h; done)
  case arr id ep =>
   split at h
   ·rename_i ho
    split at h
    ·rename_i cs1 hb
     cases h
     obtain ⟨b1, b2, _⟩ := bindTo_le hb
     refine ⟨b1, fun r => ⟨rfl, fun hle hA => ⟨fun _ => rfl, fun u hu => ?_⟩⟩⟩
     obtain ⟨b, len, sz, hbb, hi⟩ := isOwn_info ho
     obtain ⟨b0, b', g1, g2, g3, g4, g5⟩ := hA.old j id (hle.1 _ _ b2)
     rw [hbb] at g1; cases g1
     simp only [List.nil_append, rebT, PRep] at hu ⊢
     obtain ⟨b1', hb1, hu⟩ := hu
     rw [hbb] at hb1; cases hb1
     refine ⟨b', g2, hu.1, fun ep' len' sz' hi' => ?_⟩
     rw [g5 ep len sz hi] at hi'
     simp only [Option.some.injEq, Prod.mk.injEq] at hi'
     obtain ⟨rfl, rfl, rfl⟩ := hi'
     exact ⟨Nat.le_refl _, fun _ => by rw [g3]; exact (hu.2 ep len sz hi).2 rfl⟩
    ·cases h
   ·cases h
  case nilsl =>
   split at h
   ·rename_i cs1 hb
    cases h
    obtain ⟨b1, b2, _⟩ := bindTo_le hb
    refine ⟨b1, fun r => ⟨rfl, fun hle hA => ⟨fun _ => rfl, fun u hu => ?_⟩⟩⟩
    obtain ⟨b', sz, g1, g2, g3⟩ := hA.new j (hle.1 _ _ b2)
    simp only [List.nil_append, rebT, PRep] at hu ⊢
    subst hu
    refine ⟨b', g1, ⟨_, _, _, rfl⟩, fun ep' len' sz' hi' => ?_⟩
    rw [g2] at hi'
    simp only [Option.some.injEq, Prod.mk.injEq] at hi'
    obtain ⟨rfl, rfl, rfl⟩ := hi'
    exact ⟨Nat.le_refl _, fun _ => by rw [g3]⟩
   ·cases h
 | .agg l, v, a, cs, cs', h => by
  cases v <;> simp only [castT] at h <;> try (cases h; done)
  rename_i m
  obtain ⟨h1, h2⟩ := castTs_tr hH l m h
  refine ⟨h1, fun r => ?_⟩
  obtain ⟨g1, g2⟩ := h2 r
  simp only [rebT]
  refine ⟨g1, fun hle hA => ⟨fun e => by simp [PV.one] at e, fun u hu => ?_⟩⟩
  have g2 := g2 hle hA
  simp only [PRep] at hu ⊢
  obtain ⟨cs, rfl, q1, q2⟩ := hu
  exact ⟨cs, rfl, g2.ones q1, g2.reps q2⟩
 | .ptr j off, v, a, cs, cs', h => by
  cases v <;> simp only [castT] at h <;> try (cases h; done)
  rename_i id off'
  split at h
  ·rename_i ho
   have := nat_beq ho
   subst this
   split at h
   ·rename_i cs1 hb
    cases h
    obtain ⟨b1, b2, _⟩ := bindTo_le hb
    refine ⟨b1, fun r => ⟨rfl, fun hle hA => ⟨fun _ => rfl, fun u hu => ?_⟩⟩⟩
    obtain ⟨b0, b', g1, g2, g3, g4, g5⟩ := hA.old j id (hle.1 _ _ b2)
    simp only [List.nil_append, rebT, PRep] at hu ⊢
    obtain ⟨b1', hb1, hi, B, o, ha, rfl⟩ := hu
    rw [g1] at hb1; cases hb1
    exact ⟨b', g2, g4 hi, B, o, by rw [g3]; exact ha, rfl⟩
   ·cases h
  ·cases h
 | .mapr j, v, a, cs, cs', h => by
  cases v <;> simp only [castT] at h <;> try (cases h; done)
  rename_i id
  split at h
  ·rename_i cs1 hb
   cases h
   obtain ⟨b1, b2, _⟩ := bindTo_le hb
   refine ⟨b1, fun r => ⟨rfl, fun hle hA => ⟨fun _ => rfl, fun u hu => ?_⟩⟩⟩
   obtain ⟨b0, b', g1, g2, g3, g4, g5⟩ := hA.old j id (hle.1 _ _ b2)
   simp only [List.nil_append, rebT, PRep] at hu ⊢
   obtain ⟨b1', hb1, hi, B, ha, rfl⟩ := hu
   rw [g1] at hb1; cases hb1
   exact ⟨b', g2, g4 hi, B, by rw [g3]; exact ha, rfl⟩
  ·cases h
 | .nil, v, a, cs, cs', h => by
  cases v <;> simp only [castT] at h <;> try (cases h; done)
  cases h
  refine ⟨.refl _, fun r => ⟨rfl, fun _ _ => ⟨fun _ => rfl, fun u hu => ?_⟩⟩⟩
  simp only [List.nil_append, rebT, PRep] at hu ⊢
  exact hu
 | .nilsl, v, a, cs, cs', h => by
  cases v <;> simp only [castT] at h <;> try (cases h; done)
  cases h
  refine ⟨.refl _, fun r => ⟨rfl, fun _ _ => ⟨fun _ => rfl, fun u hu => ?_⟩⟩⟩
  simp only [List.nil_append, rebT, PRep] at hu ⊢
  exact hu
 | .lit k n, v, a, cs, cs', h => by
  cases v <;> simp only [castT] at h <;> try (cases h; done)
  split at h
  ·rename_i e1 e2
   cases h
   have := of_decide_eq_true e1
   have := of_decide_eq_true e2
   subst k; subst n
   refine ⟨.refl _, fun r => ⟨rfl, fun _ _ => ⟨fun _ => rfl, fun u hu => ?_⟩⟩⟩
   simp only [List.nil_append, rebT, PRep] at hu ⊢
   cases hu; exact .int ‹_›
  ·cases h
 | .litb b, v, a, cs, cs', h => by
  cases v <;> simp only [castT] at h <;> try (cases h; done)
  rename_i c
  cases b <;> cases c <;> simp only at h <;> try (cases h; done)
  all_goals
   cases h
   refine ⟨.refl _, fun r => ⟨rfl, fun _ _ => ⟨fun _ => rfl, fun u hu => ?_⟩⟩⟩
   simp only [List.nil_append, rebT, PRep] at hu ⊢
   cases hu; exact .bool
 | .fn f l, v, a, cs, cs', h => by
  cases v <;> simp only [castT] at h <;> try (cases h; done)
  rename_i g m
  split at h
  ·rename_i hf
   have := nat_beq hf
   subst this
   obtain ⟨h1, h2⟩ := castTs_tr hH l m h
   refine ⟨h1, fun r => ?_⟩
   obtain ⟨g1, g2⟩ := h2 r
   simp only [rebT]
   refine ⟨g1, fun hle hA => ⟨fun _ => rfl, fun u hu => ?_⟩⟩
   have g2 := g2 hle hA
   simp only [PRep] at hu ⊢
   obtain ⟨cs, rfl, q2⟩ := hu
   exact ⟨cs, rfl, g2.reps q2⟩
  ·cases h
theorem castTs_tr (hH : HRep G.E w Fz ι H) : ∀ (l : List TSh) (m : List (PV G.E.T)) {a : List (LV G.E.T)} {cs cs' : CS}, castTs H l m cs = some (a, cs') →
  cs.le cs' ∧ ∀ r, (rebTs ρ l (a ++ r)).2 = r ∧ ∀ {csF : CS}, cs'.le csF → Agree G w Fz Fz' ι ι' H H' ρ csF → Trs G w Fz Fz' ι ι' H H' m (rebTs ρ l (a ++ r)).1
 | [], [], a, cs, cs', h => by
  simp only [castTs] at h
  cases h
  exact ⟨.refl _, fun r => ⟨rfl, fun _ _ => trivial⟩⟩
 | s :: l, v :: m, a, cs, cs', h => by
  simp only [castTs] at h
  split at h
  ·rename_i a1 cs1 h1
   split at h
   ·rename_i a2 cs2 h2
    cases h
    obtain ⟨p1, p2⟩ := castT_tr hH s v h1
    obtain ⟨q1, q2⟩ := castTs_tr hH l m h2
    refine ⟨p1.trans q1, fun r => ?_⟩
    obtain ⟨e1, t1⟩ := p2 (a2 ++ r)
    obtain ⟨e2, t2⟩ := q2 r
    simp only [rebTs, List.append_assoc]
    rw [e1]
    exact ⟨e2, fun hle hA => ⟨t1 (q1.trans hle) hA, t2 hle hA⟩⟩
   ·cases h
  ·cases h
 | [], _ :: _, a, cs, cs', h => by simp only [castTs] at h; cases h
 | _ :: _, [], a, cs, cs', h => by simp only [castTs] at h; cases h
end
/-- what the shape b of the new block j says: TR, of the cells of a box -/
inductive BTr (H base : List (Blk G.E.T)) (ρ : Nat → Nat × Nat) (cs : CS) (TR : List (PV G.E.T) → List (PV G.E.T) → Prop) (j : Nat) (p : Blk G.E.T) : BSh → Blk G.E.T → Prop
 | gone : BTr H base ρ cs TR j p .gone .gone
 | same : sameB H base j = true → BTr H base ρ cs TR j p .same p
 | box {id : Nat} {cells : List TSh} {vs vs' : List (PV G.E.T)} : lookB j cs.bind = some (some id) → getL H id = some (.box .own vs) → TR vs vs' → BTr H base ρ cs TR j p (.box cells) (.box .own vs')
 | mp {id : Nat} {k : IntKind} : lookB j cs.bind = some (some id) → getL H id = some (.mp .own k) → BTr H base ρ cs TR j p (.mp k) (.mp .own k)
 | mpr {id : Nat} {k : KK} {i : Nat} {xs : List (G.E.T i)} : lookB j cs.bind = some (some id) → getL H id = some (.mpr .own k i xs) → BTr H base ρ cs TR j p (.mpr k i) (.mpr .own k i xs)
 | ints {id : Nat} {k : IntKind} {keep : Bool} {ep : Nat} {xs : List Int} : lookB j cs.bind = some (some id) → getL H id = some (.ints .own k ep xs) → (keep = true → ep = epOf base j ∧ id = j) →
   BTr H base ρ cs TR j p (.ints k keep) (.ints .own k (ρ j).2 xs)
 | ints0 {k : IntKind} : lookB j cs.bind = some none → BTr H base ρ cs TR j p (.ints k false) (.ints .own k (ρ j).2 [])
 | rows {id : Nat} {i : Nat} {keep : Bool} {ep : Nat} {xs : List (G.E.T i)} : lookB j cs.bind = some (some id) → getL H id = some (.rows .own i ep xs) → (keep = true → ep = epOf base j ∧ id = j) →
   BTr H base ρ cs TR j p (.rows i keep) (.rows .own i (ρ j).2 xs)
 | rows0 {i : Nat} : lookB j cs.bind = some none → BTr H base ρ cs TR j p (.rows i false) (.rows .own i (ρ j).2 [])
theorem keep_test {keep : Bool} {ep e id j : Nat} (h : (match keep with
   | true => match Nat.beq ep e with
    | true => Nat.beq id j
    | false => false
   | false => true) = true) : keep = true → ep = e ∧ id = j := by
 intro hk
 subst hk
 simp only at h
 split at h
 ·rename_i he
  exact ⟨nat_beq he, nat_beq h⟩
 ·cases h
theorem castB_tr (hH : HRep G.E w Fz ι H) {base : List (Blk G.E.T)} {j : Nat} {b : BSh} {a : List (LV G.E.T)} {cs cs' : CS} (h : castB H base j b cs = some (a, cs')) :
  cs.le cs' ∧ ∀ p r, (rebB ρ (ρ j).2 p b (a ++ r)).2 = r ∧ ∀ {csF : CS}, cs'.le csF → BTr H base ρ csF (fun vs vs' => Agree G w Fz Fz' ι ι' H H' ρ csF → Trs G w Fz Fz' ι ι' H H' vs vs') j p b (rebB ρ (ρ j).2 p b (a ++ r)).1 := by
 cases b with
 | gone =>
  simp only [castB] at h
  cases h
  exact ⟨.refl _, fun p r => ⟨by simp [rebB], fun _ => by simp only [rebB]; exact .gone⟩⟩
 | same =>
  simp only [castB] at h
  split at h
  ·rename_i hs
   cases h
   exact ⟨.refl _, fun p r => ⟨by simp [rebB], fun _ => by simp only [rebB]; exact .same hs⟩⟩
  ·cases h
 | box cells =>
  simp only [castB] at h
  split at h
  ·rename_i id hb
   split at h
   ·rename_i vs hid
    obtain ⟨h1, h2⟩ := castTs_tr (ρ := ρ) (Fz' := Fz') (ι' := ι') (H' := H') hH cells vs h
    refine ⟨h1, fun p r => ?_⟩
    obtain ⟨g1, g2⟩ := h2 r
    simp only [rebB]
    exact ⟨g1, fun hle => .box (hle.1 _ _ (h1.1 _ _ hb)) hid fun hA => g2 hle hA⟩
   ·cases h
  ·cases h
 | mp k =>
  simp only [castB] at h
  split at h
  ·rename_i id hb
   split at h
   ·rename_i k' hid
    split at h
    ·rename_i hk
     have := of_decide_eq_true hk
     subst this
     cases h
     exact ⟨.refl _, fun p r => ⟨by simp [rebB], fun hle => by
      simp only [List.nil_append, rebB]; exact .mp (hle.1 _ _ hb) hid⟩⟩
    ·cases h
   ·cases h
  ·cases h
 | mpr k i =>
  simp only [castB] at h
  split at h
  ·rename_i id hb
   split at h
   ·rename_i k' i' xs hid
    split at h
    ·rename_i hi
     subst hi
     split at h
     ·rename_i hk
      have := KK.beq_eq hk
      subst this
      cases h
      exact ⟨.refl _, fun p r => ⟨by simp [rebB], fun hle => by
       simp only [List.cons_append, List.nil_append, rebB, dite_true]; exact .mpr (hle.1 _ _ hb) hid⟩⟩
     ·cases h
    ·cases h
   ·cases h
  ·cases h
 | ints k keep =>
  simp only [castB] at h
  split at h
  ·rename_i id hb
   split at h
   ·rename_i k' ep xs hid
    split at h
    ·rename_i hk hkeep
     have := of_decide_eq_true hk
     subst this
     cases h
     exact ⟨.refl _, fun p r => ⟨by simp [rebB], fun hle => by
      simp only [List.cons_append, List.nil_append, rebB]; exact .ints (hle.1 _ _ hb) hid (keep_test hkeep)⟩⟩
    ·cases h
   ·cases h
  ·rename_i hb
   split at h
   ·cases h
   ·cases h
    exact ⟨.refl _, fun p r => ⟨by simp [rebB], fun hle => by
     simp only [List.cons_append, List.nil_append, rebB]; exact .ints0 (hle.1 _ _ hb)⟩⟩
  ·cases h
 | rows i keep =>
  simp only [castB] at h
  split at h
  ·rename_i id hb
   split at h
   ·rename_i i' ep xs hid
    split at h
    ·rename_i hi
     subst hi
     split at h
     ·rename_i hkeep
      cases h
      exact ⟨.refl _, fun p r => ⟨by simp [rebB], fun hle => by
       simp only [List.cons_append, List.nil_append, rebB, dite_true]; exact .rows (hle.1 _ _ hb) hid (keep_test hkeep)⟩⟩
     ·cases h
    ·cases h
   ·cases h
  ·rename_i hb
   split at h
   ·cases h
   ·cases h
    exact ⟨.refl _, fun p r => ⟨by simp [rebB], fun hle => by
     simp only [List.cons_append, List.nil_append, rebB, dite_true]; exact .rows0 (hle.1 _ _ hb)⟩⟩
  ·cases h
def atB (P : List (Blk G.E.T)) (k : Nat) : Blk G.E.T := (getL P k).getD .gone
theorem headB_at (P : List (Blk G.E.T)) : headB P = atB P 0 := by cases P <;> rfl
theorem tailB_at (P : List (Blk G.E.T)) (k : Nat) : atB (tailB P) k = atB P (k + 1) := by cases P <;> rfl
theorem rebBs_length (ρ : Nat → Nat × Nat) : ∀ (bs : List BSh) (j : Nat) (P : List (Blk G.E.T)) (r : List (LV G.E.T)), (rebBs ρ j bs P r).length = bs.length
 | [], j, P, r => rfl
 | b :: l, j, P, r => by simp [rebBs, rebBs_length ρ l]
theorem castBs_tr (hH : HRep G.E w Fz ι H) {base : List (Blk G.E.T)} : ∀ (bs : List BSh) (j : Nat) {a : List (LV G.E.T)} {cs cs' : CS}, castBs H base j bs cs = some (a, cs') →
  cs.le cs' ∧ ∀ (P : List (Blk G.E.T)) r {csF : CS}, cs'.le csF → ∀ k b, getL bs k = some b → ∃ blk, getL (rebBs ρ j bs P (a ++ r)) k = some blk ∧
   BTr H base ρ csF (fun vs vs' => Agree G w Fz Fz' ι ι' H H' ρ csF → Trs G w Fz Fz' ι ι' H H' vs vs') (j + k) (atB P k) b blk
 | [], j, a, cs, cs', h => by
  simp only [castBs] at h
  cases h
  exact ⟨.refl _, fun P r csF hle k b hk => by simp [getL] at hk⟩
 | b :: bs, j, a, cs, cs', h => by
  simp only [castBs] at h
  split at h
  ·rename_i a1 cs1 h1
   split at h
   ·rename_i a2 cs2 h2
    cases h
    obtain ⟨p1, p2⟩ := castB_tr (ρ := ρ) (Fz' := Fz') (ι' := ι') (H' := H') hH h1
    obtain ⟨q1, q2⟩ := castBs_tr hH bs (j + 1) h2
    refine ⟨p1.trans q1, fun P r csF hle k b' hk => ?_⟩
    obtain ⟨e1, t1⟩ := p2 (headB P) (a2 ++ r)
    simp only [rebBs, List.append_assoc]
    cases k with
    | zero =>
     simp only [getL, Option.some.injEq] at hk
     subst hk
     exact ⟨_, rfl, by rw [← headB_at]; exact t1 (q1.trans hle)⟩
    | succ k =>
     simp only [getL] at hk ⊢
     rw [e1]
     obtain ⟨blk, g1, g2⟩ := q2 (tailB P) r hle k b' hk
     exact ⟨blk, g1, by rw [tailB_at] at g2; rwa [show j + 1 + k = j + (k + 1) by omega] at g2⟩
   ·cases h
  ·cases h
end
end Go.Proofs.YtgffdmgidnnedaaGreat.V
