import Derived.Test.YtcphcfknnfibmaaGreatF2
namespace Go.Proofs.YtcphcfknnfibmaaGreat.V
open Go Go.IntKind
set_option linter.unusedVariables false
set_option linter.unusedSimpArgs false
set_option linter.unusedSectionVars false
set_option maxRecDepth 100000
section
variable {G : Prg} {w : World} {Fz Fz' : Nat -> Prop} {ι ι' : Nat -> Loc} {H H' : List (Blk G.E.T)} {ρ : Nat -> Nat × Nat}
def CS.le (a b : CS) : Prop := (∀ j x, lookB j a.bind = some x -> lookB j b.bind = some x) ∧ ∀ id, id ∈ a.lent -> id ∈ b.lent
theorem CS.le.refl (a : CS) : a.le a := ⟨fun _ _ h => h, fun _ h => h⟩
theorem CS.le.trans {a b c : CS} (h : a.le b) (g : b.le c) : a.le c := ⟨fun j x q => g.1 j x (h.1 j x q), fun i q => g.2 i (h.2 i q)⟩
theorem B125 {cs cs' : CS} {j : Nat} {x : Option Nat} (h : B331 cs j x = some cs') : cs.le cs' ∧ lookB j cs'.bind = some x ∧ cs'.lent = cs.lent := by
 unfold B331 at h
 split at h
 ·rename_i hn
  cases h
  refine ⟨⟨fun i y hi => ?_, fun _ q => q⟩, ?_, rfl⟩
  ·simp only [lookB]
   split
   ·rename_i e
    have := A95 e
    subst this
    rw [hn] at hi; cases hi
   ·exact hi
  ·simp only [lookB]
   have : Nat.beq j j = true := by simp
   rw [this]
 ·rename_i a b hn
  split at h
  ·rename_i e
   have := A95 e
   subst this
   cases h
   exact ⟨.refl _, hn, rfl⟩
  ·cases h
 ·cases h
structure Agree (G : Prg) (w : World) (Fz Fz' : Nat -> Prop) (ι ι' : Nat -> Loc) (H H' : List (Blk G.E.T)) (ρ : Nat -> Nat × Nat) (cs : CS) : Prop where
 old : ∀ j id, lookB j cs.bind = some (some id) -> ∃ b b', getL H id = some b ∧ getL H' (ρ j).1 = some b' ∧ ι' (ρ j).1 = ι id ∧ (b.info G.E = none -> b'.info G.E = none) ∧
  ∀ ep len sz, b.info G.E = some (ep, len, sz) -> b'.info G.E = some ((ρ j).2, len, sz)
 new : ∀ j, lookB j cs.bind = some none -> ∃ b' sz, getL H' (ρ j).1 = some b' ∧ b'.info G.E = some ((ρ j).2, 0, sz) ∧ ι' (ρ j).1 = ⟨none, 0⟩
 lent : ∀ id, id ∈ cs.lent -> ∀ A, (ι id).a = some A -> Fz' A.block
 fz : ∀ B, Fz B -> Fz' B
def Tr (G : Prg) (w : World) (Fz Fz' : Nat -> Prop) (ι ι' : Nat -> Loc) (H H' : List (Blk G.E.T)) (v v' : PV G.E.T) : Prop :=
 (v.one = true -> v'.one = true) ∧ ∀ u, PRep G.E w Fz ι H v u -> PRep G.E w Fz' ι' H' v' u
def Trs (G : Prg) (w : World) (Fz Fz' : Nat -> Prop) (ι ι' : Nat -> Loc) (H H' : List (Blk G.E.T)) : List (PV G.E.T) -> List (PV G.E.T) -> Prop
 | [], [] => True
 | v :: l, v' :: l' => Tr G w Fz Fz' ι ι' H H' v v' ∧ Trs G w Fz Fz' ι ι' H H' l l'
 | _, _ => False
theorem Trs.reps : ∀ {l l' : List (PV G.E.T)} {us : List Value}, Trs G w Fz Fz' ι ι' H H' l l' -> PReps G.E w Fz ι H l us -> PReps G.E w Fz' ι' H' l' us
 | [], [], _, _, h => by cases ‹List Value› <;> simp only [PReps] at h ⊢
 | v :: l, v' :: l', [], _, h => by simp only [PReps] at h
 | v :: l, v' :: l', u :: us, t, h => by
  simp only [PReps] at h ⊢
  exact ⟨t.1.2 u h.1, t.2.reps h.2⟩
 | [], _ :: _, _, t, _ => t.elim
 | _ :: _, [], _, t, _ => t.elim
theorem Trs.ones : ∀ {l l' : List (PV G.E.T)}, Trs G w Fz Fz' ι ι' H H' l l' -> (∀ p ∈ l, p.one = true) -> ∀ p ∈ l', p.one = true
 | [], [], _, _ => by simp
 | v :: l, v' :: l', t, h => by
  intro p hp
  rcases A19.1 hp with rfl | hp
  ·exact t.1.1 (h v (A23 ..))
  ·exact t.2.ones (fun q hq => h q (A29 _ hq)) p hp
 | [], _ :: _, t, _ => t.elim
 | _ :: _, [], t, _ => t.elim
theorem Trs.get : ∀ {l l' : List (PV G.E.T)}, Trs G w Fz Fz' ι ι' H H' l l' -> ∀ {i : Nat} {p' : PV G.E.T}, l'[i]? = some p' -> ∃ p, l[i]? = some p ∧ Tr G w Fz Fz' ι ι' H H' p p'
 | [], [], _, i, p', h => by simp at h
 | v :: l, v' :: l', t, 0, p', h => by
  simp only [A110, A16] at h
  subst h
  exact ⟨v, rfl, t.1⟩
 | v :: l, v' :: l', t, i + 1, p', h => by
  simp only [A123] at h ⊢
  exact t.2.get h
 | [], _ :: _, t, _, _, _ => t.elim
 | _ :: _, [], t, _, _, _ => t.elim
theorem B849 {m : Mode} {id : Nat} (h : m ≠ .frozen) : id ∈ B150 m id := by cases m <;> simp_all [B150]
theorem B200 (hH : HRep G.E w Fz ι H) (hfz : ∀ B, Fz B -> Fz' B) {id : Nat} {b : Blk G.E.T} (hb : getL H id = some b) {m : Mode} (hm : m = .frozen -> b.frozen = true)
  (hl : ∀ i, i ∈ B150 m id -> ∀ A, (ι i).a = some A -> Fz' A.block) : ∀ A, (ι id).a = some A -> Fz' A.block := by
 intro A hA
 by_cases h : m = .frozen
 ·exact hfz _ (hH.held id b A hb (hm h) hA)
 ·exact hl id (B849 h) A hA
theorem B844 (hH : HRep G.E w Fz ι H) (hfz : ∀ B, Fz B -> Fz' B) {k : IntKind} {p : PV G.E.T} {ys : List Int} {l : List Nat} (h : B80 H k p = some (ys, l))
  (hl : ∀ i, i ∈ l -> ∀ A, (ι i).a = some A -> Fz' A.block) : p.one = true ∧ ∀ x, PRep G.E w Fz ι H p x -> FRep G.E w Fz' (.ints k ys) x := by
 unfold B80 at h
 split at h
 ·split at h
  ·rename_i hk
   have := A39 hk
   subst this
   cases h
   refine ⟨rfl, fun x hx => ?_⟩
   simp only [PRep] at hx
   exact hx.mono hfz fun _ _ => rfl
  ·cases h
 ·cases h
  refine ⟨rfl, fun x hx => ?_⟩
  simp only [PRep] at hx
  subst hx
  exact .ints (xs := []) (by simp) (by simp) (by simp) (by simp)
 ·split at h
  ·rename_i m k' ep' xs hb
   split at h
   ·rename_i hk he
    have := A39 hk
    subst this
    cases h
    refine ⟨rfl, fun x hx => ?_⟩
    simp only [PRep] at hx
    obtain ⟨b, hb', hx⟩ := hx
    rw [hb] at hb'; cases hb'
    have hr := hH.rep _ _ hb
    simp only [BRep] at hr
    exact hx.frep_ints (B7 he) hr.1 hr.2.1 hr.2.2 (B200 hH hfz hb (fun e => by subst e; rfl) hl)
   ·cases h
  ·cases h
 ·split at h
  ·rename_i m k' ep' xs hb
   split at h
   ·rename_i hk he
    have := A39 hk
    subst this
    cases h
    refine ⟨rfl, fun x hx => ?_⟩
    simp only [PRep] at hx
    obtain ⟨b, hb', hx⟩ := hx
    rw [hb] at hb'; cases hb'
    have hr := hH.rep _ _ hb
    simp only [BRep] at hr
    exact hx.frep_ints (B7 he) hr.1 hr.2.1 hr.2.2 (B200 hH hfz hb (fun e => by subst e; rfl) hl)
   ·cases h
  ·cases h
 ·cases h
theorem BRep.rows_mono {id m i ep : Nat} {md : Mode} {xs : List (G.E.T i)} (h : BRep G.E w Fz ι H id (.rows md i ep xs)) (hfz : ∀ B, Fz B -> Fz' B) :
  ∀ B o, (ι id).a = some ⟨B, o, none⟩ -> ∀ j x c p, xs[j]? = some x -> (G.E.outs i x)[c]? = some p -> ∃ u, w.cell? ⟨B, o + j * G.E.sz i + c, none⟩ = some u ∧ FRep G.E w Fz' p u := by
 intro B o ha j x c p hj hp
 obtain ⟨u, h1, h2⟩ := h.2 B o ha j x c p hj hp
 exact ⟨u, h1, h2.mono hfz fun _ _ => rfl⟩
theorem B866 (hH : HRep G.E w Fz ι H) (hfz : ∀ B, Fz B -> Fz' B) {i : Nat} {p : PV G.E.T} {ys : List (G.E.T i)} {l : List Nat} (h : B123 H i p = some (ys, l))
  (hl : ∀ i, i ∈ l -> ∀ A, (ι i).a = some A -> Fz' A.block) : p.one = true ∧ ∀ x, PRep G.E w Fz ι H p x -> FRep G.E w Fz' (.rows i ys) x := by
 unfold B123 at h
 split at h
 ·split at h
  ·rename_i hj
   subst hj
   cases h
   refine ⟨rfl, fun x hx => ?_⟩
   simp only [PRep] at hx
   exact hx.mono hfz fun _ _ => rfl
  ·cases h
 ·cases h
  refine ⟨rfl, fun x hx => ?_⟩
  simp only [PRep] at hx
  subst hx
  exact .rows (xs := []) (fun _ _ => undef) (by simp) (by simp) (by simp) (by simp)
 ·split at h
  ·rename_i m j ep' xs hb
   split at h
   ·rename_i he
    split at h
    ·rename_i hj
     subst hj
     cases h
     refine ⟨rfl, fun x hx => ?_⟩
     simp only [PRep] at hx
     obtain ⟨b, hb', hx⟩ := hx
     rw [hb] at hb'; cases hb'
     have hr := hH.rep _ _ hb
     exact hx.frep_rows (B7 he) hr.1 (BRep.rows_mono (m := 0) hr hfz) (B200 hH hfz hb (fun e => by subst e; rfl) hl)
    ·cases h
   ·cases h
  ·cases h
 ·split at h
  ·rename_i m j ep' xs hb
   split at h
   ·rename_i he
    split at h
    ·rename_i hj
     subst hj
     cases h
     refine ⟨rfl, fun x hx => ?_⟩
     simp only [PRep] at hx
     obtain ⟨b, hb', hx⟩ := hx
     rw [hb] at hb'; cases hb'
     have hr := hH.rep _ _ hb
     exact hx.frep_rows (B7 he) hr.1 (BRep.rows_mono (m := 0) hr hfz) (B200 hH hfz hb (fun e => by subst e; rfl) hl)
    ·cases h
   ·cases h
  ·cases h
 ·cases h
theorem B846 {id ep : Nat} (h : isOwn H id ep = true) : ∃ b len sz, getL H id = some b ∧ b.info G.E = some (ep, len, sz) := by
 unfold isOwn at h
 split at h
 ·rename_i k ep' xs hb
  have := B7 h
  subst this
  exact ⟨_, _, _, hb, rfl⟩
 ·rename_i k ep' xs hb
  have := B7 h
  subst this
  exact ⟨_, _, _, hb, rfl⟩
 ·cases h
mutual
theorem B968 (hH : HRep G.E w Fz ι H) : ∀ (s : TSh) (v : PV G.E.T) {a : List (LV G.E.T)} {cs cs' : CS}, castT H s v cs = some (a, cs') ->
  cs.le cs' ∧ ∀ r, (rebT ρ s (a ++ r)).2 = r ∧ ∀ {csF : CS}, cs'.le csF -> Agree G w Fz Fz' ι ι' H H' ρ csF -> Tr G w Fz Fz' ι ι' H H' v (rebT ρ s (a ++ r)).1
 | .int k, v, a, cs, cs', h => by
  cases v <;> simp only [castT] at h <;> try (cases h; done)
  split at h
  ·rename_i hk
   have := A39 hk
   subst this
   cases h
   refine ⟨.refl _, fun r => ⟨rfl, fun _ _ => ⟨fun _ => rfl, fun u hu => ?_⟩⟩⟩
   simp only [A40, A28, rebT, PRep] at hu ⊢
   cases hu; exact .int ‹_›
  ·cases h
 | .bool, v, a, cs, cs', h => by
  cases v <;> simp only [castT] at h <;> try (cases h; done)
  cases h
  refine ⟨.refl _, fun r => ⟨rfl, fun _ _ => ⟨fun _ => rfl, fun u hu => ?_⟩⟩⟩
  simp only [A40, A28, rebT, PRep] at hu ⊢
  cases hu; exact .bool
 | .str, v, a, cs, cs', h => by
  cases v <;> simp only [castT] at h <;> try (cases h; done)
  cases h
  refine ⟨.refl _, fun r => ⟨rfl, fun _ _ => ⟨fun _ => rfl, fun u hu => ?_⟩⟩⟩
  simp only [A40, A28, rebT, PRep] at hu ⊢
  cases hu; exact .str ‹_› ‹_›
 | .ints k, v, a, cs, cs', h => by
  simp only [castT] at h
  split at h
  ·rename_i xs l hl
   cases h
   refine ⟨⟨fun _ _ q => q, fun _ q => A70 _ q⟩, fun r => ⟨rfl, fun hle hA => ?_⟩⟩
   obtain ⟨h1, h2⟩ := B844 (Fz' := Fz') hH hA.fz hl (fun i hi => hA.lent i (hle.2 i (A90 _ hi)))
   refine ⟨fun _ => rfl, fun u hu => ?_⟩
   simp only [A40, A28, rebT, PRep]
   exact h2 u hu
  ·cases h
 | .rows i, v, a, cs, cs', h => by
  simp only [castT] at h
  split at h
  ·rename_i xs l hl
   cases h
   refine ⟨⟨fun _ _ q => q, fun _ q => A70 _ q⟩, fun r => ⟨by simp [rebT], fun hle hA => ?_⟩⟩
   obtain ⟨h1, h2⟩ := B866 (Fz' := Fz') hH hA.fz hl (fun i hi => hA.lent i (hle.2 i (A90 _ hi)))
   refine ⟨fun _ => by simp [rebT, PV.one], fun u hu => ?_⟩
   simp only [A40, A28, rebT, dite_true, PRep]
   exact h2 u hu
  ·cases h
 | .arr j, v, a, cs, cs', h => by
  cases v <;> simp only [castT] at h <;> try (cases h; done)
  case arr id ep =>
   split at h
   ·rename_i ho
    split at h
    ·rename_i cs1 hb
     cases h
     obtain ⟨b1, b2, _⟩ := B125 hb
     refine ⟨b1, fun r => ⟨rfl, fun hle hA => ⟨fun _ => rfl, fun u hu => ?_⟩⟩⟩
     obtain ⟨b, len, sz, hbb, hi⟩ := B846 ho
     obtain ⟨b0, b', g1, g2, g3, g4, g5⟩ := hA.old j id (hle.1 _ _ b2)
     rw [hbb] at g1; cases g1
     simp only [A28, rebT, PRep] at hu ⊢
     obtain ⟨b1', hb1, hu⟩ := hu
     rw [hbb] at hb1; cases hb1
     refine ⟨b', g2, hu.1, fun ep' len' sz' hi' => ?_⟩
     rw [g5 ep len sz hi] at hi'
     simp only [A16, A33] at hi'
     obtain ⟨rfl, rfl, rfl⟩ := hi'
     exact ⟨A11 _, fun _ => by rw [g3]; exact (hu.2 ep len sz hi).2 rfl⟩
    ·cases h
   ·cases h
  case nilsl =>
   split at h
   ·rename_i cs1 hb
    cases h
    obtain ⟨b1, b2, _⟩ := B125 hb
    refine ⟨b1, fun r => ⟨rfl, fun hle hA => ⟨fun _ => rfl, fun u hu => ?_⟩⟩⟩
    obtain ⟨b', sz, g1, g2, g3⟩ := hA.new j (hle.1 _ _ b2)
    simp only [A28, rebT, PRep] at hu ⊢
    subst hu
    refine ⟨b', g1, ⟨_, _, _, rfl⟩, fun ep' len' sz' hi' => ?_⟩
    rw [g2] at hi'
    simp only [A16, A33] at hi'
    obtain ⟨rfl, rfl, rfl⟩ := hi'
    exact ⟨A11 _, fun _ => by rw [g3]⟩
   ·cases h
 | .agg l, v, a, cs, cs', h => by
  cases v <;> simp only [castT] at h <;> try (cases h; done)
  rename_i m
  obtain ⟨h1, h2⟩ := castTs_tr hH l m h
  refine ⟨h1, fun r => ?_⟩
  obtain ⟨g1, g2⟩ := h2 r
  simp only [rebT]
  refine ⟨g1, fun hle hA => ⟨fun e => by simp [PV.one] at e, fun u hu => ?_⟩⟩
  have g2 := g2 hle hA
  simp only [PRep] at hu ⊢
  obtain ⟨cs, rfl, q1, q2⟩ := hu
  exact ⟨cs, rfl, g2.ones q1, g2.reps q2⟩
 | .ptr j off, v, a, cs, cs', h => by
  cases v <;> simp only [castT] at h <;> try (cases h; done)
  rename_i id off'
  split at h
  ·rename_i ho
   have := B7 ho
   subst this
   split at h
   ·rename_i cs1 hb
    cases h
    obtain ⟨b1, b2, _⟩ := B125 hb
    refine ⟨b1, fun r => ⟨rfl, fun hle hA => ⟨fun _ => rfl, fun u hu => ?_⟩⟩⟩
    obtain ⟨b0, b', g1, g2, g3, g4, g5⟩ := hA.old j id (hle.1 _ _ b2)
    simp only [A28, rebT, PRep] at hu ⊢
    obtain ⟨b1', hb1, hi, B, o, ha, rfl⟩ := hu
    rw [g1] at hb1; cases hb1
    exact ⟨b', g2, g4 hi, B, o, by rw [g3]; exact ha, rfl⟩
   ·cases h
  ·cases h
 | .mapr j, v, a, cs, cs', h => by
  cases v <;> simp only [castT] at h <;> try (cases h; done)
  rename_i id
  split at h
  ·rename_i cs1 hb
   cases h
   obtain ⟨b1, b2, _⟩ := B125 hb
   refine ⟨b1, fun r => ⟨rfl, fun hle hA => ⟨fun _ => rfl, fun u hu => ?_⟩⟩⟩
   obtain ⟨b0, b', g1, g2, g3, g4, g5⟩ := hA.old j id (hle.1 _ _ b2)
   simp only [A28, rebT, PRep] at hu ⊢
   obtain ⟨b1', hb1, hi, B, ha, rfl⟩ := hu
   rw [g1] at hb1; cases hb1
   exact ⟨b', g2, g4 hi, B, by rw [g3]; exact ha, rfl⟩
  ·cases h
 | .nil, v, a, cs, cs', h => by
  cases v <;> simp only [castT] at h <;> try (cases h; done)
  cases h
  refine ⟨.refl _, fun r => ⟨rfl, fun _ _ => ⟨fun _ => rfl, fun u hu => ?_⟩⟩⟩
  simp only [A28, rebT, PRep] at hu ⊢
  exact hu
 | .nilsl, v, a, cs, cs', h => by
  cases v <;> simp only [castT] at h <;> try (cases h; done)
  cases h
  refine ⟨.refl _, fun r => ⟨rfl, fun _ _ => ⟨fun _ => rfl, fun u hu => ?_⟩⟩⟩
  simp only [A28, rebT, PRep] at hu ⊢
  exact hu
 | .lit k n, v, a, cs, cs', h => by
  cases v <;> simp only [castT] at h <;> try (cases h; done)
  split at h
  ·rename_i e1 e2
   cases h
   have := A39 e1
   have := A39 e2
   subst k; subst n
   refine ⟨.refl _, fun r => ⟨rfl, fun _ _ => ⟨fun _ => rfl, fun u hu => ?_⟩⟩⟩
   simp only [A28, rebT, PRep] at hu ⊢
   cases hu; exact .int ‹_›
  ·cases h
 | .litb b, v, a, cs, cs', h => by
  cases v <;> simp only [castT] at h <;> try (cases h; done)
  rename_i c
  cases b <;> cases c <;> simp only at h <;> try (cases h; done)
  all_goals
   cases h
   refine ⟨.refl _, fun r => ⟨rfl, fun _ _ => ⟨fun _ => rfl, fun u hu => ?_⟩⟩⟩
   simp only [A28, rebT, PRep] at hu ⊢
   cases hu; exact .bool
 | .fn f l, v, a, cs, cs', h => by
  cases v <;> simp only [castT] at h <;> try (cases h; done)
  rename_i g m
  split at h
  ·rename_i hf
   have := B7 hf
   subst this
   obtain ⟨h1, h2⟩ := castTs_tr hH l m h
   refine ⟨h1, fun r => ?_⟩
   obtain ⟨g1, g2⟩ := h2 r
   simp only [rebT]
   refine ⟨g1, fun hle hA => ⟨fun _ => rfl, fun u hu => ?_⟩⟩
   have g2 := g2 hle hA
   simp only [PRep] at hu ⊢
   obtain ⟨cs, rfl, q2⟩ := hu
   exact ⟨cs, rfl, g2.reps q2⟩
  ·cases h
theorem castTs_tr (hH : HRep G.E w Fz ι H) : ∀ (l : List TSh) (m : List (PV G.E.T)) {a : List (LV G.E.T)} {cs cs' : CS}, castTs H l m cs = some (a, cs') ->
  cs.le cs' ∧ ∀ r, (rebTs ρ l (a ++ r)).2 = r ∧ ∀ {csF : CS}, cs'.le csF -> Agree G w Fz Fz' ι ι' H H' ρ csF -> Trs G w Fz Fz' ι ι' H H' m (rebTs ρ l (a ++ r)).1
 | [], [], a, cs, cs', h => by
  simp only [castTs] at h
  cases h
  exact ⟨.refl _, fun r => ⟨rfl, fun _ _ => trivial⟩⟩
 | s :: l, v :: m, a, cs, cs', h => by
  simp only [castTs] at h
  split at h
  ·rename_i a1 cs1 h1
   split at h
   ·rename_i a2 cs2 h2
    cases h
    obtain ⟨p1, p2⟩ := B968 hH s v h1
    obtain ⟨q1, q2⟩ := castTs_tr hH l m h2
    refine ⟨p1.trans q1, fun r => ?_⟩
    obtain ⟨e1, t1⟩ := p2 (a2 ++ r)
    obtain ⟨e2, t2⟩ := q2 r
    simp only [rebTs, A27]
    rw [e1]
    exact ⟨e2, fun hle hA => ⟨t1 (q1.trans hle) hA, t2 hle hA⟩⟩
   ·cases h
  ·cases h
 | [], _ :: _, a, cs, cs', h => by simp only [castTs] at h; cases h
 | _ :: _, [], a, cs, cs', h => by simp only [castTs] at h; cases h
end
inductive BTr (H base : List (Blk G.E.T)) (ρ : Nat -> Nat × Nat) (cs : CS) (TR : List (PV G.E.T) -> List (PV G.E.T) -> Prop) (j : Nat) (p : Blk G.E.T) : BSh -> Blk G.E.T -> Prop
 | gone : BTr H base ρ cs TR j p .gone .gone
 | same : sameB H base j = true -> BTr H base ρ cs TR j p .same p
 | box {id : Nat} {cells : List TSh} {vs vs' : List (PV G.E.T)} : lookB j cs.bind = some (some id) -> getL H id = some (.box .own vs) -> TR vs vs' -> BTr H base ρ cs TR j p (.box cells) (.box .own vs')
 | mp {id : Nat} {k : IntKind} : lookB j cs.bind = some (some id) -> getL H id = some (.mp .own k) -> BTr H base ρ cs TR j p (.mp k) (.mp .own k)
 | mpr {id : Nat} {k : KK} {i : Nat} {xs : List (G.E.T i)} : lookB j cs.bind = some (some id) -> getL H id = some (.mpr .own k i xs) -> BTr H base ρ cs TR j p (.mpr k i) (.mpr .own k i xs)
 | ints {id : Nat} {k : IntKind} {keep : Bool} {ep : Nat} {xs : List Int} : lookB j cs.bind = some (some id) -> getL H id = some (.ints .own k ep xs) -> (keep = true -> ep = epOf base j ∧ id = j) ->
   BTr H base ρ cs TR j p (.ints k keep) (.ints .own k (ρ j).2 xs)
 | ints0 {k : IntKind} : lookB j cs.bind = some none -> BTr H base ρ cs TR j p (.ints k false) (.ints .own k (ρ j).2 [])
 | rows {id : Nat} {i : Nat} {keep : Bool} {ep : Nat} {xs : List (G.E.T i)} : lookB j cs.bind = some (some id) -> getL H id = some (.rows .own i ep xs) -> (keep = true -> ep = epOf base j ∧ id = j) ->
   BTr H base ρ cs TR j p (.rows i keep) (.rows .own i (ρ j).2 xs)
 | rows0 {i : Nat} : lookB j cs.bind = some none -> BTr H base ρ cs TR j p (.rows i false) (.rows .own i (ρ j).2 [])
theorem B633 {keep : Bool} {ep e id j : Nat} (h : (match keep with
   | true => match Nat.beq ep e with
    | true => Nat.beq id j
    | false => false
   | false => true) = true) : keep = true -> ep = e ∧ id = j := by
 intro hk
 subst hk
 simp only at h
 split at h
 ·rename_i he
  exact ⟨B7 he, B7 h⟩
 ·cases h
theorem B967 (hH : HRep G.E w Fz ι H) {base : List (Blk G.E.T)} {j : Nat} {b : BSh} {a : List (LV G.E.T)} {cs cs' : CS} (h : castB H base j b cs = some (a, cs')) :
  cs.le cs' ∧ ∀ p r, (rebB ρ (ρ j).2 p b (a ++ r)).2 = r ∧ ∀ {csF : CS}, cs'.le csF -> BTr H base ρ csF (fun vs vs' => Agree G w Fz Fz' ι ι' H H' ρ csF -> Trs G w Fz Fz' ι ι' H H' vs vs') j p b (rebB ρ (ρ j).2 p b (a ++ r)).1 := by
 cases b with
 | gone =>
  simp only [castB] at h
  cases h
  exact ⟨.refl _, fun p r => ⟨by simp [rebB], fun _ => by simp only [rebB]; exact .gone⟩⟩
 | same =>
  simp only [castB] at h
  split at h
  ·rename_i hs
   cases h
   exact ⟨.refl _, fun p r => ⟨by simp [rebB], fun _ => by simp only [rebB]; exact .same hs⟩⟩
  ·cases h
 | box cells =>
  simp only [castB] at h
  split at h
  ·rename_i id hb
   split at h
   ·rename_i vs hid
    obtain ⟨h1, h2⟩ := castTs_tr (ρ := ρ) (Fz' := Fz') (ι' := ι') (H' := H') hH cells vs h
    refine ⟨h1, fun p r => ?_⟩
    obtain ⟨g1, g2⟩ := h2 r
    simp only [rebB]
    exact ⟨g1, fun hle => .box (hle.1 _ _ (h1.1 _ _ hb)) hid fun hA => g2 hle hA⟩
   ·cases h
  ·cases h
 | mp k =>
  simp only [castB] at h
  split at h
  ·rename_i id hb
   split at h
   ·rename_i k' hid
    split at h
    ·rename_i hk
     have := A39 hk
     subst this
     cases h
     exact ⟨.refl _, fun p r => ⟨by simp [rebB], fun hle => by
      simp only [A28, rebB]; exact .mp (hle.1 _ _ hb) hid⟩⟩
    ·cases h
   ·cases h
  ·cases h
 | mpr k i =>
  simp only [castB] at h
  split at h
  ·rename_i id hb
   split at h
   ·rename_i k' i' xs hid
    split at h
    ·rename_i hi
     subst hi
     split at h
     ·rename_i hk
      have := KK.beq_eq hk
      subst this
      cases h
      exact ⟨.refl _, fun p r => ⟨by simp [rebB], fun hle => by
       simp only [A40, A28, rebB, dite_true]; exact .mpr (hle.1 _ _ hb) hid⟩⟩
     ·cases h
    ·cases h
   ·cases h
  ·cases h
 | ints k keep =>
  simp only [castB] at h
  split at h
  ·rename_i id hb
   split at h
   ·rename_i k' ep xs hid
    split at h
    ·rename_i hk hkeep
     have := A39 hk
     subst this
     cases h
     exact ⟨.refl _, fun p r => ⟨by simp [rebB], fun hle => by
      simp only [A40, A28, rebB]; exact .ints (hle.1 _ _ hb) hid (B633 hkeep)⟩⟩
    ·cases h
   ·cases h
  ·rename_i hb
   split at h
   ·cases h
   ·cases h
    exact ⟨.refl _, fun p r => ⟨by simp [rebB], fun hle => by
     simp only [A40, A28, rebB]; exact .ints0 (hle.1 _ _ hb)⟩⟩
  ·cases h
 | rows i keep =>
  simp only [castB] at h
  split at h
  ·rename_i id hb
   split at h
   ·rename_i i' ep xs hid
    split at h
    ·rename_i hi
     subst hi
     split at h
     ·rename_i hkeep
      cases h
      exact ⟨.refl _, fun p r => ⟨by simp [rebB], fun hle => by
       simp only [A40, A28, rebB, dite_true]; exact .rows (hle.1 _ _ hb) hid (B633 hkeep)⟩⟩
     ·cases h
    ·cases h
   ·cases h
  ·rename_i hb
   split at h
   ·cases h
   ·cases h
    exact ⟨.refl _, fun p r => ⟨by simp [rebB], fun hle => by
     simp only [A40, A28, rebB, dite_true]; exact .rows0 (hle.1 _ _ hb)⟩⟩
  ·cases h
def atB (P : List (Blk G.E.T)) (k : Nat) : Blk G.E.T := (getL P k).getD .gone
theorem B979 (P : List (Blk G.E.T)) : headB P = atB P 0 := by cases P <;> rfl
theorem B1014 (P : List (Blk G.E.T)) (k : Nat) : atB (tailB P) k = atB P (k + 1) := by cases P <;> rfl
theorem B93 (ρ : Nat -> Nat × Nat) : ∀ (bs : List BSh) (j : Nat) (P : List (Blk G.E.T)) (r : List (LV G.E.T)), (rebBs ρ j bs P r).length = bs.length
 | [], j, P, r => rfl
 | b :: l, j, P, r => by simp [rebBs, B93 ρ l]
theorem B613 (hH : HRep G.E w Fz ι H) {base : List (Blk G.E.T)} : ∀ (bs : List BSh) (j : Nat) {a : List (LV G.E.T)} {cs cs' : CS}, B232 H base j bs cs = some (a, cs') ->
  cs.le cs' ∧ ∀ (P : List (Blk G.E.T)) r {csF : CS}, cs'.le csF -> ∀ k b, getL bs k = some b -> ∃ blk, getL (rebBs ρ j bs P (a ++ r)) k = some blk ∧
   BTr H base ρ csF (fun vs vs' => Agree G w Fz Fz' ι ι' H H' ρ csF -> Trs G w Fz Fz' ι ι' H H' vs vs') (j + k) (atB P k) b blk
 | [], j, a, cs, cs', h => by
  simp only [B232] at h
  cases h
  exact ⟨.refl _, fun P r csF hle k b hk => by simp [getL] at hk⟩
 | b :: bs, j, a, cs, cs', h => by
  simp only [B232] at h
  split at h
  ·rename_i a1 cs1 h1
   split at h
   ·rename_i a2 cs2 h2
    cases h
    obtain ⟨p1, p2⟩ := B967 (ρ := ρ) (Fz' := Fz') (ι' := ι') (H' := H') hH h1
    obtain ⟨q1, q2⟩ := B613 hH bs (j + 1) h2
    refine ⟨p1.trans q1, fun P r csF hle k b' hk => ?_⟩
    obtain ⟨e1, t1⟩ := p2 (headB P) (a2 ++ r)
    simp only [rebBs, A27]
    cases k with
    | zero =>
     simp only [getL, A16] at hk
     subst hk
     exact ⟨_, rfl, by rw [← B979]; exact t1 (q1.trans hle)⟩
    | succ k =>
     simp only [getL] at hk ⊢
     rw [e1]
     obtain ⟨blk, g1, g2⟩ := q2 (tailB P) r hle k b' hk
     exact ⟨blk, g1, by rw [B1014] at g2; rwa [show j + 1 + k = j + (k + 1) by omega] at g2⟩
   ·cases h
  ·cases h
end
section
variable {G : Prg} {w w0 : World} {Fz Fz0 Fz' : Nat -> Prop} {ι ι0 ι' : Nat -> Loc} {H H' P base : List (Blk G.E.T)} {ρ : Nat -> Nat × Nat} {X : Ctx}
theorem B238 : ∀ {l : List (Nat × Option Nat)} {j : Nat} {x : Option Nat}, lookB j l = some x -> (j, x) ∈ l
 | [], _, _, h => by simp [lookB] at h
 | (u, v) :: r, j, x, h => by
  simp only [lookB] at h
  split at h
  ·rename_i e
   have := B7 e
   subst this
   cases h
   exact A23 ..
  ·exact A29 _ (B238 h)
theorem B72 {n : Nat} : ∀ {l : List Nat}, memN n l = true ↔ n ∈ l
 | [] => by simp [memN]
 | m :: l => by
  simp only [memN]
  split
  ·rename_i e
   have := B7 e
   subst this
   simp
  ·rename_i e
   have hne : n ≠ m := by rintro rfl; simp at e
   rw [B72, A19]
   simp [hne]
theorem B285 : ∀ {l : List (Nat × Option Nat)} {j a : Nat}, (j, some a) ∈ l -> a ∈ olds l
 | [], _, _, h => by simp at h
 | (u, some b) :: r, j, a, h => by
  simp only [olds]
  rcases A19.1 h with h | h
  ·cases h; exact A23 ..
  ·exact A29 _ (B285 h)
 | (u, none) :: r, j, a, h => by
  simp only [olds]
  rcases A19.1 h with h | h
  ·cases h
  ·exact B285 h
theorem B316 : ∀ {l : List (Nat × Option Nat)} {j1 j2 a : Nat}, B286 (olds l) = true -> (j1, some a) ∈ l -> (j2, some a) ∈ l -> j1 = j2
 | [], _, _, _, _, h, _ => by simp at h
 | (u, some b) :: r, j1, j2, a, hn, h1, h2 => by
  simp only [olds, B286] at hn
  split at hn
  ·cases hn
  ·rename_i hm
   have hm' : b ∉ olds r := fun e => by rw [B72.2 e] at hm; cases hm
   rcases A19.1 h1 with e1 | e1 <;> rcases A19.1 h2 with e2 | e2
   ·cases e1; cases e2; rfl
   ·cases e1; exact absurd (B285 e2) hm'
   ·cases e2; exact absurd (B285 e1) hm'
   ·exact B316 hn e1 e2
 | (u, none) :: r, j1, j2, a, hn, h1, h2 => by
  simp only [olds] at hn
  rcases A19.1 h1 with e1 | e1
  ·cases e1
  ·rcases A19.1 h2 with e2 | e2
   ·cases e2
   ·exact B316 hn e1 e2
theorem B621 : ∀ {l m : List Nat} {x : Nat}, disjN l m = true -> x ∈ l -> x ∉ m
 | [], _, _, _, h => by simp at h
 | n :: l, m, x, hd, h => by
  simp only [disjN] at hd
  split at hd
  ·cases hd
  ·rename_i hm
   rcases A19.1 h with rfl | h
   ·exact fun e => by rw [B72.2 e] at hm; cases hm
   ·exact B621 hd h
theorem B558 {bs : List BSh} : ∀ {l : List (Nat × Option Nat)} {j : Nat} {x : Option Nat}, B557 bs l = true -> (j, x) ∈ l -> ∃ b, getL bs j = some b ∧ b ≠ .gone
 | [], _, _, _, h => by simp at h
 | (u, v) :: r, j, x, hn, h => by
  simp only [B557] at hn
  split at hn
  ·cases hn
  ·cases hn
  ·rename_i b hne hb
   rcases A19.1 h with e | e
   ·cases e; exact ⟨_, hb, by rintro rfl; exact hne rfl⟩
   ·exact B558 hn e
theorem B358 : ∀ {n j0 : Nat} {bs : List BSh} {k : Nat} {b : BSh}, k < n -> getL bs k = some b -> b ≠ .gone -> lookB (j0 + k) (B193 n j0 bs) = some (some (j0 + k))
 | 0, _, _, _, _, h, _, _ => by omega
 | n + 1, j0, [], k, b, _, h, _ => by simp [getL] at h
 | n + 1, j0, c :: l, 0, b, _, h, hb => by
  simp only [getL, A16] at h
  subst h
  cases c <;> first | exact absurd rfl hb | simp [B193, lookB]
 | n + 1, j0, c :: l, k + 1, b, hk, h, hb => by
  simp only [getL] at h
  have ih := B358 (j0 := j0 + 1) (Nat.lt_of_succ_lt_succ hk) h hb
  rw [show j0 + 1 + k = j0 + (k + 1) by omega] at ih
  have hne : Nat.beq (j0 + (k + 1)) j0 = false := by
   rcases hq : Nat.beq (j0 + (k + 1)) j0 with _ | _
   ·rfl
   ·have := B7 hq; omega
  cases c <;> simp only [B193, lookB, hne] <;> exact ih
theorem B479 : ∀ {base : List (Blk G.E.T)} {bs : List BSh} {j : Nat} {b : Blk G.E.T}, B62 base bs = true -> getL base j = some b -> getL bs j = some .gone -> b.frozen = false ∧ b.prot = false
 | [], _, _, _, _, h, _ => by simp [getL] at h
 | _ :: _, [], _, _, _, _, h => by simp [getL] at h
 | c :: l, s :: m, 0, b, hg, h, hs => by
  simp only [getL, A16] at h hs
  subst h; subst hs
  cases c with
  | gone => exact ⟨rfl, rfl⟩
  | box m _ => cases m <;> simp only [B62] at hg <;> first | exact ⟨rfl, rfl⟩ | cases hg
  | ints m _ _ _ => cases m <;> simp only [B62] at hg <;> first | exact ⟨rfl, rfl⟩ | cases hg
  | rows m _ _ _ => cases m <;> simp only [B62] at hg <;> first | exact ⟨rfl, rfl⟩ | cases hg
  | mpr m _ _ _ => cases m <;> simp only [B62] at hg <;> first | exact ⟨rfl, rfl⟩ | cases hg
  | mp m _ => cases m <;> simp only [B62] at hg <;> first | exact ⟨rfl, rfl⟩ | cases hg
 | c :: l, s :: m, j + 1, b, hg, h, hs => by
  simp only [getL] at h hs
  have : B62 l m = true := by
   cases s <;> simp only [B62] at hg <;> try exact hg
   split at hg <;> first | exact hg | cases hg
  exact B479 this h hs
structure Found (bs : List BSh) (base : List (Blk G.E.T)) (cs : CS) : Prop where
 le : base.length <= bs.length
 one : ∀ {j1 j2 a}, lookB j1 cs.bind = some (some a) -> lookB j2 cs.bind = some (some a) -> j1 = j2
 apart : ∀ {j a}, lookB j cs.bind = some (some a) -> a ∉ cs.lent
 told : ∀ {j x}, lookB j cs.bind = some x -> ∃ b, getL bs j = some b ∧ b ≠ .gone
 stay : ∀ {j b}, j < base.length -> getL bs j = some b -> b ≠ .gone -> lookB j cs.bind = some (some j)
 gone : ∀ {j b}, getL base j = some b -> getL bs j = some .gone -> b.frozen = false ∧ b.prot = false
theorem B362 (hH : HRep G.E w Fz ι H) {ss : List TSh} {vs : List (PV G.E.T)} {bs : List BSh} {l : List (LV G.E.T)} {cs : CS} (h : B51 ss vs bs base H = some (l, cs)) :
  Found bs base cs ∧ ∀ P : List (Blk G.E.T), (Agree G w Fz Fz' ι ι' H H' ρ cs -> Trs G w Fz Fz' ι ι' H H' vs (rebTs ρ ss l).1) ∧
   ∀ k b, getL bs k = some b -> ∃ blk, getL (rebBs ρ 0 bs P (rebTs ρ ss l).2) k = some blk ∧
    BTr H base ρ cs (fun vs vs' => Agree G w Fz Fz' ι ι' H H' ρ cs -> Trs G w Fz Fz' ι ι' H H' vs vs') k (atB P k) b blk := by
 unfold B51 at h
 split at h
 ·cases h
 ·rename_i a cs1 h1
  split at h
  ·cases h
  ·rename_i b cs2 h2
   split at h
   ·rename_i hle hfine hgone
    cases h
    obtain ⟨p1, p2⟩ := castTs_tr (ρ := ρ) (Fz' := Fz') (ι' := ι') (H' := H') hH ss vs h1
    obtain ⟨q1, q2⟩ := B613 (ρ := ρ) (Fz' := Fz') (ι' := ι') (H' := H') hH bs 0 h2
    unfold CS.fine at hfine
    split at hfine
    ·rename_i hn hd hi
     refine ⟨⟨A86 hle, fun e1 e2 => B316 hn (B238 e1) (B238 e2), fun e => B621 hd (B285 (B238 e)), fun e => B558 hi (B238 e), fun hj hb hne => ?_, fun h1 h2 => B479 hgone h1 h2⟩, fun P => ?_⟩
     ·have := B358 (j0 := 0) hj hb hne
      rw [A22] at this
      exact q1.1 _ _ (p1.1 _ _ this)
     ·obtain ⟨e1, t1⟩ := p2 b
      refine ⟨t1 q1, fun k sh hk => ?_⟩
      rw [e1]
      obtain ⟨blk, g1, g2⟩ := q2 P [] (CS.le.refl _) k sh hk
      rw [A38] at g1
      rw [A22] at g2
      exact ⟨blk, g1, g2⟩
    ·cases hfine
   ·cases h
def B66 (H : List (Blk G.E.T)) (l : List Nat) : Prop := ∀ id, id ∈ l -> ∃ b, getL H id = some b ∧ b.owned = true
theorem B66.append {l m : List Nat} (h : B66 H l) (g : B66 H m) : B66 H (l ++ m) := fun id hi => (A44.1 hi).elim (h id) (g id)
theorem B66.if {m : Mode} {id : Nat} {b : Blk G.E.T} (hb : getL H id = some b) (h : m ≠ .frozen -> b.owned = true) : B66 H (B150 m id) := by
 intro i hi
 cases m with
 | frozen => simp [B150] at hi
 | own => simp only [B150, A61] at hi; subst hi; exact ⟨b, hb, h (by simp)⟩
 | prot => simp only [B150, A61] at hi; subst hi; exact ⟨b, hb, h (by simp)⟩
theorem B66.nil : B66 H [] := fun id hi => by simp at hi
theorem B781 {k : IntKind} {p : PV G.E.T} {ys : List Int} {l : List Nat} (h : B80 H k p = some (ys, l)) : B66 H l := by
 unfold B80 at h
 split at h
 ·split at h <;> cases h; exact .nil
 ·cases h; exact .nil
 ·split at h
  ·rename_i m k' ep' xs hb
   split at h <;> cases h
   exact .if hb fun hm => by cases m <;> simp_all [Blk.owned]
  ·cases h
 ·split at h
  ·rename_i m k' ep' xs hb
   split at h <;> cases h
   exact .if hb fun hm => by cases m <;> simp_all [Blk.owned]
  ·cases h
 ·cases h
theorem B788 {i : Nat} {p : PV G.E.T} {ys : List (G.E.T i)} {l : List Nat} (h : B123 H i p = some (ys, l)) : B66 H l := by
 unfold B123 at h
 split at h
 ·split at h <;> cases h; exact .nil
 ·cases h; exact .nil
 ·split at h
  ·rename_i m k' ep' xs hb
   split at h
   ·split at h <;> cases h
    exact .if hb fun hm => by cases m <;> simp_all [Blk.owned]
   ·cases h
  ·cases h
 ·split at h
  ·rename_i m k' ep' xs hb
   split at h
   ·split at h <;> cases h
    exact .if hb fun hm => by cases m <;> simp_all [Blk.owned]
   ·cases h
  ·cases h
 ·cases h
mutual
theorem B835 : ∀ (s : TSh) (v : PV G.E.T) {a : List (LV G.E.T)} {cs cs' : CS}, castT H s v cs = some (a, cs') -> B66 H cs.lent -> B66 H cs'.lent
 | .int k, v, a, cs, cs', h, hl => by
  cases v <;> simp only [castT] at h <;> try (cases h; done)
  split at h <;> cases h; exact hl
 | .bool, v, a, cs, cs', h, hl => by
  cases v <;> simp only [castT] at h <;> try (cases h; done)
  cases h; exact hl
 | .str, v, a, cs, cs', h, hl => by
  cases v <;> simp only [castT] at h <;> try (cases h; done)
  cases h; exact hl
 | .ints k, v, a, cs, cs', h, hl => by
  simp only [castT] at h
  split at h
  ·rename_i q; cases h; exact (B781 q).append hl
  ·cases h
 | .rows i, v, a, cs, cs', h, hl => by
  simp only [castT] at h
  split at h
  ·rename_i q; cases h; exact (B788 q).append hl
  ·cases h
 | .arr j, v, a, cs, cs', h, hl => by
  cases v <;> simp only [castT] at h <;> try (cases h; done)
  case arr id ep =>
   split at h
   ·split at h
    ·rename_i hb; cases h; rw [(B125 hb).2.2]; exact hl
    ·cases h
   ·cases h
  case nilsl =>
   split at h
   ·rename_i hb; cases h; rw [(B125 hb).2.2]; exact hl
   ·cases h
 | .agg l, v, a, cs, cs', h, hl => by
  cases v <;> simp only [castT] at h <;> try (cases h; done)
  exact castTs_lent l _ h hl
 | .ptr j off, v, a, cs, cs', h, hl => by
  cases v <;> simp only [castT] at h <;> try (cases h; done)
  split at h
  ·split at h
   ·rename_i hb; cases h; rw [(B125 hb).2.2]; exact hl
   ·cases h
  ·cases h
 | .mapr j, v, a, cs, cs', h, hl => by
  cases v <;> simp only [castT] at h <;> try (cases h; done)
  split at h
  ·rename_i hb; cases h; rw [(B125 hb).2.2]; exact hl
  ·cases h
 | .nil, v, a, cs, cs', h, hl => by
  cases v <;> simp only [castT] at h <;> try (cases h; done)
  cases h; exact hl
 | .nilsl, v, a, cs, cs', h, hl => by
  cases v <;> simp only [castT] at h <;> try (cases h; done)
  cases h; exact hl
 | .lit k n, v, a, cs, cs', h, hl => by
  cases v <;> simp only [castT] at h <;> try (cases h; done)
  split at h
  ·cases h; exact hl
  ·cases h
 | .litb b, v, a, cs, cs', h, hl => by
  cases v <;> simp only [castT] at h <;> try (cases h; done)
  rename_i c
  cases b <;> cases c <;> simp only at h <;> try (cases h; done)
  all_goals cases h; exact hl
 | .fn f l, v, a, cs, cs', h, hl => by
  cases v <;> simp only [castT] at h <;> try (cases h; done)
  split at h
  ·exact castTs_lent l _ h hl
  ·cases h
theorem castTs_lent : ∀ (l : List TSh) (m : List (PV G.E.T)) {a : List (LV G.E.T)} {cs cs' : CS}, castTs H l m cs = some (a, cs') -> B66 H cs.lent -> B66 H cs'.lent
 | [], [], a, cs, cs', h, hl => by
  simp only [castTs] at h
  cases h; exact hl
 | s :: l, v :: m, a, cs, cs', h, hl => by
  simp only [castTs] at h
  split at h
  ·rename_i h1
   split at h
   ·rename_i h2
    cases h
    exact castTs_lent l m h2 (B835 s v h1 hl)
   ·cases h
  ·cases h
 | [], _ :: _, a, cs, cs', h, _ => by simp only [castTs] at h; cases h
 | _ :: _, [], a, cs, cs', h, _ => by simp only [castTs] at h; cases h
end
theorem B833 {j : Nat} {b : BSh} {a : List (LV G.E.T)} {cs cs' : CS} (h : castB H base j b cs = some (a, cs')) (hl : B66 H cs.lent) : B66 H cs'.lent := by
 cases b with
 | gone => simp only [castB] at h; cases h; exact hl
 | same => simp only [castB] at h; split at h <;> cases h; exact hl
 | box cells =>
  simp only [castB] at h
  split at h
  ·split at h
   ·exact castTs_lent _ _ h hl
   ·cases h
  ·cases h
 | mp k =>
  simp only [castB] at h
  split at h
  ·split at h
   ·split at h <;> cases h; exact hl
   ·cases h
  ·cases h
 | mpr k i =>
  simp only [castB] at h
  split at h
  ·split at h
   ·split at h
    ·split at h <;> cases h; exact hl
    ·cases h
   ·cases h
  ·cases h
 | ints k keep =>
  simp only [castB] at h
  split at h
  ·split at h
   ·split at h <;> cases h; exact hl
   ·cases h
  ·split at h <;> cases h; exact hl
  ·cases h
 | rows i keep =>
  simp only [castB] at h
  split at h
  ·split at h
   ·split at h
    ·split at h <;> cases h; exact hl
    ·cases h
   ·cases h
  ·split at h <;> cases h; exact hl
  ·cases h
theorem B469 : ∀ {bs : List BSh} {j : Nat} {a : List (LV G.E.T)} {cs cs' : CS}, B232 H base j bs cs = some (a, cs') -> B66 H cs.lent -> B66 H cs'.lent
 | [], j, a, cs, cs', h, hl => by simp only [B232] at h; cases h; exact hl
 | b :: bs, j, a, cs, cs', h, hl => by
  simp only [B232] at h
  split at h
  ·rename_i h1
   split at h
   ·rename_i h2
    cases h
    exact B469 h2 (B833 h1 hl)
   ·cases h
  ·cases h
theorem B414 {ss : List TSh} {vs : List (PV G.E.T)} {bs : List BSh} {l : List (LV G.E.T)} {cs : CS} (h : B51 ss vs bs base H = some (l, cs)) : B66 H cs.lent := by
 unfold B51 at h
 split at h
 ·cases h
 ·rename_i a cs1 h1
  split at h
  ·cases h
  ·rename_i b cs2 h2
   split at h
   ·cases h
    exact B469 h2 (castTs_lent _ _ h1 .nil)
   ·cases h
def B34 (Fz : Nat -> Prop) (ι : Nat -> Loc) (l : List Nat) (B : Nat) : Prop := Fz B ∨ ∃ id, id ∈ l ∧ ∃ A, (ι id).a = some A ∧ B = A.block
def bindι (ι : Nat -> Loc) (cs : CS) (j : Nat) : Loc := match lookB j cs.bind with
 | some (some id) => ι id
 | some none => ⟨none, 0⟩
 | none => ι j
theorem B44 {cs : CS} {j id : Nat} (h : lookB j cs.bind = some (some id)) : bindι ι cs j = ι id := by simp [bindι, h]
theorem B231 {cs : CS} {j : Nat} (h : lookB j cs.bind = some none) : bindι ι cs j = ⟨none, 0⟩ := by simp [bindι, h]
theorem B829 {cs : CS} {j : Nat} (h : lookB j cs.bind = none) : bindι ι cs j = ι j := by simp [bindι, h]
theorem B684 {bs : List BSh} {cs : CS} (hf : Found bs base cs) (hρ : ∀ j, (ρ j).1 = j) {TR : List (PV G.E.T) -> List (PV G.E.T) -> Prop}
  (hb : ∀ k b, getL bs k = some b -> ∃ blk, getL H' k = some blk ∧ BTr H base ρ cs TR k (atB P k) b blk)
  (hs : ∀ j, getL bs j = some .same -> sameB H base j = true -> lookB j cs.bind = some (some j) ∧ ∃ b, getL H j = some b ∧ (b.info G.E = none -> (atB P j).info G.E = none) ∧
   (∀ ep len sz, b.info G.E = some (ep, len, sz) -> (atB P j).info G.E = some ((ρ j).2, len, sz))) :
  Agree G w Fz (B34 Fz ι cs.lent) ι (bindι ι cs) H H' ρ cs := by
 refine ⟨fun j id hl => ?_, fun j hl => ?_, fun id hi A hA => .inr ⟨id, hi, A, hA, rfl⟩, fun B h => .inl h⟩
 ·obtain ⟨sh, h1, h2⟩ := hf.told hl
  obtain ⟨blk, g1, g2⟩ := hb j sh h1
  rw [hρ, B44 hl]
  cases g2 with
  | gone => exact absurd rfl h2
  | same hsm =>
   obtain ⟨q1, b, q2, q3, q4⟩ := hs j h1 hsm
   rw [hl] at q1; cases q1
   exact ⟨b, _, q2, g1, rfl, q3, q4⟩
  | box e1 e2 e3 =>
   rw [hl] at e1; cases e1
   exact ⟨_, _, e2, g1, rfl, fun _ => rfl, fun ep len sz hi => by simp [Blk.info] at hi⟩
  | mp e1 e2 =>
   rw [hl] at e1; cases e1
   exact ⟨_, _, e2, g1, rfl, fun _ => rfl, fun ep len sz hi => by simp [Blk.info] at hi⟩
  | mpr e1 e2 =>
   rw [hl] at e1; cases e1
   exact ⟨_, _, e2, g1, rfl, fun _ => rfl, fun ep len sz hi => by simp [Blk.info] at hi⟩
  | ints e1 e2 e3 =>
   rw [hl] at e1; cases e1
   exact ⟨_, _, e2, g1, rfl, fun hi => by simp [Blk.info] at hi, fun ep len sz hi => by
    simp only [Blk.info, A16, A33] at hi ⊢; exact ⟨trivial, hi.2.1, hi.2.2⟩⟩
  | ints0 e1 => rw [hl] at e1; cases e1
  | rows e1 e2 e3 =>
   rw [hl] at e1; cases e1
   exact ⟨_, _, e2, g1, rfl, fun hi => by simp [Blk.info] at hi, fun ep len sz hi => by
    simp only [Blk.info, A16, A33] at hi ⊢; exact ⟨trivial, hi.2.1, hi.2.2⟩⟩
  | rows0 e1 => rw [hl] at e1; cases e1
 ·obtain ⟨sh, h1, h2⟩ := hf.told hl
  obtain ⟨blk, g1, g2⟩ := hb j sh h1
  rw [hρ, B231 hl]
  cases g2 with
  | gone => exact absurd rfl h2
  | same hsm =>
   obtain ⟨q1, _⟩ := hs j h1 hsm
   rw [hl] at q1; cases q1
  | box e1 e2 e3 => rw [hl] at e1; cases e1
  | mp e1 e2 => rw [hl] at e1; cases e1
  | mpr e1 e2 => rw [hl] at e1; cases e1
  | ints e1 e2 e3 => rw [hl] at e1; cases e1
  | ints0 e1 => exact ⟨_, 1, g1, rfl, rfl⟩
  | rows e1 e2 e3 => rw [hl] at e1; cases e1
  | rows0 e1 => exact ⟨_, _, g1, rfl, rfl⟩
theorem B357 {bs : List BSh} {cs : CS} {TR : List (PV G.E.T) -> List (PV G.E.T) -> Prop} {k : Nat} {b : BSh} {blk : Blk G.E.T} (hk : getL bs k = some b) (g : BTr H base ρ cs TR k (atB P k) b blk)
  (hs : ∀ j, getL bs j = some .same -> sameB H base j = true -> lookB j cs.bind = some (some j) ∧ ∃ b, getL H j = some b ∧ b.owned = (atB P j).owned ∧ b.frozen = (atB P j).frozen)
  {A : Addr} (hA : (bindι ι cs k).a = some A) (ho : blk.owned = true) :
  ∃ id b, lookB k cs.bind = some (some id) ∧ getL H id = some b ∧ b.owned = true ∧ (ι id).a = some A := by
 cases g with
 | gone => simp [Blk.owned] at ho
 | same hsm =>
  obtain ⟨q1, b, q2, q3, _⟩ := hs k hk hsm
  rw [B44 q1] at hA
  exact ⟨k, b, q1, q2, by rw [q3]; exact ho, hA⟩
 | box e1 e2 e3 => rw [B44 e1] at hA; exact ⟨_, _, e1, e2, rfl, hA⟩
 | mp e1 e2 => rw [B44 e1] at hA; exact ⟨_, _, e1, e2, rfl, hA⟩
 | mpr e1 e2 => rw [B44 e1] at hA; exact ⟨_, _, e1, e2, rfl, hA⟩
 | ints e1 e2 e3 => rw [B44 e1] at hA; exact ⟨_, _, e1, e2, rfl, hA⟩
 | ints0 e1 => rw [B231 e1] at hA; cases hA
 | rows e1 e2 e3 => rw [B44 e1] at hA; exact ⟨_, _, e1, e2, rfl, hA⟩
 | rows0 e1 => rw [B231 e1] at hA; cases hA
theorem B1075 {bs : List BSh} {cs : CS} {TR : List (PV G.E.T) -> List (PV G.E.T) -> Prop} {k : Nat} {b : BSh} {blk : Blk G.E.T} (hk : getL bs k = some b) (g : BTr H base ρ cs TR k (atB P k) b blk)
  (hs : ∀ j, getL bs j = some .same -> sameB H base j = true -> lookB j cs.bind = some (some j) ∧ ∃ b, getL H j = some b ∧ b.owned = (atB P j).owned ∧ b.frozen = (atB P j).frozen)
  {A : Addr} (hA : (bindι ι cs k).a = some A) (hg : blk ≠ .gone) : ∃ id b, getL H id = some b ∧ b ≠ .gone ∧ (ι id).a = some A := by
 by_cases ho : blk.owned = true
 ·obtain ⟨id, b, _, h2, h3, h4⟩ := B357 hk g hs hA ho
  exact ⟨id, b, h2, B15 h3, h4⟩
 ·have hf := B79 (by simpa using ho) hg
  cases g with
  | same hsm =>
   obtain ⟨q1, b, q2, q3, q4⟩ := hs k hk hsm
   rw [B44 q1] at hA
   exact ⟨k, b, q2, (by rintro rfl; rw [hf] at q4; cases q4), hA⟩
  | gone => cases hf
  | box => cases hf
  | mp => cases hf
  | mpr => cases hf
  | ints => cases hf
  | ints0 => cases hf
  | rows => cases hf
  | rows0 => cases hf
theorem B651 {sz : Nat} : RowAt w ⟨none, 0⟩ 0 sz := ⟨A11 _, A30 _, .inl ⟨rfl, rfl⟩⟩
theorem B614 (hH : HRep G.E w Fz ι H) {bs : List BSh} {cs : CS} (hf : Found bs base cs) (hlent : B66 H cs.lent) (hA : Agree G w Fz (B34 Fz ι cs.lent) ι (bindι ι cs) H H' ρ cs)
  (hlen : H'.length = bs.length)
  (hb : ∀ k b, getL bs k = some b -> ∃ blk, getL H' k = some blk ∧ BTr H base ρ cs (fun vs vs' => Agree G w Fz (B34 Fz ι cs.lent) ι (bindι ι cs) H H' ρ cs -> Trs G w Fz (B34 Fz ι cs.lent) ι (bindι ι cs) H H' vs vs') k (atB P k) b blk)
  (hs : ∀ j, getL bs j = some .same -> sameB H base j = true -> lookB j cs.bind = some (some j) ∧ ∃ b, getL H j = some b ∧ b.owned = (atB P j).owned ∧ b.frozen = (atB P j).frozen)
  (hrep : ∀ j, sameB H base j = true -> getL bs j = some .same -> BRep G.E w (B34 Fz ι cs.lent) (bindι ι cs) H' j (atB P j)) :
  HRep G.E w (B34 Fz ι cs.lent) (bindι ι cs) H' := by
 have at_ : ∀ {k blk}, getL H' k = some blk -> ∃ b, getL bs k = some b ∧ BTr H base ρ cs (fun vs vs' => Agree G w Fz (B34 Fz ι cs.lent) ι (bindι ι cs) H H' ρ cs -> Trs G w Fz (B34 Fz ι cs.lent) ι (bindι ι cs) H H' vs vs') k (atB P k) b blk := by
  intro k blk hk
  have hlt := B17 hk
  rw [hlen] at hlt
  have : getL bs k = some bs[k] := by rw [B24, A18 hlt]
  obtain ⟨blk', g1, g2⟩ := hb k _ this
  rw [hk] at g1; cases g1
  exact ⟨_, this, g2⟩
 refine ⟨fun k blk hk => ?_, fun i j b b' A A' hij hi hj ho ho' ha ha' => ?_, fun i b A hi ho ha hF => ?_, fun i b A hi ho ha => ?_, fun B hB => ?_⟩
 ·obtain ⟨sh, h1, h2⟩ := at_ hk
  cases h2 with
  | gone => trivial
  | same hsm => exact hrep k hsm h1
  | mp e1 e2 =>
   have hr := hH.rep _ _ e2
   simp only [BRep] at hr ⊢
   rw [B44 e1]
   exact hr
  | mpr e1 e2 =>
   have hr := hH.rep _ _ e2
   simp only [BRep] at hr ⊢
   rw [B44 e1]
   obtain ⟨B, q1, es, c, q2, q3⟩ := hr
   exact ⟨B, q1, es, c, q2, q3.mono hA.fz fun _ _ => rfl⟩
  | box e1 e2 e3 =>
   have hr := hH.rep _ _ e2
   simp only [BRep] at hr ⊢
   rw [B44 e1]
   obtain ⟨B, o, q1, q2, q3⟩ := hr
   refine ⟨B, o, q1, q2, fun c p hp => ?_⟩
   obtain ⟨p0, g1, g2⟩ := (e3 hA).get hp
   obtain ⟨r1, r2, u, r3, r4⟩ := q3 c p0 g1
   exact ⟨g2.1 r1, r2, u, r3, g2.2 u r4⟩
  | ints e1 e2 e3 =>
   have hr := hH.rep _ _ e2
   simp only [BRep] at hr ⊢
   rw [B44 e1]
   exact hr
  | ints0 e1 =>
   simp only [BRep]
   rw [B231 e1]
   exact ⟨B651, by simp, fun B o hn => by cases hn⟩
  | rows e1 e2 e3 =>
   have hr := hH.rep _ _ e2
   simp only [BRep] at hr ⊢
   rw [B44 e1]
   exact ⟨hr.1, fun B o ha j x c p hj hp => by
    obtain ⟨u, q1, q2⟩ := hr.2 B o ha j x c p hj hp
    exact ⟨u, q1, q2.mono hA.fz fun _ _ => rfl⟩⟩
  | rows0 e1 =>
   simp only [BRep]
   rw [B231 e1]
   exact ⟨B651, fun B o hn => by cases hn⟩
 ·obtain ⟨_, k1, g1⟩ := at_ hi
  obtain ⟨_, k2, g2⟩ := at_ hj
  obtain ⟨id, c, p1, p2, p3, p4⟩ := B357 k1 g1 hs ha ho
  obtain ⟨id', c', q1, q2, q3, q4⟩ := B357 k2 g2 hs ha' ho'
  refine hH.apart id id' c c' A A' (fun e => ?_) p2 q2 p3 q3 p4 q4
  subst e
  exact hij (hf.one p1 q1)
 ·obtain ⟨_, k1, g1⟩ := at_ hi
  obtain ⟨id, c, p1, p2, p3, p4⟩ := B357 k1 g1 hs ha ho
  rcases hF with hF | ⟨id2, hl, A2, hA2, e⟩
  ·exact hH.free id c A p2 p3 p4 hF
  ·obtain ⟨c2, q1, q2⟩ := hlent id2 hl
   exact hH.apart id id2 c c2 A A2 (fun e => by subst e; exact hf.apart p1 hl) p2 q1 p3 q2 p4 hA2 e
 ·obtain ⟨_, k1, g1⟩ := at_ hi
  cases g1 with
  | same hsm =>
   obtain ⟨q1, c, q2, _, q3⟩ := hs i k1 hsm
   rw [B44 q1] at ha
   exact .inl (hH.held i c A q2 (by rw [q3]; exact ho) ha)
  | gone => cases ho
  | box => cases ho
  | mp => cases ho
  | mpr => cases ho
  | ints => cases ho
  | ints0 => cases ho
  | rows => cases ho
  | rows0 => cases ho
 ·rcases hB with hB | ⟨id, hl, A, hA', rfl⟩
  ·exact hH.fz B hB
  ·obtain ⟨c, q1, q2⟩ := hlent id hl
   exact (hH.rep id c q1).lt (B15 q2) hA'
end
section
variable {G : Prg} {w w0 : World} {Fz Fz0 Fz' : Nat -> Prop} {ι ι0 ι' : Nat -> Loc} {H H' P base : List (Blk G.E.T)} {ρ : Nat -> Nat × Nat} {X : Ctx}
structure Sim (P base : List (Blk G.E.T)) : Prop where
 len : P.length = base.length
 at_ : ∀ j b, getL P j = some b -> getL base j = some b ∨ getL base j = some (protB b)
theorem B263 (b : Blk G.E.T) : (protB b).info G.E = b.info G.E := by
 cases b with
 | gone => rfl
 | box m c => cases m <;> rfl
 | mp m k => cases m <;> rfl
 | mpr m k i xs => cases m <;> rfl
 | ints m k ep xs => cases m <;> rfl
 | rows m k ep xs => cases m <;> rfl
theorem B486 (b : Blk G.E.T) : (protB b).owned = b.owned := by
 cases b with
 | gone => rfl
 | box m c => cases m <;> rfl
 | mp m k => cases m <;> rfl
 | mpr m k i xs => cases m <;> rfl
 | ints m k ep xs => cases m <;> rfl
 | rows m k ep xs => cases m <;> rfl
theorem B427 (b : Blk G.E.T) : (protB b).frozen = b.frozen := by
 cases b with
 | gone => rfl
 | box m c => cases m <;> rfl
 | mp m k => cases m <;> rfl
 | mpr m k i xs => cases m <;> rfl
 | ints m k ep xs => cases m <;> rfl
 | rows m k ep xs => cases m <;> rfl
theorem B1005 {b : Blk G.E.T} (h : b.prot = true ∨ b.frozen = true) : protB b = b := by
 cases b with
 | gone => rfl
 | box m c => cases m <;> first | rfl | (rcases h with h | h <;> cases h)
 | mp m k => cases m <;> first | rfl | (rcases h with h | h <;> cases h)
 | mpr m k i xs => cases m <;> first | rfl | (rcases h with h | h <;> cases h)
 | ints m k ep xs => cases m <;> first | rfl | (rcases h with h | h <;> cases h)
 | rows m k ep xs => cases m <;> first | rfl | (rcases h with h | h <;> cases h)
theorem B860 {b : Blk G.E.T} (h : protB b = .gone) : b = .gone := by
 cases b with
 | gone => rfl
 | box m c => cases m <;> cases h
 | mp m k => cases m <;> cases h
 | mpr m k i xs => cases m <;> cases h
 | ints m k ep xs => cases m <;> cases h
 | rows m k ep xs => cases m <;> cases h
theorem Sim.get (h : Sim (G := G) P base) {j : Nat} {b : Blk G.E.T} (hb : getL base j = some b) : ∃ p, getL P j = some p ∧ (b = p ∨ b = protB p) := by
 have hlt := B17 hb
 rw [← h.len] at hlt
 have : getL P j = some P[j] := by rw [B24, A18 hlt]
 refine ⟨_, this, ?_⟩
 rcases h.at_ j _ this with e | e <;> rw [hb] at e <;> cases e
 ·exact .inl rfl
 ·exact .inr rfl
theorem Sim.refl : Sim (G := G) P P := ⟨rfl, fun _ _ h => .inl h⟩
theorem Sim.un (h : Sim (G := G) P base) {B : Nat} (hu : Un w Fz ι P B) : Un w Fz ι base B :=
 ⟨hu.1, hu.2.1, fun j b A hb hg hA => by
  obtain ⟨p, h1, h2⟩ := h.get hb
  refine hu.2.2 j p A h1 (fun e => hg ?_) hA
  subst e
  rcases h2 with rfl | rfl <;> rfl⟩
theorem B715 : ∀ {bs : List BSh} {j : Nat} {b : BSh}, getL bs j = some b -> keepN j bs = keepB b
 | [], _, _, h => by simp [getL] at h
 | c :: l, 0, b, h => by simp only [getL, A16] at h; subst h; rfl
 | c :: l, j + 1, b, h => by simp only [getL] at h; simp only [keepN]; exact B715 h
theorem ρcut_fst {bs : List BSh} {j : Nat} : (ρcut P bs j).1 = j := by
 unfold ρcut; split <;> first | (split <;> rfl) | rfl
theorem ρcut_old {bs : List BSh} {j : Nat} {b : BSh} (hj : j < P.length) (hb : getL bs j = some b) : (ρcut P bs j).2 = if keepB b = true then epOf P j else epOf P j + 1 := by
 have : Nat.blt j P.length = true := by simp [Nat.blt]; omega
 simp only [ρcut, this, B715 hb]
 cases keepB b <;> simp
theorem B102 {j : Nat} {b : Blk G.E.T} (h : getL P j = some b) {ep len sz : Nat} (hi : b.info G.E = some (ep, len, sz)) : epOf P j = ep := by
 unfold epOf
 rw [h]
 cases b <;> simp_all [Blk.info]
theorem B687 {j : Nat} {b : Blk G.E.T} (h : getL P j = some b) : atB P j = b := by simp [atB, h]
theorem B493 {j : Nat} (h : sameB H base j = true) : ∃ b c, getL H j = some b ∧ getL base j = some c ∧ ((c.prot = true ∨ c.frozen = true) ∨ (b = .gone ∧ c = .gone)) := by
 unfold sameB at h
 split at h <;> first
  | (rename_i h1 h2; exact ⟨_, _, h1, h2, .inl (.inl rfl)⟩)
  | (rename_i h1 h2; exact ⟨_, _, h1, h2, .inl (.inr rfl)⟩)
  | (rename_i h1 h2; exact ⟨_, _, h1, h2, .inr ⟨rfl, rfl⟩⟩)
  | cases h
theorem B551 : ∀ {l : List Nat} {id : Nat}, B265 H l = true -> id ∈ l -> ∃ b, getL H id = some b ∧ b.owned = true ∧ b.prot = false
 | [], _, _, h => by simp at h
 | i :: l, id, hl, h => by
  simp only [B265] at hl
  split at hl
  ·rename_i hb
   rcases A19.1 h with rfl | h
   ·exact ⟨_, hb, rfl, rfl⟩
   ·exact B551 hl h
  ·rename_i hb
   rcases A19.1 h with rfl | h
   ·exact ⟨_, hb, rfl, rfl⟩
   ·exact B551 hl h
  ·cases hl
theorem B695 (hS : Step G.E X w0 w Fz0 Fz ι0 ι base H) (hP : HRep G.E w0 Fz0 ι0 P) (hsim : Sim P base) {ss : List TSh} {vs : List (PV G.E.T)} {bs : List BSh} {l : List (LV G.E.T)} {cs : CS}
  (h : B51 ss vs bs base H = some (l, cs)) :
  Step G.E X w0 w Fz0 (B34 Fz ι cs.lent) ι0 (bindι ι cs) P (rebBs (ρcut P bs) 0 bs P (rebTs (ρcut P bs) ss l).2) ∧
   Trs G w Fz (B34 Fz ι cs.lent) ι (bindι ι cs) H (rebBs (ρcut P bs) 0 bs P (rebTs (ρcut P bs) ss l).2) vs (rebTs (ρcut P bs) ss l).1 ∧
   ∀ B, Un w Fz ι H B -> Un w (B34 Fz ι cs.lent) (bindι ι cs) (rebBs (ρcut P bs) 0 bs P (rebTs (ρcut P bs) ss l).2) B := by
 have hH := hS.heap
 obtain ⟨hf, hall⟩ := B362 (ρ := ρcut P bs) (Fz' := B34 Fz ι cs.lent) (ι' := bindι ι cs) (H' := rebBs (ρcut P bs) 0 bs P (rebTs (ρcut P bs) ss l).2) hH h
 obtain ⟨hv, hb⟩ := hall P
 generalize hH' : rebBs (ρcut P bs) 0 bs P (rebTs (ρcut P bs) ss l).2 = H' at *
 have hlen : H'.length = bs.length := by rw [← hH', B93]
 have hlent := B414 h
 -- the blocks that stand as they stood
 have hsame : ∀ j, sameB H base j = true -> getL H j = getL base j ∧ ∃ p c, getL P j = some p ∧ getL base j = some c ∧ (c = p ∨ c = protB p) ∧ ((c.prot = true ∨ c.frozen = true) ∨ c = .gone) ∧ j < base.length := by
  intro j hj
  obtain ⟨b, c, h1, h2, h3⟩ := B493 hj
  obtain ⟨p, h4, h5⟩ := hsim.get h2
  refine ⟨?_, p, c, h4, h2, h5, ?_, B17 h2⟩
  ·rcases h3 with h3 | ⟨h3, h3'⟩
   ·rw [(hS.still j c h2 h3).1, h2]
   ·rw [h1, h2, h3, h3']
  ·rcases h3 with h3 | ⟨h3, h3'⟩
   ·exact .inl h3
   ·exact .inr h3'
 have hstay : ∀ j sh, j < base.length -> getL bs j = some sh -> sh ≠ .gone -> lookB j cs.bind = some (some j) := fun j sh h1 h2 h3 => hf.stay h1 h2 h3
 have hbs : ∀ j, j < base.length -> ∃ sh, getL bs j = some sh := fun j hj => by
  have : j < bs.length := A75 hj hf.le
  exact ⟨bs[j], by rw [B24, A18 this]⟩
 have hbind : ∀ j sh, j < base.length -> getL bs j = some sh -> bindι ι cs j = ι j := by
  intro j sh hj hsh
  by_cases hg : sh = .gone
  ·subst hg
   refine B829 ?_
   cases hq : lookB j cs.bind with
   | none => rfl
   | some x =>
    obtain ⟨sh', q1, q2⟩ := hf.told hq
    rw [hsh] at q1; cases q1
    exact absurd rfl q2
  ·exact B44 (hstay j sh hj hsh hg)
 have infoP : ∀ {j p c}, getL P j = some p -> getL base j = some c -> (c = p ∨ c = protB p) -> c.info G.E = p.info G.E := by
  intro j p c _ _ h
  rcases h with rfl | rfl
  ·rfl
  ·exact B263 _
 -- a block that is told as the same
 have hone : ∀ j, getL bs j = some .same -> sameB H base j = true -> lookB j cs.bind = some (some j) ∧ ∃ b p, getL H j = some b ∧ getL P j = some p ∧ atB P j = p ∧ b.info G.E = p.info G.E ∧ b.owned = p.owned ∧ b.frozen = p.frozen := by
  intro j h1 h2
  obtain ⟨q1, p, c, q2, q3, q4, q5, q6⟩ := hsame j h2
  refine ⟨hstay j _ q6 h1 (by simp), c, p, by rw [q1, q3], q2, B687 q2, infoP q2 q3 q4, ?_, ?_⟩
  ·rcases q4 with rfl | rfl
   ·rfl
   ·exact B486 _
  ·rcases q4 with rfl | rfl
   ·rfl
   ·exact B427 _
 have hA : Agree G w Fz (B34 Fz ι cs.lent) ι (bindι ι cs) H H' (ρcut P bs) cs := by
  refine B684 (P := P) hf (fun j => ρcut_fst) hb fun j h1 h2 => ?_
  obtain ⟨q1, b, p, q2, q3, q4, q5, _⟩ := hone j h1 h2
  refine ⟨q1, b, q2, fun hi => by rw [q4, ← q5]; exact hi, fun ep len sz hi => ?_⟩
  have hi' := hi
  rw [q5] at hi'
  rw [q4, hi', ρcut_old (B17 q3) h1, B102 q3 hi']
  simp [keepB]
 -- what each of the base's blocks becomes
 have hstep : ∀ j p, getL P j = some p -> ∃ blk, getL H' j = some blk ∧ StepB G.E ι0 (bindι ι cs) j p blk ∧ ((p.prot = true ∨ p.frozen = true) -> blk = p ∧ bindι ι cs j = ι0 j ∧ ∀ A, (ι0 j).a = some A -> w.heap[A.block]? = w0.heap[A.block]?) := by
  intro j p hp
  have hj : j < base.length := by rw [← hsim.len]; exact B17 hp
  obtain ⟨sh, hsh⟩ := hbs j hj
  obtain ⟨c, hc, hcp⟩ : ∃ c, getL base j = some c ∧ (c = p ∨ c = protB p) := by
   rcases hsim.at_ j p hp with e | e
   ·exact ⟨_, e, .inl rfl⟩
   ·exact ⟨_, e, .inr rfl⟩
  obtain ⟨bH, hbH, sB⟩ := hS.keep.le j c hc
  have hic := infoP hp hc hcp
  have hcpp : (p.prot = true ∨ p.frozen = true) -> c = p := fun e => by
   rcases hcp with e' | e'
   ·exact e'
   ·rw [e', B1005 e]
  have hι := hbind j sh hj hsh
  obtain ⟨blk, g1, g2⟩ := hb j sh hsh
  have flatι : p.info G.E = none -> (bindι ι cs j).a = (ι0 j).a := fun hi => by rw [hι]; exact (sB.flat (by rw [hic]; exact hi)).2
  have goneP : p = .gone -> bH = .gone := fun e => by
   refine sB.gone ?_
   rcases hcp with e' | e' <;> rw [e', e]
   rfl
  refine ⟨blk, g1, ?_⟩
  cases g2 with
  | gone =>
   refine ⟨⟨fun hi => ⟨rfl, flatι hi⟩, fun _ _ _ _ => .inl rfl, fun _ => rfl⟩, fun e => ?_⟩
   have := hcpp e
   subst this
   obtain ⟨q1, q2⟩ := hf.gone hc hsh
   rcases e with e | e
   ·rw [q2] at e; cases e
   ·rw [q1] at e; cases e
  | same hsm =>
   obtain ⟨q1, p', c', q2, q3, q4, q5, q6⟩ := hsame j hsm
   rw [hp] at q2; cases q2
   rw [hc] at q3; cases q3
   rw [B687 hp]
   have hst : (c.prot = true ∨ c.frozen = true) -> bindι ι cs j = ι0 j ∧ ∀ A, (ι0 j).a = some A -> w.heap[A.block]? = w0.heap[A.block]? := fun e => by
    obtain ⟨r1, r2, r3⟩ := hS.still j c hc e
    exact ⟨by rw [hι, r2], r3⟩
   refine ⟨⟨fun hi => ⟨hi, flatι hi⟩, fun ep len sz hi => .inr ⟨ep, len, sz, hi, A11 _, fun _ => ⟨rfl, rfl, ?_⟩⟩, fun e => e⟩, fun e => ?_⟩
   ·rcases q5 with q5 | q5
    ·exact (hst q5).1
    ·rw [q5] at hic
     rw [hi] at hic; cases hic
   ·have := hcpp e
    subst this
    exact ⟨rfl, hst e⟩
  | box e1 e2 e3 =>
   rename_i id cells vs' vs''
   have hid := hstay j _ hj hsh (by simp)
   rw [hid] at e1; cases e1
   rw [hbH] at e2; cases e2
   refine ⟨⟨fun hi => ⟨rfl, flatι hi⟩, fun _ _ _ _ => .inl rfl, fun e => by have := goneP e; cases this⟩, fun e => ?_⟩
   have := hcpp e
   subst this
   have := (hS.still j c hc e).1
   rw [hbH] at this; cases this
   rcases e with e | e <;> cases e
  | mp e1 e2 =>
   rename_i id k
   have hid := hstay j _ hj hsh (by simp)
   rw [hid] at e1; cases e1
   rw [hbH] at e2; cases e2
   refine ⟨⟨fun hi => ⟨rfl, flatι hi⟩, fun _ _ _ _ => .inl rfl, fun e => by have := goneP e; cases this⟩, fun e => ?_⟩
   have := hcpp e
   subst this
   have := (hS.still j c hc e).1
   rw [hbH] at this; cases this
   rcases e with e | e <;> cases e
  | mpr e1 e2 =>
   rename_i id k i xs
   have hid := hstay j _ hj hsh (by simp)
   rw [hid] at e1; cases e1
   rw [hbH] at e2; cases e2
   refine ⟨⟨fun hi => ⟨rfl, flatι hi⟩, fun _ _ _ _ => .inl rfl, fun e => by have := goneP e; cases this⟩, fun e => ?_⟩
   have := hcpp e
   subst this
   have := (hS.still j c hc e).1
   rw [hbH] at this; cases this
   rcases e with e | e <;> cases e
  | ints e1 e2 e3 =>
   rename_i id k keep ep xs
   have hid := hstay j _ hj hsh (by simp)
   rw [hid] at e1; cases e1
   rw [hbH] at e2; cases e2
   refine ⟨⟨fun hi => ?_, fun ep0 len0 sz0 hi => ?_, fun e => by have := goneP e; cases this⟩, fun e => ?_⟩
   ·have := (sB.flat (by rw [hic]; exact hi)).1
    cases this
   ·rcases sB.row ep0 len0 sz0 (by rw [hic]; exact hi) with q | ⟨ep', len', sz', q1, q2, q3⟩
    ·cases q
    ·simp only [Blk.info, A16, A33] at q1
     obtain ⟨rfl, rfl, rfl⟩ := q1
     refine .inr ⟨_, xs.length, 1, rfl, ?_, fun e => ?_⟩
     ·rw [ρcut_old (B17 hp) hsh, B102 hp hi]; split <;> omega
     ·rw [ρcut_old (B17 hp) hsh, B102 hp hi] at e
      split at e
      ·rename_i hk
       have := (e3 hk).1
       rw [B102 hc (by rw [hic]; exact hi)] at this
       rw [hι]
       exact q3 this.symm
      ·omega
   ·have := hcpp e
    subst this
    have := (hS.still j c hc e).1
    rw [hbH] at this; cases this
    rcases e with e | e <;> cases e
  | ints0 e1 =>
   have hid := hstay j _ hj hsh (by simp)
   rw [hid] at e1; cases e1
  | rows e1 e2 e3 =>
   rename_i id k keep ep xs
   have hid := hstay j _ hj hsh (by simp)
   rw [hid] at e1; cases e1
   rw [hbH] at e2; cases e2
   refine ⟨⟨fun hi => ?_, fun ep0 len0 sz0 hi => ?_, fun e => by have := goneP e; cases this⟩, fun e => ?_⟩
   ·have := (sB.flat (by rw [hic]; exact hi)).1
    cases this
   ·rcases sB.row ep0 len0 sz0 (by rw [hic]; exact hi) with q | ⟨ep', len', sz', q1, q2, q3⟩
    ·cases q
    ·simp only [Blk.info, A16, A33] at q1
     obtain ⟨rfl, rfl, rfl⟩ := q1
     refine .inr ⟨_, xs.length, _, rfl, ?_, fun e => ?_⟩
     ·rw [ρcut_old (B17 hp) hsh, B102 hp hi]; split <;> omega
     ·rw [ρcut_old (B17 hp) hsh, B102 hp hi] at e
      split at e
      ·rename_i hk
       have := (e3 hk).1
       rw [B102 hc (by rw [hic]; exact hi)] at this
       rw [hι]
       exact q3 this.symm
      ·omega
   ·have := hcpp e
    subst this
    have := (hS.still j c hc e).1
    rw [hbH] at this; cases this
    rcases e with e | e <;> cases e
  | rows0 e1 =>
   have hid := hstay j _ hj hsh (by simp)
   rw [hid] at e1; cases e1
 have K : Keep G.E w0 w Fz0 (B34 Fz ι cs.lent) ι0 (bindι ι cs) P H' :=
  ⟨fun B hB => .inl (hS.keep.fz B hB), hS.keep.heap, fun j p hp => by obtain ⟨blk, q1, q2, _⟩ := hstep j p hp; exact ⟨blk, q1, q2⟩⟩
 have hs2 : ∀ j, getL bs j = some .same -> sameB H base j = true -> lookB j cs.bind = some (some j) ∧ ∃ b, getL H j = some b ∧ b.owned = (atB P j).owned ∧ b.frozen = (atB P j).frozen := by
  intro j h1 h2
  obtain ⟨q1, b, p, q2, q3, q4, q5, q6, q7⟩ := hone j h1 h2
  exact ⟨q1, b, q2, by rw [q4]; exact q6, by rw [q4]; exact q7⟩
 have hHR : HRep G.E w (B34 Fz ι cs.lent) (bindι ι cs) H' := by
  refine B614 (P := P) hH hf hlent hA hlen hb hs2 fun j h1 h2 => ?_
  obtain ⟨q1, p, c, q2, q3, q4, q5, q6⟩ := hsame j h1
  rw [B687 q2]
  rcases q5 with q5 | q5
  ·obtain ⟨r1, r2, r3⟩ := hS.still j c q3 q5
   exact (hP.rep j p q2).keep K (by rw [hbind j _ q6 h2, r2]) r3
  ·subst q5
   have : p = .gone := by
    rcases q4 with e | e
    ·exact e.symm
    ·exact B860 e.symm
   subst this
   trivial
 have hun : ∀ B, Un w Fz ι H B -> Un w (B34 Fz ι cs.lent) (bindι ι cs) H' B := by
  rintro B ⟨u1, u2, u3⟩
  refine ⟨u1, ?_, fun j blk A hj hg ha => ?_⟩
  ·rintro (hB | ⟨id, hl, A, hA', rfl⟩)
   ·exact u2 hB
   ·obtain ⟨c, q1, q2⟩ := hlent id hl
    exact u3 id c A q1 (B15 q2) hA' rfl
  ·have hlt : j < bs.length := by rw [← hlen]; exact B17 hj
   have hsh : getL bs j = some bs[j] := by rw [B24, A18 hlt]
   obtain ⟨blk', g1, g2⟩ := hb j _ hsh
   rw [hj] at g1; cases g1
   obtain ⟨id, c, p2, p3, p4⟩ := B1075 hsh g2 hs2 ha hg
   exact u3 id c A p2 p3 p4
 refine ⟨⟨K, fun j p hp he => ?_, hHR, ⟨hS.fram.os, hS.fram.tape, hS.fram.output, hS.fram.size, hS.fram.block, fun j blk A hj ho ha => ?_, fun B hB => ?_⟩,
  fun B hB => ⟨(hS.un B (hsim.un hB)).1, hun B (hS.un B (hsim.un hB)).2⟩⟩, hv hA, hun⟩
 ·obtain ⟨blk, q1, q2, q3⟩ := hstep j p hp
  obtain ⟨rfl, r2, r3⟩ := q3 he
  exact ⟨q1, r2, r3⟩
 ·have hlt : j < bs.length := by rw [← hlen]; exact B17 hj
  have hsh : getL bs j = some bs[j] := by rw [B24, A18 hlt]
  obtain ⟨blk', g1, g2⟩ := hb j _ hsh
  rw [hj] at g1; cases g1
  obtain ⟨id, c, p1, p2, p3, p4⟩ := B357 hsh g2 hs2 ha ho
  exact hS.fram.own id c A p2 p3 p4
 ·rcases hB with hB | ⟨id, hl, A, hA', rfl⟩
  ·exact hS.fram.fz B hB
  ·obtain ⟨c, q1, q2⟩ := hlent id hl
   exact .inr (hS.fram.own id c A q1 q2 hA')
end
section
variable {G : Prg} {w : World} {Fz Fz' : Nat -> Prop} {ι ι' : Nat -> Loc} {H H' : List (Blk G.E.T)} {ρ ρ' : Nat -> Nat × Nat}
structure Agree2 (G : Prg) (ι ι' : Nat -> Loc) (H H' : List (Blk G.E.T)) (ρ ρ' : Nat -> Nat × Nat) : Prop where
 at_ : ∀ j b, getL H (ρ j).1 = some b -> ∃ b', getL H' (ρ' j).1 = some b' ∧ ι' (ρ' j).1 = ι (ρ j).1 ∧ (b.info G.E = none -> b'.info G.E = none) ∧
  ∀ ep len sz, b.info G.E = some (ep, len, sz) -> ep = (ρ j).2 ∧ b'.info G.E = some ((ρ' j).2, len, sz)
theorem FRep.nohold {E : Env} {p : PV E.T} {v : Value} (h : FRep E w Fz p v) (hp : (∃ k n, p = .int k n) ∨ (∃ b, p = .bool b) ∨ (∃ s, p = .str s)) : FRep E w Fz' p v := by
 cases h with
 | int h => exact .int h
 | bool => exact .bool
 | str h1 h2 => exact .str h1 h2
 | ints => rcases hp with ⟨_, _, e⟩ | ⟨_, e⟩ | ⟨_, e⟩ <;> cases e
 | rows => rcases hp with ⟨_, _, e⟩ | ⟨_, e⟩ | ⟨_, e⟩ <;> cases e
theorem B481 {s : TSh} {l : List TSh} (h : TSh.holdsL (s :: l) = false) : s.holds = false ∧ TSh.holdsL l = false := by
 simp only [TSh.holdsL] at h
 split at h
 ·cases h
 ·rename_i e; exact ⟨e, h⟩
mutual
theorem renT (hA : Agree2 G ι ι' H H' ρ ρ') : ∀ (s : TSh), ((∀ B, Fz B -> Fz' B) ∨ s.holds = false) -> ∀ r : List (LV G.E.T), (rebT ρ s r).2 = (rebT ρ' s r).2 ∧ Tr G w Fz Fz' ι ι' H H' (rebT ρ s r).1 (rebT ρ' s r).1
 | .int k, hz, r => by
  rcases r with _ | ⟨_ | _ | _ | _ | _, r⟩ <;> simp only [rebT] <;> refine ⟨trivial, fun e => e, fun u hu => ?_⟩ <;> simp only [PRep] at hu ⊢
  exact hu.nohold (.inl ⟨_, _, rfl⟩)
 | .bool, hz, r => by
  rcases r with _ | ⟨_ | _ | _ | _ | _, r⟩ <;> simp only [rebT] <;> refine ⟨trivial, fun e => e, fun u hu => ?_⟩ <;> simp only [PRep] at hu ⊢
  exact hu.nohold (.inr (.inl ⟨_, rfl⟩))
 | .str, hz, r => by
  rcases r with _ | ⟨_ | _ | _ | _ | _, r⟩ <;> simp only [rebT] <;> refine ⟨trivial, fun e => e, fun u hu => ?_⟩ <;> simp only [PRep] at hu ⊢
  exact hu.nohold (.inr (.inr ⟨_, rfl⟩))
 | .ints k, hz, r => by
  have hz' : ∀ B, Fz B -> Fz' B := hz.resolve_right (by simp [TSh.holds])
  rcases r with _ | ⟨_ | _ | _ | _ | _, r⟩ <;> simp only [rebT] <;> refine ⟨trivial, fun e => e, fun u hu => ?_⟩ <;> simp only [PRep] at hu ⊢
  exact hu.mono hz' fun _ _ => rfl
 | .rows i, hz, r => by
  have hz' : ∀ B, Fz B -> Fz' B := hz.resolve_right (by simp [TSh.holds])
  rcases r with _ | ⟨_ | _ | _ | _ | ⟨j, xs⟩, r⟩ <;> simp only [rebT]
  case cons.rows =>
   split
   ·refine ⟨trivial, fun e => e, fun u hu => ?_⟩
    simp only [PRep] at hu ⊢
    exact hu.mono hz' fun _ _ => rfl
   ·refine ⟨trivial, fun e => e, fun u hu => ?_⟩
    simp only [PRep] at hu ⊢
  all_goals
   refine ⟨trivial, fun e => e, fun u hu => ?_⟩
   simp only [PRep] at hu ⊢
 | .arr j, hz, r => by
  simp only [rebT]
  refine ⟨trivial, fun _ => rfl, fun u hu => ?_⟩
  simp only [PRep] at hu ⊢
  obtain ⟨b, hb, h1, h2⟩ := hu
  obtain ⟨b', g1, g2, g3, g4⟩ := hA.at_ j b hb
  refine ⟨b', g1, h1, fun ep len sz hi => ?_⟩
  cases hq : b.info G.E with
  | none => rw [g3 hq] at hi; cases hi
  | some x =>
   obtain ⟨ep0, len0, sz0⟩ := x
   obtain ⟨e1, e2⟩ := g4 ep0 len0 sz0 hq
   rw [e2] at hi
   simp only [A16, A33] at hi
   obtain ⟨rfl, rfl, rfl⟩ := hi
   exact ⟨A11 _, fun _ => by rw [g2]; exact (h2 ep0 len0 sz0 hq).2 e1.symm⟩
 | .agg l, hz, r => by
  obtain ⟨h1, h2⟩ := renTs hA l (hz.imp id fun e => by simpa only [TSh.holds] using e) r
  simp only [rebT]
  refine ⟨h1, fun e => by simp [PV.one] at e, fun u hu => ?_⟩
  simp only [PRep] at hu ⊢
  obtain ⟨cs, rfl, q1, q2⟩ := hu
  exact ⟨cs, rfl, h2.ones q1, h2.reps q2⟩
 | .ptr j off, hz, r => by
  simp only [rebT]
  refine ⟨trivial, fun _ => rfl, fun u hu => ?_⟩
  simp only [PRep] at hu ⊢
  obtain ⟨b, hb, hi, B, o, ha, rfl⟩ := hu
  obtain ⟨b', g1, g2, g3, g4⟩ := hA.at_ j b hb
  exact ⟨b', g1, g3 hi, B, o, by rw [g2]; exact ha, rfl⟩
 | .mapr j, hz, r => by
  simp only [rebT]
  refine ⟨trivial, fun _ => rfl, fun u hu => ?_⟩
  simp only [PRep] at hu ⊢
  obtain ⟨b, hb, hi, B, ha, rfl⟩ := hu
  obtain ⟨b', g1, g2, g3, g4⟩ := hA.at_ j b hb
  exact ⟨b', g1, g3 hi, B, by rw [g2]; exact ha, rfl⟩
 | .nil, hz, r => by
  simp only [rebT]
  refine ⟨trivial, fun e => e, fun u hu => ?_⟩
  simp only [PRep] at hu ⊢
  exact hu
 | .nilsl, hz, r => by
  simp only [rebT]
  refine ⟨trivial, fun e => e, fun u hu => ?_⟩
  simp only [PRep] at hu ⊢
  exact hu
 | .lit k n, hz, r => by
  simp only [rebT]
  refine ⟨trivial, fun e => e, fun u hu => ?_⟩
  simp only [PRep] at hu ⊢
  cases hu; exact .int ‹_›
 | .litb b, hz, r => by
  simp only [rebT]
  refine ⟨trivial, fun e => e, fun u hu => ?_⟩
  simp only [PRep] at hu ⊢
  cases hu; exact .bool
 | .fn f l, hz, r => by
  obtain ⟨h1, h2⟩ := renTs hA l (hz.imp id fun e => by simpa only [TSh.holds] using e) r
  simp only [rebT]
  refine ⟨h1, fun _ => rfl, fun u hu => ?_⟩
  simp only [PRep] at hu ⊢
  obtain ⟨cs, rfl, q2⟩ := hu
  exact ⟨cs, rfl, h2.reps q2⟩
theorem renTs (hA : Agree2 G ι ι' H H' ρ ρ') : ∀ (l : List TSh), ((∀ B, Fz B -> Fz' B) ∨ TSh.holdsL l = false) -> ∀ r : List (LV G.E.T), (rebTs ρ l r).2 = (rebTs ρ' l r).2 ∧ Trs G w Fz Fz' ι ι' H H' (rebTs ρ l r).1 (rebTs ρ' l r).1
 | [], _, r => by simp only [rebTs]; exact ⟨trivial, trivial⟩
 | s :: l, hz, r => by
  obtain ⟨h1, h2⟩ := renT hA s (hz.imp id fun e => (B481 e).1) r
  obtain ⟨g1, g2⟩ := renTs hA l (hz.imp id fun e => (B481 e).2) (rebT ρ s r).2
  simp only [rebTs]
  rw [← h1]
  exact ⟨g1, h2, g2⟩
end
mutual
theorem B929 : ∀ (s : TSh) (r : List (LV G.E.T)), (rebT ρ s r).2 = (rebT ρ' s r).2
 | .int k, r => by rcases r with _ | ⟨_ | _ | _ | _ | _, r⟩ <;> simp only [rebT]
 | .bool, r => by rcases r with _ | ⟨_ | _ | _ | _ | _, r⟩ <;> simp only [rebT]
 | .str, r => by rcases r with _ | ⟨_ | _ | _ | _ | _, r⟩ <;> simp only [rebT]
 | .ints k, r => by rcases r with _ | ⟨_ | _ | _ | _ | _, r⟩ <;> simp only [rebT]
 | .rows i, r => by rcases r with _ | ⟨_ | _ | _ | _ | _, r⟩ <;> simp only [rebT]
 | .arr j, r => by simp only [rebT]
 | .agg l, r => by simp only [rebT]; exact rebTs_rest l r
 | .ptr j off, r => by simp only [rebT]
 | .mapr j, r => by simp only [rebT]
 | .nil, r => by simp only [rebT]
 | .lit k n, r => by simp only [rebT]
 | .litb b, r => by simp only [rebT]
 | .nilsl, r => by simp only [rebT]
 | .fn f l, r => by simp only [rebT]; exact rebTs_rest l r
theorem rebTs_rest : ∀ (l : List TSh) (r : List (LV G.E.T)), (rebTs ρ l r).2 = (rebTs ρ' l r).2
 | [], r => by simp only [rebTs]
 | s :: l, r => by
  simp only [rebTs]
  rw [B929 s r]
  exact rebTs_rest l _
end
inductive RTr (G : Prg) (TR : List (PV G.E.T) -> List (PV G.E.T) -> Prop) (Z : Prop) (e e' : Nat) : Blk G.E.T -> Blk G.E.T -> Prop
 | gone : RTr G TR Z e e' .gone .gone
 | box {vs vs' : List (PV G.E.T)} : TR vs vs' -> RTr G TR Z e e' (.box .own vs) (.box .own vs')
 | mp {k : IntKind} : RTr G TR Z e e' (.mp .own k) (.mp .own k)
 | mpr {k : KK} {i : Nat} {xs : List (G.E.T i)} : (Z ∨ G.E.flat i = true) -> RTr G TR Z e e' (.mpr .own k i xs) (.mpr .own k i xs)
 | ints {k : IntKind} {xs : List Int} : RTr G TR Z e e' (.ints .own k e xs) (.ints .own k e' xs)
 | rows {i : Nat} {xs : List (G.E.T i)} : (Z ∨ G.E.flat i = true) -> RTr G TR Z e e' (.rows .own i e xs) (.rows .own i e' xs)
theorem B1006 {e e' : Nat} {b b' : Blk G.E.T} {s : BSh} (hs : s ≠ .same) (hz : (∀ B, Fz B -> Fz' B) ∨ s.holds G.E = false) (r : List (LV G.E.T)) :
  (rebB ρ e b s r).2 = (rebB ρ' e' b' s r).2 ∧ RTr G (fun vs vs' => Agree2 G ι ι' H H' ρ ρ' -> Trs G w Fz Fz' ι ι' H H' vs vs') (∀ B, Fz B -> Fz' B) e e' (rebB ρ e b s r).1 (rebB ρ' e' b' s r).1 := by
 cases s with
 | same => exact absurd rfl hs
 | gone => simp only [rebB]; exact ⟨trivial, .gone⟩
 | mp k => simp only [rebB]; exact ⟨trivial, .mp⟩
 | mpr k i =>
  rcases r with _ | ⟨_ | _ | _ | _ | ⟨j, xs⟩, r⟩ <;> simp only [rebB]
  case cons.rows =>
   split
   ·exact ⟨trivial, .mpr (hz.imp id fun e => by simpa [BSh.holds] using e)⟩
   ·exact ⟨trivial, .gone⟩
  all_goals exact ⟨trivial, .gone⟩
 | box cells =>
  simp only [rebB]
  exact ⟨rebTs_rest _ _, .box fun hA => (renTs hA cells (hz.imp id fun e => by simpa only [BSh.holds] using e) r).2⟩
 | ints k keep =>
  rcases r with _ | ⟨_ | _ | _ | _ | _, r⟩ <;> simp only [rebB] <;> refine ⟨trivial, ?_⟩ <;> first | exact .gone | exact .ints
 | rows i keep =>
  rcases r with _ | ⟨_ | _ | _ | _ | ⟨j, xs⟩, r⟩ <;> simp only [rebB]
  case cons.rows =>
   split
   ·exact ⟨rfl, .rows (hz.imp id fun e => by simpa [BSh.holds] using e)⟩
   ·exact ⟨rfl, .gone⟩
  all_goals exact ⟨trivial, .gone⟩
theorem B419 {E : Env} {s : BSh} {l : List BSh} (h : BSh.holdsL E (s :: l) = false) : s.holds E = false ∧ BSh.holdsL E l = false := by
 simp only [BSh.holdsL] at h
 split at h
 ·cases h
 ·rename_i e; exact ⟨e, h⟩
theorem B785 {s : BSh} {l : List BSh} (h : B241 (s :: l) = true) : s ≠ .same ∧ B241 l = true := by
 cases s <;> simp_all [B241]
theorem B648 : ∀ (bs : List BSh) (j : Nat) (P P' : List (Blk G.E.T)) (r : List (LV G.E.T)), B241 bs = true -> ((∀ B, Fz B -> Fz' B) ∨ BSh.holdsL G.E bs = false) -> ∀ k, k < bs.length ->
  ∃ b b', getL (rebBs ρ j bs P r) k = some b ∧ getL (rebBs ρ' j bs P' r) k = some b' ∧ RTr G (fun vs vs' => Agree2 G ι ι' H H' ρ ρ' -> Trs G w Fz Fz' ι ι' H H' vs vs') (∀ B, Fz B -> Fz' B) (ρ (j + k)).2 (ρ' (j + k)).2 b b'
 | [], j, P, P', r, _, _, k, hk => by simp at hk
 | s :: bs, j, P, P', r, hn, hz, k, hk => by
  obtain ⟨n1, n2⟩ := B785 hn
  obtain ⟨h1, h2⟩ := B1006 (w := w) (ι := ι) (ι' := ι') (H := H) (H' := H') (ρ := ρ) (ρ' := ρ') (e := (ρ j).2) (e' := (ρ' j).2) (b := headB P) (b' := headB P') n1 (hz.imp id fun e => (B419 e).1) r
  simp only [rebBs]
  cases k with
  | zero => exact ⟨_, _, rfl, rfl, h2⟩
  | succ k =>
   simp only [getL]
   rw [← h1]
   have := B648 bs (j + 1) (tailB P) (tailB P') (rebB ρ (ρ j).2 (headB P) s r).2 n2 (hz.imp id fun e => (B419 e).2) k (by simpa using hk)
   rwa [show j + 1 + k = j + (k + 1) by omega] at this
end
section
variable {G : Prg} {w w' : World} {Fz Fz' : Nat -> Prop} {ι ι' : Nat -> Loc} {H H' : List (Blk G.E.T)} {R : Type} {r : R} {X : Ctx}
structure Enters (G : Prg) (w : World) (Fz : Nat -> Prop) (ι : Nat -> Loc) (H : List (Blk G.E.T)) (cs : CS) (H0 : List (Blk G.E.T)) : Prop where
 heap : HRep G.E w (B34 Fz ι cs.lent) (bindι ι cs) H0
 lent : B66 H cs.lent
 one : ∀ {j1 j2 a}, lookB j1 cs.bind = some (some a) -> lookB j2 cs.bind = some (some a) -> j1 = j2
 apart : ∀ {j a}, lookB j cs.bind = some (some a) -> a ∉ cs.lent
 lt : ∀ {j x}, lookB j cs.bind = some x -> j < H0.length
 old : ∀ j id, lookB j cs.bind = some (some id) -> ∃ b b0, getL H id = some b ∧ b.owned = true ∧ b.prot = false ∧ getL H0 j = some b0 ∧ (b.info G.E = none -> b0.info G.E = none) ∧
  ∀ ep len sz, b.info G.E = some (ep, len, sz) -> b0.info G.E = some (0, len, sz)
 src : ∀ k b0 A, getL H0 k = some b0 -> b0.owned = true -> (bindι ι cs k).a = some A -> ∃ id, lookB k cs.bind = some (some id) ∧ (ι id).a = some A
 nofr : ∀ k b0, getL H0 k = some b0 -> b0.frozen = false ∧ b0.prot = false
 ep0 : ∀ k b0 ep len sz, getL H0 k = some b0 -> b0.info G.E = some (ep, len, sz) -> ep = 0
theorem B94 {a b : Nat} : Nat.blt a b = true ↔ a < b := by simp [Nat.blt]; omega
theorem ρcut_nil {T : Nat -> Type} {bs : List BSh} {j : Nat} : ρcut (T := T) [] bs j = (j, 0) := by
 have : Nat.blt j 0 = false := by
  rcases hq : Nat.blt j 0 with _ | _
  ·rfl
  ·have := B94.1 hq; omega
 simp only [ρcut, A35, this]
theorem B26 {α : Type} {l : List α} {i : Nat} (h : i < l.length) : ∃ a, getL l i = some a := ⟨l[i], by rw [B24, A18 h]⟩
theorem B836 (hH : HRep G.E w Fz ι H) {ss : List TSh} {vs : List (PV G.E.T)} {bs : List BSh} {l : List (LV G.E.T)} {cs : CS} (h : B51 ss vs bs [] H = some (l, cs)) :
  Enters G w Fz ι H cs (rebBs (ρcut (T := G.E.T) [] bs) 0 bs [] (rebTs (ρcut (T := G.E.T) [] bs) ss l).2) ∧
  Trs G w Fz (B34 Fz ι cs.lent) ι (bindι ι cs) H (rebBs (ρcut (T := G.E.T) [] bs) 0 bs [] (rebTs (ρcut (T := G.E.T) [] bs) ss l).2) vs (rebTs (ρcut (T := G.E.T) [] bs) ss l).1 := by
 obtain ⟨hf, hall⟩ := B362 (ρ := ρcut (T := G.E.T) [] bs) (Fz' := B34 Fz ι cs.lent) (ι' := bindι ι cs) (H' := rebBs (ρcut (T := G.E.T) [] bs) 0 bs [] (rebTs (ρcut (T := G.E.T) [] bs) ss l).2) hH h
 obtain ⟨hv, hb⟩ := hall []
 generalize hH0 : rebBs (ρcut (T := G.E.T) [] bs) 0 bs [] (rebTs (ρcut (T := G.E.T) [] bs) ss l).2 = H0 at *
 have hlen : H0.length = bs.length := by rw [← hH0, B93]
 have hlent := B414 h
 have hns : ∀ j, sameB H ([] : List (Blk G.E.T)) j = true -> False := by
  intro j hj
  obtain ⟨b, c, _, h2, _⟩ := B493 hj
  simp [getL] at h2
 have hA : Agree G w Fz (B34 Fz ι cs.lent) ι (bindι ι cs) H H0 (ρcut (T := G.E.T) [] bs) cs :=
  B684 (P := []) hf (fun j => ρcut_fst) hb fun j _ h2 => (hns j h2).elim
 have hs2 : ∀ j, getL bs j = some .same -> sameB H ([] : List (Blk G.E.T)) j = true -> lookB j cs.bind = some (some j) ∧ ∃ b, getL H j = some b ∧ b.owned = (atB ([] : List (Blk G.E.T)) j).owned ∧ b.frozen = (atB ([] : List (Blk G.E.T)) j).frozen :=
  fun j _ h2 => (hns j h2).elim
 have hHR : HRep G.E w (B34 Fz ι cs.lent) (bindι ι cs) H0 := B614 (P := []) hH hf hlent hA hlen hb hs2 fun j h1 _ => (hns j h1).elim
 have at_ : ∀ {k blk}, getL H0 k = some blk -> ∃ b, getL bs k = some b ∧ BTr H ([] : List (Blk G.E.T)) (ρcut (T := G.E.T) [] bs) cs (fun vs vs' => Agree G w Fz (B34 Fz ι cs.lent) ι (bindι ι cs) H H0 (ρcut (T := G.E.T) [] bs) cs -> Trs G w Fz (B34 Fz ι cs.lent) ι (bindι ι cs) H H0 vs vs') k (atB [] k) b blk := by
  intro k blk hk
  have hlt := B17 hk
  rw [hlen] at hlt
  obtain ⟨b, this⟩ := B26 hlt
  obtain ⟨blk', g1, g2⟩ := hb k _ this
  rw [hk] at g1; cases g1
  exact ⟨_, this, g2⟩
 refine ⟨⟨hHR, hlent, hf.one, hf.apart, fun hl => ?_, fun j id hl => ?_, fun k b0 A hk ho ha => ?_, fun k b0 hk => ?_, fun k b0 ep len sz hk hi => ?_⟩, hv hA⟩
 ·obtain ⟨sh, h1, _⟩ := hf.told hl
  rw [hlen]; exact B17 h1
 ·obtain ⟨sh, h1, h2⟩ := hf.told hl
  obtain ⟨blk, g1, g2⟩ := hb j sh h1
  cases g2 with
  | gone => exact absurd rfl h2
  | same hsm => exact (hns j hsm).elim
  | box e1 e2 e3 =>
   rw [hl] at e1; cases e1
   exact ⟨_, _, e2, rfl, rfl, g1, fun _ => rfl, fun ep len sz hi => by simp [Blk.info] at hi⟩
  | mp e1 e2 =>
   rw [hl] at e1; cases e1
   exact ⟨_, _, e2, rfl, rfl, g1, fun _ => rfl, fun ep len sz hi => by simp [Blk.info] at hi⟩
  | mpr e1 e2 =>
   rw [hl] at e1; cases e1
   exact ⟨_, _, e2, rfl, rfl, g1, fun _ => rfl, fun ep len sz hi => by simp [Blk.info] at hi⟩
  | ints e1 e2 e3 =>
   rw [hl] at e1; cases e1
   exact ⟨_, _, e2, rfl, rfl, g1, fun hi => by simp [Blk.info] at hi, fun ep len sz hi => by
    simp only [Blk.info, A16, A33, ρcut_nil] at hi ⊢; exact ⟨trivial, hi.2.1, hi.2.2⟩⟩
  | ints0 e1 => rw [hl] at e1; cases e1
  | rows e1 e2 e3 =>
   rw [hl] at e1; cases e1
   exact ⟨_, _, e2, rfl, rfl, g1, fun hi => by simp [Blk.info] at hi, fun ep len sz hi => by
    simp only [Blk.info, A16, A33, ρcut_nil] at hi ⊢; exact ⟨trivial, hi.2.1, hi.2.2⟩⟩
  | rows0 e1 => rw [hl] at e1; cases e1
 ·obtain ⟨sh, h1, h2⟩ := at_ hk
  obtain ⟨id, b, p1, p2, p3, p4⟩ := B357 h1 h2 hs2 ha ho
  exact ⟨id, p1, p4⟩
 ·obtain ⟨sh, h1, h2⟩ := at_ hk
  cases h2 with
  | same hsm => exact (hns k hsm).elim
  | _ => exact ⟨rfl, rfl⟩
 ·obtain ⟨sh, h1, h2⟩ := at_ hk
  cases h2 with
  | same hsm => exact (hns k hsm).elim
  | gone => cases hi
  | box => cases hi
  | mp => cases hi
  | mpr => cases hi
  | ints => simp only [Blk.info, A16, A33, ρcut_nil] at hi; exact hi.1.symm
  | ints0 => simp only [Blk.info, A16, A33, ρcut_nil] at hi; exact hi.1.symm
  | rows => simp only [Blk.info, A16, A33, ρcut_nil] at hi; exact hi.1.symm
  | rows0 => simp only [Blk.info, A16, A33, ρcut_nil] at hi; exact hi.1.symm
def callX (w : World) (Fz : Nat -> Prop) (ι : Nat -> Loc) (cs : CS) : Ctx :=
 { w0 := w, O := fun B => ∃ j id A, lookB j cs.bind = some (some id) ∧ (ι id).a = some A ∧ B = A.block, Fz0 := B34 Fz ι cs.lent }
theorem Enters.fram {cs : CS} {H0 : List (Blk G.E.T)} (h : Enters G w Fz ι H cs H0) : Fram G.E (callX w Fz ι cs) w (B34 Fz ι cs.lent) (bindι ι cs) H0 :=
 ⟨rfl, rfl, rfl, A11 _, fun _ _ _ => rfl, fun k b A hk ho ha => by
  obtain ⟨id, h1, h2⟩ := h.src k b A hk ho ha
  exact .inl ⟨k, id, A, h1, h2, rfl⟩, fun B hB => .inl hB⟩
structure Frozen (G : Prg) (H H' : List (Blk G.E.T)) (l : List Nat) : Prop where
 len : H'.length = H.length
 at_ : ∀ id b, getL H id = some b -> ∃ b', getL H' id = some b' ∧ ((b' = b ∧ (id ∈ l -> b.frozen = true)) ∨ (b' = b.freeze ∧ b.owned = true ∧ b.prot = false ∧ b'.frozen = true ∧ id ∈ l))
theorem Frozen.refl {l : List Nat} (h : ∀ id, id ∈ l -> False) : Frozen G H H l := ⟨rfl, fun id b hb => ⟨b, hb, .inl ⟨rfl, fun hi => (h id hi).elim⟩⟩⟩
theorem B118 {α : Type} (l : List α) (i : Nat) (a : α) : (setL l i a).length = l.length := by rw [B459]; simp
theorem B81 : ∀ {l : List Nat} {H H' : List (Blk G.E.T)}, B39 H l = some H' -> Frozen G H H' l
 | [], H, H', h => by
  simp only [B39] at h; cases h
  exact .refl fun _ hi => by simp at hi
 | id :: l, H, H', h => by
  have step : ∀ {b : Blk G.E.T}, getL H id = some b -> b.owned = true -> b.prot = false -> b.freeze.frozen = true -> B39 (setL H id b.freeze) l = some H' -> Frozen G H H' (id :: l) := by
   intro b hb h1 h2 h3 h
   obtain ⟨e, g⟩ := B81 h
   refine ⟨by rw [e, B118], fun j c hc => ?_⟩
   by_cases hj : j = id
   ·subst hj
    rw [hb] at hc; cases hc
    obtain ⟨b', q1, q2⟩ := g j _ (B13 hb)
    refine ⟨b', q1, .inr ?_⟩
    rcases q2 with ⟨rfl, q3⟩ | ⟨rfl, q3, _⟩
    ·exact ⟨rfl, h1, h2, h3, A23 ..⟩
    ·rw [B37 q3] at h3; cases h3
   ·obtain ⟨b', q1, q2⟩ := g j c (by rw [B10 hj]; exact hc)
    refine ⟨b', q1, ?_⟩
    rcases q2 with ⟨rfl, q3⟩ | ⟨rfl, q3, q4, q5, q6⟩
    ·exact .inl ⟨rfl, fun hi => by
      rcases A19.1 hi with e | hi
      ·exact absurd e hj
      ·exact q3 hi⟩
    ·exact .inr ⟨rfl, q3, q4, q5, A29 _ q6⟩
  have stay : ∀ {b : Blk G.E.T}, getL H id = some b -> b.frozen = true -> B39 H l = some H' -> Frozen G H H' (id :: l) := by
   intro b hb hfr h
   obtain ⟨e, g⟩ := B81 h
   refine ⟨e, fun j c hc => ?_⟩
   obtain ⟨b', q1, q2⟩ := g j c hc
   refine ⟨b', q1, ?_⟩
   rcases q2 with ⟨rfl, q3⟩ | ⟨rfl, q3, q4, q5, q6⟩
   ·exact .inl ⟨rfl, fun hi => by
     rcases A19.1 hi with rfl | hi
     ·rw [hb] at hc; cases hc; exact hfr
     ·exact q3 hi⟩
   ·exact .inr ⟨rfl, q3, q4, q5, A29 _ q6⟩
  simp only [B39] at h
  split at h
  ·rename_i hb; exact step hb rfl rfl rfl h
  ·rename_i hb; exact step hb rfl rfl rfl h
  ·rename_i hb; exact stay hb rfl h
  ·rename_i hb; exact stay hb rfl h
  ·cases h
theorem B184 {heap : List (Blk G.E.T)} {cs : CS} {m : Nat} : ∀ (bs : List BSh) (j n : Nat), (places heap cs m j n bs).length = bs.length
 | [], j, n => rfl
 | b :: l, j, n => by
  simp only [places]
  split <;> simp [B184 l]
abbrev B680 (heap0 : List (Blk G.E.T)) (cs : CS) (m : Nat) (bs : List BSh) (j : Nat) (blks heap : List (Blk G.E.T)) : Prop :=
   ∃ out, out = B32 (places heap0 cs m j heap.length bs) blks heap ∧ heap.length <= out.length ∧
   (∀ k b, getL blks k = some b -> ∃ p, getL (places heap0 cs m j heap.length bs) k = some p ∧ getL out p.1 = some b ∧
    ((∃ a sh, j + k < m ∧ lookB (j + k) cs.bind = some (some a) ∧ getL bs k = some sh ∧ p = (a, if keepB sh = true then epOf heap0 a else epOf heap0 a + 1)) ∨
     ((¬ (j + k < m ∧ ∃ a, lookB (j + k) cs.bind = some (some a))) ∧ heap.length <= p.1 ∧ p.2 = 0))) ∧
   (∀ k1 k2 p1 p2, k1 ≠ k2 -> getL (places heap0 cs m j heap.length bs) k1 = some p1 -> getL (places heap0 cs m j heap.length bs) k2 = some p2 -> p1.1 ≠ p2.1) ∧
   (∀ id, id < heap.length -> (∀ k, k < bs.length -> j + k < m -> lookB (j + k) cs.bind ≠ some (some id)) -> getL out id = getL heap id) ∧
   (∀ id, id < out.length -> heap.length <= id -> ∃ k p, getL (places heap0 cs m j heap.length bs) k = some p ∧ p.1 = id)
theorem B251 {heap0 : List (Blk G.E.T)} {cs : CS} {m : Nat} (hone : ∀ {j1 j2 a}, lookB j1 cs.bind = some (some a) -> lookB j2 cs.bind = some (some a) -> j1 = j2)
  (hin : ∀ {j a}, lookB j cs.bind = some (some a) -> a < heap0.length) :
  ∀ (bs : List BSh) (j : Nat) (blks heap : List (Blk G.E.T)), blks.length = bs.length -> heap0.length <= heap.length ->
   B680 heap0 cs m bs j blks heap
 | [], j, blks, heap, hb, hle => by
  have : blks = [] := by simpa using hb
  subst this
  refine ⟨heap, by simp [B32, places], A11 _, fun k b hk => by simp [getL] at hk, fun k1 k2 p1 p2 _ h => by simp [places, getL] at h, fun _ _ _ => rfl, fun id h1 h2 => by omega⟩
 | s :: bs, j, [], heap, hb, hle => by simp at hb
 | s :: bs, j, b :: blks, heap, hb, hle => by
  have hb' : blks.length = bs.length := by simpa using hb
  -- the two ways
  have new : (∀ q : Nat × Nat, places heap0 cs m j heap.length (s :: bs) = (heap.length, 0) :: places heap0 cs m (j + 1) (heap.length + 1) bs) -> (¬ (j < m ∧ ∃ a, lookB j cs.bind = some (some a))) -> B680 heap0 cs m (s :: bs) j (b :: blks) heap := by
   intro hp hno
   have hp := hp (0, 0)
   obtain ⟨out, h1, h2, h3, h4, h5, h6⟩ := B251 hone hin bs (j + 1) blks (heap ++ [b]) hb' (by simp; omega)
   rw [A13, A26] at h1 h2 h3 h4 h5 h6
   have hlt : Nat.blt heap.length heap.length = false := by
    rcases hq : Nat.blt heap.length heap.length with _ | _
    ·rfl
    ·have := B94.1 hq; omega
   have hlast : getL out heap.length = some b := by
    rw [h5 heap.length (by omega) (fun k hk hkm e => by have := hin e; omega)]
    exact B64
   refine ⟨out, by rw [hp]; simp only [B32, hlt]; exact h1, by omega, ?_, ?_, ?_, ?_⟩
   ·intro k c hk
    rw [hp]
    cases k with
    | zero =>
     simp only [getL, A16] at hk
     subst hk
     exact ⟨_, rfl, hlast, .inr ⟨by simpa using hno, A11 _, rfl⟩⟩
    | succ k =>
     simp only [getL] at hk ⊢
     obtain ⟨p, q1, q2, q3⟩ := h3 k c hk
     rw [show j + 1 + k = j + (k + 1) by omega] at q3
     refine ⟨p, q1, q2, ?_⟩
     rcases q3 with q3 | ⟨q3, q4, q5⟩
     ·exact .inl q3
     ·exact .inr ⟨q3, by omega, q5⟩
   ·intro k1 k2 p1 p2 hne e1 e2
    rw [hp] at e1 e2
    have aux : ∀ k p, getL (places heap0 cs m (j + 1) (heap.length + 1) bs) k = some p -> p.1 ≠ heap.length := by
     intro k p e
     have hk : k < blks.length := by have := B17 e; rw [B184] at this; omega
     obtain ⟨c, hc⟩ := B26 hk
     obtain ⟨p', q1, q2, q3⟩ := h3 k c hc
     rw [e] at q1; cases q1
     rcases q3 with ⟨a, sh, r1, r2, r3, r4⟩ | ⟨_, r2, _⟩
     ·have := hin r2
      rw [r4]; simp only; omega
     ·omega
    cases k1 with
    | zero =>
     cases k2 with
     | zero => exact absurd rfl hne
     | succ k2 =>
      simp only [getL, A16] at e1 e2
      subst e1
      exact fun e => aux k2 p2 e2 e.symm
    | succ k1 =>
     cases k2 with
     | zero =>
      simp only [getL, A16] at e1 e2
      subst e2
      exact aux k1 p1 e1
     | succ k2 =>
      simp only [getL] at e1 e2
      exact h4 k1 k2 p1 p2 (by omega) e1 e2
   ·intro id hid hno'
    rw [h5 id (by omega) (fun k hk hkm => by
     have := hno' (k + 1) (by simpa using hk) (by omega)
     rwa [show j + (k + 1) = j + 1 + k by omega] at this)]
    exact B43 hid
   ·intro id h7 h8
    rw [hp]
    by_cases he : id = heap.length
    ·exact ⟨0, _, rfl, he.symm⟩
    ·obtain ⟨k, p, q1, q2⟩ := h6 id h7 (by omega)
     exact ⟨k + 1, p, q1, q2⟩
  by_cases hc : j < m ∧ ∃ a, lookB j cs.bind = some (some a)
  ·obtain ⟨hjm, a, ha⟩ := hc
   have hp : places heap0 cs m j heap.length (s :: bs) = (a, if keepB s = true then epOf heap0 a else epOf heap0 a + 1) :: places heap0 cs m (j + 1) heap.length bs := by
    simp only [places, B94.2 hjm, ha]
    cases keepB s <;> simp
   have hlt : a < heap.length := A75 (hin ha) hle
   obtain ⟨ba, hba⟩ := B26 hlt
   obtain ⟨out, h1, h2, h3, h4, h5, h6⟩ := B251 hone hin bs (j + 1) blks (setL heap a b) hb' (by rw [B118]; exact hle)
   rw [B118] at h1 h2 h3 h4 h5 h6
   have hno : ∀ k, lookB (j + 1 + k) cs.bind ≠ some (some a) := fun k e => by have := hone e ha; omega
   have hout : getL out a = some b := by rw [h5 a hlt (fun k _ _ => hno k)]; exact B13 hba
   refine ⟨out, by rw [hp]; simp only [B32, B94.2 hlt]; exact h1, h2, ?_, ?_, ?_, ?_⟩
   ·intro k c hk
    rw [hp]
    cases k with
    | zero =>
     simp only [getL, A16] at hk
     subst hk
     exact ⟨_, rfl, hout, .inl ⟨a, s, by simpa using hjm, by simpa using ha, rfl, rfl⟩⟩
    | succ k =>
     simp only [getL] at hk ⊢
     obtain ⟨p, q1, q2, q3⟩ := h3 k c hk
     rw [show j + 1 + k = j + (k + 1) by omega] at q3
     exact ⟨p, q1, q2, q3⟩
   ·intro k1 k2 p1 p2 hne e1 e2
    rw [hp] at e1 e2
    have aux : ∀ k p, getL (places heap0 cs m (j + 1) heap.length bs) k = some p -> p.1 ≠ a := by
     intro k p e
     have hk : k < blks.length := by have := B17 e; rw [B184] at this; omega
     obtain ⟨c, hc⟩ := B26 hk
     obtain ⟨p', q1, q2, q3⟩ := h3 k c hc
     rw [e] at q1; cases q1
     rcases q3 with ⟨a', sh, r1, r2, r3, r4⟩ | ⟨_, r2, _⟩
     ·rw [r4]
      intro e'
      simp only at e'
      subst e'
      exact hno k r2
     ·omega
    cases k1 with
    | zero =>
     cases k2 with
     | zero => exact absurd rfl hne
     | succ k2 =>
      simp only [getL, A16] at e1 e2
      subst e1
      exact fun e => aux k2 p2 e2 e.symm
    | succ k1 =>
     cases k2 with
     | zero =>
      simp only [getL, A16] at e1 e2
      subst e2
      exact aux k1 p1 e1
     | succ k2 =>
      simp only [getL] at e1 e2
      exact h4 k1 k2 p1 p2 (by omega) e1 e2
   ·intro id hid hno'
    have hne : id ≠ a := by
     rintro rfl
     exact hno' 0 (by simp) (by simpa using hjm) (by simpa using ha)
    rw [h5 id hid (fun k hk hkm => by
     have := hno' (k + 1) (by simpa using hk) (by omega)
     rwa [show j + (k + 1) = j + 1 + k by omega] at this)]
    exact B10 hne
   ·intro id h7 h8
    rw [hp]
    obtain ⟨k, p, q1, q2⟩ := h6 id h7 h8
    exact ⟨k + 1, p, q1, q2⟩
  ·refine new (fun _ => ?_) hc
   simp only [places]
   split
   ·rename_i a e1 e2
    exact absurd ⟨B94.1 e1, a, e2⟩ hc
   ·rfl
end
section
variable {G : Prg} {w w' : World} {Fz Fz1 : Nat -> Prop} {ι ι1 : Nat -> Loc} {H heap' H0 : List (Blk G.E.T)} {R : Type} {r : R} {X : Ctx}
open Classical in
noncomputable def outι (pls : List (Nat × Nat)) (ι1 ι : Nat -> Loc) : Nat -> Loc := fun id => if h : ∃ k, ∃ p, getL pls k = some p ∧ p.1 = id then ι1 h.choose else ι id
theorem B1043 {pls : List (Nat × Nat)} (hu : ∀ k1 k2 p1 p2, k1 ≠ k2 -> getL pls k1 = some p1 -> getL pls k2 = some p2 -> p1.1 ≠ p2.1) {k : Nat} {p : Nat × Nat} (hk : getL pls k = some p) : outι pls ι1 ι p.1 = ι1 k := by
 have h : ∃ k, ∃ q, getL pls k = some q ∧ q.1 = p.1 := ⟨k, p, hk, rfl⟩
 unfold outι
 rw [dif_pos h]
 obtain ⟨q, h1, h2⟩ := h.choose_spec
 by_cases e : h.choose = k
 ·rw [e]
 ·exact absurd h2 (hu _ _ _ _ e h1 hk)
theorem B1044 {pls : List (Nat × Nat)} {id : Nat} (h : ∀ k p, getL pls k = some p -> p.1 ≠ id) : outι pls ι1 ι id = ι id := by
 unfold outι
 rw [dif_neg]
 rintro ⟨k, p, h1, h2⟩
 exact h k p h1 h2
theorem ρof_eq {pls : List (Nat × Nat)} {k : Nat} {p : Nat × Nat} (h : getL pls k = some p) : ρof pls k = p := by simp [ρof, h]
theorem RTr.info {TR : List (PV G.E.T) -> List (PV G.E.T) -> Prop} {Z : Prop} {e e' : Nat} {b b' : Blk G.E.T} (h : RTr G TR Z e e' b b') :
  (b.info G.E = none -> b'.info G.E = none) ∧ ∀ ep len sz, b.info G.E = some (ep, len, sz) -> ep = e ∧ b'.info G.E = some (e', len, sz) := by
 cases h with
 | gone => exact ⟨fun _ => rfl, fun _ _ _ h => by cases h⟩
 | box => exact ⟨fun _ => rfl, fun _ _ _ h => by cases h⟩
 | mp => exact ⟨fun _ => rfl, fun _ _ _ h => by cases h⟩
 | mpr => exact ⟨fun _ => rfl, fun _ _ _ h => by cases h⟩
 | ints => exact ⟨fun h => (by cases h), fun ep len sz h => by simp only [Blk.info, A16, A33] at h ⊢; exact ⟨h.1.symm, trivial, h.2⟩⟩
 | rows => exact ⟨fun h => (by cases h), fun ep len sz h => by simp only [Blk.info, A16, A33] at h ⊢; exact ⟨h.1.symm, trivial, h.2⟩⟩
theorem B60.nohold {E : Env} {w : World} {Fz Fz' : Nat -> Prop} : ∀ {ps : List (PV E.T)} {vs : List Value}, (∀ p ∈ ps, (∃ k n, p = .int k n) ∨ (∃ b, p = .bool b) ∨ (∃ s, p = .str s)) -> B60 E w Fz ps vs -> B60 E w Fz' ps vs
 | [], [], _, _ => trivial
 | p :: ps, _ :: _, hp, h => ⟨h.1, h.2.1.nohold (hp p (A23 ..)), h.2.2.nohold fun q hq => hp q (A29 _ hq)⟩
theorem B47.nohold {E : Env} {w : World} {Fz Fz' : Nat -> Prop} (ok : EnvOk E) {k : KK} {i : Nat} (hz : E.flat i = true) : ∀ {xs : List (E.T i)} {es : List MapEntry}, B47 E w Fz k i xs es -> B47 E w Fz' k i xs es
 | [], [], _ => trivial
 | x :: _, _ :: _, h => by
  obtain ⟨⟨kp, ps, vs, a, b, b', c, d⟩, h⟩ := h
  exact ⟨⟨kp, ps, vs, a, b.nohold (ok.flat i x kp hz (by rw [a]; exact A23 ..)), b', c, d.nohold fun p hp => ok.flat i x p hz (by rw [a]; exact A29 _ hp)⟩, h.nohold ok hz⟩
theorem B779 {E : Env} {b : Blk E.T} : b.freeze.info E = b.info E := B482 b
theorem B612 (ok : EnvOk G.E) {cs : CS} (hE : Enters G w Fz ι H cs H0) (hH : HRep G.E w Fz ι H) (hF : Fram G.E X w Fz ι H) {rb : List BSh} {rs : List TSh} {L : List (LV G.E.T)} {m : Nat}
  (hS : Step G.E (callX w Fz ι cs) w w' (B34 Fz ι cs.lent) Fz1 (bindι ι cs) ι1 H0 (rebBs (ρcut H0 rb) 0 rb H0 (rebTs (ρcut H0 rb) rs L).2))
  (hm : m = H0.length) (hle : H0.length <= rb.length) (hns : B241 rb = true)
  {Fz2 : Nat -> Prop} (c1 : ∀ B, Fz B -> Fz2 B) (c2 : ∀ B, Fz2 B -> Fz1 B) (hz : (∀ B, Fz1 B -> Fz2 B) ∨ (TSh.holdsL rs = false ∧ BSh.holdsL G.E rb = false))
  (hlen : heap'.length = H.length)
  (hfr : ∀ id b, getL H id = some b -> ∃ b', getL heap' id = some b' ∧ ((b' = b ∧ (b.owned = true -> id ∈ cs.lent -> ∀ A, (ι id).a = some A -> ¬ Fz2 A.block)) ∨
   (b' = b.freeze ∧ b.owned = true ∧ b.prot = false ∧ b'.frozen = true ∧ ∀ A, (ι id).a = some A -> Fz2 A.block)))
  (hown2 : ∀ id b A, getL H id = some b -> b.owned = true -> (ι id).a = some A -> id ∉ cs.lent -> (∀ j, lookB j cs.bind ≠ some (some id)) -> ¬ Fz2 A.block) :
  ∃ ι2, Step G.E X w w' Fz Fz2 ι ι2 H (B32 (places H cs m 0 H.length rb) (rebBs (ρof (places H cs m 0 H.length rb)) 0 rb [] (rebTs (ρof (places H cs m 0 H.length rb)) rs L).2) heap') ∧
   Trs G w' Fz1 Fz2 ι1 ι2 (rebBs (ρcut H0 rb) 0 rb H0 (rebTs (ρcut H0 rb) rs L).2)
    (B32 (places H cs m 0 H.length rb) (rebBs (ρof (places H cs m 0 H.length rb)) 0 rb [] (rebTs (ρof (places H cs m 0 H.length rb)) rs L).2) heap')
    (rebTs (ρcut H0 rb) rs L).1 (rebTs (ρof (places H cs m 0 H.length rb)) rs L).1 := by
 subst hm
 have hbl : ∀ j a, lookB j cs.bind = some (some a) -> a < H.length := fun j a h => by
  obtain ⟨b, _, hb, _⟩ := hE.old j a h
  exact B17 hb
 obtain ⟨H2, g1, g2, g3, g4, g5, g6⟩ := B251 (heap0 := H) (cs := cs) (m := H0.length) hE.one (fun {j a} h => hbl j a h) rb 0 (rebBs (ρof (places H cs H0.length 0 H.length rb)) 0 rb [] (rebTs (ρof (places H cs H0.length 0 H.length rb)) rs L).2) heap' (B93 ..) (by omega)
 rw [hlen] at g1 g2 g3 g4 g5 g6
 simp only [A22] at g3 g5
 rw [← g1]
 have hr : (rebTs (ρcut H0 rb) rs L).2 = (rebTs (ρof (places H cs H0.length 0 H.length rb)) rs L).2 := rebTs_rest _ _
 have hpl : (places H cs H0.length 0 H.length rb).length = rb.length := B184 ..
 generalize hP : places H cs H0.length 0 H.length rb = pls at *
 -- the two heaps that the callee's blocks lie in
 have hrb := fun k (hk : k < rb.length) => B648 (w := w') (Fz := Fz1) (Fz' := Fz2) (ι := ι1) (ι' := outι pls ι1 ι) (H := rebBs (ρcut H0 rb) 0 rb H0 (rebTs (ρcut H0 rb) rs L).2) (H' := H2) (ρ := ρcut H0 rb) (ρ' := ρof pls)
  rb 0 H0 [] (rebTs (ρcut H0 rb) rs L).2 hns (hz.imp id (·.2)) k hk
 simp only [A22] at hrb
 rw [← hr] at g3
 generalize hH1 : rebBs (ρcut H0 rb) 0 rb H0 (rebTs (ρcut H0 rb) rs L).2 = H1 at *
 have hlen1 : H1.length = rb.length := by rw [← hH1, B93]
 -- a block that came back
 have hback : ∀ k b1, getL H1 k = some b1 -> ∃ b2 p, getL pls k = some p ∧ getL H2 p.1 = some b2 ∧
   RTr G (fun vs vs' => Agree2 G ι1 (outι pls ι1 ι) H1 H2 (ρcut H0 rb) (ρof pls) -> Trs G w' Fz1 Fz2 ι1 (outι pls ι1 ι) H1 H2 vs vs') (∀ B, Fz1 B -> Fz2 B) (ρcut H0 rb k).2 p.2 b1 b2 ∧ outι pls ι1 ι p.1 = ι1 k ∧
   ((∃ a sh, lookB k cs.bind = some (some a) ∧ getL rb k = some sh ∧ p = (a, if keepB sh = true then epOf H a else epOf H a + 1)) ∨
     ((¬ ∃ a, lookB k cs.bind = some (some a)) ∧ H.length <= p.1)) := by
  intro k b1 hk
  obtain ⟨b, b', q1, q2, q3⟩ := hrb k (by rw [← hlen1]; exact B17 hk)
  rw [hk] at q1; cases q1
  obtain ⟨p, r1, r2, r3⟩ := g3 k b' q2
  rw [ρof_eq r1] at q3
  refine ⟨b', p, r1, r2, q3, B1043 g4 r1, ?_⟩
  rcases r3 with ⟨a, sh, s1, s2, s3, s4⟩ | ⟨s1, s2, s3⟩
  ·exact .inl ⟨a, sh, s2, s3, s4⟩
  ·exact .inr ⟨fun ⟨a, ha⟩ => s1 ⟨hE.lt ha, a, ha⟩, s2⟩
 have hA2 : Agree2 G ι1 (outι pls ι1 ι) H1 H2 (ρcut H0 rb) (ρof pls) := by
  refine ⟨fun j b hb => ?_⟩
  rw [ρcut_fst] at hb
  obtain ⟨b2, p, q1, q2, q3, q4, _⟩ := hback j b hb
  rw [ρof_eq q1, ρcut_fst]
  exact ⟨b2, q2, q4, q3.info.1, q3.info.2⟩
 -- a block that was not handed over
 have hplne : ∀ id, id < H.length -> (∀ j, lookB j cs.bind ≠ some (some id)) -> ∀ k p, getL pls k = some p -> p.1 ≠ id := by
  intro id hid hno k p hk e
  obtain ⟨b1, hb1⟩ := B26 (l := H1) (i := k) (by rw [hlen1, ← hpl]; exact B17 hk)
  obtain ⟨b2, p', q1, q2, q3, q4, q5⟩ := hback k b1 hb1
  rw [hk] at q1; cases q1
  rcases q5 with ⟨a, sh, s1, s2, s3⟩ | ⟨s1, s2⟩
  ·rw [s3] at e
   simp only at e
   subst e
   exact hno k s1
  ·omega
 have hoth : ∀ id b, getL H id = some b -> (∀ j, lookB j cs.bind ≠ some (some id)) -> getL H2 id = getL heap' id ∧ outι pls ι1 ι id = ι id := by
  intro id b hb hno
  exact ⟨g5 id (B17 hb) fun k _ _ => hno k, B1044 (hplne id (B17 hb) hno)⟩
 have hmem : ∀ id b A, getL H id = some b -> b ≠ .gone -> (∀ j, lookB j cs.bind ≠ some (some id)) -> (ι id).a = some A -> w'.heap[A.block]? = w.heap[A.block]? := by
  intro id b A hb hg hno hA
  refine hS.fram.block A.block ((hH.rep id b hb).lt hg hA) ?_
  rintro ⟨j, id2, A2, h1, h2, h3⟩
  obtain ⟨b2, _, h4, h5, h6, _⟩ := hE.old j id2 h1
  by_cases ho : b.owned = true
  ·exact hH.apart id id2 b b2 A A2 (fun e => by subst e; exact hno j h1) hb h4 ho h5 hA h2 h3
  ·exact hH.free id2 b2 A2 h4 h5 h2 (h3 ▸ hH.held id b A hb (B79 (by simpa using ho) hg) hA)
 have hsize : w.heap.size <= w'.heap.size := hS.fram.size
 -- where a block of the new heap comes from
 have hsrc : ∀ id b2, getL H2 id = some b2 -> (∃ k b1 p, getL H1 k = some b1 ∧ getL pls k = some p ∧ p.1 = id ∧ getL H2 p.1 = some b2) ∨ (∃ b, getL H id = some b ∧ (∀ j, lookB j cs.bind ≠ some (some id)) ∧ getL heap' id = some b2) := by
  intro id b2 hb2
  by_cases hlt : id < H.length
  ·by_cases hbnd : ∃ j, lookB j cs.bind = some (some id)
   ·obtain ⟨j, hj⟩ := hbnd
    have hjlt : j < rb.length := A75 (hE.lt hj) hle
    obtain ⟨b1, hb1⟩ := B26 (l := H1) (i := j) (by rw [hlen1]; exact hjlt)
    obtain ⟨b2', p, q1, q2, q3, q4, q5⟩ := hback j b1 hb1
    have hp : p.1 = id := by
     rcases q5 with ⟨a, sh, s1, s2, s3⟩ | ⟨s1, s2⟩
     ·rw [hj] at s1; cases s1; rw [s3]
     ·exact absurd ⟨id, hj⟩ s1
    exact .inl ⟨j, b1, p, hb1, q1, hp, by rw [hp]; exact hb2⟩
   ·have hno : ∀ j, lookB j cs.bind ≠ some (some id) := fun j hj => hbnd ⟨j, hj⟩
    obtain ⟨b, hb⟩ := B26 hlt
    exact .inr ⟨b, hb, hno, by rw [← (hoth id b hb hno).1]; exact hb2⟩
  ·obtain ⟨k, p, q1, q2⟩ := g6 id (B17 hb2) (by omega)
   obtain ⟨b1, hb1⟩ := B26 (l := H1) (i := k) (by rw [hlen1, ← hpl]; exact B17 q1)
   exact .inl ⟨k, b1, p, hb1, q1, q2, by rw [q2]; exact hb2⟩
 -- each old block
 have hHLe : HLe G.E ι H (outι pls ι1 ι) H2 := by
  intro id b hb
  by_cases hbnd : ∃ j, lookB j cs.bind = some (some id)
  ·obtain ⟨j, hj⟩ := hbnd
   obtain ⟨b', b0, h1, h2, h3, h4, h5, h6⟩ := hE.old j id hj
   rw [hb] at h1; cases h1
   obtain ⟨b1, hb1, sB⟩ := hS.keep.le j b0 h4
   obtain ⟨b2, p, q1, q2, q3, q4, q5⟩ := hback j b1 hb1
   obtain ⟨sh, hsh, hp⟩ : ∃ sh, getL rb j = some sh ∧ p = (id, if keepB sh = true then epOf H id else epOf H id + 1) := by
    rcases q5 with ⟨a, sh, s1, s2, s3⟩ | ⟨s1, s2⟩
    ·rw [hj] at s1; cases s1; exact ⟨sh, s2, s3⟩
    ·exact absurd ⟨id, hj⟩ s1
   have hp1 : p.1 = id := by rw [hp]
   rw [hp1] at q2 q4
   refine ⟨b2, q2, fun hi => ?_, fun ep len sz hi => ?_, fun e => absurd e (B15 h2)⟩
   ·obtain ⟨e1, e2⟩ := sB.flat (h5 hi)
    exact ⟨q3.info.1 e1, by rw [q4, e2, B44 hj]⟩
   ·have hi0 := h6 ep len sz hi
    rcases sB.row 0 len sz hi0 with e | ⟨ep1, len1, sz1, e1, e2, e3⟩
    ·exact .inl (q3.info.1 e)
    ·obtain ⟨f1, f2⟩ := q3.info.2 ep1 len1 sz1 e1
     refine .inr ⟨p.2, len1, sz1, f2, ?_, fun e => ?_⟩
     ·rw [hp, B102 hb hi]; simp only; split <;> omega
     ·have hk : keepB sh = true := by
       rw [hp, B102 hb hi] at e
       simp only at e
       split at e
       ·assumption
       ·omega
      rw [ρcut_old (B17 h4) hsh, A3 hk, B102 h4 hi0] at f1
      obtain ⟨r1, r2, r3⟩ := e3 f1.symm
      exact ⟨r1, r2, by rw [q4, r3, B44 hj]⟩
  ·have hno : ∀ j, lookB j cs.bind ≠ some (some id) := fun j hj => hbnd ⟨j, hj⟩
   obtain ⟨e1, e2⟩ := hoth id b hb hno
   obtain ⟨b', r1, r2⟩ := hfr id b hb
   refine ⟨b', by rw [e1]; exact r1, ?_⟩
   have hi : b'.info G.E = b.info G.E := by
    rcases r2 with ⟨rfl, _⟩ | ⟨rfl, _⟩
    ·rfl
    ·exact B779
   refine ⟨fun h => ⟨by rw [hi]; exact h, by rw [e2]⟩, fun ep len sz h => .inr ⟨ep, len, sz, by rw [hi]; exact h, A11 _, fun _ => ⟨rfl, rfl, e2⟩⟩, fun e => ?_⟩
   subst e
   rcases r2 with ⟨e, _⟩ | ⟨e, _⟩ <;> exact e
 have K : Keep G.E w w' Fz Fz2 ι (outι pls ι1 ι) H H2 := ⟨c1, fun B hB => hS.keep.heap B (.inl hB), hHLe⟩
 -- where an owned block's memory lies
 have hownsrc : ∀ id b2 A, getL H2 id = some b2 -> b2.owned = true -> (outι pls ι1 ι id).a = some A ->
   (∃ k b1 p, getL H1 k = some b1 ∧ b1.owned = true ∧ getL pls k = some p ∧ p.1 = id ∧ (ι1 k).a = some A) ∨
   (∃ b, getL H id = some b ∧ b.owned = true ∧ (ι id).a = some A ∧ (∀ j, lookB j cs.bind ≠ some (some id)) ∧ getL heap' id = some b2 ∧ b2 = b) := by
  intro id b2 A hb2 ho hA
  rcases hsrc id b2 hb2 with ⟨k, b1, p, q1, q2, q3, q4⟩ | ⟨b, q1, q2, q3⟩
  ·obtain ⟨b2', p', r1, r2, r3, r4, _⟩ := hback k b1 q1
   rw [q2] at r1; cases r1
   rw [q4] at r2; cases r2
   refine .inl ⟨k, b1, p, q1, ?_, q2, q3, by rw [← r4, q3]; exact hA⟩
   cases r3 with
   | gone => cases ho
   | box => rfl
   | mp => rfl
   | mpr => rfl
   | ints => rfl
   | rows => rfl
  ·obtain ⟨e1, e2⟩ := hoth id b q1 q2
   rw [e2] at hA
   obtain ⟨b', r1, r2⟩ := hfr id b q1
   rw [q3] at r1; cases r1
   rcases r2 with ⟨rfl, _⟩ | ⟨rfl, _, _, r3, _⟩
   ·exact .inr ⟨b2, q1, ho, hA, q2, q3, rfl⟩
   ·rw [B37 ho] at r3; cases r3
 have hO : ∀ k b1 A, getL H1 k = some b1 -> b1.owned = true -> (ι1 k).a = some A -> (∃ j id A2, lookB j cs.bind = some (some id) ∧ (ι id).a = some A2 ∧ A.block = A2.block) ∨ w.heap.size <= A.block :=
  fun k b1 A h1 h2 h3 => hS.fram.own k b1 A h1 h2 h3
 have hun : ∀ B, Un w Fz ι H B -> w'.heap[B]? = w.heap[B]? ∧ Un w' Fz2 (outι pls ι1 ι) H2 B := by
  rintro B ⟨u1, u2, u3⟩
  have uO : ∀ {j id : Nat} {A : Addr}, lookB j cs.bind = some (some id) -> (ι id).a = some A -> A.block ≠ B := fun {j id A} h1 h2 => by
   obtain ⟨b, _, h3, h4, _⟩ := hE.old j id h1
   exact u3 id b A h3 (B15 h4) h2
  refine ⟨hS.fram.block B u1 fun ⟨j, id, A, h1, h2, h3⟩ => uO h1 h2 h3.symm, A75 u1 hsize, fun hB => ?_, fun id b2 A hb2 hg hA e => ?_⟩
  ·rcases hS.fram.fz B (c2 B hB) with h | ⟨j, id, A, h1, h2, h3⟩ | h
   ·rcases h with h | ⟨id, hl, A, hA, rfl⟩
    ·exact u2 h
    ·obtain ⟨b, h3, h4⟩ := hE.lent id hl
     exact u3 id b A h3 (B15 h4) hA rfl
   ·exact uO h1 h2 h3.symm
   ·have h' : w.heap.size <= B := h
    omega
  ·rcases hsrc id b2 hb2 with ⟨k, b1, p, q1, q2, q3, q4⟩ | ⟨b, q1, q2, q3⟩
   ·obtain ⟨b2', p', r1, r2, r3, r4, _⟩ := hback k b1 q1
    rw [q2] at r1; cases r1
    rw [q4] at r2; cases r2
    have hbo : b1.owned = true := by
     cases r3 with
     | gone => exact absurd rfl hg
     | box => rfl
     | mp => rfl
     | mpr => rfl
     | ints => rfl
     | rows => rfl
    rcases hO k b1 A q1 hbo (by rw [← r4, q3]; exact hA) with ⟨j, id2, A2, s1, s2, s3⟩ | s
    ·exact uO s1 s2 (by rw [← s3]; exact e)
    ·omega
   ·obtain ⟨e1, e2⟩ := hoth id b q1 q2
    rw [e2] at hA
    obtain ⟨b', r1, r2⟩ := hfr id b q1
    rw [q3] at r1; cases r1
    refine u3 id b A q1 (fun eg => ?_) hA e
    subst eg
    rcases r2 with ⟨rfl, _⟩ | ⟨rfl, r3, _⟩
    ·exact hg rfl
    ·cases r3
 refine ⟨outι pls ι1 ι, ⟨K, fun id b hb hp => ?_, ⟨fun id b2 hb2 => ?_, fun i j b c A A' hij hi hj hbo hco hA hA' => ?_, fun id b2 A hb2 ho hA hFz => ?_, fun id b2 A hb2 hf hA => ?_, fun B hB => hS.heap.fz B (c2 B hB)⟩, ⟨?_, ?_, ?_, ?_, fun B hB hOB => ?_, fun id b2 A hb2 ho hA => ?_, fun B hB => ?_⟩, hun⟩, ?_⟩
 ·-- still
  have hno : ∀ j, lookB j cs.bind ≠ some (some id) := by
   intro j hj
   obtain ⟨b', b0, h1, h2, h3, _⟩ := hE.old j id hj
   rw [hb] at h1; cases h1
   rcases hp with hp | hp
   ·rw [h3] at hp; cases hp
   ·rw [B37 h2] at hp; cases hp
  have hg : b ≠ .gone := by rintro rfl; rcases hp with hp | hp <;> cases hp
  obtain ⟨e1, e2⟩ := hoth id b hb hno
  obtain ⟨b', r1, r2⟩ := hfr id b hb
  refine ⟨?_, e2, fun A hA => hmem id b A hb hg hno hA⟩
  rw [e1, r1]
  rcases r2 with ⟨rfl, _⟩ | ⟨rfl, r3, r4, _⟩
  ·rfl
  ·rcases hp with hp | hp
   ·rw [r4] at hp; cases hp
   ·rw [B37 r3] at hp; cases hp
 ·-- rep
  rcases hsrc id b2 hb2 with ⟨k, b1, p, q1, q2, q3, q4⟩ | ⟨b, q1, q2, q3⟩
  ·obtain ⟨b2', p', r1, r2, r3, r4, _⟩ := hback k b1 q1
   rw [q2] at r1; cases r1
   rw [q4] at r2; cases r2
   rw [q3] at r4
   have hr1 := hS.heap.rep k b1 q1
   cases r3 with
   | gone => trivial
   | box t =>
    simp only [BRep] at hr1 ⊢
    obtain ⟨B, o, s1, s2, s3⟩ := hr1
    refine ⟨B, o, by rw [r4]; exact s1, s2, fun c p hp => ?_⟩
    obtain ⟨p0, t1, t2⟩ := (t hA2).get hp
    obtain ⟨u1, u2, u, u3, u4⟩ := s3 c p0 t1
    exact ⟨t2.1 u1, u2, u, u3, t2.2 u u4⟩
   | mp =>
    simp only [BRep] at hr1 ⊢
    rw [r4]; exact hr1
   | mpr hflat =>
    simp only [BRep] at hr1 ⊢
    rw [r4]
    obtain ⟨B, s1, es, c, s2, s3⟩ := hr1
    refine ⟨B, s1, es, c, s2, ?_⟩
    rcases hflat with hz | hz
    ·exact s3.mono hz fun _ _ => rfl
    ·exact s3.nohold ok hz
   | ints =>
    simp only [BRep] at hr1 ⊢
    rw [r4]; exact hr1
   | rows =>
    rename_i i xs hflat
    simp only [BRep] at hr1 ⊢
    rw [r4]
    refine ⟨hr1.1, fun B o ha j x c pv hj hpv => ?_⟩
    obtain ⟨u, u1, u2⟩ := hr1.2 B o ha j x c pv hj hpv
    refine ⟨u, u1, ?_⟩
    rcases hflat with hz | hz
    ·exact u2.mono hz fun _ _ => rfl
    ·exact u2.nohold (ok.flat i x pv hz (A41 hpv))
  ·obtain ⟨e1, e2⟩ := hoth id b q1 q2
   obtain ⟨b', r1, r2⟩ := hfr id b q1
   rw [q3] at r1; cases r1
   by_cases hg : b = .gone
   ·subst hg
    rcases r2 with ⟨rfl, _⟩ | ⟨rfl, r3, _⟩
    ·trivial
    ·cases r3
   ·have := (hH.rep id b q1).keep K e2 fun A hA => hmem id b A q1 hg q2 hA
    rcases r2 with ⟨rfl, _⟩ | ⟨rfl, _⟩
    ·exact this
    ·exact this.freeze
 ·-- apart
  have cross : ∀ {k b1 A b A'} {id' : Nat}, getL H1 k = some b1 -> b1.owned = true -> (ι1 k).a = some A -> getL H id' = some b -> b.owned = true -> (ι id').a = some A' -> (∀ j, lookB j cs.bind ≠ some (some id')) -> A.block ≠ A'.block := by
   intro k b1 A b A' id' h1 h2 h3 h4 h5 h6 h7 e
   rcases hO k b1 A h1 h2 h3 with ⟨j, id2, A2, s1, s2, s3⟩ | s
   ·obtain ⟨b2, _, t1, t2, _⟩ := hE.old j id2 s1
    exact hH.apart id' id2 b b2 A' A2 (fun e' => by subst e'; exact h7 j s1) h4 t1 h5 t2 h6 s2 (by rw [← e, s3])
   ·have := (hH.rep id' b h4).lt (B15 h5) h6
    omega
  rcases hownsrc i b A hi hbo hA with ⟨k, b1, p, p1, p2, p3, p4, p5⟩ | ⟨b', p1, p2, p3, p4, p5, p6⟩
  ·rcases hownsrc j c A' hj hco hA' with ⟨k', c1', p', s1, s2, s3, s4, s5⟩ | ⟨c', s1, s2, s3, s4, s5, s6⟩
   ·refine hS.heap.apart k k' b1 c1' A A' (fun e => ?_) p1 s1 p2 s2 p5 s5
    subst e
    rw [p3] at s3; cases s3
    exact hij (by rw [← p4, ← s4])
   ·exact cross p1 p2 p5 s1 s2 s3 s4
  ·rcases hownsrc j c A' hj hco hA' with ⟨k', c1', p', s1, s2, s3, s4, s5⟩ | ⟨c', s1, s2, s3, s4, s5, s6⟩
   ·exact fun e => cross s1 s2 s5 p1 p2 p3 p4 e.symm
   ·exact hH.apart i j b' c' A A' hij p1 s1 p2 s2 p3 s3
 ·-- free
  rcases hownsrc id b2 A hb2 ho hA with ⟨k, b1, p, p1, p2, p3, p4, p5⟩ | ⟨b', p1, p2, p3, p4, p5, p6⟩
  ·exact hS.heap.free k b1 A p1 p2 p5 (c2 _ hFz)
  ·by_cases hl : id ∈ cs.lent
   ·obtain ⟨b3, r1, r2⟩ := hfr id b' p1
    rw [p5] at r1; cases r1
    rcases r2 with ⟨_, r3⟩ | ⟨_, _, _, r3, _⟩
    ·exact r3 p2 hl A p3 hFz
    ·rw [B37 ho] at r3; cases r3
   ·exact hown2 id b' A p1 p2 p3 hl p4 hFz
 ·-- held
  rcases hsrc id b2 hb2 with ⟨k, b1, p, q1, q2, q3, q4⟩ | ⟨b, q1, q2, q3⟩
  ·obtain ⟨b2', p', r1, r2, r3, r4, _⟩ := hback k b1 q1
   rw [q2] at r1; cases r1
   rw [q4] at r2; cases r2
   cases r3 <;> cases hf
  ·obtain ⟨e1, e2⟩ := hoth id b q1 q2
   rw [e2] at hA
   obtain ⟨b', r1, r2⟩ := hfr id b q1
   rw [q3] at r1; cases r1
   rcases r2 with ⟨rfl, _⟩ | ⟨rfl, _, _, _, r3⟩
   ·exact c1 _ (hH.held id b2 A q1 hf hA)
   ·exact r3 A hA
 ·rw [hS.fram.os]; exact hF.os
 ·rw [hS.fram.tape]; exact hF.tape
 ·rw [hS.fram.output]; exact hF.output
 ·exact A80 hF.size hsize
 ·rw [hS.fram.block B (A75 hB hF.size) ?_]
  ·exact hF.block B hB hOB
  ·rintro ⟨j, id, A, h1, h2, rfl⟩
   obtain ⟨b, _, h3, h4, _⟩ := hE.old j id h1
   rcases hF.own id b A h3 h4 h2 with h | h
   ·exact hOB h
   ·omega
 ·rcases hownsrc id b2 A hb2 ho hA with ⟨k, b1, p, p1, p2, p3, p4, p5⟩ | ⟨b', p1, p2, p3, p4, p5, p6⟩
  ·rcases hO k b1 A p1 p2 p5 with ⟨j, id2, A2, s1, s2, s3⟩ | s
   ·obtain ⟨b3, _, t1, t2, _⟩ := hE.old j id2 s1
    rw [s3]; exact hF.own id2 b3 A2 t1 t2 s2
   ·exact .inr (A80 hF.size s)
  ·exact hF.own id b' A p1 p2 p3
 ·rcases hS.fram.fz B (c2 B hB) with h | ⟨j, id, A, h1, h2, rfl⟩ | h
  ·rcases h with h | ⟨id, hl, A, hA, rfl⟩
   ·exact hF.fz B h
   ·obtain ⟨b, h3, h4⟩ := hE.lent id hl
    exact .inr (hF.own id b A h3 h4 hA)
  ·obtain ⟨b, _, h3, h4, _⟩ := hE.old j id h1
   exact .inr (hF.own id b A h3 h4 h2)
  ·exact .inr (.inr (A80 hF.size h))
 ·exact (renTs hA2 rs (hz.imp id (·.1)) L).2
end
section
variable {G : Prg} {w w' : World} {Fz : Nat -> Prop} {ι : Nat -> Loc} {H : List (Blk G.E.T)} {R : Type} {r : R} {X : Ctx}
theorem B127 {α : Type} {a : α} (h : none = some a) : False := by cases h
theorem B433 {α : Type} {a b : α} (h : some a = some b) : a = b := by cases h; rfl
theorem B655 {T : Nat -> Type} : ∀ {l : Leaf} {v : LV T} {p : l.den T}, l.ofLV v = some p -> l.toLV p = v := by
 intro l v p h
 cases l <;> cases v <;> simp only [Leaf.ofLV] at h <;> first
  | exact (B127 h).elim
  | (have h := B433 h; subst h; rfl)
  | (split at h <;> first | (exact (B127 h).elim) | (rename_i e; subst e; have h := B433 h; subst h; rfl))
theorem B602 {T : Nat -> Type} {ls : List Leaf} : ∀ {l : List (LV T)} {p : Pay T ls}, ofL ls l = some p -> toL ls p = l := by
 induction ls with
 | nil =>
  intro l p h
  cases l with
  | nil => rfl
  | cons => exact (B127 h).elim
 | cons a ls ih =>
  cases ls with
  | nil =>
   intro l p h
   cases l with
   | nil => exact (B127 h).elim
   | cons v l =>
    cases l with
    | nil => exact congrArg (fun x => [x]) (B655 h)
    | cons => exact (B127 h).elim
  | cons b ls =>
   intro l p h
   cases l with
   | nil => exact (B127 h).elim
   | cons v l =>
    have h' : (match a.ofLV v, ofL (b :: ls) l with
     | some x, some y => some ((x, y) : a.den T × Pay T (b :: ls))
     | _, _ => none) = some p := h
    cases h1 : a.ofLV v with
    | none => rw [h1] at h'; exact (B127 h').elim
    | some x =>
     cases h2 : ofL (b :: ls) l with
     | none => rw [h1, h2] at h'; exact (B127 h').elim
     | some y =>
      rw [h1, h2] at h'
      have h3 := B433 h'
      subst h3
      show a.toLV x :: toL (b :: ls) y = v :: l
      rw [B655 h1, ih h2]
def retV : List Value -> Value
 | [] => .tuple #[]
 | v :: l => match l with
  | [] => v
  | _ :: _ => .tuple (v :: l).toArray
theorem B742 {Fz : Nat -> Prop} {l : List (PV G.E.T)} {us : List Value} (h : PReps G.E w Fz ι H l us) : PRep G.E w Fz ι H (resV l) (retV us) := by
 cases l with
 | nil =>
  cases us with
  | nil => simp only [resV, retV, PRep]; exact ⟨#[], rfl, by simp [PReps]⟩
  | cons => simp [PReps] at h
 | cons p l =>
  cases us with
  | nil => simp [PReps] at h
  | cons u us =>
   have h' := h
   simp only [PReps] at h
   cases l with
   | nil =>
    cases us with
    | nil => simp only [resV, retV]; exact h.1
    | cons => simp [PReps] at h
   | cons q l =>
    cases us with
    | nil => simp [PReps] at h
    | cons v us =>
     simp only [resV, retV, PRep]
     exact ⟨_, rfl, by simpa using h'⟩
def inV (G : Prg) (i : Nat) (p : Pay G.E.T (G.F i).sig.ins) : List (PV G.E.T) := (rebTs (ρcut (T := G.E.T) [] (G.F i).sig.pb) (G.F i).sig.ps (toL (G.F i).sig.ins p)).1
def inH (G : Prg) (i : Nat) (p : Pay G.E.T (G.F i).sig.ins) : List (Blk G.E.T) :=
 rebBs (ρcut (T := G.E.T) [] (G.F i).sig.pb) 0 (G.F i).sig.pb [] (rebTs (ρcut (T := G.E.T) [] (G.F i).sig.pb) (G.F i).sig.ps (toL (G.F i).sig.ins p)).2
def B243 {T : Nat -> Type} : (a : Way) -> (l : List Way) -> OutT T a l -> Way × List (LV T)
 | a, [], q => (a, toL a.leaves q)
 | a, b :: l, q => match q with
  | .inl q => (a, toL a.leaves q)
  | .inr q => B243 b l q
def outW {T : Nat -> Type} {s : Sig} (q : s.Out T) : Way × List (LV T) := B243 s.way s.more q
theorem B262 {T : Nat -> Type} : ∀ {a : Way} {l : List Way} {q : OutT T a l}, (B243 a l q).1 ∈ a :: l
 | a, [], q => A23 ..
 | a, b :: l, .inl q => A23 ..
 | a, b :: l, .inr q => A29 _ B262
theorem B629 {T : Nat -> Type} {k : Way -> List (LV T) -> Option R} : ∀ {a : Way} {l : List Way} {q : OutT T a l}, B711 a l q k = k (B243 a l q).1 (B243 a l q).2
 | a, [], q => rfl
 | a, b :: l, .inl q => rfl
 | a, b :: l, .inr q => B629 (a := b) (l := l) (q := q)
theorem B237 {T : Nat -> Type} {s : Sig} {k : Way -> List (LV T) -> Option R} {q : s.Out T} : s.get q k = k (outW q).1 (outW q).2 := B629
theorem B784 {l : List Way} (h : B456 l = true) : ∀ a ∈ l, B241 a.2 = true := by
 induction l with
 | nil => intro a ha; cases ha
 | cons b l ih =>
  simp only [B456] at h
  split at h
  ·rename_i hb
   intro a ha
   rcases A19.1 ha with rfl | ha
   ·exact hb
   ·exact ih h a ha
  ·cases h
theorem B765 {E : Env} {l : List Way} (h : B388 E l = false) : ∀ a ∈ l, TSh.holdsL a.1 = false ∧ BSh.holdsL E a.2 = false := by
 induction l with
 | nil => intro a ha; cases ha
 | cons b l ih =>
  simp only [B388] at h
  split at h
  ·rename_i h1 h2
   intro a ha
   rcases A19.1 ha with rfl | ha
   ·exact ⟨h1, h2⟩
   ·exact ih h a ha
  ·cases h
theorem B764 {l : List Way} (h : B387 l = true) : ∀ a ∈ l, a.2 = [] := by
 induction l with
 | nil => intro a ha; cases ha
 | cons b l ih =>
  simp only [B387] at h
  split at h
  ·rename_i hb
   intro a ha
   rcases A19.1 ha with rfl | ha
   ·exact hb
   ·exact ih h a ha
  ·cases h
def outV (G : Prg) (i : Nat) (p : Pay G.E.T (G.F i).sig.ins) (q : (G.F i).sig.Out G.E.T) : List (PV G.E.T) := (rebTs (ρcut (inH G i p) (outW q).1.2) (outW q).1.1 (outW q).2).1
def outH (G : Prg) (i : Nat) (p : Pay G.E.T (G.F i).sig.ins) (q : (G.F i).sig.Out G.E.T) : List (Blk G.E.T) :=
 rebBs (ρcut (inH G i p) (outW q).1.2) 0 (outW q).1.2 (inH G i p) (rebTs (ρcut (inH G i p) (outW q).1.2) (outW q).1.1 (outW q).2).2
structure Says (G : Prg) (i : Nat) (p : Pay G.E.T (G.F i).sig.ins) (q : (G.F i).sig.Out G.E.T) : Prop where
 body : ∃ fn, G.P.funcs[(G.F i).fid]? = some fn ∧ fn.body.isSome = true
 calls : ∀ (X : Ctx) (w : World) (Fz : Nat -> Prop) (ι : Nat -> Loc) (args : List Value), HRep G.E w Fz ι (inH G i p) -> Fram G.E X w Fz ι (inH G i p) -> PReps G.E w Fz ι (inH G i p) (inV G i p) args ->
  Calls G.P (G.F i).fid args.toArray w fun e w' => ∃ vs Fz' ι', e = .returned (retV vs) ∧ Step G.E X w w' Fz Fz' ι ι' (inH G i p) (outH G i p q) ∧ PReps G.E w' Fz' ι' (outH G i p q) (outV G i p q) vs ∧
   (inH G i p).length <= (outW q).1.2.length
def Spec (G : Prg) (rec : Rec G) : Prop := ∀ i p q, rec i p = some q -> Says G i p q
theorem B771 (ok : PrgOk G) {rec : Rec G} (hrec : Spec G rec) {i : Nat} {args : List (PV G.E.T)} {K : PV G.E.T -> List (Blk G.E.T) -> Option R} (h : callV G rec i H args K = some r)
  (hH : HRep G.E w Fz ι H) (hF : Fram G.E X w Fz ι H) {vs : List Value} (hv : PReps G.E w Fz ι H args vs) :
  (∃ fn, G.P.funcs[(G.F i).fid]? = some fn ∧ fn.body.isSome = true) ∧
  Calls G.P (G.F i).fid vs.toArray w fun e w' => ∃ v p H' Fz' ι', e = .returned v ∧ K p H' = some r ∧ Step G.E X w w' Fz Fz' ι ι' H H' ∧ PRep G.E w' Fz' ι' H' p v := by
 unfold callV at h
 split at h
 ·cases h
 ·cases h
 ·rename_i a cs hcast hns
  split at h
  ·cases h
  ·rename_i p hp
   split at h
   ·cases h
   ·rename_i heap' hheap
    obtain ⟨q, hq, hK⟩ := A34.1 h
    rw [B237] at hK
    have hns := B784 hns _ (B262 (q := q))
    have hS := hrec i p q hq
    have ha := B602 hp
    obtain ⟨hE, hT⟩ := B836 hH hcast
    have hin : PReps G.E w (B34 Fz ι cs.lent) (bindι ι cs) (inH G i p) (inV G i p) vs := by
     unfold inH inV; rw [ha]; exact hT.reps hv
    have hE' : Enters G w Fz ι H cs (inH G i p) := by unfold inH; rw [ha]; exact hE
    refine ⟨hS.body, (hS.calls (callX w Fz ι cs) w _ _ vs hE'.heap hE'.fram hin).mono ?_⟩
    rintro e w' ⟨us, Fz1, ι1, rfl, hstep, hus, hlen⟩
    have hm : (G.F i).sig.pb.length = (inH G i p).length := by unfold inH; rw [B93]
    unfold outH at hstep hus
    unfold outV at hus
    by_cases hhold : (G.F i).sig.holds G.E = true
    ·rw [hhold] at hheap
     simp only at hheap
     have hfz := B81 hheap
     obtain ⟨ι2, s1, s2⟩ := B612 (Fz2 := Fz1) ok.env hE' hH hF hstep hm hlen hns (fun B hB => hstep.keep.fz B (.inl hB)) (fun _ h => h) (.inl fun _ h => h) hfz.len
      (fun id b hb => by
       obtain ⟨b', g1, g2⟩ := hfz.at_ id b hb
       refine ⟨b', g1, ?_⟩
       rcases g2 with ⟨e, g2⟩ | ⟨e, g2, g3, g4, g5⟩
       ·exact .inl ⟨e, fun ho hl => by have := g2 hl; rw [B37 ho] at this; cases this⟩
       ·exact .inr ⟨e, g2, g3, g4, fun A hA => hstep.keep.fz _ (.inr ⟨id, g5, A, hA, rfl⟩)⟩)
      (fun id b A hb ho hA hnl hno hFz => by
       rcases hstep.fram.fz A.block hFz with hh | ⟨j, id2, A2, h1, h2, h3⟩ | hh
       ·rcases hh with hh | ⟨id2, hl, A2, h2, h3⟩
        ·exact hH.free id b A hb ho hA hh
        ·obtain ⟨b2, h4, h5⟩ := hE'.lent id2 hl
         exact hH.apart id id2 b b2 A A2 (fun e => hnl (e ▸ hl)) hb h4 ho h5 hA h2 h3
       ·obtain ⟨b2, _, h4, h5, _⟩ := hE'.old j id2 h1
        exact hH.apart id id2 b b2 A A2 (fun e => hno j (e ▸ h1)) hb h4 ho h5 hA h2 h3
       ·have := (hH.rep id b hb).lt (B15 ho) hA
        have h6 : (callX w Fz ι cs).w0.heap.size = w.heap.size := rfl
        omega)
     exact ⟨_, _, _, Fz1, ι2, rfl, hK, s1, B742 (s2.reps hus)⟩
    ·have hhold' : (G.F i).sig.holds G.E = false := by simpa using hhold
     rw [hhold'] at hheap
     simp only at hheap
     cases hheap
     have hz : TSh.holdsL (outW q).1.1 = false ∧ BSh.holdsL G.E (outW q).1.2 = false := B765 hhold' _ B262
     obtain ⟨ι2, s1, s2⟩ := B612 (Fz2 := Fz) ok.env hE' hH hF hstep hm hlen hns (fun B hB => hB) (fun B h => hstep.keep.fz B (.inl h)) (.inr hz) rfl
      (fun id b hb => ⟨b, hb, .inl ⟨rfl, fun ho _ A hA => hH.free id b A hb ho hA⟩⟩)
      (fun id b A hb ho hA _ _ => hH.free id b A hb ho hA)
     exact ⟨_, _, _, Fz, ι2, rfl, hK, s1, B742 (s2.reps hus)⟩
end
section
variable {G : Prg} {pl : Option Nat} {R : Type} {r : R}
abbrev PK (p : PV G.E.T) (h : List (Blk G.E.T)) : Option (PV G.E.T × List (Blk G.E.T)) := some (p, h)
theorem B896 {T : Nat -> Type} {op : BinOp} {b : Bool} (K : PV T -> Option R) : eqOp op b K = (eqOp op b some).bind K := by cases op <;> rfl
theorem B1052 {T : Nat -> Type} {op : BinOp} {a b : List Int} (K : PV T -> Option R) : strOp op a b K = (strOp op a b some).bind K := by
 cases op <;> first | rfl | (simp only [strOp]; split <;> rfl)
theorem B593 {T : Nat -> Type} {op : BinOp} {k : IntKind} {a b : Int} (K : PV T -> Option R) : intOp op k a b K = (intOp op k a b some).bind K := by
 cases op <;> first | rfl | (simp only [intOp]; split <;> rfl)
theorem B1041 {T : Nat -> Type} {op : BinOp} {n : Nat} (K : PV T -> Option R) : nilEq op n K = (nilEq op n some).bind K := by
 cases op <;> first | rfl | (simp only [nilEq]; split <;> rfl)
theorem B956 {T : Nat -> Type} {ty : Option TypeDesc} {op : BinOp} {x y : PV T} (K : PV T -> Option R) : B330 ty op x y K = (B330 ty op x y some).bind K := by
 unfold B330
 split
 ·split
  ·exact B593 K
  ·exact B593 K
  ·split
   ·exact B593 K
   ·rfl
 ·exact B1052 K
 all_goals first | rfl | (split <;> first | exact B896 K | exact B1041 K | rfl)
theorem B504 {t : TypeId} {op : BinOp} {x y : PV G.E.T} (K : PV G.E.T -> Option R) : B329 G t op x y K = (B329 G t op x y some).bind K := by
 unfold B329
 split
 ·split
  ·exact B896 K
  ·rfl
 ·exact B956 K
theorem B603 {T : Nat -> Type} {op : UnOp} {x : PV T} (K : PV T -> Option R) : unOpV op x K = (unOpV op x some).bind K := by
 unfold unOpV
 split <;> rfl
theorem B595 {H : List (Blk G.E.T)} {t : TypeId} {a : PV G.E.T} (K : PV G.E.T -> Option R) : loadV G H t a K = (loadV G H t a some).bind K := by
 unfold loadV
 repeat' split
 all_goals first
  | rfl
  | (rw [A67]; congr 1; funext x; (repeat' split) <;> rfl)
theorem B750 {H : List (Blk G.E.T)} {t : TypeId} {a v : PV G.E.T} (K : List (Blk G.E.T) -> Option R) : B156 G H t a v K = (B156 G H t a v some).bind K := by
 unfold B156
 repeat' split
 all_goals first
  | rfl
  | (rw [A67]; congr 1; funext x; (repeat' split) <;> rfl)
theorem B275 {s : TypeId} {x : PV G.E.T} {f : Nat} (K : PV G.E.T -> Option R) : B166 G s x f K = (B166 G s x f some).bind K := by
 unfold B166
 repeat' split
 all_goals rfl
theorem B434 {A B : Type} {i : Int} {f : A -> Option B} : ∀ {n : Nat} {K : Nat -> Option A} {K' : Nat -> Option B}, (∀ j, K' j = (K j).bind f) -> B225 i n K' = (B225 i n K).bind f
 | 0, K, K', h => rfl
 | n + 1, K, K', h => by
  simp only [B225]
  split
  ·exact h n
  ·exact B434 h
theorem B408 {A B : Type} {i : Int} {n : Nat} {f : A -> Option B} {K : Nat -> Option A} {K' : Nat -> Option B} (h : ∀ j, K' j = (K j).bind f) : atIx i n K' = (atIx i n K).bind f := by
 unfold atIx
 split
 ·exact B434 h
 ·exact h _
theorem B852 {H : List (Blk G.E.T)} {t : TypeId} (K : PV G.E.T -> List (Blk G.E.T) -> Option R) : B97 G pl H t K = (B97 G pl H t PK).bind fun y => K y.1 y.2 := by
 unfold B97
 repeat' split
 all_goals rfl
theorem B643 {H : List (Blk G.E.T)} {t : TypeId} {m k x : PV G.E.T} (K : List (Blk G.E.T) -> Option R) : B220 G H t m k x K = (B220 G H t m k x some).bind K := by
 unfold B220
 cases m <;> try rfl
 rename_i id
 simp only
 cases getL H id with
 | none => rfl
 | some b =>
  cases b <;> try rfl
  case mp m k3 =>
   cases m <;> try rfl
   simp only
   split <;> rfl
  case mpr m k3 i xs =>
   cases m <;> try rfl
   simp only
   split
   ·split
    ·split <;> rfl
    ·rfl
   ·rfl
theorem B424 {H : List (Blk G.E.T)} {t : TypeId} {m k : PV G.E.T} {ok : Bool} (K : PV G.E.T -> Option R) : B138 G H t m k ok K = (B138 G H t m k ok some).bind K := by
 unfold B138
 cases m <;> try rfl
 rename_i id
 simp only
 cases getL H id with
 | none => rfl
 | some b =>
  cases b <;> try rfl
  simp only
  split
  ·split
   ·cases ok <;> rfl
   ·rfl
  ·rfl
theorem B618 {H : List (Blk G.E.T)} {t : TypeId} {m k : PV G.E.T} (K : List (Blk G.E.T) -> Option R) : B214 G H t m k K = (B214 G H t m k some).bind K := by
 unfold B214
 cases m <;> try rfl
 rename_i id
 simp only
 cases getL H id with
 | none => rfl
 | some b =>
  cases b <;> try rfl
  case mpr m k3 i xs =>
   cases m <;> try rfl
   simp only
   split <;> rfl
theorem B281 {H : List (Blk G.E.T)} {t : TypeId} {x i : PV G.E.T} (K : PV G.E.T -> Option R) : B88 G H t x i K = (B88 G H t x i some).bind K := by
 unfold B88
 repeat' split
 all_goals first
  | rfl
  | (refine B408 fun j => ?_; (repeat' split) <;> rfl)
  | (rw [A67]; congr 1)
theorem B717 {H : List (Blk G.E.T)} {t : TypeId} {x : PV G.E.T} (K : PV G.E.T -> Option R) : lenV G H t x K = (lenV G H t x some).bind K := by
 unfold lenV
 repeat' split
 all_goals rfl
theorem B880 {H : List (Blk G.E.T)} {t : TypeId} {s x : PV G.E.T} (K : PV G.E.T -> List (Blk G.E.T) -> Option R) : B137 G H t s x K = (B137 G H t s x PK).bind fun y => K y.1 y.2 := by
 unfold B137
 repeat' split
 all_goals rfl
theorem B881 {H : List (Blk G.E.T)} {t : TypeId} {s x : PV G.E.T} (K : PV G.E.T -> List (Blk G.E.T) -> Option R) : B163 G H t s x K = (B163 G H t s x PK).bind fun y => K y.1 y.2 := by
 unfold B163
 repeat' split
 all_goals rfl
theorem B1022 {H : List (Blk G.E.T)} {t : TypeId} {s x : PV G.E.T} (K : PV G.E.T -> List (Blk G.E.T) -> Option R) : copyV G H t s x K = (copyV G H t s x PK).bind fun y => K y.1 y.2 := by
 unfold copyV
 repeat' split
 all_goals rfl
theorem B661 {H : List (Blk G.E.T)} {t : TypeId} {n : Nat} {parts : List (Nat × PV G.E.T)} (K : PV G.E.T -> List (Blk G.E.T) -> Option R) : B73 G pl H t n parts K = (B73 G pl H t n parts PK).bind fun y => K y.1 y.2 := by
 unfold B73
 repeat' split
 all_goals rfl
theorem B508 {t : TypeId} {parts : List (Nat × PV G.E.T)} (K : PV G.E.T -> Option R) : B332 G t parts K = (B332 G t parts some).bind K := by
 unfold B332
 repeat' split
 all_goals rfl
theorem B721 {H : List (Blk G.E.T)} {t : TypeId} {l c : PV G.E.T} (K : PV G.E.T -> List (Blk G.E.T) -> Option R) : B69 G pl H t l c K = (B69 G pl H t l c PK).bind fun y => K y.1 y.2 := by
 unfold B69
 repeat' split
 all_goals rfl
theorem B610 {n : Nat} {lo hi : Option (PV G.E.T)} {A : Type} (K : Nat -> Nat -> Option A) (K' : A -> Option R) : B41 G n lo hi (fun l h => (K l h).bind K') = (B41 G n lo hi K).bind K' := by
 unfold B41
 repeat' split
 all_goals rfl
theorem B1013 {H : List (Blk G.E.T)} {c : Bool} {t : TypeId} {x : PV G.E.T} {lo hi : Option (PV G.E.T)} (K : PV G.E.T -> List (Blk G.E.T) -> Option R) : B182 G H c t x lo hi K = (B182 G H c t x lo hi PK).bind fun y => K y.1 y.2 := by
 unfold B182
 repeat' split
 all_goals first
  | rfl
  | (rw [← B610]; rfl)
theorem B838 {H : List (Blk G.E.T)} {src dst : TypeId} {x : PV G.E.T} (K : PV G.E.T -> List (Blk G.E.T) -> Option R) : B143 G H src dst x K = (B143 G H src dst x PK).bind fun y => K y.1 y.2 := by
 unfold B143
 repeat' split
 all_goals rfl
theorem B1019 {rec : Rec G} {i : Nat} {H : List (Blk G.E.T)} {args : List (PV G.E.T)} (K : PV G.E.T -> List (Blk G.E.T) -> Option R) : callV G rec i H args K = (callV G rec i H args PK).bind fun y => K y.1 y.2 := by
 unfold callV
 repeat' split
 all_goals first
  | rfl
  | (rw [A67]; congr 1; funext q; rw [B237, B237]; rfl)
theorem vop_k {rec : Rec G} {ann : Ann} {o : Oper} {σ : St G.E.T} (K : PV G.E.T -> List (Blk G.E.T) -> Option R) : vop G rec ann pl o σ K = (vop G rec ann pl o σ PK).bind fun y => K y.1 y.2 := by
 unfold vop
 split
 case h_4 => rw [B504, B504 (fun v => PK v σ.heap), A67]; rfl
 case h_5 => rw [B603, B603 (fun v => PK v σ.heap), A67]; rfl
 all_goals first
  | rfl
  | exact B838 K
  | exact B661 K
  | exact B721 K
  | exact B852 K
  | (rw [B643, B643 (fun h => PK (.tup []) h), A67]; rfl)
  | (rw [B424, B424 (fun v => PK v σ.heap), A67]; rfl)
  | (rw [B508, B508 (fun v => PK v σ.heap), A67]; rfl)
  | (rw [B595, B595 (fun v => PK v σ.heap), A67]; rfl)
  | (rw [B750, B750 (fun h => PK (.tup []) h), A67]; rfl)
  | (rw [B275, B275 (fun v => PK v σ.heap), A67]; rfl)
  | (rw [B281, B281 (fun v => PK v σ.heap), A67]; rfl)
  | skip
 all_goals
  repeat' split
 all_goals first
  | rfl
  | (refine B408 fun j => ?_; (repeat' split) <;> rfl)
  | exact B1013 K
  | exact B1019 K
  | exact B880 K
  | exact B881 K
  | exact B1022 K
  | (rw [A67]; rfl)
  | (rw [B717, B717 (fun v => PK v σ.heap), A67]; rfl)
  | (rw [B618, B618 (fun h => PK (.tup []) h), A67]; rfl)
theorem B116 {T : Nat -> Type} {env env' : List (Nat × PV T)} : ∀ {l : List Operand}, (∀ x, x ∈ l -> eval env x = eval env' x) -> evals env l = evals env' l
 | [], _ => rfl
 | x :: l, h => by simp only [evals]; rw [h x (A23 ..), B116 fun y hy => h y (A29 _ hy)]
theorem B198 {T : Nat -> Type} {env env' : List (Nat × PV T)} : ∀ {l : List (Nat × Operand)}, (∀ x, x ∈ B117 l -> eval env x = eval env' x) -> B91 env l = B91 env' l
 | [], _ => rfl
 | (i, x) :: l, h => by
  simp only [B91]
  rw [h x (by simp [B117]), B198 fun y hy => h y (by simp [B117, hy])]
theorem B824 {rec : Rec G} {ann : Ann} {o : Oper} {env env' : List (Nat × PV G.E.T)} {H : List (Blk G.E.T)} (K : PV G.E.T -> List (Blk G.E.T) -> Option R)
  (h : ∀ x, x ∈ B65 o.op -> eval env x = eval env' x) : vop G rec ann pl o ⟨env, H⟩ K = vop G rec ann pl o ⟨env', H⟩ K := by
 obtain ⟨dst, op, type, pos, after, guard⟩ := o
 cases op
 case build t ps => simp only [vop]; rw [B198 (fun x hx => h x (by simpa [B65] using hx))]
 case buildSlice t n ps => simp only [vop]; rw [B198 (fun x hx => h x (by simpa [B65] using hx))]
 case makeFunc fn first cs =>
  cases fn <;> simp only [vop]
  rw [B116 (fun x hx => h x (by simpa [B65] using hx))]
 case makeMap t res => cases res <;> simp only [vop]
 case slice t x lo hi mx =>
  simp only [vop]
  cases lo <;> cases hi <;> simp only [B65, A19, A71, A72, A84, A78] at h <;> simp only [A52, A37, h]
 case call c =>
  obtain ⟨callee, args, argTypes⟩ := c
  cases callee with
  | value f =>
   simp only [B65, A19, A84] at h
   simp only [vop]
   rw [h.1, B116 h.2]
  | invoke r m => simp only [vop]
  | builtin b =>
   simp only [B65] at h
   cases b <;> simp only [vop]
   case append =>
    split
    ·rename_i s x t tx ha ht
     rw [ha] at h
     simp only [A19, A71, A72, A84, A78] at h
     rw [h.1, h.2]
    ·rfl
   case delete =>
    split
    ·rename_i m k t rest ha ht
     rw [ha] at h
     simp only [A19, A71, A72, A84, A78] at h
     rw [h.1, h.2]
    ·rfl
   case copy =>
    split
    ·rename_i s x t tx ha ht
     rw [ha] at h
     simp only [A19, A71, A72, A84, A78] at h
     rw [h.1, h.2]
    ·rfl
   case len =>
    split
    ·rename_i x t tx ha ht
     rw [ha] at h
     simp only [A19, A71, A72, A78] at h
     rw [h]
    ·rfl
   case cap =>
    split
    ·rename_i x t tx ha ht
     rw [ha] at h
     simp only [A19, A71, A72, A78] at h
     rw [h]
    ·rfl
   case max => rw [B116 h]
   case min => rw [B116 h]
 all_goals
  simp only [B65, A19, A71, A72, A84, A78] at h
  simp only [vop]
 all_goals first
  | rfl
  | simp only [h]
theorem B847 {ann : Ann} {o : Oper} {env env' : List (Nat × PV G.E.T)} {H : List (Blk G.E.T)}
  (h : ∀ x, x ∈ B65 o.op -> eval env x = eval env' x) : B38 G ann pl o ⟨env, H⟩ = B38 G ann pl o ⟨env', H⟩ := by
 obtain ⟨dst, op, type, pos, after, guard⟩ := o
 cases op
 case build t ps => simp only [B38]
 case buildSlice t n ps => simp only [B38]; rw [B116 (fun x hx => h x (by simpa [B65] using hx))]
 case makeFunc fn first cs => simp only [B38]
 case slice t x lo hi mx =>
  simp only [B38]
  cases lo <;> cases hi <;> simp only [B65, A19, A71, A72, A84, A78] at h <;> simp only [h]
 case call c =>
  obtain ⟨callee, args, argTypes⟩ := c
  cases callee with
  | value f =>
   simp only [B65, A19, A84] at h
   simp only [B38]
   rw [h.1, B116 h.2]
  | invoke r m => simp only [B38]
  | builtin b =>
   simp only [B65] at h
   cases b <;> simp only [B38]
   case append =>
    split
    ·rename_i s x ha
     rw [ha] at h
     simp only [A19, A71, A72, A84, A78] at h
     rw [h.1, h.2]
    ·rfl
   case delete =>
    split
    ·rename_i m k ha
     rw [ha] at h
     simp only [A19, A71, A72, A84, A78] at h
     rw [h.1]
    ·rfl
   case copy =>
    split
    ·rename_i s x ha
     rw [ha] at h
     simp only [A19, A71, A72, A84, A78] at h
     rw [h.1, h.2]
    ·rfl
   case len =>
    split
    ·rename_i x ha
     rw [ha] at h
     simp only [A19, A71, A72, A78] at h
     rw [h]
    ·rfl
 all_goals
  simp only [B65, A19, A71, A72, A84, A78] at h
  simp only [B38]
 all_goals first
  | rfl
  | simp only [h]
def Same (F : List Nat) (H H2 : List (Blk G.E.T)) : Prop := ∀ id, id ∈ F -> getL H2 id = getL H id
theorem Same.sub {F F' : List Nat} {H H2 : List (Blk G.E.T)} (h : Same F H H2) (hs : ∀ id, id ∈ F' -> id ∈ F) : Same F' H H2 := fun id hi => h id (hs id hi)
theorem B851 {H H2 : List (Blk G.E.T)} {t : TypeId} {a : PV G.E.T} (h : Same a.ids H H2) (K : PV G.E.T -> Option R) : loadV G H2 t a K = loadV G H t a K := by
 cases a <;> simp only [loadV]
 case ptr id off => rw [h id (by simp [PV.ids])]
 case eptr id ep i f => rw [h id (by simp [PV.ids])]
 case aptr id off n i => rw [h id (by simp [PV.ids])]
theorem B719 {H H2 : List (Blk G.E.T)} {t : TypeId} {m k : PV G.E.T} {ok : Bool} (h : Same m.ids H H2) (K : PV G.E.T -> Option R) : B138 G H2 t m k ok K = B138 G H t m k ok K := by
 cases m <;> simp only [B138]
 rw [h _ (by simp [PV.ids])]
theorem B546 {H H2 : List (Blk G.E.T)} {t : TypeId} {x i : PV G.E.T} (h : Same x.ids H H2) (K : PV G.E.T -> Option R) : B88 G H2 t x i K = B88 G H t x i K := by
 unfold B88
 cases i <;> simp only
 cases x <;> simp only
 case arr id ep => rw [h id (by simp [PV.ids])]
 case sub id ep off len => rw [h id (by simp [PV.ids])]
 case eptr id ep j fld => rw [h id (by simp [PV.ids])]
theorem B914 {H H2 : List (Blk G.E.T)} {t : TypeId} {x : PV G.E.T} (h : Same x.ids H H2) (K : PV G.E.T -> Option R) : lenV G H2 t x K = lenV G H t x K := by
 unfold lenV
 cases x <;> simp only
 case arr id ep => rw [h id (by simp [PV.ids])]
 case sub id ep off len => rw [h id (by simp [PV.ids])]
theorem B313 {H H2 : List (Blk G.E.T)} {k : IntKind} {x : PV G.E.T} (h : Same x.ids H H2) : B80 H2 k x = B80 H k x := by
 unfold B80
 cases x <;> simp only
 case arr id ep => rw [h id (by simp [PV.ids])]
 case sub id ep off len => rw [h id (by simp [PV.ids])]
theorem B490 {H H2 : List (Blk G.E.T)} {i : Nat} {x : PV G.E.T} (h : Same x.ids H H2) : B123 H2 i x = B123 H i x := by
 unfold B123
 cases x <;> simp only
 case arr id ep => rw [h id (by simp [PV.ids])]
 case sub id ep off len => rw [h id (by simp [PV.ids])]
theorem B845 {H H2 : List (Blk G.E.T)} {id ep : Nat} (h : getL H2 id = getL H id) : isOwn H2 id ep = isOwn H id ep := by
 unfold isOwn; rw [h]
mutual
theorem B834 {H H2 : List (Blk G.E.T)} : ∀ (s : TSh) (v : PV G.E.T) (cs : CS), Same v.ids H H2 -> castT H2 s v cs = castT H s v cs
 | .int k, v, cs, h => by cases v <;> simp only [castT]
 | .bool, v, cs, h => by cases v <;> simp only [castT]
 | .str, v, cs, h => by cases v <;> simp only [castT]
 | .ints k, v, cs, h => by simp only [castT]; rw [B313 h]
 | .rows i, v, cs, h => by simp only [castT]; rw [B490 h]
 | .arr j, v, cs, h => by
  cases v <;> simp only [castT]
  rw [B845 (h _ (by simp [PV.ids]))]
 | .agg l, v, cs, h => by
  cases v <;> simp only [castT]
  exact castTs_foot l _ cs (by simpa only [PV.ids] using h)
 | .ptr j off, v, cs, h => by cases v <;> simp only [castT]
 | .mapr j, v, cs, h => by cases v <;> simp only [castT]
 | .nil, v, cs, h => by cases v <;> simp only [castT]
 | .lit k n, v, cs, h => by cases v <;> simp only [castT]
 | .litb b, v, cs, h => by cases v <;> simp only [castT]
 | .nilsl, v, cs, h => by cases v <;> simp only [castT]
 | .fn f l, v, cs, h => by
  cases v <;> simp only [castT]
  rw [castTs_foot l _ cs (by simpa only [PV.ids] using h)]
theorem castTs_foot {H H2 : List (Blk G.E.T)} : ∀ (l : List TSh) (m : List (PV G.E.T)) (cs : CS), Same (PV.idsL m) H H2 -> castTs H2 l m cs = castTs H l m cs
 | [], [], cs, h => by simp only [castTs]
 | s :: l, v :: m, cs, h => by
  simp only [PV.idsL] at h
  simp only [castTs]
  rw [B834 s v cs (h.sub fun id hi => A90 _ hi)]
  split
  ·rename_i a cs1 _
   rw [castTs_foot l m cs1 (h.sub fun id hi => A70 _ hi)]
  ·rfl
 | [], _ :: _, cs, h => by simp only [castTs]
 | _ :: _, [], cs, h => by simp only [castTs]
end
theorem B413 {H H2 : List (Blk G.E.T)} {ss : List TSh} {vs : List (PV G.E.T)} (h : Same (PV.idsL vs) H H2) : B51 ss vs [] [] H2 = B51 ss vs [] [] H := by
 unfold B51
 rw [castTs_foot ss vs _ h]
 rfl
def Pures (H : List (Blk G.E.T)) (F : List Nat) (f : List (Blk G.E.T) -> Option (PV G.E.T × List (Blk G.E.T))) : Prop :=
 ∀ p h', f H = some (p, h') -> h' = H ∧ ∀ H2, Same F H H2 -> f H2 = some (p, H2)
theorem Pures.of {H : List (Blk G.E.T)} {F : List Nat} {f : List (Blk G.E.T) -> Option (PV G.E.T)} (h : ∀ H2, Same F H H2 -> f H2 = f H) : Pures H F fun H => (f H).bind fun v => PK v H := by
 intro p h' hf
 obtain ⟨v, h1, h2⟩ := A34.1 hf
 cases h2
 refine ⟨rfl, fun H2 hs => ?_⟩
 show (f H2).bind _ = _
 rw [h H2 hs, h1]; rfl
theorem Pures.const {H : List (Blk G.E.T)} {F : List Nat} (v : Option (PV G.E.T)) : Pures H F fun H => v.bind fun v => PK v H := .of (f := fun _ => v) fun _ _ => rfl
theorem Pures.congr {H : List (Blk G.E.T)} {F : List Nat} {f g : List (Blk G.E.T) -> Option (PV G.E.T × List (Blk G.E.T))} (h : Pures H F g) (e : ∀ H, f H = g H) : Pures H F f := by
 intro p h' hf
 rw [e] at hf
 obtain ⟨h1, h2⟩ := h p h' hf
 exact ⟨h1, fun H2 hs => by rw [e]; exact h2 H2 hs⟩
theorem Pures.none {H : List (Blk G.E.T)} {F : List Nat} : Pures H F fun _ => none := fun p h' h => by cases h
theorem Pures.some {H : List (Blk G.E.T)} {F : List Nat} (v : PV G.E.T) : Pures H F fun H => PK v H := .const (Option.some v)
theorem B90 {H : List (Blk G.E.T)} {F : List Nat} {n : Nat} {lo hi : Option (PV G.E.T)} (K : Nat -> Nat -> PV G.E.T) : Pures H F fun H => B41 G n lo hi fun l h => PK (K l h) H :=
 (Pures.const (B41 G n lo hi fun l h => some (K l h))).congr fun H => by rw [← B610]; rfl
theorem B869 {H : List (Blk G.E.T)} {t : TypeId} {id ep : Nat} {lo hi : Option (PV G.E.T)} : B182 G H false t (.arr id ep) lo hi PK = (match getL H id with
   | some (.ints _ _ ep' xs) => match B203 G t, Nat.beq ep ep' with
    | true, true => B41 G xs.length lo hi fun l h => PK (.sub id ep l (h - l)) H
    | _, _ => none
   | some (.rows _ i ep' xs) => match B204 G t i, Nat.beq ep ep' with
    | true, true => B41 G xs.length lo hi fun l h => PK (.sub id ep l (h - l)) H
    | _, _ => none
   | _ => none) := by
 simp only [B182]
 cases getL H id with
 | none => rfl
 | some b => cases b <;> rfl
theorem B747 {H : List (Blk G.E.T)} {t : TypeId} {x : PV G.E.T} {lo hi : Option (PV G.E.T)} : Pures H x.ids fun H => B182 G H false t x lo hi PK := by
 have row : ∀ {id ep : Nat} {f : Option (Blk G.E.T) -> List (Blk G.E.T) -> Option (PV G.E.T × List (Blk G.E.T))}, (∀ b, Pures H [id] fun H => f b H) -> Pures H [id] fun H => f (getL H id) H := by
  intro id ep f hf p h' hh
  obtain ⟨h1, h2⟩ := hf (getL H id) p h' hh
  exact ⟨h1, fun H2 hs => by show f (getL H2 id) H2 = _; rw [hs id (by simp)]; exact h2 H2 hs⟩
 cases x
 case arr id ep =>
  refine Pures.congr ?_ fun H => B869
  refine row (ep := ep) (f := fun b H => match b with
   | some (.ints _ _ ep' xs) => match B203 G t, Nat.beq ep ep' with
    | true, true => B41 G xs.length lo hi fun l h => PK (.sub id ep l (h - l)) H
    | _, _ => none
   | some (.rows _ i ep' xs) => match B204 G t i, Nat.beq ep ep' with
    | true, true => B41 G xs.length lo hi fun l h => PK (.sub id ep l (h - l)) H
    | _, _ => none
   | _ => none) fun b => ?_
  split
  ·split
   ·exact B90 _
   ·exact .none
  ·split
   ·exact B90 _
   ·exact .none
  ·exact .none
 all_goals simp only [B182]
 case str s =>
  split
  ·exact B90 _
  ·exact .none
 case ints k xs =>
  split
  ·exact B90 _
  ·exact .none
 case rows i xs =>
  split
  ·exact B90 _
  ·exact .none
 case nilsl =>
  split
  ·split
   ·exact B90 _
   ·exact .none
  ·exact .none
 case sub id ep off len =>
  refine row (ep := ep) (f := fun b H => match b with
   | some (.ints _ _ ep' _) => match B203 G t, Nat.beq ep ep' with
    | true, true => B41 G len lo hi fun l h => PK (.sub id ep (off + l) (h - l)) H
    | _, _ => none
   | some (.rows _ i ep' _) => match B204 G t i, Nat.beq ep ep' with
    | true, true => B41 G len lo hi fun l h => PK (.sub id ep (off + l) (h - l)) H
    | _, _ => none
   | _ => none) fun b => ?_
  split
  ·split
   ·exact B90 _
   ·exact .none
  ·split
   ·exact B90 _
   ·exact .none
  ·exact .none
 all_goals exact .none
end
section
variable {G : Prg} {pl : Option Nat} {R : Type} {r : R}
theorem B467 {rec : Rec G} {i : Nat} {args : List (PV G.E.T)} {H : List (Blk G.E.T)} (hpb : (G.F i).sig.pb = []) (hrb : (G.F i).sig.bare = true)
  (hh : (G.F i).sig.holds G.E = false ∨ ∃ l cs, B51 (G.F i).sig.ps args [] [] H = some (l, cs) ∧ cs.lent = []) : Pures H (PV.idsL args) fun H => callV G rec i H args PK := by
 intro p h' hc
 have key : ∀ H2, Same (PV.idsL args) H H2 -> ∀ p h', callV G rec i H args PK = some (p, h') -> h' = H ∧ callV G rec i H2 args PK = some (p, H2) := by
  intro H2 hs p h' hc
  unfold callV at hc ⊢
  rw [hpb] at hc ⊢
  rw [B413 hs]
  split at hc
  ·cases hc
  ·cases hc
  ·rename_i a cs h1 h2
   simp only [h2]
   split at hc
   ·cases hc
   ·rename_i q hq
    have fin : ((rec i q).bind fun q => (G.F i).sig.get q fun a L => match rebTs (ρof (places H cs ([] : List BSh).length 0 H.length a.2)) a.1 L with
       | (vs, r) => PK (resV vs) (B32 (places H cs ([] : List BSh).length 0 H.length a.2) (rebBs (ρof (places H cs ([] : List BSh).length 0 H.length a.2)) 0 a.2 [] r) H)) = some (p, h') ->
      h' = H ∧ ((rec i q).bind fun q => (G.F i).sig.get q fun a L => match rebTs (ρof (places H2 cs ([] : List BSh).length 0 H2.length a.2)) a.1 L with
       | (vs, r) => PK (resV vs) (B32 (places H2 cs ([] : List BSh).length 0 H2.length a.2) (rebBs (ρof (places H2 cs ([] : List BSh).length 0 H2.length a.2)) 0 a.2 [] r) H2)) = some (p, H2) := by
     intro hc
     obtain ⟨q2, h3, h4⟩ := A34.1 hc
     rw [h3]
     rw [B237] at h4
     rw [A1, B237]
     have hb := B764 hrb _ (B262 (q := q2))
     change (outW q2).1.2 = [] at hb
     rw [hb] at h4 ⊢
     simp only [places, B32, PK, A16, A33] at h4 ⊢
     exact ⟨h4.2.symm, h4.1, trivial⟩
    rcases hh with hh | ⟨l, cs', hh1, hh2⟩
    ·rw [hh] at hc ⊢
     exact fin hc
    ·rw [h1] at hh1
     cases hh1
     rw [hh2] at hc ⊢
     revert hc
     cases (G.F i).sig.holds G.E
     ·exact fin
     ·exact fin
 exact ⟨(key H (fun _ _ => rfl) p h' hc).1, fun H2 hs => (key H2 hs p h' hc).2⟩
theorem B759 {rec : Rec G} {ann : Ann} {o : Oper} {σ : St G.E.T} {F : List Nat} (h : B38 G ann pl o σ = some (.pure F)) : Pures σ.heap F fun H => vop G rec ann pl o ⟨σ.env, H⟩ PK := by
 obtain ⟨dst, op, type, pos, after, guard⟩ := o
 obtain ⟨env, H⟩ := σ
 cases op <;> simp only [B38] at h <;> try (cases h; done)
 case alloc t => split at h <;> cases h
 case makeMap t res => split at h <;> cases h
 case makeSlice t l c => split at h <;> cases h
 case buildSlice t m ps =>
  split at h
  ·cases h
  ·split at h <;> cases h
 case move x => simp only [vop]; exact .some _
 case assign x => simp only [vop]; exact .some _
 case pick c a b =>
  simp only [vop]
  split
  ·split
   ·exact .some _
   ·exact .some _
  ·exact .none
 case binOp op t x y yt =>
  simp only [vop]
  exact (Pures.const _).congr fun H => B504 _
 case unOp op t x =>
  simp only [vop]
  exact (Pures.const _).congr fun H => B603 _
 case build t ps =>
  simp only [vop]
  exact (Pures.const _).congr fun H => B508 _
 case makeFunc fn first cs =>
  cases fn <;> simp only [vop] <;> try exact .none
  split
  ·exact .some _
  ·exact .none
 case nilCheck x =>
  simp only [vop]
  split <;> first | exact .some _ | exact .none
 case fieldAddr s x f =>
  simp only [vop]
  exact (Pures.const _).congr fun H => B275 _
 case field s x f =>
  simp only [vop]
  split
  ·split
   ·split
    ·exact .some _
    ·exact .none
   ·exact .none
  ·exact .none
 case index t x i =>
  simp only [vop]
  split
  ·split
   ·split
    ·exact .some _
    ·exact .none
   ·exact .none
  ·split
   ·split
    ·split
     ·split
      ·split
       ·exact .some _
       ·exact .none
      ·rename_i l _ _ _ _ _ _ e _ _ _ sz _ _ _ _
       refine (Pures.const (atIx _ _ fun j => (dropL (j * sz) l).bind fun l => packT G e l)).congr fun H => B408 fun j => ?_
       split
       ·rename_i h1; rw [h1, A1]; split
        ·rename_i h2; rw [h2]; rfl
        ·rename_i h2; rw [h2]; rfl
       ·rename_i h1; rw [h1]; rfl
     ·exact .none
    ·exact .none
   ·exact .none
  ·exact .none
 case extract x i =>
  simp only [vop]
  split
  ·split
   ·exact .some _
   ·exact .none
  ·exact .none
 case load t a =>
  cases h
  simp only [vop]
  exact (Pures.of (f := fun H => loadV G H t (eval env a) some) fun H2 hs => B851 hs _).congr fun H => B595 _
 case lookup t m k okb =>
  cases h
  simp only [vop]
  exact (Pures.of (f := fun H => B138 G H t (eval env m) (eval env k) okb some) fun H2 hs => B719 hs _).congr fun H => B424 _
 case indexAddr t x i =>
  cases h
  simp only [vop]
  exact (Pures.of (f := fun H => B88 G H t (eval env x) (eval env i) some) fun H2 hs => B546 hs _).congr fun H => B281 _
 case convert src dst x =>
  simp only [vop]
  split at h
  ·cases h
  ·rename_i hd
   cases h
   unfold B143
   split
   ·split
    ·exact .some _
    ·exact .none
   ·split
    ·exact .some _
    ·exact .none
   ·split
    ·refine (Pures.of (f := fun H => (B80 H .u8 (eval env x)).bind fun y => some (.str y.1)) fun H2 hs => by show (B80 H2 _ _).bind _ = _; rw [B313 hs]).congr fun H => ?_
     cases B80 H .u8 (eval env x) <;> rfl
    ·exact .none
   ·split
    ·split
     ·exact .some _
     ·exact .none
    ·exact .none
   ·rename_i e1 e2
    exact absurd e2 (hd _)
   ·rename_i e1 e2
    exact absurd e2 (hd _)
   ·exact .none
 case slice t x lo hi mx =>
  simp only [vop]
  split at h
  ·cases h
  ·rename_i hc
   cases h
   split
   ·exact .none
   ·rw [hc]; exact B747
 case call c =>
  obtain ⟨callee, args, argTypes⟩ := c
  cases callee with
  | invoke r m => cases h
  | value f =>
   simp only at h
   simp only [vop]
   split at h
   ·rename_i f' caps d e1
    split at h
    ·rename_i i e2
     try rw [e2]
     try simp only
     split
     ·split at h
      ·rename_i p1 p2 p3
       cases h
       exact B467 p1 p2 (.inl p3)
      ·split at h
       ·rename_i l cs p4
        split at h
        ·rename_i p1 p2 p5
         cases h
         rw [p1] at p4
         exact B467 p1 p2 (.inr ⟨l, cs, p4, p5⟩)
        ·cases h
        ·cases h
       ·cases h
     ·exact .none
    ·cases h
   ·cases h
  | builtin b =>
   cases b <;> simp only at h <;> try (cases h; done)
   case len =>
    simp only [vop]
    split at h
    ·rename_i x ha
     cases h
     split
     ·rename_i x' t tl ha' ht
      rw [ha] at ha'
      simp only [List.cons.injEq, A69] at ha'
      subst ha'
      exact (Pures.of (f := fun H => lenV G H t (eval env x) some) fun H2 hs => B914 hs _).congr fun H => B717 _
     ·exact .none
    ·cases h
   case append =>
    split at h <;> cases h
   case copy =>
    split at h <;> cases h
   case delete =>
    split at h <;> cases h
   case cap =>
    simp only [vop]
    split
    ·split
     ·exact .some _
     ·exact .none
    ·exact .none
   case max =>
    simp only [vop]
    split
    ·split
     ·exact .some _
     ·exact .none
    ·exact .none
   case min =>
    simp only [vop]
    split
    ·split
     ·exact .some _
     ·exact .none
    ·exact .none
def Stays (T : List Nat) (H H' : List (Blk G.E.T)) : Prop := ∀ id, id < H.length -> id ∉ T -> getL H' id = getL H id
theorem B56 {T : List Nat} {H : List (Blk G.E.T)} {b : Blk G.E.T} : Stays T H (H ++ [b]) := fun id h _ => B43 h
theorem B101 {T : List Nat} {H : List (Blk G.E.T)} : Stays T H H := fun _ _ _ => rfl
theorem B76 {T : List Nat} {H : List (Blk G.E.T)} {id : Nat} {b : Blk G.E.T} (h : id ∈ T) : Stays T H (setL H id b) := fun j _ hj => B10 fun e => hj (e ▸ h)
theorem Stays.trans {T : List Nat} {H H' H'' : List (Blk G.E.T)} (h : Stays T H H') (g : Stays T H' H'') (hl : H'.length = H.length) : Stays T H H'' := fun id h1 h2 => by rw [g id (by omega) h2, h id h1 h2]
theorem B670 {H H' : List (Blk G.E.T)} {p q : PV G.E.T} (h : B167 H p = some (q, H')) : Stays p.ids H H' ∧ H'.length = H.length := by
 unfold B167 at h
 split at h
 all_goals first
  | (cases h; exact ⟨B101, rfl⟩)
  | (split at h <;> first
    | (split at h <;> first | (cases h; exact ⟨B76 (by simp [PV.ids]), B118 ..⟩) | (cases h; exact ⟨B101, rfl⟩) | cases h)
    | cases h)
  | cases h
theorem B169 : ∀ {H H' : List (Blk G.E.T)} {l m : List (PV G.E.T)}, B54 H l = some (m, H') -> Stays (PV.idsL l) H H' ∧ H'.length = H.length
 | H, H', [], m, h => by simp only [B54] at h; cases h; exact ⟨B101, rfl⟩
 | H, H', p :: l, m, h => by
  simp only [B54] at h
  split at h
  ·rename_i v H1 h1
   split at h
   ·rename_i l' H2 h2
    cases h
    obtain ⟨a1, a2⟩ := B670 h1
    obtain ⟨b1, b2⟩ := B169 h2
    refine ⟨fun id hi hn => ?_, by omega⟩
    simp only [PV.idsL, A44, not_or] at hn
    rw [b1 id (by omega) hn.2, a1 id hi hn.1]
   ·cases h
  ·cases h
theorem B256 (p : PV G.E.T) : ∀ id, id ∈ PV.idsL (B21 p) -> id ∈ p.ids := by
 intro id h
 cases p <;> simp only [B21, PV.idsL, A38] at h <;> first | exact h | (simpa only [PV.ids] using h)
def B187 : List (Nat × PV G.E.T) -> List Nat
 | [] => []
 | (_, v) :: l => v.ids ++ B187 l
theorem B312 {env : List (Nat × PV G.E.T)} : ∀ ps : List (Nat × Operand), B187 (B91 env ps) = PV.idsL (evals env (B117 ps))
 | [] => rfl
 | (i, x) :: l => by simp only [B91, B187, B117, evals, PV.idsL]; rw [B312 l]
theorem B351 {i : Nat} : ∀ {n : Nat} {H H' : List (Blk G.E.T)} {l : List (Nat × PV G.E.T)} {xs : List (G.E.T i)}, B84 G i n H l = some (xs, H') -> Stays (B187 l) H H' ∧ H'.length = H.length
 | n, H, H', [], xs, h => by simp only [B84] at h; cases h; exact ⟨B101, rfl⟩
 | n, H, H', (j, v) :: l, xs, h => by
  simp only [B84] at h
  split at h
  ·split at h
   ·rename_i cells H1 h1
    split at h
    ·split at h
     ·rename_i r H2 h2
      cases h
      obtain ⟨a1, a2⟩ := B169 h1
      obtain ⟨b1, b2⟩ := B351 h2
      refine ⟨fun id hi hn => ?_, by omega⟩
      simp only [B187, A44, not_or] at hn
      rw [b1 id (by omega) hn.2, a1 id hi fun e => hn.1 (B256 v id e)]
     ·cases h
    ·cases h
   ·cases h
  ·cases h
theorem B553 : ∀ {l : List (Nat × Option Nat)} {j a : Nat}, lookB j l = some (some a) -> a ∈ olds l
 | [], j, a, h => by simp [lookB] at h
 | (u, v) :: r, j, a, h => by
  simp only [lookB] at h
  split at h
  ·cases h; simp [olds]
  ·have := B553 h
   cases v <;> simp [olds, this]
theorem B219 {id : Nat} : ∀ (ps : List (Nat × Nat)) (l H : List (Blk G.E.T)), (∀ p ∈ ps, p.1 ≠ id) -> id < H.length -> getL (B32 ps l H) id = getL H id
 | [], l, H, _, _ => by simp only [B32]
 | p :: ps, [], H, _, _ => by simp only [B32]
 | p :: ps, b :: l, H, h, hlt => by
  simp only [B32]
  split
  ·rw [B219 ps l _ (fun q hq => h q (A29 _ hq)) (by rw [B118]; exact hlt), B10 fun e => h p (A23 ..) e.symm]
  ·rw [B219 ps l _ (fun q hq => h q (A29 _ hq)) (by simp; omega), B43 hlt]
theorem B378 {heap : List (Blk G.E.T)} {cs : CS} {m : Nat} : ∀ (bs : List BSh) (j n : Nat) (p : Nat × Nat), p ∈ places heap cs m j n bs -> p.1 ∈ olds cs.bind ∨ n <= p.1
 | [], j, n, p, h => by simp [places] at h
 | b :: l, j, n, p, h => by
  simp only [places] at h
  split at h
  ·rename_i a h1 h2
   rcases A19.1 h with rfl | h
   ·refine .inl ?_
    have := B553 h2
    split <;> exact this
   ·exact B378 l _ _ p h
  ·rcases A19.1 h with rfl | h
   ·exact .inr (A11 _)
   ·exact (B378 l _ _ p h).imp id fun h => by omega
theorem B468 {rec : Rec G} {i : Nat} {H H' : List (Blk G.E.T)} {args : List (PV G.E.T)} {l : List (LV G.E.T)} {cs : CS} (hc : B51 (G.F i).sig.ps args (G.F i).sig.pb [] H = some (l, cs)) {p : PV G.E.T} (h : callV G rec i H args PK = some (p, H')) : Stays (olds cs.bind ++ cs.lent) H H' := by
 unfold callV at h
 rw [hc] at h
 split at h
 ·rename_i e; cases e
 ·cases h
 ·rename_i a cs' e1 e2
  cases e1
  split at h
  ·cases h
  ·split at h
   ·cases h
   ·rename_i heap' hh
    obtain ⟨q, hq, hK⟩ := A34.1 h
    rw [B237] at hK
    cases hK
    have hlen : heap'.length = H.length ∧ ∀ id, id ∉ cs.lent -> getL heap' id = getL H id := by
     split at hh
     ·have hf := B81 hh
      refine ⟨hf.len, fun id hn => ?_⟩
      cases hb : getL H id with
      | none =>
       have : H.length <= id := by
        rcases A85 id H.length with h1 | h1
        ·obtain ⟨b, hb'⟩ := B26 h1
         rw [hb] at hb'; cases hb'
        ·exact h1
       rw [B24, A65 (by rw [hf.len]; exact this)]
      | some b =>
       obtain ⟨b', h1, h2⟩ := hf.at_ id b hb
       rcases h2 with ⟨rfl, _⟩ | ⟨_, _, _, _, h3⟩
       ·exact h1
       ·exact absurd h3 hn
     ·cases hh; exact ⟨rfl, fun _ _ => rfl⟩
    intro id hlt hn
    rw [A44, not_or] at hn
    rw [B219 _ _ _ (fun p hp e => ?_) (by rw [hlen.1]; exact hlt), hlen.2 id hn.2]
    rcases B378 _ _ _ p hp with h1 | h1
    ·exact hn.1 (e ▸ h1)
    ·omega
theorem B937 {H : List (Blk G.E.T)} {p : PV G.E.T} : (subOf H p).ids = p.ids := by
 unfold subOf
 (repeat' split) <;> rfl
theorem B1085 {H H2 : List (Blk G.E.T)} {p : PV G.E.T} (h : Same p.ids H H2) : subOf H2 p = subOf H p := by
 cases p <;> simp only [subOf]
 rw [h _ (by simp [PV.ids])]
theorem B1057 {rec : Rec G} {ann : Ann} {o : Oper} {σ : St G.E.T} {T : List Nat} {n : Nat} (h : B38 G ann pl o σ = some (.eff T n)) {p : PV G.E.T} {H' : List (Blk G.E.T)} (hv : vop G rec ann pl o σ PK = some (p, H')) :
  n = σ.heap.length ∧ Stays T σ.heap H' := by
 obtain ⟨dst, op, type, pos, after, guard⟩ := o
 obtain ⟨env, H⟩ := σ
 cases op <;> simp only [B38] at h <;> try (cases h; done)
 case alloc t => split at h <;> cases h
 case makeMap t res => split at h <;> cases h
 case makeSlice t l c => split at h <;> cases h
 case buildSlice t m ps =>
  split at h
  rotate_left
  ·split at h <;> cases h
  cases h
  refine ⟨rfl, ?_⟩
  simp only [vop] at hv
  unfold B73 at hv
  split at hv
  ·split at hv
   ·split at hv
    ·split at hv
     ·cases hv; exact B56
     ·cases hv
    ·cases hv
   ·split at hv
    ·rename_i xs H1 h1
     split at hv
     ·cases hv
      obtain ⟨a1, a2⟩ := B351 h1
      rw [B312] at a1
      intro id hi hn
      simp only [plPut]
      rw [B43 (by simp only at hi; omega), a1 id hi hn]
     ·cases hv
    ·cases hv
   ·cases hv
  ·cases hv
 case store t a x =>
  cases h
  refine ⟨rfl, ?_⟩
  simp only [vop] at hv
  unfold B156 at hv
  split at hv
  ·cases hv
  ·split at hv
   ·cases hv
   ·cases hv
   ·split at hv
    ·rename_i id off e
     split at hv
     ·split at hv
      ·cases hv
       exact B76 (by rw [e]; simp [B292])
      ·cases hv
     ·cases hv
    ·rename_i id ep i fld e
     have hid : id ∈ B292 (eval env a) (eval env x) := by rw [e]; simp [B292, PV.ids]
     split at hv
     ·split at hv
      ·split at hv
       ·cases hv; exact B76 hid
       ·cases hv
      ·cases hv
     ·split at hv
      ·rename_i cells H1 hfr
       obtain ⟨a1, a2⟩ := B169 hfr
       split at hv
       ·split at hv
        ·obtain ⟨y, hy, hv⟩ := A34.1 hv
         split at hv
         ·split at hv
          ·cases hv
           refine Stays.trans (fun j hj hn => a1 j hj fun e' => hn (by rw [e]; exact A70 _ (B256 _ j e'))) (B76 hid) a2
          ·cases hv
         ·cases hv
        ·cases hv
       ·cases hv
      ·cases hv
     ·cases hv
    ·rename_i id off n i e
     split at hv
     ·split at hv
      ·split at hv
       ·split at hv
        ·cases hv
         exact B76 (by rw [e]; simp [B292])
        ·cases hv
       ·cases hv
      ·cases hv
     ·cases hv
    ·cases hv
 case mapUpdate t m k x =>
  cases h
  refine ⟨rfl, ?_⟩
  simp only [vop] at hv
  unfold B220 at hv
  split at hv
  ·rename_i id e
   have hid : id ∈ (eval env m).ids ++ (eval env x).ids := by rw [e]; simp [PV.ids]
   split at hv
   ·split at hv
    ·cases hv; exact B101
    ·cases hv
   ·split at hv
    ·rename_i cells H1 _ hfr
     obtain ⟨a1, a2⟩ := B169 hfr
     split at hv
     ·split at hv
      ·cases hv
       refine Stays.trans (fun j hj hn => a1 j hj fun e' => hn (A70 _ (B256 _ j e'))) (B76 hid) a2
      ·cases hv
     ·cases hv
    ·cases hv
   ·cases hv
  ·cases hv
 case convert src dst x =>
  split at h
  ·cases h
   refine ⟨rfl, ?_⟩
   simp only [vop] at hv
   unfold B143 at hv
   split at hv
   ·split at hv <;> cases hv; exact B101
   ·split at hv <;> cases hv; exact B101
   ·split at hv
    ·split at hv <;> cases hv; exact B101
    ·cases hv
   ·split at hv
    ·split at hv <;> cases hv; exact B101
    ·cases hv
   ·split at hv
    ·cases hv; exact B56
    ·cases hv
   ·split at hv
    ·rename_i id ep _ _ e
     split at hv
     ·split at hv
      ·split at hv
       ·cases hv; exact B76 (by rw [e]; simp [PV.ids])
       ·cases hv
      ·cases hv
     ·cases hv
    ·cases hv
   ·cases hv
  ·cases h
 case slice t x lo hi mx => split at h <;> cases h
 case call c =>
  obtain ⟨callee, args, argTypes⟩ := c
  cases callee with
  | invoke r m => cases h
  | value f =>
   simp only at h
   split at h
   ·rename_i f' caps d e1
    split at h
    ·rename_i i e2
     split at h
     ·cases h
     ·split at h
      ·rename_i l cs p4
       split at h
       ·cases h
       ·cases h
       ·cases h
        refine ⟨rfl, ?_⟩
        simp only [vop] at hv
        rw [e1] at hv
        simp only at hv
        split at hv
        ·rename_i i' e3
         rw [e2] at e3; cases e3
         split at hv
         ·exact B468 p4 hv
         ·cases hv
        ·rename_i e3
         rw [e2] at e3; cases e3
      ·cases h
    ·cases h
   ·cases h
  | builtin b =>
   cases b <;> simp only at h <;> try (cases h; done)
   case len => split at h <;> cases h
   case append => split at h <;> cases h
   case delete =>
    split at h
    ·rename_i m k ha
     cases h
     refine ⟨rfl, ?_⟩
     simp only [vop] at hv
     rw [ha] at hv
     split at hv
     ·rename_i m' k' t tl ha' ht
      simp only [List.cons.injEq, A69] at ha'
      obtain ⟨rfl, rfl⟩ := ha'
      unfold B214 at hv
      split at hv
      ·rename_i id e
       split at hv
       ·split at hv
        ·cases hv
         exact B76 (by rw [e]; simp [PV.ids])
        ·cases hv
       ·cases hv
      ·cases hv
     ·cases hv
    ·cases h
   case copy =>
    split at h
    ·rename_i s x ha
     cases h
     refine ⟨rfl, ?_⟩
     simp only [vop] at hv
     rw [ha] at hv
     split at hv
     ·rename_i s' x' t tx ha' ht
      simp only [List.cons.injEq, A69] at ha'
      obtain ⟨rfl, rfl⟩ := ha'
      unfold copyV at hv
      split at hv
      ·cases hv
      ·split at hv
       ·split at hv
        ·rename_i ys l id ep off len e1 e2
         split at hv
         ·split at hv
          ·cases hv
           exact B76 (by rw [← B937 (H := H), e2]; simp [PV.ids])
          ·cases hv
         ·cases hv
        ·cases hv
       ·cases hv
     ·cases hv
    ·cases h
def B119 (T : List Nat) (n : Nat) (H' H2 H2' : List (Blk G.E.T)) : Prop := ∀ id, getL H2' id = if id ∈ T ∨ n <= id then getL H' id else getL H2 id
theorem B100 {α : Type} {l m : List α} {i : Nat} (h : l.length <= i) : getL (l ++ m) i = getL m (i - l.length) := by
 rw [B24, B24, A48 h]
theorem B68 {T : List Nat} {H H2 : List (Blk G.E.T)} {b : Blk G.E.T} (hl : H2.length = H.length) (hT : Same T H H2) (hlt : ∀ id ∈ T, id < H.length) : B119 T H.length (H ++ [b]) H2 (H2 ++ [b]) := by
 intro id
 by_cases h1 : H.length <= id
 ·rw [A3 (.inr h1), B100 h1, B100 (by omega), hl]
 ·rw [B43 (by omega)]
  split
  ·rename_i h2
   rcases h2 with h2 | h2
   ·rw [B43 (by omega), hT id h2]
   ·omega
  ·rfl
theorem B478 {T : List Nat} {H H2 : List (Blk G.E.T)} {i : Nat} {b : Blk G.E.T} (hl : H2.length = H.length) (hT : Same T H H2) (hi : i ∈ T) {b0 : Blk G.E.T} (hb0 : getL H i = some b0) : B119 T H.length (setL H i b) H2 (setL H2 i b) := by
 intro id
 by_cases e : id = i
 ·subst e
  rw [A3 (.inl hi), B13 hb0, B13 (by rw [hT id hi]; exact hb0)]
 ·rw [B10 e, B10 e]
  split
  ·rename_i h2
   rcases h2 with h2 | h2
   ·rw [hT id h2]
   ·rw [B301 h2, B301 (by omega)]
  ·rfl
theorem B186 : ∀ {l : List Nat} {H H' H2 : List (Blk G.E.T)}, B39 H l = some H' -> Same l H H2 -> ∃ H2', B39 H2 l = some H2' ∧ H2'.length = H2.length ∧ H'.length = H.length ∧ ∀ id, getL H2' id = if id ∈ l then getL H' id else getL H2 id
 | [], H, H', H2, h, hs => by
  simp only [B39] at h; cases h
  exact ⟨H2, rfl, rfl, rfl, fun id => by simp⟩
 | i :: l, H, H', H2, h, hs => by
  have hi := hs i (A23 ..)
  have same : ∀ {b b0 : Blk G.E.T}, getL H i = some b0 -> Same l (setL H i b) (setL H2 i b) := by
   intro b b0 hb0 id hid
   by_cases e : id = i
   ·subst e; rw [B13 hb0, B13 (by rw [hi]; exact hb0)]
   ·rw [B10 e, B10 e]; exact hs id (A29 _ hid)
  have fin : ∀ {b b0 : Blk G.E.T}, getL H i = some b0 -> B39 (setL H i b) l = some H' -> ∃ H2', B39 (setL H2 i b) l = some H2' ∧ H2'.length = H2.length ∧ H'.length = H.length ∧ ∀ id, getL H2' id = if id ∈ i :: l then getL H' id else getL H2 id := by
   intro b b0 hb0 h
   obtain ⟨H2', q1, q2, q3, q4⟩ := B186 h (same hb0)
   have hf := (B81 h).at_ i b (B13 hb0)
   refine ⟨H2', q1, by rw [q2, B118], by rw [q3, B118], fun id => ?_⟩
   rw [q4 id]
   by_cases e : id ∈ l
   ·rw [A3 e, A3 (A29 _ e)]
   ·rw [A7 e]
    by_cases e' : id = i
    ·subst e'
     rw [A3 (A23 ..), B13 (by rw [hi]; exact hb0)]
     obtain ⟨b', g1, g2⟩ := hf
     rcases g2 with ⟨rfl, _⟩ | ⟨_, _, _, _, g3⟩
     ·exact g1.symm
     ·exact absurd g3 e
    ·rw [A7 (by simp [e, e']), B10 e']
  have keep : ∀ {b0 : Blk G.E.T}, getL H i = some b0 -> B39 H l = some H' -> b0.frozen = true -> ∃ H2', B39 H2 l = some H2' ∧ H2'.length = H2.length ∧ H'.length = H.length ∧ ∀ id, getL H2' id = if id ∈ i :: l then getL H' id else getL H2 id := by
   intro b0 hb0 h hfr
   obtain ⟨H2', q1, q2, q3, q4⟩ := B186 h (fun id hid => hs id (A29 _ hid))
   have hf := (B81 h).at_ i b0 hb0
   refine ⟨H2', q1, q2, q3, fun id => ?_⟩
   rw [q4 id]
   by_cases e : id ∈ l
   ·rw [A3 e, A3 (A29 _ e)]
   ·rw [A7 e]
    by_cases e' : id = i
    ·subst e'
     rw [A3 (A23 ..), hi, hb0]
     obtain ⟨b', g1, g2⟩ := hf
     rcases g2 with ⟨rfl, _⟩ | ⟨_, _, _, _, g3⟩
     ·exact g1.symm
     ·exact absurd g3 e
    ·rw [A7 (by simp [e, e'])]
  simp only [B39] at h ⊢
  rw [hi]
  split at h
  ·rename_i hb; exact fin hb h
  ·rename_i hb; exact fin hb h
  ·rename_i hb; exact keep hb h rfl
  ·rename_i hb; exact keep hb h rfl
  ·cases h
theorem B564 {H : List (Blk G.E.T)} {cs : CS} : ∀ (bs : List BSh) (j n : Nat), places H cs 0 j n bs = (List.range bs.length).map fun q => (n + q, 0)
 | [], j, n => rfl
 | b :: l, j, n => by
  have : Nat.blt j 0 = false := by
   rcases hq : Nat.blt j 0 with _ | _
   ·rfl
   ·have := B94.1 hq; omega
  simp only [places, this]
  rw [B564 l, A21, List.range_succ_eq_map, A53, List.map_map]
  simp only [A36, List.cons.injEq, A15]
  refine A129 fun q _ => ?_
  simp only [Function.comp, A33, A69]
  omega
theorem B280 : ∀ (l H : List (Blk G.E.T)) (m : Nat), l.length = m -> B32 ((List.range m).map fun q => (H.length + q, 0)) l H = H ++ l
 | [], H, m, h => by subst h; simp [B32]
 | b :: l, H, m, h => by
  subst h
  rw [A21, List.range_succ_eq_map, A53, List.map_map]
  simp only [B32, A36]
  have : Nat.blt H.length H.length = false := by
   rcases hq : Nat.blt H.length H.length with _ | _
   ·rfl
   ·have := B94.1 hq; omega
  rw [this]
  simp only
  have := B280 l (H ++ [b]) l.length rfl
  rw [A27, List.singleton_append] at this
  rw [← this]
  congr 1
  refine A129 fun q _ => ?_
  simp only [Function.comp, A33, A69, A13, A26]
  omega
theorem B694 {rec : Rec G} {i : Nat} {H H' H2 : List (Blk G.E.T)} {args : List (PV G.E.T)} (hpb : (G.F i).sig.pb = []) {l : List (LV G.E.T)} {cs : CS} (hc : B51 (G.F i).sig.ps args (G.F i).sig.pb [] H = some (l, cs)) {p : PV G.E.T} (h : callV G rec i H args PK = some (p, H'))
  (hl : H2.length = H.length) (hF : Same (PV.idsL args) H H2) (hT : Same (olds cs.bind ++ cs.lent) H H2) : ∃ H2', callV G rec i H2 args PK = some (p, H2') ∧ B119 (olds cs.bind ++ cs.lent) H.length H' H2 H2' := by
 have hc2 : B51 (G.F i).sig.ps args (G.F i).sig.pb [] H2 = some (l, cs) := by rw [hpb] at hc ⊢; rw [B413 hF]; exact hc
 unfold callV at h ⊢
 rw [hc] at h
 rw [hc2]
 split at h
 ·rename_i e; cases e
 ·cases h
 ·rename_i a cs' e1 e2
  cases e1
  try rw [e2]
  try simp only
  split at h
  ·cases h
  ·rename_i q0 hq0
   try simp only
   split at h
   ·cases h
   ·rename_i heap' hh
    obtain ⟨q, hq, hK⟩ := A34.1 h
    rw [B237] at hK
    have fin : ∀ heap2 : List (Blk G.E.T), heap2.length = H2.length -> heap'.length = H.length -> (∀ id, getL heap2 id = if id ∈ cs.lent then getL heap' id else getL H2 id) -> (∀ id, id ∉ cs.lent -> getL heap' id = getL H id) ->
      ∃ H2', ((rec i q0).bind fun q => (G.F i).sig.get q fun a L => PK (resV (rebTs (ρof (places H2 cs (G.F i).sig.pb.length 0 H2.length a.2)) a.1 L).1)
       (B32 (places H2 cs (G.F i).sig.pb.length 0 H2.length a.2) (rebBs (ρof (places H2 cs (G.F i).sig.pb.length 0 H2.length a.2)) 0 a.2 [] (rebTs (ρof (places H2 cs (G.F i).sig.pb.length 0 H2.length a.2)) a.1 L).2) heap2)) = some (p, H2') ∧
      B119 (olds cs.bind ++ cs.lent) H.length H' H2 H2' := by
     intro heap2 g2 g3 g4 g5
     rw [hq, A1, B237]
     have hm : (G.F i).sig.pb.length = 0 := by rw [hpb]; rfl
     rw [hm] at hK ⊢
     simp only [B564] at hK ⊢
     rw [hl]
     have e0 : H.length = heap'.length := g3.symm
     rw [e0] at hK ⊢
     cases hK
     refine ⟨_, rfl, fun id => ?_⟩
     rw [B280 _ heap' _ (B93 ..)]
     have e3 : ∀ bl : List (Blk G.E.T), B32 ((List.range (outW q).1.2.length).map fun q => (heap'.length + q, 0)) bl heap2 = B32 ((List.range (outW q).1.2.length).map fun q => (heap2.length + q, 0)) bl heap2 := fun bl => by rw [show heap'.length = heap2.length by omega]
     rw [e3, B280 _ heap2 _ (B93 ..)]
     by_cases h1 : heap'.length <= id
     ·rw [A3 (.inr h1), B100 h1, B100 (by omega), show heap'.length = heap2.length by omega]
     ·rw [B43 (by omega), B43 (by omega), g4 id]
      by_cases h2 : id ∈ cs.lent
      ·rw [A3 h2, A3 (.inl (A70 _ h2))]
      ·rw [A7 h2]
       split
       ·rename_i h3
        rcases h3 with h3 | h3
        ·rw [A44] at h3
         rw [hT id (A90 _ (h3.resolve_right h2)), g5 id h2]
        ·omega
       ·rfl
    cases hb : (G.F i).sig.holds G.E with
    | true =>
     rw [hb] at hh
     simp only at hh ⊢
     obtain ⟨H3, q1, q2, q3, q4⟩ := B186 hh (fun id hid => hT id (A70 _ hid))
     rw [q1]
     refine fin H3 q2 q3 q4 fun id hn => ?_
     obtain ⟨_, q5⟩ := B81 hh
     cases hb : getL H id with
     | none =>
      have : H.length <= id := by
       rcases A85 id H.length with h1 | h1
       ·obtain ⟨b, hb'⟩ := B26 h1
        rw [hb] at hb'; cases hb'
       ·exact h1
      rw [B301 (by omega)]
     | some b =>
      obtain ⟨b', r1, r2⟩ := q5 id b hb
      rcases r2 with ⟨rfl, _⟩ | ⟨_, _, _, _, r3⟩
      ·exact r1
      ·exact absurd r3 hn
    | false =>
     rw [hb] at hh
     simp only at hh ⊢
     cases hh
     refine fin H2 rfl rfl (fun id => ?_) fun _ _ => rfl
     split
     ·rename_i e'; exact hT id (A70 _ e')
     ·rfl
theorem B674 {H H2 : List (Blk G.E.T)} {k : IntKind} {x : PV G.E.T} (h : Same x.ids H H2) : B221 H2 k x = B221 H k x := by
 unfold B221
 split
 ·rfl
 ·rw [B313 h]
theorem B584 {t : TypeId} {s x : PV G.E.T} {H H' : List (Blk G.E.T)} {p : PV G.E.T} (h : B163 G H t s x PK = some (p, H')) :
  Stays s.ids H H' ∧ ∀ H2 : List (Blk G.E.T), H2.length = H.length -> Same s.ids H H2 -> ∃ H2', B163 G H2 t s x PK = some (p, H2') ∧ B119 s.ids H.length H' H2 H2' := by
 unfold B163 at h ⊢
 split at h
 ·cases h
 ·split at h
  ·split at h
   ·split at h
    ·rename_i hc
     cases h
     refine ⟨B56, fun H2 hl hs => ⟨_, ?_, B68 hl hs (fun id h => by simp [PV.ids] at h)⟩⟩
     (try simp only); rw [A3 hc, hl]; try rfl
    ·cases h
   ·cases h
  ·cases h
theorem B162 {t : TypeId} {s x : PV G.E.T} {H H' H2 : List (Blk G.E.T)} {p : PV G.E.T} (h : B137 G H t s x PK = some (p, H')) (hl : H2.length = H.length) (hs : Same s.ids H H2) (hx : Same x.ids H H2) :
  Stays s.ids H H' ∧ ∃ H2', B137 G H2 t s x PK = some (p, H2') ∧ B119 s.ids H.length H' H2 H2' := by
 unfold B137 at h ⊢
 split at h
 ·cases h
 ·rename_i e he
  split at h
  ·rename_i b k hb hk
   try simp only
   rw [B674 hx]
   split at h
   ·cases h
   ·rename_i ys hy
    try simp only
    split at h
    ·split at h
     ·rename_i hc
      cases h
      refine ⟨B56, _, ?_, B68 hl hs (fun id h => by simp [PV.ids] at h)⟩
      (try simp only); rw [A3 hc, hl]; try rfl
     ·cases h
    ·rename_i id ep
     split at h
     ·rename_i k' ep' xs hg
      split at h
      ·rename_i h1 h2
       split at h
       ·rename_i hc
        cases h
        have hid : id ∈ (PV.arr (T := G.E.T) id ep).ids := by simp [PV.ids]
        refine ⟨B76 hid, _, ?_, B478 hl hs hid hg⟩
        try simp only
        rw [hs id hid, hg]
        try simp only
        rw [h1, h2]
        try simp only
        rw [A3 hc]; try rfl
       ·cases h
      ·cases h
     ·cases h
    ·cases h
  ·rename_i b i hb hi
   try simp only
   rw [B490 hx]
   split at h
   ·cases h
   ·rename_i ys _ hy
    try simp only
    split at h
    ·split at h
     ·rename_i hc
      cases h
      refine ⟨B56, _, ?_, B68 hl hs (fun id h => by simp [PV.ids] at h)⟩
      (try simp only); rw [A3 hc, hl]; try rfl
     ·cases h
    ·rename_i id ep
     split at h
     ·rename_i j ep' xs hg
      split at h
      ·rename_i h1
       split at h
       ·rename_i hji
        split at h
        ·rename_i hc
         cases h
         have hid : id ∈ (PV.arr (T := G.E.T) id ep).ids := by simp [PV.ids]
         refine ⟨B76 hid, _, ?_, B478 hl hs hid hg⟩
         try simp only
         rw [hs id hid, hg]
         try simp only
         rw [h1]
         try simp only
         rw [dif_pos hji, A3 hc]; try rfl
        ·cases h
       ·cases h
      ·cases h
     ·cases h
    ·cases h
  ·cases h
theorem B758 {rec : Rec G} {ann : Ann} {o : Oper} {env : List (Nat × PV G.E.T)} {H : List (Blk G.E.T)} {F T : List Nat} {n : Nat} (h : B38 G ann pl o ⟨env, H⟩ = some (.effp F T n)) {p : PV G.E.T} {H' : List (Blk G.E.T)} (hv : vop G rec ann pl o ⟨env, H⟩ PK = some (p, H')) :
  n = H.length ∧ Stays T H H' ∧ ∀ H2, H2.length = H.length -> Same F H H2 -> Same T H H2 -> ∃ H2', vop G rec ann pl o ⟨env, H2⟩ PK = some (p, H2') ∧ B119 T n H' H2 H2' := by
 obtain ⟨dst, op, type, pos, after, guard⟩ := o
 cases op <;> simp only [B38] at h <;> try (cases h; done)
 case alloc t =>
  split at h <;> cases h
  simp only [vop] at hv
  split at hv
  ·rename_i z hz hpl
   cases hv
   refine ⟨rfl, B56, fun H2 hl hF hT => ⟨H2 ++ [B406 z 0], ?_, ?_⟩⟩
   ·simp only [vop]
    rw [hz]
    simp only [plOk, plId, plPut, plEp, PK, hl]
   ·show B119 [] H.length (H ++ [B406 z 0]) H2 (H2 ++ [B406 z 0])
    exact B68 hl hT (fun id h => by cases h)
  ·cases hv
 case box t x =>
  cases h
  simp only [vop] at hv
  split at hv
  ·rename_i hall
   cases hv
   refine ⟨rfl, B56, fun H2 hl hF hT => ⟨H2 ++ [.box .own (B21 (eval env x))], ?_, ?_⟩⟩
   ·simp only [vop]
    rw [hall]
    simp only [PK, hl]
   ·show B119 [] H.length (H ++ [.box .own (B21 (eval env x))]) H2 (H2 ++ [.box .own (B21 (eval env x))])
    exact B68 hl hT (fun id h => by cases h)
  ·cases hv
 case makeMap t res =>
  split at h <;> cases h
  cases res with
  | some _ => simp only [vop] at hv; cases hv
  | none =>
   simp only [vop] at hv
   unfold B97 at hv
   split at hv
   ·rename_i k e h1
    split at hv
    ·rename_i k' h2 hpl
     split at hv
     ·rename_i k3 e1 e2
      cases hv
      refine ⟨rfl, B56, fun H2 hl hF hT => ⟨H2 ++ [.mp .own k3], ?_, ?_⟩⟩
      ·simp only [vop, B97, h1, h2, e1, e2, plOk, plId, plPut, PK, hl]
      ·show B119 [] H.length (H ++ [.mp .own k3]) H2 (H2 ++ [.mp .own k3])
       exact B68 hl hT (fun id h => by cases h)
     ·rename_i i k3 e1 e2
      cases hv
      refine ⟨rfl, B56, fun H2 hl hF hT => ⟨H2 ++ [.mpr .own k3 i []], ?_, ?_⟩⟩
      ·simp only [vop, B97, h1, h2, e1, e2, plOk, plId, plPut, PK, hl]
      ·show B119 [] H.length (H ++ [.mpr .own k3 i []]) H2 (H2 ++ [.mpr .own k3 i []])
       exact B68 hl hT (fun id h => by cases h)
     ·cases hv
    ·cases hv
   ·cases hv
 case makeSlice t l c =>
  split at h <;> cases h
  simp only [vop] at hv
  unfold B69 at hv
  split at hv
  ·rename_i _ e l' c' h1 h2 h3 h4
   split at hv
   ·rename_i b k h5 h6
    split at hv
    ·rename_i hc
     cases hv
     refine ⟨rfl, B56, fun H2 hl hF hT => ⟨H2 ++ [.ints .own k 0 (List.replicate l'.toNat 0)], ?_, ?_⟩⟩
     ·simp only [vop, B69, h1, h2, h3, h5, h6, plOk, plId, plPut, plEp, PK, hc, hl, A31, A6]
     ·show B119 [] H.length (H ++ [.ints .own k 0 (List.replicate l'.toNat 0)]) H2 (H2 ++ [.ints .own k 0 (List.replicate l'.toNat 0)])
      exact B68 hl hT (fun id h => by cases h)
    ·cases hv
   ·rename_i b i h5 h6
    split at hv
    ·rename_i z h7
     split at hv
     ·rename_i x h8
      split at hv
      ·rename_i hc
       cases hv
       refine ⟨rfl, B56, fun H2 hl hF hT => ⟨H2 ++ [.rows .own i 0 (List.replicate l'.toNat x)], ?_, ?_⟩⟩
       ·simp only [vop, B69, h1, h2, h3, h5, h6, h7, h8, plOk, plId, plPut, plEp, PK, hc, hl, A31, A6]
       ·show B119 [] H.length (H ++ [.rows .own i 0 (List.replicate l'.toNat x)]) H2 (H2 ++ [.rows .own i 0 (List.replicate l'.toNat x)])
        exact B68 hl hT (fun id h => by cases h)
      ·cases hv
     ·cases hv
    ·cases hv
   ·cases hv
  ·cases hv
 case buildSlice t m ps =>
  split at h
  ·cases h
  ·split at h <;> cases h
 case convert src dst x => split at h <;> cases h
 case slice t x lo hi mx => split at h <;> cases h
 case call c =>
  obtain ⟨callee, args, argTypes⟩ := c
  cases callee with
  | invoke r m => cases h
  | value f =>
   simp only at h
   split at h
   ·rename_i f' caps d e1
    split at h
    ·rename_i i e2
     split at h
     ·cases h
     ·split at h
      ·rename_i l cs p4
       split at h
       ·cases h
       ·rename_i hpb _
        cases h
        simp only [vop] at hv
        rw [e1] at hv
        simp only at hv
        split at hv
        ·rename_i i' e3
         rw [e2] at e3; cases e3
         split at hv
         ·rename_i hfid
          refine ⟨rfl, B468 p4 hv, fun H2 hl hF hT => ?_⟩
          obtain ⟨H2', q1, q2⟩ := B694 hpb p4 hv hl hF hT
          refine ⟨H2', ?_, q2⟩
          simp only [vop, e1, e2, hfid]
          exact q1
         ·cases hv
        ·rename_i e3
         rw [e2] at e3; cases e3
       ·cases h
      ·cases h
    ·cases h
   ·cases h
  | builtin b =>
   cases b <;> simp only at h <;> try (cases h; done)
   case len => split at h <;> cases h
   case delete => split at h <;> cases h
   case copy => split at h <;> cases h
   case append =>
    split at h
    ·rename_i s x ha
     cases h
     simp only [vop] at hv
     split at hv
     ·rename_i s' x' t tx ha' ht
      rw [ha] at ha'
      simp only [List.cons.injEq, A69] at ha'
      obtain ⟨rfl, rfl⟩ := ha'
      split at hv
      ·rename_i e h1
       refine ⟨rfl, (B162 hv rfl (fun _ _ => rfl) (fun _ _ => rfl)).1, fun H2 hl hF hT => ?_⟩
       obtain ⟨H2', q1, q2⟩ := (B162 hv hl hT (fun id hid => hF id (A70 _ hid))).2
       exact ⟨H2', by simp only [vop, ha, ht, h1]; exact q1, q2⟩
      ·rename_i h1
       refine ⟨rfl, (B162 hv rfl (fun _ _ => rfl) (fun _ _ => rfl)).1, fun H2 hl hF hT => ?_⟩
       obtain ⟨H2', q1, q2⟩ := (B162 hv hl hT (fun id hid => hF id (A70 _ hid))).2
       exact ⟨H2', by simp only [vop, ha, ht, h1]; exact q1, q2⟩
      ·rename_i k h1
       have e0 : (fun (p : PV G.E.T) (h : List (Blk G.E.T)) => PK p h) = PK := rfl
       obtain ⟨q0, q1⟩ := B584 hv
       refine ⟨rfl, q0, fun H2 hl hF hT => ?_⟩
       obtain ⟨H2', q2, q3⟩ := q1 H2 hl hT
       exact ⟨H2', by simp only [vop, ha, ht, h1]; exact q2, q3⟩
      ·cases hv
     ·cases hv
    ·cases h
theorem B668 {p q : PV G.E.T} {H H' : List (Blk G.E.T)} (h : B167 H p = some (q, H')) (hi : p.ids = []) : H' = H ∧ ∀ H2 : List (Blk G.E.T), B167 H2 p = some (q, H2) := by
 cases p <;> simp only [PV.ids] at hi <;> try (cases hi; done)
 all_goals simp only [B167] at h ⊢
 all_goals first
  | (cases h; exact ⟨rfl, fun _ => rfl⟩)
  | cases h
theorem B341 : ∀ {l m : List (PV G.E.T)} {H H' : List (Blk G.E.T)}, B54 H l = some (m, H') -> PV.idsL l = [] -> H' = H ∧ ∀ H2 : List (Blk G.E.T), B54 H2 l = some (m, H2)
 | [], m, H, H', h, _ => by simp only [B54] at h ⊢; cases h; exact ⟨rfl, fun _ => rfl⟩
 | p :: l, m, H, H', h, hi => by
  simp only [PV.idsL, List.append_eq_nil_iff] at hi
  simp only [B54] at h
  split at h
  ·rename_i v H1 h1
   split at h
   ·rename_i l' H2 h2
    cases h
    obtain ⟨rfl, g1⟩ := B668 h1 hi.1
    obtain ⟨rfl, g2⟩ := B341 h2 hi.2
    refine ⟨rfl, fun H3 => ?_⟩
    simp only [B54]
    rw [g1]; simp only; rw [g2]
   ·cases h
  ·cases h
theorem B349 {i : Nat} : ∀ {l : List (Nat × PV G.E.T)} {n : Nat} {xs : List (G.E.T i)} {H H' : List (Blk G.E.T)}, B84 G i n H l = some (xs, H') -> B187 l = [] -> H' = H ∧ ∀ H2, B84 G i n H2 l = some (xs, H2)
 | [], n, xs, H, H', h, _ => by simp only [B84] at h ⊢; cases h; exact ⟨rfl, fun _ => rfl⟩
 | (j, v) :: l, n, xs, H, H', h, hi => by
  simp only [B187, List.append_eq_nil_iff] at hi
  simp only [B84] at h
  split at h
  ·rename_i hj
   split at h
   ·rename_i cells H1 h1
    split at h
    ·rename_i x hx
     split at h
     ·rename_i r H2 h2
      cases h
      have hv : PV.idsL (B21 v) = [] := by
       rcases hq : PV.idsL (B21 v) with _ | ⟨a, _⟩
       ·rfl
       ·have := B256 v a (by rw [hq]; exact A23 ..)
        rw [hi.1] at this; cases this
      obtain ⟨rfl, g1⟩ := B341 h1 hv
      obtain ⟨rfl, g2⟩ := B349 h2 hi.2
      refine ⟨rfl, fun H3 => ?_⟩
      simp only [B84]
      rw [hj]; simp only; rw [g1]; simp only; rw [hx]; simp only; rw [g2]
     ·cases h
    ·cases h
   ·cases h
  ·cases h
theorem B154 {s : Nat} {H : List (Blk G.E.T)} (h : plOk (some s) H = true) : ∃ b, getL H s = some b := by
 simp only [plOk] at h
 split at h
 ·rename_i e; exact ⟨_, e⟩
 ·cases h
theorem B153 {s : Nat} {H H2 : List (Blk G.E.T)} (h : plOk (some s) H = true) (hs : getL H2 s = getL H s) : plOk (some s) H2 = true := by
 simp only [plOk] at h ⊢
 rw [hs]; exact h
theorem B760 {rec : Rec G} {ann : Ann} {o : Oper} {env : List (Nat × PV G.E.T)} {H : List (Blk G.E.T)} {s : Nat} (h : B38 G ann pl o ⟨env, H⟩ = some (.slot s)) {p : PV G.E.T} {H' : List (Blk G.E.T)} (hv : vop G rec ann pl o ⟨env, H⟩ PK = some (p, H')) :
  (∃ b0, getL H s = some b0) ∧ ∃ b, H' = setL H s b ∧ ∀ H2, getL H2 s = getL H s -> vop G rec ann pl o ⟨env, H2⟩ PK = some (p, setL H2 s b) := by
 obtain ⟨dst, op, type, pos, after, guard⟩ := o
 cases op <;> simp only [B38] at h <;> try (cases h; done)
 case alloc t =>
  split at h <;> cases h
  simp only [vop] at hv
  split at hv
  ·rename_i z hz hpl
   cases hv
   refine ⟨B154 hpl, _, rfl, fun H2 hs => ?_⟩
   simp only [vop, hz, B153 hpl hs]; rfl
  ·cases hv
 case makeMap t res =>
  split at h <;> cases h
  cases res with
  | some _ => simp only [vop] at hv; cases hv
  | none =>
   simp only [vop] at hv
   unfold B97 at hv
   split at hv
   ·rename_i k e h1
    split at hv
    ·rename_i k' h2 hpl
     split at hv
     ·rename_i k3 e1 e2
      cases hv
      refine ⟨B154 hpl, _, rfl, fun H2 hs => ?_⟩
      simp only [vop, B97, h1, h2, e1, e2, B153 hpl hs]; rfl
     ·rename_i i k3 e1 e2
      cases hv
      refine ⟨B154 hpl, _, rfl, fun H2 hs => ?_⟩
      simp only [vop, B97, h1, h2, e1, e2, B153 hpl hs]; rfl
     ·cases hv
    ·cases hv
   ·cases hv
 case makeSlice t l c =>
  split at h <;> cases h
  simp only [vop] at hv
  unfold B69 at hv
  split at hv
  ·rename_i e l' c' h1 h2 h3 hpl
   split at hv
   ·rename_i b k h5 h6
    split at hv
    ·rename_i hc
     cases hv
     refine ⟨B154 hpl, _, rfl, fun H2 hs => ?_⟩
     simp only [vop, B69, h1, h2, h3, h5, h6, B153 hpl hs, hc, A31, A6]; rfl
    ·cases hv
   ·rename_i b i h5 h6
    split at hv
    ·rename_i z h7
     split at hv
     ·rename_i x h8
      split at hv
      ·rename_i hc
       cases hv
       refine ⟨B154 hpl, _, rfl, fun H2 hs => ?_⟩
       simp only [vop, B69, h1, h2, h3, h5, h6, h7, h8, B153 hpl hs, hc, A31, A6]; rfl
      ·cases hv
     ·cases hv
    ·cases hv
   ·cases hv
  ·cases hv
 case buildSlice t m ps =>
  split at h
  ·cases h
  ·split at h
   ·rename_i hids
    cases h
    rw [← B312] at hids
    simp only [vop] at hv
    unfold B73 at hv
    split at hv
    ·rename_i e he hn
     split at hv
     ·rename_i k hk
      split at hv
      ·rename_i xs hb hx
       split at hv
       ·rename_i hpl
        cases hv
        refine ⟨B154 hpl, _, rfl, fun H2 hs => ?_⟩
        simp only [vop, B73, he, hn, hk, hb, hx, B153 hpl hs]; rfl
       ·cases hv
      ·cases hv
     ·rename_i i hi
      split at hv
      ·rename_i xs H1 hb hx
       obtain ⟨rfl, g⟩ := B349 hx hids
       split at hv
       ·rename_i hpl
        cases hv
        refine ⟨B154 hpl, _, rfl, fun H2 hs => ?_⟩
        simp only [vop, B73, he, hn, hi, hb, g H2, B153 hpl hs]; rfl
       ·cases hv
      ·cases hv
     ·cases hv
    ·cases hv
   ·cases h
 case convert src dst x => split at h <;> cases h
 case slice t x lo hi mx => split at h <;> cases h
 case call c =>
  obtain ⟨callee, args, argTypes⟩ := c
  cases callee with
  | invoke r m => cases h
  | value f =>
   simp only at h
   split at h
   ·split at h
    ·split at h
     ·cases h
     ·split at h
      ·split at h <;> cases h
      ·cases h
    ·cases h
   ·cases h
  | builtin b =>
   cases b <;> simp only at h <;> try (cases h; done)
   case len => split at h <;> cases h
   case append => split at h <;> cases h
   case delete => split at h <;> cases h
   case copy => split at h <;> cases h
end
end Go.Proofs.YtcphcfknnfibmaaGreat.V
