/- Plain lemmas on the words that printed equations use: wraps, loops, lists. -/
import Derived.Test.YtgffdmgidnnedaaGreatVal
import Derived.Test.YtgffdmgidnnedaaGreatRun
import Derived.Laws.BitsLemmas
namespace Go.Proofs.YtgffdmgidnnedaaGreat.V
open Go
set_option linter.unusedVariables false
set_option linter.unusedSimpArgs false
/-! ### Wraps -/
theorem w64 {n : Int} (h : -9223372036854775808 ≤ n ∧ n ≤ 9223372036854775807) : IntKind.i64.wrap n = n := by rw [IntKind.wrap_i64]; omega
theorem w64s (n : Int) : IntKind.i64.wrap n = (n + 9223372036854775808) % 18446744073709551616 - 9223372036854775808 := IntKind.wrap_i64 n
theorem w8 (n : Int) : IntKind.u8.wrap n = n % 256 := by
 simp only [IntKind.wrap, IntKind.signed, IntKind.bits]
 simp
theorem w16 (n : Int) : IntKind.u16.wrap n = n % 65536 := by
 simp only [IntKind.wrap, IntKind.signed, IntKind.bits]
 simp
theorem w32 (n : Int) : IntKind.u32.wrap n = n % 4294967296 := by
 simp only [IntKind.wrap, IntKind.signed, IntKind.bits]
 simp
theorem wu64 (n : Int) : IntKind.u64.wrap n = n % 18446744073709551616 := by
 simp only [IntKind.wrap, IntKind.signed, IntKind.bits]
 simp
theorem tdiv_pos {a b : Int} (ha : 0 ≤ a) : a.tdiv b = a / b := by rw [Int.tdiv_eq_ediv_of_nonneg ha]
theorem tmod_pos {a b : Int} (ha : 0 ≤ a) : a.tmod b = a % b := by rw [Int.tmod_eq_emod_of_nonneg ha]
theorem imax_eq (a b : Int) : imax a b = max a b := by unfold imax; split <;> omega
theorem imin_eq (a b : Int) : imin a b = min a b := by unfold imin; split <;> omega
/-! ### Loops -/
section
variable {S A B : Type} {f : S → Option (S ⊕ A)}
theorem loop_step {s s' : S} (h : f s = some (.inl s')) : loop f s = loop f s' := by rw [loop_eq, h]
theorem loop_done {s : S} {a : A} (h : f s = some (.inr a)) : loop f s = some a := by rw [loop_eq, h]
theorem loop_none {s : S} (h : f s = none) : loop f s = none := by rw [loop_eq, h]
/-- an invariant and a measure -/
theorem loop_ind (P : S → Prop) (m : S → Nat) (Q : A → Prop)
  (h : ∀ s, P s → (∃ s', f s = some (.inl s') ∧ P s' ∧ m s' < m s) ∨ ∃ a, f s = some (.inr a) ∧ Q a) : ∀ s, P s → ∃ a, loop f s = some a ∧ Q a := by
 intro s
 generalize hn : m s = n
 induction n using Nat.strongRecOn generalizing s with
 | _ n ih =>
  intro hs
  rcases h s hs with ⟨s', h1, h2, h3⟩ | ⟨a, h1, h2⟩
  ·rw [loop_step h1]; exact ih _ (hn ▸ h3) s' rfl h2
  ·exact ⟨a, loop_done h1, h2⟩
/-- two loops, step by step alike -/
theorem loop_sim {S' A' : Type} {g : S' → Option (S' ⊕ A')} (R : S → S' → Prop) (Q : A → A' → Prop) (m : S → Nat)
  (h : ∀ s t, R s t → (∃ s' t', f s = some (.inl s') ∧ g t = some (.inl t') ∧ R s' t' ∧ m s' < m s) ∨ ∃ a b, f s = some (.inr a) ∧ g t = some (.inr b) ∧ Q a b) :
  ∀ s t, R s t → ∃ a b, loop f s = some a ∧ loop g t = some b ∧ Q a b := by
 intro s
 generalize hn : m s = n
 induction n using Nat.strongRecOn generalizing s with
 | _ n ih =>
  intro t hs
  rcases h s t hs with ⟨s', t', h1, h2, h3, h4⟩ | ⟨a, b, h1, h2, h3⟩
  ·rw [loop_step h1, loop_step h2]; exact ih _ (hn ▸ h4) s' rfl t' h3
  ·exact ⟨a, b, loop_done h1, loop_done h2, h3⟩
/-- a loop that goes through a list; 'step' may end it early -/
def overL {X : Type} (step : Nat → X → S → Option (S ⊕ A)) (fin : S → Option A) : Nat → List X → S → Option A
 | _, [], s => fin s
 | n, x :: l, s => match step n x s with
  | some (.inl s') => overL step fin (n + 1) l s'
  | some (.inr a) => some a
  | none => none
theorem overL_nil {X : Type} {step : Nat → X → S → Option (S ⊕ A)} {fin : S → Option A} {n : Nat} {s : S} : overL step fin n [] s = fin s := rfl
theorem overL_next {X : Type} {step : Nat → X → S → Option (S ⊕ A)} {fin : S → Option A} {n : Nat} {x : X} {l : List X} {s s' : S} (h : step n x s = some (.inl s')) : overL step fin n (x :: l) s = overL step fin (n + 1) l s' := by
 rw [overL, h]
theorem overL_exit {X : Type} {step : Nat → X → S → Option (S ⊕ A)} {fin : S → Option A} {n : Nat} {x : X} {l : List X} {s : S} {a : A} (h : step n x s = some (.inr a)) : overL step fin n (x :: l) s = some a := by
 rw [overL, h]
theorem loop_over {X T : Type} {g : T → Option (T ⊕ A)} (xs : List X) (at_ : Nat → S → T) (step : Nat → X → S → Option (S ⊕ A)) (fin : S → Option A)
  (hend : ∀ s, g (at_ xs.length s) = (fin s).map .inr)
  (hstep : ∀ i x s, xs[i]? = some x → g (at_ i s) = (step i x s).map fun r => match r with
   | .inl s' => .inl (at_ (i + 1) s')
   | .inr a => .inr a) : ∀ (n : Nat) (s : S), n ≤ xs.length → loop g (at_ n s) = overL step fin n (xs.drop n) s := by
 intro n s hn
 generalize hk : xs.length - n = k
 induction k generalizing n s with
 | zero =>
  have : n = xs.length := by omega
  subst this
  rw [List.drop_length, overL, loop_eq, hend]
  cases fin s <;> rfl
 | succ k ih =>
  have hlt : n < xs.length := by omega
  rw [List.drop_eq_getElem_cons hlt, overL, loop_eq, hstep n xs[n] s (List.getElem?_eq_getElem hlt)]
  cases hs : step n xs[n] s with
  | none => rfl
  | some r =>
   cases r with
   | inl s' => simp only [Option.map_some]; exact ih (n + 1) s' (by omega) (by omega)
   | inr a => rfl
end
theorem map_ite {α β : Type} (f : α → β) (c : Prop) [Decidable c] (a b : Option α) : (if c then a else b).map f = if c then a.map f else b.map f := by
 split <;> rfl
theorem map_elim {A B C D : Type} (f : C → D) (a : A → Option C) (b : B → Option C) (o : A ⊕ B) : (Sum.elim a b o).map f = Sum.elim (fun x => (a x).map f) (fun x => (b x).map f) o := by
 cases o <;> rfl
/-! ### Lists -/
theorem rd_get {xs : List Int} {i : Int} (h0 : 0 ≤ i) (h : i < (xs.length : Int)) : xs[i.toNat]? = some (rd xs i) := by
 unfold rd
 rw [List.getD_eq_getElem?_getD]
 have : i.toNat < xs.length := by omega
 rw [List.getElem?_eq_getElem this]; rfl
theorem rd_nat {xs : List Int} {i : Nat} {x : Int} (h : xs[i]? = some x) : rd xs (i : Int) = x := by
 unfold rd
 rw [List.getD_eq_getElem?_getD, Int.toNat_natCast, h]; rfl
theorem bind_some' {α β : Type} {a : α} {f : α → Option β} : (some a).bind f = f a := rfl
theorem lt_len_of_get {α : Type} {xs : List α} {i : Nat} {x : α} (h : xs[i]? = some x) : i < xs.length := (List.getElem?_eq_some_iff.1 h).1
theorem iteD {α : Type} {p : Prop} [Decidable p] {a b : α} : (if (decide p) = true then a else b) = if p then a else b := by
 by_cases h : p <;> simp [h]
theorem iteND {α : Type} {p : Prop} [Decidable p] {a b : α} : (if (!decide p) = true then a else b) = if p then b else a := by
 by_cases h : p <;> simp [h]
/-! ### What can be computed -/
/-- whatever the one comes to, the other comes to -/
def Ole {A : Type} (x y : Option A) : Prop := ∀ r, x = some r → y = some r
theorem Ole.refl {A : Type} (x : Option A) : Ole x x := fun _ h => h
theorem Ole.ite {A : Type} {c : Prop} [Decidable c] {a b a' b' : Option A} (h : Ole a a') (g : Ole b b') : Ole (if c then a else b) (if c then a' else b') := by
 split
 ·exact h
 ·exact g
theorem Ole.bind {A B : Type} {x y : Option A} {f g : A → Option B} (h : Ole x y) (k : ∀ a, Ole (f a) (g a)) : Ole (x.bind f) (y.bind g) := by
 intro r hr
 obtain ⟨a, h1, h2⟩ := Option.bind_eq_some_iff.1 hr
 exact Option.bind_eq_some_iff.2 ⟨a, h a h1, k a r h2⟩
theorem Ole.elim {A B C : Type} {f f' : A → Option C} {g g' : B → Option C} {o : A ⊕ B} (h : ∀ a, Ole (f a) (f' a)) (k : ∀ b, Ole (g b) (g' b)) : Ole (Sum.elim f g o) (Sum.elim f' g' o) := by
 cases o with
 | inl a => exact h a
 | inr b => exact k b
theorem Ole.known {A : Type} {c : Prop} [Decidable c] {v y rest : Option A} (h : c → y = v) (k : Ole rest y) : Ole (if c then v else rest) y := by
 split
 ·rename_i q; rw [h q]; exact Ole.refl _
 ·exact k
theorem Ole.none {A : Type} {y : Option A} : Ole (none : Option A) y := fun _ h => nomatch h
/-- both ways, where they can be compared -/
def demD {A : Type} [DecidableEq A] (a b : Option A) : Option A := if a = b then a else Option.none
theorem Ole.demD {A : Type} [DecidableEq A] {a b a' b' : Option A} (h : Ole a a') (g : Ole b b') : Ole (V.demD a b) (demon a' b') := by
 intro r hr
 unfold V.demD at hr
 split at hr
 ·rename_i e
  rw [h r hr, g r (e ▸ hr)]
  exact demon_same _
 ·cases hr
theorem Ole.iter {S A : Type} {f g : S → Option (S ⊕ A)} {n : Nat} {s : S} (h : ∀ s, Ole (f s) (g s)) : Ole (V.iter f n s) (loop g s) := by
 intro r hr
 refine loop_of_iter (n := n) ?_
 induction n generalizing s with
 | zero => simp [V.iter] at hr
 | succ n ih =>
  simp only [V.iter] at hr ⊢
  cases hf : f s with
  | none => rw [hf] at hr; cases hr
  | some x =>
   rw [hf] at hr
   rw [h s x hf]
   cases x with
   | inl s' => exact ih hr
   | inr a => exact hr
/-- a loop with fuel, the fuel first -/
def itf (n : Nat) {S A : Type} (f : S → Option (S ⊕ A)) (s : S) : Option A := V.iter f n s
/-- the same, to be found by what the two sides are -/
class OL {A : Type} (x y : Option A) : Prop where
 le : Ole x y
instance (priority := 10) OL.refl {A : Type} (x : Option A) : OL x x := ⟨Ole.refl x⟩
instance OL.none {A : Type} (y : Option A) : OL (none : Option A) y := ⟨Ole.none⟩
instance OL.ite {A : Type} {c : Prop} [Decidable c] {a b a' b' : Option A} [h : OL a a'] [g : OL b b'] : OL (if c then a else b) (if c then a' else b') := ⟨Ole.ite h.le g.le⟩
instance OL.bind {A B : Type} {x y : Option A} {f g : A → Option B} [h : OL x y] [k : ∀ a, OL (f a) (g a)] : OL (x.bind f) (y.bind g) := ⟨Ole.bind h.le fun a => (k a).le⟩
instance OL.elim {A B C : Type} {f f' : A → Option C} {g g' : B → Option C} {o : A ⊕ B} [h : ∀ a, OL (f a) (f' a)] [k : ∀ b, OL (g b) (g' b)] : OL (Sum.elim f g o) (Sum.elim f' g' o) := ⟨Ole.elim (fun a => (h a).le) fun b => (k b).le⟩
instance OL.iter {S A : Type} {f g : S → Option (S ⊕ A)} {n : Nat} {s : S} [h : ∀ s, OL (f s) (g s)] : OL (itf n f s) (loop g s) := ⟨Ole.iter fun s => (h s).le⟩
end Go.Proofs.YtgffdmgidnnedaaGreat.V
