import Derived.Test.YtcphcfknnfibmaaGreatPure1
namespace Go.Proofs.YtcphcfknnfibmaaGreat.P
open Go Go.IntKind Go.Proofs.YtcphcfknnfibmaaGreat.V
set_option linter.unusedVariables false
set_option linter.unusedSimpArgs false
set_option linter.unusedSectionVars false
set_option maxRecDepth 100000
noncomputable def szL (n : Int) : List Int := match Z87 n with
 | some (_, l) => l
 | none => []
def Byt (l : List Int) : Prop := ∀ x ∈ l, 0 <= x ∧ x <= 255
theorem Byt.append {l m : List Int} (h : Byt l) (g : Byt m) : Byt (l ++ m) := fun x hx => (A44.1 hx).elim (h x) (g x)
theorem B1076 : ∀ (k : Nat) (n : Int) (out : List Int), 0 <= n -> n < 128 ^ k -> k <= 4 -> out.length + k <= 100 -> Byt out -> ∃ a, loop Z87l5 (n, out) = some a ∧ a.length <= out.length + k ∧ Byt a := by
 intro k
 induction k with
 | zero =>
  intro n out h0 h1 hk ho hb
  refine ⟨out, B4 ?_, A11 _, hb⟩
  unfold Z87l5
  simp only [show ¬ n > 0 by simp only [Int.pow_zero] at h1; omega, A9, A5, A4]
 | succ k ih =>
  intro n out h0 h1 hk ho hb
  by_cases hn : n > 0
  ·have h2 : n / 128 < 128 ^ k := by
    rw [Int.pow_succ] at h1
    exact Int.ediv_lt_of_lt_mul (by decide) h1
   have h28 : n < 268435456 * 128 := by
    have : (128 : Int) ^ (k + 1) <= 128 ^ 4 := by
     have : k + 1 = 1 ∨ k + 1 = 2 ∨ k + 1 = 3 ∨ k + 1 = 4 := by omega
     rcases this with h | h | h | h <;> rw [h] <;> decide
    have e : (128 : Int) ^ 4 = 268435456 := by decide
    omega
   obtain ⟨a, a1, a2, a3⟩ := ih (n / 128) ([u8.wrap (i64.wrap (128 + n.tmod 128))] ++ out) (by omega) h2 (by omega) (by simp; omega) (Byt.append (fun x hx => by
    rw [A61] at hx; subst hx; rw [w8]; omega) hb)
   refine ⟨a, ?_, by simp at a2; omega, a3⟩
   rw [← a1]
   refine B5 ?_
   unfold Z87l5
   simp only [hn, A8, A6, A26]
   rw [A3 (by omega), B27 h0, w64 (n := n / 128) (by omega)]
  ·refine ⟨out, B4 ?_, by omega, hb⟩
   unfold Z87l5
   simp only [hn, A9, A5, A4]
theorem B33 (n : Int) : ∃ e, Z87 n = some (e, szL n) ∧ Z76 n = some (e, szL n) ∧ (szL n).length <= 5 ∧ Byt (szL n) ∧ (0 <= n -> n <= 2147483647 -> e = 0) := by
 have key : ∃ e l, Z87 n = some (e, l) ∧ l.length <= 5 ∧ Byt l ∧ (0 <= n -> n <= 2147483647 -> e = 0) := by
  rw [Z87_eq]
  by_cases h1 : n < 0
  ·exact ⟨2, [], by simp [h1], by simp, fun x hx => by simp at hx, fun h => by omega⟩
  ·by_cases h2 : n > 2147483647
   ·exact ⟨2, [], by simp [h1, h2], by simp, fun x hx => by simp at hx, fun _ h => by omega⟩
   ·have h128 : n / 128 < (128 : Int) ^ 4 := by
     have e : (128 : Int) ^ 4 = 268435456 := by decide
     omega
    obtain ⟨a, a1, a2, a3⟩ := B1076 4 (n / 128) [u8.wrap (n.tmod 128)] (by omega) h128 (A11 _) (by simp) (fun x hx => by rw [A61] at hx; subst hx; rw [w8]; omega)
    refine ⟨0, a, ?_, by simpa using a2, a3, fun _ _ => rfl⟩
    have e1 : i64.wrap (n.tdiv 128) = n / 128 := by rw [B27 (by omega), w64 (by omega)]
    simp only [h1, h2, A9, A5, A4, A1, e1, a1]
 obtain ⟨e, l, h1, h2, h3, h4⟩ := key
 have hl : szL n = l := by unfold szL; rw [h1]
 rw [hl]
 exact ⟨e, h1, by rw [B1051, h1], h2, h3, h4⟩
mutual
def ocnt : Outline -> Nat
 | .mk _ _ kids => ocnts kids + 1
def ocnts : List Outline -> Nat
 | [] => 0
 | o :: l => ocnt o + ocnts l
end
mutual
def odep : Outline -> Nat
 | .mk _ _ kids => odeps kids + 1
def odeps : List Outline -> Nat
 | [] => 0
 | o :: l => max (odep o) (odeps l)
end
mutual
def ofine : Outline -> Bool
 | .mk title page kids => ofines kids && decide (title.length <= 200 ∧ 1 <= page ∧ page <= 1000)
def ofines : List Outline -> Bool
 | [] => true
 | o :: l => ofine o && ofines l
end
mutual
noncomputable def oby : Outline -> List Int
 | .mk title page kids => szL title.length ++ (title ++ (szL page ++ (szL kids.length ++ obyL kids)))
noncomputable def obyL : List Outline -> List Int
 | [] => []
 | o :: l => oby o ++ obyL l
end
def B136 (l : List Outline) : Bool := ofines l && decide (ocnts l <= 400) && decide (odeps l <= 20)
theorem B110 : ∀ {l : List Outline} {i : Nat} {o : Outline}, l[i]? = some o -> bulkL1 o.kids + 3 <= bulkL1 l
 | x :: l, 0, o, h => by
  simp at h; subst h
  cases x
  simp only [bulkL1, bulk1]; omega
 | x :: l, i + 1, o, h => by
  simp at h
  have := B110 h
  simp only [bulkL1]; omega
theorem B192 : ∀ l : List Outline, 3 * l.length <= bulkL1 l
 | [] => by simp [bulkL1]
 | .mk a b c :: l => by
  have := B192 l
  simp only [bulkL1, A21, bulk1]
  omega
mutual
theorem B589 : ∀ o : Outline, 3 * ocnt o <= bulk1 o ∧ 3 * odep o <= bulk1 o ∧ (oby o).length <= 5 * bulk1 o
 | .mk title page kids => by
  obtain ⟨h1, h2, h3⟩ := cntsO_le kids
  obtain ⟨_, _, _, a, _⟩ := B33 (title.length : Int)
  obtain ⟨_, _, _, b, _⟩ := B33 page
  obtain ⟨_, _, _, c, _⟩ := B33 (kids.length : Int)
  simp only [ocnt, odep, oby, bulk1, A13]
  omega
theorem cntsO_le : ∀ l : List Outline, 3 * ocnts l <= bulkL1 l ∧ 3 * odeps l <= bulkL1 l ∧ (obyL l).length <= 5 * bulkL1 l
 | [] => by simp [ocnts, odeps, obyL, bulkL1]
 | o :: l => by
  obtain ⟨h1, h2, h3⟩ := B589 o
  obtain ⟨g1, g2, g3⟩ := cntsO_le l
  simp only [ocnts, odeps, obyL, bulkL1, A13]
  omega
end
theorem B49 {α : Type} {l m : List α} {n : Nat} {o : α} (hd : l.drop n = o :: m) : l[n]? = some o ∧ l.drop (n + 1) = m ∧ n < l.length := by
 have h : l[n]? = some o := by
  have : (l.drop n)[0]? = some o := by rw [hd]; rfl
  simpa using this
 exact ⟨h, by rw [← A115, hd]; rfl, B6 h⟩
theorem B61 {α : Type} {l : List α} {n : Nat} (hd : l.drop n = []) : l.length <= n := by
 have := congrArg List.length hd
 rw [A77, A35] at this
 omega
def B876 (l : List Outline) : Prop := ∀ d m : Int, 1 <= d -> d <= 21 -> 0 <= m -> m <= 400 ->
 ∃ m', Z40 l d m = some (ofines l && decide (m + ocnts l <= 400) && decide (d + odeps l <= 21), m') ∧ (ofines l = true -> m + ocnts l <= 400 -> d + odeps l <= 21 -> m' = m + ocnts l)
theorem B554 {l : List Outline} {d : Int} (hd1 : 1 <= d) (hd2 : d <= 21) (hl : l.length <= 100000000) (hk : ∀ o ∈ l, B876 o.kids) : ∀ (r : List Outline) (k : Nat) (m : Int), l.drop k = r -> 0 <= m -> m <= 400 ->
  (ofines r = true ∧ m + ocnts r <= 400 ∧ d + odeps r <= 21 -> loop (Z40l2 l d) ((k : Int), m) = some (.inl (m + ocnts r))) ∧
  (¬ (ofines r = true ∧ m + ocnts r <= 400 ∧ d + odeps r <= 21) -> ∃ m', loop (Z40l2 l d) ((k : Int), m) = some (.inr (false, m')))
 | [], k, m, hd, h0, h4 => by
  have hln := B61 hd
  have e : loop (Z40l2 l d) ((k : Int), m) = some (.inl m) := by
   refine B4 ?_
   unfold Z40l2
   simp only [A10, show ¬ k < l.length by omega, A9, A5, A4]
  refine ⟨fun _ => by rw [e]; simp [ocnts], fun h => absurd ?_ h⟩
  simp [ofines, ocnts, odeps]; omega
 | .mk title page kids :: r, k, m, hd, h0, h4 => by
  obtain ⟨hget, hd', hlt⟩ := B49 hd
  have hn : (0 : Int) <= ((k : Nat) : Int) := A17 _
  have w1 : i64.wrap (m + 1) = m + 1 := w64 (by omega)
  have w2 : i64.wrap (d + 1) = d + 1 := w64 (by omega)
  have w3 : i64.wrap ((k : Int) + 1) = ((k + 1 : Nat) : Int) := w64 (by omega)
  have stop : (∃ m', Z40l2 l d ((k : Int), m) = some (.inr (.inr (false, m')))) -> ¬ (ofine (.mk title page kids) = true ∧ m + ocnt (.mk title page kids) <= 400 ∧ d + odep (.mk title page kids) <= 21) -> (ofines (.mk title page kids :: r) = true ∧ m + ocnts (.mk title page kids :: r) <= 400 ∧ d + odeps (.mk title page kids :: r) <= 21 -> loop (Z40l2 l d) ((k : Int), m) = some (.inl (m + ocnts (.mk title page kids :: r)))) ∧
    (¬ (ofines (.mk title page kids :: r) = true ∧ m + ocnts (.mk title page kids :: r) <= 400 ∧ d + odeps (.mk title page kids :: r) <= 21) -> ∃ m', loop (Z40l2 l d) ((k : Int), m) = some (.inr (false, m'))) := by
   rintro ⟨m', e⟩ hno
   refine ⟨fun h => absurd ?_ hno, fun _ => ⟨m', B4 e⟩⟩
   obtain ⟨a, b, c⟩ := h
   simp only [ofines, ocnts, odeps, A25] at a b c
   exact ⟨a.1, by omega, by omega⟩
  by_cases c1 : m + 1 > 400
  ·refine stop ⟨m + 1, ?_⟩ (fun h => by have := h.2.1; simp only [ocnt] at this; omega)
   unfold Z40l2
   simp only [A10, hlt, hn, A8, A6, A12, hget, A1, w1, c1]
  by_cases c2 : d > 20
  ·refine stop ⟨m + 1, ?_⟩ (fun h => by have := h.2.2; simp only [odep] at this; omega)
   unfold Z40l2
   simp only [A10, hlt, hn, A8, A6, A12, hget, A1, w1, c1, c2, A9, A5, A4]
  by_cases c3 : ((title.length : Nat) : Int) > 200
  ·refine stop ⟨m + 1, ?_⟩ (fun h => by have := h.1; simp only [ofine, A25, A20] at this; omega)
   unfold Z40l2
   simp only [A10, hlt, hn, A8, A6, A12, hget, A1, w1, c1, c2, c3, A9, A5, A4]
  by_cases c4 : page < 1
  ·refine stop ⟨m + 1, ?_⟩ (fun h => by have := h.1; simp only [ofine, A25, A20] at this; omega)
   unfold Z40l2
   simp only [A10, hlt, hn, A8, A6, A12, hget, A1, w1, c1, c2, c3, c4, A9, A5, A4]
  by_cases c5 : page > 1000
  ·refine stop ⟨m + 1, ?_⟩ (fun h => by have := h.1; simp only [ofine, A25, A20] at this; omega)
   unfold Z40l2
   simp only [A10, hlt, hn, A8, A6, A12, hget, A1, w1, c1, c2, c3, c4, c5, A9, A5, A4]
  obtain ⟨m', e1, e2⟩ := hk _ (A41 hget) (d + 1) (m + 1) (by omega) (by omega) (by omega) (by omega)
  have e1' : Z40 kids (d + 1) (m + 1) = some (ofines kids && decide (m + 1 + ocnts kids <= 400) && decide (d + 1 + odeps kids <= 21), m') := e1
  cases hv : (ofines kids && decide (m + 1 + (ocnts kids : Int) <= 400) && decide (d + 1 + (odeps kids : Int) <= 21)) with
  | false =>
   refine stop ⟨m', ?_⟩ (fun h => ?_)
   ·unfold Z40l2
    simp only [A10, hlt, hn, A8, A6, A12, hget, A1, w1, w2, c1, c2, c3, c4, c5, A9, A5, A4, e1', hv, A46]
   ·obtain ⟨a, b, c⟩ := h
    simp only [ofine, ocnt, odep, A25, A20] at a b c
    rw [Bool.eq_false_iff] at hv
    refine hv ?_
    simp only [A25, A20]
    exact ⟨⟨a.1, by omega⟩, by omega⟩
  | true =>
   have hv' := hv
   simp only [A25, A20] at hv'
   have em := e2 hv'.1.1 hv'.1.2 hv'.2
   have hf : ofine (.mk title page kids) = true := by
    simp only [ofine, A25, A20]
    exact ⟨hv'.1.1, by omega, by omega, by omega⟩
   obtain ⟨g1, g2⟩ := B554 hd1 hd2 hl hk r (k + 1) (m + ocnt (.mk title page kids)) hd' (by simp only [ocnt]; omega) (by simp only [ocnt]; omega)
   have st : loop (Z40l2 l d) ((k : Int), m) = loop (Z40l2 l d) (((k + 1 : Nat) : Int), m + ocnt (.mk title page kids)) := by
    refine B5 ?_
    unfold Z40l2
    simp only [A10, hlt, hn, A8, A6, A12, hget, A1, w1, w2, w3, c1, c2, c3, c4, c5, A9, A5, A4, e1', hv, A14, em]
    simp only [ocnt, A16, Sum.inl.injEq, A33, A15]
    omega
   rw [st]
   simp only [ofines, ocnts, odeps, hf, A49]
   refine ⟨fun h => ?_, fun h => g2 fun h' => h ⟨h'.1, by omega, ?_⟩⟩
   ·rw [g1 ⟨h.1, by omega, by omega⟩]
    congr 2; omega
   ·have : d + odep (.mk title page kids) <= 21 := by simp only [odep]; omega
    omega
theorem B990 : ∀ (n : Nat) (l : List Outline), bulkL1 l <= n -> n <= 100000000 -> B876 l := by
 intro n
 induction n using Nat.strongRecOn with
 | _ n ih =>
 intro l hn hN d m h1 h2 h3 h4
 have hl := B192 l
 obtain ⟨g1, g2⟩ := B554 (l := l) h1 h2 (by omega) (fun o ho => by
  obtain ⟨i, hi⟩ := A76 ho
  have := B110 hi
  exact ih (bulkL1 o.kids) (by omega) o.kids (A11 _) (by omega)) l 0 m rfl h3 h4
 have z0 : ((0 : Nat) : Int) = 0 := rfl
 rw [z0] at g1 g2
 rw [Z40_eq]
 by_cases hc : ofines l = true ∧ m + ocnts l <= 400 ∧ d + odeps l <= 21
 ·rw [g1 hc]
  simp [hc]
 ·obtain ⟨m', e⟩ := g2 hc
  rw [e]
  refine ⟨m', ?_, fun a b c => absurd ⟨a, b, c⟩ hc⟩
  simp only [A1, Sum.elim_inr, A16, A33, A69]
  symm
  rw [Bool.eq_false_iff]
  intro h
  simp only [A25, A20] at h
  exact hc ⟨h.1.1, h.1.2, h.2⟩
theorem B568 {l : List Outline} (hl : bulkL1 l <= 100000000) (hk : ∀ o ∈ l, Z45 o.kids = some ((ocnts o.kids : Int), (odeps o.kids : Int), ofines o.kids)) : ∀ (r : List Outline) (k : Nat) (n d : Int) (ok : Bool), l.drop k = r -> 0 <= n -> n + bulkL1 r <= 1000000000 -> 0 <= d -> d <= 1000000000 ->
  loop (Z45l3 l) (n, d, ok, (k : Int)) = some (n + ocnts r, max d (odeps r), ok && ofines r)
 | [], k, n, d, ok, hd, h0, h1, h2, h3 => by
  have hln := B61 hd
  refine B4 ?_
  unfold Z45l3
  simp only [A10, show ¬ k < l.length by omega, A9, A5, A4, ocnts, odeps, ofines, A108]
  simp; omega
 | .mk title page kids :: r, k, n, d, ok, hd, h0, h1, h2, h3 => by
  obtain ⟨hget, hd', hlt⟩ := B49 hd
  have hll := B192 l
  have hn : (0 : Int) <= ((k : Nat) : Int) := A17 _
  have hb := B110 hget
  obtain ⟨b1, b2, _⟩ := cntsO_le kids
  simp only [bulkL1, bulk1] at h1
  have hb' : bulkL1 kids + 3 <= bulkL1 l := hb
  have e := hk _ (A41 hget)
  have e' : Z45 kids = some ((ocnts kids : Int), (odeps kids : Int), ofines kids) := e
  have w1 : i64.wrap (n + 1) = n + 1 := w64 (by omega)
  have w2 : i64.wrap (n + 1 + (ocnts kids : Int)) = n + ocnt (.mk title page kids) := by rw [w64 (by omega)]; simp only [ocnt]; omega
  have w3 : i64.wrap ((odeps kids : Int) + 1) = (odep (.mk title page kids) : Int) := by rw [w64 (by omega)]; simp only [odep]; omega
  have w4 : i64.wrap ((k : Int) + 1) = ((k + 1 : Nat) : Int) := w64 (by omega)
  have ho : odep (.mk title page kids) = odeps kids + 1 := rfl
  have hc : ocnt (.mk title page kids) = ocnts kids + 1 := rfl
  have g := B568 hl hk r (k + 1) (n + ocnt (.mk title page kids)) (max d (odep (.mk title page kids))) (ok && ofine (.mk title page kids)) hd' (by omega) (by omega) (by omega) (by omega)
  rw [B5 (s' := (n + ocnt (.mk title page kids), max d (odep (.mk title page kids)), ok && ofine (.mk title page kids), ((k + 1 : Nat) : Int))), g]
  ·simp only [ocnts, odeps, ofines, A16, A33, Bool.and_assoc, A69]
   omega
  ·unfold Z45l3
   simp only [A10, hlt, hn, A8, A6, A12, hget, A1, e', w1, w2, w3, w4, B452, ofine]
   cases ok with
   | false => simp
   | true =>
    cases ofines kids with
    | false => simp
    | true =>
     by_cases c3 : title.length <= 200
     ·by_cases c4 : page ≥ 1
      ·simp [c3, c4, show ((title.length : Nat) : Int) <= 200 by omega, show 1 <= page from c4]
      ·simp [c3, c4, show ((title.length : Nat) : Int) <= 200 by omega, show ¬ 1 <= page from c4]
     ·simp [c3, show ¬ ((title.length : Nat) : Int) <= 200 by omega]
theorem B1009 : ∀ (n : Nat) (l : List Outline), bulkL1 l <= n -> n <= 100000000 -> Z45 l = some ((ocnts l : Int), (odeps l : Int), ofines l) := by
 intro n
 induction n using Nat.strongRecOn with
 | _ n ih =>
 intro l hn hN
 have g := B568 (l := l) (by omega) (fun o ho => by
  obtain ⟨i, hi⟩ := A76 ho
  have := B110 hi
  exact ih (bulkL1 o.kids) (by omega) o.kids (A11 _) (by omega)) l 0 0 0 true rfl (by omega) (by omega) (by omega) (by omega)
 have z0 : ((0 : Nat) : Int) = 0 := rfl
 rw [z0] at g
 rw [Z45_eq, g]
 simp only [A1, A16, A33, A49, A69]
 omega
theorem B656 {l : List Outline} (hb : bulkL1 l <= 100000000) : Z18 l = some (B136 l) ∧ Z23 l = some (B136 l) := by
 constructor
 ·obtain ⟨m', e, _⟩ := B990 (bulkL1 l) l (A11 _) hb 1 0 (by omega) (by omega) (by omega) (by omega)
  rw [Z18_eq, e]
  simp only [A1, B136, A16]
  congr 1
  ·congr 1; simp only [decide_eq_decide]; omega
  ·simp only [decide_eq_decide]; omega
 ·rw [Z23_eq, B1009 (bulkL1 l) l (A11 _) hb]
  simp only [A1, B136]
  cases ofines l with
  | false => simp
  | true =>
   by_cases h : ocnts l <= 400
   ·simp [h, show ((ocnts l : Nat) : Int) <= 400 by omega]; omega
   ·simp [h, show ¬ ((ocnts l : Nat) : Int) <= 400 by omega]
def tot : List (List Int) -> Nat
 | [] => 0
 | x :: l => x.length + tot l
theorem B697 {ls : List (List Int)} (hl : ls.length <= 1000) : ∀ (r : List (List Int)) (k : Nat) (n : Int), ls.drop k = r -> 0 <= n -> n + tot r <= 1000000000 -> loop (B52 ls) (n, (k : Int)) = some (n + tot r)
 | [], k, n, hd, h0, h1 => by
  have hln := B61 hd
  refine B4 ?_
  unfold B52
  simp only [A10, show ¬ k < ls.length by omega, A9, A5, A4, tot]
  simp
 | x :: r, k, n, hd, h0, h1 => by
  obtain ⟨hget, hd', hlt⟩ := B49 hd
  simp only [tot] at h1
  have w1 : i64.wrap (n + ((x.length : Nat) : Int)) = n + x.length := w64 (by omega)
  have w2 : i64.wrap ((k : Int) + 1) = ((k + 1 : Nat) : Int) := w64 (by omega)
  rw [B5 (s' := (n + x.length, ((k + 1 : Nat) : Int))), B697 hl r (k + 1) (n + x.length) hd' (by omega) (by omega)]
  ·simp only [tot, A16]; omega
  ·unfold B52
   simp only [A10, hlt, A8, A6, A17, A12, hget, A1, w1, w2, show ¬ (n + (x.length : Int) < 0) by omega, A9, A5, A4]
theorem B696 {ls : List (List Int)} (hl : ls.length <= 1000) : ∀ (r : List (List Int)) (k : Nat) (out : List Int), ls.drop k = r -> out.length + tot r <= 1000000000 -> loop (B50 ls) ((k : Int), out) = some (out ++ r.flatten)
 | [], k, out, hd, h1 => by
  have hln := B61 hd
  refine B4 ?_
  unfold B50
  simp only [A10, show ¬ k < ls.length by omega, A9, A5, A4, List.flatten_nil, A38]
 | x :: r, k, out, hd, h1 => by
  obtain ⟨hget, hd', hlt⟩ := B49 hd
  simp only [tot] at h1
  have w2 : i64.wrap ((k : Int) + 1) = ((k + 1 : Nat) : Int) := w64 (by omega)
  rw [B5 (s' := (((k + 1 : Nat) : Int), out ++ x)), B696 hl r (k + 1) (out ++ x) hd' (by simp; omega)]
  ·simp only [List.flatten_cons, A27]
  ·unfold B50
   simp only [A10, hlt, A8, A6, A17, A12, hget, A1, w2]
   rw [A3 (by omega)]
theorem B1026 {n : Int} (h0 : 0 <= n) (h1 : n <= 1000000000) : Z149 n = some [] := by
 rw [Z149_eq]
 have w1 : i64.wrap (0 - 0) = 0 := by rw [w64 (by omega)]; rfl
 have w2 : i64.wrap (n - 0) = n := by rw [w64 (by omega)]; omega
 simp only [show ¬ n < 0 by omega, A9, A5, A4, w1, w2]
 by_cases h : n > 0
 ·simp only [h, A8, A6]
  rw [A3 (by omega), A3 (by omega), A3 (by omega)]
  simp [cutL]
 ·simp only [h, A9, A5, A4]
theorem B894 {ls : List (List Int)} (hl : ls.length <= 1000) (ht : tot ls <= 1000000000) : B108 ls = some ls.flatten := by
 have h1 := B697 hl ls 0 0 rfl (by omega) (by omega)
 have h2 := B696 hl ls 0 [] rfl (by simp; omega)
 have z0 : ((0 : Nat) : Int) = 0 := rfl
 rw [z0] at h1 h2
 rw [B253]
 simp only [h1, A1, B1026 (n := 0 + (tot ls : Int)) (by omega) (by omega), h2, A28]
noncomputable def obys (l : List Outline) : List Int := szL l.length ++ obyL l
theorem B726 (n : Int) : Z109 n = some (szL n) := by
 obtain ⟨e, _, h, _⟩ := B33 n
 rw [Z109_eq, h]; rfl
theorem B355 (n : Int) : ∃ e, Z87 n = some (e, szL n) ∧ (szL n).length <= 5 := by
 obtain ⟨e, h, _, h2, _⟩ := B33 n
 exact ⟨e, h, h2⟩
theorem B644 {l : List Outline} (hl : bulkL1 l <= 10000000) (hk : ∀ o ∈ l, Z77 o.kids = some (obys o.kids)) : ∀ (r : List Outline) (k : Nat) (out : List Int), l.drop k = r -> out.length + 5 * bulkL1 r <= 100000000 -> loop (Z77l3 l) (out, (k : Int)) = some (out ++ obyL r)
 | [], k, out, hd, h1 => by
  have hln := B61 hd
  refine B4 ?_
  unfold Z77l3
  simp only [A10, show ¬ k < l.length by omega, A9, A5, A4, obyL, A38]
 | .mk title page kids :: r, k, out, hd, h1 => by
  obtain ⟨hget, hd', hlt⟩ := B49 hd
  have hll := B192 l
  have e : Z77 kids = some (obys kids) := hk _ (A41 hget)
  have hby := (B589 (.mk title page kids)).2.2
  have hbe : oby (.mk title page kids) = szL title.length ++ (title ++ (szL page ++ obys kids)) := by simp only [oby, obys]
  rw [hbe] at hby
  simp only [A13] at hby
  simp only [bulkL1] at h1
  have w2 : i64.wrap ((k : Int) + 1) = ((k + 1 : Nat) : Int) := w64 (by omega)
  have hc := B894 (ls := [out, szL title.length, title, szL page, obys kids]) (by simp) (by simp only [tot]; omega)
  have hf : [out, szL title.length, title, szL page, obys kids].flatten = out ++ oby (.mk title page kids) := by rw [hbe]; simp
  rw [hf] at hc
  rw [B5 (s' := (out ++ oby (.mk title page kids), ((k + 1 : Nat) : Int))), B644 hl hk r (k + 1) _ hd' (by rw [hbe]; simp only [A13]; omega)]
  ·simp only [obyL, A27]
  ·unfold Z77l3
   simp only [A10, hlt, A8, A6, A17, A12, hget, A1, B726, e, hc, w2]
theorem B1042 : ∀ (n : Nat) (l : List Outline), bulkL1 l <= n -> n <= 10000000 -> Z77 l = some (obys l) := by
 intro n
 induction n using Nat.strongRecOn with
 | _ n ih =>
 intro l hn hN
 obtain ⟨_, _, h5⟩ := B355 (l.length : Int)
 have g := B644 (l := l) (by omega) (fun o ho => by
  obtain ⟨i, hi⟩ := A76 ho
  have := B110 hi
  exact ih (bulkL1 o.kids) (by omega) o.kids (A11 _) (by omega)) l 0 (szL l.length) rfl (by omega)
 have z0 : ((0 : Nat) : Int) = 0 := rfl
 rw [z0] at g
 rw [Z77_eq, B726]
 simp only [A1, g]
 rfl
theorem B741 {l : List Outline} (hl : bulkL1 l <= 10000000) (hk : ∀ o ∈ l, Z88 o.kids = some (obys o.kids)) : ∀ (r : List Outline) (k : Nat) (out : List Int), l.drop k = r -> out.length + 5 * bulkL1 r <= 100000000 -> loop (Z88l3 l) ((k : Int), out) = some (out ++ obyL r)
 | [], k, out, hd, h1 => by
  have hln := B61 hd
  refine B4 ?_
  unfold Z88l3
  simp only [A10, show ¬ k < l.length by omega, A9, A5, A4, obyL, A38]
 | .mk title page kids :: r, k, out, hd, h1 => by
  obtain ⟨hget, hd', hlt⟩ := B49 hd
  have hll := B192 l
  have e : Z88 kids = some (obys kids) := hk _ (A41 hget)
  have hby := (B589 (.mk title page kids)).2.2
  have hbe : oby (.mk title page kids) = szL title.length ++ (title ++ (szL page ++ obys kids)) := by simp only [oby, obys]
  rw [hbe] at hby
  simp only [A13] at hby
  simp only [bulkL1] at h1
  have w2 : i64.wrap ((k : Int) + 1) = ((k + 1 : Nat) : Int) := w64 (by omega)
  obtain ⟨e1, s1, _⟩ := B355 (title.length : Int)
  obtain ⟨e2, s2, _⟩ := B355 page
  have hn : (0 : Int) <= ((k : Nat) : Int) := A17 _
  rw [B5 (s' := (((k + 1 : Nat) : Int), out ++ oby (.mk title page kids))), B741 hl hk r (k + 1) _ hd' (by rw [hbe]; simp only [A13]; omega)]
  ·simp only [obyL, A27]
  ·unfold Z88l3
   simp only [A10, hlt, A8, A6, hn, A12, hget, A1, s1, s2, e, w2]
   rw [A3 (by omega), A3 (by simp only [A13]; omega), A3 (by simp only [A13]; omega), A3 (by simp only [A13]; omega), hbe]
   simp only [A27]
theorem B1069 : ∀ (n : Nat) (l : List Outline), bulkL1 l <= n -> n <= 10000000 -> Z88 l = some (obys l) := by
 intro n
 induction n using Nat.strongRecOn with
 | _ n ih =>
 intro l hn hN
 obtain ⟨e0, s0, h5⟩ := B355 (l.length : Int)
 have g := B741 (l := l) (by omega) (fun o ho => by
  obtain ⟨i, hi⟩ := A76 ho
  have := B110 hi
  exact ih (bulkL1 o.kids) (by omega) o.kids (A11 _) (by omega)) l 0 (szL l.length) rfl (by omega)
 have z0 : ((0 : Nat) : Int) = 0 := rfl
 rw [z0] at g
 rw [Z88_eq, s0]
 simp only [A1, g]
 rfl
noncomputable def putO (l : List Outline) : List Int × Int := if B136 l = true then (obys l, 0) else ([], 95)
theorem B816 {l : List Outline} (hb : bulkL1 l <= 10000000) : Z54 l = some (putO l) ∧ Z60 l = some (putO l) := by
 obtain ⟨v1, v2⟩ := B656 (l := l) (by omega)
 rw [Z54_eq, Z60_eq, v1, v2, B1042 _ l (A11 _) hb, B1069 _ l (A11 _) hb]
 unfold putO
 cases B136 l <;> simp
theorem B730 (l : List Outline) : (obys l).length <= 5 + 5 * bulkL1 l := by
 obtain ⟨_, _, h5⟩ := B355 (l.length : Int)
 have := (cntsO_le l).2.2
 unfold obys
 rw [A13]; omega
inductive TxtO : List Outline -> Prop
 | nil : TxtO []
 | cons {t : List Int} {p : Int} {k l : List Outline} : Byt t -> TxtO k -> TxtO l -> TxtO (.mk t p k :: l)
theorem B996 {l : List Outline} (h : TxtO l) : Byt (obyL l) := by
 induction h with
 | nil => intro x hx; simp [obyL] at hx
 | @cons t p k l ht hk hl ihk ihl =>
  obtain ⟨_, _, _, _, a, _⟩ := B33 (t.length : Int)
  obtain ⟨_, _, _, _, b, _⟩ := B33 p
  obtain ⟨_, _, _, _, c, _⟩ := B33 (k.length : Int)
  simp only [obyL, oby]
  exact (a.append (ht.append (b.append (c.append ihk)))).append ihl
theorem B997 {l : List Outline} (h : TxtO l) : Byt (obys l) := by
 obtain ⟨_, _, _, _, a, _⟩ := B33 (l.length : Int)
 exact a.append (B996 h)
theorem B986 {l : List Int} (hl : l.length <= 4001) (hm : ∀ x ∈ l, 0 <= x ∧ x < 257) : Z128 l = some 0 := by
 have go : ∀ (m k : Nat), k + m = l.length -> loop (Z128l4 l) (k : Int) = some (.inl ()) := by
  intro m
  induction m with
  | zero =>
   intro k hk
   refine B4 ?_
   unfold Z128l4
   simp only [A10, show ¬ k < l.length by omega, A9, A5, A4]
  | succ m ih =>
   intro k hk
   have hk' : k < l.length := by omega
   have hx := hm _ (rd_mem (l := l) (i := (k : Int)) (by omega) (by omega))
   have w2 : i64.wrap ((k : Int) + 1) = ((k + 1 : Nat) : Int) := w64 (by omega)
   rw [B5 (s' := ((k + 1 : Nat) : Int))]
   ·exact ih (k + 1) (by omega)
   ·unfold Z128l4
    simp only [A10, hk', A8, A6, A17, A15, show ¬ rd l (k : Int) < 0 by omega, show ¬ rd l (k : Int) ≥ 257 by omega, A9, A5, A4, w2]
 have h0 := go l.length 0 (by omega)
 have z0 : ((0 : Nat) : Int) = 0 := rfl
 rw [z0] at h0
 rw [Z128_eq, h0]
 simp only [show ¬ ((l.length : Nat) : Int) > 4001 by omega, A9, A5, A4, A1, A43]
theorem B972 : Z129 = some (iota 257) := by
 rw [Z129_eq]
 rw [A3 (by omega)]
 obtain ⟨r, r1, r2, r3⟩ := B460 (n := 257) (f := Z129l3) (h := fun i _ => (i : Int)) (V := fun _ => True)
  (fun i b x hb hx _ => by
   have hi := B6 hx
   have w2 : i64.wrap ((i : Int) + 1) = ((i + 1 : Nat) : Int) := w64 (by omega)
   unfold Z129l3
   simp only [show ((i : Nat) : Int) < 257 by omega, A8, A6, A17, A15, A10, hi, A12, w2])
  (fun b hb => by
   unfold Z129l3
   simp only [show ¬ ((257 : Nat) : Int) < 257 by omega, A9, A5, A4])
  257 0 (List.replicate 257 0) (by omega) A99 (fun _ _ _ _ => trivial)
 have er := B417 r3
 subst er
 have z0 : ((0 : Nat) : Int) = 0 := rfl
 rw [z0] at r1
 have r1' : loop Z129l3 (0, List.replicate (257 : Int).toNat 0) = some (iota 257) := r1
 simp only [r1', A1]
theorem B994 {l : List Int} {s : Int} {i : Nat} (h : l[i]? = some s) (hl : l.length <= 1000) : Z130 l (i : Int) = some (B104 l s i) := by
 have hi := B6 h
 rw [Z130_eq]
 have w2 : i64.wrap ((i : Int) + 1) = ((i + 1 : Nat) : Int) := w64 (by omega)
 have e1 : cutL l 0 i = l.take i := by simp [cutL]
 have e2 : cutL l (i + 1) l.length = l.drop (i + 1) := by simp [cutL]
 simp only [A17, A15, A10, hi, A6, A63, show i <= l.length by omega, A12, B18 h, w2, show i + 1 <= l.length by omega, e1, e2]
 rw [A3 (by simp; omega), A3 (by simp; omega)]
 rfl
theorem B787 {l all : List Int} {k i : Nat} {s : Int} (hk : l[k]? = some s) (h : FstAt all s i) (hl : all.length <= 1000) : ∀ (m j : Nat), j + m = i -> loop (Z90l10 l all (k : Int)) (j : Int) = some (i : Int) := by
 have hi := B6 h.1
 have hlt := B6 hk
 intro m
 induction m with
 | zero =>
  intro j hj
  have : j = i := by omega
  subst this
  refine B4 ?_
  unfold Z90l10
  simp only [A17, A15, A10, hi, hlt, A6, B18 h.1, B18 hk, A8, A14, A5, A4]
 | succ m ih =>
  intro j hj
  have hj' : j < all.length := by omega
  have hne : ¬ rd all (j : Int) = s := by
   intro e
   refine h.2 j (by omega) ?_
   rw [A18 hj', ← e, B18 (A18 hj')]
  have w2 : i64.wrap ((j : Int) + 1) = ((j + 1 : Nat) : Int) := w64 (by omega)
  rw [B5 (s' := ((j + 1 : Nat) : Int))]
  ·exact ih (j + 1) (by omega)
  ·unfold Z90l10
   simp only [A17, A15, A10, hj', hlt, A6, B18 hk, hne, A9, A46, w2]
theorem B489 {l : List Int} : ∀ (m : List Int) (n : Nat) (all out : List Int), l.drop n = m -> all.Perm (iota 257) -> (∀ x ∈ m, 0 <= x ∧ x < 257) -> out.length + m.length <= 100000 -> n + m.length <= 100000 ->
  loop (Z90l7 l) (all, (n : Int), out) = some (out ++ B45 all m)
 | [], n, all, out, hd, ha, hm, ho, hn => by
  refine B4 ?_
  have hln : l.length <= n := by
   have := congrArg List.length hd
   rw [A77, A35] at this
   omega
  unfold Z90l7
  simp only [A10, show ¬ n < l.length by omega, A9, A5, A4, B45, A38]
 | s :: m, n, all, out, hd, ha, hm, ho, hn => by
  have hget : l[n]? = some s := by
   have : (l.drop n)[0]? = some s := by rw [hd]; rfl
   simpa using this
  have hd' : l.drop (n + 1) = m := by rw [← A115, hd]; rfl
  have hlt := B6 hget
  have hs : s ∈ all := ha.mem_iff.2 (B71.2 (by have := hm s (by simp); omega))
  have hf := B236 hs
  have hal : all.length <= 1000 := by rw [ha.length_eq, B82]; omega
  simp only [A21] at ho hn
  have h := B489 m (n + 1) (B104 all s (pos all s)) (out ++ [(pos all s : Int)]) hd' ((B158 hf.1).trans ha) (fun x hx => hm x (by simp [hx])) (by simp; omega) (by omega)
  have w2 : i64.wrap ((n : Int) + 1) = ((n + 1 : Nat) : Int) := w64 (by omega)
  have hlp := B787 hget hf hal (pos all s) 0 (by omega)
  have z0 : ((0 : Nat) : Int) = 0 := rfl
  rw [z0] at hlp
  rw [B5 (s' := (B104 all s (pos all s), ((n + 1 : Nat) : Int), out ++ [(pos all s : Int)])), h, B45, A27]
  ·rfl
  ·unfold Z90l7
   simp only [A10, hlt, A8, A6, hlp, A1, B994 hf.1 hal, A26, w2]
   rw [A3 (by omega)]
theorem B927 {l : List Int} (hl : l.length <= 4001) (hm : ∀ x ∈ l, 0 <= x ∧ x < 257) : Z90 l = some (B45 (iota 257) l, 0) := by
 rw [Z90_eq, B986 hl hm, B972]
 have h := B489 (l := l) l 0 (iota 257) [] rfl (.refl _) hm (by simp; omega) (by omega)
 have z0 : ((0 : Nat) : Int) = 0 := rfl
 rw [z0] at h
 simp only [A1, A8, A14, A5, A4, h, A28]
def B107 (p : Int) : Int := if p = 0 then 0 else if p <= 15 then 48 else 96
theorem B796 (p : Int) : Z82 p = some (B107 p) ∧ Z93 p = some (B107 p) := by
 rw [Z82_eq, Z93_eq]
 unfold B107
 refine ⟨?_, ?_⟩
 ·by_cases h : p = 0
  ·simp [h]
  ·by_cases g : p <= 15 <;> simp [h, g]
 ·by_cases h : p = 0
  ·simp [h]
  ·by_cases g : p <= 15
   ·simp [h, g, show p < 16 by omega]
   ·simp [h, g, show ¬ p < 16 by omega]
def bitL (n : Int) : Nat := Nat.log2 (absN n + 1).toNat
theorem B586 {n : Int} {t : Nat} (h : Bits (absN n + 1) (t + 1)) : bitL n = t := by
 obtain ⟨_, h2, h3⟩ := h
 rw [show t + 1 - 1 = t by omega] at h2
 have h0 : 0 <= absN n + 1 := by have := A101 (n := 2) (m := t) (by decide); omega
 unfold bitL
 obtain ⟨m, hm⟩ := A73 h0
 rw [hm] at h2 h3 ⊢
 rw [A12]
 have g2 : 2 ^ t <= m := by exact_mod_cast h2
 have g3 : m < 2 ^ (t + 1) := by exact_mod_cast h3
 have hm0 : m ≠ 0 := by have := Nat.pow_pos (n := t) (show 0 < 2 by decide); omega
 have a1 := (Nat.le_log2 hm0).2 g2
 have a2 := (Nat.log2_lt hm0).2 g3
 omega
def evsP (last : Int) : List Int -> List (Int × Int)
 | [] => []
 | p :: m => prE (B107 last) (evAll p (bitL p)) ++ evsP p m
theorem B439 (last : Int) : 0 <= B107 last ∧ B107 last + 48 <= ((144 : Nat) : Int) := by
 unfold B107
 split
 ·omega
 ·split <;> omega
theorem B859 {l : List Int} (hm : ∀ x ∈ l, 0 <= x ∧ x < 257) (hl : l.length <= 4001) : ∀ (m : List Int) (n B : Nat) (last : Int) (s : EncS), l.drop n = m -> EncAt 144 B s -> B + 400 * m.length <= 10000000 ->
  loop (Z55l12 l) (last, (n : Int), s) = some (B22 s (evsP last m)) ∧ loop (Z61l12 l) (last, (n : Int), s) = some (B22 s (evsP last m)) ∧ EncAt 144 (B + 400 * m.length) (B22 s (evsP last m)) := by
 intro m
 induction m with
 | nil =>
  intro n B last s hd h hB
  have hln : l.length <= n := B61 hd
  refine ⟨B4 ?_, B4 ?_, h⟩
  ·unfold Z55l12
   simp only [A10, show ¬ n < l.length by omega, A9, A5, A4]
   rfl
  ·unfold Z61l12
   simp only [A10, show ¬ n < l.length by omega, A9, A5, A4]
   rfl
 | cons p m ih =>
  intro n B last s hd h hB
  obtain ⟨hget, hd', hlt⟩ := B49 hd
  rw [A21] at hB
  have hr : rd l (n : Int) = p := B18 hget
  have hx := hm p (A41 hget)
  obtain ⟨b1, b2⟩ := B796 last
  obtain ⟨t, t1, t2, p1, p2, p3⟩ := B729 (base := B107 last) (n := p) (N := 144) (B := B) (s := s) (B439 last) (by omega) (by omega) h (by omega)
  rw [← B586 t2] at p1 p2 p3
  obtain ⟨q1, q2, q3⟩ := ih (n + 1) (B + 400) p (B22 s (prE (B107 last) (evAll p (bitL p)))) hd' p3 (by omega)
  have w2 : i64.wrap ((n : Int) + 1) = ((n + 1 : Nat) : Int) := w64 (by omega)
  have ee : B22 s (evsP last (p :: m)) = B22 (B22 s (prE (B107 last) (evAll p (bitL p)))) (evsP p m) := by rw [evsP, B840]
  rw [ee]
  refine ⟨?_, ?_, by rw [A21, show B + 400 * (m.length + 1) = B + 400 + 400 * m.length by omega]; exact q3⟩
  ·rw [B5 (s' := (p, ((n + 1 : Nat) : Int), B22 s (prE (B107 last) (evAll p (bitL p)))))]
   ·exact q1
   ·unfold Z55l12
    simp only [A10, hlt, A8, A6, A17, A15, hr, b1, A1, p1, w2]
  ·rw [B5 (s' := (p, ((n + 1 : Nat) : Int), B22 s (prE (B107 last) (evAll p (bitL p)))))]
   ·exact q2
   ·unfold Z61l12
    simp only [A10, hlt, A8, A6, A17, A15, hr, b2, A1, p2, w2]
def enc0 : EncS := (0, 0, 4294967295, List.replicate 144 0, [])
noncomputable def endB (e : EncS) : List Int := e.2.2.2.2 ++ tbl e.2.2.1 (endN e.2.1 e.2.2.1)
noncomputable def packB (t s : List Int) : List Int := if t.length = 0 then szL t.length else szL t.length ++ endB (B22 enc0 (evsP 0 (B45 (iota 257) (s.map (colOf t)))))
theorem B925 {t : List Int} (hb : ∀ x ∈ t, 0 <= x ∧ x <= 255) : (t.length > 4000 ∧ Z55 t = some ([], 4) ∧ Z61 t = some ([], 4)) ∨
  (t.length <= 4000 ∧ ∃ s : List Int, s.Perm (iota (t.length + 1)) ∧ s.Pairwise (leS t) ∧ Z111 t = some (s.map (colOf t)) ∧ Z55 t = some (packB t s, 0) ∧ Z61 t = some (packB t s, 0) ∧ (packB t s).length <= 400 * t.length + 410) := by
 rw [Z55_eq, Z61_eq]
 rcases B774 hb with ⟨h, c1, c2⟩ | ⟨h, s, s2, s3, c0, c1, c2, c3, c4⟩
 ·rw [c1, c2]
  exact .inl ⟨h, rfl, rfl⟩
 ·rw [c1, c2]
  refine .inr ⟨h, s, s2, s3, c0, ?_⟩
  obtain ⟨se, z1, z4, z2, _, z3⟩ := B33 (t.length : Int)
  unfold packB
  generalize szL (t.length : Int) = sz at z1 z4 z2 ⊢
  by_cases h0 : t.length = 0
  ·rw [A3 h0]
   refine ⟨?_, ?_, by omega⟩
   ·simp only [A1, A8, A14, A5, A4, z4, show ((t.length : Nat) : Int) = 0 by omega, A6]
    simp [show ((t.length : Nat) : Int) = 0 by omega] at z4
    simp [z4]
   ·simp only [A1, A8, A14, A5, A4, z1, show ((t.length : Nat) : Int) = 0 by omega, A6]
    simp [show ((t.length : Nat) : Int) = 0 by omega] at z1
    simp [z1]
  ·rw [A7 h0]
   obtain ⟨n1, n2⟩ := B919 (kind := 0) (n := 144) (.inl rfl) (by omega) (by omega)
   obtain ⟨e1, e2, e3⟩ := B396 (kind := 0) (st := List.replicate (144 : Int).toNat 0) (.inl rfl) (by simp) (B376 (.inl rfl) _)
   have hcl : (s.map (colOf t)).length = t.length + 1 := by rw [A51, c3]
   generalize s.map (colOf t) = c at c4 hcl ⊢
   have f1 := B953 (l := c) (by omega) c4
   have f2 := B927 (l := c) (by omega) c4
   have fs := B278 (n := 257) c (iota 257) (.refl _) c4
   have fl := B369 c (iota 257)
   have h0' : EncAt 144 0 enc0 := ⟨e3, by simp [enc0], by simp [enc0]⟩
   obtain ⟨p1, p2, p3⟩ := B859 (l := B45 (iota 257) c) (fun x hx => fs x hx) (by omega) (B45 (iota 257) c) 0 0 0 enc0 rfl h0' (by omega)
   generalize B22 enc0 (evsP 0 (B45 (iota 257) c)) = r at p1 p2 p3 ⊢
   have z0 : ((0 : Nat) : Int) = 0 := rfl
   rw [z0] at p1 p2
   have p1' : loop (Z55l12 (B45 (iota 257) c)) (0, 0, 0, 0, 4294967295, List.replicate (144 : Int).toNat 0, []) = some r := p1
   have p2' : loop (Z61l12 (B45 (iota 257) c)) (0, 0, 0, 0, 4294967295, List.replicate (144 : Int).toNat 0, []) = some r := p2
   have g1 := B1059 (kind := r.1) (lo := r.2.1) (hi := r.2.2.1) (st := r.2.2.2.1) (out := r.2.2.2.2) p3.1.iv (by have := p3.2.2; omega)
   have g2 := B649 (kind := r.1) (lo := r.2.1) (hi := r.2.2.1) (st := r.2.2.2.1) (out := r.2.2.2.2) p3.1.iv (by have := p3.2.2; omega)
   have g3 : (tbl r.2.2.1 (endN r.2.1 r.2.2.1)).length <= 4 := by rw [B174]; exact (B264 p3.1.iv).1
   have hne : ¬ ((t.length : Nat) : Int) = 0 := by omega
   have hro : r.2.2.2.2.length <= 10000000 := by have := p3.2.2; omega
   unfold endB
   refine ⟨?_, ?_, by have := p3.2.2; simp; omega⟩
   ·simp only [A1, A8, A14, A5, A4, z4, hne, A9, n1, e1, A43, f1, p1', g1, g2]
    rw [A3 (by simp; omega)]
   ·simp only [A1, A8, A14, A5, A4, z1, hne, A9, n2, e2, A43, f2, p2', g2]
    rw [A3 (by simp; omega)]
theorem B128 (f : Int -> Bool) (n : Nat) : (iota (n + 1)).countP f = (iota n).countP f + if f (n : Int) = true then 1 else 0 := by
 unfold iota
 rw [List.range_succ, A88, List.countP_append]
 simp [A131]
theorem B185 (f : Int -> Bool) : ∀ n : Nat, (iota (n + 1)).countP f = (if f 0 = true then 1 else 0) + (iota n).countP (fun x => f (x + 1))
 | 0 => by rw [B128]; simp [iota]
 | n + 1 => by
  rw [B128, B185 f n, B128 (fun x => f (x + 1)) n]
  have : f (((n + 1 : Nat) : Int)) = f ((n : Int) + 1) := by congr 1
  rw [this]
  omega
theorem B415 {f g h : Int -> Bool} : ∀ l : List Int, (∀ x ∈ l, f x = (g x || h x) ∧ (g x && h x) = false) -> l.countP f = l.countP g + l.countP h
 | [], _ => rfl
 | x :: l, hx => by
  obtain ⟨h1, h2⟩ := hx x (A23 ..)
  rw [A131, A131, A131, B415 l fun y hy => hx y (A29 _ hy), h1]
  cases hg : g x <;> cases hh : h x <;> simp_all <;> omega
theorem B1062 {t : List Int} {a b : Int} (ha : 0 <= a ∧ a <= (t.length : Int)) (hb : 0 <= b ∧ b <= (t.length : Int)) (h : leS t a b) (hn : a ≠ b) : ltS t a b = true := by
 cases e : ltS t a b with
 | true => rfl
 | false => exact absurd (B716 ha hb h e) hn
theorem B818 {t s : List Int} (hp : s.Perm (iota (t.length + 1))) (hs : s.Pairwise (leS t)) {q : Nat} {x : Int} (hq : s[q]? = some x) :
  (∀ p ∈ s.take q, ltS t p x = true) ∧ (∀ p ∈ s.drop q, ltS t p x = false) := by
 have hnd : s.Nodup := hp.nodup_iff.2 (by
  unfold iota
  rw [List.nodup_iff_pairwise_ne, List.pairwise_map]
  exact List.nodup_range.imp fun h e => h (Int.ofNat.inj e))
 have hv : PlL t s := fun y hy => by
  have := B71.1 (hp.mem_iff.1 hy)
  omega
 have hql := B6 hq
 have e : s = s.take q ++ x :: s.drop (q + 1) := by
  have : s.drop q = x :: s.drop (q + 1) := by
   rw [A68 hql]
   congr 1
   exact (A42.1 hq).2
  rw [← this, A105]
 rw [e] at hs hnd
 have hs1 := A132.1 hs
 have hn1 := List.nodup_append.1 hnd
 have hx : x ∈ s := A41 hq
 refine ⟨fun p hpm => ?_, fun p hpm => ?_⟩
 ·exact B1062 (hv p (A81 hpm)) (hv x hx) (hs1.2.2 p hpm x (A23 ..)) (hn1.2.2 p hpm x (A23 ..))
 ·have hd : s.drop q = x :: s.drop (q + 1) := by
   rw [A68 hql]
   congr 1
   exact (A42.1 hq).2
  rw [hd] at hpm
  rcases A19.1 hpm with rfl | hpm
  ·exact (swoS t).irrefl _
  ·have := (List.pairwise_cons.1 hs1.2.1).1 p hpm
   exact this
theorem B530 {t s : List Int} (hp : s.Perm (iota (t.length + 1))) (hs : s.Pairwise (leS t)) {q : Nat} {x : Int} (hq : s[q]? = some x) (g : Int -> Bool) :
  s.countP (fun p => g p && ltS t p x) = (s.take q).countP g := by
 obtain ⟨h1, h2⟩ := B818 hp hs hq
 have e : s.countP (fun p => g p && ltS t p x) = (s.take q).countP (fun p => g p && ltS t p x) + (s.drop q).countP (fun p => g p && ltS t p x) := by
  rw [← List.countP_append, A105]
 rw [e]
 have e2 : (s.drop q).countP (fun p => g p && ltS t p x) = 0 := by
  rw [A133]
  intro p hpm
  rw [h2 p hpm]
  simp
 rw [e2, A36]
 refine List.countP_congr fun p hpm => ?_
 rw [h1 p hpm]
 simp
theorem B518 {t : List Int} {j : Nat} (h : j < t.length) : sfx t (j : Int) = rd t (j : Int) :: sfx t ((j : Int) + 1) := by
 have hd : t.drop j = t[j] :: t.drop (j + 1) := A68 h
 unfold sfx
 rw [A12, hd, show ((j : Int) + 1).toNat = j + 1 by omega]
 congr 1
 unfold rd
 rw [A12, A96, A18 h]
 rfl
theorem B965 {t s : List Int} (hb : ∀ x ∈ t, 0 <= x) (hp : s.Perm (iota (t.length + 1))) (hs : s.Pairwise (leS t)) {r j : Nat} (hj : j < t.length) (hr : s[r]? = some ((j : Int) + 1)) :
  s[(s.map (colOf t)).countP (fun x => decide (x < colOf t ((j : Int) + 1))) + ((s.map (colOf t)).take r).countP (fun x => decide (x = colOf t ((j : Int) + 1)))]? = some (j : Int) := by
 have hmem : (j : Int) ∈ s := hp.mem_iff.2 (B71.2 (by omega))
 obtain ⟨q, hq⟩ := A76 hmem
 have hc : colOf t ((j : Int) + 1) = rd t (j : Int) + 1 := by
  unfold colOf
  rw [A7 (by omega), show (j : Int) + 1 - 1 = (j : Int) by omega]
 have hrd : ∀ i : Nat, i < t.length -> 0 <= rd t (i : Int) := fun i hi => hb _ (A41 (B208 (xs := t) (i := (i : Int)) (by omega) (by omega)))
 -- how many suffixes are below this one
 have e1 := B530 hp hs hq (fun _ => true)
 simp only [A49, List.countP_true, A24] at e1
 have hql := B6 hq
 rw [Nat.min_eq_left (by omega)] at e1
 have e2 : s.countP (fun p => ltS t p (j : Int)) = (iota (t.length + 1)).countP (fun p => ltS t p (j : Int)) := hp.countP_eq _
 have e3 : (iota (t.length + 1)).countP (fun p => ltS t p (j : Int)) = (iota (t.length + 1)).countP (fun p => decide (p = 0) || ltS t (p - 1) (j : Int)) := by
  rw [B128, B185]
  have h1 : ltS t (t.length : Int) (j : Int) = true := by
   unfold ltS
   rw [B518 hj]
   have : sfx t (t.length : Int) = [] := by unfold sfx; simp
   rw [this]
   rfl
  have h2 : (iota t.length).countP (fun x => decide (x + 1 = 0) || ltS t (x + 1 - 1) (j : Int)) = (iota t.length).countP (fun p => ltS t p (j : Int)) := by
   refine List.countP_congr fun x hx => ?_
   have := B71.1 hx
   rw [show x + 1 - 1 = x by omega, decide_eq_false (show ¬ x + 1 = 0 by omega), Bool.false_or]
  rw [h1, h2]
  simp
  omega
 have e4 : (iota (t.length + 1)).countP (fun p => decide (p = 0) || ltS t (p - 1) (j : Int)) =
   (iota (t.length + 1)).countP (fun p => decide (colOf t p < colOf t ((j : Int) + 1))) + (iota (t.length + 1)).countP (fun p => decide (colOf t p = colOf t ((j : Int) + 1)) && ltS t p ((j : Int) + 1)) := by
  refine B415 _ fun p hpm => ?_
  have hp01 := B71.1 hpm
  by_cases h0 : p = 0
  ·subst h0
   have : colOf t 0 = 0 := by simp [colOf]
   have h1 := hrd j hj
   rw [this, hc]
   have g1 : (0 : Int) < rd t (j : Int) + 1 := by omega
   have g2 : ¬ (0 : Int) = rd t (j : Int) + 1 := by omega
   simp [g1, g2]
  ·obtain ⟨i, rfl⟩ : ∃ i : Nat, p = (i : Int) + 1 := ⟨(p - 1).toNat, by omega⟩
   have hi : i < t.length := by omega
   have hci : colOf t ((i : Int) + 1) = rd t (i : Int) + 1 := by
    unfold colOf
    rw [A7 (by omega), show (i : Int) + 1 - 1 = (i : Int) by omega]
   rw [hci, hc, show (i : Int) + 1 - 1 = (i : Int) by omega]
   have hlt : ltS t (i : Int) (j : Int) = (decide (rd t (i : Int) < rd t (j : Int)) || (decide (rd t (i : Int) = rd t (j : Int)) && ltS t ((i : Int) + 1) ((j : Int) + 1))) := by
    unfold ltS
    rw [B518 hi, B518 hj]
    simp only [cmpI]
    by_cases q1 : rd t (i : Int) < rd t (j : Int)
    ·simp [q1]
    ·by_cases q2 : rd t (j : Int) < rd t (i : Int)
     ·have : ¬ rd t (i : Int) = rd t (j : Int) := by omega
      simp [q1, q2, this]
     ·have : rd t (i : Int) = rd t (j : Int) := by omega
      simp [q1, q2, this]
   have d1 : decide ((i : Int) + 1 = 0) = false := decide_eq_false (by omega)
   rw [hlt, d1, Bool.false_or]
   have d2 : decide (rd t (i : Int) + 1 < rd t (j : Int) + 1) = decide (rd t (i : Int) < rd t (j : Int)) := by
    by_cases q : rd t (i : Int) < rd t (j : Int)
    ·rw [decide_eq_true q, decide_eq_true (by omega)]
    ·rw [decide_eq_false q, decide_eq_false (by omega)]
   have d3 : decide (rd t (i : Int) + 1 = rd t (j : Int) + 1) = decide (rd t (i : Int) = rd t (j : Int)) := by
    by_cases q : rd t (i : Int) = rd t (j : Int)
    ·rw [decide_eq_true q, decide_eq_true (by omega)]
    ·rw [decide_eq_false q, decide_eq_false (by omega)]
   rw [d2, d3]
   refine ⟨rfl, ?_⟩
   by_cases q : rd t (i : Int) < rd t (j : Int)
   ·have : ¬ rd t (i : Int) = rd t (j : Int) := by omega
    simp [this]
   ·simp [q]
 have e5 : (iota (t.length + 1)).countP (fun p => decide (colOf t p = colOf t ((j : Int) + 1)) && ltS t p ((j : Int) + 1)) = (s.take r).countP (fun p => decide (colOf t p = colOf t ((j : Int) + 1))) := by
  rw [← hp.countP_eq]
  exact B530 hp hs hr _
 have e6 : (iota (t.length + 1)).countP (fun p => decide (colOf t p < colOf t ((j : Int) + 1))) = s.countP (fun p => decide (colOf t p < colOf t ((j : Int) + 1))) := (hp.countP_eq _).symm
 have e7 : (s.map (colOf t)).countP (fun x => decide (x < colOf t ((j : Int) + 1))) + ((s.map (colOf t)).take r).countP (fun x => decide (x = colOf t ((j : Int) + 1))) = q := by
  rw [← List.map_take, List.countP_map, List.countP_map]
  rw [← e1, e2, e3, e4, e5, e6]
  rfl
 rw [e7]
 exact hq
theorem B887 {t s : List Int} (hp : s.Perm (iota (t.length + 1))) (hs : s.Pairwise (leS t)) : s[0]? = some (t.length : Int) := by
 have hmem : (t.length : Int) ∈ s := hp.mem_iff.2 (B71.2 (by omega))
 obtain ⟨q, hq⟩ := A76 hmem
 obtain ⟨h1, _⟩ := B818 hp hs hq
 cases q with
 | zero => exact hq
 | succ q =>
  cases hh : s with
  | nil => rw [hh] at hq; simp at hq
  | cons a l =>
   have := h1 a (by rw [hh]; simp)
   unfold ltS at this
   have e : sfx t (t.length : Int) = [] := by unfold sfx; simp
   rw [e] at this
   cases hx : sfx t a with
   | nil => rw [hx] at this; simp [cmpI] at this
   | cons b m => rw [hx] at this; simp [cmpI] at this
def B160 : List Int -> List Int -> List Int
 | _, [] => []
 | all, p :: m => rd all p :: B160 (B104 all (rd all p) p.toNat) m
theorem B498 : ∀ (m all : List Int), (∀ x ∈ m, x ∈ all) -> B160 all (B45 all m) = m
 | [], _, _ => rfl
 | s :: m, all, h => by
  have hf := B236 (h s (A23 ..))
  rw [B45, B160, A12, B18 hf.1, B498 m _ fun x hx => ((B158 hf.1).mem_iff).2 (h x (A29 _ hx))]
def tb (n : Nat) (f : Nat -> Int) : List Int := (List.range n).map f
theorem B157 (n : Nat) (f : Nat -> Int) : (tb n f).length = n := by simp [tb]
theorem B437 {n i : Nat} (f : Nat -> Int) (h : i < n) : (tb n f)[i]? = some (f i) := by
 unfold tb
 rw [A45, A82 h]
 rfl
theorem tb_rd {n i : Nat} (f : Nat -> Int) (h : i < n) : rd (tb n f) (i : Int) = f i := B18 (B437 f h)
theorem B124 {n : Nat} {f g : Nat -> Int} (h : ∀ k, k < n -> f k = g k) : tb n f = tb n g := A129 fun k hk => h k (A87.1 hk)
theorem B576 {n i : Nat} (f : Nat -> Int) (v : Int) : (tb n f).set i v = tb n fun k => if k = i then v else f k := by
 refine A98 fun k => ?_
 rw [List.getElem?_set]
 by_cases hk : k < n
 ·rw [B437 f hk, B157, B437 _ hk]
  by_cases e : i = k
  ·subst e; simp [hk]
  ·rw [A7 e, A7 fun q => e q.symm]
 ·rw [A65 (by rw [B157]; omega), A65 (by rw [B157]; omega), B157]
  split
  ·simp [hk]; omega
  ·rfl
theorem B462 (n : Nat) : List.replicate n (0 : Int) = tb n fun _ => 0 := by
 refine A98 fun k => ?_
 by_cases hk : k < n
 ·rw [B437 _ hk, A126, A3 hk]
 ·rw [A65 (by simp; omega), A65 (by rw [B157]; omega)]
def below (l : List Int) (s : Int) : Nat := l.countP fun x => decide (x < s)
def like (l : List Int) (s : Int) : Nat := l.countP fun x => decide (x = s)
theorem B638 {l : List Int} {k : Nat} {x : Int} (h : l[k]? = some x) (s : Int) : like (l.take (k + 1)) s = like (l.take k) s + if x = s then 1 else 0 := by
 unfold like
 rw [A107, h, List.countP_append]
 simp [A131]
theorem B827 (l : List Int) (s : Int) : below l (s + 1) = below l s + like l s := by
 unfold below like
 refine B415 l fun x _ => ?_
 by_cases h : x < s
 ·simp [h, show x < s + 1 by omega, show ¬ x = s by omega]
 ·by_cases e : x = s
  ·simp [e]; omega
  ·simp [h, e, show ¬ x < s + 1 by omega]
theorem B828 {l : List Int} (h : ∀ x ∈ l, 0 <= x) : below l 0 = 0 := by
 unfold below
 rw [A133]
 intro x hx
 have := h x hx
 simp; omega
theorem B718 (l : List Int) (s : Int) : like l s <= l.length := List.countP_le_length
theorem B608 (l : List Int) (s : Int) : below l s <= l.length := List.countP_le_length
def B122 (l : List Int) (i : Nat) : Nat := below l (rd l (i : Int)) + like (l.take i) (rd l (i : Int))
theorem B950 {t s : List Int} (hb : ∀ x ∈ t, 0 <= x) (hp : s.Perm (iota (t.length + 1))) (hs : s.Pairwise (leS t)) {r j : Nat} (hj : j < t.length) (hr : s[r]? = some ((j : Int) + 1)) :
  rd (s.map (colOf t)) (r : Int) = rd t (j : Int) + 1 ∧ s[B122 (s.map (colOf t)) r]? = some (j : Int) := by
 have e : rd (s.map (colOf t)) (r : Int) = colOf t ((j : Int) + 1) := B18 (by rw [A45, hr]; rfl)
 refine ⟨?_, ?_⟩
 ·rw [e]
  unfold colOf
  rw [A7 (by omega), show (j : Int) + 1 - 1 = (j : Int) by omega]
 ·have := B965 hb hp hs hj hr
  unfold B122 below like
  rw [e]
  exact this
theorem B998 {t s : List Int} (hb : ∀ x ∈ t, 0 <= x) (hp : s.Perm (iota (t.length + 1))) : like (s.map (colOf t)) 0 = 1 := by
 unfold like
 rw [List.countP_map, hp.countP_eq, B185]
 have h : (iota t.length).countP (fun x => ((fun x => decide (x = 0)) ∘ colOf t) (x + 1)) = 0 := by
  rw [A133]
  intro x hx
  obtain ⟨h0, h1⟩ := B71.1 hx
  have := hb _ (rd_mem (l := t) (i := x) h0 h1)
  simp only [Function.comp, colOf, A7 (show ¬ x + 1 = 0 by omega), show x + 1 - 1 = x by omega, A20]
  omega
 rw [h]
 simp [colOf]
def sizeL (n : Nat) : List Int := if n < 128 then [(n : Int)] else [((n / 128 + 128 : Nat) : Int), ((n % 128 : Nat) : Int)]
theorem B432 (n : Nat) : 1 <= (sizeL n).length ∧ (sizeL n).length <= 2 := by unfold sizeL; split <;> simp
theorem B209 {n : Nat} (h : n < 16384) : szL (n : Int) = sizeL n := by
 have hd : loop Z87l5 (0, sizeL n) = some (sizeL n) := by
  refine B4 ?_
  unfold Z87l5
  simp only [show ¬ (0 : Int) > 0 by decide, A9, A5, A4]
 have hl : loop Z87l5 ((n : Int) / 128, [u8.wrap ((n : Int) % 128)]) = some (sizeL n) := by
  rw [← hd]
  by_cases h1 : n < 128
  ·unfold sizeL
   rw [A3 h1, w8, show (n : Int) / 128 = 0 by omega, show (n : Int) % 128 % 256 = (n : Int) by omega]
  ·refine B5 ?_
   unfold Z87l5 sizeL
   rw [A7 h1, w8]
   simp only [show (n : Int) / 128 > 0 by omega, A8, A6, A26]
   rw [A3 (by omega), B27 (by omega), B20 (by omega), w64 (n := (n : Int) / 128 / 128) (by omega), w64 (n := 128 + (n : Int) / 128 % 128) (by omega), w8, show (n : Int) / 128 / 128 = 0 by omega, show (128 + (n : Int) / 128 % 128) % 256 = ((n / 128 + 128 : Nat) : Int) by omega, show (n : Int) % 128 % 256 = ((n % 128 : Nat) : Int) by omega]
   rfl
 unfold szL
 rw [Z87_eq]
 have n1 : ¬ (n : Int) < 0 := by omega
 have n2 : ¬ (n : Int) > 2147483647 := by omega
 simp only [n1, n2, A9, A5, A4, A1]
 rw [B27 (by omega), B20 (by omega), w64 (n := (n : Int) / 128) (by omega), hl]
 rfl
def Has (b : List Int) (at_ : Nat) (l : List Int) : Prop := ∀ k x, l[k]? = some x -> b[at_ + k]? = some x
theorem Has.app {b : List Int} {at_ : Nat} {l m : List Int} (h : Has b at_ (l ++ m)) : Has b at_ l ∧ Has b (at_ + l.length) m := by
 refine ⟨fun k x hk => h k x ?_, fun k x hk => ?_⟩
 ·rw [A57 (B6 hk)]; exact hk
 ·have := h (l.length + k) x (by rw [A48 (by omega), Nat.add_sub_cancel_left]; exact hk)
  rwa [← A58] at this
theorem Has.all (b : List Int) : Has b 0 b := fun k x hk => by rwa [A22]
theorem Has.left {l : List Int} (m : List Int) : Has (l ++ m) 0 l := fun k x hk => by rw [A22, A57 (B6 hk)]; exact hk
theorem B260 {n : Nat} (hn : n < 16384) {b : List Int} {at_ : Nat} (h : Has b at_ (sizeL n)) (hl : b.length <= 100000000) : Z103 b (at_ : Int) = some ((n : Int), ((at_ + (sizeL n).length : Nat) : Int), 0) := by
 have hlen := B432 n
 have h0 : at_ < b.length := by
  have := B6 (h 0 ((sizeL n)[0]'(by omega)) (A18 (by omega)))
  omega
 rw [Z103_eq]
 have n1 : ¬ (at_ : Int) < 0 := by omega
 have n2 : ¬ (at_ : Int) > ((b.length : Nat) : Int) := by omega
 simp only [iteD, n1, n2, A4, A9, A1, A5]
 unfold sizeL at h ⊢
 by_cases hs : n < 128
 ·rw [A3 hs] at h ⊢
  have r0 : rd b (at_ : Int) = (n : Int) := B18 (h 0 _ rfl)
  have st : Z103l4 b (at_ : Int) (0, 0) = some (.inr (.inr ((n : Int), ((at_ + 1 : Nat) : Int), 0))) := by
   unfold Z103l4
   simp only [iteD, Int.add_zero]
   rw [A3 (by decide), w64 (n := (at_ : Int)) (by omega), A7 (by omega), A3 (by omega), r0, w64 (n := (n : Int)) (by omega), A3 (by omega), B20 (by omega)]
   have e : i64.wrap (i64.wrap (0 * 128) + (n : Int) % 128) = (n : Int) := by
    rw [w64 (n := 0 * 128) (by decide), w64 (by omega)]; omega
   have n3 : ¬ (n : Int) > 2147483647 := by omega
   rw [e]
   simp only [n3, A4, show ¬ ((0 : Int) > 0) by decide, A1, A5]
   rw [w64 (n := (at_ : Int) + 1) (by omega)]
   rfl
  rw [B4 st]
  rfl
 ·rw [A7 hs] at h ⊢
  have r0 : rd b (at_ : Int) = ((n / 128 + 128 : Nat) : Int) := B18 (h 0 _ rfl)
  have r1 : rd b ((at_ : Int) + 1) = ((n % 128 : Nat) : Int) := B18 (i := at_ + 1) (h 1 _ rfl)
  have h1 : at_ + 1 < b.length := B6 (h 1 _ rfl)
  have st : Z103l4 b (at_ : Int) (0, 0) = some (.inl (((n / 128 : Nat) : Int), 1)) := by
   unfold Z103l4
   simp only [iteD, Int.add_zero]
   rw [A3 (by decide), w64 (n := (at_ : Int)) (by omega), A7 (by omega), A3 (by omega), r0, w64 (n := ((n / 128 + 128 : Nat) : Int)) (by omega), A7 (by omega), B20 (by omega)]
   have e : i64.wrap (i64.wrap (0 * 128) + ((n / 128 + 128 : Nat) : Int) % 128) = ((n / 128 : Nat) : Int) := by
    rw [w64 (n := 0 * 128) (by decide), w64 (by omega)]; omega
   rw [e]
   rfl
  have st2 : Z103l4 b (at_ : Int) (((n / 128 : Nat) : Int), 1) = some (.inr (.inr ((n : Int), ((at_ + 2 : Nat) : Int), 0))) := by
   unfold Z103l4
   simp only [iteD]
   rw [A3 (by decide), w64 (n := (at_ : Int) + 1) (by omega), A7 (by omega), A3 (by omega), r1, w64 (n := ((n % 128 : Nat) : Int)) (by omega), A3 (by omega), B20 (by omega)]
   have e : i64.wrap (i64.wrap (((n / 128 : Nat) : Int) * 128) + ((n % 128 : Nat) : Int) % 128) = (n : Int) := by
    rw [w64 (n := ((n / 128 : Nat) : Int) * 128) (by omega), w64 (by omega)]; omega
   have n3 : ¬ (n : Int) > 2147483647 := by omega
   have n4 : ¬ ((n / 128 + 128 : Nat) : Int) = 128 := by omega
   rw [e]
   simp only [n3, A4, show ((1 : Int) > 0) by decide, A6]
   rw [A3 (by omega), r0]
   simp only [n4, A9, A1, A5, A4]
   rw [w64 (n := (at_ : Int) + 1 + 1) (by omega)]
   rfl
  rw [B5 st, B4 st2]
  rfl
theorem B1064 {lo hi p : Int} (h : Iv lo hi) (hp : 0 <= p) (hp2 : p < 4096) : u64.wrap (u64.wrap (lo + u64.wrap (u64.wrap ((u64.wrap (hi - lo)).tdiv 4096) * u64.wrap p)) + u64.wrap ((u64.wrap ((u64.wrap (hi - lo)).tmod 4096 * u64.wrap p)).tdiv 4096)) = midV lo hi p := by
 obtain ⟨h0, h1, h2⟩ := h
 have a1 : 0 <= (hi - lo) / 4096 * p := A119 (by omega) hp
 have a2 : (hi - lo) / 4096 * p <= (hi - lo) / 4096 * 4095 := A120 (by omega) (by omega)
 have a3 : 0 <= (hi - lo) % 4096 * p := A119 (by omega) hp
 have a4 : (hi - lo) % 4096 * p <= (hi - lo) % 4096 * 4095 := A120 (by omega) (by omega)
 unfold midV
 simp only [wu64, show (hi - lo) % 18446744073709551616 = hi - lo by omega, B27 (show 0 <= hi - lo by omega), B20 (show 0 <= hi - lo by omega), show p % 18446744073709551616 = p by omega,
  show (hi - lo) / 4096 % 18446744073709551616 = (hi - lo) / 4096 by omega]
 rw [show (hi - lo) % 4096 * p % 18446744073709551616 = (hi - lo) % 4096 * p by omega, B27 a3]
 omega
def byt (C : List Int) (i : Nat) : Int := C[i]?.getD 0
def win (C : List Int) (n : Nat) : Int := byt C n * 16777216 + byt C (n + 1) * 65536 + byt C (n + 2) * 256 + byt C (n + 3)
def Bytes (C : List Int) : Prop := ∀ x ∈ C, 0 <= x ∧ x < 256
theorem B53 {C : List Int} (h : Bytes C) (i : Nat) : 0 <= byt C i ∧ byt C i < 256 := by
 unfold byt
 cases e : C[i]? with
 | none => exact ⟨by decide, by decide⟩
 | some x => exact h x (A41 e)
theorem B952 {C : List Int} (h : Bytes C) (n : Nat) : 0 <= win C n ∧ win C n < 4294967296 := by
 unfold win
 have h0 := B53 h n
 have h1 := B53 h (n + 1)
 have h2 := B53 h (n + 2)
 have h3 := B53 h (n + 3)
 omega
theorem B766 {C : List Int} (h : Bytes C) (n : Nat) : win C (n + 1) = win C n % 16777216 * 256 + byt C (n + 4) ∧ win C n / 16777216 = byt C n ∧ win C n % 16777216 = win C (n + 1) / 256 := by
 unfold win
 have h0 := B53 h n
 have h1 := B53 h (n + 1)
 have h2 := B53 h (n + 2)
 have h3 := B53 h (n + 3)
 have h4 := B53 h (n + 4)
 rw [show n + 1 + 1 = n + 2 by omega, show n + 1 + 2 = n + 3 by omega, show n + 1 + 3 = n + 4 by omega]
 omega
def Lies (C : List Int) (lo hi : Int) (out : List Int) : Prop := (∃ s, C = out ++ s) ∧ lo <= win C out.length ∧ win C out.length <= hi
theorem B552 {C : List Int} (hC : Bytes C) : ∀ (n : Nat) (lo hi : Int) (out : List Int), Iv lo hi -> Lies C (flush n lo hi out).1 (flush n lo hi out).2.1 (flush n lo hi out).2.2 -> Lies C lo hi out
 | 0, lo, hi, out, h, hL => hL
 | n + 1, lo, hi, out, h, hL => by
  unfold flush at hL
  by_cases e : lo / 16777216 = hi / 16777216
  ·rw [A3 e] at hL
   obtain ⟨⟨s, hs⟩, h1, h2⟩ := B552 hC n _ _ _ (h.shift e).1 hL
   obtain ⟨i0, i1, i2⟩ := h
   rw [A13, A26] at h1 h2
   obtain ⟨w1, w2, w3⟩ := B766 hC out.length
   have hb : byt C out.length = hi / 16777216 := by
    unfold byt
    rw [hs, A27, A48 (A11 _), A104]
    rfl
   exact ⟨⟨[hi / 16777216] ++ s, by rw [hs, A27]⟩, by omega, by omega⟩
  ·rw [A7 e] at hL
   exact hL
def LiesE (C : List Int) (e : EncS) : Prop := Lies C e.2.1 e.2.2.1 e.2.2.2.2
theorem B637 {C : List Int} (hC : Bytes C) {e : EncS} (h : EncO e) {v : Int × Int} (hv : EvP e.2.2.2.1.length v) (hL : LiesE C (B19 e v)) : LiesE C e ∧ (v.2 = 1 ↔ win C e.2.2.2.2.length <= cutV e v.1) := by
 obtain ⟨_, m1, m2⟩ := B448 h hv.1
 obtain ⟨hp, h1, h2⟩ := B552 hC 4 _ _ _ (B461 h hv.1 (b := v.2)) hL
 unfold subV at h1 h2
 by_cases hb : v.2 = 1
 ·rw [A3 hb] at h1 h2
  simp only at h1 h2
  exact ⟨⟨hp, h1, by omega⟩, by simp only [hb, true_iff]; exact h2⟩
 ·rw [A7 hb] at h1 h2
  simp only at h1 h2
  exact ⟨⟨hp, by omega, h2⟩, by simp only [hb, false_iff]; omega⟩
theorem B939 (hi : Int) : ∀ (n i : Nat), (tbl hi n)[i]? = if i < n then some (tbyte hi i) else none
 | 0, i => by simp [tbl]
 | n + 1, i => by
  simp only [tbl]
  rcases A117 i n with h | h | h
  ·rw [A57 (by rw [B174]; exact h), B939 hi n, A3 h, A3 (by omega)]
  ·subst h
   rw [A48 (by rw [B174]; exact A11 _), B174, A104, A3 (by omega)]
   rfl
  ·rw [A7 (by omega), A65 (by rw [A13, B174, A26]; omega)]
theorem B825 {lo hi : Int} (h : Iv lo hi) {out : List Int} {n : Nat} (hn : n <= 4) : win (out ++ tbl hi n) out.length = cutH hi n := by
 obtain ⟨i0, i1, i2⟩ := h
 have hb : ∀ j, byt (out ++ tbl hi n) (out.length + j) = if j < n then tbyte hi j else 0 := fun j => by
  unfold byt
  rw [A48 (by omega), Nat.add_sub_cancel_left, B939]
  split <;> rfl
 have b0 := hb 0
 have b1 := hb 1
 have b2 := hb 2
 have b3 := hb 3
 rw [A36] at b0
 unfold win
 rw [b0, b1, b2, b3]
 rcases n with _ | _ | _ | _ | _ | n <;> simp [cutH, tbyte] <;> omega
theorem B654 {hi : Int} (h0 : 0 <= hi) : ∀ n, Bytes (tbl hi n)
 | 0 => fun x hx => by simp [tbl] at hx
 | n + 1 => fun x hx => by
  rcases A44.1 hx with hx | hx
  ·exact B654 h0 n x hx
  ·rw [A61.1 hx]
   rcases n with _ | _ | _ | n <;> simp only [tbyte] <;> omega
theorem B988 {e : EncS} (h : Iv e.2.1 e.2.2.1) : LiesE (e.2.2.2.2 ++ tbl e.2.2.1 (endN e.2.1 e.2.2.1)) e := by
 obtain ⟨n1, n2, n3⟩ := B264 h
 refine ⟨⟨_, rfl⟩, ?_, ?_⟩
 ·rw [B825 h n1]; exact n3
 ·rw [B825 h n1]
  obtain ⟨i0, i1, i2⟩ := h
  generalize endN e.2.1 e.2.2.1 = n
  rcases n with _ | _ | _ | _ | n <;> simp only [cutH] <;> omega
theorem B477 : ∀ (n : Nat) (lo hi : Int) (out : List Int), Iv lo hi -> Bytes out -> Bytes (flush n lo hi out).2.2
 | 0, lo, hi, out, h, hb => hb
 | n + 1, lo, hi, out, h, hb => by
  unfold flush
  by_cases e : lo / 16777216 = hi / 16777216
  ·rw [A3 e]
   refine B477 n _ _ _ (h.shift e).1 fun x hx => ?_
   rcases A44.1 hx with hx | hx
   ·exact hb x hx
   ·obtain ⟨i0, i1, i2⟩ := h
    rw [A61.1 hx]; omega
  ·rw [A7 e]
   exact hb
theorem uorb {n b : Int} (h0 : 0 <= n) (h1 : n < 18446744073709551616) (h : n % 256 = 0) (b0 : 0 <= b) (b1 : b < 256) : ior .u64 n b = n + b := by
 obtain ⟨m, rfl⟩ := A73 h0
 obtain ⟨c, rfl⟩ := A73 b0
 unfold ior
 rw [show IntKind.u64.bits = 64 from rfl, ubv, ubv, BitVec.toNat_or, BitVec.toNat_ofNat, BitVec.toNat_ofNat, wu64]
 rw [A89 (show m < 2 ^ 64 by omega), A89 (show c < 2 ^ 64 by omega)]
 obtain ⟨k, hk⟩ : ∃ k, m = 2 ^ 8 * k := ⟨m / 256, by omega⟩
 subst hk
 rw [← Nat.two_pow_add_eq_or_of_lt (show c < 2 ^ 8 by omega)]
 omega
theorem shv {v b : Int} (h0 : 0 <= v) (h1 : v < 4294967296) (b0 : 0 <= b) (b1 : b < 256) : ior .u64 (iand .u64 (ishl .u64 v 8) 4294967295) (u64.wrap b) = v % 16777216 * 256 + b := by
 have e : u64.wrap b = b := by rw [wu64]; omega
 rw [ushl8 h0 h1, B441 (by omega) (by omega), e, uorb (by omega) (by omega) (by omega) b0 b1]
 omega
theorem B888 {C : List Int} {i : Nat} (h : i < C.length) : rd C (i : Int) = byt C i := by
 unfold rd byt
 rw [A12, A96]
theorem B797 {C : List Int} {i : Nat} (h : C.length <= i) : byt C i = 0 := by
 unfold byt
 rw [A65 h]
 rfl
def beyd (C : List Int) (n : Nat) : Int := ((n - C.length : Nat) : Int)
theorem B306 {kind lo hi v : Int} {st C : List Int} (hC : Bytes C) {n : Nat} (hn : n < 1000000000) (h0 : 0 <= v) (h1 : v < 4294967296) :
  Z141 kind lo hi (n : Int) v (beyd C n) st C = some (kind, lo, hi, ((n + 1 : Nat) : Int), v % 16777216 * 256 + byt C n, beyd C (n + 1), st, C) := by
 have hb := B53 hC n
 rw [Z141_eq]
 unfold beyd
 by_cases h : (n : Int) < ((C.length : Nat) : Int)
 ·simp only [h, A8, A6]
  rw [A3 ⟨by omega, trivial⟩, B888 (by omega)]
  simp only [A1]
  rw [w64 (n := (n : Int) + 1) (by omega), shv h0 h1 hb.1 hb.2, show n + 1 - C.length = n - C.length by omega]
  rfl
 ·simp only [h, A9, A5, A4, A1]
  rw [w64 (n := (n : Int) + 1) (by omega), w64 (n := ((n - C.length : Nat) : Int) + 1) (by omega), shv h0 h1 (by decide) (by decide), B797 (by omega), show n + 1 - C.length = n - C.length + 1 by omega]
  rfl
theorem B935 {kind lo hi : Int} {st C : List Int} {en : Bool} (hC : Bytes C) {n : Nat} (hn : n < 1000000000) :
  Z171 kind lo hi C ((n + 4 : Nat) : Int) (win C n) (beyd C (n + 4)) en st = some (kind, lo, hi, C, ((n + 1 + 4 : Nat) : Int), win C (n + 1), beyd C (n + 1 + 4), en, st) := by
 have hb := B53 hC (n + 4)
 have hw := B952 hC n
 rw [Z171_eq, (B766 hC n).1]
 unfold beyd
 by_cases h : ((n + 4 : Nat) : Int) < ((C.length : Nat) : Int)
 ·simp only [h, A8, A6]
  rw [A3 ⟨by omega, trivial⟩, B888 (by omega)]
  simp only [A1]
  rw [w64 (n := ((n + 4 : Nat) : Int) + 1) (by omega), shv hw.1 hw.2 hb.1 hb.2, show n + 1 + 4 - C.length = n + 4 - C.length by omega, show ((n + 1 + 4 : Nat) : Int) = ((n + 4 : Nat) : Int) + 1 by omega]
 ·simp only [h, A9, A5, A4, A1]
  rw [w64 (n := ((n + 4 : Nat) : Int) + 1) (by omega), w64 (n := ((n + 4 - C.length : Nat) : Int) + 1) (by omega), shv hw.1 hw.2 (by decide) (by decide), B797 (by omega), show n + 1 + 4 - C.length = n + 4 - C.length + 1 by omega, show ((n + 1 + 4 : Nat) : Int) = ((n + 4 : Nat) : Int) + 1 by omega]
  rfl
theorem B992 {kind lo hi at_ v bey : Int} {st C : List Int} {en : Bool} (h : Iv lo hi) : ∃ b, Z170 kind lo hi C at_ v bey en st = some (b, kind, lo % 16777216 * 256, hi % 16777216 * 256 + 255, C, at_, v, bey, en, st) := by
 obtain ⟨h0, h1, h2⟩ := h
 rw [Z170_eq]
 simp only
 rw [B246, ushl8 h0 (by omega), ushl8 (by omega) h2, B441 (by omega) (by omega), B441 (by omega) (by omega), B943 (by omega) (by omega) (by omega), w8]
 refine ⟨lo / 16777216 % 256, ?_⟩
 congr 4
 ·omega
 ·congr 1
  omega
theorem B712 {kind : Int} {st C : List Int} (hC : Bytes C) : ∀ (n : Nat) (lo hi : Int) (out : List Int), Iv lo hi -> gapOf n <= hi - lo -> out.length + n <= 900000000 ->
  loop Z142l12 (kind, lo, hi, C, ((out.length + 4 : Nat) : Int), win C out.length, beyd C (out.length + 4), false, st) =
   some (kind, (flush n lo hi out).1, (flush n lo hi out).2.1, C, (((flush n lo hi out).2.2.length + 4 : Nat) : Int), win C (flush n lo hi out).2.2.length, beyd C ((flush n lo hi out).2.2.length + 4), false, st)
 | 0, lo, hi, out, h, hg, hl => by
  refine B4 ?_
  unfold Z142l12
  simp only [Z169_eq, B246, A1]
  simp only [gapOf] at hg
  have hne : ¬ lo / 16777216 = hi / 16777216 := by obtain ⟨h0, h1, h2⟩ := h; omega
  simp only [hne, A9, A5, A4, flush]
 | n + 1, lo, hi, out, h, hg, hl => by
  by_cases e : lo / 16777216 = hi / 16777216
  ·obtain ⟨h1, h2⟩ := h.shift e
   have hs : (out ++ [hi / 16777216]).length = out.length + 1 := by simp
   have ih := B712 (kind := kind) (st := st) hC n _ _ (out ++ [hi / 16777216]) h1 (by rw [h2]; exact B370 hg (by have := h.2.1; omega)) (by rw [hs]; omega)
   rw [hs] at ih
   rw [B5 (s' := (kind, lo % 16777216 * 256, hi % 16777216 * 256 + 255, C, ((out.length + 1 + 4 : Nat) : Int), win C (out.length + 1), beyd C (out.length + 1 + 4), false, st)), ih]
   ·simp only [flush, e, A6]
   ·obtain ⟨b, hb⟩ := B992 (kind := kind) (at_ := ((out.length + 4 : Nat) : Int)) (v := win C out.length) (bey := beyd C (out.length + 4)) (st := st) (C := C) (en := false) h
    unfold Z142l12
    simp only [Z169_eq, B246, A1, hb, B935 hC (show out.length < 1000000000 by omega)]
    simp only [e, A8, A6]
  ·refine B4 ?_
   unfold Z142l12
   simp only [Z169_eq, B246, A1]
   simp only [e, A9, A5, A4, flush]
noncomputable def decS (C : List Int) (e : EncS) : Int × Int × Int × List Int × Int × Int × Int × Bool × List Int := (e.1, e.2.1, e.2.2.1, C, ((e.2.2.2.2.length + 4 : Nat) : Int), win C e.2.2.2.2.length, beyd C (e.2.2.2.2.length + 4), false, e.2.2.2.1)
theorem B1024 {C : List Int} (hC : Bytes C) {e : EncS} (h : EncO e) {v : Int × Int} (hv : EvP e.2.2.2.1.length v) (hl : e.2.2.2.2.length <= 800000000) (hL : LiesE C (B19 e v)) :
  Z142 v.1 e.1 e.2.1 e.2.2.1 C ((e.2.2.2.2.length + 4 : Nat) : Int) (win C e.2.2.2.2.length) (beyd C (e.2.2.2.2.length + 4)) false e.2.2.2.1 =
   some (v.2, 0, (B19 e v).1, (B19 e v).2.1, (B19 e v).2.2.1, C, (((B19 e v).2.2.2.2.length + 4 : Nat) : Int), win C (B19 e v).2.2.2.2.length, beyd C ((B19 e v).2.2.2.2.length + 4), false, (B19 e v).2.2.2.1) := by
 have hbit := (B637 hC h hv hL).2
 obtain ⟨⟨tl, hpre⟩, _⟩ := hL
 obtain ⟨kind, lo, hi, st, out⟩ := e
 obtain ⟨c, b⟩ := v
 obtain ⟨hc, hb⟩ := hv
 obtain ⟨hs, m1, m2⟩ := B448 h hc
 obtain ⟨q1, q2, q3⟩ := B890 hs
 rw [← B615 hs] at q1
 have hiv := B461 h hc (b := b)
 have hlt := h.lt
 obtain ⟨i0, i1, i2⟩ := h.iv
 simp only at hc hb hs m1 m2 q1 q2 q3 hlt i0 i1 i2 hl hbit ⊢
 have hn := (B597 hs hb).trans (B921 hs hb).1
 have hloop := B712 (kind := kind) (st := st.set c.toNat (nxV kind (rd st c) b)) hC 4 _ _ out hiv (gap4 hiv) (by omega)
 have hbey : ¬ beyd C ((B19 (kind, lo, hi, st, out) (c, b)).2.2.2.2.length + 4) > 4 := by
  have : (B19 (kind, lo, hi, st, out) (c, b)).2.2.2.2.length <= C.length := by rw [hpre, A13]; omega
  unfold beyd
  omega
 rw [Z142_eq, Z166_eq]
 have c1 : ¬ c < 0 := by omega
 have c2 : ¬ c ≥ ((st.length : Nat) : Int) := by omega
 have em : Z167 c kind lo hi C ((out.length + 4 : Nat) : Int) (win C out.length) (beyd C (out.length + 4)) false st = some (cutV (kind, lo, hi, st, out) c, kind, lo, hi, C, ((out.length + 4 : Nat) : Int), win C out.length, beyd C (out.length + 4), false, st) := by
  rw [Z167_eq, A3 hc]
  simp only [q1, A1]
  rw [B1064 h.iv q2 q3]
  rfl
 have et : Z168 c b (cutV (kind, lo, hi, st, out) c) kind lo hi C ((out.length + 4 : Nat) : Int) (win C out.length) (beyd C (out.length + 4)) false st = some (kind, (subV (kind, lo, hi, st, out) c b).1, (subV (kind, lo, hi, st, out) c b).2, C, ((out.length + 4 : Nat) : Int), win C out.length, beyd C (out.length + 4), false, st.set c.toNat (nxV kind (rd st c) b)) := by
  rw [Z168_eq]
  have hw : u64.wrap (cutV (kind, lo, hi, st, out) c + 1) = cutV (kind, lo, hi, st, out) c + 1 := by rw [wu64]; omega
  unfold subV
  by_cases h1 : b = 1
  ·simp only [h1, A8, A6, A1, hc, A31]
   rw [h1] at hn
   rw [hn]
   rfl
  ·simp only [h1, A9, A5, A4, A1, hc, A31, A6, hw, hn]
 have eb : (if decide (win C out.length <= cutV (kind, lo, hi, st, out) c) = true then some 1 else some 0 : Option Int) = some b := by
  simp only [A20]
  by_cases h1 : b = 1
  ·rw [A3 (hbit.1 h1), h1]
  ·rw [A7 fun q => h1 (hbit.2 q)]
   rcases hb with rfl | rfl
   ·rfl
   ·exact absurd rfl h1
 simp only [c1, c2, A9, A5, A4, A1, A43, em, eb, et]
 rw [A3 hc, hloop]
 simp only [A1]
 have hbey' : ¬ beyd C ((flush 4 (subV (kind, lo, hi, st, out) c b).1 (subV (kind, lo, hi, st, out) c b).2 out).2.2.length + 4) > 4 := hbey
 simp only [hbey', A9, A5, A4]
 rfl
theorem B622 {n : Nat} : ∀ (l : List (Int × Int)) (e : EncS), EncO e -> e.2.2.2.1.length = n -> (∀ v ∈ l, EvP n v) -> EncO (B22 e l) ∧ (B22 e l).2.2.2.1.length = n ∧ (B22 e l).2.2.2.2.length <= e.2.2.2.2.length + 4 * l.length
 | [], e, h, hn, _ => ⟨h, hn, by simp [B22]⟩
 | v :: l, e, h, hn, hv => by
  subst hn
  obtain ⟨h1, h2, h3⟩ := B197 h (hv v (A23 ..))
  obtain ⟨k1, k2, k3⟩ := B622 l (B19 e v) h1 h2 fun u hu => hv u (A29 _ hu)
  refine ⟨k1, k2, ?_⟩
  rw [A21]
  show (B22 (B19 e v) l).2.2.2.2.length <= _
  omega
theorem B636 {C : List Int} (hC : Bytes C) {n : Nat} : ∀ (l : List (Int × Int)) (e : EncS), EncO e -> e.2.2.2.1.length = n -> (∀ v ∈ l, EvP n v) -> LiesE C (B22 e l) -> LiesE C e
 | [], e, _, _, _, hL => hL
 | v :: l, e, h, hn, hv, hL => by
  subst hn
  obtain ⟨h1, h2, h3⟩ := B197 h (hv v (A23 ..))
  have := B636 hC l (B19 e v) h1 h2 (fun u hu => hv u (A29 _ hu)) hL
  exact (B637 hC h (hv v (A23 ..)) this).1
theorem B870 {e : EncS} (h : EncO e) {v : Int × Int} (hv : EvP e.2.2.2.1.length v) (hb : Bytes e.2.2.2.2) : Bytes (B19 e v).2.2.2.2 := B477 4 _ _ _ (B461 h hv.1) hb
theorem B607 {n : Nat} : ∀ (l : List (Int × Int)) (e : EncS), EncO e -> e.2.2.2.1.length = n -> (∀ v ∈ l, EvP n v) -> Bytes e.2.2.2.2 -> Bytes (B22 e l).2.2.2.2
 | [], e, _, _, _, hb => hb
 | v :: l, e, h, hn, hv, hb => by
  subst hn
  obtain ⟨h1, h2, h3⟩ := B197 h (hv v (A23 ..))
  exact B607 l (B19 e v) h1 h2 (fun u hu => hv u (A29 _ hu)) (B870 h (hv v (A23 ..)) hb)
theorem B676 {C : List Int} (hC : Bytes C) (hl : C.length <= 900000000) : Z104 0 (List.replicate 144 0) C = some (Sum.inl (decS C enc0)) := by
 obtain ⟨v1, _⟩ := B757 (kind := 0) (st := List.replicate 144 0) (.inl rfl) (by simp) (B376 (.inl rfl) _)
 have b1 : Z113 0 (List.replicate 144 0) = some (0, 0, 4294967295, List.replicate 144 0) := by
  rw [Z113_eq, (B363 (kind := 0) (st := List.replicate 144 0) (by simp)).1, Z152_eq]
  rfl
 have b0 := B53 hC 0
 have b1' := B53 hC 1
 have b2 := B53 hC 2
 have b3 := B53 hC 3
 have s0 := B306 (kind := 0) (lo := 0) (hi := 4294967295) (st := List.replicate 144 0) hC (n := 0) (v := 0) (by omega) (by decide) (by decide)
 have s1 := B306 (kind := 0) (lo := 0) (hi := 4294967295) (st := List.replicate 144 0) hC (n := 1) (v := 0 % 16777216 * 256 + byt C 0) (by omega) (by omega) (by omega)
 have s2 := B306 (kind := 0) (lo := 0) (hi := 4294967295) (st := List.replicate 144 0) hC (n := 2) (v := (0 % 16777216 * 256 + byt C 0) % 16777216 * 256 + byt C 1) (by omega) (by omega) (by omega)
 have s3 := B306 (kind := 0) (lo := 0) (hi := 4294967295) (st := List.replicate 144 0) hC (n := 3) (v := ((0 % 16777216 * 256 + byt C 0) % 16777216 * 256 + byt C 1) % 16777216 * 256 + byt C 2) (by omega) (by omega) (by omega)
 have hb0 : beyd C 0 = 0 := by unfold beyd; omega
 rw [hb0] at s0
 have ew : (((0 % 16777216 * 256 + byt C 0) % 16777216 * 256 + byt C 1) % 16777216 * 256 + byt C 2) % 16777216 * 256 + byt C 3 = win C 0 := by
  unfold win
  simp only [A22]
  omega
 have step : ∀ (k : Nat) (a v b : Int) (r : Int × Int × Int × Int × Int × Int × List Int × List Int), k < 4 -> Z141 0 0 4294967295 a v b (List.replicate 144 0) C = some r -> Z104l5 ((k : Int), List.replicate 144 0, C, 0, 0, 4294967295, a, v, b) = some (Sum.inl (((k + 1 : Nat) : Int), r.2.2.2.2.2.2.1, r.2.2.2.2.2.2.2, r.1, r.2.1, r.2.2.1, r.2.2.2.1, r.2.2.2.2.1, r.2.2.2.2.2.1)) := by
  intro k a v b r hk h
  unfold Z104l5
  simp only [show ((k : Nat) : Int) < 4 by omega, A8, A6, h, A1]
  rw [w64 (n := (k : Int) + 1) (by omega)]
  rfl
 rw [Z104_eq, v1]
 simp only [A1, A14, A5, A4, b1, A28, A35, A22]
 rw [A3 (by omega)]
 have l0 := step 0 _ _ _ _ (by omega) s0
 have l1 := step 1 _ _ _ _ (by omega) s1
 have l2 := step 2 _ _ _ _ (by omega) s2
 have l3 := step 3 _ _ _ _ (by omega) s3
 rw [ew] at l3
 have l4 : Z104l5 (((4 : Nat) : Int), List.replicate 144 0, C, 0, 0, 4294967295, ((4 : Nat) : Int), win C 0, beyd C 4) = some (Sum.inr (List.replicate 144 0, C, 0, 0, 4294967295, ((4 : Nat) : Int), win C 0, beyd C 4)) := by
  unfold Z104l5
  simp only [show ¬ ((4 : Nat) : Int) < 4 by omega, A9, A5, A4]
 have hlp : loop Z104l5 (0, List.replicate 144 0, C, 0, 0, 4294967295, 0, 0, 0) = some (List.replicate 144 0, C, 0, 0, 4294967295, ((4 : Nat) : Int), win C 0, beyd C 4) := by
  have := (B5 l0).trans ((B5 l1).trans ((B5 l2).trans ((B5 l3).trans (B4 l4))))
  exact this
 rw [hlp]
 rfl
structure At (C : List Int) (e : EncS) (l : List (Int × Int)) : Prop where
 byts : Bytes C
 ok : EncO e
 n : e.2.2.2.1.length = 144
 ev : ∀ v ∈ l, EvP 144 v
 lies : LiesE C (B22 e l)
 small : e.2.2.2.2.length + 4 * l.length <= 800000000
theorem At.get {C : List Int} {e : EncS} {c b : Int} {l : List (Int × Int)} (h : At C e ((c, b) :: l)) : Z142 c (decS C e).1 (decS C e).2.1 (decS C e).2.2.1 (decS C e).2.2.2.1 (decS C e).2.2.2.2.1 (decS C e).2.2.2.2.2.1 (decS C e).2.2.2.2.2.2.1 (decS C e).2.2.2.2.2.2.2.1 (decS C e).2.2.2.2.2.2.2.2 = some (b, 0, decS C (B19 e (c, b))) ∧ At C (B19 e (c, b)) l := by
 have hv : EvP e.2.2.2.1.length (c, b) := by rw [h.n]; exact h.ev _ (A23 ..)
 obtain ⟨k1, k2, k3⟩ := B197 h.ok hv
 have hs := h.small
 rw [A21] at hs
 have hev : ∀ v ∈ l, EvP 144 v := fun u hu => h.ev u (A29 _ hu)
 have hn : (B19 e (c, b)).2.2.2.1.length = 144 := by rw [k2]; exact h.n
 exact ⟨B1024 h.byts h.ok hv (by omega) (B636 h.byts l _ k1 hn hev h.lies), ⟨h.byts, k1, hn, hev, h.lies, by omega⟩⟩
theorem B842 {C : List Int} {e : EncS} : Z142 (-1) (decS C e).1 (decS C e).2.1 (decS C e).2.2.1 (decS C e).2.2.2.1 (decS C e).2.2.2.2.1 (decS C e).2.2.2.2.2.1 (decS C e).2.2.2.2.2.2.1 (decS C e).2.2.2.2.2.2.2.1 (decS C e).2.2.2.2.2.2.2.2 = some (0, 2, decS C e) := by
 rw [Z142_eq, Z166_eq]
 rfl
theorem B336 {α : Type} (f : Nat -> α) {t c : Nat} (h : c < t) : ((List.range t).map f).drop c = f c :: ((List.range t).map f).drop (c + 1) := by
 rw [A68 (by simpa using h)]
 simp
theorem B731 {C : List Int} {base : Int} {t : Nat} (hb : 0 <= base ∧ base <= 1000) (ht : t <= 20) {rest : List (Int × Int)} : ∀ (d c : Nat) (e : EncS), c + d = t -> At C e (prE base ((B30 t).drop c) ++ (prE base (if t < 20 then [⟨1 + (t : Int), 0⟩] else []) ++ rest)) ->
  ∃ e', loop (Z144l5 base) ((c : Int), (decS C e).1, (decS C e).2.1, (decS C e).2.2.1, (decS C e).2.2.2.1, (decS C e).2.2.2.2.1, (decS C e).2.2.2.2.2.1, (decS C e).2.2.2.2.2.2.1, (decS C e).2.2.2.2.2.2.2.1, (decS C e).2.2.2.2.2.2.2.2, false, 0) = some (Sum.inl ((t : Int), (decS C e').1, (decS C e').2.1, (decS C e').2.2.1, (decS C e').2.2.2.1, (decS C e').2.2.2.2.1, (decS C e').2.2.2.2.2.1, (decS C e').2.2.2.2.2.2.1, (decS C e').2.2.2.2.2.2.2.1, (decS C e').2.2.2.2.2.2.2.2, false, 0)) ∧ At C e' rest
 | 0, c, e, hc, h => by
  obtain rfl : c = t := by omega
  rw [A100 (by simp [B30])] at h
  by_cases h20 : c < 20
  ·rw [A3 h20] at h
   have h' : At C e ((base + (1 + (c : Int)), 0) :: rest) := h
   obtain ⟨g1, g2⟩ := h'.get
   refine ⟨_, B4 ?_, g2⟩
   unfold Z144l5
   simp only [show (c : Int) < 20 by omega, A8, A6]
   rw [w64 (n := base + 1) (by omega), w64 (n := base + 1 + (c : Int)) (by omega), show base + 1 + (c : Int) = base + (1 + (c : Int)) by omega, g1]
   rfl
  ·rw [A7 h20] at h
   refine ⟨e, B4 ?_, h⟩
   unfold Z144l5
   simp only [show ¬ (c : Int) < 20 by omega, A9, A5, A4]
 | d + 1, c, e, hc, h => by
  have hget : (B30 t).drop c = ⟨1 + (c : Int), 1⟩ :: (B30 t).drop (c + 1) := B336 _ (by omega)
  rw [hget] at h
  have h' : At C e ((base + (1 + (c : Int)), 1) :: (prE base ((B30 t).drop (c + 1)) ++ (prE base (if t < 20 then [⟨1 + (t : Int), 0⟩] else []) ++ rest))) := h
  obtain ⟨g1, g2⟩ := h'.get
  obtain ⟨e', r1, r2⟩ := B731 hb ht d (c + 1) _ (by omega) g2
  refine ⟨e', ?_, r2⟩
  rw [← r1]
  refine B5 ?_
  unfold Z144l5
  simp only [show (c : Int) < 20 by omega, A8, A6]
  rw [w64 (n := base + 1) (by omega), w64 (n := base + 1 + (c : Int)) (by omega), show base + 1 + (c : Int) = base + (1 + (c : Int)) by omega, g1, w64 (n := (c : Int) + 1) (by omega)]
  rfl
theorem B977 {x : Int} {k : Nat} : 2 * (x / 2 ^ (k + 1)) + bitN x k = x / 2 ^ k := by
 have : x / 2 ^ (k + 1) = x / 2 ^ k / 2 := by
  rw [Int.pow_succ, Int.ediv_ediv_of_nonneg (Int.le_of_lt (A101 (by decide)))]
 rw [this]
 unfold bitN
 omega
theorem B814 {C : List Int} {base x : Int} {t : Nat} (hb : 0 <= base ∧ base <= 1000) (ht : t <= 20) (h0 : 0 <= x) (h1 : x < 16777216) {rest : List (Int × Int)} : ∀ (d i : Nat) (e : EncS), i + d = t -> At C e (prE base ((evMid t x).drop i) ++ rest) ->
  ∃ e' w, loop (Z144l14 base (t : Int)) (x / 2 ^ (t - i), (i : Int), (decS C e).1, (decS C e).2.1, (decS C e).2.2.1, (decS C e).2.2.2.1, (decS C e).2.2.2.2.1, (decS C e).2.2.2.2.2.1, (decS C e).2.2.2.2.2.2.1, (decS C e).2.2.2.2.2.2.2.1, (decS C e).2.2.2.2.2.2.2.2, false, 0, tailB i) = some (Sum.inl (x, (decS C e').1, (decS C e').2.1, (decS C e').2.2.1, (decS C e').2.2.2.1, (decS C e').2.2.2.2.1, (decS C e').2.2.2.2.2.1, (decS C e').2.2.2.2.2.2.1, (decS C e').2.2.2.2.2.2.2.1, (decS C e').2.2.2.2.2.2.2.2, false, 0, w)) ∧ At C e' rest
 | 0, i, e, hc, h => by
  obtain rfl : i = t := by omega
  rw [A100 (by simp [evMid])] at h
  refine ⟨e, tailB i, B4 ?_, h⟩
  unfold Z144l14
  simp only [A109, A9, A5, A4, A104, Int.pow_zero, Int.ediv_one]
 | d + 1, i, e, hc, h => by
  have hget : (evMid t x).drop i = ⟨if i = 0 then 23 + (t : Int) else min (43 + (i : Int)) 47, bitN x (t - 1 - i)⟩ :: (evMid t x).drop (i + 1) := B336 _ (by omega)
  rw [hget] at h
  have h' : At C e ((base + (if i = 0 then 23 + (t : Int) else min (43 + (i : Int)) 47), bitN x (t - 1 - i)) :: (prE base ((evMid t x).drop (i + 1)) ++ rest)) := h
  obtain ⟨g1, g2⟩ := h'.get
  obtain ⟨e', w, r1, r2⟩ := B814 hb ht h0 h1 d (i + 1) _ (by omega) g2
  refine ⟨e', w, ?_, r2⟩
  rw [← r1]
  refine B5 ?_
  have hp : (0 : Int) < 2 ^ (t - i) := A101 (by decide)
  have q0 : 0 <= x / 2 ^ (t - i) := Int.ediv_nonneg h0 (Int.le_of_lt hp)
  have q1 : x / 2 ^ (t - i) <= x := Int.ediv_le_self _ h0
  have hbit : 0 <= bitN x (t - 1 - i) ∧ bitN x (t - 1 - i) < 2 := by unfold bitN; omega
  have hv : 2 * (x / 2 ^ (t - i)) + bitN x (t - 1 - i) = x / 2 ^ (t - (i + 1)) := by
   have := B977 (x := x) (k := t - 1 - i)
   rw [show t - 1 - i + 1 = t - i by omega] at this
   rw [this, show t - 1 - i = t - (i + 1) by omega]
  have hc : ((if decide ((i : Int) > 0) = true then (Z159 (tailB i)).bind fun q95 => some (q95.1, q95.2) else some (i64.wrap (23 + (t : Int)), tailB i)) : Option (Int × Int)) = some (if i = 0 then 23 + (t : Int) else min (43 + (i : Int)) 47, tailB (i + 1)) := by
   simp only [iteD]
   rw [w64 (n := 23 + (t : Int)) (by omega)]
   by_cases c : i = 0
   ·rw [A7 (by omega), A3 c]
    subst c
    rfl
   ·rw [A3 (by omega), A7 c, Z159_eq]
    have hk : -100 <= tailB i ∧ tailB i <= 47 := by unfold tailB; split <;> omega
    simp only [A1, B345]
    rw [w64 (n := tailB i + 1) (by omega)]
    unfold tailB
    by_cases c1 : i <= 1
    ·have : i = 1 := by omega
     subst this; rfl
    ·rw [A7 c1, A7 (by omega)]
     congr 2
     omega
  have hctx : -1000 <= (if i = 0 then 23 + (t : Int) else min (43 + (i : Int)) 47) ∧ (if i = 0 then 23 + (t : Int) else min (43 + (i : Int)) 47) <= 1000 := by split <;> omega
  unfold Z144l14
  simp only [show (i : Int) < (t : Int) by omega, A8, A6]
  rw [hc]
  simp only [A1]
  rw [w64 (n := base + (if i = 0 then 23 + (t : Int) else min (43 + (i : Int)) 47)) (by omega), g1, w64 (n := 2 * (x / 2 ^ (t - i))) (by omega)]
  simp only [A1, A8, A14, A5, A4]
  rw [w64 (n := 2 * (x / 2 ^ (t - i)) + bitN x (t - 1 - i)) (by omega), hv, w64 (n := (i : Int) + 1) (by omega)]
  rfl
theorem B728 {C : List Int} {e : EncS} {base n : Int} {rest : List (Int × Int)} (hb : 0 <= base ∧ base + 48 <= 144) (hn : 0 <= n ∧ n <= 1048576) (h : At C e (prE base (evAll n (bitL n)) ++ rest)) :
  ∃ e', Z105 base (decS C e).1 (decS C e).2.1 (decS C e).2.2.1 (decS C e).2.2.2.1 (decS C e).2.2.2.2.1 (decS C e).2.2.2.2.2.1 (decS C e).2.2.2.2.2.2.1 (decS C e).2.2.2.2.2.2.2.1 (decS C e).2.2.2.2.2.2.2.2 = some (false, n, 0, decS C e') ∧ At C e' rest := by
 obtain ⟨t, t1, t2, _⟩ := B367 (n := n) (by omega)
 rw [B586 t2] at h
 have ha : absN n = n := by unfold absN; omega
 have e1 : prE base (evAll n t) ++ rest = (base, 0) :: (prE base ((B30 t).drop 0) ++ (prE base (if t < 20 then [⟨1 + (t : Int), 0⟩] else []) ++ (prE base ((evMid t (n + 1)).drop 0) ++ (prE base (if n = 0 then [] else [⟨22, 0⟩]) ++ rest)))) := by
  unfold evAll prE
  rw [ha, A7 (show ¬ n < 0 by omega)]
  simp
 rw [e1] at h
 rw [ha] at t2
 obtain ⟨_, b2, b3⟩ := t2
 rw [show t + 1 - 1 = t by omega] at b2
 obtain ⟨g1, g2⟩ := h.get
 obtain ⟨f, f1, f2⟩ := B731 (by omega) t1 t 0 _ (by omega) g2
 obtain ⟨k, w, k1, k2⟩ := B814 (x := n + 1) (by omega) t1 (by omega) (by omega) t 0 f (by omega) f2
 have z0 : ((0 : Nat) : Int) = 0 := rfl
 rw [z0] at f1 k1
 have hx : (n + 1) / 2 ^ (t - 0) = 1 := by
  rw [Nat.sub_zero]
  have hp : (0 : Int) < 2 ^ t := A101 (by decide)
  rw [Int.pow_succ] at b3
  have a1 := (Int.le_ediv_iff_mul_le hp).2 (show 1 * 2 ^ t <= n + 1 by omega)
  have a2 := Int.ediv_lt_of_lt_mul hp (show n + 1 < 2 * 2 ^ t by omega)
  omega
 rw [hx] at k1
 have k1' : loop (Z144l14 base (t : Int)) (1, 0, (decS C f).1, (decS C f).2.1, (decS C f).2.2.1, (decS C f).2.2.2.1, (decS C f).2.2.2.2.1, (decS C f).2.2.2.2.2.1, (decS C f).2.2.2.2.2.2.1, (decS C f).2.2.2.2.2.2.2.1, (decS C f).2.2.2.2.2.2.2.2, false, 0, 44) = some (Sum.inl (n + 1, (decS C k).1, (decS C k).2.1, (decS C k).2.2.1, (decS C k).2.2.2.1, (decS C k).2.2.2.2.1, (decS C k).2.2.2.2.2.1, (decS C k).2.2.2.2.2.2.1, (decS C k).2.2.2.2.2.2.2.1, (decS C k).2.2.2.2.2.2.2.2, false, 0, w)) := k1
 have hlen : (decS C e).2.2.2.2.2.2.2.2.length = 144 := h.n
 have hm : Z143 (decS C e).1 (decS C e).2.1 (decS C e).2.2.1 (decS C e).2.2.2.1 (decS C e).2.2.2.2.1 (decS C e).2.2.2.2.2.1 (decS C e).2.2.2.2.2.2.1 (decS C e).2.2.2.2.2.2.2.1 (decS C e).2.2.2.2.2.2.2.2 = some ((decS C e).1, (decS C e).2.2.2.2.2.2.2.2, decS C e) := by
  rw [Z143_eq, Z166_eq]
  simp only [A1, A5, A4]
  rw [(B363 (by rw [hlen]; omega)).1]
  rfl
 have hg : ∃ e', Z144 base (decS C e).1 (decS C e).2.1 (decS C e).2.2.1 (decS C e).2.2.2.1 (decS C e).2.2.2.2.1 (decS C e).2.2.2.2.2.1 (decS C e).2.2.2.2.2.2.1 (decS C e).2.2.2.2.2.2.2.1 (decS C e).2.2.2.2.2.2.2.2 = some (false, n, 0, decS C e') ∧ At C e' rest := by
  rw [Z144_eq, g1]
  simp only [A1, A8, A14, A5, A4, show ¬ ((0 : Int) = 1) by decide, A9]
  rw [f1]
  simp only [A1, A43]
  rw [k1']
  simp only [A1, A43, show ¬ (n + 1 > 1048577) by omega, A9, A5, A4]
  by_cases hz : n = 0
  ·subst hz
   exact ⟨k, rfl, k2⟩
  ·rw [A7 hz] at k2
   have k3 : At C k ((base + 22, 0) :: rest) := k2
   obtain ⟨y1, y2⟩ := k3.get
   refine ⟨_, ?_, y2⟩
   simp only [show ¬ (n + 1 = 1) by omega, A9, A5, A4]
   rw [w64 (n := base + 22) (by omega), y1]
   simp only [A1, A8, A14, A5, A4]
   rw [w64 (n := n + 1 - 1) (by omega), w64 (n := 2 * 0) (by omega), w64 (n := 1 - 2 * 0) (by omega), w64 (by omega), show (n + 1 - 1) * (1 - 2 * 0) = n by omega]
 obtain ⟨e', r1, r2⟩ := hg
 refine ⟨e', ?_, r2⟩
 rw [Z105_eq, B842]
 simp only [A1, show ¬ ((2 : Int) = 7) by decide, A9, A5, A4]
 rw [hm]
 simp only [A1]
 rw [Z121_eq]
 simp only [iteD, hlen]
 rw [A7 (by omega), w64 (by omega), A7 (by omega)]
 simp only [A1, A8, A14, A5, A4]
 rw [r1]
 rfl
theorem B121 {S A : Type} {f : S -> Option (S ⊕ A)} (F : Nat -> S) {n : Nat} {a : A} (h : ∀ k, k < n -> f (F k) = some (.inl (F (k + 1)))) (he : f (F n) = some (.inr a)) : ∀ d k, k + d = n -> loop f (F k) = some a
 | 0, k, hk => by
  obtain rfl : k = n := by omega
  exact B4 he
 | d + 1, k, hk => by
  rw [B5 (h k (by omega))]
  exact B121 F h he d (k + 1) (by omega)
theorem B916 {l : List Int} {s : Int} (h : ∀ x ∈ l, x ≠ s) : like l s = 0 := by
 unfold like
 rw [A133]
 intro x hx
 simpa using h x hx
theorem B639 {l : List Int} (hl : l.length <= 4001) (k : Nat) (s : Int) : like (l.take k) s <= 4001 := by
 have h1 := B718 (l.take k) s
 have : (l.take k).length <= l.length := by rw [A24]; omega
 omega
section
variable {l : List Int} (hm : ∀ x ∈ l, 0 <= x ∧ x < 257) (hl : l.length <= 4001)
include hm hl
theorem B940 : loop (Z107l3 l) (0, List.replicate 258 0) = some (tb 258 fun q => (like l ((q : Int) - 1) : Int)) := by
 have := B121 (f := Z107l3 l) (fun k => ((k : Int), tb 258 fun q => (like (l.take k) ((q : Int) - 1) : Int))) (n := l.length) (a := tb 258 fun q => (like l ((q : Int) - 1) : Int)) (fun k hk => by
  have hget : l[k]? = some l[k] := A18 hk
  have hx := hm l[k] (A92 hk)
  obtain ⟨m, hmm⟩ := A73 hx.1
  have hb := B639 hl k (m : Int)
  have hv : rd (tb 258 fun q => (like (l.take k) ((q : Int) - 1) : Int)) ((m + 1 : Nat) : Int) = (like (l.take k) (m : Int) : Int) := by
   rw [tb_rd _ (show m + 1 < 258 by omega)]
   congr 2
   omega
  unfold Z107l3
  simp only [A10, hk, A8, A6, A17, A15, B18 hget, hmm]
  rw [w64 (n := (m : Int) + 1) (by omega), show (m : Int) + 1 = ((m + 1 : Nat) : Int) by omega, B157]
  simp only [hv]
  rw [A3 (by omega), A3 (by omega), w64 (n := (like (l.take k) (m : Int) : Int) + 1) (by omega), w64 (n := (k : Int) + 1) (by omega), A12, B576]
  have : (tb 258 fun q => if q = m + 1 then (like (l.take k) (m : Int) : Int) + 1 else (like (l.take k) ((q : Int) - 1) : Int)) = tb 258 fun q => (like (l.take (k + 1)) ((q : Int) - 1) : Int) := B124 fun q hq => by
   rw [B638 hget, hmm]
   by_cases e : q = m + 1
   ·rw [A3 e, A3 (by omega), show (q : Int) - 1 = (m : Int) by omega]; omega
   ·rw [A7 e, A7 (by omega)]; omega
  rw [this]
  rfl) (by
  unfold Z107l3
  simp only [A109, A9, A5, A4, A94]) l.length 0 (by omega)
 rw [B462 258]
 have e0 : (tb 258 fun q => (like (l.take 0) ((q : Int) - 1) : Int)) = tb 258 fun _ => 0 := B124 fun q _ => by simp [like]
 simp only [e0] at this
 exact this
theorem B1056 : loop Z107l10 (0, tb 258 fun q => (like l ((q : Int) - 1) : Int)) = some (tb 258 fun q => (below l (q : Int) : Int)) := by
 have := B121 (f := Z107l10) (fun k => ((k : Int), tb 258 fun q => if q <= k then (below l (q : Int) : Int) else (like l ((q : Int) - 1) : Int))) (n := 257) (a := tb 258 fun q => (below l (q : Int) : Int)) (fun k hk => by
  have b1 := B608 l (k : Int)
  have b2 := B718 l (k : Int)
  have v1 : rd (tb 258 fun q => if q <= k then (below l (q : Int) : Int) else (like l ((q : Int) - 1) : Int)) ((k + 1 : Nat) : Int) = (like l (k : Int) : Int) := by
   rw [tb_rd _ (show k + 1 < 258 by omega), A7 (by omega)]
   congr 2
   omega
  have v2 : rd (tb 258 fun q => if q <= k then (below l (q : Int) : Int) else (like l ((q : Int) - 1) : Int)) (k : Int) = (below l (k : Int) : Int) := by
   rw [tb_rd _ (show k < 258 by omega), A3 (A11 _)]
  unfold Z107l10
  simp only [show ((k : Nat) : Int) < 257 by omega, A8, A6, B157]
  rw [w64 (n := (k : Int) + 1) (by omega), show (k : Int) + 1 = ((k + 1 : Nat) : Int) by omega]
  simp only [v1, v2]
  rw [A3 (by omega), A3 (by omega), A3 (by omega), w64 (n := (like l (k : Int) : Int) + (below l (k : Int) : Int)) (by omega), A12, B576]
  have : (tb 258 fun q => if q = k + 1 then (like l (k : Int) : Int) + (below l (k : Int) : Int) else if q <= k then (below l (q : Int) : Int) else (like l ((q : Int) - 1) : Int)) = tb 258 fun q => if q <= k + 1 then (below l (q : Int) : Int) else (like l ((q : Int) - 1) : Int) := B124 fun q hq => by
   by_cases e : q = k + 1
   ·rw [A3 e, A3 (by omega), e, show ((k + 1 : Nat) : Int) = (k : Int) + 1 by omega, B827]; omega
   ·rw [A7 e]
    by_cases g : q <= k
    ·rw [A3 g, A3 (by omega)]
    ·rw [A7 g, A7 (by omega)]
  rw [this]) (by
  unfold Z107l10
  simp only [show ¬ (((257 : Nat) : Int) < 257) by omega, A9, A5, A4]
  exact congrArg (fun x => some (Sum.inr x)) (B124 fun q hq => by rw [A3 (by omega)])) 257 0 (by omega)
 have e0 : (tb 258 fun q => if q <= 0 then (below l (q : Int) : Int) else (like l ((q : Int) - 1) : Int)) = tb 258 fun q => (like l ((q : Int) - 1) : Int) := B124 fun q _ => by
  by_cases e : q <= 0
  ·rw [A3 e]
   obtain rfl : q = 0 := by omega
   rw [show ((0 : Nat) : Int) = 0 from rfl, B828 fun x hx => (hm x hx).1, B916 fun x hx => by have := (hm x hx).1; omega]
  ·rw [A7 e]
 simp only [e0] at this
 exact this
theorem B1016 : ∃ b, loop (Z107l16 l (tb 258 fun q => (below l (q : Int) : Int))) (0, List.replicate 258 0, List.replicate l.length 0) = some (b, tb l.length fun q => (B122 l q : Int)) := by
 refine ⟨tb 258 fun q => (like l (q : Int) : Int), ?_⟩
 have := B121 (f := Z107l16 l (tb 258 fun q => (below l (q : Int) : Int))) (fun k => ((k : Int), (tb 258 fun q => (like (l.take k) (q : Int) : Int)), tb l.length fun q => if q < k then (B122 l q : Int) else 0)) (n := l.length) (a := (tb 258 fun q => (like l (q : Int) : Int), tb l.length fun q => (B122 l q : Int))) (fun k hk => by
  have hget : l[k]? = some l[k] := A18 hk
  have hx := hm l[k] (A92 hk)
  obtain ⟨m, hmm⟩ := A73 hx.1
  have hb := B639 hl k (m : Int)
  have hb2 := B608 l (m : Int)
  have v1 : rd (tb 258 fun q => (below l (q : Int) : Int)) (m : Int) = (below l (m : Int) : Int) := tb_rd _ (by omega)
  have v2 : rd (tb 258 fun q => (like (l.take k) (q : Int) : Int)) (m : Int) = (like (l.take k) (m : Int) : Int) := tb_rd _ (by omega)
  unfold Z107l16
  simp only [A10, hk, A8, A6, A17, A15, B18 hget, hmm, B157, v1, v2, show m < 258 by omega, A31, A12, B576]
  rw [w64 (n := (below l (m : Int) : Int) + (like (l.take k) (m : Int) : Int)) (by omega), w64 (n := (like (l.take k) (m : Int) : Int) + 1) (by omega), w64 (n := (k : Int) + 1) (by omega)]
  have e1 : (tb 258 fun q => if q = m then (like (l.take k) (m : Int) : Int) + 1 else (like (l.take k) (q : Int) : Int)) = tb 258 fun q => (like (l.take (k + 1)) (q : Int) : Int) := B124 fun q hq => by
   rw [B638 hget, hmm]
   by_cases e : q = m
   ·rw [A3 e, A3 (by omega), e]; omega
   ·rw [A7 e, A7 (by omega)]; omega
  have e2 : (tb l.length fun q => if q = k then (below l (m : Int) : Int) + (like (l.take k) (m : Int) : Int) else if q < k then (B122 l q : Int) else 0) = tb l.length fun q => if q < k + 1 then (B122 l q : Int) else 0 := B124 fun q hq => by
   by_cases e : q = k
   ·rw [A3 e, A3 (by omega), e]
    unfold B122
    rw [B18 hget, hmm]
    omega
   ·rw [A7 e]
    by_cases g : q < k
    ·rw [A3 g, A3 (by omega)]
    ·rw [A7 g, A7 (by omega)]
  rw [e1, e2]
  rfl) (by
  unfold Z107l16
  simp only [A109, A9, A5, A4, A94]
  congr 3
  exact B124 fun q hq => by rw [A3 hq]) l.length 0 (by omega)
 rw [B462 258, B462 l.length]
 have e0 : (tb 258 fun q => (like (l.take 0) (q : Int) : Int)) = tb 258 fun _ => 0 := B124 fun q _ => by simp [like]
 have e1 : (tb l.length fun q => if q < 0 then (B122 l q : Int) else 0) = tb l.length fun _ => 0 := B124 fun q _ => by rw [A7 (by omega)]
 simp only [e0, e1] at this
 exact this
end
theorem B1055 (t : List Int) : (tb t.length fun q => rd t (q : Int)) = t := by
 refine A98 fun k => ?_
 by_cases hk : k < t.length
 ·rw [B437 _ hk, A18 hk, B18 (A18 hk)]
 ·rw [A65 (by rw [B157]; omega), A65 (by omega)]
section
variable {t s : List Int} (hb : ∀ x ∈ t, 0 <= x ∧ x <= 255) (ht : t.length <= 4000) (hp : s.Perm (iota (t.length + 1))) (hs : s.Pairwise (leS t))
include hb ht hp hs
theorem B756 : ∀ (d k r : Nat), k + d = t.length -> s[r]? = some (d : Int) -> ∃ r', loop (Z107l25 (s.map (colOf t)) (tb (s.map (colOf t)).length fun q => (B122 (s.map (colOf t)) q : Int))) ((d : Int) - 1, [], 0, (tb t.length fun q => if t.length <= q + k then rd t (q : Int) else 0), (r : Int)) = some (Sum.inl ([], 0, t, r'))
 | 0, k, r, hk, hr => by
  refine ⟨(r : Int), B4 ?_⟩
  unfold Z107l25
  simp only [show ¬ (((0 : Nat) : Int) - 1 ≥ 0) by omega, A9, A5, A4]
  have : (tb t.length fun q => if t.length <= q + k then rd t (q : Int) else 0) = t := (B124 fun q hq => by rw [A3 (by omega)]).trans (B1055 t)
  rw [this]
 | d + 1, k, r, hk, hr => by
  have hr' : s[r]? = some ((d : Int) + 1) := by rw [hr]; congr 1
  obtain ⟨w1, w2⟩ := B950 (fun x hx => (hb x hx).1) hp hs (j := d) (by omega) hr'
  obtain ⟨r', h⟩ := B756 d (k + 1) _ (by omega) w2
  refine ⟨r', ?_⟩
  rw [← h]
  refine B5 ?_
  have hrl : r < s.length := B6 hr
  have hx := hb _ (rd_mem (l := t) (i := (d : Int)) (by omega) (by omega))
  have hml : (s.map (colOf t)).length = s.length := A51 _
  have hn : rd (tb s.length fun q => (B122 (s.map (colOf t)) q : Int)) (r : Int) = (B122 (s.map (colOf t)) r : Int) := tb_rd _ hrl
  have hc1 : (((d + 1 : Nat) : Int) - 1) = (d : Int) := by omega
  unfold Z107l25
  simp only [hc1, A17, ge_iff_le, A8, A6, A15, A10, B157, hml, show d < t.length by omega, hrl, w1, show ¬ (rd t (d : Int) + 1 = 0) by omega, A9, A5, A4, hn, A12, B576]
  rw [w64 (n := rd t (d : Int) + 1 - 1) (by omega), w8, w64 (n := (d : Int) - 1) (by omega)]
  have e1 : (tb t.length fun q => if q = d then (rd t (d : Int) + 1 - 1) % 256 else if t.length <= q + k then rd t (q : Int) else 0) = tb t.length fun q => if t.length <= q + (k + 1) then rd t (q : Int) else 0 := B124 fun q hq => by
   by_cases e : q = d
   ·rw [A3 e, A3 (by omega), e]; omega
   ·rw [A7 e]
    by_cases g : t.length <= q + k
    ·rw [A3 g, A3 (by omega)]
    ·rw [A7 g, A7 (by omega)]
  rw [e1]
theorem B794 (hcol : Z111 t = some (s.map (colOf t))) (hm : ∀ x ∈ s.map (colOf t), 0 <= x ∧ x < 257) : Z107 (s.map (colOf t)) = some (t, 0) := by
 have hsl : s.length = t.length + 1 := by rw [hp.length_eq, B82]
 have hll : (s.map (colOf t)).length = t.length + 1 := by rw [A51, hsl]
 have hl : (s.map (colOf t)).length <= 4001 := by omega
 obtain ⟨b, c3⟩ := B1016 hm hl
 obtain ⟨r', c4⟩ := B756 hb ht hp hs t.length 0 0 (by omega) (B887 hp hs)
 have e0 : (tb t.length fun q => if t.length <= q + 0 then rd t (q : Int) else 0) = List.replicate t.length 0 := by
  rw [B462]
  exact B124 fun q hq => by rw [A7 (by omega)]
 rw [e0] at c4
 have hone : rd (tb 258 fun q => (like (s.map (colOf t)) ((q : Int) - 1) : Int)) 1 = 1 := by
  have := tb_rd (n := 258) (i := 1) (fun q => (like (s.map (colOf t)) ((q : Int) - 1) : Int)) (by omega)
  have h1 := B998 (fun x hx => (hb x hx).1) hp
  simp only [show ((1 : Nat) : Int) = 1 from rfl, show (1 : Int) - 1 = 0 from rfl, h1] at this
  exact this
 have heq : Z146 (s.map (colOf t)) (s.map (colOf t)) = some true := by
  rw [Z146_eq]
  have := B121 (f := Z146l4 (s.map (colOf t)) (s.map (colOf t))) (fun k => (k : Int)) (n := (s.map (colOf t)).length) (a := Sum.inl ()) (fun k hk => by
   unfold Z146l4
   simp only [A10, hk, A8, A6, A17, A15, A14, A5, A4]
   rw [w64 (n := (k : Int) + 1) (by omega)]
   rfl) (by
   unfold Z146l4
   simp only [A109, A9, A5, A4]) (s.map (colOf t)).length 0 (by omega)
  have z0 : ((0 : Nat) : Int) = 0 := rfl
  rw [z0] at this
  simp only [A8, A14, A5, A4, this, A1, A43]
 rw [Z107_eq]
 simp only [B940 hm hl, A1, B157, hone, A8, A14, A5, A4, B1056 hm hl]
 rw [A3 (by omega), A3 (by omega), A12, c3]
 simp only [A1]
 rw [w64 (n := (((s.map (colOf t)).length : Nat) : Int) - 1) (by omega), A3 (by omega), show ((((s.map (colOf t)).length : Nat) : Int) - 1).toNat = t.length by omega]
 rw [Z145_eq]
 simp only [A1, A99]
 rw [w64 (n := ((t.length : Nat) : Int) - 1) (by omega)]
 have c4' : loop (Z107l25 (s.map (colOf t)) (tb (s.map (colOf t)).length fun q => (B122 (s.map (colOf t)) q : Int))) ((t.length : Int) - 1, [], 0, List.replicate t.length 0, 0) = some (Sum.inl ([], 0, t, r')) := c4
 rw [c4']
 simp only [A1, A43, hcol, heq, A14, A5, A4]
end
theorem B442 {l : List Int} : ∀ (m : List Int) (n : Nat) (all out : List Int), l.drop n = m -> all.Perm (iota 257) -> (∀ x ∈ m, 0 <= x ∧ x < 257) -> out.length + m.length <= 100000 -> n + m.length <= 100000 ->
  ∃ a, loop (Z106l7 l) ((n : Int), all, out) = some (a, out ++ B160 all m)
 | [], n, all, out, hd, ha, hm, ho, hn => by
  have hln : l.length <= n := B61 hd
  refine ⟨all, B4 ?_⟩
  unfold Z106l7
  simp only [A10, show ¬ n < l.length by omega, A9, A5, A4, B160, A38]
 | p :: m, n, all, out, hd, ha, hm, ho, hn => by
  obtain ⟨hget, hd', hlt⟩ := B49 hd
  have hal : all.length = 257 := by rw [ha.length_eq, B82]
  have hx := hm p (by simp)
  obtain ⟨i, rfl⟩ := A73 hx.1
  have hi : i < all.length := by omega
  have hs : all[i]? = some all[i] := A18 hi
  simp only [A21] at ho hn
  obtain ⟨a, h⟩ := B442 m (n + 1) (B104 all all[i] i) (out ++ [all[i]]) hd' ((B158 hs).trans ha) (fun x hx => hm x (by simp [hx])) (by simp; omega) (by omega)
  refine ⟨a, ?_⟩
  have w2 : i64.wrap ((n : Int) + 1) = ((n + 1 : Nat) : Int) := w64 (by omega)
  have hr : rd l (n : Int) = (i : Int) := B18 hget
  rw [B5 (s' := (((n + 1 : Nat) : Int), B104 all all[i] i, out ++ [all[i]])), h, B160, B18 hs, A12, A27]
  ·rfl
  ·unfold Z106l7
   simp only [A10, hlt, A8, A6, A17, A15, hr, B709 hs (by omega), A1, A26, w2]
   rw [A3 (by omega)]
theorem B826 {l : List Int} (hl : l.length <= 4001) (hm : ∀ x ∈ l, 0 <= x ∧ x < 257) : Z106 l = some (B160 (iota 257) l, 0) := by
 rw [Z106_eq, B686 hl hm, B811]
 obtain ⟨a, h⟩ := B442 (l := l) l 0 (iota 257) [] rfl (.refl _) hm (by simp; omega) (by omega)
 have z0 : ((0 : Nat) : Int) = 0 := rfl
 rw [z0] at h
 simp only [A1, A8, A14, A5, A4, h, A28]
theorem B804 : ∀ (m : List Int) (last : Int), (∀ p ∈ m, 0 <= p ∧ p < 257) -> (∀ v ∈ evsP last m, EvP 144 v) ∧ (evsP last m).length <= 50 * m.length
 | [], last, _ => ⟨fun v hv => by simp [evsP] at hv, by simp [evsP]⟩
 | p :: m, last, hm => by
  obtain ⟨h1, h2⟩ := B804 m p fun x hx => hm x (A29 _ hx)
  have hp := hm p (A23 ..)
  obtain ⟨t, t1, t2, _⟩ := B367 (n := p) (by omega)
  obtain ⟨o1, o2⟩ := B703 (n := p) t1
  have hb := B439 last
  rw [evsP, B586 t2]
  refine ⟨fun v hv => ?_, by simp only [A13, A21, prE, A51]; omega⟩
  rcases A44.1 hv with hv | hv
  ·obtain ⟨e, he, rfl⟩ := A60.1 hv
   obtain ⟨⟨c0, c1⟩, c2⟩ := o2 e he
   exact ⟨⟨by show 0 <= B107 last + e.ctx; omega, by show B107 last + e.ctx < _; omega⟩, c2⟩
  ·exact h1 v hv
theorem B563 {C : List Int} {N : Nat} (hN : N <= 4001) : ∀ (m : List Int) (k : Nat) (last : Int) (e : EncS) (out : List Int), (∀ p ∈ m, 0 <= p ∧ p < 257) -> k + m.length = N -> out.length + m.length <= 5000 -> At C e (evsP last m) ->
  ∃ e', loop (Z68l15 (N : Int)) (last, (k : Int), (decS C e).1, (decS C e).2.1, (decS C e).2.2.1, (decS C e).2.2.2.1, (decS C e).2.2.2.2.1, (decS C e).2.2.2.2.2.1, (decS C e).2.2.2.2.2.2.1, (decS C e).2.2.2.2.2.2.2.1, (decS C e).2.2.2.2.2.2.2.2, out) = some (Sum.inl ((decS C e').1, (decS C e').2.1, (decS C e').2.2.1, (decS C e').2.2.2.1, (decS C e').2.2.2.2.1, (decS C e').2.2.2.2.2.1, (decS C e').2.2.2.2.2.2.1, (decS C e').2.2.2.2.2.2.2.1, (decS C e').2.2.2.2.2.2.2.2, out ++ m))
 | [], k, last, e, out, hm, hk, ho, h => by
  refine ⟨e, B4 ?_⟩
  have : ¬ (k : Int) < (N : Int) := by simp at hk; omega
  unfold Z68l15
  simp only [this, A9, A5, A4, A38]
 | p :: m, k, last, e, out, hm, hk, ho, h => by
  have hp := hm p (A23 ..)
  have hb := B439 last
  obtain ⟨f, g1, g2⟩ := B728 (base := B107 last) (n := p) (rest := evsP p m) (by omega) (by omega) h
  rw [A21] at hk ho
  obtain ⟨e', h'⟩ := B563 hN m (k + 1) p f (out ++ [p]) (fun x hx => hm x (A29 _ hx)) (by omega) (by simp; omega) g2
  refine ⟨e', ?_⟩
  rw [A27] at h'
  refine (B5 (s' := (p, ((k + 1 : Nat) : Int), (decS C f).1, (decS C f).2.1, (decS C f).2.2.1, (decS C f).2.2.2.1, (decS C f).2.2.2.2.1, (decS C f).2.2.2.2.2.1, (decS C f).2.2.2.2.2.2.1, (decS C f).2.2.2.2.2.2.2.1, (decS C f).2.2.2.2.2.2.2.2, out ++ [p])) ?_).trans h'
  unfold Z68l15
  simp only [show (k : Int) < (N : Int) by omega, A8, A6, (B796 last).1, A1, g1, A14, A5, A4, show ¬ p < 0 by omega, show ¬ p ≥ 257 by omega, A9, A26]
  rw [A3 (by omega), w64 (n := (k : Int) + 1) (by omega)]
  rfl
theorem B941 {t s : List Int} (hb : ∀ x ∈ t, 0 <= x ∧ x <= 255) (ht : t.length <= 4000) (hp : s.Perm (iota (t.length + 1))) (hs : s.Pairwise (leS t)) (hcol : Z111 t = some (s.map (colOf t))) (hm : ∀ x ∈ s.map (colOf t), 0 <= x ∧ x < 257) (hlen : (packB t s).length <= 20000000) : Z68 (packB t s) = some (t, 0) := by
 have hsl : s.length = t.length + 1 := by rw [hp.length_eq, B82]
 have hz := B209 (n := t.length) (by omega)
 rw [Z68_eq]
 by_cases h0 : t.length = 0
 ·have ht0 : t = [] := List.length_eq_zero_iff.1 h0
  have e : packB t s = sizeL 0 := by
   unfold packB
   rw [A3 h0, hz, h0]
  have g := B260 (n := 0) (by omega) (b := sizeL 0) (at_ := 0) (Has.all _) (by decide)
  rw [e]
  have z0 : ((0 : Nat) : Int) = 0 := rfl
  rw [z0] at g
  rw [g, ht0]
  rfl
 ·have e : packB t s = sizeL t.length ++ endB (B22 enc0 (evsP 0 (B45 (iota 257) (s.map (colOf t))))) := by
   unfold packB
   rw [A7 h0, hz]
  rw [e] at hlen ⊢
  have fs := B278 (n := 257) (s.map (colOf t)) (iota 257) (.refl _) hm
  have fl : (B45 (iota 257) (s.map (colOf t))).length = t.length + 1 := by rw [B369, A51, hsl]
  have fu : B160 (iota 257) (B45 (iota 257) (s.map (colOf t))) = s.map (colOf t) := B498 _ _ fun x hx => B71.2 (by have := hm x hx; omega)
  generalize B45 (iota 257) (s.map (colOf t)) = pl at fs fl fu hlen ⊢
  obtain ⟨v1, v2⟩ := B804 pl 0 fs
  have k0 : EncO enc0 := (B396 (kind := 0) (st := List.replicate 144 0) (.inl rfl) (by simp) (B376 (.inl rfl) _)).2.2
  have hn0 : enc0.2.2.2.1.length = 144 := by simp [enc0]
  obtain ⟨k1, k2, k3⟩ := B622 (n := 144) (evsP 0 pl) enc0 k0 hn0 v1
  have kb := B607 (n := 144) (evsP 0 pl) enc0 k0 hn0 v1 (fun x hx => by simp [enc0] at hx)
  have hC : Bytes (endB (B22 enc0 (evsP 0 pl))) := fun x hx => by
   rcases A44.1 hx with h | h
   ·exact kb x h
   ·have := k1.iv
    exact B654 (by obtain ⟨a, b, c⟩ := this; omega) _ x h
  have hat : At (endB (B22 enc0 (evsP 0 pl))) enc0 (evsP 0 pl) := ⟨hC, k0, hn0, v1, B988 k1.iv, by simp only [enc0, A35]; omega⟩
  rw [A13] at hlen
  generalize endB (B22 enc0 (evsP 0 pl)) = C at hat hC hlen ⊢
  have g := B260 (n := t.length) (by omega) (b := sizeL t.length ++ C) (at_ := 0) (Has.left _) (by rw [A13]; omega)
  have z0 : ((0 : Nat) : Int) = 0 := rfl
  rw [z0, A22] at g
  obtain ⟨n1, _⟩ := B919 (kind := 0) (n := 144) (.inl rfl) (by omega) (by omega)
  obtain ⟨e', hlp⟩ := B563 (C := C) (N := t.length + 1) (by omega) pl 0 0 enc0 [] fs (by omega) (by simp; omega) hat
  rw [z0, A28] at hlp
  have hd := B676 hC (by omega)
  have hne : ¬ ((t.length : Nat) : Int) = 0 := by omega
  have hcut : cutL (sizeL t.length ++ C) ((sizeL t.length).length : Int).toNat (sizeL t.length ++ C).length = C := by
   rw [A12]
   unfold cutL
   rw [A94, List.drop_left]
  have n1' : Z79 0 144 = some (0, 0, List.replicate 144 0) := n1
  simp only [g, A1, A8, A14, A5, A4, show ¬ ((t.length : Nat) : Int) > 4000 by omega, hne, A9, A43, n1']
  rw [A3 (by rw [A13]; omega)]
  simp only [hcut, hd, A1, A43]
  rw [w64 (n := ((t.length : Nat) : Int) + 1) (by omega), show ((t.length : Nat) : Int) + 1 = ((t.length + 1 : Nat) : Int) by omega, hlp]
  simp only [A1, A43]
  rw [B826 (by omega) fs, fu]
  simp only [A1]
  rw [B794 hb ht hp hs hcol hm]
  rfl
end Go.Proofs.YtcphcfknnfibmaaGreat.P
