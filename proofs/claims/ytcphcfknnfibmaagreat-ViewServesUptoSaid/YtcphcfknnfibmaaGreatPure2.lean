/- Part of the proof of ViewServes: plain lemmas. -/
import Derived.Test.YtcphcfknnfibmaaGreatPure1
import Derived.Test.YtcphcfknnfibmaaGreatF5
namespace Go.Proofs.YtcphcfknnfibmaaGreat.P
open Go Go.IntKind Go.Proofs.YtcphcfknnfibmaaGreat.V
set_option linter.unusedVariables false
set_option linter.unusedSimpArgs false
set_option linter.unusedSectionVars false
set_option maxRecDepth 100000
noncomputable def szL (n : Int) : List Int := match Z127 n with
 | some (_, l) => l
 | none => []
def Byt (l : List Int) : Prop := ∀ x ∈ l, 0 <= x ∧ x <= 255
theorem Byt.append {l m : List Int} (h : Byt l) (g : Byt m) : Byt (l ++ m) := fun x hx => (A42.1 hx).elim (h x) (g x)
theorem B946 : ∀ (k : Nat) (n : Int) (out : List Int), 0 <= n -> n < 128 ^ k -> k <= 4 -> out.length + k <= 100 -> Byt out -> ∃ a, loop Z127l5 (n, out) = some a ∧ a.length <= out.length + k ∧ Byt a := by
 intro k
 induction k with
 | zero =>
  intro n out h0 h1 hk ho hb
  refine ⟨out, B4 ?_, A11 _, hb⟩
  unfold Z127l5
  simp only [show ¬ n > 0 by simp only [Int.pow_zero] at h1; omega, A8, A4, A3]
 | succ k ih =>
  intro n out h0 h1 hk ho hb
  by_cases hn : n > 0
  ·have h2 : n / 128 < 128 ^ k := by
    rw [Int.pow_succ] at h1
    exact Int.ediv_lt_of_lt_mul (by decide) h1
   have h28 : n < 268435456 * 128 := by
    have : (128 : Int) ^ (k + 1) <= 128 ^ 4 := by
     have : k + 1 = 1 ∨ k + 1 = 2 ∨ k + 1 = 3 ∨ k + 1 = 4 := by omega
     rcases this with h | h | h | h <;> rw [h] <;> decide
    have e : (128 : Int) ^ 4 = 268435456 := by decide
    omega
   obtain ⟨a, a1, a2, a3⟩ := ih (n / 128) ([u8.wrap (i64.wrap (128 + n.tmod 128))] ++ out) (by omega) h2 (by omega) (by simp; omega) (Byt.append (fun x hx => by
    rw [A54] at hx; subst hx; rw [w8]; omega) hb)
   refine ⟨a, ?_, by simp at a2; omega, a3⟩
   rw [← a1]
   refine B6 ?_
   unfold Z127l5
   simp only [hn, A7, A5, A29]
   rw [A6 (by omega), B30 h0, w64 (n := n / 128) (by omega)]
  ·refine ⟨out, B4 ?_, by omega, hb⟩
   unfold Z127l5
   simp only [hn, A8, A4, A3]
theorem B46 (n : Int) : ∃ e, Z127 n = some (e, szL n) ∧ Z118 n = some (e, szL n) ∧ (szL n).length <= 5 ∧ Byt (szL n) ∧ (0 <= n -> n <= 2147483647 -> e = 0) := by
 have key : ∃ e l, Z127 n = some (e, l) ∧ l.length <= 5 ∧ Byt l ∧ (0 <= n -> n <= 2147483647 -> e = 0) := by
  rw [Z127_eq]
  by_cases h1 : n < 0
  ·exact ⟨2, [], by simp [h1], by simp, fun x hx => by simp at hx, fun h => by omega⟩
  ·by_cases h2 : n > 2147483647
   ·exact ⟨2, [], by simp [h1, h2], by simp, fun x hx => by simp at hx, fun _ h => by omega⟩
   ·have h128 : n / 128 < (128 : Int) ^ 4 := by
     have e : (128 : Int) ^ 4 = 268435456 := by decide
     omega
    obtain ⟨a, a1, a2, a3⟩ := B946 4 (n / 128) [u8.wrap (n.tmod 128)] (by omega) h128 (A11 _) (by simp) (fun x hx => by rw [A54] at hx; subst hx; rw [w8]; omega)
    refine ⟨0, a, ?_, by simpa using a2, a3, fun _ _ => rfl⟩
    have e1 : i64.wrap (n.tdiv 128) = n / 128 := by rw [B30 (by omega), w64 (by omega)]
    simp only [h1, h2, A8, A4, A3, A1, e1, a1]
 obtain ⟨e, l, h1, h2, h3, h4⟩ := key
 have hl : szL n = l := by unfold szL; rw [h1]
 rw [hl]
 exact ⟨e, h1, by rw [B913, h1], h2, h3, h4⟩
mutual
def ocnt : Outline -> Nat
 | .mk _ _ kids => ocnts kids + 1
def ocnts : List Outline -> Nat
 | [] => 0
 | o :: l => ocnt o + ocnts l
end
mutual
def odep : Outline -> Nat
 | .mk _ _ kids => odeps kids + 1
def odeps : List Outline -> Nat
 | [] => 0
 | o :: l => max (odep o) (odeps l)
end
mutual
def ofine : Outline -> Bool
 | .mk title page kids => B49 kids && decide (title.length <= 200 ∧ 1 <= page ∧ page <= 1000)
def B49 : List Outline -> Bool
 | [] => true
 | o :: l => ofine o && B49 l
end
mutual
noncomputable def oby : Outline -> List Int
 | .mk title page kids => szL title.length ++ (title ++ (szL page ++ (szL kids.length ++ obyL kids)))
noncomputable def obyL : List Outline -> List Int
 | [] => []
 | o :: l => oby o ++ obyL l
end
def B153 (l : List Outline) : Bool := B49 l && decide (ocnts l <= 400) && decide (odeps l <= 20)
theorem B176 : ∀ {l : List Outline} {i : Nat} {o : Outline}, l[i]? = some o -> B14 o.kids + 3 <= B14 l
 | x :: l, 0, o, h => by
  simp at h; subst h
  cases x
  simp only [B14, bulk1]; omega
 | x :: l, i + 1, o, h => by
  simp at h
  have := B176 h
  simp only [B14]; omega
theorem B307 : ∀ l : List Outline, 3 * l.length <= B14 l
 | [] => by simp [B14]
 | .mk a b c :: l => by
  have := B307 l
  simp only [B14, A25, bulk1]
  omega
mutual
theorem B529 : ∀ o : Outline, 3 * ocnt o <= bulk1 o ∧ 3 * odep o <= bulk1 o ∧ (oby o).length <= 5 * bulk1 o
 | .mk title page kids => by
  obtain ⟨h1, h2, h3⟩ := B350 kids
  obtain ⟨_, _, _, a, _⟩ := B46 (title.length : Int)
  obtain ⟨_, _, _, b, _⟩ := B46 page
  obtain ⟨_, _, _, c, _⟩ := B46 (kids.length : Int)
  simp only [ocnt, odep, oby, bulk1, A16]
  omega
theorem B350 : ∀ l : List Outline, 3 * ocnts l <= B14 l ∧ 3 * odeps l <= B14 l ∧ (obyL l).length <= 5 * B14 l
 | [] => by simp [ocnts, odeps, obyL, B14]
 | o :: l => by
  obtain ⟨h1, h2, h3⟩ := B529 o
  obtain ⟨g1, g2, g3⟩ := B350 l
  simp only [ocnts, odeps, obyL, B14, A16]
  omega
end
theorem B62 {α : Type} {l m : List α} {n : Nat} {o : α} (hd : l.drop n = o :: m) : l[n]? = some o ∧ l.drop (n + 1) = m ∧ n < l.length := by
 have h : l[n]? = some o := by
  have : (l.drop n)[0]? = some o := by rw [hd]; rfl
  simpa using this
 exact ⟨h, by rw [← A106, hd]; rfl, B7 h⟩
theorem B72 {α : Type} {l : List α} {n : Nat} (hd : l.drop n = []) : l.length <= n := by
 have := congrArg List.length hd
 rw [A71, A36] at this
 omega
def B790 (l : List Outline) : Prop := ∀ d m : Int, 1 <= d -> d <= 21 -> 0 <= m -> m <= 400 ->
 ∃ m', Z51 l d m = some (B49 l && decide (m + ocnts l <= 400) && decide (d + odeps l <= 21), m') ∧ (B49 l = true -> m + ocnts l <= 400 -> d + odeps l <= 21 -> m' = m + ocnts l)
theorem B503 {l : List Outline} {d : Int} (hd1 : 1 <= d) (hd2 : d <= 21) (hl : l.length <= 100000000) (hk : ∀ o ∈ l, B790 o.kids) : ∀ (r : List Outline) (k : Nat) (m : Int), l.drop k = r -> 0 <= m -> m <= 400 ->
  (B49 r = true ∧ m + ocnts r <= 400 ∧ d + odeps r <= 21 -> loop (Z51l2 l d) ((k : Int), m) = some (.inl (m + ocnts r))) ∧
  (¬ (B49 r = true ∧ m + ocnts r <= 400 ∧ d + odeps r <= 21) -> ∃ m', loop (Z51l2 l d) ((k : Int), m) = some (.inr (false, m')))
 | [], k, m, hd, h0, h4 => by
  have hln := B72 hd
  have e : loop (Z51l2 l d) ((k : Int), m) = some (.inl m) := by
   refine B4 ?_
   unfold Z51l2 Z51l2_b
   simp only [A10, show ¬ k < l.length by omega, A8, A4, A3]
  refine ⟨fun _ => by rw [e]; simp [ocnts], fun h => absurd ?_ h⟩
  simp [B49, ocnts, odeps]; omega
 | .mk title page kids :: r, k, m, hd, h0, h4 => by
  obtain ⟨hget, hd', hlt⟩ := B62 hd
  have hn : (0 : Int) <= ((k : Nat) : Int) := A14 _
  have w1 : i64.wrap (m + 1) = m + 1 := w64 (by omega)
  have w2 : i64.wrap (d + 1) = d + 1 := w64 (by omega)
  have w3 : i64.wrap ((k : Int) + 1) = ((k + 1 : Nat) : Int) := w64 (by omega)
  have stop : (∃ m', Z51l2 l d ((k : Int), m) = some (.inr (.inr (false, m')))) -> ¬ (ofine (.mk title page kids) = true ∧ m + ocnt (.mk title page kids) <= 400 ∧ d + odep (.mk title page kids) <= 21) -> (B49 (.mk title page kids :: r) = true ∧ m + ocnts (.mk title page kids :: r) <= 400 ∧ d + odeps (.mk title page kids :: r) <= 21 -> loop (Z51l2 l d) ((k : Int), m) = some (.inl (m + ocnts (.mk title page kids :: r)))) ∧
    (¬ (B49 (.mk title page kids :: r) = true ∧ m + ocnts (.mk title page kids :: r) <= 400 ∧ d + odeps (.mk title page kids :: r) <= 21) -> ∃ m', loop (Z51l2 l d) ((k : Int), m) = some (.inr (false, m'))) := by
   rintro ⟨m', e⟩ hno
   refine ⟨fun h => absurd ?_ hno, fun _ => ⟨m', B4 e⟩⟩
   obtain ⟨a, b, c⟩ := h
   simp only [B49, ocnts, odeps, A34] at a b c
   exact ⟨a.1, by omega, by omega⟩
  by_cases c1 : m + 1 > 400
  ·refine stop ⟨m + 1, ?_⟩ (fun h => by have := h.2.1; simp only [ocnt] at this; omega)
   unfold Z51l2 Z51l2_b
   simp only [A10, hlt, hn, A7, A5, A12, hget, A1, w1, c1]
  by_cases c2 : d > 20
  ·refine stop ⟨m + 1, ?_⟩ (fun h => by have := h.2.2; simp only [odep] at this; omega)
   unfold Z51l2 Z51l2_b
   simp only [A10, hlt, hn, A7, A5, A12, hget, A1, w1, c1, c2, A8, A4, A3]
  by_cases c3 : ((title.length : Nat) : Int) > 200
  ·refine stop ⟨m + 1, ?_⟩ (fun h => by have := h.1; simp only [ofine, A34, A20] at this; omega)
   unfold Z51l2 Z51l2_b
   simp only [A10, hlt, hn, A7, A5, A12, hget, A1, w1, c1, c2, c3, A8, A4, A3]
  by_cases c4 : page < 1
  ·refine stop ⟨m + 1, ?_⟩ (fun h => by have := h.1; simp only [ofine, A34, A20] at this; omega)
   unfold Z51l2 Z51l2_b
   simp only [A10, hlt, hn, A7, A5, A12, hget, A1, w1, c1, c2, c3, c4, A8, A4, A3]
  by_cases c5 : page > 1000
  ·refine stop ⟨m + 1, ?_⟩ (fun h => by have := h.1; simp only [ofine, A34, A20] at this; omega)
   unfold Z51l2 Z51l2_b
   simp only [A10, hlt, hn, A7, A5, A12, hget, A1, w1, c1, c2, c3, c4, c5, A8, A4, A3]
  obtain ⟨m', e1, e2⟩ := hk _ (A44 hget) (d + 1) (m + 1) (by omega) (by omega) (by omega) (by omega)
  have e1' : Z51 kids (d + 1) (m + 1) = some (B49 kids && decide (m + 1 + ocnts kids <= 400) && decide (d + 1 + odeps kids <= 21), m') := e1
  cases hv : (B49 kids && decide (m + 1 + (ocnts kids : Int) <= 400) && decide (d + 1 + (odeps kids : Int) <= 21)) with
  | false =>
   refine stop ⟨m', ?_⟩ (fun h => ?_)
   ·unfold Z51l2 Z51l2_b
    simp only [A10, hlt, hn, A7, A5, A12, hget, A1, w1, w2, c1, c2, c3, c4, c5, A8, A4, A3, e1', hv, A35]
   ·obtain ⟨a, b, c⟩ := h
    simp only [ofine, ocnt, odep, A34, A20] at a b c
    rw [Bool.eq_false_iff] at hv
    refine hv ?_
    simp only [A34, A20]
    exact ⟨⟨a.1, by omega⟩, by omega⟩
  | true =>
   have hv' := hv
   simp only [A34, A20] at hv'
   have em := e2 hv'.1.1 hv'.1.2 hv'.2
   have hf : ofine (.mk title page kids) = true := by
    simp only [ofine, A34, A20]
    exact ⟨hv'.1.1, by omega, by omega, by omega⟩
   obtain ⟨g1, g2⟩ := B503 hd1 hd2 hl hk r (k + 1) (m + ocnt (.mk title page kids)) hd' (by simp only [ocnt]; omega) (by simp only [ocnt]; omega)
   have st : loop (Z51l2 l d) ((k : Int), m) = loop (Z51l2 l d) (((k + 1 : Nat) : Int), m + ocnt (.mk title page kids)) := by
    refine B6 ?_
    unfold Z51l2 Z51l2_b
    simp only [A10, hlt, hn, A7, A5, A12, hget, A1, w1, w2, w3, c1, c2, c3, c4, c5, A8, A4, A3, e1', hv, A19, em]
    simp only [ocnt, A15, Sum.inl.injEq, A27, A13]
    omega
   rw [st]
   simp only [B49, ocnts, odeps, hf, A52]
   refine ⟨fun h => ?_, fun h => g2 fun h' => h ⟨h'.1, by omega, ?_⟩⟩
   ·rw [g1 ⟨h.1, by omega, by omega⟩]
    congr 2; omega
   ·have : d + odep (.mk title page kids) <= 21 := by simp only [odep]; omega
    omega
theorem B883 : ∀ (n : Nat) (l : List Outline), B14 l <= n -> n <= 100000000 -> B790 l := by
 intro n
 induction n using Nat.strongRecOn with
 | _ n ih =>
 intro l hn hN d m h1 h2 h3 h4
 have hl := B307 l
 obtain ⟨g1, g2⟩ := B503 (l := l) h1 h2 (by omega) (fun o ho => by
  obtain ⟨i, hi⟩ := A78 ho
  have := B176 hi
  exact ih (B14 o.kids) (by omega) o.kids (A11 _) (by omega)) l 0 m rfl h3 h4
 have z0 : ((0 : Nat) : Int) = 0 := rfl
 rw [z0] at g1 g2
 rw [Z51_eq, Z51_b]
 by_cases hc : B49 l = true ∧ m + ocnts l <= 400 ∧ d + odeps l <= 21
 ·rw [g1 hc]
  simp [hc]
 ·obtain ⟨m', e⟩ := g2 hc
  rw [e]
  refine ⟨m', ?_, fun a b c => absurd ⟨a, b, c⟩ hc⟩
  simp only [A1, A91, A15, A27, A70]
  symm
  rw [Bool.eq_false_iff]
  intro h
  simp only [A34, A20] at h
  exact hc ⟨h.1.1, h.1.2, h.2⟩
theorem B483 {l : List Outline} (hl : B14 l <= 100000000) (hk : ∀ o ∈ l, Z59 o.kids = some ((ocnts o.kids : Int), (odeps o.kids : Int), B49 o.kids)) : ∀ (r : List Outline) (k : Nat) (n d : Int) (ok : Bool), l.drop k = r -> 0 <= n -> n + B14 r <= 1000000000 -> 0 <= d -> d <= 1000000000 ->
  loop (Z59l3 l) (n, d, ok, (k : Int)) = some (n + ocnts r, max d (odeps r), ok && B49 r)
 | [], k, n, d, ok, hd, h0, h1, h2, h3 => by
  have hln := B72 hd
  refine B4 ?_
  unfold Z59l3
  simp only [A10, show ¬ k < l.length by omega, A8, A4, A3, ocnts, odeps, B49, A102]
  simp; omega
 | .mk title page kids :: r, k, n, d, ok, hd, h0, h1, h2, h3 => by
  obtain ⟨hget, hd', hlt⟩ := B62 hd
  have hll := B307 l
  have hn : (0 : Int) <= ((k : Nat) : Int) := A14 _
  have hb := B176 hget
  obtain ⟨b1, b2, _⟩ := B350 kids
  simp only [B14, bulk1] at h1
  have hb' : B14 kids + 3 <= B14 l := hb
  have e := hk _ (A44 hget)
  have e' : Z59 kids = some ((ocnts kids : Int), (odeps kids : Int), B49 kids) := e
  have w1 : i64.wrap (n + 1) = n + 1 := w64 (by omega)
  have w2 : i64.wrap (n + 1 + (ocnts kids : Int)) = n + ocnt (.mk title page kids) := by rw [w64 (by omega)]; simp only [ocnt]; omega
  have w3 : i64.wrap ((odeps kids : Int) + 1) = (odep (.mk title page kids) : Int) := by rw [w64 (by omega)]; simp only [odep]; omega
  have w4 : i64.wrap ((k : Int) + 1) = ((k + 1 : Nat) : Int) := w64 (by omega)
  have ho : odep (.mk title page kids) = odeps kids + 1 := rfl
  have hc : ocnt (.mk title page kids) = ocnts kids + 1 := rfl
  have g := B483 hl hk r (k + 1) (n + ocnt (.mk title page kids)) (max d (odep (.mk title page kids))) (ok && ofine (.mk title page kids)) hd' (by omega) (by omega) (by omega) (by omega)
  rw [B6 (s' := (n + ocnt (.mk title page kids), max d (odep (.mk title page kids)), ok && ofine (.mk title page kids), ((k + 1 : Nat) : Int))), g]
  ·simp only [ocnts, odeps, B49, A15, A27, Bool.and_assoc, A70]
   omega
  ·unfold Z59l3
   simp only [A10, hlt, hn, A7, A5, A12, hget, A1, e', w1, w2, w3, w4, B412, ofine]
   cases ok with
   | false => simp
   | true =>
    cases B49 kids with
    | false => simp
    | true =>
     by_cases c3 : title.length <= 200
     ·by_cases c4 : page ≥ 1
      ·simp [c3, c4, show ((title.length : Nat) : Int) <= 200 by omega, show 1 <= page from c4]
      ·simp [c3, c4, show ((title.length : Nat) : Int) <= 200 by omega, show ¬ 1 <= page from c4]
     ·simp [c3, show ¬ ((title.length : Nat) : Int) <= 200 by omega]
theorem B893 : ∀ (n : Nat) (l : List Outline), B14 l <= n -> n <= 100000000 -> Z59 l = some ((ocnts l : Int), (odeps l : Int), B49 l) := by
 intro n
 induction n using Nat.strongRecOn with
 | _ n ih =>
 intro l hn hN
 have g := B483 (l := l) (by omega) (fun o ho => by
  obtain ⟨i, hi⟩ := A78 ho
  have := B176 hi
  exact ih (B14 o.kids) (by omega) o.kids (A11 _) (by omega)) l 0 0 0 true rfl (by omega) (by omega) (by omega) (by omega)
 have z0 : ((0 : Nat) : Int) = 0 := rfl
 rw [z0] at g
 rw [Z59_eq, g]
 simp only [A1, A15, A27, A52, A70]
 omega
theorem B559 {l : List Outline} (hb : B14 l <= 100000000) : Z31 l = some (B153 l) ∧ Z37 l = some (B153 l) := by
 constructor
 ·obtain ⟨m', e, _⟩ := B883 (B14 l) l (A11 _) hb 1 0 (by omega) (by omega) (by omega) (by omega)
  rw [Z31_eq, Z31_b, e]
  simp only [A1, B153, A15]
  congr 1
  ·congr 1; simp only [decide_eq_decide]; omega
  ·simp only [decide_eq_decide]; omega
 ·rw [Z37_eq, B893 (B14 l) l (A11 _) hb]
  simp only [A1, B153]
  cases B49 l with
  | false => simp
  | true =>
   by_cases h : ocnts l <= 400
   ·simp [h, show ((ocnts l : Nat) : Int) <= 400 by omega]; omega
   ·simp [h, show ¬ ((ocnts l : Nat) : Int) <= 400 by omega]
def tot : List (List Int) -> Nat
 | [] => 0
 | x :: l => x.length + tot l
theorem B645 {ls : List (List Int)} (hl : ls.length <= 1000) : ∀ (r : List (List Int)) (k : Nat) (n : Int), ls.drop k = r -> 0 <= n -> n + tot r <= 1000000000 -> loop (slices_Concat_byte_byte_loop3 ls) (n, (k : Int)) = some (n + tot r)
 | [], k, n, hd, h0, h1 => by
  have hln := B72 hd
  refine B4 ?_
  unfold slices_Concat_byte_byte_loop3
  simp only [A10, show ¬ k < ls.length by omega, A8, A4, A3, tot]
  simp
 | x :: r, k, n, hd, h0, h1 => by
  obtain ⟨hget, hd', hlt⟩ := B62 hd
  simp only [tot] at h1
  have w1 : i64.wrap (n + ((x.length : Nat) : Int)) = n + x.length := w64 (by omega)
  have w2 : i64.wrap ((k : Int) + 1) = ((k + 1 : Nat) : Int) := w64 (by omega)
  rw [B6 (s' := (n + x.length, ((k + 1 : Nat) : Int))), B645 hl r (k + 1) (n + x.length) hd' (by omega) (by omega)]
  ·simp only [tot, A15]; omega
  ·unfold slices_Concat_byte_byte_loop3
   simp only [A10, hlt, A7, A5, A14, A12, hget, A1, w1, w2, show ¬ (n + (x.length : Int) < 0) by omega, A8, A4, A3]
theorem B613 {ls : List (List Int)} (hl : ls.length <= 1000) : ∀ (r : List (List Int)) (k : Nat) (out : List Int), ls.drop k = r -> out.length + tot r <= 1000000000 -> loop (slices_Concat_byte_byte_loop11 ls) ((k : Int), out) = some (out ++ r.flatten)
 | [], k, out, hd, h1 => by
  have hln := B72 hd
  refine B4 ?_
  unfold slices_Concat_byte_byte_loop11
  simp only [A10, show ¬ k < ls.length by omega, A8, A4, A3, List.flatten_nil, A41]
 | x :: r, k, out, hd, h1 => by
  obtain ⟨hget, hd', hlt⟩ := B62 hd
  simp only [tot] at h1
  have w2 : i64.wrap ((k : Int) + 1) = ((k + 1 : Nat) : Int) := w64 (by omega)
  rw [B6 (s' := (((k + 1 : Nat) : Int), out ++ x)), B613 hl r (k + 1) (out ++ x) hd' (by simp; omega)]
  ·simp only [List.flatten_cons, A32]
  ·unfold slices_Concat_byte_byte_loop11
   simp only [A10, hlt, A7, A5, A14, A12, hget, A1, w2]
   rw [A6 (by omega)]
theorem B899 {n : Int} (h0 : 0 <= n) (h1 : n <= 1000000000) : Z177 n = some [] := by
 rw [Z177_eq, Z177_b]
 have w1 : i64.wrap (0 - 0) = 0 := by rw [w64 (by omega)]; rfl
 have w2 : i64.wrap (n - 0) = n := by rw [w64 (by omega)]; omega
 simp only [show ¬ n < 0 by omega, A8, A4, A3, w1, w2]
 by_cases h : n > 0
 ·simp only [h, A7, A5]
  rw [A6 (by omega), A6 (by omega), A6 (by omega)]
  simp [cutL]
 ·simp only [h, A8, A4, A3]
theorem B807 {ls : List (List Int)} (hl : ls.length <= 1000) (ht : tot ls <= 1000000000) : slices_Concat_byte_byte ls = some ls.flatten := by
 have h1 := B645 hl ls 0 0 rfl (by omega) (by omega)
 have h2 := B613 hl ls 0 [] rfl (by simp; omega)
 have z0 : ((0 : Nat) : Int) = 0 := rfl
 rw [z0] at h1 h2
 rw [B122, B63]
 simp only [h1, A1, B899 (n := 0 + (tot ls : Int)) (by omega) (by omega), h2, A30]
noncomputable def obys (l : List Outline) : List Int := szL l.length ++ obyL l
theorem B675 (n : Int) : Z151 n = some (szL n) := by
 obtain ⟨e, _, h, _⟩ := B46 n
 rw [Z151_eq, Z151_b, h]; rfl
theorem B325 (n : Int) : ∃ e, Z127 n = some (e, szL n) ∧ (szL n).length <= 5 := by
 obtain ⟨e, h, _, h2, _⟩ := B46 n
 exact ⟨e, h, h2⟩
theorem B568 {l : List Outline} (hl : B14 l <= 10000000) (hk : ∀ o ∈ l, Z119 o.kids = some (obys o.kids)) : ∀ (r : List Outline) (k : Nat) (out : List Int), l.drop k = r -> out.length + 5 * B14 r <= 100000000 -> loop (Z119l3 l) (out, (k : Int)) = some (out ++ obyL r)
 | [], k, out, hd, h1 => by
  have hln := B72 hd
  refine B4 ?_
  unfold Z119l3 Z119l3_b
  simp only [A10, show ¬ k < l.length by omega, A8, A4, A3, obyL, A41]
 | .mk title page kids :: r, k, out, hd, h1 => by
  obtain ⟨hget, hd', hlt⟩ := B62 hd
  have hll := B307 l
  have e : Z119 kids = some (obys kids) := hk _ (A44 hget)
  have hby := (B529 (.mk title page kids)).2.2
  have hbe : oby (.mk title page kids) = szL title.length ++ (title ++ (szL page ++ obys kids)) := by simp only [oby, obys]
  rw [hbe] at hby
  simp only [A16] at hby
  simp only [B14] at h1
  have w2 : i64.wrap ((k : Int) + 1) = ((k + 1 : Nat) : Int) := w64 (by omega)
  have hc := B807 (ls := [out, szL title.length, title, szL page, obys kids]) (by simp) (by simp only [tot]; omega)
  have hf : [out, szL title.length, title, szL page, obys kids].flatten = out ++ oby (.mk title page kids) := by rw [hbe]; simp
  rw [hf] at hc
  rw [B6 (s' := (out ++ oby (.mk title page kids), ((k + 1 : Nat) : Int))), B568 hl hk r (k + 1) _ hd' (by rw [hbe]; simp only [A16]; omega)]
  ·simp only [obyL, A32]
  ·unfold Z119l3 Z119l3_b
   simp only [A10, hlt, A7, A5, A14, A12, hget, A1, B675, e, hc, w2]
theorem B931 : ∀ (n : Nat) (l : List Outline), B14 l <= n -> n <= 10000000 -> Z119 l = some (obys l) := by
 intro n
 induction n using Nat.strongRecOn with
 | _ n ih =>
 intro l hn hN
 obtain ⟨_, _, h5⟩ := B325 (l.length : Int)
 have g := B568 (l := l) (by omega) (fun o ho => by
  obtain ⟨i, hi⟩ := A78 ho
  have := B176 hi
  exact ih (B14 o.kids) (by omega) o.kids (A11 _) (by omega)) l 0 (szL l.length) rfl (by omega)
 have z0 : ((0 : Nat) : Int) = 0 := rfl
 rw [z0] at g
 rw [Z119_eq, Z119_b, B675]
 simp only [A1, g]
 rfl
theorem B667 {l : List Outline} (hl : B14 l <= 10000000) (hk : ∀ o ∈ l, Z128 o.kids = some (obys o.kids)) : ∀ (r : List Outline) (k : Nat) (out : List Int), l.drop k = r -> out.length + 5 * B14 r <= 100000000 -> loop (Z128l3 l) ((k : Int), out) = some (out ++ obyL r)
 | [], k, out, hd, h1 => by
  have hln := B72 hd
  refine B4 ?_
  unfold Z128l3
  simp only [A10, show ¬ k < l.length by omega, A8, A4, A3, obyL, A41]
 | .mk title page kids :: r, k, out, hd, h1 => by
  obtain ⟨hget, hd', hlt⟩ := B62 hd
  have hll := B307 l
  have e : Z128 kids = some (obys kids) := hk _ (A44 hget)
  have hby := (B529 (.mk title page kids)).2.2
  have hbe : oby (.mk title page kids) = szL title.length ++ (title ++ (szL page ++ obys kids)) := by simp only [oby, obys]
  rw [hbe] at hby
  simp only [A16] at hby
  simp only [B14] at h1
  have w2 : i64.wrap ((k : Int) + 1) = ((k + 1 : Nat) : Int) := w64 (by omega)
  obtain ⟨e1, s1, _⟩ := B325 (title.length : Int)
  obtain ⟨e2, s2, _⟩ := B325 page
  have hn : (0 : Int) <= ((k : Nat) : Int) := A14 _
  rw [B6 (s' := (((k + 1 : Nat) : Int), out ++ oby (.mk title page kids))), B667 hl hk r (k + 1) _ hd' (by rw [hbe]; simp only [A16]; omega)]
  ·simp only [obyL, A32]
  ·unfold Z128l3
   simp only [A10, hlt, A7, A5, hn, A12, hget, A1, s1, s2, e, w2]
   rw [A6 (by omega), A6 (by simp only [A16]; omega), A6 (by simp only [A16]; omega), A6 (by simp only [A16]; omega), hbe]
   simp only [A32]
theorem B952 : ∀ (n : Nat) (l : List Outline), B14 l <= n -> n <= 10000000 -> Z128 l = some (obys l) := by
 intro n
 induction n using Nat.strongRecOn with
 | _ n ih =>
 intro l hn hN
 obtain ⟨e0, s0, h5⟩ := B325 (l.length : Int)
 have g := B667 (l := l) (by omega) (fun o ho => by
  obtain ⟨i, hi⟩ := A78 ho
  have := B176 hi
  exact ih (B14 o.kids) (by omega) o.kids (A11 _) (by omega)) l 0 (szL l.length) rfl (by omega)
 have z0 : ((0 : Nat) : Int) = 0 := rfl
 rw [z0] at g
 rw [Z128_eq, s0]
 simp only [A1, g]
 rfl
noncomputable def putO (l : List Outline) : List Int × Int := if B153 l = true then (obys l, 0) else ([], 95)
theorem B898 {l : List Outline} (hb : B14 l <= 10000000) : Z82 l = some (putO l) ∧ Z88 l = some (putO l) := by
 obtain ⟨v1, v2⟩ := B559 (l := l) (by omega)
 rw [Z82_eq, Z82_b, Z88_eq, v1, v2, B931 _ l (A11 _) hb, B952 _ l (A11 _) hb]
 unfold putO
 cases B153 l <;> simp
theorem B833 (l : List Outline) : (obys l).length <= 5 + 5 * B14 l := by
 obtain ⟨_, _, h5⟩ := B325 (l.length : Int)
 have := (B350 l).2.2
 unfold obys
 rw [A16]; omega
inductive TxtO : List Outline -> Prop
 | nil : TxtO []
 | cons {t : List Int} {p : Int} {k l : List Outline} : Byt t -> TxtO k -> TxtO l -> TxtO (.mk t p k :: l)
theorem B836 {l : List Outline} (h : TxtO l) : Byt (obyL l) := by
 induction h with
 | nil => intro x hx; simp [obyL] at hx
 | @cons t p k l ht hk hl ihk ihl =>
  obtain ⟨_, _, _, _, a, _⟩ := B46 (t.length : Int)
  obtain ⟨_, _, _, _, b, _⟩ := B46 p
  obtain ⟨_, _, _, _, c, _⟩ := B46 (k.length : Int)
  simp only [obyL, oby]
  exact (a.append (ht.append (b.append (c.append ihk)))).append ihl
theorem B859 {l : List Outline} (h : TxtO l) : Byt (obys l) := by
 obtain ⟨_, _, _, _, a, _⟩ := B46 (l.length : Int)
 exact a.append (B836 h)
theorem B863 {l : List Int} (hl : l.length <= 4001) (hm : ∀ x ∈ l, 0 <= x ∧ x < 257) : Z161 l = some 0 := by
 have go : ∀ (m k : Nat), k + m = l.length -> loop (Z161l4 l) (k : Int) = some (.inl ()) := by
  intro m
  induction m with
  | zero =>
   intro k hk
   refine B4 ?_
   unfold Z161l4
   simp only [A10, show ¬ k < l.length by omega, A8, A4, A3]
  | succ m ih =>
   intro k hk
   have hk' : k < l.length := by omega
   have hx := hm _ (rd_mem (l := l) (i := (k : Int)) (by omega) (by omega))
   have w2 : i64.wrap ((k : Int) + 1) = ((k + 1 : Nat) : Int) := w64 (by omega)
   rw [B6 (s' := ((k + 1 : Nat) : Int))]
   ·exact ih (k + 1) (by omega)
   ·unfold Z161l4
    simp only [A10, hk', A7, A5, A14, A13, show ¬ rd l (k : Int) < 0 by omega, show ¬ rd l (k : Int) ≥ 257 by omega, A8, A4, A3, w2]
 have h0 := go l.length 0 (by omega)
 have z0 : ((0 : Nat) : Int) = 0 := rfl
 rw [z0] at h0
 rw [Z161_eq, h0]
 simp only [show ¬ ((l.length : Nat) : Int) > 4001 by omega, A8, A4, A3, A1, A48]
theorem B830 : Z162 = some (iota 257) := by
 rw [Z162_eq]
 rw [A6 (by omega)]
 obtain ⟨r, r1, r2, r3⟩ := B410 (n := 257) (f := Z162l3) (h := fun i _ => (i : Int)) (V := fun _ => True)
  (fun i b x hb hx _ => by
   have hi := B7 hx
   have w2 : i64.wrap ((i : Int) + 1) = ((i + 1 : Nat) : Int) := w64 (by omega)
   unfold Z162l3
   simp only [show ((i : Nat) : Int) < 257 by omega, A7, A5, A14, A13, A10, hi, A12, w2])
  (fun b hb => by
   unfold Z162l3
   simp only [show ¬ ((257 : Nat) : Int) < 257 by omega, A8, A4, A3])
  257 0 (List.replicate 257 0) (by omega) A95 (fun _ _ _ _ => trivial)
 have er := B386 r3
 subst er
 have z0 : ((0 : Nat) : Int) = 0 := rfl
 rw [z0] at r1
 have r1' : loop Z162l3 (0, List.replicate (257 : Int).toNat 0) = some (iota 257) := r1
 simp only [r1', A1]
theorem B876 {l : List Int} {s : Int} {i : Nat} (h : l[i]? = some s) (hl : l.length <= 1000) : Z163 l (i : Int) = some (B128 l s i) := by
 have hi := B7 h
 rw [Z163_eq]
 have w2 : i64.wrap ((i : Int) + 1) = ((i + 1 : Nat) : Int) := w64 (by omega)
 have e1 : cutL l 0 i = l.take i := by simp [cutL]
 have e2 : cutL l (i + 1) l.length = l.drop (i + 1) := by simp [cutL]
 simp only [A14, A13, A10, hi, A5, A55, show i <= l.length by omega, A12, B41 h, w2, show i + 1 <= l.length by omega, e1, e2]
 rw [A6 (by simp; omega), A6 (by simp; omega)]
 rfl
theorem B676 {l all : List Int} {k i : Nat} {s : Int} (hk : l[k]? = some s) (h : FstAt all s i) (hl : all.length <= 1000) : ∀ (m j : Nat), j + m = i -> loop (Z130l10 l all (k : Int)) (j : Int) = some (i : Int) := by
 have hi := B7 h.1
 have hlt := B7 hk
 intro m
 induction m with
 | zero =>
  intro j hj
  have : j = i := by omega
  subst this
  refine B4 ?_
  unfold Z130l10
  simp only [A14, A13, A10, hi, hlt, A5, B41 h.1, B41 hk, A7, A19, A4, A3]
 | succ m ih =>
  intro j hj
  have hj' : j < all.length := by omega
  have hne : ¬ rd all (j : Int) = s := by
   intro e
   refine h.2 j (by omega) ?_
   rw [A17 hj', ← e, B41 (A17 hj')]
  have w2 : i64.wrap ((j : Int) + 1) = ((j + 1 : Nat) : Int) := w64 (by omega)
  rw [B6 (s' := ((j + 1 : Nat) : Int))]
  ·exact ih (j + 1) (by omega)
  ·unfold Z130l10
   simp only [A14, A13, A10, hj', hlt, A5, B41 hk, hne, A8, A35, w2]
theorem B433 {l : List Int} : ∀ (m : List Int) (n : Nat) (all out : List Int), l.drop n = m -> all.Perm (iota 257) -> (∀ x ∈ m, 0 <= x ∧ x < 257) -> out.length + m.length <= 100000 -> n + m.length <= 100000 ->
  loop (Z130l7 l) (all, (n : Int), out) = some (out ++ B93 all m)
 | [], n, all, out, hd, ha, hm, ho, hn => by
  refine B4 ?_
  have hln : l.length <= n := by
   have := congrArg List.length hd
   rw [A71, A36] at this
   omega
  unfold Z130l7
  simp only [A10, show ¬ n < l.length by omega, A8, A4, A3, B93, A41]
 | s :: m, n, all, out, hd, ha, hm, ho, hn => by
  have hget : l[n]? = some s := by
   have : (l.drop n)[0]? = some s := by rw [hd]; rfl
   simpa using this
  have hd' : l.drop (n + 1) = m := by rw [← A106, hd]; rfl
  have hlt := B7 hget
  have hs : s ∈ all := ha.mem_iff.2 (B166.2 (by have := hm s (by simp); omega))
  have hf := B276 hs
  have hal : all.length <= 1000 := by rw [ha.length_eq, B110]; omega
  simp only [A25] at ho hn
  have h := B433 m (n + 1) (B128 all s (pos all s)) (out ++ [(pos all s : Int)]) hd' ((B267 hf.1).trans ha) (fun x hx => hm x (by simp [hx])) (by simp; omega) (by omega)
  have w2 : i64.wrap ((n : Int) + 1) = ((n + 1 : Nat) : Int) := w64 (by omega)
  have hlp := B676 hget hf hal (pos all s) 0 (by omega)
  have z0 : ((0 : Nat) : Int) = 0 := rfl
  rw [z0] at hlp
  rw [B6 (s' := (B128 all s (pos all s), ((n + 1 : Nat) : Int), out ++ [(pos all s : Int)])), h, B93, A32]
  ·rfl
  ·unfold Z130l7
   simp only [A10, hlt, A7, A5, hlp, A1, B876 hf.1 hal, A29, w2]
   rw [A6 (by omega)]
theorem B815 {l : List Int} (hl : l.length <= 4001) (hm : ∀ x ∈ l, 0 <= x ∧ x < 257) : Z130 l = some (B93 (iota 257) l, 0) := by
 rw [Z130_eq, B863 hl hm, B830]
 have h := B433 (l := l) l 0 (iota 257) [] rfl (.refl _) hm (by simp; omega) (by omega)
 have z0 : ((0 : Nat) : Int) = 0 := rfl
 rw [z0] at h
 simp only [A1, A7, A19, A4, A3, h, A30]
def B258 (p : Int) : Int := if p = 0 then 0 else if p <= 15 then 48 else 96
theorem B907 (p : Int) : Z70 p = some (B258 p) ∧ Z133 p = some (B258 p) := by
 rw [Z70_eq, Z70_b, Z133_eq]
 unfold B258
 refine ⟨?_, ?_⟩
 ·by_cases h : p = 0
  ·simp [h]
  ·by_cases g : p <= 15 <;> simp [h, g]
 ·by_cases h : p = 0
  ·simp [h]
  ·by_cases g : p <= 15
   ·simp [h, g, show p < 16 by omega]
   ·simp [h, g, show ¬ p < 16 by omega]
theorem B747 {l : List Int} (hm : ∀ x ∈ l, 0 <= x ∧ x < 257) (hl : l.length <= 4001) : ∀ (m n B : Nat) (last : Int) (s : EncS), n + m = l.length -> EncAt 144 B s -> B + 400 * m <= 10000000 ->
  ∃ r, loop (Z83l12 l) (last, (n : Int), s) = some r ∧ loop (Z89l12 l) (last, (n : Int), s) = some r ∧ EncAt 144 (B + 400 * m) r := by
 intro m
 induction m with
 | zero =>
  intro n B last s hn h hB
  refine ⟨s, B4 ?_, B4 ?_, h⟩
  ·unfold Z83l12 Z83l12_b
   simp only [A10, show ¬ n < l.length by omega, A8, A4, A3]
  ·unfold Z89l12
   simp only [A10, show ¬ n < l.length by omega, A8, A4, A3]
 | succ m ih =>
  intro n B last s hn h hB
  have hlt : n < l.length := by omega
  have hx := hm _ (rd_mem (l := l) (i := (n : Int)) (by omega) (by omega))
  obtain ⟨b1, b2⟩ := B907 last
  have hb : 0 <= B258 last ∧ B258 last + 48 <= ((144 : Nat) : Int) := by
   unfold B258
   split
   ·omega
   ·split <;> omega
  obtain ⟨r, p1, p2, p3⟩ := B657 (base := B258 last) (n := rd l (n : Int)) (none_ := false) (N := 144) (B := B) (s := s) hb (by omega) (by simp only [A4, A3]; omega) h (by omega)
  obtain ⟨q, q1, q2, q3⟩ := ih (n + 1) (B + 400) (rd l (n : Int)) r (by omega) p3 (by omega)
  have w2 : i64.wrap ((n : Int) + 1) = ((n + 1 : Nat) : Int) := w64 (by omega)
  refine ⟨q, ?_, ?_, by rw [show B + 400 * (m + 1) = B + 400 + 400 * m by omega]; exact q3⟩
  ·rw [B6 (s' := (rd l (n : Int), ((n + 1 : Nat) : Int), r))]
   ·exact q1
   ·unfold Z83l12 Z83l12_b
    simp only [A10, hlt, A7, A5, A14, A13, b1, A1, p1, w2]
  ·rw [B6 (s' := (rd l (n : Int), ((n + 1 : Nat) : Int), r))]
   ·exact q2
   ·unfold Z89l12
    simp only [A10, hlt, A7, A5, A14, A13, b2, A1, p2, w2]
theorem B765 {t : List Int} (hb : ∀ x ∈ t, 0 <= x ∧ x <= 255) : ∃ p e, Z83 t = some (p, e) ∧ Z89 t = some (p, e) ∧ p.length <= 20000000 := by
 rw [Z83_eq, Z83_b, Z89_eq]
 rcases B689 hb with ⟨h, c1, c2⟩ | ⟨h, c, c1, c2, c3, c4⟩
 ·rw [c1, c2]
  exact ⟨[], 4, rfl, rfl, by simp⟩
 ·rw [c1, c2]
  obtain ⟨se, z1, z4, z2, _, z3⟩ := B46 (t.length : Int)
  generalize szL (t.length : Int) = sz at z1 z4 z2
  by_cases h0 : t.length = 0
  ·refine ⟨sz, 0, ?_, ?_, by omega⟩
   ·simp only [A1, A7, A19, A4, A3, z4, show ((t.length : Nat) : Int) = 0 by omega, A5]
    simp [show ((t.length : Nat) : Int) = 0 by omega] at z4
    simp [z4]
   ·simp only [A1, A7, A19, A4, A3, z1, show ((t.length : Nat) : Int) = 0 by omega, A5]
    simp [show ((t.length : Nat) : Int) = 0 by omega] at z1
    simp [z1]
  ·obtain ⟨n1, n2⟩ := B947 (kind := 0) (n := 144) (.inl rfl) (by omega) (by omega)
   obtain ⟨e1, e2, e3⟩ := B590 (kind := 0) (st := List.replicate (144 : Int).toNat 0) (.inl rfl) (by simp) (B719 (.inl rfl) _)
   have f1 := B884 (l := c) (by omega) c4
   have f2 := B815 (l := c) (by omega) c4
   have fs := B391 (n := 257) c (iota 257) (.refl _) c4
   have fl := B482 c (iota 257)
   have h0' : EncAt 144 0 ((0, 0, 4294967295, List.replicate (144 : Int).toNat 0, []) : EncS) := ⟨e3, by simp, by simp⟩
   obtain ⟨r, p1, p2, p3⟩ := B747 (l := B93 (iota 257) c) (fun x hx => fs x hx) (by omega) (B93 (iota 257) c).length 0 0 0 _ (by omega) h0' (by omega)
   have z0 : ((0 : Nat) : Int) = 0 := rfl
   rw [z0] at p1 p2
   have g1 := B940 (kind := r.1) (lo := r.2.1) (hi := r.2.2.1) (st := r.2.2.2.1) (out := r.2.2.2.2) p3.1.iv (by have := p3.2.2; omega)
   have g2 := B589 (kind := r.1) (lo := r.2.1) (hi := r.2.2.1) (st := r.2.2.2.1) (out := r.2.2.2.2) p3.1.iv (by have := p3.2.2; omega)
   have g3 : (tbl r.2.2.1 (endN r.2.1 r.2.2.1)).length <= 4 := by rw [B334]; exact (B321 p3.1.iv).1
   have hne : ¬ ((t.length : Nat) : Int) = 0 := by omega
   have hro : r.2.2.2.2.length <= 10000000 := by have := p3.2.2; omega
   refine ⟨sz ++ (r.2.2.2.2 ++ tbl r.2.2.1 (endN r.2.1 r.2.2.1)), 0, ?_, ?_, by simp; omega⟩
   ·simp only [A1, A7, A19, A4, A3, z4, hne, A8, n1, e1, A48, f1, p1, g1, g2]
    rw [A6 (by simp; omega)]
   ·simp only [A1, A7, A19, A4, A3, z1, hne, A8, n2, e2, A48, f2, p2, g2]
    rw [A6 (by simp; omega)]
def okn (c : Int) : Bool := (decide (97 <= c) && decide (c <= 122)) || ((decide (48 <= c) && decide (c <= 57)) || (decide (c = 46) || decide (c = 45)))
def nameB (s : List Int) : Bool := decide (1 <= s.length ∧ s.length <= 20) && s.all okn
theorem B776 {s : List Int} {k : Nat} {c : Int} (h : s[k]? = some c) (hl : s.length <= 1000000000) : Z52l2 s (k : Int) = if okn c = true then some (.inl ((k + 1 : Nat) : Int)) else some (.inr (.inr false)) := by
 have hlt := B7 h
 have w2 : i64.wrap ((k : Int) + 1) = ((k + 1 : Nat) : Int) := w64 (by omega)
 unfold Z52l2 okn
 simp only [A10, hlt, A7, A5, A14, A13, B41 h, w2, iteD]
 by_cases h1 : c < 97
 ·by_cases h2 : c < 48
  ·by_cases h3 : c = 46
   ·simp [h1, h2, h3]
   ·by_cases h4 : c = 45
    ·simp [h1, h2, h3, h4]
    ·simp [h1, h2, h3, h4, show ¬ 97 <= c by omega, show ¬ 48 <= c by omega]
  ·by_cases h5 : c > 57
   ·simp [h1, h2, h5, show ¬ 97 <= c by omega, show ¬ c <= 57 by omega, show ¬ c = 46 by omega, show ¬ c = 45 by omega]
   ·simp [h1, h2, h5, show 48 <= c by omega, show c <= 57 by omega]
 ·by_cases h6 : c > 122
  ·simp [h1, h6, show ¬ c < 48 by omega, show c > 57 by omega, show ¬ c <= 122 by omega, show ¬ c <= 57 by omega, show ¬ c = 46 by omega, show ¬ c = 45 by omega]
  ·simp [h1, h6, show 97 <= c by omega, show c <= 122 by omega]
theorem B723 {s : List Int} {k : Nat} {c : Int} (h : s[k]? = some c) (hl : s.length <= 1000000000) : Z57l4 s (k : Int) = if okn c = true then some (.inl ((k + 1 : Nat) : Int)) else some (.inr (.inr false)) := by
 have hlt := B7 h
 have w2 : i64.wrap ((k : Int) + 1) = ((k + 1 : Nat) : Int) := w64 (by omega)
 unfold Z57l4 okn
 simp only [A10, hlt, A7, A5, A14, A13, B41 h, w2, iteD]
 by_cases h1 : c ≥ 97
 ·by_cases h6 : c <= 122
  ·simp [h1, h6, show 97 <= c by omega]
  ·simp [h1, h6, show 97 <= c by omega, show c ≥ 48 by omega, show ¬ c <= 57 by omega, show ¬ c = 46 by omega, show ¬ c = 45 by omega]
 ·by_cases h2 : c ≥ 48
  ·by_cases h5 : c <= 57
   ·simp [h1, h2, h5, show ¬ 97 <= c by omega, show 48 <= c by omega]
   ·simp [h1, h2, h5, show ¬ 97 <= c by omega, show 48 <= c by omega, show ¬ c = 46 by omega, show ¬ c = 45 by omega]
  ·by_cases h3 : c = 46
   ·simp [h1, h2, h3]
   ·by_cases h4 : c = 45
    ·simp [h1, h2, h3, h4]
    ·simp [h1, h2, h3, h4, show ¬ 97 <= c by omega, show ¬ 48 <= c by omega]
theorem B494 {s : List Int} (hl : s.length <= 1000000000) : ∀ (r : List Int) (k : Nat), s.drop k = r ->
  loop (Z52l2 s) (k : Int) = some (if r.all okn = true then .inl () else .inr false) ∧ loop (Z57l4 s) (k : Int) = some (if r.all okn = true then .inl () else .inr false)
 | [], k, hd => by
  have hln := B72 hd
  refine ⟨B4 ?_, B4 ?_⟩
  ·unfold Z52l2
   simp only [A10, show ¬ k < s.length by omega, A8, A4, A3, List.all_nil, A5]
  ·unfold Z57l4
   simp only [A10, show ¬ k < s.length by omega, A8, A4, A3, List.all_nil, A5]
 | c :: r, k, hd => by
  obtain ⟨hget, hd', hlt⟩ := B62 hd
  obtain ⟨g1, g2⟩ := B494 hl r (k + 1) hd'
  have s1 := B776 hget hl
  have s2 := B723 hget hl
  cases hc : okn c with
  | true =>
   rw [hc, A6 rfl] at s1 s2
   rw [B6 s1, B6 s2, g1, g2]
   simp [hc]
  | false =>
   rw [hc] at s1 s2
   simp only [A4, A3] at s1 s2
   rw [B4 s1, B4 s2]
   simp [hc]
theorem B775 {s : List Int} (hl : s.length <= 1000000000) : Z52 s = some (nameB s) ∧ Z57 s = some (nameB s) := by
 obtain ⟨g1, g2⟩ := B494 hl s 0 rfl
 have z0 : ((0 : Nat) : Int) = 0 := rfl
 rw [z0] at g1 g2
 constructor
 ·rw [Z52_eq, Z52_b, g1]
  unfold nameB
  cases s.all okn with
  | false => simp
  | true =>
   simp only [A5, A1, A48, A102, iteD]
   by_cases h1 : 1 <= s.length
   ·simp [h1, show ((s.length : Nat) : Int) ≥ 1 by omega]; omega
   ·simp [h1, show ¬ ((s.length : Nat) : Int) ≥ 1 by omega]
 ·rw [Z57_eq, g2]
  unfold nameB
  by_cases h1 : 1 <= s.length
  ·by_cases h2 : s.length <= 20
   ·simp only [show ¬ ((s.length : Nat) : Int) < 1 by omega, show ¬ ((s.length : Nat) : Int) > 20 by omega, A8, A4, A3, A1, h1, h2, A22, A7, A52]
    cases s.all okn <;> rfl
   ·simp [h2, show ¬ ((s.length : Nat) : Int) < 1 by omega, show ((s.length : Nat) : Int) > 20 by omega]
  ·simp [h1, show ((s.length : Nat) : Int) < 1 by omega]
def fileB (f : File) : Bool := nameB f.name && decide (0 <= f.kind ∧ f.kind <= 2 ∧ f.data.length <= 60000)
theorem B717 {f : File} (hl : f.name.length <= 1000000000) : Z32 f.name f.kind f.data = some (fileB f) ∧ Z35 f.name f.kind f.data = some (fileB f) := by
 obtain ⟨g1, g2⟩ := B775 hl
 rw [Z32_eq, Z32_b, Z35_eq, g1, g2]
 unfold fileB
 simp only [A1, iteD]
 cases nameB f.name with
 | false => simp
 | true =>
  by_cases h1 : f.kind ≥ 0
  ·by_cases h2 : f.kind <= 2
   ·simp [h1, h2, show 0 <= f.kind from h1]; omega
   ·simp [h1, h2]
  ·simp [h1, show ¬ 0 <= f.kind from h1]
def seen (l : List File) (nm : List Int) : Bool := l.any fun f => decide (f.name = nm)
theorem B579 (f : File) (l : List File) (nm : List Int) : seen (f :: l) nm = (decide (f.name = nm) || seen l nm) := rfl
def posF : List File -> List Int -> Nat
 | [], _ => 0
 | f :: l, nm => if f.name = nm then 0 else posF l nm + 1
theorem B569 : ∀ (l : List File) (nm : List Int) (i : Nat), i <= l.length -> (seen (l.take i) nm = true ↔ posF l nm < i)
 | [], nm, i, h => by simp at h; subst h; simp [seen, posF]
 | f :: l, nm, 0, h => by simp [seen]
 | f :: l, nm, i + 1, h => by
  have := B569 l nm i (by simpa using h)
  by_cases hf : f.name = nm
  ·simp [seen, posF, hf]
  ·simp only [seen, List.take_succ_cons, List.any_cons, hf, A8, Bool.false_or, posF, A3] at this ⊢
   rw [this]; omega
theorem B504 {l : List File} {nm : List Int} (hl : l.length <= 1000000000) : ∀ (r : List File) (k : Nat), l.drop k = r ->
  loop (Z53l2 l) ((k : Int), nm) = some (if seen r nm = true then .inr (((k + posF r nm : Nat) : Int), nm) else .inl nm) ∧
  loop (Z58l2 l nm) (k : Int) = some (if seen r nm = true then .inr ((k + posF r nm : Nat) : Int) else .inl ())
 | [], k, hd => by
  have hln := B72 hd
  refine ⟨B4 ?_, B4 ?_⟩
  ·unfold Z53l2 Z53l2_b
   simp only [A10, show ¬ k < l.length by omega, A8, A4, A3, seen, List.any_nil]
  ·unfold Z58l2
   simp only [A10, show ¬ k < l.length by omega, A8, A4, A3, seen, List.any_nil]
 | f :: r, k, hd => by
  obtain ⟨hget, hd', hlt⟩ := B62 hd
  obtain ⟨g1, g2⟩ := B504 (nm := nm) hl r (k + 1) hd'
  have w2 : i64.wrap ((k : Int) + 1) = ((k + 1 : Nat) : Int) := w64 (by omega)
  have hn : (0 : Int) <= ((k : Nat) : Int) := A14 _
  by_cases hf : f.name = nm
  ·refine ⟨B4 ?_, B4 ?_⟩
   ·unfold Z53l2 Z53l2_b
    simp only [A10, hlt, A7, A5, hn, A12, hget, A1, Z80_eq, Z80_b, Z80_b, hf, seen, posF, List.any_cons, Bool.true_or, A38]
   ·unfold Z58l2
    simp only [A10, hlt, A7, A5, hn, A12, hget, A1, hf, seen, posF, List.any_cons, Bool.true_or, A38]
  ·constructor
   ·rw [B6 (s' := (((k + 1 : Nat) : Int), nm)), g1]
    ·simp only [B579, posF, hf, A8, Bool.false_or, A3]
     rw [show k + 1 + posF r nm = k + (posF r nm + 1) by omega]
    ·unfold Z53l2 Z53l2_b
     simp only [A10, hlt, A7, A5, hn, A12, hget, A1, Z80_eq, Z80_b, Z80_b, hf, A8, A4, A3, w2]
   ·rw [B6 (s' := ((k + 1 : Nat) : Int)), g2]
    ·simp only [B579, posF, hf, A8, Bool.false_or, A3]
     rw [show k + 1 + posF r nm = k + (posF r nm + 1) by omega]
    ·unfold Z58l2
     simp only [A10, hlt, A7, A5, hn, A12, hget, A1, hf, A8, A4, A3, w2]
theorem B499 {l : List File} {nm : List Int} (hl : l.length <= 1000000000) : Z33 l nm = some (if seen l nm = true then (posF l nm : Int) else -1) ∧ Z58 l nm = some (if seen l nm = true then (posF l nm : Int) else -1) := by
 obtain ⟨g1, g2⟩ := B504 (nm := nm) hl l 0 rfl
 have z0 : ((0 : Nat) : Int) = 0 := rfl
 rw [z0] at g1 g2
 rw [Z33_eq, Z33_b, Z53_eq, Z53_b, Z58_eq, g1, g2]
 cases seen l nm <;> simp
def nodF : List File -> List File -> Bool
 | _, [] => true
 | b, f :: r => !seen b f.name && nodF (b ++ [f]) r
def B251 (l : List File) (o : List Outline) : Bool := decide (l.length <= 40) && (B153 o && (l.all fileB && nodF [] l))
theorem B514 {l : List File} (hl : l.length <= 1000000) (hn : ∀ f ∈ l, f.name.length <= 1000000000) : ∀ (r : List File) (k : Nat), l.drop k = r ->
  loop (Z15l4 l) (k : Int) = some (if (r.all fileB && nodF (l.take k) r) = true then .inl () else .inr false)
 | [], k, hd => by
  have hln := B72 hd
  refine B4 ?_
  unfold Z15l4 Z15l4_b
  simp only [A10, show ¬ k < l.length by omega, A8, A4, A3, List.all_nil, nodF, Bool.and_self, A5]
 | f :: r, k, hd => by
  obtain ⟨hget, hd', hlt⟩ := B62 hd
  have g := B514 hl hn r (k + 1) hd'
  have w2 : i64.wrap ((k : Int) + 1) = ((k + 1 : Nat) : Int) := w64 (by omega)
  have h0 : (0 : Int) <= ((k : Nat) : Int) := A14 _
  have e1 := (B717 (f := f) (hn f (A44 hget))).1
  have e2 : cutL l 0 k = l.take k := by simp [cutL]
  have e3 := (B499 (l := l.take k) (nm := f.name) (by simp; omega)).1
  have et : l.take (k + 1) = l.take k ++ [f] := by rw [A119, hget]; rfl
  cases hf : fileB f with
  | false =>
   refine B4 ?_
   unfold Z15l4 Z15l4_b
   simp only [A10, hlt, A7, A5, h0, A12, hget, A1, e1, hf, A35, List.all_cons, A56, A4, A3]
  | true =>
   cases hs : seen (l.take k) f.name with
   | true =>
    rw [hs] at e3
    refine B4 ?_
    unfold Z15l4 Z15l4_b
    simp only [A10, hlt, A7, A5, h0, A12, hget, A1, e1, hf, A19, A4, A3, A13, show ((k : Nat) : Int) <= ((l.length : Nat) : Int) by omega, e2, e3, show ((posF (l.take k) f.name : Nat) : Int) ≥ 0 by omega, nodF, hs, A56, A110]
   | false =>
    rw [hs] at e3
    rw [B6 (s' := ((k + 1 : Nat) : Int)), g, et]
    ·simp only [List.all_cons, hf, A52, nodF, hs, A35]
    ·unfold Z15l4 Z15l4_b
     simp only [A10, hlt, A7, A5, h0, A12, hget, A1, e1, hf, A19, A4, A3, A13, show ((k : Nat) : Int) <= ((l.length : Nat) : Int) by omega, e2, e3, show ¬ (-1 : Int) ≥ 0 by omega, A8, w2]
theorem B451 {l : List File} (hl : l.length <= 1000000) (hn : ∀ f ∈ l, f.name.length <= 1000000000) : ∀ (r : List File) (k : Nat), l.drop k = r ->
  loop (Z18l2 l) (k : Int) = some (if r.all fileB = true then .inl () else .inr false)
 | [], k, hd => by
  have hln := B72 hd
  refine B4 ?_
  unfold Z18l2
  simp only [A10, show ¬ k < l.length by omega, A8, A4, A3, List.all_nil, A5]
 | f :: r, k, hd => by
  obtain ⟨hget, hd', hlt⟩ := B62 hd
  have g := B451 hl hn r (k + 1) hd'
  have w2 : i64.wrap ((k : Int) + 1) = ((k + 1 : Nat) : Int) := w64 (by omega)
  have h0 : (0 : Int) <= ((k : Nat) : Int) := A14 _
  have e1 := (B717 (f := f) (hn f (A44 hget))).2
  cases hf : fileB f with
  | false =>
   refine B4 ?_
   unfold Z18l2
   simp only [A10, hlt, A7, A5, h0, A12, hget, A1, e1, hf, A35, List.all_cons, A56, A4, A3]
  | true =>
   rw [B6 (s' := ((k + 1 : Nat) : Int)), g]
   ·simp only [List.all_cons, hf, A52]
   ·unfold Z18l2
    simp only [A10, hlt, A7, A5, h0, A12, hget, A1, e1, hf, A19, A4, A3, w2]
theorem B523 {l : List File} (hl : l.length <= 1000000) : ∀ (r : List File) (k : Nat), l.drop k = r ->
  loop (Z36l2 l) (k : Int) = some (if nodF (l.take k) r = true then .inl () else .inr true)
 | [], k, hd => by
  have hln := B72 hd
  refine B4 ?_
  unfold Z36l2
  simp only [A10, show ¬ k < l.length by omega, A8, A4, A3, nodF, A5]
 | f :: r, k, hd => by
  obtain ⟨hget, hd', hlt⟩ := B62 hd
  have g := B523 hl r (k + 1) hd'
  have w2 : i64.wrap ((k : Int) + 1) = ((k + 1 : Nat) : Int) := w64 (by omega)
  have h0 : (0 : Int) <= ((k : Nat) : Int) := A14 _
  have e3 := (B499 (l := l) (nm := f.name) (by omega)).2
  have hse : seen l f.name = true := by
   unfold seen
   rw [List.any_eq_true]
   exact ⟨f, A44 hget, by simp⟩
  rw [hse, A6 rfl] at e3
  have et : l.take (k + 1) = l.take k ++ [f] := by rw [A119, hget]; rfl
  have hst := B569 l f.name k (by omega)
  cases hs : seen (l.take k) f.name with
  | true =>
   have hp : posF l f.name < k := hst.1 hs
   refine B4 ?_
   unfold Z36l2
   simp only [A10, hlt, A7, A5, h0, A12, hget, A1, e3, hp, nodF, hs, A19, A56, A4, A3]
  | false =>
   have hp : ¬ posF l f.name < k := fun h => by rw [hst.2 h] at hs; cases hs
   rw [B6 (s' := ((k + 1 : Nat) : Int)), g, et]
   ·simp only [nodF, hs, A35, A52]
   ·unfold Z36l2
    simp only [A10, hlt, A7, A5, h0, A12, hget, A1, e3, hp, A8, A4, A3, w2]
theorem B580 {l : List File} {o : List Outline} (hl : l.length <= 1000000) (hn : ∀ f ∈ l, f.name.length <= 1000000000) (hb : B14 o <= 10000000) : Z15 l o = some (B251 l o) ∧ Z18 l o = some (B251 l o) := by
 obtain ⟨o1, o2⟩ := B559 (l := o) (by omega)
 have g1 := B514 hl hn l 0 rfl
 have g2 := B451 hl hn l 0 rfl
 have g3 := B523 hl l 0 rfl
 have z0 : ((0 : Nat) : Int) = 0 := rfl
 rw [z0, A107] at g1 g3
 rw [z0] at g2
 constructor
 ·rw [Z15_eq, Z15_b, o1, g1]
  unfold B251
  by_cases h : l.length <= 40
  ·simp only [show ¬ ((l.length : Nat) : Int) > 40 by omega, A8, A4, A3, A1, h, A7, A52]
   cases B153 o <;> cases (l.all fileB && nodF [] l) <;> rfl
  ·simp [h, show ((l.length : Nat) : Int) > 40 by omega]
 ·rw [Z18_eq, Z36_eq, o2, g2, g3]
  unfold B251
  by_cases h : l.length <= 40
  ·simp only [show ((l.length : Nat) : Int) <= 40 by omega, A7, A5, A1, h, A52]
   cases B153 o <;> cases l.all fileB <;> cases nodF [] l <;> rfl
  ·simp only [h, show ¬ ((l.length : Nat) : Int) <= 40 by omega, A8, A56, A1]
   cases l.all fileB <;> rfl
def okc (c : Int) : Bool := (decide (65 <= c) && decide (c <= 90)) || (decide (48 <= c) && decide (c <= 57))
def idB (s : List Int) : Bool := decide (s.length = 4) && s.all okc
abbrev FORM : List Int := [70, 79, 82, 77]
mutual
def B101 : Chunk -> Bool
 | .mk id kind data kids => idB id && (if id = FORM then idB kind && !decide (kind = FORM) && decide (data = []) && B19 kids else decide (kind = []) && decide (kids.length = 0))
def B19 : List Chunk -> Bool
 | [] => true
 | c :: l => B101 c && B19 l
end
mutual
def cnt : Chunk -> Nat
 | .mk _ _ _ kids => cnts kids + 1
def cnts : List Chunk -> Nat
 | [] => 0
 | c :: l => cnt c + cnts l
end
mutual
def dep : Chunk -> Nat
 | .mk _ _ _ kids => deps kids + 1
def deps : List Chunk -> Nat
 | [] => 0
 | c :: l => max (dep c) (deps l)
end
def B155 (l : List Chunk) : Bool := B19 l && decide (cnts l <= 400) && decide (deps l <= 8)
mutual
def sz : Chunk -> Nat
 | .mk id _ data kids => 8 + ((if id = FORM then 4 + kszs kids else data.length) + 1) / 2 * 2
def kszs : List Chunk -> Nat
 | [] => 0
 | c :: l => sz c + kszs l
end
def lenc (id data : List Int) (kids : List Chunk) : Nat := if id = FORM then 4 + kszs kids else data.length
def hdr (n : Int) : List Int := [u8.wrap (ishr .i64 n 24), u8.wrap (ishr .i64 n 16), u8.wrap (ishr .i64 n 8), u8.wrap n]
def pad (n : Nat) : List Int := if n % 2 = 1 then [0] else []
mutual
def byts : Chunk -> List Int
 | .mk id kind data kids => id ++ hdr (if id = FORM then 4 + kszs kids else data.length : Nat) ++ (if id = FORM then kind ++ bytss kids else data) ++ pad (if id = FORM then 4 + kszs kids else data.length)
def bytss : List Chunk -> List Int
 | [] => []
 | c :: l => byts c ++ bytss l
end
mutual
def sameC : Chunk -> Chunk -> Bool
 | .mk a b d k, .mk a' b' d' k' => decide (a = a') && (decide (b = b') && (decide (d = d') && sameL k k'))
def sameL : List Chunk -> List Chunk -> Bool
 | [], [] => true
 | c :: l, c' :: l' => sameC c c' && sameL l l'
 | _, _ => false
end
mutual
theorem sz_le : ∀ c : Chunk, sz c + cnt c + dep c <= 8 * bulk4 c
 | .mk id kind data kids => by
  have := B330 kids
  simp only [sz, cnt, dep, bulk4]
  split <;> omega
theorem B330 : ∀ l : List Chunk, kszs l + cnts l + deps l <= 8 * B12 l
 | [] => by simp [kszs, cnts, deps, B12]
 | c :: l => by
  have := sz_le c
  have := B330 l
  simp only [kszs, cnts, deps, B12]
  omega
end
theorem B123 : ∀ l : List Chunk, l.length <= B12 l
 | [] => by simp [B12]
 | .mk a b c d :: l => by
  have := B123 l
  simp only [B12, A25, bulk4]
  omega
theorem B851 : ∀ {l : List Chunk} {i : Nat} {c : Chunk}, l[i]? = some c -> bulk4 c <= B12 l
 | [], i, c, h => by simp at h
 | x :: l, 0, c, h => by simp at h; subst h; simp only [B12]; omega
 | x :: l, i + 1, c, h => by
  simp at h
  have := B851 h
  simp only [B12]; omega
theorem B700 : ∀ l k : List Chunk, cnts (l ++ k) = cnts l + cnts k
 | [], k => by simp [cnts]
 | c :: l, k => by simp only [A39, cnts, B700 l k]; omega
theorem B680 : ∀ l k : List Chunk, deps (l ++ k) = max (deps l) (deps k)
 | [], k => by simp [deps]
 | c :: l, k => by simp only [A39, deps, B680 l k]; omega
theorem B741 : ∀ l k : List Chunk, kszs (l ++ k) = kszs l + kszs k
 | [], k => by simp [kszs]
 | c :: l, k => by simp only [A39, kszs, B741 l k]; omega
theorem B600 : ∀ l k : List Chunk, B12 (l ++ k) = B12 l + B12 k
 | [], k => by simp [B12]
 | c :: l, k => by simp only [A39, B12, B600 l k]; omega
theorem B531 : ∀ l k : List Chunk, B19 (l ++ k) = (B19 l && B19 k)
 | [], k => by simp [B19]
 | c :: l, k => by simp only [A39, B19, B531 l k, Bool.and_assoc]
theorem B652 : ∀ l k : List Chunk, bytss (l ++ k) = bytss l ++ bytss k
 | [], k => by simp [bytss]
 | c :: l, k => by simp only [A39, bytss, B652 l k, A32]
mutual
theorem B773 : ∀ c d : Chunk, sameC c d = true ↔ c = d
 | .mk a b d k, .mk a' b' d' k' => by
  have := B402 k k'
  simp only [sameC, A34, A20, Chunk.mk.injEq, this]
theorem B402 : ∀ l k : List Chunk, sameL l k = true ↔ l = k
 | [], [] => by simp [sameL]
 | c :: l, c' :: l' => by
  have := B773 c c'
  have := B402 l l'
  simp only [sameL, A34, List.cons.injEq, *]
 | [], _ :: _ => by simp [sameL]
 | _ :: _, [] => by simp [sameL]
end
theorem B961 (l : List Chunk) : sameL l l = true := (B402 l l).2 rfl
theorem B770 (s : List Int) (hs : s.length = 4) : loop (Z138l4 s) 0 = some (if s.all okc then .inl () else .inr false) := by
 have h : loop (Z138l4 s) ((0 : Nat) : Int) = overL (fun _ c (_ : Unit) => some (if okc c then .inl () else .inr (.inr false))) (fun _ => some (.inl ())) 0 (s.drop 0) () := by
  refine B22 s (fun n _ => (n : Int)) _ _ (fun _ => ?_) (fun i x _ h => ?_) 0 () (by omega)
  ·unfold Z138l4; simp [hs]
  ·have hl := B7 h
   unfold Z138l4
   simp only [iteD]
   rw [A6 (by omega), A6 ⟨by omega, by omega⟩, B41 h, w64 (by omega)]
   by_cases hx : okc x = true
   ·simp only [hx, A5, A31]
    simp only [okc, Bool.or_eq_true, A34, A20] at hx
    (repeat' split) <;> first | rfl | omega
   ·simp only [hx, A3, A31, A4]
    simp only [okc, Bool.or_eq_true, A34, A20] at hx
    (repeat' split) <;> first | rfl | omega
 rw [show (0 : Int) = ((0 : Nat) : Int) from rfl, h]
 clear h hs
 rw [List.drop_zero]
 generalize 0 = n
 induction s generalizing n with
 | nil => rfl
 | cons x s ih =>
  simp only [overL, List.all_cons, A34]
  by_cases hx : okc x = true
  ·simp only [hx, A5, A13]; exact ih (n + 1)
  ·simp [hx]
theorem B548 (s : List Int) : Z138 s = some (idB s) := by
 rw [Z138_eq, Z138_b]
 simp only [iteND]
 by_cases h : s.length = 4
 ·rw [A6 (by omega), B770 s h]
  simp only [idB, h, A7, A52]
  by_cases ha : s.all okc = true <;> simp [ha]
 ·rw [A9 (by omega)]
  simp [idB, h]
theorem B708 (s : List Int) : Z93 s = some (idB s) := by
 rw [← B548, Z138_eq, Z138_b, Z93_eq]; rfl
theorem B787 (s : List Int) : Z139 s = some (idB s && !decide (s = FORM)) := by
 rw [Z139_eq, Z139_b, B548]
 simp only [A1]
 cases idB s <;> simp
theorem B550 {s : List Int} (h : idB s = true) : s.length = 4 := by
 simp only [idB, A34, A20] at h; exact h.1
mutual
theorem B709 : ∀ c : Chunk, bulk4 c <= 100000000 -> Z85 c.id c.kind c.data c.kids = some ((sz c : Nat) : Int)
 | .mk id kind data kids, hb => by
  have hl : Z126 id kind data kids = some ((lenc id data kids : Nat) : Int) := by
   have hk := B123 kids
   simp only [bulk4] at hb
   rw [Z126_eq, Z126_b]
   simp only [iteND, lenc]
   by_cases h : id = FORM
   ·rw [A6 h, A6 h, Z126l5_over kids (by omega), B399 kids (by omega) 0 4 (by omega)]
    simp
   ·rw [A9 h, A9 h]
  have hz := sz_le (.mk id kind data kids)
  show Z85 id kind data kids = _
  rw [Z85_eq, Z85_b, hl]
  simp only [A1, sz] at hz ⊢
  simp only [lenc]
  generalize (if id = FORM then 4 + kszs kids else data.length) = n at hz ⊢
  simp (disch := omega) only [w64, B30]
  simp
theorem B399 : ∀ (l : List Chunk), B12 l <= 100000000 -> ∀ (k : Nat) (n : Int), 0 <= n ∧ n + 8 * B12 l <= 100000000000 ->
  overL Z126l5_step some k l n = some (n + (kszs l : Nat))
 | [], hb, k, n, hn => by simp [overL, kszs]
 | c :: l, hb, k, n, hn => by
  simp only [B12] at hb hn
  have h1 := sz_le c
  have h2 := B330 l
  simp only [overL, Z126l5_step, B709 c (by omega), A1]
  rw [w64 (by omega), B399 l (by omega) (k + 1) (n + (sz c : Nat)) (by omega)]
  simp only [kszs]
  congr 1; omega
end
theorem B785 (id kind data : List Int) (kids : List Chunk) (hb : B12 kids <= 100000000) : Z126 id kind data kids = some ((lenc id data kids : Nat) : Int) := by
 have hk := B123 kids
 rw [Z126_eq, Z126_b]
 simp only [iteND, lenc]
 by_cases h : id = FORM
 ·rw [A6 h, A6 h, Z126l5_over kids (by omega), B399 kids (by omega) 0 4 (by omega)]
  simp
 ·rw [A9 h, A9 h]
mutual
theorem B638 : ∀ c : Chunk, bulk4 c <= 100000000 -> Z91 c.id c.kind c.data c.kids = some ((sz c : Nat) : Int)
 | .mk id kind data kids, hb => by
  have hk := B123 kids
  have hz := sz_le (.mk id kind data kids)
  have hz2 := B330 kids
  show Z91 id kind data kids = _
  rw [Z91_eq]
  simp only [bulk4] at hb hz
  simp only [iteD, sz] at hz ⊢
  by_cases h : id = FORM
  ·rw [A6 h, Z91l5_over kids (by omega), B512 kids (by omega) 0 4 (by omega)]
   simp only [h, A5] at hz ⊢
   simp only [A1]
   have e1 : i64.wrap (8 + (4 + ((kszs kids : Nat) : Int))) = 8 + (4 + ((kszs kids : Nat) : Int)) := w64 (by omega)
   rw [e1, B31 (by omega), w64 (by omega)]
   congr 1; omega
  ·rw [A9 h]
   simp only [h, A3] at hz ⊢
   simp only [A1]
   have e1 : i64.wrap (8 + ((data.length : Nat) : Int)) = 8 + ((data.length : Nat) : Int) := w64 (by omega)
   rw [e1, B31 (by omega), w64 (by omega)]
   congr 1; omega
theorem B512 : ∀ (l : List Chunk), B12 l <= 100000000 -> ∀ (k : Nat) (n : Int), 0 <= n ∧ n + 8 * B12 l <= 100000000000 ->
  overL Z91l5_step some k l n = some (n + (kszs l : Nat))
 | [], hb, k, n, hn => by simp [overL, kszs]
 | c :: l, hb, k, n, hn => by
  simp only [B12] at hb hn
  have h1 := sz_le c
  have h2 := B330 l
  simp only [overL, Z91l5_step, B638 c (by omega), A1]
  rw [w64 (by omega), B512 l (by omega) (k + 1) (n + (sz c : Nat)) (by omega)]
  simp only [kszs]
  congr 1; omega
end
theorem B722 (k : Nat) (d m : Int) (id kind data : List Int) (kids : List Chunk) (h1 : 1 <= d) (h2 : d <= 9) (h3 : 0 <= m) (h4 : m <= 400)
  (hk : d <= 8 -> m + 1 <= 400 -> ∃ m', Z125 kids (d + 1) (m + 1) = some (B19 kids && decide (m + 1 + cnts kids <= 400) && decide (d + 1 + deps kids <= 9), m') ∧
   (B19 kids = true -> m + 1 + cnts kids <= 400 -> d + 1 + deps kids <= 9 -> m' = m + 1 + cnts kids)) :
  (B101 (.mk id kind data kids) = true ∧ m + cnt (.mk id kind data kids) <= 400 ∧ d + dep (.mk id kind data kids) <= 9 -> Z125l2_step d k (.mk id kind data kids) m = some (.inl (m + cnt (.mk id kind data kids)))) ∧
  (¬ (B101 (.mk id kind data kids) = true ∧ m + cnt (.mk id kind data kids) <= 400 ∧ d + dep (.mk id kind data kids) <= 9) -> ∃ m', Z125l2_step d k (.mk id kind data kids) m = some (.inr (.inr (false, m')))) := by
 unfold Z125l2_step
 simp only [iteD, iteND, B548, B787, A1, B101, cnt, dep]
 rw [w64 (n := m + 1) (by omega), w64 (n := d + 1) (by omega)]
 by_cases c1 : m + 1 > 400
 ·simp only [c1, A5, A1]
  exact ⟨fun h => by omega, fun _ => ⟨_, rfl⟩⟩
 simp only [c1, A3]
 by_cases c2 : d > 8
 ·simp only [c2, A5, A1]
  exact ⟨fun h => by omega, fun _ => ⟨_, rfl⟩⟩
 simp only [c2, A3, A1]
 obtain ⟨m', e1, e2⟩ := hk (by omega) (by omega)
 cases c3 : idB id with
 | false => simp
 | true =>
  simp only [A19, A4, A3, A52]
  by_cases c4 : id = FORM
  ·rw [A6 c4, A6 c4]
   cases c5 : (idB kind && !decide (kind = FORM)) with
   | false => simp
   | true =>
    simp only [A19, A4, A3, A52]
    by_cases c6 : data = []
    ·subst c6
     simp only [A36, e1, A1, A7, A52]
     rw [A9 (by omega)]
     by_cases c7 : B19 kids = true ∧ m + 1 + cnts kids <= 400 ∧ d + 1 + deps kids <= 9
     ·obtain ⟨q1, q2, q3⟩ := c7
      simp only [q1, q2, q3, A7, Bool.and_self, A19, A4, A3]
      refine ⟨fun _ => ?_, fun h => absurd ⟨trivial, by omega, by omega⟩ h⟩
      rw [e2 q1 q2 q3]
      congr 2; omega
     ·have : (B19 kids && decide (m + 1 + (cnts kids : Int) <= 400) && decide (d + 1 + (deps kids : Int) <= 9)) = false := by
       rw [Bool.eq_false_iff]
       intro h
       simp only [A34, A20] at h
       exact c7 ⟨h.1.1, h.1.2, h.2⟩
      simp only [this, A35, A5]
      exact ⟨fun h => absurd ⟨h.1, by omega, by omega⟩ c7, fun _ => ⟨_, rfl⟩⟩
    ·have : ((data.length : Nat) : Int) > 0 := by
      cases data with
      | nil => exact absurd rfl c6
      | cons => simp
     simp only [this, A5, c6, A8, A56, A4, false_and, false_implies, A13, not_false_eq_true, forall_const]
     exact ⟨_, rfl⟩
  ·rw [A9 c4, A9 c4]
   by_cases c5 : kind = []
   ·simp only [c5, A5, A7, A52]
    by_cases c6 : kids = []
    ·subst c6
     simp only [A36]
     simp [cnts, deps]
     omega
    ·have : ((kids.length : Nat) : Int) > 0 := by
      cases kids with
      | nil => exact absurd rfl c6
      | cons => simp
     have h5 : ¬ kids.length = 0 := by omega
     simp only [this, A5, h5, A8, A4, false_and, false_implies, A13, not_false_eq_true, forall_const]
     exact ⟨_, rfl⟩
   ·simp only [c5, A3, A8, A56, A4, false_and, false_implies, A13, not_false_eq_true, forall_const]
    exact ⟨_, rfl⟩
mutual
theorem B527 : ∀ c : Chunk, bulk4 c <= 100000000 -> ∀ d m : Int, 1 <= d -> d <= 9 -> 0 <= m -> m <= 400 ->
  ∃ m', Z125 c.kids d m = some (B19 c.kids && decide (m + cnts c.kids <= 400) && decide (d + deps c.kids <= 9), m') ∧
   (B19 c.kids = true -> m + cnts c.kids <= 400 -> d + deps c.kids <= 9 -> m' = m + cnts c.kids)
 | .mk id kind data kids, hb, d, m, h1, h2, h3, h4 => by
  have hk := B123 kids
  simp only [bulk4] at hb
  show ∃ m', Z125 kids d m = _ ∧ _
  rw [Z125_eq, Z125_b, Z125l2_over kids d (by omega)]
  obtain ⟨g1, g2⟩ := B516 kids (by omega) 0 d m h1 h2 h3 h4
  by_cases hc : B19 kids = true ∧ m + cnts kids <= 400 ∧ d + deps kids <= 9
  ·rw [g1 hc]
   simp [hc]
  ·obtain ⟨m', e⟩ := g2 hc
   rw [e]
   refine ⟨m', ?_, fun a b c => absurd ⟨a, b, c⟩ hc⟩
   simp only [A1, A91, A15, A27, A70]
   symm
   rw [Bool.eq_false_iff]
   intro h
   simp only [A34, A20] at h
   exact hc ⟨h.1.1, h.1.2, h.2⟩
theorem B516 : ∀ l : List Chunk, B12 l <= 100000000 -> ∀ (k : Nat) (d m : Int), 1 <= d -> d <= 9 -> 0 <= m -> m <= 400 ->
  (B19 l = true ∧ m + cnts l <= 400 ∧ d + deps l <= 9 -> overL (Z125l2_step d) (fun s => some (Sum.inl s)) k l m = some (.inl (m + cnts l))) ∧
  (¬ (B19 l = true ∧ m + cnts l <= 400 ∧ d + deps l <= 9) -> ∃ m', overL (Z125l2_step d) (fun s => some (Sum.inl s)) k l m = some (.inr (false, m')))
 | [], hb, k, d, m, h1, h2, h3, h4 => by
  refine ⟨fun _ => by simp [overL, cnts], fun h => absurd ?_ h⟩
  simp [B19, cnts, deps]; omega
 | .mk id kind data kids :: l, hb, k, d, m, h1, h2, h3, h4 => by
  simp only [B12] at hb
  have hs := B722 k d m id kind data kids h1 h2 h3 h4 fun a b => B527 (.mk id kind data kids) (by omega) (d + 1) (m + 1) (by omega) (by omega) (by omega) b
  have hp : 1 <= cnt (.mk id kind data kids) := by simp [cnt]
  simp only [overL, B19, cnts, deps]
  by_cases hc : B101 (.mk id kind data kids) = true ∧ m + cnt (.mk id kind data kids) <= 400 ∧ d + dep (.mk id kind data kids) <= 9
  ·rw [hs.1 hc]
   obtain ⟨g1, g2⟩ := B516 l (by omega) (k + 1) d (m + cnt (.mk id kind data kids)) h1 h2 (by omega) hc.2.1
   simp only [hc.1, A52]
   refine ⟨fun h => ?_, fun h => ?_⟩
   ·rw [g1 ⟨h.1, by omega, by omega⟩]
    congr 2; omega
   ·exact g2 fun h' => h ⟨h'.1, by omega, by omega⟩
  ·obtain ⟨m', e⟩ := hs.2 hc
   rw [e]
   refine ⟨fun h => absurd ⟨?_, by omega, by omega⟩ hc, fun _ => ⟨m', rfl⟩⟩
   have := h.1
   simp only [A34] at this
   exact this.1
end
theorem B805 (l : List Chunk) (hb : B12 l <= 99999000) : Z84 l = some (B155 l) := by
 rw [Z84_eq, Z84_b]
 obtain ⟨m', e, _⟩ := B527 (.mk [] [] [] l) (by simp [bulk4]; omega) 1 0 (by omega) (by omega) (by omega) (by omega)
 simp only at e
 rw [e]
 simp only [A1, B155, A15]
 congr 1
 ·congr 1; simp only [decide_eq_decide]; omega
 ·simp only [decide_eq_decide]; omega
mutual
theorem B286 : ∀ c : Chunk, bulk4 c <= 100000000 -> Z136 c.id c.kind c.data c.kids = some (B101 c)
 | .mk id kind data kids, hb => by
  have hk := B123 kids
  simp only [bulk4] at hb
  show Z136 id kind data kids = _
  rw [Z136_eq, Z136l8_over kids (by omega), B436 kids (by omega) 0]
  simp only [iteD, iteND, B708, A1, B101]
  cases c3 : idB id with
  | false => simp
  | true =>
   simp only [A19, A4, A3, A52]
   by_cases c4 : id = FORM
   ·rw [A6 c4, A6 c4]
    cases c5 : idB kind with
    | false => simp
    | true =>
     simp only [A19, A4, A3, A52]
     by_cases c6 : kind = FORM
     ·simp [c6]
     ·by_cases c7 : data = []
      ·subst c7
       simp only [c6, A3, A36, A1, A8, A35, A7, A52]
       cases B19 kids <;> rfl
      ·have : ((data.length : Nat) : Int) > 0 := by
        cases data with
        | nil => exact absurd rfl c7
        | cons => simp
       simp [c6, c7, this]
   ·rw [A9 c4, A9 c4]
    by_cases c5 : kind = []
    ·simp [c5]
    ·simp [c5]
theorem B436 : ∀ l : List Chunk, B12 l <= 100000000 -> ∀ k : Nat,
  overL Z136l8_step (fun _ => some (Sum.inl ())) k l () = some (if B19 l then .inl () else .inr false)
 | [], hb, k => by simp [overL, B19]
 | c :: l, hb, k => by
  simp only [B12] at hb
  simp only [B19]
  by_cases hs : B101 c = true
  ·rw [B34 (s' := ()) (by simp [Z136l8_step, B286 c (by omega), hs]), B436 l (by omega) (k + 1)]
   simp [hs]
  ·have hs' : B101 c = false := by simpa using hs
   rw [B118 (a := .inr false) (by simp [Z136l8_step, B286 c (by omega), hs'])]
   simp [hs']
end
theorem B392 : ∀ l : List Chunk, B12 l <= 100000000 -> ∀ k : Nat,
  overL Z90l2_step (fun _ => some (Sum.inl ())) k l () = some (if B19 l then .inl () else .inr false)
 | [], hb, k => by simp [overL, B19]
 | c :: l, hb, k => by
  simp only [B12] at hb
  simp only [B19]
  by_cases hs : B101 c = true
  ·rw [B34 (s' := ()) (by simp [Z90l2_step, B286 c (by omega), hs]), B392 l (by omega) (k + 1)]
   simp [hs]
  ·have hs' : B101 c = false := by simpa using hs
   rw [B118 (a := .inr false) (by simp [Z90l2_step, B286 c (by omega), hs'])]
   simp [hs']
mutual
theorem B472 : ∀ c : Chunk, bulk4 c <= 100000000 -> Z137 c.kids = some (((cnts c.kids : Nat) : Int), ((deps c.kids : Nat) : Int))
 | .mk id kind data kids, hb => by
  have hk := B123 kids
  simp only [bulk4] at hb
  show Z137 kids = some (((cnts kids : Nat) : Int), ((deps kids : Nat) : Int))
  rw [Z137_eq, Z137l2_over kids (by omega) (0, 0), B500 kids (by omega) 0 0 0 (by omega) (by omega)]
  simp
theorem B500 : ∀ l : List Chunk, B12 l <= 100000000 -> ∀ (k : Nat) (a d : Int), 0 <= a ∧ a + 8 * B12 l <= 1000000000000 -> 0 <= d ∧ d <= 1000000000000 ->
  overL Z137l2_step (fun s => some (s.1, s.2)) k l (a, d) = some (a + cnts l, max d (deps l))
 | [], hb, k, a, d, ha, hd => by simp [overL, cnts, deps]; omega
 | c :: l, hb, k, a, d, ha, hd => by
  simp only [B12] at hb ha
  have h1 := sz_le c
  have h2 := B330 l
  have e1 : cnt c = cnts c.kids + 1 := by cases c; rfl
  have e2 : dep c = deps c.kids + 1 := by cases c; rfl
  rw [B34 (s' := (a + cnt c, max d (dep c))) ?_, B500 l (by omega) (k + 1) _ _ (by omega) (by omega)]
  ·simp only [cnts, deps, A15, A27]
   omega
  simp only [Z137l2_step, B472 c (by omega), A1]
  rw [w64 (n := ((cnts c.kids : Nat) : Int) + 1) (by omega), w64 (n := a + (((cnts c.kids : Nat) : Int) + 1)) (by omega), w64 (n := ((deps c.kids : Nat) : Int) + 1) (by omega), B412]
  simp only [A15, Sum.inl.injEq, A27]
  omega
end
theorem B621 (l : List Chunk) (hb : B12 l <= 99999000) : Z90 l = some (B155 l) := by
 have hlen := B123 l
 have hc := B472 (.mk [] [] [] l) (by simp [bulk4]; omega)
 simp only at hc
 rw [Z90_eq, Z90l2_over l (by omega) (), B392 l (by omega) 0, hc]
 simp only [A1, B155, iteD]
 cases B19 l with
 | false => simp
 | true =>
  simp only [A5, A48, A52]
  by_cases h : cnts l <= 400
  ·rw [A6 (by omega)]; simp [h]; omega
  ·rw [A9 (by omega)]; simp [h]
theorem B204 (n : Int) : (hdr n).length = 4 := rfl
theorem B714 (n : Nat) : (pad n).length = n % 2 := by unfold pad; split <;> simp <;> omega
mutual
theorem B314 : ∀ c : Chunk, (byts c).length <= 2 * bulk4 c
 | .mk id kind data kids => by
  have := B349 kids
  simp only [byts, bulk4, A16, B204, B714]
  split
  ·simp only [A16]; omega
  ·omega
theorem B349 : ∀ l : List Chunk, (bytss l).length <= 2 * B12 l
 | [] => by simp [bytss]
 | c :: l => by
  have := B314 c
  have := B349 l
  simp only [bytss, B12, A16]
  omega
end
mutual
theorem B894 : ∀ c : Chunk, B101 c = true -> (byts c).length = sz c
 | .mk id kind data kids, h => by
  simp only [B101, A34] at h
  have hid := B550 h.1
  simp only [byts, sz, A16, B204, B714]
  by_cases hf : id = FORM
  ·simp only [hf, A5, A34] at h
   have := B287 kids h.2.2
   have hk := B550 h.2.1.1.1
   simp only [hf, A5, A16]
   rw [hf] at hid
   omega
  ·simp only [hf, A3]
   omega
theorem B287 : ∀ l : List Chunk, B19 l = true -> (bytss l).length = kszs l
 | [], _ => rfl
 | c :: l, h => by
  simp only [B19, A34] at h
  have := B894 c h.1
  have := B287 l h.2
  simp only [bytss, kszs, A16]
  omega
end
mutual
theorem B706 : ∀ c : Chunk, bulk4 c <= 100000000 -> ∀ out : List Int, out.length + 2 * bulk4 c <= 10000000000 -> Z86 c.id c.kind c.data c.kids out = some (out ++ byts c)
 | .mk id kind data kids, hb, out, ho => by
  have hk := B123 kids
  have hb' := B314 (.mk id kind data kids)
  simp only [bulk4] at hb ho
  show Z86 id kind data kids out = _
  rw [Z86_eq, Z86_b, B785 id kind data kids (by omega)]
  simp only [A1, iteD]
  rw [A6 (by omega), A6 (by simp only [A16, A25, A36]; omega)]
  have hh : ([u8.wrap (ishr .i64 ((lenc id data kids : Nat) : Int) 24), u8.wrap (ishr .i64 ((lenc id data kids : Nat) : Int) 16), u8.wrap (ishr .i64 ((lenc id data kids : Nat) : Int) 8), u8.wrap ((lenc id data kids : Nat) : Int)] : List Int) = hdr (lenc id data kids : Nat) := rfl
  rw [hh]
  simp only [byts]
  by_cases hf : id = FORM
  ·rw [A6 hf, A6 (by simp only [A16, B204]; omega), Z86l7_over kids (by omega)]
   rw [B608 kids (by omega) 0 _ (by simp only [A16, B204]; omega)]
   simp only [A1, lenc, hf, A5, A32]
   have := B349 kids
   rw [B31 (by omega), hf] at *
   unfold pad
   by_cases hp : (4 + kszs kids) % 2 = 1
   ·rw [A6 (by omega), A6 hp, A6 (by simp only [A16, B204, A25, A36]; omega)]
    all_goals simp
   ·rw [A9 (by omega), A9 hp]
    all_goals simp
  ·rw [A9 hf, A6 (by simp only [A16, B204]; omega)]
   simp only [A1, lenc, hf, A3, A32]
   rw [B31 (by omega)]
   unfold pad
   by_cases hp : data.length % 2 = 1
   ·rw [A6 (by omega), A6 hp, A6 (by simp only [A16, B204, A25, A36]; omega)]
    all_goals simp
   ·rw [A9 (by omega), A9 hp]
    all_goals simp
theorem B608 : ∀ l : List Chunk, B12 l <= 100000000 -> ∀ (k : Nat) (out : List Int), out.length + 2 * B12 l <= 10000000000 ->
  overL Z86l7_step some k l out = some (out ++ bytss l)
 | [], hb, k, out, ho => by simp [overL, bytss]
 | c :: l, hb, k, out, ho => by
  simp only [B12] at hb ho
  have := B314 c
  rw [B34 (s' := out ++ byts c) (by simp [Z86l7_step, B706 c (by omega) out (by omega)]), B608 l (by omega) (k + 1) _ (by rw [A16]; omega)]
  simp [bytss]
end
theorem B630 : ∀ l : List Chunk, B12 l <= 100000000 -> ∀ (k : Nat) (out : List Int), out.length + 2 * B12 l <= 10000000000 ->
  overL Z56l13_step some k l out = some (out ++ bytss l)
 | [], hb, k, out, ho => by simp [overL, bytss]
 | c :: l, hb, k, out, ho => by
  simp only [B12] at hb ho
  have := B314 c
  rw [B34 (s' := out ++ byts c) (by simp [Z56l13_step, B706 c (by omega) out (by omega)]), B630 l (by omega) (k + 1) _ (by rw [A16]; omega)]
  simp [bytss]
theorem B360 : ∀ (l : List Chunk), B12 l <= 100000000 -> ∀ (k : Nat) (n : Int), 0 <= n ∧ n + 8 * B12 l <= 100000000000 ->
  overL Z56l5_step some k l n = some (n + (kszs l : Nat))
 | [], hb, k, n, hn => by simp [overL, kszs]
 | c :: l, hb, k, n, hn => by
  simp only [B12] at hb hn
  have h1 := sz_le c
  rw [B34 (s' := n + (sz c : Nat)) (by simp [Z56l5_step, B709 c (by omega)]; rw [w64 (by omega)]), B360 l (by omega) (k + 1) _ (by omega)]
  simp only [kszs]
  congr 1; omega
theorem B326 : ∀ (l : List Chunk), B12 l <= 100000000 -> ∀ (k : Nat) (n : Int), 0 <= n ∧ n + 8 * B12 l <= 100000000000 ->
  overL Z62l5_step some k l n = some (n + (kszs l : Nat))
 | [], hb, k, n, hn => by simp [overL, kszs]
 | c :: l, hb, k, n, hn => by
  simp only [B12] at hb hn
  have h1 := sz_le c
  rw [B34 (s' := n + (sz c : Nat)) (by simp [Z62l5_step, B638 c (by omega)]; rw [w64 (by omega)]), B326 l (by omega) (k + 1) _ (by omega)]
  simp only [kszs]
  congr 1; omega
def putR (l : List Chunk) : List Int × Int := if B155 l = true then (if kszs l > 60000 then ([], 4) else (bytss l, 0)) else ([], 100)
theorem B950 (l : List Chunk) (hb : B12 l <= 99999000) : Z56 l = some (putR l) := by
 have hlen := B123 l
 rw [Z56_eq, Z56_b, B805 l hb, Z56l5_over l (by omega), B360 l (by omega) 0 0 (by omega), Z56l13_over l (by omega), B630 l (by omega) 0 [] (by simp; omega)]
 simp only [A1, iteD, putR]
 cases B155 l with
 | false => rfl
 | true =>
  simp only [A19, A4, A3, A5]
  by_cases h : kszs l > 60000
  ·rw [A6 (by omega), A6 h]
  ·rw [A9 (by omega), A9 h]; simp
mutual
theorem B489 : ∀ c : Chunk, bulk4 c <= 100000000 -> B19 c.kids = true -> Z92 c.kids = some (bytss c.kids)
 | .mk id kind data kids, hb, h => by
  have hk := B123 kids
  simp only [bulk4] at hb
  simp only at h
  show Z92 kids = some (bytss kids)
  rw [Z92_eq, Z92l3_over kids (by omega), B478 kids (by omega) h 0 [] (by simp; omega)]
  simp
theorem B478 : ∀ l : List Chunk, B12 l <= 100000000 -> B19 l = true -> ∀ (k : Nat) (out : List Int), out.length + 2 * B12 l <= 10000000000 ->
  overL Z92l3_step some k l out = some (out ++ bytss l)
 | [], hb, h, k, out, ho => by simp [overL, bytss]
 | .mk id kind data kids :: l, hb, h, k, out, ho => by
  simp only [B12] at hb ho
  simp only [B19, A34] at h
  have hc := B314 (.mk id kind data kids)
  have hkk : id = FORM -> Z92 kids = some (bytss kids) := fun hf => by
   have := B489 (.mk id kind data kids) (by omega)
   simp only at this
   refine this ?_
   have := h.1
   simp only [B101, hf, A5, A34] at this
   exact this.2.2
  rw [B34 (s' := out ++ byts (.mk id kind data kids)) ?_, B478 l (by omega) h.2 (k + 1) _ (by rw [A16]; omega)]
  ·simp [bytss]
  unfold Z92l3_step
  have h1 := h.1
  simp only [bulk4] at ho hb
  simp only [iteD, byts]
  simp only [B101, A34] at h1
  by_cases hf : id = FORM
  ·have hkl := B349 kids
   simp only [hf, A5, A34] at h1
   have e1 := B550 h1.2.1.1.1
   have e2 := B287 kids h1.2.2
   simp only [hkk hf, hf, A5, A1]
   rw [A6 (by omega)]
   simp only [A1]
   have el : (kind ++ bytss kids).length = 4 + kszs kids := by rw [A16]; omega
   rw [hf] at ho hb
   rw [el, A6 (by omega), A6 (by simp only [A16, A25, A36]; omega), A6 (by simp only [A16, A25, A36]; omega), B31 (by omega)]
   unfold pad
   by_cases hp : (4 + kszs kids) % 2 = 1
   ·rw [A6 (by omega), A6 hp, A6 (by simp only [A16, A25, A36]; omega)]
    simp [hdr]
   ·rw [A9 (by omega), A9 hp]
    simp [hdr]
  ·simp only [hf, A3, A1]
   rw [A6 (by omega), A6 (by simp only [A16, A25, A36]; omega), A6 (by simp only [A16, A25, A36]; omega), B31 (by omega)]
   unfold pad
   by_cases hp : data.length % 2 = 1
   ·rw [A6 (by omega), A6 hp, A6 (by simp only [A16, A25, A36]; omega)]
    simp [hdr]
   ·rw [A9 (by omega), A9 hp]
    simp [hdr]
end
theorem B332 {l : List Chunk} (h : B155 l = true) : B19 l = true := by
 simp only [B155, A34] at h; exact h.1.1
theorem B926 (l : List Chunk) (hb : B12 l <= 99999000) : Z62 l = some (putR l) := by
 have hlen := B123 l
 rw [Z62_eq, B621 l hb, Z62l5_over l (by omega), B326 l (by omega) 0 0 (by omega)]
 simp only [A1, iteD, putR]
 cases hv : B155 l with
 | false => rfl
 | true =>
  have := B489 (.mk [] [] [] l) (by simp [bulk4]; omega) (B332 hv)
  simp only at this
  simp only [A19, A4, A3, A5, this]
  by_cases h : kszs l > 60000
  ·rw [A6 (by omega), A6 h]
  ·rw [A9 (by omega), A9 h]; simp
theorem B316 : ∀ (l : List Int) (k : Nat) (b : List Int), l.length <= 4611686018427387904 -> b.length = k + l.length ->
  overL (Z5l4_step b) (fun _ => some (Sum.inl ())) k l () = some (if decide (l = b.drop k) then .inl () else .inr false)
 | [], k, b, hl, hs => by
  simp only [A36] at hs
  rw [A99 (by omega)]
  rfl
 | x :: l, k, b, hl, hs => by
  simp only [A25] at hs hl
  have hk : k < b.length := by omega
  have hg : b[k]? = some b[k] := A17 hk
  have hr : rd b (k : Int) = b[k] := B41 hg
  rw [A84 hk]
  by_cases hx : x = b[k]
  ·rw [B34 (s' := ()) (by unfold Z5l4_step; rw [A6 ⟨by omega, by omega⟩, hr]; simp [hx]), B316 l (k + 1) b (by omega) (by omega)]
   simp only [List.cons.injEq, hx, A13]
  ·rw [B118 (a := .inr false) (by unfold Z5l4_step; rw [A6 ⟨by omega, by omega⟩, hr]; simp [hx])]
   simp only [List.cons.injEq, hx, false_and, A8, A4, A3]
theorem B648 (a b : List Int) (hl : a.length <= 4611686018427387904) : Z5 a b = some (decide (a = b)) := by
 rw [Z5_eq]
 simp only [iteND]
 by_cases h : a.length = b.length
 ·rw [A6 (by omega), Z5l4_over a b (by omega) (), B316 a 0 b hl (by omega)]
  simp only [List.drop_zero]
  by_cases hab : a = b <;> simp [hab]
 ·rw [A9 (by omega)]
  have : a ≠ b := fun e => h (by rw [e])
  simp [this]
theorem B774 {l : List Chunk} (h : (putR l).2 = 0) : B155 l = true ∧ kszs l <= 60000 ∧ (putR l).1 = bytss l := by
 unfold putR at h ⊢
 split at h
 ·split at h
  ·cases h
  ·rename_i h1 h2; rw [A6 h1, A9 h2]; exact ⟨h1, by omega, rfl⟩
 ·cases h
theorem B467 {n : Int} {l : List Int} (hl : l.length <= 1000000000) : Z81 n l = some (szL n ++ l) := by
 obtain ⟨e, _, h, h5, _⟩ := B46 n
 rw [Z81_eq, Z81_b, h]
 simp only [A1]
 rw [A6 (by omega)]
theorem B795 (n : Int) : Z87 n = some (szL n) := by
 obtain ⟨e, h, _⟩ := B46 n
 rw [Z87_eq, h]; rfl
noncomputable def dirL : List File -> List Int
 | [] => []
 | f :: r => ([u8.wrap f.kind] ++ (szL f.name.length ++ (f.name ++ szL f.data.length))) ++ dirL r
def bulkF : List File -> Nat
 | [] => 0
 | f :: r => f.name.length + 11 + bulkF r
theorem B639 : ∀ l : List File, (dirL l).length <= bulkF l
 | [] => by simp [dirL, bulkF]
 | f :: r => by
  have := B639 r
  obtain ⟨_, _, _, a, _⟩ := B46 (f.name.length : Int)
  obtain ⟨_, _, _, b, _⟩ := B46 (f.data.length : Int)
  simp only [dirL, bulkF, A16, A29]
  omega
theorem B622 : ∀ l : List File, (∀ f ∈ l, Byt f.name) -> Byt (dirL l)
 | [], _ => fun x hx => by simp [dirL] at hx
 | f :: r, h => by
  obtain ⟨_, _, _, _, a, _⟩ := B46 (f.name.length : Int)
  obtain ⟨_, _, _, _, b, _⟩ := B46 (f.data.length : Int)
  have hk : Byt [u8.wrap f.kind] := fun x hx => by
   rw [A54] at hx; subst hx; rw [w8]; omega
  exact (hk.append (a.append ((h f (by simp)).append b))).append (B622 r fun g hg => h g (by simp [hg]))
theorem B572 {l : List File} (hl : l.length <= 1000000) : ∀ (r : List File) (k : Nat) (out : List Int), l.drop k = r -> out.length + bulkF r <= 1000000000 ->
  loop (Z54l5 l) ((k : Int), out) = some (out ++ dirL r) ∧ loop (Z60l5 l) ((k : Int), out) = some (out ++ dirL r)
 | [], k, out, hd, h1 => by
  have hln := B72 hd
  refine ⟨B4 ?_, B4 ?_⟩
  ·unfold Z54l5 Z54l5_b
   simp only [A10, show ¬ k < l.length by omega, A8, A4, A3, dirL, A41]
  ·unfold Z60l5
   simp only [A10, show ¬ k < l.length by omega, A8, A4, A3, dirL, A41]
 | f :: r, k, out, hd, h1 => by
  obtain ⟨hget, hd', hlt⟩ := B62 hd
  simp only [bulkF] at h1
  obtain ⟨_, _, _, a, _⟩ := B46 (f.name.length : Int)
  obtain ⟨_, _, _, b, _⟩ := B46 (f.data.length : Int)
  have w2 : i64.wrap ((k : Int) + 1) = ((k + 1 : Nat) : Int) := w64 (by omega)
  have h0 : (0 : Int) <= ((k : Nat) : Int) := A14 _
  obtain ⟨g1, g2⟩ := B572 hl r (k + 1) (out ++ ([u8.wrap f.kind] ++ (szL f.name.length ++ (f.name ++ szL f.data.length)))) hd' (by simp only [A16, A29]; omega)
  have s1 := B467 (n := (f.name.length : Int)) (l := f.name) (by omega)
  have s2 := B467 (n := (f.data.length : Int)) (l := []) (by simp)
  rw [A41] at s2
  constructor
  ·rw [B6 (s' := (((k + 1 : Nat) : Int), out ++ ([u8.wrap f.kind] ++ (szL f.name.length ++ (f.name ++ szL f.data.length))))), g1]
   ·simp only [dirL, A32]
   ·unfold Z54l5 Z54l5_b
    simp only [A10, hlt, A7, A5, h0, A12, hget, A1, s1, s2, w2, A29]
    rw [A6 (by omega), A6 (by simp only [A16, A29]; omega), A6 (by simp only [A16, A29]; omega)]
    simp only [A32]
  ·rw [B6 (s' := (((k + 1 : Nat) : Int), out ++ ([u8.wrap f.kind] ++ (szL f.name.length ++ (f.name ++ szL f.data.length))))), g2]
   ·simp only [dirL, A32]
   ·unfold Z60l5
    simp only [A10, hlt, A7, A5, h0, A12, hget, A1, B795, w2, A29]
    rw [A6 (by omega), A6 (by simp only [A16, A29]; omega), A6 (by simp only [A16, A29]; omega), A6 (by simp only [A16, A29]; omega)]
    simp only [A32]
structure BookOk (l : List File) (o : List Outline) : Prop where
 len : l.length <= 1000000
 bulk : bulkF l <= 100000000
 outs : B14 o <= 10000000
 names : ∀ f ∈ l, Byt f.name
 texts : TxtO o
theorem BookOk.nm {l : List File} {o : List Outline} (h : BookOk l o) : ∀ f ∈ l, f.name.length <= 1000000000 := by
 have key : ∀ l : List File, ∀ f ∈ l, f.name.length <= bulkF l := by
  intro l
  induction l with
  | nil => intro f hf; simp at hf
  | cons g r ih =>
   intro f hf
   simp only [bulkF]
   rcases A18.1 hf with hf | hf
   ·subst hf; omega
   ·have := ih f hf; omega
 intro f hf
 have := key l f hf
 have := h.bulk
 omega
theorem B544 {l : List File} {o : List Outline} (h : BookOk l o) : ∃ d e, Z54 l o = some (d, e) ∧ Z60 l o = some (d, e) ∧ d.length <= 20000000 := by
 obtain ⟨v1, v2⟩ := B580 h.len h.nm h.outs
 rw [Z54_eq, Z54_b, Z60_eq, v1, v2]
 cases hv : B251 l o with
 | false => exact ⟨[], 110, rfl, rfl, by simp⟩
 | true =>
  have hvo : B153 o = true := by
   unfold B251 at hv
   simp only [A34] at hv
   exact hv.2.1
  obtain ⟨p1, p2⟩ := B898 h.outs
  have ep : putO o = (obys o, 0) := by unfold putO; rw [A6 hvo]
  rw [ep] at p1 p2
  have hob := B833 o
  obtain ⟨_, _, _, a, ab, _⟩ := B46 (l.length : Int)
  have hb := h.bulk
  have ho := h.outs
  obtain ⟨g1, g2⟩ := B572 h.len l 0 (szL l.length) rfl (by omega)
  have z0 : ((0 : Nat) : Int) = 0 := rfl
  rw [z0] at g1 g2
  have s1 := B467 (n := (l.length : Int)) (l := []) (by simp)
  rw [A41] at s1
  have hdl := B639 l
  obtain ⟨p, e, q1, q2, q3⟩ := B765 (t := szL l.length ++ dirL l ++ obys o) ((ab.append (B622 l h.names)).append (B859 h.texts))
  refine ⟨p, e, ?_, ?_, q3⟩
  ·simp only [A1, A19, A4, A3, s1, g1, p1]
   rw [A6 (by simp only [A16]; omega), q1]; rfl
  ·simp only [A1, A19, A4, A3, B795, g2, p2]
   rw [A6 (by simp only [A16]; omega), q2]; rfl
theorem B744 {l : List File} {o : List Outline} (h : BookOk l o) : ∃ x e, Z16 l o = some (x, e) ∧ Z19 l o = some (x, e) ∧ x.length <= 1000000000 := by
 obtain ⟨d, e, d1, d2, d3⟩ := B544 h
 have l1 : loop (Z34l6 []) (0, [Chunk.mk [68, 73, 82, 77] [] d []], [70, 79, 82, 77], [66, 79, 79, 75], []) = some ([Chunk.mk [68, 73, 82, 77] [] d []], [70, 79, 82, 77], [66, 79, 79, 75], []) := by
  refine B4 ?_
  unfold Z34l6 Z34l6_b
  simp
 have l2 : loop (Z38l6 []) (0, [Chunk.mk [68, 73, 82, 77] [] d []]) = some [Chunk.mk [68, 73, 82, 77] [] d []] := by
  refine B4 ?_
  unfold Z38l6
  simp
 rw [Z16_eq, Z16_b, Z19_eq, Z34_eq, Z34_b, Z38_eq, d1, d2]
 by_cases he : e = 0
 ·subst he
  have hb : B12 [Chunk.mk [70, 79, 82, 77] [66, 79, 79, 75] [] [Chunk.mk [68, 73, 82, 77] [] d []]] <= 99999000 := by
   simp only [B12, bulk4, A25, A36]; omega
  have c1 := B950 _ hb
  have c2 := B926 _ hb
  simp only [A1, A7, A19, A4, A3, l1, l2, c1, c2]
  by_cases hp : (putR [Chunk.mk [70, 79, 82, 77] [66, 79, 79, 75] [] [Chunk.mk [68, 73, 82, 77] [] d []]]).2 = 0
  ·obtain ⟨g1, g2, g3⟩ := B774 hp
   have hle : (putR [Chunk.mk [70, 79, 82, 77] [66, 79, 79, 75] [] [Chunk.mk [68, 73, 82, 77] [] d []]]).1.length <= 60000 := by
    rw [g3, B287 _ (B332 g1)]; exact g2
   refine ⟨_, 0, ?_, ?_, A67 hle (by omega)⟩
   ·simp only [hp, A7, A19, A4, A3, A1]
   ·simp only [hp, A7, A19, A4, A3, A1, Z39_eq]
    rw [A9 (by simp only [A20]; omega)]
    rfl
  ·refine ⟨[], 4, ?_, ?_, by simp⟩
   ·simp only [hp, A8, A35, A5, A1]
   ·simp only [hp, A8, A35, A5, A1, Z39_eq]
    rfl
 ·refine ⟨[], e, ?_, ?_, by simp⟩
  ·simp only [A1, he, A8, A35, A5]
  ·simp only [A1, he, A8, A35, A5, Z39_eq]
theorem B696 {l : List Int} (hl : l.length <= 1000000000) : Z17 l = some l := by
 rw [Z17_eq]
 by_cases h : l.length = 0
 ·have : l = [] := A104 h
  subst this
  simp only [A36, A5]
  rw [A6 (by simp)]
  exact B149 _
 ·rw [A9 h, A6 (by simp; omega)]; rfl
theorem B442 {l : List File} {nm : List Int} (hl : l.length <= 1000000) (hd0 : ∀ f ∈ l, f.data.length <= 1000000000) : ∀ (r : List File) (k : Nat), l.drop k = r ->
  (loop (Z3l6 l nm) (k : Int) = some (.inl ()) ∧ loop (Z4l6 l nm) (k : Int) = some (.inl ())) ∨
  ∃ d : List Int, d.length <= 1000000000 ∧ loop (Z3l6 l nm) (k : Int) = some (.inr (d, 0)) ∧ loop (Z4l6 l nm) (k : Int) = some (.inr (0, d))
 | [], k, hd => by
  have hln := B72 hd
  refine .inl ⟨B4 ?_, B4 ?_⟩
  ·unfold Z3l6 Z3l6_b
   simp only [A10, show ¬ k < l.length by omega, A8, A4, A3]
  ·unfold Z4l6
   simp only [A10, show ¬ k < l.length by omega, A8, A4, A3]
 | f :: r, k, hd => by
  obtain ⟨hget, hd', hlt⟩ := B62 hd
  have w2 : i64.wrap ((k : Int) + 1) = ((k + 1 : Nat) : Int) := w64 (by omega)
  have h0 : (0 : Int) <= ((k : Nat) : Int) := A14 _
  have hdl := hd0 f (A44 hget)
  by_cases hf : f.name = nm
  ·refine .inr ⟨f.data, hdl, B4 ?_, B4 ?_⟩
   ·unfold Z3l6 Z3l6_b
    simp only [A10, hlt, A7, A5, h0, A12, hget, A1, hf, B696 hdl]
   ·unfold Z4l6
    simp only [A10, hlt, A7, A5, h0, A12, hget, A1, hf]
    rw [A6 (by simp; omega)]; rfl
  ·have st1 : loop (Z3l6 l nm) (k : Int) = loop (Z3l6 l nm) ((k + 1 : Nat) : Int) := by
    refine B6 ?_
    unfold Z3l6 Z3l6_b
    simp only [A10, hlt, A7, A5, h0, A12, hget, A1, hf, A8, A4, A3, w2]
   have st2 : loop (Z4l6 l nm) (k : Int) = loop (Z4l6 l nm) ((k + 1 : Nat) : Int) := by
    refine B6 ?_
    unfold Z4l6
    simp only [A10, hlt, A7, A5, h0, A12, hget, A1, hf, A8, A4, A3, w2]
   rw [st1, st2]
   exact B442 hl hd0 r (k + 1) hd'
theorem B729 {l : List File} {o : List Outline} {nm : List Int} (h : BookOk l o) (hd0 : ∀ f ∈ l, f.data.length <= 1000000000) : ∃ x e, Z3 l o nm = some (x, e) ∧ Z4 l o nm = some (x, e) ∧ x.length <= 1000000000 := by
 obtain ⟨v1, v2⟩ := B580 h.len h.nm h.outs
 rw [Z3_eq, Z3_b, Z4_eq, v1, v2]
 cases hv : B251 l o with
 | false => exact ⟨[], 110, rfl, rfl, by simp⟩
 | true =>
  simp only [A1, A19, A4, A3]
  by_cases hn : nm = []
  ·obtain ⟨x, e, i1, i2, i3⟩ := B744 h
   refine ⟨x, e, ?_, ?_, i3⟩
   ·simp only [hn, A7, A5, i1, A1]
   ·simp only [hn, A7, A5, i2, A1]
  ·have z0 : ((0 : Nat) : Int) = 0 := rfl
   rcases B442 (nm := nm) h.len hd0 l 0 rfl with ⟨g1, g2⟩ | ⟨d, g0, g1, g2⟩
   ·rw [z0] at g1 g2
    refine ⟨[], 5, ?_, ?_, by simp⟩
    ·simp only [hn, A8, A4, A3, g1, A1, A48]
    ·simp only [hn, A8, A4, A3, g2, A1, A48]
   ·rw [z0] at g1 g2
    refine ⟨d, 0, ?_, ?_, g0⟩
    ·simp only [hn, A8, A4, A3, g1, A1, A91]
    ·simp only [hn, A8, A4, A3, g2, A1, A91]
theorem B674 {b : List Int} (hb : Byt b) (i : Int) : 0 <= rd b i ∧ rd b i <= 255 := by
 unfold rd
 rw [A92]
 cases h : b[i.toNat]? with
 | none => simp
 | some x => exact hb x (A44 h)
def SzOk (b : List Int) (a : Int) (r : Int × Int × Int) : Prop := r.2.2 ≠ 0 ∨ (0 <= r.1 ∧ r.1 <= 2147483647 ∧ 0 <= a ∧ a < r.2.1 ∧ r.2.1 <= (b.length : Int))
theorem p128 : ∀ i : Nat, i <= 5 -> (128 : Int) ^ i <= 34359738368 := by
 intro i hi
 have : i = 0 ∨ i = 1 ∨ i = 2 ∨ i = 3 ∨ i = 4 ∨ i = 5 := by omega
 rcases this with h | h | h | h | h | h <;> rw [h] <;> decide
theorem B193 {b : List Int} (hb : Byt b) (hl : b.length <= 100000) (a : Int) : ∃ r, Z21 b a = some r ∧ SzOk b a r := by
 rw [Z21_eq]
 by_cases h1 : a < 0
 ·exact ⟨(0, 0, 2), by simp [h1], .inl (by decide)⟩
 by_cases h2 : a > (b.length : Int)
 ·exact ⟨(0, 0, 2), by simp [h1, h2], .inl (by decide)⟩
 simp only [h1, h2, A8, A4, A3, A1]
 obtain ⟨o, e1, e2⟩ := B68 (f := Z21l5 b a) (fun s => ∃ i : Nat, s.2 = (i : Int) ∧ i <= 5 ∧ 0 <= s.1 ∧ s.1 < 128 ^ i) (fun s => (5 - s.2).toNat)
  (fun o => o = .inl () ∨ ∃ r, o = .inr r ∧ SzOk b a r)
  (fun s hs => by
   obtain ⟨n, j⟩ := s
   obtain ⟨i, rfl, hi, hn, hn2⟩ := hs
   simp only at hn hn2
   by_cases c1 : i < 5
   ·have w1 : i64.wrap (a + ((i : Nat) : Int)) = a + i := w64 (by omega)
    by_cases c2 : a + (i : Int) ≥ (b.length : Int)
    ·refine .inr ⟨_, ?_, .inr ⟨(0, 0, 6), rfl, .inl (by decide)⟩⟩
     unfold Z21l5
     simp only [show ((i : Nat) : Int) < 5 by omega, A7, A5, w1, c2]
    ·have hv := B674 hb (a + (i : Int))
     have hp := p128 i (by omega)
     have w2 : i64.wrap (rd b (a + (i : Int))) = rd b (a + (i : Int)) := w64 (by omega)
     have w3 : i64.wrap (128 * n) = 128 * n := w64 (by omega)
     have w4 : (rd b (a + (i : Int))).tmod 128 = rd b (a + (i : Int)) % 128 := B31 hv.1
     have w5 : i64.wrap (128 * n + rd b (a + (i : Int)) % 128) = 128 * n + rd b (a + (i : Int)) % 128 := w64 (by omega)
     have w6 : i64.wrap (a + (i : Int) + 1) = a + i + 1 := w64 (by omega)
     have w7 : i64.wrap (((i : Nat) : Int) + 1) = ((i + 1 : Nat) : Int) := w64 (by omega)
     have c3 : 0 <= a + (i : Int) ∧ a + (i : Int) < (b.length : Int) := by omega
     by_cases c4 : rd b (a + (i : Int)) < 128
     ·refine .inr ?_
      -- the last byte
      have key : ∃ v : Bool, ((if (decide (128 * n + rd b (a + (i : Int)) % 128 > 2147483647)) = true then some true else (if (decide (((i : Nat) : Int) > 0)) = true then (if 0 <= a ∧ a < (b.length : Int) then some (decide (rd b a = 128)) else none) else some false)) : Option Bool) = some v ∧ (v = false -> 128 * n + rd b (a + (i : Int)) % 128 <= 2147483647) := by
       by_cases c5 : 128 * n + rd b (a + (i : Int)) % 128 > 2147483647
       ·exact ⟨true, by simp [c5], fun h => nomatch h⟩
       ·by_cases c6 : ((i : Nat) : Int) > 0
        ·rw [A9 (by simp only [A20]; exact c5), A6 (by simp only [A20]; exact c6), A6 (by omega)]
         exact ⟨_, rfl, fun _ => by omega⟩
        ·rw [A9 (by simp only [A20]; exact c5), A9 (by simp only [A20]; exact c6)]
         exact ⟨_, rfl, fun _ => by omega⟩
      obtain ⟨v, k1, k2⟩ := key
      cases v with
      | true =>
       refine ⟨_, ?_, .inr ⟨(0, 0, 3), rfl, .inl (by decide)⟩⟩
       unfold Z21l5
       simp only [show ((i : Nat) : Int) < 5 by omega, A7, A5, w1, c2, A8, A4, A3, c3, A22, w2, w3, w4, w5, c4, k1, A1]
      | false =>
       refine ⟨_, ?_, .inr ⟨(128 * n + rd b (a + (i : Int)) % 128, a + i + 1, 0), rfl, .inr ⟨by omega, k2 rfl, by omega, by show a < a + i + 1; omega, by show a + i + 1 <= _; omega⟩⟩⟩
       unfold Z21l5
       simp only [show ((i : Nat) : Int) < 5 by omega, A7, A5, w1, c2, A8, A4, A3, c3, A22, w2, w3, w4, w5, c4, k1, A1, w6]
     ·refine .inl ⟨(128 * n + rd b (a + (i : Int)) % 128, ((i + 1 : Nat) : Int)), ?_, ⟨i + 1, rfl, by omega, by show 0 <= 128 * n + rd b (a + (i : Int)) % 128; omega, ?_⟩, ?_⟩
      ·unfold Z21l5
       simp only [show ((i : Nat) : Int) < 5 by omega, A7, A5, w1, c2, A8, A4, A3, c3, A22, w2, w3, w4, w5, c4, w7]
      ·show 128 * n + rd b (a + (i : Int)) % 128 < 128 ^ (i + 1)
       rw [Int.pow_succ]; omega
      ·show (5 - ((i + 1 : Nat) : Int)).toNat < (5 - ((i : Nat) : Int)).toNat
       omega
   ·refine .inr ⟨_, ?_, .inl rfl⟩
    unfold Z21l5
    simp only [show ¬ ((i : Nat) : Int) < 5 by omega, A8, A4, A3])
  (0, 0) ⟨0, rfl, by omega, by decide, by decide⟩
 rw [e1]
 rcases e2 with rfl | ⟨r, rfl, hr⟩
 ·exact ⟨(0, 0, 3), rfl, .inl (by decide)⟩
 ·exact ⟨r, rfl, hr⟩
theorem B835 {b : List Int} (hb : Byt b) (hl : b.length <= 100000) : ∃ n, Z7 b = some n := by
 obtain ⟨r, r1, _⟩ := B193 hb hl 0
 obtain ⟨q, q1, _⟩ := B193 hb hl r.2.1
 rw [Z7_eq, r1]
 simp only [A1, q1]
 repeat' split
 all_goals exact ⟨_, rfl⟩
theorem B213 {b : List Int} (hb : Byt b) (hl : b.length <= 100000) (a most : Int) : ∃ r, Z94 b a most = some r ∧ (r.2.2 ≠ 0 ∨ (0 <= r.1 ∧ r.1 <= most ∧ 0 <= a ∧ a < r.2.1 ∧ r.2.1 <= (b.length : Int))) := by
 obtain ⟨r, r1, r2⟩ := B193 hb hl a
 rw [Z94_eq, r1]
 simp only [A1]
 by_cases h : r.2.2 = 0
 ·rcases r2 with h' | h'
  ·exact absurd h h'
  ·by_cases g : r.1 > most
   ·exact ⟨(r.1, r.2.1, 3), by simp [h, g], .inl (show (3 : Int) ≠ 0 by decide)⟩
   ·exact ⟨(r.1, r.2.1, r.2.2), by simp [h, g], .inr ⟨h'.1, by show r.1 <= most; omega, h'.2.2⟩⟩
 ·exact ⟨(r.1, r.2.1, r.2.2), by simp [h], .inl h⟩
theorem B914 {b : List Int} (hb : Byt b) (hl : b.length <= 100000) (a of : Int) (h0 : 0 <= of ∧ of <= 100000) : ∃ r, Z95 b a of = some r ∧ (r.2.2 ≠ 0 ∨ (0 <= r.2.1 ∧ a < r.2.1 ∧ r.2.1 <= (b.length : Int) ∧ r.1.length <= 20)) := by
 obtain ⟨r, r1, r2⟩ := B213 hb hl a 20
 rw [Z95_eq, r1]
 simp only [A1]
 by_cases h : r.2.2 = 0
 ·rcases r2 with h' | h'
  ·exact absurd h h'
  ·by_cases g : r.1 = 0
   ·exact ⟨([], 0, 3), by simp [h, g], .inl (by decide)⟩
   ·have w1 : i64.wrap (of + 1) = of + 1 := w64 (by omega)
    simp only [h, g, A7, A8, A19, A4, A3, w1]
    obtain ⟨o, e1, e2⟩ := B68 (f := Z95l9 b of r.1)
     (fun s => 0 <= s.1 ∧ a < s.1 ∧ s.1 <= (b.length : Int) ∧ 0 <= s.2.2.1 ∧ s.2.2.1 <= r.1 ∧ (s.2.2.2.length : Int) = s.2.2.1) (fun s => (r.1 - s.2.2.1).toNat)
     (fun o => (∃ p, o = .inl p ∧ 0 <= p.1 ∧ a < p.1 ∧ p.1 <= (b.length : Int) ∧ p.2.length <= 20) ∨ ∃ p, o = .inr p ∧ p.2.2 ≠ 0)
     (fun s hs => by
      obtain ⟨x, last, i, out⟩ := s
      obtain ⟨h1, h2, h3, h4, h5, h6⟩ := hs
      simp only at h1 h2 h3 h4 h5 h6
      by_cases c1 : i < r.1
      ·obtain ⟨q, q1, q2⟩ := B213 hb hl x of
       by_cases c2 : q.2.2 = 0
       ·rcases q2 with q' | q'
        ·exact absurd c2 q'
        ·have key : ∃ v : Bool, ((if (decide (q.1 = 0)) = true then some true else some (decide (q.1 ≥ last))) : Option Bool) = some v := by
          split <;> exact ⟨_, rfl⟩
         obtain ⟨v, k1⟩ := key
         cases v with
         | true =>
          refine .inr ⟨.inr ([], 0, 3), ?_, .inr ⟨_, rfl, by decide⟩⟩
          unfold Z95l9
          simp only [c1, A7, A5, q1, A1, c2, A19, A4, A3, k1]
         | false =>
          have w2 : i64.wrap (i + 1) = i + 1 := w64 (by omega)
          refine .inl ⟨(q.2.1, q.1, i + 1, out ++ [i64.wrap (of - q.1)]), ?_, ⟨by show 0 <= q.2.1; omega, by show a < q.2.1; omega, q'.2.2.2.2, by show 0 <= i + 1; omega, by show i + 1 <= r.1; omega, by simp; omega⟩, ?_⟩
          ·unfold Z95l9
           simp only [c1, A7, A5, q1, A1, c2, A19, A4, A3, k1, A29, w2]
           rw [A6 (by omega)]
          ·show (r.1 - (i + 1)).toNat < (r.1 - i).toNat
           omega
       ·refine .inr ⟨.inr ([], 0, q.2.2), ?_, .inr ⟨_, rfl, c2⟩⟩
        unfold Z95l9
        simp only [c1, A7, A5, q1, A1, c2, A8, A35]
      ·refine .inr ⟨.inl (x, out), ?_, .inl ⟨_, rfl, h1, h2, h3, by show out.length <= 20; omega⟩⟩
       unfold Z95l9
       simp only [c1, A8, A4, A3])
     (r.2.1, of + 1, 0, []) ⟨by show 0 <= r.2.1; omega, h'.2.2.2.1, h'.2.2.2.2, by simp, h'.1, by simp⟩
    rw [e1]
    rcases e2 with ⟨p, rfl, p1, p2, p3, p4⟩ | ⟨p, rfl, p1⟩
    ·exact ⟨(p.2, p.1, 0), rfl, .inr ⟨p1, p2, p3, p4⟩⟩
    ·exact ⟨(p.1, p.2.1, p.2.2), rfl, .inl p1⟩
 ·exact ⟨([], 0, r.2.2), by simp [h], .inl h⟩
theorem B849 {b : List Int} (hl : b.length <= 100000) (a : Int) (many : Int) (ha : 0 <= a ∧ a <= 100000) (hm : 1 <= many ∧ many <= 100) : ∃ r, Z96 b a many = some r ∧ (r.2.2 ≠ 0 ∨ (a < r.2.1 ∧ r.2.1 <= (b.length : Int) ∧ (r.1.length : Int) = many)) := by
 rw [Z96_eq]
 have w1 : i64.wrap (many + 7) = many + 7 := w64 (by omega)
 have w2 : i64.wrap ((many + 7).tdiv 8) = (many + 7) / 8 := by rw [B30 (by omega), w64 (by omega)]
 have w3 : i64.wrap (a + (many + 7) / 8) = a + (many + 7) / 8 := w64 (by omega)
 simp only [w1, w2, w3]
 by_cases h : a + (many + 7) / 8 > (b.length : Int)
 ·exact ⟨([], 0, 6), by simp [h], .inl (show (6 : Int) ≠ 0 by decide)⟩
 ·simp only [h, A8, A4, A3]
  have w4 : i64.wrap (8 * ((many + 7) / 8)) = 8 * ((many + 7) / 8) := w64 (by omega)
  obtain ⟨o, e1, e2⟩ := B68 (f := Z96l6 b a many ((many + 7) / 8)) (fun s => 0 <= s.1 ∧ s.1 <= 8 * ((many + 7) / 8) ∧ (s.2.length : Int) = min s.1 many) (fun s => (8 * ((many + 7) / 8) - s.1).toNat)
   (fun o => (∃ p : List Bool, o = .inl p ∧ (p.length : Int) = many) ∨ ∃ p : List Bool × Int × Int, o = .inr p ∧ p.2.2 ≠ 0)
   (fun s hs => by
    obtain ⟨i, out⟩ := s
    obtain ⟨h1, h2, h3⟩ := hs
    simp only at h1 h2 h3
    by_cases c1 : i < 8 * ((many + 7) / 8)
    ·have w5 : i64.wrap (i.tdiv 8) = i / 8 := by rw [B30 h1, w64 (by omega)]
     have w6 : i64.wrap (a + i / 8) = a + i / 8 := w64 (by omega)
     have w7 : i64.wrap (i + 1) = i + 1 := w64 (by omega)
     have c2 : 0 <= a + i / 8 ∧ a + i / 8 < (b.length : Int) := by omega
     have c3 : ¬ i.tmod 8 < 0 := by rw [B31 h1]; omega
     by_cases c4 : i < many
     ·refine .inl ⟨(i + 1, out ++ [decide (iand .u8 (rd b (a + i / 8)) (ishr .u8 128 (i.tmod 8)) > 0)]), ?_, ⟨by show 0 <= i + 1; omega, by show i + 1 <= _; omega, by simp; omega⟩, ?_⟩
      ·unfold Z96l6
       simp only [w4, c1, A7, A5, w5, w6, c2, A22, c3, A3, c4, A29, w7]
       rw [A6 (by omega)]
      ·show (8 * ((many + 7) / 8) - (i + 1)).toNat < (8 * ((many + 7) / 8) - i).toNat
       omega
     ·by_cases c5 : iand .u8 (rd b (a + i / 8)) (ishr .u8 128 (i.tmod 8)) > 0
      ·refine .inr ⟨.inr ([], 0, 3), ?_, .inr ⟨_, rfl, show (3 : Int) ≠ 0 by decide⟩⟩
       unfold Z96l6
       simp only [w4, c1, A7, A5, w5, w6, c2, A22, c3, A3, c4, A8, A4, c5]
      ·refine .inl ⟨(i + 1, out), ?_, ⟨by show 0 <= i + 1; omega, by show i + 1 <= _; omega, by show (out.length : Int) = min (i + 1) many; omega⟩, ?_⟩
       ·unfold Z96l6
        simp only [w4, c1, A7, A5, w5, w6, c2, A22, c3, A3, c4, A8, A4, c5, w7]
       ·show (8 * ((many + 7) / 8) - (i + 1)).toNat < (8 * ((many + 7) / 8) - i).toNat
        omega
    ·refine .inr ⟨.inl out, ?_, .inl ⟨_, rfl, by omega⟩⟩
     unfold Z96l6
     simp only [w4, c1, A8, A4, A3])
   (0, []) ⟨by decide, by omega, by simp; omega⟩
  rw [e1]
  rcases e2 with ⟨p, rfl, p1⟩ | ⟨p, rfl, p1⟩
  ·refine ⟨(p, a + (many + 7) / 8, 0), ?_, .inr ⟨by show a < a + (many + 7) / 8; omega, by show a + (many + 7) / 8 <= _; omega, p1⟩⟩
   simp only [A1, A48]
  ·exact ⟨(p.1, p.2.1, p.2.2), rfl, .inl p1⟩
abbrev Hd := Int × Int × Int × List Int × List Bool × List Int × Int × Int × Int
def HdOk (b : List Int) (a : Int) (r : Hd) : Prop := r.2.2.2.2.2.2.2.2 ≠ 0 ∨ (0 <= a ∧ a < r.2.2.2.2.2.2.2.1 ∧ r.2.2.2.2.2.2.2.1 <= (b.length : Int) ∧ 0 <= r.2.2.2.2.2.2.1 ∧ r.2.2.2.2.2.2.1 <= 20000 ∧ r.2.2.2.1.length <= 20 ∧ r.2.2.2.2.2.1 = [])
theorem B811 {b : List Int} (hb : Byt b) (hl : b.length <= 100000) (a : Int) : ∃ r, Z64 b a = some r ∧ HdOk b a r := by
 rw [Z64_eq]
 obtain ⟨n, n1, n2⟩ := B213 hb hl a 10000
 rw [n1]
 simp only [A1]
 by_cases c1 : n.2.2 = 0
 ·rcases n2 with h | ⟨m1, m2, m3, m4, m5⟩
  ·exact absurd c1 h
  by_cases c2 : n.2.1 ≥ (b.length : Int)
  ·exact ⟨(n.1, 0, 0, [], [], [], 0, 0, 6), by simp [c1, c2], .inl (show (6 : Int) ≠ 0 by decide)⟩
  have hv := B674 hb n.2.1
  have w1 : i64.wrap (rd b n.2.1) = rd b n.2.1 := w64 (by omega)
  have w2 : i64.wrap (n.2.1 + 1) = n.2.1 + 1 := w64 (by omega)
  have c3 : 0 <= n.2.1 ∧ n.2.1 < (b.length : Int) := by omega
  simp only [c1, A7, A19, A4, A3, c2, A8, A6 c3, w1, w2]
  by_cases c4 : rd b n.2.1 > 31
  ·exact ⟨(n.1, 0, 0, [], [], [], 0, 0, 3), by simp [c4], .inl (show (3 : Int) ≠ 0 by decide)⟩
  simp only [c4, A8, A4, A3]
  -- the rest of a header, B221 the references
  have rest : ∀ (x : Int) (rf : List Int), a < x -> 0 <= x -> x <= 100000 -> rf.length <= 20 -> ∃ r : Hd, ((Z96 b x (i64.wrap (((rf.length : Nat) : Int) + 1))).bind fun q34 =>
    (if (!decide (q34.2.2 = 0)) = true then some (n.1, (rd b n.2.1).tmod 16, (0 : Int), rf, q34.1, ([] : List Int), (0 : Int), (0 : Int), q34.2.2)
    else (Z94 b q34.2.1 1000).bind fun q38 =>
    (if (!decide (q38.2.2 = 0)) = true then some (n.1, (rd b n.2.1).tmod 16, q38.1, rf, q34.1, ([] : List Int), (0 : Int), (0 : Int), q38.2.2)
    else (Z94 b q38.2.1 20000).bind fun q42 => some (n.1, (rd b n.2.1).tmod 16, q38.1, rf, q34.1, ([] : List Int), q42.1, q42.2.1, q42.2.2)))) = some r ∧ HdOk b a r := by
   intro x rf hx hx0 hx1 hrf
   have w3 : i64.wrap (((rf.length : Nat) : Int) + 1) = (rf.length : Int) + 1 := w64 (by omega)
   rw [w3]
   obtain ⟨k, k1, k2⟩ := B849 hl x ((rf.length : Int) + 1) ⟨hx0, hx1⟩ (by omega)
   rw [k1]
   simp only [A1]
   by_cases d1 : k.2.2 = 0
   ·rcases k2 with h | ⟨g1, g2, g3⟩
    ·exact absurd d1 h
    obtain ⟨p, p1, p2⟩ := B213 hb hl k.2.1 1000
    simp only [d1, A7, A19, A4, A3, p1, A1]
    by_cases d2 : p.2.2 = 0
    ·rcases p2 with h | ⟨q1, q2, q3, q4, q5⟩
     ·exact absurd d2 h
     obtain ⟨u, u1, u2⟩ := B213 hb hl p.2.1 20000
     simp only [d2, A7, A19, A4, A3, u1, A1]
     refine ⟨_, rfl, ?_⟩
     rcases u2 with h | ⟨v1, v2, v3, v4, v5⟩
     ·exact .inl h
     ·exact .inr ⟨m3, by show a < u.2.1; omega, v5, v1, v2, hrf, rfl⟩
    ·simp only [d2, A8, A35, A5]
     exact ⟨_, rfl, .inl d2⟩
   ·simp only [d1, A8, A35, A5]
    exact ⟨_, rfl, .inl d1⟩
  by_cases c5 : rd b n.2.1 ≥ 16
  ·obtain ⟨r, r1, r2⟩ := B914 hb hl (n.2.1 + 1) n.1 (by omega)
   simp only [c5, A7, A5, r1, A1]
   by_cases c6 : r.2.2 = 0
   ·rcases r2 with h | ⟨g1, g2, g3, g4⟩
    ·exact absurd c6 h
    simp only [c6, A7, A19, A4, A3, A1, A48]
    exact rest r.2.1 r.1 (by omega) g1 (by omega) g4
   ·simp only [c6, A8, A35, A5, A1, A91]
    exact ⟨_, rfl, .inl c6⟩
  ·simp only [c5, A8, A4, A3, A1, A48]
   exact rest (n.2.1 + 1) [] (by omega) (by omega) (by omega) (by simp)
 ·exact ⟨(n.1, 0, 0, [], [], [], 0, 0, n.2.2), by simp [c1], .inl c1⟩
theorem B651 {b : List Int} (hb : Byt b) (hl : b.length <= 100000) (a : Int) : ∃ r, Z41 b a = some r ∧ HdOk b a r := by
 rw [Z41_eq]
 by_cases h1 : a < 0
 ·exact ⟨(0, 0, 0, [], [], [], 0, 0, 2), by simp [h1], .inl (show (2 : Int) ≠ 0 by decide)⟩
 by_cases h2 : a > (b.length : Int)
 ·exact ⟨(0, 0, 0, [], [], [], 0, 0, 2), by simp [h1, h2], .inl (show (2 : Int) ≠ 0 by decide)⟩
 simp only [h1, h2, A8, A4, A3, A1]
 obtain ⟨r, r1, r2⟩ := B811 hb hl a
 rw [r1]
 simp only [A1]
 by_cases c : r.2.2.2.2.2.2.2.2 = 0
 ·rcases r2 with h | h
  ·exact absurd c h
  ·exact ⟨(r.1, r.2.1, r.2.2.1, r.2.2.2.1, r.2.2.2.2.1, r.2.2.2.2.2.1, r.2.2.2.2.2.2.1, r.2.2.2.2.2.2.2.1, 0), by simp [c], .inr h⟩
 ·exact ⟨(0, 0, 0, [], [], [], 0, 0, r.2.2.2.2.2.2.2.2), by simp [c], .inl c⟩
theorem B875 {l : List Segment} (hl : l.length <= 1000) (n : Int) : ∃ j, Z98 l n = some j ∧ -1 <= j ∧ j < (l.length : Int) := by
 rw [Z98_eq]
 obtain ⟨o, e1, e2⟩ := B68 (f := Z98l2 l n) (fun s => ∃ k : Nat, s = (k : Int) ∧ k <= l.length) (fun s => ((l.length : Int) - s).toNat)
  (fun o => o = .inl () ∨ ∃ j : Int, o = .inr j ∧ 0 <= j ∧ j < (l.length : Int))
  (fun s hs => by
   obtain ⟨k, rfl, hk⟩ := hs
   by_cases c : k < l.length
   ·have w2 : i64.wrap ((k : Int) + 1) = ((k + 1 : Nat) : Int) := w64 (by omega)
    have hg := A17 c
    by_cases h : l[k].number = n
    ·refine .inr ⟨.inr (k : Int), ?_, .inr ⟨_, rfl, by omega, by omega⟩⟩
     unfold Z98l2
     simp only [A10, c, A7, A5, A14, A12, hg, A1, h]
    ·refine .inl ⟨((k + 1 : Nat) : Int), ?_, ⟨k + 1, rfl, by omega⟩, by omega⟩
     unfold Z98l2
     simp only [A10, c, A7, A5, A14, A12, hg, A1, h, A8, A4, A3, w2]
   ·refine .inr ⟨.inl (), ?_, .inl rfl⟩
    unfold Z98l2
    simp only [A10, c, A8, A4, A3])
  0 ⟨0, rfl, by omega⟩
 rw [e1]
 rcases e2 with rfl | ⟨j, rfl, h1, h2⟩
 ·exact ⟨-1, rfl, by omega, by omega⟩
 ·exact ⟨j, rfl, by omega, h2⟩
theorem B821 (n k p : Int) (rf : List Int) (kp : List Bool) (d : List Int) (h20 : rf.length <= 1000) : ∃ v, Z97 n k p rf kp d = some v ∧ (v = true -> rf.length <= 20 ∧ kp.length = rf.length + 1) := by
 rw [Z97_eq]
 have key : ∃ v : Bool, ((if (decide (n < 0)) = true then some true else (if (decide (n > 10000)) = true then some true else (if (decide (k < 0)) = true then some true else (if (decide (k > 15)) = true then some true else (if (decide (p < 0)) = true then some true else some (decide (p > 1000))))))) : Option Bool) = some v := by
  repeat' split
  all_goals exact ⟨_, rfl⟩
 obtain ⟨v, k1⟩ := key
 rw [k1]
 simp only [A1]
 cases v with
 | true => exact ⟨false, rfl, fun h => nomatch h⟩
 | false =>
  have w1 : i64.wrap (((rf.length : Nat) : Int) + 1) = (rf.length : Int) + 1 := w64 (by omega)
  simp only [A4, A3, w1]
  by_cases c1 : ((rf.length : Nat) : Int) > 20
  ·exact ⟨false, by simp [c1], fun h => nomatch h⟩
  by_cases c2 : ((kp.length : Nat) : Int) = (rf.length : Int) + 1
  ·simp only [c1, c2, A8, A7, A19, A4, A3, A1]
   by_cases c3 : ((d.length : Nat) : Int) > 20000
   ·exact ⟨false, by simp [c3], fun h => nomatch h⟩
   ·simp only [c3, A8, A4, A3]
    obtain ⟨o, e1, _⟩ := B68 (f := Z97l7 n rf) (fun s => ∃ k : Nat, s.2 = (k : Int) ∧ k <= rf.length) (fun s => ((rf.length : Int) - s.2).toNat) (fun _ => True)
     (fun s hs => by
      obtain ⟨x, y⟩ := s
      obtain ⟨k, rfl, hk⟩ := hs
      by_cases c : k < rf.length
      ·have w2 : i64.wrap ((k : Int) + 1) = ((k + 1 : Nat) : Int) := w64 (by omega)
       by_cases h1 : rd rf (k : Int) <= x
       ·refine .inr ⟨.inr false, ?_, trivial⟩
        unfold Z97l7
        simp only [A10, c, A7, A5, A14, A13, h1]
       ·by_cases h2 : rd rf (k : Int) ≥ n
        ·refine .inr ⟨.inr false, ?_, trivial⟩
         unfold Z97l7
         simp only [A10, c, A7, A5, A14, A13, h1, A8, A4, A3, h2]
        ·refine .inl ⟨(rd rf (k : Int), ((k + 1 : Nat) : Int)), ?_, ⟨k + 1, rfl, by omega⟩, by show ((rf.length : Int) - ((k + 1 : Nat) : Int)).toNat < ((rf.length : Int) - (k : Int)).toNat; omega⟩
         unfold Z97l7
         simp only [A10, c, A7, A5, A14, A13, h1, A8, A4, A3, h2, w2]
      ·refine .inr ⟨.inl (), ?_, trivial⟩
       unfold Z97l7
       simp only [A10, c, A8, A4, A3])
     (-1, 0) ⟨0, rfl, by omega⟩
    rw [e1]
    cases o with
    | inl _ => exact ⟨true, rfl, fun _ => ⟨by omega, by omega⟩⟩
    | inr v => exact ⟨v, rfl, fun _ => ⟨by omega, by omega⟩⟩
  ·exact ⟨false, by simp [c1, c2], fun h => nomatch h⟩
theorem B802 {l : List Segment} {v : Nat} (hl : l.length <= 1000) (hv : v < l.length) {e : Segment} (hk : e.keep.length = e.refs.length + 1) (hr : e.refs.length <= 20) {out0 : List Bool} (ho : out0.length = l.length) :
  ∃ o, loop (Z65l8 l (v : Int) e) (0, out0) = some o ∧ ((∃ b : List Bool, o = .inl b ∧ b.length = l.length) ∨ ∃ p : List Bool × Int × List Bool, o = .inr p ∧ p.2.1 = (v : Int)) := by
 exact B68 (f := Z65l8 l (v : Int) e) (fun s => ∃ k : Nat, s.1 = (k : Int) ∧ k <= e.refs.length ∧ s.2.length = l.length) (fun s => ((e.refs.length : Int) - s.1).toNat)
  (fun o => (∃ b : List Bool, o = .inl b ∧ b.length = l.length) ∨ ∃ p : List Bool × Int × List Bool, o = .inr p ∧ p.2.1 = (v : Int))
  (fun s hs => by
   obtain ⟨x, out⟩ := s
   obtain ⟨k, rfl, hk', hout⟩ := hs
   simp only at hout
   by_cases c : k < e.refs.length
   ·have w2 : i64.wrap ((k : Int) + 1) = ((k + 1 : Nat) : Int) := w64 (by omega)
    obtain ⟨j, j1, j2, j3⟩ := B875 (l := cutL l 0 v) (by simp [cutL]; omega) (rd e.refs (k : Int))
    have hjl : j < (v : Int) := by
     have : (cutL l 0 v).length <= v := by simp [cutL]; omega
     omega
    have c0 : ((v : Nat) : Int) <= ((l.length : Nat) : Int) := by omega
    have key : ∃ w : Bool, ((if (decide (j < 0)) = true then some true else (if 0 <= j ∧ j < (out.length : Int) then (out[j.toNat]?).bind fun e16 => (if (!e16) = true then some true else (if 0 <= j then (l[j.toNat]?).bind fun e17 => (if (!decide (e17.page = 0)) = true then (if 0 <= j then (l[j.toNat]?).bind fun e18 => some (!decide (e18.page = e.page)) else none) else some false) else none)) else none)) : Option Bool) = some w ∧ (w = false -> 0 <= j) := by
     by_cases d1 : j < 0
     ·exact ⟨true, by simp [d1], fun h => nomatch h⟩
     ·have g1 := A17 (l := out) (i := j.toNat) (by omega)
      have g2 := A17 (l := l) (i := j.toNat) (by omega)
      simp only [d1, A8, A4, A3, A6 (show 0 <= j ∧ j < (out.length : Int) by omega), g1, A1, A6 (show 0 <= j by omega), g2]
      cases out[j.toNat] with
      | false => exact ⟨true, rfl, fun h => nomatch h⟩
      | true =>
       simp only [A19, A4, A3]
       split
       ·exact ⟨_, rfl, fun _ => by omega⟩
       ·exact ⟨_, rfl, fun _ => by omega⟩
    obtain ⟨w, k1, k2⟩ := key
    cases w with
    | true =>
     refine .inr ⟨.inr ([], (v : Int), out), ?_, .inr ⟨_, rfl, rfl⟩⟩
     unfold Z65l8
     simp only [A10, c, A7, A5, A14, A13, c0, A12, j1, A1, k1]
    | false =>
     have hj0 := k2 rfl
     have g1 := A17 (l := out) (i := j.toNat) (by omega)
     have g3 := A17 (l := e.keep) (i := k) (by omega)
     refine .inl ⟨(((k + 1 : Nat) : Int), out.set j.toNat e.keep[k]), ?_, ⟨k + 1, rfl, by omega, by simp [hout]⟩, by show ((e.refs.length : Int) - ((k + 1 : Nat) : Int)).toNat < ((e.refs.length : Int) - (k : Int)).toNat; omega⟩
     unfold Z65l8
     simp only [A10, c, A7, A5, A14, A13, c0, A12, j1, A1, k1, A4, A3]
     simp only [g3, A1, A6 (show 0 <= j ∧ j < (out.length : Int) by omega), g1, w2]
   ·refine .inr ⟨.inl out, ?_, .inl ⟨_, rfl, hout⟩⟩
    unfold Z65l8
    simp only [A10, c, A8, A4, A3])
  (0, out0) ⟨0, rfl, by omega, ho⟩
theorem B924 {l : List Segment} (hl : l.length <= 1000) (hr : ∀ s ∈ l, s.refs.length <= 1000) : ∃ r, Z65 l = some r ∧ (r.2 = -1 ∨ (0 <= r.2 ∧ r.2 < (l.length : Int))) := by
 rw [Z65_eq, A6 (by omega)]
 obtain ⟨o, e1, e2⟩ := B68 (f := Z65l3 l) (fun s => ∃ k : Nat, s.1 = (k : Int) ∧ k <= l.length ∧ s.2.length = l.length) (fun s => ((l.length : Int) - s.1).toNat)
  (fun o => (∃ b : List Bool, o = .inl b) ∨ ∃ p : List Bool × Int × List Bool, o = .inr p ∧ 0 <= p.2.1 ∧ p.2.1 < (l.length : Int))
  (fun s hs => by
   obtain ⟨x, out⟩ := s
   obtain ⟨k, rfl, hk', hout⟩ := hs
   simp only at hout
   by_cases c : k < l.length
   ·have w2 : i64.wrap ((k : Int) + 1) = ((k + 1 : Nat) : Int) := w64 (by omega)
    have hg := A17 c
    obtain ⟨v, v1, v2⟩ := B821 l[k].number l[k].kind l[k].page l[k].refs l[k].keep l[k].data (hr _ (A79 c))
    have key : ∃ w : Bool, (((Z97 l[k].number l[k].kind l[k].page l[k].refs l[k].keep l[k].data).bind fun q7 => (if (!q7) = true then some true else (if (decide (((k : Nat) : Int) > 0)) = true then (if 0 <= i64.wrap (((k : Nat) : Int) - 1) then (l[(i64.wrap (((k : Nat) : Int) - 1)).toNat]?).bind fun e9 => some (decide (l[k].number <= e9.number)) else none) else some false))) : Option Bool) = some w ∧ (w = false -> v = true) := by
     rw [v1]
     simp only [A1]
     cases v with
     | false => exact ⟨true, rfl, fun h => nomatch h⟩
     | true =>
      simp only [A19, A4, A3]
      by_cases d : ((k : Nat) : Int) > 0
      ·have w3 : i64.wrap (((k : Nat) : Int) - 1) = ((k - 1 : Nat) : Int) := by rw [w64 (by omega)]; omega
       have g4 := A17 (l := l) (i := k - 1) (by omega)
       simp only [d, A7, A5, w3, A14, A12, g4, A1]
       exact ⟨_, rfl, by simp⟩
      ·simp only [d, A8, A4, A3]
       exact ⟨_, rfl, by simp⟩
    obtain ⟨w, k1, k2⟩ := key
    cases w with
    | true =>
     refine .inr ⟨.inr ([], (k : Int), out), ?_, .inr ⟨_, rfl, by show (0 : Int) <= k; omega, by show (k : Int) < _; omega⟩⟩
     unfold Z65l3
     simp only [A10, c, A7, A5, A14, A12, hg, A1, k1]
    | false =>
     obtain ⟨r20, kl⟩ := v2 (k2 rfl)
     obtain ⟨o, o1, o2⟩ := B802 hl c (e := l[k]) kl r20 hout
     rcases o2 with ⟨b, rfl, b1⟩ | ⟨p, rfl, p1⟩
     ·have g5 := A17 (l := l[k].keep) (i := l[k].refs.length) (by omega)
      have g6 := A17 (l := b) (i := k) (by omega)
      refine .inl ⟨(((k + 1 : Nat) : Int), b.set k l[k].keep[l[k].refs.length]), ?_, ⟨k + 1, rfl, by omega, by simp [b1]⟩, by show ((l.length : Int) - ((k + 1 : Nat) : Int)).toNat < ((l.length : Int) - (k : Int)).toNat; omega⟩
      unfold Z65l3
      simp only [A10, c, A7, A5, A14, A13, A12, hg, A1, k1, A4, A3, o1, A48, g5, show k < b.length by omega, g6, w2]
     ·refine .inr ⟨.inr (p.1, p.2.1, p.2.2), ?_, .inr ⟨_, rfl, by show 0 <= p.2.1; omega, by show p.2.1 < _; omega⟩⟩
      unfold Z65l3
      simp only [A10, c, A7, A5, A14, A12, hg, A1, k1, A4, A3, o1, A91]
   ·refine .inr ⟨.inl out, ?_, .inl ⟨_, rfl⟩⟩
    unfold Z65l3
    simp only [A10, c, A8, A4, A3])
  (0, List.replicate ((l.length : Nat) : Int).toNat false) ⟨0, rfl, by omega, by simp⟩
 simp only [e1, A1]
 rcases e2 with ⟨b, rfl⟩ | ⟨p, rfl, p1⟩
 ·exact ⟨_, rfl, .inl rfl⟩
 ·exact ⟨_, rfl, .inr p1⟩
theorem B759 {l : List Segment} (hl : l.length <= 1000) (hr : ∀ s ∈ l, s.refs.length <= 1000) : ∃ p e, Z42 l = some (p, e) ∧ (e = 0 ∨ (0 <= p ∧ p < (l.length : Int))) := by
 obtain ⟨r, r1, r2⟩ := B924 hl hr
 rw [Z42_eq, r1]
 simp only [A1]
 rcases r2 with h | h
 ·exact ⟨-1, 0, by simp [h], .inl rfl⟩
 ·exact ⟨r.2, 40, by simp [h.1], .inr h⟩
def SegOk (s : Segment) : Prop := Byt s.data ∧ s.data.length <= 100000 ∧ s.refs.length <= 20
abbrev Ps := Int × Int × Int × List Segment × List Int × List Arr2
structure PsOk (p : Ps) : Prop where
 h : p.2.2.2.2.1.length = p.2.2.2.1.length
 pl : p.2.2.2.2.2.length = p.2.2.2.1.length
 small : p.2.2.2.1.length <= 100
 seg : ∀ s ∈ p.2.2.2.1, SegOk s
theorem B508 {b : List Int} (hb : Byt b) (hl : b.length <= 100000) (a : Int) {p : Ps} (hp : PsOk p) : ∃ n q, Z23 b a p.1 p.2.1 p.2.2.1 p.2.2.2.1 p.2.2.2.2.1 p.2.2.2.2.2 = some (n, q) ∧ PsOk q ∧
  (n = 0 ∨ (a < n ∧ n <= (b.length : Int) ∧ q.2.2.2.1.length = p.2.2.2.1.length + 1 ∧ ∃ x : Arr2, q.2.2.2.2.2[p.2.2.2.1.length]? = some x ∧ 0 <= x.a1 ∧ x.a1 <= 20000)) := by
 rw [Z23_eq]
 by_cases c1 : ((p.2.2.2.1.length : Nat) : Int) = 100
 ·refine ⟨0, (p.1, 4, 0, p.2.2.2.1, p.2.2.2.2.1, p.2.2.2.2.2), ?_, ⟨hp.h, hp.pl, hp.small, hp.seg⟩, .inl rfl⟩
  simp only [c1, A7, A5, Z22_eq, A1]
 by_cases c2 : a = (b.length : Int)
 ·refine ⟨0, (p.1, 60, a, p.2.2.2.1, p.2.2.2.2.1, p.2.2.2.2.2), ?_, ⟨hp.h, hp.pl, hp.small, hp.seg⟩, .inl rfl⟩
  simp only [c1, c2, A8, A7, A4, A3, A5, Z22_eq, A1]
 obtain ⟨r, r1, r2⟩ := B651 hb hl a
 simp only [c1, c2, A8, A4, A3, r1, A1]
 by_cases c3 : r.2.2.2.2.2.2.2.2 = 0
 ·rcases r2 with h | ⟨g1, g2, g3, g4, g5, g6, g7⟩
  ·exact absurd c3 h
  have h1 := hp.small
  have h2 := hp.h
  have h3 := hp.pl
  refine ⟨r.2.2.2.2.2.2.2.1, (p.1, p.2.1, p.2.2.1, p.2.2.2.1 ++ [⟨r.1, r.2.1, r.2.2.1, r.2.2.2.1, r.2.2.2.2.1, r.2.2.2.2.2.1⟩], p.2.2.2.2.1 ++ [a], p.2.2.2.2.2 ++ [⟨0, r.2.2.2.2.2.2.1⟩]), ?_, ⟨by simp [h2], by simp [h3], by simp; omega, fun s hs => ?_⟩, .inr ⟨g2, g3, by simp, ⟨⟨0, r.2.2.2.2.2.2.1⟩, by simp [← h3], g4, g5⟩⟩⟩
  ·simp only [c3, A7, A19, A4, A3, A29]
   rw [A6 (by omega), A6 (by omega), A6 (by omega)]
  ·rcases A42.1 hs with hs | hs
   ·exact hp.seg s hs
   ·rw [A54] at hs; subst hs
    exact ⟨fun x hx => by simp only [g7] at hx; simp at hx, by simp [g7], g6⟩
 ·refine ⟨0, (p.1, r.2.2.2.2.2.2.2.2, a, p.2.2.2.1, p.2.2.2.2.1, p.2.2.2.2.2), ?_, ⟨hp.h, hp.pl, hp.small, hp.seg⟩, .inl rfl⟩
  simp only [c3, A8, A35, A5, Z22_eq, A1]
theorem B603 {b : List Int} (hb : Byt b) (hl : b.length <= 100000) {i : Nat} {a : Int} {p : Ps} (hp : PsOk p) (hi : i < p.2.2.2.1.length) (ha : 0 <= a ∧ a <= (b.length : Int)) {x : Arr2} (hx : p.2.2.2.2.2[i]? = some x) (hx0 : 0 <= x.a1 ∧ x.a1 <= 20000) :
  ∃ n ok q, Z24 b (i : Int) a p.1 p.2.1 p.2.2.1 p.2.2.2.1 p.2.2.2.2.1 p.2.2.2.2.2 = some (n, ok, q) ∧ PsOk q ∧ (ok = true -> a <= n ∧ n <= (b.length : Int) ∧ q.2.2.2.1.length = p.2.2.2.1.length) := by
 rw [Z24_eq]
 have hpl := hp.pl
 have w1 : i64.wrap (((b.length : Nat) : Int) - a) = (b.length : Int) - a := w64 (by omega)
 have w2 : i64.wrap (a + x.a1) = a + x.a1 := w64 (by omega)
 have c0 : i < p.2.2.2.2.2.length := by omega
 simp only [A14, A13, A10, c0, A5, A6 (show 0 <= (1 : Int) ∧ (1 : Int) < ((2 : Nat) : Int) by omega), A12, hx, A1, w1]
 by_cases c1 : x.a1 > (b.length : Int) - a
 ·refine ⟨0, false, (p.1, 6, a, p.2.2.2.1, p.2.2.2.2.1, p.2.2.2.2.2), ?_, ⟨hp.h, hp.pl, hp.small, hp.seg⟩, fun h => nomatch h⟩
  simp only [c1, A7, A5, Z22_eq, A1]
 ·have hg := A17 hi
  refine ⟨a + x.a1, true, (p.1, p.2.1, p.2.2.1, p.2.2.2.1.set i ⟨p.2.2.2.1[i].number, p.2.2.2.1[i].kind, p.2.2.2.1[i].page, p.2.2.2.1[i].refs, p.2.2.2.1[i].keep, cutL b a.toNat (a + x.a1).toNat⟩, p.2.2.2.2.1, p.2.2.2.2.2.set i ⟨a, x.a1⟩), ?_, ⟨by simp [hp.h], by simp [hp.pl], by simp [hp.small], fun s hs => ?_⟩, fun _ => ⟨by omega, by omega, by simp⟩⟩
  ·simp only [c1, A8, A4, A3, A6 (show 0 <= (0 : Int) ∧ (0 : Int) < ((2 : Nat) : Int) by omega), A1, w2, A6 (show 0 <= a + x.a1 ∧ a + x.a1 <= ((b.length : Nat) : Int) by omega), A6 (show 0 <= a ∧ a <= a + x.a1 by omega), hi, A5, hg, A30]
   rw [A6 (by simp [cutL]; omega)]
  ·rcases List.mem_or_eq_of_mem_set hs with h | rfl
   ·exact hp.seg s h
   ·have hm := hp.seg _ (A79 hi)
    refine ⟨fun y hy => hb y (A69 (A80 hy)), ?_, hm.2.2⟩
    show (cutL b a.toNat (a + x.a1).toNat).length <= 100000
    simp [cutL]; omega
theorem B690 {b : List Int} (hb : Byt b) (hl : b.length <= 100000) : ∃ r, Z8 b = some r ∧ (∀ s ∈ r.2.2.2.1, SegOk s) ∧ r.2.2.2.1.length <= 100 := by
 rw [Z8_eq]
 by_cases c0 : ((b.length : Nat) : Int) > 40000
 ·refine ⟨(2, 4, 0, [], [], []), ?_, fun s hs => by simp at hs, by simp⟩
  simp only [c0, A7, A5, Z22_eq, A1]
 simp only [c0, A8, A4, A3]
 obtain ⟨o, e1, e2⟩ := B68 (f := Z8l6 b) (fun s => PsOk s.2.2 ∧ s.1 = (s.2.2.2.2.2.1.length : Int) ∧ 0 <= s.2.1 ∧ s.2.1 <= (b.length : Int)) (fun s => ((b.length : Int) - s.2.1).toNat)
  (fun o => ∃ p : Ps, (o = .inl p ∨ o = .inr p) ∧ PsOk p)
  (fun s hs => by
   obtain ⟨i, a, p⟩ := s
   obtain ⟨hp, hi, ha0, ha1⟩ := hs
   simp only at hi ha0 ha1 hp
   subst hi
   by_cases c1 : a < (b.length : Int)
   ·obtain ⟨n, q, q1, q2, q3⟩ := B508 hb hl a hp
    by_cases c2 : n = 0
    ·refine .inr ⟨.inr q, ?_, q, .inr rfl, q2⟩
     unfold Z8l6
     simp only [c1, A7, A5, q1, A1, c2]
    ·rcases q3 with h | ⟨g1, g2, g3, x, g4, g5, g6⟩
     ·exact absurd h c2
     have hlt : p.2.2.2.1.length < q.2.2.2.1.length := by omega
     have hg := A17 hlt
     by_cases c3 : q.2.2.2.1[p.2.2.2.1.length].kind = 9
     ·refine .inr ⟨.inr (q.1, 60, a, q.2.2.2.1, q.2.2.2.2.1, q.2.2.2.2.2), ?_, _, .inr rfl, ⟨q2.h, q2.pl, q2.small, q2.seg⟩⟩
      unfold Z8l6
      simp only [c1, A7, A5, q1, A1, c2, A8, A4, A3, A14, A13, A10, hlt, A12, hg, c3, Z22_eq]
     ·obtain ⟨m, ok, u, u1, u2, u3⟩ := B603 hb hl (i := p.2.2.2.1.length) (a := n) q2 hlt ⟨by omega, g2⟩ g4 ⟨g5, g6⟩
      cases ok with
      | false =>
       refine .inr ⟨.inr u, ?_, u, .inr rfl, u2⟩
       unfold Z8l6
       simp only [c1, A7, A5, q1, A1, c2, A8, A4, A3, A14, A13, A10, hlt, A12, hg, c3, u1, A35]
      | true =>
       obtain ⟨v1, v2, v3⟩ := u3 rfl
       have hps := hp.small
       have w2 : i64.wrap (((p.2.2.2.1.length : Nat) : Int) + 1) = (p.2.2.2.1.length : Int) + 1 := w64 (by omega)
       refine .inl ⟨((p.2.2.2.1.length : Int) + 1, m, u), ?_, ⟨u2, by show (p.2.2.2.1.length : Int) + 1 = (u.2.2.2.1.length : Int); omega, by show 0 <= m; omega, v2⟩, by show ((b.length : Int) - m).toNat < ((b.length : Int) - a).toNat; omega⟩
       unfold Z8l6
       simp only [c1, A7, A5, q1, A1, c2, A8, A4, A3, A14, A13, A10, hlt, A12, hg, c3, u1, A19, w2]
   ·refine .inr ⟨.inl p, ?_, p, .inl rfl, hp⟩
    unfold Z8l6
    simp only [c1, A8, A4, A3])
  (0, 0, 2, 0, 0, [], [], []) ⟨⟨rfl, rfl, by simp, fun s hs => by simp at hs⟩, rfl, by decide, by show (0 : Int) <= _; omega⟩
 rw [e1]
 obtain ⟨p, hp, hok⟩ := e2
 rcases hp with rfl | rfl
 ·obtain ⟨pl, e, k1, k2⟩ := B759 (l := p.2.2.2.1) (by have := hok.small; omega) (fun s hs => by have := (hok.seg s hs).2.2; omega)
  simp only [A1, A48, Z25_eq, k1]
  by_cases c : e = 0
  ·refine ⟨p, ?_, hok.seg, hok.small⟩
   simp only [c, A7, A19, A4, A3, A1]
  ·rcases k2 with h | h
   ·exact absurd h c
   have hh := hok.h
   refine ⟨(p.1, e, rd p.2.2.2.2.1 pl, p.2.2.2.1, p.2.2.2.2.1, p.2.2.2.2.2), ?_, hok.seg, hok.small⟩
   simp only [c, A8, A35, A5, A6 (show 0 <= pl ∧ pl < (p.2.2.2.2.1.length : Int) by omega), Z22_eq, A1]
 ·exact ⟨p, rfl, hok.seg, hok.small⟩
theorem B847 {l : List Segment} (hl : l.length <= 1000000000000) (hs : ∀ s ∈ l, SegOk s) : ∃ v, Z9 l = some v := by
 rw [Z9_eq]
 obtain ⟨o, e1, _⟩ := B68 (f := Z9l3 l) (fun s => ∃ k : Nat, s.2.2 = (k : Int) ∧ k <= l.length) (fun s => ((l.length : Int) - s.2.2).toNat) (fun _ => True)
  (fun s hk => by
   obtain ⟨m, px, y⟩ := s
   obtain ⟨k, rfl, hk⟩ := hk
   by_cases c : k < l.length
   ·have w2 : i64.wrap ((k : Int) + 1) = ((k + 1 : Nat) : Int) := w64 (by omega)
    have hg := A17 c
    have hok := hs _ (A79 c)
    obtain ⟨r, r1, _⟩ := B193 hok.1 hok.2.1 0
    obtain ⟨q, q1, _⟩ := B193 hok.1 hok.2.1 r.2.1
    have mz : ∀ m' px' : Int, (((l.length : Int) - ((m', px', ((k + 1 : Nat) : Int)) : Int × Int × Int).2.2).toNat < ((l.length : Int) - ((m, px, (k : Int)) : Int × Int × Int).2.2).toNat) := fun m' px' => by show ((l.length : Int) - ((k + 1 : Nat) : Int)).toNat < ((l.length : Int) - (k : Int)).toNat; omega
    have key1 : ∃ w : Bool, ((if (decide (l[k].kind > 5)) = true then some (!decide (l[k].kind = 10)) else some false) : Option Bool) = some w := by split <;> exact ⟨_, rfl⟩
    obtain ⟨w, k1⟩ := key1
    have key2 : ∃ w : Bool, ((if (decide (r.2.2 = 0)) = true then (if (decide (q.2.2 = 0)) = true then (if (decide (r.1 <= 200)) = true then some (decide (q.1 <= 200)) else some false) else some false) else some false) : Option Bool) = some w := by
     repeat' split
     all_goals exact ⟨_, rfl⟩
    obtain ⟨w', k2⟩ := key2
    refine .inl ?_
    cases w with
    | true =>
     refine ⟨(m, px, ((k + 1 : Nat) : Int)), ?_, ⟨k + 1, rfl, by omega⟩, mz _ _⟩
     unfold Z9l3
     simp only [A10, c, A7, A5, A14, A12, hg, A1, k1, w2]
    | false =>
     cases w' with
     | true =>
      refine ⟨(i64.wrap (m + 1), i64.wrap (px + i64.wrap (r.1 * q.1)), ((k + 1 : Nat) : Int)), ?_, ⟨k + 1, rfl, by omega⟩, mz _ _⟩
      unfold Z9l3
      simp only [A10, c, A7, A5, A14, A12, hg, A1, k1, w2, A4, A3, r1, q1, k2]
     | false =>
      refine ⟨(i64.wrap (m + 1), px, ((k + 1 : Nat) : Int)), ?_, ⟨k + 1, rfl, by omega⟩, mz _ _⟩
      unfold Z9l3
      simp only [A10, c, A7, A5, A14, A12, hg, A1, k1, w2, A4, A3, r1, q1, k2]
   ·refine .inr ⟨(m, px), ?_, trivial⟩
    unfold Z9l3
    simp only [A10, c, A8, A4, A3])
  (0, 0, 0) ⟨0, rfl, by omega⟩
 rw [e1]
 simp only [A1]
 split <;> exact ⟨_, rfl⟩
inductive CkOk : Chunk -> Prop
 | mk {i k d : List Int} {kids : List Chunk} : Byt d -> d.length <= 100000 -> kids.length <= 400 -> (∀ c ∈ kids, CkOk c) -> CkOk (.mk i k d kids)
theorem B718 {b : List Int} (hl : b.length <= 100000) {a en m : Int} (ha : 0 <= a) (hae : a <= en) (hen : en <= (b.length : Int)) : ∃ s e, Z63 a en b m = some (s, e, b, m) ∧ (e = 0 -> a + 4 <= en) := by
 rw [Z63_eq]
 have w1 : i64.wrap (en - a) = en - a := w64 (by omega)
 have w2 : i64.wrap (a + 4) = a + 4 := w64 (by omega)
 simp only [w1, w2]
 by_cases c : en - a < 4
 ·exact ⟨[], 6, by simp [c], fun h => by cases h⟩
 ·simp only [c, A8, A4, A3, A6 (show 0 <= a + 4 ∧ a + 4 <= ((b.length : Nat) : Int) by omega), A6 (show 0 <= a ∧ a <= a + 4 by omega), B708, A1]
  cases idB (cutL b a.toNat (a + 4).toNat) with
  | false => exact ⟨[], 3, rfl, fun h => by cases h⟩
  | true => exact ⟨_, 0, rfl, fun _ => by omega⟩
theorem p256 : ∀ i : Nat, i <= 4 -> (256 : Int) ^ i <= 4294967296 := by
 intro i hi
 have : i = 0 ∨ i = 1 ∨ i = 2 ∨ i = 3 ∨ i = 4 := by omega
 rcases this with h | h | h | h | h <;> rw [h] <;> decide
theorem B844 {b : List Int} (hb : Byt b) (hl : b.length <= 100000) {a : Int} (ha : 0 <= a) (h8 : a + 8 <= (b.length : Int)) : ∃ n, loop (Z40l11 a b) (0, 4) = some n ∧ 0 <= n ∧ n <= 4294967296 := by
 obtain ⟨o, e1, e2⟩ := B68 (f := Z40l11 a b) (fun s => ∃ j : Nat, s.2 = ((j + 4 : Nat) : Int) ∧ j <= 4 ∧ 0 <= s.1 ∧ s.1 < 256 ^ j) (fun s => (8 - s.2).toNat) (fun o => 0 <= o ∧ o <= 4294967296)
  (fun s hs => by
   obtain ⟨n, y⟩ := s
   obtain ⟨j, rfl, hj, hn, hn2⟩ := hs
   simp only at hn hn2
   have hp := p256 j hj
   by_cases c : j < 4
   ·have hv := B674 hb (a + ((j + 4 : Nat) : Int))
    have w1 : i64.wrap (256 * n) = 256 * n := w64 (by omega)
    have w2 : i64.wrap (a + ((j + 4 : Nat) : Int)) = a + ((j + 4 : Nat) : Int) := w64 (by omega)
    have w3 : i64.wrap (rd b (a + ((j + 4 : Nat) : Int))) = rd b (a + ((j + 4 : Nat) : Int)) := w64 (by omega)
    have w4 : i64.wrap (256 * n + rd b (a + ((j + 4 : Nat) : Int))) = 256 * n + rd b (a + ((j + 4 : Nat) : Int)) := w64 (by omega)
    have w5 : i64.wrap (((j + 4 : Nat) : Int) + 1) = ((j + 1 + 4 : Nat) : Int) := by rw [w64 (by omega)]; omega
    refine .inl ⟨(256 * n + rd b (a + ((j + 4 : Nat) : Int)), ((j + 1 + 4 : Nat) : Int)), ?_, ⟨j + 1, rfl, by omega, by show 0 <= 256 * n + rd b _; omega, by show 256 * n + rd b _ < 256 ^ (j + 1); rw [Int.pow_succ]; omega⟩, by show (8 - ((j + 1 + 4 : Nat) : Int)).toNat < (8 - ((j + 4 : Nat) : Int)).toNat; omega⟩
    unfold Z40l11
    simp only [show ((j + 4 : Nat) : Int) < 8 by omega, A7, A5, w1, w2, A6 (show 0 <= a + ((j + 4 : Nat) : Int) ∧ a + ((j + 4 : Nat) : Int) < (b.length : Int) by omega), w3, w4, w5]
   ·refine .inr ⟨n, ?_, hn, by omega⟩
    unfold Z40l11
    simp only [show ¬ ((j + 4 : Nat) : Int) < 8 by omega, A8, A4, A3])
  (0, 4) ⟨0, rfl, by omega, by decide, by decide⟩
 exact ⟨o, e1, e2⟩
def ChTot (b : List Int) (a en d m : Int) : Prop := ∃ i k dd kids nx e m', Z40 a en d b m = some (i, k, dd, kids, nx, e, b, m') ∧ m <= m' ∧ m' <= 400 ∧ (e = 0 -> a < nx ∧ nx <= en ∧ CkOk (.mk i k dd kids) ∧ m + 1 <= m')
def LiTot (b : List Int) (a en d m : Int) : Prop := ∃ l pl e m', Z20 a en d b m = some (l, pl, e, b, m') ∧ m <= m' ∧ m' <= 400 ∧ (l.length : Int) <= 400 ∧ (∀ c ∈ l, CkOk c)
theorem B816 {b : List Int} (hb : Byt b) (hl : b.length <= 60000) {a en d m : Int} (ha : 0 <= a) (hae : a <= en) (hen : en <= (b.length : Int)) (hd : 0 <= d ∧ d <= 100) (hm : 0 <= m ∧ m <= 400)
  (ih : ∀ a' en' m', a < a' -> a' <= en' -> en' <= en -> d <= 8 -> 0 <= m' -> m' <= 400 -> LiTot b a' en' (d + 1) m') : ChTot b a en d m := by
 unfold ChTot
 rw [Z40_eq]
 obtain ⟨s, e, r1, r2⟩ := B718 (m := m) (by omega) ha hae hen
 rw [r1]
 simp only [A1]
 by_cases c1' : ¬ e = 0
 ·exact ⟨[], [], [], [], a, e, m, by simp [c1'], Int.le_refl _, hm.2, fun h => absurd h c1'⟩
 have c1 : e = 0 := Decidable.not_not.1 c1'
 simp only [c1, A7, A19, A4, A3]
 by_cases c2 : m = 400
 ·exact ⟨[], [], [], [], a, 4, m, by simp [c2], Int.le_refl _, hm.2, fun h => by cases h⟩
 by_cases c3 : d > 8
 ·exact ⟨[], [], [], [], a, 4, m, by simp [c2, c3], Int.le_refl _, hm.2, fun h => by cases h⟩
 have w1 : i64.wrap (m + 1) = m + 1 := w64 (by omega)
 have w2 : i64.wrap (en - a) = en - a := w64 (by omega)
 have w3 : i64.wrap (a + 4) = a + 4 := w64 (by omega)
 have w4 : i64.wrap (a + 8) = a + 8 := w64 (by omega)
 have w5 : i64.wrap (en - a - 8) = en - a - 8 := w64 (by omega)
 simp only [c2, c3, A8, A4, A3, A1, w1, w2, w3, w4, w5]
 by_cases c4 : en - a < 8
 ·exact ⟨[], [], [], [], a + 4, 6, m + 1, by simp [c4], by omega, by omega, fun h => by cases h⟩
 obtain ⟨n, n1, n2, n3⟩ := B844 hb (by omega) ha (show a + 8 <= (b.length : Int) by omega)
 simp only [c4, A8, A4, A3, n1, A1]
 by_cases c5 : n > en - a - 8
 ·exact ⟨[], [], [], [], a + 4, 6, m + 1, by simp [c5], by omega, by omega, fun h => by cases h⟩
 have w6 : i64.wrap (a + 8 + n) = a + 8 + n := w64 (by omega)
 have w7 : i64.wrap (a + 8 + 4) = a + 8 + 4 := w64 (by omega)
 have w8' : i64.wrap (d + 1) = d + 1 := w64 (by omega)
 have w9 : i64.wrap (a + 8 + n + 1) = a + 8 + n + 1 := w64 (by omega)
 simp only [c5, A8, A4, A3, w6, w7, w8', w9]
 -- B221 the inside
 have fin : ∀ (i k dd : List Int) (kids : List Chunk) (m' : Int), m <= m' -> m' <= 400 -> m + 1 <= m' -> CkOk (.mk i k dd kids) -> ∃ i' k' dd' kids' nx e' m'', ((if (decide (n.tmod 2 = 0)) = true then some (i, k, dd, kids, a + 8 + n, (0 : Int), b, m') else (if (decide (a + 8 + n = en)) = true then some (([] : List Int), ([] : List Int), ([] : List Int), ([] : List Chunk), a + 8 + n, (6 : Int), b, m') else (if 0 <= a + 8 + n ∧ a + 8 + n < (b.length : Int) then (if (!decide (rd b (a + 8 + n) = 0)) = true then some (([] : List Int), ([] : List Int), ([] : List Int), ([] : List Chunk), a + 8 + n, (3 : Int), b, m') else some (i, k, dd, kids, a + 8 + n + 1, (0 : Int), b, m')) else none)))) = some (i', k', dd', kids', nx, e', b, m'') ∧ m <= m'' ∧ m'' <= 400 ∧ (e' = 0 -> a < nx ∧ nx <= en ∧ CkOk (.mk i' k' dd' kids') ∧ m + 1 <= m'') := by
  intro i k dd kids m' h1 h2 h3 hok
  by_cases d1 : n.tmod 2 = 0
  ·exact ⟨i, k, dd, kids, a + 8 + n, 0, m', by simp [d1], h1, h2, fun _ => ⟨by omega, by omega, hok, h3⟩⟩
  ·by_cases d2 : a + 8 + n = en
   ·exact ⟨[], [], [], [], a + 8 + n, 6, m', by simp only [d1, A8, A4, A3, d2, A7, A5], h1, h2, fun h => by cases h⟩
   ·simp only [d1, d2, A8, A4, A3, A6 (show 0 <= a + 8 + n ∧ a + 8 + n < (b.length : Int) by omega)]
    by_cases d3 : rd b (a + 8 + n) = 0
    ·exact ⟨i, k, dd, kids, a + 8 + n + 1, 0, m', by simp [d3], h1, h2, fun _ => ⟨by omega, by omega, hok, h3⟩⟩
    ·exact ⟨[], [], [], [], a + 8 + n, 3, m', by simp [d3], h1, h2, fun h => by cases h⟩
 by_cases c6 : s = [70, 79, 82, 77]
 ·obtain ⟨s2, e2, q1, q2⟩ := B718 (m := m + 1) (b := b) (by omega) (show 0 <= a + 8 by omega) (show a + 8 <= a + 8 + n by omega) (by omega)
  simp only [c6, A7, A5, q1, A1]
  have key : ∃ v : Bool, ((if (decide (e2 = 0)) = true then some (decide (s2 = [70, 79, 82, 77])) else some false) : Option Bool) = some v := by split <;> exact ⟨_, rfl⟩
  obtain ⟨v, k1⟩ := key
  rw [k1]
  simp only [A1]
  cases v with
  | true =>
   simp only [A5, A1]
   exact ⟨_, _, _, _, _, 3, _, rfl, by show m <= m + 1; omega, by show m + 1 <= 400; omega, fun h => by cases h⟩
  | false =>
   simp only [A4, A3, A1]
   by_cases c7 : e2 = 0
   ·obtain ⟨l, pl, e3, m3, g1, g2, g3, g4, g5⟩ := ih (a + 8 + 4) (a + 8 + n) (m + 1) (by omega) (by have := q2 c7; omega) (by omega) (by omega) (by omega) (by omega)
    simp only [c7, A7, A19, A4, A3, g1, A1]
    by_cases c8 : e3 = 0
    ·simp only [c8, A7, A19, A4, A3, A1, A48]
     exact fin _ _ _ _ m3 (by omega) g3 g2 (.mk (fun x hx => by simp at hx) (by simp) (by omega) g5)
    ·simp only [c8, A8, A35, A5, A1, A91]
     exact ⟨_, _, _, _, _, e3, _, rfl, by show m <= m3; omega, g3, fun h => absurd h c8⟩
   ·simp only [c7, A8, A35, A5, A1, A91]
    exact ⟨_, _, _, _, _, e2, _, rfl, by show m <= m + 1; omega, by show m + 1 <= 400; omega, fun h => absurd h c7⟩
 ·simp only [c6, A8, A4, A3, A6 (show 0 <= a + 8 + n ∧ a + 8 + n <= ((b.length : Nat) : Int) by omega), A6 (show 0 <= a + 8 ∧ a + 8 <= a + 8 + n by omega), A30]
  rw [A6 (by simp [cutL]; omega)]
  simp only [A1, A48]
  exact fin _ _ _ _ (m + 1) (by omega) (by omega) (by omega) (.mk (fun y hy => hb y (A69 (A80 hy))) (by simp [cutL]; omega) (by simp) (fun c hc => by simp at hc))
theorem B872 {b : List Int} (hb : Byt b) (hl : b.length <= 60000) : ∀ (N : Nat) (a en d m : Int), en - a <= (N : Int) -> 0 <= a -> a <= en -> en <= (b.length : Int) -> 0 <= d -> d <= 100 -> 0 <= m -> m <= 400 -> LiTot b a en d m := by
 intro N
 induction N using Nat.strongRecOn with
 | _ N ih =>
 intro a en d m hN ha hae hen hd0 hd1 hm0 hm1
 unfold LiTot
 rw [Z20_eq]
 obtain ⟨o, e1, e2⟩ := B68 (f := Z20l2 en d) (fun s => a <= s.1 ∧ s.1 <= en ∧ s.2.1 = b ∧ m <= s.2.2.1 ∧ s.2.2.1 <= 400 ∧ (s.2.2.2.length : Int) <= s.2.2.1 ∧ ∀ c ∈ s.2.2.2, CkOk c) (fun s => (en - s.1).toNat)
  (fun o => (∃ p, o = .inl p ∧ p.2.1 = b ∧ m <= p.2.2.1 ∧ p.2.2.1 <= 400 ∧ (p.2.2.2.length : Int) <= 400 ∧ ∀ c ∈ p.2.2.2, CkOk c) ∨ ∃ p, o = .inr p ∧ p.1 = [] ∧ p.2.2.2.1 = b ∧ m <= p.2.2.2.2 ∧ p.2.2.2.2 <= 400)
  (fun s hs => by
   obtain ⟨x, b', m', out⟩ := s
   obtain ⟨h1, h2, h3, h4, h5, h6, h7⟩ := hs
   simp only at h1 h2 h3 h4 h5 h6 h7
   subst h3
   by_cases c : x < en
   ·obtain ⟨i, k, dd, kids, nx, e, m2, r1, r2, r3, r4⟩ := B816 hb hl (a := x) (en := en) (d := d) (m := m') (by omega) h2 hen ⟨hd0, hd1⟩ ⟨by omega, h5⟩ (fun a' en' m'' g1 g2 g3 g4 g5 g6 => ih (en' - a').toNat (by omega) a' en' (d + 1) m'' (by omega) (by omega) g2 (by omega) (by omega) (by omega) g5 g6)
    by_cases c1 : e = 0
    ·obtain ⟨q1, q2, q3, q4⟩ := r4 c1
     refine .inl ⟨(nx, b', m2, out ++ [Chunk.mk i k dd kids]), ?_, ⟨by show a <= nx; omega, q2, rfl, by show m <= m2; omega, r3, by simp; omega, fun c hc => ?_⟩, by show (en - nx).toNat < (en - x).toNat; omega⟩
     ·unfold Z20l2
      simp only [c, A7, A5, r1, A1, c1, A19, A4, A3, A29]
      rw [A6 (by omega)]
     ·rcases A42.1 hc with hc | hc
      ·exact h7 c hc
      ·rw [A54] at hc; subst hc; exact q3
    ·refine .inr ⟨.inr ([], nx, e, b', m2), ?_, .inr ⟨_, rfl, rfl, rfl, by show m <= m2; omega, r3⟩⟩
     unfold Z20l2
     simp only [c, A7, A5, r1, A1, c1, A8, A35]
   ·refine .inr ⟨.inl (x, b', m', out), ?_, .inl ⟨_, rfl, rfl, h4, h5, by show (out.length : Int) <= 400; omega, h7⟩⟩
    unfold Z20l2
    simp only [c, A8, A4, A3])
  (a, b, m, []) ⟨Int.le_refl _, hae, rfl, Int.le_refl _, hm1, by simpa using hm0, fun c hc => by simp at hc⟩
 rw [e1]
 rcases e2 with ⟨p, rfl, p1, p2, p3, p4, p5⟩ | ⟨p, rfl, p1, p2, p3, p4⟩
 ·exact ⟨p.2.2.2, p.1, 0, p.2.2.1, by simp [p1], p2, p3, p4, p5⟩
 ·exact ⟨p.1, p.2.1, p.2.2.1, p.2.2.2.2, by simp [p2], p3, p4, by rw [p1]; simp, by rw [p1]; intro c hc; simp at hc⟩
theorem B927 {b : List Int} (hb : Byt b) (hl : b.length <= 60000) : ∃ l x y, Z6 b = some (l, x, y) ∧ l.length <= 400 ∧ ∀ c ∈ l, CkOk c := by
 obtain ⟨l, pl, e, m', r1, r2, r3, r4, r5⟩ := B872 hb hl b.length 0 (b.length : Int) 1 0 (by omega) (by omega) (by omega) (by omega) (by omega) (by omega) (by omega) (by omega)
 rw [Z6_eq]
 simp only [show ¬ ((b.length : Nat) : Int) > 60000 by omega, A8, A4, A3, r1, A1]
 by_cases c : e = 0
 ·exact ⟨l, 0, 0, by simp [c], by omega, r5⟩
 ·exact ⟨[], pl, e, by simp [c], by simp, fun c hc => by simp at hc⟩
def B180 (l : List Segment) : Prop := ∀ s ∈ l, SegOk s
theorem B784 {e : Chunk} {k : Nat} (hk : k < e.kids.length) (hlen : e.kids.length <= 400) (hok : CkOk (e.kids[k])) (px : Int) {ms : List Segment} (hm : B180 ms) (hml : ms.length <= 1000000000000) :
  ∃ px' ms', Z1l14 e (px, (k : Int), ms) = some (.inl (px', ((k + 1 : Nat) : Int), ms')) ∧ B180 ms' ∧ ms'.length <= ms.length + 100 := by
 have hg := A17 hk
 have w2 : i64.wrap ((k : Int) + 1) = ((k + 1 : Nat) : Int) := w64 (by omega)
 have hd : Byt (e.kids[k]).data ∧ (e.kids[k]).data.length <= 100000 := by
  generalize e.kids[k] = c at hok
  cases hok with | mk h1 h2 h3 h4 => exact ⟨h1, h2⟩
 obtain ⟨n, n1⟩ := B835 hd.1 hd.2
 obtain ⟨r, r1, r2, r3⟩ := B690 hd.1 hd.2
 unfold Z1l14
 simp only [A10, hk, A7, A5, A14, A12, hg, A1, n1, r1, w2]
 have hr : B180 (ms ++ r.2.2.2.1) := fun s hs => (A42.1 hs).elim (hm s) (r2 s)
 by_cases c1 : (e.kids[k]).id = [83, 73, 90, 69]
 ·simp only [c1, A7, A5]
  exact ⟨_, _, rfl, hm, by omega⟩
 ·by_cases c2 : (e.kids[k]).id = [66, 65, 67, 75]
  ·simp only [c1, c2, A7, A8, A4, A3, A5]
   exact ⟨_, _, rfl, hm, by omega⟩
  ·by_cases c3 : (e.kids[k]).id = [77, 65, 83, 75]
   ·have m1 : ¬ ([77, 65, 83, 75] : List Int) = [83, 73, 90, 69] := by decide
    have m2 : ¬ ([77, 65, 83, 75] : List Int) = [66, 65, 67, 75] := by decide
    simp only [c3, m1, m2, A7, A8, A4, A3, A5]
    rw [A6 (by omega)]
    exact ⟨_, _, rfl, hr, by rw [A16]; omega⟩
   ·simp only [c1, c2, c3, A8, A4, A3]
    exact ⟨_, _, rfl, hm, by omega⟩
theorem B818 {e : Chunk} (hlen : e.kids.length <= 400) (hok : ∀ c ∈ e.kids, CkOk c) : ∀ (m k : Nat) (px : Int) (ms : List Segment), k + m = e.kids.length -> B180 ms -> ms.length + 100 * m <= 1000000000000 ->
  ∃ r, loop (Z1l14 e) (px, (k : Int), ms) = some r ∧ B180 r.2 ∧ r.2.length <= ms.length + 100 * m := by
 intro m
 induction m with
 | zero =>
  intro k px ms hk hm hml
  refine ⟨(px, ms), B4 ?_, hm, by simp⟩
  unfold Z1l14
  simp only [A10, show ¬ k < e.kids.length by omega, A8, A4, A3]
 | succ m ih =>
  intro k px ms hk hm hml
  obtain ⟨px', ms', s1, s2, s3⟩ := B784 (e := e) (k := k) (by omega) hlen (hok _ (A79 (by omega))) px hm (by omega)
  obtain ⟨r, r1, r2, r3⟩ := ih (k + 1) px' ms' (by omega) s2 (by omega)
  exact ⟨r, by rw [B6 s1]; exact r1, r2, by omega⟩
theorem B684 {l : List Chunk} (hlen : l.length <= 400) (hok : ∀ c ∈ l, CkOk c) : ∀ (m k : Nat) (px : Int) (ms : List Segment), k + m = l.length -> B180 ms -> ms.length + 40000 * m <= 1000000000000 ->
  ∃ r, loop (Z1l11 l) (px, (k : Int), ms) = some r ∧ B180 r.2 ∧ r.2.length <= ms.length + 40000 * m := by
 intro m
 induction m with
 | zero =>
  intro k px ms hk hm hml
  refine ⟨(px, ms), B4 ?_, hm, by simp⟩
  unfold Z1l11
  simp only [A10, show ¬ k < l.length by omega, A8, A4, A3]
 | succ m ih =>
  intro k px ms hk hm hml
  have hk' : k < l.length := by omega
  have hg := A17 hk'
  have w2 : i64.wrap ((k : Int) + 1) = ((k + 1 : Nat) : Int) := w64 (by omega)
  have hc := hok _ (A79 hk')
  have hkk : (l[k]).kids.length <= 400 ∧ ∀ c ∈ (l[k]).kids, CkOk c := by
   generalize l[k] = c at hc
   cases hc with | mk h1 h2 h3 h4 => exact ⟨h3, h4⟩
  obtain ⟨q, q1, q2, q3⟩ := B818 hkk.1 hkk.2 (l[k]).kids.length 0 px ms (by omega) hm (by omega)
  have z0 : ((0 : Nat) : Int) = 0 := rfl
  rw [z0] at q1
  obtain ⟨r, r1, r2, r3⟩ := ih (k + 1) q.1 q.2 (by omega) q2 (by omega)
  refine ⟨r, ?_, r2, by omega⟩
  rw [B6 (s' := (q.1, ((k + 1 : Nat) : Int), q.2))]
  ·exact r1
  ·unfold Z1l11
   simp only [A10, hk', A7, A5, A14, A12, hg, A1, q1, w2]
theorem B919 : Z6 [] = some ([], 0, 0) := by
 rw [Z6_eq, Z20_eq]
 have h : loop (Z20l2 (([] : List Int).length : Int) 1) (0, [], 0, []) = some (.inl (0, [], 0, [])) := by
  refine B4 ?_
  unfold Z20l2
  simp
 simp only [A36, show ¬ ((0 : Nat) : Int) > 60000 by omega, A8, A4, A3]
 rw [A36] at h
 rw [h]
 rfl
theorem B846 {l : List File} {o : List Outline} (hl : l.length <= 1000000000) (hb : ∀ f ∈ l, Byt f.data ∧ f.data.length <= 1000000000) : ∃ v, Z1 l o = some v := by
 rw [Z1_eq]
 obtain ⟨p, e1, e2⟩ := B68 (f := Z1l4 l) (fun s => ∃ (n k : Nat), s.1 = (n : Int) ∧ n <= 12000 ∧ s.2.2.1 = (k : Int) ∧ k <= l.length ∧ B180 s.2.2.2 ∧ s.2.2.2.length <= 16000000 * n) (fun s => ((l.length : Int) - s.2.2.1).toNat)
  (fun o => (∃ p : Int × List Segment, o = .inl p ∧ B180 p.2 ∧ p.2.length <= 1000000000000) ∨ ∃ v, o = .inr v)
  (fun s hs => by
   obtain ⟨x, px, y, ms⟩ := s
   obtain ⟨n, k, rfl, hn, rfl, hk, hm, hml⟩ := hs
   simp only at hm hml
   by_cases c : k < l.length
   ·have hg := A17 c
    obtain ⟨hby, hdl⟩ := hb _ (A79 c)
    have w1 : i64.wrap ((n : Int) + (((l[k]).data.length : Nat) : Int)) = ((n + (l[k]).data.length : Nat) : Int) := by rw [w64 (by omega)]; omega
    have w2 : i64.wrap ((k : Int) + 1) = ((k + 1 : Nat) : Int) := w64 (by omega)
    by_cases c2 : ((n + (l[k]).data.length : Nat) : Int) > 12000
    ·refine .inr ⟨.inr true, ?_, .inr ⟨_, rfl⟩⟩
     unfold Z1l4
     simp only [A10, c, A7, A5, A14, A12, hg, A1, w1, c2]
    ·-- what is read
     obtain ⟨ch, x1, x2, g1, g2, g3, g4⟩ : ∃ ch x1 x2, Z6 (l[k]).data = some (ch, x1, x2) ∧ ch.length <= 400 ∧ (∀ c ∈ ch, CkOk c) ∧ ch.length <= 400 * (l[k]).data.length := by
      by_cases hz : (l[k]).data.length = 0
      ·have : (l[k]).data = [] := A104 hz
       rw [this, B919]
       exact ⟨[], 0, 0, rfl, by simp, fun c hc => by simp at hc, by simp⟩
      ·obtain ⟨ch, x1, x2, g1, g2, g3⟩ := B927 hby (by omega)
       exact ⟨ch, x1, x2, g1, g2, g3, by omega⟩
     obtain ⟨q, q1, q2, q3⟩ := B684 g2 g3 ch.length 0 px ms (by omega) hm (by omega)
     have z0 : ((0 : Nat) : Int) = 0 := rfl
     rw [z0] at q1
     refine .inl ⟨(((n + (l[k]).data.length : Nat) : Int), q.1, ((k + 1 : Nat) : Int), q.2), ?_, ⟨n + (l[k]).data.length, k + 1, rfl, by omega, rfl, by omega, q2, by show q.2.length <= _; omega⟩, by show ((l.length : Int) - ((k + 1 : Nat) : Int)).toNat < ((l.length : Int) - (k : Int)).toNat; omega⟩
     unfold Z1l4
     simp only [A10, c, A7, A5, A14, A12, hg, A1, w1, c2, A8, A4, A3, g1, q1, w2]
   ·refine .inr ⟨.inl (px, ms), ?_, .inl ⟨_, rfl, hm, by show ms.length <= _; omega⟩⟩
    unfold Z1l4
    simp only [A10, c, A8, A4, A3])
  (0, 0, 0, []) ⟨0, 0, rfl, by omega, rfl, by omega, fun s hs => by simp at hs, by simp⟩
 rw [e1]
 rcases e2 with ⟨q, rfl, q1, q2⟩ | ⟨v, rfl⟩
 ·simp only [A1, A48]
  obtain ⟨v, hv⟩ := B847 (l := q.2) q2 q1
  rw [hv]
  repeat' split
  all_goals exact ⟨_, rfl⟩
 ·exact ⟨v, rfl⟩
end Go.Proofs.YtcphcfknnfibmaaGreat.P
