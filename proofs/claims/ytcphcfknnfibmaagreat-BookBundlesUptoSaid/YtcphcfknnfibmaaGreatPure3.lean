import Derived.Test.YtcphcfknnfibmaaGreatPure2
import Derived.Test.YtcphcfknnfibmaaGreatPure1
import Derived.Test.YtcphcfknnfibmaaGreatF5
namespace Go.Proofs.YtcphcfknnfibmaaGreat.P
open Go Go.IntKind Go.Proofs.YtcphcfknnfibmaaGreat.V
set_option linter.unusedVariables false
set_option linter.unusedSimpArgs false
set_option linter.unusedSectionVars false
set_option maxRecDepth 100000
theorem Has.le {b l : List Int} {at_ : Nat} (h : Has b at_ l) (hl : at_ <= b.length) : at_ + l.length <= b.length := by
 by_cases h0 : l.length = 0
 ·omega
 ·have := B6 (h (l.length - 1) (l[l.length - 1]'(by omega)) (A18 (by omega)))
  omega
theorem Has.cut {b l : List Int} {at_ : Nat} (h : Has b at_ l) : cutL b at_ (at_ + l.length) = l := by
 unfold cutL
 refine A98 fun k => ?_
 rw [A54, A66]
 by_cases hk : k < l.length
 ·rw [A3 (by omega), h k l[k] (A18 hk), A18 hk]
 ·rw [A7 (by omega), A65 (by omega)]
theorem B544 {b : List Int} {n at_ : Nat} (h : Has b at_ (sizeL n)) : at_ + (sizeL n).length <= b.length := by
 have hl := B432 n
 have := B6 (h ((sizeL n).length - 1) ((sizeL n)[(sizeL n).length - 1]'(by omega)) (A18 (by omega)))
 omega
theorem B727 {low high many : Int} {b : List Int} {n at_ : Nat} (hn : n < 16384) (h1 : low <= (n : Int)) (h2 : (n : Int) <= high) (h : Has b at_ (sizeL n)) (hl : b.length <= 100000000) :
  Z147 low high b (at_ : Int) many 0 = some ((n : Int), b, ((at_ + (sizeL n).length : Nat) : Int), many, 0) := by
 have n1 : ¬ (n : Int) < low := by omega
 have n2 : ¬ (n : Int) > high := by omega
 rw [Z147_eq, B260 hn h hl]
 simp only [A8, A14, A5, A4, A6, A1, n1, n2, A9]
theorem B920 {many : Int} {b nm : List Int} {at_ : Nat} (hn : nm.length <= 200) (h : Has b at_ (sizeL nm.length ++ nm)) (hl : b.length <= 100000000) :
  Z148 b (at_ : Int) many 0 = some (nm, b, ((at_ + (sizeL nm.length).length + nm.length : Nat) : Int), many, 0) := by
 obtain ⟨g1, g2⟩ := h.app
 have hle := B544 g1
 have hle2 := g2.le hle
 rw [Z148_eq, B727 (by omega) (by omega) (by omega) g1 hl]
 simp only [A1, A8, A6]
 rw [w64 (n := ((b.length : Nat) : Int) - ((at_ + (sizeL nm.length).length : Nat) : Int)) (by omega)]
 have n1 : ¬ ((b.length : Nat) : Int) - ((at_ + (sizeL nm.length).length : Nat) : Int) < ((nm.length : Nat) : Int) := by omega
 simp only [n1, A9, A5, A4, A1, A8, A14]
 rw [w64 (n := ((at_ + (sizeL nm.length).length : Nat) : Int) + ((nm.length : Nat) : Int)) (by omega), w64 (by omega), A3 (by omega), A3 (by omega), show (((at_ + (sizeL nm.length).length : Nat) : Int) + ((nm.length : Nat) : Int) - ((nm.length : Nat) : Int)).toNat = at_ + (sizeL nm.length).length by omega, show (((at_ + (sizeL nm.length).length : Nat) : Int) + ((nm.length : Nat) : Int)).toNat = at_ + (sizeL nm.length).length + nm.length by omega, g2.cut]
 rfl
def B405 (l : List Outline) : Prop := ∀ (d many : Int) (b : List Int) (at_ : Nat), ofines l = true -> 1 <= d -> d + (odeps l : Int) <= 21 -> 0 <= many -> many + (ocnts l : Int) <= 400 -> Has b at_ (obys l) -> b.length <= 100000000 ->
 Z108 d b (at_ : Int) many 0 = some (l, b, ((at_ + (obys l).length : Nat) : Int), many + (ocnts l : Int), 0)
theorem B801 : ∀ l : List Outline, l.length <= ocnts l
 | [] => A11 _
 | .mk a b c :: l => by
  have := B801 l
  simp only [ocnts, ocnt, A21]
  omega
theorem B820 {d : Int} {b : List Int} (hd : 1 <= d) (hl : b.length <= 100000000) : ∀ (r : List Outline) (at_ : Nat) (many : Int) (out : List Outline), (∀ o ∈ r, B405 o.kids) -> ofines r = true -> d + (odeps r : Int) <= 21 -> 0 <= many -> many + (ocnts r : Int) <= 400 -> Has b at_ (obyL r) -> out.length + r.length <= 1000 ->
  loop (Z108l3 d) (((r.length : Nat) : Int), b, (at_ : Int), many, 0, out) = some (Sum.inl (b, ((at_ + (obyL r).length : Nat) : Int), many + (ocnts r : Int), 0, out ++ r))
 | [], at_, many, out, hk, hf, hdp, hm, hc, h, ho => by
  refine B4 ?_
  unfold Z108l3
  simp only [A35, show ¬ (((0 : Nat) : Int) > 0) by omega, A9, A5, A4, A1, obyL, ocnts, A38, A36]
  rw [show many + ((0 : Nat) : Int) = many by omega]
 | .mk title page kids :: r, at_, many, out, hk, hf, hdp, hm, hc, h, ho => by
  simp only [ofines, ofine, A25, A20] at hf
  obtain ⟨⟨hf1, hf2, hf3, hf4⟩, hf5⟩ := hf
  simp only [odeps, odep] at hdp
  simp only [ocnts, ocnt] at hc
  rw [A21] at ho
  obtain ⟨pn, rfl⟩ := A73 (show 0 <= page by omega)
  have eo : obyL (.mk title (pn : Int) kids :: r) = (sizeL title.length ++ title) ++ (sizeL pn ++ (obys kids ++ obyL r)) := by
   simp only [obyL, oby, obys]
   rw [B209 (n := title.length) (by omega), B209 (n := pn) (by omega)]
   simp only [A27]
  rw [eo] at h ⊢
  obtain ⟨h1, h2⟩ := h.app
  obtain ⟨h3, h4⟩ := h2.app
  obtain ⟨h5, h6⟩ := h4.app
  have g1 := B920 (many := many + 1) hf2 h1 hl
  have g2 := B727 (many := many + 1) (low := 1) (high := 1000) (n := pn) (by omega) (by omega) (by omega) h3 hl
  have g3 := hk _ (A23 ..) (d + 1) (many + 1) b _ hf1 (by omega) (by show d + 1 + (odeps kids : Int) <= 21; omega) (by omega) (by show many + 1 + (ocnts kids : Int) <= 400; omega) h5 hl
  have g4 := B820 hd hl r _ (many + 1 + (ocnts kids : Int)) (out ++ [.mk title (pn : Int) kids]) (fun o ho => hk o (A29 _ ho)) hf5 (by omega) (by omega) (by omega) h6 (by simp; omega)
  simp only [A13] at g2 g3 g4
  rw [← A58 at_] at g2 g3 g4
  have g3' : Z108 (d + 1) b ((at_ + (sizeL title.length).length + title.length + (sizeL pn).length : Nat) : Int) (many + 1) 0 = some (kids, b, ((at_ + (sizeL title.length).length + title.length + (sizeL pn).length + (obys kids).length : Nat) : Int), many + 1 + (ocnts kids : Int), 0) := g3
  have hfin : loop (Z108l3 d) (((r.length : Nat) : Int), b, ((at_ + (sizeL title.length).length + title.length + (sizeL pn).length + (obys kids).length : Nat) : Int), many + 1 + (ocnts kids : Int), 0, out ++ [.mk title (pn : Int) kids]) = some (Sum.inl (b, ((at_ + ((sizeL title.length ++ title) ++ (sizeL pn ++ (obys kids ++ obyL r))).length : Nat) : Int), many + (ocnts (.mk title (pn : Int) kids :: r) : Int), 0, out ++ .mk title (pn : Int) kids :: r)) := by
   rw [g4, A27]
   simp only [ocnts, ocnt, A13]
   rw [show many + 1 + (ocnts kids : Int) + (ocnts r : Int) = many + ((ocnts kids + 1 + ocnts r : Nat) : Int) by omega, show at_ + (sizeL title.length).length + title.length + (sizeL pn).length + (obys kids).length + (obyL r).length = at_ + ((sizeL title.length).length + title.length + ((sizeL pn).length + ((obys kids).length + (obyL r).length))) by omega]
   rfl
  rw [← hfin]
  refine B5 ?_
  have c1 : ¬ many + 1 > 400 := by omega
  have c2 : ¬ d > 20 := by omega
  have c3 : (((Outline.mk title (pn : Int) kids :: r).length : Nat) : Int) > 0 := by simp
  unfold Z108l3
  simp only [c3, A8, A6, A1]
  rw [w64 (n := many + 1) (by omega)]
  simp only [c1, c2, A9, A5, A4, A1, g1, g2]
  rw [w64 (n := d + 1) (by omega), g3']
  simp only [A1, A26]
  rw [A3 (by omega), w64 (by simp; omega), A21, show ((r.length + 1 : Nat) : Int) - 1 = ((r.length : Nat) : Int) by omega]
theorem B641 {l : List Outline} (hk : ∀ o ∈ l, B405 o.kids) : B405 l := by
 intro d many b at_ hf hd hdp hm hc h hl
 have hlen := B801 l
 have e : obys l = sizeL l.length ++ obyL l := by
  unfold obys
  rw [B209 (by omega)]
 rw [e] at h ⊢
 obtain ⟨h1, h2⟩ := h.app
 rw [Z108_eq, B727 (n := l.length) (by omega) (by omega) (by omega) h1 hl]
 simp only [A1]
 rw [B820 hd hl l _ many [] hk hf hdp hm hc h2 (by simp; omega), A13, ← A58]
 rfl
mutual
theorem B1061 : ∀ o : Outline, B405 o.kids
 | .mk title page kids => B641 (kidsAll kids)
theorem kidsAll : ∀ l : List Outline, ∀ o ∈ l, B405 o.kids
 | [] => fun o h => by simp at h
 | o :: l => fun x hx => (A19.1 hx).elim (fun e => e ▸ B1061 o) fun h => kidsAll l x h
end
theorem B343 {l : List Outline} (hv : B136 l = true) (hl : (obys l).length <= 100000000) : Z72 (obys l) = some (l, 0) := by
 unfold B136 at hv
 simp only [A25, A20] at hv
 obtain ⟨⟨h1, h2⟩, h3⟩ := hv
 have g := B641 (kidsAll l) 1 0 (obys l) 0 h1 (by omega) (by omega) (by omega) (by omega) (Has.all _) hl
 have z0 : ((0 : Nat) : Int) = 0 := rfl
 rw [z0] at g
 rw [Z72_eq, g]
 simp only [A1, A8, A14, A5, A4, A22, A109, A9]
def okn (c : Int) : Bool := (decide (97 <= c) && decide (c <= 122)) || ((decide (48 <= c) && decide (c <= 57)) || (decide (c = 46) || decide (c = 45)))
def nameB (s : List Int) : Bool := decide (1 <= s.length ∧ s.length <= 20) && s.all okn
theorem B918 {s : List Int} {k : Nat} {c : Int} (h : s[k]? = some c) (hl : s.length <= 1000000000) : Z41l2 s (k : Int) = if okn c = true then some (.inl ((k + 1 : Nat) : Int)) else some (.inr (.inr false)) := by
 have hlt := B6 h
 have w2 : i64.wrap ((k : Int) + 1) = ((k + 1 : Nat) : Int) := w64 (by omega)
 unfold Z41l2 okn
 simp only [A10, hlt, A8, A6, A17, A15, B18 h, w2, iteD]
 by_cases h1 : c < 97
 ·by_cases h2 : c < 48
  ·by_cases h3 : c = 46
   ·simp [h1, h2, h3]
   ·by_cases h4 : c = 45
    ·simp [h1, h2, h3, h4]
    ·simp [h1, h2, h3, h4, show ¬ 97 <= c by omega, show ¬ 48 <= c by omega]
  ·by_cases h5 : c > 57
   ·simp [h1, h2, h5, show ¬ 97 <= c by omega, show ¬ c <= 57 by omega, show ¬ c = 46 by omega, show ¬ c = 45 by omega]
   ·simp [h1, h2, h5, show 48 <= c by omega, show c <= 57 by omega]
 ·by_cases h6 : c > 122
  ·simp [h1, h6, show ¬ c < 48 by omega, show c > 57 by omega, show ¬ c <= 122 by omega, show ¬ c <= 57 by omega, show ¬ c = 46 by omega, show ¬ c = 45 by omega]
  ·simp [h1, h6, show 97 <= c by omega, show c <= 122 by omega]
theorem B865 {s : List Int} {k : Nat} {c : Int} (h : s[k]? = some c) (hl : s.length <= 1000000000) : Z43l4 s (k : Int) = if okn c = true then some (.inl ((k + 1 : Nat) : Int)) else some (.inr (.inr false)) := by
 have hlt := B6 h
 have w2 : i64.wrap ((k : Int) + 1) = ((k + 1 : Nat) : Int) := w64 (by omega)
 unfold Z43l4 okn
 simp only [A10, hlt, A8, A6, A17, A15, B18 h, w2, iteD]
 by_cases h1 : c ≥ 97
 ·by_cases h6 : c <= 122
  ·simp [h1, h6, show 97 <= c by omega]
  ·simp [h1, h6, show 97 <= c by omega, show c ≥ 48 by omega, show ¬ c <= 57 by omega, show ¬ c = 46 by omega, show ¬ c = 45 by omega]
 ·by_cases h2 : c ≥ 48
  ·by_cases h5 : c <= 57
   ·simp [h1, h2, h5, show ¬ 97 <= c by omega, show 48 <= c by omega]
   ·simp [h1, h2, h5, show ¬ 97 <= c by omega, show 48 <= c by omega, show ¬ c = 46 by omega, show ¬ c = 45 by omega]
  ·by_cases h3 : c = 46
   ·simp [h1, h2, h3]
   ·by_cases h4 : c = 45
    ·simp [h1, h2, h3, h4]
    ·simp [h1, h2, h3, h4, show ¬ 97 <= c by omega, show ¬ 48 <= c by omega]
theorem B556 {s : List Int} (hl : s.length <= 1000000000) : ∀ (r : List Int) (k : Nat), s.drop k = r ->
  loop (Z41l2 s) (k : Int) = some (if r.all okn = true then .inl () else .inr false) ∧ loop (Z43l4 s) (k : Int) = some (if r.all okn = true then .inl () else .inr false)
 | [], k, hd => by
  have hln := B61 hd
  refine ⟨B4 ?_, B4 ?_⟩
  ·unfold Z41l2
   simp only [A10, show ¬ k < s.length by omega, A9, A5, A4, List.all_nil, A6]
  ·unfold Z43l4
   simp only [A10, show ¬ k < s.length by omega, A9, A5, A4, List.all_nil, A6]
 | c :: r, k, hd => by
  obtain ⟨hget, hd', hlt⟩ := B49 hd
  obtain ⟨g1, g2⟩ := B556 hl r (k + 1) hd'
  have s1 := B918 hget hl
  have s2 := B865 hget hl
  cases hc : okn c with
  | true =>
   rw [hc, A3 rfl] at s1 s2
   rw [B5 s1, B5 s2, g1, g2]
   simp [hc]
  | false =>
   rw [hc] at s1 s2
   simp only [A5, A4] at s1 s2
   rw [B4 s1, B4 s2]
   simp [hc]
theorem B632 {s : List Int} (hl : s.length <= 1000000000) : Z41 s = some (nameB s) ∧ Z43 s = some (nameB s) := by
 obtain ⟨g1, g2⟩ := B556 hl s 0 rfl
 have z0 : ((0 : Nat) : Int) = 0 := rfl
 rw [z0] at g1 g2
 constructor
 ·rw [Z41_eq, g1]
  unfold nameB
  cases s.all okn with
  | false => simp
  | true =>
   simp only [A6, A1, A43, A108, iteD]
   by_cases h1 : 1 <= s.length
   ·simp [h1, show ((s.length : Nat) : Int) ≥ 1 by omega]; omega
   ·simp [h1, show ¬ ((s.length : Nat) : Int) ≥ 1 by omega]
 ·rw [Z43_eq, g2]
  unfold nameB
  by_cases h1 : 1 <= s.length
  ·by_cases h2 : s.length <= 20
   ·simp only [show ¬ ((s.length : Nat) : Int) < 1 by omega, show ¬ ((s.length : Nat) : Int) > 20 by omega, A9, A5, A4, A1, h1, h2, A31, A8, A49]
    cases s.all okn <;> rfl
   ·simp [h2, show ¬ ((s.length : Nat) : Int) < 1 by omega, show ((s.length : Nat) : Int) > 20 by omega]
  ·simp [h1, show ((s.length : Nat) : Int) < 1 by omega]
def fileB (f : File) : Bool := nameB f.name && decide (0 <= f.kind ∧ f.kind <= 2 ∧ f.data.length <= 60000)
theorem B591 {f : File} (hl : f.name.length <= 1000000000) : Z19 f.name f.kind f.data = some (fileB f) ∧ Z21 f.name f.kind f.data = some (fileB f) := by
 obtain ⟨g1, g2⟩ := B632 hl
 rw [Z19_eq, Z21_eq, g1, g2]
 unfold fileB
 simp only [A1, iteD]
 cases nameB f.name with
 | false => simp
 | true =>
  by_cases h1 : f.kind ≥ 0
  ·by_cases h2 : f.kind <= 2
   ·simp [h1, h2, show 0 <= f.kind from h1]; omega
   ·simp [h1, h2]
  ·simp [h1, show ¬ 0 <= f.kind from h1]
def seen (l : List File) (nm : List Int) : Bool := l.any fun f => decide (f.name = nm)
theorem B305 (f : File) (l : List File) (nm : List Int) : seen (f :: l) nm = (decide (f.name = nm) || seen l nm) := rfl
def posF : List File -> List Int -> Nat
 | [], _ => 0
 | f :: l, nm => if f.name = nm then 0 else posF l nm + 1
theorem B653 : ∀ (l : List File) (nm : List Int) (i : Nat), i <= l.length -> (seen (l.take i) nm = true ↔ posF l nm < i)
 | [], nm, i, h => by simp at h; subst h; simp [seen, posF]
 | f :: l, nm, 0, h => by simp [seen]
 | f :: l, nm, i + 1, h => by
  have := B653 l nm i (by simpa using h)
  by_cases hf : f.name = nm
  ·simp [seen, posF, hf]
  ·simp only [seen, List.take_succ_cons, List.any_cons, hf, A9, Bool.false_or, posF, A4] at this ⊢
   rw [this]; omega
theorem B538 {l : List File} {nm : List Int} (hl : l.length <= 1000000000) : ∀ (r : List File) (k : Nat), l.drop k = r ->
  loop (Z42l2 l) ((k : Int), nm) = some (if seen r nm = true then .inr (((k + posF r nm : Nat) : Int), nm) else .inl nm) ∧
  loop (Z44l2 l nm) (k : Int) = some (if seen r nm = true then .inr ((k + posF r nm : Nat) : Int) else .inl ())
 | [], k, hd => by
  have hln := B61 hd
  refine ⟨B4 ?_, B4 ?_⟩
  ·unfold Z42l2
   simp only [A10, show ¬ k < l.length by omega, A9, A5, A4, seen, List.any_nil]
  ·unfold Z44l2
   simp only [A10, show ¬ k < l.length by omega, A9, A5, A4, seen, List.any_nil]
 | f :: r, k, hd => by
  obtain ⟨hget, hd', hlt⟩ := B49 hd
  obtain ⟨g1, g2⟩ := B538 (nm := nm) hl r (k + 1) hd'
  have w2 : i64.wrap ((k : Int) + 1) = ((k + 1 : Nat) : Int) := w64 (by omega)
  have hn : (0 : Int) <= ((k : Nat) : Int) := A17 _
  by_cases hf : f.name = nm
  ·refine ⟨B4 ?_, B4 ?_⟩
   ·unfold Z42l2
    simp only [A10, hlt, A8, A6, hn, A12, hget, A1, Z65_eq, hf, seen, posF, List.any_cons, Bool.true_or, A36]
   ·unfold Z44l2
    simp only [A10, hlt, A8, A6, hn, A12, hget, A1, hf, seen, posF, List.any_cons, Bool.true_or, A36]
  ·constructor
   ·rw [B5 (s' := (((k + 1 : Nat) : Int), nm)), g1]
    ·simp only [B305, posF, hf, A9, Bool.false_or, A4]
     rw [show k + 1 + posF r nm = k + (posF r nm + 1) by omega]
    ·unfold Z42l2
     simp only [A10, hlt, A8, A6, hn, A12, hget, A1, Z65_eq, hf, A9, A5, A4, w2]
   ·rw [B5 (s' := ((k + 1 : Nat) : Int)), g2]
    ·simp only [B305, posF, hf, A9, Bool.false_or, A4]
     rw [show k + 1 + posF r nm = k + (posF r nm + 1) by omega]
    ·unfold Z44l2
     simp only [A10, hlt, A8, A6, hn, A12, hget, A1, hf, A9, A5, A4, w2]
theorem B201 {l : List File} {nm : List Int} (hl : l.length <= 1000000000) : Z20 l nm = some (if seen l nm = true then (posF l nm : Int) else -1) ∧ Z44 l nm = some (if seen l nm = true then (posF l nm : Int) else -1) := by
 obtain ⟨g1, g2⟩ := B538 (nm := nm) hl l 0 rfl
 have z0 : ((0 : Nat) : Int) = 0 := rfl
 rw [z0] at g1 g2
 rw [Z20_eq, Z42_eq, Z44_eq, g1, g2]
 cases seen l nm <;> simp
def nodF : List File -> List File -> Bool
 | _, [] => true
 | b, f :: r => !seen b f.name && nodF (b ++ [f]) r
def B114 (l : List File) (o : List Outline) : Bool := decide (l.length <= 40) && (B136 o && (l.all fileB && nodF [] l))
theorem B580 {l : List File} (hl : l.length <= 1000000) (hn : ∀ f ∈ l, f.name.length <= 1000000000) : ∀ (r : List File) (k : Nat), l.drop k = r ->
  loop (Z8l4 l) (k : Int) = some (if (r.all fileB && nodF (l.take k) r) = true then .inl () else .inr false)
 | [], k, hd => by
  have hln := B61 hd
  refine B4 ?_
  unfold Z8l4
  simp only [A10, show ¬ k < l.length by omega, A9, A5, A4, List.all_nil, nodF, A122, A6]
 | f :: r, k, hd => by
  obtain ⟨hget, hd', hlt⟩ := B49 hd
  have g := B580 hl hn r (k + 1) hd'
  have w2 : i64.wrap ((k : Int) + 1) = ((k + 1 : Nat) : Int) := w64 (by omega)
  have h0 : (0 : Int) <= ((k : Nat) : Int) := A17 _
  have e1 := (B591 (f := f) (hn f (A41 hget))).1
  have e2 : cutL l 0 k = l.take k := by simp [cutL]
  have e3 := (B201 (l := l.take k) (nm := f.name) (by simp; omega)).1
  have et : l.take (k + 1) = l.take k ++ [f] := by rw [A107, hget]; rfl
  cases hf : fileB f with
  | false =>
   refine B4 ?_
   unfold Z8l4
   simp only [A10, hlt, A8, A6, h0, A12, hget, A1, e1, hf, A46, List.all_cons, A64, A5, A4]
  | true =>
   cases hs : seen (l.take k) f.name with
   | true =>
    rw [hs] at e3
    refine B4 ?_
    unfold Z8l4
    simp only [A10, hlt, A8, A6, h0, A12, hget, A1, e1, hf, A14, A5, A4, A15, show ((k : Nat) : Int) <= ((l.length : Nat) : Int) by omega, e2, e3, show ((posF (l.take k) f.name : Nat) : Int) ≥ 0 by omega, nodF, hs, A64, A121]
   | false =>
    rw [hs] at e3
    rw [B5 (s' := ((k + 1 : Nat) : Int)), g, et]
    ·simp only [List.all_cons, hf, A49, nodF, hs, A46]
    ·unfold Z8l4
     simp only [A10, hlt, A8, A6, h0, A12, hget, A1, e1, hf, A14, A5, A4, A15, show ((k : Nat) : Int) <= ((l.length : Nat) : Int) by omega, e2, e3, show ¬ (-1 : Int) ≥ 0 by omega, A9, w2]
theorem B492 {l : List File} (hl : l.length <= 1000000) (hn : ∀ f ∈ l, f.name.length <= 1000000000) : ∀ (r : List File) (k : Nat), l.drop k = r ->
  loop (Z9l2 l) (k : Int) = some (if r.all fileB = true then .inl () else .inr false)
 | [], k, hd => by
  have hln := B61 hd
  refine B4 ?_
  unfold Z9l2
  simp only [A10, show ¬ k < l.length by omega, A9, A5, A4, List.all_nil, A6]
 | f :: r, k, hd => by
  obtain ⟨hget, hd', hlt⟩ := B49 hd
  have g := B492 hl hn r (k + 1) hd'
  have w2 : i64.wrap ((k : Int) + 1) = ((k + 1 : Nat) : Int) := w64 (by omega)
  have h0 : (0 : Int) <= ((k : Nat) : Int) := A17 _
  have e1 := (B591 (f := f) (hn f (A41 hget))).2
  cases hf : fileB f with
  | false =>
   refine B4 ?_
   unfold Z9l2
   simp only [A10, hlt, A8, A6, h0, A12, hget, A1, e1, hf, A46, List.all_cons, A64, A5, A4]
  | true =>
   rw [B5 (s' := ((k + 1 : Nat) : Int)), g]
   ·simp only [List.all_cons, hf, A49]
   ·unfold Z9l2
    simp only [A10, hlt, A8, A6, h0, A12, hget, A1, e1, hf, A14, A5, A4, w2]
theorem B578 {l : List File} (hl : l.length <= 1000000) : ∀ (r : List File) (k : Nat), l.drop k = r ->
  loop (Z22l2 l) (k : Int) = some (if nodF (l.take k) r = true then .inl () else .inr true)
 | [], k, hd => by
  have hln := B61 hd
  refine B4 ?_
  unfold Z22l2
  simp only [A10, show ¬ k < l.length by omega, A9, A5, A4, nodF, A6]
 | f :: r, k, hd => by
  obtain ⟨hget, hd', hlt⟩ := B49 hd
  have g := B578 hl r (k + 1) hd'
  have w2 : i64.wrap ((k : Int) + 1) = ((k + 1 : Nat) : Int) := w64 (by omega)
  have h0 : (0 : Int) <= ((k : Nat) : Int) := A17 _
  have e3 := (B201 (l := l) (nm := f.name) (by omega)).2
  have hse : seen l f.name = true := by
   unfold seen
   rw [List.any_eq_true]
   exact ⟨f, A41 hget, by simp⟩
  rw [hse, A3 rfl] at e3
  have et : l.take (k + 1) = l.take k ++ [f] := by rw [A107, hget]; rfl
  have hst := B653 l f.name k (by omega)
  cases hs : seen (l.take k) f.name with
  | true =>
   have hp : posF l f.name < k := hst.1 hs
   refine B4 ?_
   unfold Z22l2
   simp only [A10, hlt, A8, A6, h0, A12, hget, A1, e3, hp, nodF, hs, A14, A64, A5, A4]
  | false =>
   have hp : ¬ posF l f.name < k := fun h => by rw [hst.2 h] at hs; cases hs
   rw [B5 (s' := ((k + 1 : Nat) : Int)), g, et]
   ·simp only [nodF, hs, A46, A49]
   ·unfold Z22l2
    simp only [A10, hlt, A8, A6, h0, A12, hget, A1, e3, hp, A9, A5, A4, w2]
theorem B443 {l : List File} {o : List Outline} (hl : l.length <= 1000000) (hn : ∀ f ∈ l, f.name.length <= 1000000000) (hb : bulkL1 o <= 10000000) : Z8 l o = some (B114 l o) ∧ Z9 l o = some (B114 l o) := by
 obtain ⟨o1, o2⟩ := B656 (l := o) (by omega)
 have g1 := B580 hl hn l 0 rfl
 have g2 := B492 hl hn l 0 rfl
 have g3 := B578 hl l 0 rfl
 have z0 : ((0 : Nat) : Int) = 0 := rfl
 rw [z0, A116] at g1 g3
 rw [z0] at g2
 constructor
 ·rw [Z8_eq, o1, g1]
  unfold B114
  by_cases h : l.length <= 40
  ·simp only [show ¬ ((l.length : Nat) : Int) > 40 by omega, A9, A5, A4, A1, h, A8, A49]
   cases B136 o <;> cases (l.all fileB && nodF [] l) <;> rfl
  ·simp [h, show ((l.length : Nat) : Int) > 40 by omega]
 ·rw [Z9_eq, Z22_eq, o2, g2, g3]
  unfold B114
  by_cases h : l.length <= 40
  ·simp only [show ((l.length : Nat) : Int) <= 40 by omega, A8, A6, A1, h, A49]
   cases B136 o <;> cases l.all fileB <;> cases nodF [] l <;> rfl
  ·simp only [h, show ¬ ((l.length : Nat) : Int) <= 40 by omega, A9, A64, A1]
   cases l.all fileB <;> rfl
theorem B382 {n : Int} {l : List Int} (hl : l.length <= 1000000000) : Z53 n l = some (szL n ++ l) := by
 obtain ⟨e, _, h, h5, _⟩ := B33 n
 rw [Z53_eq, h]
 simp only [A1]
 rw [A3 (by omega)]
theorem B569 (n : Int) : Z59 n = some (szL n) := by
 obtain ⟨e, h, _⟩ := B33 n
 rw [Z59_eq, h]; rfl
noncomputable def dirL : List File -> List Int
 | [] => []
 | f :: r => ([u8.wrap f.kind] ++ (szL f.name.length ++ (f.name ++ szL f.data.length))) ++ dirL r
def bulkF : List File -> Nat
 | [] => 0
 | f :: r => f.name.length + 11 + bulkF r
theorem B699 : ∀ l : List File, (dirL l).length <= bulkF l
 | [] => by simp [dirL, bulkF]
 | f :: r => by
  have := B699 r
  obtain ⟨_, _, _, a, _⟩ := B33 (f.name.length : Int)
  obtain ⟨_, _, _, b, _⟩ := B33 (f.data.length : Int)
  simp only [dirL, bulkF, A13, A26]
  omega
theorem B698 : ∀ l : List File, (∀ f ∈ l, Byt f.name) -> Byt (dirL l)
 | [], _ => fun x hx => by simp [dirL] at hx
 | f :: r, h => by
  obtain ⟨_, _, _, _, a, _⟩ := B33 (f.name.length : Int)
  obtain ⟨_, _, _, _, b, _⟩ := B33 (f.data.length : Int)
  have hk : Byt [u8.wrap f.kind] := fun x hx => by
   rw [A61] at hx; subst hx; rw [w8]; omega
  exact (hk.append (a.append ((h f (by simp)).append b))).append (B698 r fun g hg => h g (by simp [hg]))
theorem B620 {l : List File} (hl : l.length <= 1000000) : ∀ (r : List File) (k : Nat) (out : List Int), l.drop k = r -> out.length + bulkF r <= 1000000000 ->
  loop (Z34l5 l) ((k : Int), out) = some (out ++ dirL r) ∧ loop (Z37l5 l) ((k : Int), out) = some (out ++ dirL r)
 | [], k, out, hd, h1 => by
  have hln := B61 hd
  refine ⟨B4 ?_, B4 ?_⟩
  ·unfold Z34l5
   simp only [A10, show ¬ k < l.length by omega, A9, A5, A4, dirL, A38]
  ·unfold Z37l5
   simp only [A10, show ¬ k < l.length by omega, A9, A5, A4, dirL, A38]
 | f :: r, k, out, hd, h1 => by
  obtain ⟨hget, hd', hlt⟩ := B49 hd
  simp only [bulkF] at h1
  obtain ⟨_, _, _, a, _⟩ := B33 (f.name.length : Int)
  obtain ⟨_, _, _, b, _⟩ := B33 (f.data.length : Int)
  have w2 : i64.wrap ((k : Int) + 1) = ((k + 1 : Nat) : Int) := w64 (by omega)
  have h0 : (0 : Int) <= ((k : Nat) : Int) := A17 _
  obtain ⟨g1, g2⟩ := B620 hl r (k + 1) (out ++ ([u8.wrap f.kind] ++ (szL f.name.length ++ (f.name ++ szL f.data.length)))) hd' (by simp only [A13, A26]; omega)
  have s1 := B382 (n := (f.name.length : Int)) (l := f.name) (by omega)
  have s2 := B382 (n := (f.data.length : Int)) (l := []) (by simp)
  rw [A38] at s2
  constructor
  ·rw [B5 (s' := (((k + 1 : Nat) : Int), out ++ ([u8.wrap f.kind] ++ (szL f.name.length ++ (f.name ++ szL f.data.length))))), g1]
   ·simp only [dirL, A27]
   ·unfold Z34l5
    simp only [A10, hlt, A8, A6, h0, A12, hget, A1, s1, s2, w2, A26]
    rw [A3 (by omega), A3 (by simp only [A13, A26]; omega), A3 (by simp only [A13, A26]; omega)]
    simp only [A27]
  ·rw [B5 (s' := (((k + 1 : Nat) : Int), out ++ ([u8.wrap f.kind] ++ (szL f.name.length ++ (f.name ++ szL f.data.length))))), g2]
   ·simp only [dirL, A27]
   ·unfold Z37l5
    simp only [A10, hlt, A8, A6, h0, A12, hget, A1, B569, w2, A26]
    rw [A3 (by omega), A3 (by simp only [A13, A26]; omega), A3 (by simp only [A13, A26]; omega), A3 (by simp only [A13, A26]; omega)]
    simp only [A27]
structure BookOk (l : List File) (o : List Outline) : Prop where
 len : l.length <= 1000000
 bulk : bulkF l <= 100000000
 outs : bulkL1 o <= 10000000
 names : ∀ f ∈ l, Byt f.name
 texts : TxtO o
theorem BookOk.nm {l : List File} {o : List Outline} (h : BookOk l o) : ∀ f ∈ l, f.name.length <= 1000000000 := by
 have key : ∀ l : List File, ∀ f ∈ l, f.name.length <= bulkF l := by
  intro l
  induction l with
  | nil => intro f hf; simp at hf
  | cons g r ih =>
   intro f hf
   simp only [bulkF]
   rcases A19.1 hf with hf | hf
   ·subst hf; omega
   ·have := ih f hf; omega
 intro f hf
 have := key l f hf
 have := h.bulk
 omega
noncomputable def dirT (l : List File) (o : List Outline) : List Int := szL l.length ++ dirL l ++ obys o
theorem B510 {l : List File} {o : List Outline} (h : BookOk l o) : ∀ x ∈ dirT l o, 0 <= x ∧ x <= 255 := by
 obtain ⟨_, _, _, a, ab, _⟩ := B33 (l.length : Int)
 exact (ab.append (B698 l h.names)).append (B997 h.texts)
theorem B335 {l : List File} {o : List Outline} (h : BookOk l o) : ((B114 l o = false ∨ 4000 < (dirT l o).length) ∧ ∃ e, e ≠ 0 ∧ Z34 l o = some ([], e) ∧ Z37 l o = some ([], e)) ∨
  (B114 l o = true ∧ (dirT l o).length <= 4000 ∧ ∃ s : List Int, s.Perm (iota ((dirT l o).length + 1)) ∧ s.Pairwise (leS (dirT l o)) ∧ Z111 (dirT l o) = some (s.map (colOf (dirT l o))) ∧
   Z34 l o = some (packB (dirT l o) s, 0) ∧ Z37 l o = some (packB (dirT l o) s, 0) ∧ (packB (dirT l o) s).length <= 400 * (dirT l o).length + 410) := by
 obtain ⟨v1, v2⟩ := B443 h.len h.nm h.outs
 rw [Z34_eq, Z37_eq, v1, v2]
 cases hv : B114 l o with
 | false => exact .inl ⟨.inl rfl, 110, by decide, rfl, rfl⟩
 | true =>
  have hvo : B136 o = true := by
   unfold B114 at hv
   simp only [A25] at hv
   exact hv.2.1
  obtain ⟨p1, p2⟩ := B816 h.outs
  have ep : putO o = (obys o, 0) := by unfold putO; rw [A3 hvo]
  rw [ep] at p1 p2
  have hob := B730 o
  obtain ⟨_, _, _, a, ab, _⟩ := B33 (l.length : Int)
  have hb := h.bulk
  have ho := h.outs
  obtain ⟨g1, g2⟩ := B620 h.len l 0 (szL l.length) rfl (by omega)
  have z0 : ((0 : Nat) : Int) = 0 := rfl
  rw [z0] at g1 g2
  have s1 := B382 (n := (l.length : Int)) (l := []) (by simp)
  rw [A38] at s1
  have hdl := B699 l
  have hpk := B925 (B510 h)
  have c1 : ((szL (l.length : Int) ++ dirL l).length + (obys o).length) * 1 <= 140737488355328 := by simp only [A13]; omega
  rcases hpk with ⟨hbig, q1, q2⟩ | ⟨ht, s, s1', s2, s3, q1, q2, q3⟩
  ·refine .inl ⟨.inr hbig, 4, by decide, ?_, ?_⟩
   ·simp only [A1, A14, A5, A4, s1, g1, p1]
    rw [A3 c1, show szL (l.length : Int) ++ dirL l ++ obys o = dirT l o from rfl, q1]; rfl
   ·simp only [A1, A14, A5, A4, B569, g2, p2]
    rw [A3 c1, show szL (l.length : Int) ++ dirL l ++ obys o = dirT l o from rfl, q2]; rfl
  ·refine .inr ⟨rfl, ht, s, s1', s2, s3, ?_, ?_, q3⟩
   ·simp only [A1, A14, A5, A4, s1, g1, p1]
    rw [A3 c1, show szL (l.length : Int) ++ dirL l ++ obys o = dirT l o from rfl, q1]; rfl
   ·simp only [A1, A14, A5, A4, B569, g2, p2]
    rw [A3 c1, show szL (l.length : Int) ++ dirL l ++ obys o = dirT l o from rfl, q2]; rfl
theorem B190 {err : Int} {b : List Int} {a : Int} : Z70 true err b a 0 = some (true, b, a, 0) := by rw [Z70_eq]; rfl
theorem B507 {n : Nat} (hn : n < 16384) {b : List Int} {at_ : Nat} (h : Has b at_ (sizeL n)) (hl : b.length <= 100000000) : Z69 b (at_ : Int) 0 = some ((n : Int), b, ((at_ + (sizeL n).length : Nat) : Int), 0) := by
 rw [Z69_eq, B260 hn h hl]
 simp only [A8, A14, A5, A4, A1, B190, A6]
theorem B691 {b x : List Int} {at_ : Nat} (h : Has b at_ x) (hat : at_ <= b.length) (hl : b.length <= 100000000) : Z73 (x.length : Int) b (at_ : Int) 0 = some (x, b, ((at_ + x.length : Nat) : Int), 0) := by
 have hle := h.le hat
 rw [Z73_eq]
 simp only
 rw [w64 (n := ((b.length : Nat) : Int) - (at_ : Int)) (by omega), decide_eq_true (show ((x.length : Nat) : Int) <= ((b.length : Nat) : Int) - (at_ : Int) by omega), B190]
 simp only [A1, A14, A5, A4]
 rw [w64 (n := (at_ : Int) + ((x.length : Nat) : Int)) (by omega), w64 (by omega), A3 (by omega), A3 (by omega), show ((at_ : Int) + ((x.length : Nat) : Int) - ((x.length : Nat) : Int)).toNat = at_ by omega, show ((at_ : Int) + ((x.length : Nat) : Int)).toNat = at_ + x.length by omega, h.cut]
 rfl
theorem B690 {b nm : List Int} {at_ : Nat} (hn : nameB nm = true) (h : Has b at_ (sizeL nm.length ++ nm)) (hl : b.length <= 100000000) : Z49 b (at_ : Int) 0 = some (nm, b, ((at_ + (sizeL nm.length).length + nm.length : Nat) : Int), 0) := by
 obtain ⟨h1, h2⟩ := h.app
 have hnl : nm.length <= 20 := by
  unfold nameB at hn
  simp only [A25, A20] at hn
  exact hn.1.2
 rw [Z49_eq, B507 (by omega) h1 hl]
 simp only [A1]
 rw [decide_eq_true (show ((nm.length : Nat) : Int) <= 20 by omega), B190]
 simp only [A1]
 rw [B691 h2 (B544 h1) hl]
 simp only [A1, (B632 (s := nm) (by omega)).1, hn, B190]
theorem B955 {b : List Int} {f : File} {at_ : Nat} (hf : fileB f = true) (hd : f.data.length < 16384) (h : Has b at_ ([u8.wrap f.kind] ++ (szL f.name.length ++ (f.name ++ szL f.data.length)))) (hat : at_ <= b.length) (hl : b.length <= 100000000) :
  Z71 b (at_ : Int) 0 = some (f.name, f.kind, [], (f.data.length : Int), b, ((at_ + ([u8.wrap f.kind] ++ (szL f.name.length ++ (f.name ++ szL f.data.length))).length : Nat) : Int), 0) := by
 unfold fileB at hf
 simp only [A25, A20] at hf
 obtain ⟨hn, k0, k2, _⟩ := hf
 have hnl : f.name.length <= 20 := by
  unfold nameB at hn
  simp only [A25, A20] at hn
  exact hn.1.2
 have hk : u8.wrap f.kind = f.kind := by rw [w8]; omega
 rw [hk, B209 (n := f.name.length) (by omega), B209 (n := f.data.length) (by omega), ← A27 (sizeL _)] at h ⊢
 obtain ⟨h1, h2⟩ := h.app
 obtain ⟨h3, h4⟩ := h2.app
 have t1 := B691 h1 hat hl
 have t2 := B690 hn h3 hl
 have t3 := B507 hd h4 hl
 simp only [A13, A26] at t1 t2 t3 ⊢
 rw [show ((1 : Nat) : Int) = 1 from rfl] at t1
 rw [← A58 (at_ + 1)] at t3
 rw [Z71_eq, t1]
 simp only [A1, A26]
 rw [decide_eq_true (show ((1 : Nat) : Int) = 1 from rfl), A3 rfl, A3 (by omega)]
 rw [show rd [f.kind] 0 = f.kind from rfl, decide_eq_true k2, B190]
 simp only [A1, A14, A5, A4]
 rw [A3 (by omega), t2]
 simp only [A1, t3]
 rw [w64 (n := f.kind) (by omega), show at_ + 1 + (sizeL f.name.length).length + f.name.length + (sizeL f.data.length).length = at_ + (1 + ((sizeL f.name.length).length + f.name.length + (sizeL f.data.length).length)) by omega]
def nakF (f : File) : File := File.mk f.name f.kind []
theorem B802 {b : List Int} (hl : b.length <= 100000000) {n : Nat} : ∀ (r : List File) (k at_ : Nat) (fs : List File) (zs : List Int), k + r.length = n -> n <= 40 -> (∀ f ∈ r, fileB f = true ∧ f.data.length < 16384) -> Has b at_ (dirL r) -> at_ <= b.length -> fs.length + r.length <= 100 -> zs.length + r.length <= 100 ->
  loop (Z48l10 (n : Int)) ((k : Int), b, (at_ : Int), 0, fs, zs) = some (b, ((at_ + (dirL r).length : Nat) : Int), 0, fs ++ r.map nakF, zs ++ r.map fun f => (f.data.length : Int))
 | [], k, at_, fs, zs, hk, hn, hf, h, hat, h1, h2 => by
  refine B4 ?_
  have : ¬ (k : Int) < (n : Int) := by simp at hk; omega
  unfold Z48l10
  simp only [this, A9, A5, A4, dirL, A35, A36, A79, A38]
 | f :: r, k, at_, fs, zs, hk, hn, hf, h, hat, h1, h2 => by
  rw [A21] at hk h1 h2
  obtain ⟨g1, g2⟩ := h.app
  obtain ⟨f1, f2⟩ := hf f (A23 ..)
  have t := B955 f1 f2 g1 hat hl
  have ih := B802 hl r (k + 1) _ (fs ++ [nakF f]) (zs ++ [(f.data.length : Int)]) (by omega) hn (fun x hx => hf x (A29 _ hx)) g2 (g1.le hat) (by simp; omega) (by simp; omega)
  rw [A27, A27, A58 at_, ← A13] at ih
  refine Eq.trans ?_ ih
  refine B5 ?_
  unfold Z48l10
  simp only [show (k : Int) < (n : Int) by omega, A8, A6, A14, A5, A4, t, A1, A26]
  rw [A3 (by omega), A3 (by omega), w64 (n := (k : Int) + 1) (by omega)]
  rfl
theorem B517 : ∀ (l : List File) (nm : List Int), seen (l.map nakF) nm = seen l nm
 | [], _ => rfl
 | f :: l, nm => by rw [A53, B305, B305, B517 l nm]; rfl
theorem B559 : ∀ (r b : List File) (k : Nat) (f : File), nodF b r = true -> r[k]? = some f -> seen (b ++ r.take k) f.name = false
 | x :: r, b, 0, f, h, hk => by
  simp at hk
  subst hk
  rw [nodF, A25] at h
  simpa using h.1
 | x :: r, b, k + 1, f, h, hk => by
  rw [nodF, A25] at h
  have := B559 r (b ++ [x]) k f h.2 (by simpa using hk)
  rw [A27] at this
  exact this
theorem B872 {l : List File} (hl : l.length <= 40) (hn : nodF [] l = true) : loop (Z48l21 (l.map nakF)) 0 = some (Sum.inl ()) := by
 refine B121 (f := Z48l21 (l.map nakF)) (fun k => (k : Int)) (n := l.length) (fun k hk => ?_) ?_ l.length 0 (by omega)
 ·have hget : (l.map nakF)[k]? = some (nakF l[k]) := by rw [A45, A18 hk]; rfl
  have hs := B559 l [] k l[k] hn (A18 hk)
  rw [A28, ← B517, List.map_take] at hs
  have hi := (B201 (l := (l.map nakF).take k) (nm := l[k].name) (by simp; omega)).1
  rw [hs, A7 (by decide)] at hi
  unfold Z48l21
  simp only [A51, A10, hk, A8, A6, A17, A15, A12, hget, A1, List.drop_zero, Nat.sub_zero]
  rw [A3 (by omega)]
  simp only [show (nakF l[k]).name = l[k].name from rfl, hi, A1, show ¬ ((-1 : Int) ≥ 0) by decide, A9, A5, A4]
  rw [w64 (n := (k : Int) + 1) (by omega)]
  rfl
 ·unfold Z48l21
  simp only [A51, A109, A9, A5, A4]
theorem B892 {t s : List Int} (hb : ∀ x ∈ t, 0 <= x ∧ x <= 255) (hp : s.Perm (iota (t.length + 1))) : ∀ x ∈ s.map (colOf t), 0 <= x ∧ x < 257 := fun x hx => by
 obtain ⟨y, hy, rfl⟩ := A60.1 hx
 have := B71.1 (hp.mem_iff.1 hy)
 unfold colOf
 split
 ·omega
 ·have := hb _ (rd_mem (l := t) (i := y - 1) (by omega) (by omega)); omega
theorem B543 {l : List File} {o : List Outline} (h : BookOk l o) (hv : B114 l o = true) (hd : ∀ f ∈ l, f.data.length < 16384) (ht : (dirT l o).length <= 4000) {s : List Int} (hp : s.Perm (iota ((dirT l o).length + 1))) (hs : s.Pairwise (leS (dirT l o))) (hcol : Z111 (dirT l o) = some (s.map (colOf (dirT l o)))) (hlen : (packB (dirT l o) s).length <= 400 * (dirT l o).length + 410) :
  Z48 (packB (dirT l o) s) = some (l.map (fun f => (f.data.length : Int)), o, 0, l.map nakF) := by
 have hu := B941 (B510 h) ht hp hs hcol (B892 (B510 h) hp) (by omega)
 unfold B114 at hv
 simp only [A25, A20] at hv
 obtain ⟨hl, hvo, hfs, hnd⟩ := hv
 have hz := B209 (n := l.length) (by omega)
 have e : dirT l o = sizeL l.length ++ (dirL l ++ obys o) := by
  unfold dirT
  rw [hz, A27]
 rw [Z48_eq, hu]
 rw [e] at ht ⊢
 have h0 : Has (sizeL l.length ++ (dirL l ++ obys o)) 0 (sizeL l.length ++ (dirL l ++ obys o)) := Has.all _
 obtain ⟨h1, h2⟩ := h0.app
 obtain ⟨h3, h4⟩ := h2.app
 have t1 := B507 (n := l.length) (by omega) h1 (by omega)
 have t2 := B802 (n := l.length) (by omega) l 0 _ [] [] (by omega) hl (fun f hf => ⟨A106.1 hfs f hf, hd f hf⟩) h3 (by simp) (by simp; omega) (by simp; omega)
 have z0 : ((0 : Nat) : Int) = 0 := rfl
 rw [A22] at t1 t2 h4
 rw [z0] at t1 t2
 have hcut : cutL (sizeL l.length ++ (dirL l ++ obys o)) ((sizeL l.length).length + (dirL l).length) (sizeL l.length ++ (dirL l ++ obys o)).length = obys o := by
  have := h4.cut
  rw [show (sizeL l.length ++ (dirL l ++ obys o)).length = (sizeL l.length).length + (dirL l).length + (obys o).length by simp only [A13]; omega]
  exact this
 have hol : (obys o).length <= 100000000 := by simp only [A13] at ht; omega
 simp only [A1, A8, A14, A5, A4, t1]
 rw [decide_eq_true (show ((l.length : Nat) : Int) <= 40 by omega), B190]
 simp only [A1, t2, A8, A14, A5, A4, A28]
 rw [A3 (by simp only [A13]; omega), A12, hcut, B343 hvo hol]
 simp only [A1, A8, A14, A5, A4, B872 hl hnd, A43]
theorem B713 {s : List Int} (h : V.Good E (.str s)) : Byt s := by
 cases h with | str _ h => exact h
theorem B1100 {b : List Int} (h : V.Good E (.ints .u8 b)) : Byt b := by
 cases h with
 | ints h1 _ => intro x hx; simpa [IntKind.has, IntKind.min, IntKind.max, IntKind.signed, IntKind.bits] using h1 x hx
theorem B903 : ∀ (n : Nat) (o : List Outline), bulkL1 o <= n -> V.Good E (.rows 1 o) -> TxtO o := by
 intro n
 induction n using Nat.strongRecOn with
 | _ n ih =>
 intro o hn hg
 cases o with
 | nil => exact .nil
 | cons x l =>
  cases hg with
  | rows hl hr =>
   cases x with
   | mk t p k =>
    have h0 := hr (Outline.mk t p k) (A23 ..)
    have ht : V.Good E (.str t) := h0 (.str t) (.head _)
    have hk : V.Good E (.rows 1 k) := h0 (.rows 1 k) (.tail _ (.tail _ (.head _)))
    simp only [bulkL1, bulk1] at hn
    refine .cons (B713 ht) (ih (bulkL1 k) (by omega) k (A11 _) hk) (ih (bulkL1 l) (by omega) l (A11 _) ?_)
    exact .rows (Nat.le_of_succ_le hl) fun y hy => hr y (A29 _ hy)
theorem sumF : ∀ l : List File, bulkF l <= 4 * sumL bulk0 l ∧ 3 * l.length <= sumL bulk0 l ∧ ∀ f ∈ l, f.data.length <= sumL bulk0 l
 | [] => by simp [bulkF, sumL]
 | f :: r => by
  obtain ⟨h1, h2, h3⟩ := sumF r
  simp only [bulkF, sumL, A21, bulk0]
  refine ⟨by omega, by omega, fun g hg => ?_⟩
  rcases A19.1 hg with hg | hg
  ·subst hg; omega
  ·have := h3 g hg; omega
theorem B1010 : ∀ (n : Nat) (l : List Outline), bulkL1 l <= n -> n <= 100000000 -> Z27 l l = some true := by
 intro n
 induction n using Nat.strongRecOn with
 | _ n ih =>
 intro l hn hb
 have hlen := B192 l
 have := B121 (f := Z27l4 l l) (fun k => (k : Int)) (n := l.length) (a := Sum.inl ()) (fun k hk => by
  have hget : l[k]? = some l[k] := A18 hk
  have hbk := B110 hget
  have hkid := ih (bulkL1 l[k].kids) (by omega) _ (A11 _) (by omega)
  unfold Z27l4
  simp only [A10, hk, A8, A6, A17, A12, hget, A1, A14, A5, A4, hkid]
  rw [w64 (n := (k : Int) + 1) (by omega)]
  rfl) (by
  unfold Z27l4
  simp only [A109, A9, A5, A4]) l.length 0 (by omega)
 have z0 : ((0 : Nat) : Int) = 0 := rfl
 rw [z0] at this
 rw [Z27_eq, this]
 simp only [A8, A14, A5, A4, A1, A43]
theorem B577 : ∀ {l : List Outline} {i : Nat} {o : Outline}, l[i]? = some o -> o.title.length <= bulkL1 l
 | x :: l, 0, o, h => by
  simp at h; subst h
  cases x
  simp only [bulkL1, bulk1]; omega
 | x :: l, i + 1, o, h => by
  simp at h
  have := B577 h
  simp only [bulkL1]; omega
theorem B1054 : ∀ (n : Nat) (l : List Outline), bulkL1 l <= n -> n <= 1048576 -> ∀ deep left : Int, 0 <= deep -> deep <= 40 -> -2000000 <= left -> left <= 3000 -> ∃ r, Z13 l deep left = some r ∧ -2000000 <= r ∧ r <= 3000 := by
 intro n
 induction n using Nat.strongRecOn with
 | _ n ih =>
 intro l hn hb deep left d0 d1 h0 h1
 have hlen := B192 l
 rw [Z13_eq]
 by_cases hd : deep = 0
 ·exact ⟨-1, by simp [hd], by omega, by omega⟩
 ·have go : ∀ (d k : Nat) (left : Int), k + d = l.length -> -2000000 <= left -> left <= 3000 -> ∃ r, loop (Z13l4 l deep) (left, (k : Int)) = some r ∧ -2000000 <= r ∧ r <= 3000 := by
   intro d
   induction d with
   | zero =>
    intro k left hk a0 a1
    refine ⟨left, B4 ?_, a0, a1⟩
    unfold Z13l4
    simp only [show ¬ ((k : Int) < ((l.length : Nat) : Int)) by omega, A9, A5, A4, A1]
   | succ d ihd =>
    intro k left hk a0 a1
    have hk' : k < l.length := by omega
    by_cases hneg : left ≥ 0
    ·have hget : l[k]? = some l[k] := A18 hk'
     have hbk := B110 hget
     have htl := B577 hget
     obtain ⟨q, q1, q2, q3⟩ := ih (bulkL1 l[k].kids) (by omega) _ (A11 _) (by omega) (deep - 1) (left - 1 - (l[k].title.length : Int)) (by omega) (by omega) (by omega) (by omega)
     obtain ⟨r, r1, r2⟩ := ihd (k + 1) q (by omega) q2 q3
     refine ⟨r, ?_, r2⟩
     rw [← r1]
     refine B5 ?_
     unfold Z13l4
     simp only [A10, hk', hneg, A8, A6, A17, A12, hget, A1]
     rw [w64 (n := deep - 1) (by omega), w64 (n := left - 1) (by omega), w64 (n := left - 1 - (l[k].title.length : Int)) (by omega), q1]
     simp only [A1]
     rw [w64 (n := (k : Int) + 1) (by omega)]
     rfl
    ·refine ⟨left, B4 ?_, a0, a1⟩
     unfold Z13l4
     simp only [A10, hk', hneg, A8, A9, A6, A5, A4, A1]
  obtain ⟨r, r1, r2⟩ := go l.length 0 left (by omega) h0 h1
  have z0 : ((0 : Nat) : Int) = 0 := rfl
  rw [z0] at r1
  refine ⟨r, ?_, r2⟩
  simp only [hd, A9, A5, A4, r1, A1]
def hvy : List File -> Nat
 | [] => 0
 | f :: r => 20 + f.data.length + f.name.length + hvy r
theorem B344 : ∀ l : List File, hvy l <= 7 * sumL bulk0 l ∧ ∀ f ∈ l, f.data.length <= hvy l
 | [] => by simp [hvy]
 | f :: r => by
  obtain ⟨h1, h2⟩ := B344 r
  simp only [hvy, sumL, bulk0]
  refine ⟨by omega, fun g hg => ?_⟩
  rcases A19.1 hg with hg | hg
  ·subst hg; omega
  ·have := h2 g hg; omega
theorem B905 : ∀ (l : List File), ∀ f ∈ l, f.name.length <= hvy l
 | [] => by simp
 | f :: r => by
  intro g hg
  simp only [hvy]
  rcases A19.1 hg with hg | hg
  ·subst hg; omega
  ·have := B905 r g hg; omega
theorem B545 {l : List File} : ∀ (r : List File) (k n : Nat), l.drop k = r -> n + hvy r <= 1000000000 -> k + r.length <= 1000000000 -> loop (Z1l3 l) ((n : Int), (k : Int)) = some ((n + hvy r : Nat) : Int)
 | [], k, n, hd, h, hk => by
  have hln := B61 hd
  refine B4 ?_
  unfold Z1l3
  simp only [A10, show ¬ k < l.length by omega, A9, A5, A4, hvy, A36]
 | f :: r, k, n, hd, h, hk => by
  obtain ⟨hget, hd', hlt⟩ := B49 hd
  simp only [hvy] at h ⊢
  rw [A21] at hk
  have ih := B545 r (k + 1) (n + 20 + f.data.length + f.name.length) hd' (by omega) (by omega)
  rw [show n + (20 + f.data.length + f.name.length + hvy r) = n + 20 + f.data.length + f.name.length + hvy r by omega, ← ih]
  refine B5 ?_
  unfold Z1l3
  simp only [A10, hlt, A8, A6, A17, A12, hget, A1]
  rw [w64 (n := (n : Int) + 20) (by omega), w64 (n := (n : Int) + 20 + (f.data.length : Int)) (by omega), w64 (n := (n : Int) + 20 + (f.data.length : Int) + (f.name.length : Int)) (by omega), w64 (n := (k : Int) + 1) (by omega)]
  rfl
theorem B980 {l : List File} {o : List Outline} (h : sumL bulk0 l + bulkL1 o <= 1048576) : ∃ v, Z1 l o = some v ∧ (v = false -> hvy l <= 5000) := by
 obtain ⟨h1, h2⟩ := B344 l
 obtain ⟨_, s2, _⟩ := sumF l
 have hlp := B545 (l := l) l 0 0 rfl (by omega) (by omega)
 obtain ⟨q, q1, _⟩ := B1054 (bulkL1 o) o (A11 _) (by omega) 40 3000 (by omega) (by omega) (by omega) (by omega)
 have z0 : ((0 : Nat) : Int) = 0 := rfl
 rw [z0, A22] at hlp
 rw [Z1_eq, hlp]
 simp only [A1]
 by_cases hh : ((hvy l : Nat) : Int) > 5000
 ·exact ⟨true, by simp [hh], fun e => by cases e⟩
 ·refine ⟨decide (q < 0), by simp only [hh, A9, A5, A4, q1, A1], fun _ => by omega⟩
def okc (c : Int) : Bool := (decide (65 <= c) && decide (c <= 90)) || (decide (48 <= c) && decide (c <= 57))
def idB (s : List Int) : Bool := decide (s.length = 4) && s.all okc
abbrev FORM : List Int := [70, 79, 82, 77]
mutual
def B59 : Chunk -> Bool
 | .mk id kind data kids => idB id && (if id = FORM then idB kind && !decide (kind = FORM) && decide (data = []) && singles kids else decide (kind = []) && decide (kids.length = 0))
def singles : List Chunk -> Bool
 | [] => true
 | c :: l => B59 c && singles l
end
mutual
def cnt : Chunk -> Nat
 | .mk _ _ _ kids => cnts kids + 1
def cnts : List Chunk -> Nat
 | [] => 0
 | c :: l => cnt c + cnts l
end
mutual
def dep : Chunk -> Nat
 | .mk _ _ _ kids => deps kids + 1
def deps : List Chunk -> Nat
 | [] => 0
 | c :: l => max (dep c) (deps l)
end
def B113 (l : List Chunk) : Bool := singles l && decide (cnts l <= 400) && decide (deps l <= 8)
mutual
def sz : Chunk -> Nat
 | .mk id _ data kids => 8 + ((if id = FORM then 4 + kszs kids else data.length) + 1) / 2 * 2
def kszs : List Chunk -> Nat
 | [] => 0
 | c :: l => sz c + kszs l
end
def lenc (id data : List Int) (kids : List Chunk) : Nat := if id = FORM then 4 + kszs kids else data.length
def hdr (n : Int) : List Int := [u8.wrap (ishr .i64 n 24), u8.wrap (ishr .i64 n 16), u8.wrap (ishr .i64 n 8), u8.wrap n]
def pad (n : Nat) : List Int := if n % 2 = 1 then [0] else []
mutual
def byts : Chunk -> List Int
 | .mk id kind data kids => id ++ hdr (if id = FORM then 4 + kszs kids else data.length : Nat) ++ (if id = FORM then kind ++ bytss kids else data) ++ pad (if id = FORM then 4 + kszs kids else data.length)
def bytss : List Chunk -> List Int
 | [] => []
 | c :: l => byts c ++ bytss l
end
mutual
def sameC : Chunk -> Chunk -> Bool
 | .mk a b d k, .mk a' b' d' k' => decide (a = a') && (decide (b = b') && (decide (d = d') && sameL k k'))
def sameL : List Chunk -> List Chunk -> Bool
 | [], [] => true
 | c :: l, c' :: l' => sameC c c' && sameL l l'
 | _, _ => false
end
mutual
theorem sz_le : ∀ c : Chunk, sz c + cnt c + dep c <= 8 * bulk2 c
 | .mk id kind data kids => by
  have := szs_le kids
  simp only [sz, cnt, dep, bulk2]
  split <;> omega
theorem szs_le : ∀ l : List Chunk, kszs l + cnts l + deps l <= 8 * bulkL2 l
 | [] => by simp [kszs, cnts, deps, bulkL2]
 | c :: l => by
  have := sz_le c
  have := szs_le l
  simp only [kszs, cnts, deps, bulkL2]
  omega
end
theorem B135 : ∀ l : List Chunk, l.length <= bulkL2 l
 | [] => by simp [bulkL2]
 | .mk a b c d :: l => by
  have := B135 l
  simp only [bulkL2, A21, bulk2]
  omega
theorem B964 : ∀ {l : List Chunk} {i : Nat} {c : Chunk}, l[i]? = some c -> bulk2 c <= bulkL2 l
 | [], i, c, h => by simp at h
 | x :: l, 0, c, h => by simp at h; subst h; simp only [bulkL2]; omega
 | x :: l, i + 1, c, h => by
  simp at h
  have := B964 h
  simp only [bulkL2]; omega
theorem B773 : ∀ l k : List Chunk, cnts (l ++ k) = cnts l + cnts k
 | [], k => by simp [cnts]
 | c :: l, k => by simp only [A40, cnts, B773 l k]; omega
theorem B776 : ∀ l k : List Chunk, deps (l ++ k) = max (deps l) (deps k)
 | [], k => by simp [deps]
 | c :: l, k => by simp only [A40, deps, B776 l k]; omega
theorem B871 : ∀ l k : List Chunk, kszs (l ++ k) = kszs l + kszs k
 | [], k => by simp [kszs]
 | c :: l, k => by simp only [A40, kszs, B871 l k]; omega
theorem B662 : ∀ l k : List Chunk, bulkL2 (l ++ k) = bulkL2 l + bulkL2 k
 | [], k => by simp [bulkL2]
 | c :: l, k => by simp only [A40, bulkL2, B662 l k]; omega
theorem B600 : ∀ l k : List Chunk, singles (l ++ k) = (singles l && singles k)
 | [], k => by simp [singles]
 | c :: l, k => by simp only [A40, singles, B600 l k, Bool.and_assoc]
theorem B693 : ∀ l k : List Chunk, bytss (l ++ k) = bytss l ++ bytss k
 | [], k => by simp [bytss]
 | c :: l, k => by simp only [A40, bytss, B693 l k, A27]
mutual
theorem B933 : ∀ c d : Chunk, sameC c d = true ↔ c = d
 | .mk a b d k, .mk a' b' d' k' => by
  have := sameL_iff k k'
  simp only [sameC, A25, A20, Chunk.mk.injEq, this]
theorem sameL_iff : ∀ l k : List Chunk, sameL l k = true ↔ l = k
 | [], [] => by simp [sameL]
 | c :: l, c' :: l' => by
  have := B933 c c'
  have := sameL_iff l l'
  simp only [sameL, A25, List.cons.injEq, *]
 | [], _ :: _ => by simp [sameL]
 | _ :: _, [] => by simp [sameL]
end
theorem B1084 (l : List Chunk) : sameL l l = true := (sameL_iff l l).2 rfl
theorem B907 (s : List Int) (hs : s.length = 4) : loop (Z125l4 s) 0 = some (if s.all okc then .inl () else .inr false) := by
 have h : loop (Z125l4 s) ((0 : Nat) : Int) = overL (fun _ c (_ : Unit) => some (if okc c then .inl () else .inr (.inr false))) (fun _ => some (.inl ())) 0 (s.drop 0) () := by
  refine B28 s (fun n _ => (n : Int)) _ _ (fun _ => ?_) (fun i x _ h => ?_) 0 () (by omega)
  ·unfold Z125l4; simp [hs]
  ·have hl := B6 h
   unfold Z125l4
   simp only [iteD]
   rw [A3 (by omega), A3 ⟨by omega, by omega⟩, B18 h, w64 (by omega)]
   by_cases hx : okc x = true
   ·simp only [hx, A6, A37]
    simp only [okc, Bool.or_eq_true, A25, A20] at hx
    (repeat' split) <;> first | rfl | omega
   ·simp only [hx, A4, A37, A5]
    simp only [okc, Bool.or_eq_true, A25, A20] at hx
    (repeat' split) <;> first | rfl | omega
 rw [show (0 : Int) = ((0 : Nat) : Int) from rfl, h]
 clear h hs
 rw [List.drop_zero]
 generalize 0 = n
 induction s generalizing n with
 | nil => rfl
 | cons x s ih =>
  simp only [overL, List.all_cons, A25]
  by_cases hx : okc x = true
  ·simp only [hx, A6, A15]; exact ih (n + 1)
  ·simp [hx]
theorem B453 (s : List Int) : Z125 s = some (idB s) := by
 rw [Z125_eq]
 simp only [iteND]
 by_cases h : s.length = 4
 ·rw [A3 (by omega), B907 s h]
  simp only [idB, h, A8, A49]
  by_cases ha : s.all okc = true <;> simp [ha]
 ·rw [A7 (by omega)]
  simp [idB, h]
theorem B1017 (s : List Int) : Z140 s = some (idB s) := by
 rw [← B453, Z125_eq, Z140_eq]; rfl
theorem B631 (s : List Int) : Z126 s = some (idB s && !decide (s = FORM)) := by
 rw [Z126_eq, B453]
 simp only [A1]
 cases idB s <;> simp
theorem B191 {s : List Int} (h : idB s = true) : s.length = 4 := by
 simp only [idB, A25, A20] at h; exact h.1
mutual
theorem B822 : ∀ c : Chunk, bulk2 c <= 100000000 -> Z57 c.id c.kind c.data c.kids = some ((sz c : Nat) : Int)
 | .mk id kind data kids, hb => by
  have hl : Z86 id kind data kids = some ((lenc id data kids : Nat) : Int) := by
   have hk := B135 kids
   simp only [bulk2] at hb
   rw [Z86_eq]
   simp only [iteND, lenc]
   by_cases h : id = FORM
   ·rw [A3 h, A3 h, Z86l5_over kids (by omega), size_over kids (by omega) 0 4 (by omega)]
    simp
   ·rw [A7 h, A7 h]
  have hz := sz_le (.mk id kind data kids)
  show Z57 id kind data kids = _
  rw [Z57_eq, hl]
  simp only [A1, sz] at hz ⊢
  simp only [lenc]
  generalize (if id = FORM then 4 + kszs kids else data.length) = n at hz ⊢
  simp (disch := omega) only [w64, B27]
  simp
theorem size_over : ∀ (l : List Chunk), bulkL2 l <= 100000000 -> ∀ (k : Nat) (n : Int), 0 <= n ∧ n + 8 * bulkL2 l <= 100000000000 ->
  overL Z86l5_step some k l n = some (n + (kszs l : Nat))
 | [], hb, k, n, hn => by simp [overL, kszs]
 | c :: l, hb, k, n, hn => by
  simp only [bulkL2] at hb hn
  have h1 := sz_le c
  have h2 := szs_le l
  simp only [overL, Z86l5_step, B822 c (by omega), A1]
  rw [w64 (by omega), size_over l (by omega) (k + 1) (n + (sz c : Nat)) (by omega)]
  simp only [kszs]
  congr 1; omega
end
theorem B915 (id kind data : List Int) (kids : List Chunk) (hb : bulkL2 kids <= 100000000) : Z86 id kind data kids = some ((lenc id data kids : Nat) : Int) := by
 have hk := B135 kids
 rw [Z86_eq]
 simp only [iteND, lenc]
 by_cases h : id = FORM
 ·rw [A3 h, A3 h, Z86l5_over kids (by omega), size_over kids (by omega) 0 4 (by omega)]
  simp
 ·rw [A7 h, A7 h]
mutual
theorem B743 : ∀ c : Chunk, bulk2 c <= 100000000 -> Z63 c.id c.kind c.data c.kids = some ((sz c : Nat) : Int)
 | .mk id kind data kids, hb => by
  have hk := B135 kids
  have hz := sz_le (.mk id kind data kids)
  have hz2 := szs_le kids
  show Z63 id kind data kids = _
  rw [Z63_eq]
  simp only [bulk2] at hb hz
  simp only [iteD, sz] at hz ⊢
  by_cases h : id = FORM
  ·rw [A3 h, Z63l5_over kids (by omega), rsize_over kids (by omega) 0 4 (by omega)]
   simp only [h, A6] at hz ⊢
   simp only [A1]
   have e1 : i64.wrap (8 + (4 + ((kszs kids : Nat) : Int))) = 8 + (4 + ((kszs kids : Nat) : Int)) := w64 (by omega)
   rw [e1, B20 (by omega), w64 (by omega)]
   congr 1; omega
  ·rw [A7 h]
   simp only [h, A4] at hz ⊢
   simp only [A1]
   have e1 : i64.wrap (8 + ((data.length : Nat) : Int)) = 8 + ((data.length : Nat) : Int) := w64 (by omega)
   rw [e1, B20 (by omega), w64 (by omega)]
   congr 1; omega
theorem rsize_over : ∀ (l : List Chunk), bulkL2 l <= 100000000 -> ∀ (k : Nat) (n : Int), 0 <= n ∧ n + 8 * bulkL2 l <= 100000000000 ->
  overL Z63l5_step some k l n = some (n + (kszs l : Nat))
 | [], hb, k, n, hn => by simp [overL, kszs]
 | c :: l, hb, k, n, hn => by
  simp only [bulkL2] at hb hn
  have h1 := sz_le c
  have h2 := szs_le l
  simp only [overL, Z63l5_step, B743 c (by omega), A1]
  rw [w64 (by omega), rsize_over l (by omega) (k + 1) (n + (sz c : Nat)) (by omega)]
  simp only [kszs]
  congr 1; omega
end
theorem B864 (k : Nat) (d m : Int) (id kind data : List Int) (kids : List Chunk) (h1 : 1 <= d) (h2 : d <= 9) (h3 : 0 <= m) (h4 : m <= 400)
  (hk : d <= 8 -> m + 1 <= 400 -> ∃ m', Z85 kids (d + 1) (m + 1) = some (singles kids && decide (m + 1 + cnts kids <= 400) && decide (d + 1 + deps kids <= 9), m') ∧
   (singles kids = true -> m + 1 + cnts kids <= 400 -> d + 1 + deps kids <= 9 -> m' = m + 1 + cnts kids)) :
  (B59 (.mk id kind data kids) = true ∧ m + cnt (.mk id kind data kids) <= 400 ∧ d + dep (.mk id kind data kids) <= 9 -> Z85l2_step d k (.mk id kind data kids) m = some (.inl (m + cnt (.mk id kind data kids)))) ∧
  (¬ (B59 (.mk id kind data kids) = true ∧ m + cnt (.mk id kind data kids) <= 400 ∧ d + dep (.mk id kind data kids) <= 9) -> ∃ m', Z85l2_step d k (.mk id kind data kids) m = some (.inr (.inr (false, m')))) := by
 unfold Z85l2_step
 simp only [iteD, iteND, B453, B631, A1, B59, cnt, dep]
 rw [w64 (n := m + 1) (by omega), w64 (n := d + 1) (by omega)]
 by_cases c1 : m + 1 > 400
 ·simp only [c1, A6, A1]
  exact ⟨fun h => by omega, fun _ => ⟨_, rfl⟩⟩
 simp only [c1, A4]
 by_cases c2 : d > 8
 ·simp only [c2, A6, A1]
  exact ⟨fun h => by omega, fun _ => ⟨_, rfl⟩⟩
 simp only [c2, A4, A1]
 obtain ⟨m', e1, e2⟩ := hk (by omega) (by omega)
 cases c3 : idB id with
 | false => simp
 | true =>
  simp only [A14, A5, A4, A49]
  by_cases c4 : id = FORM
  ·rw [A3 c4, A3 c4]
   cases c5 : (idB kind && !decide (kind = FORM)) with
   | false => simp
   | true =>
    simp only [A14, A5, A4, A49]
    by_cases c6 : data = []
    ·subst c6
     simp only [A35, e1, A1, A8, A49]
     rw [A7 (by omega)]
     by_cases c7 : singles kids = true ∧ m + 1 + cnts kids <= 400 ∧ d + 1 + deps kids <= 9
     ·obtain ⟨q1, q2, q3⟩ := c7
      simp only [q1, q2, q3, A8, A122, A14, A5, A4]
      refine ⟨fun _ => ?_, fun h => absurd ⟨trivial, by omega, by omega⟩ h⟩
      rw [e2 q1 q2 q3]
      congr 2; omega
     ·have : (singles kids && decide (m + 1 + (cnts kids : Int) <= 400) && decide (d + 1 + (deps kids : Int) <= 9)) = false := by
       rw [Bool.eq_false_iff]
       intro h
       simp only [A25, A20] at h
       exact c7 ⟨h.1.1, h.1.2, h.2⟩
      simp only [this, A46, A6]
      exact ⟨fun h => absurd ⟨h.1, by omega, by omega⟩ c7, fun _ => ⟨_, rfl⟩⟩
    ·have : ((data.length : Nat) : Int) > 0 := by
      cases data with
      | nil => exact absurd rfl c6
      | cons => simp
     simp only [this, A6, c6, A9, A64, A5, false_and, false_implies, A15, not_false_eq_true, forall_const]
     exact ⟨_, rfl⟩
  ·rw [A7 c4, A7 c4]
   by_cases c5 : kind = []
   ·simp only [c5, A6, A8, A49]
    by_cases c6 : kids = []
    ·subst c6
     simp only [A35]
     simp [cnts, deps]
     omega
    ·have : ((kids.length : Nat) : Int) > 0 := by
      cases kids with
      | nil => exact absurd rfl c6
      | cons => simp
     have h5 : ¬ kids.length = 0 := by omega
     simp only [this, A6, h5, A9, A5, false_and, false_implies, A15, not_false_eq_true, forall_const]
     exact ⟨_, rfl⟩
   ·simp only [c5, A4, A9, A64, A5, false_and, false_implies, A15, not_false_eq_true, forall_const]
    exact ⟨_, rfl⟩
mutual
theorem B567 : ∀ c : Chunk, bulk2 c <= 100000000 -> ∀ d m : Int, 1 <= d -> d <= 9 -> 0 <= m -> m <= 400 ->
  ∃ m', Z85 c.kids d m = some (singles c.kids && decide (m + cnts c.kids <= 400) && decide (d + deps c.kids <= 9), m') ∧
   (singles c.kids = true -> m + cnts c.kids <= 400 -> d + deps c.kids <= 9 -> m' = m + cnts c.kids)
 | .mk id kind data kids, hb, d, m, h1, h2, h3, h4 => by
  have hk := B135 kids
  simp only [bulk2] at hb
  show ∃ m', Z85 kids d m = _ ∧ _
  rw [Z85_eq, Z85l2_over kids d (by omega)]
  obtain ⟨g1, g2⟩ := right_over kids (by omega) 0 d m h1 h2 h3 h4
  by_cases hc : singles kids = true ∧ m + cnts kids <= 400 ∧ d + deps kids <= 9
  ·rw [g1 hc]
   simp [hc]
  ·obtain ⟨m', e⟩ := g2 hc
   rw [e]
   refine ⟨m', ?_, fun a b c => absurd ⟨a, b, c⟩ hc⟩
   simp only [A1, Sum.elim_inr, A16, A33, A69]
   symm
   rw [Bool.eq_false_iff]
   intro h
   simp only [A25, A20] at h
   exact hc ⟨h.1.1, h.1.2, h.2⟩
theorem right_over : ∀ l : List Chunk, bulkL2 l <= 100000000 -> ∀ (k : Nat) (d m : Int), 1 <= d -> d <= 9 -> 0 <= m -> m <= 400 ->
  (singles l = true ∧ m + cnts l <= 400 ∧ d + deps l <= 9 -> overL (Z85l2_step d) (fun s => some (Sum.inl s)) k l m = some (.inl (m + cnts l))) ∧
  (¬ (singles l = true ∧ m + cnts l <= 400 ∧ d + deps l <= 9) -> ∃ m', overL (Z85l2_step d) (fun s => some (Sum.inl s)) k l m = some (.inr (false, m')))
 | [], hb, k, d, m, h1, h2, h3, h4 => by
  refine ⟨fun _ => by simp [overL, cnts], fun h => absurd ?_ h⟩
  simp [singles, cnts, deps]; omega
 | .mk id kind data kids :: l, hb, k, d, m, h1, h2, h3, h4 => by
  simp only [bulkL2] at hb
  have hs := B864 k d m id kind data kids h1 h2 h3 h4 fun a b => B567 (.mk id kind data kids) (by omega) (d + 1) (m + 1) (by omega) (by omega) (by omega) b
  have hp : 1 <= cnt (.mk id kind data kids) := by simp [cnt]
  simp only [overL, singles, cnts, deps]
  by_cases hc : B59 (.mk id kind data kids) = true ∧ m + cnt (.mk id kind data kids) <= 400 ∧ d + dep (.mk id kind data kids) <= 9
  ·rw [hs.1 hc]
   obtain ⟨g1, g2⟩ := right_over l (by omega) (k + 1) d (m + cnt (.mk id kind data kids)) h1 h2 (by omega) hc.2.1
   simp only [hc.1, A49]
   refine ⟨fun h => ?_, fun h => ?_⟩
   ·rw [g1 ⟨h.1, by omega, by omega⟩]
    congr 2; omega
   ·exact g2 fun h' => h ⟨h'.1, by omega, by omega⟩
  ·obtain ⟨m', e⟩ := hs.2 hc
   rw [e]
   refine ⟨fun h => absurd ⟨?_, by omega, by omega⟩ hc, fun _ => ⟨m', rfl⟩⟩
   have := h.1
   simp only [A25] at this
   exact this.1
end
theorem B911 (l : List Chunk) (hb : bulkL2 l <= 99999000) : Z56 l = some (B113 l) := by
 rw [Z56_eq]
 obtain ⟨m', e, _⟩ := B567 (.mk [] [] [] l) (by simp [bulk2]; omega) 1 0 (by omega) (by omega) (by omega) (by omega)
 simp only at e
 rw [e]
 simp only [A1, B113, A16]
 congr 1
 ·congr 1; simp only [decide_eq_decide]; omega
 ·simp only [decide_eq_decide]; omega
mutual
theorem B307 : ∀ c : Chunk, bulk2 c <= 100000000 -> Z96 c.id c.kind c.data c.kids = some (B59 c)
 | .mk id kind data kids, hb => by
  have hk := B135 kids
  simp only [bulk2] at hb
  show Z96 id kind data kids = _
  rw [Z96_eq, Z96l8_over kids (by omega), single_over kids (by omega) 0]
  simp only [iteD, iteND, B1017, A1, B59]
  cases c3 : idB id with
  | false => simp
  | true =>
   simp only [A14, A5, A4, A49]
   by_cases c4 : id = FORM
   ·rw [A3 c4, A3 c4]
    cases c5 : idB kind with
    | false => simp
    | true =>
     simp only [A14, A5, A4, A49]
     by_cases c6 : kind = FORM
     ·simp [c6]
     ·by_cases c7 : data = []
      ·subst c7
       simp only [c6, A4, A35, A1, A9, A46, A8, A49]
       cases singles kids <;> rfl
      ·have : ((data.length : Nat) : Int) > 0 := by
        cases data with
        | nil => exact absurd rfl c7
        | cons => simp
       simp [c6, c7, this]
   ·rw [A7 c4, A7 c4]
    by_cases c5 : kind = []
    ·simp [c5]
    ·simp [c5]
theorem single_over : ∀ l : List Chunk, bulkL2 l <= 100000000 -> ∀ k : Nat,
  overL Z96l8_step (fun _ => some (Sum.inl ())) k l () = some (if singles l then .inl () else .inr false)
 | [], hb, k => by simp [overL, singles]
 | c :: l, hb, k => by
  simp only [bulkL2] at hb
  simp only [singles]
  by_cases hs : B59 c = true
  ·rw [B40 (s' := ()) (by simp [Z96l8_step, B307 c (by omega), hs]), single_over l (by omega) (k + 1)]
   simp [hs]
  ·have hs' : B59 c = false := by simpa using hs
   rw [B172 (a := .inr false) (by simp [Z96l8_step, B307 c (by omega), hs'])]
   simp [hs']
end
theorem B445 : ∀ l : List Chunk, bulkL2 l <= 100000000 -> ∀ k : Nat,
  overL Z62l2_step (fun _ => some (Sum.inl ())) k l () = some (if singles l then .inl () else .inr false)
 | [], hb, k => by simp [overL, singles]
 | c :: l, hb, k => by
  simp only [bulkL2] at hb
  simp only [singles]
  by_cases hs : B59 c = true
  ·rw [B40 (s' := ()) (by simp [Z62l2_step, B307 c (by omega), hs]), B445 l (by omega) (k + 1)]
   simp [hs]
  ·have hs' : B59 c = false := by simpa using hs
   rw [B172 (a := .inr false) (by simp [Z62l2_step, B307 c (by omega), hs'])]
   simp [hs']
mutual
theorem B529 : ∀ c : Chunk, bulk2 c <= 100000000 -> Z97 c.kids = some (((cnts c.kids : Nat) : Int), ((deps c.kids : Nat) : Int))
 | .mk id kind data kids, hb => by
  have hk := B135 kids
  simp only [bulk2] at hb
  show Z97 kids = some (((cnts kids : Nat) : Int), ((deps kids : Nat) : Int))
  rw [Z97_eq, Z97l2_over kids (by omega) (0, 0), count_over kids (by omega) 0 0 0 (by omega) (by omega)]
  simp
theorem count_over : ∀ l : List Chunk, bulkL2 l <= 100000000 -> ∀ (k : Nat) (a d : Int), 0 <= a ∧ a + 8 * bulkL2 l <= 1000000000000 -> 0 <= d ∧ d <= 1000000000000 ->
  overL Z97l2_step (fun s => some (s.1, s.2)) k l (a, d) = some (a + cnts l, max d (deps l))
 | [], hb, k, a, d, ha, hd => by simp [overL, cnts, deps]; omega
 | c :: l, hb, k, a, d, ha, hd => by
  simp only [bulkL2] at hb ha
  have h1 := sz_le c
  have h2 := szs_le l
  have e1 : cnt c = cnts c.kids + 1 := by cases c; rfl
  have e2 : dep c = deps c.kids + 1 := by cases c; rfl
  rw [B40 (s' := (a + cnt c, max d (dep c))) ?_, count_over l (by omega) (k + 1) _ _ (by omega) (by omega)]
  ·simp only [cnts, deps, A16, A33]
   omega
  simp only [Z97l2_step, B529 c (by omega), A1]
  rw [w64 (n := ((cnts c.kids : Nat) : Int) + 1) (by omega), w64 (n := a + (((cnts c.kids : Nat) : Int) + 1)) (by omega), w64 (n := ((deps c.kids : Nat) : Int) + 1) (by omega), B452]
  simp only [A16, Sum.inl.injEq, A33]
  omega
end
theorem B682 (l : List Chunk) (hb : bulkL2 l <= 99999000) : Z62 l = some (B113 l) := by
 have hlen := B135 l
 have hc := B529 (.mk [] [] [] l) (by simp [bulk2]; omega)
 simp only at hc
 rw [Z62_eq, Z62l2_over l (by omega) (), B445 l (by omega) 0, hc]
 simp only [A1, B113, iteD]
 cases singles l with
 | false => simp
 | true =>
  simp only [A6, A43, A49]
  by_cases h : cnts l <= 400
  ·rw [A3 (by omega)]; simp [h]; omega
  ·rw [A7 (by omega)]; simp [h]
theorem B171 (n : Int) : (hdr n).length = 4 := rfl
theorem B815 (n : Nat) : (pad n).length = n % 2 := by unfold pad; split <;> simp <;> omega
mutual
theorem B334 : ∀ c : Chunk, (byts c).length <= 2 * bulk2 c
 | .mk id kind data kids => by
  have := bytss_le kids
  simp only [byts, bulk2, A13, B171, B815]
  split
  ·simp only [A13]; omega
  ·omega
theorem bytss_le : ∀ l : List Chunk, (bytss l).length <= 2 * bulkL2 l
 | [] => by simp [bytss]
 | c :: l => by
  have := B334 c
  have := bytss_le l
  simp only [bytss, bulkL2, A13]
  omega
end
mutual
theorem B509 : ∀ c : Chunk, B59 c = true -> (byts c).length = sz c
 | .mk id kind data kids, h => by
  simp only [B59, A25] at h
  have hid := B191 h.1
  simp only [byts, sz, A13, B171, B815]
  by_cases hf : id = FORM
  ·simp only [hf, A6, A25] at h
   have := bytss_len kids h.2.2
   have hk := B191 h.2.1.1.1
   simp only [hf, A6, A13]
   rw [hf] at hid
   omega
  ·simp only [hf, A4]
   omega
theorem bytss_len : ∀ l : List Chunk, singles l = true -> (bytss l).length = kszs l
 | [], _ => rfl
 | c :: l, h => by
  simp only [singles, A25] at h
  have := B509 c h.1
  have := bytss_len l h.2
  simp only [bytss, kszs, A13]
  omega
end
mutual
theorem B809 : ∀ c : Chunk, bulk2 c <= 100000000 -> ∀ out : List Int, out.length + 2 * bulk2 c <= 10000000000 -> Z58 c.id c.kind c.data c.kids out = some (out ++ byts c)
 | .mk id kind data kids, hb, out, ho => by
  have hk := B135 kids
  have hb' := B334 (.mk id kind data kids)
  simp only [bulk2] at hb ho
  show Z58 id kind data kids out = _
  rw [Z58_eq, B915 id kind data kids (by omega)]
  simp only [A1, iteD]
  rw [A3 (by omega), A3 (by simp only [A13, A21, A35]; omega)]
  have hh : ([u8.wrap (ishr .i64 ((lenc id data kids : Nat) : Int) 24), u8.wrap (ishr .i64 ((lenc id data kids : Nat) : Int) 16), u8.wrap (ishr .i64 ((lenc id data kids : Nat) : Int) 8), u8.wrap ((lenc id data kids : Nat) : Int)] : List Int) = hdr (lenc id data kids : Nat) := rfl
  rw [hh]
  simp only [byts]
  by_cases hf : id = FORM
  ·rw [A3 hf, A3 (by simp only [A13, B171]; omega), Z58l7_over kids (by omega)]
   rw [put_over kids (by omega) 0 _ (by simp only [A13, B171]; omega)]
   simp only [A1, lenc, hf, A6, A27]
   have := bytss_le kids
   rw [B20 (by omega), hf] at *
   unfold pad
   by_cases hp : (4 + kszs kids) % 2 = 1
   ·rw [A3 (by omega), A3 hp, A3 (by simp only [A13, B171, A21, A35]; omega)]
    all_goals simp
   ·rw [A7 (by omega), A7 hp]
    all_goals simp
  ·rw [A7 hf, A3 (by simp only [A13, B171]; omega)]
   simp only [A1, lenc, hf, A4, A27]
   rw [B20 (by omega)]
   unfold pad
   by_cases hp : data.length % 2 = 1
   ·rw [A3 (by omega), A3 hp, A3 (by simp only [A13, B171, A21, A35]; omega)]
    all_goals simp
   ·rw [A7 (by omega), A7 hp]
    all_goals simp
theorem put_over : ∀ l : List Chunk, bulkL2 l <= 100000000 -> ∀ (k : Nat) (out : List Int), out.length + 2 * bulkL2 l <= 10000000000 ->
  overL Z58l7_step some k l out = some (out ++ bytss l)
 | [], hb, k, out, ho => by simp [overL, bytss]
 | c :: l, hb, k, out, ho => by
  simp only [bulkL2] at hb ho
  have := B334 c
  rw [B40 (s' := out ++ byts c) (by simp [Z58l7_step, B809 c (by omega) out (by omega)]), put_over l (by omega) (k + 1) _ (by rw [A13]; omega)]
  simp [bytss]
end
theorem B681 : ∀ l : List Chunk, bulkL2 l <= 100000000 -> ∀ (k : Nat) (out : List Int), out.length + 2 * bulkL2 l <= 10000000000 ->
  overL Z36l13_step some k l out = some (out ++ bytss l)
 | [], hb, k, out, ho => by simp [overL, bytss]
 | c :: l, hb, k, out, ho => by
  simp only [bulkL2] at hb ho
  have := B334 c
  rw [B40 (s' := out ++ byts c) (by simp [Z36l13_step, B809 c (by omega) out (by omega)]), B681 l (by omega) (k + 1) _ (by rw [A13]; omega)]
  simp [bytss]
theorem B389 : ∀ (l : List Chunk), bulkL2 l <= 100000000 -> ∀ (k : Nat) (n : Int), 0 <= n ∧ n + 8 * bulkL2 l <= 100000000000 ->
  overL Z36l5_step some k l n = some (n + (kszs l : Nat))
 | [], hb, k, n, hn => by simp [overL, kszs]
 | c :: l, hb, k, n, hn => by
  simp only [bulkL2] at hb hn
  have h1 := sz_le c
  rw [B40 (s' := n + (sz c : Nat)) (by simp [Z36l5_step, B822 c (by omega)]; rw [w64 (by omega)]), B389 l (by omega) (k + 1) _ (by omega)]
  simp only [kszs]
  congr 1; omega
theorem B353 : ∀ (l : List Chunk), bulkL2 l <= 100000000 -> ∀ (k : Nat) (n : Int), 0 <= n ∧ n + 8 * bulkL2 l <= 100000000000 ->
  overL Z39l5_step some k l n = some (n + (kszs l : Nat))
 | [], hb, k, n, hn => by simp [overL, kszs]
 | c :: l, hb, k, n, hn => by
  simp only [bulkL2] at hb hn
  have h1 := sz_le c
  rw [B40 (s' := n + (sz c : Nat)) (by simp [Z39l5_step, B743 c (by omega)]; rw [w64 (by omega)]), B353 l (by omega) (k + 1) _ (by omega)]
  simp only [kszs]
  congr 1; omega
def putR (l : List Chunk) : List Int × Int := if B113 l = true then (if kszs l > 60000 then ([], 4) else (bytss l, 0)) else ([], 100)
theorem B1058 (l : List Chunk) (hb : bulkL2 l <= 99999000) : Z36 l = some (putR l) := by
 have hlen := B135 l
 rw [Z36_eq, B911 l hb, Z36l5_over l (by omega), B389 l (by omega) 0 0 (by omega), Z36l13_over l (by omega), B681 l (by omega) 0 [] (by simp; omega)]
 simp only [A1, iteD, putR]
 cases B113 l with
 | false => rfl
 | true =>
  simp only [A14, A5, A4, A6]
  by_cases h : kszs l > 60000
  ·rw [A3 (by omega), A3 h]
  ·rw [A7 (by omega), A7 h]; simp
mutual
theorem B528 : ∀ c : Chunk, bulk2 c <= 100000000 -> singles c.kids = true -> Z64 c.kids = some (bytss c.kids)
 | .mk id kind data kids, hb, h => by
  have hk := B135 kids
  simp only [bulk2] at hb
  simp only at h
  show Z64 kids = some (bytss kids)
  rw [Z64_eq, Z64l3_over kids (by omega), bytes_over kids (by omega) h 0 [] (by simp; omega)]
  simp
theorem bytes_over : ∀ l : List Chunk, bulkL2 l <= 100000000 -> singles l = true -> ∀ (k : Nat) (out : List Int), out.length + 2 * bulkL2 l <= 10000000000 ->
  overL Z64l3_step some k l out = some (out ++ bytss l)
 | [], hb, h, k, out, ho => by simp [overL, bytss]
 | .mk id kind data kids :: l, hb, h, k, out, ho => by
  simp only [bulkL2] at hb ho
  simp only [singles, A25] at h
  have hc := B334 (.mk id kind data kids)
  have hkk : id = FORM -> Z64 kids = some (bytss kids) := fun hf => by
   have := B528 (.mk id kind data kids) (by omega)
   simp only at this
   refine this ?_
   have := h.1
   simp only [B59, hf, A6, A25] at this
   exact this.2.2
  rw [B40 (s' := out ++ byts (.mk id kind data kids)) ?_, bytes_over l (by omega) h.2 (k + 1) _ (by rw [A13]; omega)]
  ·simp [bytss]
  unfold Z64l3_step
  have h1 := h.1
  simp only [bulk2] at ho hb
  simp only [iteD, byts]
  simp only [B59, A25] at h1
  by_cases hf : id = FORM
  ·have hkl := bytss_le kids
   simp only [hf, A6, A25] at h1
   have e1 := B191 h1.2.1.1.1
   have e2 := bytss_len kids h1.2.2
   simp only [hkk hf, hf, A6, A1]
   rw [A3 (by omega)]
   simp only [A1]
   have el : (kind ++ bytss kids).length = 4 + kszs kids := by rw [A13]; omega
   rw [hf] at ho hb
   rw [el, A3 (by omega), A3 (by simp only [A13, A21, A35]; omega), A3 (by simp only [A13, A21, A35]; omega), B20 (by omega)]
   unfold pad
   by_cases hp : (4 + kszs kids) % 2 = 1
   ·rw [A3 (by omega), A3 hp, A3 (by simp only [A13, A21, A35]; omega)]
    simp [hdr]
   ·rw [A7 (by omega), A7 hp]
    simp [hdr]
  ·simp only [hf, A4, A1]
   rw [A3 (by omega), A3 (by simp only [A13, A21, A35]; omega), A3 (by simp only [A13, A21, A35]; omega), B20 (by omega)]
   unfold pad
   by_cases hp : data.length % 2 = 1
   ·rw [A3 (by omega), A3 hp, A3 (by simp only [A13, A21, A35]; omega)]
    simp [hdr]
   ·rw [A7 (by omega), A7 hp]
    simp [hdr]
end
theorem B175 {l : List Chunk} (h : B113 l = true) : singles l = true := by
 simp only [B113, A25] at h; exact h.1.1
theorem B1047 (l : List Chunk) (hb : bulkL2 l <= 99999000) : Z39 l = some (putR l) := by
 have hlen := B135 l
 rw [Z39_eq, B682 l hb, Z39l5_over l (by omega), B353 l (by omega) 0 0 (by omega)]
 simp only [A1, iteD, putR]
 cases hv : B113 l with
 | false => rfl
 | true =>
  have := B528 (.mk [] [] [] l) (by simp [bulk2]; omega) (B175 hv)
  simp only at this
  simp only [A14, A5, A4, A6, this]
  by_cases h : kszs l > 60000
  ·rw [A3 (by omega), A3 h]
  ·rw [A7 (by omega), A7 h]; simp
theorem B1091 {l : List Chunk} (h : (putR l).2 = 0) : B113 l = true ∧ kszs l <= 60000 ∧ (putR l).1 = bytss l := by
 unfold putR at h ⊢
 split at h
 ·split at h
  ·cases h
  ·rename_i h1 h2; rw [A3 h1, A7 h2]; exact ⟨h1, by omega, rfl⟩
 ·cases h
theorem B165 {e a m w : Int} {b : List Int} : Z99 true e a b m 0 w = some (true, b, m, 0, w) := by rw [Z99_eq]; rfl
theorem B1071 {many w : Int} {b s : List Int} {at_ end_ : Nat} (hs : idB s = true) (h : Has b at_ s) (h4 : at_ + 4 <= end_) (hend : end_ <= b.length) (hl : b.length <= 60000) :
  Z98 (at_ : Int) (end_ : Int) b many 0 w = some (s, b, many, 0, w) := by
 have hc := h.cut
 rw [B191 hs] at hc
 rw [Z98_eq]
 simp only
 rw [w64 (n := (end_ : Int) - (at_ : Int)) (by omega), decide_eq_true (show (end_ : Int) - (at_ : Int) ≥ 4 by omega), B165]
 simp only [A1, A14, A5, A4]
 rw [w64 (n := (at_ : Int) + 4) (by omega), A3 (by omega), A3 (by omega), show ((at_ : Int) + 4).toNat = at_ + 4 by omega, A12, hc, B453, hs]
 simp only [A1, B165]
theorem B1049 {many w : Int} {b s : List Int} {at_ end_ : Nat} (hs : idB s = true) (hf : s ≠ FORM) (h : Has b at_ s) (h4 : at_ + 4 <= end_) (hend : end_ <= b.length) (hl : b.length <= 60000) :
  Z100 (at_ : Int) (end_ : Int) b many 0 w = some (s, b, many, 0, w) := by
 have hc := h.cut
 rw [B191 hs] at hc
 rw [Z100_eq]
 simp only
 rw [w64 (n := (end_ : Int) - (at_ : Int)) (by omega), decide_eq_true (show (end_ : Int) - (at_ : Int) ≥ 4 by omega), B165]
 simp only [A1, A14, A5, A4]
 rw [w64 (n := (at_ : Int) + 4) (by omega), A3 (by omega), A3 (by omega), show ((at_ : Int) + 4).toNat = at_ + 4 by omega, A12, hc, B631, hs, decide_eq_false hf]
 simp only [A1, A46, A122, B165]
theorem B978 {L : Nat} (h : L <= 60000) : loop (Z66l7 (hdr (L : Int))) (0, 0) = some (L : Int) := by
 have e : hdr (L : Int) = [0, 0, (L : Int) / 256, (L : Int) % 256] := by
  unfold hdr
  have a := B371 (n := (L : Int)) (k := 24) (by omega)
  have b := B371 (n := (L : Int)) (k := 16) (by omega)
  have c := B371 (n := (L : Int)) (k := 8) (by omega)
  rw [show ((24 : Nat) : Int) = 24 from rfl] at a
  rw [show ((16 : Nat) : Int) = 16 from rfl] at b
  rw [show ((8 : Nat) : Int) = 8 from rfl] at c
  rw [a, b, c]
  simp only [w8]
  have e1 : (2 : Int) ^ 24 = 16777216 := by decide
  have e2 : (2 : Int) ^ 16 = 65536 := by decide
  have e3 : (2 : Int) ^ 8 = 256 := by decide
  rw [e1, e2, e3, show (L : Int) / 16777216 % 256 = 0 by omega, show (L : Int) / 65536 % 256 = 0 by omega, show (L : Int) / 256 % 256 = (L : Int) / 256 by omega]
 rw [e]
 have st : ∀ (k : Nat) (n d : Int), ([0, 0, (L : Int) / 256, (L : Int) % 256] : List Int)[k]? = some d -> 0 <= n -> n < 16777216 -> 0 <= d -> d < 256 ->
   Z66l7 [0, 0, (L : Int) / 256, (L : Int) % 256] (n, (k : Int)) = some (Sum.inl (256 * n + d, ((k + 1 : Nat) : Int))) := by
  intro k n d hk n0 n1 d0 d1
  have hlt := B6 hk
  have hlt4 : k < 4 := hlt
  unfold Z66l7
  simp only [A10, hlt, A8, A6, A17, A15, B18 hk]
  rw [w64 (n := d) (by omega), B984 n0 (by omega) d0 d1, w64 (n := (k : Int) + 1) (by omega)]
  rfl
 have s0 := st 0 0 0 rfl (by omega) (by omega) (by omega) (by omega)
 have s1 := st 1 (256 * 0 + 0) 0 rfl (by omega) (by omega) (by omega) (by omega)
 have s2 := st 2 (256 * (256 * 0 + 0) + 0) ((L : Int) / 256) rfl (by omega) (by omega) (by omega) (by omega)
 have s3 := st 3 (256 * (256 * (256 * 0 + 0) + 0) + (L : Int) / 256) ((L : Int) % 256) rfl (by omega) (by omega) (by omega) (by omega)
 have s4 : Z66l7 [0, 0, (L : Int) / 256, (L : Int) % 256] (256 * (256 * (256 * (256 * 0 + 0) + 0) + (L : Int) / 256) + (L : Int) % 256, ((4 : Nat) : Int)) = some (Sum.inr (L : Int)) := by
  unfold Z66l7
  rw [A7 (by simp), show 256 * (256 * (256 * (256 * 0 + 0) + 0) + (L : Int) / 256) + (L : Int) % 256 = (L : Int) by omega]
 have := (B5 s0).trans ((B5 s1).trans ((B5 s2).trans ((B5 s3).trans (B4 s4))))
 exact this
theorem B883 {l : List Int} (hl : l.length <= 1000000000) : Z101 l = some l := by
 rw [Z101_eq]
 by_cases h : l.length = 0
 ·have : l = [] := A112 h
  subst this
  simp only [A35, A6]
  rw [A3 (by simp)]
  exact B129 _
 ·rw [A7 h, A3 (by simp; omega)]; rfl
def CkOk (c : Chunk) : Prop := ∀ (dp many w : Int) (b : List Int) (at_ end_ : Nat), B59 c = true -> 1 <= dp -> dp + (dep c : Int) <= 9 -> 0 <= many -> many + (cnt c : Int) <= 400 -> Has b at_ (byts c) -> at_ + (byts c).length <= end_ -> end_ <= b.length -> b.length <= 60000 ->
 Z66 (at_ : Int) (end_ : Int) dp b many 0 w = some (c.id, c.kind, c.data, c.kids, ((at_ + (byts c).length : Nat) : Int), b, many + (cnt c : Int), 0, w)
def ClOk (l : List Chunk) : Prop := ∀ (dp many w : Int) (b : List Int) (at_ : Nat), singles l = true -> 1 <= dp -> dp + (deps l : Int) <= 9 -> 0 <= many -> many + (cnts l : Int) <= 400 -> Has b at_ (bytss l) -> at_ + (bytss l).length <= b.length -> b.length <= 60000 ->
 Z46 (at_ : Int) ((at_ + (bytss l).length : Nat) : Int) dp b many 0 w = some (l, b, many + (cnts l : Int), 0, w)
theorem B799 {dp w : Int} {b : List Int} {end_ : Nat} (hd : 1 <= dp) (hl : b.length <= 60000) (hend : end_ <= b.length) : ∀ (r : List Chunk) (at_ : Nat) (many : Int) (out : List Chunk), (∀ c ∈ r, CkOk c) -> singles r = true -> dp + (deps r : Int) <= 9 -> 0 <= many -> many + (cnts r : Int) <= 400 -> Has b at_ (bytss r) -> at_ + (bytss r).length = end_ -> out.length + r.length <= 1000000 ->
  loop (Z46l2 (end_ : Int) dp) ((at_ : Int), b, many, 0, w, out) = some (b, many + (cnts r : Int), 0, w, out ++ r)
 | [], at_, many, out, hk, hs, hdp, hm, hc, h, he, ho => by
  refine B4 ?_
  have : ¬ (at_ : Int) < (end_ : Int) := by simp [bytss] at he; omega
  unfold Z46l2
  simp only [this, A9, A5, A4, A1, cnts, A38]
  rw [show many + ((0 : Nat) : Int) = many by omega]
 | c :: r, at_, many, out, hk, hs, hdp, hm, hc, h, he, ho => by
  simp only [singles, A25] at hs
  simp only [deps] at hdp
  simp only [cnts] at hc ⊢
  simp only [bytss, A13] at h he
  rw [A21] at ho
  obtain ⟨h1, h2⟩ := h.app
  have hlen := B509 c hs.1
  have hsz : 8 <= sz c := by cases c; simp only [sz]; omega
  have g1 := hk c (A23 ..) dp many w b at_ end_ hs.1 hd (by omega) hm (by omega) h1 (by omega) hend hl
  have g2 := B799 (w := w) hd hl hend r _ (many + (cnt c : Int)) (out ++ [c]) (fun x hx => hk x (A29 _ hx)) hs.2 (by omega) (by omega) (by omega) h2 (by omega) (by simp; omega)
  rw [A27, show many + (cnt c : Int) + (cnts r : Int) = many + ((cnt c + cnts r : Nat) : Int) by omega] at g2
  refine Eq.trans ?_ g2
  refine B5 ?_
  unfold Z46l2
  simp only [show (at_ : Int) < (end_ : Int) by omega, A8, A6, A1, g1, A26]
  rw [A3 (by omega), show Chunk.mk c.id c.kind c.data c.kids = c by cases c; rfl]
theorem B798 {l : List Chunk} (hk : ∀ c ∈ l, CkOk c) : ClOk l := by
 intro dp many w b at_ hs hd hdp hm hc h hle hl
 have hcl : l.length <= 1000000 := by
  have key : ∀ l : List Chunk, l.length <= cnts l := by
   intro l
   induction l with
   | nil => exact A11 _
   | cons c r ih => cases c; simp only [cnts, cnt, A21]; omega
  have := key l
  omega
 rw [Z46_eq, B799 hd hl hle l at_ many [] hk hs hdp hm hc h rfl (by simpa using hcl)]
 rfl
theorem B1021 {id kind data : List Int} {kids : List Chunk} (hk : ClOk kids) : CkOk (.mk id kind data kids) := by
 intro dp many w b at_ end_ hs hd hdp hm hc h hle hend hl
 have hlen := B509 _ hs
 simp only [B59, A25, A20] at hs
 obtain ⟨hid, hs⟩ := hs
 have hidl := B191 hid
 simp only [dep] at hdp
 simp only [cnt] at hc
 have eb : byts (.mk id kind data kids) = id ++ (hdr ((if id = FORM then 4 + kszs kids else data.length : Nat) : Int) ++ ((if id = FORM then kind ++ bytss kids else data) ++ pad (if id = FORM then 4 + kszs kids else data.length))) := by simp only [byts, A27]
 have hbl : (if id = FORM then kind ++ bytss kids else data).length = (if id = FORM then 4 + kszs kids else data.length) := by
  by_cases hf : id = FORM
  ·rw [A3 hf] at hs
   simp only [A25] at hs
   rw [A3 hf, A3 hf, A13, B191 hs.1.1.1, bytss_len _ hs.2]
  ·rw [A7 hf, A7 hf]
 rw [eb] at h
 simp only [sz] at hlen
 have hcnt : (cnt (.mk id kind data kids) : Int) = (cnts kids : Int) + 1 := by simp only [cnt]; omega
 show Z66 (at_ : Int) (end_ : Int) dp b many 0 w = some (id, kind, data, kids, ((at_ + (byts (.mk id kind data kids)).length : Nat) : Int), b, many + (cnt (.mk id kind data kids) : Int), 0, w)
 rw [hlen] at hle ⊢
 rw [hcnt]
 generalize hL : (if id = FORM then 4 + kszs kids else data.length) = L at h hle hbl ⊢
 generalize hB : (if id = FORM then kind ++ bytss kids else data) = B at h hbl
 obtain ⟨h1, h2⟩ := h.app
 obtain ⟨h3, h4⟩ := h2.app
 obtain ⟨h5, h6⟩ := h4.app
 rw [hidl] at h3 h4 h5 h6
 rw [B171] at h5 h6
 rw [hbl] at h6
 have hc1 := h3.cut
 rw [B171] at hc1
 rw [Z66_eq, B1071 hid h1 (by omega) hend hl]
 simp only [A1]
 rw [w64 (n := many + 1) (by omega), decide_eq_true (show many + 1 <= 400 by omega), A3 rfl, decide_eq_true (show dp <= 8 by omega), B165]
 simp only [A1, A14, A5, A4]
 rw [w64 (n := (end_ : Int) - (at_ : Int)) (by omega), w64 (n := (at_ : Int) + 4) (by omega), decide_eq_true (show (end_ : Int) - (at_ : Int) ≥ 8 by omega), B165]
 simp only [A1, A14, A5, A4]
 rw [w64 (n := (at_ : Int) + 8) (by omega), A3 (by omega), A3 (by omega), show ((at_ : Int) + 4).toNat = at_ + 4 by omega, show ((at_ : Int) + 8).toNat = at_ + 4 + 4 by omega, hc1, B978 (by omega)]
 simp only [A1]
 rw [w64 (n := (end_ : Int) - ((at_ : Int) + 8)) (by omega), decide_eq_true (show (L : Int) <= (end_ : Int) - ((at_ : Int) + 8) by omega), B165]
 simp only [A1, A14, A5, A4]
 rw [w64 (n := (at_ : Int) + 8 + (L : Int)) (by omega)]
 -- the body
 have body : ((if (decide (id = [70, 79, 82, 77])) = true then
   (Z100 ((at_ : Int) + 8) ((at_ : Int) + 8 + (L : Int)) b (many + 1) 0 w).bind fun q73 =>
   (Z46 (i64.wrap ((at_ : Int) + 8 + 4)) ((at_ : Int) + 8 + (L : Int)) (i64.wrap (dp + 1)) q73.2.1 q73.2.2.1 q73.2.2.2.1 q73.2.2.2.2).bind fun q81 =>
   some (q81.2.1, q81.2.2.1, q81.2.2.2.1, q81.2.2.2.2, id, q73.1, [], q81.1)
  else
   (if 0 <= (at_ : Int) + 8 + (L : Int) ∧ (at_ : Int) + 8 + (L : Int) <= ((b.length : Nat) : Int) then
    (if 0 <= (at_ : Int) + 8 ∧ (at_ : Int) + 8 <= (at_ : Int) + 8 + (L : Int) then
     (Z101 (cutL b (at_ + 4 + 4) ((at_ : Int) + 8 + (L : Int)).toNat)).bind fun q88 =>
     some (b, many + 1, 0, w, id, [], q88, [])
    else none)
   else none)) : Option ((List Int) × Int × Int × Int × (List Int) × (List Int) × (List Int) × (List Chunk))) = some (b, many + ((cnts kids : Int) + 1), 0, w, id, kind, data, kids) := by
  have ha : (at_ : Int) + 8 = ((at_ + 4 + 4 : Nat) : Int) := by omega
  have hb2 : (at_ : Int) + 8 + (L : Int) = ((at_ + 4 + 4 + L : Nat) : Int) := by omega
  by_cases hf : id = FORM
  ·rw [A3 hf] at hs hL hB
   simp only [A25, A20, Bool.not_eq_true', A62] at hs
   obtain ⟨⟨⟨s1, s2⟩, s3⟩, s4⟩ := hs
   subst hB
   obtain ⟨h7, h8⟩ := h5.app
   have hkl := B191 s1
   rw [hkl] at h8
   have hsl := bytss_len _ s4
   have g1 := B1049 (many := many + 1) (w := w) s1 s2 h7 (end_ := at_ + 4 + 4 + L) (by omega) (by omega) hl
   have g2 := hk (dp + 1) (many + 1) w b _ s4 (by omega) (by omega) (by omega) (by omega) h8 (by omega) hl
   rw [A3 (decide_eq_true hf), hb2, ha, g1]
   simp only [A1]
   rw [w64 (n := ((at_ + 4 + 4 : Nat) : Int) + 4) (by omega), w64 (n := dp + 1) (by omega), show ((at_ + 4 + 4 : Nat) : Int) + 4 = ((at_ + 4 + 4 + 4 : Nat) : Int) by omega, show ((at_ + 4 + 4 + L : Nat) : Int) = ((at_ + 4 + 4 + 4 + (bytss kids).length : Nat) : Int) by omega, g2, s3]
   simp only [A1]
   rw [show many + 1 + (cnts kids : Int) = many + ((cnts kids : Int) + 1) by omega]
  ·rw [A7 hf] at hs hL hB
   simp only [A25, A20] at hs
   obtain ⟨s1, s2⟩ := hs
   have hkn : kids = [] := A112 s2
   have hcut := h5.cut
   rw [hbl] at hcut
   rw [A7 (by simpa using hf), A3 (by omega), A3 (by omega), show ((at_ : Int) + 8 + (L : Int)).toNat = at_ + 4 + 4 + L by omega, hcut, B883 (by omega), s1, hkn, hB]
   rfl
 rw [body]
 simp only [A1]
 rw [B20 (by omega)]
 by_cases hod : L % 2 = 1
 ·have hp : pad L = [0] := by unfold pad; rw [A3 hod]
  rw [hp] at h6
  have hr : rd b ((at_ + 4 + 4 + L : Nat) : Int) = 0 := B18 (h6 0 0 rfl)
  rw [A3 (decide_eq_true (show (L : Int) % 2 = 1 by omega)), decide_eq_true (show (at_ : Int) + 8 + (L : Int) < (end_ : Int) by omega), B165]
  simp only [A1, A6]
  rw [A3 (by omega), show (at_ : Int) + 8 + (L : Int) = ((at_ + 4 + 4 + L : Nat) : Int) by omega, hr, decide_eq_true (show (0 : Int) = 0 from rfl), B165]
  simp only [A1]
  rw [w64 (n := ((at_ + 4 + 4 + L : Nat) : Int) + 1) (by omega), show ((at_ + 4 + 4 + L : Nat) : Int) + 1 = ((at_ + (8 + (L + 1) / 2 * 2) : Nat) : Int) by omega]
 ·rw [A7 (by simp; omega)]
  simp only [A1, A5, A4]
  rw [show (at_ : Int) + 8 + (L : Int) = ((at_ + (8 + (L + 1) / 2 * 2) : Nat) : Int) by omega]
mutual
theorem B1020 : ∀ c : Chunk, CkOk c
 | .mk id kind data kids => B1021 (B798 (chunksOk kids))
theorem chunksOk : ∀ l : List Chunk, ∀ c ∈ l, CkOk c
 | [] => fun c h => by simp at h
 | c :: l => fun x hx => (A19.1 hx).elim (fun e => e ▸ B1020 c) fun h => chunksOk l x h
end
theorem B772 {l : List Chunk} (hv : B113 l = true) (hs : kszs l <= 60000) : Z24 (bytss l) = some (l, 0, 0) := by
 have hsg := B175 hv
 have hlen := bytss_len l hsg
 unfold B113 at hv
 simp only [A25, A20] at hv
 obtain ⟨⟨v1, v2⟩, v3⟩ := hv
 have g := B798 (chunksOk l) 1 0 0 (bytss l) 0 v1 (by omega) (by omega) (by omega) (by omega) (Has.all _) (by omega) (by omega)
 rw [A22] at g
 have z0 : ((0 : Nat) : Int) = 0 := rfl
 rw [z0] at g
 rw [Z24_eq, A7 (by simp; omega), g]
 simp only [A1, A8, A14, A5, A4]
noncomputable def oneC (f : File) : Chunk := .mk [70, 73, 76, 69] [] (szL f.name.length ++ f.name ++ f.data) []
noncomputable def bookC (d : List Int) (fs : List File) : Chunk := .mk [70, 79, 82, 77] [66, 79, 79, 75] [] (.mk [68, 73, 82, 77] [] d [] :: fs.map oneC)
theorem B810 {id data : List Int} (h : idB id = true) (hf : id ≠ FORM) : B59 (.mk id [] data []) = true := by
 simp only [B59, h, A7 hf, A35, A8, A122]
theorem B598 : ∀ fs : List File, singles (fs.map oneC) = true ∧ cnts (fs.map oneC) = fs.length ∧ deps (fs.map oneC) <= 1 ∧ bulkL2 (fs.map oneC) <= 2 * hvy fs
 | [] => ⟨rfl, rfl, A30 _, A30 _⟩
 | f :: r => by
  obtain ⟨h1, h2, h3, h4⟩ := B598 r
  obtain ⟨_, _, _, a, _⟩ := B33 (f.name.length : Int)
  have hs : B59 (oneC f) = true := B810 (by decide) (by decide)
  simp only [A53, singles, cnts, deps, bulkL2, hvy, hs, h1, h2, A122, A21]
  simp only [oneC, cnt, dep, cnts, deps, bulk2, bulkL2, A13, A21, A35]
  refine ⟨trivial, by omega, by omega, by omega⟩
theorem B506 {d : List Int} {fs : List File} (h : fs.length <= 40) : B113 [bookC d fs] = true := by
 obtain ⟨h1, h2, h3, _⟩ := B598 fs
 have hd : B59 (.mk [68, 73, 82, 77] [] d []) = true := B810 (by decide) (by decide)
 have e1 : idB [70, 79, 82, 77] = true := by decide
 have e2 : idB [66, 79, 79, 75] = true := by decide
 have e3 : ¬ ([66, 79, 79, 75] : List Int) = FORM := by decide
 unfold B113
 have s : singles [bookC d fs] = true := by
  simp only [singles, bookC, A108]
  unfold B59
  simp only [e1, e2, e3, A6, A8, A9, A46, A122, A49, singles, hd, h1]
 rw [s]
 simp only [cnts, deps, bookC, cnt, dep, h2, A49, A25, A20]
 omega
theorem B830 {d : List Int} {fs : List File} : bulkL2 [bookC d fs] <= d.length + 2 * hvy fs + 100 := by
 obtain ⟨_, _, _, h4⟩ := B598 fs
 simp only [bulkL2, bookC, bulk2, A21, A35]
 omega
theorem B646 {l : List File} {kind : List Int} (hl : hvy l <= 100000000) : ∀ (r : List File) (k : Nat) (ks : List Chunk), l.drop k = r -> ks.length + r.length <= 100000000 -> k + r.length <= 100000000 ->
  loop (Z15l6 l) ((k : Int), ks, [70, 79, 82, 77], kind, []) = some (ks ++ r.map oneC, [70, 79, 82, 77], kind, []) ∧ loop (Z16l6 l) ((k : Int), ks) = some (ks ++ r.map oneC)
 | [], k, ks, hd, h1, h2 => by
  have hln := B61 hd
  refine ⟨B4 ?_, B4 ?_⟩
  ·unfold Z15l6
   simp only [A10, show ¬ k < l.length by omega, A9, A5, A4, A79, A38]
  ·unfold Z16l6
   simp only [A10, show ¬ k < l.length by omega, A9, A5, A4, A79, A38]
 | f :: r, k, ks, hd, h1, h2 => by
  obtain ⟨hget, hd', hlt⟩ := B49 hd
  rw [A21] at h1 h2
  obtain ⟨_, _, _, a, _⟩ := B33 (f.name.length : Int)
  have hdl := (B344 l).2 f (A41 hget)
  have hnl := B905 l f (A41 hget)
  have s1 := B382 (n := (f.name.length : Int)) (l := f.name) (by omega)
  have o1 : Z35 f.name f.kind f.data = some ([70, 73, 76, 69], [], szL f.name.length ++ f.name ++ f.data, []) := by
   rw [Z35_eq, s1]
   simp only [A1, A13]
   rw [A3 (by omega)]
  have o2 : Z38 f.name f.kind f.data = some ([70, 73, 76, 69], [], szL f.name.length ++ f.name ++ f.data, []) := by
   rw [Z38_eq, B569]
   simp only [A1, A13]
   rw [A3 (by omega), A3 (by omega)]
  obtain ⟨g1, g2⟩ := B646 (kind := kind) hl r (k + 1) (ks ++ [oneC f]) hd' (by simp; omega) (by omega)
  rw [A27] at g1 g2
  have w2 : i64.wrap ((k : Int) + 1) = ((k + 1 : Nat) : Int) := w64 (by omega)
  have h0 : (0 : Int) <= ((k : Nat) : Int) := A17 _
  refine ⟨Eq.trans (B5 ?_) g1, Eq.trans (B5 ?_) g2⟩
  ·unfold Z15l6
   simp only [A10, hlt, A8, A6, h0, A12, hget, A1, o1, A26, w2]
   rw [A3 (by omega)]
   rfl
  ·unfold Z16l6
   simp only [A10, hlt, A8, A6, h0, A12, hget, A1, o2, A26, w2]
   rw [A3 (by omega)]
   rfl
noncomputable def putB (d : List Int) (fs : List File) : List Int × Int := if kszs [bookC d fs] <= 60000 then (bytss [bookC d fs], 0) else ([], 4)
theorem B738 {l fs : List File} {o : List Outline} {d : List Int} (hd : Z34 l o = some (d, 0)) (hr : Z37 l o = some (d, 0)) (hdl : d.length <= 10000000) (hf : hvy fs <= 10000) (hfl : fs.length <= 40) :
  Z15 [66, 79, 79, 75] l o fs = some (putB d fs) ∧ ((Z16 [66, 79, 79, 75] l o fs).bind fun q3 => (Z17 q3.1 q3.2).bind fun q6 => some (q6.1, q6.2)) = some (putB d fs) := by
 obtain ⟨g1, g2⟩ := B646 (l := fs) (kind := [66, 79, 79, 75]) (by omega) fs 0 [.mk [68, 73, 82, 77] [] d []] rfl (by simp; omega) (by omega)
 have z0 : ((0 : Nat) : Int) = 0 := rfl
 rw [z0] at g1 g2
 have hb := B830 (d := d) (fs := fs)
 have c1 := B1058 [bookC d fs] (by omega)
 have c2 := B1047 [bookC d fs] (by omega)
 have hv := B506 (d := d) hfl
 have c1' : Z36 [.mk [70, 79, 82, 77] [66, 79, 79, 75] [] ([.mk [68, 73, 82, 77] [] d []] ++ fs.map oneC)] = some (putR [bookC d fs]) := c1
 have c2' : Z39 [.mk [70, 79, 82, 77] [66, 79, 79, 75] [] ([.mk [68, 73, 82, 77] [] d []] ++ fs.map oneC)] = some (putR [bookC d fs]) := c2
 have hlen := bytss_len _ (B175 hv)
 unfold putB
 rw [Z15_eq, Z16_eq, hd, hr]
 simp only [A1, A8, A14, A5, A4, g1, g2, c1', c2']
 by_cases hk : kszs [bookC d fs] <= 60000
 ·have hp : putR [bookC d fs] = (bytss [bookC d fs], 0) := by unfold putR; rw [A3 hv, A7 (by omega)]
  rw [A3 hk, hp]
  simp only [A8, A14, A5, A4, A1, Z17_eq]
  rw [A7 (by simp; omega)]
  exact ⟨trivial, rfl⟩
 ·have hp : putR [bookC d fs] = ([], 4) := by unfold putR; rw [A3 hv, A3 (by omega)]
  rw [A7 hk, hp]
  simp only [show ¬ ((4 : Int) = 0) by decide, A9, A46, A6, A1, Z17_eq]
  exact ⟨trivial, trivial⟩
theorem B817 {l fs : List File} {o : List Outline} {e : Int} (he : e ≠ 0) (hd : Z34 l o = some ([], e)) (hr : Z37 l o = some ([], e)) :
  Z15 [66, 79, 79, 75] l o fs = some ([], e) ∧ ((Z16 [66, 79, 79, 75] l o fs).bind fun q3 => (Z17 q3.1 q3.2).bind fun q6 => some (q6.1, q6.2)) = some ([], e) := by
 rw [Z15_eq, Z16_eq, hd, hr]
 simp only [A1, he, A9, A46, A6, Z17_eq]
 exact ⟨trivial, trivial⟩
theorem B652 {l : List Int} (hl : l.length <= 1000000000) : Z32 l = some l := by
 rw [Z32_eq]
 by_cases h : l.length = 0
 ·have : l = [] := A112 h
  subst this
  simp only [A35, A6]
  rw [A3 (by simp)]
  exact B129 _
 ·rw [A7 h, A3 (by simp; omega)]; rfl
theorem B782 {d : List Int} {fs : List File} (hl : fs.length <= 1000000) : Z25 [bookC d fs] = some true := by
 have hcut : cutL (.mk [68, 73, 82, 77] [] d [] :: fs.map oneC) ((1 : Int).toNat) (.mk [68, 73, 82, 77] [] d [] :: fs.map oneC).length = fs.map oneC := by
  unfold cutL
  rw [A94]
  rfl
 have st : ∀ k, k < (fs.map oneC).length -> Z67l2 (fs.map oneC) (k : Int) = some (.inl ((k + 1 : Nat) : Int)) := fun k hk => by
  have hk' : k < fs.length := by simpa using hk
  have hget : (fs.map oneC)[k]? = some (oneC fs[k]) := by rw [A45, A18 hk']; rfl
  have hi : Z102 (oneC fs[k]).id (oneC fs[k]).kind (oneC fs[k]).data (oneC fs[k]).kids = some false := by
   rw [Z102_eq]
   rfl
  have hw : i64.wrap ((k : Int) + 1) = ((k + 1 : Nat) : Int) := w64 (by omega)
  unfold Z67l2
  simp only [A10, hk, A8, A6, A17, A12, hget, A1, hi, A5, A4, hw]
 have en : Z67l2 (fs.map oneC) (((fs.map oneC).length : Nat) : Int) = some (.inr (.inl ())) := by
  unfold Z67l2
  rw [A7 (by simp)]
 have hi : Z47 (fs.map oneC) = some false := by
  rw [Z47_eq, Z67_eq]
  have hlp : loop (Z67l2 (fs.map oneC)) 0 = some (.inl ()) := by
   generalize Z67l2 (fs.map oneC) = g at st en ⊢
   exact B121 (f := g) (fun k => (k : Int)) (n := (fs.map oneC).length) (a := Sum.inl ()) st en (fs.map oneC).length 0 (by omega)
  rw [hlp]
  rfl
 have s0 : Z25l2 [bookC d fs] 0 = some (.inl 1) := by
  unfold Z25l2 bookC
  simp only [A26, show (0 : Int) < ((1 : Nat) : Int) by omega, A8, A6, Int.le_refl, Int.toNat_zero, A110, A1, A14, A5, A4, A21]
  rw [A3 (by simp), A7 (by simp; omega)]
  simp only [A1, A5, A4]
  rw [A3 (by omega)]
  have hcut' := hcut
  rw [A21] at hcut'
  rw [hcut', hi]
  rfl
 have s1 : Z25l2 [bookC d fs] 1 = some (.inr (.inl ())) := by
  unfold Z25l2
  rfl
 rw [Z25_eq, (B5 s0).trans (B4 s1)]
 rfl
def entE (f : File) : Entuint8 := .mk f.name f.data
theorem B735 {α : Type} (key : α -> KV) (y : α) : ∀ m : List α, (∀ x ∈ m, key x ≠ key y) -> putM key y m = m ++ [y]
 | [], _ => rfl
 | x :: m, h => by
  rw [putM, A7 (h x (A23 ..)), B735 key y m fun z hz => h z (A29 _ hz)]
  rfl
theorem B706 {α : Type} (key : α -> KV) {n : KV} {y : α} {b : List α} (hy : key y = n) : ∀ a : List α, (∀ x ∈ a, key x ≠ n) -> findM key n (a ++ y :: b) = some y
 | [], _ => by rw [A28, findM, A3 hy]
 | x :: a, h => by
  rw [A40, findM, A7 (h x (A23 ..)), B706 key hy a fun z hz => h z (A29 _ hz)]
theorem B942 {l : List File} {nm : List Int} (h : seen l nm = false) : ∀ x ∈ l.map entE, KV.str x.key ≠ KV.str nm := by
 intro x hx
 obtain ⟨f, hf, rfl⟩ := A60.1 hx
 unfold seen at h
 rw [List.any_eq_false] at h
 have := h f hf
 intro e
 exact this (by simpa [entE] using e)
theorem B1012 {l : List File} {f : File} (h : f ∈ l) : seen l f.name = true := by
 unfold seen
 rw [List.any_eq_true]
 exact ⟨f, h, by simp⟩
theorem B902 {l : List File} (hl : l.length <= 40) (hb : hvy l <= 10000) (hf : l.all fileB = true) (hn : nodF [] l = true) : loop (Z26l6 (l.map nakF) (l.map oneC)) (0, []) = some (Sum.inl (l.map entE)) := by
 have st : ∀ k, k < l.length -> Z26l6 (l.map nakF) (l.map oneC) ((k : Int), (l.take k).map entE) = some (.inl (((k + 1 : Nat) : Int), (l.take (k + 1)).map entE)) := fun k hk => by
  have hget : l[k]? = some l[k] := A18 hk
  have hmem : l[k] ∈ l := A92 hk
  have hget2 : (l.map oneC)[k]? = some (oneC l[k]) := by rw [A45, hget]; rfl
  have hfb := A106.1 hf _ hmem
  unfold fileB at hfb
  simp only [A25, A20] at hfb
  have hnm := hfb.1
  have hnl : l[k].name.length <= 20 := by
   unfold nameB at hnm
   simp only [A25, A20] at hnm
   exact hnm.1.2
  have hdl := (B344 l).2 _ hmem
  have hlen := B432 l[k].name.length
  have ed : (oneC l[k]).data = sizeL l[k].name.length ++ l[k].name ++ l[k].data := by
   show szL l[k].name.length ++ l[k].name ++ l[k].data = _
   rw [B209 (by omega)]
  have h0 : Has (sizeL l[k].name.length ++ l[k].name ++ l[k].data) 0 (sizeL l[k].name.length ++ l[k].name ++ l[k].data) := Has.all _
  obtain ⟨h1, h2⟩ := h0.app
  have c1 := B690 hnm h1 (by simp only [A13]; omega)
  have hc := h2.cut
  rw [A22] at c1 hc
  rw [A13] at hc
  have z0 : ((0 : Nat) : Int) = 0 := rfl
  rw [z0] at c1
  have hi := (B201 (l := l.map nakF) (nm := l[k].name) (by simp; omega)).1
  rw [B517, B1012 hmem, A3 rfl] at hi
  have hsn := B559 l [] k l[k] hn hget
  rw [A28] at hsn
  have hput := B735 (fun (e : Entuint8) => KV.str e.key) (Entuint8.mk l[k].name l[k].data) ((l.take k).map entE) (B942 hsn)
  have htk : (l.take (k + 1)).map entE = (l.take k).map entE ++ [Entuint8.mk l[k].name l[k].data] := by
   rw [A107, hget, A88]
   rfl
  have hw : i64.wrap ((k : Int) + 1) = ((k + 1 : Nat) : Int) := w64 (by omega)
  have hcl := B652 (l := l[k].data) (by omega)
  have hcut : cutL (sizeL l[k].name.length ++ l[k].name ++ l[k].data) ((sizeL l[k].name.length).length + l[k].name.length) (sizeL l[k].name.length ++ l[k].name ++ l[k].data).length = l[k].data := by
   rw [show (sizeL l[k].name.length ++ l[k].name ++ l[k].data).length = (sizeL l[k].name.length).length + l[k].name.length + l[k].data.length by simp only [A13]]
   exact hc
  rw [htk]
  unfold Z26l6
  simp only [A51, A10, hk, A8, A6, A17, A12, hget2, A1, ed, c1, A14, A5, A4, hi, show ¬ ((posF (l.map nakF) l[k].name : Int) < 0) by omega, A9]
  rw [A3 ⟨trivial, by simp only [A13]; omega⟩, hcut, hcl]
  simp only [A1, hput, hw]
 have en : Z26l6 (l.map nakF) (l.map oneC) ((l.length : Int), (l.take l.length).map entE) = some (.inr (.inl (l.map entE))) := by
  unfold Z26l6
  rw [A7 (by simp), A94]
 generalize Z26l6 (l.map nakF) (l.map oneC) = g at st en ⊢
 exact B121 (f := g) (fun k => ((k : Int), (l.take k).map entE)) (n := l.length) (a := Sum.inl (l.map entE)) st en l.length 0 (by omega)
theorem B898 {l : List File} (hl : l.length <= 40) (hn : nodF [] l = true) : loop (Z10l15 (l.map entE) (l.map fun f => (f.data.length : Int)) (l.map nakF)) (0, [], [], l.map nakF) = some (Sum.inl ([], [], l)) := by
 have st : ∀ k, k < l.length -> Z10l15 (l.map entE) (l.map fun f => (f.data.length : Int)) (l.map nakF) ((k : Int), [], [], l.take k ++ (l.drop k).map nakF) = some (.inl (((k + 1 : Nat) : Int), [], [], l.take (k + 1) ++ (l.drop (k + 1)).map nakF)) := fun k hk => by
  have hget : l[k]? = some l[k] := A18 hk
  have hdk : l.drop k = l[k] :: l.drop (k + 1) := A68 hk
  have hb : (l.take k ++ (l.drop k).map nakF)[k]? = some (nakF l[k]) := by
   rw [hdk, A48 (by rw [A24]; omega), A24, Nat.min_eq_left (by omega), A104]
   rfl
  have hz : rd (l.map fun f => (f.data.length : Int)) (k : Int) = (l[k].data.length : Int) := B18 (by rw [A45, hget]; rfl)
  have hsn := B559 l [] k l[k] hn hget
  rw [A28] at hsn
  have hfind : findM (fun (e : Entuint8) => KV.str e.key) (KV.str l[k].name) (l.map entE) = some (entE l[k]) := by
   have e : l.map entE = (l.take k).map entE ++ entE l[k] :: (l.drop (k + 1)).map entE := by
    have : l = l.take k ++ l[k] :: l.drop (k + 1) := by rw [← hdk, A105]
    have h2 := congrArg (List.map entE) this
    rw [A88, A53] at h2
    exact h2
   rw [e]
   exact B706 (fun (e : Entuint8) => KV.str e.key) (n := KV.str l[k].name) rfl _ (B942 hsn)
  have hset : (l.take k ++ (l.drop k).map nakF).set k l[k] = l.take (k + 1) ++ (l.drop (k + 1)).map nakF := by
   rw [hdk, List.set_append_right _ _ (by rw [A24]; omega), A24, Nat.min_eq_left (by omega), A104, A107, hget, A27]
   rfl
  have hlen : (l.take k ++ (l.drop k).map nakF).length = l.length := by simp; omega
  have hw : i64.wrap ((k : Int) + 1) = ((k + 1 : Nat) : Int) := w64 (by omega)
  rw [← hset]
  unfold Z10l15
  simp only [A51, hlen, A10, hk, A8, A6, A17, A15, A12, hb, A1]
  simp only [nakF, hfind, Option.isSome_some, A128, A14, A5, A4, hz, entE, A8, A1, hw]
 have en : Z10l15 (l.map entE) (l.map fun f => (f.data.length : Int)) (l.map nakF) ((l.length : Int), [], [], l.take l.length ++ (l.drop l.length).map nakF) = some (.inr (.inl ([], [], l))) := by
  unfold Z10l15
  rw [A7 (by simp), A94, List.drop_length, A79, A38]
 have e0 : l.map nakF = l.take 0 ++ (l.drop 0).map nakF := rfl
 generalize Z10l15 (l.map entE) (l.map fun f => (f.data.length : Int)) (l.map nakF) = g at st en ⊢
 rw [e0]
 exact B121 (f := g) (fun k => ((k : Int), [], [], l.take k ++ (l.drop k).map nakF)) (n := l.length) (a := Sum.inl ([], [], l)) st en l.length 0 (by omega)
theorem B819 {l : List File} {o : List Outline} (h : BookOk l o) (hv : B114 l o = true) (hb : hvy l <= 10000) (ht : (dirT l o).length <= 4000) {s : List Int} (hp : s.Perm (iota ((dirT l o).length + 1))) (hs : s.Pairwise (leS (dirT l o))) (hcol : Z111 (dirT l o) = some (s.map (colOf (dirT l o)))) (hlen : (packB (dirT l o) s).length <= 400 * (dirT l o).length + 410)
  (hk : kszs [bookC (packB (dirT l o) s) l] <= 60000) : Z10 (bytss [bookC (packB (dirT l o) s) l]) = some (l, o, 0) := by
 have hg := B543 h hv (fun f hf => by have := (B344 l).2 f hf; omega) ht hp hs hcol hlen
 unfold B114 at hv
 simp only [A25, A20] at hv
 obtain ⟨hl, hvo, hfs, hnd⟩ := hv
 have hq := B772 (B506 (d := packB (dirT l o) s) hl) hk
 have hB := B782 (d := packB (dirT l o) s) (fs := l) (by omega)
 generalize packB (dirT l o) s = d at hg hq hB ⊢
 have hcut : cutL (.mk [68, 73, 82, 77] [] d [] :: l.map oneC) ((1 : Int).toNat) (.mk [68, 73, 82, 77] [] d [] :: l.map oneC).length = l.map oneC := by
  unfold cutL
  rw [A94]
  rfl
 have hform : ∀ (z : List Int) (u : List Outline) (v : List File), Z26 [70, 79, 82, 77] [66, 79, 79, 75] [] (.mk [68, 73, 82, 77] [] d [] :: l.map oneC) z u v [] = some (0, l.map (fun f => (f.data.length : Int)), o, l.map entE, l.map nakF) := fun z u v => by
  rw [Z26_eq]
  simp only [Int.le_refl, A6, Int.toNat_zero, A110, A1, hg, A8, A14, A5, A4]
  rw [A3 (by simp; omega), hcut, B902 hl hb hfs hnd]
  rfl
 have s0 : Z10l8 [bookC d l] (0, [], [], [], [], [], []) = some (.inl (1, [], l.map entE, l.map (fun f => (f.data.length : Int)), o, [], l.map nakF)) := by
  unfold Z10l8 bookC
  simp only [A26, show (0 : Int) < ((1 : Nat) : Int) by omega, A8, A6, Int.le_refl, Int.toNat_zero, A110, A1, hform, A14, A5, A4]
  rfl
 have s1 : Z10l8 [bookC d l] (1, [], l.map entE, l.map (fun f => (f.data.length : Int)), o, [], l.map nakF) = some (.inr (.inl ([], l.map entE, l.map (fun f => (f.data.length : Int)), o, [], l.map nakF))) := by
  unfold Z10l8
  rfl
 rw [Z10_eq, hq]
 simp only [A1, A8, A14, A5, A4, hB]
 rw [(B5 s0).trans (B4 s1)]
 simp only [A1, A43, B898 hl hnd]
theorem B257 {f : Int -> Option (Int ⊕ (Unit ⊕ Bool))} {n : Nat} (st : ∀ k : Nat, k < n -> f (k : Int) = some (.inl ((k + 1 : Nat) : Int))) (en : f (n : Int) = some (.inr (.inl ()))) : loop f 0 = some (.inl ()) :=
 B121 (f := f) (fun k => (k : Int)) (n := n) (a := Sum.inl ()) st en n 0 (by omega)
theorem B831 {l : List Int} (hl : l.length <= 1000000000) : Z75 l l = some true := by
 rw [Z75_eq, B257 (f := Z75l4 l l) (n := l.length) (fun k hk => by
  have hw : i64.wrap ((k : Int) + 1) = ((k + 1 : Nat) : Int) := w64 (by omega)
  unfold Z75l4
  simp only [A10, hk, A8, A6, A17, A15, A14, A5, A4, hw]) (by
  unfold Z75l4
  rw [A7 (by simp)])]
 simp only [A8, A14, A5, A4, A1, A43]
theorem B923 : ∀ (n : Nat) (l : List Outline), bulkL1 l <= n -> n <= 100000000 -> Z29 l l = some true := by
 intro n
 induction n using Nat.strongRecOn with
 | _ n ih =>
 intro l hn hb
 have hlen := B192 l
 rw [Z29_eq, Z50_eq, B257 (f := Z50l4 l l) (n := l.length) (fun k hk => by
  have hget : l[k]? = some l[k] := A18 hk
  have hbk := B110 hget
  have hkid := ih (bulkL1 l[k].kids) (by omega) _ (A11 _) (by omega)
  have hw : i64.wrap ((k : Int) + 1) = ((k + 1 : Nat) : Int) := w64 (by omega)
  have h1 : Z74 l[k].title l[k].page l[k].kids l[k].title l[k].page l[k].kids = some true := by
   rw [Z74_eq, hkid]
   simp only [A8, A6, A1]
  unfold Z50l4
  simp only [A10, hk, A8, A6, A17, A12, hget, A1, h1, A14, A5, A4, hw]) (by
  unfold Z50l4
  rw [A7 (by simp)])]
 simp only [A8, A14, A5, A4, A1, A43]
theorem B934 {l : List File} {o : List Outline} (hl : l.length <= 1000000) (hb : hvy l <= 100000) (ho : bulkL1 o <= 100000000) : Z11 l o l o = some true ∧ Z12 l o l o = some true := by
 have s1 := B1010 (bulkL1 o) o (A11 _) ho
 have s2 := B923 (bulkL1 o) o (A11 _) ho
 refine ⟨?_, ?_⟩
 ·rw [Z11_eq, s1, B257 (f := Z11l4 l l) (n := l.length) (fun k hk => by
   have hget : l[k]? = some l[k] := A18 hk
   have hw : i64.wrap ((k : Int) + 1) = ((k + 1 : Nat) : Int) := w64 (by omega)
   have hs : Z28 l[k].name l[k].kind l[k].data l[k].name l[k].kind l[k].data = some true := by
    rw [Z28_eq]
    simp only [A8, A6]
   unfold Z11l4
   simp only [A10, hk, A8, A6, A17, A12, hget, A1, hs, A14, A5, A4, hw]) (by
   unfold Z11l4
   rw [A7 (by simp)])]
  simp only [A8, A14, A5, A4, A1, A43]
 ·have hf : Z30 l l = some true := by
   rw [Z30_eq, B257 (f := Z30l4 l l) (n := l.length) (fun k hk => by
    have hget : l[k]? = some l[k] := A18 hk
    have hdl := (B344 l).2 _ (A92 hk)
    have hw : i64.wrap ((k : Int) + 1) = ((k + 1 : Nat) : Int) := w64 (by omega)
    have hs : Z51 l[k].name l[k].kind l[k].data l[k].name l[k].kind l[k].data = some true := by
     rw [Z51_eq, B831 (by omega)]
     simp only [A8, A6, A1]
    unfold Z30l4
    simp only [A10, hk, A8, A6, A17, A12, hget, A1, hs, A14, A5, A4, hw]) (by
    unfold Z30l4
    rw [A7 (by simp)])]
   simp only [A8, A14, A5, A4, A1, A43]
  rw [Z12_eq, s2, hf]
  simp only [A1, A6]
theorem nilOk : BookOk [] [] := ⟨by simp, by simp [bulkF], by simp [bulkL1], fun f h => by simp at h, .nil⟩
theorem B700 : dirT [] [] = [0, 0] := by
 have h := B209 (n := 0) (by omega)
 have z0 : ((0 : Nat) : Int) = 0 := rfl
 rw [z0] at h
 unfold dirT
 simp only [A35, dirL, obys, obyL, z0, h]
 rfl
theorem B657 : B114 [] [] = true := by decide
theorem B889 {d : List Int} {fs : List File} (h : fs.length <= 40) : 8 < (bytss [bookC d fs]).length := by
 rw [bytss_len _ (B175 (B506 h))]
 simp only [kszs, bookC, sz]
 rw [A3 trivial]
 omega
theorem B843 : Z14 [] [] 0 [97] 2 [] = some ([.mk [97] 2 []], [], 0) := by
 have v := (B443 (l := []) (o := []) nilOk.len nilOk.nm nilOk.outs).1
 rw [B657] at v
 have r := (B591 (f := .mk [97] 2 []) (by simp)).1
 have rb : fileB (.mk [97] 2 []) = true := by decide
 rw [rb] at r
 have i := (B201 (l := []) (nm := [97]) (by simp)).1
 have ho : Z52 [] = some [] := by
  have p := (B816 (l := []) (by simp [bulkL1])).1
  have ep : putO [] = (obys [], 0) := by unfold putO; rw [A3 (by decide)]
  have hob := B730 []
  have g := B343 (l := []) (by decide) (by simp only [bulkL1] at hob; omega)
  rw [Z52_eq, p, ep]
  simp only [A1, g]
 have hown : Z31 [] [] = some ([], []) := by
  rw [Z31_eq, ho]
  simp only [A1]
  rw [B4 (a := ([], [])) (by unfold Z31l3; rfl)]
  rfl
 rw [Z14_eq, v, r, i]
 simp only [A1, A14, A5, A4, A109, A9, A35, show ¬ ((0 : Int) > ((0 : Nat) : Int)) by omega, hown, B652 (l := []) (by simp), A43, Z33_eq]
 rfl
theorem B458 : Z2 = some true := by
 rcases B335 nilOk with ⟨hb, _⟩ | ⟨hv, ht, s, hp, hs, hcol, d1, d2, d3⟩
 ·rw [B657, B700] at hb
  rcases hb with h | h
  ·cases h
  ·simp at h
 ·have hlen : (packB (dirT [] []) s).length <= 1300 := by
   rw [B700] at d3 ⊢
   simp only [A21, A35] at d3
   omega
  obtain ⟨p1, _⟩ := B738 (fs := []) d1 d2 (by omega) (by simp [hvy]) (by simp)
  have hk : kszs [bookC (packB (dirT [] []) s) []] <= 60000 := by
   simp only [kszs, bookC, sz, A79]
   rw [A3 trivial, A7 (by decide)]
   omega
  have hr := B819 nilOk hv (by simp [hvy]) ht hp hs hcol d3 hk
  have hbig := B889 (d := packB (dirT [] []) s) (fs := []) (by simp)
  unfold putB at p1
  rw [A3 hk] at p1
  rw [Z2_eq, Z3_eq, p1]
  simp only [A1, hr, B843, A8, A6, A26]
  rw [decide_eq_true (show (((bytss [bookC (packB (dirT [] []) s) []]).length : Nat) : Int) > 8 by omega)]
  rfl
theorem B505 (l : List File) (o : List Outline) (h0 : GoodP E (.agg [.rows 0 l, .rows 1 o])) (hb : bulkA bulk (.agg [.rows 0 l, .rows 1 o]) <= 1048576) : Z0 l o = some true := by
 obtain ⟨gl, go, _⟩ := h0
 have e1 : sumL bulk0 l + bulkL1 o <= 1048576 := by
  have q1 := B359 (b := bulk) (i := 0) (f := bulk0) (fun _ => rfl) l
  have q2 := B359 (b := bulk) (i := 1) (f := bulk1) (fun _ => rfl) o
  have e : bulkA bulk (.agg [.rows 0 l, .rows 1 o]) = sumB bulk 0 l + 1 + (sumB bulk 1 o + 1 + 0) := rfl
  have hb2 : sumL bulk0 l + 1 + (sumL bulk1 o + 1 + 0) <= 1048576 := by rw [e, q1, q2] at hb; exact hb
  rw [B411]
  omega
 obtain ⟨s1, s2, s3⟩ := sumF l
 have hd : ∀ f ∈ l, Byt f.name := by
  intro f hf
  cases gl with
  | rows _ hr => exact B713 (hr f hf (.str f.name) (.head _))
 have hk : BookOk l o := ⟨by omega, by omega, by omega, hd, B903 _ o (A11 _) go⟩
 obtain ⟨v, hv, hsm⟩ := B980 e1
 rw [Z0_eq, hv]
 cases v with
 | true => simp only [A1, A6, B458]
 | false =>
  have hh := hsm rfl
  obtain ⟨v1, v2⟩ := B443 hk.len hk.nm hk.outs
  simp only [A1, A5, A4]
  rw [Z3_eq, Z5_eq, Z4_eq, Z6_eq]
  rcases B335 hk with ⟨_, e, he, d1, d2⟩ | ⟨hvf, ht, s, hp, hs, hcol, d1, d2, d3⟩
  ·obtain ⟨p1, p2⟩ := B817 (fs := l) he d1 d2
   obtain ⟨p3, p4⟩ := B817 (fs := []) he d1 d2
   rw [p1, p2, p3, p4]
   simp only [A1, A8, A14, A5, A4, Z7_eq, v1, v2, he, A9, A46, A6, B458]
  ·have hl : l.length <= 40 := by
    have := hvf
    unfold B114 at this
    simp only [A25, A20] at this
    exact this.1
   obtain ⟨p1, p2⟩ := B738 (fs := l) d1 d2 (by omega) (by omega) hl
   obtain ⟨p3, p4⟩ := B738 (fs := []) d1 d2 (by omega) (by simp [hvy]) (by simp)
   rw [p1, p2, p3, p4]
   simp only [A1, A8, A14, A5, A4, Z7_eq, v1, v2]
   by_cases hks : kszs [bookC (packB (dirT l o) s) l] <= 60000
   ·have hr := B819 hk hvf (by omega) ht hp hs hcol d3 hks
    obtain ⟨m1, m2⟩ := B934 (l := l) (o := o) hk.len (by omega) (by omega)
    have hpb : putB (packB (dirT l o) s) l = (bytss [bookC (packB (dirT l o) s) l], 0) := by unfold putB; rw [A3 hks]
    rw [hpb]
    simp only [A8, A14, A5, A4, hr, A1, A6, m1, m2, B458]
   ·have hpb : putB (packB (dirT l o) s) l = ([], 4) := by unfold putB; rw [A7 hks]
    rw [hpb]
    simp only [show ¬ ((4 : Int) = 0) by decide, A9, A46, A6, B458, A1]
end Go.Proofs.YtcphcfknnfibmaaGreat.P
