import Derived.Test.YtcphcfknnfibmaaGreatPure2
import Derived.Test.YtcphcfknnfibmaaGreatF
import Derived.KernelRfl
namespace Go.Proofs.YtcphcfknnfibmaaGreat.P
open Go Go.IntKind Go.Proofs.YtcphcfknnfibmaaGreat.V
set_option linter.unusedVariables false
set_option linter.unusedSimpArgs false
set_option linter.unusedSectionVars false
set_option maxRecDepth 100000
theorem Has.le {b l : List Int} {at_ : Nat} (h : Has b at_ l) (hl : at_ <= b.length) : at_ + l.length <= b.length := by
 by_cases h0 : l.length = 0
 ·omega
 ·have := B7 (h (l.length - 1) (l[l.length - 1]'(by omega)) (A15 (by omega)))
  omega
theorem Has.cut {b l : List Int} {at_ : Nat} (h : Has b at_ l) : cutL b at_ (at_ + l.length) = l := by
 unfold cutL
 refine A94 fun k => ?_
 rw [A49, A62]
 by_cases hk : k < l.length
 ·rw [A5 (by omega), h k l[k] (A15 hk), A15 hk]
 ·rw [A8 (by omega), A61 (by omega)]
theorem B516 {b : List Int} {n at_ : Nat} (h : Has b at_ (sizeL n)) : at_ + (sizeL n).length <= b.length := by
 have hl := B620 n
 have := B7 (h ((sizeL n).length - 1) ((sizeL n)[(sizeL n).length - 1]'(by omega)) (A15 (by omega)))
 omega
theorem B687 {low high many : Int} {b : List Int} {n at_ : Nat} (hn : n < 16384) (h1 : low <= (n : Int)) (h2 : (n : Int) <= high) (h : Has b at_ (sizeL n)) (hl : b.length <= 100000000) :
  Z111 low high b (at_ : Int) many 0 = some ((n : Int), b, ((at_ + (sizeL n).length : Nat) : Int), many, 0) := by
 have n1 : ¬ (n : Int) < low := by omega
 have n2 : ¬ (n : Int) > high := by omega
 rw [Z111_eq, Z111_b, B248 hn h hl]
 simp only [A7, A19, A4, A1, A6, A3, n1, n2, A9]
theorem B856 {many : Int} {b nm : List Int} {at_ : Nat} (hn : nm.length <= 200) (h : Has b at_ (sizeL nm.length ++ nm)) (hl : b.length <= 100000000) :
  Z112 b (at_ : Int) many 0 = some (nm, b, ((at_ + (sizeL nm.length).length + nm.length : Nat) : Int), many, 0) := by
 obtain ⟨g1, g2⟩ := h.app
 have hle := B516 g1
 have hle2 := g2.le hle
 rw [Z112_eq, Z112_b, B687 (by omega) (by omega) (by omega) g1 hl]
 simp only [A3, A7, A6]
 rw [w64 (n := ((b.length : Nat) : Int) - ((at_ + (sizeL nm.length).length : Nat) : Int)) (by omega)]
 have n1 : ¬ ((b.length : Nat) : Int) - ((at_ + (sizeL nm.length).length : Nat) : Int) < ((nm.length : Nat) : Int) := by omega
 simp only [n1, A9, A4, A1, A3, A7, A19]
 rw [w64 (n := ((at_ + (sizeL nm.length).length : Nat) : Int) + ((nm.length : Nat) : Int)) (by omega), w64 (by omega), A5 (by omega), A5 (by omega), show (((at_ + (sizeL nm.length).length : Nat) : Int) + ((nm.length : Nat) : Int) - ((nm.length : Nat) : Int)).toNat = at_ + (sizeL nm.length).length by omega, show (((at_ + (sizeL nm.length).length : Nat) : Int) + ((nm.length : Nat) : Int)).toNat = at_ + (sizeL nm.length).length + nm.length by omega, g2.cut]
 rfl
def B388 (l : List Outline) : Prop := ∀ (d many : Int) (b : List Int) (at_ : Nat), ofines l = true -> 1 <= d -> d + (odeps l : Int) <= 21 -> 0 <= many -> many + (ocnts l : Int) <= 400 -> Has b at_ (obys l) -> b.length <= 100000000 ->
 Z64 d b (at_ : Int) many 0 = some (l, b, ((at_ + (obys l).length : Nat) : Int), many + (ocnts l : Int), 0)
theorem B754 : ∀ l : List Outline, l.length <= ocnts l
 | [] => A11 _
 | .mk a b c :: l => by
  have := B754 l
  simp only [ocnts, ocnt, A28]
  omega
theorem B768 {d : Int} {b : List Int} (hd : 1 <= d) (hl : b.length <= 100000000) : ∀ (r : List Outline) (at_ : Nat) (many : Int) (out : List Outline), (∀ o ∈ r, B388 o.kids) -> ofines r = true -> d + (odeps r : Int) <= 21 -> 0 <= many -> many + (ocnts r : Int) <= 400 -> Has b at_ (obyL r) -> out.length + r.length <= 1000 ->
  loop (Z64l3 d) (((r.length : Nat) : Int), b, (at_ : Int), many, 0, out) = some (Sum.inl (b, ((at_ + (obyL r).length : Nat) : Int), many + (ocnts r : Int), 0, out ++ r))
 | [], at_, many, out, hk, hf, hdp, hm, hc, h, ho => by
  refine B4 ?_
  unfold Z64l3 Z64l3_b
  simp only [A58, show ¬ (((0 : Nat) : Int) > 0) by omega, A9, A4, A1, A3, obyL, ocnts, A36, A34]
  rw [show many + ((0 : Nat) : Int) = many by omega]
 | .mk title page kids :: r, at_, many, out, hk, hf, hdp, hm, hc, h, ho => by
  simp only [ofines, ofine, A42, A23] at hf
  obtain ⟨⟨hf1, hf2, hf3, hf4⟩, hf5⟩ := hf
  simp only [odeps, odep] at hdp
  simp only [ocnts, ocnt] at hc
  rw [A28] at ho
  obtain ⟨pn, rfl⟩ := A70 (show 0 <= page by omega)
  have eo : obyL (.mk title (pn : Int) kids :: r) = (sizeL title.length ++ title) ++ (sizeL pn ++ (obys kids ++ obyL r)) := by
   simp only [obyL, oby, obys]
   rw [B282 (n := title.length) (by omega), B282 (n := pn) (by omega)]
   simp only [A26]
  rw [eo] at h ⊢
  obtain ⟨h1, h2⟩ := h.app
  obtain ⟨h3, h4⟩ := h2.app
  obtain ⟨h5, h6⟩ := h4.app
  have g1 := B856 (many := many + 1) hf2 h1 hl
  have g2 := B687 (many := many + 1) (low := 1) (high := 1000) (n := pn) (by omega) (by omega) (by omega) h3 hl
  have g3 := hk _ (A21 ..) (d + 1) (many + 1) b _ hf1 (by omega) (by show d + 1 + (odeps kids : Int) <= 21; omega) (by omega) (by show many + 1 + (ocnts kids : Int) <= 400; omega) h5 hl
  have g4 := B768 hd hl r _ (many + 1 + (ocnts kids : Int)) (out ++ [.mk title (pn : Int) kids]) (fun o ho => hk o (A27 _ ho)) hf5 (by omega) (by omega) (by omega) h6 (by simp; omega)
  simp only [A18] at g2 g3 g4
  rw [← A52 at_] at g2 g3 g4
  have g3' : Z64 (d + 1) b ((at_ + (sizeL title.length).length + title.length + (sizeL pn).length : Nat) : Int) (many + 1) 0 = some (kids, b, ((at_ + (sizeL title.length).length + title.length + (sizeL pn).length + (obys kids).length : Nat) : Int), many + 1 + (ocnts kids : Int), 0) := g3
  have hfin : loop (Z64l3 d) (((r.length : Nat) : Int), b, ((at_ + (sizeL title.length).length + title.length + (sizeL pn).length + (obys kids).length : Nat) : Int), many + 1 + (ocnts kids : Int), 0, out ++ [.mk title (pn : Int) kids]) = some (Sum.inl (b, ((at_ + ((sizeL title.length ++ title) ++ (sizeL pn ++ (obys kids ++ obyL r))).length : Nat) : Int), many + (ocnts (.mk title (pn : Int) kids :: r) : Int), 0, out ++ .mk title (pn : Int) kids :: r)) := by
   rw [g4, A26]
   simp only [ocnts, ocnt, A18]
   rw [show many + 1 + (ocnts kids : Int) + (ocnts r : Int) = many + ((ocnts kids + 1 + ocnts r : Nat) : Int) by omega, show at_ + (sizeL title.length).length + title.length + (sizeL pn).length + (obys kids).length + (obyL r).length = at_ + ((sizeL title.length).length + title.length + ((sizeL pn).length + ((obys kids).length + (obyL r).length))) by omega]
   rfl
  rw [← hfin]
  refine B5 ?_
  have c1 : ¬ many + 1 > 400 := by omega
  have c2 : ¬ d > 20 := by omega
  have c3 : (((Outline.mk title (pn : Int) kids :: r).length : Nat) : Int) > 0 := by simp
  unfold Z64l3 Z64l3_b
  simp only [c3, A7, A6, A3]
  rw [w64 (n := many + 1) (by omega)]
  simp only [c1, c2, A9, A4, A1, A3, g1, g2]
  rw [w64 (n := d + 1) (by omega), g3']
  simp only [A3, A24]
  rw [A5 (by omega), w64 (by simp; omega), A28, show ((r.length + 1 : Nat) : Int) - 1 = ((r.length : Nat) : Int) by omega]
theorem B609 {l : List Outline} (hk : ∀ o ∈ l, B388 o.kids) : B388 l := by
 intro d many b at_ hf hd hdp hm hc h hl
 have hlen := B754 l
 have e : obys l = sizeL l.length ++ obyL l := by
  unfold obys
  rw [B282 (by omega)]
 rw [e] at h ⊢
 obtain ⟨h1, h2⟩ := h.app
 rw [Z64_eq, Z64_b, B687 (n := l.length) (by omega) (by omega) (by omega) h1 hl]
 simp only [A3]
 rw [B768 hd hl l _ many [] hk hf hdp hm hc h2 (by simp; omega), A18, ← A52]
 rfl
mutual
theorem B989 : ∀ o : Outline, B388 o.kids
 | .mk title page kids => B609 (kidsAll kids)
theorem kidsAll : ∀ l : List Outline, ∀ o ∈ l, B388 o.kids
 | [] => fun o h => by simp at h
 | o :: l => fun x hx => (A16.1 hx).elim (fun e => e ▸ B989 o) fun h => kidsAll l x h
end
theorem B561 {l : List Outline} (hv : B130 l = true) (hl : (obys l).length <= 100000000) : Z25 (obys l) = some (l, 0) := by
 unfold B130 at hv
 simp only [A42, A23] at hv
 obtain ⟨⟨h1, h2⟩, h3⟩ := hv
 have g := B609 (kidsAll l) 1 0 (obys l) 0 h1 (by omega) (by omega) (by omega) (by omega) (Has.all _) hl
 have z0 : ((0 : Nat) : Int) = 0 := rfl
 rw [z0] at g
 rw [Z25_eq, Z25_b, g]
 simp only [A3, A7, A19, A4, A1, A20, A107, A9]
def okn (c : Int) : Bool := (decide (97 <= c) && decide (c <= 122)) || ((decide (48 <= c) && decide (c <= 57)) || (decide (c = 46) || decide (c = 45)))
def nameB (s : List Int) : Bool := decide (1 <= s.length ∧ s.length <= 20) && s.all okn
theorem B853 {s : List Int} {k : Nat} {c : Int} (h : s[k]? = some c) (hl : s.length <= 1000000000) : Z70l2 s (k : Int) = if okn c = true then some (.inl ((k + 1 : Nat) : Int)) else some (.inr (.inr false)) := by
 have hlt := B7 h
 have w2 : i64.wrap ((k : Int) + 1) = ((k + 1 : Nat) : Int) := w64 (by omega)
 unfold Z70l2 okn
 simp only [A10, hlt, A7, A6, A17, A14, B21 h, w2, iteD]
 by_cases h1 : c < 97
 ·by_cases h2 : c < 48
  ·by_cases h3 : c = 46
   ·simp [h1, h2, h3]
   ·by_cases h4 : c = 45
    ·simp [h1, h2, h3, h4]
    ·simp [h1, h2, h3, h4, show ¬ 97 <= c by omega, show ¬ 48 <= c by omega]
  ·by_cases h5 : c > 57
   ·simp [h1, h2, h5, show ¬ 97 <= c by omega, show ¬ c <= 57 by omega, show ¬ c = 46 by omega, show ¬ c = 45 by omega]
   ·simp [h1, h2, h5, show 48 <= c by omega, show c <= 57 by omega]
 ·by_cases h6 : c > 122
  ·simp [h1, h6, show ¬ c < 48 by omega, show c > 57 by omega, show ¬ c <= 122 by omega, show ¬ c <= 57 by omega, show ¬ c = 46 by omega, show ¬ c = 45 by omega]
  ·simp [h1, h6, show 97 <= c by omega, show c <= 122 by omega]
theorem B808 {s : List Int} {k : Nat} {c : Int} (h : s[k]? = some c) (hl : s.length <= 1000000000) : Z89l4 s (k : Int) = if okn c = true then some (.inl ((k + 1 : Nat) : Int)) else some (.inr (.inr false)) := by
 have hlt := B7 h
 have w2 : i64.wrap ((k : Int) + 1) = ((k + 1 : Nat) : Int) := w64 (by omega)
 unfold Z89l4 okn
 simp only [A10, hlt, A7, A6, A17, A14, B21 h, w2, iteD]
 by_cases h1 : c ≥ 97
 ·by_cases h6 : c <= 122
  ·simp [h1, h6, show 97 <= c by omega]
  ·simp [h1, h6, show 97 <= c by omega, show c ≥ 48 by omega, show ¬ c <= 57 by omega, show ¬ c = 46 by omega, show ¬ c = 45 by omega]
 ·by_cases h2 : c ≥ 48
  ·by_cases h5 : c <= 57
   ·simp [h1, h2, h5, show ¬ 97 <= c by omega, show 48 <= c by omega]
   ·simp [h1, h2, h5, show ¬ 97 <= c by omega, show 48 <= c by omega, show ¬ c = 46 by omega, show ¬ c = 45 by omega]
  ·by_cases h3 : c = 46
   ·simp [h1, h2, h3]
   ·by_cases h4 : c = 45
    ·simp [h1, h2, h3, h4]
    ·simp [h1, h2, h3, h4, show ¬ 97 <= c by omega, show ¬ 48 <= c by omega]
theorem B528 {s : List Int} (hl : s.length <= 1000000000) : ∀ (r : List Int) (k : Nat), s.drop k = r ->
  loop (Z70l2 s) (k : Int) = some (if r.all okn = true then .inl () else .inr false) ∧ loop (Z89l4 s) (k : Int) = some (if r.all okn = true then .inl () else .inr false)
 | [], k, hd => by
  have hln := B64 hd
  refine ⟨B4 ?_, B4 ?_⟩
  ·unfold Z70l2
   simp only [A10, show ¬ k < s.length by omega, A9, A4, A1, List.all_nil, A6]
  ·unfold Z89l4
   simp only [A10, show ¬ k < s.length by omega, A9, A4, A1, List.all_nil, A6]
 | c :: r, k, hd => by
  obtain ⟨hget, hd', hlt⟩ := B47 hd
  obtain ⟨g1, g2⟩ := B528 hl r (k + 1) hd'
  have s1 := B853 hget hl
  have s2 := B808 hget hl
  cases hc : okn c with
  | true =>
   rw [hc, A5 rfl] at s1 s2
   rw [B5 s1, B5 s2, g1, g2]
   simp [hc]
  | false =>
   rw [hc] at s1 s2
   simp only [A4, A1] at s1 s2
   rw [B4 s1, B4 s2]
   simp [hc]
theorem B600 {s : List Int} (hl : s.length <= 1000000000) : Z70 s = some (nameB s) ∧ Z89 s = some (nameB s) := by
 obtain ⟨g1, g2⟩ := B528 hl s 0 rfl
 have z0 : ((0 : Nat) : Int) = 0 := rfl
 rw [z0] at g1 g2
 constructor
 ·rw [Z70_eq, Z70_b, g1]
  unfold nameB
  cases s.all okn with
  | false => simp
  | true =>
   simp only [A6, A3, A45, A106, iteD]
   by_cases h1 : 1 <= s.length
   ·simp [h1, show ((s.length : Nat) : Int) ≥ 1 by omega]; omega
   ·simp [h1, show ¬ ((s.length : Nat) : Int) ≥ 1 by omega]
 ·rw [Z89_eq, g2]
  unfold nameB
  by_cases h1 : 1 <= s.length
  ·by_cases h2 : s.length <= 20
   ·simp only [show ¬ ((s.length : Nat) : Int) < 1 by omega, show ¬ ((s.length : Nat) : Int) > 20 by omega, A9, A4, A1, A3, h1, h2, A32, A7, A84]
    cases s.all okn <;> rfl
   ·simp [h2, show ¬ ((s.length : Nat) : Int) < 1 by omega, show ((s.length : Nat) : Int) > 20 by omega]
  ·simp [h1, show ((s.length : Nat) : Int) < 1 by omega]
def fileB (f : File) : Bool := nameB f.name && decide (0 <= f.kind ∧ f.kind <= 2 ∧ f.data.length <= 60000)
theorem B758 {f : File} (hl : f.name.length <= 1000000000) : Z31 f.name f.kind f.data = some (fileB f) ∧ Z45 f.name f.kind f.data = some (fileB f) := by
 obtain ⟨g1, g2⟩ := B600 hl
 rw [Z31_eq, Z31_b, Z45_eq, g1, g2]
 unfold fileB
 simp only [A3, iteD]
 cases nameB f.name with
 | false => simp
 | true =>
  by_cases h1 : f.kind ≥ 0
  ·by_cases h2 : f.kind <= 2
   ·simp [h1, h2, show 0 <= f.kind from h1]; omega
   ·simp [h1, h2]
  ·simp [h1, show ¬ 0 <= f.kind from h1]
def seen (l : List File) (nm : List Int) : Bool := l.any fun f => decide (f.name = nm)
theorem B295 (f : File) (l : List File) (nm : List Int) : seen (f :: l) nm = (decide (f.name = nm) || seen l nm) := rfl
def posF : List File -> List Int -> Nat
 | [], _ => 0
 | f :: l, nm => if f.name = nm then 0 else posF l nm + 1
theorem B619 : ∀ (l : List File) (nm : List Int) (i : Nat), i <= l.length -> (seen (l.take i) nm = true ↔ posF l nm < i)
 | [], nm, i, h => by simp at h; subst h; simp [seen, posF]
 | f :: l, nm, 0, h => by simp [seen]
 | f :: l, nm, i + 1, h => by
  have := B619 l nm i (by simpa using h)
  by_cases hf : f.name = nm
  ·simp [seen, posF, hf]
  ·simp only [seen, List.take_succ_cons, List.any_cons, hf, A9, Bool.false_or, posF, A1] at this ⊢
   rw [this]; omega
theorem B510 {l : List File} {nm : List Int} (hl : l.length <= 1000000000) : ∀ (r : List File) (k : Nat), l.drop k = r ->
  loop (Z65l2 l) ((k : Int), nm) = some (if seen r nm = true then .inr (((k + posF r nm : Nat) : Int), nm) else .inl nm) ∧
  loop (Z90l2 l nm) (k : Int) = some (if seen r nm = true then .inr ((k + posF r nm : Nat) : Int) else .inl ())
 | [], k, hd => by
  have hln := B64 hd
  refine ⟨B4 ?_, B4 ?_⟩
  ·unfold Z65l2 Z65l2_b
   simp only [A10, show ¬ k < l.length by omega, A9, A4, A1, seen, List.any_nil]
  ·unfold Z90l2
   simp only [A10, show ¬ k < l.length by omega, A9, A4, A1, seen, List.any_nil]
 | f :: r, k, hd => by
  obtain ⟨hget, hd', hlt⟩ := B47 hd
  obtain ⟨g1, g2⟩ := B510 (nm := nm) hl r (k + 1) hd'
  have w2 : i64.wrap ((k : Int) + 1) = ((k + 1 : Nat) : Int) := w64 (by omega)
  have hn : (0 : Int) <= ((k : Nat) : Int) := A17 _
  by_cases hf : f.name = nm
  ·refine ⟨B4 ?_, B4 ?_⟩
   ·unfold Z65l2 Z65l2_b
    simp only [A10, hlt, A7, A6, hn, A12, hget, A3, Z113_eq, Z113_b, Z113_b, hf, seen, posF, List.any_cons, Bool.true_or, A34]
   ·unfold Z90l2
    simp only [A10, hlt, A7, A6, hn, A12, hget, A3, hf, seen, posF, List.any_cons, Bool.true_or, A34]
  ·constructor
   ·rw [B5 (s' := (((k + 1 : Nat) : Int), nm)), g1]
    ·simp only [B295, posF, hf, A9, Bool.false_or, A1]
     rw [show k + 1 + posF r nm = k + (posF r nm + 1) by omega]
    ·unfold Z65l2 Z65l2_b
     simp only [A10, hlt, A7, A6, hn, A12, hget, A3, Z113_eq, Z113_b, Z113_b, hf, A9, A4, A1, w2]
   ·rw [B5 (s' := ((k + 1 : Nat) : Int)), g2]
    ·simp only [B295, posF, hf, A9, Bool.false_or, A1]
     rw [show k + 1 + posF r nm = k + (posF r nm + 1) by omega]
    ·unfold Z90l2
     simp only [A10, hlt, A7, A6, hn, A12, hget, A3, hf, A9, A4, A1, w2]
theorem B356 {l : List File} {nm : List Int} (hl : l.length <= 1000000000) : Z26 l nm = some (if seen l nm = true then (posF l nm : Int) else -1) ∧ Z90 l nm = some (if seen l nm = true then (posF l nm : Int) else -1) := by
 obtain ⟨g1, g2⟩ := B510 (nm := nm) hl l 0 rfl
 have z0 : ((0 : Nat) : Int) = 0 := rfl
 rw [z0] at g1 g2
 rw [Z26_eq, Z26_b, Z65_eq, Z65_b, Z90_eq, g1, g2]
 cases seen l nm <;> simp
def nodF : List File -> List File -> Bool
 | _, [] => true
 | b, f :: r => !seen b f.name && nodF (b ++ [f]) r
def B199 (l : List File) (o : List Outline) : Bool := decide (l.length <= 40) && (B130 o && (l.all fileB && nodF [] l))
theorem B549 {l : List File} (hl : l.length <= 1000000) (hn : ∀ f ∈ l, f.name.length <= 1000000000) : ∀ (r : List File) (k : Nat), l.drop k = r ->
  loop (Z13l4 l) (k : Int) = some (if (r.all fileB && nodF (l.take k) r) = true then .inl () else .inr false)
 | [], k, hd => by
  have hln := B64 hd
  refine B4 ?_
  unfold Z13l4 Z13l4_b
  simp only [A10, show ¬ k < l.length by omega, A9, A4, A1, List.all_nil, nodF, Bool.and_self, A6]
 | f :: r, k, hd => by
  obtain ⟨hget, hd', hlt⟩ := B47 hd
  have g := B549 hl hn r (k + 1) hd'
  have w2 : i64.wrap ((k : Int) + 1) = ((k + 1 : Nat) : Int) := w64 (by omega)
  have h0 : (0 : Int) <= ((k : Nat) : Int) := A17 _
  have e1 := (B758 (f := f) (hn f (A38 hget))).1
  have e2 : cutL l 0 k = l.take k := by simp [cutL]
  have e3 := (B356 (l := l.take k) (nm := f.name) (by simp; omega)).1
  have et : l.take (k + 1) = l.take k ++ [f] := by rw [A116, hget]; rfl
  cases hf : fileB f with
  | false =>
   refine B4 ?_
   unfold Z13l4 Z13l4_b
   simp only [A10, hlt, A7, A6, h0, A12, hget, A3, e1, hf, A55, List.all_cons, A63, A4, A1]
  | true =>
   cases hs : seen (l.take k) f.name with
   | true =>
    rw [hs] at e3
    refine B4 ?_
    unfold Z13l4 Z13l4_b
    simp only [A10, hlt, A7, A6, h0, A12, hget, A3, e1, hf, A19, A4, A1, A14, show ((k : Nat) : Int) <= ((l.length : Nat) : Int) by omega, e2, e3, show ((posF (l.take k) f.name : Nat) : Int) ≥ 0 by omega, nodF, hs, A63, A118]
   | false =>
    rw [hs] at e3
    rw [B5 (s' := ((k + 1 : Nat) : Int)), g, et]
    ·simp only [List.all_cons, hf, A84, nodF, hs, A55]
    ·unfold Z13l4 Z13l4_b
     simp only [A10, hlt, A7, A6, h0, A12, hget, A3, e1, hf, A19, A4, A1, A14, show ((k : Nat) : Int) <= ((l.length : Nat) : Int) by omega, e2, e3, show ¬ (-1 : Int) ≥ 0 by omega, A9, w2]
theorem B469 {l : List File} (hl : l.length <= 1000000) (hn : ∀ f ∈ l, f.name.length <= 1000000000) : ∀ (r : List File) (k : Nat), l.drop k = r ->
  loop (Z17l2 l) (k : Int) = some (if r.all fileB = true then .inl () else .inr false)
 | [], k, hd => by
  have hln := B64 hd
  refine B4 ?_
  unfold Z17l2
  simp only [A10, show ¬ k < l.length by omega, A9, A4, A1, List.all_nil, A6]
 | f :: r, k, hd => by
  obtain ⟨hget, hd', hlt⟩ := B47 hd
  have g := B469 hl hn r (k + 1) hd'
  have w2 : i64.wrap ((k : Int) + 1) = ((k + 1 : Nat) : Int) := w64 (by omega)
  have h0 : (0 : Int) <= ((k : Nat) : Int) := A17 _
  have e1 := (B758 (f := f) (hn f (A38 hget))).2
  cases hf : fileB f with
  | false =>
   refine B4 ?_
   unfold Z17l2
   simp only [A10, hlt, A7, A6, h0, A12, hget, A3, e1, hf, A55, List.all_cons, A63, A4, A1]
  | true =>
   rw [B5 (s' := ((k + 1 : Nat) : Int)), g]
   ·simp only [List.all_cons, hf, A84]
   ·unfold Z17l2
    simp only [A10, hlt, A7, A6, h0, A12, hget, A3, e1, hf, A19, A4, A1, w2]
theorem B547 {l : List File} (hl : l.length <= 1000000) : ∀ (r : List File) (k : Nat), l.drop k = r ->
  loop (Z46l2 l) (k : Int) = some (if nodF (l.take k) r = true then .inl () else .inr true)
 | [], k, hd => by
  have hln := B64 hd
  refine B4 ?_
  unfold Z46l2
  simp only [A10, show ¬ k < l.length by omega, A9, A4, A1, nodF, A6]
 | f :: r, k, hd => by
  obtain ⟨hget, hd', hlt⟩ := B47 hd
  have g := B547 hl r (k + 1) hd'
  have w2 : i64.wrap ((k : Int) + 1) = ((k + 1 : Nat) : Int) := w64 (by omega)
  have h0 : (0 : Int) <= ((k : Nat) : Int) := A17 _
  have e3 := (B356 (l := l) (nm := f.name) (by omega)).2
  have hse : seen l f.name = true := by
   unfold seen
   rw [List.any_eq_true]
   exact ⟨f, A38 hget, by simp⟩
  rw [hse, A5 rfl] at e3
  have et : l.take (k + 1) = l.take k ++ [f] := by rw [A116, hget]; rfl
  have hst := B619 l f.name k (by omega)
  cases hs : seen (l.take k) f.name with
  | true =>
   have hp : posF l f.name < k := hst.1 hs
   refine B4 ?_
   unfold Z46l2
   simp only [A10, hlt, A7, A6, h0, A12, hget, A3, e3, hp, nodF, hs, A19, A63, A4, A1]
  | false =>
   have hp : ¬ posF l f.name < k := fun h => by rw [hst.2 h] at hs; cases hs
   rw [B5 (s' := ((k + 1 : Nat) : Int)), g, et]
   ·simp only [nodF, hs, A55, A84]
   ·unfold Z46l2
    simp only [A10, hlt, A7, A6, h0, A12, hget, A3, e3, hp, A9, A4, A1, w2]
theorem B877 {l : List File} {o : List Outline} (hl : l.length <= 1000000) (hn : ∀ f ∈ l, f.name.length <= 1000000000) (hb : bulkL1 o <= 10000000) : Z13 l o = some (B199 l o) ∧ Z17 l o = some (B199 l o) := by
 obtain ⟨o1, o2⟩ := B623 (l := o) (by omega)
 have g1 := B549 hl hn l 0 rfl
 have g2 := B469 hl hn l 0 rfl
 have g3 := B547 hl l 0 rfl
 have z0 : ((0 : Nat) : Int) = 0 := rfl
 rw [z0, A111] at g1 g3
 rw [z0] at g2
 constructor
 ·rw [Z13_eq, Z13_b, o1, g1]
  unfold B199
  by_cases h : l.length <= 40
  ·simp only [show ¬ ((l.length : Nat) : Int) > 40 by omega, A9, A4, A1, A3, h, A7, A84]
   cases B130 o <;> cases (l.all fileB && nodF [] l) <;> rfl
  ·simp [h, show ((l.length : Nat) : Int) > 40 by omega]
 ·rw [Z17_eq, Z46_eq, o2, g2, g3]
  unfold B199
  by_cases h : l.length <= 40
  ·simp only [show ((l.length : Nat) : Int) <= 40 by omega, A7, A6, A3, h, A84]
   cases B130 o <;> cases l.all fileB <;> cases nodF [] l <;> rfl
  ·simp only [h, show ¬ ((l.length : Nat) : Int) <= 40 by omega, A9, A63, A3]
   cases l.all fileB <;> rfl
theorem B493 {n : Int} {l : List Int} (hl : l.length <= 1000000000) : Z14 n l = some (szL n ++ l) := by
 obtain ⟨e, _, h, h5, _⟩ := B40 n
 rw [Z14_eq, Z14_b, h]
 simp only [A3]
 rw [A5 (by omega)]
theorem B700 (n : Int) : Z18 n = some (szL n) := by
 obtain ⟨e, h, _⟩ := B40 n
 rw [Z18_eq, h]; rfl
noncomputable def dirL : List File -> List Int
 | [] => []
 | f :: r => ([u8.wrap f.kind] ++ (szL f.name.length ++ (f.name ++ szL f.data.length))) ++ dirL r
def bulkF : List File -> Nat
 | [] => 0
 | f :: r => f.name.length + 11 + bulkF r
theorem B661 : ∀ l : List File, (dirL l).length <= bulkF l
 | [] => by simp [dirL, bulkF]
 | f :: r => by
  have := B661 r
  obtain ⟨_, _, _, a, _⟩ := B40 (f.name.length : Int)
  obtain ⟨_, _, _, b, _⟩ := B40 (f.data.length : Int)
  simp only [dirL, bulkF, A18, A24]
  omega
theorem B660 : ∀ l : List File, (∀ f ∈ l, Byt f.name) -> Byt (dirL l)
 | [], _ => fun x hx => by simp [dirL] at hx
 | f :: r, h => by
  obtain ⟨_, _, _, _, a, _⟩ := B40 (f.name.length : Int)
  obtain ⟨_, _, _, _, b, _⟩ := B40 (f.data.length : Int)
  have hk : Byt [u8.wrap f.kind] := fun x hx => by
   rw [A54] at hx; subst hx; rw [w8]; omega
  exact (hk.append (a.append ((h f (by simp)).append b))).append (B660 r fun g hg => h g (by simp [hg]))
theorem B589 {l : List File} (hl : l.length <= 1000000) : ∀ (r : List File) (k : Nat) (out : List Int), l.drop k = r -> out.length + bulkF r <= 1000000000 ->
  loop (Z3l5 l) ((k : Int), out) = some (out ++ dirL r) ∧ loop (Z4l5 l) ((k : Int), out) = some (out ++ dirL r)
 | [], k, out, hd, h1 => by
  have hln := B64 hd
  refine ⟨B4 ?_, B4 ?_⟩
  ·unfold Z3l5 Z3l5_b
   simp only [A10, show ¬ k < l.length by omega, A9, A4, A1, dirL, A36]
  ·unfold Z4l5
   simp only [A10, show ¬ k < l.length by omega, A9, A4, A1, dirL, A36]
 | f :: r, k, out, hd, h1 => by
  obtain ⟨hget, hd', hlt⟩ := B47 hd
  simp only [bulkF] at h1
  obtain ⟨_, _, _, a, _⟩ := B40 (f.name.length : Int)
  obtain ⟨_, _, _, b, _⟩ := B40 (f.data.length : Int)
  have w2 : i64.wrap ((k : Int) + 1) = ((k + 1 : Nat) : Int) := w64 (by omega)
  have h0 : (0 : Int) <= ((k : Nat) : Int) := A17 _
  obtain ⟨g1, g2⟩ := B589 hl r (k + 1) (out ++ ([u8.wrap f.kind] ++ (szL f.name.length ++ (f.name ++ szL f.data.length)))) hd' (by simp only [A18, A24]; omega)
  have s1 := B493 (n := (f.name.length : Int)) (l := f.name) (by omega)
  have s2 := B493 (n := (f.data.length : Int)) (l := []) (by simp)
  rw [A36] at s2
  constructor
  ·rw [B5 (s' := (((k + 1 : Nat) : Int), out ++ ([u8.wrap f.kind] ++ (szL f.name.length ++ (f.name ++ szL f.data.length))))), g1]
   ·simp only [dirL, A26]
   ·unfold Z3l5 Z3l5_b
    simp only [A10, hlt, A7, A6, h0, A12, hget, A3, s1, s2, w2, A24]
    rw [A5 (by omega), A5 (by simp only [A18, A24]; omega), A5 (by simp only [A18, A24]; omega)]
    simp only [A26]
  ·rw [B5 (s' := (((k + 1 : Nat) : Int), out ++ ([u8.wrap f.kind] ++ (szL f.name.length ++ (f.name ++ szL f.data.length))))), g2]
   ·simp only [dirL, A26]
   ·unfold Z4l5
    simp only [A10, hlt, A7, A6, h0, A12, hget, A3, B700, w2, A24]
    rw [A5 (by omega), A5 (by simp only [A18, A24]; omega), A5 (by simp only [A18, A24]; omega), A5 (by simp only [A18, A24]; omega)]
    simp only [A26]
structure BookOk (l : List File) (o : List Outline) : Prop where
 len : l.length <= 1000000
 bulk : bulkF l <= 100000000
 outs : bulkL1 o <= 10000000
 names : ∀ f ∈ l, Byt f.name
 texts : TxtO o
theorem BookOk.nm {l : List File} {o : List Outline} (h : BookOk l o) : ∀ f ∈ l, f.name.length <= 1000000000 := by
 have key : ∀ l : List File, ∀ f ∈ l, f.name.length <= bulkF l := by
  intro l
  induction l with
  | nil => intro f hf; simp at hf
  | cons g r ih =>
   intro f hf
   simp only [bulkF]
   rcases A16.1 hf with hf | hf
   ·subst hf; omega
   ·have := ih f hf; omega
 intro f hf
 have := key l f hf
 have := h.bulk
 omega
noncomputable def dirT (l : List File) (o : List Outline) : List Int := szL l.length ++ dirL l ++ obys o
theorem B484 {l : List File} {o : List Outline} (h : BookOk l o) : ∀ x ∈ dirT l o, 0 <= x ∧ x <= 255 := by
 obtain ⟨_, _, _, a, ab, _⟩ := B40 (l.length : Int)
 exact (ab.append (B660 l h.names)).append (B929 h.texts)
theorem B560 {l : List File} {o : List Outline} (h : BookOk l o) : (∃ e, e ≠ 0 ∧ Z3 l o = some ([], e) ∧ Z4 l o = some ([], e)) ∨
  (B199 l o = true ∧ (dirT l o).length <= 4000 ∧ ∃ s : List Int, s.Perm (iota ((dirT l o).length + 1)) ∧ s.Pairwise (leS (dirT l o)) ∧ Z75 (dirT l o) = some (s.map (colOf (dirT l o))) ∧
   Z3 l o = some (packB (dirT l o) s, 0) ∧ Z4 l o = some (packB (dirT l o) s, 0) ∧ (packB (dirT l o) s).length <= 20000000) := by
 obtain ⟨v1, v2⟩ := B877 h.len h.nm h.outs
 rw [Z3_eq, Z3_b, Z4_eq, v1, v2]
 cases hv : B199 l o with
 | false => exact .inl ⟨110, by decide, rfl, rfl⟩
 | true =>
  have hvo : B130 o = true := by
   unfold B199 at hv
   simp only [A42] at hv
   exact hv.2.1
  obtain ⟨p1, p2⟩ := B977 h.outs
  have ep : putO o = (obys o, 0) := by unfold putO; rw [A5 hvo]
  rw [ep] at p1 p2
  have hob := B930 o
  obtain ⟨_, _, _, a, ab, _⟩ := B40 (l.length : Int)
  have hb := h.bulk
  have ho := h.outs
  obtain ⟨g1, g2⟩ := B589 h.len l 0 (szL l.length) rfl (by omega)
  have z0 : ((0 : Nat) : Int) = 0 := rfl
  rw [z0] at g1 g2
  have s1 := B493 (n := (l.length : Int)) (l := []) (by simp)
  rw [A36] at s1
  have hdl := B661 l
  have hpk := B860 (B484 h)
  have c1 : ((szL (l.length : Int) ++ dirL l).length + (obys o).length) * 1 <= 140737488355328 := by simp only [A18]; omega
  rcases hpk with ⟨_, q1, q2⟩ | ⟨ht, s, s1', s2, s3, q1, q2, q3⟩
  ·refine .inl ⟨4, by decide, ?_, ?_⟩
   ·simp only [A3, A19, A4, A1, s1, g1, p1]
    rw [A5 c1, show szL (l.length : Int) ++ dirL l ++ obys o = dirT l o from rfl, q1]; rfl
   ·simp only [A3, A19, A4, A1, B700, g2, p2]
    rw [A5 c1, show szL (l.length : Int) ++ dirL l ++ obys o = dirT l o from rfl, q2]; rfl
  ·refine .inr ⟨rfl, ht, s, s1', s2, s3, ?_, ?_, q3⟩
   ·simp only [A3, A19, A4, A1, s1, g1, p1]
    rw [A5 c1, show szL (l.length : Int) ++ dirL l ++ obys o = dirT l o from rfl, q1]; rfl
   ·simp only [A3, A19, A4, A1, B700, g2, p2]
    rw [A5 c1, show szL (l.length : Int) ++ dirL l ++ obys o = dirT l o from rfl, q2]; rfl
theorem B180 {err : Int} {b : List Int} {a : Int} : Z23 true err b a 0 = some (true, b, a, 0) := by rw [Z23_eq, Z23_b]; rfl
theorem B482 {n : Nat} (hn : n < 16384) {b : List Int} {at_ : Nat} (h : Has b at_ (sizeL n)) (hl : b.length <= 100000000) : Z22 b (at_ : Int) 0 = some ((n : Int), b, ((at_ + (sizeL n).length : Nat) : Int), 0) := by
 rw [Z22_eq, Z22_b, B248 hn h hl]
 simp only [A7, A19, A4, A1, A3, B180, A6]
theorem B654 {b x : List Int} {at_ : Nat} (h : Has b at_ x) (hat : at_ <= b.length) (hl : b.length <= 100000000) : Z62 (x.length : Int) b (at_ : Int) 0 = some (x, b, ((at_ + x.length : Nat) : Int), 0) := by
 have hle := h.le hat
 rw [Z62_eq, Z62_b]
 try simp only
 rw [w64 (n := ((b.length : Nat) : Int) - (at_ : Int)) (by omega), decide_eq_true (show ((x.length : Nat) : Int) <= ((b.length : Nat) : Int) - (at_ : Int) by omega), B180]
 simp only [A3, A19, A4, A1]
 rw [w64 (n := (at_ : Int) + ((x.length : Nat) : Int)) (by omega), w64 (by omega), A5 (by omega), A5 (by omega), show ((at_ : Int) + ((x.length : Nat) : Int) - ((x.length : Nat) : Int)).toNat = at_ by omega, show ((at_ : Int) + ((x.length : Nat) : Int)).toNat = at_ + x.length by omega, h.cut]
 rfl
theorem B890 {b nm : List Int} {at_ : Nat} (hn : nameB nm = true) (h : Has b at_ (sizeL nm.length ++ nm)) (hl : b.length <= 100000000) : Z63 b (at_ : Int) 0 = some (nm, b, ((at_ + (sizeL nm.length).length + nm.length : Nat) : Int), 0) := by
 obtain ⟨h1, h2⟩ := h.app
 have hnl : nm.length <= 20 := by
  unfold nameB at hn
  simp only [A42, A23] at hn
  exact hn.1.2
 rw [Z63_eq, Z63_b, B482 (by omega) h1 hl]
 simp only [A3]
 rw [decide_eq_true (show ((nm.length : Nat) : Int) <= 20 by omega), B180]
 simp only [A3]
 rw [B654 h2 (B516 h1) hl]
 simp only [A3, (B600 (s := nm) (by omega)).1, hn, B180]
theorem B888 {b : List Int} {f : File} {at_ : Nat} (hf : fileB f = true) (hd : f.data.length < 16384) (h : Has b at_ ([u8.wrap f.kind] ++ (szL f.name.length ++ (f.name ++ szL f.data.length)))) (hat : at_ <= b.length) (hl : b.length <= 100000000) :
  Z24 b (at_ : Int) 0 = some (f.name, f.kind, [], (f.data.length : Int), b, ((at_ + ([u8.wrap f.kind] ++ (szL f.name.length ++ (f.name ++ szL f.data.length))).length : Nat) : Int), 0) := by
 unfold fileB at hf
 simp only [A42, A23] at hf
 obtain ⟨hn, k0, k2, _⟩ := hf
 have hnl : f.name.length <= 20 := by
  unfold nameB at hn
  simp only [A42, A23] at hn
  exact hn.1.2
 have hk : u8.wrap f.kind = f.kind := by rw [w8]; omega
 rw [hk, B282 (n := f.name.length) (by omega), B282 (n := f.data.length) (by omega), ← A26 (sizeL _)] at h ⊢
 obtain ⟨h1, h2⟩ := h.app
 obtain ⟨h3, h4⟩ := h2.app
 have t1 := B654 h1 hat hl
 have t2 := B890 hn h3 hl
 have t3 := B482 hd h4 hl
 simp only [A18, A24] at t1 t2 t3 ⊢
 rw [show ((1 : Nat) : Int) = 1 from rfl] at t1
 rw [← A52 (at_ + 1)] at t3
 rw [Z24_eq, Z24_b, t1]
 simp only [A3, A24]
 rw [decide_eq_true (show ((1 : Nat) : Int) = 1 from rfl), A5 rfl, A5 (by omega)]
 rw [show rd [f.kind] 0 = f.kind from rfl, decide_eq_true k2, B180]
 simp only [A3, A19, A4, A1]
 rw [A5 (by omega), t2]
 simp only [A3, t3]
 rw [w64 (n := f.kind) (by omega), show at_ + 1 + (sizeL f.name.length).length + f.name.length + (sizeL f.data.length).length = at_ + (1 + ((sizeL f.name.length).length + f.name.length + (sizeL f.data.length).length)) by omega]
def nakF (f : File) : File := File.mk f.name f.kind []
theorem B755 {b : List Int} (hl : b.length <= 100000000) {n : Nat} : ∀ (r : List File) (k at_ : Nat) (fs : List File) (zs : List Int), k + r.length = n -> n <= 40 -> (∀ f ∈ r, fileB f = true ∧ f.data.length < 16384) -> Has b at_ (dirL r) -> at_ <= b.length -> fs.length + r.length <= 100 -> zs.length + r.length <= 100 ->
  loop (Z6l10 (n : Int)) ((k : Int), b, (at_ : Int), 0, fs, zs) = some (b, ((at_ + (dirL r).length : Nat) : Int), 0, fs ++ r.map nakF, zs ++ r.map fun f => (f.data.length : Int))
 | [], k, at_, fs, zs, hk, hn, hf, h, hat, h1, h2 => by
  refine B4 ?_
  have : ¬ (k : Int) < (n : Int) := by simp at hk; omega
  unfold Z6l10 Z6l10_b
  simp only [this, A9, A4, A1, dirL, A58, A34, A97, A36]
 | f :: r, k, at_, fs, zs, hk, hn, hf, h, hat, h1, h2 => by
  rw [A28] at hk h1 h2
  obtain ⟨g1, g2⟩ := h.app
  obtain ⟨f1, f2⟩ := hf f (A21 ..)
  have t := B888 f1 f2 g1 hat hl
  have ih := B755 hl r (k + 1) _ (fs ++ [nakF f]) (zs ++ [(f.data.length : Int)]) (by omega) hn (fun x hx => hf x (A27 _ hx)) g2 (g1.le hat) (by simp; omega) (by simp; omega)
  rw [A26, A26, A52 at_, ← A18] at ih
  refine Eq.trans ?_ ih
  refine B5 ?_
  unfold Z6l10 Z6l10_b
  simp only [show (k : Int) < (n : Int) by omega, A7, A6, A19, A4, A1, t, A3, A24]
  rw [A5 (by omega), A5 (by omega), w64 (n := (k : Int) + 1) (by omega)]
  rfl
theorem B703 : ∀ (l : List File) (nm : List Int), seen (l.map nakF) nm = seen l nm
 | [], _ => rfl
 | f :: l, nm => by rw [A57, B295, B295, B703 l nm]; rfl
theorem B855 : ∀ (r b : List File) (k : Nat) (f : File), nodF b r = true -> r[k]? = some f -> seen (b ++ r.take k) f.name = false
 | x :: r, b, 0, f, h, hk => by
  simp at hk
  subst hk
  rw [nodF, A42] at h
  simpa using h.1
 | x :: r, b, k + 1, f, h, hk => by
  rw [nodF, A42] at h
  have := B855 r (b ++ [x]) k f h.2 (by simpa using hk)
  rw [A26] at this
  exact this
theorem B814 {l : List File} (hl : l.length <= 40) (hn : nodF [] l = true) : loop (Z6l21 (l.map nakF)) 0 = some (Sum.inl ()) := by
 refine B181 (f := Z6l21 (l.map nakF)) (fun k => (k : Int)) (n := l.length) (fun k hk => ?_) ?_ l.length 0 (by omega)
 ·have hget : (l.map nakF)[k]? = some (nakF l[k]) := by rw [A41, A15 hk]; rfl
  have hs := B855 l [] k l[k] hn (A15 hk)
  rw [A25, ← B703, List.map_take] at hs
  have hi := (B356 (l := (l.map nakF).take k) (nm := l[k].name) (by simp; omega)).1
  rw [hs, A8 (by decide)] at hi
  unfold Z6l21 Z6l21_b
  simp only [A48, A10, hk, A7, A6, A17, A14, A12, hget, A3, List.drop_zero, Nat.sub_zero]
  rw [A5 (by omega)]
  simp only [show (nakF l[k]).name = l[k].name from rfl, hi, A3, show ¬ ((-1 : Int) ≥ 0) by decide, A9, A4, A1]
  rw [w64 (n := (k : Int) + 1) (by omega)]
  rfl
 ·unfold Z6l21 Z6l21_b
  simp only [A48, A107, A9, A4, A1]
theorem B832 {t s : List Int} (hb : ∀ x ∈ t, 0 <= x ∧ x <= 255) (hp : s.Perm (iota (t.length + 1))) : ∀ x ∈ s.map (colOf t), 0 <= x ∧ x < 257 := fun x hx => by
 obtain ⟨y, hy, rfl⟩ := A59.1 hx
 have := B65.1 (hp.mem_iff.1 hy)
 unfold colOf
 split
 ·omega
 ·have := hb _ (rd_mem (l := t) (i := y - 1) (by omega) (by omega)); omega
theorem B515 {l : List File} {o : List Outline} (h : BookOk l o) (hv : B199 l o = true) (hd : ∀ f ∈ l, f.data.length < 16384) (ht : (dirT l o).length <= 4000) {s : List Int} (hp : s.Perm (iota ((dirT l o).length + 1))) (hs : s.Pairwise (leS (dirT l o))) (hcol : Z75 (dirT l o) = some (s.map (colOf (dirT l o)))) (hlen : (packB (dirT l o) s).length <= 20000000) :
  Z6 (packB (dirT l o) s) = some (l.map (fun f => (f.data.length : Int)), o, 0, l.map nakF) := by
 have hu := B874 (B484 h) ht hp hs hcol (B832 (B484 h) hp) hlen
 unfold B199 at hv
 simp only [A42, A23] at hv
 obtain ⟨hl, hvo, hfs, hnd⟩ := hv
 have hz := B282 (n := l.length) (by omega)
 have e : dirT l o = sizeL l.length ++ (dirL l ++ obys o) := by
  unfold dirT
  rw [hz, A26]
 rw [Z6_eq, Z6_b, hu]
 rw [e] at ht ⊢
 have h0 : Has (sizeL l.length ++ (dirL l ++ obys o)) 0 (sizeL l.length ++ (dirL l ++ obys o)) := Has.all _
 obtain ⟨h1, h2⟩ := h0.app
 obtain ⟨h3, h4⟩ := h2.app
 have t1 := B482 (n := l.length) (by omega) h1 (by omega)
 have t2 := B755 (n := l.length) (by omega) l 0 _ [] [] (by omega) hl (fun f hf => ⟨A105.1 hfs f hf, hd f hf⟩) h3 (by simp) (by simp; omega) (by simp; omega)
 have z0 : ((0 : Nat) : Int) = 0 := rfl
 rw [A20] at t1 t2 h4
 rw [z0] at t1 t2
 have hcut : cutL (sizeL l.length ++ (dirL l ++ obys o)) ((sizeL l.length).length + (dirL l).length) (sizeL l.length ++ (dirL l ++ obys o)).length = obys o := by
  have := h4.cut
  rw [show (sizeL l.length ++ (dirL l ++ obys o)).length = (sizeL l.length).length + (dirL l).length + (obys o).length by simp only [A18]; omega]
  exact this
 have hol : (obys o).length <= 100000000 := by simp only [A18] at ht; omega
 simp only [A3, A7, A19, A4, A1, t1]
 rw [decide_eq_true (show ((l.length : Nat) : Int) <= 40 by omega), B180]
 simp only [A3, t2, A7, A19, A4, A1, A25]
 rw [A5 (by simp only [A18]; omega), A12, hcut, B561 hvo hol]
 simp only [A3, A7, A19, A4, A1, B814 hl hnd, A45]
theorem B701 : Z2 = some true := Z2_F_le 300 _ (by kernel_rfl)
theorem B673 {s : List Int} (h : V.Good E (.str s)) : Byt s := by
 cases h with | str _ h => exact h
theorem B1026 {b : List Int} (h : V.Good E (.ints .u8 b)) : Byt b := by
 cases h with
 | ints h1 _ => intro x hx; simpa [IntKind.has, IntKind.min, IntKind.max, IntKind.signed, IntKind.bits] using h1 x hx
theorem B841 : ∀ (n : Nat) (o : List Outline), bulkL1 o <= n -> V.Good E (.rows 1 o) -> TxtO o := by
 intro n
 induction n using Nat.strongRecOn with
 | _ n ih =>
 intro o hn hg
 cases o with
 | nil => exact .nil
 | cons x l =>
  cases hg with
  | rows hl hr =>
   cases x with
   | mk t p k =>
    have h0 := hr (Outline.mk t p k) (A21 ..)
    have ht : V.Good E (.str t) := h0 (.str t) (.head _)
    have hk : V.Good E (.rows 1 k) := h0 (.rows 1 k) (.tail _ (.tail _ (.head _)))
    simp only [bulkL1, bulk1] at hn
    refine .cons (B673 ht) (ih (bulkL1 k) (by omega) k (A11 _) hk) (ih (bulkL1 l) (by omega) l (A11 _) ?_)
    exact .rows (Nat.le_of_succ_le hl) fun y hy => hr y (A27 _ hy)
theorem sumF : ∀ l : List File, bulkF l <= 4 * sumL bulk0 l ∧ 3 * l.length <= sumL bulk0 l ∧ ∀ f ∈ l, f.data.length <= sumL bulk0 l
 | [] => by simp [bulkF, sumL]
 | f :: r => by
  obtain ⟨h1, h2, h3⟩ := sumF r
  simp only [bulkF, sumL, A28, bulk0]
  refine ⟨by omega, by omega, fun g hg => ?_⟩
  rcases A16.1 hg with hg | hg
  ·subst hg; omega
  ·have := h3 g hg; omega
theorem B943 : ∀ (n : Nat) (l : List Outline), bulkL1 l <= n -> n <= 100000000 -> Z7 l l = some true := by
 intro n
 induction n using Nat.strongRecOn with
 | _ n ih =>
 intro l hn hb
 have hlen := B209 l
 have := B181 (f := Z7l4 l l) (fun k => (k : Int)) (n := l.length) (a := Sum.inl ()) (fun k hk => by
  have hget : l[k]? = some l[k] := A15 hk
  have hbk := B120 hget
  have hkid := ih (bulkL1 l[k].kids) (by omega) _ (A11 _) (by omega)
  unfold Z7l4
  simp only [A10, hk, A7, A6, A17, A12, hget, A3, A19, A4, A1, hkid]
  rw [w64 (n := (k : Int) + 1) (by omega)]
  rfl) (by
  unfold Z7l4
  simp only [A107, A9, A4, A1]) l.length 0 (by omega)
 have z0 : ((0 : Nat) : Int) = 0 := rfl
 rw [z0] at this
 rw [Z7_eq, this]
 simp only [A7, A19, A4, A1, A3, A45]
theorem B546 : ∀ {l : List Outline} {i : Nat} {o : Outline}, l[i]? = some o -> o.title.length <= bulkL1 l
 | x :: l, 0, o, h => by
  simp at h; subst h
  cases x
  simp only [bulkL1, bulk1]; omega
 | x :: l, i + 1, o, h => by
  simp at h
  have := B546 h
  simp only [bulkL1]; omega
theorem B983 : ∀ (n : Nat) (l : List Outline), bulkL1 l <= n -> n <= 1048576 -> ∀ deep left : Int, 0 <= deep -> deep <= 40 -> -2000000 <= left -> left <= 3000 -> ∃ r, Z9 l deep left = some r ∧ -2000000 <= r ∧ r <= 3000 := by
 intro n
 induction n using Nat.strongRecOn with
 | _ n ih =>
 intro l hn hb deep left d0 d1 h0 h1
 have hlen := B209 l
 rw [Z9_eq]
 by_cases hd : deep = 0
 ·exact ⟨-1, by simp [hd], by omega, by omega⟩
 ·have go : ∀ (d k : Nat) (left : Int), k + d = l.length -> -2000000 <= left -> left <= 3000 -> ∃ r, loop (Z9l4 l deep) (left, (k : Int)) = some r ∧ -2000000 <= r ∧ r <= 3000 := by
   intro d
   induction d with
   | zero =>
    intro k left hk a0 a1
    refine ⟨left, B4 ?_, a0, a1⟩
    unfold Z9l4
    simp only [show ¬ ((k : Int) < ((l.length : Nat) : Int)) by omega, A9, A4, A1, A3]
   | succ d ihd =>
    intro k left hk a0 a1
    have hk' : k < l.length := by omega
    by_cases hneg : left ≥ 0
    ·have hget : l[k]? = some l[k] := A15 hk'
     have hbk := B120 hget
     have htl := B546 hget
     obtain ⟨q, q1, q2, q3⟩ := ih (bulkL1 l[k].kids) (by omega) _ (A11 _) (by omega) (deep - 1) (left - 1 - (l[k].title.length : Int)) (by omega) (by omega) (by omega) (by omega)
     obtain ⟨r, r1, r2⟩ := ihd (k + 1) q (by omega) q2 q3
     refine ⟨r, ?_, r2⟩
     rw [← r1]
     refine B5 ?_
     unfold Z9l4
     simp only [A10, hk', hneg, A7, A6, A17, A12, hget, A3]
     rw [w64 (n := deep - 1) (by omega), w64 (n := left - 1) (by omega), w64 (n := left - 1 - (l[k].title.length : Int)) (by omega), q1]
     simp only [A3]
     rw [w64 (n := (k : Int) + 1) (by omega)]
     rfl
    ·refine ⟨left, B4 ?_, a0, a1⟩
     unfold Z9l4
     simp only [A10, hk', hneg, A7, A9, A6, A4, A1, A3]
  obtain ⟨r, r1, r2⟩ := go l.length 0 left (by omega) h0 h1
  have z0 : ((0 : Nat) : Int) = 0 := rfl
  rw [z0] at r1
  refine ⟨r, ?_, r2⟩
  simp only [hd, A9, A4, A1, r1, A3]
def hvy : List File -> Nat
 | [] => 0
 | f :: r => 20 + f.data.length + f.name.length + hvy r
theorem B843 : ∀ l : List File, hvy l <= 7 * sumL bulk0 l ∧ ∀ f ∈ l, f.data.length <= hvy l
 | [] => by simp [hvy]
 | f :: r => by
  obtain ⟨h1, h2⟩ := B843 r
  simp only [hvy, sumL, bulk0]
  refine ⟨by omega, fun g hg => ?_⟩
  rcases A16.1 hg with hg | hg
  ·subst hg; omega
  ·have := h2 g hg; omega
theorem B517 {l : List File} : ∀ (r : List File) (k n : Nat), l.drop k = r -> n + hvy r <= 1000000000 -> k + r.length <= 1000000000 -> loop (Z1l3 l) ((n : Int), (k : Int)) = some ((n + hvy r : Nat) : Int)
 | [], k, n, hd, h, hk => by
  have hln := B64 hd
  refine B4 ?_
  unfold Z1l3
  simp only [A10, show ¬ k < l.length by omega, A9, A4, A1, hvy, A34]
 | f :: r, k, n, hd, h, hk => by
  obtain ⟨hget, hd', hlt⟩ := B47 hd
  simp only [hvy] at h ⊢
  rw [A28] at hk
  have ih := B517 r (k + 1) (n + 20 + f.data.length + f.name.length) hd' (by omega) (by omega)
  rw [show n + (20 + f.data.length + f.name.length + hvy r) = n + 20 + f.data.length + f.name.length + hvy r by omega, ← ih]
  refine B5 ?_
  unfold Z1l3
  simp only [A10, hlt, A7, A6, A17, A12, hget, A3]
  rw [w64 (n := (n : Int) + 20) (by omega), w64 (n := (n : Int) + 20 + (f.data.length : Int)) (by omega), w64 (n := (n : Int) + 20 + (f.data.length : Int) + (f.name.length : Int)) (by omega), w64 (n := (k : Int) + 1) (by omega)]
  rfl
theorem B912 {l : List File} {o : List Outline} (h : sumL bulk0 l + bulkL1 o <= 1048576) : ∃ v, Z1 l o = some v ∧ (v = false -> ∀ f ∈ l, f.data.length <= 5000) := by
 obtain ⟨h1, h2⟩ := B843 l
 obtain ⟨_, s2, _⟩ := sumF l
 have hlp := B517 (l := l) l 0 0 rfl (by omega) (by omega)
 obtain ⟨q, q1, _⟩ := B983 (bulkL1 o) o (A11 _) (by omega) 40 3000 (by omega) (by omega) (by omega) (by omega)
 have z0 : ((0 : Nat) : Int) = 0 := rfl
 rw [z0, A20] at hlp
 rw [Z1_eq, hlp]
 simp only [A3]
 by_cases hh : ((hvy l : Nat) : Int) > 5000
 ·exact ⟨true, by simp [hh], fun e => by cases e⟩
 ·refine ⟨decide (q < 0), by simp only [hh, A9, A4, A1, q1, A3], fun _ f hf => ?_⟩
  have := h2 f hf
  omega
theorem B952 {l : List File} (hl : l.length <= 1000000) : loop (Z0l13 l (l.map fun f => (f.data.length : Int)) (l.map nakF)) 0 = some (Sum.inl ()) := by
 have st : ∀ k, k < l.length -> Z0l13 l (l.map fun f => (f.data.length : Int)) (l.map nakF) (k : Int) = some (.inl ((k + 1 : Nat) : Int)) := fun k hk => by
  have hget : l[k]? = some l[k] := A15 hk
  have hn : (l.map nakF)[k]? = some (nakF l[k]) := by rw [A41, hget]; rfl
  have hz : rd (l.map fun f => (f.data.length : Int)) (k : Int) = (l[k].data.length : Int) := B21 (by rw [A41, hget]; rfl)
  have hs : Z8 (nakF l[k]).name (nakF l[k]).kind (nakF l[k]).data l[k].name l[k].kind [] = some true := by
   rw [Z8_eq]
   simp only [nakF, A7, A6]
  have hw : i64.wrap ((k : Int) + 1) = ((k + 1 : Nat) : Int) := w64 (by omega)
  have h0 : (0 : Int) <= (k : Int) := by omega
  have h1 : (k : Int) < (((l.map nakF).length : Nat) : Int) := by simp; omega
  have h2 : (k : Int) < (((l.map fun f => (f.data.length : Int)).length : Nat) : Int) := by simp; omega
  unfold Z0l13
  rw [A5 (decide_eq_true h1), A5 ⟨h0, h1⟩, A12, hn]
  simp only [A3]
  rw [A5 h0, hget]
  simp only [A3]
  rw [A5 h0, hs]
  simp only [A3, A19, A4, A1]
  rw [A5 ⟨h0, h2⟩, A5 h0, hz]
  simp only [A7, A19, A4, A1, hw]
 have en : Z0l13 l (l.map fun f => (f.data.length : Int)) (l.map nakF) ((l.length : Nat) : Int) = some (.inr (.inl ())) := by
  unfold Z0l13
  rw [A8 (by simp)]
 generalize Z0l13 l (l.map fun f => (f.data.length : Int)) (l.map nakF) = g at st en ⊢
 exact B181 (f := g) (fun k => (k : Int)) (n := l.length) (a := Sum.inl ()) st en l.length 0 (by omega)
theorem B345 (l : List File) (o : List Outline) (h0 : GoodP E (.agg [.rows 0 l, .rows 1 o])) (hb : bulkA bulk (.agg [.rows 0 l, .rows 1 o]) <= 1048576) : Z0 l o = some true := by
 obtain ⟨gl, go, _⟩ := h0
 have e1 : sumL bulk0 l + bulkL1 o <= 1048576 := by
  have q1 := B343 (b := bulk) (i := 0) (f := bulk0) (fun _ => rfl) l
  have q2 := B343 (b := bulk) (i := 1) (f := bulk1) (fun _ => rfl) o
  have e : bulkA bulk (.agg [.rows 0 l, .rows 1 o]) = sumB bulk 0 l + 1 + (sumB bulk 1 o + 1 + 0) := rfl
  have hb2 : sumL bulk0 l + 1 + (sumL bulk1 o + 1 + 0) <= 1048576 := by rw [e, q1, q2] at hb; exact hb
  rw [B394]
  omega
 obtain ⟨s1, s2, s3⟩ := sumF l
 have hd : ∀ f ∈ l, Byt f.name := by
  intro f hf
  cases gl with
  | rows _ hr => exact B673 (hr f hf (.str f.name) (.head _))
 have hk : BookOk l o := ⟨by omega, by omega, by omega, hd, B841 _ o (A11 _) go⟩
 obtain ⟨v, hv, hsm⟩ := B912 e1
 rw [Z0_eq, hv]
 cases v with
 | true => simp only [A3, A6, B701]
 | false =>
  simp only [A3, A4, A1]
  rcases B560 hk with ⟨e, he, d1, d2⟩ | ⟨hvf, ht, s, hp, hs, hcol, d1, d2, d3⟩
  ·rw [d1, d2]
   simp only [A3, A7, A19, A4, A1, Z5_eq, he, A9, A55, A6, B701]
  ·have hg := B515 hk hvf (fun f hf => by have := hsm rfl f hf; omega) ht hp hs hcol d3
   rw [d1, d2]
   simp only [A3, A7, A19, A4, A1, Z5_eq, hg, A48, B943 (bulkL1 o) o (A11 _) (by omega), B952 (l := l) (by omega), A45, B701]
end Go.Proofs.YtcphcfknnfibmaaGreat.P
