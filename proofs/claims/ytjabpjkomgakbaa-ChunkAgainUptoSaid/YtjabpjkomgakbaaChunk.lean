/- Chunks as plain trees: what Valid, Size, Put, Same compute, with the program and with the reference. -/
import Derived.Test.YtjabpjkomgakbaaQ0
import Derived.Test.YtjabpjkomgakbaaQ1
import Derived.Test.YtjabpjkomgakbaaLib
namespace Go.Proofs.Ytjabpjkomgakbaa.P
open Go Go.Proofs.Ytjabpjkomgakbaa.V
set_option linter.unusedVariables false
set_option linter.unusedSimpArgs false

/-! ### The plain functions -/
def okc (c : Int) : Bool := (decide (65 ≤ c) && decide (c ≤ 90)) || (decide (48 ≤ c) && decide (c ≤ 57))
def idB (s : List Int) : Bool := decide (s.length = 4) && s.all okc
abbrev FORM : List Int := [70, 79, 82, 77]

mutual
def single : Chunk → Bool
  | .mk id kind data kids => idB id && (if id = FORM then idB kind && !decide (kind = FORM) && decide (data = []) && singles kids else decide (kind = []) && decide (kids.length = 0))
def singles : List Chunk → Bool
  | [] => true
  | c :: l => single c && singles l
end
mutual
def cnt : Chunk → Nat
  | .mk _ _ _ kids => cnts kids + 1
def cnts : List Chunk → Nat
  | [] => 0
  | c :: l => cnt c + cnts l
end
mutual
def dep : Chunk → Nat
  | .mk _ _ _ kids => deps kids + 1
def deps : List Chunk → Nat
  | [] => 0
  | c :: l => max (dep c) (deps l)
end
def validB (l : List Chunk) : Bool := singles l && decide (cnts l ≤ 400) && decide (deps l ≤ 8)
mutual
def sz : Chunk → Nat
  | .mk id _ data kids => 8 + ((if id = FORM then 4 + szs kids else data.length) + 1) / 2 * 2
def szs : List Chunk → Nat
  | [] => 0
  | c :: l => sz c + szs l
end
def lenc (id data : List Int) (kids : List Chunk) : Nat := if id = FORM then 4 + szs kids else data.length
def hdr (n : Int) : List Int := [IntKind.u8.wrap (ishr .i64 n 24), IntKind.u8.wrap (ishr .i64 n 16), IntKind.u8.wrap (ishr .i64 n 8), IntKind.u8.wrap n]
def pad (n : Nat) : List Int := if n % 2 = 1 then [0] else []
mutual
def byts : Chunk → List Int
  | .mk id kind data kids => id ++ hdr (if id = FORM then 4 + szs kids else data.length : Nat) ++ (if id = FORM then kind ++ bytss kids else data) ++ pad (if id = FORM then 4 + szs kids else data.length)
def bytss : List Chunk → List Int
  | [] => []
  | c :: l => byts c ++ bytss l
end
mutual
def sameC : Chunk → Chunk → Bool
  | .mk a b d k, .mk a' b' d' k' => decide (a = a') && (decide (b = b') && (decide (d = d') && sameL k k'))
def sameL : List Chunk → List Chunk → Bool
  | [], [] => true
  | c :: l, c' :: l' => sameC c c' && sameL l l'
  | _, _ => false
end

/-! ### Bounds -/
mutual
theorem sz_le : ∀ c : Chunk, sz c + cnt c + dep c ≤ 8 * bulk0 c
  | .mk id kind data kids => by
    have := szs_le kids
    simp only [sz, cnt, dep, bulk0]
    split <;> omega
theorem szs_le : ∀ l : List Chunk, szs l + cnts l + deps l ≤ 8 * bulkL0 l
  | [] => by simp [szs, cnts, deps, bulkL0]
  | c :: l => by
    have := sz_le c
    have := szs_le l
    simp only [szs, cnts, deps, bulkL0]
    omega
end
theorem len_le : ∀ l : List Chunk, l.length ≤ bulkL0 l
  | [] => by simp [bulkL0]
  | .mk a b c d :: l => by
    have := len_le l
    simp only [bulkL0, List.length_cons, bulk0]
    omega
theorem bulk_get : ∀ {l : List Chunk} {i : Nat} {c : Chunk}, l[i]? = some c → bulk0 c ≤ bulkL0 l
  | [], i, c, h => by simp at h
  | x :: l, 0, c, h => by simp at h; subst h; simp only [bulkL0]; omega
  | x :: l, i + 1, c, h => by
    simp at h
    have := bulk_get h
    simp only [bulkL0]; omega
theorem cnts_append : ∀ l k : List Chunk, cnts (l ++ k) = cnts l + cnts k
  | [], k => by simp [cnts]
  | c :: l, k => by simp only [List.cons_append, cnts, cnts_append l k]; omega
theorem deps_append : ∀ l k : List Chunk, deps (l ++ k) = max (deps l) (deps k)
  | [], k => by simp [deps]
  | c :: l, k => by simp only [List.cons_append, deps, deps_append l k]; omega
theorem szs_append : ∀ l k : List Chunk, szs (l ++ k) = szs l + szs k
  | [], k => by simp [szs]
  | c :: l, k => by simp only [List.cons_append, szs, szs_append l k]; omega
theorem bulkL0_append : ∀ l k : List Chunk, bulkL0 (l ++ k) = bulkL0 l + bulkL0 k
  | [], k => by simp [bulkL0]
  | c :: l, k => by simp only [List.cons_append, bulkL0, bulkL0_append l k]; omega
theorem singles_append : ∀ l k : List Chunk, singles (l ++ k) = (singles l && singles k)
  | [], k => by simp [singles]
  | c :: l, k => by simp only [List.cons_append, singles, singles_append l k, Bool.and_assoc]
theorem bytss_append : ∀ l k : List Chunk, bytss (l ++ k) = bytss l ++ bytss k
  | [], k => by simp [bytss]
  | c :: l, k => by simp only [List.cons_append, bytss, bytss_append l k, List.append_assoc]

mutual
theorem sameC_iff : ∀ c d : Chunk, sameC c d = true ↔ c = d
  | .mk a b d k, .mk a' b' d' k' => by
    have := sameL_iff k k'
    simp only [sameC, Bool.and_eq_true, decide_eq_true_eq, Chunk.mk.injEq, this]
theorem sameL_iff : ∀ l k : List Chunk, sameL l k = true ↔ l = k
  | [], [] => by simp [sameL]
  | c :: l, c' :: l' => by
    have := sameC_iff c c'
    have := sameL_iff l l'
    simp only [sameL, Bool.and_eq_true, List.cons.injEq, *]
  | [], _ :: _ => by simp [sameL]
  | _ :: _, [] => by simp [sameL]
end
theorem sameL_self (l : List Chunk) : sameL l l = true := (sameL_iff l l).2 rfl

/-! ### Ids -/
theorem isId_loop (s : List Int) (hs : s.length = 4) : loop (chunk_isId_loop4 s) 0 = some (if s.all okc then .inl () else .inr false) := by
  have h : loop (chunk_isId_loop4 s) ((0 : Nat) : Int) = overL (fun _ c (_ : Unit) => some (if okc c then .inl () else .inr (.inr false))) (fun _ => some (.inl ())) 0 (s.drop 0) () := by
    refine loop_over s (fun n _ => (n : Int)) _ _ (fun _ => ?_) (fun i x _ h => ?_) 0 () (by omega)
    · unfold chunk_isId_loop4; simp [hs]
    · have hl := lt_len_of_get h
      unfold chunk_isId_loop4
      simp only [iteD]
      rw [if_pos (by omega), if_pos ⟨by omega, by omega⟩, rd_nat h, w64 (by omega)]
      by_cases hx : okc x = true
      · simp only [hx, if_true, Option.map_some]
        simp only [okc, Bool.or_eq_true, Bool.and_eq_true, decide_eq_true_eq] at hx
        (repeat' split) <;> first | rfl | omega
      · simp only [hx, if_false, Option.map_some, Bool.false_eq_true]
        simp only [okc, Bool.or_eq_true, Bool.and_eq_true, decide_eq_true_eq] at hx
        (repeat' split) <;> first | rfl | omega
  rw [show (0 : Int) = ((0 : Nat) : Int) from rfl, h]
  clear h hs
  rw [List.drop_zero]
  generalize 0 = n
  induction s generalizing n with
  | nil => rfl
  | cons x s ih =>
    simp only [overL, List.all_cons, Bool.and_eq_true]
    by_cases hx : okc x = true
    · simp only [hx, if_true, true_and]; exact ih (n + 1)
    · simp [hx]
theorem isId_is (s : List Int) : chunk_isId s = some (idB s) := by
  rw [chunk_isId_eq]
  simp only [iteND]
  by_cases h : s.length = 4
  · rw [if_pos (by omega), isId_loop s h]
    simp only [idB, h, decide_true, Bool.true_and]
    by_cases ha : s.all okc = true <;> simp [ha]
  · rw [if_neg (by omega)]
    simp [idB, h]
theorem IsId_is (s : List Int) : ref26_IsId s = some (idB s) := by
  rw [← isId_is, chunk_isId_eq, ref26_IsId_eq]; rfl
theorem isKind_is (s : List Int) : chunk_isKind s = some (idB s && !decide (s = FORM)) := by
  rw [chunk_isKind_eq, isId_is]
  simp only [Option.bind_some]
  cases idB s <;> simp
theorem idB_len {s : List Int} (h : idB s = true) : s.length = 4 := by
  simp only [idB, Bool.and_eq_true, decide_eq_true_eq] at h; exact h.1

/-! ### Sizes -/
mutual
theorem size_is : ∀ c : Chunk, bulk0 c ≤ 100000000 → chunk_size c.id c.kind c.data c.kids = some ((sz c : Nat) : Int)
  | .mk id kind data kids, hb => by
    have hl : chunk_length id kind data kids = some ((lenc id data kids : Nat) : Int) := by
      have hk := len_le kids
      simp only [bulk0] at hb
      rw [chunk_length_eq]
      simp only [iteND, lenc]
      by_cases h : id = FORM
      · rw [if_pos h, if_pos h, chunk_length_loop5_over kids (by omega), size_over kids (by omega) 0 4 (by omega)]
        simp
      · rw [if_neg h, if_neg h]
    have hz := sz_le (.mk id kind data kids)
    show chunk_size id kind data kids = _
    rw [chunk_size_eq, hl]
    simp only [Option.bind_some, sz] at hz ⊢
    simp only [lenc]
    generalize (if id = FORM then 4 + szs kids else data.length) = n at hz ⊢
    simp (disch := omega) only [w64, tdiv_pos]
    simp
theorem size_over : ∀ (l : List Chunk), bulkL0 l ≤ 100000000 → ∀ (k : Nat) (n : Int), 0 ≤ n ∧ n + 8 * bulkL0 l ≤ 100000000000 →
    overL chunk_length_loop5_step some k l n = some (n + (szs l : Nat))
  | [], hb, k, n, hn => by simp [overL, szs]
  | c :: l, hb, k, n, hn => by
    simp only [bulkL0] at hb hn
    have h1 := sz_le c
    have h2 := szs_le l
    simp only [overL, chunk_length_loop5_step, size_is c (by omega), Option.bind_some]
    rw [w64 (by omega), size_over l (by omega) (k + 1) (n + (sz c : Nat)) (by omega)]
    simp only [szs]
    congr 1; omega
end
theorem length_is (id kind data : List Int) (kids : List Chunk) (hb : bulkL0 kids ≤ 100000000) : chunk_length id kind data kids = some ((lenc id data kids : Nat) : Int) := by
  have hk := len_le kids
  rw [chunk_length_eq]
  simp only [iteND, lenc]
  by_cases h : id = FORM
  · rw [if_pos h, if_pos h, chunk_length_loop5_over kids (by omega), size_over kids (by omega) 0 4 (by omega)]
    simp
  · rw [if_neg h, if_neg h]
mutual
theorem rsize_is : ∀ c : Chunk, bulk0 c ≤ 100000000 → ref26_size c.id c.kind c.data c.kids = some ((sz c : Nat) : Int)
  | .mk id kind data kids, hb => by
    have hk := len_le kids
    have hz := sz_le (.mk id kind data kids)
    have hz2 := szs_le kids
    show ref26_size id kind data kids = _
    rw [ref26_size_eq]
    simp only [bulk0] at hb hz
    simp only [iteD, sz] at hz ⊢
    by_cases h : id = FORM
    · rw [if_pos h, ref26_size_loop5_over kids (by omega), rsize_over kids (by omega) 0 4 (by omega)]
      simp only [h, if_true] at hz ⊢
      simp only [Option.bind_some]
      have e1 : IntKind.i64.wrap (8 + (4 + ((szs kids : Nat) : Int))) = 8 + (4 + ((szs kids : Nat) : Int)) := w64 (by omega)
      rw [e1, tmod_pos (by omega), w64 (by omega)]
      congr 1; omega
    · rw [if_neg h]
      simp only [h, if_false] at hz ⊢
      simp only [Option.bind_some]
      have e1 : IntKind.i64.wrap (8 + ((data.length : Nat) : Int)) = 8 + ((data.length : Nat) : Int) := w64 (by omega)
      rw [e1, tmod_pos (by omega), w64 (by omega)]
      congr 1; omega
theorem rsize_over : ∀ (l : List Chunk), bulkL0 l ≤ 100000000 → ∀ (k : Nat) (n : Int), 0 ≤ n ∧ n + 8 * bulkL0 l ≤ 100000000000 →
    overL ref26_size_loop5_step some k l n = some (n + (szs l : Nat))
  | [], hb, k, n, hn => by simp [overL, szs]
  | c :: l, hb, k, n, hn => by
    simp only [bulkL0] at hb hn
    have h1 := sz_le c
    have h2 := szs_le l
    simp only [overL, ref26_size_loop5_step, rsize_is c (by omega), Option.bind_some]
    rw [w64 (by omega), rsize_over l (by omega) (k + 1) (n + (sz c : Nat)) (by omega)]
    simp only [szs]
    congr 1; omega
end

/-! ### Validity -/
theorem right_step (k : Nat) (d m : Int) (id kind data : List Int) (kids : List Chunk) (h1 : 1 ≤ d) (h2 : d ≤ 9) (h3 : 0 ≤ m) (h4 : m ≤ 400)
    (hk : d ≤ 8 → m + 1 ≤ 400 → ∃ m', chunk_looks_right kids (d + 1) (m + 1) = some (singles kids && decide (m + 1 + cnts kids ≤ 400) && decide (d + 1 + deps kids ≤ 9), m') ∧
      (singles kids = true → m + 1 + cnts kids ≤ 400 → d + 1 + deps kids ≤ 9 → m' = m + 1 + cnts kids)) :
    (single (.mk id kind data kids) = true ∧ m + cnt (.mk id kind data kids) ≤ 400 ∧ d + dep (.mk id kind data kids) ≤ 9 → chunk_looks_right_loop2_step d k (.mk id kind data kids) m = some (.inl (m + cnt (.mk id kind data kids)))) ∧
    (¬ (single (.mk id kind data kids) = true ∧ m + cnt (.mk id kind data kids) ≤ 400 ∧ d + dep (.mk id kind data kids) ≤ 9) → ∃ m', chunk_looks_right_loop2_step d k (.mk id kind data kids) m = some (.inr (.inr (false, m')))) := by
  unfold chunk_looks_right_loop2_step
  simp only [iteD, iteND, isId_is, isKind_is, Option.bind_some, single, cnt, dep]
  rw [w64 (n := m + 1) (by omega), w64 (n := d + 1) (by omega)]
  by_cases c1 : m + 1 > 400
  · simp only [c1, if_true, Option.bind_some]
    exact ⟨fun h => by omega, fun _ => ⟨_, rfl⟩⟩
  simp only [c1, if_false]
  by_cases c2 : d > 8
  · simp only [c2, if_true, Option.bind_some]
    exact ⟨fun h => by omega, fun _ => ⟨_, rfl⟩⟩
  simp only [c2, if_false, Option.bind_some]
  obtain ⟨m', e1, e2⟩ := hk (by omega) (by omega)
  cases c3 : idB id with
  | false => simp
  | true =>
    simp only [Bool.not_true, Bool.false_eq_true, if_false, Bool.true_and]
    by_cases c4 : id = FORM
    · rw [if_pos c4, if_pos c4]
      cases c5 : (idB kind && !decide (kind = FORM)) with
      | false => simp
      | true =>
        simp only [Bool.not_true, Bool.false_eq_true, if_false, Bool.true_and]
        by_cases c6 : data = []
        · subst c6
          simp only [List.length_nil, e1, Option.bind_some, decide_true, Bool.true_and]
          rw [if_neg (by omega)]
          by_cases c7 : singles kids = true ∧ m + 1 + cnts kids ≤ 400 ∧ d + 1 + deps kids ≤ 9
          · obtain ⟨q1, q2, q3⟩ := c7
            simp only [q1, q2, q3, decide_true, Bool.and_self, Bool.not_true, Bool.false_eq_true, if_false]
            refine ⟨fun _ => ?_, fun h => absurd ⟨trivial, by omega, by omega⟩ h⟩
            rw [e2 q1 q2 q3]
            congr 2; omega
          · have : (singles kids && decide (m + 1 + (cnts kids : Int) ≤ 400) && decide (d + 1 + (deps kids : Int) ≤ 9)) = false := by
              rw [Bool.eq_false_iff]
              intro h
              simp only [Bool.and_eq_true, decide_eq_true_eq] at h
              exact c7 ⟨h.1.1, h.1.2, h.2⟩
            simp only [this, Bool.not_false, if_true]
            exact ⟨fun h => absurd ⟨h.1, by omega, by omega⟩ c7, fun _ => ⟨_, rfl⟩⟩
        · have : ((data.length : Nat) : Int) > 0 := by
            cases data with
            | nil => exact absurd rfl c6
            | cons => simp
          simp only [this, if_true, c6, decide_false, Bool.false_and, Bool.false_eq_true, false_and, false_implies, true_and, not_false_eq_true, forall_const]
          exact ⟨_, rfl⟩
    · rw [if_neg c4, if_neg c4]
      by_cases c5 : kind = []
      · simp only [c5, if_true, decide_true, Bool.true_and]
        by_cases c6 : kids = []
        · subst c6
          simp only [List.length_nil]
          simp [cnts, deps]
          omega
        · have : ((kids.length : Nat) : Int) > 0 := by
            cases kids with
            | nil => exact absurd rfl c6
            | cons => simp
          have h5 : ¬ kids.length = 0 := by omega
          simp only [this, if_true, h5, decide_false, Bool.false_eq_true, false_and, false_implies, true_and, not_false_eq_true, forall_const]
          exact ⟨_, rfl⟩
      · simp only [c5, if_false, decide_false, Bool.false_and, Bool.false_eq_true, false_and, false_implies, true_and, not_false_eq_true, forall_const]
        exact ⟨_, rfl⟩
mutual
theorem right_kids : ∀ c : Chunk, bulk0 c ≤ 100000000 → ∀ d m : Int, 1 ≤ d → d ≤ 9 → 0 ≤ m → m ≤ 400 →
    ∃ m', chunk_looks_right c.kids d m = some (singles c.kids && decide (m + cnts c.kids ≤ 400) && decide (d + deps c.kids ≤ 9), m') ∧
      (singles c.kids = true → m + cnts c.kids ≤ 400 → d + deps c.kids ≤ 9 → m' = m + cnts c.kids)
  | .mk id kind data kids, hb, d, m, h1, h2, h3, h4 => by
    have hk := len_le kids
    simp only [bulk0] at hb
    show ∃ m', chunk_looks_right kids d m = _ ∧ _
    rw [chunk_looks_right_eq, chunk_looks_right_loop2_over kids d (by omega)]
    obtain ⟨g1, g2⟩ := right_over kids (by omega) 0 d m h1 h2 h3 h4
    by_cases hc : singles kids = true ∧ m + cnts kids ≤ 400 ∧ d + deps kids ≤ 9
    · rw [g1 hc]
      simp [hc]
    · obtain ⟨m', e⟩ := g2 hc
      rw [e]
      refine ⟨m', ?_, fun a b c => absurd ⟨a, b, c⟩ hc⟩
      simp only [Option.bind_some, Sum.elim_inr, Option.some.injEq, Prod.mk.injEq, and_true]
      symm
      rw [Bool.eq_false_iff]
      intro h
      simp only [Bool.and_eq_true, decide_eq_true_eq] at h
      exact hc ⟨h.1.1, h.1.2, h.2⟩
theorem right_over : ∀ l : List Chunk, bulkL0 l ≤ 100000000 → ∀ (k : Nat) (d m : Int), 1 ≤ d → d ≤ 9 → 0 ≤ m → m ≤ 400 →
    (singles l = true ∧ m + cnts l ≤ 400 ∧ d + deps l ≤ 9 → overL (chunk_looks_right_loop2_step d) (fun s => some (Sum.inl s)) k l m = some (.inl (m + cnts l))) ∧
    (¬ (singles l = true ∧ m + cnts l ≤ 400 ∧ d + deps l ≤ 9) → ∃ m', overL (chunk_looks_right_loop2_step d) (fun s => some (Sum.inl s)) k l m = some (.inr (false, m')))
  | [], hb, k, d, m, h1, h2, h3, h4 => by
    refine ⟨fun _ => by simp [overL, cnts], fun h => absurd ?_ h⟩
    simp [singles, cnts, deps]; omega
  | .mk id kind data kids :: l, hb, k, d, m, h1, h2, h3, h4 => by
    simp only [bulkL0] at hb
    have hs := right_step k d m id kind data kids h1 h2 h3 h4 fun a b => right_kids (.mk id kind data kids) (by omega) (d + 1) (m + 1) (by omega) (by omega) (by omega) b
    have hp : 1 ≤ cnt (.mk id kind data kids) := by simp [cnt]
    simp only [overL, singles, cnts, deps]
    by_cases hc : single (.mk id kind data kids) = true ∧ m + cnt (.mk id kind data kids) ≤ 400 ∧ d + dep (.mk id kind data kids) ≤ 9
    · rw [hs.1 hc]
      obtain ⟨g1, g2⟩ := right_over l (by omega) (k + 1) d (m + cnt (.mk id kind data kids)) h1 h2 (by omega) hc.2.1
      simp only [hc.1, Bool.true_and]
      refine ⟨fun h => ?_, fun h => ?_⟩
      · rw [g1 ⟨h.1, by omega, by omega⟩]
        congr 2; omega
      · exact g2 fun h' => h ⟨h'.1, by omega, by omega⟩
    · obtain ⟨m', e⟩ := hs.2 hc
      rw [e]
      refine ⟨fun h => absurd ⟨?_, by omega, by omega⟩ hc, fun _ => ⟨m', rfl⟩⟩
      have := h.1
      simp only [Bool.and_eq_true] at this
      exact this.1
end
theorem valid_is (l : List Chunk) (hb : bulkL0 l ≤ 99999000) : chunk_valid l = some (validB l) := by
  rw [chunk_valid_eq]
  obtain ⟨m', e, _⟩ := right_kids (.mk [] [] [] l) (by simp [bulk0]; omega) 1 0 (by omega) (by omega) (by omega) (by omega)
  simp only at e
  rw [e]
  simp only [Option.bind_some, validB, Option.some.injEq]
  congr 1
  · congr 1; simp only [decide_eq_decide]; omega
  · simp only [decide_eq_decide]; omega
mutual
theorem single_is : ∀ c : Chunk, bulk0 c ≤ 100000000 → ref26_single c.id c.kind c.data c.kids = some (single c)
  | .mk id kind data kids, hb => by
    have hk := len_le kids
    simp only [bulk0] at hb
    show ref26_single id kind data kids = _
    rw [ref26_single_eq, ref26_single_loop8_over kids (by omega), single_over kids (by omega) 0]
    simp only [iteD, iteND, IsId_is, Option.bind_some, single]
    cases c3 : idB id with
    | false => simp
    | true =>
      simp only [Bool.not_true, Bool.false_eq_true, if_false, Bool.true_and]
      by_cases c4 : id = FORM
      · rw [if_pos c4, if_pos c4]
        cases c5 : idB kind with
        | false => simp
        | true =>
          simp only [Bool.not_true, Bool.false_eq_true, if_false, Bool.true_and]
          by_cases c6 : kind = FORM
          · simp [c6]
          · by_cases c7 : data = []
            · subst c7
              simp only [c6, if_false, List.length_nil, Option.bind_some, decide_false, Bool.not_false, decide_true, Bool.true_and]
              cases singles kids <;> rfl
            · have : ((data.length : Nat) : Int) > 0 := by
                cases data with
                | nil => exact absurd rfl c7
                | cons => simp
              simp [c6, c7, this]
      · rw [if_neg c4, if_neg c4]
        by_cases c5 : kind = []
        · simp [c5]
        · simp [c5]
theorem single_over : ∀ l : List Chunk, bulkL0 l ≤ 100000000 → ∀ k : Nat,
    overL ref26_single_loop8_step (fun _ => some (Sum.inl ())) k l () = some (if singles l then .inl () else .inr false)
  | [], hb, k => by simp [overL, singles]
  | c :: l, hb, k => by
    simp only [bulkL0] at hb
    simp only [singles]
    by_cases hs : single c = true
    · rw [overL_next (s' := ()) (by simp [ref26_single_loop8_step, single_is c (by omega), hs]), single_over l (by omega) (k + 1)]
      simp [hs]
    · have hs' : single c = false := by simpa using hs
      rw [overL_exit (a := .inr false) (by simp [ref26_single_loop8_step, single_is c (by omega), hs'])]
      simp [hs']
end
theorem vsingle_over : ∀ l : List Chunk, bulkL0 l ≤ 100000000 → ∀ k : Nat,
    overL ref26_ValidList_loop2_step (fun _ => some (Sum.inl ())) k l () = some (if singles l then .inl () else .inr false)
  | [], hb, k => by simp [overL, singles]
  | c :: l, hb, k => by
    simp only [bulkL0] at hb
    simp only [singles]
    by_cases hs : single c = true
    · rw [overL_next (s' := ()) (by simp [ref26_ValidList_loop2_step, single_is c (by omega), hs]), vsingle_over l (by omega) (k + 1)]
      simp [hs]
    · have hs' : single c = false := by simpa using hs
      rw [overL_exit (a := .inr false) (by simp [ref26_ValidList_loop2_step, single_is c (by omega), hs'])]
      simp [hs']
mutual
theorem count_kids : ∀ c : Chunk, bulk0 c ≤ 100000000 → ref26_count c.kids = some (((cnts c.kids : Nat) : Int), ((deps c.kids : Nat) : Int))
  | .mk id kind data kids, hb => by
    have hk := len_le kids
    simp only [bulk0] at hb
    show ref26_count kids = some (((cnts kids : Nat) : Int), ((deps kids : Nat) : Int))
    rw [ref26_count_eq, ref26_count_loop2_over kids (by omega) (0, 0), count_over kids (by omega) 0 0 0 (by omega) (by omega)]
    simp
theorem count_over : ∀ l : List Chunk, bulkL0 l ≤ 100000000 → ∀ (k : Nat) (a d : Int), 0 ≤ a ∧ a + 8 * bulkL0 l ≤ 1000000000000 → 0 ≤ d ∧ d ≤ 1000000000000 →
    overL ref26_count_loop2_step (fun s => some (s.1, s.2)) k l (a, d) = some (a + cnts l, max d (deps l))
  | [], hb, k, a, d, ha, hd => by simp [overL, cnts, deps]; omega
  | c :: l, hb, k, a, d, ha, hd => by
    simp only [bulkL0] at hb ha
    have h1 := sz_le c
    have h2 := szs_le l
    have e1 : cnt c = cnts c.kids + 1 := by cases c; rfl
    have e2 : dep c = deps c.kids + 1 := by cases c; rfl
    rw [overL_next (s' := (a + cnt c, max d (dep c))) ?_, count_over l (by omega) (k + 1) _ _ (by omega) (by omega)]
    · simp only [cnts, deps, Option.some.injEq, Prod.mk.injEq]
      omega
    simp only [ref26_count_loop2_step, count_kids c (by omega), Option.bind_some]
    rw [w64 (n := ((cnts c.kids : Nat) : Int) + 1) (by omega), w64 (n := a + (((cnts c.kids : Nat) : Int) + 1)) (by omega), w64 (n := ((deps c.kids : Nat) : Int) + 1) (by omega), imax_eq]
    simp only [Option.some.injEq, Sum.inl.injEq, Prod.mk.injEq]
    omega
end
theorem ValidList_is (l : List Chunk) (hb : bulkL0 l ≤ 99999000) : ref26_ValidList l = some (validB l) := by
  have hlen := len_le l
  have hc := count_kids (.mk [] [] [] l) (by simp [bulk0]; omega)
  simp only at hc
  rw [ref26_ValidList_eq, ref26_ValidList_loop2_over l (by omega) (), vsingle_over l (by omega) 0, hc]
  simp only [Option.bind_some, validB, iteD]
  cases singles l with
  | false => simp
  | true =>
    simp only [if_true, Sum.elim_inl, Bool.true_and]
    by_cases h : cnts l ≤ 400
    · rw [if_pos (by omega)]; simp [h]; omega
    · rw [if_neg (by omega)]; simp [h]
theorem Valid_is (c : Chunk) (hb : bulk0 c ≤ 10000000) : chunk_Valid c.id c.kind c.data c.kids = some (validB [c]) := by
  cases c
  rw [chunk_Valid_eq, valid_is _ (by simp only [bulkL0]; omega)]
  rfl
theorem rValid_is (c : Chunk) (hb : bulk0 c ≤ 10000000) : ref26_Valid c.id c.kind c.data c.kids = some (validB [c]) := by
  cases c
  rw [ref26_Valid_eq, ValidList_is _ (by simp only [bulkL0]; omega)]
  rfl

/-! ### Bytes -/
theorem hdr_len (n : Int) : (hdr n).length = 4 := rfl
theorem pad_len (n : Nat) : (pad n).length = n % 2 := by unfold pad; split <;> simp <;> omega
mutual
theorem byts_le : ∀ c : Chunk, (byts c).length ≤ 2 * bulk0 c
  | .mk id kind data kids => by
    have := bytss_le kids
    simp only [byts, bulk0, List.length_append, hdr_len, pad_len]
    split
    · simp only [List.length_append]; omega
    · omega
theorem bytss_le : ∀ l : List Chunk, (bytss l).length ≤ 2 * bulkL0 l
  | [] => by simp [bytss]
  | c :: l => by
    have := byts_le c
    have := bytss_le l
    simp only [bytss, bulkL0, List.length_append]
    omega
end
mutual
theorem byts_len : ∀ c : Chunk, single c = true → (byts c).length = sz c
  | .mk id kind data kids, h => by
    simp only [single, Bool.and_eq_true] at h
    have hid := idB_len h.1
    simp only [byts, sz, List.length_append, hdr_len, pad_len]
    by_cases hf : id = FORM
    · simp only [hf, if_true, Bool.and_eq_true] at h
      have := bytss_len kids h.2.2
      have hk := idB_len h.2.1.1.1
      simp only [hf, if_true, List.length_append]
      rw [hf] at hid
      omega
    · simp only [hf, if_false]
      omega
theorem bytss_len : ∀ l : List Chunk, singles l = true → (bytss l).length = szs l
  | [], _ => rfl
  | c :: l, h => by
    simp only [singles, Bool.and_eq_true] at h
    have := byts_len c h.1
    have := bytss_len l h.2
    simp only [bytss, szs, List.length_append]
    omega
end
mutual
theorem put_is : ∀ c : Chunk, bulk0 c ≤ 100000000 → ∀ out : List Int, out.length + 2 * bulk0 c ≤ 10000000000 → chunk_put c.id c.kind c.data c.kids out = some (out ++ byts c)
  | .mk id kind data kids, hb, out, ho => by
    have hk := len_le kids
    have hb' := byts_le (.mk id kind data kids)
    simp only [bulk0] at hb ho
    show chunk_put id kind data kids out = _
    rw [chunk_put_eq, length_is id kind data kids (by omega)]
    simp only [Option.bind_some, iteD]
    rw [if_pos (by omega), if_pos (by simp only [List.length_append, List.length_cons, List.length_nil]; omega)]
    have hh : ([IntKind.u8.wrap (ishr .i64 ((lenc id data kids : Nat) : Int) 24), IntKind.u8.wrap (ishr .i64 ((lenc id data kids : Nat) : Int) 16), IntKind.u8.wrap (ishr .i64 ((lenc id data kids : Nat) : Int) 8), IntKind.u8.wrap ((lenc id data kids : Nat) : Int)] : List Int) = hdr (lenc id data kids : Nat) := rfl
    rw [hh]
    simp only [byts]
    by_cases hf : id = FORM
    · rw [if_pos hf, if_pos (by simp only [List.length_append, hdr_len]; omega), chunk_put_loop7_over kids (by omega)]
      rw [put_over kids (by omega) 0 _ (by simp only [List.length_append, hdr_len]; omega)]
      simp only [Option.bind_some, lenc, hf, if_true, List.append_assoc]
      have := bytss_le kids
      rw [tmod_pos (by omega), hf] at *
      unfold pad
      by_cases hp : (4 + szs kids) % 2 = 1
      · rw [if_pos (by omega), if_pos hp, if_pos (by simp only [List.length_append, hdr_len, List.length_cons, List.length_nil]; omega)]
        all_goals simp
      · rw [if_neg (by omega), if_neg hp]
        all_goals simp
    · rw [if_neg hf, if_pos (by simp only [List.length_append, hdr_len]; omega)]
      simp only [Option.bind_some, lenc, hf, if_false, List.append_assoc]
      rw [tmod_pos (by omega)]
      unfold pad
      by_cases hp : data.length % 2 = 1
      · rw [if_pos (by omega), if_pos hp, if_pos (by simp only [List.length_append, hdr_len, List.length_cons, List.length_nil]; omega)]
        all_goals simp
      · rw [if_neg (by omega), if_neg hp]
        all_goals simp
theorem put_over : ∀ l : List Chunk, bulkL0 l ≤ 100000000 → ∀ (k : Nat) (out : List Int), out.length + 2 * bulkL0 l ≤ 10000000000 →
    overL chunk_put_loop7_step some k l out = some (out ++ bytss l)
  | [], hb, k, out, ho => by simp [overL, bytss]
  | c :: l, hb, k, out, ho => by
    simp only [bulkL0] at hb ho
    have := byts_le c
    rw [overL_next (s' := out ++ byts c) (by simp [chunk_put_loop7_step, put_is c (by omega) out (by omega)]), put_over l (by omega) (k + 1) _ (by rw [List.length_append]; omega)]
    simp [bytss]
end
theorem Put_over : ∀ l : List Chunk, bulkL0 l ≤ 100000000 → ∀ (k : Nat) (out : List Int), out.length + 2 * bulkL0 l ≤ 10000000000 →
    overL chunk_Put_loop13_step some k l out = some (out ++ bytss l)
  | [], hb, k, out, ho => by simp [overL, bytss]
  | c :: l, hb, k, out, ho => by
    simp only [bulkL0] at hb ho
    have := byts_le c
    rw [overL_next (s' := out ++ byts c) (by simp [chunk_Put_loop13_step, put_is c (by omega) out (by omega)]), Put_over l (by omega) (k + 1) _ (by rw [List.length_append]; omega)]
    simp [bytss]
theorem Put_size_over : ∀ (l : List Chunk), bulkL0 l ≤ 100000000 → ∀ (k : Nat) (n : Int), 0 ≤ n ∧ n + 8 * bulkL0 l ≤ 100000000000 →
    overL chunk_Put_loop5_step some k l n = some (n + (szs l : Nat))
  | [], hb, k, n, hn => by simp [overL, szs]
  | c :: l, hb, k, n, hn => by
    simp only [bulkL0] at hb hn
    have h1 := sz_le c
    rw [overL_next (s' := n + (sz c : Nat)) (by simp [chunk_Put_loop5_step, size_is c (by omega)]; rw [w64 (by omega)]), Put_size_over l (by omega) (k + 1) _ (by omega)]
    simp only [szs]
    congr 1; omega
theorem rPut_size_over : ∀ (l : List Chunk), bulkL0 l ≤ 100000000 → ∀ (k : Nat) (n : Int), 0 ≤ n ∧ n + 8 * bulkL0 l ≤ 100000000000 →
    overL ref26_Put_loop5_step some k l n = some (n + (szs l : Nat))
  | [], hb, k, n, hn => by simp [overL, szs]
  | c :: l, hb, k, n, hn => by
    simp only [bulkL0] at hb hn
    have h1 := sz_le c
    rw [overL_next (s' := n + (sz c : Nat)) (by simp [ref26_Put_loop5_step, rsize_is c (by omega)]; rw [w64 (by omega)]), rPut_size_over l (by omega) (k + 1) _ (by omega)]
    simp only [szs]
    congr 1; omega
/-- what Put answers -/
def putR (l : List Chunk) : List Int × Int := if validB l = true then (if szs l > 60000 then ([], 4) else (bytss l, 0)) else ([], 100)
theorem Put_is (l : List Chunk) (hb : bulkL0 l ≤ 99999000) : chunk_Put l = some (putR l) := by
  have hlen := len_le l
  rw [chunk_Put_eq, valid_is l hb, chunk_Put_loop5_over l (by omega), Put_size_over l (by omega) 0 0 (by omega), chunk_Put_loop13_over l (by omega), Put_over l (by omega) 0 [] (by simp; omega)]
  simp only [Option.bind_some, iteD, putR]
  cases validB l with
  | false => rfl
  | true =>
    simp only [Bool.not_true, Bool.false_eq_true, if_false, if_true]
    by_cases h : szs l > 60000
    · rw [if_pos (by omega), if_pos h]
    · rw [if_neg (by omega), if_neg h]; simp
mutual
theorem bytes_kids : ∀ c : Chunk, bulk0 c ≤ 100000000 → singles c.kids = true → ref26_bytes c.kids = some (bytss c.kids)
  | .mk id kind data kids, hb, h => by
    have hk := len_le kids
    simp only [bulk0] at hb
    simp only at h
    show ref26_bytes kids = some (bytss kids)
    rw [ref26_bytes_eq, ref26_bytes_loop3_over kids (by omega), bytes_over kids (by omega) h 0 [] (by simp; omega)]
    simp
theorem bytes_over : ∀ l : List Chunk, bulkL0 l ≤ 100000000 → singles l = true → ∀ (k : Nat) (out : List Int), out.length + 2 * bulkL0 l ≤ 10000000000 →
    overL ref26_bytes_loop3_step some k l out = some (out ++ bytss l)
  | [], hb, h, k, out, ho => by simp [overL, bytss]
  | .mk id kind data kids :: l, hb, h, k, out, ho => by
    simp only [bulkL0] at hb ho
    simp only [singles, Bool.and_eq_true] at h
    have hc := byts_le (.mk id kind data kids)
    have hkk : id = FORM → ref26_bytes kids = some (bytss kids) := fun hf => by
      have := bytes_kids (.mk id kind data kids) (by omega)
      simp only at this
      refine this ?_
      have := h.1
      simp only [single, hf, if_true, Bool.and_eq_true] at this
      exact this.2.2
    rw [overL_next (s' := out ++ byts (.mk id kind data kids)) ?_, bytes_over l (by omega) h.2 (k + 1) _ (by rw [List.length_append]; omega)]
    · simp [bytss]
    unfold ref26_bytes_loop3_step
    have h1 := h.1
    simp only [bulk0] at ho hb
    simp only [iteD, byts]
    simp only [single, Bool.and_eq_true] at h1
    by_cases hf : id = FORM
    · have hkl := bytss_le kids
      simp only [hf, if_true, Bool.and_eq_true] at h1
      have e1 := idB_len h1.2.1.1.1
      have e2 := bytss_len kids h1.2.2
      simp only [hkk hf, hf, if_true, Option.bind_some]
      rw [if_pos (by omega)]
      simp only [Option.bind_some]
      have el : (kind ++ bytss kids).length = 4 + szs kids := by rw [List.length_append]; omega
      rw [hf] at ho hb
      rw [el, if_pos (by omega), if_pos (by simp only [List.length_append, List.length_cons, List.length_nil]; omega), if_pos (by simp only [List.length_append, List.length_cons, List.length_nil]; omega), tmod_pos (by omega)]
      unfold pad
      by_cases hp : (4 + szs kids) % 2 = 1
      · rw [if_pos (by omega), if_pos hp, if_pos (by simp only [List.length_append, List.length_cons, List.length_nil]; omega)]
        simp [hdr]
      · rw [if_neg (by omega), if_neg hp]
        simp [hdr]
    · simp only [hf, if_false, Option.bind_some]
      rw [if_pos (by omega), if_pos (by simp only [List.length_append, List.length_cons, List.length_nil]; omega), if_pos (by simp only [List.length_append, List.length_cons, List.length_nil]; omega), tmod_pos (by omega)]
      unfold pad
      by_cases hp : data.length % 2 = 1
      · rw [if_pos (by omega), if_pos hp, if_pos (by simp only [List.length_append, List.length_cons, List.length_nil]; omega)]
        simp [hdr]
      · rw [if_neg (by omega), if_neg hp]
        simp [hdr]
end
theorem validB_singles {l : List Chunk} (h : validB l = true) : singles l = true := by
  simp only [validB, Bool.and_eq_true] at h; exact h.1.1
theorem rPut_is (l : List Chunk) (hb : bulkL0 l ≤ 99999000) : ref26_Put l = some (putR l) := by
  have hlen := len_le l
  rw [ref26_Put_eq, ValidList_is l hb, ref26_Put_loop5_over l (by omega), rPut_size_over l (by omega) 0 0 (by omega)]
  simp only [Option.bind_some, iteD, putR]
  cases hv : validB l with
  | false => rfl
  | true =>
    have := bytes_kids (.mk [] [] [] l) (by simp [bulk0]; omega) (validB_singles hv)
    simp only at this
    simp only [Bool.not_true, Bool.false_eq_true, if_false, if_true, this]
    by_cases h : szs l > 60000
    · rw [if_pos (by omega), if_pos h]
    · rw [if_neg (by omega), if_neg h]; simp

/-! ### The same -/
mutual
theorem same_kids : ∀ (c : Chunk) (k' : List Chunk), bulk0 c ≤ 100000000 → chunk_Same c.kids k' = some (sameL c.kids k')
  | .mk a b e k, k', hb => by
    simp only [bulk0] at hb
    have hk := len_le k
    show chunk_Same k k' = some (sameL k k')
    rw [chunk_Same_eq, slices_EqualFunc_api_Chunk_api_Chunk_api_Chunk_api_Chunk_eq]
    simp only [iteND]
    by_cases h4 : k.length = k'.length
    · rw [if_pos (by omega), slices_EqualFunc_api_Chunk_api_Chunk_api_Chunk_api_Chunk_loop4_over k k' (by omega) (), same_over k (by omega) 0 k' (by omega)]
      simp only [List.drop_zero]
      cases sameL k k' <;> rfl
    · rw [if_neg (by omega)]
      have : sameL k k' = false := by
        rw [Bool.eq_false_iff]
        intro h
        exact h4 (by rw [(sameL_iff k k').1 h])
      simp [this]
theorem same_over : ∀ l : List Chunk, bulkL0 l ≤ 100000000 → ∀ (k : Nat) (s2 : List Chunk), s2.length = k + l.length →
    overL (slices_EqualFunc_api_Chunk_api_Chunk_api_Chunk_api_Chunk_loop4_step s2) (fun _ => some (Sum.inl ())) k l () = some (if sameL l (s2.drop k) then .inl () else .inr false)
  | [], hb, k, s2, hs => by
    simp only [List.length_nil] at hs
    rw [List.drop_eq_nil_of_le (by omega)]
    rfl
  | .mk a b e kk :: l, hb, k, s2, hs => by
    simp only [bulkL0] at hb
    simp only [List.length_cons] at hs
    have hk : k < s2.length := by omega
    rw [List.drop_eq_getElem_cons hk]
    cases hd : s2[k] with | mk a' b' e' k' =>
    have hg : s2[k]? = some (.mk a' b' e' k') := by rw [List.getElem?_eq_getElem hk, hd]
    have hkk := same_kids (.mk a b e kk) k' (by omega)
    simp only at hkk
    have h1 : chunk_Same_1 a b e kk a' b' e' k' = some (sameC (.mk a b e kk) (.mk a' b' e' k')) := by
      rw [chunk_Same_1_eq, bytes_Equal_eq, hkk]
      simp only [iteD, sameC, Option.bind_some]
      by_cases h1 : a = a'
      · by_cases h2 : b = b'
        · by_cases h3 : e = e'
          · simp [h1, h2, h3]
          · simp [h1, h2, h3]
        · simp [h1, h2]
      · simp [h1]
    simp only [sameL]
    by_cases hs' : sameC (.mk a b e kk) (.mk a' b' e' k') = true
    · rw [overL_next (s' := ()) (by simp [slices_EqualFunc_api_Chunk_api_Chunk_api_Chunk_api_Chunk_loop4_step, hg, h1, hs']), same_over l (by omega) (k + 1) s2 (by omega)]
      simp [hs']
    · have hs'' : sameC (.mk a b e kk) (.mk a' b' e' k') = false := by simpa using hs'
      rw [overL_exit (a := .inr false) (by simp [slices_EqualFunc_api_Chunk_api_Chunk_api_Chunk_api_Chunk_loop4_step, hg, h1, hs''])]
      simp [hs'']
end
theorem Same_is (l k : List Chunk) (hb : bulkL0 l ≤ 99999000) : chunk_Same l k = some (sameL l k) := same_kids (.mk [] [] [] l) k (by simp [bulk0]; omega)
mutual
theorem rsame_kids : ∀ (c : Chunk) (k' : List Chunk), bulk0 c ≤ 100000000 → ref26_Same c.kids k' = some (sameL c.kids k')
  | .mk a b e k, k', hb => by
    simp only [bulk0] at hb
    have hk := len_le k
    show ref26_Same k k' = some (sameL k k')
    rw [ref26_Same_eq]
    simp only [iteND]
    by_cases h4 : k.length = k'.length
    · rw [if_pos (by omega), ref26_Same_loop4_over k k' (by omega) (), rsame_over k (by omega) 0 k' (by omega)]
      simp only [List.drop_zero]
      cases sameL k k' <;> rfl
    · rw [if_neg (by omega)]
      have : sameL k k' = false := by
        rw [Bool.eq_false_iff]
        intro h
        exact h4 (by rw [(sameL_iff k k').1 h])
      simp [this]
theorem rsame_over : ∀ l : List Chunk, bulkL0 l ≤ 100000000 → ∀ (k : Nat) (s2 : List Chunk), s2.length = k + l.length →
    overL (ref26_Same_loop4_step s2) (fun _ => some (Sum.inl ())) k l () = some (if sameL l (s2.drop k) then .inl () else .inr false)
  | [], hb, k, s2, hs => by
    simp only [List.length_nil] at hs
    rw [List.drop_eq_nil_of_le (by omega)]
    rfl
  | .mk a b e kk :: l, hb, k, s2, hs => by
    simp only [bulkL0] at hb
    simp only [List.length_cons] at hs
    have hk : k < s2.length := by omega
    rw [List.drop_eq_getElem_cons hk]
    cases hd : s2[k] with | mk a' b' e' k' =>
    have hg : s2[k]? = some (.mk a' b' e' k') := by rw [List.getElem?_eq_getElem hk, hd]
    have hkk := rsame_kids (.mk a b e kk) k' (by omega)
    simp only at hkk
    have h1 : ref26_same a b e kk a' b' e' k' = some (sameC (.mk a b e kk) (.mk a' b' e' k')) := by
      rw [ref26_same_eq, hkk]
      simp only [iteD, sameC, Option.bind_some]
      by_cases h1 : a = a'
      · by_cases h2 : b = b'
        · by_cases h3 : e = e'
          · simp [h1, h2, h3]
          · simp [h1, h2, h3]
        · simp [h1, h2]
      · simp [h1]
    simp only [sameL]
    by_cases hs' : sameC (.mk a b e kk) (.mk a' b' e' k') = true
    · rw [overL_next (s' := ()) (by simp [ref26_Same_loop4_step, hg, h1, hs']), rsame_over l (by omega) (k + 1) s2 (by omega)]
      simp [hs']
    · have hs'' : sameC (.mk a b e kk) (.mk a' b' e' k') = false := by simpa using hs'
      rw [overL_exit (a := .inr false) (by simp [ref26_Same_loop4_step, hg, h1, hs''])]
      simp [hs'']
end
theorem rSame_is (l k : List Chunk) (hb : bulkL0 l ≤ 99999000) : ref26_Same l k = some (sameL l k) := rsame_kids (.mk [] [] [] l) k (by simp [bulk0]; omega)

theorem SameBytes_over : ∀ (l : List Int) (k : Nat) (b : List Int), l.length ≤ 4611686018427387904 → b.length = k + l.length →
    overL (ref02_SameBytes_loop4_step b) (fun _ => some (Sum.inl ())) k l () = some (if decide (l = b.drop k) then .inl () else .inr false)
  | [], k, b, hl, hs => by
    simp only [List.length_nil] at hs
    rw [List.drop_eq_nil_of_le (by omega)]
    rfl
  | x :: l, k, b, hl, hs => by
    simp only [List.length_cons] at hs hl
    have hk : k < b.length := by omega
    have hg : b[k]? = some b[k] := List.getElem?_eq_getElem hk
    have hr : rd b (k : Int) = b[k] := rd_nat hg
    rw [List.drop_eq_getElem_cons hk]
    by_cases hx : x = b[k]
    · rw [overL_next (s' := ()) (by unfold ref02_SameBytes_loop4_step; rw [if_pos ⟨by omega, by omega⟩, hr]; simp [hx]), SameBytes_over l (k + 1) b (by omega) (by omega)]
      simp only [List.cons.injEq, hx, true_and]
    · rw [overL_exit (a := .inr false) (by unfold ref02_SameBytes_loop4_step; rw [if_pos ⟨by omega, by omega⟩, hr]; simp [hx])]
      simp only [List.cons.injEq, hx, false_and, decide_false, Bool.false_eq_true, if_false]
theorem SameBytes_is (a b : List Int) (hl : a.length ≤ 4611686018427387904) : ref02_SameBytes a b = some (decide (a = b)) := by
  rw [ref02_SameBytes_eq]
  simp only [iteND]
  by_cases h : a.length = b.length
  · rw [if_pos (by omega), ref02_SameBytes_loop4_over a b hl (), SameBytes_over a 0 b hl (by omega)]
    simp only [List.drop_zero]
    by_cases hab : a = b <;> simp [hab]
  · rw [if_neg (by omega)]
    have : a ≠ b := fun e => h (by rw [e])
    simp [this]

/-! ### The guards and the sanity check -/
mutual
theorem weight_kids : ∀ (c : Chunk) (m : Int), bulk0 c ≤ 100000000 → ∃ r, law26_weight c.kids m = some r
  | .mk a b e k, m, hb => by
    simp only [bulk0] at hb
    have hk := len_le k
    show ∃ r, law26_weight k m = some r
    obtain ⟨r, h⟩ := weight_over k (by omega) 0 m (0, 0, false)
    rw [law26_weight_eq, law26_weight_loop2_over k m (by omega) (0, 0, false), h]
    exact ⟨_, rfl⟩
theorem weight_over : ∀ (l : List Chunk), bulkL0 l ≤ 100000000 → ∀ (k : Nat) (m : Int) (s : Int × Int × Bool), ∃ r, overL (law26_weight_loop2_step m) (fun s => some (s.1, s.2.1, s.2.2)) k l s = some r
  | [], hb, k, m, s => ⟨_, rfl⟩
  | c :: l, hb, k, m, s => by
    simp only [bulkL0] at hb
    have hs : ∃ s', law26_weight_loop2_step m k c s = some (.inl s') := by
      obtain ⟨r, hr⟩ := weight_kids c (IntKind.i64.wrap (m - 1)) (by omega)
      unfold law26_weight_loop2_step
      simp only [hr, Option.bind_some]
      split
      · exact ⟨_, rfl⟩
      · split <;> exact ⟨_, rfl⟩
    obtain ⟨s', hs'⟩ := hs
    rw [overL_next hs']
    exact weight_over l (by omega) (k + 1) m s'
end
theorem large_is (l : List Chunk) (hb : bulkL0 l ≤ 99999000) : ∃ b, law26_large l = some b := by
  obtain ⟨r, h⟩ := weight_kids (.mk [] [] [] l) 12 (by simp [bulk0]; omega)
  simp only at h
  rw [law26_large_eq, h]
  simp only [Option.bind_some]
  split
  · exact ⟨_, rfl⟩
  · split <;> exact ⟨_, rfl⟩
theorem awake : law26_Awake = some true := by
  have hv : validB [Chunk.mk [84, 69, 88, 84] [] [7] []] = true := by decide
  rw [law26_Awake_eq, chunk_Size_eq, Put_is _ (by decide), Valid_is (Chunk.mk [84, 69, 88, 84] [] [7] []) (by decide), hv, size_is (Chunk.mk [84, 69, 88, 84] [] [7] []) (by decide)]
  have e2 : sz (Chunk.mk [84, 69, 88, 84] [] [7] []) = 10 := by decide
  rw [e2]
  have e3 : putR [Chunk.mk [84, 69, 88, 84] [] [7] []] = ([84, 69, 88, 84, 0, 0, 0, 1, 7, 0], 0) := by
    unfold putR
    rw [if_pos hv, if_neg (by decide)]
    have : hdr 1 = [0, 0, 0, 1] := by decide
    simp [bytss, byts, this, pad]
  rw [e3]
  simp
end Go.Proofs.Ytjabpjkomgakbaa.P
