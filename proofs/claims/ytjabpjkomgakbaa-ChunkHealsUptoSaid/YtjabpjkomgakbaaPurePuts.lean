/- The plain laws of ChunkTogether and ChunkPuts. -/
import Derived.Test.YtjabpjkomgakbaaChunk
namespace Go.Proofs.Ytjabpjkomgakbaa.P
open Go Go.Proofs.Ytjabpjkomgakbaa.V
set_option linter.unusedVariables false
set_option linter.unusedSimpArgs false

theorem bulkA_rows (l : List Chunk) : bulkA bulk (.rows 0 l) = bulkL0 l + 1 := by
  have := sumB_eq (b := bulk) (i := 0) (f := bulk0) (fun _ => rfl) l
  rw [bulkL0_eq]
  simp only [bulkA, bulkP]
  rw [this]; rfl

theorem validB_append {l k : List Chunk} (h : validB (l ++ k) = true) : validB l = true ∧ validB k = true := by
  simp only [validB, singles_append, cnts_append, deps_append, Bool.and_eq_true, decide_eq_true_eq] at h ⊢
  exact ⟨⟨⟨h.1.1.1, by omega⟩, by omega⟩, ⟨h.1.1.2, by omega⟩, by omega⟩
theorem together (l k : List Chunk) (h : (putR (l ++ k)).2 = 0) : (putR l).2 = 0 ∧ (putR k).2 = 0 ∧ (putR (l ++ k)).1 = (putR l).1 ++ (putR k).1 := by
  unfold putR at h ⊢
  by_cases hv : validB (l ++ k) = true
  · obtain ⟨h1, h2⟩ := validB_append hv
    rw [if_pos hv] at h ⊢
    rw [if_pos h1, if_pos h2]
    rw [szs_append] at h ⊢
    by_cases hs : szs l + szs k > 60000
    · rw [if_pos hs] at h; cases h
    · rw [if_neg hs] at h ⊢
      rw [if_neg (by omega), if_neg (by omega)]
      exact ⟨rfl, rfl, bytss_append l k⟩
  · rw [if_neg hv] at h; cases h
theorem putR_bad {l : List Chunk} (h : (putR l).2 ≠ 0) : (putR l).1 = [] := by
  unfold putR at h ⊢
  split at h
  · split at h
    · rename_i h1 h2; rw [if_pos h1, if_pos h2]
    · exact absurd rfl h
  · rename_i h1; rw [if_neg h1]
theorem putR_good {l : List Chunk} (h : (putR l).2 = 0) : validB l = true ∧ szs l ≤ 60000 ∧ (putR l).1 = bytss l := by
  unfold putR at h ⊢
  split at h
  · split at h
    · cases h
    · rename_i h1 h2; rw [if_pos h1, if_neg h2]; exact ⟨h1, by omega, rfl⟩
  · cases h
theorem putR_len (l : List Chunk) (hb : bulkL0 l ≤ 99999000) : (putR l).1.length ≤ 1000000000 := by
  have := bytss_le l
  unfold putR
  split
  · split
    · simp
    · simp only; omega
  · simp

theorem chunkTogether_true (l k : List Chunk) (hl : GoodP E (.rows 0 l)) (hk : GoodP E (.rows 0 k)) (hb : bulkA bulk (.rows 0 l) + bulkA bulk (.rows 0 k) ≤ 1048576) : law26_ChunkTogether l k = some true := by
  rw [bulkA_rows, bulkA_rows] at hb
  have l1 := len_le l
  have l2 := len_le k
  have p1 := putR_len l (by omega)
  have p2 := putR_len k (by omega)
  obtain ⟨b1, e1⟩ := large_is l (by omega)
  obtain ⟨b2, e2⟩ := large_is k (by omega)
  rw [law26_ChunkTogether_eq, e1, e2, awake]
  cases b1 with
  | true => rfl
  | false =>
  cases b2 with
  | true => rfl
  | false =>
  simp only [Option.bind_some, Bool.false_eq_true, if_false, iteD, iteND, List.nil_append, List.length_nil, Nat.zero_add, List.length_append]
  rw [if_pos (by omega), if_pos (by omega), Put_is l (by omega), Put_is k (by omega), Put_is (l ++ k) (by rw [bulkL0_append]; omega)]
  simp only [Option.bind_some]
  by_cases h : (putR (l ++ k)).2 = 0
  · obtain ⟨t1, t2, t3⟩ := together l k h
    rw [if_pos h, if_pos t1, if_pos t2, if_pos (by omega), if_pos (by omega)]
    rw [SameBytes_is _ _ (by rw [List.length_append]; omega), t3]
    simp
  · rw [if_neg h, putR_bad h]
    simp

theorem Size_is (c : Chunk) (hb : bulk0 c ≤ 9999999) : chunk_Size c.id c.kind c.data c.kids = some (if validB [c] then ((sz c : Nat) : Int) else 0, if validB [c] then 0 else 100) := by
  rw [chunk_Size_eq, Valid_is c (by omega), size_is c (by omega)]
  cases validB [c] <;> rfl
theorem rSize_is (c : Chunk) (hb : bulk0 c ≤ 9999999) : ref26_Size c.id c.kind c.data c.kids = some (if validB [c] then ((sz c : Nat) : Int) else 0, if validB [c] then 0 else 100) := by
  rw [ref26_Size_eq, rValid_is c (by omega), rsize_is c (by omega)]
  cases validB [c] <;> rfl
theorem validB_cons {c : Chunk} {l : List Chunk} (h : validB (c :: l) = true) : validB [c] = true ∧ validB l = true := validB_append (l := [c]) (k := l) h

theorem puts_over : ∀ (l : List Chunk) (k : Nat) (a : Int), bulkL0 l ≤ 9999999 → ∃ r, overL law26_ChunkPuts_loop9_step (fun s => some (Sum.inl s)) k l a = some (.inl r) ∧ (validB l = true → 0 ≤ a → a + 8 * bulkL0 l ≤ 1000000000000 → r = a + szs l)
  | [], k, a, hb => ⟨a, rfl, fun _ _ _ => by simp [szs]⟩
  | c :: l, k, a, hb => by
    simp only [bulkL0] at hb
    have hz := sz_le c
    have hs : law26_ChunkPuts_loop9_step k c a = some (.inl (IntKind.i64.wrap (a + (if validB [c] then ((sz c : Nat) : Int) else 0)))) := by
      unfold law26_ChunkPuts_loop9_step
      rw [Size_is c (by omega), rSize_is c (by omega), Valid_is c (by omega), rValid_is c (by omega)]
      simp
    rw [overL_next hs]
    obtain ⟨r, h1, h2⟩ := puts_over l (k + 1) (IntKind.i64.wrap (a + (if validB [c] then ((sz c : Nat) : Int) else 0))) (by omega)
    refine ⟨r, h1, fun hv ha hb2 => ?_⟩
    obtain ⟨v1, v2⟩ := validB_cons hv
    simp only [bulkL0] at hb2
    rw [v1] at h2
    simp only [if_true] at h2
    rw [w64 (by omega)] at h2
    have := h2 v2 (by omega) (by omega)
    simp only [szs]
    omega

theorem chunkPuts_true (l k : List Chunk) (hl : GoodP E (.rows 0 l)) (hk : GoodP E (.rows 0 k)) (hb : bulkA bulk (.rows 0 l) + bulkA bulk (.rows 0 k) ≤ 1048576) : law26_ChunkPuts l k = some true := by
  rw [bulkA_rows, bulkA_rows] at hb
  have l1 := len_le l
  have p1 := putR_len l (by omega)
  obtain ⟨b1, e1⟩ := large_is l (by omega)
  obtain ⟨b2, e2⟩ := large_is k (by omega)
  obtain ⟨r, o1, o2⟩ := puts_over l 0 0 (by omega)
  rw [law26_ChunkPuts_eq, e1, e2, awake]
  cases b1 with
  | true => rfl
  | false =>
  cases b2 with
  | true => rfl
  | false =>
  rw [Put_is l (by omega), rPut_is l (by omega), law26_ChunkPuts_loop9_over l (by omega) 0, o1]
  simp only [Option.bind_some, Bool.false_eq_true, if_false, decide_true, Bool.not_true]
  rw [SameBytes_is _ _ (by omega), Same_is l k (by omega), Same_is l l (by omega), rSame_is l k (by omega), sameL_self]
  simp only [Option.bind_some, iteND, if_true, Bool.not_true, Bool.false_eq_true, if_false, Sum.elim_inl, decide_true, iteD]
  by_cases h : (putR l).2 = 0
  · obtain ⟨g1, g2, g3⟩ := putR_good h
    have := o2 g1 (by omega) (by omega)
    have hlen := bytss_len l (validB_singles g1)
    rw [if_pos h, g3, hlen, if_pos (by omega)]
  · rw [if_neg h]
end Go.Proofs.Ytjabpjkomgakbaa.P
