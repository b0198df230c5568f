/- The plain law of ChunkReplaces. -/
import Derived.Test.YtjabpjkomgakbaaPureFinds
namespace Go.Proofs.Ytjabpjkomgakbaa.P
open Go Go.Proofs.Ytjabpjkomgakbaa.V
set_option linter.unusedVariables false
set_option linter.unusedSimpArgs false

def fresh (id data : List Int) : Chunk := .mk id [] data []
def repl (id data : List Int) : List Chunk → List Chunk
  | [] => [fresh id data]
  | c :: l => if c.id = id then fresh id data :: l else c :: repl id data l

theorem repl_none {id data : List Int} : ∀ {l : List Chunk}, firstIx (fun c => decide (c.id = id)) l = none → repl id data l = l ++ [fresh id data]
  | [], _ => rfl
  | c :: l, h => by
    simp only [firstIx] at h
    by_cases hc : c.id = id
    · simp [hc] at h
    · simp only [hc, decide_false, Bool.false_eq_true, if_false, Option.map_eq_none_iff] at h
      simp only [repl, hc, if_false, repl_none h, List.cons_append]
theorem repl_some {id data : List Int} : ∀ {l : List Chunk} {j : Nat}, firstIx (fun c => decide (c.id = id)) l = some j → repl id data l = l.set j (fresh id data)
  | [], j, h => by simp [firstIx] at h
  | c :: l, j, h => by
    simp only [firstIx] at h
    by_cases hc : c.id = id
    · simp [hc] at h; subst h; simp [repl, hc]
    · simp only [hc, decide_false, Bool.false_eq_true, if_false, Option.map_eq_some_iff] at h
      obtain ⟨j', h1, rfl⟩ := h
      simp only [repl, hc, if_false, repl_some h1, List.set_cons_succ]
theorem repl_bulk {id data : List Int} : ∀ l : List Chunk, bulkL0 (repl id data l) ≤ bulkL0 l + (id.length + data.length + 4)
  | [] => by simp [repl, bulkL0, fresh, bulk0]; omega
  | c :: l => by
    have := repl_bulk (id := id) (data := data) l
    simp only [repl]
    split
    · simp only [bulkL0, fresh, bulk0, List.length_nil]; omega
    · simp only [bulkL0]; omega
theorem repl_repl {id data : List Int} : ∀ l : List Chunk, repl id data (repl id data l) = repl id data l
  | [] => by simp [repl, fresh]
  | c :: l => by
    simp only [repl]
    by_cases hc : c.id = id
    · simp [hc, repl, fresh]
    · simp [hc, repl, repl_repl l]
theorem repl_find {id data : List Int} (hid : id ≠ FORM) : ∀ l : List Chunk, ∃ c, (repl id data l).find? (fun c => decide (nameOf c = id)) = some c ∧ (c.id = FORM ∨ c.data = data)
  | [] => ⟨fresh id data, by simp [repl, fresh, nameOf, hid], .inr rfl⟩
  | c :: l => by
    simp only [repl]
    by_cases hc : c.id = id
    · rw [if_pos hc]
      exact ⟨fresh id data, by simp [fresh, nameOf, hid], .inr rfl⟩
    · rw [if_neg hc, List.find?_cons]
      by_cases hn : nameOf c = id
      · refine ⟨c, by simp [hn], .inl ?_⟩
        unfold nameOf at hn
        split at hn
        · assumption
        · exact absurd hn hc
      · simp only [hn, decide_false]
        exact repl_find hid l
/-- where the Id is there, nothing but Data changes -/
theorem repl_valid {id data : List Int} (hid : id ≠ FORM) : ∀ {l : List Chunk} {j : Nat}, firstIx (fun c => decide (c.id = id)) l = some j → singles l = true →
    singles (repl id data l) = true ∧ cnts (repl id data l) = cnts l ∧ deps (repl id data l) = deps l
  | [], j, h, _ => by simp [firstIx] at h
  | .mk i k d kids :: l, j, h, hv => by
    simp only [singles, Bool.and_eq_true] at hv
    simp only [firstIx] at h
    by_cases hc : i = id
    · subst hc
      have h1 := hv.1
      simp only [single, hid, if_false, Bool.and_eq_true, decide_eq_true_eq] at h1
      have : kids = [] := List.length_eq_zero_iff.1 h1.2.2
      subst this
      simp [repl, fresh, singles, single, hid, h1.1, hv.2, cnts, cnt, deps, dep]
    · simp only [hc, decide_false, Bool.false_eq_true, if_false, Option.map_eq_some_iff] at h
      obtain ⟨j', h1, rfl⟩ := h
      obtain ⟨g1, g2, g3⟩ := repl_valid (data := data) hid h1 hv.2
      simp only [repl, hc, if_false, singles, cnts, deps, g1, g2, g3, hv.1, Bool.and_self, and_self]

theorem ridx2_over : ∀ (l : List Chunk) (k : Nat) (b : List Int), overL slices_IndexFunc_api_Chunk_api_Chunk_2_loop2_step (fun s => some (Sum.inl s)) k l b =
    some (match firstIx (fun c => decide (c.id = b)) l with | none => .inl b | some j => .inr (((k + j : Nat) : Int), b))
  | [], k, b => rfl
  | c :: l, k, b => by
    have hs : slices_IndexFunc_api_Chunk_api_Chunk_2_loop2_step k c b = if c.id = b then some (.inr (.inr ((k : Int), b))) else some (.inl b) := by
      unfold slices_IndexFunc_api_Chunk_api_Chunk_2_loop2_step
      rw [chunk_Replace_1_eq]
      simp
    simp only [firstIx]
    by_cases h : c.id = b
    · rw [overL_exit (a := .inr ((k : Int), b)) (by rw [hs, if_pos h])]
      simp [h]
    · rw [overL_next (s' := b) (by rw [hs, if_neg h]), ridx2_over l (k + 1) b]
      simp only [h, decide_false, Bool.false_eq_true, if_false]
      cases firstIx (fun c => decide (c.id = b)) l with
      | none => rfl
      | some j => simp only [Option.map_some]; congr 3; omega
theorem IndexFunc2_is (l : List Chunk) (b : List Int) (hl : l.length ≤ 4611686018427387904) : slices_IndexFunc_api_Chunk_api_Chunk_2 l b =
    some ((match firstIx (fun c => decide (c.id = b)) l with | none => (-1 : Int) | some j => ((j : Nat) : Int)), b) := by
  rw [slices_IndexFunc_api_Chunk_api_Chunk_2_eq, slices_IndexFunc_api_Chunk_api_Chunk_2_loop2_over l hl b, ridx2_over]
  cases firstIx (fun c => decide (c.id = b)) l with
  | none => rfl
  | some j => simp
theorem Replace_over : ∀ l : List Chunk, bulkL0 l ≤ 100000000 → ∀ (k : Nat) (out : List Chunk), out.length + l.length ≤ 1000000000 →
    overL chunk_Replace_loop5_step some k l out = some (out ++ l)
  | [], hb, k, out, ho => by simp [overL]
  | c :: l, hb, k, out, ho => by
    simp only [bulkL0] at hb
    simp only [List.length_cons] at ho
    rw [overL_next (s' := out ++ [c]) (by
      unfold chunk_Replace_loop5_step
      rw [clone_is c (by omega)]
      simp only [Option.bind_some, List.length_cons, List.length_nil]
      rw [if_pos (by omega), chunk_eta]), Replace_over l (by omega) (k + 1) _ (by simp; omega)]
    simp
def kindB (id : List Int) : Bool := idB id && !decide (id = FORM)
def replR (l : List Chunk) (id data : List Int) : List Chunk × Int :=
  if validB l = true ∧ kindB id = true then (if validB (repl id data l) then (repl id data l, 0) else ([], 100)) else ([], 100)
theorem Replace_is (l : List Chunk) (id data : List Int) (hb : bulkL0 l ≤ 5000000) (hi : id.length ≤ 2000000) (hd : data.length ≤ 2000000) : chunk_Replace l id data = some (replR l id data) := by
  have hl := len_le l
  have hrb := repl_bulk (id := id) (data := data) l
  rw [chunk_Replace_eq, valid_is l (by omega), isKind_is, chunk_Replace_loop5_over l (by omega), Replace_over l (by omega) 0 [] (by simp; omega)]
  unfold replR kindB
  cases hv : validB l with
  | false => rfl
  | true =>
  cases hk : (idB id && !decide (id = FORM)) with
  | false => rfl
  | true =>
  simp only [Option.bind_some, Bool.not_true, Bool.false_eq_true, if_false, List.nil_append, Clone_is data (by omega), IndexFunc2_is l id (by omega), and_self, if_true, iteD]
  cases hj : firstIx (fun c => decide (c.id = id)) l with
  | none =>
    simp only
    have hx := repl_none (data := data) hj
    rw [if_neg (by omega), if_pos (by simp only [List.length_cons, List.length_nil]; omega)]
    simp only [Option.bind_some]
    have : l ++ [Chunk.mk id [] data []] = repl id data l := hx.symm
    rw [this, valid_is _ (by omega)]
    cases validB (repl id data l) <;> rfl
  | some j =>
    simp only
    have hx := repl_some (data := data) hj
    obtain ⟨c, h1, _⟩ := (firstIx_get (p := fun c => decide (c.id = id)) (l := l)).1 j hj
    have hlt := lt_len_of_get h1
    have a1 : ((j : Nat) : Int) ≥ 0 := by omega
    have a2 : 0 ≤ ((j : Nat) : Int) ∧ ((j : Nat) : Int) < ((l.length : Nat) : Int) := ⟨by omega, by omega⟩
    rw [if_pos a1, if_pos a2, Int.toNat_natCast, h1]
    simp only [Option.bind_some]
    have : l.set j (Chunk.mk id [] data []) = repl id data l := hx.symm
    rw [this, valid_is _ (by omega)]
    cases validB (repl id data l) <;> rfl
theorem rReplace_over (id data : List Int) (hid : id ≠ FORM) (fin : List Chunk → Option ((List Chunk) ⊕ (Int × (List Chunk)))) (b : List Chunk) : ∀ (l : List Chunk) (k : Nat), b.drop k = l → k + l.length = b.length → singles l = true →
    (∀ j, firstIx (fun c => decide (c.id = id)) l = some j → overL (ref26_Replace_loop5_step id data) fin k l b = some (.inr (0, b.set (k + j) (fresh id data)))) ∧
    (firstIx (fun c => decide (c.id = id)) l = none → overL (ref26_Replace_loop5_step id data) fin k l b = fin b)
  | [], k, hd, hk, hv => ⟨fun j h => by simp [firstIx] at h, fun _ => rfl⟩
  | .mk i kk d kids :: l, k, hd, hk, hv => by
    simp only [List.length_cons] at hk
    simp only [singles, Bool.and_eq_true] at hv
    have hg : b[k]? = some (.mk i kk d kids) := by
      have := List.getElem?_drop (xs := b) (i := k) (j := 0)
      rw [hd] at this
      simpa using this.symm
    have hd' : b.drop (k + 1) = l := by
      have : b.drop (k + 1) = (b.drop k).drop 1 := by rw [List.drop_drop]
      rw [this, hd]; rfl
    have a2 : 0 ≤ ((k : Nat) : Int) ∧ ((k : Nat) : Int) < ((b.length : Nat) : Int) := ⟨by omega, by omega⟩
    simp only [firstIx]
    by_cases hc : i = id
    · subst hc
      have h1 := hv.1
      simp only [single, hid, if_false, Bool.and_eq_true, decide_eq_true_eq] at h1
      have e1 : kids = [] := List.length_eq_zero_iff.1 h1.2.2
      have e2 := h1.2.1
      subst e1; subst e2
      refine ⟨fun j h => ?_, fun h => by simp at h⟩
      simp at h; subst h
      rw [overL_exit (a := .inr (0, b.set k (fresh i data)))]
      · rfl
      unfold ref26_Replace_loop5_step
      rw [if_pos a2, Int.toNat_natCast, hg]
      simp [a2.2, fresh]
    · have hs : ref26_Replace_loop5_step id data k (.mk i kk d kids) b = some (.inl b) := by
        unfold ref26_Replace_loop5_step
        rw [if_pos a2, Int.toNat_natCast, hg]
        simp [hc]
      obtain ⟨g1, g2⟩ := rReplace_over id data hid fin b l (k + 1) hd' (by omega) hv.2
      simp only [hc, decide_false, Bool.false_eq_true, if_false]
      rw [overL_next hs]
      refine ⟨fun j h => ?_, fun h => ?_⟩
      · simp at h
        obtain ⟨j', h1, rfl⟩ := h
        rw [g1 j' h1]
        congr 4; omega
      · simp at h; exact g2 h
theorem rReplace_is (l : List Chunk) (id data : List Int) (hb : bulkL0 l ≤ 5000000) (hi : id.length ≤ 2000000) (hd : data.length ≤ 2000000) : ref26_Replace l id data = some (replR l id data) := by
  have hl := len_le l
  have hrb := repl_bulk (id := id) (data := data) l
  rw [ref26_Replace_eq, ValidList_is l (by omega), IsId_is]
  unfold replR kindB
  cases hv : validB l with
  | false => rfl
  | true =>
  cases hk : idB id with
  | false => rfl
  | true =>
  by_cases hid : id = FORM
  · subst hid; rfl
  simp only [Option.bind_some, Bool.not_true, Bool.false_eq_true, if_false, List.nil_append, hid, decide_false, Bool.not_false, Bool.and_self, and_self, if_true, List.length_nil, Nat.zero_add]
  rw [if_pos (by omega), ref26_Replace_loop5_over id data l (by omega) l]
  obtain ⟨g1, g2⟩ := rReplace_over id data hid (fun s => some (Sum.inl s)) l l 0 rfl (by omega) (validB_singles hv)
  cases hj : firstIx (fun c => decide (c.id = id)) l with
  | none =>
    rw [g2 hj]
    have hx := repl_none (data := data) hj
    simp only [Option.bind_some, Sum.elim_inl]
    rw [if_pos (by simp only [List.length_cons, List.length_nil]; omega)]
    have : l ++ [Chunk.mk id [] data []] = repl id data l := hx.symm
    rw [this, ValidList_is _ (by omega)]
    cases validB (repl id data l) <;> rfl
  | some j =>
    rw [g1 j hj]
    have hx := repl_some (data := data) hj
    obtain ⟨v1, v2, v3⟩ := repl_valid (data := data) hid hj (validB_singles hv)
    have hvr : validB (repl id data l) = true := by
      simp only [validB, v1, v2, v3]
      simp only [validB, Bool.and_eq_true] at hv ⊢
      exact ⟨⟨trivial, hv.1.2⟩, hv.2⟩
    simp only [Option.bind_some, Sum.elim_inr, hvr, if_true, Nat.zero_add]
    rw [hx]

theorem chunkReplaces_true (l : List Chunk) (id data : List Int) (hl : GoodP E (.rows 0 l)) (hi : GoodP E (.str id)) (hd : GoodP E (.ints .u8 data))
    (hb : bulkA bulk (.rows 0 l) + bulkA bulk (.str id) + bulkA bulk (.ints .u8 data) ≤ 1048576) : law26_ChunkReplaces l id data = some true := by
  rw [bulkA_rows] at hb
  simp only [bulkA, bulkP] at hb
  obtain ⟨b1, e1⟩ := large_is l (by omega)
  rw [law26_ChunkReplaces_eq, e1, awake]
  cases b1 with
  | true => rfl
  | false =>
  simp only [Option.bind_some, Bool.false_eq_true, if_false]
  by_cases h100 : ((data.length : Nat) : Int) > 60000
  · simp [h100]
  · simp only [h100, decide_false, Bool.false_eq_true, if_false]
    rw [Replace_is l id data (by omega) (by omega) (by omega), rReplace_is l id data (by omega) (by omega) (by omega)]
    simp only [Option.bind_some, decide_true, Bool.not_true, Bool.false_eq_true, if_false]
    have hrb := repl_bulk (id := id) (data := data) l
    have hrbb : bulkL0 (replR l id data).1 ≤ 4000000 := by
      unfold replR
      split
      · split
        · simp only; omega
        · simp [bulkL0]
      · simp [bulkL0]
    rw [rSame_is _ _ (by omega), sameL_self]
    simp only [Option.bind_some, Bool.not_true, Bool.false_eq_true, if_false]
    by_cases hok : (replR l id data).2 = 0
    · have hx : (replR l id data).1 = repl id data l ∧ validB (repl id data l) = true ∧ kindB id = true := by
        unfold replR at hok ⊢
        split at hok
        · rename_i hc
          split at hok
          · rename_i hv2; rw [if_pos hc, if_pos hv2]; exact ⟨rfl, hv2, hc.2⟩
          · cases hok
        · cases hok
      obtain ⟨x1, x2, x3⟩ := hx
      have hid : id ≠ FORM := by simp only [kindB, Bool.and_eq_true] at x3; simpa using x3.2
      have hagain : replR (repl id data l) id data = (repl id data l, 0) := by
        unfold replR
        rw [if_pos ⟨x2, x3⟩, repl_repl, if_pos x2]
      rw [x1] at hrbb ⊢
      rw [Find_is _ [id] (by omega) (by simp), Replace_is _ id data (by omega) (by omega) (by omega), hagain, x2]
      obtain ⟨c, f1, f2⟩ := repl_find (id := id) (data := data) hid l
      simp only [hok, decide_true, Bool.not_true, Bool.false_eq_true, if_false, if_true, walk, f1, Option.bind_some, List.cons_ne_nil, reduceCtorEq]
      rw [rSame_is _ _ (by omega), sameL_self]
      simp only [Option.bind_some, Bool.not_true, Bool.false_eq_true, if_false]
      rcases f2 with f2 | f2
      · simp [f2]
      · rw [f2, SameBytes_is data data (by omega)]
        simp
    · simp [hok]
end Go.Proofs.Ytjabpjkomgakbaa.P
