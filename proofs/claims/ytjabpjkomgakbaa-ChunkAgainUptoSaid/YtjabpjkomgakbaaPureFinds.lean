/- The plain law of ChunkFinds. -/
import Derived.Test.YtjabpjkomgakbaaPurePuts
namespace Go.Proofs.Ytjabpjkomgakbaa.P
open Go Go.Proofs.Ytjabpjkomgakbaa.V
set_option linter.unusedVariables false
set_option linter.unusedSimpArgs false

/-! ### Copies -/
theorem Clone_is (b : List Int) (hb : b.length ≤ 140737488355328) : bytes_Clone b = some b := by
  rw [bytes_Clone_eq]
  simp only [List.length_nil, Nat.zero_add, List.nil_append]
  cases b with
  | nil => simp [demon_same]
  | cons x l =>
    simp only [List.length_cons] at hb ⊢
    rw [if_neg (by omega), if_pos (by omega)]
theorem chunk_eta (c : Chunk) : Chunk.mk c.id c.kind c.data c.kids = c := by cases c; rfl
mutual
theorem clone_is : ∀ c : Chunk, bulk0 c ≤ 100000000 → chunk_clone c.id c.kind c.data c.kids = some (c.id, c.kind, c.data, c.kids)
  | .mk id kind data kids, hb => by
    have hk := len_le kids
    simp only [bulk0] at hb
    show chunk_clone id kind data kids = _
    rw [chunk_clone_eq, Clone_is data (by omega), chunk_clone_loop4_over kids (by omega), clone_over kids (by omega) 0 [] (by simp; omega)]
    rfl
theorem clone_over : ∀ l : List Chunk, bulkL0 l ≤ 100000000 → ∀ (k : Nat) (out : List Chunk), out.length + l.length ≤ 1000000000 →
    overL chunk_clone_loop4_step some k l out = some (out ++ l)
  | [], hb, k, out, ho => by simp [overL]
  | c :: l, hb, k, out, ho => by
    simp only [bulkL0] at hb
    simp only [List.length_cons] at ho
    rw [overL_next (s' := out ++ [c]) (by
      unfold chunk_clone_loop4_step
      rw [clone_is c (by omega)]
      simp only [Option.bind_some, List.length_cons, List.length_nil]
      rw [if_pos (by omega), chunk_eta]), clone_over l (by omega) (k + 1) _ (by simp; omega)]
    simp
end

/-! ### The way down a path -/
def nameOf (c : Chunk) : List Int := if c.id = FORM then c.kind else c.id
def firstIx (p : Chunk → Bool) : List Chunk → Option Nat
  | [] => none
  | c :: l => if p c then some 0 else (firstIx p l).map (· + 1)
theorem firstIx_get {p : Chunk → Bool} : ∀ {l : List Chunk}, (∀ j, firstIx p l = some j → ∃ c, l[j]? = some c ∧ l.find? p = some c) ∧ (firstIx p l = none → l.find? p = none)
  | [] => ⟨fun j h => by simp [firstIx] at h, fun _ => rfl⟩
  | c :: l => by
    obtain ⟨i1, i2⟩ := firstIx_get (p := p) (l := l)
    simp only [firstIx, List.find?_cons]
    cases hp : p c with
    | true => exact ⟨fun j h => by simp at h; subst h; exact ⟨c, by simp, rfl⟩, fun h => by simp at h⟩
    | false =>
      refine ⟨fun j h => ?_, fun h => ?_⟩
      · simp at h
        obtain ⟨j', h1, rfl⟩ := h
        obtain ⟨d, g1, g2⟩ := i1 j' h1
        exact ⟨d, by simpa using g1, g2⟩
      · simp at h; exact i2 h
theorem chunk_name_is (c : Chunk) : chunk_name c.id c.kind c.data c.kids = some (nameOf c) := by
  rw [chunk_name_eq]; simp only [iteD, nameOf]; split <;> rfl
theorem ref26_name_is (c : Chunk) : ref26_name c.id c.kind c.data c.kids = some (nameOf c) := by
  rw [ref26_name_eq]; simp only [iteD, nameOf]; split <;> rfl
theorem idx_over : ∀ (l : List Chunk) (k : Nat) (b : List Int), overL slices_IndexFunc_api_Chunk_api_Chunk_loop2_step (fun s => some (Sum.inl s)) k l b =
    some (match firstIx (fun c => decide (nameOf c = b)) l with | none => .inl b | some j => .inr (((k + j : Nat) : Int), b))
  | [], k, b => rfl
  | c :: l, k, b => by
    have hs : slices_IndexFunc_api_Chunk_api_Chunk_loop2_step k c b = if nameOf c = b then some (.inr (.inr ((k : Int), b))) else some (.inl b) := by
      unfold slices_IndexFunc_api_Chunk_api_Chunk_loop2_step
      rw [chunk_Find_1_eq, chunk_name_is]
      simp
    simp only [firstIx]
    by_cases h : nameOf c = b
    · rw [overL_exit (a := .inr ((k : Int), b)) (by rw [hs, if_pos h])]
      simp [h]
    · rw [overL_next (s' := b) (by rw [hs, if_neg h]), idx_over l (k + 1) b]
      simp only [h, decide_false, Bool.false_eq_true, if_false]
      cases firstIx (fun c => decide (nameOf c = b)) l with
      | none => rfl
      | some j => simp only [Option.map_some]; congr 3; omega
theorem IndexFunc_is (l : List Chunk) (b : List Int) (hl : l.length ≤ 4611686018427387904) : slices_IndexFunc_api_Chunk_api_Chunk l b =
    some ((match firstIx (fun c => decide (nameOf c = b)) l with | none => (-1 : Int) | some j => ((j : Nat) : Int)), b) := by
  rw [slices_IndexFunc_api_Chunk_api_Chunk_eq, slices_IndexFunc_api_Chunk_api_Chunk_loop2_over l hl b, idx_over]
  cases firstIx (fun c => decide (nameOf c = b)) l with
  | none => rfl
  | some j => simp
def walk : List (List Int) → List Chunk → Chunk → Option Chunk
  | [], _, f => some f
  | s :: p, l, _ => match l.find? (fun c => decide (nameOf c = s)) with
    | none => none
    | some c => walk p c.kids c
theorem find_bulk {l : List Chunk} {p : Chunk → Bool} {c : Chunk} (h : l.find? p = some c) : bulk0 c ≤ bulkL0 l := by
  obtain ⟨i, hi⟩ := List.getElem?_of_mem (List.mem_of_find?_eq_some h)
  exact bulk_get hi
theorem kids_bulk (c : Chunk) : bulkL0 c.kids ≤ bulk0 c := by cases c; simp only [bulk0]; omega
theorem walk_bulk : ∀ {p : List (List Int)} {l : List Chunk} {f c : Chunk}, walk p l f = some c → p ≠ [] → bulk0 c ≤ bulkL0 l
  | [], _, _, _, _, h => absurd rfl h
  | s :: p, l, f, c, h, _ => by
    simp only [walk] at h
    split at h
    · cases h
    · rename_i d hd
      have h1 := find_bulk hd
      have h2 := kids_bulk d
      cases p with
      | nil => simp only [walk] at h; cases h; exact h1
      | cons s' p => have := walk_bulk h (by simp); omega
abbrev FS := (List Chunk) × (List Int) × (List Int) × (List Int) × (List Chunk) × (List Int) × (List Int) × (List Int) × (List Chunk)
abbrev FA := ((List Int) × (List Int) × (List Int) × (List Chunk) × (List Int) × (List Int) × (List Int) × (List Chunk)) ⊕ (Int × (List Int) × (List Int) × (List Int) × (List Chunk) × (List Int) × (List Int) × (List Int) × (List Chunk))
theorem find_over (fin : FS → Option FA) : ∀ (p : List (List Int)) (k : Nat) (l : List Chunk) (f : Chunk), bulkL0 l ≤ 100000000 →
    (∀ c, walk p l f = some c → ∃ l', overL chunk_Find_loop5_step fin k p (l, [], [], [], [], f.id, f.kind, f.data, f.kids) = fin (l', [], [], [], [], c.id, c.kind, c.data, c.kids)) ∧
    (walk p l f = none → ∃ r, overL chunk_Find_loop5_step fin k p (l, [], [], [], [], f.id, f.kind, f.data, f.kids) = some (.inr (5, [], [], [], [], r)))
  | [], k, l, f, hb => ⟨fun c h => (by cases h; exact ⟨l, rfl⟩), fun h => (by cases h)⟩
  | s :: p, k, l, f, hb => by
    have hl := len_le l
    obtain ⟨g1, g2⟩ := firstIx_get (p := fun c => decide (nameOf c = s)) (l := l)
    simp only [walk]
    cases hj : firstIx (fun c => decide (nameOf c = s)) l with
    | none =>
      rw [g2 hj]
      refine ⟨fun c h => (by cases h), fun _ => ?_⟩
      rw [overL_exit (a := .inr (5, [], [], [], [], f.id, f.kind, f.data, f.kids)) (by
        unfold chunk_Find_loop5_step
        simp only [IndexFunc_is l s (by omega), hj, Option.bind_some]
        simp)]
      exact ⟨_, rfl⟩
    | some j =>
      obtain ⟨c, h1, h2⟩ := g1 j hj
      rw [h2]
      have hc := bulk_get h1
      have hk := kids_bulk c
      rw [overL_next (s' := (c.kids, [], [], [], [], c.id, c.kind, c.data, c.kids)) (by
        unfold chunk_Find_loop5_step
        simp only [IndexFunc_is l s (by omega), hj, Option.bind_some, iteD]
        have h0 : ¬ ((j : Nat) : Int) < 0 := by omega
        have h0' : (0 : Int) ≤ ((j : Nat) : Int) := by omega
        simp [h0, h0', h1])]
      exact find_over fin p (k + 1) c.kids c (by omega)
theorem Find_is (l : List Chunk) (p : List (List Int)) (hb : bulkL0 l ≤ 9999000) (hp : p.length ≤ 100000000) : chunk_Find l p =
    some (if validB l then (if p = [] then (([], [], [], [], 5) : List Int × List Int × List Int × List Chunk × Int) else match walk p l (.mk [] [] [] []) with | none => ([], [], [], [], 5) | some c => (c.id, c.kind, c.data, c.kids, 0)) else ([], [], [], [], 100)) := by
  rw [chunk_Find_eq, valid_is l (by omega), chunk_Find_loop5_over p (by omega) (l, [], [], [], [], [], [], [], [])]
  simp only [Option.bind_some]
  cases validB l with
  | false => rfl
  | true =>
    simp only [Bool.not_true, Bool.false_eq_true, if_false, if_true]
    obtain ⟨g1, g2⟩ := find_over _ p 0 l (.mk [] [] [] []) (by omega)
    cases hw : walk p l (.mk [] [] [] []) with
    | none =>
      obtain ⟨r, e⟩ := g2 hw
      rw [e]
      have : p ≠ [] := fun e => by subst e; simp [walk] at hw
      simp only [Option.bind_some, Sum.elim_inr, this, if_false]
    | some c =>
      obtain ⟨l', e⟩ := g1 c hw
      rw [e]
      simp only [Option.bind_some, Sum.elim_inl, iteD]
      by_cases hpe : p = []
      · simp [hpe]
      · have hpl : ¬ ((p.length : Nat) : Int) = 0 := by cases p with | nil => exact absurd rfl hpe | cons => simp; omega
        have := walk_bulk hw hpe
        rw [if_neg hpl, if_neg hpe, clone_is c (by omega)]
        rfl
/-! ### The reference's way -/
theorem ridx_loop (l : List Chunk) (s : List Int) (hl : l.length ≤ 4611686018427387904) : ∀ k : Nat, k ≤ l.length → loop (ref26_Find_loop7 l s) (k : Int) =
    some (match firstIx (fun c => decide (nameOf c = s)) (l.drop k) with | none => (l.length : Int) | some j => ((k + j : Nat) : Int)) := by
  intro k hk
  generalize hn : l.length - k = n
  induction n generalizing k with
  | zero =>
    have : k = l.length := by omega
    subst this
    rw [List.drop_length, loop_done (a := (l.length : Int)) (by unfold ref26_Find_loop7; simp)]
    rfl
  | succ n ih =>
    have hlt : k < l.length := by omega
    have hg : l[k]? = some l[k] := List.getElem?_eq_getElem hlt
    rw [List.drop_eq_getElem_cons hlt]
    have hs : ref26_Find_loop7 l s (k : Int) = if nameOf l[k] = s then some (.inr (k : Int)) else some (.inl ((k + 1 : Nat) : Int)) := by
      unfold ref26_Find_loop7
      simp only [iteD]
      rw [if_pos (by omega), if_pos (by omega), Int.toNat_natCast, hg]
      simp only [Option.bind_some, ref26_name_is]
      rw [w64 (by omega)]
      by_cases h : nameOf l[k] = s <;> simp [h]
    simp only [firstIx]
    by_cases h : nameOf l[k] = s
    · rw [loop_done (a := (k : Int)) (by rw [hs, if_pos h])]
      simp [h]
    · rw [loop_step (s' := ((k + 1 : Nat) : Int)) (by rw [hs, if_neg h]), ih (k + 1) (by omega) (by omega)]
      simp only [h, decide_false, Bool.false_eq_true, if_false]
      cases firstIx (fun c => decide (nameOf c = s)) (l.drop (k + 1)) with
      | none => rfl
      | some j => simp only [Option.map_some]; congr 2; omega
theorem firstIx_lt {p : Chunk → Bool} {l : List Chunk} {j : Nat} (h : firstIx p l = some j) : j < l.length := by
  obtain ⟨c, h1, _⟩ := (firstIx_get (p := p) (l := l)).1 j h
  exact lt_len_of_get h1
abbrev RFS := (List Chunk) × (List Int) × (List Int) × (List Int) × (List Chunk)
abbrev RFA := ((List Int) × (List Int) × (List Int) × (List Chunk)) ⊕ (Int × (List Int) × (List Int) × (List Int) × (List Chunk))
theorem rfind_over (path : List (List Int)) (hp : path.length ≤ 100000000) (fin : RFS → Option RFA) : ∀ (p : List (List Int)) (k : Nat) (l : List Chunk) (f : Chunk), p ≠ [] → path.length = k + p.length → bulkL0 l ≤ 100000000 →
    overL (ref26_Find_loop4_step path) fin k p (l, [], [], [], []) = some (match walk p l f with | none => .inl ([], [], [], []) | some c => .inr (0, c.id, c.kind, c.data, c.kids))
  | [], _, _, _, h, _, _ => absurd rfl h
  | s :: p, k, l, f, _, hlen, hb => by
    have hl := len_le l
    simp only [List.length_cons] at hlen
    obtain ⟨g1, g2⟩ := firstIx_get (p := fun c => decide (nameOf c = s)) (l := l)
    have hlp := ridx_loop l s (by omega) 0 (by omega)
    rw [List.drop_zero] at hlp
    simp only [walk]
    cases hj : firstIx (fun c => decide (nameOf c = s)) l with
    | none =>
      rw [hj] at hlp
      rw [g2 hj, overL_exit (a := .inl ([], [], [], []))]
      unfold ref26_Find_loop4_step
      simp only
      rw [show (0 : Int) = ((0 : Nat) : Int) from rfl, hlp]
      simp
    | some j =>
      rw [hj] at hlp
      obtain ⟨c, h1, h2⟩ := g1 j hj
      have hjl := firstIx_lt hj
      have hc := bulk_get h1
      have hk := kids_bulk c
      rw [h2]
      cases p with
      | nil =>
        simp only [List.length_nil] at hlen
        simp only [walk]
        rw [overL_exit (a := .inr (0, c.id, c.kind, c.data, c.kids))]
        unfold ref26_Find_loop4_step
        simp only [iteD]
        rw [show (0 : Int) = ((0 : Nat) : Int) from rfl, hlp]
        simp only [Option.bind_some, Nat.zero_add]
        rw [if_neg (by omega), w64 (by omega), if_pos (by omega), if_pos (by omega), Int.toNat_natCast, h1]
        rfl
      | cons s' p =>
        simp only [List.length_cons] at hlen
        rw [overL_next (s' := (c.kids, [], [], [], [])) ?_, rfind_over path hp fin (s' :: p) (k + 1) c.kids c (by simp) (by simp only [List.length_cons]; omega) (by omega)]
        unfold ref26_Find_loop4_step
        simp only [iteD]
        rw [show (0 : Int) = ((0 : Nat) : Int) from rfl, hlp]
        simp only [Option.bind_some, Nat.zero_add]
        rw [if_neg (by omega), w64 (by omega), if_neg (by omega), if_pos (by omega), Int.toNat_natCast, h1]
        rfl
theorem rFind_is (l : List Chunk) (p : List (List Int)) (hb : bulkL0 l ≤ 9999000) (hp : p.length ≤ 100000000) : ref26_Find l p =
    some (if validB l then (if p = [] then (([], [], [], [], 5) : List Int × List Int × List Int × List Chunk × Int) else match walk p l (.mk [] [] [] []) with | none => ([], [], [], [], 5) | some c => (c.id, c.kind, c.data, c.kids, 0)) else ([], [], [], [], 100)) := by
  rw [ref26_Find_eq, ValidList_is l (by omega), ref26_Find_loop4_over p (by omega) (l, [], [], [], [])]
  simp only [Option.bind_some]
  cases validB l with
  | false => rfl
  | true =>
    simp only [Bool.not_true, Bool.false_eq_true, if_false, if_true]
    by_cases hpe : p = []
    · subst hpe; rfl
    · rw [rfind_over p hp _ p 0 l (.mk [] [] [] []) hpe (by omega) (by omega), if_neg hpe]
      cases walk p l (.mk [] [] [] []) <;> rfl

/-! ### All with an Id -/
mutual
def allC (id : List Int) : Chunk → List Chunk
  | .mk i k d kids => if i = FORM then allL id kids else if i = id then [.mk i k d kids] else []
def allL (id : List Int) : List Chunk → List Chunk
  | [] => []
  | c :: l => allC id c ++ allL id l
end
mutual
theorem allC_len (id : List Int) : ∀ c : Chunk, (allC id c).length ≤ bulk0 c
  | .mk i k d kids => by
    have := allL_len id kids
    simp only [allC, bulk0]
    split
    · omega
    · split
      · simp only [List.length_cons, List.length_nil]; omega
      · simp
theorem allL_len (id : List Int) : ∀ l : List Chunk, (allL id l).length ≤ bulkL0 l
  | [] => by simp [allL]
  | c :: l => by
    have := allC_len id c
    have := allL_len id l
    simp only [allL, bulkL0, List.length_append]; omega
end
mutual
theorem allC_bulk (id : List Int) : ∀ c : Chunk, bulkL0 (allC id c) ≤ bulk0 c
  | .mk i k d kids => by
    have := allL_bulk id kids
    simp only [allC]
    split
    · simp only [bulk0]; omega
    · split
      · simp only [bulkL0]; omega
      · simp [bulkL0]
theorem allL_bulk (id : List Int) : ∀ l : List Chunk, bulkL0 (allL id l) ≤ bulkL0 l
  | [] => by simp [allL]
  | c :: l => by
    have := allC_bulk id c
    have := allL_bulk id l
    simp only [allL, bulkL0, bulkL0_append]; omega
end
mutual
theorem all_kids (id : List Int) : ∀ c : Chunk, bulk0 c ≤ 100000000 → chunk_all c.kids id = some (allL id c.kids)
  | .mk i k d kids, hb => by
    have hk := len_le kids
    simp only [bulk0] at hb
    show chunk_all kids id = some (allL id kids)
    rw [chunk_all_eq, chunk_all_loop3_over kids id (by omega), all_over id kids (by omega) 0 [] (by simp; omega)]
    rfl
theorem all_over (id : List Int) : ∀ l : List Chunk, bulkL0 l ≤ 100000000 → ∀ (n : Nat) (out : List Chunk), out.length + bulkL0 l ≤ 1000000000 →
    overL (chunk_all_loop3_step id) some n l out = some (out ++ allL id l)
  | [], hb, n, out, ho => by simp [overL, allL]
  | .mk i k d kids :: l, hb, n, out, ho => by
    simp only [bulkL0] at hb ho
    have h1 := allC_len id (.mk i k d kids)
    have h2 := all_kids id (.mk i k d kids) (by omega)
    have h3 := clone_is (.mk i k d kids) (by omega)
    simp only at h2 h3
    have h4 := allL_len id kids
    rw [overL_next (s' := out ++ allC id (.mk i k d kids)) ?_, all_over id l (by omega) (n + 1) _ (by simp; omega)]
    · simp [allL]
    unfold chunk_all_loop3_step
    simp only [bulk0] at ho hb
    simp only [iteD, h2, h3, Option.bind_some, allC]
    by_cases e1 : i = FORM
    · rw [if_pos e1, if_pos (by omega), if_pos e1]
    · rw [if_neg e1, if_neg e1]
      by_cases e2 : i = id
      · rw [if_pos e2, if_pos (by simp only [List.length_cons, List.length_nil]; omega), if_pos e2]
      · rw [if_neg e2, if_neg e2]; simp
end
theorem All_is (l : List Chunk) (id : List Int) (hb : bulkL0 l ≤ 9999000) : chunk_All l id = some (if validB l then (allL id l, 0) else ([], 100)) := by
  have := all_kids id (.mk [] [] [] l) (by simp [bulk0]; omega)
  simp only at this
  rw [chunk_All_eq, valid_is l (by omega), this]
  cases validB l <;> rfl
mutual
theorem rall_kids (id : List Int) : ∀ c : Chunk, bulk0 c ≤ 100000000 → singles c.kids = true → ref26_all c.kids id = some (allL id c.kids)
  | .mk i k d kids, hb, hv => by
    have hk := len_le kids
    simp only [bulk0] at hb
    show ref26_all kids id = some (allL id kids)
    rw [ref26_all_eq, ref26_all_loop3_over kids id (by omega), rall_over id kids (by omega) hv 0 [] (by simp; omega)]
    rfl
theorem rall_over (id : List Int) : ∀ l : List Chunk, bulkL0 l ≤ 100000000 → singles l = true → ∀ (n : Nat) (out : List Chunk), out.length + bulkL0 l ≤ 1000000000 →
    overL (ref26_all_loop3_step id) some n l out = some (out ++ allL id l)
  | [], hb, hv, n, out, ho => by simp [overL, allL]
  | .mk i k d kids :: l, hb, hv, n, out, ho => by
    simp only [bulkL0] at hb ho
    simp only [singles, Bool.and_eq_true] at hv
    have hv1 := hv.1
    have h1 := allC_len id (.mk i k d kids)
    have h4 := allL_len id kids
    simp only [single, Bool.and_eq_true] at hv1
    have hkv : singles kids = true := by
      by_cases e1 : i = FORM
      · simp only [e1, if_true, Bool.and_eq_true] at hv1; exact hv1.2.2
      · simp only [e1, if_false, Bool.and_eq_true, decide_eq_true_eq] at hv1
        have : kids = [] := List.length_eq_zero_iff.1 hv1.2.2
        subst this; rfl
    have h2 := rall_kids id (.mk i k d kids) (by omega) hkv
    simp only at h2
    rw [overL_next (s' := out ++ allC id (.mk i k d kids)) ?_, rall_over id l (by omega) hv.2 (n + 1) _ (by simp; omega)]
    · simp [allL]
    unfold ref26_all_loop3_step
    simp only [bulk0] at ho hb
    simp only [iteD, h2, Option.bind_some, allC]
    by_cases e1 : i = FORM
    · rw [if_pos e1]
      by_cases e2 : i = id
      · have : id = FORM := e2 ▸ e1
        simp only [e2, if_true, this, decide_true, Bool.not_true, Option.bind_some, Bool.false_eq_true, if_false]
        rw [← this, if_pos (by omega)]
      · simp only [e2, if_false, Option.bind_some, Bool.false_eq_true]
        rw [if_pos (by omega)]
    · rw [if_neg e1]
      simp only [e1, if_false, Bool.and_eq_true, decide_eq_true_eq] at hv1
      have : kids = [] := List.length_eq_zero_iff.1 hv1.2.2
      subst this
      by_cases e2 : i = id
      · have : ¬ id = FORM := fun e => e1 (e2.trans e)
        simp only [e2, if_true, this, decide_false, Bool.not_false, Option.bind_some, allL, List.append_nil, List.length_nil]
        rw [if_pos (by simp only [List.length_cons, List.length_nil]; omega)]
        simp only [Option.bind_some]
        rw [if_pos (by simp only [List.length_append, List.length_cons, List.length_nil]; omega)]
      · simp only [e2, if_false, Option.bind_some, Bool.false_eq_true, allL, List.append_nil, List.length_nil]
        rw [if_pos (by omega)]
end
theorem rAll_is (l : List Chunk) (id : List Int) (hb : bulkL0 l ≤ 9999000) : ref26_All l id = some (if validB l then (allL id l, 0) else ([], 100)) := by
  rw [ref26_All_eq, ValidList_is l (by omega)]
  cases hv : validB l with
  | false => rfl
  | true =>
    have := rall_kids id (.mk [] [] [] l) (by simp [bulk0]; omega) (validB_singles hv)
    simp only at this
    rw [this]; rfl

theorem chunkFinds_true (l : List Chunk) (path : List (List Int)) (id : List Int) (hl : GoodP E (.rows 0 l)) (hp : GoodP E (.rows 1 path)) (hi : GoodP E (.str id))
    (hb : bulkA bulk (.rows 0 l) + bulkA bulk (.rows 1 path) + bulkA bulk (.str id) ≤ 1048576) : law26_ChunkFinds l path id = some true := by
  rw [bulkA_rows] at hb
  obtain ⟨b1, e1⟩ := large_is l (by omega)
  rw [law26_ChunkFinds_eq, e1, awake]
  cases b1 with
  | true => rfl
  | false =>
  simp only [Option.bind_some, Bool.false_eq_true, if_false]
  by_cases h100 : ((path.length : Nat) : Int) > 100
  · simp [h100]
  · simp only [h100, decide_false, Bool.false_eq_true, if_false]
    rw [Find_is l path (by omega) (by omega), rFind_is l path (by omega) (by omega), All_is l id (by omega), rAll_is l id (by omega)]
    simp only [Option.bind_some, decide_true, if_true]
    have hall := allL_bulk id l
    have hs2 : ref26_Same (if validB l = true then (allL id l, (0 : Int)) else ([], 100)).1 (if validB l = true then (allL id l, (0 : Int)) else ([], 100)).1 = some true := by
      cases validB l with
      | true => simp only [if_true]; rw [rSame_is _ _ (by omega), sameL_self]
      | false => simp only [Bool.false_eq_true, if_false]; rw [rSame_is _ _ (by simp [bulkL0]), sameL_self]
    rw [hs2]
    have hs1 : ∀ c : Chunk, bulk0 c ≤ 9999000 → ref26_Same [c] [c] = some true := fun c hc => by
      rw [rSame_is _ _ (by simp only [bulkL0]; omega), sameL_self]
    cases validB l with
    | false => simp only [Bool.false_eq_true, if_false]; rw [hs1 (.mk [] [] [] []) (by simp [bulk0, bulkL0])]; rfl
    | true =>
      simp only [if_true]
      by_cases hpe : path = []
      · simp only [hpe, if_true]; rw [hs1 (.mk [] [] [] []) (by simp [bulk0, bulkL0])]; rfl
      · simp only [hpe, if_false]
        cases hw : walk path l (.mk [] [] [] []) with
        | none => simp only; rw [hs1 (.mk [] [] [] []) (by simp [bulk0, bulkL0])]; rfl
        | some c =>
          have := walk_bulk hw hpe
          simp only; rw [chunk_eta, hs1 c (by omega)]; rfl
end Go.Proofs.Ytjabpjkomgakbaa.P
