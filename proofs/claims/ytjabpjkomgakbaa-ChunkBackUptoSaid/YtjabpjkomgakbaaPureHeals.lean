/- The plain laws of ChunkHeals and ChunkBack. -/
import Derived.Test.YtjabpjkomgakbaaRead
namespace Go.Proofs.Ytjabpjkomgakbaa.P
open Go Go.Proofs.Ytjabpjkomgakbaa.V
set_option linter.unusedVariables false
set_option linter.unusedSimpArgs false
set_option linter.unusedSectionVars false

section
variable {b : List Int} (hby : ∀ x ∈ b, 0 ≤ x ∧ x ≤ 255) (hlen : b.length ≤ 1000000)
include hby hlen in
/-- Heal of bytes of which none is cut off: both go the same way -/
theorem heal_sim (hsm : b.length ≤ 60000) : ∀ s t : Int × Int × Int × List Chunk, (s = t ∧ 0 ≤ s.2.1 ∧ s.2.1 ≤ 400 ∧ (∃ i : Nat, s.2.2.1 = (i : Int) ∧ i ≤ b.length ∧ s.2.2.2.length ≤ i ∧ bulkL0 s.2.2.2 ≤ 2 * i) ∧ 0 ≤ s.1 ∧ s.1 ≤ s.2.2.1) →
    ∃ x y, loop (chunk_Heal_loop5 b ((b.length : Nat) : Int)) s = some x ∧ loop (ref26_Heal_loop5 b ((b.length : Nat) : Int)) t = some y ∧ (x = y ∧ bulkL0 x.2 ≤ 2 * b.length) := by
  refine loop_sim _ _ (fun s => ((b.length : Int) - s.2.2.1).toNat) ?_
  rintro ⟨lost, many, at_, l⟩ t ⟨rfl, h0, h1, ⟨i, rfl, h2, h3, h4⟩, h5, h6⟩
  simp only at h0 h1 h3 h4 h5 h6
  by_cases hi : (i : Int) < ((b.length : Nat) : Int)
  · have g : 0 ≤ ((b.length : Nat) : Int) ∧ ((b.length : Nat) : Int) ≤ ((b.length : Nat) : Int) := ⟨by omega, by omega⟩
    have hcut : cutL b 0 b.length = b := cutL_all b
    have hw : IntKind.i64.wrap ((i : Int) + 1) = ((i + 1 : Nat) : Int) := by rw [w64 (by omega)]; omega
    have hwl : IntKind.i64.wrap (lost + 1) = lost + 1 := w64 (by omega)
    rcases (read_all hby hlen b.length i b.length 1 many (by omega) (by omega) (by omega) (by omega) (by omega) h0 h1).1 with ⟨c, nx, m', hc, o1, o2⟩ | ⟨e, w, he, ⟨m1, o1⟩, q1, q2, q3, q4, q5, m2, o2⟩
    · refine .inl ⟨(lost, m', (nx : Int), l ++ [c]), (lost, m', (nx : Int), l ++ [c]), ?_, ?_, ?_, ?_⟩
      · unfold chunk_Heal_loop5
        simp only [hi, decide_true, if_true, g, and_self, Int.toNat_natCast, hcut, o2, Option.bind_some, Bool.not_true, Bool.false_eq_true, if_false, List.length_cons, List.length_nil]
        rw [if_pos (by omega), chunk_eta]
      · unfold ref26_Heal_loop5
        simp only [hi, decide_true, if_true, g, and_self, Int.toNat_natCast, hcut, o1, Option.bind_some, Bool.not_true, Bool.false_eq_true, if_false, List.length_cons, List.length_nil]
        rw [if_pos (by omega), chunk_eta]
      · have hlo := hc.lo
        have hhi := hc.hi
        have hmm := hc.many
        have hm4 := hc.most
        have hbb := bulk_byts c hc.single
        rw [hc.bytes, cutL_len] at hbb
        refine ⟨rfl, by simp only; omega, by simp only; omega, ⟨nx, rfl, hhi, by simp only [List.length_append, List.length_cons, List.length_nil]; omega, ?_⟩, by simp only; omega, by simp only; omega⟩
        simp only [bulkL0_append, bulkL0]
        omega
      · have hlo := hc.lo
        simp only; omega
    · refine .inl ⟨(lost + 1, many, ((i + 1 : Nat) : Int), l), (lost + 1, many, ((i + 1 : Nat) : Int), l), ?_, ?_, ?_, ?_⟩
      · unfold chunk_Heal_loop5
        simp only [hi, decide_true, if_true, g, and_self, Int.toNat_natCast, hcut, o2, Option.bind_some, he, decide_false, Bool.not_false, hw, hwl]
      · unfold ref26_Heal_loop5
        simp only [hi, decide_true, if_true, g, and_self, Int.toNat_natCast, hcut, o1, Option.bind_some, he, decide_false, Bool.not_false, hw, hwl]
      · exact ⟨rfl, h0, h1, ⟨i + 1, rfl, by omega, by simp only; omega, by simp only; omega⟩, by simp only; omega, by simp only; omega⟩
      · simp only; omega
  · refine .inr ⟨(lost, l), (lost, l), ?_, ?_, rfl, by simp only; omega⟩
    · unfold chunk_Heal_loop5; simp [hi]
    · unfold ref26_Heal_loop5; simp [hi]
include hby hlen in
theorem Heal_both (hsm : b.length ≤ 60000) : ∃ l n, chunk_Heal b = some (l, n) ∧ ref26_Heal b = some (l, n) ∧ bulkL0 l ≤ 2 * b.length := by
  have e1 : imin ((b.length : Nat) : Int) 60000 = ((b.length : Nat) : Int) := by rw [imin_eq]; omega
  have e2 : IntKind.i64.wrap (((b.length : Nat) : Int) - ((b.length : Nat) : Int)) = 0 := by rw [w64 (by omega)]; omega
  obtain ⟨x, y, h1, h2, h3, h4⟩ := heal_sim hby hlen hsm (0, 0, 0, []) (0, 0, 0, []) ⟨rfl, by simp, by simp, ⟨0, rfl, by omega, by simp, by simp [bulkL0]⟩, by simp, by simp⟩
  subst h3
  refine ⟨x.2, x.1, ?_, ?_, h4⟩
  · rw [chunk_Heal_eq, e1]
    simp only [e2, h1, Option.bind_some]
  · rw [ref26_Heal_eq, e1]
    simp only [e2, h2, Option.bind_some]
end
theorem chunkHeals_true (b : List Int) (hg : GoodP E (.ints .u8 b)) (hb : bulkA bulk (.ints .u8 b) ≤ 1048576) : law26_ChunkHeals b = some true := by
  rw [law26_ChunkHeals_eq, awake]
  by_cases hl : ((b.length : Nat) : Int) > 5000
  · simp [hl]
  · simp only [hl, decide_false, Bool.false_eq_true, if_false]
    obtain ⟨l, n, h1, h2, h3⟩ := Heal_both (good_bytes hg) (by omega) (by omega)
    rw [h1, h2]
    simp only [Option.bind_some, decide_true, if_true]
    rw [rSame_is _ _ (by omega), sameL_self]
    rfl

theorem segs_inj {a a' c c' : List Int} (h : a ++ c = a' ++ c') (hl : a.length = a'.length) : a = a' ∧ c = c' := List.append_inj h hl

/-! ### Forward: the reference reads the bytes of chunks as these chunks -/
section
variable {b : List Int} (hby : ∀ x ∈ b, 0 ≤ x ∧ x ≤ 255) (hlen : b.length ≤ 1000000)
set_option maxHeartbeats 4000000 in
include hby hlen in
theorem fwd_step (i en : Nat) (d m : Int) (c : Chunk) (hs : single c = true) (hbt : byts c = cutL b i (i + sz c)) (hen : i + sz c ≤ en) (h2 : en ≤ b.length) (hd1 : 1 ≤ d) (hd2 : d + dep c ≤ 9) (hm0 : 0 ≤ m) (hm4 : m + cnt c ≤ 400)
    (IH : ∀ (j e : Nat), bytss c.kids = cutL b j e → j + szs c.kids = e → e ≤ b.length → ref26_reader_list j e (d + 1) b (m + 1) = some (c.kids, (e : Int), 0, b, m + 1 + cnts c.kids)) :
    ref26_reader_chunk i en d b m = some (c.id, c.kind, c.data, c.kids, ((i + sz c : Nat) : Int), 0, b, m + cnt c) := by
  have hblen := byts_len c hs
  cases c with | mk id kind data kids =>
  simp only at IH
  simp only [cnt, dep] at hd2 hm4 ⊢
  have hs0 := hs
  simp only [single, Bool.and_eq_true] at hs
  have hid := idB_len hs.1
  simp only [sz] at hbt hen hblen ⊢
  obtain ⟨n, hn⟩ : ∃ n, n = (if id = FORM then 4 + szs kids else data.length) := ⟨_, rfl⟩
  simp only [byts] at hbt hblen
  rw [← hn] at hbt hen hblen ⊢
  obtain ⟨inner, hin⟩ : ∃ q, q = (if id = FORM then kind ++ bytss kids else data) := ⟨_, rfl⟩
  rw [← hin] at hbt hblen
  have hinl : inner.length = n := by
    simp only [List.length_append, hdr_len, pad_len] at hblen
    omega
  have hz : i + (8 + (n + 1) / 2 * 2) = i + 8 + n + n % 2 := by omega
  rw [hz] at hbt hen ⊢
  rw [← cutL_append b (i := i) (j := i + 8 + n) (by omega) (by omega), ← cutL_append b (i := i) (j := i + 8) (k := i + 8 + n) (by omega) (by omega), ← cutL_append b (i := i) (j := i + 4) (k := i + 8) (by omega) (by omega)] at hbt
  obtain ⟨q1, s4⟩ := segs_inj hbt (by simp only [List.length_append, hdr_len, cutL_len]; omega)
  obtain ⟨q2, s3⟩ := segs_inj q1 (by simp only [List.length_append, hdr_len, cutL_len]; omega)
  obtain ⟨s1, s2⟩ := segs_inj q2 (by simp only [cutL_len]; omega)
  -- the number
  obtain ⟨y0, y1, y2, y3, g1, g2, _⟩ := be_hdr (n := (n : Int)) (by omega) (by omega)
  have hseg : cutL b (i + 4) (i + 8) = [rd b ((i + 4 : Nat) : Int), rd b ((i + 5 : Nat) : Int), rd b ((i + 6 : Nat) : Int), rd b ((i + 7 : Nat) : Int)] := cutL_four (i := i + 4) (by omega)
  have hrn := rnum_is hby hlen i (by omega)
  rw [← s2, g1] at hseg
  simp only [List.cons.injEq, and_true] at hseg
  rw [← hseg.1, ← hseg.2.1, ← hseg.2.2.1, ← hseg.2.2.2, g2] at hrn
  have hR : ref26_reader_id i en b m = some (id, 0, b, m) := by
    rw [rid_is hlen i en (by omega) h2, if_neg (by omega), ← s1, hs.1]; rfl
  have wm : IntKind.i64.wrap (m + 1) = m + 1 := w64 (by omega)
  have w4 : IntKind.i64.wrap ((i : Int) + 4) = ((i + 4 : Nat) : Int) := by rw [w64 (by omega)]; omega
  have w8' : IntKind.i64.wrap ((i : Int) + 8) = ((i + 8 : Nat) : Int) := by rw [w64 (by omega)]; omega
  have we : IntKind.i64.wrap ((en : Int) - (i : Int)) = (en : Int) - (i : Int) := w64 (by omega)
  have wd : IntKind.i64.wrap (d + 1) = d + 1 := w64 (by omega)
  have c3 : ¬ m = 400 := by omega
  have c4 : ¬ d > 8 := by omega
  have e3' : ¬ (en : Int) - (i : Int) < 8 := by omega
  have ws : IntKind.i64.wrap ((en : Int) - (i : Int) - 8) = (en : Int) - (i : Int) - 8 := w64 (by omega)
  have r6 : ¬ (n : Int) > (en : Int) - (i : Int) - 8 := by omega
  have wn : IntKind.i64.wrap (((i + 8 : Nat) : Int) + (n : Int)) = ((i + 8 + n : Nat) : Int) := by rw [w64 (by omega)]; omega
  have w12 : IntKind.i64.wrap (((i + 8 : Nat) : Int) + 4) = ((i + 12 : Nat) : Int) := by rw [w64 (by omega)]; omega
  have hmod : (n : Int).tmod 2 = ((n % 2 : Nat) : Int) := by rw [tmod_pos (by omega)]; omega
  have wnx : IntKind.i64.wrap (((i + 8 + n : Nat) : Int) + 1) = ((i + 8 + n + 1 : Nat) : Int) := by rw [w64 (by omega)]; omega
  have g3 : 0 ≤ ((i + 8 + n : Nat) : Int) ∧ ((i + 8 + n : Nat) : Int) ≤ ((b.length : Nat) : Int) := ⟨by omega, by omega⟩
  have g4 : 0 ≤ ((i + 8 : Nat) : Int) ∧ ((i + 8 : Nat) : Int) ≤ ((i + 8 + n : Nat) : Int) := ⟨by omega, by omega⟩
  have gl : (([] : List Int).length + (cutL b (i + 8) (i + 8 + n)).length) * 1 ≤ 140737488355328 := by rw [cutL_len, List.length_nil]; omega
  -- the padding
  have hpz : n % 2 = 1 → rd b ((i + 8 + n : Nat) : Int) = 0 := fun hp => by
    unfold pad at s4
    rw [if_pos hp, hp] at s4
    have hg : b[i + 8 + n]? = some (rd b ((i + 8 + n : Nat) : Int)) := by
      have := rd_get (xs := b) (i := ((i + 8 + n : Nat) : Int)) (by omega) (by omega)
      rw [Int.toNat_natCast] at this
      exact this
    rw [cutL_cons hg (by omega)] at s4
    simp only [List.cons.injEq] at s4
    exact s4.1.symm
  by_cases hf : id = FORM
  · rw [if_pos hf] at hn hin
    have hs1 := hs.2
    simp only [hf, if_true, Bool.and_eq_true, decide_eq_true_eq, Bool.not_eq_true', decide_eq_false_iff_not] at hs1
    have hk := idB_len hs1.1.1.1
    have c9 := hs1.1.1.2
    have hdn : data = [] := hs1.1.2
    subst hdn
    rw [hin, ← cutL_append b (i := i + 8) (j := i + 12) (by omega) (by omega)] at s3
    obtain ⟨k1, k2⟩ := segs_inj s3 (by simp only [cutL_len]; omega)
    have hRk := rid_is hlen (i + 8) (i + 8 + n) (by omega) (by omega) (m + 1)
    rw [show i + 8 + n - (i + 8) = n by omega, show i + 8 + 4 = i + 12 by omega, if_neg (by omega), ← k1, hs1.1.1.1] at hRk
    simp only [if_true] at hRk
    have hRl := IH (i + 12) (i + 8 + n) k2 (by omega) (by omega)
    rw [ref26_reader_chunk_eq, hR]
    by_cases hp : n % 2 = 0
    · have q1 : ((n % 2 : Nat) : Int) = 0 := by omega
      simp only [Option.bind_some, iteD, iteND, c3, c4, if_false, wm, we, w4, w8', ws, wn, w12, wd, decide_true, Bool.not_true, Bool.false_eq_true, decide_false, r6, e3', if_true, hrn, hmod, hf, hRk, hRl, c9, q1, Sum.elim_inl]
      simp only [hp, Nat.add_zero, Option.some.injEq, Prod.mk.injEq, true_and]
      omega
    · have q1 : ¬ ((n % 2 : Nat) : Int) = 0 := by omega
      have q2 : ¬ ((i + 8 + n : Nat) : Int) = (en : Int) := by omega
      have q3 : 0 ≤ ((i + 8 + n : Nat) : Int) ∧ ((i + 8 + n : Nat) : Int) < ((b.length : Nat) : Int) := ⟨by omega, by omega⟩
      simp only [Option.bind_some, iteD, iteND, c3, c4, if_false, wm, we, w4, w8', ws, wn, w12, wd, decide_true, Bool.not_true, Bool.false_eq_true, decide_false, r6, e3', if_true, hrn, hmod, hf, hRk, hRl, c9, q1, q2, q3, hpz (by omega), wnx, and_self, Sum.elim_inl]
      rw [show n % 2 = 1 by omega]
      simp only [Option.some.injEq, Prod.mk.injEq, true_and]
      omega
  · rw [if_neg hf] at hn hin
    have hs1 := hs.2
    simp only [hf, if_false, Bool.and_eq_true, decide_eq_true_eq] at hs1
    have e1 : kind = [] := hs1.1
    have e2 : kids = [] := List.length_eq_zero_iff.1 hs1.2
    subst e1; subst e2
    rw [hin] at s3
    have gl' : (([] : List Int).length + data.length) * 1 ≤ 140737488355328 := by rw [List.length_nil]; omega
    rw [ref26_reader_chunk_eq, hR]
    by_cases hp : n % 2 = 0
    · have q1 : ((n % 2 : Nat) : Int) = 0 := by omega
      simp only [Option.bind_some, iteD, iteND, c3, c4, if_false, wm, we, w4, w8', ws, wn, w12, wd, decide_true, Bool.not_true, Bool.false_eq_true, decide_false, r6, e3', if_true, hrn, hmod, hf, g3, g4, and_self, Int.toNat_natCast, gl, gl', List.nil_append, q1, Sum.elim_inl, ← s3]
      simp only [hp, Nat.add_zero, cnts, Int.natCast_zero, Nat.zero_add, Int.natCast_one]
    · have q1 : ¬ ((n % 2 : Nat) : Int) = 0 := by omega
      have q2 : ¬ ((i + 8 + n : Nat) : Int) = (en : Int) := by omega
      have q3 : 0 ≤ ((i + 8 + n : Nat) : Int) ∧ ((i + 8 + n : Nat) : Int) < ((b.length : Nat) : Int) := ⟨by omega, by omega⟩
      simp only [Option.bind_some, iteD, iteND, c3, c4, if_false, wm, we, w4, w8', ws, wn, w12, wd, decide_true, Bool.not_true, Bool.false_eq_true, decide_false, r6, e3', if_true, hrn, hmod, hf, g3, g4, and_self, Int.toNat_natCast, gl, gl', List.nil_append, q1, q2, q3, hpz (by omega), wnx, Sum.elim_inl, ← s3]
      rw [show n % 2 = 1 by omega]
      simp only [cnts, Nat.zero_add, Int.natCast_one]
include hby hlen in
mutual
theorem fwd_kids : ∀ c : Chunk, singles c.kids = true → ∀ (i en : Nat) (d m : Int), bytss c.kids = cutL b i en → i + szs c.kids = en → en ≤ b.length → 1 ≤ d → (c.kids = [] ∨ d + deps c.kids ≤ 9) → 0 ≤ m → m + cnts c.kids ≤ 400 →
    ref26_reader_list i en d b m = some (c.kids, (en : Int), 0, b, m + cnts c.kids)
  | .mk id kind data kids, hs, i, en, d, m, h1, h2, h3, h4, h5, h6, h7 => by
    simp only at hs h1 h2 h5 h7 ⊢
    rw [ref26_reader_list_eq, fwd_list kids hs i en d m [] h1 h2 h3 h4 h5 h6 h7 (by simp; omega)]
    rfl
theorem fwd_list : ∀ l : List Chunk, singles l = true → ∀ (i en : Nat) (d m : Int) (out : List Chunk), bytss l = cutL b i en → i + szs l = en → en ≤ b.length → 1 ≤ d → (l = [] ∨ d + deps l ≤ 9) → 0 ≤ m → m + cnts l ≤ 400 → out.length + (en - i) ≤ 2000000 →
    loop (ref26_reader_list_loop2 en d) ((i : Int), b, m, out) = some (.inl ((en : Int), b, m + cnts l, out ++ l))
  | [], hs, i, en, d, m, out, h1, h2, h3, h4, h5, h6, h7, h8 => by
    simp only [szs] at h2
    have : i = en := by omega
    subst this
    rw [loop_done (a := .inl ((i : Int), b, m, out)) (by unfold ref26_reader_list_loop2; simp)]
    simp [cnts]
  | c :: l, hs, i, en, d, m, out, h1, h2, h3, h4, h5, h6, h7, h8 => by
    simp only [singles, Bool.and_eq_true] at hs
    simp only [szs] at h2
    simp only [cnts, deps] at h5 h7 ⊢
    simp only [bytss] at h1
    have h5' : d + max (dep c) (deps l) ≤ 9 := by rcases h5 with h | h; cases h; omega
    have hlc := byts_len c hs.1
    have hll := bytss_len l hs.2
    have hsz8 : 8 ≤ sz c := by cases c; simp only [sz]; omega
    rw [← cutL_append b (i := i) (j := i + sz c) (by omega) (by omega)] at h1
    obtain ⟨b1, b2⟩ := segs_inj h1 (by rw [cutL_len]; omega)
    have hsk : singles c.kids = true := by
      cases c with | mk id kind data kids =>
      have h := hs.1
      simp only [single, Bool.and_eq_true] at h
      by_cases hf : id = FORM
      · simp only [hf, if_true, Bool.and_eq_true] at h; exact h.2.2
      · simp only [hf, if_false, Bool.and_eq_true, decide_eq_true_eq] at h
        have : kids = [] := List.length_eq_zero_iff.1 h.2.2
        subst this; rfl
    have hck : cnt c = cnts c.kids + 1 := by cases c; rfl
    have hdk : dep c = deps c.kids + 1 := by cases c; rfl
    have hc := fwd_step hby hlen i en d m c hs.1 b1 (by omega) h3 h4 (by omega) h6 (by omega) fun j e g1 g2 g3 => fwd_kids c hsk j e (d + 1) (m + 1) g1 g2 g3 (by omega) (.inr (by omega)) (by omega) (by omega)
    have hlt : (i : Int) < (en : Int) := by omega
    have s1 : ref26_reader_list_loop2 en d ((i : Int), b, m, out) = some (.inl (((i + sz c : Nat) : Int), b, m + cnt c, out ++ [c])) := by
      unfold ref26_reader_list_loop2
      simp only [hlt, decide_true, if_true, hc, Option.bind_some, Bool.not_true, Bool.false_eq_true, if_false, List.length_cons, List.length_nil]
      rw [if_pos (by omega), chunk_eta]
    rw [loop_step s1, fwd_list l hs.2 (i + sz c) en d (m + cnt c) (out ++ [c]) b2 (by omega) h3 h4 (.inr (by omega)) (by omega) (by omega) (by rw [List.length_append, List.length_cons, List.length_nil]; omega)]
    simp only [List.append_assoc, List.cons_append, List.nil_append, Option.some.injEq, Sum.inl.injEq, Prod.mk.injEq, true_and, and_true]
    omega
end
include hby hlen in
theorem fwd_heal (hsm : b.length ≤ 60000) : ∀ (l : List Chunk), singles l = true → ∀ (i : Nat) (m : Int) (out : List Chunk), bytss l = cutL b i b.length → i + szs l = b.length → (l = [] ∨ 1 + deps l ≤ 9) → 0 ≤ m → m + cnts l ≤ 400 → out.length + (b.length - i) ≤ 2000000 →
    loop (ref26_Heal_loop5 b ((b.length : Nat) : Int)) (0, m, (i : Int), out) = some (0, out ++ l)
  | [], hs, i, m, out, h1, h2, h5, h6, h7, h8 => by
    simp only [szs] at h2
    rw [loop_done (a := (0, out)) (by unfold ref26_Heal_loop5; have : ¬ (i : Int) < ((b.length : Nat) : Int) := by omega
                                      simp [this])]
    simp
  | c :: l, hs, i, m, out, h1, h2, h5, h6, h7, h8 => by
    simp only [singles, Bool.and_eq_true] at hs
    simp only [szs] at h2
    simp only [cnts, deps] at h5 h7
    simp only [bytss] at h1
    have h5' : 1 + max (dep c) (deps l) ≤ 9 := by rcases h5 with h | h; cases h; omega
    have hlc := byts_len c hs.1
    have hll := bytss_len l hs.2
    have hsz8 : 8 ≤ sz c := by cases c; simp only [sz]; omega
    rw [← cutL_append b (i := i) (j := i + sz c) (by omega) (by omega)] at h1
    obtain ⟨b1, b2⟩ := segs_inj h1 (by rw [cutL_len]; omega)
    have hsk : singles c.kids = true := by
      cases c with | mk id kind data kids =>
      have h := hs.1
      simp only [single, Bool.and_eq_true] at h
      by_cases hf : id = FORM
      · simp only [hf, if_true, Bool.and_eq_true] at h; exact h.2.2
      · simp only [hf, if_false, Bool.and_eq_true, decide_eq_true_eq] at h
        have : kids = [] := List.length_eq_zero_iff.1 h.2.2
        subst this; rfl
    have hck : cnt c = cnts c.kids + 1 := by cases c; rfl
    have hdk : dep c = deps c.kids + 1 := by cases c; rfl
    have hc := fwd_step hby hlen i b.length 1 m c hs.1 b1 (by omega) (by omega) (by omega) (by omega) h6 (by omega) fun j e g1 g2 g3 => fwd_kids hby hlen c hsk j e (1 + 1) (m + 1) g1 g2 g3 (by omega) (.inr (by omega)) (by omega) (by omega)
    have hi : (i : Int) < ((b.length : Nat) : Int) := by omega
    have g : 0 ≤ ((b.length : Nat) : Int) ∧ ((b.length : Nat) : Int) ≤ ((b.length : Nat) : Int) := ⟨by omega, by omega⟩
    have hcut : cutL b 0 b.length = b := cutL_all b
    have s1 : ref26_Heal_loop5 b ((b.length : Nat) : Int) (0, m, (i : Int), out) = some (.inl (0, m + cnt c, ((i + sz c : Nat) : Int), out ++ [c])) := by
      unfold ref26_Heal_loop5
      simp only [hi, decide_true, if_true, g, and_self, Int.toNat_natCast, hcut, hc, Option.bind_some, Bool.not_true, Bool.false_eq_true, if_false, List.length_cons, List.length_nil]
      rw [if_pos (by omega), chunk_eta]
    rw [loop_step s1, fwd_heal hsm l hs.2 (i + sz c) (m + cnt c) (out ++ [c]) b2 (by omega) (.inr (by omega)) (by omega) (by omega) (by rw [List.length_append, List.length_cons, List.length_nil]; omega)]
    simp
end
theorem pad_mem {n : Nat} {x : Int} (h : x ∈ pad n) : x = 0 := by
  unfold pad at h
  split at h
  · simpa using h
  · simp at h
mutual
theorem byts_good : ∀ c : Chunk, single c = true → (∀ p ∈ outs0 c, V.Good E p) → ∀ x ∈ byts c, 0 ≤ x ∧ x ≤ 255
  | .mk id kind data kids, hs, hg, x, hx => by
    have okr : ∀ s : List Int, idB s = true → ∀ y ∈ s, 0 ≤ y ∧ y ≤ 255 := fun s h y hy => by
      simp only [idB, Bool.and_eq_true, List.all_eq_true] at h
      have := h.2 y hy
      simp only [okc, Bool.or_eq_true, Bool.and_eq_true, decide_eq_true_eq] at this
      omega
    have g3 : V.Good E (.ints .u8 data) := hg _ (by unfold outs0; exact .tail _ (.tail _ (.head _)))
    have g4 : V.Good E (.rows 0 kids) := hg _ (by unfold outs0; exact .tail _ (.tail _ (.tail _ (.head _))))
    simp only [single, Bool.and_eq_true] at hs
    have hdata : ∀ y ∈ data, 0 ≤ y ∧ y ≤ 255 := by
      cases g3 with
      | ints h _ => intro y hy; simpa [IntKind.has, IntKind.min, IntKind.max, IntKind.signed, IntKind.bits] using h y hy
    simp only [byts, List.mem_append] at hx
    rcases hx with ((hx | hx) | hx) | hx
    · exact okr id hs.1 x hx
    · simp only [hdr, List.mem_cons, List.not_mem_nil, or_false] at hx
      rcases hx with rfl | rfl | rfl | rfl <;> rw [w8] <;> omega
    · by_cases hf : id = FORM
      · simp only [hf, if_true, Bool.and_eq_true] at hs hx
        rcases List.mem_append.1 hx with hx | hx
        · exact okr kind hs.2.1.1.1 x hx
        · exact bytss_good kids hs.2.2 g4 x hx
      · simp only [hf, if_false] at hx
        exact hdata x hx
    · have := pad_mem hx; omega
theorem bytss_good : ∀ l : List Chunk, singles l = true → V.Good E (.rows 0 l) → ∀ x ∈ bytss l, 0 ≤ x ∧ x ≤ 255
  | [], _, _, x, hx => by simp [bytss] at hx
  | c :: l, hs, hg, x, hx => by
    simp only [singles, Bool.and_eq_true] at hs
    cases hg with
    | rows hl h =>
      simp only [bytss, List.mem_append] at hx
      rcases hx with hx | hx
      · exact byts_good c hs.1 (h c (List.mem_cons_self ..)) x hx
      · exact bytss_good l hs.2 (.rows (Nat.le_trans (Nat.le_succ _) hl) fun y hy => h y (List.mem_cons_of_mem _ hy)) x hx
end
theorem chunkBack_true (l : List Chunk) (hl : GoodP E (.rows 0 l)) (hb : bulkA bulk (.rows 0 l) ≤ 1048576) : law26_ChunkBack l = some true := by
  rw [bulkA_rows] at hb
  obtain ⟨b1, e1⟩ := large_is l (by omega)
  rw [law26_ChunkBack_eq, e1, awake]
  cases b1 with
  | true => rfl
  | false =>
  simp only [Option.bind_some, Bool.false_eq_true, if_false]
  rw [Put_is l (by omega)]
  simp only [Option.bind_some]
  by_cases h : (putR l).2 = 0
  · obtain ⟨g1, g2, g3⟩ := putR_good h
    have hsl := validB_singles g1
    have hlen := bytss_len l hsl
    rw [g3, h]
    have hby := bytss_good l hsl hl
    simp only [validB, Bool.and_eq_true, decide_eq_true_eq] at g1
    have hz : (bytss l).length ≤ 1000000 := by omega
    -- Get
    have hG : ref26_Get (bytss l) = some (l, 0, 0) := by
      have := fwd_list hby hz l hsl 0 (bytss l).length 1 0 [] (by rw [cutL_all]) (by omega) (by omega) (by omega) (.inr (by omega)) (by omega) (by omega) (by simp; omega)
      rw [ref26_Get_eq, ref26_reader_list_eq, show loop (ref26_reader_list_loop2 (((bytss l).length : Nat) : Int) 1) (0, bytss l, 0, []) = _ from this]
      have hns : ¬ (((bytss l).length : Nat) : Int) > 60000 := by omega
      simp [hns]
    have hG' : chunk_Get (bytss l) = some (l, 0, 0) := by
      rcases Get_both hby hz (by omega) with ⟨l', x1, x2, x3, x4⟩ | ⟨e, w, he, x3, x4⟩
      · rw [hG] at x4
        simp only [Option.some.injEq, Prod.mk.injEq, and_true] at x4
        rw [x3, x4]
      · rw [hG] at x4
        simp only [Option.some.injEq, Prod.mk.injEq] at x4
        exact absurd x4.2.2.symm he
    -- Heal
    have hH : ref26_Heal (bytss l) = some (l, 0) := by
      have := fwd_heal hby hz (by omega) l hsl 0 0 [] (by rw [cutL_all]) (by omega) (.inr (by omega)) (by omega) (by omega) (by simp; omega)
      have e1 : imin (((bytss l).length : Nat) : Int) 60000 = (((bytss l).length : Nat) : Int) := by rw [imin_eq]; omega
      have e2 : IntKind.i64.wrap ((((bytss l).length : Nat) : Int) - (((bytss l).length : Nat) : Int)) = 0 := by rw [w64 (by omega)]; omega
      rw [ref26_Heal_eq, e1]
      simp only [e2]
      rw [show loop (ref26_Heal_loop5 (bytss l) (((bytss l).length : Nat) : Int)) (0, 0, 0, []) = _ from this]
      rfl
    have hH' : chunk_Heal (bytss l) = some (l, 0) := by
      obtain ⟨l', n, x1, x2, _⟩ := Heal_both hby hz (by omega)
      rw [hH] at x2
      rw [x1, x2]
    simp only [hG', hH', Option.bind_some, decide_true, Bool.not_true, Bool.false_eq_true, if_false, if_true]
    rw [rSame_is _ _ (by omega), sameL_self]
    rfl
  · rw [putR_bad h]
    simp [h]
end Go.Proofs.Ytjabpjkomgakbaa.P
