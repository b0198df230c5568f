/- Chunks that are read: the program's reader and the reference's, step by step. -/
import Derived.Test.YtjabpjkomgakbaaPureFinds
import Derived.Test.YtjabpjkomgakbaaBits
namespace Go.Proofs.Ytjabpjkomgakbaa.P
open Go Go.Proofs.Ytjabpjkomgakbaa.V
set_option linter.unusedVariables false
set_option linter.unusedSimpArgs false
set_option linter.unusedSectionVars false

/-! ### Numbers of four bytes -/
def be (a b c d : Int) : Int := 256 * (256 * (256 * (256 * 0 + a) + b) + c) + d
theorem hdr_be {a b c d : Int} (ha : 0 ≤ a ∧ a ≤ 255) (hb : 0 ≤ b ∧ b ≤ 255) (hc : 0 ≤ c ∧ c ≤ 255) (hd : 0 ≤ d ∧ d ≤ 255) : hdr (be a b c d) = [a, b, c, d] := by
  have e1 : ishr .i64 (be a b c d) 24 = be a b c d / 16777216 := by rw [show (24 : Int) = ((24 : Nat) : Int) from rfl, ishr_div (by omega)]; rfl
  have e2 : ishr .i64 (be a b c d) 16 = be a b c d / 65536 := by rw [show (16 : Int) = ((16 : Nat) : Int) from rfl, ishr_div (by omega)]; rfl
  have e3 : ishr .i64 (be a b c d) 8 = be a b c d / 256 := by rw [show (8 : Int) = ((8 : Nat) : Int) from rfl, ishr_div (by omega)]; rfl
  unfold hdr
  rw [e1, e2, e3, w8, w8, w8, w8]
  unfold be
  simp only [List.cons.injEq, and_true]
  omega
theorem be_hdr {n : Int} (h0 : 0 ≤ n) (h1 : n < 4294967296) : ∃ a b c d, hdr n = [a, b, c, d] ∧ be a b c d = n ∧ (0 ≤ a ∧ a ≤ 255) ∧ (0 ≤ b ∧ b ≤ 255) ∧ (0 ≤ c ∧ c ≤ 255) ∧ (0 ≤ d ∧ d ≤ 255) := by
  have e1 : ishr .i64 n 24 = n / 16777216 := by rw [show (24 : Int) = ((24 : Nat) : Int) from rfl, ishr_div (by omega)]; rfl
  have e2 : ishr .i64 n 16 = n / 65536 := by rw [show (16 : Int) = ((16 : Nat) : Int) from rfl, ishr_div (by omega)]; rfl
  have e3 : ishr .i64 n 8 = n / 256 := by rw [show (8 : Int) = ((8 : Nat) : Int) from rfl, ishr_div (by omega)]; rfl
  refine ⟨_, _, _, _, rfl, ?_, ?_, ?_, ?_, ?_⟩
  all_goals simp only [e1, e2, e3, w8]
  · unfold be; omega
  all_goals omega
theorem num_is {a b c d : Int} (ha : 0 ≤ a ∧ a ≤ 255) (hb : 0 ≤ b ∧ b ≤ 255) (hc : 0 ≤ c ∧ c ≤ 255) (hd : 0 ≤ d ∧ d ≤ 255) : loop (chunk_reader_chunk_loop7 [a, b, c, d]) (0, 0) = some (be a b c d) := by
  rw [chunk_reader_chunk_loop7_over _ (by simp)]
  unfold be
  rw [overL_next (s' := 256 * 0 + a) (by unfold chunk_reader_chunk_loop7_step; simp only; rw [w64 (by omega), ior_byte (by omega) (by omega) (by omega) (by omega)]),
    overL_next (s' := 256 * (256 * 0 + a) + b) (by unfold chunk_reader_chunk_loop7_step; simp only; rw [w64 (by omega), ior_byte (by omega) (by omega) (by omega) (by omega)]),
    overL_next (s' := 256 * (256 * (256 * 0 + a) + b) + c) (by unfold chunk_reader_chunk_loop7_step; simp only; rw [w64 (by omega), ior_byte (by omega) (by omega) (by omega) (by omega)]),
    overL_next (s' := 256 * (256 * (256 * (256 * 0 + a) + b) + c) + d) (by unfold chunk_reader_chunk_loop7_step; simp only; rw [w64 (by omega), ior_byte (by omega) (by omega) (by omega) (by omega)])]
  rfl
section
variable {b : List Int} (hby : ∀ x ∈ b, 0 ≤ x ∧ x ≤ 255) (hlen : b.length ≤ 1000000)
include hby in
theorem rd_byte (i : Nat) : 0 ≤ rd b (i : Int) ∧ rd b (i : Int) ≤ 255 := by
  unfold rd
  rw [List.getD_eq_getElem?_getD, Int.toNat_natCast]
  cases h : b[i]? with
  | none => simp
  | some x => exact hby x (List.mem_of_getElem? h)
include hby hlen in
theorem rnum_is (i : Nat) (h : i + 8 ≤ b.length) : loop (ref26_reader_chunk_loop11 (i : Int) b) (0, 4) = some (be (rd b ((i + 4 : Nat) : Int)) (rd b ((i + 5 : Nat) : Int)) (rd b ((i + 6 : Nat) : Int)) (rd b ((i + 7 : Nat) : Int))) := by
  have h1 := ref26_reader_chunk_loop11_overAt (i : Int) b (by simp) 4 0 (by simp)
  rw [show ((4 : Nat) : Int) = 4 from rfl] at h1
  rw [h1, show (List.range 8).drop 4 = [4, 5, 6, 7] from rfl]
  have st : ∀ (k : Nat) (x : Nat) (s : Int), k < 8 → 0 ≤ s → s < 16777216 → ref26_reader_chunk_loop11_step (i : Int) b k x s = some (.inl (256 * s + rd b ((i + k : Nat) : Int))) := fun k x s hk h0 h1 => by
    have := rd_byte hby (i + k)
    unfold ref26_reader_chunk_loop11_step
    simp only
    rw [w64 (n := (i : Int) + (k : Int)) (by omega), show (i : Int) + (k : Int) = ((i + k : Nat) : Int) by omega, if_pos ⟨by omega, by omega⟩, w64 (n := 256 * s) (by omega), w64 (n := rd b _) (by omega), w64 (by omega)]
  have b4 := rd_byte hby (i + 4)
  have b5 := rd_byte hby (i + 5)
  have b6 := rd_byte hby (i + 6)
  unfold be
  rw [overL_next (st 4 4 0 (by omega) (by omega) (by omega)), overL_next (st 5 5 _ (by omega) (by omega) (by omega)), overL_next (st 6 6 _ (by omega) (by omega) (by omega)), overL_next (st 7 7 _ (by omega) (by omega) (by omega))]
  rfl

/-! ### Errors, Ids -/
theorem fail0 (ok : Bool) (e w : Int) (b : List Int) (m w0 : Int) (he : e ≠ 0) : chunk_reader_fail ok e w b m 0 w0 = some (if ok then (true, b, m, 0, w0) else (false, b, m, e, w)) := by
  rw [chunk_reader_fail_eq]
  cases ok <;> simp [he]
theorem failE (ok : Bool) (e w : Int) (b : List Int) (m err w0 : Int) (he : err ≠ 0) : chunk_reader_fail ok e w b m err w0 = some (false, b, m, err, w0) := by
  rw [chunk_reader_fail_eq]
  simp [he]
include hlen in
theorem rid_is (i en : Nat) (h1 : i ≤ en) (h2 : en ≤ b.length) (m : Int) : ref26_reader_id i en b m =
    some (if en - i < 4 then ([], 6, b, m) else if idB (cutL b i (i + 4)) then (cutL b i (i + 4), 0, b, m) else ([], 3, b, m)) := by
  rw [ref26_reader_id_eq]
  simp only [iteD]
  rw [w64 (n := (en : Int) - (i : Int)) (by omega)]
  by_cases h : en - i < 4
  · rw [if_pos (by omega), if_pos h]
  · rw [if_neg (by omega), if_neg h, w64 (by omega), if_pos ⟨by omega, by omega⟩, if_pos ⟨by omega, by omega⟩, show ((i : Int) + 4).toNat = i + 4 by omega, Int.toNat_natCast, IsId_is]
    simp only [Option.bind_some]
    cases idB (cutL b i (i + 4)) <;> rfl
include hlen in
theorem iid_is (i en : Nat) (h1 : i ≤ en) (h2 : en ≤ b.length) (m w : Int) : chunk_reader_id i en b m 0 w =
    some (if en - i < 4 then ([], b, m, 6, (i : Int)) else (cutL b i (i + 4), b, m, if idB (cutL b i (i + 4)) then 0 else 3, if idB (cutL b i (i + 4)) then w else (i : Int))) := by
  rw [chunk_reader_id_eq]
  simp only
  rw [w64 (n := (en : Int) - (i : Int)) (by omega), fail0 _ _ _ _ _ _ (by omega)]
  by_cases h : en - i < 4
  · have : ¬ (en : Int) - (i : Int) ≥ 4 := by omega
    simp [this, h]
  · have : (en : Int) - (i : Int) ≥ 4 := by omega
    simp only [this, h, decide_true, if_true, if_false, Option.bind_some, Bool.not_true, Bool.false_eq_true]
    rw [w64 (by omega), if_pos ⟨by omega, by omega⟩, if_pos ⟨by omega, by omega⟩, show ((i : Int) + 4).toNat = i + 4 by omega, Int.toNat_natCast, isId_is]
    simp only [Option.bind_some]
    rw [fail0 _ _ _ _ _ _ (by omega)]
    cases idB (cutL b i (i + 4)) <;> rfl
include hlen in
theorem ikind_is (i en : Nat) (h1 : i ≤ en) (h2 : en ≤ b.length) (m w : Int) : chunk_reader_id_2 i en b m 0 w =
    some (if en - i < 4 then ([], b, m, 6, (i : Int)) else (cutL b i (i + 4), b, m, if (idB (cutL b i (i + 4)) && !decide (cutL b i (i + 4) = FORM)) then 0 else 3, if (idB (cutL b i (i + 4)) && !decide (cutL b i (i + 4) = FORM)) then w else (i : Int))) := by
  rw [chunk_reader_id_2_eq]
  simp only
  rw [w64 (n := (en : Int) - (i : Int)) (by omega), fail0 _ _ _ _ _ _ (by omega)]
  by_cases h : en - i < 4
  · have : ¬ (en : Int) - (i : Int) ≥ 4 := by omega
    simp [this, h]
  · have : (en : Int) - (i : Int) ≥ 4 := by omega
    simp only [this, h, decide_true, if_true, if_false, Option.bind_some, Bool.not_true, Bool.false_eq_true]
    rw [w64 (by omega), if_pos ⟨by omega, by omega⟩, if_pos ⟨by omega, by omega⟩, show ((i : Int) + 4).toNat = i + 4 by omega, Int.toNat_natCast, isKind_is]
    simp only [Option.bind_some]
    rw [fail0 _ _ _ _ _ _ (by omega)]
    cases (idB (cutL b i (i + 4)) && !decide (cutL b i (i + 4) = FORM)) <;> rfl
end
/-- a list that is read behind an error is empty -/
theorem list_err (at_ en d : Int) (b : List Int) (m err w : Int) (he : err ≠ 0) : chunk_reader_list at_ en d b m err w = some ([], b, m, err, w) := by
  rw [chunk_reader_list_eq, loop_done (a := (b, m, err, w, []))]
  · rfl
  unfold chunk_reader_list_loop2
  simp only [he, decide_false]
  split <;> rfl

/-! ### What is read -/
structure ReadsC (b : List Int) (i en : Nat) (d m : Int) (c : Chunk) (nx : Nat) (m' : Int) : Prop where
  lo : i + 8 ≤ nx
  hi : nx ≤ en
  bytes : byts c = cutL b i nx
  single : single c = true
  many : m' = m + cnt c
  most : m' ≤ 400
  deep : d + dep c ≤ 9
structure ReadsL (b : List Int) (i en : Nat) (d m : Int) (l : List Chunk) (m' : Int) : Prop where
  bytes : bytss l = cutL b i en
  singles : singles l = true
  many : m' = m + cnts l
  most : m' ≤ 400
  deep : l = [] ∨ d + deps l ≤ 9
def OutC (b : List Int) (i en : Nat) (d m : Int) : Prop :=
  (∃ c nx m', ReadsC b i en d m c nx m' ∧ ref26_reader_chunk i en d b m = some (c.id, c.kind, c.data, c.kids, (nx : Int), 0, b, m') ∧ chunk_reader_chunk i en d b m 0 0 = some (c.id, c.kind, c.data, c.kids, (nx : Int), b, m', 0, 0)) ∨
  (∃ e w, e ≠ 0 ∧ (∃ m1, ref26_reader_chunk i en d b m = some ([], [], [], [], w, e, b, m1)) ∧ ∃ q1 q2 q3 q4 q5 m2, chunk_reader_chunk i en d b m 0 0 = some (q1, q2, q3, q4, q5, b, m2, e, w))
def OutL (b : List Int) (i en : Nat) (d m : Int) (out : List Chunk) : Prop :=
  (∃ l m', ReadsL b i en d m l m' ∧ loop (ref26_reader_list_loop2 en d) ((i : Int), b, m, out) = some (.inl ((en : Int), b, m', out ++ l)) ∧ loop (chunk_reader_list_loop2 en d) ((i : Int), b, m, 0, 0, out) = some (b, m', 0, 0, out ++ l)) ∨
  (∃ e w, e ≠ 0 ∧ (∃ m1, loop (ref26_reader_list_loop2 en d) ((i : Int), b, m, out) = some (.inr ([], w, e, b, m1))) ∧ ∃ m2 o2, loop (chunk_reader_list_loop2 en d) ((i : Int), b, m, 0, 0, out) = some (b, m2, e, w, o2))

section
variable {b : List Int} (hby : ∀ x ∈ b, 0 ≤ x ∧ x ≤ 255) (hlen : b.length ≤ 1000000)
/-- the padding behind n bytes that begin at i + 8 -/
theorem read_pad (i en n : Nat) (d m m' : Int) (h1 : i + 8 + n ≤ en) (h2 : en ≤ b.length) (c : Chunk) (hid : c.id.length = 4)
    (hc : c.id ++ hdr (n : Int) ++ (if c.id = FORM then c.kind ++ bytss c.kids else c.data) = cutL b i (i + 8 + n)) (hl : lenc c.id c.data c.kids = n) (hs : single c = true) (hm : m' = m + cnt c) (hm4 : m' ≤ 400) (hd : d + dep c ≤ 9) :
    (∃ nx, ReadsC b i en d m c nx m' ∧ ((n % 2 = 0 ∧ nx = i + 8 + n) ∨ (n % 2 = 1 ∧ i + 8 + n < en ∧ rd b ((i + 8 + n : Nat) : Int) = 0 ∧ nx = i + 8 + n + 1))) ∨
    (n % 2 = 1 ∧ i + 8 + n = en) ∨ (n % 2 = 1 ∧ i + 8 + n < en ∧ rd b ((i + 8 + n : Nat) : Int) ≠ 0) := by
  have hb : byts c = cutL b i (i + 8 + n) ++ pad n := by
    rw [← hc]
    cases c with | mk id kind data kids =>
    simp only [lenc] at hl
    simp only [byts, hl]
  by_cases hp : n % 2 = 0
  · refine .inl ⟨i + 8 + n, ⟨by omega, h1, ?_, hs, hm, hm4, hd⟩, .inl ⟨hp, rfl⟩⟩
    rw [hb]; unfold pad; rw [if_neg (by omega)]; simp
  · by_cases he : i + 8 + n = en
    · exact .inr (.inl ⟨by omega, he⟩)
    · by_cases hz : rd b ((i + 8 + n : Nat) : Int) = 0
      · refine .inl ⟨i + 8 + n + 1, ⟨by omega, by omega, ?_, hs, hm, hm4, hd⟩, .inr ⟨by omega, by omega, hz, rfl⟩⟩
        rw [hb, ← cutL_append b (i := i) (j := i + 8 + n) (k := i + 8 + n + 1) (by omega) (by omega)]
        congr 1
        unfold pad
        rw [if_pos (by omega)]
        have hg : b[i + 8 + n]? = some 0 := by
          have := rd_get (xs := b) (i := ((i + 8 + n : Nat) : Int)) (by omega) (by omega)
          rw [hz, Int.toNat_natCast] at this
          exact this
        rw [cutL_cons hg (by omega), cutL_self]
      · exact .inr (.inr ⟨by omega, by omega, hz⟩)
set_option maxHeartbeats 4000000 in
include hby hlen in
theorem chunk_step (i en : Nat) (d m : Int) (h1 : i ≤ en) (h2 : en ≤ b.length) (hd1 : 1 ≤ d) (hd2 : d ≤ 100) (hm0 : 0 ≤ m) (hm4 : m ≤ 400)
    (IH : ∀ (j e : Nat) (m : Int), j ≤ e → e ≤ b.length → e - j < en - i → 0 ≤ m → m ≤ 400 → d ≤ 8 → OutL b j e (d + 1) m []) : OutC b i en d m := by
  have wm : IntKind.i64.wrap (m + 1) = m + 1 := w64 (by omega)
  have w4 : IntKind.i64.wrap ((i : Int) + 4) = ((i + 4 : Nat) : Int) := by rw [w64 (by omega)]; omega
  have w8' : IntKind.i64.wrap ((i : Int) + 8) = ((i + 8 : Nat) : Int) := by rw [w64 (by omega)]; omega
  have we : IntKind.i64.wrap ((en : Int) - (i : Int)) = (en : Int) - (i : Int) := w64 (by omega)
  have wd : IntKind.i64.wrap (d + 1) = d + 1 := w64 (by omega)
  by_cases c1 : en - i < 4
  · refine .inr ⟨6, i, by decide, ⟨m, ?_⟩, [], [], [], [], (en : Int), m + 1, ?_⟩
    · rw [ref26_reader_chunk_eq, rid_is hlen i en h1 h2, if_pos c1]; rfl
    · rw [chunk_reader_chunk_eq, iid_is hlen i en h1 h2, if_pos c1]
      simp [failE, wm]
  cases c2 : idB (cutL b i (i + 4)) with
  | false =>
    refine .inr ⟨3, i, by decide, ⟨m, ?_⟩, cutL b i (i + 4), [], [], [], (en : Int), m + 1, ?_⟩
    · rw [ref26_reader_chunk_eq, rid_is hlen i en h1 h2, if_neg c1, c2]; rfl
    · rw [chunk_reader_chunk_eq, iid_is hlen i en h1 h2, if_neg c1, c2]
      simp [failE, wm]
  | true =>
  have hR : ref26_reader_id i en b m = some (cutL b i (i + 4), 0, b, m) := by rw [rid_is hlen i en h1 h2, if_neg c1, c2]; rfl
  have hI : chunk_reader_id i en b m 0 0 = some (cutL b i (i + 4), b, m, 0, 0) := by rw [iid_is hlen i en h1 h2, if_neg c1, c2]; rfl
  by_cases c3 : m = 400
  · refine .inr ⟨4, i, by decide, ⟨m, ?_⟩, cutL b i (i + 4), [], [], [], (en : Int), m + 1, ?_⟩
    · rw [ref26_reader_chunk_eq, hR]; simp [c3]
    · rw [chunk_reader_chunk_eq, hI]
      have : ¬ m + 1 ≤ 400 := by omega
      simp [fail0, wm, this]
  by_cases c4 : d > 8
  · refine .inr ⟨4, i, by decide, ⟨m, ?_⟩, cutL b i (i + 4), [], [], [], (en : Int), m + 1, ?_⟩
    · rw [ref26_reader_chunk_eq, hR]; simp [c3, c4]
    · rw [chunk_reader_chunk_eq, hI]
      have e1 : m + 1 ≤ 400 := by omega
      have e2 : ¬ d ≤ 8 := by omega
      simp [fail0, wm, e1, e2]
  by_cases c5 : en - i < 8
  · refine .inr ⟨6, ((i + 4 : Nat) : Int), by decide, ⟨m + 1, ?_⟩, cutL b i (i + 4), [], [], [], (en : Int), m + 1, ?_⟩
    · rw [ref26_reader_chunk_eq, hR]
      have : (en : Int) - (i : Int) < 8 := by omega
      simp only [Option.bind_some, iteD, iteND, c3, c4, if_false, wm, we, w4, decide_true, Bool.not_true, Bool.false_eq_true, decide_false, this, if_true]
    · rw [chunk_reader_chunk_eq, hI]
      have e1 : m + 1 ≤ 400 := by omega
      have e2 : d ≤ 8 := by omega
      have e3 : ¬ (en : Int) - (i : Int) ≥ 8 := by omega
      simp only [Option.bind_some, wm, we, w4, e1, e2, e3, decide_true, decide_false, if_true, fail0 _ _ _ _ _ _ (show (4 : Int) ≠ 0 by decide), fail0 _ _ _ _ _ _ (show (6 : Int) ≠ 0 by decide), Bool.not_true, Bool.false_eq_true, if_false, Bool.not_false]
  -- the number
  have b0 := rd_byte hby (i + 4)
  have b1 := rd_byte hby (i + 5)
  have b2 := rd_byte hby (i + 6)
  have b3 := rd_byte hby (i + 7)
  have hseg : cutL b (i + 4) (i + 8) = [rd b ((i + 4 : Nat) : Int), rd b ((i + 5 : Nat) : Int), rd b ((i + 6 : Nat) : Int), rd b ((i + 7 : Nat) : Int)] := cutL_four (i := i + 4) (by omega)
  have hrn := rnum_is hby hlen i (by omega)
  have hin := num_is b0 b1 b2 b3
  have hhd := hdr_be b0 b1 b2 b3
  rw [← hseg] at hin hhd
  obtain ⟨n, hn⟩ : ∃ n : Nat, be (rd b ((i + 4 : Nat) : Int)) (rd b ((i + 5 : Nat) : Int)) (rd b ((i + 6 : Nat) : Int)) (rd b ((i + 7 : Nat) : Int)) = (n : Int) := Int.eq_ofNat_of_zero_le (by unfold be; omega)
  have hn32 : (n : Int) < 4294967296 := by rw [← hn]; unfold be; omega
  rw [hn] at hrn hin hhd
  have e1 : m + 1 ≤ 400 := by omega
  have e2 : d ≤ 8 := by omega
  have e3 : (en : Int) - (i : Int) ≥ 8 := by omega
  have e3' : ¬ (en : Int) - (i : Int) < 8 := by omega
  have ws : IntKind.i64.wrap ((en : Int) - (i : Int) - 8) = (en : Int) - (i : Int) - 8 := w64 (by omega)
  have ws2 : IntKind.i64.wrap ((en : Int) - ((i + 8 : Nat) : Int)) = (en : Int) - ((i + 8 : Nat) : Int) := w64 (by omega)
  have g1 : 0 ≤ ((i + 8 : Nat) : Int) ∧ ((i + 8 : Nat) : Int) ≤ ((b.length : Nat) : Int) := ⟨by omega, by omega⟩
  have g2 : 0 ≤ ((i + 4 : Nat) : Int) ∧ ((i + 4 : Nat) : Int) ≤ ((i + 8 : Nat) : Int) := ⟨by omega, by omega⟩
  by_cases c6 : i + 8 + n > en
  · refine .inr ⟨6, ((i + 4 : Nat) : Int), by decide, ⟨m + 1, ?_⟩, cutL b i (i + 4), [], [], [], (en : Int), m + 1, ?_⟩
    · rw [ref26_reader_chunk_eq, hR]
      have : (n : Int) > (en : Int) - (i : Int) - 8 := by omega
      simp only [Option.bind_some, iteD, iteND, c3, c4, if_false, wm, we, w4, ws, decide_true, Bool.not_true, Bool.false_eq_true, decide_false, this, e3', if_true, hrn]
    · rw [chunk_reader_chunk_eq, hI]
      have : ¬ (n : Int) ≤ (en : Int) - ((i + 8 : Nat) : Int) := by omega
      simp only [Option.bind_some, wm, we, w4, w8', ws2, e1, e2, e3, this, decide_true, decide_false, if_true, fail0 _ _ _ _ _ _ (show (4 : Int) ≠ 0 by decide), fail0 _ _ _ _ _ _ (show (6 : Int) ≠ 0 by decide), Bool.not_true, Bool.false_eq_true, if_false, Bool.not_false, g1, g2, and_self, Int.toNat_natCast, hin]
  have r6 : ¬ (n : Int) > (en : Int) - (i : Int) - 8 := by omega
  have i6 : (n : Int) ≤ (en : Int) - ((i + 8 : Nat) : Int) := by omega
  have wn : IntKind.i64.wrap (((i + 8 : Nat) : Int) + (n : Int)) = ((i + 8 + n : Nat) : Int) := by rw [w64 (by omega)]; omega
  have w12 : IntKind.i64.wrap (((i + 8 : Nat) : Int) + 4) = ((i + 12 : Nat) : Int) := by rw [w64 (by omega)]; omega
  have hmod : (n : Int).tmod 2 = ((n % 2 : Nat) : Int) := by rw [tmod_pos (by omega)]; omega
  have hidl : (cutL b i (i + 4)).length = 4 := idB_len c2
  -- what stands behind the padding's tests
  have wnx : IntKind.i64.wrap (((i + 8 + n : Nat) : Int) + 1) = ((i + 8 + n + 1 : Nat) : Int) := by rw [w64 (by omega)]; omega
  have g3 : 0 ≤ ((i + 8 + n : Nat) : Int) ∧ ((i + 8 + n : Nat) : Int) ≤ ((b.length : Nat) : Int) := ⟨by omega, by omega⟩
  have g4 : 0 ≤ ((i + 8 : Nat) : Int) ∧ ((i + 8 : Nat) : Int) ≤ ((i + 8 + n : Nat) : Int) := ⟨by omega, by omega⟩
  have gl : (([] : List Int).length + (cutL b (i + 8) (i + 8 + n)).length) * 1 ≤ 140737488355328 := by rw [cutL_len, List.length_nil]; omega
  have hcl : bytes_Clone (cutL b (i + 8) (i + 8 + n)) = some (cutL b (i + 8) (i + 8 + n)) := Clone_is _ (by rw [cutL_len]; omega)
  have happ : cutL b i (i + 4) ++ hdr (n : Int) = cutL b i (i + 8) := by rw [hhd, cutL_append b (by omega) (by omega)]
  by_cases c7 : cutL b i (i + 4) = FORM
  · have hRi := rid_is hlen (i + 8) (i + 8 + n) (by omega) (by omega) (m + 1)
    have hIi := ikind_is hlen (i + 8) (i + 8 + n) (by omega) (by omega) (m + 1) 0
    rw [c7] at hR hI
    rw [show i + 8 + n - (i + 8) = n by omega, show i + 8 + 4 = i + 12 by omega] at hRi hIi
    by_cases c8 : n < 4
    · rw [if_pos c8] at hRi hIi
      refine .inr ⟨6, ((i + 8 : Nat) : Int), by decide, ⟨m + 1, ?_⟩, FORM, [], [], [], ((i + 8 + n : Nat) : Int), m + 1, ?_⟩
      · rw [ref26_reader_chunk_eq, hR]
        have q : ¬ (6 : Int) = 0 := by decide
        simp only [Option.bind_some, iteD, iteND, c3, c4, if_false, wm, we, w4, w8', ws, wn, w12, wd, decide_true, Bool.not_true, Bool.false_eq_true, decide_false, r6, e3', if_true, hrn, hmod, hRi, q, Sum.elim_inr]
      · rw [chunk_reader_chunk_eq, hI]
        simp only [Option.bind_some, iteD, iteND, wm, we, w4, w8', ws2, wn, w12, wd, e1, e2, e3, i6, decide_true, decide_false, if_true, fail0 _ _ _ _ _ _ (show (4 : Int) ≠ 0 by decide), fail0 _ _ _ _ _ _ (show (6 : Int) ≠ 0 by decide), fail0 _ _ _ _ _ _ (show (3 : Int) ≠ 0 by decide), Bool.not_true, Bool.false_eq_true, if_false, Bool.not_false, g1, g2, and_self, Int.toNat_natCast, hin, hmod, hIi, list_err _ _ _ _ _ _ _ (show (6 : Int) ≠ 0 by decide), failE _ _ _ _ _ _ _ (show (6 : Int) ≠ 0 by decide)]
        split <;> rfl
    rw [if_neg c8] at hRi hIi
    cases c9' : (idB (cutL b (i + 8) (i + 12)) && !decide (cutL b (i + 8) (i + 12) = FORM)) with
    | false =>
      rw [c9'] at hIi
      simp only [Bool.false_eq_true, if_false] at hIi
      refine .inr ⟨3, ((i + 8 : Nat) : Int), by decide, ⟨m + 1, ?_⟩, FORM, cutL b (i + 8) (i + 12), [], [], ((i + 8 + n : Nat) : Int), m + 1, ?_⟩
      · rw [ref26_reader_chunk_eq, hR]
        have q : ¬ (3 : Int) = 0 := by decide
        cases c10 : idB (cutL b (i + 8) (i + 12)) with
        | false =>
          rw [c10] at hRi
          simp only [Bool.false_eq_true, if_false] at hRi
          simp only [Option.bind_some, iteD, iteND, c3, c4, if_false, wm, we, w4, w8', ws, wn, w12, wd, decide_true, Bool.not_true, Bool.false_eq_true, decide_false, r6, e3', if_true, hrn, hmod, hRi, q, Sum.elim_inr]
        | true =>
          rw [c10] at hRi c9'
          simp only [if_true, Bool.true_and, Bool.not_eq_false', decide_eq_true_eq] at hRi c9'
          simp only [Option.bind_some, iteD, iteND, c3, c4, if_false, wm, we, w4, w8', ws, wn, w12, wd, decide_true, Bool.not_true, Bool.false_eq_true, decide_false, r6, e3', if_true, hrn, hmod, hRi, c9', q, Sum.elim_inr]
      · rw [chunk_reader_chunk_eq, hI]
        simp only [Option.bind_some, iteD, iteND, wm, we, w4, w8', ws2, wn, w12, wd, e1, e2, e3, i6, decide_true, decide_false, if_true, fail0 _ _ _ _ _ _ (show (4 : Int) ≠ 0 by decide), fail0 _ _ _ _ _ _ (show (6 : Int) ≠ 0 by decide), fail0 _ _ _ _ _ _ (show (3 : Int) ≠ 0 by decide), Bool.not_true, Bool.false_eq_true, if_false, Bool.not_false, g1, g2, and_self, Int.toNat_natCast, hin, hmod, hIi, list_err _ _ _ _ _ _ _ (show (3 : Int) ≠ 0 by decide), failE _ _ _ _ _ _ _ (show (3 : Int) ≠ 0 by decide)]
        split <;> rfl
    | true =>
      rw [c9'] at hIi
      simp only [if_true] at hIi
      simp only [Bool.and_eq_true, Bool.not_eq_true', decide_eq_false_iff_not] at c9'
      obtain ⟨c10, c9⟩ := c9'
      rw [c10] at hRi
      simp only [if_true] at hRi
      have hRk := hRi
      have hIk := hIi
      have hkl := idB_len c10
      rcases IH (i + 12) (i + 8 + n) (m + 1) (by omega) (by omega) (by omega) (by omega) (by omega) e2 with ⟨l, m', hl, o1, o2⟩ | ⟨e, w, he, ⟨m1, o1⟩, m2, o2, o3⟩
      · have hRl : ref26_reader_list ((i + 12 : Nat) : Int) ((i + 8 + n : Nat) : Int) (d + 1) b (m + 1) = some (l, ((i + 8 + n : Nat) : Int), 0, b, m') := by
          rw [ref26_reader_list_eq, o1]; rfl
        have hIl : chunk_reader_list ((i + 12 : Nat) : Int) ((i + 8 + n : Nat) : Int) (d + 1) b (m + 1) 0 0 = some (l, b, m', 0, 0) := by
          rw [chunk_reader_list_eq, o2]; rfl
        have hbl := bytss_len l hl.singles
        have hsz : szs l = n - 4 := by rw [← hbl, hl.bytes, cutL_len]; omega
        have hpad := read_pad (b := b) i en n d m m' (by omega) h2 (.mk FORM (cutL b (i + 8) (i + 12)) [] l) rfl
          (by simp only [if_true]; rw [hl.bytes, ← c7, happ, cutL_append b (by omega) (by omega), cutL_append b (by omega) (by omega)]) (by simp only [lenc, if_true]; omega)
          (by have : idB FORM = true := by decide
              simp [single, this, c10, c9, hl.singles]) (by rw [hl.many]; simp only [cnt]; omega) hl.most (by simp only [dep]; rcases hl.deep with h | h; (subst h; simp [deps]; omega); omega)
        rcases hpad with ⟨nx, hx, ⟨p1, rfl⟩ | ⟨p1, p2, p3, rfl⟩⟩ | ⟨p1, p2⟩ | ⟨p1, p2, p3⟩
        · refine .inl ⟨_, _, _, hx, ?_, ?_⟩
          · rw [ref26_reader_chunk_eq, hR]
            have q1 : ((n % 2 : Nat) : Int) = 0 := by omega
            simp only [Option.bind_some, iteD, iteND, c3, c4, if_false, wm, we, w4, w8', ws, wn, w12, wd, decide_true, Bool.not_true, Bool.false_eq_true, decide_false, r6, e3', if_true, hrn, hmod, c7, hRk, hRl, c9, q1, Sum.elim_inl]
          · rw [chunk_reader_chunk_eq, hI]
            have q1 : ¬ ((n % 2 : Nat) : Int) = 1 := by omega
            simp only [Option.bind_some, iteD, iteND, wm, we, w4, w8', ws2, wn, w12, wd, e1, e2, e3, i6, decide_true, decide_false, if_true, fail0 _ _ _ _ _ _ (show (4 : Int) ≠ 0 by decide), fail0 _ _ _ _ _ _ (show (6 : Int) ≠ 0 by decide), fail0 _ _ _ _ _ _ (show (3 : Int) ≠ 0 by decide), Bool.not_true, Bool.false_eq_true, if_false, Bool.not_false, g1, g2, and_self, Int.toNat_natCast, hin, hmod, c7, hIk, hIl, q1]
        · refine .inl ⟨_, _, _, hx, ?_, ?_⟩
          · rw [ref26_reader_chunk_eq, hR]
            have q1 : ¬ ((n % 2 : Nat) : Int) = 0 := by omega
            have q2 : ¬ ((i + 8 + n : Nat) : Int) = (en : Int) := by omega
            have q3 : 0 ≤ ((i + 8 + n : Nat) : Int) ∧ ((i + 8 + n : Nat) : Int) < ((b.length : Nat) : Int) := ⟨by omega, by omega⟩
            simp only [Option.bind_some, iteD, iteND, c3, c4, if_false, wm, we, w4, w8', ws, wn, w12, wd, decide_true, Bool.not_true, Bool.false_eq_true, decide_false, r6, e3', if_true, hrn, hmod, c7, hRk, hRl, c9, q1, q2, q3, p3, wnx, and_self, Sum.elim_inl]
          · rw [chunk_reader_chunk_eq, hI]
            have q1 : ((n % 2 : Nat) : Int) = 1 := by omega
            have q2 : ((i + 8 + n : Nat) : Int) < (en : Int) := by omega
            have q3 : 0 ≤ ((i + 8 + n : Nat) : Int) ∧ ((i + 8 + n : Nat) : Int) < ((b.length : Nat) : Int) := ⟨by omega, by omega⟩
            simp only [Option.bind_some, iteD, iteND, wm, we, w4, w8', ws2, wn, w12, wd, e1, e2, e3, i6, decide_true, decide_false, if_true, fail0 _ _ _ _ _ _ (show (4 : Int) ≠ 0 by decide), fail0 _ _ _ _ _ _ (show (6 : Int) ≠ 0 by decide), fail0 _ _ _ _ _ _ (show (3 : Int) ≠ 0 by decide), Bool.not_true, Bool.false_eq_true, if_false, Bool.not_false, g1, g2, and_self, Int.toNat_natCast, hin, hmod, c7, hIk, hIl, q1, q2, q3, p3, wnx]
        · refine .inr ⟨6, ((i + 8 + n : Nat) : Int), by decide, ⟨m', ?_⟩, FORM, cutL b (i + 8) (i + 12), [], l, ((i + 8 + n : Nat) : Int), m', ?_⟩
          · rw [ref26_reader_chunk_eq, hR]
            have q1 : ¬ ((n % 2 : Nat) : Int) = 0 := by omega
            have q2 : (((i + 8 + n : Nat) : Int) = (en : Int)) = True := eq_true (by omega)
            simp only [Option.bind_some, iteD, iteND, c3, c4, if_false, wm, we, w4, w8', ws, wn, w12, wd, decide_true, Bool.not_true, Bool.false_eq_true, decide_false, r6, e3', if_true, hrn, hmod, c7, hRk, hRl, c9, q1, q2, Sum.elim_inl]
          · rw [chunk_reader_chunk_eq, hI]
            have q1 : ((n % 2 : Nat) : Int) = 1 := by omega
            have q2 : ¬ ((i + 8 + n : Nat) : Int) < (en : Int) := by omega
            simp only [Option.bind_some, iteD, iteND, wm, we, w4, w8', ws2, wn, w12, wd, e1, e2, e3, i6, decide_true, decide_false, if_true, fail0 _ _ _ _ _ _ (show (4 : Int) ≠ 0 by decide), fail0 _ _ _ _ _ _ (show (6 : Int) ≠ 0 by decide), fail0 _ _ _ _ _ _ (show (3 : Int) ≠ 0 by decide), Bool.not_true, Bool.false_eq_true, if_false, Bool.not_false, g1, g2, and_self, Int.toNat_natCast, hin, hmod, c7, hIk, hIl, q1, q2]
        · refine .inr ⟨3, ((i + 8 + n : Nat) : Int), by decide, ⟨m', ?_⟩, FORM, cutL b (i + 8) (i + 12), [], l, ((i + 8 + n + 1 : Nat) : Int), m', ?_⟩
          · rw [ref26_reader_chunk_eq, hR]
            have q1 : ¬ ((n % 2 : Nat) : Int) = 0 := by omega
            have q2 : ¬ ((i + 8 + n : Nat) : Int) = (en : Int) := by omega
            have q3 : 0 ≤ ((i + 8 + n : Nat) : Int) ∧ ((i + 8 + n : Nat) : Int) < ((b.length : Nat) : Int) := ⟨by omega, by omega⟩
            simp only [Option.bind_some, iteD, iteND, c3, c4, if_false, wm, we, w4, w8', ws, wn, w12, wd, decide_true, Bool.not_true, Bool.false_eq_true, decide_false, r6, e3', if_true, hrn, hmod, c7, hRk, hRl, c9, q1, q2, q3, p3, and_self, Sum.elim_inl]
          · rw [chunk_reader_chunk_eq, hI]
            have q1 : ((n % 2 : Nat) : Int) = 1 := by omega
            have q2 : ((i + 8 + n : Nat) : Int) < (en : Int) := by omega
            have q3 : 0 ≤ ((i + 8 + n : Nat) : Int) ∧ ((i + 8 + n : Nat) : Int) < ((b.length : Nat) : Int) := ⟨by omega, by omega⟩
            simp only [Option.bind_some, iteD, iteND, wm, we, w4, w8', ws2, wn, w12, wd, e1, e2, e3, i6, decide_true, decide_false, if_true, fail0 _ _ _ _ _ _ (show (4 : Int) ≠ 0 by decide), fail0 _ _ _ _ _ _ (show (6 : Int) ≠ 0 by decide), fail0 _ _ _ _ _ _ (show (3 : Int) ≠ 0 by decide), Bool.not_true, Bool.false_eq_true, if_false, Bool.not_false, g1, g2, and_self, Int.toNat_natCast, hin, hmod, c7, hIk, hIl, q1, q2, q3, p3, wnx]
      · have hRl : ref26_reader_list ((i + 12 : Nat) : Int) ((i + 8 + n : Nat) : Int) (d + 1) b (m + 1) = some ([], w, e, b, m1) := by
          rw [ref26_reader_list_eq, o1]; rfl
        have hIl : chunk_reader_list ((i + 12 : Nat) : Int) ((i + 8 + n : Nat) : Int) (d + 1) b (m + 1) 0 0 = some (o2, b, m2, e, w) := by
          rw [chunk_reader_list_eq, o3]; rfl
        refine .inr ⟨e, w, he, ⟨m1, ?_⟩, FORM, cutL b (i + 8) (i + 12), [], o2, ((i + 8 + n : Nat) : Int), m2, ?_⟩
        · rw [ref26_reader_chunk_eq, hR]
          simp only [Option.bind_some, iteD, iteND, c3, c4, if_false, wm, we, w4, w8', ws, wn, w12, wd, decide_true, Bool.not_true, Bool.false_eq_true, decide_false, r6, e3', if_true, hrn, hmod, hRk, hRl, c9, he, Sum.elim_inr]
        · rw [chunk_reader_chunk_eq, hI]
          simp only [Option.bind_some, iteD, iteND, wm, we, w4, w8', ws2, wn, w12, wd, e1, e2, e3, i6, decide_true, decide_false, if_true, fail0 _ _ _ _ _ _ (show (4 : Int) ≠ 0 by decide), fail0 _ _ _ _ _ _ (show (6 : Int) ≠ 0 by decide), fail0 _ _ _ _ _ _ (show (3 : Int) ≠ 0 by decide), Bool.not_true, Bool.false_eq_true, if_false, Bool.not_false, g1, g2, and_self, Int.toNat_natCast, hin, hmod, hIk, hIl, failE _ _ _ _ _ _ _ he]
          split <;> rfl
  · have hpad := read_pad (b := b) i en n d m (m + 1) (by omega) h2 (.mk (cutL b i (i + 4)) [] (cutL b (i + 8) (i + 8 + n)) []) hidl
      (by simp only [c7, if_false]; rw [happ, cutL_append b (by omega) (by omega)]) (by simp only [lenc, c7, if_false]; rw [cutL_len]; omega)
      (by simp [single, c2, c7]) (by simp [cnt, cnts]) (by omega) (by simp [dep, deps]; omega)
    rcases hpad with ⟨nx, hx, ⟨p1, rfl⟩ | ⟨p1, p2, p3, rfl⟩⟩ | ⟨p1, p2⟩ | ⟨p1, p2, p3⟩
    · refine .inl ⟨_, _, _, hx, ?_, ?_⟩
      · rw [ref26_reader_chunk_eq, hR]
        have q1 : ((n % 2 : Nat) : Int) = 0 := by omega
        simp only [Option.bind_some, iteD, iteND, c3, c4, if_false, wm, we, w4, w8', ws, wn, w12, wd, decide_true, Bool.not_true, Bool.false_eq_true, decide_false, r6, e3', if_true, hrn, hmod, c7, g3, g4, and_self, Int.toNat_natCast, gl, List.nil_append, q1, Sum.elim_inl]
      · rw [chunk_reader_chunk_eq, hI]
        have q1 : ¬ ((n % 2 : Nat) : Int) = 1 := by omega
        simp only [Option.bind_some, iteD, iteND, wm, we, w4, w8', ws2, wn, w12, wd, e1, e2, e3, i6, decide_true, decide_false, if_true, fail0 _ _ _ _ _ _ (show (4 : Int) ≠ 0 by decide), fail0 _ _ _ _ _ _ (show (6 : Int) ≠ 0 by decide), fail0 _ _ _ _ _ _ (show (3 : Int) ≠ 0 by decide), Bool.not_true, Bool.false_eq_true, if_false, Bool.not_false, g1, g2, and_self, Int.toNat_natCast, hin, hmod, c7, g3, g4, hcl, q1]
    · refine .inl ⟨_, _, _, hx, ?_, ?_⟩
      · rw [ref26_reader_chunk_eq, hR]
        have q1 : ¬ ((n % 2 : Nat) : Int) = 0 := by omega
        have q2 : ¬ ((i + 8 + n : Nat) : Int) = (en : Int) := by omega
        have q3 : 0 ≤ ((i + 8 + n : Nat) : Int) ∧ ((i + 8 + n : Nat) : Int) < ((b.length : Nat) : Int) := ⟨by omega, by omega⟩
        simp only [Option.bind_some, iteD, iteND, c3, c4, if_false, wm, we, w4, w8', ws, wn, w12, wd, decide_true, Bool.not_true, Bool.false_eq_true, decide_false, r6, e3', if_true, hrn, hmod, c7, g3, g4, and_self, Int.toNat_natCast, gl, List.nil_append, q1, q2, q3, p3, wnx, and_self, Sum.elim_inl]
      · rw [chunk_reader_chunk_eq, hI]
        have q1 : ((n % 2 : Nat) : Int) = 1 := by omega
        have q2 : ((i + 8 + n : Nat) : Int) < (en : Int) := by omega
        have q3 : 0 ≤ ((i + 8 + n : Nat) : Int) ∧ ((i + 8 + n : Nat) : Int) < ((b.length : Nat) : Int) := ⟨by omega, by omega⟩
        simp only [Option.bind_some, iteD, iteND, wm, we, w4, w8', ws2, wn, w12, wd, e1, e2, e3, i6, decide_true, decide_false, if_true, fail0 _ _ _ _ _ _ (show (4 : Int) ≠ 0 by decide), fail0 _ _ _ _ _ _ (show (6 : Int) ≠ 0 by decide), fail0 _ _ _ _ _ _ (show (3 : Int) ≠ 0 by decide), Bool.not_true, Bool.false_eq_true, if_false, Bool.not_false, g1, g2, and_self, Int.toNat_natCast, hin, hmod, c7, g3, g4, hcl, q1, q2, q3, p3, wnx]
    · refine .inr ⟨6, ((i + 8 + n : Nat) : Int), by decide, ⟨m + 1, ?_⟩, cutL b i (i + 4), [], cutL b (i + 8) (i + 8 + n), [], ((i + 8 + n : Nat) : Int), m + 1, ?_⟩
      · rw [ref26_reader_chunk_eq, hR]
        have q1 : ¬ ((n % 2 : Nat) : Int) = 0 := by omega
        have q2 : (((i + 8 + n : Nat) : Int) = (en : Int)) = True := eq_true (by omega)
        simp only [Option.bind_some, iteD, iteND, c3, c4, if_false, wm, we, w4, w8', ws, wn, w12, wd, decide_true, Bool.not_true, Bool.false_eq_true, decide_false, r6, e3', if_true, hrn, hmod, c7, g3, g4, and_self, Int.toNat_natCast, gl, List.nil_append, q1, q2, Sum.elim_inl]
      · rw [chunk_reader_chunk_eq, hI]
        have q1 : ((n % 2 : Nat) : Int) = 1 := by omega
        have q2 : ¬ ((i + 8 + n : Nat) : Int) < (en : Int) := by omega
        simp only [Option.bind_some, iteD, iteND, wm, we, w4, w8', ws2, wn, w12, wd, e1, e2, e3, i6, decide_true, decide_false, if_true, fail0 _ _ _ _ _ _ (show (4 : Int) ≠ 0 by decide), fail0 _ _ _ _ _ _ (show (6 : Int) ≠ 0 by decide), fail0 _ _ _ _ _ _ (show (3 : Int) ≠ 0 by decide), Bool.not_true, Bool.false_eq_true, if_false, Bool.not_false, g1, g2, and_self, Int.toNat_natCast, hin, hmod, c7, g3, g4, hcl, q1, q2]
    · refine .inr ⟨3, ((i + 8 + n : Nat) : Int), by decide, ⟨m + 1, ?_⟩, cutL b i (i + 4), [], cutL b (i + 8) (i + 8 + n), [], ((i + 8 + n + 1 : Nat) : Int), m + 1, ?_⟩
      · rw [ref26_reader_chunk_eq, hR]
        have q1 : ¬ ((n % 2 : Nat) : Int) = 0 := by omega
        have q2 : ¬ ((i + 8 + n : Nat) : Int) = (en : Int) := by omega
        have q3 : 0 ≤ ((i + 8 + n : Nat) : Int) ∧ ((i + 8 + n : Nat) : Int) < ((b.length : Nat) : Int) := ⟨by omega, by omega⟩
        simp only [Option.bind_some, iteD, iteND, c3, c4, if_false, wm, we, w4, w8', ws, wn, w12, wd, decide_true, Bool.not_true, Bool.false_eq_true, decide_false, r6, e3', if_true, hrn, hmod, c7, g3, g4, and_self, Int.toNat_natCast, gl, List.nil_append, q1, q2, q3, p3, and_self, Sum.elim_inl]
      · rw [chunk_reader_chunk_eq, hI]
        have q1 : ((n % 2 : Nat) : Int) = 1 := by omega
        have q2 : ((i + 8 + n : Nat) : Int) < (en : Int) := by omega
        have q3 : 0 ≤ ((i + 8 + n : Nat) : Int) ∧ ((i + 8 + n : Nat) : Int) < ((b.length : Nat) : Int) := ⟨by omega, by omega⟩
        simp only [Option.bind_some, iteD, iteND, wm, we, w4, w8', ws2, wn, w12, wd, e1, e2, e3, i6, decide_true, decide_false, if_true, fail0 _ _ _ _ _ _ (show (4 : Int) ≠ 0 by decide), fail0 _ _ _ _ _ _ (show (6 : Int) ≠ 0 by decide), fail0 _ _ _ _ _ _ (show (3 : Int) ≠ 0 by decide), Bool.not_true, Bool.false_eq_true, if_false, Bool.not_false, g1, g2, and_self, Int.toNat_natCast, hin, hmod, c7, g3, g4, hcl, q1, q2, q3, p3, wnx]
include hby hlen in
theorem read_all : ∀ (N i en : Nat) (d m : Int), en - i ≤ N → i ≤ en → en ≤ b.length → 1 ≤ d → d ≤ 100 → 0 ≤ m → m ≤ 400 →
    OutC b i en d m ∧ ∀ out : List Chunk, out.length + (en - i) ≤ 2000000 → OutL b i en d m out := by
  intro N
  induction N with
  | zero =>
    intro i en d m hN h1 h2 hd1 hd2 hm0 hm4
    have hie : i = en := by omega
    subst hie
    refine ⟨chunk_step hby hlen i i d m h1 h2 hd1 hd2 hm0 hm4 fun j e m _ _ h => by omega, fun out _ => .inl ⟨[], m, ⟨by rw [cutL_self]; rfl, rfl, by simp [cnts], hm4, .inl rfl⟩, ?_, ?_⟩⟩
    · rw [loop_done (a := .inl ((i : Int), b, m, out)) (by unfold ref26_reader_list_loop2; simp), List.append_nil]
    · rw [loop_done (a := (b, m, 0, 0, out)) (by unfold chunk_reader_list_loop2; simp), List.append_nil]
  | succ N ih =>
    intro i en d m hN h1 h2 hd1 hd2 hm0 hm4
    have hC : OutC b i en d m := chunk_step hby hlen i en d m h1 h2 hd1 hd2 hm0 hm4 fun j e m g1 g2 g3 g4 g5 g6 => (ih j e (d + 1) m (by omega) g1 g2 (by omega) (by omega) g4 g5).2 [] (by simp; omega)
    refine ⟨hC, fun out ho => ?_⟩
    by_cases hie : i = en
    · subst hie
      refine .inl ⟨[], m, ⟨by rw [cutL_self]; rfl, rfl, by simp [cnts], hm4, .inl rfl⟩, ?_, ?_⟩
      · rw [loop_done (a := .inl ((i : Int), b, m, out)) (by unfold ref26_reader_list_loop2; simp), List.append_nil]
      · rw [loop_done (a := (b, m, 0, 0, out)) (by unfold chunk_reader_list_loop2; simp), List.append_nil]
    have hlt : (i : Int) < (en : Int) := by omega
    rcases hC with ⟨c, nx, m', hc, o1, o2⟩ | ⟨e, w, he, ⟨m1, o1⟩, q1, q2, q3, q4, q5, m2, o2⟩
    · have hlo := hc.lo
      have hhi := hc.hi
      have hmm := hc.many
      have hcn : 1 ≤ cnt c := by cases c; simp [cnt]
      have s1 : ref26_reader_list_loop2 en d ((i : Int), b, m, out) = some (.inl ((nx : Int), b, m', out ++ [c])) := by
        unfold ref26_reader_list_loop2
        simp only [hlt, decide_true, if_true, o1, Option.bind_some, Bool.not_true, Bool.false_eq_true, if_false, List.length_cons, List.length_nil]
        rw [if_pos (by omega), chunk_eta]
      have s2 : chunk_reader_list_loop2 en d ((i : Int), b, m, 0, 0, out) = some (.inl ((nx : Int), b, m', 0, 0, out ++ [c])) := by
        unfold chunk_reader_list_loop2
        simp only [hlt, decide_true, if_true, o2, Option.bind_some, Bool.not_true, Bool.false_eq_true, if_false, List.length_cons, List.length_nil]
        rw [if_pos (by omega), chunk_eta]
      rw [OutL, loop_step s1, loop_step s2]
      have := (ih nx en d m' (by omega) hhi h2 hd1 hd2 (by omega) hc.most).2 (out ++ [c]) (by rw [List.length_append, List.length_cons, List.length_nil]; omega)
      rcases this with ⟨l, m'', hl, r1, r2⟩ | ⟨e, w, he, ⟨m1, r1⟩, m2, o2, r2⟩
      · refine .inl ⟨c :: l, m'', ⟨?_, ?_, ?_, hl.most, .inr ?_⟩, by rw [r1, List.append_assoc]; rfl, by rw [r2, List.append_assoc]; rfl⟩
        · simp only [bytss, hc.bytes, hl.bytes]
          exact cutL_append b (by omega) hhi
        · simp [singles, hc.single, hl.singles]
        · rw [hl.many, hmm]; simp only [cnts]; omega
        · have := hc.deep
          simp only [deps]
          rcases hl.deep with h | h
          · subst h; simp [deps]; omega
          · omega
      · exact .inr ⟨e, w, he, ⟨m1, r1⟩, m2, o2, r2⟩
    · have s1 : ref26_reader_list_loop2 en d ((i : Int), b, m, out) = some (.inr (.inr ([], w, e, b, m1))) := by
        unfold ref26_reader_list_loop2
        simp only [hlt, decide_true, if_true, o1, Option.bind_some, he, decide_false, Bool.not_false]
      have s2 : chunk_reader_list_loop2 en d ((i : Int), b, m, 0, 0, out) = some (.inl (q5, b, m2, e, w, out ++ [Chunk.mk q1 q2 q3 q4])) := by
        unfold chunk_reader_list_loop2
        simp only [hlt, decide_true, if_true, o2, Option.bind_some, Bool.not_true, Bool.false_eq_true, if_false, List.length_cons, List.length_nil]
        rw [if_pos (by omega)]
      have s3 : chunk_reader_list_loop2 en d (q5, b, m2, e, w, out ++ [Chunk.mk q1 q2 q3 q4]) = some (.inr (b, m2, e, w, out ++ [Chunk.mk q1 q2 q3 q4])) := by
        unfold chunk_reader_list_loop2
        simp only [he, decide_false]
        split <;> rfl
      exact .inr ⟨e, w, he, ⟨m1, by rw [loop_done s1]⟩, m2, _, by rw [loop_step s2, loop_done s3]⟩

include hby hlen in
/-- what Get answers -/
theorem Get_both (hsm : b.length ≤ 60000) : (∃ l, bytss l = b ∧ validB l = true ∧ chunk_Get b = some (l, 0, 0) ∧ ref26_Get b = some (l, 0, 0)) ∨
    ∃ e w, e ≠ 0 ∧ chunk_Get b = some ([], w, e) ∧ ref26_Get b = some ([], w, e) := by
  have hns : ¬ ((b.length : Nat) : Int) > 60000 := by omega
  rcases (read_all hby hlen b.length 0 b.length 1 0 (by omega) (by omega) (by omega) (by omega) (by omega) (by omega) (by omega)).2 [] (by simp; omega) with ⟨l, m', hl, o1, o2⟩ | ⟨e, w, he, ⟨m1, o1⟩, m2, o2, o3⟩
  · refine .inl ⟨l, by rw [hl.bytes, cutL_all], ?_, ?_, ?_⟩
    · have h1 := hl.many
      have h2 := hl.most
      have h3 := hl.deep
      simp only [validB, hl.singles, Bool.true_and, Bool.and_eq_true, decide_eq_true_eq]
      refine ⟨by omega, ?_⟩
      rcases h3 with h | h
      · subst h; simp [deps]
      · omega
    · rw [chunk_Get_eq, chunk_reader_list_eq, show loop (chunk_reader_list_loop2 ((b.length : Nat) : Int) 1) (0, b, 0, 0, 0, []) = _ from o2]
      simp [hns]
    · rw [ref26_Get_eq, ref26_reader_list_eq, show loop (ref26_reader_list_loop2 ((b.length : Nat) : Int) 1) (0, b, 0, []) = _ from o1]
      simp [hns]
  · refine .inr ⟨e, w, he, ?_, ?_⟩
    · rw [chunk_Get_eq, chunk_reader_list_eq, show loop (chunk_reader_list_loop2 ((b.length : Nat) : Int) 1) (0, b, 0, 0, 0, []) = _ from o3]
      simp [hns, he]
    · rw [ref26_Get_eq, ref26_reader_list_eq, show loop (ref26_reader_list_loop2 ((b.length : Nat) : Int) 1) (0, b, 0, []) = _ from o1]
      simp [hns, he]
end
mutual
/-- a tree is not much longer than its bytes -/
theorem bulk_byts : ∀ c : Chunk, single c = true → bulk0 c ≤ 2 * (byts c).length
  | .mk id kind data kids, h => by
    simp only [single, Bool.and_eq_true] at h
    have hid := idB_len h.1
    simp only [byts, bulk0, List.length_append, hdr_len, pad_len]
    by_cases hf : id = FORM
    · simp only [hf, if_true, Bool.and_eq_true, decide_eq_true_eq] at h
      have := bulk_bytss kids h.2.2
      have hk := idB_len h.2.1.1.1
      have hd := h.2.1.2
      subst hd
      simp only [hf, if_true, List.length_append, List.length_nil]
      rw [hf] at hid
      omega
    · simp only [hf, if_false, Bool.and_eq_true, decide_eq_true_eq] at h
      have h1 := h.2.1
      have h2 : kids = [] := List.length_eq_zero_iff.1 h.2.2
      subst h1; subst h2
      simp only [hf, if_false, bulkL0, List.length_nil]
      omega
theorem bulk_bytss : ∀ l : List Chunk, singles l = true → bulkL0 l ≤ 2 * (bytss l).length
  | [], _ => by simp [bulkL0]
  | c :: l, h => by
    simp only [singles, Bool.and_eq_true] at h
    have := bulk_byts c h.1
    have := bulk_bytss l h.2
    simp only [bytss, bulkL0, List.length_append]
    omega
end
theorem good_bytes {b : List Int} (h : GoodP E (.ints .u8 b)) : ∀ x ∈ b, 0 ≤ x ∧ x ≤ 255 := by
  cases h with
  | ints h1 _ => intro x hx; simpa [IntKind.has, IntKind.min, IntKind.max, IntKind.signed, IntKind.bits] using h1 x hx
theorem chunkGets_true (b : List Int) (hg : GoodP E (.ints .u8 b)) (hb : bulkA bulk (.ints .u8 b) ≤ 1048576) : law26_ChunkGets b = some true := by
  rw [law26_ChunkGets_eq, awake]
  by_cases hl : ((b.length : Nat) : Int) > 120000
  · simp [hl]
  · simp only [hl, decide_false, Bool.false_eq_true, if_false]
    by_cases hs : b.length ≤ 60000
    · rcases Get_both (good_bytes hg) (by omega) hs with ⟨l, h1, h2, h3, h4⟩ | ⟨e, w, he, h3, h4⟩
      · rw [h3, h4]
        have := bulk_bytss l (validB_singles h2)
        rw [h1] at this
        simp only [Option.bind_some, decide_true, if_true]
        rw [rSame_is _ _ (by omega), sameL_self]
        rfl
      · rw [h3, h4]
        simp only [Option.bind_some, decide_true, if_true]
        rw [rSame_is _ _ (by simp [bulkL0]), sameL_self]
        rfl
    · rw [chunk_Get_eq, ref26_Get_eq]
      have : ((b.length : Nat) : Int) > 60000 := by omega
      simp only [this, decide_true, if_true, Option.bind_some]
      rw [rSame_is _ _ (by simp [bulkL0]), sameL_self]
      rfl
theorem chunkAgain_true (b : List Int) (hg : GoodP E (.ints .u8 b)) (hb : bulkA bulk (.ints .u8 b) ≤ 1048576) : law26_ChunkAgain b = some true := by
  rw [law26_ChunkAgain_eq, awake]
  by_cases hl : ((b.length : Nat) : Int) > 120000
  · simp [hl]
  · simp only [hl, decide_false, Bool.false_eq_true, if_false]
    by_cases hs : b.length ≤ 60000
    · rcases Get_both (good_bytes hg) (by omega) hs with ⟨l, h1, h2, h3, h4⟩ | ⟨e, w, he, h3, h4⟩
      · rw [h3]
        have h5 := bulk_bytss l (validB_singles h2)
        have h6 := bytss_len l (validB_singles h2)
        rw [h1] at h5 h6
        have hp : putR l = (b, 0) := by
          unfold putR
          rw [if_pos h2, if_neg (by omega), h1]
        simp only [Option.bind_some, decide_true, Bool.not_true, Bool.false_eq_true, if_false]
        rw [Put_is l (by omega), hp]
        simp only [Option.bind_some, decide_true, if_true]
        rw [SameBytes_is b b (by omega)]
        simp
      · rw [h3]
        simp [he]
    · rw [chunk_Get_eq]
      have : ((b.length : Nat) : Int) > 60000 := by omega
      simp [this]
end Go.Proofs.Ytjabpjkomgakbaa.P
