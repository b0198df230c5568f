/- Texts PureRd, PureTab, PureTwo, PureWord, PureRow, PureOne, PureBack, PureOneR, PureCur, PureHid, PureHidLaw, one behind the other. -/
import Derived.Test.YtgffdmgidnnedaaGreatPure1
import Derived.Test.YtgffdmgidnnedaaGreatF
import Derived.KernelRfl
set_option linter.unusedVariables false
set_option linter.unusedSimpArgs false
set_option maxRecDepth 10000
namespace Go.Proofs.YtgffdmgidnnedaaGreat.P
open Go Go.Proofs.YtgffdmgidnnedaaGreat.V
def allBit (l : List Int) : Bool := l.all fun x => decide (x = 0) || decide (x = 1)
theorem allBit_app {a b : List Int} (h : allBit a = true) (g : allBit b = true) : allBit (a ++ b) = true := by
 unfold allBit at *
 rw [List.all_append, h, g]; rfl
theorem allBit_mem {l : List Int} (h : allBit l = true) : ∀ x ∈ l, x = 0 ∨ x = 1 := by
 intro x hx
 have := List.all_eq_true.1 h x hx
 simpa using this
theorem bit_facts : ∀ (a : Fin 256) (s t : Fin 8) (x : Fin 2), a.val % 2 ^ (s.val + 1) = 0 → (a.val + x.val * 2 ^ s.val) / 2 ^ t.val % 2 = if t = s then x.val else if s.val < t.val then a.val / 2 ^ t.val % 2 else 0 := by decide +kernel
theorem iand_bit : ∀ (a : Fin 256) (t : Fin 8), iand .u8 (ishr .u8 ((a.val : Nat) : Int) ((t.val : Nat) : Int)) 1 = ((a.val / 2 ^ t.val % 2 : Nat) : Int) := by decide +kernel
theorem or_add : ∀ (a : Fin 256) (s : Fin 8) (b : Fin 2), (a : Nat) % 2 ^ ((s : Nat) + 1) = 0 → ior .u8 (((a : Nat) : Nat) : Int) (ishl .u8 (((b : Nat) : Nat) : Int) ((s : Nat) : Int)) = (((a : Nat) + (b : Nat) * 2 ^ (s : Nat) : Nat) : Int) ∧ (a : Nat) + (b : Nat) * 2 ^ (s : Nat) < 256 := by decide +kernel
/-- the bit at a place of bytes -/
def bitOf (B : List Int) (i : Nat) : Int := iand .u8 (ishr .u8 (rd B ((i / 8 : Nat) : Int)) ((7 - i % 8 : Nat) : Int)) 1
/-- from a place on the bytes hold these bits -/
def Holds (B : List Int) (at_ : Nat) (bs : List Int) : Prop := at_ + bs.length ≤ 8 * B.length ∧ ∀ k x, bs[k]? = some x → bitOf B (at_ + k) = x
theorem Holds.app {B : List Int} {at_ : Nat} {a b : List Int} (h : Holds B at_ (a ++ b)) : Holds B at_ a ∧ Holds B (at_ + a.length) b := by
 obtain ⟨h1, h2⟩ := h
 rw [List.length_append] at h1
 refine ⟨⟨by omega, fun k x hk => h2 k x ?_⟩, ⟨by omega, fun k x hk => ?_⟩⟩
 ·rw [List.getElem?_append_left (lt_len_of_get hk)]; exact hk
 ·have := h2 (a.length + k) x (by rw [List.getElem?_append_right (by omega), Nat.add_sub_cancel_left]; exact hk)
  rwa [← Nat.add_assoc] at this
theorem Holds.cons {B : List Int} {at_ : Nat} {x : Int} {b : List Int} (h : Holds B at_ (x :: b)) : at_ < 8 * B.length ∧ bitOf B at_ = x ∧ Holds B (at_ + 1) b := by
 obtain ⟨h1, h2⟩ := h
 rw [List.length_cons] at h1
 refine ⟨by omega, h2 0 x rfl, by omega, fun k y hk => ?_⟩
 have := h2 (k + 1) y hk
 rwa [show at_ + (k + 1) = at_ + 1 + k by omega] at this
theorem Holds.nil {B : List Int} {at_ : Nat} (h : at_ ≤ 8 * B.length) : Holds B at_ [] := ⟨by simpa using h, fun k x hk => by simp at hk⟩
/-- what stands in the bytes when v bits are packed -/
def PackAt (l : List Int) (v : Nat) (b : List Int) : Prop := ∀ (j : Nat) x, b[j]? = some x → ∃ n : Nat, x = (n : Int) ∧ n < 256 ∧ (v / 8 < j → n = 0) ∧ (v / 8 = j → n % 2 ^ (8 - v % 8) = 0) ∧
 ∀ t : Nat, t < 8 → 8 * j + t < v → ((n / 2 ^ (7 - t) % 2 : Nat) : Int) = rd l ((8 * j + t : Nat) : Int)
theorem PackAt.next {l b : List Int} {v n x : Nat} (hP : PackAt l v b) (hx : rd l (v : Int) = (x : Int)) (hx2 : x < 2) (hg : b[v / 8]? = some (n : Int)) (hn2 : n < 256) (hz : n % 2 ^ (8 - v % 8) = 0)
  (hold : ∀ t : Nat, t < 8 → 8 * (v / 8) + t < v → ((n / 2 ^ (7 - t) % 2 : Nat) : Int) = rd l ((8 * (v / 8) + t : Nat) : Int)) :
  PackAt l (v + 1) (b.set (v / 8) ((n + x * 2 ^ (7 - v % 8) : Nat) : Int)) := by
 intro j y hj
 rw [List.getElem?_set] at hj
 have hz2 : n % 2 ^ (7 - v % 8 + 1) = 0 := by rw [show 7 - v % 8 + 1 = 8 - v % 8 by omega]; exact hz
 by_cases he : v / 8 = j
 ·rw [if_pos he] at hj
  subst he
  split at hj
  ·cases hj
   refine ⟨_, rfl, (or_add ⟨n, hn2⟩ ⟨7 - v % 8, by omega⟩ ⟨x, hx2⟩ hz2).2, fun q => by omega, fun q => ?_, fun t ht hv => ?_⟩
   ·have h8 : v % 8 < 7 := by omega
    rw [show (v + 1) % 8 = v % 8 + 1 by omega, show 8 - (v % 8 + 1) = 7 - v % 8 by omega]
    rw [Nat.add_mod, Nat.mul_mod_left, Nat.add_zero, Nat.mod_mod]
    exact Nat.mod_eq_zero_of_dvd (Nat.dvd_trans ⟨2, by rw [Nat.pow_succ]⟩ (Nat.dvd_of_mod_eq_zero hz2))
   ·have hb := bit_facts ⟨n, hn2⟩ ⟨7 - v % 8, by omega⟩ ⟨7 - t, by omega⟩ ⟨x, hx2⟩ hz2
    simp only [Fin.mk.injEq] at hb
    rw [hb]
    by_cases e : t = v % 8
    ·rw [if_pos (by omega), ← hx]
     congr 1
     omega
    ·rw [if_neg (by omega), if_pos (by omega)]
     exact hold t ht (by omega)
  ·cases hj
 ·rw [if_neg he] at hj
  obtain ⟨m, hm1, hm2, hm3, hm4, hm5⟩ := hP j y hj
  refine ⟨m, hm1, hm2, fun q => hm3 (by omega), fun q => ?_, fun t ht hv => hm5 t ht (by omega)⟩
  rw [hm3 (by omega)]; simp
theorem PackAt.holds {l b : List Int} (h : PackAt l l.length b) (hl : b.length = (l.length + 7) / 8) : Holds b 0 l := by
 refine ⟨by omega, fun k x hk => ?_⟩
 have hlt := lt_len_of_get hk
 have hj : k / 8 < b.length := by omega
 obtain ⟨n, e, hn, _, _, h5⟩ := h (k / 8) b[k / 8] (List.getElem?_eq_getElem hj)
 have := h5 (k % 8) (by omega) (by omega)
 rw [show 8 * (k / 8) + k % 8 = k by omega, rd_nat hk] at this
 unfold bitOf
 rw [Nat.zero_add, rd_nat (List.getElem?_eq_getElem hj), e, ← this]
 exact iand_bit ⟨n, hn⟩ ⟨7 - k % 8, by omega⟩
/-- Pack: the bytes hold the bits. -/
theorem pack_holds {l : List Int} (hb : allBit l = true) (hl : l.length ≤ 1000000000) : ∃ c, bits_Pack l = some (c, 0) ∧ c.length = (l.length + 7) / 8 ∧ Holds c 0 l := by
 have hbit := allBit_mem hb
 rw [bits_Pack_eq]
 try simp only
 rw [w64 (n := ((l.length : Nat) : Int) + 7) (by omega), tdiv_pos (by omega), w64 (n := (((l.length : Nat) : Int) + 7) / 8) (by omega), if_pos (by omega)]
 have hlen0 : (List.replicate ((((l.length : Nat) : Int) + 7) / 8).toNat (0 : Int)).length = (l.length + 7) / 8 := by rw [List.length_replicate]; omega
 obtain ⟨r, e1, b, rfl, hlb, hP⟩ : ∃ r, loop (bits_Pack_loop3 l) (0, List.replicate ((((l.length : Nat) : Int) + 7) / 8).toNat 0) = some r ∧ ∃ b, r = Sum.inl b ∧ b.length = (l.length + 7) / 8 ∧ PackAt l l.length b := by
  refine loop_ind (fun s => ∃ v : Nat, s.1 = (v : Int) ∧ v ≤ l.length ∧ s.2.length = (l.length + 7) / 8 ∧ PackAt l v s.2) (fun s => ((l.length : Int) - s.1).toNat) _ ?_ _ ⟨0, rfl, by omega, hlen0, fun j x hj => ⟨0, ?_, by decide, fun _ => rfl, fun _ => by simp, fun t _ hv => by omega⟩⟩
  ·rintro ⟨_, b⟩ ⟨v, rfl, hv, hlb, hP⟩
   simp only at hlb hP
   unfold bits_Pack_loop3
   simp only [iteD]
   by_cases hlt : (v : Int) < (l.length : Int)
   ·left
    have hx := hbit _ (rd_mem (show (0 : Int) ≤ (v : Int) by omega) hlt)
    have hv0 : (0 : Int) ≤ (v : Int) := by omega
    have hnb : ¬ rd l (v : Int) > 1 := by omega
    have e1 : IntKind.i64.wrap ((v : Int).tdiv 8) = (v : Int) / 8 := by rw [tdiv_pos (by omega), w64 (by omega)]
    have e2 : IntKind.i64.wrap (7 - (v : Int).tmod 8) = (((7 - v % 8 : Nat) : Nat) : Int) := by rw [tmod_pos (by omega), w64 (by omega)]; omega
    have i1 : 0 ≤ (v : Int) / 8 := by omega
    have i2 : (v : Int) / 8 < (b.length : Int) := by omega
    have n11 : ¬ (((7 - v % 8 : Nat) : Nat) : Int) < 0 := by omega
    simp only [hlt, hv0, hnb, e1, e2, i1, i2, n11, and_self, if_true, if_false]
    have hg : b[v / 8]? = some (rd b ((v : Int) / 8)) := by
     have := rd_get (xs := b) (i := (v : Int) / 8) (by omega) (by omega)
     rwa [show ((v : Int) / 8).toNat = v / 8 by omega] at this
    obtain ⟨n, hn, hn2, hn3, hn4, hn5⟩ := hP _ _ hg
    obtain ⟨x, hx1, hx2⟩ : ∃ x : Nat, rd l (v : Int) = (x : Int) ∧ x < 2 := by
     rcases hx with q | q
     ·exact ⟨0, q, by decide⟩
     ·exact ⟨1, q, by decide⟩
    have hz := hn4 rfl
    obtain ⟨o1, o2⟩ := or_add ⟨n, hn2⟩ ⟨7 - v % 8, by omega⟩ ⟨x, hx2⟩ (by show n % 2 ^ (7 - v % 8 + 1) = 0; rw [show 7 - v % 8 + 1 = 8 - v % 8 by omega]; exact hz)
    simp only at o1 o2
    rw [hn, hx1, o1, w64 (n := (v : Int) + 1) (by omega)]
    refine ⟨_, rfl, ⟨v + 1, by show (v : Int) + 1 = ((v + 1 : Nat) : Int); omega, by omega, by simpa using hlb, ?_⟩, by show ((l.length : Int) - ((v : Int) + 1)).toNat < ((l.length : Int) - (v : Int)).toNat; omega⟩
    show PackAt l (v + 1) (b.set ((v : Int) / 8).toNat _)
    rw [show ((v : Int) / 8).toNat = v / 8 by omega]
    exact hP.next hx1 hx2 (by rw [← hn]; exact hg) hn2 hz hn5
   ·right
    rw [if_neg hlt]
    have : v = l.length := by omega
    subst this
    exact ⟨_, rfl, b, rfl, hlb, hP⟩
  ·rw [List.getElem?_replicate] at hj
   split at hj
   ·cases hj; rfl
   ·cases hj
 rw [e1]
 exact ⟨b, rfl, hlb, hP.holds hlb⟩
/-- n digits of a number, the highest first -/
def digs (x : Nat) : Nat → List Int
 | 0 => []
 | n + 1 => ((x / 2 ^ n % 2 : Nat) : Int) :: digs x n
theorem digs_len (x : Nat) : ∀ n, (digs x n).length = n
 | 0 => rfl
 | n + 1 => by rw [digs, List.length_cons, digs_len x n]
def tabS : List Line := [⟨1, 0, 0, 0⟩, ⟨2, 1, 1, 0⟩, ⟨3, 3, 3, 0⟩, ⟨4, 5, 11, 0⟩, ⟨5, 8, 43, 0⟩, ⟨5, 20, 299, 0⟩]
def codS : List (List Int) := [[0], [1, 0], [1, 1, 0], [1, 1, 1, 0], [1, 1, 1, 1, 0], [1, 1, 1, 1, 1]]
def tabR (c : Int) : List Line := if c = 0 then [⟨2, 2, 0, 0⟩, ⟨2, 3, 4, 0⟩, ⟨2, 4, 12, 0⟩, ⟨2, 6, 28, 0⟩] else [⟨1, 1, 0, 0⟩, ⟨2, 1, 2, 0⟩, ⟨3, 2, 4, 0⟩, ⟨3, 6, 8, 0⟩]
def codR (c : Int) : List (List Int) := if c = 0 then [[0, 0], [0, 1], [1, 0], [1, 1]] else [[0], [1, 0], [1, 1, 0], [1, 1, 1]]
/-- a number's bits by a table: the code of a line, and which number of the line it is -/
structure NumB (T : List Line) (C : List (List Int)) (n : Int) (l : List Int) : Prop where
 ok : ∃ (i : Nat) (L : Line) (c : List Int) (d k : Nat), T[i]? = some L ∧ C[i]? = some c ∧ L.bits = (k : Int) ∧ k ≤ 20 ∧ n = L.low + (d : Int) ∧ d < 2 ^ k ∧ l = c ++ digs d k
 len : l.length ≤ 30
 bit : allBit l = true
def lineB (T : List Line) (C : List (List Int)) (n : Nat) (l : List Int) (i : Nat) : Bool := match T[i]?, C[i]? with
 | some L, some c => decide (L.bits = (L.bits.toNat : Int)) && Nat.ble L.bits.toNat 20 && decide ((n : Int) = L.low + (((n : Int) - L.low).toNat : Int)) && decide (((n : Int) - L.low).toNat < 2 ^ L.bits.toNat) && decide (l = c ++ digs ((n : Int) - L.low).toNat L.bits.toNat)
 | _, _ => false
noncomputable def numB (T : List Line) (C : List (List Int)) (n : Nat) : Bool := match prefix_Bits_F 100 T false n with
 | some (e, l) => decide (e = 0) && (Nat.ble l.length 30 && (allBit l && (List.range T.length).any (lineB T C n l)))
 | _ => false
theorem numS : (List.range 4).all (numB tabS codS) = true := by kernel_rfl
theorem num0 : (List.range 64).all (numB (tabR 0) (codR 0)) = true := by kernel_rfl
theorem num1 : (List.range 64).all (numB (tabR 1) (codR 1)) = true := by kernel_rfl
theorem numB_spec {T : List Line} {C : List (List Int)} {n : Nat} (h : numB T C n = true) : ∃ l, prefix_Bits T false n = some (0, l) ∧ NumB T C n l := by
 unfold numB at h
 split at h
 ·rename_i e l h1
  rw [Bool.and_eq_true, Bool.and_eq_true, Bool.and_eq_true] at h
  obtain ⟨a, b, c, d⟩ := h
  have a := of_decide_eq_true a
  subst a
  refine ⟨l, prefix_Bits_F_le _ _ _ _ _ h1, ⟨?_, Nat.le_of_ble_eq_true b, c⟩⟩
  obtain ⟨i, _, hi⟩ := List.any_eq_true.1 d
  unfold lineB at hi
  split at hi
  ·rename_i L c g1 g2
   simp only [Bool.and_eq_true, decide_eq_true_eq] at hi
   obtain ⟨⟨⟨⟨k1, k2⟩, k3⟩, k4⟩, k5⟩ := hi
   exact ⟨i, L, c, _, _, g1, g2, k1, Nat.le_of_ble_eq_true k2, k3, k4, k5⟩
  ·cases hi
 ·cases h
/-- the bits of a run -/
structure RunB (n c : Int) (l : List Int) : Prop where
 ok : ∃ x y, NumB tabS codS (n / 64) x ∧ NumB (tabR c) (codR c) (n % 64) y ∧ l = x ++ y
 len : l.length ≤ 60
 bit : allBit l = true
 at_ : runs_runBits n c = some l
theorem runB_is {n c : Int} (h0 : 0 ≤ n) (h1 : n ≤ 200) (hc : c = 0 ∨ c = 1) : ∃ l, RunB n c l := by
 obtain ⟨a, a1, a2⟩ := numB_spec (List.all_eq_true.1 numS (n / 64).toNat (List.mem_range.2 (by omega)))
 have hT : ∀ c : Int, c = 0 ∨ c = 1 → (List.range 64).all (numB (tabR c) (codR c)) = true := by
  rintro c (rfl | rfl)
  ·exact num0
  ·exact num1
 obtain ⟨b, b1, b2⟩ := numB_spec (List.all_eq_true.1 (hT c hc) (n % 64).toNat (List.mem_range.2 (by omega)))
 rw [show (((n / 64).toNat : Nat) : Int) = n / 64 by omega] at a1 a2
 rw [show (((n % 64).toNat : Nat) : Int) = n % 64 by omega] at b1 b2
 have e1 : runs_remains c = some (tabR c) := by rw [runs_remains_eq, runs_remains_b]; unfold tabR; simp only [iteD]; split <;> rfl
 have e0 : prefix_Standard 0 = some (tabS, 0) := prefix_Standard_F_le 100 _ _ (by kernel_rfl)
 have hla := a2.len
 have hlb := b2.len
 refine ⟨a ++ b, ⟨a, b, a2, b2, rfl⟩, by rw [List.length_append]; omega, allBit_app a2.bit b2.bit, ?_⟩
 rw [runs_runBits_eq, e0, tdiv_pos h0, tmod_pos h0]
 simp only [Option.bind_some]
 rw [w64 (n := n / 64) (by omega), a1, e1]
 simp only [Option.bind_some]
 rw [b1]
 simp only [Option.bind_some]
 rw [if_pos (by omega)]
/-- the least place behind a of a colour, or the length -/
structure Chg (p : List Int) (a c x : Int) : Prop where
 le : x ≤ (p.length : Int)
 up : a < x ∨ x = (p.length : Int)
 not : ∀ j, a < j → j < x → rd p j ≠ c
 at_ : x < (p.length : Int) → rd p x = c
theorem change_is {p : List Int} (hl : p.length ≤ 200) {a c : Int} (ha : -1 ≤ a ∧ a ≤ (p.length : Int)) : ∃ x, runs_change p a c = some x ∧ Chg p a c x := by
 rw [runs_change_eq]
 try simp only
 rw [w64 (n := a + 1) (by omega)]
 obtain ⟨x, e, h1, h2, h3, h4⟩ : ∃ x, loop (runs_change_loop2 p c) (a + 1) = some x ∧ a < x ∧ x ≤ (p.length : Int) + 1 ∧ (∀ j, a < j → j < x → rd p j ≠ c) ∧ (x < (p.length : Int) → rd p x = c) := by
  refine loop_ind (fun s => a < s ∧ s ≤ (p.length : Int) + 1 ∧ ∀ j, a < j → j < s → rd p j ≠ c) (fun s => ((p.length : Int) - s).toNat) _ (fun s hs => ?_) _ ⟨by omega, by omega, fun j h1 h2 => by omega⟩
  obtain ⟨h1, h2, h3⟩ := hs
  unfold runs_change_loop2
  simp only [iteD, iteND]
  by_cases hlt : s < (p.length : Int)
  ·rw [if_pos hlt, if_pos (by omega)]
   by_cases hc : rd p s = c
   ·right
    rw [if_pos hc]
    exact ⟨s, rfl, h1, h2, h3, fun _ => hc⟩
   ·left
    rw [if_neg hc, w64 (n := s + 1) (by omega)]
    refine ⟨_, rfl, ⟨by omega, by omega, fun j g1 g2 => ?_⟩, by omega⟩
    by_cases e : j = s
    ·rw [e]; exact hc
    ·exact h3 j g1 (by omega)
  ·right
   rw [if_neg hlt]
   exact ⟨s, rfl, h1, h2, h3, fun h => absurd h hlt⟩
 rw [e, Option.bind_some, imin_eq]
 refine ⟨_, rfl, by omega, by omega, fun j g1 g2 => h3 j g1 (by omega), fun h => ?_⟩
 rw [show min x (p.length : Int) = x by omega] at h ⊢
 exact h4 h
theorem marks_some {p : List Int} (hl : p.length ≤ 200) {a c : Int} (ha : -1 ≤ a ∧ a < (p.length : Int)) : ∃ b1 b2, runs_marks p a c = some (b1, b2) ∧ a < b1 ∧ b1 ≤ (p.length : Int) ∧ Chg p b1 c b2 := by
 rw [runs_marks_eq]
 try simp only
 rw [w64 (n := a + 1) (by omega)]
 obtain ⟨x, e, h1, h2⟩ : ∃ x, loop (runs_marks_loop2 p c) (a + 1) = some x ∧ a < x ∧ x ≤ (p.length : Int) := by
  refine loop_ind (fun s => a < s ∧ s ≤ (p.length : Int)) (fun s => ((p.length : Int) - s).toNat) _ (fun s hs => ?_) _ ⟨by omega, by omega⟩
  obtain ⟨h1, h2⟩ := hs
  unfold runs_marks_loop2
  simp only [iteD, iteND]
  by_cases hlt : s < (p.length : Int)
  ·rw [if_pos hlt]
   obtain ⟨lf, hlf⟩ : ∃ lf, (if s > 0 then (if 0 ≤ IntKind.i64.wrap (s - 1) ∧ IntKind.i64.wrap (s - 1) < (p.length : Int) then some (rd p (IntKind.i64.wrap (s - 1))) else none) else some 0 : Option Int) = some lf := by
    split
    ·rw [w64 (n := s - 1) (by omega), if_pos (by omega)]; exact ⟨_, rfl⟩
    ·exact ⟨_, rfl⟩
   rw [hlf, Option.bind_some, if_pos (by omega), w64 (n := s + 1) (by omega)]
   by_cases hc : rd p s = c
   ·left; rw [if_pos hc]; exact ⟨_, rfl, ⟨by omega, by omega⟩, by omega⟩
   ·rw [if_neg hc]
    by_cases hc2 : lf = c
    ·right; rw [if_pos hc2]; exact ⟨_, rfl, h1, h2⟩
    ·left; rw [if_neg hc2]; exact ⟨_, rfl, ⟨by omega, by omega⟩, by omega⟩
  ·right; rw [if_neg hlt]; exact ⟨_, rfl, h1, h2⟩
 obtain ⟨b2, e2, g⟩ := change_is hl (a := min x (p.length : Int)) (c := c) (by omega)
 rw [e, Option.bind_some, imin_eq, e2, Option.bind_some]
 exact ⟨_, _, rfl, by omega, by omega, g⟩
/-- the codes of modes: pass, flat, and uprights from -3 on -/
def ups : List (List Int) := [[0, 0, 0, 0, 0, 1, 0], [0, 0, 0, 0, 1, 0], [0, 1, 0], [1], [0, 1, 1], [0, 0, 0, 0, 1, 1], [0, 0, 0, 0, 0, 1, 1]]
/-- the bits of the rest of a row p below a row q, from a place and a colour on -/
inductive Ms (q p : List Int) : Int → Int → List Int → Prop
 | done {a c : Int} : ¬ (a < (p.length : Int) ∧ 0 < (p.length : Int)) → Ms q p a c []
 | pass {a c b1 b2 a1 : Int} {bs : List Int} : a < (p.length : Int) → 0 < (p.length : Int) → -1 ≤ a → runs_marks q a c = some (b1, b2) → Chg q b1 c b2 → a < b1 → Chg p a (1 - c) a1 → b2 < a1 → Ms q p b2 c bs → Ms q p a c ([0, 0, 0, 1] ++ bs)
 | up {a c b1 b2 a1 : Int} {bs u : List Int} : a < (p.length : Int) → 0 < (p.length : Int) → -1 ≤ a → runs_marks q a c = some (b1, b2) → Chg p a (1 - c) a1 → -3 ≤ a1 - b1 → a1 - b1 ≤ 3 → ups[(a1 - b1 + 3).toNat]? = some u → Ms q p a1 (1 - c) bs → Ms q p a c (u ++ bs)
 | flat {a c b1 b2 a1 a2 : Int} {bs x y : List Int} : a < (p.length : Int) → 0 < (p.length : Int) → -1 ≤ a → runs_marks q a c = some (b1, b2) → Chg p a (1 - c) a1 → Chg p a1 c a2 → RunB (a1 - max a 0) c x → RunB (a2 - a1) (1 - c) y → Ms q p a2 c bs → Ms q p a c ([0, 0, 1] ++ x ++ y ++ bs)
/-- the bits of modes -/
def MBits : List Mode → List Int → Prop
 | [], bs => bs = []
 | m :: l, bs => ∃ x y, runs_mode_bits m.kind m.d m.runs_0 m.runs_1 m.colour = some x ∧ x.length ≤ 130 ∧ allBit x = true ∧ MBits l y ∧ bs = x ++ y
theorem MBits.snoc {m : Mode} {x : List Int} (h1 : runs_mode_bits m.kind m.d m.runs_0 m.runs_1 m.colour = some x) (h2 : x.length ≤ 130) (h3 : allBit x = true) : ∀ {l : List Mode} {bs : List Int}, MBits l bs → MBits (l ++ [m]) (bs ++ x)
 | [], bs, h => by
  simp only [MBits] at h
  subst h
  exact ⟨x, [], h1, h2, h3, rfl, by simp⟩
 | n :: l, bs, h => by
  obtain ⟨y, z, g1, g2, g3, g4, rfl⟩ := h
  exact ⟨y, z ++ x, g1, g2, g3, g4.snoc h1 h2 h3, by rw [List.append_assoc]⟩
theorem MBits.all : ∀ {l : List Mode} {bs : List Int}, MBits l bs → allBit bs = true ∧ bs.length ≤ 130 * l.length
 | [], bs, h => by simp only [MBits] at h; subst h; exact ⟨rfl, by simp⟩
 | m :: l, bs, h => by
  obtain ⟨x, y, g1, g2, g3, g4, rfl⟩ := h
  obtain ⟨q1, q2⟩ := g4.all
  exact ⟨allBit_app g3 q1, by rw [List.length_append, List.length_cons]; omega⟩
theorem pass_list : runs_list [48, 48, 48, 49] = some [0, 0, 0, 1] := runs_list_F_le 20 _ _ (by kernel_rfl)
theorem flat_list : runs_list [48, 48, 49] = some [0, 0, 1] := runs_list_F_le 20 _ _ (by kernel_rfl)
theorem up_bits {d : Int} (hd : -3 ≤ d ∧ d ≤ 3) : ∃ b, runs_mode_bits [117, 112] d 0 0 0 = some b ∧ ups[(d + 3).toNat]? = some b ∧ b.length ≤ 130 ∧ allBit b = true := by
 have key : ∀ (s b : List Int) (k : Int), runs_list s = some b → runs_uprights = some [[48, 48, 48, 48, 48, 49, 48], [48, 48, 48, 48, 49, 48], [48, 49, 48], [49], [48, 49, 49], [48, 48, 48, 48, 49, 49], [48, 48, 48, 48, 48, 49, 49]] →
   IntKind.i64.wrap (k + 3) = k + 3 → 0 ≤ k + 3 → ([[48, 48, 48, 48, 48, 49, 48], [48, 48, 48, 48, 49, 48], [48, 49, 48], [49], [48, 49, 49], [48, 48, 48, 48, 49, 49], [48, 48, 48, 48, 48, 49, 49]] : List (List Int))[(k + 3).toNat]? = some s → runs_mode_bits [117, 112] k 0 0 0 = some b := by
  intro s b k h1 h2 h3 h4 h5
  rw [runs_mode_bits_eq, h2, if_neg (by decide), if_pos (by decide)]
  simp only [Option.bind_some]
  rw [h3, if_pos h4, h5]
  simp only [Option.bind_some]
  rw [h1]; rfl
 have hu : runs_uprights = some [[48, 48, 48, 48, 48, 49, 48], [48, 48, 48, 48, 49, 48], [48, 49, 48], [49], [48, 49, 49], [48, 48, 48, 48, 49, 49], [48, 48, 48, 48, 48, 49, 49]] := runs_uprights_F_le 10 _ (by kernel_rfl)
 have hd' : d = -3 ∨ d = -2 ∨ d = -1 ∨ d = 0 ∨ d = 1 ∨ d = 2 ∨ d = 3 := by omega
 rcases hd' with rfl | rfl | rfl | rfl | rfl | rfl | rfl
 ·exact ⟨[0, 0, 0, 0, 0, 1, 0], key [48, 48, 48, 48, 48, 49, 48] _ _ (runs_list_F_le 20 _ _ (by kernel_rfl)) hu (by decide) (by decide) rfl, rfl, by decide, by decide⟩
 ·exact ⟨[0, 0, 0, 0, 1, 0], key [48, 48, 48, 48, 49, 48] _ _ (runs_list_F_le 20 _ _ (by kernel_rfl)) hu (by decide) (by decide) rfl, rfl, by decide, by decide⟩
 ·exact ⟨[0, 1, 0], key [48, 49, 48] _ _ (runs_list_F_le 20 _ _ (by kernel_rfl)) hu (by decide) (by decide) rfl, rfl, by decide, by decide⟩
 ·exact ⟨[1], key [49] _ _ (runs_list_F_le 20 _ _ (by kernel_rfl)) hu (by decide) (by decide) rfl, rfl, by decide, by decide⟩
 ·exact ⟨[0, 1, 1], key [48, 49, 49] _ _ (runs_list_F_le 20 _ _ (by kernel_rfl)) hu (by decide) (by decide) rfl, rfl, by decide, by decide⟩
 ·exact ⟨[0, 0, 0, 0, 1, 1], key [48, 48, 48, 48, 49, 49] _ _ (runs_list_F_le 20 _ _ (by kernel_rfl)) hu (by decide) (by decide) rfl, rfl, by decide, by decide⟩
 ·exact ⟨[0, 0, 0, 0, 0, 1, 1], key [48, 48, 48, 48, 48, 49, 49] _ _ (runs_list_F_le 20 _ _ (by kernel_rfl)) hu (by decide) (by decide) rfl, rfl, by decide, by decide⟩
/-- The modes of a row. -/
theorem modes_bits {q p : List Int} (hl : p.length ≤ 200) (hlq : q.length = p.length) : ∃ l bs, runs_modes q p = some l ∧ l.length ≤ p.length + 1 ∧ MBits l bs ∧ Ms q p (-1) 0 bs := by
 obtain ⟨l, e, h1, bs, h2, h3⟩ : ∃ l, loop (runs_modes_loop4 q p) (-1, 0, []) = some l ∧ l.length ≤ p.length + 1 ∧ ∃ bs, MBits l bs ∧ Ms q p (-1) 0 bs := by
  refine loop_ind (fun s => (s.2.1 = 0 ∨ s.2.1 = 1) ∧ -1 ≤ s.1 ∧ s.1 ≤ (p.length : Int) ∧ (s.2.2.length : Int) ≤ s.1 + 1 ∧ ∃ ob, MBits s.2.2 ob ∧ ∀ bs, Ms q p s.1 s.2.1 bs → Ms q p (-1) 0 (ob ++ bs)) (fun s => ((p.length : Int) - s.1).toNat) _ ?_ _
   ⟨.inl rfl, by decide, by show (-1 : Int) ≤ _; omega, by decide, [], (by simp [MBits]), fun bs h => h⟩
  rintro ⟨a, c, out⟩ ⟨hc, h0, h1, hlen, ob, hM, hk⟩
  simp only at hc h0 h1 hlen hM hk
  unfold runs_modes_loop4
  have ev1 : ((if decide (a < (p.length : Int)) = true then some (decide ((p.length : Int) > 0)) else some false) : Option Bool) = some (decide (a < (p.length : Int) ∧ 0 < (p.length : Int))) := by
   simp only [iteD]
   split
   ·refine some_dec ?_; simp only [decide_eq_true_eq]; omega
   ·refine some_dec ?_; simp only [Bool.false_eq_true, false_iff]; omega
  simp only [ev1, Option.bind_some, iteD]
  by_cases hlt : a < (p.length : Int) ∧ 0 < (p.length : Int)
  ·left
   simp only [hlt, and_self, if_true]
   obtain ⟨b1, b2, m1, m2, m3, m4⟩ := marks_some (p := q) (by omega) (a := a) (c := c) (by omega)
   have hw : IntKind.u8.wrap (1 - c) = 1 - c := by rw [w8]; omega
   obtain ⟨a1, f1, f2⟩ := change_is hl (a := a) (c := 1 - c) (by omega)
   simp only [m1, hw, f1, Option.bind_some, iteD]
   have fl := f2.le
   have fu := f2.up
   have ml := m4.le
   have mu := m4.up
   by_cases hpass : b2 < a1
   ·simp only [hpass, if_true, List.length_singleton]
    rw [if_pos (by omega)]
    refine ⟨_, rfl, ⟨hc, by show -1 ≤ b2; omega, by show b2 ≤ _; omega, by show ((out ++ [_]).length : Int) ≤ b2 + 1; rw [List.length_append, List.length_singleton]; omega, ob ++ [0, 0, 0, 1], hM.snoc ?_ (by decide) (by decide), fun bs h => ?_⟩, by show ((p.length : Int) - b2).toNat < ((p.length : Int) - a).toNat; omega⟩
    ·rw [runs_mode_bits_eq, if_pos (by decide), pass_list]; rfl
    ·rw [List.append_assoc]
     exact hk _ (.pass hlt.1 hlt.2 h0 m1 m4 m2 f2 hpass h)
   ·simp only [hpass, if_false]
    rw [w64 (n := a1 - b1) (by omega)]
    have ev : ((if a1 - b1 ≥ -3 then some (decide (a1 - b1 ≤ 3)) else some false) : Option Bool) = some (decide (-3 ≤ a1 - b1 ∧ a1 - b1 ≤ 3)) := by
     split
     ·refine some_dec ?_; simp only [decide_eq_true_eq]; omega
     ·refine some_dec ?_; simp only [Bool.false_eq_true, false_iff]; omega
    simp only [ev, Option.bind_some, iteD]
    by_cases hup : -3 ≤ a1 - b1 ∧ a1 - b1 ≤ 3
    ·obtain ⟨u, u1, u2, u3, u4⟩ := up_bits hup
     simp only [hup, and_self, if_true, List.length_singleton]
     rw [if_pos (by omega)]
     refine ⟨_, rfl, ⟨by show 1 - c = 0 ∨ 1 - c = 1; omega, by show -1 ≤ a1; omega, by show a1 ≤ _; omega, by show ((out ++ [_]).length : Int) ≤ a1 + 1; rw [List.length_append, List.length_singleton]; omega, ob ++ u, hM.snoc u1 u3 u4, fun bs h => ?_⟩, by show ((p.length : Int) - a1).toNat < ((p.length : Int) - a).toNat; omega⟩
     rw [List.append_assoc]
     exact hk _ (.up hlt.1 hlt.2 h0 m1 f2 hup.1 hup.2 u2 h)
    ·obtain ⟨a2, g1, g2⟩ := change_is hl (a := a1) (c := c) (by omega)
     have gl := g2.le
     have gu := g2.up
     simp only [hup, if_false, g1, Option.bind_some, imax_eq, List.length_singleton]
     rw [w64 (n := a1 - max a 0) (by omega), w64 (n := a2 - a1) (by omega), w64 (n := c) (by omega)]
     obtain ⟨x, hx⟩ := runB_is (n := a1 - max a 0) (c := c) (by omega) (by omega) hc
     obtain ⟨y, hy⟩ := runB_is (n := a2 - a1) (c := 1 - c) (by omega) (by omega) (by omega)
     rw [if_pos (by omega)]
     have hxl := hx.len
     have hyl := hy.len
     refine ⟨_, rfl, ⟨hc, by show -1 ≤ a2; omega, by show a2 ≤ _; omega, by show ((out ++ [_]).length : Int) ≤ a2 + 1; rw [List.length_append, List.length_singleton]; omega, ob ++ ([0, 0, 1] ++ x ++ y), hM.snoc ?_ (by rw [List.length_append, List.length_append]; simp only [List.length_cons, List.length_nil]; omega) (allBit_app (allBit_app (by decide) hx.bit) hy.bit), fun bs h => ?_⟩, by show ((p.length : Int) - a2).toNat < ((p.length : Int) - a).toNat; omega⟩
     ·have hl3 : (([0, 0, 1] ++ x : List Int)).length + y.length ≤ 123 := by rw [List.length_append]; simp only [List.length_cons, List.length_nil]; omega
      rw [runs_mode_bits_eq, if_neg (by simp), if_neg (by simp), flat_list]
      simp only [Option.bind_some, hx.at_, w64 (n := 1 - c) (by omega), hy.at_, List.length_cons, List.length_nil]
      rw [if_pos (by decide), if_pos (by omega), if_pos (by decide), if_pos (by omega)]
     ·rw [List.append_assoc]
      exact hk _ (.flat hlt.1 hlt.2 h0 m1 f2 g2 hx hy h)
  ·right
   simp only [hlt, if_false]
   exact ⟨_, rfl, by omega, ob, hM, by simpa using hk [] (.done hlt)⟩
 exact ⟨l, bs, by rw [runs_modes_eq, e]; rfl, h1, h2, h3⟩
/-- The bits of a row's modes. -/
theorem twoRow_bits {l : List Mode} {bs out : List Int} (hM : MBits l bs) (hl : l.length ≤ 201) (ho : out.length ≤ 900000000) : loop (runs_Two_loop9 l) (0, out) = some (out ++ bs) := by
 have key : ∀ (n : Nat) (l0 l1 : List Mode) (bs : List Int) (out : List Int), l1.length = n → l0 ++ l1 = l → MBits l1 bs → out.length + 130 * l1.length ≤ 900100000 → loop (runs_Two_loop9 l) ((l0.length : Int), out) = some (out ++ bs) := by
  intro n
  induction n with
  | zero =>
   intro l0 l1 bs out h1 h2 h3 _
   have : l1 = [] := List.length_eq_zero_iff.1 h1
   subst this
   simp only [MBits] at h3
   subst h3
   rw [List.append_nil] at h2
   subst h2
   rw [loop_done (a := out)]
   ·simp
   ·unfold runs_Two_loop9
    simp
  | succ n ih =>
   intro l0 l1 bs out h1 h2 h3 h4
   cases l1 with
   | nil => simp at h1
   | cons m l1 =>
    obtain ⟨x, y, g1, g2, g3, g4, rfl⟩ := h3
    rw [List.length_cons] at h4
    have hi : l[l0.length]? = some m := by rw [← h2]; simp
    have hlen : l.length = l0.length + (l1.length + 1) := by rw [← h2]; simp
    rw [loop_step (s' := (((l0 ++ [m]).length : Int), out ++ x))]
    ·have := ih (l0 ++ [m]) l1 y (out ++ x) (by simpa using h1) (by rw [← h2]; simp) g4 (by rw [List.length_append]; omega)
     rw [this, List.append_assoc]
    ·unfold runs_Two_loop9
     simp only [iteD]
     rw [if_pos (by omega), if_pos (by omega), Int.toNat_natCast, hi, Option.bind_some, g1, Option.bind_some, if_pos (by omega), w64 (n := (l0.length : Int) + 1) (by omega)]
     simp
 have := key l.length [] l bs out rfl rfl hM (by omega)
 simpa using this
/-- the bits of rows, each below the one before -/
inductive Rs : List Int → List (List Int) → List Int → Prop
 | nil {q : List Int} : Rs q [] []
 | cons {q p : List Int} {l : List (List Int)} {a b : List Int} : Ms q p (-1) 0 a → Rs p l b → Rs q (p :: l) (a ++ b)
theorem twoRows_bits {w : Nat} (hw : w ≤ 200) {rows : List (List Int)} (hr : ∀ p ∈ rows, p.length = w) (hn : rows.length ≤ 200) {q0 : List Int} (hq0 : q0.length = w) :
  ∃ bs, loop (runs_Two_loop6 rows) (q0, 0, []) = some bs ∧ Rs q0 rows bs ∧ allBit bs = true ∧ bs.length ≤ 26130 * rows.length ∧ bs.length ≤ 130 * (w + 1) * rows.length := by
 have key : ∀ (n : Nat) (l0 l1 : List (List Int)) (q out : List Int), l1.length = n → l0 ++ l1 = rows → q.length = w → out.length ≤ 26130 * l0.length →
   ∃ bs, loop (runs_Two_loop6 rows) (q, (l0.length : Int), out) = some (out ++ bs) ∧ Rs q l1 bs ∧ allBit bs = true ∧ bs.length ≤ 26130 * l1.length ∧ bs.length ≤ 130 * (w + 1) * l1.length := by
  intro n
  induction n with
  | zero =>
   intro l0 l1 q out h1 h2 _ _
   have : l1 = [] := List.length_eq_zero_iff.1 h1
   subst this
   rw [List.append_nil] at h2
   subst h2
   refine ⟨[], ?_, .nil, rfl, by simp, by simp⟩
   rw [loop_done (a := out)]
   ·simp
   ·unfold runs_Two_loop6
    simp
  | succ n ih =>
   intro l0 l1 q out h1 h2 h3 h4
   cases l1 with
   | nil => simp at h1
   | cons p l1 =>
    have hi : rows[l0.length]? = some p := by rw [← h2]; simp
    have hlen : rows.length = l0.length + (l1.length + 1) := by rw [← h2]; simp
    have hp : p.length = w := hr p (List.mem_of_getElem? hi)
    obtain ⟨l, bs, m1, m2, m3, m4⟩ := modes_bits (q := q) (p := p) (by omega) (by omega)
    obtain ⟨b1, b2⟩ := m3.all
    have hstep : runs_Two_loop6 rows (q, (l0.length : Int), out) = some (.inl (p, ((l0 ++ [p]).length : Int), out ++ bs)) := by
     unfold runs_Two_loop6
     simp only [iteD]
     rw [if_pos (by omega), if_pos (by omega), Int.toNat_natCast, hi, Option.bind_some, m1, Option.bind_some, twoRow_bits m3 (by omega) (by omega), Option.bind_some, w64 (n := (l0.length : Int) + 1) (by omega)]
     simp
    obtain ⟨r, r1, r2, r3, r4, r5⟩ := ih (l0 ++ [p]) l1 p (out ++ bs) (by simpa using h1) (by rw [← h2]; simp) hp (by rw [List.length_append, List.length_append, List.length_singleton]; omega)
    refine ⟨bs ++ r, ?_, .cons m4 r2, allBit_app b1 r3, by rw [List.length_append, List.length_cons]; omega, by rw [List.length_append, List.length_cons, Nat.mul_add, Nat.mul_one]; omega⟩
    rw [loop_step hstep, r1, List.append_assoc]
 obtain ⟨bs, h1, h2, h3, h4, h5⟩ := key rows.length [] rows q0 [] rfl rfl hq0 (by simp)
 exact ⟨bs, by simpa using h1, h2, h3, h4, h5⟩
def valN (bs : List Int) (v : Nat) : Nat := bs.foldl (fun v b => 2 * v + b.toNat) v
theorem valN_digs (d : Nat) : ∀ (k v : Nat), valN (digs d k) v = v * 2 ^ k + d % 2 ^ k
 | 0, v => by simp [valN, digs, Nat.mod_one]
 | k + 1, v => by
  have : valN (digs d (k + 1)) v = valN (digs d k) (2 * v + d / 2 ^ k % 2) := by
   show List.foldl (fun v b => 2 * v + b.toNat) (2 * v + ((d / 2 ^ k % 2 : Nat) : Int).toNat) (digs d k) = _
   rw [Int.toNat_natCast]
   rfl
  rw [this, valN_digs d k, Nat.mod_pow_succ, Nat.pow_succ, Nat.add_mul, Nat.mul_comm (d / 2 ^ k % 2), Nat.mul_assoc, Nat.mul_left_comm, Nat.mul_comm (2 ^ k) 2]
  omega
/-- bits that are read -/
theorem bits_read {B : List Int} {at_ : Nat} {bs : List Int} (h : Holds B at_ bs) (hb : allBit bs = true) (hn : bs.length ≤ 32) (hB : B.length ≤ 100000000) : bits_Reader_Bits ((bs.length : Nat) : Int) B (at_ : Int) = some (((valN bs 0 : Nat) : Int), 0, B, ((at_ + bs.length : Nat) : Int)) := by
 have hbit := allBit_mem hb
 have key : ∀ (l2 l1 : List Int) (v : Nat), l1 ++ l2 = bs → v < 2 ^ l1.length → loop (bits_Reader_Bits_loop9 ((bs.length : Nat) : Int)) ((v : Int), ((l1.length : Nat) : Int), B, ((at_ + l1.length : Nat) : Int)) = some (((valN l2 v : Nat) : Int), B, ((at_ + bs.length : Nat) : Int)) := by
  intro l2
  induction l2 with
  | nil =>
   intro l1 v e hv
   rw [List.append_nil] at e
   subst e
   refine loop_done ?_
   unfold bits_Reader_Bits_loop9
   simp [valN]
  | cons x l2 ih =>
   intro l1 v e hv
   have hlen : bs.length = l1.length + (l2.length + 1) := by rw [← e]; simp
   have hx : bs[l1.length]? = some x := by rw [← e]; simp
   have hxb := hbit x (List.mem_of_getElem? hx)
   have hbo := h.2 _ _ hx
   have h1 := h.1
   have hp : 2 ^ l1.length ≤ 2 ^ 31 := Nat.pow_le_pow_right (by decide) (by omega)
   have hp2 : (2 : Nat) ^ 31 = 2147483648 := by decide
   have hv2 : 2 * v + x.toNat < 2 ^ (l1 ++ [x]).length := by
    rw [List.length_append, List.length_singleton, Nat.pow_succ]; omega
   have hs : bits_Reader_Bits_loop9 ((bs.length : Nat) : Int) ((v : Int), ((l1.length : Nat) : Int), B, ((at_ + l1.length : Nat) : Int)) = some (.inl (((2 * v + x.toNat : Nat) : Int), (((l1 ++ [x]).length : Nat) : Int), B, ((at_ + (l1 ++ [x]).length : Nat) : Int))) := by
    unfold bits_Reader_Bits_loop9
    simp only [iteD]
    have e1 : IntKind.i64.wrap (((at_ + l1.length : Nat) : Int).tdiv 8) = (((at_ + l1.length) / 8 : Nat) : Int) := by rw [tdiv_pos (by omega), w64 (by omega)]; omega
    have e2 : IntKind.i64.wrap (7 - ((at_ + l1.length : Nat) : Int).tmod 8) = ((7 - (at_ + l1.length) % 8 : Nat) : Int) := by rw [tmod_pos (by omega), w64 (by omega)]; omega
    have e3 : iand .u8 (ishr .u8 (rd B (((at_ + l1.length) / 8 : Nat) : Int)) ((7 - (at_ + l1.length) % 8 : Nat) : Int)) 1 = x := hbo
    rw [if_pos (by omega), e1, e2, e3, if_pos (by omega), if_neg (by omega)]
    have e4 : IntKind.i64.wrap (2 * (v : Int)) = 2 * (v : Int) := w64 (by omega)
    have e5 : IntKind.i64.wrap x = x := w64 (by omega)
    have e6 : IntKind.i64.wrap (2 * (v : Int) + x) = ((2 * v + x.toNat : Nat) : Int) := by rw [w64 (by omega)]; omega
    rw [e4, e5, e6, w64 (n := ((at_ + l1.length : Nat) : Int) + 1) (by omega), w64 (n := ((l1.length : Nat) : Int) + 1) (by omega)]
    simp only [List.length_append, List.length_singleton, Nat.add_assoc]
    rfl
   rw [loop_step hs, ih (l1 ++ [x]) _ (by rw [← e]; simp) hv2]
   rfl
 have h1 := h.1
 have hk := key bs [] 0 rfl (by decide)
 simp only [List.length_nil, Nat.add_zero] at hk
 rw [bits_Reader_Bits_eq, bits_Reader_none_eq]
 simp only [Option.bind_some, Bool.false_eq_true, if_false, iteD, bits_Reader_Left_eq, bits_Reader_none_eq]
 rw [if_neg (by omega)]
 simp only [Option.bind_some, iteD]
 rw [w64 (n := 8 * ((B.length : Nat) : Int)) (by omega), w64 (n := 8 * ((B.length : Nat) : Int) - (at_ : Int)) (by omega)]
 have g : ¬ ((bs.length : Nat) : Int) > 32 := by omega
 have g2 : ¬ ((bs.length : Nat) : Int) > 8 * ((B.length : Nat) : Int) - (at_ : Int) := by omega
 simp only [g, g2, decide_false, Bool.false_eq_true, if_false, Option.bind_some, Sum.elim_inl]
 have hk' : loop (bits_Reader_Bits_loop9 ((bs.length : Nat) : Int)) (0, 0, B, (at_ : Int)) = some (((valN bs 0 : Nat) : Int), B, ((at_ + bs.length : Nat) : Int)) := hk
 rw [hk']
 rfl
/-! ### Words -/
def strs (C : List (List Int)) : List (List Int) := C.map fun c => c.map fun x => 48 + x
def str (c : List Int) : List Int := c.map fun x => 48 + x
def wordsC : List (List Int) := [[0, 0, 0, 1], [0, 0, 1], [0, 0, 0, 0, 0, 1, 0], [0, 0, 0, 0, 1, 0], [0, 1, 0], [1], [0, 1, 1], [0, 0, 0, 0, 1, 1], [0, 0, 0, 0, 0, 1, 1]]
noncomputable def onWay (C : List (List Int)) (c : List Int) (k : Nat) : Bool := match slices_Index_string_string_F 100 (strs C) (str (c.take k)), slices_ContainsFunc_string_string_F 100 (strs C) (str (c.take k)) with
 | some n, some (b, s) => (decide (n < 0) || Nat.beq k 0) && (b && decide (s = str (c.take k)))
 | _, _ => false
noncomputable def atEnd (C : List (List Int)) (i : Nat) (c : List Int) : Bool := match slices_Index_string_string_F 100 (strs C) (str c) with
 | some n => decide (n = (i : Int)) && (Nat.ble 1 c.length && (Nat.ble c.length 20 && allBit c))
 | none => false
noncomputable def wordOk (C : List (List Int)) : Bool := (List.range C.length).all fun i => match C[i]? with
 | some c => (List.range c.length).all (onWay C c) && atEnd C i c
 | none => false
theorem wordOk_W : wordOk wordsC = true := by kernel_rfl
theorem wordOk_S : wordOk codS = true := by kernel_rfl
theorem wordOk_0 : wordOk (codR 0) = true := by kernel_rfl
theorem wordOk_1 : wordOk (codR 1) = true := by kernel_rfl
theorem wordOk_spec {C : List (List Int)} (h : wordOk C = true) {i : Nat} {c : List Int} (hc : C[i]? = some c) :
  (∀ k, k < c.length → ∃ n, slices_Index_string_string (strs C) (str (c.take k)) = some n ∧ (n < 0 ∨ k = 0) ∧ slices_ContainsFunc_string_string (strs C) (str (c.take k)) = some (true, str (c.take k))) ∧
  slices_Index_string_string (strs C) (str c) = some (i : Int) ∧ 1 ≤ c.length ∧ c.length ≤ 20 ∧ allBit c = true := by
 have := List.all_eq_true.1 h i (List.mem_range.2 (lt_len_of_get hc))
 rw [hc] at this
 simp only [Bool.and_eq_true] at this
 obtain ⟨h1, h2⟩ := this
 refine ⟨fun k hk => ?_, ?_⟩
 ·have := List.all_eq_true.1 h1 k (List.mem_range.2 hk)
  unfold onWay at this
  split at this
  ·rename_i n b s e1 e2
   simp only [Bool.and_eq_true, Bool.or_eq_true, decide_eq_true_eq] at this
   obtain ⟨g1, g2, g3⟩ := this
   subst g2 g3
   exact ⟨n, slices_Index_string_string_F_le _ _ _ _ e1, g1.imp id fun q => Nat.eq_of_beq_eq_true q, slices_ContainsFunc_string_string_F_le _ _ _ _ e2⟩
  ·cases this
 ·unfold atEnd at h2
  split at h2
  ·rename_i n e1
   simp only [Bool.and_eq_true, decide_eq_true_eq] at h2
   obtain ⟨g1, g2, g3, g4⟩ := h2
   subst g1
   exact ⟨slices_Index_string_string_F_le _ _ _ _ e1, Nat.le_of_ble_eq_true g2, Nat.le_of_ble_eq_true g3, g4⟩
  ·cases h2
theorem str_ne {c : List Int} (h : c ≠ []) : str c ≠ [] := by
 cases c with
 | nil => exact absurd rfl h
 | cons x l => simp [str]
theorem word_is {C : List (List Int)} (hC : wordOk C = true) {i : Nat} {c : List Int} (hc : C[i]? = some c) {B : List Int} {at_ : Nat} (h : Holds B at_ c) (hB : B.length ≤ 100000000)
  (x1 : List Line) (x2 : List (List Int)) (x3 : List Line) (x4 : List (List Int)) (x5 : List Line) (x6 x7 : List (List Int)) :
  runs_reader_word (strs C) x1 x2 x3 x4 x5 x6 x7 B (at_ : Int) = some ((i : Int), 0, x1, x2, x3, x4, x5, x6, x7, B, ((at_ + c.length : Nat) : Int)) := by
 obtain ⟨w1, w2, w3, w4, w5⟩ := wordOk_spec hC hc
 have hbit := allBit_mem w5
 have key : ∀ m k : Nat, k + m = c.length → loop (runs_reader_word_loop2 (strs C)) (B, ((at_ + k : Nat) : Int), str (c.take k)) = some ((i : Int), 0, B, ((at_ + c.length : Nat) : Int), str c) := by
  intro m
  induction m with
  | zero =>
   intro k hk
   have e : c.take k = c := List.take_of_length_le (by omega)
   rw [e, show k = c.length by omega]
   refine loop_done ?_
   unfold runs_reader_word_loop2
   simp only [w2, Option.bind_some]
   have : str c ≠ [] := str_ne (by rintro rfl; simp at w3)
   have g : (i : Int) ≥ 0 := by omega
   simp [g, this]
  | succ m ih =>
   intro k hk
   obtain ⟨n, f1, f2, f3⟩ := w1 k (by omega)
   have hx : c[k]? = some c[k] := List.getElem?_eq_getElem (by omega)
   have hxb := hbit _ (List.getElem_mem (l := c) (n := k) (by omega))
   have hh : Holds B (at_ + k) [c[k]] := by
    refine ⟨by have := h.1; simp; omega, fun j y hj => ?_⟩
    cases j with
    | zero => simp at hj; subst hj; exact h.2 k _ hx
    | succ j => simp at hj
   have hr := bits_read hh (by rcases hxb with e | e <;> rw [e] <;> rfl) (by simp) hB
   have hv : (valN [c[k]] 0 : Nat) = c[k].toNat := by simp [valN]
   simp only [List.length_singleton, hv] at hr
   have hs : runs_reader_word_loop2 (strs C) (B, ((at_ + k : Nat) : Int), str (c.take k)) = some (.inl (B, ((at_ + (k + 1) : Nat) : Int), str (c.take (k + 1)))) := by
    unfold runs_reader_word_loop2
    simp only [f1, Option.bind_some]
    have hcnd : ((if decide (n ≥ 0) = true then some (!decide (str (c.take k) = [])) else some false) : Option Bool) = some false := by
     rcases f2 with f2 | rfl
     ·rw [if_neg (by simp; omega)]
     ·simp [str]
    rw [hcnd]
    simp only [Option.bind_some, Bool.false_eq_true, if_false, f3, Bool.not_true]
    have hr' : bits_Reader_Bits 1 B ((at_ + k : Nat) : Int) = some (((c[k].toNat : Nat) : Int), 0, B, ((at_ + k + 1 : Nat) : Int)) := hr
    rw [hr']
    simp only [Option.bind_some, decide_true, Bool.not_true, Bool.false_eq_true, if_false]
    have e1 : IntKind.i32.wrap ((c[k].toNat : Nat) : Int) = c[k] := by rw [IntKind.wrap_i32]; omega
    have e2 : IntKind.i32.wrap (48 + c[k]) = 48 + c[k] := by rw [IntKind.wrap_i32]; omega
    rw [e1, e2, if_pos (by omega)]
    have hl : (str (c.take k)).length ≤ 20 := by unfold str; rw [List.length_map, List.length_take]; omega
    rw [if_pos (by simp only [List.length_singleton]; omega)]
    have e3 : str (c.take (k + 1)) = str (c.take k) ++ [48 + c[k]] := by
     unfold str
     rw [List.take_add_one, hx, List.map_append]
     rfl
    rw [e3, show at_ + (k + 1) = at_ + k + 1 by omega]
   rw [loop_step hs, ih (k + 1) (by omega)]
 have hk := key c.length 0 (by omega)
 have hk' : loop (runs_reader_word_loop2 (strs C)) (B, (at_ : Int), []) = some ((i : Int), 0, B, ((at_ + c.length : Nat) : Int), str c) := hk
 rw [runs_reader_word_eq, hk']
 rfl
/-! ### Numbers and runs -/
theorem digs_bit (x : Nat) : ∀ n, allBit (digs x n) = true
 | 0 => rfl
 | n + 1 => by
  have := digs_bit x n
  unfold allBit at this ⊢
  rw [digs, List.all_cons, this, Bool.and_true]
  have : x / 2 ^ n % 2 < 2 := Nat.mod_lt _ (by decide)
  have h : x / 2 ^ n % 2 = 0 ∨ x / 2 ^ n % 2 = 1 := by omega
  rcases h with h | h <;> rw [h] <;> rfl
theorem number_is {T : List Line} {C : List (List Int)} (hC : wordOk C = true) {n : Int} {l : List Int} (hn : NumB T C n l) (hs : 0 ≤ n ∧ n ≤ 1000) {B : List Int} {at_ : Nat} (h : Holds B at_ l) (hB : B.length ≤ 100000000)
  (x1 : List Line) (x2 : List (List Int)) (x3 : List Line) (x4 : List (List Int)) (x5 : List Line) (x6 x7 : List (List Int)) :
  runs_reader_number T (strs C) x1 x2 x3 x4 x5 x6 x7 B (at_ : Int) = some (n, 0, x1, x2, x3, x4, x5, x6, x7, B, ((at_ + l.length : Nat) : Int)) := by
 obtain ⟨i, L, c, d, k, g1, g2, g3, g4, g5, g6, rfl⟩ := hn.ok
 obtain ⟨h1, h2⟩ := h.app
 have hd := bits_read h2 (digs_bit d k) (by rw [digs_len]; omega) hB
 rw [digs_len, valN_digs, Nat.zero_mul, Nat.zero_add, Nat.mod_eq_of_lt g6] at hd
 rw [runs_reader_number_eq, word_is hC g2 h1 hB]
 simp only [Option.bind_some, decide_true, Bool.not_true, Bool.false_eq_true, if_false]
 rw [if_pos (by omega), Int.toNat_natCast, g1]
 simp only [Option.bind_some]
 rw [g3, hd]
 simp only [Option.bind_some]
 rw [if_pos (by omega), w64 (n := (d : Int) + L.low) (by omega), show (d : Int) + L.low = n by omega, List.length_append, digs_len, Nat.add_assoc]
abbrev RD (α : Type) := List Line → List (List Int) → List Line → List (List Int) → List Line → List (List Int) → List (List Int) → α
/-- the tables of a reader -/
def withT {α : Type} (f : RD α) : α := f tabS (strs codS) (tabR 0) (strs (codR 0)) (tabR 1) (strs (codR 1)) (strs wordsC)
theorem run_is {n c : Int} {l : List Int} (hr : RunB n c l) (hn : 0 ≤ n ∧ n ≤ 200) (hc : c = 0 ∨ c = 1) {B : List Int} {at_ : Nat} (h : Holds B at_ l) (hB : B.length ≤ 100000000) :
  runs_reader_run c tabS (strs codS) (tabR 0) (strs (codR 0)) (tabR 1) (strs (codR 1)) (strs wordsC) B (at_ : Int) = some (n, 0, tabS, strs codS, tabR 0, strs (codR 0), tabR 1, strs (codR 1), strs wordsC, B, ((at_ + l.length : Nat) : Int)) := by
 obtain ⟨x, y, h1, h2, rfl⟩ := hr.ok
 obtain ⟨g1, g2⟩ := h.app
 rw [runs_reader_run_eq, number_is wordOk_S h1 (by omega) g1 hB]
 simp only [Option.bind_some, decide_true, Bool.not_true, Bool.false_eq_true, if_false]
 have hm : ¬ n % 64 ≥ 64 := by omega
 rcases hc with rfl | rfl
 ·rw [if_pos (by decide), if_neg (by decide), if_pos (by decide), number_is wordOk_0 h2 (by omega) g2 hB]
  simp only [Option.bind_some, decide_true, Bool.not_true, Bool.false_eq_true, if_false, hm, decide_false]
  rw [w64 (n := n / 64 * 64) (by omega), w64 (n := n / 64 * 64 + n % 64) (by omega), show n / 64 * 64 + n % 64 = n by omega, List.length_append, Nat.add_assoc]
 ·rw [if_pos (by decide), if_pos (by decide), number_is wordOk_1 h2 (by omega) g2 hB]
  simp only [Option.bind_some, decide_true, Bool.not_true, Bool.false_eq_true, if_false, hm, decide_false]
  rw [w64 (n := n / 64 * 64) (by omega), w64 (n := n / 64 * 64 + n % 64) (by omega), show n / 64 * 64 + n % 64 = n by omega, List.length_append, Nat.add_assoc]
/-! ### Pixels of a colour -/
noncomputable def repB (c : Int) (n : Nat) : Bool := match slices_Repeat_byte_byte_F 20 [c] (n : Int) with
 | some l => decide (l = List.replicate n c)
 | none => false
theorem rep0 : (List.range 201).all (repB 0) = true := by kernel_rfl
theorem rep1 : (List.range 201).all (repB 1) = true := by kernel_rfl
theorem repeat_is {c : Int} (hc : c = 0 ∨ c = 1) {n : Int} (hn : 0 ≤ n ∧ n ≤ 200) : slices_Repeat_byte_byte [c] n = some (List.replicate n.toNat c) := by
 have : repB c n.toNat = true := by
  rcases hc with rfl | rfl
  ·exact List.all_eq_true.1 rep0 _ (List.mem_range.2 (by omega))
  ·exact List.all_eq_true.1 rep1 _ (List.mem_range.2 (by omega))
 unfold repB at this
 split at this
 ·rename_i l e
  have := of_decide_eq_true this
  subst this
  have := slices_Repeat_byte_byte_F_le _ _ _ _ e
  rwa [show ((n.toNat : Nat) : Int) = n by omega] at this
 ·cases this
theorem fill_is {x c w a col : Int} {q out : List Int} (hc : c = 0 ∨ c = 1) (hx : (out.length : Int) ≤ x ∧ x ≤ 200) : runs_state_fill x c w a col q out = some (w, x, col, q, out ++ List.replicate (x - (out.length : Int)).toNat c) := by
 rw [runs_state_fill_eq]
 try simp only
 have e : IntKind.u8.wrap c = c := by rw [w8]; omega
 rw [e, w64 (n := x - ((out.length : Nat) : Int)) (by omega), repeat_is hc (by omega), Option.bind_some, if_pos (by rw [List.length_replicate]; omega)]
/-- up to the next change a row goes on in its colour -/
theorem take_fill {p : List Int} (hp : ∀ x ∈ p, x = 0 ∨ x = 1) {a b c : Int} (h0 : -1 ≤ a) (hb : a < b ∧ b ≤ (p.length : Int)) (hc : c = 0 ∨ c = 1)
  (hcol : 0 ≤ a → rd p a = c) (hno : ∀ j, a < j → j < b → rd p j ≠ 1 - c) :
  p.take b.toNat = p.take (max a 0).toNat ++ List.replicate (b - ((p.take (max a 0).toNat).length : Int)).toNat c := by
 have hl : (p.take (max a 0).toNat).length = (max a 0).toNat := by rw [List.length_take]; omega
 rw [hl]
 apply List.ext_getElem?
 intro i
 by_cases hi : i < (max a 0).toNat
 ·rw [List.getElem?_append_left (by rw [hl]; exact hi), List.getElem?_take, List.getElem?_take, if_pos (by omega), if_pos hi]
 ·rw [List.getElem?_append_right (by rw [hl]; omega), hl, List.getElem?_replicate, List.getElem?_take]
  by_cases hi2 : i < b.toNat
  ·rw [if_pos hi2, if_pos (by omega)]
   have hr := rd_get (xs := p) (i := (i : Int)) (by omega) (by omega)
   rw [Int.toNat_natCast] at hr
   rw [hr]
   congr 1
   by_cases he : (i : Int) = a
   ·rw [he]; exact hcol (by omega)
   ·have h1 := hno (i : Int) (by omega) (by omega)
    have h2 := hp _ (rd_mem (l := p) (i := (i : Int)) (by omega) (by omega))
    omega
  ·rw [if_neg hi2, if_neg (by omega)]
theorem row_read {q p : List Int} (hl : p.length ≤ 200) (hlq : q.length = p.length) (hp : ∀ x ∈ p, x = 0 ∨ x = 1) {a c : Int} {bs : List Int} (hM : Ms q p a c bs) :
  -1 ≤ a → a ≤ (p.length : Int) → (c = 0 ∨ c = 1) → (0 ≤ a → a < (p.length : Int) → rd p a = c) → ∀ {B : List Int} {at_ : Nat}, Holds B at_ bs → B.length ≤ 100000000 →
  ∃ a' c', loop (runs_reader_two_loop2 (p.length : Int)) (tabS, strs codS, tabR 0, strs (codR 0), tabR 1, strs (codR 1), strs wordsC, B, (at_ : Int), (p.length : Int), a, c, q, p.take (max a 0).toNat) =
   some (Sum.inl (tabS, strs codS, tabR 0, strs (codR 0), tabR 1, strs (codR 1), strs wordsC, B, ((at_ + bs.length : Nat) : Int), (p.length : Int), a', c', q, p)) := by
 have ev1 : ∀ a : Int, ((if decide (a < (p.length : Int)) = true then some (decide ((p.length : Int) > 0)) else some false) : Option Bool) = some (decide (a < (p.length : Int) ∧ 0 < (p.length : Int))) := by
  intro a
  simp only [iteD]
  split
  ·refine some_dec ?_; simp only [decide_eq_true_eq]; omega
  ·refine some_dec ?_; simp only [Bool.false_eq_true, false_iff]; omega
 have lt : ∀ {a : Int}, -1 ≤ a → a ≤ (p.length : Int) → ((p.take (max a 0).toNat).length : Int) = max a 0 := fun h1 h2 => by rw [List.length_take]; omega
 induction hM with
 | @done a c h =>
  intro h0 h1 hc hcol B at_ hB hBl
  refine ⟨a, c, loop_done ?_⟩
  unfold runs_reader_two_loop2
  simp only [ev1, Option.bind_some]
  rw [if_neg (by simpa using h)]
  have : p.take (max a 0).toNat = p := List.take_of_length_le (by omega)
  rw [this]
  rfl
 | @pass a c b1 b2 a1 bs g1 g2 g3 g4 g5 g6 g7 g8 g9 ih =>
  intro h0 h1 hc hcol B at_ hB hBl
  obtain ⟨hw, hr⟩ := hB.app
  have gl := g7.le
  have gu := g5.up
  have gle := g5.le
  have hb : a < b2 ∧ b2 < (p.length : Int) := by omega
  have hw8 : IntKind.u8.wrap c = c := by rw [w8]; omega
  have hcol2 : rd p b2 = c := by
   have h1 := g7.not b2 hb.1 g8
   have h2 := hp _ (rd_mem (l := p) (i := b2) (by omega) hb.2)
   omega
  obtain ⟨a', c', e⟩ := ih (by omega) (by omega) hc (fun _ _ => hcol2) (show Holds B (at_ + 4) bs from hr) hBl
  have hf := fill_is (x := b2) (c := c) (w := (p.length : Int)) (a := a) (col := c) (q := q) (out := p.take (max a 0).toNat) hc (by rw [lt h0 h1]; omega)
  have ht := take_fill hp h0 (b := b2) (by omega) hc (fun h => hcol h g1) (fun j j1 j2 => g7.not j j1 (by omega))
  have hst : runs_reader_two_loop2 (p.length : Int) (tabS, strs codS, tabR 0, strs (codR 0), tabR 1, strs (codR 1), strs wordsC, B, (at_ : Int), (p.length : Int), a, c, q, p.take (max a 0).toNat) =
    some (.inl (tabS, strs codS, tabR 0, strs (codR 0), tabR 1, strs (codR 1), strs wordsC, B, ((at_ + 4 : Nat) : Int), (p.length : Int), b2, c, q, p.take (max b2 0).toNat)) := by
   unfold runs_reader_two_loop2
   simp only [ev1, Option.bind_some]
   rw [if_pos (by simpa using And.intro g1 g2), runs_reader_mode_eq, word_is wordOk_W (i := 0) (c := [0, 0, 0, 1]) rfl hw hBl]
   simp only [Option.bind_some, decide_true, Bool.not_true, Bool.false_eq_true, if_false, hw8, g4, iteD]
   rw [if_neg (by decide), if_pos (by decide)]
   have hne : ¬ b2 = (p.length : Int) := by omega
   simp only [hne, decide_false, Option.bind_some, Bool.false_eq_true, if_false]
   rw [if_pos (by decide), hf]
   simp only [Option.bind_some, Sum.elim_inr, decide_true, Bool.not_true, Bool.false_eq_true, if_false]
   rw [← ht, show max b2 0 = b2 by omega]
   rfl
  refine ⟨a', c', ?_⟩
  have hL : at_ + ([0, 0, 0, 1] ++ bs : List Int).length = at_ + 4 + bs.length := by simp; omega
  rw [loop_step hst, e, hL]
 | @up a c b1 b2 a1 bs u g1 g2 g3 g4 g7 g8 g9 g10 g11 ih =>
  intro h0 h1 hc hcol B at_ hB hBl
  obtain ⟨hw, hr⟩ := hB.app
  have gl := g7.le
  have gu := g7.up
  have hb : a < a1 := by omega
  have hw8 : IntKind.u8.wrap c = c := by rw [w8]; omega
  have hc' : 1 - c = 0 ∨ 1 - c = 1 := by omega
  obtain ⟨a', c', e⟩ := ih (by omega) (by omega) hc' (fun _ h => g7.at_ h) hr hBl
  have hf := fill_is (x := a1) (c := c) (w := (p.length : Int)) (a := a) (col := c) (q := q) (out := p.take (max a 0).toNat) hc (by rw [lt h0 h1]; omega)
  have ht := take_fill hp h0 (b := a1) (by omega) hc (fun h => hcol h g1) (fun j j1 j2 => g7.not j j1 j2)
  have hi : wordsC[(a1 - b1 + 5).toNat]? = some u := by
   have : (a1 - b1 + 5).toNat = (a1 - b1 + 3).toNat + 2 := by omega
   rw [this]; exact g10
  have hst : runs_reader_two_loop2 (p.length : Int) (tabS, strs codS, tabR 0, strs (codR 0), tabR 1, strs (codR 1), strs wordsC, B, (at_ : Int), (p.length : Int), a, c, q, p.take (max a 0).toNat) =
    some (.inl (tabS, strs codS, tabR 0, strs (codR 0), tabR 1, strs (codR 1), strs wordsC, B, ((at_ + u.length : Nat) : Int), (p.length : Int), a1, 1 - c, q, p.take (max a1 0).toNat)) := by
   unfold runs_reader_two_loop2
   simp only [ev1, Option.bind_some]
   rw [if_pos (by simpa using And.intro g1 g2), runs_reader_mode_eq, word_is wordOk_W hi hw hBl]
   have n1 : ¬ (((a1 - b1 + 5).toNat : Nat) : Int) = 1 := by omega
   have n0 : ¬ (((a1 - b1 + 5).toNat : Nat) : Int) = 0 := by omega
   simp only [Option.bind_some, decide_true, Bool.not_true, Bool.false_eq_true, if_false, hw8, g4, iteD, n1, n0, Sum.elim_inl]
   have hlen2 := hlq
   have hb1 : -10 ≤ b1 ∧ b1 ≤ 300 := by omega
   rw [w64 (n := b1 + (((a1 - b1 + 5).toNat : Nat) : Int)) (by omega), show b1 + (((a1 - b1 + 5).toNat : Nat) : Int) = a1 + 5 by omega, w64 (n := a1 + 5 - 5) (by omega), show a1 + 5 - 5 = a1 by omega]
   have n2 : ¬ a1 ≤ a := by omega
   have n3 : ¬ a1 > (p.length : Int) := by omega
   simp only [n2, n3, decide_false, Bool.false_eq_true, if_false, Option.bind_some, hf, decide_true, Bool.not_true]
   rw [w64 (n := 1 - c) (by omega), ← ht, show max a1 0 = a1 by omega]
  refine ⟨a', c', ?_⟩
  rw [loop_step hst, e, List.length_append, Nat.add_assoc]
 | @flat a c b1 b2 a1 a2 bs x y g1 g2 g3 g4 g7 g8 g9 g10 g11 ih =>
  intro h0 h1 hc hcol B at_ hB hBl
  obtain ⟨hw3, hr⟩ := hB.app
  obtain ⟨hw2, hy⟩ := hw3.app
  obtain ⟨hw, hx⟩ := hw2.app
  have gl := g7.le
  have gu := g7.up
  have kl := g8.le
  have ku := g8.up
  have hb : a < a1 := by omega
  have hw8 : IntKind.u8.wrap c = c := by rw [w8]; omega
  have hc' : 1 - c = 0 ∨ 1 - c = 1 := by omega
  have hr' : Holds B (at_ + 3 + x.length + y.length) bs := by
   have : at_ + ([0, 0, 1] ++ x ++ y : List Int).length = at_ + 3 + x.length + y.length := by simp; omega
   rwa [this] at hr
  obtain ⟨a', c', e⟩ := ih (by omega) (by omega) hc (fun _ h => g8.at_ h) hr' hBl
  have hf := fill_is (x := a1) (c := c) (w := (p.length : Int)) (a := a) (col := c) (q := q) (out := p.take (max a 0).toNat) hc (by rw [lt h0 h1]; omega)
  have ht := take_fill hp h0 (b := a1) (by omega) hc (fun h => hcol h g1) (fun j j1 j2 => g7.not j j1 j2)
  have hlt1 : ((p.take a1.toNat).length : Int) = a1 := by rw [List.length_take]; omega
  have hf2 := fill_is (x := a2) (c := 1 - c) (w := (p.length : Int)) (a := a1) (col := c) (q := q) (out := p.take a1.toNat) hc' (by rw [hlt1]; omega)
  have ht2 : p.take a2.toNat = p.take a1.toNat ++ List.replicate (a2 - ((p.take a1.toNat).length : Int)).toNat (1 - c) := by
   by_cases he : a1 < a2
   ·have := take_fill hp (a := a1) (by omega) (b := a2) ⟨he, kl⟩ hc' (fun _ => g7.at_ (by omega)) (fun j j1 j2 => by rw [show 1 - (1 - c) = c by omega]; exact g8.not j j1 j2)
    rwa [show max a1 0 = a1 by omega] at this
   ·have : a2 = a1 := by omega
    rw [this, hlt1]
    simp
  have hst : runs_reader_two_loop2 (p.length : Int) (tabS, strs codS, tabR 0, strs (codR 0), tabR 1, strs (codR 1), strs wordsC, B, (at_ : Int), (p.length : Int), a, c, q, p.take (max a 0).toNat) =
    some (.inl (tabS, strs codS, tabR 0, strs (codR 0), tabR 1, strs (codR 1), strs wordsC, B, ((at_ + 3 + x.length + y.length : Nat) : Int), (p.length : Int), a2, c, q, p.take (max a2 0).toNat)) := by
   unfold runs_reader_two_loop2
   simp only [ev1, Option.bind_some]
   rw [if_pos (by simpa using And.intro g1 g2), runs_reader_mode_eq, word_is wordOk_W (i := 1) (c := [0, 0, 1]) rfl hw hBl]
   simp only [Option.bind_some, decide_true, Bool.not_true, Bool.false_eq_true, if_false, hw8, g4, iteD]
   rw [if_pos (by decide), runs_reader_flat_eq]
   have hx' : Holds B (at_ + 3) x := hx
   have hr1 := run_is g9 (by omega) hc hx' hBl
   simp only [List.length_cons, List.length_nil, Nat.zero_add, Nat.reduceAdd]
   rw [hr1]
   simp only [Option.bind_some, decide_true, Bool.not_true, Bool.false_eq_true, if_false, iteD]
   have e1 : IntKind.i64.wrap (((p.take (max a 0).toNat).length : Int) + (a1 - max a 0)) = a1 := by rw [lt h0 h1, w64 (by omega)]; omega
   rw [e1]
   have n1 : ¬ a1 > (p.length : Int) := by omega
   have ev2 : ((if a1 - max a 0 = 0 then (if a ≥ 0 then some true else some (decide (a1 > (p.length : Int)))) else some (decide (a1 > (p.length : Int)))) : Option Bool) = some false := by
    split
    ·rw [if_neg (by omega)]; simp [n1]
    ·simp [n1]
   rw [ev2]
   simp only [Option.bind_some, Bool.false_eq_true, if_false]
   rw [w64 (n := 1 - c) (by omega)]
   have hy' : Holds B (at_ + 3 + x.length) y := by
    have : at_ + ([0, 0, 1] ++ x : List Int).length = at_ + 3 + x.length := by simp; omega
    rw [← this]; exact hy
   rw [run_is g10 (by omega) hc' hy' hBl]
   simp only [Option.bind_some, decide_true, Bool.not_true, Bool.false_eq_true, if_false]
   rw [w64 (n := (p.length : Int) - a1) (by omega)]
   have n2 : ¬ a2 - a1 > (p.length : Int) - a1 := by omega
   have n3 : decide (a2 - a1 = 0) = decide (a1 = (p.length : Int)) := by
    by_cases he : a1 = (p.length : Int)
    ·have : a2 - a1 = 0 := by omega
     rw [decide_eq_true this, decide_eq_true he]
    ·have : ¬ a2 - a1 = 0 := by omega
     rw [decide_eq_false this, decide_eq_false he]
   rw [if_neg n2, n3]
   simp only [decide_true, Bool.not_true, Option.bind_some, Bool.false_eq_true, if_false, hf]
   rw [w64 (n := a1 + (a2 - a1)) (by omega), show a1 + (a2 - a1) = a2 by omega, w64 (n := 1 - c) (by omega), ← ht, hf2]
   simp only [Option.bind_some, Sum.elim_inr, decide_true, Bool.not_true, Bool.false_eq_true, if_false]
   rw [← ht2, show max a2 0 = a2 by omega]
  refine ⟨a', c', ?_⟩
  have hL : at_ + ([0, 0, 1] ++ x ++ y ++ bs : List Int).length = at_ + 3 + x.length + y.length + bs.length := by simp; omega
  rw [loop_step hst, e, hL]
theorem two_read {q p : List Int} (hl : p.length ≤ 200) (hlq : q.length = p.length) (hp : ∀ x ∈ p, x = 0 ∨ x = 1) {bs : List Int} (hM : Ms q p (-1) 0 bs) {B : List Int} {at_ : Nat} (hB : Holds B at_ bs) (hBl : B.length ≤ 100000000) :
  runs_reader_two (p.length : Int) q tabS (strs codS) (tabR 0) (strs (codR 0)) (tabR 1) (strs (codR 1)) (strs wordsC) B (at_ : Int) =
   some (p, 0, tabS, strs codS, tabR 0, strs (codR 0), tabR 1, strs (codR 1), strs wordsC, B, ((at_ + bs.length : Nat) : Int)) := by
 obtain ⟨a', c', e⟩ := row_read hl hlq hp hM (by decide) (by omega) (.inl rfl) (fun h => absurd h (by decide)) hB hBl
 have e' : p.take (max (-1 : Int) 0).toNat = [] := by rw [show (max (-1 : Int) 0).toNat = 0 by omega, List.take_zero]
 rw [e'] at e
 rw [runs_reader_two_eq, e]
 rfl
/-- all rows -/
theorem rows_read {w : Nat} (hw : w ≤ 200) {h : Nat} (hh : h ≤ 200) {B : List Int} (hBl : B.length ≤ 100000000) : ∀ {q : List Int} {rows : List (List Int)} {bs : List Int}, Rs q rows bs → q.length = w → (∀ p ∈ rows, p.length = w ∧ ∀ x ∈ p, x = 0 ∨ x = 1) →
  ∀ (n at_ : Nat) (W H : Int) (out : List Int), n + rows.length = h → Holds B at_ bs → out.length ≤ 200 * n →
  ∃ r, loop (runs_read_loop8 (w : Int) (h : Int)) (q, (n : Int), W, H, tabS, strs codS, tabR 0, strs (codR 0), tabR 1, strs (codR 1), strs wordsC, B, (at_ : Int), out) = some (Sum.inl (W, H, tabS, strs codS, tabR 0, strs (codR 0), tabR 1, strs (codR 1), strs wordsC, B, ((at_ + bs.length : Nat) : Int), r)) ∧ r = out ++ rows.flatten := by
 intro q rows bs hR
 induction hR with
 | @nil q =>
  intro hq hr n at_ W H out hn hB ho
  refine ⟨out, loop_done ?_, by simp⟩
  unfold runs_read_loop8
  have : n = h := by simpa using hn
  subst this
  simp
 | @cons q p l a b hM hR ih =>
  intro hq hr n at_ W H out hn hB ho
  obtain ⟨hpl, hpb⟩ := hr p (List.mem_cons_self ..)
  obtain ⟨h1, h2⟩ := hB.app
  rw [List.length_cons] at hn
  have ht := two_read (q := q) (p := p) (by omega) (by omega) hpb hM h1 hBl
  rw [hpl] at ht
  have hst : runs_read_loop8 (w : Int) (h : Int) (q, (n : Int), W, H, tabS, strs codS, tabR 0, strs (codR 0), tabR 1, strs (codR 1), strs wordsC, B, (at_ : Int), out) = some (.inl (p, ((n + 1 : Nat) : Int), W, H, tabS, strs codS, tabR 0, strs (codR 0), tabR 1, strs (codR 1), strs wordsC, B, ((at_ + a.length : Nat) : Int), out ++ p)) := by
   unfold runs_read_loop8
   simp only [iteD]
   rw [if_pos (by omega), ht]
   simp only [Option.bind_some, decide_true, Bool.not_true, Bool.false_eq_true, if_false]
   rw [if_pos (by omega), w64 (n := (n : Int) + 1) (by omega)]
   rfl
  obtain ⟨r, e, hr2⟩ := ih hpl (fun p' hp' => hr p' (List.mem_cons_of_mem _ hp')) (n + 1) (at_ + a.length) W H (out ++ p) (by omega) h2 (by rw [List.length_append]; omega)
  refine ⟨r, ?_, by rw [hr2]; simp⟩
  rw [loop_step hst, e, List.length_append, Nat.add_assoc]
theorem table_S : runs_newTable tabS = some (tabS, strs codS) := runs_newTable_F_le 100 _ _ (by kernel_rfl)
theorem table_0 : runs_newTable (tabR 0) = some (tabR 0, strs (codR 0)) := runs_newTable_F_le 100 _ _ (by kernel_rfl)
theorem table_1 : runs_newTable (tabR 1) = some (tabR 1, strs (codR 1)) := runs_newTable_F_le 100 _ _ (by kernel_rfl)
theorem newReader_is {B : List Int} (hBl : B.length ≤ 100000000) : runs_newReader B = some (tabS, strs codS, tabR 0, strs (codR 0), tabR 1, strs (codR 1), strs wordsC, B, 0) := by
 have e0 : prefix_Standard 0 = some (tabS, 0) := prefix_Standard_F_le 100 _ _ (by kernel_rfl)
 have e1 : runs_remains 0 = some (tabR 0) := runs_remains_F_le 10 _ _ (by kernel_rfl)
 have e2 : runs_remains 1 = some (tabR 1) := runs_remains_F_le 10 _ _ (by kernel_rfl)
 have hu : runs_uprights = some [[48, 48, 48, 48, 48, 49, 48], [48, 48, 48, 48, 49, 48], [48, 49, 48], [49], [48, 49, 49], [48, 48, 48, 48, 49, 49], [48, 48, 48, 48, 48, 49, 49]] := runs_uprights_F_le 10 _ (by kernel_rfl)
 rw [runs_newReader_eq, e0, bits_NewReader_eq]
 simp only [Option.bind_some]
 rw [if_pos (by simp; omega)]
 simp only [Option.bind_some, table_S, e1, table_0, e2, table_1, hu, List.nil_append]
 rw [if_pos (by simp)]
 rfl
/-- the runs of the rest of a row, from a place and a colour on -/
inductive Rq (p : List Int) : Int → Int → List Int → Prop
 | done {c a : Int} : ¬ a < (p.length : Int) → Rq p c a []
 | step {c a b : Int} {ns : List Int} : a < (p.length : Int) → 0 ≤ a → a ≤ b → b ≤ (p.length : Int) → (∀ j, a ≤ j → j < b → rd p j = c) → (b < (p.length : Int) → rd p b ≠ c) → (0 < a → a < b) → Rq p (1 - c) b ns → Rq p c a ((b - a) :: ns)
theorem run_end {p : List Int} (hl : p.length ≤ 200) {c a : Int} (ha : 0 ≤ a ∧ a ≤ (p.length : Int)) : ∃ b, loop (runs_row_loop6 p c) a = some b ∧ a ≤ b ∧ b ≤ (p.length : Int) ∧ (∀ j, a ≤ j → j < b → rd p j = c) ∧ (b < (p.length : Int) → rd p b ≠ c) := by
 refine loop_ind (fun s => a ≤ s ∧ s ≤ (p.length : Int) ∧ ∀ j, a ≤ j → j < s → rd p j = c) (fun s => ((p.length : Int) - s).toNat) _ (fun s hs => ?_) _ ⟨by omega, by omega, fun j h1 h2 => by omega⟩
 obtain ⟨h1, h2, h3⟩ := hs
 unfold runs_row_loop6
 simp only [iteD]
 by_cases hlt : s < (p.length : Int)
 ·rw [if_pos hlt, if_pos (by omega)]
  by_cases hc : rd p s = c
  ·left
   rw [if_pos hc, w64 (n := s + 1) (by omega)]
   refine ⟨_, rfl, ⟨by omega, by omega, fun j g1 g2 => ?_⟩, by omega⟩
   by_cases e : j = s
   ·rw [e]; exact hc
   ·exact h3 j g1 (by omega)
  ·right
   rw [if_neg hc]
   exact ⟨s, rfl, h1, h2, h3, fun _ => hc⟩
 ·right
  rw [if_neg hlt]
  exact ⟨s, rfl, h1, h2, h3, fun h => absurd h hlt⟩
theorem row_runs {p : List Int} (hl : p.length ≤ 200) (hp : ∀ x ∈ p, x = 0 ∨ x = 1) : ∃ q, runs_row p = some q ∧ q.length ≤ p.length + 1 ∧ Rq p 0 0 q := by
 obtain ⟨q, e, h1, h2⟩ : ∃ q, loop (runs_row_loop4 p) (0, 0, []) = some q ∧ q.length ≤ p.length + 1 ∧ Rq p 0 0 q := by
  refine loop_ind (fun s => (s.1 = 0 ∨ s.1 = 1) ∧ 0 ≤ s.2.1 ∧ s.2.1 ≤ (p.length : Int) ∧ (s.2.2.length : Int) ≤ s.2.1 + 1 ∧ (s.2.1 = 0 → s.2.2 ≠ [] → s.2.1 < (p.length : Int) → rd p s.2.1 = s.1) ∧ (0 < s.2.1 → s.2.1 < (p.length : Int) → rd p s.2.1 = s.1) ∧ (s.2.1 = 0 → s.2.2.length ≤ 1) ∧ ∀ ns, Rq p s.1 s.2.1 ns → Rq p 0 0 (s.2.2 ++ ns))
   (fun s => 2 * ((p.length : Int) - s.2.1).toNat + (if s.2.2 = [] then 1 else 0)) _ ?_ _ ⟨.inl rfl, by decide, by show (0 : Int) ≤ _; omega, by decide, fun _ h => absurd rfl h, fun h => absurd h (by decide), fun _ => by decide, fun ns h => h⟩
  rintro ⟨c, a, out⟩ ⟨hc, h0, h1, hlen, hf, hcol, hone, hk⟩
  simp only at hc h0 h1 hlen hf hcol hone hk
  unfold runs_row_loop4
  simp only [iteD]
  by_cases hlt : a < (p.length : Int)
  ·left
   obtain ⟨b, e, b1, b2, b3, b4⟩ := run_end hl (c := c) (a := a) ⟨h0, h1⟩
   rw [if_pos hlt, e]
   simp only [Option.bind_some, List.length_singleton]
   have hlen2 : (out.length : Int) ≤ 201 := by omega
   rw [if_pos (by omega), w64 (n := b - a) (by omega)]
   have hw : IntKind.u8.wrap (1 - c) = 1 - c := by rw [w8]; omega
   rw [hw]
   have hprog : (out ≠ [] ∨ 0 < a) → a < b := by
    intro h
    by_cases he : b = a
    ·exfalso
     subst he
     rcases Int.lt_or_eq_of_le h0 with g | g
     ·exact b4 hlt (hcol g hlt)
     ·rcases h with h | h
      ·exact b4 hlt (hf g.symm h hlt)
      ·omega
    ·omega
   have hout : (0 < a) → out ≠ [] → True := fun _ _ => trivial
   have hnext : ∀ j : Int, b < (p.length : Int) → rd p b = 1 - c := fun _ h => by
    have g1 := b4 h
    have g2 := hp _ (rd_mem (l := p) (i := b) (by omega) h)
    omega
   refine ⟨_, rfl, ⟨by show 1 - c = 0 ∨ 1 - c = 1; omega, by show 0 ≤ b; omega, b2, ?_, fun _ _ h => hnext 0 h, fun _ h => hnext 0 h, ?_, fun ns h => ?_⟩, ?_⟩
   ·show ((out ++ [b - a]).length : Int) ≤ b + 1
    rw [List.length_append, List.length_singleton]
    by_cases he : out = [] ∧ ¬ 0 < a
    ·rw [he.1]; simp only [List.length_nil]; omega
    ·have hor : out ≠ [] ∨ 0 < a := by
      by_cases h : out = []
      ·right
       by_cases h2 : 0 < a
       ·exact h2
       ·exact absurd ⟨h, h2⟩ he
      ·exact .inl h
     have := hprog hor
     omega
   ·intro hb0
    have hb : b = 0 := hb0
    show (out ++ [b - a]).length ≤ 1
    have : out = [] := by
     by_cases h : out = []
     ·exact h
     ·have := hprog (.inl h); omega
    rw [this]; simp
   ·show Rq p 0 0 ((out ++ [b - a]) ++ ns)
    rw [List.append_assoc]
    exact hk _ (.step hlt h0 b1 b2 b3 b4 (fun h => hprog (.inr h)) h)
   ·show 2 * ((p.length : Int) - b).toNat + (if out ++ [b - a] = [] then 1 else 0) < 2 * ((p.length : Int) - a).toNat + (if out = [] then 1 else 0)
    rw [if_neg (by simp)]
    by_cases h : out = []
    ·rw [if_pos h]; omega
    ·have := hprog (.inl h)
     rw [if_neg h]; omega
  ·right
   rw [if_neg hlt]
   exact ⟨out, rfl, by omega, by simpa using hk [] (.done hlt)⟩
 exact ⟨q, by rw [runs_row_eq, e]; rfl, h1, h2⟩
/-- the bits of the rest of a row -/
inductive Os (p : List Int) : Int → Int → List Int → Prop
 | done {c a : Int} : ¬ a < (p.length : Int) → Os p c a []
 | step {c a b : Int} {x bs : List Int} : a < (p.length : Int) → 0 ≤ a → a ≤ b → b ≤ (p.length : Int) → (∀ j, a ≤ j → j < b → rd p j = c) → (b < (p.length : Int) → rd p b ≠ c) → (0 < a → a < b) → RunB (b - a) c x → Os p (1 - c) b bs → Os p c a (x ++ bs)
theorem oneRow_bits {p : List Int} (hl : p.length ≤ 200) {c a : Int} {ns : List Int} (hR : Rq p c a ns) : ∀ {q : List Int} {i : Nat} {out : List Int}, (c = 0 ∨ c = 1) → (i : Int) % 2 = c → q.drop i = ns → i ≤ q.length → q.length ≤ 500 → out.length + 60 * ns.length ≤ 900000000 →
  ∃ bs, loop (runs_One_loop8 q) ((i : Int), out) = some (out ++ bs) ∧ Os p c a bs ∧ allBit bs = true ∧ bs.length ≤ 60 * ns.length := by
 induction hR with
 | @done c a h =>
  intro q i out hc hi hq hiq hql ho
  refine ⟨[], ?_, .done h, rfl, by simp⟩
  have : q.length = i := by
   have := congrArg List.length hq
   rw [List.length_drop, List.length_nil] at this
   omega
  rw [loop_done (a := out)]
  ·simp
  ·unfold runs_One_loop8
   rw [if_neg (by simp; omega)]
 | @step c a b ns g1 g2 g3 g4 g5 g6 g7 g8 ih =>
  intro q i out hc hi hq hiq hql ho
  have hqi : q[i]? = some (b - a) := by
   have := congrArg (fun l => l[0]?) hq
   simpa [List.getElem?_drop] using this
  have hlt := lt_len_of_get hqi
  obtain ⟨x, hx⟩ := runB_is (n := b - a) (c := c) (by omega) (by omega) hc
  have hxl := hx.len
  have hst : runs_One_loop8 q ((i : Int), out) = some (.inl (((i + 1 : Nat) : Int), out ++ x)) := by
   unfold runs_One_loop8
   simp only [iteD]
   rw [if_pos (by omega), if_pos (by omega), rd_nat hqi, tmod_pos (by omega), hi, hx.at_]
   simp only [Option.bind_some]
   rw [if_pos (by omega), w64 (n := (i : Int) + 1) (by omega)]
   rfl
  have hd : q.drop (i + 1) = ns := by
   have := congrArg List.tail hq
   rwa [List.tail_drop, List.tail_cons] at this
  rw [List.length_cons] at ho
  obtain ⟨bs, e, h1, h2, h3⟩ := ih (q := q) (i := i + 1) (out := out ++ x) (by omega) (by omega) hd hlt hql (by rw [List.length_append]; omega)
  exact ⟨x ++ bs, by rw [loop_step hst, e, List.append_assoc], .step g1 g2 g3 g4 g5 g6 g7 hx h1, allBit_app hx.bit h2, by rw [List.length_append, List.length_cons]; omega⟩
/-- the bits of rows -/
inductive Ors : List (List Int) → List Int → Prop
 | nil : Ors [] []
 | cons {p : List Int} {l : List (List Int)} {a b : List Int} : Os p 0 0 a → Ors l b → Ors (p :: l) (a ++ b)
theorem oneRows_bits {w : Nat} (hw : w ≤ 200) {rows : List (List Int)} (hr : ∀ p ∈ rows, p.length = w ∧ ∀ x ∈ p, x = 0 ∨ x = 1) (hn : rows.length ≤ 200) :
  ∃ bs, loop (runs_One_loop5 rows) (0, []) = some bs ∧ Ors rows bs ∧ allBit bs = true ∧ bs.length ≤ 24060 * rows.length ∧ bs.length ≤ 60 * (w + 1) * rows.length := by
 have key : ∀ (n : Nat) (l0 l1 : List (List Int)) (out : List Int), l1.length = n → l0 ++ l1 = rows → out.length ≤ 24060 * l0.length →
   ∃ bs, loop (runs_One_loop5 rows) ((l0.length : Int), out) = some (out ++ bs) ∧ Ors l1 bs ∧ allBit bs = true ∧ bs.length ≤ 24060 * l1.length ∧ bs.length ≤ 60 * (w + 1) * l1.length := by
  intro n
  induction n with
  | zero =>
   intro l0 l1 out h1 h2 _
   have : l1 = [] := List.length_eq_zero_iff.1 h1
   subst this
   rw [List.append_nil] at h2
   subst h2
   refine ⟨[], ?_, .nil, rfl, by simp, by simp⟩
   rw [loop_done (a := out)]
   ·simp
   ·unfold runs_One_loop5
    simp
  | succ n ih =>
   intro l0 l1 out h1 h2 h4
   cases l1 with
   | nil => simp at h1
   | cons p l1 =>
    have hi : rows[l0.length]? = some p := by rw [← h2]; simp
    have hlen : rows.length = l0.length + (l1.length + 1) := by rw [← h2]; simp
    obtain ⟨hp, hpb⟩ := hr p (List.mem_of_getElem? hi)
    obtain ⟨q, m1, m2, m3⟩ := row_runs (p := p) (by omega) hpb
    obtain ⟨bs, e, b0, b1, b2⟩ := oneRow_bits (by omega) m3 (q := q) (i := 0) (out := out) (.inl rfl) (by decide) rfl (by omega) (by omega) (by omega)
    have hstep : runs_One_loop5 rows ((l0.length : Int), out) = some (.inl (((l0 ++ [p]).length : Int), out ++ bs)) := by
     unfold runs_One_loop5
     simp only [iteD]
     have e' : loop (runs_One_loop8 q) (0, out) = some (out ++ bs) := e
     rw [if_pos (by omega), if_pos (by omega), Int.toNat_natCast, hi, Option.bind_some, m1, Option.bind_some, e', Option.bind_some, w64 (n := (l0.length : Int) + 1) (by omega)]
     simp
    obtain ⟨r, r1, r2, r3, r4, r5⟩ := ih (l0 ++ [p]) l1 (out ++ bs) (by simpa using h1) (by rw [← h2]; simp) (by rw [List.length_append, List.length_append, List.length_singleton]; omega)
    refine ⟨bs ++ r, ?_, .cons b0 r2, allBit_app b1 r3, by rw [List.length_append, List.length_cons]; omega, by rw [List.length_append, List.length_cons, Nat.mul_add, Nat.mul_one]; omega⟩
    rw [loop_step hstep, r1, List.append_assoc]
 obtain ⟨bs, h1, h2, h3, h4, h5⟩ := key rows.length [] rows [] rfl rfl (by simp)
 exact ⟨bs, by simpa using h1, h2, h3, h4, h5⟩
def rowL (w : Int) (p : List Int) (y : Nat) : List Int := cutL p ((y : Int) * w).toNat (((y : Int) + 1) * w).toNat
theorem row_idx {w h : Int} {y : Nat} (hw : 0 ≤ w) (hy : (y : Int) < h) : 0 ≤ (y : Int) * w ∧ (y : Int) * w ≤ ((y : Int) + 1) * w ∧ ((y : Int) + 1) * w ≤ w * h ∧ ((y : Int) + 1) * w = (y : Int) * w + w := by
 have b1 : 0 ≤ (y : Int) * w := Int.mul_nonneg (by omega) hw
 have b2 : ((y : Int) + 1) * w ≤ h * w := Int.mul_le_mul_of_nonneg_right (by omega) hw
 have b3 : ((y : Int) + 1) * w = (y : Int) * w + w := by rw [Int.add_mul, Int.one_mul]
 rw [Int.mul_comm h w] at b2
 exact ⟨b1, by omega, b2, b3⟩
theorem rowL_len {w h : Int} {p : List Int} (hb : Bmp w h p) {y : Nat} (hy : (y : Int) < h) : ((rowL w p y).length : Int) = w ∧ ∀ x ∈ rowL w p y, x = 0 ∨ x = 1 := by
 have hw := hb.1
 have hl := hb.2.2.2.2.2.1
 obtain ⟨b1, b2, b3, b4⟩ := row_idx (h := h) hw hy
 constructor
 ·unfold rowL cutL
  rw [List.length_drop, List.length_take]
  omega
 ·intro x hx
  unfold rowL cutL at hx
  exact hb.2.2.2.2.2.2 x (List.mem_of_mem_take (List.mem_of_mem_drop hx))
theorem lines_is {w h : Int} {p : List Int} (hb : Bmp w h p) : runs_lines w h p = some ((List.range h.toNat).map (rowL w p)) := by
 have hw := hb.1
 have hh2 := hb.2.2.2.1
 have hwh := hb.2.2.2.2.1
 have hl := hb.2.2.2.2.2.1
 rw [runs_lines_eq, runs_lines_loop3_over w h p (by rw [List.length_range]; omega) []]
 have := overL_inv (f := runs_lines_loop3_step w p) (fin := fun s => some s) (fun n => (List.range n).map (rowL w p)) (List.range h.toNat) 0 (fun k x hk => ?_)
 ·rw [List.length_range, Nat.zero_add] at this
  exact (by rw [show ([] : List (List Int)) = (List.range 0).map (rowL w p) from rfl, this]; rfl)
 ·have hk' := lt_len_of_get hk
  rw [List.length_range] at hk'
  obtain ⟨b1, b2, b3, b4⟩ := row_idx (h := h) (y := k) hw (by omega)
  unfold runs_lines_loop3_step
  simp only [Nat.zero_add]
  have e : cutL p ((k : Int) * w).toNat (((k : Int) + 1) * w).toNat = rowL w p k := rfl
  rw [w64 (n := (k : Int) * w) (by omega), w64 (n := (k : Int) + 1) (by omega), w64 (n := ((k : Int) + 1) * w) (by omega), if_pos (by omega), if_pos (by omega), e, if_pos (by simp; omega), List.range_succ, List.map_append]
  rfl
theorem rows_flat {w h : Int} {p : List Int} (hb : Bmp w h p) : ∀ n : Nat, (n : Int) ≤ h → ((List.range n).map (rowL w p)).flatten = p.take ((n : Int) * w).toNat
 | 0, _ => by simp
 | n + 1, hn => by
  have hw := hb.1
  have hl := hb.2.2.2.2.2.1
  obtain ⟨b1, b2, b3, b4⟩ := row_idx (h := h) (y := n) hw (by omega)
  rw [List.range_succ, List.map_append, List.flatten_append, rows_flat hb n (by omega)]
  simp only [List.map_cons, List.map_nil, List.flatten_cons, List.flatten_nil, List.append_nil]
  unfold rowL cutL
  rw [show (((n + 1 : Nat) : Int) * w).toNat = (((n : Int) + 1) * w).toNat by rw [show ((n + 1 : Nat) : Int) = (n : Int) + 1 by omega]]
  have : p.take ((n : Int) * w).toNat = (p.take (((n : Int) + 1) * w).toNat).take ((n : Int) * w).toNat := by
   rw [List.take_take]; congr 1; omega
  rw [this, List.take_append_drop]
theorem rows_all {w h : Int} {p : List Int} (hb : Bmp w h p) : ((List.range h.toNat).map (rowL w p)).flatten = p := by
 have h0 := hb.2.1
 have hl := hb.2.2.2.2.2.1
 rw [rows_flat hb h.toNat (by omega), show ((h.toNat : Nat) : Int) = h by omega, Int.mul_comm]
 exact List.take_of_length_le (by omega)
theorem rows_fit {w h : Int} {p : List Int} (hb : Bmp w h p) : ∀ q ∈ (List.range h.toNat).map (rowL w p), q.length = w.toNat ∧ ∀ x ∈ q, x = 0 ∨ x = 1 := by
 intro q hq
 obtain ⟨y, hy, rfl⟩ := List.mem_map.1 hq
 have := rowL_len hb (y := y) (by have := List.mem_range.1 hy; omega)
 exact ⟨by omega, this.2⟩
/-- In two dimensions: what is written is read again. -/
theorem two_back {w h : Int} {p : List Int} (hb : Bmp w h p) : ∃ code, runs_Two w h p = some (code, 0) ∧ 8 * code.length ≤ 130 * (w.toNat + 1) * h.toNat + 7 ∧ code.length ≤ 1000000 ∧ ∃ used, runs_GetTwo code w h = some (w, h, p, used, 0) ∧ 0 ≤ used ∧ (used + 7) / 8 = (code.length : Int) := by
 have hb' := hb
 obtain ⟨h0, h1, h2, h3, h4, h5, h6⟩ := hb'
 have hs : sidesB w h = true := sidesB_iff.2 ⟨h0, h1, h2, h3, h4⟩
 have hfit := rows_fit hb
 obtain ⟨bs, e1, e2, e3, e4, e5⟩ := twoRows_bits (w := w.toNat) (by omega) (rows := (List.range h.toNat).map (rowL w p)) (fun q hq => (hfit q hq).1) (by simp; omega) (q0 := List.replicate w.toNat 0) (by simp)
 have e4' : bs.length ≤ 26130 * h.toNat := by simpa using e4
 have e5' : bs.length ≤ 130 * (w.toNat + 1) * h.toNat := by simpa using e5
 obtain ⟨code, c1, c2, c3⟩ := pack_holds (l := bs) e3 (by omega)
 refine ⟨code, ?_, by omega, by omega, (bs.length : Int), ?_, by omega, by omega⟩
 ·rw [runs_Two_eq, bitmapValid_is (by omega), hb.b]
  simp only [Option.bind_some, Bool.not_true, Bool.false_eq_true, if_false]
  rw [if_pos (by omega), lines_is hb]
  simp only [Option.bind_some]
  rw [e1]
  simp only [Option.bind_some, c1]
 ·obtain ⟨r, r1, r2⟩ := rows_read (w := w.toNat) (by omega) (h := h.toNat) (by omega) (B := code) (by omega) e2 (by simp) hfit 0 0 w h [] (by simp) c3 (by simp)
  rw [List.nil_append, rows_all hb] at r2
  subst r2
  have ew : ((w.toNat : Nat) : Int) = w := by omega
  have eh : ((h.toNat : Nat) : Int) = h := by omega
  rw [ew, eh, Nat.zero_add] at r1
  rw [runs_GetTwo_eq, runs_read_eq, new_ok hs]
  simp only [Option.bind_some, decide_true, Bool.not_true, Bool.false_eq_true, if_false]
  rw [newReader_is (by omega)]
  simp only [Option.bind_some]
  rw [if_pos (by omega)]
  have r1' : loop (runs_read_loop8 w h) (List.replicate w.toNat 0, 0, w, h, tabS, strs codS, tabR 0, strs (codR 0), tabR 1, strs (codR 1), strs wordsC, code, 0, []) = _ := r1
  rw [r1']
  simp only [Option.bind_some, Sum.elim_inl, bits_Reader_At_eq, bits_Reader_none_eq, Bool.false_eq_true, if_false]
/-- In one dimension: what is written. -/
theorem one_some {w h : Int} {p : List Int} (hb : Bmp w h p) : ∃ code, runs_One w h p = some (code, 0) ∧ code.length ≤ 1000000 := by
 have hb' := hb
 obtain ⟨h0, h1, h2, h3, h4, h5, h6⟩ := hb'
 have hfit := rows_fit hb
 obtain ⟨bs, e1, e2, e3, e4, _⟩ := oneRows_bits (w := w.toNat) (by omega) (rows := (List.range h.toNat).map (rowL w p)) hfit (by simp; omega)
 have e4' : bs.length ≤ 24060 * h.toNat := by simpa using e4
 obtain ⟨code, c1, c2, c3⟩ := pack_holds (l := bs) e3 (by omega)
 refine ⟨code, ?_, by omega⟩
 rw [runs_One_eq, bitmapValid_is (by omega), hb.b]
 simp only [Option.bind_some, Bool.not_true, Bool.false_eq_true, if_false]
 rw [lines_is hb]
 simp only [Option.bind_some]
 rw [e1]
 simp only [Option.bind_some, c1]
theorem take_run {p : List Int} {a b c : Int} (h0 : 0 ≤ a) (hb : a ≤ b ∧ b ≤ (p.length : Int)) (hr : ∀ j, a ≤ j → j < b → rd p j = c) : p.take b.toNat = p.take a.toNat ++ List.replicate (b - a).toNat c := by
 have hl : (p.take a.toNat).length = a.toNat := by rw [List.length_take]; omega
 apply List.ext_getElem?
 intro i
 by_cases hi : i < a.toNat
 ·rw [List.getElem?_append_left (by rw [hl]; exact hi), List.getElem?_take, List.getElem?_take, if_pos (by omega), if_pos hi]
 ·rw [List.getElem?_append_right (by rw [hl]; omega), hl, List.getElem?_replicate, List.getElem?_take]
  by_cases hi2 : i < b.toNat
  ·rw [if_pos hi2, if_pos (by omega)]
   have hg := rd_get (xs := p) (i := (i : Int)) (by omega) (by omega)
   rw [Int.toNat_natCast] at hg
   rw [hg, hr (i : Int) (by omega) (by omega)]
  ·rw [if_neg hi2, if_neg (by omega)]
theorem one_read {p : List Int} (hl : p.length ≤ 200) (hp : ∀ x ∈ p, x = 0 ∨ x = 1) {c a : Int} {bs : List Int} (hO : Os p c a bs) : ∀ {i : Nat} {B : List Int} {at_ : Nat}, (c = 0 ∨ c = 1) → (i : Int) % 2 = c → 0 ≤ a → a ≤ (p.length : Int) → (0 < i → a < (p.length : Int) → rd p a = c) → (i : Int) ≤ a + 1 → Holds B at_ bs → B.length ≤ 100000000 →
  loop (runs_reader_one_loop3 (p.length : Int)) ((i : Int), tabS, strs codS, tabR 0, strs (codR 0), tabR 1, strs (codR 1), strs wordsC, B, (at_ : Int), p.take a.toNat) =
   some (.inl (tabS, strs codS, tabR 0, strs (codR 0), tabR 1, strs (codR 1), strs wordsC, B, ((at_ + bs.length : Nat) : Int), p)) := by
 induction hO with
 | @done c a h =>
  intro i B at_ hc hi h0 h1 hcol hia hB hBl
  have : p.take a.toNat = p := List.take_of_length_le (by omega)
  rw [this]
  refine loop_done ?_
  unfold runs_reader_one_loop3
  simp only [iteD]
  rw [if_neg (by omega)]
  rfl
 | @step c a b x bs g1 g2 g3 g4 g5 g6 g7 g8 g9 ih =>
  intro i B at_ hc hi h0 h1 hcol hia hB hBl
  obtain ⟨hx, hr⟩ := hB.app
  have hprog : 0 < i → a < b := fun h => by
   by_cases he : b = a
   ·subst he
    exact absurd (hcol h g1) (g6 g1)
   ·omega
  have ht := take_run (p := p) (c := c) g2 ⟨g3, g4⟩ g5
  have hla : (p.take a.toNat).length = a.toNat := by rw [List.length_take]; omega
  have hla2 : ((p.take a.toNat).length : Int) = a := by omega
  have hst : runs_reader_one_loop3 (p.length : Int) ((i : Int), tabS, strs codS, tabR 0, strs (codR 0), tabR 1, strs (codR 1), strs wordsC, B, (at_ : Int), p.take a.toNat) =
    some (.inl (((i + 1 : Nat) : Int), tabS, strs codS, tabR 0, strs (codR 0), tabR 1, strs (codR 1), strs wordsC, B, ((at_ + x.length : Nat) : Int), p.take b.toNat)) := by
   unfold runs_reader_one_loop3
   simp only [iteD]
   rw [if_pos (by omega), tmod_pos (by omega), hi, run_is g8 (by omega) hc hx hBl]
   simp only [Option.bind_some, decide_true, Bool.not_true, Bool.false_eq_true, if_false, hla2]
   rw [w64 (n := (p.length : Int) - a) (by omega)]
   have n1 : ¬ b - a > (p.length : Int) - a := by omega
   have ev : ((if b - a = 0 then (if (i : Int) > 0 then some true else some (decide (b - a > (p.length : Int) - a))) else some (decide (b - a > (p.length : Int) - a))) : Option Bool) = some false := by
    split
    ·rw [if_neg (fun h => by have := hprog (by omega); omega)]; simp only [n1, decide_false]
    ·simp only [n1, decide_false]
   rw [ev]
   simp only [Option.bind_some, Bool.false_eq_true, if_false]
   have e8 : IntKind.u8.wrap c = c := by rw [w8]; omega
   rw [e8, repeat_is hc (by omega)]
   simp only [Option.bind_some]
   rw [if_pos (by rw [List.length_replicate]; omega), w64 (n := (i : Int) + 1) (by omega), ← ht]
   rfl
  have hc' : 1 - c = 0 ∨ 1 - c = 1 := by omega
  have hcol2 : 0 < i + 1 → b < (p.length : Int) → rd p b = 1 - c := fun _ h => by
   have h1 := g6 h
   have h2 := hp _ (rd_mem (l := p) (i := b) (by omega) h)
   omega
  have hi2 : ((i + 1 : Nat) : Int) ≤ b + 1 := by
   by_cases h : 0 < i
   ·have := hprog h; omega
   ·omega
  have := ih (i := i + 1) (B := B) (at_ := at_ + x.length) hc' (by omega) (by omega) g4 hcol2 hi2 hr hBl
  rw [loop_step hst, this, List.length_append, Nat.add_assoc]
theorem oneRow_read {p q : List Int} (hl : p.length ≤ 200) (hp : ∀ x ∈ p, x = 0 ∨ x = 1) {bs : List Int} (hO : Os p 0 0 bs) {B : List Int} {at_ : Nat} (hB : Holds B at_ bs) (hBl : B.length ≤ 100000000) :
  runs_reader_one (p.length : Int) q tabS (strs codS) (tabR 0) (strs (codR 0)) (tabR 1) (strs (codR 1)) (strs wordsC) B (at_ : Int) =
   some (p, 0, tabS, strs codS, tabR 0, strs (codR 0), tabR 1, strs (codR 1), strs wordsC, B, ((at_ + bs.length : Nat) : Int)) := by
 have e := one_read hl hp hO (i := 0) (B := B) (at_ := at_) (.inl rfl) (by decide) (by decide) (by omega) (fun h => absurd h (by decide)) (by decide) hB hBl
 have e' : loop (runs_reader_one_loop3 (p.length : Int)) (0, tabS, strs codS, tabR 0, strs (codR 0), tabR 1, strs (codR 1), strs wordsC, B, (at_ : Int), []) = _ := e
 rw [runs_reader_one_eq, e']
 rfl
theorem oneRows_read {w : Nat} (hw : w ≤ 200) {h : Nat} (hh : h ≤ 200) {B : List Int} (hBl : B.length ≤ 100000000) : ∀ {rows : List (List Int)} {bs : List Int}, Ors rows bs → (∀ p ∈ rows, p.length = w ∧ ∀ x ∈ p, x = 0 ∨ x = 1) →
  ∀ (n at_ : Nat) (W H : Int) (q out : List Int), n + rows.length = h → Holds B at_ bs → out.length ≤ 200 * n →
  ∃ r, loop (runs_read_2_loop8 (w : Int) (h : Int)) (q, (n : Int), W, H, tabS, strs codS, tabR 0, strs (codR 0), tabR 1, strs (codR 1), strs wordsC, B, (at_ : Int), out) = some (Sum.inl (W, H, tabS, strs codS, tabR 0, strs (codR 0), tabR 1, strs (codR 1), strs wordsC, B, ((at_ + bs.length : Nat) : Int), r)) ∧ r = out ++ rows.flatten := by
 intro rows bs hR
 induction hR with
 | nil =>
  intro hr n at_ W H q out hn hB ho
  refine ⟨out, loop_done ?_, by simp⟩
  unfold runs_read_2_loop8
  have : n = h := by simpa using hn
  subst this
  simp
 | @cons p l a b hO hR ih =>
  intro hr n at_ W H q out hn hB ho
  obtain ⟨hpl, hpb⟩ := hr p (List.mem_cons_self ..)
  obtain ⟨h1, h2⟩ := hB.app
  rw [List.length_cons] at hn
  have ht := oneRow_read (q := q) (p := p) (by omega) hpb hO h1 hBl
  rw [hpl] at ht
  have hst : runs_read_2_loop8 (w : Int) (h : Int) (q, (n : Int), W, H, tabS, strs codS, tabR 0, strs (codR 0), tabR 1, strs (codR 1), strs wordsC, B, (at_ : Int), out) = some (.inl (p, ((n + 1 : Nat) : Int), W, H, tabS, strs codS, tabR 0, strs (codR 0), tabR 1, strs (codR 1), strs wordsC, B, ((at_ + a.length : Nat) : Int), out ++ p)) := by
   unfold runs_read_2_loop8
   simp only [iteD]
   rw [if_pos (by omega), ht]
   simp only [Option.bind_some, decide_true, Bool.not_true, Bool.false_eq_true, if_false]
   rw [if_pos (by omega), w64 (n := (n : Int) + 1) (by omega)]
   rfl
  obtain ⟨r, e, hr2⟩ := ih (fun p' hp' => hr p' (List.mem_cons_of_mem _ hp')) (n + 1) (at_ + a.length) W H p (out ++ p) (by omega) h2 (by rw [List.length_append]; omega)
  refine ⟨r, ?_, by rw [hr2]; simp⟩
  rw [loop_step hst, e, List.length_append, Nat.add_assoc]
/-- In one dimension: what is written is read again. -/
theorem one_back {w h : Int} {p : List Int} (hb : Bmp w h p) : ∃ code, runs_One w h p = some (code, 0) ∧ 8 * code.length ≤ 60 * (w.toNat + 1) * h.toNat + 7 ∧ code.length ≤ 1000000 ∧ ∃ used, runs_GetOne code w h = some (w, h, p, used, 0) ∧ 0 ≤ used ∧ (used + 7) / 8 = (code.length : Int) := by
 have hb' := hb
 obtain ⟨h0, h1, h2, h3, h4, h5, h6⟩ := hb'
 have hs : sidesB w h = true := sidesB_iff.2 ⟨h0, h1, h2, h3, h4⟩
 have hfit := rows_fit hb
 obtain ⟨bs, e1, e2, e3, e4, e5⟩ := oneRows_bits (w := w.toNat) (by omega) (rows := (List.range h.toNat).map (rowL w p)) hfit (by simp; omega)
 have e4' : bs.length ≤ 24060 * h.toNat := by simpa using e4
 have e5' : bs.length ≤ 60 * (w.toNat + 1) * h.toNat := by simpa using e5
 obtain ⟨code, c1, c2, c3⟩ := pack_holds (l := bs) e3 (by omega)
 refine ⟨code, ?_, by omega, by omega, (bs.length : Int), ?_, by omega, by omega⟩
 ·rw [runs_One_eq, bitmapValid_is (by omega), hb.b]
  simp only [Option.bind_some, Bool.not_true, Bool.false_eq_true, if_false]
  rw [lines_is hb]
  simp only [Option.bind_some]
  rw [e1]
  simp only [Option.bind_some, c1]
 ·obtain ⟨r, r1, r2⟩ := oneRows_read (w := w.toNat) (by omega) (h := h.toNat) (by omega) (B := code) (by omega) e2 hfit 0 0 w h (List.replicate w.toNat 0) [] (by simp) c3 (by simp)
  rw [List.nil_append, rows_all hb] at r2
  subst r2
  have ew : ((w.toNat : Nat) : Int) = w := by omega
  have eh : ((h.toNat : Nat) : Int) = h := by omega
  rw [ew, eh, Nat.zero_add] at r1
  rw [runs_GetOne_eq, runs_read_2_eq, new_ok hs]
  simp only [Option.bind_some, decide_true, Bool.not_true, Bool.false_eq_true, if_false]
  rw [newReader_is (by omega)]
  simp only [Option.bind_some]
  rw [if_pos (by omega)]
  have r1' : loop (runs_read_2_loop8 w h) (List.replicate w.toNat 0, 0, w, h, tabS, strs codS, tabR 0, strs (codR 0), tabR 1, strs (codR 1), strs wordsC, code, 0, []) = _ := r1
  rw [r1']
  simp only [Option.bind_some, Sum.elim_inl, bits_Reader_At_eq, bits_Reader_none_eq, Bool.false_eq_true, if_false]
def sizeL (n : Nat) : List Int := if n < 128 then [(n : Int)] else [((n / 128 + 128 : Nat) : Int), ((n % 128 : Nat) : Int)]
noncomputable def sizeB (n : Nat) : Bool := match bits_Size_F 20 (n : Int) with
 | some (l, e) => decide (l = sizeL n) && decide (e = 0)
 | none => false
theorem sizeB_all : (List.range 1000).all sizeB = true := by kernel_rfl
theorem size_nat {n : Nat} (h : n < 1000) : bits_Size (n : Int) = some (sizeL n, 0) := by
 have := List.all_eq_true.1 sizeB_all n (List.mem_range.2 h)
 unfold sizeB at this
 split at this
 ·rename_i l e h1
  rw [Bool.and_eq_true, decide_eq_true_eq, decide_eq_true_eq] at this
  obtain ⟨rfl, rfl⟩ := this
  exact bits_Size_F_le _ _ _ h1
 ·cases this
theorem sizeL_len (n : Nat) : 1 ≤ (sizeL n).length ∧ (sizeL n).length ≤ 2 := by unfold sizeL; split <;> simp
def signedN (n : Int) : Nat := if 0 ≤ n then (2 * n).toNat else (-2 * n - 1).toNat
theorem signed_is {n : Int} (h : -400 ≤ n ∧ n ≤ 400) : bits_Signed n = some (sizeL (signedN n), 0) := by
 rw [bits_Signed_eq, bits_Signed_b]
 unfold signedN
 simp only [iteD]
 by_cases h0 : 0 ≤ n
 ·rw [if_pos (show n ≥ 0 from h0), if_pos h0]
  have : n < 1073741824 := by omega
  simp only [this, decide_true, Option.bind_some, if_true]
  rw [w64 (n := 2 * n) (by omega), show 2 * n = (((2 * n).toNat : Nat) : Int) by omega, size_nat (by omega)]
  rfl
 ·rw [if_neg (show ¬ n ≥ 0 from h0), if_neg h0]
  have h1 : n < 0 := by omega
  have h2 : n ≥ -1073741824 := by omega
  simp only [Option.bind_some, Bool.false_eq_true, if_false, h1, if_true, h2, decide_true]
  rw [w64 (n := -2 * n) (by omega), w64 (n := -2 * n - 1) (by omega), show -2 * n - 1 = (((-2 * n - 1).toNat : Nat) : Int) by omega, size_nat (by omega)]
  rfl
/-- from a place on there stand these bytes -/
def Has (b : List Int) (at_ : Nat) (l : List Int) : Prop := ∀ k x, l[k]? = some x → b[at_ + k]? = some x
theorem Has.app {b : List Int} {at_ : Nat} {l m : List Int} (h : Has b at_ (l ++ m)) : Has b at_ l ∧ Has b (at_ + l.length) m := by
 refine ⟨fun k x hk => h k x ?_, fun k x hk => ?_⟩
 ·rw [List.getElem?_append_left (lt_len_of_get hk)]; exact hk
 ·have := h (l.length + k) x (by rw [List.getElem?_append_right (by omega), Nat.add_sub_cancel_left]; exact hk)
  rwa [← Nat.add_assoc] at this
theorem Has.all (b : List Int) : Has b 0 b := fun k x hk => by rwa [Nat.zero_add]
theorem Has.left {l : List Int} (m : List Int) : Has (l ++ m) 0 l := fun k x hk => by rw [Nat.zero_add, List.getElem?_append_left (lt_len_of_get hk)]; exact hk
theorem getSize_is {n : Nat} (hn : n < 1000) {b : List Int} {at_ : Nat} (h : Has b at_ (sizeL n)) (hl : b.length ≤ 100000000) : bits_GetSize b (at_ : Int) = some ((n : Int), ((at_ + (sizeL n).length : Nat) : Int), 0) := by
 have hlen := sizeL_len n
 have h0 : at_ < b.length := by
  have := lt_len_of_get (h 0 ((sizeL n)[0]'(by omega)) (List.getElem?_eq_getElem (by omega)))
  omega
 rw [bits_GetSize_eq]
 have n1 : ¬ (at_ : Int) < 0 := by omega
 have n2 : ¬ (at_ : Int) > ((b.length : Nat) : Int) := by omega
 simp only [iteD, n1, n2, if_false, decide_false, Option.bind_some, Bool.false_eq_true]
 unfold sizeL at h ⊢
 by_cases hs : n < 128
 ·rw [if_pos hs] at h ⊢
  have r0 : rd b (at_ : Int) = (n : Int) := rd_nat (h 0 _ rfl)
  have st : bits_GetSize_loop4 b (at_ : Int) (0, 0) = some (.inr (.inr ((n : Int), ((at_ + 1 : Nat) : Int), 0))) := by
   unfold bits_GetSize_loop4
   simp only [iteD, Int.add_zero]
   rw [if_pos (by decide), w64 (n := (at_ : Int)) (by omega), if_neg (by omega), if_pos (by omega), r0, w64 (n := (n : Int)) (by omega), if_pos (by omega), tmod_pos (by omega)]
   have e : IntKind.i64.wrap (IntKind.i64.wrap (0 * 128) + (n : Int) % 128) = (n : Int) := by
    rw [w64 (n := 0 * 128) (by decide), w64 (by omega)]; omega
   have n3 : ¬ (n : Int) > 2147483647 := by omega
   rw [e]
   simp only [n3, if_false, show ¬ ((0 : Int) > 0) by decide, Option.bind_some, Bool.false_eq_true]
   rw [w64 (n := (at_ : Int) + 1) (by omega)]
   rfl
  rw [loop_done st]
  rfl
 ·rw [if_neg hs] at h ⊢
  have r0 : rd b (at_ : Int) = ((n / 128 + 128 : Nat) : Int) := rd_nat (h 0 _ rfl)
  have r1 : rd b ((at_ : Int) + 1) = ((n % 128 : Nat) : Int) := rd_nat (i := at_ + 1) (h 1 _ rfl)
  have h1 : at_ + 1 < b.length := lt_len_of_get (h 1 _ rfl)
  have st : bits_GetSize_loop4 b (at_ : Int) (0, 0) = some (.inl (((n / 128 : Nat) : Int), 1)) := by
   unfold bits_GetSize_loop4
   simp only [iteD, Int.add_zero]
   rw [if_pos (by decide), w64 (n := (at_ : Int)) (by omega), if_neg (by omega), if_pos (by omega), r0, w64 (n := ((n / 128 + 128 : Nat) : Int)) (by omega), if_neg (by omega), tmod_pos (by omega)]
   have e : IntKind.i64.wrap (IntKind.i64.wrap (0 * 128) + ((n / 128 + 128 : Nat) : Int) % 128) = ((n / 128 : Nat) : Int) := by
    rw [w64 (n := 0 * 128) (by decide), w64 (by omega)]; omega
   rw [e]
   rfl
  have st2 : bits_GetSize_loop4 b (at_ : Int) (((n / 128 : Nat) : Int), 1) = some (.inr (.inr ((n : Int), ((at_ + 2 : Nat) : Int), 0))) := by
   unfold bits_GetSize_loop4
   simp only [iteD]
   rw [if_pos (by decide), w64 (n := (at_ : Int) + 1) (by omega), if_neg (by omega), if_pos (by omega), r1, w64 (n := ((n % 128 : Nat) : Int)) (by omega), if_pos (by omega), tmod_pos (by omega)]
   have e : IntKind.i64.wrap (IntKind.i64.wrap (((n / 128 : Nat) : Int) * 128) + ((n % 128 : Nat) : Int) % 128) = (n : Int) := by
    rw [w64 (n := ((n / 128 : Nat) : Int) * 128) (by omega), w64 (by omega)]; omega
   have n3 : ¬ (n : Int) > 2147483647 := by omega
   have n4 : ¬ ((n / 128 + 128 : Nat) : Int) = 128 := by omega
   rw [e]
   simp only [n3, if_false, show ((1 : Int) > 0) by decide, if_true]
   rw [if_pos (by omega), r0]
   simp only [n4, decide_false, Option.bind_some, Bool.false_eq_true, if_false]
   rw [w64 (n := (at_ : Int) + 1 + 1) (by omega)]
   rfl
  rw [loop_step st, loop_done st2]
  rfl
theorem getSigned_is {n : Int} (hn : -400 ≤ n ∧ n ≤ 400) {b : List Int} {at_ : Nat} (h : Has b at_ (sizeL (signedN n))) (hl : b.length ≤ 100000000) : bits_GetSigned b (at_ : Int) = some (n, ((at_ + (sizeL (signedN n)).length : Nat) : Int), 0) := by
 have hs : signedN n < 1000 := by unfold signedN; split <;> omega
 rw [bits_GetSigned_eq, getSize_is hs h hl]
 simp only [Option.bind_some, iteD]
 rw [tmod_pos (by omega)]
 have hlen := (sizeL_len (signedN n)).2
 by_cases h0 : 0 ≤ n
 ·have e : ((signedN n : Nat) : Int) = 2 * n := by unfold signedN; rw [if_pos h0]; omega
  rw [if_neg (by omega), tdiv_pos (by omega), w64 (by omega)]
  rw [show ((signedN n : Nat) : Int) / 2 = n by omega]
 ·have e : ((signedN n : Nat) : Int) = -2 * n - 1 := by unfold signedN; rw [if_neg h0]; omega
  rw [if_pos (by omega), e, w64 (n := -2 * n - 1 + 1) (by omega), w64 (n := 0 - (-2 * n - 1 + 1)) (by omega)]
  have : (0 - (-2 * n - 1 + 1)).tdiv 2 = n := by
   rw [show 0 - (-2 * n - 1 + 1) = 2 * n by omega, Int.mul_tdiv_cancel_left _ (by decide)]
  rw [this, w64 (by omega)]
/-! ### The cursor -/
theorem csize_is {n : Nat} (hn : n < 1000) {b : List Int} {at_ : Nat} (h : Has b at_ (sizeL n)) (hl : b.length ≤ 100000000) : page_cursor_size b (at_ : Int) 0 = some ((n : Int), b, ((at_ + (sizeL n).length : Nat) : Int), 0) := by
 rw [page_cursor_size_eq, getSize_is hn h hl]
 rfl
theorem csigned_is {n : Int} (hn : -400 ≤ n ∧ n ≤ 400) {b : List Int} {at_ : Nat} (h : Has b at_ (sizeL (signedN n))) (hl : b.length ≤ 100000000) : page_cursor_signed b (at_ : Int) 0 = some (n, b, ((at_ + (sizeL (signedN n)).length : Nat) : Int), 0) := by
 rw [page_cursor_signed_eq, getSigned_is hn h hl]
 rfl
theorem check_ok {err : Int} {b : List Int} {a : Int} : page_cursor_check true err b a 0 = some (true, b, a, 0) := by rw [page_cursor_check_eq]; rfl
theorem cbyte_is {m n : Int} (hn : 0 ≤ n ∧ n ≤ m ∧ n ≤ 255) {b : List Int} {at_ : Nat} (h : Has b at_ [n]) (hl : b.length ≤ 100000000) : page_cursor_byte m b (at_ : Int) 0 = some (n, b, ((at_ + 1 : Nat) : Int), 0) := by
 have h0 : at_ < b.length := lt_len_of_get (h 0 _ rfl)
 have r0 : rd b (at_ : Int) = n := rd_nat (h 0 _ rfl)
 rw [page_cursor_byte_eq]
 simp only [decide_true, Bool.not_true, Bool.false_eq_true, if_false, iteD]
 rw [if_neg (by omega), if_pos (by omega), r0, w64 (n := n) (by omega), w64 (n := (at_ : Int) + 1) (by omega)]
 have : n ≤ m := hn.2.1
 simp only [this, decide_true, check_ok, Option.bind_some]
 rfl
theorem sides_ok {w h : Int} (hs : sidesB w h = true) {b : List Int} {a : Int} : page_cursor_sides w h b a 0 = some (b, a, 0) := by
 rw [page_cursor_sides_eq, new_ok hs]
 simp only [decide_true, if_true, Option.bind_some, check_ok]
theorem end_ok {b : List Int} : page_cursor_end b ((b.length : Nat) : Int) 0 = some (b, ((b.length : Nat) : Int), 0) := by
 rw [page_cursor_end_eq]
 simp only [decide_true, check_ok, Option.bind_some]
theorem near_ok {n : Int} (h : -100000 ≤ n ∧ n ≤ 100000) : page_near n = some true := by
 rw [page_near_eq]
 have h1 : n ≥ -100000 := h.1
 have h2 : n ≤ 100000 := h.2
 simp only [h1, h2, decide_true, if_true]
/-- the begin of a region -/
def begL (w h : Nat) (x y op : Int) : List Int := sizeL w ++ sizeL h ++ sizeL (signedN x) ++ sizeL (signedN y) ++ [op]
theorem begin_read {w h : Nat} {x y op : Int} (hs : sidesB w h = true) (hx : -400 ≤ x ∧ x ≤ 400) (hy : -400 ≤ y ∧ y ≤ 400) (ho : 0 ≤ op ∧ op ≤ 4) {b : List Int} (hb : Has b 0 (begL w h x y op)) (hl : b.length ≤ 100000000) :
  page_cursor_begin b 0 0 = some ((w : Int), (h : Int), x, y, op, false, b, (((begL w h x y op).length : Nat) : Int), 0) := by
 have hs' := sidesB_iff.1 hs
 unfold begL at hb
 obtain ⟨hb, h5⟩ := hb.app
 obtain ⟨hb, h4⟩ := hb.app
 obtain ⟨hb, h3⟩ := hb.app
 obtain ⟨h1, h2⟩ := hb.app
 simp only [Nat.zero_add, List.length_append] at h2 h3 h4 h5
 have q1 : page_cursor_size b 0 0 = some ((w : Int), b, (((sizeL w).length : Nat) : Int), 0) := by
  have := csize_is (at_ := 0) (by omega) h1 hl
  rwa [Nat.zero_add] at this
 rw [page_cursor_begin_eq, q1]
 simp only [Option.bind_some]
 rw [csize_is (by omega) h2 hl]
 simp only [Option.bind_some]
 rw [sides_ok hs]
 simp only [Option.bind_some]
 rw [csigned_is hx h3 hl]
 simp only [Option.bind_some, near_ok (show -100000 ≤ x ∧ x ≤ 100000 by omega), check_ok]
 rw [csigned_is hy h4 hl]
 simp only [Option.bind_some, near_ok (show -100000 ≤ y ∧ y ≤ 100000 by omega), check_ok]
 rw [cbyte_is (n := op) (by omega) h5 hl]
 simp only [Option.bind_some]
 rw [tmod_pos ho.1, show op % 8 = op by omega]
 have : op ≤ 4 := ho.2
 have n8 : ¬ op ≥ 8 := by omega
 simp only [this, decide_true, check_ok, Option.bind_some, n8, decide_false, begL, List.length_append, List.length_singleton]
/-! ### The writer -/
theorem wsize2 {m n : Nat} (hm : m < 1000) (hn : n < 1000) : page_writer_size [(m : Int), (n : Int)] [] = some (sizeL m ++ sizeL n) := by
 have l1 := (sizeL_len m).2
 have l2 := (sizeL_len n).2
 rw [page_writer_size_eq, page_writer_size_b]
 have s1 : page_writer_size_loop1 [(m : Int), (n : Int)] (0, []) = some (.inl (1, sizeL m)) := by
  show page_writer_size_loop1_b @bits_Size [(m : Int), (n : Int)] (0, []) = _
  unfold page_writer_size_loop1_b
  simp only [List.length_cons, List.length_nil, iteD]
  rw [if_pos (by decide), if_pos (by decide), show rd [(m : Int), (n : Int)] 0 = (m : Int) from rfl, size_nat hm]
  simp only [Option.bind_some, List.length_nil, Nat.zero_add, List.nil_append]
  rw [if_pos (by omega)]
  rfl
 have s2 : page_writer_size_loop1 [(m : Int), (n : Int)] (1, sizeL m) = some (.inl (2, sizeL m ++ sizeL n)) := by
  show page_writer_size_loop1_b @bits_Size [(m : Int), (n : Int)] (1, sizeL m) = _
  unfold page_writer_size_loop1_b
  simp only [List.length_cons, List.length_nil, iteD]
  rw [if_pos (by decide), if_pos (by decide), show rd [(m : Int), (n : Int)] 1 = (n : Int) from rfl, size_nat hn]
  simp only [Option.bind_some]
  rw [if_pos (by omega)]
  rfl
 have s3 : page_writer_size_loop1 [(m : Int), (n : Int)] (2, sizeL m ++ sizeL n) = some (.inr (sizeL m ++ sizeL n)) := by
  show page_writer_size_loop1_b @bits_Size [(m : Int), (n : Int)] (2, sizeL m ++ sizeL n) = _
  unfold page_writer_size_loop1_b
  rfl
 rw [loop_step s1, loop_step s2, loop_done s3]
 rfl
theorem wsize1 {m : Nat} (hm : m < 1000) : page_writer_size [(m : Int)] [] = some (sizeL m) := by
 have l1 := (sizeL_len m).2
 rw [page_writer_size_eq, page_writer_size_b]
 have s1 : page_writer_size_loop1 [(m : Int)] (0, []) = some (.inl (1, sizeL m)) := by
  show page_writer_size_loop1_b @bits_Size [(m : Int)] (0, []) = _
  unfold page_writer_size_loop1_b
  simp only [List.length_cons, List.length_nil, iteD]
  rw [if_pos (by decide), if_pos (by decide), show rd [(m : Int)] 0 = (m : Int) from rfl, size_nat hm]
  simp only [Option.bind_some, List.length_nil, Nat.zero_add, List.nil_append]
  rw [if_pos (by omega)]
  rfl
 have s3 : page_writer_size_loop1 [(m : Int)] (1, sizeL m) = some (.inr (sizeL m)) := by
  show page_writer_size_loop1_b @bits_Size [(m : Int)] (1, sizeL m) = _
  unfold page_writer_size_loop1_b
  rfl
 rw [loop_step s1, loop_done s3]
 rfl
theorem wsigned2 {x y : Int} (hx : -400 ≤ x ∧ x ≤ 400) (hy : -400 ≤ y ∧ y ≤ 400) {b : List Int} (hb : b.length ≤ 1000) : page_writer_signed [x, y] b = some (b ++ sizeL (signedN x) ++ sizeL (signedN y)) := by
 have l1 := (sizeL_len (signedN x)).2
 have l2 := (sizeL_len (signedN y)).2
 rw [page_writer_signed_eq]
 have s1 : page_writer_signed_loop1 [x, y] (0, b) = some (.inl (1, b ++ sizeL (signedN x))) := by
  unfold page_writer_signed_loop1
  simp only [List.length_cons, List.length_nil, iteD]
  rw [if_pos (by decide), if_pos (by decide), show rd [x, y] 0 = x from rfl, signed_is hx]
  simp only [Option.bind_some]
  rw [if_pos (by omega)]
  rfl
 have s2 : page_writer_signed_loop1 [x, y] (1, b ++ sizeL (signedN x)) = some (.inl (2, b ++ sizeL (signedN x) ++ sizeL (signedN y))) := by
  unfold page_writer_signed_loop1
  simp only [List.length_cons, List.length_nil, iteD]
  rw [if_pos (by decide), if_pos (by decide), show rd [x, y] 1 = y from rfl, signed_is hy]
  simp only [Option.bind_some]
  rw [if_pos (by rw [List.length_append]; omega)]
  rfl
 have s3 : page_writer_signed_loop1 [x, y] (2, b ++ sizeL (signedN x) ++ sizeL (signedN y)) = some (.inr (b ++ sizeL (signedN x) ++ sizeL (signedN y))) := by
  unfold page_writer_signed_loop1
  rfl
 rw [loop_step s1, loop_step s2, loop_done s3]
 rfl
theorem wbyte1 {n : Int} (hn : 0 ≤ n ∧ n ≤ 255) {b : List Int} (hb : b.length ≤ 100000000) : page_writer_byte [n] b = some (b ++ [n]) := by
 rw [page_writer_byte_eq, page_writer_byte_b]
 have e : IntKind.u8.wrap n = n := by rw [w8]; omega
 have s1 : page_writer_byte_loop1 [n] (0, b) = some (.inl (1, b ++ [n])) := by
  unfold page_writer_byte_loop1
  simp only [List.length_cons, List.length_nil, iteD]
  rw [if_pos (by decide), if_pos (by decide), show rd [n] 0 = n from rfl, e, if_pos (by omega)]
  rfl
 have s3 : page_writer_byte_loop1 [n] (1, b ++ [n]) = some (.inr (b ++ [n])) := by
  unfold page_writer_byte_loop1
  rfl
 rw [loop_step s1, loop_done s3]
 rfl
theorem begin_written {w h : Nat} {x y op : Int} (hw : w ≤ 200) (hh : h ≤ 200) (hx : -400 ≤ x ∧ x ≤ 400) (hy : -400 ≤ y ∧ y ≤ 400) (ho : 0 ≤ op ∧ op ≤ 4) : page_writer_begin (w : Int) (h : Int) x y op false [] = some (begL w h x y op) := by
 have l1 := (sizeL_len w).2
 have l2 := (sizeL_len h).2
 have l3 := (sizeL_len (signedN x)).2
 have l4 := (sizeL_len (signedN y)).2
 rw [page_writer_begin_eq, wsize2 (by omega) (by omega)]
 simp only [Option.bind_some]
 rw [wsigned2 hx hy (by rw [List.length_append]; omega)]
 simp only [Option.bind_some, page_flag_eq, Bool.false_eq_true, if_false]
 rw [Int.add_zero, w64 (n := op) (by omega), wbyte1 (n := op) (b := sizeL w ++ sizeL h ++ sizeL (signedN x) ++ sizeL (signedN y)) (by omega) (by simp only [List.length_append]; omega)]
 rfl
theorem rightBegin_ok {w h x y op : Int} {hid : Bool} (hs : sidesB w h = true) (hx : -100000 ≤ x ∧ x ≤ 100000) (hy : -100000 ≤ y ∧ y ≤ 100000) (ho : 0 ≤ op ∧ op ≤ 4) : page_rightBegin w h x y op hid = some true := by
 rw [page_rightBegin_eq, new_ok hs]
 have h1 : op ≥ 0 := ho.1
 have h2 : op ≤ 4 := ho.2
 simp only [Option.bind_some, decide_true, if_true, near_ok hx, near_ok hy, h1, h2]
theorem good_u8 {l : List Int} (h : V.Good E (.ints .u8 l)) : (∀ x ∈ l, 0 ≤ x) ∧ l.length ≤ 9223372036854775807 := by
 cases h with
 | ints h hl => exact ⟨fun x hx => by have := h x hx; simp [IntKind.has, IntKind.min, IntKind.max, IntKind.signed, IntKind.bits] at this; omega, by simpa [maxLen] using hl⟩
theorem sane13 : law13_Sane = some true := law13_Sane_F_le 300 _ (by kernel_rfl)
theorem infoP_written {w h : Nat} {c : Int} (hc : c = 0 ∨ c = 1) (hs : sidesB (w : Int) (h : Int) = true) : page_Info (w : Int) (h : Int) c 0 = some (sizeL w ++ sizeL (h + 1) ++ [c], 0) := by
 obtain ⟨s0, s1, s2, s3, s4⟩ := sidesB_iff.1 hs
 have l1 := (sizeL_len w).2
 have l2 := (sizeL_len (h + 1)).2
 rw [page_Info_eq, page_Info_b]
 simp only [imax_eq]
 rw [show max (h : Int) 0 = (h : Int) by omega, new_ok hs]
 have n1 : ¬ (h : Int) < -1 := by omega
 have n2 : ¬ c < 0 := by omega
 have n3 : ¬ c > 1 := by omega
 simp only [Option.bind_some, decide_true, Bool.not_true, Bool.false_eq_true, if_false, n1, n2, n3, decide_false, show ¬ ((0 : Int) < 0) by decide, show ¬ ((0 : Int) > 4) by decide]
 rw [w64 (n := (h : Int) + 1) (by omega), show (h : Int) + 1 = ((h + 1 : Nat) : Int) by omega, wsize2 (by omega) (by omega)]
 simp only [Option.bind_some]
 rw [show IntKind.i64.wrap (2 * 0) = 0 by decide, Int.add_zero, w64 (n := c) (by omega), wbyte1 (n := c) (b := sizeL w ++ sizeL (h + 1)) (by omega) (by rw [List.length_append]; omega)]
 rfl
theorem begL_len {w h : Nat} {x y op : Int} : (begL w h x y op).length ≤ 9 := by
 unfold begL
 have l1 := (sizeL_len w).2
 have l2 := (sizeL_len h).2
 have l3 := (sizeL_len (signedN x)).2
 have l4 := (sizeL_len (signedN y)).2
 simp only [List.length_append, List.length_singleton]
 omega
/-! ### All is drawn by 0 -/
theorem cmb0 (a b : Int) : cmb 0 a b = b := by
 unfold cmb
 rw [bitmap_combine_eq]
 rfl
theorem fold0 {s : List Int} : ∀ (L : List (Nat × Int)) (q : List Int), q.length = s.length → (∀ c ∈ L, s[c.1]? = some c.2) →
  (L.foldl (putc 0) q).length = s.length ∧ ∀ i, ((∃ c ∈ L, c.1 = i) ∨ q[i]? = s[i]?) → (L.foldl (putc 0) q)[i]? = s[i]?
 | [], q, hq, _ => ⟨hq, fun i h => by
  rcases h with ⟨c, hc, _⟩ | h
  ·simp at hc
  ·exact h⟩
 | c :: L, q, hq, hL => by
  have hc := hL c (List.mem_cons_self ..)
  have hcl := lt_len_of_get hc
  have e : putc 0 q c = q.set c.1 c.2 := by unfold putc; rw [cmb0]
  have ih := fold0 L (q.set c.1 c.2) (by rw [List.length_set]; exact hq) fun d hd => hL d (List.mem_cons_of_mem _ hd)
  rw [List.foldl_cons, e]
  refine ⟨ih.1, fun i h => ih.2 i ?_⟩
  have hset : (q.set c.1 c.2)[c.1]? = s[c.1]? := by rw [List.getElem?_set_self (by omega), hc]
  by_cases hi : c.1 = i
  ·right; rw [← hi]; exact hset
  ·rcases h with ⟨d, hd, hdi⟩ | h
   ·rcases List.mem_cons.1 hd with rfl | hd
    ·exact absurd hdi hi
    ·exact .inl ⟨d, hd, hdi⟩
   ·right
    rw [List.getElem?_set_ne hi]
    exact h
theorem cells_val {W H : Nat} {s : List Int} (hl : s.length = W * H) : ∀ c ∈ cells W 0 W H s, s[c.1]? = some c.2 := by
 intro c hc
 obtain ⟨v, hv, hc⟩ := List.mem_flatMap.1 hc
 obtain ⟨u, hu, rfl⟩ := List.mem_map.1 hc
 have h1 := List.mem_range.1 hv
 have h2 := List.mem_range.1 hu
 have h3 : v * W + u < W * H := by
  have := Nat.mul_le_mul_right W (show v + 1 ≤ H by omega)
  rw [Nat.add_mul, Nat.one_mul, Nat.mul_comm H W] at this
  omega
 show s[v * W + (0 + u)]? = some (rd s ((v * W + u : Nat) : Int))
 have := rd_get (xs := s) (i := ((v * W + u : Nat) : Int)) (by omega) (by omega)
 rw [Int.toNat_natCast] at this
 rw [show v * W + (0 + u) = v * W + u by omega]
 exact this
theorem draw_all {W H : Nat} {q s : List Int} (hq : Bmp (W : Int) (H : Int) q) (hs : Bmp (W : Int) (H : Int) s) : bitmap_Draw (W : Int) (H : Int) q (W : Int) (H : Int) s 0 0 0 = some ((W : Int), (H : Int), s, 0) := by
 have hql := hq.2.2.2.2.2.1
 have hsl := hs.2.2.2.2.2.1
 have e : ((W : Int) * (H : Int)) = ((W * H : Nat) : Int) := by simp
 obtain ⟨f1, f2⟩ := fold0 (s := s) (cells W 0 W H s) q (by omega) (cells_val (by omega))
 have : (cells W 0 W H s).foldl (putc 0) q = s := by
  apply List.ext_getElem?
  intro i
  by_cases hi : i < W * H
  ·refine f2 i (.inl ⟨(i, rd s (i : Int)), ?_, rfl⟩)
   have hW : 0 < W := by
    rcases Nat.eq_zero_or_pos W with rfl | h
    ·simp at hi
    ·exact h
   have hdm := Nat.div_add_mod i W
   refine List.mem_flatMap.2 ⟨i / W, List.mem_range.2 (Nat.div_lt_of_lt_mul hi), List.mem_map.2 ⟨i % W, List.mem_range.2 (Nat.mod_lt _ hW), ?_⟩⟩
   rw [Nat.mul_comm] at hdm
   rw [Nat.zero_add, hdm]
  ·rw [List.getElem?_eq_none (by omega), List.getElem?_eq_none (by omega)]
 have h := (draw_in (x := 0) (op := 0) hq hs (by omega) (Nat.le_refl _) (by decide)).1
 rw [this] at h
 exact h
theorem beginH_read {w h : Nat} {x y op : Int} (hs : sidesB w h = true) (hx : -400 ≤ x ∧ x ≤ 400) (hy : -400 ≤ y ∧ y ≤ 400) (ho : 0 ≤ op ∧ op ≤ 4) {b : List Int} (hb : Has b 0 (begL w h x y (op + 8))) (hl : b.length ≤ 100000000) :
  page_cursor_begin b 0 0 = some ((w : Int), (h : Int), x, y, op, true, b, (((begL w h x y (op + 8)).length : Nat) : Int), 0) := by
 have hs' := sidesB_iff.1 hs
 unfold begL at hb
 obtain ⟨hb, h5⟩ := hb.app
 obtain ⟨hb, h4⟩ := hb.app
 obtain ⟨hb, h3⟩ := hb.app
 obtain ⟨h1, h2⟩ := hb.app
 simp only [Nat.zero_add, List.length_append] at h2 h3 h4 h5
 have q1 : page_cursor_size b 0 0 = some ((w : Int), b, (((sizeL w).length : Nat) : Int), 0) := by
  have := csize_is (at_ := 0) (by omega) h1 hl
  rwa [Nat.zero_add] at this
 rw [page_cursor_begin_eq, q1]
 simp only [Option.bind_some]
 rw [csize_is (by omega) h2 hl]
 simp only [Option.bind_some]
 rw [sides_ok hs]
 simp only [Option.bind_some]
 rw [csigned_is hx h3 hl]
 simp only [Option.bind_some, near_ok (show -100000 ≤ x ∧ x ≤ 100000 by omega), check_ok]
 rw [csigned_is hy h4 hl]
 simp only [Option.bind_some, near_ok (show -100000 ≤ y ∧ y ≤ 100000 by omega), check_ok]
 rw [cbyte_is (n := op + 8) (by omega) h5 hl]
 simp only [Option.bind_some]
 rw [tmod_pos (show 0 ≤ op + 8 by omega), show (op + 8) % 8 = op by omega]
 have : op ≤ 4 := ho.2
 have n8 : op + 8 ≥ 8 := by omega
 simp only [this, decide_true, check_ok, Option.bind_some, n8, decide_true, begL, List.length_append, List.length_singleton]
theorem beginH_written {w h : Nat} {x y op : Int} (hw : w ≤ 200) (hh : h ≤ 200) (hx : -400 ≤ x ∧ x ≤ 400) (hy : -400 ≤ y ∧ y ≤ 400) (ho : 0 ≤ op ∧ op ≤ 4) : page_writer_begin (w : Int) (h : Int) x y op true [] = some (begL w h x y (op + 8)) := by
 have l1 := (sizeL_len w).2
 have l2 := (sizeL_len h).2
 have l3 := (sizeL_len (signedN x)).2
 have l4 := (sizeL_len (signedN y)).2
 rw [page_writer_begin_eq, wsize2 (by omega) (by omega)]
 simp only [Option.bind_some]
 rw [wsigned2 hx hy (by rw [List.length_append]; omega)]
 simp only [Option.bind_some, page_flag_eq, if_true]
 rw [w64 (n := op + 8) (by omega), wbyte1 (n := op + 8) (b := sizeL w ++ sizeL h ++ sizeL (signedN x) ++ sizeL (signedN y)) (by omega) (by simp only [List.length_append]; omega)]
 rfl
theorem runsH_written {w h : Nat} {p : List Int} (hb : Bmp (w : Int) (h : Int) p) (hp : p.length ≤ 500) :
  ∃ code used, page_Runs (w : Int) (h : Int) 0 0 3 true false (w : Int) (h : Int) p = some (begL w h 0 0 11 ++ [0] ++ code, 0) ∧ runs_GetOne code (w : Int) (h : Int) = some ((w : Int), (h : Int), p, used, 0) ∧ 0 ≤ used ∧ (used + 7) / 8 = (code.length : Int) ∧ code.length ≤ 19900 := by
 obtain ⟨h0, h1, h2, h3, h4, h5, h6⟩ := id hb
 have hs : sidesB (w : Int) (h : Int) = true := sidesB_iff.2 ⟨h0, h1, h2, h3, h4⟩
 obtain ⟨c1, e1, f1, _, u1, r1, v1, t1⟩ := one_back hb
 have lb : (begL w h 0 0 11).length ≤ 9 := begL_len
 have hwh : w * h ≤ 500 := by
  have : ((w * h : Nat) : Int) ≤ 500 := by rw [Int.natCast_mul, ← h5]; omega
  omega
 simp only [Int.toNat_natCast] at f1
 have m1 : 60 * (w + 1) * h = 60 * (w * h) + 60 * h := by rw [Nat.mul_assoc, Nat.add_mul, Nat.one_mul, Nat.mul_add]
 refine ⟨c1, u1, ?_, r1, v1, t1, by omega⟩
 rw [page_Runs_eq, rightBegin_ok hs (by decide) (by decide) (by decide)]
 simp only [Option.bind_some, Bool.not_true, Bool.false_eq_true, if_false, decide_true, e1, page_flag_eq]
 have hbw : page_writer_begin (w : Int) (h : Int) 0 0 3 true [] = some (begL w h 0 0 11) := beginH_written (by omega) (by omega) (by decide) (by decide) (by decide)
 rw [hbw]
 simp only [Option.bind_some]
 rw [wbyte1 (n := 0) (b := begL w h 0 0 11) (by decide) (by omega)]
 simp only [Option.bind_some]
 rw [page_writer_with_eq, if_neg (by simp), if_pos (by simp only [List.length_append, List.length_singleton]; omega)]
 rfl
/-! ### Numbers of any size -/
theorem sizeAny_loop : ∀ s : Int × List Int, 0 ≤ s.1 ∧ (s.2.length : Int) + s.1 ≤ 2147483650 → ∃ a, loop bits_Size_loop5 s = some a ∧ a.length ≤ 2147483650 := by
 refine loop_ind (fun (s : Int × List Int) => 0 ≤ s.1 ∧ (s.2.length : Int) + s.1 ≤ 2147483650) (fun (s : Int × List Int) => s.1.toNat) (fun (a : List Int) => a.length ≤ 2147483650) ?_
 rintro ⟨n, out⟩ ⟨h1, h2⟩
 simp only at h1 h2
 unfold bits_Size_loop5
 simp only [iteD]
 by_cases h : n > 0
 ·have e2 : n.tdiv 128 = n / 128 := tdiv_pos (by omega)
  rw [if_pos h, if_pos (by simp only [List.length_cons, List.length_nil]; omega)]
  refine .inl ⟨_, rfl, ?_, ?_⟩
  ·simp only [e2, List.length_append, List.length_cons, List.length_nil]
   rw [w64 (by omega)]
   omega
  ·simp only [e2]
   rw [w64 (by omega)]
   omega
 ·rw [if_neg h]
  exact .inr ⟨_, rfl, by omega⟩
theorem sizeAny (n : Int) : ∃ l e, bits_Size n = some (l, e) ∧ l.length ≤ 2147483650 := by
 rw [bits_Size_eq, bits_Size_b]
 simp only [iteD]
 by_cases h1 : n < 0
 ·exact ⟨[], 2, by simp [h1], by simp⟩
 ·by_cases h2 : n > 2147483647
  ·exact ⟨[], 2, by simp [h1, h2], by simp⟩
  ·obtain ⟨a, ha, hl⟩ := sizeAny_loop (IntKind.i64.wrap (n.tdiv 128), [IntKind.u8.wrap (n.tmod 128)]) (by
    simp only [List.length_cons, List.length_nil]
    rw [tdiv_pos (by omega), w64 (by omega)]; omega)
   exact ⟨a, 0, by simp [h1, h2, ha], hl⟩
theorem signedAny (n : Int) : ∃ l e, bits_Signed n = some (l, e) ∧ l.length ≤ 2147483650 := by
 rw [bits_Signed_eq, bits_Signed_b]
 simp only [iteD]
 by_cases h0 : n ≥ 0
 ·by_cases h1 : n < 1073741824
  ·obtain ⟨l, e, h, hl⟩ := sizeAny (IntKind.i64.wrap (2 * n))
   refine ⟨l, e, ?_, hl⟩
   simp [h0, h1, h]
  ·refine ⟨[], 2, ?_, by simp⟩
   have h2 : ¬ n < 0 := by omega
   simp [h0, h1, h2]
 ·by_cases h1 : n ≥ -1073741824
  ·obtain ⟨l, e, h, hl⟩ := sizeAny (IntKind.i64.wrap (IntKind.i64.wrap (-2 * n) - 1))
   refine ⟨l, e, ?_, hl⟩
   have h2 : n < 0 := by omega
   simp [h0, h1, h2, h]
  ·refine ⟨[], 2, ?_, by simp⟩
   have h2 : n < 0 := by omega
   simp [h0, h1, h2]
theorem wsignedAny (x y : Int) {b : List Int} (hb : b.length ≤ 1000) : ∃ b', page_writer_signed [x, y] b = some b' := by
 obtain ⟨lx, ex, hx, hxl⟩ := signedAny x
 obtain ⟨ly, ey, hy, hyl⟩ := signedAny y
 rw [page_writer_signed_eq]
 have s1 : page_writer_signed_loop1 [x, y] (0, b) = some (.inl (1, b ++ lx)) := by
  unfold page_writer_signed_loop1
  simp only [List.length_cons, List.length_nil, iteD]
  rw [if_pos (by decide), if_pos (by decide), show rd [x, y] 0 = x from rfl, hx]
  simp only [Option.bind_some]
  rw [if_pos (by omega)]
  rfl
 have s2 : page_writer_signed_loop1 [x, y] (1, b ++ lx) = some (.inl (2, b ++ lx ++ ly)) := by
  unfold page_writer_signed_loop1
  simp only [List.length_cons, List.length_nil, iteD]
  rw [if_pos (by decide), if_pos (by decide), show rd [x, y] 1 = y from rfl, hy]
  simp only [Option.bind_some]
  rw [if_pos (by rw [List.length_append]; omega)]
  rfl
 have s3 : page_writer_signed_loop1 [x, y] (2, b ++ lx ++ ly) = some (.inr (b ++ lx ++ ly)) := by
  unfold page_writer_signed_loop1
  rfl
 exact ⟨_, by rw [loop_step s1, loop_step s2, loop_done s3]; rfl⟩
theorem wbyteAny (n : Int) {b : List Int} (hb : b.length ≤ 1000) : page_writer_byte [n] b = some (b ++ [IntKind.u8.wrap n]) := by
 rw [page_writer_byte_eq, page_writer_byte_b]
 have s1 : page_writer_byte_loop1 [n] (0, b) = some (.inl (1, b ++ [IntKind.u8.wrap n])) := by
  unfold page_writer_byte_loop1
  simp only [List.length_cons, List.length_nil, iteD]
  rw [if_pos (by decide), if_pos (by decide), show rd [n] 0 = n from rfl, if_pos (by omega)]
  rfl
 have s2 : page_writer_byte_loop1 [n] (1, b ++ [IntKind.u8.wrap n]) = some (.inr (b ++ [IntKind.u8.wrap n])) := by
  unfold page_writer_byte_loop1
  rfl
 rw [loop_step s1, loop_done s2]
 rfl
/-! ### Refined regions are written -/
def flagR (t : Int) (o4 : Bool) (k : Int) : Int := t + (if o4 = true then 2 else 0) + 4 * k
theorem flagR_is : ∀ (t : Fin 2) (o4 : Bool) (k : Fin 2), (0 ≤ flagR ((t.val : Nat) : Int) o4 ((k.val : Nat) : Int) ∧ flagR ((t.val : Nat) : Int) o4 ((k.val : Nat) : Int) ≤ 7) ∧ (flagR ((t.val : Nat) : Int) o4 ((k.val : Nat) : Int)).tmod 2 = ((t.val : Nat) : Int) ∧ (!decide (iand .i64 (flagR ((t.val : Nat) : Int) o4 ((k.val : Nat) : Int)) 2 = 0)) = o4 ∧ ishr .i64 (flagR ((t.val : Nat) : Int) o4 ((k.val : Nat) : Int)) 2 = ((k.val : Nat) : Int) := by decide +kernel
theorem flagR_ok {t dx dy k : Int} (ho : RefOk t dx dy k) (o4 : Bool) : (0 ≤ flagR t o4 k ∧ flagR t o4 k ≤ 7) ∧ (flagR t o4 k).tmod 2 = t ∧ (!decide (iand .i64 (flagR t o4 k) 2 = 0)) = o4 ∧ ishr .i64 (flagR t o4 k) 2 = k := by
 obtain ⟨o1, o2, _⟩ := ho
 have := flagR_is ⟨t.toNat, by omega⟩ o4 ⟨k.toNat, by omega⟩
 simp only [show ((t.toNat : Nat) : Int) = t by omega, show ((k.toNat : Nat) : Int) = k by omega] at this
 exact this
/-- the Data of a refined region -/
noncomputable def refD (o4 : Bool) (t dx dy k : Int) (w h : Nat) (p : List Int) (rw rh : Int) (rp : List Int) : List Int :=
 begL w h 0 0 0 ++ [flagR t o4 k] ++ sizeL (signedN dx) ++ sizeL (signedN dy) ++ refC o4 t dx dy k (w : Int) (h : Int) p rw rh rp
theorem ref_written {o4 : Bool} {t dx dy k : Int} {w h : Nat} {p : List Int} {rw_ rh : Int} {rp : List Int} (ho : RefOk t dx dy k) (hb : Bmp (w : Int) (h : Int) p) (hr : Bmp rw_ rh rp) :
  page_Refined (w : Int) (h : Int) 0 0 0 false t dx dy o4 k (w : Int) (h : Int) p rw_ rh rp = some (refD o4 t dx dy k w h p rw_ rh rp, 0) := by
 obtain ⟨h0, h1, h2, h3, h4, h5, h6⟩ := id hb
 have hs : sidesB (w : Int) (h : Int) = true := sidesB_iff.2 ⟨h0, h1, h2, h3, h4⟩
 obtain ⟨o1, o2, o3, o4', o5, o6⟩ := id ho
 obtain ⟨g1, g2, g3⟩ := refC_ok (o4 := o4) ho hb hr
 simp only [Int.toNat_natCast] at g3
 have q4 : h * (1 + w) ≤ 200 * 201 := Nat.mul_le_mul (by omega) (by omega)
 have lb : (begL w h 0 0 0).length ≤ 9 := begL_len
 have lx := (sizeL_len (signedN dx)).2
 have ly := (sizeL_len (signedN dy)).2
 have hf := (flagR_ok ho o4).1
 rw [page_Refined_eq, rightBegin_ok hs (by decide) (by decide) (by decide)]
 simp only [Option.bind_some, Bool.not_true, Bool.false_eq_true, if_false, decide_true]
 rw [rencode_is ho hb hr]
 simp only [Option.bind_some]
 rw [begin_written (by omega) (by omega) (by decide) (by decide) (by decide)]
 simp only [Option.bind_some, page_flag_eq]
 have ef : ((if o4 = true then some 2 else some 0) : Option Int) = some (if o4 = true then 2 else 0) := by split <;> rfl
 rw [ef]
 simp only [Option.bind_some]
 have hi : 0 ≤ (if o4 = true then (2 : Int) else 0) ∧ (if o4 = true then (2 : Int) else 0) ≤ 2 := by split <;> omega
 rw [w64 (n := t + (if o4 = true then 2 else 0)) (by omega), w64 (n := 4 * k) (by omega), w64 (n := t + (if o4 = true then 2 else 0) + 4 * k) (by omega)]
 have e3 := wbyte1 (n := flagR t o4 k) (b := begL w h 0 0 0) (by omega) (by omega)
 unfold flagR at e3
 rw [e3]
 simp only [Option.bind_some]
 rw [wsigned2 (by omega) (by omega) (by rw [List.length_append, List.length_singleton]; omega)]
 simp only [Option.bind_some]
 rw [page_writer_with_eq, if_neg (by simp), if_pos (by simp only [List.length_append, List.length_singleton]; omega)]
 simp only [Option.bind_some]
 unfold refD flagR
 rfl
theorem ref_notWritten {o4 : Bool} {t dx dy k : Int} {w h : Nat} {p : List Int} {rw_ rh : Int} {rp : List Int} (ho : ¬ RefOk t dx dy k) (hb : Bmp (w : Int) (h : Int) p) :
  page_Refined (w : Int) (h : Int) 0 0 0 false t dx dy o4 k (w : Int) (h : Int) p rw_ rh rp = some ([], 2) := by
 obtain ⟨h0, h1, h2, h3, h4, h5, h6⟩ := id hb
 have hs : sidesB (w : Int) (h : Int) = true := sidesB_iff.2 ⟨h0, h1, h2, h3, h4⟩
 have lb : (begL w h 0 0 0).length ≤ 9 := begL_len
 rw [page_Refined_eq, rightBegin_ok hs (by decide) (by decide) (by decide)]
 simp only [Option.bind_some, Bool.not_true, Bool.false_eq_true, if_false, decide_true]
 rw [refine_Encode_eq, refineValid_is]
 simp only [ho, decide_false, Option.bind_some, Bool.not_false, if_true]
 rw [begin_written (by omega) (by omega) (by decide) (by decide) (by decide)]
 simp only [Option.bind_some, page_flag_eq]
 have ef : ((if o4 = true then some 2 else some 0) : Option Int) = some (if o4 = true then 2 else 0) := by split <;> rfl
 rw [ef]
 simp only [Option.bind_some]
 rw [wbyteAny _ (by omega)]
 simp only [Option.bind_some]
 obtain ⟨b', hb'⟩ := wsignedAny dx dy (b := begL w h 0 0 0 ++ [IntKind.u8.wrap (IntKind.i64.wrap (IntKind.i64.wrap (t + if o4 = true then 2 else 0) + IntKind.i64.wrap (4 * k)))]) (by rw [List.length_append, List.length_singleton]; omega)
 rw [hb']
 simp only [Option.bind_some]
 rw [page_writer_with_eq, if_pos (by decide)]
 rfl
/-! ### What each segment does -/
section
variable {n : Int} {refs : List Int} {keep : List Bool} {W H : Int} {q : List Int} {st ht : Int} {en : List EntBitmap}
theorem orderH_ok {k : Int} {d : List Int} {b : Bool} (hb : b = !decide (k = 6)) (x1 x2 x3 : Int) (x4 : List Int) (x7 x8 : Int) :
  page_builder_order n k 1 refs keep d x1 x2 x3 x4 b false x7 x8 en = some (0, x1, x2, x3, x4, b, false, x7, x8, en) := by
 rw [page_builder_order_eq]
 subst hb
 simp only [show ¬ ((1 : Int) = 0) by decide, decide_false, Bool.false_eq_true, if_false]
 cases decide (k = 6) <;> rfl
theorem addH_info {w h : Nat} (hs : sidesB (w : Int) (h : Int) = true) :
  page_builder_add n 6 1 [] keep (sizeL w ++ sizeL (h + 1) ++ [0]) 1 0 0 [] false false st ht en =
   some (0, 1, (w : Int), (h : Int), List.replicate ((w : Int) * (h : Int)).toNat 0, true, false, st, ht, en) := by
 obtain ⟨s0, s1, s2, s3, s4⟩ := sidesB_iff.1 hs
 have l1 := sizeL_len w
 have l2 := sizeL_len (h + 1)
 have hl : (sizeL w ++ sizeL (h + 1) ++ [0] : List Int).length = (sizeL w).length + (sizeL (h + 1)).length + 1 := by simp only [List.length_append, List.length_singleton]
 have hA := Has.all (sizeL w ++ sizeL (h + 1) ++ [0])
 obtain ⟨hA, h3⟩ := hA.app
 obtain ⟨h1, h2⟩ := hA.app
 simp only [Nat.zero_add, List.length_append] at h2 h3
 generalize hD : (sizeL w ++ sizeL (h + 1) ++ [0] : List Int) = D at h1 h2 h3 hl ⊢
 have q1 : page_cursor_size D 0 0 = some ((w : Int), D, (((sizeL w).length : Nat) : Int), 0) := by
  have := csize_is (at_ := 0) (by omega) h1 (by omega)
  rwa [Nat.zero_add] at this
 rw [page_builder_add_eq, orderH_ok (by decide)]
 simp only [Option.bind_some, decide_true, Bool.not_true, Bool.false_eq_true, if_false, show ¬ ((6 : Int) = 0) by decide, show ¬ ((6 : Int) = 1) by decide, show ¬ ((6 : Int) = 2) by decide, show ¬ ((6 : Int) = 3) by decide, show ¬ ((6 : Int) = 4) by decide, show ¬ ((6 : Int) = 5) by decide, show ¬ ((6 : Int) = 10) by decide, decide_false, if_true]
 rw [page_builder_info_eq, q1]
 simp only [Option.bind_some]
 rw [csize_is (by omega) h2 (by omega)]
 simp only [Option.bind_some]
 rw [w64 (n := ((h + 1 : Nat) : Int) - 1) (by omega), show ((h + 1 : Nat) : Int) - 1 = (h : Int) by omega]
 have n1 : ¬ (h : Int) < 0 := by omega
 simp only [n1, decide_false, Bool.false_eq_true, if_false, Option.bind_some]
 rw [sides_ok hs]
 simp only [Option.bind_some]
 rw [cbyte_is (m := 9) (n := 0) (by decide) h3 (by omega)]
 simp only [Option.bind_some]
 have ee : (((sizeL w).length + (sizeL (h + 1)).length + 1 : Nat) : Int) = ((D.length : Nat) : Int) := by rw [hl]
 rw [ee, end_ok]
 simp only [Option.bind_some, decide_true, if_true]
 rw [show (0 : Int).tmod 2 = 0 by decide, newP_ok (.inl rfl) hs]
 simp only [Option.bind_some, List.length_nil, show (((0 : Nat) : Int) = 0) from rfl, decide_true, check_ok]
theorem addH_runs {w h : Nat} {code p : List Int} {used : Int} (hs : sidesB (w : Int) (h : Int) = true)
  (hc : runs_GetOne code (w : Int) (h : Int) = some ((w : Int), (h : Int), p, used, 0)) (hu : 0 ≤ used) (hu2 : (used + 7) / 8 = (code.length : Int)) (hcl : code.length ≤ 1000000) :
  page_builder_add n 10 1 [] keep (begL w h 0 0 11 ++ [0] ++ code) 1 W H q true false st ht en = some (0, 1, W, H, q, true, false, st, ht, putM (fun (e : EntBitmap) => KV.int e.key) (EntBitmap.mk n (w : Int) (h : Int) p) en) := by
 have l0 : (begL w h 0 0 11).length ≤ 9 := begL_len
 have hl : (begL w h 0 0 11 ++ [0] ++ code : List Int).length = (begL w h 0 0 11).length + 1 + code.length := by simp only [List.length_append, List.length_singleton]
 have hA := Has.all (begL w h 0 0 11 ++ [0] ++ code)
 obtain ⟨hA, h3⟩ := hA.app
 obtain ⟨h1, h2⟩ := hA.app
 simp only [Nat.zero_add] at h2
 have hrest : cutL (begL w h 0 0 11 ++ [0] ++ code) ((begL w h 0 0 11).length + 1) (begL w h 0 0 11 ++ [0] ++ code).length = code := by
  unfold cutL
  rw [List.take_of_length_le (Nat.le_refl _)]
  exact List.drop_left' (by simp)
 generalize hD : (begL w h 0 0 11 ++ [0] ++ code : List Int) = D at h1 h2 h3 hl hrest ⊢
 have hDl : D.length ≤ 100000000 := by omega
 rw [page_builder_add_eq, orderH_ok (by decide)]
 simp only [Option.bind_some, decide_true, Bool.not_true, Bool.false_eq_true, if_false, show ¬ ((10 : Int) = 0) by decide, show ¬ ((10 : Int) = 1) by decide, show ¬ ((10 : Int) = 2) by decide, show ¬ ((10 : Int) = 3) by decide, show ¬ ((10 : Int) = 4) by decide, show ¬ ((10 : Int) = 5) by decide, decide_false, if_true]
 have hbr : page_cursor_begin D 0 0 = some ((w : Int), (h : Int), 0, 0, 3, true, D, (((begL w h 0 0 11).length : Nat) : Int), 0) := beginH_read (op := 3) hs (by decide) (by decide) (by decide) h1 hDl
 rw [page_builder_runs_eq, hbr]
 simp only [Option.bind_some]
 have hrs : page_cursor_rest D (((begL w h 0 0 11).length + 1 : Nat) : Int) 0 = some (code, D, (((begL w h 0 0 11).length + 1 : Nat) : Int), 0) := by
  rw [page_cursor_rest_eq, if_pos (by omega)]
  simp only [Int.toNat_natCast]
  rw [hrest]
 rw [cbyte_is (m := 1) (n := 0) (by decide) h2 hDl]
 simp only [Option.bind_some, List.length_nil, show (((0 : Nat) : Int) = 0) from rfl, show ¬ ((0 : Int) = 1) by decide, decide_true, decide_false, check_ok, Bool.not_true, Bool.false_eq_true, if_false, if_true]
 rw [hrs]
 simp only [Option.bind_some]
 rw [hc]
 simp only [Option.bind_some, decide_true, check_ok, if_true]
 rw [hrs]
 simp only [Option.bind_some]
 rw [w64 (n := used + 7) (by omega), tdiv_pos (by omega), w64 (n := (used + 7) / 8) (by omega), hu2]
 simp only [decide_true, check_ok, Option.bind_some, if_true]
 rw [page_builder_draw_eq]
 simp only [if_true]
 rfl
theorem addH_refined {o4 : Bool} {t dx dy k : Int} {w h : Nat} {p : List Int} {rw_ rh : Int} {rp : List Int} {i : Int} (ho : RefOk t dx dy k) (hb : Bmp (w : Int) (h : Int) p) (hr : Bmp rw_ rh rp) (hq : Bmp (w : Int) (h : Int) q) :
  page_builder_add n 5 1 [i] keep (refD o4 t dx dy k w h p rw_ rh rp) 1 (w : Int) (h : Int) q true false st ht [EntBitmap.mk i rw_ rh rp] = some (0, 1, (w : Int), (h : Int), p, true, false, st, ht, [EntBitmap.mk i rw_ rh rp]) := by
 obtain ⟨h0, h1, h2, h3, h4, h5, h6⟩ := id hb
 have hs : sidesB (w : Int) (h : Int) = true := sidesB_iff.2 ⟨h0, h1, h2, h3, h4⟩
 obtain ⟨o1, o2, o3, o4', o5, o6⟩ := id ho
 obtain ⟨g1, g2, g3⟩ := refC_ok (o4 := o4) ho hb hr
 have hdec := rdecode_is (o4 := o4) ho hb hr
 simp only [Int.toNat_natCast] at g3
 have q4 : h * (1 + w) ≤ 200 * 201 := Nat.mul_le_mul (by omega) (by omega)
 have lb : (begL w h 0 0 0).length ≤ 9 := begL_len
 have lx := (sizeL_len (signedN dx)).2
 have ly := (sizeL_len (signedN dy)).2
 obtain ⟨f1, f2, f3, f4⟩ := flagR_ok ho o4
 unfold refD
 generalize refC o4 t dx dy k (w : Int) (h : Int) p rw_ rh rp = code at hdec g3 ⊢
 generalize flagR t o4 k = fl at f1 f2 f3 f4 ⊢
 have hl : (begL w h 0 0 0 ++ [fl] ++ sizeL (signedN dx) ++ sizeL (signedN dy) ++ code : List Int).length = (begL w h 0 0 0).length + 1 + (sizeL (signedN dx)).length + (sizeL (signedN dy)).length + code.length := by simp only [List.length_append, List.length_singleton]
 have hA := Has.all (begL w h 0 0 0 ++ [fl] ++ sizeL (signedN dx) ++ sizeL (signedN dy) ++ code)
 obtain ⟨hA, k5⟩ := hA.app
 obtain ⟨hA, k4⟩ := hA.app
 obtain ⟨hA, k3⟩ := hA.app
 obtain ⟨k1, k2⟩ := hA.app
 simp only [Nat.zero_add, List.length_append, List.length_singleton] at k2 k3 k4
 have hrest : cutL (begL w h 0 0 0 ++ [fl] ++ sizeL (signedN dx) ++ sizeL (signedN dy) ++ code) ((begL w h 0 0 0).length + 1 + (sizeL (signedN dx)).length + (sizeL (signedN dy)).length) (begL w h 0 0 0 ++ [fl] ++ sizeL (signedN dx) ++ sizeL (signedN dy) ++ code).length = code := by
  unfold cutL
  rw [List.take_of_length_le (Nat.le_refl _)]
  exact List.drop_left' (by simp only [List.length_append, List.length_singleton])
 generalize hD : (begL w h 0 0 0 ++ [fl] ++ sizeL (signedN dx) ++ sizeL (signedN dy) ++ code : List Int) = D at k1 k2 k3 k4 hl hrest ⊢
 have hDl : D.length ≤ 100000000 := by omega
 rw [page_builder_add_eq, orderH_ok (by decide)]
 simp only [Option.bind_some, decide_true, Bool.not_true, Bool.false_eq_true, if_false, show ¬ ((5 : Int) = 0) by decide, show ¬ ((5 : Int) = 1) by decide, show ¬ ((5 : Int) = 2) by decide, show ¬ ((5 : Int) = 3) by decide, show ¬ ((5 : Int) = 4) by decide, decide_false, if_true]
 rw [page_builder_refined_eq, begin_read hs (by decide) (by decide) (by decide) k1 hDl]
 simp only [Option.bind_some]
 rw [cbyte_is (m := 7) (n := fl) (by omega) k2 hDl]
 simp only [Option.bind_some, f2, f3, f4]
 rw [csigned_is (by omega) k3 hDl]
 simp only [Option.bind_some]
 rw [csigned_is (by omega) k4 hDl]
 simp only [Option.bind_some, decide_true, Bool.not_true, Bool.false_eq_true, if_false, List.length_singleton, show ¬ (((1 : Nat) : Int) = 0) by decide, decide_false]
 have hfind : findM (fun (e : EntBitmap) => KV.int e.key) (KV.int (rd [i] 0)) [EntBitmap.mk i rw_ rh rp] = some (EntBitmap.mk i rw_ rh rp) := by
  simp only [findM]
  rw [if_pos (show KV.int i = KV.int (rd [i] 0) from rfl)]
 rw [if_pos (by decide)]
 simp only [hfind, Option.isSome_some, if_true, Option.getD_some, show (((1 : Nat) : Int) = 1) from rfl, decide_true, check_ok, Option.bind_some, Bool.not_true, Bool.false_eq_true, if_false, Sum.elim_inl]
 have hrs : page_cursor_rest D (((begL w h 0 0 0).length + 1 + (sizeL (signedN dx)).length + (sizeL (signedN dy)).length : Nat) : Int) 0 = some (code, D, (((begL w h 0 0 0).length + 1 + (sizeL (signedN dx)).length + (sizeL (signedN dy)).length : Nat) : Int), 0) := by
  rw [page_cursor_rest_eq, if_pos (by omega)]
  simp only [Int.toNat_natCast]
  rw [hrest]
 rw [hrs]
 simp only [Option.bind_some]
 rw [hdec]
 simp only [Option.bind_some, decide_true, check_ok, if_true]
 rw [page_builder_draw_eq]
 simp only [Bool.false_eq_true, if_false]
 rw [draw_all hq hb]
 rfl
end
/-- a segment without references -/
def sg0 (n k : Int) (d : List Int) : Segment := Segment.mk n k 1 [] [true] d
/-- a segment that refers to another one -/
def sg1 (n k i : Int) (d : List Int) : Segment := Segment.mk n k 1 [i] [true, true] d
theorem keep0 : law13_keep 0 = some [true] := by
 rw [law13_keep_eq, loop_done (a := [true])]
 ·rfl
 ·unfold law13_keep_loop3
  rfl
theorem sg0_is {n k : Int} {d : List Int} : law13_segment n k 1 [] d = some (n, k, 1, [], [true], d) := by
 rw [law13_segment_eq]
 simp only [List.length_nil]
 have : law13_keep ((0 : Nat) : Int) = some [true] := keep0
 rw [this]
 rfl
theorem sg1_is {n k i : Int} {d : List Int} : law13_segment n k 1 [i] d = some (n, k, 1, [i], [true, true], d) := by
 rw [law13_segment_eq]
 simp only [List.length_singleton]
 have : law13_keep ((1 : Nat) : Int) = some [true, true] := by
  have s1 : law13_keep_loop3 1 (0, [true]) = some (.inl (1, [true, true])) := by unfold law13_keep_loop3; rfl
  have s2 : law13_keep_loop3 1 (1, [true, true]) = some (.inr [true, true]) := by unfold law13_keep_loop3; rfl
  rw [law13_keep_eq]
  show (loop (law13_keep_loop3 1) (0, [true])).bind _ = _
  rw [loop_step s1, loop_done s2]
  rfl
 rw [this]
 rfl
/-! ### The order of segments -/
theorem takes0 {n k : Int} {d : List Int} {last : Int} {en : List Entint} (hn : 0 ≤ n ∧ n ≤ 1000) (hk : 0 ≤ k ∧ k ≤ 15) (hd : d.length ≤ 20000) (hl : last < n) :
  segment_store_takes n k 1 [] [true] d last en = some (true, putM (fun (e : Entint) => KV.int e.key) (Entint.mk n 1) en) := by
 rw [segment_store_takes_eq, segment_Valid_eq]
 have n1 : ¬ n < 0 := by omega
 have n2 : ¬ n > 10000 := by omega
 have n3 : ¬ k < 0 := by omega
 have n4 : ¬ k > 15 := by omega
 have n5 : ¬ ((d.length : Nat) : Int) > 20000 := by omega
 have n6 : ¬ n ≤ last := by omega
 have e1 : loop (segment_Valid_loop5 n []) (-1, 0) = some (.inl ()) := loop_done (by unfold segment_Valid_loop5; rfl)
 have e2 : loop (segment_store_takes_loop4 1 [] en) 0 = some (.inl ()) := loop_done (by unfold segment_store_takes_loop4; rfl)
 have e3 : loop (segment_store_takes_loop11 [] [true]) (0, en) = some en := loop_done (by unfold segment_store_takes_loop11; rfl)
 simp only [n1, n2, n3, n4, n5, decide_false, Bool.false_eq_true, if_false, List.length_nil, List.length_singleton, Option.bind_some, e1, Sum.elim_inl, Bool.not_true, n6, e2, e3]
 rfl
theorem takes1 {d : List Int} (hd : d.length ≤ 20000) :
  segment_store_takes 2 5 1 [1] [true, true] d 1 [Entint.mk 0 1, Entint.mk 1 1] = some (true, [Entint.mk 0 1, Entint.mk 1 1, Entint.mk 2 1]) := by
 rw [segment_store_takes_eq, segment_Valid_eq]
 have n5 : ¬ ((d.length : Nat) : Int) > 20000 := by omega
 have e1 : loop (segment_Valid_loop5 2 [1]) (-1, 0) = some (.inl ()) := by
  have s1 : segment_Valid_loop5 2 [1] (-1, 0) = some (.inl (1, 1)) := by unfold segment_Valid_loop5; rfl
  have s2 : segment_Valid_loop5 2 [1] (1, 1) = some (.inr (.inl ())) := by unfold segment_Valid_loop5; rfl
  rw [loop_step s1, loop_done s2]
 have e2 : loop (segment_store_takes_loop4 1 [1] [Entint.mk 0 1, Entint.mk 1 1]) 0 = some (.inl ()) := by
  have s1 : segment_store_takes_loop4 1 [1] [Entint.mk 0 1, Entint.mk 1 1] 0 = some (.inl 1) := by unfold segment_store_takes_loop4; rfl
  have s2 : segment_store_takes_loop4 1 [1] [Entint.mk 0 1, Entint.mk 1 1] 1 = some (.inr (.inl ())) := by unfold segment_store_takes_loop4; rfl
  rw [loop_step s1, loop_done s2]
 have e3 : loop (segment_store_takes_loop11 [1] [true, true]) (0, [Entint.mk 0 1, Entint.mk 1 1]) = some [Entint.mk 0 1, Entint.mk 1 1] := by
  have s1 : segment_store_takes_loop11 [1] [true, true] (0, [Entint.mk 0 1, Entint.mk 1 1]) = some (.inl (1, [Entint.mk 0 1, Entint.mk 1 1])) := by unfold segment_store_takes_loop11; rfl
  have s2 : segment_store_takes_loop11 [1] [true, true] (1, [Entint.mk 0 1, Entint.mk 1 1]) = some (.inr [Entint.mk 0 1, Entint.mk 1 1]) := by unfold segment_store_takes_loop11; rfl
  rw [loop_step s1, loop_done s2]
 have ev : ((if decide ((2 : Int) < 0) = true then some true else if decide ((2 : Int) > 10000) = true then some true else if decide ((5 : Int) < 0) = true then some true else if decide ((5 : Int) > 15) = true then some true else if decide ((1 : Int) < 0) = true then some true else if decide ((1 : Int) > 1000) = true then some true else if decide ((([1] : List Int).length : Int) > 20) = true then some true else if (!decide ((([true, true] : List Bool).length : Int) = IntKind.i64.wrap ((([1] : List Int).length : Int) + 1))) = true then some true else some (decide (((d.length : Nat) : Int) > 20000))) : Option Bool) = some false := by
  simp only [n5, decide_false]
  rfl
 simp only at ev ⊢
 rw [ev]
 simp only [Option.bind_some, Bool.false_eq_true, if_false, e1, Sum.elim_inl, Bool.not_true, show ¬ ((2 : Int) ≤ 1) by decide, decide_false, e2, e3]
 rfl
section
variable {I D R : List Int}
theorem inOrder2 (hI : I.length ≤ 20000) (hD : D.length ≤ 20000) : segment_InOrder [sg0 0 6 I, sg0 1 10 D] = some (-1, 0) := by
 have s0 : segment_order_loop4 [sg0 0 6 I, sg0 1 10 D] (-1, 0, []) = some (.inl (0, 1, [Entint.mk 0 1])) := by
  have h := takes0 (n := 0) (k := 6) (d := I) (last := -1) (en := []) (by decide) (by decide) hI (by decide)
  unfold segment_order_loop4
  show (if _ then (if _ then ((segment_store_takes 0 6 1 [] [true] I (-1) []).bind _) else none) else _) = _
  rw [h]
  rfl
 have s1 : segment_order_loop4 [sg0 0 6 I, sg0 1 10 D] (0, 1, [Entint.mk 0 1]) = some (.inl (1, 2, [Entint.mk 0 1, Entint.mk 1 1])) := by
  have h := takes0 (n := 1) (k := 10) (d := D) (last := 0) (en := [Entint.mk 0 1]) (by decide) (by decide) hD (by decide)
  unfold segment_order_loop4
  show (if _ then (if _ then ((segment_store_takes 1 10 1 [] [true] D 0 [Entint.mk 0 1]).bind _) else none) else _) = _
  rw [h]
  rfl
 have s2 : segment_order_loop4 [sg0 0 6 I, sg0 1 10 D] (1, 2, [Entint.mk 0 1, Entint.mk 1 1]) = some (.inr (.inl [Entint.mk 0 1, Entint.mk 1 1])) := by
  unfold segment_order_loop4
  rfl
 rw [segment_InOrder_eq, segment_order_eq, loop_step s0, loop_step s1, loop_done s2]
 rfl
theorem inOrder3 (hI : I.length ≤ 20000) (hD : D.length ≤ 20000) (hR : R.length ≤ 20000) : segment_InOrder [sg0 0 6 I, sg0 1 10 D, sg1 2 5 1 R] = some (-1, 0) := by
 have s0 : segment_order_loop4 [sg0 0 6 I, sg0 1 10 D, sg1 2 5 1 R] (-1, 0, []) = some (.inl (0, 1, [Entint.mk 0 1])) := by
  have h := takes0 (n := 0) (k := 6) (d := I) (last := -1) (en := []) (by decide) (by decide) hI (by decide)
  unfold segment_order_loop4
  show (if _ then (if _ then ((segment_store_takes 0 6 1 [] [true] I (-1) []).bind _) else none) else _) = _
  rw [h]
  rfl
 have s1 : segment_order_loop4 [sg0 0 6 I, sg0 1 10 D, sg1 2 5 1 R] (0, 1, [Entint.mk 0 1]) = some (.inl (1, 2, [Entint.mk 0 1, Entint.mk 1 1])) := by
  have h := takes0 (n := 1) (k := 10) (d := D) (last := 0) (en := [Entint.mk 0 1]) (by decide) (by decide) hD (by decide)
  unfold segment_order_loop4
  show (if _ then (if _ then ((segment_store_takes 1 10 1 [] [true] D 0 [Entint.mk 0 1]).bind _) else none) else _) = _
  rw [h]
  rfl
 have s2 : segment_order_loop4 [sg0 0 6 I, sg0 1 10 D, sg1 2 5 1 R] (1, 2, [Entint.mk 0 1, Entint.mk 1 1]) = some (.inl (2, 3, [Entint.mk 0 1, Entint.mk 1 1, Entint.mk 2 1])) := by
  have h := takes1 (d := R) hR
  unfold segment_order_loop4
  show (if _ then (if _ then ((segment_store_takes 2 5 1 [1] [true, true] R 1 [Entint.mk 0 1, Entint.mk 1 1]).bind _) else none) else _) = _
  rw [h]
  rfl
 have s3 : segment_order_loop4 [sg0 0 6 I, sg0 1 10 D, sg1 2 5 1 R] (2, 3, [Entint.mk 0 1, Entint.mk 1 1, Entint.mk 2 1]) = some (.inr (.inl [Entint.mk 0 1, Entint.mk 1 1, Entint.mk 2 1])) := by
  unfold segment_order_loop4
  rfl
 rw [segment_InOrder_eq, segment_order_eq, loop_step s0, loop_step s1, loop_step s2, loop_done s3]
 rfl
end
theorem height_0 {l : List Segment} (hl : l.length ≤ 1000) (h : ∀ s ∈ l, s.kind ≠ 7) {pg : Int} : page_height l pg = some 0 := by
 have key : ∀ m i : Nat, i + m = l.length → loop (page_height_loop3 l pg) (0, (i : Int)) = some 0 := by
  intro m
  induction m with
  | zero =>
   intro i hi
   refine loop_done ?_
   unfold page_height_loop3
   rw [if_neg (by simp; omega)]
  | succ m ih =>
   intro i hi
   have hg : l[i]? = some l[i] := List.getElem?_eq_getElem (by omega)
   have h7 := h l[i] (List.getElem_mem _)
   have hst : page_height_loop3 l pg (0, (i : Int)) = some (.inl (0, ((i + 1 : Nat) : Int))) := by
    unfold page_height_loop3
    simp only [iteD]
    rw [if_pos (by omega), if_pos (by omega), Int.toNat_natCast, hg]
    simp only [Option.bind_some, h7, decide_false, ite_self, Bool.false_eq_true, if_false]
    rw [w64 (n := (i : Int) + 1) (by omega)]
    rfl
   rw [loop_step hst, ih (i + 1) (by omega)]
 have hk := key l.length 0 (by omega)
 have hk' : loop (page_height_loop3 l pg) (0, 0) = some 0 := hk
 rw [page_height_eq, hk']
 rfl
theorem contains_ok {s : Segment} {l : List Segment} (hs : s.page = 1) (hl : l.length ≤ 1000) : slices_ContainsFunc_api_Segment_api_Segment (s :: l) 1 = some (true, 1) := by
 have e : loop (slices_IndexFunc_api_Segment_api_Segment_loop2 (s :: l)) (0, 1) = some (.inr (0, 1)) := by
  refine loop_done ?_
  unfold slices_IndexFunc_api_Segment_api_Segment_loop2
  simp only [iteD, List.length_cons]
  rw [if_pos (by omega), if_pos (by decide), show (s :: l)[(0 : Int).toNat]? = some s from rfl]
  simp only [Option.bind_some, page_Decode_1_eq, hs]
  rfl
 rw [slices_ContainsFunc_api_Segment_api_Segment_eq, slices_IndexFunc_api_Segment_api_Segment_eq, e]
 rfl
theorem dec_step {l : List Segment} {i : Nat} {s : Segment} (hg : l[i]? = some s) (hp : s.page = 1) (hl : l.length ≤ 1000) {n W H st t n' W' H' st' t' o1 o2 : Int} {q q' o3 : List Int} {b e b' e' : Bool} {en en' : List EntBitmap}
  (ha : page_builder_add s.number s.kind 1 s.refs s.keep s.data n W H q b e st t en = some (0, n', W', H', q', b', e', st', t', en')) :
  page_Decode_loop10 l 1 ((i : Int), o1, o2, en, n, W, H, q, b, e, st, t, o3) = some (.inl (((i + 1 : Nat) : Int), o1, o2, en', n', W', H', q', b', e', st', t', o3)) := by
 have hi := lt_len_of_get hg
 unfold page_Decode_loop10
 simp only [iteD]
 rw [if_pos (by omega), if_pos (by omega), Int.toNat_natCast, hg]
 simp only [Option.bind_some, hp, decide_true, Bool.not_true, Bool.false_eq_true, if_false]
 rw [ha]
 simp only [Option.bind_some, decide_true, Bool.not_true, Bool.false_eq_true, if_false]
 rw [w64 (n := (i : Int) + 1) (by omega)]
 rfl
theorem dec_end {l : List Segment} {n : Nat} (hn : l.length = n) {o1 o2 g W H st ht : Int} {q o3 : List Int} {b e : Bool} {en : List EntBitmap} :
  loop (page_Decode_loop10 l 1) ((n : Int), o1, o2, en, g, W, H, q, b, e, st, ht, o3) = some (.inl (o1, o2, en, g, W, H, q, b, e, st, ht, o3)) := by
 refine loop_done ?_
 unfold page_Decode_loop10
 simp only [iteD]
 rw [if_neg (by omega)]
theorem decodeH {s : Segment} {l : List Segment} (hs : s.page = 1) (hll : l.length ≤ 900) (h7 : ∀ x ∈ s :: l, x.kind ≠ 7) (ho : segment_InOrder (s :: l) = some (-1, 0)) {W H : Int} {r : List Int} {b e : Bool} {st ht : Int} {o3 : List Int} {o1 o2 n : Int} {en : List EntBitmap}
  (hl : loop (page_Decode_loop10 (s :: l) 1) (0, 0, 0, [], 1, 0, 0, [], false, false, (-1), 0, []) = some (.inl (o1, o2, en, n, W, H, r, b, e, st, ht, o3))) : page_Decode 1 (s :: l) = some (W, H, r, 0, 0, s :: l) := by
 rw [page_Decode_eq, ho]
 simp only [Option.bind_some, decide_true, Bool.not_true, Bool.false_eq_true, if_false, show ¬ ((1 : Int) < 1) by decide, show ¬ ((1 : Int) > 1000) by decide, decide_false]
 rw [contains_ok hs (by omega)]
 simp only [Option.bind_some, Bool.not_true, Bool.false_eq_true, if_false]
 rw [height_0 (by rw [List.length_cons]; omega) h7]
 simp only [Option.bind_some]
 rw [hl]
 rfl
theorem info_len {W H : Nat} {c : Int} : (sizeL W ++ sizeL (H + 1) ++ [c]).length ≤ 20000 := by
 have l1 := (sizeL_len W).2
 have l2 := (sizeL_len (H + 1)).2
 simp only [List.length_append, List.length_singleton]; omega
theorem blacks0 (w h : Int) : ∀ n : Nat, n ≤ 100000 → ref05_Blacks w h (List.replicate n 0) = some 0 := by
 intro n hn
 have key : ∀ m i : Nat, i + m = n → loop (ref05_Blacks_loop3 (List.replicate n 0)) (0, (i : Int)) = some 0 := by
  intro m
  induction m with
  | zero =>
   intro i hi
   refine loop_done ?_
   unfold ref05_Blacks_loop3
   simp only [iteD, List.length_replicate]
   rw [if_neg (by omega)]
  | succ m ih =>
   intro i hi
   have hr : rd (List.replicate n (0 : Int)) (i : Int) = 0 := by
    unfold rd
    simp [List.getD_eq_getElem?_getD, List.getElem?_replicate]
    split <;> rfl
   have hst : ref05_Blacks_loop3 (List.replicate n 0) (0, (i : Int)) = some (.inl (0, ((i + 1 : Nat) : Int))) := by
    unfold ref05_Blacks_loop3
    simp only [iteD, List.length_replicate, hr]
    rw [if_pos (by omega), if_pos (by omega), w64 (n := (i : Int) + 1) (by omega)]
    rfl
   rw [loop_step hst, ih (i + 1) (by omega)]
 have := key n 0 (by omega)
 rw [ref05_Blacks_eq]
 have h0 : loop (ref05_Blacks_loop3 (List.replicate n 0)) (0, 0) = some 0 := this
 rw [h0]
 rfl
theorem pageHides_true (a1 a2 : Int) (a3 : List Int) (a4 a5 : Int) (a6 : List Int) (a7 a8 a9 : Int) (a10 : Bool) (a11 : Int) (hg : GoodP E (.agg [.int .i64 a1, .int .i64 a2, .ints .u8 a3])) (hg2 : GoodP E (.agg [.int .i64 a4, .int .i64 a5, .ints .u8 a6]))
  (hg3 : GoodP E (.agg [.int .i64 a7, .int .i64 a8, .int .i64 a9, .bool a10, .int .i64 a11])) : law13_PageHides a1 a2 a3 a4 a5 a6 a7 a8 a9 a10 a11 = some true := by
 obtain ⟨_, _, g3, _⟩ := hg
 obtain ⟨gp, gl⟩ := good_u8 g3
 obtain ⟨_, _, g6, _⟩ := hg2
 obtain ⟨gp6, gl6⟩ := good_u8 g6
 rw [law13_PageHides_eq, Valid05_is gl, Valid05_is gl6]
 simp only [Option.bind_some, iteD, sane13]
 by_cases hv : bmpB a1 a2 a3 = true
 rotate_left
 ·rw [Bool.eq_false_iff.2 hv]; rfl
 by_cases hv6 : bmpB a4 a5 a6 = true
 rotate_left
 ·rw [hv, Bool.eq_false_iff.2 hv6]; rfl
 have hb := bmpB_of gp hv
 have hr := bmpB_of gp6 hv6
 rw [hv, hv6]
 simp only [Bool.not_true, Bool.false_eq_true, if_false]
 by_cases c1 : ((a3.length : Nat) : Int) > 500
 ·rw [if_pos c1]; rfl
 rw [if_neg c1]
 by_cases c2 : ((a6.length : Nat) : Int) > 500
 ·simp only [c2, decide_true, Option.bind_some, if_true]
 simp only [c2, decide_false, Option.bind_some, Bool.false_eq_true, if_false]
 obtain ⟨b0, b1, b2, b3, b4, b5, b6⟩ := id hb
 obtain ⟨W, rfl⟩ : ∃ W : Nat, a1 = (W : Int) := ⟨a1.toNat, by omega⟩
 obtain ⟨H, rfl⟩ : ∃ H : Nat, a2 = (H : Int) := ⟨a2.toNat, by omega⟩
 obtain ⟨r0, r1, r2, r3, r4, r5, r6⟩ := id hr
 obtain ⟨w, rfl⟩ : ∃ w : Nat, a4 = (w : Int) := ⟨a4.toNat, by omega⟩
 obtain ⟨h, rfl⟩ : ∃ h : Nat, a5 = (h : Int) := ⟨a5.toNat, by omega⟩
 have hs : sidesB (W : Int) (H : Int) = true := sidesB_iff.2 ⟨b0, b1, b2, b3, b4⟩
 have hsr : sidesB (w : Int) (h : Int) = true := sidesB_iff.2 ⟨r0, r1, r2, r3, r4⟩
 obtain ⟨code, used, e1, e2, e3, e4, e5⟩ := runsH_written hr (by omega)
 rw [infoP_written (.inl rfl) hs]
 simp only [Option.bind_some]
 rw [e1]
 simp only [Option.bind_some, decide_true, Bool.not_true, Bool.false_eq_true, if_false]
 have hI : (sizeL W ++ sizeL (H + 1) ++ [(0 : Int)]).length ≤ 20000 := info_len
 have hDl : (begL w h 0 0 11 ++ [0] ++ code).length ≤ 20000 := by
  have lb : (begL w h 0 0 11).length ≤ 9 := begL_len
  simp only [List.length_append, List.length_singleton]
  omega
 have a0 : ∀ {en}, page_builder_add 0 6 1 [] [true] (sizeL W ++ sizeL (H + 1) ++ [0]) 1 0 0 [] false false (-1) 0 en = _ := fun {en} => addH_info (n := 0) (keep := [true]) (st := -1) (ht := 0) (en := en) hs
 have a1' : page_builder_add 1 10 1 [] [true] (begL w h 0 0 11 ++ [0] ++ code) 1 (W : Int) (H : Int) (List.replicate ((W : Int) * (H : Int)).toNat 0) true false (-1) 0 [] = some (0, 1, (W : Int), (H : Int), List.replicate ((W : Int) * (H : Int)).toNat 0, true, false, -1, 0, [EntBitmap.mk 1 (w : Int) (h : Int) a6]) := addH_runs hsr e2 e3 e4 (by omega)
 generalize begL w h 0 0 11 ++ [0] ++ code = D at a1' hDl ⊢
 generalize sizeL W ++ sizeL (H + 1) ++ [(0 : Int)] = I at a0 hI ⊢
 have hm := mul_small b0 b1 b2 b3
 have p2 : page_Decode 1 [sg0 0 6 I, sg0 1 10 D] = some ((W : Int), (H : Int), List.replicate ((W : Int) * (H : Int)).toNat 0, 0, 0, [sg0 0 6 I, sg0 1 10 D]) := by
  have st0 := dec_step (l := [sg0 0 6 I, sg0 1 10 D]) (i := 0) (s := sg0 0 6 I) (o1 := 0) (o2 := 0) (o3 := []) rfl rfl (by simp) (a0 (en := []))
  have st1 := dec_step (l := [sg0 0 6 I, sg0 1 10 D]) (i := 1) (s := sg0 1 10 D) (o1 := 0) (o2 := 0) (o3 := []) rfl rfl (by simp) a1'
  exact decodeH rfl (by simp) (by simp [sg0]) (inOrder2 hI hDl) ((loop_step st0).trans ((loop_step st1).trans (dec_end rfl)))
 unfold sg0 at p2
 by_cases ho : RefOk a7 a8 a9 a11
 ·rw [ref_written ho hb hr]
  simp only [Option.bind_some]
  rw [sg0_is, sg0_is]
  simp only [Option.bind_some]
  rw [p2]
  simp only [Option.bind_some, decide_true, Bool.not_true, Bool.false_eq_true, if_false]
  rw [blacks0 _ _ _ (by omega)]
  simp only [Option.bind_some, decide_true, Bool.not_true, Bool.false_eq_true, if_false]
  rw [sg1_is]
  simp only [Option.bind_some, List.length_cons, List.length_nil]
  rw [if_pos (by decide)]
  obtain ⟨g1, g2, g3⟩ := refC_ok (o4 := a10) ho hb hr
  have hRl : (refD a10 a7 a8 a9 a11 W H a3 (w : Int) (h : Int) a6).length ≤ 20000 := by
   have lb : (begL W H 0 0 0).length ≤ 9 := begL_len
   have lx := (sizeL_len (signedN a8)).2
   have ly := (sizeL_len (signedN a9)).2
   simp only [Int.toNat_natCast] at g3
   have hwh : W * H ≤ 500 := by
    have : ((W * H : Nat) : Int) ≤ 500 := by rw [Int.natCast_mul, ← b5]; omega
    omega
   have q4 : H * (1 + W) = H + W * H := by rw [Nat.mul_add, Nat.mul_one, Nat.mul_comm]
   unfold refD
   simp only [List.length_append, List.length_singleton]
   omega
  have a2' := addH_refined (n := 2) (keep := [true, true]) (st := -1) (ht := 0) (i := 1) (o4 := a10) ho hb hr (blankP_bmp (.inl rfl) hs)
  generalize refD a10 a7 a8 a9 a11 W H a3 (w : Int) (h : Int) a6 = R at a2' hRl ⊢
  have p3 : page_Decode 1 [sg0 0 6 I, sg0 1 10 D, sg1 2 5 1 R] = some ((W : Int), (H : Int), a3, 0, 0, [sg0 0 6 I, sg0 1 10 D, sg1 2 5 1 R]) := by
   have st0 := dec_step (l := [sg0 0 6 I, sg0 1 10 D, sg1 2 5 1 R]) (i := 0) (s := sg0 0 6 I) (o1 := 0) (o2 := 0) (o3 := []) rfl rfl (by simp) (a0 (en := []))
   have st1 := dec_step (l := [sg0 0 6 I, sg0 1 10 D, sg1 2 5 1 R]) (i := 1) (s := sg0 1 10 D) (o1 := 0) (o2 := 0) (o3 := []) rfl rfl (by simp) a1'
   have st2 := dec_step (l := [sg0 0 6 I, sg0 1 10 D, sg1 2 5 1 R]) (i := 2) (s := sg1 2 5 1 R) (o1 := 0) (o2 := 0) (o3 := []) rfl rfl (by simp) a2'
   exact decodeH rfl (by simp) (by simp [sg0, sg1]) (inOrder3 hI hDl hRl) ((loop_step st0).trans ((loop_step st1).trans ((loop_step st2).trans (dec_end rfl))))
  unfold sg0 sg1 at p3
  simp only [List.cons_append, List.nil_append]
  rw [p3]
  simp only [Option.bind_some, decide_true, if_true, ref05_Same_eq]
 ·rw [ref_notWritten ho hb]
  simp only [Option.bind_some]
  rw [sg0_is, sg0_is]
  simp only [Option.bind_some]
  rw [p2]
  simp only [Option.bind_some, decide_true, Bool.not_true, Bool.false_eq_true, if_false]
  rw [blacks0 _ _ _ (by omega)]
  simp only [Option.bind_some, decide_true, decide_false, Bool.not_true, Bool.not_false, Bool.false_eq_true, if_false, if_true, show ¬ ((2 : Int) = 0) by decide]
end Go.Proofs.YtgffdmgidnnedaaGreat.P
