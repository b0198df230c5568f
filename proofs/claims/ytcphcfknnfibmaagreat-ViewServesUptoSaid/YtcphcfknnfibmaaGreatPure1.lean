/- Part of the proof of ViewServes: plain lemmas. -/
import Derived.Test.YtcphcfknnfibmaaGreatQs
import Derived.Test.YtcphcfknnfibmaaGreatF5
import Derived.Sort.LotA
import Derived.Sort.LotB
import Derived.Sort.LotC
import Derived.Sort.LotD1
import Derived.Sort.LotD3
open Go Go.IntKind Go.Proofs.YtcphcfknnfibmaaGreat.V
set_option linter.unusedVariables false
set_option linter.unusedSimpArgs false
set_option linter.unusedSectionVars false
set_option maxRecDepth 100000
namespace Go.Proofs.YtcphcfknnfibmaaGreat.P
def Both {α β : Type} (x : Option α) (y : Option β) (P : α -> β -> Prop) : Prop := ∃ a b, x = some a ∧ y = some b ∧ P a b
theorem Both.mk {α β : Type} {a : α} {b : β} {P : α -> β -> Prop} (h : P a b) : Both (some a) (some b) P := ⟨a, b, rfl, rfl, h⟩
theorem Both.bind {α β γ δ : Type} {x : Option α} {y : Option β} {P : α -> β -> Prop} {f : α -> Option γ} {g : β -> Option δ} {Q : γ -> δ -> Prop} (h : Both x y P) (k : ∀ a b, P a b -> Both (f a) (g b) Q) : Both (x.bind f) (y.bind g) Q := by
 obtain ⟨a, b, rfl, rfl, hp⟩ := h
 exact k a b hp
theorem Both.imp {α β : Type} {x : Option α} {y : Option β} {P Q : α -> β -> Prop} (h : Both x y P) (k : ∀ a b, P a b -> Q a b) : Both x y Q := by
 obtain ⟨a, b, h1, h2, hp⟩ := h
 exact ⟨a, b, h1, h2, k a b hp⟩
theorem Both.eq {α : Type} {x y : Option α} (h : Both x y Eq) : x = y := by
 obtain ⟨a, b, h1, h2, rfl⟩ := h
 rw [h1, h2]
def B820 {S S' A A' : Type} (R : S -> S' -> Prop) (Q : A -> A' -> Prop) : S ⊕ A -> S' ⊕ A' -> Prop
 | .inl s, .inl t => R s t
 | .inr a, .inr b => Q a b
 | _, _ => False
theorem Both.loop {S S' A A' : Type} {f : S -> Option (S ⊕ A)} {g : S' -> Option (S' ⊕ A')} (R : S -> S' -> Prop) (Q : A -> A' -> Prop) (m : S -> Nat)
  (h : ∀ s t, R s t -> Both (f s) (g t) (B820 (fun s' t' => R s' t' ∧ m s' < m s) Q)) : ∀ s t, R s t -> Both (V.loop f s) (V.loop g t) Q := by
 refine B867 R Q m fun s t hr => ?_
 obtain ⟨a, b, h1, h2, hp⟩ := h s t hr
 cases a with
 | inl s' =>
  cases b with
  | inl t' => exact .inl ⟨s', t', h1, h2, hp.1, hp.2⟩
  | inr _ => exact hp.elim
 | inr a =>
  cases b with
  | inl _ => exact hp.elim
  | inr b => exact .inr ⟨a, b, h1, h2, hp⟩
theorem B751 {X S S' A A' : Type} {f : Nat -> X -> S -> Option (S ⊕ A)} {g : Nat -> X -> S' -> Option (S' ⊕ A')} {fin : S -> Option A} {fin' : S' -> Option A'} (R : Nat -> S -> S' -> Prop) (Q : A -> A' -> Prop) :
  ∀ (l : List X) (n : Nat) (s : S) (t : S'), (∀ k x s t, l[k]? = some x -> R (n + k) s t -> Both (f (n + k) x s) (g (n + k) x t) (B820 (R (n + k + 1)) Q)) -> (∀ s t, R (n + l.length) s t -> Both (fin s) (fin' t) Q) ->
   R n s t -> Both (overL f fin n l s) (overL g fin' n l t) Q
 | [], n, s, t, _, hf, hr => by rw [B285, B285]; exact hf s t hr
 | x :: l, n, s, t, h, hf, hr => by
  obtain ⟨a, b, h1, h2, hp⟩ := h 0 x s t rfl hr
  rw [A38] at h1 h2 hp
  cases a with
  | inl s' =>
   cases b with
   | inl t' =>
    rw [B34 h1, B34 h2]
    refine B751 R Q l (n + 1) s' t' (fun k x s t hk hr => ?_) (fun s t hr => hf s t (by rw [A25]; rwa [show n + (l.length + 1) = n + 1 + l.length by omega])) hp
    have := h (k + 1) x s t (by simpa using hk) (by rwa [show n + (k + 1) = n + 1 + k by omega])
    rwa [show n + (k + 1) = n + 1 + k by omega] at this
   | inr b => exact hp.elim
  | inr a =>
   cases b with
   | inl _ => exact hp.elim
   | inr b => rw [B118 h1, B118 h2]; exact .mk hp
theorem B279 {X S A : Type} {f : Nat -> X -> S -> Option (S ⊕ A)} {fin : S -> Option A} (F : Nat -> S) : ∀ (l : List X) (n : Nat), (∀ k x, l[k]? = some x -> f (n + k) x (F (n + k)) = some (.inl (F (n + k + 1)))) -> overL f fin n l (F n) = fin (F (n + l.length))
 | [], n, _ => by rw [B285]; rfl
 | x :: l, n, h => by
  have h0 := h 0 x rfl
  rw [A38] at h0
  rw [B34 h0, B279 F l (n + 1) (fun k x hk => ?_), A25, show n + (l.length + 1) = n + 1 + l.length by omega]
  have := h (k + 1) x (by simpa using hk)
  rwa [show n + (k + 1) = n + 1 + k by omega] at this
theorem B972 {b : Bool} {p : Prop} [Decidable p] (h : b = true ↔ p) : some b = some (decide p) := by
 congr 1
 cases b <;> simp_all
theorem rd_mem {l : List Int} {i : Int} (h0 : 0 <= i) (h1 : i < (l.length : Int)) : rd l i ∈ l := A44 (B253 h0 h1)
theorem B801 {X A : Type} (P : X -> Bool) {step : Nat -> X -> Unit -> Option (Unit ⊕ A)} {fin : Unit -> Option A} {a : A} (h : ∀ n x, step n x () = if P x = true then some (.inl ()) else some (.inr a)) :
  ∀ (l : List X) (n : Nat), overL step fin n l () = if l.all P = true then fin () else some a
 | [], n => by simp [B285]
 | x :: l, n => by
  by_cases hx : P x = true
  ·rw [B34 (s' := ()) (by rw [h, A6 hx]), B801 P h l (n + 1)]
   simp [hx]
  ·rw [B118 (a := a) (by rw [h, A9 hx])]
   simp [hx]
theorem B746 {X A : Type} {P : Nat -> X -> Prop} {step : Nat -> X -> Unit -> Option (Unit ⊕ A)} {fin : Unit -> Option A} {a : A} : ∀ (l : List X) (n : Nat),
  (∀ k x, l[k]? = some x -> P (n + k) x ∧ step (n + k) x () = some (.inl ()) ∨ ¬ P (n + k) x ∧ step (n + k) x () = some (.inr a)) ->
  (∀ k x, l[k]? = some x -> P (n + k) x) ∧ overL step fin n l () = fin () ∨ (¬ ∀ k x, l[k]? = some x -> P (n + k) x) ∧ overL step fin n l () = some a
 | [], n, _ => .inl ⟨fun k x h => by simp at h, rfl⟩
 | x :: l, n, h => by
  have h0 := h 0 x rfl
  rw [A38] at h0
  rcases h0 with ⟨h1, h2⟩ | ⟨h1, h2⟩
  ·rw [B34 h2]
   rcases B746 l (n + 1) (fun k y hk => by have := h (k + 1) y (by simpa using hk); rwa [show n + (k + 1) = n + 1 + k by omega] at this) with ⟨g1, g2⟩ | ⟨g1, g2⟩
   ·refine .inl ⟨fun k y hk => ?_, g2⟩
    cases k with
    | zero => simp at hk; subst hk; rw [A38]; exact h1
    | succ k => have := g1 k y (by simpa using hk); rwa [show n + 1 + k = n + (k + 1) by omega] at this
   ·refine .inr ⟨fun q => g1 fun k y hk => ?_, g2⟩
    have := q (k + 1) y (by simpa using hk)
    rwa [show n + (k + 1) = n + 1 + k by omega] at this
  ·exact .inr ⟨fun q => h1 (by simpa using q 0 x rfl), B118 h2⟩
theorem B721 {X S : Type} {step : Nat -> X -> S -> Option (S ⊕ S)} (P : Nat -> S -> Prop) : ∀ (l : List X) (n : Nat) (s : S), P n s -> (∀ k x s, l[k]? = some x -> P (n + k) s -> ∃ s', step (n + k) x s = some (.inl s') ∧ P (n + k + 1) s') ->
  ∃ s', overL step (fun s => some s) n l s = some s' ∧ P (n + l.length) s'
 | [], n, s, h, _ => ⟨s, rfl, h⟩
 | x :: l, n, s, h, hs => by
  obtain ⟨s', h1, h2⟩ := hs 0 x s rfl h
  rw [A38] at h1 h2
  obtain ⟨r, h3, h4⟩ := B721 P l (n + 1) s' h2 (fun k y t hk ht => by
   have := hs (k + 1) y t (by simpa using hk) (by rwa [show n + (k + 1) = n + 1 + k by omega])
   rwa [show n + (k + 1) = n + 1 + k by omega] at this)
  rw [B34 h1]
  exact ⟨r, h3, by rw [A25, show n + (l.length + 1) = n + 1 + l.length by omega]; exact h4⟩
theorem B724 {X S : Type} {step : Nat -> X -> S -> Option (S ⊕ S)} (h : ∀ n x s, ∃ s', step n x s = some (.inl s')) : ∀ (l : List X) (n : Nat) (s : S), ∃ r, overL step (fun s => some s) n l s = some r
 | [], n, s => ⟨s, rfl⟩
 | x :: l, n, s => by
  obtain ⟨s', h1⟩ := h n x s
  rw [B34 h1]
  exact B724 h l (n + 1) s'
def QL : List Int := [2048, 1792, 1568, 1372, 1201, 1051, 920, 805, 705, 617, 540, 473, 414, 363, 318, 279, 245, 215, 189, 166, 146, 128, 112, 98, 86, 76, 67, 59, 52, 46, 41, 36]
theorem B934 : ∀ i : Fin 31, i64.wrap (rd QL ((i : Nat) : Int) - i64.wrap ((rd QL ((i : Nat) : Int)).tdiv 8)) = rd QL (((i : Nat) + 1 : Nat) : Int) := by decide +kernel
theorem B832 : ∀ i : Fin 32, 36 <= rd QL ((i : Nat) : Int) ∧ rd QL ((i : Nat) : Int) <= 2048 := by decide +kernel
theorem B362 {k : Nat} (hk : k < 32) : ∀ (d i : Nat), i + d = k -> loop (Z193l3 (k : Int)) (rd QL (i : Int), (i : Int)) = some (rd QL (k : Int))
 | 0, i, h => by
  have : i = k := by omega
  subst this
  refine B4 ?_
  unfold Z193l3
  simp
 | d + 1, i, h => by
  have hq := B934 ⟨i, by omega⟩
  simp only at hq
  rw [B6 (s' := (rd QL ((i + 1 : Nat) : Int), ((i + 1 : Nat) : Int)))]
  ·exact B362 hk d (i + 1) (by omega)
  ·unfold Z193l3
   have h1 : (i : Int) < (k : Int) := by omega
   simp only [h1, A7, A5, hq]
   rw [w64 (by omega)]; rfl
theorem B445 {k : Int} (h0 : 0 <= k) (h1 : k < 32) : Z193 k = some (rd QL k) := by
 obtain ⟨n, rfl⟩ := A101 h0
 rw [Z193_eq]
 have := B362 (k := n) (by omega) n 0 (by omega)
 have h2 : rd QL ((0 : Nat) : Int) = 2048 := by decide
 rw [h2] at this
 rw [show ((0 : Nat) : Int) = 0 from rfl] at this
 rw [this]; rfl
def B86 (kind s : Int) : Prop := (kind = 0 ∧ 0 <= s ∧ s < 64) ∨ (kind = 1 ∧ 0 <= s ∧ s < 65536)
theorem B813 {kind s : Int} (h : B86 kind s) : Z173 kind s = Z184 kind s := by
 rw [Z173_eq, Z173_b, Z184_eq]
 rcases h with ⟨rfl, h0, h1⟩ | ⟨rfl, h0, h1⟩
 ·simp only [B31 h0]
  simp only [show ¬ ((0 : Int) = 1) by decide, A7, A8, A4, A5, A3]
  rw [B445 (by omega) (by omega)]
  by_cases h2 : s < 32
  ·have h3 : ¬ s ≥ 32 := by omega
   have h4 : s % 32 = s := by omega
   have h5 : s < ((32 : Nat) : Int) := by omega
   simp only [h2, h3, h4, h5, h0, A7, A8, A4, A5, A3, A22, A1]
   rfl
  ·have h3 : s ≥ 32 := by omega
   have h4 : s % 32 = s - 32 := by omega
   rw [w64 (n := s - 32) (by omega)]
   have h5 : 0 <= s - 32 := by omega
   have h6 : s - 32 < ((32 : Nat) : Int) := by omega
   simp only [h2, h3, h4, h5, h6, A7, A8, A4, A5, A3, A22, A1]
   rfl
 ·simp only [show ¬ ((1 : Int) = 0) by decide, A7, A8, A4, A5, A3]
theorem B703 {kind s bit : Int} (h : B86 kind s) (hb : bit = 0 ∨ bit = 1) : Z174 kind s bit = Z186 kind s bit := by
 rw [Z174_eq, Z174_b, Z186_eq]
 rcases h with ⟨rfl, h0, h1⟩ | ⟨rfl, h0, h1⟩
 ·simp only [B31 h0, B30 h0]
  simp only [show ¬ ((0 : Int) = 1) by decide, A7, A8, A4, A5, A3]
  by_cases h2 : bit = i64.wrap (s / 32)
  ·simp only [h2, A7, A5]
  ·simp only [h2, A8, A4, A3]
   by_cases h3 : s % 32 = 0
   ·simp only [h3, A7, A5]
    rw [w64 (n := 32 * bit) (by omega), Int.add_zero, w64 (by omega)]
   ·simp only [h3, A8, A4, A3]
    rw [B30 (by omega)]
    simp only [w64s]
    congr 1
    omega
 ·simp only [show ¬ ((1 : Int) = 0) by decide, A7, A8, A4, A5, A3]
theorem B502 (n : Int) : ishr .u64 n 24 = n / 16777216 := by
 unfold ishr
 rw [show (2 : Int) ^ (min (24 : Int).toNat IntKind.u64.bits) = 16777216 by decide, A103 _ (by decide)]
theorem ushl8 {n : Int} (h0 : 0 <= n) (h1 : n < 4294967296) : ishl .u64 n 8 = n * 256 := by
 unfold ishl
 rw [show (2 : Int) ^ (min (8 : Int).toNat IntKind.u64.bits) = 256 by decide, wu64]
 omega
theorem ubv (m : Nat) : BitVec.ofInt 64 (m : Int) = BitVec.ofNat 64 m := by simp
theorem B778 {n : Int} (h0 : 0 <= n) (h1 : n < 18446744073709551616) : iand .u64 n 4294967295 = n % 4294967296 := by
 obtain ⟨m, rfl⟩ := A101 h0
 unfold iand
 rw [show IntKind.u64.bits = 64 from rfl, show (4294967295 : Int) = ((4294967295 : Nat) : Int) from rfl, ubv, ubv, BitVec.toNat_and, BitVec.toNat_ofNat, BitVec.toNat_ofNat, wu64]
 rw [A90 (show m < 2 ^ 64 by omega), show (4294967295 : Nat) % 2 ^ 64 = 2 ^ 32 - 1 by decide, Nat.and_two_pow_sub_one_eq_mod]
 omega
theorem B941 {n : Int} (h0 : 0 <= n) (h1 : n < 18446744073709551616) (h : n % 256 = 0) : ior .u64 n 255 = n + 255 := by
 obtain ⟨m, rfl⟩ := A101 h0
 unfold ior
 rw [show IntKind.u64.bits = 64 from rfl, show (255 : Int) = ((255 : Nat) : Int) from rfl, ubv, ubv, BitVec.toNat_or, BitVec.toNat_ofNat, BitVec.toNat_ofNat, wu64]
 rw [A90 (show m < 2 ^ 64 by omega), show (255 : Nat) % 2 ^ 64 = 255 by decide]
 obtain ⟨k, hk⟩ : ∃ k, m = 2 ^ 8 * k := ⟨m / 256, by omega⟩
 subst hk
 rw [← Nat.two_pow_add_eq_or_of_lt (show 255 < 2 ^ 8 by decide)]
 omega
def Iv (lo hi : Int) : Prop := 0 <= lo ∧ lo <= hi ∧ hi < 4294967296
theorem B908 {kind lo hi : Int} {st out : List Int} (h : Iv lo hi) : Z181 kind lo hi st out = some (lo / 16777216, kind, lo % 16777216 * 256, hi % 16777216 * 256 + 255, st, out) := by
 obtain ⟨h0, h1, h2⟩ := h
 rw [Z181_eq, Z181_b]
 try simp only
 rw [B502, ushl8 h0 (by omega), ushl8 (by omega) h2, B778 (by omega) (by omega), B778 (by omega) (by omega), B941 (by omega) (by omega) (by omega), w8]
 congr 2
 ·omega
 ·congr 1
  congr 1
  ·omega
  ·congr 1
   omega
theorem B742 {lo hi : Int} (h : Iv lo hi) : Z188 lo hi = some (lo % 16777216 * 256, hi % 16777216 * 256 + 255) := by
 obtain ⟨h0, h1, h2⟩ := h
 rw [Z188_eq]
 simp only [B31 h0, B31 (show (0 : Int) <= hi by omega), wu64]
 congr 2 <;> omega
theorem B457 {lo hi : Int} : Z187 lo hi = some (decide (lo / 16777216 = hi / 16777216)) := by
 rw [Z187_eq]
 simp only [B502]
def midV (lo hi p : Int) : Int := lo + (hi - lo) / 4096 * p + (hi - lo) % 4096 * p / 4096
theorem B538 {lo hi p : Int} (h : lo <= hi) (hp : 0 <= p) : lo <= midV lo hi p := by
 unfold midV
 have h1 : 0 <= (hi - lo) / 4096 * p := Int.mul_nonneg (by omega) hp
 have h2 : 0 <= (hi - lo) % 4096 * p := Int.mul_nonneg (by omega) hp
 omega
theorem B546 {lo hi p : Int} (h : lo < hi) (hp : 0 <= p) (hp2 : p < 4096) : midV lo hi p < hi := by
 unfold midV
 have h1 : (hi - lo) / 4096 * p <= (hi - lo) / 4096 * 4095 := A123 (by omega) (by omega)
 have h2 : (hi - lo) % 4096 * p <= (hi - lo) % 4096 * 4095 := A123 (by omega) (by omega)
 omega
theorem B581 {lo hi p : Int} (h : Iv lo hi) (hp : 0 <= p) (hp2 : p < 4096) : Z194 lo hi p = some (midV lo hi p) := by
 obtain ⟨h0, h1, h2⟩ := h
 have a1 : 0 <= (hi - lo) / 4096 * p := Int.mul_nonneg (by omega) hp
 have a2 : (hi - lo) / 4096 * p <= (hi - lo) / 4096 * 4095 := A123 (by omega) (by omega)
 have a3 : 0 <= (hi - lo) % 4096 * p := Int.mul_nonneg (by omega) hp
 have a4 : (hi - lo) % 4096 * p <= (hi - lo) % 4096 * 4095 := A123 (by omega) (by omega)
 rw [Z194_eq]
 unfold midV
 simp only [wu64, show (hi - lo) % 18446744073709551616 = hi - lo by omega, B30 (show 0 <= hi - lo by omega), B31 (show 0 <= hi - lo by omega), show p % 18446744073709551616 = p by omega,
  show (hi - lo) / 4096 % 18446744073709551616 = (hi - lo) / 4096 by omega]
 rw [show (hi - lo) % 4096 * p % 18446744073709551616 = (hi - lo) % 4096 * p by omega, B30 a3]
 congr 1
 omega
theorem B936 {lo hi p bit : Int} (h : Iv lo hi) (hp : 0 <= p) (hp2 : p < 4096) : Z185 lo hi p bit = some (if bit = 1 then (lo, midV lo hi p) else (midV lo hi p + 1, hi)) := by
 have hm := B538 h.2.1 hp
 have hm2 : midV lo hi p <= hi := by
  rcases Int.lt_or_le lo hi with h1 | h1
  ·have := B546 h1 hp hp2; omega
  ·have : hi = lo := by have := h.2.1; omega
   subst this
   unfold midV; simp
 have h2 := h.2.2
 have h0 := h.1
 rw [Z185_eq, B581 h hp hp2]
 by_cases hb : bit = 1
 ·simp only [hb, A7, A5, A1]
 ·simp only [hb, A8, A4, A3, A1, wu64]
  congr 2
  omega
theorem B945 {ctx kind lo hi p : Int} {st out : List Int} (h : Iv lo hi) (hc : 0 <= ctx ∧ ctx < (st.length : Int)) (hq : Z184 kind (rd st ctx) = some p) (hs : B86 kind (rd st ctx)) (hp : 0 <= p) (hp2 : p < 4096) :
  Z178 ctx kind lo hi st out = some (midV lo hi p, kind, lo, hi, st, out) := by
 have hr := B581 h hp hp2
 rw [Z194_eq] at hr
 have hr := Option.some.inj hr
 rw [Z178_eq, Z178_b]
 simp only [hc, A22, A5, B813 hs, hq, A1]
 rw [hr]
theorem B806 {kind s : Int} (h : B86 kind s) : ∃ p, Z184 kind s = some p ∧ 0 <= p ∧ p < 4096 := by
 rw [Z184_eq]
 rcases h with ⟨rfl, h0, h1⟩ | ⟨rfl, h0, h1⟩
 ·simp only [B31 h0, A7, A5]
  rw [B445 (by omega) (by omega)]
  have hr := B832 ⟨(s % 32).toNat, by omega⟩
  simp only [show (((s % 32).toNat : Nat) : Int) = s % 32 by omega] at hr
  by_cases h2 : s < 32
  ·simp only [h2, A7, A5, A1]
   exact ⟨_, rfl, by omega, by omega⟩
  ·simp only [h2, A8, A4, A3, A1]
   exact ⟨_, rfl, by rw [w64 (by omega)]; omega, by rw [w64 (by omega)]; omega⟩
 ·simp only [B31 h0, B30 h0, show ¬ ((1 : Int) = 0) by decide, A8, A4, A3]
  have e1 : i64.wrap (s / 256) = s / 256 := w64 (by omega)
  have e2 : i64.wrap (2 * (s % 256)) = 2 * (s % 256) := w64 (by omega)
  have e3 : i64.wrap (2 * (s / 256)) = 2 * (s / 256) := w64 (by omega)
  rw [e1, e2, e3, w64 (n := 2 * (s / 256) + 2 * (s % 256)) (by omega), w64 (n := 2 * (s / 256) + 2 * (s % 256) + 2) (by omega), A9 (by omega)]
  refine ⟨_, rfl, ?_, ?_⟩ <;> rw [B413, B412] <;> omega
theorem B905 {ctx bit mid kind lo hi : Int} {st out : List Int} (hb : bit = 0 ∨ bit = 1) (hc : 0 <= ctx ∧ ctx < (st.length : Int)) (hs : B86 kind (rd st ctx)) (hm : 0 <= mid ∧ mid < 4294967296) :
  Z179 ctx bit mid kind lo hi st out = (Z186 kind (rd st ctx) bit).bind fun s => some (if bit = 1 then (kind, lo, mid, st.set ctx.toNat s, out) else (kind, mid + 1, hi, st.set ctx.toNat s, out)) := by
 rw [Z179_eq, Z179_b]
 have hw : u64.wrap (mid + 1) = mid + 1 := by rw [wu64]; omega
 by_cases h1 : bit = 1
 ·simp only [h1, A7, A5, A1, hc, A22]
  rw [B703 hs (.inr rfl)]
 ·simp only [h1, A8, A4, A3, A1, hc, A22, A5, hw]
  rw [B703 hs hb]
theorem B842 {kind s bit : Int} (h : B86 kind s) (hb : bit = 0 ∨ bit = 1) : ∃ s', Z186 kind s bit = some s' ∧ B86 kind s' := by
 rw [Z186_eq]
 rcases h with ⟨rfl, h0, h1⟩ | ⟨rfl, h0, h1⟩
 ·simp only [B31 h0, B30 h0, A7, A5]
  rw [B30 (show 0 <= s % 32 by omega)]
  have e1 : i64.wrap (s / 32) = s / 32 := w64 (by omega)
  simp only [e1]
  by_cases h2 : bit = s / 32
  ·simp only [h2, A7, A5]
   refine ⟨_, rfl, .inl ⟨rfl, ?_⟩⟩
   rw [w64 (n := 32 * (s / 32)) (by omega), w64 (n := s % 32 + 1) (by omega), B413, w64 (by omega)]
   omega
  ·simp only [h2, A8, A4, A3]
   by_cases h3 : s % 32 = 0
   ·simp only [h3, A7, A5]
    exact ⟨_, rfl, .inl ⟨rfl, by rw [w64 (by omega)]; omega⟩⟩
   ·simp only [h3, A8, A4, A3]
    refine ⟨_, rfl, .inl ⟨rfl, ?_⟩⟩
    rw [w64 (n := 32 * (s / 32)) (by omega), w64 (n := 32 * (s / 32) + s % 32) (by omega), w64 (n := 32 * (s / 32) + s % 32 - 1) (by omega), w64 (n := s % 32 / 4) (by omega), w64 (by omega)]
    omega
 ·simp only [B31 h0, B30 h0, show ¬ ((1 : Int) = 0) by decide, A8, A4, A3]
  have e1 : i64.wrap (s / 256) = s / 256 := w64 (by omega)
  have e2 : i64.wrap ((s / 256).tdiv 2) = s / 256 / 2 := by rw [B30 (by omega), w64 (by omega)]
  have e3 : i64.wrap ((s % 256).tdiv 2) = s % 256 / 2 := by rw [B30 (by omega), w64 (by omega)]
  have c0 : 0 <= (0 : Int) ∧ (0 : Int) < ((2 : Nat) : Int) := by decide
  have c1 : 0 <= (1 : Int) ∧ (1 : Int) < ((2 : Nat) : Int) := by decide
  have r0 : ∀ a b : Int, rd [a, b] 0 = a := fun a b => rfl
  have r1 : ∀ a b : Int, rd [a, b] 1 = b := fun a b => rfl
  rcases hb with rfl | rfl
  ·simp only [c0, c1, A22, A5, e1, e2, e3, r0]
   by_cases h2 : s / 256 = 255
   ·simp only [h2, A7, A5, A1, r0]
    refine ⟨_, rfl, .inr ⟨rfl, ?_⟩⟩
    simp only [show ¬ ((0 : Int) = 1) by decide, A3, w64s]
    omega
   ·simp only [h2, A8, A4, A3, A1, r0]
    refine ⟨_, rfl, .inr ⟨rfl, ?_⟩⟩
    simp only [show ¬ ((0 : Int) = 1) by decide, A3, A5, w64s]
    omega
  ·simp only [c0, c1, A22, A5, e1, e2, e3, r1]
   by_cases h2 : s % 256 = 255
   ·simp only [h2, A7, A5, A1, r1]
    refine ⟨_, rfl, .inr ⟨rfl, ?_⟩⟩
    simp only [show ¬ ((1 : Int) = 0) by decide, A3, A5, w64s]
    omega
   ·simp only [h2, A8, A4, A3, A1, r1]
    refine ⟨_, rfl, .inr ⟨rfl, ?_⟩⟩
    simp only [show ¬ ((1 : Int) = 0) by decide, A3, A5, w64s]
    omega
def flush : Nat -> Int -> Int -> List Int -> Int × Int × List Int
 | 0, lo, hi, out => (lo, hi, out)
 | n + 1, lo, hi, out => if lo / 16777216 = hi / 16777216 then flush n (lo % 16777216 * 256) (hi % 16777216 * 256 + 255) (out ++ [hi / 16777216]) else (lo, hi, out)
def gapOf : Nat -> Int
 | 0 => 4294967295
 | 1 => 16777215
 | 2 => 65535
 | 3 => 255
 | _ => 0
theorem B463 {n : Nat} {d : Int} (h : gapOf (n + 1) <= d) (h0 : 0 <= d) : gapOf n <= 256 * d + 255 := by
 match n with
 | 0 => simp only [gapOf] at h ⊢; omega
 | 1 => simp only [gapOf] at h ⊢; omega
 | 2 => simp only [gapOf] at h ⊢; omega
 | 3 => simp only [gapOf] at h ⊢; omega
 | n + 4 => simp only [gapOf]; omega
theorem Iv.shift {lo hi : Int} (h : Iv lo hi) (e : lo / 16777216 = hi / 16777216) : Iv (lo % 16777216 * 256) (hi % 16777216 * 256 + 255) ∧ hi % 16777216 * 256 + 255 - lo % 16777216 * 256 = 256 * (hi - lo) + 255 := by
 obtain ⟨h0, h1, h2⟩ := h
 exact ⟨⟨by omega, by omega, by omega⟩, by omega⟩
theorem B421 {kind : Int} {st : List Int} : ∀ (n : Nat) (lo hi : Int) (out : List Int), Iv lo hi -> gapOf n <= hi - lo -> out.length + n <= 140737488355328 ->
  loop Z171l8 (kind, lo, hi, st, out) = some (kind, (flush n lo hi out).1, (flush n lo hi out).2.1, st, (flush n lo hi out).2.2)
 | 0, lo, hi, out, h, hg, hl => by
  refine B4 ?_
  unfold Z171l8
  simp only [B457, A1]
  simp only [gapOf] at hg
  have hne : ¬ lo / 16777216 = hi / 16777216 := by obtain ⟨h0, h1, h2⟩ := h; omega
  simp only [hne, A8, A4, A3, flush]
 | n + 1, lo, hi, out, h, hg, hl => by
  by_cases e : lo / 16777216 = hi / 16777216
  ·obtain ⟨h1, h2⟩ := h.shift e
   rw [B6 (s' := (kind, lo % 16777216 * 256, hi % 16777216 * 256 + 255, st, out ++ [hi / 16777216]))]
   ·rw [B421 n _ _ _ h1 (by rw [h2]; exact B463 hg (by have := h.2.1; omega)) (by simp; omega)]
    simp only [flush, e, A5]
   ·have hb : u8.wrap (hi / 16777216) = hi / 16777216 := by obtain ⟨q0, q1, q2⟩ := h; rw [w8]; omega
    unfold Z171l8
    simp only [B457, A1, B502, hb, B742 h]
    simp only [e, A7, A5, A29]
    rw [A6 (by omega)]
  ·refine B4 ?_
   unfold Z171l8
   simp only [B457, A1]
   simp only [e, A8, A4, A3, flush]
theorem B668 : ∀ (n : Nat) (lo hi : Int) (out : List Int), Iv lo hi -> gapOf n <= hi - lo -> Iv (flush n lo hi out).1 (flush n lo hi out).2.1 ∧ (flush n lo hi out).1 / 16777216 ≠ (flush n lo hi out).2.1 / 16777216 ∧ (flush n lo hi out).2.2.length <= out.length + n ∧ out.length <= (flush n lo hi out).2.2.length
 | 0, lo, hi, out, h, hg => by
  simp only [gapOf] at hg
  refine ⟨h, ?_, A11 _, A11 _⟩
  show lo / 16777216 ≠ hi / 16777216
  obtain ⟨h0, h1, h2⟩ := h
  omega
 | n + 1, lo, hi, out, h, hg => by
  by_cases e : lo / 16777216 = hi / 16777216
  ·obtain ⟨h1, h2⟩ := h.shift e
   have := B668 n _ _ (out ++ [hi / 16777216]) h1 (by rw [h2]; exact B463 hg (by have := h.2.1; omega))
   simp only [flush, e, A5]
   simp only [A16, A29] at this
   exact ⟨this.1, this.2.1, by omega, by omega⟩
  ·simp only [flush, e, A3]
   exact ⟨h, e, by omega, A11 _⟩
structure EncOk (kind lo hi : Int) (st : List Int) : Prop where
 two : kind = 0 ∨ kind = 1
 iv : Iv lo hi
 open_ : lo / 16777216 ≠ hi / 16777216
 states : ∀ s ∈ st, B86 kind s
theorem B799 {ctx bit kind lo hi : Int} {st out : List Int} (h : EncOk kind lo hi st) (hc : 0 <= ctx ∧ ctx < (st.length : Int)) (hb : bit = 0 ∨ bit = 1) (hl : out.length + 4 <= 140737488355328) :
  ∃ p s lo1 hi1, Z184 kind (rd st ctx) = some p ∧ 0 <= p ∧ p < 4096 ∧ Z186 kind (rd st ctx) bit = some s ∧ B86 kind s ∧ (lo1, hi1) = (if bit = 1 then (lo, midV lo hi p) else (midV lo hi p + 1, hi)) ∧ Iv lo1 hi1 ∧
   Z171 ctx bit kind lo hi st out = some (0, kind, (flush 4 lo1 hi1 out).1, (flush 4 lo1 hi1 out).2.1, st.set ctx.toNat s, (flush 4 lo1 hi1 out).2.2) := by
 have hs : B86 kind (rd st ctx) := h.states _ (A44 (B253 hc.1 hc.2))
 obtain ⟨p, hp, hp0, hp1⟩ := B806 hs
 obtain ⟨s, ha, hs'⟩ := B842 hs hb
 have hlt : lo < hi := by
  have := h.open_
  have := h.iv.2.1
  rcases Int.lt_or_le lo hi with q | q
  ·exact q
  ·exact absurd (by rw [show lo = hi by omega]) h.open_
 have hm := B538 h.iv.2.1 hp0
 have hm2 := B546 hlt hp0 hp1
 obtain ⟨i0, i1, i2⟩ := h.iv
 refine ⟨p, s, (if bit = 1 then (lo, midV lo hi p) else (midV lo hi p + 1, hi)).1, (if bit = 1 then (lo, midV lo hi p) else (midV lo hi p + 1, hi)).2, hp, hp0, hp1, ha, hs', rfl, ?_, ?_⟩
 ·split
  ·exact ⟨i0, hm, by omega⟩
  ·exact ⟨by show 0 <= midV lo hi p + 1; omega, by show midV lo hi p + 1 <= hi; omega, i2⟩
 ·have hiv : Iv (if bit = 1 then (lo, midV lo hi p) else (midV lo hi p + 1, hi)).1 (if bit = 1 then (lo, midV lo hi p) else (midV lo hi p + 1, hi)).2 := by
   split
   ·exact ⟨i0, hm, by omega⟩
   ·exact ⟨by show 0 <= midV lo hi p + 1; omega, by show midV lo hi p + 1 <= hi; omega, i2⟩
  rw [Z171_eq]
  have c1 : ¬ ctx < 0 := by omega
  have c2 : ¬ ctx ≥ ((st.length : Nat) : Int) := by omega
  have c3 : (if (!decide (bit = 0)) = true then some (!decide (bit = 1)) else some false) = some false := by rcases hb with rfl | rfl <;> rfl
  simp only [c1, c2, c3, A8, A4, A3, A1, hc, A22, A5, hp, ha, B936 h.iv hp0 hp1]
  rw [B421 4 _ _ _ hiv (by simp only [gapOf]; have := hiv.2.1; omega) (by omega)]
  rfl
theorem B74 {n s m : Int} (hm : (2 : Int) ^ (min s.toNat IntKind.u64.bits) = m) (h0 : 0 <= m) : ishr .u64 n s = n / m := by
 unfold ishr; rw [hm, A103 _ h0]
theorem B119 {n s m : Int} (hm : (2 : Int) ^ (min s.toNat IntKind.u64.bits) = m) (h : 0 <= n * m ∧ n * m < 18446744073709551616) : ishl .u64 n s = n * m := by
 unfold ishl; rw [hm, wu64]; omega
def tbyte (hi : Int) : Nat -> Int
 | 0 => hi / 16777216 % 256
 | 1 => hi / 65536 % 256
 | 2 => hi / 256 % 256
 | _ => hi / 1 % 256
def cutH (hi : Int) : Nat -> Int
 | 0 => 0
 | 1 => hi / 16777216 * 16777216
 | 2 => hi / 65536 * 65536
 | 3 => hi / 256 * 256
 | _ => hi
def tbl (hi : Int) : Nat -> List Int
 | 0 => []
 | n + 1 => tbl hi n ++ [tbyte hi n]
theorem B334 (hi : Int) : ∀ n, (tbl hi n).length = n
 | 0 => rfl
 | n + 1 => by simp [tbl, B334 hi n]
theorem B687 {lo hi : Int} (h : Iv lo hi) : ∀ k, k < 4 -> cutH hi k < lo -> Z172l3 lo hi (cutH hi k, tbl hi k) = some (.inl (cutH hi (k + 1), tbl hi (k + 1))) := by
 intro k hk hlt
 obtain ⟨h0, h1, h2⟩ := h
 have hh : 0 <= hi := by omega
 unfold Z172l3
 simp only [hlt, A7, A5, B334, A29]
 rcases k with _ | _ | _ | _ | k
 ·have e : i64.wrap (24 - i64.wrap (8 * ((0 : Nat) : Int))) = 24 := by decide
  rw [e, B74 (m := 16777216) (by decide) (by decide), B31 (by omega), B119 (m := 16777216) (by decide) (by omega), wu64, w8]
  simp only [cutH, tbl, tbyte, A30]
  rw [A9 (by decide), A6 (by decide), A9 (by decide), A9 (by decide)]
  congr 3
  omega
 ·have e : i64.wrap (24 - i64.wrap (8 * ((0 + 1 : Nat) : Int))) = 16 := by decide
  rw [e, B74 (m := 65536) (by decide) (by decide), B31 (by omega), B119 (m := 65536) (by decide) (by omega), wu64, w8]
  simp only [cutH, tbl, tbyte, A30]
  rw [A9 (by decide), A6 (by decide), A9 (by decide), A9 (by decide)]
  congr 3
  omega
 ·have e : i64.wrap (24 - i64.wrap (8 * ((0 + 1 + 1 : Nat) : Int))) = 8 := by decide
  rw [e, B74 (m := 256) (by decide) (by decide), B31 (by omega), B119 (m := 256) (by decide) (by omega), wu64, w8]
  simp only [cutH, tbl, tbyte, A30]
  rw [A9 (by decide), A6 (by decide), A9 (by decide), A9 (by decide)]
  congr 3
  omega
 ·have e : i64.wrap (24 - i64.wrap (8 * ((0 + 1 + 1 + 1 : Nat) : Int))) = 0 := by decide
  rw [e, B74 (m := 1) (by decide) (by decide), B31 (by omega), B119 (m := 1) (by decide) (by omega), wu64, w8]
  simp only [cutH, tbl, tbyte, A30]
  rw [A9 (by decide), A6 (by decide), A9 (by decide), A9 (by decide)]
  congr 3
  omega
 ·omega
def endN (lo hi : Int) : Nat := if lo <= cutH hi 0 then 0 else if lo <= cutH hi 1 then 1 else if lo <= cutH hi 2 then 2 else if lo <= cutH hi 3 then 3 else 4
theorem B321 {lo hi : Int} (h : Iv lo hi) : endN lo hi <= 4 ∧ (∀ k, k < endN lo hi -> cutH hi k < lo) ∧ lo <= cutH hi (endN lo hi) := by
 unfold endN
 split
 ·exact ⟨by omega, fun k hk => by omega, ‹_›⟩
 ·split
  ·exact ⟨by omega, fun k hk => by obtain rfl : k = 0 := by omega
                                   omega, ‹_›⟩
  ·split
   ·refine ⟨by omega, fun k hk => ?_, ‹_›⟩
    rcases k with _ | _ | k <;> (try simp only [A28]) <;> omega
   ·split
    ·refine ⟨by omega, fun k hk => ?_, ‹_›⟩
     rcases k with _ | _ | _ | k <;> (try simp only [A28, Nat.reduceAdd]) <;> omega
    ·refine ⟨by omega, fun k hk => ?_, h.2.1⟩
     rcases k with _ | _ | _ | _ | k <;> (try simp only [A28, Nat.reduceAdd]) <;> omega
theorem B423 {lo hi : Int} (h : Iv lo hi) : ∀ d k, k + d = endN lo hi -> loop (Z172l3 lo hi) (cutH hi k, tbl hi k) = some (tbl hi (endN lo hi))
 | 0, k, hk => by
  obtain ⟨_, _, h3⟩ := B321 h
  rw [A38] at hk
  rw [← hk] at h3 ⊢
  refine B4 ?_
  unfold Z172l3
  have : ¬ cutH hi k < lo := by omega
  simp only [this, A8, A4, A3]
 | d + 1, k, hk => by
  obtain ⟨h1, h2, _⟩ := B321 h
  rw [B6 (B687 h k (by omega) (h2 k (by omega)))]
  exact B423 h d (k + 1) (by omega)
theorem B589 {kind lo hi : Int} {st out : List Int} (h : Iv lo hi) (hl : out.length + 4 <= 140737488355328) : Z135 kind lo hi st out = some (out ++ tbl hi (endN lo hi), kind, lo, hi, st, out) := by
 have h1 := (B321 h).1
 rw [Z135_eq, Z172_eq]
 have := B423 h (endN lo hi) 0 (by omega)
 rw [show cutH hi 0 = 0 from rfl, show tbl hi 0 = [] from rfl] at this
 rw [this]
 simp only [A36, A30, A1, B334]
 rw [A6 (by omega), A6 (by omega)]
theorem B484 {lo hi : Int} (h : Iv lo hi) {n : Nat} (hn : n <= 4) {out : List Int} (hl : out.length + 4 <= 140737488355328) : ∀ d k, k + d = n -> loop (Z124l10 hi (n : Int)) ((k : Int), out ++ tbl hi k) = some (out ++ tbl hi n)
 | 0, k, hk => by
  rw [A38] at hk
  subst hk
  refine B4 ?_
  unfold Z124l10
  simp
 | d + 1, k, hk => by
  rw [B6 (s' := (((k + 1 : Nat) : Int), out ++ tbl hi (k + 1)))]
  ·exact B484 h hn hl d (k + 1) (by omega)
  ·obtain ⟨h0, h1, h2⟩ := h
   unfold Z124l10
   have h3 : (k : Int) < (n : Int) := by omega
   simp only [h3, A7, A5, A16, B334, A29]
   have hw : i64.wrap ((k : Int) + 1) = ((k + 1 : Nat) : Int) := by rw [w64 (by omega)]; rfl
   have e : i64.wrap (24 - i64.wrap (8 * (k : Int))) = 24 - 8 * (k : Int) := by rw [w64 (n := 8 * (k : Int)) (by omega), w64 (by omega)]
   have hb : u8.wrap (ishr .u64 hi (24 - 8 * (k : Int))) = tbyte hi k := by
    rcases k with _ | _ | _ | _ | k
    ·rw [B74 (m := 16777216) (by decide) (by decide), w8]; rfl
    ·rw [B74 (m := 65536) (by decide) (by decide), w8]; rfl
    ·rw [B74 (m := 256) (by decide) (by decide), w8]; rfl
    ·rw [B74 (m := 1) (by decide) (by decide), w8]; rfl
    ·omega
   rw [e, hb, hw, A9 (by omega), A6 (by omega)]
   simp only [tbl, A32]
theorem B454 {lo hi : Int} (h : Iv lo hi) {out : List Int} (hl : out.length + 4 <= 140737488355328) : ∀ d k, k + d = endN lo hi -> loop (Z124l5 lo hi) ((k : Int), out) = some (Sum.inr (out ++ tbl hi (endN lo hi)))
 | d, k, hk => by
  obtain ⟨q1, q2, q3⟩ := B321 h
  have hk4 : k <= 4 := by omega
  have e : u64.wrap (i64.wrap (32 - i64.wrap (8 * (k : Int)))) = 32 - 8 * (k : Int) := by rw [w64 (n := 8 * (k : Int)) (by omega), w64 (by omega), wu64]; omega
  have hc : ishl .u64 (ishr .u64 hi (32 - 8 * (k : Int))) (32 - 8 * (k : Int)) = cutH hi k := by
   obtain ⟨h0, h1, h2⟩ := h
   rcases k with _ | _ | _ | _ | _ | k
   ·rw [B74 (m := 4294967296) (by decide) (by decide), B119 (m := 4294967296) (by decide) (by omega)]
    show _ = (0 : Int)
    omega
   ·rw [B74 (m := 16777216) (by decide) (by decide), B119 (m := 16777216) (by decide) (by omega)]; rfl
   ·rw [B74 (m := 65536) (by decide) (by decide), B119 (m := 65536) (by decide) (by omega)]; rfl
   ·rw [B74 (m := 256) (by decide) (by decide), B119 (m := 256) (by decide) (by omega)]; rfl
   ·rw [B74 (m := 1) (by decide) (by decide), B119 (m := 1) (by decide) (by omega)]
    show _ = hi
    omega
   ·omega
  have h5 : (k : Int) < 5 := by omega
  cases d with
  | zero =>
   rw [A38] at hk
   subst hk
   refine B4 ?_
   unfold Z124l5 Z124l5_b
   simp only [h5, A7, A5, e, hc]
   rw [A9 (by omega), A9 (by omega)]
   have h6 : cutH hi (endN lo hi) ≥ lo := q3
   simp only [h6, A7, A5]
   have := B484 h q1 hl (endN lo hi) 0 (by omega)
   simp only [tbl, A41] at this
   rw [show ((0 : Nat) : Int) = 0 from rfl] at this
   rw [this]; rfl
  | succ d =>
   rw [B6 (s' := (((k + 1 : Nat) : Int), out))]
   ·exact B454 h hl d (k + 1) (by omega)
   ·unfold Z124l5 Z124l5_b
    simp only [h5, A7, A5, e, hc]
    rw [A9 (by omega), A9 (by omega)]
    have h6 : ¬ cutH hi k ≥ lo := by have := q2 k (by omega); omega
    have hw : i64.wrap ((k : Int) + 1) = ((k + 1 : Nat) : Int) := by rw [w64 (by omega)]; rfl
    simp only [h6, A8, A4, A3, hw]
theorem B940 {kind lo hi : Int} {st out : List Int} (h : Iv lo hi) (hl : out.length + 4 <= 140737488355328) : Z124 kind lo hi st out = Z135 kind lo hi st out := by
 rw [B589 h hl, Z124_eq, Z124_b, Z159_eq, Z159_b]
 have := B454 h hl (endN lo hi) 0 (by omega)
 rw [show ((0 : Nat) : Int) = 0 from rfl] at this
 simp only [A1, A4, A3, A36, A30, this]
 rw [A6 (by omega)]
 rfl
theorem B343 {st : List Int} {e : Int} (hl : st.length <= 8192) (hs : ∀ s ∈ st, 0 <= s ∧ s < e) : ∀ d k, k + d = st.length -> loop (Z103l7 st e) (k : Int) = some (Sum.inl ())
 | 0, k, hk => by
  refine B4 ?_
  unfold Z103l7
  have : ¬ (k : Int) < ((st.length : Nat) : Int) := by omega
  simp only [this, A8, A4, A3]
 | d + 1, k, hk => by
  rw [B6 (s' := ((k + 1 : Nat) : Int))]
  ·exact B343 hl hs d (k + 1) (by omega)
  ·have h1 : (k : Int) < ((st.length : Nat) : Int) := by omega
   have h0 : (0 : Int) <= (k : Int) := by omega
   obtain ⟨a1, a2⟩ := hs _ (A44 (B253 h0 h1))
   have n1 : ¬ rd st (k : Int) < 0 := by omega
   have n2 : ¬ rd st (k : Int) ≥ e := by omega
   have hw : i64.wrap ((k : Int) + 1) = ((k + 1 : Nat) : Int) := by rw [w64 (by omega)]; rfl
   unfold Z103l7
   simp only [h1, h0, n1, n2, hw, A7, A8, A4, A5, A3, A22]
theorem B294 {st : List Int} {e : Int} (hl : st.length <= 8192) (hs : ∀ s ∈ st, 0 <= s ∧ s <= e) : ∀ d k, k + d = st.length -> loop (Z164l7 st e) (k : Int) = some (Sum.inl ())
 | 0, k, hk => by
  refine B4 ?_
  unfold Z164l7
  have : ¬ (k : Int) < ((st.length : Nat) : Int) := by omega
  simp only [this, A8, A4, A3]
 | d + 1, k, hk => by
  rw [B6 (s' := ((k + 1 : Nat) : Int))]
  ·exact B294 hl hs d (k + 1) (by omega)
  ·have h1 : (k : Int) < ((st.length : Nat) : Int) := by omega
   have h0 : (0 : Int) <= (k : Int) := by omega
   obtain ⟨a1, a2⟩ := hs _ (A44 (B253 h0 h1))
   have n1 : ¬ rd st (k : Int) < 0 := by omega
   have n2 : ¬ rd st (k : Int) > e := by omega
   have hw : i64.wrap ((k : Int) + 1) = ((k + 1 : Nat) : Int) := by rw [w64 (by omega)]; rfl
   unfold Z164l7
   simp only [h1, h0, n1, n2, hw, A7, A8, A4, A5, A3, A22]
theorem B889 {kind : Int} {st : List Int} (hk : kind = 0 ∨ kind = 1) (hl : st.length <= 8192) (hs : ∀ s ∈ st, B86 kind s) : Z103 kind st = some true ∧ Z164 kind st = some true := by
 have hn : ¬ ((st.length : Nat) : Int) > 8192 := by omega
 rw [Z103_eq, Z103_b, Z164_eq]
 rcases hk with rfl | rfl
 ·have h1 := B343 (e := 64) hl (fun s h => by rcases hs s h with q | q <;> omega) st.length 0 (by omega)
  have h2 := B294 (e := 63) hl (fun s h => by rcases hs s h with q | q <;> omega) st.length 0 (by omega)
  rw [show ((0 : Nat) : Int) = 0 from rfl] at h1 h2
  constructor
  ·simp only [hn, show ¬ ((0 : Int) = 1) by decide, A7, A8, A19, A35, A4, A5, A3, A1, h1, A48]
  ·simp only [hn, show ¬ ((0 : Int) = 1) by decide, A7, A8, A19, A35, A4, A5, A3, A1, h2, A48]
 ·have h1 := B343 (e := 65536) hl (fun s h => by rcases hs s h with q | q <;> omega) st.length 0 (by omega)
  have h2 := B294 (e := 65535) hl (fun s h => by rcases hs s h with q | q <;> omega) st.length 0 (by omega)
  rw [show ((0 : Nat) : Int) = 0 from rfl] at h1 h2
  constructor
  ·simp only [hn, show ¬ ((1 : Int) = 0) by decide, A7, A8, A19, A35, A4, A5, A3, A1, h1, A48]
  ·simp only [hn, show ¬ ((1 : Int) = 0) by decide, A7, A8, A19, A35, A4, A5, A3, A1, h2, A48]
theorem B640 {kind : Int} {st : List Int} (hl : st.length <= 8192) : Z140 kind st = some (kind, st) ∧ Z165 kind st = some (kind, st) := by
 rw [Z140_eq, Z140_b, Z165_eq]
 simp only [A36, A30, A28]
 rw [A6 (by omega)]
 exact ⟨rfl, rfl⟩
theorem B590 {kind : Int} {st : List Int} (hk : kind = 0 ∨ kind = 1) (hl : st.length <= 8192) (hs : ∀ s ∈ st, B86 kind s) :
  Z121 kind st = some (Sum.inl (kind, 0, 4294967295, st, [])) ∧ Z132 kind st = some (Sum.inl (kind, 0, 4294967295, st, [])) ∧ EncOk kind 0 4294967295 st := by
 obtain ⟨h1, h2⟩ := B889 hk hl hs
 obtain ⟨c1, c2⟩ := B640 (kind := kind) hl
 refine ⟨?_, ?_, ⟨hk, ⟨by decide, by decide, by decide⟩, by decide, hs⟩⟩
 ·rw [Z121_eq, Z121_b, h1, Z104_eq, Z104_b, c1, Z141_eq, Z141_b]; rfl
 ·rw [Z132_eq, h2, c2, Z166_eq]; rfl
theorem B947 {kind n : Int} (hk : kind = 0 ∨ kind = 1) (h0 : 0 <= n) (h1 : n <= 8192) : Z68 kind n = some (kind, 0, List.replicate n.toNat 0) ∧ Z131 kind n = some (kind, 0, List.replicate n.toNat 0) := by
 have a1 : ¬ n < 0 := by omega
 have a2 : ¬ n > 8192 := by omega
 have a3 : 0 <= n ∧ n <= n ∧ ((8 : Nat) : Int) * n <= 281474976710656 := ⟨h0, Int.le_refl _, by omega⟩
 rw [Z68_eq, Z68_b, Z131_eq]
 rcases hk with rfl | rfl
 ·simp only [a1, a2, a3, A7, A8, A19, A35, A4, A5, A3, A1, A22]
 ·simp only [a1, a2, a3, show ¬ ((1 : Int) = 0) by decide, A7, A8, A19, A35, A4, A5, A3, A1, A22]
theorem B719 {kind : Int} (hk : kind = 0 ∨ kind = 1) (n : Nat) : ∀ s ∈ List.replicate n (0 : Int), B86 kind s := by
 intro s hs
 rw [(List.mem_replicate.1 hs).2]
 rcases hk with rfl | rfl
 ·exact .inl ⟨rfl, by decide, by decide⟩
 ·exact .inr ⟨rfl, by decide, by decide⟩
theorem B545 {kind lo hi : Int} {st out : List Int} : Z180 kind lo hi st out = some (decide (lo / 16777216 = hi / 16777216), kind, lo, hi, st, out) := by
 rw [Z180_eq, Z180_b]
 simp only [B502]
theorem B654 {kind : Int} {st : List Int} : ∀ (n : Nat) (lo hi : Int) (out : List Int), Iv lo hi -> gapOf n <= hi - lo -> out.length + n <= 140737488355328 ->
  loop Z154l6 (kind, lo, hi, st, out) = some (kind, (flush n lo hi out).1, (flush n lo hi out).2.1, st, (flush n lo hi out).2.2)
 | 0, lo, hi, out, h, hg, hl => by
  refine B4 ?_
  unfold Z154l6
  simp only [B545, A1]
  simp only [gapOf] at hg
  have hne : ¬ lo / 16777216 = hi / 16777216 := by obtain ⟨h0, h1, h2⟩ := h; omega
  simp only [hne, A8, A4, A3, flush]
 | n + 1, lo, hi, out, h, hg, hl => by
  by_cases e : lo / 16777216 = hi / 16777216
  ·obtain ⟨h1, h2⟩ := h.shift e
   rw [B6 (s' := (kind, lo % 16777216 * 256, hi % 16777216 * 256 + 255, st, out ++ [hi / 16777216]))]
   ·rw [B654 n _ _ _ h1 (by rw [h2]; exact B463 hg (by have := h.2.1; omega)) (by simp; omega)]
    simp only [flush, e, A5]
   ·unfold Z154l6
    simp only [B545, A1, B908 h]
    simp only [e, A7, A5, A29]
    rw [A6 (by omega)]
  ·refine B4 ?_
   unfold Z154l6
   simp only [B545, A1]
   simp only [e, A8, A4, A3, flush]
theorem B949 {ctx bit kind lo hi : Int} {st out : List Int} (h : EncOk kind lo hi st) (hc : 0 <= ctx ∧ ctx < (st.length : Int)) (hb : bit = 0 ∨ bit = 1) (hl : out.length + 4 <= 140737488355328) :
  ∃ lo' hi' st' out', Z154 ctx bit kind lo hi st out = some (0, kind, lo', hi', st', out') ∧ Z171 ctx bit kind lo hi st out = some (0, kind, lo', hi', st', out') ∧
   EncOk kind lo' hi' st' ∧ st'.length = st.length ∧ out'.length <= out.length + 4 := by
 obtain ⟨p, s, lo1, hi1, hp, hp0, hp1, ha, hs', hpart, hiv, href⟩ := B799 h hc hb hl
 have hs : B86 kind (rd st ctx) := h.states _ (A44 (B253 hc.1 hc.2))
 have hlt : lo < hi := by
  rcases Int.lt_or_le lo hi with q | q
  ·exact q
  ·exact absurd (by rw [show lo = hi by have := h.iv.2.1; omega]) h.open_
 have hm := B538 h.iv.2.1 hp0
 have hm2 := B546 hlt hp0 hp1
 obtain ⟨i0, i1, i2⟩ := h.iv
 have hgap : gapOf 4 <= hi1 - lo1 := by simp only [gapOf]; have := hiv.2.1; omega
 obtain ⟨f1, f2, f3, f4⟩ := B668 4 lo1 hi1 out hiv hgap
 refine ⟨_, _, _, _, ?_, href, ⟨h.two, f1, f2, fun x hx => ?_⟩, by simp, f3⟩
 ·rw [Z154_eq, Z159_eq, Z159_b]
  have c1 : ¬ ctx < 0 := by omega
  have c2 : ¬ ctx ≥ ((st.length : Nat) : Int) := by omega
  have c3 : (if (!decide (bit = 0)) = true then some (!decide (bit = 1)) else some false) = some false := by rcases hb with rfl | rfl <;> rfl
  simp only [c1, c2, c3, A8, A4, A3, A1, B945 h.iv hc hp hs hp0 hp1, B905 hb hc hs ⟨show 0 <= midV lo hi p by omega, by omega⟩, ha, A48]
  have e : (if bit = 1 then (kind, lo, midV lo hi p, st.set ctx.toNat s, out) else (kind, midV lo hi p + 1, hi, st.set ctx.toNat s, out)) = (kind, lo1, hi1, st.set ctx.toNat s, out) := by
   split at hpart <;> rename_i q <;> simp only [A27] at hpart <;> obtain ⟨rfl, rfl⟩ := hpart <;> simp [q]
  rw [e]
  try simp only
  rw [B654 4 _ _ _ hiv hgap (by omega)]
  rfl
 ·rcases List.mem_or_eq_of_mem_set hx with q | rfl
  ·exact h.states x q
  ·exact hs'
abbrev EncS := Int × Int × Int × List Int × List Int
def EncAt (N B : Nat) (s : EncS) : Prop := EncOk s.1 s.2.1 s.2.2.1 s.2.2.2.1 ∧ s.2.2.2.1.length = N ∧ s.2.2.2.2.length <= B
theorem B951 {N B : Nat} {s : EncS} (h : EncAt N B s) {c b : Int} (hc : 0 <= c ∧ c < (N : Int)) (hb : b = 0 ∨ b = 1) (hB : B <= 1000000000) :
  ∃ s', Z154 c b s.1 s.2.1 s.2.2.1 s.2.2.2.1 s.2.2.2.2 = some (0, s') ∧ Z171 c b s.1 s.2.1 s.2.2.1 s.2.2.2.1 s.2.2.2.2 = some (0, s') ∧ EncAt N (B + 4) s' := by
 obtain ⟨h1, h2, h3⟩ := h
 obtain ⟨lo', hi', st', out', e1, e2, e3, e4, e5⟩ := B949 (out := s.2.2.2.2) h1 (by rw [h2]; exact hc) hb (by omega)
 exact ⟨(s.1, lo', hi', st', out'), e1, e2, e3, by rw [e4, h2], by show out'.length <= B + 4; omega⟩
def B47 (base : Int) (e : Event) : Event := ⟨base + e.ctx, e.bit⟩
def EvOk (base : Int) (N : Nat) (e : Event) : Prop := (0 <= base + e.ctx ∧ base + e.ctx < (N : Int)) ∧ (e.bit = 0 ∨ e.bit = 1)
theorem B561 {base : Int} {N : Nat} {l : List Event} (hl : l.length <= 100000) (hbase : -1000000 <= base ∧ base <= 1000000) (hN : N <= 1000000) (he : ∀ e ∈ l, EvOk base N e) : ∀ (m : List Event) (n B : Nat) (s : EncS), l.drop n = m -> EncAt N B s -> B + 4 * m.length <= 1000000000 ->
  ∃ r, overL Z158l2_step (fun s => some (Sum.inl (s.1, s.2.1, s.2.2.1, s.2.2.2.1, s.2.2.2.2))) n (m.map (B47 base)) s = some (Sum.inl r) ∧ loop (Z134l5 base l) ((n : Int), s) = some r ∧ EncAt N (B + 4 * m.length) r
 | [], n, B, s, hd, h, _ => by
  have hln : l.length <= n := by
   have := congrArg List.length hd
   rw [A71, A36] at this
   omega
  refine ⟨s, rfl, B4 ?_, h⟩
  unfold Z134l5
  simp only [iteD]
  rw [A9 (by omega)]
 | e :: m, n, B, s, hd, h, hB => by
  have hget : l[n]? = some e := by
   have : (l.drop n)[0]? = some e := by rw [hd]; rfl
   simpa using this
  have hd' : l.drop (n + 1) = m := by rw [← A106, hd]; rfl
  have hlt := B7 hget
  obtain ⟨⟨c0, c1⟩, hb⟩ := he e (A44 hget)
  simp only [A25] at hB
  obtain ⟨s', e1, e2, e3⟩ := B951 h (c := base + e.ctx) ⟨c0, c1⟩ hb (by omega)
  obtain ⟨r, r1, r2, r3⟩ := B561 hl hbase hN he m (n + 1) (B + 4) s' hd' e3 (by omega)
  refine ⟨r, ?_, ?_, by rw [A25, show B + 4 * (m.length + 1) = B + 4 + 4 * m.length by omega]; exact r3⟩
  ·rw [A61, B34 (s' := s')]
   ·exact r1
   ·unfold Z158l2_step B47
    try simp only
    rw [e1]
    rfl
  ·rw [B6 (s' := (((n + 1 : Nat) : Int), s'))]
   ·exact r2
   ·unfold Z134l5
    simp only [iteD]
    have z : (0 : Int) <= (n : Int) := by omega
    rw [A6 (by omega), A6 z, A12, hget]
    simp only [A1]
    rw [A6 z, w64 (n := base + e.ctx) (by omega), e2]
    simp only [A1]
    rw [w64 (n := (n : Int) + 1) (by omega)]
    rfl
theorem B743 {base : Int} {N B : Nat} {l : List Event} {s : EncS} (hl : l.length <= 100) (hbase : -1000000 <= base ∧ base <= 1000000) (hN : N <= 1000000) (he : ∀ e ∈ l, EvOk base N e) (h : EncAt N B s) (hB : B <= 100000000) :
  ∃ r, Z158 (l.map (B47 base)) s.1 s.2.1 s.2.2.1 s.2.2.2.1 s.2.2.2.2 = some (0, r) ∧ loop (Z134l5 base l) (0, s) = some r ∧ EncAt N (B + 400) r := by
 obtain ⟨r, r1, r2, r3⟩ := B561 (by omega) hbase hN he l 0 B s rfl h (by omega)
 refine ⟨r, ?_, r2, r3.1, r3.2.1, by have := r3.2.2; omega⟩
 rw [Z158_eq, Z158_b]
 have lo := Z158l2_over (l.map (B47 base)) (by rw [A68]; omega) s
 rw [lo]
 have r1' : overL Z158l2_step (fun (s25 : Int × Int × Int × (List Int) × (List Int)) => let b26 := s25.1; let b27 := s25.2.1; let b28 := s25.2.2.1; let b29 := s25.2.2.2.1; let b30 := s25.2.2.2.2; some (Sum.inl (b26, b27, b28, b29, b30))) 0 (l.map (B47 base)) s = some (Sum.inl r) := r1
 simp only at r1'
 rw [r1']
 rfl
def Bits (x : Int) (L : Nat) : Prop := 1 <= L ∧ (2 : Int) ^ (L - 1) <= x ∧ x < 2 ^ L
theorem Bits.up {x : Int} {L k : Nat} (h : Bits (x / 2 ^ k) L) : Bits x (L + k) := by
 obtain ⟨h1, h2, h3⟩ := h
 have hk : (0 : Int) < 2 ^ k := Int.pow_pos (by decide)
 refine ⟨by omega, ?_, ?_⟩
 ·rw [show L + k - 1 = (L - 1) + k by omega, Int.pow_add]
  have := A124 h2 (Int.le_of_lt hk)
  exact Int.le_trans this (Int.ediv_mul_le x (by omega))
 ·rw [Int.pow_add]
  exact Int.lt_mul_of_ediv_lt hk h3
def len8L : List Int := [0, 1, 2, 2, 3, 3, 3, 3, 4, 4, 4, 4, 4, 4, 4, 4] ++ List.replicate 16 5 ++ List.replicate 32 6 ++ List.replicate 64 7 ++ List.replicate 128 8
theorem B782 : ∀ y : Fin 256, 1 <= y.val -> Bits ((y.val : Nat) : Int) (rd len8L ((y.val : Nat) : Int)).toNat ∧ rd len8L ((y.val : Nat) : Int) <= 8 ∧ 0 <= rd len8L ((y.val : Nat) : Int) := by
 unfold Bits
 decide +kernel
set_option maxRecDepth 20000 in
theorem B491 {x : Int} (h0 : 1 <= x) (h1 : x < 16777216) : ∃ L : Nat, Z182 x = some (L : Int) ∧ Bits x L ∧ L <= 24 := by
 have tab : ∀ (y : Int), 1 <= y -> y < 256 -> ∃ l : Nat, rd len8L y = (l : Int) ∧ Bits y l ∧ l <= 8 := fun y a b => by
  obtain ⟨m, rfl⟩ := A101 (show 0 <= y by omega)
  obtain ⟨c1, c2, c3⟩ := B782 ⟨m, by omega⟩ (by show 1 <= m; omega)
  have c2' : rd len8L (m : Int) <= 8 := c2
  exact ⟨(rd len8L (m : Int)).toNat, (Int.toNat_of_nonneg c3).symm, c1, by omega⟩
 have hlen : (len8L.length : Int) = 256 := by decide +kernel
 have s16 : ishr .u64 x 16 = x / 65536 := by unfold ishr; exact A103 _ (by decide)
 have fin : ∀ (y n : Int), 1 <= y -> y < 256 -> 0 <= n -> n <= 16 -> ∃ l : Nat, ((if 0 <= u8.wrap y ∧ u8.wrap y < (len8L.length : Int) then some (i64.wrap (n + i64.wrap (rd len8L (u8.wrap y)))) else none) : Option Int) = some (n + (l : Int)) ∧ Bits y l ∧ l <= 8 := fun y n a b c d => by
  obtain ⟨l, e1, e2, e3⟩ := tab y a b
  rw [w8, show y % 256 = y by omega, A6 (by omega), e1, w64 (n := (l : Int)) (by omega), w64 (by omega)]
  exact ⟨l, rfl, e2, e3⟩
 rw [Z182_eq, Z182_b, Z191_eq, Z191_b]
 simp only [iteD]
 rw [A9 (by omega)]
 simp only [A1]
 by_cases c1 : x ≥ 65536
 ·rw [A6 c1, s16, w64 (n := 0 + 16) (by omega)]
  simp only [A1]
  have d1 : 1 <= x / 65536 ∧ x / 65536 < 256 := by omega
  rw [A9 (by omega)]
  simp only [A1]
  obtain ⟨l, f1, f2, f3⟩ := fin (x / 65536) (0 + 16) d1.1 d1.2 (by omega) (by omega)
  refine ⟨l + 16, ?_, f2.up (k := 16), by omega⟩
  refine (congrArg (fun o : Option Int => o.bind fun q => some q) f1).trans ?_
  simp only [A1]; congr 1; omega
 ·rw [A9 c1]
  simp only [A1]
  have s8 : ishr .u64 x 8 = x / 256 := by unfold ishr; exact A103 _ (by decide)
  by_cases c2 : x ≥ 256
  ·rw [A6 c2, s8, w64 (n := 0 + 8) (by omega)]
   simp only [A1]
   have d1 : 1 <= x / 256 ∧ x / 256 < 256 := by omega
   obtain ⟨l, f1, f2, f3⟩ := fin (x / 256) (0 + 8) d1.1 d1.2 (by omega) (by omega)
   refine ⟨l + 8, ?_, f2.up (k := 8), by omega⟩
   refine (congrArg (fun o : Option Int => o.bind fun q => some q) f1).trans ?_
   simp only [A1]; congr 1; omega
  ·rw [A9 c2]
   simp only [A1]
   obtain ⟨l, f1, f2, f3⟩ := fin x 0 h0 (by omega) (by omega) (by omega)
   refine ⟨l, ?_, f2, by omega⟩
   refine (congrArg (fun o : Option Int => o.bind fun q => some q) f1).trans ?_
   simp only [A1]; congr 1; omega
def bitN (x : Int) (i : Nat) : Int := x / 2 ^ i % 2
theorem Bits.half {x : Int} {L : Nat} (h : Bits x (L + 2)) : Bits (x / 2) (L + 1) := by
 obtain ⟨_, h2, h3⟩ := h
 rw [show L + 2 - 1 = L + 1 by omega, Int.pow_succ] at h2
 rw [show L + 2 = (L + 1) + 1 by omega, Int.pow_succ] at h3
 refine ⟨by omega, ?_, ?_⟩
 ·rw [show L + 1 - 1 = L by omega]; omega
 ·omega
theorem B809 {x : Int} {i : Nat} : bitN (x / 2) i = bitN x (i + 1) := by
 unfold bitN
 rw [Int.pow_succ, Int.mul_comm, ← Int.ediv_ediv_of_nonneg (show (0 : Int) <= 2 by decide)]
theorem B432 : ∀ (L : Nat) (x : Int) (out : List Int), Bits x (L + 1) -> L <= 24 -> out.length + L <= 100 -> 0 <= x -> x < 16777216 -> loop Z170l9 (x, out) = some (out ++ (List.range (L + 1)).map (bitN x))
 | 0, x, out, h, _, ho, h0, h1 => by
  obtain ⟨_, h2, h3⟩ := h
  have hx : x = 1 := by simp at h2 h3; omega
  subst hx
  rw [B6 (s' := (0, out ++ [1]))]
  ·refine B4 ?_
   unfold Z170l9
   rfl
  ·unfold Z170l9
   simp only [A29]
   rw [A6 (show decide ((1 : Int) > 0) = true from rfl), A6 (by omega)]
   rfl
 | L + 1, x, out, h, hL, ho, h0, h1 => by
  have hpos : x > 0 := by
   have := h.2.1
   have hp : (0 : Int) < 2 ^ (L + 1 + 1 - 1) := Int.pow_pos (by decide)
   omega
  rw [B6 (s' := (x / 2, out ++ [x % 2]))]
  ·rw [B432 L (x / 2) (out ++ [x % 2]) h.half (by omega) (by rw [A16, A29]; omega) (by omega) (by omega)]
   rw [List.range_succ_eq_map (n := L + 1), A61, List.map_map, A32]
   congr 2
   simp only [List.singleton_append, List.cons.injEq]
   refine ⟨by unfold bitN; simp, A122 fun i _ => B809⟩
  ·unfold Z170l9
   simp only [A29]
   rw [A6 (by simpa using hpos), A6 (by omega), B31 h0, B30 h0, w64 (by omega)]
def B44 (t : Nat) : List Event := (List.range t).map fun (v : Nat) => ⟨1 + (v : Int), 1⟩
def evMid (t : Nat) (x : Int) : List Event := (List.range t).map fun (j : Nat) => ⟨if j = 0 then 23 + (t : Int) else min (43 + (j : Int)) 47, bitN x (t - 1 - j)⟩
theorem B831 {t : Nat} (ht : t <= 24) {out : List Event} (ho : out.length <= 100) : loop (Z170l14 (t : Int)) (0, out) = some (out ++ B44 t) := by
 rw [Z170l14_over (t : Int) (by rw [A45]; omega) out]
 have := B279 (f := Z170l14_step) (fin := fun s => some s) (fun n => out ++ B44 n) (List.range (t : Int).toNat) 0 (fun k x hk => by
  have hlt := B7 hk
  rw [A45] at hlt
  rw [A28]
  unfold Z170l14_step B44
  simp only [A16, A68, A45, A29]
  rw [A6 (by omega), w64 (by omega), List.range_succ, A96, A32]
  rfl)
 simp only [B44, List.range_zero, A98, A41, A28, A45, A12] at this ⊢
 exact this
theorem B825 {base : Int} {t : Nat} (hb : -1000000 <= base ∧ base <= 1000000) (ht : t <= 24) {out : List Event} (ho : out.length <= 100) : loop (Z157l7 base (t : Int)) (0, out) = some (out ++ (B44 t).map (B47 base)) := by
 rw [Z157l7_over base (t : Int) (by rw [A45]; omega) out]
 have := B279 (f := Z157l7_step base) (fin := fun s => some s) (fun n => out ++ (B44 n).map (B47 base)) (List.range (t : Int).toNat) 0 (fun k x hk => by
  have hlt := B7 hk
  rw [A45] at hlt
  rw [A28]
  unfold Z157l7_step B44
  simp only [A16, A68, A45, A29]
  rw [A6 (by omega), w64 (n := base + 1) (by omega), w64 (by omega), List.range_succ, A96, A96, A32]
  simp only [A61, A98, B47, Int.add_assoc])
 simp only [B44, List.range_zero, A98, A41, A28, A45, A12] at this ⊢
 exact this
theorem B918 {x : Int} {t : Nat} (ht : t <= 24) {out : List Event} (ho : out.length <= 100) : loop (Z170l20 ((List.range (t + 1)).map (bitN x)) (t : Int)) (0, out) = some (out ++ evMid t x) := by
 rw [Z170l20_over _ (t : Int) (by rw [A45]; omega) out]
 have := B279 (f := Z170l20_step ((List.range (t + 1)).map (bitN x)) (t : Int)) (fin := fun s => some s) (fun n => out ++ (evMid t x).take n) (List.range (t : Int).toNat) 0 (fun k y hk => by
  have hlt := B7 hk
  rw [A45] at hlt
  rw [A28]
  have hget : (evMid t x)[k]? = some ⟨if k = 0 then 23 + (t : Int) else min (43 + (k : Int)) 47, bitN x (t - 1 - k)⟩ := by
   unfold evMid
   rw [A50, A74 (by omega)]
   rfl
  have hdig : ((List.range (t + 1)).map (bitN x))[t - 1 - k]? = some (bitN x (t - 1 - k)) := by
   rw [A50, A74 (by omega)]; rfl
  have e : (t : Int) - 1 - (k : Int) = ((t - 1 - k : Nat) : Int) := by omega
  have hc : ((if decide ((k : Int) = 0) = true then some (i64.wrap (23 + (t : Int))) else some (imin (i64.wrap (43 + (k : Int))) 47)) : Option Int) = some (if k = 0 then 23 + (t : Int) else min (43 + (k : Int)) 47) := by
   simp only [iteD, B413]
   by_cases c : k = 0
   ·rw [A6 (by omega), A6 c, w64 (by omega)]
   ·rw [A9 (by omega), A9 c, w64 (by omega)]
  unfold Z170l20_step
  try simp only
  rw [hc]
  simp only [A1, A16, A68, A45, A29, A23]
  rw [w64 (n := (t : Int) - 1) (by omega), w64 (n := (t : Int) - 1 - (k : Int)) (by omega), e, A6 (by omega), B41 hdig, A6 (by omega), A119, hget, A32]
  rfl)
 have hl : (evMid t x).length = t := by simp [evMid]
 simp only [A107, A41, A28, A45, A12] at this ⊢
 rw [this, A115 (by omega)]
end Go.Proofs.YtcphcfknnfibmaaGreat.P
namespace Go.Proofs.YtcphcfknnfibmaaGreat.V
theorem B853 {n : Int} {k : Nat} (hk : k <= 64) : ishr .i64 n (k : Int) = n / (2 ^ k : Int) := by
 unfold ishr
 rw [A12, show min k IntKind.i64.bits = k from by simp [IntKind.bits]; omega]
 exact A103 _ (by exact_mod_cast A24 (2 ^ k))
theorem B845 {n : Int} {k : Nat} (hk : k <= 64) : ishl .i64 n (k : Int) = i64.wrap (n * 2 ^ k) := by
 unfold ishl
 rw [A12, show min k IntKind.i64.bits = k from by simp [IntKind.bits]; omega]
theorem B311 (m : Nat) (h : m < 18446744073709551616) : (BitVec.ofInt 64 (m : Int)) = BitVec.ofNat 64 m := by
 rw [BitVec.ofInt_natCast]
theorem B937 (a b : Nat) (ha : a < 9223372036854775808) (hb : b < 9223372036854775808) : ior .i64 (a : Int) (b : Int) = ((a ||| b : Nat) : Int) := by
 show i64.wrap ((BitVec.ofInt 64 (a : Int) ||| BitVec.ofInt 64 (b : Int) : BitVec 64).toNat : Int) = _
 rw [B311 a (by omega), B311 b (by omega), BitVec.toNat_or, BitVec.toNat_ofNat, BitVec.toNat_ofNat, A90 (by omega), A90 (by omega)]
 have : a ||| b < 2 ^ 63 := Nat.or_lt_two_pow (by omega) (by omega)
 exact w64 (by omega)
theorem B866 (a b : Nat) (ha : a < 9223372036854775808) (hb : b < 9223372036854775808) : iand .i64 (a : Int) (b : Int) = ((a &&& b : Nat) : Int) := by
 show i64.wrap ((BitVec.ofInt 64 (a : Int) &&& BitVec.ofInt 64 (b : Int) : BitVec 64).toNat : Int) = _
 rw [B311 a (by omega), B311 b (by omega), BitVec.toNat_and, BitVec.toNat_ofNat, BitVec.toNat_ofNat, A90 (by omega), A90 (by omega)]
 have : a &&& b <= a := Nat.and_le_left
 exact w64 (by omega)
theorem B973 (a b : Nat) (ha : a < 9223372036854775808) (hb : b < 9223372036854775808) : ixor .i64 (a : Int) (b : Int) = ((a ^^^ b : Nat) : Int) := by
 show i64.wrap ((BitVec.ofInt 64 (a : Int) ^^^ BitVec.ofInt 64 (b : Int) : BitVec 64).toNat : Int) = _
 rw [B311 a (by omega), B311 b (by omega), BitVec.toNat_xor, BitVec.toNat_ofNat, BitVec.toNat_ofNat, A90 (by omega), A90 (by omega)]
 have : a ^^^ b < 2 ^ 63 := Nat.xor_lt_two_pow (by omega) (by omega)
 exact w64 (by omega)
theorem B969 {n d : Int} (hn : 0 <= n) (hn2 : n < 4294967296) (hd : 0 <= d) (hd2 : d < 256) : ior .i64 (ishl .i64 n 8) d = 256 * n + d := by
 obtain ⟨m, rfl⟩ := A101 hn
 obtain ⟨e, rfl⟩ := A101 hd
 have h0 : m <<< 8 = m * 256 := by rw [Nat.shiftLeft_eq]
 have h1 : ishl .i64 (m : Int) 8 = ((m <<< 8 : Nat) : Int) := by
  rw [show (8 : Int) = ((8 : Nat) : Int) from rfl, B845 (by omega), h0, show ((2 : Int) ^ 8) = 256 from rfl, w64 (by omega)]
  omega
 rw [h1, B937 _ _ (by omega) (by omega), ← Nat.shiftLeft_add_eq_or_of_lt (by omega), h0]
 omega
section
variable {α : Type}
theorem B971 (xs : List α) (i j : Nat) : (cutL xs i j).length = min j xs.length - i := by simp [cutL]
theorem B956 (xs : List α) {i j k : Nat} (h1 : i <= j) (h2 : j <= k) : cutL xs i j ++ cutL xs j k = cutL xs i k := by
 unfold cutL
 by_cases hj : j <= xs.length
 ·have e1 : xs.take k = xs.take j ++ (xs.take k).drop j := by
   conv => lhs; rw [← A116 j (xs.take k)]
   rw [List.take_take, Nat.min_eq_left h2]
  conv => rhs; rw [e1]
  rw [List.drop_append_of_le_length (by rw [A23]; omega)]
 ·have e1 : xs.take j = xs := A115 (by omega)
  have e2 : xs.take k = xs := A115 (by omega)
  rw [e1, e2, A99 (by omega : xs.length <= j), A41]
theorem B780 (xs : List α) (i : Nat) : cutL xs i i = [] := by
 unfold cutL
 exact A99 (by rw [A23]; omega)
theorem B970 (xs : List α) : cutL xs 0 xs.length = xs := by simp [cutL]
theorem B964 (xs : List α) (n : Nat) : cutL xs 0 n = xs.take n := by simp [cutL]
theorem B282 {xs : List α} {i j : Nat} {x : α} (h : xs[i]? = some x) (hj : i < j) : cutL xs i j = x :: cutL xs (i + 1) j := by
 have hl := (A43.1 h).1
 have hx := (A43.1 h).2
 unfold cutL
 rw [A84 (by rw [A23]; omega)]
 congr 1
 rw [List.getElem_take]; exact hx
theorem B968 {xs : List α} {i j : Nat} {x : α} (h : x ∈ cutL xs i j) : x ∈ xs := A69 (A80 h)
end
theorem B966 {b : List Int} {i : Nat} (h : i + 4 <= b.length) : cutL b i (i + 4) = [rd b i, rd b ((i + 1 : Nat) : Int), rd b ((i + 2 : Nat) : Int), rd b ((i + 3 : Nat) : Int)] := by
 have g : ∀ k, k < b.length -> b[k]? = some (rd b (k : Int)) := fun k hk => by
  have := B253 (xs := b) (i := (k : Int)) (by omega) (by omega)
  simpa using this
 rw [B282 (g i (by omega)) (by omega), B282 (g (i + 1) (by omega)) (by omega), B282 (g (i + 2) (by omega)) (by omega), B282 (g (i + 3) (by omega)) (by omega), B780]
end Go.Proofs.YtcphcfknnfibmaaGreat.V
namespace Go.Proofs.YtcphcfknnfibmaaGreat.P
theorem B796 {x : Int} (h0 : 0 <= x) (h1 : x < 16777216) {i : Nat} (hi : i <= 24) : iand .i64 (ishr .i64 x (i : Int)) 1 = bitN x i := by
 have hp : (0 : Int) < 2 ^ i := Int.pow_pos (by decide)
 have q0 : 0 <= x / 2 ^ i := Int.ediv_nonneg h0 (Int.le_of_lt hp)
 have q1 : x / 2 ^ i <= x := Int.ediv_le_self _ h0
 rw [B853 (by omega)]
 unfold bitN
 obtain ⟨m, hm⟩ := A101 q0
 rw [hm] at q1 ⊢
 have := B866 m 1 (by omega) (by omega)
 rw [show ((1 : Nat) : Int) = 1 from rfl] at this
 rw [this, Nat.and_one_is_mod]
 omega
def tailB (k : Nat) : Int := if k <= 1 then 44 else min (43 + (k : Int)) 47
theorem B658 {base x : Int} {t : Nat} (hb : -1000000 <= base ∧ base <= 1000000) (ht : t <= 24) (h0 : 0 <= x) (h1 : x < 16777216) {out : List Event} (ho : out.length <= 100) : ∀ (d k : Nat), k + d = t ->
  ∃ b, loop (Z157l15 base x (t : Int)) ((t : Int) - 1 - (k : Int), out ++ ((evMid t x).take k).map (B47 base), tailB k) = some (out ++ (evMid t x).map (B47 base), b)
 | 0, k, h => by
  have hl : (evMid t x).length = t := by simp [evMid]
  refine ⟨tailB k, B4 ?_⟩
  unfold Z157l15 Z157l15_b
  simp only [iteD]
  rw [A9 (by omega), A115 (by omega)]
 | d + 1, k, h => by
  obtain ⟨b, hb'⟩ := B658 hb ht h0 h1 ho d (k + 1) (by omega)
  refine ⟨b, ?_⟩
  have hget : (evMid t x)[k]? = some ⟨if k = 0 then 23 + (t : Int) else min (43 + (k : Int)) 47, bitN x (t - 1 - k)⟩ := by
   unfold evMid
   rw [A50, A74 (by omega)]
   rfl
  have e : (t : Int) - 1 - (k : Int) = ((t - 1 - k : Nat) : Int) := by omega
  have hl : (evMid t x).length = t := by simp [evMid]
  rw [B6 (s' := ((t : Int) - 1 - ((k + 1 : Nat) : Int), out ++ ((evMid t x).take (k + 1)).map (B47 base), tailB (k + 1))), hb']
  have hc : ((if decide ((t : Int) - 1 - (k : Int) < i64.wrap ((t : Int) - 1)) = true then (Z148 (tailB k)).bind fun q32 => some (q32.1, q32.2) else some (i64.wrap (23 + (t : Int)), tailB k)) : Option (Int × Int)) = some (if k = 0 then 23 + (t : Int) else min (43 + (k : Int)) 47, tailB (k + 1)) := by
   simp only [iteD]
   rw [w64 (n := (t : Int) - 1) (by omega), w64 (n := 23 + (t : Int)) (by omega)]
   by_cases c : k = 0
   ·rw [A9 (by omega), A6 c]
    subst c
    rfl
   ·rw [A6 (by omega), A9 c, Z148_eq, Z148_b]
    have hk : -100 <= tailB k ∧ tailB k <= 47 := by unfold tailB; split <;> omega
    simp only [A1, B413]
    rw [w64 (n := tailB k + 1) (by omega)]
    unfold tailB
    by_cases c1 : k <= 1
    ·have : k = 1 := by omega
     subst this; rfl
    ·rw [A9 c1, A9 (by omega)]
     congr 2
     omega
  unfold Z157l15 Z157l15_b
  try simp only
  rw [hc]
  rw [A6 (by simp; omega)]
  simp only [A1, A16, A68, A29, A23]
  rw [A9 (by omega), e, B796 h0 h1 (by omega), A6 (by omega)]
  have hctx : -1000 <= (if k = 0 then 23 + (t : Int) else min (43 + (k : Int)) 47) ∧ (if k = 0 then 23 + (t : Int) else min (43 + (k : Int)) 47) <= 1000 := by split <;> omega
  rw [w64 (n := base + (if k = 0 then 23 + (t : Int) else min (43 + (k : Int)) 47)) (by omega), w64 (by omega), A119, hget, A96, A32]
  rw [show ((t - 1 - k : Nat) : Int) - 1 = (t : Int) - 1 - ((k + 1 : Nat) : Int) by omega]
  rfl
def absN (n : Int) : Int := max n (0 - n)
def evAll (n : Int) (t : Nat) : List Event :=
 ([⟨0, 0⟩] ++ B44 t ++ (if t < 20 then [⟨1 + (t : Int), 0⟩] else [])) ++ evMid t (absN n + 1) ++ (if n = 0 then [] else [⟨22, if n < 0 then 1 else 0⟩])
theorem B877 {n : Int} {t : Nat} (ht : t <= 20) : (evAll n t).length <= 50 ∧ ∀ e ∈ evAll n t, (0 <= e.ctx ∧ e.ctx < 48) ∧ (e.bit = 0 ∨ e.bit = 1) := by
 refine ⟨?_, fun e he => ?_⟩
 ·unfold evAll B44 evMid
  simp only [A16, A68, A45, A29]
  split <;> split <;> simp <;> omega
 ·unfold evAll at he
  rcases A42.1 he with he | he
  ·rcases A42.1 he with he | he
   ·rcases A42.1 he with he | he
    ·rcases A42.1 he with he | he
     ·rw [A54] at he; subst he; simp
     ·unfold B44 at he
      obtain ⟨v, hv, rfl⟩ := A63.1 he
      rw [A86] at hv
      exact ⟨by show 0 <= 1 + (v : Int) ∧ 1 + (v : Int) < 48; omega, .inr rfl⟩
    ·split at he
     ·rw [A54] at he; subst he
      exact ⟨by show 0 <= 1 + (t : Int) ∧ 1 + (t : Int) < 48; omega, .inl rfl⟩
     ·simp at he
   ·unfold evMid at he
    obtain ⟨j, hj, rfl⟩ := A63.1 he
    rw [A86] at hj
    try simp only
    refine ⟨by split <;> omega, ?_⟩
    unfold bitN
    omega
  ·split at he
   ·simp at he
   ·rw [A54] at he; subst he
    try simp only
    refine ⟨by omega, ?_⟩
    split <;> simp
theorem B758 {n : Int} (hn : -1048576 <= n ∧ n <= 1048576) : ∃ t : Nat, t <= 20 ∧ Bits (absN n + 1) (t + 1) ∧ Z170 false n = some (evAll n t) := by
 have ha : 0 <= absN n ∧ absN n <= 1048576 := by unfold absN; omega
 obtain ⟨L, _, hB, hL⟩ := B491 (x := absN n + 1) (by omega) (by omega)
 obtain ⟨t, rfl⟩ : ∃ t, L = t + 1 := ⟨L - 1, by have := hB.1; omega⟩
 have ht : t <= 20 := by
  rcases A100 t 21 with q | q
  ·omega
  ·have h2 := hB.2.1
   rw [show t + 1 - 1 = t by omega] at h2
   have : (2 : Int) ^ 21 <= 2 ^ t := by
    have := Nat.pow_le_pow_right (n := 2) (by decide) q
    exact_mod_cast this
   have e : (2 : Int) ^ 21 = 2097152 := by decide
   omega
 refine ⟨t, ht, hB, ?_⟩
 rw [Z170_eq]
 have e1 : ((if decide (n < 0) = true then (let t3 := i64.wrap (0 - n); some (t3, 1)) else some (n, 0)) : Option (Int × Int)) = some (absN n, if n < 0 then 1 else 0) := by
  unfold absN
  simp only [iteD]
  by_cases c : n < 0
  ·rw [A6 c, A6 c, w64 (by omega)]
   congr 2; omega
  ·rw [A9 c, A9 c]
   congr 2; omega
 rw [e1]
 simp only [A4, A3, A1]
 rw [w64 (n := absN n + 1) (by omega), B432 t (absN n + 1) [] hB (by omega) (by simp; omega) (by omega) (by omega)]
 simp only [A1, A30, A68, A45]
 rw [w64 (n := ((t + 1 : Nat) : Int) - 1) (by omega), show ((t + 1 : Nat) : Int) - 1 = (t : Int) by omega, B831 (by omega) (by simp)]
 simp only [A1, iteD, iteND]
 have hl1 : (B44 t).length = t := by simp [B44]
 have hl2 : (evMid t (absN n + 1)).length = t := by simp [evMid]
 have e2 : ((if (t : Int) < 20 then (if (([(⟨0, 0⟩ : Event)] ++ B44 t).length + ([(Event.mk (i64.wrap (1 + (t : Int))) 0)] : List Event).length) * 16 <= 140737488355328 then some ([(⟨0, 0⟩ : Event)] ++ B44 t ++ [(Event.mk (i64.wrap (1 + (t : Int))) 0)]) else none) else some ([(⟨0, 0⟩ : Event)] ++ B44 t)) : Option (List Event)) = some ([(⟨0, 0⟩ : Event)] ++ B44 t ++ (if t < 20 then [(⟨1 + (t : Int), 0⟩ : Event)] else [])) := by
  simp only [A16, A29, hl1]
  by_cases c : t < 20
  ·rw [A6 (by omega), A6 (by omega), A6 c, w64 (by omega)]
  ·rw [A9 (by omega), A9 c, A41]
 rw [e2]
 simp only [A1]
 rw [B918 (by omega) (by simp only [A16, A29, hl1]; split <;> simp <;> omega)]
 simp only [A1]
 unfold evAll
 by_cases c : n = 0
 ·have : absN n = 0 := by unfold absN; omega
  rw [A6 this, A6 c, A41]
 ·have : ¬ absN n = 0 := by unfold absN; omega
  rw [A9 this, A9 c, A6]
  simp only [A16, A29, hl1, hl2]
  split <;> simp <;> omega
theorem Bits.unique {x : Int} {L M : Nat} (h : Bits x L) (h' : Bits x M) : L = M := by
 obtain ⟨a1, a2, a3⟩ := h
 obtain ⟨b1, b2, b3⟩ := h'
 have mono : ∀ {i j : Nat}, i <= j -> (2 : Int) ^ i <= 2 ^ j := fun {i j} hij => by
  have := Nat.pow_le_pow_right (n := 2) (by decide) hij
  exact_mod_cast this
 rcases A118 L M with q | q | q
 ·have := mono (show L <= M - 1 by omega); omega
 ·exact q
 ·have := mono (show M <= L - 1 by omega); omega
theorem B677 {base n : Int} {t : Nat} (hb : -1000000 <= base ∧ base <= 1000000) (hn : -1048576 <= n ∧ n <= 1048576) (ht : t <= 20) (hB : Bits (absN n + 1) (t + 1)) : Z157 base false n = some ((evAll n t).map (B47 base)) := by
 have ha : 0 <= absN n ∧ absN n <= 1048576 := by unfold absN; omega
 obtain ⟨L, e0, hB', _⟩ := B491 (x := absN n + 1) (by omega) (by omega)
 obtain rfl := hB'.unique hB
 have em : imax n (0 - n) = absN n := by rw [B412]; rfl
 have hl1 : (B44 t).length = t := by simp [B44]
 have hl2 : (evMid t (absN n + 1)).length = t := by simp [evMid]
 rw [Z157_eq, Z157_b]
 simp only [A4, A3]
 rw [w64 (n := 0 - n) (by omega), em, w64 (n := absN n + 1) (by omega), wu64, show (absN n + 1) % 18446744073709551616 = absN n + 1 by omega, e0]
 simp only [A1]
 rw [w64 (n := ((t + 1 : Nat) : Int) - 1) (by omega), show ((t + 1 : Nat) : Int) - 1 = (t : Int) by omega, B825 hb (by omega) (by simp)]
 simp only [A1, iteD, iteND]
 have e2 : ((if (t : Int) < 20 then (if (([(⟨base, 0⟩ : Event)] ++ (B44 t).map (B47 base)).length + ([(Event.mk (i64.wrap (i64.wrap (base + 1) + (t : Int))) 0)] : List Event).length) * 16 <= 140737488355328 then some ([(⟨base, 0⟩ : Event)] ++ (B44 t).map (B47 base) ++ [(Event.mk (i64.wrap (i64.wrap (base + 1) + (t : Int))) 0)]) else none) else some ([(⟨base, 0⟩ : Event)] ++ (B44 t).map (B47 base))) : Option (List Event)) = some (([(⟨0, 0⟩ : Event)] ++ B44 t ++ (if t < 20 then [(⟨1 + (t : Int), 0⟩ : Event)] else [])).map (B47 base)) := by
  simp only [A16, A29, A68, hl1]
  rw [w64 (n := base + 1) (by omega), w64 (n := base + 1 + (t : Int)) (by omega)]
  by_cases c : t < 20
  ·rw [A6 (by omega), A6 (by omega), A6 c]
   simp [B47, Int.add_assoc]
  ·rw [A9 (by omega), A9 c, A41]
   simp [B47]
 rw [e2]
 simp only [A1]
 obtain ⟨b, e3⟩ := B658 (x := absN n + 1) (t := t) hb (by omega) (by omega) (by omega) (out := ([(⟨0, 0⟩ : Event)] ++ B44 t ++ (if t < 20 then [(⟨1 + (t : Int), 0⟩ : Event)] else [])).map (B47 base)) (by rw [A68]; simp only [A16, A29, hl1]; split <;> simp <;> omega) t 0 (by omega)
 have e3' : loop (Z157l15 base (absN n + 1) (t : Int)) (i64.wrap ((t : Int) - 1), ([(⟨0, 0⟩ : Event)] ++ B44 t ++ (if t < 20 then [(⟨1 + (t : Int), 0⟩ : Event)] else [])).map (B47 base), 44) = some ((([(⟨0, 0⟩ : Event)] ++ B44 t ++ (if t < 20 then [(⟨1 + (t : Int), 0⟩ : Event)] else [])).map (B47 base)) ++ (evMid t (absN n + 1)).map (B47 base), b) := by
  rw [w64 (n := (t : Int) - 1) (by omega), ← e3, A107, A98, A41]
  rw [show (t : Int) - 1 - ((0 : Nat) : Int) = (t : Int) - 1 by omega]
  rfl
 rw [e3']
 simp only [A1]
 unfold evAll
 by_cases c : n = 0
 ·rw [A6 c, A6 c, A41]
  simp only [A96]
 ·rw [A9 c, A9 c, w64 (n := base + 22) (by omega)]
  have e4 : ((if n < 0 then some (base + 22, 1) else some (base + 22, 0)) : Option (Int × Int)) = some (base + 22, if n < 0 then 1 else 0) := by split <;> rfl
  rw [e4]
  simp only [A1]
  rw [A6]
  ·simp [B47]
  ·simp only [A16, A68, A29, hl1, hl2]
   split <;> simp <;> omega
theorem B726 {s : EncS} : Z154 (-1) 0 s.1 s.2.1 s.2.2.1 s.2.2.2.1 s.2.2.2.2 = some (2, s.1, s.2.1, s.2.2.1, s.2.2.2.1, s.2.2.2.2) := by
 rw [Z154_eq, Z159_eq, Z159_b]
 rfl
theorem B657 {base n : Int} {none_ : Bool} {N B : Nat} {s : EncS} (hb : 0 <= base ∧ base + 48 <= (N : Int)) (hN : N <= 8192) (hn : if none_ = true then n = 0 else -1048576 <= n ∧ n <= 1048576) (h : EncAt N B s) (hB : B <= 100000000) :
  ∃ r, Z123 base none_ n s.1 s.2.1 s.2.2.1 s.2.2.2.1 s.2.2.2.2 = some (0, r) ∧ Z134 base none_ n s.1 s.2.1 s.2.2.1 s.2.2.2.1 s.2.2.2.2 = some (0, r) ∧ EncAt N (B + 400) r := by
 have hlen := h.2.1
 have ec := B640 (kind := s.1) (st := s.2.2.2.1) (by rw [hlen]; exact hN)
 have hv : Z155 none_ n = some true ∧ Z167 none_ n = some true := by
  rw [Z155_eq, Z155_b, Z167_eq]
  cases none_ with
  | true => simp only [A5] at hn ⊢; subst hn; exact ⟨rfl, rfl⟩
  | false =>
   simp only [A4, A3, iteD] at hn ⊢
   rw [A6 (show n ≥ -1048576 from hn.1)]
   simp [hn.2]
 obtain ⟨l, l1, l2, l3, l4⟩ : ∃ l, Z157 base none_ n = some (l.map (B47 base)) ∧ Z170 none_ n = some l ∧ l.length <= 100 ∧ ∀ e ∈ l, EvOk base N e := by
  cases none_ with
  | true =>
   refine ⟨[⟨0, 1⟩], ?_, ?_, by simp, fun e he => ?_⟩
   ·rw [Z157_eq, Z157_b]; simp [B47]
   ·rw [Z170_eq]; rfl
   ·rw [A54] at he; subst he
    exact ⟨⟨by show 0 <= base + 0; omega, by show base + 0 < _; omega⟩, .inr rfl⟩
  | false =>
   simp only [A4, A3] at hn
   obtain ⟨t, t1, t2, t3⟩ := B758 hn
   obtain ⟨o1, o2⟩ := B877 (n := n) t1
   refine ⟨evAll n t, B677 (by omega) hn t1 t2, t3, by omega, fun e he => ?_⟩
   obtain ⟨⟨c0, c1⟩, c2⟩ := o2 e he
   exact ⟨⟨by omega, by omega⟩, c2⟩
 obtain ⟨r, r1, r2, r3⟩ := B743 l3 (by omega) (by omega) l4 h hB
 refine ⟨r, ?_, ?_, r3⟩
 ·rw [Z123_eq, Z123_b, B726]
  simp only [A1, show ¬ ((2 : Int) = 7) by decide, A8, A4, A3, hv.1, A19]
  rw [Z156_eq, Z156_b, Z159_eq, Z159_b]
  simp only [A1, A4, A3, ec.1]
  rw [Z108_eq, Z108_b]
  simp only [iteD]
  rw [A9 (by omega), w64 (by omega), A9 (by omega)]
  simp only [A1, A7, A19, A4, A3, l1]
  rw [r1]
  rfl
 ·rw [Z134_eq, hv.2]
  simp only [A1, A19, A4, A3]
  rw [Z168_eq, ec.2]
  simp only [A1]
  rw [Z169_eq]
  simp only [iteD]
  rw [A6 (by omega), A6 (by omega), w64 (by omega)]
  have : (48 : Int) <= ((s.2.2.2.1.length : Nat) : Int) - base := by omega
  simp only [this, A7, A1, A19, A4, A3, l2]
  rw [r2]
  rfl
theorem B615 : Z118l5 = Z127l5 := by
 funext s
 unfold Z118l5 Z127l5
 simp only [iteD]
 split
 ·rename_i h
  have e1 : s.1.tmod 128 = s.1 % 128 := B31 (by omega)
  have : u8.wrap (u8.wrap (s.1.tmod 128) + 128) = u8.wrap (i64.wrap (128 + s.1.tmod 128)) := by
   rw [e1, w8, w8, w64 (by omega), w8]; omega
  rw [this]
 ·rfl
theorem B913 (n : Int) : Z118 n = Z127 n := by rw [Z118_eq, Z118_b, Z127_eq, B615]
theorem B532 : ∀ s : Int × List Int, 0 <= s.1 ∧ (s.2.length : Int) + s.1 <= 2147483650 -> ∃ a, loop Z127l5 s = some a ∧ a.length <= 2147483650 := by
 refine B68 (fun (s : Int × List Int) => 0 <= s.1 ∧ (s.2.length : Int) + s.1 <= 2147483650) (fun (s : Int × List Int) => s.1.toNat) (fun (a : List Int) => a.length <= 2147483650) ?_
 rintro ⟨n, out⟩ ⟨h1, h2⟩
 simp only at h1 h2
 unfold Z127l5
 simp only [iteD]
 by_cases h : n > 0
 ·have e2 : n.tdiv 128 = n / 128 := B30 (by omega)
  rw [A6 h, A6 (by simp only [A25, A36]; omega)]
  refine .inl ⟨_, rfl, ?_, ?_⟩
  ·simp only [e2, A16, A25, A36]
   rw [w64 (by omega)]
   omega
  ·simp only [e2]
   rw [w64 (by omega)]
   omega
 ·rw [A9 h]
  exact .inr ⟨_, rfl, by omega⟩
theorem B963 (n : Int) : ∃ l e, Z127 n = some (e, l) ∧ l.length <= 2147483650 ∧ (0 <= n -> n <= 2147483647 -> e = 0) := by
 rw [Z127_eq]
 simp only [iteD]
 by_cases h1 : n < 0
 ·exact ⟨[], 2, by simp [h1], by simp, fun h => by omega⟩
 ·by_cases h2 : n > 2147483647
  ·exact ⟨[], 2, by simp [h1, h2], by simp, fun _ h => by omega⟩
  ·obtain ⟨a, ha, hl⟩ := B532 (i64.wrap (n.tdiv 128), [u8.wrap (n.tmod 128)]) (by
    simp only [A25, A36]
    rw [B30 (by omega), w64 (by omega)]; omega)
   exact ⟨a, 0, by simp [h1, h2, ha], hl, fun _ _ => rfl⟩
theorem B558 : ∀ a : List Int, cmpI a a = 0
 | [] => rfl
 | x :: l => by rw [cmpI, A9 (by omega), A9 (by omega)]; exact B558 l
theorem B263 : ∀ a b : List Int, cmpI b a = - cmpI a b
 | [], [] => rfl
 | [], _ :: _ => rfl
 | _ :: _, [] => rfl
 | x :: l, y :: m => by
  rw [cmpI, cmpI]
  by_cases h : x < y
  ·rw [A9 (by omega), A6 h, A6 h]; rfl
  ·by_cases g : y < x
   ·rw [A6 g, A9 h, A6 g]
   ·rw [A9 g, A9 h, A9 h, A9 g]; exact B263 l m
theorem B340 : ∀ a b : List Int, cmpI a b = 0 -> a = b
 | [], [] => fun _ => rfl
 | [], _ :: _ => fun h => by simp [cmpI] at h
 | _ :: _, [] => fun h => by simp [cmpI] at h
 | x :: l, y :: m => fun h => by
  rw [cmpI] at h
  split at h
  ·omega
  ·split at h
   ·omega
   ·rw [B340 l m h, show x = y by omega]
theorem B341 : ∀ a b c : List Int, cmpI a b < 0 -> cmpI b c < 0 -> cmpI a c < 0
 | [], [], _ => fun h => by simp [cmpI] at h
 | [], _ :: _, [] => fun _ h => by simp [cmpI] at h
 | [], _ :: _, _ :: _ => fun _ _ => by simp [cmpI]
 | _ :: _, [], _ => fun h => by simp [cmpI] at h
 | _ :: _, _ :: _, [] => fun _ h => by simp [cmpI] at h
 | x :: l, y :: m, z :: n => fun h g => by
  rw [cmpI] at h g ⊢
  by_cases h1 : x < y
  ·by_cases g1 : y < z
   ·rw [A6 (by omega)]; omega
   ·rw [A9 g1] at g
    split at g
    ·omega
    ·rw [A6 (by omega)]; omega
  ·rw [A9 h1] at h
   split at h
   ·omega
   ·by_cases g1 : y < z
    ·rw [A6 (by omega)]; omega
    ·rw [A9 g1] at g
     split at g
     ·omega
     ·rw [A9 (by omega), A9 (by omega)]; exact B341 l m n h g
def sfx (t : List Int) (x : Int) : List Int := t.drop x.toNat
def ltS (t : List Int) (x y : Int) : Bool := decide (cmpI (sfx t x) (sfx t y) < 0)
theorem swoS (t : List Int) : Sort.SWO (ltS t) where
 irrefl x := by simp [ltS, B558]
 trans x y z h g := by
  simp only [ltS, A20] at h g ⊢
  exact B341 _ _ _ h g
 ntrans x y z h g := by
  simp only [ltS, A59] at h g ⊢
  intro k
  by_cases e1 : cmpI (sfx t x) (sfx t y) = 0
  ·rw [B340 _ _ e1] at k; exact g k
  by_cases e2 : cmpI (sfx t y) (sfx t z) = 0
  ·rw [← B340 _ _ e2] at k; exact h k
  have n1 := B263 (sfx t x) (sfx t y)
  have n2 := B263 (sfx t y) (sfx t z)
  have n3 := B263 (sfx t x) (sfx t z)
  have := B341 _ _ _ (show cmpI (sfx t z) (sfx t y) < 0 by omega) (show cmpI (sfx t y) (sfx t x) < 0 by omega)
  omega
theorem B98 {t : List Int} {x y : Int} (hx : 0 <= x ∧ x <= (t.length : Int)) (hy : 0 <= y ∧ y <= (t.length : Int)) : Z201 x y t = some (cmpI (sfx t x) (sfx t y), t) := by
 rw [Z201_eq, Z201_b]
 simp only [hx, hy, A22, A5, Z209_eq, Z209_b, A1, cutL, List.take_length]
 rfl
theorem B33 (d : Array Int) (k : Nat) : rd d.toList (k : Int) = d[k]! := by
 unfold rd
 rw [A12, A92, Array.getElem?_toList]
 by_cases h : k < d.size
 ·rw [A65 h, getElem!_pos d k h]; rfl
 ·rw [Array.getElem?_eq_none (by omega), getElem!_neg d k h]; rfl
theorem B52 (d : Array Int) (i j : Nat) : (d.toList.set i d[j]!).set j d[i]! = (Sort.swp d i j).toList := by
 simp [Sort.swp]
def Pl (t : List Int) (d : Array Int) : Prop := ∀ k, k < d.size -> 0 <= d[k]! ∧ d[k]! <= (t.length : Int)
theorem Pl.perm {t : List Int} {d d' : Array Int} {a b : Nat} (h : Pl t d) (hb : b <= d.size) (p : Sort.PermIn a b d d') : Pl t d' := by
 intro k hk
 rw [p.1] at hk
 by_cases h1 : k < a ∨ b <= k
 ·rw [p.2.1 k h1]; exact h k hk
 ·exact Sort.permIn_all d d' a b (fun x => 0 <= x ∧ x <= (t.length : Int)) hb p (fun i _ hi => h i (by omega)) k (by omega) (by omega)
theorem Pl.swp {t : List Int} {d : Array Int} {i j : Nat} (h : Pl t d) (hi : i < d.size) (hj : j < d.size) : Pl t (Sort.swp d i j) :=
 h.perm (A11 _) (Sort.swp_permIn d 0 d.size i j (A24 _) hi (A24 _) hj (A11 _))
theorem szs (d : Array Int) (i j : Nat) : (Sort.swp d i j).size = d.size := Sort.size_swp d i j
theorem B865 {t : List Int} {a : Nat} : ∀ (j : Nat) (d : Array Int), Pl t d -> j < d.size -> d.size < 4611686018427387904 ->
  loop (Z195l4 (a : Int)) ((j : Int), d.toList, t) = some ((Sort.insInner (ltS t) a j d).toList, t) := by
 intro j
 induction j with
 | zero =>
  intro d hp hj hs
  refine B4 ?_
  unfold Z195l4 Z195l4_b
  have h1 : ¬ (((0 : Nat) : Int) > (a : Int)) := by omega
  simp only [h1, A8, A4, A3, A1, Sort.insInner]
 | succ j ih =>
  intro d hp hj hs
  have w1 : i64.wrap (((j + 1 : Nat) : Int) - 1) = ((j : Nat) : Int) := by rw [w64 (by omega)]; omega
  by_cases h1 : j + 1 > a
  ·have h1' : ((j + 1 : Nat) : Int) > (a : Int) := by omega
   have hc := B98 (hp (j + 1) hj) (hp j (by omega))
   have hj' : j < d.size := by omega
   cases hl : ltS t d[j + 1]! d[j]! with
   | false =>
    refine B4 ?_
    unfold Z195l4 Z195l4_b
    have hl' : decide (cmpI (sfx t d[j + 1]!) (sfx t d[j]!) < 0) = false := hl
    simp only [h1', A7, A5, w1, A26, A14, A13, A10, hj, hj', B33, hc, A1, hl', A4, A3, Sort.insInner, h1, hl, A110, A7]
   | true =>
    rw [B6 (s' := ((j : Int), (Sort.swp d (j + 1) j).toList, t)), ih _ (hp.swp hj hj') (by rw [szs]; exact hj') (by rw [szs]; exact hs)]
    ·simp only [Sort.insInner, h1, hl, A7, A102, A5]
    ·unfold Z195l4 Z195l4_b
     have hl' : decide (cmpI (sfx t d[j + 1]!) (sfx t d[j]!) < 0) = true := hl
     simp only [h1', A7, A5, w1, A26, A58, A14, A13, A10, hj, hj', B33, hc, A1, hl', A12, B52]
  ·refine B4 ?_
   unfold Z195l4 Z195l4_b
   have h1' : ¬ (((j + 1 : Nat) : Int) > (a : Int)) := by omega
   simp only [h1', A8, A4, A3, A1, Sort.insInner, h1, A56]
theorem B506 {lt : Int -> Int -> Bool} {a : Nat} : ∀ (j : Nat) (d : Array Int), j < d.size -> Sort.PermIn 0 d.size d (Sort.insInner lt a j d)
 | 0, d, _ => Sort.permIn_refl _ _ _
 | j + 1, d, hj => by
  rw [Sort.insInner]
  split
  ·have h := B506 (lt := lt) (a := a) j (Sort.swp d (j + 1) j) (by rw [szs]; omega)
   rw [szs] at h
   exact Sort.permIn_trans _ _ _ _ _ (Sort.swp_permIn d 0 d.size (j + 1) j (A24 _) hj (A24 _) (by omega) (A11 _)) h
  ·exact Sort.permIn_refl _ _ _
theorem B823 {t : List Int} {a b : Nat} : ∀ (n i : Nat) (d : Array Int), b - i <= n -> Pl t d -> b <= d.size -> d.size < 4611686018427387904 ->
  loop (Z195l1 (a : Int) (b : Int)) ((i : Int), d.toList, t) = some ((Sort.insOuter (ltS t) a b i d).toList, t) := by
 intro n
 induction n with
 | zero =>
  intro i d hn hp hb hs
  refine B4 ?_
  unfold Z195l1 Z195l1_b
  rw [Sort.insOuter]
  simp only [A10, show ¬ i < b by omega, A8, A4, A3]
 | succ n ih =>
  intro i d hn hp hb hs
  rw [Sort.insOuter]
  by_cases h : i < b
  ·have hpm := B506 (lt := ltS t) (a := a) i d (by omega)
   have hw : i64.wrap (((i : Nat) : Int) + 1) = ((i + 1 : Nat) : Int) := w64 (by omega)
   rw [B6 (s' := (((i + 1 : Nat) : Int), (Sort.insInner (ltS t) a i d).toList, t)), ih (i + 1) _ (by omega) (hp.perm (A11 _) hpm) (by rw [hpm.1]; exact hb) (by rw [hpm.1]; exact hs), A6 h]
   unfold Z195l1 Z195l1_b
   simp only [A10, h, A7, A5, B865 i d hp (by omega) hs, A1, hw]
  ·rw [A9 h]
   refine B4 ?_
   unfold Z195l1 Z195l1_b
   simp only [A10, h, A8, A4, A3]
theorem B953 {t : List Int} {a b : Nat} {d : Array Int} (hp : Pl t d) (hab : a <= b) (hb : b <= d.size) (hs : d.size < 4611686018427387904) :
  Z195 (a : Int) (b : Int) d.toList t = some ((Sort.insertionSort (ltS t) d a b).toList, t) := by
 rw [Z195_eq, Z195_b]
 have hw : i64.wrap (((a : Nat) : Int) + 1) = ((a + 1 : Nat) : Int) := w64 (by omega)
 simp only [hw, B823 (b - (a + 1)) (a + 1) d (A11 _) hp hb hs, A1, Sort.insertionSort]
theorem B380 {lt : Int -> Int -> Bool} {hi first : Nat} : ∀ (n root : Nat) (d : Array Int), hi - root <= n -> first + hi <= d.size -> Sort.PermIn 0 d.size d (Sort.siftDown lt hi first root d) := by
 intro n
 induction n with
 | zero => intro root d hn hs; rw [Sort.siftDown, dif_pos (by omega)]; exact Sort.permIn_refl _ _ _
 | succ n ih =>
  intro root d hn hs
  have go : ∀ c, root < c -> c < hi -> Sort.PermIn 0 d.size d (Sort.siftDown lt hi first c (Sort.swp d (first + root) (first + c))) := by
   intro c h1 h2
   have h := ih c (Sort.swp d (first + root) (first + c)) (by omega) (by rw [szs]; exact hs)
   rw [szs] at h
   exact Sort.permIn_trans _ _ _ _ _ (Sort.swp_permIn d 0 d.size _ _ (A24 _) (by omega) (A24 _) (by omega) (A11 _)) h
  rw [Sort.siftDown]
  split
  ·exact Sort.permIn_refl _ _ _
  ·rename_i h1
   split
   ·split
    ·exact Sort.permIn_refl _ _ _
    ·split
     ·rename_i h2; exact go _ (by omega) h2
     ·exact Sort.permIn_refl _ _ _
   ·split
    ·exact Sort.permIn_refl _ _ _
    ·exact go _ (by omega) (by omega)
theorem B917 {t : List Int} {hi first : Nat} : ∀ (n root : Nat) (d : Array Int), hi - root <= n -> Pl t d -> first + hi <= d.size -> d.size < 2305843009213693952 -> root <= d.size ->
  ∃ r, loop (Z204l1 (hi : Int) (first : Int)) ((root : Int), d.toList, t) = some r ∧ (r = .inl ((Sort.siftDown (ltS t) hi first root d).toList, t) ∨ r = .inr ((Sort.siftDown (ltS t) hi first root d).toList, t)) := by
 intro n
 induction n with
 | zero =>
  intro root d hn hp hh hs hr
  refine ⟨_, B4 (a := .inl (d.toList, t)) ?_, .inl ?_⟩
  ·unfold Z204l1 Z204l1_b
   have w1 : i64.wrap (2 * ((root : Nat) : Int)) = ((2 * root : Nat) : Int) := by rw [w64 (by omega)]; omega
   have w2 : i64.wrap (((2 * root : Nat) : Int) + 1) = ((2 * root + 1 : Nat) : Int) := w64 (by omega)
   simp only [w1, w2, ge_iff_le, A55, show hi <= 2 * root + 1 by omega, A7, A5]
  ·rw [Sort.siftDown, dif_pos (by omega)]
 | succ n ih =>
  intro root d hn hp hh hs hr
  have w1 : i64.wrap (2 * ((root : Nat) : Int)) = ((2 * root : Nat) : Int) := by rw [w64 (by omega)]; omega
  have w2 : i64.wrap (((2 * root : Nat) : Int) + 1) = ((2 * root + 1 : Nat) : Int) := w64 (by omega)
  by_cases h1 : hi <= 2 * root + 1
  ·refine ⟨_, B4 (a := .inl (d.toList, t)) ?_, .inl ?_⟩
   ·unfold Z204l1 Z204l1_b
    simp only [w1, w2, ge_iff_le, A55, h1, A7, A5]
   ·rw [Sort.siftDown, dif_pos h1]
  have w3 : i64.wrap (((2 * root + 1 : Nat) : Int) + 1) = ((2 * root + 2 : Nat) : Int) := w64 (by omega)
  have w4 : i64.wrap (((first : Nat) : Int) + ((2 * root + 1 : Nat) : Int)) = ((first + (2 * root + 1) : Nat) : Int) := by rw [w64 (by omega)]; omega
  have w5 : i64.wrap (((first + (2 * root + 1) : Nat) : Int) + 1) = ((first + (2 * root + 1) + 1 : Nat) : Int) := w64 (by omega)
  have w6 : i64.wrap (((first : Nat) : Int) + ((root : Nat) : Int)) = ((first + root : Nat) : Int) := by rw [w64 (by omega)]; omega
  have w7 : i64.wrap (((first : Nat) : Int) + ((2 * root + 2 : Nat) : Int)) = ((first + (2 * root + 2) : Nat) : Int) := by rw [w64 (by omega)]; omega
  have sr : first + root < d.size := by omega
  -- the child c: the rest of the round
  have go : ∀ c, (c = 2 * root + 1 ∨ c = 2 * root + 2) -> c < hi -> ∀ P : Option ((Int × List Int × List Int) ⊕ ((List Int × List Int) ⊕ (List Int × List Int))),
    P = (if (!ltS t d[first + root]! d[first + c]!) = true then some (.inr (.inr (d.toList, t))) else some (.inl ((c : Int), (Sort.swp d (first + root) (first + c)).toList, t))) ->
    Z204l1 (hi : Int) (first : Int) ((root : Int), d.toList, t) = P ->
    Sort.siftDown (ltS t) hi first root d = (if (!ltS t d[first + root]! d[first + c]!) = true then d else Sort.siftDown (ltS t) hi first c (Sort.swp d (first + root) (first + c))) ->
    ∃ r, loop (Z204l1 (hi : Int) (first : Int)) ((root : Int), d.toList, t) = some r ∧ (r = .inl ((Sort.siftDown (ltS t) hi first root d).toList, t) ∨ r = .inr ((Sort.siftDown (ltS t) hi first root d).toList, t)) := by
   intro c hc hch P hP hl hk
   rw [hk]
   rw [hP] at hl
   by_cases hx : (!ltS t d[first + root]! d[first + c]!) = true
   ·rw [A6 hx] at hl ⊢
    exact ⟨_, B4 hl, .inr rfl⟩
   ·rw [A9 hx] at hl ⊢
    rw [B6 hl]
    exact ih c _ (by omega) (hp.swp sr (by omega)) (by rw [szs]; exact hh) (by rw [szs]; exact hs) (by rw [szs]; omega)
  have c1 := B98 (hp (first + root) sr) (hp (first + (2 * root + 1)) (by omega))
  have s1 : first + (2 * root + 1) < d.size := by omega
  have n1 : ¬ hi <= 2 * root + 1 := h1
  by_cases h2 : 2 * root + 2 < hi
  ·have s2 : first + (2 * root + 2) < d.size := by omega
   have s2' : first + (2 * root + 1) + 1 < d.size := by omega
   have c2 := B98 (hp (first + root) sr) (hp (first + (2 * root + 2)) s2)
   have c3 := B98 (hp (first + (2 * root + 1)) s1) (hp (first + (2 * root + 1) + 1) s2')
   have c0 : ((2 * root + 1 + 1 : Nat) : Int) < (hi : Int) := by omega
   cases hl : ltS t d[first + (2 * root + 1)]! d[first + (2 * root + 1) + 1]! with
   | true =>
    have hl' : decide (cmpI (sfx t d[first + (2 * root + 1)]!) (sfx t d[first + (2 * root + 1) + 1]!) < 0) = true := hl
    refine go (2 * root + 2) (.inr rfl) h2 _ rfl ?_ ?_
    ·unfold Z204l1 Z204l1_b
     simp only [w1, w2, w3, w4, w5, w6, w7, ge_iff_le, A55, A10, n1, h2, s1, s2, s2', sr, A8, A7, A4, A3, A5, A26, A58, A14, A13, B33, c3, c2, A1, hl', A12, B52]
     rfl
    ·rw [Sort.siftDown, dif_neg h1]
     simp only [show 2 * root + 1 + 1 < hi from h2, hl, A7, A102, A5, h2, dite_true]
   | false =>
    have hl' : decide (cmpI (sfx t d[first + (2 * root + 1)]!) (sfx t d[first + (2 * root + 1) + 1]!) < 0) = false := hl
    refine go (2 * root + 1) (.inl rfl) (by omega) _ rfl ?_ ?_
    ·unfold Z204l1 Z204l1_b
     simp only [w1, w2, w3, w4, w5, w6, w7, ge_iff_le, A55, A10, n1, h2, s1, s2, s2', sr, A8, A7, A4, A3, A5, A26, A58, A14, A13, B33, c3, c1, A1, hl', A12, B52]
     rfl
    ·rw [Sort.siftDown, dif_neg h1]
     simp only [hl, A110, A4, A3]
  ·refine go (2 * root + 1) (.inl rfl) (by omega) _ rfl ?_ ?_
   ·unfold Z204l1 Z204l1_b
    simp only [w1, w2, w3, w4, w5, w6, w7, ge_iff_le, A55, A10, n1, h2, s1, sr, A8, A7, A4, A3, A5, A26, A58, A14, A13, B33, c1, A1, A12, B52]
    rfl
   ·rw [Sort.siftDown, dif_neg h1]
    simp only [show ¬ 2 * root + 1 + 1 < hi from h2, A8, A56, A4, A3]
theorem B461 {t : List Int} {hi first root : Nat} {d : Array Int} (hp : Pl t d) (hh : first + hi <= d.size) (hs : d.size < 2305843009213693952) (hr : root <= d.size) :
  Z204 (root : Int) (hi : Int) (first : Int) d.toList t = some ((Sort.siftDown (ltS t) hi first root d).toList, t) := by
 rw [Z204_eq, Z204_b]
 obtain ⟨r, h1, h2⟩ := B917 (hi - root) root d (A11 _) hp hh hs hr
 rw [h1]
 rcases h2 with h2 | h2 <;> rw [h2] <;> rfl
theorem B771 {t : List Int} {hi a : Nat} : ∀ (k : Nat) (d : Array Int), Pl t d -> a + hi <= d.size -> d.size < 2305843009213693952 -> k <= d.size ->
  loop (Z196l4 (a : Int) (hi : Int)) ((k : Int) - 1, d.toList, t) = some ((Sort.heapBuild (ltS t) hi a k d).toList, t) := by
 intro k
 induction k with
 | zero =>
  intro d hp hh hs hk
  refine B4 ?_
  unfold Z196l4 Z196l4_b
  simp only [show ¬ (((0 : Nat) : Int) - 1 ≥ 0) by omega, A8, A4, A3, Sort.heapBuild]
 | succ k ih =>
  intro d hp hh hs hk
  have hpm := B380 (lt := ltS t) (hi := hi) (first := a) (hi - k) k d (A11 _) hh
  have w1 : ((k + 1 : Nat) : Int) - 1 = (k : Int) := by omega
  have w2 : i64.wrap ((k : Int) - 1) = (k : Int) - 1 := w64 (by omega)
  rw [w1, B6 (s' := ((k : Int) - 1, (Sort.siftDown (ltS t) hi a k d).toList, t)), ih _ (hp.perm (A11 _) hpm) (by rw [hpm.1]; exact hh) (by rw [hpm.1]; exact hs) (by rw [hpm.1]; omega)]
  ·rfl
  ·unfold Z196l4 Z196l4_b
   simp only [show ((k : Nat) : Int) ≥ 0 by omega, A7, A5, B461 hp hh hs (show k <= d.size by omega), A1, w2]
theorem B705 {t : List Int} {a : Nat} : ∀ (k : Nat) (d : Array Int), Pl t d -> a + k <= d.size -> d.size < 2305843009213693952 ->
  loop (Z196l8 (a : Int)) ((k : Int) - 1, d.toList, t) = some ((Sort.heapPop (ltS t) a k d).toList, t) := by
 intro k
 induction k with
 | zero =>
  intro d hp hh hs
  refine B4 ?_
  unfold Z196l8 Z196l8_b
  simp only [show ¬ (((0 : Nat) : Int) - 1 ≥ 0) by omega, A8, A4, A3, Sort.heapPop]
 | succ k ih =>
  intro d hp hh hs
  have w1 : ((k + 1 : Nat) : Int) - 1 = (k : Int) := by omega
  have w2 : i64.wrap ((k : Int) - 1) = (k : Int) - 1 := w64 (by omega)
  have w3 : i64.wrap ((a : Int) + (k : Int)) = ((a + k : Nat) : Int) := by rw [w64 (by omega)]; omega
  have s1 : a < d.size := by omega
  have s2 : a + k < d.size := by omega
  have hp' := hp.swp s1 s2
  have hpm := B380 (lt := ltS t) (hi := k) (first := a) k 0 (Sort.swp d a (a + k)) (A11 _) (by rw [szs]; omega)
  have hsf := B461 (hi := k) (first := a) (root := 0) hp' (by rw [szs]; omega) (by rw [szs]; exact hs) (A24 _)
  have z0 : ((0 : Nat) : Int) = 0 := rfl
  rw [z0] at hsf
  rw [szs] at hpm
  rw [w1, B6 (s' := ((k : Int) - 1, (Sort.siftDown (ltS t) k a 0 (Sort.swp d a (a + k))).toList, t)), ih _ (hp'.perm (by rw [szs]; exact A11 _) hpm) (by rw [hpm.1, szs]; omega) (by rw [hpm.1, szs]; exact hs)]
  ·rfl
  ·unfold Z196l8 Z196l8_b
   simp only [show ((k : Nat) : Int) ≥ 0 by omega, A7, A5, w3, w2, A26, A58, A14, A13, A10, s1, s2, B33, A12, B52, hsf, A1]
theorem B428 {lt : Int -> Int -> Bool} {hi a : Nat} : ∀ (k : Nat) (d : Array Int), a + hi <= d.size -> Sort.PermIn 0 d.size d (Sort.heapBuild lt hi a k d)
 | 0, d, _ => Sort.permIn_refl _ _ _
 | k + 1, d, h => by
  have h1 := B380 (lt := lt) (hi := hi) (first := a) (hi - k) k d (A11 _) h
  have h2 := B428 (lt := lt) (hi := hi) (a := a) k (Sort.siftDown lt hi a k d) (by rw [h1.1]; exact h)
  rw [h1.1] at h2
  exact Sort.permIn_trans _ _ _ _ _ h1 h2
theorem B929 {t : List Int} {a b : Nat} {d : Array Int} (hp : Pl t d) (hab : a <= b) (hb : b <= d.size) (hs : d.size < 2305843009213693952) :
  Z196 (a : Int) (b : Int) d.toList t = some ((Sort.heapSort (ltS t) d a b).toList, t) := by
 rw [Z196_eq, Z196_b]
 have w1 : i64.wrap ((b : Int) - (a : Int)) = ((b - a : Nat) : Int) := by rw [w64 (by omega)]; omega
 have w2 : i64.wrap (((b - a : Nat) : Int) - 1) = ((b - a : Nat) : Int) - 1 := w64 (by omega)
 have w3 : i64.wrap ((((b - a : Nat) : Int) - 1).tdiv 2) = (((b - a - 1) / 2 + 1 : Nat) : Int) - 1 := by
  by_cases h : b - a = 0
  ·rw [h]; rfl
  ·rw [B30 (by omega), w64 (by omega)]; omega
 have hpm := B428 (lt := ltS t) (hi := b - a) (a := a) ((b - a - 1) / 2 + 1) d (by omega)
 by_cases h0 : d.size = 0
 ·-- nothing at all: one idle round
  have ea : a = 0 := by omega
  have eb : b = 0 := by omega
  subst ea; subst eb
  have e1 := B461 (t := t) (hi := 0) (first := 0) (root := 0) hp (by omega) hs (A24 _)
  have e2 : Sort.siftDown (ltS t) 0 0 0 d = d := by rw [Sort.siftDown, dif_pos (by omega)]
  rw [e2] at e1
  have z0 : ((0 : Nat) : Int) = 0 := rfl
  rw [z0] at e1
  have e3 : loop (Z196l4 ((0 : Nat) : Int) ((0 - 0 : Nat) : Int)) ((((0 - 0 - 1) / 2 + 1 : Nat) : Int) - 1, d.toList, t) = some (d.toList, t) := by
   rw [B6 (s' := ((-1 : Int), d.toList, t))]
   ·refine B4 ?_
    unfold Z196l4 Z196l4_b
    simp
   ·unfold Z196l4 Z196l4_b
    have : i64.wrap (0 - 1) = -1 := by rw [w64 (by omega)]; omega
    have this2 : i64.wrap (-1) = -1 := w64 (by omega)
    simp [e1, this, this2]
  simp only [w1, w2, w3, e3, A1]
  have e4 := B705 (t := t) (a := 0) 0 d hp (by omega) hs
  simp only [show ((0 - 0 : Nat) : Int) - 1 = ((0 : Nat) : Int) - 1 from rfl, e4, A1]
  simp only [Sort.heapSort, Sort.heapPop, Sort.heapBuild, Nat.sub_self, Nat.zero_sub, Nat.zero_div, A28, e2]
 ·have hz := hpm.1
  have hq := B705 (t := t) (a := a) (b - a) (Sort.heapBuild (ltS t) (b - a) a ((b - a - 1) / 2 + 1) d) (hp.perm (A11 _) hpm) (by omega) (by omega)
  simp only [w1, w2, w3, B771 _ d hp (show a + (b - a) <= d.size by omega) hs (show (b - a - 1) / 2 + 1 <= d.size by omega), A1, hq, Sort.heapSort]
theorem B870 {b : Nat} : ∀ (n i j : Nat) (d : Array Int), j - i <= n -> j < d.size -> d.size < 2305843009213693952 ->
  loop Z199l2 ((i : Int), (j : Int), d.toList) = some (Sort.reverseLoop i j d).toList := by
 intro n
 induction n with
 | zero =>
  intro i j d hn hj hs
  refine B4 ?_
  unfold Z199l2
  rw [Sort.reverseLoop, A9 (show ¬ i < j by omega)]
  simp only [A10, show ¬ i < j by omega, A8, A4, A3]
 | succ n ih =>
  intro i j d hn hj hs
  rw [Sort.reverseLoop]
  by_cases h : i < j
  ·have w1 : i64.wrap ((i : Int) + 1) = ((i + 1 : Nat) : Int) := w64 (by omega)
   have w2 : i64.wrap ((j : Int) - 1) = ((j - 1 : Nat) : Int) := by rw [w64 (by omega)]; omega
   have hi : i < d.size := by omega
   rw [A6 h, B6 (s' := (((i + 1 : Nat) : Int), ((j - 1 : Nat) : Int), (Sort.swp d i j).toList)), ih (i + 1) (j - 1) _ (by omega) (by rw [szs]; omega) (by rw [szs]; exact hs)]
   unfold Z199l2
   simp only [A10, h, A7, A5, w1, w2, A26, A58, A14, A13, hi, hj, B33, A12, B52]
  ·rw [A9 h]
   refine B4 ?_
   unfold Z199l2
   simp only [A10, h, A8, A4, A3]
theorem B942 {t : List Int} {a b : Nat} {d : Array Int} (hab : a < b) (hb : b <= d.size) (hs : d.size < 2305843009213693952) :
  Z199 (a : Int) (b : Int) d.toList t = some ((Sort.reverseRange d a b).toList, t) := by
 rw [Z199_eq, Z199_b]
 have w1 : i64.wrap ((b : Int) - 1) = ((b - 1 : Nat) : Int) := by rw [w64 (by omega)]; omega
 simp only [w1, B870 (b := b) (b - 1 - a) a (b - 1) d (A11 _) (by omega) hs, A1, Sort.reverseRange]
theorem B390 {t : List Int} {a b : Nat} {d : Array Int} {s : Int} (hp : Pl t d) (ha : a < d.size) (hb : b < d.size) :
  ∃ x y s', Z210 (a : Int) (b : Int) d.toList s t = some (((x : Nat) : Int), ((y : Nat) : Int), d.toList, s', t) ∧ (x = a ∧ y = b ∨ x = b ∧ y = a) := by
 rw [Z210_eq, Z210_b]
 simp only [A26, A14, A13, A10, ha, hb, A5, B33, B98 (hp b hb) (hp a ha), A1]
 split
 ·exact ⟨b, a, _, rfl, .inr ⟨rfl, rfl⟩⟩
 ·exact ⟨a, b, _, rfl, .inl ⟨rfl, rfl⟩⟩
theorem B382 {t : List Int} {a b c : Nat} {d : Array Int} {s : Int} (hp : Pl t d) (ha : a < d.size) (hb : b < d.size) (hc : c < d.size) :
  ∃ x s', Z208 (a : Int) (b : Int) (c : Int) d.toList s t = some (((x : Nat) : Int), d.toList, s', t) ∧ (x = a ∨ x = b ∨ x = c) := by
 rw [Z208_eq, Z208_b]
 obtain ⟨x, y, s1, e1, h1⟩ := B390 (s := s) hp ha hb
 have hy : y < d.size := by omega
 obtain ⟨x2, y2, s2, e2, h2⟩ := B390 (s := s1) hp hy hc
 have hx : x < d.size := by omega
 have hx2 : x2 < d.size := by omega
 obtain ⟨x3, y3, s3, e3, h3⟩ := B390 (s := s2) hp hx hx2
 simp only [e1, e2, e3, A1]
 exact ⟨y3, s3, rfl, by omega⟩
theorem B256 {t : List Int} {a : Nat} {d : Array Int} {s : Int} (hp : Pl t d) (h0 : 0 < a) (ha : a + 1 < d.size) (hs : d.size < 2305843009213693952) :
  ∃ x s', Z207 (a : Int) d.toList s t = some (((x : Nat) : Int), d.toList, s', t) ∧ (a - 1 <= x ∧ x <= a + 1) := by
 rw [Z207_eq, Z207_b]
 have w1 : i64.wrap ((a : Int) - 1) = ((a - 1 : Nat) : Int) := by rw [w64 (by omega)]; omega
 have w2 : i64.wrap ((a : Int) + 1) = ((a + 1 : Nat) : Int) := w64 (by omega)
 obtain ⟨x, s1, e1, h1⟩ := B382 (s := s) hp (show a - 1 < d.size by omega) (show a < d.size by omega) ha
 simp only [w1, w2, e1, A1]
 exact ⟨x, s1, rfl, by omega⟩
theorem B798 {t : List Int} {a b : Nat} {d : Array Int} (hp : Pl t d) (hab : a < b) (hb : b <= d.size) (hs : d.size < 2305843009213693952) :
  ∃ x h, Z198 (a : Int) (b : Int) d.toList t = some (((x : Nat) : Int), h, d.toList, t) ∧ a <= x ∧ x < b := by
 rw [Z198_eq, Z198_b]
 have w1 : i64.wrap ((b : Int) - (a : Int)) = ((b - a : Nat) : Int) := by rw [w64 (by omega)]; omega
 have w2 : i64.wrap (((b - a : Nat) : Int).tdiv 4) = (((b - a) / 4 : Nat) : Int) := by rw [B30 (by omega), w64 (by omega)]; omega
 have w3 : i64.wrap ((((b - a) / 4 : Nat) : Int) * 1) = (((b - a) / 4 : Nat) : Int) := by rw [w64 (by omega)]; omega
 have w4 : i64.wrap ((((b - a) / 4 : Nat) : Int) * 2) = (((b - a) / 4 * 2 : Nat) : Int) := by rw [w64 (by omega)]; omega
 have w5 : i64.wrap ((((b - a) / 4 : Nat) : Int) * 3) = (((b - a) / 4 * 3 : Nat) : Int) := by rw [w64 (by omega)]; omega
 have w6 : i64.wrap ((a : Int) + (((b - a) / 4 : Nat) : Int)) = ((a + (b - a) / 4 : Nat) : Int) := by rw [w64 (by omega)]; omega
 have w7 : i64.wrap ((a : Int) + (((b - a) / 4 * 2 : Nat) : Int)) = ((a + (b - a) / 4 * 2 : Nat) : Int) := by rw [w64 (by omega)]; omega
 have w8 : i64.wrap ((a : Int) + (((b - a) / 4 * 3 : Nat) : Int)) = ((a + (b - a) / 4 * 3 : Nat) : Int) := by rw [w64 (by omega)]; omega
 -- what is B221 the choice
 have last : ∀ (x : Nat) (s : Int), a <= x -> x < b -> ∃ x' h, (if (decide (s = 0)) = true then some (((x : Nat) : Int), (1 : Int), d.toList, t) else if (decide (s = 12)) = true then some (((x : Nat) : Int), 2, d.toList, t) else some (((x : Nat) : Int), 0, d.toList, t)) = some (((x' : Nat) : Int), h, d.toList, t) ∧ a <= x' ∧ x' < b := by
  intro x s h1 h2
  split
  ·exact ⟨x, _, rfl, h1, h2⟩
  ·split
   ·exact ⟨x, _, rfl, h1, h2⟩
   ·exact ⟨x, _, rfl, h1, h2⟩
 simp only [w1, w2, w3, w4, w5, w6, w7, w8]
 by_cases h8 : 8 <= b - a
 ·have g8 : decide (((b - a : Nat) : Int) ≥ 8) = true := by simp only [A20]; omega
  simp only [g8, A5]
  by_cases h50 : 50 <= b - a
  ·have g50 : decide (((b - a : Nat) : Int) ≥ 50) = true := by simp only [A20]; omega
   obtain ⟨x1, s1, e1, k1⟩ := B256 (s := 0) hp (show 0 < a + (b - a) / 4 by omega) (show a + (b - a) / 4 + 1 < d.size by omega) hs
   obtain ⟨x2, s2, e2, k2⟩ := B256 (s := s1) hp (show 0 < a + (b - a) / 4 * 2 by omega) (show a + (b - a) / 4 * 2 + 1 < d.size by omega) hs
   obtain ⟨x3, s3, e3, k3⟩ := B256 (s := s2) hp (show 0 < a + (b - a) / 4 * 3 by omega) (show a + (b - a) / 4 * 3 + 1 < d.size by omega) hs
   obtain ⟨x, s, e, k⟩ := B382 (s := s3) hp (show x1 < d.size by omega) (show x2 < d.size by omega) (show x3 < d.size by omega)
   simp only [g50, A5, e1, e2, e3, e, A1]
   exact last x s (by omega) (by omega)
  ·have g50 : decide (((b - a : Nat) : Int) ≥ 50) = false := by simp only [A59]; omega
   obtain ⟨x, s, e, k⟩ := B382 (s := 0) hp (show a + (b - a) / 4 < d.size by omega) (show a + (b - a) / 4 * 2 < d.size by omega) (show a + (b - a) / 4 * 3 < d.size by omega)
   simp only [g50, A4, A3, e, A1]
   exact last x s (by omega) (by omega)
 ·have g8 : decide (((b - a : Nat) : Int) ≥ 8) = false := by simp only [A59]; omega
  simp only [g8, A4, A3, A1]
  exact last _ 0 (by omega) (by omega)
theorem B911 (r : Int) (m : Nat) (hm : m < 18446744073709551616) : ∃ k : Nat, iand .u64 r (m : Int) = (k : Int) ∧ k <= m := by
 unfold iand
 refine ⟨(BitVec.ofInt 64 r &&& BitVec.ofInt 64 (m : Int)).toNat, ?_, ?_⟩
 ·rw [wu64]
  have := (BitVec.ofInt 64 r &&& BitVec.ofInt 64 (m : Int)).isLt
  show (((BitVec.ofInt 64 r &&& BitVec.ofInt 64 (m : Int)).toNat : Nat) : Int) % 18446744073709551616 = _
  omega
 ·rw [BitVec.toNat_and]
  refine A67 Nat.and_le_right ?_
  rw [BitVec.toNat_ofInt]
  have : ((m : Int) % (2 ^ 64 : Nat)).toNat = m := by omega
  omega
theorem B838 {t : List Int} {a b : Nat} {d : Array Int} (hab : a <= b) (hb : b <= d.size) (hs : d.size < 16777216) :
  ∃ e : Array Int, Z197 (a : Int) (b : Int) d.toList t = some (e.toList, t) ∧ Sort.PermIn a b d e := by
 rw [Z197_eq, Z197_b]
 have w1 : i64.wrap ((b : Int) - (a : Int)) = ((b - a : Nat) : Int) := by rw [w64 (by omega)]; omega
 simp only [w1]
 by_cases h8 : 8 <= b - a
 ·have g8 : decide (((b - a : Nat) : Int) ≥ 8) = true := by simp only [A20]; omega
  have u1 : u64.wrap ((b - a : Nat) : Int) = ((b - a : Nat) : Int) := by rw [wu64]; omega
  obtain ⟨L, l1, l2, l3⟩ := B491 (x := ((b - a : Nat) : Int)) (by omega) (by omega)
  have hL : ((2 : Nat) ^ L : Nat) <= 2 * (b - a) := by
   obtain ⟨g1, g2, _⟩ := l2
   have e : (2 : Nat) ^ L = 2 ^ (L - 1) * 2 := by rw [← Nat.pow_succ]; congr 1; omega
   have : ((2 ^ (L - 1) : Nat) : Int) <= ((b - a : Nat) : Int) := by exact_mod_cast g2
   omega
  have hL0 : 0 < (2 : Nat) ^ L := Nat.pow_pos (by decide)
  have n1 : Z205 ((b - a : Nat) : Int) = some (((2 ^ L : Nat) : Nat) : Int) := by
   rw [Z205_eq, Z205_b]
   have : ishl .u64 1 (L : Int) = (((2 ^ L : Nat) : Nat) : Int) := by
    unfold ishl
    have h64 : IntKind.u64.bits = 64 := rfl
    rw [h64, wu64, A12, show min L 64 = L by omega, Int.one_mul]
    have : (2 : Int) ^ L = (((2 ^ L : Nat) : Nat) : Int) := by push_cast; rfl
    rw [this]; omega
   simp only [u1, l1, A1, show ¬ ((L : Nat) : Int) < 0 by omega, A3, this]
  have w2 : i64.wrap (((b - a : Nat) : Int).tdiv 4) = (((b - a) / 4 : Nat) : Int) := by rw [B30 (by omega), w64 (by omega)]; omega
  have w4 : i64.wrap ((((b - a) / 4 : Nat) : Int) * 2) = (((b - a) / 4 * 2 : Nat) : Int) := by rw [w64 (by omega)]; omega
  have w7 : i64.wrap ((a : Int) + (((b - a) / 4 * 2 : Nat) : Int)) = ((a + (b - a) / 4 * 2 : Nat) : Int) := by rw [w64 (by omega)]; omega
  have w8 : i64.wrap (((a + (b - a) / 4 * 2 : Nat) : Int) - 1) = ((a + (b - a) / 4 * 2 - 1 : Nat) : Int) := by rw [w64 (by omega)]; omega
  have w9 : i64.wrap (((a + (b - a) / 4 * 2 : Nat) : Int) + 1) = ((a + (b - a) / 4 * 2 + 1 : Nat) : Int) := w64 (by omega)
  simp only [g8, A5, u1, n1, A1, w2, w4, w7, w8]
  obtain ⟨o, e1, e, r, e2, e3⟩ := B68 (f := Z197l5 (a : Int) ((b - a : Nat) : Int) ((2 ^ L : Nat) : Int))
   (fun s => ∃ (i : Nat) (e : Array Int) (r : Int), s = ((i : Int), e.toList, r) ∧ a <= i ∧ i <= a + (b - a) / 4 * 2 + 2 ∧ Sort.PermIn a b d e)
   (fun s => ((a + (b - a) / 4 * 2 + 2 : Nat) - s.1).toNat) (fun o => ∃ (e : Array Int) (r : Int), o = (e.toList, r) ∧ Sort.PermIn a b d e)
   (fun s hP => by
    obtain ⟨i, e, r, rfl, h1, h2, h3⟩ := hP
    have se : e.size = d.size := h3.1
    by_cases hi : i <= a + (b - a) / 4 * 2 + 1
    ·refine .inl ?_
     obtain ⟨r', er⟩ : ∃ r', Z206 r = some (r', r') := by rw [Z206_eq, Z206_b]; exact ⟨_, rfl⟩
     have u2 : u64.wrap ((((2 ^ L : Nat) : Nat) : Int) - 1) = ((2 ^ L - 1 : Nat) : Int) := by rw [wu64]; omega
     obtain ⟨k, k1, k2⟩ := B911 r' (2 ^ L - 1) (by omega)
     have w10 : i64.wrap ((k : Nat) : Int) = (k : Int) := w64 (by omega)
     have w11 : i64.wrap (((i : Nat) : Int) + 1) = ((i + 1 : Nat) : Int) := w64 (by omega)
     -- the other place
     obtain ⟨o, o1, o2⟩ : ∃ o : Nat, ((if (decide (((k : Nat) : Int) ≥ ((b - a : Nat) : Int))) = true then some (i64.wrap (((k : Nat) : Int) - ((b - a : Nat) : Int))) else some ((k : Nat) : Int)) : Option Int) = some ((o : Nat) : Int) ∧ o < b - a := by
      by_cases hk : b - a <= k
      ·refine ⟨k - (b - a), ?_, by omega⟩
       rw [A6 (by simp only [A20]; omega), w64 (by omega)]; congr 1; omega
      ·refine ⟨k, ?_, by omega⟩
       rw [A9 (by simp only [A20]; omega)]
     have w12 : i64.wrap ((a : Int) + ((o : Nat) : Int)) = ((a + o : Nat) : Int) := by rw [w64 (by omega)]; omega
     have s1 : i < e.size := by omega
     have s2 : a + o < e.size := by omega
     have hi' : ((i : Nat) : Int) <= ((a + (b - a) / 4 * 2 + 1 : Nat) : Int) := by omega
     refine ⟨(((i + 1 : Nat) : Int), (Sort.swp e i (a + o)).toList, r'), ?_, ⟨i + 1, _, r', rfl, by omega, by omega, Sort.permIn_trans _ _ _ _ _ h3 (Sort.swp_permIn e a b i (a + o) h1 (by omega) (by omega) (by omega) (by omega))⟩, ?_⟩
     ·unfold Z197l5 Z197l5_b
      simp only [w2, w4, w7, w9, hi', A7, A5, er, A1, u2, k1, w10, o1, w12, w11, A26, A58, A14, A13, A10, s1, s2, B33, A12, B52]
     ·show ((a + (b - a) / 4 * 2 + 2 : Nat) - ((i + 1 : Nat) : Int)).toNat < ((a + (b - a) / 4 * 2 + 2 : Nat) - ((i : Nat) : Int)).toNat
      omega
    ·refine .inr ⟨(e.toList, r), ?_, e, r, rfl, h3⟩
     unfold Z197l5 Z197l5_b
     simp only [w2, w4, w7, w9, A55, hi, A8, A4, A3])
   (((a + (b - a) / 4 * 2 - 1 : Nat) : Int), d.toList, ((b - a : Nat) : Int)) ⟨_, d, _, rfl, by omega, by omega, Sort.permIn_refl _ _ _⟩
  simp only [e1, e2, A1]
  exact ⟨e, rfl, e3⟩
 ·have g8 : decide (((b - a : Nat) : Int) ≥ 8) = false := by simp only [A59]; omega
  simp only [g8, A4, A3]
  exact ⟨d, rfl, Sort.permIn_refl _ _ _⟩
theorem B868 {t : List Int} {b : Nat} {d : Array Int} (hp : Pl t d) (hb : b <= d.size) (hs : d.size < 16777216) : ∀ (n i : Nat), b - i <= n -> 1 <= i -> i <= b ->
  loop (Z200l5 (b : Int) d.toList) ((i : Int), t) = some (((Sort.scanSorted (ltS t) d b i : Nat) : Int), t) ∧ i <= Sort.scanSorted (ltS t) d b i ∧ Sort.scanSorted (ltS t) d b i <= b := by
 intro n
 induction n with
 | zero =>
  intro i hn h1 hi
  rw [Sort.scanSorted]
  simp only [show ¬ i < b by omega, A8, A56, A4, A3]
  refine ⟨B4 ?_, A11 _, hi⟩
  unfold Z200l5 Z200l5_b
  simp only [A10, show ¬ i < b by omega, A8, A4, A3]
 | succ n ih =>
  intro i hn h1 hi
  by_cases h : i < b
  ·have w1 : i64.wrap ((i : Int) - 1) = ((i - 1 : Nat) : Int) := by rw [w64 (by omega)]; omega
   have w2 : i64.wrap ((i : Int) + 1) = ((i + 1 : Nat) : Int) := w64 (by omega)
   have s1 : i < d.size := by omega
   have s2 : i - 1 < d.size := by omega
   have hc := B98 (hp i s1) (hp (i - 1) s2)
   rw [Sort.scanSorted]
   cases hl : ltS t d[i]! d[i - 1]! with
   | true =>
    have hl' : decide (cmpI (sfx t d[i]!) (sfx t d[i - 1]!) < 0) = true := hl
    simp only [A19, A110, A4, A3]
    refine ⟨B4 ?_, A11 _, hi⟩
    unfold Z200l5 Z200l5_b
    simp only [A10, h, A7, A5, w1, A26, A14, A13, s1, s2, B33, hc, A1, hl', A19, A4, A3]
   | false =>
    have hl' : decide (cmpI (sfx t d[i]!) (sfx t d[i - 1]!) < 0) = false := hl
    simp only [h, A7, A35, A102, A5]
    obtain ⟨g1, g2, g3⟩ := ih (i + 1) (by omega) (by omega) (by omega)
    refine ⟨?_, by omega, g3⟩
    rw [B6 (s' := (((i + 1 : Nat) : Int), t)), g1]
    unfold Z200l5 Z200l5_b
    simp only [A10, h, A7, A5, w1, w2, A26, A14, A13, s1, s2, B33, hc, A1, hl', A35]
  ·rw [Sort.scanSorted]
   simp only [h, A8, A56, A4, A3]
   refine ⟨B4 ?_, A11 _, hi⟩
   unfold Z200l5 Z200l5_b
   simp only [A10, h, A8, A4, A3]
theorem B943 {t : List Int} : ∀ (j : Nat) (d : Array Int), Pl t d -> j < d.size -> d.size < 16777216 ->
  loop Z200l14 ((j : Int), d.toList, t) = some ((Sort.shiftDown (ltS t) j d).toList, t) ∧ Sort.PermIn 0 d.size d (Sort.shiftDown (ltS t) j d) := by
 intro j
 induction j with
 | zero =>
  intro d hp hj hs
  refine ⟨B4 ?_, Sort.permIn_refl _ _ _⟩
  unfold Z200l14 Z200l14_b
  simp only [show ¬ (((0 : Nat) : Int) ≥ 1) by omega, A8, A4, A3, Sort.shiftDown]
 | succ j ih =>
  intro d hp hj hs
  have w1 : i64.wrap (((j + 1 : Nat) : Int) - 1) = (j : Int) := by rw [w64 (by omega)]; omega
  have h1 : ((j + 1 : Nat) : Int) ≥ 1 := by omega
  have s2 : j < d.size := by omega
  have hc := B98 (hp (j + 1) hj) (hp j s2)
  rw [Sort.shiftDown]
  cases hl : ltS t d[j + 1]! d[j]! with
  | false =>
   have hl' : decide (cmpI (sfx t d[j + 1]!) (sfx t d[j]!) < 0) = false := hl
   simp only [A35, A5]
   refine ⟨B4 ?_, Sort.permIn_refl _ _ _⟩
   unfold Z200l14 Z200l14_b
   simp only [h1, A7, A5, w1, A26, A14, A13, A10, hj, s2, B33, hc, A1, hl', A35]
  | true =>
   have hl' : decide (cmpI (sfx t d[j + 1]!) (sfx t d[j]!) < 0) = true := hl
   simp only [A19, A4, A3]
   obtain ⟨g1, g2⟩ := ih (Sort.swp d (j + 1) j) (hp.swp hj s2) (by rw [szs]; exact s2) (by rw [szs]; exact hs)
   rw [szs] at g2
   refine ⟨?_, Sort.permIn_trans _ _ _ _ _ (Sort.swp_permIn d 0 d.size (j + 1) j (A24 _) hj (A24 _) s2 (A11 _)) g2⟩
   rw [B6 (s' := ((j : Int), (Sort.swp d (j + 1) j).toList, t)), g1]
   unfold Z200l14 Z200l14_b
   simp only [h1, A7, A5, w1, A26, A58, A14, A13, A10, hj, s2, B33, hc, A1, hl', A19, A4, A3, A12, B52]
theorem B954 {t : List Int} {b : Nat} : ∀ (n j : Nat) (d : Array Int), b - j <= n -> 1 <= j -> Pl t d -> b <= d.size -> d.size < 16777216 ->
  loop (Z200l20 (b : Int)) ((j : Int), d.toList, t) = some ((Sort.shiftUp (ltS t) b j d).toList, t) ∧ Sort.PermIn 0 d.size d (Sort.shiftUp (ltS t) b j d) := by
 intro n
 induction n with
 | zero =>
  intro j d hn h1 hp hb hs
  rw [Sort.shiftUp, A9 (by omega)]
  refine ⟨B4 ?_, Sort.permIn_refl _ _ _⟩
  unfold Z200l20 Z200l20_b
  simp only [A10, show ¬ j < b by omega, A8, A4, A3]
 | succ n ih =>
  intro j d hn h1 hp hb hs
  rw [Sort.shiftUp]
  by_cases h : j < b
  ·rw [A6 h]
   have w1 : i64.wrap ((j : Int) - 1) = ((j - 1 : Nat) : Int) := by rw [w64 (by omega)]; omega
   have w2 : i64.wrap ((j : Int) + 1) = ((j + 1 : Nat) : Int) := w64 (by omega)
   have s1 : j < d.size := by omega
   have s2 : j - 1 < d.size := by omega
   have hc := B98 (hp j s1) (hp (j - 1) s2)
   cases hl : ltS t d[j]! d[j - 1]! with
   | false =>
    have hl' : decide (cmpI (sfx t d[j]!) (sfx t d[j - 1]!) < 0) = false := hl
    simp only [A35, A5]
    refine ⟨B4 ?_, Sort.permIn_refl _ _ _⟩
    unfold Z200l20 Z200l20_b
    simp only [A10, h, A7, A5, w1, A26, A14, A13, s1, s2, B33, hc, A1, hl', A35]
   | true =>
    have hl' : decide (cmpI (sfx t d[j]!) (sfx t d[j - 1]!) < 0) = true := hl
    simp only [A19, A4, A3]
    obtain ⟨g1, g2⟩ := ih (j + 1) (Sort.swp d j (j - 1)) (by omega) (by omega) (hp.swp s1 s2) (by rw [szs]; exact hb) (by rw [szs]; exact hs)
    rw [szs] at g2
    refine ⟨?_, Sort.permIn_trans _ _ _ _ _ (Sort.swp_permIn d 0 d.size j (j - 1) (A24 _) s1 (A24 _) s2 (A11 _)) g2⟩
    rw [B6 (s' := (((j + 1 : Nat) : Int), (Sort.swp d j (j - 1)).toList, t)), g1]
    unfold Z200l20 Z200l20_b
    simp only [A10, h, A7, A5, w1, w2, A26, A58, A14, A13, s1, s2, B33, hc, A1, hl', A19, A4, A3, A12, B52]
  ·rw [A9 h]
   refine ⟨B4 ?_, Sort.permIn_refl _ _ _⟩
   unfold Z200l20 Z200l20_b
   simp only [A10, h, A8, A4, A3]
theorem B922 {t : List Int} {a b : Nat} (hab : a < b) : ∀ (s i : Nat) (d : Array Int), s <= 5 -> a < i -> i <= b -> Pl t d -> b <= d.size -> d.size < 16777216 ->
  ∃ r, loop (Z200l3 (a : Int) (b : Int)) ((i : Int), 5 - (s : Int), d.toList, t) = some r ∧
   (r = .inr ((Sort.partialIns (ltS t) a b s i d).2, (Sort.partialIns (ltS t) a b s i d).1.toList, t) ∨ (Sort.partialIns (ltS t) a b s i d).2 = false ∧ r = .inl ((Sort.partialIns (ltS t) a b s i d).1.toList, t)) := by
 intro s
 induction s with
 | zero =>
  intro i d hs5 h1 hi hp hb hs
  refine ⟨_, B4 (a := .inl (d.toList, t)) ?_, .inr ⟨rfl, rfl⟩⟩
  unfold Z200l3 Z200l3_b
  simp only [show ¬ (5 - ((0 : Nat) : Int) < 5) by omega, A8, A4, A3]
 | succ s ih =>
  intro i d hs5 h1 hi hp hb hs
  obtain ⟨c1, c2, c3⟩ := B868 hp hb hs (b - i) i (A11 _) (by omega) hi
  rw [Sort.partialIns]
  generalize Sort.scanSorted (ltS t) d b i = k at c1 c2 c3 ⊢
  have j5 : 5 - ((s + 1 : Nat) : Int) < 5 := by omega
  by_cases hk : k = b
  ·subst hk
   simp only [A5]
   refine ⟨_, B4 (a := .inr (true, d.toList, t)) ?_, .inl rfl⟩
   unfold Z200l3 Z200l3_b
   simp only [j5, A7, A5, c1, A1]
  have hk' : ¬ ((k : Nat) : Int) = (b : Int) := by omega
  have wl : i64.wrap ((b : Int) - (a : Int)) = ((b - a : Nat) : Int) := by rw [w64 (by omega)]; omega
  by_cases h50 : b - a < 50
  ·have g50 : decide (((b - a : Nat) : Int) < 50) = true := by simp only [A20]; omega
   simp only [hk, A3, h50, A5]
   refine ⟨_, B4 (a := .inr (false, d.toList, t)) ?_, .inl rfl⟩
   unfold Z200l3 Z200l3_b
   simp only [j5, A7, A5, c1, A1, hk', A8, A4, A3, wl, g50]
  have g50 : decide (((b - a : Nat) : Int) < 50) = false := by simp only [A59]; omega
  simp only [hk, A3, h50]
  have w1 : i64.wrap ((k : Int) - 1) = ((k - 1 : Nat) : Int) := by rw [w64 (by omega)]; omega
  have w2 : i64.wrap ((k : Int) + 1) = ((k + 1 : Nat) : Int) := w64 (by omega)
  have w3 : i64.wrap ((k : Int) - (a : Int)) = ((k - a : Nat) : Int) := by rw [w64 (by omega)]; omega
  have w4 : i64.wrap ((b : Int) - (k : Int)) = ((b - k : Nat) : Int) := by rw [w64 (by omega)]; omega
  have w5 : i64.wrap (5 - ((s + 1 : Nat) : Int) + 1) = 5 - (s : Int) := by rw [w64 (by omega)]; omega
  have s1 : k < d.size := by omega
  have s2 : k - 1 < d.size := by omega
  have p1 := hp.swp (i := k) (j := k - 1) s1 s2
  have z1 : (Sort.swp d k (k - 1)).size = d.size := szs ..
  obtain ⟨d1, hd1⟩ : ∃ d1, Sort.swp d k (k - 1) = d1 := ⟨_, rfl⟩
  rw [hd1] at p1 z1 ⊢
  -- down
  obtain ⟨d2, q1, q2, q3⟩ : ∃ d2 : Array Int, ((if (decide (((k - a : Nat) : Int) ≥ 2)) = true then (loop Z200l14 (((k - 1 : Nat) : Int), d1.toList, t)).bind (fun p50 => some (p50.1, p50.2)) else some (d1.toList, t)) : Option (List Int × List Int)) = some (d2.toList, t) ∧ d2 = (if k - a ≥ 2 then Sort.shiftDown (ltS t) (k - 1) d1 else d1) ∧ Sort.PermIn 0 d1.size d1 d2 := by
   by_cases h2 : k - a ≥ 2
   ·obtain ⟨y1, y2⟩ := B943 (k - 1) d1 p1 (by omega) (by omega)
    refine ⟨_, ?_, (A6 h2).symm, y2⟩
    rw [A6 (by simp only [A20]; omega), y1]; rfl
   ·refine ⟨_, ?_, (A9 h2).symm, Sort.permIn_refl _ _ _⟩
    rw [A9 (by simp only [A20]; omega)]
  rw [← q2]
  have p2 := p1.perm (A11 _) q3
  have z2 : d2.size = d.size := q3.1.trans z1
  by_cases h3 : b - k ≥ 2
  ·obtain ⟨y1, y2⟩ := B954 (b := b) (b - (k + 1)) (k + 1) d2 (A11 _) (by omega) p2 (by omega) (by omega)
   have g3 : decide (((b - k : Nat) : Int) ≥ 2) = true := by simp only [A20]; omega
   rw [A6 h3]
   have p3 := p2.perm (A11 _) y2
   have z3 := y2.1
   generalize Sort.shiftUp (ltS t) b (k + 1) d2 = d3 at y1 y2 p3 z3 ⊢
   obtain ⟨r, r1, r2⟩ := ih k d3 (by omega) (by omega) c3 p3 (by omega) (by omega)
   refine ⟨r, ?_, r2⟩
   rw [B6 (s' := ((k : Int), 5 - (s : Int), d3.toList, t)), r1]
   unfold Z200l3 Z200l3_b
   simp only [j5, A7, A5, c1, A1, hk', A8, A4, A3, wl, g50, w1, A26, A58, A14, A13, A10, s1, s2, B33, A12, B52, hd1, w3, q1, w4, g3, w2, y1, w5]
  ·have g3 : decide (((b - k : Nat) : Int) ≥ 2) = false := by simp only [A59]; omega
   rw [A9 h3]
   obtain ⟨r, r1, r2⟩ := ih k d2 (by omega) (by omega) c3 p2 (by omega) (by omega)
   refine ⟨r, ?_, r2⟩
   rw [B6 (s' := ((k : Int), 5 - (s : Int), d2.toList, t)), r1]
   unfold Z200l3 Z200l3_b
   simp only [j5, A7, A5, c1, A1, hk', A8, A4, A3, wl, g50, w1, A26, A58, A14, A13, A10, s1, s2, B33, A12, B52, hd1, w3, q1, w4, g3, w2, w5]
theorem B618 {t : List Int} {a b : Nat} {d : Array Int} (hp : Pl t d) (hab : a < b) (hb : b <= d.size) (hs : d.size < 16777216) :
  Z200 (a : Int) (b : Int) d.toList t = some ((Sort.partialInsertionSort (ltS t) d a b).2, (Sort.partialInsertionSort (ltS t) d a b).1.toList, t) := by
 rw [Z200_eq, Z200_b]
 have w1 : i64.wrap ((a : Int) + 1) = ((a + 1 : Nat) : Int) := w64 (by omega)
 obtain ⟨r, r1, r2⟩ := B922 (t := t) hab 5 (a + 1) d (A11 _) (by omega) (by omega) hp hb hs
 have z5 : (5 : Int) - ((5 : Nat) : Int) = 0 := rfl
 rw [z5] at r1
 simp only [w1, r1, A1, Sort.partialInsertionSort]
 rcases r2 with r2 | ⟨r2, r3⟩
 ·rw [r2]; rfl
 ·rw [r3, r2]; rfl
section
variable {t : List Int} {d : Array Int} {p : Int -> Bool} {f : Int × List Int -> Option ((Int × List Int) ⊕ (Int × List Int))}
theorem B356 {j : Nat}
  (hf : ∀ i : Nat, i <= j -> f ((i : Int), t) = if p d[i]! = true then some (.inl (((i + 1 : Nat) : Int), t)) else some (.inr ((i : Int), t)))
  (hg : ∀ i : Nat, j < i -> f ((i : Int), t) = some (.inr ((i : Int), t))) : ∀ (n i : Nat), j + 1 - i <= n -> loop f ((i : Int), t) = some (((Sort.scanUp p d j i : Nat) : Int), t) := by
 intro n
 induction n with
 | zero =>
  intro i hn
  rw [Sort.scanUp]
  simp only [show ¬ i <= j by omega, A8, A56, A4, A3]
  exact B4 (hg i (by omega))
 | succ n ih =>
  intro i hn
  rw [Sort.scanUp]
  by_cases h : i <= j
  ·have := hf i h
   cases hl : p d[i]! with
   | false =>
    simp only [A110, A4, A3]
    rw [hl] at this
    exact B4 this
   | true =>
    simp only [h, A7, A102, A5]
    rw [hl] at this
    rw [B6 this]
    exact ih (i + 1) (by omega)
  ·simp only [h, A8, A56, A4, A3]
   exact B4 (hg i (by omega))
theorem B270 {i : Nat} (hi : 1 <= i)
  (hf : ∀ j : Nat, i <= j -> j < d.size -> f ((j : Int), t) = if p d[j]! = true then some (.inl ((j : Int) - 1, t)) else some (.inr ((j : Int), t)))
  (hg : ∀ j : Nat, j < i -> f ((j : Int), t) = some (.inr ((j : Int), t))) : ∀ j : Nat, j < d.size -> loop f ((j : Int), t) = some (((Sort.scanDown p d i j : Nat) : Int), t) := by
 intro j
 induction j with
 | zero =>
  intro hj
  exact B4 (hg 0 (by omega))
 | succ j ih =>
  intro hj
  rw [Sort.scanDown]
  by_cases h : i <= j + 1
  ·have := hf (j + 1) h hj
   cases hl : p d[j + 1]! with
   | false =>
    simp only [A110, A4, A3]
    rw [hl] at this
    exact B4 this
   | true =>
    simp only [h, A7, A102, A5]
    rw [hl, show ((j + 1 : Nat) : Int) - 1 = (j : Int) by omega] at this
    rw [B6 this]
    exact ih (by omega)
  ·simp only [h, A8, A56, A4, A3]
   exact B4 (hg (j + 1) (by omega))
end
theorem B496 {t : List Int} {a : Nat} {d : Array Int} (hp : Pl t d) (ha : a < d.size) (hs : d.size < 16777216) {j : Nat} (hj : j < d.size) (i : Nat) :
  loop (Z202l3 (a : Int) (j : Int) d.toList) ((i : Int), t) = some (((Sort.scanUp (fun x => !ltS t d[a]! x) d j i : Nat) : Int), t) := by
 refine B356 (fun i h => ?_) (fun i h => ?_) (j + 1 - i) i (A11 _)
 ·have w2 : i64.wrap ((i : Int) + 1) = ((i + 1 : Nat) : Int) := w64 (by omega)
  have s1 : i < d.size := by omega
  have hc := B98 (hp a ha) (hp i s1)
  unfold Z202l3 Z202l3_b
  simp only [A55, h, A7, A5, w2, A26, A14, A13, A10, s1, ha, B33, hc, A1]
  rfl
 ·unfold Z202l3 Z202l3_b
  simp only [A55, show ¬ i <= j by omega, A8, A4, A3]
theorem B379 {t : List Int} {a : Nat} {d : Array Int} (hp : Pl t d) (ha : a < d.size) (hs : d.size < 16777216) {i : Nat} (hi : 1 <= i) (j : Nat) (hj : j < d.size) :
  loop (Z202l5 (a : Int) d.toList (i : Int)) ((j : Int), t) = some (((Sort.scanDown (fun x => ltS t d[a]! x) d i j : Nat) : Int), t) := by
 refine B270 hi (fun j h hj => ?_) (fun j h => ?_) j hj
 ·have w2 : i64.wrap ((j : Int) - 1) = (j : Int) - 1 := w64 (by omega)
  have s1 : j < d.size := by omega
  have hc := B98 (hp a ha) (hp j s1)
  unfold Z202l5 Z202l5_b
  simp only [A55, h, A7, A5, w2, A26, A14, A13, A10, s1, ha, B33, hc, A1]
  rfl
 ·unfold Z202l5 Z202l5_b
  simp only [A55, show ¬ i <= j by omega, A8, A4, A3]
theorem B728 {t : List Int} {a : Nat} {d : Array Int} (hp : Pl t d) (ha : a < d.size) (hs : d.size < 16777216) {j : Nat} (hj : j < d.size) (i : Nat) :
  loop (Z203l3 (a : Int) d.toList (j : Int)) ((i : Int), t) = some (((Sort.scanUp (fun x => ltS t x d[a]!) d j i : Nat) : Int), t) := by
 refine B356 (fun i h => ?_) (fun i h => ?_) (j + 1 - i) i (A11 _)
 ·have w2 : i64.wrap ((i : Int) + 1) = ((i + 1 : Nat) : Int) := w64 (by omega)
  have s1 : i < d.size := by omega
  have hc := B98 (hp i s1) (hp a ha)
  unfold Z203l3 Z203l3_b
  simp only [A55, h, A7, A5, w2, A26, A14, A13, A10, s1, ha, B33, hc, A1]
  rfl
 ·unfold Z203l3 Z203l3_b
  simp only [A55, show ¬ i <= j by omega, A8, A4, A3]
theorem B612 {t : List Int} {a : Nat} {d : Array Int} (hp : Pl t d) (ha : a < d.size) (hs : d.size < 16777216) {i : Nat} (hi : 1 <= i) (j : Nat) (hj : j < d.size) :
  loop (Z203l5 (a : Int) d.toList (i : Int)) ((j : Int), t) = some (((Sort.scanDown (fun x => !ltS t x d[a]!) d i j : Nat) : Int), t) := by
 refine B270 hi (fun j h hj => ?_) (fun j h => ?_) j hj
 ·have w2 : i64.wrap ((j : Int) - 1) = (j : Int) - 1 := w64 (by omega)
  have s1 : j < d.size := by omega
  have hc := B98 (hp j s1) (hp a ha)
  unfold Z203l5 Z203l5_b
  simp only [A55, h, A7, A5, w2, A26, A14, A13, A10, s1, ha, B33, hc, A1]
  rfl
 ·unfold Z203l5 Z203l5_b
  simp only [A55, show ¬ i <= j by omega, A8, A4, A3]
theorem B437 {t : List Int} {a : Nat} {d : Array Int} (hp : Pl t d) (ha : a < d.size) (hs : d.size < 16777216) {j : Nat} (hj : j < d.size) (i : Nat) :
  loop (Z203l13 (a : Int) (j : Int) d.toList) ((i : Int), t) = some (((Sort.scanUp (fun x => ltS t x d[a]!) d j i : Nat) : Int), t) := by
 refine B356 (fun i h => ?_) (fun i h => ?_) (j + 1 - i) i (A11 _)
 ·have w2 : i64.wrap ((i : Int) + 1) = ((i + 1 : Nat) : Int) := w64 (by omega)
  have s1 : i < d.size := by omega
  have hc := B98 (hp i s1) (hp a ha)
  unfold Z203l13 Z203l13_b
  simp only [A55, h, A7, A5, w2, A26, A14, A13, A10, s1, ha, B33, hc, A1]
  rfl
 ·unfold Z203l13 Z203l13_b
  simp only [A55, show ¬ i <= j by omega, A8, A4, A3]
theorem B370 {t : List Int} {a : Nat} {d : Array Int} (hp : Pl t d) (ha : a < d.size) (hs : d.size < 16777216) {i : Nat} (hi : 1 <= i) (j : Nat) (hj : j < d.size) :
  loop (Z203l15 (a : Int) d.toList (i : Int)) ((j : Int), t) = some (((Sort.scanDown (fun x => !ltS t x d[a]!) d i j : Nat) : Int), t) := by
 refine B270 hi (fun j h hj => ?_) (fun j h => ?_) j hj
 ·have w2 : i64.wrap ((j : Int) - 1) = (j : Int) - 1 := w64 (by omega)
  have s1 : j < d.size := by omega
  have hc := B98 (hp j s1) (hp a ha)
  unfold Z203l15 Z203l15_b
  simp only [A55, h, A7, A5, w2, A26, A14, A13, A10, s1, ha, B33, hc, A1]
  rfl
 ·unfold Z203l15 Z203l15_b
  simp only [A55, show ¬ i <= j by omega, A8, A4, A3]
theorem B727 {t : List Int} {a : Nat} : ∀ (n i j : Nat) (d : Array Int), j + 1 - i <= n -> 1 <= i -> j < d.size -> a < d.size -> Pl t d -> d.size < 16777216 ->
  loop (Z202l1000003 (a : Int)) ((i : Int), (j : Int), d.toList, t) = some (((Sort.partEqLoop (ltS t) a i j d).1 : Int), (Sort.partEqLoop (ltS t) a i j d).2.toList, t) := by
 intro n
 induction n with
 | zero =>
  intro i j d hn hi hj ha hp hs
  rw [Sort.partEqLoop_eq]
  have u := B496 hp ha hs hj i
  have e1 : Sort.scanUp (fun x => !ltS t d[a]! x) d j i = i := by
   rw [Sort.scanUp]; simp only [show ¬ i <= j by omega, A8, A56, A4, A3]
  rw [e1] at u ⊢
  have v := B379 hp ha hs hi j hj
  have e2 : Sort.scanDown (fun x => ltS t d[a]! x) d i j = j := by
   cases j with
   | zero => rfl
   | succ j => rw [Sort.scanDown]; simp only [show ¬ i <= j + 1 by omega, A8, A56, A4, A3]
  rw [e2] at v ⊢
  rw [A6 (by omega)]
  refine B4 ?_
  unfold Z202l1000003 Z202l1000003_b
  simp only [u, v, A1, show ((i : Nat) : Int) > (j : Int) by omega, A7, A5]
 | succ n ih =>
  intro i j d hn hi hj ha hp hs
  rw [Sort.partEqLoop_eq]
  have u := B496 hp ha hs hj i
  have u1 := Sort.scanUp_ge (fun x => !ltS t d[a]! x) d j i
  generalize Sort.scanUp (fun x => !ltS t d[a]! x) d j i = i2 at u u1 ⊢
  have v := B379 hp ha hs (show 1 <= i2 by omega) j hj
  have v1 := Sort.scanDown_le (fun x => ltS t d[a]! x) d i2 j
  generalize Sort.scanDown (fun x => ltS t d[a]! x) d i2 j = j2 at v v1 ⊢
  by_cases h : i2 > j2
  ·rw [A6 h]
   refine B4 ?_
   unfold Z202l1000003 Z202l1000003_b
   simp only [u, v, A1, show ((i2 : Nat) : Int) > (j2 : Int) by omega, A7, A5]
  ·rw [A9 h]
   have w1 : i64.wrap ((i2 : Int) + 1) = ((i2 + 1 : Nat) : Int) := w64 (by omega)
   have w2 : i64.wrap ((j2 : Int) - 1) = ((j2 - 1 : Nat) : Int) := by rw [w64 (by omega)]; omega
   have s1 : i2 < d.size := by omega
   have s2 : j2 < d.size := by omega
   rw [B6 (s' := (((i2 + 1 : Nat) : Int), ((j2 - 1 : Nat) : Int), (Sort.swp d i2 j2).toList, t)), ih (i2 + 1) (j2 - 1) _ (by omega) (by omega) (by rw [szs]; omega) (by rw [szs]; exact ha) (hp.swp s1 s2) (by rw [szs]; exact hs)]
   unfold Z202l1000003 Z202l1000003_b
   simp only [u, v, A1, show ¬ ((i2 : Nat) : Int) > (j2 : Int) by omega, A8, A4, A3, w1, w2, A26, A58, A14, A13, A10, s1, s2, A5, B33, A12, B52]
theorem B944 {t : List Int} {a b p : Nat} {d : Array Int} (hp : Pl t d) (h1 : a <= p) (h2 : p < b) (hb : b <= d.size) (hs : d.size < 16777216) :
  Z202 (a : Int) (b : Int) (p : Int) d.toList t = some (((Sort.partitionEqual (ltS t) d a b p).1 : Int), (Sort.partitionEqual (ltS t) d a b p).2.toList, t) := by
 rw [Z202_eq, Z202_b]
 have w1 : i64.wrap ((a : Int) + 1) = ((a + 1 : Nat) : Int) := w64 (by omega)
 have w2 : i64.wrap ((b : Int) - 1) = ((b - 1 : Nat) : Int) := by rw [w64 (by omega)]; omega
 have s1 : a < d.size := by omega
 have s2 : p < d.size := by omega
 simp only [A26, A58, A14, A13, A10, s1, s2, A5, B33, A12, B52, w1, w2,
  B727 (b - 1 + 1 - (a + 1)) (a + 1) (b - 1) (Sort.swp d a p) (A11 _) (by omega) (show b - 1 < (Sort.swp d a p).size by rw [szs]; omega) (show a < (Sort.swp d a p).size by rw [szs]; omega) (hp.swp s1 s2) (by rw [szs]; exact hs), A1, Sort.partitionEqual]
theorem B843 {t : List Int} {a : Nat} : ∀ (n i j : Nat) (d : Array Int), j + 1 - i <= n -> 1 <= i -> j < d.size -> a < d.size -> Pl t d -> d.size < 16777216 ->
  loop (Z203l1000013 (a : Int)) ((i : Int), (j : Int), d.toList, t) = some (((Sort.partLoop (ltS t) a i j d).1 : Int), (Sort.partLoop (ltS t) a i j d).2.toList, t) ∧
   (Sort.partLoop (ltS t) a i j d).1 <= j ∧ (Sort.partLoop (ltS t) a i j d).2.size = d.size := by
 intro n
 induction n with
 | zero =>
  intro i j d hn hi hj ha hp hs
  rw [Sort.partLoop_eq]
  have u := B437 hp ha hs hj i
  have e1 : Sort.scanUp (fun x => ltS t x d[a]!) d j i = i := by
   rw [Sort.scanUp]; simp only [show ¬ i <= j by omega, A8, A56, A4, A3]
  rw [e1] at u ⊢
  have v := B370 hp ha hs hi j hj
  have e2 : Sort.scanDown (fun x => !ltS t x d[a]!) d i j = j := by
   cases j with
   | zero => rfl
   | succ j => rw [Sort.scanDown]; simp only [show ¬ i <= j + 1 by omega, A8, A56, A4, A3]
  rw [e2] at v ⊢
  rw [A6 (by omega)]
  refine ⟨B4 ?_, A11 _, rfl⟩
  unfold Z203l1000013 Z203l1000013_b
  simp only [u, v, A1, show ((i : Nat) : Int) > (j : Int) by omega, A7, A5]
 | succ n ih =>
  intro i j d hn hi hj ha hp hs
  rw [Sort.partLoop_eq]
  have u := B437 hp ha hs hj i
  have u1 := Sort.scanUp_ge (fun x => ltS t x d[a]!) d j i
  generalize Sort.scanUp (fun x => ltS t x d[a]!) d j i = i2 at u u1 ⊢
  have v := B370 hp ha hs (show 1 <= i2 by omega) j hj
  have v1 := Sort.scanDown_le (fun x => !ltS t x d[a]!) d i2 j
  generalize Sort.scanDown (fun x => !ltS t x d[a]!) d i2 j = j2 at v v1 ⊢
  by_cases h : i2 > j2
  ·rw [A6 h]
   refine ⟨B4 ?_, v1, rfl⟩
   unfold Z203l1000013 Z203l1000013_b
   simp only [u, v, A1, show ((i2 : Nat) : Int) > (j2 : Int) by omega, A7, A5]
  ·rw [A9 h]
   have w1 : i64.wrap ((i2 : Int) + 1) = ((i2 + 1 : Nat) : Int) := w64 (by omega)
   have w2 : i64.wrap ((j2 : Int) - 1) = ((j2 - 1 : Nat) : Int) := by rw [w64 (by omega)]; omega
   have s1 : i2 < d.size := by omega
   have s2 : j2 < d.size := by omega
   obtain ⟨g1, g2, g3⟩ := ih (i2 + 1) (j2 - 1) (Sort.swp d i2 j2) (by omega) (by omega) (by rw [szs]; omega) (by rw [szs]; exact ha) (hp.swp s1 s2) (by rw [szs]; exact hs)
   refine ⟨?_, by omega, by rw [g3, szs]⟩
   rw [B6 (s' := (((i2 + 1 : Nat) : Int), ((j2 - 1 : Nat) : Int), (Sort.swp d i2 j2).toList, t)), g1]
   unfold Z203l1000013 Z203l1000013_b
   simp only [u, v, A1, show ¬ ((i2 : Nat) : Int) > (j2 : Int) by omega, A8, A4, A3, w1, w2, A26, A58, A14, A13, A10, s1, s2, A5, B33, A12, B52]
theorem B826 {t : List Int} {a b p : Nat} {d : Array Int} (hp : Pl t d) (h1 : a <= p) (h2 : p < b) (hb : b <= d.size) (hs : d.size < 16777216) :
  Z203 (a : Int) (b : Int) (p : Int) d.toList t = some (((Sort.partition (ltS t) d a b p).1 : Int), (Sort.partition (ltS t) d a b p).2.1, (Sort.partition (ltS t) d a b p).2.2.toList, t) := by
 rw [Z203_eq, Z203_b]
 have w1 : i64.wrap ((a : Int) + 1) = ((a + 1 : Nat) : Int) := w64 (by omega)
 have w2 : i64.wrap ((b : Int) - 1) = ((b - 1 : Nat) : Int) := by rw [w64 (by omega)]; omega
 have s1 : a < d.size := by omega
 have s2 : p < d.size := by omega
 unfold Sort.partition
 have p1 := hp.swp s1 s2
 have z1 := szs d a p
 obtain ⟨e, he⟩ : ∃ e, Sort.swp d a p = e := ⟨_, rfl⟩
 rw [he] at p1 z1 ⊢
 have se : a < e.size := by omega
 have u := B728 p1 se (by omega) (show b - 1 < e.size by omega) (a + 1)
 have u1 := Sort.scanUp_ge (fun x => ltS t x e[a]!) e (b - 1) (a + 1)
 obtain ⟨i2, hi2⟩ : ∃ i2, Sort.scanUp (fun x => ltS t x e[a]!) e (b - 1) (a + 1) = i2 := ⟨_, rfl⟩
 rw [hi2] at u u1
 have v := B612 p1 se (by omega) (show 1 <= i2 by omega) (b - 1) (by omega)
 have v1 := Sort.scanDown_le (fun x => !ltS t x e[a]!) e i2 (b - 1)
 obtain ⟨j2, hj2⟩ : ∃ j2, Sort.scanDown (fun x => !ltS t x e[a]!) e i2 (b - 1) = j2 := ⟨_, rfl⟩
 rw [hj2] at v v1
 simp only [hi2, hj2]
 have q2 : j2 < e.size := by omega
 by_cases h : i2 > j2
 ·simp only [A26, A58, A14, A13, A10, s1, s2, A5, B33, A12, B52, he, w1, w2, u, v, A1, show ((i2 : Nat) : Int) > (j2 : Int) by omega, A7, se, q2, h]
 ·have q1 : i2 < e.size := by omega
  have w3 : i64.wrap ((i2 : Int) + 1) = ((i2 + 1 : Nat) : Int) := w64 (by omega)
  have w4 : i64.wrap ((j2 : Int) - 1) = ((j2 - 1 : Nat) : Int) := by rw [w64 (by omega)]; omega
  obtain ⟨g1, g2, g3⟩ := B843 (a := a) (j2 - 1 + 1 - (i2 + 1)) (i2 + 1) (j2 - 1) (Sort.swp e i2 j2) (A11 _) (by omega) (by rw [szs]; omega) (by rw [szs]; exact se) (p1.swp q1 q2) (by rw [szs]; omega)
  rw [szs] at g3
  obtain ⟨r, hr⟩ : ∃ r, Sort.partLoop (ltS t) a (i2 + 1) (j2 - 1) (Sort.swp e i2 j2) = r := ⟨_, rfl⟩
  rw [hr] at g1 g2 g3
  have q3 : r.1 < r.2.size := by omega
  have q4 : a < r.2.size := by omega
  simp only [A26, A58, A14, A13, A10, s1, s2, A5, B33, A12, B52, he, w1, w2, u, v, A1, show ¬ ((i2 : Nat) : Int) > (j2 : Int) by omega, A8, A4, A3, q1, q2, w3, w4, g1, q3, q4, h, hr]
theorem B890 {t : List Int} : ∀ (n a b : Nat) (limit : Nat) (wb wp : Bool) (d : Array Int), b - a <= n -> a <= b -> b <= d.size -> Pl t d -> Sort.Below (ltS t) a b d -> d.size < 16777216 -> limit <= 64 ->
  ∃ e : Array Int, loop Z190l2 ((a : Int), (b : Int), (limit : Int), wb, wp, d.toList, t) = some (e.toList, t) ∧ Sort.PermIn a b d e ∧ Sort.SortedIn (ltS t) a b e := by
 intro n
 induction n using Nat.strongRecOn with
 | _ n ih =>
 intro a b limit wb wp d hn hab hb hp hB hs hl
 have hw := swoS t
 have w1 : i64.wrap ((b : Int) - (a : Int)) = ((b - a : Nat) : Int) := by rw [w64 (by omega)]; omega
 by_cases h12 : b - a <= 12
 ·have g12 : decide (((b - a : Nat) : Int) <= 12) = true := by simp only [A20]; omega
  obtain ⟨k1, k2⟩ := Sort.insertionSort_holds (lt := ltS t) hw d a b hab hb
  refine ⟨_, B4 ?_, k1, k2⟩
  unfold Z190l2 Z190l2_b
  simp only [w1, g12, A5, B953 hp hab hb (by omega), A1]
 have g12 : decide (((b - a : Nat) : Int) <= 12) = false := by simp only [A59]; omega
 by_cases hl0 : limit = 0
 ·subst hl0
  obtain ⟨k1, k2⟩ := Sort.heapSort_holds (lt := ltS t) hw d a b hab hb
  refine ⟨_, B4 ?_, k1, k2⟩
  unfold Z190l2 Z190l2_b
  simp only [w1, g12, A4, A3, show ((0 : Nat) : Int) = 0 from rfl, A7, A5, B929 hp hab hb (by omega), A1]
 have gl0 : decide ((limit : Int) = 0) = false := by simp only [A59]; omega
 -- the patterns
 obtain ⟨l1, d1, f1, k1, m1⟩ : ∃ (l1 : Nat) (d1 : Array Int), ((if (!wb) = true then (Z197 (a : Int) (b : Int) d.toList t).bind fun q21 => some (i64.wrap ((limit : Int) - 1), q21.1, q21.2) else some ((limit : Int), d.toList, t)) : Option (Int × List Int × List Int)) = some ((l1 : Int), d1.toList, t) ∧ Sort.PermIn a b d d1 ∧ l1 <= 64 := by
  cases wb with
  | true => exact ⟨limit, d, rfl, Sort.permIn_refl _ _ _, hl⟩
  | false =>
   obtain ⟨e, e1, e2⟩ := B838 (t := t) hab hb hs
   refine ⟨limit - 1, e, ?_, e2, by omega⟩
   rw [A6 (show (!false) = true from rfl), e1, w64 (n := (limit : Int) - 1) (by omega)]
   show some (((limit : Nat) : Int) - 1, e.toList, t) = _
   congr 2; omega
 have p1 := hp.perm hb k1
 have b1 : b <= d1.size := by rw [k1.1]; exact hb
 have B1 := hB.perm hb k1
 -- the pivot
 obtain ⟨x, hint, f2, x1, x2⟩ := B798 p1 (show a < b by omega) b1 (by rw [k1.1]; omega)
 obtain ⟨pv, hint', d2, f3, pv1, pv2, k2⟩ : ∃ (pv : Nat) (hint' : Int) (d2 : Array Int), ((if (decide (hint = 2)) = true then (Z199 (a : Int) (b : Int) d1.toList t).bind fun q34 => some (i64.wrap (i64.wrap ((b : Int) - 1) - i64.wrap (((x : Nat) : Int) - (a : Int))), 1, q34.1, q34.2) else some (((x : Nat) : Int), hint, d1.toList, t)) : Option (Int × Int × List Int × List Int)) = some ((pv : Int), hint', d2.toList, t) ∧ a <= pv ∧ pv < b ∧ Sort.PermIn a b d1 d2 := by
  by_cases h2 : hint = 2
  ·refine ⟨b - 1 - (x - a), 1, _, ?_, by omega, by omega, Sort.reverseRange_holds d1 a b hab b1⟩
   rw [A6 (by simp only [h2, A7]), B942 (by omega) b1 (by rw [k1.1]; omega), w64 (n := (b : Int) - 1) (by omega), w64 (n := ((x : Nat) : Int) - (a : Int)) (by omega), w64 (by omega)]
   show some (_, _, _, _) = _
   congr 2; omega
  ·exact ⟨x, hint, d1, by rw [A9 (by simp only [h2, A8]; decide)], x1, x2, Sort.permIn_refl _ _ _⟩
 have p2 := p1.perm b1 k2
 have b2 : b <= d2.size := by rw [k2.1]; exact b1
 have B2 := B1.perm b1 k2
 have z2 : d2.size = d.size := k2.1.trans k1.1
 have P2 := Sort.permIn_trans _ _ _ _ _ k1 k2
 -- whether it is tried
 obtain ⟨v, f4⟩ : ∃ v : Bool, ((if wb = true then (if wp = true then some (decide (hint' = 1)) else some false) else some false) : Option Bool) = some v := by
  cases wb <;> cases wp <;> exact ⟨_, rfl⟩
 have tried : (v = true ∧ (Sort.partialInsertionSort (ltS t) d2 a b).2 = true) ∨
   (∃ d3 : Array Int, Sort.PermIn a b d2 d3 ∧ ((if v = true then (Z200 (a : Int) (b : Int) d2.toList t).bind fun q46 => (if q46.1 = true then some (Sum.inr (q46.2.1, q46.2.2)) else some (Sum.inl (q46.2.1, q46.2.2))) else some (Sum.inl (d2.toList, t))) : Option ((List Int × List Int) ⊕ (List Int × List Int))) = some (.inl (d3.toList, t))) := by
  cases v with
  | false => exact .inr ⟨d2, Sort.permIn_refl _ _ _, rfl⟩
  | true =>
   cases hx : (Sort.partialInsertionSort (ltS t) d2 a b).2 with
   | true => exact .inl ⟨rfl, rfl⟩
   | false =>
    refine .inr ⟨_, (Sort.partialInsertionSort_holds hw d2 a b (by omega) b2 B2).1, ?_⟩
    rw [A6 rfl, B618 p2 (by omega) b2 (by omega), hx]; rfl
 rcases tried with ⟨t1, t2⟩ | ⟨d3, k3, f5⟩
 ·-- it is sorted now
  subst t1
  obtain ⟨m3, m4⟩ := Sort.partialInsertionSort_holds hw d2 a b (by omega) b2 B2
  refine ⟨_, B4 (a := ((Sort.partialInsertionSort (ltS t) d2 a b).1.toList, t)) ?_, Sort.permIn_trans _ _ _ _ _ P2 m3, m4 t2⟩
  unfold Z190l2 Z190l2_b
  simp only [w1, g12, gl0, A4, A3, f1, A1, f2, f3, f4, A5, B618 p2 (show a < b by omega) b2 (by omega), t2, A91]
 have p3 := p2.perm b2 k3
 have b3 : b <= d3.size := by rw [k3.1]; exact b2
 have B3 := B2.perm b2 k3
 have z3 : d3.size = d.size := k3.1.trans z2
 have P3 := Sort.permIn_trans _ _ _ _ _ P2 k3
 obtain ⟨c, f6, hc⟩ : ∃ c : Bool, ((if (decide ((a : Int) > 0)) = true then (if 0 <= i64.wrap ((a : Int) - 1) ∧ i64.wrap ((a : Int) - 1) < (d3.toList.length : Int) then (if 0 <= (pv : Int) ∧ (pv : Int) < (d3.toList.length : Int) then (Z201 (rd d3.toList (i64.wrap ((a : Int) - 1))) (rd d3.toList (pv : Int)) t).bind fun q60 => some (!(decide (q60.1 < 0)), q60.2) else none) else none) else some (false, t)) : Option (Bool × List Int)) = some (c, t) ∧ (c = true -> 0 < a ∧ ltS t d3[a - 1]! d3[pv]! = false) := by
  by_cases h0 : 0 < a
  ·have w2 : i64.wrap ((a : Int) - 1) = ((a - 1 : Nat) : Int) := by rw [w64 (by omega)]; omega
   have s1 : a - 1 < d3.size := by omega
   have s2 : pv < d3.size := by omega
   refine ⟨!ltS t d3[a - 1]! d3[pv]!, ?_, fun h => ⟨h0, by simpa using h⟩⟩
   rw [A6 (by simp only [A20]; omega)]
   simp only [w2, A26, A14, A13, A10, s1, s2, A5, B33, B98 (p3 (a - 1) s1) (p3 pv s2), A1]
   rfl
  ·exact ⟨false, by rw [A9 (by simp only [A20]; omega)], fun h => nomatch h⟩
 have w3 : i64.wrap (((b - a : Nat) : Int).tdiv 8) = (((b - a) / 8 : Nat) : Int) := by rw [B30 (by omega), w64 (by omega)]; omega
 cases c with
 | true =>
  obtain ⟨h0, hnl⟩ := hc rfl
  have e1 := B944 p3 pv1 pv2 b3 (by omega)
  obtain ⟨q1, q2, q3, q4, q5⟩ := Sort.round_eq (d4 := (Sort.partitionEqual (ltS t) d3 a b pv).2) (mid := (Sort.partitionEqual (ltS t) d3 a b pv).1) hw (Sort.partitionEqual_holds _) h0 pv1 pv2 b3 B3 hnl rfl
  have pe := (Sort.partitionEqual_holds (ltS t) hw d3 a b pv pv1 pv2 b3 (fun i hi hi' => by
   rcases B3 with h | h
   ·omega
   ·exact hw.ntrans _ _ _ (h i hi hi') hnl)).2.2.1
  have p4 := p3.perm b3 pe
  generalize (Sort.partitionEqual (ltS t) d3 a b pv).1 = mid at e1 q1 q2 q4 q5
  generalize (Sort.partitionEqual (ltS t) d3 a b pv).2 = d4 at e1 q3 q4 q5 p4
  obtain ⟨e, r1, r2, r3⟩ := ih (b - mid) (by omega) mid b l1 wb wp d4 (A11 _) q2 (by omega) p4 q4 (by omega) m1
  obtain ⟨y1, y2⟩ := q5 e r2 r3
  refine ⟨e, ?_, Sort.permIn_trans _ _ _ _ _ P3 y1, y2⟩
  rw [B6 (s' := ((mid : Int), (b : Int), (l1 : Int), wb, wp, d4.toList, t)), r1]
  unfold Z190l2 Z190l2_b
  simp only [w1, g12, gl0, A4, A3, f1, A1, f2, f3, f4, f5, A48, f6, A5, e1]
 | false =>
  have e1 := B826 p3 pv1 pv2 b3 (by omega)
  obtain ⟨q1, q2, q3, q4, q5, q6, q7⟩ := Sort.round_part (d4 := (Sort.partition (ltS t) d3 a b pv).2.2) (ap := (Sort.partition (ltS t) d3 a b pv).2.1) (mid := (Sort.partition (ltS t) d3 a b pv).1) hw (Sort.partition_holds _) pv1 pv2 b3 B3 rfl
  have pe := (Sort.partition_holds (ltS t) hw d3 a b pv pv1 pv2 b3).2.2.1
  have p4 := p3.perm b3 pe
  generalize (Sort.partition (ltS t) d3 a b pv).1 = mid at e1 q1 q2 q4 q5 q6 q7
  generalize (Sort.partition (ltS t) d3 a b pv).2.2 = d4 at e1 q3 q4 q5 q6 q7 p4
  generalize (Sort.partition (ltS t) d3 a b pv).2.1 = ap at e1
  have w4 : i64.wrap ((mid : Int) - (a : Int)) = ((mid - a : Nat) : Int) := by rw [w64 (by omega)]; omega
  have w5 : i64.wrap ((b : Int) - (mid : Int)) = ((b - mid : Nat) : Int) := by rw [w64 (by omega)]; omega
  have w6 : i64.wrap ((mid : Int) + 1) = ((mid + 1 : Nat) : Int) := w64 (by omega)
  -- a call begins the loop anew
  have call_is : ∀ (a' b' : Nat) (d' e : Array Int), loop Z190l2 ((a' : Int), (b' : Int), (l1 : Int), true, true, d'.toList, t) = some (e.toList, t) -> Z190 (a' : Int) (b' : Int) (l1 : Int) d'.toList t = some (e.toList, t) := by
   intro a' b' d' e h
   rw [Z190_eq, Z190_b, h]; rfl
  by_cases hm : mid - a < b - mid
  ·obtain ⟨L, r1, r2, r3⟩ := ih (mid - a) (by omega) a mid l1 true true d4 (A11 _) q1 (by omega) p4 q4 (by omega) m1
   obtain ⟨y1, y2⟩ := q6 L r2 r3
   have zL : L.size = d4.size := r2.1
   obtain ⟨e, s1, s2, s3⟩ := ih (b - (mid + 1)) (by omega) (mid + 1) b l1 (decide (((mid - a : Nat) : Int) ≥ (((b - a) / 8 : Nat) : Int))) ap L (A11 _) (by omega) (by omega) (p4.perm (by omega) r2) y1 (by omega) m1
   obtain ⟨y3, y4⟩ := y2 e s2 s3
   refine ⟨e, ?_, Sort.permIn_trans _ _ _ _ _ P3 y3, y4⟩
   rw [B6 (s' := (((mid + 1 : Nat) : Int), (b : Int), (l1 : Int), decide (((mid - a : Nat) : Int) ≥ (((b - a) / 8 : Nat) : Int)), ap, L.toList, t)), s1]
   unfold Z190l2 Z190l2_b
   simp only [w1, g12, gl0, A4, A3, f1, A1, f2, f3, f4, f5, A48, f6, e1, w4, w5, w3, show decide (((mid - a : Nat) : Int) < ((b - mid : Nat) : Int)) = true by simp only [A20]; omega, A5, call_is _ _ _ _ r1, w6]
  ·obtain ⟨L, r1, r2, r3⟩ := ih (b - (mid + 1)) (by omega) (mid + 1) b l1 true true d4 (A11 _) (by omega) (by omega) p4 q5 (by omega) m1
   obtain ⟨y1, y2⟩ := q7 L r2 r3
   have zL : L.size = d4.size := r2.1
   obtain ⟨e, s1, s2, s3⟩ := ih (mid - a) (by omega) a mid l1 (decide (((b - mid : Nat) : Int) ≥ (((b - a) / 8 : Nat) : Int))) ap L (A11 _) (by omega) (by omega) (p4.perm (by omega) r2) y1 (by omega) m1
   obtain ⟨y3, y4⟩ := y2 e s2 s3
   refine ⟨e, ?_, Sort.permIn_trans _ _ _ _ _ P3 y3, y4⟩
   rw [B6 (s' := ((a : Int), (mid : Int), (l1 : Int), decide (((b - mid : Nat) : Int) ≥ (((b - a) / 8 : Nat) : Int)), ap, L.toList, t)), s1]
   unfold Z190l2 Z190l2_b
   simp only [w1, g12, gl0, A4, A3, f1, A1, f2, f3, f4, f5, A48, f6, e1, w4, w5, w3, show decide (((mid - a : Nat) : Int) < ((b - mid : Nat) : Int)) = false by simp only [A59]; omega, A5, call_is _ _ _ _ r1, w6]
theorem B695 {t : List Int} {d : Array Int} (hp : Pl t d) (h0 : 0 < d.size) (hs : d.size < 16777216) :
  ∃ e : Array Int, Z176 d.toList t = some (e.toList, t) ∧ Sort.PermIn 0 d.size d e ∧ Sort.SortedIn (ltS t) 0 d.size e := by
 obtain ⟨L, l1, l2, l3⟩ := B491 (x := (d.size : Int)) (by omega) (by omega)
 obtain ⟨e, e1, e2, e3⟩ := B890 d.size 0 d.size L true true d (by omega) (A24 _) (A11 _) hp (.inl rfl) hs (by omega)
 refine ⟨e, ?_, e2, e3⟩
 rw [Z176_eq, Z176_b]
 have u1 : u64.wrap (d.size : Int) = (d.size : Int) := by rw [wu64]; omega
 have z0 : ((0 : Nat) : Int) = 0 := rfl
 rw [z0] at e1
 simp only [A26, u1, l1, A1, Z190_eq, Z190_b, e1]
def leS (t : List Int) (x y : Int) : Prop := ltS t y x = false
def PlL (t : List Int) (l : List Int) : Prop := ∀ x ∈ l, 0 <= x ∧ x <= (t.length : Int)
theorem B882 {t : List Int} {a b : Int} (ha : 0 <= a ∧ a <= (t.length : Int)) (hb : 0 <= b ∧ b <= (t.length : Int)) (h : leS t a b) (g : leS t b a) : a = b := by
 simp only [leS, ltS, A59] at h g
 have n := B263 (sfx t a) (sfx t b)
 have e := B340 (sfx t a) (sfx t b) (by omega)
 have := congrArg List.length e
 simp only [sfx, A71] at this
 omega
theorem B555 {t : List Int} {a b c : Int} (h : leS t a b) (g : leS t b c) : leS t a c := (swoS t).ntrans _ _ _ g h
theorem lt_le {t : List Int} {a b : Int} (h : ltS t a b = true) : leS t a b := by
 cases e : ltS t b a with
 | false => exact e
 | true => have := (swoS t).trans _ _ _ h e; rw [(swoS t).irrefl] at this; cases this
theorem B606 {t l m : List Int} (hv : PlL t l) (p : l.Perm m) (hl : l.Pairwise (leS t)) (hm : m.Pairwise (leS t)) : l = m :=
 List.Perm.eq_of_pairwise (fun a b ha hb h g => B882 (hv a ha) (hv b (p.mem_iff.2 hb)) h g) hl hm p
theorem B624 {t : List Int} {e : Array Int} (h : Sort.SortedIn (ltS t) 0 e.size e) : e.toList.Pairwise (leS t) := by
 rw [List.pairwise_iff_getElem]
 intro i j hi hj hij
 rw [A26] at hi hj
 have := h i j (A24 _) hij hj
 rw [getElem!_pos e i hi, getElem!_pos e j hj] at this
 simpa [leS] using this
theorem B827 {d e : Array Int} (h : Sort.PermIn 0 d.size d e) : e.toList.Perm d.toList := by
 have h2 := h.2.2
 rw [show e.extract 0 d.size = e by rw [← h.1]; exact Array.extract_size, Array.extract_size] at h2
 exact h2
theorem B410 {n : Nat} {f : Int × List Int -> Option ((Int × List Int) ⊕ (List Int))} {h : Nat -> Int -> Int} {V : Int -> Prop}
  (hf : ∀ (i : Nat) (b : List Int) (x : Int), b.length = n -> b[i]? = some x -> V x -> f ((i : Int), b) = some (.inl (((i + 1 : Nat) : Int), b.set i (h i x))))
  (he : ∀ b : List Int, b.length = n -> f ((n : Int), b) = some (.inr b)) : ∀ (m k : Nat) (b : List Int), k + m = n -> b.length = n -> (∀ j x, k <= j -> b[j]? = some x -> V x) ->
  ∃ r, loop f ((k : Int), b) = some r ∧ r.length = n ∧ ∀ j : Nat, r[j]? = if j < k then b[j]? else (b[j]?).map (h j) := by
 intro m
 induction m with
 | zero =>
  intro k b hk hb hv
  have : k = n := by omega
  subst this
  refine ⟨b, B4 (he b hb), hb, fun j => ?_⟩
  split
  ·rfl
  ·rw [A88 (by omega)]; rfl
 | succ m ih =>
  intro k b hk hb hv
  obtain ⟨x, hx⟩ : ∃ x, b[k]? = some x := ⟨_, A17 (by omega)⟩
  obtain ⟨r, r1, r2, r3⟩ := ih (k + 1) (b.set k (h k x)) (by omega) (by rw [A58]; exact hb) (fun j y hj hy => by
   rw [List.getElem?_set_ne (by omega)] at hy
   exact hv j y (by omega) hy)
  refine ⟨r, by rw [B6 (hf k b x hb hx (hv k x (A11 _) hx))]; exact r1, r2, fun j => ?_⟩
  rw [r3 j]
  by_cases h1 : j = k
  ·subst h1
   rw [A6 (by omega), A9 (by omega), hx, List.getElem?_set_self (by omega)]; rfl
  ·rw [List.getElem?_set_ne (Ne.symm h1)]
   by_cases h2 : j < k
   ·rw [A6 (by omega), A6 h2]
   ·rw [A9 (by omega), A9 h2]
def iota (n : Nat) : List Int := (List.range n).map fun k : Nat => (k : Int)
theorem B841 {n j : Nat} : (iota n)[j]? = if j < n then some (j : Int) else none := by
 unfold iota
 rw [A50]
 by_cases h : j < n
 ·rw [A74 h, A6 h]; rfl
 ·rw [A88 (by rw [A45]; omega), A9 h]; rfl
theorem B386 {n : Nat} {r : List Int} (hr : ∀ j : Nat, r[j]? = if j < 0 then (List.replicate n (0 : Int))[j]? else ((List.replicate n (0 : Int))[j]?).map (fun _ => (j : Int))) : r = iota n := by
 apply A113
 intro j
 rw [hr j, B841, A9 (by omega), A121]
 by_cases h : j < n
 ·rw [A6 h, A6 h]; rfl
 ·rw [A9 h, A9 h]; rfl
theorem B110 {n : Nat} : (iota n).length = n := by simp [iota]
theorem B166 {n : Nat} {x : Int} : x ∈ iota n ↔ 0 <= x ∧ x < (n : Int) := by
 unfold iota
 rw [A63]
 constructor
 ·rintro ⟨k, hk, rfl⟩
  rw [A86] at hk
  omega
 ·intro h
  exact ⟨x.toNat, A86.2 (by omega), by omega⟩
theorem B679 {t : List Int} (ht : t.length <= 4000) : ∃ s, Z150 t = some s ∧ s.Perm (iota (t.length + 1)) ∧ s.Pairwise (leS t) := by
 rw [Z150_eq, Z150_b]
 have w1 : i64.wrap ((t.length : Int) + 1) = ((t.length + 1 : Nat) : Int) := w64 (by omega)
 simp only [w1, A12]
 rw [A6 (by omega)]
 obtain ⟨r, r1, r2, r3⟩ := B410 (n := t.length + 1) (f := Z150l3 (List.replicate (t.length + 1) 0)) (h := fun i _ => (i : Int)) (V := fun _ => True)
  (fun i b x hb hx _ => by
   have hi := B7 hx
   have w2 : i64.wrap ((i : Int) + 1) = ((i + 1 : Nat) : Int) := w64 (by omega)
   unfold Z150l3
   simp only [A95, hb ▸ hi, A7, A5, A14, A13, A10, hi, A12, w2])
  (fun b hb => by
   unfold Z150l3
   simp only [A95, A10, Nat.lt_irrefl, A8, A4, A3])
  (t.length + 1) 0 (List.replicate (t.length + 1) 0) (by omega) (by simp) (fun _ _ _ _ => trivial)
 have er := B386 r3
 subst er
 have z0 : ((0 : Nat) : Int) = 0 := rfl
 rw [z0] at r1
 rw [r1]
 simp only [A1]
 obtain ⟨e, e1, e2, e3⟩ := B695 (t := t) (d := (iota (t.length + 1)).toArray) (fun k hk => by
   have hk' : k < (iota (t.length + 1)).length := by simpa using hk
   rw [getElem!_pos _ k hk]
   have : (iota (t.length + 1)).toArray[k] ∈ iota (t.length + 1) := by simp
   have := B166.1 this
   omega) (by simp [B110]) (by simp [B110]; omega)
 have e1' : Z176 (iota (t.length + 1)) t = some (e.toList, t) := e1
 rw [e1']
 refine ⟨e.toList, rfl, B827 e2, B624 ?_⟩
 rw [← e2.1] at e3
 exact e3
def colOf (t : List Int) (x : Int) : Int := if x = 0 then 0 else rd t (x - 1) + 1
theorem B789 {t s : List Int} (hs : Z150 t = some s) (hp : s.Perm (iota (t.length + 1))) (ht : t.length <= 4000) (hb : ∀ x ∈ t, 0 <= x ∧ x <= 255) : Z114 t = some (s.map (colOf t)) := by
 rw [Z114_eq, Z114_b, hs]
 simp only [A1]
 have hl : s.length = t.length + 1 := by rw [hp.length_eq, B110]
 obtain ⟨r, r1, r2, r3⟩ := B410 (n := t.length + 1) (f := Z114l3 t s) (h := fun _ x => colOf t x) (V := fun x => 0 <= x ∧ x <= (t.length : Int))
  (fun i b x hb' hx hv => by
   have hi := B7 hx
   have w2 : i64.wrap ((i : Int) + 1) = ((i + 1 : Nat) : Int) := w64 (by omega)
   have hr : rd b (i : Int) = x := B41 hx
   have hn : i < t.length + 1 := by omega
   unfold Z114l3 colOf
   by_cases h0 : x = 0
   ·simp only [hl, A10, hn, A7, A5, A14, A13, hi, hr, h0, A12, w2]
   ·have w3 : i64.wrap (x - 1) = x - 1 := w64 (by omega)
    have hm := hb _ (A44 (B253 (xs := t) (i := x - 1) (by omega) (by omega)))
    have w4 : i64.wrap (rd t (x - 1)) = rd t (x - 1) := w64 (by omega)
    have w5 : i64.wrap (rd t (x - 1) + 1) = rd t (x - 1) + 1 := w64 (by omega)
    have c1 : 0 <= x - 1 ∧ x - 1 < (t.length : Int) := by omega
    simp only [hl, A10, hn, A7, A5, A14, A13, hi, hr, h0, A8, A4, A3, w3, A6 c1, w4, w5, A12, w2])
  (fun b hb' => by
   unfold Z114l3
   simp only [hl, A10, Nat.lt_irrefl, A8, A4, A3])
  (t.length + 1) 0 s (by omega) hl (fun j x _ hx => by
   have := B166.1 (hp.mem_iff.1 (A44 hx))
   omega)
 have z0 : ((0 : Nat) : Int) = 0 := rfl
 rw [z0] at r1
 rw [r1]
 simp only [A1, A15]
 apply A113
 intro j
 rw [r3 j, A9 (by omega), A50]
def FstAt (l : List Int) (s : Int) (i : Nat) : Prop := l[i]? = some s ∧ ∀ j, j < i -> l[j]? ≠ some s
theorem FstAt.unique {l : List Int} {s : Int} {i k : Nat} (h : FstAt l s i) (g : FstAt l s k) : i = k := by
 rcases A118 i k with q | q | q
 ·exact absurd h.1 (g.2 i q)
 ·exact q
 ·exact absurd g.1 (h.2 k q)
def pos : List Int -> Int -> Nat
 | [], _ => 0
 | x :: l, s => if x = s then 0 else pos l s + 1
theorem B276 {s : Int} : ∀ {l : List Int}, s ∈ l -> FstAt l s (pos l s)
 | x :: l, h => by
  by_cases hx : x = s
  ·rw [pos, A6 hx]
   exact ⟨by simp [hx], fun j hj => absurd hj (by omega)⟩
  ·have hm : s ∈ l := by
    rcases A18.1 h with h | h
    ·exact absurd h.symm hx
    ·exact h
   obtain ⟨i1, i2⟩ := B276 hm
   rw [pos, A9 hx]
   refine ⟨by simpa using i1, fun j hj => ?_⟩
   cases j with
   | zero => simpa using hx
   | succ j => simpa using i2 j (by omega)
theorem B852 {l : List Int} {s : Int} {i : Nat} (h : FstAt l s i) (hl : l.length <= 1000) : Z153 l s = some (i : Int) := by
 have hi := B7 h.1
 have go : ∀ (m k : Nat), k + m = i -> loop (Z153l2 l s) (k : Int) = some (.inr (i : Int)) := by
  intro m
  induction m with
  | zero =>
   intro k hk
   have : k = i := by omega
   subst this
   refine B4 ?_
   unfold Z153l2
   simp only [A10, hi, A7, A5, A14, A13, B41 h.1]
  | succ m ih =>
   intro k hk
   have hk' : k < l.length := by omega
   have hne : ¬ s = rd l (k : Int) := by
    intro e
    refine h.2 k (by omega) ?_
    rw [A17 hk', e, B41 (A17 hk')]
   have w2 : i64.wrap ((k : Int) + 1) = ((k + 1 : Nat) : Int) := w64 (by omega)
   rw [B6 (s' := ((k + 1 : Nat) : Int))]
   ·exact ih (k + 1) (by omega)
   ·unfold Z153l2
    simp only [A10, hk', A7, A5, A14, A13, hne, A8, A4, A3, w2]
 rw [Z153_eq, Z153_b]
 have := go i 0 (by omega)
 have z0 : ((0 : Nat) : Int) = 0 := rfl
 rw [z0] at this
 rw [this]
 rfl
def B128 (l : List Int) (s : Int) (i : Nat) : List Int := s :: (l.take i ++ l.drop (i + 1))
theorem B267 {l : List Int} {s : Int} {i : Nat} (h : l[i]? = some s) : (B128 l s i).Perm l := by
 have hi := B7 h
 have e : l = l.take i ++ s :: l.drop (i + 1) := by
  have : l.drop i = s :: l.drop (i + 1) := by
   rw [A84 hi]
   congr 1
   rw [A17 hi] at h
   exact Option.some.inj h
  rw [← this, A116]
 unfold B128
 have hp : (l.take i ++ s :: l.drop (i + 1)).Perm (s :: (l.take i ++ l.drop (i + 1))) := List.perm_middle
 rw [← e] at hp
 exact hp.symm
theorem B862 {l : List Int} {s : Int} {i : Nat} (h : l[i]? = some s) (hl : l.length <= 1000) : Z112 (i : Int) l = some (s, B128 l s i) := by
 have hi := B7 h
 rw [Z112_eq, Z112_b]
 have w2 : i64.wrap ((i : Int) + 1) = ((i + 1 : Nat) : Int) := w64 (by omega)
 have hr : rd l (i : Int) = s := B41 h
 have e1 : min ((l.drop 0).take (i - 0)).length (i + 1 - 1) = i := by simp; omega
 cases l with
 | nil => simp at hi
 | cons x l =>
  simp only [A14, A13, A10, hi, A5, hr, w2, A12, A55, show i + 1 <= (x :: l).length by omega, show (0 : Int) <= 1 by omega, show (1 : Int) <= ((i + 1 : Nat) : Int) by omega, show i <= (x :: l).length by omega,
   show (1 : Int).toNat = 1 from rfl, e1]
  have e2 : (List.drop 0 (x :: l)).take (i - 0) = (x :: l).take i := by simp
  have e3 : ((x :: l).take i).take i = (x :: l).take i := by rw [List.take_take, Nat.min_self]
  rw [e2, e3]
  rw [A6 (by simp; omega)]
  simp only [A15, A27, A13, B128, show (0 : Int).toNat = 0 from rfl]
  rw [Nat.add_comm 1 i]
  rfl
def B93 : List Int -> List Int -> List Int
 | _, [] => []
 | all, s :: m => (pos all s : Int) :: B93 (B128 all s (pos all s)) m
theorem B482 : ∀ (m all : List Int), (B93 all m).length = m.length
 | [], _ => rfl
 | s :: m, all => by simp [B93, B482 m]
theorem B391 {n : Nat} : ∀ (m all : List Int), all.Perm (iota n) -> (∀ x ∈ m, 0 <= x ∧ x < (n : Int)) -> ∀ p ∈ B93 all m, 0 <= p ∧ p < (n : Int)
 | [], _, _, _ => fun p hp => by simp [B93] at hp
 | s :: m, all, ha, hm => fun p hp => by
  have hs : s ∈ all := ha.mem_iff.2 (B166.2 (hm s (by simp)))
  have hf := B276 hs
  rw [B93, A18] at hp
  rcases hp with hp | hp
  ·have := B7 hf.1
   rw [ha.length_eq, B110] at this
   omega
  ·exact B391 m _ ((B267 hf.1).trans ha) (fun x hx => hm x (by simp [hx])) p hp
theorem B480 {l : List Int} : ∀ (m : List Int) (n : Nat) (all out : List Int), l.drop n = m -> all.Perm (iota 257) -> (∀ x ∈ m, 0 <= x ∧ x < 257) -> out.length + m.length <= 100000 -> n + m.length <= 100000 ->
  ∃ a, loop (Z122l7 l) ((n : Int), all, out) = some (a, out ++ B93 all m)
 | [], n, all, out, hd, ha, hm, ho, hn => by
  refine ⟨all, B4 ?_⟩
  have hln : l.length <= n := by
   have := congrArg List.length hd
   rw [A71, A36] at this
   omega
  unfold Z122l7 Z122l7_b
  simp only [A10, show ¬ n < l.length by omega, A8, A4, A3, B93, A41]
 | s :: m, n, all, out, hd, ha, hm, ho, hn => by
  have hget : l[n]? = some s := by
   have : (l.drop n)[0]? = some s := by rw [hd]; rfl
   simpa using this
  have hd' : l.drop (n + 1) = m := by rw [← A106, hd]; rfl
  have hlt := B7 hget
  have hs : s ∈ all := ha.mem_iff.2 (B166.2 (by have := hm s (by simp); omega))
  have hf := B276 hs
  have hal : all.length <= 1000 := by rw [ha.length_eq, B110]; omega
  simp only [A25] at ho hn
  obtain ⟨a, h⟩ := B480 m (n + 1) (B128 all s (pos all s)) (out ++ [(pos all s : Int)]) hd' ((B267 hf.1).trans ha) (fun x hx => hm x (by simp [hx])) (by simp; omega) (by omega)
  refine ⟨a, ?_⟩
  have w2 : i64.wrap ((n : Int) + 1) = ((n + 1 : Nat) : Int) := w64 (by omega)
  rw [B6 (s' := (((n + 1 : Nat) : Int), B128 all s (pos all s), out ++ [(pos all s : Int)])), h, B93, A32]
  ·rfl
  ·unfold Z122l7 Z122l7_b
   simp only [A10, hlt, A7, A5, A14, A13, B41 hget, B852 hf hal, A1, B862 hf.1 hal, A29, w2]
   rw [A6 (by omega)]
theorem B864 {l : List Int} (hl : l.length <= 4001) (hm : ∀ x ∈ l, 0 <= x ∧ x < 257) : Z110 l = some 0 := by
 have go : ∀ (m k : Nat), k + m = l.length -> loop (Z175l2 l) (k : Int) = some (.inl ()) := by
  intro m
  induction m with
  | zero =>
   intro k hk
   refine B4 ?_
   unfold Z175l2 Z175l2_b
   simp only [A10, show ¬ k < l.length by omega, A8, A4, A3]
  | succ m ih =>
   intro k hk
   have hk' : k < l.length := by omega
   have hx := hm _ (rd_mem (l := l) (i := (k : Int)) (by omega) (by omega))
   have w2 : i64.wrap ((k : Int) + 1) = ((k + 1 : Nat) : Int) := w64 (by omega)
   rw [B6 (s' := ((k + 1 : Nat) : Int))]
   ·exact ih (k + 1) (by omega)
   ·unfold Z175l2 Z175l2_b
    simp only [A10, hk', A7, A5, A14, A13, Z189_eq, Z189_b, show ¬ rd l (k : Int) < 0 by omega, show ¬ rd l (k : Int) ≥ 257 by omega, A8, A4, A3, A1, w2]
 have h0 := go l.length 0 (by omega)
 have z0 : ((0 : Nat) : Int) = 0 := rfl
 rw [z0] at h0
 rw [Z110_eq, Z110_b, Z149_eq, Z149_b, Z175_eq, Z175_b, h0]
 simp only [show ¬ ((l.length : Nat) : Int) > 4001 by omega, A8, A4, A3, A1, A48, show ¬ (-1 : Int) ≥ 0 by omega]
theorem B900 : Z111 = some (iota 257) := by
 rw [Z111_eq, Z111_b]
 rw [A6 (by omega)]
 obtain ⟨r, r1, r2, r3⟩ := B410 (n := 257) (f := Z111l3 (List.replicate (257 : Int).toNat 0)) (h := fun i _ => (i : Int)) (V := fun _ => True)
  (fun i b x hb hx _ => by
   have hi := B7 hx
   have w2 : i64.wrap ((i : Int) + 1) = ((i + 1 : Nat) : Int) := w64 (by omega)
   unfold Z111l3
   simp only [A95, show (257 : Int).toNat = 257 from rfl, hb ▸ hi, A7, A5, A14, A13, A10, hi, A12, w2])
  (fun b hb => by
   unfold Z111l3
   simp only [A95, show (257 : Int).toNat = 257 from rfl, A10, Nat.lt_irrefl, A8, A4, A3])
  257 0 (List.replicate 257 0) (by omega) A95 (fun _ _ _ _ => trivial)
 have er := B386 r3
 subst er
 have z0 : ((0 : Nat) : Int) = 0 := rfl
 rw [z0] at r1
 have r1' : loop (Z111l3 (List.replicate (257 : Int).toNat 0)) (0, List.replicate (257 : Int).toNat 0) = some (iota 257) := r1
 simp only [r1', A1]
theorem B884 {l : List Int} (hl : l.length <= 4001) (hm : ∀ x ∈ l, 0 <= x ∧ x < 257) : Z122 l = some (B93 (iota 257) l, 0) := by
 rw [Z122_eq, Z122_b, B864 hl hm, B900]
 obtain ⟨a, h⟩ := B480 (l := l) l 0 (iota 257) [] rfl (.refl _) hm (by simp; omega) (by omega)
 have z0 : ((0 : Nat) : Int) = 0 := rfl
 rw [z0] at h
 simp only [A1, A7, A19, A4, A3, h, A30]
theorem B614 : ∀ l m : List Int, strLt l m = decide (cmpI l m < 0)
 | [], [] => rfl
 | [], _ :: _ => rfl
 | _ :: _, [] => rfl
 | x :: l, y :: m => by
  rw [strLt, cmpI, B614 l m]
  by_cases h : x < y
  ·simp [h]
  ·by_cases g : y < x
   ·simp [h, g, show ¬ x = y by omega]
   ·simp [h, g, show x = y by omega]
theorem B810 {t : List Int} {x y : Int} (hx : 0 <= x ∧ x <= (t.length : Int)) (hy : 0 <= y ∧ y <= (t.length : Int)) : Z192 t x y = some (ltS t x y) := by
 rw [Z192_eq]
 simp only [hx, hy, A22, A5, B614, cutL, List.take_length]
 rfl
theorem B408 {R : Int -> Int -> Prop} {l m : List Int} {x : Int} {i : Nat} (h : l.Pairwise R) (e : l.drop i = x :: m) : ∀ y ∈ m, R x y := by
 have := h.drop (i := i)
 rw [e] at this
 exact (List.pairwise_cons.1 this).1
theorem B873 {t a b : List Int} (ha : PlL t a) (hb : PlL t b) (sa : a.Pairwise (leS t)) (sb : b.Pairwise (leS t)) (hal : a.length <= 100000) (hbl : b.length <= 100000) : ∀ (m i k : Nat) (out : List Int), a.length - i + (b.length - k) = m -> i <= a.length -> k <= b.length -> out.length + m <= 1000000 ->
  out.Pairwise (leS t) -> (∀ x ∈ out, ∀ y ∈ a.drop i ++ b.drop k, leS t x y) ->
  ∃ r, loop (Z183l6 t a b) ((i : Int), (k : Int), out) = some r ∧ r.Perm (out ++ (a.drop i ++ b.drop k)) ∧ r.Pairwise (leS t) := by
 intro m
 induction m with
 | zero =>
  intro i k out hm hi hk ho hp hq
  refine ⟨out, B4 ?_, ?_, hp⟩
  ·unfold Z183l6
   simp only [A10, show ¬ i < a.length by omega, show ¬ k < b.length by omega, A8, A4, A3, A1]
  ·rw [A99 (by omega), A99 (by omega)]; simp
 | succ m ih =>
  intro i k out hm hi hk ho hp hq
  have v13 : ((if decide (((i : Nat) : Int) < ((a.length : Nat) : Int)) = true then some true else some (decide (((k : Nat) : Int) < ((b.length : Nat) : Int)))) : Option Bool) = some true := by
   by_cases h : i < a.length
   ·rw [A6 (by simp only [A20]; omega)]
   ·rw [A9 (by simp only [A20]; omega)]
    simp only [A15, A20]; omega
  -- an element of the first is taken
  have goA : ∀ h : i < a.length, (∀ y ∈ b.drop k, leS t a[i] y) -> ((if decide ((k : Int) = (b.length : Int)) = true then some true else if decide ((i : Int) < (a.length : Int)) = true then if 0 <= (i : Int) ∧ (i : Int) < (a.length : Int) then if 0 <= (k : Int) ∧ (k : Int) < (b.length : Int) then (Z192 t (rd a (i : Int)) (rd b (k : Int))).bind fun q14 => some q14 else none else none else some false) : Option Bool) = some true ->
    ∃ r, loop (Z183l6 t a b) ((i : Int), (k : Int), out) = some r ∧ r.Perm (out ++ (a.drop i ++ b.drop k)) ∧ r.Pairwise (leS t) := by
   intro h hle v15
   have ed : a.drop i = a[i] :: a.drop (i + 1) := A84 h
   have hr : rd a (i : Int) = a[i] := B41 (A17 h)
   obtain ⟨r, r1, r2, r3⟩ := ih (i + 1) k (out ++ [a[i]]) (by omega) (by omega) hk (by simp; omega)
    (List.pairwise_append.2 ⟨hp, List.pairwise_singleton _ _, fun x hx y hy => by
     rw [A54] at hy; subst hy
     exact hq x hx _ (A81 _ (by rw [ed]; exact A33))⟩)
    (fun x hx y hy => by
     rcases A42.1 hx with hx | hx
     ·refine hq x hx y ?_
      rcases A42.1 hy with hy | hy
      ·exact A81 _ (by rw [ed]; exact A37 _ hy)
      ·exact A72 _ hy
     ·rw [A54] at hx; subst hx
      rcases A42.1 hy with hy | hy
      ·exact B408 sa ed y hy
      ·exact hle y hy)
   refine ⟨r, ?_, ?_, r3⟩
   ·have w2 : i64.wrap ((i : Int) + 1) = ((i + 1 : Nat) : Int) := w64 (by omega)
    rw [B6 (s' := (((i + 1 : Nat) : Int), (k : Int), out ++ [a[i]]))]
    ·exact r1
    ·unfold Z183l6
     simp only [v13, A1, A5, v15]
     simp only [A14, A13, A10, h, A5, hr, A29, w2]
     rw [A6 (by omega)]
   ·rw [ed]
    refine r2.trans ?_
    rw [A32]; exact List.Perm.refl _
  have goB : ∀ h : k < b.length, (∀ y ∈ a.drop i, leS t b[k] y) -> ((if decide ((k : Int) = (b.length : Int)) = true then some true else if decide ((i : Int) < (a.length : Int)) = true then if 0 <= (i : Int) ∧ (i : Int) < (a.length : Int) then if 0 <= (k : Int) ∧ (k : Int) < (b.length : Int) then (Z192 t (rd a (i : Int)) (rd b (k : Int))).bind fun q14 => some q14 else none else none else some false) : Option Bool) = some false ->
    ∃ r, loop (Z183l6 t a b) ((i : Int), (k : Int), out) = some r ∧ r.Perm (out ++ (a.drop i ++ b.drop k)) ∧ r.Pairwise (leS t) := by
   intro h hle v15
   have ed : b.drop k = b[k] :: b.drop (k + 1) := A84 h
   have hr : rd b (k : Int) = b[k] := B41 (A17 h)
   obtain ⟨r, r1, r2, r3⟩ := ih i (k + 1) (out ++ [b[k]]) (by omega) hi (by omega) (by simp; omega)
    (List.pairwise_append.2 ⟨hp, List.pairwise_singleton _ _, fun x hx y hy => by
     rw [A54] at hy; subst hy
     exact hq x hx _ (A72 _ (by rw [ed]; exact A33))⟩)
    (fun x hx y hy => by
     rcases A42.1 hx with hx | hx
     ·refine hq x hx y ?_
      rcases A42.1 hy with hy | hy
      ·exact A81 _ hy
      ·exact A72 _ (by rw [ed]; exact A37 _ hy)
     ·rw [A54] at hx; subst hx
      rcases A42.1 hy with hy | hy
      ·exact hle y hy
      ·exact B408 sb ed y hy)
   refine ⟨r, ?_, ?_, r3⟩
   ·have w2 : i64.wrap ((k : Int) + 1) = ((k + 1 : Nat) : Int) := w64 (by omega)
    rw [B6 (s' := ((i : Int), ((k + 1 : Nat) : Int), out ++ [b[k]]))]
    ·exact r1
    ·unfold Z183l6
     simp only [v13, A1, A5, v15, A4, A3]
     simp only [A14, A13, A10, h, A5, hr, A29, w2]
     rw [A6 (by omega)]
   ·rw [ed]
    refine r2.trans ?_
    rw [A32]
    refine List.Perm.append_left out ?_
    show (b[k] :: (a.drop i ++ b.drop (k + 1))).Perm (a.drop i ++ b[k] :: b.drop (k + 1))
    exact List.perm_middle.symm
  by_cases hkb : k = b.length
  ·refine goA (by omega) (fun y hy => ?_) ?_
   ·rw [A99 (by omega)] at hy; simp at hy
   ·rw [A6 (by simp only [A20]; omega)]
  ·have hk' : k < b.length := by omega
   by_cases hia : i < a.length
   ·have e1 : rd a (i : Int) = a[i] := B41 (A17 hia)
    have e2 : rd b (k : Int) = b[k] := B41 (A17 hk')
    have e3 := B810 (t := t) (ha a[i] (A79 hia)) (hb b[k] (A79 hk'))
    have eb : b.drop k = b[k] :: b.drop (k + 1) := A84 hk'
    have ea : a.drop i = a[i] :: a.drop (i + 1) := A84 hia
    cases hl : ltS t a[i] b[k] with
    | true =>
     refine goA hia (fun y hy => ?_) ?_
     ·rw [eb] at hy
      rcases A18.1 hy with hy | hy
      ·rw [hy]; exact lt_le hl
      ·exact B555 (lt_le hl) (B408 sb eb y hy)
     ·rw [A9 (by simp only [A20]; omega), A6 (by simp only [A20]; omega), A6 (by omega), A6 (by omega), e1, e2, e3, hl]; rfl
    | false =>
     refine goB hk' (fun y hy => ?_) ?_
     ·rw [ea] at hy
      rcases A18.1 hy with hy | hy
      ·rw [hy]; exact hl
      ·exact B555 (show leS t b[k] a[i] from hl) (B408 sa ea y hy)
     ·rw [A9 (by simp only [A20]; omega), A6 (by simp only [A20]; omega), A6 (by omega), A6 (by omega), e1, e2, e3, hl]; rfl
   ·refine goB hk' (fun y hy => ?_) ?_
    ·rw [A99 (by omega)] at hy; simp at hy
    ·rw [A9 (by simp only [A20]; omega), A9 (by simp only [A20]; omega)]
theorem B804 {t : List Int} : ∀ (n : Nat) (l : List Int), l.length <= n -> PlL t l -> l.length <= 100000 -> ∃ r, Z183 t l = some r ∧ r.Perm l ∧ r.Pairwise (leS t) := by
 intro n
 induction n using Nat.strongRecOn with
 | _ n ih =>
 intro l hn hp hl
 rw [Z183_eq]
 by_cases h2 : l.length < 2
 ·simp only [show ((l.length : Nat) : Int) < 2 by omega, A7, A5]
  refine ⟨l, rfl, .refl _, ?_⟩
  match l, h2 with
  | [], _ => exact .nil
  | [x], _ => exact List.pairwise_singleton _ _
 ·have w1 : i64.wrap (((l.length : Nat) : Int).tdiv 2) = ((l.length / 2 : Nat) : Int) := by rw [B30 (by omega), w64 (by omega)]; omega
  have e1 : cutL l 0 (l.length / 2) = l.take (l.length / 2) := by simp [cutL]
  have e2 : cutL l (l.length / 2) l.length = l.drop (l.length / 2) := by simp [cutL]
  obtain ⟨a, a1, a2, a3⟩ := ih (l.length / 2) (by omega) (l.take (l.length / 2)) (by simp; omega) (fun x hx => hp x (A69 hx)) (by simp; omega)
  obtain ⟨b, b1, b2, b3⟩ := ih (l.length - l.length / 2) (by omega) (l.drop (l.length / 2)) (by simp) (fun x hx => hp x (A80 hx)) (by simp; omega)
  have la : a.length = l.length / 2 := by rw [a2.length_eq]; simp; omega
  have lb : b.length = l.length - l.length / 2 := by rw [b2.length_eq]; simp
  obtain ⟨r, r1, r2, r3⟩ := B873 (t := t) (fun x hx => hp x (A69 (a2.mem_iff.1 hx))) (fun x hx => hp x (A80 (b2.mem_iff.1 hx))) a3 b3 (by omega) (by omega) (a.length + b.length) 0 0 [] (by omega) (by omega) (by omega) (by simp; omega) .nil (fun x hx => by simp at hx)
  have z0 : ((0 : Nat) : Int) = 0 := rfl
  rw [z0] at r1
  refine ⟨r, ?_, ?_, r3⟩
  ·simp only [show ¬ ((l.length : Nat) : Int) < 2 by omega, A8, A4, A3, w1, A12, show (0 : Int) <= ((l.length / 2 : Nat) : Int) by omega, show ((l.length / 2 : Nat) : Int) <= ((l.length : Nat) : Int) by omega, A22, A5, e1, e2, a1, b1, A1, r1]
  ·refine r2.trans ?_
   simp only [A30, List.drop_zero]
   have := a2.append b2
   rwa [A116] at this
theorem B803 {t : List Int} (ht : t.length <= 4000) : ∀ (m k : Nat), k + m = t.length + 1 -> loop (Z160l5 t) ((k : Int), iota k) = some (iota (t.length + 1)) := by
 intro m
 induction m with
 | zero =>
  intro k hk
  have : k = t.length + 1 := by omega
  subst this
  refine B4 ?_
  unfold Z160l5
  simp only [show ¬ (((t.length + 1 : Nat) : Int) <= ((t.length : Nat) : Int)) by omega, A8, A4, A3]
 | succ m ih =>
  intro k hk
  have w2 : i64.wrap ((k : Int) + 1) = ((k + 1 : Nat) : Int) := w64 (by omega)
  rw [B6 (s' := (((k + 1 : Nat) : Int), iota (k + 1)))]
  ·exact ih (k + 1) (by omega)
  ·unfold Z160l5
   simp only [show ((k : Nat) : Int) <= ((t.length : Nat) : Int) by omega, A7, A5, B110, A29, w2]
   rw [A6 (by omega)]
   simp only [iota, List.range_succ, A96, A61, A98]
theorem B661 {t : List Int} (ht : t.length <= 4000) : ∃ s, Z160 t = some (s, 0) ∧ s.Perm (iota (t.length + 1)) ∧ s.Pairwise (leS t) := by
 rw [Z160_eq]
 have h := B803 ht (t.length + 1) 0 (by omega)
 have z0 : ((0 : Nat) : Int) = 0 := rfl
 rw [z0] at h
 have e0 : iota 0 = [] := rfl
 rw [e0] at h
 obtain ⟨s, s1, s2, s3⟩ := B804 (t := t) (t.length + 1) (iota (t.length + 1)) (by rw [B110]; exact A11 _) (fun x hx => by have := B166.1 hx; omega) (by rw [B110]; omega)
 simp only [show ¬ ((t.length : Nat) : Int) > 4000 by omega, A8, A4, A3, h, A1, s1]
 exact ⟨s, rfl, s2, s3⟩
theorem B767 {t s : List Int} (hs : ∀ x ∈ s, 0 <= x ∧ x <= (t.length : Int)) (hl : s.length <= 100000) (ht : t.length <= 4000) (hb : ∀ x ∈ t, 0 <= x ∧ x <= 255) : ∀ (m k : Nat), k + m = s.length -> loop (Z129l6 t s) ((k : Int), (s.take k).map (colOf t)) = some (s.map (colOf t)) := by
 intro m
 induction m with
 | zero =>
  intro k hk
  have : k = s.length := by omega
  subst this
  refine B4 ?_
  unfold Z129l6
  simp only [A10, Nat.lt_irrefl, A8, A4, A3, List.take_length]
 | succ m ih =>
  intro k hk
  have hk' : k < s.length := by omega
  have w2 : i64.wrap ((k : Int) + 1) = ((k + 1 : Nat) : Int) := w64 (by omega)
  have hr : rd s (k : Int) = s[k] := B41 (A17 hk')
  have hx := hs s[k] (A79 hk')
  have et : s.take (k + 1) = s.take k ++ [s[k]] := by rw [A119, A17 hk']; rfl
  rw [B6 (s' := (((k + 1 : Nat) : Int), (s.take (k + 1)).map (colOf t)))]
  ·exact ih (k + 1) (by omega)
  ·unfold Z129l6
   rw [et, A96, A61, A98]
   have ho : ((s.take k).map (colOf t)).length = k := by simp; omega
   by_cases h0 : s[k] = 0
   ·simp only [A10, hk', A7, A5, A14, A13, hr, h0, ho, A29, w2, colOf]
    rw [A6 (by omega)]
   ·have w3 : i64.wrap (s[k] - 1) = s[k] - 1 := w64 (by omega)
    have hm := hb _ (rd_mem (l := t) (i := s[k] - 1) (by omega) (by omega))
    have w4 : i64.wrap (rd t (s[k] - 1)) = rd t (s[k] - 1) := w64 (by omega)
    have w5 : i64.wrap (1 + rd t (s[k] - 1)) = rd t (s[k] - 1) + 1 := by rw [w64 (by omega)]; omega
    have c1 : 0 <= s[k] - 1 ∧ s[k] - 1 < (t.length : Int) := by omega
    simp only [A10, hk', A7, A5, A14, A13, hr, h0, A8, A4, A3, ho, A29, w3, A6 c1, w4, w5, w2, colOf]
    rw [A6 (by omega)]
theorem B689 {t : List Int} (hb : ∀ x ∈ t, 0 <= x ∧ x <= 255) : (t.length > 4000 ∧ Z120 t = some ([], 4) ∧ Z129 t = some ([], 4)) ∨
  (t.length <= 4000 ∧ ∃ c, Z120 t = some (c, 0) ∧ Z129 t = some (c, 0) ∧ c.length = t.length + 1 ∧ ∀ x ∈ c, 0 <= x ∧ x < 257) := by
 by_cases h : t.length <= 4000
 ·right
  refine ⟨h, ?_⟩
  obtain ⟨s, s1, s2, s3⟩ := B679 h
  obtain ⟨r, r1, r2, r3⟩ := B661 h
  have hv : PlL t s := fun x hx => by have := B166.1 (s2.mem_iff.1 hx); omega
  have e : s = r := B606 hv (s2.trans r2.symm) s3 r3
  subst e
  have hl : s.length = t.length + 1 := by rw [s2.length_eq, B110]
  have hc := B767 hv (by omega) h hb s.length 0 (by omega)
  have z0 : ((0 : Nat) : Int) = 0 := rfl
  rw [z0, A107, A98] at hc
  refine ⟨s.map (colOf t), ?_, ?_, by simp [hl], fun x hx => ?_⟩
  ·rw [Z120_eq, Z120_b, B789 s1 s2 h hb]
   simp only [show ¬ ((t.length : Nat) : Int) > 4000 by omega, A8, A4, A3, A1]
  ·rw [Z129_eq, r1]
   simp only [A1, A7, A19, A4, A3, hc]
  ·obtain ⟨y, hy, rfl⟩ := A63.1 hx
   have := hv y hy
   unfold colOf
   split
   ·omega
   ·have := hb _ (rd_mem (l := t) (i := y - 1) (by omega) (by omega)); omega
 ·left
  refine ⟨by omega, ?_, ?_⟩
  ·rw [Z120_eq, Z120_b]
   simp only [show ((t.length : Nat) : Int) > 4000 by omega, A7, A5]
  ·rw [Z129_eq, Z160_eq]
   simp only [show ((t.length : Nat) : Int) > 4000 by omega, A7, A5, A1]
   rfl
end Go.Proofs.YtcphcfknnfibmaaGreat.P
