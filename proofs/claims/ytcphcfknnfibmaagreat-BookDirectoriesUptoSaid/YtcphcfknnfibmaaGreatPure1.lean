import Derived.Test.YtcphcfknnfibmaaGreatQs
import Derived.Test.YtcphcfknnfibmaaGreatF5
import Derived.Sort.LotA
import Derived.Sort.LotB
import Derived.Sort.LotC
import Derived.Sort.LotD1
import Derived.Sort.LotD3
open Go Go.IntKind Go.Proofs.YtcphcfknnfibmaaGreat.V
set_option linter.unusedVariables false
set_option linter.unusedSimpArgs false
set_option linter.unusedSectionVars false
set_option maxRecDepth 100000
namespace Go.Proofs.YtcphcfknnfibmaaGreat.P
def Both {α β : Type} (x : Option α) (y : Option β) (P : α -> β -> Prop) : Prop := ∃ a b, x = some a ∧ y = some b ∧ P a b
theorem Both.mk {α β : Type} {a : α} {b : β} {P : α -> β -> Prop} (h : P a b) : Both (some a) (some b) P := ⟨a, b, rfl, rfl, h⟩
theorem Both.bind {α β γ δ : Type} {x : Option α} {y : Option β} {P : α -> β -> Prop} {f : α -> Option γ} {g : β -> Option δ} {Q : γ -> δ -> Prop} (h : Both x y P) (k : ∀ a b, P a b -> Both (f a) (g b) Q) : Both (x.bind f) (y.bind g) Q := by
 obtain ⟨a, b, rfl, rfl, hp⟩ := h
 exact k a b hp
theorem Both.imp {α β : Type} {x : Option α} {y : Option β} {P Q : α -> β -> Prop} (h : Both x y P) (k : ∀ a b, P a b -> Q a b) : Both x y Q := by
 obtain ⟨a, b, h1, h2, hp⟩ := h
 exact ⟨a, b, h1, h2, k a b hp⟩
theorem Both.eq {α : Type} {x y : Option α} (h : Both x y Eq) : x = y := by
 obtain ⟨a, b, h1, h2, rfl⟩ := h
 rw [h1, h2]
def B819 {S S' A A' : Type} (R : S -> S' -> Prop) (Q : A -> A' -> Prop) : S ⊕ A -> S' ⊕ A' -> Prop
 | .inl s, .inl t => R s t
 | .inr a, .inr b => Q a b
 | _, _ => False
theorem Both.loop {S S' A A' : Type} {f : S -> Option (S ⊕ A)} {g : S' -> Option (S' ⊕ A')} (R : S -> S' -> Prop) (Q : A -> A' -> Prop) (m : S -> Nat)
  (h : ∀ s t, R s t -> Both (f s) (g t) (B819 (fun s' t' => R s' t' ∧ m s' < m s) Q)) : ∀ s t, R s t -> Both (V.loop f s) (V.loop g t) Q := by
 refine B923 R Q m fun s t hr => ?_
 obtain ⟨a, b, h1, h2, hp⟩ := h s t hr
 cases a with
 | inl s' =>
  cases b with
  | inl t' => exact .inl ⟨s', t', h1, h2, hp.1, hp.2⟩
  | inr _ => exact hp.elim
 | inr a =>
  cases b with
  | inl _ => exact hp.elim
  | inr b => exact .inr ⟨a, b, h1, h2, hp⟩
theorem B799 {X S S' A A' : Type} {f : Nat -> X -> S -> Option (S ⊕ A)} {g : Nat -> X -> S' -> Option (S' ⊕ A')} {fin : S -> Option A} {fin' : S' -> Option A'} (R : Nat -> S -> S' -> Prop) (Q : A -> A' -> Prop) :
  ∀ (l : List X) (n : Nat) (s : S) (t : S'), (∀ k x s t, l[k]? = some x -> R (n + k) s t -> Both (f (n + k) x s) (g (n + k) x t) (B819 (R (n + k + 1)) Q)) -> (∀ s t, R (n + l.length) s t -> Both (fin s) (fin' t) Q) ->
   R n s t -> Both (overL f fin n l s) (overL g fin' n l t) Q
 | [], n, s, t, _, hf, hr => by rw [B294, B294]; exact hf s t hr
 | x :: l, n, s, t, h, hf, hr => by
  obtain ⟨a, b, h1, h2, hp⟩ := h 0 x s t rfl hr
  rw [A34] at h1 h2 hp
  cases a with
  | inl s' =>
   cases b with
   | inl t' =>
    rw [B108 h1, B108 h2]
    refine B799 R Q l (n + 1) s' t' (fun k x s t hk hr => ?_) (fun s t hr => hf s t (by rw [A28]; rwa [show n + (l.length + 1) = n + 1 + l.length by omega])) hp
    have := h (k + 1) x s t (by simpa using hk) (by rwa [show n + (k + 1) = n + 1 + k by omega])
    rwa [show n + (k + 1) = n + 1 + k by omega] at this
   | inr b => exact hp.elim
  | inr a =>
   cases b with
   | inl _ => exact hp.elim
   | inr b => rw [B251 h1, B251 h2]; exact .mk hp
theorem B293 {X S A : Type} {f : Nat -> X -> S -> Option (S ⊕ A)} {fin : S -> Option A} (F : Nat -> S) : ∀ (l : List X) (n : Nat), (∀ k x, l[k]? = some x -> f (n + k) x (F (n + k)) = some (.inl (F (n + k + 1)))) -> overL f fin n l (F n) = fin (F (n + l.length))
 | [], n, _ => by rw [B294]; rfl
 | x :: l, n, h => by
  have h0 := h 0 x rfl
  rw [A34] at h0
  rw [B108 h0, B293 F l (n + 1) (fun k x hk => ?_), A28, show n + (l.length + 1) = n + 1 + l.length by omega]
  have := h (k + 1) x (by simpa using hk)
  rwa [show n + (k + 1) = n + 1 + k by omega] at this
theorem B1025 {b : Bool} {p : Prop} [Decidable p] (h : b = true ↔ p) : some b = some (decide p) := by
 congr 1
 cases b <;> simp_all
theorem rd_mem {l : List Int} {i : Int} (h0 : 0 <= i) (h1 : i < (l.length : Int)) : rd l i ∈ l := A38 (B197 h0 h1)
theorem B859 {X A : Type} (P : X -> Bool) {step : Nat -> X -> Unit -> Option (Unit ⊕ A)} {fin : Unit -> Option A} {a : A} (h : ∀ n x, step n x () = if P x = true then some (.inl ()) else some (.inr a)) :
  ∀ (l : List X) (n : Nat), overL step fin n l () = if l.all P = true then fin () else some a
 | [], n => by simp [B294]
 | x :: l, n => by
  by_cases hx : P x = true
  ·rw [B108 (s' := ()) (by rw [h, A5 hx]), B859 P h l (n + 1)]
   simp [hx]
  ·rw [B251 (a := a) (by rw [h, A8 hx])]
   simp [hx]
theorem B798 {X A : Type} {P : Nat -> X -> Prop} {step : Nat -> X -> Unit -> Option (Unit ⊕ A)} {fin : Unit -> Option A} {a : A} : ∀ (l : List X) (n : Nat),
  (∀ k x, l[k]? = some x -> P (n + k) x ∧ step (n + k) x () = some (.inl ()) ∨ ¬ P (n + k) x ∧ step (n + k) x () = some (.inr a)) ->
  (∀ k x, l[k]? = some x -> P (n + k) x) ∧ overL step fin n l () = fin () ∨ (¬ ∀ k x, l[k]? = some x -> P (n + k) x) ∧ overL step fin n l () = some a
 | [], n, _ => .inl ⟨fun k x h => by simp at h, rfl⟩
 | x :: l, n, h => by
  have h0 := h 0 x rfl
  rw [A34] at h0
  rcases h0 with ⟨h1, h2⟩ | ⟨h1, h2⟩
  ·rw [B108 h2]
   rcases B798 l (n + 1) (fun k y hk => by have := h (k + 1) y (by simpa using hk); rwa [show n + (k + 1) = n + 1 + k by omega] at this) with ⟨g1, g2⟩ | ⟨g1, g2⟩
   ·refine .inl ⟨fun k y hk => ?_, g2⟩
    cases k with
    | zero => simp at hk; subst hk; rw [A34]; exact h1
    | succ k => have := g1 k y (by simpa using hk); rwa [show n + 1 + k = n + (k + 1) by omega] at this
   ·refine .inr ⟨fun q => g1 fun k y hk => ?_, g2⟩
    have := q (k + 1) y (by simpa using hk)
    rwa [show n + (k + 1) = n + 1 + k by omega] at this
  ·exact .inr ⟨fun q => h1 (by simpa using q 0 x rfl), B251 h2⟩
theorem B801 {X S : Type} {step : Nat -> X -> S -> Option (S ⊕ S)} (P : Nat -> S -> Prop) : ∀ (l : List X) (n : Nat) (s : S), P n s -> (∀ k x s, l[k]? = some x -> P (n + k) s -> ∃ s', step (n + k) x s = some (.inl s') ∧ P (n + k + 1) s') ->
  ∃ s', overL step (fun s => some s) n l s = some s' ∧ P (n + l.length) s'
 | [], n, s, h, _ => ⟨s, rfl, h⟩
 | x :: l, n, s, h, hs => by
  obtain ⟨s', h1, h2⟩ := hs 0 x s rfl h
  rw [A34] at h1 h2
  obtain ⟨r, h3, h4⟩ := B801 P l (n + 1) s' h2 (fun k y t hk ht => by
   have := hs (k + 1) y t (by simpa using hk) (by rwa [show n + (k + 1) = n + 1 + k by omega])
   rwa [show n + (k + 1) = n + 1 + k by omega] at this)
  rw [B108 h1]
  exact ⟨r, h3, by rw [A28, show n + (l.length + 1) = n + 1 + l.length by omega]; exact h4⟩
theorem B800 {X S : Type} {step : Nat -> X -> S -> Option (S ⊕ S)} (h : ∀ n x s, ∃ s', step n x s = some (.inl s')) : ∀ (l : List X) (n : Nat) (s : S), ∃ r, overL step (fun s => some s) n l s = some r
 | [], n, s => ⟨s, rfl⟩
 | x :: l, n, s => by
  obtain ⟨s', h1⟩ := h n x s
  rw [B108 h1]
  exact B800 h l (n + 1) s'
def QL : List Int := [2048, 1792, 1568, 1372, 1201, 1051, 920, 805, 705, 617, 540, 473, 414, 363, 318, 279, 245, 215, 189, 166, 146, 128, 112, 98, 86, 76, 67, 59, 52, 46, 41, 36]
theorem B949 : ∀ i : Fin 31, i64.wrap (rd QL ((i : Nat) : Int) - i64.wrap ((rd QL ((i : Nat) : Int)).tdiv 8)) = rd QL (((i : Nat) + 1 : Nat) : Int) := by decide +kernel
theorem B887 : ∀ i : Fin 32, 36 <= rd QL ((i : Nat) : Int) ∧ rd QL ((i : Nat) : Int) <= 2048 := by decide +kernel
theorem B384 {k : Nat} (hk : k < 32) : ∀ (d i : Nat), i + d = k -> loop (Z155l3 (k : Int)) (rd QL (i : Int), (i : Int)) = some (rd QL (k : Int))
 | 0, i, h => by
  have : i = k := by omega
  subst this
  refine B4 ?_
  unfold Z155l3
  simp
 | d + 1, i, h => by
  have hq := B949 ⟨i, by omega⟩
  simp only at hq
  rw [B5 (s' := (rd QL ((i + 1 : Nat) : Int), ((i + 1 : Nat) : Int)))]
  ·exact B384 hk d (i + 1) (by omega)
  ·unfold Z155l3
   have h1 : (i : Int) < (k : Int) := by omega
   simp only [h1, A7, A6, hq]
   rw [w64 (by omega)]; rfl
theorem B476 {k : Int} (h0 : 0 <= k) (h1 : k < 32) : Z155 k = some (rd QL k) := by
 obtain ⟨n, rfl⟩ := A70 h0
 rw [Z155_eq]
 have := B384 (k := n) (by omega) n 0 (by omega)
 have h2 : rd QL ((0 : Nat) : Int) = 2048 := by decide
 rw [h2] at this
 rw [show ((0 : Nat) : Int) = 0 from rfl] at this
 rw [this]; rfl
def B53 (kind s : Int) : Prop := (kind = 0 ∧ 0 <= s ∧ s < 64) ∨ (kind = 1 ∧ 0 <= s ∧ s < 65536)
theorem B584 {kind s : Int} (h : B53 kind s) : Z151 kind s = Z131 kind s := by
 rw [Z151_eq, Z151_b, Z131_eq]
 rcases h with ⟨rfl, h0, h1⟩ | ⟨rfl, h0, h1⟩
 ·simp only [B34 h0]
  simp only [show ¬ ((0 : Int) = 1) by decide, A7, A9, A4, A6, A1]
  rw [B476 (by omega) (by omega)]
  by_cases h2 : s < 32
  ·have h3 : ¬ s ≥ 32 := by omega
   have h4 : s % 32 = s := by omega
   have h5 : s < ((32 : Nat) : Int) := by omega
   simp only [h2, h3, h4, h5, h0, A7, A9, A4, A6, A1, A32, A3]
   rfl
  ·have h3 : s ≥ 32 := by omega
   have h4 : s % 32 = s - 32 := by omega
   rw [w64 (n := s - 32) (by omega)]
   have h5 : 0 <= s - 32 := by omega
   have h6 : s - 32 < ((32 : Nat) : Int) := by omega
   simp only [h2, h3, h4, h5, h6, A7, A9, A4, A6, A1, A32, A3]
   rfl
 ·simp only [show ¬ ((1 : Int) = 0) by decide, A7, A9, A4, A6, A1]
theorem B568 {kind s bit : Int} (h : B53 kind s) (hb : bit = 0 ∨ bit = 1) : Z152 kind s bit = Z133 kind s bit := by
 rw [Z152_eq, Z152_b, Z133_eq]
 rcases h with ⟨rfl, h0, h1⟩ | ⟨rfl, h0, h1⟩
 ·simp only [B34 h0, B27 h0]
  simp only [show ¬ ((0 : Int) = 1) by decide, A7, A9, A4, A6, A1]
  by_cases h2 : bit = i64.wrap (s / 32)
  ·simp only [h2, A7, A6]
  ·simp only [h2, A9, A4, A1]
   by_cases h3 : s % 32 = 0
   ·simp only [h3, A7, A6]
    rw [w64 (n := 32 * bit) (by omega), Int.add_zero, w64 (by omega)]
   ·simp only [h3, A9, A4, A1]
    rw [B27 (by omega)]
    simp only [w64s]
    congr 1
    omega
 ·simp only [show ¬ ((1 : Int) = 0) by decide, A7, A9, A4, A6, A1]
theorem B236 (n : Int) : ishr .u64 n 24 = n / 16777216 := by
 unfold ishr
 rw [show (2 : Int) ^ (min (24 : Int).toNat IntKind.u64.bits) = 16777216 by decide, A108 _ (by decide)]
theorem ushl8 {n : Int} (h0 : 0 <= n) (h1 : n < 4294967296) : ishl .u64 n 8 = n * 256 := by
 unfold ishl
 rw [show (2 : Int) ^ (min (8 : Int).toNat IntKind.u64.bits) = 256 by decide, wu64]
 omega
theorem ubv (m : Nat) : BitVec.ofInt 64 (m : Int) = BitVec.ofNat 64 m := by simp
theorem B423 {n : Int} (h0 : 0 <= n) (h1 : n < 18446744073709551616) : iand .u64 n 4294967295 = n % 4294967296 := by
 obtain ⟨m, rfl⟩ := A70 h0
 unfold iand
 rw [show IntKind.u64.bits = 64 from rfl, show (4294967295 : Int) = ((4294967295 : Nat) : Int) from rfl, ubv, ubv, BitVec.toNat_and, BitVec.toNat_ofNat, BitVec.toNat_ofNat, wu64]
 rw [A87 (show m < 2 ^ 64 by omega), show (4294967295 : Nat) % 2 ^ 64 = 2 ^ 32 - 1 by decide, Nat.and_two_pow_sub_one_eq_mod]
 omega
theorem B875 {n : Int} (h0 : 0 <= n) (h1 : n < 18446744073709551616) (h : n % 256 = 0) : ior .u64 n 255 = n + 255 := by
 obtain ⟨m, rfl⟩ := A70 h0
 unfold ior
 rw [show IntKind.u64.bits = 64 from rfl, show (255 : Int) = ((255 : Nat) : Int) from rfl, ubv, ubv, BitVec.toNat_or, BitVec.toNat_ofNat, BitVec.toNat_ofNat, wu64]
 rw [A87 (show m < 2 ^ 64 by omega), show (255 : Nat) % 2 ^ 64 = 255 by decide]
 obtain ⟨k, hk⟩ : ∃ k, m = 2 ^ 8 * k := ⟨m / 256, by omega⟩
 subst hk
 rw [← Nat.two_pow_add_eq_or_of_lt (show 255 < 2 ^ 8 by decide)]
 omega
def Iv (lo hi : Int) : Prop := 0 <= lo ∧ lo <= hi ∧ hi < 4294967296
theorem B969 {kind lo hi : Int} {st out : List Int} (h : Iv lo hi) : Z127 kind lo hi st out = some (lo / 16777216, kind, lo % 16777216 * 256, hi % 16777216 * 256 + 255, st, out) := by
 obtain ⟨h0, h1, h2⟩ := h
 rw [Z127_eq, Z127_b]
 try simp only
 rw [B236, ushl8 h0 (by omega), ushl8 (by omega) h2, B423 (by omega) (by omega), B423 (by omega) (by omega), B875 (by omega) (by omega) (by omega), w8]
 congr 2
 ·omega
 ·congr 1
  congr 1
  ·omega
  ·congr 1
   omega
theorem B811 {lo hi : Int} (h : Iv lo hi) : Z135 lo hi = some (lo % 16777216 * 256, hi % 16777216 * 256 + 255) := by
 obtain ⟨h0, h1, h2⟩ := h
 rw [Z135_eq]
 simp only [B34 h0, B34 (show (0 : Int) <= hi by omega), wu64]
 congr 2 <;> omega
theorem B487 {lo hi : Int} : Z134 lo hi = some (decide (lo / 16777216 = hi / 16777216)) := by
 rw [Z134_eq]
 simp only [B236]
def midV (lo hi p : Int) : Int := lo + (hi - lo) / 4096 * p + (hi - lo) % 4096 * p / 4096
theorem B432 {lo hi p : Int} (h : lo <= hi) (hp : 0 <= p) : lo <= midV lo hi p := by
 unfold midV
 have h1 : 0 <= (hi - lo) / 4096 * p := A114 (by omega) hp
 have h2 : 0 <= (hi - lo) % 4096 * p := A114 (by omega) hp
 omega
theorem B433 {lo hi p : Int} (h : lo < hi) (hp : 0 <= p) (hp2 : p < 4096) : midV lo hi p < hi := by
 unfold midV
 have h1 : (hi - lo) / 4096 * p <= (hi - lo) / 4096 * 4095 := A115 (by omega) (by omega)
 have h2 : (hi - lo) % 4096 * p <= (hi - lo) % 4096 * 4095 := A115 (by omega) (by omega)
 omega
theorem B617 {lo hi p : Int} (h : Iv lo hi) (hp : 0 <= p) (hp2 : p < 4096) : Z156 lo hi p = some (midV lo hi p) := by
 obtain ⟨h0, h1, h2⟩ := h
 have a1 : 0 <= (hi - lo) / 4096 * p := A114 (by omega) hp
 have a2 : (hi - lo) / 4096 * p <= (hi - lo) / 4096 * 4095 := A115 (by omega) (by omega)
 have a3 : 0 <= (hi - lo) % 4096 * p := A114 (by omega) hp
 have a4 : (hi - lo) % 4096 * p <= (hi - lo) % 4096 * 4095 := A115 (by omega) (by omega)
 rw [Z156_eq]
 unfold midV
 simp only [wu64, show (hi - lo) % 18446744073709551616 = hi - lo by omega, B27 (show 0 <= hi - lo by omega), B34 (show 0 <= hi - lo by omega), show p % 18446744073709551616 = p by omega,
  show (hi - lo) / 4096 % 18446744073709551616 = (hi - lo) / 4096 by omega]
 rw [show (hi - lo) % 4096 * p % 18446744073709551616 = (hi - lo) % 4096 * p by omega, B27 a3]
 congr 1
 omega
theorem B975 {lo hi p bit : Int} (h : Iv lo hi) (hp : 0 <= p) (hp2 : p < 4096) : Z132 lo hi p bit = some (if bit = 1 then (lo, midV lo hi p) else (midV lo hi p + 1, hi)) := by
 have hm := B432 h.2.1 hp
 have hm2 : midV lo hi p <= hi := by
  rcases Int.lt_or_le lo hi with h1 | h1
  ·have := B433 h1 hp hp2; omega
  ·have : hi = lo := by have := h.2.1; omega
   subst this
   unfold midV; simp
 have h2 := h.2.2
 have h0 := h.1
 rw [Z132_eq, B617 h hp hp2]
 by_cases hb : bit = 1
 ·simp only [hb, A7, A6, A3]
 ·simp only [hb, A9, A4, A1, A3, wu64]
  congr 2
  omega
theorem B993 {ctx kind lo hi p : Int} {st out : List Int} (h : Iv lo hi) (hc : 0 <= ctx ∧ ctx < (st.length : Int)) (hq : Z131 kind (rd st ctx) = some p) (hs : B53 kind (rd st ctx)) (hp : 0 <= p) (hp2 : p < 4096) :
  Z124 ctx kind lo hi st out = some (midV lo hi p, kind, lo, hi, st, out) := by
 have hr := B617 h hp hp2
 rw [Z156_eq] at hr
 have hr := Option.some.inj hr
 rw [Z124_eq, Z124_b]
 simp only [hc, A32, A6, B584 hs, hq, A3]
 rw [hr]
theorem B608 {kind s : Int} (h : B53 kind s) : ∃ p, Z131 kind s = some p ∧ 0 <= p ∧ p < 4096 := by
 rw [Z131_eq]
 rcases h with ⟨rfl, h0, h1⟩ | ⟨rfl, h0, h1⟩
 ·simp only [B34 h0, A7, A6]
  rw [B476 (by omega) (by omega)]
  have hr := B887 ⟨(s % 32).toNat, by omega⟩
  simp only [show (((s % 32).toNat : Nat) : Int) = s % 32 by omega] at hr
  by_cases h2 : s < 32
  ·simp only [h2, A7, A6, A3]
   exact ⟨_, rfl, by omega, by omega⟩
  ·simp only [h2, A9, A4, A1, A3]
   exact ⟨_, rfl, by rw [w64 (by omega)]; omega, by rw [w64 (by omega)]; omega⟩
 ·simp only [B34 h0, B27 h0, show ¬ ((1 : Int) = 0) by decide, A9, A4, A1]
  have e1 : i64.wrap (s / 256) = s / 256 := w64 (by omega)
  have e2 : i64.wrap (2 * (s % 256)) = 2 * (s % 256) := w64 (by omega)
  have e3 : i64.wrap (2 * (s / 256)) = 2 * (s / 256) := w64 (by omega)
  rw [e1, e2, e3, w64 (n := 2 * (s / 256) + 2 * (s % 256)) (by omega), w64 (n := 2 * (s / 256) + 2 * (s % 256) + 2) (by omega), A8 (by omega)]
  refine ⟨_, rfl, ?_, ?_⟩ <;> rw [B330, B563] <;> omega
theorem B982 {ctx bit mid kind lo hi : Int} {st out : List Int} (hb : bit = 0 ∨ bit = 1) (hc : 0 <= ctx ∧ ctx < (st.length : Int)) (hs : B53 kind (rd st ctx)) (hm : 0 <= mid ∧ mid < 4294967296) :
  Z125 ctx bit mid kind lo hi st out = (Z133 kind (rd st ctx) bit).bind fun s => some (if bit = 1 then (kind, lo, mid, st.set ctx.toNat s, out) else (kind, mid + 1, hi, st.set ctx.toNat s, out)) := by
 rw [Z125_eq, Z125_b]
 have hw : u64.wrap (mid + 1) = mid + 1 := by rw [wu64]; omega
 by_cases h1 : bit = 1
 ·simp only [h1, A7, A6, A3, hc, A32]
  rw [B568 hs (.inr rfl)]
 ·simp only [h1, A9, A4, A1, A3, hc, A32, A6, hw]
  rw [B568 hs hb]
theorem B647 {kind s bit : Int} (h : B53 kind s) (hb : bit = 0 ∨ bit = 1) : ∃ s', Z133 kind s bit = some s' ∧ B53 kind s' := by
 rw [Z133_eq]
 rcases h with ⟨rfl, h0, h1⟩ | ⟨rfl, h0, h1⟩
 ·simp only [B34 h0, B27 h0, A7, A6]
  rw [B27 (show 0 <= s % 32 by omega)]
  have e1 : i64.wrap (s / 32) = s / 32 := w64 (by omega)
  simp only [e1]
  by_cases h2 : bit = s / 32
  ·simp only [h2, A7, A6]
   refine ⟨_, rfl, .inl ⟨rfl, ?_⟩⟩
   rw [w64 (n := 32 * (s / 32)) (by omega), w64 (n := s % 32 + 1) (by omega), B330, w64 (by omega)]
   omega
  ·simp only [h2, A9, A4, A1]
   by_cases h3 : s % 32 = 0
   ·simp only [h3, A7, A6]
    exact ⟨_, rfl, .inl ⟨rfl, by rw [w64 (by omega)]; omega⟩⟩
   ·simp only [h3, A9, A4, A1]
    refine ⟨_, rfl, .inl ⟨rfl, ?_⟩⟩
    rw [w64 (n := 32 * (s / 32)) (by omega), w64 (n := 32 * (s / 32) + s % 32) (by omega), w64 (n := 32 * (s / 32) + s % 32 - 1) (by omega), w64 (n := s % 32 / 4) (by omega), w64 (by omega)]
    omega
 ·simp only [B34 h0, B27 h0, show ¬ ((1 : Int) = 0) by decide, A9, A4, A1]
  have e1 : i64.wrap (s / 256) = s / 256 := w64 (by omega)
  have e2 : i64.wrap ((s / 256).tdiv 2) = s / 256 / 2 := by rw [B27 (by omega), w64 (by omega)]
  have e3 : i64.wrap ((s % 256).tdiv 2) = s % 256 / 2 := by rw [B27 (by omega), w64 (by omega)]
  have c0 : 0 <= (0 : Int) ∧ (0 : Int) < ((2 : Nat) : Int) := by decide
  have c1 : 0 <= (1 : Int) ∧ (1 : Int) < ((2 : Nat) : Int) := by decide
  have r0 : ∀ a b : Int, rd [a, b] 0 = a := fun a b => rfl
  have r1 : ∀ a b : Int, rd [a, b] 1 = b := fun a b => rfl
  rcases hb with rfl | rfl
  ·simp only [c0, c1, A32, A6, e1, e2, e3, r0]
   by_cases h2 : s / 256 = 255
   ·simp only [h2, A7, A6, A3, r0]
    refine ⟨_, rfl, .inr ⟨rfl, ?_⟩⟩
    simp only [show ¬ ((0 : Int) = 1) by decide, A1, w64s]
    omega
   ·simp only [h2, A9, A4, A1, A3, r0]
    refine ⟨_, rfl, .inr ⟨rfl, ?_⟩⟩
    simp only [show ¬ ((0 : Int) = 1) by decide, A1, A6, w64s]
    omega
  ·simp only [c0, c1, A32, A6, e1, e2, e3, r1]
   by_cases h2 : s % 256 = 255
   ·simp only [h2, A7, A6, A3, r1]
    refine ⟨_, rfl, .inr ⟨rfl, ?_⟩⟩
    simp only [show ¬ ((1 : Int) = 0) by decide, A1, A6, w64s]
    omega
   ·simp only [h2, A9, A4, A1, A3, r1]
    refine ⟨_, rfl, .inr ⟨rfl, ?_⟩⟩
    simp only [show ¬ ((1 : Int) = 0) by decide, A1, A6, w64s]
    omega
def flush : Nat -> Int -> Int -> List Int -> Int × Int × List Int
 | 0, lo, hi, out => (lo, hi, out)
 | n + 1, lo, hi, out => if lo / 16777216 = hi / 16777216 then flush n (lo % 16777216 * 256) (hi % 16777216 * 256 + 255) (out ++ [hi / 16777216]) else (lo, hi, out)
def gapOf : Nat -> Int
 | 0 => 4294967295
 | 1 => 16777215
 | 2 => 65535
 | 3 => 255
 | _ => 0
theorem B355 {n : Nat} {d : Int} (h : gapOf (n + 1) <= d) (h0 : 0 <= d) : gapOf n <= 256 * d + 255 := by
 match n with
 | 0 => simp only [gapOf] at h ⊢; omega
 | 1 => simp only [gapOf] at h ⊢; omega
 | 2 => simp only [gapOf] at h ⊢; omega
 | 3 => simp only [gapOf] at h ⊢; omega
 | n + 4 => simp only [gapOf]; omega
theorem Iv.shift {lo hi : Int} (h : Iv lo hi) (e : lo / 16777216 = hi / 16777216) : Iv (lo % 16777216 * 256) (hi % 16777216 * 256 + 255) ∧ hi % 16777216 * 256 + 255 - lo % 16777216 * 256 = 256 * (hi - lo) + 255 := by
 obtain ⟨h0, h1, h2⟩ := h
 exact ⟨⟨by omega, by omega, by omega⟩, by omega⟩
theorem B465 {kind : Int} {st : List Int} : ∀ (n : Nat) (lo hi : Int) (out : List Int), Iv lo hi -> gapOf n <= hi - lo -> out.length + n <= 140737488355328 ->
  loop Z103l8 (kind, lo, hi, st, out) = some (kind, (flush n lo hi out).1, (flush n lo hi out).2.1, st, (flush n lo hi out).2.2)
 | 0, lo, hi, out, h, hg, hl => by
  refine B4 ?_
  unfold Z103l8
  simp only [B487, A3]
  simp only [gapOf] at hg
  have hne : ¬ lo / 16777216 = hi / 16777216 := by obtain ⟨h0, h1, h2⟩ := h; omega
  simp only [hne, A9, A4, A1, flush]
 | n + 1, lo, hi, out, h, hg, hl => by
  by_cases e : lo / 16777216 = hi / 16777216
  ·obtain ⟨h1, h2⟩ := h.shift e
   rw [B5 (s' := (kind, lo % 16777216 * 256, hi % 16777216 * 256 + 255, st, out ++ [hi / 16777216]))]
   ·rw [B465 n _ _ _ h1 (by rw [h2]; exact B355 hg (by have := h.2.1; omega)) (by simp; omega)]
    simp only [flush, e, A6]
   ·have hb : u8.wrap (hi / 16777216) = hi / 16777216 := by obtain ⟨q0, q1, q2⟩ := h; rw [w8]; omega
    unfold Z103l8
    simp only [B487, A3, B236, hb, B811 h]
    simp only [e, A7, A6, A24]
    rw [A5 (by omega)]
  ·refine B4 ?_
   unfold Z103l8
   simp only [B487, A3]
   simp only [e, A9, A4, A1, flush]
theorem B668 : ∀ (n : Nat) (lo hi : Int) (out : List Int), Iv lo hi -> gapOf n <= hi - lo -> Iv (flush n lo hi out).1 (flush n lo hi out).2.1 ∧ (flush n lo hi out).1 / 16777216 ≠ (flush n lo hi out).2.1 / 16777216 ∧ (flush n lo hi out).2.2.length <= out.length + n ∧ out.length <= (flush n lo hi out).2.2.length
 | 0, lo, hi, out, h, hg => by
  simp only [gapOf] at hg
  refine ⟨h, ?_, A11 _, A11 _⟩
  show lo / 16777216 ≠ hi / 16777216
  obtain ⟨h0, h1, h2⟩ := h
  omega
 | n + 1, lo, hi, out, h, hg => by
  by_cases e : lo / 16777216 = hi / 16777216
  ·obtain ⟨h1, h2⟩ := h.shift e
   have := B668 n _ _ (out ++ [hi / 16777216]) h1 (by rw [h2]; exact B355 hg (by have := h.2.1; omega))
   simp only [flush, e, A6]
   simp only [A18, A24] at this
   exact ⟨this.1, this.2.1, by omega, by omega⟩
  ·simp only [flush, e, A1]
   exact ⟨h, e, by omega, A11 _⟩
structure EncOk (kind lo hi : Int) (st : List Int) : Prop where
 two : kind = 0 ∨ kind = 1
 iv : Iv lo hi
 open_ : lo / 16777216 ≠ hi / 16777216
 states : ∀ s ∈ st, B53 kind s
theorem B865 {ctx bit kind lo hi : Int} {st out : List Int} (h : EncOk kind lo hi st) (hc : 0 <= ctx ∧ ctx < (st.length : Int)) (hb : bit = 0 ∨ bit = 1) (hl : out.length + 4 <= 140737488355328) :
  ∃ p s lo1 hi1, Z131 kind (rd st ctx) = some p ∧ 0 <= p ∧ p < 4096 ∧ Z133 kind (rd st ctx) bit = some s ∧ B53 kind s ∧ (lo1, hi1) = (if bit = 1 then (lo, midV lo hi p) else (midV lo hi p + 1, hi)) ∧ Iv lo1 hi1 ∧
   Z103 ctx bit kind lo hi st out = some (0, kind, (flush 4 lo1 hi1 out).1, (flush 4 lo1 hi1 out).2.1, st.set ctx.toNat s, (flush 4 lo1 hi1 out).2.2) := by
 have hs : B53 kind (rd st ctx) := h.states _ (A38 (B197 hc.1 hc.2))
 obtain ⟨p, hp, hp0, hp1⟩ := B608 hs
 obtain ⟨s, ha, hs'⟩ := B647 hs hb
 have hlt : lo < hi := by
  have := h.open_
  have := h.iv.2.1
  rcases Int.lt_or_le lo hi with q | q
  ·exact q
  ·exact absurd (by rw [show lo = hi by omega]) h.open_
 have hm := B432 h.iv.2.1 hp0
 have hm2 := B433 hlt hp0 hp1
 obtain ⟨i0, i1, i2⟩ := h.iv
 refine ⟨p, s, (if bit = 1 then (lo, midV lo hi p) else (midV lo hi p + 1, hi)).1, (if bit = 1 then (lo, midV lo hi p) else (midV lo hi p + 1, hi)).2, hp, hp0, hp1, ha, hs', rfl, ?_, ?_⟩
 ·split
  ·exact ⟨i0, hm, by omega⟩
  ·exact ⟨by show 0 <= midV lo hi p + 1; omega, by show midV lo hi p + 1 <= hi; omega, i2⟩
 ·have hiv : Iv (if bit = 1 then (lo, midV lo hi p) else (midV lo hi p + 1, hi)).1 (if bit = 1 then (lo, midV lo hi p) else (midV lo hi p + 1, hi)).2 := by
   split
   ·exact ⟨i0, hm, by omega⟩
   ·exact ⟨by show 0 <= midV lo hi p + 1; omega, by show midV lo hi p + 1 <= hi; omega, i2⟩
  rw [Z103_eq]
  have c1 : ¬ ctx < 0 := by omega
  have c2 : ¬ ctx ≥ ((st.length : Nat) : Int) := by omega
  have c3 : (if (!decide (bit = 0)) = true then some (!decide (bit = 1)) else some false) = some false := by rcases hb with rfl | rfl <;> rfl
  simp only [c1, c2, c3, A9, A4, A1, A3, hc, A32, A6, hp, ha, B975 h.iv hp0 hp1]
  rw [B465 4 _ _ _ hiv (by simp only [gapOf]; have := hiv.2.1; omega) (by omega)]
  rfl
theorem B83 {n s m : Int} (hm : (2 : Int) ^ (min s.toNat IntKind.u64.bits) = m) (h0 : 0 <= m) : ishr .u64 n s = n / m := by
 unfold ishr; rw [hm, A108 _ h0]
theorem B127 {n s m : Int} (hm : (2 : Int) ^ (min s.toNat IntKind.u64.bits) = m) (h : 0 <= n * m ∧ n * m < 18446744073709551616) : ishl .u64 n s = n * m := by
 unfold ishl; rw [hm, wu64]; omega
def tbyte (hi : Int) : Nat -> Int
 | 0 => hi / 16777216 % 256
 | 1 => hi / 65536 % 256
 | 2 => hi / 256 % 256
 | _ => hi / 1 % 256
def cutH (hi : Int) : Nat -> Int
 | 0 => 0
 | 1 => hi / 16777216 * 16777216
 | 2 => hi / 65536 * 65536
 | 3 => hi / 256 * 256
 | _ => hi
def tbl (hi : Int) : Nat -> List Int
 | 0 => []
 | n + 1 => tbl hi n ++ [tbyte hi n]
theorem B165 (hi : Int) : ∀ n, (tbl hi n).length = n
 | 0 => rfl
 | n + 1 => by simp [tbl, B165 hi n]
theorem B741 {lo hi : Int} (h : Iv lo hi) : ∀ k, k < 4 -> cutH hi k < lo -> Z104l3 lo hi (cutH hi k, tbl hi k) = some (.inl (cutH hi (k + 1), tbl hi (k + 1))) := by
 intro k hk hlt
 obtain ⟨h0, h1, h2⟩ := h
 have hh : 0 <= hi := by omega
 unfold Z104l3
 simp only [hlt, A7, A6, B165, A24]
 rcases k with _ | _ | _ | _ | k
 ·have e : i64.wrap (24 - i64.wrap (8 * ((0 : Nat) : Int))) = 24 := by decide
  rw [e, B83 (m := 16777216) (by decide) (by decide), B34 (by omega), B127 (m := 16777216) (by decide) (by omega), wu64, w8]
  simp only [cutH, tbl, tbyte, A25]
  rw [A8 (by decide), A5 (by decide), A8 (by decide), A8 (by decide)]
  congr 3
  omega
 ·have e : i64.wrap (24 - i64.wrap (8 * ((0 + 1 : Nat) : Int))) = 16 := by decide
  rw [e, B83 (m := 65536) (by decide) (by decide), B34 (by omega), B127 (m := 65536) (by decide) (by omega), wu64, w8]
  simp only [cutH, tbl, tbyte, A25]
  rw [A8 (by decide), A5 (by decide), A8 (by decide), A8 (by decide)]
  congr 3
  omega
 ·have e : i64.wrap (24 - i64.wrap (8 * ((0 + 1 + 1 : Nat) : Int))) = 8 := by decide
  rw [e, B83 (m := 256) (by decide) (by decide), B34 (by omega), B127 (m := 256) (by decide) (by omega), wu64, w8]
  simp only [cutH, tbl, tbyte, A25]
  rw [A8 (by decide), A5 (by decide), A8 (by decide), A8 (by decide)]
  congr 3
  omega
 ·have e : i64.wrap (24 - i64.wrap (8 * ((0 + 1 + 1 + 1 : Nat) : Int))) = 0 := by decide
  rw [e, B83 (m := 1) (by decide) (by decide), B34 (by omega), B127 (m := 1) (by decide) (by omega), wu64, w8]
  simp only [cutH, tbl, tbyte, A25]
  rw [A8 (by decide), A5 (by decide), A8 (by decide), A8 (by decide)]
  congr 3
  omega
 ·omega
def endN (lo hi : Int) : Nat := if lo <= cutH hi 0 then 0 else if lo <= cutH hi 1 then 1 else if lo <= cutH hi 2 then 2 else if lo <= cutH hi 3 then 3 else 4
theorem B253 {lo hi : Int} (h : Iv lo hi) : endN lo hi <= 4 ∧ (∀ k, k < endN lo hi -> cutH hi k < lo) ∧ lo <= cutH hi (endN lo hi) := by
 unfold endN
 split
 ·exact ⟨by omega, fun k hk => by omega, ‹_›⟩
 ·split
  ·exact ⟨by omega, fun k hk => by obtain rfl : k = 0 := by omega
                                   omega, ‹_›⟩
  ·split
   ·refine ⟨by omega, fun k hk => ?_, ‹_›⟩
    rcases k with _ | _ | k <;> (try simp only [A20]) <;> omega
   ·split
    ·refine ⟨by omega, fun k hk => ?_, ‹_›⟩
     rcases k with _ | _ | _ | k <;> (try simp only [A20, Nat.reduceAdd]) <;> omega
    ·refine ⟨by omega, fun k hk => ?_, h.2.1⟩
     rcases k with _ | _ | _ | _ | k <;> (try simp only [A20, Nat.reduceAdd]) <;> omega
theorem B464 {lo hi : Int} (h : Iv lo hi) : ∀ d k, k + d = endN lo hi -> loop (Z104l3 lo hi) (cutH hi k, tbl hi k) = some (tbl hi (endN lo hi))
 | 0, k, hk => by
  obtain ⟨_, _, h3⟩ := B253 h
  rw [A34] at hk
  rw [← hk] at h3 ⊢
  refine B4 ?_
  unfold Z104l3
  have : ¬ cutH hi k < lo := by omega
  simp only [this, A9, A4, A1]
 | d + 1, k, hk => by
  obtain ⟨h1, h2, _⟩ := B253 h
  rw [B5 (B741 h k (by omega) (h2 k (by omega)))]
  exact B464 h d (k + 1) (by omega)
theorem B616 {kind lo hi : Int} {st out : List Int} (h : Iv lo hi) (hl : out.length + 4 <= 140737488355328) : Z56 kind lo hi st out = some (out ++ tbl hi (endN lo hi), kind, lo, hi, st, out) := by
 have h1 := (B253 h).1
 rw [Z56_eq, Z104_eq]
 have := B464 h (endN lo hi) 0 (by omega)
 rw [show cutH hi 0 = 0 from rfl, show tbl hi 0 = [] from rfl] at this
 rw [this]
 simp only [A58, A25, A3, B165]
 rw [A5 (by omega), A5 (by omega)]
theorem B504 {lo hi : Int} (h : Iv lo hi) {n : Nat} (hn : n <= 4) {out : List Int} (hl : out.length + 4 <= 140737488355328) : ∀ d k, k + d = n -> loop (Z44l10 hi (n : Int)) ((k : Int), out ++ tbl hi k) = some (out ++ tbl hi n)
 | 0, k, hk => by
  rw [A34] at hk
  subst hk
  refine B4 ?_
  unfold Z44l10
  simp
 | d + 1, k, hk => by
  rw [B5 (s' := (((k + 1 : Nat) : Int), out ++ tbl hi (k + 1)))]
  ·exact B504 h hn hl d (k + 1) (by omega)
  ·obtain ⟨h0, h1, h2⟩ := h
   unfold Z44l10
   have h3 : (k : Int) < (n : Int) := by omega
   simp only [h3, A7, A6, A18, B165, A24]
   have hw : i64.wrap ((k : Int) + 1) = ((k + 1 : Nat) : Int) := by rw [w64 (by omega)]; rfl
   have e : i64.wrap (24 - i64.wrap (8 * (k : Int))) = 24 - 8 * (k : Int) := by rw [w64 (n := 8 * (k : Int)) (by omega), w64 (by omega)]
   have hb : u8.wrap (ishr .u64 hi (24 - 8 * (k : Int))) = tbyte hi k := by
    rcases k with _ | _ | _ | _ | k
    ·rw [B83 (m := 16777216) (by decide) (by decide), w8]; rfl
    ·rw [B83 (m := 65536) (by decide) (by decide), w8]; rfl
    ·rw [B83 (m := 256) (by decide) (by decide), w8]; rfl
    ·rw [B83 (m := 1) (by decide) (by decide), w8]; rfl
    ·omega
   rw [e, hb, hw, A8 (by omega), A5 (by omega)]
   simp only [tbl, A26]
theorem B451 {lo hi : Int} (h : Iv lo hi) {out : List Int} (hl : out.length + 4 <= 140737488355328) : ∀ d k, k + d = endN lo hi -> loop (Z44l5 lo hi) ((k : Int), out) = some (Sum.inr (out ++ tbl hi (endN lo hi)))
 | d, k, hk => by
  obtain ⟨q1, q2, q3⟩ := B253 h
  have hk4 : k <= 4 := by omega
  have e : u64.wrap (i64.wrap (32 - i64.wrap (8 * (k : Int)))) = 32 - 8 * (k : Int) := by rw [w64 (n := 8 * (k : Int)) (by omega), w64 (by omega), wu64]; omega
  have hc : ishl .u64 (ishr .u64 hi (32 - 8 * (k : Int))) (32 - 8 * (k : Int)) = cutH hi k := by
   obtain ⟨h0, h1, h2⟩ := h
   rcases k with _ | _ | _ | _ | _ | k
   ·rw [B83 (m := 4294967296) (by decide) (by decide), B127 (m := 4294967296) (by decide) (by omega)]
    show _ = (0 : Int)
    omega
   ·rw [B83 (m := 16777216) (by decide) (by decide), B127 (m := 16777216) (by decide) (by omega)]; rfl
   ·rw [B83 (m := 65536) (by decide) (by decide), B127 (m := 65536) (by decide) (by omega)]; rfl
   ·rw [B83 (m := 256) (by decide) (by decide), B127 (m := 256) (by decide) (by omega)]; rfl
   ·rw [B83 (m := 1) (by decide) (by decide), B127 (m := 1) (by decide) (by omega)]
    show _ = hi
    omega
   ·omega
  have h5 : (k : Int) < 5 := by omega
  cases d with
  | zero =>
   rw [A34] at hk
   subst hk
   refine B4 ?_
   unfold Z44l5 Z44l5_b
   simp only [h5, A7, A6, e, hc]
   rw [A8 (by omega), A8 (by omega)]
   have h6 : cutH hi (endN lo hi) ≥ lo := q3
   simp only [h6, A7, A6]
   have := B504 h q1 hl (endN lo hi) 0 (by omega)
   simp only [tbl, A36] at this
   rw [show ((0 : Nat) : Int) = 0 from rfl] at this
   rw [this]; rfl
  | succ d =>
   rw [B5 (s' := (((k + 1 : Nat) : Int), out))]
   ·exact B451 h hl d (k + 1) (by omega)
   ·unfold Z44l5 Z44l5_b
    simp only [h5, A7, A6, e, hc]
    rw [A8 (by omega), A8 (by omega)]
    have h6 : ¬ cutH hi k ≥ lo := by have := q2 k (by omega); omega
    have hw : i64.wrap ((k : Int) + 1) = ((k + 1 : Nat) : Int) := by rw [w64 (by omega)]; rfl
    simp only [h6, A9, A4, A1, hw]
theorem B987 {kind lo hi : Int} {st out : List Int} (h : Iv lo hi) (hl : out.length + 4 <= 140737488355328) : Z44 kind lo hi st out = Z56 kind lo hi st out := by
 rw [B616 h hl, Z44_eq, Z44_b, Z88_eq, Z88_b]
 have := B451 h hl (endN lo hi) 0 (by omega)
 rw [show ((0 : Nat) : Int) = 0 from rfl] at this
 simp only [A3, A4, A1, A58, A25, this]
 rw [A5 (by omega)]
 rfl
theorem B370 {st : List Int} {e : Int} (hl : st.length <= 8192) (hs : ∀ s ∈ st, 0 <= s ∧ s < e) : ∀ d k, k + d = st.length -> loop (Z76l7 st e) (k : Int) = some (Sum.inl ())
 | 0, k, hk => by
  refine B4 ?_
  unfold Z76l7
  have : ¬ (k : Int) < ((st.length : Nat) : Int) := by omega
  simp only [this, A9, A4, A1]
 | d + 1, k, hk => by
  rw [B5 (s' := ((k + 1 : Nat) : Int))]
  ·exact B370 hl hs d (k + 1) (by omega)
  ·have h1 : (k : Int) < ((st.length : Nat) : Int) := by omega
   have h0 : (0 : Int) <= (k : Int) := by omega
   obtain ⟨a1, a2⟩ := hs _ (A38 (B197 h0 h1))
   have n1 : ¬ rd st (k : Int) < 0 := by omega
   have n2 : ¬ rd st (k : Int) ≥ e := by omega
   have hw : i64.wrap ((k : Int) + 1) = ((k + 1 : Nat) : Int) := by rw [w64 (by omega)]; rfl
   unfold Z76l7
   simp only [h1, h0, n1, n2, hw, A7, A9, A4, A6, A1, A32]
theorem B313 {st : List Int} {e : Int} (hl : st.length <= 8192) (hs : ∀ s ∈ st, 0 <= s ∧ s <= e) : ∀ d k, k + d = st.length -> loop (Z96l7 st e) (k : Int) = some (Sum.inl ())
 | 0, k, hk => by
  refine B4 ?_
  unfold Z96l7
  have : ¬ (k : Int) < ((st.length : Nat) : Int) := by omega
  simp only [this, A9, A4, A1]
 | d + 1, k, hk => by
  rw [B5 (s' := ((k + 1 : Nat) : Int))]
  ·exact B313 hl hs d (k + 1) (by omega)
  ·have h1 : (k : Int) < ((st.length : Nat) : Int) := by omega
   have h0 : (0 : Int) <= (k : Int) := by omega
   obtain ⟨a1, a2⟩ := hs _ (A38 (B197 h0 h1))
   have n1 : ¬ rd st (k : Int) < 0 := by omega
   have n2 : ¬ rd st (k : Int) > e := by omega
   have hw : i64.wrap ((k : Int) + 1) = ((k + 1 : Nat) : Int) := by rw [w64 (by omega)]; rfl
   unfold Z96l7
   simp only [h1, h0, n1, n2, hw, A7, A9, A4, A6, A1, A32]
theorem B716 {kind : Int} {st : List Int} (hk : kind = 0 ∨ kind = 1) (hl : st.length <= 8192) (hs : ∀ s ∈ st, B53 kind s) : Z76 kind st = some true ∧ Z96 kind st = some true := by
 have hn : ¬ ((st.length : Nat) : Int) > 8192 := by omega
 rw [Z76_eq, Z76_b, Z96_eq]
 rcases hk with rfl | rfl
 ·have h1 := B370 (e := 64) hl (fun s h => by rcases hs s h with q | q <;> omega) st.length 0 (by omega)
  have h2 := B313 (e := 63) hl (fun s h => by rcases hs s h with q | q <;> omega) st.length 0 (by omega)
  rw [show ((0 : Nat) : Int) = 0 from rfl] at h1 h2
  constructor
  ·simp only [hn, show ¬ ((0 : Int) = 1) by decide, A7, A9, A19, A55, A4, A6, A1, A3, h1, A45]
  ·simp only [hn, show ¬ ((0 : Int) = 1) by decide, A7, A9, A19, A55, A4, A6, A1, A3, h2, A45]
 ·have h1 := B370 (e := 65536) hl (fun s h => by rcases hs s h with q | q <;> omega) st.length 0 (by omega)
  have h2 := B313 (e := 65535) hl (fun s h => by rcases hs s h with q | q <;> omega) st.length 0 (by omega)
  rw [show ((0 : Nat) : Int) = 0 from rfl] at h1 h2
  constructor
  ·simp only [hn, show ¬ ((1 : Int) = 0) by decide, A7, A9, A19, A55, A4, A6, A1, A3, h1, A45]
  ·simp only [hn, show ¬ ((1 : Int) = 0) by decide, A7, A9, A19, A55, A4, A6, A1, A3, h2, A45]
theorem B348 {kind : Int} {st : List Int} (hl : st.length <= 8192) : Z121 kind st = some (kind, st) ∧ Z97 kind st = some (kind, st) := by
 rw [Z121_eq, Z121_b, Z97_eq]
 simp only [A58, A25, A20]
 rw [A5 (by omega)]
 exact ⟨rfl, rfl⟩
theorem B379 {kind : Int} {st : List Int} (hk : kind = 0 ∨ kind = 1) (hl : st.length <= 8192) (hs : ∀ s ∈ st, B53 kind s) :
  Z40 kind st = some (Sum.inl (kind, 0, 4294967295, st, [])) ∧ Z53 kind st = some (Sum.inl (kind, 0, 4294967295, st, [])) ∧ EncOk kind 0 4294967295 st := by
 obtain ⟨h1, h2⟩ := B716 hk hl hs
 obtain ⟨c1, c2⟩ := B348 (kind := kind) hl
 refine ⟨?_, ?_, ⟨hk, ⟨by decide, by decide, by decide⟩, by decide, hs⟩⟩
 ·rw [Z40_eq, Z40_b, h1, Z77_eq, Z77_b, c1, Z122_eq, Z122_b]; rfl
 ·rw [Z53_eq, h2, c2, Z98_eq]; rfl
theorem B854 {kind n : Int} (hk : kind = 0 ∨ kind = 1) (h0 : 0 <= n) (h1 : n <= 8192) : Z39 kind n = some (kind, 0, List.replicate n.toNat 0) ∧ Z52 kind n = some (kind, 0, List.replicate n.toNat 0) := by
 have a1 : ¬ n < 0 := by omega
 have a2 : ¬ n > 8192 := by omega
 have a3 : 0 <= n ∧ n <= n ∧ ((8 : Nat) : Int) * n <= 281474976710656 := ⟨h0, Int.le_refl _, by omega⟩
 rw [Z39_eq, Z39_b, Z52_eq]
 rcases hk with rfl | rfl
 ·simp only [a1, a2, a3, A7, A9, A19, A55, A4, A6, A1, A3, A32]
 ·simp only [a1, a2, a3, show ¬ ((1 : Int) = 0) by decide, A7, A9, A19, A55, A4, A6, A1, A3, A32]
theorem B361 {kind : Int} (hk : kind = 0 ∨ kind = 1) (n : Nat) : ∀ s ∈ List.replicate n (0 : Int), B53 kind s := by
 intro s hs
 rw [(List.mem_replicate.1 hs).2]
 rcases hk with rfl | rfl
 ·exact .inl ⟨rfl, by decide, by decide⟩
 ·exact .inr ⟨rfl, by decide, by decide⟩
abbrev EncS := Int × Int × Int × List Int × List Int
noncomputable def chV (kind s : Int) : Int := match Z131 kind s with
 | some p => p
 | none => 0
noncomputable def nxV (kind s bit : Int) : Int := match Z133 kind s bit with
 | some p => p
 | none => 0
noncomputable def cutV (e : EncS) (c : Int) : Int := midV e.2.1 e.2.2.1 (chV e.1 (rd e.2.2.2.1 c))
noncomputable def subV (e : EncS) (c b : Int) : Int × Int := if b = 1 then (e.2.1, cutV e c) else (cutV e c + 1, e.2.2.1)
noncomputable def B18 (e : EncS) (v : Int × Int) : EncS :=
 let f := flush 4 (subV e v.1 v.2).1 (subV e v.1 v.2).2 e.2.2.2.2
 (e.1, f.1, f.2.1, e.2.2.2.1.set v.1.toNat (nxV e.1 (rd e.2.2.2.1 v.1) v.2), f.2.2)
noncomputable def B20 (e : EncS) (l : List (Int × Int)) : EncS := l.foldl B18 e
theorem B785 (e : EncS) (a b : List (Int × Int)) : B20 e (a ++ b) = B20 (B20 e a) b := by
 unfold B20
 rw [List.foldl_append]
theorem B569 {kind lo hi : Int} {st out : List Int} : Z126 kind lo hi st out = some (decide (lo / 16777216 = hi / 16777216), kind, lo, hi, st, out) := by
 rw [Z126_eq, Z126_b]
 simp only [B236]
theorem B695 {kind : Int} {st : List Int} : ∀ (n : Nat) (lo hi : Int) (out : List Int), Iv lo hi -> gapOf n <= hi - lo -> out.length + n <= 140737488355328 ->
  loop Z82l6 (kind, lo, hi, st, out) = some (kind, (flush n lo hi out).1, (flush n lo hi out).2.1, st, (flush n lo hi out).2.2)
 | 0, lo, hi, out, h, hg, hl => by
  refine B4 ?_
  unfold Z82l6
  simp only [B569, A3]
  simp only [gapOf] at hg
  have hne : ¬ lo / 16777216 = hi / 16777216 := by obtain ⟨h0, h1, h2⟩ := h; omega
  simp only [hne, A9, A4, A1, flush]
 | n + 1, lo, hi, out, h, hg, hl => by
  by_cases e : lo / 16777216 = hi / 16777216
  ·obtain ⟨h1, h2⟩ := h.shift e
   rw [B5 (s' := (kind, lo % 16777216 * 256, hi % 16777216 * 256 + 255, st, out ++ [hi / 16777216]))]
   ·rw [B695 n _ _ _ h1 (by rw [h2]; exact B355 hg (by have := h.2.1; omega)) (by simp; omega)]
    simp only [flush, e, A6]
   ·unfold Z82l6
    simp only [B569, A3, B969 h]
    simp only [e, A7, A6, A24]
    rw [A5 (by omega)]
  ·refine B4 ?_
   unfold Z82l6
   simp only [B569, A3]
   simp only [e, A9, A4, A1, flush]
theorem B996 {ctx bit kind lo hi : Int} {st out : List Int} (h : EncOk kind lo hi st) (hc : 0 <= ctx ∧ ctx < (st.length : Int)) (hb : bit = 0 ∨ bit = 1) (hl : out.length + 4 <= 140737488355328) :
  Z82 ctx bit kind lo hi st out = some (0, B18 (kind, lo, hi, st, out) (ctx, bit)) ∧ Z103 ctx bit kind lo hi st out = some (0, B18 (kind, lo, hi, st, out) (ctx, bit)) := by
 obtain ⟨p, s, lo1, hi1, hp, hp0, hp1, ha, hs', hpart, hiv, href⟩ := B865 h hc hb hl
 have hs : B53 kind (rd st ctx) := h.states _ (A38 (B197 hc.1 hc.2))
 have ee : B18 (kind, lo, hi, st, out) (ctx, bit) = (kind, (flush 4 lo1 hi1 out).1, (flush 4 lo1 hi1 out).2.1, st.set ctx.toNat s, (flush 4 lo1 hi1 out).2.2) := by
  have e1 : chV kind (rd st ctx) = p := by unfold chV; rw [hp]
  have e2 : nxV kind (rd st ctx) bit = s := by unfold nxV; rw [ha]
  unfold B18 subV cutV
  simp only [e1, e2]
  rw [← hpart]
 rw [ee]
 have hlt : lo < hi := by
  rcases Int.lt_or_le lo hi with q | q
  ·exact q
  ·exact absurd (by rw [show lo = hi by have := h.iv.2.1; omega]) h.open_
 have hm := B432 h.iv.2.1 hp0
 have hm2 := B433 hlt hp0 hp1
 obtain ⟨i0, i1, i2⟩ := h.iv
 have hgap : gapOf 4 <= hi1 - lo1 := by simp only [gapOf]; have := hiv.2.1; omega
 refine ⟨?_, href⟩
 rw [Z82_eq, Z88_eq, Z88_b]
 have c1 : ¬ ctx < 0 := by omega
 have c2 : ¬ ctx ≥ ((st.length : Nat) : Int) := by omega
 have c3 : (if (!decide (bit = 0)) = true then some (!decide (bit = 1)) else some false) = some false := by rcases hb with rfl | rfl <;> rfl
 simp only [c1, c2, c3, A9, A4, A1, A3, B993 h.iv hc hp hs hp0 hp1, B982 hb hc hs ⟨show 0 <= midV lo hi p by omega, by omega⟩, ha, A45]
 have e : (if bit = 1 then (kind, lo, midV lo hi p, st.set ctx.toNat s, out) else (kind, midV lo hi p + 1, hi, st.set ctx.toNat s, out)) = (kind, lo1, hi1, st.set ctx.toNat s, out) := by
  split at hpart <;> rename_i q <;> simp only [A31] at hpart <;> obtain ⟨rfl, rfl⟩ := hpart <;> simp [q]
 rw [e]
 try simp only
 rw [B695 4 _ _ _ hiv hgap (by omega)]
 rfl
theorem B830 {kind s : Int} (h : B53 kind s) : Z131 kind s = some (chV kind s) ∧ 0 <= chV kind s ∧ chV kind s < 4096 := by
 obtain ⟨p, hp, h0, h1⟩ := B608 h
 unfold chV
 rw [hp]
 exact ⟨rfl, h0, h1⟩
theorem B857 {kind s bit : Int} (h : B53 kind s) (hb : bit = 0 ∨ bit = 1) : Z133 kind s bit = some (nxV kind s bit) ∧ B53 kind (nxV kind s bit) := by
 obtain ⟨p, hp, h0⟩ := B647 h hb
 unfold nxV
 rw [hp]
 exact ⟨rfl, h0⟩
def EncO (e : EncS) : Prop := EncOk e.1 e.2.1 e.2.2.1 e.2.2.2.1
def EvP (n : Nat) (v : Int × Int) : Prop := (0 <= v.1 ∧ v.1 < (n : Int)) ∧ (v.2 = 0 ∨ v.2 = 1)
theorem EncO.lt {e : EncS} (h : EncO e) : e.2.1 < e.2.2.1 := by
 rcases Int.lt_or_le e.2.1 e.2.2.1 with q | q
 ·exact q
 ·exact absurd (by rw [show e.2.1 = e.2.2.1 by have := h.iv.2.1; omega]) h.open_
theorem B428 {e : EncS} (h : EncO e) {c : Int} (hc : 0 <= c ∧ c < (e.2.2.2.1.length : Int)) : B53 e.1 (rd e.2.2.2.1 c) ∧ e.2.1 <= cutV e c ∧ cutV e c < e.2.2.1 := by
 have hs : B53 e.1 (rd e.2.2.2.1 c) := h.states _ (A38 (B197 hc.1 hc.2))
 obtain ⟨_, p0, p1⟩ := B830 hs
 exact ⟨hs, B432 h.iv.2.1 p0, B433 h.lt p0 p1⟩
theorem B438 {e : EncS} (h : EncO e) {c b : Int} (hc : 0 <= c ∧ c < (e.2.2.2.1.length : Int)) : Iv (subV e c b).1 (subV e c b).2 := by
 obtain ⟨_, h1, h2⟩ := B428 h hc
 obtain ⟨i0, i1, i2⟩ := h.iv
 unfold subV
 split
 ·exact ⟨i0, h1, by show cutV e c < _; omega⟩
 ·exact ⟨by show 0 <= cutV e c + 1; omega, by show cutV e c + 1 <= e.2.2.1; omega, i2⟩
theorem gap4 {lo hi : Int} (h : Iv lo hi) : gapOf 4 <= hi - lo := by simp only [gapOf]; have := h.2.1; omega
theorem B187 {e : EncS} (h : EncO e) {v : Int × Int} (hv : EvP e.2.2.2.1.length v) : EncO (B18 e v) ∧ (B18 e v).2.2.2.1.length = e.2.2.2.1.length ∧ (B18 e v).2.2.2.2.length <= e.2.2.2.2.length + 4 := by
 obtain ⟨hs, _⟩ := B428 h hv.1
 have hi := B438 h hv.1 (b := v.2)
 obtain ⟨f1, f2, f3, f4⟩ := B668 4 _ _ e.2.2.2.2 hi (gap4 hi)
 refine ⟨⟨h.two, f1, f2, fun x hx => ?_⟩, A53, f3⟩
 rcases List.mem_or_eq_of_mem_set hx with q | rfl
 ·exact h.states x q
 ·exact (B857 hs hv.2).2
def EncAt (N B : Nat) (s : EncS) : Prop := EncOk s.1 s.2.1 s.2.2.1 s.2.2.2.1 ∧ s.2.2.2.1.length = N ∧ s.2.2.2.2.length <= B
theorem B995 {N B : Nat} {s : EncS} (h : EncAt N B s) {c b : Int} (hc : 0 <= c ∧ c < (N : Int)) (hb : b = 0 ∨ b = 1) (hB : B <= 1000000000) :
  Z82 c b s.1 s.2.1 s.2.2.1 s.2.2.2.1 s.2.2.2.2 = some (0, B18 s (c, b)) ∧ Z103 c b s.1 s.2.1 s.2.2.1 s.2.2.2.1 s.2.2.2.2 = some (0, B18 s (c, b)) ∧ EncAt N (B + 4) (B18 s (c, b)) := by
 obtain ⟨h1, h2, h3⟩ := h
 subst h2
 obtain ⟨e1, e2⟩ := B996 (out := s.2.2.2.2) h1 hc hb (by omega)
 obtain ⟨k1, k2, k3⟩ := B187 (e := s) h1 (v := (c, b)) ⟨hc, hb⟩
 exact ⟨e1, e2, k1, k2, by omega⟩
def B50 (base : Int) (e : Event) : Event := ⟨base + e.ctx, e.bit⟩
def EvOk (base : Int) (N : Nat) (e : Event) : Prop := (0 <= base + e.ctx ∧ base + e.ctx < (N : Int)) ∧ (e.bit = 0 ∨ e.bit = 1)
def prE (base : Int) (l : List Event) : List (Int × Int) := l.map fun e => (base + e.ctx, e.bit)
theorem B614 {base : Int} {N : Nat} {l : List Event} (hl : l.length <= 100000) (hbase : -1000000 <= base ∧ base <= 1000000) (hN : N <= 1000000) (he : ∀ e ∈ l, EvOk base N e) : ∀ (m : List Event) (n B : Nat) (s : EncS), l.drop n = m -> EncAt N B s -> B + 4 * m.length <= 1000000000 ->
  overL Z87l2_step (fun s => some (Sum.inl (s.1, s.2.1, s.2.2.1, s.2.2.2.1, s.2.2.2.2))) n (m.map (B50 base)) s = some (Sum.inl (B20 s (prE base m))) ∧ loop (Z55l5 base l) ((n : Int), s) = some (B20 s (prE base m)) ∧ EncAt N (B + 4 * m.length) (B20 s (prE base m))
 | [], n, B, s, hd, h, _ => by
  have hln : l.length <= n := by
   have := congrArg List.length hd
   rw [A76, A58] at this
   omega
  refine ⟨rfl, B4 ?_, h⟩
  unfold Z55l5
  simp only [iteD]
  rw [A8 (by omega)]
  rfl
 | e :: m, n, B, s, hd, h, hB => by
  have hget : l[n]? = some e := by
   have : (l.drop n)[0]? = some e := by rw [hd]; rfl
   simpa using this
  have hd' : l.drop (n + 1) = m := by rw [← A110, hd]; rfl
  have hlt := B7 hget
  obtain ⟨⟨c0, c1⟩, hb⟩ := he e (A38 hget)
  simp only [A28] at hB
  obtain ⟨e1, e2, e3⟩ := B995 h (c := base + e.ctx) ⟨c0, c1⟩ hb (by omega)
  obtain ⟨r1, r2, r3⟩ := B614 hl hbase hN he m (n + 1) (B + 4) (B18 s (base + e.ctx, e.bit)) hd' e3 (by omega)
  refine ⟨?_, ?_, by rw [A28, show B + 4 * (m.length + 1) = B + 4 + 4 * m.length by omega]; exact r3⟩
  ·rw [A57, B108 (s' := B18 s (base + e.ctx, e.bit))]
   ·exact r1
   ·unfold Z87l2_step B50
    try simp only
    rw [e1]
    rfl
  ·rw [B5 (s' := (((n + 1 : Nat) : Int), B18 s (base + e.ctx, e.bit)))]
   ·exact r2
   ·unfold Z55l5
    simp only [iteD]
    have z : (0 : Int) <= (n : Int) := by omega
    rw [A5 (by omega), A5 z, A12, hget]
    simp only [A3]
    rw [A5 z, w64 (n := base + e.ctx) (by omega), e2]
    simp only [A3]
    rw [w64 (n := (n : Int) + 1) (by omega)]
    rfl
theorem B806 {base : Int} {N B : Nat} {l : List Event} {s : EncS} (hl : l.length <= 100) (hbase : -1000000 <= base ∧ base <= 1000000) (hN : N <= 1000000) (he : ∀ e ∈ l, EvOk base N e) (h : EncAt N B s) (hB : B <= 100000000) :
  Z87 (l.map (B50 base)) s.1 s.2.1 s.2.2.1 s.2.2.2.1 s.2.2.2.2 = some (0, B20 s (prE base l)) ∧ loop (Z55l5 base l) (0, s) = some (B20 s (prE base l)) ∧ EncAt N (B + 400) (B20 s (prE base l)) := by
 obtain ⟨r1, r2, r3⟩ := B614 (by omega) hbase hN he l 0 B s rfl h (by omega)
 refine ⟨?_, r2, r3.1, r3.2.1, by have := r3.2.2; omega⟩
 rw [Z87_eq, Z87_b]
 have lo := Z87l2_over (l.map (B50 base)) (by rw [A48]; omega) s
 rw [lo]
 have r1' : overL Z87l2_step (fun (s25 : Int × Int × Int × (List Int) × (List Int)) => let b26 := s25.1; let b27 := s25.2.1; let b28 := s25.2.2.1; let b29 := s25.2.2.2.1; let b30 := s25.2.2.2.2; some (Sum.inl (b26, b27, b28, b29, b30))) 0 (l.map (B50 base)) s = some (Sum.inl (B20 s (prE base l))) := r1
 simp only at r1'
 rw [r1']
 rfl
def Bits (x : Int) (L : Nat) : Prop := 1 <= L ∧ (2 : Int) ^ (L - 1) <= x ∧ x < 2 ^ L
theorem Bits.up {x : Int} {L k : Nat} (h : Bits (x / 2 ^ k) L) : Bits x (L + k) := by
 obtain ⟨h1, h2, h3⟩ := h
 have hk : (0 : Int) < 2 ^ k := A99 (by decide)
 refine ⟨by omega, ?_, ?_⟩
 ·rw [show L + k - 1 = (L - 1) + k by omega, Int.pow_add]
  have := A131 h2 (Int.le_of_lt hk)
  exact Int.le_trans this (Int.ediv_mul_le x (by omega))
 ·rw [Int.pow_add]
  exact Int.lt_mul_of_ediv_lt hk h3
def len8L : List Int := [0, 1, 2, 2, 3, 3, 3, 3, 4, 4, 4, 4, 4, 4, 4, 4] ++ List.replicate 16 5 ++ List.replicate 32 6 ++ List.replicate 64 7 ++ List.replicate 128 8
theorem B849 : ∀ y : Fin 256, 1 <= y.val -> Bits ((y.val : Nat) : Int) (rd len8L ((y.val : Nat) : Int)).toNat ∧ rd len8L ((y.val : Nat) : Int) <= 8 ∧ 0 <= rd len8L ((y.val : Nat) : Int) := by
 unfold Bits
 decide +kernel
set_option maxRecDepth 20000 in
theorem B522 {x : Int} (h0 : 1 <= x) (h1 : x < 16777216) : ∃ L : Nat, Z128 x = some (L : Int) ∧ Bits x L ∧ L <= 24 := by
 have tab : ∀ (y : Int), 1 <= y -> y < 256 -> ∃ l : Nat, rd len8L y = (l : Int) ∧ Bits y l ∧ l <= 8 := fun y a b => by
  obtain ⟨m, rfl⟩ := A70 (show 0 <= y by omega)
  obtain ⟨c1, c2, c3⟩ := B849 ⟨m, by omega⟩ (by show 1 <= m; omega)
  have c2' : rd len8L (m : Int) <= 8 := c2
  exact ⟨(rd len8L (m : Int)).toNat, (Int.toNat_of_nonneg c3).symm, c1, by omega⟩
 have hlen : (len8L.length : Int) = 256 := by decide +kernel
 have s16 : ishr .u64 x 16 = x / 65536 := by unfold ishr; exact A108 _ (by decide)
 have fin : ∀ (y n : Int), 1 <= y -> y < 256 -> 0 <= n -> n <= 16 -> ∃ l : Nat, ((if 0 <= u8.wrap y ∧ u8.wrap y < (len8L.length : Int) then some (i64.wrap (n + i64.wrap (rd len8L (u8.wrap y)))) else none) : Option Int) = some (n + (l : Int)) ∧ Bits y l ∧ l <= 8 := fun y n a b c d => by
  obtain ⟨l, e1, e2, e3⟩ := tab y a b
  rw [w8, show y % 256 = y by omega, A5 (by omega), e1, w64 (n := (l : Int)) (by omega), w64 (by omega)]
  exact ⟨l, rfl, e2, e3⟩
 rw [Z128_eq, Z128_b, Z153_eq, Z153_b]
 simp only [iteD]
 rw [A8 (by omega)]
 simp only [A3]
 by_cases c1 : x ≥ 65536
 ·rw [A5 c1, s16, w64 (n := 0 + 16) (by omega)]
  simp only [A3]
  have d1 : 1 <= x / 65536 ∧ x / 65536 < 256 := by omega
  rw [A8 (by omega)]
  simp only [A3]
  obtain ⟨l, f1, f2, f3⟩ := fin (x / 65536) (0 + 16) d1.1 d1.2 (by omega) (by omega)
  refine ⟨l + 16, ?_, f2.up (k := 16), by omega⟩
  refine (congrArg (fun o : Option Int => o.bind fun q => some q) f1).trans ?_
  simp only [A3]; congr 1; omega
 ·rw [A8 c1]
  simp only [A3]
  have s8 : ishr .u64 x 8 = x / 256 := by unfold ishr; exact A108 _ (by decide)
  by_cases c2 : x ≥ 256
  ·rw [A5 c2, s8, w64 (n := 0 + 8) (by omega)]
   simp only [A3]
   have d1 : 1 <= x / 256 ∧ x / 256 < 256 := by omega
   obtain ⟨l, f1, f2, f3⟩ := fin (x / 256) (0 + 8) d1.1 d1.2 (by omega) (by omega)
   refine ⟨l + 8, ?_, f2.up (k := 8), by omega⟩
   refine (congrArg (fun o : Option Int => o.bind fun q => some q) f1).trans ?_
   simp only [A3]; congr 1; omega
  ·rw [A8 c2]
   simp only [A3]
   obtain ⟨l, f1, f2, f3⟩ := fin x 0 h0 (by omega) (by omega) (by omega)
   refine ⟨l, ?_, f2, by omega⟩
   refine (congrArg (fun o : Option Int => o.bind fun q => some q) f1).trans ?_
   simp only [A3]; congr 1; omega
def bitN (x : Int) (i : Nat) : Int := x / 2 ^ i % 2
theorem Bits.half {x : Int} {L : Nat} (h : Bits x (L + 2)) : Bits (x / 2) (L + 1) := by
 obtain ⟨_, h2, h3⟩ := h
 rw [show L + 2 - 1 = L + 1 by omega, Int.pow_succ] at h2
 rw [show L + 2 = (L + 1) + 1 by omega, Int.pow_succ] at h3
 refine ⟨by omega, ?_, ?_⟩
 ·rw [show L + 1 - 1 = L by omega]; omega
 ·omega
theorem B826 {x : Int} {i : Nat} : bitN (x / 2) i = bitN x (i + 1) := by
 unfold bitN
 rw [Int.pow_succ, Int.mul_comm, ← Int.ediv_ediv_of_nonneg (show (0 : Int) <= 2 by decide)]
theorem B450 : ∀ (L : Nat) (x : Int) (out : List Int), Bits x (L + 1) -> L <= 24 -> out.length + L <= 100 -> 0 <= x -> x < 16777216 -> loop Z102l9 (x, out) = some (out ++ (List.range (L + 1)).map (bitN x))
 | 0, x, out, h, _, ho, h0, h1 => by
  obtain ⟨_, h2, h3⟩ := h
  have hx : x = 1 := by simp at h2 h3; omega
  subst hx
  rw [B5 (s' := (0, out ++ [1]))]
  ·refine B4 ?_
   unfold Z102l9
   rfl
  ·unfold Z102l9
   simp only [A24]
   rw [A5 (show decide ((1 : Int) > 0) = true from rfl), A5 (by omega)]
   rfl
 | L + 1, x, out, h, hL, ho, h0, h1 => by
  have hpos : x > 0 := by
   have := h.2.1
   have hp : (0 : Int) < 2 ^ (L + 1 + 1 - 1) := A99 (by decide)
   omega
  rw [B5 (s' := (x / 2, out ++ [x % 2]))]
  ·rw [B450 L (x / 2) (out ++ [x % 2]) h.half (by omega) (by rw [A18, A24]; omega) (by omega) (by omega)]
   rw [List.range_succ_eq_map (n := L + 1), A57, List.map_map, A26]
   congr 2
   simp only [List.singleton_append, List.cons.injEq]
   refine ⟨by unfold bitN; simp, A124 fun i _ => B826⟩
  ·unfold Z102l9
   simp only [A24]
   rw [A5 (by simpa using hpos), A5 (by omega), B34 h0, B27 h0, w64 (by omega)]
def B28 (t : Nat) : List Event := (List.range t).map fun (v : Nat) => ⟨1 + (v : Int), 1⟩
def evMid (t : Nat) (x : Int) : List Event := (List.range t).map fun (j : Nat) => ⟨if j = 0 then 23 + (t : Int) else min (43 + (j : Int)) 47, bitN x (t - 1 - j)⟩
theorem B932 {t : Nat} (ht : t <= 24) {out : List Event} (ho : out.length <= 100) : loop (Z102l14 (t : Int)) (0, out) = some (out ++ B28 t) := by
 rw [Z102l14_over (t : Int) (by rw [A47]; omega) out]
 have := B293 (f := Z102l14_step) (fin := fun s => some s) (fun n => out ++ B28 n) (List.range (t : Int).toNat) 0 (fun k x hk => by
  have hlt := B7 hk
  rw [A47] at hlt
  rw [A20]
  unfold Z102l14_step B28
  simp only [A18, A48, A47, A24]
  rw [A5 (by omega), w64 (by omega), List.range_succ, A96, A26]
  rfl)
 simp only [B28, List.range_zero, A97, A36, A20, A47, A12] at this ⊢
 exact this
theorem B858 {base : Int} {t : Nat} (hb : -1000000 <= base ∧ base <= 1000000) (ht : t <= 24) {out : List Event} (ho : out.length <= 100) : loop (Z86l7 base (t : Int)) (0, out) = some (out ++ (B28 t).map (B50 base)) := by
 rw [Z86l7_over base (t : Int) (by rw [A47]; omega) out]
 have := B293 (f := Z86l7_step base) (fin := fun s => some s) (fun n => out ++ (B28 n).map (B50 base)) (List.range (t : Int).toNat) 0 (fun k x hk => by
  have hlt := B7 hk
  rw [A47] at hlt
  rw [A20]
  unfold Z86l7_step B28
  simp only [A18, A48, A47, A24]
  rw [A5 (by omega), w64 (n := base + 1) (by omega), w64 (by omega), List.range_succ, A96, A96, A26]
  simp only [A57, A97, B50, Int.add_assoc])
 simp only [B28, List.range_zero, A97, A36, A20, A47, A12] at this ⊢
 exact this
theorem B970 {x : Int} {t : Nat} (ht : t <= 24) {out : List Event} (ho : out.length <= 100) : loop (Z102l20 ((List.range (t + 1)).map (bitN x)) (t : Int)) (0, out) = some (out ++ evMid t x) := by
 rw [Z102l20_over _ (t : Int) (by rw [A47]; omega) out]
 have := B293 (f := Z102l20_step ((List.range (t + 1)).map (bitN x)) (t : Int)) (fin := fun s => some s) (fun n => out ++ (evMid t x).take n) (List.range (t : Int).toNat) 0 (fun k y hk => by
  have hlt := B7 hk
  rw [A47] at hlt
  rw [A20]
  have hget : (evMid t x)[k]? = some ⟨if k = 0 then 23 + (t : Int) else min (43 + (k : Int)) 47, bitN x (t - 1 - k)⟩ := by
   unfold evMid
   rw [A41, A80 (by omega)]
   rfl
  have hdig : ((List.range (t + 1)).map (bitN x))[t - 1 - k]? = some (bitN x (t - 1 - k)) := by
   rw [A41, A80 (by omega)]; rfl
  have e : (t : Int) - 1 - (k : Int) = ((t - 1 - k : Nat) : Int) := by omega
  have hc : ((if decide ((k : Int) = 0) = true then some (i64.wrap (23 + (t : Int))) else some (imin (i64.wrap (43 + (k : Int))) 47)) : Option Int) = some (if k = 0 then 23 + (t : Int) else min (43 + (k : Int)) 47) := by
   simp only [iteD, B330]
   by_cases c : k = 0
   ·rw [A5 (by omega), A5 c, w64 (by omega)]
   ·rw [A8 (by omega), A8 c, w64 (by omega)]
  unfold Z102l20_step
  try simp only
  rw [hc]
  simp only [A3, A18, A48, A47, A24, A22]
  rw [w64 (n := (t : Int) - 1) (by omega), w64 (n := (t : Int) - 1 - (k : Int)) (by omega), e, A5 (by omega), B21 hdig, A5 (by omega), A116, hget, A26]
  rfl)
 have hl : (evMid t x).length = t := by simp [evMid]
 simp only [A111, A36, A20, A47, A12] at this ⊢
 rw [this, A123 (by omega)]
end Go.Proofs.YtcphcfknnfibmaaGreat.P
namespace Go.Proofs.YtcphcfknnfibmaaGreat.V
theorem B919 {n : Int} {k : Nat} (hk : k <= 64) : ishr .i64 n (k : Int) = n / (2 ^ k : Int) := by
 unfold ishr
 rw [A12, show min k IntKind.i64.bits = k from by simp [IntKind.bits]; omega]
 exact A108 _ (by exact_mod_cast A33 (2 ^ k))
theorem B918 {n : Int} {k : Nat} (hk : k <= 64) : ishl .i64 n (k : Int) = i64.wrap (n * 2 ^ k) := by
 unfold ishl
 rw [A12, show min k IntKind.i64.bits = k from by simp [IntKind.bits]; omega]
theorem B322 (m : Nat) (h : m < 18446744073709551616) : (BitVec.ofInt 64 (m : Int)) = BitVec.ofNat 64 m := by
 rw [BitVec.ofInt_natCast]
theorem B965 (a b : Nat) (ha : a < 9223372036854775808) (hb : b < 9223372036854775808) : ior .i64 (a : Int) (b : Int) = ((a ||| b : Nat) : Int) := by
 show i64.wrap ((BitVec.ofInt 64 (a : Int) ||| BitVec.ofInt 64 (b : Int) : BitVec 64).toNat : Int) = _
 rw [B322 a (by omega), B322 b (by omega), BitVec.toNat_or, BitVec.toNat_ofNat, BitVec.toNat_ofNat, A87 (by omega), A87 (by omega)]
 have : a ||| b < 2 ^ 63 := Nat.or_lt_two_pow (by omega) (by omega)
 exact w64 (by omega)
theorem B913 (a b : Nat) (ha : a < 9223372036854775808) (hb : b < 9223372036854775808) : iand .i64 (a : Int) (b : Int) = ((a &&& b : Nat) : Int) := by
 show i64.wrap ((BitVec.ofInt 64 (a : Int) &&& BitVec.ofInt 64 (b : Int) : BitVec 64).toNat : Int) = _
 rw [B322 a (by omega), B322 b (by omega), BitVec.toNat_and, BitVec.toNat_ofNat, BitVec.toNat_ofNat, A87 (by omega), A87 (by omega)]
 have : a &&& b <= a := Nat.and_le_left
 exact w64 (by omega)
theorem B1023 (a b : Nat) (ha : a < 9223372036854775808) (hb : b < 9223372036854775808) : ixor .i64 (a : Int) (b : Int) = ((a ^^^ b : Nat) : Int) := by
 show i64.wrap ((BitVec.ofInt 64 (a : Int) ^^^ BitVec.ofInt 64 (b : Int) : BitVec 64).toNat : Int) = _
 rw [B322 a (by omega), B322 b (by omega), BitVec.toNat_xor, BitVec.toNat_ofNat, BitVec.toNat_ofNat, A87 (by omega), A87 (by omega)]
 have : a ^^^ b < 2 ^ 63 := Nat.xor_lt_two_pow (by omega) (by omega)
 exact w64 (by omega)
theorem B1022 {n d : Int} (hn : 0 <= n) (hn2 : n < 4294967296) (hd : 0 <= d) (hd2 : d < 256) : ior .i64 (ishl .i64 n 8) d = 256 * n + d := by
 obtain ⟨m, rfl⟩ := A70 hn
 obtain ⟨e, rfl⟩ := A70 hd
 have h0 : m <<< 8 = m * 256 := by rw [Nat.shiftLeft_eq]
 have h1 : ishl .i64 (m : Int) 8 = ((m <<< 8 : Nat) : Int) := by
  rw [show (8 : Int) = ((8 : Nat) : Int) from rfl, B918 (by omega), h0, show ((2 : Int) ^ 8) = 256 from rfl, w64 (by omega)]
  omega
 rw [h1, B965 _ _ (by omega) (by omega), ← Nat.shiftLeft_add_eq_or_of_lt (by omega), h0]
 omega
section
variable {α : Type}
theorem B1019 (xs : List α) (i j : Nat) : (cutL xs i j).length = min j xs.length - i := by simp [cutL]
theorem B1005 (xs : List α) {i j k : Nat} (h1 : i <= j) (h2 : j <= k) : cutL xs i j ++ cutL xs j k = cutL xs i k := by
 unfold cutL
 by_cases hj : j <= xs.length
 ·have e1 : xs.take k = xs.take j ++ (xs.take k).drop j := by
   conv => lhs; rw [← A104 j (xs.take k)]
   rw [List.take_take, Nat.min_eq_left h2]
  conv => rhs; rw [e1]
  rw [List.drop_append_of_le_length (by rw [A22]; omega)]
 ·have e1 : xs.take j = xs := A123 (by omega)
  have e2 : xs.take k = xs := A123 (by omega)
  rw [e1, e2, A98 (by omega : xs.length <= j), A36]
theorem B835 (xs : List α) (i : Nat) : cutL xs i i = [] := by
 unfold cutL
 exact A98 (by rw [A22]; omega)
theorem B1018 (xs : List α) : cutL xs 0 xs.length = xs := by simp [cutL]
theorem B1013 (xs : List α) (n : Nat) : cutL xs 0 n = xs.take n := by simp [cutL]
theorem B287 {xs : List α} {i j : Nat} {x : α} (h : xs[i]? = some x) (hj : i < j) : cutL xs i j = x :: cutL xs (i + 1) j := by
 have hl := (A37.1 h).1
 have hx := (A37.1 h).2
 unfold cutL
 rw [A74 (by rw [A22]; omega)]
 congr 1
 rw [List.getElem_take]; exact hx
theorem B1020 {xs : List α} {i j : Nat} {x : α} (h : x ∈ cutL xs i j) : x ∈ xs := A79 (A93 h)
end
theorem B1012 {b : List Int} {i : Nat} (h : i + 4 <= b.length) : cutL b i (i + 4) = [rd b i, rd b ((i + 1 : Nat) : Int), rd b ((i + 2 : Nat) : Int), rd b ((i + 3 : Nat) : Int)] := by
 have g : ∀ k, k < b.length -> b[k]? = some (rd b (k : Int)) := fun k hk => by
  have := B197 (xs := b) (i := (k : Int)) (by omega) (by omega)
  simpa using this
 rw [B287 (g i (by omega)) (by omega), B287 (g (i + 1) (by omega)) (by omega), B287 (g (i + 2) (by omega)) (by omega), B287 (g (i + 3) (by omega)) (by omega), B835]
end Go.Proofs.YtcphcfknnfibmaaGreat.V
namespace Go.Proofs.YtcphcfknnfibmaaGreat.P
theorem B827 {x : Int} (h0 : 0 <= x) (h1 : x < 16777216) {i : Nat} (hi : i <= 24) : iand .i64 (ishr .i64 x (i : Int)) 1 = bitN x i := by
 have hp : (0 : Int) < 2 ^ i := A99 (by decide)
 have q0 : 0 <= x / 2 ^ i := Int.ediv_nonneg h0 (Int.le_of_lt hp)
 have q1 : x / 2 ^ i <= x := Int.ediv_le_self _ h0
 rw [B919 (by omega)]
 unfold bitN
 obtain ⟨m, hm⟩ := A70 q0
 rw [hm] at q1 ⊢
 have := B913 m 1 (by omega) (by omega)
 rw [show ((1 : Nat) : Int) = 1 from rfl] at this
 rw [this, Nat.and_one_is_mod]
 omega
def tailB (k : Nat) : Int := if k <= 1 then 44 else min (43 + (k : Int)) 47
theorem B684 {base x : Int} {t : Nat} (hb : -1000000 <= base ∧ base <= 1000000) (ht : t <= 24) (h0 : 0 <= x) (h1 : x < 16777216) {out : List Event} (ho : out.length <= 100) : ∀ (d k : Nat), k + d = t ->
  ∃ b, loop (Z86l15 base x (t : Int)) ((t : Int) - 1 - (k : Int), out ++ ((evMid t x).take k).map (B50 base), tailB k) = some (out ++ (evMid t x).map (B50 base), b)
 | 0, k, h => by
  have hl : (evMid t x).length = t := by simp [evMid]
  refine ⟨tailB k, B4 ?_⟩
  unfold Z86l15 Z86l15_b
  simp only [iteD]
  rw [A8 (by omega), A123 (by omega)]
 | d + 1, k, h => by
  obtain ⟨b, hb'⟩ := B684 hb ht h0 h1 ho d (k + 1) (by omega)
  refine ⟨b, ?_⟩
  have hget : (evMid t x)[k]? = some ⟨if k = 0 then 23 + (t : Int) else min (43 + (k : Int)) 47, bitN x (t - 1 - k)⟩ := by
   unfold evMid
   rw [A41, A80 (by omega)]
   rfl
  have e : (t : Int) - 1 - (k : Int) = ((t - 1 - k : Nat) : Int) := by omega
  have hl : (evMid t x).length = t := by simp [evMid]
  rw [B5 (s' := ((t : Int) - 1 - ((k + 1 : Nat) : Int), out ++ ((evMid t x).take (k + 1)).map (B50 base), tailB (k + 1))), hb']
  have hc : ((if decide ((t : Int) - 1 - (k : Int) < i64.wrap ((t : Int) - 1)) = true then (Z129 (tailB k)).bind fun q32 => some (q32.1, q32.2) else some (i64.wrap (23 + (t : Int)), tailB k)) : Option (Int × Int)) = some (if k = 0 then 23 + (t : Int) else min (43 + (k : Int)) 47, tailB (k + 1)) := by
   simp only [iteD]
   rw [w64 (n := (t : Int) - 1) (by omega), w64 (n := 23 + (t : Int)) (by omega)]
   by_cases c : k = 0
   ·rw [A8 (by omega), A5 c]
    subst c
    rfl
   ·rw [A5 (by omega), A8 c, Z129_eq, Z129_b]
    have hk : -100 <= tailB k ∧ tailB k <= 47 := by unfold tailB; split <;> omega
    simp only [A3, B330]
    rw [w64 (n := tailB k + 1) (by omega)]
    unfold tailB
    by_cases c1 : k <= 1
    ·have : k = 1 := by omega
     subst this; rfl
    ·rw [A8 c1, A8 (by omega)]
     congr 2
     omega
  unfold Z86l15 Z86l15_b
  try simp only
  rw [hc]
  rw [A5 (by simp; omega)]
  simp only [A3, A18, A48, A24, A22]
  rw [A8 (by omega), e, B827 h0 h1 (by omega), A5 (by omega)]
  have hctx : -1000 <= (if k = 0 then 23 + (t : Int) else min (43 + (k : Int)) 47) ∧ (if k = 0 then 23 + (t : Int) else min (43 + (k : Int)) 47) <= 1000 := by split <;> omega
  rw [w64 (n := base + (if k = 0 then 23 + (t : Int) else min (43 + (k : Int)) 47)) (by omega), w64 (by omega), A116, hget, A96, A26]
  rw [show ((t - 1 - k : Nat) : Int) - 1 = (t : Int) - 1 - ((k + 1 : Nat) : Int) by omega]
  rfl
def absN (n : Int) : Int := max n (0 - n)
def evAll (n : Int) (t : Nat) : List Event :=
 ([⟨0, 0⟩] ++ B28 t ++ (if t < 20 then [⟨1 + (t : Int), 0⟩] else [])) ++ evMid t (absN n + 1) ++ (if n = 0 then [] else [⟨22, if n < 0 then 1 else 0⟩])
theorem B664 {n : Int} {t : Nat} (ht : t <= 20) : (evAll n t).length <= 50 ∧ ∀ e ∈ evAll n t, (0 <= e.ctx ∧ e.ctx < 48) ∧ (e.bit = 0 ∨ e.bit = 1) := by
 refine ⟨?_, fun e he => ?_⟩
 ·unfold evAll B28 evMid
  simp only [A18, A48, A47, A24]
  split <;> split <;> simp <;> omega
 ·unfold evAll at he
  rcases A39.1 he with he | he
  ·rcases A39.1 he with he | he
   ·rcases A39.1 he with he | he
    ·rcases A39.1 he with he | he
     ·rw [A54] at he; subst he; simp
     ·unfold B28 at he
      obtain ⟨v, hv, rfl⟩ := A59.1 he
      rw [A86] at hv
      exact ⟨by show 0 <= 1 + (v : Int) ∧ 1 + (v : Int) < 48; omega, .inr rfl⟩
    ·split at he
     ·rw [A54] at he; subst he
      exact ⟨by show 0 <= 1 + (t : Int) ∧ 1 + (t : Int) < 48; omega, .inl rfl⟩
     ·simp at he
   ·unfold evMid at he
    obtain ⟨j, hj, rfl⟩ := A59.1 he
    rw [A86] at hj
    try simp only
    refine ⟨by split <;> omega, ?_⟩
    unfold bitN
    omega
  ·split at he
   ·simp at he
   ·rw [A54] at he; subst he
    try simp only
    refine ⟨by omega, ?_⟩
    split <;> simp
theorem B352 {n : Int} (hn : -1048576 <= n ∧ n <= 1048576) : ∃ t : Nat, t <= 20 ∧ Bits (absN n + 1) (t + 1) ∧ Z102 false n = some (evAll n t) := by
 have ha : 0 <= absN n ∧ absN n <= 1048576 := by unfold absN; omega
 obtain ⟨L, _, hB, hL⟩ := B522 (x := absN n + 1) (by omega) (by omega)
 obtain ⟨t, rfl⟩ : ∃ t, L = t + 1 := ⟨L - 1, by have := hB.1; omega⟩
 have ht : t <= 20 := by
  rcases A83 t 21 with q | q
  ·omega
  ·have h2 := hB.2.1
   rw [show t + 1 - 1 = t by omega] at h2
   have : (2 : Int) ^ 21 <= 2 ^ t := by
    have := Nat.pow_le_pow_right (n := 2) (by decide) q
    exact_mod_cast this
   have e : (2 : Int) ^ 21 = 2097152 := by decide
   omega
 refine ⟨t, ht, hB, ?_⟩
 rw [Z102_eq]
 have e1 : ((if decide (n < 0) = true then (let t3 := i64.wrap (0 - n); some (t3, 1)) else some (n, 0)) : Option (Int × Int)) = some (absN n, if n < 0 then 1 else 0) := by
  unfold absN
  simp only [iteD]
  by_cases c : n < 0
  ·rw [A5 c, A5 c, w64 (by omega)]
   congr 2; omega
  ·rw [A8 c, A8 c]
   congr 2; omega
 rw [e1]
 simp only [A4, A1, A3]
 rw [w64 (n := absN n + 1) (by omega), B450 t (absN n + 1) [] hB (by omega) (by simp; omega) (by omega) (by omega)]
 simp only [A3, A25, A48, A47]
 rw [w64 (n := ((t + 1 : Nat) : Int) - 1) (by omega), show ((t + 1 : Nat) : Int) - 1 = (t : Int) by omega, B932 (by omega) (by simp)]
 simp only [A3, iteD, iteND]
 have hl1 : (B28 t).length = t := by simp [B28]
 have hl2 : (evMid t (absN n + 1)).length = t := by simp [evMid]
 have e2 : ((if (t : Int) < 20 then (if (([(⟨0, 0⟩ : Event)] ++ B28 t).length + ([(Event.mk (i64.wrap (1 + (t : Int))) 0)] : List Event).length) * 16 <= 140737488355328 then some ([(⟨0, 0⟩ : Event)] ++ B28 t ++ [(Event.mk (i64.wrap (1 + (t : Int))) 0)]) else none) else some ([(⟨0, 0⟩ : Event)] ++ B28 t)) : Option (List Event)) = some ([(⟨0, 0⟩ : Event)] ++ B28 t ++ (if t < 20 then [(⟨1 + (t : Int), 0⟩ : Event)] else [])) := by
  simp only [A18, A24, hl1]
  by_cases c : t < 20
  ·rw [A5 (by omega), A5 (by omega), A5 c, w64 (by omega)]
  ·rw [A8 (by omega), A8 c, A36]
 rw [e2]
 simp only [A3]
 rw [B970 (by omega) (by simp only [A18, A24, hl1]; split <;> simp <;> omega)]
 simp only [A3]
 unfold evAll
 by_cases c : n = 0
 ·have : absN n = 0 := by unfold absN; omega
  rw [A5 this, A5 c, A36]
 ·have : ¬ absN n = 0 := by unfold absN; omega
  rw [A8 this, A8 c, A5]
  simp only [A18, A24, hl1, hl2]
  split <;> simp <;> omega
theorem Bits.unique {x : Int} {L M : Nat} (h : Bits x L) (h' : Bits x M) : L = M := by
 obtain ⟨a1, a2, a3⟩ := h
 obtain ⟨b1, b2, b3⟩ := h'
 have mono : ∀ {i j : Nat}, i <= j -> (2 : Int) ^ i <= 2 ^ j := fun {i j} hij => by
  have := Nat.pow_le_pow_right (n := 2) (by decide) hij
  exact_mod_cast this
 rcases A112 L M with q | q | q
 ·have := mono (show L <= M - 1 by omega); omega
 ·exact q
 ·have := mono (show M <= L - 1 by omega); omega
theorem B734 {base n : Int} {t : Nat} (hb : -1000000 <= base ∧ base <= 1000000) (hn : -1048576 <= n ∧ n <= 1048576) (ht : t <= 20) (hB : Bits (absN n + 1) (t + 1)) : Z86 base false n = some ((evAll n t).map (B50 base)) := by
 have ha : 0 <= absN n ∧ absN n <= 1048576 := by unfold absN; omega
 obtain ⟨L, e0, hB', _⟩ := B522 (x := absN n + 1) (by omega) (by omega)
 obtain rfl := hB'.unique hB
 have em : imax n (0 - n) = absN n := by rw [B563]; rfl
 have hl1 : (B28 t).length = t := by simp [B28]
 have hl2 : (evMid t (absN n + 1)).length = t := by simp [evMid]
 rw [Z86_eq, Z86_b]
 simp only [A4, A1]
 rw [w64 (n := 0 - n) (by omega), em, w64 (n := absN n + 1) (by omega), wu64, show (absN n + 1) % 18446744073709551616 = absN n + 1 by omega, e0]
 simp only [A3]
 rw [w64 (n := ((t + 1 : Nat) : Int) - 1) (by omega), show ((t + 1 : Nat) : Int) - 1 = (t : Int) by omega, B858 hb (by omega) (by simp)]
 simp only [A3, iteD, iteND]
 have e2 : ((if (t : Int) < 20 then (if (([(⟨base, 0⟩ : Event)] ++ (B28 t).map (B50 base)).length + ([(Event.mk (i64.wrap (i64.wrap (base + 1) + (t : Int))) 0)] : List Event).length) * 16 <= 140737488355328 then some ([(⟨base, 0⟩ : Event)] ++ (B28 t).map (B50 base) ++ [(Event.mk (i64.wrap (i64.wrap (base + 1) + (t : Int))) 0)]) else none) else some ([(⟨base, 0⟩ : Event)] ++ (B28 t).map (B50 base))) : Option (List Event)) = some (([(⟨0, 0⟩ : Event)] ++ B28 t ++ (if t < 20 then [(⟨1 + (t : Int), 0⟩ : Event)] else [])).map (B50 base)) := by
  simp only [A18, A24, A48, hl1]
  rw [w64 (n := base + 1) (by omega), w64 (n := base + 1 + (t : Int)) (by omega)]
  by_cases c : t < 20
  ·rw [A5 (by omega), A5 (by omega), A5 c]
   simp [B50, Int.add_assoc]
  ·rw [A8 (by omega), A8 c, A36]
   simp [B50]
 rw [e2]
 simp only [A3]
 obtain ⟨b, e3⟩ := B684 (x := absN n + 1) (t := t) hb (by omega) (by omega) (by omega) (out := ([(⟨0, 0⟩ : Event)] ++ B28 t ++ (if t < 20 then [(⟨1 + (t : Int), 0⟩ : Event)] else [])).map (B50 base)) (by rw [A48]; simp only [A18, A24, hl1]; split <;> simp <;> omega) t 0 (by omega)
 have e3' : loop (Z86l15 base (absN n + 1) (t : Int)) (i64.wrap ((t : Int) - 1), ([(⟨0, 0⟩ : Event)] ++ B28 t ++ (if t < 20 then [(⟨1 + (t : Int), 0⟩ : Event)] else [])).map (B50 base), 44) = some ((([(⟨0, 0⟩ : Event)] ++ B28 t ++ (if t < 20 then [(⟨1 + (t : Int), 0⟩ : Event)] else [])).map (B50 base)) ++ (evMid t (absN n + 1)).map (B50 base), b) := by
  rw [w64 (n := (t : Int) - 1) (by omega), ← e3, A111, A97, A36]
  rw [show (t : Int) - 1 - ((0 : Nat) : Int) = (t : Int) - 1 by omega]
  rfl
 rw [e3']
 simp only [A3]
 unfold evAll
 by_cases c : n = 0
 ·rw [A5 c, A5 c, A36]
  simp only [A96]
 ·rw [A8 c, A8 c, w64 (n := base + 22) (by omega)]
  have e4 : ((if n < 0 then some (base + 22, 1) else some (base + 22, 0)) : Option (Int × Int)) = some (base + 22, if n < 0 then 1 else 0) := by split <;> rfl
  rw [e4]
  simp only [A3]
  rw [A5]
  ·simp [B50]
  ·simp only [A18, A48, A24, hl1, hl2]
   split <;> simp <;> omega
theorem B805 {s : EncS} : Z82 (-1) 0 s.1 s.2.1 s.2.2.1 s.2.2.2.1 s.2.2.2.2 = some (2, s.1, s.2.1, s.2.2.1, s.2.2.2.1, s.2.2.2.2) := by
 rw [Z82_eq, Z88_eq, Z88_b]
 rfl
theorem B689 {base n : Int} {N B : Nat} {s : EncS} (hb : 0 <= base ∧ base + 48 <= (N : Int)) (hN : N <= 8192) (hn : -1048576 <= n ∧ n <= 1048576) (h : EncAt N B s) (hB : B <= 100000000) :
  ∃ t, t <= 20 ∧ Bits (absN n + 1) (t + 1) ∧ Z43 base false n s.1 s.2.1 s.2.2.1 s.2.2.2.1 s.2.2.2.2 = some (0, B20 s (prE base (evAll n t))) ∧ Z55 base false n s.1 s.2.1 s.2.2.1 s.2.2.2.1 s.2.2.2.2 = some (0, B20 s (prE base (evAll n t))) ∧ EncAt N (B + 400) (B20 s (prE base (evAll n t))) := by
 have hlen := h.2.1
 have ec := B348 (kind := s.1) (st := s.2.2.2.1) (by rw [hlen]; exact hN)
 have hv : Z83 false n = some true ∧ Z99 false n = some true := by
  rw [Z83_eq, Z83_b, Z99_eq]
  simp only [A4, A1, iteD] at hn ⊢
  rw [A5 (show n ≥ -1048576 from hn.1)]
  simp [hn.2]
 obtain ⟨t, t1, t2, t3⟩ := B352 hn
 obtain ⟨o1, o2⟩ := B664 (n := n) t1
 have l1 := B734 (base := base) (by omega) hn t1 t2
 obtain ⟨r1, r2, r3⟩ := B806 (base := base) (l := evAll n t) (by omega) (by omega) (by omega) (fun e he => by
  obtain ⟨⟨c0, c1⟩, c2⟩ := o2 e he
  exact ⟨⟨by omega, by omega⟩, c2⟩) h hB
 refine ⟨t, t1, t2, ?_, ?_, r3⟩
 ·rw [Z43_eq, Z43_b, B805]
  simp only [A3, show ¬ ((2 : Int) = 7) by decide, A9, A4, A1, hv.1, A19]
  rw [Z84_eq, Z84_b, Z88_eq, Z88_b]
  simp only [A3, A4, A1, ec.1]
  rw [Z85_eq, Z85_b]
  simp only [iteD]
  rw [A8 (by omega), w64 (by omega), A8 (by omega)]
  simp only [A3, A7, A19, A4, A1, l1]
  rw [r1]
  rfl
 ·rw [Z55_eq, hv.2]
  simp only [A3, A19, A4, A1]
  rw [Z100_eq, ec.2]
  simp only [A3]
  rw [Z101_eq]
  simp only [iteD]
  rw [A5 (by omega), A5 (by omega), w64 (by omega)]
  have : (48 : Int) <= ((s.2.2.2.1.length : Nat) : Int) - base := by omega
  simp only [this, A7, A3, A19, A4, A1, t3]
  rw [r2]
  rfl
theorem B705 : Z36l5 = Z48l5 := by
 funext s
 unfold Z36l5 Z48l5
 simp only [iteD]
 split
 ·rename_i h
  have e1 : s.1.tmod 128 = s.1 % 128 := B34 (by omega)
  have : u8.wrap (u8.wrap (s.1.tmod 128) + 128) = u8.wrap (i64.wrap (128 + s.1.tmod 128)) := by
   rw [e1, w8, w8, w64 (by omega), w8]; omega
  rw [this]
 ·rfl
theorem B980 (n : Int) : Z36 n = Z48 n := by rw [Z36_eq, Z36_b, Z48_eq, B705]
theorem B570 : ∀ s : Int × List Int, 0 <= s.1 ∧ (s.2.length : Int) + s.1 <= 2147483650 -> ∃ a, loop Z48l5 s = some a ∧ a.length <= 2147483650 := by
 refine B680 (fun (s : Int × List Int) => 0 <= s.1 ∧ (s.2.length : Int) + s.1 <= 2147483650) (fun (s : Int × List Int) => s.1.toNat) (fun (a : List Int) => a.length <= 2147483650) ?_
 rintro ⟨n, out⟩ ⟨h1, h2⟩
 simp only at h1 h2
 unfold Z48l5
 simp only [iteD]
 by_cases h : n > 0
 ·have e2 : n.tdiv 128 = n / 128 := B27 (by omega)
  rw [A5 h, A5 (by simp only [A28, A58]; omega)]
  refine .inl ⟨_, rfl, ?_, ?_⟩
  ·simp only [e2, A18, A28, A58]
   rw [w64 (by omega)]
   omega
  ·simp only [e2]
   rw [w64 (by omega)]
   omega
 ·rw [A8 h]
  exact .inr ⟨_, rfl, by omega⟩
theorem B1017 (n : Int) : ∃ l e, Z48 n = some (e, l) ∧ l.length <= 2147483650 ∧ (0 <= n -> n <= 2147483647 -> e = 0) := by
 rw [Z48_eq]
 simp only [iteD]
 by_cases h1 : n < 0
 ·exact ⟨[], 2, by simp [h1], by simp, fun h => by omega⟩
 ·by_cases h2 : n > 2147483647
  ·exact ⟨[], 2, by simp [h1, h2], by simp, fun _ h => by omega⟩
  ·obtain ⟨a, ha, hl⟩ := B570 (i64.wrap (n.tdiv 128), [u8.wrap (n.tmod 128)]) (by
    simp only [A28, A58]
    rw [B27 (by omega), w64 (by omega)]; omega)
   exact ⟨a, 0, by simp [h1, h2, ha], hl, fun _ _ => rfl⟩
theorem B585 : ∀ a : List Int, cmpI a a = 0
 | [] => rfl
 | x :: l => by rw [cmpI, A8 (by omega), A8 (by omega)]; exact B585 l
theorem B261 : ∀ a b : List Int, cmpI b a = - cmpI a b
 | [], [] => rfl
 | [], _ :: _ => rfl
 | _ :: _, [] => rfl
 | x :: l, y :: m => by
  rw [cmpI, cmpI]
  by_cases h : x < y
  ·rw [A8 (by omega), A5 h, A5 h]; rfl
  ·by_cases g : y < x
   ·rw [A5 g, A8 h, A5 g]
   ·rw [A8 g, A8 h, A8 h, A8 g]; exact B261 l m
theorem B349 : ∀ a b : List Int, cmpI a b = 0 -> a = b
 | [], [] => fun _ => rfl
 | [], _ :: _ => fun h => by simp [cmpI] at h
 | _ :: _, [] => fun h => by simp [cmpI] at h
 | x :: l, y :: m => fun h => by
  rw [cmpI] at h
  split at h
  ·omega
  ·split at h
   ·omega
   ·rw [B349 l m h, show x = y by omega]
theorem B350 : ∀ a b c : List Int, cmpI a b < 0 -> cmpI b c < 0 -> cmpI a c < 0
 | [], [], _ => fun h => by simp [cmpI] at h
 | [], _ :: _, [] => fun _ h => by simp [cmpI] at h
 | [], _ :: _, _ :: _ => fun _ _ => by simp [cmpI]
 | _ :: _, [], _ => fun h => by simp [cmpI] at h
 | _ :: _, _ :: _, [] => fun _ h => by simp [cmpI] at h
 | x :: l, y :: m, z :: n => fun h g => by
  rw [cmpI] at h g ⊢
  by_cases h1 : x < y
  ·by_cases g1 : y < z
   ·rw [A5 (by omega)]; omega
   ·rw [A8 g1] at g
    split at g
    ·omega
    ·rw [A5 (by omega)]; omega
  ·rw [A8 h1] at h
   split at h
   ·omega
   ·by_cases g1 : y < z
    ·rw [A5 (by omega)]; omega
    ·rw [A8 g1] at g
     split at g
     ·omega
     ·rw [A8 (by omega), A8 (by omega)]; exact B350 l m n h g
def sfx (t : List Int) (x : Int) : List Int := t.drop x.toNat
def ltS (t : List Int) (x y : Int) : Bool := decide (cmpI (sfx t x) (sfx t y) < 0)
theorem swoS (t : List Int) : Sort.SWO (ltS t) where
 irrefl x := by simp [ltS, B585]
 trans x y z h g := by
  simp only [ltS, A23] at h g ⊢
  exact B350 _ _ _ h g
 ntrans x y z h g := by
  simp only [ltS, A60] at h g ⊢
  intro k
  by_cases e1 : cmpI (sfx t x) (sfx t y) = 0
  ·rw [B349 _ _ e1] at k; exact g k
  by_cases e2 : cmpI (sfx t y) (sfx t z) = 0
  ·rw [← B349 _ _ e2] at k; exact h k
  have n1 := B261 (sfx t x) (sfx t y)
  have n2 := B261 (sfx t y) (sfx t z)
  have n3 := B261 (sfx t x) (sfx t z)
  have := B350 _ _ _ (show cmpI (sfx t z) (sfx t y) < 0 by omega) (show cmpI (sfx t y) (sfx t x) < 0 by omega)
  omega
theorem B104 {t : List Int} {x y : Int} (hx : 0 <= x ∧ x <= (t.length : Int)) (hy : 0 <= y ∧ y <= (t.length : Int)) : Z167 x y t = some (cmpI (sfx t x) (sfx t y), t) := by
 rw [Z167_eq, Z167_b]
 simp only [hx, hy, A32, A6, Z175_eq, Z175_b, A3, cutL, A117]
 rfl
theorem B32 (d : Array Int) (k : Nat) : rd d.toList (k : Int) = d[k]! := by
 unfold rd
 rw [A12, A92, Array.getElem?_toList]
 by_cases h : k < d.size
 ·rw [A71 h, getElem!_pos d k h]; rfl
 ·rw [A103 (by omega), getElem!_neg d k h]; rfl
theorem B56 (d : Array Int) (i j : Nat) : (d.toList.set i d[j]!).set j d[i]! = (Sort.swp d i j).toList := by
 simp [Sort.swp]
def Pl (t : List Int) (d : Array Int) : Prop := ∀ k, k < d.size -> 0 <= d[k]! ∧ d[k]! <= (t.length : Int)
theorem Pl.perm {t : List Int} {d d' : Array Int} {a b : Nat} (h : Pl t d) (hb : b <= d.size) (p : Sort.PermIn a b d d') : Pl t d' := by
 intro k hk
 rw [p.1] at hk
 by_cases h1 : k < a ∨ b <= k
 ·rw [p.2.1 k h1]; exact h k hk
 ·exact Sort.permIn_all d d' a b (fun x => 0 <= x ∧ x <= (t.length : Int)) hb p (fun i _ hi => h i (by omega)) k (by omega) (by omega)
theorem Pl.swp {t : List Int} {d : Array Int} {i j : Nat} (h : Pl t d) (hi : i < d.size) (hj : j < d.size) : Pl t (Sort.swp d i j) :=
 h.perm (A11 _) (Sort.swp_permIn d 0 d.size i j (A33 _) hi (A33 _) hj (A11 _))
theorem szs (d : Array Int) (i j : Nat) : (Sort.swp d i j).size = d.size := Sort.size_swp d i j
theorem B915 {t : List Int} {a : Nat} : ∀ (j : Nat) (d : Array Int), Pl t d -> j < d.size -> d.size < 4611686018427387904 ->
  loop (Z161l4 (a : Int)) ((j : Int), d.toList, t) = some ((Sort.insInner (ltS t) a j d).toList, t) := by
 intro j
 induction j with
 | zero =>
  intro d hp hj hs
  refine B4 ?_
  unfold Z161l4 Z161l4_b
  have h1 : ¬ (((0 : Nat) : Int) > (a : Int)) := by omega
  simp only [h1, A9, A4, A1, A3, Sort.insInner]
 | succ j ih =>
  intro d hp hj hs
  have w1 : i64.wrap (((j + 1 : Nat) : Int) - 1) = ((j : Nat) : Int) := by rw [w64 (by omega)]; omega
  by_cases h1 : j + 1 > a
  ·have h1' : ((j + 1 : Nat) : Int) > (a : Int) := by omega
   have hc := B104 (hp (j + 1) hj) (hp j (by omega))
   have hj' : j < d.size := by omega
   cases hl : ltS t d[j + 1]! d[j]! with
   | false =>
    refine B4 ?_
    unfold Z161l4 Z161l4_b
    have hl' : decide (cmpI (sfx t d[j + 1]!) (sfx t d[j]!) < 0) = false := hl
    simp only [h1', A7, A6, w1, A29, A17, A14, A10, hj, hj', B32, hc, A3, hl', A4, A1, Sort.insInner, h1, hl, A118, A7]
   | true =>
    rw [B5 (s' := ((j : Int), (Sort.swp d (j + 1) j).toList, t)), ih _ (hp.swp hj hj') (by rw [szs]; exact hj') (by rw [szs]; exact hs)]
    ·simp only [Sort.insInner, h1, hl, A7, A106, A6]
    ·unfold Z161l4 Z161l4_b
     have hl' : decide (cmpI (sfx t d[j + 1]!) (sfx t d[j]!) < 0) = true := hl
     simp only [h1', A7, A6, w1, A29, A53, A17, A14, A10, hj, hj', B32, hc, A3, hl', A12, B56]
  ·refine B4 ?_
   unfold Z161l4 Z161l4_b
   have h1' : ¬ (((j + 1 : Nat) : Int) > (a : Int)) := by omega
   simp only [h1', A9, A4, A1, A3, Sort.insInner, h1, A63]
theorem B519 {lt : Int -> Int -> Bool} {a : Nat} : ∀ (j : Nat) (d : Array Int), j < d.size -> Sort.PermIn 0 d.size d (Sort.insInner lt a j d)
 | 0, d, _ => Sort.permIn_refl _ _ _
 | j + 1, d, hj => by
  rw [Sort.insInner]
  split
  ·have h := B519 (lt := lt) (a := a) j (Sort.swp d (j + 1) j) (by rw [szs]; omega)
   rw [szs] at h
   exact Sort.permIn_trans _ _ _ _ _ (Sort.swp_permIn d 0 d.size (j + 1) j (A33 _) hj (A33 _) (by omega) (A11 _)) h
  ·exact Sort.permIn_refl _ _ _
theorem B844 {t : List Int} {a b : Nat} : ∀ (n i : Nat) (d : Array Int), b - i <= n -> Pl t d -> b <= d.size -> d.size < 4611686018427387904 ->
  loop (Z161l1 (a : Int) (b : Int)) ((i : Int), d.toList, t) = some ((Sort.insOuter (ltS t) a b i d).toList, t) := by
 intro n
 induction n with
 | zero =>
  intro i d hn hp hb hs
  refine B4 ?_
  unfold Z161l1 Z161l1_b
  rw [Sort.insOuter]
  simp only [A10, show ¬ i < b by omega, A9, A4, A1]
 | succ n ih =>
  intro i d hn hp hb hs
  rw [Sort.insOuter]
  by_cases h : i < b
  ·have hpm := B519 (lt := ltS t) (a := a) i d (by omega)
   have hw : i64.wrap (((i : Nat) : Int) + 1) = ((i + 1 : Nat) : Int) := w64 (by omega)
   rw [B5 (s' := (((i + 1 : Nat) : Int), (Sort.insInner (ltS t) a i d).toList, t)), ih (i + 1) _ (by omega) (hp.perm (A11 _) hpm) (by rw [hpm.1]; exact hb) (by rw [hpm.1]; exact hs), A5 h]
   unfold Z161l1 Z161l1_b
   simp only [A10, h, A7, A6, B915 i d hp (by omega) hs, A3, hw]
  ·rw [A8 h]
   refine B4 ?_
   unfold Z161l1 Z161l1_b
   simp only [A10, h, A9, A4, A1]
theorem B988 {t : List Int} {a b : Nat} {d : Array Int} (hp : Pl t d) (hab : a <= b) (hb : b <= d.size) (hs : d.size < 4611686018427387904) :
  Z161 (a : Int) (b : Int) d.toList t = some ((Sort.insertionSort (ltS t) d a b).toList, t) := by
 rw [Z161_eq, Z161_b]
 have hw : i64.wrap (((a : Nat) : Int) + 1) = ((a + 1 : Nat) : Int) := w64 (by omega)
 simp only [hw, B844 (b - (a + 1)) (a + 1) d (A11 _) hp hb hs, A3, Sort.insertionSort]
theorem B414 {lt : Int -> Int -> Bool} {hi first : Nat} : ∀ (n root : Nat) (d : Array Int), hi - root <= n -> first + hi <= d.size -> Sort.PermIn 0 d.size d (Sort.siftDown lt hi first root d) := by
 intro n
 induction n with
 | zero => intro root d hn hs; rw [Sort.siftDown, dif_pos (by omega)]; exact Sort.permIn_refl _ _ _
 | succ n ih =>
  intro root d hn hs
  have go : ∀ c, root < c -> c < hi -> Sort.PermIn 0 d.size d (Sort.siftDown lt hi first c (Sort.swp d (first + root) (first + c))) := by
   intro c h1 h2
   have h := ih c (Sort.swp d (first + root) (first + c)) (by omega) (by rw [szs]; exact hs)
   rw [szs] at h
   exact Sort.permIn_trans _ _ _ _ _ (Sort.swp_permIn d 0 d.size _ _ (A33 _) (by omega) (A33 _) (by omega) (A11 _)) h
  rw [Sort.siftDown]
  split
  ·exact Sort.permIn_refl _ _ _
  ·rename_i h1
   split
   ·split
    ·exact Sort.permIn_refl _ _ _
    ·split
     ·rename_i h2; exact go _ (by omega) h2
     ·exact Sort.permIn_refl _ _ _
   ·split
    ·exact Sort.permIn_refl _ _ _
    ·exact go _ (by omega) (by omega)
theorem B979 {t : List Int} {hi first : Nat} : ∀ (n root : Nat) (d : Array Int), hi - root <= n -> Pl t d -> first + hi <= d.size -> d.size < 2305843009213693952 -> root <= d.size ->
  ∃ r, loop (Z170l1 (hi : Int) (first : Int)) ((root : Int), d.toList, t) = some r ∧ (r = .inl ((Sort.siftDown (ltS t) hi first root d).toList, t) ∨ r = .inr ((Sort.siftDown (ltS t) hi first root d).toList, t)) := by
 intro n
 induction n with
 | zero =>
  intro root d hn hp hh hs hr
  refine ⟨_, B4 (a := .inl (d.toList, t)) ?_, .inl ?_⟩
  ·unfold Z170l1 Z170l1_b
   have w1 : i64.wrap (2 * ((root : Nat) : Int)) = ((2 * root : Nat) : Int) := by rw [w64 (by omega)]; omega
   have w2 : i64.wrap (((2 * root : Nat) : Int) + 1) = ((2 * root + 1 : Nat) : Int) := w64 (by omega)
   simp only [w1, w2, ge_iff_le, A56, show hi <= 2 * root + 1 by omega, A7, A6]
  ·rw [Sort.siftDown, dif_pos (by omega)]
 | succ n ih =>
  intro root d hn hp hh hs hr
  have w1 : i64.wrap (2 * ((root : Nat) : Int)) = ((2 * root : Nat) : Int) := by rw [w64 (by omega)]; omega
  have w2 : i64.wrap (((2 * root : Nat) : Int) + 1) = ((2 * root + 1 : Nat) : Int) := w64 (by omega)
  by_cases h1 : hi <= 2 * root + 1
  ·refine ⟨_, B4 (a := .inl (d.toList, t)) ?_, .inl ?_⟩
   ·unfold Z170l1 Z170l1_b
    simp only [w1, w2, ge_iff_le, A56, h1, A7, A6]
   ·rw [Sort.siftDown, dif_pos h1]
  have w3 : i64.wrap (((2 * root + 1 : Nat) : Int) + 1) = ((2 * root + 2 : Nat) : Int) := w64 (by omega)
  have w4 : i64.wrap (((first : Nat) : Int) + ((2 * root + 1 : Nat) : Int)) = ((first + (2 * root + 1) : Nat) : Int) := by rw [w64 (by omega)]; omega
  have w5 : i64.wrap (((first + (2 * root + 1) : Nat) : Int) + 1) = ((first + (2 * root + 1) + 1 : Nat) : Int) := w64 (by omega)
  have w6 : i64.wrap (((first : Nat) : Int) + ((root : Nat) : Int)) = ((first + root : Nat) : Int) := by rw [w64 (by omega)]; omega
  have w7 : i64.wrap (((first : Nat) : Int) + ((2 * root + 2 : Nat) : Int)) = ((first + (2 * root + 2) : Nat) : Int) := by rw [w64 (by omega)]; omega
  have sr : first + root < d.size := by omega
  -- the child c: the rest of the round
  have go : ∀ c, (c = 2 * root + 1 ∨ c = 2 * root + 2) -> c < hi -> ∀ P : Option ((Int × List Int × List Int) ⊕ ((List Int × List Int) ⊕ (List Int × List Int))),
    P = (if (!ltS t d[first + root]! d[first + c]!) = true then some (.inr (.inr (d.toList, t))) else some (.inl ((c : Int), (Sort.swp d (first + root) (first + c)).toList, t))) ->
    Z170l1 (hi : Int) (first : Int) ((root : Int), d.toList, t) = P ->
    Sort.siftDown (ltS t) hi first root d = (if (!ltS t d[first + root]! d[first + c]!) = true then d else Sort.siftDown (ltS t) hi first c (Sort.swp d (first + root) (first + c))) ->
    ∃ r, loop (Z170l1 (hi : Int) (first : Int)) ((root : Int), d.toList, t) = some r ∧ (r = .inl ((Sort.siftDown (ltS t) hi first root d).toList, t) ∨ r = .inr ((Sort.siftDown (ltS t) hi first root d).toList, t)) := by
   intro c hc hch P hP hl hk
   rw [hk]
   rw [hP] at hl
   by_cases hx : (!ltS t d[first + root]! d[first + c]!) = true
   ·rw [A5 hx] at hl ⊢
    exact ⟨_, B4 hl, .inr rfl⟩
   ·rw [A8 hx] at hl ⊢
    rw [B5 hl]
    exact ih c _ (by omega) (hp.swp sr (by omega)) (by rw [szs]; exact hh) (by rw [szs]; exact hs) (by rw [szs]; omega)
  have c1 := B104 (hp (first + root) sr) (hp (first + (2 * root + 1)) (by omega))
  have s1 : first + (2 * root + 1) < d.size := by omega
  have n1 : ¬ hi <= 2 * root + 1 := h1
  by_cases h2 : 2 * root + 2 < hi
  ·have s2 : first + (2 * root + 2) < d.size := by omega
   have s2' : first + (2 * root + 1) + 1 < d.size := by omega
   have c2 := B104 (hp (first + root) sr) (hp (first + (2 * root + 2)) s2)
   have c3 := B104 (hp (first + (2 * root + 1)) s1) (hp (first + (2 * root + 1) + 1) s2')
   have c0 : ((2 * root + 1 + 1 : Nat) : Int) < (hi : Int) := by omega
   cases hl : ltS t d[first + (2 * root + 1)]! d[first + (2 * root + 1) + 1]! with
   | true =>
    have hl' : decide (cmpI (sfx t d[first + (2 * root + 1)]!) (sfx t d[first + (2 * root + 1) + 1]!) < 0) = true := hl
    refine go (2 * root + 2) (.inr rfl) h2 _ rfl ?_ ?_
    ·unfold Z170l1 Z170l1_b
     simp only [w1, w2, w3, w4, w5, w6, w7, ge_iff_le, A56, A10, n1, h2, s1, s2, s2', sr, A9, A7, A4, A1, A6, A29, A53, A17, A14, B32, c3, c2, A3, hl', A12, B56]
     rfl
    ·rw [Sort.siftDown, dif_neg h1]
     simp only [show 2 * root + 1 + 1 < hi from h2, hl, A7, A106, A6, h2, dite_true]
   | false =>
    have hl' : decide (cmpI (sfx t d[first + (2 * root + 1)]!) (sfx t d[first + (2 * root + 1) + 1]!) < 0) = false := hl
    refine go (2 * root + 1) (.inl rfl) (by omega) _ rfl ?_ ?_
    ·unfold Z170l1 Z170l1_b
     simp only [w1, w2, w3, w4, w5, w6, w7, ge_iff_le, A56, A10, n1, h2, s1, s2, s2', sr, A9, A7, A4, A1, A6, A29, A53, A17, A14, B32, c3, c1, A3, hl', A12, B56]
     rfl
    ·rw [Sort.siftDown, dif_neg h1]
     simp only [hl, A118, A4, A1]
  ·refine go (2 * root + 1) (.inl rfl) (by omega) _ rfl ?_ ?_
   ·unfold Z170l1 Z170l1_b
    simp only [w1, w2, w3, w4, w5, w6, w7, ge_iff_le, A56, A10, n1, h2, s1, sr, A9, A7, A4, A1, A6, A29, A53, A17, A14, B32, c1, A3, A12, B56]
    rfl
   ·rw [Sort.siftDown, dif_neg h1]
    simp only [show ¬ 2 * root + 1 + 1 < hi from h2, A9, A63, A4, A1]
theorem B492 {t : List Int} {hi first root : Nat} {d : Array Int} (hp : Pl t d) (hh : first + hi <= d.size) (hs : d.size < 2305843009213693952) (hr : root <= d.size) :
  Z170 (root : Int) (hi : Int) (first : Int) d.toList t = some ((Sort.siftDown (ltS t) hi first root d).toList, t) := by
 rw [Z170_eq, Z170_b]
 obtain ⟨r, h1, h2⟩ := B979 (hi - root) root d (A11 _) hp hh hs hr
 rw [h1]
 rcases h2 with h2 | h2 <;> rw [h2] <;> rfl
theorem B842 {t : List Int} {hi a : Nat} : ∀ (k : Nat) (d : Array Int), Pl t d -> a + hi <= d.size -> d.size < 2305843009213693952 -> k <= d.size ->
  loop (Z162l4 (a : Int) (hi : Int)) ((k : Int) - 1, d.toList, t) = some ((Sort.heapBuild (ltS t) hi a k d).toList, t) := by
 intro k
 induction k with
 | zero =>
  intro d hp hh hs hk
  refine B4 ?_
  unfold Z162l4 Z162l4_b
  simp only [show ¬ (((0 : Nat) : Int) - 1 ≥ 0) by omega, A9, A4, A1, Sort.heapBuild]
 | succ k ih =>
  intro d hp hh hs hk
  have hpm := B414 (lt := ltS t) (hi := hi) (first := a) (hi - k) k d (A11 _) hh
  have w1 : ((k + 1 : Nat) : Int) - 1 = (k : Int) := by omega
  have w2 : i64.wrap ((k : Int) - 1) = (k : Int) - 1 := w64 (by omega)
  rw [w1, B5 (s' := ((k : Int) - 1, (Sort.siftDown (ltS t) hi a k d).toList, t)), ih _ (hp.perm (A11 _) hpm) (by rw [hpm.1]; exact hh) (by rw [hpm.1]; exact hs) (by rw [hpm.1]; omega)]
  ·rfl
  ·unfold Z162l4 Z162l4_b
   simp only [show ((k : Nat) : Int) ≥ 0 by omega, A7, A6, B492 hp hh hs (show k <= d.size by omega), A3, w2]
theorem B759 {t : List Int} {a : Nat} : ∀ (k : Nat) (d : Array Int), Pl t d -> a + k <= d.size -> d.size < 2305843009213693952 ->
  loop (Z162l8 (a : Int)) ((k : Int) - 1, d.toList, t) = some ((Sort.heapPop (ltS t) a k d).toList, t) := by
 intro k
 induction k with
 | zero =>
  intro d hp hh hs
  refine B4 ?_
  unfold Z162l8 Z162l8_b
  simp only [show ¬ (((0 : Nat) : Int) - 1 ≥ 0) by omega, A9, A4, A1, Sort.heapPop]
 | succ k ih =>
  intro d hp hh hs
  have w1 : ((k + 1 : Nat) : Int) - 1 = (k : Int) := by omega
  have w2 : i64.wrap ((k : Int) - 1) = (k : Int) - 1 := w64 (by omega)
  have w3 : i64.wrap ((a : Int) + (k : Int)) = ((a + k : Nat) : Int) := by rw [w64 (by omega)]; omega
  have s1 : a < d.size := by omega
  have s2 : a + k < d.size := by omega
  have hp' := hp.swp s1 s2
  have hpm := B414 (lt := ltS t) (hi := k) (first := a) k 0 (Sort.swp d a (a + k)) (A11 _) (by rw [szs]; omega)
  have hsf := B492 (hi := k) (first := a) (root := 0) hp' (by rw [szs]; omega) (by rw [szs]; exact hs) (A33 _)
  have z0 : ((0 : Nat) : Int) = 0 := rfl
  rw [z0] at hsf
  rw [szs] at hpm
  rw [w1, B5 (s' := ((k : Int) - 1, (Sort.siftDown (ltS t) k a 0 (Sort.swp d a (a + k))).toList, t)), ih _ (hp'.perm (by rw [szs]; exact A11 _) hpm) (by rw [hpm.1, szs]; omega) (by rw [hpm.1, szs]; exact hs)]
  ·rfl
  ·unfold Z162l8 Z162l8_b
   simp only [show ((k : Nat) : Int) ≥ 0 by omega, A7, A6, w3, w2, A29, A53, A17, A14, A10, s1, s2, B32, A12, B56, hsf, A3]
theorem B457 {lt : Int -> Int -> Bool} {hi a : Nat} : ∀ (k : Nat) (d : Array Int), a + hi <= d.size -> Sort.PermIn 0 d.size d (Sort.heapBuild lt hi a k d)
 | 0, d, _ => Sort.permIn_refl _ _ _
 | k + 1, d, h => by
  have h1 := B414 (lt := lt) (hi := hi) (first := a) (hi - k) k d (A11 _) h
  have h2 := B457 (lt := lt) (hi := hi) (a := a) k (Sort.siftDown lt hi a k d) (by rw [h1.1]; exact h)
  rw [h1.1] at h2
  exact Sort.permIn_trans _ _ _ _ _ h1 h2
theorem B957 {t : List Int} {a b : Nat} {d : Array Int} (hp : Pl t d) (hab : a <= b) (hb : b <= d.size) (hs : d.size < 2305843009213693952) :
  Z162 (a : Int) (b : Int) d.toList t = some ((Sort.heapSort (ltS t) d a b).toList, t) := by
 rw [Z162_eq, Z162_b]
 have w1 : i64.wrap ((b : Int) - (a : Int)) = ((b - a : Nat) : Int) := by rw [w64 (by omega)]; omega
 have w2 : i64.wrap (((b - a : Nat) : Int) - 1) = ((b - a : Nat) : Int) - 1 := w64 (by omega)
 have w3 : i64.wrap ((((b - a : Nat) : Int) - 1).tdiv 2) = (((b - a - 1) / 2 + 1 : Nat) : Int) - 1 := by
  by_cases h : b - a = 0
  ·rw [h]; rfl
  ·rw [B27 (by omega), w64 (by omega)]; omega
 have hpm := B457 (lt := ltS t) (hi := b - a) (a := a) ((b - a - 1) / 2 + 1) d (by omega)
 by_cases h0 : d.size = 0
 ·-- nothing at all: one idle round
  have ea : a = 0 := by omega
  have eb : b = 0 := by omega
  subst ea; subst eb
  have e1 := B492 (t := t) (hi := 0) (first := 0) (root := 0) hp (by omega) hs (A33 _)
  have e2 : Sort.siftDown (ltS t) 0 0 0 d = d := by rw [Sort.siftDown, dif_pos (by omega)]
  rw [e2] at e1
  have z0 : ((0 : Nat) : Int) = 0 := rfl
  rw [z0] at e1
  have e3 : loop (Z162l4 ((0 : Nat) : Int) ((0 - 0 : Nat) : Int)) ((((0 - 0 - 1) / 2 + 1 : Nat) : Int) - 1, d.toList, t) = some (d.toList, t) := by
   rw [B5 (s' := ((-1 : Int), d.toList, t))]
   ·refine B4 ?_
    unfold Z162l4 Z162l4_b
    simp
   ·unfold Z162l4 Z162l4_b
    have : i64.wrap (0 - 1) = -1 := by rw [w64 (by omega)]; omega
    have this2 : i64.wrap (-1) = -1 := w64 (by omega)
    simp [e1, this, this2]
  simp only [w1, w2, w3, e3, A3]
  have e4 := B759 (t := t) (a := 0) 0 d hp (by omega) hs
  simp only [show ((0 - 0 : Nat) : Int) - 1 = ((0 : Nat) : Int) - 1 from rfl, e4, A3]
  simp only [Sort.heapSort, Sort.heapPop, Sort.heapBuild, Nat.sub_self, Nat.zero_sub, Nat.zero_div, A20, e2]
 ·have hz := hpm.1
  have hq := B759 (t := t) (a := a) (b - a) (Sort.heapBuild (ltS t) (b - a) a ((b - a - 1) / 2 + 1) d) (hp.perm (A11 _) hpm) (by omega) (by omega)
  simp only [w1, w2, w3, B842 _ d hp (show a + (b - a) <= d.size by omega) hs (show (b - a - 1) / 2 + 1 <= d.size by omega), A3, hq, Sort.heapSort]
theorem B941 {b : Nat} : ∀ (n i j : Nat) (d : Array Int), j - i <= n -> j < d.size -> d.size < 2305843009213693952 ->
  loop Z165l2 ((i : Int), (j : Int), d.toList) = some (Sort.reverseLoop i j d).toList := by
 intro n
 induction n with
 | zero =>
  intro i j d hn hj hs
  refine B4 ?_
  unfold Z165l2
  rw [Sort.reverseLoop, A8 (show ¬ i < j by omega)]
  simp only [A10, show ¬ i < j by omega, A9, A4, A1]
 | succ n ih =>
  intro i j d hn hj hs
  rw [Sort.reverseLoop]
  by_cases h : i < j
  ·have w1 : i64.wrap ((i : Int) + 1) = ((i + 1 : Nat) : Int) := w64 (by omega)
   have w2 : i64.wrap ((j : Int) - 1) = ((j - 1 : Nat) : Int) := by rw [w64 (by omega)]; omega
   have hi : i < d.size := by omega
   rw [A5 h, B5 (s' := (((i + 1 : Nat) : Int), ((j - 1 : Nat) : Int), (Sort.swp d i j).toList)), ih (i + 1) (j - 1) _ (by omega) (by rw [szs]; omega) (by rw [szs]; exact hs)]
   unfold Z165l2
   simp only [A10, h, A7, A6, w1, w2, A29, A53, A17, A14, hi, hj, B32, A12, B56]
  ·rw [A8 h]
   refine B4 ?_
   unfold Z165l2
   simp only [A10, h, A9, A4, A1]
theorem B998 {t : List Int} {a b : Nat} {d : Array Int} (hab : a < b) (hb : b <= d.size) (hs : d.size < 2305843009213693952) :
  Z165 (a : Int) (b : Int) d.toList t = some ((Sort.reverseRange d a b).toList, t) := by
 rw [Z165_eq, Z165_b]
 have w1 : i64.wrap ((b : Int) - 1) = ((b - 1 : Nat) : Int) := by rw [w64 (by omega)]; omega
 simp only [w1, B941 (b := b) (b - 1 - a) a (b - 1) d (A11 _) (by omega) hs, A3, Sort.reverseRange]
theorem B409 {t : List Int} {a b : Nat} {d : Array Int} {s : Int} (hp : Pl t d) (ha : a < d.size) (hb : b < d.size) :
  ∃ x y s', Z176 (a : Int) (b : Int) d.toList s t = some (((x : Nat) : Int), ((y : Nat) : Int), d.toList, s', t) ∧ (x = a ∧ y = b ∨ x = b ∧ y = a) := by
 rw [Z176_eq, Z176_b]
 simp only [A29, A17, A14, A10, ha, hb, A6, B32, B104 (hp b hb) (hp a ha), A3]
 split
 ·exact ⟨b, a, _, rfl, .inr ⟨rfl, rfl⟩⟩
 ·exact ⟨a, b, _, rfl, .inl ⟨rfl, rfl⟩⟩
theorem B408 {t : List Int} {a b c : Nat} {d : Array Int} {s : Int} (hp : Pl t d) (ha : a < d.size) (hb : b < d.size) (hc : c < d.size) :
  ∃ x s', Z174 (a : Int) (b : Int) (c : Int) d.toList s t = some (((x : Nat) : Int), d.toList, s', t) ∧ (x = a ∨ x = b ∨ x = c) := by
 rw [Z174_eq, Z174_b]
 obtain ⟨x, y, s1, e1, h1⟩ := B409 (s := s) hp ha hb
 have hy : y < d.size := by omega
 obtain ⟨x2, y2, s2, e2, h2⟩ := B409 (s := s1) hp hy hc
 have hx : x < d.size := by omega
 have hx2 : x2 < d.size := by omega
 obtain ⟨x3, y3, s3, e3, h3⟩ := B409 (s := s2) hp hx hx2
 simp only [e1, e2, e3, A3]
 exact ⟨y3, s3, rfl, by omega⟩
theorem B273 {t : List Int} {a : Nat} {d : Array Int} {s : Int} (hp : Pl t d) (h0 : 0 < a) (ha : a + 1 < d.size) (hs : d.size < 2305843009213693952) :
  ∃ x s', Z173 (a : Int) d.toList s t = some (((x : Nat) : Int), d.toList, s', t) ∧ (a - 1 <= x ∧ x <= a + 1) := by
 rw [Z173_eq, Z173_b]
 have w1 : i64.wrap ((a : Int) - 1) = ((a - 1 : Nat) : Int) := by rw [w64 (by omega)]; omega
 have w2 : i64.wrap ((a : Int) + 1) = ((a + 1 : Nat) : Int) := w64 (by omega)
 obtain ⟨x, s1, e1, h1⟩ := B408 (s := s) hp (show a - 1 < d.size by omega) (show a < d.size by omega) ha
 simp only [w1, w2, e1, A3]
 exact ⟨x, s1, rfl, by omega⟩
theorem B831 {t : List Int} {a b : Nat} {d : Array Int} (hp : Pl t d) (hab : a < b) (hb : b <= d.size) (hs : d.size < 2305843009213693952) :
  ∃ x h, Z164 (a : Int) (b : Int) d.toList t = some (((x : Nat) : Int), h, d.toList, t) ∧ a <= x ∧ x < b := by
 rw [Z164_eq, Z164_b]
 have w1 : i64.wrap ((b : Int) - (a : Int)) = ((b - a : Nat) : Int) := by rw [w64 (by omega)]; omega
 have w2 : i64.wrap (((b - a : Nat) : Int).tdiv 4) = (((b - a) / 4 : Nat) : Int) := by rw [B27 (by omega), w64 (by omega)]; omega
 have w3 : i64.wrap ((((b - a) / 4 : Nat) : Int) * 1) = (((b - a) / 4 : Nat) : Int) := by rw [w64 (by omega)]; omega
 have w4 : i64.wrap ((((b - a) / 4 : Nat) : Int) * 2) = (((b - a) / 4 * 2 : Nat) : Int) := by rw [w64 (by omega)]; omega
 have w5 : i64.wrap ((((b - a) / 4 : Nat) : Int) * 3) = (((b - a) / 4 * 3 : Nat) : Int) := by rw [w64 (by omega)]; omega
 have w6 : i64.wrap ((a : Int) + (((b - a) / 4 : Nat) : Int)) = ((a + (b - a) / 4 : Nat) : Int) := by rw [w64 (by omega)]; omega
 have w7 : i64.wrap ((a : Int) + (((b - a) / 4 * 2 : Nat) : Int)) = ((a + (b - a) / 4 * 2 : Nat) : Int) := by rw [w64 (by omega)]; omega
 have w8 : i64.wrap ((a : Int) + (((b - a) / 4 * 3 : Nat) : Int)) = ((a + (b - a) / 4 * 3 : Nat) : Int) := by rw [w64 (by omega)]; omega
 -- what is B317 the choice
 have last : ∀ (x : Nat) (s : Int), a <= x -> x < b -> ∃ x' h, (if (decide (s = 0)) = true then some (((x : Nat) : Int), (1 : Int), d.toList, t) else if (decide (s = 12)) = true then some (((x : Nat) : Int), 2, d.toList, t) else some (((x : Nat) : Int), 0, d.toList, t)) = some (((x' : Nat) : Int), h, d.toList, t) ∧ a <= x' ∧ x' < b := by
  intro x s h1 h2
  split
  ·exact ⟨x, _, rfl, h1, h2⟩
  ·split
   ·exact ⟨x, _, rfl, h1, h2⟩
   ·exact ⟨x, _, rfl, h1, h2⟩
 simp only [w1, w2, w3, w4, w5, w6, w7, w8]
 by_cases h8 : 8 <= b - a
 ·have g8 : decide (((b - a : Nat) : Int) ≥ 8) = true := by simp only [A23]; omega
  simp only [g8, A6]
  by_cases h50 : 50 <= b - a
  ·have g50 : decide (((b - a : Nat) : Int) ≥ 50) = true := by simp only [A23]; omega
   obtain ⟨x1, s1, e1, k1⟩ := B273 (s := 0) hp (show 0 < a + (b - a) / 4 by omega) (show a + (b - a) / 4 + 1 < d.size by omega) hs
   obtain ⟨x2, s2, e2, k2⟩ := B273 (s := s1) hp (show 0 < a + (b - a) / 4 * 2 by omega) (show a + (b - a) / 4 * 2 + 1 < d.size by omega) hs
   obtain ⟨x3, s3, e3, k3⟩ := B273 (s := s2) hp (show 0 < a + (b - a) / 4 * 3 by omega) (show a + (b - a) / 4 * 3 + 1 < d.size by omega) hs
   obtain ⟨x, s, e, k⟩ := B408 (s := s3) hp (show x1 < d.size by omega) (show x2 < d.size by omega) (show x3 < d.size by omega)
   simp only [g50, A6, e1, e2, e3, e, A3]
   exact last x s (by omega) (by omega)
  ·have g50 : decide (((b - a : Nat) : Int) ≥ 50) = false := by simp only [A60]; omega
   obtain ⟨x, s, e, k⟩ := B408 (s := 0) hp (show a + (b - a) / 4 < d.size by omega) (show a + (b - a) / 4 * 2 < d.size by omega) (show a + (b - a) / 4 * 3 < d.size by omega)
   simp only [g50, A4, A1, e, A3]
   exact last x s (by omega) (by omega)
 ·have g8 : decide (((b - a : Nat) : Int) ≥ 8) = false := by simp only [A60]; omega
  simp only [g8, A4, A1, A3]
  exact last _ 0 (by omega) (by omega)
theorem B958 (r : Int) (m : Nat) (hm : m < 18446744073709551616) : ∃ k : Nat, iand .u64 r (m : Int) = (k : Int) ∧ k <= m := by
 unfold iand
 refine ⟨(BitVec.ofInt 64 r &&& BitVec.ofInt 64 (m : Int)).toNat, ?_, ?_⟩
 ·rw [wu64]
  have := (BitVec.ofInt 64 r &&& BitVec.ofInt 64 (m : Int)).isLt
  show (((BitVec.ofInt 64 r &&& BitVec.ofInt 64 (m : Int)).toNat : Nat) : Int) % 18446744073709551616 = _
  omega
 ·rw [BitVec.toNat_and]
  refine A78 Nat.and_le_right ?_
  rw [BitVec.toNat_ofInt]
  have : ((m : Int) % (2 ^ 64 : Nat)).toNat = m := by omega
  omega
theorem B891 {t : List Int} {a b : Nat} {d : Array Int} (hab : a <= b) (hb : b <= d.size) (hs : d.size < 16777216) :
  ∃ e : Array Int, Z163 (a : Int) (b : Int) d.toList t = some (e.toList, t) ∧ Sort.PermIn a b d e := by
 rw [Z163_eq, Z163_b]
 have w1 : i64.wrap ((b : Int) - (a : Int)) = ((b - a : Nat) : Int) := by rw [w64 (by omega)]; omega
 simp only [w1]
 by_cases h8 : 8 <= b - a
 ·have g8 : decide (((b - a : Nat) : Int) ≥ 8) = true := by simp only [A23]; omega
  have u1 : u64.wrap ((b - a : Nat) : Int) = ((b - a : Nat) : Int) := by rw [wu64]; omega
  obtain ⟨L, l1, l2, l3⟩ := B522 (x := ((b - a : Nat) : Int)) (by omega) (by omega)
  have hL : ((2 : Nat) ^ L : Nat) <= 2 * (b - a) := by
   obtain ⟨g1, g2, _⟩ := l2
   have e : (2 : Nat) ^ L = 2 ^ (L - 1) * 2 := by rw [← Nat.pow_succ]; congr 1; omega
   have : ((2 ^ (L - 1) : Nat) : Int) <= ((b - a : Nat) : Int) := by exact_mod_cast g2
   omega
  have hL0 : 0 < (2 : Nat) ^ L := Nat.pow_pos (by decide)
  have n1 : Z171 ((b - a : Nat) : Int) = some (((2 ^ L : Nat) : Nat) : Int) := by
   rw [Z171_eq, Z171_b]
   have : ishl .u64 1 (L : Int) = (((2 ^ L : Nat) : Nat) : Int) := by
    unfold ishl
    have h64 : IntKind.u64.bits = 64 := rfl
    rw [h64, wu64, A12, show min L 64 = L by omega, Int.one_mul]
    have : (2 : Int) ^ L = (((2 ^ L : Nat) : Nat) : Int) := by push_cast; rfl
    rw [this]; omega
   simp only [u1, l1, A3, show ¬ ((L : Nat) : Int) < 0 by omega, A1, this]
  have w2 : i64.wrap (((b - a : Nat) : Int).tdiv 4) = (((b - a) / 4 : Nat) : Int) := by rw [B27 (by omega), w64 (by omega)]; omega
  have w4 : i64.wrap ((((b - a) / 4 : Nat) : Int) * 2) = (((b - a) / 4 * 2 : Nat) : Int) := by rw [w64 (by omega)]; omega
  have w7 : i64.wrap ((a : Int) + (((b - a) / 4 * 2 : Nat) : Int)) = ((a + (b - a) / 4 * 2 : Nat) : Int) := by rw [w64 (by omega)]; omega
  have w8 : i64.wrap (((a + (b - a) / 4 * 2 : Nat) : Int) - 1) = ((a + (b - a) / 4 * 2 - 1 : Nat) : Int) := by rw [w64 (by omega)]; omega
  have w9 : i64.wrap (((a + (b - a) / 4 * 2 : Nat) : Int) + 1) = ((a + (b - a) / 4 * 2 + 1 : Nat) : Int) := w64 (by omega)
  simp only [g8, A6, u1, n1, A3, w2, w4, w7, w8]
  obtain ⟨o, e1, e, r, e2, e3⟩ := B680 (f := Z163l5 (a : Int) ((b - a : Nat) : Int) ((2 ^ L : Nat) : Int))
   (fun s => ∃ (i : Nat) (e : Array Int) (r : Int), s = ((i : Int), e.toList, r) ∧ a <= i ∧ i <= a + (b - a) / 4 * 2 + 2 ∧ Sort.PermIn a b d e)
   (fun s => ((a + (b - a) / 4 * 2 + 2 : Nat) - s.1).toNat) (fun o => ∃ (e : Array Int) (r : Int), o = (e.toList, r) ∧ Sort.PermIn a b d e)
   (fun s hP => by
    obtain ⟨i, e, r, rfl, h1, h2, h3⟩ := hP
    have se : e.size = d.size := h3.1
    by_cases hi : i <= a + (b - a) / 4 * 2 + 1
    ·refine .inl ?_
     obtain ⟨r', er⟩ : ∃ r', Z172 r = some (r', r') := by rw [Z172_eq, Z172_b]; exact ⟨_, rfl⟩
     have u2 : u64.wrap ((((2 ^ L : Nat) : Nat) : Int) - 1) = ((2 ^ L - 1 : Nat) : Int) := by rw [wu64]; omega
     obtain ⟨k, k1, k2⟩ := B958 r' (2 ^ L - 1) (by omega)
     have w10 : i64.wrap ((k : Nat) : Int) = (k : Int) := w64 (by omega)
     have w11 : i64.wrap (((i : Nat) : Int) + 1) = ((i + 1 : Nat) : Int) := w64 (by omega)
     -- the other place
     obtain ⟨o, o1, o2⟩ : ∃ o : Nat, ((if (decide (((k : Nat) : Int) ≥ ((b - a : Nat) : Int))) = true then some (i64.wrap (((k : Nat) : Int) - ((b - a : Nat) : Int))) else some ((k : Nat) : Int)) : Option Int) = some ((o : Nat) : Int) ∧ o < b - a := by
      by_cases hk : b - a <= k
      ·refine ⟨k - (b - a), ?_, by omega⟩
       rw [A5 (by simp only [A23]; omega), w64 (by omega)]; congr 1; omega
      ·refine ⟨k, ?_, by omega⟩
       rw [A8 (by simp only [A23]; omega)]
     have w12 : i64.wrap ((a : Int) + ((o : Nat) : Int)) = ((a + o : Nat) : Int) := by rw [w64 (by omega)]; omega
     have s1 : i < e.size := by omega
     have s2 : a + o < e.size := by omega
     have hi' : ((i : Nat) : Int) <= ((a + (b - a) / 4 * 2 + 1 : Nat) : Int) := by omega
     refine ⟨(((i + 1 : Nat) : Int), (Sort.swp e i (a + o)).toList, r'), ?_, ⟨i + 1, _, r', rfl, by omega, by omega, Sort.permIn_trans _ _ _ _ _ h3 (Sort.swp_permIn e a b i (a + o) h1 (by omega) (by omega) (by omega) (by omega))⟩, ?_⟩
     ·unfold Z163l5 Z163l5_b
      simp only [w2, w4, w7, w9, hi', A7, A6, er, A3, u2, k1, w10, o1, w12, w11, A29, A53, A17, A14, A10, s1, s2, B32, A12, B56]
     ·show ((a + (b - a) / 4 * 2 + 2 : Nat) - ((i + 1 : Nat) : Int)).toNat < ((a + (b - a) / 4 * 2 + 2 : Nat) - ((i : Nat) : Int)).toNat
      omega
    ·refine .inr ⟨(e.toList, r), ?_, e, r, rfl, h3⟩
     unfold Z163l5 Z163l5_b
     simp only [w2, w4, w7, w9, A56, hi, A9, A4, A1])
   (((a + (b - a) / 4 * 2 - 1 : Nat) : Int), d.toList, ((b - a : Nat) : Int)) ⟨_, d, _, rfl, by omega, by omega, Sort.permIn_refl _ _ _⟩
  simp only [e1, e2, A3]
  exact ⟨e, rfl, e3⟩
 ·have g8 : decide (((b - a : Nat) : Int) ≥ 8) = false := by simp only [A60]; omega
  simp only [g8, A4, A1]
  exact ⟨d, rfl, Sort.permIn_refl _ _ _⟩
theorem B944 {t : List Int} {b : Nat} {d : Array Int} (hp : Pl t d) (hb : b <= d.size) (hs : d.size < 16777216) : ∀ (n i : Nat), b - i <= n -> 1 <= i -> i <= b ->
  loop (Z166l5 (b : Int) d.toList) ((i : Int), t) = some (((Sort.scanSorted (ltS t) d b i : Nat) : Int), t) ∧ i <= Sort.scanSorted (ltS t) d b i ∧ Sort.scanSorted (ltS t) d b i <= b := by
 intro n
 induction n with
 | zero =>
  intro i hn h1 hi
  rw [Sort.scanSorted]
  simp only [show ¬ i < b by omega, A9, A63, A4, A1]
  refine ⟨B4 ?_, A11 _, hi⟩
  unfold Z166l5 Z166l5_b
  simp only [A10, show ¬ i < b by omega, A9, A4, A1]
 | succ n ih =>
  intro i hn h1 hi
  by_cases h : i < b
  ·have w1 : i64.wrap ((i : Int) - 1) = ((i - 1 : Nat) : Int) := by rw [w64 (by omega)]; omega
   have w2 : i64.wrap ((i : Int) + 1) = ((i + 1 : Nat) : Int) := w64 (by omega)
   have s1 : i < d.size := by omega
   have s2 : i - 1 < d.size := by omega
   have hc := B104 (hp i s1) (hp (i - 1) s2)
   rw [Sort.scanSorted]
   cases hl : ltS t d[i]! d[i - 1]! with
   | true =>
    have hl' : decide (cmpI (sfx t d[i]!) (sfx t d[i - 1]!) < 0) = true := hl
    simp only [A19, A118, A4, A1]
    refine ⟨B4 ?_, A11 _, hi⟩
    unfold Z166l5 Z166l5_b
    simp only [A10, h, A7, A6, w1, A29, A17, A14, s1, s2, B32, hc, A3, hl', A19, A4, A1]
   | false =>
    have hl' : decide (cmpI (sfx t d[i]!) (sfx t d[i - 1]!) < 0) = false := hl
    simp only [h, A7, A55, A106, A6]
    obtain ⟨g1, g2, g3⟩ := ih (i + 1) (by omega) (by omega) (by omega)
    refine ⟨?_, by omega, g3⟩
    rw [B5 (s' := (((i + 1 : Nat) : Int), t)), g1]
    unfold Z166l5 Z166l5_b
    simp only [A10, h, A7, A6, w1, w2, A29, A17, A14, s1, s2, B32, hc, A3, hl', A55]
  ·rw [Sort.scanSorted]
   simp only [h, A9, A63, A4, A1]
   refine ⟨B4 ?_, A11 _, hi⟩
   unfold Z166l5 Z166l5_b
   simp only [A10, h, A9, A4, A1]
theorem B1000 {t : List Int} : ∀ (j : Nat) (d : Array Int), Pl t d -> j < d.size -> d.size < 16777216 ->
  loop Z166l14 ((j : Int), d.toList, t) = some ((Sort.shiftDown (ltS t) j d).toList, t) ∧ Sort.PermIn 0 d.size d (Sort.shiftDown (ltS t) j d) := by
 intro j
 induction j with
 | zero =>
  intro d hp hj hs
  refine ⟨B4 ?_, Sort.permIn_refl _ _ _⟩
  unfold Z166l14 Z166l14_b
  simp only [show ¬ (((0 : Nat) : Int) ≥ 1) by omega, A9, A4, A1, Sort.shiftDown]
 | succ j ih =>
  intro d hp hj hs
  have w1 : i64.wrap (((j + 1 : Nat) : Int) - 1) = (j : Int) := by rw [w64 (by omega)]; omega
  have h1 : ((j + 1 : Nat) : Int) ≥ 1 := by omega
  have s2 : j < d.size := by omega
  have hc := B104 (hp (j + 1) hj) (hp j s2)
  rw [Sort.shiftDown]
  cases hl : ltS t d[j + 1]! d[j]! with
  | false =>
   have hl' : decide (cmpI (sfx t d[j + 1]!) (sfx t d[j]!) < 0) = false := hl
   simp only [A55, A6]
   refine ⟨B4 ?_, Sort.permIn_refl _ _ _⟩
   unfold Z166l14 Z166l14_b
   simp only [h1, A7, A6, w1, A29, A17, A14, A10, hj, s2, B32, hc, A3, hl', A55]
  | true =>
   have hl' : decide (cmpI (sfx t d[j + 1]!) (sfx t d[j]!) < 0) = true := hl
   simp only [A19, A4, A1]
   obtain ⟨g1, g2⟩ := ih (Sort.swp d (j + 1) j) (hp.swp hj s2) (by rw [szs]; exact s2) (by rw [szs]; exact hs)
   rw [szs] at g2
   refine ⟨?_, Sort.permIn_trans _ _ _ _ _ (Sort.swp_permIn d 0 d.size (j + 1) j (A33 _) hj (A33 _) s2 (A11 _)) g2⟩
   rw [B5 (s' := ((j : Int), (Sort.swp d (j + 1) j).toList, t)), g1]
   unfold Z166l14 Z166l14_b
   simp only [h1, A7, A6, w1, A29, A53, A17, A14, A10, hj, s2, B32, hc, A3, hl', A19, A4, A1, A12, B56]
theorem B1001 {t : List Int} {b : Nat} : ∀ (n j : Nat) (d : Array Int), b - j <= n -> 1 <= j -> Pl t d -> b <= d.size -> d.size < 16777216 ->
  loop (Z166l20 (b : Int)) ((j : Int), d.toList, t) = some ((Sort.shiftUp (ltS t) b j d).toList, t) ∧ Sort.PermIn 0 d.size d (Sort.shiftUp (ltS t) b j d) := by
 intro n
 induction n with
 | zero =>
  intro j d hn h1 hp hb hs
  rw [Sort.shiftUp, A8 (by omega)]
  refine ⟨B4 ?_, Sort.permIn_refl _ _ _⟩
  unfold Z166l20 Z166l20_b
  simp only [A10, show ¬ j < b by omega, A9, A4, A1]
 | succ n ih =>
  intro j d hn h1 hp hb hs
  rw [Sort.shiftUp]
  by_cases h : j < b
  ·rw [A5 h]
   have w1 : i64.wrap ((j : Int) - 1) = ((j - 1 : Nat) : Int) := by rw [w64 (by omega)]; omega
   have w2 : i64.wrap ((j : Int) + 1) = ((j + 1 : Nat) : Int) := w64 (by omega)
   have s1 : j < d.size := by omega
   have s2 : j - 1 < d.size := by omega
   have hc := B104 (hp j s1) (hp (j - 1) s2)
   cases hl : ltS t d[j]! d[j - 1]! with
   | false =>
    have hl' : decide (cmpI (sfx t d[j]!) (sfx t d[j - 1]!) < 0) = false := hl
    simp only [A55, A6]
    refine ⟨B4 ?_, Sort.permIn_refl _ _ _⟩
    unfold Z166l20 Z166l20_b
    simp only [A10, h, A7, A6, w1, A29, A17, A14, s1, s2, B32, hc, A3, hl', A55]
   | true =>
    have hl' : decide (cmpI (sfx t d[j]!) (sfx t d[j - 1]!) < 0) = true := hl
    simp only [A19, A4, A1]
    obtain ⟨g1, g2⟩ := ih (j + 1) (Sort.swp d j (j - 1)) (by omega) (by omega) (hp.swp s1 s2) (by rw [szs]; exact hb) (by rw [szs]; exact hs)
    rw [szs] at g2
    refine ⟨?_, Sort.permIn_trans _ _ _ _ _ (Sort.swp_permIn d 0 d.size j (j - 1) (A33 _) s1 (A33 _) s2 (A11 _)) g2⟩
    rw [B5 (s' := (((j + 1 : Nat) : Int), (Sort.swp d j (j - 1)).toList, t)), g1]
    unfold Z166l20 Z166l20_b
    simp only [A10, h, A7, A6, w1, w2, A29, A53, A17, A14, s1, s2, B32, hc, A3, hl', A19, A4, A1, A12, B56]
  ·rw [A8 h]
   refine ⟨B4 ?_, Sort.permIn_refl _ _ _⟩
   unfold Z166l20 Z166l20_b
   simp only [A10, h, A9, A4, A1]
theorem B976 {t : List Int} {a b : Nat} (hab : a < b) : ∀ (s i : Nat) (d : Array Int), s <= 5 -> a < i -> i <= b -> Pl t d -> b <= d.size -> d.size < 16777216 ->
  ∃ r, loop (Z166l3 (a : Int) (b : Int)) ((i : Int), 5 - (s : Int), d.toList, t) = some r ∧
   (r = .inr ((Sort.partialIns (ltS t) a b s i d).2, (Sort.partialIns (ltS t) a b s i d).1.toList, t) ∨ (Sort.partialIns (ltS t) a b s i d).2 = false ∧ r = .inl ((Sort.partialIns (ltS t) a b s i d).1.toList, t)) := by
 intro s
 induction s with
 | zero =>
  intro i d hs5 h1 hi hp hb hs
  refine ⟨_, B4 (a := .inl (d.toList, t)) ?_, .inr ⟨rfl, rfl⟩⟩
  unfold Z166l3 Z166l3_b
  simp only [show ¬ (5 - ((0 : Nat) : Int) < 5) by omega, A9, A4, A1]
 | succ s ih =>
  intro i d hs5 h1 hi hp hb hs
  obtain ⟨c1, c2, c3⟩ := B944 hp hb hs (b - i) i (A11 _) (by omega) hi
  rw [Sort.partialIns]
  generalize Sort.scanSorted (ltS t) d b i = k at c1 c2 c3 ⊢
  have j5 : 5 - ((s + 1 : Nat) : Int) < 5 := by omega
  by_cases hk : k = b
  ·subst hk
   simp only [A6]
   refine ⟨_, B4 (a := .inr (true, d.toList, t)) ?_, .inl rfl⟩
   unfold Z166l3 Z166l3_b
   simp only [j5, A7, A6, c1, A3]
  have hk' : ¬ ((k : Nat) : Int) = (b : Int) := by omega
  have wl : i64.wrap ((b : Int) - (a : Int)) = ((b - a : Nat) : Int) := by rw [w64 (by omega)]; omega
  by_cases h50 : b - a < 50
  ·have g50 : decide (((b - a : Nat) : Int) < 50) = true := by simp only [A23]; omega
   simp only [hk, A1, h50, A6]
   refine ⟨_, B4 (a := .inr (false, d.toList, t)) ?_, .inl rfl⟩
   unfold Z166l3 Z166l3_b
   simp only [j5, A7, A6, c1, A3, hk', A9, A4, A1, wl, g50]
  have g50 : decide (((b - a : Nat) : Int) < 50) = false := by simp only [A60]; omega
  simp only [hk, A1, h50]
  have w1 : i64.wrap ((k : Int) - 1) = ((k - 1 : Nat) : Int) := by rw [w64 (by omega)]; omega
  have w2 : i64.wrap ((k : Int) + 1) = ((k + 1 : Nat) : Int) := w64 (by omega)
  have w3 : i64.wrap ((k : Int) - (a : Int)) = ((k - a : Nat) : Int) := by rw [w64 (by omega)]; omega
  have w4 : i64.wrap ((b : Int) - (k : Int)) = ((b - k : Nat) : Int) := by rw [w64 (by omega)]; omega
  have w5 : i64.wrap (5 - ((s + 1 : Nat) : Int) + 1) = 5 - (s : Int) := by rw [w64 (by omega)]; omega
  have s1 : k < d.size := by omega
  have s2 : k - 1 < d.size := by omega
  have p1 := hp.swp (i := k) (j := k - 1) s1 s2
  have z1 : (Sort.swp d k (k - 1)).size = d.size := szs ..
  obtain ⟨d1, hd1⟩ : ∃ d1, Sort.swp d k (k - 1) = d1 := ⟨_, rfl⟩
  rw [hd1] at p1 z1 ⊢
  -- down
  obtain ⟨d2, q1, q2, q3⟩ : ∃ d2 : Array Int, ((if (decide (((k - a : Nat) : Int) ≥ 2)) = true then (loop Z166l14 (((k - 1 : Nat) : Int), d1.toList, t)).bind (fun p50 => some (p50.1, p50.2)) else some (d1.toList, t)) : Option (List Int × List Int)) = some (d2.toList, t) ∧ d2 = (if k - a ≥ 2 then Sort.shiftDown (ltS t) (k - 1) d1 else d1) ∧ Sort.PermIn 0 d1.size d1 d2 := by
   by_cases h2 : k - a ≥ 2
   ·obtain ⟨y1, y2⟩ := B1000 (k - 1) d1 p1 (by omega) (by omega)
    refine ⟨_, ?_, (A5 h2).symm, y2⟩
    rw [A5 (by simp only [A23]; omega), y1]; rfl
   ·refine ⟨_, ?_, (A8 h2).symm, Sort.permIn_refl _ _ _⟩
    rw [A8 (by simp only [A23]; omega)]
  rw [← q2]
  have p2 := p1.perm (A11 _) q3
  have z2 : d2.size = d.size := q3.1.trans z1
  by_cases h3 : b - k ≥ 2
  ·obtain ⟨y1, y2⟩ := B1001 (b := b) (b - (k + 1)) (k + 1) d2 (A11 _) (by omega) p2 (by omega) (by omega)
   have g3 : decide (((b - k : Nat) : Int) ≥ 2) = true := by simp only [A23]; omega
   rw [A5 h3]
   have p3 := p2.perm (A11 _) y2
   have z3 := y2.1
   generalize Sort.shiftUp (ltS t) b (k + 1) d2 = d3 at y1 y2 p3 z3 ⊢
   obtain ⟨r, r1, r2⟩ := ih k d3 (by omega) (by omega) c3 p3 (by omega) (by omega)
   refine ⟨r, ?_, r2⟩
   rw [B5 (s' := ((k : Int), 5 - (s : Int), d3.toList, t)), r1]
   unfold Z166l3 Z166l3_b
   simp only [j5, A7, A6, c1, A3, hk', A9, A4, A1, wl, g50, w1, A29, A53, A17, A14, A10, s1, s2, B32, A12, B56, hd1, w3, q1, w4, g3, w2, y1, w5]
  ·have g3 : decide (((b - k : Nat) : Int) ≥ 2) = false := by simp only [A60]; omega
   rw [A8 h3]
   obtain ⟨r, r1, r2⟩ := ih k d2 (by omega) (by omega) c3 p2 (by omega) (by omega)
   refine ⟨r, ?_, r2⟩
   rw [B5 (s' := ((k : Int), 5 - (s : Int), d2.toList, t)), r1]
   unfold Z166l3 Z166l3_b
   simp only [j5, A7, A6, c1, A3, hk', A9, A4, A1, wl, g50, w1, A29, A53, A17, A14, A10, s1, s2, B32, A12, B56, hd1, w3, q1, w4, g3, w2, w5]
theorem B692 {t : List Int} {a b : Nat} {d : Array Int} (hp : Pl t d) (hab : a < b) (hb : b <= d.size) (hs : d.size < 16777216) :
  Z166 (a : Int) (b : Int) d.toList t = some ((Sort.partialInsertionSort (ltS t) d a b).2, (Sort.partialInsertionSort (ltS t) d a b).1.toList, t) := by
 rw [Z166_eq, Z166_b]
 have w1 : i64.wrap ((a : Int) + 1) = ((a + 1 : Nat) : Int) := w64 (by omega)
 obtain ⟨r, r1, r2⟩ := B976 (t := t) hab 5 (a + 1) d (A11 _) (by omega) (by omega) hp hb hs
 have z5 : (5 : Int) - ((5 : Nat) : Int) = 0 := rfl
 rw [z5] at r1
 simp only [w1, r1, A3, Sort.partialInsertionSort]
 rcases r2 with r2 | ⟨r2, r3⟩
 ·rw [r2]; rfl
 ·rw [r3, r2]; rfl
section
variable {t : List Int} {d : Array Int} {p : Int -> Bool} {f : Int × List Int -> Option ((Int × List Int) ⊕ (Int × List Int))}
theorem B366 {j : Nat}
  (hf : ∀ i : Nat, i <= j -> f ((i : Int), t) = if p d[i]! = true then some (.inl (((i + 1 : Nat) : Int), t)) else some (.inr ((i : Int), t)))
  (hg : ∀ i : Nat, j < i -> f ((i : Int), t) = some (.inr ((i : Int), t))) : ∀ (n i : Nat), j + 1 - i <= n -> loop f ((i : Int), t) = some (((Sort.scanUp p d j i : Nat) : Int), t) := by
 intro n
 induction n with
 | zero =>
  intro i hn
  rw [Sort.scanUp]
  simp only [show ¬ i <= j by omega, A9, A63, A4, A1]
  exact B4 (hg i (by omega))
 | succ n ih =>
  intro i hn
  rw [Sort.scanUp]
  by_cases h : i <= j
  ·have := hf i h
   cases hl : p d[i]! with
   | false =>
    simp only [A118, A4, A1]
    rw [hl] at this
    exact B4 this
   | true =>
    simp only [h, A7, A106, A6]
    rw [hl] at this
    rw [B5 this]
    exact ih (i + 1) (by omega)
  ·simp only [h, A9, A63, A4, A1]
   exact B4 (hg i (by omega))
theorem B280 {i : Nat} (hi : 1 <= i)
  (hf : ∀ j : Nat, i <= j -> j < d.size -> f ((j : Int), t) = if p d[j]! = true then some (.inl ((j : Int) - 1, t)) else some (.inr ((j : Int), t)))
  (hg : ∀ j : Nat, j < i -> f ((j : Int), t) = some (.inr ((j : Int), t))) : ∀ j : Nat, j < d.size -> loop f ((j : Int), t) = some (((Sort.scanDown p d i j : Nat) : Int), t) := by
 intro j
 induction j with
 | zero =>
  intro hj
  exact B4 (hg 0 (by omega))
 | succ j ih =>
  intro hj
  rw [Sort.scanDown]
  by_cases h : i <= j + 1
  ·have := hf (j + 1) h hj
   cases hl : p d[j + 1]! with
   | false =>
    simp only [A118, A4, A1]
    rw [hl] at this
    exact B4 this
   | true =>
    simp only [h, A7, A106, A6]
    rw [hl, show ((j + 1 : Nat) : Int) - 1 = (j : Int) by omega] at this
    rw [B5 this]
    exact ih (by omega)
  ·simp only [h, A9, A63, A4, A1]
   exact B4 (hg (j + 1) (by omega))
end
theorem B542 {t : List Int} {a : Nat} {d : Array Int} (hp : Pl t d) (ha : a < d.size) (hs : d.size < 16777216) {j : Nat} (hj : j < d.size) (i : Nat) :
  loop (Z168l3 (a : Int) (j : Int) d.toList) ((i : Int), t) = some (((Sort.scanUp (fun x => !ltS t d[a]! x) d j i : Nat) : Int), t) := by
 refine B366 (fun i h => ?_) (fun i h => ?_) (j + 1 - i) i (A11 _)
 ·have w2 : i64.wrap ((i : Int) + 1) = ((i + 1 : Nat) : Int) := w64 (by omega)
  have s1 : i < d.size := by omega
  have hc := B104 (hp a ha) (hp i s1)
  unfold Z168l3 Z168l3_b
  simp only [A56, h, A7, A6, w2, A29, A17, A14, A10, s1, ha, B32, hc, A3]
  rfl
 ·unfold Z168l3 Z168l3_b
  simp only [A56, show ¬ i <= j by omega, A9, A4, A1]
theorem B413 {t : List Int} {a : Nat} {d : Array Int} (hp : Pl t d) (ha : a < d.size) (hs : d.size < 16777216) {i : Nat} (hi : 1 <= i) (j : Nat) (hj : j < d.size) :
  loop (Z168l5 (a : Int) d.toList (i : Int)) ((j : Int), t) = some (((Sort.scanDown (fun x => ltS t d[a]! x) d i j : Nat) : Int), t) := by
 refine B280 hi (fun j h hj => ?_) (fun j h => ?_) j hj
 ·have w2 : i64.wrap ((j : Int) - 1) = (j : Int) - 1 := w64 (by omega)
  have s1 : j < d.size := by omega
  have hc := B104 (hp a ha) (hp j s1)
  unfold Z168l5 Z168l5_b
  simp only [A56, h, A7, A6, w2, A29, A17, A14, A10, s1, ha, B32, hc, A3]
  rfl
 ·unfold Z168l5 Z168l5_b
  simp only [A56, show ¬ i <= j by omega, A9, A4, A1]
theorem B810 {t : List Int} {a : Nat} {d : Array Int} (hp : Pl t d) (ha : a < d.size) (hs : d.size < 16777216) {j : Nat} (hj : j < d.size) (i : Nat) :
  loop (Z169l3 (a : Int) d.toList (j : Int)) ((i : Int), t) = some (((Sort.scanUp (fun x => ltS t x d[a]!) d j i : Nat) : Int), t) := by
 refine B366 (fun i h => ?_) (fun i h => ?_) (j + 1 - i) i (A11 _)
 ·have w2 : i64.wrap ((i : Int) + 1) = ((i + 1 : Nat) : Int) := w64 (by omega)
  have s1 : i < d.size := by omega
  have hc := B104 (hp i s1) (hp a ha)
  unfold Z169l3 Z169l3_b
  simp only [A56, h, A7, A6, w2, A29, A17, A14, A10, s1, ha, B32, hc, A3]
  rfl
 ·unfold Z169l3 Z169l3_b
  simp only [A56, show ¬ i <= j by omega, A9, A4, A1]
theorem B702 {t : List Int} {a : Nat} {d : Array Int} (hp : Pl t d) (ha : a < d.size) (hs : d.size < 16777216) {i : Nat} (hi : 1 <= i) (j : Nat) (hj : j < d.size) :
  loop (Z169l5 (a : Int) d.toList (i : Int)) ((j : Int), t) = some (((Sort.scanDown (fun x => !ltS t x d[a]!) d i j : Nat) : Int), t) := by
 refine B280 hi (fun j h hj => ?_) (fun j h => ?_) j hj
 ·have w2 : i64.wrap ((j : Int) - 1) = (j : Int) - 1 := w64 (by omega)
  have s1 : j < d.size := by omega
  have hc := B104 (hp j s1) (hp a ha)
  unfold Z169l5 Z169l5_b
  simp only [A56, h, A7, A6, w2, A29, A17, A14, A10, s1, ha, B32, hc, A3]
  rfl
 ·unfold Z169l5 Z169l5_b
  simp only [A56, show ¬ i <= j by omega, A9, A4, A1]
theorem B471 {t : List Int} {a : Nat} {d : Array Int} (hp : Pl t d) (ha : a < d.size) (hs : d.size < 16777216) {j : Nat} (hj : j < d.size) (i : Nat) :
  loop (Z169l13 (a : Int) (j : Int) d.toList) ((i : Int), t) = some (((Sort.scanUp (fun x => ltS t x d[a]!) d j i : Nat) : Int), t) := by
 refine B366 (fun i h => ?_) (fun i h => ?_) (j + 1 - i) i (A11 _)
 ·have w2 : i64.wrap ((i : Int) + 1) = ((i + 1 : Nat) : Int) := w64 (by omega)
  have s1 : i < d.size := by omega
  have hc := B104 (hp i s1) (hp a ha)
  unfold Z169l13 Z169l13_b
  simp only [A56, h, A7, A6, w2, A29, A17, A14, A10, s1, ha, B32, hc, A3]
  rfl
 ·unfold Z169l13 Z169l13_b
  simp only [A56, show ¬ i <= j by omega, A9, A4, A1]
theorem B382 {t : List Int} {a : Nat} {d : Array Int} (hp : Pl t d) (ha : a < d.size) (hs : d.size < 16777216) {i : Nat} (hi : 1 <= i) (j : Nat) (hj : j < d.size) :
  loop (Z169l15 (a : Int) d.toList (i : Int)) ((j : Int), t) = some (((Sort.scanDown (fun x => !ltS t x d[a]!) d i j : Nat) : Int), t) := by
 refine B280 hi (fun j h hj => ?_) (fun j h => ?_) j hj
 ·have w2 : i64.wrap ((j : Int) - 1) = (j : Int) - 1 := w64 (by omega)
  have s1 : j < d.size := by omega
  have hc := B104 (hp j s1) (hp a ha)
  unfold Z169l15 Z169l15_b
  simp only [A56, h, A7, A6, w2, A29, A17, A14, A10, s1, ha, B32, hc, A3]
  rfl
 ·unfold Z169l15 Z169l15_b
  simp only [A56, show ¬ i <= j by omega, A9, A4, A1]
theorem B802 {t : List Int} {a : Nat} : ∀ (n i j : Nat) (d : Array Int), j + 1 - i <= n -> 1 <= i -> j < d.size -> a < d.size -> Pl t d -> d.size < 16777216 ->
  loop (Z168l1000003 (a : Int)) ((i : Int), (j : Int), d.toList, t) = some (((Sort.partEqLoop (ltS t) a i j d).1 : Int), (Sort.partEqLoop (ltS t) a i j d).2.toList, t) := by
 intro n
 induction n with
 | zero =>
  intro i j d hn hi hj ha hp hs
  rw [Sort.partEqLoop_eq]
  have u := B542 hp ha hs hj i
  have e1 : Sort.scanUp (fun x => !ltS t d[a]! x) d j i = i := by
   rw [Sort.scanUp]; simp only [show ¬ i <= j by omega, A9, A63, A4, A1]
  rw [e1] at u ⊢
  have v := B413 hp ha hs hi j hj
  have e2 : Sort.scanDown (fun x => ltS t d[a]! x) d i j = j := by
   cases j with
   | zero => rfl
   | succ j => rw [Sort.scanDown]; simp only [show ¬ i <= j + 1 by omega, A9, A63, A4, A1]
  rw [e2] at v ⊢
  rw [A5 (by omega)]
  refine B4 ?_
  unfold Z168l1000003 Z168l1000003_b
  simp only [u, v, A3, show ((i : Nat) : Int) > (j : Int) by omega, A7, A6]
 | succ n ih =>
  intro i j d hn hi hj ha hp hs
  rw [Sort.partEqLoop_eq]
  have u := B542 hp ha hs hj i
  have u1 := Sort.scanUp_ge (fun x => !ltS t d[a]! x) d j i
  generalize Sort.scanUp (fun x => !ltS t d[a]! x) d j i = i2 at u u1 ⊢
  have v := B413 hp ha hs (show 1 <= i2 by omega) j hj
  have v1 := Sort.scanDown_le (fun x => ltS t d[a]! x) d i2 j
  generalize Sort.scanDown (fun x => ltS t d[a]! x) d i2 j = j2 at v v1 ⊢
  by_cases h : i2 > j2
  ·rw [A5 h]
   refine B4 ?_
   unfold Z168l1000003 Z168l1000003_b
   simp only [u, v, A3, show ((i2 : Nat) : Int) > (j2 : Int) by omega, A7, A6]
  ·rw [A8 h]
   have w1 : i64.wrap ((i2 : Int) + 1) = ((i2 + 1 : Nat) : Int) := w64 (by omega)
   have w2 : i64.wrap ((j2 : Int) - 1) = ((j2 - 1 : Nat) : Int) := by rw [w64 (by omega)]; omega
   have s1 : i2 < d.size := by omega
   have s2 : j2 < d.size := by omega
   rw [B5 (s' := (((i2 + 1 : Nat) : Int), ((j2 - 1 : Nat) : Int), (Sort.swp d i2 j2).toList, t)), ih (i2 + 1) (j2 - 1) _ (by omega) (by omega) (by rw [szs]; omega) (by rw [szs]; exact ha) (hp.swp s1 s2) (by rw [szs]; exact hs)]
   unfold Z168l1000003 Z168l1000003_b
   simp only [u, v, A3, show ¬ ((i2 : Nat) : Int) > (j2 : Int) by omega, A9, A4, A1, w1, w2, A29, A53, A17, A14, A10, s1, s2, A6, B32, A12, B56]
theorem B994 {t : List Int} {a b p : Nat} {d : Array Int} (hp : Pl t d) (h1 : a <= p) (h2 : p < b) (hb : b <= d.size) (hs : d.size < 16777216) :
  Z168 (a : Int) (b : Int) (p : Int) d.toList t = some (((Sort.partitionEqual (ltS t) d a b p).1 : Int), (Sort.partitionEqual (ltS t) d a b p).2.toList, t) := by
 rw [Z168_eq, Z168_b]
 have w1 : i64.wrap ((a : Int) + 1) = ((a + 1 : Nat) : Int) := w64 (by omega)
 have w2 : i64.wrap ((b : Int) - 1) = ((b - 1 : Nat) : Int) := by rw [w64 (by omega)]; omega
 have s1 : a < d.size := by omega
 have s2 : p < d.size := by omega
 simp only [A29, A53, A17, A14, A10, s1, s2, A6, B32, A12, B56, w1, w2,
  B802 (b - 1 + 1 - (a + 1)) (a + 1) (b - 1) (Sort.swp d a p) (A11 _) (by omega) (show b - 1 < (Sort.swp d a p).size by rw [szs]; omega) (show a < (Sort.swp d a p).size by rw [szs]; omega) (hp.swp s1 s2) (by rw [szs]; exact hs), A3, Sort.partitionEqual]
theorem B933 {t : List Int} {a : Nat} : ∀ (n i j : Nat) (d : Array Int), j + 1 - i <= n -> 1 <= i -> j < d.size -> a < d.size -> Pl t d -> d.size < 16777216 ->
  loop (Z169l1000013 (a : Int)) ((i : Int), (j : Int), d.toList, t) = some (((Sort.partLoop (ltS t) a i j d).1 : Int), (Sort.partLoop (ltS t) a i j d).2.toList, t) ∧
   (Sort.partLoop (ltS t) a i j d).1 <= j ∧ (Sort.partLoop (ltS t) a i j d).2.size = d.size := by
 intro n
 induction n with
 | zero =>
  intro i j d hn hi hj ha hp hs
  rw [Sort.partLoop_eq]
  have u := B471 hp ha hs hj i
  have e1 : Sort.scanUp (fun x => ltS t x d[a]!) d j i = i := by
   rw [Sort.scanUp]; simp only [show ¬ i <= j by omega, A9, A63, A4, A1]
  rw [e1] at u ⊢
  have v := B382 hp ha hs hi j hj
  have e2 : Sort.scanDown (fun x => !ltS t x d[a]!) d i j = j := by
   cases j with
   | zero => rfl
   | succ j => rw [Sort.scanDown]; simp only [show ¬ i <= j + 1 by omega, A9, A63, A4, A1]
  rw [e2] at v ⊢
  rw [A5 (by omega)]
  refine ⟨B4 ?_, A11 _, rfl⟩
  unfold Z169l1000013 Z169l1000013_b
  simp only [u, v, A3, show ((i : Nat) : Int) > (j : Int) by omega, A7, A6]
 | succ n ih =>
  intro i j d hn hi hj ha hp hs
  rw [Sort.partLoop_eq]
  have u := B471 hp ha hs hj i
  have u1 := Sort.scanUp_ge (fun x => ltS t x d[a]!) d j i
  generalize Sort.scanUp (fun x => ltS t x d[a]!) d j i = i2 at u u1 ⊢
  have v := B382 hp ha hs (show 1 <= i2 by omega) j hj
  have v1 := Sort.scanDown_le (fun x => !ltS t x d[a]!) d i2 j
  generalize Sort.scanDown (fun x => !ltS t x d[a]!) d i2 j = j2 at v v1 ⊢
  by_cases h : i2 > j2
  ·rw [A5 h]
   refine ⟨B4 ?_, v1, rfl⟩
   unfold Z169l1000013 Z169l1000013_b
   simp only [u, v, A3, show ((i2 : Nat) : Int) > (j2 : Int) by omega, A7, A6]
  ·rw [A8 h]
   have w1 : i64.wrap ((i2 : Int) + 1) = ((i2 + 1 : Nat) : Int) := w64 (by omega)
   have w2 : i64.wrap ((j2 : Int) - 1) = ((j2 - 1 : Nat) : Int) := by rw [w64 (by omega)]; omega
   have s1 : i2 < d.size := by omega
   have s2 : j2 < d.size := by omega
   obtain ⟨g1, g2, g3⟩ := ih (i2 + 1) (j2 - 1) (Sort.swp d i2 j2) (by omega) (by omega) (by rw [szs]; omega) (by rw [szs]; exact ha) (hp.swp s1 s2) (by rw [szs]; exact hs)
   refine ⟨?_, by omega, by rw [g3, szs]⟩
   rw [B5 (s' := (((i2 + 1 : Nat) : Int), ((j2 - 1 : Nat) : Int), (Sort.swp d i2 j2).toList, t)), g1]
   unfold Z169l1000013 Z169l1000013_b
   simp only [u, v, A3, show ¬ ((i2 : Nat) : Int) > (j2 : Int) by omega, A9, A4, A1, w1, w2, A29, A53, A17, A14, A10, s1, s2, A6, B32, A12, B56]
theorem B934 {t : List Int} {a b p : Nat} {d : Array Int} (hp : Pl t d) (h1 : a <= p) (h2 : p < b) (hb : b <= d.size) (hs : d.size < 16777216) :
  Z169 (a : Int) (b : Int) (p : Int) d.toList t = some (((Sort.partition (ltS t) d a b p).1 : Int), (Sort.partition (ltS t) d a b p).2.1, (Sort.partition (ltS t) d a b p).2.2.toList, t) := by
 rw [Z169_eq, Z169_b]
 have w1 : i64.wrap ((a : Int) + 1) = ((a + 1 : Nat) : Int) := w64 (by omega)
 have w2 : i64.wrap ((b : Int) - 1) = ((b - 1 : Nat) : Int) := by rw [w64 (by omega)]; omega
 have s1 : a < d.size := by omega
 have s2 : p < d.size := by omega
 unfold Sort.partition
 have p1 := hp.swp s1 s2
 have z1 := szs d a p
 obtain ⟨e, he⟩ : ∃ e, Sort.swp d a p = e := ⟨_, rfl⟩
 rw [he] at p1 z1 ⊢
 have se : a < e.size := by omega
 have u := B810 p1 se (by omega) (show b - 1 < e.size by omega) (a + 1)
 have u1 := Sort.scanUp_ge (fun x => ltS t x e[a]!) e (b - 1) (a + 1)
 obtain ⟨i2, hi2⟩ : ∃ i2, Sort.scanUp (fun x => ltS t x e[a]!) e (b - 1) (a + 1) = i2 := ⟨_, rfl⟩
 rw [hi2] at u u1
 have v := B702 p1 se (by omega) (show 1 <= i2 by omega) (b - 1) (by omega)
 have v1 := Sort.scanDown_le (fun x => !ltS t x e[a]!) e i2 (b - 1)
 obtain ⟨j2, hj2⟩ : ∃ j2, Sort.scanDown (fun x => !ltS t x e[a]!) e i2 (b - 1) = j2 := ⟨_, rfl⟩
 rw [hj2] at v v1
 simp only [hi2, hj2]
 have q2 : j2 < e.size := by omega
 by_cases h : i2 > j2
 ·simp only [A29, A53, A17, A14, A10, s1, s2, A6, B32, A12, B56, he, w1, w2, u, v, A3, show ((i2 : Nat) : Int) > (j2 : Int) by omega, A7, se, q2, h]
 ·have q1 : i2 < e.size := by omega
  have w3 : i64.wrap ((i2 : Int) + 1) = ((i2 + 1 : Nat) : Int) := w64 (by omega)
  have w4 : i64.wrap ((j2 : Int) - 1) = ((j2 - 1 : Nat) : Int) := by rw [w64 (by omega)]; omega
  obtain ⟨g1, g2, g3⟩ := B933 (a := a) (j2 - 1 + 1 - (i2 + 1)) (i2 + 1) (j2 - 1) (Sort.swp e i2 j2) (A11 _) (by omega) (by rw [szs]; omega) (by rw [szs]; exact se) (p1.swp q1 q2) (by rw [szs]; omega)
  rw [szs] at g3
  obtain ⟨r, hr⟩ : ∃ r, Sort.partLoop (ltS t) a (i2 + 1) (j2 - 1) (Sort.swp e i2 j2) = r := ⟨_, rfl⟩
  rw [hr] at g1 g2 g3
  have q3 : r.1 < r.2.size := by omega
  have q4 : a < r.2.size := by omega
  simp only [A29, A53, A17, A14, A10, s1, s2, A6, B32, A12, B56, he, w1, w2, u, v, A3, show ¬ ((i2 : Nat) : Int) > (j2 : Int) by omega, A9, A4, A1, q1, q2, w3, w4, g1, q3, q4, h, hr]
theorem B936 {t : List Int} : ∀ (n a b : Nat) (limit : Nat) (wb wp : Bool) (d : Array Int), b - a <= n -> a <= b -> b <= d.size -> Pl t d -> Sort.Below (ltS t) a b d -> d.size < 16777216 -> limit <= 64 ->
  ∃ e : Array Int, loop Z159l2 ((a : Int), (b : Int), (limit : Int), wb, wp, d.toList, t) = some (e.toList, t) ∧ Sort.PermIn a b d e ∧ Sort.SortedIn (ltS t) a b e := by
 intro n
 induction n using Nat.strongRecOn with
 | _ n ih =>
 intro a b limit wb wp d hn hab hb hp hB hs hl
 have hw := swoS t
 have w1 : i64.wrap ((b : Int) - (a : Int)) = ((b - a : Nat) : Int) := by rw [w64 (by omega)]; omega
 by_cases h12 : b - a <= 12
 ·have g12 : decide (((b - a : Nat) : Int) <= 12) = true := by simp only [A23]; omega
  obtain ⟨k1, k2⟩ := Sort.insertionSort_holds (lt := ltS t) hw d a b hab hb
  refine ⟨_, B4 ?_, k1, k2⟩
  unfold Z159l2 Z159l2_b
  simp only [w1, g12, A6, B988 hp hab hb (by omega), A3]
 have g12 : decide (((b - a : Nat) : Int) <= 12) = false := by simp only [A60]; omega
 by_cases hl0 : limit = 0
 ·subst hl0
  obtain ⟨k1, k2⟩ := Sort.heapSort_holds (lt := ltS t) hw d a b hab hb
  refine ⟨_, B4 ?_, k1, k2⟩
  unfold Z159l2 Z159l2_b
  simp only [w1, g12, A4, A1, show ((0 : Nat) : Int) = 0 from rfl, A7, A6, B957 hp hab hb (by omega), A3]
 have gl0 : decide ((limit : Int) = 0) = false := by simp only [A60]; omega
 -- the patterns
 obtain ⟨l1, d1, f1, k1, m1⟩ : ∃ (l1 : Nat) (d1 : Array Int), ((if (!wb) = true then (Z163 (a : Int) (b : Int) d.toList t).bind fun q21 => some (i64.wrap ((limit : Int) - 1), q21.1, q21.2) else some ((limit : Int), d.toList, t)) : Option (Int × List Int × List Int)) = some ((l1 : Int), d1.toList, t) ∧ Sort.PermIn a b d d1 ∧ l1 <= 64 := by
  cases wb with
  | true => exact ⟨limit, d, rfl, Sort.permIn_refl _ _ _, hl⟩
  | false =>
   obtain ⟨e, e1, e2⟩ := B891 (t := t) hab hb hs
   refine ⟨limit - 1, e, ?_, e2, by omega⟩
   rw [A5 (show (!false) = true from rfl), e1, w64 (n := (limit : Int) - 1) (by omega)]
   show some (((limit : Nat) : Int) - 1, e.toList, t) = _
   congr 2; omega
 have p1 := hp.perm hb k1
 have b1 : b <= d1.size := by rw [k1.1]; exact hb
 have B1 := hB.perm hb k1
 -- the pivot
 obtain ⟨x, hint, f2, x1, x2⟩ := B831 p1 (show a < b by omega) b1 (by rw [k1.1]; omega)
 obtain ⟨pv, hint', d2, f3, pv1, pv2, k2⟩ : ∃ (pv : Nat) (hint' : Int) (d2 : Array Int), ((if (decide (hint = 2)) = true then (Z165 (a : Int) (b : Int) d1.toList t).bind fun q34 => some (i64.wrap (i64.wrap ((b : Int) - 1) - i64.wrap (((x : Nat) : Int) - (a : Int))), 1, q34.1, q34.2) else some (((x : Nat) : Int), hint, d1.toList, t)) : Option (Int × Int × List Int × List Int)) = some ((pv : Int), hint', d2.toList, t) ∧ a <= pv ∧ pv < b ∧ Sort.PermIn a b d1 d2 := by
  by_cases h2 : hint = 2
  ·refine ⟨b - 1 - (x - a), 1, _, ?_, by omega, by omega, Sort.reverseRange_holds d1 a b hab b1⟩
   rw [A5 (by simp only [h2, A7]), B998 (by omega) b1 (by rw [k1.1]; omega), w64 (n := (b : Int) - 1) (by omega), w64 (n := ((x : Nat) : Int) - (a : Int)) (by omega), w64 (by omega)]
   show some (_, _, _, _) = _
   congr 2; omega
  ·exact ⟨x, hint, d1, by rw [A8 (by simp only [h2, A9]; decide)], x1, x2, Sort.permIn_refl _ _ _⟩
 have p2 := p1.perm b1 k2
 have b2 : b <= d2.size := by rw [k2.1]; exact b1
 have B2 := B1.perm b1 k2
 have z2 : d2.size = d.size := k2.1.trans k1.1
 have P2 := Sort.permIn_trans _ _ _ _ _ k1 k2
 -- whether it is tried
 obtain ⟨v, f4⟩ : ∃ v : Bool, ((if wb = true then (if wp = true then some (decide (hint' = 1)) else some false) else some false) : Option Bool) = some v := by
  cases wb <;> cases wp <;> exact ⟨_, rfl⟩
 have tried : (v = true ∧ (Sort.partialInsertionSort (ltS t) d2 a b).2 = true) ∨
   (∃ d3 : Array Int, Sort.PermIn a b d2 d3 ∧ ((if v = true then (Z166 (a : Int) (b : Int) d2.toList t).bind fun q46 => (if q46.1 = true then some (Sum.inr (q46.2.1, q46.2.2)) else some (Sum.inl (q46.2.1, q46.2.2))) else some (Sum.inl (d2.toList, t))) : Option ((List Int × List Int) ⊕ (List Int × List Int))) = some (.inl (d3.toList, t))) := by
  cases v with
  | false => exact .inr ⟨d2, Sort.permIn_refl _ _ _, rfl⟩
  | true =>
   cases hx : (Sort.partialInsertionSort (ltS t) d2 a b).2 with
   | true => exact .inl ⟨rfl, rfl⟩
   | false =>
    refine .inr ⟨_, (Sort.partialInsertionSort_holds hw d2 a b (by omega) b2 B2).1, ?_⟩
    rw [A5 rfl, B692 p2 (by omega) b2 (by omega), hx]; rfl
 rcases tried with ⟨t1, t2⟩ | ⟨d3, k3, f5⟩
 ·-- it is sorted now
  subst t1
  obtain ⟨m3, m4⟩ := Sort.partialInsertionSort_holds hw d2 a b (by omega) b2 B2
  refine ⟨_, B4 (a := ((Sort.partialInsertionSort (ltS t) d2 a b).1.toList, t)) ?_, Sort.permIn_trans _ _ _ _ _ P2 m3, m4 t2⟩
  unfold Z159l2 Z159l2_b
  simp only [w1, g12, gl0, A4, A1, f1, A3, f2, f3, f4, A6, B692 p2 (show a < b by omega) b2 (by omega), t2, Sum.elim_inr]
 have p3 := p2.perm b2 k3
 have b3 : b <= d3.size := by rw [k3.1]; exact b2
 have B3 := B2.perm b2 k3
 have z3 : d3.size = d.size := k3.1.trans z2
 have P3 := Sort.permIn_trans _ _ _ _ _ P2 k3
 obtain ⟨c, f6, hc⟩ : ∃ c : Bool, ((if (decide ((a : Int) > 0)) = true then (if 0 <= i64.wrap ((a : Int) - 1) ∧ i64.wrap ((a : Int) - 1) < (d3.toList.length : Int) then (if 0 <= (pv : Int) ∧ (pv : Int) < (d3.toList.length : Int) then (Z167 (rd d3.toList (i64.wrap ((a : Int) - 1))) (rd d3.toList (pv : Int)) t).bind fun q60 => some (!(decide (q60.1 < 0)), q60.2) else none) else none) else some (false, t)) : Option (Bool × List Int)) = some (c, t) ∧ (c = true -> 0 < a ∧ ltS t d3[a - 1]! d3[pv]! = false) := by
  by_cases h0 : 0 < a
  ·have w2 : i64.wrap ((a : Int) - 1) = ((a - 1 : Nat) : Int) := by rw [w64 (by omega)]; omega
   have s1 : a - 1 < d3.size := by omega
   have s2 : pv < d3.size := by omega
   refine ⟨!ltS t d3[a - 1]! d3[pv]!, ?_, fun h => ⟨h0, by simpa using h⟩⟩
   rw [A5 (by simp only [A23]; omega)]
   simp only [w2, A29, A17, A14, A10, s1, s2, A6, B32, B104 (p3 (a - 1) s1) (p3 pv s2), A3]
   rfl
  ·exact ⟨false, by rw [A8 (by simp only [A23]; omega)], fun h => nomatch h⟩
 have w3 : i64.wrap (((b - a : Nat) : Int).tdiv 8) = (((b - a) / 8 : Nat) : Int) := by rw [B27 (by omega), w64 (by omega)]; omega
 cases c with
 | true =>
  obtain ⟨h0, hnl⟩ := hc rfl
  have e1 := B994 p3 pv1 pv2 b3 (by omega)
  obtain ⟨q1, q2, q3, q4, q5⟩ := Sort.round_eq (d4 := (Sort.partitionEqual (ltS t) d3 a b pv).2) (mid := (Sort.partitionEqual (ltS t) d3 a b pv).1) hw (Sort.partitionEqual_holds _) h0 pv1 pv2 b3 B3 hnl rfl
  have pe := (Sort.partitionEqual_holds (ltS t) hw d3 a b pv pv1 pv2 b3 (fun i hi hi' => by
   rcases B3 with h | h
   ·omega
   ·exact hw.ntrans _ _ _ (h i hi hi') hnl)).2.2.1
  have p4 := p3.perm b3 pe
  generalize (Sort.partitionEqual (ltS t) d3 a b pv).1 = mid at e1 q1 q2 q4 q5
  generalize (Sort.partitionEqual (ltS t) d3 a b pv).2 = d4 at e1 q3 q4 q5 p4
  obtain ⟨e, r1, r2, r3⟩ := ih (b - mid) (by omega) mid b l1 wb wp d4 (A11 _) q2 (by omega) p4 q4 (by omega) m1
  obtain ⟨y1, y2⟩ := q5 e r2 r3
  refine ⟨e, ?_, Sort.permIn_trans _ _ _ _ _ P3 y1, y2⟩
  rw [B5 (s' := ((mid : Int), (b : Int), (l1 : Int), wb, wp, d4.toList, t)), r1]
  unfold Z159l2 Z159l2_b
  simp only [w1, g12, gl0, A4, A1, f1, A3, f2, f3, f4, f5, A45, f6, A6, e1]
 | false =>
  have e1 := B934 p3 pv1 pv2 b3 (by omega)
  obtain ⟨q1, q2, q3, q4, q5, q6, q7⟩ := Sort.round_part (d4 := (Sort.partition (ltS t) d3 a b pv).2.2) (ap := (Sort.partition (ltS t) d3 a b pv).2.1) (mid := (Sort.partition (ltS t) d3 a b pv).1) hw (Sort.partition_holds _) pv1 pv2 b3 B3 rfl
  have pe := (Sort.partition_holds (ltS t) hw d3 a b pv pv1 pv2 b3).2.2.1
  have p4 := p3.perm b3 pe
  generalize (Sort.partition (ltS t) d3 a b pv).1 = mid at e1 q1 q2 q4 q5 q6 q7
  generalize (Sort.partition (ltS t) d3 a b pv).2.2 = d4 at e1 q3 q4 q5 q6 q7 p4
  generalize (Sort.partition (ltS t) d3 a b pv).2.1 = ap at e1
  have w4 : i64.wrap ((mid : Int) - (a : Int)) = ((mid - a : Nat) : Int) := by rw [w64 (by omega)]; omega
  have w5 : i64.wrap ((b : Int) - (mid : Int)) = ((b - mid : Nat) : Int) := by rw [w64 (by omega)]; omega
  have w6 : i64.wrap ((mid : Int) + 1) = ((mid + 1 : Nat) : Int) := w64 (by omega)
  -- a call begins the loop anew
  have call_is : ∀ (a' b' : Nat) (d' e : Array Int), loop Z159l2 ((a' : Int), (b' : Int), (l1 : Int), true, true, d'.toList, t) = some (e.toList, t) -> Z159 (a' : Int) (b' : Int) (l1 : Int) d'.toList t = some (e.toList, t) := by
   intro a' b' d' e h
   rw [Z159_eq, Z159_b, h]; rfl
  by_cases hm : mid - a < b - mid
  ·obtain ⟨L, r1, r2, r3⟩ := ih (mid - a) (by omega) a mid l1 true true d4 (A11 _) q1 (by omega) p4 q4 (by omega) m1
   obtain ⟨y1, y2⟩ := q6 L r2 r3
   have zL : L.size = d4.size := r2.1
   obtain ⟨e, s1, s2, s3⟩ := ih (b - (mid + 1)) (by omega) (mid + 1) b l1 (decide (((mid - a : Nat) : Int) ≥ (((b - a) / 8 : Nat) : Int))) ap L (A11 _) (by omega) (by omega) (p4.perm (by omega) r2) y1 (by omega) m1
   obtain ⟨y3, y4⟩ := y2 e s2 s3
   refine ⟨e, ?_, Sort.permIn_trans _ _ _ _ _ P3 y3, y4⟩
   rw [B5 (s' := (((mid + 1 : Nat) : Int), (b : Int), (l1 : Int), decide (((mid - a : Nat) : Int) ≥ (((b - a) / 8 : Nat) : Int)), ap, L.toList, t)), s1]
   unfold Z159l2 Z159l2_b
   simp only [w1, g12, gl0, A4, A1, f1, A3, f2, f3, f4, f5, A45, f6, e1, w4, w5, w3, show decide (((mid - a : Nat) : Int) < ((b - mid : Nat) : Int)) = true by simp only [A23]; omega, A6, call_is _ _ _ _ r1, w6]
  ·obtain ⟨L, r1, r2, r3⟩ := ih (b - (mid + 1)) (by omega) (mid + 1) b l1 true true d4 (A11 _) (by omega) (by omega) p4 q5 (by omega) m1
   obtain ⟨y1, y2⟩ := q7 L r2 r3
   have zL : L.size = d4.size := r2.1
   obtain ⟨e, s1, s2, s3⟩ := ih (mid - a) (by omega) a mid l1 (decide (((b - mid : Nat) : Int) ≥ (((b - a) / 8 : Nat) : Int))) ap L (A11 _) (by omega) (by omega) (p4.perm (by omega) r2) y1 (by omega) m1
   obtain ⟨y3, y4⟩ := y2 e s2 s3
   refine ⟨e, ?_, Sort.permIn_trans _ _ _ _ _ P3 y3, y4⟩
   rw [B5 (s' := ((a : Int), (mid : Int), (l1 : Int), decide (((b - mid : Nat) : Int) ≥ (((b - a) / 8 : Nat) : Int)), ap, L.toList, t)), s1]
   unfold Z159l2 Z159l2_b
   simp only [w1, g12, gl0, A4, A1, f1, A3, f2, f3, f4, f5, A45, f6, e1, w4, w5, w3, show decide (((mid - a : Nat) : Int) < ((b - mid : Nat) : Int)) = false by simp only [A60]; omega, A6, call_is _ _ _ _ r1, w6]
theorem B744 {t : List Int} {d : Array Int} (hp : Pl t d) (h0 : 0 < d.size) (hs : d.size < 16777216) :
  ∃ e : Array Int, Z149 d.toList t = some (e.toList, t) ∧ Sort.PermIn 0 d.size d e ∧ Sort.SortedIn (ltS t) 0 d.size e := by
 obtain ⟨L, l1, l2, l3⟩ := B522 (x := (d.size : Int)) (by omega) (by omega)
 obtain ⟨e, e1, e2, e3⟩ := B936 d.size 0 d.size L true true d (by omega) (A33 _) (A11 _) hp (.inl rfl) hs (by omega)
 refine ⟨e, ?_, e2, e3⟩
 rw [Z149_eq, Z149_b]
 have u1 : u64.wrap (d.size : Int) = (d.size : Int) := by rw [wu64]; omega
 have z0 : ((0 : Nat) : Int) = 0 := rfl
 rw [z0] at e1
 simp only [A29, u1, l1, A3, Z159_eq, Z159_b, e1]
def leS (t : List Int) (x y : Int) : Prop := ltS t y x = false
def PlL (t : List Int) (l : List Int) : Prop := ∀ x ∈ l, 0 <= x ∧ x <= (t.length : Int)
theorem B676 {t : List Int} {a b : Int} (ha : 0 <= a ∧ a <= (t.length : Int)) (hb : 0 <= b ∧ b <= (t.length : Int)) (h : leS t a b) (g : leS t b a) : a = b := by
 simp only [leS, ltS, A60] at h g
 have n := B261 (sfx t a) (sfx t b)
 have e := B349 (sfx t a) (sfx t b) (by omega)
 have := congrArg List.length e
 simp only [sfx, A76] at this
 omega
theorem B603 {t : List Int} {a b c : Int} (h : leS t a b) (g : leS t b c) : leS t a c := (swoS t).ntrans _ _ _ g h
theorem lt_le {t : List Int} {a b : Int} (h : ltS t a b = true) : leS t a b := by
 cases e : ltS t b a with
 | false => exact e
 | true => have := (swoS t).trans _ _ _ h e; rw [(swoS t).irrefl] at this; cases this
theorem B642 {t l m : List Int} (hv : PlL t l) (p : l.Perm m) (hl : l.Pairwise (leS t)) (hm : m.Pairwise (leS t)) : l = m :=
 List.Perm.eq_of_pairwise (fun a b ha hb h g => B676 (hv a ha) (hv b (p.mem_iff.2 hb)) h g) hl hm p
theorem B691 {t : List Int} {e : Array Int} (h : Sort.SortedIn (ltS t) 0 e.size e) : e.toList.Pairwise (leS t) := by
 rw [List.pairwise_iff_getElem]
 intro i j hi hj hij
 rw [A29] at hi hj
 have := h i j (A33 _) hij hj
 rw [getElem!_pos e i hi, getElem!_pos e j hj] at this
 simpa [leS] using this
theorem B937 {d e : Array Int} (h : Sort.PermIn 0 d.size d e) : e.toList.Perm d.toList := by
 have h2 := h.2.2
 rw [show e.extract 0 d.size = e by rw [← h.1]; exact Array.extract_size, Array.extract_size] at h2
 exact h2
theorem B437 {n : Nat} {f : Int × List Int -> Option ((Int × List Int) ⊕ (List Int))} {h : Nat -> Int -> Int} {V : Int -> Prop}
  (hf : ∀ (i : Nat) (b : List Int) (x : Int), b.length = n -> b[i]? = some x -> V x -> f ((i : Int), b) = some (.inl (((i + 1 : Nat) : Int), b.set i (h i x))))
  (he : ∀ b : List Int, b.length = n -> f ((n : Int), b) = some (.inr b)) : ∀ (m k : Nat) (b : List Int), k + m = n -> b.length = n -> (∀ j x, k <= j -> b[j]? = some x -> V x) ->
  ∃ r, loop f ((k : Int), b) = some r ∧ r.length = n ∧ ∀ j : Nat, r[j]? = if j < k then b[j]? else (b[j]?).map (h j) := by
 intro m
 induction m with
 | zero =>
  intro k b hk hb hv
  have : k = n := by omega
  subst this
  refine ⟨b, B4 (he b hb), hb, fun j => ?_⟩
  split
  ·rfl
  ·rw [A61 (by omega)]; rfl
 | succ m ih =>
  intro k b hk hb hv
  obtain ⟨x, hx⟩ : ∃ x, b[k]? = some x := ⟨_, A15 (by omega)⟩
  obtain ⟨r, r1, r2, r3⟩ := ih (k + 1) (b.set k (h k x)) (by omega) (by rw [A53]; exact hb) (fun j y hj hy => by
   rw [List.getElem?_set_ne (by omega)] at hy
   exact hv j y (by omega) hy)
  refine ⟨r, by rw [B5 (hf k b x hb hx (hv k x (A11 _) hx))]; exact r1, r2, fun j => ?_⟩
  rw [r3 j]
  by_cases h1 : j = k
  ·subst h1
   rw [A5 (by omega), A8 (by omega), hx, List.getElem?_set_self (by omega)]; rfl
  ·rw [List.getElem?_set_ne (Ne.symm h1)]
   by_cases h2 : j < k
   ·rw [A5 (by omega), A5 h2]
   ·rw [A8 (by omega), A8 h2]
def iota (n : Nat) : List Int := (List.range n).map fun k : Nat => (k : Int)
theorem B916 {n j : Nat} : (iota n)[j]? = if j < n then some (j : Int) else none := by
 unfold iota
 rw [A41]
 by_cases h : j < n
 ·rw [A80 h, A5 h]; rfl
 ·rw [A61 (by rw [A47]; omega), A8 h]; rfl
theorem B400 {n : Nat} {r : List Int} (hr : ∀ j : Nat, r[j]? = if j < 0 then (List.replicate n (0 : Int))[j]? else ((List.replicate n (0 : Int))[j]?).map (fun _ => (j : Int))) : r = iota n := by
 apply A94
 intro j
 rw [hr j, B916, A8 (by omega), A122]
 by_cases h : j < n
 ·rw [A5 h, A5 h]; rfl
 ·rw [A8 h, A8 h]; rfl
theorem B78 {n : Nat} : (iota n).length = n := by simp [iota]
theorem B65 {n : Nat} {x : Int} : x ∈ iota n ↔ 0 <= x ∧ x < (n : Int) := by
 unfold iota
 rw [A59]
 constructor
 ·rintro ⟨k, hk, rfl⟩
  rw [A86] at hk
  omega
 ·intro h
  exact ⟨x.toNat, A86.2 (by omega), by omega⟩
theorem B747 {t : List Int} (ht : t.length <= 4000) : ∃ s, Z120 t = some s ∧ s.Perm (iota (t.length + 1)) ∧ s.Pairwise (leS t) := by
 rw [Z120_eq, Z120_b]
 have w1 : i64.wrap ((t.length : Int) + 1) = ((t.length + 1 : Nat) : Int) := w64 (by omega)
 simp only [w1, A12]
 rw [A5 (by omega)]
 obtain ⟨r, r1, r2, r3⟩ := B437 (n := t.length + 1) (f := Z120l3 (List.replicate (t.length + 1) 0)) (h := fun i _ => (i : Int)) (V := fun _ => True)
  (fun i b x hb hx _ => by
   have hi := B7 hx
   have w2 : i64.wrap ((i : Int) + 1) = ((i + 1 : Nat) : Int) := w64 (by omega)
   unfold Z120l3
   simp only [A95, hb ▸ hi, A7, A6, A17, A14, A10, hi, A12, w2])
  (fun b hb => by
   unfold Z120l3
   simp only [A95, A10, Nat.lt_irrefl, A9, A4, A1])
  (t.length + 1) 0 (List.replicate (t.length + 1) 0) (by omega) (by simp) (fun _ _ _ _ => trivial)
 have er := B400 r3
 subst er
 have z0 : ((0 : Nat) : Int) = 0 := rfl
 rw [z0] at r1
 rw [r1]
 simp only [A3]
 obtain ⟨e, e1, e2, e3⟩ := B744 (t := t) (d := (iota (t.length + 1)).toArray) (fun k hk => by
   have hk' : k < (iota (t.length + 1)).length := by simpa using hk
   rw [getElem!_pos _ k hk]
   have : (iota (t.length + 1)).toArray[k] ∈ iota (t.length + 1) := by simp
   have := B65.1 this
   omega) (by simp [B78]) (by simp [B78]; omega)
 have e1' : Z149 (iota (t.length + 1)) t = some (e.toList, t) := e1
 rw [e1']
 refine ⟨e.toList, rfl, B937 e2, B691 ?_⟩
 rw [← e2.1] at e3
 exact e3
def colOf (t : List Int) (x : Int) : Int := if x = 0 then 0 else rd t (x - 1) + 1
theorem B833 {t s : List Int} (hs : Z120 t = some s) (hp : s.Perm (iota (t.length + 1))) (ht : t.length <= 4000) (hb : ∀ x ∈ t, 0 <= x ∧ x <= 255) : Z75 t = some (s.map (colOf t)) := by
 rw [Z75_eq, Z75_b, hs]
 simp only [A3]
 have hl : s.length = t.length + 1 := by rw [hp.length_eq, B78]
 obtain ⟨r, r1, r2, r3⟩ := B437 (n := t.length + 1) (f := Z75l3 t s) (h := fun _ x => colOf t x) (V := fun x => 0 <= x ∧ x <= (t.length : Int))
  (fun i b x hb' hx hv => by
   have hi := B7 hx
   have w2 : i64.wrap ((i : Int) + 1) = ((i + 1 : Nat) : Int) := w64 (by omega)
   have hr : rd b (i : Int) = x := B21 hx
   have hn : i < t.length + 1 := by omega
   unfold Z75l3 colOf
   by_cases h0 : x = 0
   ·simp only [hl, A10, hn, A7, A6, A17, A14, hi, hr, h0, A12, w2]
   ·have w3 : i64.wrap (x - 1) = x - 1 := w64 (by omega)
    have hm := hb _ (A38 (B197 (xs := t) (i := x - 1) (by omega) (by omega)))
    have w4 : i64.wrap (rd t (x - 1)) = rd t (x - 1) := w64 (by omega)
    have w5 : i64.wrap (rd t (x - 1) + 1) = rd t (x - 1) + 1 := w64 (by omega)
    have c1 : 0 <= x - 1 ∧ x - 1 < (t.length : Int) := by omega
    simp only [hl, A10, hn, A7, A6, A17, A14, hi, hr, h0, A9, A4, A1, w3, A5 c1, w4, w5, A12, w2])
  (fun b hb' => by
   unfold Z75l3
   simp only [hl, A10, Nat.lt_irrefl, A9, A4, A1])
  (t.length + 1) 0 s (by omega) hl (fun j x _ hx => by
   have := B65.1 (hp.mem_iff.1 (A38 hx))
   omega)
 have z0 : ((0 : Nat) : Int) = 0 := rfl
 rw [z0] at r1
 rw [r1]
 simp only [A3, A13]
 apply A94
 intro j
 rw [r3 j, A8 (by omega), A41]
def FstAt (l : List Int) (s : Int) (i : Nat) : Prop := l[i]? = some s ∧ ∀ j, j < i -> l[j]? ≠ some s
theorem FstAt.unique {l : List Int} {s : Int} {i k : Nat} (h : FstAt l s i) (g : FstAt l s k) : i = k := by
 rcases A112 i k with q | q | q
 ·exact absurd h.1 (g.2 i q)
 ·exact q
 ·exact absurd g.1 (h.2 k q)
def pos : List Int -> Int -> Nat
 | [], _ => 0
 | x :: l, s => if x = s then 0 else pos l s + 1
theorem B226 {s : Int} : ∀ {l : List Int}, s ∈ l -> FstAt l s (pos l s)
 | x :: l, h => by
  by_cases hx : x = s
  ·rw [pos, A5 hx]
   exact ⟨by simp [hx], fun j hj => absurd hj (by omega)⟩
  ·have hm : s ∈ l := by
    rcases A16.1 h with h | h
    ·exact absurd h.symm hx
    ·exact h
   obtain ⟨i1, i2⟩ := B226 hm
   rw [pos, A8 hx]
   refine ⟨by simpa using i1, fun j hj => ?_⟩
   cases j with
   | zero => simpa using hx
   | succ j => simpa using i2 j (by omega)
theorem B914 {l : List Int} {s : Int} {i : Nat} (h : FstAt l s i) (hl : l.length <= 1000) : Z80 l s = some (i : Int) := by
 have hi := B7 h.1
 have go : ∀ (m k : Nat), k + m = i -> loop (Z80l2 l s) (k : Int) = some (.inr (i : Int)) := by
  intro m
  induction m with
  | zero =>
   intro k hk
   have : k = i := by omega
   subst this
   refine B4 ?_
   unfold Z80l2
   simp only [A10, hi, A7, A6, A17, A14, B21 h.1]
  | succ m ih =>
   intro k hk
   have hk' : k < l.length := by omega
   have hne : ¬ s = rd l (k : Int) := by
    intro e
    refine h.2 k (by omega) ?_
    rw [A15 hk', e, B21 (A15 hk')]
   have w2 : i64.wrap ((k : Int) + 1) = ((k + 1 : Nat) : Int) := w64 (by omega)
   rw [B5 (s' := ((k + 1 : Nat) : Int))]
   ·exact ih (k + 1) (by omega)
   ·unfold Z80l2
    simp only [A10, hk', A7, A6, A17, A14, hne, A9, A4, A1, w2]
 rw [Z80_eq, Z80_b]
 have := go i 0 (by omega)
 have z0 : ((0 : Nat) : Int) = 0 := rfl
 rw [z0] at this
 rw [this]
 rfl
def B102 (l : List Int) (s : Int) (i : Nat) : List Int := s :: (l.take i ++ l.drop (i + 1))
theorem B152 {l : List Int} {s : Int} {i : Nat} (h : l[i]? = some s) : (B102 l s i).Perm l := by
 have hi := B7 h
 have e : l = l.take i ++ s :: l.drop (i + 1) := by
  have : l.drop i = s :: l.drop (i + 1) := by
   rw [A74 hi]
   congr 1
   rw [A15 hi] at h
   exact Option.some.inj h
  rw [← this, A104]
 unfold B102
 have hp : (l.take i ++ s :: l.drop (i + 1)).Perm (s :: (l.take i ++ l.drop (i + 1))) := List.perm_middle
 rw [← e] at hp
 exact hp.symm
theorem B669 {l : List Int} {s : Int} {i : Nat} (h : l[i]? = some s) (hl : l.length <= 1000) : Z81 (i : Int) l = some (s, B102 l s i) := by
 have hi := B7 h
 rw [Z81_eq, Z81_b]
 have w2 : i64.wrap ((i : Int) + 1) = ((i + 1 : Nat) : Int) := w64 (by omega)
 have hr : rd l (i : Int) = s := B21 h
 have e1 : min ((l.drop 0).take (i - 0)).length (i + 1 - 1) = i := by simp; omega
 cases l with
 | nil => simp at hi
 | cons x l =>
  simp only [A17, A14, A10, hi, A6, hr, w2, A12, A56, show i + 1 <= (x :: l).length by omega, show (0 : Int) <= 1 by omega, show (1 : Int) <= ((i + 1 : Nat) : Int) by omega, show i <= (x :: l).length by omega,
   show (1 : Int).toNat = 1 from rfl, e1]
  have e2 : (List.drop 0 (x :: l)).take (i - 0) = (x :: l).take i := by simp
  have e3 : ((x :: l).take i).take i = (x :: l).take i := by rw [List.take_take, Nat.min_self]
  rw [e2, e3]
  rw [A5 (by simp; omega)]
  simp only [A13, A31, A14, B102, show (0 : Int).toNat = 0 from rfl]
  rw [Nat.add_comm 1 i]
  rfl
def B42 : List Int -> List Int -> List Int
 | _, [] => []
 | all, s :: m => (pos all s : Int) :: B42 (B102 all s (pos all s)) m
theorem B354 : ∀ (m all : List Int), (B42 all m).length = m.length
 | [], _ => rfl
 | s :: m, all => by simp [B42, B354 m]
theorem B267 {n : Nat} : ∀ (m all : List Int), all.Perm (iota n) -> (∀ x ∈ m, 0 <= x ∧ x < (n : Int)) -> ∀ p ∈ B42 all m, 0 <= p ∧ p < (n : Int)
 | [], _, _, _ => fun p hp => by simp [B42] at hp
 | s :: m, all, ha, hm => fun p hp => by
  have hs : s ∈ all := ha.mem_iff.2 (B65.2 (hm s (by simp)))
  have hf := B226 hs
  rw [B42, A16] at hp
  rcases hp with hp | hp
  ·have := B7 hf.1
   rw [ha.length_eq, B78] at this
   omega
  ·exact B267 m _ ((B152 hf.1).trans ha) (fun x hx => hm x (by simp [hx])) p hp
theorem B514 {l : List Int} : ∀ (m : List Int) (n : Nat) (all out : List Int), l.drop n = m -> all.Perm (iota 257) -> (∀ x ∈ m, 0 <= x ∧ x < 257) -> out.length + m.length <= 100000 -> n + m.length <= 100000 ->
  ∃ a, loop (Z41l7 l) ((n : Int), all, out) = some (a, out ++ B42 all m)
 | [], n, all, out, hd, ha, hm, ho, hn => by
  refine ⟨all, B4 ?_⟩
  have hln : l.length <= n := by
   have := congrArg List.length hd
   rw [A76, A58] at this
   omega
  unfold Z41l7 Z41l7_b
  simp only [A10, show ¬ n < l.length by omega, A9, A4, A1, B42, A36]
 | s :: m, n, all, out, hd, ha, hm, ho, hn => by
  have hget : l[n]? = some s := by
   have : (l.drop n)[0]? = some s := by rw [hd]; rfl
   simpa using this
  have hd' : l.drop (n + 1) = m := by rw [← A110, hd]; rfl
  have hlt := B7 hget
  have hs : s ∈ all := ha.mem_iff.2 (B65.2 (by have := hm s (by simp); omega))
  have hf := B226 hs
  have hal : all.length <= 1000 := by rw [ha.length_eq, B78]; omega
  simp only [A28] at ho hn
  obtain ⟨a, h⟩ := B514 m (n + 1) (B102 all s (pos all s)) (out ++ [(pos all s : Int)]) hd' ((B152 hf.1).trans ha) (fun x hx => hm x (by simp [hx])) (by simp; omega) (by omega)
  refine ⟨a, ?_⟩
  have w2 : i64.wrap ((n : Int) + 1) = ((n + 1 : Nat) : Int) := w64 (by omega)
  rw [B5 (s' := (((n + 1 : Nat) : Int), B102 all s (pos all s), out ++ [(pos all s : Int)])), h, B42, A26]
  ·rfl
  ·unfold Z41l7 Z41l7_b
   simp only [A10, hlt, A7, A6, A17, A14, B21 hget, B914 hf hal, A3, B669 hf.1 hal, A24, w2]
   rw [A5 (by omega)]
theorem B650 {l : List Int} (hl : l.length <= 4001) (hm : ∀ x ∈ l, 0 <= x ∧ x < 257) : Z78 l = some 0 := by
 have go : ∀ (m k : Nat), k + m = l.length -> loop (Z150l2 l) (k : Int) = some (.inl ()) := by
  intro m
  induction m with
  | zero =>
   intro k hk
   refine B4 ?_
   unfold Z150l2 Z150l2_b
   simp only [A10, show ¬ k < l.length by omega, A9, A4, A1]
  | succ m ih =>
   intro k hk
   have hk' : k < l.length := by omega
   have hx := hm _ (rd_mem (l := l) (i := (k : Int)) (by omega) (by omega))
   have w2 : i64.wrap ((k : Int) + 1) = ((k + 1 : Nat) : Int) := w64 (by omega)
   rw [B5 (s' := ((k + 1 : Nat) : Int))]
   ·exact ih (k + 1) (by omega)
   ·unfold Z150l2 Z150l2_b
    simp only [A10, hk', A7, A6, A17, A14, Z160_eq, Z160_b, show ¬ rd l (k : Int) < 0 by omega, show ¬ rd l (k : Int) ≥ 257 by omega, A9, A4, A1, A3, w2]
 have h0 := go l.length 0 (by omega)
 have z0 : ((0 : Nat) : Int) = 0 := rfl
 rw [z0] at h0
 rw [Z78_eq, Z78_b, Z123_eq, Z123_b, Z150_eq, Z150_b, h0]
 simp only [show ¬ ((l.length : Nat) : Int) > 4001 by omega, A9, A4, A1, A3, A45, show ¬ (-1 : Int) ≥ 0 by omega]
theorem B763 : Z79 = some (iota 257) := by
 rw [Z79_eq, Z79_b]
 rw [A5 (by omega)]
 obtain ⟨r, r1, r2, r3⟩ := B437 (n := 257) (f := Z79l3 (List.replicate (257 : Int).toNat 0)) (h := fun i _ => (i : Int)) (V := fun _ => True)
  (fun i b x hb hx _ => by
   have hi := B7 hx
   have w2 : i64.wrap ((i : Int) + 1) = ((i + 1 : Nat) : Int) := w64 (by omega)
   unfold Z79l3
   simp only [A95, show (257 : Int).toNat = 257 from rfl, hb ▸ hi, A7, A6, A17, A14, A10, hi, A12, w2])
  (fun b hb => by
   unfold Z79l3
   simp only [A95, show (257 : Int).toNat = 257 from rfl, A10, Nat.lt_irrefl, A9, A4, A1])
  257 0 (List.replicate 257 0) (by omega) A95 (fun _ _ _ _ => trivial)
 have er := B400 r3
 subst er
 have z0 : ((0 : Nat) : Int) = 0 := rfl
 rw [z0] at r1
 have r1' : loop (Z79l3 (List.replicate (257 : Int).toNat 0)) (0, List.replicate (257 : Int).toNat 0) = some (iota 257) := r1
 simp only [r1', A3]
theorem B886 {l : List Int} (hl : l.length <= 4001) (hm : ∀ x ∈ l, 0 <= x ∧ x < 257) : Z41 l = some (B42 (iota 257) l, 0) := by
 rw [Z41_eq, Z41_b, B650 hl hm, B763]
 obtain ⟨a, h⟩ := B514 (l := l) l 0 (iota 257) [] rfl (.refl _) hm (by simp; omega) (by omega)
 have z0 : ((0 : Nat) : Int) = 0 := rfl
 rw [z0] at h
 simp only [A3, A7, A19, A4, A1, h, A25]
theorem B712 : ∀ l m : List Int, strLt l m = decide (cmpI l m < 0)
 | [], [] => rfl
 | [], _ :: _ => rfl
 | _ :: _, [] => rfl
 | x :: l, y :: m => by
  rw [strLt, cmpI, B712 l m]
  by_cases h : x < y
  ·simp [h]
  ·by_cases g : y < x
   ·simp [h, g, show ¬ x = y by omega]
   ·simp [h, g, show x = y by omega]
theorem B825 {t : List Int} {x y : Int} (hx : 0 <= x ∧ x <= (t.length : Int)) (hy : 0 <= y ∧ y <= (t.length : Int)) : Z154 t x y = some (ltS t x y) := by
 rw [Z154_eq]
 simp only [hx, hy, A32, A6, B712, cutL, A117]
 rfl
theorem B431 {R : Int -> Int -> Prop} {l m : List Int} {x : Int} {i : Nat} (h : l.Pairwise R) (e : l.drop i = x :: m) : ∀ y ∈ m, R x y := by
 have := h.drop (i := i)
 rw [e] at this
 exact (List.pairwise_cons.1 this).1
theorem B925 {t a b : List Int} (ha : PlL t a) (hb : PlL t b) (sa : a.Pairwise (leS t)) (sb : b.Pairwise (leS t)) (hal : a.length <= 100000) (hbl : b.length <= 100000) : ∀ (m i k : Nat) (out : List Int), a.length - i + (b.length - k) = m -> i <= a.length -> k <= b.length -> out.length + m <= 1000000 ->
  out.Pairwise (leS t) -> (∀ x ∈ out, ∀ y ∈ a.drop i ++ b.drop k, leS t x y) ->
  ∃ r, loop (Z130l6 t a b) ((i : Int), (k : Int), out) = some r ∧ r.Perm (out ++ (a.drop i ++ b.drop k)) ∧ r.Pairwise (leS t) := by
 intro m
 induction m with
 | zero =>
  intro i k out hm hi hk ho hp hq
  refine ⟨out, B4 ?_, ?_, hp⟩
  ·unfold Z130l6
   simp only [A10, show ¬ i < a.length by omega, show ¬ k < b.length by omega, A9, A4, A1, A3]
  ·rw [A98 (by omega), A98 (by omega)]; simp
 | succ m ih =>
  intro i k out hm hi hk ho hp hq
  have v13 : ((if decide (((i : Nat) : Int) < ((a.length : Nat) : Int)) = true then some true else some (decide (((k : Nat) : Int) < ((b.length : Nat) : Int)))) : Option Bool) = some true := by
   by_cases h : i < a.length
   ·rw [A5 (by simp only [A23]; omega)]
   ·rw [A8 (by simp only [A23]; omega)]
    simp only [A13, A23]; omega
  -- an element of the first is taken
  have goA : ∀ h : i < a.length, (∀ y ∈ b.drop k, leS t a[i] y) -> ((if decide ((k : Int) = (b.length : Int)) = true then some true else if decide ((i : Int) < (a.length : Int)) = true then if 0 <= (i : Int) ∧ (i : Int) < (a.length : Int) then if 0 <= (k : Int) ∧ (k : Int) < (b.length : Int) then (Z154 t (rd a (i : Int)) (rd b (k : Int))).bind fun q14 => some q14 else none else none else some false) : Option Bool) = some true ->
    ∃ r, loop (Z130l6 t a b) ((i : Int), (k : Int), out) = some r ∧ r.Perm (out ++ (a.drop i ++ b.drop k)) ∧ r.Pairwise (leS t) := by
   intro h hle v15
   have ed : a.drop i = a[i] :: a.drop (i + 1) := A74 h
   have hr : rd a (i : Int) = a[i] := B21 (A15 h)
   obtain ⟨r, r1, r2, r3⟩ := ih (i + 1) k (out ++ [a[i]]) (by omega) (by omega) hk (by simp; omega)
    (A129.2 ⟨hp, List.pairwise_singleton _ _, fun x hx y hy => by
     rw [A54] at hy; subst hy
     exact hq x hx _ (A88 _ (by rw [ed]; exact A21))⟩)
    (fun x hx y hy => by
     rcases A39.1 hx with hx | hx
     ·refine hq x hx y ?_
      rcases A39.1 hy with hy | hy
      ·exact A88 _ (by rw [ed]; exact A27 _ hy)
      ·exact A67 _ hy
     ·rw [A54] at hx; subst hx
      rcases A39.1 hy with hy | hy
      ·exact B431 sa ed y hy
      ·exact hle y hy)
   refine ⟨r, ?_, ?_, r3⟩
   ·have w2 : i64.wrap ((i : Int) + 1) = ((i + 1 : Nat) : Int) := w64 (by omega)
    rw [B5 (s' := (((i + 1 : Nat) : Int), (k : Int), out ++ [a[i]]))]
    ·exact r1
    ·unfold Z130l6
     simp only [v13, A3, A6, v15]
     simp only [A17, A14, A10, h, A6, hr, A24, w2]
     rw [A5 (by omega)]
   ·rw [ed]
    refine r2.trans ?_
    rw [A26]; exact List.Perm.refl _
  have goB : ∀ h : k < b.length, (∀ y ∈ a.drop i, leS t b[k] y) -> ((if decide ((k : Int) = (b.length : Int)) = true then some true else if decide ((i : Int) < (a.length : Int)) = true then if 0 <= (i : Int) ∧ (i : Int) < (a.length : Int) then if 0 <= (k : Int) ∧ (k : Int) < (b.length : Int) then (Z154 t (rd a (i : Int)) (rd b (k : Int))).bind fun q14 => some q14 else none else none else some false) : Option Bool) = some false ->
    ∃ r, loop (Z130l6 t a b) ((i : Int), (k : Int), out) = some r ∧ r.Perm (out ++ (a.drop i ++ b.drop k)) ∧ r.Pairwise (leS t) := by
   intro h hle v15
   have ed : b.drop k = b[k] :: b.drop (k + 1) := A74 h
   have hr : rd b (k : Int) = b[k] := B21 (A15 h)
   obtain ⟨r, r1, r2, r3⟩ := ih i (k + 1) (out ++ [b[k]]) (by omega) hi (by omega) (by simp; omega)
    (A129.2 ⟨hp, List.pairwise_singleton _ _, fun x hx y hy => by
     rw [A54] at hy; subst hy
     exact hq x hx _ (A67 _ (by rw [ed]; exact A21))⟩)
    (fun x hx y hy => by
     rcases A39.1 hx with hx | hx
     ·refine hq x hx y ?_
      rcases A39.1 hy with hy | hy
      ·exact A88 _ hy
      ·exact A67 _ (by rw [ed]; exact A27 _ hy)
     ·rw [A54] at hx; subst hx
      rcases A39.1 hy with hy | hy
      ·exact hle y hy
      ·exact B431 sb ed y hy)
   refine ⟨r, ?_, ?_, r3⟩
   ·have w2 : i64.wrap ((k : Int) + 1) = ((k + 1 : Nat) : Int) := w64 (by omega)
    rw [B5 (s' := ((i : Int), ((k + 1 : Nat) : Int), out ++ [b[k]]))]
    ·exact r1
    ·unfold Z130l6
     simp only [v13, A3, A6, v15, A4, A1]
     simp only [A17, A14, A10, h, A6, hr, A24, w2]
     rw [A5 (by omega)]
   ·rw [ed]
    refine r2.trans ?_
    rw [A26]
    refine List.Perm.append_left out ?_
    show (b[k] :: (a.drop i ++ b.drop (k + 1))).Perm (a.drop i ++ b[k] :: b.drop (k + 1))
    exact List.perm_middle.symm
  by_cases hkb : k = b.length
  ·refine goA (by omega) (fun y hy => ?_) ?_
   ·rw [A98 (by omega)] at hy; simp at hy
   ·rw [A5 (by simp only [A23]; omega)]
  ·have hk' : k < b.length := by omega
   by_cases hia : i < a.length
   ·have e1 : rd a (i : Int) = a[i] := B21 (A15 hia)
    have e2 : rd b (k : Int) = b[k] := B21 (A15 hk')
    have e3 := B825 (t := t) (ha a[i] (A100 hia)) (hb b[k] (A100 hk'))
    have eb : b.drop k = b[k] :: b.drop (k + 1) := A74 hk'
    have ea : a.drop i = a[i] :: a.drop (i + 1) := A74 hia
    cases hl : ltS t a[i] b[k] with
    | true =>
     refine goA hia (fun y hy => ?_) ?_
     ·rw [eb] at hy
      rcases A16.1 hy with hy | hy
      ·rw [hy]; exact lt_le hl
      ·exact B603 (lt_le hl) (B431 sb eb y hy)
     ·rw [A8 (by simp only [A23]; omega), A5 (by simp only [A23]; omega), A5 (by omega), A5 (by omega), e1, e2, e3, hl]; rfl
    | false =>
     refine goB hk' (fun y hy => ?_) ?_
     ·rw [ea] at hy
      rcases A16.1 hy with hy | hy
      ·rw [hy]; exact hl
      ·exact B603 (show leS t b[k] a[i] from hl) (B431 sa ea y hy)
     ·rw [A8 (by simp only [A23]; omega), A5 (by simp only [A23]; omega), A5 (by omega), A5 (by omega), e1, e2, e3, hl]; rfl
   ·refine goB hk' (fun y hy => ?_) ?_
    ·rw [A98 (by omega)] at hy; simp at hy
    ·rw [A8 (by simp only [A23]; omega), A8 (by simp only [A23]; omega)]
theorem B869 {t : List Int} : ∀ (n : Nat) (l : List Int), l.length <= n -> PlL t l -> l.length <= 100000 -> ∃ r, Z130 t l = some r ∧ r.Perm l ∧ r.Pairwise (leS t) := by
 intro n
 induction n using Nat.strongRecOn with
 | _ n ih =>
 intro l hn hp hl
 rw [Z130_eq]
 by_cases h2 : l.length < 2
 ·simp only [show ((l.length : Nat) : Int) < 2 by omega, A7, A6]
  refine ⟨l, rfl, .refl _, ?_⟩
  match l, h2 with
  | [], _ => exact .nil
  | [x], _ => exact List.pairwise_singleton _ _
 ·have w1 : i64.wrap (((l.length : Nat) : Int).tdiv 2) = ((l.length / 2 : Nat) : Int) := by rw [B27 (by omega), w64 (by omega)]; omega
  have e1 : cutL l 0 (l.length / 2) = l.take (l.length / 2) := by simp [cutL]
  have e2 : cutL l (l.length / 2) l.length = l.drop (l.length / 2) := by simp [cutL]
  obtain ⟨a, a1, a2, a3⟩ := ih (l.length / 2) (by omega) (l.take (l.length / 2)) (by simp; omega) (fun x hx => hp x (A79 hx)) (by simp; omega)
  obtain ⟨b, b1, b2, b3⟩ := ih (l.length - l.length / 2) (by omega) (l.drop (l.length / 2)) (by simp) (fun x hx => hp x (A93 hx)) (by simp; omega)
  have la : a.length = l.length / 2 := by rw [a2.length_eq]; simp; omega
  have lb : b.length = l.length - l.length / 2 := by rw [b2.length_eq]; simp
  obtain ⟨r, r1, r2, r3⟩ := B925 (t := t) (fun x hx => hp x (A79 (a2.mem_iff.1 hx))) (fun x hx => hp x (A93 (b2.mem_iff.1 hx))) a3 b3 (by omega) (by omega) (a.length + b.length) 0 0 [] (by omega) (by omega) (by omega) (by simp; omega) .nil (fun x hx => by simp at hx)
  have z0 : ((0 : Nat) : Int) = 0 := rfl
  rw [z0] at r1
  refine ⟨r, ?_, ?_, r3⟩
  ·simp only [show ¬ ((l.length : Nat) : Int) < 2 by omega, A9, A4, A1, w1, A12, show (0 : Int) <= ((l.length / 2 : Nat) : Int) by omega, show ((l.length / 2 : Nat) : Int) <= ((l.length : Nat) : Int) by omega, A32, A6, e1, e2, a1, b1, A3, r1]
  ·refine r2.trans ?_
   simp only [A25, List.drop_zero]
   have := a2.append b2
   rwa [A104] at this
theorem B867 {t : List Int} (ht : t.length <= 4000) : ∀ (m k : Nat), k + m = t.length + 1 -> loop (Z92l5 t) ((k : Int), iota k) = some (iota (t.length + 1)) := by
 intro m
 induction m with
 | zero =>
  intro k hk
  have : k = t.length + 1 := by omega
  subst this
  refine B4 ?_
  unfold Z92l5
  simp only [show ¬ (((t.length + 1 : Nat) : Int) <= ((t.length : Nat) : Int)) by omega, A9, A4, A1]
 | succ m ih =>
  intro k hk
  have w2 : i64.wrap ((k : Int) + 1) = ((k + 1 : Nat) : Int) := w64 (by omega)
  rw [B5 (s' := (((k + 1 : Nat) : Int), iota (k + 1)))]
  ·exact ih (k + 1) (by omega)
  ·unfold Z92l5
   simp only [show ((k : Nat) : Int) <= ((t.length : Nat) : Int) by omega, A7, A6, B78, A24, w2]
   rw [A5 (by omega)]
   simp only [iota, List.range_succ, A96, A57, A97]
theorem B697 {t : List Int} (ht : t.length <= 4000) : ∃ s, Z92 t = some (s, 0) ∧ s.Perm (iota (t.length + 1)) ∧ s.Pairwise (leS t) := by
 rw [Z92_eq]
 have h := B867 ht (t.length + 1) 0 (by omega)
 have z0 : ((0 : Nat) : Int) = 0 := rfl
 rw [z0] at h
 have e0 : iota 0 = [] := rfl
 rw [e0] at h
 obtain ⟨s, s1, s2, s3⟩ := B869 (t := t) (t.length + 1) (iota (t.length + 1)) (by rw [B78]; exact A11 _) (fun x hx => by have := B65.1 hx; omega) (by rw [B78]; omega)
 simp only [show ¬ ((t.length : Nat) : Int) > 4000 by omega, A9, A4, A1, h, A3, s1]
 exact ⟨s, rfl, s2, s3⟩
theorem B863 {t s : List Int} (hs : ∀ x ∈ s, 0 <= x ∧ x <= (t.length : Int)) (hl : s.length <= 100000) (ht : t.length <= 4000) (hb : ∀ x ∈ t, 0 <= x ∧ x <= 255) : ∀ (m k : Nat), k + m = s.length -> loop (Z50l6 t s) ((k : Int), (s.take k).map (colOf t)) = some (s.map (colOf t)) := by
 intro m
 induction m with
 | zero =>
  intro k hk
  have : k = s.length := by omega
  subst this
  refine B4 ?_
  unfold Z50l6
  simp only [A10, Nat.lt_irrefl, A9, A4, A1, A117]
 | succ m ih =>
  intro k hk
  have hk' : k < s.length := by omega
  have w2 : i64.wrap ((k : Int) + 1) = ((k + 1 : Nat) : Int) := w64 (by omega)
  have hr : rd s (k : Int) = s[k] := B21 (A15 hk')
  have hx := hs s[k] (A100 hk')
  have et : s.take (k + 1) = s.take k ++ [s[k]] := by rw [A116, A15 hk']; rfl
  rw [B5 (s' := (((k + 1 : Nat) : Int), (s.take (k + 1)).map (colOf t)))]
  ·exact ih (k + 1) (by omega)
  ·unfold Z50l6
   rw [et, A96, A57, A97]
   have ho : ((s.take k).map (colOf t)).length = k := by simp; omega
   by_cases h0 : s[k] = 0
   ·simp only [A10, hk', A7, A6, A17, A14, hr, h0, ho, A24, w2, colOf]
    rw [A5 (by omega)]
   ·have w3 : i64.wrap (s[k] - 1) = s[k] - 1 := w64 (by omega)
    have hm := hb _ (rd_mem (l := t) (i := s[k] - 1) (by omega) (by omega))
    have w4 : i64.wrap (rd t (s[k] - 1)) = rd t (s[k] - 1) := w64 (by omega)
    have w5 : i64.wrap (1 + rd t (s[k] - 1)) = rd t (s[k] - 1) + 1 := by rw [w64 (by omega)]; omega
    have c1 : 0 <= s[k] - 1 ∧ s[k] - 1 < (t.length : Int) := by omega
    simp only [A10, hk', A7, A6, A17, A14, hr, h0, A9, A4, A1, ho, A24, w3, A5 c1, w4, w5, w2, colOf]
    rw [A5 (by omega)]
theorem B731 {t : List Int} (hb : ∀ x ∈ t, 0 <= x ∧ x <= 255) : (t.length > 4000 ∧ Z38 t = some ([], 4) ∧ Z50 t = some ([], 4)) ∨
  (t.length <= 4000 ∧ ∃ s : List Int, s.Perm (iota (t.length + 1)) ∧ s.Pairwise (leS t) ∧ Z75 t = some (s.map (colOf t)) ∧ Z38 t = some (s.map (colOf t), 0) ∧ Z50 t = some (s.map (colOf t), 0) ∧ s.length = t.length + 1 ∧ ∀ x ∈ s.map (colOf t), 0 <= x ∧ x < 257) := by
 by_cases h : t.length <= 4000
 ·right
  refine ⟨h, ?_⟩
  obtain ⟨s, s1, s2, s3⟩ := B747 h
  obtain ⟨r, r1, r2, r3⟩ := B697 h
  have hv : PlL t s := fun x hx => by have := B65.1 (s2.mem_iff.1 hx); omega
  have e : s = r := B642 hv (s2.trans r2.symm) s3 r3
  subst e
  have hl : s.length = t.length + 1 := by rw [s2.length_eq, B78]
  have hc := B863 hv (by omega) h hb s.length 0 (by omega)
  have z0 : ((0 : Nat) : Int) = 0 := rfl
  rw [z0, A111, A97] at hc
  have hcol := B833 s1 s2 h hb
  refine ⟨s, s2, s3, hcol, ?_, ?_, hl, fun x hx => ?_⟩
  ·rw [Z38_eq, Z38_b, hcol]
   simp only [show ¬ ((t.length : Nat) : Int) > 4000 by omega, A9, A4, A1, A3]
  ·rw [Z50_eq, r1]
   simp only [A3, A7, A19, A4, A1, hc]
  ·obtain ⟨y, hy, rfl⟩ := A59.1 hx
   have := hv y hy
   unfold colOf
   split
   ·omega
   ·have := hb _ (rd_mem (l := t) (i := y - 1) (by omega) (by omega)); omega
 ·left
  refine ⟨by omega, ?_, ?_⟩
  ·rw [Z38_eq, Z38_b]
   simp only [show ((t.length : Nat) : Int) > 4000 by omega, A7, A6]
  ·rw [Z50_eq, Z92_eq]
   simp only [show ((t.length : Nat) : Int) > 4000 by omega, A7, A6, A3]
   rfl
end Go.Proofs.YtcphcfknnfibmaaGreat.P
