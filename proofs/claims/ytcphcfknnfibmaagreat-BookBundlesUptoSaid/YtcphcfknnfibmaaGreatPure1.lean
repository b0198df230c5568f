import Derived.Test.YtcphcfknnfibmaaGreatQs
import Derived.Test.YtcphcfknnfibmaaGreatF5
import Derived.Sort.LotA
import Derived.Sort.LotB
import Derived.Sort.LotC
import Derived.Sort.LotD1
import Derived.Sort.LotD3
open Go Go.IntKind Go.Proofs.YtcphcfknnfibmaaGreat.V
set_option linter.unusedVariables false
set_option linter.unusedSimpArgs false
set_option linter.unusedSectionVars false
set_option maxRecDepth 100000
namespace Go.Proofs.YtcphcfknnfibmaaGreat.P
def Both {α β : Type} (x : Option α) (y : Option β) (P : α -> β -> Prop) : Prop := ∃ a b, x = some a ∧ y = some b ∧ P a b
theorem Both.mk {α β : Type} {a : α} {b : β} {P : α -> β -> Prop} (h : P a b) : Both (some a) (some b) P := ⟨a, b, rfl, rfl, h⟩
theorem Both.bind {α β γ δ : Type} {x : Option α} {y : Option β} {P : α -> β -> Prop} {f : α -> Option γ} {g : β -> Option δ} {Q : γ -> δ -> Prop} (h : Both x y P) (k : ∀ a b, P a b -> Both (f a) (g b) Q) : Both (x.bind f) (y.bind g) Q := by
 obtain ⟨a, b, rfl, rfl, hp⟩ := h
 exact k a b hp
theorem Both.imp {α β : Type} {x : Option α} {y : Option β} {P Q : α -> β -> Prop} (h : Both x y P) (k : ∀ a b, P a b -> Q a b) : Both x y Q := by
 obtain ⟨a, b, h1, h2, hp⟩ := h
 exact ⟨a, b, h1, h2, k a b hp⟩
theorem Both.eq {α : Type} {x y : Option α} (h : Both x y Eq) : x = y := by
 obtain ⟨a, b, h1, h2, rfl⟩ := h
 rw [h1, h2]
def B877 {S S' A A' : Type} (R : S -> S' -> Prop) (Q : A -> A' -> Prop) : S ⊕ A -> S' ⊕ A' -> Prop
 | .inl s, .inl t => R s t
 | .inr a, .inr b => Q a b
 | _, _ => False
theorem Both.loop {S S' A A' : Type} {f : S -> Option (S ⊕ A)} {g : S' -> Option (S' ⊕ A')} (R : S -> S' -> Prop) (Q : A -> A' -> Prop) (m : S -> Nat)
  (h : ∀ s t, R s t -> Both (f s) (g t) (B877 (fun s' t' => R s' t' ∧ m s' < m s) Q)) : ∀ s t, R s t -> Both (V.loop f s) (V.loop g t) Q := by
 refine B991 R Q m fun s t hr => ?_
 obtain ⟨a, b, h1, h2, hp⟩ := h s t hr
 cases a with
 | inl s' =>
  cases b with
  | inl t' => exact .inl ⟨s', t', h1, h2, hp.1, hp.2⟩
  | inr _ => exact hp.elim
 | inr a =>
  cases b with
  | inl _ => exact hp.elim
  | inr b => exact .inr ⟨a, b, h1, h2, hp⟩
theorem B855 {X S S' A A' : Type} {f : Nat -> X -> S -> Option (S ⊕ A)} {g : Nat -> X -> S' -> Option (S' ⊕ A')} {fin : S -> Option A} {fin' : S' -> Option A'} (R : Nat -> S -> S' -> Prop) (Q : A -> A' -> Prop) :
  ∀ (l : List X) (n : Nat) (s : S) (t : S'), (∀ k x s t, l[k]? = some x -> R (n + k) s t -> Both (f (n + k) x s) (g (n + k) x t) (B877 (R (n + k + 1)) Q)) -> (∀ s t, R (n + l.length) s t -> Both (fin s) (fin' t) Q) ->
   R n s t -> Both (overL f fin n l s) (overL g fin' n l t) Q
 | [], n, s, t, _, hf, hr => by rw [B304, B304]; exact hf s t hr
 | x :: l, n, s, t, h, hf, hr => by
  obtain ⟨a, b, h1, h2, hp⟩ := h 0 x s t rfl hr
  rw [A36] at h1 h2 hp
  cases a with
  | inl s' =>
   cases b with
   | inl t' =>
    rw [B40 h1, B40 h2]
    refine B855 R Q l (n + 1) s' t' (fun k x s t hk hr => ?_) (fun s t hr => hf s t (by rw [A21]; rwa [show n + (l.length + 1) = n + 1 + l.length by omega])) hp
    have := h (k + 1) x s t (by simpa using hk) (by rwa [show n + (k + 1) = n + 1 + k by omega])
    rwa [show n + (k + 1) = n + 1 + k by omega] at this
   | inr b => exact hp.elim
  | inr a =>
   cases b with
   | inl _ => exact hp.elim
   | inr b => rw [B172 h1, B172 h2]; exact .mk hp
theorem B303 {X S A : Type} {f : Nat -> X -> S -> Option (S ⊕ A)} {fin : S -> Option A} (F : Nat -> S) : ∀ (l : List X) (n : Nat), (∀ k x, l[k]? = some x -> f (n + k) x (F (n + k)) = some (.inl (F (n + k + 1)))) -> overL f fin n l (F n) = fin (F (n + l.length))
 | [], n, _ => by rw [B304]; rfl
 | x :: l, n, h => by
  have h0 := h 0 x rfl
  rw [A36] at h0
  rw [B40 h0, B303 F l (n + 1) (fun k x hk => ?_), A21, show n + (l.length + 1) = n + 1 + l.length by omega]
  have := h (k + 1) x (by simpa using hk)
  rwa [show n + (k + 1) = n + 1 + k by omega] at this
theorem B1099 {b : Bool} {p : Prop} [Decidable p] (h : b = true ↔ p) : some b = some (decide p) := by
 congr 1
 cases b <;> simp_all
theorem rd_mem {l : List Int} {i : Int} (h0 : 0 <= i) (h1 : i < (l.length : Int)) : rd l i ∈ l := A41 (B208 h0 h1)
theorem B924 {X A : Type} (P : X -> Bool) {step : Nat -> X -> Unit -> Option (Unit ⊕ A)} {fin : Unit -> Option A} {a : A} (h : ∀ n x, step n x () = if P x = true then some (.inl ()) else some (.inr a)) :
  ∀ (l : List X) (n : Nat), overL step fin n l () = if l.all P = true then fin () else some a
 | [], n => by simp [B304]
 | x :: l, n => by
  by_cases hx : P x = true
  ·rw [B40 (s' := ()) (by rw [h, A3 hx]), B924 P h l (n + 1)]
   simp [hx]
  ·rw [B172 (a := a) (by rw [h, A7 hx])]
   simp [hx]
theorem B854 {X A : Type} {P : Nat -> X -> Prop} {step : Nat -> X -> Unit -> Option (Unit ⊕ A)} {fin : Unit -> Option A} {a : A} : ∀ (l : List X) (n : Nat),
  (∀ k x, l[k]? = some x -> P (n + k) x ∧ step (n + k) x () = some (.inl ()) ∨ ¬ P (n + k) x ∧ step (n + k) x () = some (.inr a)) ->
  (∀ k x, l[k]? = some x -> P (n + k) x) ∧ overL step fin n l () = fin () ∨ (¬ ∀ k x, l[k]? = some x -> P (n + k) x) ∧ overL step fin n l () = some a
 | [], n, _ => .inl ⟨fun k x h => by simp at h, rfl⟩
 | x :: l, n, h => by
  have h0 := h 0 x rfl
  rw [A36] at h0
  rcases h0 with ⟨h1, h2⟩ | ⟨h1, h2⟩
  ·rw [B40 h2]
   rcases B854 l (n + 1) (fun k y hk => by have := h (k + 1) y (by simpa using hk); rwa [show n + (k + 1) = n + 1 + k by omega] at this) with ⟨g1, g2⟩ | ⟨g1, g2⟩
   ·refine .inl ⟨fun k y hk => ?_, g2⟩
    cases k with
    | zero => simp at hk; subst hk; rw [A36]; exact h1
    | succ k => have := g1 k y (by simpa using hk); rwa [show n + 1 + k = n + (k + 1) by omega] at this
   ·refine .inr ⟨fun q => g1 fun k y hk => ?_, g2⟩
    have := q (k + 1) y (by simpa using hk)
    rwa [show n + (k + 1) = n + 1 + k by omega] at this
  ·exact .inr ⟨fun q => h1 (by simpa using q 0 x rfl), B172 h2⟩
theorem B857 {X S : Type} {step : Nat -> X -> S -> Option (S ⊕ S)} (P : Nat -> S -> Prop) : ∀ (l : List X) (n : Nat) (s : S), P n s -> (∀ k x s, l[k]? = some x -> P (n + k) s -> ∃ s', step (n + k) x s = some (.inl s') ∧ P (n + k + 1) s') ->
  ∃ s', overL step (fun s => some s) n l s = some s' ∧ P (n + l.length) s'
 | [], n, s, h, _ => ⟨s, rfl, h⟩
 | x :: l, n, s, h, hs => by
  obtain ⟨s', h1, h2⟩ := hs 0 x s rfl h
  rw [A36] at h1 h2
  obtain ⟨r, h3, h4⟩ := B857 P l (n + 1) s' h2 (fun k y t hk ht => by
   have := hs (k + 1) y t (by simpa using hk) (by rwa [show n + (k + 1) = n + 1 + k by omega])
   rwa [show n + (k + 1) = n + 1 + k by omega] at this)
  rw [B40 h1]
  exact ⟨r, h3, by rw [A21, show n + (l.length + 1) = n + 1 + l.length by omega]; exact h4⟩
theorem B856 {X S : Type} {step : Nat -> X -> S -> Option (S ⊕ S)} (h : ∀ n x s, ∃ s', step n x s = some (.inl s')) : ∀ (l : List X) (n : Nat) (s : S), ∃ r, overL step (fun s => some s) n l s = some r
 | [], n, s => ⟨s, rfl⟩
 | x :: l, n, s => by
  obtain ⟨s', h1⟩ := h n x s
  rw [B40 h1]
  exact B856 h l (n + 1) s'
def QL : List Int := [2048, 1792, 1568, 1372, 1201, 1051, 920, 805, 705, 617, 540, 473, 414, 363, 318, 279, 245, 215, 189, 166, 146, 128, 112, 98, 86, 76, 67, 59, 52, 46, 41, 36]
theorem B1018 : ∀ i : Fin 31, i64.wrap (rd QL ((i : Nat) : Int) - i64.wrap ((rd QL ((i : Nat) : Int)).tdiv 8)) = rd QL (((i : Nat) + 1 : Nat) : Int) := by decide +kernel
theorem B954 : ∀ i : Fin 32, 36 <= rd QL ((i : Nat) : Int) ∧ rd QL ((i : Nat) : Int) <= 2048 := by decide +kernel
theorem B401 {k : Nat} (hk : k < 32) : ∀ (d i : Nat), i + d = k -> loop (Z178l3 (k : Int)) (rd QL (i : Int), (i : Int)) = some (rd QL (k : Int))
 | 0, i, h => by
  have : i = k := by omega
  subst this
  refine B4 ?_
  unfold Z178l3
  simp
 | d + 1, i, h => by
  have hq := B1018 ⟨i, by omega⟩
  simp only at hq
  rw [B5 (s' := (rd QL ((i + 1 : Nat) : Int), ((i + 1 : Nat) : Int)))]
  ·exact B401 hk d (i + 1) (by omega)
  ·unfold Z178l3
   have h1 : (i : Int) < (k : Int) := by omega
   simp only [h1, A8, A6, hq]
   rw [w64 (by omega)]; rfl
theorem B499 {k : Int} (h0 : 0 <= k) (h1 : k < 32) : Z178 k = some (rd QL k) := by
 obtain ⟨n, rfl⟩ := A73 h0
 rw [Z178_eq]
 have := B401 (k := n) (by omega) n 0 (by omega)
 have h2 : rd QL ((0 : Nat) : Int) = 2048 := by decide
 rw [h2] at this
 rw [show ((0 : Nat) : Int) = 0 from rfl] at this
 rw [this]; rfl
def B58 (kind s : Int) : Prop := (kind = 0 ∧ 0 <= s ∧ s < 64) ∨ (kind = 1 ∧ 0 <= s ∧ s < 65536)
theorem B615 {kind s : Int} (h : B58 kind s) : Z174 kind s = Z161 kind s := by
 rw [Z174_eq, Z161_eq]
 rcases h with ⟨rfl, h0, h1⟩ | ⟨rfl, h0, h1⟩
 ·simp only [B20 h0]
  simp only [show ¬ ((0 : Int) = 1) by decide, A8, A9, A5, A6, A4]
  rw [B499 (by omega) (by omega)]
  by_cases h2 : s < 32
  ·have h3 : ¬ s ≥ 32 := by omega
   have h4 : s % 32 = s := by omega
   have h5 : s < ((32 : Nat) : Int) := by omega
   simp only [h2, h3, h4, h5, h0, A8, A9, A5, A6, A4, A31, A1]
   rfl
  ·have h3 : s ≥ 32 := by omega
   have h4 : s % 32 = s - 32 := by omega
   rw [w64 (n := s - 32) (by omega)]
   have h5 : 0 <= s - 32 := by omega
   have h6 : s - 32 < ((32 : Nat) : Int) := by omega
   simp only [h2, h3, h4, h5, h6, A8, A9, A5, A6, A4, A31, A1]
   rfl
 ·simp only [show ¬ ((1 : Int) = 0) by decide, A8, A9, A5, A6, A4]
theorem B597 {kind s bit : Int} (h : B58 kind s) (hb : bit = 0 ∨ bit = 1) : Z175 kind s bit = Z163 kind s bit := by
 rw [Z175_eq, Z163_eq]
 rcases h with ⟨rfl, h0, h1⟩ | ⟨rfl, h0, h1⟩
 ·simp only [B20 h0, B27 h0]
  simp only [show ¬ ((0 : Int) = 1) by decide, A8, A9, A5, A6, A4]
  by_cases h2 : bit = i64.wrap (s / 32)
  ·simp only [h2, A8, A6]
  ·simp only [h2, A9, A5, A4]
   by_cases h3 : s % 32 = 0
   ·simp only [h3, A8, A6]
    rw [w64 (n := 32 * bit) (by omega), Int.add_zero, w64 (by omega)]
   ·simp only [h3, A9, A5, A4]
    rw [B27 (by omega)]
    simp only [w64s]
    congr 1
    omega
 ·simp only [show ¬ ((1 : Int) = 0) by decide, A8, A9, A5, A6, A4]
theorem B246 (n : Int) : ishr .u64 n 24 = n / 16777216 := by
 unfold ishr
 rw [show (2 : Int) ^ (min (24 : Int).toNat IntKind.u64.bits) = 16777216 by decide, A113 _ (by decide)]
theorem ushl8 {n : Int} (h0 : 0 <= n) (h1 : n < 4294967296) : ishl .u64 n 8 = n * 256 := by
 unfold ishl
 rw [show (2 : Int) ^ (min (8 : Int).toNat IntKind.u64.bits) = 256 by decide, wu64]
 omega
theorem ubv (m : Nat) : BitVec.ofInt 64 (m : Int) = BitVec.ofNat 64 m := by simp
theorem B441 {n : Int} (h0 : 0 <= n) (h1 : n < 18446744073709551616) : iand .u64 n 4294967295 = n % 4294967296 := by
 obtain ⟨m, rfl⟩ := A73 h0
 unfold iand
 rw [show IntKind.u64.bits = 64 from rfl, show (4294967295 : Int) = ((4294967295 : Nat) : Int) from rfl, ubv, ubv, BitVec.toNat_and, BitVec.toNat_ofNat, BitVec.toNat_ofNat, wu64]
 rw [A89 (show m < 2 ^ 64 by omega), show (4294967295 : Nat) % 2 ^ 64 = 2 ^ 32 - 1 by decide, Nat.and_two_pow_sub_one_eq_mod]
 omega
theorem B943 {n : Int} (h0 : 0 <= n) (h1 : n < 18446744073709551616) (h : n % 256 = 0) : ior .u64 n 255 = n + 255 := by
 obtain ⟨m, rfl⟩ := A73 h0
 unfold ior
 rw [show IntKind.u64.bits = 64 from rfl, show (255 : Int) = ((255 : Nat) : Int) from rfl, ubv, ubv, BitVec.toNat_or, BitVec.toNat_ofNat, BitVec.toNat_ofNat, wu64]
 rw [A89 (show m < 2 ^ 64 by omega), show (255 : Nat) % 2 ^ 64 = 255 by decide]
 obtain ⟨k, hk⟩ : ∃ k, m = 2 ^ 8 * k := ⟨m / 256, by omega⟩
 subst hk
 rw [← Nat.two_pow_add_eq_or_of_lt (show 255 < 2 ^ 8 by decide)]
 omega
def Iv (lo hi : Int) : Prop := 0 <= lo ∧ lo <= hi ∧ hi < 4294967296
theorem B1039 {kind lo hi : Int} {st out : List Int} (h : Iv lo hi) : Z157 kind lo hi st out = some (lo / 16777216, kind, lo % 16777216 * 256, hi % 16777216 * 256 + 255, st, out) := by
 obtain ⟨h0, h1, h2⟩ := h
 rw [Z157_eq]
 simp only
 rw [B246, ushl8 h0 (by omega), ushl8 (by omega) h2, B441 (by omega) (by omega), B441 (by omega) (by omega), B943 (by omega) (by omega) (by omega), w8]
 congr 2
 ·omega
 ·congr 1
  congr 1
  ·omega
  ·congr 1
   omega
theorem B868 {lo hi : Int} (h : Iv lo hi) : Z165 lo hi = some (lo % 16777216 * 256, hi % 16777216 * 256 + 255) := by
 obtain ⟨h0, h1, h2⟩ := h
 rw [Z165_eq]
 simp only [B20 h0, B20 (show (0 : Int) <= hi by omega), wu64]
 congr 2 <;> omega
theorem B513 {lo hi : Int} : Z164 lo hi = some (decide (lo / 16777216 = hi / 16777216)) := by
 rw [Z164_eq]
 simp only [B246]
def midV (lo hi p : Int) : Int := lo + (hi - lo) / 4096 * p + (hi - lo) % 4096 * p / 4096
theorem B454 {lo hi p : Int} (h : lo <= hi) (hp : 0 <= p) : lo <= midV lo hi p := by
 unfold midV
 have h1 : 0 <= (hi - lo) / 4096 * p := A119 (by omega) hp
 have h2 : 0 <= (hi - lo) % 4096 * p := A119 (by omega) hp
 omega
theorem B455 {lo hi p : Int} (h : lo < hi) (hp : 0 <= p) (hp2 : p < 4096) : midV lo hi p < hi := by
 unfold midV
 have h1 : (hi - lo) / 4096 * p <= (hi - lo) / 4096 * 4095 := A120 (by omega) (by omega)
 have h2 : (hi - lo) % 4096 * p <= (hi - lo) % 4096 * 4095 := A120 (by omega) (by omega)
 omega
theorem B650 {lo hi p : Int} (h : Iv lo hi) (hp : 0 <= p) (hp2 : p < 4096) : Z179 lo hi p = some (midV lo hi p) := by
 obtain ⟨h0, h1, h2⟩ := h
 have a1 : 0 <= (hi - lo) / 4096 * p := A119 (by omega) hp
 have a2 : (hi - lo) / 4096 * p <= (hi - lo) / 4096 * 4095 := A120 (by omega) (by omega)
 have a3 : 0 <= (hi - lo) % 4096 * p := A119 (by omega) hp
 have a4 : (hi - lo) % 4096 * p <= (hi - lo) % 4096 * 4095 := A120 (by omega) (by omega)
 rw [Z179_eq]
 unfold midV
 simp only [wu64, show (hi - lo) % 18446744073709551616 = hi - lo by omega, B27 (show 0 <= hi - lo by omega), B20 (show 0 <= hi - lo by omega), show p % 18446744073709551616 = p by omega,
  show (hi - lo) / 4096 % 18446744073709551616 = (hi - lo) / 4096 by omega]
 rw [show (hi - lo) % 4096 * p % 18446744073709551616 = (hi - lo) % 4096 * p by omega, B27 a3]
 congr 1
 omega
theorem B1045 {lo hi p bit : Int} (h : Iv lo hi) (hp : 0 <= p) (hp2 : p < 4096) : Z162 lo hi p bit = some (if bit = 1 then (lo, midV lo hi p) else (midV lo hi p + 1, hi)) := by
 have hm := B454 h.2.1 hp
 have hm2 : midV lo hi p <= hi := by
  rcases Int.lt_or_le lo hi with h1 | h1
  ·have := B455 h1 hp hp2; omega
  ·have : hi = lo := by have := h.2.1; omega
   subst this
   unfold midV; simp
 have h2 := h.2.2
 have h0 := h.1
 rw [Z162_eq, B650 h hp hp2]
 by_cases hb : bit = 1
 ·simp only [hb, A8, A6, A1]
 ·simp only [hb, A9, A5, A4, A1, wu64]
  congr 2
  omega
theorem B1065 {ctx kind lo hi p : Int} {st out : List Int} (h : Iv lo hi) (hc : 0 <= ctx ∧ ctx < (st.length : Int)) (hq : Z161 kind (rd st ctx) = some p) (hs : B58 kind (rd st ctx)) (hp : 0 <= p) (hp2 : p < 4096) :
  Z154 ctx kind lo hi st out = some (midV lo hi p, kind, lo, hi, st, out) := by
 have hr := B650 h hp hp2
 rw [Z179_eq] at hr
 have hr := Option.some.inj hr
 rw [Z154_eq]
 simp only [hc, A31, A6, B615 hs, hq, A1]
 rw [hr]
theorem B640 {kind s : Int} (h : B58 kind s) : ∃ p, Z161 kind s = some p ∧ 0 <= p ∧ p < 4096 := by
 rw [Z161_eq]
 rcases h with ⟨rfl, h0, h1⟩ | ⟨rfl, h0, h1⟩
 ·simp only [B20 h0, A8, A6]
  rw [B499 (by omega) (by omega)]
  have hr := B954 ⟨(s % 32).toNat, by omega⟩
  simp only [show (((s % 32).toNat : Nat) : Int) = s % 32 by omega] at hr
  by_cases h2 : s < 32
  ·simp only [h2, A8, A6, A1]
   exact ⟨_, rfl, by omega, by omega⟩
  ·simp only [h2, A9, A5, A4, A1]
   exact ⟨_, rfl, by rw [w64 (by omega)]; omega, by rw [w64 (by omega)]; omega⟩
 ·simp only [B20 h0, B27 h0, show ¬ ((1 : Int) = 0) by decide, A9, A5, A4]
  have e1 : i64.wrap (s / 256) = s / 256 := w64 (by omega)
  have e2 : i64.wrap (2 * (s % 256)) = 2 * (s % 256) := w64 (by omega)
  have e3 : i64.wrap (2 * (s / 256)) = 2 * (s / 256) := w64 (by omega)
  rw [e1, e2, e3, w64 (n := 2 * (s / 256) + 2 * (s % 256)) (by omega), w64 (n := 2 * (s / 256) + 2 * (s % 256) + 2) (by omega), A7 (by omega)]
  refine ⟨_, rfl, ?_, ?_⟩ <;> rw [B345, B452] <;> omega
theorem B1053 {ctx bit mid kind lo hi : Int} {st out : List Int} (hb : bit = 0 ∨ bit = 1) (hc : 0 <= ctx ∧ ctx < (st.length : Int)) (hs : B58 kind (rd st ctx)) (hm : 0 <= mid ∧ mid < 4294967296) :
  Z155 ctx bit mid kind lo hi st out = (Z163 kind (rd st ctx) bit).bind fun s => some (if bit = 1 then (kind, lo, mid, st.set ctx.toNat s, out) else (kind, mid + 1, hi, st.set ctx.toNat s, out)) := by
 rw [Z155_eq]
 have hw : u64.wrap (mid + 1) = mid + 1 := by rw [wu64]; omega
 by_cases h1 : bit = 1
 ·simp only [h1, A8, A6, A1, hc, A31]
  rw [B597 hs (.inr rfl)]
 ·simp only [h1, A9, A5, A4, A1, hc, A31, A6, hw]
  rw [B597 hs hb]
theorem B683 {kind s bit : Int} (h : B58 kind s) (hb : bit = 0 ∨ bit = 1) : ∃ s', Z163 kind s bit = some s' ∧ B58 kind s' := by
 rw [Z163_eq]
 rcases h with ⟨rfl, h0, h1⟩ | ⟨rfl, h0, h1⟩
 ·simp only [B20 h0, B27 h0, A8, A6]
  rw [B27 (show 0 <= s % 32 by omega)]
  have e1 : i64.wrap (s / 32) = s / 32 := w64 (by omega)
  simp only [e1]
  by_cases h2 : bit = s / 32
  ·simp only [h2, A8, A6]
   refine ⟨_, rfl, .inl ⟨rfl, ?_⟩⟩
   rw [w64 (n := 32 * (s / 32)) (by omega), w64 (n := s % 32 + 1) (by omega), B345, w64 (by omega)]
   omega
  ·simp only [h2, A9, A5, A4]
   by_cases h3 : s % 32 = 0
   ·simp only [h3, A8, A6]
    exact ⟨_, rfl, .inl ⟨rfl, by rw [w64 (by omega)]; omega⟩⟩
   ·simp only [h3, A9, A5, A4]
    refine ⟨_, rfl, .inl ⟨rfl, ?_⟩⟩
    rw [w64 (n := 32 * (s / 32)) (by omega), w64 (n := 32 * (s / 32) + s % 32) (by omega), w64 (n := 32 * (s / 32) + s % 32 - 1) (by omega), w64 (n := s % 32 / 4) (by omega), w64 (by omega)]
    omega
 ·simp only [B20 h0, B27 h0, show ¬ ((1 : Int) = 0) by decide, A9, A5, A4]
  have e1 : i64.wrap (s / 256) = s / 256 := w64 (by omega)
  have e2 : i64.wrap ((s / 256).tdiv 2) = s / 256 / 2 := by rw [B27 (by omega), w64 (by omega)]
  have e3 : i64.wrap ((s % 256).tdiv 2) = s % 256 / 2 := by rw [B27 (by omega), w64 (by omega)]
  have c0 : 0 <= (0 : Int) ∧ (0 : Int) < ((2 : Nat) : Int) := by decide
  have c1 : 0 <= (1 : Int) ∧ (1 : Int) < ((2 : Nat) : Int) := by decide
  have r0 : ∀ a b : Int, rd [a, b] 0 = a := fun a b => rfl
  have r1 : ∀ a b : Int, rd [a, b] 1 = b := fun a b => rfl
  rcases hb with rfl | rfl
  ·simp only [c0, c1, A31, A6, e1, e2, e3, r0]
   by_cases h2 : s / 256 = 255
   ·simp only [h2, A8, A6, A1, r0]
    refine ⟨_, rfl, .inr ⟨rfl, ?_⟩⟩
    simp only [show ¬ ((0 : Int) = 1) by decide, A4, w64s]
    omega
   ·simp only [h2, A9, A5, A4, A1, r0]
    refine ⟨_, rfl, .inr ⟨rfl, ?_⟩⟩
    simp only [show ¬ ((0 : Int) = 1) by decide, A4, A6, w64s]
    omega
  ·simp only [c0, c1, A31, A6, e1, e2, e3, r1]
   by_cases h2 : s % 256 = 255
   ·simp only [h2, A8, A6, A1, r1]
    refine ⟨_, rfl, .inr ⟨rfl, ?_⟩⟩
    simp only [show ¬ ((1 : Int) = 0) by decide, A4, A6, w64s]
    omega
   ·simp only [h2, A9, A5, A4, A1, r1]
    refine ⟨_, rfl, .inr ⟨rfl, ?_⟩⟩
    simp only [show ¬ ((1 : Int) = 0) by decide, A4, A6, w64s]
    omega
def flush : Nat -> Int -> Int -> List Int -> Int × Int × List Int
 | 0, lo, hi, out => (lo, hi, out)
 | n + 1, lo, hi, out => if lo / 16777216 = hi / 16777216 then flush n (lo % 16777216 * 256) (hi % 16777216 * 256 + 255) (out ++ [hi / 16777216]) else (lo, hi, out)
def gapOf : Nat -> Int
 | 0 => 4294967295
 | 1 => 16777215
 | 2 => 65535
 | 3 => 255
 | _ => 0
theorem B370 {n : Nat} {d : Int} (h : gapOf (n + 1) <= d) (h0 : 0 <= d) : gapOf n <= 256 * d + 255 := by
 match n with
 | 0 => simp only [gapOf] at h ⊢; omega
 | 1 => simp only [gapOf] at h ⊢; omega
 | 2 => simp only [gapOf] at h ⊢; omega
 | 3 => simp only [gapOf] at h ⊢; omega
 | n + 4 => simp only [gapOf]; omega
theorem Iv.shift {lo hi : Int} (h : Iv lo hi) (e : lo / 16777216 = hi / 16777216) : Iv (lo % 16777216 * 256) (hi % 16777216 * 256 + 255) ∧ hi % 16777216 * 256 + 255 - lo % 16777216 * 256 = 256 * (hi - lo) + 255 := by
 obtain ⟨h0, h1, h2⟩ := h
 exact ⟨⟨by omega, by omega, by omega⟩, by omega⟩
theorem B488 {kind : Int} {st : List Int} : ∀ (n : Nat) (lo hi : Int) (out : List Int), Iv lo hi -> gapOf n <= hi - lo -> out.length + n <= 140737488355328 ->
  loop Z138l8 (kind, lo, hi, st, out) = some (kind, (flush n lo hi out).1, (flush n lo hi out).2.1, st, (flush n lo hi out).2.2)
 | 0, lo, hi, out, h, hg, hl => by
  refine B4 ?_
  unfold Z138l8
  simp only [B513, A1]
  simp only [gapOf] at hg
  have hne : ¬ lo / 16777216 = hi / 16777216 := by obtain ⟨h0, h1, h2⟩ := h; omega
  simp only [hne, A9, A5, A4, flush]
 | n + 1, lo, hi, out, h, hg, hl => by
  by_cases e : lo / 16777216 = hi / 16777216
  ·obtain ⟨h1, h2⟩ := h.shift e
   rw [B5 (s' := (kind, lo % 16777216 * 256, hi % 16777216 * 256 + 255, st, out ++ [hi / 16777216]))]
   ·rw [B488 n _ _ _ h1 (by rw [h2]; exact B370 hg (by have := h.2.1; omega)) (by simp; omega)]
    simp only [flush, e, A6]
   ·have hb : u8.wrap (hi / 16777216) = hi / 16777216 := by obtain ⟨q0, q1, q2⟩ := h; rw [w8]; omega
    unfold Z138l8
    simp only [B513, A1, B246, hb, B868 h]
    simp only [e, A8, A6, A26]
    rw [A3 (by omega)]
  ·refine B4 ?_
   unfold Z138l8
   simp only [B513, A1]
   simp only [e, A9, A5, A4, flush]
theorem B708 : ∀ (n : Nat) (lo hi : Int) (out : List Int), Iv lo hi -> gapOf n <= hi - lo -> Iv (flush n lo hi out).1 (flush n lo hi out).2.1 ∧ (flush n lo hi out).1 / 16777216 ≠ (flush n lo hi out).2.1 / 16777216 ∧ (flush n lo hi out).2.2.length <= out.length + n ∧ out.length <= (flush n lo hi out).2.2.length
 | 0, lo, hi, out, h, hg => by
  simp only [gapOf] at hg
  refine ⟨h, ?_, A11 _, A11 _⟩
  show lo / 16777216 ≠ hi / 16777216
  obtain ⟨h0, h1, h2⟩ := h
  omega
 | n + 1, lo, hi, out, h, hg => by
  by_cases e : lo / 16777216 = hi / 16777216
  ·obtain ⟨h1, h2⟩ := h.shift e
   have := B708 n _ _ (out ++ [hi / 16777216]) h1 (by rw [h2]; exact B370 hg (by have := h.2.1; omega))
   simp only [flush, e, A6]
   simp only [A13, A26] at this
   exact ⟨this.1, this.2.1, by omega, by omega⟩
  ·simp only [flush, e, A4]
   exact ⟨h, e, by omega, A11 _⟩
structure EncOk (kind lo hi : Int) (st : List Int) : Prop where
 two : kind = 0 ∨ kind = 1
 iv : Iv lo hi
 open_ : lo / 16777216 ≠ hi / 16777216
 states : ∀ s ∈ st, B58 kind s
theorem B930 {ctx bit kind lo hi : Int} {st out : List Int} (h : EncOk kind lo hi st) (hc : 0 <= ctx ∧ ctx < (st.length : Int)) (hb : bit = 0 ∨ bit = 1) (hl : out.length + 4 <= 140737488355328) :
  ∃ p s lo1 hi1, Z161 kind (rd st ctx) = some p ∧ 0 <= p ∧ p < 4096 ∧ Z163 kind (rd st ctx) bit = some s ∧ B58 kind s ∧ (lo1, hi1) = (if bit = 1 then (lo, midV lo hi p) else (midV lo hi p + 1, hi)) ∧ Iv lo1 hi1 ∧
   Z138 ctx bit kind lo hi st out = some (0, kind, (flush 4 lo1 hi1 out).1, (flush 4 lo1 hi1 out).2.1, st.set ctx.toNat s, (flush 4 lo1 hi1 out).2.2) := by
 have hs : B58 kind (rd st ctx) := h.states _ (A41 (B208 hc.1 hc.2))
 obtain ⟨p, hp, hp0, hp1⟩ := B640 hs
 obtain ⟨s, ha, hs'⟩ := B683 hs hb
 have hlt : lo < hi := by
  have := h.open_
  have := h.iv.2.1
  rcases Int.lt_or_le lo hi with q | q
  ·exact q
  ·exact absurd (by rw [show lo = hi by omega]) h.open_
 have hm := B454 h.iv.2.1 hp0
 have hm2 := B455 hlt hp0 hp1
 obtain ⟨i0, i1, i2⟩ := h.iv
 refine ⟨p, s, (if bit = 1 then (lo, midV lo hi p) else (midV lo hi p + 1, hi)).1, (if bit = 1 then (lo, midV lo hi p) else (midV lo hi p + 1, hi)).2, hp, hp0, hp1, ha, hs', rfl, ?_, ?_⟩
 ·split
  ·exact ⟨i0, hm, by omega⟩
  ·exact ⟨by show 0 <= midV lo hi p + 1; omega, by show midV lo hi p + 1 <= hi; omega, i2⟩
 ·have hiv : Iv (if bit = 1 then (lo, midV lo hi p) else (midV lo hi p + 1, hi)).1 (if bit = 1 then (lo, midV lo hi p) else (midV lo hi p + 1, hi)).2 := by
   split
   ·exact ⟨i0, hm, by omega⟩
   ·exact ⟨by show 0 <= midV lo hi p + 1; omega, by show midV lo hi p + 1 <= hi; omega, i2⟩
  rw [Z138_eq]
  have c1 : ¬ ctx < 0 := by omega
  have c2 : ¬ ctx ≥ ((st.length : Nat) : Int) := by omega
  have c3 : (if (!decide (bit = 0)) = true then some (!decide (bit = 1)) else some false) = some false := by rcases hb with rfl | rfl <;> rfl
  simp only [c1, c2, c3, A9, A5, A4, A1, hc, A31, A6, hp, ha, B1045 h.iv hp0 hp1]
  rw [B488 4 _ _ _ hiv (by simp only [gapOf]; have := hiv.2.1; omega) (by omega)]
  rfl
theorem B86 {n s m : Int} (hm : (2 : Int) ^ (min s.toNat IntKind.u64.bits) = m) (h0 : 0 <= m) : ishr .u64 n s = n / m := by
 unfold ishr; rw [hm, A113 _ h0]
theorem B133 {n s m : Int} (hm : (2 : Int) ^ (min s.toNat IntKind.u64.bits) = m) (h : 0 <= n * m ∧ n * m < 18446744073709551616) : ishl .u64 n s = n * m := by
 unfold ishl; rw [hm, wu64]; omega
def tbyte (hi : Int) : Nat -> Int
 | 0 => hi / 16777216 % 256
 | 1 => hi / 65536 % 256
 | 2 => hi / 256 % 256
 | _ => hi / 1 % 256
def cutH (hi : Int) : Nat -> Int
 | 0 => 0
 | 1 => hi / 16777216 * 16777216
 | 2 => hi / 65536 * 65536
 | 3 => hi / 256 * 256
 | _ => hi
def tbl (hi : Int) : Nat -> List Int
 | 0 => []
 | n + 1 => tbl hi n ++ [tbyte hi n]
theorem B174 (hi : Int) : ∀ n, (tbl hi n).length = n
 | 0 => rfl
 | n + 1 => by simp [tbl, B174 hi n]
theorem B786 {lo hi : Int} (h : Iv lo hi) : ∀ k, k < 4 -> cutH hi k < lo -> Z139l3 lo hi (cutH hi k, tbl hi k) = some (.inl (cutH hi (k + 1), tbl hi (k + 1))) := by
 intro k hk hlt
 obtain ⟨h0, h1, h2⟩ := h
 have hh : 0 <= hi := by omega
 unfold Z139l3
 simp only [hlt, A8, A6, B174, A26]
 rcases k with _ | _ | _ | _ | k
 ·have e : i64.wrap (24 - i64.wrap (8 * ((0 : Nat) : Int))) = 24 := by decide
  rw [e, B86 (m := 16777216) (by decide) (by decide), B20 (by omega), B133 (m := 16777216) (by decide) (by omega), wu64, w8]
  simp only [cutH, tbl, tbyte, A28]
  rw [A7 (by decide), A3 (by decide), A7 (by decide), A7 (by decide)]
  congr 3
  omega
 ·have e : i64.wrap (24 - i64.wrap (8 * ((0 + 1 : Nat) : Int))) = 16 := by decide
  rw [e, B86 (m := 65536) (by decide) (by decide), B20 (by omega), B133 (m := 65536) (by decide) (by omega), wu64, w8]
  simp only [cutH, tbl, tbyte, A28]
  rw [A7 (by decide), A3 (by decide), A7 (by decide), A7 (by decide)]
  congr 3
  omega
 ·have e : i64.wrap (24 - i64.wrap (8 * ((0 + 1 + 1 : Nat) : Int))) = 8 := by decide
  rw [e, B86 (m := 256) (by decide) (by decide), B20 (by omega), B133 (m := 256) (by decide) (by omega), wu64, w8]
  simp only [cutH, tbl, tbyte, A28]
  rw [A7 (by decide), A3 (by decide), A7 (by decide), A7 (by decide)]
  congr 3
  omega
 ·have e : i64.wrap (24 - i64.wrap (8 * ((0 + 1 + 1 + 1 : Nat) : Int))) = 0 := by decide
  rw [e, B86 (m := 1) (by decide) (by decide), B20 (by omega), B133 (m := 1) (by decide) (by omega), wu64, w8]
  simp only [cutH, tbl, tbyte, A28]
  rw [A7 (by decide), A3 (by decide), A7 (by decide), A7 (by decide)]
  congr 3
  omega
 ·omega
def endN (lo hi : Int) : Nat := if lo <= cutH hi 0 then 0 else if lo <= cutH hi 1 then 1 else if lo <= cutH hi 2 then 2 else if lo <= cutH hi 3 then 3 else 4
theorem B264 {lo hi : Int} (h : Iv lo hi) : endN lo hi <= 4 ∧ (∀ k, k < endN lo hi -> cutH hi k < lo) ∧ lo <= cutH hi (endN lo hi) := by
 unfold endN
 split
 ·exact ⟨by omega, fun k hk => by omega, ‹_›⟩
 ·split
  ·exact ⟨by omega, fun k hk => by obtain rfl : k = 0 := by omega
                                   omega, ‹_›⟩
  ·split
   ·refine ⟨by omega, fun k hk => ?_, ‹_›⟩
    rcases k with _ | _ | k <;> (try simp only [A22]) <;> omega
   ·split
    ·refine ⟨by omega, fun k hk => ?_, ‹_›⟩
     rcases k with _ | _ | _ | k <;> (try simp only [A22, Nat.reduceAdd]) <;> omega
    ·refine ⟨by omega, fun k hk => ?_, h.2.1⟩
     rcases k with _ | _ | _ | _ | k <;> (try simp only [A22, Nat.reduceAdd]) <;> omega
theorem B487 {lo hi : Int} (h : Iv lo hi) : ∀ d k, k + d = endN lo hi -> loop (Z139l3 lo hi) (cutH hi k, tbl hi k) = some (tbl hi (endN lo hi))
 | 0, k, hk => by
  obtain ⟨_, _, h3⟩ := B264 h
  rw [A36] at hk
  rw [← hk] at h3 ⊢
  refine B4 ?_
  unfold Z139l3
  have : ¬ cutH hi k < lo := by omega
  simp only [this, A9, A5, A4]
 | d + 1, k, hk => by
  obtain ⟨h1, h2, _⟩ := B264 h
  rw [B5 (B786 h k (by omega) (h2 k (by omega)))]
  exact B487 h d (k + 1) (by omega)
theorem B649 {kind lo hi : Int} {st out : List Int} (h : Iv lo hi) (hl : out.length + 4 <= 140737488355328) : Z95 kind lo hi st out = some (out ++ tbl hi (endN lo hi), kind, lo, hi, st, out) := by
 have h1 := (B264 h).1
 rw [Z95_eq, Z139_eq]
 have := B487 h (endN lo hi) 0 (by omega)
 rw [show cutH hi 0 = 0 from rfl, show tbl hi 0 = [] from rfl] at this
 rw [this]
 simp only [A35, A28, A1, B174]
 rw [A3 (by omega), A3 (by omega)]
theorem B532 {lo hi : Int} (h : Iv lo hi) {n : Nat} (hn : n <= 4) {out : List Int} (hl : out.length + 4 <= 140737488355328) : ∀ d k, k + d = n -> loop (Z84l10 hi (n : Int)) ((k : Int), out ++ tbl hi k) = some (out ++ tbl hi n)
 | 0, k, hk => by
  rw [A36] at hk
  subst hk
  refine B4 ?_
  unfold Z84l10
  simp
 | d + 1, k, hk => by
  rw [B5 (s' := (((k + 1 : Nat) : Int), out ++ tbl hi (k + 1)))]
  ·exact B532 h hn hl d (k + 1) (by omega)
  ·obtain ⟨h0, h1, h2⟩ := h
   unfold Z84l10
   have h3 : (k : Int) < (n : Int) := by omega
   simp only [h3, A8, A6, A13, B174, A26]
   have hw : i64.wrap ((k : Int) + 1) = ((k + 1 : Nat) : Int) := by rw [w64 (by omega)]; rfl
   have e : i64.wrap (24 - i64.wrap (8 * (k : Int))) = 24 - 8 * (k : Int) := by rw [w64 (n := 8 * (k : Int)) (by omega), w64 (by omega)]
   have hb : u8.wrap (ishr .u64 hi (24 - 8 * (k : Int))) = tbyte hi k := by
    rcases k with _ | _ | _ | _ | k
    ·rw [B86 (m := 16777216) (by decide) (by decide), w8]; rfl
    ·rw [B86 (m := 65536) (by decide) (by decide), w8]; rfl
    ·rw [B86 (m := 256) (by decide) (by decide), w8]; rfl
    ·rw [B86 (m := 1) (by decide) (by decide), w8]; rfl
    ·omega
   rw [e, hb, hw, A7 (by omega), A3 (by omega)]
   simp only [tbl, A27]
theorem B474 {lo hi : Int} (h : Iv lo hi) {out : List Int} (hl : out.length + 4 <= 140737488355328) : ∀ d k, k + d = endN lo hi -> loop (Z84l5 lo hi) ((k : Int), out) = some (Sum.inr (out ++ tbl hi (endN lo hi)))
 | d, k, hk => by
  obtain ⟨q1, q2, q3⟩ := B264 h
  have hk4 : k <= 4 := by omega
  have e : u64.wrap (i64.wrap (32 - i64.wrap (8 * (k : Int)))) = 32 - 8 * (k : Int) := by rw [w64 (n := 8 * (k : Int)) (by omega), w64 (by omega), wu64]; omega
  have hc : ishl .u64 (ishr .u64 hi (32 - 8 * (k : Int))) (32 - 8 * (k : Int)) = cutH hi k := by
   obtain ⟨h0, h1, h2⟩ := h
   rcases k with _ | _ | _ | _ | _ | k
   ·rw [B86 (m := 4294967296) (by decide) (by decide), B133 (m := 4294967296) (by decide) (by omega)]
    show _ = (0 : Int)
    omega
   ·rw [B86 (m := 16777216) (by decide) (by decide), B133 (m := 16777216) (by decide) (by omega)]; rfl
   ·rw [B86 (m := 65536) (by decide) (by decide), B133 (m := 65536) (by decide) (by omega)]; rfl
   ·rw [B86 (m := 256) (by decide) (by decide), B133 (m := 256) (by decide) (by omega)]; rfl
   ·rw [B86 (m := 1) (by decide) (by decide), B133 (m := 1) (by decide) (by omega)]
    show _ = hi
    omega
   ·omega
  have h5 : (k : Int) < 5 := by omega
  cases d with
  | zero =>
   rw [A36] at hk
   subst hk
   refine B4 ?_
   unfold Z84l5
   simp only [h5, A8, A6, e, hc]
   rw [A7 (by omega), A7 (by omega)]
   have h6 : cutH hi (endN lo hi) ≥ lo := q3
   simp only [h6, A8, A6]
   have := B532 h q1 hl (endN lo hi) 0 (by omega)
   simp only [tbl, A38] at this
   rw [show ((0 : Nat) : Int) = 0 from rfl] at this
   rw [this]; rfl
  | succ d =>
   rw [B5 (s' := (((k + 1 : Nat) : Int), out))]
   ·exact B474 h hl d (k + 1) (by omega)
   ·unfold Z84l5
    simp only [h5, A8, A6, e, hc]
    rw [A7 (by omega), A7 (by omega)]
    have h6 : ¬ cutH hi k ≥ lo := by have := q2 k (by omega); omega
    have hw : i64.wrap ((k : Int) + 1) = ((k + 1 : Nat) : Int) := by rw [w64 (by omega)]; rfl
    simp only [h6, A9, A5, A4, hw]
theorem B1059 {kind lo hi : Int} {st out : List Int} (h : Iv lo hi) (hl : out.length + 4 <= 140737488355328) : Z84 kind lo hi st out = Z95 kind lo hi st out := by
 rw [B649 h hl, Z84_eq, Z124_eq]
 have := B474 h hl (endN lo hi) 0 (by omega)
 rw [show ((0 : Nat) : Int) = 0 from rfl] at this
 simp only [A1, A5, A4, A35, A28, this]
 rw [A3 (by omega)]
 rfl
theorem B386 {st : List Int} {e : Int} (hl : st.length <= 8192) (hs : ∀ s ∈ st, 0 <= s ∧ s < e) : ∀ d k, k + d = st.length -> loop (Z112l7 st e) (k : Int) = some (Sum.inl ())
 | 0, k, hk => by
  refine B4 ?_
  unfold Z112l7
  have : ¬ (k : Int) < ((st.length : Nat) : Int) := by omega
  simp only [this, A9, A5, A4]
 | d + 1, k, hk => by
  rw [B5 (s' := ((k + 1 : Nat) : Int))]
  ·exact B386 hl hs d (k + 1) (by omega)
  ·have h1 : (k : Int) < ((st.length : Nat) : Int) := by omega
   have h0 : (0 : Int) <= (k : Int) := by omega
   obtain ⟨a1, a2⟩ := hs _ (A41 (B208 h0 h1))
   have n1 : ¬ rd st (k : Int) < 0 := by omega
   have n2 : ¬ rd st (k : Int) ≥ e := by omega
   have hw : i64.wrap ((k : Int) + 1) = ((k + 1 : Nat) : Int) := by rw [w64 (by omega)]; rfl
   unfold Z112l7
   simp only [h1, h0, n1, n2, hw, A8, A9, A5, A6, A4, A31]
theorem B324 {st : List Int} {e : Int} (hl : st.length <= 8192) (hs : ∀ s ∈ st, 0 <= s ∧ s <= e) : ∀ d k, k + d = st.length -> loop (Z131l7 st e) (k : Int) = some (Sum.inl ())
 | 0, k, hk => by
  refine B4 ?_
  unfold Z131l7
  have : ¬ (k : Int) < ((st.length : Nat) : Int) := by omega
  simp only [this, A9, A5, A4]
 | d + 1, k, hk => by
  rw [B5 (s' := ((k + 1 : Nat) : Int))]
  ·exact B324 hl hs d (k + 1) (by omega)
  ·have h1 : (k : Int) < ((st.length : Nat) : Int) := by omega
   have h0 : (0 : Int) <= (k : Int) := by omega
   obtain ⟨a1, a2⟩ := hs _ (A41 (B208 h0 h1))
   have n1 : ¬ rd st (k : Int) < 0 := by omega
   have n2 : ¬ rd st (k : Int) > e := by omega
   have hw : i64.wrap ((k : Int) + 1) = ((k + 1 : Nat) : Int) := by rw [w64 (by omega)]; rfl
   unfold Z131l7
   simp only [h1, h0, n1, n2, hw, A8, A9, A5, A6, A4, A31]
theorem B757 {kind : Int} {st : List Int} (hk : kind = 0 ∨ kind = 1) (hl : st.length <= 8192) (hs : ∀ s ∈ st, B58 kind s) : Z112 kind st = some true ∧ Z131 kind st = some true := by
 have hn : ¬ ((st.length : Nat) : Int) > 8192 := by omega
 rw [Z112_eq, Z131_eq]
 rcases hk with rfl | rfl
 ·have h1 := B386 (e := 64) hl (fun s h => by rcases hs s h with q | q <;> omega) st.length 0 (by omega)
  have h2 := B324 (e := 63) hl (fun s h => by rcases hs s h with q | q <;> omega) st.length 0 (by omega)
  rw [show ((0 : Nat) : Int) = 0 from rfl] at h1 h2
  constructor
  ·simp only [hn, show ¬ ((0 : Int) = 1) by decide, A8, A9, A14, A46, A5, A6, A4, A1, h1, A43]
  ·simp only [hn, show ¬ ((0 : Int) = 1) by decide, A8, A9, A14, A46, A5, A6, A4, A1, h2, A43]
 ·have h1 := B386 (e := 65536) hl (fun s h => by rcases hs s h with q | q <;> omega) st.length 0 (by omega)
  have h2 := B324 (e := 65535) hl (fun s h => by rcases hs s h with q | q <;> omega) st.length 0 (by omega)
  rw [show ((0 : Nat) : Int) = 0 from rfl] at h1 h2
  constructor
  ·simp only [hn, show ¬ ((1 : Int) = 0) by decide, A8, A9, A14, A46, A5, A6, A4, A1, h1, A43]
  ·simp only [hn, show ¬ ((1 : Int) = 0) by decide, A8, A9, A14, A46, A5, A6, A4, A1, h2, A43]
theorem B363 {kind : Int} {st : List Int} (hl : st.length <= 8192) : Z151 kind st = some (kind, st) ∧ Z132 kind st = some (kind, st) := by
 rw [Z151_eq, Z132_eq]
 simp only [A35, A28, A22]
 rw [A3 (by omega)]
 exact ⟨rfl, rfl⟩
theorem B396 {kind : Int} {st : List Int} (hk : kind = 0 ∨ kind = 1) (hl : st.length <= 8192) (hs : ∀ s ∈ st, B58 kind s) :
  Z80 kind st = some (Sum.inl (kind, 0, 4294967295, st, [])) ∧ Z92 kind st = some (Sum.inl (kind, 0, 4294967295, st, [])) ∧ EncOk kind 0 4294967295 st := by
 obtain ⟨h1, h2⟩ := B757 hk hl hs
 obtain ⟨c1, c2⟩ := B363 (kind := kind) hl
 refine ⟨?_, ?_, ⟨hk, ⟨by decide, by decide, by decide⟩, by decide, hs⟩⟩
 ·rw [Z80_eq, h1, Z113_eq, c1, Z152_eq]; rfl
 ·rw [Z92_eq, h2, c2, Z133_eq]; rfl
theorem B919 {kind n : Int} (hk : kind = 0 ∨ kind = 1) (h0 : 0 <= n) (h1 : n <= 8192) : Z79 kind n = some (kind, 0, List.replicate n.toNat 0) ∧ Z91 kind n = some (kind, 0, List.replicate n.toNat 0) := by
 have a1 : ¬ n < 0 := by omega
 have a2 : ¬ n > 8192 := by omega
 have a3 : 0 <= n ∧ n <= n ∧ ((8 : Nat) : Int) * n <= 281474976710656 := ⟨h0, Int.le_refl _, by omega⟩
 rw [Z79_eq, Z91_eq]
 rcases hk with rfl | rfl
 ·simp only [a1, a2, a3, A8, A9, A14, A46, A5, A6, A4, A1, A31]
 ·simp only [a1, a2, a3, show ¬ ((1 : Int) = 0) by decide, A8, A9, A14, A46, A5, A6, A4, A1, A31]
theorem B376 {kind : Int} (hk : kind = 0 ∨ kind = 1) (n : Nat) : ∀ s ∈ List.replicate n (0 : Int), B58 kind s := by
 intro s hs
 rw [(List.mem_replicate.1 hs).2]
 rcases hk with rfl | rfl
 ·exact .inl ⟨rfl, by decide, by decide⟩
 ·exact .inr ⟨rfl, by decide, by decide⟩
abbrev EncS := Int × Int × Int × List Int × List Int
noncomputable def chV (kind s : Int) : Int := match Z161 kind s with
 | some p => p
 | none => 0
noncomputable def nxV (kind s bit : Int) : Int := match Z163 kind s bit with
 | some p => p
 | none => 0
noncomputable def cutV (e : EncS) (c : Int) : Int := midV e.2.1 e.2.2.1 (chV e.1 (rd e.2.2.2.1 c))
noncomputable def subV (e : EncS) (c b : Int) : Int × Int := if b = 1 then (e.2.1, cutV e c) else (cutV e c + 1, e.2.2.1)
noncomputable def B19 (e : EncS) (v : Int × Int) : EncS :=
 let f := flush 4 (subV e v.1 v.2).1 (subV e v.1 v.2).2 e.2.2.2.2
 (e.1, f.1, f.2.1, e.2.2.2.1.set v.1.toNat (nxV e.1 (rd e.2.2.2.1 v.1) v.2), f.2.2)
noncomputable def B22 (e : EncS) (l : List (Int × Int)) : EncS := l.foldl B19 e
theorem B840 (e : EncS) (a b : List (Int × Int)) : B22 e (a ++ b) = B22 (B22 e a) b := by
 unfold B22
 rw [List.foldl_append]
theorem B599 {kind lo hi : Int} {st out : List Int} : Z156 kind lo hi st out = some (decide (lo / 16777216 = hi / 16777216), kind, lo, hi, st, out) := by
 rw [Z156_eq]
 simp only [B246]
theorem B737 {kind : Int} {st : List Int} : ∀ (n : Nat) (lo hi : Int) (out : List Int), Iv lo hi -> gapOf n <= hi - lo -> out.length + n <= 140737488355328 ->
  loop Z118l6 (kind, lo, hi, st, out) = some (kind, (flush n lo hi out).1, (flush n lo hi out).2.1, st, (flush n lo hi out).2.2)
 | 0, lo, hi, out, h, hg, hl => by
  refine B4 ?_
  unfold Z118l6
  simp only [B599, A1]
  simp only [gapOf] at hg
  have hne : ¬ lo / 16777216 = hi / 16777216 := by obtain ⟨h0, h1, h2⟩ := h; omega
  simp only [hne, A9, A5, A4, flush]
 | n + 1, lo, hi, out, h, hg, hl => by
  by_cases e : lo / 16777216 = hi / 16777216
  ·obtain ⟨h1, h2⟩ := h.shift e
   rw [B5 (s' := (kind, lo % 16777216 * 256, hi % 16777216 * 256 + 255, st, out ++ [hi / 16777216]))]
   ·rw [B737 n _ _ _ h1 (by rw [h2]; exact B370 hg (by have := h.2.1; omega)) (by simp; omega)]
    simp only [flush, e, A6]
   ·unfold Z118l6
    simp only [B599, A1, B1039 h]
    simp only [e, A8, A6, A26]
    rw [A3 (by omega)]
  ·refine B4 ?_
   unfold Z118l6
   simp only [B599, A1]
   simp only [e, A9, A5, A4, flush]
theorem B1068 {ctx bit kind lo hi : Int} {st out : List Int} (h : EncOk kind lo hi st) (hc : 0 <= ctx ∧ ctx < (st.length : Int)) (hb : bit = 0 ∨ bit = 1) (hl : out.length + 4 <= 140737488355328) :
  Z118 ctx bit kind lo hi st out = some (0, B19 (kind, lo, hi, st, out) (ctx, bit)) ∧ Z138 ctx bit kind lo hi st out = some (0, B19 (kind, lo, hi, st, out) (ctx, bit)) := by
 obtain ⟨p, s, lo1, hi1, hp, hp0, hp1, ha, hs', hpart, hiv, href⟩ := B930 h hc hb hl
 have hs : B58 kind (rd st ctx) := h.states _ (A41 (B208 hc.1 hc.2))
 have ee : B19 (kind, lo, hi, st, out) (ctx, bit) = (kind, (flush 4 lo1 hi1 out).1, (flush 4 lo1 hi1 out).2.1, st.set ctx.toNat s, (flush 4 lo1 hi1 out).2.2) := by
  have e1 : chV kind (rd st ctx) = p := by unfold chV; rw [hp]
  have e2 : nxV kind (rd st ctx) bit = s := by unfold nxV; rw [ha]
  unfold B19 subV cutV
  simp only [e1, e2]
  rw [← hpart]
 rw [ee]
 have hlt : lo < hi := by
  rcases Int.lt_or_le lo hi with q | q
  ·exact q
  ·exact absurd (by rw [show lo = hi by have := h.iv.2.1; omega]) h.open_
 have hm := B454 h.iv.2.1 hp0
 have hm2 := B455 hlt hp0 hp1
 obtain ⟨i0, i1, i2⟩ := h.iv
 have hgap : gapOf 4 <= hi1 - lo1 := by simp only [gapOf]; have := hiv.2.1; omega
 refine ⟨?_, href⟩
 rw [Z118_eq, Z124_eq]
 have c1 : ¬ ctx < 0 := by omega
 have c2 : ¬ ctx ≥ ((st.length : Nat) : Int) := by omega
 have c3 : (if (!decide (bit = 0)) = true then some (!decide (bit = 1)) else some false) = some false := by rcases hb with rfl | rfl <;> rfl
 simp only [c1, c2, c3, A9, A5, A4, A1, B1065 h.iv hc hp hs hp0 hp1, B1053 hb hc hs ⟨show 0 <= midV lo hi p by omega, by omega⟩, ha, A43]
 have e : (if bit = 1 then (kind, lo, midV lo hi p, st.set ctx.toNat s, out) else (kind, midV lo hi p + 1, hi, st.set ctx.toNat s, out)) = (kind, lo1, hi1, st.set ctx.toNat s, out) := by
  split at hpart <;> rename_i q <;> simp only [A33] at hpart <;> obtain ⟨rfl, rfl⟩ := hpart <;> simp [q]
 rw [e]
 simp only
 rw [B737 4 _ _ _ hiv hgap (by omega)]
 rfl
theorem B890 {kind s : Int} (h : B58 kind s) : Z161 kind s = some (chV kind s) ∧ 0 <= chV kind s ∧ chV kind s < 4096 := by
 obtain ⟨p, hp, h0, h1⟩ := B640 h
 unfold chV
 rw [hp]
 exact ⟨rfl, h0, h1⟩
theorem B921 {kind s bit : Int} (h : B58 kind s) (hb : bit = 0 ∨ bit = 1) : Z163 kind s bit = some (nxV kind s bit) ∧ B58 kind (nxV kind s bit) := by
 obtain ⟨p, hp, h0⟩ := B683 h hb
 unfold nxV
 rw [hp]
 exact ⟨rfl, h0⟩
def EncO (e : EncS) : Prop := EncOk e.1 e.2.1 e.2.2.1 e.2.2.2.1
def EvP (n : Nat) (v : Int × Int) : Prop := (0 <= v.1 ∧ v.1 < (n : Int)) ∧ (v.2 = 0 ∨ v.2 = 1)
theorem EncO.lt {e : EncS} (h : EncO e) : e.2.1 < e.2.2.1 := by
 rcases Int.lt_or_le e.2.1 e.2.2.1 with q | q
 ·exact q
 ·exact absurd (by rw [show e.2.1 = e.2.2.1 by have := h.iv.2.1; omega]) h.open_
theorem B448 {e : EncS} (h : EncO e) {c : Int} (hc : 0 <= c ∧ c < (e.2.2.2.1.length : Int)) : B58 e.1 (rd e.2.2.2.1 c) ∧ e.2.1 <= cutV e c ∧ cutV e c < e.2.2.1 := by
 have hs : B58 e.1 (rd e.2.2.2.1 c) := h.states _ (A41 (B208 hc.1 hc.2))
 obtain ⟨_, p0, p1⟩ := B890 hs
 exact ⟨hs, B454 h.iv.2.1 p0, B455 h.lt p0 p1⟩
theorem B461 {e : EncS} (h : EncO e) {c b : Int} (hc : 0 <= c ∧ c < (e.2.2.2.1.length : Int)) : Iv (subV e c b).1 (subV e c b).2 := by
 obtain ⟨_, h1, h2⟩ := B448 h hc
 obtain ⟨i0, i1, i2⟩ := h.iv
 unfold subV
 split
 ·exact ⟨i0, h1, by show cutV e c < _; omega⟩
 ·exact ⟨by show 0 <= cutV e c + 1; omega, by show cutV e c + 1 <= e.2.2.1; omega, i2⟩
theorem gap4 {lo hi : Int} (h : Iv lo hi) : gapOf 4 <= hi - lo := by simp only [gapOf]; have := h.2.1; omega
theorem B197 {e : EncS} (h : EncO e) {v : Int × Int} (hv : EvP e.2.2.2.1.length v) : EncO (B19 e v) ∧ (B19 e v).2.2.2.1.length = e.2.2.2.1.length ∧ (B19 e v).2.2.2.2.length <= e.2.2.2.2.length + 4 := by
 obtain ⟨hs, _⟩ := B448 h hv.1
 have hi := B461 h hv.1 (b := v.2)
 obtain ⟨f1, f2, f3, f4⟩ := B708 4 _ _ e.2.2.2.2 hi (gap4 hi)
 refine ⟨⟨h.two, f1, f2, fun x hx => ?_⟩, A59, f3⟩
 rcases List.mem_or_eq_of_mem_set hx with q | rfl
 ·exact h.states x q
 ·exact (B921 hs hv.2).2
def EncAt (N B : Nat) (s : EncS) : Prop := EncOk s.1 s.2.1 s.2.2.1 s.2.2.2.1 ∧ s.2.2.2.1.length = N ∧ s.2.2.2.2.length <= B
theorem B1067 {N B : Nat} {s : EncS} (h : EncAt N B s) {c b : Int} (hc : 0 <= c ∧ c < (N : Int)) (hb : b = 0 ∨ b = 1) (hB : B <= 1000000000) :
  Z118 c b s.1 s.2.1 s.2.2.1 s.2.2.2.1 s.2.2.2.2 = some (0, B19 s (c, b)) ∧ Z138 c b s.1 s.2.1 s.2.2.1 s.2.2.2.1 s.2.2.2.2 = some (0, B19 s (c, b)) ∧ EncAt N (B + 4) (B19 s (c, b)) := by
 obtain ⟨h1, h2, h3⟩ := h
 subst h2
 obtain ⟨e1, e2⟩ := B1068 (out := s.2.2.2.2) h1 hc hb (by omega)
 obtain ⟨k1, k2, k3⟩ := B197 (e := s) h1 (v := (c, b)) ⟨hc, hb⟩
 exact ⟨e1, e2, k1, k2, by omega⟩
def B55 (base : Int) (e : Event) : Event := ⟨base + e.ctx, e.bit⟩
def EvOk (base : Int) (N : Nat) (e : Event) : Prop := (0 <= base + e.ctx ∧ base + e.ctx < (N : Int)) ∧ (e.bit = 0 ∨ e.bit = 1)
def prE (base : Int) (l : List Event) : List (Int × Int) := l.map fun e => (base + e.ctx, e.bit)
theorem B647 {base : Int} {N : Nat} {l : List Event} (hl : l.length <= 100000) (hbase : -1000000 <= base ∧ base <= 1000000) (hN : N <= 1000000) (he : ∀ e ∈ l, EvOk base N e) : ∀ (m : List Event) (n B : Nat) (s : EncS), l.drop n = m -> EncAt N B s -> B + 4 * m.length <= 1000000000 ->
  overL Z123l2_step (fun s => some (Sum.inl (s.1, s.2.1, s.2.2.1, s.2.2.2.1, s.2.2.2.2))) n (m.map (B55 base)) s = some (Sum.inl (B22 s (prE base m))) ∧ loop (Z94l5 base l) ((n : Int), s) = some (B22 s (prE base m)) ∧ EncAt N (B + 4 * m.length) (B22 s (prE base m))
 | [], n, B, s, hd, h, _ => by
  have hln : l.length <= n := by
   have := congrArg List.length hd
   rw [A77, A35] at this
   omega
  refine ⟨rfl, B4 ?_, h⟩
  unfold Z94l5
  simp only [iteD]
  rw [A7 (by omega)]
  rfl
 | e :: m, n, B, s, hd, h, hB => by
  have hget : l[n]? = some e := by
   have : (l.drop n)[0]? = some e := by rw [hd]; rfl
   simpa using this
  have hd' : l.drop (n + 1) = m := by rw [← A115, hd]; rfl
  have hlt := B6 hget
  obtain ⟨⟨c0, c1⟩, hb⟩ := he e (A41 hget)
  simp only [A21] at hB
  obtain ⟨e1, e2, e3⟩ := B1067 h (c := base + e.ctx) ⟨c0, c1⟩ hb (by omega)
  obtain ⟨r1, r2, r3⟩ := B647 hl hbase hN he m (n + 1) (B + 4) (B19 s (base + e.ctx, e.bit)) hd' e3 (by omega)
  refine ⟨?_, ?_, by rw [A21, show B + 4 * (m.length + 1) = B + 4 + 4 * m.length by omega]; exact r3⟩
  ·rw [A53, B40 (s' := B19 s (base + e.ctx, e.bit))]
   ·exact r1
   ·unfold Z123l2_step B55
    simp only
    rw [e1]
    rfl
  ·rw [B5 (s' := (((n + 1 : Nat) : Int), B19 s (base + e.ctx, e.bit)))]
   ·exact r2
   ·unfold Z94l5
    simp only [iteD]
    have z : (0 : Int) <= (n : Int) := by omega
    rw [A3 (by omega), A3 z, A12, hget]
    simp only [A1]
    rw [A3 z, w64 (n := base + e.ctx) (by omega), e2]
    simp only [A1]
    rw [w64 (n := (n : Int) + 1) (by omega)]
    rfl
theorem B862 {base : Int} {N B : Nat} {l : List Event} {s : EncS} (hl : l.length <= 100) (hbase : -1000000 <= base ∧ base <= 1000000) (hN : N <= 1000000) (he : ∀ e ∈ l, EvOk base N e) (h : EncAt N B s) (hB : B <= 100000000) :
  Z123 (l.map (B55 base)) s.1 s.2.1 s.2.2.1 s.2.2.2.1 s.2.2.2.2 = some (0, B22 s (prE base l)) ∧ loop (Z94l5 base l) (0, s) = some (B22 s (prE base l)) ∧ EncAt N (B + 400) (B22 s (prE base l)) := by
 obtain ⟨r1, r2, r3⟩ := B647 (by omega) hbase hN he l 0 B s rfl h (by omega)
 refine ⟨?_, r2, r3.1, r3.2.1, by have := r3.2.2; omega⟩
 rw [Z123_eq]
 have lo := Z123l2_over (l.map (B55 base)) (by rw [A51]; omega) s
 rw [lo]
 have r1' : overL Z123l2_step (fun (s25 : Int × Int × Int × (List Int) × (List Int)) => let b26 := s25.1; let b27 := s25.2.1; let b28 := s25.2.2.1; let b29 := s25.2.2.2.1; let b30 := s25.2.2.2.2; some (Sum.inl (b26, b27, b28, b29, b30))) 0 (l.map (B55 base)) s = some (Sum.inl (B22 s (prE base l))) := r1
 simp only at r1'
 rw [r1']
 rfl
def Bits (x : Int) (L : Nat) : Prop := 1 <= L ∧ (2 : Int) ^ (L - 1) <= x ∧ x < 2 ^ L
theorem Bits.up {x : Int} {L k : Nat} (h : Bits (x / 2 ^ k) L) : Bits x (L + k) := by
 obtain ⟨h1, h2, h3⟩ := h
 have hk : (0 : Int) < 2 ^ k := A101 (by decide)
 refine ⟨by omega, ?_, ?_⟩
 ·rw [show L + k - 1 = (L - 1) + k by omega, Int.pow_add]
  have := A134 h2 (Int.le_of_lt hk)
  exact Int.le_trans this (Int.ediv_mul_le x (by omega))
 ·rw [Int.pow_add]
  exact Int.lt_mul_of_ediv_lt hk h3
def len8L : List Int := [0, 1, 2, 2, 3, 3, 3, 3, 4, 4, 4, 4, 4, 4, 4, 4] ++ List.replicate 16 5 ++ List.replicate 32 6 ++ List.replicate 64 7 ++ List.replicate 128 8
theorem B913 : ∀ y : Fin 256, 1 <= y.val -> Bits ((y.val : Nat) : Int) (rd len8L ((y.val : Nat) : Int)).toNat ∧ rd len8L ((y.val : Nat) : Int) <= 8 ∧ 0 <= rd len8L ((y.val : Nat) : Int) := by
 unfold Bits
 decide +kernel
set_option maxRecDepth 20000 in
theorem B550 {x : Int} (h0 : 1 <= x) (h1 : x < 16777216) : ∃ L : Nat, Z158 x = some (L : Int) ∧ Bits x L ∧ L <= 24 := by
 have tab : ∀ (y : Int), 1 <= y -> y < 256 -> ∃ l : Nat, rd len8L y = (l : Int) ∧ Bits y l ∧ l <= 8 := fun y a b => by
  obtain ⟨m, rfl⟩ := A73 (show 0 <= y by omega)
  obtain ⟨c1, c2, c3⟩ := B913 ⟨m, by omega⟩ (by show 1 <= m; omega)
  have c2' : rd len8L (m : Int) <= 8 := c2
  exact ⟨(rd len8L (m : Int)).toNat, (Int.toNat_of_nonneg c3).symm, c1, by omega⟩
 have hlen : (len8L.length : Int) = 256 := by decide +kernel
 have s16 : ishr .u64 x 16 = x / 65536 := by unfold ishr; exact A113 _ (by decide)
 have fin : ∀ (y n : Int), 1 <= y -> y < 256 -> 0 <= n -> n <= 16 -> ∃ l : Nat, ((if 0 <= u8.wrap y ∧ u8.wrap y < (len8L.length : Int) then some (i64.wrap (n + i64.wrap (rd len8L (u8.wrap y)))) else none) : Option Int) = some (n + (l : Int)) ∧ Bits y l ∧ l <= 8 := fun y n a b c d => by
  obtain ⟨l, e1, e2, e3⟩ := tab y a b
  rw [w8, show y % 256 = y by omega, A3 (by omega), e1, w64 (n := (l : Int)) (by omega), w64 (by omega)]
  exact ⟨l, rfl, e2, e3⟩
 rw [Z158_eq, Z176_eq]
 simp only [iteD]
 rw [A7 (by omega)]
 simp only [A1]
 by_cases c1 : x ≥ 65536
 ·rw [A3 c1, s16, w64 (n := 0 + 16) (by omega)]
  simp only [A1]
  have d1 : 1 <= x / 65536 ∧ x / 65536 < 256 := by omega
  rw [A7 (by omega)]
  simp only [A1]
  obtain ⟨l, f1, f2, f3⟩ := fin (x / 65536) (0 + 16) d1.1 d1.2 (by omega) (by omega)
  refine ⟨l + 16, ?_, f2.up (k := 16), by omega⟩
  refine (congrArg (fun o : Option Int => o.bind fun q => some q) f1).trans ?_
  simp only [A1]; congr 1; omega
 ·rw [A7 c1]
  simp only [A1]
  have s8 : ishr .u64 x 8 = x / 256 := by unfold ishr; exact A113 _ (by decide)
  by_cases c2 : x ≥ 256
  ·rw [A3 c2, s8, w64 (n := 0 + 8) (by omega)]
   simp only [A1]
   have d1 : 1 <= x / 256 ∧ x / 256 < 256 := by omega
   obtain ⟨l, f1, f2, f3⟩ := fin (x / 256) (0 + 8) d1.1 d1.2 (by omega) (by omega)
   refine ⟨l + 8, ?_, f2.up (k := 8), by omega⟩
   refine (congrArg (fun o : Option Int => o.bind fun q => some q) f1).trans ?_
   simp only [A1]; congr 1; omega
  ·rw [A7 c2]
   simp only [A1]
   obtain ⟨l, f1, f2, f3⟩ := fin x 0 h0 (by omega) (by omega) (by omega)
   refine ⟨l, ?_, f2, by omega⟩
   refine (congrArg (fun o : Option Int => o.bind fun q => some q) f1).trans ?_
   simp only [A1]; congr 1; omega
def bitN (x : Int) (i : Nat) : Int := x / 2 ^ i % 2
theorem Bits.half {x : Int} {L : Nat} (h : Bits x (L + 2)) : Bits (x / 2) (L + 1) := by
 obtain ⟨_, h2, h3⟩ := h
 rw [show L + 2 - 1 = L + 1 by omega, Int.pow_succ] at h2
 rw [show L + 2 = (L + 1) + 1 by omega, Int.pow_succ] at h3
 refine ⟨by omega, ?_, ?_⟩
 ·rw [show L + 1 - 1 = L by omega]; omega
 ·omega
theorem B885 {x : Int} {i : Nat} : bitN (x / 2) i = bitN x (i + 1) := by
 unfold bitN
 rw [Int.pow_succ, Int.mul_comm, ← Int.ediv_ediv_of_nonneg (show (0 : Int) <= 2 by decide)]
theorem B473 : ∀ (L : Nat) (x : Int) (out : List Int), Bits x (L + 1) -> L <= 24 -> out.length + L <= 100 -> 0 <= x -> x < 16777216 -> loop Z137l9 (x, out) = some (out ++ (List.range (L + 1)).map (bitN x))
 | 0, x, out, h, _, ho, h0, h1 => by
  obtain ⟨_, h2, h3⟩ := h
  have hx : x = 1 := by simp at h2 h3; omega
  subst hx
  rw [B5 (s' := (0, out ++ [1]))]
  ·refine B4 ?_
   unfold Z137l9
   rfl
  ·unfold Z137l9
   simp only [A26]
   rw [A3 (show decide ((1 : Int) > 0) = true from rfl), A3 (by omega)]
   rfl
 | L + 1, x, out, h, hL, ho, h0, h1 => by
  have hpos : x > 0 := by
   have := h.2.1
   have hp : (0 : Int) < 2 ^ (L + 1 + 1 - 1) := A101 (by decide)
   omega
  rw [B5 (s' := (x / 2, out ++ [x % 2]))]
  ·rw [B473 L (x / 2) (out ++ [x % 2]) h.half (by omega) (by rw [A13, A26]; omega) (by omega) (by omega)]
   rw [List.range_succ_eq_map (n := L + 1), A53, List.map_map, A27]
   congr 2
   simp only [List.singleton_append, List.cons.injEq]
   refine ⟨by unfold bitN; simp, A129 fun i _ => B885⟩
  ·unfold Z137l9
   simp only [A26]
   rw [A3 (by simpa using hpos), A3 (by omega), B20 h0, B27 h0, w64 (by omega)]
def B30 (t : Nat) : List Event := (List.range t).map fun (v : Nat) => ⟨1 + (v : Int), 1⟩
def evMid (t : Nat) (x : Int) : List Event := (List.range t).map fun (j : Nat) => ⟨if j = 0 then 23 + (t : Int) else min (43 + (j : Int)) 47, bitN x (t - 1 - j)⟩
theorem B999 {t : Nat} (ht : t <= 24) {out : List Event} (ho : out.length <= 100) : loop (Z137l14 (t : Int)) (0, out) = some (out ++ B30 t) := by
 rw [Z137l14_over (t : Int) (by rw [A50]; omega) out]
 have := B303 (f := Z137l14_step) (fin := fun s => some s) (fun n => out ++ B30 n) (List.range (t : Int).toNat) 0 (fun k x hk => by
  have hlt := B6 hk
  rw [A50] at hlt
  rw [A22]
  unfold Z137l14_step B30
  simp only [A13, A51, A50, A26]
  rw [A3 (by omega), w64 (by omega), List.range_succ, A88, A27]
  rfl)
 simp only [B30, List.range_zero, A79, A38, A22, A50, A12] at this ⊢
 exact this
theorem B922 {base : Int} {t : Nat} (hb : -1000000 <= base ∧ base <= 1000000) (ht : t <= 24) {out : List Event} (ho : out.length <= 100) : loop (Z122l7 base (t : Int)) (0, out) = some (out ++ (B30 t).map (B55 base)) := by
 rw [Z122l7_over base (t : Int) (by rw [A50]; omega) out]
 have := B303 (f := Z122l7_step base) (fin := fun s => some s) (fun n => out ++ (B30 n).map (B55 base)) (List.range (t : Int).toNat) 0 (fun k x hk => by
  have hlt := B6 hk
  rw [A50] at hlt
  rw [A22]
  unfold Z122l7_step B30
  simp only [A13, A51, A50, A26]
  rw [A3 (by omega), w64 (n := base + 1) (by omega), w64 (by omega), List.range_succ, A88, A88, A27]
  simp only [A53, A79, B55, Int.add_assoc])
 simp only [B30, List.range_zero, A79, A38, A22, A50, A12] at this ⊢
 exact this
theorem B1040 {x : Int} {t : Nat} (ht : t <= 24) {out : List Event} (ho : out.length <= 100) : loop (Z137l20 ((List.range (t + 1)).map (bitN x)) (t : Int)) (0, out) = some (out ++ evMid t x) := by
 rw [Z137l20_over _ (t : Int) (by rw [A50]; omega) out]
 have := B303 (f := Z137l20_step ((List.range (t + 1)).map (bitN x)) (t : Int)) (fin := fun s => some s) (fun n => out ++ (evMid t x).take n) (List.range (t : Int).toNat) 0 (fun k y hk => by
  have hlt := B6 hk
  rw [A50] at hlt
  rw [A22]
  have hget : (evMid t x)[k]? = some ⟨if k = 0 then 23 + (t : Int) else min (43 + (k : Int)) 47, bitN x (t - 1 - k)⟩ := by
   unfold evMid
   rw [A45, A82 (by omega)]
   rfl
  have hdig : ((List.range (t + 1)).map (bitN x))[t - 1 - k]? = some (bitN x (t - 1 - k)) := by
   rw [A45, A82 (by omega)]; rfl
  have e : (t : Int) - 1 - (k : Int) = ((t - 1 - k : Nat) : Int) := by omega
  have hc : ((if decide ((k : Int) = 0) = true then some (i64.wrap (23 + (t : Int))) else some (imin (i64.wrap (43 + (k : Int))) 47)) : Option Int) = some (if k = 0 then 23 + (t : Int) else min (43 + (k : Int)) 47) := by
   simp only [iteD, B345]
   by_cases c : k = 0
   ·rw [A3 (by omega), A3 c, w64 (by omega)]
   ·rw [A7 (by omega), A7 c, w64 (by omega)]
  unfold Z137l20_step
  simp only
  rw [hc]
  simp only [A1, A13, A51, A50, A26, A24]
  rw [w64 (n := (t : Int) - 1) (by omega), w64 (n := (t : Int) - 1 - (k : Int)) (by omega), e, A3 (by omega), B18 hdig, A3 (by omega), A107, hget, A27]
  rfl)
 have hl : (evMid t x).length = t := by simp [evMid]
 simp only [A116, A38, A22, A50, A12] at this ⊢
 rw [this, A127 (by omega)]
end Go.Proofs.YtcphcfknnfibmaaGreat.P
namespace Go.Proofs.YtcphcfknnfibmaaGreat.V
theorem B371 {n : Int} {k : Nat} (hk : k <= 64) : ishr .i64 n (k : Int) = n / (2 ^ k : Int) := by
 unfold ishr
 rw [A12, show min k IntKind.i64.bits = k from by simp [IntKind.bits]; omega]
 exact A113 _ (by exact_mod_cast A30 (2 ^ k))
theorem B987 {n : Int} {k : Nat} (hk : k <= 64) : ishl .i64 n (k : Int) = i64.wrap (n * 2 ^ k) := by
 unfold ishl
 rw [A12, show min k IntKind.i64.bits = k from by simp [IntKind.bits]; omega]
theorem B333 (m : Nat) (h : m < 18446744073709551616) : (BitVec.ofInt 64 (m : Int)) = BitVec.ofNat 64 m := by
 rw [BitVec.ofInt_natCast]
theorem B1035 (a b : Nat) (ha : a < 9223372036854775808) (hb : b < 9223372036854775808) : ior .i64 (a : Int) (b : Int) = ((a ||| b : Nat) : Int) := by
 show i64.wrap ((BitVec.ofInt 64 (a : Int) ||| BitVec.ofInt 64 (b : Int) : BitVec 64).toNat : Int) = _
 rw [B333 a (by omega), B333 b (by omega), BitVec.toNat_or, BitVec.toNat_ofNat, BitVec.toNat_ofNat, A89 (by omega), A89 (by omega)]
 have : a ||| b < 2 ^ 63 := Nat.or_lt_two_pow (by omega) (by omega)
 exact w64 (by omega)
theorem B981 (a b : Nat) (ha : a < 9223372036854775808) (hb : b < 9223372036854775808) : iand .i64 (a : Int) (b : Int) = ((a &&& b : Nat) : Int) := by
 show i64.wrap ((BitVec.ofInt 64 (a : Int) &&& BitVec.ofInt 64 (b : Int) : BitVec 64).toNat : Int) = _
 rw [B333 a (by omega), B333 b (by omega), BitVec.toNat_and, BitVec.toNat_ofNat, BitVec.toNat_ofNat, A89 (by omega), A89 (by omega)]
 have : a &&& b <= a := Nat.and_le_left
 exact w64 (by omega)
theorem B1097 (a b : Nat) (ha : a < 9223372036854775808) (hb : b < 9223372036854775808) : ixor .i64 (a : Int) (b : Int) = ((a ^^^ b : Nat) : Int) := by
 show i64.wrap ((BitVec.ofInt 64 (a : Int) ^^^ BitVec.ofInt 64 (b : Int) : BitVec 64).toNat : Int) = _
 rw [B333 a (by omega), B333 b (by omega), BitVec.toNat_xor, BitVec.toNat_ofNat, BitVec.toNat_ofNat, A89 (by omega), A89 (by omega)]
 have : a ^^^ b < 2 ^ 63 := Nat.xor_lt_two_pow (by omega) (by omega)
 exact w64 (by omega)
theorem B984 {n d : Int} (hn : 0 <= n) (hn2 : n < 4294967296) (hd : 0 <= d) (hd2 : d < 256) : ior .i64 (ishl .i64 n 8) d = 256 * n + d := by
 obtain ⟨m, rfl⟩ := A73 hn
 obtain ⟨e, rfl⟩ := A73 hd
 have h0 : m <<< 8 = m * 256 := by rw [Nat.shiftLeft_eq]
 have h1 : ishl .i64 (m : Int) 8 = ((m <<< 8 : Nat) : Int) := by
  rw [show (8 : Int) = ((8 : Nat) : Int) from rfl, B987 (by omega), h0, show ((2 : Int) ^ 8) = 256 from rfl, w64 (by omega)]
  omega
 rw [h1, B1035 _ _ (by omega) (by omega), ← Nat.shiftLeft_add_eq_or_of_lt (by omega), h0]
 omega
section
variable {α : Type}
theorem B1094 (xs : List α) (i j : Nat) : (cutL xs i j).length = min j xs.length - i := by simp [cutL]
theorem B1078 (xs : List α) {i j k : Nat} (h1 : i <= j) (h2 : j <= k) : cutL xs i j ++ cutL xs j k = cutL xs i k := by
 unfold cutL
 by_cases hj : j <= xs.length
 ·have e1 : xs.take k = xs.take j ++ (xs.take k).drop j := by
   conv => lhs; rw [← A105 j (xs.take k)]
   rw [List.take_take, Nat.min_eq_left h2]
  conv => rhs; rw [e1]
  rw [List.drop_append_of_le_length (by rw [A24]; omega)]
 ·have e1 : xs.take j = xs := A127 (by omega)
  have e2 : xs.take k = xs := A127 (by omega)
  rw [e1, e2, A100 (by omega : xs.length <= j), A38]
theorem B895 (xs : List α) (i : Nat) : cutL xs i i = [] := by
 unfold cutL
 exact A100 (by rw [A24]; omega)
theorem B1093 (xs : List α) : cutL xs 0 xs.length = xs := by simp [cutL]
theorem B1087 (xs : List α) (n : Nat) : cutL xs 0 n = xs.take n := by simp [cutL]
theorem B297 {xs : List α} {i j : Nat} {x : α} (h : xs[i]? = some x) (hj : i < j) : cutL xs i j = x :: cutL xs (i + 1) j := by
 have hl := (A42.1 h).1
 have hx := (A42.1 h).2
 unfold cutL
 rw [A68 (by rw [A24]; omega)]
 congr 1
 rw [List.getElem_take]; exact hx
theorem B1095 {xs : List α} {i j : Nat} {x : α} (h : x ∈ cutL xs i j) : x ∈ xs := A81 (A97 h)
end
theorem B1086 {b : List Int} {i : Nat} (h : i + 4 <= b.length) : cutL b i (i + 4) = [rd b i, rd b ((i + 1 : Nat) : Int), rd b ((i + 2 : Nat) : Int), rd b ((i + 3 : Nat) : Int)] := by
 have g : ∀ k, k < b.length -> b[k]? = some (rd b (k : Int)) := fun k hk => by
  have := B208 (xs := b) (i := (k : Int)) (by omega) (by omega)
  simpa using this
 rw [B297 (g i (by omega)) (by omega), B297 (g (i + 1) (by omega)) (by omega), B297 (g (i + 2) (by omega)) (by omega), B297 (g (i + 3) (by omega)) (by omega), B895]
end Go.Proofs.YtcphcfknnfibmaaGreat.V
namespace Go.Proofs.YtcphcfknnfibmaaGreat.P
theorem B886 {x : Int} (h0 : 0 <= x) (h1 : x < 16777216) {i : Nat} (hi : i <= 24) : iand .i64 (ishr .i64 x (i : Int)) 1 = bitN x i := by
 have hp : (0 : Int) < 2 ^ i := A101 (by decide)
 have q0 : 0 <= x / 2 ^ i := Int.ediv_nonneg h0 (Int.le_of_lt hp)
 have q1 : x / 2 ^ i <= x := Int.ediv_le_self _ h0
 rw [B371 (by omega)]
 unfold bitN
 obtain ⟨m, hm⟩ := A73 q0
 rw [hm] at q1 ⊢
 have := B981 m 1 (by omega) (by omega)
 rw [show ((1 : Nat) : Int) = 1 from rfl] at this
 rw [this, Nat.and_one_is_mod]
 omega
def tailB (k : Nat) : Int := if k <= 1 then 44 else min (43 + (k : Int)) 47
theorem B724 {base x : Int} {t : Nat} (hb : -1000000 <= base ∧ base <= 1000000) (ht : t <= 24) (h0 : 0 <= x) (h1 : x < 16777216) {out : List Event} (ho : out.length <= 100) : ∀ (d k : Nat), k + d = t ->
  ∃ b, loop (Z122l15 base x (t : Int)) ((t : Int) - 1 - (k : Int), out ++ ((evMid t x).take k).map (B55 base), tailB k) = some (out ++ (evMid t x).map (B55 base), b)
 | 0, k, h => by
  have hl : (evMid t x).length = t := by simp [evMid]
  refine ⟨tailB k, B4 ?_⟩
  unfold Z122l15
  simp only [iteD]
  rw [A7 (by omega), A127 (by omega)]
 | d + 1, k, h => by
  obtain ⟨b, hb'⟩ := B724 hb ht h0 h1 ho d (k + 1) (by omega)
  refine ⟨b, ?_⟩
  have hget : (evMid t x)[k]? = some ⟨if k = 0 then 23 + (t : Int) else min (43 + (k : Int)) 47, bitN x (t - 1 - k)⟩ := by
   unfold evMid
   rw [A45, A82 (by omega)]
   rfl
  have e : (t : Int) - 1 - (k : Int) = ((t - 1 - k : Nat) : Int) := by omega
  have hl : (evMid t x).length = t := by simp [evMid]
  rw [B5 (s' := ((t : Int) - 1 - ((k + 1 : Nat) : Int), out ++ ((evMid t x).take (k + 1)).map (B55 base), tailB (k + 1))), hb']
  have hc : ((if decide ((t : Int) - 1 - (k : Int) < i64.wrap ((t : Int) - 1)) = true then (Z159 (tailB k)).bind fun q32 => some (q32.1, q32.2) else some (i64.wrap (23 + (t : Int)), tailB k)) : Option (Int × Int)) = some (if k = 0 then 23 + (t : Int) else min (43 + (k : Int)) 47, tailB (k + 1)) := by
   simp only [iteD]
   rw [w64 (n := (t : Int) - 1) (by omega), w64 (n := 23 + (t : Int)) (by omega)]
   by_cases c : k = 0
   ·rw [A7 (by omega), A3 c]
    subst c
    rfl
   ·rw [A3 (by omega), A7 c, Z159_eq]
    have hk : -100 <= tailB k ∧ tailB k <= 47 := by unfold tailB; split <;> omega
    simp only [A1, B345]
    rw [w64 (n := tailB k + 1) (by omega)]
    unfold tailB
    by_cases c1 : k <= 1
    ·have : k = 1 := by omega
     subst this; rfl
    ·rw [A7 c1, A7 (by omega)]
     congr 2
     omega
  unfold Z122l15
  simp only
  rw [hc]
  rw [A3 (by simp; omega)]
  simp only [A1, A13, A51, A26, A24]
  rw [A7 (by omega), e, B886 h0 h1 (by omega), A3 (by omega)]
  have hctx : -1000 <= (if k = 0 then 23 + (t : Int) else min (43 + (k : Int)) 47) ∧ (if k = 0 then 23 + (t : Int) else min (43 + (k : Int)) 47) <= 1000 := by split <;> omega
  rw [w64 (n := base + (if k = 0 then 23 + (t : Int) else min (43 + (k : Int)) 47)) (by omega), w64 (by omega), A107, hget, A88, A27]
  rw [show ((t - 1 - k : Nat) : Int) - 1 = (t : Int) - 1 - ((k + 1 : Nat) : Int) by omega]
  rfl
def absN (n : Int) : Int := max n (0 - n)
def evAll (n : Int) (t : Nat) : List Event :=
 ([⟨0, 0⟩] ++ B30 t ++ (if t < 20 then [⟨1 + (t : Int), 0⟩] else [])) ++ evMid t (absN n + 1) ++ (if n = 0 then [] else [⟨22, if n < 0 then 1 else 0⟩])
theorem B703 {n : Int} {t : Nat} (ht : t <= 20) : (evAll n t).length <= 50 ∧ ∀ e ∈ evAll n t, (0 <= e.ctx ∧ e.ctx < 48) ∧ (e.bit = 0 ∨ e.bit = 1) := by
 refine ⟨?_, fun e he => ?_⟩
 ·unfold evAll B30 evMid
  simp only [A13, A51, A50, A26]
  split <;> split <;> simp <;> omega
 ·unfold evAll at he
  rcases A44.1 he with he | he
  ·rcases A44.1 he with he | he
   ·rcases A44.1 he with he | he
    ·rcases A44.1 he with he | he
     ·rw [A61] at he; subst he; simp
     ·unfold B30 at he
      obtain ⟨v, hv, rfl⟩ := A60.1 he
      rw [A87] at hv
      exact ⟨by show 0 <= 1 + (v : Int) ∧ 1 + (v : Int) < 48; omega, .inr rfl⟩
    ·split at he
     ·rw [A61] at he; subst he
      exact ⟨by show 0 <= 1 + (t : Int) ∧ 1 + (t : Int) < 48; omega, .inl rfl⟩
     ·simp at he
   ·unfold evMid at he
    obtain ⟨j, hj, rfl⟩ := A60.1 he
    rw [A87] at hj
    simp only
    refine ⟨by split <;> omega, ?_⟩
    unfold bitN
    omega
  ·split at he
   ·simp at he
   ·rw [A61] at he; subst he
    simp only
    refine ⟨by omega, ?_⟩
    split <;> simp
theorem B367 {n : Int} (hn : -1048576 <= n ∧ n <= 1048576) : ∃ t : Nat, t <= 20 ∧ Bits (absN n + 1) (t + 1) ∧ Z137 false n = some (evAll n t) := by
 have ha : 0 <= absN n ∧ absN n <= 1048576 := by unfold absN; omega
 obtain ⟨L, _, hB, hL⟩ := B550 (x := absN n + 1) (by omega) (by omega)
 obtain ⟨t, rfl⟩ : ∃ t, L = t + 1 := ⟨L - 1, by have := hB.1; omega⟩
 have ht : t <= 20 := by
  rcases A85 t 21 with q | q
  ·omega
  ·have h2 := hB.2.1
   rw [show t + 1 - 1 = t by omega] at h2
   have : (2 : Int) ^ 21 <= 2 ^ t := by
    have := Nat.pow_le_pow_right (n := 2) (by decide) q
    exact_mod_cast this
   have e : (2 : Int) ^ 21 = 2097152 := by decide
   omega
 refine ⟨t, ht, hB, ?_⟩
 rw [Z137_eq]
 have e1 : ((if decide (n < 0) = true then (let t3 := i64.wrap (0 - n); some (t3, 1)) else some (n, 0)) : Option (Int × Int)) = some (absN n, if n < 0 then 1 else 0) := by
  unfold absN
  simp only [iteD]
  by_cases c : n < 0
  ·rw [A3 c, A3 c, w64 (by omega)]
   congr 2; omega
  ·rw [A7 c, A7 c]
   congr 2; omega
 rw [e1]
 simp only [A5, A4, A1]
 rw [w64 (n := absN n + 1) (by omega), B473 t (absN n + 1) [] hB (by omega) (by simp; omega) (by omega) (by omega)]
 simp only [A1, A28, A51, A50]
 rw [w64 (n := ((t + 1 : Nat) : Int) - 1) (by omega), show ((t + 1 : Nat) : Int) - 1 = (t : Int) by omega, B999 (by omega) (by simp)]
 simp only [A1, iteD, iteND]
 have hl1 : (B30 t).length = t := by simp [B30]
 have hl2 : (evMid t (absN n + 1)).length = t := by simp [evMid]
 have e2 : ((if (t : Int) < 20 then (if (([(⟨0, 0⟩ : Event)] ++ B30 t).length + ([(Event.mk (i64.wrap (1 + (t : Int))) 0)] : List Event).length) * 16 <= 140737488355328 then some ([(⟨0, 0⟩ : Event)] ++ B30 t ++ [(Event.mk (i64.wrap (1 + (t : Int))) 0)]) else none) else some ([(⟨0, 0⟩ : Event)] ++ B30 t)) : Option (List Event)) = some ([(⟨0, 0⟩ : Event)] ++ B30 t ++ (if t < 20 then [(⟨1 + (t : Int), 0⟩ : Event)] else [])) := by
  simp only [A13, A26, hl1]
  by_cases c : t < 20
  ·rw [A3 (by omega), A3 (by omega), A3 c, w64 (by omega)]
  ·rw [A7 (by omega), A7 c, A38]
 rw [e2]
 simp only [A1]
 rw [B1040 (by omega) (by simp only [A13, A26, hl1]; split <;> simp <;> omega)]
 simp only [A1]
 unfold evAll
 by_cases c : n = 0
 ·have : absN n = 0 := by unfold absN; omega
  rw [A3 this, A3 c, A38]
 ·have : ¬ absN n = 0 := by unfold absN; omega
  rw [A7 this, A7 c, A3]
  simp only [A13, A26, hl1, hl2]
  split <;> simp <;> omega
theorem Bits.unique {x : Int} {L M : Nat} (h : Bits x L) (h' : Bits x M) : L = M := by
 obtain ⟨a1, a2, a3⟩ := h
 obtain ⟨b1, b2, b3⟩ := h'
 have mono : ∀ {i j : Nat}, i <= j -> (2 : Int) ^ i <= 2 ^ j := fun {i j} hij => by
  have := Nat.pow_le_pow_right (n := 2) (by decide) hij
  exact_mod_cast this
 rcases A117 L M with q | q | q
 ·have := mono (show L <= M - 1 by omega); omega
 ·exact q
 ·have := mono (show M <= L - 1 by omega); omega
theorem B778 {base n : Int} {t : Nat} (hb : -1000000 <= base ∧ base <= 1000000) (hn : -1048576 <= n ∧ n <= 1048576) (ht : t <= 20) (hB : Bits (absN n + 1) (t + 1)) : Z122 base false n = some ((evAll n t).map (B55 base)) := by
 have ha : 0 <= absN n ∧ absN n <= 1048576 := by unfold absN; omega
 obtain ⟨L, e0, hB', _⟩ := B550 (x := absN n + 1) (by omega) (by omega)
 obtain rfl := hB'.unique hB
 have em : imax n (0 - n) = absN n := by rw [B452]; rfl
 have hl1 : (B30 t).length = t := by simp [B30]
 have hl2 : (evMid t (absN n + 1)).length = t := by simp [evMid]
 rw [Z122_eq]
 simp only [A5, A4]
 rw [w64 (n := 0 - n) (by omega), em, w64 (n := absN n + 1) (by omega), wu64, show (absN n + 1) % 18446744073709551616 = absN n + 1 by omega, e0]
 simp only [A1]
 rw [w64 (n := ((t + 1 : Nat) : Int) - 1) (by omega), show ((t + 1 : Nat) : Int) - 1 = (t : Int) by omega, B922 hb (by omega) (by simp)]
 simp only [A1, iteD, iteND]
 have e2 : ((if (t : Int) < 20 then (if (([(⟨base, 0⟩ : Event)] ++ (B30 t).map (B55 base)).length + ([(Event.mk (i64.wrap (i64.wrap (base + 1) + (t : Int))) 0)] : List Event).length) * 16 <= 140737488355328 then some ([(⟨base, 0⟩ : Event)] ++ (B30 t).map (B55 base) ++ [(Event.mk (i64.wrap (i64.wrap (base + 1) + (t : Int))) 0)]) else none) else some ([(⟨base, 0⟩ : Event)] ++ (B30 t).map (B55 base))) : Option (List Event)) = some (([(⟨0, 0⟩ : Event)] ++ B30 t ++ (if t < 20 then [(⟨1 + (t : Int), 0⟩ : Event)] else [])).map (B55 base)) := by
  simp only [A13, A26, A51, hl1]
  rw [w64 (n := base + 1) (by omega), w64 (n := base + 1 + (t : Int)) (by omega)]
  by_cases c : t < 20
  ·rw [A3 (by omega), A3 (by omega), A3 c]
   simp [B55, Int.add_assoc]
  ·rw [A7 (by omega), A7 c, A38]
   simp [B55]
 rw [e2]
 simp only [A1]
 obtain ⟨b, e3⟩ := B724 (x := absN n + 1) (t := t) hb (by omega) (by omega) (by omega) (out := ([(⟨0, 0⟩ : Event)] ++ B30 t ++ (if t < 20 then [(⟨1 + (t : Int), 0⟩ : Event)] else [])).map (B55 base)) (by rw [A51]; simp only [A13, A26, hl1]; split <;> simp <;> omega) t 0 (by omega)
 have e3' : loop (Z122l15 base (absN n + 1) (t : Int)) (i64.wrap ((t : Int) - 1), ([(⟨0, 0⟩ : Event)] ++ B30 t ++ (if t < 20 then [(⟨1 + (t : Int), 0⟩ : Event)] else [])).map (B55 base), 44) = some ((([(⟨0, 0⟩ : Event)] ++ B30 t ++ (if t < 20 then [(⟨1 + (t : Int), 0⟩ : Event)] else [])).map (B55 base)) ++ (evMid t (absN n + 1)).map (B55 base), b) := by
  rw [w64 (n := (t : Int) - 1) (by omega), ← e3, A116, A79, A38]
  rw [show (t : Int) - 1 - ((0 : Nat) : Int) = (t : Int) - 1 by omega]
  rfl
 rw [e3']
 simp only [A1]
 unfold evAll
 by_cases c : n = 0
 ·rw [A3 c, A3 c, A38]
  simp only [A88]
 ·rw [A7 c, A7 c, w64 (n := base + 22) (by omega)]
  have e4 : ((if n < 0 then some (base + 22, 1) else some (base + 22, 0)) : Option (Int × Int)) = some (base + 22, if n < 0 then 1 else 0) := by split <;> rfl
  rw [e4]
  simp only [A1]
  rw [A3]
  ·simp [B55]
  ·simp only [A13, A51, A26, hl1, hl2]
   split <;> simp <;> omega
theorem B861 {s : EncS} : Z118 (-1) 0 s.1 s.2.1 s.2.2.1 s.2.2.2.1 s.2.2.2.2 = some (2, s.1, s.2.1, s.2.2.1, s.2.2.2.1, s.2.2.2.2) := by
 rw [Z118_eq, Z124_eq]
 rfl
theorem B729 {base n : Int} {N B : Nat} {s : EncS} (hb : 0 <= base ∧ base + 48 <= (N : Int)) (hN : N <= 8192) (hn : -1048576 <= n ∧ n <= 1048576) (h : EncAt N B s) (hB : B <= 100000000) :
  ∃ t, t <= 20 ∧ Bits (absN n + 1) (t + 1) ∧ Z83 base false n s.1 s.2.1 s.2.2.1 s.2.2.2.1 s.2.2.2.2 = some (0, B22 s (prE base (evAll n t))) ∧ Z94 base false n s.1 s.2.1 s.2.2.1 s.2.2.2.1 s.2.2.2.2 = some (0, B22 s (prE base (evAll n t))) ∧ EncAt N (B + 400) (B22 s (prE base (evAll n t))) := by
 have hlen := h.2.1
 have ec := B363 (kind := s.1) (st := s.2.2.2.1) (by rw [hlen]; exact hN)
 have hv : Z119 false n = some true ∧ Z134 false n = some true := by
  rw [Z119_eq, Z134_eq]
  simp only [A5, A4, iteD] at hn ⊢
  rw [A3 (show n ≥ -1048576 from hn.1)]
  simp [hn.2]
 obtain ⟨t, t1, t2, t3⟩ := B367 hn
 obtain ⟨o1, o2⟩ := B703 (n := n) t1
 have l1 := B778 (base := base) (by omega) hn t1 t2
 obtain ⟨r1, r2, r3⟩ := B862 (base := base) (l := evAll n t) (by omega) (by omega) (by omega) (fun e he => by
  obtain ⟨⟨c0, c1⟩, c2⟩ := o2 e he
  exact ⟨⟨by omega, by omega⟩, c2⟩) h hB
 refine ⟨t, t1, t2, ?_, ?_, r3⟩
 ·rw [Z83_eq, B861]
  simp only [A1, show ¬ ((2 : Int) = 7) by decide, A9, A5, A4, hv.1, A14]
  rw [Z120_eq, Z124_eq]
  simp only [A1, A5, A4, ec.1]
  rw [Z121_eq]
  simp only [iteD]
  rw [A7 (by omega), w64 (by omega), A7 (by omega)]
  simp only [A1, A8, A14, A5, A4, l1]
  rw [r1]
  rfl
 ·rw [Z94_eq, hv.2]
  simp only [A1, A14, A5, A4]
  rw [Z135_eq, ec.2]
  simp only [A1]
  rw [Z136_eq]
  simp only [iteD]
  rw [A3 (by omega), A3 (by omega), w64 (by omega)]
  have : (48 : Int) <= ((s.2.2.2.1.length : Nat) : Int) - base := by omega
  simp only [this, A8, A1, A14, A5, A4, t3]
  rw [r2]
  rfl
theorem B746 : Z76l5 = Z87l5 := by
 funext s
 unfold Z76l5 Z87l5
 simp only [iteD]
 split
 ·rename_i h
  have e1 : s.1.tmod 128 = s.1 % 128 := B20 (by omega)
  have : u8.wrap (u8.wrap (s.1.tmod 128) + 128) = u8.wrap (i64.wrap (128 + s.1.tmod 128)) := by
   rw [e1, w8, w8, w64 (by omega), w8]; omega
  rw [this]
 ·rfl
theorem B1051 (n : Int) : Z76 n = Z87 n := by rw [Z76_eq, Z87_eq, B746]
theorem B601 : ∀ s : Int × List Int, 0 <= s.1 ∧ (s.2.length : Int) + s.1 <= 2147483650 -> ∃ a, loop Z87l5 s = some a ∧ a.length <= 2147483650 := by
 refine B720 (fun (s : Int × List Int) => 0 <= s.1 ∧ (s.2.length : Int) + s.1 <= 2147483650) (fun (s : Int × List Int) => s.1.toNat) (fun (a : List Int) => a.length <= 2147483650) ?_
 rintro ⟨n, out⟩ ⟨h1, h2⟩
 simp only at h1 h2
 unfold Z87l5
 simp only [iteD]
 by_cases h : n > 0
 ·have e2 : n.tdiv 128 = n / 128 := B27 (by omega)
  rw [A3 h, A3 (by simp only [A21, A35]; omega)]
  refine .inl ⟨_, rfl, ?_, ?_⟩
  ·simp only [e2, A13, A21, A35]
   rw [w64 (by omega)]
   omega
  ·simp only [e2]
   rw [w64 (by omega)]
   omega
 ·rw [A7 h]
  exact .inr ⟨_, rfl, by omega⟩
theorem B1092 (n : Int) : ∃ l e, Z87 n = some (e, l) ∧ l.length <= 2147483650 ∧ (0 <= n -> n <= 2147483647 -> e = 0) := by
 rw [Z87_eq]
 simp only [iteD]
 by_cases h1 : n < 0
 ·exact ⟨[], 2, by simp [h1], by simp, fun h => by omega⟩
 ·by_cases h2 : n > 2147483647
  ·exact ⟨[], 2, by simp [h1, h2], by simp, fun _ h => by omega⟩
  ·obtain ⟨a, ha, hl⟩ := B601 (i64.wrap (n.tdiv 128), [u8.wrap (n.tmod 128)]) (by
    simp only [A21, A35]
    rw [B27 (by omega), w64 (by omega)]; omega)
   exact ⟨a, 0, by simp [h1, h2, ha], hl, fun _ _ => rfl⟩
theorem B616 : ∀ a : List Int, cmpI a a = 0
 | [] => rfl
 | x :: l => by rw [cmpI, A7 (by omega), A7 (by omega)]; exact B616 l
theorem B272 : ∀ a b : List Int, cmpI b a = - cmpI a b
 | [], [] => rfl
 | [], _ :: _ => rfl
 | _ :: _, [] => rfl
 | x :: l, y :: m => by
  rw [cmpI, cmpI]
  by_cases h : x < y
  ·rw [A7 (by omega), A3 h, A3 h]; rfl
  ·by_cases g : y < x
   ·rw [A3 g, A7 h, A3 g]
   ·rw [A7 g, A7 h, A7 h, A7 g]; exact B272 l m
theorem B364 : ∀ a b : List Int, cmpI a b = 0 -> a = b
 | [], [] => fun _ => rfl
 | [], _ :: _ => fun h => by simp [cmpI] at h
 | _ :: _, [] => fun h => by simp [cmpI] at h
 | x :: l, y :: m => fun h => by
  rw [cmpI] at h
  split at h
  ·omega
  ·split at h
   ·omega
   ·rw [B364 l m h, show x = y by omega]
theorem B365 : ∀ a b c : List Int, cmpI a b < 0 -> cmpI b c < 0 -> cmpI a c < 0
 | [], [], _ => fun h => by simp [cmpI] at h
 | [], _ :: _, [] => fun _ h => by simp [cmpI] at h
 | [], _ :: _, _ :: _ => fun _ _ => by simp [cmpI]
 | _ :: _, [], _ => fun h => by simp [cmpI] at h
 | _ :: _, _ :: _, [] => fun _ h => by simp [cmpI] at h
 | x :: l, y :: m, z :: n => fun h g => by
  rw [cmpI] at h g ⊢
  by_cases h1 : x < y
  ·by_cases g1 : y < z
   ·rw [A3 (by omega)]; omega
   ·rw [A7 g1] at g
    split at g
    ·omega
    ·rw [A3 (by omega)]; omega
  ·rw [A7 h1] at h
   split at h
   ·omega
   ·by_cases g1 : y < z
    ·rw [A3 (by omega)]; omega
    ·rw [A7 g1] at g
     split at g
     ·omega
     ·rw [A7 (by omega), A7 (by omega)]; exact B365 l m n h g
def sfx (t : List Int) (x : Int) : List Int := t.drop x.toNat
def ltS (t : List Int) (x y : Int) : Bool := decide (cmpI (sfx t x) (sfx t y) < 0)
theorem swoS (t : List Int) : Sort.SWO (ltS t) where
 irrefl x := by simp [ltS, B616]
 trans x y z h g := by
  simp only [ltS, A20] at h g ⊢
  exact B365 _ _ _ h g
 ntrans x y z h g := by
  simp only [ltS, A62] at h g ⊢
  intro k
  by_cases e1 : cmpI (sfx t x) (sfx t y) = 0
  ·rw [B364 _ _ e1] at k; exact g k
  by_cases e2 : cmpI (sfx t y) (sfx t z) = 0
  ·rw [← B364 _ _ e2] at k; exact h k
  have n1 := B272 (sfx t x) (sfx t y)
  have n2 := B272 (sfx t y) (sfx t z)
  have n3 := B272 (sfx t x) (sfx t z)
  have := B365 _ _ _ (show cmpI (sfx t z) (sfx t y) < 0 by omega) (show cmpI (sfx t y) (sfx t x) < 0 by omega)
  omega
theorem B106 {t : List Int} {x y : Int} (hx : 0 <= x ∧ x <= (t.length : Int)) (hy : 0 <= y ∧ y <= (t.length : Int)) : Z188 x y t = some (cmpI (sfx t x) (sfx t y), t) := by
 rw [Z188_eq]
 simp only [hx, hy, A31, A6, Z196_eq, A1, cutL, A94]
 rfl
theorem B35 (d : Array Int) (k : Nat) : rd d.toList (k : Int) = d[k]! := by
 unfold rd
 rw [A12, A96, Array.getElem?_toList]
 by_cases h : k < d.size
 ·rw [A74 h, getElem!_pos d k h]; rfl
 ·rw [A111 (by omega), getElem!_neg d k h]; rfl
theorem B63 (d : Array Int) (i j : Nat) : (d.toList.set i d[j]!).set j d[i]! = (Sort.swp d i j).toList := by
 simp [Sort.swp]
def Pl (t : List Int) (d : Array Int) : Prop := ∀ k, k < d.size -> 0 <= d[k]! ∧ d[k]! <= (t.length : Int)
theorem Pl.perm {t : List Int} {d d' : Array Int} {a b : Nat} (h : Pl t d) (hb : b <= d.size) (p : Sort.PermIn a b d d') : Pl t d' := by
 intro k hk
 rw [p.1] at hk
 by_cases h1 : k < a ∨ b <= k
 ·rw [p.2.1 k h1]; exact h k hk
 ·exact Sort.permIn_all d d' a b (fun x => 0 <= x ∧ x <= (t.length : Int)) hb p (fun i _ hi => h i (by omega)) k (by omega) (by omega)
theorem Pl.swp {t : List Int} {d : Array Int} {i j : Nat} (h : Pl t d) (hi : i < d.size) (hj : j < d.size) : Pl t (Sort.swp d i j) :=
 h.perm (A11 _) (Sort.swp_permIn d 0 d.size i j (A30 _) hi (A30 _) hj (A11 _))
theorem szs (d : Array Int) (i j : Nat) : (Sort.swp d i j).size = d.size := Sort.size_swp d i j
theorem B983 {t : List Int} {a : Nat} : ∀ (j : Nat) (d : Array Int), Pl t d -> j < d.size -> d.size < 4611686018427387904 ->
  loop (Z182l4 (a : Int)) ((j : Int), d.toList, t) = some ((Sort.insInner (ltS t) a j d).toList, t) := by
 intro j
 induction j with
 | zero =>
  intro d hp hj hs
  refine B4 ?_
  unfold Z182l4
  have h1 : ¬ (((0 : Nat) : Int) > (a : Int)) := by omega
  simp only [h1, A9, A5, A4, A1, Sort.insInner]
 | succ j ih =>
  intro d hp hj hs
  have w1 : i64.wrap (((j + 1 : Nat) : Int) - 1) = ((j : Nat) : Int) := by rw [w64 (by omega)]; omega
  by_cases h1 : j + 1 > a
  ·have h1' : ((j + 1 : Nat) : Int) > (a : Int) := by omega
   have hc := B106 (hp (j + 1) hj) (hp j (by omega))
   have hj' : j < d.size := by omega
   cases hl : ltS t d[j + 1]! d[j]! with
   | false =>
    refine B4 ?_
    unfold Z182l4
    have hl' : decide (cmpI (sfx t d[j + 1]!) (sfx t d[j]!) < 0) = false := hl
    simp only [h1', A8, A6, w1, A32, A17, A15, A10, hj, hj', B35, hc, A1, hl', A5, A4, Sort.insInner, h1, hl, A121, A8]
   | true =>
    rw [B5 (s' := ((j : Int), (Sort.swp d (j + 1) j).toList, t)), ih _ (hp.swp hj hj') (by rw [szs]; exact hj') (by rw [szs]; exact hs)]
    ·simp only [Sort.insInner, h1, hl, A8, A108, A6]
    ·unfold Z182l4
     have hl' : decide (cmpI (sfx t d[j + 1]!) (sfx t d[j]!) < 0) = true := hl
     simp only [h1', A8, A6, w1, A32, A59, A17, A15, A10, hj, hj', B35, hc, A1, hl', A12, B63]
  ·refine B4 ?_
   unfold Z182l4
   have h1' : ¬ (((j + 1 : Nat) : Int) > (a : Int)) := by omega
   simp only [h1', A9, A5, A4, A1, Sort.insInner, h1, A64]
theorem B547 {lt : Int -> Int -> Bool} {a : Nat} : ∀ (j : Nat) (d : Array Int), j < d.size -> Sort.PermIn 0 d.size d (Sort.insInner lt a j d)
 | 0, d, _ => Sort.permIn_refl _ _ _
 | j + 1, d, hj => by
  rw [Sort.insInner]
  split
  ·have h := B547 (lt := lt) (a := a) j (Sort.swp d (j + 1) j) (by rw [szs]; omega)
   rw [szs] at h
   exact Sort.permIn_trans _ _ _ _ _ (Sort.swp_permIn d 0 d.size (j + 1) j (A30 _) hj (A30 _) (by omega) (A11 _)) h
  ·exact Sort.permIn_refl _ _ _
theorem B906 {t : List Int} {a b : Nat} : ∀ (n i : Nat) (d : Array Int), b - i <= n -> Pl t d -> b <= d.size -> d.size < 4611686018427387904 ->
  loop (Z182l1 (a : Int) (b : Int)) ((i : Int), d.toList, t) = some ((Sort.insOuter (ltS t) a b i d).toList, t) := by
 intro n
 induction n with
 | zero =>
  intro i d hn hp hb hs
  refine B4 ?_
  unfold Z182l1
  rw [Sort.insOuter]
  simp only [A10, show ¬ i < b by omega, A9, A5, A4]
 | succ n ih =>
  intro i d hn hp hb hs
  rw [Sort.insOuter]
  by_cases h : i < b
  ·have hpm := B547 (lt := ltS t) (a := a) i d (by omega)
   have hw : i64.wrap (((i : Nat) : Int) + 1) = ((i + 1 : Nat) : Int) := w64 (by omega)
   rw [B5 (s' := (((i + 1 : Nat) : Int), (Sort.insInner (ltS t) a i d).toList, t)), ih (i + 1) _ (by omega) (hp.perm (A11 _) hpm) (by rw [hpm.1]; exact hb) (by rw [hpm.1]; exact hs), A3 h]
   unfold Z182l1
   simp only [A10, h, A8, A6, B983 i d hp (by omega) hs, A1, hw]
  ·rw [A7 h]
   refine B4 ?_
   unfold Z182l1
   simp only [A10, h, A9, A5, A4]
theorem B1060 {t : List Int} {a b : Nat} {d : Array Int} (hp : Pl t d) (hab : a <= b) (hb : b <= d.size) (hs : d.size < 4611686018427387904) :
  Z182 (a : Int) (b : Int) d.toList t = some ((Sort.insertionSort (ltS t) d a b).toList, t) := by
 rw [Z182_eq]
 have hw : i64.wrap (((a : Nat) : Int) + 1) = ((a + 1 : Nat) : Int) := w64 (by omega)
 simp only [hw, B906 (b - (a + 1)) (a + 1) d (A11 _) hp hb hs, A1, Sort.insertionSort]
theorem B431 {lt : Int -> Int -> Bool} {hi first : Nat} : ∀ (n root : Nat) (d : Array Int), hi - root <= n -> first + hi <= d.size -> Sort.PermIn 0 d.size d (Sort.siftDown lt hi first root d) := by
 intro n
 induction n with
 | zero => intro root d hn hs; rw [Sort.siftDown, dif_pos (by omega)]; exact Sort.permIn_refl _ _ _
 | succ n ih =>
  intro root d hn hs
  have go : ∀ c, root < c -> c < hi -> Sort.PermIn 0 d.size d (Sort.siftDown lt hi first c (Sort.swp d (first + root) (first + c))) := by
   intro c h1 h2
   have h := ih c (Sort.swp d (first + root) (first + c)) (by omega) (by rw [szs]; exact hs)
   rw [szs] at h
   exact Sort.permIn_trans _ _ _ _ _ (Sort.swp_permIn d 0 d.size _ _ (A30 _) (by omega) (A30 _) (by omega) (A11 _)) h
  rw [Sort.siftDown]
  split
  ·exact Sort.permIn_refl _ _ _
  ·rename_i h1
   split
   ·split
    ·exact Sort.permIn_refl _ _ _
    ·split
     ·rename_i h2; exact go _ (by omega) h2
     ·exact Sort.permIn_refl _ _ _
   ·split
    ·exact Sort.permIn_refl _ _ _
    ·exact go _ (by omega) (by omega)
theorem B1050 {t : List Int} {hi first : Nat} : ∀ (n root : Nat) (d : Array Int), hi - root <= n -> Pl t d -> first + hi <= d.size -> d.size < 2305843009213693952 -> root <= d.size ->
  ∃ r, loop (Z191l1 (hi : Int) (first : Int)) ((root : Int), d.toList, t) = some r ∧ (r = .inl ((Sort.siftDown (ltS t) hi first root d).toList, t) ∨ r = .inr ((Sort.siftDown (ltS t) hi first root d).toList, t)) := by
 intro n
 induction n with
 | zero =>
  intro root d hn hp hh hs hr
  refine ⟨_, B4 (a := .inl (d.toList, t)) ?_, .inl ?_⟩
  ·unfold Z191l1
   have w1 : i64.wrap (2 * ((root : Nat) : Int)) = ((2 * root : Nat) : Int) := by rw [w64 (by omega)]; omega
   have w2 : i64.wrap (((2 * root : Nat) : Int) + 1) = ((2 * root + 1 : Nat) : Int) := w64 (by omega)
   simp only [w1, w2, ge_iff_le, A63, show hi <= 2 * root + 1 by omega, A8, A6]
  ·rw [Sort.siftDown, dif_pos (by omega)]
 | succ n ih =>
  intro root d hn hp hh hs hr
  have w1 : i64.wrap (2 * ((root : Nat) : Int)) = ((2 * root : Nat) : Int) := by rw [w64 (by omega)]; omega
  have w2 : i64.wrap (((2 * root : Nat) : Int) + 1) = ((2 * root + 1 : Nat) : Int) := w64 (by omega)
  by_cases h1 : hi <= 2 * root + 1
  ·refine ⟨_, B4 (a := .inl (d.toList, t)) ?_, .inl ?_⟩
   ·unfold Z191l1
    simp only [w1, w2, ge_iff_le, A63, h1, A8, A6]
   ·rw [Sort.siftDown, dif_pos h1]
  have w3 : i64.wrap (((2 * root + 1 : Nat) : Int) + 1) = ((2 * root + 2 : Nat) : Int) := w64 (by omega)
  have w4 : i64.wrap (((first : Nat) : Int) + ((2 * root + 1 : Nat) : Int)) = ((first + (2 * root + 1) : Nat) : Int) := by rw [w64 (by omega)]; omega
  have w5 : i64.wrap (((first + (2 * root + 1) : Nat) : Int) + 1) = ((first + (2 * root + 1) + 1 : Nat) : Int) := w64 (by omega)
  have w6 : i64.wrap (((first : Nat) : Int) + ((root : Nat) : Int)) = ((first + root : Nat) : Int) := by rw [w64 (by omega)]; omega
  have w7 : i64.wrap (((first : Nat) : Int) + ((2 * root + 2 : Nat) : Int)) = ((first + (2 * root + 2) : Nat) : Int) := by rw [w64 (by omega)]; omega
  have sr : first + root < d.size := by omega
  -- the child c: the rest of the round
  have go : ∀ c, (c = 2 * root + 1 ∨ c = 2 * root + 2) -> c < hi -> ∀ P : Option ((Int × List Int × List Int) ⊕ ((List Int × List Int) ⊕ (List Int × List Int))),
    P = (if (!ltS t d[first + root]! d[first + c]!) = true then some (.inr (.inr (d.toList, t))) else some (.inl ((c : Int), (Sort.swp d (first + root) (first + c)).toList, t))) ->
    Z191l1 (hi : Int) (first : Int) ((root : Int), d.toList, t) = P ->
    Sort.siftDown (ltS t) hi first root d = (if (!ltS t d[first + root]! d[first + c]!) = true then d else Sort.siftDown (ltS t) hi first c (Sort.swp d (first + root) (first + c))) ->
    ∃ r, loop (Z191l1 (hi : Int) (first : Int)) ((root : Int), d.toList, t) = some r ∧ (r = .inl ((Sort.siftDown (ltS t) hi first root d).toList, t) ∨ r = .inr ((Sort.siftDown (ltS t) hi first root d).toList, t)) := by
   intro c hc hch P hP hl hk
   rw [hk]
   rw [hP] at hl
   by_cases hx : (!ltS t d[first + root]! d[first + c]!) = true
   ·rw [A3 hx] at hl ⊢
    exact ⟨_, B4 hl, .inr rfl⟩
   ·rw [A7 hx] at hl ⊢
    rw [B5 hl]
    exact ih c _ (by omega) (hp.swp sr (by omega)) (by rw [szs]; exact hh) (by rw [szs]; exact hs) (by rw [szs]; omega)
  have c1 := B106 (hp (first + root) sr) (hp (first + (2 * root + 1)) (by omega))
  have s1 : first + (2 * root + 1) < d.size := by omega
  have n1 : ¬ hi <= 2 * root + 1 := h1
  by_cases h2 : 2 * root + 2 < hi
  ·have s2 : first + (2 * root + 2) < d.size := by omega
   have s2' : first + (2 * root + 1) + 1 < d.size := by omega
   have c2 := B106 (hp (first + root) sr) (hp (first + (2 * root + 2)) s2)
   have c3 := B106 (hp (first + (2 * root + 1)) s1) (hp (first + (2 * root + 1) + 1) s2')
   have c0 : ((2 * root + 1 + 1 : Nat) : Int) < (hi : Int) := by omega
   cases hl : ltS t d[first + (2 * root + 1)]! d[first + (2 * root + 1) + 1]! with
   | true =>
    have hl' : decide (cmpI (sfx t d[first + (2 * root + 1)]!) (sfx t d[first + (2 * root + 1) + 1]!) < 0) = true := hl
    refine go (2 * root + 2) (.inr rfl) h2 _ rfl ?_ ?_
    ·unfold Z191l1
     simp only [w1, w2, w3, w4, w5, w6, w7, ge_iff_le, A63, A10, n1, h2, s1, s2, s2', sr, A9, A8, A5, A4, A6, A32, A59, A17, A15, B35, c3, c2, A1, hl', A12, B63]
     rfl
    ·rw [Sort.siftDown, dif_neg h1]
     simp only [show 2 * root + 1 + 1 < hi from h2, hl, A8, A108, A6, h2, dite_true]
   | false =>
    have hl' : decide (cmpI (sfx t d[first + (2 * root + 1)]!) (sfx t d[first + (2 * root + 1) + 1]!) < 0) = false := hl
    refine go (2 * root + 1) (.inl rfl) (by omega) _ rfl ?_ ?_
    ·unfold Z191l1
     simp only [w1, w2, w3, w4, w5, w6, w7, ge_iff_le, A63, A10, n1, h2, s1, s2, s2', sr, A9, A8, A5, A4, A6, A32, A59, A17, A15, B35, c3, c1, A1, hl', A12, B63]
     rfl
    ·rw [Sort.siftDown, dif_neg h1]
     simp only [hl, A121, A5, A4]
  ·refine go (2 * root + 1) (.inl rfl) (by omega) _ rfl ?_ ?_
   ·unfold Z191l1
    simp only [w1, w2, w3, w4, w5, w6, w7, ge_iff_le, A63, A10, n1, h2, s1, sr, A9, A8, A5, A4, A6, A32, A59, A17, A15, B35, c1, A1, A12, B63]
    rfl
   ·rw [Sort.siftDown, dif_neg h1]
    simp only [show ¬ 2 * root + 1 + 1 < hi from h2, A9, A64, A5, A4]
theorem B519 {t : List Int} {hi first root : Nat} {d : Array Int} (hp : Pl t d) (hh : first + hi <= d.size) (hs : d.size < 2305843009213693952) (hr : root <= d.size) :
  Z191 (root : Int) (hi : Int) (first : Int) d.toList t = some ((Sort.siftDown (ltS t) hi first root d).toList, t) := by
 rw [Z191_eq]
 obtain ⟨r, h1, h2⟩ := B1050 (hi - root) root d (A11 _) hp hh hs hr
 rw [h1]
 rcases h2 with h2 | h2 <;> rw [h2] <;> rfl
theorem B904 {t : List Int} {hi a : Nat} : ∀ (k : Nat) (d : Array Int), Pl t d -> a + hi <= d.size -> d.size < 2305843009213693952 -> k <= d.size ->
  loop (Z183l4 (a : Int) (hi : Int)) ((k : Int) - 1, d.toList, t) = some ((Sort.heapBuild (ltS t) hi a k d).toList, t) := by
 intro k
 induction k with
 | zero =>
  intro d hp hh hs hk
  refine B4 ?_
  unfold Z183l4
  simp only [show ¬ (((0 : Nat) : Int) - 1 ≥ 0) by omega, A9, A5, A4, Sort.heapBuild]
 | succ k ih =>
  intro d hp hh hs hk
  have hpm := B431 (lt := ltS t) (hi := hi) (first := a) (hi - k) k d (A11 _) hh
  have w1 : ((k + 1 : Nat) : Int) - 1 = (k : Int) := by omega
  have w2 : i64.wrap ((k : Int) - 1) = (k : Int) - 1 := w64 (by omega)
  rw [w1, B5 (s' := ((k : Int) - 1, (Sort.siftDown (ltS t) hi a k d).toList, t)), ih _ (hp.perm (A11 _) hpm) (by rw [hpm.1]; exact hh) (by rw [hpm.1]; exact hs) (by rw [hpm.1]; omega)]
  ·rfl
  ·unfold Z183l4
   simp only [show ((k : Nat) : Int) ≥ 0 by omega, A8, A6, B519 hp hh hs (show k <= d.size by omega), A1, w2]
theorem B805 {t : List Int} {a : Nat} : ∀ (k : Nat) (d : Array Int), Pl t d -> a + k <= d.size -> d.size < 2305843009213693952 ->
  loop (Z183l8 (a : Int)) ((k : Int) - 1, d.toList, t) = some ((Sort.heapPop (ltS t) a k d).toList, t) := by
 intro k
 induction k with
 | zero =>
  intro d hp hh hs
  refine B4 ?_
  unfold Z183l8
  simp only [show ¬ (((0 : Nat) : Int) - 1 ≥ 0) by omega, A9, A5, A4, Sort.heapPop]
 | succ k ih =>
  intro d hp hh hs
  have w1 : ((k + 1 : Nat) : Int) - 1 = (k : Int) := by omega
  have w2 : i64.wrap ((k : Int) - 1) = (k : Int) - 1 := w64 (by omega)
  have w3 : i64.wrap ((a : Int) + (k : Int)) = ((a + k : Nat) : Int) := by rw [w64 (by omega)]; omega
  have s1 : a < d.size := by omega
  have s2 : a + k < d.size := by omega
  have hp' := hp.swp s1 s2
  have hpm := B431 (lt := ltS t) (hi := k) (first := a) k 0 (Sort.swp d a (a + k)) (A11 _) (by rw [szs]; omega)
  have hsf := B519 (hi := k) (first := a) (root := 0) hp' (by rw [szs]; omega) (by rw [szs]; exact hs) (A30 _)
  have z0 : ((0 : Nat) : Int) = 0 := rfl
  rw [z0] at hsf
  rw [szs] at hpm
  rw [w1, B5 (s' := ((k : Int) - 1, (Sort.siftDown (ltS t) k a 0 (Sort.swp d a (a + k))).toList, t)), ih _ (hp'.perm (by rw [szs]; exact A11 _) hpm) (by rw [hpm.1, szs]; omega) (by rw [hpm.1, szs]; exact hs)]
  ·rfl
  ·unfold Z183l8
   simp only [show ((k : Nat) : Int) ≥ 0 by omega, A8, A6, w3, w2, A32, A59, A17, A15, A10, s1, s2, B35, A12, B63, hsf, A1]
theorem B480 {lt : Int -> Int -> Bool} {hi a : Nat} : ∀ (k : Nat) (d : Array Int), a + hi <= d.size -> Sort.PermIn 0 d.size d (Sort.heapBuild lt hi a k d)
 | 0, d, _ => Sort.permIn_refl _ _ _
 | k + 1, d, h => by
  have h1 := B431 (lt := lt) (hi := hi) (first := a) (hi - k) k d (A11 _) h
  have h2 := B480 (lt := lt) (hi := hi) (a := a) k (Sort.siftDown lt hi a k d) (by rw [h1.1]; exact h)
  rw [h1.1] at h2
  exact Sort.permIn_trans _ _ _ _ _ h1 h2
theorem B1027 {t : List Int} {a b : Nat} {d : Array Int} (hp : Pl t d) (hab : a <= b) (hb : b <= d.size) (hs : d.size < 2305843009213693952) :
  Z183 (a : Int) (b : Int) d.toList t = some ((Sort.heapSort (ltS t) d a b).toList, t) := by
 rw [Z183_eq]
 have w1 : i64.wrap ((b : Int) - (a : Int)) = ((b - a : Nat) : Int) := by rw [w64 (by omega)]; omega
 have w2 : i64.wrap (((b - a : Nat) : Int) - 1) = ((b - a : Nat) : Int) - 1 := w64 (by omega)
 have w3 : i64.wrap ((((b - a : Nat) : Int) - 1).tdiv 2) = (((b - a - 1) / 2 + 1 : Nat) : Int) - 1 := by
  by_cases h : b - a = 0
  ·rw [h]; rfl
  ·rw [B27 (by omega), w64 (by omega)]; omega
 have hpm := B480 (lt := ltS t) (hi := b - a) (a := a) ((b - a - 1) / 2 + 1) d (by omega)
 by_cases h0 : d.size = 0
 ·-- nothing at all: one idle round
  have ea : a = 0 := by omega
  have eb : b = 0 := by omega
  subst ea; subst eb
  have e1 := B519 (t := t) (hi := 0) (first := 0) (root := 0) hp (by omega) hs (A30 _)
  have e2 : Sort.siftDown (ltS t) 0 0 0 d = d := by rw [Sort.siftDown, dif_pos (by omega)]
  rw [e2] at e1
  have z0 : ((0 : Nat) : Int) = 0 := rfl
  rw [z0] at e1
  have e3 : loop (Z183l4 ((0 : Nat) : Int) ((0 - 0 : Nat) : Int)) ((((0 - 0 - 1) / 2 + 1 : Nat) : Int) - 1, d.toList, t) = some (d.toList, t) := by
   rw [B5 (s' := ((-1 : Int), d.toList, t))]
   ·refine B4 ?_
    unfold Z183l4
    simp
   ·unfold Z183l4
    have : i64.wrap (0 - 1) = -1 := by rw [w64 (by omega)]; omega
    have this2 : i64.wrap (-1) = -1 := w64 (by omega)
    simp [e1, this, this2]
  simp only [w1, w2, w3, e3, A1]
  have e4 := B805 (t := t) (a := 0) 0 d hp (by omega) hs
  simp only [show ((0 - 0 : Nat) : Int) - 1 = ((0 : Nat) : Int) - 1 from rfl, e4, A1]
  simp only [Sort.heapSort, Sort.heapPop, Sort.heapBuild, A104, Nat.zero_sub, Nat.zero_div, A22, e2]
 ·have hz := hpm.1
  have hq := B805 (t := t) (a := a) (b - a) (Sort.heapBuild (ltS t) (b - a) a ((b - a - 1) / 2 + 1) d) (hp.perm (A11 _) hpm) (by omega) (by omega)
  simp only [w1, w2, w3, B904 _ d hp (show a + (b - a) <= d.size by omega) hs (show (b - a - 1) / 2 + 1 <= d.size by omega), A1, hq, Sort.heapSort]
theorem B1008 {b : Nat} : ∀ (n i j : Nat) (d : Array Int), j - i <= n -> j < d.size -> d.size < 2305843009213693952 ->
  loop Z186l2 ((i : Int), (j : Int), d.toList) = some (Sort.reverseLoop i j d).toList := by
 intro n
 induction n with
 | zero =>
  intro i j d hn hj hs
  refine B4 ?_
  unfold Z186l2
  rw [Sort.reverseLoop, A7 (show ¬ i < j by omega)]
  simp only [A10, show ¬ i < j by omega, A9, A5, A4]
 | succ n ih =>
  intro i j d hn hj hs
  rw [Sort.reverseLoop]
  by_cases h : i < j
  ·have w1 : i64.wrap ((i : Int) + 1) = ((i + 1 : Nat) : Int) := w64 (by omega)
   have w2 : i64.wrap ((j : Int) - 1) = ((j - 1 : Nat) : Int) := by rw [w64 (by omega)]; omega
   have hi : i < d.size := by omega
   rw [A3 h, B5 (s' := (((i + 1 : Nat) : Int), ((j - 1 : Nat) : Int), (Sort.swp d i j).toList)), ih (i + 1) (j - 1) _ (by omega) (by rw [szs]; omega) (by rw [szs]; exact hs)]
   unfold Z186l2
   simp only [A10, h, A8, A6, w1, w2, A32, A59, A17, A15, hi, hj, B35, A12, B63]
  ·rw [A7 h]
   refine B4 ?_
   unfold Z186l2
   simp only [A10, h, A9, A5, A4]
theorem B1070 {t : List Int} {a b : Nat} {d : Array Int} (hab : a < b) (hb : b <= d.size) (hs : d.size < 2305843009213693952) :
  Z186 (a : Int) (b : Int) d.toList t = some ((Sort.reverseRange d a b).toList, t) := by
 rw [Z186_eq]
 have w1 : i64.wrap ((b : Int) - 1) = ((b - 1 : Nat) : Int) := by rw [w64 (by omega)]; omega
 simp only [w1, B1008 (b := b) (b - 1 - a) a (b - 1) d (A11 _) (by omega) hs, A1, Sort.reverseRange]
theorem B426 {t : List Int} {a b : Nat} {d : Array Int} {s : Int} (hp : Pl t d) (ha : a < d.size) (hb : b < d.size) :
  ∃ x y s', Z197 (a : Int) (b : Int) d.toList s t = some (((x : Nat) : Int), ((y : Nat) : Int), d.toList, s', t) ∧ (x = a ∧ y = b ∨ x = b ∧ y = a) := by
 rw [Z197_eq]
 simp only [A32, A17, A15, A10, ha, hb, A6, B35, B106 (hp b hb) (hp a ha), A1]
 split
 ·exact ⟨b, a, _, rfl, .inr ⟨rfl, rfl⟩⟩
 ·exact ⟨a, b, _, rfl, .inl ⟨rfl, rfl⟩⟩
theorem B425 {t : List Int} {a b c : Nat} {d : Array Int} {s : Int} (hp : Pl t d) (ha : a < d.size) (hb : b < d.size) (hc : c < d.size) :
  ∃ x s', Z195 (a : Int) (b : Int) (c : Int) d.toList s t = some (((x : Nat) : Int), d.toList, s', t) ∧ (x = a ∨ x = b ∨ x = c) := by
 rw [Z195_eq]
 obtain ⟨x, y, s1, e1, h1⟩ := B426 (s := s) hp ha hb
 have hy : y < d.size := by omega
 obtain ⟨x2, y2, s2, e2, h2⟩ := B426 (s := s1) hp hy hc
 have hx : x < d.size := by omega
 have hx2 : x2 < d.size := by omega
 obtain ⟨x3, y3, s3, e3, h3⟩ := B426 (s := s2) hp hx hx2
 simp only [e1, e2, e3, A1]
 exact ⟨y3, s3, rfl, by omega⟩
theorem B284 {t : List Int} {a : Nat} {d : Array Int} {s : Int} (hp : Pl t d) (h0 : 0 < a) (ha : a + 1 < d.size) (hs : d.size < 2305843009213693952) :
  ∃ x s', Z194 (a : Int) d.toList s t = some (((x : Nat) : Int), d.toList, s', t) ∧ (a - 1 <= x ∧ x <= a + 1) := by
 rw [Z194_eq]
 have w1 : i64.wrap ((a : Int) - 1) = ((a - 1 : Nat) : Int) := by rw [w64 (by omega)]; omega
 have w2 : i64.wrap ((a : Int) + 1) = ((a + 1 : Nat) : Int) := w64 (by omega)
 obtain ⟨x, s1, e1, h1⟩ := B425 (s := s) hp (show a - 1 < d.size by omega) (show a < d.size by omega) ha
 simp only [w1, w2, e1, A1]
 exact ⟨x, s1, rfl, by omega⟩
theorem B891 {t : List Int} {a b : Nat} {d : Array Int} (hp : Pl t d) (hab : a < b) (hb : b <= d.size) (hs : d.size < 2305843009213693952) :
  ∃ x h, Z185 (a : Int) (b : Int) d.toList t = some (((x : Nat) : Int), h, d.toList, t) ∧ a <= x ∧ x < b := by
 rw [Z185_eq]
 have w1 : i64.wrap ((b : Int) - (a : Int)) = ((b - a : Nat) : Int) := by rw [w64 (by omega)]; omega
 have w2 : i64.wrap (((b - a : Nat) : Int).tdiv 4) = (((b - a) / 4 : Nat) : Int) := by rw [B27 (by omega), w64 (by omega)]; omega
 have w3 : i64.wrap ((((b - a) / 4 : Nat) : Int) * 1) = (((b - a) / 4 : Nat) : Int) := by rw [w64 (by omega)]; omega
 have w4 : i64.wrap ((((b - a) / 4 : Nat) : Int) * 2) = (((b - a) / 4 * 2 : Nat) : Int) := by rw [w64 (by omega)]; omega
 have w5 : i64.wrap ((((b - a) / 4 : Nat) : Int) * 3) = (((b - a) / 4 * 3 : Nat) : Int) := by rw [w64 (by omega)]; omega
 have w6 : i64.wrap ((a : Int) + (((b - a) / 4 : Nat) : Int)) = ((a + (b - a) / 4 : Nat) : Int) := by rw [w64 (by omega)]; omega
 have w7 : i64.wrap ((a : Int) + (((b - a) / 4 * 2 : Nat) : Int)) = ((a + (b - a) / 4 * 2 : Nat) : Int) := by rw [w64 (by omega)]; omega
 have w8 : i64.wrap ((a : Int) + (((b - a) / 4 * 3 : Nat) : Int)) = ((a + (b - a) / 4 * 3 : Nat) : Int) := by rw [w64 (by omega)]; omega
 -- what is B328 the choice
 have last : ∀ (x : Nat) (s : Int), a <= x -> x < b -> ∃ x' h, (if (decide (s = 0)) = true then some (((x : Nat) : Int), (1 : Int), d.toList, t) else if (decide (s = 12)) = true then some (((x : Nat) : Int), 2, d.toList, t) else some (((x : Nat) : Int), 0, d.toList, t)) = some (((x' : Nat) : Int), h, d.toList, t) ∧ a <= x' ∧ x' < b := by
  intro x s h1 h2
  split
  ·exact ⟨x, _, rfl, h1, h2⟩
  ·split
   ·exact ⟨x, _, rfl, h1, h2⟩
   ·exact ⟨x, _, rfl, h1, h2⟩
 simp only [w1, w2, w3, w4, w5, w6, w7, w8]
 by_cases h8 : 8 <= b - a
 ·have g8 : decide (((b - a : Nat) : Int) ≥ 8) = true := by simp only [A20]; omega
  simp only [g8, A6]
  by_cases h50 : 50 <= b - a
  ·have g50 : decide (((b - a : Nat) : Int) ≥ 50) = true := by simp only [A20]; omega
   obtain ⟨x1, s1, e1, k1⟩ := B284 (s := 0) hp (show 0 < a + (b - a) / 4 by omega) (show a + (b - a) / 4 + 1 < d.size by omega) hs
   obtain ⟨x2, s2, e2, k2⟩ := B284 (s := s1) hp (show 0 < a + (b - a) / 4 * 2 by omega) (show a + (b - a) / 4 * 2 + 1 < d.size by omega) hs
   obtain ⟨x3, s3, e3, k3⟩ := B284 (s := s2) hp (show 0 < a + (b - a) / 4 * 3 by omega) (show a + (b - a) / 4 * 3 + 1 < d.size by omega) hs
   obtain ⟨x, s, e, k⟩ := B425 (s := s3) hp (show x1 < d.size by omega) (show x2 < d.size by omega) (show x3 < d.size by omega)
   simp only [g50, A6, e1, e2, e3, e, A1]
   exact last x s (by omega) (by omega)
  ·have g50 : decide (((b - a : Nat) : Int) ≥ 50) = false := by simp only [A62]; omega
   obtain ⟨x, s, e, k⟩ := B425 (s := 0) hp (show a + (b - a) / 4 < d.size by omega) (show a + (b - a) / 4 * 2 < d.size by omega) (show a + (b - a) / 4 * 3 < d.size by omega)
   simp only [g50, A5, A4, e, A1]
   exact last x s (by omega) (by omega)
 ·have g8 : decide (((b - a : Nat) : Int) ≥ 8) = false := by simp only [A62]; omega
  simp only [g8, A5, A4, A1]
  exact last _ 0 (by omega) (by omega)
theorem B1028 (r : Int) (m : Nat) (hm : m < 18446744073709551616) : ∃ k : Nat, iand .u64 r (m : Int) = (k : Int) ∧ k <= m := by
 unfold iand
 refine ⟨(BitVec.ofInt 64 r &&& BitVec.ofInt 64 (m : Int)).toNat, ?_, ?_⟩
 ·rw [wu64]
  have := (BitVec.ofInt 64 r &&& BitVec.ofInt 64 (m : Int)).isLt
  show (((BitVec.ofInt 64 r &&& BitVec.ofInt 64 (m : Int)).toNat : Nat) : Int) % 18446744073709551616 = _
  omega
 ·rw [BitVec.toNat_and]
  refine A80 Nat.and_le_right ?_
  rw [BitVec.toNat_ofInt]
  have : ((m : Int) % (2 ^ 64 : Nat)).toNat = m := by omega
  omega
theorem B957 {t : List Int} {a b : Nat} {d : Array Int} (hab : a <= b) (hb : b <= d.size) (hs : d.size < 16777216) :
  ∃ e : Array Int, Z184 (a : Int) (b : Int) d.toList t = some (e.toList, t) ∧ Sort.PermIn a b d e := by
 rw [Z184_eq]
 have w1 : i64.wrap ((b : Int) - (a : Int)) = ((b - a : Nat) : Int) := by rw [w64 (by omega)]; omega
 simp only [w1]
 by_cases h8 : 8 <= b - a
 ·have g8 : decide (((b - a : Nat) : Int) ≥ 8) = true := by simp only [A20]; omega
  have u1 : u64.wrap ((b - a : Nat) : Int) = ((b - a : Nat) : Int) := by rw [wu64]; omega
  obtain ⟨L, l1, l2, l3⟩ := B550 (x := ((b - a : Nat) : Int)) (by omega) (by omega)
  have hL : ((2 : Nat) ^ L : Nat) <= 2 * (b - a) := by
   obtain ⟨g1, g2, _⟩ := l2
   have e : (2 : Nat) ^ L = 2 ^ (L - 1) * 2 := by rw [← Nat.pow_succ]; congr 1; omega
   have : ((2 ^ (L - 1) : Nat) : Int) <= ((b - a : Nat) : Int) := by exact_mod_cast g2
   omega
  have hL0 : 0 < (2 : Nat) ^ L := Nat.pow_pos (by decide)
  have n1 : Z192 ((b - a : Nat) : Int) = some (((2 ^ L : Nat) : Nat) : Int) := by
   rw [Z192_eq]
   have : ishl .u64 1 (L : Int) = (((2 ^ L : Nat) : Nat) : Int) := by
    unfold ishl
    have h64 : IntKind.u64.bits = 64 := rfl
    rw [h64, wu64, A12, show min L 64 = L by omega, Int.one_mul]
    have : (2 : Int) ^ L = (((2 ^ L : Nat) : Nat) : Int) := by push_cast; rfl
    rw [this]; omega
   simp only [u1, l1, A1, show ¬ ((L : Nat) : Int) < 0 by omega, A4, this]
  have w2 : i64.wrap (((b - a : Nat) : Int).tdiv 4) = (((b - a) / 4 : Nat) : Int) := by rw [B27 (by omega), w64 (by omega)]; omega
  have w4 : i64.wrap ((((b - a) / 4 : Nat) : Int) * 2) = (((b - a) / 4 * 2 : Nat) : Int) := by rw [w64 (by omega)]; omega
  have w7 : i64.wrap ((a : Int) + (((b - a) / 4 * 2 : Nat) : Int)) = ((a + (b - a) / 4 * 2 : Nat) : Int) := by rw [w64 (by omega)]; omega
  have w8 : i64.wrap (((a + (b - a) / 4 * 2 : Nat) : Int) - 1) = ((a + (b - a) / 4 * 2 - 1 : Nat) : Int) := by rw [w64 (by omega)]; omega
  have w9 : i64.wrap (((a + (b - a) / 4 * 2 : Nat) : Int) + 1) = ((a + (b - a) / 4 * 2 + 1 : Nat) : Int) := w64 (by omega)
  simp only [g8, A6, u1, n1, A1, w2, w4, w7, w8]
  obtain ⟨o, e1, e, r, e2, e3⟩ := B720 (f := Z184l5 (a : Int) ((b - a : Nat) : Int) ((2 ^ L : Nat) : Int))
   (fun s => ∃ (i : Nat) (e : Array Int) (r : Int), s = ((i : Int), e.toList, r) ∧ a <= i ∧ i <= a + (b - a) / 4 * 2 + 2 ∧ Sort.PermIn a b d e)
   (fun s => ((a + (b - a) / 4 * 2 + 2 : Nat) - s.1).toNat) (fun o => ∃ (e : Array Int) (r : Int), o = (e.toList, r) ∧ Sort.PermIn a b d e)
   (fun s hP => by
    obtain ⟨i, e, r, rfl, h1, h2, h3⟩ := hP
    have se : e.size = d.size := h3.1
    by_cases hi : i <= a + (b - a) / 4 * 2 + 1
    ·refine .inl ?_
     obtain ⟨r', er⟩ : ∃ r', Z193 r = some (r', r') := by rw [Z193_eq]; exact ⟨_, rfl⟩
     have u2 : u64.wrap ((((2 ^ L : Nat) : Nat) : Int) - 1) = ((2 ^ L - 1 : Nat) : Int) := by rw [wu64]; omega
     obtain ⟨k, k1, k2⟩ := B1028 r' (2 ^ L - 1) (by omega)
     have w10 : i64.wrap ((k : Nat) : Int) = (k : Int) := w64 (by omega)
     have w11 : i64.wrap (((i : Nat) : Int) + 1) = ((i + 1 : Nat) : Int) := w64 (by omega)
     -- the other place
     obtain ⟨o, o1, o2⟩ : ∃ o : Nat, ((if (decide (((k : Nat) : Int) ≥ ((b - a : Nat) : Int))) = true then some (i64.wrap (((k : Nat) : Int) - ((b - a : Nat) : Int))) else some ((k : Nat) : Int)) : Option Int) = some ((o : Nat) : Int) ∧ o < b - a := by
      by_cases hk : b - a <= k
      ·refine ⟨k - (b - a), ?_, by omega⟩
       rw [A3 (by simp only [A20]; omega), w64 (by omega)]; congr 1; omega
      ·refine ⟨k, ?_, by omega⟩
       rw [A7 (by simp only [A20]; omega)]
     have w12 : i64.wrap ((a : Int) + ((o : Nat) : Int)) = ((a + o : Nat) : Int) := by rw [w64 (by omega)]; omega
     have s1 : i < e.size := by omega
     have s2 : a + o < e.size := by omega
     have hi' : ((i : Nat) : Int) <= ((a + (b - a) / 4 * 2 + 1 : Nat) : Int) := by omega
     refine ⟨(((i + 1 : Nat) : Int), (Sort.swp e i (a + o)).toList, r'), ?_, ⟨i + 1, _, r', rfl, by omega, by omega, Sort.permIn_trans _ _ _ _ _ h3 (Sort.swp_permIn e a b i (a + o) h1 (by omega) (by omega) (by omega) (by omega))⟩, ?_⟩
     ·unfold Z184l5
      simp only [w2, w4, w7, w9, hi', A8, A6, er, A1, u2, k1, w10, o1, w12, w11, A32, A59, A17, A15, A10, s1, s2, B35, A12, B63]
     ·show ((a + (b - a) / 4 * 2 + 2 : Nat) - ((i + 1 : Nat) : Int)).toNat < ((a + (b - a) / 4 * 2 + 2 : Nat) - ((i : Nat) : Int)).toNat
      omega
    ·refine .inr ⟨(e.toList, r), ?_, e, r, rfl, h3⟩
     unfold Z184l5
     simp only [w2, w4, w7, w9, A63, hi, A9, A5, A4])
   (((a + (b - a) / 4 * 2 - 1 : Nat) : Int), d.toList, ((b - a : Nat) : Int)) ⟨_, d, _, rfl, by omega, by omega, Sort.permIn_refl _ _ _⟩
  simp only [e1, e2, A1]
  exact ⟨e, rfl, e3⟩
 ·have g8 : decide (((b - a : Nat) : Int) ≥ 8) = false := by simp only [A62]; omega
  simp only [g8, A5, A4]
  exact ⟨d, rfl, Sort.permIn_refl _ _ _⟩
theorem B1011 {t : List Int} {b : Nat} {d : Array Int} (hp : Pl t d) (hb : b <= d.size) (hs : d.size < 16777216) : ∀ (n i : Nat), b - i <= n -> 1 <= i -> i <= b ->
  loop (Z187l5 (b : Int) d.toList) ((i : Int), t) = some (((Sort.scanSorted (ltS t) d b i : Nat) : Int), t) ∧ i <= Sort.scanSorted (ltS t) d b i ∧ Sort.scanSorted (ltS t) d b i <= b := by
 intro n
 induction n with
 | zero =>
  intro i hn h1 hi
  rw [Sort.scanSorted]
  simp only [show ¬ i < b by omega, A9, A64, A5, A4]
  refine ⟨B4 ?_, A11 _, hi⟩
  unfold Z187l5
  simp only [A10, show ¬ i < b by omega, A9, A5, A4]
 | succ n ih =>
  intro i hn h1 hi
  by_cases h : i < b
  ·have w1 : i64.wrap ((i : Int) - 1) = ((i - 1 : Nat) : Int) := by rw [w64 (by omega)]; omega
   have w2 : i64.wrap ((i : Int) + 1) = ((i + 1 : Nat) : Int) := w64 (by omega)
   have s1 : i < d.size := by omega
   have s2 : i - 1 < d.size := by omega
   have hc := B106 (hp i s1) (hp (i - 1) s2)
   rw [Sort.scanSorted]
   cases hl : ltS t d[i]! d[i - 1]! with
   | true =>
    have hl' : decide (cmpI (sfx t d[i]!) (sfx t d[i - 1]!) < 0) = true := hl
    simp only [A14, A121, A5, A4]
    refine ⟨B4 ?_, A11 _, hi⟩
    unfold Z187l5
    simp only [A10, h, A8, A6, w1, A32, A17, A15, s1, s2, B35, hc, A1, hl', A14, A5, A4]
   | false =>
    have hl' : decide (cmpI (sfx t d[i]!) (sfx t d[i - 1]!) < 0) = false := hl
    simp only [h, A8, A46, A108, A6]
    obtain ⟨g1, g2, g3⟩ := ih (i + 1) (by omega) (by omega) (by omega)
    refine ⟨?_, by omega, g3⟩
    rw [B5 (s' := (((i + 1 : Nat) : Int), t)), g1]
    unfold Z187l5
    simp only [A10, h, A8, A6, w1, w2, A32, A17, A15, s1, s2, B35, hc, A1, hl', A46]
  ·rw [Sort.scanSorted]
   simp only [h, A9, A64, A5, A4]
   refine ⟨B4 ?_, A11 _, hi⟩
   unfold Z187l5
   simp only [A10, h, A9, A5, A4]
theorem B1073 {t : List Int} : ∀ (j : Nat) (d : Array Int), Pl t d -> j < d.size -> d.size < 16777216 ->
  loop Z187l14 ((j : Int), d.toList, t) = some ((Sort.shiftDown (ltS t) j d).toList, t) ∧ Sort.PermIn 0 d.size d (Sort.shiftDown (ltS t) j d) := by
 intro j
 induction j with
 | zero =>
  intro d hp hj hs
  refine ⟨B4 ?_, Sort.permIn_refl _ _ _⟩
  unfold Z187l14
  simp only [show ¬ (((0 : Nat) : Int) ≥ 1) by omega, A9, A5, A4, Sort.shiftDown]
 | succ j ih =>
  intro d hp hj hs
  have w1 : i64.wrap (((j + 1 : Nat) : Int) - 1) = (j : Int) := by rw [w64 (by omega)]; omega
  have h1 : ((j + 1 : Nat) : Int) ≥ 1 := by omega
  have s2 : j < d.size := by omega
  have hc := B106 (hp (j + 1) hj) (hp j s2)
  rw [Sort.shiftDown]
  cases hl : ltS t d[j + 1]! d[j]! with
  | false =>
   have hl' : decide (cmpI (sfx t d[j + 1]!) (sfx t d[j]!) < 0) = false := hl
   simp only [A46, A6]
   refine ⟨B4 ?_, Sort.permIn_refl _ _ _⟩
   unfold Z187l14
   simp only [h1, A8, A6, w1, A32, A17, A15, A10, hj, s2, B35, hc, A1, hl', A46]
  | true =>
   have hl' : decide (cmpI (sfx t d[j + 1]!) (sfx t d[j]!) < 0) = true := hl
   simp only [A14, A5, A4]
   obtain ⟨g1, g2⟩ := ih (Sort.swp d (j + 1) j) (hp.swp hj s2) (by rw [szs]; exact s2) (by rw [szs]; exact hs)
   rw [szs] at g2
   refine ⟨?_, Sort.permIn_trans _ _ _ _ _ (Sort.swp_permIn d 0 d.size (j + 1) j (A30 _) hj (A30 _) s2 (A11 _)) g2⟩
   rw [B5 (s' := ((j : Int), (Sort.swp d (j + 1) j).toList, t)), g1]
   unfold Z187l14
   simp only [h1, A8, A6, w1, A32, A59, A17, A15, A10, hj, s2, B35, hc, A1, hl', A14, A5, A4, A12, B63]
theorem B1074 {t : List Int} {b : Nat} : ∀ (n j : Nat) (d : Array Int), b - j <= n -> 1 <= j -> Pl t d -> b <= d.size -> d.size < 16777216 ->
  loop (Z187l20 (b : Int)) ((j : Int), d.toList, t) = some ((Sort.shiftUp (ltS t) b j d).toList, t) ∧ Sort.PermIn 0 d.size d (Sort.shiftUp (ltS t) b j d) := by
 intro n
 induction n with
 | zero =>
  intro j d hn h1 hp hb hs
  rw [Sort.shiftUp, A7 (by omega)]
  refine ⟨B4 ?_, Sort.permIn_refl _ _ _⟩
  unfold Z187l20
  simp only [A10, show ¬ j < b by omega, A9, A5, A4]
 | succ n ih =>
  intro j d hn h1 hp hb hs
  rw [Sort.shiftUp]
  by_cases h : j < b
  ·rw [A3 h]
   have w1 : i64.wrap ((j : Int) - 1) = ((j - 1 : Nat) : Int) := by rw [w64 (by omega)]; omega
   have w2 : i64.wrap ((j : Int) + 1) = ((j + 1 : Nat) : Int) := w64 (by omega)
   have s1 : j < d.size := by omega
   have s2 : j - 1 < d.size := by omega
   have hc := B106 (hp j s1) (hp (j - 1) s2)
   cases hl : ltS t d[j]! d[j - 1]! with
   | false =>
    have hl' : decide (cmpI (sfx t d[j]!) (sfx t d[j - 1]!) < 0) = false := hl
    simp only [A46, A6]
    refine ⟨B4 ?_, Sort.permIn_refl _ _ _⟩
    unfold Z187l20
    simp only [A10, h, A8, A6, w1, A32, A17, A15, s1, s2, B35, hc, A1, hl', A46]
   | true =>
    have hl' : decide (cmpI (sfx t d[j]!) (sfx t d[j - 1]!) < 0) = true := hl
    simp only [A14, A5, A4]
    obtain ⟨g1, g2⟩ := ih (j + 1) (Sort.swp d j (j - 1)) (by omega) (by omega) (hp.swp s1 s2) (by rw [szs]; exact hb) (by rw [szs]; exact hs)
    rw [szs] at g2
    refine ⟨?_, Sort.permIn_trans _ _ _ _ _ (Sort.swp_permIn d 0 d.size j (j - 1) (A30 _) s1 (A30 _) s2 (A11 _)) g2⟩
    rw [B5 (s' := (((j + 1 : Nat) : Int), (Sort.swp d j (j - 1)).toList, t)), g1]
    unfold Z187l20
    simp only [A10, h, A8, A6, w1, w2, A32, A59, A17, A15, s1, s2, B35, hc, A1, hl', A14, A5, A4, A12, B63]
  ·rw [A7 h]
   refine ⟨B4 ?_, Sort.permIn_refl _ _ _⟩
   unfold Z187l20
   simp only [A10, h, A9, A5, A4]
theorem B1046 {t : List Int} {a b : Nat} (hab : a < b) : ∀ (s i : Nat) (d : Array Int), s <= 5 -> a < i -> i <= b -> Pl t d -> b <= d.size -> d.size < 16777216 ->
  ∃ r, loop (Z187l3 (a : Int) (b : Int)) ((i : Int), 5 - (s : Int), d.toList, t) = some r ∧
   (r = .inr ((Sort.partialIns (ltS t) a b s i d).2, (Sort.partialIns (ltS t) a b s i d).1.toList, t) ∨ (Sort.partialIns (ltS t) a b s i d).2 = false ∧ r = .inl ((Sort.partialIns (ltS t) a b s i d).1.toList, t)) := by
 intro s
 induction s with
 | zero =>
  intro i d hs5 h1 hi hp hb hs
  refine ⟨_, B4 (a := .inl (d.toList, t)) ?_, .inr ⟨rfl, rfl⟩⟩
  unfold Z187l3
  simp only [show ¬ (5 - ((0 : Nat) : Int) < 5) by omega, A9, A5, A4]
 | succ s ih =>
  intro i d hs5 h1 hi hp hb hs
  obtain ⟨c1, c2, c3⟩ := B1011 hp hb hs (b - i) i (A11 _) (by omega) hi
  rw [Sort.partialIns]
  generalize Sort.scanSorted (ltS t) d b i = k at c1 c2 c3 ⊢
  have j5 : 5 - ((s + 1 : Nat) : Int) < 5 := by omega
  by_cases hk : k = b
  ·subst hk
   simp only [A6]
   refine ⟨_, B4 (a := .inr (true, d.toList, t)) ?_, .inl rfl⟩
   unfold Z187l3
   simp only [j5, A8, A6, c1, A1]
  have hk' : ¬ ((k : Nat) : Int) = (b : Int) := by omega
  have wl : i64.wrap ((b : Int) - (a : Int)) = ((b - a : Nat) : Int) := by rw [w64 (by omega)]; omega
  by_cases h50 : b - a < 50
  ·have g50 : decide (((b - a : Nat) : Int) < 50) = true := by simp only [A20]; omega
   simp only [hk, A4, h50, A6]
   refine ⟨_, B4 (a := .inr (false, d.toList, t)) ?_, .inl rfl⟩
   unfold Z187l3
   simp only [j5, A8, A6, c1, A1, hk', A9, A5, A4, wl, g50]
  have g50 : decide (((b - a : Nat) : Int) < 50) = false := by simp only [A62]; omega
  simp only [hk, A4, h50]
  have w1 : i64.wrap ((k : Int) - 1) = ((k - 1 : Nat) : Int) := by rw [w64 (by omega)]; omega
  have w2 : i64.wrap ((k : Int) + 1) = ((k + 1 : Nat) : Int) := w64 (by omega)
  have w3 : i64.wrap ((k : Int) - (a : Int)) = ((k - a : Nat) : Int) := by rw [w64 (by omega)]; omega
  have w4 : i64.wrap ((b : Int) - (k : Int)) = ((b - k : Nat) : Int) := by rw [w64 (by omega)]; omega
  have w5 : i64.wrap (5 - ((s + 1 : Nat) : Int) + 1) = 5 - (s : Int) := by rw [w64 (by omega)]; omega
  have s1 : k < d.size := by omega
  have s2 : k - 1 < d.size := by omega
  have p1 := hp.swp (i := k) (j := k - 1) s1 s2
  have z1 : (Sort.swp d k (k - 1)).size = d.size := szs ..
  obtain ⟨d1, hd1⟩ : ∃ d1, Sort.swp d k (k - 1) = d1 := ⟨_, rfl⟩
  rw [hd1] at p1 z1 ⊢
  -- down
  obtain ⟨d2, q1, q2, q3⟩ : ∃ d2 : Array Int, ((if (decide (((k - a : Nat) : Int) ≥ 2)) = true then (loop Z187l14 (((k - 1 : Nat) : Int), d1.toList, t)).bind (fun p50 => some (p50.1, p50.2)) else some (d1.toList, t)) : Option (List Int × List Int)) = some (d2.toList, t) ∧ d2 = (if k - a ≥ 2 then Sort.shiftDown (ltS t) (k - 1) d1 else d1) ∧ Sort.PermIn 0 d1.size d1 d2 := by
   by_cases h2 : k - a ≥ 2
   ·obtain ⟨y1, y2⟩ := B1073 (k - 1) d1 p1 (by omega) (by omega)
    refine ⟨_, ?_, (A3 h2).symm, y2⟩
    rw [A3 (by simp only [A20]; omega), y1]; rfl
   ·refine ⟨_, ?_, (A7 h2).symm, Sort.permIn_refl _ _ _⟩
    rw [A7 (by simp only [A20]; omega)]
  rw [← q2]
  have p2 := p1.perm (A11 _) q3
  have z2 : d2.size = d.size := q3.1.trans z1
  by_cases h3 : b - k ≥ 2
  ·obtain ⟨y1, y2⟩ := B1074 (b := b) (b - (k + 1)) (k + 1) d2 (A11 _) (by omega) p2 (by omega) (by omega)
   have g3 : decide (((b - k : Nat) : Int) ≥ 2) = true := by simp only [A20]; omega
   rw [A3 h3]
   have p3 := p2.perm (A11 _) y2
   have z3 := y2.1
   generalize Sort.shiftUp (ltS t) b (k + 1) d2 = d3 at y1 y2 p3 z3 ⊢
   obtain ⟨r, r1, r2⟩ := ih k d3 (by omega) (by omega) c3 p3 (by omega) (by omega)
   refine ⟨r, ?_, r2⟩
   rw [B5 (s' := ((k : Int), 5 - (s : Int), d3.toList, t)), r1]
   unfold Z187l3
   simp only [j5, A8, A6, c1, A1, hk', A9, A5, A4, wl, g50, w1, A32, A59, A17, A15, A10, s1, s2, B35, A12, B63, hd1, w3, q1, w4, g3, w2, y1, w5]
  ·have g3 : decide (((b - k : Nat) : Int) ≥ 2) = false := by simp only [A62]; omega
   rw [A7 h3]
   obtain ⟨r, r1, r2⟩ := ih k d2 (by omega) (by omega) c3 p2 (by omega) (by omega)
   refine ⟨r, ?_, r2⟩
   rw [B5 (s' := ((k : Int), 5 - (s : Int), d2.toList, t)), r1]
   unfold Z187l3
   simp only [j5, A8, A6, c1, A1, hk', A9, A5, A4, wl, g50, w1, A32, A59, A17, A15, A10, s1, s2, B35, A12, B63, hd1, w3, q1, w4, g3, w2, w5]
theorem B733 {t : List Int} {a b : Nat} {d : Array Int} (hp : Pl t d) (hab : a < b) (hb : b <= d.size) (hs : d.size < 16777216) :
  Z187 (a : Int) (b : Int) d.toList t = some ((Sort.partialInsertionSort (ltS t) d a b).2, (Sort.partialInsertionSort (ltS t) d a b).1.toList, t) := by
 rw [Z187_eq]
 have w1 : i64.wrap ((a : Int) + 1) = ((a + 1 : Nat) : Int) := w64 (by omega)
 obtain ⟨r, r1, r2⟩ := B1046 (t := t) hab 5 (a + 1) d (A11 _) (by omega) (by omega) hp hb hs
 have z5 : (5 : Int) - ((5 : Nat) : Int) = 0 := rfl
 rw [z5] at r1
 simp only [w1, r1, A1, Sort.partialInsertionSort]
 rcases r2 with r2 | ⟨r2, r3⟩
 ·rw [r2]; rfl
 ·rw [r3, r2]; rfl
section
variable {t : List Int} {d : Array Int} {p : Int -> Bool} {f : Int × List Int -> Option ((Int × List Int) ⊕ (Int × List Int))}
theorem B381 {j : Nat}
  (hf : ∀ i : Nat, i <= j -> f ((i : Int), t) = if p d[i]! = true then some (.inl (((i + 1 : Nat) : Int), t)) else some (.inr ((i : Int), t)))
  (hg : ∀ i : Nat, j < i -> f ((i : Int), t) = some (.inr ((i : Int), t))) : ∀ (n i : Nat), j + 1 - i <= n -> loop f ((i : Int), t) = some (((Sort.scanUp p d j i : Nat) : Int), t) := by
 intro n
 induction n with
 | zero =>
  intro i hn
  rw [Sort.scanUp]
  simp only [show ¬ i <= j by omega, A9, A64, A5, A4]
  exact B4 (hg i (by omega))
 | succ n ih =>
  intro i hn
  rw [Sort.scanUp]
  by_cases h : i <= j
  ·have := hf i h
   cases hl : p d[i]! with
   | false =>
    simp only [A121, A5, A4]
    rw [hl] at this
    exact B4 this
   | true =>
    simp only [h, A8, A108, A6]
    rw [hl] at this
    rw [B5 this]
    exact ih (i + 1) (by omega)
  ·simp only [h, A9, A64, A5, A4]
   exact B4 (hg i (by omega))
theorem B291 {i : Nat} (hi : 1 <= i)
  (hf : ∀ j : Nat, i <= j -> j < d.size -> f ((j : Int), t) = if p d[j]! = true then some (.inl ((j : Int) - 1, t)) else some (.inr ((j : Int), t)))
  (hg : ∀ j : Nat, j < i -> f ((j : Int), t) = some (.inr ((j : Int), t))) : ∀ j : Nat, j < d.size -> loop f ((j : Int), t) = some (((Sort.scanDown p d i j : Nat) : Int), t) := by
 intro j
 induction j with
 | zero =>
  intro hj
  exact B4 (hg 0 (by omega))
 | succ j ih =>
  intro hj
  rw [Sort.scanDown]
  by_cases h : i <= j + 1
  ·have := hf (j + 1) h hj
   cases hl : p d[j + 1]! with
   | false =>
    simp only [A121, A5, A4]
    rw [hl] at this
    exact B4 this
   | true =>
    simp only [h, A8, A108, A6]
    rw [hl, show ((j + 1 : Nat) : Int) - 1 = (j : Int) by omega] at this
    rw [B5 this]
    exact ih (by omega)
  ·simp only [h, A9, A64, A5, A4]
   exact B4 (hg (j + 1) (by omega))
end
theorem B573 {t : List Int} {a : Nat} {d : Array Int} (hp : Pl t d) (ha : a < d.size) (hs : d.size < 16777216) {j : Nat} (hj : j < d.size) (i : Nat) :
  loop (Z189l3 (a : Int) (j : Int) d.toList) ((i : Int), t) = some (((Sort.scanUp (fun x => !ltS t d[a]! x) d j i : Nat) : Int), t) := by
 refine B381 (fun i h => ?_) (fun i h => ?_) (j + 1 - i) i (A11 _)
 ·have w2 : i64.wrap ((i : Int) + 1) = ((i + 1 : Nat) : Int) := w64 (by omega)
  have s1 : i < d.size := by omega
  have hc := B106 (hp a ha) (hp i s1)
  unfold Z189l3
  simp only [A63, h, A8, A6, w2, A32, A17, A15, A10, s1, ha, B35, hc, A1]
  rfl
 ·unfold Z189l3
  simp only [A63, show ¬ i <= j by omega, A9, A5, A4]
theorem B430 {t : List Int} {a : Nat} {d : Array Int} (hp : Pl t d) (ha : a < d.size) (hs : d.size < 16777216) {i : Nat} (hi : 1 <= i) (j : Nat) (hj : j < d.size) :
  loop (Z189l5 (a : Int) d.toList (i : Int)) ((j : Int), t) = some (((Sort.scanDown (fun x => ltS t d[a]! x) d i j : Nat) : Int), t) := by
 refine B291 hi (fun j h hj => ?_) (fun j h => ?_) j hj
 ·have w2 : i64.wrap ((j : Int) - 1) = (j : Int) - 1 := w64 (by omega)
  have s1 : j < d.size := by omega
  have hc := B106 (hp a ha) (hp j s1)
  unfold Z189l5
  simp only [A63, h, A8, A6, w2, A32, A17, A15, A10, s1, ha, B35, hc, A1]
  rfl
 ·unfold Z189l5
  simp only [A63, show ¬ i <= j by omega, A9, A5, A4]
theorem B867 {t : List Int} {a : Nat} {d : Array Int} (hp : Pl t d) (ha : a < d.size) (hs : d.size < 16777216) {j : Nat} (hj : j < d.size) (i : Nat) :
  loop (Z190l3 (a : Int) d.toList (j : Int)) ((i : Int), t) = some (((Sort.scanUp (fun x => ltS t x d[a]!) d j i : Nat) : Int), t) := by
 refine B381 (fun i h => ?_) (fun i h => ?_) (j + 1 - i) i (A11 _)
 ·have w2 : i64.wrap ((i : Int) + 1) = ((i + 1 : Nat) : Int) := w64 (by omega)
  have s1 : i < d.size := by omega
  have hc := B106 (hp i s1) (hp a ha)
  unfold Z190l3
  simp only [A63, h, A8, A6, w2, A32, A17, A15, A10, s1, ha, B35, hc, A1]
  rfl
 ·unfold Z190l3
  simp only [A63, show ¬ i <= j by omega, A9, A5, A4]
theorem B744 {t : List Int} {a : Nat} {d : Array Int} (hp : Pl t d) (ha : a < d.size) (hs : d.size < 16777216) {i : Nat} (hi : 1 <= i) (j : Nat) (hj : j < d.size) :
  loop (Z190l5 (a : Int) d.toList (i : Int)) ((j : Int), t) = some (((Sort.scanDown (fun x => !ltS t x d[a]!) d i j : Nat) : Int), t) := by
 refine B291 hi (fun j h hj => ?_) (fun j h => ?_) j hj
 ·have w2 : i64.wrap ((j : Int) - 1) = (j : Int) - 1 := w64 (by omega)
  have s1 : j < d.size := by omega
  have hc := B106 (hp j s1) (hp a ha)
  unfold Z190l5
  simp only [A63, h, A8, A6, w2, A32, A17, A15, A10, s1, ha, B35, hc, A1]
  rfl
 ·unfold Z190l5
  simp only [A63, show ¬ i <= j by omega, A9, A5, A4]
theorem B494 {t : List Int} {a : Nat} {d : Array Int} (hp : Pl t d) (ha : a < d.size) (hs : d.size < 16777216) {j : Nat} (hj : j < d.size) (i : Nat) :
  loop (Z190l13 (a : Int) (j : Int) d.toList) ((i : Int), t) = some (((Sort.scanUp (fun x => ltS t x d[a]!) d j i : Nat) : Int), t) := by
 refine B381 (fun i h => ?_) (fun i h => ?_) (j + 1 - i) i (A11 _)
 ·have w2 : i64.wrap ((i : Int) + 1) = ((i + 1 : Nat) : Int) := w64 (by omega)
  have s1 : i < d.size := by omega
  have hc := B106 (hp i s1) (hp a ha)
  unfold Z190l13
  simp only [A63, h, A8, A6, w2, A32, A17, A15, A10, s1, ha, B35, hc, A1]
  rfl
 ·unfold Z190l13
  simp only [A63, show ¬ i <= j by omega, A9, A5, A4]
theorem B399 {t : List Int} {a : Nat} {d : Array Int} (hp : Pl t d) (ha : a < d.size) (hs : d.size < 16777216) {i : Nat} (hi : 1 <= i) (j : Nat) (hj : j < d.size) :
  loop (Z190l15 (a : Int) d.toList (i : Int)) ((j : Int), t) = some (((Sort.scanDown (fun x => !ltS t x d[a]!) d i j : Nat) : Int), t) := by
 refine B291 hi (fun j h hj => ?_) (fun j h => ?_) j hj
 ·have w2 : i64.wrap ((j : Int) - 1) = (j : Int) - 1 := w64 (by omega)
  have s1 : j < d.size := by omega
  have hc := B106 (hp j s1) (hp a ha)
  unfold Z190l15
  simp only [A63, h, A8, A6, w2, A32, A17, A15, A10, s1, ha, B35, hc, A1]
  rfl
 ·unfold Z190l15
  simp only [A63, show ¬ i <= j by omega, A9, A5, A4]
theorem B858 {t : List Int} {a : Nat} : ∀ (n i j : Nat) (d : Array Int), j + 1 - i <= n -> 1 <= i -> j < d.size -> a < d.size -> Pl t d -> d.size < 16777216 ->
  loop (Z189l1000003 (a : Int)) ((i : Int), (j : Int), d.toList, t) = some (((Sort.partEqLoop (ltS t) a i j d).1 : Int), (Sort.partEqLoop (ltS t) a i j d).2.toList, t) := by
 intro n
 induction n with
 | zero =>
  intro i j d hn hi hj ha hp hs
  rw [Sort.partEqLoop_eq]
  have u := B573 hp ha hs hj i
  have e1 : Sort.scanUp (fun x => !ltS t d[a]! x) d j i = i := by
   rw [Sort.scanUp]; simp only [show ¬ i <= j by omega, A9, A64, A5, A4]
  rw [e1] at u ⊢
  have v := B430 hp ha hs hi j hj
  have e2 : Sort.scanDown (fun x => ltS t d[a]! x) d i j = j := by
   cases j with
   | zero => rfl
   | succ j => rw [Sort.scanDown]; simp only [show ¬ i <= j + 1 by omega, A9, A64, A5, A4]
  rw [e2] at v ⊢
  rw [A3 (by omega)]
  refine B4 ?_
  unfold Z189l1000003
  simp only [u, v, A1, show ((i : Nat) : Int) > (j : Int) by omega, A8, A6]
 | succ n ih =>
  intro i j d hn hi hj ha hp hs
  rw [Sort.partEqLoop_eq]
  have u := B573 hp ha hs hj i
  have u1 := Sort.scanUp_ge (fun x => !ltS t d[a]! x) d j i
  generalize Sort.scanUp (fun x => !ltS t d[a]! x) d j i = i2 at u u1 ⊢
  have v := B430 hp ha hs (show 1 <= i2 by omega) j hj
  have v1 := Sort.scanDown_le (fun x => ltS t d[a]! x) d i2 j
  generalize Sort.scanDown (fun x => ltS t d[a]! x) d i2 j = j2 at v v1 ⊢
  by_cases h : i2 > j2
  ·rw [A3 h]
   refine B4 ?_
   unfold Z189l1000003
   simp only [u, v, A1, show ((i2 : Nat) : Int) > (j2 : Int) by omega, A8, A6]
  ·rw [A7 h]
   have w1 : i64.wrap ((i2 : Int) + 1) = ((i2 + 1 : Nat) : Int) := w64 (by omega)
   have w2 : i64.wrap ((j2 : Int) - 1) = ((j2 - 1 : Nat) : Int) := by rw [w64 (by omega)]; omega
   have s1 : i2 < d.size := by omega
   have s2 : j2 < d.size := by omega
   rw [B5 (s' := (((i2 + 1 : Nat) : Int), ((j2 - 1 : Nat) : Int), (Sort.swp d i2 j2).toList, t)), ih (i2 + 1) (j2 - 1) _ (by omega) (by omega) (by rw [szs]; omega) (by rw [szs]; exact ha) (hp.swp s1 s2) (by rw [szs]; exact hs)]
   unfold Z189l1000003
   simp only [u, v, A1, show ¬ ((i2 : Nat) : Int) > (j2 : Int) by omega, A9, A5, A4, w1, w2, A32, A59, A17, A15, A10, s1, s2, A6, B35, A12, B63]
theorem B1066 {t : List Int} {a b p : Nat} {d : Array Int} (hp : Pl t d) (h1 : a <= p) (h2 : p < b) (hb : b <= d.size) (hs : d.size < 16777216) :
  Z189 (a : Int) (b : Int) (p : Int) d.toList t = some (((Sort.partitionEqual (ltS t) d a b p).1 : Int), (Sort.partitionEqual (ltS t) d a b p).2.toList, t) := by
 rw [Z189_eq]
 have w1 : i64.wrap ((a : Int) + 1) = ((a + 1 : Nat) : Int) := w64 (by omega)
 have w2 : i64.wrap ((b : Int) - 1) = ((b - 1 : Nat) : Int) := by rw [w64 (by omega)]; omega
 have s1 : a < d.size := by omega
 have s2 : p < d.size := by omega
 simp only [A32, A59, A17, A15, A10, s1, s2, A6, B35, A12, B63, w1, w2,
  B858 (b - 1 + 1 - (a + 1)) (a + 1) (b - 1) (Sort.swp d a p) (A11 _) (by omega) (show b - 1 < (Sort.swp d a p).size by rw [szs]; omega) (show a < (Sort.swp d a p).size by rw [szs]; omega) (hp.swp s1 s2) (by rw [szs]; exact hs), A1, Sort.partitionEqual]
theorem B1000 {t : List Int} {a : Nat} : ∀ (n i j : Nat) (d : Array Int), j + 1 - i <= n -> 1 <= i -> j < d.size -> a < d.size -> Pl t d -> d.size < 16777216 ->
  loop (Z190l1000013 (a : Int)) ((i : Int), (j : Int), d.toList, t) = some (((Sort.partLoop (ltS t) a i j d).1 : Int), (Sort.partLoop (ltS t) a i j d).2.toList, t) ∧
   (Sort.partLoop (ltS t) a i j d).1 <= j ∧ (Sort.partLoop (ltS t) a i j d).2.size = d.size := by
 intro n
 induction n with
 | zero =>
  intro i j d hn hi hj ha hp hs
  rw [Sort.partLoop_eq]
  have u := B494 hp ha hs hj i
  have e1 : Sort.scanUp (fun x => ltS t x d[a]!) d j i = i := by
   rw [Sort.scanUp]; simp only [show ¬ i <= j by omega, A9, A64, A5, A4]
  rw [e1] at u ⊢
  have v := B399 hp ha hs hi j hj
  have e2 : Sort.scanDown (fun x => !ltS t x d[a]!) d i j = j := by
   cases j with
   | zero => rfl
   | succ j => rw [Sort.scanDown]; simp only [show ¬ i <= j + 1 by omega, A9, A64, A5, A4]
  rw [e2] at v ⊢
  rw [A3 (by omega)]
  refine ⟨B4 ?_, A11 _, rfl⟩
  unfold Z190l1000013
  simp only [u, v, A1, show ((i : Nat) : Int) > (j : Int) by omega, A8, A6]
 | succ n ih =>
  intro i j d hn hi hj ha hp hs
  rw [Sort.partLoop_eq]
  have u := B494 hp ha hs hj i
  have u1 := Sort.scanUp_ge (fun x => ltS t x d[a]!) d j i
  generalize Sort.scanUp (fun x => ltS t x d[a]!) d j i = i2 at u u1 ⊢
  have v := B399 hp ha hs (show 1 <= i2 by omega) j hj
  have v1 := Sort.scanDown_le (fun x => !ltS t x d[a]!) d i2 j
  generalize Sort.scanDown (fun x => !ltS t x d[a]!) d i2 j = j2 at v v1 ⊢
  by_cases h : i2 > j2
  ·rw [A3 h]
   refine ⟨B4 ?_, v1, rfl⟩
   unfold Z190l1000013
   simp only [u, v, A1, show ((i2 : Nat) : Int) > (j2 : Int) by omega, A8, A6]
  ·rw [A7 h]
   have w1 : i64.wrap ((i2 : Int) + 1) = ((i2 + 1 : Nat) : Int) := w64 (by omega)
   have w2 : i64.wrap ((j2 : Int) - 1) = ((j2 - 1 : Nat) : Int) := by rw [w64 (by omega)]; omega
   have s1 : i2 < d.size := by omega
   have s2 : j2 < d.size := by omega
   obtain ⟨g1, g2, g3⟩ := ih (i2 + 1) (j2 - 1) (Sort.swp d i2 j2) (by omega) (by omega) (by rw [szs]; omega) (by rw [szs]; exact ha) (hp.swp s1 s2) (by rw [szs]; exact hs)
   refine ⟨?_, by omega, by rw [g3, szs]⟩
   rw [B5 (s' := (((i2 + 1 : Nat) : Int), ((j2 - 1 : Nat) : Int), (Sort.swp d i2 j2).toList, t)), g1]
   unfold Z190l1000013
   simp only [u, v, A1, show ¬ ((i2 : Nat) : Int) > (j2 : Int) by omega, A9, A5, A4, w1, w2, A32, A59, A17, A15, A10, s1, s2, A6, B35, A12, B63]
theorem B1001 {t : List Int} {a b p : Nat} {d : Array Int} (hp : Pl t d) (h1 : a <= p) (h2 : p < b) (hb : b <= d.size) (hs : d.size < 16777216) :
  Z190 (a : Int) (b : Int) (p : Int) d.toList t = some (((Sort.partition (ltS t) d a b p).1 : Int), (Sort.partition (ltS t) d a b p).2.1, (Sort.partition (ltS t) d a b p).2.2.toList, t) := by
 rw [Z190_eq]
 have w1 : i64.wrap ((a : Int) + 1) = ((a + 1 : Nat) : Int) := w64 (by omega)
 have w2 : i64.wrap ((b : Int) - 1) = ((b - 1 : Nat) : Int) := by rw [w64 (by omega)]; omega
 have s1 : a < d.size := by omega
 have s2 : p < d.size := by omega
 unfold Sort.partition
 have p1 := hp.swp s1 s2
 have z1 := szs d a p
 obtain ⟨e, he⟩ : ∃ e, Sort.swp d a p = e := ⟨_, rfl⟩
 rw [he] at p1 z1 ⊢
 have se : a < e.size := by omega
 have u := B867 p1 se (by omega) (show b - 1 < e.size by omega) (a + 1)
 have u1 := Sort.scanUp_ge (fun x => ltS t x e[a]!) e (b - 1) (a + 1)
 obtain ⟨i2, hi2⟩ : ∃ i2, Sort.scanUp (fun x => ltS t x e[a]!) e (b - 1) (a + 1) = i2 := ⟨_, rfl⟩
 rw [hi2] at u u1
 have v := B744 p1 se (by omega) (show 1 <= i2 by omega) (b - 1) (by omega)
 have v1 := Sort.scanDown_le (fun x => !ltS t x e[a]!) e i2 (b - 1)
 obtain ⟨j2, hj2⟩ : ∃ j2, Sort.scanDown (fun x => !ltS t x e[a]!) e i2 (b - 1) = j2 := ⟨_, rfl⟩
 rw [hj2] at v v1
 simp only [hi2, hj2]
 have q2 : j2 < e.size := by omega
 by_cases h : i2 > j2
 ·simp only [A32, A59, A17, A15, A10, s1, s2, A6, B35, A12, B63, he, w1, w2, u, v, A1, show ((i2 : Nat) : Int) > (j2 : Int) by omega, A8, se, q2, h]
 ·have q1 : i2 < e.size := by omega
  have w3 : i64.wrap ((i2 : Int) + 1) = ((i2 + 1 : Nat) : Int) := w64 (by omega)
  have w4 : i64.wrap ((j2 : Int) - 1) = ((j2 - 1 : Nat) : Int) := by rw [w64 (by omega)]; omega
  obtain ⟨g1, g2, g3⟩ := B1000 (a := a) (j2 - 1 + 1 - (i2 + 1)) (i2 + 1) (j2 - 1) (Sort.swp e i2 j2) (A11 _) (by omega) (by rw [szs]; omega) (by rw [szs]; exact se) (p1.swp q1 q2) (by rw [szs]; omega)
  rw [szs] at g3
  obtain ⟨r, hr⟩ : ∃ r, Sort.partLoop (ltS t) a (i2 + 1) (j2 - 1) (Sort.swp e i2 j2) = r := ⟨_, rfl⟩
  rw [hr] at g1 g2 g3
  have q3 : r.1 < r.2.size := by omega
  have q4 : a < r.2.size := by omega
  simp only [A32, A59, A17, A15, A10, s1, s2, A6, B35, A12, B63, he, w1, w2, u, v, A1, show ¬ ((i2 : Nat) : Int) > (j2 : Int) by omega, A9, A5, A4, q1, q2, w3, w4, g1, q3, q4, h, hr]
theorem B1003 {t : List Int} : ∀ (n a b : Nat) (limit : Nat) (wb wp : Bool) (d : Array Int), b - a <= n -> a <= b -> b <= d.size -> Pl t d -> Sort.Below (ltS t) a b d -> d.size < 16777216 -> limit <= 64 ->
  ∃ e : Array Int, loop Z180l2 ((a : Int), (b : Int), (limit : Int), wb, wp, d.toList, t) = some (e.toList, t) ∧ Sort.PermIn a b d e ∧ Sort.SortedIn (ltS t) a b e := by
 intro n
 induction n using Nat.strongRecOn with
 | _ n ih =>
 intro a b limit wb wp d hn hab hb hp hB hs hl
 have hw := swoS t
 have w1 : i64.wrap ((b : Int) - (a : Int)) = ((b - a : Nat) : Int) := by rw [w64 (by omega)]; omega
 by_cases h12 : b - a <= 12
 ·have g12 : decide (((b - a : Nat) : Int) <= 12) = true := by simp only [A20]; omega
  obtain ⟨k1, k2⟩ := Sort.insertionSort_holds (lt := ltS t) hw d a b hab hb
  refine ⟨_, B4 ?_, k1, k2⟩
  unfold Z180l2
  simp only [w1, g12, A6, B1060 hp hab hb (by omega), A1]
 have g12 : decide (((b - a : Nat) : Int) <= 12) = false := by simp only [A62]; omega
 by_cases hl0 : limit = 0
 ·subst hl0
  obtain ⟨k1, k2⟩ := Sort.heapSort_holds (lt := ltS t) hw d a b hab hb
  refine ⟨_, B4 ?_, k1, k2⟩
  unfold Z180l2
  simp only [w1, g12, A5, A4, show ((0 : Nat) : Int) = 0 from rfl, A8, A6, B1027 hp hab hb (by omega), A1]
 have gl0 : decide ((limit : Int) = 0) = false := by simp only [A62]; omega
 -- the patterns
 obtain ⟨l1, d1, f1, k1, m1⟩ : ∃ (l1 : Nat) (d1 : Array Int), ((if (!wb) = true then (Z184 (a : Int) (b : Int) d.toList t).bind fun q21 => some (i64.wrap ((limit : Int) - 1), q21.1, q21.2) else some ((limit : Int), d.toList, t)) : Option (Int × List Int × List Int)) = some ((l1 : Int), d1.toList, t) ∧ Sort.PermIn a b d d1 ∧ l1 <= 64 := by
  cases wb with
  | true => exact ⟨limit, d, rfl, Sort.permIn_refl _ _ _, hl⟩
  | false =>
   obtain ⟨e, e1, e2⟩ := B957 (t := t) hab hb hs
   refine ⟨limit - 1, e, ?_, e2, by omega⟩
   rw [A3 (show (!false) = true from rfl), e1, w64 (n := (limit : Int) - 1) (by omega)]
   show some (((limit : Nat) : Int) - 1, e.toList, t) = _
   congr 2; omega
 have p1 := hp.perm hb k1
 have b1 : b <= d1.size := by rw [k1.1]; exact hb
 have B1 := hB.perm hb k1
 -- the pivot
 obtain ⟨x, hint, f2, x1, x2⟩ := B891 p1 (show a < b by omega) b1 (by rw [k1.1]; omega)
 obtain ⟨pv, hint', d2, f3, pv1, pv2, k2⟩ : ∃ (pv : Nat) (hint' : Int) (d2 : Array Int), ((if (decide (hint = 2)) = true then (Z186 (a : Int) (b : Int) d1.toList t).bind fun q34 => some (i64.wrap (i64.wrap ((b : Int) - 1) - i64.wrap (((x : Nat) : Int) - (a : Int))), 1, q34.1, q34.2) else some (((x : Nat) : Int), hint, d1.toList, t)) : Option (Int × Int × List Int × List Int)) = some ((pv : Int), hint', d2.toList, t) ∧ a <= pv ∧ pv < b ∧ Sort.PermIn a b d1 d2 := by
  by_cases h2 : hint = 2
  ·refine ⟨b - 1 - (x - a), 1, _, ?_, by omega, by omega, Sort.reverseRange_holds d1 a b hab b1⟩
   rw [A3 (by simp only [h2, A8]), B1070 (by omega) b1 (by rw [k1.1]; omega), w64 (n := (b : Int) - 1) (by omega), w64 (n := ((x : Nat) : Int) - (a : Int)) (by omega), w64 (by omega)]
   show some (_, _, _, _) = _
   congr 2; omega
  ·exact ⟨x, hint, d1, by rw [A7 (by simp only [h2, A9]; decide)], x1, x2, Sort.permIn_refl _ _ _⟩
 have p2 := p1.perm b1 k2
 have b2 : b <= d2.size := by rw [k2.1]; exact b1
 have B2 := B1.perm b1 k2
 have z2 : d2.size = d.size := k2.1.trans k1.1
 have P2 := Sort.permIn_trans _ _ _ _ _ k1 k2
 -- whether it is tried
 obtain ⟨v, f4⟩ : ∃ v : Bool, ((if wb = true then (if wp = true then some (decide (hint' = 1)) else some false) else some false) : Option Bool) = some v := by
  cases wb <;> cases wp <;> exact ⟨_, rfl⟩
 have tried : (v = true ∧ (Sort.partialInsertionSort (ltS t) d2 a b).2 = true) ∨
   (∃ d3 : Array Int, Sort.PermIn a b d2 d3 ∧ ((if v = true then (Z187 (a : Int) (b : Int) d2.toList t).bind fun q46 => (if q46.1 = true then some (Sum.inr (q46.2.1, q46.2.2)) else some (Sum.inl (q46.2.1, q46.2.2))) else some (Sum.inl (d2.toList, t))) : Option ((List Int × List Int) ⊕ (List Int × List Int))) = some (.inl (d3.toList, t))) := by
  cases v with
  | false => exact .inr ⟨d2, Sort.permIn_refl _ _ _, rfl⟩
  | true =>
   cases hx : (Sort.partialInsertionSort (ltS t) d2 a b).2 with
   | true => exact .inl ⟨rfl, rfl⟩
   | false =>
    refine .inr ⟨_, (Sort.partialInsertionSort_holds hw d2 a b (by omega) b2 B2).1, ?_⟩
    rw [A3 rfl, B733 p2 (by omega) b2 (by omega), hx]; rfl
 rcases tried with ⟨t1, t2⟩ | ⟨d3, k3, f5⟩
 ·-- it is sorted now
  subst t1
  obtain ⟨m3, m4⟩ := Sort.partialInsertionSort_holds hw d2 a b (by omega) b2 B2
  refine ⟨_, B4 (a := ((Sort.partialInsertionSort (ltS t) d2 a b).1.toList, t)) ?_, Sort.permIn_trans _ _ _ _ _ P2 m3, m4 t2⟩
  unfold Z180l2
  simp only [w1, g12, gl0, A5, A4, f1, A1, f2, f3, f4, A6, B733 p2 (show a < b by omega) b2 (by omega), t2, Sum.elim_inr]
 have p3 := p2.perm b2 k3
 have b3 : b <= d3.size := by rw [k3.1]; exact b2
 have B3 := B2.perm b2 k3
 have z3 : d3.size = d.size := k3.1.trans z2
 have P3 := Sort.permIn_trans _ _ _ _ _ P2 k3
 obtain ⟨c, f6, hc⟩ : ∃ c : Bool, ((if (decide ((a : Int) > 0)) = true then (if 0 <= i64.wrap ((a : Int) - 1) ∧ i64.wrap ((a : Int) - 1) < (d3.toList.length : Int) then (if 0 <= (pv : Int) ∧ (pv : Int) < (d3.toList.length : Int) then (Z188 (rd d3.toList (i64.wrap ((a : Int) - 1))) (rd d3.toList (pv : Int)) t).bind fun q60 => some (!(decide (q60.1 < 0)), q60.2) else none) else none) else some (false, t)) : Option (Bool × List Int)) = some (c, t) ∧ (c = true -> 0 < a ∧ ltS t d3[a - 1]! d3[pv]! = false) := by
  by_cases h0 : 0 < a
  ·have w2 : i64.wrap ((a : Int) - 1) = ((a - 1 : Nat) : Int) := by rw [w64 (by omega)]; omega
   have s1 : a - 1 < d3.size := by omega
   have s2 : pv < d3.size := by omega
   refine ⟨!ltS t d3[a - 1]! d3[pv]!, ?_, fun h => ⟨h0, by simpa using h⟩⟩
   rw [A3 (by simp only [A20]; omega)]
   simp only [w2, A32, A17, A15, A10, s1, s2, A6, B35, B106 (p3 (a - 1) s1) (p3 pv s2), A1]
   rfl
  ·exact ⟨false, by rw [A7 (by simp only [A20]; omega)], fun h => nomatch h⟩
 have w3 : i64.wrap (((b - a : Nat) : Int).tdiv 8) = (((b - a) / 8 : Nat) : Int) := by rw [B27 (by omega), w64 (by omega)]; omega
 cases c with
 | true =>
  obtain ⟨h0, hnl⟩ := hc rfl
  have e1 := B1066 p3 pv1 pv2 b3 (by omega)
  obtain ⟨q1, q2, q3, q4, q5⟩ := Sort.round_eq (d4 := (Sort.partitionEqual (ltS t) d3 a b pv).2) (mid := (Sort.partitionEqual (ltS t) d3 a b pv).1) hw (Sort.partitionEqual_holds _) h0 pv1 pv2 b3 B3 hnl rfl
  have pe := (Sort.partitionEqual_holds (ltS t) hw d3 a b pv pv1 pv2 b3 (fun i hi hi' => by
   rcases B3 with h | h
   ·omega
   ·exact hw.ntrans _ _ _ (h i hi hi') hnl)).2.2.1
  have p4 := p3.perm b3 pe
  generalize (Sort.partitionEqual (ltS t) d3 a b pv).1 = mid at e1 q1 q2 q4 q5
  generalize (Sort.partitionEqual (ltS t) d3 a b pv).2 = d4 at e1 q3 q4 q5 p4
  obtain ⟨e, r1, r2, r3⟩ := ih (b - mid) (by omega) mid b l1 wb wp d4 (A11 _) q2 (by omega) p4 q4 (by omega) m1
  obtain ⟨y1, y2⟩ := q5 e r2 r3
  refine ⟨e, ?_, Sort.permIn_trans _ _ _ _ _ P3 y1, y2⟩
  rw [B5 (s' := ((mid : Int), (b : Int), (l1 : Int), wb, wp, d4.toList, t)), r1]
  unfold Z180l2
  simp only [w1, g12, gl0, A5, A4, f1, A1, f2, f3, f4, f5, A43, f6, A6, e1]
 | false =>
  have e1 := B1001 p3 pv1 pv2 b3 (by omega)
  obtain ⟨q1, q2, q3, q4, q5, q6, q7⟩ := Sort.round_part (d4 := (Sort.partition (ltS t) d3 a b pv).2.2) (ap := (Sort.partition (ltS t) d3 a b pv).2.1) (mid := (Sort.partition (ltS t) d3 a b pv).1) hw (Sort.partition_holds _) pv1 pv2 b3 B3 rfl
  have pe := (Sort.partition_holds (ltS t) hw d3 a b pv pv1 pv2 b3).2.2.1
  have p4 := p3.perm b3 pe
  generalize (Sort.partition (ltS t) d3 a b pv).1 = mid at e1 q1 q2 q4 q5 q6 q7
  generalize (Sort.partition (ltS t) d3 a b pv).2.2 = d4 at e1 q3 q4 q5 q6 q7 p4
  generalize (Sort.partition (ltS t) d3 a b pv).2.1 = ap at e1
  have w4 : i64.wrap ((mid : Int) - (a : Int)) = ((mid - a : Nat) : Int) := by rw [w64 (by omega)]; omega
  have w5 : i64.wrap ((b : Int) - (mid : Int)) = ((b - mid : Nat) : Int) := by rw [w64 (by omega)]; omega
  have w6 : i64.wrap ((mid : Int) + 1) = ((mid + 1 : Nat) : Int) := w64 (by omega)
  -- a call begins the loop anew
  have call_is : ∀ (a' b' : Nat) (d' e : Array Int), loop Z180l2 ((a' : Int), (b' : Int), (l1 : Int), true, true, d'.toList, t) = some (e.toList, t) -> Z180 (a' : Int) (b' : Int) (l1 : Int) d'.toList t = some (e.toList, t) := by
   intro a' b' d' e h
   rw [Z180_eq, h]; rfl
  by_cases hm : mid - a < b - mid
  ·obtain ⟨L, r1, r2, r3⟩ := ih (mid - a) (by omega) a mid l1 true true d4 (A11 _) q1 (by omega) p4 q4 (by omega) m1
   obtain ⟨y1, y2⟩ := q6 L r2 r3
   have zL : L.size = d4.size := r2.1
   obtain ⟨e, s1, s2, s3⟩ := ih (b - (mid + 1)) (by omega) (mid + 1) b l1 (decide (((mid - a : Nat) : Int) ≥ (((b - a) / 8 : Nat) : Int))) ap L (A11 _) (by omega) (by omega) (p4.perm (by omega) r2) y1 (by omega) m1
   obtain ⟨y3, y4⟩ := y2 e s2 s3
   refine ⟨e, ?_, Sort.permIn_trans _ _ _ _ _ P3 y3, y4⟩
   rw [B5 (s' := (((mid + 1 : Nat) : Int), (b : Int), (l1 : Int), decide (((mid - a : Nat) : Int) ≥ (((b - a) / 8 : Nat) : Int)), ap, L.toList, t)), s1]
   unfold Z180l2
   simp only [w1, g12, gl0, A5, A4, f1, A1, f2, f3, f4, f5, A43, f6, e1, w4, w5, w3, show decide (((mid - a : Nat) : Int) < ((b - mid : Nat) : Int)) = true by simp only [A20]; omega, A6, call_is _ _ _ _ r1, w6]
  ·obtain ⟨L, r1, r2, r3⟩ := ih (b - (mid + 1)) (by omega) (mid + 1) b l1 true true d4 (A11 _) (by omega) (by omega) p4 q5 (by omega) m1
   obtain ⟨y1, y2⟩ := q7 L r2 r3
   have zL : L.size = d4.size := r2.1
   obtain ⟨e, s1, s2, s3⟩ := ih (mid - a) (by omega) a mid l1 (decide (((b - mid : Nat) : Int) ≥ (((b - a) / 8 : Nat) : Int))) ap L (A11 _) (by omega) (by omega) (p4.perm (by omega) r2) y1 (by omega) m1
   obtain ⟨y3, y4⟩ := y2 e s2 s3
   refine ⟨e, ?_, Sort.permIn_trans _ _ _ _ _ P3 y3, y4⟩
   rw [B5 (s' := ((a : Int), (mid : Int), (l1 : Int), decide (((b - mid : Nat) : Int) ≥ (((b - a) / 8 : Nat) : Int)), ap, L.toList, t)), s1]
   unfold Z180l2
   simp only [w1, g12, gl0, A5, A4, f1, A1, f2, f3, f4, f5, A43, f6, e1, w4, w5, w3, show decide (((mid - a : Nat) : Int) < ((b - mid : Nat) : Int)) = false by simp only [A62]; omega, A6, call_is _ _ _ _ r1, w6]
theorem B789 {t : List Int} {d : Array Int} (hp : Pl t d) (h0 : 0 < d.size) (hs : d.size < 16777216) :
  ∃ e : Array Int, Z172 d.toList t = some (e.toList, t) ∧ Sort.PermIn 0 d.size d e ∧ Sort.SortedIn (ltS t) 0 d.size e := by
 obtain ⟨L, l1, l2, l3⟩ := B550 (x := (d.size : Int)) (by omega) (by omega)
 obtain ⟨e, e1, e2, e3⟩ := B1003 d.size 0 d.size L true true d (by omega) (A30 _) (A11 _) hp (.inl rfl) hs (by omega)
 refine ⟨e, ?_, e2, e3⟩
 rw [Z172_eq]
 have u1 : u64.wrap (d.size : Int) = (d.size : Int) := by rw [wu64]; omega
 have z0 : ((0 : Nat) : Int) = 0 := rfl
 rw [z0] at e1
 simp only [A32, u1, l1, A1, Z180_eq, e1]
def leS (t : List Int) (x y : Int) : Prop := ltS t y x = false
def PlL (t : List Int) (l : List Int) : Prop := ∀ x ∈ l, 0 <= x ∧ x <= (t.length : Int)
theorem B716 {t : List Int} {a b : Int} (ha : 0 <= a ∧ a <= (t.length : Int)) (hb : 0 <= b ∧ b <= (t.length : Int)) (h : leS t a b) (g : leS t b a) : a = b := by
 simp only [leS, ltS, A62] at h g
 have n := B272 (sfx t a) (sfx t b)
 have e := B364 (sfx t a) (sfx t b) (by omega)
 have := congrArg List.length e
 simp only [sfx, A77] at this
 omega
theorem B635 {t : List Int} {a b c : Int} (h : leS t a b) (g : leS t b c) : leS t a c := (swoS t).ntrans _ _ _ g h
theorem lt_le {t : List Int} {a b : Int} (h : ltS t a b = true) : leS t a b := by
 cases e : ltS t b a with
 | false => exact e
 | true => have := (swoS t).trans _ _ _ h e; rw [(swoS t).irrefl] at this; cases this
theorem B677 {t l m : List Int} (hv : PlL t l) (p : l.Perm m) (hl : l.Pairwise (leS t)) (hm : m.Pairwise (leS t)) : l = m :=
 List.Perm.eq_of_pairwise (fun a b ha hb h g => B716 (hv a ha) (hv b (p.mem_iff.2 hb)) h g) hl hm p
theorem B732 {t : List Int} {e : Array Int} (h : Sort.SortedIn (ltS t) 0 e.size e) : e.toList.Pairwise (leS t) := by
 rw [List.pairwise_iff_getElem]
 intro i j hi hj hij
 rw [A32] at hi hj
 have := h i j (A30 _) hij hj
 rw [getElem!_pos e i hi, getElem!_pos e j hj] at this
 simpa [leS] using this
theorem B1004 {d e : Array Int} (h : Sort.PermIn 0 d.size d e) : e.toList.Perm d.toList := by
 have h2 := h.2.2
 rw [show e.extract 0 d.size = e by rw [← h.1]; exact Array.extract_size, Array.extract_size] at h2
 exact h2
theorem B460 {n : Nat} {f : Int × List Int -> Option ((Int × List Int) ⊕ (List Int))} {h : Nat -> Int -> Int} {V : Int -> Prop}
  (hf : ∀ (i : Nat) (b : List Int) (x : Int), b.length = n -> b[i]? = some x -> V x -> f ((i : Int), b) = some (.inl (((i + 1 : Nat) : Int), b.set i (h i x))))
  (he : ∀ b : List Int, b.length = n -> f ((n : Int), b) = some (.inr b)) : ∀ (m k : Nat) (b : List Int), k + m = n -> b.length = n -> (∀ j x, k <= j -> b[j]? = some x -> V x) ->
  ∃ r, loop f ((k : Int), b) = some r ∧ r.length = n ∧ ∀ j : Nat, r[j]? = if j < k then b[j]? else (b[j]?).map (h j) := by
 intro m
 induction m with
 | zero =>
  intro k b hk hb hv
  have : k = n := by omega
  subst this
  refine ⟨b, B4 (he b hb), hb, fun j => ?_⟩
  split
  ·rfl
  ·rw [A65 (by omega)]; rfl
 | succ m ih =>
  intro k b hk hb hv
  obtain ⟨x, hx⟩ : ∃ x, b[k]? = some x := ⟨_, A18 (by omega)⟩
  obtain ⟨r, r1, r2, r3⟩ := ih (k + 1) (b.set k (h k x)) (by omega) (by rw [A59]; exact hb) (fun j y hj hy => by
   rw [List.getElem?_set_ne (by omega)] at hy
   exact hv j y (by omega) hy)
  refine ⟨r, by rw [B5 (hf k b x hb hx (hv k x (A11 _) hx))]; exact r1, r2, fun j => ?_⟩
  rw [r3 j]
  by_cases h1 : j = k
  ·subst h1
   rw [A3 (by omega), A7 (by omega), hx, List.getElem?_set_self (by omega)]; rfl
  ·rw [List.getElem?_set_ne (Ne.symm h1)]
   by_cases h2 : j < k
   ·rw [A3 (by omega), A3 h2]
   ·rw [A7 (by omega), A7 h2]
def iota (n : Nat) : List Int := (List.range n).map fun k : Nat => (k : Int)
theorem B985 {n j : Nat} : (iota n)[j]? = if j < n then some (j : Int) else none := by
 unfold iota
 rw [A45]
 by_cases h : j < n
 ·rw [A82 h, A3 h]; rfl
 ·rw [A65 (by rw [A50]; omega), A7 h]; rfl
theorem B417 {n : Nat} {r : List Int} (hr : ∀ j : Nat, r[j]? = if j < 0 then (List.replicate n (0 : Int))[j]? else ((List.replicate n (0 : Int))[j]?).map (fun _ => (j : Int))) : r = iota n := by
 apply A98
 intro j
 rw [hr j, B985, A7 (by omega), A126]
 by_cases h : j < n
 ·rw [A3 h, A3 h]; rfl
 ·rw [A7 h, A7 h]; rfl
theorem B82 {n : Nat} : (iota n).length = n := by simp [iota]
theorem B71 {n : Nat} {x : Int} : x ∈ iota n ↔ 0 <= x ∧ x < (n : Int) := by
 unfold iota
 rw [A60]
 constructor
 ·rintro ⟨k, hk, rfl⟩
  rw [A87] at hk
  omega
 ·intro h
  exact ⟨x.toNat, A87.2 (by omega), by omega⟩
theorem B792 {t : List Int} (ht : t.length <= 4000) : ∃ s, Z150 t = some s ∧ s.Perm (iota (t.length + 1)) ∧ s.Pairwise (leS t) := by
 rw [Z150_eq]
 have w1 : i64.wrap ((t.length : Int) + 1) = ((t.length + 1 : Nat) : Int) := w64 (by omega)
 simp only [w1, A12]
 rw [A3 (by omega)]
 obtain ⟨r, r1, r2, r3⟩ := B460 (n := t.length + 1) (f := Z150l3 (List.replicate (t.length + 1) 0)) (h := fun i _ => (i : Int)) (V := fun _ => True)
  (fun i b x hb hx _ => by
   have hi := B6 hx
   have w2 : i64.wrap ((i : Int) + 1) = ((i + 1 : Nat) : Int) := w64 (by omega)
   unfold Z150l3
   simp only [A99, hb ▸ hi, A8, A6, A17, A15, A10, hi, A12, w2])
  (fun b hb => by
   unfold Z150l3
   simp only [A99, A10, Nat.lt_irrefl, A9, A5, A4])
  (t.length + 1) 0 (List.replicate (t.length + 1) 0) (by omega) (by simp) (fun _ _ _ _ => trivial)
 have er := B417 r3
 subst er
 have z0 : ((0 : Nat) : Int) = 0 := rfl
 rw [z0] at r1
 rw [r1]
 simp only [A1]
 obtain ⟨e, e1, e2, e3⟩ := B789 (t := t) (d := (iota (t.length + 1)).toArray) (fun k hk => by
   have hk' : k < (iota (t.length + 1)).length := by simpa using hk
   rw [getElem!_pos _ k hk]
   have : (iota (t.length + 1)).toArray[k] ∈ iota (t.length + 1) := by simp
   have := B71.1 this
   omega) (by simp [B82]) (by simp [B82]; omega)
 have e1' : Z172 (iota (t.length + 1)) t = some (e.toList, t) := e1
 rw [e1']
 refine ⟨e.toList, rfl, B1004 e2, B732 ?_⟩
 rw [← e2.1] at e3
 exact e3
def colOf (t : List Int) (x : Int) : Int := if x = 0 then 0 else rd t (x - 1) + 1
theorem B893 {t s : List Int} (hs : Z150 t = some s) (hp : s.Perm (iota (t.length + 1))) (ht : t.length <= 4000) (hb : ∀ x ∈ t, 0 <= x ∧ x <= 255) : Z111 t = some (s.map (colOf t)) := by
 rw [Z111_eq, hs]
 simp only [A1]
 have hl : s.length = t.length + 1 := by rw [hp.length_eq, B82]
 obtain ⟨r, r1, r2, r3⟩ := B460 (n := t.length + 1) (f := Z111l3 t s) (h := fun _ x => colOf t x) (V := fun x => 0 <= x ∧ x <= (t.length : Int))
  (fun i b x hb' hx hv => by
   have hi := B6 hx
   have w2 : i64.wrap ((i : Int) + 1) = ((i + 1 : Nat) : Int) := w64 (by omega)
   have hr : rd b (i : Int) = x := B18 hx
   have hn : i < t.length + 1 := by omega
   unfold Z111l3 colOf
   by_cases h0 : x = 0
   ·simp only [hl, A10, hn, A8, A6, A17, A15, hi, hr, h0, A12, w2]
   ·have w3 : i64.wrap (x - 1) = x - 1 := w64 (by omega)
    have hm := hb _ (A41 (B208 (xs := t) (i := x - 1) (by omega) (by omega)))
    have w4 : i64.wrap (rd t (x - 1)) = rd t (x - 1) := w64 (by omega)
    have w5 : i64.wrap (rd t (x - 1) + 1) = rd t (x - 1) + 1 := w64 (by omega)
    have c1 : 0 <= x - 1 ∧ x - 1 < (t.length : Int) := by omega
    simp only [hl, A10, hn, A8, A6, A17, A15, hi, hr, h0, A9, A5, A4, w3, A3 c1, w4, w5, A12, w2])
  (fun b hb' => by
   unfold Z111l3
   simp only [hl, A10, Nat.lt_irrefl, A9, A5, A4])
  (t.length + 1) 0 s (by omega) hl (fun j x _ hx => by
   have := B71.1 (hp.mem_iff.1 (A41 hx))
   omega)
 have z0 : ((0 : Nat) : Int) = 0 := rfl
 rw [z0] at r1
 rw [r1]
 simp only [A1, A16]
 apply A98
 intro j
 rw [r3 j, A7 (by omega), A45]
def FstAt (l : List Int) (s : Int) (i : Nat) : Prop := l[i]? = some s ∧ ∀ j, j < i -> l[j]? ≠ some s
theorem FstAt.unique {l : List Int} {s : Int} {i k : Nat} (h : FstAt l s i) (g : FstAt l s k) : i = k := by
 rcases A117 i k with q | q | q
 ·exact absurd h.1 (g.2 i q)
 ·exact q
 ·exact absurd g.1 (h.2 k q)
def pos : List Int -> Int -> Nat
 | [], _ => 0
 | x :: l, s => if x = s then 0 else pos l s + 1
theorem B236 {s : Int} : ∀ {l : List Int}, s ∈ l -> FstAt l s (pos l s)
 | x :: l, h => by
  by_cases hx : x = s
  ·rw [pos, A3 hx]
   exact ⟨by simp [hx], fun j hj => absurd hj (by omega)⟩
  ·have hm : s ∈ l := by
    rcases A19.1 h with h | h
    ·exact absurd h.symm hx
    ·exact h
   obtain ⟨i1, i2⟩ := B236 hm
   rw [pos, A7 hx]
   refine ⟨by simpa using i1, fun j hj => ?_⟩
   cases j with
   | zero => simpa using hx
   | succ j => simpa using i2 j (by omega)
theorem B982 {l : List Int} {s : Int} {i : Nat} (h : FstAt l s i) (hl : l.length <= 1000) : Z116 l s = some (i : Int) := by
 have hi := B6 h.1
 have go : ∀ (m k : Nat), k + m = i -> loop (Z116l2 l s) (k : Int) = some (.inr (i : Int)) := by
  intro m
  induction m with
  | zero =>
   intro k hk
   have : k = i := by omega
   subst this
   refine B4 ?_
   unfold Z116l2
   simp only [A10, hi, A8, A6, A17, A15, B18 h.1]
  | succ m ih =>
   intro k hk
   have hk' : k < l.length := by omega
   have hne : ¬ s = rd l (k : Int) := by
    intro e
    refine h.2 k (by omega) ?_
    rw [A18 hk', e, B18 (A18 hk')]
   have w2 : i64.wrap ((k : Int) + 1) = ((k + 1 : Nat) : Int) := w64 (by omega)
   rw [B5 (s' := ((k + 1 : Nat) : Int))]
   ·exact ih (k + 1) (by omega)
   ·unfold Z116l2
    simp only [A10, hk', A8, A6, A17, A15, hne, A9, A5, A4, w2]
 rw [Z116_eq]
 have := go i 0 (by omega)
 have z0 : ((0 : Nat) : Int) = 0 := rfl
 rw [z0] at this
 rw [this]
 rfl
def B104 (l : List Int) (s : Int) (i : Nat) : List Int := s :: (l.take i ++ l.drop (i + 1))
theorem B158 {l : List Int} {s : Int} {i : Nat} (h : l[i]? = some s) : (B104 l s i).Perm l := by
 have hi := B6 h
 have e : l = l.take i ++ s :: l.drop (i + 1) := by
  have : l.drop i = s :: l.drop (i + 1) := by
   rw [A68 hi]
   congr 1
   rw [A18 hi] at h
   exact Option.some.inj h
  rw [← this, A105]
 unfold B104
 have hp : (l.take i ++ s :: l.drop (i + 1)).Perm (s :: (l.take i ++ l.drop (i + 1))) := List.perm_middle
 rw [← e] at hp
 exact hp.symm
theorem B709 {l : List Int} {s : Int} {i : Nat} (h : l[i]? = some s) (hl : l.length <= 1000) : Z117 (i : Int) l = some (s, B104 l s i) := by
 have hi := B6 h
 rw [Z117_eq]
 have w2 : i64.wrap ((i : Int) + 1) = ((i + 1 : Nat) : Int) := w64 (by omega)
 have hr : rd l (i : Int) = s := B18 h
 have e1 : min ((l.drop 0).take (i - 0)).length (i + 1 - 1) = i := by simp; omega
 cases l with
 | nil => simp at hi
 | cons x l =>
  simp only [A17, A15, A10, hi, A6, hr, w2, A12, A63, show i + 1 <= (x :: l).length by omega, show (0 : Int) <= 1 by omega, show (1 : Int) <= ((i + 1 : Nat) : Int) by omega, show i <= (x :: l).length by omega,
   show (1 : Int).toNat = 1 from rfl, e1]
  have e2 : (List.drop 0 (x :: l)).take (i - 0) = (x :: l).take i := by simp
  have e3 : ((x :: l).take i).take i = (x :: l).take i := by rw [List.take_take, Nat.min_self]
  rw [e2, e3]
  rw [A3 (by simp; omega)]
  simp only [A16, A33, A15, B104, show (0 : Int).toNat = 0 from rfl]
  rw [Nat.add_comm 1 i]
  rfl
def B45 : List Int -> List Int -> List Int
 | _, [] => []
 | all, s :: m => (pos all s : Int) :: B45 (B104 all s (pos all s)) m
theorem B369 : ∀ (m all : List Int), (B45 all m).length = m.length
 | [], _ => rfl
 | s :: m, all => by simp [B45, B369 m]
theorem B278 {n : Nat} : ∀ (m all : List Int), all.Perm (iota n) -> (∀ x ∈ m, 0 <= x ∧ x < (n : Int)) -> ∀ p ∈ B45 all m, 0 <= p ∧ p < (n : Int)
 | [], _, _, _ => fun p hp => by simp [B45] at hp
 | s :: m, all, ha, hm => fun p hp => by
  have hs : s ∈ all := ha.mem_iff.2 (B71.2 (hm s (by simp)))
  have hf := B236 hs
  rw [B45, A19] at hp
  rcases hp with hp | hp
  ·have := B6 hf.1
   rw [ha.length_eq, B82] at this
   omega
  ·exact B278 m _ ((B158 hf.1).trans ha) (fun x hx => hm x (by simp [hx])) p hp
theorem B542 {l : List Int} : ∀ (m : List Int) (n : Nat) (all out : List Int), l.drop n = m -> all.Perm (iota 257) -> (∀ x ∈ m, 0 <= x ∧ x < 257) -> out.length + m.length <= 100000 -> n + m.length <= 100000 ->
  ∃ a, loop (Z81l7 l) ((n : Int), all, out) = some (a, out ++ B45 all m)
 | [], n, all, out, hd, ha, hm, ho, hn => by
  refine ⟨all, B4 ?_⟩
  have hln : l.length <= n := by
   have := congrArg List.length hd
   rw [A77, A35] at this
   omega
  unfold Z81l7
  simp only [A10, show ¬ n < l.length by omega, A9, A5, A4, B45, A38]
 | s :: m, n, all, out, hd, ha, hm, ho, hn => by
  have hget : l[n]? = some s := by
   have : (l.drop n)[0]? = some s := by rw [hd]; rfl
   simpa using this
  have hd' : l.drop (n + 1) = m := by rw [← A115, hd]; rfl
  have hlt := B6 hget
  have hs : s ∈ all := ha.mem_iff.2 (B71.2 (by have := hm s (by simp); omega))
  have hf := B236 hs
  have hal : all.length <= 1000 := by rw [ha.length_eq, B82]; omega
  simp only [A21] at ho hn
  obtain ⟨a, h⟩ := B542 m (n + 1) (B104 all s (pos all s)) (out ++ [(pos all s : Int)]) hd' ((B158 hf.1).trans ha) (fun x hx => hm x (by simp [hx])) (by simp; omega) (by omega)
  refine ⟨a, ?_⟩
  have w2 : i64.wrap ((n : Int) + 1) = ((n + 1 : Nat) : Int) := w64 (by omega)
  rw [B5 (s' := (((n + 1 : Nat) : Int), B104 all s (pos all s), out ++ [(pos all s : Int)])), h, B45, A27]
  ·rfl
  ·unfold Z81l7
   simp only [A10, hlt, A8, A6, A17, A15, B18 hget, B982 hf hal, A1, B709 hf.1 hal, A26, w2]
   rw [A3 (by omega)]
theorem B686 {l : List Int} (hl : l.length <= 4001) (hm : ∀ x ∈ l, 0 <= x ∧ x < 257) : Z114 l = some 0 := by
 have go : ∀ (m k : Nat), k + m = l.length -> loop (Z173l2 l) (k : Int) = some (.inl ()) := by
  intro m
  induction m with
  | zero =>
   intro k hk
   refine B4 ?_
   unfold Z173l2
   simp only [A10, show ¬ k < l.length by omega, A9, A5, A4]
  | succ m ih =>
   intro k hk
   have hk' : k < l.length := by omega
   have hx := hm _ (rd_mem (l := l) (i := (k : Int)) (by omega) (by omega))
   have w2 : i64.wrap ((k : Int) + 1) = ((k + 1 : Nat) : Int) := w64 (by omega)
   rw [B5 (s' := ((k + 1 : Nat) : Int))]
   ·exact ih (k + 1) (by omega)
   ·unfold Z173l2
    simp only [A10, hk', A8, A6, A17, A15, Z181_eq, show ¬ rd l (k : Int) < 0 by omega, show ¬ rd l (k : Int) ≥ 257 by omega, A9, A5, A4, A1, w2]
 have h0 := go l.length 0 (by omega)
 have z0 : ((0 : Nat) : Int) = 0 := rfl
 rw [z0] at h0
 rw [Z114_eq, Z153_eq, Z173_eq, h0]
 simp only [show ¬ ((l.length : Nat) : Int) > 4001 by omega, A9, A5, A4, A1, A43, show ¬ (-1 : Int) ≥ 0 by omega]
theorem B811 : Z115 = some (iota 257) := by
 rw [Z115_eq]
 rw [A3 (by omega)]
 obtain ⟨r, r1, r2, r3⟩ := B460 (n := 257) (f := Z115l3 (List.replicate (257 : Int).toNat 0)) (h := fun i _ => (i : Int)) (V := fun _ => True)
  (fun i b x hb hx _ => by
   have hi := B6 hx
   have w2 : i64.wrap ((i : Int) + 1) = ((i + 1 : Nat) : Int) := w64 (by omega)
   unfold Z115l3
   simp only [A99, show (257 : Int).toNat = 257 from rfl, hb ▸ hi, A8, A6, A17, A15, A10, hi, A12, w2])
  (fun b hb => by
   unfold Z115l3
   simp only [A99, show (257 : Int).toNat = 257 from rfl, A10, Nat.lt_irrefl, A9, A5, A4])
  257 0 (List.replicate 257 0) (by omega) A99 (fun _ _ _ _ => trivial)
 have er := B417 r3
 subst er
 have z0 : ((0 : Nat) : Int) = 0 := rfl
 rw [z0] at r1
 have r1' : loop (Z115l3 (List.replicate (257 : Int).toNat 0)) (0, List.replicate (257 : Int).toNat 0) = some (iota 257) := r1
 simp only [r1', A1]
theorem B953 {l : List Int} (hl : l.length <= 4001) (hm : ∀ x ∈ l, 0 <= x ∧ x < 257) : Z81 l = some (B45 (iota 257) l, 0) := by
 rw [Z81_eq, B686 hl hm, B811]
 obtain ⟨a, h⟩ := B542 (l := l) l 0 (iota 257) [] rfl (.refl _) hm (by simp; omega) (by omega)
 have z0 : ((0 : Nat) : Int) = 0 := rfl
 rw [z0] at h
 simp only [A1, A8, A14, A5, A4, h, A28]
theorem B753 : ∀ l m : List Int, strLt l m = decide (cmpI l m < 0)
 | [], [] => rfl
 | [], _ :: _ => rfl
 | _ :: _, [] => rfl
 | x :: l, y :: m => by
  rw [strLt, cmpI, B753 l m]
  by_cases h : x < y
  ·simp [h]
  ·by_cases g : y < x
   ·simp [h, g, show ¬ x = y by omega]
   ·simp [h, g, show x = y by omega]
theorem B884 {t : List Int} {x y : Int} (hx : 0 <= x ∧ x <= (t.length : Int)) (hy : 0 <= y ∧ y <= (t.length : Int)) : Z177 t x y = some (ltS t x y) := by
 rw [Z177_eq]
 simp only [hx, hy, A31, A6, B753, cutL, A94]
 rfl
theorem B451 {R : Int -> Int -> Prop} {l m : List Int} {x : Int} {i : Nat} (h : l.Pairwise R) (e : l.drop i = x :: m) : ∀ y ∈ m, R x y := by
 have := h.drop (i := i)
 rw [e] at this
 exact (List.pairwise_cons.1 this).1
theorem B993 {t a b : List Int} (ha : PlL t a) (hb : PlL t b) (sa : a.Pairwise (leS t)) (sb : b.Pairwise (leS t)) (hal : a.length <= 100000) (hbl : b.length <= 100000) : ∀ (m i k : Nat) (out : List Int), a.length - i + (b.length - k) = m -> i <= a.length -> k <= b.length -> out.length + m <= 1000000 ->
  out.Pairwise (leS t) -> (∀ x ∈ out, ∀ y ∈ a.drop i ++ b.drop k, leS t x y) ->
  ∃ r, loop (Z160l6 t a b) ((i : Int), (k : Int), out) = some r ∧ r.Perm (out ++ (a.drop i ++ b.drop k)) ∧ r.Pairwise (leS t) := by
 intro m
 induction m with
 | zero =>
  intro i k out hm hi hk ho hp hq
  refine ⟨out, B4 ?_, ?_, hp⟩
  ·unfold Z160l6
   simp only [A10, show ¬ i < a.length by omega, show ¬ k < b.length by omega, A9, A5, A4, A1]
  ·rw [A100 (by omega), A100 (by omega)]; simp
 | succ m ih =>
  intro i k out hm hi hk ho hp hq
  have v13 : ((if decide (((i : Nat) : Int) < ((a.length : Nat) : Int)) = true then some true else some (decide (((k : Nat) : Int) < ((b.length : Nat) : Int)))) : Option Bool) = some true := by
   by_cases h : i < a.length
   ·rw [A3 (by simp only [A20]; omega)]
   ·rw [A7 (by simp only [A20]; omega)]
    simp only [A16, A20]; omega
  -- an element of the first is taken
  have goA : ∀ h : i < a.length, (∀ y ∈ b.drop k, leS t a[i] y) -> ((if decide ((k : Int) = (b.length : Int)) = true then some true else if decide ((i : Int) < (a.length : Int)) = true then if 0 <= (i : Int) ∧ (i : Int) < (a.length : Int) then if 0 <= (k : Int) ∧ (k : Int) < (b.length : Int) then (Z177 t (rd a (i : Int)) (rd b (k : Int))).bind fun q14 => some q14 else none else none else some false) : Option Bool) = some true ->
    ∃ r, loop (Z160l6 t a b) ((i : Int), (k : Int), out) = some r ∧ r.Perm (out ++ (a.drop i ++ b.drop k)) ∧ r.Pairwise (leS t) := by
   intro h hle v15
   have ed : a.drop i = a[i] :: a.drop (i + 1) := A68 h
   have hr : rd a (i : Int) = a[i] := B18 (A18 h)
   obtain ⟨r, r1, r2, r3⟩ := ih (i + 1) k (out ++ [a[i]]) (by omega) (by omega) hk (by simp; omega)
    (A132.2 ⟨hp, List.pairwise_singleton _ _, fun x hx y hy => by
     rw [A61] at hy; subst hy
     exact hq x hx _ (A90 _ (by rw [ed]; exact A23))⟩)
    (fun x hx y hy => by
     rcases A44.1 hx with hx | hx
     ·refine hq x hx y ?_
      rcases A44.1 hy with hy | hy
      ·exact A90 _ (by rw [ed]; exact A29 _ hy)
      ·exact A70 _ hy
     ·rw [A61] at hx; subst hx
      rcases A44.1 hy with hy | hy
      ·exact B451 sa ed y hy
      ·exact hle y hy)
   refine ⟨r, ?_, ?_, r3⟩
   ·have w2 : i64.wrap ((i : Int) + 1) = ((i + 1 : Nat) : Int) := w64 (by omega)
    rw [B5 (s' := (((i + 1 : Nat) : Int), (k : Int), out ++ [a[i]]))]
    ·exact r1
    ·unfold Z160l6
     simp only [v13, A1, A6, v15]
     simp only [A17, A15, A10, h, A6, hr, A26, w2]
     rw [A3 (by omega)]
   ·rw [ed]
    refine r2.trans ?_
    rw [A27]; exact List.Perm.refl _
  have goB : ∀ h : k < b.length, (∀ y ∈ a.drop i, leS t b[k] y) -> ((if decide ((k : Int) = (b.length : Int)) = true then some true else if decide ((i : Int) < (a.length : Int)) = true then if 0 <= (i : Int) ∧ (i : Int) < (a.length : Int) then if 0 <= (k : Int) ∧ (k : Int) < (b.length : Int) then (Z177 t (rd a (i : Int)) (rd b (k : Int))).bind fun q14 => some q14 else none else none else some false) : Option Bool) = some false ->
    ∃ r, loop (Z160l6 t a b) ((i : Int), (k : Int), out) = some r ∧ r.Perm (out ++ (a.drop i ++ b.drop k)) ∧ r.Pairwise (leS t) := by
   intro h hle v15
   have ed : b.drop k = b[k] :: b.drop (k + 1) := A68 h
   have hr : rd b (k : Int) = b[k] := B18 (A18 h)
   obtain ⟨r, r1, r2, r3⟩ := ih i (k + 1) (out ++ [b[k]]) (by omega) hi (by omega) (by simp; omega)
    (A132.2 ⟨hp, List.pairwise_singleton _ _, fun x hx y hy => by
     rw [A61] at hy; subst hy
     exact hq x hx _ (A70 _ (by rw [ed]; exact A23))⟩)
    (fun x hx y hy => by
     rcases A44.1 hx with hx | hx
     ·refine hq x hx y ?_
      rcases A44.1 hy with hy | hy
      ·exact A90 _ hy
      ·exact A70 _ (by rw [ed]; exact A29 _ hy)
     ·rw [A61] at hx; subst hx
      rcases A44.1 hy with hy | hy
      ·exact hle y hy
      ·exact B451 sb ed y hy)
   refine ⟨r, ?_, ?_, r3⟩
   ·have w2 : i64.wrap ((k : Int) + 1) = ((k + 1 : Nat) : Int) := w64 (by omega)
    rw [B5 (s' := ((i : Int), ((k + 1 : Nat) : Int), out ++ [b[k]]))]
    ·exact r1
    ·unfold Z160l6
     simp only [v13, A1, A6, v15, A5, A4]
     simp only [A17, A15, A10, h, A6, hr, A26, w2]
     rw [A3 (by omega)]
   ·rw [ed]
    refine r2.trans ?_
    rw [A27]
    refine List.Perm.append_left out ?_
    show (b[k] :: (a.drop i ++ b.drop (k + 1))).Perm (a.drop i ++ b[k] :: b.drop (k + 1))
    exact List.perm_middle.symm
  by_cases hkb : k = b.length
  ·refine goA (by omega) (fun y hy => ?_) ?_
   ·rw [A100 (by omega)] at hy; simp at hy
   ·rw [A3 (by simp only [A20]; omega)]
  ·have hk' : k < b.length := by omega
   by_cases hia : i < a.length
   ·have e1 : rd a (i : Int) = a[i] := B18 (A18 hia)
    have e2 : rd b (k : Int) = b[k] := B18 (A18 hk')
    have e3 := B884 (t := t) (ha a[i] (A92 hia)) (hb b[k] (A92 hk'))
    have eb : b.drop k = b[k] :: b.drop (k + 1) := A68 hk'
    have ea : a.drop i = a[i] :: a.drop (i + 1) := A68 hia
    cases hl : ltS t a[i] b[k] with
    | true =>
     refine goA hia (fun y hy => ?_) ?_
     ·rw [eb] at hy
      rcases A19.1 hy with hy | hy
      ·rw [hy]; exact lt_le hl
      ·exact B635 (lt_le hl) (B451 sb eb y hy)
     ·rw [A7 (by simp only [A20]; omega), A3 (by simp only [A20]; omega), A3 (by omega), A3 (by omega), e1, e2, e3, hl]; rfl
    | false =>
     refine goB hk' (fun y hy => ?_) ?_
     ·rw [ea] at hy
      rcases A19.1 hy with hy | hy
      ·rw [hy]; exact hl
      ·exact B635 (show leS t b[k] a[i] from hl) (B451 sa ea y hy)
     ·rw [A7 (by simp only [A20]; omega), A3 (by simp only [A20]; omega), A3 (by omega), A3 (by omega), e1, e2, e3, hl]; rfl
   ·refine goB hk' (fun y hy => ?_) ?_
    ·rw [A100 (by omega)] at hy; simp at hy
    ·rw [A7 (by simp only [A20]; omega), A7 (by simp only [A20]; omega)]
theorem B936 {t : List Int} : ∀ (n : Nat) (l : List Int), l.length <= n -> PlL t l -> l.length <= 100000 -> ∃ r, Z160 t l = some r ∧ r.Perm l ∧ r.Pairwise (leS t) := by
 intro n
 induction n using Nat.strongRecOn with
 | _ n ih =>
 intro l hn hp hl
 rw [Z160_eq]
 by_cases h2 : l.length < 2
 ·simp only [show ((l.length : Nat) : Int) < 2 by omega, A8, A6]
  refine ⟨l, rfl, .refl _, ?_⟩
  match l, h2 with
  | [], _ => exact .nil
  | [x], _ => exact List.pairwise_singleton _ _
 ·have w1 : i64.wrap (((l.length : Nat) : Int).tdiv 2) = ((l.length / 2 : Nat) : Int) := by rw [B27 (by omega), w64 (by omega)]; omega
  have e1 : cutL l 0 (l.length / 2) = l.take (l.length / 2) := by simp [cutL]
  have e2 : cutL l (l.length / 2) l.length = l.drop (l.length / 2) := by simp [cutL]
  obtain ⟨a, a1, a2, a3⟩ := ih (l.length / 2) (by omega) (l.take (l.length / 2)) (by simp; omega) (fun x hx => hp x (A81 hx)) (by simp; omega)
  obtain ⟨b, b1, b2, b3⟩ := ih (l.length - l.length / 2) (by omega) (l.drop (l.length / 2)) (by simp) (fun x hx => hp x (A97 hx)) (by simp; omega)
  have la : a.length = l.length / 2 := by rw [a2.length_eq]; simp; omega
  have lb : b.length = l.length - l.length / 2 := by rw [b2.length_eq]; simp
  obtain ⟨r, r1, r2, r3⟩ := B993 (t := t) (fun x hx => hp x (A81 (a2.mem_iff.1 hx))) (fun x hx => hp x (A97 (b2.mem_iff.1 hx))) a3 b3 (by omega) (by omega) (a.length + b.length) 0 0 [] (by omega) (by omega) (by omega) (by simp; omega) .nil (fun x hx => by simp at hx)
  have z0 : ((0 : Nat) : Int) = 0 := rfl
  rw [z0] at r1
  refine ⟨r, ?_, ?_, r3⟩
  ·simp only [show ¬ ((l.length : Nat) : Int) < 2 by omega, A9, A5, A4, w1, A12, show (0 : Int) <= ((l.length / 2 : Nat) : Int) by omega, show ((l.length / 2 : Nat) : Int) <= ((l.length : Nat) : Int) by omega, A31, A6, e1, e2, a1, b1, A1, r1]
  ·refine r2.trans ?_
   simp only [A28, List.drop_zero]
   have := a2.append b2
   rwa [A105] at this
theorem B932 {t : List Int} (ht : t.length <= 4000) : ∀ (m k : Nat), k + m = t.length + 1 -> loop (Z127l5 t) ((k : Int), iota k) = some (iota (t.length + 1)) := by
 intro m
 induction m with
 | zero =>
  intro k hk
  have : k = t.length + 1 := by omega
  subst this
  refine B4 ?_
  unfold Z127l5
  simp only [show ¬ (((t.length + 1 : Nat) : Int) <= ((t.length : Nat) : Int)) by omega, A9, A5, A4]
 | succ m ih =>
  intro k hk
  have w2 : i64.wrap ((k : Int) + 1) = ((k + 1 : Nat) : Int) := w64 (by omega)
  rw [B5 (s' := (((k + 1 : Nat) : Int), iota (k + 1)))]
  ·exact ih (k + 1) (by omega)
  ·unfold Z127l5
   simp only [show ((k : Nat) : Int) <= ((t.length : Nat) : Int) by omega, A8, A6, B82, A26, w2]
   rw [A3 (by omega)]
   simp only [iota, List.range_succ, A88, A53, A79]
theorem B740 {t : List Int} (ht : t.length <= 4000) : ∃ s, Z127 t = some (s, 0) ∧ s.Perm (iota (t.length + 1)) ∧ s.Pairwise (leS t) := by
 rw [Z127_eq]
 have h := B932 ht (t.length + 1) 0 (by omega)
 have z0 : ((0 : Nat) : Int) = 0 := rfl
 rw [z0] at h
 have e0 : iota 0 = [] := rfl
 rw [e0] at h
 obtain ⟨s, s1, s2, s3⟩ := B936 (t := t) (t.length + 1) (iota (t.length + 1)) (by rw [B82]; exact A11 _) (fun x hx => by have := B71.1 hx; omega) (by rw [B82]; omega)
 simp only [show ¬ ((t.length : Nat) : Int) > 4000 by omega, A9, A5, A4, h, A1, s1]
 exact ⟨s, rfl, s2, s3⟩
theorem B928 {t s : List Int} (hs : ∀ x ∈ s, 0 <= x ∧ x <= (t.length : Int)) (hl : s.length <= 100000) (ht : t.length <= 4000) (hb : ∀ x ∈ t, 0 <= x ∧ x <= 255) : ∀ (m k : Nat), k + m = s.length -> loop (Z89l6 t s) ((k : Int), (s.take k).map (colOf t)) = some (s.map (colOf t)) := by
 intro m
 induction m with
 | zero =>
  intro k hk
  have : k = s.length := by omega
  subst this
  refine B4 ?_
  unfold Z89l6
  simp only [A10, Nat.lt_irrefl, A9, A5, A4, A94]
 | succ m ih =>
  intro k hk
  have hk' : k < s.length := by omega
  have w2 : i64.wrap ((k : Int) + 1) = ((k + 1 : Nat) : Int) := w64 (by omega)
  have hr : rd s (k : Int) = s[k] := B18 (A18 hk')
  have hx := hs s[k] (A92 hk')
  have et : s.take (k + 1) = s.take k ++ [s[k]] := by rw [A107, A18 hk']; rfl
  rw [B5 (s' := (((k + 1 : Nat) : Int), (s.take (k + 1)).map (colOf t)))]
  ·exact ih (k + 1) (by omega)
  ·unfold Z89l6
   rw [et, A88, A53, A79]
   have ho : ((s.take k).map (colOf t)).length = k := by simp; omega
   by_cases h0 : s[k] = 0
   ·simp only [A10, hk', A8, A6, A17, A15, hr, h0, ho, A26, w2, colOf]
    rw [A3 (by omega)]
   ·have w3 : i64.wrap (s[k] - 1) = s[k] - 1 := w64 (by omega)
    have hm := hb _ (rd_mem (l := t) (i := s[k] - 1) (by omega) (by omega))
    have w4 : i64.wrap (rd t (s[k] - 1)) = rd t (s[k] - 1) := w64 (by omega)
    have w5 : i64.wrap (1 + rd t (s[k] - 1)) = rd t (s[k] - 1) + 1 := by rw [w64 (by omega)]; omega
    have c1 : 0 <= s[k] - 1 ∧ s[k] - 1 < (t.length : Int) := by omega
    simp only [A10, hk', A8, A6, A17, A15, hr, h0, A9, A5, A4, ho, A26, w3, A3 c1, w4, w5, w2, colOf]
    rw [A3 (by omega)]
theorem B774 {t : List Int} (hb : ∀ x ∈ t, 0 <= x ∧ x <= 255) : (t.length > 4000 ∧ Z78 t = some ([], 4) ∧ Z89 t = some ([], 4)) ∨
  (t.length <= 4000 ∧ ∃ s : List Int, s.Perm (iota (t.length + 1)) ∧ s.Pairwise (leS t) ∧ Z111 t = some (s.map (colOf t)) ∧ Z78 t = some (s.map (colOf t), 0) ∧ Z89 t = some (s.map (colOf t), 0) ∧ s.length = t.length + 1 ∧ ∀ x ∈ s.map (colOf t), 0 <= x ∧ x < 257) := by
 by_cases h : t.length <= 4000
 ·right
  refine ⟨h, ?_⟩
  obtain ⟨s, s1, s2, s3⟩ := B792 h
  obtain ⟨r, r1, r2, r3⟩ := B740 h
  have hv : PlL t s := fun x hx => by have := B71.1 (s2.mem_iff.1 hx); omega
  have e : s = r := B677 hv (s2.trans r2.symm) s3 r3
  subst e
  have hl : s.length = t.length + 1 := by rw [s2.length_eq, B82]
  have hc := B928 hv (by omega) h hb s.length 0 (by omega)
  have z0 : ((0 : Nat) : Int) = 0 := rfl
  rw [z0, A116, A79] at hc
  have hcol := B893 s1 s2 h hb
  refine ⟨s, s2, s3, hcol, ?_, ?_, hl, fun x hx => ?_⟩
  ·rw [Z78_eq, hcol]
   simp only [show ¬ ((t.length : Nat) : Int) > 4000 by omega, A9, A5, A4, A1]
  ·rw [Z89_eq, r1]
   simp only [A1, A8, A14, A5, A4, hc]
  ·obtain ⟨y, hy, rfl⟩ := A60.1 hx
   have := hv y hy
   unfold colOf
   split
   ·omega
   ·have := hb _ (rd_mem (l := t) (i := y - 1) (by omega) (by omega)); omega
 ·left
  refine ⟨by omega, ?_, ?_⟩
  ·rw [Z78_eq]
   simp only [show ((t.length : Nat) : Int) > 4000 by omega, A8, A6]
  ·rw [Z89_eq, Z127_eq]
   simp only [show ((t.length : Nat) : Int) > 4000 by omega, A8, A6, A1]
   rfl
end Go.Proofs.YtcphcfknnfibmaaGreat.P
