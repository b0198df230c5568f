/- Refined regions: the program against its reference. -/
import Derived.Test.YtkccnhkhjncpkaaGreatPureGen3
namespace Go.Proofs.YtkccnhkhjncpkaaGreat.P
open Go Go.Proofs.YtkccnhkhjncpkaaGreat.V
set_option linter.unusedVariables false
set_option linter.unusedSimpArgs false

def RefOk (t dx dy k : Int) : Prop := (t = 0 ∨ t = 1) ∧ (k = 0 ∨ k = 1) ∧ -200 ≤ dx ∧ dx ≤ 200 ∧ -200 ≤ dy ∧ dy ≤ 200
instance (t dx dy k : Int) : Decidable (RefOk t dx dy k) := by unfold RefOk; infer_instance
theorem refineValid_is (t dx dy : Int) (o4 : Bool) (k : Int) : refine_Valid t dx dy o4 k = some (decide (RefOk t dx dy k)) := by
  rw [refine_Valid_eq]
  simp only [iteD, imax_eq, imin_eq, w64s]
  repeat' split
  all_goals
    refine some_dec ?_
    unfold RefOk
    simp only [decide_eq_true_eq, Bool.false_eq_true, true_iff, false_iff]
    omega
theorem ref08Valid_is (t dx dy : Int) (o4 : Bool) (k : Int) : ref08_Valid t dx dy o4 k = some (decide (RefOk t dx dy k)) := by
  rw [ref08_Valid_eq]
  have e1 : ((if decide (dx ≥ -200) = true then (if decide (dx ≤ 200) = true then (if decide (dy ≥ -200) = true then some (decide (dy ≤ 200)) else some false) else some false) else some false) : Option Bool) = some (decide (-200 ≤ dx ∧ dx ≤ 200 ∧ -200 ≤ dy ∧ dy ≤ 200)) := by
    simp only [iteD]
    repeat' split
    all_goals
      refine some_dec ?_
      simp only [decide_eq_true_eq, Bool.false_eq_true, true_iff, false_iff]
      omega
  rw [e1]
  simp only [Option.bind_some, iteD]
  repeat' split
  all_goals
    refine some_dec ?_
    unfold RefOk
    simp only [decide_eq_true_eq, Bool.false_eq_true, true_iff, false_iff]
    omega

theorem IsBitmap_is {w h : Int} {p : List Int} (hl : p.length ≤ 4611686018427387904) : ref06_IsBitmap w h p = some (bmpB w h p) := by
  rw [ref06_IsBitmap_eq, IsSize_is]
  unfold bmpB
  simp only [Option.bind_some]
  by_cases hs : sidesB w h = true
  · obtain ⟨a, b, c, d, e⟩ := sidesB_iff.1 hs
    obtain ⟨m0, m1⟩ := mul_small a b c d
    rw [w64 (by omega), hs, ref06_IsRow_eq, ref06_IsRow_loop2_over p hl (), overL_all (fun x => decide (x ≤ 1)) (a := Sum.inr false)]
    · by_cases hq : (p.length : Int) = w * h
      · by_cases ha : (p.all fun x => decide (x ≤ 1)) = true
        · simp [hq, ha]
        · simp [hq, ha]
      · simp [hq]
    · intro n x
      unfold ref06_IsRow_loop2_step
      simp only [iteD]
      by_cases hx : x > 1
      · rw [if_pos hx, if_neg (by omega)]
      · rw [if_neg hx, if_pos (by omega)]
  · simp [hs]

theorem grid_pix : refine_grid_at = ref06_Pix := by
  funext a b c d e
  rw [refine_grid_at_eq, ref06_Pix_eq]
theorem Pix_is {w h : Int} {p : List Int} (hb : Bmp w h p) (x y : Int) : ref06_Pix w h p x y = some (pixA w h p x y) := by
  have := plane_at_is (ar := []) hb x y
  rw [generic_plane_at_eq] at this
  rw [ref06_Pix_eq]
  cases hq : ((if decide (x < 0) = true then some true else if decide (y < 0) = true then some true else if decide (x ≥ w) = true then some true else some (decide (y ≥ h))) : Option Bool) with
  | none => rw [hq] at this; simp at this
  | some v =>
    rw [hq] at this
    cases v with
    | true => simp only [Option.bind_some, if_true, Option.some.injEq, Prod.mk.injEq] at this ⊢; exact this.1
    | false =>
      simp only [Option.bind_some, Bool.false_eq_true, if_false] at this ⊢
      split at this
      · rename_i hi; rw [if_pos hi]; simp only [Option.some.injEq, Prod.mk.injEq] at this ⊢; exact this.1
      · cases this

/-! ### Contexts -/
def newL (t : Int) : List (Int × Int) := if t = 0 then [(-1, -1), (0, -1), (1, -1), (-1, 0)] else [(0, -1), (-1, 0)]
def besL : List (Int × Int) := [(0, 0), (-1, 0), (1, 0), (0, -1), (0, 1)]
def rctxN (t : Int) : Int := if t = 0 then 512 else 128
theorem newL_small (t : Int) : (newL t).length ≤ 4 ∧ ∀ d ∈ newL t, -8 ≤ d.1 ∧ d.1 ≤ 8 ∧ -8 ≤ d.2 ∧ d.2 ≤ 8 := by
  unfold newL
  split <;> decide
theorem rfresh_is (t : Int) : refine_fresh t = some ((newL t).map ar2) := by
  rw [refine_fresh_eq]
  unfold newL
  simp only [iteD]
  by_cases h : t = 0 <;> simp [h, ar2]
theorem rcontexts_is (t : Int) : refine_contexts t = some (rctxN t) := by
  rw [refine_contexts_eq, rfresh_is]
  simp only [Option.bind_some, List.length_map]
  rw [if_neg (by omega)]
  congr 1
  unfold newL rctxN
  split <;> decide
theorem ctxLoopF {F : Int × Int → Option ((Int × Int) ⊕ Int)} {w h : Int} {p : List Int} {x y : Int} (hb : Bmp w h p) (L : List (Int × Int))
    (hstep : ∀ (k : Nat) d n, L[k]? = some d → 0 ≤ n → n ≤ 1099511627776 → F (n, (k : Int)) = some (.inl (2 * n + pixA w h p (x + d.1) (y + d.2), ((k + 1 : Nat) : Int)))) (hend : ∀ n, F (n, (L.length : Int)) = some (.inr n)) :
    ∀ (l : List (Int × Int)) (n : Int) (k m : Nat), L.drop k = l → k + l.length = L.length → 0 ≤ n → n < 2 ^ m → m + l.length ≤ 40 → loop F (n, (k : Int)) = some (ctxV w h p x y l n)
  | [], n, k, m, hk, hl, h0, h1, _ => by
    rw [List.length_nil, Nat.add_zero] at hl
    rw [hl]
    exact loop_done (hend n)
  | d :: l, n, k, m, hk, hl, h0, h1, hm => by
    have hp := hb.pix (x := x + d.1) (y := y + d.2)
    have hget : L[k]? = some d := by
      have : (L.drop k)[0]? = some d := by rw [hk]; rfl
      simpa using this
    simp only [List.length_cons] at hl hm
    have hs := pow_small (m := m) (by omega)
    rw [loop_step (hstep k d n hget h0 (by omega))]
    rw [ctxLoopF hb L hstep hend l _ (k + 1) (m + 1) (by rw [← List.drop_drop, hk]; rfl) (by omega) (by omega) (by rw [Int.pow_succ]; omega) (by omega)]
    rfl
def rctx (t dx dy w h : Int) (p : List Int) (rw rh : Int) (rp : List Int) (x y : Int) : Int := ctxV rw rh rp (x - dx) (y - dy) besL (ctxV w h p x y (newL t) 0)
theorem rctx_range {t dx dy w h rw rh : Int} {p rp : List Int} (hb : Bmp w h p) (hr : Bmp rw rh rp) (x y : Int) : 0 ≤ rctx t dx dy w h p rw rh rp x y ∧ rctx t dx dy w h p rw rh rp x y < rctxN t := by
  have h1 := ctxV_range hb (x := x) (y := y) (newL t) 0 0 (by decide) (by decide)
  have h2 := ctxV_range hr (x := x - dx) (y := y - dy) besL _ _ h1.1 h1.2
  refine ⟨h2.1, ?_⟩
  have e : (2 : Int) ^ (0 + (newL t).length + besL.length) = rctxN t := by
    unfold newL rctxN
    split <;> decide
  rw [← e]; exact h2.2
theorem getL_len {α : Type} {l : List α} {k : Nat} {a : α} (h : l[k]? = some a) : k < l.length := lt_len_of_get h
theorem region_context_is {t dx dy k w h rw rh : Int} {p rp : List Int} {o4 : Bool} (ho : RefOk t dx dy k) (hb : Bmp w h p) (hr : Bmp rw rh rp) {x y : Int} (hx : -1000 ≤ x ∧ x ≤ 1000) (hy : -1000 ≤ y ∧ y ≤ 1000) :
    refine_region_context x y t dx dy o4 k w h p rw rh rp = some (rctx t dx dy w h p rw rh rp x y, t, dx, dy, o4, k, w, h, p, rw, rh, rp) := by
  obtain ⟨n1, n2⟩ := newL_small t
  obtain ⟨_, _, d1, d2, d3, d4⟩ := ho
  rw [refine_region_context_eq, rfresh_is, refine_beside_eq]
  simp only [Option.bind_some]
  have l1 := ctxLoopF (F := refine_region_context_loop3 x y w h p ((newL t).map ar2)) (x := x) (y := y) hb (newL t) (fun k d n hk h0 h1 => by
      have hk' := getL_len hk
      obtain ⟨q1, q2, q3, q4⟩ := n2 d (List.mem_of_getElem? hk)
      have hp := hb.pix (x := x + d.1) (y := y + d.2)
      unfold refine_region_context_loop3
      simp only [List.length_map, Int.toNat_natCast, List.getElem?_map, hk, Option.map_some, Option.bind_some, ar2, grid_pix]
      rw [if_pos (by simp; omega), if_pos (by omega), if_pos (by decide), if_pos (by decide), w64 (n := x + d.1) (by omega), w64 (n := y + d.2) (by omega), Pix_is hb]
      simp only [Option.bind_some]
      rw [w64 (n := 2 * n) (by omega), w64 (n := (k : Int) + 1) (by omega), w64 (n := pixA w h p (x + d.1) (y + d.2)) (by omega), w64 (by omega)]
      rfl) (fun n => by
      unfold refine_region_context_loop3
      simp only [List.length_map]
      rw [if_neg (by simp)]) (newL t) 0 0 0 rfl (by simp) (by decide) (by decide) (by omega)
  rw [show ((0 : Int), (0 : Int)) = (0, ((0 : Nat) : Int)) from rfl, l1]
  simp only [Option.bind_some]
  have r1 := ctxV_range hb (x := x) (y := y) (newL t) 0 0 (by decide) (by decide)
  have l2 := ctxLoopF (F := refine_region_context_loop8 x y dx dy rw rh rp (besL.map ar2)) (x := x - dx) (y := y - dy) hr besL (fun k d n hk h0 h1 => by
      have hk' := getL_len hk
      obtain ⟨q1, q2, q3, q4⟩ : -8 ≤ d.1 ∧ d.1 ≤ 8 ∧ -8 ≤ d.2 ∧ d.2 ≤ 8 := (show ∀ d ∈ besL, -8 ≤ d.1 ∧ d.1 ≤ 8 ∧ -8 ≤ d.2 ∧ d.2 ≤ 8 by decide) d (List.mem_of_getElem? hk)
      have hp := hr.pix (x := x - dx + d.1) (y := y - dy + d.2)
      unfold refine_region_context_loop8
      simp only [List.length_map, Int.toNat_natCast, List.getElem?_map, hk, Option.map_some, Option.bind_some, ar2, grid_pix]
      rw [if_pos (by simp; omega), if_pos (by omega), if_pos (by decide), if_pos (by decide), w64 (n := x - dx) (by omega), w64 (n := y - dy) (by omega), w64 (n := x - dx + d.1) (by omega), w64 (n := y - dy + d.2) (by omega), Pix_is hr]
      simp only [Option.bind_some]
      rw [w64 (n := 2 * n) (by omega), w64 (n := (k : Int) + 1) (by have : besL.length = 5 := rfl; omega), w64 (n := pixA rw rh rp (x - dx + d.1) (y - dy + d.2)) (by omega), w64 (by omega)]
      rfl) (fun n => by
      unfold refine_region_context_loop8
      simp only [List.length_map]
      rw [if_neg (by simp)]) besL (ctxV w h p x y (newL t) 0) 0 _ rfl rfl r1.1 r1.2 (by have : besL.length = 5 := rfl; omega)
  rw [show ((0 : Nat) : Int) = 0 from rfl] at l2
  rw [show [(Arr2.mk 0 0), (Arr2.mk (-1) 0), (Arr2.mk 1 0), (Arr2.mk 0 (-1)), (Arr2.mk 0 1)] = besL.map ar2 from rfl, l2]
  rfl
theorem ref08Context_is {t dx dy k w h rw rh : Int} {p rp : List Int} {o4 : Bool} (ho : RefOk t dx dy k) (hb : Bmp w h p) (hr : Bmp rw rh rp) {x y : Int} (hx : -1000 ≤ x ∧ x ≤ 1000) (hy : -1000 ≤ y ∧ y ≤ 1000) :
    ref08_Context t dx dy o4 k w h p rw rh rp x y = some (rctx t dx dy w h p rw rh rp x y) := by
  obtain ⟨n1, n2⟩ := newL_small t
  obtain ⟨ht, _, d1, d2, d3, d4⟩ := ho
  rw [ref08_Context_eq]
  have e0 : ((if decide (t = 1) = true then some [(Arr2.mk 0 (-1)), (Arr2.mk (-1) 0)] else some [(Arr2.mk (-1) (-1)), (Arr2.mk 0 (-1)), (Arr2.mk 1 (-1)), (Arr2.mk (-1) 0)]) : Option (List Arr2)) = some ((newL t).map ar2) := by
    unfold newL
    rcases ht with rfl | rfl <;> rfl
  rw [e0]
  simp only [Option.bind_some]
  have l1 := ctxLoopF (F := ref08_Context_loop6 w h p x y ((newL t).map ar2)) (x := x) (y := y) hb (newL t) (fun k d n hk h0 h1 => by
      have hk' := getL_len hk
      obtain ⟨q1, q2, q3, q4⟩ := n2 d (List.mem_of_getElem? hk)
      have hp := hb.pix (x := x + d.1) (y := y + d.2)
      unfold ref08_Context_loop6
      simp only [List.length_map, Int.toNat_natCast, List.getElem?_map, hk, Option.map_some, Option.bind_some, ar2]
      rw [if_pos (by simp; omega), if_pos (by omega), if_pos (by decide), if_pos (by decide), w64 (n := x + d.1) (by omega), w64 (n := y + d.2) (by omega), Pix_is hb]
      simp only [Option.bind_some]
      rw [w64 (n := 2 * n) (by omega), w64 (n := (k : Int) + 1) (by omega), w64 (n := pixA w h p (x + d.1) (y + d.2)) (by omega), w64 (by omega)]
      rfl) (fun n => by
      unfold ref08_Context_loop6
      simp only [List.length_map]
      rw [if_neg (by simp)]) (newL t) 0 0 0 rfl (by simp) (by decide) (by decide) (by omega)
  rw [show ((0 : Int), (0 : Int)) = (0, ((0 : Nat) : Int)) from rfl, l1]
  simp only [Option.bind_some]
  have r1 := ctxV_range hb (x := x) (y := y) (newL t) 0 0 (by decide) (by decide)
  have l2 := ctxLoopF (F := ref08_Context_loop11 dx dy rw rh rp x y) (x := x - dx) (y := y - dy) hr besL (fun k d n hk h0 h1 => by
      have hk' := getL_len hk
      obtain ⟨q1, q2, q3, q4⟩ : -8 ≤ d.1 ∧ d.1 ≤ 8 ∧ -8 ≤ d.2 ∧ d.2 ≤ 8 := (show ∀ d ∈ besL, -8 ≤ d.1 ∧ d.1 ≤ 8 ∧ -8 ≤ d.2 ∧ d.2 ≤ 8 by decide) d (List.mem_of_getElem? hk)
      have hp := hr.pix (x := x - dx + d.1) (y := y - dy + d.2)
      unfold ref08_Context_loop11
      rw [show [(Arr2.mk 0 0), (Arr2.mk (-1) 0), (Arr2.mk 1 0), (Arr2.mk 0 (-1)), (Arr2.mk 0 1)] = besL.map ar2 from rfl]
      simp only [List.length_map, Int.toNat_natCast, List.getElem?_map, hk, Option.map_some, Option.bind_some, ar2]
      rw [if_pos (by simp; omega), if_pos (by omega), if_pos (by decide), if_pos (by decide), w64 (n := x - dx) (by omega), w64 (n := y - dy) (by omega), w64 (n := x - dx + d.1) (by omega), w64 (n := y - dy + d.2) (by omega), Pix_is hr]
      simp only [Option.bind_some]
      rw [w64 (n := 2 * n) (by omega), w64 (n := (k : Int) + 1) (by have : besL.length = 5 := rfl; omega), w64 (n := pixA rw rh rp (x - dx + d.1) (y - dy + d.2)) (by omega), w64 (by omega)]
      rfl) (fun n => by
      unfold ref08_Context_loop11
      rw [if_neg (by simp [besL])]) besL (ctxV w h p x y (newL t) 0) 0 _ rfl rfl r1.1 r1.2 (by have : besL.length = 5 := rfl; omega)
  rw [show ((0 : Nat) : Int) = 0 from rfl] at l2
  rw [l2]
  rfl

/-! ### Nine that are alike -/
theorem flat_loop_eq (x y dx dy rw rh : Int) (rp : List Int) (c : Int) : refine_region_flat_loop3 x y dx dy rw rh rp c = ref08_Alike_loop3 dx dy rw rh rp x y c := by
  funext i
  unfold refine_region_flat_loop3 ref08_Alike_loop3
  rw [grid_pix]
theorem flat_is (t dx dy k w h rw rh x y : Int) (p rp : List Int) (o4 : Bool) : refine_region_flat x y t dx dy o4 k w h p rw rh rp = (ref08_Alike t dx dy o4 k rw rh rp x y).bind fun q => some (q.1, q.2, t, dx, dy, o4, k, w, h, p, rw, rh, rp) := by
  rw [refine_region_flat_eq, ref08_Alike_eq, grid_pix]
  simp only [flat_loop_eq, Option.bind_assoc]
  congr 1
  funext c
  congr 1
  funext o
  cases o <;> rfl
theorem overL_some {X S A : Type} {f : Nat → X → S → Option (S ⊕ A)} {fin : S → Option A} : ∀ (l : List X) (n : Nat) (s : S), (∀ k x s, k < l.length → ∃ r, f (n + k) x s = some r) → (∀ s, ∃ a, fin s = some a) → ∃ a, overL f fin n l s = some a
  | [], n, s, _, hf => by rw [overL_nil]; exact hf s
  | x :: l, n, s, h, hf => by
    obtain ⟨r, hr⟩ := h 0 x s (by simp)
    rw [Nat.add_zero] at hr
    cases r with
    | inl s' =>
      rw [overL_next hr]
      exact overL_some l (n + 1) s' (fun k x s hk => by
        have := h (k + 1) x s (by simpa using hk)
        rwa [show n + (k + 1) = n + 1 + k by omega] at this) hf
    | inr a => exact ⟨a, overL_exit hr⟩
theorem alike_some {t dx dy k rw rh : Int} {rp : List Int} {o4 : Bool} (ho : RefOk t dx dy k) (hr : Bmp rw rh rp) {x y : Int} (hx : -1000 ≤ x ∧ x ≤ 1000) (hy : -1000 ≤ y ∧ y ≤ 1000) :
    ∃ q, ref08_Alike t dx dy o4 k rw rh rp x y = some q := by
  obtain ⟨_, _, d1, d2, d3, d4⟩ := ho
  rw [ref08_Alike_eq, w64 (n := x - dx) (by omega), w64 (n := y - dy) (by omega)]
  simp only
  rw [Pix_is hr]
  simp only [Option.bind_some]
  obtain ⟨a, ha⟩ := overL_some (f := ref08_Alike_loop3_step dx dy rw rh rp x y (pixA rw rh rp (x - dx) (y - dy))) (fin := fun _ => some (Sum.inl ())) (List.range 9) 0 () (fun k z s hk => by
    rw [List.length_range] at hk
    unfold ref08_Alike_loop3_step
    simp only [Nat.zero_add]
    rw [Pix_is hr]
    simp only [Option.bind_some]
    split
    · exact ⟨_, rfl⟩
    · exact ⟨_, rfl⟩) (fun _ => ⟨_, rfl⟩)
  rw [ref08_Alike_loop3_over _ _ _ _ _ _ _ _ (by decide) (), ha]
  cases a <;> exact ⟨_, rfl⟩
theorem row_some {t dx dy k w h rw rh : Int} {p rp : List Int} {o4 : Bool} (ho : RefOk t dx dy k) (hb : Bmp w h p) (hr : Bmp rw rh rp) {y : Int} (hy : -1000 ≤ y ∧ y ≤ 1000) :
    ∃ q, ref08_Row t dx dy o4 k w h p rw rh rp y = some q := by
  have hw := hb.1
  have hw2 := hb.2.2.1
  rw [ref08_Row_eq]
  obtain ⟨a, ha⟩ := overL_some (f := ref08_Row_loop2_step t dx dy o4 k w h p rw rh rp y) (fin := fun _ => some (Sum.inl ())) (List.range w.toNat) 0 () (fun j z s hk => by
    rw [List.length_range] at hk
    unfold ref08_Row_loop2_step
    simp only [Nat.zero_add]
    obtain ⟨q, hq⟩ := alike_some (o4 := o4) ho hr (x := (j : Int)) (y := y) (by omega) hy
    rw [hq, Pix_is hb]
    simp only [Option.bind_some]
    split
    · split <;> exact ⟨_, rfl⟩
    · exact ⟨_, rfl⟩) (fun _ => ⟨_, rfl⟩)
  rw [ref08_Row_loop2_over _ _ _ _ _ _ _ _ _ _ _ _ (by rw [List.length_range]; omega) (), ha]
  cases a <;> exact ⟨_, rfl⟩
theorem typicalR_is {t dx dy k w h rw rh : Int} {p rp : List Int} {o4 : Bool} (ho : RefOk t dx dy k) (hb : Bmp w h p) (hr : Bmp rw rh rp) {y : Int} (hy : -1000 ≤ y ∧ y ≤ 1000) :
    refine_region_typical y t dx dy o4 k w h p rw rh rp = (ref08_Row t dx dy o4 k w h p rw rh rp y).bind fun q => some (q, t, dx, dy, o4, k, w, h, p, rw, rh, rp) := by
  have hw := hb.1
  have hw2 := hb.2.2.1
  rw [refine_region_typical_eq, ref08_Row_eq]
  have l1 := refine_region_typical_loop2_over y w (by rw [List.length_range]; omega) (t, dx, dy, o4, k, w, h, p, rw, rh, rp)
  simp only at l1
  rw [l1, ref08_Row_loop2_over _ _ _ _ _ _ _ _ _ _ _ _ (by rw [List.length_range]; omega) ()]
  obtain ⟨a, b, e1, e2, hq⟩ := overL_both (f := refine_region_typical_loop2_step y) (g := ref08_Row_loop2_step t dx dy o4 k w h p rw rh rp y) (fin := fun s => some (Sum.inl s)) (fin' := fun _ => some (Sum.inl ()))
    (fun _ s _ => s = (t, dx, dy, o4, k, w, h, p, rw, rh, rp)) (fun q r => q = Sum.elim (fun _ => Sum.inl (t, dx, dy, o4, k, w, h, p, rw, rh, rp)) (fun v => Sum.inr (v, t, dx, dy, o4, k, w, h, p, rw, rh, rp)) r) (List.range w.toNat) 0 (t, dx, dy, o4, k, w, h, p, rw, rh, rp) () (fun j z s u hj hs => by
      have hk := lt_len_of_get hj
      rw [List.length_range] at hk
      rw [Nat.zero_add]
      subst hs
      unfold refine_region_typical_loop2_step ref08_Row_loop2_step
      simp only [flat_is]
      obtain ⟨q, hq⟩ := alike_some (o4 := o4) ho hr (x := (j : Int)) (y := y) (by omega) hy
      rw [hq, grid_pix]
      simp only [Option.bind_some, Pix_is hb]
      by_cases h1 : q.2 = true
      · simp only [h1, if_true]
        by_cases h2 : q.1 = pixA w h p (j : Int) y
        · simp only [h2, decide_true, Bool.not_true, Bool.false_eq_true, if_false]
          exact .mk rfl
        · have h3 : ¬ pixA w h p (j : Int) y = q.1 := fun e => h2 e.symm
          simp only [h2, h3, decide_false, Bool.not_false, if_true]
          exact .mk rfl
      · simp only [h1, if_false]
        exact .mk rfl) (fun s u hs => by subst hs; exact .mk rfl) rfl
  have e1' : overL (refine_region_typical_loop2_step y) (fun (s45 : Int × Int × Int × Bool × Int × Int × Int × (List Int) × Int × Int × (List Int)) => some (Sum.inl (s45.1, s45.2.1, s45.2.2.1, s45.2.2.2.1, s45.2.2.2.2.1, s45.2.2.2.2.2.1, s45.2.2.2.2.2.2.1, s45.2.2.2.2.2.2.2.1, s45.2.2.2.2.2.2.2.2.1, s45.2.2.2.2.2.2.2.2.2.1, s45.2.2.2.2.2.2.2.2.2.2))) 0 (List.range w.toNat) (t, dx, dy, o4, k, w, h, p, rw, rh, rp) = some a := e1
  rw [e1', e2]
  subst hq
  cases b <;> rfl

/-! ### Puts -/
def withR (e : EncS) (t dx dy : Int) (o4 : Bool) (k w h : Int) (p : List Int) (rw rh : Int) (rp : List Int) : Int × Int × Int × List Int × List Int × Int × Int × Int × Bool × Int × Int × Int × List Int × Int × Int × List Int :=
  (e.1, e.2.1, e.2.2.1, e.2.2.2.1, e.2.2.2.2, t, dx, dy, o4, k, w, h, p, rw, rh, rp)
theorem rput_row {t dx dy k base w h rw rh : Int} {p rp : List Int} {o4 : Bool} {N B : Nat} (ho : RefOk t dx dy k) (hb : Bmp w h p) (hr : Bmp rw rh rp) (hbase : 0 ≤ base ∧ base + rctxN t < (N : Int)) (hN : N ≤ 1000000) {y : Int} (hy : 0 ≤ y ∧ y < h) (hB : B ≤ 900000000) (ty : Bool)
    {e : EncS} (he : EncAt N B e) :
    Both (loop (refine_Put_loop20 base w y ty) (0, withR e t dx dy o4 k w h p rw rh rp)) (loop (ref08_Put_loop17 base t dx dy o4 k w h p rw rh rp y ty) (0, e))
      (fun q r => q = withR r t dx dy o4 k w h p rw rh rp ∧ EncAt N (B + 800) r) := by
  have hw := hb.1
  have hw2 := hb.2.2.1
  have hh2 := hb.2.2.2.1
  refine Both.loop (fun s r => ∃ (n : Nat) (e : EncS), (n : Int) ≤ w ∧ s = ((n : Int), withR e t dx dy o4 k w h p rw rh rp) ∧ r = ((n : Int), e) ∧ EncAt N (B + 4 * n) e) _ (fun s => (w - s.1).toNat) ?_ _ _ ⟨0, e, by omega, rfl, rfl, by simpa using he⟩
  rintro s r ⟨n, e, hn, rfl, rfl, he⟩
  unfold refine_Put_loop20 ref08_Put_loop17
  simp only [withR]
  by_cases hlt : (n : Int) < w
  · simp only [hlt, decide_true, if_true, flat_is]
    obtain ⟨q, hq⟩ := alike_some (o4 := o4) ho hr (x := (n : Int)) (y := y) (by omega) (by omega)
    rw [hq]
    simp only [Option.bind_some]
    have ev : ((if (!ty) = true then some true else some (!q.2)) : Option Bool) = some (!ty || !q.2) := by cases ty <;> simp
    rw [ev]
    simp only [Option.bind_some]
    rw [w64 (n := (n : Int) + 1) (by omega)]
    by_cases hv : (!ty || !q.2) = true
    · simp only [hv, if_true, region_context_is ho hb hr (show -1000 ≤ (n : Int) ∧ (n : Int) ≤ 1000 by omega) (show -1000 ≤ y ∧ y ≤ 1000 by omega), ref08Context_is ho hb hr (show -1000 ≤ (n : Int) ∧ (n : Int) ≤ 1000 by omega) (show -1000 ≤ y ∧ y ≤ 1000 by omega), Option.bind_some, grid_pix, Pix_is hb, demon_same]
      have hcx := rctx_range (t := t) (dx := dx) (dy := dy) hb hr (n : Int) y
      have hp := hb.pix (x := (n : Int)) (y := y)
      have hc : rctxN t ≤ 512 := by unfold rctxN; split <;> decide
      rw [w64 (n := base + rctx t dx dy w h p rw rh rp (n : Int) y) (by omega), w64 (n := pixA w h p (n : Int) y) (by omega)]
      obtain ⟨s', e1, e2, e3⟩ := put_at he (c := base + rctx t dx dy w h p rw rh rp (n : Int) y) (by omega) hp (by omega)
      rw [e1, e2]
      exact .mk ⟨⟨n + 1, s', by omega, rfl, rfl, by rw [show B + 4 * (n + 1) = B + 4 * n + 4 by omega]; exact e3⟩, by show (w - ((n : Int) + 1)).toNat < (w - (n : Int)).toNat; omega⟩
    · simp only [hv, if_false]
      exact .mk ⟨⟨n + 1, e, by omega, rfl, rfl, he.1, he.2.1, by have := he.2.2; show e.2.2.2.2.length ≤ _; omega⟩, by show (w - ((n : Int) + 1)).toNat < (w - (n : Int)).toNat; omega⟩
  · simp only [hlt, decide_false, Bool.false_eq_true, if_false]
    exact .mk ⟨rfl, he.1, he.2.1, by have := he.2.2; show e.2.2.2.2.length ≤ _; omega⟩
end Go.Proofs.YtkccnhkhjncpkaaGreat.P
