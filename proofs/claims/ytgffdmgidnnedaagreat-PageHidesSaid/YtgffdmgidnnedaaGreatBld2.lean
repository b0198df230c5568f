/- Literal rows, make, conversions, parts of rows. -/
import Derived.Test.YtgffdmgidnnedaaGreatBld
import Derived.Laws.Slices
namespace Go.Proofs.YtgffdmgidnnedaaGreat.V
open Go
set_option linter.unusedVariables false
set_option linter.unusedSimpArgs false
section
variable {G : Prg} {w w' : World} {Fz : Nat → Prop} {ι : Nat → Loc} {H : List (Blk G.E.T)} {R : Type} {r : R} {X : Ctx}
theorem rowBecomes_alloc {arr : Array Value} {e : TypeId} {sz len cap : Nat} {cs : List Value} (hsz : arr.size = cap * sz) (hle : len ≤ cap) (hmax : len ≤ maxLen) (hcs : ∀ (q : Nat) (v : Value), cs[q]? = some v → arr[q]? = some v) :
  RowBecomes w (w.alloc (.cells arr e)) ⟨none, 0⟩ ⟨some ⟨w.heap.size, 0, none⟩, cap⟩ sz len cs := by
 refine ⟨⟨hle, hmax, .inr ⟨w.heap.size, 0, rfl, by simp, fun c hc => ?_⟩⟩, fun B o ha q v hv => ?_, rfl, rfl, rfl, by simp, fun B hB _ => alloc_mem _ B hB, fun A' hA' => .inr ?_⟩
 ·rw [Nat.zero_add, World.cell?_alloc_new, World.frozen?_alloc_new]
  exact ⟨⟨_, Array.getElem?_eq_getElem (by rw [hsz]; exact hc)⟩, rfl⟩
 ·simp only [Option.some.injEq, Addr.mk.injEq] at ha
  obtain ⟨rfl, rfl, _⟩ := ha
  rw [Nat.zero_add, World.cell?_alloc_new]
  exact hcs q v hv
 ·simp only [Option.some.injEq] at hA'
  subst hA'; exact Nat.le_refl _
theorem run_buildSlice {t e : TypeId} {i : TypeInfo} {z : Value} {sz : Nat} (ht : G.P.underlying t = some (.slice e)) (hi : G.P.info? e = some i) (hsz : i.size = sz) (hz : i.zero = some z) {n : Nat} (hn : n * sz ≤ 16777216)
  {vals : Array (Nat × Value)} (hlen : vals.size = n) (hv : ∀ (q : Nat) (x : Nat × Value), vals.toList[q]? = some x → x.1 = q ∧ x.2.cells.size = sz) :
  ∃ arr : Array Value, (Instr.buildSlice t n vals).run G.P w = .ok (.slice (some ⟨w.heap.size, 0, none⟩) n n) (w.alloc (.cells arr e)) ∧ arr.toList = (vals.toList.map fun x => x.2.cells.toList).flatten ∧ arr.size = n * sz := by
 subst hsz
 have hbig : ¬ (16777216 < n * i.size) := by omega
 have key : ∀ zc : Array Value, ∃ arr, Instr.fill (fun j => some (j * i.size, i.size)) ((Array.range (n * i.size)).map fun q => zc[q % zc.size]!) vals.toList = some arr ∧ arr.toList = (vals.toList.map fun x => x.2.cells.toList).flatten := fun zc => by
  obtain ⟨arr, h1, h2⟩ := fill_seq vals.toList 0 ((Array.range (n * i.size)).map fun q => zc[q % zc.size]!) (sz := i.size) (fun q x hx => by
   obtain ⟨h1, h2⟩ := hv q x hx
   exact ⟨by omega, h2⟩) (by simp [hlen])
  refine ⟨arr, h1, ?_⟩
  rw [h2, Nat.zero_mul, List.take_zero, List.nil_append, Nat.zero_add, List.drop_of_length_le (by simp [hlen]), List.append_nil]
 have hfl : (vals.toList.map fun x => x.2.cells.toList).flatten.length = n * i.size := by
  rw [flat_length (sz := i.size) _ (fun p hp => by
   obtain ⟨x, hx, rfl⟩ := List.mem_map.1 hp
   obtain ⟨q, hq⟩ := List.getElem?_of_mem hx
   simp [(hv q x hq).2])]
  simp [hlen]
 by_cases h0 : n * i.size = 0
 ·obtain ⟨arr, h1, h2⟩ := key #[]
  refine ⟨arr, ?_, h2, by rw [← Array.length_toList, h2, hfl]⟩
  simp only [Instr.buildSlice, Sem.run_bind, run_underlying ht, Result.andThen_ok, sizeOf, typeInfo, run_program, hi, Sem.run_pure]
  simp [hbig, h0]
  simp [h0] at h1
  simp [h1, newRow]
 ·obtain ⟨arr, h1, h2⟩ := key z.cells
  refine ⟨arr, ?_, h2, by rw [← Array.length_toList, h2, hfl]⟩
  simp only [Instr.buildSlice, Sem.run_bind, run_underlying ht, Result.andThen_ok, sizeOf, typeInfo, run_program, hi, Sem.run_pure]
  simp [hbig, h0, zeroValue, typeInfo, hi, hz, h1, newRow]
theorem partInts_sound {k : IntKind} : ∀ {n : Nat} {parts : List (Nat × PV G.E.T)} {xs : List Int} {vals : List (Nat × Value)}, partInts k n parts = some xs → PartsRep G.E w Fz ι H parts vals →
  xs.length = vals.length ∧ (∀ x ∈ xs, k.has x) ∧ ∀ (q : Nat) (y : Nat × Value), vals[q]? = some y → y.1 = n + q ∧ ∃ x, xs[q]? = some x ∧ y.2 = .int k x
 | n, [], xs, [], h, _ => by simp [partInts] at h; subst h; simp
 | n, (i, p) :: parts, xs, (j, v) :: vals, h, hp => by
  obtain ⟨rfl, hpv, hrest⟩ := hp
  cases p <;> simp only [partInts] at h <;> try (cases h; done)
  rename_i k' x
  split at h
  ·rename_i hi hk
   have := nat_beq hi; subst this
   have := of_decide_eq_true hk; subst this
   split at h
   ·rename_i r hr
    cases h
    obtain ⟨h1, h2, h3⟩ := partInts_sound hr hrest
    simp only [PRep] at hpv
    cases hpv with | int hx =>
    refine ⟨by simp [h1], fun y hy => ?_, fun q y hy => ?_⟩
    ·rcases List.mem_cons.1 hy with rfl | hy
     ·exact hx
     ·exact h2 y hy
    ·cases q with
     | zero => simp at hy; subst hy; exact ⟨rfl, x, rfl, rfl⟩
     | succ q =>
      simp at hy
      obtain ⟨g1, z, g2, g3⟩ := h3 q y hy
      exact ⟨by omega, z, by simpa using g2, g3⟩
   ·cases h
  ·cases h
 | _, [], _, _ :: _, _, hp => hp.elim
 | _, _ :: _, _, [], _, hp => hp.elim
theorem Colds.rowVals (ok : EnvOk G.E) {i : Nat} {cells : List (PV G.E.T)} {vs : List Value} {x : G.E.T i} (hx : G.E.inn i cells = some x) (h : Colds G.E w Fz cells vs) : RowVals G.E w Fz i [x] vs := by
 obtain ⟨h1, h2⟩ := ok.inn i cells x hx
 have hl : vs.length = G.E.sz i := by rw [← h.length, ← h1, ok.sz]
 refine ⟨by simp [hl], fun j y c p hj hp => ?_⟩
 cases j with
 | succ j => simp at hj
 | zero =>
  simp at hj; subst hj
  have hlt : c < cells.length := by rw [← h1]; exact (List.getElem?_eq_some_iff.1 hp).1
  obtain ⟨v, hv, hc⟩ := h.get (List.getElem?_eq_getElem hlt)
  exact ⟨v, by simpa using hv, h2 w Fz c _ p v (List.getElem?_eq_getElem hlt) hp hc⟩
theorem freezePs_ones {T : Nat → Type} : ∀ {l q : List (PV T)} {H H' : List (Blk T)}, freezePs H l = some (q, H') → allOne l = true
 | [], _, _, _, _ => rfl
 | p :: l, q, H, H', h => by
  simp only [freezePs] at h
  split at h
  ·rename_i v H1 hp
   split at h
   ·rename_i l' H2 hl
    have h1 : p.one = true := by cases p <;> first | rfl | simp [freezeP] at hp
    simp only [allOne, h1]
    exact freezePs_ones hl
   ·cases h
  ·cases h
theorem partRows_sound (ok : EnvOk G.E) {i : Nat} : ∀ {n : Nat} {H H' : List (Blk G.E.T)} {Fz : Nat → Prop} {parts : List (Nat × PV G.E.T)} {xs : List (G.E.T i)} {vals : List (Nat × Value)}, HRep G.E w Fz ι H → Fram G.E X w Fz ι H →
  partRows G i n H parts = some (xs, H') → PartsRep G.E w Fz ι H parts vals →
  ∃ Fz', Step G.E X w w Fz Fz' ι ι H H' ∧ xs.length = vals.length ∧ RowVals G.E w Fz' i xs (vals.map fun y => y.2.cells.toList).flatten ∧ ∀ (q : Nat) (y : Nat × Value), vals[q]? = some y → y.1 = n + q ∧ y.2.cells.size = G.E.sz i
 | n, H, H', Fz, [], xs, [], hH, hF, h, _ => by
  simp [partRows] at h
  obtain ⟨rfl, rfl⟩ := h
  exact ⟨Fz, .refl hH hF, rfl, ⟨by simp, by simp⟩, by simp⟩
 | n, H, H', Fz, (j, p) :: parts, xs, (j', v) :: vals, hH, hF, h, hp => by
  obtain ⟨rfl, hpv, hrest⟩ := hp
  simp only [partRows] at h
  split at h
  ·rename_i hj
   have := nat_beq hj; subst this
   split at h
   ·rename_i cells H1 hfz
    split at h
    ·rename_i x hx
     split at h
     ·rename_i r H2 hr
      cases h
      have hcr := cells_rep hpv (freezePs_ones hfz)
      obtain ⟨F1, s1, c1⟩ := freezePs_sound hH hF hfz hcr
      obtain ⟨F2, s2, g1, g2, g3⟩ := partRows_sound ok s1.heap s1.fram hr (hrest.mono s1.keep)
      have hv1 := (c1.rowVals ok hx).mono s2.keep.fz s2.keep.heap
      have hl : v.cells.size = G.E.sz i := by have := hv1.length; simpa using this
      refine ⟨F2, s1.trans s2, by simp [g1], by simpa using hv1.append g2, fun q y hy => ?_⟩
      cases q with
      | zero => simp at hy; subst hy; exact ⟨rfl, hl⟩
      | succ q =>
       simp at hy
       obtain ⟨k1, k2⟩ := g3 q y hy
       exact ⟨by omega, k2⟩
     ·cases h
    ·cases h
   ·cases h
  ·cases h
 | _, _, _, _, [], _, _ :: _, _, _, _, hp => hp.elim
 | _, _, _, _, _ :: _, _, [], _, _, _, hp => hp.elim
theorem buildSliceV_sound (ok : PrgOk G) {pl : Option Nat} {t : TypeId} {n : Nat} {parts : List (Nat × PV G.E.T)} {K : PV G.E.T → List (Blk G.E.T) → Option R} (h : buildSliceV G pl H t n parts K = some r) (hH : HRep G.E w Fz ι H) (hF : Fram G.E X w Fz ι H)
  {vals : Array (Nat × Value)} (hp : PartsRep G.E w Fz ι H parts vals.toList) (hlen : parts.length = vals.size) :
  ∃ p H' v w' Fz' ι', K p H' = some r ∧ (Instr.buildSlice t n vals).run G.P w = .ok v w' ∧ Step G.E X w w' Fz Fz' ι ι' H H' ∧ PRep G.E w' Fz' ι' H' p v := by
 unfold buildSliceV at h
 split at h
 ·rename_i e he hn
  have hn := nat_beq hn
  split at h
  ·rename_i k hel
   obtain ⟨hu, _⟩ := elemOk_int ok he hel
   obtain ⟨_, i, hi, hsz, hb0, hz⟩ := ok.int e k hel
   split at h
   ·rename_i xs hbig hxs
    split at h
    rotate_left
    ·cases h
    rename_i hpl
    obtain ⟨g1, g2, g3⟩ := partInts_sound hxs hp
    have hvn : vals.size = n := by omega
    have hln : xs.length = n := by rw [g1, Array.length_toList]; exact hvn
    obtain ⟨arr, hrun, ha, has⟩ := run_buildSlice (w := w) hu hi hsz hz (n := n) (by have := Nat.le_of_ble_eq_true hbig; omega) hvn (fun q x hx => by
     obtain ⟨q1, y, _, q3⟩ := g3 q x hx
     exact ⟨by omega, by rw [q3]; rfl⟩)
    have hflat : arr.toList = xs.map fun y => Value.int k y := by
     rw [ha]
     apply List.ext_getElem?
     intro q
     have hf := fun (x : Nat × Value) (hx : vals.toList[q]? = some x) => flat_get (sz := 1) (vals.toList.map fun x => x.2.cells.toList) (fun p hp => by
      obtain ⟨x, hx, rfl⟩ := List.mem_map.1 hp
      obtain ⟨q, hq⟩ := List.getElem?_of_mem hx
      obtain ⟨_, y, _, q3⟩ := g3 q x hq
      rw [q3]; rfl) q 0 x.2.cells.toList (by rw [List.getElem?_map, hx]; rfl) (by omega)
     by_cases hq : q < vals.size
     ·have hx : vals.toList[q]? = some vals.toList[q] := List.getElem?_eq_getElem (by simpa using hq)
      have := hf _ hx
      rw [Nat.mul_one, Nat.add_zero] at this
      rw [this]
      obtain ⟨_, y, q2, q3⟩ := g3 q _ hx
      rw [q3, List.getElem?_map, q2]; rfl
     ·rw [List.getElem?_eq_none, List.getElem?_eq_none]
      ·simp; omega
      ·rw [flat_length (sz := 1) _ (fun p hp => by
        obtain ⟨x, hx, rfl⟩ := List.mem_map.1 hp
        obtain ⟨q, hq⟩ := List.getElem?_of_mem hx
        obtain ⟨_, y, _, q3⟩ := g3 q x hq
        rw [q3]; rfl)]
       simp; omega
    have hrb := rowBecomes_alloc (w := w) (arr := arr) (e := e) (sz := 1) (len := xs.length) (cap := n) (cs := xs.map fun y => Value.int k y) has (by omega) (by have := Nat.le_of_ble_eq_true hbig; simp only [maxLen]; omega) (fun q v hv => by
     rw [← hflat] at hv
     simpa using hv)
    refine ⟨_, _, _, _, Fz, _, h, hrun, Step.rowAt hpl hH hF ⟨_, _, rfl⟩ rfl hrb (fun KK => hrb.ints g2 updι_same), ?_⟩
    have := arr_at (G := G) (w' := w.alloc (.cells arr e)) (Fz := Fz) (ι := ι) hpl (b := .ints .own k (plEp pl) xs) (l := ⟨some ⟨w.heap.size, 0, none⟩, n⟩) rfl
    rwa [hln] at this
   ·cases h
  ·rename_i m hel
   obtain ⟨hu, _⟩ := elemOk_row ok he hel
   obtain ⟨i, z, hi, hsz, hb0, hz, hzs, hpos, _⟩ := ok.row e m hel
   split at h
   ·rename_i xs H1 hbig hxs
    split at h
    rotate_left
    ·cases h
    rename_i hpl
    obtain ⟨F1, s1, g1, g2, g3⟩ := partRows_sound ok.env hH hF hxs hp
    have hvn : vals.size = n := by omega
    have hln : xs.length = n := by rw [g1, Array.length_toList]; exact hvn
    have hbig := Nat.le_of_ble_eq_true hbig
    obtain ⟨arr, hrun, ha, has⟩ := run_buildSlice (w := w) hu hi hsz hz (n := n) hbig hvn (fun q x hx => by
     obtain ⟨q1, q2⟩ := g3 q x hx
     exact ⟨by omega, q2⟩)
    have hle : n ≤ n * G.E.sz m := Nat.le_mul_of_pos_right _ hpos
    have hrb := rowBecomes_alloc (w := w) (arr := arr) (e := e) (sz := G.E.sz m) (len := xs.length) (cap := n) (cs := (vals.toList.map fun y => y.2.cells.toList).flatten) has (by omega) (by simp only [maxLen]; omega) (fun q v hv => by
     rw [← ha] at hv
     simpa using hv)
    have s2 := Step.rowAt (X := X) (ι := ι) (Fz := F1) hpl s1.heap s1.fram (b' := .rows .own m (plEp pl) xs) ⟨_, _, rfl⟩ rfl hrb (fun KK => hrb.rows (g2.mono KK.fz KK.heap) updι_same)
    refine ⟨_, _, _, _, F1, _, h, hrun, s1.trans s2, ?_⟩
    have := arr_at (G := G) (w' := w.alloc (.cells arr e)) (Fz := F1) (ι := ι) hpl (b := .rows .own m (plEp pl) xs) (l := ⟨some ⟨w.heap.size, 0, none⟩, n⟩) rfl
    rwa [hln] at this
   ·cases h
  ·cases h
 ·cases h
theorem PRep.toCold {p : PV G.E.T} {v : Value} (h : PRep G.E w Fz ι H p v) (hc : p.cold = true) : Cold G.E w Fz p v := by
 cases p <;> simp only [PV.cold, Bool.false_eq_true] at hc <;> simp only [PRep] at h
 case nilsl => exact .inr ⟨rfl, h⟩
 all_goals exact .inl h
theorem makeSliceV_sound (ok : PrgOk G) {pl : Option Nat} {t : TypeId} {l c : PV G.E.T} {K : PV G.E.T → List (Blk G.E.T) → Option R} (h : makeSliceV G pl H t l c K = some r) (hH : HRep G.E w Fz ι H) (hF : Fram G.E X w Fz ι H)
  {vl vc : Value} (hl : PRep G.E w Fz ι H l vl) (hc : PRep G.E w Fz ι H c vc) :
  ∃ p H' v w' ι', K p H' = some r ∧ (Instr.makeSlice t vl vc).run G.P w = .ok v w' ∧ Step G.E X w w' Fz Fz ι ι' H H' ∧ PRep G.E w' Fz ι' H' p v := by
 unfold makeSliceV at h
 split at h
 ·rename_i e l c he hpl
  simp only [PRep] at hl hc
  cases hl with | int hl' =>
  cases hc with | int hc' =>
  split at h
  ·rename_i b k hby hel
   obtain ⟨hu, _⟩ := elemOk_int ok he hel
   obtain ⟨_, i, hi, hsz, hb0, hz⟩ := ok.int e k hel
   obtain ⟨i', hi', rfl⟩ := typeBytes_eq hby
   rw [hi] at hi'; cases hi'
   split at h
   ·rename_i hcond
    obtain ⟨h0, h1, h2⟩ := hcond
    have hcb : c ≤ 281474976710656 := by
     have : c * 1 ≤ (i.bytes : Int) * c := by rw [Int.mul_comm]; exact Int.mul_le_mul_of_nonneg_right (by omega) (by omega)
     omega
    have hrun := run_make (P := G.P) w t e i _ hu hi hz .i64 .i64 l c h0 h1 h2 (by omega)
    have hlen : (List.replicate l.toNat (0 : Int)).length = l.toNat := by simp
    have hrb := rowBecomes_alloc (w := w) (arr := madeCells #[.int k 0] (c.toNat * i.size)) (e := e) (sz := 1) (len := (List.replicate l.toNat (0 : Int)).length) (cap := c.toNat) (cs := (List.replicate l.toNat (0 : Int)).map fun y => Value.int k y)
     (by rw [size_madeCells, hsz]) (by rw [hlen]; omega) (by rw [hlen]; simp only [maxLen]; omega) (fun q v hv => by
      rw [List.getElem?_map] at hv
      obtain ⟨y, hy, rfl⟩ := Option.map_eq_some_iff.1 hv
      rw [List.getElem?_replicate] at hy
      split at hy
      ·cases hy
       rename_i hq
       simp [madeCells, hsz, Nat.mod_one, Array.getElem?_range]
       omega
      ·cases hy)
    refine ⟨_, _, _, _, _, h, hrun, Step.rowAt hpl hH hF ⟨_, _, rfl⟩ rfl hrb (fun KK => hrb.ints (fun y hy => ?_) updι_same), ?_⟩
    ·rw [List.mem_replicate] at hy
     rw [hy.2, has_iff]; cases k <;> simp
    ·have := arr_at (G := G) (w' := w.alloc (.cells (madeCells #[.int k 0] (c.toNat * i.size)) e)) (Fz := Fz) (ι := ι) hpl (b := .ints .own k (plEp pl) (List.replicate l.toNat 0)) (l := ⟨some ⟨w.heap.size, 0, none⟩, c.toNat⟩) rfl
     rwa [hlen] at this
   ·cases h
  ·rename_i b n hby hel
   obtain ⟨hu, _⟩ := elemOk_row ok he hel
   obtain ⟨i, z, hi, hsz, hb0, hz, hzs, hpos, _⟩ := ok.row e n hel
   obtain ⟨i', hi', rfl⟩ := typeBytes_eq hby
   rw [hi] at hi'; cases hi'
   split at h
   ·rename_i zc hzc
    split at h
    ·rename_i x hx
     split at h
     ·rename_i hcond
      obtain ⟨h0, h1, h2⟩ := hcond
      have hcb : c ≤ 281474976710656 := by
       have : c * 1 ≤ (i.bytes : Int) * c := by rw [Int.mul_comm]; exact Int.mul_le_mul_of_nonneg_right (by omega) (by omega)
       omega
      have hrun := run_make (P := G.P) w t e i _ hu hi hz .i64 .i64 l c h0 h1 h2 (by omega)
      obtain ⟨z', _, hzr, _, i', hi', hz'⟩ := zeroCellsP_sound (w := w) (Fz := Fz) (ι := ι) (H := H) hzc
      rw [hi] at hi'; cases hi'
      rw [hz] at hz'; cases hz'
      obtain ⟨e1, e2⟩ := ok.env.inn n zc x hx
      have hcold := ok.env.cold n zc x hx
      have hlen : (List.replicate l.toNat x).length = l.toNat := by simp
      have hmade : ∀ q, q < c.toNat * i.size → (madeCells z.cells (c.toNat * i.size))[q]? = some (z.cells[q % z.cells.size]!) := fun q hq => by simp [madeCells, hq]
      have hvals : RowVals G.E w Fz n (List.replicate l.toNat x) ((List.range (l.toNat * G.E.sz n)).map fun q => z.cells[q % G.E.sz n]!) := by
       refine ⟨by simp, fun j y p q hj hq => ?_⟩
       rw [List.getElem?_replicate] at hj
       split at hj
       ·rename_i hjl
        cases hj
        have hpl : p < G.E.sz n := by have := (List.getElem?_eq_some_iff.1 hq).1; rwa [ok.env.sz] at this
        have hfit : (j + 1) * G.E.sz n ≤ l.toNat * G.E.sz n := Nat.mul_le_mul_right _ hjl
        rw [Nat.add_mul] at hfit
        have hzcl : p < zc.length := by rw [← e1, ok.env.sz]; exact hpl
        obtain ⟨v, hv, hpv⟩ := hzr.get (List.getElem?_eq_getElem hzcl)
        refine ⟨v, ?_, e2 w Fz p _ q v (List.getElem?_eq_getElem hzcl) hq (hpv.toCold (hcold _ (List.getElem_mem hzcl)))⟩
        rw [List.getElem?_map, List.getElem?_range (by omega), Option.map_some, show (j * G.E.sz n + p) % G.E.sz n = p from by rw [Nat.mul_comm, Nat.mul_add_mod]; exact Nat.mod_eq_of_lt hpl]
        have : z.cells[p]? = some v := by simpa using hv
        simp [getElem!_def, this]
       ·cases hj
      have hfit : l.toNat * G.E.sz n ≤ c.toNat * G.E.sz n := Nat.mul_le_mul_right _ (by omega)
      have hrb := rowBecomes_alloc (w := w) (arr := madeCells z.cells (c.toNat * i.size)) (e := e) (sz := G.E.sz n) (len := (List.replicate l.toNat x).length) (cap := c.toNat) (cs := (List.range (l.toNat * G.E.sz n)).map fun q => z.cells[q % G.E.sz n]!)
       (by rw [size_madeCells, hsz]) (by rw [hlen]; omega) (by rw [hlen]; simp only [maxLen]; omega) (fun q v hv => by
        rw [List.getElem?_map] at hv
        obtain ⟨y, hy, rfl⟩ := Option.map_eq_some_iff.1 hv
        have hlt := (List.getElem?_eq_some_iff.1 hy).1
        rw [List.length_range] at hlt
        rw [List.getElem?_range hlt] at hy
        cases hy
        rw [hmade q (by rw [hsz]; omega), hzs])
      refine ⟨_, _, _, _, _, h, hrun, Step.rowAt hpl hH hF ⟨_, _, rfl⟩ rfl hrb (fun KK => hrb.rows (hvals.mono KK.fz KK.heap) updι_same), ?_⟩
      have := arr_at (G := G) (w' := w.alloc (.cells (madeCells z.cells (c.toNat * i.size)) e)) (Fz := Fz) (ι := ι) hpl (b := .rows .own n (plEp pl) (List.replicate l.toNat x)) (l := ⟨some ⟨w.heap.size, 0, none⟩, c.toNat⟩) rfl
      rwa [hlen] at this
     ·cases h
    ·cases h
   ·cases h
  ·cases h
 ·cases h
end
end Go.Proofs.YtgffdmgidnnedaaGreat.V
