/- append, make, literals. -/
import Derived.Test.YtgffdmgidnnedaaGreatMem3
import Derived.Laws.Append
import Derived.Laws.MakeOwn
namespace Go.Proofs.YtgffdmgidnnedaaGreat.V
open Go
set_option linter.unusedVariables false
set_option linter.unusedSimpArgs false
/-- a row that has become another: its cells are cs -/
structure RowBecomes (w w' : World) (l l' : Loc) (sz len' : Nat) (cs : List Value) : Prop where
 row : RowAt w' l' len' sz
 cells : ∀ B o, l'.a = some ⟨B, o, none⟩ → ∀ (q : Nat) (v : Value), cs[q]? = some v → w'.cell? ⟨B, o + q, none⟩ = some v
 os : w'.os = w.os
 tape : w'.tape = w.tape
 output : w'.output = w.output
 size : w.heap.size ≤ w'.heap.size
 mem : ∀ B, B < w.heap.size → (∀ A, l.a = some A → B ≠ A.block) → w'.heap[B]? = w.heap[B]?
 loc : ∀ A', l'.a = some A' → (∃ A, l.a = some A ∧ A'.block = A.block) ∨ w.heap.size ≤ A'.block
section
variable {P : Program} {w : World}
theorem cells_of_array {cs : Array Value} {t : TypeId} (q : Nat) : ∀ o : Nat, o = 0 → (w.alloc (.cells cs t)).cell? ⟨w.heap.size, o + q, none⟩ = cs[q]? := by
 rintro o rfl; rw [Nat.zero_add]; simp
theorem run_append_gen {t tx ty e : TypeId} {i : TypeInfo} {z : Value} {sz : Nat} (ht : P.underlying t = some (.slice e)) (hi : P.info? e = some i) (hsz : i.size = sz) (hb0 : 0 < i.bytes) (hz : i.zero = some z) (hzs : z.cells.size = sz)
  {dx : TypeDesc} (hx : P.underlying tx = some dx) (hdx : dx = .string ∨ ∃ e', dx = .slice e') {x : Value} {n : Nat} {news : List Value} (hlen : ∀ w' : World, (Builtin.lenOf x).run P w' = .ok n w')
  (hfirst : ∀ w' : World, w'.heap = w.heap → (Builtin.firstCells sz n x).run P w' = .ok news.toArray w') (hnews : news.length = n * sz) (h1 : ∀ u ∈ news, u.oneCell' = true)
  {l : Loc} {sLen : Nat} (hrow : RowAt w l sLen sz) {olds : List Value} (hol : olds.length = sLen * sz) (holds : ∀ B o, l.a = some ⟨B, o, none⟩ → ∀ (q : Nat) (v : Value), olds[q]? = some v → w.cell? ⟨B, o + q, none⟩ = some v)
  (hbytes : (sLen + n) * i.bytes ≤ 140737488355328) :
  ∃ l' w', (Builtin.append_ #[t, tx] ty #[.slice l.a sLen l.cap, x]).run P w = .ok (.slice l'.a (sLen + n) l'.cap) w' ∧ RowBecomes w w' l l' sz (sLen + n) (olds ++ news) := by
 have hneed : sLen + n ≤ 140737488355328 := Nat.le_trans (Nat.le_mul_of_pos_right _ hb0) hbytes
 by_cases hroom : sLen + n ≤ l.cap
 ·rcases hrow.2.2 with ⟨hn, hc0⟩ | ⟨B, o, ha, hB, hc⟩
  ·have hs0 : sLen = 0 := by omega
   have hn0 : n = 0 := by omega
   subst hs0; subst hn0
   have hnil : news = [] := List.eq_nil_of_length_eq_zero (by simpa using hnews)
   have hnilo : olds = [] := List.eq_nil_of_length_eq_zero (by simpa using hol)
   subst hnil; subst hnilo
   refine ⟨l, w, ?_, ⟨hrow, by simp, rfl, rfl, rfl, Nat.le_refl _, fun _ _ _ => rfl, fun A h => .inl ⟨A, h, rfl⟩⟩⟩
   have hf := hfirst w rfl
   rcases hdx with rfl | ⟨e', rfl⟩ <;> simp [Builtin.append_, run_underlying ht, run_underlying hx, sizeOf, typeInfo, hi, hsz, hlen, hf, hn, hc0]
  ·have hex : ∀ j, j < news.length → (∃ u, w.cell? ⟨B, o + sLen * sz + j, none⟩ = some u) ∧ w.frozen? ⟨B, o + sLen * sz + j, none⟩ = false := fun j hj => by
    have h2 : (sLen + n) * sz ≤ l.cap * sz := Nat.mul_le_mul_right _ hroom
    rw [Nat.add_mul] at h2
    have := hc (sLen * sz + j) (by omega)
    rwa [← Nat.add_assoc] at this
   have hst := run_storeCells_cells (P := P) B (o + sLen * sz) news 0 w (fun j hj => by obtain ⟨⟨u, hu⟩, _⟩ := hex j hj; simp [hu]) (fun j hj => by simpa using (hex j hj).2) h1
   simp only [Nat.add_zero] at hst
   have hf := hfirst w rfl
   have hcell := fun c => cell_setCells (w := w) (B := B) (o := o + sLen * sz) (vs := news) (fun j hj => (hex j hj).1) c
   obtain ⟨f1, f2, f3, f4, f5⟩ := setCells_frame B news (o + sLen * sz) w
   refine ⟨l, w.setCells B (o + sLen * sz) news, ?_, ⟨⟨hroom, by simp only [maxLen]; omega, .inr ⟨B, o, ha, by rw [f4]; exact hB, fun c hc' => ?_⟩⟩, fun B' o' ha' q v hv => ?_, f1, f2, f3, Nat.le_of_eq f4.symm, fun C _ hne => f5 C (hne _ ha), fun A h => .inl ⟨A, h, rfl⟩⟩⟩
   ·rw [ha]
    rcases hdx with rfl | ⟨e', rfl⟩ <;> simp [Builtin.append_, run_underlying ht, run_underlying hx, sizeOf, typeInfo, hi, hsz, hlen, hf, hroom, Addr.add_lit, hst]
   ·rw [World.frozen?_setCells, hcell]
    refine ⟨?_, (hc c hc').2⟩
    split
    ·exact ⟨_, List.getElem?_eq_getElem (by omega)⟩
    ·exact (hc c hc').1
   ·rw [ha] at ha'; cases ha'
    rw [hcell]
    by_cases hq : q < olds.length
    ·rw [List.getElem?_append_left hq] at hv
     rw [if_neg (by omega)]
     exact holds B o ha q v hv
    ·rw [List.getElem?_append_right (by omega)] at hv
     have := (List.getElem?_eq_some_iff.1 hv).1
     rw [if_pos (by omega), show o + q - (o + sLen * sz) = q - olds.length by omega]
     exact hv
 ·have h63 : ¬ (9223372036854775807 < ((sLen : Int) + (n : Int))) := by omega
  have hfit := growslice_fits (need := sLen + n) (old := l.cap) (bytes := i.bytes) (by omega) hbytes
  have h48 : ¬ (281474976710656 < Builtin.nextslicecap (sLen + n) l.cap * i.bytes) := by omega
  have hf := hfirst w.drew rfl
  have hfo : (Builtin.firstCells sz sLen (.slice l.a sLen l.cap)).run P w.drew = .ok olds.toArray w.drew := by
   rcases hrow.2.2 with ⟨hn, hc0⟩ | ⟨B, o, ha, hB, hc⟩
   ·have hs0 : sLen = 0 := by have := hrow.1; omega
    subst hs0
    have hnilo : olds = [] := List.eq_nil_of_length_eq_zero (by simpa using hol)
    subst hnilo
    simp [hn, Builtin.firstCells]
   ·rw [ha]
    exact run_firstCells_some (P := P) w.drew sz sLen ⟨B, o, none⟩ sLen l.cap olds hol (fun j v hv => by rw [Addr.add_lit]; simpa using holds B o ha j v hv)
  refine ⟨⟨some ⟨w.heap.size, 0, none⟩, grownCap w (sLen + n) l.cap e⟩, w.drew.alloc (.cells (olds.toArray ++ news.toArray ++ Builtin.zeroCells z.cells (grownCap w (sLen + n) l.cap e - (sLen + n))) e), ?_, ?_⟩
  ·have hb0' : i.bytes ≠ 0 := by omega
   rcases hdx with rfl | ⟨e', rfl⟩ <;> simp [Builtin.append_, run_underlying ht, run_underlying hx, sizeOf, typeInfo, zeroValue, hi, hsz, hz, hlen, hroom, h63, h48, hb0', Question.forced, hf, hfo, newRow, grownCap]
   all_goals (congr 2; apply Array.ext'; simp [List.append_assoc])
  ·have hge := grownCap_ge w (sLen + n) l.cap e
   have hcm := grownCap_le_maxLen w (sLen + n) l.cap e (by simp only [maxLen]; omega)
   have hsize : (olds.toArray ++ news.toArray ++ Builtin.zeroCells z.cells (grownCap w (sLen + n) l.cap e - (sLen + n))).size = grownCap w (sLen + n) l.cap e * sz := by
    simp only [Array.size_append, List.size_toArray, size_zeroCells, hzs, hol, hnews, ← Nat.add_mul]
    congr 1
    omega
   refine ⟨⟨hge, by simp only [maxLen]; omega, .inr ⟨w.heap.size, 0, rfl, by simp, fun c hc => ?_⟩⟩, fun B o ha q v hv => ?_, rfl, rfl, rfl, by simp, fun B hB _ => heap_alloc_old w.drew _ B hB, fun A' hA' => .inr ?_⟩
   ·have e0 : w.drew.heap.size = w.heap.size := rfl
    rw [Nat.zero_add, ← e0, World.cell?_alloc_new, World.frozen?_alloc_new]
    exact ⟨⟨_, Array.getElem?_eq_getElem (by rw [hsize]; exact hc)⟩, rfl⟩
   ·simp only [Option.some.injEq, Addr.mk.injEq] at ha
    obtain ⟨rfl, rfl, _⟩ := ha
    have : w.drew.heap.size = w.heap.size := rfl
    rw [Nat.zero_add, ← this, World.cell?_alloc_new]
    have hlt := (List.getElem?_eq_some_iff.1 hv).1
    rw [Array.getElem?_append_left (by simpa using hlt)]
    simpa using hv
   ·simp only [Option.some.injEq] at hA'
    subst hA'; exact Nat.le_refl _
end
def anyB : Nat → Prop := fun _ => True
section
variable {G : Prg} {w w' : World} {Fz : Nat → Prop} {ι : Nat → Loc} {H : List (Blk G.E.T)} {R : Type} {r : R} {X : Ctx}
theorem FRep.loose {E : Env} {w : World} {Fz : Nat → Prop} {p : PV E.T} {v : Value} (h : FRep E w Fz p v) : FRep E w anyB p v := h.mono (fun _ _ => trivial) (fun _ _ => rfl)
theorem intsOf_read (hH : HRep G.E w Fz ι H) {k : IntKind} {p : PV G.E.T} {ys : List Int} {l : List Nat} (h : intsOf H k p = some (ys, l)) {x : Value} (hx : PRep G.E w Fz ι H p x) : FRep G.E w anyB (.ints k ys) x := by
 unfold intsOf at h
 split at h
 ·split at h
  ·rename_i hk
   have := of_decide_eq_true hk
   subst this
   cases h
   simp only [PRep] at hx
   exact hx.loose
  ·cases h
 ·cases h
  simp only [PRep] at hx
  subst hx
  exact .ints (xs := []) (by simp) (by simp) (by simp) (by simp)
 ·simp only [PRep] at hx
  obtain ⟨b, hb, hx⟩ := hx
  split at h
  ·rename_i m k' ep' xs hb'
   rw [hb] at hb'; cases hb'
   split at h
   ·rename_i hk he
    have := of_decide_eq_true hk
    subst this
    cases h
    have hr := hH.rep _ _ hb
    simp only [BRep] at hr
    exact hx.frep_ints (nat_beq he) hr.1 hr.2.1 hr.2.2 (fun _ _ => trivial)
   ·cases h
  ·cases h
 ·simp only [PRep] at hx
  obtain ⟨b, hb, hx⟩ := hx
  split at h
  ·rename_i m k' ep' xs hb'
   rw [hb] at hb'; cases hb'
   split at h
   ·rename_i hk he
    have := of_decide_eq_true hk
    subst this
    cases h
    have hr := hH.rep _ _ hb
    simp only [BRep] at hr
    exact hx.frep_ints (nat_beq he) hr.1 hr.2.1 hr.2.2 (fun _ _ => trivial)
   ·cases h
  ·cases h
 ·cases h
theorem BRep.rows_loose {id m i ep : Nat} {md : Mode} {xs : List (G.E.T i)} (h : BRep G.E w Fz ι H id (.rows md i ep xs)) :
  ∀ B o, (ι id).a = some ⟨B, o, none⟩ → ∀ j x c p, xs[j]? = some x → (G.E.outs i x)[c]? = some p → ∃ u, w.cell? ⟨B, o + j * G.E.sz i + c, none⟩ = some u ∧ FRep G.E w anyB p u := by
 intro B o ha j x c p hj hp
 obtain ⟨u, h1, h2⟩ := h.2 B o ha j x c p hj hp
 exact ⟨u, h1, h2.loose⟩
theorem rowsOf_read (hH : HRep G.E w Fz ι H) {i : Nat} {p : PV G.E.T} {ys : List (G.E.T i)} {l : List Nat} (h : rowsOf H i p = some (ys, l)) {x : Value} (hx : PRep G.E w Fz ι H p x) : FRep G.E w anyB (.rows i ys) x := by
 unfold rowsOf at h
 split at h
 ·split at h
  ·rename_i hj
   subst hj
   cases h
   simp only [PRep] at hx
   exact hx.loose
  ·cases h
 ·cases h
  simp only [PRep] at hx
  subst hx
  exact .rows (xs := []) (fun _ _ => undef) (by simp) (by simp) (by simp) (by simp)
 ·simp only [PRep] at hx
  obtain ⟨b, hb, hx⟩ := hx
  split at h
  ·rename_i m j ep' xs hb'
   rw [hb] at hb'; cases hb'
   split at h
   ·rename_i he
    split at h
    ·rename_i hj
     subst hj
     cases h
     have hr := hH.rep _ _ hb
     exact hx.frep_rows (nat_beq he) hr.1 (BRep.rows_loose (m := 0) hr) (fun _ _ => trivial)
    ·cases h
   ·cases h
  ·cases h
 ·simp only [PRep] at hx
  obtain ⟨b, hb, hx⟩ := hx
  split at h
  ·rename_i m j ep' xs hb'
   rw [hb] at hb'; cases hb'
   split at h
   ·rename_i he
    split at h
    ·rename_i hj
     subst hj
     cases h
     have hr := hH.rep _ _ hb
     exact hx.frep_rows (nat_beq he) hr.1 (BRep.rows_loose (m := 0) hr) (fun _ _ => trivial)
    ·cases h
   ·cases h
  ·cases h
 ·cases h
/-- the cells of what is read -/
theorem FRep.ints_cells {E : Env} {k : IntKind} {ys : List Int} {x : Value} (h : FRep E w anyB (.ints k ys) x) : ∃ a cap, x = .slice a ys.length cap ∧ (∀ y ∈ ys, k.has y) ∧ ys.length ≤ maxLen ∧
  ∀ w' : World, w'.heap = w.heap → ∀ P : Program, (Builtin.firstCells 1 ys.length x).run P w' = .ok (ys.map fun y => Value.int k y).toArray w' := by
 cases h with
 | ints h1 h2 h0 h3 =>
  rename_i a cap
  refine ⟨a, cap, rfl, h1, h2, fun w' hw P => ?_⟩
  by_cases hne : ys = []
  ·subst hne
   cases a <;> simp [Builtin.firstCells, loadCells, loadCellsFrom]
  ·obtain ⟨B, o, rfl, _, hc⟩ := h3 hne
   refine run_firstCells_some (P := P) w' 1 ys.length ⟨B, o, none⟩ _ _ _ (by simp) (fun j v hj => ?_)
   rw [Addr.add_lit, World.cell?_of_block (w := w) (by rw [hw])]
   rw [List.getElem?_map] at hj
   obtain ⟨y, hy, rfl⟩ := Option.map_eq_some_iff.1 hj
   exact hc j y hy
/-- of equal pieces, one behind the other: the piece and the place in it -/
theorem flat_get {α : Type} {sz : Nat} : ∀ (l : List (List α)), (∀ p ∈ l, p.length = sz) → ∀ (j c : Nat) (p : List α), l[j]? = some p → c < sz → l.flatten[j * sz + c]? = p[c]?
 | [], _, j, c, p, h, _ => by simp at h
 | q :: l, hl, 0, c, p, h, hc => by
  simp at h; subst h
  have := hl q (by simp)
  simp [List.getElem?_append_left (show c < q.length by omega)]
 | q :: l, hl, j + 1, c, p, h, hc => by
  simp at h
  have h1 := hl q (by simp)
  have := flat_get l (fun p hp => hl p (by simp [hp])) j c p h hc
  rw [List.flatten_cons, List.getElem?_append_right (by rw [h1, Nat.add_mul]; omega), h1, Nat.add_mul, show j * sz + 1 * sz + c - sz = j * sz + c by omega]
  exact this
theorem flat_length {α : Type} {sz : Nat} : ∀ (l : List (List α)), (∀ p ∈ l, p.length = sz) → l.flatten.length = l.length * sz
 | [], _ => by simp
 | q :: l, hl => by
  have h1 := hl q (by simp)
  rw [List.flatten_cons, List.length_append, flat_length l (fun p hp => hl p (by simp [hp])), h1, List.length_cons, Nat.add_mul]
  omega
/-- rows of cells, as values: element j's cells lie from j * sz on -/
structure RowVals (E : Env) (w : World) (Fz : Nat → Prop) (i : Nat) (ys : List (E.T i)) (vs : List Value) : Prop where
 length : vs.length = ys.length * E.sz i
 rep : ∀ (j : Nat) (x : E.T i) (c : Nat) (p : PV E.T), ys[j]? = some x → (E.outs i x)[c]? = some p → ∃ u, vs[j * E.sz i + c]? = some u ∧ FRep E w Fz p u
theorem RowVals.mono {E : Env} {w w' : World} {Fz Fz' : Nat → Prop} (h1 : ∀ B, Fz B → Fz' B) (h2 : ∀ B, Fz B → w'.heap[B]? = w.heap[B]?) {i : Nat} {ys : List (E.T i)} {vs : List Value} (h : RowVals E w Fz i ys vs) : RowVals E w' Fz' i ys vs :=
 ⟨h.length, fun j x c p hj hp => by obtain ⟨u, g1, g2⟩ := h.rep j x c p hj hp; exact ⟨u, g1, g2.mono h1 h2⟩⟩
theorem RowVals.append {E : Env} {w : World} {Fz : Nat → Prop} {i : Nat} {ys zs : List (E.T i)} {vs us : List Value} (h : RowVals E w Fz i ys vs) (g : RowVals E w Fz i zs us) : RowVals E w Fz i (ys ++ zs) (vs ++ us) := by
 refine ⟨by rw [List.length_append, List.length_append, h.length, g.length, Nat.add_mul], fun j x c p hj hp => ?_⟩
 by_cases hlt : j < ys.length
 ·rw [List.getElem?_append_left hlt] at hj
  obtain ⟨u, h1, h2⟩ := h.rep j x c p hj hp
  exact ⟨u, by rw [List.getElem?_append_left (List.getElem?_eq_some_iff.1 h1).1]; exact h1, h2⟩
 ·rw [List.getElem?_append_right (by omega)] at hj
  obtain ⟨u, h1, h2⟩ := g.rep _ x c p hj hp
  refine ⟨u, ?_, h2⟩
  have he : ys.length * E.sz i ≤ j * E.sz i := Nat.mul_le_mul_right _ (by omega)
  rw [List.getElem?_append_right (by rw [h.length]; omega), h.length]
  rwa [Nat.sub_mul, show j * E.sz i - ys.length * E.sz i + c = j * E.sz i + c - ys.length * E.sz i by omega] at h1
/-- out of what lies in memory -/
theorem RowVals.of_cells (ok : EnvOk G.E) {F : Nat → Prop} {i : Nat} {ys : List (G.E.T i)} {B o : Nat}
  (hc : ∀ j x c p, ys[j]? = some x → (G.E.outs i x)[c]? = some p → ∃ u, w.cell? ⟨B, o + j * G.E.sz i + c, none⟩ = some u ∧ FRep G.E w F p u) :
  ∃ vs, RowVals G.E w F i ys vs ∧ (∀ (q : Nat) (v : Value), vs[q]? = some v → w.cell? ⟨B, o + q, none⟩ = some v) ∧ ∀ v ∈ vs, v.oneCell' = true := by
 have hget : ∀ q, q < ys.length * G.E.sz i → ∃ u, w.cell? ⟨B, o + q, none⟩ = some u ∧ u.oneCell' = true := by
  intro q hq
  have hpos : 0 < G.E.sz i := by
   rcases Nat.eq_zero_or_pos (G.E.sz i) with h | h
   ·rw [h] at hq; simp at hq
   ·exact h
  have hj : q / G.E.sz i < ys.length := Nat.div_lt_of_lt_mul (by rwa [Nat.mul_comm])
  have hm := Nat.mod_lt q hpos
  have hlen := ok.sz i (ys[q / G.E.sz i])
  obtain ⟨u, h1, h2⟩ := hc _ _ (q % G.E.sz i) _ (List.getElem?_eq_getElem hj) (List.getElem?_eq_getElem (by rw [hlen]; exact hm))
  have hq' : q / G.E.sz i * G.E.sz i + q % G.E.sz i = q := Nat.div_add_mod' q (G.E.sz i)
  refine ⟨u, by rw [show o + q = o + q / G.E.sz i * G.E.sz i + q % G.E.sz i by omega]; exact h1, ?_⟩
  have := (FRep.toP (G := G) (ι := fun _ => ⟨none, 0⟩) (H := []) h2).cell h2.one
  exact this
 refine ⟨(List.range (ys.length * G.E.sz i)).map fun q => (w.cell? ⟨B, o + q, none⟩).getD undef, ⟨by simp, fun j x c p hj hp => ?_⟩, fun q v hv => ?_, fun v hv => ?_⟩
 ·obtain ⟨u, h1, h2⟩ := hc j x c p hj hp
  have hjl := (List.getElem?_eq_some_iff.1 hj).1
  have hcl := (List.getElem?_eq_some_iff.1 hp).1
  rw [ok.sz] at hcl
  have : (j + 1) * G.E.sz i ≤ ys.length * G.E.sz i := Nat.mul_le_mul_right _ hjl
  rw [Nat.add_mul] at this
  refine ⟨u, ?_, h2⟩
  rw [List.getElem?_map, List.getElem?_range (by omega), Option.map_some, ← Nat.add_assoc, h1]; rfl
 ·rw [List.getElem?_map] at hv
  obtain ⟨q', hq', rfl⟩ := Option.map_eq_some_iff.1 hv
  have hlt := (List.getElem?_eq_some_iff.1 hq').1
  rw [List.length_range] at hlt
  rw [List.getElem?_range hlt] at hq'
  cases hq'
  obtain ⟨u, hu, _⟩ := hget q hlt
  rw [hu]; rfl
 ·simp only [List.mem_map, List.mem_range] at hv
  obtain ⟨q, hq, rfl⟩ := hv
  obtain ⟨u, hu, h1⟩ := hget q hq
  rw [hu]; exact h1
theorem FRep.rows_cells (ok : EnvOk G.E) {F : Nat → Prop} {i : Nat} {ys : List (G.E.T i)} {x : Value} (h : FRep G.E w F (.rows i ys) x) : ∃ a cap vs, x = .slice a ys.length cap ∧ ys.length ≤ maxLen ∧ RowVals G.E w F i ys vs ∧ (∀ v ∈ vs, v.oneCell' = true) ∧
  ∀ w' : World, w'.heap = w.heap → ∀ P : Program, (Builtin.firstCells (G.E.sz i) ys.length x).run P w' = .ok vs.toArray w' := by
 cases h with
 | rows cv h2 h0 h3 h4 =>
  rename_i a cap
  by_cases hne : ys = []
  ·subst hne
   refine ⟨a, cap, [], rfl, h2, ⟨by simp, by simp⟩, by simp, fun w' hw P => ?_⟩
   cases a <;> simp [Builtin.firstCells, loadCells, loadCellsFrom]
  ·obtain ⟨B, o, rfl, _, hc⟩ := h3 hne
   obtain ⟨vs, g1, g2, g3⟩ := RowVals.of_cells (G := G) (w := w) ok (F := F) (ys := ys) (B := B) (o := o) (fun j x c p hj hp => ⟨_, hc j x c p hj hp, h4 j x c p hj hp⟩)
   refine ⟨_, cap, vs, rfl, h2, g1, g3, fun w' hw P => ?_⟩
   refine run_firstCells_some (P := P) w' _ ys.length ⟨B, o, none⟩ _ _ vs g1.length (fun q v hv => ?_)
   rw [Addr.add_lit, World.cell?_of_block (w := w) (by rw [hw])]
   exact g2 q v hv
end
end Go.Proofs.YtgffdmgidnnedaaGreat.V
