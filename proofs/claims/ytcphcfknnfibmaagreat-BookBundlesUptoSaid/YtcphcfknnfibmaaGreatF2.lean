import Derived.Test.YtcphcfknnfibmaaGreatF1
import Derived.Laws.Append
import Derived.Laws.MakeOwn
import Derived.Laws.BytesArg
import Derived.Laws.IdiomStrings
import Derived.Laws.Tables
import Derived.Laws.Slices
import Derived.MapFrom
import Derived.Lib.Bytealg
import Derived.Lib.BytesEntry
import Derived.Laws.IdiomCopy
import Derived.ChangeKeysEq
namespace Go.Proofs.YtcphcfknnfibmaaGreat.V
open Go Go.IntKind
set_option linter.unusedVariables false
set_option linter.unusedSimpArgs false
set_option linter.unusedSectionVars false
set_option maxRecDepth 100000
structure RowBecomes (w w' : World) (l l' : Loc) (sz len' : Nat) (cs : List Value) : Prop where
 row : RowAt w' l' len' sz
 cells : ∀ B o, l'.a = some ⟨B, o, none⟩ -> ∀ (q : Nat) (v : Value), cs[q]? = some v -> w'.cell? ⟨B, o + q, none⟩ = some v
 os : w'.os = w.os
 tape : w'.tape = w.tape
 output : w'.output = w.output
 size : w.heap.size <= w'.heap.size
 mem : ∀ B, B < w.heap.size -> (∀ A, l.a = some A -> B ≠ A.block) -> w'.heap[B]? = w.heap[B]?
 loc : ∀ A', l'.a = some A' -> (∃ A, l.a = some A ∧ A'.block = A.block) ∨ w.heap.size <= A'.block
section
variable {P : Program} {w : World}
theorem B588 {cs : Array Value} {t : TypeId} (q : Nat) : ∀ o : Nat, o = 0 -> (w.alloc (.cells cs t)).cell? ⟨w.heap.size, o + q, none⟩ = cs[q]? := by
 rintro o rfl; rw [A22]; simp
theorem B173 {t tx ty e : TypeId} {i : TypeInfo} {z : Value} {sz : Nat} (ht : P.underlying t = some (.slice e)) (hi : P.info? e = some i) (hsz : i.size = sz) (hb0 : 0 < i.bytes) (hz : i.zero = some z) (hzs : z.cells.size = sz)
  {dx : TypeDesc} (hx : P.underlying tx = some dx) (hdx : dx = .string ∨ ∃ e', dx = .slice e') {x : Value} {n : Nat} {news : List Value} (hlen : ∀ w' : World, (Builtin.lenOf x).run P w' = .ok n w')
  (hfirst : ∀ w' : World, w'.heap = w.heap -> (Builtin.firstCells sz n x).run P w' = .ok news.toArray w') (hnews : news.length = n * sz) (h1 : ∀ u ∈ news, u.oneCell' = true)
  {l : Loc} {sLen : Nat} (hrow : RowAt w l sLen sz) {olds : List Value} (hol : olds.length = sLen * sz) (holds : ∀ B o, l.a = some ⟨B, o, none⟩ -> ∀ (q : Nat) (v : Value), olds[q]? = some v -> w.cell? ⟨B, o + q, none⟩ = some v)
  (hbytes : (sLen + n) * i.bytes <= 140737488355328) :
  ∃ l' w', (Builtin.append_ #[t, tx] ty #[.slice l.a sLen l.cap, x]).run P w = .ok (.slice l'.a (sLen + n) l'.cap) w' ∧ RowBecomes w w' l l' sz (sLen + n) (olds ++ news) := by
 have hneed : sLen + n <= 140737488355328 := A80 (Nat.le_mul_of_pos_right _ hb0) hbytes
 by_cases hroom : sLen + n <= l.cap
 ·rcases hrow.2.2 with ⟨hn, hc0⟩ | ⟨B, o, ha, hB, hc⟩
  ·have hs0 : sLen = 0 := by omega
   have hn0 : n = 0 := by omega
   subst hs0; subst hn0
   have hnil : news = [] := A112 (by simpa using hnews)
   have hnilo : olds = [] := A112 (by simpa using hol)
   subst hnil; subst hnilo
   refine ⟨l, w, ?_, ⟨hrow, by simp, rfl, rfl, rfl, A11 _, fun _ _ _ => rfl, fun A h => .inl ⟨A, h, rfl⟩⟩⟩
   have hf := hfirst w rfl
   rcases hdx with rfl | ⟨e', rfl⟩ <;> simp [Builtin.append_, run_underlying ht, run_underlying hx, sizeOf, typeInfo, hi, hsz, hlen, hf, hn, hc0]
  ·have hex : ∀ j, j < news.length -> (∃ u, w.cell? ⟨B, o + sLen * sz + j, none⟩ = some u) ∧ w.frozen? ⟨B, o + sLen * sz + j, none⟩ = false := fun j hj => by
    have h2 : (sLen + n) * sz <= l.cap * sz := A103 _ hroom
    rw [A55] at h2
    have := hc (sLen * sz + j) (by omega)
    rwa [← A58] at this
   have hst := run_storeCells_cells (P := P) B (o + sLen * sz) news 0 w (fun j hj => by obtain ⟨⟨u, hu⟩, _⟩ := hex j hj; simp [hu]) (fun j hj => by simpa using (hex j hj).2) h1
   simp only [A36] at hst
   have hf := hfirst w rfl
   have hcell := fun c => B134 (w := w) (B := B) (o := o + sLen * sz) (vs := news) (fun j hj => (hex j hj).1) c
   obtain ⟨f1, f2, f3, f4, f5⟩ := B85 B news (o + sLen * sz) w
   refine ⟨l, w.setCells B (o + sLen * sz) news, ?_, ⟨⟨hroom, by simp only [maxLen]; omega, .inr ⟨B, o, ha, by rw [f4]; exact hB, fun c hc' => ?_⟩⟩, fun B' o' ha' q v hv => ?_, f1, f2, f3, Nat.le_of_eq f4.symm, fun C _ hne => f5 C (hne _ ha), fun A h => .inl ⟨A, h, rfl⟩⟩⟩
   ·rw [ha]
    rcases hdx with rfl | ⟨e', rfl⟩ <;> simp [Builtin.append_, run_underlying ht, run_underlying hx, sizeOf, typeInfo, hi, hsz, hlen, hf, hroom, Addr.add_lit, hst]
   ·rw [World.frozen?_setCells, hcell]
    refine ⟨?_, (hc c hc').2⟩
    split
    ·exact ⟨_, A18 (by omega)⟩
    ·exact (hc c hc').1
   ·rw [ha] at ha'; cases ha'
    rw [hcell]
    by_cases hq : q < olds.length
    ·rw [A57 hq] at hv
     rw [A7 (by omega)]
     exact holds B o ha q v hv
    ·rw [A48 (by omega)] at hv
     have := (A42.1 hv).1
     rw [A3 (by omega), show o + q - (o + sLen * sz) = q - olds.length by omega]
     exact hv
 ·have h63 : ¬ (9223372036854775807 < ((sLen : Int) + (n : Int))) := by omega
  have hfit := growslice_fits (need := sLen + n) (old := l.cap) (bytes := i.bytes) (by omega) hbytes
  have h48 : ¬ (281474976710656 < Builtin.nextslicecap (sLen + n) l.cap * i.bytes) := by omega
  have hf := hfirst w.drew rfl
  have hfo : (Builtin.firstCells sz sLen (.slice l.a sLen l.cap)).run P w.drew = .ok olds.toArray w.drew := by
   rcases hrow.2.2 with ⟨hn, hc0⟩ | ⟨B, o, ha, hB, hc⟩
   ·have hs0 : sLen = 0 := by have := hrow.1; omega
    subst hs0
    have hnilo : olds = [] := A112 (by simpa using hol)
    subst hnilo
    simp [hn, Builtin.firstCells]
   ·rw [ha]
    exact run_firstCells_some (P := P) w.drew sz sLen ⟨B, o, none⟩ sLen l.cap olds hol (fun j v hv => by rw [Addr.add_lit]; simpa using holds B o ha j v hv)
  refine ⟨⟨some ⟨w.heap.size, 0, none⟩, grownCap w (sLen + n) l.cap e⟩, w.drew.alloc (.cells (olds.toArray ++ news.toArray ++ Builtin.zeroCells z.cells (grownCap w (sLen + n) l.cap e - (sLen + n))) e), ?_, ?_⟩
  ·have hb0' : i.bytes ≠ 0 := by omega
   rcases hdx with rfl | ⟨e', rfl⟩ <;> simp [Builtin.append_, run_underlying ht, run_underlying hx, sizeOf, typeInfo, zeroValue, hi, hsz, hz, hlen, hroom, h63, h48, hb0', Question.forced, hf, hfo, newRow, grownCap]
   all_goals (congr 2; apply Array.ext'; simp [A27])
  ·have hge := grownCap_ge w (sLen + n) l.cap e
   have hcm := grownCap_le_maxLen w (sLen + n) l.cap e (by simp only [maxLen]; omega)
   have hsize : (olds.toArray ++ news.toArray ++ Builtin.zeroCells z.cells (grownCap w (sLen + n) l.cap e - (sLen + n))).size = grownCap w (sLen + n) l.cap e * sz := by
    simp only [Array.size_append, List.size_toArray, size_zeroCells, hzs, hol, hnews, ← A55]
    congr 1
    omega
   refine ⟨⟨hge, by simp only [maxLen]; omega, .inr ⟨w.heap.size, 0, rfl, by simp, fun c hc => ?_⟩⟩, fun B o ha q v hv => ?_, rfl, rfl, rfl, by simp, fun B hB _ => heap_alloc_old w.drew _ B hB, fun A' hA' => .inr ?_⟩
   ·have e0 : w.drew.heap.size = w.heap.size := rfl
    rw [A22, ← e0, World.cell?_alloc_new, World.frozen?_alloc_new]
    exact ⟨⟨_, A74 (by rw [hsize]; exact hc)⟩, rfl⟩
   ·simp only [A16, Addr.mk.injEq] at ha
    obtain ⟨rfl, rfl, _⟩ := ha
    have : w.drew.heap.size = w.heap.size := rfl
    rw [A22, ← this, World.cell?_alloc_new]
    have hlt := (A42.1 hv).1
    rw [A114 (by simpa using hlt)]
    simpa using hv
   ·simp only [A16] at hA'
    subst hA'; exact A11 _
end
def anyB : Nat -> Prop := fun _ => True
section
variable {G : Prg} {w w' : World} {Fz : Nat -> Prop} {ι : Nat -> Loc} {H : List (Blk G.E.T)} {R : Type} {r : R} {X : Ctx}
theorem FRep.loose {E : Env} {w : World} {Fz : Nat -> Prop} {p : PV E.T} {v : Value} (h : FRep E w Fz p v) : FRep E w anyB p v := h.mono (fun _ _ => trivial) (fun _ _ => rfl)
theorem B181 (hH : HRep G.E w Fz ι H) {k : IntKind} {p : PV G.E.T} {ys : List Int} {l : List Nat} (h : B80 H k p = some (ys, l)) {x : Value} (hx : PRep G.E w Fz ι H p x) : FRep G.E w anyB (.ints k ys) x := by
 unfold B80 at h
 split at h
 ·split at h
  ·rename_i hk
   have := A39 hk
   subst this
   cases h
   simp only [PRep] at hx
   exact hx.loose
  ·cases h
 ·cases h
  simp only [PRep] at hx
  subst hx
  exact .ints (xs := []) (by simp) (by simp) (by simp) (by simp)
 ·simp only [PRep] at hx
  obtain ⟨b, hb, hx⟩ := hx
  split at h
  ·rename_i m k' ep' xs hb'
   rw [hb] at hb'; cases hb'
   split at h
   ·rename_i hk he
    have := A39 hk
    subst this
    cases h
    have hr := hH.rep _ _ hb
    simp only [BRep] at hr
    exact hx.frep_ints (B7 he) hr.1 hr.2.1 hr.2.2 (fun _ _ => trivial)
   ·cases h
  ·cases h
 ·simp only [PRep] at hx
  obtain ⟨b, hb, hx⟩ := hx
  split at h
  ·rename_i m k' ep' xs hb'
   rw [hb] at hb'; cases hb'
   split at h
   ·rename_i hk he
    have := A39 hk
    subst this
    cases h
    have hr := hH.rep _ _ hb
    simp only [BRep] at hr
    exact hx.frep_ints (B7 he) hr.1 hr.2.1 hr.2.2 (fun _ _ => trivial)
   ·cases h
  ·cases h
 ·cases h
theorem BRep.rows_loose {id m i ep : Nat} {md : Mode} {xs : List (G.E.T i)} (h : BRep G.E w Fz ι H id (.rows md i ep xs)) :
  ∀ B o, (ι id).a = some ⟨B, o, none⟩ -> ∀ j x c p, xs[j]? = some x -> (G.E.outs i x)[c]? = some p -> ∃ u, w.cell? ⟨B, o + j * G.E.sz i + c, none⟩ = some u ∧ FRep G.E w anyB p u := by
 intro B o ha j x c p hj hp
 obtain ⟨u, h1, h2⟩ := h.2 B o ha j x c p hj hp
 exact ⟨u, h1, h2.loose⟩
theorem B1079 (hH : HRep G.E w Fz ι H) {i : Nat} {p : PV G.E.T} {ys : List (G.E.T i)} {l : List Nat} (h : B123 H i p = some (ys, l)) {x : Value} (hx : PRep G.E w Fz ι H p x) : FRep G.E w anyB (.rows i ys) x := by
 unfold B123 at h
 split at h
 ·split at h
  ·rename_i hj
   subst hj
   cases h
   simp only [PRep] at hx
   exact hx.loose
  ·cases h
 ·cases h
  simp only [PRep] at hx
  subst hx
  exact .rows (xs := []) (fun _ _ => undef) (by simp) (by simp) (by simp) (by simp)
 ·simp only [PRep] at hx
  obtain ⟨b, hb, hx⟩ := hx
  split at h
  ·rename_i m j ep' xs hb'
   rw [hb] at hb'; cases hb'
   split at h
   ·rename_i he
    split at h
    ·rename_i hj
     subst hj
     cases h
     have hr := hH.rep _ _ hb
     exact hx.frep_rows (B7 he) hr.1 (BRep.rows_loose (m := 0) hr) (fun _ _ => trivial)
    ·cases h
   ·cases h
  ·cases h
 ·simp only [PRep] at hx
  obtain ⟨b, hb, hx⟩ := hx
  split at h
  ·rename_i m j ep' xs hb'
   rw [hb] at hb'; cases hb'
   split at h
   ·rename_i he
    split at h
    ·rename_i hj
     subst hj
     cases h
     have hr := hH.rep _ _ hb
     exact hx.frep_rows (B7 he) hr.1 (BRep.rows_loose (m := 0) hr) (fun _ _ => trivial)
    ·cases h
   ·cases h
  ·cases h
 ·cases h
theorem FRep.ints_cells {E : Env} {k : IntKind} {ys : List Int} {x : Value} (h : FRep E w anyB (.ints k ys) x) : ∃ a cap, x = .slice a ys.length cap ∧ (∀ y ∈ ys, k.has y) ∧ ys.length <= maxLen ∧
  ∀ w' : World, w'.heap = w.heap -> ∀ P : Program, (Builtin.firstCells 1 ys.length x).run P w' = .ok (ys.map fun y => Value.int k y).toArray w' := by
 cases h with
 | ints h1 h2 h0 h3 =>
  rename_i a cap
  refine ⟨a, cap, rfl, h1, h2, fun w' hw P => ?_⟩
  by_cases hne : ys = []
  ·subst hne
   cases a <;> simp [Builtin.firstCells, loadCells, loadCellsFrom]
  ·obtain ⟨B, o, rfl, _, hc⟩ := h3 hne
   refine run_firstCells_some (P := P) w' 1 ys.length ⟨B, o, none⟩ _ _ _ (by simp) (fun j v hj => ?_)
   rw [Addr.add_lit, World.cell?_of_block (w := w) (by rw [hw])]
   rw [A45] at hj
   obtain ⟨y, hy, rfl⟩ := A93.1 hj
   exact hc j y hy
theorem B707 {α : Type} {sz : Nat} : ∀ (l : List (List α)), (∀ p ∈ l, p.length = sz) -> ∀ (j c : Nat) (p : List α), l[j]? = some p -> c < sz -> l.flatten[j * sz + c]? = p[c]?
 | [], _, j, c, p, h, _ => by simp at h
 | q :: l, hl, 0, c, p, h, hc => by
  simp at h; subst h
  have := hl q (by simp)
  simp [A57 (show c < q.length by omega)]
 | q :: l, hl, j + 1, c, p, h, hc => by
  simp at h
  have h1 := hl q (by simp)
  have := B707 l (fun p hp => hl p (by simp [hp])) j c p h hc
  rw [List.flatten_cons, A48 (by rw [h1, A55]; omega), h1, A55, show j * sz + 1 * sz + c - sz = j * sz + c by omega]
  exact this
theorem B311 {α : Type} {sz : Nat} : ∀ (l : List (List α)), (∀ p ∈ l, p.length = sz) -> l.flatten.length = l.length * sz
 | [], _ => by simp
 | q :: l, hl => by
  have h1 := hl q (by simp)
  rw [List.flatten_cons, A13, B311 l (fun p hp => hl p (by simp [hp])), h1, A21, A55]
  omega
structure RowVals (E : Env) (w : World) (Fz : Nat -> Prop) (i : Nat) (ys : List (E.T i)) (vs : List Value) : Prop where
 length : vs.length = ys.length * E.sz i
 rep : ∀ (j : Nat) (x : E.T i) (c : Nat) (p : PV E.T), ys[j]? = some x -> (E.outs i x)[c]? = some p -> ∃ u, vs[j * E.sz i + c]? = some u ∧ FRep E w Fz p u
theorem RowVals.mono {E : Env} {w w' : World} {Fz Fz' : Nat -> Prop} (h1 : ∀ B, Fz B -> Fz' B) (h2 : ∀ B, Fz B -> w'.heap[B]? = w.heap[B]?) {i : Nat} {ys : List (E.T i)} {vs : List Value} (h : RowVals E w Fz i ys vs) : RowVals E w' Fz' i ys vs :=
 ⟨h.length, fun j x c p hj hp => by obtain ⟨u, g1, g2⟩ := h.rep j x c p hj hp; exact ⟨u, g1, g2.mono h1 h2⟩⟩
theorem RowVals.append {E : Env} {w : World} {Fz : Nat -> Prop} {i : Nat} {ys zs : List (E.T i)} {vs us : List Value} (h : RowVals E w Fz i ys vs) (g : RowVals E w Fz i zs us) : RowVals E w Fz i (ys ++ zs) (vs ++ us) := by
 refine ⟨by rw [A13, A13, h.length, g.length, A55], fun j x c p hj hp => ?_⟩
 by_cases hlt : j < ys.length
 ·rw [A57 hlt] at hj
  obtain ⟨u, h1, h2⟩ := h.rep j x c p hj hp
  exact ⟨u, by rw [A57 (A42.1 h1).1]; exact h1, h2⟩
 ·rw [A48 (by omega)] at hj
  obtain ⟨u, h1, h2⟩ := g.rep _ x c p hj hp
  refine ⟨u, ?_, h2⟩
  have he : ys.length * E.sz i <= j * E.sz i := A103 _ (by omega)
  rw [A48 (by rw [h.length]; omega), h.length]
  rwa [Nat.sub_mul, show j * E.sz i - ys.length * E.sz i + c = j * E.sz i + c - ys.length * E.sz i by omega] at h1
theorem RowVals.of_cells (ok : EnvOk G.E) {F : Nat -> Prop} {i : Nat} {ys : List (G.E.T i)} {B o : Nat}
  (hc : ∀ j x c p, ys[j]? = some x -> (G.E.outs i x)[c]? = some p -> ∃ u, w.cell? ⟨B, o + j * G.E.sz i + c, none⟩ = some u ∧ FRep G.E w F p u) :
  ∃ vs, RowVals G.E w F i ys vs ∧ (∀ (q : Nat) (v : Value), vs[q]? = some v -> w.cell? ⟨B, o + q, none⟩ = some v) ∧ ∀ v ∈ vs, v.oneCell' = true := by
 have hget : ∀ q, q < ys.length * G.E.sz i -> ∃ u, w.cell? ⟨B, o + q, none⟩ = some u ∧ u.oneCell' = true := by
  intro q hq
  have hpos : 0 < G.E.sz i := by
   rcases A124 (G.E.sz i) with h | h
   ·rw [h] at hq; simp at hq
   ·exact h
  have hj : q / G.E.sz i < ys.length := Nat.div_lt_of_lt_mul (by rwa [Nat.mul_comm])
  have hm := Nat.mod_lt q hpos
  have hlen := ok.sz i (ys[q / G.E.sz i])
  obtain ⟨u, h1, h2⟩ := hc _ _ (q % G.E.sz i) _ (A18 hj) (A18 (by rw [hlen]; exact hm))
  have hq' : q / G.E.sz i * G.E.sz i + q % G.E.sz i = q := Nat.div_add_mod' q (G.E.sz i)
  refine ⟨u, by rw [show o + q = o + q / G.E.sz i * G.E.sz i + q % G.E.sz i by omega]; exact h1, ?_⟩
  have := (FRep.toP (G := G) (ι := fun _ => ⟨none, 0⟩) (H := []) h2).cell h2.one
  exact this
 refine ⟨(List.range (ys.length * G.E.sz i)).map fun q => (w.cell? ⟨B, o + q, none⟩).getD undef, ⟨by simp, fun j x c p hj hp => ?_⟩, fun q v hv => ?_, fun v hv => ?_⟩
 ·obtain ⟨u, h1, h2⟩ := hc j x c p hj hp
  have hjl := (A42.1 hj).1
  have hcl := (A42.1 hp).1
  rw [ok.sz] at hcl
  have : (j + 1) * G.E.sz i <= ys.length * G.E.sz i := A103 _ hjl
  rw [A55] at this
  refine ⟨u, ?_, h2⟩
  rw [A45, A82 (by omega), A37, ← A58, h1]; rfl
 ·rw [A45] at hv
  obtain ⟨q', hq', rfl⟩ := A93.1 hv
  have hlt := (A42.1 hq').1
  rw [A50] at hlt
  rw [A82 hlt] at hq'
  cases hq'
  obtain ⟨u, hu, _⟩ := hget q hlt
  rw [hu]; rfl
 ·simp only [A60, A87] at hv
  obtain ⟨q, hq, rfl⟩ := hv
  obtain ⟨u, hu, h1⟩ := hget q hq
  rw [hu]; exact h1
theorem FRep.rows_cells (ok : EnvOk G.E) {F : Nat -> Prop} {i : Nat} {ys : List (G.E.T i)} {x : Value} (h : FRep G.E w F (.rows i ys) x) : ∃ a cap vs, x = .slice a ys.length cap ∧ ys.length <= maxLen ∧ RowVals G.E w F i ys vs ∧ (∀ v ∈ vs, v.oneCell' = true) ∧
  ∀ w' : World, w'.heap = w.heap -> ∀ P : Program, (Builtin.firstCells (G.E.sz i) ys.length x).run P w' = .ok vs.toArray w' := by
 cases h with
 | rows cv h2 h0 h3 h4 =>
  rename_i a cap
  by_cases hne : ys = []
  ·subst hne
   refine ⟨a, cap, [], rfl, h2, ⟨by simp, by simp⟩, by simp, fun w' hw P => ?_⟩
   cases a <;> simp [Builtin.firstCells, loadCells, loadCellsFrom]
  ·obtain ⟨B, o, rfl, _, hc⟩ := h3 hne
   obtain ⟨vs, g1, g2, g3⟩ := RowVals.of_cells (G := G) (w := w) ok (F := F) (ys := ys) (B := B) (o := o) (fun j x c p hj hp => ⟨_, hc j x c p hj hp, h4 j x c p hj hp⟩)
   refine ⟨_, cap, vs, rfl, h2, g1, g3, fun w' hw P => ?_⟩
   refine run_firstCells_some (P := P) w' _ ys.length ⟨B, o, none⟩ _ _ vs g1.length (fun q v hv => ?_)
   rw [Addr.add_lit, World.cell?_of_block (w := w) (by rw [hw])]
   exact g2 q v hv
end
section
variable {G : Prg} {w w' : World} {Fz : Nat -> Prop} {ι : Nat -> Loc} {H : List (Blk G.E.T)} {R : Type} {r : R} {X : Ctx}
theorem Step.rowUpd (hH : HRep G.E w Fz ι H) (hF : Fram G.E X w Fz ι H) {id : Nat} {b b' : Blk G.E.T} (hb : getL H id = some b) (hown : b.owned = true) (hprot : b.prot = false) {ep len sz len' sz' : Nat}
  (hi : b.info G.E = some (ep, len, sz)) (hi' : b'.info G.E = some (ep + 1, len', sz')) (hb' : b'.owned = true) {l' : Loc} {cs : List Value} (hr : RowBecomes w w' (ι id) l' sz' len' cs)
  (hrep : Keep G.E w w' Fz Fz ι (updι ι id l') H (setL H id b') -> BRep G.E w' Fz (updι ι id l') (setL H id b') id b') :
  Step G.E X w w' Fz Fz ι (updι ι id l') H (setL H id b') := by
 refine Step.upd hH hF id b' (B13 hb) (fun j hj => B10 hj) (fun j hj => B604 hj) (fun c hc => ?_) hr.os hr.tape hr.output hr.size (fun B hB hne => hr.mem B hB fun A hA => hne b A hb hA) (fun A' hA' => ?_) hb' hrep
 ·rw [hb] at hc; cases hc
  refine ⟨hown, hprot, fun h0 => (by rw [hi] at h0; cases h0), fun e0 l0 s0 h0 => ?_, fun e => ?_⟩
  ·rw [hi] at h0; cases h0
   exact .inr ⟨_, _, _, hi', by omega, fun e => by omega⟩
  ·subst e; cases hi
 ·rw [B14] at hA'
  rcases hr.loc A' hA' with ⟨A, h0, h1⟩ | h0
  ·exact .inl ⟨b, A, hb, h0, h1⟩
  ·exact .inr h0
theorem Step.rowNew (hH : HRep G.E w Fz ι H) (hF : Fram G.E X w Fz ι H) {b' : Blk G.E.T} {sz len : Nat} (hb' : b'.owned = true) {l' : Loc} {cs : List Value} (hr : RowBecomes w w' ⟨none, 0⟩ l' sz len cs)
  (hrep : Keep G.E w w' Fz Fz ι (updι ι H.length l') H (H ++ [b']) -> BRep G.E w' Fz (updι ι H.length l') (H ++ [b']) H.length b') :
  Step G.E X w w' Fz Fz ι (updι ι H.length l') H (H ++ [b']) :=
 Step.new hH hF b' l' hr.os hr.tape hr.output hr.size (fun B hB => hr.mem B hB (by simp)) (fun A' hA' => (hr.loc A' hA').resolve_left (by simp)) hb' hrep
theorem Step.rowAt {pl : Option Nat} (hpl : plOk pl H = true) (hH : HRep G.E w Fz ι H) (hF : Fram G.E X w Fz ι H) {b' : Blk G.E.T} {sz len : Nat} (hinfo : ∃ len sz, b'.info G.E = some (plEp pl, len, sz)) (hb' : b'.owned = true) {l' : Loc} {cs : List Value} (hr : RowBecomes w w' ⟨none, 0⟩ l' sz len cs)
  (hrep : Keep G.E w w' Fz Fz ι (updι ι (plId pl H) l') H (plPut pl H b') -> BRep G.E w' Fz (updι ι (plId pl H) l') (plPut pl H b') (plId pl H) b') :
  Step G.E X w w' Fz Fz ι (updι ι (plId pl H) l') H (plPut pl H b') :=
 Step.at_ hpl hH hF b' l' (.inr hinfo) hr.os hr.tape hr.output hr.size (fun B hB => hr.mem B hB (by simp)) (fun A' hA' => (hr.loc A' hA').resolve_left (by simp)) hb' hrep
theorem RowBecomes.ints {l l' : Loc} {k : IntKind} {ys : List Int} (hr : RowBecomes w w' l l' 1 ys.length (ys.map fun y => Value.int k y)) (hk : ∀ y ∈ ys, k.has y) {ι' : Nat -> Loc} {id : Nat} (hι : ι' id = l') {F : Nat -> Prop} {H' : List (Blk G.E.T)} {m : Mode} {ep : Nat} :
  BRep G.E w' F ι' H' id (.ints m k ep ys) := by
 simp only [BRep]
 rw [hι]
 exact ⟨hr.row, hk, fun B o ha j x hj => hr.cells B o ha j _ (by rw [A45, hj]; rfl)⟩
theorem RowBecomes.rows {l l' : Loc} {i : Nat} {ys : List (G.E.T i)} {vs : List Value} (hr : RowBecomes w w' l l' (G.E.sz i) ys.length vs) {F : Nat -> Prop} (hv : RowVals G.E w' F i ys vs) {ι' : Nat -> Loc} {id : Nat} (hι : ι' id = l') {H' : List (Blk G.E.T)} {m : Mode} {ep : Nat} :
  BRep G.E w' F ι' H' id (.rows m i ep ys) := by
 simp only [BRep]
 rw [hι]
 refine ⟨hr.row, fun B o ha j x c p hj hp => ?_⟩
 obtain ⟨u, h1, h2⟩ := hv.rep j x c p hj hp
 exact ⟨u, by rw [A58]; exact hr.cells B o ha _ u h1, h2⟩
theorem B446 {b : Blk G.E.T} {l : Loc} {ep len sz : Nat} (hb : b.info G.E = some (ep, len, sz)) : PRep G.E w' Fz (updι ι H.length l) (H ++ [b]) (.arr H.length ep) (.slice l.a len l.cap) := by
 simp only [PRep]
 refine ⟨b, B64, ⟨_, _, _, rfl⟩, fun ep' len' sz' h => ?_⟩
 rw [hb] at h; cases h
 exact ⟨A11 _, fun _ => by rw [B14]⟩
theorem B527 {pl : Option Nat} (hpl : plOk pl H = true) {b : Blk G.E.T} {l : Loc} {ep len sz : Nat} (hb : b.info G.E = some (ep, len, sz)) : PRep G.E w' Fz (updι ι (plId pl H) l) (plPut pl H b) (.arr (plId pl H) ep) (.slice l.a len l.cap) := by
 simp only [PRep]
 refine ⟨b, B170 hpl, ⟨_, _, _, rfl⟩, fun ep' len' sz' h => ?_⟩
 rw [hb] at h; cases h
 exact ⟨A11 _, fun _ => by rw [B14]⟩
theorem B447 {id : Nat} {b0 b : Blk G.E.T} (hb0 : getL H id = some b0) {l : Loc} {ep len sz : Nat} (hb : b.info G.E = some (ep, len, sz)) : PRep G.E w' Fz (updι ι id l) (setL H id b) (.arr id ep) (.slice l.a len l.cap) := by
 simp only [PRep]
 refine ⟨b, B13 hb0, ⟨_, _, _, rfl⟩, fun ep' len' sz' h => ?_⟩
 rw [hb] at h; cases h
 exact ⟨A11 _, fun _ => by rw [B14]⟩
theorem B675 (hH : HRep G.E w Fz ι H) {k : IntKind} {p : PV G.E.T} {ys : List Int} (h : B221 H k p = some ys) {x : Value} (hx : PRep G.E w Fz ι H p x) :
  (∀ y ∈ ys, k.has y) ∧ (∀ (P : Program) (w' : World), (Builtin.lenOf x).run P w' = .ok ys.length w') ∧
  ∀ w' : World, w'.heap = w.heap -> ∀ P : Program, (Builtin.firstCells 1 ys.length x).run P w' = .ok (ys.map fun y => Value.int k y).toArray w' := by
 unfold B221 at h
 split at h
 ·rename_i s
  split at h
  ·cases h
   simp only [PRep] at hx
   cases hx with | str e1 l1 =>
   rename_i bs
   subst e1
   refine ⟨fun y hy => ?_, fun P w' => by simp [Builtin.lenOf, B42], fun w' _ P => ?_⟩
   ·simp only [B9, A60] at hy
    obtain ⟨b, _, rfl⟩ := hy
    rw [B95]
    have := b.toNat_lt
    simp only; omega
   ·simp only [Builtin.firstCells, B42, Sem.run_pure]
    congr 1
    apply Array.ext'
    have hsz : bs.extract 0 bs.size = bs := by
     apply ByteArray.ext
     simp
    rw [hsz]
    simp [B9]
  ·cases h
 ·split at h
  ·rename_i xs l hxs
   cases h
   obtain ⟨a, cap, rfl, h1, h2, h3⟩ := (B181 hH hxs hx).ints_cells
   exact ⟨h1, fun P w' => by simp [Builtin.lenOf], h3⟩
  ·cases h
theorem B722 {k : IntKind} (ys : List Int) : ∀ u ∈ ys.map (fun y => Value.int k y), u.oneCell' = true := by
 intro u hu
 obtain ⟨y, _, rfl⟩ := A60.1 hu
 rfl
def B503 (E : Env) (w : World) (Fz : Nat -> Prop) (i : Nat) (ys : List (E.T i)) (x : Value) : Prop :=
 ∃ a cap, x = .slice a ys.length cap ∧ ys.length <= maxLen ∧ (ys ≠ [] -> ∃ B o, a = some ⟨B, o, none⟩ ∧ ∀ j x c p, ys[j]? = some x -> (E.outs i x)[c]? = some p -> ∃ u, w.cell? ⟨B, o + j * E.sz i + c, none⟩ = some u ∧ FRep E w Fz p u)
theorem B931 (hH : HRep G.E w Fz ι H) {i : Nat} {p : PV G.E.T} {ys : List (G.E.T i)} {l : List Nat} (h : B123 H i p = some (ys, l)) {x : Value} (hx : PRep G.E w Fz ι H p x) : B503 G.E w Fz i ys x := by
 unfold B123 at h
 split at h
 ·split at h
  ·rename_i hj
   subst hj
   cases h
   simp only [PRep] at hx
   cases hx with
   | rows cv h2 h0 h3 h4 =>
    refine ⟨_, _, rfl, h2, fun hne => ?_⟩
    obtain ⟨B, o, ha, _, hc⟩ := h3 hne
    exact ⟨B, o, ha, fun j x c p hj hp => ⟨_, hc j x c p hj hp, h4 j x c p hj hp⟩⟩
  ·cases h
 ·cases h
  simp only [PRep] at hx
  subst hx
  exact ⟨none, 0, rfl, by simp, by simp⟩
 ·simp only [PRep] at hx
  obtain ⟨b, hb, hx⟩ := hx
  split at h
  ·rename_i m j ep' xs hb'
   rw [hb] at hb'; cases hb'
   split at h
   ·rename_i he
    split at h
    ·rename_i hj
     subst hj
     cases h
     have hr := hH.rep _ _ hb
     simp only [BRep] at hr
     have hv := (hx.2 _ _ _ rfl).2 (B7 he)
     refine ⟨_, _, hv, hr.1.2.1, fun hne => ?_⟩
     obtain ⟨B, o, ha⟩ := hr.1.addr (A125.2 hne)
     exact ⟨B, o, ha, hr.2 B o ha⟩
    ·cases h
   ·cases h
  ·cases h
 ·rename_i id ep off len
  simp only [PRep] at hx
  obtain ⟨b, hb, hx⟩ := hx
  split at h
  ·rename_i m j ep' xs hb'
   rw [hb] at hb'; cases hb'
   split at h
   ·rename_i he
    split at h
    ·rename_i hj
     subst hj
     cases h
     have hr := hH.rep _ _ hb
     simp only [BRep] at hr
     obtain ⟨h1, a, cap, rfl, h0, h2⟩ := (hx.2 _ _ _ rfl).2 (B7 he)
     have hl : ((xs.drop off).take len).length = len := by simp; omega
     refine ⟨a, cap, by rw [show castR rfl xs = xs from rfl, hl], by rw [show castR rfl xs = xs from rfl, hl]; have := hr.1.2.1; omega, fun hne => ?_⟩
     have hpos : 0 < len := by
      rcases A124 len with h0 | h0
      ·subst h0; simp at hne
      ·exact h0
     obtain ⟨B, o, ha, rfl⟩ := h2 hpos
     refine ⟨B, o + off * G.E.sz j, rfl, fun q z c p hq hp => ?_⟩
     have hq' : xs[off + q]? = some z := by
      have hq : ((xs.drop off).take len)[q]? = some z := hq
      rw [A66] at hq
      split at hq
      ·rwa [A54] at hq
      ·cases hq
     obtain ⟨u, g1, g2⟩ := hr.2 B o ha _ z c p hq' hp
     exact ⟨u, by rw [show o + off * G.E.sz j + q * G.E.sz j + c = o + (off + q) * G.E.sz j + c by rw [A55]; omega]; exact g1, g2⟩
    ·cases h
   ·cases h
  ·cases h
 ·cases h
theorem B503.cells (ok : EnvOk G.E) {i : Nat} {ys : List (G.E.T i)} {x : Value} (h : B503 G.E w Fz i ys x) : ∃ vs, RowVals G.E w Fz i ys vs ∧ (∀ v ∈ vs, v.oneCell' = true) ∧ (∀ (P : Program) (w' : World), (Builtin.lenOf x).run P w' = .ok ys.length w') ∧
  ∀ w' : World, w'.heap = w.heap -> ∀ P : Program, (Builtin.firstCells (G.E.sz i) ys.length x).run P w' = .ok vs.toArray w' := by
 obtain ⟨a, cap, rfl, _, hc⟩ := h
 by_cases hne : ys = []
 ·subst hne
  refine ⟨[], ⟨by simp, by simp⟩, by simp, fun P w' => by simp [Builtin.lenOf], fun w' hw P => ?_⟩
  cases a <;> simp [Builtin.firstCells, loadCells, loadCellsFrom]
 ·obtain ⟨B, o, rfl, hc'⟩ := hc hne
  obtain ⟨vs, g1, g2, g3⟩ := RowVals.of_cells (G := G) (w := w) ok (F := Fz) (ys := ys) (B := B) (o := o) hc'
  refine ⟨vs, g1, g3, fun P w' => by simp [Builtin.lenOf], fun w' hw P => ?_⟩
  refine run_firstCells_some (P := P) w' _ ys.length ⟨B, o, none⟩ _ _ vs g1.length (fun q v hv => ?_)
  rw [Addr.add_lit, World.cell?_of_block (w := w) (by rw [hw])]
  exact g2 q v hv
theorem B570 {P : Program} {w : World} {t tx ty e : TypeId} {i : TypeInfo} {k k' : IntKind} (ht : P.underlying t = some (.slice e)) (hi : P.info? e = some i) (hsz : i.size = 1) (hb0 : 0 < i.bytes) (hz : i.zero = some (.int k 0))
  (hx : P.underlying tx = some (.int k')) {m : Int} (hm : 0 <= m) (hbytes : m.toNat * i.bytes <= 140737488355328) :
  ∃ l' w', (Builtin.append_ #[t, tx] ty #[.slice none 0 0, .int .i64 m]).run P w = .ok (.slice l'.a m.toNat l'.cap) w' ∧ RowBecomes w w' ⟨none, 0⟩ l' 1 m.toNat ((List.replicate m.toNat 0).map fun y => Value.int k y) := by
 have hle : m.toNat <= 140737488355328 := A80 (Nat.le_mul_of_pos_right _ hb0) hbytes
 have hwm : i64.wrap m = m := by rw [IntKind.wrap_i64]; omega
 have h0 : ¬ m < 0 := by omega
 have hmb : ¬ 281474976710656 < m * (i.bytes : Int) := by
  have : ((m.toNat * i.bytes : Nat) : Int) = m * (i.bytes : Int) := by
   rw [Int.natCast_mul, Int.toNat_of_nonneg hm]
  omega
 by_cases hm0 : m = 0
 ·subst hm0
  refine ⟨⟨none, 0⟩, w, ?_, ⟨⟨A11 _, by simp, .inl ⟨rfl, rfl⟩⟩, by simp, rfl, rfl, rfl, A11 _, fun _ _ _ => rfl, fun A h => .inl ⟨A, h, rfl⟩⟩⟩
  simp [Builtin.append_, run_underlying ht, run_underlying hx, sizeOf, typeInfo, hi, hsz, hwm, asInt, asIntOf]
 ·have h63 : ¬ (9223372036854775807 < ((m.toNat : Nat) : Int)) := by omega
  have hfit := growslice_fits (need := m.toNat) (old := 0) (bytes := i.bytes) (by omega) hbytes
  have h48 : ¬ (281474976710656 < Builtin.nextslicecap m.toNat 0 * i.bytes) := by omega
  have hmn : ¬ m.toNat = 0 := by omega
  have hmle : ¬ m <= 0 := by omega
  have hmax : ¬ (9223372036854775807 < max m 0) := by omega
  refine ⟨⟨some ⟨w.heap.size, 0, none⟩, grownCap w m.toNat 0 e⟩, w.drew.alloc (.cells (Builtin.zeroCells (Value.int k 0).cells m.toNat ++ Builtin.zeroCells (Value.int k 0).cells (grownCap w m.toNat 0 e - m.toNat)) e), ?_, ?_⟩
  ·have hb0' : i.bytes ≠ 0 := by omega
   simp [Builtin.append_, run_underlying ht, run_underlying hx, sizeOf, typeInfo, zeroValue, hi, hsz, hz, hwm, asInt, asIntOf, h0, hmb, hmn, hmle, hmax, h63, h48, hb0', Question.forced, newRow, grownCap, Builtin.firstCells]
  ·have hge := grownCap_ge w m.toNat 0 e
   have hcm := grownCap_le_maxLen w m.toNat 0 e (by simp only [maxLen]; omega)
   have hsize : (Builtin.zeroCells (Value.int k 0).cells m.toNat ++ Builtin.zeroCells (Value.int k 0).cells (grownCap w m.toNat 0 e - m.toNat)).size = grownCap w m.toNat 0 e := by
    simp only [Array.size_append, size_zeroCells]
    show m.toNat * 1 + (grownCap w m.toNat 0 e - m.toNat) * 1 = _
    omega
   refine ⟨⟨hge, by simp only [maxLen]; omega, .inr ⟨w.heap.size, 0, rfl, by simp, fun c hc => ?_⟩⟩, fun B o ha q v hv => ?_, rfl, rfl, rfl, by simp, fun B hB _ => heap_alloc_old w.drew _ B hB, fun A' hA' => .inr ?_⟩
   ·have e0 : w.drew.heap.size = w.heap.size := rfl
    rw [A22, ← e0, World.cell?_alloc_new, World.frozen?_alloc_new]
    exact ⟨⟨_, A74 (by rw [hsize]; have hc' : c < grownCap w m.toNat 0 e * 1 := hc; omega)⟩, rfl⟩
   ·simp only [A16, Addr.mk.injEq] at ha
    obtain ⟨rfl, rfl, _⟩ := ha
    have : w.drew.heap.size = w.heap.size := rfl
    rw [A22, ← this, World.cell?_alloc_new]
    rw [List.map_replicate, A126] at hv
    split at hv
    ·rename_i hq
     cases hv
     rw [A114 (by rw [size_zeroCells]; show q < m.toNat * 1; omega)]
     unfold Builtin.zeroCells
     rw [Array.getElem?_map, Array.getElem?_range, A3 (by show q < m.toNat * 1; omega)]
     show some ((#[Value.int k 0] : Array Value)[q % 1]!) = _
     rw [Nat.mod_one]; rfl
    ·cases hv
   ·simp only [A16] at hA'
    subst hA'; exact A11 _
theorem B660 (ok : PrgOk G) {t tx ty : TypeId} {s x : PV G.E.T} {K : PV G.E.T -> List (Blk G.E.T) -> Option R} (h : B163 G H t s x K = some r) (hH : HRep G.E w Fz ι H) (hF : Fram G.E X w Fz ι H)
  {vs vx : Value} (hs : PRep G.E w Fz ι H s vs) (hx : PRep G.E w Fz ι H x vx) {k' : IntKind} (htx : G.P.underlying tx = some (.int k')) :
  ∃ p H' v w' ι', K p H' = some r ∧ (Builtin.append_ #[t, tx] ty #[vs, vx]).run G.P w = .ok v w' ∧ Step G.E X w w' Fz Fz ι ι' H H' ∧ PRep G.E w' Fz ι' H' p v := by
 unfold B163 at h
 split at h
 ·cases h
 rename_i e he
 split at h
 ·rename_i b k hby hel
  obtain ⟨hu, _⟩ := B130 ok he hel
  obtain ⟨_, i, hi, hsz, hb0, hz⟩ := ok.int e k hel
  obtain ⟨i', hi', rfl⟩ := B159 hby
  rw [hi] at hi'; cases hi'
  split at h
  ·rename_i m
   simp only [PRep] at hs hx
   subst hs
   cases hx with | int hm =>
   split at h
   ·rename_i hc
    obtain ⟨l', w', hrun, hrb⟩ := B570 (P := G.P) (w := w) (t := t) (tx := tx) (ty := ty) hu hi hsz hb0 hz htx hc.1 hc.2
    have hrb' : RowBecomes w w' ⟨none, 0⟩ l' 1 (List.replicate m.toNat (0 : Int)).length ((List.replicate m.toNat 0).map fun y => Value.int k y) := by rw [A99]; exact hrb
    have hrun' : (Builtin.append_ #[t, tx] ty #[.slice none 0 0, .int .i64 m]).run G.P w = .ok (.slice l'.a (List.replicate m.toNat (0 : Int)).length l'.cap) w' := by rw [A99]; exact hrun
    exact ⟨_, _, _, w', _, h, hrun', Step.rowNew hH hF rfl hrb' (fun KK => hrb'.ints (fun y hy => by
     obtain ⟨_, rfl⟩ := List.mem_replicate.1 hy
     rw [B95]; cases k <;> simp) B14), B446 (b := .ints .own k 0 _) rfl⟩
   ·cases h
  ·cases h
 ·cases h
theorem B391 (ok : PrgOk G) {t tx ty : TypeId} {s x : PV G.E.T} {K : PV G.E.T -> List (Blk G.E.T) -> Option R} (h : B137 G H t s x K = some r) (hH : HRep G.E w Fz ι H) (hF : Fram G.E X w Fz ι H)
  {vs vx : Value} (hs : PRep G.E w Fz ι H s vs) (hx : PRep G.E w Fz ι H x vx) {dx : TypeDesc} (htx : G.P.underlying tx = some dx) (hdx : dx = .string ∨ ∃ e', dx = .slice e') :
  ∃ p H' v w' ι', K p H' = some r ∧ (Builtin.append_ #[t, tx] ty #[vs, vx]).run G.P w = .ok v w' ∧ Step G.E X w w' Fz Fz ι ι' H H' ∧ PRep G.E w' Fz ι' H' p v := by
 unfold B137 at h
 split at h
 ·cases h
 rename_i e he
 split at h
 ·rename_i b k hby hel
  obtain ⟨hu, _⟩ := B130 ok he hel
  obtain ⟨_, i, hi, hsz, hb0, hz⟩ := ok.int e k hel
  obtain ⟨i', hi', rfl⟩ := B159 hby
  rw [hi] at hi'; cases hi'
  split at h
  ·cases h
  rename_i ys hys
  obtain ⟨hk, hlen, hfirst⟩ := B675 hH hys hx
  split at h
  ·simp only [PRep] at hs
   subst hs
   split at h
   ·rename_i hbytes
    obtain ⟨l', w', hrun, hrb⟩ := B173 (P := G.P) (w := w) (t := t) (tx := tx) (ty := ty) hu hi hsz hb0 hz rfl htx hdx (hlen G.P) (fun w' hw => hfirst w' hw G.P) (by simp) (B722 ys)
     (l := ⟨none, 0⟩) (sLen := 0) ⟨A11 _, by simp, .inl ⟨rfl, rfl⟩⟩ (olds := []) (by simp) (by simp) (by simpa using hbytes)
    simp only [A22, A28] at hrun hrb
    exact ⟨_, _, _, w', _, h, hrun, Step.rowNew hH hF rfl hrb (fun KK => hrb.ints hk B14), B446 (b := .ints .own k 0 ys) rfl⟩
   ·cases h
  ·rename_i id ep
   simp only [PRep] at hs
   obtain ⟨b, hb, hs⟩ := hs
   split at h
   ·rename_i k' ep' xs hb'
    rw [hb] at hb'; cases hb'
    split at h
    ·rename_i hep hkk
     have := A39 hkk; subst this
     have := B7 hep; subst this
     split at h
     ·rename_i hbytes
      have hv := (hs.2 _ _ _ rfl).2 rfl
      subst hv
      have hr := hH.rep id _ hb
      simp only [BRep] at hr
      obtain ⟨l', w', hrun, hrb⟩ := B173 (P := G.P) (w := w) (t := t) (tx := tx) (ty := ty) hu hi hsz hb0 hz rfl htx hdx (hlen G.P) (fun w' hw => hfirst w' hw G.P) (by simp) (B722 ys)
       (l := ι id) (sLen := xs.length) hr.1 (olds := xs.map fun y => Value.int k y) (by simp) (fun B o ha q v hq => by
        rw [A45] at hq
        obtain ⟨y, hy, rfl⟩ := A93.1 hq
        exact hr.2.2 B o ha q y hy) hbytes
      rw [← A88, ← A13] at hrb
      rw [← A13] at hrun
      refine ⟨_, _, _, w', _, h, hrun, Step.rowUpd hH hF hb rfl rfl rfl (b' := .ints .own k (ep + 1) (xs ++ ys)) rfl rfl hrb (fun KK => hrb.ints (fun y hy => ?_) B14), B447 (b := .ints .own k (ep + 1) (xs ++ ys)) hb rfl⟩
      rcases A44.1 hy with hy | hy
      ·exact hr.2.1 y hy
      ·exact hk y hy
     ·cases h
    ·cases h
   ·cases h
  ·cases h
 ·rename_i b n hby hel
  obtain ⟨hu, _⟩ := B196 ok he hel
  obtain ⟨i, z, hi, hsz, hb0, hz, hzs, hpos, _⟩ := ok.row e n hel
  obtain ⟨i', hi', rfl⟩ := B159 hby
  rw [hi] at hi'; cases hi'
  split at h
  ·cases h
  rename_i ys l hys
  obtain ⟨vs', hvals, hones, hlen, hfirst⟩ := (B931 hH hys hx).cells ok.env
  split at h
  ·simp only [PRep] at hs
   subst hs
   split at h
   ·rename_i hbytes
    obtain ⟨l', w', hrun, hrb⟩ := B173 (P := G.P) (w := w) (t := t) (tx := tx) (ty := ty) hu hi hsz hb0 hz hzs htx hdx (hlen G.P) (fun w' hw => hfirst w' hw G.P) hvals.length hones
     (l := ⟨none, 0⟩) (sLen := 0) ⟨A11 _, by simp, .inl ⟨rfl, rfl⟩⟩ (olds := []) (by simp) (by simp) (by simpa using hbytes)
    simp only [A22, A28] at hrun hrb
    exact ⟨_, _, _, w', _, h, hrun, Step.rowNew hH hF rfl hrb (fun KK => hrb.rows (hvals.mono KK.fz KK.heap) B14), B446 (b := .rows .own n 0 ys) rfl⟩
   ·cases h
  ·rename_i id ep
   simp only [PRep] at hs
   obtain ⟨b, hb, hs⟩ := hs
   split at h
   ·rename_i j ep' xs hb'
    rw [hb] at hb'; cases hb'
    split at h
    ·rename_i hep
     have := B7 hep; subst this
     split at h
     ·rename_i hj
      subst hj
      split at h
      ·rename_i hbytes
       have hv := (hs.2 _ _ _ rfl).2 rfl
       subst hv
       have hr := hH.rep id _ hb
       simp only [BRep] at hr
       have hold : ∃ us, RowVals G.E w Fz j xs us ∧ ∀ B o, (ι id).a = some ⟨B, o, none⟩ -> ∀ (q : Nat) (v : Value), us[q]? = some v -> w.cell? ⟨B, o + q, none⟩ = some v := by
        by_cases hne : xs = []
        ·subst hne
         exact ⟨[], ⟨by simp, by simp⟩, by simp⟩
        ·obtain ⟨B, o, ha⟩ := hr.1.addr (A125.2 hne)
         obtain ⟨us, g1, g2, _⟩ := RowVals.of_cells (G := G) (w := w) ok.env (F := Fz) (ys := xs) (B := B) (o := o) (hr.2 B o ha)
         refine ⟨us, g1, fun B' o' ha' => ?_⟩
         rw [ha] at ha'; cases ha'
         exact g2
       obtain ⟨us, hus, husc⟩ := hold
       obtain ⟨l', w', hrun, hrb⟩ := B173 (P := G.P) (w := w) (t := t) (tx := tx) (ty := ty) hu hi hsz hb0 hz hzs htx hdx (hlen G.P) (fun w' hw => hfirst w' hw G.P) hvals.length hones
        (l := ι id) (sLen := xs.length) hr.1 (olds := us) hus.length husc hbytes
       rw [← A13] at hrb hrun
       exact ⟨_, _, _, w', _, h, hrun, Step.rowUpd hH hF hb rfl rfl rfl (b' := .rows .own j (ep + 1) (xs ++ ys)) rfl rfl hrb (fun KK => hrb.rows ((hus.append hvals).mono KK.fz KK.heap) B14), B447 (b := .rows .own j (ep + 1) (xs ++ ys)) hb rfl⟩
      ·cases h
     ·cases h
    ·cases h
   ·cases h
  ·cases h
 ·cases h
end
theorem B628 (off : Nat) : ∀ (l : List Value) (k : Nat) (cells : Array Value), off + k + l.length <= cells.size ->
  ((l.zipIdx k).foldl (fun (cs : Array Value) (x : Value × Nat) => cs.setIfInBounds (off + x.2) x.1) cells).toList = cells.toList.take (off + k) ++ l ++ cells.toList.drop (off + k + l.length)
 | [], k, cells, h => by simp
 | c :: l, k, cells, h => by
  simp only [List.zipIdx_cons, List.foldl_cons]
  rw [B628 off l (k + 1) _ (by simp at h ⊢; omega)]
  simp only [Array.toList_setIfInBounds, A21]
  have hlt : off + k < cells.toList.length := by simp at h ⊢; omega
  rw [List.take_set, List.drop_set_of_lt (by omega), show off + (k + 1) = off + k + 1 by omega, show off + k + 1 + l.length = off + k + (l.length + 1) by omega]
  congr 1
  have hmin : min (off + k) cells.size = off + k := Nat.min_eq_left (by simp at hlt; omega)
  rw [List.take_succ_eq_append_getElem hlt, List.set_append_right _ _ (by simp [hmin]), A27]
  simp [hmin]
theorem B625 {place : Nat -> Option (Nat × Nat)} {cells : Array Value} {i : Nat} {v : Value} {rest : List (Nat × Value)} {off size : Nat} (hp : place i = some (off, size)) (hv : v.cells.size = size) (hfit : off + size <= cells.size) :
  ∃ cells' : Array Value, cells'.toList = cells.toList.take off ++ v.cells.toList ++ cells.toList.drop (off + size) ∧ Instr.fill place cells ((i, v) :: rest) = Instr.fill place cells' rest := by
 refine ⟨v.cells.zipIdx.foldl (fun cs (c, j) => cs.setIfInBounds (off + j) c) cells, ?_, ?_⟩
 ·have h := B628 off v.cells.toList 0 cells (by simp; omega)
  rw [← Array.foldl_toList, Array.toList_zipIdx]
  simpa [hv] using h
 ·have h1 : ¬ (cells.size < off + v.cells.size) := by omega
  simp [Instr.fill, hp, hv]
  omega
section
variable {G : Prg} {w w' : World} {Fz : Nat -> Prop} {ι : Nat -> Loc} {H : List (Blk G.E.T)} {R : Type} {r : R} {X : Ctx}
def B105 (E : Env) (w : World) (Fz : Nat -> Prop) (ι : Nat -> Loc) (H : List (Blk E.T)) : List (Nat × PV E.T) -> List (Nat × Value) -> Prop
 | [], [] => True
 | (i, p) :: l, (j, v) :: m => i = j ∧ PRep E w Fz ι H p v ∧ B105 E w Fz ι H l m
 | _, _ => False
theorem B105.mono {E : Env} {w w' : World} {Fz Fz' : Nat -> Prop} {ι ι' : Nat -> Loc} {H H' : List (Blk E.T)} (K : Keep E w w' Fz Fz' ι ι' H H') : ∀ {ps : List (Nat × PV E.T)} {vs : List (Nat × Value)}, B105 E w Fz ι H ps vs -> B105 E w' Fz' ι' H' ps vs
 | [], [], _ => trivial
 | (_, _) :: _, (_, _) :: _, h => ⟨h.1, PRep.mono K h.2.1, B105.mono K h.2.2⟩
 | [], _ :: _, h => h
 | _ :: _, [], h => h
theorem PReps.take {E : Env} {w : World} {Fz : Nat -> Prop} {ι : Nat -> Loc} {H : List (Blk E.T)} : ∀ (n : Nat) {ps : List (PV E.T)} {vs : List Value}, PReps E w Fz ι H ps vs -> PReps E w Fz ι H (ps.take n) (vs.take n)
 | 0, _, _, _ => by simp [PReps]
 | n + 1, [], [], _ => by simp [PReps]
 | n + 1, _ :: _, _ :: _, h => by simp only [PReps] at h; simp only [List.take_succ_cons, PReps]; exact ⟨h.1, PReps.take n h.2⟩
 | _ + 1, [], _ :: _, h => by simp only [PReps] at h
 | _ + 1, _ :: _, [], h => by simp only [PReps] at h
theorem PReps.drop {E : Env} {w : World} {Fz : Nat -> Prop} {ι : Nat -> Loc} {H : List (Blk E.T)} : ∀ (n : Nat) {ps : List (PV E.T)} {vs : List Value}, PReps E w Fz ι H ps vs -> PReps E w Fz ι H (ps.drop n) (vs.drop n)
 | 0, _, _, h => h
 | n + 1, [], [], _ => by simp [PReps]
 | n + 1, _ :: _, _ :: _, h => by simp only [PReps] at h; exact PReps.drop n h.2
 | _ + 1, [], _ :: _, h => by simp only [PReps] at h
 | _ + 1, _ :: _, [], h => by simp only [PReps] at h
theorem B310 {place : Nat -> Option (Nat × Nat)} : ∀ {parts : List (Nat × PV G.E.T)} {vals : List (Nat × Value)} {cells cells' : List (PV G.E.T)} {cs : Array Value}, fillV place cells parts = some cells' ->
  B105 G.E w Fz ι H parts vals -> PReps G.E w Fz ι H cells cs.toList -> (∀ p ∈ cells, p.one = true) ->
  ∃ cs' : Array Value, Instr.fill place cs vals = some cs' ∧ PReps G.E w Fz ι H cells' cs'.toList ∧ ∀ p ∈ cells', p.one = true
 | [], [], cells, cells', cs, h, _, hc, h1 => by
  simp [fillV] at h; subst h
  exact ⟨cs, rfl, hc, h1⟩
 | (i, p) :: parts, (j, v) :: vals, cells, cells', cs, h, hp, hc, h1 => by
  obtain ⟨rfl, hpv, hrest⟩ := hp
  simp only [fillV] at h
  split at h
  ·cases h
  rename_i off size hpl
  split at h
  ·rename_i hsz
   split at h
   ·rename_i cells1 hone hr
    obtain ⟨g1, rfl⟩ := B223 _ _ _ _ hr
    have hcr := B233 hpv hone
    have hsz' := B7 hsz
    have hvs : v.cells.size = size := by rw [← hsz', hcr.length, A32]
    have hl : cells.length = cs.size := by rw [hc.length, A32]
    have hcl : (B21 p).length = size := hsz'
    obtain ⟨cs1, q1, q2⟩ := B625 (place := place) (cells := cs) (i := i) (v := v) (rest := vals) hpl hvs (by rw [← hl, ← hcl]; omega)
    rw [q2]
    refine B310 h hrest ?_ (fun p hp => ?_)
    ·rw [q1, hsz']
     exact ((hc.take off).append hcr).append (hc.drop (off + size))
    ·simp only [A44] at hp
     rcases hp with (hp | hp) | hp
     ·exact h1 p (A81 hp)
     ·exact B161.1 hone p hp
     ·exact h1 p (A97 hp)
   ·cases h
  ·cases h
 | [], _ :: _, _, _, _, _, hp, _, _ => hp.elim
 | _ :: _, [], _, _, _, _, hp, _, _ => hp.elim
theorem B562 : ∀ {l : List Field} {r : List (Nat × Nat)}, B352 G l = some r -> l.mapM (fun f => (G.P.info? f.type).map fun i => (f.offset, i.size)) = some r
 | [], r, h => by simp [B352] at h; subst h; rfl
 | f :: l, r, h => by
  simp only [B352] at h
  split at h
  ·rename_i n q hn hq
   cases h
   obtain ⟨i, hi, rfl⟩ := B229 hn
   simp [hi, B562 hq]
  ·cases h
theorem B692 {t : TypeId} {parts : List (Nat × PV G.E.T)} {K : PV G.E.T -> Option R} (h : B332 G t parts K = some r) {vals : Array (Nat × Value)} (hp : B105 G.E w Fz ι H parts vals.toList) :
  ∃ p v, K p = some r ∧ (Instr.build t vals).run G.P w = .ok v w ∧ PRep G.E w Fz ι H p v := by
 unfold B332 at h
 split at h
 ·cases h
 rename_i z hz
 obtain ⟨zv, _, hzr, h1, it, hit, hiz⟩ := B189 (w := w) (Fz := Fz) (ι := ι) (H := H) hz
 split at h
 ·rename_i fields hu
  split at h
  ·rename_i places hpl
   split at h
   ·rename_i cells hf
    obtain ⟨cs, g1, g2, g3⟩ := B310 hf hp hzr h1
    refine ⟨_, .agg cs, h, run_build w t vals cs ?_, ?_⟩
    ·unfold Program.built
     simp only [hit, hu, hiz, B562 hpl]
     rw [← g1]
     congr 1
     funext i
     rw [B24]; simp
    ·simp only [PRep]
     exact ⟨cs, rfl, g3, g2⟩
   ·cases h
  ·cases h
 ·rename_i n e hu
  split at h
  ·rename_i sz hsz
   obtain ⟨ie, hie, rfl⟩ := B229 hsz
   split at h
   ·rename_i cells hf
    obtain ⟨cs, g1, g2, g3⟩ := B310 hf hp hzr h1
    refine ⟨_, .agg cs, h, run_build w t vals cs ?_, ?_⟩
    ·unfold Program.built
     simp only [hit, hu, hiz, hie]
     exact g1
    ·simp only [PRep]
     exact ⟨cs, rfl, g3, g2⟩
   ·cases h
  ·cases h
 ·cases h
theorem B705 {sz : Nat} : ∀ (vals : List (Nat × Value)) (k : Nat) (cells : Array Value), (∀ (q : Nat) (x : Nat × Value), vals[q]? = some x -> x.1 = k + q ∧ x.2.cells.size = sz) -> (k + vals.length) * sz <= cells.size ->
  ∃ cells', Instr.fill (fun i => some (i * sz, sz)) cells vals = some cells' ∧ cells'.toList = cells.toList.take (k * sz) ++ (vals.map fun x => x.2.cells.toList).flatten ++ cells.toList.drop ((k + vals.length) * sz)
 | [], k, cells, _, _ => ⟨cells, rfl, by simp⟩
 | (i, v) :: vals, k, cells, h, hfit => by
  obtain ⟨h1, h2⟩ := h 0 _ rfl
  simp only [A36] at h1 h2
  subst h1
  simp only [A21] at hfit
  have he : (i + (vals.length + 1)) * sz = i * sz + sz + vals.length * sz := by rw [A55, A55]; omega
  obtain ⟨c1, q1, q2⟩ := B625 (place := fun i => some (i * sz, sz)) (cells := cells) (i := i) (v := v) (rest := vals) rfl h2 (by omega)
  have hlen : c1.size = cells.size := by
   rw [← A32, q1, ← A32]
   simp only [A13, A24, A77, A32, h2]
   omega
  obtain ⟨c2, p1, p2⟩ := B705 vals (i + 1) c1 (fun q x hx => by
   have := h (q + 1) x (by simpa using hx)
   exact ⟨by omega, this.2⟩) (by rw [hlen]; rw [show i + 1 + vals.length = i + (vals.length + 1) by omega]; exact hfit)
  refine ⟨c2, by rw [q2]; exact p1, ?_⟩
  rw [p2, q1]
  have e1 : (i + 1) * sz = i * sz + sz := by rw [A55]; omega
  have hl1 : (cells.toList.take (i * sz)).length = i * sz := by rw [A24, A32]; omega
  have hl2 : (cells.toList.take (i * sz) ++ v.cells.toList).length = i * sz + sz := by rw [A13, hl1, A32, h2]
  rw [e1, List.take_append_of_le_length (by rw [hl2]; exact A11 _), A127 (by rw [hl2]; exact A11 _)]
  have e2 : (i + 1 + vals.length) * sz = i * sz + sz + vals.length * sz := by rw [A55, e1]
  have e3 : (i + (vals.length + 1)) * sz = i * sz + sz + vals.length * sz := he
  rw [e2, List.drop_append, hl2, List.drop_of_length_le (by rw [hl2]; omega), A28, A115, show i * sz + sz + vals.length * sz - (i * sz + sz) = vals.length * sz by omega]
  simp only [A53, List.flatten_cons, A27, A21, e3]
end
section
variable {G : Prg} {w w' : World} {Fz : Nat -> Prop} {ι : Nat -> Loc} {H : List (Blk G.E.T)} {R : Type} {r : R} {X : Ctx}
theorem B131 {arr : Array Value} {e : TypeId} {sz len cap : Nat} {cs : List Value} (hsz : arr.size = cap * sz) (hle : len <= cap) (hmax : len <= maxLen) (hcs : ∀ (q : Nat) (v : Value), cs[q]? = some v -> arr[q]? = some v) :
  RowBecomes w (w.alloc (.cells arr e)) ⟨none, 0⟩ ⟨some ⟨w.heap.size, 0, none⟩, cap⟩ sz len cs := by
 refine ⟨⟨hle, hmax, .inr ⟨w.heap.size, 0, rfl, by simp, fun c hc => ?_⟩⟩, fun B o ha q v hv => ?_, rfl, rfl, rfl, by simp, fun B hB _ => B295 _ B hB, fun A' hA' => .inr ?_⟩
 ·rw [A22, World.cell?_alloc_new, World.frozen?_alloc_new]
  exact ⟨⟨_, A74 (by rw [hsz]; exact hc)⟩, rfl⟩
 ·simp only [A16, Addr.mk.injEq] at ha
  obtain ⟨rfl, rfl, _⟩ := ha
  rw [A22, World.cell?_alloc_new]
  exact hcs q v hv
 ·simp only [A16] at hA'
  subst hA'; exact A11 _
theorem B356 {t e : TypeId} {i : TypeInfo} {z : Value} {sz : Nat} (ht : G.P.underlying t = some (.slice e)) (hi : G.P.info? e = some i) (hsz : i.size = sz) (hz : i.zero = some z) {n : Nat} (hn : n * sz <= 16777216)
  {vals : Array (Nat × Value)} (hlen : vals.size = n) (hv : ∀ (q : Nat) (x : Nat × Value), vals.toList[q]? = some x -> x.1 = q ∧ x.2.cells.size = sz) :
  ∃ arr : Array Value, (Instr.buildSlice t n vals).run G.P w = .ok (.slice (some ⟨w.heap.size, 0, none⟩) n n) (w.alloc (.cells arr e)) ∧ arr.toList = (vals.toList.map fun x => x.2.cells.toList).flatten ∧ arr.size = n * sz := by
 subst hsz
 have hbig : ¬ (16777216 < n * i.size) := by omega
 have key : ∀ zc : Array Value, ∃ arr, Instr.fill (fun j => some (j * i.size, i.size)) ((Array.range (n * i.size)).map fun q => zc[q % zc.size]!) vals.toList = some arr ∧ arr.toList = (vals.toList.map fun x => x.2.cells.toList).flatten := fun zc => by
  obtain ⟨arr, h1, h2⟩ := B705 vals.toList 0 ((Array.range (n * i.size)).map fun q => zc[q % zc.size]!) (sz := i.size) (fun q x hx => by
   obtain ⟨h1, h2⟩ := hv q x hx
   exact ⟨by omega, h2⟩) (by simp [hlen])
  refine ⟨arr, h1, ?_⟩
  rw [h2, Nat.zero_mul, A116, A28, A22, List.drop_of_length_le (by simp [hlen]), A38]
 have hfl : (vals.toList.map fun x => x.2.cells.toList).flatten.length = n * i.size := by
  rw [B311 (sz := i.size) _ (fun p hp => by
   obtain ⟨x, hx, rfl⟩ := A60.1 hp
   obtain ⟨q, hq⟩ := A76 hx
   simp [(hv q x hq).2])]
  simp [hlen]
 by_cases h0 : n * i.size = 0
 ·obtain ⟨arr, h1, h2⟩ := key #[]
  refine ⟨arr, ?_, h2, by rw [← A32, h2, hfl]⟩
  simp only [Instr.buildSlice, Sem.run_bind, run_underlying ht, Result.andThen_ok, sizeOf, typeInfo, run_program, hi, Sem.run_pure]
  simp [hbig, h0]
  simp [h0] at h1
  simp [h1, newRow]
 ·obtain ⟨arr, h1, h2⟩ := key z.cells
  refine ⟨arr, ?_, h2, by rw [← A32, h2, hfl]⟩
  simp only [Instr.buildSlice, Sem.run_bind, run_underlying ht, Result.andThen_ok, sizeOf, typeInfo, run_program, hi, Sem.run_pure]
  simp [hbig, h0, zeroValue, typeInfo, hi, hz, h1, newRow]
theorem B348 {k : IntKind} : ∀ {n : Nat} {parts : List (Nat × PV G.E.T)} {xs : List Int} {vals : List (Nat × Value)}, B287 k n parts = some xs -> B105 G.E w Fz ι H parts vals ->
  xs.length = vals.length ∧ (∀ x ∈ xs, k.has x) ∧ ∀ (q : Nat) (y : Nat × Value), vals[q]? = some y -> y.1 = n + q ∧ ∃ x, xs[q]? = some x ∧ y.2 = .int k x
 | n, [], xs, [], h, _ => by simp [B287] at h; subst h; simp
 | n, (i, p) :: parts, xs, (j, v) :: vals, h, hp => by
  obtain ⟨rfl, hpv, hrest⟩ := hp
  cases p <;> simp only [B287] at h <;> try (cases h; done)
  rename_i k' x
  split at h
  ·rename_i hi hk
   have := B7 hi; subst this
   have := A39 hk; subst this
   split at h
   ·rename_i r hr
    cases h
    obtain ⟨h1, h2, h3⟩ := B348 hr hrest
    simp only [PRep] at hpv
    cases hpv with | int hx =>
    refine ⟨by simp [h1], fun y hy => ?_, fun q y hy => ?_⟩
    ·rcases A19.1 hy with rfl | hy
     ·exact hx
     ·exact h2 y hy
    ·cases q with
     | zero => simp at hy; subst hy; exact ⟨rfl, x, rfl, rfl⟩
     | succ q =>
      simp at hy
      obtain ⟨g1, z, g2, g3⟩ := h3 q y hy
      exact ⟨by omega, z, by simpa using g2, g3⟩
   ·cases h
  ·cases h
 | _, [], _, _ :: _, _, hp => hp.elim
 | _, _ :: _, _, [], _, hp => hp.elim
theorem Colds.rowVals (ok : EnvOk G.E) {i : Nat} {cells : List (PV G.E.T)} {vs : List Value} {x : G.E.T i} (hx : G.E.inn i cells = some x) (h : Colds G.E w Fz cells vs) : RowVals G.E w Fz i [x] vs := by
 obtain ⟨h1, h2⟩ := ok.inn i cells x hx
 have hl : vs.length = G.E.sz i := by rw [← h.length, ← h1, ok.sz]
 refine ⟨by simp [hl], fun j y c p hj hp => ?_⟩
 cases j with
 | succ j => simp at hj
 | zero =>
  simp at hj; subst hj
  have hlt : c < cells.length := by rw [← h1]; exact (A42.1 hp).1
  obtain ⟨v, hv, hc⟩ := h.get (A18 hlt)
  exact ⟨v, by simpa using hv, h2 w Fz c _ p v (A18 hlt) hp hc⟩
theorem B395 {T : Nat -> Type} : ∀ {l q : List (PV T)} {H H' : List (Blk T)}, B54 H l = some (q, H') -> B78 l = true
 | [], _, _, _, _ => rfl
 | p :: l, q, H, H', h => by
  simp only [B54] at h
  split at h
  ·rename_i v H1 hp
   split at h
   ·rename_i l' H2 hl
    have h1 : p.one = true := by cases p <;> first | rfl | simp [B167] at hp
    simp only [B78, h1]
    exact B395 hl
   ·cases h
  ·cases h
theorem B350 (ok : EnvOk G.E) {i : Nat} : ∀ {n : Nat} {H H' : List (Blk G.E.T)} {Fz : Nat -> Prop} {parts : List (Nat × PV G.E.T)} {xs : List (G.E.T i)} {vals : List (Nat × Value)}, HRep G.E w Fz ι H -> Fram G.E X w Fz ι H ->
  B84 G i n H parts = some (xs, H') -> B105 G.E w Fz ι H parts vals ->
  ∃ Fz', Step G.E X w w Fz Fz' ι ι H H' ∧ xs.length = vals.length ∧ RowVals G.E w Fz' i xs (vals.map fun y => y.2.cells.toList).flatten ∧ ∀ (q : Nat) (y : Nat × Value), vals[q]? = some y -> y.1 = n + q ∧ y.2.cells.size = G.E.sz i
 | n, H, H', Fz, [], xs, [], hH, hF, h, _ => by
  simp [B84] at h
  obtain ⟨rfl, rfl⟩ := h
  exact ⟨Fz, .refl hH hF, rfl, ⟨by simp, by simp⟩, by simp⟩
 | n, H, H', Fz, (j, p) :: parts, xs, (j', v) :: vals, hH, hF, h, hp => by
  obtain ⟨rfl, hpv, hrest⟩ := hp
  simp only [B84] at h
  split at h
  ·rename_i hj
   have := B7 hj; subst this
   split at h
   ·rename_i cells H1 hfz
    split at h
    ·rename_i x hx
     split at h
     ·rename_i r H2 hr
      cases h
      have hcr := B233 hpv (B395 hfz)
      obtain ⟨F1, s1, c1⟩ := B168 hH hF hfz hcr
      obtain ⟨F2, s2, g1, g2, g3⟩ := B350 ok s1.heap s1.fram hr (hrest.mono s1.keep)
      have hv1 := (c1.rowVals ok hx).mono s2.keep.fz s2.keep.heap
      have hl : v.cells.size = G.E.sz i := by have := hv1.length; simpa using this
      refine ⟨F2, s1.trans s2, by simp [g1], by simpa using hv1.append g2, fun q y hy => ?_⟩
      cases q with
      | zero => simp at hy; subst hy; exact ⟨rfl, hl⟩
      | succ q =>
       simp at hy
       obtain ⟨k1, k2⟩ := g3 q y hy
       exact ⟨by omega, k2⟩
     ·cases h
    ·cases h
   ·cases h
  ·cases h
 | _, _, _, _, [], _, _ :: _, _, _, _, hp => hp.elim
 | _, _, _, _, _ :: _, _, [], _, _, _, hp => hp.elim
theorem B463 (ok : PrgOk G) {pl : Option Nat} {t : TypeId} {n : Nat} {parts : List (Nat × PV G.E.T)} {K : PV G.E.T -> List (Blk G.E.T) -> Option R} (h : B73 G pl H t n parts K = some r) (hH : HRep G.E w Fz ι H) (hF : Fram G.E X w Fz ι H)
  {vals : Array (Nat × Value)} (hp : B105 G.E w Fz ι H parts vals.toList) (hlen : parts.length = vals.size) :
  ∃ p H' v w' Fz' ι', K p H' = some r ∧ (Instr.buildSlice t n vals).run G.P w = .ok v w' ∧ Step G.E X w w' Fz Fz' ι ι' H H' ∧ PRep G.E w' Fz' ι' H' p v := by
 unfold B73 at h
 split at h
 ·rename_i e he hn
  have hn := B7 hn
  split at h
  ·rename_i k hel
   obtain ⟨hu, _⟩ := B130 ok he hel
   obtain ⟨_, i, hi, hsz, hb0, hz⟩ := ok.int e k hel
   split at h
   ·rename_i xs hbig hxs
    split at h
    rotate_left
    ·cases h
    rename_i hpl
    obtain ⟨g1, g2, g3⟩ := B348 hxs hp
    have hvn : vals.size = n := by omega
    have hln : xs.length = n := by rw [g1, A32]; exact hvn
    obtain ⟨arr, hrun, ha, has⟩ := B356 (w := w) hu hi hsz hz (n := n) (by have := A86 hbig; omega) hvn (fun q x hx => by
     obtain ⟨q1, y, _, q3⟩ := g3 q x hx
     exact ⟨by omega, by rw [q3]; rfl⟩)
    have hflat : arr.toList = xs.map fun y => Value.int k y := by
     rw [ha]
     apply A98
     intro q
     have hf := fun (x : Nat × Value) (hx : vals.toList[q]? = some x) => B707 (sz := 1) (vals.toList.map fun x => x.2.cells.toList) (fun p hp => by
      obtain ⟨x, hx, rfl⟩ := A60.1 hp
      obtain ⟨q, hq⟩ := A76 hx
      obtain ⟨_, y, _, q3⟩ := g3 q x hq
      rw [q3]; rfl) q 0 x.2.cells.toList (by rw [A45, hx]; rfl) (by omega)
     by_cases hq : q < vals.size
     ·have hx : vals.toList[q]? = some vals.toList[q] := A18 (by simpa using hq)
      have := hf _ hx
      rw [A102, A36] at this
      rw [this]
      obtain ⟨_, y, q2, q3⟩ := g3 q _ hx
      rw [q3, A45, q2]; rfl
     ·rw [A65, A65]
      ·simp; omega
      ·rw [B311 (sz := 1) _ (fun p hp => by
        obtain ⟨x, hx, rfl⟩ := A60.1 hp
        obtain ⟨q, hq⟩ := A76 hx
        obtain ⟨_, y, _, q3⟩ := g3 q x hq
        rw [q3]; rfl)]
       simp; omega
    have hrb := B131 (w := w) (arr := arr) (e := e) (sz := 1) (len := xs.length) (cap := n) (cs := xs.map fun y => Value.int k y) has (by omega) (by have := A86 hbig; simp only [maxLen]; omega) (fun q v hv => by
     rw [← hflat] at hv
     simpa using hv)
    refine ⟨_, _, _, _, Fz, _, h, hrun, Step.rowAt hpl hH hF ⟨_, _, rfl⟩ rfl hrb (fun KK => hrb.ints g2 B14), ?_⟩
    have := B527 (G := G) (w' := w.alloc (.cells arr e)) (Fz := Fz) (ι := ι) hpl (b := .ints .own k (plEp pl) xs) (l := ⟨some ⟨w.heap.size, 0, none⟩, n⟩) rfl
    rwa [hln] at this
   ·cases h
  ·rename_i m hel
   obtain ⟨hu, _⟩ := B196 ok he hel
   obtain ⟨i, z, hi, hsz, hb0, hz, hzs, hpos, _⟩ := ok.row e m hel
   split at h
   ·rename_i xs H1 hbig hxs
    split at h
    rotate_left
    ·cases h
    rename_i hpl
    obtain ⟨F1, s1, g1, g2, g3⟩ := B350 ok.env hH hF hxs hp
    have hvn : vals.size = n := by omega
    have hln : xs.length = n := by rw [g1, A32]; exact hvn
    have hbig := A86 hbig
    obtain ⟨arr, hrun, ha, has⟩ := B356 (w := w) hu hi hsz hz (n := n) hbig hvn (fun q x hx => by
     obtain ⟨q1, q2⟩ := g3 q x hx
     exact ⟨by omega, q2⟩)
    have hle : n <= n * G.E.sz m := Nat.le_mul_of_pos_right _ hpos
    have hrb := B131 (w := w) (arr := arr) (e := e) (sz := G.E.sz m) (len := xs.length) (cap := n) (cs := (vals.toList.map fun y => y.2.cells.toList).flatten) has (by omega) (by simp only [maxLen]; omega) (fun q v hv => by
     rw [← ha] at hv
     simpa using hv)
    have s2 := Step.rowAt (X := X) (ι := ι) (Fz := F1) hpl s1.heap s1.fram (b' := .rows .own m (plEp pl) xs) ⟨_, _, rfl⟩ rfl hrb (fun KK => hrb.rows (g2.mono KK.fz KK.heap) B14)
    refine ⟨_, _, _, _, F1, _, h, hrun, s1.trans s2, ?_⟩
    have := B527 (G := G) (w' := w.alloc (.cells arr e)) (Fz := F1) (ι := ι) hpl (b := .rows .own m (plEp pl) xs) (l := ⟨some ⟨w.heap.size, 0, none⟩, n⟩) rfl
    rwa [hln] at this
   ·cases h
  ·cases h
 ·cases h
theorem PRep.toCold {p : PV G.E.T} {v : Value} (h : PRep G.E w Fz ι H p v) (hc : p.cold = true) : Cold G.E w Fz p v := by
 cases p <;> simp only [PV.cold, A5] at hc <;> simp only [PRep] at h
 case nilsl => exact .inr ⟨rfl, h⟩
 all_goals exact .inl h
theorem B515 (ok : PrgOk G) {pl : Option Nat} {t : TypeId} {l c : PV G.E.T} {K : PV G.E.T -> List (Blk G.E.T) -> Option R} (h : B69 G pl H t l c K = some r) (hH : HRep G.E w Fz ι H) (hF : Fram G.E X w Fz ι H)
  {vl vc : Value} (hl : PRep G.E w Fz ι H l vl) (hc : PRep G.E w Fz ι H c vc) :
  ∃ p H' v w' ι', K p H' = some r ∧ (Instr.makeSlice t vl vc).run G.P w = .ok v w' ∧ Step G.E X w w' Fz Fz ι ι' H H' ∧ PRep G.E w' Fz ι' H' p v := by
 unfold B69 at h
 split at h
 ·rename_i e l c he hpl
  simp only [PRep] at hl hc
  cases hl with | int hl' =>
  cases hc with | int hc' =>
  split at h
  ·rename_i b k hby hel
   obtain ⟨hu, _⟩ := B130 ok he hel
   obtain ⟨_, i, hi, hsz, hb0, hz⟩ := ok.int e k hel
   obtain ⟨i', hi', rfl⟩ := B159 hby
   rw [hi] at hi'; cases hi'
   split at h
   ·rename_i hcond
    obtain ⟨h0, h1, h2⟩ := hcond
    have hcb : c <= 281474976710656 := by
     have : c * 1 <= (i.bytes : Int) * c := by rw [Int.mul_comm]; exact A134 (by omega) (by omega)
     omega
    have hrun := run_make (P := G.P) w t e i _ hu hi hz .i64 .i64 l c h0 h1 h2 (by omega)
    have hlen : (List.replicate l.toNat (0 : Int)).length = l.toNat := by simp
    have hrb := B131 (w := w) (arr := madeCells #[.int k 0] (c.toNat * i.size)) (e := e) (sz := 1) (len := (List.replicate l.toNat (0 : Int)).length) (cap := c.toNat) (cs := (List.replicate l.toNat (0 : Int)).map fun y => Value.int k y)
     (by rw [size_madeCells, hsz]) (by rw [hlen]; omega) (by rw [hlen]; simp only [maxLen]; omega) (fun q v hv => by
      rw [A45] at hv
      obtain ⟨y, hy, rfl⟩ := A93.1 hv
      rw [A126] at hy
      split at hy
      ·cases hy
       rename_i hq
       simp [madeCells, hsz, Nat.mod_one, Array.getElem?_range]
       omega
      ·cases hy)
    refine ⟨_, _, _, _, _, h, hrun, Step.rowAt hpl hH hF ⟨_, _, rfl⟩ rfl hrb (fun KK => hrb.ints (fun y hy => ?_) B14), ?_⟩
    ·rw [List.mem_replicate] at hy
     rw [hy.2, B95]; cases k <;> simp
    ·have := B527 (G := G) (w' := w.alloc (.cells (madeCells #[.int k 0] (c.toNat * i.size)) e)) (Fz := Fz) (ι := ι) hpl (b := .ints .own k (plEp pl) (List.replicate l.toNat 0)) (l := ⟨some ⟨w.heap.size, 0, none⟩, c.toNat⟩) rfl
     rwa [hlen] at this
   ·cases h
  ·rename_i b n hby hel
   obtain ⟨hu, _⟩ := B196 ok he hel
   obtain ⟨i, z, hi, hsz, hb0, hz, hzs, hpos, _⟩ := ok.row e n hel
   obtain ⟨i', hi', rfl⟩ := B159 hby
   rw [hi] at hi'; cases hi'
   split at h
   ·rename_i zc hzc
    split at h
    ·rename_i x hx
     split at h
     ·rename_i hcond
      obtain ⟨h0, h1, h2⟩ := hcond
      have hcb : c <= 281474976710656 := by
       have : c * 1 <= (i.bytes : Int) * c := by rw [Int.mul_comm]; exact A134 (by omega) (by omega)
       omega
      have hrun := run_make (P := G.P) w t e i _ hu hi hz .i64 .i64 l c h0 h1 h2 (by omega)
      obtain ⟨z', _, hzr, _, i', hi', hz'⟩ := B189 (w := w) (Fz := Fz) (ι := ι) (H := H) hzc
      rw [hi] at hi'; cases hi'
      rw [hz] at hz'; cases hz'
      obtain ⟨e1, e2⟩ := ok.env.inn n zc x hx
      have hcold := ok.env.cold n zc x hx
      have hlen : (List.replicate l.toNat x).length = l.toNat := by simp
      have hmade : ∀ q, q < c.toNat * i.size -> (madeCells z.cells (c.toNat * i.size))[q]? = some (z.cells[q % z.cells.size]!) := fun q hq => by simp [madeCells, hq]
      have hvals : RowVals G.E w Fz n (List.replicate l.toNat x) ((List.range (l.toNat * G.E.sz n)).map fun q => z.cells[q % G.E.sz n]!) := by
       refine ⟨by simp, fun j y p q hj hq => ?_⟩
       rw [A126] at hj
       split at hj
       ·rename_i hjl
        cases hj
        have hpl : p < G.E.sz n := by have := (A42.1 hq).1; rwa [ok.env.sz] at this
        have hfit : (j + 1) * G.E.sz n <= l.toNat * G.E.sz n := A103 _ hjl
        rw [A55] at hfit
        have hzcl : p < zc.length := by rw [← e1, ok.env.sz]; exact hpl
        obtain ⟨v, hv, hpv⟩ := hzr.get (A18 hzcl)
        refine ⟨v, ?_, e2 w Fz p _ q v (A18 hzcl) hq (hpv.toCold (hcold _ (A92 hzcl)))⟩
        rw [A45, A82 (by omega), A37, show (j * G.E.sz n + p) % G.E.sz n = p from by rw [Nat.mul_comm, Nat.mul_add_mod]; exact A89 hpl]
        have : z.cells[p]? = some v := by simpa using hv
        simp [getElem!_def, this]
       ·cases hj
      have hfit : l.toNat * G.E.sz n <= c.toNat * G.E.sz n := A103 _ (by omega)
      have hrb := B131 (w := w) (arr := madeCells z.cells (c.toNat * i.size)) (e := e) (sz := G.E.sz n) (len := (List.replicate l.toNat x).length) (cap := c.toNat) (cs := (List.range (l.toNat * G.E.sz n)).map fun q => z.cells[q % G.E.sz n]!)
       (by rw [size_madeCells, hsz]) (by rw [hlen]; omega) (by rw [hlen]; simp only [maxLen]; omega) (fun q v hv => by
        rw [A45] at hv
        obtain ⟨y, hy, rfl⟩ := A93.1 hv
        have hlt := (A42.1 hy).1
        rw [A50] at hlt
        rw [A82 hlt] at hy
        cases hy
        rw [hmade q (by rw [hsz]; omega), hzs])
      refine ⟨_, _, _, _, _, h, hrun, Step.rowAt hpl hH hF ⟨_, _, rfl⟩ rfl hrb (fun KK => hrb.rows (hvals.mono KK.fz KK.heap) B14), ?_⟩
      have := B527 (G := G) (w' := w.alloc (.cells (madeCells z.cells (c.toNat * i.size)) e)) (Fz := Fz) (ι := ι) hpl (b := .rows .own n (plEp pl) (List.replicate l.toNat x)) (l := ⟨some ⟨w.heap.size, 0, none⟩, c.toNat⟩) rfl
      rwa [hlen] at this
     ·cases h
    ·cases h
   ·cases h
  ·cases h
 ·cases h
end
section
variable {G : Prg} {X : Ctx} {w : World} {Fz : Nat -> Prop} {ι : Nat -> Loc} {H : List (Blk G.E.T)} {R : Type} {r : R}
theorem B1098 {d : TypeDesc} {k : IntKind} (h : kkOf d = some (.int k)) : d = .int k := by cases d <;> simp_all [kkOf]
def KK.desc : KK -> TypeDesc
 | .int k => .int k
 | .str => .string
theorem B910 {d : TypeDesc} {k : KK} (h : kkOf d = some k) : d = k.desc := by
 cases d <;> simp [kkOf] at h <;> subst h <;> rfl
theorem B596 {pl : Option Nat} {t : TypeId} {K : PV G.E.T -> List (Blk G.E.T) -> Option R} (h : B97 G pl H t K = some r) (hH : HRep G.E w Fz ι H) (hF : Fram G.E X w Fz ι H) :
  ∃ p H' v w' ι', K p H' = some r ∧ (Instr.makeMap t none).run G.P w = .ok v w' ∧ Step G.E X w w' Fz Fz ι ι' H H' ∧ PRep G.E w' Fz ι' H' p v := by
 unfold B97 at h
 split at h
 ·split at h
  ·rename_i d _ hpl
   split at h
   ·rename_i k _ hk
    refine ⟨_, _, .map (some w.heap.size), w.alloc (.map #[] 0), updι ι (plId pl H) ⟨some ⟨w.heap.size, 0, none⟩, 0⟩, h, by simp [Instr.makeMap], ?_, ?_⟩
    ·refine Step.at_ hpl hH hF _ _ (.inl rfl) rfl rfl rfl (by simp) (B295 _) (fun A' hA' => by simp at hA'; subst hA'; simp) rfl fun KK => ?_
     simp only [BRep]
     exact ⟨w.heap.size, by rw [B14], #[], 0, by show (w.heap.push _)[w.heap.size]? = _; simp, by simp⟩
    ·simp only [PRep]
     exact ⟨_, B170 hpl, rfl, w.heap.size, by rw [B14], rfl⟩
   ·rename_i i k _ hk
    refine ⟨_, _, .map (some w.heap.size), w.alloc (.map #[] 0), updι ι (plId pl H) ⟨some ⟨w.heap.size, 0, none⟩, 0⟩, h, by simp [Instr.makeMap], ?_, ?_⟩
    ·refine Step.at_ hpl hH hF _ _ (.inl rfl) rfl rfl rfl (by simp) (B295 _) (fun A' hA' => by simp at hA'; subst hA'; simp) rfl fun KK => ?_
     simp only [BRep]
     exact ⟨w.heap.size, by rw [B14], #[], 0, by show (w.heap.push _)[w.heap.size]? = _; simp, trivial⟩
    ·simp only [PRep]
     exact ⟨_, B170 hpl, rfl, w.heap.size, by rw [B14], rfl⟩
   ·cases h
  ·cases h
 ·cases h
theorem B60.of_get {E : Env} {w : World} {Fz : Nat -> Prop} : ∀ {ps : List (PV E.T)} {vs : List Value}, ps.length = vs.length -> (∀ (c : Nat) (p : PV E.T) (v : Value), ps[c]? = some p -> vs[c]? = some v -> FRep E w Fz p v) -> B60 E w Fz ps vs
 | [], [], _, _ => trivial
 | p :: ps, v :: vs, hl, h => ⟨(h 0 p v rfl rfl).one, h 0 p v rfl rfl, B60.of_get (by simpa using hl) fun c p v hp hv => h (c + 1) p v (by simpa using hp) (by simpa using hv)⟩
 | [], _ :: _, hl, _ => by simp at hl
 | _ :: _, [], hl, _ => by simp at hl
theorem B60.toP {ps : List (PV G.E.T)} {vs : List Value} (h : B60 G.E w Fz ps vs) : (∀ p ∈ ps, p.one = true) ∧ PReps G.E w Fz ι H ps vs := by
 induction ps generalizing vs with
 | nil =>
  cases vs with
  | nil => exact ⟨fun p hp => by simp at hp, by simp only [PReps]⟩
  | cons _ _ => exact h.elim
 | cons p ps ih =>
  cases vs with
  | nil => exact h.elim
  | cons v vs =>
   obtain ⟨h1, h2, h3⟩ := h
   obtain ⟨g1, g2⟩ := ih h3
   refine ⟨fun q hq => ?_, by simp only [PReps]; exact ⟨h2.toP, g2⟩⟩
   rcases A19.1 hq with rfl | hq
   ·exact h1
   ·exact g1 q hq
theorem Colds.of_get {E : Env} {w : World} {Fz : Nat -> Prop} : ∀ {ps : List (PV E.T)} {vs : List Value}, ps.length = vs.length -> (∀ (c : Nat) (p : PV E.T) (v : Value), ps[c]? = some p -> vs[c]? = some v -> Cold E w Fz p v) -> Colds E w Fz ps vs
 | [], [], _, _ => trivial
 | p :: ps, v :: vs, hl, h => ⟨h 0 p v rfl rfl, Colds.of_get (by simpa using hl) fun c p v hp hv => h (c + 1) p v (by simpa using hp) (by simpa using hv)⟩
 | [], _ :: _, hl, _ => by simp at hl
 | _ :: _, [], hl, _ => by simp at hl
theorem B663 {a b : ByteArray} (h : B9 a = B9 b) : a = b := by
 obtain ⟨⟨a⟩⟩ := a
 obtain ⟨⟨b⟩⟩ := b
 have key : ∀ a b : List UInt8, (a.map fun b => (b.toNat : Int)) = (b.map fun b => (b.toNat : Int)) -> a = b := fun a => by
  induction a with
  | nil => intro b h; cases b with
   | nil => rfl
   | cons _ _ => simp at h
  | cons x a ih => intro b h; cases b with
   | nil => simp at h
   | cons y b =>
    simp only [A53, List.cons.injEq, Int.natCast_inj] at h
    rw [UInt8.toNat_inj.1 h.1, ih b h.2]
 rw [key a b h]
theorem B372 {k : KK} {p : PV G.E.T} {v : Value} {n : KV} (h : PRep G.E w Fz ι H p v) (hn : kvOf k p = some n) : FRep G.E w Fz p v := by
 cases p <;> cases k <;> simp only [kvOf] at hn <;> first | (cases hn; done) | (simp only [PRep] at h; exact h)
theorem B346 {k : KK} {p : PV G.E.T} {v : Value} {n : KV} (h : FRep G.E w Fz p v) (hn : kvOf k p = some n) : MapKept.IsKey k.desc v := by
 cases h <;> cases k <;> simp only [kvOf] at hn <;> try cases hn
 ·split at hn
  ·rename_i e; rw [A39 e]; rfl
  ·cases hn
 ·trivial
theorem B909 {k : KK} {p q : PV G.E.T} {v u : Value} {m n : KV} (h1 : FRep G.E w Fz p v) (h2 : FRep G.E w Fz q u) (k1 : kvOf k p = some m) (k2 : kvOf k q = some n) : v = u ↔ m = n := by
 cases k with
 | int k =>
  cases h1 <;> simp only [kvOf] at k1 <;> try cases k1
  cases h2 <;> simp only [kvOf] at k2 <;> try cases k2
  split at k1
  ·split at k2
   ·rename_i e1 _ e2
    have e1 := A39 e1
    have e2 := A39 e2
    subst e1; subst e2; cases k1; cases k2
    simp
   ·cases k2
  ·cases k1
 | str =>
  cases h1 <;> simp only [kvOf] at k1 <;> try cases k1
  cases h2 <;> simp only [kvOf] at k2 <;> try cases k2
  rename_i e1 _ _ _ e2 _
  subst e1; subst e2
  exact ⟨fun h => by cases h; rfl, fun h => by rw [B663 (KV.str.inj h)]⟩
theorem B1036 {k : KK} {p q : PV G.E.T} {v : Value} {n : KV} (h1 : FRep G.E w Fz p v) (h2 : FRep G.E w Fz q v) (k1 : kvOf k p = some n) : q = p := by
 cases h1 <;> cases k <;> simp only [kvOf] at k1 <;> try cases k1
 ·cases h2; rfl
 ·rename_i e _
  cases h2 with | str e2 _ => rw [← e, ← e2]
theorem B808 {k : KK} {p : PV G.E.T} {ps : List (PV G.E.T)} {n : KV} (h : kvOf k p = some n) : keyP (p :: ps) = n := by
 cases p <;> cases k <;> simp only [kvOf] at h <;> try cases h
 ·split at h
  ·cases h; rfl
  ·cases h
 ·rfl
theorem B533 (ok : EnvOk G.E) {i : Nat} {k : KK} {kp : PV G.E.T} {kv : Value} {n : KV} {cs : List (PV G.E.T)} {y : G.E.T i} {vs : List Value} (hin : G.E.inn i (kp :: cs) = some y) (hk : FRep G.E w Fz kp kv) (hn : kvOf k kp = some n) (hcs : Colds G.E w Fz cs vs) :
  ∃ qs, G.E.outs i y = kp :: qs ∧ B60 G.E w Fz qs vs := by
 obtain ⟨h1, h2⟩ := ok.inn _ _ _ hin
 cases ho : G.E.outs i y with
 | nil => rw [ho] at h1; simp at h1
 | cons q0 qs =>
  rw [ho] at h1 h2
  have e0 := B1036 hk (h2 w Fz 0 kp q0 kv rfl rfl (.inl hk)) hn
  subst e0
  refine ⟨qs, rfl, B60.of_get (by rw [← hcs.length]; simpa using h1) fun c q v hq hv => ?_⟩
  have hc : c < cs.length := by have := (A42.1 hv).1; rw [hcs.length]; exact this
  obtain ⟨v', hv', hp'⟩ := hcs.get (A18 hc)
  rw [hv] at hv'; cases hv'
  exact h2 w Fz (c + 1) cs[c] q v (by simp [hc]) (by simpa using hq) hp'
theorem B777 {sz : Nat} {p : PV G.E.T} {v : Value} (h : PRep G.E w Fz ι H p v) (hf : B449 sz p = true) : v = B177 sz v.cells.toList := by
 have one : p.one = true -> Nat.beq sz 2 = true -> v = B177 sz v.cells.toList := fun h1 h2 => by
  rw [B397 (h.cell h1)]
  unfold B177
  rw [h2]
 cases p
 case agg l =>
  simp only [B449, Bool.not_eq_true'] at hf
  simp only [PRep] at h
  obtain ⟨cs, rfl, _⟩ := h
  unfold B177
  rw [hf]
  simp [Value.cells]
 all_goals
  simp only [B449] at hf
  split at hf
  ·rename_i h1; exact one h1 hf
  ·cases hf
theorem B702 (ok : EnvOk G.E) {i : Nat} {x : G.E.T i} {kp : PV G.E.T} {ps : List (PV G.E.T)} {vs : List Value} (ho : G.E.outs i x = kp :: ps) (hc : B60 G.E w Fz ps vs) : PRep G.E w Fz ι H (entP (G.E.sz i) (tailP (G.E.outs i x))) (B177 (G.E.sz i) vs) := by
 obtain ⟨t1, t2⟩ := hc.toP (ι := ι) (H := H)
 rw [ho]
 have hagg : PRep G.E w Fz ι H (.agg ps) (.agg vs.toArray) := by simp only [PRep]; exact ⟨_, rfl, t1, t2⟩
 unfold entP B177
 simp only [tailP]
 cases hz : Nat.beq (G.E.sz i) 2 with
 | false => exact hagg
 | true =>
  have hs := ok.sz i x
  rw [ho, B7 hz] at hs
  match ps, vs, hs, t2, hagg with
  | [p], [v], _, t2, _ => simp only [PReps] at t2; exact t2.1
  | [_], [], _, t2, _ => simp only [PReps] at t2
  | [_], _ :: _ :: _, _, t2, _ => simp only [PReps] at t2; exact t2.2.elim
  | [], _, hs, _, _ => simp at hs
  | _ :: _ :: _, _, hs, _, _ => simp at hs
theorem B47.push {k : KK} {i : Nat} {y : G.E.T i} {f : MapEntry} (hf : B404 G.E w Fz k i y f) : ∀ {xs : List (G.E.T i)} {es : List MapEntry}, B47 G.E w Fz k i xs es -> B47 G.E w Fz k i (xs ++ [y]) (es ++ [f])
 | [], [], _ => ⟨hf, trivial⟩
 | _ :: _, _ :: _, h => ⟨h.1, h.2.push hf⟩
theorem B47.modify {k : KK} {i : Nat} {y : G.E.T i} {f : MapEntry -> MapEntry} : ∀ {xs : List (G.E.T i)} {es : List MapEntry} {j : Nat}, B47 G.E w Fz k i xs es -> (∀ e, es[j]? = some e -> B404 G.E w Fz k i y (f e)) -> B47 G.E w Fz k i (xs.set j y) (es.modify j f)
 | [], [], j, _, _ => by simp [B47]
 | x :: xs, e :: es, 0, h, hf => by
  simp only [List.set_cons_zero, List.modify_zero_cons]
  exact ⟨hf e rfl, h.2⟩
 | x :: xs, e :: es, j + 1, h, hf => by
  simp only [List.set_cons_succ, List.modify_succ_cons]
  exact ⟨h.1, h.2.modify fun e he => hf e (by simpa using he)⟩
theorem B47.erase {k : KK} {i : Nat} : ∀ {xs : List (G.E.T i)} {es : List MapEntry} {j : Nat}, B47 G.E w Fz k i xs es -> B47 G.E w Fz k i (xs.eraseIdx j) (es.eraseIdx j)
 | [], [], j, _ => by simp [B47]
 | x :: xs, e :: es, 0, h => h.2
 | x :: xs, e :: es, j + 1, h => ⟨h.1, h.2.erase⟩
theorem B368 {k : KK} {i : Nat} {kp : PV G.E.T} {kv : Value} {n : KV} (hkv : FRep G.E w Fz kp kv) (hn : kvOf k kp = some n) : ∀ {xs : List (G.E.T i)} {es : List MapEntry} (idx : Nat), B47 G.E w Fz k i xs es ->
  (findM (fun e => keyP (G.E.outs i e)) n xs = none ∧ Instr.findNow k.desc kv es idx = some none ∧ (∀ y, keyP (G.E.outs i y) = n -> putM (fun e => keyP (G.E.outs i e)) y xs = xs ++ [y]) ∧ delM (fun e => keyP (G.E.outs i e)) n xs = xs) ∨
  ∃ j x e, findM (fun e => keyP (G.E.outs i e)) n xs = some x ∧ Instr.findNow k.desc kv es idx = some (some (idx + j, e.val)) ∧ es[j]? = some e ∧ e.key = kv ∧ B404 G.E w Fz k i x e ∧ (∀ y, keyP (G.E.outs i y) = n -> putM (fun e => keyP (G.E.outs i e)) y xs = xs.set j y) ∧
   delM (fun e => keyP (G.E.outs i e)) n xs = xs.eraseIdx j
 | [], [], idx, _ => .inl ⟨rfl, rfl, fun y _ => rfl, rfl⟩
 | x :: xs, e :: es, idx, h => by
  obtain ⟨hx, h⟩ := h
  have hx' := hx
  obtain ⟨xp, ps, vs, a, b, b', c, d⟩ := hx'
  obtain ⟨m, hm0⟩ := Option.isSome_iff_exists.1 b'
  have hk : keyP (G.E.outs i x) = m := by rw [a]; exact B808 hm0
  obtain ⟨q, hq, hiff⟩ := MapKept.sameNow_of_keys (B346 hkv hn) (B346 b hm0)
  rw [B909 hkv b hn hm0] at hiff
  by_cases hm : m = n
  ·subst hm
   refine .inr ⟨0, x, e, by simp only [findM, hk, A6], ?_, rfl, (B909 b hkv hm0 hn).2 rfl, hx, fun y hy => by simp only [putM, hk, hy, A6, List.set_cons_zero], by simp only [delM, hk, A6, List.eraseIdx_cons_zero]⟩
   have : q = true := hiff.2 rfl
   subst this
   simp [Instr.findNow, hq]
  ·have hqf : q = false := by
    cases q with
    | false => rfl
    | true => exact absurd (hiff.1 rfl).symm hm
   subst hqf
   rcases B368 hkv hn (idx + 1) h with ⟨h1, h2, h3, h4⟩ | ⟨j, x', e', h1, h2, h3, h4, h5, h6, h7⟩
   ·refine .inl ⟨by simp only [findM, hk, A7 hm, h1], by simp [Instr.findNow, hq, h2], fun y hy => ?_, by simp only [delM, hk, A7 hm, h4]⟩
    simp only [putM, hk, hy, A7 hm, h3 y hy, A40]
   ·refine .inr ⟨j + 1, x', e', by simp only [findM, hk, A7 hm, h1], ?_, by simpa using h3, h4, h5, fun y hy => ?_, by simp only [delM, hk, A7 hm, h7, List.eraseIdx_cons_succ]⟩
    ·simp [Instr.findNow, hq, h2]; omega
    ·simp only [putM, hk, hy, A7 hm, h6 y hy, List.set_cons_succ]
theorem B375 {t : TypeId} {k : KK} (h : mapKK G t k = true) : ∃ kt et, G.P.underlying t = some (.map kt et) ∧ G.P.underlying kt = some k.desc := by
 unfold mapKK at h
 split at h
 ·rename_i kt et ht
  split at h
  ·rename_i d hd
   split at h
   ·rename_i k' hk
    have := KK.beq_eq h
    subst this
    exact ⟨kt, et, ht, by rw [hd, B910 hk]⟩
   ·cases h
  ·cases h
 ·cases h
theorem B723 (hH : HRep G.E w Fz ι H) (hF : Fram G.E X w Fz ι H) {id B i c : Nat} {k : KK} {xs : List (G.E.T i)} {es : Array MapEntry} (hb : getL H id = some (.mpr .own k i xs)) (ha : (ι id).a = some ⟨B, 0, none⟩) (hes : w.heap[B]? = some (.map es c)) (ys : List (G.E.T i)) (es' : Array MapEntry) (c' : Nat)
  (hk' : B47 G.E w Fz k i ys es'.toList) : Step G.E X w { w with heap := w.heap.setIfInBounds B (.map es' c') } Fz Fz ι ι H (setL H id (.mpr .own k i ys)) := by
 have hlt : B < w.heap.size := by
  rcases A85 B w.heap.size with q | q
  ·exact q
  ·rw [A111 q] at hes; cases hes
 refine Step.upd hH hF id (.mpr .own k i ys) (B13 hb) (fun j hj => B10 hj) (fun _ _ => rfl) (fun b hb2 => ?_) rfl rfl rfl (by simp) (fun C hC hne => ?_) (fun A' hA' => .inl ⟨_, A', hb, hA', rfl⟩) rfl fun KK => ?_
 ·rw [hb] at hb2; cases hb2
  exact ⟨rfl, rfl, ⟨fun _ => ⟨rfl, rfl⟩, fun ep len sz h => by simp [Blk.info] at h, fun e => by cases e⟩⟩
 ·have : C ≠ B := hne _ _ hb ha
  simp only [A83]
  rw [A7 (fun e => this e.symm)]
 ·simp only [BRep]
  exact ⟨B, ha, es', c', by simp [A83, hlt], hk'.mono KK.fz KK.heap⟩
theorem B673 (ok : EnvOk G.E) {t : TypeId} {m k px : PV G.E.T} {K : List (Blk G.E.T) -> Option R} (h : B220 G H t m k px K = some r) (hH : HRep G.E w Fz ι H) (hF : Fram G.E X w Fz ι H) {vm vk x : Value}
  (hm : PRep G.E w Fz ι H m vm) (hk : PRep G.E w Fz ι H k vk) (hx : PRep G.E w Fz ι H px x) :
  ∃ H' w' Fz', K H' = some r ∧ (Instr.mapUpdate t vm vk x).run G.P w = .ok () w' ∧ Step G.E X w w' Fz Fz' ι ι H H' := by
 unfold B220 at h
 split at h
 ·rename_i id
  simp only [PRep] at hm
  obtain ⟨b, hb, _, B, ha, rfl⟩ := hm
  split at h
  ·rename_i k3 hb'
   rw [hb] at hb'; cases hb'
   split at h
   ·rename_i n hkk hkv
    obtain ⟨kt, et, ht, hd⟩ := B375 hkk
    have hkf := B372 hk hkv
    have hkey := B346 hkf hkv
    have hr := hH.rep id _ hb
    simp only [BRep] at hr
    obtain ⟨B', ha', es, c, hes, hkeys⟩ := hr
    rw [ha] at ha'; cases ha'
    have hks : ∀ x ∈ es.toList, MapKept.IsKey (KK.desc (.int k3)) x.key := fun x hx => by
     obtain ⟨n, e⟩ := hkeys x hx
     rw [e]; rfl
    obtain ⟨nk, rfl⟩ : ∃ n, vk = .int k3 n := by
     cases vk <;> simp only [KK.desc, MapKept.IsKey] at hkey
     rw [hkey]; exact ⟨_, rfl⟩
    have hlt : B < w.heap.size := by
     rcases A85 B w.heap.size with q | q
     ·exact q
     ·rw [A111 q] at hes; cases hes
    have hstep : ∀ es' c', (∀ e ∈ es'.toList, ∃ n, e.key = .int k3 n) -> Step G.E X w { w with heap := w.heap.setIfInBounds B (.map es' c') } Fz Fz ι ι H H := fun es' c' hk' => by
     refine Step.upd hH hF id (.mp .own k3) hb (fun _ _ => rfl) (fun _ _ => rfl) (fun b hb2 => ?_) rfl rfl rfl (by simp) (fun C hC hne => ?_) (fun A' hA' => .inl ⟨_, A', hb, hA', rfl⟩) rfl fun KK => ?_
     ·rw [hb] at hb2; cases hb2
      exact ⟨rfl, rfl, .refl _⟩
     ·have : C ≠ B := hne _ _ hb ha
      simp only [A83]
      rw [A7 (fun e => this e.symm)]
     ·simp only [BRep]
      exact ⟨B, ha, es', c', by simp [A83, hlt], hk'⟩
    rcases MapKept.findNow_spec hkey es.toList 0 hks with ⟨h1, _⟩ | ⟨j, e, h1, h2, h3⟩
    ·refine ⟨_, _, Fz, h, by simp [Instr.mapUpdate, run_underlying ht, MapKept.run_getObj_map hes, MapKept.run_checkKey hd hkey, MapKept.run_findKey hd h1, MapKept.run_setObj_map _ hes, Result.andThen]; rfl, hstep _ _ fun e he => ?_⟩
     simp only [Array.toList_push, A44, A61] at he
     rcases he with he | rfl
     ·exact hkeys e he
     ·exact ⟨nk, rfl⟩
    ·have hj : es[j]? = some e := by simpa using h2
     refine ⟨_, _, Fz, h, by simp [Instr.mapUpdate, run_underlying ht, MapKept.run_getObj_map hes, MapKept.run_checkKey hd hkey, MapKept.run_findKey hd h1, hj, h3, MapKept.run_keyThatStays hkey, MapKept.run_setObj_map _ hes, Result.andThen]; rfl, hstep _ _ fun e' he => ?_⟩
     simp only [Array.toList_modify] at he
     obtain ⟨i, hi, rfl⟩ := List.getElem_of_mem he
     rw [List.getElem_modify]
     split
     ·exact ⟨nk, rfl⟩
     ·exact hkeys _ (A92 _)
   ·cases h
  ·rename_i k0 i0 xs0 hb0
   split at h
   ·rename_i cells H1 hall hfz
    have hcr := B233 hx hall
    obtain ⟨F1, s1, c1⟩ := B168 hH hF hfz hcr
    split at h
    ·rename_i k3 i xs hb1
     split at h
     ·rename_i n y hkk hkv hef hy
      obtain ⟨kt, et, ht, hd⟩ := B375 hkk
      have hkf := (B372 hk hkv).mono s1.keep.fz s1.keep.heap
      have hkey := B346 hkf hkv
      have hr := s1.heap.rep id _ hb1
      simp only [BRep] at hr
      obtain ⟨B', ha', es, c, hes, hents⟩ := hr
      rw [ha] at ha'; cases ha'
      obtain ⟨qs, hq1, hq2⟩ := B533 ok hy hkf hkv c1
      have hky : keyP (G.E.outs i y) = n := by rw [hq1]; exact B808 hkv
      have hent : ∀ e : MapEntry, e.key = vk -> e.val = x -> B404 G.E w F1 k3 i y e := fun e g1 g2 => ⟨k, qs, _, hq1, by rw [g1]; exact hkf, by rw [hkv]; rfl, by rw [g2]; exact B777 hx hef, hq2⟩
      have hstep := B723 s1.heap s1.fram hb1 ha hes
      rcases B368 hkf hkv 0 hents with ⟨_, h1, h2, _⟩ | ⟨j, x', e, _, h1, h2, h3, _, h4, _⟩
      ·refine ⟨_, _, F1, h, by simp [Instr.mapUpdate, run_underlying ht, MapKept.run_getObj_map hes, MapKept.run_checkKey hd hkey, MapKept.run_findKey hd h1, MapKept.run_setObj_map _ hes, Result.andThen]; rfl, s1.trans ?_⟩
       rw [h2 y hky]
       refine hstep _ _ _ ?_
       rw [Array.toList_push]
       exact hents.push (hent _ rfl rfl)
      ·have hj : es[j]? = some e := by simpa using h2
       rw [A22] at h1
       refine ⟨_, _, F1, h, by simp [Instr.mapUpdate, run_underlying ht, MapKept.run_getObj_map hes, MapKept.run_checkKey hd hkey, MapKept.run_findKey hd h1, hj, h3, MapKept.run_keyThatStays hkey, MapKept.run_setObj_map _ hes, Result.andThen]; rfl, s1.trans ?_⟩
       rw [h4 y hky]
       refine hstep _ _ _ ?_
       rw [Array.toList_modify]
       exact hents.modify fun e' he' => hent _ rfl rfl
     ·cases h
    ·cases h
   ·cases h
  ·cases h
 ·cases h
theorem B679 {sz : Nat} {t kt et : TypeId} {z : List (PV G.E.T)} (ht : G.P.underlying t = some (.map kt et)) (h : B606 G sz t = some z) : ∃ v, (zeroValue et).run G.P w = .ok v w ∧ ∃ vs, v = B177 sz vs ∧ PReps G.E w Fz ι H z vs := by
 unfold B606 at h
 rw [ht] at h
 simp only at h
 have reps : ∀ vs : List Value, PReps G.E w Fz ι H (B98 vs) vs := fun vs => by
  induction vs with
  | nil => simp [B98, PReps]
  | cons v vs ih => simp only [B98, PReps]; exact ⟨B317 v, ih⟩
 split at h
 ·rename_i hz
  unfold B768 at h
  split at h
  ·rename_i ti hti
   split at h
   ·rename_i v hv
    split at h
    ·rename_i ho hall
     cases h
     refine ⟨v, by simp [zeroValue, typeInfo, hti, hv], [v], ?_, reps [v]⟩
     unfold B177; rw [hz]
    ·cases h
   ·cases h
  ·cases h
 ·rename_i hz
  unfold B767 at h
  split at h
  ·rename_i ti hti
   split at h
   ·rename_i cs hcs
    split at h
    ·cases h
     refine ⟨.agg cs, by simp [zeroValue, typeInfo, hti, hcs], cs.toList, ?_, reps _⟩
     unfold B177; rw [hz]
    ·cases h
   ·cases h
  ·cases h
theorem B672 (ok : EnvOk G.E) {t : TypeId} {m k : PV G.E.T} {okb : Bool} {K : PV G.E.T -> Option R} (h : B138 G H t m k okb K = some r) (hH : HRep G.E w Fz ι H) {vm vk : Value}
  (hm : PRep G.E w Fz ι H m vm) (hk : PRep G.E w Fz ι H k vk) : ∃ p v, K p = some r ∧ (Instr.lookup t vm vk okb).run G.P w = .ok v w ∧ PRep G.E w Fz ι H p v := by
 unfold B138 at h
 split at h
 ·rename_i id
  simp only [PRep] at hm
  obtain ⟨b, hb, _, B, ha, rfl⟩ := hm
  split at h
  ·rename_i mo k3 i xs hb'
   rw [hb] at hb'; cases hb'
   split at h
   ·rename_i n z hkk hkv hz
    split at h
    ·rename_i y hy
     obtain ⟨kt, et, ht, hd⟩ := B375 hkk
     have hkf := B372 hk hkv
     have hkey := B346 hkf hkv
     have hr := hH.rep id _ hb
     simp only [BRep] at hr
     obtain ⟨B', ha', es, c, hes, hents⟩ := hr
     rw [ha] at ha'; cases ha'
     obtain ⟨zv, hzr, zs, hzv, hzps⟩ := B679 (w := w) (Fz := Fz) (ι := ι) (H := H) ht hz
     have fin : ∀ (p : PV G.E.T) (v : Value) (bb : Bool), PRep G.E w Fz ι H p v -> PRep G.E w Fz ι H (.tup [p, .bool bb]) (.tuple #[v, .bool bb]) := fun p v bb hp => by
      simp only [PRep]
      refine ⟨_, rfl, ?_⟩
      simp only [PReps]
      exact ⟨hp, by simp only [PRep]; exact .bool, trivial⟩
     rcases B368 hkf hkv 0 hents with ⟨g1, h1, _⟩ | ⟨j, x', e, g1, h1, h2, h3, ⟨kp', ps, vs, a1, a2, a2', a3, a4⟩, _⟩
     ·have hcold := ok.cold _ _ _ hy
      obtain ⟨qs, hq1, hq2⟩ := B533 ok hy hkf hkv (Colds.of_get hzps.length fun c p v hp hv => by
       obtain ⟨v', hv', hp'⟩ := hzps.get hp
       rw [hv] at hv'; cases hv'
       exact hp'.toCold (hcold _ (A29 _ (A41 hp))))
      have hp := B702 (ι := ι) (H := H) ok hq1 hq2
      rw [← hzv] at hp
      rw [g1] at h
      simp only [Option.getD_none, Option.isSome_none] at h
      cases okb with
      | true => exact ⟨_, .tuple #[zv, .bool false], h, by simp [Instr.lookup, run_underlying ht, MapKept.run_getObj_map hes, MapKept.run_checkKey hd hkey, MapKept.run_findKey hd h1, hzr, Result.andThen], fin _ _ _ hp⟩
      | false => exact ⟨_, zv, h, by simp [Instr.lookup, run_underlying ht, MapKept.run_getObj_map hes, MapKept.run_checkKey hd hkey, MapKept.run_findKey hd h1, hzr, Result.andThen], hp⟩
     ·have hp := B702 (ι := ι) (H := H) ok a1 a4
      rw [← a3] at hp
      rw [g1] at h
      simp only [A128, Option.isSome_some] at h
      rw [A22] at h1
      cases okb with
      | true => exact ⟨_, .tuple #[e.val, .bool true], h, by simp [Instr.lookup, run_underlying ht, MapKept.run_getObj_map hes, MapKept.run_checkKey hd hkey, MapKept.run_findKey hd h1, Result.andThen], fin _ _ _ hp⟩
      | false => exact ⟨_, e.val, h, by simp [Instr.lookup, run_underlying ht, MapKept.run_getObj_map hes, MapKept.run_checkKey hd hkey, MapKept.run_findKey hd h1, Result.andThen], hp⟩
    ·cases h
   ·cases h
  ·cases h
 ·cases h
theorem B665 {t ty : TypeId} {m k : PV G.E.T} {K : List (Blk G.E.T) -> Option R} (h : B214 G H t m k K = some r) (hH : HRep G.E w Fz ι H) (hF : Fram G.E X w Fz ι H) {vm vk : Value}
  (hm : PRep G.E w Fz ι H m vm) (hk : PRep G.E w Fz ι H k vk) (rest : List TypeId) : ∃ H' w', K H' = some r ∧ (Builtin.delete_ (t :: rest).toArray ty #[vm, vk]).run G.P w = .ok (.tuple #[]) w' ∧ Step G.E X w w' Fz Fz ι ι H H' := by
 unfold B214 at h
 split at h
 ·rename_i id
  simp only [PRep] at hm
  obtain ⟨b, hb, _, B, ha, rfl⟩ := hm
  split at h
  ·rename_i k3 i xs hb'
   rw [hb] at hb'; cases hb'
   split at h
   ·rename_i n hkk hkv
    obtain ⟨kt, et, ht, hd⟩ := B375 hkk
    have hkf := B372 hk hkv
    have hkey := B346 hkf hkv
    have hr := hH.rep id _ hb
    simp only [BRep] at hr
    obtain ⟨B', ha', es, c, hes, hents⟩ := hr
    rw [ha] at ha'; cases ha'
    have hstep := B723 hH hF hb ha hes
    rcases B368 hkf hkv 0 hents with ⟨_, h1, _, h2⟩ | ⟨j, x', e, _, h1, h2, h3, _, _, h4⟩
    ·refine ⟨_, _, h, by simp [Builtin.delete_, run_underlying ht, MapKept.run_getObj_map hes, MapKept.run_checkKey hd hkey, MapKept.run_findKey hd h1, MapKept.run_setObj_map _ hes, Result.andThen]; rfl, ?_⟩
     rw [h2]
     exact hstep _ _ _ hents
    ·have hj : j < es.size := by
      have := (A42.1 h2).1
      simpa using this
     rw [A22] at h1
     refine ⟨_, _, h, by simp [Builtin.delete_, run_underlying ht, MapKept.run_getObj_map hes, MapKept.run_checkKey hd hkey, MapKept.run_findKey hd h1, MapKept.run_setObj_map _ hes, Result.andThen]; rfl, ?_⟩
     rw [h4]
     refine hstep _ _ _ ?_
     unfold Array.eraseIdxIfInBounds
     rw [dif_pos hj, Array.toList_eraseIdx]
     exact hents.erase
   ·cases h
  ·cases h
 ·cases h
end
section
variable {G : Prg} {w w' : World} {Fz : Nat -> Prop} {ι : Nat -> Loc} {H : List (Blk G.E.T)} {R : Type} {r : R} {X : Ctx}
theorem B361 {xs : List Int} (h : ∀ x ∈ xs, IntKind.u8.has x) : B9 (strOfNums xs) = xs := by
 unfold B9
 rw [strOfNums_data, List.map_map]
 conv => rhs; rw [← List.map_id xs]
 apply A129
 intro x hx
 have := h x hx
 rw [B95] at this
 simp only at this
 simp only [Function.comp_apply, id_eq, UInt8.toNat_ofNat']
 omega
theorem B571 {src dst e : TypeId} (hs : G.P.underlying src = some (.slice e)) (he : G.P.underlying e = some (.int .u8)) (hd : G.P.underlying dst = some .string) {xs : List Int} {x : Value} (h : FRep G.E w anyB (.ints .u8 xs) x) :
  ∃ v, (convert src dst x).run G.P w = .ok v w ∧ FRep G.E w Fz (.str xs) v := by
 cases h with
 | ints h1 h2 h0 h3 =>
  rename_i a cap
  by_cases hne : xs = []
  ·subst hne
   cases a with
   | none => exact ⟨_, run_convert_bytes_nil (P := G.P) w src e hs he _ _ dst hd, .str rfl (by simp)⟩
   | some A =>
    have hl : (loadCells A 0).run G.P w = .ok #[] w := by simp [loadCells, loadCellsFrom]
    refine ⟨.string ByteArray.empty, ?_, .str rfl (by simp)⟩
    rw [run_convert_bytes_string w src dst e _ _ _ hs he hd]
    have := run_bytesToString (P := G.P) w A 0 cap [] (by simpa using hl)
    simpa using this
  ·obtain ⟨B, o, rfl, _, hc⟩ := h3 hne
   refine ⟨_, run_convert_bytes_arg (P := G.P) w src e hs he B o xs.length cap xs rfl (fun i hi => ?_) dst hd, .str (B361 h1) h2⟩
   rw [hc i _ (A18 hi)]
   simp [List.getD, A18 hi]
theorem B701 {n : Int} (h0 : 0 <= n) (h1 : n < 128) : B9 (Utf8.encode n) = [n] := by
 have hv : Utf8.valid n = true := by simp [Utf8.valid]; omega
 have hc : n.toNat < 128 := by omega
 unfold Utf8.encode
 simp only [hv, A6, hc]
 simp [B9, ByteArray.push, ByteArray.empty, Nat.toUInt8]
 omega
theorem B590 (ok : PrgOk G) {src dst : TypeId} {p : PV G.E.T} {K : PV G.E.T -> List (Blk G.E.T) -> Option R} (h : B143 G H src dst p K = some r) (hH : HRep G.E w Fz ι H) (hF : Fram G.E X w Fz ι H) {x : Value} (hx : PRep G.E w Fz ι H p x) :
  ∃ q H' v w' Fz' ι', K q H' = some r ∧ (convert src dst x).run G.P w = .ok v w' ∧ Step G.E X w w' Fz Fz' ι ι' H H' ∧ PRep G.E w' Fz' ι' H' q v := by
 unfold B143 at h
 split at h
 ·rename_i d0 k hs hd
  split at h
  ·rename_i k' n
   simp only [PRep] at hx
   cases hx with | int hn =>
   refine ⟨_, _, .int k (k.wrap n), w, Fz, ι, h, by simp [convert, run_underlying hs, run_underlying hd, Conv.intToInt], .refl hH hF, ?_⟩
   simp only [PRep]; exact .int (B99 _ _)
  ·cases h
 ·rename_i hs hd
  split at h
  ·simp only [PRep] at hx
   cases hx with | str e1 l1 =>
   rename_i bs
   refine ⟨_, _, .string bs, w, Fz, ι, h, by simp [convert, run_underlying hs, run_underlying hd], .refl hH hF, ?_⟩
   simp only [PRep]; exact .str e1 l1
  ·cases h
 ·rename_i e hs hd
  split at h
  ·rename_i hel
   split at h
   ·rename_i xs l hxs
    obtain ⟨he, _⟩ := ok.int e .u8 hel
    obtain ⟨v, hrun, hv⟩ := B571 (G := G) (Fz := Fz) hs he hd (B181 hH hxs hx)
    exact ⟨_, _, v, w, Fz, ι, h, hrun, .refl hH hF, hv.toP⟩
   ·cases h
  ·cases h
 ·rename_i k0 hs hd
  split at h
  ·rename_i k' n
   split at h
   ·rename_i hn
    simp only [PRep] at hx
    cases hx
    refine ⟨_, _, .string (Utf8.encode n), w, Fz, ι, h, by simp [convert, run_underlying hs, run_underlying hd, Conv.intToString], .refl hH hF, ?_⟩
    simp only [PRep]
    refine .str (B701 hn.1 hn.2) (by simp [maxLen])
   ·cases h
  ·cases h
 ·rename_i e hs hd
  split at h
  ·rename_i s hel
   obtain ⟨he, _⟩ := ok.int e .u8 hel
   simp only [PRep] at hx
   cases hx with | str e1 l1 =>
   rename_i bs
   subst e1
   have hrun := run_bytes_of_string (P := G.P) w src dst e bs hs hd he
   have hge := grownCap_ge w bs.size 0 e
   have hsz : (bytesRow bs (grownCap w bs.size 0 e)).size = grownCap w bs.size 0 e * 1 := by
    simp only [bytesRow, Array.size_append, Array.size_map, Array.size_replicate]
    have : bs.data.size = bs.size := rfl
    omega
   generalize hcap : grownCap w bs.size 0 e = cap at *
   have hlen := B42 bs
   have e0 : w.drew.heap.size = w.heap.size := rfl
   have hrb : RowBecomes w (w.drew.alloc (.cells (bytesRow bs cap) e ((bytesRow bs cap).size, (bytesRow bs cap).size + 1))) ⟨none, 0⟩ ⟨some ⟨w.heap.size, 0, none⟩, cap⟩ 1 (B9 bs).length ((B9 bs).map fun y => Value.int .u8 y) := by
    have hheap : (w.drew.alloc (.cells (bytesRow bs cap) e ((bytesRow bs cap).size, (bytesRow bs cap).size + 1))).heap[w.heap.size]? = some (.cells (bytesRow bs cap) e ((bytesRow bs cap).size, (bytesRow bs cap).size + 1)) := heap_alloc_new w.drew _
    have hcell : ∀ q, (w.drew.alloc (.cells (bytesRow bs cap) e ((bytesRow bs cap).size, (bytesRow bs cap).size + 1))).cell? ⟨w.heap.size, q, none⟩ = (bytesRow bs cap)[q]? := fun q => by
     simp only [World.cell?, hheap]; simp
    refine ⟨⟨by rw [hlen]; exact hge, l1, .inr ⟨w.heap.size, 0, rfl, by simp, fun c hc => ?_⟩⟩, fun B o ha q v hv => ?_, rfl, rfl, rfl, by simp, fun B hB _ => heap_alloc_old w.drew _ B hB, fun A' hA' => .inr ?_⟩
    ·rw [A22, hcell]
     refine ⟨⟨_, A74 (by rw [hsz]; exact hc)⟩, ?_⟩
     simp only [World.frozen?, hheap]
     have : c < (bytesRow bs cap).size := by rw [hsz]; exact hc
     simp; omega
    ·simp only [A16, Addr.mk.injEq] at ha
     obtain ⟨rfl, rfl, _⟩ := ha
     rw [A22, hcell]
     rw [B9, List.map_map, A45] at hv
     obtain ⟨b, hb, rfl⟩ := A93.1 hv
     have hlt : q < bs.data.size := by
      have := (A42.1 hb).1
      simpa using this
     rw [bytesRow, A114 (by simpa using hlt), Array.getElem?_map]
     have : bs.data[q]? = some b := by simpa using hb
     rw [this]; rfl
    ·simp only [A16] at hA'
     subst hA'; exact A11 _
   refine ⟨_, _, _, _, Fz, _, h, hrun, Step.rowNew hH hF rfl hrb (fun KK => hrb.ints (fun y hy => ?_) B14), ?_⟩
   ·simp only [B9, A60] at hy
    obtain ⟨b, _, rfl⟩ := hy
    rw [B95]
    have := b.toNat_lt
    simp only; omega
   ·have := B446 (G := G) (w' := w.drew.alloc (.cells (bytesRow bs cap) e ((bytesRow bs cap).size, (bytesRow bs cap).size + 1))) (Fz := Fz) (ι := ι) (H := H) (b := .ints .own .u8 0 (B9 bs)) (l := ⟨some ⟨w.heap.size, 0, none⟩, cap⟩) rfl
    rwa [hlen] at this
  ·cases h
 ·rename_i e e2 hs hd
  split at h
  ·rename_i id ep hsd hel
   have hsd' := B7 hsd
   subst hsd'
   obtain ⟨he, _⟩ := ok.int e .u8 hel
   split at h
   ·rename_i ep' xs hg
    split at h
    ·rename_i hep
     split at h
     ·rename_i hpos
      have hep' := B7 hep
      simp only [PRep] at hx
      obtain ⟨b0, hb0, harr⟩ := hx
      rw [hg] at hb0; cases hb0
      have hrep := hH.rep id _ hg
      simp only [BRep] at hrep
      obtain ⟨hr, hk, hc⟩ := hrep
      obtain ⟨B, o, ha⟩ := hr.addr hpos
      have hv := (harr.2 ep' xs.length 1 rfl).2 hep'
      subst hv
      rw [ha]
      have hc0 := hc B o ha 0 _ (A18 hpos)
      obtain ⟨C, el, fr, hB⟩ : ∃ C el fr, w.heap[B]? = some (.cells C el fr) := by
       unfold World.cell? at hc0
       split at hc0
       ·rename_i C el fr e1; exact ⟨C, el, fr, e1⟩
       ·cases hc0
      have hsh : w.shape? B = some (el, C.size) := by unfold World.shape?; rw [hB]
      have hcell : ∀ q, (w.freeze ⟨B, C.size, none⟩ 1).cell? q = w.cell? q := fun q => by
       unfold World.freeze World.cell?
       rw [A7 (by decide)]
       simp only [Array.getElem?_modify]
       by_cases hq : B = q.block
       ·subst hq
        obtain ⟨fl, fh⟩ := fr
        simp [hB]
       ·simp [hq]
      refine ⟨_, _, .slice (some ⟨B, o, none⟩) xs.length (ι id).cap, w.freeze ⟨B, C.size, none⟩ 1, _, ι, h, ?_, Step.goneW hH hF hg rfl rfl (by simp [World.freeze]) (by simp [World.freeze]) (by simp [World.freeze]) (by simp [World.freeze]) fun B' hB' => ?_, ?_⟩
      ·simp [convert, run_underlying hs, run_underlying he, markStringish, hsh]
      ·have hne := hB' _ ha
       simp only at hne
       simp [World.freeze, Array.getElem?_modify, Ne.symm hne]
      ·simp only [PRep]
       rw [← ha]
       have := FRep.ints (E := G.E) (w := w.freeze ⟨B, C.size, none⟩ 1) (Fz := B269 Fz (ι id)) (k := .u8) (xs := xs) (a := (ι id).a) (cap := (ι id).cap) hk hr.2.1 hr.1 fun _ => ⟨B, o, ha, .inr ⟨_, ha, rfl⟩, fun j y hj => by rw [hcell]; exact hc B o ha j y hj⟩
       exact this
     ·cases h
    ·cases h
   ·cases h
  ·cases h
 ·cases h
def B141 (E : Env) (w : World) (Fz : Nat -> Prop) (ι : Nat -> Loc) (H : List (Blk E.T)) : Option (PV E.T) -> Option Value -> Prop
 | none, none => True
 | some p, some v => PRep E w Fz ι H p v
 | _, _ => False
theorem B57 {n : Nat} {lo hi : Option (PV G.E.T)} {K : Nat -> Nat -> Option R} (h : B41 G n lo hi K = some r) {vl vh : Option Value} (hl : B141 G.E w Fz ι H lo vl) (hh : B141 G.E w Fz ι H hi vh) :
  ∃ l u, K l u = some r ∧ l <= u ∧ u <= n ∧ ∀ (b : Bool) (cap : Nat), n <= cap -> (Instr.sliceBounds b n cap vl vh none).run G.P w = .ok (l, u, cap) w := by
 unfold B41 at h
 cases hi with
 | none =>
  cases vh with
  | some v => exact hh.elim
  | none =>
   cases lo with
   | none =>
    cases vl with
    | some v => exact hl.elim
    | none => exact ⟨0, n, h, A30 _, A11 _, fun b cap hc => by simp [Instr.sliceBounds]⟩
   | some p =>
    cases vl with
    | none => exact hl.elim
    | some v =>
     simp only at h
     split at h
     ·rename_i heq; cases heq
     ·rename_i k l heq
      cases heq
      split at h
      ·rename_i hc
       simp only [B141, PRep] at hl
       cases hl with | int _ =>
       refine ⟨_, _, h, by omega, A11 _, fun b cap hcap => ?_⟩
       simp [Instr.sliceBounds, run_sliceBound, hc.1, hc.2]
      ·cases h
     ·cases h
 | some q =>
  cases vh with
  | none => exact hh.elim
  | some v =>
   simp only at h
   split at h
   ·rename_i heq; cases heq
   ·rename_i kh u heq
    cases heq
    simp only [B141, PRep] at hh
    cases hh with | int _ =>
    cases lo with
    | none =>
     cases vl with
     | some v => exact hl.elim
     | none =>
      simp only at h
      split at h
      ·rename_i hc
       refine ⟨_, _, h, A30 _, by omega, fun b cap hcap => ?_⟩
       have : u <= (cap : Int) := by omega
       simp [Instr.sliceBounds, run_sliceBound, hc.1, this]
      ·cases h
    | some p =>
     cases vl with
     | none => exact hl.elim
     | some v =>
      split at h
      ·rename_i heq; cases heq
      ·rename_i k l heq
       cases heq
       split at h
       ·rename_i hc
        split at h
        ·rename_i hc2
         simp only [B141, PRep] at hl
         cases hl with | int _ =>
         refine ⟨_, _, h, by omega, by omega, fun b cap hcap => ?_⟩
         have h1 : u <= (cap : Int) := by omega
         have h2 : l <= ((u.toNat : Nat) : Int) := by omega
         simp only [Instr.sliceBounds, Sem.run_bind, Sem.run_pure, Result.andThen_ok, run_sliceBound w kh u cap _ hc.1 h1]
         simp [run_sliceBound w k l u.toNat _ hc2.1 h2]
        ·cases h
       ·cases h
      ·cases h
   ·cases h
theorem B89 {t e : TypeId} {sz : Nat} (ht : G.P.underlying t = some (.slice e)) (hs : B25 G e = some sz) {a : Option Addr} {len cap l u : Nat} {vl vh : Option Value}
  (hb : (Instr.sliceBounds true len cap vl vh none).run G.P w = .ok (l, u, cap) w) :
  (Instr.sliceAt t (.slice a len cap) vl vh none).run G.P w = .ok (.slice (if cap = l then a else a.map (·.add (l * sz))) (u - l) (cap - l)) w := by
 simp [Instr.sliceAt, Instr.slice, run_underlying ht, hb, B70 hs]
theorem B572 {t : TypeId} (ht : G.P.underlying t = some .string) {s : ByteArray} {l u : Nat} {vl vh : Option Value} (hb : (Instr.sliceBounds false s.size s.size vl vh none).run G.P w = .ok (l, u, s.size) w) :
  (Instr.sliceAt t (.string s) vl vh none).run G.P w = .ok (.string (s.extract l u)) w := by
 simp [Instr.sliceAt, Instr.slice, run_underlying ht, hb]
theorem B109 {α : Type} (xs : List α) (l u : Nat) : cutL xs l u = (xs.drop l).take (u - l) := by
 unfold cutL; rw [List.drop_take]
theorem B412 (s : ByteArray) (l u : Nat) : B9 (s.extract l u) = cutL (B9 s) l u := by
 rw [B109]
 simp [B9, ByteArray.data_extract, List.map_drop, List.map_take]
theorem B226 (ok : PrgOk G) {t : TypeId} (h : B203 G t = true) : ∃ e, G.P.underlying t = some (.slice e) ∧ B25 G e = some 1 := by
 unfold B203 at h
 split at h
 ·rename_i e he
  split at h
  ·rename_i k hel
   exact ⟨e, B130 ok he hel⟩
  ·cases h
 ·cases h
theorem B227 (ok : PrgOk G) {t : TypeId} {j : Nat} (h : B204 G t j = true) : ∃ e, G.P.underlying t = some (.slice e) ∧ B25 G e = some (G.E.sz j) := by
 unfold B204 at h
 split at h
 ·rename_i e he
  split at h
  ·rename_i k hel
   have := B7 h; subst this
   exact ⟨e, B196 ok he hel⟩
  ·cases h
 ·cases h
theorem B575 {E : Env} {ι : Nat -> Loc} {id ep : Nat} {b : Blk E.T} {len' sz : Nat} (hb : b.info E = some (ep, len', sz)) {off n : Nat} {a : Option Addr} {cap : Nat} (hfit : off + n <= len')
  (ha : 0 < n -> ∃ B o, (ι id).a = some ⟨B, o, none⟩ ∧ a = some ⟨B, o + off * sz, none⟩) (hc : n <= cap) {l u : Nat} (hlu : l <= u) (hun : u <= n) :
  SubAt E ι id ep (off + l) (u - l) b (.slice (if cap = l then a else a.map (·.add (l * sz))) (u - l) (cap - l)) := by
 refine ⟨⟨_, _, _, rfl⟩, fun ep' len'' sz' h => ?_⟩
 rw [hb] at h; cases h
 refine ⟨A11 _, fun _ => ⟨by omega, _, _, rfl, by omega, fun hp => ?_⟩⟩
 obtain ⟨B, o, h1, h2⟩ := ha (by omega)
 refine ⟨B, o, h1, ?_⟩
 rw [A7 (by omega), h2, A37, Addr.add_lit, A55, A58]
theorem RowAt.cut {l : Loc} {len sz : Nat} (h : RowAt w l len sz) {p q : Nat} (hpq : p <= q) (hq : q <= len) {cs : List Value} (hcs : ∀ B o, l.a = some ⟨B, o, none⟩ -> ∀ (j : Nat) (v : Value), cs[j]? = some v -> w.cell? ⟨B, o + p * sz + j, none⟩ = some v)
  (hlen : cs.length = (q - p) * sz) :
  RowBecomes w w l ⟨if l.cap = p then l.a else l.a.map (·.add (p * sz)), l.cap - p⟩ sz (q - p) cs := by
 have hle := h.1
 rcases h.2.2 with ⟨hn, hc0⟩ | ⟨B, o, ha, hB, hc⟩
 ·have : (if l.cap = p then l.a else l.a.map (·.add (p * sz))) = none := by rw [hn]; split <;> rfl
  rw [this]
  exact ⟨⟨by simp only; omega, by have := h.2.1; omega, .inl ⟨rfl, by simp only; omega⟩⟩, fun _ _ h => (by cases h), rfl, rfl, rfl, A11 _, fun _ _ _ => rfl, fun _ h => (by cases h)⟩
 ·by_cases hcp : l.cap = p
  ·rw [A3 hcp]
   have hqp : q - p = 0 := by omega
   have hnil : cs = [] := A112 (by rw [hlen, hqp, Nat.zero_mul])
   subst hnil
   exact ⟨⟨by simp only; omega, by have := h.2.1; omega, .inr ⟨B, o, ha, hB, fun c hc' => by simp only at hc'; rw [hcp, A104, Nat.zero_mul] at hc'; omega⟩⟩, fun _ _ _ q v hv => (by simp at hv), rfl, rfl, rfl, A11 _, fun _ _ _ => rfl, fun A h => .inl ⟨A, h, rfl⟩⟩
  ·rw [A7 hcp, ha, A37, Addr.add_lit]
   refine ⟨⟨by simp only; omega, by have := h.2.1; omega, .inr ⟨B, o + p * sz, rfl, hB, fun c hc' => ?_⟩⟩, fun B' o' h j v hv => ?_, rfl, rfl, rfl, A11 _, fun _ _ _ => rfl, fun A h => .inl ⟨_, ha, ?_⟩⟩
   ·simp only at hc'
    rw [Nat.sub_mul] at hc'
    rw [A58]
    exact hc (p * sz + c) (by omega)
   ·simp only [A16, Addr.mk.injEq] at h
    obtain ⟨rfl, rfl, _⟩ := h
    exact hcs B o ha j v hv
   ·simp only [A16] at h; subst h; rfl
theorem FRep.cut_ints {E : Env} {k : IntKind} {xs : List Int} {a : Option Addr} {n cap : Nat} (h : FRep E w Fz (.ints k xs) (.slice a n cap)) {l u : Nat} (hlu : l <= u) (hun : u <= xs.length) :
  FRep E w Fz (.ints k (cutL xs l u)) (.slice (if cap = l then a else a.map (·.add (l * 1))) (u - l) (cap - l)) := by
 have hcl : (cutL xs l u).length = u - l := by rw [B109, A24, A77]; omega
 cases h with
 | ints g1 g2 g0 g3 =>
  have := FRep.ints (E := E) (w := w) (Fz := Fz) (k := k) (xs := cutL xs l u) (a := if cap = l then a else a.map (·.add (l * 1))) (cap := cap - l) (fun y hy => by
    rw [B109] at hy
    exact g1 y (A97 (A81 hy))) (by omega) (by omega) (fun hne => by
    have hpos : 0 < u - l := by rw [← hcl]; exact A125.2 hne
    obtain ⟨B, o, rfl, hf, hc⟩ := g3 (fun e => by subst e; simp at hun; omega)
    refine ⟨B, o + l * 1, by rw [A7 (by omega), A37, Addr.add_lit], hf, fun j x hj => ?_⟩
    rw [B109, A66] at hj
    split at hj
    ·rw [A54] at hj
     rw [A102, A58]
     exact hc _ x hj
    ·cases hj)
  rwa [hcl] at this
theorem FRep.cut_rows {E : Env} {i : Nat} {xs : List (E.T i)} {a : Option Addr} {n cap : Nat} (h : FRep E w Fz (.rows i xs) (.slice a n cap)) {l u : Nat} (hlu : l <= u) (hun : u <= xs.length) :
  FRep E w Fz (.rows i (cutL xs l u)) (.slice (if cap = l then a else a.map (·.add (l * E.sz i))) (u - l) (cap - l)) := by
 have hcl : (cutL xs l u).length = u - l := by rw [B109, A24, A77]; omega
 have hget : ∀ j x, (cutL xs l u)[j]? = some x -> xs[l + j]? = some x := by
  intro j x hj
  rw [B109, A66] at hj
  split at hj
  ·rwa [A54] at hj
  ·cases hj
 cases h with
 | rows cv g2 g0 g3 g4 =>
  have := FRep.rows (E := E) (w := w) (Fz := Fz) (i := i) (xs := cutL xs l u) (a := if cap = l then a else a.map (·.add (l * E.sz i))) (cap := cap - l) (fun j c => cv (l + j) c) (by omega) (by omega) (fun hne => by
    have hpos : 0 < u - l := by rw [← hcl]; exact A125.2 hne
    obtain ⟨B, o, rfl, hf, hc⟩ := g3 (fun e => by subst e; simp at hun; omega)
    refine ⟨B, o + l * E.sz i, by rw [A7 (by omega), A37, Addr.add_lit], hf, fun j x c p hj hp => ?_⟩
    rw [show o + l * E.sz i + j * E.sz i + c = o + (l + j) * E.sz i + c by rw [A55]; omega]
    exact hc _ x c p (hget j x hj) hp) (fun j x c p hj hp => g4 _ x c p (hget j x hj) hp)
  rwa [hcl] at this
theorem B748 (ok : PrgOk G) {cutting : Bool} {t : TypeId} {p : PV G.E.T} {lo hi : Option (PV G.E.T)} {K : PV G.E.T -> List (Blk G.E.T) -> Option R} (h : B182 G H cutting t p lo hi K = some r) (hH : HRep G.E w Fz ι H) (hF : Fram G.E X w Fz ι H)
  {x : Value} (hx : PRep G.E w Fz ι H p x) {vl vh : Option Value} (hl : B141 G.E w Fz ι H lo vl) (hh : B141 G.E w Fz ι H hi vh) :
  ∃ q H' v ι', K q H' = some r ∧ (Instr.sliceAt t x vl vh none).run G.P w = .ok v w ∧ Step G.E X w w Fz Fz ι ι' H H' ∧ PRep G.E w Fz ι' H' q v := by
 unfold B182 at h
 split at h
 ·split at h
  ·rename_i s ht
   simp only [PRep] at hx
   cases hx with | str e1 l1 =>
   rename_i bs
   subst e1
   obtain ⟨l, u, hK, h1, h2, hb⟩ := B57 h hl hh
   rw [B42] at h2 hb
   refine ⟨_, _, .string (bs.extract l u), ι, hK, B572 ht (hb false bs.size (A11 _)), .refl hH hF, ?_⟩
   simp only [PRep]
   refine .str (B412 bs l u) ?_
   rw [B109, A24, A77]; omega
  ·cases h
 ·split at h
  ·rename_i k xs ht
   obtain ⟨e, hu, hs⟩ := B226 ok ht
   obtain ⟨l, u, hK, h1, h2, hb⟩ := B57 h hl hh
   simp only [PRep] at hx
   have hx' := hx
   cases hx with
   | ints g1 g2 g0 g3 =>
    rename_i a cap
    exact ⟨_, _, _, ι, hK, B89 hu hs (hb true cap g0), .refl hH hF, (hx'.cut_ints h1 h2).toP⟩
  ·cases h
 ·split at h
  ·rename_i i xs ht
   obtain ⟨e, hu, hs⟩ := B227 ok ht
   obtain ⟨l, u, hK, h1, h2, hb⟩ := B57 h hl hh
   simp only [PRep] at hx
   have hx' := hx
   cases hx with
   | rows cv g2 g0 g3 g4 =>
    rename_i a cap
    exact ⟨_, _, _, ι, hK, B89 hu hs (hb true cap g0), .refl hH hF, (hx'.cut_rows h1 h2).toP⟩
  ·cases h
 ·split at h
  ·rename_i e he
   split at h
   ·rename_i sz hs
    have hu : G.P.underlying t = some (.slice e) := by
     unfold elemT at he
     split at he
     ·rename_i hu; cases he; exact hu
     ·cases he
    obtain ⟨l, u, hK, h1, h2, hb⟩ := B57 h hl hh
    simp only [PRep] at hx
    subst hx
    have hu0 : u = 0 := by omega
    subst hu0
    have hl0 : l = 0 := by omega
    subst hl0
    refine ⟨_, _, _, ι, hK, B89 hu hs (hb true 0 (A11 _)), .refl hH hF, ?_⟩
    simp [PRep]
   ·cases h
  ·cases h
 ·rename_i id ep
  simp only [PRep] at hx
  obtain ⟨b, hb0, hx⟩ := hx
  have hr := hH.rep id _ hb0
  split at h
  ·rename_i k ep' xs hb'
   rw [hb0] at hb'; cases hb'
   split at h
   ·rename_i ht he
    have := B7 he; subst this
    obtain ⟨e, hu, hs⟩ := B226 ok ht
    obtain ⟨l, u, hK, h1, h2, hb⟩ := B57 h hl hh
    have hv := (hx.2 _ _ _ rfl).2 rfl
    subst hv
    simp only [BRep] at hr
    have hcl : (cutL xs l u).length = u - l := by rw [B109, A24, A77]; omega
    have hrb := hr.1.cut h1 h2 (cs := (cutL xs l u).map fun y => Value.int k y) (fun B o ha j v hv => by
     rw [A45] at hv
     obtain ⟨y, hy, rfl⟩ := A93.1 hv
     rw [B109, A66] at hy
     split at hy
     ·rw [A54] at hy
      rw [A102, A58]
      exact hr.2.2 B o ha _ y hy
     ·cases hy) (by simp [hcl])
    rw [← hcl] at hrb
    have hrun := B89 (w := w) hu hs (a := (ι id).a) (len := xs.length) (cap := (ι id).cap) (hb true (ι id).cap hr.1.1)
    refine ⟨_, _, _, _, hK, hrun, Step.rowUpd hH hF hb0 rfl rfl rfl (b' := .ints .own k (ep + 1) (cutL xs l u)) rfl rfl hrb (fun KK => hrb.ints (fun y hy => ?_) B14), ?_⟩
    ·rw [B109] at hy
     exact hr.2.1 y (A97 (A81 hy))
    ·have := B447 (G := G) (w' := w) (Fz := Fz) (ι := ι) (b := .ints .own k (ep + 1) (cutL xs l u)) hb0 (l := ⟨if (ι id).cap = l then (ι id).a else (ι id).a.map (·.add (l * 1)), (ι id).cap - l⟩) rfl
     rwa [hcl] at this
   ·cases h
  ·rename_i j ep' xs hb'
   rw [hb0] at hb'; cases hb'
   split at h
   ·rename_i ht he
    have := B7 he; subst this
    obtain ⟨e, hu, hs⟩ := B227 ok ht
    obtain ⟨l, u, hK, h1, h2, hb⟩ := B57 h hl hh
    have hv := (hx.2 _ _ _ rfl).2 rfl
    subst hv
    simp only [BRep] at hr
    have hcl : (cutL xs l u).length = u - l := by rw [B109, A24, A77]; omega
    have hvals : ∃ us, RowVals G.E w Fz j (cutL xs l u) us ∧ ∀ B o, (ι id).a = some ⟨B, o, none⟩ -> ∀ (q : Nat) (v : Value), us[q]? = some v -> w.cell? ⟨B, o + l * G.E.sz j + q, none⟩ = some v := by
     by_cases hne : cutL xs l u = []
     ·exact ⟨[], ⟨by rw [hne]; simp, by rw [hne]; simp⟩, by simp⟩
     ·have hpos : 0 < u - l := by rw [← hcl]; exact A125.2 hne
      obtain ⟨B, o, ha⟩ := hr.1.addr (by omega)
      obtain ⟨us, g1, g2, _⟩ := RowVals.of_cells (G := G) (w := w) ok.env (F := Fz) (ys := cutL xs l u) (B := B) (o := o + l * G.E.sz j) (fun q x c p hq hp => by
       rw [B109, A66] at hq
       split at hq
       ·rw [A54] at hq
        obtain ⟨v, k1, k2⟩ := hr.2 B o ha _ x c p hq hp
        exact ⟨v, by rw [show o + l * G.E.sz j + q * G.E.sz j + c = o + (l + q) * G.E.sz j + c by rw [A55]; omega]; exact k1, k2⟩
       ·cases hq)
      refine ⟨us, g1, fun B' o' ha' => ?_⟩
      rw [ha] at ha'; cases ha'
      exact g2
    obtain ⟨us, g1, g2⟩ := hvals
    have hrb := hr.1.cut h1 h2 (cs := us) g2 (by rw [g1.length, hcl])
    rw [← hcl] at hrb
    have hrun := B89 (w := w) hu hs (a := (ι id).a) (len := xs.length) (cap := (ι id).cap) (hb true (ι id).cap hr.1.1)
    refine ⟨_, _, _, _, hK, hrun, Step.rowUpd hH hF hb0 rfl rfl rfl (b' := .rows .own j (ep + 1) (cutL xs l u)) rfl rfl hrb (fun KK => hrb.rows (g1.mono KK.fz KK.heap) B14), ?_⟩
    have := B447 (G := G) (w' := w) (Fz := Fz) (ι := ι) (b := .rows .own j (ep + 1) (cutL xs l u)) hb0 (l := ⟨if (ι id).cap = l then (ι id).a else (ι id).a.map (·.add (l * G.E.sz j)), (ι id).cap - l⟩) rfl
    rwa [hcl] at this
   ·cases h
  ·rename_i m k ep' xs hb'
   rw [hb0] at hb'; cases hb'
   split at h
   ·rename_i ht he
    have := B7 he; subst this
    obtain ⟨e, hu, hs⟩ := B226 ok ht
    obtain ⟨l, u, hK, h1, h2, hb⟩ := B57 h hl hh
    have hv := (hx.2 _ _ _ rfl).2 rfl
    subst hv
    simp only [BRep] at hr
    refine ⟨_, _, _, ι, hK, B89 hu hs (hb true (ι id).cap hr.1.1), .refl hH hF, ?_⟩
    simp only [PRep]
    have := B575 (E := G.E) (ι := ι) (id := id) (ep := ep) (b := .ints m k ep xs) rfl (off := 0) (n := xs.length) (a := (ι id).a) (cap := (ι id).cap) (by omega) (fun hp => by
     obtain ⟨B, o, ha⟩ := hr.1.addr hp
     exact ⟨B, o, ha, by rw [ha]; simp⟩) hr.1.1 h1 h2
    rw [A22] at this
    exact ⟨_, hb0, this⟩
   ·cases h
  ·rename_i m j ep' xs hb'
   rw [hb0] at hb'; cases hb'
   split at h
   ·rename_i ht he
    have := B7 he; subst this
    obtain ⟨e, hu, hs⟩ := B227 ok ht
    obtain ⟨l, u, hK, h1, h2, hb⟩ := B57 h hl hh
    have hv := (hx.2 _ _ _ rfl).2 rfl
    subst hv
    simp only [BRep] at hr
    refine ⟨_, _, _, ι, hK, B89 hu hs (hb true (ι id).cap hr.1.1), .refl hH hF, ?_⟩
    simp only [PRep]
    have := B575 (E := G.E) (ι := ι) (id := id) (ep := ep) (b := .rows m j ep xs) rfl (off := 0) (n := xs.length) (a := (ι id).a) (cap := (ι id).cap) (by omega) (fun hp => by
     obtain ⟨B, o, ha⟩ := hr.1.addr hp
     exact ⟨B, o, ha, by rw [ha]; simp⟩) hr.1.1 h1 h2
    rw [A22] at this
    exact ⟨_, hb0, this⟩
   ·cases h
  ·cases h
 ·rename_i id ep off len
  simp only [PRep] at hx
  obtain ⟨b, hb0, hx⟩ := hx
  split at h
  ·rename_i m k ep' xs hb'
   rw [hb0] at hb'; cases hb'
   split at h
   ·rename_i ht he
    have := B7 he; subst this
    obtain ⟨e, hu, hs⟩ := B226 ok ht
    obtain ⟨l, u, hK, h1, h2, hb⟩ := B57 h hl hh
    obtain ⟨g1, a, cap, rfl, g0, g2⟩ := (hx.2 _ _ _ rfl).2 rfl
    refine ⟨_, _, _, ι, hK, B89 hu hs (hb true cap g0), .refl hH hF, ?_⟩
    simp only [PRep]
    exact ⟨_, hb0, B575 rfl g1 g2 g0 h1 h2⟩
   ·cases h
  ·rename_i m j ep' xs hb'
   rw [hb0] at hb'; cases hb'
   split at h
   ·rename_i ht he
    have := B7 he; subst this
    obtain ⟨e, hu, hs⟩ := B227 ok ht
    obtain ⟨l, u, hK, h1, h2, hb⟩ := B57 h hl hh
    obtain ⟨g1, a, cap, rfl, g0, g2⟩ := (hx.2 _ _ _ rfl).2 rfl
    refine ⟨_, _, _, ι, hK, B89 hu hs (hb true cap g0), .refl hH hF, ?_⟩
    simp only [PRep]
    exact ⟨_, hb0, B575 rfl g1 g2 g0 h1 h2⟩
   ·cases h
  ·cases h
 ·cases h
end
section
variable {G : Prg} {w : World} {Fz : Nat -> Prop} {ι : Nat -> Loc} {H : List (Blk G.E.T)}
theorem lt_u8 {x y : Int} (hx : IntKind.u8.has x) (hy : IntKind.u8.has y) : (x.toNat.toUInt8 < y.toNat.toUInt8) = (x < y) := by
 rw [B95] at hx hy
 simp only at hx hy
 rw [eq_iff_iff, UInt8.lt_iff_toNat_lt]
 simp only [Nat.toUInt8, UInt8.toNat_ofNat']
 omega
theorem B800 : ∀ {xs ys : List Int}, (∀ x ∈ xs, IntKind.u8.has x) -> (∀ x ∈ ys, IntKind.u8.has x) -> Lib.compareBytes (Lib.bytesOf xs) (Lib.bytesOf ys) = cmpI xs ys
 | [], [], _, _ => rfl
 | [], _ :: _, _, _ => rfl
 | _ :: _, [], _, _ => rfl
 | a :: l, b :: m, h1, h2 => by
  have ha := h1 a (A23 ..)
  have hb := h2 b (A23 ..)
  show (if a.toNat.toUInt8 < b.toNat.toUInt8 then (-1 : Int) else if b.toNat.toUInt8 < a.toNat.toUInt8 then 1 else Lib.compareBytes (Lib.bytesOf l) (Lib.bytesOf m)) = _
  rw [B800 (fun x hx => h1 x (A29 _ hx)) fun x hx => h2 x (A29 _ hx)]
  simp only [lt_u8 ha hb, lt_u8 hb ha, cmpI]
theorem B491 {xs : List Int} {x : Value} (h : FRep G.E w anyB (.ints .u8 xs) x) : (Extern.Bytes.bytesOf x).run G.P w = .ok ⟨(Lib.bytesOf xs).toArray⟩ w ∧ ∀ y ∈ xs, IntKind.u8.has y := by
 cases h with
 | ints h1 h2 h0 h3 =>
  rename_i a cap
  refine ⟨?_, h1⟩
  by_cases hne : xs = []
  ·subst hne
   cases a with
   | none => rfl
   | some A => simp [Extern.Bytes.bytesOf, Extern.Bytes.loadBytes, Lib.bytesOf]; rfl
  ·obtain ⟨B, o, rfl, _, hc⟩ := h3 hne
   have := Lib.run_loadBytesX (P := G.P) (w := w) xs ⟨B, o, none⟩ .empty (fun j x hj => by
    have e : (⟨B, o, none⟩ : Addr).add j = ⟨B, o + j, none⟩ := by unfold Addr.add; split <;> simp_all
    rw [e]; exact hc j x hj)
   simpa [Extern.Bytes.bytesOf] using this
theorem B837 (ok : PrgOk G) {f : Nat} {args : List (PV G.E.T)} {vs : List Value} {p : PV G.E.T} (h : cmpV G H f args = some p) (hH : HRep G.E w Fz ι H) (ha : PReps G.E w Fz ι H args vs) :
  ∃ v, (callFunc f vs.toArray).run G.P w = .ok (.value v) w ∧ PRep G.E w Fz ι H p v := by
 unfold cmpV at h
 split at h
 ·rename_i x y hf
  split at h
  ·rename_i xs l1 ys l2 h1 h2
   cases h
   rcases vs with _ | ⟨vx, _ | ⟨vy, _ | ⟨_, _⟩⟩⟩ <;> simp only [PReps, A69, and_false] at ha
   obtain ⟨e1, b1⟩ := B491 (B181 hH h1 ha.1)
   obtain ⟨e2, b2⟩ := B491 (B181 hH h2 ha.2)
   obtain ⟨fn, q1, q2, q3, q4, q5⟩ := ok.cmp f hf
   refine ⟨.int .i64 (cmpI xs ys), ?_, ?_⟩
   ·rw [run_callFunc_extern q1 q2 q3 q4 q5]
    change ((Sem.run G.P (do pure (goInt (Extern.BytealgCompare.cmp (← Extern.Bytes.bytesOf vx) (← Extern.Bytes.bytesOf vy))))) w).andThen _ = _
    simp only [Sem.run_bind, e1, e2, Sem.run_pure, Result.andThen_ok, Lib.cmp_eq, B800 b1 b2]
    rfl
   ·simp only [PRep]
    refine .int ?_
    have : ∀ xs ys : List Int, -1 <= cmpI xs ys ∧ cmpI xs ys <= 1 := by
     intro xs
     induction xs with
     | nil => intro ys; cases ys <;> simp [cmpI]
     | cons a l ih =>
      intro ys
      cases ys with
      | nil => simp [cmpI]
      | cons b m =>
       simp only [cmpI]
       split
       ·omega
       ·split
        ·omega
        ·exact ih m
    have := this xs ys
    rw [B95]
    simp only
    omega
  ·cases h
 ·cases h
end
section
variable {G : Prg} {w w' : World} {Fz : Nat -> Prop} {ι : Nat -> Loc} {H : List (Blk G.E.T)} {R : Type} {r : R} {X : Ctx}
theorem B821 {α : Type} : ∀ {l : List α} {i : Nat} {a : α}, getL l i = some a -> setL l i a = l
 | [], i, a, h => by cases i <;> rfl
 | x :: l, 0, a, h => by simp only [getL, A16] at h; subst h; rfl
 | x :: l, i + 1, a, h => by simp only [getL] at h; simp only [setL, B821 h]
theorem B938 {p : PV G.E.T} {v : Value} (hH : HRep G.E w Fz ι H) (h : PRep G.E w Fz ι H p v) : PRep G.E w Fz ι H (subOf H p) v := by
 unfold subOf
 split
 ·rename_i id ep
  split
  ·rename_i m k ep' xs hb
   split
   ·rename_i he
    have he := B7 he
    subst he
    simp only [PRep] at h ⊢
    obtain ⟨b, hb', h1, h2⟩ := h
    rw [hb] at hb'; cases hb'
    obtain ⟨_, h3⟩ := h2 ep xs.length 1 rfl
    have h3 := h3 rfl
    refine ⟨_, hb, h1, fun ep2 len2 sz2 e => ?_⟩
    cases e
    refine ⟨A11 _, fun _ => ⟨by omega, _, _, h3, ?_, fun hl => ?_⟩⟩
    ·have hr := hH.rep id _ hb
     simp only [BRep] at hr
     exact hr.1.1
    ·have hr := hH.rep id _ hb
     simp only [BRep] at hr
     rcases hr.1.2.2 with ⟨_, e⟩ | ⟨B, o, e, _⟩
     ·have := hr.1.1; omega
     ·exact ⟨B, o, e, by rw [e]; simp⟩
   ·exact h
  ·exact h
 ·exact h
theorem B775 (ok : PrgOk G) {t tx ty : TypeId} {s x : PV G.E.T} {K : PV G.E.T -> List (Blk G.E.T) -> Option R} (h : copyV G H t s x K = some r) (hH : HRep G.E w Fz ι H) (hF : Fram G.E X w Fz ι H)
  {vs vx : Value} (hs : PRep G.E w Fz ι H s vs) (hx : PRep G.E w Fz ι H x vx) :
  ∃ p H' v w', K p H' = some r ∧ (Builtin.copy_ #[t, tx] ty #[vs, vx]).run G.P w = .ok v w' ∧ Step G.E X w w' Fz Fz ι ι H H' ∧ PRep G.E w' Fz ι H' p v := by
 unfold copyV at h
 split at h
 ·cases h
 rename_i e he
 split at h
 ·rename_i k hsz hel
  obtain ⟨hu, _⟩ := B130 ok he hel
  obtain ⟨i0, hi0, hi1⟩ := B229 hsz
  have hs1 : (G.P.info? e).map (·.size) = some 1 := by rw [hi0]; simp [hi1]
  split at h
  ·rename_i ys lent id ep off len hys
   have hread := B181 hH hys hx
   cases hread with
   | ints q1 q2 q3 q4 =>
   rename_i ax capx
   simp only [PRep] at hs
   obtain ⟨b, hb, hsub⟩ := hs
   split at h
   ·rename_i k' ep' xs hb'
    rw [hb] at hb'; cases hb'
    split at h
    ·rename_i hep hkk
     have hkk := A39 hkk
     subst hkk
     obtain ⟨_, hsub⟩ := hsub
     obtain ⟨_, hsub⟩ := hsub ep' xs.length 1 rfl
     obtain ⟨hoff, a, cap, rfl, hcap, hbase⟩ := hsub (B7 hep)
     have hrep := hH.rep id _ hb
     simp only [BRep] at hrep
     obtain ⟨hrow, hrange, hcells⟩ := hrep
     have hmax : (k : IntKind) = k := rfl
     have hnum : IntKind.i64.has ((min ys.length len : Nat) : Int) := by
      have : ys.length <= maxLen := q2
      unfold maxLen at this
      simp only [IntKind.has, IntKind.min, IntKind.max, IntKind.signed, IntKind.bits]
      simp
      omega
     by_cases hn : min ys.length len = 0
     ·have hrun := run_copy_none (P := G.P) w t tx ty e a ax len cap ys.length capx hu hs1 hn
      have hsame : xs.take off ++ ys.take (min ys.length len) ++ xs.drop (off + min ys.length len) = xs := by
       rw [hn, A116, A38, A36, A105]
      rw [hsame, B821 hb, hn] at h
      refine ⟨_, _, _, w, h, hrun, Step.refl hH hF, ?_⟩
      simp only [PRep]
      exact .int (by rw [hn] at hnum; exact hnum)
     ·obtain ⟨B, o, hl, rfl⟩ := hbase (by omega)
      have hne : ys ≠ [] := fun e => by subst e; simp at hn
      obtain ⟨Bx, ox, rfl, _, hcx⟩ := q4 hne
      rcases hrow.2.2 with ⟨hn0, _⟩ | ⟨B', o', ha, hB, hc⟩
      ·rw [hl] at hn0; cases hn0
      rw [hl] at ha; cases ha
      have hlen : ((ys.take (min ys.length len)).map fun y => Value.int k y).length = min ys.length len := by
       rw [A51, A24]; omega
      have hex : ∀ j, j < min ys.length len -> (∃ u, w.cell? ⟨B, o + off * 1 + j, none⟩ = some u) ∧ w.frozen? ⟨B, o + off * 1 + j, none⟩ = false := fun j hj => by
       have := hc (off + j) (by have := hrow.1; omega)
       rwa [show o + off * 1 + j = o + (off + j) by omega]
      have hrun := run_copy_cells (P := G.P) w t tx ty e B (o + off * 1) len cap ⟨Bx, ox, none⟩ ys.length capx ((ys.take (min ys.length len)).map fun y => Value.int k y) hu hs1 hlen
       (fun j v hj => by
        rw [A45] at hj
        obtain ⟨y, hy, rfl⟩ := A93.1 hj
        rw [Addr.add_lit]
        exact hcx j y (by rw [A66] at hy; split at hy; exact hy; cases hy))
       (fun j hj => by obtain ⟨⟨u, hu⟩, _⟩ := hex j (by omega); rw [hu]; rfl) (fun j hj => (hex j (by omega)).2)
       (fun v hv => by obtain ⟨y, _, rfl⟩ := A60.1 hv; simp [Value.oneCell'])
      rw [hlen] at hrun
      refine ⟨_, _, _, _, h, hrun, Step.write hH hF hb rfl rfl (b' := .ints .own k ep' (xs.take off ++ ys.take (min ys.length len) ++ xs.drop (off + min ys.length len))) (by simp only [Blk.info, A13, A24, A77]; rw [show min off xs.length + min (min ys.length len) ys.length + (xs.length - (off + min ys.length len)) = xs.length by omega]) rfl hl (o + off * 1) _ fun KK => ?_, ?_⟩
      ·have hxl : (xs.take off ++ ys.take (min ys.length len) ++ xs.drop (off + min ys.length len)).length = xs.length := by
        simp only [A13, A24, A77]; omega
       have hcell := fun c => B134 (w := w) (B := B) (o := o + off * 1) (vs := (ys.take (min ys.length len)).map fun y => Value.int k y) (fun j hj => (hex j (by omega)).1) c
       simp only [BRep, hxl]
       refine ⟨⟨hrow.1, hrow.2.1, .inr ⟨B, o, hl, by rw [(B85 B _ _ w).2.2.2.1]; exact hB, fun c hc' => ?_⟩⟩, fun z hz => ?_, fun B' o' ha j z hz => ?_⟩
       ·rw [World.frozen?_setCells, hcell]
        refine ⟨?_, (hc c hc').2⟩
        split
        ·rename_i hin
         exact ⟨_, A18 (by omega)⟩
        ·exact (hc c hc').1
       ·rcases A44.1 hz with hz | hz
        ·rcases A44.1 hz with hz | hz
         ·exact hrange z (A81 hz)
         ·exact q1 z (A81 hz)
        ·exact hrange z (A97 hz)
       ·rw [hl] at ha; cases ha
        rw [hcell, hlen]
        by_cases hin : off <= j ∧ j < off + min ys.length len
        ·rw [A3 (by omega), show o + j - (o + off * 1) = j - off by omega]
         rw [A27, A48 (by rw [A24]; omega), A57 (by rw [A24, A24]; omega), A24] at hz
         rw [show j - min off xs.length = j - off by omega] at hz
         rw [A45, hz]; rfl
        ·rw [A7 (by omega)]
         refine hcells B o hl j z ?_
         by_cases hlt : j < off
         ·rw [A27, A57 (by rw [A24]; omega), A66, A3 hlt] at hz
          exact hz
         ·rw [A48 (by rw [A13, A24, A24]; omega), A54, A13, A24, A24] at hz
          rwa [show off + min ys.length len + (j - (min off xs.length + min (min ys.length len) ys.length)) = j by omega] at hz
      ·simp only [PRep]
       exact .int hnum
    ·cases h
   ·cases h
  ·cases h
 ·cases h
end
section
variable {G : Prg} {w w' : World} {Fz : Nat -> Prop} {ι : Nat -> Loc} {H : List (Blk G.E.T)} {R : Type} {r : R} {X : Ctx}
def B23 (E : Env) (w : World) (Fz : Nat -> Prop) (ι : Nat -> Loc) (H : List (Blk E.T)) (env : List (Nat × PV E.T)) (a : Act) : Prop :=
 ∀ t, PRep E w Fz ι H (look t env) (a.tmps.getD t undef)
theorem B23.mono {E : Env} {w w' : World} {Fz Fz' : Nat -> Prop} {ι ι' : Nat -> Loc} {H H' : List (Blk E.T)} (K : Keep E w w' Fz Fz' ι ι' H H') {env : List (Nat × PV E.T)} {a : Act} (h : B23 E w Fz ι H env a) : B23 E w' Fz' ι' H' env a :=
 fun t => (h t).mono K
theorem B11 {env : List (Nat × PV G.E.T)} {a : Act} (h : B23 G.E w Fz ι H env a) (x : Operand) : PRep G.E w Fz ι H (eval env x) (a.eval x) := by
 cases x with
 | tmp t => exact h t
 | const v => exact B317 v
 | global g => simp [eval, PRep]
 | func f => simp only [eval, PRep, Act.eval]; exact ⟨#[], rfl, by simp [PReps]⟩
theorem B147 {env : List (Nat × PV G.E.T)} {a : Act} (h : B23 G.E w Fz ι H env a) : ∀ l : List Operand, PReps G.E w Fz ι H (evals env l) (l.map a.eval)
 | [] => by simp [evals, PReps]
 | x :: l => by simp only [evals, A53, PReps]; exact ⟨B11 h x, B147 h l⟩
theorem B250 {env : List (Nat × PV G.E.T)} {a : Act} (h : B23 G.E w Fz ι H env a) : ∀ l : List (Nat × Operand), B105 G.E w Fz ι H (B91 env l) (l.map fun (i, x) => (i, a.eval x))
 | [] => trivial
 | (i, x) :: l => ⟨rfl, B11 h x, B250 h l⟩
theorem B274 {T : Nat -> Type} {env : List (Nat × PV T)} : ∀ l : List (Nat × Operand), (B91 env l).length = l.length
 | [] => rfl
 | (_, _) :: l => by simp [B91, B274 l]
structure Gives (G : Prg) (X : Ctx) (o : Oper) (a : Act) (w : World) (Fz : Nat -> Prop) (ι : Nat -> Loc) (H : List (Blk G.E.T)) (p : PV G.E.T) (H' : List (Blk G.E.T)) (v : Value) (w' : World) (Fz' : Nat -> Prop) (ι' : Nat -> Loc) : Prop where
 run : (execOp a.eval o).run G.P w = .ok (.value v) w' ∨ ((execOp a.eval o).run G.P w = .ok .skip w' ∧ v = undef)
 step : Step G.E X w w' Fz Fz' ι ι' H H'
 rep : PRep G.E w' Fz' ι' H' p v
theorem B540 {k : IntKind} : ∀ {l : List (PV G.E.T)} {vs : List Value} {a n : Int}, B178 true k a l = some n -> PReps G.E w Fz ι H l vs -> k.has a -> (vs.foldlM Builtin.max2 (.int k a)).run G.P w = .ok (.int k n) w ∧ k.has n
 | [], [], a, n, h, _, ha => by
  simp [B178] at h; subst h
  exact ⟨by simp, ha⟩
 | p :: l, v :: vs, a, n, h, hr, ha => by
  simp only [PReps] at hr
  cases p <;> simp only [B178] at h <;> try (cases h; done)
  rename_i kb b
  have hp := hr.1
  simp only [PRep] at hp
  cases hp with | int hb =>
  split at h
  ·rename_i hk hm
   have := A39 hk; subst this
   have hi : k.has (imax a b) := by unfold imax; split <;> assumption
   obtain ⟨h1, h2⟩ := B540 h hr.2 hi
   refine ⟨?_, h2⟩
   rw [List.foldlM_cons]
   simp only [Builtin.max2, pure_bind]
   exact h1
  ·rename_i hk hm; cases hm
  ·cases h
 | [], _ :: _, _, _, _, hr, _ => by simp only [PReps] at hr
 | _ :: _, [], _, _, _, hr, _ => by simp only [PReps] at hr
theorem B541 {k : IntKind} : ∀ {l : List (PV G.E.T)} {vs : List Value} {a n : Int}, B178 false k a l = some n -> PReps G.E w Fz ι H l vs -> k.has a -> (vs.foldlM Builtin.min2 (.int k a)).run G.P w = .ok (.int k n) w ∧ k.has n
 | [], [], a, n, h, _, ha => by
  simp [B178] at h; subst h
  exact ⟨by simp, ha⟩
 | p :: l, v :: vs, a, n, h, hr, ha => by
  simp only [PReps] at hr
  cases p <;> simp only [B178] at h <;> try (cases h; done)
  rename_i kb b
  have hp := hr.1
  simp only [PRep] at hp
  cases hp with | int hb =>
  split at h
  ·rename_i hk hm; cases hm
  ·rename_i hk hm
   have := A39 hk; subst this
   have hi : k.has (imin a b) := by unfold imin; split <;> assumption
   obtain ⟨h1, h2⟩ := B541 h hr.2 hi
   refine ⟨?_, h2⟩
   rw [List.foldlM_cons]
   simp only [Builtin.min2, pure_bind]
   exact h1
  ·cases h
 | [], _ :: _, _, _, _, hr, _ => by simp only [PReps] at hr
 | _ :: _, [], _, _, _, hr, _ => by simp only [PReps] at hr
theorem B207 {t : TypeId} {cs : Array Value} {l l' : List (PV G.E.T)} {p : PV G.E.T} {o : Nat} (hl : PReps G.E w Fz ι H l cs.toList) (h1 : ∀ p ∈ l, p.one = true) (hd : dropL o l = some l') (h : packT G t l' = some p) :
  ∃ v, (part t cs o).run G.P w = .ok v w ∧ PRep G.E w Fz ι H p v := by
 obtain ⟨g1, rfl⟩ := B145 _ _ _ hd
 have hdrop := hl.drop o
 unfold packT at h
 split at h
 ·rename_i ha
  split at h
  ·rename_i n hn
   split at h
   ·rename_i q hq
    cases h
    obtain ⟨g2, rfl⟩ := B520 _ _ _ hq
    refine ⟨.agg (cs.extract o (o + n)), by simp [part, B244 ha, B70 hn], ?_⟩
    simp only [PRep]
    refine ⟨_, rfl, fun p hp => h1 p (A97 (A81 hp)), ?_⟩
    have := hdrop.take n
    simpa [List.extract_eq_take_drop] using this
   ·cases h
  ·cases h
 ·rename_i ha
  split at h
  ·rename_i v l'' heq
   cases h
   have hq : (l.drop o)[0]? = some p := by rw [heq]; rfl
   obtain ⟨u, hu, hp⟩ := hdrop.get hq
   rw [A54, A36] at hu
   have : cs[o]? = some u := by simpa using hu
   exact ⟨u, by simp [part, B244 ha, this], hp⟩
  ·cases h
 ·cases h
def EqOk (G : Prg) (w : World) (Fz : Nat -> Prop) (ι : Nat -> Loc) (H : List (Blk G.E.T)) (D : Nat) (t : TypeId) (g : PV G.E.T -> PV G.E.T -> Option Bool) : Prop :=
 ∀ p q b x y, g p q = some b -> PRep G.E w Fz ι H p x -> PRep G.E w Fz ι H q y -> (Op.equalIn D t x y).run G.P w = .ok b w
theorem B534 {g : PV G.E.T -> PV G.E.T -> Option Bool} {t : TypeId} {D off : Nat} (hg : EqOk G w Fz ι H D t g) {xs ys : List (PV G.E.T)} {cs ds : Array Value} (hx : PReps G.E w Fz ι H xs cs.toList) (hy : PReps G.E w Fz ι H ys ds.toList)
  (h1 : ∀ p ∈ xs, p.one = true) (h2 : ∀ p ∈ ys, p.one = true) {b : Bool} (h : eqAt G g t off xs ys = some b) : ∃ x y, (part t cs off).run G.P w = .ok x w ∧ (part t ds off).run G.P w = .ok y w ∧ (Op.equalIn D t x y).run G.P w = .ok b w := by
 unfold eqAt at h
 split at h
 ·rename_i l m e1 e2
  split at h
  ·rename_i p q e3 e4
   obtain ⟨x, rx, px⟩ := B207 hx h1 e1 e3
   obtain ⟨y, ry, py⟩ := B207 hy h2 e2 e4
   exact ⟨x, y, rx, ry, hg p q b x y h px py⟩
  ·cases h
 ·cases h
theorem B366 {g : TypeId -> PV G.E.T -> PV G.E.T -> Option Bool} {D : Nat} (hg : ∀ t, EqOk G w Fz ι H D t (g t)) {xs ys : List (PV G.E.T)} {cs ds : Array Value} (hx : PReps G.E w Fz ι H xs cs.toList) (hy : PReps G.E w Fz ι H ys ds.toList)
  (h1 : ∀ p ∈ xs, p.one = true) (h2 : ∀ p ∈ ys, p.one = true) : ∀ (l : List Field) (b : Bool), eqFs G g xs ys l = some b -> (Op.eqFields D cs ds l).run G.P w = .ok b w
 | [], b, h => by simp only [eqFs, A16] at h; subst h; simp [Op.eqFields]
 | f :: l, b, h => by
  simp only [eqFs] at h
  simp only [Op.eqFields, Sem.run_ite]
  by_cases hn : f.name = "_"
  ·rw [A3 hn] at h
   rw [A7 (by simp [hn])]
   exact B366 hg hx hy h1 h2 l b h
  ·rw [A7 hn] at h
   rw [A3 hn]
   split at h
   ·rename_i a c e1 e2
    cases h
    obtain ⟨x, y, rx, ry, re⟩ := B534 (hg f.type) hx hy h1 h2 e1
    have ih := B366 hg hx hy h1 h2 l c e2
    simp only [Sem.run_bind, rx, ry, re, Result.andThen_ok, Sem.run_ite]
    cases a with
    | true => simpa using ih
    | false => simp
   ·cases h
theorem B535 {g : PV G.E.T -> PV G.E.T -> Option Bool} {D : Nat} {t : TypeId} {sz : Nat} (hg : EqOk G w Fz ι H D t g) {xs ys : List (PV G.E.T)} {cs ds : Array Value} (hx : PReps G.E w Fz ι H xs cs.toList) (hy : PReps G.E w Fz ι H ys ds.toList)
  (h1 : ∀ p ∈ xs, p.one = true) (h2 : ∀ p ∈ ys, p.one = true) : ∀ (l : List Nat) (b : Bool), eqNV G g t sz xs ys l = some b -> (Op.eqItems D t sz cs ds l).run G.P w = .ok b w
 | [], b, h => by simp only [eqNV, A16] at h; subst h; simp [Op.eqItems]
 | i :: l, b, h => by
  simp only [eqNV] at h
  simp only [Op.eqItems]
  split at h
  ·rename_i a c e1 e2
   cases h
   obtain ⟨x, y, rx, ry, re⟩ := B534 hg hx hy h1 h2 e1
   have ih := B535 hg hx hy h1 h2 l c e2
   simp only [Sem.run_bind, rx, ry, re, Result.andThen_ok, Sem.run_ite]
   cases a with
   | true => simpa using ih
   | false => simp
  ·cases h
theorem B309 : ∀ (d D : Nat) (t : TypeId), d <= D -> EqOk G w Fz ι H D t (aggEq G d t)
 | 0, D, t, _ => fun p q b x y h _ _ => by simp [aggEq] at h
 | d + 1, D, t, hD => fun p q b x y h hp hq => by
  obtain ⟨D, rfl⟩ : ∃ m, D = m + 1 := ⟨D - 1, by omega⟩
  simp only [aggEq] at h
  split at h
  ·rename_i k k1 a k2 b' hu
   split at h
   ·rename_i hk
    cases h
    have hk := A39 hk
    subst hk
    simp only [PRep] at hp hq
    cases hp; cases hq
    rw [run_equalIn_int (w := w) D t k1 k a b' hu]
    congr 1
   ·cases h
  ·rename_i a b' hu
   cases h
   simp only [PRep] at hp hq
   cases hp; cases hq
   rw [B416 D t hu]
   congr 1
  ·rename_i a b' hu
   cases h
   simp only [PRep] at hp hq
   cases hp with | str e1 l1 => cases hq with | str e2 l2 =>
   subst e1; subst e2
   rw [run_equalIn_string (w := w) D t _ _ hu, B120]
  ·rename_i fs xs ys hu
   simp only [PRep] at hp hq
   obtain ⟨cs, rfl, h1, hx⟩ := hp
   obtain ⟨ds, rfl, h2, hy⟩ := hq
   split at h
   ·rename_i hst
    have hf : G.P.fieldsOf t = fs := by simp [Program.fieldsOf, hu]
    rw [run_equalIn_struct (w := w) D t cs ds (by rw [hf]; exact hu) hst, hf]
    exact B366 (fun t => B309 d D t (by omega)) hx hy h1 h2 _ _ h
   ·cases h
  ·rename_i n e xs ys hu
   simp only [PRep] at hp hq
   obtain ⟨cs, rfl, h1, hx⟩ := hp
   obtain ⟨ds, rfl, h2, hy⟩ := hq
   split at h
   ·rename_i sz hsz
    unfold B25 at hsz
    split at hsz
    ·rename_i i hi
     cases hsz
     rw [run_equalIn_array (w := w) D cs ds hu hi, show G.P.cellsOf e = i.size by simp [Program.cellsOf, hi]]
     exact B535 (B309 d D e (by omega)) hx hy h1 h2 _ _ h
    ·cases hsz
   ·cases h
  ·cases h
theorem B688 {op : BinOp} {p q : PV G.E.T} {K : PV G.E.T -> Option R} {t : TypeId} (h : B329 G t op p q K = some r) {x y : Value}
  (hp : PRep G.E w Fz ι H p x) (hq : PRep G.E w Fz ι H q y) (ox oy : Operand) :
  ∃ s v, K s = some r ∧ (do eqGuard op t ox oy x y; binOp op t x y).run G.P w = .ok v w ∧ PRep G.E w Fz ι H s v := by
 unfold B329 at h
 split at h
 ·rename_i xs ys
  split at h
  ·rename_i b hg hb
   have he := B309 (G := G) (w := w) (Fz := Fz) (ι := ι) (H := H) 20 10000 t (by omega) _ _ b x y hb hp hq
   simp only [PRep] at hp hq
   obtain ⟨cs, rfl, _, _⟩ := hp
   obtain ⟨ds, rfl, _, _⟩ := hq
   obtain ⟨s, v, h1, h2, h3⟩ := B164 (w := w) (P := G.P) (Fz := Fz) (E := G.E) (x := .agg cs) (y := .agg ds) h t (by simpa [Op.equal, Op.maxDepth] using he) rfl rfl
   exact ⟨s, v, h1, by simp [run_eqGuard_agg w op t ox oy cs ds hg, h2], h3.toPR⟩
  ·cases h
 ·exact B689 h hp hq ox oy
theorem B897 {s : TypeId} {f o : Nat} {t : TypeId} (h1 : B216 G s f = some o) (h2 : B704 G s f = some t) : ∃ (fields : Array Field) (fd : Field), G.P.underlying s = some (.struct fields) ∧ fields[f]? = some fd ∧ fd.offset = o ∧ fd.type = t := by
 unfold B216 at h1
 unfold B704 at h2
 split at h1
 ·rename_i fields hu
  rw [hu] at h2
  simp only at h2
  split at h1
  ·rename_i fd hfd
   rw [hfd] at h2
   split at h1
   ·cases h1; cases h2
    exact ⟨fields, fd, hu, by simpa using hfd, rfl, rfl⟩
   ·cases h1
  ·cases h1
 ·cases h1
theorem B141.map {env : List (Nat × PV G.E.T)} {a : Act} (h : B23 G.E w Fz ι H env a) (o : Option Operand) : B141 G.E w Fz ι H (o.map (eval env)) (o.map a.eval) := by
 cases o with
 | none => trivial
 | some x => exact B11 h x
def B283 (o : Oper) : Bool := match o.op with
 | .call c => match c.callee with
  | .value _ => true
  | _ => false
 | _ => false
theorem B995 {pl : Option Nat} (hpl : plOk pl H = true) (hH : HRep G.E w Fz ι H) (hF : Fram G.E X w Fz ι H) {z : List (PV G.E.T)} {cs : List Value} (hl : PReps G.E w Fz ι H z cs) {k : IntKind} {xs : List Int} (h : B410 z = some (k, xs)) (t : TypeId) :
  Step G.E X w (w.alloc (.cells cs.toArray t)) Fz Fz ι (updι ι (plId pl H) ⟨some ⟨w.heap.size, 0, none⟩, xs.length⟩) H (plPut pl H (.ints .own k (plEp pl) xs)) ∧
   PRep G.E (w.alloc (.cells cs.toArray t)) Fz (updι ι (plId pl H) ⟨some ⟨w.heap.size, 0, none⟩, xs.length⟩) (plPut pl H (.ints .own k (plEp pl) xs)) (.eptr (plId pl H) (plEp pl) 0 0) (.pointer (some ⟨w.heap.size, 0, none⟩)) ∧ True := by
 unfold B410 at h
 split at h
 ·rename_i hb1 hb2
  have hb1 : 33 <= z.length := A86 hb1
  have hb2 := A86 hb2
  obtain ⟨g1, g2⟩ := B202 h
  have hcell : ∀ (j : Nat) (x : Int), xs[j]? = some x -> cs[j]? = some (.int k x) ∧ k.has x := fun j x hj => by
   obtain ⟨u, hu, hp⟩ := hl.get (g2 j x hj)
   simp only [PRep] at hp
   cases hp with
   | int hk => exact ⟨hu, hk⟩
  have hat : ∀ q, (w.alloc (.cells cs.toArray t)).cell? ⟨w.heap.size, 0 + q, none⟩ = cs[q]? := fun q => by rw [B588 q 0 rfl]; simp
  have hr : RowBecomes w (w.alloc (.cells cs.toArray t)) ⟨none, 0⟩ ⟨some ⟨w.heap.size, 0, none⟩, xs.length⟩ 1 xs.length (xs.map fun y => Value.int k y) := by
   refine ⟨⟨A11 _, by simp only [maxLen]; omega, .inr ⟨w.heap.size, 0, rfl, by simp, fun c hc => ?_⟩⟩, fun B o ha q v hv => ?_, rfl, rfl, rfl, by simp, fun B hB _ => heap_alloc_old w _ B hB, fun A' hA' => .inr ?_⟩
   ·have hc' : c < xs.length := by simpa using hc
    refine ⟨⟨_, by rw [hat]; exact (hcell c _ (A18 hc')).1⟩, by simp⟩
   ·simp only [A16, Addr.mk.injEq] at ha
    obtain ⟨rfl, rfl, _⟩ := ha
    rw [hat]
    rw [A45] at hv
    obtain ⟨y, hy, rfl⟩ := A93.1 hv
    exact (hcell q y hy).1
   ·simp at hA'; subst hA'; simp
  refine ⟨Step.rowAt hpl hH hF ⟨_, _, rfl⟩ rfl hr fun _ => hr.ints (fun y hy => ?_) (by rw [B14]), ?_, trivial⟩
  ·obtain ⟨j, hj⟩ := List.mem_iff_getElem?.1 hy
   exact (hcell j y hj).2
  ·simp only [PRep]
   refine ⟨_, B170 hpl, ⟨_, rfl⟩, fun ep' len sz hi => ?_⟩
   simp only [Blk.info, A16, A33] at hi
   obtain ⟨rfl, rfl, rfl⟩ := hi
   exact ⟨A11 _, fun _ => ⟨Int.le_refl _, by simp; omega, w.heap.size, 0, by rw [B14], by simp⟩⟩
 ·cases h
theorem B946 (ok : PrgOk G) {rec : Rec G} {ann : Ann} {pl : Option Nat} {o : Oper} {σ : St G.E.T} {K : PV G.E.T -> List (Blk G.E.T) -> Option R} (h : vop G rec ann pl o σ K = some r) (hc : B283 o = false) {a : Act}
  (hE : B23 G.E w Fz ι σ.heap σ.env a) (hH : HRep G.E w Fz ι σ.heap) (hF : Fram G.E X w Fz ι σ.heap) :
  ∃ p H' v w' Fz' ι', K p H' = some r ∧ Gives G X o a w Fz ι σ.heap p H' v w' Fz' ι' := by
 obtain ⟨dst, op, type, pos, after, guard⟩ := o
 have pure : ∀ {p : PV G.E.T} {v : Value}, K p σ.heap = some r -> (execOp a.eval ⟨dst, op, type, pos, after, guard⟩).run G.P w = .ok (.value v) w -> PRep G.E w Fz ι σ.heap p v ->
   ∃ p H' v w' Fz' ι', K p H' = some r ∧ Gives G X ⟨dst, op, type, pos, after, guard⟩ a w Fz ι σ.heap p H' v w' Fz' ι' :=
  fun h1 h2 h3 => ⟨_, _, _, w, Fz, ι, h1, .inl h2, .refl hH hF, h3⟩
 cases op <;> simp only [vop] at h <;> try (cases h; done)
 case move x => exact pure h (by simp [execOp]) (B11 hE x)
 case assign x => exact pure h (by simp [execOp]) (B11 hE x)
 case pick c x y =>
  have hcr := B11 hE c
  split at h
  ·rename_i b hb
   rw [hb] at hcr
   simp only [PRep] at hcr
   generalize hcv : a.eval c = cv at hcr
   cases hcr
   split at h
   ·rename_i hbt
    exact pure h (by simp [execOp, hcv, asBool, hbt]) (B11 hE x)
   ·rename_i hbt
    exact pure h (by simp [execOp, hcv, asBool, hbt]) (B11 hE y)
  ·cases h
 case alloc t =>
  split at h
  ·rename_i z hz hpl
   obtain ⟨zv, hrun, hzr, h1, _⟩ := B189 (w := w) (Fz := Fz) (ι := ι) (H := σ.heap) hz
   unfold B878 B406 at h
   cases hbg : B410 z with
   | none =>
    rw [hbg] at h
    refine ⟨_, _, .pointer (some ⟨w.heap.size, 0, none⟩), _, Fz, _, h, .inl ?_, Step.newBoxAt hpl hH hF hzr h1 t, B725 hpl rfl⟩
    simp [execOp, Instr.alloc, hrun, newVar, newRow]
   | some kx =>
    obtain ⟨k, xs⟩ := kx
    rw [hbg] at h
    obtain ⟨s1, s2, s3⟩ := B995 (X := X) hpl hH hF hzr hbg t
    refine ⟨_, _, .pointer (some ⟨w.heap.size, 0, none⟩), _, Fz, _, h, .inl ?_, s1, s2⟩
    simp [execOp, Instr.alloc, hrun, newVar, newRow]
  ·cases h
 case box t x =>
  split at h
  ·rename_i h1
   have hcr := B233 (B11 hE x) h1
   refine ⟨_, _, .pointer (some ⟨w.heap.size, 0, none⟩), _, Fz, _, h, .inl ?_, Step.newBox hH hF hcr (B161.1 h1) t, B853 rfl⟩
   simp [execOp, Instr.box, newVar, newRow]
  ·cases h
 case makeMap t res =>
  cases res with
  | some _ => simp only [vop] at h; cases h
  | none =>
   obtain ⟨p, H', v, w', ι', hK, hrun, hs, hp⟩ := B596 h hH hF
   exact ⟨p, H', v, w', Fz, ι', hK, .inl (by simp [execOp, hrun]), hs, hp⟩
 case mapUpdate t m k x =>
  obtain ⟨H', w', Fz', hK, hrun, hs⟩ := B673 ok.env h hH hF (x := a.eval x) (B11 hE m) (B11 hE k) (B11 hE x)
  refine ⟨_, _, undef, w', Fz', ι, hK, .inr ⟨by simp [execOp, hrun], rfl⟩, hs, ?_⟩
  simp only [PRep]
  exact ⟨#[], rfl, by simp [PReps]⟩
 case lookup t m k okb =>
  obtain ⟨p, v, hK, hrun, hp⟩ := B672 ok.env h hH (B11 hE m) (B11 hE k)
  exact pure hK (by simp [execOp, hrun]) hp
 case build t parts =>
  obtain ⟨p, v, hK, hrun, hp⟩ := B692 h (vals := parts.map fun (i, x) => (i, a.eval x)) (by simpa using B250 hE parts.toList)
  exact pure hK (by simp [execOp, hrun]) hp
 case buildSlice t n parts =>
  obtain ⟨p, H', v, w', Fz', ι', hK, hrun, hs, hp⟩ := B463 ok h hH hF (vals := parts.map fun (i, x) => (i, a.eval x)) (by simpa using B250 hE parts.toList) (by simp [B274])
  exact ⟨p, H', v, w', Fz', ι', hK, .inl (by simp [execOp, hrun]), hs, hp⟩
 case makeSlice t l c =>
  obtain ⟨p, H', v, w', ι', hK, hrun, hs, hp⟩ := B515 ok h hH hF (B11 hE l) (B11 hE c)
  exact ⟨p, H', v, w', Fz, ι', hK, .inl (by simp [execOp, hrun]), hs, hp⟩
 case makeFunc fn first captured =>
  cases fn <;> simp only [vop] at h <;> try (cases h; done)
  rename_i f
  split at h
  ·rename_i hf
   have hf' : first = #[] := by cases first; simp_all
   subst hf'
   refine pure h (v := .func (.func f) #[] (captured.map a.eval)) (by simp [execOp, Instr.makeFunc]) ?_
   simp only [PRep]
   exact ⟨_, rfl, by simpa using B147 hE captured.toList⟩
  ·cases h
 case load t x =>
  obtain ⟨p, v, hK, hrun, hp⟩ := B483 ok.env h hH (B11 hE x)
  exact pure hK (by simp [execOp, hrun]) hp
 case store t x y =>
  obtain ⟨H', w', Fz', hK, hrun, hs⟩ := B751 ok.env h hH hF (B11 hE x) (B11 hE y)
  refine ⟨_, H', undef, w', Fz', ι, hK, .inr ⟨by simp [execOp, hrun], rfl⟩, hs, ?_⟩
  simp only [PRep]
  exact ⟨#[], rfl, by simp [PReps]⟩
 case nilCheck x =>
  have hx := B11 hE x
  split at h
  ·rename_i id off he
   rw [he] at hx
   have hx' := hx
   simp only [PRep] at hx'
   obtain ⟨b, _, _, B, o, _, hv⟩ := hx'
   exact pure h (v := a.eval x) (by simp [execOp, hv]) hx
  ·rename_i id ep i f he
   rw [he] at hx
   have hx' := hx
   simp only [PRep] at hx'
   obtain ⟨b, _, ⟨A, hv⟩, _⟩ := hx'
   exact pure h (v := a.eval x) (by simp [execOp, hv]) hx
  ·rename_i l he
   rw [he] at hx
   have hx' := hx
   simp only [PRep] at hx'
   obtain ⟨B, o, hv, _⟩ := hx'
   exact pure h (v := a.eval x) (by simp [execOp, hv]) hx
  ·rename_i f l he
   rw [he] at hx
   have hx' := hx
   simp only [PRep] at hx'
   obtain ⟨cs, hv, _⟩ := hx'
   exact pure h (v := a.eval x) (by simp [execOp, hv]) hx
  ·cases h
 case binOp op t x y yt =>
  obtain ⟨p, v, hK, hrun, hp⟩ := B688 h (B11 hE x) (B11 hE y) x y
  refine pure hK ?_ hp
  simp only [Sem.run_bind] at hrun
  cases hg : (eqGuard op t x y (a.eval x) (a.eval y)).run G.P w <;> simp [hg] at hrun <;> simp [execOp, hg, hrun]
 case unOp op t x =>
  obtain ⟨p, v, hK, hrun, hp⟩ := B793 (P := G.P) h (B11 hE x)
  exact pure hK (by simp [execOp, hrun]) hp.toP
 case convert src dst x =>
  obtain ⟨p, H', v, w', Fz', ι', hK, hrun, hs, hp⟩ := B590 ok h hH hF (B11 hE x)
  exact ⟨p, H', v, w', Fz', ι', hK, .inl (by simp [execOp, hrun]), hs, hp⟩
 case slice t x lo hi mx =>
  split at h
  ·cases h
  ·obtain ⟨p, H', v, ι', hK, hrun, hs, hp⟩ := B748 ok h hH hF (B11 hE x) (B141.map hE lo) (B141.map hE hi)
   exact ⟨p, H', v, w, Fz, ι', hK, .inl (by simp [execOp, hrun]), hs, hp⟩
 case fieldAddr s x f =>
  obtain ⟨p, v, hK, hrun, hp⟩ := B512 h (B11 hE x)
  exact pure hK (by simp [execOp, hrun]) hp
 case field s x f =>
  have hx := B11 hE x
  split at h
  ·rename_i l o t he ho ht
   rw [he] at hx
   simp only [PRep] at hx
   obtain ⟨cs, hv, h1, hl⟩ := hx
   split at h
   ·rename_i l' hd
    split at h
    ·rename_i p hp
     obtain ⟨v, hrun, hpv⟩ := B207 hl h1 hd hp
     obtain ⟨fields, fd, hu, hfd, rfl, rfl⟩ := B897 ho ht
     exact pure h (by simp [execOp, Instr.field, hv, run_underlying hu, hfd, asAgg, hrun]) hpv
    ·cases h
   ·cases h
  ·cases h
 case indexAddr t x i =>
  obtain ⟨p, v, hK, hrun, hp⟩ := B514 ok h hH (B11 hE x) (B11 hE i)
  exact pure hK (by simp [execOp, hrun]) hp
 case index t x i =>
  have hx := B11 hE x
  have hi := B11 hE i
  split at h
  ·rename_i s k j he hei
   rw [he] at hx
   rw [hei] at hi
   simp only [PRep] at hx hi
   generalize hxv : a.eval x = xv at hx
   generalize hiv : a.eval i = iv at hi
   cases hx with | str e1 l1 =>
   cases hi with | int hk =>
   rename_i bs
   subst e1
   split at h
   ·rename_i ht
    split at h
    ·rename_i hin
     have hm := rd_mem hin.1 (show j.toNat < (B9 bs).length by omega)
     have hlt : j.toNat < bs.size := by rw [← B42]; omega
     have hb : bs[j.toNat]? = some bs[j.toNat] := by simp [hlt]
     have hval : ((bs[j.toNat].toNat : Nat) : Int) = rd (B9 bs) j := by
      have h2 : (B9 bs)[j.toNat]? = some ((bs[j.toNat].toNat : Nat) : Int) := by
       rw [B9, A45]
       have : bs.data.toList[j.toNat]? = some bs[j.toNat] := by
        rw [A18 (by simpa using hlt)]; rfl
       rw [this]; rfl
      rw [hm] at h2
      exact (Option.some.inj h2).symm
     refine pure h (v := .int .u8 (bs[j.toNat].toNat : Nat)) (by simp [execOp, Instr.index, hxv, hiv, asIntOf, run_underlying ht, hin.1, hlt]) ?_
     simp only [PRep]
     rw [← hval]
     refine .int ?_
     rw [B95]
     have := bs[j.toNat].toNat_lt
     simp only; omega
    ·cases h
   ·cases h
  ·rename_i l k j he hei
   rw [he] at hx
   rw [hei] at hi
   simp only [PRep] at hx hi
   generalize hiv : a.eval i = iv at hi
   cases hi with | int hk =>
   obtain ⟨cs, hv, h1, hl⟩ := hx
   split at h
   ·rename_i n e ht
    split at h
    ·rename_i sz hs
     split at h
     ·rename_i hin
      split at h
      ·rename_i hit
       split at h
       ·rename_i kk xs hkk
        have ha : B282 G e = some false := by
         unfold B714 at hit
         unfold B282
         split at hit
         ·rename_i q; rw [q]
         ·cases hit
        obtain ⟨g1, g2⟩ := B202 hkk
        have hxx : xs[j.toNat]? = some (rd xs j) := by
         unfold rd
         rw [A96, A18 (by omega)]; rfl
        have hcc := g2 _ _ hxx
        have hlt := (A42.1 hcc).1
        have hd : dropL (j.toNat * 1) l = some (l.drop j.toNat) := by rw [A102]; exact B511 (by omega)
        have hp : packT G e (l.drop j.toNat) = some (.int kk (rd xs j)) := by
         rw [A68 hlt, (A42.1 hcc).2]
         simp only [packT, ha]
        obtain ⟨v, hrun, hpv⟩ := B207 hl h1 hd hp
        rw [A102] at hrun
        exact pure h (by simp [execOp, Instr.index, hv, hiv, asIntOf, run_underlying ht, hin.1, hin.2, B70 hs, hrun]) hpv
       ·cases h
      ·have h := B409 h hin
       split at h
       ·rename_i l' hd
        split at h
        ·rename_i p hp
         obtain ⟨v, hrun, hpv⟩ := B207 hl h1 hd hp
         exact pure h (by simp [execOp, Instr.index, hv, hiv, asIntOf, run_underlying ht, hin.1, hin.2, B70 hs, hrun]) hpv
        ·cases h
       ·cases h
     ·cases h
    ·cases h
   ·cases h
  ·cases h
 case extract x i =>
  have hx := B11 hE x
  split at h
  ·rename_i l he
   rw [he] at hx
   simp only [PRep] at hx
   obtain ⟨vs, hv, hl⟩ := hx
   split at h
   ·rename_i p hp
    rw [B24] at hp
    obtain ⟨v, hv', hpv⟩ := hl.get hp
    have : vs[i]? = some v := by simpa using hv'
    exact pure h (by simp [execOp, Instr.extract, hv, this]) hpv
   ·cases h
  ·cases h
 case call c =>
  obtain ⟨callee, args, argTypes⟩ := c
  cases callee with
  | value f => simp [B283] at hc
  | invoke r m => simp only at h; cases h
  | builtin b =>
   have run : ∀ {v : Value} {w' : World}, (builtin b argTypes type (args.map fun | .const _ => true | _ => false) (args.map a.eval)).run G.P w = .ok (.value v) w' ->
     (execOp a.eval ⟨dst, .call ⟨.builtin b, args, argTypes⟩, type, pos, after, guard⟩).run G.P w = .ok (.value v) w' := fun hr => by
    simp only [execOp, resolve, Sem.run_bind, Sem.run_pure, Result.andThen_ok, invoke]
    exact hr
   cases b <;> simp only at h <;> try (cases h; done)
   case append =>
    split at h
    ·rename_i s x t tx ha ht
     have hargs : args = #[s, x] := by cases args; simp_all
     have htys : argTypes = #[t, tx] := by cases argTypes; simp_all
     subst hargs; subst htys
     split at h
     ·rename_i e' htx
      obtain ⟨p, H', v, w', ι', hK, hrun, hs, hp⟩ := B391 ok (ty := type) h hH hF (B11 hE s) (B11 hE x) htx (.inr ⟨e', rfl⟩)
      exact ⟨p, H', v, w', Fz, ι', hK, .inl (run (by simp [builtin, hrun])), hs, hp⟩
     ·rename_i htx
      obtain ⟨p, H', v, w', ι', hK, hrun, hs, hp⟩ := B391 ok (ty := type) h hH hF (B11 hE s) (B11 hE x) htx (.inl rfl)
      exact ⟨p, H', v, w', Fz, ι', hK, .inl (run (by simp [builtin, hrun])), hs, hp⟩
     ·rename_i k' htx
      obtain ⟨p, H', v, w', ι', hK, hrun, hs, hp⟩ := B660 ok (ty := type) h hH hF (B11 hE s) (B11 hE x) htx
      exact ⟨p, H', v, w', Fz, ι', hK, .inl (run (by simp [builtin, hrun])), hs, hp⟩
     ·cases h
    ·cases h
   case delete =>
    split at h
    ·rename_i m k t rest ha ht
     have hargs : args = #[m, k] := by cases args; simp_all
     subst hargs
     have htys : argTypes = (t :: rest).toArray := by cases argTypes; simp_all
     subst htys
     obtain ⟨H', w', hK, hrun, hs⟩ := B665 (ty := type) h hH hF (B11 hE m) (B11 hE k) rest
     refine ⟨_, _, .tuple #[], w', Fz, ι, hK, .inl (run (by simp [builtin, hrun])), hs, ?_⟩
     simp only [PRep]
     exact ⟨#[], rfl, by simp [PReps]⟩
    ·cases h
   case copy =>
    split at h
    ·rename_i s x t tx ha ht
     have hargs : args = #[s, x] := by cases args; simp_all
     have htys : argTypes = #[t, tx] := by cases argTypes; simp_all
     subst hargs; subst htys
     obtain ⟨p, H', v, w', hK, hrun, hs, hp⟩ := B775 ok (tx := tx) (ty := type) h hH hF (B938 hH (B11 hE s)) (B11 hE x)
     exact ⟨p, H', v, w', Fz, ι, hK, .inl (run (by simp [builtin, hrun])), hs, hp⟩
    ·cases h
   case len =>
    split at h
    ·rename_i x t rest ha ht
     have hargs : args = #[x] := by cases args; simp_all
     subst hargs
     obtain ⟨p, v, hK, hrun, hp⟩ := B848 (ty := type) h hH (B11 hE x) rest
     have htys : argTypes = (t :: rest).toArray := by cases argTypes; simp_all
     subst htys
     exact pure hK (run (by simp [builtin, hrun])) hp
    ·cases h
   case cap =>
    split at h
    ·rename_i x t rest ha ht
     have hargs : args = #[x] := by cases args; simp_all
     subst hargs
     have htys : argTypes = (t :: rest).toArray := by cases argTypes; simp_all
     subst htys
     split at h
     ·rename_i e he hu
      have hx := B11 hE x
      rw [he] at hx
      simp only [PRep] at hx
      exact pure (p := .int .i64 0) (v := goInt 0) h (run (by simp [builtin, hx, Builtin.cap_, run_underlying hu])) (by simp only [PRep]; exact .int (by rw [B95]; simp only; omega))
     ·cases h
    ·cases h
   case max =>
    split at h
    ·rename_i k n l he
     split at h
     ·rename_i m hm
      have hr := B147 hE args.toList
      rw [he] at hr
      cases hv : args.toList.map a.eval with
      | nil => rw [hv] at hr; simp only [PReps] at hr
      | cons v vs =>
       rw [hv] at hr
       simp only [PReps] at hr
       have hp := hr.1
       simp only [PRep] at hp
       cases hp with | int hn =>
       obtain ⟨h1, h2⟩ := B540 hm hr.2 hn
       refine pure h (run ?_) (by simp only [PRep]; exact .int h2)
       simp [builtin, Builtin.max_, hv, h1]
     ·cases h
    ·cases h
   case min =>
    split at h
    ·rename_i k n l he
     split at h
     ·rename_i m hm
      have hr := B147 hE args.toList
      rw [he] at hr
      cases hv : args.toList.map a.eval with
      | nil => rw [hv] at hr; simp only [PReps] at hr
      | cons v vs =>
       rw [hv] at hr
       simp only [PReps] at hr
       have hp := hr.1
       simp only [PRep] at hp
       cases hp with | int hn =>
       obtain ⟨h1, h2⟩ := B541 hm hr.2 hn
       refine pure h (run ?_) (by simp only [PRep]; exact .int h2)
       simp [builtin, Builtin.min_, hv, h1]
     ·cases h
    ·cases h
end
end Go.Proofs.YtcphcfknnfibmaaGreat.V
