/- Literals, make. -/
import Derived.Test.YtgffdmgidnnedaaGreatApp2
import Derived.Laws.Tables
namespace Go.Proofs.YtgffdmgidnnedaaGreat.V
open Go
set_option linter.unusedVariables false
set_option linter.unusedSimpArgs false
/-! ### Filling cells -/
theorem foldl_set (off : Nat) : ∀ (l : List Value) (k : Nat) (cells : Array Value), off + k + l.length ≤ cells.size →
  ((l.zipIdx k).foldl (fun (cs : Array Value) (x : Value × Nat) => cs.setIfInBounds (off + x.2) x.1) cells).toList = cells.toList.take (off + k) ++ l ++ cells.toList.drop (off + k + l.length)
 | [], k, cells, h => by simp
 | c :: l, k, cells, h => by
  simp only [List.zipIdx_cons, List.foldl_cons]
  rw [foldl_set off l (k + 1) _ (by simp at h ⊢; omega)]
  simp only [Array.toList_setIfInBounds, List.length_cons]
  have hlt : off + k < cells.toList.length := by simp at h ⊢; omega
  rw [List.take_set, List.drop_set_of_lt (by omega), show off + (k + 1) = off + k + 1 by omega, show off + k + 1 + l.length = off + k + (l.length + 1) by omega]
  congr 1
  have hmin : min (off + k) cells.size = off + k := Nat.min_eq_left (by simp at hlt; omega)
  rw [List.take_succ_eq_append_getElem hlt, List.set_append_right _ _ (by simp [hmin]), List.append_assoc]
  simp [hmin]
theorem fill_cons {place : Nat → Option (Nat × Nat)} {cells : Array Value} {i : Nat} {v : Value} {rest : List (Nat × Value)} {off size : Nat} (hp : place i = some (off, size)) (hv : v.cells.size = size) (hfit : off + size ≤ cells.size) :
  ∃ cells' : Array Value, cells'.toList = cells.toList.take off ++ v.cells.toList ++ cells.toList.drop (off + size) ∧ Instr.fill place cells ((i, v) :: rest) = Instr.fill place cells' rest := by
 refine ⟨v.cells.zipIdx.foldl (fun cs (c, j) => cs.setIfInBounds (off + j) c) cells, ?_, ?_⟩
 ·have h := foldl_set off v.cells.toList 0 cells (by simp; omega)
  rw [← Array.foldl_toList, Array.toList_zipIdx]
  simpa [hv] using h
 ·have h1 : ¬ (cells.size < off + v.cells.size) := by omega
  simp [Instr.fill, hp, hv]
  omega
section
variable {G : Prg} {w w' : World} {Fz : Nat → Prop} {ι : Nat → Loc} {H : List (Blk G.E.T)} {R : Type} {r : R} {X : Ctx}
/-- parts, as the reading has them, and as the machine has them -/
def PartsRep (E : Env) (w : World) (Fz : Nat → Prop) (ι : Nat → Loc) (H : List (Blk E.T)) : List (Nat × PV E.T) → List (Nat × Value) → Prop
 | [], [] => True
 | (i, p) :: l, (j, v) :: m => i = j ∧ PRep E w Fz ι H p v ∧ PartsRep E w Fz ι H l m
 | _, _ => False
theorem PartsRep.mono {E : Env} {w w' : World} {Fz Fz' : Nat → Prop} {ι ι' : Nat → Loc} {H H' : List (Blk E.T)} (K : Keep E w w' Fz Fz' ι ι' H H') : ∀ {ps : List (Nat × PV E.T)} {vs : List (Nat × Value)}, PartsRep E w Fz ι H ps vs → PartsRep E w' Fz' ι' H' ps vs
 | [], [], _ => trivial
 | (_, _) :: _, (_, _) :: _, h => ⟨h.1, PRep.mono K h.2.1, PartsRep.mono K h.2.2⟩
 | [], _ :: _, h => h
 | _ :: _, [], h => h
theorem PReps.take {E : Env} {w : World} {Fz : Nat → Prop} {ι : Nat → Loc} {H : List (Blk E.T)} : ∀ (n : Nat) {ps : List (PV E.T)} {vs : List Value}, PReps E w Fz ι H ps vs → PReps E w Fz ι H (ps.take n) (vs.take n)
 | 0, _, _, _ => by simp [PReps]
 | n + 1, [], [], _ => by simp [PReps]
 | n + 1, _ :: _, _ :: _, h => by simp only [PReps] at h; simp only [List.take_succ_cons, PReps]; exact ⟨h.1, PReps.take n h.2⟩
 | _ + 1, [], _ :: _, h => by simp only [PReps] at h
 | _ + 1, _ :: _, [], h => by simp only [PReps] at h
theorem PReps.drop {E : Env} {w : World} {Fz : Nat → Prop} {ι : Nat → Loc} {H : List (Blk E.T)} : ∀ (n : Nat) {ps : List (PV E.T)} {vs : List Value}, PReps E w Fz ι H ps vs → PReps E w Fz ι H (ps.drop n) (vs.drop n)
 | 0, _, _, h => h
 | n + 1, [], [], _ => by simp [PReps]
 | n + 1, _ :: _, _ :: _, h => by simp only [PReps] at h; exact PReps.drop n h.2
 | _ + 1, [], _ :: _, h => by simp only [PReps] at h
 | _ + 1, _ :: _, [], h => by simp only [PReps] at h
theorem fillV_sound {place : Nat → Option (Nat × Nat)} : ∀ {parts : List (Nat × PV G.E.T)} {vals : List (Nat × Value)} {cells cells' : List (PV G.E.T)} {cs : Array Value}, fillV place cells parts = some cells' →
  PartsRep G.E w Fz ι H parts vals → PReps G.E w Fz ι H cells cs.toList → (∀ p ∈ cells, p.one = true) →
  ∃ cs' : Array Value, Instr.fill place cs vals = some cs' ∧ PReps G.E w Fz ι H cells' cs'.toList ∧ ∀ p ∈ cells', p.one = true
 | [], [], cells, cells', cs, h, _, hc, h1 => by
  simp [fillV] at h; subst h
  exact ⟨cs, rfl, hc, h1⟩
 | (i, p) :: parts, (j, v) :: vals, cells, cells', cs, h, hp, hc, h1 => by
  obtain ⟨rfl, hpv, hrest⟩ := hp
  simp only [fillV] at h
  split at h
  ·cases h
  rename_i off size hpl
  split at h
  ·rename_i hsz
   split at h
   ·rename_i cells1 hone hr
    obtain ⟨g1, rfl⟩ := replL_eq _ _ _ _ hr
    have hcr := cells_rep hpv hone
    have hsz' := nat_beq hsz
    have hvs : v.cells.size = size := by rw [← hsz', hcr.length, Array.length_toList]
    have hl : cells.length = cs.size := by rw [hc.length, Array.length_toList]
    have hcl : (cellsP p).length = size := hsz'
    obtain ⟨cs1, q1, q2⟩ := fill_cons (place := place) (cells := cs) (i := i) (v := v) (rest := vals) hpl hvs (by rw [← hl, ← hcl]; omega)
    rw [q2]
    refine fillV_sound h hrest ?_ (fun p hp => ?_)
    ·rw [q1, hsz']
     exact ((hc.take off).append hcr).append (hc.drop (off + size))
    ·simp only [List.mem_append] at hp
     rcases hp with (hp | hp) | hp
     ·exact h1 p (List.mem_of_mem_take hp)
     ·exact allOne_iff.1 hone p hp
     ·exact h1 p (List.mem_of_mem_drop hp)
   ·cases h
  ·cases h
 | [], _ :: _, _, _, _, _, hp, _, _ => hp.elim
 | _ :: _, [], _, _, _, _, hp, _, _ => hp.elim
theorem placesV_eq : ∀ {l : List Field} {r : List (Nat × Nat)}, placesV G l = some r → l.mapM (fun f => (G.P.info? f.type).map fun i => (f.offset, i.size)) = some r
 | [], r, h => by simp [placesV] at h; subst h; rfl
 | f :: l, r, h => by
  simp only [placesV] at h
  split at h
  ·rename_i n q hn hq
   cases h
   obtain ⟨i, hi, rfl⟩ := typeSize_eq hn
   simp [hi, placesV_eq hq]
  ·cases h
theorem buildV_sound {t : TypeId} {parts : List (Nat × PV G.E.T)} {K : PV G.E.T → Option R} (h : buildV G t parts K = some r) {vals : Array (Nat × Value)} (hp : PartsRep G.E w Fz ι H parts vals.toList) :
  ∃ p v, K p = some r ∧ (Instr.build t vals).run G.P w = .ok v w ∧ PRep G.E w Fz ι H p v := by
 unfold buildV at h
 split at h
 ·cases h
 rename_i z hz
 obtain ⟨zv, _, hzr, h1, it, hit, hiz⟩ := zeroCellsP_sound (w := w) (Fz := Fz) (ι := ι) (H := H) hz
 split at h
 ·rename_i fields hu
  split at h
  ·rename_i places hpl
   split at h
   ·rename_i cells hf
    obtain ⟨cs, g1, g2, g3⟩ := fillV_sound hf hp hzr h1
    refine ⟨_, .agg cs, h, run_build w t vals cs ?_, ?_⟩
    ·unfold Program.built
     simp only [hit, hu, hiz, placesV_eq hpl]
     rw [← g1]
     congr 1
     funext i
     rw [getL_eq]; simp
    ·simp only [PRep]
     exact ⟨cs, rfl, g3, g2⟩
   ·cases h
  ·cases h
 ·rename_i n e hu
  split at h
  ·rename_i sz hsz
   obtain ⟨ie, hie, rfl⟩ := typeSize_eq hsz
   split at h
   ·rename_i cells hf
    obtain ⟨cs, g1, g2, g3⟩ := fillV_sound hf hp hzr h1
    refine ⟨_, .agg cs, h, run_build w t vals cs ?_, ?_⟩
    ·unfold Program.built
     simp only [hit, hu, hiz, hie]
     exact g1
    ·simp only [PRep]
     exact ⟨cs, rfl, g3, g2⟩
   ·cases h
  ·cases h
 ·cases h
/-- parts one behind the other, each of sz cells: what they fill -/
theorem fill_seq {sz : Nat} : ∀ (vals : List (Nat × Value)) (k : Nat) (cells : Array Value), (∀ (q : Nat) (x : Nat × Value), vals[q]? = some x → x.1 = k + q ∧ x.2.cells.size = sz) → (k + vals.length) * sz ≤ cells.size →
  ∃ cells', Instr.fill (fun i => some (i * sz, sz)) cells vals = some cells' ∧ cells'.toList = cells.toList.take (k * sz) ++ (vals.map fun x => x.2.cells.toList).flatten ++ cells.toList.drop ((k + vals.length) * sz)
 | [], k, cells, _, _ => ⟨cells, rfl, by simp⟩
 | (i, v) :: vals, k, cells, h, hfit => by
  obtain ⟨h1, h2⟩ := h 0 _ rfl
  simp only [Nat.add_zero] at h1 h2
  subst h1
  simp only [List.length_cons] at hfit
  have he : (i + (vals.length + 1)) * sz = i * sz + sz + vals.length * sz := by rw [Nat.add_mul, Nat.add_mul]; omega
  obtain ⟨c1, q1, q2⟩ := fill_cons (place := fun i => some (i * sz, sz)) (cells := cells) (i := i) (v := v) (rest := vals) rfl h2 (by omega)
  have hlen : c1.size = cells.size := by
   rw [← Array.length_toList, q1, ← Array.length_toList]
   simp only [List.length_append, List.length_take, List.length_drop, Array.length_toList, h2]
   omega
  obtain ⟨c2, p1, p2⟩ := fill_seq vals (i + 1) c1 (fun q x hx => by
   have := h (q + 1) x (by simpa using hx)
   exact ⟨by omega, this.2⟩) (by rw [hlen]; rw [show i + 1 + vals.length = i + (vals.length + 1) by omega]; exact hfit)
  refine ⟨c2, by rw [q2]; exact p1, ?_⟩
  rw [p2, q1]
  have e1 : (i + 1) * sz = i * sz + sz := by rw [Nat.add_mul]; omega
  have hl1 : (cells.toList.take (i * sz)).length = i * sz := by rw [List.length_take, Array.length_toList]; omega
  have hl2 : (cells.toList.take (i * sz) ++ v.cells.toList).length = i * sz + sz := by rw [List.length_append, hl1, Array.length_toList, h2]
  rw [e1, List.take_append_of_le_length (by rw [hl2]; exact Nat.le_refl _), List.take_of_length_le (by rw [hl2]; exact Nat.le_refl _)]
  have e2 : (i + 1 + vals.length) * sz = i * sz + sz + vals.length * sz := by rw [Nat.add_mul, e1]
  have e3 : (i + (vals.length + 1)) * sz = i * sz + sz + vals.length * sz := he
  rw [e2, List.drop_append, hl2, List.drop_of_length_le (by rw [hl2]; omega), List.nil_append, List.drop_drop, show i * sz + sz + vals.length * sz - (i * sz + sz) = vals.length * sz by omega]
  simp only [List.map_cons, List.flatten_cons, List.append_assoc, List.length_cons, e3]
end
end Go.Proofs.YtgffdmgidnnedaaGreat.V
