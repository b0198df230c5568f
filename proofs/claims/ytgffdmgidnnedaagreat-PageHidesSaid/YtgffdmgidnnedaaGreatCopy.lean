/- copy: the reading's is the machine's. -/
import Derived.Test.YtgffdmgidnnedaaGreatApp2
import Derived.Laws.IdiomCopy
namespace Go.Proofs.YtgffdmgidnnedaaGreat.V
open Go
set_option linter.unusedVariables false
set_option linter.unusedSimpArgs false
section
variable {G : Prg} {w w' : World} {Fz : Nat → Prop} {ι : Nat → Loc} {H : List (Blk G.E.T)} {R : Type} {r : R} {X : Ctx}
theorem setL_id {α : Type} : ∀ {l : List α} {i : Nat} {a : α}, getL l i = some a → setL l i a = l
 | [], i, a, h => by cases i <;> rfl
 | x :: l, 0, a, h => by simp only [getL, Option.some.injEq] at h; subst h; rfl
 | x :: l, i + 1, a, h => by simp only [getL] at h; simp only [setL, setL_id h]
theorem subOf_rep {p : PV G.E.T} {v : Value} (hH : HRep G.E w Fz ι H) (h : PRep G.E w Fz ι H p v) : PRep G.E w Fz ι H (subOf H p) v := by
 unfold subOf
 split
 ·rename_i id ep
  split
  ·rename_i m k ep' xs hb
   split
   ·rename_i he
    have he := nat_beq he
    subst he
    simp only [PRep] at h ⊢
    obtain ⟨b, hb', h1, h2⟩ := h
    rw [hb] at hb'; cases hb'
    obtain ⟨_, h3⟩ := h2 ep xs.length 1 rfl
    have h3 := h3 rfl
    refine ⟨_, hb, h1, fun ep2 len2 sz2 e => ?_⟩
    cases e
    refine ⟨Nat.le_refl _, fun _ => ⟨by omega, _, _, h3, ?_, fun hl => ?_⟩⟩
    ·have hr := hH.rep id _ hb
     simp only [BRep] at hr
     exact hr.1.1
    ·have hr := hH.rep id _ hb
     simp only [BRep] at hr
     rcases hr.1.2.2 with ⟨_, e⟩ | ⟨B, o, e, _⟩
     ·have := hr.1.1; omega
     ·exact ⟨B, o, e, by rw [e]; simp⟩
   ·exact h
  ·exact h
 ·exact h
theorem copyV_sound (ok : PrgOk G) {t tx ty : TypeId} {s x : PV G.E.T} {K : PV G.E.T → List (Blk G.E.T) → Option R} (h : copyV G H t s x K = some r) (hH : HRep G.E w Fz ι H) (hF : Fram G.E X w Fz ι H)
  {vs vx : Value} (hs : PRep G.E w Fz ι H s vs) (hx : PRep G.E w Fz ι H x vx) :
  ∃ p H' v w', K p H' = some r ∧ (Builtin.copy_ #[t, tx] ty #[vs, vx]).run G.P w = .ok v w' ∧ Step G.E X w w' Fz Fz ι ι H H' ∧ PRep G.E w' Fz ι H' p v := by
 unfold copyV at h
 split at h
 ·cases h
 rename_i e he
 split at h
 ·rename_i k hsz hel
  obtain ⟨hu, _⟩ := elemOk_int ok he hel
  obtain ⟨i0, hi0, hi1⟩ := typeSize_eq hsz
  have hs1 : (G.P.info? e).map (·.size) = some 1 := by rw [hi0]; simp [hi1]
  split at h
  ·rename_i ys lent id ep off len hys
   have hread := intsOf_read hH hys hx
   cases hread with
   | ints q1 q2 q3 q4 =>
   rename_i ax capx
   simp only [PRep] at hs
   obtain ⟨b, hb, hsub⟩ := hs
   split at h
   ·rename_i k' ep' xs hb'
    rw [hb] at hb'; cases hb'
    split at h
    ·rename_i hep hkk
     have hkk := of_decide_eq_true hkk
     subst hkk
     obtain ⟨_, hsub⟩ := hsub
     obtain ⟨_, hsub⟩ := hsub ep' xs.length 1 rfl
     obtain ⟨hoff, a, cap, rfl, hcap, hbase⟩ := hsub (nat_beq hep)
     have hrep := hH.rep id _ hb
     simp only [BRep] at hrep
     obtain ⟨hrow, hrange, hcells⟩ := hrep
     have hmax : (k : IntKind) = k := rfl
     have hnum : IntKind.i64.has ((min ys.length len : Nat) : Int) := by
      have : ys.length ≤ maxLen := q2
      unfold maxLen at this
      simp only [IntKind.has, IntKind.min, IntKind.max, IntKind.signed, IntKind.bits]
      simp
      omega
     by_cases hn : min ys.length len = 0
     ·have hrun := run_copy_none (P := G.P) w t tx ty e a ax len cap ys.length capx hu hs1 hn
      have hsame : xs.take off ++ ys.take (min ys.length len) ++ xs.drop (off + min ys.length len) = xs := by
       rw [hn, List.take_zero, List.append_nil, Nat.add_zero, List.take_append_drop]
      rw [hsame, setL_id hb, hn] at h
      refine ⟨_, _, _, w, h, hrun, Step.refl hH hF, ?_⟩
      simp only [PRep]
      exact .int (by rw [hn] at hnum; exact hnum)
     ·obtain ⟨B, o, hl, rfl⟩ := hbase (by omega)
      have hne : ys ≠ [] := fun e => by subst e; simp at hn
      obtain ⟨Bx, ox, rfl, _, hcx⟩ := q4 hne
      rcases hrow.2.2 with ⟨hn0, _⟩ | ⟨B', o', ha, hB, hc⟩
      ·rw [hl] at hn0; cases hn0
      rw [hl] at ha; cases ha
      have hlen : ((ys.take (min ys.length len)).map fun y => Value.int k y).length = min ys.length len := by
       rw [List.length_map, List.length_take]; omega
      have hex : ∀ j, j < min ys.length len → (∃ u, w.cell? ⟨B, o + off * 1 + j, none⟩ = some u) ∧ w.frozen? ⟨B, o + off * 1 + j, none⟩ = false := fun j hj => by
       have := hc (off + j) (by have := hrow.1; omega)
       rwa [show o + off * 1 + j = o + (off + j) by omega]
      have hrun := run_copy_cells (P := G.P) w t tx ty e B (o + off * 1) len cap ⟨Bx, ox, none⟩ ys.length capx ((ys.take (min ys.length len)).map fun y => Value.int k y) hu hs1 hlen
       (fun j v hj => by
        rw [List.getElem?_map] at hj
        obtain ⟨y, hy, rfl⟩ := Option.map_eq_some_iff.1 hj
        rw [Addr.add_lit]
        exact hcx j y (by rw [List.getElem?_take] at hy; split at hy; exact hy; cases hy))
       (fun j hj => by obtain ⟨⟨u, hu⟩, _⟩ := hex j (by omega); rw [hu]; rfl) (fun j hj => (hex j (by omega)).2)
       (fun v hv => by obtain ⟨y, _, rfl⟩ := List.mem_map.1 hv; simp [Value.oneCell'])
      rw [hlen] at hrun
      refine ⟨_, _, _, _, h, hrun, Step.write hH hF hb rfl rfl (b' := .ints .own k ep' (xs.take off ++ ys.take (min ys.length len) ++ xs.drop (off + min ys.length len))) (by simp only [Blk.info, List.length_append, List.length_take, List.length_drop]; rw [show min off xs.length + min (min ys.length len) ys.length + (xs.length - (off + min ys.length len)) = xs.length by omega]) rfl hl (o + off * 1) _ fun KK => ?_, ?_⟩
      ·have hxl : (xs.take off ++ ys.take (min ys.length len) ++ xs.drop (off + min ys.length len)).length = xs.length := by
        simp only [List.length_append, List.length_take, List.length_drop]; omega
       have hcell := fun c => cell_setCells (w := w) (B := B) (o := o + off * 1) (vs := (ys.take (min ys.length len)).map fun y => Value.int k y) (fun j hj => (hex j (by omega)).1) c
       simp only [BRep, hxl]
       refine ⟨⟨hrow.1, hrow.2.1, .inr ⟨B, o, hl, by rw [(setCells_frame B _ _ w).2.2.2.1]; exact hB, fun c hc' => ?_⟩⟩, fun z hz => ?_, fun B' o' ha j z hz => ?_⟩
       ·rw [World.frozen?_setCells, hcell]
        refine ⟨?_, (hc c hc').2⟩
        split
        ·rename_i hin
         exact ⟨_, List.getElem?_eq_getElem (by omega)⟩
        ·exact (hc c hc').1
       ·rcases List.mem_append.1 hz with hz | hz
        ·rcases List.mem_append.1 hz with hz | hz
         ·exact hrange z (List.mem_of_mem_take hz)
         ·exact q1 z (List.mem_of_mem_take hz)
        ·exact hrange z (List.mem_of_mem_drop hz)
       ·rw [hl] at ha; cases ha
        rw [hcell, hlen]
        by_cases hin : off ≤ j ∧ j < off + min ys.length len
        ·rw [if_pos (by omega), show o + j - (o + off * 1) = j - off by omega]
         rw [List.append_assoc, List.getElem?_append_right (by rw [List.length_take]; omega), List.getElem?_append_left (by rw [List.length_take, List.length_take]; omega), List.length_take] at hz
         rw [show j - min off xs.length = j - off by omega] at hz
         rw [List.getElem?_map, hz]; rfl
        ·rw [if_neg (by omega)]
         refine hcells B o hl j z ?_
         by_cases hlt : j < off
         ·rw [List.append_assoc, List.getElem?_append_left (by rw [List.length_take]; omega), List.getElem?_take, if_pos hlt] at hz
          exact hz
         ·rw [List.getElem?_append_right (by rw [List.length_append, List.length_take, List.length_take]; omega), List.getElem?_drop, List.length_append, List.length_take, List.length_take] at hz
          rwa [show off + min ys.length len + (j - (min off xs.length + min (min ys.length len) ys.length)) = j by omega] at hz
      ·simp only [PRep]
       exact .int hnum
    ·cases h
   ·cases h
  ·cases h
 ·cases h
end
end Go.Proofs.YtgffdmgidnnedaaGreat.V
