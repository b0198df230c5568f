/- A call of the program's own function. -/
import Derived.Test.YtgffdmgidnnedaaGreatCall2
namespace Go.Proofs.YtgffdmgidnnedaaGreat.V
open Go
set_option linter.unusedVariables false
set_option linter.unusedSimpArgs false
section
variable {G : Prg} {w w' : World} {Fz : Nat → Prop} {ι : Nat → Loc} {H : List (Blk G.E.T)} {R : Type} {r : R} {X : Ctx}
theorem none_some {α : Type} {a : α} (h : none = some a) : False := by cases h
theorem some_some {α : Type} {a b : α} (h : some a = some b) : a = b := by cases h; rfl
theorem toLV_ofLV {T : Nat → Type} : ∀ {l : Leaf} {v : LV T} {p : l.den T}, l.ofLV v = some p → l.toLV p = v := by
 intro l v p h
 cases l <;> cases v <;> simp only [Leaf.ofLV] at h <;> first
  | exact (none_some h).elim
  | (have h := some_some h; subst h; rfl)
  | (split at h <;> first | (exact (none_some h).elim) | (rename_i e; subst e; have h := some_some h; subst h; rfl))
theorem toL_ofL {T : Nat → Type} {ls : List Leaf} : ∀ {l : List (LV T)} {p : Pay T ls}, ofL ls l = some p → toL ls p = l := by
 induction ls with
 | nil =>
  intro l p h
  cases l with
  | nil => rfl
  | cons => exact (none_some h).elim
 | cons a ls ih =>
  cases ls with
  | nil =>
   intro l p h
   cases l with
   | nil => exact (none_some h).elim
   | cons v l =>
    cases l with
    | nil => exact congrArg (fun x => [x]) (toLV_ofLV h)
    | cons => exact (none_some h).elim
  | cons b ls =>
   intro l p h
   cases l with
   | nil => exact (none_some h).elim
   | cons v l =>
    have h' : (match a.ofLV v, ofL (b :: ls) l with
     | some x, some y => some ((x, y) : a.den T × Pay T (b :: ls))
     | _, _ => none) = some p := h
    cases h1 : a.ofLV v with
    | none => rw [h1] at h'; exact (none_some h').elim
    | some x =>
     cases h2 : ofL (b :: ls) l with
     | none => rw [h1, h2] at h'; exact (none_some h').elim
     | some y =>
      rw [h1, h2] at h'
      have h3 := some_some h'
      subst h3
      show a.toLV x :: toL (b :: ls) y = v :: l
      rw [toLV_ofLV h1, ih h2]
def retV : List Value → Value
 | [] => .tuple #[]
 | v :: l => match l with
  | [] => v
  | _ :: _ => .tuple (v :: l).toArray
theorem resV_rep {Fz : Nat → Prop} {l : List (PV G.E.T)} {us : List Value} (h : PReps G.E w Fz ι H l us) : PRep G.E w Fz ι H (resV l) (retV us) := by
 cases l with
 | nil =>
  cases us with
  | nil => simp only [resV, retV, PRep]; exact ⟨#[], rfl, by simp [PReps]⟩
  | cons => simp [PReps] at h
 | cons p l =>
  cases us with
  | nil => simp [PReps] at h
  | cons u us =>
   have h' := h
   simp only [PReps] at h
   cases l with
   | nil =>
    cases us with
    | nil => simp only [resV, retV]; exact h.1
    | cons => simp [PReps] at h
   | cons q l =>
    cases us with
    | nil => simp [PReps] at h
    | cons v us =>
     simp only [resV, retV, PRep]
     exact ⟨_, rfl, by simpa using h'⟩
/-- the values and the blocks that go into a function, and those that come out -/
def inV (G : Prg) (i : Nat) (p : Pay G.E.T (G.F i).sig.ins) : List (PV G.E.T) := (rebTs (ρcut (T := G.E.T) [] (G.F i).sig.pb) (G.F i).sig.ps (toL (G.F i).sig.ins p)).1
def inH (G : Prg) (i : Nat) (p : Pay G.E.T (G.F i).sig.ins) : List (Blk G.E.T) :=
 rebBs (ρcut (T := G.E.T) [] (G.F i).sig.pb) 0 (G.F i).sig.pb [] (rebTs (ρcut (T := G.E.T) [] (G.F i).sig.pb) (G.F i).sig.ps (toL (G.F i).sig.ins p)).2
/-- the way in which a function came back, and what it brought -/
def outWay {T : Nat → Type} : (a : Way) → (l : List Way) → OutT T a l → Way × List (LV T)
 | a, [], q => (a, toL a.leaves q)
 | a, b :: l, q => match q with
  | .inl q => (a, toL a.leaves q)
  | .inr q => outWay b l q
def outW {T : Nat → Type} {s : Sig} (q : s.Out T) : Way × List (LV T) := outWay s.way s.more q
theorem outWay_mem {T : Nat → Type} : ∀ {a : Way} {l : List Way} {q : OutT T a l}, (outWay a l q).1 ∈ a :: l
 | a, [], q => List.mem_cons_self ..
 | a, b :: l, .inl q => List.mem_cons_self ..
 | a, b :: l, .inr q => List.mem_cons_of_mem _ outWay_mem
theorem getOut_eq {T : Nat → Type} {k : Way → List (LV T) → Option R} : ∀ {a : Way} {l : List Way} {q : OutT T a l}, getOut a l q k = k (outWay a l q).1 (outWay a l q).2
 | a, [], q => rfl
 | a, b :: l, .inl q => rfl
 | a, b :: l, .inr q => getOut_eq (a := b) (l := l) (q := q)
theorem get_eq {T : Nat → Type} {s : Sig} {k : Way → List (LV T) → Option R} {q : s.Out T} : s.get q k = k (outW q).1 (outW q).2 := getOut_eq
theorem noSameW_mem {l : List Way} (h : noSameW l = true) : ∀ a ∈ l, noSame a.2 = true := by
 induction l with
 | nil => intro a ha; cases ha
 | cons b l ih =>
  simp only [noSameW] at h
  split at h
  ·rename_i hb
   intro a ha
   rcases List.mem_cons.1 ha with rfl | ha
   ·exact hb
   ·exact ih h a ha
  ·cases h
theorem waysHold_mem {E : Env} {l : List Way} (h : waysHold E l = false) : ∀ a ∈ l, TSh.holdsL a.1 = false ∧ BSh.holdsL E a.2 = false := by
 induction l with
 | nil => intro a ha; cases ha
 | cons b l ih =>
  simp only [waysHold] at h
  split at h
  ·rename_i h1 h2
   intro a ha
   rcases List.mem_cons.1 ha with rfl | ha
   ·exact ⟨h1, h2⟩
   ·exact ih h a ha
  ·cases h
theorem waysBare_mem {l : List Way} (h : waysBare l = true) : ∀ a ∈ l, a.2 = [] := by
 induction l with
 | nil => intro a ha; cases ha
 | cons b l ih =>
  simp only [waysBare] at h
  split at h
  ·rename_i hb
   intro a ha
   rcases List.mem_cons.1 ha with rfl | ha
   ·exact hb
   ·exact ih h a ha
  ·cases h
def outV (G : Prg) (i : Nat) (p : Pay G.E.T (G.F i).sig.ins) (q : (G.F i).sig.Out G.E.T) : List (PV G.E.T) := (rebTs (ρcut (inH G i p) (outW q).1.2) (outW q).1.1 (outW q).2).1
def outH (G : Prg) (i : Nat) (p : Pay G.E.T (G.F i).sig.ins) (q : (G.F i).sig.Out G.E.T) : List (Blk G.E.T) :=
 rebBs (ρcut (inH G i p) (outW q).1.2) 0 (outW q).1.2 (inH G i p) (rebTs (ρcut (inH G i p) (outW q).1.2) (outW q).1.1 (outW q).2).2
/-- what the reading says of function i at p, if it answers q -/
structure Says (G : Prg) (i : Nat) (p : Pay G.E.T (G.F i).sig.ins) (q : (G.F i).sig.Out G.E.T) : Prop where
 body : ∃ fn, G.P.funcs[(G.F i).fid]? = some fn ∧ fn.body.isSome = true
 calls : ∀ (X : Ctx) (w : World) (Fz : Nat → Prop) (ι : Nat → Loc) (args : List Value), HRep G.E w Fz ι (inH G i p) → Fram G.E X w Fz ι (inH G i p) → PReps G.E w Fz ι (inH G i p) (inV G i p) args →
  Calls G.P (G.F i).fid args.toArray w fun e w' => ∃ vs Fz' ι', e = .returned (retV vs) ∧ Step G.E X w w' Fz Fz' ι ι' (inH G i p) (outH G i p q) ∧ PReps G.E w' Fz' ι' (outH G i p q) (outV G i p q) vs ∧
   (inH G i p).length ≤ (outW q).1.2.length
def Spec (G : Prg) (rec : Rec G) : Prop := ∀ i p q, rec i p = some q → Says G i p q
theorem callV_sound (ok : PrgOk G) {rec : Rec G} (hrec : Spec G rec) {i : Nat} {args : List (PV G.E.T)} {K : PV G.E.T → List (Blk G.E.T) → Option R} (h : callV G rec i H args K = some r)
  (hH : HRep G.E w Fz ι H) (hF : Fram G.E X w Fz ι H) {vs : List Value} (hv : PReps G.E w Fz ι H args vs) :
  (∃ fn, G.P.funcs[(G.F i).fid]? = some fn ∧ fn.body.isSome = true) ∧
  Calls G.P (G.F i).fid vs.toArray w fun e w' => ∃ v p H' Fz' ι', e = .returned v ∧ K p H' = some r ∧ Step G.E X w w' Fz Fz' ι ι' H H' ∧ PRep G.E w' Fz' ι' H' p v := by
 unfold callV at h
 split at h
 ·cases h
 ·cases h
 ·rename_i a cs hcast hns
  split at h
  ·cases h
  ·rename_i p hp
   split at h
   ·cases h
   ·rename_i heap' hheap
    obtain ⟨q, hq, hK⟩ := Option.bind_eq_some_iff.1 h
    rw [get_eq] at hK
    have hns := noSameW_mem hns _ (outWay_mem (q := q))
    have hS := hrec i p q hq
    have ha := toL_ofL hp
    obtain ⟨hE, hT⟩ := cast_entry hH hcast
    have hin : PReps G.E w (lentFz Fz ι cs.lent) (bindι ι cs) (inH G i p) (inV G i p) vs := by
     unfold inH inV; rw [ha]; exact hT.reps hv
    have hE' : Enters G w Fz ι H cs (inH G i p) := by unfold inH; rw [ha]; exact hE
    refine ⟨hS.body, (hS.calls (callX w Fz ι cs) w _ _ vs hE'.heap hE'.fram hin).mono ?_⟩
    rintro e w' ⟨us, Fz1, ι1, rfl, hstep, hus, hlen⟩
    have hm : (G.F i).sig.pb.length = (inH G i p).length := by unfold inH; rw [rebBs_length]
    unfold outH at hstep hus
    unfold outV at hus
    by_cases hhold : (G.F i).sig.holds G.E = true
    ·rw [hhold] at hheap
     simp only at hheap
     have hfz := freezeIds_spec hheap
     obtain ⟨ι2, s1, s2⟩ := call_exit (Fz2 := Fz1) ok.env hE' hH hF hstep hm hlen hns (fun B hB => hstep.keep.fz B (.inl hB)) (fun _ h => h) (.inl fun _ h => h) hfz.len
      (fun id b hb => by
       obtain ⟨b', g1, g2⟩ := hfz.at_ id b hb
       refine ⟨b', g1, ?_⟩
       rcases g2 with ⟨e, g2⟩ | ⟨e, g2, g3, g4, g5⟩
       ·exact .inl ⟨e, fun ho hl => by have := g2 hl; rw [owned_not_frozen ho] at this; cases this⟩
       ·exact .inr ⟨e, g2, g3, g4, fun A hA => hstep.keep.fz _ (.inr ⟨id, g5, A, hA, rfl⟩)⟩)
      (fun id b A hb ho hA hnl hno hFz => by
       rcases hstep.fram.fz A.block hFz with hh | ⟨j, id2, A2, h1, h2, h3⟩ | hh
       ·rcases hh with hh | ⟨id2, hl, A2, h2, h3⟩
        ·exact hH.free id b A hb ho hA hh
        ·obtain ⟨b2, h4, h5⟩ := hE'.lent id2 hl
         exact hH.apart id id2 b b2 A A2 (fun e => hnl (e ▸ hl)) hb h4 ho h5 hA h2 h3
       ·obtain ⟨b2, _, h4, h5, _⟩ := hE'.old j id2 h1
        exact hH.apart id id2 b b2 A A2 (fun e => hno j (e ▸ h1)) hb h4 ho h5 hA h2 h3
       ·have := (hH.rep id b hb).lt (owned_ne_gone ho) hA
        have h6 : (callX w Fz ι cs).w0.heap.size = w.heap.size := rfl
        omega)
     exact ⟨_, _, _, Fz1, ι2, rfl, hK, s1, resV_rep (s2.reps hus)⟩
    ·have hhold' : (G.F i).sig.holds G.E = false := by simpa using hhold
     rw [hhold'] at hheap
     simp only at hheap
     cases hheap
     have hz : TSh.holdsL (outW q).1.1 = false ∧ BSh.holdsL G.E (outW q).1.2 = false := waysHold_mem hhold' _ outWay_mem
     obtain ⟨ι2, s1, s2⟩ := call_exit (Fz2 := Fz) ok.env hE' hH hF hstep hm hlen hns (fun B hB => hB) (fun B h => hstep.keep.fz B (.inl h)) (.inr hz) rfl
      (fun id b hb => ⟨b, hb, .inl ⟨rfl, fun ho _ A hA => hH.free id b A hb ho hA⟩⟩)
      (fun id b A hb ho hA _ _ => hH.free id b A hb ho hA)
     exact ⟨_, _, _, Fz, ι2, rfl, hK, s1, resV_rep (s2.reps hus)⟩
end
end Go.Proofs.YtgffdmgidnnedaaGreat.V
