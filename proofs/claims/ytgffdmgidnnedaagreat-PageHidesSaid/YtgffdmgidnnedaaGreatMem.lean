/- The value reading's loads, stores, addresses are the machine's. -/
import Derived.Test.YtgffdmgidnnedaaGreatOps
import Derived.Laws.Tables
namespace Go.Proofs.YtgffdmgidnnedaaGreat.V
open Go
set_option linter.unusedVariables false
set_option linter.unusedSimpArgs false
/-- what may lie in an element -/
def PV.cold {T : Nat → Type} : PV T → Bool
 | .int _ _ => true
 | .bool _ => true
 | .str _ => true
 | .ints _ _ => true
 | .rows _ _ => true
 | .nilsl => true
 | _ => false
/-- what is asked of the types of elements -/
structure EnvOk (E : Env) : Prop where
 cold : ∀ i l x, E.inn i l = some x → ∀ p ∈ l, p.cold = true
 sz : ∀ i x, (E.outs i x).length = E.sz i
 /-- what is put in comes out -/
 inn : ∀ i l x, E.inn i l = some x → (E.outs i x).length = l.length ∧ ∀ (w : World) (Fz : Nat → Prop) (c : Nat) (p q : PV E.T) (v : Value), l[c]? = some p → (E.outs i x)[c]? = some q → (FRep E w Fz p v ∨ (p = .nilsl ∧ v = .slice none 0 0)) → FRep E w Fz q v
 /-- flat: no memory is led to -/
 flat : ∀ i x p, E.flat i = true → p ∈ E.outs i x → (∃ k n, p = .int k n) ∨ (∃ b, p = .bool b) ∨ (∃ s, p = .str s)
/-- the model's own entry for bytealg.Compare -/
def CmpAt (P : Program) (f : Nat) : Prop := ∃ fn, P.funcs[f]? = some fn ∧ (fn.name == "runtime.NumGoroutine") = false ∧ fn.body.isNone = true ∧ Extern.findNext fn = none ∧ Extern.find fn = some Extern.BytealgCompare.compare
structure PrgOk (G : Prg) : Prop where
 env : EnvOk G.E
 /-- the kinds of elements are the program's -/
 int : ∀ e k, G.el e = some (.int k) → G.P.underlying e = some (.int k) ∧ ∃ i, G.P.info? e = some i ∧ i.size = 1 ∧ 0 < i.bytes ∧ i.zero = some (.int k 0)
 row : ∀ e n, G.el e = some (.row n) → ∃ i z, G.P.info? e = some i ∧ i.size = G.E.sz n ∧ 0 < i.bytes ∧ i.zero = some z ∧ z.cells.size = G.E.sz n ∧ 0 < G.E.sz n ∧ (G.E.sz n = 1 → True)
 names : ∀ (f : Nat) (fn : Func), G.P.funcs[f]? = some fn → fn.body.isSome = true → (fn.name == "runtime.NumGoroutine") = false
 cmp : ∀ f, G.cmp f = true → CmpAt G.P f
theorem FRep.one {E : Env} {w : World} {Fz : Nat → Prop} {p : PV E.T} {v : Value} (h : FRep E w Fz p v) : p.one = true := by cases h <;> rfl
theorem allOne_iff {T : Nat → Type} : ∀ {l : List (PV T)}, allOne l = true ↔ ∀ p ∈ l, p.one = true
 | [] => by simp [allOne]
 | p :: l => by
  simp only [allOne]
  split
  ·rename_i h; rw [allOne_iff]; simp [h]
  ·rename_i h; simp [h]
section
variable {G : Prg} {w : World} {Fz : Nat → Prop} {ι : Nat → Loc} {H : List (Blk G.E.T)} {R : Type} {r : R}
theorem FRep.toP {p : PV G.E.T} {v : Value} (h : FRep G.E w Fz p v) : PRep G.E w Fz ι H p v := by
 cases h
 case int h => simp only [PRep]; exact .int h
 case bool => simp only [PRep]; exact .bool
 case str h hl => simp only [PRep]; exact .str h hl
 case ints h1 h2 h0 h3 => simp only [PRep]; exact .ints h1 h2 h0 h3
 case rows cv h1 h0 h2 h3 => simp only [PRep]; exact .rows cv h1 h0 h2 h3
theorem typeSize_eq {t : TypeId} {n : Nat} (h : typeSize G t = some n) : ∃ i, G.P.info? t = some i ∧ i.size = n := by
 unfold typeSize at h
 split at h
 ·rename_i i hi; exact ⟨i, hi, by simpa using h⟩
 ·cases h
theorem typeBytes_eq {t : TypeId} {n : Nat} (h : typeBytes G t = some n) : ∃ i, G.P.info? t = some i ∧ i.bytes = n := by
 unfold typeBytes at h
 split at h
 ·rename_i i hi; exact ⟨i, hi, by simpa using h⟩
 ·cases h
theorem run_sizeOf {t : TypeId} {n : Nat} (h : typeSize G t = some n) : (sizeOf t).run G.P w = .ok n w := by
 obtain ⟨i, hi, rfl⟩ := typeSize_eq h
 simp [sizeOf, typeInfo, hi]
theorem run_isAgg {t : TypeId} {b : Bool} (h : isAggT G t = some b) : (isAgg t).run G.P w = .ok b w := by
 unfold isAggT at h
 cases hu : G.P.underlying t with
 | none => simp [hu] at h
 | some d => cases d <;> simp [hu] at h <;> subst h <;> simp [isAgg, run_underlying hu]
/-- cells that lie in a row -/
def CellsAt (E : Env) (w : World) (Fz : Nat → Prop) (ι : Nat → Loc) (H : List (Blk E.T)) (B o : Nat) (l : List (PV E.T)) : Prop :=
 ∀ c p, l[c]? = some p → p.one = true ∧ ∃ u, w.cell? ⟨B, o + c, none⟩ = some u ∧ PRep E w Fz ι H p u
theorem CellsAt.vals {E : Env} {w : World} {Fz : Nat → Prop} {ι : Nat → Loc} {H : List (Blk E.T)} {B : Nat} : ∀ {o : Nat} {l : List (PV E.T)}, CellsAt E w Fz ι H B o l →
  ∃ cs : List Value, cs.length = l.length ∧ (∀ (j : Nat) (v : Value), cs[j]? = some v → w.cell? ⟨B, o + j, none⟩ = some v) ∧ PReps E w Fz ι H l cs
 | o, [], _ => ⟨[], rfl, by simp, by simp [PReps]⟩
 | o, p :: l, h => by
  obtain ⟨cs, h1, h2, h3⟩ := CellsAt.vals (o := o + 1) (l := l) (fun c q hq => by
   have := h (c + 1) q (by simpa using hq)
   rwa [show o + (c + 1) = o + 1 + c by omega] at this)
  obtain ⟨_, u, hu, hp⟩ := h 0 p rfl
  refine ⟨u :: cs, by simp [h1], fun j v hj => ?_, by simp only [PReps]; exact ⟨hp, h3⟩⟩
  cases j with
  | zero => simp at hj; subst hj; exact hu
  | succ j => simp at hj; rw [show o + (j + 1) = o + 1 + j by omega]; exact h2 j v hj
theorem packT_sound {t : TypeId} {l : List (PV G.E.T)} {p : PV G.E.T} (h : packT G t l = some p) {B o : Nat} (hc : CellsAt G.E w Fz ι H B o l) :
  ∃ v, (loadVar t ⟨B, o, none⟩).run G.P w = .ok v w ∧ PRep G.E w Fz ι H p v := by
 unfold packT at h
 split at h
 ·rename_i ha
  split at h
  ·rename_i n hn
   split at h
   ·rename_i q hq
    cases h
    obtain ⟨h1, rfl⟩ := takeL_eq n l q hq
    obtain ⟨cs, g1, g2, g3⟩ := CellsAt.vals (o := o) (l := l.take n) (fun c p hp => hc c p (by
     rw [List.getElem?_take] at hp; split at hp
     ·exact hp
     ·cases hp))
    have hl : cs.length = n := by rw [g1, List.length_take]; omega
    have hrun := run_loadCells_list (P := G.P) w ⟨B, o, none⟩ cs (fun j v hj => by rw [Addr.add_lit]; exact g2 j v hj)
    refine ⟨.agg cs.toArray, ?_, ?_⟩
    ·rw [hl] at hrun
     simp [loadVar, run_isAgg ha, run_sizeOf hn, hrun]
    ·simp only [PRep]
     refine ⟨_, rfl, fun p hp => ?_, by simpa using g3⟩
     obtain ⟨c, hc'⟩ := List.getElem?_of_mem hp
     rw [List.getElem?_take] at hc'
     split at hc'
     ·exact (hc c p hc').1
     ·cases hc'
   ·cases h
  ·cases h
 ·rename_i ha
  split at h
  ·rename_i v l'
   cases h
   obtain ⟨_, u, hu, hp⟩ := hc 0 p rfl
   simp only [Nat.add_zero] at hu
   exact ⟨u, by simp [loadVar, run_isAgg ha, hu], hp⟩
  ·cases h
 ·cases h
theorem getL_set {T : Nat → Type} {l : List (Blk T)} {id : Nat} {b : Blk T} (h : getL l id = some b) : id < l.length := getL_lt h
theorem nat_beq {a b : Nat} (h : Nat.beq a b = true) : a = b := Nat.eq_of_beq_eq_true h
theorem rd_mem {xs : List Int} {i : Int} (h0 : 0 ≤ i) (h1 : i.toNat < xs.length) : xs[i.toNat]? = some (rd xs i) := by
 unfold rd
 rw [List.getD_eq_getElem?_getD, List.getElem?_eq_getElem h1]; rfl
theorem RowAt.addr {l : Loc} {len sz : Nat} (h : RowAt w l len sz) (hl : 0 < len) : ∃ B o, l.a = some ⟨B, o, none⟩ := by
 rcases h.2.2 with ⟨_, h1⟩ | ⟨B, o, h1, _⟩
 ·have := h.1; omega
 ·exact ⟨B, o, h1⟩
theorem intsK_spec {T : Nat → Type} : ∀ {n : Nat} {l : List (PV T)} {k : IntKind} {xs : List Int}, intsK n l = some (k, xs) → xs.length = n ∧ ∀ (j : Nat) (x : Int), xs[j]? = some x → l[j]? = some (PV.int k x)
 | 0, l, k, xs, h => by simp [intsK] at h
 | n + 1, [], k, xs, h => by simp [intsK] at h
 | n + 1, p :: l, k, xs, h => by
  have hp : ∃ k0 x0, p = .int k0 x0 := by
   cases p <;> first | exact ⟨_, _, rfl⟩ | (simp [intsK] at h)
  obtain ⟨k0, x0, rfl⟩ := hp
  cases n with
  | zero =>
   simp only [intsK, Option.some.injEq, Prod.mk.injEq] at h
   obtain ⟨rfl, rfl⟩ := h
   refine ⟨rfl, fun j x hj => ?_⟩
   cases j with
   | zero => simp at hj ⊢; exact hj
   | succ j => simp at hj
  | succ n =>
   rw [intsK] at h
   split at h
   ·rename_i k' ys he
    split at h
    ·rename_i hk
     simp only [Option.some.injEq, Prod.mk.injEq] at h
     obtain ⟨rfl, rfl⟩ := h
     have hk := of_decide_eq_true hk
     subst hk
     obtain ⟨h1, h2⟩ := intsK_spec he
     refine ⟨by rw [List.length_cons, h1], fun j x hj => ?_⟩
     cases j with
     | zero => simp at hj ⊢; exact hj
     | succ j => simpa using h2 j x (by simpa using hj)
    ·cases h
   ·cases h
/-- a number of an array is loaded as from its cell -/
theorem loadV_aptr {t : TypeId} {id off n : Nat} {i : Int} {K : PV G.E.T → Option R} (h0 : 0 ≤ i ∧ i.toNat < n) (h : loadV G H t (.aptr id off n i) K = some r) : loadV G H t (.ptr id (off + i.toNat)) K = some r := by
 simp only [loadV] at h ⊢
 split at h
 ·rename_i m cells hb
  split at h
  ·rename_i l hd
   obtain ⟨h1, rfl⟩ := dropL_eq off cells l hd
   split at h
   ·rename_i k xs hk ha
    obtain ⟨g1, g2⟩ := intsK_spec hk
    have hx : xs[i.toNat]? = some (rd xs i) := by
     unfold rd
     rw [List.getD_eq_getElem?_getD, List.getElem?_eq_getElem (by omega)]; rfl
    have hc := g2 _ _ hx
    rw [List.getElem?_drop] at hc
    have hlt : off + i.toNat < cells.length := (List.getElem?_eq_some_iff.1 hc).1
    have hd2 : dropL (off + i.toNat) cells = some (cells.drop (off + i.toNat)) := dropL_of (by omega)
    rw [hd2]
    simp only
    rw [List.drop_eq_getElem_cons hlt, (List.getElem?_eq_some_iff.1 hc).2]
    simp only [packT, ha]
    exact h
   ·cases h
  ·cases h
 ·cases h
theorem loadV_sound0 (ok : EnvOk G.E) {t : TypeId} {a : PV G.E.T} (hna : ∀ id off n i, a ≠ .aptr id off n i) {K : PV G.E.T → Option R} (h : loadV G H t a K = some r) (hH : HRep G.E w Fz ι H) {x : Value} (hx : PRep G.E w Fz ι H a x) :
  ∃ p v, K p = some r ∧ (Instr.loadAt t x).run G.P w = .ok v w ∧ PRep G.E w Fz ι H p v := by
 unfold loadV at h
 split at h
 ·-- ptr
  rename_i id off
  simp only [PRep] at hx
  obtain ⟨b, hb, hi, B, o, hl, rfl⟩ := hx
  split at h
  ·rename_i m cells hb'
   rw [hb] at hb'; cases hb'
   have hr := hH.rep id _ hb
   simp only [BRep] at hr
   obtain ⟨B', o', ha, hB, hc⟩ := hr
   rw [hl] at ha; cases ha
   split at h
   ·rename_i l hd
    obtain ⟨h1, rfl⟩ := dropL_eq off cells l hd
    split at h
    ·rename_i v hv
     obtain ⟨u, g1, g2⟩ := packT_sound (w := w) (Fz := Fz) (ι := ι) (H := H) hv (B := B) (o := o + off) (fun c p hp => by
      rw [List.getElem?_drop] at hp
      obtain ⟨k1, k2, u, k3, k4⟩ := hc _ p hp
      exact ⟨k1, u, by rw [show o + off + c = o + (off + c) by omega]; exact k3, k4⟩)
     exact ⟨v, u, h, by simp [Instr.loadAt, Instr.sureAddr, g1], g2⟩
    ·cases h
   ·cases h
  ·cases h
 ·-- fptr
  simp only [PRep] at hx
  obtain ⟨B, o, rfl, hf, hc⟩ := hx
  split at h
  ·rename_i v hv
   obtain ⟨u, g1, g2⟩ := packT_sound (w := w) (Fz := Fz) (ι := ι) (H := H) hv (B := B) (o := o) (fun c p hp => by
    obtain ⟨u, k1, k2⟩ := hc c p hp
    exact ⟨k2.one, u, k1, k2.toP⟩)
   exact ⟨v, u, h, by simp [Instr.loadAt, Instr.sureAddr, g1], g2⟩
  ·cases h
 ·-- eptr
  rename_i id ep i fld
  simp only [PRep] at hx
  obtain ⟨b, hb, hptr, hi⟩ := hx
  split at h
  ·rename_i m k ep' xs hb'
   rw [hb] at hb'; cases hb'
   replace hi := (hi ep' xs.length 1 rfl).2
   split at h
   ·rename_i he ha
    obtain ⟨i0, i1, B, o, hl, rfl⟩ := hi (nat_beq he)
    have hr := hH.rep id _ hb
    simp only [BRep] at hr
    have hm := rd_mem i0 i1
    have hc := hr.2.2 B o hl _ _ hm
    refine ⟨_, .int k (rd xs i), h, ?_, ?_⟩
    ·simp [Instr.loadAt, Instr.sureAddr, loadVar, run_isAgg ha, hc]
    ·simp only [PRep]; exact .int (hr.2.1 _ (List.mem_of_getElem? hm))
   ·cases h
  ·rename_i m j ep' xs hb'
   rw [hb] at hb'; cases hb'
   replace hi := (hi ep' xs.length (G.E.sz j) rfl).2
   split at h
   ·rename_i he
    obtain ⟨i0, i1, B, o, hl, rfl⟩ := hi (nat_beq he)
    have hr := hH.rep id _ hb
    simp only [BRep] at hr
    obtain ⟨x, hx, h⟩ := Option.bind_eq_some_iff.1 h
    split at h
    ·rename_i l hd
     obtain ⟨h1, rfl⟩ := dropL_eq fld _ l hd
     split at h
     ·rename_i v hv
      obtain ⟨u, g1, g2⟩ := packT_sound (w := w) (Fz := Fz) (ι := ι) (H := H) hv (B := B) (o := o + i.toNat * G.E.sz j + fld) (fun c p hp => by
       rw [List.getElem?_drop] at hp
       obtain ⟨u, k1, k2⟩ := hr.2 B o hl _ x _ p hx hp
       exact ⟨k2.one, u, by rw [show o + i.toNat * G.E.sz j + fld + c = o + i.toNat * G.E.sz j + (fld + c) by omega]; exact k1, k2.toP⟩)
      exact ⟨v, u, h, by simp [Instr.loadAt, Instr.sureAddr, g1], g2⟩
     ·cases h
    ·cases h
   ·cases h
  ·cases h
 ·exact absurd rfl (hna _ _ _ _)
 ·cases h
theorem loadV_sound (ok : EnvOk G.E) {t : TypeId} {a : PV G.E.T} {K : PV G.E.T → Option R} (h : loadV G H t a K = some r) (hH : HRep G.E w Fz ι H) {x : Value} (hx : PRep G.E w Fz ι H a x) :
  ∃ p v, K p = some r ∧ (Instr.loadAt t x).run G.P w = .ok v w ∧ PRep G.E w Fz ι H p v := by
 cases a with
 | aptr id off n i =>
  simp only [PRep] at hx
  obtain ⟨h0, hx⟩ := hx
  exact loadV_sound0 ok (by intros; simp) (loadV_aptr h0 h) hH (a := .ptr id (off + i.toNat)) (by simp only [PRep]; exact hx)
 | _ => exact loadV_sound0 ok (by intros; simp) h hH hx
/-! ### Stores -/
theorem setCells_frame (B : Nat) : ∀ (vs : List Value) (o : Nat) (w : World), (w.setCells B o vs).os = w.os ∧ (w.setCells B o vs).tape = w.tape ∧ (w.setCells B o vs).output = w.output ∧
  (w.setCells B o vs).heap.size = w.heap.size ∧ ∀ C, C ≠ B → (w.setCells B o vs).heap[C]? = w.heap[C]?
 | [], _, w => ⟨rfl, rfl, rfl, rfl, fun _ _ => rfl⟩
 | v :: vs, o, w => by
  obtain ⟨h1, h2, h3, h4, h5⟩ := setCells_frame B vs (o + 1) (w.setCell ⟨B, o, none⟩ v)
  refine ⟨h1, h2, h3, by rw [World.setCells, h4]; simp, fun C hC => ?_⟩
  rw [World.setCells, h5 C hC]
  simp only [World.setCell, Array.getElem?_modify]
  rw [if_neg (Ne.symm hC)]
theorem cells_rep {p : PV G.E.T} {v : Value} (h : PRep G.E w Fz ι H p v) (h1 : allOne (cellsP p) = true) : PReps G.E w Fz ι H (cellsP p) v.cells.toList := by
 by_cases hp : p.one = true
 ·have hc := oneCell_cells (h.cell hp)
  rw [hc]
  have : cellsP p = [p] := by cases p <;> first | rfl | simp [PV.one] at hp
  rw [this]
  simp only [PReps]
  exact ⟨h, trivial⟩
 ·cases p <;> simp only [PV.one, not_true_eq_false] at hp
  case agg l =>
   simp only [PRep] at h
   obtain ⟨cs, rfl, _, h⟩ := h
   exact h
  case tup l => simp [cellsP, allOne, PV.one] at h1
  case any => simp [cellsP, allOne, PV.one] at h1
  case boold => simp [cellsP, allOne, PV.one] at h1
  case aptr => simp [cellsP, allOne, PV.one] at h1
theorem StepB.same_info {E : Env} {ι : Nat → Loc} {id : Nat} {b b' : Blk E.T} (h : b'.info E = b.info E) (hg : b ≠ .gone) : StepB E ι ι id b b' :=
 ⟨fun hb => ⟨by rw [h]; exact hb, rfl⟩, fun ep len sz hb => .inr ⟨ep, len, sz, by rw [h]; exact hb, Nat.le_refl _, fun _ => ⟨rfl, rfl, rfl⟩⟩, fun e => absurd e hg⟩
/-- Cells of one own block are written. -/
theorem Step.write {X : Ctx} (hH : HRep G.E w Fz ι H) (hF : Fram G.E X w Fz ι H) {id : Nat} {b b' : Blk G.E.T} (hb : getL H id = some b) (hown : b.owned = true) (hprot : b.prot = false)
  (hinfo : b'.info G.E = b.info G.E) (hb' : b'.owned = true) {B : Nat} {o : Nat} (ha : (ι id).a = some ⟨B, o, none⟩) (f : Nat) (vs : List Value)
  (hrep : Keep G.E w (w.setCells B f vs) Fz Fz ι ι H (setL H id b') → BRep G.E (w.setCells B f vs) Fz ι (setL H id b') id b') :
  Step G.E X w (w.setCells B f vs) Fz Fz ι ι H (setL H id b') := by
 obtain ⟨h1, h2, h3, h4, h5⟩ := setCells_frame B vs f w
 refine Step.upd hH hF id b' (getL_setL hb) (fun j hj => getL_setL_ne hj) (fun _ _ => rfl) (fun c hc => ?_) h1 h2 h3 (Nat.le_of_eq h4.symm) (fun C hC hne => h5 C (hne b ⟨B, o, none⟩ hb ha)) (fun A' hA' => .inl ⟨b, A', hb, hA', rfl⟩) hb' hrep
 rw [hb] at hc; cases hc
 exact ⟨hown, hprot, StepB.same_info hinfo (owned_ne_gone hown)⟩
theorem run_storeVar {t : TypeId} {n : Nat} (hn : typeSize G t = some n) {v : Value} (hl : v.cells.size = n) (h1 : ∀ u ∈ v.cells.toList, u.oneCell' = true) {B o : Nat}
  (hc : ∀ j, j < n → (∃ u, w.cell? ⟨B, o + j, none⟩ = some u) ∧ w.frozen? ⟨B, o + j, none⟩ = false) :
  (storeVar t ⟨B, o, none⟩ v).run G.P w = .ok () (w.setCells B o v.cells.toList) := by
 have hst := run_storeCells_cells (P := G.P) B o v.cells.toList 0 w (fun j hj => by
   obtain ⟨⟨u, hu⟩, _⟩ := hc j (by simp at hj; omega)
   simp [hu]) (fun j hj => by
   obtain ⟨_, hu⟩ := hc j (by simp at hj; omega)
   simpa using hu) h1
 simp only [Nat.add_zero] at hst
 simp [storeVar, run_sizeOf hn, hl, hst]
theorem PReps.ones {E : Env} {w : World} {Fz : Nat → Prop} {ι : Nat → Loc} {H : List (Blk E.T)} {ps : List (PV E.T)} {vs : List Value} (h : PReps E w Fz ι H ps vs) (h1 : ∀ p ∈ ps, p.one = true) : ∀ u ∈ vs, u.oneCell' = true := by
 intro u hu
 obtain ⟨i, hi⟩ := List.getElem?_of_mem hu
 have hlt : i < ps.length := by rw [h.length]; exact (List.getElem?_eq_some_iff.1 hi).1
 obtain ⟨v, hv, hp⟩ := h.get (List.getElem?_eq_getElem hlt)
 rw [hi] at hv; cases hv
 exact hp.cell (h1 _ (List.getElem_mem hlt))
theorem cell_setCells {B o : Nat} {vs : List Value} (hc : ∀ j, j < vs.length → ∃ u, w.cell? ⟨B, o + j, none⟩ = some u) (c : Nat) :
  (w.setCells B o vs).cell? ⟨B, c, none⟩ = if o ≤ c ∧ c < o + vs.length then vs[c - o]? else w.cell? ⟨B, c, none⟩ := by
 split
 ·rename_i h
  have hj : c - o < vs.length := by omega
  have := World.cell?_setCells_in B vs o w (fun j hj => by obtain ⟨u, hu⟩ := hc j hj; simp [hu]) (c - o) hj
  rw [show o + (c - o) = c by omega] at this
  rw [this, List.getElem?_eq_getElem hj]
 ·rename_i h
  exact World.cell?_setCells_out B vs o w _ (fun _ _ => by simp only; omega)
end
end Go.Proofs.YtgffdmgidnnedaaGreat.V
