/- append, literals, make, conversions: the reading's are the machine's. -/
import Derived.Test.YtgffdmgidnnedaaGreatApp
import Derived.Laws.BytesArg
import Derived.Laws.IdiomStrings
namespace Go.Proofs.YtgffdmgidnnedaaGreat.V
open Go
set_option linter.unusedVariables false
set_option linter.unusedSimpArgs false
section
variable {G : Prg} {w w' : World} {Fz : Nat → Prop} {ι : Nat → Loc} {H : List (Blk G.E.T)} {R : Type} {r : R} {X : Ctx}
theorem Step.rowUpd (hH : HRep G.E w Fz ι H) (hF : Fram G.E X w Fz ι H) {id : Nat} {b b' : Blk G.E.T} (hb : getL H id = some b) (hown : b.owned = true) (hprot : b.prot = false) {ep len sz len' sz' : Nat}
  (hi : b.info G.E = some (ep, len, sz)) (hi' : b'.info G.E = some (ep + 1, len', sz')) (hb' : b'.owned = true) {l' : Loc} {cs : List Value} (hr : RowBecomes w w' (ι id) l' sz' len' cs)
  (hrep : Keep G.E w w' Fz Fz ι (updι ι id l') H (setL H id b') → BRep G.E w' Fz (updι ι id l') (setL H id b') id b') :
  Step G.E X w w' Fz Fz ι (updι ι id l') H (setL H id b') := by
 refine Step.upd hH hF id b' (getL_setL hb) (fun j hj => getL_setL_ne hj) (fun j hj => updι_ne hj) (fun c hc => ?_) hr.os hr.tape hr.output hr.size (fun B hB hne => hr.mem B hB fun A hA => hne b A hb hA) (fun A' hA' => ?_) hb' hrep
 ·rw [hb] at hc; cases hc
  refine ⟨hown, hprot, fun h0 => (by rw [hi] at h0; cases h0), fun e0 l0 s0 h0 => ?_, fun e => ?_⟩
  ·rw [hi] at h0; cases h0
   exact .inr ⟨_, _, _, hi', by omega, fun e => by omega⟩
  ·subst e; cases hi
 ·rw [updι_same] at hA'
  rcases hr.loc A' hA' with ⟨A, h0, h1⟩ | h0
  ·exact .inl ⟨b, A, hb, h0, h1⟩
  ·exact .inr h0
theorem Step.rowNew (hH : HRep G.E w Fz ι H) (hF : Fram G.E X w Fz ι H) {b' : Blk G.E.T} {sz len : Nat} (hb' : b'.owned = true) {l' : Loc} {cs : List Value} (hr : RowBecomes w w' ⟨none, 0⟩ l' sz len cs)
  (hrep : Keep G.E w w' Fz Fz ι (updι ι H.length l') H (H ++ [b']) → BRep G.E w' Fz (updι ι H.length l') (H ++ [b']) H.length b') :
  Step G.E X w w' Fz Fz ι (updι ι H.length l') H (H ++ [b']) :=
 Step.new hH hF b' l' hr.os hr.tape hr.output hr.size (fun B hB => hr.mem B hB (by simp)) (fun A' hA' => (hr.loc A' hA').resolve_left (by simp)) hb' hrep
theorem Step.rowAt {pl : Option Nat} (hpl : plOk pl H = true) (hH : HRep G.E w Fz ι H) (hF : Fram G.E X w Fz ι H) {b' : Blk G.E.T} {sz len : Nat} (hinfo : ∃ len sz, b'.info G.E = some (plEp pl, len, sz)) (hb' : b'.owned = true) {l' : Loc} {cs : List Value} (hr : RowBecomes w w' ⟨none, 0⟩ l' sz len cs)
  (hrep : Keep G.E w w' Fz Fz ι (updι ι (plId pl H) l') H (plPut pl H b') → BRep G.E w' Fz (updι ι (plId pl H) l') (plPut pl H b') (plId pl H) b') :
  Step G.E X w w' Fz Fz ι (updι ι (plId pl H) l') H (plPut pl H b') :=
 Step.at_ hpl hH hF b' l' (.inr hinfo) hr.os hr.tape hr.output hr.size (fun B hB => hr.mem B hB (by simp)) (fun A' hA' => (hr.loc A' hA').resolve_left (by simp)) hb' hrep
theorem RowBecomes.ints {l l' : Loc} {k : IntKind} {ys : List Int} (hr : RowBecomes w w' l l' 1 ys.length (ys.map fun y => Value.int k y)) (hk : ∀ y ∈ ys, k.has y) {ι' : Nat → Loc} {id : Nat} (hι : ι' id = l') {F : Nat → Prop} {H' : List (Blk G.E.T)} {m : Mode} {ep : Nat} :
  BRep G.E w' F ι' H' id (.ints m k ep ys) := by
 simp only [BRep]
 rw [hι]
 exact ⟨hr.row, hk, fun B o ha j x hj => hr.cells B o ha j _ (by rw [List.getElem?_map, hj]; rfl)⟩
theorem RowBecomes.rows {l l' : Loc} {i : Nat} {ys : List (G.E.T i)} {vs : List Value} (hr : RowBecomes w w' l l' (G.E.sz i) ys.length vs) {F : Nat → Prop} (hv : RowVals G.E w' F i ys vs) {ι' : Nat → Loc} {id : Nat} (hι : ι' id = l') {H' : List (Blk G.E.T)} {m : Mode} {ep : Nat} :
  BRep G.E w' F ι' H' id (.rows m i ep ys) := by
 simp only [BRep]
 rw [hι]
 refine ⟨hr.row, fun B o ha j x c p hj hp => ?_⟩
 obtain ⟨u, h1, h2⟩ := hv.rep j x c p hj hp
 exact ⟨u, by rw [Nat.add_assoc]; exact hr.cells B o ha _ u h1, h2⟩
theorem arr_new {b : Blk G.E.T} {l : Loc} {ep len sz : Nat} (hb : b.info G.E = some (ep, len, sz)) : PRep G.E w' Fz (updι ι H.length l) (H ++ [b]) (.arr H.length ep) (.slice l.a len l.cap) := by
 simp only [PRep]
 refine ⟨b, getL_append_len, ⟨_, _, _, rfl⟩, fun ep' len' sz' h => ?_⟩
 rw [hb] at h; cases h
 exact ⟨Nat.le_refl _, fun _ => by rw [updι_same]⟩
theorem arr_at {pl : Option Nat} (hpl : plOk pl H = true) {b : Blk G.E.T} {l : Loc} {ep len sz : Nat} (hb : b.info G.E = some (ep, len, sz)) : PRep G.E w' Fz (updι ι (plId pl H) l) (plPut pl H b) (.arr (plId pl H) ep) (.slice l.a len l.cap) := by
 simp only [PRep]
 refine ⟨b, getL_plPut hpl, ⟨_, _, _, rfl⟩, fun ep' len' sz' h => ?_⟩
 rw [hb] at h; cases h
 exact ⟨Nat.le_refl _, fun _ => by rw [updι_same]⟩
theorem arr_upd {id : Nat} {b0 b : Blk G.E.T} (hb0 : getL H id = some b0) {l : Loc} {ep len sz : Nat} (hb : b.info G.E = some (ep, len, sz)) : PRep G.E w' Fz (updι ι id l) (setL H id b) (.arr id ep) (.slice l.a len l.cap) := by
 simp only [PRep]
 refine ⟨b, getL_setL hb0, ⟨_, _, _, rfl⟩, fun ep' len' sz' h => ?_⟩
 rw [hb] at h; cases h
 exact ⟨Nat.le_refl _, fun _ => by rw [updι_same]⟩
theorem moreInts_read (hH : HRep G.E w Fz ι H) {k : IntKind} {p : PV G.E.T} {ys : List Int} (h : moreInts H k p = some ys) {x : Value} (hx : PRep G.E w Fz ι H p x) :
  (∀ y ∈ ys, k.has y) ∧ (∀ (P : Program) (w' : World), (Builtin.lenOf x).run P w' = .ok ys.length w') ∧
  ∀ w' : World, w'.heap = w.heap → ∀ P : Program, (Builtin.firstCells 1 ys.length x).run P w' = .ok (ys.map fun y => Value.int k y).toArray w' := by
 unfold moreInts at h
 split at h
 ·rename_i s
  split at h
  ·cases h
   simp only [PRep] at hx
   cases hx with | str e1 l1 =>
   rename_i bs
   subst e1
   refine ⟨fun y hy => ?_, fun P w' => by simp [Builtin.lenOf, bytesOfStr_len], fun w' _ P => ?_⟩
   ·simp only [bytesOfStr, List.mem_map] at hy
    obtain ⟨b, _, rfl⟩ := hy
    rw [has_iff]
    have := b.toNat_lt
    simp only; omega
   ·simp only [Builtin.firstCells, bytesOfStr_len, Sem.run_pure]
    congr 1
    apply Array.ext'
    have hsz : bs.extract 0 bs.size = bs := by
     apply ByteArray.ext
     simp
    rw [hsz]
    simp [bytesOfStr]
  ·cases h
 ·split at h
  ·rename_i xs l hxs
   cases h
   obtain ⟨a, cap, rfl, h1, h2, h3⟩ := (intsOf_read hH hxs hx).ints_cells
   exact ⟨h1, fun P w' => by simp [Builtin.lenOf], h3⟩
  ·cases h
theorem map_ones {k : IntKind} (ys : List Int) : ∀ u ∈ ys.map (fun y => Value.int k y), u.oneCell' = true := by
 intro u hu
 obtain ⟨y, _, rfl⟩ := List.mem_map.1 hu
 rfl
/-- a row that is read: its elements are read only -/
def RowsRead (E : Env) (w : World) (Fz : Nat → Prop) (i : Nat) (ys : List (E.T i)) (x : Value) : Prop :=
 ∃ a cap, x = .slice a ys.length cap ∧ ys.length ≤ maxLen ∧ (ys ≠ [] → ∃ B o, a = some ⟨B, o, none⟩ ∧ ∀ j x c p, ys[j]? = some x → (E.outs i x)[c]? = some p → ∃ u, w.cell? ⟨B, o + j * E.sz i + c, none⟩ = some u ∧ FRep E w Fz p u)
theorem rowsOf_rr (hH : HRep G.E w Fz ι H) {i : Nat} {p : PV G.E.T} {ys : List (G.E.T i)} {l : List Nat} (h : rowsOf H i p = some (ys, l)) {x : Value} (hx : PRep G.E w Fz ι H p x) : RowsRead G.E w Fz i ys x := by
 unfold rowsOf at h
 split at h
 ·split at h
  ·rename_i hj
   subst hj
   cases h
   simp only [PRep] at hx
   cases hx with
   | rows cv h2 h0 h3 h4 =>
    refine ⟨_, _, rfl, h2, fun hne => ?_⟩
    obtain ⟨B, o, ha, _, hc⟩ := h3 hne
    exact ⟨B, o, ha, fun j x c p hj hp => ⟨_, hc j x c p hj hp, h4 j x c p hj hp⟩⟩
  ·cases h
 ·cases h
  simp only [PRep] at hx
  subst hx
  exact ⟨none, 0, rfl, by simp, by simp⟩
 ·simp only [PRep] at hx
  obtain ⟨b, hb, hx⟩ := hx
  split at h
  ·rename_i m j ep' xs hb'
   rw [hb] at hb'; cases hb'
   split at h
   ·rename_i he
    split at h
    ·rename_i hj
     subst hj
     cases h
     have hr := hH.rep _ _ hb
     simp only [BRep] at hr
     have hv := (hx.2 _ _ _ rfl).2 (nat_beq he)
     refine ⟨_, _, hv, hr.1.2.1, fun hne => ?_⟩
     obtain ⟨B, o, ha⟩ := hr.1.addr (List.length_pos_iff.2 hne)
     exact ⟨B, o, ha, hr.2 B o ha⟩
    ·cases h
   ·cases h
  ·cases h
 ·rename_i id ep off len
  simp only [PRep] at hx
  obtain ⟨b, hb, hx⟩ := hx
  split at h
  ·rename_i m j ep' xs hb'
   rw [hb] at hb'; cases hb'
   split at h
   ·rename_i he
    split at h
    ·rename_i hj
     subst hj
     cases h
     have hr := hH.rep _ _ hb
     simp only [BRep] at hr
     obtain ⟨h1, a, cap, rfl, h0, h2⟩ := (hx.2 _ _ _ rfl).2 (nat_beq he)
     have hl : ((xs.drop off).take len).length = len := by simp; omega
     refine ⟨a, cap, by rw [show castR rfl xs = xs from rfl, hl], by rw [show castR rfl xs = xs from rfl, hl]; have := hr.1.2.1; omega, fun hne => ?_⟩
     have hpos : 0 < len := by
      rcases Nat.eq_zero_or_pos len with h0 | h0
      ·subst h0; simp at hne
      ·exact h0
     obtain ⟨B, o, ha, rfl⟩ := h2 hpos
     refine ⟨B, o + off * G.E.sz j, rfl, fun q z c p hq hp => ?_⟩
     have hq' : xs[off + q]? = some z := by
      have hq : ((xs.drop off).take len)[q]? = some z := hq
      rw [List.getElem?_take] at hq
      split at hq
      ·rwa [List.getElem?_drop] at hq
      ·cases hq
     obtain ⟨u, g1, g2⟩ := hr.2 B o ha _ z c p hq' hp
     exact ⟨u, by rw [show o + off * G.E.sz j + q * G.E.sz j + c = o + (off + q) * G.E.sz j + c by rw [Nat.add_mul]; omega]; exact g1, g2⟩
    ·cases h
   ·cases h
  ·cases h
 ·cases h
theorem RowsRead.cells (ok : EnvOk G.E) {i : Nat} {ys : List (G.E.T i)} {x : Value} (h : RowsRead G.E w Fz i ys x) : ∃ vs, RowVals G.E w Fz i ys vs ∧ (∀ v ∈ vs, v.oneCell' = true) ∧ (∀ (P : Program) (w' : World), (Builtin.lenOf x).run P w' = .ok ys.length w') ∧
  ∀ w' : World, w'.heap = w.heap → ∀ P : Program, (Builtin.firstCells (G.E.sz i) ys.length x).run P w' = .ok vs.toArray w' := by
 obtain ⟨a, cap, rfl, _, hc⟩ := h
 by_cases hne : ys = []
 ·subst hne
  refine ⟨[], ⟨by simp, by simp⟩, by simp, fun P w' => by simp [Builtin.lenOf], fun w' hw P => ?_⟩
  cases a <;> simp [Builtin.firstCells, loadCells, loadCellsFrom]
 ·obtain ⟨B, o, rfl, hc'⟩ := hc hne
  obtain ⟨vs, g1, g2, g3⟩ := RowVals.of_cells (G := G) (w := w) ok (F := Fz) (ys := ys) (B := B) (o := o) hc'
  refine ⟨vs, g1, g3, fun P w' => by simp [Builtin.lenOf], fun w' hw P => ?_⟩
  refine run_firstCells_some (P := P) w' _ ys.length ⟨B, o, none⟩ _ _ vs g1.length (fun q v hv => ?_)
  rw [Addr.add_lit, World.cell?_of_block (w := w) (by rw [hw])]
  exact g2 q v hv
theorem run_append_zero {P : Program} {w : World} {t tx ty e : TypeId} {i : TypeInfo} {k k' : IntKind} (ht : P.underlying t = some (.slice e)) (hi : P.info? e = some i) (hsz : i.size = 1) (hb0 : 0 < i.bytes) (hz : i.zero = some (.int k 0))
  (hx : P.underlying tx = some (.int k')) {m : Int} (hm : 0 ≤ m) (hbytes : m.toNat * i.bytes ≤ 140737488355328) :
  ∃ l' w', (Builtin.append_ #[t, tx] ty #[.slice none 0 0, .int .i64 m]).run P w = .ok (.slice l'.a m.toNat l'.cap) w' ∧ RowBecomes w w' ⟨none, 0⟩ l' 1 m.toNat ((List.replicate m.toNat 0).map fun y => Value.int k y) := by
 have hle : m.toNat ≤ 140737488355328 := Nat.le_trans (Nat.le_mul_of_pos_right _ hb0) hbytes
 have hwm : IntKind.i64.wrap m = m := by rw [IntKind.wrap_i64]; omega
 have h0 : ¬ m < 0 := by omega
 have hmb : ¬ 281474976710656 < m * (i.bytes : Int) := by
  have : ((m.toNat * i.bytes : Nat) : Int) = m * (i.bytes : Int) := by
   rw [Int.natCast_mul, Int.toNat_of_nonneg hm]
  omega
 by_cases hm0 : m = 0
 ·subst hm0
  refine ⟨⟨none, 0⟩, w, ?_, ⟨⟨Nat.le_refl _, by simp, .inl ⟨rfl, rfl⟩⟩, by simp, rfl, rfl, rfl, Nat.le_refl _, fun _ _ _ => rfl, fun A h => .inl ⟨A, h, rfl⟩⟩⟩
  simp [Builtin.append_, run_underlying ht, run_underlying hx, sizeOf, typeInfo, hi, hsz, hwm, asInt, asIntOf]
 ·have h63 : ¬ (9223372036854775807 < ((m.toNat : Nat) : Int)) := by omega
  have hfit := growslice_fits (need := m.toNat) (old := 0) (bytes := i.bytes) (by omega) hbytes
  have h48 : ¬ (281474976710656 < Builtin.nextslicecap m.toNat 0 * i.bytes) := by omega
  have hmn : ¬ m.toNat = 0 := by omega
  have hmle : ¬ m ≤ 0 := by omega
  have hmax : ¬ (9223372036854775807 < max m 0) := by omega
  refine ⟨⟨some ⟨w.heap.size, 0, none⟩, grownCap w m.toNat 0 e⟩, w.drew.alloc (.cells (Builtin.zeroCells (Value.int k 0).cells m.toNat ++ Builtin.zeroCells (Value.int k 0).cells (grownCap w m.toNat 0 e - m.toNat)) e), ?_, ?_⟩
  ·have hb0' : i.bytes ≠ 0 := by omega
   simp [Builtin.append_, run_underlying ht, run_underlying hx, sizeOf, typeInfo, zeroValue, hi, hsz, hz, hwm, asInt, asIntOf, h0, hmb, hmn, hmle, hmax, h63, h48, hb0', Question.forced, newRow, grownCap, Builtin.firstCells]
  ·have hge := grownCap_ge w m.toNat 0 e
   have hcm := grownCap_le_maxLen w m.toNat 0 e (by simp only [maxLen]; omega)
   have hsize : (Builtin.zeroCells (Value.int k 0).cells m.toNat ++ Builtin.zeroCells (Value.int k 0).cells (grownCap w m.toNat 0 e - m.toNat)).size = grownCap w m.toNat 0 e := by
    simp only [Array.size_append, size_zeroCells]
    show m.toNat * 1 + (grownCap w m.toNat 0 e - m.toNat) * 1 = _
    omega
   refine ⟨⟨hge, by simp only [maxLen]; omega, .inr ⟨w.heap.size, 0, rfl, by simp, fun c hc => ?_⟩⟩, fun B o ha q v hv => ?_, rfl, rfl, rfl, by simp, fun B hB _ => heap_alloc_old w.drew _ B hB, fun A' hA' => .inr ?_⟩
   ·have e0 : w.drew.heap.size = w.heap.size := rfl
    rw [Nat.zero_add, ← e0, World.cell?_alloc_new, World.frozen?_alloc_new]
    exact ⟨⟨_, Array.getElem?_eq_getElem (by rw [hsize]; have hc' : c < grownCap w m.toNat 0 e * 1 := hc; omega)⟩, rfl⟩
   ·simp only [Option.some.injEq, Addr.mk.injEq] at ha
    obtain ⟨rfl, rfl, _⟩ := ha
    have : w.drew.heap.size = w.heap.size := rfl
    rw [Nat.zero_add, ← this, World.cell?_alloc_new]
    rw [List.map_replicate, List.getElem?_replicate] at hv
    split at hv
    ·rename_i hq
     cases hv
     rw [Array.getElem?_append_left (by rw [size_zeroCells]; show q < m.toNat * 1; omega)]
     unfold Builtin.zeroCells
     rw [Array.getElem?_map, Array.getElem?_range, if_pos (by show q < m.toNat * 1; omega)]
     show some ((#[Value.int k 0] : Array Value)[q % 1]!) = _
     rw [Nat.mod_one]; rfl
    ·cases hv
   ·simp only [Option.some.injEq] at hA'
    subst hA'; exact Nat.le_refl _
theorem appendZ_sound (ok : PrgOk G) {t tx ty : TypeId} {s x : PV G.E.T} {K : PV G.E.T → List (Blk G.E.T) → Option R} (h : appendZ G H t s x K = some r) (hH : HRep G.E w Fz ι H) (hF : Fram G.E X w Fz ι H)
  {vs vx : Value} (hs : PRep G.E w Fz ι H s vs) (hx : PRep G.E w Fz ι H x vx) {k' : IntKind} (htx : G.P.underlying tx = some (.int k')) :
  ∃ p H' v w' ι', K p H' = some r ∧ (Builtin.append_ #[t, tx] ty #[vs, vx]).run G.P w = .ok v w' ∧ Step G.E X w w' Fz Fz ι ι' H H' ∧ PRep G.E w' Fz ι' H' p v := by
 unfold appendZ at h
 split at h
 ·cases h
 rename_i e he
 split at h
 ·rename_i b k hby hel
  obtain ⟨hu, _⟩ := elemOk_int ok he hel
  obtain ⟨_, i, hi, hsz, hb0, hz⟩ := ok.int e k hel
  obtain ⟨i', hi', rfl⟩ := typeBytes_eq hby
  rw [hi] at hi'; cases hi'
  split at h
  ·rename_i m
   simp only [PRep] at hs hx
   subst hs
   cases hx with | int hm =>
   split at h
   ·rename_i hc
    obtain ⟨l', w', hrun, hrb⟩ := run_append_zero (P := G.P) (w := w) (t := t) (tx := tx) (ty := ty) hu hi hsz hb0 hz htx hc.1 hc.2
    have hrb' : RowBecomes w w' ⟨none, 0⟩ l' 1 (List.replicate m.toNat (0 : Int)).length ((List.replicate m.toNat 0).map fun y => Value.int k y) := by rw [List.length_replicate]; exact hrb
    have hrun' : (Builtin.append_ #[t, tx] ty #[.slice none 0 0, .int .i64 m]).run G.P w = .ok (.slice l'.a (List.replicate m.toNat (0 : Int)).length l'.cap) w' := by rw [List.length_replicate]; exact hrun
    exact ⟨_, _, _, w', _, h, hrun', Step.rowNew hH hF rfl hrb' (fun KK => hrb'.ints (fun y hy => by
     obtain ⟨_, rfl⟩ := List.mem_replicate.1 hy
     rw [has_iff]; cases k <;> simp) updι_same), arr_new (b := .ints .own k 0 _) rfl⟩
   ·cases h
  ·cases h
 ·cases h
theorem appendV_sound (ok : PrgOk G) {t tx ty : TypeId} {s x : PV G.E.T} {K : PV G.E.T → List (Blk G.E.T) → Option R} (h : appendV G H t s x K = some r) (hH : HRep G.E w Fz ι H) (hF : Fram G.E X w Fz ι H)
  {vs vx : Value} (hs : PRep G.E w Fz ι H s vs) (hx : PRep G.E w Fz ι H x vx) {dx : TypeDesc} (htx : G.P.underlying tx = some dx) (hdx : dx = .string ∨ ∃ e', dx = .slice e') :
  ∃ p H' v w' ι', K p H' = some r ∧ (Builtin.append_ #[t, tx] ty #[vs, vx]).run G.P w = .ok v w' ∧ Step G.E X w w' Fz Fz ι ι' H H' ∧ PRep G.E w' Fz ι' H' p v := by
 unfold appendV at h
 split at h
 ·cases h
 rename_i e he
 split at h
 ·rename_i b k hby hel
  obtain ⟨hu, _⟩ := elemOk_int ok he hel
  obtain ⟨_, i, hi, hsz, hb0, hz⟩ := ok.int e k hel
  obtain ⟨i', hi', rfl⟩ := typeBytes_eq hby
  rw [hi] at hi'; cases hi'
  split at h
  ·cases h
  rename_i ys hys
  obtain ⟨hk, hlen, hfirst⟩ := moreInts_read hH hys hx
  split at h
  ·simp only [PRep] at hs
   subst hs
   split at h
   ·rename_i hbytes
    obtain ⟨l', w', hrun, hrb⟩ := run_append_gen (P := G.P) (w := w) (t := t) (tx := tx) (ty := ty) hu hi hsz hb0 hz rfl htx hdx (hlen G.P) (fun w' hw => hfirst w' hw G.P) (by simp) (map_ones ys)
     (l := ⟨none, 0⟩) (sLen := 0) ⟨Nat.le_refl _, by simp, .inl ⟨rfl, rfl⟩⟩ (olds := []) (by simp) (by simp) (by simpa using hbytes)
    simp only [Nat.zero_add, List.nil_append] at hrun hrb
    exact ⟨_, _, _, w', _, h, hrun, Step.rowNew hH hF rfl hrb (fun KK => hrb.ints hk updι_same), arr_new (b := .ints .own k 0 ys) rfl⟩
   ·cases h
  ·rename_i id ep
   simp only [PRep] at hs
   obtain ⟨b, hb, hs⟩ := hs
   split at h
   ·rename_i k' ep' xs hb'
    rw [hb] at hb'; cases hb'
    split at h
    ·rename_i hep hkk
     have := of_decide_eq_true hkk; subst this
     have := nat_beq hep; subst this
     split at h
     ·rename_i hbytes
      have hv := (hs.2 _ _ _ rfl).2 rfl
      subst hv
      have hr := hH.rep id _ hb
      simp only [BRep] at hr
      obtain ⟨l', w', hrun, hrb⟩ := run_append_gen (P := G.P) (w := w) (t := t) (tx := tx) (ty := ty) hu hi hsz hb0 hz rfl htx hdx (hlen G.P) (fun w' hw => hfirst w' hw G.P) (by simp) (map_ones ys)
       (l := ι id) (sLen := xs.length) hr.1 (olds := xs.map fun y => Value.int k y) (by simp) (fun B o ha q v hq => by
        rw [List.getElem?_map] at hq
        obtain ⟨y, hy, rfl⟩ := Option.map_eq_some_iff.1 hq
        exact hr.2.2 B o ha q y hy) hbytes
      rw [← List.map_append, ← List.length_append] at hrb
      rw [← List.length_append] at hrun
      refine ⟨_, _, _, w', _, h, hrun, Step.rowUpd hH hF hb rfl rfl rfl (b' := .ints .own k (ep + 1) (xs ++ ys)) rfl rfl hrb (fun KK => hrb.ints (fun y hy => ?_) updι_same), arr_upd (b := .ints .own k (ep + 1) (xs ++ ys)) hb rfl⟩
      rcases List.mem_append.1 hy with hy | hy
      ·exact hr.2.1 y hy
      ·exact hk y hy
     ·cases h
    ·cases h
   ·cases h
  ·cases h
 ·rename_i b n hby hel
  obtain ⟨hu, _⟩ := elemOk_row ok he hel
  obtain ⟨i, z, hi, hsz, hb0, hz, hzs, hpos, _⟩ := ok.row e n hel
  obtain ⟨i', hi', rfl⟩ := typeBytes_eq hby
  rw [hi] at hi'; cases hi'
  split at h
  ·cases h
  rename_i ys l hys
  obtain ⟨vs', hvals, hones, hlen, hfirst⟩ := (rowsOf_rr hH hys hx).cells ok.env
  split at h
  ·simp only [PRep] at hs
   subst hs
   split at h
   ·rename_i hbytes
    obtain ⟨l', w', hrun, hrb⟩ := run_append_gen (P := G.P) (w := w) (t := t) (tx := tx) (ty := ty) hu hi hsz hb0 hz hzs htx hdx (hlen G.P) (fun w' hw => hfirst w' hw G.P) hvals.length hones
     (l := ⟨none, 0⟩) (sLen := 0) ⟨Nat.le_refl _, by simp, .inl ⟨rfl, rfl⟩⟩ (olds := []) (by simp) (by simp) (by simpa using hbytes)
    simp only [Nat.zero_add, List.nil_append] at hrun hrb
    exact ⟨_, _, _, w', _, h, hrun, Step.rowNew hH hF rfl hrb (fun KK => hrb.rows (hvals.mono KK.fz KK.heap) updι_same), arr_new (b := .rows .own n 0 ys) rfl⟩
   ·cases h
  ·rename_i id ep
   simp only [PRep] at hs
   obtain ⟨b, hb, hs⟩ := hs
   split at h
   ·rename_i j ep' xs hb'
    rw [hb] at hb'; cases hb'
    split at h
    ·rename_i hep
     have := nat_beq hep; subst this
     split at h
     ·rename_i hj
      subst hj
      split at h
      ·rename_i hbytes
       have hv := (hs.2 _ _ _ rfl).2 rfl
       subst hv
       have hr := hH.rep id _ hb
       simp only [BRep] at hr
       have hold : ∃ us, RowVals G.E w Fz j xs us ∧ ∀ B o, (ι id).a = some ⟨B, o, none⟩ → ∀ (q : Nat) (v : Value), us[q]? = some v → w.cell? ⟨B, o + q, none⟩ = some v := by
        by_cases hne : xs = []
        ·subst hne
         exact ⟨[], ⟨by simp, by simp⟩, by simp⟩
        ·obtain ⟨B, o, ha⟩ := hr.1.addr (List.length_pos_iff.2 hne)
         obtain ⟨us, g1, g2, _⟩ := RowVals.of_cells (G := G) (w := w) ok.env (F := Fz) (ys := xs) (B := B) (o := o) (hr.2 B o ha)
         refine ⟨us, g1, fun B' o' ha' => ?_⟩
         rw [ha] at ha'; cases ha'
         exact g2
       obtain ⟨us, hus, husc⟩ := hold
       obtain ⟨l', w', hrun, hrb⟩ := run_append_gen (P := G.P) (w := w) (t := t) (tx := tx) (ty := ty) hu hi hsz hb0 hz hzs htx hdx (hlen G.P) (fun w' hw => hfirst w' hw G.P) hvals.length hones
        (l := ι id) (sLen := xs.length) hr.1 (olds := us) hus.length husc hbytes
       rw [← List.length_append] at hrb hrun
       exact ⟨_, _, _, w', _, h, hrun, Step.rowUpd hH hF hb rfl rfl rfl (b' := .rows .own j (ep + 1) (xs ++ ys)) rfl rfl hrb (fun KK => hrb.rows ((hus.append hvals).mono KK.fz KK.heap) updι_same), arr_upd (b := .rows .own j (ep + 1) (xs ++ ys)) hb rfl⟩
      ·cases h
     ·cases h
    ·cases h
   ·cases h
  ·cases h
 ·cases h
end
end Go.Proofs.YtgffdmgidnnedaaGreat.V
