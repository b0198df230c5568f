/- Addresses, lengths, new boxes, parts. -/
import Derived.Test.YtgffdmgidnnedaaGreatMem2
namespace Go.Proofs.YtgffdmgidnnedaaGreat.V
open Go
set_option linter.unusedVariables false
set_option linter.unusedSimpArgs false
def updι (ι : Nat → Loc) (id : Nat) (l : Loc) : Nat → Loc := fun j => if j = id then l else ι j
theorem updι_same {ι : Nat → Loc} {id : Nat} {l : Loc} : updι ι id l id = l := by simp [updι]
theorem updι_ne {ι : Nat → Loc} {id j : Nat} {l : Loc} (h : j ≠ id) : updι ι id l j = ι j := by simp [updι, h]
section
variable {G : Prg} {w w' : World} {Fz : Nat → Prop} {ι : Nat → Loc} {H : List (Blk G.E.T)} {R : Type} {r : R} {X : Ctx}
theorem getL_none {α : Type} {l : List α} {i : Nat} (h : l.length ≤ i) : getL l i = none := by rw [getL_eq, List.getElem?_eq_none h]
/-- A new block. -/
theorem Step.new (hH : HRep G.E w Fz ι H) (hF : Fram G.E X w Fz ι H) (b' : Blk G.E.T) (l : Loc)
  (hos : w'.os = w.os) (htape : w'.tape = w.tape) (hout : w'.output = w.output) (hsize : w.heap.size ≤ w'.heap.size)
  (hmem : ∀ B, B < w.heap.size → w'.heap[B]? = w.heap[B]?) (hloc : ∀ A', l.a = some A' → w.heap.size ≤ A'.block) (hb' : b'.owned = true)
  (hrep : Keep G.E w w' Fz Fz ι (updι ι H.length l) H (H ++ [b']) → BRep G.E w' Fz (updι ι H.length l) (H ++ [b']) H.length b') :
  Step G.E X w w' Fz Fz ι (updι ι H.length l) H (H ++ [b']) := by
 refine Step.upd hH hF H.length b' getL_append_len (fun j hj => getL_append_ne hj) (fun j hj => updι_ne hj) (fun b hb => ?_) hos htape hout hsize (fun B hB _ => hmem B hB) (fun A' hA' => .inr ?_) hb' hrep
 ·rw [getL_none (Nat.le_refl _)] at hb; cases hb
 ·rw [updι_same] at hA'; exact hloc A' hA'
/-- A new block, behind the others or in a place that was kept for it. -/
theorem getL_plPut {pl : Option Nat} (hpl : plOk pl H = true) {b : Blk G.E.T} : getL (plPut pl H b) (plId pl H) = some b := by
 cases pl with
 | none => exact getL_append_len
 | some s =>
  simp only [plOk] at hpl
  split at hpl
  ·rename_i k hs; exact getL_setL hs
  ·cases hpl
theorem Step.at_ {pl : Option Nat} (hpl : plOk pl H = true) (hH : HRep G.E w Fz ι H) (hF : Fram G.E X w Fz ι H) (b' : Blk G.E.T) (l : Loc)
  (hinfo : b'.info G.E = none ∨ ∃ len sz, b'.info G.E = some (plEp pl, len, sz))
  (hos : w'.os = w.os) (htape : w'.tape = w.tape) (hout : w'.output = w.output) (hsize : w.heap.size ≤ w'.heap.size)
  (hmem : ∀ B, B < w.heap.size → w'.heap[B]? = w.heap[B]?) (hloc : ∀ A', l.a = some A' → w.heap.size ≤ A'.block) (hb' : b'.owned = true)
  (hrep : Keep G.E w w' Fz Fz ι (updι ι (plId pl H) l) H (plPut pl H b') → BRep G.E w' Fz (updι ι (plId pl H) l) (plPut pl H b') (plId pl H) b') :
  Step G.E X w w' Fz Fz ι (updι ι (plId pl H) l) H (plPut pl H b') := by
 cases pl with
 | none => exact Step.new hH hF b' l hos htape hout hsize hmem hloc hb' hrep
 | some s =>
  have hg := getL_plPut (b := b') hpl
  simp only [plOk] at hpl
  split at hpl
  ·rename_i k hs
   refine Step.upd hH hF s b' hg (fun j hj => getL_setL_ne hj) (fun j hj => updι_ne hj) (fun b hb => ?_) hos htape hout hsize (fun B hB _ => hmem B hB) (fun A' hA' => .inr ?_) hb' hrep
   ·rw [hs] at hb; cases hb
    refine ⟨rfl, rfl, ⟨fun e => by simp [Blk.info] at e, fun ep len sz e => ?_, fun e => by cases e⟩⟩
    simp only [Blk.info, Option.some.injEq, Prod.mk.injEq] at e
    obtain ⟨rfl, rfl, rfl⟩ := e
    rcases hinfo with h | ⟨len, sz, h⟩
    ·exact .inl h
    ·exact .inr ⟨_, _, _, h, Nat.zero_le _, fun e => by simp [plEp] at e⟩
   ·have : (updι ι s l s).a = some A' := hA'
    rw [updι_same] at this; exact hloc A' this
  ·cases hpl
theorem Step.newBoxAt {pl : Option Nat} (hpl : plOk pl H = true) (hH : HRep G.E w Fz ι H) (hF : Fram G.E X w Fz ι H) {l : List (PV G.E.T)} {cs : List Value} (hl : PReps G.E w Fz ι H l cs) (h1 : ∀ p ∈ l, p.one = true) (t : TypeId) :
  Step G.E X w (w.alloc (.cells cs.toArray t)) Fz Fz ι (updι ι (plId pl H) ⟨some ⟨w.heap.size, 0, none⟩, 0⟩) H (plPut pl H (.box .own l)) := by
 refine Step.at_ hpl hH hF _ _ (.inl rfl) rfl rfl rfl (by simp) (fun B hB => heap_alloc_old w _ B hB) (fun A' hA' => by simp at hA'; subst hA'; simp) rfl fun KK => ?_
 simp only [BRep]
 refine ⟨w.heap.size, 0, by rw [updι_same], by simp, fun c p hp => ?_⟩
 obtain ⟨v, hv, hpv⟩ := hl.get hp
 refine ⟨h1 p (List.mem_of_getElem? hp), by simp, v, by simpa using hv, hpv.mono KK⟩
theorem newBoxAt_ptr {pl : Option Nat} (hpl : plOk pl H = true) {l : List (PV G.E.T)} {a : Addr} (h : a = ⟨a.block, a.off, none⟩) : PRep G.E w' Fz (updι ι (plId pl H) ⟨some a, 0⟩) (plPut pl H (.box .own l)) (.ptr (plId pl H) 0) (.pointer (some a)) := by
 simp only [PRep]
 exact ⟨_, getL_plPut hpl, rfl, a.block, a.off, by rw [updι_same, ← h], by rw [Nat.add_zero, ← h]⟩
theorem alloc_mem (o : Obj) : ∀ B, B < w.heap.size → (w.alloc o).heap[B]? = w.heap[B]? := fun B hB => heap_alloc_old w o B hB
/-- A new box. -/
theorem Step.newBox (hH : HRep G.E w Fz ι H) (hF : Fram G.E X w Fz ι H) {l : List (PV G.E.T)} {cs : List Value} (hl : PReps G.E w Fz ι H l cs) (h1 : ∀ p ∈ l, p.one = true) (t : TypeId) :
  Step G.E X w (w.alloc (.cells cs.toArray t)) Fz Fz ι (updι ι H.length ⟨some ⟨w.heap.size, 0, none⟩, 0⟩) H (H ++ [.box .own l]) := by
 refine Step.new hH hF _ _ rfl rfl rfl (by simp) (alloc_mem _) (fun A' hA' => by simp at hA'; subst hA'; simp) rfl fun KK => ?_
 simp only [BRep]
 refine ⟨w.heap.size, 0, by rw [updι_same], by simp, fun c p hp => ?_⟩
 obtain ⟨v, hv, hpv⟩ := hl.get hp
 refine ⟨h1 p (List.mem_of_getElem? hp), by simp, v, by simpa using hv, hpv.mono KK⟩
theorem newBox_ptr {l : List (PV G.E.T)} {a : Addr} (h : a = ⟨a.block, a.off, none⟩) : PRep G.E w' Fz (updι ι H.length ⟨some a, 0⟩) (H ++ [.box .own l]) (.ptr H.length 0) (.pointer (some a)) := by
 simp only [PRep]
 exact ⟨_, getL_append_len, rfl, a.block, a.off, by rw [updι_same, ← h], by rw [Nat.add_zero, ← h]⟩
theorem zeroCellsP_sound {t : TypeId} {l : List (PV G.E.T)} (h : zeroCellsP G t = some l) : ∃ z : Value, (zeroValue t).run G.P w = .ok z w ∧ PReps G.E w Fz ι H l z.cells.toList ∧ (∀ p ∈ l, p.one = true) ∧ ∃ i, G.P.info? t = some i ∧ i.zero = some z := by
 unfold zeroCellsP at h
 split at h
 ·rename_i i hi
  split at h
  ·rename_i z hz
   split at h
   ·rename_i h1
    cases h
    refine ⟨z, by simp [zeroValue, typeInfo, hi, hz], ?_, allOne_iff.1 h1, i, hi, hz⟩
    generalize z.cells.toList = vs
    induction vs with
    | nil => simp [ofConsts, PReps]
    | cons v vs ih => simp only [ofConsts, PReps]; exact ⟨ofConst_rep v, ih⟩
   ·cases h
  ·cases h
 ·cases h
theorem run_fieldAt {s : TypeId} {f o : Nat} (h : fieldOff G s f = some o) (a : Addr) : (Instr.fieldAt s (.pointer (some a)) f).run G.P w = .ok (.pointer (some (a.add o))) w := by
 unfold fieldOff at h
 split at h
 ·rename_i fields hu
  split at h
  ·rename_i fd hfd
   split at h
   ·rename_i n hn
    cases h
    have hfd' : fields[f]? = some fd := by simpa using hfd
    simp [Instr.fieldAt, run_underlying hu, hfd', Instr.sureAddr, fieldPlace, run_sizeOf hn]
   ·cases h
  ·cases h
 ·cases h
theorem fieldAddrV_sound {s : TypeId} {f : Nat} {p : PV G.E.T} {K : PV G.E.T → Option R} (h : fieldAddrV G s p f K = some r) {x : Value} (hx : PRep G.E w Fz ι H p x) :
  ∃ q v, K q = some r ∧ (Instr.fieldAt s x f).run G.P w = .ok v w ∧ PRep G.E w Fz ι H q v := by
 unfold fieldAddrV at h
 split at h
 ·cases h
 rename_i o ho
 split at h
 ·simp only [PRep] at hx
  obtain ⟨b, hb, hi, B, q, hl, rfl⟩ := hx
  refine ⟨_, _, h, run_fieldAt ho _, ?_⟩
  simp only [PRep]
  exact ⟨b, hb, hi, B, q, hl, by rw [Addr.add_lit, Nat.add_assoc]⟩
 ·simp only [PRep] at hx
  obtain ⟨b, hb, hptr, hi⟩ := hx
  obtain ⟨a, rfl⟩ := hptr
  rename_i id ep i fld
  refine ⟨_, _, h, run_fieldAt ho a, ?_⟩
  simp only [PRep]
  refine ⟨b, hb, ⟨_, rfl⟩, fun ep' len sz hinf => ?_⟩
  obtain ⟨hle, hi⟩ := hi ep' len sz hinf
  refine ⟨hle, fun e => ?_⟩
  obtain ⟨i0, i1, B, q, hl, hq⟩ := hi e
  cases hq
  exact ⟨i0, i1, B, q, hl, by rw [Addr.add_lit, Nat.add_assoc]⟩
 ·simp only [PRep] at hx
  obtain ⟨B, q, rfl, hf, hc⟩ := hx
  split at h
  ·rename_i l hd
   obtain ⟨h1, rfl⟩ := dropL_eq _ _ _ hd
   refine ⟨_, _, h, run_fieldAt ho _, ?_⟩
   simp only [PRep]
   refine ⟨B, q + o, by rw [Addr.add_lit], fun hne => hf (fun e => by subst e; simp at hne), fun c p hp => ?_⟩
   rw [List.getElem?_drop] at hp
   rw [Nat.add_assoc]
   exact hc _ p hp
  ·cases h
 ·cases h
theorem run_indexAt {t e : TypeId} (ht : G.P.underlying t = some (.slice e)) {sz : Nat} (hs : typeSize G e = some sz) (a : Addr) (len cap : Nat) (k : IntKind) (i : Int) (h0 : 0 ≤ i) (h1 : i < len) :
  (Instr.indexAt t (.slice (some a) len cap) (.int k i)).run G.P w = .ok (.pointer (some (a.add (i.toNat * sz)))) w := by
 simp [Instr.indexAt, run_underlying ht, asIntOf, h0, h1, run_sizeOf hs]
theorem elemOk_int (ok : PrgOk G) {t e : TypeId} (ht : elemT G t = some e) {k : IntKind} (he : G.el e = some (.int k)) : G.P.underlying t = some (.slice e) ∧ typeSize G e = some 1 := by
 unfold elemT at ht
 split at ht
 ·rename_i e' hu
  cases ht
  obtain ⟨_, i, hi, hs, _⟩ := ok.int e k he
  exact ⟨hu, by simp [typeSize, hi, hs]⟩
 ·cases ht
theorem elemOk_row (ok : PrgOk G) {t e : TypeId} (ht : elemT G t = some e) {n : Nat} (he : G.el e = some (.row n)) : G.P.underlying t = some (.slice e) ∧ typeSize G e = some (G.E.sz n) := by
 unfold elemT at ht
 split at ht
 ·rename_i e' hu
  cases ht
  obtain ⟨i, z, hi, hs, _⟩ := ok.row e n he
  exact ⟨hu, by simp [typeSize, hi, hs]⟩
 ·cases ht
theorem eptr_of_arr {E : Env} {ι : Nat → Loc} {id ep : Nat} {b : Blk E.T} {v : Value} (h : ArrAt E ι id ep b v) {len sz : Nat} (hb : b.info E = some (ep, len, sz)) (hr : RowAt w (ι id) len sz) {i : Int} (h0 : 0 ≤ i) (h1 : i < (len : Int)) :
  ∃ A : Addr, v = .slice (some A) len (ι id).cap ∧ EptrAt E ι id ep i 0 b (.pointer (some (A.add (i.toNat * sz)))) := by
 have hv := (h.2 ep len sz hb).2 rfl
 obtain ⟨B, o, hl⟩ := hr.addr (by omega)
 rw [hl] at hv
 refine ⟨_, hv, ⟨_, rfl⟩, fun ep' len' sz' hb' => ?_⟩
 rw [hb] at hb'
 simp only [Option.some.injEq, Prod.mk.injEq] at hb'
 obtain ⟨rfl, rfl, rfl⟩ := hb'
 exact ⟨Nat.le_refl _, fun _ => ⟨h0, by omega, B, o, hl, by rw [Addr.add_lit]; rfl⟩⟩
theorem eptr_of_sub {E : Env} {ι : Nat → Loc} {id ep off len : Nat} {b : Blk E.T} {v : Value} (h : SubAt E ι id ep off len b v) {len' sz : Nat} (hb : b.info E = some (ep, len', sz)) {i : Int} (h0 : 0 ≤ i) (h1 : i < (len : Int)) :
  ∃ (A : Addr) (c : Nat), v = .slice (some A) len c ∧ EptrAt E ι id ep ((off : Int) + i) 0 b (.pointer (some (A.add (i.toNat * sz)))) := by
 obtain ⟨hle, a, cap, hv, h0', ha⟩ := (h.2 ep len' sz hb).2 rfl
 obtain ⟨B, o, hl, rfl⟩ := ha (by omega)
 refine ⟨_, cap, hv, ⟨_, rfl⟩, fun ep' len'' sz' hb' => ?_⟩
 rw [hb] at hb'
 simp only [Option.some.injEq, Prod.mk.injEq] at hb'
 obtain ⟨rfl, rfl, rfl⟩ := hb'
 refine ⟨Nat.le_refl _, fun _ => ⟨by omega, by omega, B, o, hl, ?_⟩⟩
 rw [Addr.add_lit, show ((off : Int) + i).toNat = off + i.toNat by omega, Nat.add_mul]
 simp only [Nat.add_zero, Value.pointer.injEq, Option.some.injEq, Addr.mk.injEq, and_true, true_and]
 omega
theorem splitIx_some {i : Int} : ∀ {n : Nat} {K : Nat → Option R}, splitIx i n K = some r → 0 ≤ i ∧ i < (n : Int) → K i.toNat = some r
 | 0, K, h, hi => by omega
 | n + 1, K, h, hi => by
  simp only [splitIx] at h
  split at h
  ·rename_i e; subst e; simpa using h
  ·exact splitIx_some h ⟨hi.1, by omega⟩
theorem atIx_some {i : Int} {n : Nat} {K : Nat → Option R} (h : atIx i n K = some r) (hi : 0 ≤ i ∧ i < (n : Int)) : K i.toNat = some r := by
 unfold atIx at h
 split at h
 ·exact splitIx_some h hi
 ·exact h
theorem indexAddrV_sound (ok : PrgOk G) {t : TypeId} {p q : PV G.E.T} {K : PV G.E.T → Option R} (h : indexAddrV G H t p q K = some r) (hH : HRep G.E w Fz ι H) {x y : Value} (hx : PRep G.E w Fz ι H p x) (hy : PRep G.E w Fz ι H q y) :
  ∃ s v, K s = some r ∧ (Instr.indexAt t x y).run G.P w = .ok v w ∧ PRep G.E w Fz ι H s v := by
 unfold indexAddrV at h
 split at h
 case h_2 => cases h
 rename_i kk i
 simp only [PRep] at hy
 cases hy with | int hk =>
 split at h
 ·rename_i e he
  split at h
  ·rename_i kk' hel
   obtain ⟨hu, hs⟩ := elemOk_int ok he hel
   split at h
   ·rename_i k xs
    split at h
    ·rename_i hi
     simp only [PRep] at hx
     cases hx with
     | ints g1 g2 g0 g3 =>
      rename_i a cap
      have hne : xs ≠ [] := fun e => by subst e; simp at hi; omega
      obtain ⟨B, o, rfl, hf, hc⟩ := g3 hne
      have hm := rd_mem hi.1 (show i.toNat < xs.length by omega)
      refine ⟨_, _, h, run_indexAt hu hs _ _ _ _ _ hi.1 hi.2, ?_⟩
      simp only [PRep, Nat.mul_one]
      refine ⟨B, o + i.toNat, by rw [Addr.add_lit], fun _ => hf, fun c pv hpv => ?_⟩
      cases c with
      | zero =>
       simp at hpv; subst hpv
       exact ⟨_, hc _ _ hm, .int (g1 _ (List.mem_of_getElem? hm))⟩
      | succ c => simp at hpv
    ·cases h
   ·rename_i id ep
    simp only [PRep] at hx
    obtain ⟨b, hb, hx⟩ := hx
    split at h
    ·rename_i m k ep' xs hb'
     rw [hb] at hb'; cases hb'
     split at h
     ·rename_i he
      have he := nat_beq he; subst he
      split at h
      ·rename_i hi
       have hr := hH.rep id _ hb
       simp only [BRep] at hr
       obtain ⟨A, rfl, hA⟩ := eptr_of_arr hx rfl hr.1 hi.1 hi.2
       exact ⟨_, _, h, run_indexAt hu hs _ _ _ _ _ hi.1 hi.2, by simp only [PRep]; exact ⟨_, hb, hA⟩⟩
      ·cases h
     ·cases h
    ·cases h
   ·rename_i id ep off len
    simp only [PRep] at hx
    obtain ⟨b, hb, hx⟩ := hx
    split at h
    ·rename_i m k ep' xs hb'
     rw [hb] at hb'; cases hb'
     split at h
     ·rename_i he
      have he := nat_beq he; subst he
      split at h
      ·rename_i hi
       obtain ⟨A, c, rfl, hA⟩ := eptr_of_sub hx rfl hi.1 hi.2
       exact ⟨_, _, h, run_indexAt hu hs _ _ _ _ _ hi.1 hi.2, by simp only [PRep]; exact ⟨_, hb, hA⟩⟩
      ·cases h
     ·cases h
    ·cases h
   ·cases h
  ·rename_i n hel
   obtain ⟨hu, hs⟩ := elemOk_row ok he hel
   split at h
   ·rename_i j xs
    split at h
    ·rename_i hj
     have hj := nat_beq hj; subst hj
     split at h
     ·rename_i hi
      obtain ⟨z, hz, h⟩ := Option.bind_eq_some_iff.1 h
      have hlt : i.toNat < xs.length := (List.getElem?_eq_some_iff.1 hz).1
      simp only [PRep] at hx
      cases hx with
      | rows cv g2 g0 g3 g4 =>
       rename_i a cap
       have hne : xs ≠ [] := fun e => by subst e; simp at hlt
       obtain ⟨B, o, rfl, hf, hc⟩ := g3 hne
       refine ⟨_, _, h, run_indexAt hu hs _ _ _ _ _ hi (by omega), ?_⟩
       simp only [PRep]
       exact ⟨B, o + i.toNat * G.E.sz j, by rw [Addr.add_lit], fun _ => hf, fun c pv hpv => ⟨_, hc _ _ _ _ hz hpv, g4 _ _ _ _ hz hpv⟩⟩
     ·cases h
    ·cases h
   ·rename_i id ep
    simp only [PRep] at hx
    obtain ⟨b, hb, hx⟩ := hx
    split at h
    ·rename_i m j ep' xs hb'
     rw [hb] at hb'; cases hb'
     split at h
     ·rename_i he hj
      have he := nat_beq he; subst he
      have hj := nat_beq hj; subst hj
      split at h
      ·rename_i hi
       have hr := hH.rep id _ hb
       simp only [BRep] at hr
       obtain ⟨A, rfl, hA⟩ := eptr_of_arr hx rfl hr.1 hi.1 hi.2
       exact ⟨_, _, h, run_indexAt hu hs _ _ _ _ _ hi.1 hi.2, by simp only [PRep]; exact ⟨_, hb, hA⟩⟩
      ·cases h
     ·cases h
    ·cases h
   ·rename_i id ep off len
    simp only [PRep] at hx
    obtain ⟨b, hb, hx⟩ := hx
    split at h
    ·rename_i m j ep' xs hb'
     rw [hb] at hb'; cases hb'
     split at h
     ·rename_i he hj
      have he := nat_beq he; subst he
      have hj := nat_beq hj; subst hj
      split at h
      ·rename_i hi
       obtain ⟨A, c, rfl, hA⟩ := eptr_of_sub hx rfl hi.1 hi.2
       exact ⟨_, _, h, run_indexAt hu hs _ _ _ _ _ hi.1 hi.2, by simp only [PRep]; exact ⟨_, hb, hA⟩⟩
      ·cases h
     ·cases h
    ·cases h
   ·cases h
  ·cases h
 ·split at h
  ·rename_i id ep j fld
   simp only [PRep] at hx
   obtain ⟨b, hb, hx⟩ := hx
   split at h
   ·rename_i m k ep' xs n e hb' hu
    rw [hb] at hb'; cases hb'
    split at h
    ·rename_i he hj hs
     have he := nat_beq he; subst he
     have hj := of_decide_eq_true hj; subst hj
     split at h
     ·rename_i hi
      obtain ⟨_, g⟩ := hx
      obtain ⟨_, _, B, o, hl, rfl⟩ := (g ep xs.length 1 rfl).2 rfl
      refine ⟨_, .pointer (some ⟨B, o + i.toNat * 1 + 0, none⟩), h, ?_, ?_⟩
      ·simp [Instr.indexAt, run_underlying hu, asIntOf, Instr.sureAddr, hi.1, hi.2.1, run_sizeOf hs]
       rw [Addr.add_lit]
      ·simp only [PRep]
       refine ⟨_, hb, ⟨_, rfl⟩, fun ep2 len2 sz2 h2 => ?_⟩
       simp only [Blk.info, Option.some.injEq, Prod.mk.injEq] at h2
       obtain ⟨rfl, rfl, rfl⟩ := h2
       exact ⟨Nat.le_refl _, fun _ => ⟨hi.1, by omega, B, o, hl, rfl⟩⟩
     ·cases h
    ·cases h
   ·rename_i m k ep' xs n e hb' hu
    rw [hb] at hb'; cases hb'
    split at h
    ·rename_i sz he hs
     have he := nat_beq he; subst he
     split at h
     ·rename_i hi
      obtain ⟨_, g⟩ := hx
      obtain ⟨j0, j1, B, o, hl, rfl⟩ := (g ep xs.length (G.E.sz k) rfl).2 rfl
      refine ⟨_, .pointer (some ⟨B, o + j.toNat * G.E.sz k + fld + i.toNat * sz, none⟩), h, ?_, ?_⟩
      ·simp [Instr.indexAt, run_underlying hu, asIntOf, Instr.sureAddr, hi.1, hi.2, run_sizeOf hs]
       rw [Addr.add_lit]
      ·simp only [PRep]
       refine ⟨_, hb, ⟨_, rfl⟩, fun ep2 len2 sz2 h2 => ?_⟩
       simp only [Blk.info, Option.some.injEq, Prod.mk.injEq] at h2
       obtain ⟨rfl, rfl, rfl⟩ := h2
       exact ⟨Nat.le_refl _, fun _ => ⟨j0, j1, B, o, hl, by rw [Nat.add_assoc]⟩⟩
     ·cases h
    ·cases h
   ·cases h
  ·rename_i l
   split at h
   ·rename_i n e hu
    split at h
    ·rename_i sz hs
     split at h
     ·rename_i hi
      simp only [PRep] at hx
      obtain ⟨B, o, rfl, hf, hc⟩ := hx
      have h := atIx_some h hi
      split at h
      ·rename_i l' hd
       obtain ⟨h1, rfl⟩ := dropL_eq _ _ _ hd
       refine ⟨_, .pointer (some ⟨B, o + i.toNat * sz, none⟩), h, ?_, ?_⟩
       ·simp [Instr.indexAt, run_underlying hu, asIntOf, Instr.sureAddr, hi.1, hi.2, run_sizeOf hs]
        rw [Addr.add_lit]
       ·simp only [PRep]
        refine ⟨B, o + i.toNat * sz, rfl, fun hne => hf (fun e => by subst e; simp at hne), fun c p hp => ?_⟩
        rw [List.getElem?_drop] at hp
        rw [Nat.add_assoc]
        exact hc _ p hp
      ·cases h
     ·cases h
    ·cases h
   ·cases h
  ·rename_i id off
   split at h
   ·rename_i n e hu
    split at h
    ·rename_i sz hs
     split at h
     ·rename_i hi
      simp only [PRep] at hx
      obtain ⟨b, hb, hinf, B, o, hl, rfl⟩ := hx
      have hrun : (Instr.indexAt t (.pointer (some ⟨B, o + off, none⟩)) (.int kk i)).run G.P w = .ok (.pointer (some ⟨B, o + off + i.toNat * sz, none⟩)) w := by
       simp [Instr.indexAt, run_underlying hu, asIntOf, Instr.sureAddr, hi.1, hi.2, run_sizeOf hs]
       rw [Addr.add_lit]
      split at h
      ·refine ⟨_, _, h, hrun, ?_⟩
       simp only [PRep]
       exact ⟨⟨hi.1, by omega⟩, b, hb, hinf, B, o, hl, by rw [Nat.mul_one, Nat.add_assoc]⟩
      ·have h := atIx_some h hi
       refine ⟨_, _, h, hrun, ?_⟩
       simp only [PRep]
       exact ⟨b, hb, hinf, B, o, hl, by rw [Nat.add_assoc]⟩
     ·cases h
    ·cases h
   ·cases h
  ·cases h
theorem lenV_sound {t ty : TypeId} {p : PV G.E.T} {K : PV G.E.T → Option R} (h : lenV G H t p K = some r) (hH : HRep G.E w Fz ι H) {x : Value} (hx : PRep G.E w Fz ι H p x) (ts : List TypeId) :
  ∃ s v, K s = some r ∧ (Builtin.len_ (t :: ts).toArray ty #[x]).run G.P w = .ok v w ∧ PRep G.E w Fz ι H s v := by
 have hint : ∀ n : Nat, n ≤ maxLen → PRep G.E w Fz ι H (.int .i64 n) (goInt n) := fun n hn => by
  simp only [PRep]
  exact .int (by rw [has_iff]; simp only [maxLen] at hn ⊢; omega)
 unfold lenV at h
 split at h
 ·rename_i n e hu
  split at h
  ·rename_i hn
   have hn := Nat.le_of_ble_eq_true hn
   exact ⟨_, goInt n, h, by simp [Builtin.len_, run_underlying hu], hint n (by simp only [maxLen]; omega)⟩
  ·cases h
 ·rename_i hu
  split at h
  ·rename_i s
   simp only [PRep] at hx
   cases hx with | str e1 l1 =>
   rename_i bs
   subst e1
   exact ⟨_, goInt bs.size, by rw [← bytesOfStr_len]; exact h, by simp [Builtin.len_, run_underlying hu], hint _ (by rw [← bytesOfStr_len]; exact l1)⟩
  ·cases h
 ·rename_i e hu
  have hrun : ∀ (a : Option Addr) (n c : Nat), (Builtin.len_ (t :: ts).toArray ty #[.slice a n c]).run G.P w = .ok (goInt n) w := fun a n c => by simp [Builtin.len_, run_underlying hu]
  split at h
  ·simp only [PRep] at hx
   cases hx with | ints g1 g2 g0 g3 => exact ⟨_, _, h, hrun _ _ _, hint _ g2⟩
  ·simp only [PRep] at hx
   cases hx with | rows cv g2 g0 g3 g4 => exact ⟨_, _, h, hrun _ _ _, hint _ g2⟩
  ·simp only [PRep] at hx
   subst hx
   exact ⟨_, _, h, hrun _ _ _, hint 0 (by simp [maxLen])⟩
  ·rename_i id ep off len
   simp only [PRep] at hx
   obtain ⟨b, hb, hx⟩ := hx
   split at h
   ·rename_i m k ep' xs hb'
    rw [hb] at hb'; cases hb'
    split at h
    ·rename_i he
     obtain ⟨g1, a, cap, rfl, _⟩ := (hx.2 _ _ _ rfl).2 (nat_beq he)
     have hr := hH.rep id _ hb
     simp only [BRep] at hr
     exact ⟨_, _, h, hrun _ _ _, hint _ (by have := hr.1.2.1; omega)⟩
    ·cases h
   ·rename_i m k ep' xs hb'
    rw [hb] at hb'; cases hb'
    split at h
    ·rename_i he
     obtain ⟨g1, a, cap, rfl, _⟩ := (hx.2 _ _ _ rfl).2 (nat_beq he)
     have hr := hH.rep id _ hb
     simp only [BRep] at hr
     exact ⟨_, _, h, hrun _ _ _, hint _ (by have := hr.1.2.1; omega)⟩
    ·cases h
   ·cases h
  ·rename_i id ep
   simp only [PRep] at hx
   obtain ⟨b, hb, hx⟩ := hx
   split at h
   ·rename_i m k ep' xs hb'
    rw [hb] at hb'; cases hb'
    split at h
    ·rename_i he
     have hv := (hx.2 _ _ _ rfl).2 (nat_beq he)
     subst hv
     have hr := hH.rep id _ hb
     simp only [BRep] at hr
     exact ⟨_, _, h, hrun _ _ _, hint _ hr.1.2.1⟩
    ·cases h
   ·rename_i m k ep' xs hb'
    rw [hb] at hb'; cases hb'
    split at h
    ·rename_i he
     have hv := (hx.2 _ _ _ rfl).2 (nat_beq he)
     subst hv
     have hr := hH.rep id _ hb
     simp only [BRep] at hr
     exact ⟨_, _, h, hrun _ _ _, hint _ hr.1.2.1⟩
    ·cases h
   ·cases h
  ·cases h
 ·cases h
end
end Go.Proofs.YtgffdmgidnnedaaGreat.V
