/- Conversions, parts of rows and strings, indexes. -/
import Derived.Test.YtgffdmgidnnedaaGreatBld2
namespace Go.Proofs.YtgffdmgidnnedaaGreat.V
open Go
set_option linter.unusedVariables false
set_option linter.unusedSimpArgs false
section
variable {G : Prg} {w w' : World} {Fz : Nat → Prop} {ι : Nat → Loc} {H : List (Blk G.E.T)} {R : Type} {r : R} {X : Ctx}
theorem bytesOfStr_strOfNums {xs : List Int} (h : ∀ x ∈ xs, IntKind.u8.has x) : bytesOfStr (strOfNums xs) = xs := by
 unfold bytesOfStr
 rw [strOfNums_data, List.map_map]
 conv => rhs; rw [← List.map_id xs]
 apply List.map_congr_left
 intro x hx
 have := h x hx
 rw [has_iff] at this
 simp only at this
 simp only [Function.comp_apply, id_eq, UInt8.toNat_ofNat']
 omega
theorem run_convert_str {src dst e : TypeId} (hs : G.P.underlying src = some (.slice e)) (he : G.P.underlying e = some (.int .u8)) (hd : G.P.underlying dst = some .string) {xs : List Int} {x : Value} (h : FRep G.E w anyB (.ints .u8 xs) x) :
  ∃ v, (convert src dst x).run G.P w = .ok v w ∧ FRep G.E w Fz (.str xs) v := by
 cases h with
 | ints h1 h2 h0 h3 =>
  rename_i a cap
  by_cases hne : xs = []
  ·subst hne
   cases a with
   | none => exact ⟨_, run_convert_bytes_nil (P := G.P) w src e hs he _ _ dst hd, .str rfl (by simp)⟩
   | some A =>
    have hl : (loadCells A 0).run G.P w = .ok #[] w := by simp [loadCells, loadCellsFrom]
    refine ⟨.string ByteArray.empty, ?_, .str rfl (by simp)⟩
    rw [run_convert_bytes_string w src dst e _ _ _ hs he hd]
    have := run_bytesToString (P := G.P) w A 0 cap [] (by simpa using hl)
    simpa using this
  ·obtain ⟨B, o, rfl, _, hc⟩ := h3 hne
   refine ⟨_, run_convert_bytes_arg (P := G.P) w src e hs he B o xs.length cap xs rfl (fun i hi => ?_) dst hd, .str (bytesOfStr_strOfNums h1) h2⟩
   rw [hc i _ (List.getElem?_eq_getElem hi)]
   simp [List.getD, List.getElem?_eq_getElem hi]
theorem encode_small {n : Int} (h0 : 0 ≤ n) (h1 : n < 128) : bytesOfStr (Utf8.encode n) = [n] := by
 have hv : Utf8.valid n = true := by simp [Utf8.valid]; omega
 have hc : n.toNat < 128 := by omega
 unfold Utf8.encode
 simp only [hv, if_true, hc]
 simp [bytesOfStr, ByteArray.push, ByteArray.empty, Nat.toUInt8]
 omega
theorem convertV_sound (ok : PrgOk G) {src dst : TypeId} {p : PV G.E.T} {K : PV G.E.T → List (Blk G.E.T) → Option R} (h : convertV G H src dst p K = some r) (hH : HRep G.E w Fz ι H) (hF : Fram G.E X w Fz ι H) {x : Value} (hx : PRep G.E w Fz ι H p x) :
  ∃ q H' v w' Fz' ι', K q H' = some r ∧ (convert src dst x).run G.P w = .ok v w' ∧ Step G.E X w w' Fz Fz' ι ι' H H' ∧ PRep G.E w' Fz' ι' H' q v := by
 unfold convertV at h
 split at h
 ·rename_i d0 k hs hd
  split at h
  ·rename_i k' n
   simp only [PRep] at hx
   cases hx with | int hn =>
   refine ⟨_, _, .int k (k.wrap n), w, Fz, ι, h, by simp [convert, run_underlying hs, run_underlying hd, Conv.intToInt], .refl hH hF, ?_⟩
   simp only [PRep]; exact .int (wrap_has _ _)
  ·cases h
 ·rename_i hs hd
  split at h
  ·simp only [PRep] at hx
   cases hx with | str e1 l1 =>
   rename_i bs
   refine ⟨_, _, .string bs, w, Fz, ι, h, by simp [convert, run_underlying hs, run_underlying hd], .refl hH hF, ?_⟩
   simp only [PRep]; exact .str e1 l1
  ·cases h
 ·rename_i e hs hd
  split at h
  ·rename_i hel
   split at h
   ·rename_i xs l hxs
    obtain ⟨he, _⟩ := ok.int e .u8 hel
    obtain ⟨v, hrun, hv⟩ := run_convert_str (G := G) (Fz := Fz) hs he hd (intsOf_read hH hxs hx)
    exact ⟨_, _, v, w, Fz, ι, h, hrun, .refl hH hF, hv.toP⟩
   ·cases h
  ·cases h
 ·rename_i k0 hs hd
  split at h
  ·rename_i k' n
   split at h
   ·rename_i hn
    simp only [PRep] at hx
    cases hx
    refine ⟨_, _, .string (Utf8.encode n), w, Fz, ι, h, by simp [convert, run_underlying hs, run_underlying hd, Conv.intToString], .refl hH hF, ?_⟩
    simp only [PRep]
    refine .str (encode_small hn.1 hn.2) (by simp [maxLen])
   ·cases h
  ·cases h
 ·rename_i e hs hd
  split at h
  ·rename_i s hel
   obtain ⟨he, _⟩ := ok.int e .u8 hel
   simp only [PRep] at hx
   cases hx with | str e1 l1 =>
   rename_i bs
   subst e1
   have hrun := run_bytes_of_string (P := G.P) w src dst e bs hs hd he
   have hge := grownCap_ge w bs.size 0 e
   have hsz : (bytesRow bs (grownCap w bs.size 0 e)).size = grownCap w bs.size 0 e * 1 := by
    simp only [bytesRow, Array.size_append, Array.size_map, Array.size_replicate]
    have : bs.data.size = bs.size := rfl
    omega
   generalize hcap : grownCap w bs.size 0 e = cap at *
   have hlen := bytesOfStr_len bs
   have e0 : w.drew.heap.size = w.heap.size := rfl
   have hrb : RowBecomes w (w.drew.alloc (.cells (bytesRow bs cap) e ((bytesRow bs cap).size, (bytesRow bs cap).size + 1))) ⟨none, 0⟩ ⟨some ⟨w.heap.size, 0, none⟩, cap⟩ 1 (bytesOfStr bs).length ((bytesOfStr bs).map fun y => Value.int .u8 y) := by
    have hheap : (w.drew.alloc (.cells (bytesRow bs cap) e ((bytesRow bs cap).size, (bytesRow bs cap).size + 1))).heap[w.heap.size]? = some (.cells (bytesRow bs cap) e ((bytesRow bs cap).size, (bytesRow bs cap).size + 1)) := heap_alloc_new w.drew _
    have hcell : ∀ q, (w.drew.alloc (.cells (bytesRow bs cap) e ((bytesRow bs cap).size, (bytesRow bs cap).size + 1))).cell? ⟨w.heap.size, q, none⟩ = (bytesRow bs cap)[q]? := fun q => by
     simp only [World.cell?, hheap]; simp
    refine ⟨⟨by rw [hlen]; exact hge, l1, .inr ⟨w.heap.size, 0, rfl, by simp, fun c hc => ?_⟩⟩, fun B o ha q v hv => ?_, rfl, rfl, rfl, by simp, fun B hB _ => heap_alloc_old w.drew _ B hB, fun A' hA' => .inr ?_⟩
    ·rw [Nat.zero_add, hcell]
     refine ⟨⟨_, Array.getElem?_eq_getElem (by rw [hsz]; exact hc)⟩, ?_⟩
     simp only [World.frozen?, hheap]
     have : c < (bytesRow bs cap).size := by rw [hsz]; exact hc
     simp; omega
    ·simp only [Option.some.injEq, Addr.mk.injEq] at ha
     obtain ⟨rfl, rfl, _⟩ := ha
     rw [Nat.zero_add, hcell]
     rw [bytesOfStr, List.map_map, List.getElem?_map] at hv
     obtain ⟨b, hb, rfl⟩ := Option.map_eq_some_iff.1 hv
     have hlt : q < bs.data.size := by
      have := (List.getElem?_eq_some_iff.1 hb).1
      simpa using this
     rw [bytesRow, Array.getElem?_append_left (by simpa using hlt), Array.getElem?_map]
     have : bs.data[q]? = some b := by simpa using hb
     rw [this]; rfl
    ·simp only [Option.some.injEq] at hA'
     subst hA'; exact Nat.le_refl _
   refine ⟨_, _, _, _, Fz, _, h, hrun, Step.rowNew hH hF rfl hrb (fun KK => hrb.ints (fun y hy => ?_) updι_same), ?_⟩
   ·simp only [bytesOfStr, List.mem_map] at hy
    obtain ⟨b, _, rfl⟩ := hy
    rw [has_iff]
    have := b.toNat_lt
    simp only; omega
   ·have := arr_new (G := G) (w' := w.drew.alloc (.cells (bytesRow bs cap) e ((bytesRow bs cap).size, (bytesRow bs cap).size + 1))) (Fz := Fz) (ι := ι) (H := H) (b := .ints .own .u8 0 (bytesOfStr bs)) (l := ⟨some ⟨w.heap.size, 0, none⟩, cap⟩) rfl
    rwa [hlen] at this
  ·cases h
 ·rename_i e e2 hs hd
  split at h
  ·rename_i id ep hsd hel
   have hsd' := nat_beq hsd
   subst hsd'
   obtain ⟨he, _⟩ := ok.int e .u8 hel
   split at h
   ·rename_i ep' xs hg
    split at h
    ·rename_i hep
     split at h
     ·rename_i hpos
      have hep' := nat_beq hep
      simp only [PRep] at hx
      obtain ⟨b0, hb0, harr⟩ := hx
      rw [hg] at hb0; cases hb0
      have hrep := hH.rep id _ hg
      simp only [BRep] at hrep
      obtain ⟨hr, hk, hc⟩ := hrep
      obtain ⟨B, o, ha⟩ := hr.addr hpos
      have hv := (harr.2 ep' xs.length 1 rfl).2 hep'
      subst hv
      rw [ha]
      have hc0 := hc B o ha 0 _ (List.getElem?_eq_getElem hpos)
      obtain ⟨C, el, fr, hB⟩ : ∃ C el fr, w.heap[B]? = some (.cells C el fr) := by
       unfold World.cell? at hc0
       split at hc0
       ·rename_i C el fr e1; exact ⟨C, el, fr, e1⟩
       ·cases hc0
      have hsh : w.shape? B = some (el, C.size) := by unfold World.shape?; rw [hB]
      have hcell : ∀ q, (w.freeze ⟨B, C.size, none⟩ 1).cell? q = w.cell? q := fun q => by
       unfold World.freeze World.cell?
       rw [if_neg (by decide)]
       simp only [Array.getElem?_modify]
       by_cases hq : B = q.block
       ·subst hq
        obtain ⟨fl, fh⟩ := fr
        simp [hB]
       ·simp [hq]
      refine ⟨_, _, .slice (some ⟨B, o, none⟩) xs.length (ι id).cap, w.freeze ⟨B, C.size, none⟩ 1, _, ι, h, ?_, Step.goneW hH hF hg rfl rfl (by simp [World.freeze]) (by simp [World.freeze]) (by simp [World.freeze]) (by simp [World.freeze]) fun B' hB' => ?_, ?_⟩
      ·simp [convert, run_underlying hs, run_underlying he, markStringish, hsh]
      ·have hne := hB' _ ha
       simp only at hne
       simp [World.freeze, Array.getElem?_modify, Ne.symm hne]
      ·simp only [PRep]
       rw [← ha]
       have := FRep.ints (E := G.E) (w := w.freeze ⟨B, C.size, none⟩ 1) (Fz := andBlock Fz (ι id)) (k := .u8) (xs := xs) (a := (ι id).a) (cap := (ι id).cap) hk hr.2.1 hr.1 fun _ => ⟨B, o, ha, .inr ⟨_, ha, rfl⟩, fun j y hj => by rw [hcell]; exact hc B o ha j y hj⟩
       exact this
     ·cases h
    ·cases h
   ·cases h
  ·cases h
 ·cases h
/-! ### Parts -/
def OptRep (E : Env) (w : World) (Fz : Nat → Prop) (ι : Nat → Loc) (H : List (Blk E.T)) : Option (PV E.T) → Option Value → Prop
 | none, none => True
 | some p, some v => PRep E w Fz ι H p v
 | _, _ => False
theorem boundsV_sound {n : Nat} {lo hi : Option (PV G.E.T)} {K : Nat → Nat → Option R} (h : boundsV G n lo hi K = some r) {vl vh : Option Value} (hl : OptRep G.E w Fz ι H lo vl) (hh : OptRep G.E w Fz ι H hi vh) :
  ∃ l u, K l u = some r ∧ l ≤ u ∧ u ≤ n ∧ ∀ (b : Bool) (cap : Nat), n ≤ cap → (Instr.sliceBounds b n cap vl vh none).run G.P w = .ok (l, u, cap) w := by
 unfold boundsV at h
 cases hi with
 | none =>
  cases vh with
  | some v => exact hh.elim
  | none =>
   cases lo with
   | none =>
    cases vl with
    | some v => exact hl.elim
    | none => exact ⟨0, n, h, Nat.zero_le _, Nat.le_refl _, fun b cap hc => by simp [Instr.sliceBounds]⟩
   | some p =>
    cases vl with
    | none => exact hl.elim
    | some v =>
     simp only at h
     split at h
     ·rename_i heq; cases heq
     ·rename_i k l heq
      cases heq
      split at h
      ·rename_i hc
       simp only [OptRep, PRep] at hl
       cases hl with | int _ =>
       refine ⟨_, _, h, by omega, Nat.le_refl _, fun b cap hcap => ?_⟩
       simp [Instr.sliceBounds, run_sliceBound, hc.1, hc.2]
      ·cases h
     ·cases h
 | some q =>
  cases vh with
  | none => exact hh.elim
  | some v =>
   simp only at h
   split at h
   ·rename_i heq; cases heq
   ·rename_i kh u heq
    cases heq
    simp only [OptRep, PRep] at hh
    cases hh with | int _ =>
    cases lo with
    | none =>
     cases vl with
     | some v => exact hl.elim
     | none =>
      simp only at h
      split at h
      ·rename_i hc
       refine ⟨_, _, h, Nat.zero_le _, by omega, fun b cap hcap => ?_⟩
       have : u ≤ (cap : Int) := by omega
       simp [Instr.sliceBounds, run_sliceBound, hc.1, this]
      ·cases h
    | some p =>
     cases vl with
     | none => exact hl.elim
     | some v =>
      split at h
      ·rename_i heq; cases heq
      ·rename_i k l heq
       cases heq
       split at h
       ·rename_i hc
        split at h
        ·rename_i hc2
         simp only [OptRep, PRep] at hl
         cases hl with | int _ =>
         refine ⟨_, _, h, by omega, by omega, fun b cap hcap => ?_⟩
         have h1 : u ≤ (cap : Int) := by omega
         have h2 : l ≤ ((u.toNat : Nat) : Int) := by omega
         simp only [Instr.sliceBounds, Sem.run_bind, Sem.run_pure, Result.andThen_ok, run_sliceBound w kh u cap _ hc.1 h1]
         simp [run_sliceBound w k l u.toNat _ hc2.1 h2]
        ·cases h
       ·cases h
      ·cases h
   ·cases h
theorem run_sliceAt {t e : TypeId} {sz : Nat} (ht : G.P.underlying t = some (.slice e)) (hs : typeSize G e = some sz) {a : Option Addr} {len cap l u : Nat} {vl vh : Option Value}
  (hb : (Instr.sliceBounds true len cap vl vh none).run G.P w = .ok (l, u, cap) w) :
  (Instr.sliceAt t (.slice a len cap) vl vh none).run G.P w = .ok (.slice (if cap = l then a else a.map (·.add (l * sz))) (u - l) (cap - l)) w := by
 simp [Instr.sliceAt, Instr.slice, run_underlying ht, hb, run_sizeOf hs]
theorem run_sliceAt_str {t : TypeId} (ht : G.P.underlying t = some .string) {s : ByteArray} {l u : Nat} {vl vh : Option Value} (hb : (Instr.sliceBounds false s.size s.size vl vh none).run G.P w = .ok (l, u, s.size) w) :
  (Instr.sliceAt t (.string s) vl vh none).run G.P w = .ok (.string (s.extract l u)) w := by
 simp [Instr.sliceAt, Instr.slice, run_underlying ht, hb]
theorem cutL_eq {α : Type} (xs : List α) (l u : Nat) : cutL xs l u = (xs.drop l).take (u - l) := by
 unfold cutL; rw [List.drop_take]
theorem bytesOfStr_extract (s : ByteArray) (l u : Nat) : bytesOfStr (s.extract l u) = cutL (bytesOfStr s) l u := by
 rw [cutL_eq]
 simp [bytesOfStr, ByteArray.data_extract, List.map_drop, List.map_take]
theorem isInts_size (ok : PrgOk G) {t : TypeId} (h : isInts G t = true) : ∃ e, G.P.underlying t = some (.slice e) ∧ typeSize G e = some 1 := by
 unfold isInts at h
 split at h
 ·rename_i e he
  split at h
  ·rename_i k hel
   exact ⟨e, elemOk_int ok he hel⟩
  ·cases h
 ·cases h
theorem isRows_size (ok : PrgOk G) {t : TypeId} {j : Nat} (h : isRows G t j = true) : ∃ e, G.P.underlying t = some (.slice e) ∧ typeSize G e = some (G.E.sz j) := by
 unfold isRows at h
 split at h
 ·rename_i e he
  split at h
  ·rename_i k hel
   have := nat_beq h; subst this
   exact ⟨e, elemOk_row ok he hel⟩
  ·cases h
 ·cases h
/-- a part of a part -/
theorem sub_of {E : Env} {ι : Nat → Loc} {id ep : Nat} {b : Blk E.T} {len' sz : Nat} (hb : b.info E = some (ep, len', sz)) {off n : Nat} {a : Option Addr} {cap : Nat} (hfit : off + n ≤ len')
  (ha : 0 < n → ∃ B o, (ι id).a = some ⟨B, o, none⟩ ∧ a = some ⟨B, o + off * sz, none⟩) (hc : n ≤ cap) {l u : Nat} (hlu : l ≤ u) (hun : u ≤ n) :
  SubAt E ι id ep (off + l) (u - l) b (.slice (if cap = l then a else a.map (·.add (l * sz))) (u - l) (cap - l)) := by
 refine ⟨⟨_, _, _, rfl⟩, fun ep' len'' sz' h => ?_⟩
 rw [hb] at h; cases h
 refine ⟨Nat.le_refl _, fun _ => ⟨by omega, _, _, rfl, by omega, fun hp => ?_⟩⟩
 obtain ⟨B, o, h1, h2⟩ := ha (by omega)
 refine ⟨B, o, h1, ?_⟩
 rw [if_neg (by omega), h2, Option.map_some, Addr.add_lit, Nat.add_mul, Nat.add_assoc]
theorem RowAt.cut {l : Loc} {len sz : Nat} (h : RowAt w l len sz) {p q : Nat} (hpq : p ≤ q) (hq : q ≤ len) {cs : List Value} (hcs : ∀ B o, l.a = some ⟨B, o, none⟩ → ∀ (j : Nat) (v : Value), cs[j]? = some v → w.cell? ⟨B, o + p * sz + j, none⟩ = some v)
  (hlen : cs.length = (q - p) * sz) :
  RowBecomes w w l ⟨if l.cap = p then l.a else l.a.map (·.add (p * sz)), l.cap - p⟩ sz (q - p) cs := by
 have hle := h.1
 rcases h.2.2 with ⟨hn, hc0⟩ | ⟨B, o, ha, hB, hc⟩
 ·have : (if l.cap = p then l.a else l.a.map (·.add (p * sz))) = none := by rw [hn]; split <;> rfl
  rw [this]
  exact ⟨⟨by simp only; omega, by have := h.2.1; omega, .inl ⟨rfl, by simp only; omega⟩⟩, fun _ _ h => (by cases h), rfl, rfl, rfl, Nat.le_refl _, fun _ _ _ => rfl, fun _ h => (by cases h)⟩
 ·by_cases hcp : l.cap = p
  ·rw [if_pos hcp]
   have hqp : q - p = 0 := by omega
   have hnil : cs = [] := List.eq_nil_of_length_eq_zero (by rw [hlen, hqp, Nat.zero_mul])
   subst hnil
   exact ⟨⟨by simp only; omega, by have := h.2.1; omega, .inr ⟨B, o, ha, hB, fun c hc' => by simp only at hc'; rw [hcp, Nat.sub_self, Nat.zero_mul] at hc'; omega⟩⟩, fun _ _ _ q v hv => (by simp at hv), rfl, rfl, rfl, Nat.le_refl _, fun _ _ _ => rfl, fun A h => .inl ⟨A, h, rfl⟩⟩
  ·rw [if_neg hcp, ha, Option.map_some, Addr.add_lit]
   refine ⟨⟨by simp only; omega, by have := h.2.1; omega, .inr ⟨B, o + p * sz, rfl, hB, fun c hc' => ?_⟩⟩, fun B' o' h j v hv => ?_, rfl, rfl, rfl, Nat.le_refl _, fun _ _ _ => rfl, fun A h => .inl ⟨_, ha, ?_⟩⟩
   ·simp only at hc'
    rw [Nat.sub_mul] at hc'
    rw [Nat.add_assoc]
    exact hc (p * sz + c) (by omega)
   ·simp only [Option.some.injEq, Addr.mk.injEq] at h
    obtain ⟨rfl, rfl, _⟩ := h
    exact hcs B o ha j v hv
   ·simp only [Option.some.injEq] at h; subst h; rfl
theorem FRep.cut_ints {E : Env} {k : IntKind} {xs : List Int} {a : Option Addr} {n cap : Nat} (h : FRep E w Fz (.ints k xs) (.slice a n cap)) {l u : Nat} (hlu : l ≤ u) (hun : u ≤ xs.length) :
  FRep E w Fz (.ints k (cutL xs l u)) (.slice (if cap = l then a else a.map (·.add (l * 1))) (u - l) (cap - l)) := by
 have hcl : (cutL xs l u).length = u - l := by rw [cutL_eq, List.length_take, List.length_drop]; omega
 cases h with
 | ints g1 g2 g0 g3 =>
  have := FRep.ints (E := E) (w := w) (Fz := Fz) (k := k) (xs := cutL xs l u) (a := if cap = l then a else a.map (·.add (l * 1))) (cap := cap - l) (fun y hy => by
    rw [cutL_eq] at hy
    exact g1 y (List.mem_of_mem_drop (List.mem_of_mem_take hy))) (by omega) (by omega) (fun hne => by
    have hpos : 0 < u - l := by rw [← hcl]; exact List.length_pos_iff.2 hne
    obtain ⟨B, o, rfl, hf, hc⟩ := g3 (fun e => by subst e; simp at hun; omega)
    refine ⟨B, o + l * 1, by rw [if_neg (by omega), Option.map_some, Addr.add_lit], hf, fun j x hj => ?_⟩
    rw [cutL_eq, List.getElem?_take] at hj
    split at hj
    ·rw [List.getElem?_drop] at hj
     rw [Nat.mul_one, Nat.add_assoc]
     exact hc _ x hj
    ·cases hj)
  rwa [hcl] at this
theorem FRep.cut_rows {E : Env} {i : Nat} {xs : List (E.T i)} {a : Option Addr} {n cap : Nat} (h : FRep E w Fz (.rows i xs) (.slice a n cap)) {l u : Nat} (hlu : l ≤ u) (hun : u ≤ xs.length) :
  FRep E w Fz (.rows i (cutL xs l u)) (.slice (if cap = l then a else a.map (·.add (l * E.sz i))) (u - l) (cap - l)) := by
 have hcl : (cutL xs l u).length = u - l := by rw [cutL_eq, List.length_take, List.length_drop]; omega
 have hget : ∀ j x, (cutL xs l u)[j]? = some x → xs[l + j]? = some x := by
  intro j x hj
  rw [cutL_eq, List.getElem?_take] at hj
  split at hj
  ·rwa [List.getElem?_drop] at hj
  ·cases hj
 cases h with
 | rows cv g2 g0 g3 g4 =>
  have := FRep.rows (E := E) (w := w) (Fz := Fz) (i := i) (xs := cutL xs l u) (a := if cap = l then a else a.map (·.add (l * E.sz i))) (cap := cap - l) (fun j c => cv (l + j) c) (by omega) (by omega) (fun hne => by
    have hpos : 0 < u - l := by rw [← hcl]; exact List.length_pos_iff.2 hne
    obtain ⟨B, o, rfl, hf, hc⟩ := g3 (fun e => by subst e; simp at hun; omega)
    refine ⟨B, o + l * E.sz i, by rw [if_neg (by omega), Option.map_some, Addr.add_lit], hf, fun j x c p hj hp => ?_⟩
    rw [show o + l * E.sz i + j * E.sz i + c = o + (l + j) * E.sz i + c by rw [Nat.add_mul]; omega]
    exact hc _ x c p (hget j x hj) hp) (fun j x c p hj hp => g4 _ x c p (hget j x hj) hp)
  rwa [hcl] at this
theorem sliceV_sound (ok : PrgOk G) {cutting : Bool} {t : TypeId} {p : PV G.E.T} {lo hi : Option (PV G.E.T)} {K : PV G.E.T → List (Blk G.E.T) → Option R} (h : sliceV G H cutting t p lo hi K = some r) (hH : HRep G.E w Fz ι H) (hF : Fram G.E X w Fz ι H)
  {x : Value} (hx : PRep G.E w Fz ι H p x) {vl vh : Option Value} (hl : OptRep G.E w Fz ι H lo vl) (hh : OptRep G.E w Fz ι H hi vh) :
  ∃ q H' v ι', K q H' = some r ∧ (Instr.sliceAt t x vl vh none).run G.P w = .ok v w ∧ Step G.E X w w Fz Fz ι ι' H H' ∧ PRep G.E w Fz ι' H' q v := by
 unfold sliceV at h
 split at h
 ·split at h
  ·rename_i s ht
   simp only [PRep] at hx
   cases hx with | str e1 l1 =>
   rename_i bs
   subst e1
   obtain ⟨l, u, hK, h1, h2, hb⟩ := boundsV_sound h hl hh
   rw [bytesOfStr_len] at h2 hb
   refine ⟨_, _, .string (bs.extract l u), ι, hK, run_sliceAt_str ht (hb false bs.size (Nat.le_refl _)), .refl hH hF, ?_⟩
   simp only [PRep]
   refine .str (bytesOfStr_extract bs l u) ?_
   rw [cutL_eq, List.length_take, List.length_drop]; omega
  ·cases h
 ·split at h
  ·rename_i k xs ht
   obtain ⟨e, hu, hs⟩ := isInts_size ok ht
   obtain ⟨l, u, hK, h1, h2, hb⟩ := boundsV_sound h hl hh
   simp only [PRep] at hx
   have hx' := hx
   cases hx with
   | ints g1 g2 g0 g3 =>
    rename_i a cap
    exact ⟨_, _, _, ι, hK, run_sliceAt hu hs (hb true cap g0), .refl hH hF, (hx'.cut_ints h1 h2).toP⟩
  ·cases h
 ·split at h
  ·rename_i i xs ht
   obtain ⟨e, hu, hs⟩ := isRows_size ok ht
   obtain ⟨l, u, hK, h1, h2, hb⟩ := boundsV_sound h hl hh
   simp only [PRep] at hx
   have hx' := hx
   cases hx with
   | rows cv g2 g0 g3 g4 =>
    rename_i a cap
    exact ⟨_, _, _, ι, hK, run_sliceAt hu hs (hb true cap g0), .refl hH hF, (hx'.cut_rows h1 h2).toP⟩
  ·cases h
 ·split at h
  ·rename_i e he
   split at h
   ·rename_i sz hs
    have hu : G.P.underlying t = some (.slice e) := by
     unfold elemT at he
     split at he
     ·rename_i hu; cases he; exact hu
     ·cases he
    obtain ⟨l, u, hK, h1, h2, hb⟩ := boundsV_sound h hl hh
    simp only [PRep] at hx
    subst hx
    have hu0 : u = 0 := by omega
    subst hu0
    have hl0 : l = 0 := by omega
    subst hl0
    refine ⟨_, _, _, ι, hK, run_sliceAt hu hs (hb true 0 (Nat.le_refl _)), .refl hH hF, ?_⟩
    simp [PRep]
   ·cases h
  ·cases h
 ·rename_i id ep
  simp only [PRep] at hx
  obtain ⟨b, hb0, hx⟩ := hx
  have hr := hH.rep id _ hb0
  split at h
  ·rename_i k ep' xs hb'
   rw [hb0] at hb'; cases hb'
   split at h
   ·rename_i ht he
    have := nat_beq he; subst this
    obtain ⟨e, hu, hs⟩ := isInts_size ok ht
    obtain ⟨l, u, hK, h1, h2, hb⟩ := boundsV_sound h hl hh
    have hv := (hx.2 _ _ _ rfl).2 rfl
    subst hv
    simp only [BRep] at hr
    have hcl : (cutL xs l u).length = u - l := by rw [cutL_eq, List.length_take, List.length_drop]; omega
    have hrb := hr.1.cut h1 h2 (cs := (cutL xs l u).map fun y => Value.int k y) (fun B o ha j v hv => by
     rw [List.getElem?_map] at hv
     obtain ⟨y, hy, rfl⟩ := Option.map_eq_some_iff.1 hv
     rw [cutL_eq, List.getElem?_take] at hy
     split at hy
     ·rw [List.getElem?_drop] at hy
      rw [Nat.mul_one, Nat.add_assoc]
      exact hr.2.2 B o ha _ y hy
     ·cases hy) (by simp [hcl])
    rw [← hcl] at hrb
    have hrun := run_sliceAt (w := w) hu hs (a := (ι id).a) (len := xs.length) (cap := (ι id).cap) (hb true (ι id).cap hr.1.1)
    refine ⟨_, _, _, _, hK, hrun, Step.rowUpd hH hF hb0 rfl rfl rfl (b' := .ints .own k (ep + 1) (cutL xs l u)) rfl rfl hrb (fun KK => hrb.ints (fun y hy => ?_) updι_same), ?_⟩
    ·rw [cutL_eq] at hy
     exact hr.2.1 y (List.mem_of_mem_drop (List.mem_of_mem_take hy))
    ·have := arr_upd (G := G) (w' := w) (Fz := Fz) (ι := ι) (b := .ints .own k (ep + 1) (cutL xs l u)) hb0 (l := ⟨if (ι id).cap = l then (ι id).a else (ι id).a.map (·.add (l * 1)), (ι id).cap - l⟩) rfl
     rwa [hcl] at this
   ·cases h
  ·rename_i j ep' xs hb'
   rw [hb0] at hb'; cases hb'
   split at h
   ·rename_i ht he
    have := nat_beq he; subst this
    obtain ⟨e, hu, hs⟩ := isRows_size ok ht
    obtain ⟨l, u, hK, h1, h2, hb⟩ := boundsV_sound h hl hh
    have hv := (hx.2 _ _ _ rfl).2 rfl
    subst hv
    simp only [BRep] at hr
    have hcl : (cutL xs l u).length = u - l := by rw [cutL_eq, List.length_take, List.length_drop]; omega
    have hvals : ∃ us, RowVals G.E w Fz j (cutL xs l u) us ∧ ∀ B o, (ι id).a = some ⟨B, o, none⟩ → ∀ (q : Nat) (v : Value), us[q]? = some v → w.cell? ⟨B, o + l * G.E.sz j + q, none⟩ = some v := by
     by_cases hne : cutL xs l u = []
     ·exact ⟨[], ⟨by rw [hne]; simp, by rw [hne]; simp⟩, by simp⟩
     ·have hpos : 0 < u - l := by rw [← hcl]; exact List.length_pos_iff.2 hne
      obtain ⟨B, o, ha⟩ := hr.1.addr (by omega)
      obtain ⟨us, g1, g2, _⟩ := RowVals.of_cells (G := G) (w := w) ok.env (F := Fz) (ys := cutL xs l u) (B := B) (o := o + l * G.E.sz j) (fun q x c p hq hp => by
       rw [cutL_eq, List.getElem?_take] at hq
       split at hq
       ·rw [List.getElem?_drop] at hq
        obtain ⟨v, k1, k2⟩ := hr.2 B o ha _ x c p hq hp
        exact ⟨v, by rw [show o + l * G.E.sz j + q * G.E.sz j + c = o + (l + q) * G.E.sz j + c by rw [Nat.add_mul]; omega]; exact k1, k2⟩
       ·cases hq)
      refine ⟨us, g1, fun B' o' ha' => ?_⟩
      rw [ha] at ha'; cases ha'
      exact g2
    obtain ⟨us, g1, g2⟩ := hvals
    have hrb := hr.1.cut h1 h2 (cs := us) g2 (by rw [g1.length, hcl])
    rw [← hcl] at hrb
    have hrun := run_sliceAt (w := w) hu hs (a := (ι id).a) (len := xs.length) (cap := (ι id).cap) (hb true (ι id).cap hr.1.1)
    refine ⟨_, _, _, _, hK, hrun, Step.rowUpd hH hF hb0 rfl rfl rfl (b' := .rows .own j (ep + 1) (cutL xs l u)) rfl rfl hrb (fun KK => hrb.rows (g1.mono KK.fz KK.heap) updι_same), ?_⟩
    have := arr_upd (G := G) (w' := w) (Fz := Fz) (ι := ι) (b := .rows .own j (ep + 1) (cutL xs l u)) hb0 (l := ⟨if (ι id).cap = l then (ι id).a else (ι id).a.map (·.add (l * G.E.sz j)), (ι id).cap - l⟩) rfl
    rwa [hcl] at this
   ·cases h
  ·rename_i m k ep' xs hb'
   rw [hb0] at hb'; cases hb'
   split at h
   ·rename_i ht he
    have := nat_beq he; subst this
    obtain ⟨e, hu, hs⟩ := isInts_size ok ht
    obtain ⟨l, u, hK, h1, h2, hb⟩ := boundsV_sound h hl hh
    have hv := (hx.2 _ _ _ rfl).2 rfl
    subst hv
    simp only [BRep] at hr
    refine ⟨_, _, _, ι, hK, run_sliceAt hu hs (hb true (ι id).cap hr.1.1), .refl hH hF, ?_⟩
    simp only [PRep]
    have := sub_of (E := G.E) (ι := ι) (id := id) (ep := ep) (b := .ints m k ep xs) rfl (off := 0) (n := xs.length) (a := (ι id).a) (cap := (ι id).cap) (by omega) (fun hp => by
     obtain ⟨B, o, ha⟩ := hr.1.addr hp
     exact ⟨B, o, ha, by rw [ha]; simp⟩) hr.1.1 h1 h2
    rw [Nat.zero_add] at this
    exact ⟨_, hb0, this⟩
   ·cases h
  ·rename_i m j ep' xs hb'
   rw [hb0] at hb'; cases hb'
   split at h
   ·rename_i ht he
    have := nat_beq he; subst this
    obtain ⟨e, hu, hs⟩ := isRows_size ok ht
    obtain ⟨l, u, hK, h1, h2, hb⟩ := boundsV_sound h hl hh
    have hv := (hx.2 _ _ _ rfl).2 rfl
    subst hv
    simp only [BRep] at hr
    refine ⟨_, _, _, ι, hK, run_sliceAt hu hs (hb true (ι id).cap hr.1.1), .refl hH hF, ?_⟩
    simp only [PRep]
    have := sub_of (E := G.E) (ι := ι) (id := id) (ep := ep) (b := .rows m j ep xs) rfl (off := 0) (n := xs.length) (a := (ι id).a) (cap := (ι id).cap) (by omega) (fun hp => by
     obtain ⟨B, o, ha⟩ := hr.1.addr hp
     exact ⟨B, o, ha, by rw [ha]; simp⟩) hr.1.1 h1 h2
    rw [Nat.zero_add] at this
    exact ⟨_, hb0, this⟩
   ·cases h
  ·cases h
 ·rename_i id ep off len
  simp only [PRep] at hx
  obtain ⟨b, hb0, hx⟩ := hx
  split at h
  ·rename_i m k ep' xs hb'
   rw [hb0] at hb'; cases hb'
   split at h
   ·rename_i ht he
    have := nat_beq he; subst this
    obtain ⟨e, hu, hs⟩ := isInts_size ok ht
    obtain ⟨l, u, hK, h1, h2, hb⟩ := boundsV_sound h hl hh
    obtain ⟨g1, a, cap, rfl, g0, g2⟩ := (hx.2 _ _ _ rfl).2 rfl
    refine ⟨_, _, _, ι, hK, run_sliceAt hu hs (hb true cap g0), .refl hH hF, ?_⟩
    simp only [PRep]
    exact ⟨_, hb0, sub_of rfl g1 g2 g0 h1 h2⟩
   ·cases h
  ·rename_i m j ep' xs hb'
   rw [hb0] at hb'; cases hb'
   split at h
   ·rename_i ht he
    have := nat_beq he; subst this
    obtain ⟨e, hu, hs⟩ := isRows_size ok ht
    obtain ⟨l, u, hK, h1, h2, hb⟩ := boundsV_sound h hl hh
    obtain ⟨g1, a, cap, rfl, g0, g2⟩ := (hx.2 _ _ _ rfl).2 rfl
    refine ⟨_, _, _, ι, hK, run_sliceAt hu hs (hb true cap g0), .refl hH hF, ?_⟩
    simp only [PRep]
    exact ⟨_, hb0, sub_of rfl g1 g2 g0 h1 h2⟩
   ·cases h
  ·cases h
 ·cases h
end
end Go.Proofs.YtgffdmgidnnedaaGreat.V
