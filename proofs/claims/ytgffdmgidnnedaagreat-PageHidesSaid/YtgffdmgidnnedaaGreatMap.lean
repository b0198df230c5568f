/- Maps: the reading's is the machine's. -/
import Derived.Test.YtgffdmgidnnedaaGreatBld2
import Derived.MapFrom
namespace Go.Proofs.YtgffdmgidnnedaaGreat.V
open Go
set_option linter.unusedVariables false
set_option linter.unusedSimpArgs false
section
variable {G : Prg} {X : Ctx} {w : World} {Fz : Nat → Prop} {ι : Nat → Loc} {H : List (Blk G.E.T)} {R : Type} {r : R}
theorem kkOf_int {d : TypeDesc} {k : IntKind} (h : kkOf d = some (.int k)) : d = .int k := by cases d <;> simp_all [kkOf]
def KK.desc : KK → TypeDesc
 | .int k => .int k
 | .str => .string
theorem kkOf_desc {d : TypeDesc} {k : KK} (h : kkOf d = some k) : d = k.desc := by
 cases d <;> simp [kkOf] at h <;> subst h <;> rfl
theorem makeMapV_sound {pl : Option Nat} {t : TypeId} {K : PV G.E.T → List (Blk G.E.T) → Option R} (h : makeMapV G pl H t K = some r) (hH : HRep G.E w Fz ι H) (hF : Fram G.E X w Fz ι H) :
  ∃ p H' v w' ι', K p H' = some r ∧ (Instr.makeMap t none).run G.P w = .ok v w' ∧ Step G.E X w w' Fz Fz ι ι' H H' ∧ PRep G.E w' Fz ι' H' p v := by
 unfold makeMapV at h
 split at h
 ·split at h
  ·rename_i d _ hpl
   split at h
   ·rename_i k _ hk
    refine ⟨_, _, .map (some w.heap.size), w.alloc (.map #[] 0), updι ι (plId pl H) ⟨some ⟨w.heap.size, 0, none⟩, 0⟩, h, by simp [Instr.makeMap], ?_, ?_⟩
    ·refine Step.at_ hpl hH hF _ _ (.inl rfl) rfl rfl rfl (by simp) (alloc_mem _) (fun A' hA' => by simp at hA'; subst hA'; simp) rfl fun KK => ?_
     simp only [BRep]
     exact ⟨w.heap.size, by rw [updι_same], #[], 0, by show (w.heap.push _)[w.heap.size]? = _; simp, by simp⟩
    ·simp only [PRep]
     exact ⟨_, getL_plPut hpl, rfl, w.heap.size, by rw [updι_same], rfl⟩
   ·rename_i i k _ hk
    refine ⟨_, _, .map (some w.heap.size), w.alloc (.map #[] 0), updι ι (plId pl H) ⟨some ⟨w.heap.size, 0, none⟩, 0⟩, h, by simp [Instr.makeMap], ?_, ?_⟩
    ·refine Step.at_ hpl hH hF _ _ (.inl rfl) rfl rfl rfl (by simp) (alloc_mem _) (fun A' hA' => by simp at hA'; subst hA'; simp) rfl fun KK => ?_
     simp only [BRep]
     exact ⟨w.heap.size, by rw [updι_same], #[], 0, by show (w.heap.push _)[w.heap.size]? = _; simp, trivial⟩
    ·simp only [PRep]
     exact ⟨_, getL_plPut hpl, rfl, w.heap.size, by rw [updι_same], rfl⟩
   ·cases h
  ·cases h
 ·cases h
theorem CellsRep.of_get {E : Env} {w : World} {Fz : Nat → Prop} : ∀ {ps : List (PV E.T)} {vs : List Value}, ps.length = vs.length → (∀ (c : Nat) (p : PV E.T) (v : Value), ps[c]? = some p → vs[c]? = some v → FRep E w Fz p v) → CellsRep E w Fz ps vs
 | [], [], _, _ => trivial
 | p :: ps, v :: vs, hl, h => ⟨(h 0 p v rfl rfl).one, h 0 p v rfl rfl, CellsRep.of_get (by simpa using hl) fun c p v hp hv => h (c + 1) p v (by simpa using hp) (by simpa using hv)⟩
 | [], _ :: _, hl, _ => by simp at hl
 | _ :: _, [], hl, _ => by simp at hl
theorem CellsRep.toP {ps : List (PV G.E.T)} {vs : List Value} (h : CellsRep G.E w Fz ps vs) : (∀ p ∈ ps, p.one = true) ∧ PReps G.E w Fz ι H ps vs := by
 induction ps generalizing vs with
 | nil =>
  cases vs with
  | nil => exact ⟨fun p hp => by simp at hp, by simp only [PReps]⟩
  | cons _ _ => exact h.elim
 | cons p ps ih =>
  cases vs with
  | nil => exact h.elim
  | cons v vs =>
   obtain ⟨h1, h2, h3⟩ := h
   obtain ⟨g1, g2⟩ := ih h3
   refine ⟨fun q hq => ?_, by simp only [PReps]; exact ⟨h2.toP, g2⟩⟩
   rcases List.mem_cons.1 hq with rfl | hq
   ·exact h1
   ·exact g1 q hq
theorem Colds.of_get {E : Env} {w : World} {Fz : Nat → Prop} : ∀ {ps : List (PV E.T)} {vs : List Value}, ps.length = vs.length → (∀ (c : Nat) (p : PV E.T) (v : Value), ps[c]? = some p → vs[c]? = some v → Cold E w Fz p v) → Colds E w Fz ps vs
 | [], [], _, _ => trivial
 | p :: ps, v :: vs, hl, h => ⟨h 0 p v rfl rfl, Colds.of_get (by simpa using hl) fun c p v hp hv => h (c + 1) p v (by simpa using hp) (by simpa using hv)⟩
 | [], _ :: _, hl, _ => by simp at hl
 | _ :: _, [], hl, _ => by simp at hl
theorem bytesOfStr_eq {a b : ByteArray} (h : bytesOfStr a = bytesOfStr b) : a = b := by
 obtain ⟨⟨a⟩⟩ := a
 obtain ⟨⟨b⟩⟩ := b
 have key : ∀ a b : List UInt8, (a.map fun b => (b.toNat : Int)) = (b.map fun b => (b.toNat : Int)) → a = b := fun a => by
  induction a with
  | nil => intro b h; cases b with
   | nil => rfl
   | cons _ _ => simp at h
  | cons x a ih => intro b h; cases b with
   | nil => simp at h
   | cons y b =>
    simp only [List.map_cons, List.cons.injEq, Int.natCast_inj] at h
    rw [UInt8.toNat_inj.1 h.1, ih b h.2]
 rw [key a b h]
theorem key_frep {k : KK} {p : PV G.E.T} {v : Value} {n : KV} (h : PRep G.E w Fz ι H p v) (hn : kvOf k p = some n) : FRep G.E w Fz p v := by
 cases p <;> cases k <;> simp only [kvOf] at hn <;> first | (cases hn; done) | (simp only [PRep] at h; exact h)
theorem key_is {k : KK} {p : PV G.E.T} {v : Value} {n : KV} (h : FRep G.E w Fz p v) (hn : kvOf k p = some n) : MapKept.IsKey k.desc v := by
 cases h <;> cases k <;> simp only [kvOf] at hn <;> try cases hn
 ·split at hn
  ·rename_i e; rw [of_decide_eq_true e]; rfl
  ·cases hn
 ·trivial
theorem key_eq {k : KK} {p q : PV G.E.T} {v u : Value} {m n : KV} (h1 : FRep G.E w Fz p v) (h2 : FRep G.E w Fz q u) (k1 : kvOf k p = some m) (k2 : kvOf k q = some n) : v = u ↔ m = n := by
 cases k with
 | int k =>
  cases h1 <;> simp only [kvOf] at k1 <;> try cases k1
  cases h2 <;> simp only [kvOf] at k2 <;> try cases k2
  split at k1
  ·split at k2
   ·rename_i e1 _ e2
    have e1 := of_decide_eq_true e1
    have e2 := of_decide_eq_true e2
    subst e1; subst e2; cases k1; cases k2
    simp
   ·cases k2
  ·cases k1
 | str =>
  cases h1 <;> simp only [kvOf] at k1 <;> try cases k1
  cases h2 <;> simp only [kvOf] at k2 <;> try cases k2
  rename_i e1 _ _ _ e2 _
  subst e1; subst e2
  exact ⟨fun h => by cases h; rfl, fun h => by rw [bytesOfStr_eq (KV.str.inj h)]⟩
theorem key_det {k : KK} {p q : PV G.E.T} {v : Value} {n : KV} (h1 : FRep G.E w Fz p v) (h2 : FRep G.E w Fz q v) (k1 : kvOf k p = some n) : q = p := by
 cases h1 <;> cases k <;> simp only [kvOf] at k1 <;> try cases k1
 ·cases h2; rfl
 ·rename_i e _
  cases h2 with | str e2 _ => rw [← e, ← e2]
theorem keyP_of {k : KK} {p : PV G.E.T} {ps : List (PV G.E.T)} {n : KV} (h : kvOf k p = some n) : keyP (p :: ps) = n := by
 cases p <;> cases k <;> simp only [kvOf] at h <;> try cases h
 ·split at h
  ·cases h; rfl
  ·cases h
 ·rfl
/-- what is made an entry is one -/
theorem ent_of_inn (ok : EnvOk G.E) {i : Nat} {k : KK} {kp : PV G.E.T} {kv : Value} {n : KV} {cs : List (PV G.E.T)} {y : G.E.T i} {vs : List Value} (hin : G.E.inn i (kp :: cs) = some y) (hk : FRep G.E w Fz kp kv) (hn : kvOf k kp = some n) (hcs : Colds G.E w Fz cs vs) :
  ∃ qs, G.E.outs i y = kp :: qs ∧ CellsRep G.E w Fz qs vs := by
 obtain ⟨h1, h2⟩ := ok.inn _ _ _ hin
 cases ho : G.E.outs i y with
 | nil => rw [ho] at h1; simp at h1
 | cons q0 qs =>
  rw [ho] at h1 h2
  have e0 := key_det hk (h2 w Fz 0 kp q0 kv rfl rfl (.inl hk)) hn
  subst e0
  refine ⟨qs, rfl, CellsRep.of_get (by rw [← hcs.length]; simpa using h1) fun c q v hq hv => ?_⟩
  have hc : c < cs.length := by have := (List.getElem?_eq_some_iff.1 hv).1; rw [hcs.length]; exact this
  obtain ⟨v', hv', hp'⟩ := hcs.get (List.getElem?_eq_getElem hc)
  rw [hv] at hv'; cases hv'
  exact h2 w Fz (c + 1) cs[c] q v (by simp [hc]) (by simpa using hq) hp'
theorem entFits_val {sz : Nat} {p : PV G.E.T} {v : Value} (h : PRep G.E w Fz ι H p v) (hf : entFits sz p = true) : v = entVal sz v.cells.toList := by
 have one : p.one = true → Nat.beq sz 2 = true → v = entVal sz v.cells.toList := fun h1 h2 => by
  rw [oneCell_cells (h.cell h1)]
  unfold entVal
  rw [h2]
 cases p
 case agg l =>
  simp only [entFits, Bool.not_eq_true'] at hf
  simp only [PRep] at h
  obtain ⟨cs, rfl, _⟩ := h
  unfold entVal
  rw [hf]
  simp [Value.cells]
 all_goals
  simp only [entFits] at hf
  split at hf
  ·rename_i h1; exact one h1 hf
  ·cases hf
theorem entP_rep (ok : EnvOk G.E) {i : Nat} {x : G.E.T i} {kp : PV G.E.T} {ps : List (PV G.E.T)} {vs : List Value} (ho : G.E.outs i x = kp :: ps) (hc : CellsRep G.E w Fz ps vs) : PRep G.E w Fz ι H (entP (G.E.sz i) (tailP (G.E.outs i x))) (entVal (G.E.sz i) vs) := by
 obtain ⟨t1, t2⟩ := hc.toP (ι := ι) (H := H)
 rw [ho]
 have hagg : PRep G.E w Fz ι H (.agg ps) (.agg vs.toArray) := by simp only [PRep]; exact ⟨_, rfl, t1, t2⟩
 unfold entP entVal
 simp only [tailP]
 cases hz : Nat.beq (G.E.sz i) 2 with
 | false => exact hagg
 | true =>
  have hs := ok.sz i x
  rw [ho, nat_beq hz] at hs
  match ps, vs, hs, t2, hagg with
  | [p], [v], _, t2, _ => simp only [PReps] at t2; exact t2.1
  | [_], [], _, t2, _ => simp only [PReps] at t2
  | [_], _ :: _ :: _, _, t2, _ => simp only [PReps] at t2; exact t2.2.elim
  | [], _, hs, _, _ => simp at hs
  | _ :: _ :: _, _, hs, _, _ => simp at hs
theorem EntsRep.push {k : KK} {i : Nat} {y : G.E.T i} {f : MapEntry} (hf : EntRep G.E w Fz k i y f) : ∀ {xs : List (G.E.T i)} {es : List MapEntry}, EntsRep G.E w Fz k i xs es → EntsRep G.E w Fz k i (xs ++ [y]) (es ++ [f])
 | [], [], _ => ⟨hf, trivial⟩
 | _ :: _, _ :: _, h => ⟨h.1, h.2.push hf⟩
theorem EntsRep.modify {k : KK} {i : Nat} {y : G.E.T i} {f : MapEntry → MapEntry} : ∀ {xs : List (G.E.T i)} {es : List MapEntry} {j : Nat}, EntsRep G.E w Fz k i xs es → (∀ e, es[j]? = some e → EntRep G.E w Fz k i y (f e)) → EntsRep G.E w Fz k i (xs.set j y) (es.modify j f)
 | [], [], j, _, _ => by simp [EntsRep]
 | x :: xs, e :: es, 0, h, hf => by
  simp only [List.set_cons_zero, List.modify_zero_cons]
  exact ⟨hf e rfl, h.2⟩
 | x :: xs, e :: es, j + 1, h, hf => by
  simp only [List.set_cons_succ, List.modify_succ_cons]
  exact ⟨h.1, h.2.modify fun e he => hf e (by simpa using he)⟩
theorem EntsRep.erase {k : KK} {i : Nat} : ∀ {xs : List (G.E.T i)} {es : List MapEntry} {j : Nat}, EntsRep G.E w Fz k i xs es → EntsRep G.E w Fz k i (xs.eraseIdx j) (es.eraseIdx j)
 | [], [], j, _ => by simp [EntsRep]
 | x :: xs, e :: es, 0, h => h.2
 | x :: xs, e :: es, j + 1, h => ⟨h.1, h.2.erase⟩
/-- the entry of a key, there and here -/
theorem find_ent {k : KK} {i : Nat} {kp : PV G.E.T} {kv : Value} {n : KV} (hkv : FRep G.E w Fz kp kv) (hn : kvOf k kp = some n) : ∀ {xs : List (G.E.T i)} {es : List MapEntry} (idx : Nat), EntsRep G.E w Fz k i xs es →
  (findM (fun e => keyP (G.E.outs i e)) n xs = none ∧ Instr.findNow k.desc kv es idx = some none ∧ (∀ y, keyP (G.E.outs i y) = n → putM (fun e => keyP (G.E.outs i e)) y xs = xs ++ [y]) ∧ delM (fun e => keyP (G.E.outs i e)) n xs = xs) ∨
  ∃ j x e, findM (fun e => keyP (G.E.outs i e)) n xs = some x ∧ Instr.findNow k.desc kv es idx = some (some (idx + j, e.val)) ∧ es[j]? = some e ∧ e.key = kv ∧ EntRep G.E w Fz k i x e ∧ (∀ y, keyP (G.E.outs i y) = n → putM (fun e => keyP (G.E.outs i e)) y xs = xs.set j y) ∧
   delM (fun e => keyP (G.E.outs i e)) n xs = xs.eraseIdx j
 | [], [], idx, _ => .inl ⟨rfl, rfl, fun y _ => rfl, rfl⟩
 | x :: xs, e :: es, idx, h => by
  obtain ⟨hx, h⟩ := h
  have hx' := hx
  obtain ⟨xp, ps, vs, a, b, b', c, d⟩ := hx'
  obtain ⟨m, hm0⟩ := Option.isSome_iff_exists.1 b'
  have hk : keyP (G.E.outs i x) = m := by rw [a]; exact keyP_of hm0
  obtain ⟨q, hq, hiff⟩ := MapKept.sameNow_of_keys (key_is hkv hn) (key_is b hm0)
  rw [key_eq hkv b hn hm0] at hiff
  by_cases hm : m = n
  ·subst hm
   refine .inr ⟨0, x, e, by simp only [findM, hk, if_true], ?_, rfl, (key_eq b hkv hm0 hn).2 rfl, hx, fun y hy => by simp only [putM, hk, hy, if_true, List.set_cons_zero], by simp only [delM, hk, if_true, List.eraseIdx_cons_zero]⟩
   have : q = true := hiff.2 rfl
   subst this
   simp [Instr.findNow, hq]
  ·have hqf : q = false := by
    cases q with
    | false => rfl
    | true => exact absurd (hiff.1 rfl).symm hm
   subst hqf
   rcases find_ent hkv hn (idx + 1) h with ⟨h1, h2, h3, h4⟩ | ⟨j, x', e', h1, h2, h3, h4, h5, h6, h7⟩
   ·refine .inl ⟨by simp only [findM, hk, if_neg hm, h1], by simp [Instr.findNow, hq, h2], fun y hy => ?_, by simp only [delM, hk, if_neg hm, h4]⟩
    simp only [putM, hk, hy, if_neg hm, h3 y hy, List.cons_append]
   ·refine .inr ⟨j + 1, x', e', by simp only [findM, hk, if_neg hm, h1], ?_, by simpa using h3, h4, h5, fun y hy => ?_, by simp only [delM, hk, if_neg hm, h7, List.eraseIdx_cons_succ]⟩
    ·simp [Instr.findNow, hq, h2]; omega
    ·simp only [putM, hk, hy, if_neg hm, h6 y hy, List.set_cons_succ]
theorem mapKK_of {t : TypeId} {k : KK} (h : mapKK G t k = true) : ∃ kt et, G.P.underlying t = some (.map kt et) ∧ G.P.underlying kt = some k.desc := by
 unfold mapKK at h
 split at h
 ·rename_i kt et ht
  split at h
  ·rename_i d hd
   split at h
   ·rename_i k' hk
    have := KK.beq_eq h
    subst this
    exact ⟨kt, et, ht, by rw [hd, kkOf_desc hk]⟩
   ·cases h
  ·cases h
 ·cases h
theorem map_step (hH : HRep G.E w Fz ι H) (hF : Fram G.E X w Fz ι H) {id B i c : Nat} {k : KK} {xs : List (G.E.T i)} {es : Array MapEntry} (hb : getL H id = some (.mpr .own k i xs)) (ha : (ι id).a = some ⟨B, 0, none⟩) (hes : w.heap[B]? = some (.map es c)) (ys : List (G.E.T i)) (es' : Array MapEntry) (c' : Nat)
  (hk' : EntsRep G.E w Fz k i ys es'.toList) : Step G.E X w { w with heap := w.heap.setIfInBounds B (.map es' c') } Fz Fz ι ι H (setL H id (.mpr .own k i ys)) := by
 have hlt : B < w.heap.size := by
  rcases Nat.lt_or_ge B w.heap.size with q | q
  ·exact q
  ·rw [Array.getElem?_eq_none q] at hes; cases hes
 refine Step.upd hH hF id (.mpr .own k i ys) (getL_setL hb) (fun j hj => getL_setL_ne hj) (fun _ _ => rfl) (fun b hb2 => ?_) rfl rfl rfl (by simp) (fun C hC hne => ?_) (fun A' hA' => .inl ⟨_, A', hb, hA', rfl⟩) rfl fun KK => ?_
 ·rw [hb] at hb2; cases hb2
  exact ⟨rfl, rfl, ⟨fun _ => ⟨rfl, rfl⟩, fun ep len sz h => by simp [Blk.info] at h, fun e => by cases e⟩⟩
 ·have : C ≠ B := hne _ _ hb ha
  simp only [Array.getElem?_setIfInBounds]
  rw [if_neg (fun e => this e.symm)]
 ·simp only [BRep]
  exact ⟨B, ha, es', c', by simp [Array.getElem?_setIfInBounds, hlt], hk'.mono KK.fz KK.heap⟩
theorem mapUpdV_sound (ok : EnvOk G.E) {t : TypeId} {m k px : PV G.E.T} {K : List (Blk G.E.T) → Option R} (h : mapUpdV G H t m k px K = some r) (hH : HRep G.E w Fz ι H) (hF : Fram G.E X w Fz ι H) {vm vk x : Value}
  (hm : PRep G.E w Fz ι H m vm) (hk : PRep G.E w Fz ι H k vk) (hx : PRep G.E w Fz ι H px x) :
  ∃ H' w' Fz', K H' = some r ∧ (Instr.mapUpdate t vm vk x).run G.P w = .ok () w' ∧ Step G.E X w w' Fz Fz' ι ι H H' := by
 unfold mapUpdV at h
 split at h
 ·rename_i id
  simp only [PRep] at hm
  obtain ⟨b, hb, _, B, ha, rfl⟩ := hm
  split at h
  ·rename_i k3 hb'
   rw [hb] at hb'; cases hb'
   split at h
   ·rename_i n hkk hkv
    obtain ⟨kt, et, ht, hd⟩ := mapKK_of hkk
    have hkf := key_frep hk hkv
    have hkey := key_is hkf hkv
    have hr := hH.rep id _ hb
    simp only [BRep] at hr
    obtain ⟨B', ha', es, c, hes, hkeys⟩ := hr
    rw [ha] at ha'; cases ha'
    have hks : ∀ x ∈ es.toList, MapKept.IsKey (KK.desc (.int k3)) x.key := fun x hx => by
     obtain ⟨n, e⟩ := hkeys x hx
     rw [e]; rfl
    obtain ⟨nk, rfl⟩ : ∃ n, vk = .int k3 n := by
     cases vk <;> simp only [KK.desc, MapKept.IsKey] at hkey
     rw [hkey]; exact ⟨_, rfl⟩
    have hlt : B < w.heap.size := by
     rcases Nat.lt_or_ge B w.heap.size with q | q
     ·exact q
     ·rw [Array.getElem?_eq_none q] at hes; cases hes
    have hstep : ∀ es' c', (∀ e ∈ es'.toList, ∃ n, e.key = .int k3 n) → Step G.E X w { w with heap := w.heap.setIfInBounds B (.map es' c') } Fz Fz ι ι H H := fun es' c' hk' => by
     refine Step.upd hH hF id (.mp .own k3) hb (fun _ _ => rfl) (fun _ _ => rfl) (fun b hb2 => ?_) rfl rfl rfl (by simp) (fun C hC hne => ?_) (fun A' hA' => .inl ⟨_, A', hb, hA', rfl⟩) rfl fun KK => ?_
     ·rw [hb] at hb2; cases hb2
      exact ⟨rfl, rfl, .refl _⟩
     ·have : C ≠ B := hne _ _ hb ha
      simp only [Array.getElem?_setIfInBounds]
      rw [if_neg (fun e => this e.symm)]
     ·simp only [BRep]
      exact ⟨B, ha, es', c', by simp [Array.getElem?_setIfInBounds, hlt], hk'⟩
    rcases MapKept.findNow_spec hkey es.toList 0 hks with ⟨h1, _⟩ | ⟨j, e, h1, h2, h3⟩
    ·refine ⟨_, _, Fz, h, by simp [Instr.mapUpdate, run_underlying ht, MapKept.run_getObj_map hes, MapKept.run_checkKey hd hkey, MapKept.run_findKey hd h1, MapKept.run_setObj_map _ hes, Result.andThen]; rfl, hstep _ _ fun e he => ?_⟩
     simp only [Array.toList_push, List.mem_append, List.mem_singleton] at he
     rcases he with he | rfl
     ·exact hkeys e he
     ·exact ⟨nk, rfl⟩
    ·have hj : es[j]? = some e := by simpa using h2
     refine ⟨_, _, Fz, h, by simp [Instr.mapUpdate, run_underlying ht, MapKept.run_getObj_map hes, MapKept.run_checkKey hd hkey, MapKept.run_findKey hd h1, hj, h3, MapKept.run_keyThatStays hkey, MapKept.run_setObj_map _ hes, Result.andThen]; rfl, hstep _ _ fun e' he => ?_⟩
     simp only [Array.toList_modify] at he
     obtain ⟨i, hi, rfl⟩ := List.getElem_of_mem he
     rw [List.getElem_modify]
     split
     ·exact ⟨nk, rfl⟩
     ·exact hkeys _ (List.getElem_mem _)
   ·cases h
  ·rename_i k0 i0 xs0 hb0
   split at h
   ·rename_i cells H1 hall hfz
    have hcr := cells_rep hx hall
    obtain ⟨F1, s1, c1⟩ := freezePs_sound hH hF hfz hcr
    split at h
    ·rename_i k3 i xs hb1
     split at h
     ·rename_i n y hkk hkv hef hy
      obtain ⟨kt, et, ht, hd⟩ := mapKK_of hkk
      have hkf := (key_frep hk hkv).mono s1.keep.fz s1.keep.heap
      have hkey := key_is hkf hkv
      have hr := s1.heap.rep id _ hb1
      simp only [BRep] at hr
      obtain ⟨B', ha', es, c, hes, hents⟩ := hr
      rw [ha] at ha'; cases ha'
      obtain ⟨qs, hq1, hq2⟩ := ent_of_inn ok hy hkf hkv c1
      have hky : keyP (G.E.outs i y) = n := by rw [hq1]; exact keyP_of hkv
      have hent : ∀ e : MapEntry, e.key = vk → e.val = x → EntRep G.E w F1 k3 i y e := fun e g1 g2 => ⟨k, qs, _, hq1, by rw [g1]; exact hkf, by rw [hkv]; rfl, by rw [g2]; exact entFits_val hx hef, hq2⟩
      have hstep := map_step s1.heap s1.fram hb1 ha hes
      rcases find_ent hkf hkv 0 hents with ⟨_, h1, h2, _⟩ | ⟨j, x', e, _, h1, h2, h3, _, h4, _⟩
      ·refine ⟨_, _, F1, h, by simp [Instr.mapUpdate, run_underlying ht, MapKept.run_getObj_map hes, MapKept.run_checkKey hd hkey, MapKept.run_findKey hd h1, MapKept.run_setObj_map _ hes, Result.andThen]; rfl, s1.trans ?_⟩
       rw [h2 y hky]
       refine hstep _ _ _ ?_
       rw [Array.toList_push]
       exact hents.push (hent _ rfl rfl)
      ·have hj : es[j]? = some e := by simpa using h2
       rw [Nat.zero_add] at h1
       refine ⟨_, _, F1, h, by simp [Instr.mapUpdate, run_underlying ht, MapKept.run_getObj_map hes, MapKept.run_checkKey hd hkey, MapKept.run_findKey hd h1, hj, h3, MapKept.run_keyThatStays hkey, MapKept.run_setObj_map _ hes, Result.andThen]; rfl, s1.trans ?_⟩
       rw [h4 y hky]
       refine hstep _ _ _ ?_
       rw [Array.toList_modify]
       exact hents.modify fun e' he' => hent _ rfl rfl
     ·cases h
    ·cases h
   ·cases h
  ·cases h
 ·cases h
theorem zeroEnt_sound {sz : Nat} {t kt et : TypeId} {z : List (PV G.E.T)} (ht : G.P.underlying t = some (.map kt et)) (h : zeroEnt G sz t = some z) : ∃ v, (zeroValue et).run G.P w = .ok v w ∧ ∃ vs, v = entVal sz vs ∧ PReps G.E w Fz ι H z vs := by
 unfold zeroEnt at h
 rw [ht] at h
 simp only at h
 have reps : ∀ vs : List Value, PReps G.E w Fz ι H (ofConsts vs) vs := fun vs => by
  induction vs with
  | nil => simp [ofConsts, PReps]
  | cons v vs ih => simp only [ofConsts, PReps]; exact ⟨ofConst_rep v, ih⟩
 split at h
 ·rename_i hz
  unfold zeroOneP at h
  split at h
  ·rename_i ti hti
   split at h
   ·rename_i v hv
    split at h
    ·rename_i ho hall
     cases h
     refine ⟨v, by simp [zeroValue, typeInfo, hti, hv], [v], ?_, reps [v]⟩
     unfold entVal; rw [hz]
    ·cases h
   ·cases h
  ·cases h
 ·rename_i hz
  unfold zeroAggP at h
  split at h
  ·rename_i ti hti
   split at h
   ·rename_i cs hcs
    split at h
    ·cases h
     refine ⟨.agg cs, by simp [zeroValue, typeInfo, hti, hcs], cs.toList, ?_, reps _⟩
     unfold entVal; rw [hz]
    ·cases h
   ·cases h
  ·cases h
theorem lookupV_sound (ok : EnvOk G.E) {t : TypeId} {m k : PV G.E.T} {okb : Bool} {K : PV G.E.T → Option R} (h : lookupV G H t m k okb K = some r) (hH : HRep G.E w Fz ι H) {vm vk : Value}
  (hm : PRep G.E w Fz ι H m vm) (hk : PRep G.E w Fz ι H k vk) : ∃ p v, K p = some r ∧ (Instr.lookup t vm vk okb).run G.P w = .ok v w ∧ PRep G.E w Fz ι H p v := by
 unfold lookupV at h
 split at h
 ·rename_i id
  simp only [PRep] at hm
  obtain ⟨b, hb, _, B, ha, rfl⟩ := hm
  split at h
  ·rename_i mo k3 i xs hb'
   rw [hb] at hb'; cases hb'
   split at h
   ·rename_i n z hkk hkv hz
    split at h
    ·rename_i y hy
     obtain ⟨kt, et, ht, hd⟩ := mapKK_of hkk
     have hkf := key_frep hk hkv
     have hkey := key_is hkf hkv
     have hr := hH.rep id _ hb
     simp only [BRep] at hr
     obtain ⟨B', ha', es, c, hes, hents⟩ := hr
     rw [ha] at ha'; cases ha'
     obtain ⟨zv, hzr, zs, hzv, hzps⟩ := zeroEnt_sound (w := w) (Fz := Fz) (ι := ι) (H := H) ht hz
     have fin : ∀ (p : PV G.E.T) (v : Value) (bb : Bool), PRep G.E w Fz ι H p v → PRep G.E w Fz ι H (.tup [p, .bool bb]) (.tuple #[v, .bool bb]) := fun p v bb hp => by
      simp only [PRep]
      refine ⟨_, rfl, ?_⟩
      simp only [PReps]
      exact ⟨hp, by simp only [PRep]; exact .bool, trivial⟩
     rcases find_ent hkf hkv 0 hents with ⟨g1, h1, _⟩ | ⟨j, x', e, g1, h1, h2, h3, ⟨kp', ps, vs, a1, a2, a2', a3, a4⟩, _⟩
     ·have hcold := ok.cold _ _ _ hy
      obtain ⟨qs, hq1, hq2⟩ := ent_of_inn ok hy hkf hkv (Colds.of_get hzps.length fun c p v hp hv => by
       obtain ⟨v', hv', hp'⟩ := hzps.get hp
       rw [hv] at hv'; cases hv'
       exact hp'.toCold (hcold _ (List.mem_cons_of_mem _ (List.mem_of_getElem? hp))))
      have hp := entP_rep (ι := ι) (H := H) ok hq1 hq2
      rw [← hzv] at hp
      rw [g1] at h
      simp only [Option.getD_none, Option.isSome_none] at h
      cases okb with
      | true => exact ⟨_, .tuple #[zv, .bool false], h, by simp [Instr.lookup, run_underlying ht, MapKept.run_getObj_map hes, MapKept.run_checkKey hd hkey, MapKept.run_findKey hd h1, hzr, Result.andThen], fin _ _ _ hp⟩
      | false => exact ⟨_, zv, h, by simp [Instr.lookup, run_underlying ht, MapKept.run_getObj_map hes, MapKept.run_checkKey hd hkey, MapKept.run_findKey hd h1, hzr, Result.andThen], hp⟩
     ·have hp := entP_rep (ι := ι) (H := H) ok a1 a4
      rw [← a3] at hp
      rw [g1] at h
      simp only [Option.getD_some, Option.isSome_some] at h
      rw [Nat.zero_add] at h1
      cases okb with
      | true => exact ⟨_, .tuple #[e.val, .bool true], h, by simp [Instr.lookup, run_underlying ht, MapKept.run_getObj_map hes, MapKept.run_checkKey hd hkey, MapKept.run_findKey hd h1, Result.andThen], fin _ _ _ hp⟩
      | false => exact ⟨_, e.val, h, by simp [Instr.lookup, run_underlying ht, MapKept.run_getObj_map hes, MapKept.run_checkKey hd hkey, MapKept.run_findKey hd h1, Result.andThen], hp⟩
    ·cases h
   ·cases h
  ·cases h
 ·cases h
theorem deleteV_sound {t ty : TypeId} {m k : PV G.E.T} {K : List (Blk G.E.T) → Option R} (h : deleteV G H t m k K = some r) (hH : HRep G.E w Fz ι H) (hF : Fram G.E X w Fz ι H) {vm vk : Value}
  (hm : PRep G.E w Fz ι H m vm) (hk : PRep G.E w Fz ι H k vk) (rest : List TypeId) : ∃ H' w', K H' = some r ∧ (Builtin.delete_ (t :: rest).toArray ty #[vm, vk]).run G.P w = .ok (.tuple #[]) w' ∧ Step G.E X w w' Fz Fz ι ι H H' := by
 unfold deleteV at h
 split at h
 ·rename_i id
  simp only [PRep] at hm
  obtain ⟨b, hb, _, B, ha, rfl⟩ := hm
  split at h
  ·rename_i k3 i xs hb'
   rw [hb] at hb'; cases hb'
   split at h
   ·rename_i n hkk hkv
    obtain ⟨kt, et, ht, hd⟩ := mapKK_of hkk
    have hkf := key_frep hk hkv
    have hkey := key_is hkf hkv
    have hr := hH.rep id _ hb
    simp only [BRep] at hr
    obtain ⟨B', ha', es, c, hes, hents⟩ := hr
    rw [ha] at ha'; cases ha'
    have hstep := map_step hH hF hb ha hes
    rcases find_ent hkf hkv 0 hents with ⟨_, h1, _, h2⟩ | ⟨j, x', e, _, h1, h2, h3, _, _, h4⟩
    ·refine ⟨_, _, h, by simp [Builtin.delete_, run_underlying ht, MapKept.run_getObj_map hes, MapKept.run_checkKey hd hkey, MapKept.run_findKey hd h1, MapKept.run_setObj_map _ hes, Result.andThen]; rfl, ?_⟩
     rw [h2]
     exact hstep _ _ _ hents
    ·have hj : j < es.size := by
      have := (List.getElem?_eq_some_iff.1 h2).1
      simpa using this
     rw [Nat.zero_add] at h1
     refine ⟨_, _, h, by simp [Builtin.delete_, run_underlying ht, MapKept.run_getObj_map hes, MapKept.run_checkKey hd hkey, MapKept.run_findKey hd h1, MapKept.run_setObj_map _ hes, Result.andThen]; rfl, ?_⟩
     rw [h4]
     refine hstep _ _ _ ?_
     unfold Array.eraseIdxIfInBounds
     rw [dif_pos hj, Array.toList_eraseIdx]
     exact hents.erase
   ·cases h
  ·cases h
 ·cases h
end
end Go.Proofs.YtgffdmgidnnedaaGreat.V
