/- What an operation reads, and what it changes. -/
import Derived.Test.YtgffdmgidnnedaaGreatDraw
namespace Go.Proofs.YtgffdmgidnnedaaGreat.V
open Go
set_option linter.unusedVariables false
set_option linter.unusedSimpArgs false
section
variable {G : Prg} {pl : Option Nat} {R : Type} {r : R}
theorem callV_pures {rec : Rec G} {i : Nat} {args : List (PV G.E.T)} {H : List (Blk G.E.T)} (hpb : (G.F i).sig.pb = []) (hrb : (G.F i).sig.bare = true)
  (hh : (G.F i).sig.holds G.E = false ∨ ∃ l cs, castAll (G.F i).sig.ps args [] [] H = some (l, cs) ∧ cs.lent = []) : Pures H (PV.idsL args) fun H => callV G rec i H args PK := by
 intro p h' hc
 have key : ∀ H2, Same (PV.idsL args) H H2 → ∀ p h', callV G rec i H args PK = some (p, h') → h' = H ∧ callV G rec i H2 args PK = some (p, H2) := by
  intro H2 hs p h' hc
  unfold callV at hc ⊢
  rw [hpb] at hc ⊢
  rw [castAll_foot hs]
  split at hc
  ·cases hc
  ·cases hc
  ·rename_i a cs h1 h2
   simp only [h2]
   split at hc
   ·cases hc
   ·rename_i q hq
    have fin : ((rec i q).bind fun q => (G.F i).sig.get q fun a L => match rebTs (ρof (places H cs ([] : List BSh).length 0 H.length a.2)) a.1 L with
       | (vs, r) => PK (resV vs) (giveBack (places H cs ([] : List BSh).length 0 H.length a.2) (rebBs (ρof (places H cs ([] : List BSh).length 0 H.length a.2)) 0 a.2 [] r) H)) = some (p, h') →
      h' = H ∧ ((rec i q).bind fun q => (G.F i).sig.get q fun a L => match rebTs (ρof (places H2 cs ([] : List BSh).length 0 H2.length a.2)) a.1 L with
       | (vs, r) => PK (resV vs) (giveBack (places H2 cs ([] : List BSh).length 0 H2.length a.2) (rebBs (ρof (places H2 cs ([] : List BSh).length 0 H2.length a.2)) 0 a.2 [] r) H2)) = some (p, H2) := by
     intro hc
     obtain ⟨q2, h3, h4⟩ := Option.bind_eq_some_iff.1 hc
     rw [h3]
     rw [get_eq] at h4
     rw [Option.bind_some, get_eq]
     have hb := waysBare_mem hrb _ (outWay_mem (q := q2))
     change (outW q2).1.2 = [] at hb
     rw [hb] at h4 ⊢
     simp only [places, giveBack, PK, Option.some.injEq, Prod.mk.injEq] at h4 ⊢
     exact ⟨h4.2.symm, h4.1, trivial⟩
    rcases hh with hh | ⟨l, cs', hh1, hh2⟩
    ·rw [hh] at hc ⊢
     exact fin hc
    ·rw [h1] at hh1
     cases hh1
     rw [hh2] at hc ⊢
     revert hc
     cases (G.F i).sig.holds G.E
     ·exact fin
     ·exact fin
 exact ⟨(key H (fun _ _ => rfl) p h' hc).1, fun H2 hs => (key H2 hs p h' hc).2⟩
theorem vop_pure {rec : Rec G} {ann : Ann} {o : Oper} {σ : St G.E.T} {F : List Nat} (h : kindOf G ann pl o σ = some (.pure F)) : Pures σ.heap F fun H => vop G rec ann pl o ⟨σ.env, H⟩ PK := by
 obtain ⟨dst, op, type, pos, after, guard⟩ := o
 obtain ⟨env, H⟩ := σ
 cases op <;> simp only [kindOf] at h <;> try (cases h; done)
 case alloc t => split at h <;> cases h
 case makeMap t res => split at h <;> cases h
 case makeSlice t l c => split at h <;> cases h
 case buildSlice t m ps =>
  split at h
  ·cases h
  ·split at h <;> cases h
 case move x => simp only [vop]; exact .some _
 case assign x => simp only [vop]; exact .some _
 case pick c a b =>
  simp only [vop]
  split
  ·split
   ·exact .some _
   ·exact .some _
  ·exact .none
 case binOp op t x y yt =>
  simp only [vop]
  exact (Pures.const _).congr fun H => binOpA_k _
 case unOp op t x =>
  simp only [vop]
  exact (Pures.const _).congr fun H => unOpV_k _
 case build t ps =>
  simp only [vop]
  exact (Pures.const _).congr fun H => buildV_k _
 case makeFunc fn first cs =>
  cases fn <;> simp only [vop] <;> try exact .none
  split
  ·exact .some _
  ·exact .none
 case nilCheck x =>
  simp only [vop]
  split <;> first | exact .some _ | exact .none
 case fieldAddr s x f =>
  simp only [vop]
  exact (Pures.const _).congr fun H => fieldAddrV_k _
 case field s x f =>
  simp only [vop]
  split
  ·split
   ·split
    ·exact .some _
    ·exact .none
   ·exact .none
  ·exact .none
 case index t x i =>
  simp only [vop]
  split
  ·split
   ·split
    ·exact .some _
    ·exact .none
   ·exact .none
  ·split
   ·split
    ·split
     ·split
      ·split
       ·exact .some _
       ·exact .none
      ·rename_i l _ _ _ _ _ _ e _ _ _ sz _ _ _ _
       refine (Pures.const (atIx _ _ fun j => (dropL (j * sz) l).bind fun l => packT G e l)).congr fun H => atIx_bind fun j => ?_
       split
       ·rename_i h1; rw [h1, Option.bind_some]; split
        ·rename_i h2; rw [h2]; rfl
        ·rename_i h2; rw [h2]; rfl
       ·rename_i h1; rw [h1]; rfl
     ·exact .none
    ·exact .none
   ·exact .none
  ·exact .none
 case extract x i =>
  simp only [vop]
  split
  ·split
   ·exact .some _
   ·exact .none
  ·exact .none
 case load t a =>
  cases h
  simp only [vop]
  exact (Pures.of (f := fun H => loadV G H t (eval env a) some) fun H2 hs => loadV_foot hs _).congr fun H => loadV_k _
 case lookup t m k okb =>
  cases h
  simp only [vop]
  exact (Pures.of (f := fun H => lookupV G H t (eval env m) (eval env k) okb some) fun H2 hs => lookupV_foot hs _).congr fun H => lookupV_k _
 case indexAddr t x i =>
  cases h
  simp only [vop]
  exact (Pures.of (f := fun H => indexAddrV G H t (eval env x) (eval env i) some) fun H2 hs => indexAddrV_foot hs _).congr fun H => indexAddrV_k _
 case convert src dst x =>
  simp only [vop]
  split at h
  ·cases h
  ·rename_i hd
   cases h
   unfold convertV
   split
   ·split
    ·exact .some _
    ·exact .none
   ·split
    ·exact .some _
    ·exact .none
   ·split
    ·refine (Pures.of (f := fun H => (intsOf H .u8 (eval env x)).bind fun y => some (.str y.1)) fun H2 hs => by show (intsOf H2 _ _).bind _ = _; rw [intsOf_foot hs]).congr fun H => ?_
     cases intsOf H .u8 (eval env x) <;> rfl
    ·exact .none
   ·split
    ·split
     ·exact .some _
     ·exact .none
    ·exact .none
   ·rename_i e1 e2
    exact absurd e2 (hd _)
   ·rename_i e1 e2
    exact absurd e2 (hd _)
   ·exact .none
 case slice t x lo hi mx =>
  simp only [vop]
  split at h
  ·cases h
  ·rename_i hc
   cases h
   split
   ·exact .none
   ·rw [hc]; exact sliceV_pures
 case call c =>
  obtain ⟨callee, args, argTypes⟩ := c
  cases callee with
  | invoke r m => cases h
  | value f =>
   simp only at h
   simp only [vop]
   split at h
   ·rename_i f' caps d e1
    split at h
    ·rename_i i e2
     try rw [e2]
     try simp only
     split
     ·split at h
      ·rename_i p1 p2 p3
       cases h
       exact callV_pures p1 p2 (.inl p3)
      ·split at h
       ·rename_i l cs p4
        split at h
        ·rename_i p1 p2 p5
         cases h
         rw [p1] at p4
         exact callV_pures p1 p2 (.inr ⟨l, cs, p4, p5⟩)
        ·cases h
        ·cases h
       ·cases h
     ·exact .none
    ·cases h
   ·cases h
  | builtin b =>
   cases b <;> simp only at h <;> try (cases h; done)
   case len =>
    simp only [vop]
    split at h
    ·rename_i x ha
     cases h
     split
     ·rename_i x' t tl ha' ht
      rw [ha] at ha'
      simp only [List.cons.injEq, and_true] at ha'
      subst ha'
      exact (Pures.of (f := fun H => lenV G H t (eval env x) some) fun H2 hs => lenV_foot hs _).congr fun H => lenV_k _
     ·exact .none
    ·cases h
   case append =>
    split at h <;> cases h
   case copy =>
    split at h <;> cases h
   case delete =>
    split at h <;> cases h
   case cap =>
    simp only [vop]
    split
    ·split
     ·exact .some _
     ·exact .none
    ·exact .none
   case max =>
    simp only [vop]
    split
    ·split
     ·exact .some _
     ·exact .none
    ·exact .none
   case min =>
    simp only [vop]
    split
    ·split
     ·exact .some _
     ·exact .none
    ·exact .none
/-- what stays -/
def Stays (T : List Nat) (H H' : List (Blk G.E.T)) : Prop := ∀ id, id < H.length → id ∉ T → getL H' id = getL H id
theorem stays_append {T : List Nat} {H : List (Blk G.E.T)} {b : Blk G.E.T} : Stays T H (H ++ [b]) := fun id h _ => getL_append_lt h
theorem stays_refl {T : List Nat} {H : List (Blk G.E.T)} : Stays T H H := fun _ _ _ => rfl
theorem stays_setL {T : List Nat} {H : List (Blk G.E.T)} {id : Nat} {b : Blk G.E.T} (h : id ∈ T) : Stays T H (setL H id b) := fun j _ hj => getL_setL_ne fun e => hj (e ▸ h)
theorem Stays.trans {T : List Nat} {H H' H'' : List (Blk G.E.T)} (h : Stays T H H') (g : Stays T H' H'') (hl : H'.length = H.length) : Stays T H H'' := fun id h1 h2 => by rw [g id (by omega) h2, h id h1 h2]
theorem freezeP_stays {H H' : List (Blk G.E.T)} {p q : PV G.E.T} (h : freezeP H p = some (q, H')) : Stays p.ids H H' ∧ H'.length = H.length := by
 unfold freezeP at h
 split at h
 all_goals first
  | (cases h; exact ⟨stays_refl, rfl⟩)
  | (split at h <;> first
    | (split at h <;> first | (cases h; exact ⟨stays_setL (by simp [PV.ids]), setL_length ..⟩) | (cases h; exact ⟨stays_refl, rfl⟩) | cases h)
    | cases h)
  | cases h
theorem freezePs_stays : ∀ {H H' : List (Blk G.E.T)} {l m : List (PV G.E.T)}, freezePs H l = some (m, H') → Stays (PV.idsL l) H H' ∧ H'.length = H.length
 | H, H', [], m, h => by simp only [freezePs] at h; cases h; exact ⟨stays_refl, rfl⟩
 | H, H', p :: l, m, h => by
  simp only [freezePs] at h
  split at h
  ·rename_i v H1 h1
   split at h
   ·rename_i l' H2 h2
    cases h
    obtain ⟨a1, a2⟩ := freezeP_stays h1
    obtain ⟨b1, b2⟩ := freezePs_stays h2
    refine ⟨fun id hi hn => ?_, by omega⟩
    simp only [PV.idsL, List.mem_append, not_or] at hn
    rw [b1 id (by omega) hn.2, a1 id hi hn.1]
   ·cases h
  ·cases h
theorem cellsP_ids (p : PV G.E.T) : ∀ id, id ∈ PV.idsL (cellsP p) → id ∈ p.ids := by
 intro id h
 cases p <;> simp only [cellsP, PV.idsL, List.append_nil] at h <;> first | exact h | (simpa only [PV.ids] using h)
def idsParts : List (Nat × PV G.E.T) → List Nat
 | [] => []
 | (_, v) :: l => v.ids ++ idsParts l
theorem idsParts_eq {env : List (Nat × PV G.E.T)} : ∀ ps : List (Nat × Operand), idsParts (evalParts env ps) = PV.idsL (evals env (partsOps ps))
 | [] => rfl
 | (i, x) :: l => by simp only [evalParts, idsParts, partsOps, evals, PV.idsL]; rw [idsParts_eq l]
theorem partRows_stays {i : Nat} : ∀ {n : Nat} {H H' : List (Blk G.E.T)} {l : List (Nat × PV G.E.T)} {xs : List (G.E.T i)}, partRows G i n H l = some (xs, H') → Stays (idsParts l) H H' ∧ H'.length = H.length
 | n, H, H', [], xs, h => by simp only [partRows] at h; cases h; exact ⟨stays_refl, rfl⟩
 | n, H, H', (j, v) :: l, xs, h => by
  simp only [partRows] at h
  split at h
  ·split at h
   ·rename_i cells H1 h1
    split at h
    ·split at h
     ·rename_i r H2 h2
      cases h
      obtain ⟨a1, a2⟩ := freezePs_stays h1
      obtain ⟨b1, b2⟩ := partRows_stays h2
      refine ⟨fun id hi hn => ?_, by omega⟩
      simp only [idsParts, List.mem_append, not_or] at hn
      rw [b1 id (by omega) hn.2, a1 id hi fun e => hn.1 (cellsP_ids v id e)]
     ·cases h
    ·cases h
   ·cases h
  ·cases h
theorem lookB_olds : ∀ {l : List (Nat × Option Nat)} {j a : Nat}, lookB j l = some (some a) → a ∈ olds l
 | [], j, a, h => by simp [lookB] at h
 | (u, v) :: r, j, a, h => by
  simp only [lookB] at h
  split at h
  ·cases h; simp [olds]
  ·have := lookB_olds h
   cases v <;> simp [olds, this]
theorem giveBack_stays {id : Nat} : ∀ (ps : List (Nat × Nat)) (l H : List (Blk G.E.T)), (∀ p ∈ ps, p.1 ≠ id) → id < H.length → getL (giveBack ps l H) id = getL H id
 | [], l, H, _, _ => by simp only [giveBack]
 | p :: ps, [], H, _, _ => by simp only [giveBack]
 | p :: ps, b :: l, H, h, hlt => by
  simp only [giveBack]
  split
  ·rw [giveBack_stays ps l _ (fun q hq => h q (List.mem_cons_of_mem _ hq)) (by rw [setL_length]; exact hlt), getL_setL_ne fun e => h p (List.mem_cons_self ..) e.symm]
  ·rw [giveBack_stays ps l _ (fun q hq => h q (List.mem_cons_of_mem _ hq)) (by simp; omega), getL_append_lt hlt]
theorem places_mem {heap : List (Blk G.E.T)} {cs : CS} {m : Nat} : ∀ (bs : List BSh) (j n : Nat) (p : Nat × Nat), p ∈ places heap cs m j n bs → p.1 ∈ olds cs.bind ∨ n ≤ p.1
 | [], j, n, p, h => by simp [places] at h
 | b :: l, j, n, p, h => by
  simp only [places] at h
  split at h
  ·rename_i a h1 h2
   rcases List.mem_cons.1 h with rfl | h
   ·refine .inl ?_
    have := lookB_olds h2
    split <;> exact this
   ·exact places_mem l _ _ p h
  ·rcases List.mem_cons.1 h with rfl | h
   ·exact .inr (Nat.le_refl _)
   ·exact (places_mem l _ _ p h).imp id fun h => by omega
theorem callV_stays {rec : Rec G} {i : Nat} {H H' : List (Blk G.E.T)} {args : List (PV G.E.T)} {l : List (LV G.E.T)} {cs : CS} (hc : castAll (G.F i).sig.ps args (G.F i).sig.pb [] H = some (l, cs)) {p : PV G.E.T} (h : callV G rec i H args PK = some (p, H')) : Stays (olds cs.bind ++ cs.lent) H H' := by
 unfold callV at h
 rw [hc] at h
 split at h
 ·rename_i e; cases e
 ·cases h
 ·rename_i a cs' e1 e2
  cases e1
  split at h
  ·cases h
  ·split at h
   ·cases h
   ·rename_i heap' hh
    obtain ⟨q, hq, hK⟩ := Option.bind_eq_some_iff.1 h
    rw [get_eq] at hK
    cases hK
    have hlen : heap'.length = H.length ∧ ∀ id, id ∉ cs.lent → getL heap' id = getL H id := by
     split at hh
     ·have hf := freezeIds_spec hh
      refine ⟨hf.len, fun id hn => ?_⟩
      cases hb : getL H id with
      | none =>
       have : H.length ≤ id := by
        rcases Nat.lt_or_ge id H.length with h1 | h1
        ·obtain ⟨b, hb'⟩ := getL_some_of_lt h1
         rw [hb] at hb'; cases hb'
        ·exact h1
       rw [getL_eq, List.getElem?_eq_none (by rw [hf.len]; exact this)]
      | some b =>
       obtain ⟨b', h1, h2⟩ := hf.at_ id b hb
       rcases h2 with ⟨rfl, _⟩ | ⟨_, _, _, _, h3⟩
       ·exact h1
       ·exact absurd h3 hn
     ·cases hh; exact ⟨rfl, fun _ _ => rfl⟩
    intro id hlt hn
    rw [List.mem_append, not_or] at hn
    rw [giveBack_stays _ _ _ (fun p hp e => ?_) (by rw [hlen.1]; exact hlt), hlen.2 id hn.2]
    rcases places_mem _ _ _ p hp with h1 | h1
    ·exact hn.1 (e ▸ h1)
    ·omega
theorem subOf_ids {H : List (Blk G.E.T)} {p : PV G.E.T} : (subOf H p).ids = p.ids := by
 unfold subOf
 (repeat' split) <;> rfl
theorem subOf_foot {H H2 : List (Blk G.E.T)} {p : PV G.E.T} (h : Same p.ids H H2) : subOf H2 p = subOf H p := by
 cases p <;> simp only [subOf]
 rw [h _ (by simp [PV.ids])]
theorem vop_eff {rec : Rec G} {ann : Ann} {o : Oper} {σ : St G.E.T} {T : List Nat} {n : Nat} (h : kindOf G ann pl o σ = some (.eff T n)) {p : PV G.E.T} {H' : List (Blk G.E.T)} (hv : vop G rec ann pl o σ PK = some (p, H')) :
  n = σ.heap.length ∧ Stays T σ.heap H' := by
 obtain ⟨dst, op, type, pos, after, guard⟩ := o
 obtain ⟨env, H⟩ := σ
 cases op <;> simp only [kindOf] at h <;> try (cases h; done)
 case alloc t => split at h <;> cases h
 case makeMap t res => split at h <;> cases h
 case makeSlice t l c => split at h <;> cases h
 case buildSlice t m ps =>
  split at h
  rotate_left
  ·split at h <;> cases h
  cases h
  refine ⟨rfl, ?_⟩
  simp only [vop] at hv
  unfold buildSliceV at hv
  split at hv
  ·split at hv
   ·split at hv
    ·split at hv
     ·cases hv; exact stays_append
     ·cases hv
    ·cases hv
   ·split at hv
    ·rename_i xs H1 h1
     split at hv
     ·cases hv
      obtain ⟨a1, a2⟩ := partRows_stays h1
      rw [idsParts_eq] at a1
      intro id hi hn
      simp only [plPut]
      rw [getL_append_lt (by simp only at hi; omega), a1 id hi hn]
     ·cases hv
    ·cases hv
   ·cases hv
  ·cases hv
 case store t a x =>
  cases h
  refine ⟨rfl, ?_⟩
  simp only [vop] at hv
  unfold storeV at hv
  split at hv
  ·cases hv
  ·split at hv
   ·cases hv
   ·cases hv
   ·split at hv
    ·rename_i id off e
     split at hv
     ·split at hv
      ·cases hv
       exact stays_setL (by rw [e]; simp [storeIds])
      ·cases hv
     ·cases hv
    ·rename_i id ep i fld e
     have hid : id ∈ storeIds (eval env a) (eval env x) := by rw [e]; simp [storeIds, PV.ids]
     split at hv
     ·split at hv
      ·split at hv
       ·cases hv; exact stays_setL hid
       ·cases hv
      ·cases hv
     ·split at hv
      ·rename_i cells H1 hfr
       obtain ⟨a1, a2⟩ := freezePs_stays hfr
       split at hv
       ·split at hv
        ·obtain ⟨y, hy, hv⟩ := Option.bind_eq_some_iff.1 hv
         split at hv
         ·split at hv
          ·cases hv
           refine Stays.trans (fun j hj hn => a1 j hj fun e' => hn (by rw [e]; exact List.mem_append_right _ (cellsP_ids _ j e'))) (stays_setL hid) a2
          ·cases hv
         ·cases hv
        ·cases hv
       ·cases hv
      ·cases hv
     ·cases hv
    ·rename_i id off n i e
     split at hv
     ·split at hv
      ·split at hv
       ·split at hv
        ·cases hv
         exact stays_setL (by rw [e]; simp [storeIds])
        ·cases hv
       ·cases hv
      ·cases hv
     ·cases hv
    ·cases hv
 case mapUpdate t m k x =>
  cases h
  refine ⟨rfl, ?_⟩
  simp only [vop] at hv
  unfold mapUpdV at hv
  split at hv
  ·rename_i id e
   have hid : id ∈ (eval env m).ids ++ (eval env x).ids := by rw [e]; simp [PV.ids]
   split at hv
   ·split at hv
    ·cases hv; exact stays_refl
    ·cases hv
   ·split at hv
    ·rename_i cells H1 _ hfr
     obtain ⟨a1, a2⟩ := freezePs_stays hfr
     split at hv
     ·split at hv
      ·cases hv
       refine Stays.trans (fun j hj hn => a1 j hj fun e' => hn (List.mem_append_right _ (cellsP_ids _ j e'))) (stays_setL hid) a2
      ·cases hv
     ·cases hv
    ·cases hv
   ·cases hv
  ·cases hv
 case convert src dst x =>
  split at h
  ·cases h
   refine ⟨rfl, ?_⟩
   simp only [vop] at hv
   unfold convertV at hv
   split at hv
   ·split at hv <;> cases hv; exact stays_refl
   ·split at hv <;> cases hv; exact stays_refl
   ·split at hv
    ·split at hv <;> cases hv; exact stays_refl
    ·cases hv
   ·split at hv
    ·split at hv <;> cases hv; exact stays_refl
    ·cases hv
   ·split at hv
    ·cases hv; exact stays_append
    ·cases hv
   ·split at hv
    ·rename_i id ep _ _ e
     split at hv
     ·split at hv
      ·split at hv
       ·cases hv; exact stays_setL (by rw [e]; simp [PV.ids])
       ·cases hv
      ·cases hv
     ·cases hv
    ·cases hv
   ·cases hv
  ·cases h
 case slice t x lo hi mx => split at h <;> cases h
 case call c =>
  obtain ⟨callee, args, argTypes⟩ := c
  cases callee with
  | invoke r m => cases h
  | value f =>
   simp only at h
   split at h
   ·rename_i f' caps d e1
    split at h
    ·rename_i i e2
     split at h
     ·cases h
     ·split at h
      ·rename_i l cs p4
       split at h
       ·cases h
       ·cases h
       ·cases h
        refine ⟨rfl, ?_⟩
        simp only [vop] at hv
        rw [e1] at hv
        simp only at hv
        split at hv
        ·rename_i i' e3
         rw [e2] at e3; cases e3
         split at hv
         ·exact callV_stays p4 hv
         ·cases hv
        ·rename_i e3
         rw [e2] at e3; cases e3
      ·cases h
    ·cases h
   ·cases h
  | builtin b =>
   cases b <;> simp only at h <;> try (cases h; done)
   case len => split at h <;> cases h
   case append => split at h <;> cases h
   case delete =>
    split at h
    ·rename_i m k ha
     cases h
     refine ⟨rfl, ?_⟩
     simp only [vop] at hv
     rw [ha] at hv
     split at hv
     ·rename_i m' k' t tl ha' ht
      simp only [List.cons.injEq, and_true] at ha'
      obtain ⟨rfl, rfl⟩ := ha'
      unfold deleteV at hv
      split at hv
      ·rename_i id e
       split at hv
       ·split at hv
        ·cases hv
         exact stays_setL (by rw [e]; simp [PV.ids])
        ·cases hv
       ·cases hv
      ·cases hv
     ·cases hv
    ·cases h
   case copy =>
    split at h
    ·rename_i s x ha
     cases h
     refine ⟨rfl, ?_⟩
     simp only [vop] at hv
     rw [ha] at hv
     split at hv
     ·rename_i s' x' t tx ha' ht
      simp only [List.cons.injEq, and_true] at ha'
      obtain ⟨rfl, rfl⟩ := ha'
      unfold copyV at hv
      split at hv
      ·cases hv
      ·split at hv
       ·split at hv
        ·rename_i ys l id ep off len e1 e2
         split at hv
         ·split at hv
          ·cases hv
           exact stays_setL (by rw [← subOf_ids (H := H), e2]; simp [PV.ids])
          ·cases hv
         ·cases hv
        ·cases hv
       ·cases hv
     ·cases hv
    ·cases h
/-! ### Whose reading is known -/
/-- on other blocks that are the same where it reads and writes, it does the same there -/
def Frames (T : List Nat) (n : Nat) (H' H2 H2' : List (Blk G.E.T)) : Prop := ∀ id, getL H2' id = if id ∈ T ∨ n ≤ id then getL H' id else getL H2 id
theorem getL_append_right {α : Type} {l m : List α} {i : Nat} (h : l.length ≤ i) : getL (l ++ m) i = getL m (i - l.length) := by
 rw [getL_eq, getL_eq, List.getElem?_append_right h]
theorem frames_append {T : List Nat} {H H2 : List (Blk G.E.T)} {b : Blk G.E.T} (hl : H2.length = H.length) (hT : Same T H H2) (hlt : ∀ id ∈ T, id < H.length) : Frames T H.length (H ++ [b]) H2 (H2 ++ [b]) := by
 intro id
 by_cases h1 : H.length ≤ id
 ·rw [if_pos (.inr h1), getL_append_right h1, getL_append_right (by omega), hl]
 ·rw [getL_append_lt (by omega)]
  split
  ·rename_i h2
   rcases h2 with h2 | h2
   ·rw [getL_append_lt (by omega), hT id h2]
   ·omega
  ·rfl
theorem frames_setL {T : List Nat} {H H2 : List (Blk G.E.T)} {i : Nat} {b : Blk G.E.T} (hl : H2.length = H.length) (hT : Same T H H2) (hi : i ∈ T) {b0 : Blk G.E.T} (hb0 : getL H i = some b0) : Frames T H.length (setL H i b) H2 (setL H2 i b) := by
 intro id
 by_cases e : id = i
 ·subst e
  rw [if_pos (.inl hi), getL_setL hb0, getL_setL (by rw [hT id hi]; exact hb0)]
 ·rw [getL_setL_ne e, getL_setL_ne e]
  split
  ·rename_i h2
   rcases h2 with h2 | h2
   ·rw [hT id h2]
   ·rw [getL_none h2, getL_none (by omega)]
  ·rfl
theorem freezeIds_frames : ∀ {l : List Nat} {H H' H2 : List (Blk G.E.T)}, freezeIds H l = some H' → Same l H H2 → ∃ H2', freezeIds H2 l = some H2' ∧ H2'.length = H2.length ∧ H'.length = H.length ∧ ∀ id, getL H2' id = if id ∈ l then getL H' id else getL H2 id
 | [], H, H', H2, h, hs => by
  simp only [freezeIds] at h; cases h
  exact ⟨H2, rfl, rfl, rfl, fun id => by simp⟩
 | i :: l, H, H', H2, h, hs => by
  have hi := hs i (List.mem_cons_self ..)
  have same : ∀ {b b0 : Blk G.E.T}, getL H i = some b0 → Same l (setL H i b) (setL H2 i b) := by
   intro b b0 hb0 id hid
   by_cases e : id = i
   ·subst e; rw [getL_setL hb0, getL_setL (by rw [hi]; exact hb0)]
   ·rw [getL_setL_ne e, getL_setL_ne e]; exact hs id (List.mem_cons_of_mem _ hid)
  have fin : ∀ {b b0 : Blk G.E.T}, getL H i = some b0 → freezeIds (setL H i b) l = some H' → ∃ H2', freezeIds (setL H2 i b) l = some H2' ∧ H2'.length = H2.length ∧ H'.length = H.length ∧ ∀ id, getL H2' id = if id ∈ i :: l then getL H' id else getL H2 id := by
   intro b b0 hb0 h
   obtain ⟨H2', q1, q2, q3, q4⟩ := freezeIds_frames h (same hb0)
   have hf := (freezeIds_spec h).at_ i b (getL_setL hb0)
   refine ⟨H2', q1, by rw [q2, setL_length], by rw [q3, setL_length], fun id => ?_⟩
   rw [q4 id]
   by_cases e : id ∈ l
   ·rw [if_pos e, if_pos (List.mem_cons_of_mem _ e)]
   ·rw [if_neg e]
    by_cases e' : id = i
    ·subst e'
     rw [if_pos (List.mem_cons_self ..), getL_setL (by rw [hi]; exact hb0)]
     obtain ⟨b', g1, g2⟩ := hf
     rcases g2 with ⟨rfl, _⟩ | ⟨_, _, _, _, g3⟩
     ·exact g1.symm
     ·exact absurd g3 e
    ·rw [if_neg (by simp [e, e']), getL_setL_ne e']
  have keep : ∀ {b0 : Blk G.E.T}, getL H i = some b0 → freezeIds H l = some H' → b0.frozen = true → ∃ H2', freezeIds H2 l = some H2' ∧ H2'.length = H2.length ∧ H'.length = H.length ∧ ∀ id, getL H2' id = if id ∈ i :: l then getL H' id else getL H2 id := by
   intro b0 hb0 h hfr
   obtain ⟨H2', q1, q2, q3, q4⟩ := freezeIds_frames h (fun id hid => hs id (List.mem_cons_of_mem _ hid))
   have hf := (freezeIds_spec h).at_ i b0 hb0
   refine ⟨H2', q1, q2, q3, fun id => ?_⟩
   rw [q4 id]
   by_cases e : id ∈ l
   ·rw [if_pos e, if_pos (List.mem_cons_of_mem _ e)]
   ·rw [if_neg e]
    by_cases e' : id = i
    ·subst e'
     rw [if_pos (List.mem_cons_self ..), hi, hb0]
     obtain ⟨b', g1, g2⟩ := hf
     rcases g2 with ⟨rfl, _⟩ | ⟨_, _, _, _, g3⟩
     ·exact g1.symm
     ·exact absurd g3 e
    ·rw [if_neg (by simp [e, e'])]
  simp only [freezeIds] at h ⊢
  rw [hi]
  split at h
  ·rename_i hb; exact fin hb h
  ·rename_i hb; exact fin hb h
  ·rename_i hb; exact keep hb h rfl
  ·rename_i hb; exact keep hb h rfl
  ·cases h
theorem places_new {H : List (Blk G.E.T)} {cs : CS} : ∀ (bs : List BSh) (j n : Nat), places H cs 0 j n bs = (List.range bs.length).map fun q => (n + q, 0)
 | [], j, n => rfl
 | b :: l, j, n => by
  have : Nat.blt j 0 = false := by
   rcases hq : Nat.blt j 0 with _ | _
   ·rfl
   ·have := blt_iff.1 hq; omega
  simp only [places, this]
  rw [places_new l, List.length_cons, List.range_succ_eq_map, List.map_cons, List.map_map]
  simp only [Nat.add_zero, List.cons.injEq, true_and]
  refine List.map_congr_left fun q _ => ?_
  simp only [Function.comp, Prod.mk.injEq, and_true]
  omega
theorem giveBack_new : ∀ (l H : List (Blk G.E.T)) (m : Nat), l.length = m → giveBack ((List.range m).map fun q => (H.length + q, 0)) l H = H ++ l
 | [], H, m, h => by subst h; simp [giveBack]
 | b :: l, H, m, h => by
  subst h
  rw [List.length_cons, List.range_succ_eq_map, List.map_cons, List.map_map]
  simp only [giveBack, Nat.add_zero]
  have : Nat.blt H.length H.length = false := by
   rcases hq : Nat.blt H.length H.length with _ | _
   ·rfl
   ·have := blt_iff.1 hq; omega
  rw [this]
  simp only
  have := giveBack_new l (H ++ [b]) l.length rfl
  rw [List.append_assoc, List.singleton_append] at this
  rw [← this]
  congr 1
  refine List.map_congr_left fun q _ => ?_
  simp only [Function.comp, Prod.mk.injEq, and_true, List.length_append, List.length_singleton]
  omega
theorem callV_frames {rec : Rec G} {i : Nat} {H H' H2 : List (Blk G.E.T)} {args : List (PV G.E.T)} (hpb : (G.F i).sig.pb = []) {l : List (LV G.E.T)} {cs : CS} (hc : castAll (G.F i).sig.ps args (G.F i).sig.pb [] H = some (l, cs)) {p : PV G.E.T} (h : callV G rec i H args PK = some (p, H'))
  (hl : H2.length = H.length) (hF : Same (PV.idsL args) H H2) (hT : Same (olds cs.bind ++ cs.lent) H H2) : ∃ H2', callV G rec i H2 args PK = some (p, H2') ∧ Frames (olds cs.bind ++ cs.lent) H.length H' H2 H2' := by
 have hc2 : castAll (G.F i).sig.ps args (G.F i).sig.pb [] H2 = some (l, cs) := by rw [hpb] at hc ⊢; rw [castAll_foot hF]; exact hc
 unfold callV at h ⊢
 rw [hc] at h
 rw [hc2]
 split at h
 ·rename_i e; cases e
 ·cases h
 ·rename_i a cs' e1 e2
  cases e1
  try rw [e2]
  try simp only
  split at h
  ·cases h
  ·rename_i q0 hq0
   try simp only
   split at h
   ·cases h
   ·rename_i heap' hh
    obtain ⟨q, hq, hK⟩ := Option.bind_eq_some_iff.1 h
    rw [get_eq] at hK
    have fin : ∀ heap2 : List (Blk G.E.T), heap2.length = H2.length → heap'.length = H.length → (∀ id, getL heap2 id = if id ∈ cs.lent then getL heap' id else getL H2 id) → (∀ id, id ∉ cs.lent → getL heap' id = getL H id) →
      ∃ H2', ((rec i q0).bind fun q => (G.F i).sig.get q fun a L => PK (resV (rebTs (ρof (places H2 cs (G.F i).sig.pb.length 0 H2.length a.2)) a.1 L).1)
       (giveBack (places H2 cs (G.F i).sig.pb.length 0 H2.length a.2) (rebBs (ρof (places H2 cs (G.F i).sig.pb.length 0 H2.length a.2)) 0 a.2 [] (rebTs (ρof (places H2 cs (G.F i).sig.pb.length 0 H2.length a.2)) a.1 L).2) heap2)) = some (p, H2') ∧
      Frames (olds cs.bind ++ cs.lent) H.length H' H2 H2' := by
     intro heap2 g2 g3 g4 g5
     rw [hq, Option.bind_some, get_eq]
     have hm : (G.F i).sig.pb.length = 0 := by rw [hpb]; rfl
     rw [hm] at hK ⊢
     simp only [places_new] at hK ⊢
     rw [hl]
     have e0 : H.length = heap'.length := g3.symm
     rw [e0] at hK ⊢
     cases hK
     refine ⟨_, rfl, fun id => ?_⟩
     rw [giveBack_new _ heap' _ (rebBs_length ..)]
     have e3 : ∀ bl : List (Blk G.E.T), giveBack ((List.range (outW q).1.2.length).map fun q => (heap'.length + q, 0)) bl heap2 = giveBack ((List.range (outW q).1.2.length).map fun q => (heap2.length + q, 0)) bl heap2 := fun bl => by rw [show heap'.length = heap2.length by omega]
     rw [e3, giveBack_new _ heap2 _ (rebBs_length ..)]
     by_cases h1 : heap'.length ≤ id
     ·rw [if_pos (.inr h1), getL_append_right h1, getL_append_right (by omega), show heap'.length = heap2.length by omega]
     ·rw [getL_append_lt (by omega), getL_append_lt (by omega), g4 id]
      by_cases h2 : id ∈ cs.lent
      ·rw [if_pos h2, if_pos (.inl (List.mem_append_right _ h2))]
      ·rw [if_neg h2]
       split
       ·rename_i h3
        rcases h3 with h3 | h3
        ·rw [List.mem_append] at h3
         rw [hT id (List.mem_append_left _ (h3.resolve_right h2)), g5 id h2]
        ·omega
       ·rfl
    cases hb : (G.F i).sig.holds G.E with
    | true =>
     rw [hb] at hh
     simp only at hh ⊢
     obtain ⟨H3, q1, q2, q3, q4⟩ := freezeIds_frames hh (fun id hid => hT id (List.mem_append_right _ hid))
     rw [q1]
     refine fin H3 q2 q3 q4 fun id hn => ?_
     obtain ⟨_, q5⟩ := freezeIds_spec hh
     cases hb : getL H id with
     | none =>
      have : H.length ≤ id := by
       rcases Nat.lt_or_ge id H.length with h1 | h1
       ·obtain ⟨b, hb'⟩ := getL_some_of_lt h1
        rw [hb] at hb'; cases hb'
       ·exact h1
      rw [getL_none (by omega)]
     | some b =>
      obtain ⟨b', r1, r2⟩ := q5 id b hb
      rcases r2 with ⟨rfl, _⟩ | ⟨_, _, _, _, r3⟩
      ·exact r1
      ·exact absurd r3 hn
    | false =>
     rw [hb] at hh
     simp only at hh ⊢
     cases hh
     refine fin H2 rfl rfl (fun id => ?_) fun _ _ => rfl
     split
     ·rename_i e'; exact hT id (List.mem_append_right _ e')
     ·rfl
theorem moreInts_foot {H H2 : List (Blk G.E.T)} {k : IntKind} {x : PV G.E.T} (h : Same x.ids H H2) : moreInts H2 k x = moreInts H k x := by
 unfold moreInts
 split
 ·rfl
 ·rw [intsOf_foot h]
theorem appendZ_frames {t : TypeId} {s x : PV G.E.T} {H H' : List (Blk G.E.T)} {p : PV G.E.T} (h : appendZ G H t s x PK = some (p, H')) :
  Stays s.ids H H' ∧ ∀ H2 : List (Blk G.E.T), H2.length = H.length → Same s.ids H H2 → ∃ H2', appendZ G H2 t s x PK = some (p, H2') ∧ Frames s.ids H.length H' H2 H2' := by
 unfold appendZ at h ⊢
 split at h
 ·cases h
 ·split at h
  ·split at h
   ·split at h
    ·rename_i hc
     cases h
     refine ⟨stays_append, fun H2 hl hs => ⟨_, ?_, frames_append hl hs (fun id h => by simp [PV.ids] at h)⟩⟩
     (try simp only); rw [if_pos hc, hl]; try rfl
    ·cases h
   ·cases h
  ·cases h
theorem appendV_frames {t : TypeId} {s x : PV G.E.T} {H H' H2 : List (Blk G.E.T)} {p : PV G.E.T} (h : appendV G H t s x PK = some (p, H')) (hl : H2.length = H.length) (hs : Same s.ids H H2) (hx : Same x.ids H H2) :
  Stays s.ids H H' ∧ ∃ H2', appendV G H2 t s x PK = some (p, H2') ∧ Frames s.ids H.length H' H2 H2' := by
 unfold appendV at h ⊢
 split at h
 ·cases h
 ·rename_i e he
  split at h
  ·rename_i b k hb hk
   try simp only
   rw [moreInts_foot hx]
   split at h
   ·cases h
   ·rename_i ys hy
    try simp only
    split at h
    ·split at h
     ·rename_i hc
      cases h
      refine ⟨stays_append, _, ?_, frames_append hl hs (fun id h => by simp [PV.ids] at h)⟩
      (try simp only); rw [if_pos hc, hl]; try rfl
     ·cases h
    ·rename_i id ep
     split at h
     ·rename_i k' ep' xs hg
      split at h
      ·rename_i h1 h2
       split at h
       ·rename_i hc
        cases h
        have hid : id ∈ (PV.arr (T := G.E.T) id ep).ids := by simp [PV.ids]
        refine ⟨stays_setL hid, _, ?_, frames_setL hl hs hid hg⟩
        try simp only
        rw [hs id hid, hg]
        try simp only
        rw [h1, h2]
        try simp only
        rw [if_pos hc]; try rfl
       ·cases h
      ·cases h
     ·cases h
    ·cases h
  ·rename_i b i hb hi
   try simp only
   rw [rowsOf_foot hx]
   split at h
   ·cases h
   ·rename_i ys _ hy
    try simp only
    split at h
    ·split at h
     ·rename_i hc
      cases h
      refine ⟨stays_append, _, ?_, frames_append hl hs (fun id h => by simp [PV.ids] at h)⟩
      (try simp only); rw [if_pos hc, hl]; try rfl
     ·cases h
    ·rename_i id ep
     split at h
     ·rename_i j ep' xs hg
      split at h
      ·rename_i h1
       split at h
       ·rename_i hji
        split at h
        ·rename_i hc
         cases h
         have hid : id ∈ (PV.arr (T := G.E.T) id ep).ids := by simp [PV.ids]
         refine ⟨stays_setL hid, _, ?_, frames_setL hl hs hid hg⟩
         try simp only
         rw [hs id hid, hg]
         try simp only
         rw [h1]
         try simp only
         rw [dif_pos hji, if_pos hc]; try rfl
        ·cases h
       ·cases h
      ·cases h
     ·cases h
    ·cases h
  ·cases h
theorem vop_effp {rec : Rec G} {ann : Ann} {o : Oper} {env : List (Nat × PV G.E.T)} {H : List (Blk G.E.T)} {F T : List Nat} {n : Nat} (h : kindOf G ann pl o ⟨env, H⟩ = some (.effp F T n)) {p : PV G.E.T} {H' : List (Blk G.E.T)} (hv : vop G rec ann pl o ⟨env, H⟩ PK = some (p, H')) :
  n = H.length ∧ Stays T H H' ∧ ∀ H2, H2.length = H.length → Same F H H2 → Same T H H2 → ∃ H2', vop G rec ann pl o ⟨env, H2⟩ PK = some (p, H2') ∧ Frames T n H' H2 H2' := by
 obtain ⟨dst, op, type, pos, after, guard⟩ := o
 cases op <;> simp only [kindOf] at h <;> try (cases h; done)
 case alloc t =>
  split at h <;> cases h
  simp only [vop] at hv
  split at hv
  ·rename_i z hz hpl
   cases hv
   refine ⟨rfl, stays_append, fun H2 hl hF hT => ⟨H2 ++ [allocB z 0], ?_, ?_⟩⟩
   ·simp only [vop]
    rw [hz]
    simp only [plOk, plId, plPut, plEp, PK, hl]
   ·show Frames [] H.length (H ++ [allocB z 0]) H2 (H2 ++ [allocB z 0])
    exact frames_append hl hT (fun id h => by cases h)
  ·cases hv
 case box t x =>
  cases h
  simp only [vop] at hv
  split at hv
  ·rename_i hall
   cases hv
   refine ⟨rfl, stays_append, fun H2 hl hF hT => ⟨H2 ++ [.box .own (cellsP (eval env x))], ?_, ?_⟩⟩
   ·simp only [vop]
    rw [hall]
    simp only [PK, hl]
   ·show Frames [] H.length (H ++ [.box .own (cellsP (eval env x))]) H2 (H2 ++ [.box .own (cellsP (eval env x))])
    exact frames_append hl hT (fun id h => by cases h)
  ·cases hv
 case makeMap t res =>
  split at h <;> cases h
  cases res with
  | some _ => simp only [vop] at hv; cases hv
  | none =>
   simp only [vop] at hv
   unfold makeMapV at hv
   split at hv
   ·rename_i k e h1
    split at hv
    ·rename_i k' h2 hpl
     split at hv
     ·rename_i k3 e1 e2
      cases hv
      refine ⟨rfl, stays_append, fun H2 hl hF hT => ⟨H2 ++ [.mp .own k3], ?_, ?_⟩⟩
      ·simp only [vop, makeMapV, h1, h2, e1, e2, plOk, plId, plPut, PK, hl]
      ·show Frames [] H.length (H ++ [.mp .own k3]) H2 (H2 ++ [.mp .own k3])
       exact frames_append hl hT (fun id h => by cases h)
     ·rename_i i k3 e1 e2
      cases hv
      refine ⟨rfl, stays_append, fun H2 hl hF hT => ⟨H2 ++ [.mpr .own k3 i []], ?_, ?_⟩⟩
      ·simp only [vop, makeMapV, h1, h2, e1, e2, plOk, plId, plPut, PK, hl]
      ·show Frames [] H.length (H ++ [.mpr .own k3 i []]) H2 (H2 ++ [.mpr .own k3 i []])
       exact frames_append hl hT (fun id h => by cases h)
     ·cases hv
    ·cases hv
   ·cases hv
 case makeSlice t l c =>
  split at h <;> cases h
  simp only [vop] at hv
  unfold makeSliceV at hv
  split at hv
  ·rename_i _ e l' c' h1 h2 h3 h4
   split at hv
   ·rename_i b k h5 h6
    split at hv
    ·rename_i hc
     cases hv
     refine ⟨rfl, stays_append, fun H2 hl hF hT => ⟨H2 ++ [.ints .own k 0 (List.replicate l'.toNat 0)], ?_, ?_⟩⟩
     ·simp only [vop, makeSliceV, h1, h2, h3, h5, h6, plOk, plId, plPut, plEp, PK, hc, hl, and_self, if_true]
     ·show Frames [] H.length (H ++ [.ints .own k 0 (List.replicate l'.toNat 0)]) H2 (H2 ++ [.ints .own k 0 (List.replicate l'.toNat 0)])
      exact frames_append hl hT (fun id h => by cases h)
    ·cases hv
   ·rename_i b i h5 h6
    split at hv
    ·rename_i z h7
     split at hv
     ·rename_i x h8
      split at hv
      ·rename_i hc
       cases hv
       refine ⟨rfl, stays_append, fun H2 hl hF hT => ⟨H2 ++ [.rows .own i 0 (List.replicate l'.toNat x)], ?_, ?_⟩⟩
       ·simp only [vop, makeSliceV, h1, h2, h3, h5, h6, h7, h8, plOk, plId, plPut, plEp, PK, hc, hl, and_self, if_true]
       ·show Frames [] H.length (H ++ [.rows .own i 0 (List.replicate l'.toNat x)]) H2 (H2 ++ [.rows .own i 0 (List.replicate l'.toNat x)])
        exact frames_append hl hT (fun id h => by cases h)
      ·cases hv
     ·cases hv
    ·cases hv
   ·cases hv
  ·cases hv
 case buildSlice t m ps =>
  split at h
  ·cases h
  ·split at h <;> cases h
 case convert src dst x => split at h <;> cases h
 case slice t x lo hi mx => split at h <;> cases h
 case call c =>
  obtain ⟨callee, args, argTypes⟩ := c
  cases callee with
  | invoke r m => cases h
  | value f =>
   simp only at h
   split at h
   ·rename_i f' caps d e1
    split at h
    ·rename_i i e2
     split at h
     ·cases h
     ·split at h
      ·rename_i l cs p4
       split at h
       ·cases h
       ·rename_i hpb _
        cases h
        simp only [vop] at hv
        rw [e1] at hv
        simp only at hv
        split at hv
        ·rename_i i' e3
         rw [e2] at e3; cases e3
         split at hv
         ·rename_i hfid
          refine ⟨rfl, callV_stays p4 hv, fun H2 hl hF hT => ?_⟩
          obtain ⟨H2', q1, q2⟩ := callV_frames hpb p4 hv hl hF hT
          refine ⟨H2', ?_, q2⟩
          simp only [vop, e1, e2, hfid]
          exact q1
         ·cases hv
        ·rename_i e3
         rw [e2] at e3; cases e3
       ·cases h
      ·cases h
    ·cases h
   ·cases h
  | builtin b =>
   cases b <;> simp only at h <;> try (cases h; done)
   case len => split at h <;> cases h
   case delete => split at h <;> cases h
   case copy => split at h <;> cases h
   case append =>
    split at h
    ·rename_i s x ha
     cases h
     simp only [vop] at hv
     split at hv
     ·rename_i s' x' t tx ha' ht
      rw [ha] at ha'
      simp only [List.cons.injEq, and_true] at ha'
      obtain ⟨rfl, rfl⟩ := ha'
      split at hv
      ·rename_i e h1
       refine ⟨rfl, (appendV_frames hv rfl (fun _ _ => rfl) (fun _ _ => rfl)).1, fun H2 hl hF hT => ?_⟩
       obtain ⟨H2', q1, q2⟩ := (appendV_frames hv hl hT (fun id hid => hF id (List.mem_append_right _ hid))).2
       exact ⟨H2', by simp only [vop, ha, ht, h1]; exact q1, q2⟩
      ·rename_i h1
       refine ⟨rfl, (appendV_frames hv rfl (fun _ _ => rfl) (fun _ _ => rfl)).1, fun H2 hl hF hT => ?_⟩
       obtain ⟨H2', q1, q2⟩ := (appendV_frames hv hl hT (fun id hid => hF id (List.mem_append_right _ hid))).2
       exact ⟨H2', by simp only [vop, ha, ht, h1]; exact q1, q2⟩
      ·rename_i k h1
       have e0 : (fun (p : PV G.E.T) (h : List (Blk G.E.T)) => PK p h) = PK := rfl
       obtain ⟨q0, q1⟩ := appendZ_frames hv
       refine ⟨rfl, q0, fun H2 hl hF hT => ?_⟩
       obtain ⟨H2', q2, q3⟩ := q1 H2 hl hT
       exact ⟨H2', by simp only [vop, ha, ht, h1]; exact q2, q3⟩
      ·cases hv
     ·cases hv
    ·cases h
/-! ### A place that is filled -/
theorem freezeP_noids {p q : PV G.E.T} {H H' : List (Blk G.E.T)} (h : freezeP H p = some (q, H')) (hi : p.ids = []) : H' = H ∧ ∀ H2 : List (Blk G.E.T), freezeP H2 p = some (q, H2) := by
 cases p <;> simp only [PV.ids] at hi <;> try (cases hi; done)
 all_goals simp only [freezeP] at h ⊢
 all_goals first
  | (cases h; exact ⟨rfl, fun _ => rfl⟩)
  | cases h
theorem freezePs_noids : ∀ {l m : List (PV G.E.T)} {H H' : List (Blk G.E.T)}, freezePs H l = some (m, H') → PV.idsL l = [] → H' = H ∧ ∀ H2 : List (Blk G.E.T), freezePs H2 l = some (m, H2)
 | [], m, H, H', h, _ => by simp only [freezePs] at h ⊢; cases h; exact ⟨rfl, fun _ => rfl⟩
 | p :: l, m, H, H', h, hi => by
  simp only [PV.idsL, List.append_eq_nil_iff] at hi
  simp only [freezePs] at h
  split at h
  ·rename_i v H1 h1
   split at h
   ·rename_i l' H2 h2
    cases h
    obtain ⟨rfl, g1⟩ := freezeP_noids h1 hi.1
    obtain ⟨rfl, g2⟩ := freezePs_noids h2 hi.2
    refine ⟨rfl, fun H3 => ?_⟩
    simp only [freezePs]
    rw [g1]; simp only; rw [g2]
   ·cases h
  ·cases h
theorem partRows_noids {i : Nat} : ∀ {l : List (Nat × PV G.E.T)} {n : Nat} {xs : List (G.E.T i)} {H H' : List (Blk G.E.T)}, partRows G i n H l = some (xs, H') → idsParts l = [] → H' = H ∧ ∀ H2, partRows G i n H2 l = some (xs, H2)
 | [], n, xs, H, H', h, _ => by simp only [partRows] at h ⊢; cases h; exact ⟨rfl, fun _ => rfl⟩
 | (j, v) :: l, n, xs, H, H', h, hi => by
  simp only [idsParts, List.append_eq_nil_iff] at hi
  simp only [partRows] at h
  split at h
  ·rename_i hj
   split at h
   ·rename_i cells H1 h1
    split at h
    ·rename_i x hx
     split at h
     ·rename_i r H2 h2
      cases h
      have hv : PV.idsL (cellsP v) = [] := by
       rcases hq : PV.idsL (cellsP v) with _ | ⟨a, _⟩
       ·rfl
       ·have := cellsP_ids v a (by rw [hq]; exact List.mem_cons_self ..)
        rw [hi.1] at this; cases this
      obtain ⟨rfl, g1⟩ := freezePs_noids h1 hv
      obtain ⟨rfl, g2⟩ := partRows_noids h2 hi.2
      refine ⟨rfl, fun H3 => ?_⟩
      simp only [partRows]
      rw [hj]; simp only; rw [g1]; simp only; rw [hx]; simp only; rw [g2]
     ·cases h
    ·cases h
   ·cases h
  ·cases h
theorem plOk_some {s : Nat} {H : List (Blk G.E.T)} (h : plOk (some s) H = true) : ∃ b, getL H s = some b := by
 simp only [plOk] at h
 split at h
 ·rename_i e; exact ⟨_, e⟩
 ·cases h
theorem plOk_same {s : Nat} {H H2 : List (Blk G.E.T)} (h : plOk (some s) H = true) (hs : getL H2 s = getL H s) : plOk (some s) H2 = true := by
 simp only [plOk] at h ⊢
 rw [hs]; exact h
theorem vop_slot {rec : Rec G} {ann : Ann} {o : Oper} {env : List (Nat × PV G.E.T)} {H : List (Blk G.E.T)} {s : Nat} (h : kindOf G ann pl o ⟨env, H⟩ = some (.slot s)) {p : PV G.E.T} {H' : List (Blk G.E.T)} (hv : vop G rec ann pl o ⟨env, H⟩ PK = some (p, H')) :
  (∃ b0, getL H s = some b0) ∧ ∃ b, H' = setL H s b ∧ ∀ H2, getL H2 s = getL H s → vop G rec ann pl o ⟨env, H2⟩ PK = some (p, setL H2 s b) := by
 obtain ⟨dst, op, type, pos, after, guard⟩ := o
 cases op <;> simp only [kindOf] at h <;> try (cases h; done)
 case alloc t =>
  split at h <;> cases h
  simp only [vop] at hv
  split at hv
  ·rename_i z hz hpl
   cases hv
   refine ⟨plOk_some hpl, _, rfl, fun H2 hs => ?_⟩
   simp only [vop, hz, plOk_same hpl hs]; rfl
  ·cases hv
 case makeMap t res =>
  split at h <;> cases h
  cases res with
  | some _ => simp only [vop] at hv; cases hv
  | none =>
   simp only [vop] at hv
   unfold makeMapV at hv
   split at hv
   ·rename_i k e h1
    split at hv
    ·rename_i k' h2 hpl
     split at hv
     ·rename_i k3 e1 e2
      cases hv
      refine ⟨plOk_some hpl, _, rfl, fun H2 hs => ?_⟩
      simp only [vop, makeMapV, h1, h2, e1, e2, plOk_same hpl hs]; rfl
     ·rename_i i k3 e1 e2
      cases hv
      refine ⟨plOk_some hpl, _, rfl, fun H2 hs => ?_⟩
      simp only [vop, makeMapV, h1, h2, e1, e2, plOk_same hpl hs]; rfl
     ·cases hv
    ·cases hv
   ·cases hv
 case makeSlice t l c =>
  split at h <;> cases h
  simp only [vop] at hv
  unfold makeSliceV at hv
  split at hv
  ·rename_i e l' c' h1 h2 h3 hpl
   split at hv
   ·rename_i b k h5 h6
    split at hv
    ·rename_i hc
     cases hv
     refine ⟨plOk_some hpl, _, rfl, fun H2 hs => ?_⟩
     simp only [vop, makeSliceV, h1, h2, h3, h5, h6, plOk_same hpl hs, hc, and_self, if_true]; rfl
    ·cases hv
   ·rename_i b i h5 h6
    split at hv
    ·rename_i z h7
     split at hv
     ·rename_i x h8
      split at hv
      ·rename_i hc
       cases hv
       refine ⟨plOk_some hpl, _, rfl, fun H2 hs => ?_⟩
       simp only [vop, makeSliceV, h1, h2, h3, h5, h6, h7, h8, plOk_same hpl hs, hc, and_self, if_true]; rfl
      ·cases hv
     ·cases hv
    ·cases hv
   ·cases hv
  ·cases hv
 case buildSlice t m ps =>
  split at h
  ·cases h
  ·split at h
   ·rename_i hids
    cases h
    rw [← idsParts_eq] at hids
    simp only [vop] at hv
    unfold buildSliceV at hv
    split at hv
    ·rename_i e he hn
     split at hv
     ·rename_i k hk
      split at hv
      ·rename_i xs hb hx
       split at hv
       ·rename_i hpl
        cases hv
        refine ⟨plOk_some hpl, _, rfl, fun H2 hs => ?_⟩
        simp only [vop, buildSliceV, he, hn, hk, hb, hx, plOk_same hpl hs]; rfl
       ·cases hv
      ·cases hv
     ·rename_i i hi
      split at hv
      ·rename_i xs H1 hb hx
       obtain ⟨rfl, g⟩ := partRows_noids hx hids
       split at hv
       ·rename_i hpl
        cases hv
        refine ⟨plOk_some hpl, _, rfl, fun H2 hs => ?_⟩
        simp only [vop, buildSliceV, he, hn, hi, hb, g H2, plOk_same hpl hs]; rfl
       ·cases hv
      ·cases hv
     ·cases hv
    ·cases hv
   ·cases h
 case convert src dst x => split at h <;> cases h
 case slice t x lo hi mx => split at h <;> cases h
 case call c =>
  obtain ⟨callee, args, argTypes⟩ := c
  cases callee with
  | invoke r m => cases h
  | value f =>
   simp only at h
   split at h
   ·split at h
    ·split at h
     ·cases h
     ·split at h
      ·split at h <;> cases h
      ·cases h
    ·cases h
   ·cases h
  | builtin b =>
   cases b <;> simp only at h <;> try (cases h; done)
   case len => split at h <;> cases h
   case append => split at h <;> cases h
   case delete => split at h <;> cases h
   case copy => split at h <;> cases h
end
end Go.Proofs.YtgffdmgidnnedaaGreat.V
