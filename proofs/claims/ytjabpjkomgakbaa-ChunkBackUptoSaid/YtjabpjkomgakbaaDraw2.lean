/- What an operation reads, and what it changes. -/
import Derived.Test.YtjabpjkomgakbaaDraw
namespace Go.Proofs.Ytjabpjkomgakbaa.V
open Go
set_option linter.unusedVariables false
set_option linter.unusedSimpArgs false

section
variable {G : Prg} {R : Type} {r : R}

theorem callV_pures {rec : Rec G} {i : Nat} {args : List (PV G.E.T)} {H : List (Blk G.E.T)} (hpb : (G.F i).sig.pb = []) (hrb : (G.F i).sig.rb = [])
    (hh : (G.F i).sig.holds G.E = false ∨ ∃ l cs, castAll (G.F i).sig.ps args [] [] H = some (l, cs) ∧ cs.lent = []) : Pures H (PV.idsL args) fun H => callV G rec i H args PK := by
  intro p h' hc
  have key : ∀ H2, Same (PV.idsL args) H H2 → ∀ p h', callV G rec i H args PK = some (p, h') → h' = H ∧ callV G rec i H2 args PK = some (p, H2) := by
    intro H2 hs p h' hc
    unfold callV at hc ⊢
    rw [hpb, hrb] at hc ⊢
    rw [castAll_foot hs]
    split at hc
    · cases hc
    · cases hc
    · rename_i a cs h1 h2
      simp only [h2]
      split at hc
      · cases hc
      · rename_i q hq
        have fin : ((rec i q).bind fun q => PK (resV (rebTs (ρof (places H cs 0 0 H.length [])) (G.F i).sig.rs (toL (G.F i).sig.outs q)).1) H) = some (p, h') →
            h' = H ∧ ((rec i q).bind fun q => PK (resV (rebTs (ρof (places H2 cs 0 0 H2.length [])) (G.F i).sig.rs (toL (G.F i).sig.outs q)).1) H2) = some (p, H2) := by
          intro hc
          obtain ⟨q2, h3, h4⟩ := Option.bind_eq_some_iff.1 hc
          simp only [places] at h4 ⊢
          rw [h3]
          simp only [Option.bind_some, PK, Option.some.injEq, Prod.mk.injEq] at h4 ⊢
          exact ⟨h4.2.symm, h4.1, trivial⟩
        rcases hh with hh | ⟨l, cs', hh1, hh2⟩
        · rw [hh] at hc ⊢
          exact fin hc
        · rw [h1] at hh1
          cases hh1
          rw [hh2] at hc ⊢
          revert hc
          cases (G.F i).sig.holds G.E
          · exact fin
          · exact fin
  exact ⟨(key H (fun _ _ => rfl) p h' hc).1, fun H2 hs => (key H2 hs p h' hc).2⟩

theorem vop_pure {rec : Rec G} {ann : Ann} {o : Oper} {σ : St G.E.T} {F : List Nat} (h : kindOf G ann o σ = some (.pure F)) : Pures σ.heap F fun H => vop G rec ann o ⟨σ.env, H⟩ PK := by
  obtain ⟨dst, op, type, pos, after, guard⟩ := o
  obtain ⟨env, H⟩ := σ
  cases op <;> simp only [kindOf] at h <;> try (cases h; done)
  case move x => simp only [vop]; exact .some _
  case assign x => simp only [vop]; exact .some _
  case pick c a b =>
    simp only [vop]
    split
    · split
      · exact .some _
      · exact .some _
    · exact .none
  case binOp op t x y yt =>
    simp only [vop]
    exact (Pures.const _).congr fun H => binOpV_k _
  case unOp op t x =>
    simp only [vop]
    exact (Pures.const _).congr fun H => unOpV_k _
  case build t ps =>
    simp only [vop]
    exact (Pures.const _).congr fun H => buildV_k _
  case makeFunc fn first cs =>
    cases fn <;> simp only [vop] <;> try exact .none
    split
    · exact .some _
    · exact .none
  case nilCheck x =>
    simp only [vop]
    split <;> first | exact .some _ | exact .none
  case fieldAddr s x f =>
    simp only [vop]
    exact (Pures.const _).congr fun H => fieldAddrV_k _
  case field s x f =>
    simp only [vop]
    split
    · split
      · split
        · exact .some _
        · exact .none
      · exact .none
    · exact .none
  case index t x i =>
    simp only [vop]
    split
    · split
      · split
        · exact .some _
        · exact .none
      · exact .none
    · split
      · split
        · split
          · split
            · split
              · exact .some _
              · exact .none
            · exact .none
          · exact .none
        · exact .none
      · exact .none
    · exact .none
  case extract x i =>
    simp only [vop]
    split
    · split
      · exact .some _
      · exact .none
    · exact .none
  case load t a =>
    cases h
    simp only [vop]
    exact (Pures.of (f := fun H => loadV G H t (eval env a) some) fun H2 hs => loadV_foot hs _).congr fun H => loadV_k _
  case indexAddr t x i =>
    cases h
    simp only [vop]
    exact (Pures.of (f := fun H => indexAddrV G H t (eval env x) (eval env i) some) fun H2 hs => indexAddrV_foot hs _).congr fun H => indexAddrV_k _
  case convert src dst x =>
    simp only [vop]
    split at h
    · cases h
    · rename_i hd
      cases h
      unfold convertV
      split
      · split
        · exact .some _
        · exact .none
      · split
        · exact .some _
        · exact .none
      · split
        · refine (Pures.of (f := fun H => (intsOf H .u8 (eval env x)).bind fun y => some (.str y.1)) fun H2 hs => by show (intsOf H2 _ _).bind _ = _; rw [intsOf_foot hs]).congr fun H => ?_
          cases intsOf H .u8 (eval env x) <;> rfl
        · exact .none
      · rename_i e1 e2
        exact absurd e2 (hd _)
      · exact .none
  case slice t x lo hi mx =>
    simp only [vop]
    split at h
    · cases h
    · rename_i hc
      cases h
      split
      · exact .none
      · rw [hc]; exact sliceV_pures
  case call c =>
    obtain ⟨callee, args, argTypes⟩ := c
    cases callee with
    | invoke r m => cases h
    | value f =>
      simp only at h
      simp only [vop]
      split at h
      · rename_i f' caps d e1
        split at h
        · rename_i i e2
          try rw [e2]
          try simp only
          split
          · split at h
            · rename_i p1 p2 p3
              cases h
              exact callV_pures p1 p2 (.inl p3)
            · rename_i p1 p2 p3
              split at h
              · rename_i l cs p4
                split at h
                · rename_i p5
                  cases h
                  exact callV_pures p1 p2 (.inr ⟨l, cs, p4, p5⟩)
                · cases h
              · cases h
            · cases h
          · exact .none
        · cases h
      · cases h
    | builtin b =>
      cases b <;> simp only at h <;> try (cases h; done)
      case len =>
        simp only [vop]
        split at h
        · rename_i x ha
          cases h
          split
          · rename_i x' t tl ha' ht
            rw [ha] at ha'
            simp only [List.cons.injEq, and_true] at ha'
            subst ha'
            exact (Pures.of (f := fun H => lenV G H t (eval env x) some) fun H2 hs => lenV_foot hs _).congr fun H => lenV_k _
          · exact .none
        · cases h
      case append =>
        split at h <;> cases h
      case max =>
        simp only [vop]
        split
        · split
          · exact .some _
          · exact .none
        · exact .none
      case min =>
        simp only [vop]
        split
        · split
          · exact .some _
          · exact .none
        · exact .none

/-- what stays -/
def Stays (T : List Nat) (H H' : List (Blk G.E.T)) : Prop := ∀ id, id < H.length → id ∉ T → getL H' id = getL H id

theorem stays_append {T : List Nat} {H : List (Blk G.E.T)} {b : Blk G.E.T} : Stays T H (H ++ [b]) := fun id h _ => getL_append_lt h
theorem stays_refl {T : List Nat} {H : List (Blk G.E.T)} : Stays T H H := fun _ _ _ => rfl
theorem stays_setL {T : List Nat} {H : List (Blk G.E.T)} {id : Nat} {b : Blk G.E.T} (h : id ∈ T) : Stays T H (setL H id b) := fun j _ hj => getL_setL_ne fun e => hj (e ▸ h)
theorem Stays.trans {T : List Nat} {H H' H'' : List (Blk G.E.T)} (h : Stays T H H') (g : Stays T H' H'') (hl : H'.length = H.length) : Stays T H H'' := fun id h1 h2 => by rw [g id (by omega) h2, h id h1 h2]

theorem freezeP_stays {H H' : List (Blk G.E.T)} {p q : PV G.E.T} (h : freezeP H p = some (q, H')) : Stays p.ids H H' ∧ H'.length = H.length := by
  unfold freezeP at h
  split at h
  all_goals first
    | (cases h; exact ⟨stays_refl, rfl⟩)
    | (split at h <;> first
        | (split at h <;> first | (cases h; exact ⟨stays_setL (by simp [PV.ids]), setL_length ..⟩) | (cases h; exact ⟨stays_refl, rfl⟩) | cases h)
        | cases h)
    | cases h
theorem freezePs_stays : ∀ {H H' : List (Blk G.E.T)} {l m : List (PV G.E.T)}, freezePs H l = some (m, H') → Stays (PV.idsL l) H H' ∧ H'.length = H.length
  | H, H', [], m, h => by simp only [freezePs] at h; cases h; exact ⟨stays_refl, rfl⟩
  | H, H', p :: l, m, h => by
    simp only [freezePs] at h
    split at h
    · rename_i v H1 h1
      split at h
      · rename_i l' H2 h2
        cases h
        obtain ⟨a1, a2⟩ := freezeP_stays h1
        obtain ⟨b1, b2⟩ := freezePs_stays h2
        refine ⟨fun id hi hn => ?_, by omega⟩
        simp only [PV.idsL, List.mem_append, not_or] at hn
        rw [b1 id (by omega) hn.2, a1 id hi hn.1]
      · cases h
    · cases h

theorem cellsP_ids (p : PV G.E.T) : ∀ id, id ∈ PV.idsL (cellsP p) → id ∈ p.ids := by
  intro id h
  cases p <;> simp only [cellsP, PV.idsL, List.append_nil] at h <;> first | exact h | (simpa only [PV.ids] using h)

def idsParts : List (Nat × PV G.E.T) → List Nat
  | [] => []
  | (_, v) :: l => v.ids ++ idsParts l
theorem idsParts_eq {env : List (Nat × PV G.E.T)} : ∀ ps : List (Nat × Operand), idsParts (evalParts env ps) = PV.idsL (evals env (partsOps ps))
  | [] => rfl
  | (i, x) :: l => by simp only [evalParts, idsParts, partsOps, evals, PV.idsL]; rw [idsParts_eq l]

theorem partRows_stays {i : Nat} : ∀ {n : Nat} {H H' : List (Blk G.E.T)} {l : List (Nat × PV G.E.T)} {xs : List (G.E.T i)}, partRows G i n H l = some (xs, H') → Stays (idsParts l) H H' ∧ H'.length = H.length
  | n, H, H', [], xs, h => by simp only [partRows] at h; cases h; exact ⟨stays_refl, rfl⟩
  | n, H, H', (j, v) :: l, xs, h => by
    simp only [partRows] at h
    split at h
    · split at h
      · rename_i cells H1 h1
        split at h
        · split at h
          · rename_i r H2 h2
            cases h
            obtain ⟨a1, a2⟩ := freezePs_stays h1
            obtain ⟨b1, b2⟩ := partRows_stays h2
            refine ⟨fun id hi hn => ?_, by omega⟩
            simp only [idsParts, List.mem_append, not_or] at hn
            rw [b1 id (by omega) hn.2, a1 id hi fun e => hn.1 (cellsP_ids v id e)]
          · cases h
        · cases h
      · cases h
    · cases h

theorem vop_eff {rec : Rec G} {ann : Ann} {o : Oper} {σ : St G.E.T} {T : List Nat} {n : Nat} (h : kindOf G ann o σ = some (.eff T n)) {p : PV G.E.T} {H' : List (Blk G.E.T)} (hv : vop G rec ann o σ PK = some (p, H')) :
    n = σ.heap.length ∧ Stays T σ.heap H' := by
  obtain ⟨dst, op, type, pos, after, guard⟩ := o
  obtain ⟨env, H⟩ := σ
  cases op <;> simp only [kindOf] at h <;> try (cases h; done)
  case alloc t =>
    cases h
    simp only [vop] at hv
    split at hv
    · cases hv; exact ⟨rfl, stays_append⟩
    · cases hv
  case box t x =>
    cases h
    simp only [vop] at hv
    split at hv
    · cases hv; exact ⟨rfl, stays_append⟩
    · cases hv
  case makeSlice t l c =>
    cases h
    refine ⟨rfl, ?_⟩
    simp only [vop] at hv
    unfold makeSliceV at hv
    split at hv
    · split at hv
      · split at hv
        · cases hv; exact stays_append
        · cases hv
      · split at hv
        · split at hv
          · split at hv
            · cases hv; exact stays_append
            · cases hv
          · cases hv
        · cases hv
      · cases hv
    · cases hv
  case buildSlice t m ps =>
    cases h
    refine ⟨rfl, ?_⟩
    simp only [vop] at hv
    unfold buildSliceV at hv
    split at hv
    · split at hv
      · split at hv
        · cases hv; exact stays_append
        · cases hv
      · split at hv
        · rename_i xs H1 h1
          cases hv
          obtain ⟨a1, a2⟩ := partRows_stays h1
          rw [idsParts_eq] at a1
          intro id hi hn
          rw [getL_append_lt (by simp only at hi; omega), a1 id hi hn]
        · cases hv
      · cases hv
    · cases hv
  case store t a x =>
    cases h
    refine ⟨rfl, ?_⟩
    simp only [vop] at hv
    unfold storeV at hv
    split at hv
    · cases hv
    · split at hv
      · cases hv
      · cases hv
      · split at hv
        · rename_i id off e
          split at hv
          · split at hv
            · cases hv
              exact stays_setL (by rw [e]; simp [PV.ids])
            · cases hv
          · cases hv
        · rename_i id ep i fld e
          have hid : id ∈ (eval env a).ids ++ (eval env x).ids := by rw [e]; simp [PV.ids]
          split at hv
          · split at hv
            · split at hv
              · cases hv; exact stays_setL hid
              · cases hv
            · cases hv
          · split at hv
            · rename_i cells H1 hfr
              obtain ⟨a1, a2⟩ := freezePs_stays hfr
              split at hv
              · split at hv
                · obtain ⟨y, hy, hv⟩ := Option.bind_eq_some_iff.1 hv
                  split at hv
                  · split at hv
                    · cases hv
                      refine Stays.trans (fun j hj hn => a1 j hj fun e' => hn (List.mem_append_right _ (cellsP_ids _ j e'))) (stays_setL hid) a2
                    · cases hv
                  · cases hv
                · cases hv
              · cases hv
            · cases hv
          · cases hv
        · cases hv
  case convert src dst x =>
    split at h
    · cases h
      refine ⟨rfl, ?_⟩
      simp only [vop] at hv
      unfold convertV at hv
      split at hv
      · split at hv <;> cases hv; exact stays_refl
      · split at hv <;> cases hv; exact stays_refl
      · split at hv
        · split at hv <;> cases hv; exact stays_refl
        · cases hv
      · split at hv
        · cases hv; exact stays_append
        · cases hv
      · cases hv
    · cases h
  case slice t x lo hi mx => split at h <;> cases h
  case call c =>
    obtain ⟨callee, args, argTypes⟩ := c
    cases callee with
    | invoke r m => cases h
    | value f =>
      simp only at h
      split at h
      · split at h
        · split at h
          · cases h
          · split at h
            · split at h <;> cases h
            · cases h
          · cases h
        · cases h
      · cases h
    | builtin b =>
      cases b <;> simp only at h <;> try (cases h; done)
      case len => split at h <;> cases h
      case append =>
        split at h
        · rename_i s x ha
          cases h
          refine ⟨rfl, ?_⟩
          simp only [vop] at hv
          have app : ∀ {t : TypeId} {y : PV G.E.T}, appendV G H t (eval env s) y PK = some (p, H') → Stays (eval env s).ids H H' := by
            intro t y hv
            unfold appendV at hv
            split at hv
            · cases hv
            · split at hv
              · split at hv
                · cases hv
                · split at hv
                  · split at hv
                    · cases hv; exact stays_append
                    · cases hv
                  · rename_i id ep e
                    split at hv
                    · split at hv
                      · split at hv
                        · cases hv; exact stays_setL (by rw [e]; simp [PV.ids])
                        · cases hv
                      · cases hv
                    · cases hv
                  · cases hv
              · split at hv
                · cases hv
                · split at hv
                  · split at hv
                    · cases hv; exact stays_append
                    · cases hv
                  · rename_i id ep e
                    split at hv
                    · split at hv
                      · split at hv
                        · split at hv
                          · cases hv; exact stays_setL (by rw [e]; simp [PV.ids])
                          · cases hv
                        · cases hv
                      · cases hv
                    · cases hv
                  · cases hv
              · cases hv
          split at hv
          · rename_i s' x' t tx ha' ht
            rw [ha] at ha'
            simp only [List.cons.injEq, and_true] at ha'
            obtain ⟨rfl, rfl⟩ := ha'
            split at hv
            · exact app hv
            · exact app hv
            · cases hv
          · cases hv
        · cases h
end
end Go.Proofs.Ytjabpjkomgakbaa.V
