/- What an operation looks at, and what it leaves alone. -/
import Derived.Test.YtgffdmgidnnedaaGreatCall3
namespace Go.Proofs.YtgffdmgidnnedaaGreat.V
open Go
set_option linter.unusedVariables false
set_option linter.unusedSimpArgs false
section
variable {G : Prg} {pl : Option Nat} {R : Type} {r : R}
/-! ### The continuation stands last -/
abbrev PK (p : PV G.E.T) (h : List (Blk G.E.T)) : Option (PV G.E.T × List (Blk G.E.T)) := some (p, h)
theorem eqOp_k {T : Nat → Type} {op : BinOp} {b : Bool} (K : PV T → Option R) : eqOp op b K = (eqOp op b some).bind K := by cases op <;> rfl
theorem strOp_k {T : Nat → Type} {op : BinOp} {a b : List Int} (K : PV T → Option R) : strOp op a b K = (strOp op a b some).bind K := by
 cases op <;> first | rfl | (simp only [strOp]; split <;> rfl)
theorem intOp_k {T : Nat → Type} {op : BinOp} {k : IntKind} {a b : Int} (K : PV T → Option R) : intOp op k a b K = (intOp op k a b some).bind K := by
 cases op <;> first | rfl | (simp only [intOp]; split <;> rfl)
theorem nilEq_k {T : Nat → Type} {op : BinOp} {n : Nat} (K : PV T → Option R) : nilEq op n K = (nilEq op n some).bind K := by
 cases op <;> first | rfl | (simp only [nilEq]; split <;> rfl)
theorem binOpV_k {T : Nat → Type} {ty : Option TypeDesc} {op : BinOp} {x y : PV T} (K : PV T → Option R) : binOpV ty op x y K = (binOpV ty op x y some).bind K := by
 unfold binOpV
 split
 ·split
  ·exact intOp_k K
  ·exact intOp_k K
  ·split
   ·exact intOp_k K
   ·rfl
 ·exact strOp_k K
 all_goals first | rfl | (split <;> first | exact eqOp_k K | exact nilEq_k K | rfl)
theorem binOpA_k {t : TypeId} {op : BinOp} {x y : PV G.E.T} (K : PV G.E.T → Option R) : binOpA G t op x y K = (binOpA G t op x y some).bind K := by
 unfold binOpA
 split
 ·split
  ·exact eqOp_k K
  ·rfl
 ·exact binOpV_k K
theorem unOpV_k {T : Nat → Type} {op : UnOp} {x : PV T} (K : PV T → Option R) : unOpV op x K = (unOpV op x some).bind K := by
 unfold unOpV
 split <;> rfl
theorem loadV_k {H : List (Blk G.E.T)} {t : TypeId} {a : PV G.E.T} (K : PV G.E.T → Option R) : loadV G H t a K = (loadV G H t a some).bind K := by
 unfold loadV
 repeat' split
 all_goals first
  | rfl
  | (rw [Option.bind_assoc]; congr 1; funext x; (repeat' split) <;> rfl)
theorem storeV_k {H : List (Blk G.E.T)} {t : TypeId} {a v : PV G.E.T} (K : List (Blk G.E.T) → Option R) : storeV G H t a v K = (storeV G H t a v some).bind K := by
 unfold storeV
 repeat' split
 all_goals first
  | rfl
  | (rw [Option.bind_assoc]; congr 1; funext x; (repeat' split) <;> rfl)
theorem fieldAddrV_k {s : TypeId} {x : PV G.E.T} {f : Nat} (K : PV G.E.T → Option R) : fieldAddrV G s x f K = (fieldAddrV G s x f some).bind K := by
 unfold fieldAddrV
 repeat' split
 all_goals rfl
theorem splitIx_bind {A B : Type} {i : Int} {f : A → Option B} : ∀ {n : Nat} {K : Nat → Option A} {K' : Nat → Option B}, (∀ j, K' j = (K j).bind f) → splitIx i n K' = (splitIx i n K).bind f
 | 0, K, K', h => rfl
 | n + 1, K, K', h => by
  simp only [splitIx]
  split
  ·exact h n
  ·exact splitIx_bind h
theorem atIx_bind {A B : Type} {i : Int} {n : Nat} {f : A → Option B} {K : Nat → Option A} {K' : Nat → Option B} (h : ∀ j, K' j = (K j).bind f) : atIx i n K' = (atIx i n K).bind f := by
 unfold atIx
 split
 ·exact splitIx_bind h
 ·exact h _
theorem makeMapV_k {H : List (Blk G.E.T)} {t : TypeId} (K : PV G.E.T → List (Blk G.E.T) → Option R) : makeMapV G pl H t K = (makeMapV G pl H t PK).bind fun y => K y.1 y.2 := by
 unfold makeMapV
 repeat' split
 all_goals rfl
theorem mapUpdV_k {H : List (Blk G.E.T)} {t : TypeId} {m k x : PV G.E.T} (K : List (Blk G.E.T) → Option R) : mapUpdV G H t m k x K = (mapUpdV G H t m k x some).bind K := by
 unfold mapUpdV
 cases m <;> try rfl
 rename_i id
 simp only
 cases getL H id with
 | none => rfl
 | some b =>
  cases b <;> try rfl
  case mp m k3 =>
   cases m <;> try rfl
   simp only
   split <;> rfl
  case mpr m k3 i xs =>
   cases m <;> try rfl
   simp only
   split
   ·split
    ·split <;> rfl
    ·rfl
   ·rfl
theorem lookupV_k {H : List (Blk G.E.T)} {t : TypeId} {m k : PV G.E.T} {ok : Bool} (K : PV G.E.T → Option R) : lookupV G H t m k ok K = (lookupV G H t m k ok some).bind K := by
 unfold lookupV
 cases m <;> try rfl
 rename_i id
 simp only
 cases getL H id with
 | none => rfl
 | some b =>
  cases b <;> try rfl
  simp only
  split
  ·split
   ·cases ok <;> rfl
   ·rfl
  ·rfl
theorem deleteV_k {H : List (Blk G.E.T)} {t : TypeId} {m k : PV G.E.T} (K : List (Blk G.E.T) → Option R) : deleteV G H t m k K = (deleteV G H t m k some).bind K := by
 unfold deleteV
 cases m <;> try rfl
 rename_i id
 simp only
 cases getL H id with
 | none => rfl
 | some b =>
  cases b <;> try rfl
  case mpr m k3 i xs =>
   cases m <;> try rfl
   simp only
   split <;> rfl
theorem indexAddrV_k {H : List (Blk G.E.T)} {t : TypeId} {x i : PV G.E.T} (K : PV G.E.T → Option R) : indexAddrV G H t x i K = (indexAddrV G H t x i some).bind K := by
 unfold indexAddrV
 repeat' split
 all_goals first
  | rfl
  | (refine atIx_bind fun j => ?_; (repeat' split) <;> rfl)
  | (rw [Option.bind_assoc]; congr 1)
theorem lenV_k {H : List (Blk G.E.T)} {t : TypeId} {x : PV G.E.T} (K : PV G.E.T → Option R) : lenV G H t x K = (lenV G H t x some).bind K := by
 unfold lenV
 repeat' split
 all_goals rfl
theorem appendV_k {H : List (Blk G.E.T)} {t : TypeId} {s x : PV G.E.T} (K : PV G.E.T → List (Blk G.E.T) → Option R) : appendV G H t s x K = (appendV G H t s x PK).bind fun y => K y.1 y.2 := by
 unfold appendV
 repeat' split
 all_goals rfl
theorem appendZ_k {H : List (Blk G.E.T)} {t : TypeId} {s x : PV G.E.T} (K : PV G.E.T → List (Blk G.E.T) → Option R) : appendZ G H t s x K = (appendZ G H t s x PK).bind fun y => K y.1 y.2 := by
 unfold appendZ
 repeat' split
 all_goals rfl
theorem copyV_k {H : List (Blk G.E.T)} {t : TypeId} {s x : PV G.E.T} (K : PV G.E.T → List (Blk G.E.T) → Option R) : copyV G H t s x K = (copyV G H t s x PK).bind fun y => K y.1 y.2 := by
 unfold copyV
 repeat' split
 all_goals rfl
theorem buildSliceV_k {H : List (Blk G.E.T)} {t : TypeId} {n : Nat} {parts : List (Nat × PV G.E.T)} (K : PV G.E.T → List (Blk G.E.T) → Option R) : buildSliceV G pl H t n parts K = (buildSliceV G pl H t n parts PK).bind fun y => K y.1 y.2 := by
 unfold buildSliceV
 repeat' split
 all_goals rfl
theorem buildV_k {t : TypeId} {parts : List (Nat × PV G.E.T)} (K : PV G.E.T → Option R) : buildV G t parts K = (buildV G t parts some).bind K := by
 unfold buildV
 repeat' split
 all_goals rfl
theorem makeSliceV_k {H : List (Blk G.E.T)} {t : TypeId} {l c : PV G.E.T} (K : PV G.E.T → List (Blk G.E.T) → Option R) : makeSliceV G pl H t l c K = (makeSliceV G pl H t l c PK).bind fun y => K y.1 y.2 := by
 unfold makeSliceV
 repeat' split
 all_goals rfl
theorem boundsV_k {n : Nat} {lo hi : Option (PV G.E.T)} {A : Type} (K : Nat → Nat → Option A) (K' : A → Option R) : boundsV G n lo hi (fun l h => (K l h).bind K') = (boundsV G n lo hi K).bind K' := by
 unfold boundsV
 repeat' split
 all_goals rfl
theorem sliceV_k {H : List (Blk G.E.T)} {c : Bool} {t : TypeId} {x : PV G.E.T} {lo hi : Option (PV G.E.T)} (K : PV G.E.T → List (Blk G.E.T) → Option R) : sliceV G H c t x lo hi K = (sliceV G H c t x lo hi PK).bind fun y => K y.1 y.2 := by
 unfold sliceV
 repeat' split
 all_goals first
  | rfl
  | (rw [← boundsV_k]; rfl)
theorem convertV_k {H : List (Blk G.E.T)} {src dst : TypeId} {x : PV G.E.T} (K : PV G.E.T → List (Blk G.E.T) → Option R) : convertV G H src dst x K = (convertV G H src dst x PK).bind fun y => K y.1 y.2 := by
 unfold convertV
 repeat' split
 all_goals rfl
theorem callV_k {rec : Rec G} {i : Nat} {H : List (Blk G.E.T)} {args : List (PV G.E.T)} (K : PV G.E.T → List (Blk G.E.T) → Option R) : callV G rec i H args K = (callV G rec i H args PK).bind fun y => K y.1 y.2 := by
 unfold callV
 repeat' split
 all_goals first
  | rfl
  | (rw [Option.bind_assoc]; congr 1; funext q; rw [get_eq, get_eq]; rfl)
theorem vop_k {rec : Rec G} {ann : Ann} {o : Oper} {σ : St G.E.T} (K : PV G.E.T → List (Blk G.E.T) → Option R) : vop G rec ann pl o σ K = (vop G rec ann pl o σ PK).bind fun y => K y.1 y.2 := by
 unfold vop
 split
 case h_4 => rw [binOpA_k, binOpA_k (fun v => PK v σ.heap), Option.bind_assoc]; rfl
 case h_5 => rw [unOpV_k, unOpV_k (fun v => PK v σ.heap), Option.bind_assoc]; rfl
 all_goals first
  | rfl
  | exact convertV_k K
  | exact buildSliceV_k K
  | exact makeSliceV_k K
  | exact makeMapV_k K
  | (rw [mapUpdV_k, mapUpdV_k (fun h => PK (.tup []) h), Option.bind_assoc]; rfl)
  | (rw [lookupV_k, lookupV_k (fun v => PK v σ.heap), Option.bind_assoc]; rfl)
  | (rw [buildV_k, buildV_k (fun v => PK v σ.heap), Option.bind_assoc]; rfl)
  | (rw [loadV_k, loadV_k (fun v => PK v σ.heap), Option.bind_assoc]; rfl)
  | (rw [storeV_k, storeV_k (fun h => PK (.tup []) h), Option.bind_assoc]; rfl)
  | (rw [fieldAddrV_k, fieldAddrV_k (fun v => PK v σ.heap), Option.bind_assoc]; rfl)
  | (rw [indexAddrV_k, indexAddrV_k (fun v => PK v σ.heap), Option.bind_assoc]; rfl)
  | skip
 all_goals
  repeat' split
 all_goals first
  | rfl
  | (refine atIx_bind fun j => ?_; (repeat' split) <;> rfl)
  | exact sliceV_k K
  | exact callV_k K
  | exact appendV_k K
  | exact appendZ_k K
  | exact copyV_k K
  | (rw [Option.bind_assoc]; rfl)
  | (rw [lenV_k, lenV_k (fun v => PK v σ.heap), Option.bind_assoc]; rfl)
  | (rw [deleteV_k, deleteV_k (fun h => PK (.tup []) h), Option.bind_assoc]; rfl)
/-! ### Only the operands count -/
theorem evals_congr {T : Nat → Type} {env env' : List (Nat × PV T)} : ∀ {l : List Operand}, (∀ x, x ∈ l → eval env x = eval env' x) → evals env l = evals env' l
 | [], _ => rfl
 | x :: l, h => by simp only [evals]; rw [h x (List.mem_cons_self ..), evals_congr fun y hy => h y (List.mem_cons_of_mem _ hy)]
theorem evalParts_congr {T : Nat → Type} {env env' : List (Nat × PV T)} : ∀ {l : List (Nat × Operand)}, (∀ x, x ∈ partsOps l → eval env x = eval env' x) → evalParts env l = evalParts env' l
 | [], _ => rfl
 | (i, x) :: l, h => by
  simp only [evalParts]
  rw [h x (by simp [partsOps]), evalParts_congr fun y hy => h y (by simp [partsOps, hy])]
theorem vop_env {rec : Rec G} {ann : Ann} {o : Oper} {env env' : List (Nat × PV G.E.T)} {H : List (Blk G.E.T)} (K : PV G.E.T → List (Blk G.E.T) → Option R)
  (h : ∀ x, x ∈ opersOf o.op → eval env x = eval env' x) : vop G rec ann pl o ⟨env, H⟩ K = vop G rec ann pl o ⟨env', H⟩ K := by
 obtain ⟨dst, op, type, pos, after, guard⟩ := o
 cases op
 case build t ps => simp only [vop]; rw [evalParts_congr (fun x hx => h x (by simpa [opersOf] using hx))]
 case buildSlice t n ps => simp only [vop]; rw [evalParts_congr (fun x hx => h x (by simpa [opersOf] using hx))]
 case makeFunc fn first cs =>
  cases fn <;> simp only [vop]
  rw [evals_congr (fun x hx => h x (by simpa [opersOf] using hx))]
 case makeMap t res => cases res <;> simp only [vop]
 case slice t x lo hi mx =>
  simp only [vop]
  cases lo <;> cases hi <;> simp only [opersOf, List.mem_cons, List.not_mem_nil, or_false, forall_eq_or_imp, forall_eq] at h <;> simp only [Option.map_none, Option.map_some, h]
 case call c =>
  obtain ⟨callee, args, argTypes⟩ := c
  cases callee with
  | value f =>
   simp only [opersOf, List.mem_cons, forall_eq_or_imp] at h
   simp only [vop]
   rw [h.1, evals_congr h.2]
  | invoke r m => simp only [vop]
  | builtin b =>
   simp only [opersOf] at h
   cases b <;> simp only [vop]
   case append =>
    split
    ·rename_i s x t tx ha ht
     rw [ha] at h
     simp only [List.mem_cons, List.not_mem_nil, or_false, forall_eq_or_imp, forall_eq] at h
     rw [h.1, h.2]
    ·rfl
   case delete =>
    split
    ·rename_i m k t rest ha ht
     rw [ha] at h
     simp only [List.mem_cons, List.not_mem_nil, or_false, forall_eq_or_imp, forall_eq] at h
     rw [h.1, h.2]
    ·rfl
   case copy =>
    split
    ·rename_i s x t tx ha ht
     rw [ha] at h
     simp only [List.mem_cons, List.not_mem_nil, or_false, forall_eq_or_imp, forall_eq] at h
     rw [h.1, h.2]
    ·rfl
   case len =>
    split
    ·rename_i x t tx ha ht
     rw [ha] at h
     simp only [List.mem_cons, List.not_mem_nil, or_false, forall_eq] at h
     rw [h]
    ·rfl
   case cap =>
    split
    ·rename_i x t tx ha ht
     rw [ha] at h
     simp only [List.mem_cons, List.not_mem_nil, or_false, forall_eq] at h
     rw [h]
    ·rfl
   case max => rw [evals_congr h]
   case min => rw [evals_congr h]
 all_goals
  simp only [opersOf, List.mem_cons, List.not_mem_nil, or_false, forall_eq_or_imp, forall_eq] at h
  simp only [vop]
 all_goals first
  | rfl
  | simp only [h]
theorem kindOf_env {ann : Ann} {o : Oper} {env env' : List (Nat × PV G.E.T)} {H : List (Blk G.E.T)}
  (h : ∀ x, x ∈ opersOf o.op → eval env x = eval env' x) : kindOf G ann pl o ⟨env, H⟩ = kindOf G ann pl o ⟨env', H⟩ := by
 obtain ⟨dst, op, type, pos, after, guard⟩ := o
 cases op
 case build t ps => simp only [kindOf]
 case buildSlice t n ps => simp only [kindOf]; rw [evals_congr (fun x hx => h x (by simpa [opersOf] using hx))]
 case makeFunc fn first cs => simp only [kindOf]
 case slice t x lo hi mx =>
  simp only [kindOf]
  cases lo <;> cases hi <;> simp only [opersOf, List.mem_cons, List.not_mem_nil, or_false, forall_eq_or_imp, forall_eq] at h <;> simp only [h]
 case call c =>
  obtain ⟨callee, args, argTypes⟩ := c
  cases callee with
  | value f =>
   simp only [opersOf, List.mem_cons, forall_eq_or_imp] at h
   simp only [kindOf]
   rw [h.1, evals_congr h.2]
  | invoke r m => simp only [kindOf]
  | builtin b =>
   simp only [opersOf] at h
   cases b <;> simp only [kindOf]
   case append =>
    split
    ·rename_i s x ha
     rw [ha] at h
     simp only [List.mem_cons, List.not_mem_nil, or_false, forall_eq_or_imp, forall_eq] at h
     rw [h.1, h.2]
    ·rfl
   case delete =>
    split
    ·rename_i m k ha
     rw [ha] at h
     simp only [List.mem_cons, List.not_mem_nil, or_false, forall_eq_or_imp, forall_eq] at h
     rw [h.1]
    ·rfl
   case copy =>
    split
    ·rename_i s x ha
     rw [ha] at h
     simp only [List.mem_cons, List.not_mem_nil, or_false, forall_eq_or_imp, forall_eq] at h
     rw [h.1, h.2]
    ·rfl
   case len =>
    split
    ·rename_i x ha
     rw [ha] at h
     simp only [List.mem_cons, List.not_mem_nil, or_false, forall_eq] at h
     rw [h]
    ·rfl
 all_goals
  simp only [opersOf, List.mem_cons, List.not_mem_nil, or_false, forall_eq_or_imp, forall_eq] at h
  simp only [kindOf]
 all_goals first
  | rfl
  | simp only [h]
/-! ### What reads few blocks -/
def Same (F : List Nat) (H H2 : List (Blk G.E.T)) : Prop := ∀ id, id ∈ F → getL H2 id = getL H id
theorem Same.sub {F F' : List Nat} {H H2 : List (Blk G.E.T)} (h : Same F H H2) (hs : ∀ id, id ∈ F' → id ∈ F) : Same F' H H2 := fun id hi => h id (hs id hi)
theorem loadV_foot {H H2 : List (Blk G.E.T)} {t : TypeId} {a : PV G.E.T} (h : Same a.ids H H2) (K : PV G.E.T → Option R) : loadV G H2 t a K = loadV G H t a K := by
 cases a <;> simp only [loadV]
 case ptr id off => rw [h id (by simp [PV.ids])]
 case eptr id ep i f => rw [h id (by simp [PV.ids])]
 case aptr id off n i => rw [h id (by simp [PV.ids])]
theorem lookupV_foot {H H2 : List (Blk G.E.T)} {t : TypeId} {m k : PV G.E.T} {ok : Bool} (h : Same m.ids H H2) (K : PV G.E.T → Option R) : lookupV G H2 t m k ok K = lookupV G H t m k ok K := by
 cases m <;> simp only [lookupV]
 rw [h _ (by simp [PV.ids])]
theorem indexAddrV_foot {H H2 : List (Blk G.E.T)} {t : TypeId} {x i : PV G.E.T} (h : Same x.ids H H2) (K : PV G.E.T → Option R) : indexAddrV G H2 t x i K = indexAddrV G H t x i K := by
 unfold indexAddrV
 cases i <;> simp only
 cases x <;> simp only
 case arr id ep => rw [h id (by simp [PV.ids])]
 case sub id ep off len => rw [h id (by simp [PV.ids])]
 case eptr id ep j fld => rw [h id (by simp [PV.ids])]
theorem lenV_foot {H H2 : List (Blk G.E.T)} {t : TypeId} {x : PV G.E.T} (h : Same x.ids H H2) (K : PV G.E.T → Option R) : lenV G H2 t x K = lenV G H t x K := by
 unfold lenV
 cases x <;> simp only
 case arr id ep => rw [h id (by simp [PV.ids])]
 case sub id ep off len => rw [h id (by simp [PV.ids])]
theorem intsOf_foot {H H2 : List (Blk G.E.T)} {k : IntKind} {x : PV G.E.T} (h : Same x.ids H H2) : intsOf H2 k x = intsOf H k x := by
 unfold intsOf
 cases x <;> simp only
 case arr id ep => rw [h id (by simp [PV.ids])]
 case sub id ep off len => rw [h id (by simp [PV.ids])]
theorem rowsOf_foot {H H2 : List (Blk G.E.T)} {i : Nat} {x : PV G.E.T} (h : Same x.ids H H2) : rowsOf H2 i x = rowsOf H i x := by
 unfold rowsOf
 cases x <;> simp only
 case arr id ep => rw [h id (by simp [PV.ids])]
 case sub id ep off len => rw [h id (by simp [PV.ids])]
theorem isOwn_foot {H H2 : List (Blk G.E.T)} {id ep : Nat} (h : getL H2 id = getL H id) : isOwn H2 id ep = isOwn H id ep := by
 unfold isOwn; rw [h]
mutual
theorem castT_foot {H H2 : List (Blk G.E.T)} : ∀ (s : TSh) (v : PV G.E.T) (cs : CS), Same v.ids H H2 → castT H2 s v cs = castT H s v cs
 | .int k, v, cs, h => by cases v <;> simp only [castT]
 | .bool, v, cs, h => by cases v <;> simp only [castT]
 | .str, v, cs, h => by cases v <;> simp only [castT]
 | .ints k, v, cs, h => by simp only [castT]; rw [intsOf_foot h]
 | .rows i, v, cs, h => by simp only [castT]; rw [rowsOf_foot h]
 | .arr j, v, cs, h => by
  cases v <;> simp only [castT]
  rw [isOwn_foot (h _ (by simp [PV.ids]))]
 | .agg l, v, cs, h => by
  cases v <;> simp only [castT]
  exact castTs_foot l _ cs (by simpa only [PV.ids] using h)
 | .ptr j off, v, cs, h => by cases v <;> simp only [castT]
 | .mapr j, v, cs, h => by cases v <;> simp only [castT]
 | .nil, v, cs, h => by cases v <;> simp only [castT]
 | .lit k n, v, cs, h => by cases v <;> simp only [castT]
 | .litb b, v, cs, h => by cases v <;> simp only [castT]
 | .nilsl, v, cs, h => by cases v <;> simp only [castT]
 | .fn f l, v, cs, h => by
  cases v <;> simp only [castT]
  rw [castTs_foot l _ cs (by simpa only [PV.ids] using h)]
theorem castTs_foot {H H2 : List (Blk G.E.T)} : ∀ (l : List TSh) (m : List (PV G.E.T)) (cs : CS), Same (PV.idsL m) H H2 → castTs H2 l m cs = castTs H l m cs
 | [], [], cs, h => by simp only [castTs]
 | s :: l, v :: m, cs, h => by
  simp only [PV.idsL] at h
  simp only [castTs]
  rw [castT_foot s v cs (h.sub fun id hi => List.mem_append_left _ hi)]
  split
  ·rename_i a cs1 _
   rw [castTs_foot l m cs1 (h.sub fun id hi => List.mem_append_right _ hi)]
  ·rfl
 | [], _ :: _, cs, h => by simp only [castTs]
 | _ :: _, [], cs, h => by simp only [castTs]
end
theorem castAll_foot {H H2 : List (Blk G.E.T)} {ss : List TSh} {vs : List (PV G.E.T)} (h : Same (PV.idsL vs) H H2) : castAll ss vs [] [] H2 = castAll ss vs [] [] H := by
 unfold castAll
 rw [castTs_foot ss vs _ h]
 rfl
/-- whose value does not hang on the heap -/
def Pures (H : List (Blk G.E.T)) (F : List Nat) (f : List (Blk G.E.T) → Option (PV G.E.T × List (Blk G.E.T))) : Prop :=
 ∀ p h', f H = some (p, h') → h' = H ∧ ∀ H2, Same F H H2 → f H2 = some (p, H2)
theorem Pures.of {H : List (Blk G.E.T)} {F : List Nat} {f : List (Blk G.E.T) → Option (PV G.E.T)} (h : ∀ H2, Same F H H2 → f H2 = f H) : Pures H F fun H => (f H).bind fun v => PK v H := by
 intro p h' hf
 obtain ⟨v, h1, h2⟩ := Option.bind_eq_some_iff.1 hf
 cases h2
 refine ⟨rfl, fun H2 hs => ?_⟩
 show (f H2).bind _ = _
 rw [h H2 hs, h1]; rfl
theorem Pures.const {H : List (Blk G.E.T)} {F : List Nat} (v : Option (PV G.E.T)) : Pures H F fun H => v.bind fun v => PK v H := .of (f := fun _ => v) fun _ _ => rfl
theorem Pures.congr {H : List (Blk G.E.T)} {F : List Nat} {f g : List (Blk G.E.T) → Option (PV G.E.T × List (Blk G.E.T))} (h : Pures H F g) (e : ∀ H, f H = g H) : Pures H F f := by
 intro p h' hf
 rw [e] at hf
 obtain ⟨h1, h2⟩ := h p h' hf
 exact ⟨h1, fun H2 hs => by rw [e]; exact h2 H2 hs⟩
theorem Pures.none {H : List (Blk G.E.T)} {F : List Nat} : Pures H F fun _ => none := fun p h' h => by cases h
theorem Pures.some {H : List (Blk G.E.T)} {F : List Nat} (v : PV G.E.T) : Pures H F fun H => PK v H := .const (Option.some v)
theorem bounds_pures {H : List (Blk G.E.T)} {F : List Nat} {n : Nat} {lo hi : Option (PV G.E.T)} (K : Nat → Nat → PV G.E.T) : Pures H F fun H => boundsV G n lo hi fun l h => PK (K l h) H :=
 (Pures.const (boundsV G n lo hi fun l h => some (K l h))).congr fun H => by rw [← boundsV_k]; rfl
theorem sliceV_arr {H : List (Blk G.E.T)} {t : TypeId} {id ep : Nat} {lo hi : Option (PV G.E.T)} : sliceV G H false t (.arr id ep) lo hi PK = (match getL H id with
   | some (.ints _ _ ep' xs) => match isInts G t, Nat.beq ep ep' with
    | true, true => boundsV G xs.length lo hi fun l h => PK (.sub id ep l (h - l)) H
    | _, _ => none
   | some (.rows _ i ep' xs) => match isRows G t i, Nat.beq ep ep' with
    | true, true => boundsV G xs.length lo hi fun l h => PK (.sub id ep l (h - l)) H
    | _, _ => none
   | _ => none) := by
 simp only [sliceV]
 cases getL H id with
 | none => rfl
 | some b => cases b <;> rfl
theorem sliceV_pures {H : List (Blk G.E.T)} {t : TypeId} {x : PV G.E.T} {lo hi : Option (PV G.E.T)} : Pures H x.ids fun H => sliceV G H false t x lo hi PK := by
 have row : ∀ {id ep : Nat} {f : Option (Blk G.E.T) → List (Blk G.E.T) → Option (PV G.E.T × List (Blk G.E.T))}, (∀ b, Pures H [id] fun H => f b H) → Pures H [id] fun H => f (getL H id) H := by
  intro id ep f hf p h' hh
  obtain ⟨h1, h2⟩ := hf (getL H id) p h' hh
  exact ⟨h1, fun H2 hs => by show f (getL H2 id) H2 = _; rw [hs id (by simp)]; exact h2 H2 hs⟩
 cases x
 case arr id ep =>
  refine Pures.congr ?_ fun H => sliceV_arr
  refine row (ep := ep) (f := fun b H => match b with
   | some (.ints _ _ ep' xs) => match isInts G t, Nat.beq ep ep' with
    | true, true => boundsV G xs.length lo hi fun l h => PK (.sub id ep l (h - l)) H
    | _, _ => none
   | some (.rows _ i ep' xs) => match isRows G t i, Nat.beq ep ep' with
    | true, true => boundsV G xs.length lo hi fun l h => PK (.sub id ep l (h - l)) H
    | _, _ => none
   | _ => none) fun b => ?_
  split
  ·split
   ·exact bounds_pures _
   ·exact .none
  ·split
   ·exact bounds_pures _
   ·exact .none
  ·exact .none
 all_goals simp only [sliceV]
 case str s =>
  split
  ·exact bounds_pures _
  ·exact .none
 case ints k xs =>
  split
  ·exact bounds_pures _
  ·exact .none
 case rows i xs =>
  split
  ·exact bounds_pures _
  ·exact .none
 case nilsl =>
  split
  ·split
   ·exact bounds_pures _
   ·exact .none
  ·exact .none
 case sub id ep off len =>
  refine row (ep := ep) (f := fun b H => match b with
   | some (.ints _ _ ep' _) => match isInts G t, Nat.beq ep ep' with
    | true, true => boundsV G len lo hi fun l h => PK (.sub id ep (off + l) (h - l)) H
    | _, _ => none
   | some (.rows _ i ep' _) => match isRows G t i, Nat.beq ep ep' with
    | true, true => boundsV G len lo hi fun l h => PK (.sub id ep (off + l) (h - l)) H
    | _, _ => none
   | _ => none) fun b => ?_
  split
  ·split
   ·exact bounds_pures _
   ·exact .none
  ·split
   ·exact bounds_pures _
   ·exact .none
  ·exact .none
 all_goals exact .none
end
end Go.Proofs.YtgffdmgidnnedaaGreat.V
