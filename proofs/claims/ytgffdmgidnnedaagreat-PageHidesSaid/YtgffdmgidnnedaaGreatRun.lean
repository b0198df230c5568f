/- The value reading: its operations, its code, its calls. Definitions alone. -/
import Derived.Test.YtgffdmgidnnedaaGreatVal
namespace Go.Proofs.YtgffdmgidnnedaaGreat.V
open Go
/-- one way in which a function may come back: the shapes of its results, and of the blocks -/
abbrev Way := List TSh × List BSh
def Way.leaves (a : Way) : List Leaf := TSh.leavesL a.1 ++ BSh.leavesL a.2
structure Sig where
 ps : List TSh := []
 pb : List BSh := []
 rs : List TSh := []
 rb : List BSh := []
 /-- further ways to come back -/
 more : List (List TSh × List BSh) := []
structure Ann where
 calls : List (Nat × Nat) := []
 loops : List (Nat × Cut × List (Ex × Cut)) := []
 joins : List (Nat × List (Ex × Cut)) := []
 cuts : List Nat := []
 /-- loops that are run as they are, so many times at most -/
 unroll : List (Nat × Nat) := []
 /-- in a region whose order is drawn: operations whose new block lies in a place that was kept for it -/
 slots : List (Nat × Nat) := []
 /-- how many places a region keeps -/
 pads : List (Nat × Nat) := []
 /-- regions that are run in several orders: operations that are put in each order that they may have, and an order of all for each of these -/
 orders : List (Nat × List Nat × List (List Nat)) := []
structure FInst where
 fid : Nat
 sig : Sig
 ann : Ann
def Sig.ins (s : Sig) : List Leaf := TSh.leavesL s.ps ++ BSh.leavesL s.pb
def Sig.way (s : Sig) : Way := (s.rs, s.rb)
/-- what comes out of a function that may come back in several ways -/
def OutT (T : Nat → Type) : Way → List Way → Type
 | a, [] => Pay T a.leaves
 | a, b :: l => Pay T a.leaves ⊕ OutT T b l
def Sig.Out (T : Nat → Type) (s : Sig) : Type := OutT T s.way s.more
def getOut {T : Nat → Type} {R : Type} : (a : Way) → (l : List Way) → OutT T a l → (Way → List (LV T) → Option R) → Option R
 | a, [], q, k => k a (toL a.leaves q)
 | a, b :: l, q, k => match q with
  | .inl q => k a (toL a.leaves q)
  | .inr q => getOut b l q k
def Sig.get {T : Nat → Type} {R : Type} (s : Sig) (q : s.Out T) (k : Way → List (LV T) → Option R) : Option R := getOut s.way s.more q k
structure Prg where
 P : Program
 E : Env
 el : TypeId → Option EK
 F : Nat → FInst
 /-- functions that have no body, and compare two lists of bytes -/
 cmp : Nat → Bool := fun _ => false
 /-- maps whose entries are told: of which kind an entry is -/
 ents : List (TypeId × Nat) := []
/-! ### What leads back to what was lent -/
mutual
def TSh.holds : TSh → Bool
 | .ints _ => true
 | .rows _ => true
 | .agg l => TSh.holdsL l
 | .fn _ l => TSh.holdsL l
 | _ => false
def TSh.holdsL : List TSh → Bool
 | [] => false
 | s :: l => match s.holds with
  | true => true
  | false => TSh.holdsL l
end
def BSh.holds (E : Env) : BSh → Bool
 | .box cells => TSh.holdsL cells
 | .ints _ _ => false
 | .rows i _ => !E.flat i
 | .same => false
 | .gone => false
 | .mp _ => false
 | .mpr _ i => !E.flat i
def BSh.holdsL (E : Env) : List BSh → Bool
 | [] => false
 | b :: l => match b.holds E with
  | true => true
  | false => BSh.holdsL E l
def waysHold (E : Env) : List Way → Bool
 | [] => false
 | a :: l => match TSh.holdsL a.1, BSh.holdsL E a.2 with
  | false, false => waysHold E l
  | _, _ => true
def Sig.holds (E : Env) (s : Sig) : Bool := waysHold E (s.way :: s.more)
/-- no way has blocks -/
def waysBare : List Way → Bool
 | [] => true
 | a :: l => match a.2 with
  | [] => waysBare l
  | _ :: _ => false
def Sig.bare (s : Sig) : Bool := waysBare (s.way :: s.more)
section
variable (G : Prg) {R : Type}
abbrev TT := G.E.T
abbrev Rec := (i : Nat) → Pay G.E.T (G.F i).sig.ins → Option ((G.F i).sig.Out G.E.T)
def lookN {α : Type} (t : Nat) : List (Nat × α) → Option α
 | [] => none
 | (u, v) :: r => match Nat.beq t u with
  | true => some v
  | false => lookN t r
def evals {T : Nat → Type} (env : List (Nat × PV T)) : List Operand → List (PV T)
 | [] => []
 | x :: l => eval env x :: evals env l
def evalParts {T : Nat → Type} (env : List (Nat × PV T)) : List (Nat × Operand) → List (Nat × PV T)
 | [] => []
 | (i, x) :: l => (i, eval env x) :: evalParts env l
def cellsP {T : Nat → Type} : PV T → List (PV T)
 | .agg l => l
 | v => [v]
def ofConsts {T : Nat → Type} : List Value → List (PV T)
 | [] => []
 | v :: l => ofConst v :: ofConsts l
def typeSize (t : TypeId) : Option Nat := match G.P.info? t with
 | some i => some i.size
 | none => none
def typeBytes (t : TypeId) : Option Nat := match G.P.info? t with
 | some i => some i.bytes
 | none => none
def zeroCellsP (t : TypeId) : Option (List (PV G.E.T)) := match G.P.info? t with
 | some i => match i.zero with
  | some v => match allOne (T := G.E.T) (ofConsts v.cells.toList) with
   | true => some (ofConsts v.cells.toList)
   | false => none
  | none => none
 | none => none
/-- a struct's cells, at first -/
def zeroAggP (t : TypeId) : Option (List (PV G.E.T)) := match G.P.info? t with
 | some i => match i.zero with
  | some (.agg cs) => match allOne (T := G.E.T) (ofConsts cs.toList) with
   | true => some (ofConsts cs.toList)
   | false => none
  | _ => none
 | none => none
def isAggT (t : TypeId) : Option Bool := match G.P.underlying t with
 | some (.struct _) => some true
 | some (.array _ _) => some true
 | some _ => some false
 | none => none
def elemT (t : TypeId) : Option TypeId := match G.P.underlying t with
 | some (.slice e) => some e
 | _ => none
def fieldOff (s : TypeId) (f : Nat) : Option Nat := match G.P.underlying s with
 | some (.struct fields) => match fields.toList[f]? with
  | some fd => match typeSize G fd.type with
   | some (_ + 1) => some fd.offset
   | _ => none
  | none => none
 | _ => none
def fieldT (s : TypeId) (f : Nat) : Option TypeId := match G.P.underlying s with
 | some (.struct fields) => match fields.toList[f]? with
  | some fd => some fd.type
  | none => none
 | _ => none
/-- of cells: the value of a type -/
def packT (t : TypeId) (l : List (PV G.E.T)) : Option (PV G.E.T) := match isAggT G t with
 | some true => match typeSize G t with
  | some n => match takeL n l with
   | some r => some (.agg r)
   | none => none
  | none => none
 | some false => match l with
  | v :: _ => some v
  | [] => none
 | none => none
/-- a value that goes into an element: what it owns stands still from now on -/
def freezeP {T : Nat → Type} (heap : List (Blk T)) : PV T → Option (PV T × List (Blk T))
 | .int k n => some (.int k n, heap)
 | .bool b => some (.bool b, heap)
 | .str s => some (.str s, heap)
 | .ints k xs => some (.ints k xs, heap)
 | .rows i xs => some (.rows i xs, heap)
 | .nilsl => some (.nilsl, heap)
 | .arr id ep => match getL heap id with
  | some (.ints .own k ep' xs) => match Nat.beq ep ep' with
   | true => some (.ints k xs, setL heap id (.ints .frozen k ep' xs))
   | false => none
  | some (.ints .frozen k ep' xs) => match Nat.beq ep ep' with
   | true => some (.ints k xs, heap)
   | false => none
  | some (.rows .own i ep' xs) => match Nat.beq ep ep' with
   | true => some (.rows i xs, setL heap id (.rows .frozen i ep' xs))
   | false => none
  | some (.rows .frozen i ep' xs) => match Nat.beq ep ep' with
   | true => some (.rows i xs, heap)
   | false => none
  | _ => none
 | .sub id ep off len => match getL heap id with
  | some (.ints .own k ep' xs) => match Nat.beq ep ep' with
   | true => some (.ints k ((xs.drop off).take len), setL heap id (.ints .frozen k ep' xs))
   | false => none
  | some (.ints .frozen k ep' xs) => match Nat.beq ep ep' with
   | true => some (.ints k ((xs.drop off).take len), heap)
   | false => none
  | some (.rows .own i ep' xs) => match Nat.beq ep ep' with
   | true => some (.rows i ((xs.drop off).take len), setL heap id (.rows .frozen i ep' xs))
   | false => none
  | some (.rows .frozen i ep' xs) => match Nat.beq ep ep' with
   | true => some (.rows i ((xs.drop off).take len), heap)
   | false => none
  | _ => none
 | _ => none
def freezePs {T : Nat → Type} : List (Blk T) → List (PV T) → Option (List (PV T) × List (Blk T))
 | heap, [] => some ([], heap)
 | heap, v :: l => match freezeP heap v with
  | some (v, heap) => match freezePs heap l with
   | some (l, heap) => some (v :: l, heap)
   | none => none
  | none => none
/-! ### Operations -/
/-- a large array of whole numbers: one list -/
def bigArr {T : Nat → Type} (z : List (PV T)) : Option (IntKind × List Int) := match Nat.blt 32 z.length, Nat.ble z.length 100000000 with
 | true, true => intsK z.length z
 | _, _ => none
def allocB {T : Nat → Type} (z : List (PV T)) (ep : Nat) : Blk T := match bigArr z with
 | some (k, xs) => .ints .own k ep xs
 | none => .box .own z
def allocP {T : Nat → Type} (z : List (PV T)) (id ep : Nat) : PV T := match bigArr z with
 | some _ => .eptr id ep 0 0
 | none => .ptr id 0
def cmpI : List Int → List Int → Int
 | [], [] => 0
 | [], _ :: _ => -1
 | _ :: _, [] => 1
 | a :: l, b :: m => if a < b then -1 else if b < a then 1 else cmpI l m
def cmpV (heap : List (Blk G.E.T)) (f : Nat) (args : List (PV G.E.T)) : Option (PV G.E.T) := match G.cmp f, args with
 | true, [x, y] => match intsOf heap .u8 x, intsOf heap .u8 y with
  | some (xs, _), some (ys, _) => some (.int .i64 (cmpI xs ys))
  | _, _ => none
 | _, _ => none
def loadV (heap : List (Blk G.E.T)) (t : TypeId) (a : PV G.E.T) (K : PV G.E.T → Option R) : Option R :=
 match a with
 | .ptr id off => match getL heap id with
  | some (.box _ cells) => match dropL off cells with
   | some l => match packT G t l with
    | some v => K v
    | none => none
   | none => none
  | _ => none
 | .fptr l => match packT G t l with
  | some v => K v
  | none => none
 | .eptr id ep i fld => match getL heap id with
  | some (.ints _ k ep' xs) => match Nat.beq ep ep', fld, isAggT G t with
   | true, 0, some false => K (.int k (rd xs i))
   | _, _, _ => none
  | some (.rows _ j ep' xs) => match Nat.beq ep ep' with
   | true => (xs[i.toNat]?).bind fun x => match dropL fld (G.E.outs j x) with
    | some l => match packT G t l with
     | some v => K v
     | none => none
    | none => none
   | false => none
  | _ => none
 | .aptr id off n i => match getL heap id with
  | some (.box _ cells) => match dropL off cells with
   | some l => match intsK n l, isAggT G t with
    | some (k, xs), some false => K (.int k (rd xs i))
    | _, _ => none
   | none => none
  | _ => none
 | _ => none
def storeV (heap : List (Blk G.E.T)) (t : TypeId) (a v : PV G.E.T) (K : List (Blk G.E.T) → Option R) : Option R :=
 match typeSize G t with
 | none => none
 | some n => match Nat.beq n (cellsP v).length, allOne (cellsP v) with
  | false, _ => none
  | _, false => none
  | true, true => match a with
   | .ptr id off => match getL heap id with
    | some (.box .own cells) => match replL cells off (cellsP v) with
     | some cells => K (setL heap id (.box .own cells))
     | none => none
    | _ => none
   | .eptr id ep i fld => match getL heap id with
    | some (.ints .own k ep' xs) => match Nat.beq ep ep', fld, v with
     | true, 0, .int k' x => match decide (k = k') with
      | true => K (setL heap id (.ints .own k ep' (xs.set i.toNat x)))
      | false => none
     | _, _, _ => none
    | some (.rows .own _ _ _) => match freezePs heap (cellsP v) with
     | some (cells, heap) => match getL heap id with
      | some (.rows .own j ep' xs) => match Nat.beq ep ep' with
       | true => (xs[i.toNat]?).bind fun x => match replL (G.E.outs j x) fld cells with
        | some l => match G.E.inn j l with
         | some y => K (setL heap id (.rows .own j ep' (xs.set i.toNat y)))
         | none => none
        | none => none
       | false => none
      | _ => none
     | none => none
    | _ => none
   | .aptr id off n i => match getL heap id, v with
    | some (.box .own cells), .int k x => match dropL off cells with
     | some l => match intsK n l with
      | some (k', xs) => match decide (k = k'), replL cells off (updInts k i x 0 xs) with
       | true, some cells => K (setL heap id (.box .own cells))
       | _, _ => none
      | none => none
     | none => none
    | _, _ => none
   | _ => none
def isIntT (t : TypeId) : Bool := match G.P.underlying t with
 | some (.int _) => true
 | _ => false
def fieldAddrV (s : TypeId) (x : PV G.E.T) (f : Nat) (K : PV G.E.T → Option R) : Option R :=
 match fieldOff G s f with
 | none => none
 | some o => match x with
  | .ptr id off => K (.ptr id (off + o))
  | .eptr id ep i fld => K (.eptr id ep i (fld + o))
  | .fptr l => match dropL o l with
   | some l => K (.fptr l)
   | none => none
  | _ => none
/-- an index that is not known: one of few -/
def splitIx (i : Int) : Nat → (Nat → Option R) → Option R
 | 0, _ => none
 | n + 1, K => if i = (n : Int) then K n else splitIx i n K
/-- .. or of many -/
def atIx (i : Int) (n : Nat) (K : Nat → Option R) : Option R := match Nat.ble n 8 with
 | true => splitIx i n K
 | false => K i.toNat
def indexAddrV (heap : List (Blk G.E.T)) (t : TypeId) (x i : PV G.E.T) (K : PV G.E.T → Option R) : Option R :=
 match i with
 | .int _ i => match elemT G t with
  | some e => match G.el e with
   | some (.int _) => match x with
    | .ints k xs => if 0 ≤ i ∧ i < (xs.length : Int) then K (.fptr [.int k (rd xs i)]) else none
    | .arr id ep => match getL heap id with
     | some (.ints _ _ ep' xs) => match Nat.beq ep ep' with
      | true => if 0 ≤ i ∧ i < (xs.length : Int) then K (.eptr id ep i 0) else none
      | false => none
     | _ => none
    | .sub id ep off len => match getL heap id with
     | some (.ints _ _ ep' _) => match Nat.beq ep ep' with
      | true => if 0 ≤ i ∧ i < (len : Int) then K (.eptr id ep ((off : Int) + i) 0) else none
      | false => none
     | _ => none
    | _ => none
   | some (.row n) => match x with
    | .rows j xs => match Nat.beq j n with
     | true => if 0 ≤ i then (xs[i.toNat]?).bind fun x => K (.fptr (G.E.outs j x)) else none
     | false => none
    | .arr id ep => match getL heap id with
     | some (.rows _ j ep' xs) => match Nat.beq ep ep', Nat.beq j n with
      | true, true => if 0 ≤ i ∧ i < (xs.length : Int) then K (.eptr id ep i 0) else none
      | _, _ => none
     | _ => none
    | .sub id ep off len => match getL heap id with
     | some (.rows _ j ep' _) => match Nat.beq ep ep', Nat.beq j n with
      | true, true => if 0 ≤ i ∧ i < (len : Int) then K (.eptr id ep ((off : Int) + i) 0) else none
      | _, _ => none
     | _ => none
    | _ => none
   | none => none
  | none => match x with
   | .eptr id ep j fld => match getL heap id, G.P.underlying t with
    | some (.ints _ _ ep' xs), some (.array n e) => match Nat.beq ep ep', fld, decide (j = 0), typeSize G e with
     | true, 0, true, some 1 => if 0 ≤ i ∧ i < (n : Int) ∧ i < (xs.length : Int) then K (.eptr id ep i 0) else none
     | _, _, _, _ => none
    | some (.rows _ _ ep' _), some (.array n e) => match Nat.beq ep ep', typeSize G e with
     | true, some sz => if 0 ≤ i ∧ i < (n : Int) then K (.eptr id ep j (fld + i.toNat * sz)) else none
     | _, _ => none
    | _, _ => none
   | .fptr l => match G.P.underlying t with
    | some (.array n e) => match typeSize G e with
     | some sz => if 0 ≤ i ∧ i < (n : Int) then atIx i n fun j => (match dropL (j * sz) l with
      | some l => K (.fptr l)
      | none => none) else none
     | none => none
    | _ => none
   | .ptr id off => match G.P.underlying t with
    | some (.array n e) => match typeSize G e with
     | some sz => if 0 ≤ i ∧ i < (n : Int) then (match isIntT G e, sz with
      | true, 1 => K (.aptr id off n i)
      | _, _ => atIx i n fun j => K (.ptr id (off + j * sz))) else none
     | none => none
    | _ => none
   | _ => none
 | _ => none
def lenV (heap : List (Blk G.E.T)) (t : TypeId) (x : PV G.E.T) (K : PV G.E.T → Option R) : Option R :=
 match G.P.underlying t with
 | some (.array n _) => match Nat.ble n 100000000 with
  | true => K (.int .i64 n)
  | false => none
 | some .string => match x with
  | .str s => K (.int .i64 s.length)
  | _ => none
 | some (.slice _) => match x with
  | .ints _ xs => K (.int .i64 xs.length)
  | .rows _ xs => K (.int .i64 xs.length)
  | .nilsl => K (.int .i64 0)
  | .sub id ep _ len => match getL heap id with
   | some (.ints _ _ ep' _) => match Nat.beq ep ep' with
    | true => K (.int .i64 len)
    | false => none
   | some (.rows _ _ ep' _) => match Nat.beq ep ep' with
    | true => K (.int .i64 len)
    | false => none
   | _ => none
  | .arr id ep => match getL heap id with
   | some (.ints _ _ ep' xs) => match Nat.beq ep ep' with
    | true => K (.int .i64 xs.length)
    | false => none
   | some (.rows _ _ ep' xs) => match Nat.beq ep ep' with
    | true => K (.int .i64 xs.length)
    | false => none
   | _ => none
  | _ => none
 | _ => none
/-- what an append puts behind: whole numbers, out of a slice or a string -/
def moreInts {T : Nat → Type} (heap : List (Blk T)) (k : IntKind) : PV T → Option (List Int)
 | .str s => match k with
  | .u8 => some s
  | _ => none
 | v => match intsOf heap k v with
  | some (xs, _) => some xs
  | none => none
def appendV (heap : List (Blk G.E.T)) (t : TypeId) (s x : PV G.E.T) (K : PV G.E.T → List (Blk G.E.T) → Option R) : Option R :=
 match elemT G t with
 | none => none
 | some e => match typeBytes G e, G.el e with
  | some b, some (.int k) => match moreInts heap k x with
   | none => none
   | some ys => match s with
    | .nilsl => if ys.length * b ≤ 140737488355328 then K (.arr heap.length 0) (heap ++ [.ints .own k 0 ys]) else none
    | .arr id ep => match getL heap id with
     | some (.ints .own k' ep' xs) => match Nat.beq ep ep', decide (k = k') with
      | true, true => if (xs.length + ys.length) * b ≤ 140737488355328 then K (.arr id (ep + 1)) (setL heap id (.ints .own k (ep + 1) (xs ++ ys))) else none
      | _, _ => none
     | _ => none
    | _ => none
  | some b, some (.row i) => match rowsOf heap i x with
   | none => none
   | some (ys, _) => match s with
    | .nilsl => if ys.length * b ≤ 140737488355328 then K (.arr heap.length 0) (heap ++ [.rows .own i 0 ys]) else none
    | .arr id ep => match getL heap id with
     | some (.rows .own j ep' xs) => match Nat.beq ep ep' with
      | true => if h : j = i then (if (xs.length + ys.length) * b ≤ 140737488355328 then K (.arr id (ep + 1)) (setL heap id (.rows .own i (ep + 1) (castR h xs ++ ys))) else none) else none
      | false => none
     | _ => none
    | _ => none
  | _, _ => none
/-- append of so many zeros to a nil slice -/
def appendZ (heap : List (Blk G.E.T)) (t : TypeId) (s x : PV G.E.T) (K : PV G.E.T → List (Blk G.E.T) → Option R) : Option R :=
 match elemT G t with
 | none => none
 | some e => match typeBytes G e, G.el e with
  | some b, some (.int k) => match s, x with
   | .nilsl, .int .i64 m => if 0 ≤ m ∧ m.toNat * b ≤ 140737488355328 then K (.arr heap.length 0) (heap ++ [.ints .own k 0 (List.replicate m.toNat 0)]) else none
   | _, _ => none
  | _, _ => none
/-- a whole row as a part of itself -/
def subOf {T : Nat → Type} (heap : List (Blk T)) : PV T → PV T
 | .arr id ep => match getL heap id with
  | some (.ints _ _ ep' xs) => match Nat.beq ep ep' with
   | true => .sub id ep 0 xs.length
   | false => .arr id ep
  | _ => .arr id ep
 | p => p
/-- what is told of a call of this function -/
def lookC (d f : Nat) : List (Nat × Nat) → Option Nat
 | [] => none
 | (u, i) :: r => match Nat.beq d u with
  | true => match Nat.beq (G.F i).fid f with
   | true => some i
   | false => lookC d f r
  | false => lookC d f r
/-- copy into a part of an own row -/
def copyV (heap : List (Blk G.E.T)) (t : TypeId) (d x : PV G.E.T) (K : PV G.E.T → List (Blk G.E.T) → Option R) : Option R :=
 match elemT G t with
 | none => none
 | some e => match typeSize G e, G.el e with
  | some 1, some (.int k) => match intsOf heap k x, d with
   | some (ys, _), .sub id ep off len => match getL heap id with
    | some (.ints .own k' ep' xs) => match Nat.beq ep ep', decide (k = k') with
     | true, true => K (.int .i64 ((min ys.length len : Nat) : Int)) (setL heap id (.ints .own k' ep' (xs.take off ++ ys.take (min ys.length len) ++ xs.drop (off + min ys.length len))))
     | _, _ => none
    | _ => none
   | _, _ => none
  | _, _ => none
/-- the elements that a literal lists, each at its place, none left out -/
def partInts {T : Nat → Type} (k : IntKind) : Nat → List (Nat × PV T) → Option (List Int)
 | _, [] => some []
 | n, (i, .int k' x) :: l => match Nat.beq i n, decide (k = k') with
  | true, true => match partInts k (n + 1) l with
   | some r => some (x :: r)
   | none => none
  | _, _ => none
 | _, _ => none
def partRows (i : Nat) : Nat → List (Blk G.E.T) → List (Nat × PV G.E.T) → Option (List (G.E.T i) × List (Blk G.E.T))
 | _, heap, [] => some ([], heap)
 | n, heap, (j, v) :: l => match Nat.beq j n with
  | true => match freezePs heap (cellsP v) with
   | some (cells, heap) => match G.E.inn i cells with
    | some x => match partRows i (n + 1) heap l with
     | some (r, heap) => some (x :: r, heap)
     | none => none
    | none => none
   | none => none
  | false => none
/-- where a new block lies: behind the others, or in a place kept for it -/
def plId {T : Nat → Type} (pl : Option Nat) (heap : List (Blk T)) : Nat := match pl with
 | none => heap.length
 | some s => s
def plEp (pl : Option Nat) : Nat := match pl with
 | none => 0
 | some _ => 1
def plPut {T : Nat → Type} (pl : Option Nat) (heap : List (Blk T)) (b : Blk T) : List (Blk T) := match pl with
 | none => heap ++ [b]
 | some s => setL heap s b
/-- is the place free? -/
def plOk {T : Nat → Type} (pl : Option Nat) (heap : List (Blk T)) : Bool := match pl with
 | none => true
 | some s => match getL heap s with
  | some (.ints .own _ 0 []) => true
  | _ => false
def buildSliceV (pl : Option Nat) (heap : List (Blk G.E.T)) (t : TypeId) (n : Nat) (parts : List (Nat × PV G.E.T)) (K : PV G.E.T → List (Blk G.E.T) → Option R) : Option R :=
 match elemT G t, Nat.beq n parts.length with
 | some e, true => match G.el e with
  | some (.int k) => match Nat.ble n 16777216, partInts k 0 parts with
   | true, some xs => match plOk pl heap with
    | true => K (.arr (plId pl heap) (plEp pl)) (plPut pl heap (.ints .own k (plEp pl) xs))
    | false => none
   | _, _ => none
  | some (.row i) => match Nat.ble (n * G.E.sz i) 16777216, partRows G i 0 heap parts with
   | true, some (xs, heap) => match plOk pl heap with
    | true => K (.arr (plId pl heap) (plEp pl)) (plPut pl heap (.rows .own i (plEp pl) xs))
    | false => none
   | _, _ => none
  | none => none
 | _, _ => none
/-- a struct or an array out of its parts -/
def fillV {T : Nat → Type} (place : Nat → Option (Nat × Nat)) (cells : List (PV T)) : List (Nat × PV T) → Option (List (PV T))
 | [] => some cells
 | (i, v) :: rest => match place i with
  | none => none
  | some (off, size) => match Nat.beq (cellsP v).length size with
   | true => match allOne (cellsP v), replL cells off (cellsP v) with
    | true, some cells => fillV place cells rest
    | _, _ => none
   | false => none
def placesV : List Field → Option (List (Nat × Nat))
 | [] => some []
 | f :: l => match typeSize G f.type, placesV l with
  | some n, some r => some ((f.offset, n) :: r)
  | _, _ => none
def buildV (t : TypeId) (parts : List (Nat × PV G.E.T)) (K : PV G.E.T → Option R) : Option R :=
 match zeroCellsP G t with
 | none => none
 | some z => match G.P.underlying t with
  | some (.struct fields) => match placesV G fields.toList with
   | some places => match fillV (getL places) z parts with
    | some cells => K (.agg cells)
    | none => none
   | none => none
  | some (.array _ e) => match typeSize G e with
   | some n => match fillV (fun i => some (i * n, n)) z parts with
    | some cells => K (.agg cells)
    | none => none
   | none => none
  | _ => none
def makeSliceV (pl : Option Nat) (heap : List (Blk G.E.T)) (t : TypeId) (l c : PV G.E.T) (K : PV G.E.T → List (Blk G.E.T) → Option R) : Option R :=
 match elemT G t, l, c, plOk pl heap with
 | some e, .int .i64 l, .int .i64 c, true => match typeBytes G e, G.el e with
  | some b, some (.int k) => if 0 ≤ l ∧ l ≤ c ∧ (b : Int) * c ≤ 281474976710656 then K (.arr (plId pl heap) (plEp pl)) (plPut pl heap (.ints .own k (plEp pl) (List.replicate l.toNat 0))) else none
  | some b, some (.row i) => match zeroCellsP G e with
   | some z => match G.E.inn i z with
    | some x => if 0 ≤ l ∧ l ≤ c ∧ (b : Int) * c ≤ 281474976710656 then K (.arr (plId pl heap) (plEp pl)) (plPut pl heap (.rows .own i (plEp pl) (List.replicate l.toNat x))) else none
    | none => none
   | none => none
  | _, _ => none
 | _, _, _, _ => none
/-- the bounds of a slice of n elements: from, to -/
def boundsV (n : Nat) (lo hi : Option (PV G.E.T)) (K : Nat → Nat → Option R) : Option R :=
 match hi with
 | none => match lo with
  | none => K 0 n
  | some (.int _ l) => if 0 ≤ l ∧ l ≤ (n : Int) then K l.toNat n else none
  | some _ => none
 | some (.int _ h) => match lo with
  | none => if 0 ≤ h ∧ h ≤ (n : Int) then K 0 h.toNat else none
  | some (.int _ l) => if 0 ≤ h ∧ h ≤ (n : Int) then (if 0 ≤ l ∧ l ≤ h then K l.toNat h.toNat else none) else none
  | some _ => none
 | some _ => none
def cutL {α : Type} (xs : List α) (l h : Nat) : List α := (xs.take h).drop l
def isInts (t : TypeId) : Bool := match elemT G t with
 | some e => match G.el e with
  | some (.int _) => true
  | _ => false
 | none => false
def isRows (t : TypeId) (j : Nat) : Bool := match elemT G t with
 | some e => match G.el e with
  | some (.row n) => Nat.beq j n
  | _ => false
 | none => false
def sliceV (heap : List (Blk G.E.T)) (cutting : Bool) (t : TypeId) (x : PV G.E.T) (lo hi : Option (PV G.E.T)) (K : PV G.E.T → List (Blk G.E.T) → Option R) : Option R :=
 match x with
 | .str s => match G.P.underlying t with
  | some .string => boundsV G s.length lo hi fun l h => K (.str (cutL s l h)) heap
  | _ => none
 | .ints k xs => match isInts G t with
  | true => boundsV G xs.length lo hi fun l h => K (.ints k (cutL xs l h)) heap
  | false => none
 | .rows i xs => match isRows G t i with
  | true => boundsV G xs.length lo hi fun l h => K (.rows i (cutL xs l h)) heap
  | false => none
 | .nilsl => match elemT G t with
  | some e => match typeSize G e with
   | some _ => boundsV G 0 lo hi fun _ _ => K .nilsl heap
   | none => none
  | none => none
 | .arr id ep => match cutting, getL heap id with
  | true, some (.ints .own k ep' xs) => match isInts G t, Nat.beq ep ep' with
   | true, true => boundsV G xs.length lo hi fun l h => K (.arr id (ep + 1)) (setL heap id (.ints .own k (ep + 1) (cutL xs l h)))
   | _, _ => none
  | true, some (.rows .own i ep' xs) => match isRows G t i, Nat.beq ep ep' with
   | true, true => boundsV G xs.length lo hi fun l h => K (.arr id (ep + 1)) (setL heap id (.rows .own i (ep + 1) (cutL xs l h)))
   | _, _ => none
  | false, some (.ints _ _ ep' xs) => match isInts G t, Nat.beq ep ep' with
   | true, true => boundsV G xs.length lo hi fun l h => K (.sub id ep l (h - l)) heap
   | _, _ => none
  | false, some (.rows _ i ep' xs) => match isRows G t i, Nat.beq ep ep' with
   | true, true => boundsV G xs.length lo hi fun l h => K (.sub id ep l (h - l)) heap
   | _, _ => none
  | _, _ => none
 | .sub id ep off len => match getL heap id with
  | some (.ints _ _ ep' _) => match isInts G t, Nat.beq ep ep' with
   | true, true => boundsV G len lo hi fun l h => K (.sub id ep (off + l) (h - l)) heap
   | _, _ => none
  | some (.rows _ i ep' _) => match isRows G t i, Nat.beq ep ep' with
   | true, true => boundsV G len lo hi fun l h => K (.sub id ep (off + l) (h - l)) heap
   | _, _ => none
  | _ => none
 | _ => none
def convertV (heap : List (Blk G.E.T)) (src dst : TypeId) (x : PV G.E.T) (K : PV G.E.T → List (Blk G.E.T) → Option R) : Option R :=
 match G.P.underlying src, G.P.underlying dst with
 | some _, some (.int k) => match x with
  | .int _ n => K (.int k (k.wrap n)) heap
  | _ => none
 | some .string, some .string => match x with
  | .str s => K (.str s) heap
  | _ => none
 | some (.slice e), some .string => match G.el e with
  | some (.int .u8) => match intsOf heap .u8 x with
   | some (xs, _) => K (.str xs) heap
   | none => none
  | _ => none
 | some (.int _), some .string => match x with
  | .int _ n => if 0 ≤ n ∧ n < 128 then K (.str [n]) heap else none
  | _ => none
 | some .string, some (.slice e) => match x, G.el e with
  | .str s, some (.int .u8) => K (.arr heap.length 0) (heap ++ [.ints .own .u8 0 s])
  | _, _ => none
 | some (.slice e), some (.slice _) => match Nat.beq src dst, G.el e, x with
  | true, some (.int .u8), .arr id ep => match getL heap id with
   | some (.ints .own .u8 ep' xs) => match Nat.beq ep ep' with
    | true => if 0 < xs.length then K (.ints .u8 xs) (setL heap id .gone) else none
    | false => none
   | _ => none
  | _, _, _ => none
 | _, _ => none
def imax (a b : Int) : Int := if b > a then b else a
def imin (a b : Int) : Int := if b < a then b else a
def foldMM {T : Nat → Type} (mx : Bool) (k : IntKind) : Int → List (PV T) → Option Int
 | a, [] => some a
 | a, .int k' b :: l => match decide (k = k'), mx with
  | true, true => foldMM mx k (imax a b) l
  | true, false => foldMM mx k (imin a b) l
  | false, _ => none
 | _, _ => none
/-! ### Calls -/
/-- where a callee's blocks lie with the caller: the block, its mark; j counts, n is the next new one -/
def places {T : Nat → Type} (heap : List (Blk T)) (cs : CS) (m : Nat) : Nat → Nat → List BSh → List (Nat × Nat)
 | _, _, [] => []
 | j, n, b :: l => match Nat.blt j m, lookB j cs.bind with
  | true, some (some a) => (match keepB b with
   | true => (a, epOf heap a)
   | false => (a, epOf heap a + 1)) :: places heap cs m (j + 1) n l
  | _, _ => (n, 0) :: places heap cs m (j + 1) (n + 1) l
def ρof (l : List (Nat × Nat)) (j : Nat) : Nat × Nat := match getL l j with
 | some p => p
 | none => (0, 0)
def freezeIds {T : Nat → Type} : List (Blk T) → List Nat → Option (List (Blk T))
 | heap, [] => some heap
 | heap, id :: l => match getL heap id with
  | some (.ints .own k ep xs) => freezeIds (setL heap id (.ints .frozen k ep xs)) l
  | some (.rows .own i ep xs) => freezeIds (setL heap id (.rows .frozen i ep xs)) l
  | some (.ints .frozen _ _ _) => freezeIds heap l
  | some (.rows .frozen _ _ _) => freezeIds heap l
  | _ => none
/-- the caller's blocks behind a call: those that the callee had go back to their places, the others lie behind -/
def giveBack {T : Nat → Type} : List (Nat × Nat) → List (Blk T) → List (Blk T) → List (Blk T)
 | p :: ps, b :: l, heap => match Nat.blt p.1 heap.length with
  | true => giveBack ps l (setL heap p.1 b)
  | false => giveBack ps l (heap ++ [b])
 | _, _, heap => heap
def resV {T : Nat → Type} : List (PV T) → PV T
 | [] => .tup []
 | v :: l => match l with
  | [] => v
  | _ :: _ => .tup (v :: l)
def noSame : List BSh → Bool
 | [] => true
 | .same :: _ => false
 | _ :: l => noSame l
def noSameW : List Way → Bool
 | [] => true
 | a :: l => match noSame a.2 with
  | true => noSameW l
  | false => false
def callV (rec : Rec G) (i : Nat) (heap : List (Blk G.E.T)) (args : List (PV G.E.T)) (K : PV G.E.T → List (Blk G.E.T) → Option R) : Option R :=
 match castAll (G.F i).sig.ps args (G.F i).sig.pb [] heap, noSameW ((G.F i).sig.way :: (G.F i).sig.more) with
 | none, _ => none
 | _, false => none
 | some (a, cs), true => match ofL (G.F i).sig.ins a with
  | none => none
  | some p => match (match (G.F i).sig.holds G.E with
    | true => freezeIds heap cs.lent
    | false => some heap) with
   | none => none
   | some heap' => (rec i p).bind fun q => (G.F i).sig.get q fun a L =>
    match rebTs (ρof (places heap cs (G.F i).sig.pb.length 0 heap.length a.2)) a.1 L with
    | (vs, r) => K (resV vs)
     (giveBack (places heap cs (G.F i).sig.pb.length 0 heap.length a.2)
      (rebBs (ρof (places heap cs (G.F i).sig.pb.length 0 heap.length a.2)) 0 a.2 [] r) heap')
/-! ### Values of many parts that are compared -/
def eqAt (g : PV G.E.T → PV G.E.T → Option Bool) (t : TypeId) (off : Nat) (xs ys : List (PV G.E.T)) : Option Bool :=
 match dropL off xs, dropL off ys with
 | some a, some b => match packT G t a, packT G t b with
  | some p, some q => g p q
  | _, _ => none
 | _, _ => none
def eqFs (g : TypeId → PV G.E.T → PV G.E.T → Option Bool) (xs ys : List (PV G.E.T)) : List Field → Option Bool
 | [] => some true
 | f :: l => if f.name = "_" then eqFs g xs ys l else match eqAt G (g f.type) f.type f.offset xs ys, eqFs g xs ys l with
  | some a, some b => some (a && b)
  | _, _ => none
def eqNV (g : PV G.E.T → PV G.E.T → Option Bool) (t : TypeId) (sz : Nat) (xs ys : List (PV G.E.T)) : List Nat → Option Bool
 | [] => some true
 | i :: l => match eqAt G g t (i * sz) xs ys, eqNV g t sz xs ys l with
  | some a, some b => some (a && b)
  | _, _ => none
/-- do two values agree whose parts are numbers, bools and texts? -/
def aggEq : Nat → TypeId → PV G.E.T → PV G.E.T → Option Bool
 | 0, _, _, _ => none
 | d + 1, t, p, q => match G.P.underlying t, p, q with
  | some (.int _), .int k a, .int k' b => match decide (k = k') with
   | true => some (decide (a = b))
   | false => none
  | some .bool, .bool a, .bool b => some (decide (a = b))
  | some .string, .str a, .str b => some (decide (a = b))
  | some (.struct fs), .agg xs, .agg ys => match G.P.stoodInHeld t with
   | false => eqFs G (aggEq d) xs ys fs.toList
   | true => none
  | some (.array n e), .agg xs, .agg ys => match typeSize G e with
   | some sz => eqNV G (aggEq d e) e sz xs ys (List.range n)
   | none => none
  | _, _, _ => none
def binOpA (t : TypeId) (op : BinOp) (p q : PV G.E.T) (K : PV G.E.T → Option R) : Option R :=
 match p, q with
 | .agg xs, .agg ys => match G.P.eqGuardType G.P.depth t, aggEq G 20 t (.agg xs) (.agg ys) with
  | false, some b => eqOp op b K
  | _, _ => none
 | p, q => binOpV (G.P.underlying t) op p q K
/-- a new map -/
def kkOf : TypeDesc → Option KK
 | .int k => some (.int k)
 | .string => some .str
 | _ => none
def makeMapV (pl : Option Nat) (heap : List (Blk G.E.T)) (t : TypeId) (K : PV G.E.T → List (Blk G.E.T) → Option R) : Option R :=
 match G.P.underlying t with
 | some (.map k _) => match G.P.underlying k, plOk pl heap with
  | some d, true => match lookN t G.ents, kkOf d with
   | none, some (.int k) => K (.mapr (plId pl heap)) (plPut pl heap (.mp .own k))
   | some i, some k => K (.mapr (plId pl heap)) (plPut pl heap (.mpr .own k i []))
   | _, _ => none
  | _, _ => none
 | _ => none
/-- the entry of a key -/
def findM {α : Type} (key : α → KV) (n : KV) : List α → Option α
 | [] => none
 | x :: l => if key x = n then some x else findM key n l
/-- an entry in the place of that of its key, or behind all -/
def putM {α : Type} (key : α → KV) (y : α) : List α → List α
 | [] => [y]
 | x :: l => if key x = key y then y :: l else x :: putM key y l
/-- without the entry of a key -/
def delM {α : Type} (key : α → KV) (n : KV) : List α → List α
 | [] => []
 | x :: l => if key x = n then l else x :: delM key n l
def keyP {T : Nat → Type} : List (PV T) → KV
 | .int _ n :: _ => .int n
 | .str s :: _ => .str s
 | _ => .no
def tailP {T : Nat → Type} : List (PV T) → List (PV T)
 | _ :: l => l
 | [] => []
/-- a key of a kind -/
def kvOf {T : Nat → Type} : KK → PV T → Option KV
 | .int k, .int k' n => match decide (k = k') with
  | true => some (.int n)
  | false => none
 | .str, .str s => some (.str s)
 | _, _ => none
/-- what stands in a map: a struct, or one cell (an entry has two then) -/
def entFits {T : Nat → Type} (sz : Nat) : PV T → Bool
 | .agg _ => !Nat.beq sz 2
 | p => match p.one with
  | true => Nat.beq sz 2
  | false => false
def entP {T : Nat → Type} (sz : Nat) (l : List (PV T)) : PV T := match Nat.beq sz 2, l with
 | true, [p] => p
 | _, l => .agg l
/-- of a map: its kinds -/
def mapKK (t : TypeId) (k : KK) : Bool := match G.P.underlying t with
 | some (.map kt _) => match G.P.underlying kt with
  | some d => match kkOf d with
   | some k' => KK.beq k' k
   | none => false
  | none => false
 | _ => false
def mapUpdV (heap : List (Blk G.E.T)) (t : TypeId) (m k x : PV G.E.T) (K : List (Blk G.E.T) → Option R) : Option R :=
 match m with
 | .mapr id => match getL heap id with
  | some (.mp .own k3) => match mapKK G t (.int k3), kvOf (.int k3) k with
   | true, some _ => K heap
   | _, _ => none
  | some (.mpr .own _ _ _) => match allOne (cellsP x), freezePs heap (cellsP x) with
   | true, some (cells, heap) => match getL heap id with
    | some (.mpr .own k3 i xs) => match mapKK G t k3, kvOf k3 k, entFits (G.E.sz i) x, G.E.inn i (k :: cells) with
     | true, some _, true, some y => K (setL heap id (.mpr .own k3 i (putM (fun e => keyP (G.E.outs i e)) y xs)))
     | _, _, _, _ => none
    | _ => none
   | _, _ => none
  | _ => none
 | _ => none
/-- the cells of what is not there -/
def zeroOneP (t : TypeId) : Option (List (PV G.E.T)) := match G.P.info? t with
 | some i => match i.zero with
  | some v => match v.oneCell', allOne (T := G.E.T) (ofConsts [v]) with
   | true, true => some (ofConsts [v])
   | _, _ => none
  | none => none
 | none => none
def zeroEnt (sz : Nat) (t : TypeId) : Option (List (PV G.E.T)) := match G.P.underlying t with
 | some (.map _ et) => match Nat.beq sz 2 with
  | true => zeroOneP G et
  | false => zeroAggP G et
 | _ => none
/-- what a map has for a key -/
def lookupV (heap : List (Blk G.E.T)) (t : TypeId) (m k : PV G.E.T) (ok : Bool) (K : PV G.E.T → Option R) : Option R :=
 match m with
 | .mapr id => match getL heap id with
  | some (.mpr _ k3 i xs) => match mapKK G t k3, kvOf k3 k, zeroEnt G (G.E.sz i) t with
   | true, some n, some z => match G.E.inn i (k :: z) with
    | some y => match ok with
     | true => K (.tup [entP (G.E.sz i) (tailP (G.E.outs i ((findM (fun e => keyP (G.E.outs i e)) n xs).getD y))), .bool (findM (fun e => keyP (G.E.outs i e)) n xs).isSome])
     | false => K (entP (G.E.sz i) (tailP (G.E.outs i ((findM (fun e => keyP (G.E.outs i e)) n xs).getD y))))
    | none => none
   | _, _, _ => none
  | _ => none
 | _ => none
def deleteV (heap : List (Blk G.E.T)) (t : TypeId) (m k : PV G.E.T) (K : List (Blk G.E.T) → Option R) : Option R :=
 match m with
 | .mapr id => match getL heap id with
  | some (.mpr .own k3 i xs) => match mapKK G t k3, kvOf k3 k with
   | true, some n => K (setL heap id (.mpr .own k3 i (delM (fun e => keyP (G.E.outs i e)) n xs)))
   | _, _ => none
  | _ => none
 | _ => none
def vop (rec : Rec G) (ann : Ann) (pl : Option Nat) (o : Oper) (σ : St G.E.T) (K : PV G.E.T → List (Blk G.E.T) → Option R) : Option R :=
 match o.op with
 | .move x => K (eval σ.env x) σ.heap
 | .assign x => K (eval σ.env x) σ.heap
 | .pick c a b => match eval σ.env c with
  | .bool x => if x = true then K (eval σ.env a) σ.heap else K (eval σ.env b) σ.heap
  | _ => none
 | .binOp op t x y _ => binOpA G t op (eval σ.env x) (eval σ.env y) fun v => K v σ.heap
 | .unOp op _ x => unOpV op (eval σ.env x) fun v => K v σ.heap
 | .convert src dst x => convertV G σ.heap src dst (eval σ.env x) K
 | .alloc t => match zeroCellsP G t, plOk pl σ.heap with
  | some z, true => K (allocP z (plId pl σ.heap) (plEp pl)) (plPut pl σ.heap (allocB z (plEp pl)))
  | _, _ => none
 | .box _ x => match allOne (cellsP (eval σ.env x)) with
  | true => K (.ptr σ.heap.length 0) (σ.heap ++ [.box .own (cellsP (eval σ.env x))])
  | false => none
 | .build t parts => buildV G t (evalParts σ.env parts.toList) fun v => K v σ.heap
 | .buildSlice t n parts => buildSliceV G pl σ.heap t n (evalParts σ.env parts.toList) K
 | .makeSlice t l c => makeSliceV G pl σ.heap t (eval σ.env l) (eval σ.env c) K
 | .makeMap t none => makeMapV G pl σ.heap t K
 | .mapUpdate t m k x => mapUpdV G σ.heap t (eval σ.env m) (eval σ.env k) (eval σ.env x) fun h => K (.tup []) h
 | .lookup t m k ok => lookupV G σ.heap t (eval σ.env m) (eval σ.env k) ok fun v => K v σ.heap
 | .makeFunc (.func f) first captured => match first.toList with
  | [] => K (.fn f (evals σ.env captured.toList)) σ.heap
  | _ :: _ => none
 | .load t a => loadV G σ.heap t (eval σ.env a) fun v => K v σ.heap
 | .store t a x => storeV G σ.heap t (eval σ.env a) (eval σ.env x) fun h => K (.tup []) h
 | .nilCheck x => match eval σ.env x with
  | .ptr id off => K (.ptr id off) σ.heap
  | .eptr id ep i f => K (.eptr id ep i f) σ.heap
  | .fptr l => K (.fptr l) σ.heap
  | .fn f l => K (.fn f l) σ.heap
  | _ => none
 | .fieldAddr s x f => fieldAddrV G s (eval σ.env x) f fun v => K v σ.heap
 | .field s x f => match eval σ.env x, fieldOff G s f, fieldT G s f with
  | .agg l, some o, some t => match dropL o l with
   | some l => match packT G t l with
    | some v => K v σ.heap
    | none => none
   | none => none
  | _, _, _ => none
 | .indexAddr t x i => indexAddrV G σ.heap t (eval σ.env x) (eval σ.env i) fun v => K v σ.heap
 | .index t x i => match eval σ.env x, eval σ.env i with
  | .str s, .int _ i => match G.P.underlying t with
   | some .string => if 0 ≤ i ∧ i < (s.length : Int) then K (.int .u8 (rd s i)) σ.heap else none
   | _ => none
  | .agg l, .int _ i => match G.P.underlying t with
   | some (.array n e) => match typeSize G e with
    | some sz => if 0 ≤ i ∧ i < (n : Int) then (match isIntT G e, sz with
     | true, 1 => match intsK n l with
      | some (k, xs) => K (.int k (rd xs i)) σ.heap
      | none => none
     | _, _ => atIx i n fun j => match dropL (j * sz) l with
      | some l => match packT G e l with
       | some v => K v σ.heap
       | none => none
      | none => none) else none
    | none => none
   | _ => none
  | _, _ => none
 | .slice t x lo hi mx => match mx with
  | some _ => none
  | none => sliceV G σ.heap (match o.dst with
   | some d => memN d ann.cuts
   | none => false) t (eval σ.env x) (lo.map (eval σ.env)) (hi.map (eval σ.env)) K
 | .extract x i => match eval σ.env x with
  | .tup l => match getL l i with
   | some v => K v σ.heap
   | none => none
  | _ => none
 | .call c => match c.callee with
  | .value f => match eval σ.env f, o.dst with
   | .fn f caps, some d => match lookC G d f ann.calls with
    | some i => match Nat.beq (G.F i).fid f with
     | true => callV G rec i σ.heap (evals σ.env c.args.toList ++ caps) K
     | false => none
    | none => (cmpV G σ.heap f (evals σ.env c.args.toList ++ caps)).bind fun v => K v σ.heap
   | _, _ => none
  | .builtin .len => match c.args.toList, c.argTypes.toList with
   | [x], t :: _ => lenV G σ.heap t (eval σ.env x) fun v => K v σ.heap
   | _, _ => none
  | .builtin .cap => match c.args.toList, c.argTypes.toList with
   | [x], t :: _ => match eval σ.env x, G.P.underlying t with
    | .nilsl, some (.slice _) => K (.int .i64 0) σ.heap
    | _, _ => none
   | _, _ => none
  | .builtin .append => match c.args.toList, c.argTypes.toList with
   | [s, x], [t, tx] => match G.P.underlying tx with
    | some (.slice _) => appendV G σ.heap t (eval σ.env s) (eval σ.env x) K
    | some .string => appendV G σ.heap t (eval σ.env s) (eval σ.env x) K
    | some (.int _) => appendZ G σ.heap t (eval σ.env s) (eval σ.env x) K
    | _ => none
   | _, _ => none
  | .builtin .delete => match c.args.toList, c.argTypes.toList with
   | [m, k], t :: _ => deleteV G σ.heap t (eval σ.env m) (eval σ.env k) fun h => K (.tup []) h
   | _, _ => none
  | .builtin .copy => match c.args.toList, c.argTypes.toList with
   | [s, x], [t, _] => copyV G σ.heap t (subOf σ.heap (eval σ.env s)) (eval σ.env x) K
   | _, _ => none
  | .builtin .max => match evals σ.env c.args.toList with
   | .int k a :: l => match foldMM true k a l with
    | some n => K (.int k n) σ.heap
    | none => none
   | _ => none
  | .builtin .min => match evals σ.env c.args.toList with
   | .int k a :: l => match foldMM false k a l with
    | some n => K (.int k n) σ.heap
    | none => none
   | _ => none
  | _ => none
 | _ => none
/-! ### Code -/
/-- the temporary of operation j -/
def dstOf (ops : List Oper) (j : Nat) : Option Nat := match getL ops j with
 | some o => o.dst
 | none => none
def vops (rec : Rec G) (ann : Ann) (N : Nat) (ops : List Oper) : List Oper → St G.E.T → (St G.E.T → Option R) → Option R
 | [], σ, k => k σ
 | o :: rest, σ, k => match o.guard with
  | none => vop G rec ann none o σ fun v h => match put N o.dst v σ.env with
   | some env => vops rec ann N ops rest ⟨env, h⟩ k
   | none => none
  | some (j, want) => match dstOf ops j with
   | none => none
   | some g => match look g σ.env with
    | .bool b => if b = true
     then (match want with
      | true => vop G rec ann none o ⟨(g, .bool true) :: σ.env, σ.heap⟩ fun v h => match put N o.dst v ((g, .bool true) :: σ.env) with
       | some env => vops rec ann N ops rest ⟨env, h⟩ k
       | none => none
      | false => match put N o.dst (.tup []) ((g, .bool true) :: σ.env) with
       | some env => vops rec ann N ops rest ⟨env, σ.heap⟩ k
       | none => none)
     else (match want with
      | false => vop G rec ann none o ⟨(g, .bool false) :: σ.env, σ.heap⟩ fun v h => match put N o.dst v ((g, .bool false) :: σ.env) with
       | some env => vops rec ann N ops rest ⟨env, h⟩ k
       | none => none
      | true => match put N o.dst (.tup []) ((g, .bool false) :: σ.env) with
       | some env => vops rec ann N ops rest ⟨env, σ.heap⟩ k
       | none => none)
    | .tup l => match l with
     | [] => match put N o.dst (.tup []) σ.env with
      | some env => vops rec ann N ops rest ⟨env, σ.heap⟩ k
      | none => none
     | _ :: _ => none
    | _ => none
/-! ### Regions whose order is drawn -/
mutual
def PV.ids {T : Nat → Type} : PV T → List Nat
 | .arr id _ => [id]
 | .sub id _ _ _ => [id]
 | .ptr id _ => [id]
 | .eptr id _ _ _ => [id]
 | .aptr id _ _ _ => [id]
 | .mapr id => [id]
 | .agg l => PV.idsL l
 | .tup l => PV.idsL l
 | .fn _ l => PV.idsL l
 | _ => []
def PV.idsL {T : Nat → Type} : List (PV T) → List Nat
 | [] => []
 | p :: l => p.ids ++ PV.idsL l
end
/-- reads at most these blocks and leaves all as they are; or changes at most these of the first len; or the same, and reads at most the first; or fills the place that is kept for it -/
inductive Kind where
 | pure (foot : List Nat)
 | eff (touched : List Nat) (len : Nat)
 | effp (foot touched : List Nat) (len : Nat)
 | slot (s : Nat)
def partsOps : List (Nat × Operand) → List Operand
 | [] => []
 | (_, x) :: l => x :: partsOps l
/-- what an operation looks at -/
def opersOf : Op → List Operand
 | .move x => [x]
 | .assign x => [x]
 | .pick c a b => [c, a, b]
 | .binOp _ _ x y _ => [x, y]
 | .unOp _ _ x => [x]
 | .convert _ _ x => [x]
 | .box _ x => [x]
 | .build _ ps => partsOps ps.toList
 | .buildSlice _ _ ps => partsOps ps.toList
 | .makeSlice _ l c => [l, c]
 | .makeFunc _ _ cs => cs.toList
 | .load _ a => [a]
 | .store _ a x => [a, x]
 | .mapUpdate _ m k x => [m, k, x]
 | .lookup _ m k _ => [m, k]
 | .nilCheck x => [x]
 | .fieldAddr _ x _ => [x]
 | .field _ x _ => [x]
 | .indexAddr _ x i => [x, i]
 | .index _ x i => [x, i]
 | .slice _ x lo hi _ => match lo, hi with
  | none, none => [x]
  | some l, none => [x, l]
  | none, some h => [x, h]
  | some l, some h => [x, l, h]
 | .extract x _ => [x]
 | .call c => match c.callee with
  | .value f => f :: c.args.toList
  | _ => c.args.toList
 | _ => []
def opTmps : List Operand → List Nat
 | [] => []
 | .tmp t :: l => t :: opTmps l
 | _ :: l => opTmps l
def looksOf (ops : List Oper) (o : Oper) : List Nat := match o.guard with
 | none => opTmps (opersOf o.op)
 | some (j, _) => match dstOf ops j with
  | some g => g :: opTmps (opersOf o.op)
  | none => opTmps (opersOf o.op)
/-- which blocks a store may change -/
def storeIds {T : Nat → Type} (a x : PV T) : List Nat := match a with
 | .ptr id _ => [id]
 | .aptr id _ _ _ => [id]
 | a => a.ids ++ x.ids
def kindOf (ann : Ann) (pl : Option Nat) (o : Oper) (σ : St G.E.T) : Option Kind := match o.op with
 | .move _ => some (.pure [])
 | .assign _ => some (.pure [])
 | .pick _ _ _ => some (.pure [])
 | .binOp _ _ _ _ _ => some (.pure [])
 | .unOp _ _ _ => some (.pure [])
 | .build _ _ => some (.pure [])
 | .makeFunc _ _ _ => some (.pure [])
 | .nilCheck _ => some (.pure [])
 | .fieldAddr _ _ _ => some (.pure [])
 | .field _ _ _ => some (.pure [])
 | .index _ _ _ => some (.pure [])
 | .extract _ _ => some (.pure [])
 | .load _ a => some (.pure (eval σ.env a).ids)
 | .indexAddr _ x _ => some (.pure (eval σ.env x).ids)
 | .convert _ dst x => match G.P.underlying dst with
  | some (.slice _) => some (.eff (eval σ.env x).ids σ.heap.length)
  | _ => some (.pure (eval σ.env x).ids)
 | .slice _ x _ _ _ => match (match o.dst with
   | some d => memN d ann.cuts
   | none => false) with
  | true => none
  | false => some (.pure (eval σ.env x).ids)
 | .alloc _ => match pl with
  | none => some (.effp [] [] σ.heap.length)
  | some s => some (.slot s)
 | .box _ _ => some (.effp [] [] σ.heap.length)
 | .makeSlice _ _ _ => match pl with
  | none => some (.effp [] [] σ.heap.length)
  | some s => some (.slot s)
 | .buildSlice _ _ ps => match pl with
  | none => some (.eff (PV.idsL (evals σ.env (partsOps ps.toList))) σ.heap.length)
  | some s => match PV.idsL (evals σ.env (partsOps ps.toList)) with
   | [] => some (.slot s)
   | _ :: _ => none
 | .store _ a x => some (.eff (storeIds (eval σ.env a) (eval σ.env x)) σ.heap.length)
 | .makeMap _ _ => match pl with
  | none => some (.effp [] [] σ.heap.length)
  | some s => some (.slot s)
 | .mapUpdate _ m _ x => some (.eff ((eval σ.env m).ids ++ (eval σ.env x).ids) σ.heap.length)
 | .lookup _ m _ _ => some (.pure (eval σ.env m).ids)
 | .call c => match c.callee with
  | .value f => match eval σ.env f, o.dst with
   | .fn f caps, some d => match lookC G d f ann.calls with
    | some i => match (G.F i).sig.pb, (G.F i).sig.bare, (G.F i).sig.holds G.E with
     | [], true, false => some (.pure (PV.idsL (evals σ.env c.args.toList ++ caps)))
     | _, bare, _ => match castAll (G.F i).sig.ps (evals σ.env c.args.toList ++ caps) (G.F i).sig.pb [] σ.heap with
      | some (_, cs) => match (G.F i).sig.pb, bare, cs.lent with
       | [], true, [] => some (.pure (PV.idsL (evals σ.env c.args.toList ++ caps)))
       | [], _, _ => some (.effp (PV.idsL (evals σ.env c.args.toList ++ caps)) (olds cs.bind ++ cs.lent) σ.heap.length)
       | _, _, _ => some (.eff (olds cs.bind ++ cs.lent) σ.heap.length)
      | none => none
    | none => none
   | _, _ => none
  | .builtin .len => match c.args.toList with
   | [x] => some (.pure (eval σ.env x).ids)
   | _ => none
  | .builtin .append => match c.args.toList with
   | [s, x] => some (.effp ((eval σ.env s).ids ++ (eval σ.env x).ids) (eval σ.env s).ids σ.heap.length)
   | _ => none
  | .builtin .delete => match c.args.toList with
   | [m, _] => some (.eff (eval σ.env m).ids σ.heap.length)
   | _ => none
  | .builtin .copy => match c.args.toList with
   | [s, x] => some (.eff ((eval σ.env s).ids ++ (eval σ.env x).ids) σ.heap.length)
   | _ => none
  | .builtin .cap => some (.pure [])
  | .builtin .max => some (.pure [])
  | .builtin .min => some (.pure [])
  | _ => none
 | _ => none
/-- what must have come up before an operation with these edges; anc: the same of the earlier operations -/
def edgeMask (anc : List Nat) : List Edge → Option Nat
 | [] => some 0
 | e :: l => match Region.binds .any e with
  | true => match getL anc e.on, edgeMask anc l with
   | some a, some m => some (2 ^ e.on ||| a ||| m)
   | _, _ => none
  | false => edgeMask anc l
def ancOf : List Oper → List Nat → Option (List Nat)
 | [], acc => some acc
 | o :: l, acc => match edgeMask acc o.after.toList with
  | some m => ancOf l (acc ++ [m])
  | none => none
/-- does i come up before j in every order? -/
def ordB (anc : List Nat) (i j : Nat) : Bool := match getL anc j with
 | some m => Nat.testBit m i
 | none => false
def footOk (T : List Nat) (len : Nat) : List Nat → Bool
 | [] => true
 | id :: F => match Nat.blt id len, memN id T with
  | true, false => footOk T len F
  | _, _ => false
def kindsFit : Kind → Kind → Bool
 | .pure _, .pure _ => true
 | .pure F, .eff T n => footOk T n F
 | .eff T n, .pure F => footOk T n F
 | .pure F, .effp _ T n => footOk T n F
 | .effp _ T n, .pure F => footOk T n F
 | .pure F, .slot s => match memN s F with
  | true => false
  | false => true
 | .slot s, .pure F => match memN s F with
  | true => false
  | false => true
 | .slot s, .slot s' => match Nat.beq s s' with
  | true => false
  | false => true
 | .slot s, .effp F T n => match memN s F, footOk T n [s] with
  | false, true => true
  | _, _ => false
 | .effp F T n, .slot s => match memN s F, footOk T n [s] with
  | false, true => true
  | _, _ => false
 | _, _ => false
def fitsOne (anc : List Nat) (j : Nat) (κ : Kind) : List (Nat × Kind) → Bool
 | [] => true
 | (i, κ') :: l => match ordB anc i j with
  | true => fitsOne anc j κ l
  | false => match kindsFit κ' κ with
   | true => fitsOne anc j κ l
   | false => false
def fitsAll (anc : List Nat) : List (Nat × Kind) → Bool
 | [] => true
 | (j, κ) :: l => match fitsOne anc j κ l with
  | true => fitsAll anc l
  | false => false
def notIn (d : Option Nat) (l : List Nat) : Bool := match d with
 | none => true
 | some d => match memN d l with
  | true => false
  | false => true
def apartT (x y : Option Nat × List Nat) : Bool := match notIn x.1 y.2, notIn y.1 x.2, (match x.1 with
  | none => true
  | some d => notIn y.1 [d]) with
 | true, true, true => true
 | _, _, _ => false
def apartOne (anc : List Nat) (j : Nat) (y : Option Nat × List Nat) : List (Nat × (Option Nat × List Nat)) → Bool
 | [] => true
 | (i, x) :: l => match ordB anc i j with
  | true => apartOne anc j y l
  | false => match apartT x y with
   | true => apartOne anc j y l
   | false => false
/-- the operations before are handed on, the last first -/
def apartAll (anc : List Nat) (ops : List Oper) : Nat → List Oper → List (Nat × (Option Nat × List Nat)) → Bool
 | _, [], _ => true
 | j, o :: l, acc => match apartOne anc j (o.dst, looksOf ops o) acc with
  | true => apartAll anc ops (j + 1) l ((j, (o.dst, looksOf ops o)) :: acc)
  | false => false
/-- the place that is kept for an operation's new block: one of m behind the others -/
def plOf (ann : Ann) (base m : Nat) (o : Oper) : Option Nat := match o.dst with
 | some d => match lookN d ann.slots with
  | some q => match Nat.blt q m with
   | true => some (base + q)
   | false => none
  | none => none
 | none => none
def vdraw (rec : Rec G) (ann : Ann) (base m : Nat) (N : Nat) (ops : List Oper) (anc : List Nat) : Nat → List Oper → List (Nat × Kind) → St G.E.T → (St G.E.T → Option R) → Option R
 | _, [], tr, σ, k => match fitsAll anc tr, Nat.ble (base + m) σ.heap.length with
  | true, true => k σ
  | _, _ => none
 | i, o :: rest, tr, σ, k => match Nat.ble (base + m) σ.heap.length, o.guard with
  | false, _ => none
  | true, none => match kindOf G ann (plOf ann base m o) o σ with
   | none => none
   | some κ => vop G rec ann (plOf ann base m o) o σ fun v h => match put N o.dst v σ.env with
    | some env => vdraw rec ann base m N ops anc (i + 1) rest ((i, κ) :: tr) ⟨env, h⟩ k
    | none => none
  | true, some (j, want) => match dstOf ops j with
   | none => none
   | some g => match look g σ.env with
    | .bool b => if b = true
     then (match want with
      | true => match kindOf G ann (plOf ann base m o) o ⟨(g, .bool true) :: σ.env, σ.heap⟩ with
       | none => none
       | some κ => vop G rec ann (plOf ann base m o) o ⟨(g, .bool true) :: σ.env, σ.heap⟩ fun v h => match put N o.dst v ((g, .bool true) :: σ.env) with
        | some env => vdraw rec ann base m N ops anc (i + 1) rest ((i, κ) :: tr) ⟨env, h⟩ k
        | none => none
      | false => match put N o.dst (.tup []) ((g, .bool true) :: σ.env) with
       | some env => vdraw rec ann base m N ops anc (i + 1) rest ((i, .pure []) :: tr) ⟨env, σ.heap⟩ k
       | none => none)
     else (match want with
      | false => match kindOf G ann (plOf ann base m o) o ⟨(g, .bool false) :: σ.env, σ.heap⟩ with
       | none => none
       | some κ => vop G rec ann (plOf ann base m o) o ⟨(g, .bool false) :: σ.env, σ.heap⟩ fun v h => match put N o.dst v ((g, .bool false) :: σ.env) with
        | some env => vdraw rec ann base m N ops anc (i + 1) rest ((i, κ) :: tr) ⟨env, h⟩ k
        | none => none
      | true => match put N o.dst (.tup []) ((g, .bool false) :: σ.env) with
       | some env => vdraw rec ann base m N ops anc (i + 1) rest ((i, .pure []) :: tr) ⟨env, σ.heap⟩ k
       | none => none)
    | .tup l => match l with
     | [] => match put N o.dst (.tup []) σ.env with
      | some env => vdraw rec ann base m N ops anc (i + 1) rest ((i, .pure []) :: tr) ⟨env, σ.heap⟩ k
      | none => none
     | _ :: _ => none
    | _ => none
/-- is there an order at all? -/
def edgesIn (md : Region.Mode) (m : Nat) : List Edge → Bool
 | [] => true
 | e :: l => match Region.binds md e with
  | true => match Nat.testBit m e.on with
   | true => edgesIn md m l
   | false => false
  | false => edgesIn md m l
def passMask (md : Region.Mode) : List Oper → Nat → Nat → Nat
 | [], _, m => m
 | o :: l, i, m => match edgesIn md m o.after.toList with
  | true => passMask md l (i + 1) (m ||| 2 ^ i)
  | false => passMask md l (i + 1) m
def allBits : Nat → Nat → Bool
 | 0, _ => true
 | n + 1, m => match Nat.testBit m n with
  | true => allBits n m
  | false => false
def topoFrom (md : Region.Mode) (ops : List Oper) : Nat → Nat → Bool
 | 0, m => allBits ops.length m
 | f + 1, m => match allBits ops.length m with
  | true => true
  | false => topoFrom md ops f (passMask md ops 0 m)
def topoOk (ops : List Oper) (md : Region.Mode) : Bool := topoFrom md ops ops.length 0
/-- a region whose order is drawn: whichever is drawn, it comes to the same -/
def padB {T : Nat → Type} : Nat → List (Blk T)
 | 0 => []
 | n + 1 => .ints .own .u8 0 [] :: padB n
def padN (ann : Ann) (id : Nat) : Nat := match lookN id ann.pads with
 | some n => n
 | none => 0
/-! ### Regions that are run in several orders -/
def posN (i : Nat) : List Nat → Nat → Option Nat
 | [], _ => none
 | j :: l, q => match Nat.beq i j with
  | true => some q
  | false => posN i l (q + 1)
def reEdges (L : List Nat) : List Edge → Option (List Edge)
 | [] => some []
 | e :: l => match posN e.on L 0, reEdges L l with
  | some q, some r => some (⟨q, e.ground⟩ :: r)
  | _, _ => none
/-- which of them comes just before it -/
def chainP : List Nat → List (Nat × Nat)
 | [] => []
 | a :: l => match l with
  | [] => []
  | b :: _ => (b, a) :: chainP l
def reOper (L : List Nat) (ch : List (Nat × Nat)) (i : Nat) (o : Oper) : Option Oper :=
 match o.guard, reEdges L o.after.toList with
 | none, some es => match lookN i ch with
  | none => some { o with after := es.toArray }
  | some p => match posN p L 0 with
   | some q => some { o with after := (⟨q, .data⟩ :: es).toArray }
   | none => none
 | _, _ => none
/-- the operations in another order, some of them tied to each other -/
def reOps (ops : List Oper) (L : List Nat) (ch : List (Nat × Nat)) : List Nat → Option (List Oper)
 | [] => some []
 | i :: l => match getL ops i with
  | none => none
  | some o => match reOper L ch i o, reOps ops L ch l with
   | some o, some r => some (o :: r)
   | _, _ => none
def allIn (L : List Nat) : Nat → Bool
 | 0 => true
 | n + 1 => match memN n L with
  | true => allIn L n
  | false => false
def allLt (n : Nat) : List Nat → Bool
 | [] => true
 | i :: l => match Nat.blt i n with
  | true => allLt n l
  | false => false
/-- none of them comes before it in each order -/
def firstB (anc : List Nat) (h : Nat) : List Nat → Bool
 | [] => true
 | x :: l => match ordB anc x h with
  | true => false
  | false => firstB anc h l
/-- the orders that they may have -/
def consO (anc : List Nat) : Nat → List Nat → List (List Nat)
 | _, [] => [[]]
 | 0, _ :: _ => []
 | n + 1, x :: l => ((x :: l).filter fun h => firstB anc h (x :: l)).flatMap fun h => (consO anc n ((x :: l).filter fun y => !Nat.beq y h)).map (h :: ·)
def eqNs : List Nat → List Nat → Bool
 | [], [] => true
 | a :: l, b :: m => match Nat.beq a b with
  | true => eqNs l m
  | false => false
 | _, _ => false
def someEq (hs P : List Nat) : List (List Nat) → Bool
 | [] => false
 | L :: l => match eqNs (L.filter fun i => memN i hs) P with
  | true => true
  | false => someEq hs P l
def covers (hs : List Nat) (Ls : List (List Nat)) : List (List Nat) → Bool
 | [] => true
 | P :: l => match someEq hs P Ls with
  | true => covers hs Ls l
  | false => false
noncomputable def demons (run : List Nat → Option R) : List (List Nat) → Option R
 | [] => none
 | L :: l => match l with
  | [] => run L
  | _ :: _ => demon (run L) (demons run l)
def vplain (rec : Rec G) (ann : Ann) (id : Nat) (N : Nat) (ops : List Oper) (σ : St G.E.T) (k : St G.E.T → Option R) : Option R :=
 match ancOf ops [] with
 | some anc => match apartAll anc ops 0 ops [] with
  | true => vdraw G rec ann σ.heap.length (padN ann id) N ops anc 0 ops [] ⟨σ.env, σ.heap ++ padB (padN ann id)⟩ k
  | false => none
 | none => none
def vorder (rec : Rec G) (ann : Ann) (id : Nat) (N : Nat) (ops : List Oper) (hs : List Nat) (σ : St G.E.T) (k : St G.E.T → Option R) (L : List Nat) : Option R :=
 match nodupN L, allIn L ops.length, reOps ops L (chainP (L.filter fun i => memN i hs)) L with
 | true, true, some ops' => match topoOk ops' .any with
  | true => vplain G rec ann id N ops' σ k
  | false => none
 | _, _, _ => none
noncomputable def vregion (rec : Rec G) (ann : Ann) (id : Nat) (N : Nat) (ops : List Oper) (σ : St G.E.T) (k : St G.E.T → Option R) : Option R :=
 match topoOk ops .text, topoOk ops .gc, topoOk ops .any with
 | true, true, true => match lookN id ann.orders with
  | none => vplain G rec ann id N ops σ k
  | some (hs, Ls) => match ancOf ops [] with
   | none => none
   | some anc => match allLt ops.length hs, covers hs Ls (consO anc ops.length hs) with
    | true, true => demons (vorder G rec ann id N ops hs σ k) Ls
    | _, _ => none
 | _, _, _ => none
/-- the number of the first region -/
def firstRegion : Code → Nat
 | .region id _ _ => id
 | .seq a _ => firstRegion a
 | .block _ c => firstRegion c
 | .loop c => firstRegion c + 1000000
 | .scope c => firstRegion c
 | _ => 0
/-- the temporaries that a piece of code may write -/
def dstsOps : List Oper → List Nat
 | [] => []
 | o :: l => match o.dst with
  | some d => d :: dstsOps l
  | none => dstsOps l
def dsts : Code → List Nat
 | .region _ ops _ => dstsOps ops.toList
 | .seq a b => dsts a ++ dsts b
 | .cond _ a b => dsts a ++ dsts b
 | .block _ c => dsts c
 | .loop c => dsts c
 | .scope c => dsts c
 | _ => []
/-- what the ways of a piece of code come back to -/
def baseSt {T : Nat → Type} (bs : List BSh) (ds : List Nat) (σ : St T) : St T := ⟨minus σ.env ds, protect bs σ.heap⟩
/-- the same, its blocks as they were -/
def baseOut {T : Nat → Type} (ds : List Nat) (σ : St T) : St T := ⟨minus σ.env ds, σ.heap⟩
def firstBs : List (Ex × Cut) → List BSh
 | [] => []
 | (_, c) :: _ => c.bs
/-- a piece of code whose ways meet again in the shapes that are told -/
def joined (as : Option (List (Ex × Cut))) (ds : List Nat) (σ : St G.E.T) (run : St G.E.T → {A : Type} → (Ex → St G.E.T → Option A) → Option A) (k : Ex → St G.E.T → Option R) : Option R :=
 match as with
 | none => run σ k
 | some as => (run ⟨σ.env, protect (firstBs as) σ.heap⟩ (putAlt as (protect (firstBs as) σ.heap))).bind fun p => getAlt as (baseOut ds σ) p k
/-- a loop that is run as it is -/
def unrolled (run : St G.E.T → {A : Type} → (Ex → St G.E.T → Option A) → Option A) : Nat → St G.E.T → (Ex → St G.E.T → Option R) → Option R
 | 0, _, _ => none
 | n + 1, σ, k => run σ fun e σ' => match e with
  | .normal => unrolled run n σ' k
  | .exit id => k (.exit id) σ'
  | .ret => k .ret σ'
/-! ### A range over a function: an iterator that goes round, and calls its 'yield' once in a round -/
structure It where
 r0 : List Oper
 r1 : List Oper
 r2 : List Oper
 r3 : List Oper
 pre : List Oper
 post : List Oper
 tb : Nat
 td : Nat
 y : Nat
 dy : Nat
 args : List Operand
/-- the call of what lies in y, the operations before it, and those behind -/
def splitY (y : Nat) : List Oper → List Oper → Option (List Oper × Nat × List Operand × List Oper)
 | [], _ => none
 | o :: l, acc => match o.op, o.dst, o.guard with
  | .call ⟨.value (.tmp z), args, _⟩, some d, none => match Nat.beq z y with
   | true => some (acc.reverse, d, args.toList, l)
   | false => none
  | .call _, _, _ => none
  | _, _, _ => splitY y l (o :: acc)
def It.ds (I : It) : List Nat := dstsOps I.r0 ++ (dstsOps I.r1 ++ (dstsOps I.r3 ++ dstsOps I.r2))
def itOf : Code → Option It
 | .seq (.region _ r0 false) (.block b (.loop (.seq (.seq (.region _ r1 false) (.cond (.tmp tb) .skip (.exit b'))) (.seq (.block _ (.seq (.region _ r3 false) (.cond (.tmp td) .ret .skip))) (.region _ r2 false))))) =>
  match Nat.beq b b', r3.toList with
  | true, o :: l => match o.op, o.dst, o.guard with
   | .move (.tmp 0), some y, none => match splitY y l [], memN 0 (dstsOps r0.toList ++ (dstsOps r1.toList ++ (dstsOps r3.toList ++ dstsOps r2.toList))) with
    | some (pre, dy, args, post), false => match memN y (dstsOps pre) with
     | false => some { r0 := r0.toList, r1 := r1.toList, r2 := r2.toList, r3 := r3.toList, pre, post, tb, td, y, dy, args }
     | true => none
    | _, _ => none
   | _, _, _ => none
  | _, _ => none
 | _ => none
def noRange : Code → Bool
 | .seq a b => noRange a && noRange b
 | .cond _ a b => noRange a && noRange b
 | .block _ c => noRange c
 | .loop c => noRange c
 | .rangeFunc .. => false
 | _ => true
def Ex.on : Ex → Bool
 | .normal => true
 | _ => false
/-- a round. cap: what the iterator has caught; round: the statement's own code -/
noncomputable def vround (rec : Rec G) (N' : Nat) (I : It) (head : Cut) (as : List (Ex × Cut)) (cap : PV G.E.T) (ps : List Nat) (N : Nat) (σ : St G.E.T)
  (round : St G.E.T → {A : Type} → (Ex → St G.E.T → Option A) → Option A) (s : Pay G.E.T head.leaves) : Option (Pay G.E.T head.leaves ⊕ AltT G.E.T as) :=
 vops G rec {} N' I.r1 I.r1 (rebSt head (baseSt head.bs I.ds ⟨[(1, cap)], σ.heap⟩) s) fun σ1 => match look I.tb σ1.env with
  | .bool c => if c = true
   then (match put N' (some I.y) .any σ1.env with
    | none => none
    | some env => vops G rec {} N' I.r3 I.pre ⟨env, σ1.heap⟩ fun σ2 => match ps, evals σ2.env I.args with
     | [p, q], [u, v] => match put N (some p) u σ.env with
      | none => none
      | some env => match put N (some q) v env with
       | none => none
       | some env => round ⟨env, σ2.heap⟩ fun e σ3 => match put N' (some I.dy) (.bool e.on) σ2.env with
        | none => none
        | some env => vops G rec {} N' I.r3 I.post ⟨env, σ3.heap⟩ fun σ4 => match look I.td σ4.env with
         | .bool d => match e with
          | .normal => if d = true then none else vops G rec {} N' I.r2 I.r2 σ4 fun σ5 => match castSt head (protect head.bs σ.heap) σ5 with
           | some s => some (.inl s)
           | none => none
          | e => if d = true then (match putAlt as (protect head.bs σ.heap) e ⟨σ.env, σ4.heap⟩ with
           | some p => some (.inr p)
           | none => none) else none
         | _ => none
     | _, _ => none)
   else (match putAlt as (protect head.bs σ.heap) .normal ⟨σ.env, σ1.heap⟩ with
    | some p => some (.inr p)
    | none => none)
  | _ => none
noncomputable def vrange (rec : Rec G) (N' : Nat) (I : It) (head : Cut) (as : List (Ex × Cut)) (cap : PV G.E.T) (ps : List Nat) (N : Nat) (σ : St G.E.T)
  (round : St G.E.T → {A : Type} → (Ex → St G.E.T → Option A) → Option A) (k : Ex → St G.E.T → Option R) : Option R :=
 vops G rec {} N' I.r0 I.r0 ⟨[(1, cap)], protect head.bs σ.heap⟩ fun σ0 => match castSt head (protect head.bs σ.heap) σ0 with
  | none => none
  | some s => (loop (vround G rec N' I head as cap ps N σ round) s).bind fun p => getAlt as (baseOut [] σ) p k
noncomputable def vrun (rec : Rec G) (ann : Ann) (N : Nat) : Code → St G.E.T → {R : Type} → (Ex → St G.E.T → Option R) → Option R
 | .skip, σ, _, k => k .normal σ
 | .region id ops draw, σ, _, k => match draw with
  | true => joined G (lookN (2 * id) ann.joins) (dstsOps ops.toList) σ (fun σ _ k => vregion G rec ann id N ops.toList σ (k .normal)) k
  | false => joined G (lookN (2 * id) ann.joins) (dstsOps ops.toList) σ (fun σ _ k => vops G rec ann N ops.toList ops.toList σ (k .normal)) k
 | .seq a b, σ, _, k => vrun rec ann N a σ fun e σ => match e with
  | .normal => vrun rec ann N b σ k
  | .exit id => k (.exit id) σ
  | .ret => k .ret σ
 | .cond c a b, σ, _, k => match c with
  | .tmp t => match look t σ.env with
   | .bool x => joined G (lookN (2 * t + 1) ann.joins) (dsts a ++ dsts b) σ (fun σ _ k => if x = true then vrun rec ann N a σ k else vrun rec ann N b σ k) k
   | .boold => joined G (lookN (2 * t + 1) ann.joins) (dsts a ++ dsts b) σ (fun σ _ k => demon (vrun rec ann N a σ k) (vrun rec ann N b σ k)) k
   | _ => none
  | .const (.bool x) => if x = true then vrun rec ann N a σ k else vrun rec ann N b σ k
  | _ => none
 | .block id c, σ, _, k => vrun rec ann N c σ fun e σ => match e with
  | .normal => k .normal σ
  | .exit j => match Nat.beq j id with
   | true => k .normal σ
   | false => k (.exit j) σ
  | .ret => k .ret σ
 | .loop c, σ, _, k => match lookN (firstRegion c) ann.loops with
  | none => match lookN (firstRegion c) ann.unroll with
   | none => none
   | some n => unrolled G (fun σ _ k => vrun rec ann N c σ k) n σ k
  | some (head, as) => match castSt head (protect head.bs σ.heap) ⟨σ.env, protect head.bs σ.heap⟩ with
   | none => none
   | some s => (loop (fun s => vrun rec ann N c (rebSt head (baseSt head.bs (dsts c) σ) s) fun e σ' => match e with
     | .normal => match castSt head (protect head.bs σ.heap) σ' with
      | some s => some (.inl s)
      | none => none
     | .exit id => match putAlt as (protect head.bs σ.heap) (.exit id) σ' with
      | some p => some (.inr p)
      | none => none
     | .ret => match putAlt as (protect head.bs σ.heap) .ret σ' with
      | some p => some (.inr p)
      | none => none) s).bind fun p => getAlt as (baseOut (dsts c) σ) p k
 | .rangeFunc g ps assign body, σ, _, k => match lookN (firstRegion body) ann.loops, eval σ.env g with
  | some (head, as), .fn f [cap] => match G.P.funcs[f]? with
   | none => none
   | some fn => match fn.body with
    | none => none
    | some c => match itOf c, fn.results.toList, noRange assign, noRange body with
     | some I, [], true, true => vrange G rec fn.ntmps I head as cap ps.toList N σ (fun σ _ k => vrun rec ann N assign σ fun e σ => match e with
      | .normal => vrun rec ann N body σ k
      | _ => none) k
     | _, _, _, _ => none
  | _, _ => none
 | .exit id, σ, _, k => k (.exit id) σ
 | .ret, σ, _, k => k .ret σ
 | _, _, _, _ => none
/-! ### Functions -/
def paramsEnv {T : Nat → Type} : Nat → List (PV T) → List (Nat × PV T)
 | _, [] => []
 | n, v :: l => (n, v) :: paramsEnv (n + 1) l
def resultsV (σ : St G.E.T) : List ResultVar → Option (List (PV G.E.T))
 | [] => some []
 | .tmp t :: l => match resultsV σ l with
  | some r => some (look t σ.env :: r)
  | none => none
 | .cell a t :: l => match loadV G σ.heap t (look a σ.env) some with
  | some v => match resultsV σ l with
   | some r => some (v :: r)
   | none => none
  | none => none
def startSt (s : Sig) (p : Pay G.E.T s.ins) : St G.E.T :=
 match rebTs (ρcut (T := G.E.T) [] s.pb) s.ps (toL s.ins p) with
 | (vs, r) => { env := paramsEnv 0 vs, heap := rebBs (ρcut (T := G.E.T) [] s.pb) 0 s.pb [] r }
def finishW {T : Nat → Type} (a : Way) (base : List (Blk T)) (vs : List (PV T)) (heap : List (Blk T)) : Option (Pay T a.leaves) :=
 match castAll a.1 vs a.2 base heap with
 | none => none
 | some (l, cs) => match lentOwn heap cs.lent with
  | true => ofL a.leaves l
  | false => none
def putOut {T : Nat → Type} : (a : Way) → (l : List Way) → List (Blk T) → List (PV T) → List (Blk T) → Option (OutT T a l)
 | a, [], base, vs, heap => finishW a base vs heap
 | a, b :: l, base, vs, heap => match finishW a base vs heap with
  | some q => some (.inl q)
  | none => match putOut b l base vs heap with
   | some q => some (.inr q)
   | none => none
/-- base: the blocks that came in -/
def finish (s : Sig) (base : List (Blk G.E.T)) (rvs : List ResultVar) (σ : St G.E.T) : Option (s.Out G.E.T) :=
 match resultsV G σ rvs with
 | some vs => putOut s.way s.more base vs σ.heap
 | none => none
noncomputable def vbody (rec : Rec G) (i : Nat) (p : Pay G.E.T (G.F i).sig.ins) : Option ((G.F i).sig.Out G.E.T) :=
 match G.P.funcs[(G.F i).fid]? with
 | none => none
 | some fn => match fn.body with
  | none => none
  | some c => vrun G rec (G.F i).ann fn.ntmps c (startSt G (G.F i).sig p) fun e σ => match e with
   | .normal => finish G (G.F i).sig (startSt G (G.F i).sig p).heap fn.results.toList σ
   | .ret => finish G (G.F i).sig (startSt G (G.F i).sig p).heap fn.results.toList σ
   | .exit _ => none
noncomputable def vcall : Nat → Rec G
 | 0, _, _ => none
 | n + 1, i, p => vbody G (vcall n) i p
open Classical in
/-- what a function answers, at whatever depth -/
noncomputable def call : Rec G := fun i p =>
 if h : ∃ n q, vcall G n i p = some q then vcall G h.choose i p else none
end
end Go.Proofs.YtgffdmgidnnedaaGreat.V
