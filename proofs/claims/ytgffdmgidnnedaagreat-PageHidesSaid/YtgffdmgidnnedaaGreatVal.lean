/- The value reading of the program: a deterministic interpreter whose memory holds only what a call owns; what is read only is a plain list. Definitions alone. -/
import Derived.Tactics
import Derived.Laws.World
namespace Go.Proofs.YtgffdmgidnnedaaGreat.V
open Go
/-! ### 1. Values, blocks, states -/
/-- A value as the reading has it. T: the types of a slice's elements that are no integers. -/
inductive PV (T : Nat → Type) : Type where
 | int (k : IntKind) (n : Int)
 | bool (b : Bool)
 | str (s : List Int)
 | ints (k : IntKind) (xs : List Int)
 | rows (i : Nat) (xs : List (T i))
 | arr (id ep : Nat)
 | sub (id ep off len : Nat)
 | agg (l : List (PV T))
 | tup (l : List (PV T))
 | ptr (id off : Nat)
 | eptr (id ep : Nat) (i : Int) (fld : Nat)
 | fptr (l : List (PV T))
 | nil
 | nilsl
 | fn (f : Nat) (caps : List (PV T))
 | any
 /-- a bool that is not known -/
 | boold
 /-- to the i-th of n whole numbers that lie in a box -/
 | aptr (id off n : Nat) (i : Int)
 /-- a map -/
 | mapr (id : Nat)
 /-- no map -/
 | nilm
/-- does it fill one cell? -/
def PV.one {T : Nat → Type} : PV T → Bool
 | .agg _ => false
 | .tup _ => false
 | .any => false
 | .boold => false
 | .aptr _ _ _ _ => false
 | _ => true
def allOne {T : Nat → Type} : List (PV T) → Bool
 | [] => true
 | p :: l => match p.one with
  | true => allOne l
  | false => false
/-- own: the call may write it; frozen: nobody writes it any more; prot: nobody writes it for now -/
inductive Mode where
 | own | frozen | prot
/-- a map's keys: of which kind, and one -/
inductive KK where
 | int (k : IntKind)
 | str
inductive KV where
 | int (n : Int)
 | str (s : List Int)
 | no
def KK.beq : KK → KK → Bool
 | .int a, .int b => decide (a = b)
 | .str, .str => true
 | _, _ => false
theorem KK.beq_eq : ∀ {a b : KK}, KK.beq a b = true → a = b
 | .int a, .int b, h => by rw [show a = b from of_decide_eq_true h]
 | .str, .str, _ => rfl
 | .int _, .str, h => by cases h
 | .str, .int _, h => by cases h
instance : DecidableEq KV := fun a b => match a, b with
 | .int m, .int n => if h : m = n then .isTrue (by rw [h]) else .isFalse fun e => h (by cases e; rfl)
 | .str m, .str n => if h : m = n then .isTrue (by rw [h]) else .isFalse fun e => h (by cases e; rfl)
 | .no, .no => .isTrue rfl
 | .int _, .str _ => .isFalse fun e => by cases e
 | .int _, .no => .isFalse fun e => by cases e
 | .str _, .int _ => .isFalse fun e => by cases e
 | .str _, .no => .isFalse fun e => by cases e
 | .no, .int _ => .isFalse fun e => by cases e
 | .no, .str _ => .isFalse fun e => by cases e
inductive Blk (T : Nat → Type) : Type where
 | box (m : Mode) (cells : List (PV T))
 | ints (m : Mode) (k : IntKind) (ep : Nat) (xs : List Int)
 | rows (m : Mode) (i ep : Nat) (xs : List (T i))
 | gone
 /-- a map with whole numbers as keys; what it holds is not told -/
 | mp (m : Mode) (k : IntKind)
 /-- a map; an entry's first cell is its key -/
 | mpr (m : Mode) (k : KK) (i : Nat) (xs : List (T i))
structure Env where
 T : Nat → Type
 /-- the cells of an element -/
 outs : (i : Nat) → T i → List (PV T)
 inn : (i : Nat) → List (PV T) → Option (T i)
 sz : Nat → Nat
 /-- its cells lead to no memory -/
 flat : Nat → Bool
inductive EK where
 | int (k : IntKind)
 | row (i : Nat)
structure St (T : Nat → Type) where
 env : List (Nat × PV T)
 heap : List (Blk T)
section
variable {T : Nat → Type}
def look (t : Nat) : List (Nat × PV T) → PV T
 | [] => .any
 | (u, v) :: r => match Nat.beq t u with
  | true => v
  | false => look t r
def put (N : Nat) (dst : Option Nat) (v : PV T) (env : List (Nat × PV T)) : Option (List (Nat × PV T)) :=
 match dst with
 | none => some env
 | some d => match Nat.blt d N with
  | true => some ((d, v) :: env)
  | false => none
def bytesOfStr (s : ByteArray) : List Int := s.data.toList.map fun b => (b.toNat : Int)
/-- does a number fit its kind? -/
def fitsB (k : IntKind) (n : Int) : Bool := match k with
 | .i8 => decide (-128 ≤ n ∧ n ≤ 127)
 | .i16 => decide (-32768 ≤ n ∧ n ≤ 32767)
 | .i32 => decide (-2147483648 ≤ n ∧ n ≤ 2147483647)
 | .i64 => decide (-9223372036854775808 ≤ n ∧ n ≤ 9223372036854775807)
 | .u8 => decide (0 ≤ n ∧ n ≤ 255)
 | .u16 => decide (0 ≤ n ∧ n ≤ 65535)
 | .u32 => decide (0 ≤ n ∧ n ≤ 4294967295)
 | .u64 => decide (0 ≤ n ∧ n ≤ 18446744073709551615)
def ofConst : Value → PV T
 | .int k n => match fitsB k n with
  | true => .int k n
  | false => .any
 | .bool b => .bool b
 | .string s => match Nat.ble s.data.toList.length 100000 with
  | true => .str (bytesOfStr s)
  | false => .any
 | .slice none 0 0 => .nilsl
 | .pointer none => .nil
 | .map none => .nilm
 | .tuple vs => match vs.toList with
  | [] => .tup []
  | _ => .any
 | _ => .any
def eval (env : List (Nat × PV T)) : Operand → PV T
 | .tmp t => look t env
 | .const v => ofConst v
 | .global _ => .any
 | .func f => .fn f []
def setL {α : Type} : List α → Nat → α → List α
 | [], _, _ => []
 | _ :: l, 0, a => a :: l
 | x :: l, n + 1, a => x :: setL l n a
def getL {α : Type} : List α → Nat → Option α
 | [], _ => none
 | x :: _, 0 => some x
 | _ :: l, n + 1 => getL l n
def takeL {α : Type} : Nat → List α → Option (List α)
 | 0, _ => some []
 | _ + 1, [] => none
 | n + 1, x :: l => match takeL n l with
  | some r => some (x :: r)
  | none => none
def dropL {α : Type} : Nat → List α → Option (List α)
 | 0, l => some l
 | _ + 1, [] => none
 | n + 1, _ :: l => dropL n l
/-- l with the cells from n on replaced -/
def replL {α : Type} : List α → Nat → List α → Option (List α)
 | l, 0, [] => some l
 | [], 0, _ :: _ => none
 | _ :: l, 0, a :: as => match replL l 0 as with
  | some r => some (a :: r)
  | none => none
 | [], _ + 1, _ => none
 | x :: l, n + 1, as => match replL l n as with
  | some r => some (x :: r)
  | none => none
def rd (xs : List Int) (i : Int) : Int := xs.getD i.toNat 0
/-- n cells that are whole numbers of one kind -/
def intsK : Nat → List (PV T) → Option (IntKind × List Int)
 | 0, _ => none
 | _ + 1, [] => none
 | n + 1, .int k x :: l => match n with
  | 0 => some (k, [x])
  | n + 1 => match intsK (n + 1) l with
   | some (k', xs) => match decide (k = k') with
    | true => some (k, x :: xs)
    | false => none
   | none => none
 | _ + 1, _ :: _ => none
/-- the same with one of them replaced -/
def updInts (k : IntKind) (i x : Int) : Int → List Int → List (PV T)
 | _, [] => []
 | j, y :: l => .int k (if i = j then x else y) :: updInts k i x (j + 1) l
/-! ### 2. Operations on whole numbers -/
def iand (k : IntKind) (a b : Int) : Int := k.wrap (BitVec.ofInt k.bits a &&& BitVec.ofInt k.bits b).toNat
def ior (k : IntKind) (a b : Int) : Int := k.wrap (BitVec.ofInt k.bits a ||| BitVec.ofInt k.bits b).toNat
def ixor (k : IntKind) (a b : Int) : Int := k.wrap (BitVec.ofInt k.bits a ^^^ BitVec.ofInt k.bits b).toNat
def iandn (k : IntKind) (a b : Int) : Int := k.wrap (BitVec.ofInt k.bits a &&& ~~~(BitVec.ofInt k.bits b)).toNat
def ishl (k : IntKind) (a b : Int) : Int := k.wrap (a * 2 ^ (min b.toNat k.bits))
def ishr (k : IntKind) (a b : Int) : Int := a.fdiv (2 ^ (min b.toNat k.bits))
def strLt : List Int → List Int → Bool
 | _, [] => false
 | [], _ :: _ => true
 | a :: x, b :: y => decide (a < b) || (decide (a = b) && strLt x y)
def intOp {R : Type} (op : BinOp) (k : IntKind) (a b : Int) (K : PV T → Option R) : Option R :=
 match op with
 | .add => K (.int k (k.wrap (a + b)))
 | .sub => K (.int k (k.wrap (a - b)))
 | .mul => K (.int k (k.wrap (a * b)))
 | .quo => if b = 0 then none else K (.int k (k.wrap (a.tdiv b)))
 | .rem => if b = 0 then none else K (.int k (a.tmod b))
 | .and => K (.int k (iand k a b))
 | .or => K (.int k (ior k a b))
 | .xor => K (.int k (ixor k a b))
 | .andNot => K (.int k (iandn k a b))
 | .eql => K (.bool (decide (a = b)))
 | .neq => K (.bool (!decide (a = b)))
 | .lss => K (.bool (decide (a < b)))
 | .leq => K (.bool (decide (a ≤ b)))
 | .gtr => K (.bool (decide (a > b)))
 | .geq => K (.bool (decide (a ≥ b)))
 | .shl => if b < 0 then none else K (.int k (ishl k a b))
 | .shr => if b < 0 then none else K (.int k (ishr k a b))
def strOp {R : Type} (op : BinOp) (a b : List Int) (K : PV T → Option R) : Option R :=
 match op with
 | .add => if a.length + b.length ≤ 9223372036854775807 then K (.str (a ++ b)) else none
 | .eql => K (.bool (decide (a = b)))
 | .neq => K (.bool (!decide (a = b)))
 | .lss => K (.bool (strLt a b))
 | .leq => K (.bool (strLt a b || decide (a = b)))
 | .gtr => K (.bool (!(strLt a b || decide (a = b))))
 | .geq => K (.bool (!strLt a b))
 | _ => none
def eqOp {R : Type} (op : BinOp) (b : Bool) (K : PV T → Option R) : Option R :=
 match op with
 | .eql => K (.bool b)
 | .neq => K (.bool (!b))
 | _ => none
/-- is a slice of n elements nil? Of an empty one that is not known. -/
def nilEq {R : Type} (op : BinOp) (n : Nat) (K : PV T → Option R) : Option R :=
 match op with
 | .eql => if n = 0 then K .boold else K (.bool false)
 | .neq => if n = 0 then K .boold else K (.bool true)
 | _ => none
open Classical in
/-- whichever way is taken: both come to the same -/
noncomputable def demon {R : Type} (a b : Option R) : Option R := if a = b then a else none
theorem demon_some {R : Type} {a b : Option R} {r : R} (h : demon a b = some r) : a = some r ∧ b = some r := by
 unfold demon at h
 split at h
 ·rename_i e; exact ⟨h, e ▸ h⟩
 ·cases h
theorem demon_same {R : Type} (a : Option R) : demon a a = a := by simp [demon]
/-- 'ty': the type's description -/
def binOpV {R : Type} (ty : Option TypeDesc) (op : BinOp) (x y : PV T) (K : PV T → Option R) : Option R :=
 match x, y with
 | .int k a, .int k' b => match op with
  | .shl => intOp .shl k a b K
  | .shr => intOp .shr k a b K
  | op => match decide (k = k') with
   | true => intOp op k a b K
   | false => none
 | .str a, .str b => strOp op a b K
 | .bool a, .bool b => match ty with
  | some .bool => eqOp op (decide (a = b)) K
  | _ => none
 | .nil, .nil => match ty with
  | some (.pointer _) => eqOp op true K
  | _ => none
 | .ptr _ _, .nil => match ty with
  | some (.pointer _) => eqOp op false K
  | _ => none
 | .nil, .ptr _ _ => match ty with
  | some (.pointer _) => eqOp op false K
  | _ => none
 | .nilsl, .nilsl => match ty with
  | some (.slice _) => eqOp op true K
  | _ => none
 | .ints _ xs, .nilsl => match ty with
  | some (.slice _) => nilEq op xs.length K
  | _ => none
 | .rows _ xs, .nilsl => match ty with
  | some (.slice _) => nilEq op xs.length K
  | _ => none
 | _, _ => none
def unOpV {R : Type} (op : UnOp) (x : PV T) (K : PV T → Option R) : Option R :=
 match op, x with
 | .neg, .int k n => K (.int k (k.wrap (0 - n)))
 | .xor, .int k n => K (.int k (ixor k (if k.signed then -1 else k.max) n))
 | .not, .bool b => K (.bool (!b))
 | _, _ => none
/-! ### 3. What leaves a shape: payloads -/
inductive Leaf where
 | int | bool | str | ints
 | rows (i : Nat)
inductive LV (T : Nat → Type) : Type where
 | int (n : Int)
 | bool (b : Bool)
 | str (s : List Int)
 | ints (xs : List Int)
 | rows (i : Nat) (xs : List (T i))
def Leaf.den (T : Nat → Type) : Leaf → Type
 | .int => Int
 | .bool => Bool
 | .str => List Int
 | .ints => List Int
 | .rows i => List (T i)
def Leaf.toLV : (l : Leaf) → l.den T → LV T
 | .int, n => .int n
 | .bool, b => .bool b
 | .str, s => .str s
 | .ints, xs => .ints xs
 | .rows i, xs => .rows i xs
def Leaf.ofLV : (l : Leaf) → LV T → Option (l.den T)
 | .int, .int n => some n
 | .bool, .bool b => some b
 | .str, .str s => some s
 | .ints, .ints xs => some xs
 | .rows i, .rows j xs => if h : j = i then some (h ▸ xs) else none
 | _, _ => none
def Pay (T : Nat → Type) : List Leaf → Type
 | [] => Unit
 | l :: ls => match ls with
  | [] => l.den T
  | _ :: _ => l.den T × Pay T ls
def toL : (ls : List Leaf) → Pay T ls → List (LV T)
 | [], _ => []
 | [l], p => [l.toLV p]
 | l :: m :: ls, p => l.toLV p.1 :: toL (m :: ls) p.2
def ofL : (ls : List Leaf) → List (LV T) → Option (Pay T ls)
 | [], [] => some ()
 | [l], [v] => l.ofLV v
 | l :: m :: ls, v :: vs => match l.ofLV v, ofL (m :: ls) vs with
  | some a, some b => some (a, b)
  | _, _ => none
 | _, _ => none
inductive TSh where
 | int (k : IntKind)
 | bool
 | str
 | ints (k : IntKind)
 | rows (i : Nat)
 | arr (id : Nat)
 | agg (l : List TSh)
 | ptr (id off : Nat)
 | nil
 /-- a number that is known -/
 | lit (k : IntKind) (n : Int)
 | litb (b : Bool)
 /-- a nil slice -/
 | nilsl
 | fn (f : Nat) (caps : List TSh)
 | mapr (id : Nat)
/-- 'keep': whoever holds the slice may go on with it: nothing was appended. 'same': as it was. -/
inductive BSh where
 | box (cells : List TSh)
 | ints (k : IntKind) (keep : Bool)
 | rows (i : Nat) (keep : Bool)
 | same
 | gone
 | mp (k : IntKind)
 | mpr (k : KK) (i : Nat)
mutual
def TSh.leaves : TSh → List Leaf
 | .int _ => [.int]
 | .bool => [.bool]
 | .str => [.str]
 | .ints _ => [.ints]
 | .rows i => [.rows i]
 | .arr _ => []
 | .agg l => TSh.leavesL l
 | .ptr _ _ => []
 | .nil => []
 | .lit _ _ => []
 | .litb _ => []
 | .nilsl => []
 | .fn _ caps => TSh.leavesL caps
 | .mapr _ => []
def TSh.leavesL : List TSh → List Leaf
 | [] => []
 | s :: l => s.leaves ++ TSh.leavesL l
end
def BSh.leaves : BSh → List Leaf
 | .box cells => TSh.leavesL cells
 | .ints _ _ => [.ints]
 | .rows i _ => [.rows i]
 | .same => []
 | .gone => []
 | .mp _ => []
 | .mpr _ i => [.rows i]
def BSh.leavesL : List BSh → List Leaf
 | [] => []
 | b :: l => b.leaves ++ BSh.leavesL l
/-! ### 4. Casting values to shapes, and back -/
/-- what a cast has found: for each new block the old one ('none': a new empty row), and which old blocks are lent -/
structure CS where
 bind : List (Nat × Option Nat)
 lent : List Nat
def lookB (j : Nat) : List (Nat × Option Nat) → Option (Option Nat)
 | [] => none
 | (u, v) :: r => match Nat.beq j u with
  | true => some v
  | false => lookB j r
def bindTo (cs : CS) (j : Nat) (x : Option Nat) : Option CS :=
 match lookB j cs.bind, x with
 | none, x => some { cs with bind := (j, x) :: cs.bind }
 | some (some a), some b => match Nat.beq a b with
  | true => some cs
  | false => none
 | _, _ => none
def lentIf (m : Mode) (id : Nat) : List Nat := match m with
 | .frozen => []
 | _ => [id]
/-- the list that a slice of whole numbers holds, and whose memory it is -/
def intsOf (heap : List (Blk T)) (k : IntKind) : PV T → Option (List Int × List Nat)
 | .ints k' xs => match decide (k = k') with
  | true => some (xs, [])
  | false => none
 | .nilsl => some ([], [])
 | .arr id ep => match getL heap id with
  | some (.ints m k' ep' xs) => match decide (k = k'), Nat.beq ep ep' with
   | true, true => some (xs, lentIf m id)
   | _, _ => none
  | _ => none
 | .sub id ep off len => match getL heap id with
  | some (.ints m k' ep' xs) => match decide (k = k'), Nat.beq ep ep' with
   | true, true => some ((xs.drop off).take len, lentIf m id)
   | _, _ => none
  | _ => none
 | _ => none
def castR {i j : Nat} (h : j = i) (xs : List (T j)) : List (T i) := h ▸ xs
def rowsOf (heap : List (Blk T)) (i : Nat) : PV T → Option (List (T i) × List Nat)
 | .rows j xs => if h : j = i then some (castR h xs, []) else none
 | .nilsl => some ([], [])
 | .arr id ep => match getL heap id with
  | some (.rows m j ep' xs) => match Nat.beq ep ep' with
   | true => if h : j = i then some (castR h xs, lentIf m id) else none
   | _ => none
  | _ => none
 | .sub id ep off len => match getL heap id with
  | some (.rows m j ep' xs) => match Nat.beq ep ep' with
   | true => if h : j = i then some (((castR h xs).drop off).take len, lentIf m id) else none
   | _ => none
  | _ => none
 | _ => none
def isOwn (heap : List (Blk T)) (id ep : Nat) : Bool :=
 match getL heap id with
 | some (.ints .own _ ep' _) => Nat.beq ep ep'
 | some (.rows .own _ ep' _) => Nat.beq ep ep'
 | _ => false
mutual
def castT (heap : List (Blk T)) : TSh → PV T → CS → Option (List (LV T) × CS)
 | .int k, .int k' n, cs => match decide (k = k') with
  | true => some ([.int n], cs)
  | false => none
 | .bool, .bool b, cs => some ([.bool b], cs)
 | .str, .str s, cs => some ([.str s], cs)
 | .ints k, v, cs => match intsOf heap k v with
  | some (xs, l) => some ([.ints xs], { cs with lent := l ++ cs.lent })
  | none => none
 | .rows i, v, cs => match rowsOf heap i v with
  | some (xs, l) => some ([.rows i xs], { cs with lent := l ++ cs.lent })
  | none => none
 | .arr j, .arr id ep, cs => match isOwn heap id ep with
  | true => match bindTo cs j (some id) with
   | some cs => some ([], cs)
   | none => none
  | false => none
 | .arr j, .nilsl, cs => match bindTo cs j none with
  | some cs => some ([], cs)
  | none => none
 | .agg l, .agg m, cs => castTs heap l m cs
 | .ptr j off, .ptr id off', cs => match Nat.beq off off' with
  | true => match bindTo cs j (some id) with
   | some cs => some ([], cs)
   | none => none
  | false => none
 | .mapr j, .mapr id, cs => match bindTo cs j (some id) with
  | some cs => some ([], cs)
  | none => none
 | .nil, .nil, cs => some ([], cs)
 | .nilsl, .nilsl, cs => some ([], cs)
 | .lit k n, .int k' m, cs => match decide (k = k'), decide (n = m) with
  | true, true => some ([], cs)
  | _, _ => none
 | .litb b, .bool c, cs => match b, c with
  | true, true => some ([], cs)
  | false, false => some ([], cs)
  | _, _ => none
 | .fn f l, .fn g m, cs => match Nat.beq f g with
  | true => castTs heap l m cs
  | false => none
 | _, _, _ => none
def castTs (heap : List (Blk T)) : List TSh → List (PV T) → CS → Option (List (LV T) × CS)
 | [], [], cs => some ([], cs)
 | s :: l, v :: m, cs => match castT heap s v cs with
  | some (a, cs) => match castTs heap l m cs with
   | some (b, cs) => some (a ++ b, cs)
   | none => none
  | none => none
 | _, _, _ => none
end
def epOf (heap : List (Blk T)) (id : Nat) : Nat := match getL heap id with
 | some (.ints _ _ ep _) => ep
 | some (.rows _ _ ep _) => ep
 | _ => 0
/-- block j stands as it stood -/
def sameB (heap base : List (Blk T)) (j : Nat) : Bool :=
 match getL heap j, getL base j with
 | some (.box .prot _), some (.box .prot _) => true
 | some (.ints .prot _ _ _), some (.ints .prot _ _ _) => true
 | some (.rows .prot _ _ _), some (.rows .prot _ _ _) => true
 | some (.ints .frozen _ _ _), some (.ints .frozen _ _ _) => true
 | some (.rows .frozen _ _ _), some (.rows .frozen _ _ _) => true
 | some .gone, some .gone => true
 | some (.mp .prot _), some (.mp .prot _) => true
 | some (.mpr .prot _ _ _), some (.mpr .prot _ _ _) => true
 | _, _ => false
/-- base: the blocks that stood there -/
def castB (heap base : List (Blk T)) (j : Nat) (b : BSh) (cs : CS) : Option (List (LV T) × CS) :=
 match b with
 | .gone => some ([], cs)
 | .same => match sameB heap base j with
  | true => some ([], cs)
  | false => none
 | .box cells => match lookB j cs.bind with
  | some (some id) => match getL heap id with
   | some (.box .own vs) => castTs heap cells vs cs
   | _ => none
  | _ => none
 | .mp k => match lookB j cs.bind with
  | some (some id) => match getL heap id with
   | some (.mp .own k') => match decide (k = k') with
    | true => some ([], cs)
    | false => none
   | _ => none
  | _ => none
 | .mpr k i => match lookB j cs.bind with
  | some (some id) => match getL heap id with
   | some (.mpr .own k' i' xs) => if h : i' = i then (match KK.beq k k' with
    | true => some ([.rows i (castR h xs)], cs)
    | false => none) else none
   | _ => none
  | _ => none
 | .ints k keep => match lookB j cs.bind with
  | some (some id) => match getL heap id with
   | some (.ints .own k' ep xs) => match decide (k = k'), (match keep with
     | true => match Nat.beq ep (epOf base j) with
      | true => Nat.beq id j
      | false => false
     | false => true) with
    | true, true => some ([.ints xs], cs)
    | _, _ => none
   | _ => none
  | some none => match keep with
   | true => none
   | false => some ([.ints []], cs)
  | none => none
 | .rows i keep => match lookB j cs.bind with
  | some (some id) => match getL heap id with
   | some (.rows .own i' ep xs) => if h : i' = i then (match (match keep with
     | true => match Nat.beq ep (epOf base j) with
      | true => Nat.beq id j
      | false => false
     | false => true) with
    | true => some ([.rows i (castR h xs)], cs)
    | false => none) else none
   | _ => none
  | some none => match keep with
   | true => none
   | false => some ([.rows i []], cs)
  | none => none
def castBs (heap base : List (Blk T)) : Nat → List BSh → CS → Option (List (LV T) × CS)
 | _, [], cs => some ([], cs)
 | j, b :: l, cs => match castB heap base j b cs with
  | some (a, cs) => match castBs heap base (j + 1) l cs with
   | some (c, cs) => some (a ++ c, cs)
   | none => none
  | none => none
def memN (n : Nat) : List Nat → Bool
 | [] => false
 | m :: l => match Nat.beq n m with
  | true => true
  | false => memN n l
def olds : List (Nat × Option Nat) → List Nat
 | [] => []
 | (_, some a) :: l => a :: olds l
 | (_, none) :: l => olds l
def nodupN : List Nat → Bool
 | [] => true
 | n :: l => match memN n l with
  | true => false
  | false => nodupN l
def disjN : List Nat → List Nat → Bool
 | [], _ => true
 | n :: l, m => match memN n m with
  | true => false
  | false => disjN l m
/-- each new number is told of -/
def newsIn (bs : List BSh) : List (Nat × Option Nat) → Bool
 | [] => true
 | (j, _) :: l => match getL bs j with
  | none => false
  | some .gone => false
  | some _ => newsIn bs l
/-- no name twice, nothing both handed on and lent -/
def CS.fine (cs : CS) (bs : List BSh) : Bool :=
 match nodupN (olds cs.bind), disjN (olds cs.bind) cs.lent, newsIn bs cs.bind with
 | true, true, true => true
 | _, _, _ => false
mutual
def rebT (ρ : Nat → Nat × Nat) : TSh → List (LV T) → PV T × List (LV T)
 | .int k, .int n :: r => (.int k n, r)
 | .bool, .bool b :: r => (.bool b, r)
 | .str, .str s :: r => (.str s, r)
 | .ints k, .ints xs :: r => (.ints k xs, r)
 | .rows i, .rows j xs :: r => if h : j = i then (.rows i (castR h xs), r) else (.any, r)
 | .arr j, r => (.arr (ρ j).1 (ρ j).2, r)
 | .agg l, r => match rebTs ρ l r with
  | (vs, r) => (.agg vs, r)
 | .ptr j off, r => (.ptr (ρ j).1 off, r)
 | .mapr j, r => (.mapr (ρ j).1, r)
 | .nil, r => (.nil, r)
 | .lit k n, r => (.int k n, r)
 | .litb b, r => (.bool b, r)
 | .nilsl, r => (.nilsl, r)
 | .fn f l, r => match rebTs ρ l r with
  | (vs, r) => (.fn f vs, r)
 | _, r => (.any, r)
def rebTs (ρ : Nat → Nat × Nat) : List TSh → List (LV T) → List (PV T) × List (LV T)
 | [], r => ([], r)
 | s :: l, r => match rebT ρ s r with
  | (v, r) => match rebTs ρ l r with
   | (vs, r) => (v :: vs, r)
end
/-- b: the block that stood there -/
def rebB (ρ : Nat → Nat × Nat) (ep : Nat) (b : Blk T) : BSh → List (LV T) → Blk T × List (LV T)
 | .box cells, r => match rebTs ρ cells r with
  | (vs, r) => (.box .own vs, r)
 | .ints k _, .ints xs :: r => (.ints .own k ep xs, r)
 | .rows i _, .rows j xs :: r => if h : j = i then (.rows .own i ep (castR h xs), r) else (.gone, r)
 | .same, r => (b, r)
 | .mp k, r => (.mp .own k, r)
 | .mpr k i, .rows j xs :: r => if h : j = i then (.mpr .own k i (castR h xs), r) else (.gone, r)
 | _, r => (.gone, r)
def headB : List (Blk T) → Blk T
 | [] => .gone
 | b :: _ => b
def tailB : List (Blk T) → List (Blk T)
 | [] => []
 | _ :: l => l
/-- base: the blocks that stood there -/
def rebBs (ρ : Nat → Nat × Nat) : Nat → List BSh → List (Blk T) → List (LV T) → List (Blk T)
 | _, [], _, _ => []
 | j, b :: l, base, r => match rebB ρ (ρ j).2 (headB base) b r with
  | (x, r) => x :: rebBs ρ (j + 1) l (tailB base) r
def keepB : BSh → Bool
 | .ints _ keep => keep
 | .rows _ keep => keep
 | .same => true
 | _ => false
def keepN : Nat → List BSh → Bool
 | _, [] => false
 | 0, b :: _ => keepB b
 | n + 1, _ :: l => keepN n l
/-- where the cut's block j lies in the state that goes on: there, by a mark that differs if its holders don't go on -/
def ρcut (base : List (Blk T)) (bs : List BSh) (j : Nat) : Nat × Nat :=
 match Nat.blt j base.length with
 | true => match keepN j bs with
  | true => (j, epOf base j)
  | false => (j, epOf base j + 1)
 | false => (j, 0)
structure Cut where
 tm : List (Nat × TSh)
 bs : List BSh
def tmShapes : List (Nat × TSh) → List TSh
 | [] => []
 | (_, s) :: l => s :: tmShapes l
def Cut.leaves (c : Cut) : List Leaf := TSh.leavesL (tmShapes c.tm) ++ BSh.leavesL c.bs
def looks (env : List (Nat × PV T)) : List (Nat × TSh) → List (PV T)
 | [] => []
 | (t, _) :: l => look t env :: looks env l
/-- the first n blocks keep their numbers: those that are told -/
def startBind : Nat → Nat → List BSh → List (Nat × Option Nat)
 | 0, _, _ => []
 | _, _, [] => []
 | n + 1, j, .gone :: l => startBind n (j + 1) l
 | n + 1, j, _ :: l => (j, some j) :: startBind n (j + 1) l
/-- what is lent for good was the call's own -/
def lentOwn (heap : List (Blk T)) : List Nat → Bool
 | [] => true
 | id :: l => match getL heap id with
  | some (.ints .own _ _ _) => lentOwn heap l
  | some (.rows .own _ _ _) => lentOwn heap l
  | _ => false
/-- what is told to be gone was the call's own -/
def goneFine : List (Blk T) → List BSh → Bool
 | b :: l, .gone :: m => match b with
  | .box .own _ => goneFine l m
  | .ints .own _ _ _ => goneFine l m
  | .rows .own _ _ _ => goneFine l m
  | .gone => goneFine l m
  | .mp .own _ => goneFine l m
  | .mpr .own _ _ _ => goneFine l m
  | _ => false
 | _ :: l, _ :: m => goneFine l m
 | _, _ => true
/-- values and blocks, in the shapes that are told. base: the blocks that stood there -/
def castAll (ss : List TSh) (vs : List (PV T)) (bs : List BSh) (base heap : List (Blk T)) : Option (List (LV T) × CS) :=
 match castTs heap ss vs ⟨startBind base.length 0 bs, []⟩ with
 | none => none
 | some (a, cs) => match castBs heap base 0 bs cs with
  | none => none
  | some (b, cs) => match Nat.ble base.length bs.length, cs.fine bs, goneFine base bs with
   | true, true, true => some (a ++ b, cs)
   | _, _, _ => none
/-- base: the blocks that the cut speaks of -/
def castSt (c : Cut) (base : List (Blk T)) (σ : St T) : Option (Pay T c.leaves) :=
 match castAll (tmShapes c.tm) (looks σ.env c.tm) c.bs base σ.heap with
 | none => none
 | some (a, cs) => match lentOwn σ.heap cs.lent with
  | true => ofL c.leaves a
  | false => none
def zipT : List (Nat × TSh) → List (PV T) → List (Nat × PV T) → List (Nat × PV T)
 | (t, _) :: l, v :: m, r => (t, v) :: zipT l m r
 | _, _, r => r
def rebSt (c : Cut) (base : St T) (p : Pay T c.leaves) : St T :=
 match rebTs (ρcut base.heap c.bs) (tmShapes c.tm) (toL c.leaves p) with
 | (vs, r) => { env := zipT c.tm vs base.env, heap := rebBs (ρcut base.heap c.bs) 0 c.bs base.heap r }
def minus (env : List (Nat × PV T)) (ds : List Nat) : List (Nat × PV T) :=
 match env with
 | [] => []
 | (t, v) :: r => match memN t ds with
  | true => minus r ds
  | false => (t, v) :: minus r ds
def protB : Blk T → Blk T
 | .box .own c => .box .prot c
 | .ints .own k ep xs => .ints .prot k ep xs
 | .rows .own i ep xs => .rows .prot i ep xs
 | .mp .own k => .mp .prot k
 | .mpr .own k i xs => .mpr .prot k i xs
 | b => b
def protect : List BSh → List (Blk T) → List (Blk T)
 | [], [] => []
 | [], b :: h => protB b :: protect [] h
 | _ :: _, [] => []
 | .same :: l, b :: h => protB b :: protect l h
 | _ :: l, b :: h => b :: protect l h
/-! ### 5. Ways on -/
inductive Ex where
 | normal
 | exit (id : Nat)
 | ret
def Ex.same : Ex → Ex → Bool
 | .normal, .normal => true
 | .ret, .ret => true
 | .exit i, .exit j => Nat.beq i j
 | _, _ => false
def AltT (T : Nat → Type) : List (Ex × Cut) → Type
 | [] => Empty
 | a :: as => match as with
  | [] => Pay T a.2.leaves
  | _ :: _ => Pay T a.2.leaves ⊕ AltT T as
def putAlt : (as : List (Ex × Cut)) → List (Blk T) → Ex → St T → Option (AltT T as)
 | [], _, _, _ => none
 | [(e, c)], base, ex, σ => match ex.same e with
  | true => castSt c base σ
  | false => none
 | (e, c) :: b :: as, base, ex, σ => match ex.same e with
  | true => match castSt c base σ with
   | some p => some (.inl p)
   | none => none
  | false => match putAlt (b :: as) base ex σ with
   | some p => some (.inr p)
   | none => none
def getAlt {R : Type} : (as : List (Ex × Cut)) → St T → AltT T as → (Ex → St T → Option R) → Option R
 | [], _, _, _ => none
 | [(e, c)], base, p, k => k e (rebSt c base p)
 | (e, c) :: b :: as, base, p, k => match p with
  | .inl p => k e (rebSt c base p)
  | .inr p => getAlt (b :: as) base p k
/-! ### 6. Loops without a bound -/
def iter {S A : Type} (f : S → Option (S ⊕ A)) : Nat → S → Option A
 | 0, _ => none
 | n + 1, s => match f s with
  | some (.inl s') => iter f n s'
  | some (.inr a) => some a
  | none => none
open Classical in
noncomputable def loop {S A : Type} (f : S → Option (S ⊕ A)) (s : S) : Option A :=
 if h : ∃ n a, iter f n s = some a then iter f h.choose s else none
theorem iter_mono {S A : Type} {f : S → Option (S ⊕ A)} : ∀ {n : Nat} {s : S} {a : A}, iter f n s = some a → ∀ m, n ≤ m → iter f m s = some a
 | 0, _, _, h, _, _ => by simp [iter] at h
 | n + 1, s, a, h, m, hm => by
  obtain ⟨m, rfl⟩ : ∃ k, m = k + 1 := ⟨m - 1, by omega⟩
  simp only [iter] at h ⊢
  split at h
  ·exact iter_mono h m (by omega)
  ·exact h
  ·cases h
theorem loop_of_iter {S A : Type} {f : S → Option (S ⊕ A)} {n : Nat} {s : S} {a : A} (h : iter f n s = some a) : loop f s = some a := by
 have hh : ∃ n a, iter f n s = some a := ⟨n, a, h⟩
 unfold loop
 rw [dif_pos hh]
 obtain ⟨b, hb⟩ := hh.choose_spec
 have h1 := iter_mono hb (max n hh.choose) (by omega)
 have h2 := iter_mono h (max n hh.choose) (by omega)
 rw [h1] at h2
 rw [hb]; exact h2
theorem iter_of_loop {S A : Type} {f : S → Option (S ⊕ A)} {s : S} {a : A} (h : loop f s = some a) : ∃ n, iter f n s = some a := by
 unfold loop at h
 split at h
 ·exact ⟨_, h⟩
 ·cases h
/-- The one law of a loop. -/
theorem loop_eq {S A : Type} (f : S → Option (S ⊕ A)) (s : S) :
  loop f s = match f s with
   | some (.inl s') => loop f s'
   | some (.inr a) => some a
   | none => none := by
 cases hl : loop f s with
 | some a =>
  obtain ⟨n, hn⟩ := iter_of_loop hl
  cases n with
  | zero => simp [iter] at hn
  | succ n =>
   simp only [iter] at hn
   split at hn
   ·exact (loop_of_iter hn).symm
   ·exact hn.symm
   ·cases hn
 | none =>
  symm
  cases hf : f s with
  | none => rfl
  | some x =>
   cases x with
   | inl s' =>
    cases hs : loop f s' with
    | none => exact hs
    | some a =>
     obtain ⟨n, hn⟩ := iter_of_loop hs
     have : iter f (n + 1) s = some a := by simp only [iter, hf]; exact hn
     rw [loop_of_iter this] at hl; cases hl
   | inr a =>
    have : iter f 1 s = some a := by simp only [iter, hf]
    rw [loop_of_iter this] at hl; cases hl
end
end Go.Proofs.YtgffdmgidnnedaaGreat.V
