import Derived.Tactics
import Derived.Laws.World
import Derived.Laws.AppendOwn
import Derived.Laws.IdiomCopy
import Derived.Deep.Draws
import Derived.Laws.Pointers
import Derived.Laws.Concat
import Derived.Laws.Strings
import Derived.Laws.Tables
namespace Go.Proofs.YtcphcfknnfibmaaGreat.V
open Go Go.IntKind
set_option linter.unusedVariables false
set_option linter.unusedSimpArgs false
set_option linter.unusedSectionVars false
set_option maxRecDepth 100000
abbrev A1 := @Option.bind_some
abbrev A3 := @if_pos
abbrev A4 := @if_false
abbrev A5 := @Bool.false_eq_true
abbrev A6 := @if_true
abbrev A7 := @if_neg
abbrev A8 := @decide_true
abbrev A9 := @decide_false
abbrev A10 := @Int.ofNat_lt
abbrev A11 := @Nat.le_refl
abbrev A12 := @Int.toNat_natCast
abbrev A13 := @List.length_append
abbrev A14 := @Bool.not_true
abbrev A15 := @true_and
abbrev A16 := @Option.some.injEq
abbrev A17 := @Int.natCast_nonneg
abbrev A18 := @List.getElem?_eq_getElem
abbrev A19 := @List.mem_cons
abbrev A20 := @decide_eq_true_eq
abbrev A21 := @List.length_cons
abbrev A22 := @Nat.zero_add
abbrev A23 := @List.mem_cons_self
abbrev A24 := @List.length_take
abbrev A25 := @Bool.and_eq_true
abbrev A26 := @List.length_singleton
abbrev A27 := @List.append_assoc
abbrev A28 := @List.nil_append
abbrev A29 := @List.mem_cons_of_mem
abbrev A30 := @Nat.zero_le
abbrev A31 := @and_self
abbrev A32 := @Array.length_toList
abbrev A33 := @Prod.mk.injEq
abbrev A34 := @Option.bind_eq_some_iff
abbrev A35 := @List.length_nil
abbrev A36 := @Nat.add_zero
abbrev A37 := @Option.map_some
abbrev A38 := @List.append_nil
abbrev A39 := @of_decide_eq_true
abbrev A40 := @List.cons_append
abbrev A41 := @List.mem_of_getElem?
abbrev A42 := @List.getElem?_eq_some_iff
abbrev A43 := @Sum.elim_inl
abbrev A44 := @List.mem_append
abbrev A45 := @List.getElem?_map
abbrev A46 := @Bool.not_false
abbrev A47 := @Array.getD_eq_getD_getElem?
abbrev A48 := @List.getElem?_append_right
abbrev A49 := @Bool.true_and
abbrev A50 := @List.length_range
abbrev A51 := @List.length_map
abbrev A52 := @Option.map_none
abbrev A53 := @List.map_cons
abbrev A54 := @List.getElem?_drop
abbrev A55 := @Nat.add_mul
abbrev A56 := @Option.map_bind
abbrev A57 := @List.getElem?_append_left
abbrev A58 := @Nat.add_assoc
abbrev A59 := @List.length_set
abbrev A60 := @List.mem_map
abbrev A61 := @List.mem_singleton
abbrev A62 := @decide_eq_false_iff_not
abbrev A63 := @Int.ofNat_le
abbrev A64 := @Bool.false_and
abbrev A65 := @List.getElem?_eq_none
abbrev A66 := @List.getElem?_take
abbrev A67 := @Option.bind_assoc
abbrev A68 := @List.drop_eq_getElem_cons
abbrev A69 := @and_true
abbrev A70 := @List.mem_append_right
abbrev A71 := @List.not_mem_nil
abbrev A72 := @or_false
abbrev A73 := @Int.eq_ofNat_of_zero_le
abbrev A74 := @Array.getElem?_eq_getElem
abbrev A75 := @Nat.lt_of_lt_of_le
abbrev A76 := @List.getElem?_of_mem
abbrev A77 := @List.length_drop
abbrev A78 := @forall_eq
abbrev A79 := @List.map_nil
abbrev A80 := @Nat.le_trans
abbrev A81 := @List.mem_of_mem_take
abbrev A82 := @List.getElem?_range
abbrev A83 := @Array.getElem?_setIfInBounds
abbrev A84 := @forall_eq_or_imp
abbrev A85 := @Nat.lt_or_ge
abbrev A86 := @Nat.le_of_ble_eq_true
abbrev A87 := @List.mem_range
abbrev A88 := @List.map_append
abbrev A89 := @Nat.mod_eq_of_lt
abbrev A90 := @List.mem_append_left
abbrev A91 := @List.mem_filter
abbrev A92 := @List.getElem_mem
abbrev A93 := @Option.map_eq_some_iff
abbrev A94 := @List.take_length
abbrev A95 := @Nat.eq_of_beq_eq_true
abbrev A96 := @List.getD_eq_getElem?_getD
abbrev A97 := @List.mem_of_mem_drop
abbrev A98 := @List.ext_getElem?
abbrev A99 := @List.length_replicate
abbrev A100 := @List.drop_eq_nil_of_le
abbrev A101 := @Int.pow_pos
abbrev A102 := @Nat.mul_one
abbrev A103 := @Nat.mul_le_mul_right
abbrev A104 := @Nat.sub_self
abbrev A105 := @List.take_append_drop
abbrev A106 := @List.all_eq_true
abbrev A107 := @List.take_add_one
abbrev A108 := @Bool.and_true
abbrev A109 := @Int.lt_irrefl
abbrev A110 := @List.getElem?_cons_zero
abbrev A111 := @Array.getElem?_eq_none
abbrev A112 := @List.eq_nil_of_length_eq_zero
abbrev A113 := @Int.fdiv_eq_ediv_of_nonneg
abbrev A114 := @Array.getElem?_append_left
abbrev A115 := @List.drop_drop
abbrev A116 := @List.take_zero
abbrev A117 := @Nat.lt_trichotomy
abbrev A118 := @List.mem_reverse
abbrev A119 := @Int.mul_nonneg
abbrev A120 := @Int.mul_le_mul_of_nonneg_left
abbrev A121 := @Bool.and_false
abbrev A122 := @Bool.and_self
abbrev A123 := @List.getElem?_cons_succ
abbrev A124 := @Nat.eq_zero_or_pos
abbrev A125 := @List.length_pos_iff
abbrev A126 := @List.getElem?_replicate
abbrev A127 := @List.take_of_length_le
abbrev A128 := @Option.getD_some
abbrev A129 := @List.map_congr_left
abbrev A130 := @List.filter_cons
abbrev A131 := @List.countP_cons
abbrev A132 := @List.pairwise_append
abbrev A133 := @List.countP_eq_zero
abbrev A134 := @Int.mul_le_mul_of_nonneg_right
inductive PV (T : Nat -> Type) : Type where
 | int (k : IntKind) (n : Int)
 | bool (b : Bool)
 | str (s : List Int)
 | ints (k : IntKind) (xs : List Int)
 | rows (i : Nat) (xs : List (T i))
 | arr (id ep : Nat)
 | sub (id ep off len : Nat)
 | agg (l : List (PV T))
 | tup (l : List (PV T))
 | ptr (id off : Nat)
 | eptr (id ep : Nat) (i : Int) (fld : Nat)
 | fptr (l : List (PV T))
 | nil
 | nilsl
 | fn (f : Nat) (caps : List (PV T))
 | any
 | boold
 | aptr (id off n : Nat) (i : Int)
 | mapr (id : Nat)
 | nilm
def PV.one {T : Nat -> Type} : PV T -> Bool
 | .agg _ => false
 | .tup _ => false
 | .any => false
 | .boold => false
 | .aptr _ _ _ _ => false
 | _ => true
def B78 {T : Nat -> Type} : List (PV T) -> Bool
 | [] => true
 | p :: l => match p.one with
  | true => B78 l
  | false => false
inductive Mode where
 | own | frozen | prot
inductive KK where
 | int (k : IntKind)
 | str
inductive KV where
 | int (n : Int)
 | str (s : List Int)
 | no
def KK.beq : KK -> KK -> Bool
 | .int a, .int b => decide (a = b)
 | .str, .str => true
 | _, _ => false
theorem KK.beq_eq : ∀ {a b : KK}, KK.beq a b = true -> a = b
 | .int a, .int b, h => by rw [show a = b from A39 h]
 | .str, .str, _ => rfl
 | .int _, .str, h => by cases h
 | .str, .int _, h => by cases h
instance : DecidableEq KV := fun a b => match a, b with
 | .int m, .int n => if h : m = n then .isTrue (by rw [h]) else .isFalse fun e => h (by cases e; rfl)
 | .str m, .str n => if h : m = n then .isTrue (by rw [h]) else .isFalse fun e => h (by cases e; rfl)
 | .no, .no => .isTrue rfl
 | .int _, .str _ => .isFalse fun e => by cases e
 | .int _, .no => .isFalse fun e => by cases e
 | .str _, .int _ => .isFalse fun e => by cases e
 | .str _, .no => .isFalse fun e => by cases e
 | .no, .int _ => .isFalse fun e => by cases e
 | .no, .str _ => .isFalse fun e => by cases e
inductive Blk (T : Nat -> Type) : Type where
 | box (m : Mode) (cells : List (PV T))
 | ints (m : Mode) (k : IntKind) (ep : Nat) (xs : List Int)
 | rows (m : Mode) (i ep : Nat) (xs : List (T i))
 | gone
 | mp (m : Mode) (k : IntKind)
 | mpr (m : Mode) (k : KK) (i : Nat) (xs : List (T i))
structure Env where
 T : Nat -> Type
 outs : (i : Nat) -> T i -> List (PV T)
 inn : (i : Nat) -> List (PV T) -> Option (T i)
 sz : Nat -> Nat
 flat : Nat -> Bool
inductive EK where
 | int (k : IntKind)
 | row (i : Nat)
structure St (T : Nat -> Type) where
 env : List (Nat × PV T)
 heap : List (Blk T)
section
variable {T : Nat -> Type}
def look (t : Nat) : List (Nat × PV T) -> PV T
 | [] => .any
 | (u, v) :: r => match Nat.beq t u with
  | true => v
  | false => look t r
def put (N : Nat) (dst : Option Nat) (v : PV T) (env : List (Nat × PV T)) : Option (List (Nat × PV T)) :=
 match dst with
 | none => some env
 | some d => match Nat.blt d N with
  | true => some ((d, v) :: env)
  | false => none
def B9 (s : ByteArray) : List Int := s.data.toList.map fun b => (b.toNat : Int)
def fitsB (k : IntKind) (n : Int) : Bool := match k with
 | .i8 => decide (-128 <= n ∧ n <= 127)
 | .i16 => decide (-32768 <= n ∧ n <= 32767)
 | .i32 => decide (-2147483648 <= n ∧ n <= 2147483647)
 | .i64 => decide (-9223372036854775808 <= n ∧ n <= 9223372036854775807)
 | .u8 => decide (0 <= n ∧ n <= 255)
 | .u16 => decide (0 <= n ∧ n <= 65535)
 | .u32 => decide (0 <= n ∧ n <= 4294967295)
 | .u64 => decide (0 <= n ∧ n <= 18446744073709551615)
def B457 : Value -> PV T
 | .int k n => match fitsB k n with
  | true => .int k n
  | false => .any
 | .bool b => .bool b
 | .string s => match Nat.ble s.data.toList.length 100000 with
  | true => .str (B9 s)
  | false => .any
 | .slice none 0 0 => .nilsl
 | .pointer none => .nil
 | .map none => .nilm
 | .tuple vs => match vs.toList with
  | [] => .tup []
  | _ => .any
 | _ => .any
def eval (env : List (Nat × PV T)) : Operand -> PV T
 | .tmp t => look t env
 | .const v => B457 v
 | .global _ => .any
 | .func f => .fn f []
def setL {α : Type} : List α -> Nat -> α -> List α
 | [], _, _ => []
 | _ :: l, 0, a => a :: l
 | x :: l, n + 1, a => x :: setL l n a
def getL {α : Type} : List α -> Nat -> Option α
 | [], _ => none
 | x :: _, 0 => some x
 | _ :: l, n + 1 => getL l n
def takeL {α : Type} : Nat -> List α -> Option (List α)
 | 0, _ => some []
 | _ + 1, [] => none
 | n + 1, x :: l => match takeL n l with
  | some r => some (x :: r)
  | none => none
def dropL {α : Type} : Nat -> List α -> Option (List α)
 | 0, l => some l
 | _ + 1, [] => none
 | n + 1, _ :: l => dropL n l
def replL {α : Type} : List α -> Nat -> List α -> Option (List α)
 | l, 0, [] => some l
 | [], 0, _ :: _ => none
 | _ :: l, 0, a :: as => match replL l 0 as with
  | some r => some (a :: r)
  | none => none
 | [], _ + 1, _ => none
 | x :: l, n + 1, as => match replL l n as with
  | some r => some (x :: r)
  | none => none
def rd (xs : List Int) (i : Int) : Int := xs.getD i.toNat 0
def intsK : Nat -> List (PV T) -> Option (IntKind × List Int)
 | 0, _ => none
 | _ + 1, [] => none
 | n + 1, .int k x :: l => match n with
  | 0 => some (k, [x])
  | n + 1 => match intsK (n + 1) l with
   | some (k', xs) => match decide (k = k') with
    | true => some (k, x :: xs)
    | false => none
   | none => none
 | _ + 1, _ :: _ => none
def B140 (k : IntKind) (i x : Int) : Int -> List Int -> List (PV T)
 | _, [] => []
 | j, y :: l => .int k (if i = j then x else y) :: B140 k i x (j + 1) l
def iand (k : IntKind) (a b : Int) : Int := k.wrap (BitVec.ofInt k.bits a &&& BitVec.ofInt k.bits b).toNat
def ior (k : IntKind) (a b : Int) : Int := k.wrap (BitVec.ofInt k.bits a ||| BitVec.ofInt k.bits b).toNat
def ixor (k : IntKind) (a b : Int) : Int := k.wrap (BitVec.ofInt k.bits a ^^^ BitVec.ofInt k.bits b).toNat
def iandn (k : IntKind) (a b : Int) : Int := k.wrap (BitVec.ofInt k.bits a &&& ~~~(BitVec.ofInt k.bits b)).toNat
def ishl (k : IntKind) (a b : Int) : Int := k.wrap (a * 2 ^ (min b.toNat k.bits))
def ishr (k : IntKind) (a b : Int) : Int := a.fdiv (2 ^ (min b.toNat k.bits))
def strLt : List Int -> List Int -> Bool
 | _, [] => false
 | [], _ :: _ => true
 | a :: x, b :: y => decide (a < b) || (decide (a = b) && strLt x y)
def intOp {R : Type} (op : BinOp) (k : IntKind) (a b : Int) (K : PV T -> Option R) : Option R :=
 match op with
 | .add => K (.int k (k.wrap (a + b)))
 | .sub => K (.int k (k.wrap (a - b)))
 | .mul => K (.int k (k.wrap (a * b)))
 | .quo => if b = 0 then none else K (.int k (k.wrap (a.tdiv b)))
 | .rem => if b = 0 then none else K (.int k (a.tmod b))
 | .and => K (.int k (iand k a b))
 | .or => K (.int k (ior k a b))
 | .xor => K (.int k (ixor k a b))
 | .andNot => K (.int k (iandn k a b))
 | .eql => K (.bool (decide (a = b)))
 | .neq => K (.bool (!decide (a = b)))
 | .lss => K (.bool (decide (a < b)))
 | .leq => K (.bool (decide (a <= b)))
 | .gtr => K (.bool (decide (a > b)))
 | .geq => K (.bool (decide (a ≥ b)))
 | .shl => if b < 0 then none else K (.int k (ishl k a b))
 | .shr => if b < 0 then none else K (.int k (ishr k a b))
def strOp {R : Type} (op : BinOp) (a b : List Int) (K : PV T -> Option R) : Option R :=
 match op with
 | .add => if a.length + b.length <= 9223372036854775807 then K (.str (a ++ b)) else none
 | .eql => K (.bool (decide (a = b)))
 | .neq => K (.bool (!decide (a = b)))
 | .lss => K (.bool (strLt a b))
 | .leq => K (.bool (strLt a b || decide (a = b)))
 | .gtr => K (.bool (!(strLt a b || decide (a = b))))
 | .geq => K (.bool (!strLt a b))
 | _ => none
def eqOp {R : Type} (op : BinOp) (b : Bool) (K : PV T -> Option R) : Option R :=
 match op with
 | .eql => K (.bool b)
 | .neq => K (.bool (!b))
 | _ => none
def nilEq {R : Type} (op : BinOp) (n : Nat) (K : PV T -> Option R) : Option R :=
 match op with
 | .eql => if n = 0 then K .boold else K (.bool false)
 | .neq => if n = 0 then K .boold else K (.bool true)
 | _ => none
open Classical in
noncomputable def demon {R : Type} (a b : Option R) : Option R := if a = b then a else none
theorem B258 {R : Type} {a b : Option R} {r : R} (h : demon a b = some r) : a = some r ∧ b = some r := by
 unfold demon at h
 split at h
 ·rename_i e; exact ⟨h, e ▸ h⟩
 ·cases h
theorem B129 {R : Type} (a : Option R) : demon a a = a := by simp [demon]
def B330 {R : Type} (ty : Option TypeDesc) (op : BinOp) (x y : PV T) (K : PV T -> Option R) : Option R :=
 match x, y with
 | .int k a, .int k' b => match op with
  | .shl => intOp .shl k a b K
  | .shr => intOp .shr k a b K
  | op => match decide (k = k') with
   | true => intOp op k a b K
   | false => none
 | .str a, .str b => strOp op a b K
 | .bool a, .bool b => match ty with
  | some .bool => eqOp op (decide (a = b)) K
  | _ => none
 | .nil, .nil => match ty with
  | some (.pointer _) => eqOp op true K
  | _ => none
 | .ptr _ _, .nil => match ty with
  | some (.pointer _) => eqOp op false K
  | _ => none
 | .nil, .ptr _ _ => match ty with
  | some (.pointer _) => eqOp op false K
  | _ => none
 | .nilsl, .nilsl => match ty with
  | some (.slice _) => eqOp op true K
  | _ => none
 | .ints _ xs, .nilsl => match ty with
  | some (.slice _) => nilEq op xs.length K
  | _ => none
 | .rows _ xs, .nilsl => match ty with
  | some (.slice _) => nilEq op xs.length K
  | _ => none
 | _, _ => none
def unOpV {R : Type} (op : UnOp) (x : PV T) (K : PV T -> Option R) : Option R :=
 match op, x with
 | .neg, .int k n => K (.int k (k.wrap (0 - n)))
 | .xor, .int k n => K (.int k (ixor k (if k.signed then -1 else k.max) n))
 | .not, .bool b => K (.bool (!b))
 | _, _ => none
inductive Leaf where
 | int | bool | str | ints
 | rows (i : Nat)
inductive LV (T : Nat -> Type) : Type where
 | int (n : Int)
 | bool (b : Bool)
 | str (s : List Int)
 | ints (xs : List Int)
 | rows (i : Nat) (xs : List (T i))
def Leaf.den (T : Nat -> Type) : Leaf -> Type
 | .int => Int
 | .bool => Bool
 | .str => List Int
 | .ints => List Int
 | .rows i => List (T i)
def Leaf.toLV : (l : Leaf) -> l.den T -> LV T
 | .int, n => .int n
 | .bool, b => .bool b
 | .str, s => .str s
 | .ints, xs => .ints xs
 | .rows i, xs => .rows i xs
def Leaf.ofLV : (l : Leaf) -> LV T -> Option (l.den T)
 | .int, .int n => some n
 | .bool, .bool b => some b
 | .str, .str s => some s
 | .ints, .ints xs => some xs
 | .rows i, .rows j xs => if h : j = i then some (h ▸ xs) else none
 | _, _ => none
def Pay (T : Nat -> Type) : List Leaf -> Type
 | [] => Unit
 | l :: ls => match ls with
  | [] => l.den T
  | _ :: _ => l.den T × Pay T ls
def toL : (ls : List Leaf) -> Pay T ls -> List (LV T)
 | [], _ => []
 | [l], p => [l.toLV p]
 | l :: m :: ls, p => l.toLV p.1 :: toL (m :: ls) p.2
def ofL : (ls : List Leaf) -> List (LV T) -> Option (Pay T ls)
 | [], [] => some ()
 | [l], [v] => l.ofLV v
 | l :: m :: ls, v :: vs => match l.ofLV v, ofL (m :: ls) vs with
  | some a, some b => some (a, b)
  | _, _ => none
 | _, _ => none
inductive TSh where
 | int (k : IntKind)
 | bool
 | str
 | ints (k : IntKind)
 | rows (i : Nat)
 | arr (id : Nat)
 | agg (l : List TSh)
 | ptr (id off : Nat)
 | nil
 | lit (k : IntKind) (n : Int)
 | litb (b : Bool)
 | nilsl
 | fn (f : Nat) (caps : List TSh)
 | mapr (id : Nat)
inductive BSh where
 | box (cells : List TSh)
 | ints (k : IntKind) (keep : Bool)
 | rows (i : Nat) (keep : Bool)
 | same
 | gone
 | mp (k : IntKind)
 | mpr (k : KK) (i : Nat)
mutual
def TSh.leaves : TSh -> List Leaf
 | .int _ => [.int]
 | .bool => [.bool]
 | .str => [.str]
 | .ints _ => [.ints]
 | .rows i => [.rows i]
 | .arr _ => []
 | .agg l => TSh.leavesL l
 | .ptr _ _ => []
 | .nil => []
 | .lit _ _ => []
 | .litb _ => []
 | .nilsl => []
 | .fn _ caps => TSh.leavesL caps
 | .mapr _ => []
def TSh.leavesL : List TSh -> List Leaf
 | [] => []
 | s :: l => s.leaves ++ TSh.leavesL l
end
def BSh.leaves : BSh -> List Leaf
 | .box cells => TSh.leavesL cells
 | .ints _ _ => [.ints]
 | .rows i _ => [.rows i]
 | .same => []
 | .gone => []
 | .mp _ => []
 | .mpr _ i => [.rows i]
def BSh.leavesL : List BSh -> List Leaf
 | [] => []
 | b :: l => b.leaves ++ BSh.leavesL l
structure CS where
 bind : List (Nat × Option Nat)
 lent : List Nat
def lookB (j : Nat) : List (Nat × Option Nat) -> Option (Option Nat)
 | [] => none
 | (u, v) :: r => match Nat.beq j u with
  | true => some v
  | false => lookB j r
def B331 (cs : CS) (j : Nat) (x : Option Nat) : Option CS :=
 match lookB j cs.bind, x with
 | none, x => some { cs with bind := (j, x) :: cs.bind }
 | some (some a), some b => match Nat.beq a b with
  | true => some cs
  | false => none
 | _, _ => none
def B150 (m : Mode) (id : Nat) : List Nat := match m with
 | .frozen => []
 | _ => [id]
def B80 (heap : List (Blk T)) (k : IntKind) : PV T -> Option (List Int × List Nat)
 | .ints k' xs => match decide (k = k') with
  | true => some (xs, [])
  | false => none
 | .nilsl => some ([], [])
 | .arr id ep => match getL heap id with
  | some (.ints m k' ep' xs) => match decide (k = k'), Nat.beq ep ep' with
   | true, true => some (xs, B150 m id)
   | _, _ => none
  | _ => none
 | .sub id ep off len => match getL heap id with
  | some (.ints m k' ep' xs) => match decide (k = k'), Nat.beq ep ep' with
   | true, true => some ((xs.drop off).take len, B150 m id)
   | _, _ => none
  | _ => none
 | _ => none
def castR {i j : Nat} (h : j = i) (xs : List (T j)) : List (T i) := h ▸ xs
def B123 (heap : List (Blk T)) (i : Nat) : PV T -> Option (List (T i) × List Nat)
 | .rows j xs => if h : j = i then some (castR h xs, []) else none
 | .nilsl => some ([], [])
 | .arr id ep => match getL heap id with
  | some (.rows m j ep' xs) => match Nat.beq ep ep' with
   | true => if h : j = i then some (castR h xs, B150 m id) else none
   | _ => none
  | _ => none
 | .sub id ep off len => match getL heap id with
  | some (.rows m j ep' xs) => match Nat.beq ep ep' with
   | true => if h : j = i then some (((castR h xs).drop off).take len, B150 m id) else none
   | _ => none
  | _ => none
 | _ => none
def isOwn (heap : List (Blk T)) (id ep : Nat) : Bool :=
 match getL heap id with
 | some (.ints .own _ ep' _) => Nat.beq ep ep'
 | some (.rows .own _ ep' _) => Nat.beq ep ep'
 | _ => false
mutual
def castT (heap : List (Blk T)) : TSh -> PV T -> CS -> Option (List (LV T) × CS)
 | .int k, .int k' n, cs => match decide (k = k') with
  | true => some ([.int n], cs)
  | false => none
 | .bool, .bool b, cs => some ([.bool b], cs)
 | .str, .str s, cs => some ([.str s], cs)
 | .ints k, v, cs => match B80 heap k v with
  | some (xs, l) => some ([.ints xs], { cs with lent := l ++ cs.lent })
  | none => none
 | .rows i, v, cs => match B123 heap i v with
  | some (xs, l) => some ([.rows i xs], { cs with lent := l ++ cs.lent })
  | none => none
 | .arr j, .arr id ep, cs => match isOwn heap id ep with
  | true => match B331 cs j (some id) with
   | some cs => some ([], cs)
   | none => none
  | false => none
 | .arr j, .nilsl, cs => match B331 cs j none with
  | some cs => some ([], cs)
  | none => none
 | .agg l, .agg m, cs => castTs heap l m cs
 | .ptr j off, .ptr id off', cs => match Nat.beq off off' with
  | true => match B331 cs j (some id) with
   | some cs => some ([], cs)
   | none => none
  | false => none
 | .mapr j, .mapr id, cs => match B331 cs j (some id) with
  | some cs => some ([], cs)
  | none => none
 | .nil, .nil, cs => some ([], cs)
 | .nilsl, .nilsl, cs => some ([], cs)
 | .lit k n, .int k' m, cs => match decide (k = k'), decide (n = m) with
  | true, true => some ([], cs)
  | _, _ => none
 | .litb b, .bool c, cs => match b, c with
  | true, true => some ([], cs)
  | false, false => some ([], cs)
  | _, _ => none
 | .fn f l, .fn g m, cs => match Nat.beq f g with
  | true => castTs heap l m cs
  | false => none
 | _, _, _ => none
def castTs (heap : List (Blk T)) : List TSh -> List (PV T) -> CS -> Option (List (LV T) × CS)
 | [], [], cs => some ([], cs)
 | s :: l, v :: m, cs => match castT heap s v cs with
  | some (a, cs) => match castTs heap l m cs with
   | some (b, cs) => some (a ++ b, cs)
   | none => none
  | none => none
 | _, _, _ => none
end
def epOf (heap : List (Blk T)) (id : Nat) : Nat := match getL heap id with
 | some (.ints _ _ ep _) => ep
 | some (.rows _ _ ep _) => ep
 | _ => 0
def sameB (heap base : List (Blk T)) (j : Nat) : Bool :=
 match getL heap j, getL base j with
 | some (.box .prot _), some (.box .prot _) => true
 | some (.ints .prot _ _ _), some (.ints .prot _ _ _) => true
 | some (.rows .prot _ _ _), some (.rows .prot _ _ _) => true
 | some (.ints .frozen _ _ _), some (.ints .frozen _ _ _) => true
 | some (.rows .frozen _ _ _), some (.rows .frozen _ _ _) => true
 | some .gone, some .gone => true
 | some (.mp .prot _), some (.mp .prot _) => true
 | some (.mpr .prot _ _ _), some (.mpr .prot _ _ _) => true
 | _, _ => false
def castB (heap base : List (Blk T)) (j : Nat) (b : BSh) (cs : CS) : Option (List (LV T) × CS) :=
 match b with
 | .gone => some ([], cs)
 | .same => match sameB heap base j with
  | true => some ([], cs)
  | false => none
 | .box cells => match lookB j cs.bind with
  | some (some id) => match getL heap id with
   | some (.box .own vs) => castTs heap cells vs cs
   | _ => none
  | _ => none
 | .mp k => match lookB j cs.bind with
  | some (some id) => match getL heap id with
   | some (.mp .own k') => match decide (k = k') with
    | true => some ([], cs)
    | false => none
   | _ => none
  | _ => none
 | .mpr k i => match lookB j cs.bind with
  | some (some id) => match getL heap id with
   | some (.mpr .own k' i' xs) => if h : i' = i then (match KK.beq k k' with
    | true => some ([.rows i (castR h xs)], cs)
    | false => none) else none
   | _ => none
  | _ => none
 | .ints k keep => match lookB j cs.bind with
  | some (some id) => match getL heap id with
   | some (.ints .own k' ep xs) => match decide (k = k'), (match keep with
     | true => match Nat.beq ep (epOf base j) with
      | true => Nat.beq id j
      | false => false
     | false => true) with
    | true, true => some ([.ints xs], cs)
    | _, _ => none
   | _ => none
  | some none => match keep with
   | true => none
   | false => some ([.ints []], cs)
  | none => none
 | .rows i keep => match lookB j cs.bind with
  | some (some id) => match getL heap id with
   | some (.rows .own i' ep xs) => if h : i' = i then (match (match keep with
     | true => match Nat.beq ep (epOf base j) with
      | true => Nat.beq id j
      | false => false
     | false => true) with
    | true => some ([.rows i (castR h xs)], cs)
    | false => none) else none
   | _ => none
  | some none => match keep with
   | true => none
   | false => some ([.rows i []], cs)
  | none => none
def B232 (heap base : List (Blk T)) : Nat -> List BSh -> CS -> Option (List (LV T) × CS)
 | _, [], cs => some ([], cs)
 | j, b :: l, cs => match castB heap base j b cs with
  | some (a, cs) => match B232 heap base (j + 1) l cs with
   | some (c, cs) => some (a ++ c, cs)
   | none => none
  | none => none
def memN (n : Nat) : List Nat -> Bool
 | [] => false
 | m :: l => match Nat.beq n m with
  | true => true
  | false => memN n l
def olds : List (Nat × Option Nat) -> List Nat
 | [] => []
 | (_, some a) :: l => a :: olds l
 | (_, none) :: l => olds l
def B286 : List Nat -> Bool
 | [] => true
 | n :: l => match memN n l with
  | true => false
  | false => B286 l
def disjN : List Nat -> List Nat -> Bool
 | [], _ => true
 | n :: l, m => match memN n m with
  | true => false
  | false => disjN l m
def B557 (bs : List BSh) : List (Nat × Option Nat) -> Bool
 | [] => true
 | (j, _) :: l => match getL bs j with
  | none => false
  | some .gone => false
  | some _ => B557 bs l
def CS.fine (cs : CS) (bs : List BSh) : Bool :=
 match B286 (olds cs.bind), disjN (olds cs.bind) cs.lent, B557 bs cs.bind with
 | true, true, true => true
 | _, _, _ => false
mutual
def rebT (ρ : Nat -> Nat × Nat) : TSh -> List (LV T) -> PV T × List (LV T)
 | .int k, .int n :: r => (.int k n, r)
 | .bool, .bool b :: r => (.bool b, r)
 | .str, .str s :: r => (.str s, r)
 | .ints k, .ints xs :: r => (.ints k xs, r)
 | .rows i, .rows j xs :: r => if h : j = i then (.rows i (castR h xs), r) else (.any, r)
 | .arr j, r => (.arr (ρ j).1 (ρ j).2, r)
 | .agg l, r => match rebTs ρ l r with
  | (vs, r) => (.agg vs, r)
 | .ptr j off, r => (.ptr (ρ j).1 off, r)
 | .mapr j, r => (.mapr (ρ j).1, r)
 | .nil, r => (.nil, r)
 | .lit k n, r => (.int k n, r)
 | .litb b, r => (.bool b, r)
 | .nilsl, r => (.nilsl, r)
 | .fn f l, r => match rebTs ρ l r with
  | (vs, r) => (.fn f vs, r)
 | _, r => (.any, r)
def rebTs (ρ : Nat -> Nat × Nat) : List TSh -> List (LV T) -> List (PV T) × List (LV T)
 | [], r => ([], r)
 | s :: l, r => match rebT ρ s r with
  | (v, r) => match rebTs ρ l r with
   | (vs, r) => (v :: vs, r)
end
def rebB (ρ : Nat -> Nat × Nat) (ep : Nat) (b : Blk T) : BSh -> List (LV T) -> Blk T × List (LV T)
 | .box cells, r => match rebTs ρ cells r with
  | (vs, r) => (.box .own vs, r)
 | .ints k _, .ints xs :: r => (.ints .own k ep xs, r)
 | .rows i _, .rows j xs :: r => if h : j = i then (.rows .own i ep (castR h xs), r) else (.gone, r)
 | .same, r => (b, r)
 | .mp k, r => (.mp .own k, r)
 | .mpr k i, .rows j xs :: r => if h : j = i then (.mpr .own k i (castR h xs), r) else (.gone, r)
 | _, r => (.gone, r)
def headB : List (Blk T) -> Blk T
 | [] => .gone
 | b :: _ => b
def tailB : List (Blk T) -> List (Blk T)
 | [] => []
 | _ :: l => l
def rebBs (ρ : Nat -> Nat × Nat) : Nat -> List BSh -> List (Blk T) -> List (LV T) -> List (Blk T)
 | _, [], _, _ => []
 | j, b :: l, base, r => match rebB ρ (ρ j).2 (headB base) b r with
  | (x, r) => x :: rebBs ρ (j + 1) l (tailB base) r
def keepB : BSh -> Bool
 | .ints _ keep => keep
 | .rows _ keep => keep
 | .same => true
 | _ => false
def keepN : Nat -> List BSh -> Bool
 | _, [] => false
 | 0, b :: _ => keepB b
 | n + 1, _ :: l => keepN n l
def ρcut (base : List (Blk T)) (bs : List BSh) (j : Nat) : Nat × Nat :=
 match Nat.blt j base.length with
 | true => match keepN j bs with
  | true => (j, epOf base j)
  | false => (j, epOf base j + 1)
 | false => (j, 0)
structure Cut where
 tm : List (Nat × TSh)
 bs : List BSh
def B383 : List (Nat × TSh) -> List TSh
 | [] => []
 | (_, s) :: l => s :: B383 l
def Cut.leaves (c : Cut) : List Leaf := TSh.leavesL (B383 c.tm) ++ BSh.leavesL c.bs
def looks (env : List (Nat × PV T)) : List (Nat × TSh) -> List (PV T)
 | [] => []
 | (t, _) :: l => look t env :: looks env l
def B193 : Nat -> Nat -> List BSh -> List (Nat × Option Nat)
 | 0, _, _ => []
 | _, _, [] => []
 | n + 1, j, .gone :: l => B193 n (j + 1) l
 | n + 1, j, _ :: l => (j, some j) :: B193 n (j + 1) l
def B265 (heap : List (Blk T)) : List Nat -> Bool
 | [] => true
 | id :: l => match getL heap id with
  | some (.ints .own _ _ _) => B265 heap l
  | some (.rows .own _ _ _) => B265 heap l
  | _ => false
def B62 : List (Blk T) -> List BSh -> Bool
 | b :: l, .gone :: m => match b with
  | .box .own _ => B62 l m
  | .ints .own _ _ _ => B62 l m
  | .rows .own _ _ _ => B62 l m
  | .gone => B62 l m
  | .mp .own _ => B62 l m
  | .mpr .own _ _ _ => B62 l m
  | _ => false
 | _ :: l, _ :: m => B62 l m
 | _, _ => true
def B51 (ss : List TSh) (vs : List (PV T)) (bs : List BSh) (base heap : List (Blk T)) : Option (List (LV T) × CS) :=
 match castTs heap ss vs ⟨B193 base.length 0 bs, []⟩ with
 | none => none
 | some (a, cs) => match B232 heap base 0 bs cs with
  | none => none
  | some (b, cs) => match Nat.ble base.length bs.length, cs.fine bs, B62 base bs with
   | true, true, true => some (a ++ b, cs)
   | _, _, _ => none
def B111 (c : Cut) (base : List (Blk T)) (σ : St T) : Option (Pay T c.leaves) :=
 match B51 (B383 c.tm) (looks σ.env c.tm) c.bs base σ.heap with
 | none => none
 | some (a, cs) => match B265 σ.heap cs.lent with
  | true => ofL c.leaves a
  | false => none
def zipT : List (Nat × TSh) -> List (PV T) -> List (Nat × PV T) -> List (Nat × PV T)
 | (t, _) :: l, v :: m, r => (t, v) :: zipT l m r
 | _, _, r => r
def rebSt (c : Cut) (base : St T) (p : Pay T c.leaves) : St T :=
 match rebTs (ρcut base.heap c.bs) (B383 c.tm) (toL c.leaves p) with
 | (vs, r) => { env := zipT c.tm vs base.env, heap := rebBs (ρcut base.heap c.bs) 0 c.bs base.heap r }
def minus (env : List (Nat × PV T)) (ds : List Nat) : List (Nat × PV T) :=
 match env with
 | [] => []
 | (t, v) :: r => match memN t ds with
  | true => minus r ds
  | false => (t, v) :: minus r ds
def protB : Blk T -> Blk T
 | .box .own c => .box .prot c
 | .ints .own k ep xs => .ints .prot k ep xs
 | .rows .own i ep xs => .rows .prot i ep xs
 | .mp .own k => .mp .prot k
 | .mpr .own k i xs => .mpr .prot k i xs
 | b => b
def B8 : List BSh -> List (Blk T) -> List (Blk T)
 | [], [] => []
 | [], b :: h => protB b :: B8 [] h
 | _ :: _, [] => []
 | .same :: l, b :: h => protB b :: B8 l h
 | _ :: l, b :: h => b :: B8 l h
inductive Ex where
 | normal
 | exit (id : Nat)
 | ret
def Ex.same : Ex -> Ex -> Bool
 | .normal, .normal => true
 | .ret, .ret => true
 | .exit i, .exit j => Nat.beq i j
 | _, _ => false
def AltT (T : Nat -> Type) : List (Ex × Cut) -> Type
 | [] => Empty
 | a :: as => match as with
  | [] => Pay T a.2.leaves
  | _ :: _ => Pay T a.2.leaves ⊕ AltT T as
def B75 : (as : List (Ex × Cut)) -> List (Blk T) -> Ex -> St T -> Option (AltT T as)
 | [], _, _, _ => none
 | [(e, c)], base, ex, σ => match ex.same e with
  | true => B111 c base σ
  | false => none
 | (e, c) :: b :: as, base, ex, σ => match ex.same e with
  | true => match B111 c base σ with
   | some p => some (.inl p)
   | none => none
  | false => match B75 (b :: as) base ex σ with
   | some p => some (.inr p)
   | none => none
def B279 {R : Type} : (as : List (Ex × Cut)) -> St T -> AltT T as -> (Ex -> St T -> Option R) -> Option R
 | [], _, _, _ => none
 | [(e, c)], base, p, k => k e (rebSt c base p)
 | (e, c) :: b :: as, base, p, k => match p with
  | .inl p => k e (rebSt c base p)
  | .inr p => B279 (b :: as) base p k
def iter {S A : Type} (f : S -> Option (S ⊕ A)) : Nat -> S -> Option A
 | 0, _ => none
 | n + 1, s => match f s with
  | some (.inl s') => iter f n s'
  | some (.inr a) => some a
  | none => none
open Classical in
noncomputable def loop {S A : Type} (f : S -> Option (S ⊕ A)) (s : S) : Option A :=
 if h : ∃ n a, iter f n s = some a then iter f h.choose s else none
theorem B420 {S A : Type} {f : S -> Option (S ⊕ A)} : ∀ {n : Nat} {s : S} {a : A}, iter f n s = some a -> ∀ m, n <= m -> iter f m s = some a
 | 0, _, _, h, _, _ => by simp [iter] at h
 | n + 1, s, a, h, m, hm => by
  obtain ⟨m, rfl⟩ : ∃ k, m = k + 1 := ⟨m - 1, by omega⟩
  simp only [iter] at h ⊢
  split at h
  ·exact B420 h m (by omega)
  ·exact h
  ·cases h
theorem B151 {S A : Type} {f : S -> Option (S ⊕ A)} {n : Nat} {s : S} {a : A} (h : iter f n s = some a) : loop f s = some a := by
 have hh : ∃ n a, iter f n s = some a := ⟨n, a, h⟩
 unfold loop
 rw [dif_pos hh]
 obtain ⟨b, hb⟩ := hh.choose_spec
 have h1 := B420 hb (max n hh.choose) (by omega)
 have h2 := B420 h (max n hh.choose) (by omega)
 rw [h1] at h2
 rw [hb]; exact h2
theorem B149 {S A : Type} {f : S -> Option (S ⊕ A)} {s : S} {a : A} (h : loop f s = some a) : ∃ n, iter f n s = some a := by
 unfold loop at h
 split at h
 ·exact ⟨_, h⟩
 ·cases h
theorem B347 {S A : Type} (f : S -> Option (S ⊕ A)) (s : S) :
  loop f s = match f s with
   | some (.inl s') => loop f s'
   | some (.inr a) => some a
   | none => none := by
 cases hl : loop f s with
 | some a =>
  obtain ⟨n, hn⟩ := B149 hl
  cases n with
  | zero => simp [iter] at hn
  | succ n =>
   simp only [iter] at hn
   split at hn
   ·exact (B151 hn).symm
   ·exact hn.symm
   ·cases hn
 | none =>
  symm
  cases hf : f s with
  | none => rfl
  | some x =>
   cases x with
   | inl s' =>
    cases hs : loop f s' with
    | none => exact hs
    | some a =>
     obtain ⟨n, hn⟩ := B149 hs
     have : iter f (n + 1) s = some a := by simp only [iter, hf]; exact hn
     rw [B151 this] at hl; cases hl
   | inr a =>
    have : iter f 1 s = some a := by simp only [iter, hf]
    rw [B151 this] at hl; cases hl
end
abbrev Way := List TSh × List BSh
def Way.leaves (a : Way) : List Leaf := TSh.leavesL a.1 ++ BSh.leavesL a.2
structure Sig where
 ps : List TSh := []
 pb : List BSh := []
 rs : List TSh := []
 rb : List BSh := []
 more : List (List TSh × List BSh) := []
structure Ann where
 calls : List (Nat × Nat) := []
 loops : List (Nat × Cut × List (Ex × Cut)) := []
 joins : List (Nat × List (Ex × Cut)) := []
 cuts : List Nat := []
 unroll : List (Nat × Nat) := []
 slots : List (Nat × Nat) := []
 pads : List (Nat × Nat) := []
 orders : List (Nat × List Nat × List (List Nat)) := []
structure FInst where
 fid : Nat
 sig : Sig
 ann : Ann
def Sig.ins (s : Sig) : List Leaf := TSh.leavesL s.ps ++ BSh.leavesL s.pb
def Sig.way (s : Sig) : Way := (s.rs, s.rb)
def OutT (T : Nat -> Type) : Way -> List Way -> Type
 | a, [] => Pay T a.leaves
 | a, b :: l => Pay T a.leaves ⊕ OutT T b l
def Sig.Out (T : Nat -> Type) (s : Sig) : Type := OutT T s.way s.more
def B711 {T : Nat -> Type} {R : Type} : (a : Way) -> (l : List Way) -> OutT T a l -> (Way -> List (LV T) -> Option R) -> Option R
 | a, [], q, k => k a (toL a.leaves q)
 | a, b :: l, q, k => match q with
  | .inl q => k a (toL a.leaves q)
  | .inr q => B711 b l q k
def Sig.get {T : Nat -> Type} {R : Type} (s : Sig) (q : s.Out T) (k : Way -> List (LV T) -> Option R) : Option R := B711 s.way s.more q k
structure Prg where
 P : Program
 E : Env
 el : TypeId -> Option EK
 F : Nat -> FInst
 cmp : Nat -> Bool := fun _ => false
 ents : List (TypeId × Nat) := []
mutual
def TSh.holds : TSh -> Bool
 | .ints _ => true
 | .rows _ => true
 | .agg l => TSh.holdsL l
 | .fn _ l => TSh.holdsL l
 | _ => false
def TSh.holdsL : List TSh -> Bool
 | [] => false
 | s :: l => match s.holds with
  | true => true
  | false => TSh.holdsL l
end
def BSh.holds (E : Env) : BSh -> Bool
 | .box cells => TSh.holdsL cells
 | .ints _ _ => false
 | .rows i _ => !E.flat i
 | .same => false
 | .gone => false
 | .mp _ => false
 | .mpr _ i => !E.flat i
def BSh.holdsL (E : Env) : List BSh -> Bool
 | [] => false
 | b :: l => match b.holds E with
  | true => true
  | false => BSh.holdsL E l
def B388 (E : Env) : List Way -> Bool
 | [] => false
 | a :: l => match TSh.holdsL a.1, BSh.holdsL E a.2 with
  | false, false => B388 E l
  | _, _ => true
def Sig.holds (E : Env) (s : Sig) : Bool := B388 E (s.way :: s.more)
def B387 : List Way -> Bool
 | [] => true
 | a :: l => match a.2 with
  | [] => B387 l
  | _ :: _ => false
def Sig.bare (s : Sig) : Bool := B387 (s.way :: s.more)
section
variable (G : Prg) {R : Type}
abbrev TT := G.E.T
abbrev Rec := (i : Nat) -> Pay G.E.T (G.F i).sig.ins -> Option ((G.F i).sig.Out G.E.T)
def lookN {α : Type} (t : Nat) : List (Nat × α) -> Option α
 | [] => none
 | (u, v) :: r => match Nat.beq t u with
  | true => some v
  | false => lookN t r
def evals {T : Nat -> Type} (env : List (Nat × PV T)) : List Operand -> List (PV T)
 | [] => []
 | x :: l => eval env x :: evals env l
def B91 {T : Nat -> Type} (env : List (Nat × PV T)) : List (Nat × Operand) -> List (Nat × PV T)
 | [] => []
 | (i, x) :: l => (i, eval env x) :: B91 env l
def B21 {T : Nat -> Type} : PV T -> List (PV T)
 | .agg l => l
 | v => [v]
def B98 {T : Nat -> Type} : List Value -> List (PV T)
 | [] => []
 | v :: l => B457 v :: B98 l
def B25 (t : TypeId) : Option Nat := match G.P.info? t with
 | some i => some i.size
 | none => none
def B245 (t : TypeId) : Option Nat := match G.P.info? t with
 | some i => some i.bytes
 | none => none
def B213 (t : TypeId) : Option (List (PV G.E.T)) := match G.P.info? t with
 | some i => match i.zero with
  | some v => match B78 (T := G.E.T) (B98 v.cells.toList) with
   | true => some (B98 v.cells.toList)
   | false => none
  | none => none
 | none => none
def B767 (t : TypeId) : Option (List (PV G.E.T)) := match G.P.info? t with
 | some i => match i.zero with
  | some (.agg cs) => match B78 (T := G.E.T) (B98 cs.toList) with
   | true => some (B98 cs.toList)
   | false => none
  | _ => none
 | none => none
def B282 (t : TypeId) : Option Bool := match G.P.underlying t with
 | some (.struct _) => some true
 | some (.array _ _) => some true
 | some _ => some false
 | none => none
def elemT (t : TypeId) : Option TypeId := match G.P.underlying t with
 | some (.slice e) => some e
 | _ => none
def B216 (s : TypeId) (f : Nat) : Option Nat := match G.P.underlying s with
 | some (.struct fields) => match fields.toList[f]? with
  | some fd => match B25 G fd.type with
   | some (_ + 1) => some fd.offset
   | _ => none
  | none => none
 | _ => none
def B704 (s : TypeId) (f : Nat) : Option TypeId := match G.P.underlying s with
 | some (.struct fields) => match fields.toList[f]? with
  | some fd => some fd.type
  | none => none
 | _ => none
def packT (t : TypeId) (l : List (PV G.E.T)) : Option (PV G.E.T) := match B282 G t with
 | some true => match B25 G t with
  | some n => match takeL n l with
   | some r => some (.agg r)
   | none => none
  | none => none
 | some false => match l with
  | v :: _ => some v
  | [] => none
 | none => none
def B167 {T : Nat -> Type} (heap : List (Blk T)) : PV T -> Option (PV T × List (Blk T))
 | .int k n => some (.int k n, heap)
 | .bool b => some (.bool b, heap)
 | .str s => some (.str s, heap)
 | .ints k xs => some (.ints k xs, heap)
 | .rows i xs => some (.rows i xs, heap)
 | .nilsl => some (.nilsl, heap)
 | .arr id ep => match getL heap id with
  | some (.ints .own k ep' xs) => match Nat.beq ep ep' with
   | true => some (.ints k xs, setL heap id (.ints .frozen k ep' xs))
   | false => none
  | some (.ints .frozen k ep' xs) => match Nat.beq ep ep' with
   | true => some (.ints k xs, heap)
   | false => none
  | some (.rows .own i ep' xs) => match Nat.beq ep ep' with
   | true => some (.rows i xs, setL heap id (.rows .frozen i ep' xs))
   | false => none
  | some (.rows .frozen i ep' xs) => match Nat.beq ep ep' with
   | true => some (.rows i xs, heap)
   | false => none
  | _ => none
 | .sub id ep off len => match getL heap id with
  | some (.ints .own k ep' xs) => match Nat.beq ep ep' with
   | true => some (.ints k ((xs.drop off).take len), setL heap id (.ints .frozen k ep' xs))
   | false => none
  | some (.ints .frozen k ep' xs) => match Nat.beq ep ep' with
   | true => some (.ints k ((xs.drop off).take len), heap)
   | false => none
  | some (.rows .own i ep' xs) => match Nat.beq ep ep' with
   | true => some (.rows i ((xs.drop off).take len), setL heap id (.rows .frozen i ep' xs))
   | false => none
  | some (.rows .frozen i ep' xs) => match Nat.beq ep ep' with
   | true => some (.rows i ((xs.drop off).take len), heap)
   | false => none
  | _ => none
 | _ => none
def B54 {T : Nat -> Type} : List (Blk T) -> List (PV T) -> Option (List (PV T) × List (Blk T))
 | heap, [] => some ([], heap)
 | heap, v :: l => match B167 heap v with
  | some (v, heap) => match B54 heap l with
   | some (l, heap) => some (v :: l, heap)
   | none => none
  | none => none
def B410 {T : Nat -> Type} (z : List (PV T)) : Option (IntKind × List Int) := match Nat.blt 32 z.length, Nat.ble z.length 100000000 with
 | true, true => intsK z.length z
 | _, _ => none
def B406 {T : Nat -> Type} (z : List (PV T)) (ep : Nat) : Blk T := match B410 z with
 | some (k, xs) => .ints .own k ep xs
 | none => .box .own z
def B878 {T : Nat -> Type} (z : List (PV T)) (id ep : Nat) : PV T := match B410 z with
 | some _ => .eptr id ep 0 0
 | none => .ptr id 0
def cmpI : List Int -> List Int -> Int
 | [], [] => 0
 | [], _ :: _ => -1
 | _ :: _, [] => 1
 | a :: l, b :: m => if a < b then -1 else if b < a then 1 else cmpI l m
def cmpV (heap : List (Blk G.E.T)) (f : Nat) (args : List (PV G.E.T)) : Option (PV G.E.T) := match G.cmp f, args with
 | true, [x, y] => match B80 heap .u8 x, B80 heap .u8 y with
  | some (xs, _), some (ys, _) => some (.int .i64 (cmpI xs ys))
  | _, _ => none
 | _, _ => none
def loadV (heap : List (Blk G.E.T)) (t : TypeId) (a : PV G.E.T) (K : PV G.E.T -> Option R) : Option R :=
 match a with
 | .ptr id off => match getL heap id with
  | some (.box _ cells) => match dropL off cells with
   | some l => match packT G t l with
    | some v => K v
    | none => none
   | none => none
  | _ => none
 | .fptr l => match packT G t l with
  | some v => K v
  | none => none
 | .eptr id ep i fld => match getL heap id with
  | some (.ints _ k ep' xs) => match Nat.beq ep ep', fld, B282 G t with
   | true, 0, some false => K (.int k (rd xs i))
   | _, _, _ => none
  | some (.rows _ j ep' xs) => match Nat.beq ep ep' with
   | true => (xs[i.toNat]?).bind fun x => match dropL fld (G.E.outs j x) with
    | some l => match packT G t l with
     | some v => K v
     | none => none
    | none => none
   | false => none
  | _ => none
 | .aptr id off n i => match getL heap id with
  | some (.box _ cells) => match dropL off cells with
   | some l => match intsK n l, B282 G t with
    | some (k, xs), some false => K (.int k (rd xs i))
    | _, _ => none
   | none => none
  | _ => none
 | _ => none
def B156 (heap : List (Blk G.E.T)) (t : TypeId) (a v : PV G.E.T) (K : List (Blk G.E.T) -> Option R) : Option R :=
 match B25 G t with
 | none => none
 | some n => match Nat.beq n (B21 v).length, B78 (B21 v) with
  | false, _ => none
  | _, false => none
  | true, true => match a with
   | .ptr id off => match getL heap id with
    | some (.box .own cells) => match replL cells off (B21 v) with
     | some cells => K (setL heap id (.box .own cells))
     | none => none
    | _ => none
   | .eptr id ep i fld => match getL heap id with
    | some (.ints .own k ep' xs) => match Nat.beq ep ep', fld, v with
     | true, 0, .int k' x => match decide (k = k') with
      | true => K (setL heap id (.ints .own k ep' (xs.set i.toNat x)))
      | false => none
     | _, _, _ => none
    | some (.rows .own _ _ _) => match B54 heap (B21 v) with
     | some (cells, heap) => match getL heap id with
      | some (.rows .own j ep' xs) => match Nat.beq ep ep' with
       | true => (xs[i.toNat]?).bind fun x => match replL (G.E.outs j x) fld cells with
        | some l => match G.E.inn j l with
         | some y => K (setL heap id (.rows .own j ep' (xs.set i.toNat y)))
         | none => none
        | none => none
       | false => none
      | _ => none
     | none => none
    | _ => none
   | .aptr id off n i => match getL heap id, v with
    | some (.box .own cells), .int k x => match dropL off cells with
     | some l => match intsK n l with
      | some (k', xs) => match decide (k = k'), replL cells off (B140 k i x 0 xs) with
       | true, some cells => K (setL heap id (.box .own cells))
       | _, _ => none
      | none => none
     | none => none
    | _, _ => none
   | _ => none
def B714 (t : TypeId) : Bool := match G.P.underlying t with
 | some (.int _) => true
 | _ => false
def B166 (s : TypeId) (x : PV G.E.T) (f : Nat) (K : PV G.E.T -> Option R) : Option R :=
 match B216 G s f with
 | none => none
 | some o => match x with
  | .ptr id off => K (.ptr id (off + o))
  | .eptr id ep i fld => K (.eptr id ep i (fld + o))
  | .fptr l => match dropL o l with
   | some l => K (.fptr l)
   | none => none
  | _ => none
def B225 (i : Int) : Nat -> (Nat -> Option R) -> Option R
 | 0, _ => none
 | n + 1, K => if i = (n : Int) then K n else B225 i n K
def atIx (i : Int) (n : Nat) (K : Nat -> Option R) : Option R := match Nat.ble n 8 with
 | true => B225 i n K
 | false => K i.toNat
def B88 (heap : List (Blk G.E.T)) (t : TypeId) (x i : PV G.E.T) (K : PV G.E.T -> Option R) : Option R :=
 match i with
 | .int _ i => match elemT G t with
  | some e => match G.el e with
   | some (.int _) => match x with
    | .ints k xs => if 0 <= i ∧ i < (xs.length : Int) then K (.fptr [.int k (rd xs i)]) else none
    | .arr id ep => match getL heap id with
     | some (.ints _ _ ep' xs) => match Nat.beq ep ep' with
      | true => if 0 <= i ∧ i < (xs.length : Int) then K (.eptr id ep i 0) else none
      | false => none
     | _ => none
    | .sub id ep off len => match getL heap id with
     | some (.ints _ _ ep' _) => match Nat.beq ep ep' with
      | true => if 0 <= i ∧ i < (len : Int) then K (.eptr id ep ((off : Int) + i) 0) else none
      | false => none
     | _ => none
    | _ => none
   | some (.row n) => match x with
    | .rows j xs => match Nat.beq j n with
     | true => if 0 <= i then (xs[i.toNat]?).bind fun x => K (.fptr (G.E.outs j x)) else none
     | false => none
    | .arr id ep => match getL heap id with
     | some (.rows _ j ep' xs) => match Nat.beq ep ep', Nat.beq j n with
      | true, true => if 0 <= i ∧ i < (xs.length : Int) then K (.eptr id ep i 0) else none
      | _, _ => none
     | _ => none
    | .sub id ep off len => match getL heap id with
     | some (.rows _ j ep' _) => match Nat.beq ep ep', Nat.beq j n with
      | true, true => if 0 <= i ∧ i < (len : Int) then K (.eptr id ep ((off : Int) + i) 0) else none
      | _, _ => none
     | _ => none
    | _ => none
   | none => none
  | none => match x with
   | .eptr id ep j fld => match getL heap id, G.P.underlying t with
    | some (.ints _ _ ep' xs), some (.array n e) => match Nat.beq ep ep', fld, decide (j = 0), B25 G e with
     | true, 0, true, some 1 => if 0 <= i ∧ i < (n : Int) ∧ i < (xs.length : Int) then K (.eptr id ep i 0) else none
     | _, _, _, _ => none
    | some (.rows _ _ ep' _), some (.array n e) => match Nat.beq ep ep', B25 G e with
     | true, some sz => if 0 <= i ∧ i < (n : Int) then K (.eptr id ep j (fld + i.toNat * sz)) else none
     | _, _ => none
    | _, _ => none
   | .fptr l => match G.P.underlying t with
    | some (.array n e) => match B25 G e with
     | some sz => if 0 <= i ∧ i < (n : Int) then atIx i n fun j => (match dropL (j * sz) l with
      | some l => K (.fptr l)
      | none => none) else none
     | none => none
    | _ => none
   | .ptr id off => match G.P.underlying t with
    | some (.array n e) => match B25 G e with
     | some sz => if 0 <= i ∧ i < (n : Int) then (match B714 G e, sz with
      | true, 1 => K (.aptr id off n i)
      | _, _ => atIx i n fun j => K (.ptr id (off + j * sz))) else none
     | none => none
    | _ => none
   | _ => none
 | _ => none
def lenV (heap : List (Blk G.E.T)) (t : TypeId) (x : PV G.E.T) (K : PV G.E.T -> Option R) : Option R :=
 match G.P.underlying t with
 | some (.array n _) => match Nat.ble n 100000000 with
  | true => K (.int .i64 n)
  | false => none
 | some .string => match x with
  | .str s => K (.int .i64 s.length)
  | _ => none
 | some (.slice _) => match x with
  | .ints _ xs => K (.int .i64 xs.length)
  | .rows _ xs => K (.int .i64 xs.length)
  | .nilsl => K (.int .i64 0)
  | .sub id ep _ len => match getL heap id with
   | some (.ints _ _ ep' _) => match Nat.beq ep ep' with
    | true => K (.int .i64 len)
    | false => none
   | some (.rows _ _ ep' _) => match Nat.beq ep ep' with
    | true => K (.int .i64 len)
    | false => none
   | _ => none
  | .arr id ep => match getL heap id with
   | some (.ints _ _ ep' xs) => match Nat.beq ep ep' with
    | true => K (.int .i64 xs.length)
    | false => none
   | some (.rows _ _ ep' xs) => match Nat.beq ep ep' with
    | true => K (.int .i64 xs.length)
    | false => none
   | _ => none
  | _ => none
 | _ => none
def B221 {T : Nat -> Type} (heap : List (Blk T)) (k : IntKind) : PV T -> Option (List Int)
 | .str s => match k with
  | .u8 => some s
  | _ => none
 | v => match B80 heap k v with
  | some (xs, _) => some xs
  | none => none
def B137 (heap : List (Blk G.E.T)) (t : TypeId) (s x : PV G.E.T) (K : PV G.E.T -> List (Blk G.E.T) -> Option R) : Option R :=
 match elemT G t with
 | none => none
 | some e => match B245 G e, G.el e with
  | some b, some (.int k) => match B221 heap k x with
   | none => none
   | some ys => match s with
    | .nilsl => if ys.length * b <= 140737488355328 then K (.arr heap.length 0) (heap ++ [.ints .own k 0 ys]) else none
    | .arr id ep => match getL heap id with
     | some (.ints .own k' ep' xs) => match Nat.beq ep ep', decide (k = k') with
      | true, true => if (xs.length + ys.length) * b <= 140737488355328 then K (.arr id (ep + 1)) (setL heap id (.ints .own k (ep + 1) (xs ++ ys))) else none
      | _, _ => none
     | _ => none
    | _ => none
  | some b, some (.row i) => match B123 heap i x with
   | none => none
   | some (ys, _) => match s with
    | .nilsl => if ys.length * b <= 140737488355328 then K (.arr heap.length 0) (heap ++ [.rows .own i 0 ys]) else none
    | .arr id ep => match getL heap id with
     | some (.rows .own j ep' xs) => match Nat.beq ep ep' with
      | true => if h : j = i then (if (xs.length + ys.length) * b <= 140737488355328 then K (.arr id (ep + 1)) (setL heap id (.rows .own i (ep + 1) (castR h xs ++ ys))) else none) else none
      | false => none
     | _ => none
    | _ => none
  | _, _ => none
def B163 (heap : List (Blk G.E.T)) (t : TypeId) (s x : PV G.E.T) (K : PV G.E.T -> List (Blk G.E.T) -> Option R) : Option R :=
 match elemT G t with
 | none => none
 | some e => match B245 G e, G.el e with
  | some b, some (.int k) => match s, x with
   | .nilsl, .int .i64 m => if 0 <= m ∧ m.toNat * b <= 140737488355328 then K (.arr heap.length 0) (heap ++ [.ints .own k 0 (List.replicate m.toNat 0)]) else none
   | _, _ => none
  | _, _ => none
def subOf {T : Nat -> Type} (heap : List (Blk T)) : PV T -> PV T
 | .arr id ep => match getL heap id with
  | some (.ints _ _ ep' xs) => match Nat.beq ep ep' with
   | true => .sub id ep 0 xs.length
   | false => .arr id ep
  | _ => .arr id ep
 | p => p
def lookC (d f : Nat) : List (Nat × Nat) -> Option Nat
 | [] => none
 | (u, i) :: r => match Nat.beq d u with
  | true => match Nat.beq (G.F i).fid f with
   | true => some i
   | false => lookC d f r
  | false => lookC d f r
def copyV (heap : List (Blk G.E.T)) (t : TypeId) (d x : PV G.E.T) (K : PV G.E.T -> List (Blk G.E.T) -> Option R) : Option R :=
 match elemT G t with
 | none => none
 | some e => match B25 G e, G.el e with
  | some 1, some (.int k) => match B80 heap k x, d with
   | some (ys, _), .sub id ep off len => match getL heap id with
    | some (.ints .own k' ep' xs) => match Nat.beq ep ep', decide (k = k') with
     | true, true => K (.int .i64 ((min ys.length len : Nat) : Int)) (setL heap id (.ints .own k' ep' (xs.take off ++ ys.take (min ys.length len) ++ xs.drop (off + min ys.length len))))
     | _, _ => none
    | _ => none
   | _, _ => none
  | _, _ => none
def B287 {T : Nat -> Type} (k : IntKind) : Nat -> List (Nat × PV T) -> Option (List Int)
 | _, [] => some []
 | n, (i, .int k' x) :: l => match Nat.beq i n, decide (k = k') with
  | true, true => match B287 k (n + 1) l with
   | some r => some (x :: r)
   | none => none
  | _, _ => none
 | _, _ => none
def B84 (i : Nat) : Nat -> List (Blk G.E.T) -> List (Nat × PV G.E.T) -> Option (List (G.E.T i) × List (Blk G.E.T))
 | _, heap, [] => some ([], heap)
 | n, heap, (j, v) :: l => match Nat.beq j n with
  | true => match B54 heap (B21 v) with
   | some (cells, heap) => match G.E.inn i cells with
    | some x => match B84 i (n + 1) heap l with
     | some (r, heap) => some (x :: r, heap)
     | none => none
    | none => none
   | none => none
  | false => none
def plId {T : Nat -> Type} (pl : Option Nat) (heap : List (Blk T)) : Nat := match pl with
 | none => heap.length
 | some s => s
def plEp (pl : Option Nat) : Nat := match pl with
 | none => 0
 | some _ => 1
def plPut {T : Nat -> Type} (pl : Option Nat) (heap : List (Blk T)) (b : Blk T) : List (Blk T) := match pl with
 | none => heap ++ [b]
 | some s => setL heap s b
def plOk {T : Nat -> Type} (pl : Option Nat) (heap : List (Blk T)) : Bool := match pl with
 | none => true
 | some s => match getL heap s with
  | some (.ints .own _ 0 []) => true
  | _ => false
def B73 (pl : Option Nat) (heap : List (Blk G.E.T)) (t : TypeId) (n : Nat) (parts : List (Nat × PV G.E.T)) (K : PV G.E.T -> List (Blk G.E.T) -> Option R) : Option R :=
 match elemT G t, Nat.beq n parts.length with
 | some e, true => match G.el e with
  | some (.int k) => match Nat.ble n 16777216, B287 k 0 parts with
   | true, some xs => match plOk pl heap with
    | true => K (.arr (plId pl heap) (plEp pl)) (plPut pl heap (.ints .own k (plEp pl) xs))
    | false => none
   | _, _ => none
  | some (.row i) => match Nat.ble (n * G.E.sz i) 16777216, B84 G i 0 heap parts with
   | true, some (xs, heap) => match plOk pl heap with
    | true => K (.arr (plId pl heap) (plEp pl)) (plPut pl heap (.rows .own i (plEp pl) xs))
    | false => none
   | _, _ => none
  | none => none
 | _, _ => none
def fillV {T : Nat -> Type} (place : Nat -> Option (Nat × Nat)) (cells : List (PV T)) : List (Nat × PV T) -> Option (List (PV T))
 | [] => some cells
 | (i, v) :: rest => match place i with
  | none => none
  | some (off, size) => match Nat.beq (B21 v).length size with
   | true => match B78 (B21 v), replL cells off (B21 v) with
    | true, some cells => fillV place cells rest
    | _, _ => none
   | false => none
def B352 : List Field -> Option (List (Nat × Nat))
 | [] => some []
 | f :: l => match B25 G f.type, B352 l with
  | some n, some r => some ((f.offset, n) :: r)
  | _, _ => none
def B332 (t : TypeId) (parts : List (Nat × PV G.E.T)) (K : PV G.E.T -> Option R) : Option R :=
 match B213 G t with
 | none => none
 | some z => match G.P.underlying t with
  | some (.struct fields) => match B352 G fields.toList with
   | some places => match fillV (getL places) z parts with
    | some cells => K (.agg cells)
    | none => none
   | none => none
  | some (.array _ e) => match B25 G e with
   | some n => match fillV (fun i => some (i * n, n)) z parts with
    | some cells => K (.agg cells)
    | none => none
   | none => none
  | _ => none
def B69 (pl : Option Nat) (heap : List (Blk G.E.T)) (t : TypeId) (l c : PV G.E.T) (K : PV G.E.T -> List (Blk G.E.T) -> Option R) : Option R :=
 match elemT G t, l, c, plOk pl heap with
 | some e, .int .i64 l, .int .i64 c, true => match B245 G e, G.el e with
  | some b, some (.int k) => if 0 <= l ∧ l <= c ∧ (b : Int) * c <= 281474976710656 then K (.arr (plId pl heap) (plEp pl)) (plPut pl heap (.ints .own k (plEp pl) (List.replicate l.toNat 0))) else none
  | some b, some (.row i) => match B213 G e with
   | some z => match G.E.inn i z with
    | some x => if 0 <= l ∧ l <= c ∧ (b : Int) * c <= 281474976710656 then K (.arr (plId pl heap) (plEp pl)) (plPut pl heap (.rows .own i (plEp pl) (List.replicate l.toNat x))) else none
    | none => none
   | none => none
  | _, _ => none
 | _, _, _, _ => none
def B41 (n : Nat) (lo hi : Option (PV G.E.T)) (K : Nat -> Nat -> Option R) : Option R :=
 match hi with
 | none => match lo with
  | none => K 0 n
  | some (.int _ l) => if 0 <= l ∧ l <= (n : Int) then K l.toNat n else none
  | some _ => none
 | some (.int _ h) => match lo with
  | none => if 0 <= h ∧ h <= (n : Int) then K 0 h.toNat else none
  | some (.int _ l) => if 0 <= h ∧ h <= (n : Int) then (if 0 <= l ∧ l <= h then K l.toNat h.toNat else none) else none
  | some _ => none
 | some _ => none
def cutL {α : Type} (xs : List α) (l h : Nat) : List α := (xs.take h).drop l
def B203 (t : TypeId) : Bool := match elemT G t with
 | some e => match G.el e with
  | some (.int _) => true
  | _ => false
 | none => false
def B204 (t : TypeId) (j : Nat) : Bool := match elemT G t with
 | some e => match G.el e with
  | some (.row n) => Nat.beq j n
  | _ => false
 | none => false
def B182 (heap : List (Blk G.E.T)) (cutting : Bool) (t : TypeId) (x : PV G.E.T) (lo hi : Option (PV G.E.T)) (K : PV G.E.T -> List (Blk G.E.T) -> Option R) : Option R :=
 match x with
 | .str s => match G.P.underlying t with
  | some .string => B41 G s.length lo hi fun l h => K (.str (cutL s l h)) heap
  | _ => none
 | .ints k xs => match B203 G t with
  | true => B41 G xs.length lo hi fun l h => K (.ints k (cutL xs l h)) heap
  | false => none
 | .rows i xs => match B204 G t i with
  | true => B41 G xs.length lo hi fun l h => K (.rows i (cutL xs l h)) heap
  | false => none
 | .nilsl => match elemT G t with
  | some e => match B25 G e with
   | some _ => B41 G 0 lo hi fun _ _ => K .nilsl heap
   | none => none
  | none => none
 | .arr id ep => match cutting, getL heap id with
  | true, some (.ints .own k ep' xs) => match B203 G t, Nat.beq ep ep' with
   | true, true => B41 G xs.length lo hi fun l h => K (.arr id (ep + 1)) (setL heap id (.ints .own k (ep + 1) (cutL xs l h)))
   | _, _ => none
  | true, some (.rows .own i ep' xs) => match B204 G t i, Nat.beq ep ep' with
   | true, true => B41 G xs.length lo hi fun l h => K (.arr id (ep + 1)) (setL heap id (.rows .own i (ep + 1) (cutL xs l h)))
   | _, _ => none
  | false, some (.ints _ _ ep' xs) => match B203 G t, Nat.beq ep ep' with
   | true, true => B41 G xs.length lo hi fun l h => K (.sub id ep l (h - l)) heap
   | _, _ => none
  | false, some (.rows _ i ep' xs) => match B204 G t i, Nat.beq ep ep' with
   | true, true => B41 G xs.length lo hi fun l h => K (.sub id ep l (h - l)) heap
   | _, _ => none
  | _, _ => none
 | .sub id ep off len => match getL heap id with
  | some (.ints _ _ ep' _) => match B203 G t, Nat.beq ep ep' with
   | true, true => B41 G len lo hi fun l h => K (.sub id ep (off + l) (h - l)) heap
   | _, _ => none
  | some (.rows _ i ep' _) => match B204 G t i, Nat.beq ep ep' with
   | true, true => B41 G len lo hi fun l h => K (.sub id ep (off + l) (h - l)) heap
   | _, _ => none
  | _ => none
 | _ => none
def B143 (heap : List (Blk G.E.T)) (src dst : TypeId) (x : PV G.E.T) (K : PV G.E.T -> List (Blk G.E.T) -> Option R) : Option R :=
 match G.P.underlying src, G.P.underlying dst with
 | some _, some (.int k) => match x with
  | .int _ n => K (.int k (k.wrap n)) heap
  | _ => none
 | some .string, some .string => match x with
  | .str s => K (.str s) heap
  | _ => none
 | some (.slice e), some .string => match G.el e with
  | some (.int .u8) => match B80 heap .u8 x with
   | some (xs, _) => K (.str xs) heap
   | none => none
  | _ => none
 | some (.int _), some .string => match x with
  | .int _ n => if 0 <= n ∧ n < 128 then K (.str [n]) heap else none
  | _ => none
 | some .string, some (.slice e) => match x, G.el e with
  | .str s, some (.int .u8) => K (.arr heap.length 0) (heap ++ [.ints .own .u8 0 s])
  | _, _ => none
 | some (.slice e), some (.slice _) => match Nat.beq src dst, G.el e, x with
  | true, some (.int .u8), .arr id ep => match getL heap id with
   | some (.ints .own .u8 ep' xs) => match Nat.beq ep ep' with
    | true => if 0 < xs.length then K (.ints .u8 xs) (setL heap id .gone) else none
    | false => none
   | _ => none
  | _, _, _ => none
 | _, _ => none
def imax (a b : Int) : Int := if b > a then b else a
def imin (a b : Int) : Int := if b < a then b else a
def B178 {T : Nat -> Type} (mx : Bool) (k : IntKind) : Int -> List (PV T) -> Option Int
 | a, [] => some a
 | a, .int k' b :: l => match decide (k = k'), mx with
  | true, true => B178 mx k (imax a b) l
  | true, false => B178 mx k (imin a b) l
  | false, _ => none
 | _, _ => none
def places {T : Nat -> Type} (heap : List (Blk T)) (cs : CS) (m : Nat) : Nat -> Nat -> List BSh -> List (Nat × Nat)
 | _, _, [] => []
 | j, n, b :: l => match Nat.blt j m, lookB j cs.bind with
  | true, some (some a) => (match keepB b with
   | true => (a, epOf heap a)
   | false => (a, epOf heap a + 1)) :: places heap cs m (j + 1) n l
  | _, _ => (n, 0) :: places heap cs m (j + 1) (n + 1) l
def ρof (l : List (Nat × Nat)) (j : Nat) : Nat × Nat := match getL l j with
 | some p => p
 | none => (0, 0)
def B39 {T : Nat -> Type} : List (Blk T) -> List Nat -> Option (List (Blk T))
 | heap, [] => some heap
 | heap, id :: l => match getL heap id with
  | some (.ints .own k ep xs) => B39 (setL heap id (.ints .frozen k ep xs)) l
  | some (.rows .own i ep xs) => B39 (setL heap id (.rows .frozen i ep xs)) l
  | some (.ints .frozen _ _ _) => B39 heap l
  | some (.rows .frozen _ _ _) => B39 heap l
  | _ => none
def B32 {T : Nat -> Type} : List (Nat × Nat) -> List (Blk T) -> List (Blk T) -> List (Blk T)
 | p :: ps, b :: l, heap => match Nat.blt p.1 heap.length with
  | true => B32 ps l (setL heap p.1 b)
  | false => B32 ps l (heap ++ [b])
 | _, _, heap => heap
def resV {T : Nat -> Type} : List (PV T) -> PV T
 | [] => .tup []
 | v :: l => match l with
  | [] => v
  | _ :: _ => .tup (v :: l)
def B241 : List BSh -> Bool
 | [] => true
 | .same :: _ => false
 | _ :: l => B241 l
def B456 : List Way -> Bool
 | [] => true
 | a :: l => match B241 a.2 with
  | true => B456 l
  | false => false
def callV (rec : Rec G) (i : Nat) (heap : List (Blk G.E.T)) (args : List (PV G.E.T)) (K : PV G.E.T -> List (Blk G.E.T) -> Option R) : Option R :=
 match B51 (G.F i).sig.ps args (G.F i).sig.pb [] heap, B456 ((G.F i).sig.way :: (G.F i).sig.more) with
 | none, _ => none
 | _, false => none
 | some (a, cs), true => match ofL (G.F i).sig.ins a with
  | none => none
  | some p => match (match (G.F i).sig.holds G.E with
    | true => B39 heap cs.lent
    | false => some heap) with
   | none => none
   | some heap' => (rec i p).bind fun q => (G.F i).sig.get q fun a L =>
    match rebTs (ρof (places heap cs (G.F i).sig.pb.length 0 heap.length a.2)) a.1 L with
    | (vs, r) => K (resV vs)
     (B32 (places heap cs (G.F i).sig.pb.length 0 heap.length a.2)
      (rebBs (ρof (places heap cs (G.F i).sig.pb.length 0 heap.length a.2)) 0 a.2 [] r) heap')
def eqAt (g : PV G.E.T -> PV G.E.T -> Option Bool) (t : TypeId) (off : Nat) (xs ys : List (PV G.E.T)) : Option Bool :=
 match dropL off xs, dropL off ys with
 | some a, some b => match packT G t a, packT G t b with
  | some p, some q => g p q
  | _, _ => none
 | _, _ => none
def eqFs (g : TypeId -> PV G.E.T -> PV G.E.T -> Option Bool) (xs ys : List (PV G.E.T)) : List Field -> Option Bool
 | [] => some true
 | f :: l => if f.name = "_" then eqFs g xs ys l else match eqAt G (g f.type) f.type f.offset xs ys, eqFs g xs ys l with
  | some a, some b => some (a && b)
  | _, _ => none
def eqNV (g : PV G.E.T -> PV G.E.T -> Option Bool) (t : TypeId) (sz : Nat) (xs ys : List (PV G.E.T)) : List Nat -> Option Bool
 | [] => some true
 | i :: l => match eqAt G g t (i * sz) xs ys, eqNV g t sz xs ys l with
  | some a, some b => some (a && b)
  | _, _ => none
def aggEq : Nat -> TypeId -> PV G.E.T -> PV G.E.T -> Option Bool
 | 0, _, _, _ => none
 | d + 1, t, p, q => match G.P.underlying t, p, q with
  | some (.int _), .int k a, .int k' b => match decide (k = k') with
   | true => some (decide (a = b))
   | false => none
  | some .bool, .bool a, .bool b => some (decide (a = b))
  | some .string, .str a, .str b => some (decide (a = b))
  | some (.struct fs), .agg xs, .agg ys => match G.P.stoodInHeld t with
   | false => eqFs G (aggEq d) xs ys fs.toList
   | true => none
  | some (.array n e), .agg xs, .agg ys => match B25 G e with
   | some sz => eqNV G (aggEq d e) e sz xs ys (List.range n)
   | none => none
  | _, _, _ => none
def B329 (t : TypeId) (op : BinOp) (p q : PV G.E.T) (K : PV G.E.T -> Option R) : Option R :=
 match p, q with
 | .agg xs, .agg ys => match G.P.eqGuardType G.P.depth t, aggEq G 20 t (.agg xs) (.agg ys) with
  | false, some b => eqOp op b K
  | _, _ => none
 | p, q => B330 (G.P.underlying t) op p q K
def kkOf : TypeDesc -> Option KK
 | .int k => some (.int k)
 | .string => some .str
 | _ => none
def B97 (pl : Option Nat) (heap : List (Blk G.E.T)) (t : TypeId) (K : PV G.E.T -> List (Blk G.E.T) -> Option R) : Option R :=
 match G.P.underlying t with
 | some (.map k _) => match G.P.underlying k, plOk pl heap with
  | some d, true => match lookN t G.ents, kkOf d with
   | none, some (.int k) => K (.mapr (plId pl heap)) (plPut pl heap (.mp .own k))
   | some i, some k => K (.mapr (plId pl heap)) (plPut pl heap (.mpr .own k i []))
   | _, _ => none
  | _, _ => none
 | _ => none
def findM {α : Type} (key : α -> KV) (n : KV) : List α -> Option α
 | [] => none
 | x :: l => if key x = n then some x else findM key n l
def putM {α : Type} (key : α -> KV) (y : α) : List α -> List α
 | [] => [y]
 | x :: l => if key x = key y then y :: l else x :: putM key y l
def delM {α : Type} (key : α -> KV) (n : KV) : List α -> List α
 | [] => []
 | x :: l => if key x = n then l else x :: delM key n l
def keyP {T : Nat -> Type} : List (PV T) -> KV
 | .int _ n :: _ => .int n
 | .str s :: _ => .str s
 | _ => .no
def tailP {T : Nat -> Type} : List (PV T) -> List (PV T)
 | _ :: l => l
 | [] => []
def kvOf {T : Nat -> Type} : KK -> PV T -> Option KV
 | .int k, .int k' n => match decide (k = k') with
  | true => some (.int n)
  | false => none
 | .str, .str s => some (.str s)
 | _, _ => none
def B449 {T : Nat -> Type} (sz : Nat) : PV T -> Bool
 | .agg _ => !Nat.beq sz 2
 | p => match p.one with
  | true => Nat.beq sz 2
  | false => false
def entP {T : Nat -> Type} (sz : Nat) (l : List (PV T)) : PV T := match Nat.beq sz 2, l with
 | true, [p] => p
 | _, l => .agg l
def mapKK (t : TypeId) (k : KK) : Bool := match G.P.underlying t with
 | some (.map kt _) => match G.P.underlying kt with
  | some d => match kkOf d with
   | some k' => KK.beq k' k
   | none => false
  | none => false
 | _ => false
def B220 (heap : List (Blk G.E.T)) (t : TypeId) (m k x : PV G.E.T) (K : List (Blk G.E.T) -> Option R) : Option R :=
 match m with
 | .mapr id => match getL heap id with
  | some (.mp .own k3) => match mapKK G t (.int k3), kvOf (.int k3) k with
   | true, some _ => K heap
   | _, _ => none
  | some (.mpr .own _ _ _) => match B78 (B21 x), B54 heap (B21 x) with
   | true, some (cells, heap) => match getL heap id with
    | some (.mpr .own k3 i xs) => match mapKK G t k3, kvOf k3 k, B449 (G.E.sz i) x, G.E.inn i (k :: cells) with
     | true, some _, true, some y => K (setL heap id (.mpr .own k3 i (putM (fun e => keyP (G.E.outs i e)) y xs)))
     | _, _, _, _ => none
    | _ => none
   | _, _ => none
  | _ => none
 | _ => none
def B768 (t : TypeId) : Option (List (PV G.E.T)) := match G.P.info? t with
 | some i => match i.zero with
  | some v => match v.oneCell', B78 (T := G.E.T) (B98 [v]) with
   | true, true => some (B98 [v])
   | _, _ => none
  | none => none
 | none => none
def B606 (sz : Nat) (t : TypeId) : Option (List (PV G.E.T)) := match G.P.underlying t with
 | some (.map _ et) => match Nat.beq sz 2 with
  | true => B768 G et
  | false => B767 G et
 | _ => none
def B138 (heap : List (Blk G.E.T)) (t : TypeId) (m k : PV G.E.T) (ok : Bool) (K : PV G.E.T -> Option R) : Option R :=
 match m with
 | .mapr id => match getL heap id with
  | some (.mpr _ k3 i xs) => match mapKK G t k3, kvOf k3 k, B606 G (G.E.sz i) t with
   | true, some n, some z => match G.E.inn i (k :: z) with
    | some y => match ok with
     | true => K (.tup [entP (G.E.sz i) (tailP (G.E.outs i ((findM (fun e => keyP (G.E.outs i e)) n xs).getD y))), .bool (findM (fun e => keyP (G.E.outs i e)) n xs).isSome])
     | false => K (entP (G.E.sz i) (tailP (G.E.outs i ((findM (fun e => keyP (G.E.outs i e)) n xs).getD y))))
    | none => none
   | _, _, _ => none
  | _ => none
 | _ => none
def B214 (heap : List (Blk G.E.T)) (t : TypeId) (m k : PV G.E.T) (K : List (Blk G.E.T) -> Option R) : Option R :=
 match m with
 | .mapr id => match getL heap id with
  | some (.mpr .own k3 i xs) => match mapKK G t k3, kvOf k3 k with
   | true, some n => K (setL heap id (.mpr .own k3 i (delM (fun e => keyP (G.E.outs i e)) n xs)))
   | _, _ => none
  | _ => none
 | _ => none
def vop (rec : Rec G) (ann : Ann) (pl : Option Nat) (o : Oper) (σ : St G.E.T) (K : PV G.E.T -> List (Blk G.E.T) -> Option R) : Option R :=
 match o.op with
 | .move x => K (eval σ.env x) σ.heap
 | .assign x => K (eval σ.env x) σ.heap
 | .pick c a b => match eval σ.env c with
  | .bool x => if x = true then K (eval σ.env a) σ.heap else K (eval σ.env b) σ.heap
  | _ => none
 | .binOp op t x y _ => B329 G t op (eval σ.env x) (eval σ.env y) fun v => K v σ.heap
 | .unOp op _ x => unOpV op (eval σ.env x) fun v => K v σ.heap
 | .convert src dst x => B143 G σ.heap src dst (eval σ.env x) K
 | .alloc t => match B213 G t, plOk pl σ.heap with
  | some z, true => K (B878 z (plId pl σ.heap) (plEp pl)) (plPut pl σ.heap (B406 z (plEp pl)))
  | _, _ => none
 | .box _ x => match B78 (B21 (eval σ.env x)) with
  | true => K (.ptr σ.heap.length 0) (σ.heap ++ [.box .own (B21 (eval σ.env x))])
  | false => none
 | .build t parts => B332 G t (B91 σ.env parts.toList) fun v => K v σ.heap
 | .buildSlice t n parts => B73 G pl σ.heap t n (B91 σ.env parts.toList) K
 | .makeSlice t l c => B69 G pl σ.heap t (eval σ.env l) (eval σ.env c) K
 | .makeMap t none => B97 G pl σ.heap t K
 | .mapUpdate t m k x => B220 G σ.heap t (eval σ.env m) (eval σ.env k) (eval σ.env x) fun h => K (.tup []) h
 | .lookup t m k ok => B138 G σ.heap t (eval σ.env m) (eval σ.env k) ok fun v => K v σ.heap
 | .makeFunc (.func f) first captured => match first.toList with
  | [] => K (.fn f (evals σ.env captured.toList)) σ.heap
  | _ :: _ => none
 | .load t a => loadV G σ.heap t (eval σ.env a) fun v => K v σ.heap
 | .store t a x => B156 G σ.heap t (eval σ.env a) (eval σ.env x) fun h => K (.tup []) h
 | .nilCheck x => match eval σ.env x with
  | .ptr id off => K (.ptr id off) σ.heap
  | .eptr id ep i f => K (.eptr id ep i f) σ.heap
  | .fptr l => K (.fptr l) σ.heap
  | .fn f l => K (.fn f l) σ.heap
  | _ => none
 | .fieldAddr s x f => B166 G s (eval σ.env x) f fun v => K v σ.heap
 | .field s x f => match eval σ.env x, B216 G s f, B704 G s f with
  | .agg l, some o, some t => match dropL o l with
   | some l => match packT G t l with
    | some v => K v σ.heap
    | none => none
   | none => none
  | _, _, _ => none
 | .indexAddr t x i => B88 G σ.heap t (eval σ.env x) (eval σ.env i) fun v => K v σ.heap
 | .index t x i => match eval σ.env x, eval σ.env i with
  | .str s, .int _ i => match G.P.underlying t with
   | some .string => if 0 <= i ∧ i < (s.length : Int) then K (.int .u8 (rd s i)) σ.heap else none
   | _ => none
  | .agg l, .int _ i => match G.P.underlying t with
   | some (.array n e) => match B25 G e with
    | some sz => if 0 <= i ∧ i < (n : Int) then (match B714 G e, sz with
     | true, 1 => match intsK n l with
      | some (k, xs) => K (.int k (rd xs i)) σ.heap
      | none => none
     | _, _ => atIx i n fun j => match dropL (j * sz) l with
      | some l => match packT G e l with
       | some v => K v σ.heap
       | none => none
      | none => none) else none
    | none => none
   | _ => none
  | _, _ => none
 | .slice t x lo hi mx => match mx with
  | some _ => none
  | none => B182 G σ.heap (match o.dst with
   | some d => memN d ann.cuts
   | none => false) t (eval σ.env x) (lo.map (eval σ.env)) (hi.map (eval σ.env)) K
 | .extract x i => match eval σ.env x with
  | .tup l => match getL l i with
   | some v => K v σ.heap
   | none => none
  | _ => none
 | .call c => match c.callee with
  | .value f => match eval σ.env f, o.dst with
   | .fn f caps, some d => match lookC G d f ann.calls with
    | some i => match Nat.beq (G.F i).fid f with
     | true => callV G rec i σ.heap (evals σ.env c.args.toList ++ caps) K
     | false => none
    | none => (cmpV G σ.heap f (evals σ.env c.args.toList ++ caps)).bind fun v => K v σ.heap
   | _, _ => none
  | .builtin .len => match c.args.toList, c.argTypes.toList with
   | [x], t :: _ => lenV G σ.heap t (eval σ.env x) fun v => K v σ.heap
   | _, _ => none
  | .builtin .cap => match c.args.toList, c.argTypes.toList with
   | [x], t :: _ => match eval σ.env x, G.P.underlying t with
    | .nilsl, some (.slice _) => K (.int .i64 0) σ.heap
    | _, _ => none
   | _, _ => none
  | .builtin .append => match c.args.toList, c.argTypes.toList with
   | [s, x], [t, tx] => match G.P.underlying tx with
    | some (.slice _) => B137 G σ.heap t (eval σ.env s) (eval σ.env x) K
    | some .string => B137 G σ.heap t (eval σ.env s) (eval σ.env x) K
    | some (.int _) => B163 G σ.heap t (eval σ.env s) (eval σ.env x) K
    | _ => none
   | _, _ => none
  | .builtin .delete => match c.args.toList, c.argTypes.toList with
   | [m, k], t :: _ => B214 G σ.heap t (eval σ.env m) (eval σ.env k) fun h => K (.tup []) h
   | _, _ => none
  | .builtin .copy => match c.args.toList, c.argTypes.toList with
   | [s, x], [t, _] => copyV G σ.heap t (subOf σ.heap (eval σ.env s)) (eval σ.env x) K
   | _, _ => none
  | .builtin .max => match evals σ.env c.args.toList with
   | .int k a :: l => match B178 true k a l with
    | some n => K (.int k n) σ.heap
    | none => none
   | _ => none
  | .builtin .min => match evals σ.env c.args.toList with
   | .int k a :: l => match B178 false k a l with
    | some n => K (.int k n) σ.heap
    | none => none
   | _ => none
  | _ => none
 | _ => none
def dstOf (ops : List Oper) (j : Nat) : Option Nat := match getL ops j with
 | some o => o.dst
 | none => none
def vops (rec : Rec G) (ann : Ann) (N : Nat) (ops : List Oper) : List Oper -> St G.E.T -> (St G.E.T -> Option R) -> Option R
 | [], σ, k => k σ
 | o :: rest, σ, k => match o.guard with
  | none => vop G rec ann none o σ fun v h => match put N o.dst v σ.env with
   | some env => vops rec ann N ops rest ⟨env, h⟩ k
   | none => none
  | some (j, want) => match dstOf ops j with
   | none => none
   | some g => match look g σ.env with
    | .bool b => if b = true
     then (match want with
      | true => vop G rec ann none o ⟨(g, .bool true) :: σ.env, σ.heap⟩ fun v h => match put N o.dst v ((g, .bool true) :: σ.env) with
       | some env => vops rec ann N ops rest ⟨env, h⟩ k
       | none => none
      | false => match put N o.dst (.tup []) ((g, .bool true) :: σ.env) with
       | some env => vops rec ann N ops rest ⟨env, σ.heap⟩ k
       | none => none)
     else (match want with
      | false => vop G rec ann none o ⟨(g, .bool false) :: σ.env, σ.heap⟩ fun v h => match put N o.dst v ((g, .bool false) :: σ.env) with
       | some env => vops rec ann N ops rest ⟨env, h⟩ k
       | none => none
      | true => match put N o.dst (.tup []) ((g, .bool false) :: σ.env) with
       | some env => vops rec ann N ops rest ⟨env, σ.heap⟩ k
       | none => none)
    | .tup l => match l with
     | [] => match put N o.dst (.tup []) σ.env with
      | some env => vops rec ann N ops rest ⟨env, σ.heap⟩ k
      | none => none
     | _ :: _ => none
    | _ => none
mutual
def PV.ids {T : Nat -> Type} : PV T -> List Nat
 | .arr id _ => [id]
 | .sub id _ _ _ => [id]
 | .ptr id _ => [id]
 | .eptr id _ _ _ => [id]
 | .aptr id _ _ _ => [id]
 | .mapr id => [id]
 | .agg l => PV.idsL l
 | .tup l => PV.idsL l
 | .fn _ l => PV.idsL l
 | _ => []
def PV.idsL {T : Nat -> Type} : List (PV T) -> List Nat
 | [] => []
 | p :: l => p.ids ++ PV.idsL l
end
inductive Kind where
 | pure (foot : List Nat)
 | eff (touched : List Nat) (len : Nat)
 | effp (foot touched : List Nat) (len : Nat)
 | slot (s : Nat)
def B117 : List (Nat × Operand) -> List Operand
 | [] => []
 | (_, x) :: l => x :: B117 l
def B65 : Op -> List Operand
 | .move x => [x]
 | .assign x => [x]
 | .pick c a b => [c, a, b]
 | .binOp _ _ x y _ => [x, y]
 | .unOp _ _ x => [x]
 | .convert _ _ x => [x]
 | .box _ x => [x]
 | .build _ ps => B117 ps.toList
 | .buildSlice _ _ ps => B117 ps.toList
 | .makeSlice _ l c => [l, c]
 | .makeFunc _ _ cs => cs.toList
 | .load _ a => [a]
 | .store _ a x => [a, x]
 | .mapUpdate _ m k x => [m, k, x]
 | .lookup _ m k _ => [m, k]
 | .nilCheck x => [x]
 | .fieldAddr _ x _ => [x]
 | .field _ x _ => [x]
 | .indexAddr _ x i => [x, i]
 | .index _ x i => [x, i]
 | .slice _ x lo hi _ => match lo, hi with
  | none, none => [x]
  | some l, none => [x, l]
  | none, some h => [x, h]
  | some l, some h => [x, l, h]
 | .extract x _ => [x]
 | .call c => match c.callee with
  | .value f => f :: c.args.toList
  | _ => c.args.toList
 | _ => []
def B242 : List Operand -> List Nat
 | [] => []
 | .tmp t :: l => t :: B242 l
 | _ :: l => B242 l
def B103 (ops : List Oper) (o : Oper) : List Nat := match o.guard with
 | none => B242 (B65 o.op)
 | some (j, _) => match dstOf ops j with
  | some g => g :: B242 (B65 o.op)
  | none => B242 (B65 o.op)
def B292 {T : Nat -> Type} (a x : PV T) : List Nat := match a with
 | .ptr id _ => [id]
 | .aptr id _ _ _ => [id]
 | a => a.ids ++ x.ids
def B38 (ann : Ann) (pl : Option Nat) (o : Oper) (σ : St G.E.T) : Option Kind := match o.op with
 | .move _ => some (.pure [])
 | .assign _ => some (.pure [])
 | .pick _ _ _ => some (.pure [])
 | .binOp _ _ _ _ _ => some (.pure [])
 | .unOp _ _ _ => some (.pure [])
 | .build _ _ => some (.pure [])
 | .makeFunc _ _ _ => some (.pure [])
 | .nilCheck _ => some (.pure [])
 | .fieldAddr _ _ _ => some (.pure [])
 | .field _ _ _ => some (.pure [])
 | .index _ _ _ => some (.pure [])
 | .extract _ _ => some (.pure [])
 | .load _ a => some (.pure (eval σ.env a).ids)
 | .indexAddr _ x _ => some (.pure (eval σ.env x).ids)
 | .convert _ dst x => match G.P.underlying dst with
  | some (.slice _) => some (.eff (eval σ.env x).ids σ.heap.length)
  | _ => some (.pure (eval σ.env x).ids)
 | .slice _ x _ _ _ => match (match o.dst with
   | some d => memN d ann.cuts
   | none => false) with
  | true => none
  | false => some (.pure (eval σ.env x).ids)
 | .alloc _ => match pl with
  | none => some (.effp [] [] σ.heap.length)
  | some s => some (.slot s)
 | .box _ _ => some (.effp [] [] σ.heap.length)
 | .makeSlice _ _ _ => match pl with
  | none => some (.effp [] [] σ.heap.length)
  | some s => some (.slot s)
 | .buildSlice _ _ ps => match pl with
  | none => some (.eff (PV.idsL (evals σ.env (B117 ps.toList))) σ.heap.length)
  | some s => match PV.idsL (evals σ.env (B117 ps.toList)) with
   | [] => some (.slot s)
   | _ :: _ => none
 | .store _ a x => some (.eff (B292 (eval σ.env a) (eval σ.env x)) σ.heap.length)
 | .makeMap _ _ => match pl with
  | none => some (.effp [] [] σ.heap.length)
  | some s => some (.slot s)
 | .mapUpdate _ m _ x => some (.eff ((eval σ.env m).ids ++ (eval σ.env x).ids) σ.heap.length)
 | .lookup _ m _ _ => some (.pure (eval σ.env m).ids)
 | .call c => match c.callee with
  | .value f => match eval σ.env f, o.dst with
   | .fn f caps, some d => match lookC G d f ann.calls with
    | some i => match (G.F i).sig.pb, (G.F i).sig.bare, (G.F i).sig.holds G.E with
     | [], true, false => some (.pure (PV.idsL (evals σ.env c.args.toList ++ caps)))
     | _, bare, _ => match B51 (G.F i).sig.ps (evals σ.env c.args.toList ++ caps) (G.F i).sig.pb [] σ.heap with
      | some (_, cs) => match (G.F i).sig.pb, bare, cs.lent with
       | [], true, [] => some (.pure (PV.idsL (evals σ.env c.args.toList ++ caps)))
       | [], _, _ => some (.effp (PV.idsL (evals σ.env c.args.toList ++ caps)) (olds cs.bind ++ cs.lent) σ.heap.length)
       | _, _, _ => some (.eff (olds cs.bind ++ cs.lent) σ.heap.length)
      | none => none
    | none => none
   | _, _ => none
  | .builtin .len => match c.args.toList with
   | [x] => some (.pure (eval σ.env x).ids)
   | _ => none
  | .builtin .append => match c.args.toList with
   | [s, x] => some (.effp ((eval σ.env s).ids ++ (eval σ.env x).ids) (eval σ.env s).ids σ.heap.length)
   | _ => none
  | .builtin .delete => match c.args.toList with
   | [m, _] => some (.eff (eval σ.env m).ids σ.heap.length)
   | _ => none
  | .builtin .copy => match c.args.toList with
   | [s, x] => some (.eff ((eval σ.env s).ids ++ (eval σ.env x).ids) σ.heap.length)
   | _ => none
  | .builtin .cap => some (.pure [])
  | .builtin .max => some (.pure [])
  | .builtin .min => some (.pure [])
  | _ => none
 | _ => none
def B146 (anc : List Nat) : List Edge -> Option Nat
 | [] => some 0
 | e :: l => match Region.binds .any e with
  | true => match getL anc e.on, B146 anc l with
   | some a, some m => some (2 ^ e.on ||| a ||| m)
   | _, _ => none
  | false => B146 anc l
def ancOf : List Oper -> List Nat -> Option (List Nat)
 | [], acc => some acc
 | o :: l, acc => match B146 acc o.after.toList with
  | some m => ancOf l (acc ++ [m])
  | none => none
def ordB (anc : List Nat) (i j : Nat) : Bool := match getL anc j with
 | some m => Nat.testBit m i
 | none => false
def B148 (T : List Nat) (len : Nat) : List Nat -> Bool
 | [] => true
 | id :: F => match Nat.blt id len, memN id T with
  | true, false => B148 T len F
  | _, _ => false
def B16 : Kind -> Kind -> Bool
 | .pure _, .pure _ => true
 | .pure F, .eff T n => B148 T n F
 | .eff T n, .pure F => B148 T n F
 | .pure F, .effp _ T n => B148 T n F
 | .effp _ T n, .pure F => B148 T n F
 | .pure F, .slot s => match memN s F with
  | true => false
  | false => true
 | .slot s, .pure F => match memN s F with
  | true => false
  | false => true
 | .slot s, .slot s' => match Nat.beq s s' with
  | true => false
  | false => true
 | .slot s, .effp F T n => match memN s F, B148 T n [s] with
  | false, true => true
  | _, _ => false
 | .effp F T n, .slot s => match memN s F, B148 T n [s] with
  | false, true => true
  | _, _ => false
 | _, _ => false
def B340 (anc : List Nat) (j : Nat) (κ : Kind) : List (Nat × Kind) -> Bool
 | [] => true
 | (i, κ') :: l => match ordB anc i j with
  | true => B340 anc j κ l
  | false => match B16 κ' κ with
   | true => B340 anc j κ l
   | false => false
def B217 (anc : List Nat) : List (Nat × Kind) -> Bool
 | [] => true
 | (j, κ) :: l => match B340 anc j κ l with
  | true => B217 anc l
  | false => false
def notIn (d : Option Nat) (l : List Nat) : Bool := match d with
 | none => true
 | some d => match memN d l with
  | true => false
  | false => true
def B407 (x y : Option Nat × List Nat) : Bool := match notIn x.1 y.2, notIn y.1 x.2, (match x.1 with
  | none => true
  | some d => notIn y.1 [d]) with
 | true, true, true => true
 | _, _, _ => false
def B271 (anc : List Nat) (j : Nat) (y : Option Nat × List Nat) : List (Nat × (Option Nat × List Nat)) -> Bool
 | [] => true
 | (i, x) :: l => match ordB anc i j with
  | true => B271 anc j y l
  | false => match B407 x y with
   | true => B271 anc j y l
   | false => false
def B270 (anc : List Nat) (ops : List Oper) : Nat -> List Oper -> List (Nat × (Option Nat × List Nat)) -> Bool
 | _, [], _ => true
 | j, o :: l, acc => match B271 anc j (o.dst, B103 ops o) acc with
  | true => B270 anc ops (j + 1) l ((j, (o.dst, B103 ops o)) :: acc)
  | false => false
def plOf (ann : Ann) (base m : Nat) (o : Oper) : Option Nat := match o.dst with
 | some d => match lookN d ann.slots with
  | some q => match Nat.blt q m with
   | true => some (base + q)
   | false => none
  | none => none
 | none => none
def vdraw (rec : Rec G) (ann : Ann) (base m : Nat) (N : Nat) (ops : List Oper) (anc : List Nat) : Nat -> List Oper -> List (Nat × Kind) -> St G.E.T -> (St G.E.T -> Option R) -> Option R
 | _, [], tr, σ, k => match B217 anc tr, Nat.ble (base + m) σ.heap.length with
  | true, true => k σ
  | _, _ => none
 | i, o :: rest, tr, σ, k => match Nat.ble (base + m) σ.heap.length, o.guard with
  | false, _ => none
  | true, none => match B38 G ann (plOf ann base m o) o σ with
   | none => none
   | some κ => vop G rec ann (plOf ann base m o) o σ fun v h => match put N o.dst v σ.env with
    | some env => vdraw rec ann base m N ops anc (i + 1) rest ((i, κ) :: tr) ⟨env, h⟩ k
    | none => none
  | true, some (j, want) => match dstOf ops j with
   | none => none
   | some g => match look g σ.env with
    | .bool b => if b = true
     then (match want with
      | true => match B38 G ann (plOf ann base m o) o ⟨(g, .bool true) :: σ.env, σ.heap⟩ with
       | none => none
       | some κ => vop G rec ann (plOf ann base m o) o ⟨(g, .bool true) :: σ.env, σ.heap⟩ fun v h => match put N o.dst v ((g, .bool true) :: σ.env) with
        | some env => vdraw rec ann base m N ops anc (i + 1) rest ((i, κ) :: tr) ⟨env, h⟩ k
        | none => none
      | false => match put N o.dst (.tup []) ((g, .bool true) :: σ.env) with
       | some env => vdraw rec ann base m N ops anc (i + 1) rest ((i, .pure []) :: tr) ⟨env, σ.heap⟩ k
       | none => none)
     else (match want with
      | false => match B38 G ann (plOf ann base m o) o ⟨(g, .bool false) :: σ.env, σ.heap⟩ with
       | none => none
       | some κ => vop G rec ann (plOf ann base m o) o ⟨(g, .bool false) :: σ.env, σ.heap⟩ fun v h => match put N o.dst v ((g, .bool false) :: σ.env) with
        | some env => vdraw rec ann base m N ops anc (i + 1) rest ((i, κ) :: tr) ⟨env, h⟩ k
        | none => none
      | true => match put N o.dst (.tup []) ((g, .bool false) :: σ.env) with
       | some env => vdraw rec ann base m N ops anc (i + 1) rest ((i, .pure []) :: tr) ⟨env, σ.heap⟩ k
       | none => none)
    | .tup l => match l with
     | [] => match put N o.dst (.tup []) σ.env with
      | some env => vdraw rec ann base m N ops anc (i + 1) rest ((i, .pure []) :: tr) ⟨env, σ.heap⟩ k
      | none => none
     | _ :: _ => none
    | _ => none
def B337 (md : Region.Mode) (m : Nat) : List Edge -> Bool
 | [] => true
 | e :: l => match Region.binds md e with
  | true => match Nat.testBit m e.on with
   | true => B337 md m l
   | false => false
  | false => B337 md m l
def B288 (md : Region.Mode) : List Oper -> Nat -> Nat -> Nat
 | [], _, m => m
 | o :: l, i, m => match B337 md m o.after.toList with
  | true => B288 md l (i + 1) (m ||| 2 ^ i)
  | false => B288 md l (i + 1) m
def B327 : Nat -> Nat -> Bool
 | 0, _ => true
 | n + 1, m => match Nat.testBit m n with
  | true => B327 n m
  | false => false
def B384 (md : Region.Mode) (ops : List Oper) : Nat -> Nat -> Bool
 | 0, m => B327 ops.length m
 | f + 1, m => match B327 ops.length m with
  | true => true
  | false => B384 md ops f (B288 md ops 0 m)
def B210 (ops : List Oper) (md : Region.Mode) : Bool := B384 md ops ops.length 0
def padB {T : Nat -> Type} : Nat -> List (Blk T)
 | 0 => []
 | n + 1 => .ints .own .u8 0 [] :: padB n
def padN (ann : Ann) (id : Nat) : Nat := match lookN id ann.pads with
 | some n => n
 | none => 0
def posN (i : Nat) : List Nat -> Nat -> Option Nat
 | [], _ => none
 | j :: l, q => match Nat.beq i j with
  | true => some q
  | false => posN i l (q + 1)
def B354 (L : List Nat) : List Edge -> Option (List Edge)
 | [] => some []
 | e :: l => match posN e.on L 0, B354 L l with
  | some q, some r => some (⟨q, e.ground⟩ :: r)
  | _, _ => none
def B234 : List Nat -> List (Nat × Nat)
 | [] => []
 | a :: l => match l with
  | [] => []
  | b :: _ => (b, a) :: B234 l
def B428 (L : List Nat) (ch : List (Nat × Nat)) (i : Nat) (o : Oper) : Option Oper :=
 match o.guard, B354 L o.after.toList with
 | none, some es => match lookN i ch with
  | none => some { o with after := es.toArray }
  | some p => match posN p L 0 with
   | some q => some { o with after := (⟨q, .data⟩ :: es).toArray }
   | none => none
 | _, _ => none
def reOps (ops : List Oper) (L : List Nat) (ch : List (Nat × Nat)) : List Nat -> Option (List Oper)
 | [] => some []
 | i :: l => match getL ops i with
  | none => none
  | some o => match B428 L ch i o, reOps ops L ch l with
   | some o, some r => some (o :: r)
   | _, _ => none
def allIn (L : List Nat) : Nat -> Bool
 | 0 => true
 | n + 1 => match memN n L with
  | true => allIn L n
  | false => false
def allLt (n : Nat) : List Nat -> Bool
 | [] => true
 | i :: l => match Nat.blt i n with
  | true => allLt n l
  | false => false
def B539 (anc : List Nat) (h : Nat) : List Nat -> Bool
 | [] => true
 | x :: l => match ordB anc x h with
  | true => false
  | false => B539 anc h l
def consO (anc : List Nat) : Nat -> List Nat -> List (List Nat)
 | _, [] => [[]]
 | 0, _ :: _ => []
 | n + 1, x :: l => ((x :: l).filter fun h => B539 anc h (x :: l)).flatMap fun h => (consO anc n ((x :: l).filter fun y => !Nat.beq y h)).map (h :: ·)
def eqNs : List Nat -> List Nat -> Bool
 | [], [] => true
 | a :: l, b :: m => match Nat.beq a b with
  | true => eqNs l m
  | false => false
 | _, _ => false
def B574 (hs P : List Nat) : List (List Nat) -> Bool
 | [] => false
 | L :: l => match eqNs (L.filter fun i => memN i hs) P with
  | true => true
  | false => B574 hs P l
def B531 (hs : List Nat) (Ls : List (List Nat)) : List (List Nat) -> Bool
 | [] => true
 | P :: l => match B574 hs P Ls with
  | true => B531 hs Ls l
  | false => false
noncomputable def B144 (run : List Nat -> Option R) : List (List Nat) -> Option R
 | [] => none
 | L :: l => match l with
  | [] => run L
  | _ :: _ => demon (run L) (B144 run l)
def B247 (rec : Rec G) (ann : Ann) (id : Nat) (N : Nat) (ops : List Oper) (σ : St G.E.T) (k : St G.E.T -> Option R) : Option R :=
 match ancOf ops [] with
 | some anc => match B270 anc ops 0 ops [] with
  | true => vdraw G rec ann σ.heap.length (padN ann id) N ops anc 0 ops [] ⟨σ.env, σ.heap ++ padB (padN ann id)⟩ k
  | false => none
 | none => none
def B294 (rec : Rec G) (ann : Ann) (id : Nat) (N : Nat) (ops : List Oper) (hs : List Nat) (σ : St G.E.T) (k : St G.E.T -> Option R) (L : List Nat) : Option R :=
 match B286 L, allIn L ops.length, reOps ops L (B234 (L.filter fun i => memN i hs)) L with
 | true, true, some ops' => match B210 ops' .any with
  | true => B247 G rec ann id N ops' σ k
  | false => none
 | _, _, _ => none
noncomputable def B195 (rec : Rec G) (ann : Ann) (id : Nat) (N : Nat) (ops : List Oper) (σ : St G.E.T) (k : St G.E.T -> Option R) : Option R :=
 match B210 ops .text, B210 ops .gc, B210 ops .any with
 | true, true, true => match lookN id ann.orders with
  | none => B247 G rec ann id N ops σ k
  | some (hs, Ls) => match ancOf ops [] with
   | none => none
   | some anc => match allLt ops.length hs, B531 hs Ls (consO anc ops.length hs) with
    | true, true => B144 (B294 G rec ann id N ops hs σ k) Ls
    | _, _ => none
 | _, _, _ => none
def B87 : Code -> Nat
 | .region id _ _ => id
 | .seq a _ => B87 a
 | .block _ c => B87 c
 | .loop c => B87 c + 1000000
 | .scope c => B87 c
 | _ => 0
def B12 : List Oper -> List Nat
 | [] => []
 | o :: l => match o.dst with
  | some d => d :: B12 l
  | none => B12 l
def dsts : Code -> List Nat
 | .region _ ops _ => B12 ops.toList
 | .seq a b => dsts a ++ dsts b
 | .cond _ a b => dsts a ++ dsts b
 | .block _ c => dsts c
 | .loop c => dsts c
 | .scope c => dsts c
 | _ => []
def B176 {T : Nat -> Type} (bs : List BSh) (ds : List Nat) (σ : St T) : St T := ⟨minus σ.env ds, B8 bs σ.heap⟩
def B585 {T : Nat -> Type} (ds : List Nat) (σ : St T) : St T := ⟨minus σ.env ds, σ.heap⟩
def B339 : List (Ex × Cut) -> List BSh
 | [] => []
 | (_, c) :: _ => c.bs
def B205 (as : Option (List (Ex × Cut))) (ds : List Nat) (σ : St G.E.T) (run : St G.E.T -> {A : Type} -> (Ex -> St G.E.T -> Option A) -> Option A) (k : Ex -> St G.E.T -> Option R) : Option R :=
 match as with
 | none => run σ k
 | some as => (run ⟨σ.env, B8 (B339 as) σ.heap⟩ (B75 as (B8 (B339 as) σ.heap))).bind fun p => B279 as (B585 ds σ) p k
def B132 (run : St G.E.T -> {A : Type} -> (Ex -> St G.E.T -> Option A) -> Option A) : Nat -> St G.E.T -> (Ex -> St G.E.T -> Option R) -> Option R
 | 0, _, _ => none
 | n + 1, σ, k => run σ fun e σ' => match e with
  | .normal => B132 run n σ' k
  | .exit id => k (.exit id) σ'
  | .ret => k .ret σ'
structure It where
 r0 : List Oper
 r1 : List Oper
 r2 : List Oper
 r3 : List Oper
 pre : List Oper
 post : List Oper
 tb : Nat
 td : Nat
 y : Nat
 dy : Nat
 args : List Operand
def B436 (y : Nat) : List Oper -> List Oper -> Option (List Oper × Nat × List Operand × List Oper)
 | [], _ => none
 | o :: l, acc => match o.op, o.dst, o.guard with
  | .call ⟨.value (.tmp z), args, _⟩, some d, none => match Nat.beq z y with
   | true => some (acc.reverse, d, args.toList, l)
   | false => none
  | .call _, _, _ => none
  | _, _, _ => B436 y l (o :: acc)
def It.ds (I : It) : List Nat := B12 I.r0 ++ (B12 I.r1 ++ (B12 I.r3 ++ B12 I.r2))
def itOf : Code -> Option It
 | .seq (.region _ r0 false) (.block b (.loop (.seq (.seq (.region _ r1 false) (.cond (.tmp tb) .skip (.exit b'))) (.seq (.block _ (.seq (.region _ r3 false) (.cond (.tmp td) .ret .skip))) (.region _ r2 false))))) =>
  match Nat.beq b b', r3.toList with
  | true, o :: l => match o.op, o.dst, o.guard with
   | .move (.tmp 0), some y, none => match B436 y l [], memN 0 (B12 r0.toList ++ (B12 r1.toList ++ (B12 r3.toList ++ B12 r2.toList))) with
    | some (pre, dy, args, post), false => match memN y (B12 pre) with
     | false => some { r0 := r0.toList, r1 := r1.toList, r2 := r2.toList, r3 := r3.toList, pre, post, tb, td, y, dy, args }
     | true => none
    | _, _ => none
   | _, _, _ => none
  | _, _ => none
 | _ => none
def B77 : Code -> Bool
 | .seq a b => B77 a && B77 b
 | .cond _ a b => B77 a && B77 b
 | .block _ c => B77 c
 | .loop c => B77 c
 | .rangeFunc .. => false
 | _ => true
def Ex.on : Ex -> Bool
 | .normal => true
 | _ => false
noncomputable def B211 (rec : Rec G) (N' : Nat) (I : It) (head : Cut) (as : List (Ex × Cut)) (cap : PV G.E.T) (ps : List Nat) (N : Nat) (σ : St G.E.T)
  (round : St G.E.T -> {A : Type} -> (Ex -> St G.E.T -> Option A) -> Option A) (s : Pay G.E.T head.leaves) : Option (Pay G.E.T head.leaves ⊕ AltT G.E.T as) :=
 vops G rec {} N' I.r1 I.r1 (rebSt head (B176 head.bs I.ds ⟨[(1, cap)], σ.heap⟩) s) fun σ1 => match look I.tb σ1.env with
  | .bool c => if c = true
   then (match put N' (some I.y) .any σ1.env with
    | none => none
    | some env => vops G rec {} N' I.r3 I.pre ⟨env, σ1.heap⟩ fun σ2 => match ps, evals σ2.env I.args with
     | [p, q], [u, v] => match put N (some p) u σ.env with
      | none => none
      | some env => match put N (some q) v env with
       | none => none
       | some env => round ⟨env, σ2.heap⟩ fun e σ3 => match put N' (some I.dy) (.bool e.on) σ2.env with
        | none => none
        | some env => vops G rec {} N' I.r3 I.post ⟨env, σ3.heap⟩ fun σ4 => match look I.td σ4.env with
         | .bool d => match e with
          | .normal => if d = true then none else vops G rec {} N' I.r2 I.r2 σ4 fun σ5 => match B111 head (B8 head.bs σ.heap) σ5 with
           | some s => some (.inl s)
           | none => none
          | e => if d = true then (match B75 as (B8 head.bs σ.heap) e ⟨σ.env, σ4.heap⟩ with
           | some p => some (.inr p)
           | none => none) else none
         | _ => none
     | _, _ => none)
   else (match B75 as (B8 head.bs σ.heap) .normal ⟨σ.env, σ1.heap⟩ with
    | some p => some (.inr p)
    | none => none)
  | _ => none
noncomputable def B360 (rec : Rec G) (N' : Nat) (I : It) (head : Cut) (as : List (Ex × Cut)) (cap : PV G.E.T) (ps : List Nat) (N : Nat) (σ : St G.E.T)
  (round : St G.E.T -> {A : Type} -> (Ex -> St G.E.T -> Option A) -> Option A) (k : Ex -> St G.E.T -> Option R) : Option R :=
 vops G rec {} N' I.r0 I.r0 ⟨[(1, cap)], B8 head.bs σ.heap⟩ fun σ0 => match B111 head (B8 head.bs σ.heap) σ0 with
  | none => none
  | some s => (loop (B211 G rec N' I head as cap ps N σ round) s).bind fun p => B279 as (B585 [] σ) p k
noncomputable def vrun (rec : Rec G) (ann : Ann) (N : Nat) : Code -> St G.E.T -> {R : Type} -> (Ex -> St G.E.T -> Option R) -> Option R
 | .skip, σ, _, k => k .normal σ
 | .region id ops draw, σ, _, k => match draw with
  | true => B205 G (lookN (2 * id) ann.joins) (B12 ops.toList) σ (fun σ _ k => B195 G rec ann id N ops.toList σ (k .normal)) k
  | false => B205 G (lookN (2 * id) ann.joins) (B12 ops.toList) σ (fun σ _ k => vops G rec ann N ops.toList ops.toList σ (k .normal)) k
 | .seq a b, σ, _, k => vrun rec ann N a σ fun e σ => match e with
  | .normal => vrun rec ann N b σ k
  | .exit id => k (.exit id) σ
  | .ret => k .ret σ
 | .cond c a b, σ, _, k => match c with
  | .tmp t => match look t σ.env with
   | .bool x => B205 G (lookN (2 * t + 1) ann.joins) (dsts a ++ dsts b) σ (fun σ _ k => if x = true then vrun rec ann N a σ k else vrun rec ann N b σ k) k
   | .boold => B205 G (lookN (2 * t + 1) ann.joins) (dsts a ++ dsts b) σ (fun σ _ k => demon (vrun rec ann N a σ k) (vrun rec ann N b σ k)) k
   | _ => none
  | .const (.bool x) => if x = true then vrun rec ann N a σ k else vrun rec ann N b σ k
  | _ => none
 | .block id c, σ, _, k => vrun rec ann N c σ fun e σ => match e with
  | .normal => k .normal σ
  | .exit j => match Nat.beq j id with
   | true => k .normal σ
   | false => k (.exit j) σ
  | .ret => k .ret σ
 | .loop c, σ, _, k => match lookN (B87 c) ann.loops with
  | none => match lookN (B87 c) ann.unroll with
   | none => none
   | some n => B132 G (fun σ _ k => vrun rec ann N c σ k) n σ k
  | some (head, as) => match B111 head (B8 head.bs σ.heap) ⟨σ.env, B8 head.bs σ.heap⟩ with
   | none => none
   | some s => (loop (fun s => vrun rec ann N c (rebSt head (B176 head.bs (dsts c) σ) s) fun e σ' => match e with
     | .normal => match B111 head (B8 head.bs σ.heap) σ' with
      | some s => some (.inl s)
      | none => none
     | .exit id => match B75 as (B8 head.bs σ.heap) (.exit id) σ' with
      | some p => some (.inr p)
      | none => none
     | .ret => match B75 as (B8 head.bs σ.heap) .ret σ' with
      | some p => some (.inr p)
      | none => none) s).bind fun p => B279 as (B585 (dsts c) σ) p k
 | .rangeFunc g ps assign body, σ, _, k => match lookN (B87 body) ann.loops, eval σ.env g with
  | some (head, as), .fn f [cap] => match G.P.funcs[f]? with
   | none => none
   | some fn => match fn.body with
    | none => none
    | some c => match itOf c, fn.results.toList, B77 assign, B77 body with
     | some I, [], true, true => B360 G rec fn.ntmps I head as cap ps.toList N σ (fun σ _ k => vrun rec ann N assign σ fun e σ => match e with
      | .normal => vrun rec ann N body σ k
      | _ => none) k
     | _, _, _, _ => none
  | _, _ => none
 | .exit id, σ, _, k => k (.exit id) σ
 | .ret, σ, _, k => k .ret σ
 | _, _, _, _ => none
def B152 {T : Nat -> Type} : Nat -> List (PV T) -> List (Nat × PV T)
 | _, [] => []
 | n, v :: l => (n, v) :: B152 (n + 1) l
def B188 (σ : St G.E.T) : List ResultVar -> Option (List (PV G.E.T))
 | [] => some []
 | .tmp t :: l => match B188 σ l with
  | some r => some (look t σ.env :: r)
  | none => none
 | .cell a t :: l => match loadV G σ.heap t (look a σ.env) some with
  | some v => match B188 σ l with
   | some r => some (v :: r)
   | none => none
  | none => none
def B266 (s : Sig) (p : Pay G.E.T s.ins) : St G.E.T :=
 match rebTs (ρcut (T := G.E.T) [] s.pb) s.ps (toL s.ins p) with
 | (vs, r) => { env := B152 0 vs, heap := rebBs (ρcut (T := G.E.T) [] s.pb) 0 s.pb [] r }
def B450 {T : Nat -> Type} (a : Way) (base : List (Blk T)) (vs : List (PV T)) (heap : List (Blk T)) : Option (Pay T a.leaves) :=
 match B51 a.1 vs a.2 base heap with
 | none => none
 | some (l, cs) => match B265 heap cs.lent with
  | true => ofL a.leaves l
  | false => none
def B565 {T : Nat -> Type} : (a : Way) -> (l : List Way) -> List (Blk T) -> List (PV T) -> List (Blk T) -> Option (OutT T a l)
 | a, [], base, vs, heap => B450 a base vs heap
 | a, b :: l, base, vs, heap => match B450 a base vs heap with
  | some q => some (.inl q)
  | none => match B565 b l base vs heap with
   | some q => some (.inr q)
   | none => none
def B338 (s : Sig) (base : List (Blk G.E.T)) (rvs : List ResultVar) (σ : St G.E.T) : Option (s.Out G.E.T) :=
 match B188 G σ rvs with
 | some vs => B565 s.way s.more base vs σ.heap
 | none => none
noncomputable def vbody (rec : Rec G) (i : Nat) (p : Pay G.E.T (G.F i).sig.ins) : Option ((G.F i).sig.Out G.E.T) :=
 match G.P.funcs[(G.F i).fid]? with
 | none => none
 | some fn => match fn.body with
  | none => none
  | some c => vrun G rec (G.F i).ann fn.ntmps c (B266 G (G.F i).sig p) fun e σ => match e with
   | .normal => B338 G (G.F i).sig (B266 G (G.F i).sig p).heap fn.results.toList σ
   | .ret => B338 G (G.F i).sig (B266 G (G.F i).sig p).heap fn.results.toList σ
   | .exit _ => none
noncomputable def vcall : Nat -> Rec G
 | 0, _, _ => none
 | n + 1, i, p => vbody G (vcall n) i p
open Classical in
noncomputable def call : Rec G := fun i p =>
 if h : ∃ n q, vcall G n i p = some q then vcall G h.choose i p else none
end
structure Loc where
 a : Option Addr
 cap : Nat
inductive FRep (E : Env) (w : World) (Fz : Nat -> Prop) : PV E.T -> Value -> Prop
 | int {k : IntKind} {n : Int} : k.has n -> FRep E w Fz (.int k n) (.int k n)
 | bool {b : Bool} : FRep E w Fz (.bool b) (.bool b)
 | str {s : List Int} {bs : ByteArray} : B9 bs = s -> s.length <= maxLen -> FRep E w Fz (.str s) (.string bs)
 | ints {k : IntKind} {xs : List Int} {a : Option Addr} {cap : Nat} : (∀ x ∈ xs, k.has x) -> xs.length <= maxLen -> xs.length <= cap ->
   (xs ≠ [] -> ∃ B o, a = some ⟨B, o, none⟩ ∧ Fz B ∧ ∀ j x, xs[j]? = some x -> w.cell? ⟨B, o + j, none⟩ = some (.int k x)) ->
   FRep E w Fz (.ints k xs) (.slice a xs.length cap)
 | rows {i : Nat} {xs : List (E.T i)} {a : Option Addr} {cap : Nat} (cv : Nat -> Nat -> Value) : xs.length <= maxLen -> xs.length <= cap ->
   (xs ≠ [] -> ∃ B o, a = some ⟨B, o, none⟩ ∧ Fz B ∧ ∀ j x c pv, xs[j]? = some x -> (E.outs i x)[c]? = some pv -> w.cell? ⟨B, o + j * E.sz i + c, none⟩ = some (cv j c)) ->
   (∀ j x c pv, xs[j]? = some x -> (E.outs i x)[c]? = some pv -> FRep E w Fz pv (cv j c)) ->
   FRep E w Fz (.rows i xs) (.slice a xs.length cap)
theorem FRep.mono {E : Env} {w w' : World} {Fz Fz' : Nat -> Prop} (h1 : ∀ B, Fz B -> Fz' B) (h2 : ∀ B, Fz B -> w'.heap[B]? = w.heap[B]?)
  {p : PV E.T} {v : Value} (h : FRep E w Fz p v) : FRep E w' Fz' p v := by
 induction h with
 | int h => exact .int h
 | bool => exact .bool
 | str h hl => exact .str h hl
 | ints hk hl hcap hc =>
  refine .ints hk hl hcap fun hne => ?_
  obtain ⟨B, o, ha, hf, hx⟩ := hc hne
  exact ⟨B, o, ha, h1 _ hf, fun j x hj => by rw [World.cell?_of_block (w := w) (h2 B hf)]; exact hx j x hj⟩
 | rows cv hl hcap hc hr ih =>
  refine .rows cv hl hcap (fun hne => ?_) ih
  obtain ⟨B, o, ha, hf, hx⟩ := hc hne
  exact ⟨B, o, ha, h1 _ hf, fun j x c pv hj hp => by rw [World.cell?_of_block (w := w) (h2 B hf)]; exact hx j x c pv hj hp⟩
def Blk.info (E : Env) : Blk E.T -> Option (Nat × Nat × Nat)
 | .ints _ _ ep xs => some (ep, xs.length, 1)
 | .rows _ i ep xs => some (ep, xs.length, E.sz i)
 | _ => none
def B806 (v : Value) : Prop := ∃ a l c, v = .slice a l c
def isPtr (v : Value) : Prop := ∃ a, v = .pointer (some a)
def ArrAt (E : Env) (ι : Nat -> Loc) (id ep : Nat) (b : Blk E.T) (v : Value) : Prop :=
 B806 v ∧ ∀ ep' len sz, b.info E = some (ep', len, sz) -> ep <= ep' ∧ (ep = ep' -> v = .slice (ι id).a len (ι id).cap)
def SubAt (E : Env) (ι : Nat -> Loc) (id ep off len : Nat) (b : Blk E.T) (v : Value) : Prop :=
 B806 v ∧ ∀ ep' len' sz, b.info E = some (ep', len', sz) -> ep <= ep' ∧ (ep = ep' -> off + len <= len' ∧ ∃ a cap, v = .slice a len cap ∧ len <= cap ∧
  (0 < len -> ∃ B o, (ι id).a = some ⟨B, o, none⟩ ∧ a = some ⟨B, o + off * sz, none⟩))
def B230 (E : Env) (ι : Nat -> Loc) (id ep : Nat) (i : Int) (fld : Nat) (b : Blk E.T) (v : Value) : Prop :=
 isPtr v ∧ ∀ ep' len sz, b.info E = some (ep', len, sz) -> ep <= ep' ∧ (ep = ep' -> 0 <= i ∧ i.toNat < len ∧ ∃ B o, (ι id).a = some ⟨B, o, none⟩ ∧ v = .pointer (some ⟨B, o + i.toNat * sz + fld, none⟩))
mutual
def PRep (E : Env) (w : World) (Fz : Nat -> Prop) (ι : Nat -> Loc) (H : List (Blk E.T)) : PV E.T -> Value -> Prop
 | .any, _ => True
 | .boold, v => ∃ b, v = .bool b
 | .aptr id off n i, v => (0 <= i ∧ i.toNat < n) ∧ ∃ b, getL H id = some b ∧ b.info E = none ∧ ∃ B o, (ι id).a = some ⟨B, o, none⟩ ∧ v = .pointer (some ⟨B, o + (off + i.toNat), none⟩)
 | .arr id ep, v => ∃ b, getL H id = some b ∧ ArrAt E ι id ep b v
 | .sub id ep off len, v => ∃ b, getL H id = some b ∧ SubAt E ι id ep off len b v
 | .eptr id ep i fld, v => ∃ b, getL H id = some b ∧ B230 E ι id ep i fld b v
 | .ptr id off, v => ∃ b, getL H id = some b ∧ b.info E = none ∧ ∃ B o, (ι id).a = some ⟨B, o, none⟩ ∧ v = .pointer (some ⟨B, o + off, none⟩)
 | .mapr id, v => ∃ b, getL H id = some b ∧ b.info E = none ∧ ∃ B, (ι id).a = some ⟨B, 0, none⟩ ∧ v = .map (some B)
 | .fptr l, v => ∃ B o, v = .pointer (some ⟨B, o, none⟩) ∧ (l ≠ [] -> Fz B) ∧ ∀ c pv, l[c]? = some pv -> ∃ u, w.cell? ⟨B, o + c, none⟩ = some u ∧ FRep E w Fz pv u
 | .nil, v => v = .pointer none
 | .nilm, v => v = .map none
 | .nilsl, v => v = .slice none 0 0
 | .agg l, v => ∃ cs, v = .agg cs ∧ (∀ p ∈ l, p.one = true) ∧ PReps E w Fz ι H l cs.toList
 | .tup l, v => ∃ cs, v = .tuple cs ∧ PReps E w Fz ι H l cs.toList
 | .fn f caps, v => ∃ cs, v = .func (.func f) #[] cs ∧ PReps E w Fz ι H caps cs.toList
 | .int k n, v => FRep E w Fz (.int k n) v
 | .bool b, v => FRep E w Fz (.bool b) v
 | .str s, v => FRep E w Fz (.str s) v
 | .ints k xs, v => FRep E w Fz (.ints k xs) v
 | .rows i xs, v => FRep E w Fz (.rows i xs) v
def PReps (E : Env) (w : World) (Fz : Nat -> Prop) (ι : Nat -> Loc) (H : List (Blk E.T)) : List (PV E.T) -> List Value -> Prop
 | [], [] => True
 | p :: ps, v :: vs => PRep E w Fz ι H p v ∧ PReps E w Fz ι H ps vs
 | _, _ => False
end
structure StepB (E : Env) (ι ι' : Nat -> Loc) (id : Nat) (b b' : Blk E.T) : Prop where
 flat : b.info E = none -> b'.info E = none ∧ (ι' id).a = (ι id).a
 row : ∀ ep len sz, b.info E = some (ep, len, sz) -> b'.info E = none ∨ ∃ ep' len' sz', b'.info E = some (ep', len', sz') ∧ ep <= ep' ∧ (ep = ep' -> len' = len ∧ sz' = sz ∧ ι' id = ι id)
 gone : b = .gone -> b' = .gone
def HLe (E : Env) (ι : Nat -> Loc) (H : List (Blk E.T)) (ι' : Nat -> Loc) (H' : List (Blk E.T)) : Prop :=
 ∀ id b, getL H id = some b -> ∃ b', getL H' id = some b' ∧ StepB E ι ι' id b b'
theorem StepB.refl {E : Env} {ι : Nat -> Loc} {id : Nat} (b : Blk E.T) : StepB E ι ι id b b :=
 ⟨fun h => ⟨h, rfl⟩, fun ep len sz h => .inr ⟨ep, len, sz, h, A11 _, fun _ => ⟨rfl, rfl, rfl⟩⟩, fun e => e⟩
theorem StepB.of_loc {E : Env} {ι ι' : Nat -> Loc} {id : Nat} (b : Blk E.T) (h : ι' id = ι id) : StepB E ι ι' id b b :=
 ⟨fun hb => ⟨hb, by rw [h]⟩, fun ep len sz hb => .inr ⟨ep, len, sz, hb, A11 _, fun _ => ⟨rfl, rfl, h⟩⟩, fun e => e⟩
theorem StepB.trans {E : Env} {ι ι' ι'' : Nat -> Loc} {id : Nat} {b b' b'' : Blk E.T} (h : StepB E ι ι' id b b') (g : StepB E ι' ι'' id b' b'') : StepB E ι ι'' id b b'' := by
 refine ⟨fun hb => ?_, fun ep len sz hb => ?_, fun hb => g.gone (h.gone hb)⟩
 ·obtain ⟨h1, h2⟩ := h.flat hb
  obtain ⟨g1, g2⟩ := g.flat h1
  exact ⟨g1, by rw [g2, h2]⟩
 ·rcases h.row ep len sz hb with h1 | ⟨ep', len', sz', h1, h2, h3⟩
  ·exact .inl (g.flat h1).1
  ·rcases g.row ep' len' sz' h1 with g1 | ⟨ep'', len'', sz'', g1, g2, g3⟩
   ·exact .inl g1
   ·refine .inr ⟨ep'', len'', sz'', g1, by omega, fun e => ?_⟩
    obtain ⟨e1, e2, e3⟩ := h3 (by omega)
    obtain ⟨f1, f2, f3⟩ := g3 (by omega)
    exact ⟨by rw [f1, e1], by rw [f2, e2], by rw [f3, e3]⟩
theorem HLe.refl {E : Env} (ι : Nat -> Loc) (H : List (Blk E.T)) : HLe E ι H ι H := fun id b h => ⟨b, h, .refl b⟩
theorem HLe.trans {E : Env} {ι ι' ι'' : Nat -> Loc} {H H' H'' : List (Blk E.T)} (h : HLe E ι H ι' H') (g : HLe E ι' H' ι'' H'') : HLe E ι H ι'' H'' := by
 intro id b hb
 obtain ⟨b', h1, h2⟩ := h id b hb
 obtain ⟨b'', g1, g2⟩ := g id b' h1
 exact ⟨b'', g1, h2.trans g2⟩
section
variable {E : Env} {w w' : World} {Fz Fz' : Nat -> Prop} {ι ι' : Nat -> Loc} {H H' : List (Blk E.T)}
theorem ArrAt.step {id ep : Nat} {b b' : Blk E.T} {v : Value} (h : ArrAt E ι id ep b v) (s : StepB E ι ι' id b b') : ArrAt E ι' id ep b' v := by
 obtain ⟨h1, h2⟩ := h
 refine ⟨h1, fun ep' len sz hb => ?_⟩
 cases hi : b.info E with
 | none => rw [(s.flat hi).1] at hb; cases hb
 | some x =>
  obtain ⟨e0, l0, s0⟩ := x
  obtain ⟨g1, g2⟩ := h2 e0 l0 s0 hi
  rcases s.row e0 l0 s0 hi with q | ⟨e1, l1, s1, q1, q2, q3⟩
  ·rw [q] at hb; cases hb
  ·rw [q1] at hb
   simp only [A16, A33] at hb
   obtain ⟨rfl, rfl, rfl⟩ := hb
   refine ⟨by omega, fun e => ?_⟩
   obtain ⟨r1, r2, r3⟩ := q3 (by omega)
   rw [r1, r3]; exact g2 (by omega)
theorem SubAt.step {id ep off len : Nat} {b b' : Blk E.T} {v : Value} (h : SubAt E ι id ep off len b v) (s : StepB E ι ι' id b b') : SubAt E ι' id ep off len b' v := by
 obtain ⟨h1, h2⟩ := h
 refine ⟨h1, fun ep' len' sz hb => ?_⟩
 cases hi : b.info E with
 | none => rw [(s.flat hi).1] at hb; cases hb
 | some x =>
  obtain ⟨e0, l0, s0⟩ := x
  obtain ⟨g1, g2⟩ := h2 e0 l0 s0 hi
  rcases s.row e0 l0 s0 hi with q | ⟨e1, l1, s1, q1, q2, q3⟩
  ·rw [q] at hb; cases hb
  ·rw [q1] at hb
   simp only [A16, A33] at hb
   obtain ⟨rfl, rfl, rfl⟩ := hb
   refine ⟨by omega, fun e => ?_⟩
   obtain ⟨r1, r2, r3⟩ := q3 (by omega)
   rw [r1, r2, r3]; exact g2 (by omega)
theorem B230.step {id ep : Nat} {i : Int} {fld : Nat} {b b' : Blk E.T} {v : Value} (h : B230 E ι id ep i fld b v) (s : StepB E ι ι' id b b') : B230 E ι' id ep i fld b' v := by
 obtain ⟨h1, h2⟩ := h
 refine ⟨h1, fun ep' len' sz hb => ?_⟩
 cases hi : b.info E with
 | none => rw [(s.flat hi).1] at hb; cases hb
 | some x =>
  obtain ⟨e0, l0, s0⟩ := x
  obtain ⟨g1, g2⟩ := h2 e0 l0 s0 hi
  rcases s.row e0 l0 s0 hi with q | ⟨e1, l1, s1, q1, q2, q3⟩
  ·rw [q] at hb; cases hb
  ·rw [q1] at hb
   simp only [A16, A33] at hb
   obtain ⟨rfl, rfl, rfl⟩ := hb
   refine ⟨by omega, fun e => ?_⟩
   obtain ⟨r1, r2, r3⟩ := q3 (by omega)
   rw [r1, r2, r3]; exact g2 (by omega)
structure Keep (E : Env) (w w' : World) (Fz Fz' : Nat -> Prop) (ι ι' : Nat -> Loc) (H H' : List (Blk E.T)) : Prop where
 fz : ∀ B, Fz B -> Fz' B
 heap : ∀ B, Fz B -> w'.heap[B]? = w.heap[B]?
 le : HLe E ι H ι' H'
mutual
theorem PRep.mono (K : Keep E w w' Fz Fz' ι ι' H H') : ∀ {p : PV E.T} {v : Value}, PRep E w Fz ι H p v -> PRep E w' Fz' ι' H' p v
 | .any, _, _ => by simp [PRep]
 | .arr id ep, v, h => by
  simp only [PRep] at h ⊢
  obtain ⟨b, hb, h⟩ := h
  obtain ⟨b', hb', s⟩ := K.le id b hb
  exact ⟨b', hb', h.step s⟩
 | .sub id ep off len, v, h => by
  simp only [PRep] at h ⊢
  obtain ⟨b, hb, h⟩ := h
  obtain ⟨b', hb', s⟩ := K.le id b hb
  exact ⟨b', hb', h.step s⟩
 | .eptr id ep i fld, v, h => by
  simp only [PRep] at h ⊢
  obtain ⟨b, hb, h⟩ := h
  obtain ⟨b', hb', s⟩ := K.le id b hb
  exact ⟨b', hb', h.step s⟩
 | .ptr id off, v, h => by
  simp only [PRep] at h ⊢
  obtain ⟨b, hb, hi, h⟩ := h
  obtain ⟨b', hb', s⟩ := K.le id b hb
  obtain ⟨s1, s2⟩ := s.flat hi
  exact ⟨b', hb', s1, by rw [s2]; exact h⟩
 | .mapr id, v, h => by
  simp only [PRep] at h ⊢
  obtain ⟨b, hb, hi, h⟩ := h
  obtain ⟨b', hb', s⟩ := K.le id b hb
  obtain ⟨s1, s2⟩ := s.flat hi
  exact ⟨b', hb', s1, by rw [s2]; exact h⟩
 | .fptr l, v, h => by
  simp only [PRep] at h ⊢
  obtain ⟨B, o, rfl, hf, hc⟩ := h
  refine ⟨B, o, rfl, fun hl => K.fz _ (hf hl), fun c pv hl => ?_⟩
  obtain ⟨u, hu, hr⟩ := hc c pv hl
  have hne : l ≠ [] := fun e => by subst e; simp at hl
  exact ⟨u, by rw [World.cell?_of_block (w := w) (K.heap B (hf hne))]; exact hu, hr.mono K.fz K.heap⟩
 | .boold, v, h => by simpa only [PRep] using h
 | .aptr id off n i, v, h => by
  simp only [PRep] at h ⊢
  obtain ⟨h0, b, hb, hi, h⟩ := h
  obtain ⟨b', hb', s⟩ := K.le id b hb
  obtain ⟨s1, s2⟩ := s.flat hi
  exact ⟨h0, b', hb', s1, by rw [s2]; exact h⟩
 | .nil, v, h => by simpa only [PRep] using h
 | .nilm, v, h => by simpa only [PRep] using h
 | .nilsl, v, h => by simpa only [PRep] using h
 | .agg l, v, h => by
  simp only [PRep] at h ⊢
  obtain ⟨cs, rfl, h1, h⟩ := h
  exact ⟨cs, rfl, h1, PReps.mono K h⟩
 | .tup l, v, h => by
  simp only [PRep] at h ⊢
  obtain ⟨cs, rfl, h⟩ := h
  exact ⟨cs, rfl, PReps.mono K h⟩
 | .fn f caps, v, h => by
  simp only [PRep] at h ⊢
  obtain ⟨cs, rfl, h⟩ := h
  exact ⟨cs, rfl, PReps.mono K h⟩
 | .int k n, v, h => by simp only [PRep] at h ⊢; exact h.mono K.fz K.heap
 | .bool b, v, h => by simp only [PRep] at h ⊢; exact h.mono K.fz K.heap
 | .str s, v, h => by simp only [PRep] at h ⊢; exact h.mono K.fz K.heap
 | .ints k xs, v, h => by simp only [PRep] at h ⊢; exact h.mono K.fz K.heap
 | .rows i xs, v, h => by simp only [PRep] at h ⊢; exact h.mono K.fz K.heap
theorem PReps.mono (K : Keep E w w' Fz Fz' ι ι' H H') : ∀ {ps : List (PV E.T)} {vs : List Value}, PReps E w Fz ι H ps vs -> PReps E w' Fz' ι' H' ps vs
 | [], [], h => by simp only [PReps]
 | p :: ps, v :: vs, h => by
  simp only [PReps] at h ⊢
  exact ⟨PRep.mono K h.1, PReps.mono K h.2⟩
 | [], _ :: _, h => by simp only [PReps] at h
 | _ :: _, [], h => by simp only [PReps] at h
end
theorem PRep.cell {p : PV E.T} {v : Value} (h : PRep E w Fz ι H p v) (h1 : p.one = true) : v.oneCell' = true := by
 cases p <;> simp only [PV.one, A5] at h1 <;> simp only [PRep] at h
 case int => cases h; rfl
 case bool => cases h; rfl
 case str => cases h; rfl
 case ints => cases h; rfl
 case rows => cases h; rfl
 case arr => obtain ⟨b, _, ⟨a, l, c, rfl⟩, _⟩ := h; rfl
 case sub => obtain ⟨b, _, ⟨a, l, c, rfl⟩, _⟩ := h; rfl
 case eptr => obtain ⟨b, _, ⟨a, rfl⟩, _⟩ := h; rfl
 case ptr => obtain ⟨b, _, _, B, o, _, rfl⟩ := h; rfl
 case fptr => obtain ⟨B, o, rfl, _⟩ := h; rfl
 case mapr => obtain ⟨b, _, _, B, _, rfl⟩ := h; rfl
 case nil => subst h; rfl
 case nilm => subst h; rfl
 case nilsl => subst h; rfl
 case fn => obtain ⟨cs, rfl, _⟩ := h; rfl
theorem B397 {v : Value} (h : v.oneCell' = true) : v.cells = #[v] := by
 cases v <;> first | rfl | simp [Value.oneCell'] at h
theorem PReps.length : ∀ {ps : List (PV E.T)} {vs : List Value}, PReps E w Fz ι H ps vs -> ps.length = vs.length
 | [], [], _ => rfl
 | _ :: _, _ :: _, h => by simp only [PReps] at h; simp [PReps.length h.2]
 | [], _ :: _, h => by simp only [PReps] at h
 | _ :: _, [], h => by simp only [PReps] at h
theorem PReps.get : ∀ {ps : List (PV E.T)} {vs : List Value}, PReps E w Fz ι H ps vs -> ∀ {i : Nat} {p : PV E.T}, ps[i]? = some p -> ∃ v, vs[i]? = some v ∧ PRep E w Fz ι H p v
 | [], [], _, i, p, hi => by simp at hi
 | q :: ps, v :: vs, h, 0, p, hi => by
  simp only [PReps] at h
  simp only [A110, A16] at hi
  subst hi
  exact ⟨v, rfl, h.1⟩
 | q :: ps, v :: vs, h, i + 1, p, hi => by
  simp only [PReps] at h
  simp only [A123] at hi ⊢
  exact h.2.get hi
 | [], _ :: _, h, _, _, _ => by simp only [PReps] at h
 | _ :: _, [], h, _, _, _ => by simp only [PReps] at h
theorem PReps.of_get : ∀ {ps : List (PV E.T)} {vs : List Value}, ps.length = vs.length -> (∀ (i : Nat) (p : PV E.T) (v : Value), ps[i]? = some p -> vs[i]? = some v -> PRep E w Fz ι H p v) -> PReps E w Fz ι H ps vs
 | [], [], _, _ => by simp only [PReps]
 | p :: ps, v :: vs, hl, h => by
  simp only [PReps]
  exact ⟨h 0 p v rfl rfl, PReps.of_get (by simpa using hl) fun i p v hp hv => h (i + 1) p v (by simpa using hp) (by simpa using hv)⟩
 | [], _ :: _, hl, _ => by simp at hl
 | _ :: _, [], hl, _ => by simp at hl
theorem PReps.append : ∀ {ps : List (PV E.T)} {vs : List Value} {qs : List (PV E.T)} {us : List Value}, PReps E w Fz ι H ps vs -> PReps E w Fz ι H qs us -> PReps E w Fz ι H (ps ++ qs) (vs ++ us)
 | [], [], _, _, _, h => h
 | _ :: _, _ :: _, _, _, g, h => by
  simp only [PReps] at g
  simp only [A40, PReps]
  exact ⟨g.1, g.2.append h⟩
 | [], _ :: _, _, _, g, _ => by simp only [PReps] at g
 | _ :: _, [], _, _, g, _ => by simp only [PReps] at g
end
theorem B24 {α : Type} : ∀ (l : List α) (i : Nat), getL l i = l[i]?
 | [], _ => rfl
 | _ :: _, 0 => rfl
 | _ :: l, i + 1 => by simp [getL, B24 l i]
theorem B459 {α : Type} : ∀ (l : List α) (i : Nat) (a : α), setL l i a = l.set i a
 | [], _, _ => rfl
 | _ :: _, 0, _ => rfl
 | _ :: l, i + 1, a => by simp [setL, B459 l i]
theorem B520 {α : Type} : ∀ (n : Nat) (l r : List α), takeL n l = some r -> n <= l.length ∧ r = l.take n
 | 0, _, _, h => by simp [takeL] at h; subst h; simp
 | n + 1, [], _, h => by simp [takeL] at h
 | n + 1, x :: l, r, h => by
  simp only [takeL] at h
  split at h
  ·rename_i q hq
   obtain ⟨h1, rfl⟩ := B520 n l q hq
   simp at h; subst h
   exact ⟨by simp; omega, by simp⟩
  ·cases h
theorem B145 {α : Type} : ∀ (n : Nat) (l r : List α), dropL n l = some r -> n <= l.length ∧ r = l.drop n
 | 0, _, _, h => by simp [dropL] at h; subst h; simp
 | n + 1, [], _, h => by simp [dropL] at h
 | n + 1, x :: l, r, h => by
  simp only [dropL] at h
  obtain ⟨h1, rfl⟩ := B145 n l r h
  exact ⟨by simp; omega, by simp⟩
theorem B511 {α : Type} : ∀ {n : Nat} {l : List α}, n <= l.length -> dropL n l = some (l.drop n)
 | 0, _, _ => rfl
 | n + 1, [], h => by simp at h
 | n + 1, x :: l, h => by
  simp only [dropL]
  rw [B511 (by simpa using h)]
  simp
theorem B223 {α : Type} : ∀ (l : List α) (n : Nat) (as r : List α), replL l n as = some r -> n + as.length <= l.length ∧ r = l.take n ++ as ++ l.drop (n + as.length)
 | l, 0, [], r, h => by simp [replL] at h; subst h; simp
 | [], 0, _ :: _, _, h => by simp [replL] at h
 | x :: l, 0, a :: as, r, h => by
  simp only [replL] at h
  split at h
  ·rename_i q hq
   obtain ⟨h1, rfl⟩ := B223 l 0 as q hq
   simp at h h1; subst h
   exact ⟨by simp; omega, by simp⟩
  ·cases h
 | [], n + 1, as, r, h => by cases as <;> simp [replL] at h
 | x :: l, n + 1, as, r, h => by
  obtain ⟨q, hq, h'⟩ : ∃ q, replL l n as = some q ∧ x :: q = r := by
   cases as <;> simp only [replL] at h <;> split at h <;> first | (rename_i q hq; exact ⟨q, hq, by simpa using h⟩) | cases h
  ·
   obtain ⟨h1, rfl⟩ := B223 l n as q hq
   subst h'
   refine ⟨by simp; omega, ?_⟩
   rw [show n + 1 + as.length = (n + as.length) + 1 by omega]
   simp
def Blk.owned {T : Nat -> Type} : Blk T -> Bool
 | .box _ _ => true
 | .ints .frozen _ _ _ => false
 | .ints _ _ _ _ => true
 | .rows .frozen _ _ _ => false
 | .rows _ _ _ _ => true
 | .gone => false
 | .mp _ _ => true
 | .mpr _ _ _ _ => true
def Blk.frozen {T : Nat -> Type} : Blk T -> Bool
 | .ints .frozen _ _ _ => true
 | .rows .frozen _ _ _ => true
 | _ => false
def RowAt (w : World) (l : Loc) (len sz : Nat) : Prop :=
 len <= l.cap ∧ len <= maxLen ∧ ((l.a = none ∧ l.cap = 0) ∨ ∃ B o, l.a = some ⟨B, o, none⟩ ∧ B < w.heap.size ∧ ∀ c, c < l.cap * sz -> (∃ u, w.cell? ⟨B, o + c, none⟩ = some u) ∧ w.frozen? ⟨B, o + c, none⟩ = false)
def B60 (E : Env) (w : World) (Fz : Nat -> Prop) : List (PV E.T) -> List Value -> Prop
 | [], [] => True
 | p :: ps, v :: vs => p.one = true ∧ FRep E w Fz p v ∧ B60 E w Fz ps vs
 | _, _ => False
def B177 (sz : Nat) (vs : List Value) : Value := match Nat.beq sz 2, vs with
 | true, [v] => v
 | _, vs => .agg vs.toArray
def B404 (E : Env) (w : World) (Fz : Nat -> Prop) (k : KK) (i : Nat) (x : E.T i) (e : MapEntry) : Prop :=
 ∃ kp ps vs, E.outs i x = kp :: ps ∧ FRep E w Fz kp e.key ∧ (kvOf k kp).isSome = true ∧ e.val = B177 (E.sz i) vs ∧ B60 E w Fz ps vs
def B47 (E : Env) (w : World) (Fz : Nat -> Prop) (k : KK) (i : Nat) : List (E.T i) -> List MapEntry -> Prop
 | [], [] => True
 | x :: xs, e :: es => B404 E w Fz k i x e ∧ B47 E w Fz k i xs es
 | _, _ => False
theorem B60.mono {E : Env} {w w' : World} {Fz Fz' : Nat -> Prop} (h1 : ∀ B, Fz B -> Fz' B) (h2 : ∀ B, Fz B -> w'.heap[B]? = w.heap[B]?) : ∀ {ps : List (PV E.T)} {vs : List Value}, B60 E w Fz ps vs -> B60 E w' Fz' ps vs
 | [], [], _ => trivial
 | _ :: _, _ :: _, h => ⟨h.1, h.2.1.mono h1 h2, h.2.2.mono h1 h2⟩
theorem B47.mono {E : Env} {w w' : World} {Fz Fz' : Nat -> Prop} (h1 : ∀ B, Fz B -> Fz' B) (h2 : ∀ B, Fz B -> w'.heap[B]? = w.heap[B]?) {k : KK} {i : Nat} : ∀ {xs : List (E.T i)} {es : List MapEntry}, B47 E w Fz k i xs es -> B47 E w' Fz' k i xs es
 | [], [], _ => trivial
 | _ :: _, _ :: _, h => by
  obtain ⟨⟨kp, ps, vs, a, b, b', c, d⟩, h⟩ := h
  exact ⟨⟨kp, ps, vs, a, b.mono h1 h2, b', c, d.mono h1 h2⟩, h.mono h1 h2⟩
def BRep (E : Env) (w : World) (Fz : Nat -> Prop) (ι : Nat -> Loc) (H : List (Blk E.T)) (id : Nat) : Blk E.T -> Prop
 | .gone => True
 | .mp _ k => ∃ B, (ι id).a = some ⟨B, 0, none⟩ ∧ ∃ es c, w.heap[B]? = some (.map es c) ∧ ∀ e ∈ es.toList, ∃ n, e.key = .int k n
 | .mpr _ k i xs => ∃ B, (ι id).a = some ⟨B, 0, none⟩ ∧ ∃ es c, w.heap[B]? = some (.map es c) ∧ B47 E w Fz k i xs es.toList
 | .box _ cells => ∃ B o, (ι id).a = some ⟨B, o, none⟩ ∧ B < w.heap.size ∧ ∀ c p, cells[c]? = some p -> p.one = true ∧ w.frozen? ⟨B, o + c, none⟩ = false ∧ ∃ u, w.cell? ⟨B, o + c, none⟩ = some u ∧ PRep E w Fz ι H p u
 | .ints _ k _ xs => RowAt w (ι id) xs.length 1 ∧ (∀ x ∈ xs, k.has x) ∧ ∀ B o, (ι id).a = some ⟨B, o, none⟩ -> ∀ j x, xs[j]? = some x -> w.cell? ⟨B, o + j, none⟩ = some (.int k x)
 | .rows _ i _ xs => RowAt w (ι id) xs.length (E.sz i) ∧ ∀ B o, (ι id).a = some ⟨B, o, none⟩ -> ∀ j x c p, xs[j]? = some x -> (E.outs i x)[c]? = some p -> ∃ u, w.cell? ⟨B, o + j * E.sz i + c, none⟩ = some u ∧ FRep E w Fz p u
structure HRep (E : Env) (w : World) (Fz : Nat -> Prop) (ι : Nat -> Loc) (H : List (Blk E.T)) : Prop where
 rep : ∀ id b, getL H id = some b -> BRep E w Fz ι H id b
 apart : ∀ i j b b' A A', i ≠ j -> getL H i = some b -> getL H j = some b' -> b.owned = true -> b'.owned = true -> (ι i).a = some A -> (ι j).a = some A' -> A.block ≠ A'.block
 free : ∀ i b A, getL H i = some b -> b.owned = true -> (ι i).a = some A -> ¬ Fz A.block
 held : ∀ i b A, getL H i = some b -> b.frozen = true -> (ι i).a = some A -> Fz A.block
 fz : ∀ B, Fz B -> B < w.heap.size
theorem RowAt.keep {w w' : World} {l : Loc} {len sz : Nat} (h : RowAt w l len sz) (hb : ∀ A, l.a = some A -> w'.heap[A.block]? = w.heap[A.block]?) : RowAt w' l len sz := by
 obtain ⟨h1, h2, h3⟩ := h
 refine ⟨h1, h2, ?_⟩
 rcases h3 with h3 | ⟨B, o, ha, hB, hc⟩
 ·exact .inl h3
 ·have e := hb _ ha
  simp only at e
  refine .inr ⟨B, o, ha, ?_, fun c hc' => ?_⟩
  ·rcases A85 B w'.heap.size with q | q
   ·exact q
   ·rw [A111 q, A74 hB] at e; cases e
  ·rw [World.cell?_of_block (w := w) e, World.frozen?_of_block (w := w) e]; exact hc c hc'
theorem BRep.keep {E : Env} {w w' : World} {Fz Fz' : Nat -> Prop} {ι ι' : Nat -> Loc} {H H' : List (Blk E.T)} (K : Keep E w w' Fz Fz' ι ι' H H') {id : Nat} {b : Blk E.T}
  (h : BRep E w Fz ι H id b) (hι : ι' id = ι id) (hb : ∀ A, (ι id).a = some A -> w'.heap[A.block]? = w.heap[A.block]?) : BRep E w' Fz' ι' H' id b := by
 cases b with
 | gone => trivial
 | mp m k =>
  simp only [BRep] at h ⊢
  obtain ⟨B, ha, es, c, he, hk⟩ := h
  have e := hb _ ha
  exact ⟨B, by rw [hι]; exact ha, es, c, by rw [← he]; exact e, hk⟩
 | mpr m k i xs =>
  simp only [BRep] at h ⊢
  obtain ⟨B, ha, es, c, he, hk⟩ := h
  have e := hb _ ha
  exact ⟨B, by rw [hι]; exact ha, es, c, by rw [← he]; exact e, hk.mono K.fz K.heap⟩
 | box m cells =>
  simp only [BRep] at h ⊢
  obtain ⟨B, o, ha, hB, hc⟩ := h
  have e := hb _ ha
  simp only at e
  refine ⟨B, o, by rw [hι]; exact ha, ?_, fun c p hp => ?_⟩
  ·rcases A85 B w'.heap.size with q | q
   ·exact q
   ·rw [A111 q, A74 hB] at e; cases e
  ·obtain ⟨h1, h2, u, h3, h4⟩ := hc c p hp
   exact ⟨h1, by rw [World.frozen?_of_block (w := w) e]; exact h2, u, by rw [World.cell?_of_block (w := w) e]; exact h3, h4.mono K⟩
 | ints m k ep xs =>
  simp only [BRep] at h ⊢
  rw [hι]
  refine ⟨h.1.keep hb, h.2.1, fun B o ha j x hj => ?_⟩
  have e : w'.heap[B]? = w.heap[B]? := hb _ ha
  rw [World.cell?_of_block (w := w) e]; exact h.2.2 B o ha j x hj
 | rows m i ep xs =>
  simp only [BRep] at h ⊢
  rw [hι]
  refine ⟨h.1.keep hb, fun B o ha j x c p hj hp => ?_⟩
  have e : w'.heap[B]? = w.heap[B]? := hb _ ha
  rw [World.cell?_of_block (w := w) e]
  obtain ⟨u, h1, h2⟩ := h.2 B o ha j x c p hj hp
  exact ⟨u, h1, h2.mono K.fz K.heap⟩
structure Ctx where
 w0 : World
 O : Nat -> Prop
 Fz0 : Nat -> Prop
structure Fram (E : Env) (X : Ctx) (w : World) (Fz : Nat -> Prop) (ι : Nat -> Loc) (H : List (Blk E.T)) : Prop where
 os : w.os = X.w0.os
 tape : w.tape = X.w0.tape
 output : w.output = X.w0.output
 size : X.w0.heap.size <= w.heap.size
 block : ∀ B, B < X.w0.heap.size -> ¬ X.O B -> w.heap[B]? = X.w0.heap[B]?
 own : ∀ id b A, getL H id = some b -> b.owned = true -> (ι id).a = some A -> X.O A.block ∨ X.w0.heap.size <= A.block
 fz : ∀ B, Fz B -> X.Fz0 B ∨ X.O B ∨ X.w0.heap.size <= B
def Blk.prot {T : Nat -> Type} : Blk T -> Bool
 | .box .prot _ => true
 | .ints .prot _ _ _ => true
 | .rows .prot _ _ _ => true
 | .mp .prot _ => true
 | .mpr .prot _ _ _ => true
 | _ => false
def Still {E : Env} (w w' : World) (ι : Nat -> Loc) (H : List (Blk E.T)) (ι' : Nat -> Loc) (H' : List (Blk E.T)) : Prop :=
 ∀ id b, getL H id = some b -> (b.prot = true ∨ b.frozen = true) -> getL H' id = some b ∧ ι' id = ι id ∧ ∀ A, (ι id).a = some A -> w'.heap[A.block]? = w.heap[A.block]?
theorem Still.refl {E : Env} (w : World) (ι : Nat -> Loc) (H : List (Blk E.T)) : Still w w ι H ι H := fun _ _ h _ => ⟨h, rfl, fun _ _ => rfl⟩
theorem Still.trans {E : Env} {w w' w'' : World} {ι ι' ι'' : Nat -> Loc} {H H' H'' : List (Blk E.T)} (h : Still w w' ι H ι' H') (g : Still w' w'' ι' H' ι'' H'') : Still w w'' ι H ι'' H'' := by
 intro id b hb hp
 obtain ⟨h1, h2, h3⟩ := h id b hb hp
 obtain ⟨g1, g2, g3⟩ := g id b h1 hp
 exact ⟨g1, by rw [g2, h2], fun A hA => by rw [g3 A (by rw [h2]; exact hA), h3 A hA]⟩
def Un {T : Nat -> Type} (w : World) (Fz : Nat -> Prop) (ι : Nat -> Loc) (H : List (Blk T)) (B : Nat) : Prop :=
 B < w.heap.size ∧ ¬ Fz B ∧ ∀ id b A, getL H id = some b -> b ≠ .gone -> (ι id).a = some A -> A.block ≠ B
structure Step (E : Env) (X : Ctx) (w w' : World) (Fz Fz' : Nat -> Prop) (ι ι' : Nat -> Loc) (H H' : List (Blk E.T)) : Prop where
 keep : Keep E w w' Fz Fz' ι ι' H H'
 still : Still w w' ι H ι' H'
 heap : HRep E w' Fz' ι' H'
 fram : Fram E X w' Fz' ι' H'
 un : ∀ B, Un w Fz ι H B -> w'.heap[B]? = w.heap[B]? ∧ Un w' Fz' ι' H' B
theorem Keep.refl {E : Env} {w : World} {Fz : Nat -> Prop} {ι : Nat -> Loc} {H : List (Blk E.T)} : Keep E w w Fz Fz ι ι H H := ⟨fun _ h => h, fun _ _ => rfl, .refl ι H⟩
theorem Keep.trans {E : Env} {w w' w'' : World} {Fz Fz' Fz'' : Nat -> Prop} {ι ι' ι'' : Nat -> Loc} {H H' H'' : List (Blk E.T)}
  (h : Keep E w w' Fz Fz' ι ι' H H') (g : Keep E w' w'' Fz' Fz'' ι' ι'' H' H'') : Keep E w w'' Fz Fz'' ι ι'' H H'' :=
 ⟨fun B hB => g.fz B (h.fz B hB), fun B hB => by rw [g.heap B (h.fz B hB), h.heap B hB], h.le.trans g.le⟩
theorem Step.trans {E : Env} {X : Ctx} {w w' w'' : World} {Fz Fz' Fz'' : Nat -> Prop} {ι ι' ι'' : Nat -> Loc} {H H' H'' : List (Blk E.T)}
  (h : Step E X w w' Fz Fz' ι ι' H H') (g : Step E X w' w'' Fz' Fz'' ι' ι'' H' H'') : Step E X w w'' Fz Fz'' ι ι'' H H'' :=
 ⟨h.keep.trans g.keep, h.still.trans g.still, g.heap, g.fram, fun B hB => by
  obtain ⟨h1, h2⟩ := h.un B hB
  obtain ⟨g1, g2⟩ := g.un B h2
  exact ⟨g1.trans h1, g2⟩⟩
theorem Step.refl {E : Env} {X : Ctx} {w : World} {Fz : Nat -> Prop} {ι : Nat -> Loc} {H : List (Blk E.T)} (h : HRep E w Fz ι H) (f : Fram E X w Fz ι H) : Step E X w w Fz Fz ι ι H H :=
 ⟨.refl, .refl w ι H, h, f, fun _ h => ⟨rfl, h⟩⟩
section
variable {E : Env} {X : Ctx} {w w' : World} {Fz : Nat -> Prop} {ι ι' : Nat -> Loc} {H H' : List (Blk E.T)}
theorem B37 {b : Blk E.T} (h : b.owned = true) : b.frozen = false := by
 cases b with
 | gone => rfl
 | mp m k => rfl
 | mpr m k i xs => rfl
 | box m c => rfl
 | ints m k ep xs => cases m <;> first | rfl | (simp [Blk.owned] at h)
 | rows m k ep xs => cases m <;> first | rfl | (simp [Blk.owned] at h)
theorem B79 {b : Blk E.T} (h : b.owned = false) (hg : b ≠ .gone) : b.frozen = true := by
 cases b with
 | gone => exact absurd rfl hg
 | mp m k => simp [Blk.owned] at h
 | mpr m k i xs => simp [Blk.owned] at h
 | box m c => simp [Blk.owned] at h
 | ints m k ep xs => cases m <;> first | rfl | (simp [Blk.owned] at h)
 | rows m k ep xs => cases m <;> first | rfl | (simp [Blk.owned] at h)
theorem B15 {b : Blk E.T} (h : b.owned = true) : b ≠ .gone := by rintro rfl; simp [Blk.owned] at h
theorem BRep.lt {id : Nat} {b : Blk E.T} {A : Addr} (h : BRep E w Fz ι H id b) (hb : b ≠ .gone) (ha : (ι id).a = some A) : A.block < w.heap.size := by
 cases b with
 | gone => exact absurd rfl hb
 | mp m k =>
  simp only [BRep] at h
  obtain ⟨B, h1, es, c, h2, _⟩ := h
  rw [ha] at h1; cases h1
  rcases A85 B w.heap.size with q | q
  ·exact q
  ·rw [A111 q] at h2; cases h2
 | mpr m k i xs =>
  simp only [BRep] at h
  obtain ⟨B, h1, es, c, h2, _⟩ := h
  rw [ha] at h1; cases h1
  rcases A85 B w.heap.size with q | q
  ·exact q
  ·rw [A111 q] at h2; cases h2
 | box m cells =>
  simp only [BRep] at h
  obtain ⟨B, o, h1, h2, _⟩ := h
  rw [ha] at h1; cases h1; exact h2
 | ints m k ep xs =>
  simp only [BRep] at h
  rcases h.1.2.2 with ⟨h1, _⟩ | ⟨B, o, h1, h2, _⟩
  ·rw [ha] at h1; cases h1
  ·rw [ha] at h1; cases h1; exact h2
 | rows m i ep xs =>
  simp only [BRep] at h
  rcases h.1.2.2 with ⟨h1, _⟩ | ⟨B, o, h1, h2, _⟩
  ·rw [ha] at h1; cases h1
  ·rw [ha] at h1; cases h1; exact h2
theorem B17 {α : Type} {l : List α} {i : Nat} {a : α} (h : getL l i = some a) : i < l.length := by
 rw [B24] at h; exact (A42.1 h).1
theorem B13 {α : Type} {l : List α} {i : Nat} {a b : α} (h : getL l i = some b) : getL (setL l i a) i = some a := by
 have := B17 h
 rw [B24, B459]; simp [this]
theorem B10 {α : Type} {l : List α} {i j : Nat} {a : α} (h : j ≠ i) : getL (setL l i a) j = getL l j := by
 rw [B24, B24, B459]; simp [Ne.symm h]
theorem B43 {α : Type} {l m : List α} {i : Nat} (h : i < l.length) : getL (l ++ m) i = getL l i := by
 rw [B24, B24, A57 h]
theorem B64 {α : Type} {l : List α} {a : α} : getL (l ++ [a]) l.length = some a := by
 rw [B24]; simp
theorem B342 {α : Type} {l : List α} {a : α} {i : Nat} (h : i ≠ l.length) : getL (l ++ [a]) i = getL l i := by
 rw [B24, B24]
 rcases A85 i l.length with h1 | h1
 ·rw [A57 h1]
 ·rw [A65 h1, A65 (by simp; omega)]
theorem Step.upd (h : HRep E w Fz ι H) (f : Fram E X w Fz ι H) (id : Nat) (b' : Blk E.T)
  (hget : getL H' id = some b') (hoth : ∀ j, j ≠ id -> getL H' j = getL H j) (hι : ∀ j, j ≠ id -> ι' j = ι j)
  (hold : ∀ b, getL H id = some b -> b.owned = true ∧ b.prot = false ∧ StepB E ι ι' id b b')
  (hos : w'.os = w.os) (htape : w'.tape = w.tape) (hout : w'.output = w.output) (hsize : w.heap.size <= w'.heap.size)
  (hmem : ∀ B, B < w.heap.size -> (∀ b A, getL H id = some b -> (ι id).a = some A -> B ≠ A.block) -> w'.heap[B]? = w.heap[B]?)
  (hloc : ∀ A', (ι' id).a = some A' -> (∃ b A, getL H id = some b ∧ (ι id).a = some A ∧ A'.block = A.block) ∨ w.heap.size <= A'.block)
  (hb' : b'.owned = true)
  (hrep : (K : Keep E w w' Fz Fz ι ι' H H') -> BRep E w' Fz ι' H' id b') : Step E X w w' Fz Fz ι ι' H H' := by
 have hfzne : ∀ B, Fz B -> ∀ b A, getL H id = some b -> (ι id).a = some A -> B ≠ A.block := by
  intro B hB b A hb hA e
  subst e
  exact h.free id b A hb (hold b hb).1 hA hB
 have hle : HLe E ι H ι' H' := by
  intro j b hb
  by_cases hj : j = id
  ·subst hj
   exact ⟨b', hget, (hold b hb).2.2⟩
  ·exact ⟨b, by rw [hoth j hj]; exact hb, StepB.of_loc b (hι j hj)⟩
 have K : Keep E w w' Fz Fz ι ι' H H' := ⟨fun _ h => h, fun B hB => hmem B (h.fz B hB) (hfzne B hB), hle⟩
 refine ⟨K, ?_, ?_, ?_, fun B ⟨u1, u2, u3⟩ => ⟨hmem B u1 fun b A hb hA e => u3 id b A hb (B15 (hold b hb).1) hA e.symm, A75 u1 hsize, u2, fun j b A hb hg hA e => ?_⟩⟩
 rotate_right
 ·by_cases hj : j = id
  ·subst hj
   rcases hloc A hA with ⟨b0, A0, h0, h1, h2⟩ | h2
   ·exact u3 j b0 A0 h0 (B15 (hold b0 h0).1) h1 (by rw [← h2]; exact e)
   ·omega
  ·rw [hoth j hj] at hb
   rw [hι j hj] at hA
   exact u3 j b A hb hg hA e
 ·intro j b hb hp
  by_cases hj : j = id
  ·subst hj
   obtain ⟨h1, h2, _⟩ := hold b hb
   rcases hp with hp | hp
   ·rw [h2] at hp; cases hp
   ·rw [B37 h1] at hp; cases hp
  ·refine ⟨by rw [hoth j hj]; exact hb, hι j hj, fun A hA => ?_⟩
   have hbg : b ≠ .gone := by rintro rfl; rcases hp with hp | hp <;> cases hp
   refine hmem _ ((h.rep j b hb).lt hbg hA) fun b0 A0 h0 h1 e => ?_
   by_cases hbo : b.owned = true
   ·exact h.apart j id b b0 A A0 hj hb h0 hbo (hold b0 h0).1 hA h1 e
   ·have hbf : b.frozen = true := B79 (by simpa using hbo) hbg
    exact h.free id b0 A0 h0 (hold b0 h0).1 h1 (e ▸ h.held j b A hb hbf hA)
 ·have hne : ∀ j b A, j ≠ id -> getL H j = some b -> b.owned = true -> (ι j).a = some A -> ∀ A', (ι' id).a = some A' -> A.block ≠ A'.block := by
   intro j b A hj hb ho hA A' hA' e
   rcases hloc A' hA' with ⟨b0, A0, h0, h1, h2⟩ | h2
   ·exact h.apart j id b b0 A A0 hj hb h0 ho (hold b0 h0).1 hA h1 (by rw [e, h2])
   ·have := (h.rep j b hb).lt (B15 ho) hA
    omega
  refine ⟨fun j b hb => ?_, fun i j b c A A' hij hi hj hbo hco hA hA' => ?_, fun i b A hi ho hA hF => ?_, fun i b A hi ho hA => ?_, fun B hB => A75 (h.fz B hB) hsize⟩
  ·by_cases hj : j = id
   ·subst hj
    rw [hget] at hb; cases hb
    exact hrep K
   ·rw [hoth j hj] at hb
    by_cases hbg : b = .gone
    ·subst hbg; trivial
    ·refine (h.rep j b hb).keep K (hι j hj) fun A hA => ?_
     refine hmem _ ((h.rep j b hb).lt hbg hA) fun b0 A0 h0 h1 e => ?_
     by_cases hbo : b.owned = true
     ·exact h.apart j id b b0 A A0 hj hb h0 hbo (hold b0 h0).1 hA h1 e
     ·have hbf : b.frozen = true := B79 (by simpa using hbo) hbg
      exact h.free id b0 A0 h0 (hold b0 h0).1 h1 (e ▸ h.held j b A hb hbf hA)
  ·by_cases hi' : i = id
   ·subst hi'
    rw [hget] at hi; cases hi
    rw [hoth j (Ne.symm hij)] at hj
    rw [hι j (Ne.symm hij)] at hA'
    exact fun e => hne j c A' (Ne.symm hij) hj hco hA' A hA e.symm
   ·rw [hoth i hi'] at hi
    rw [hι i hi'] at hA
    by_cases hj' : j = id
    ·subst hj'
     rw [hget] at hj; cases hj
     exact hne i b A hi' hi hbo hA A' hA'
    ·rw [hoth j hj'] at hj
     rw [hι j hj'] at hA'
     exact h.apart i j b c A A' hij hi hj hbo hco hA hA'
  ·by_cases hi' : i = id
   ·subst hi'
    rcases hloc A hA with ⟨b0, A0, h0, h1, h2⟩ | h2
    ·exact h.free i b0 A0 h0 (hold b0 h0).1 h1 (h2 ▸ hF)
    ·have := h.fz _ hF; omega
   ·rw [hoth i hi'] at hi
    rw [hι i hi'] at hA
    exact h.free i b A hi ho hA hF
  ·by_cases hi' : i = id
   ·subst hi'
    rw [hget] at hi; cases hi
    rw [B37 hb'] at ho; cases ho
   ·rw [hoth i hi'] at hi
    rw [hι i hi'] at hA
    exact h.held i b A hi ho hA
 ·refine ⟨by rw [hos, f.os], by rw [htape, f.tape], by rw [hout, f.output], A80 f.size hsize, fun B hB hO => ?_, fun i b A hi ho hA => ?_, f.fz⟩
  ·rw [hmem B (A75 hB f.size) fun b A hb hA e => ?_]
   ·exact f.block B hB hO
   ·subst e
    rcases f.own id b A hb (hold b hb).1 hA with h1 | h1
    ·exact hO h1
    ·omega
  ·by_cases hi' : i = id
   ·subst hi'
    rcases hloc A hA with ⟨b0, A0, h0, h1, h2⟩ | h2
    ·rw [h2]; exact f.own i b0 A0 h0 (hold b0 h0).1 h1
    ·exact .inr (A80 f.size h2)
   ·rw [hoth i hi'] at hi
    rw [hι i hi'] at hA
    exact f.own i b A hi ho hA
end
theorem B95 (k : IntKind) (n : Int) : k.has n ↔ match k with
  | .i8 => -128 <= n ∧ n <= 127
  | .i16 => -32768 <= n ∧ n <= 32767
  | .i32 => -2147483648 <= n ∧ n <= 2147483647
  | .i64 => -9223372036854775808 <= n ∧ n <= 9223372036854775807
  | .u8 => 0 <= n ∧ n <= 255
  | .u16 => 0 <= n ∧ n <= 65535
  | .u32 => 0 <= n ∧ n <= 4294967295
  | .u64 => 0 <= n ∧ n <= 18446744073709551615 := by
 cases k <;> simp [IntKind.has, IntKind.min, IntKind.max, IntKind.signed, IntKind.bits]
theorem B899 {k : IntKind} {n : Int} (h : fitsB k n = true) : k.has n := by
 rw [B95]; cases k <;> simpa [fitsB] using h
theorem B99 (k : IntKind) (n : Int) : k.has (k.wrap n) := by
 rw [B95]
 cases k <;> simp only [IntKind.wrap, IntKind.bits, IntKind.signed, A49, A64, A5, A4, Nat.reduceSub, Int.reducePow, A20, ge_iff_le]
 all_goals first | omega | (split <;> omega)
theorem B1015 {k : IntKind} {a b : Int} (h : k.has a) : k.has (a.tmod b) := by
 have h1 : (0 <= a -> 0 <= a.tmod b ∧ a.tmod b <= a) ∧ (a < 0 -> a <= a.tmod b ∧ a.tmod b <= 0) := by
  refine ⟨fun h => ⟨Int.tmod_nonneg _ h, ?_⟩, fun h => ?_⟩
  ·have := Int.natAbs_tmod a b
   have h2 := Int.tmod_nonneg b h
   have h3 : a.natAbs % b.natAbs <= a.natAbs := Nat.mod_le _ _
   omega
  ·have h0 : 0 <= (-a).tmod b := Int.tmod_nonneg _ (by omega)
   rw [Int.neg_tmod] at h0
   have := Int.natAbs_tmod a b
   have h3 : a.natAbs % b.natAbs <= a.natAbs := Nat.mod_le _ _
   omega
 rw [B95] at h ⊢
 cases k <;> simp only at h ⊢ <;> omega
theorem B971 {k : IntKind} {a : Int} (m : Nat) (h : k.has a) : k.has (a.fdiv (2 ^ m)) := by
 have hp : (0 : Int) < 2 ^ m := A101 (by decide)
 rw [A113 _ (Int.le_of_lt hp)]
 have h1 : (0 <= a -> 0 <= a / 2 ^ m ∧ a / 2 ^ m <= a) ∧ (a < 0 -> a <= a / 2 ^ m ∧ a / 2 ^ m < 0) := by
  refine ⟨fun h => ⟨Int.ediv_nonneg h (Int.le_of_lt hp), Int.ediv_le_self _ h⟩, fun h => ⟨?_, Int.ediv_neg_of_neg_of_pos h hp⟩⟩
  have : a * 2 ^ m <= a := by
   have : a * 2 ^ m <= a * 1 := Int.mul_le_mul_of_nonpos_left (by omega) (by omega)
   omega
  exact (Int.le_ediv_iff_mul_le hp).2 this
 rw [B95] at h ⊢
 cases k <;> simp only at h ⊢ <;> omega
section
variable {E : Env} {P : Program} {w : World} {Fz : Nat -> Prop} {R : Type} {r : R}
theorem B42 (s : ByteArray) : (B9 s).length = s.size := by simp [B9]
theorem B317 {ι : Nat -> Loc} {H : List (Blk E.T)} (v : Value) : PRep E w Fz ι H (B457 v) v := by
 unfold B457
 split
 ·split
  ·rename_i k n h
   simp only [PRep]; exact .int (B899 h)
  ·simp [PRep]
 ·simp only [PRep]; exact .bool
 ·split
  ·rename_i s h
   simp only [PRep]
   refine .str rfl ?_
   have h' := A86 h
   simp only [B9, A51, maxLen]
   omega
  ·simp [PRep]
 ·simp [PRep]
 ·simp [PRep]
 ·simp [PRep]
 ·split
  ·rename_i vs l h
   have : vs = #[] := by cases vs; simp_all
   subst this
   simp only [PRep]
   exact ⟨#[], rfl, by simp [PReps]⟩
  ·simp [PRep]
 ·simp [PRep]
theorem B780 {op : BinOp} {k : IntKind} {a b : Int} {K : PV E.T -> Option R} (h : intOp op k a b K = some r) (ha : k.has a) (t : TypeId) (hop : op ≠ .shl ∧ op ≠ .shr) :
  ∃ p v, K p = some r ∧ (binOp op t (.int k a) (.int k b)).run P w = .ok v w ∧ FRep E w Fz p v := by
 cases op <;> simp only [intOp] at h
 case add => exact ⟨_, _, h, by simp [binOp, Op.intArith], .int (B99 _ _)⟩
 case sub => exact ⟨_, _, h, by simp [binOp, Op.intArith], .int (B99 _ _)⟩
 case mul => exact ⟨_, _, h, by simp [binOp, Op.intArith], .int (B99 _ _)⟩
 case quo =>
  split at h
  ·cases h
  ·rename_i hb; exact ⟨_, _, h, by simp [binOp, Op.intDiv, hb], .int (B99 _ _)⟩
 case rem =>
  split at h
  ·cases h
  ·rename_i hb; exact ⟨_, _, h, by simp [binOp, Op.intDiv, hb], .int (B1015 ha)⟩
 case and => exact ⟨_, _, h, by simp [binOp, Op.intBits, iand], .int (B99 _ _)⟩
 case or => exact ⟨_, _, h, by simp [binOp, Op.intBits, ior], .int (B99 _ _)⟩
 case xor => exact ⟨_, _, h, by simp [binOp, Op.intBits, ixor], .int (B99 _ _)⟩
 case andNot => exact ⟨_, _, h, by simp [binOp, Op.intBits, iandn], .int (B99 _ _)⟩
 case shl => exact absurd rfl hop.1
 case shr => exact absurd rfl hop.2
 case eql => exact ⟨_, _, h, by simp [binOp, Op.intCmp]; rfl, .bool⟩
 case neq => exact ⟨_, _, h, by simp [binOp, Op.intCmp]; rfl, .bool⟩
 case lss => exact ⟨_, _, h, by simp [binOp, Op.intCmp], .bool⟩
 case leq => exact ⟨_, _, h, by simp [binOp, Op.intCmp], .bool⟩
 case gtr => exact ⟨_, _, h, by simp [binOp, Op.intCmp], .bool⟩
 case geq => exact ⟨_, _, h, by simp [binOp, Op.intCmp], .bool⟩
theorem B495 {op : BinOp} (hop : op = .shl ∨ op = .shr) {k k' : IntKind} {a b : Int} {K : PV E.T -> Option R} (h : intOp op k a b K = some r) (ha : k.has a) (t : TypeId) :
  ∃ p v, K p = some r ∧ (binOp op t (.int k a) (.int k' b)).run P w = .ok v w ∧ FRep E w Fz p v := by
 rcases hop with rfl | rfl <;> simp only [intOp] at h <;> split at h
 ·cases h
 ·rename_i hb; exact ⟨_, _, h, by simp [binOp, Op.shift, hb, ishl], .int (B99 _ _)⟩
 ·cases h
 ·rename_i hb; exact ⟨_, _, h, by simp [binOp, Op.shift, hb, ishr], .int (B971 _ ha)⟩
theorem B440 : ∀ {l m : List UInt8}, l.map (fun b => (b.toNat : Int)) = m.map (fun b => (b.toNat : Int)) ↔ l = m
 | [], [] => by simp
 | [], _ :: _ => by simp
 | _ :: _, [] => by simp
 | a :: l, b :: m => by
  simp only [A53, List.cons.injEq]
  rw [B440]
  constructor
  ·rintro ⟨h, rfl⟩
   exact ⟨UInt8.toNat_inj.1 (by omega), rfl⟩
  ·rintro ⟨rfl, rfl⟩; exact ⟨rfl, rfl⟩
theorem B587 {a b : ByteArray} : B9 a = B9 b ↔ a.toList = b.toList := by
 rw [ByteArray.toList_eq, ByteArray.toList_eq]; exact B440
theorem B120 (a b : ByteArray) : (a.toList == b.toList) = decide (B9 a = B9 b) := by
 rw [Bool.eq_iff_iff]; simp only [beq_iff_eq, A20, B587]
theorem B752 : ∀ (a b : List UInt8), Op.bytesLess a b = strLt (a.map (fun b => (b.toNat : Int))) (b.map (fun b => (b.toNat : Int)))
 | [], [] => rfl
 | _ :: _, [] => rfl
 | [], _ :: _ => rfl
 | a :: x, b :: y => by
  have h1 : decide (a < b) = decide ((a.toNat : Int) < b.toNat) := by
   rw [Bool.eq_iff_iff]; simp only [A20, UInt8.lt_iff_toNat_lt]; omega
  have h2 : (a == b) = decide ((a.toNat : Int) = b.toNat) := by
   rw [Bool.eq_iff_iff]; simp only [beq_iff_eq, A20]
   exact ⟨fun h => by rw [h], fun h => UInt8.toNat_inj.1 (by omega)⟩
  simp only [Op.bytesLess, A53, strLt, B752 x y, h1, h2]
theorem B308 (a b : ByteArray) : Op.bytesLess a.toList b.toList = strLt (B9 a) (B9 b) := by
 rw [ByteArray.toList_eq, ByteArray.toList_eq]; exact B752 _ _
theorem B464 (a b : ByteArray) : B9 (a ++ b) = B9 a ++ B9 b := by
 simp [B9, ByteArray.data_append]
theorem B791 {op : BinOp} {a b : ByteArray} {K : PV E.T -> Option R} (h : strOp op (B9 a) (B9 b) K = some r) (t : TypeId) :
  ∃ p v, K p = some r ∧ (binOp op t (.string a) (.string b)).run P w = .ok v w ∧ FRep E w Fz p v := by
 cases op <;> simp only [strOp] at h
 case add =>
  split at h
  ·rename_i hl
   rw [B42, B42] at hl
   refine ⟨_, _, h, by simpa [binOp] using run_string_add_sum w a b hl, ?_⟩
   exact .str (B464 a b) (by simp only [A13, B42, maxLen]; omega)
  ·cases h
 case eql => exact ⟨_, _, h, by simp only [binOp, Op.stringOp, Sem.run_pure, B120], .bool⟩
 case neq => exact ⟨_, _, h, by simp only [binOp, Op.stringOp, Sem.run_pure, B120], .bool⟩
 case lss => exact ⟨_, _, h, by simp only [binOp, Op.stringOp, Sem.run_pure, B308], .bool⟩
 case leq => exact ⟨_, _, h, by simp only [binOp, Op.stringOp, Sem.run_pure, B308, B120], .bool⟩
 case gtr => exact ⟨_, _, h, by simp only [binOp, Op.stringOp, Sem.run_pure, B308, B120], .bool⟩
 case geq => exact ⟨_, _, h, by simp only [binOp, Op.stringOp, Sem.run_pure, B308], .bool⟩
 all_goals cases h
theorem B416 (d : Nat) (t : TypeId) (ht : P.underlying t = some .bool) (a b : Bool) : (Op.equalIn (d + 1) t (.bool a) (.bool b)).run P w = .ok (a == b) w := by
 simp [Op.equalIn, run_underlying ht]
theorem B537 (d : Nat) (t e : TypeId) (ht : P.underlying t = some (.pointer e)) (a : Option Addr) : (Op.equalIn (d + 1) t (.pointer a) (.pointer none)).run P w = .ok a.isNone w := by
 cases a <;> simp [Op.equalIn, run_underlying ht]
theorem B536 (d : Nat) (t e : TypeId) (ht : P.underlying t = some (.pointer e)) (a : Option Addr) : (Op.equalIn (d + 1) t (.pointer none) (.pointer a)).run P w = .ok a.isNone w := by
 simp [Op.equalIn, run_underlying ht]
theorem B841 (t : TypeId) (ht : P.underlying t = some .bool) (a b : Bool) : (Op.equal t (.bool a) (.bool b)).run P w = .ok (a == b) w := B416 9999 t ht a b
theorem B394 (t e : TypeId) (ht : P.underlying t = some (.pointer e)) (a : Option Addr) : (Op.equal t (.pointer a) (.pointer none)).run P w = .ok a.isNone w := B537 9999 t e ht a
theorem B666 (t e : TypeId) (ht : P.underlying t = some (.pointer e)) (a : Option Addr) : (Op.equal t (.pointer none) (.pointer a)).run P w = .ok a.isNone w := B536 9999 t e ht a
theorem B164 {op : BinOp} {b : Bool} {K : PV E.T -> Option R} (h : eqOp op b K = some r) (t : TypeId) {x y : Value} (he : (Op.equal t x y).run P w = .ok b w)
  (h1 : binOp .eql t x y = (do pure (.bool (← Op.equal t x y)))) (h2 : binOp .neq t x y = (do pure (.bool (!(← Op.equal t x y))))) :
  ∃ p v, K p = some r ∧ (binOp op t x y).run P w = .ok v w ∧ FRep E w Fz p v := by
 cases op <;> simp only [eqOp] at h
 case eql => exact ⟨_, _, h, by rw [h1]; simp [he], .bool⟩
 case neq => exact ⟨_, _, h, by rw [h2]; simp [he], .bool⟩
 all_goals cases h
theorem B67 (op : BinOp) (t : TypeId) (x y : Operand) {a b : Value} (h : ∀ cs ds, ¬ (a = .agg cs ∧ b = .agg ds)) (h' : ¬ (a = .nilIface ∧ b = .nilIface)) : (eqGuard op t x y a b).run P w = .ok () w := by
 unfold eqGuard
 split
 case h_3 => rfl
 all_goals
  simp only [A14, A5, A4]
  split
  ·exact absurd ⟨rfl, rfl⟩ h'
  ·exact absurd ⟨rfl, rfl⟩ (h _ _)
  ·rfl
theorem B465 (d : Nat) (t e : TypeId) (ht : P.underlying t = some (.slice e)) (a : Option Addr) (l c : Nat) : (Op.equalIn (d + 1) t (.slice a l c) (.slice none 0 0)).run P w = .ok a.isNone w := by
 cases a <;> simp [Op.equalIn, run_underlying ht]
theorem B298 (t e : TypeId) (ht : P.underlying t = some (.slice e)) (a : Option Addr) (l c : Nat) : (Op.equal t (.slice a l c) (.slice none 0 0)).run P w = .ok a.isNone w := B465 9999 t e ht a l c
theorem B484 {ι : Nat -> Loc} {H : List (Blk E.T)} {op : BinOp} {n : Nat} {K : PV E.T -> Option R} (h : nilEq op n K = some r) (t e : TypeId) (ht : P.underlying t = some (.slice e)) {a : Option Addr} {l c : Nat} (ha : n ≠ 0 -> a.isNone = false) :
  ∃ p v, K p = some r ∧ (binOp op t (.slice a l c) (.slice none 0 0)).run P w = .ok v w ∧ PRep E w Fz ι H p v := by
 have he := B298 (P := P) (w := w) t e ht a l c
 have h1 : binOp .eql t (.slice a l c) (.slice none 0 0) = (do pure (.bool (← Op.equal t (.slice a l c) (.slice none 0 0)))) := rfl
 have h2 : binOp .neq t (.slice a l c) (.slice none 0 0) = (do pure (.bool (!(← Op.equal t (.slice a l c) (.slice none 0 0))))) := rfl
 cases op <;> simp only [nilEq] at h
 case eql =>
  split at h
  ·exact ⟨_, _, h, by rw [h1]; simp [he]; rfl, by simp only [PRep]; exact ⟨_, rfl⟩⟩
  ·rename_i hn; exact ⟨_, _, h, by rw [h1]; simp [he, ha hn]; rfl, by simp only [PRep]; exact .bool⟩
 case neq =>
  split at h
  ·exact ⟨_, _, h, by rw [h2]; simp [he]; rfl, by simp only [PRep]; exact ⟨_, rfl⟩⟩
  ·rename_i hn; exact ⟨_, _, h, by rw [h2]; simp [he, ha hn]; rfl, by simp only [PRep]; exact .bool⟩
 all_goals cases h
theorem FRep.toPR {ι : Nat -> Loc} {H : List (Blk E.T)} {p : PV E.T} {v : Value} (h : FRep E w Fz p v) : PRep E w Fz ι H p v := by
 cases h
 case int h => simp only [PRep]; exact .int h
 case bool => simp only [PRep]; exact .bool
 case str h hl => simp only [PRep]; exact .str h hl
 case ints h1 h2 h0 h3 => simp only [PRep]; exact .ints h1 h2 h0 h3
 case rows cv h1 h0 h2 h3 => simp only [PRep]; exact .rows cv h1 h0 h2 h3
theorem B689 {ι : Nat -> Loc} {H : List (Blk E.T)} {op : BinOp} {p q : PV E.T} {K : PV E.T -> Option R} {t : TypeId} (h : B330 (P.underlying t) op p q K = some r) {x y : Value}
  (hp : PRep E w Fz ι H p x) (hq : PRep E w Fz ι H q y) (ox oy : Operand) :
  ∃ s v, K s = some r ∧ (do eqGuard op t ox oy x y; binOp op t x y).run P w = .ok v w ∧ PRep E w Fz ι H s v := by
 unfold B330 at h
 split at h
 ·rename_i k a k' b
  simp only [PRep] at hp hq
  cases hp with | int ha => cases hq with | int hb =>
  have hg : ∀ o : BinOp, (eqGuard o t ox oy (.int k a) (.int k' b)).run P w = .ok () w := fun o => B67 o t ox oy (by simp) (by simp)
  split at h
  ·obtain ⟨s, v, h1, h2, h3⟩ := B495 (w := w) (P := P) (Fz := Fz) (k' := k') (.inl rfl) h ha t
   exact ⟨s, v, h1, by simp [hg, h2], h3.toPR⟩
  ·obtain ⟨s, v, h1, h2, h3⟩ := B495 (w := w) (P := P) (Fz := Fz) (k' := k') (.inr rfl) h ha t
   exact ⟨s, v, h1, by simp [hg, h2], h3.toPR⟩
  ·rename_i n1 n2
   split at h
   ·rename_i hk
    have hk' := A39 hk
    subst hk'
    obtain ⟨s, v, h1, h2, h3⟩ := B780 (w := w) (P := P) (Fz := Fz) h ha t ⟨n1, n2⟩
    exact ⟨s, v, h1, by simp [hg, h2], h3.toPR⟩
   ·cases h
 ·simp only [PRep] at hp hq
  cases hp with | str e1 l1 => cases hq with | str e2 l2 =>
  subst e1; subst e2
  obtain ⟨s, v, h1, h2, h3⟩ := B791 (w := w) (P := P) (Fz := Fz) h t
  exact ⟨s, v, h1, by simp [B67, h2], h3.toPR⟩
 ·simp only [PRep] at hp hq
  cases hp; cases hq
  rename_i a b
  split at h
  ·rename_i ht
   obtain ⟨s, v, h1, h2, h3⟩ := B164 (w := w) (P := P) (Fz := Fz) (x := .bool a) (y := .bool b) h t (by rw [B841 t ht]; congr 1) rfl rfl
   exact ⟨s, v, h1, by simp [B67, h2], h3.toPR⟩
  ·cases h
 ·simp only [PRep] at hp hq
  subst hp; subst hq
  split at h
  ·rename_i e ht
   obtain ⟨s, v, h1, h2, h3⟩ := B164 (w := w) (P := P) (Fz := Fz) (x := .pointer none) (y := .pointer none) h t (by rw [B394 t e ht]; rfl) rfl rfl
   exact ⟨s, v, h1, by simp [B67, h2], h3.toPR⟩
  ·cases h
 ·rename_i id off
  simp only [PRep] at hp hq
  obtain ⟨b, _, _, B, o, _, rfl⟩ := hp; subst hq
  split at h
  ·rename_i e ht
   obtain ⟨s, v, h1, h2, h3⟩ := B164 (w := w) (P := P) (Fz := Fz) (x := .pointer (some ⟨B, o + off, none⟩)) (y := .pointer none) h t (by rw [B394 t e ht]; rfl) rfl rfl
   exact ⟨s, v, h1, by simp [B67, h2], h3.toPR⟩
  ·cases h
 ·rename_i id off
  simp only [PRep] at hp hq
  obtain ⟨b, _, _, B, o, _, rfl⟩ := hq; subst hp
  split at h
  ·rename_i e ht
   obtain ⟨s, v, h1, h2, h3⟩ := B164 (w := w) (P := P) (Fz := Fz) (x := .pointer none) (y := .pointer (some ⟨B, o + off, none⟩)) h t (by rw [B666 t e ht]; rfl) rfl rfl
   exact ⟨s, v, h1, by simp [B67, h2], h3.toPR⟩
  ·cases h
 ·simp only [PRep] at hp hq
  subst hp; subst hq
  split at h
  ·rename_i e ht
   obtain ⟨s, v, h1, h2, h3⟩ := B164 (w := w) (P := P) (Fz := Fz) (x := .slice none 0 0) (y := .slice none 0 0) h t (by rw [B298 t e ht]; rfl) rfl rfl
   exact ⟨s, v, h1, by simp [B67, h2], h3.toPR⟩
  ·cases h
 ·simp only [PRep] at hp hq
  subst hq
  cases hp with
  | ints g1 g2 g3 g4 =>
  rename_i a cap
  split at h
  ·rename_i e ht
   obtain ⟨s, v, h1, h2, h3⟩ := B484 (w := w) (P := P) (Fz := Fz) (ι := ι) (H := H) (a := a) (l := _) (c := cap) h t e ht (fun hn => by
    obtain ⟨B, o, rfl, _⟩ := g4 (fun e => hn (by rw [e]; rfl)); rfl)
   exact ⟨s, v, h1, by simp [B67]; exact h2, h3⟩
  ·cases h
 ·simp only [PRep] at hp hq
  subst hq
  cases hp with
  | rows cv g1 g2 g3 g4 =>
  rename_i a cap
  split at h
  ·rename_i e ht
   obtain ⟨s, v, h1, h2, h3⟩ := B484 (w := w) (P := P) (Fz := Fz) (ι := ι) (H := H) (a := a) (l := _) (c := cap) h t e ht (fun hn => by
    obtain ⟨B, o, rfl, _⟩ := g3 (fun e => hn (by rw [e]; rfl)); rfl)
   exact ⟨s, v, h1, by simp [B67]; exact h2, h3⟩
  ·cases h
 ·cases h
theorem B793 {ι : Nat -> Loc} {H : List (Blk E.T)} {op : UnOp} {p : PV E.T} {K : PV E.T -> Option R} (h : unOpV op p K = some r) {x : Value} (hp : PRep E w Fz ι H p x) :
  ∃ s v, K s = some r ∧ (Op.unary op x).run P w = .ok v w ∧ FRep E w Fz s v := by
 unfold unOpV at h
 split at h
 ·simp only [PRep] at hp
  cases hp with | int ha =>
  exact ⟨_, _, h, by simp [Op.unary, Op.intArith], .int (B99 _ _)⟩
 ·simp only [PRep] at hp
  cases hp with | int ha =>
  exact ⟨_, _, h, by simp [Op.unary, Op.intBits, ixor], .int (B99 _ _)⟩
 ·simp only [PRep] at hp
  cases hp
  exact ⟨_, _, h, by simp [Op.unary], .bool⟩
 ·cases h
end
def PV.cold {T : Nat -> Type} : PV T -> Bool
 | .int _ _ => true
 | .bool _ => true
 | .str _ => true
 | .ints _ _ => true
 | .rows _ _ => true
 | .nilsl => true
 | _ => false
structure EnvOk (E : Env) : Prop where
 cold : ∀ i l x, E.inn i l = some x -> ∀ p ∈ l, p.cold = true
 sz : ∀ i x, (E.outs i x).length = E.sz i
 inn : ∀ i l x, E.inn i l = some x -> (E.outs i x).length = l.length ∧ ∀ (w : World) (Fz : Nat -> Prop) (c : Nat) (p q : PV E.T) (v : Value), l[c]? = some p -> (E.outs i x)[c]? = some q -> (FRep E w Fz p v ∨ (p = .nilsl ∧ v = .slice none 0 0)) -> FRep E w Fz q v
 flat : ∀ i x p, E.flat i = true -> p ∈ E.outs i x -> (∃ k n, p = .int k n) ∨ (∃ b, p = .bool b) ∨ (∃ s, p = .str s)
def CmpAt (P : Program) (f : Nat) : Prop := ∃ fn, P.funcs[f]? = some fn ∧ (fn.name == "runtime.NumGoroutine") = false ∧ fn.body.isNone = true ∧ Extern.findNext fn = none ∧ Extern.find fn = some Extern.BytealgCompare.compare
structure PrgOk (G : Prg) : Prop where
 env : EnvOk G.E
 int : ∀ e k, G.el e = some (.int k) -> G.P.underlying e = some (.int k) ∧ ∃ i, G.P.info? e = some i ∧ i.size = 1 ∧ 0 < i.bytes ∧ i.zero = some (.int k 0)
 row : ∀ e n, G.el e = some (.row n) -> ∃ i z, G.P.info? e = some i ∧ i.size = G.E.sz n ∧ 0 < i.bytes ∧ i.zero = some z ∧ z.cells.size = G.E.sz n ∧ 0 < G.E.sz n ∧ (G.E.sz n = 1 -> True)
 names : ∀ (f : Nat) (fn : Func), G.P.funcs[f]? = some fn -> fn.body.isSome = true -> (fn.name == "runtime.NumGoroutine") = false
 cmp : ∀ f, G.cmp f = true -> CmpAt G.P f
theorem FRep.one {E : Env} {w : World} {Fz : Nat -> Prop} {p : PV E.T} {v : Value} (h : FRep E w Fz p v) : p.one = true := by cases h <;> rfl
theorem B161 {T : Nat -> Type} : ∀ {l : List (PV T)}, B78 l = true ↔ ∀ p ∈ l, p.one = true
 | [] => by simp [B78]
 | p :: l => by
  simp only [B78]
  split
  ·rename_i h; rw [B161]; simp [h]
  ·rename_i h; simp [h]
section
variable {G : Prg} {w : World} {Fz : Nat -> Prop} {ι : Nat -> Loc} {H : List (Blk G.E.T)} {R : Type} {r : R}
theorem FRep.toP {p : PV G.E.T} {v : Value} (h : FRep G.E w Fz p v) : PRep G.E w Fz ι H p v := by
 cases h
 case int h => simp only [PRep]; exact .int h
 case bool => simp only [PRep]; exact .bool
 case str h hl => simp only [PRep]; exact .str h hl
 case ints h1 h2 h0 h3 => simp only [PRep]; exact .ints h1 h2 h0 h3
 case rows cv h1 h0 h2 h3 => simp only [PRep]; exact .rows cv h1 h0 h2 h3
theorem B229 {t : TypeId} {n : Nat} (h : B25 G t = some n) : ∃ i, G.P.info? t = some i ∧ i.size = n := by
 unfold B25 at h
 split at h
 ·rename_i i hi; exact ⟨i, hi, by simpa using h⟩
 ·cases h
theorem B159 {t : TypeId} {n : Nat} (h : B245 G t = some n) : ∃ i, G.P.info? t = some i ∧ i.bytes = n := by
 unfold B245 at h
 split at h
 ·rename_i i hi; exact ⟨i, hi, by simpa using h⟩
 ·cases h
theorem B70 {t : TypeId} {n : Nat} (h : B25 G t = some n) : (sizeOf t).run G.P w = .ok n w := by
 obtain ⟨i, hi, rfl⟩ := B229 h
 simp [sizeOf, typeInfo, hi]
theorem B244 {t : TypeId} {b : Bool} (h : B282 G t = some b) : (isAgg t).run G.P w = .ok b w := by
 unfold B282 at h
 cases hu : G.P.underlying t with
 | none => simp [hu] at h
 | some d => cases d <;> simp [hu] at h <;> subst h <;> simp [isAgg, run_underlying hu]
def B326 (E : Env) (w : World) (Fz : Nat -> Prop) (ι : Nat -> Loc) (H : List (Blk E.T)) (B o : Nat) (l : List (PV E.T)) : Prop :=
 ∀ c p, l[c]? = some p -> p.one = true ∧ ∃ u, w.cell? ⟨B, o + c, none⟩ = some u ∧ PRep E w Fz ι H p u
theorem B326.vals {E : Env} {w : World} {Fz : Nat -> Prop} {ι : Nat -> Loc} {H : List (Blk E.T)} {B : Nat} : ∀ {o : Nat} {l : List (PV E.T)}, B326 E w Fz ι H B o l ->
  ∃ cs : List Value, cs.length = l.length ∧ (∀ (j : Nat) (v : Value), cs[j]? = some v -> w.cell? ⟨B, o + j, none⟩ = some v) ∧ PReps E w Fz ι H l cs
 | o, [], _ => ⟨[], rfl, by simp, by simp [PReps]⟩
 | o, p :: l, h => by
  obtain ⟨cs, h1, h2, h3⟩ := B326.vals (o := o + 1) (l := l) (fun c q hq => by
   have := h (c + 1) q (by simpa using hq)
   rwa [show o + (c + 1) = o + 1 + c by omega] at this)
  obtain ⟨_, u, hu, hp⟩ := h 0 p rfl
  refine ⟨u :: cs, by simp [h1], fun j v hj => ?_, by simp only [PReps]; exact ⟨hp, h3⟩⟩
  cases j with
  | zero => simp at hj; subst hj; exact hu
  | succ j => simp at hj; rw [show o + (j + 1) = o + 1 + j by omega]; exact h2 j v hj
theorem B318 {t : TypeId} {l : List (PV G.E.T)} {p : PV G.E.T} (h : packT G t l = some p) {B o : Nat} (hc : B326 G.E w Fz ι H B o l) :
  ∃ v, (loadVar t ⟨B, o, none⟩).run G.P w = .ok v w ∧ PRep G.E w Fz ι H p v := by
 unfold packT at h
 split at h
 ·rename_i ha
  split at h
  ·rename_i n hn
   split at h
   ·rename_i q hq
    cases h
    obtain ⟨h1, rfl⟩ := B520 n l q hq
    obtain ⟨cs, g1, g2, g3⟩ := B326.vals (o := o) (l := l.take n) (fun c p hp => hc c p (by
     rw [A66] at hp; split at hp
     ·exact hp
     ·cases hp))
    have hl : cs.length = n := by rw [g1, A24]; omega
    have hrun := run_loadCells_list (P := G.P) w ⟨B, o, none⟩ cs (fun j v hj => by rw [Addr.add_lit]; exact g2 j v hj)
    refine ⟨.agg cs.toArray, ?_, ?_⟩
    ·rw [hl] at hrun
     simp [loadVar, B244 ha, B70 hn, hrun]
    ·simp only [PRep]
     refine ⟨_, rfl, fun p hp => ?_, by simpa using g3⟩
     obtain ⟨c, hc'⟩ := A76 hp
     rw [A66] at hc'
     split at hc'
     ·exact (hc c p hc').1
     ·cases hc'
   ·cases h
  ·cases h
 ·rename_i ha
  split at h
  ·rename_i v l'
   cases h
   obtain ⟨_, u, hu, hp⟩ := hc 0 p rfl
   simp only [A36] at hu
   exact ⟨u, by simp [loadVar, B244 ha, hu], hp⟩
  ·cases h
 ·cases h
theorem B1096 {T : Nat -> Type} {l : List (Blk T)} {id : Nat} {b : Blk T} (h : getL l id = some b) : id < l.length := B17 h
theorem B7 {a b : Nat} (h : Nat.beq a b = true) : a = b := A95 h
theorem rd_mem {xs : List Int} {i : Int} (h0 : 0 <= i) (h1 : i.toNat < xs.length) : xs[i.toNat]? = some (rd xs i) := by
 unfold rd
 rw [A96, A18 h1]; rfl
theorem RowAt.addr {l : Loc} {len sz : Nat} (h : RowAt w l len sz) (hl : 0 < len) : ∃ B o, l.a = some ⟨B, o, none⟩ := by
 rcases h.2.2 with ⟨_, h1⟩ | ⟨B, o, h1, _⟩
 ·have := h.1; omega
 ·exact ⟨B, o, h1⟩
theorem B202 {T : Nat -> Type} : ∀ {n : Nat} {l : List (PV T)} {k : IntKind} {xs : List Int}, intsK n l = some (k, xs) -> xs.length = n ∧ ∀ (j : Nat) (x : Int), xs[j]? = some x -> l[j]? = some (PV.int k x)
 | 0, l, k, xs, h => by simp [intsK] at h
 | n + 1, [], k, xs, h => by simp [intsK] at h
 | n + 1, p :: l, k, xs, h => by
  have hp : ∃ k0 x0, p = .int k0 x0 := by
   cases p <;> first | exact ⟨_, _, rfl⟩ | (simp [intsK] at h)
  obtain ⟨k0, x0, rfl⟩ := hp
  cases n with
  | zero =>
   simp only [intsK, A16, A33] at h
   obtain ⟨rfl, rfl⟩ := h
   refine ⟨rfl, fun j x hj => ?_⟩
   cases j with
   | zero => simp at hj ⊢; exact hj
   | succ j => simp at hj
  | succ n =>
   rw [intsK] at h
   split at h
   ·rename_i k' ys he
    split at h
    ·rename_i hk
     simp only [A16, A33] at h
     obtain ⟨rfl, rfl⟩ := h
     have hk := A39 hk
     subst hk
     obtain ⟨h1, h2⟩ := B202 he
     refine ⟨by rw [A21, h1], fun j x hj => ?_⟩
     cases j with
     | zero => simp at hj ⊢; exact hj
     | succ j => simpa using h2 j x (by simpa using hj)
    ·cases h
   ·cases h
theorem B850 {t : TypeId} {id off n : Nat} {i : Int} {K : PV G.E.T -> Option R} (h0 : 0 <= i ∧ i.toNat < n) (h : loadV G H t (.aptr id off n i) K = some r) : loadV G H t (.ptr id (off + i.toNat)) K = some r := by
 simp only [loadV] at h ⊢
 split at h
 ·rename_i m cells hb
  split at h
  ·rename_i l hd
   obtain ⟨h1, rfl⟩ := B145 off cells l hd
   split at h
   ·rename_i k xs hk ha
    obtain ⟨g1, g2⟩ := B202 hk
    have hx : xs[i.toNat]? = some (rd xs i) := by
     unfold rd
     rw [A96, A18 (by omega)]; rfl
    have hc := g2 _ _ hx
    rw [A54] at hc
    have hlt : off + i.toNat < cells.length := (A42.1 hc).1
    have hd2 : dropL (off + i.toNat) cells = some (cells.drop (off + i.toNat)) := B511 (by omega)
    rw [hd2]
    simp only
    rw [A68 hlt, (A42.1 hc).2]
    simp only [packT, ha]
    exact h
   ·cases h
  ·cases h
 ·cases h
theorem B423 (ok : EnvOk G.E) {t : TypeId} {a : PV G.E.T} (hna : ∀ id off n i, a ≠ .aptr id off n i) {K : PV G.E.T -> Option R} (h : loadV G H t a K = some r) (hH : HRep G.E w Fz ι H) {x : Value} (hx : PRep G.E w Fz ι H a x) :
  ∃ p v, K p = some r ∧ (Instr.loadAt t x).run G.P w = .ok v w ∧ PRep G.E w Fz ι H p v := by
 unfold loadV at h
 split at h
 ·-- ptr
  rename_i id off
  simp only [PRep] at hx
  obtain ⟨b, hb, hi, B, o, hl, rfl⟩ := hx
  split at h
  ·rename_i m cells hb'
   rw [hb] at hb'; cases hb'
   have hr := hH.rep id _ hb
   simp only [BRep] at hr
   obtain ⟨B', o', ha, hB, hc⟩ := hr
   rw [hl] at ha; cases ha
   split at h
   ·rename_i l hd
    obtain ⟨h1, rfl⟩ := B145 off cells l hd
    split at h
    ·rename_i v hv
     obtain ⟨u, g1, g2⟩ := B318 (w := w) (Fz := Fz) (ι := ι) (H := H) hv (B := B) (o := o + off) (fun c p hp => by
      rw [A54] at hp
      obtain ⟨k1, k2, u, k3, k4⟩ := hc _ p hp
      exact ⟨k1, u, by rw [show o + off + c = o + (off + c) by omega]; exact k3, k4⟩)
     exact ⟨v, u, h, by simp [Instr.loadAt, Instr.sureAddr, g1], g2⟩
    ·cases h
   ·cases h
  ·cases h
 ·-- fptr
  simp only [PRep] at hx
  obtain ⟨B, o, rfl, hf, hc⟩ := hx
  split at h
  ·rename_i v hv
   obtain ⟨u, g1, g2⟩ := B318 (w := w) (Fz := Fz) (ι := ι) (H := H) hv (B := B) (o := o) (fun c p hp => by
    obtain ⟨u, k1, k2⟩ := hc c p hp
    exact ⟨k2.one, u, k1, k2.toP⟩)
   exact ⟨v, u, h, by simp [Instr.loadAt, Instr.sureAddr, g1], g2⟩
  ·cases h
 ·-- eptr
  rename_i id ep i fld
  simp only [PRep] at hx
  obtain ⟨b, hb, hptr, hi⟩ := hx
  split at h
  ·rename_i m k ep' xs hb'
   rw [hb] at hb'; cases hb'
   replace hi := (hi ep' xs.length 1 rfl).2
   split at h
   ·rename_i he ha
    obtain ⟨i0, i1, B, o, hl, rfl⟩ := hi (B7 he)
    have hr := hH.rep id _ hb
    simp only [BRep] at hr
    have hm := rd_mem i0 i1
    have hc := hr.2.2 B o hl _ _ hm
    refine ⟨_, .int k (rd xs i), h, ?_, ?_⟩
    ·simp [Instr.loadAt, Instr.sureAddr, loadVar, B244 ha, hc]
    ·simp only [PRep]; exact .int (hr.2.1 _ (A41 hm))
   ·cases h
  ·rename_i m j ep' xs hb'
   rw [hb] at hb'; cases hb'
   replace hi := (hi ep' xs.length (G.E.sz j) rfl).2
   split at h
   ·rename_i he
    obtain ⟨i0, i1, B, o, hl, rfl⟩ := hi (B7 he)
    have hr := hH.rep id _ hb
    simp only [BRep] at hr
    obtain ⟨x, hx, h⟩ := A34.1 h
    split at h
    ·rename_i l hd
     obtain ⟨h1, rfl⟩ := B145 fld _ l hd
     split at h
     ·rename_i v hv
      obtain ⟨u, g1, g2⟩ := B318 (w := w) (Fz := Fz) (ι := ι) (H := H) hv (B := B) (o := o + i.toNat * G.E.sz j + fld) (fun c p hp => by
       rw [A54] at hp
       obtain ⟨u, k1, k2⟩ := hr.2 B o hl _ x _ p hx hp
       exact ⟨k2.one, u, by rw [show o + i.toNat * G.E.sz j + fld + c = o + i.toNat * G.E.sz j + (fld + c) by omega]; exact k1, k2.toP⟩)
      exact ⟨v, u, h, by simp [Instr.loadAt, Instr.sureAddr, g1], g2⟩
     ·cases h
    ·cases h
   ·cases h
  ·cases h
 ·exact absurd rfl (hna _ _ _ _)
 ·cases h
theorem B483 (ok : EnvOk G.E) {t : TypeId} {a : PV G.E.T} {K : PV G.E.T -> Option R} (h : loadV G H t a K = some r) (hH : HRep G.E w Fz ι H) {x : Value} (hx : PRep G.E w Fz ι H a x) :
  ∃ p v, K p = some r ∧ (Instr.loadAt t x).run G.P w = .ok v w ∧ PRep G.E w Fz ι H p v := by
 cases a with
 | aptr id off n i =>
  simp only [PRep] at hx
  obtain ⟨h0, hx⟩ := hx
  exact B423 ok (by intros; simp) (B850 h0 h) hH (a := .ptr id (off + i.toNat)) (by simp only [PRep]; exact hx)
 | _ => exact B423 ok (by intros; simp) h hH hx
theorem B85 (B : Nat) : ∀ (vs : List Value) (o : Nat) (w : World), (w.setCells B o vs).os = w.os ∧ (w.setCells B o vs).tape = w.tape ∧ (w.setCells B o vs).output = w.output ∧
  (w.setCells B o vs).heap.size = w.heap.size ∧ ∀ C, C ≠ B -> (w.setCells B o vs).heap[C]? = w.heap[C]?
 | [], _, w => ⟨rfl, rfl, rfl, rfl, fun _ _ => rfl⟩
 | v :: vs, o, w => by
  obtain ⟨h1, h2, h3, h4, h5⟩ := B85 B vs (o + 1) (w.setCell ⟨B, o, none⟩ v)
  refine ⟨h1, h2, h3, by rw [World.setCells, h4]; simp, fun C hC => ?_⟩
  rw [World.setCells, h5 C hC]
  simp only [World.setCell, Array.getElem?_modify]
  rw [A7 (Ne.symm hC)]
theorem B233 {p : PV G.E.T} {v : Value} (h : PRep G.E w Fz ι H p v) (h1 : B78 (B21 p) = true) : PReps G.E w Fz ι H (B21 p) v.cells.toList := by
 by_cases hp : p.one = true
 ·have hc := B397 (h.cell hp)
  rw [hc]
  have : B21 p = [p] := by cases p <;> first | rfl | simp [PV.one] at hp
  rw [this]
  simp only [PReps]
  exact ⟨h, trivial⟩
 ·cases p <;> simp only [PV.one, not_true_eq_false] at hp
  case agg l =>
   simp only [PRep] at h
   obtain ⟨cs, rfl, _, h⟩ := h
   exact h
  case tup l => simp [B21, B78, PV.one] at h1
  case any => simp [B21, B78, PV.one] at h1
  case boold => simp [B21, B78, PV.one] at h1
  case aptr => simp [B21, B78, PV.one] at h1
theorem StepB.same_info {E : Env} {ι : Nat -> Loc} {id : Nat} {b b' : Blk E.T} (h : b'.info E = b.info E) (hg : b ≠ .gone) : StepB E ι ι id b b' :=
 ⟨fun hb => ⟨by rw [h]; exact hb, rfl⟩, fun ep len sz hb => .inr ⟨ep, len, sz, by rw [h]; exact hb, A11 _, fun _ => ⟨rfl, rfl, rfl⟩⟩, fun e => absurd e hg⟩
theorem Step.write {X : Ctx} (hH : HRep G.E w Fz ι H) (hF : Fram G.E X w Fz ι H) {id : Nat} {b b' : Blk G.E.T} (hb : getL H id = some b) (hown : b.owned = true) (hprot : b.prot = false)
  (hinfo : b'.info G.E = b.info G.E) (hb' : b'.owned = true) {B : Nat} {o : Nat} (ha : (ι id).a = some ⟨B, o, none⟩) (f : Nat) (vs : List Value)
  (hrep : Keep G.E w (w.setCells B f vs) Fz Fz ι ι H (setL H id b') -> BRep G.E (w.setCells B f vs) Fz ι (setL H id b') id b') :
  Step G.E X w (w.setCells B f vs) Fz Fz ι ι H (setL H id b') := by
 obtain ⟨h1, h2, h3, h4, h5⟩ := B85 B vs f w
 refine Step.upd hH hF id b' (B13 hb) (fun j hj => B10 hj) (fun _ _ => rfl) (fun c hc => ?_) h1 h2 h3 (Nat.le_of_eq h4.symm) (fun C hC hne => h5 C (hne b ⟨B, o, none⟩ hb ha)) (fun A' hA' => .inl ⟨b, A', hb, hA', rfl⟩) hb' hrep
 rw [hb] at hc; cases hc
 exact ⟨hown, hprot, StepB.same_info hinfo (B15 hown)⟩
theorem B290 {t : TypeId} {n : Nat} (hn : B25 G t = some n) {v : Value} (hl : v.cells.size = n) (h1 : ∀ u ∈ v.cells.toList, u.oneCell' = true) {B o : Nat}
  (hc : ∀ j, j < n -> (∃ u, w.cell? ⟨B, o + j, none⟩ = some u) ∧ w.frozen? ⟨B, o + j, none⟩ = false) :
  (storeVar t ⟨B, o, none⟩ v).run G.P w = .ok () (w.setCells B o v.cells.toList) := by
 have hst := run_storeCells_cells (P := G.P) B o v.cells.toList 0 w (fun j hj => by
   obtain ⟨⟨u, hu⟩, _⟩ := hc j (by simp at hj; omega)
   simp [hu]) (fun j hj => by
   obtain ⟨_, hu⟩ := hc j (by simp at hj; omega)
   simpa using hu) h1
 simp only [A36] at hst
 simp [storeVar, B70 hn, hl, hst]
theorem PReps.ones {E : Env} {w : World} {Fz : Nat -> Prop} {ι : Nat -> Loc} {H : List (Blk E.T)} {ps : List (PV E.T)} {vs : List Value} (h : PReps E w Fz ι H ps vs) (h1 : ∀ p ∈ ps, p.one = true) : ∀ u ∈ vs, u.oneCell' = true := by
 intro u hu
 obtain ⟨i, hi⟩ := A76 hu
 have hlt : i < ps.length := by rw [h.length]; exact (A42.1 hi).1
 obtain ⟨v, hv, hp⟩ := h.get (A18 hlt)
 rw [hi] at hv; cases hv
 exact hp.cell (h1 _ (A92 hlt))
theorem B134 {B o : Nat} {vs : List Value} (hc : ∀ j, j < vs.length -> ∃ u, w.cell? ⟨B, o + j, none⟩ = some u) (c : Nat) :
  (w.setCells B o vs).cell? ⟨B, c, none⟩ = if o <= c ∧ c < o + vs.length then vs[c - o]? else w.cell? ⟨B, c, none⟩ := by
 split
 ·rename_i h
  have hj : c - o < vs.length := by omega
  have := World.cell?_setCells_in B vs o w (fun j hj => by obtain ⟨u, hu⟩ := hc j hj; simp [hu]) (c - o) hj
  rw [show o + (c - o) = c by omega] at this
  rw [this, A18 hj]
 ·rename_i h
  exact World.cell?_setCells_out B vs o w _ (fun _ _ => by simp only; omega)
end
section
variable {G : Prg} {w : World} {Fz : Nat -> Prop} {ι : Nat -> Loc} {H : List (Blk G.E.T)} {R : Type} {r : R} {X : Ctx}
def Blk.freeze {T : Nat -> Type} : Blk T -> Blk T
 | .ints _ k ep xs => .ints .frozen k ep xs
 | .rows _ i ep xs => .rows .frozen i ep xs
 | b => b
def B269 (Fz : Nat -> Prop) (l : Loc) (B : Nat) : Prop := Fz B ∨ ∃ A, l.a = some A ∧ B = A.block
theorem B482 {E : Env} (b : Blk E.T) : b.freeze.info E = b.info E := by cases b <;> rfl
theorem BRep.freeze {E : Env} {w : World} {Fz : Nat -> Prop} {ι : Nat -> Loc} {H : List (Blk E.T)} {id : Nat} {b : Blk E.T} (h : BRep E w Fz ι H id b) : BRep E w Fz ι H id b.freeze := by
 cases b <;> exact h
theorem Step.freeze (hH : HRep G.E w Fz ι H) (hF : Fram G.E X w Fz ι H) {id : Nat} {b : Blk G.E.T} (hb : getL H id = some b) (hown : b.owned = true) (hprot : b.prot = false) (hfr : b.freeze.frozen = true) :
  Step G.E X w w Fz (B269 Fz (ι id)) ι ι H (setL H id b.freeze) := by
 have hnf : b.freeze.owned = false := by cases b <;> simp_all [Blk.freeze, Blk.frozen, Blk.owned]
 have hle : HLe G.E ι H ι (setL H id b.freeze) := by
  intro j c hc
  by_cases hj : j = id
  ·subst hj
   rw [hb] at hc; cases hc
   exact ⟨_, B13 hb, StepB.same_info (B482 _) (B15 hown)⟩
  ·exact ⟨c, by rw [B10 hj]; exact hc, .refl c⟩
 have K : Keep G.E w w Fz (B269 Fz (ι id)) ι ι H (setL H id b.freeze) := ⟨fun B h => .inl h, fun _ _ => rfl, hle⟩
 refine ⟨K, ?_, ⟨fun j c hc => ?_, fun i j c d A A' hij hi hj hc hd hA hA' => ?_, fun i c A hi ho hA hB => ?_, fun i c A hi ho hA => ?_, fun B hB => ?_⟩, ⟨hF.os, hF.tape, hF.output, hF.size, hF.block, fun i c A hi ho hA => ?_, fun B hB => ?_⟩,
  fun B ⟨u1, u2, u3⟩ => ⟨rfl, u1, fun hB => ?_, fun j c A hc hg hA e => ?_⟩⟩
 rotate_right 2
 ·rcases hB with hB | ⟨A, hA, rfl⟩
  ·exact u2 hB
  ·exact u3 id b A hb (B15 hown) hA rfl
 ·by_cases hj : j = id
  ·subst hj
   exact u3 j b A hb (B15 hown) hA e
  ·rw [B10 hj] at hc
   exact u3 j c A hc hg hA e
 ·intro j c hc hp
  by_cases hj : j = id
  ·subst hj
   rw [hb] at hc; cases hc
   rcases hp with hp | hp
   ·rw [hprot] at hp; cases hp
   ·rw [B37 hown] at hp; cases hp
  ·exact ⟨by rw [B10 hj]; exact hc, rfl, fun _ _ => rfl⟩
 ·by_cases hj : j = id
  ·subst hj
   rw [B13 hb] at hc; cases hc
   exact ((hH.rep j b hb).keep K rfl (fun _ _ => rfl)).freeze
  ·rw [B10 hj] at hc
   exact (hH.rep j c hc).keep K rfl (fun _ _ => rfl)
 ·by_cases hi' : i = id
  ·subst hi'
   rw [B13 hb] at hi; cases hi
   rw [hnf] at hc; cases hc
  ·by_cases hj' : j = id
   ·subst hj'
    rw [B13 hb] at hj; cases hj
    rw [hnf] at hd; cases hd
   ·rw [B10 hi'] at hi
    rw [B10 hj'] at hj
    exact hH.apart i j c d A A' hij hi hj hc hd hA hA'
 ·by_cases hi' : i = id
  ·subst hi'
   rw [B13 hb] at hi; cases hi
   rw [hnf] at ho; cases ho
  ·rw [B10 hi'] at hi
   rcases hB with hB | ⟨A', hA', e⟩
   ·exact hH.free i c A hi ho hA hB
   ·exact hH.apart i id c b A A' hi' hi hb ho hown hA hA' e
 ·by_cases hi' : i = id
  ·subst hi'
   exact .inr ⟨A, hA, rfl⟩
  ·rw [B10 hi'] at hi
   exact .inl (hH.held i c A hi ho hA)
 ·rcases hB with hB | ⟨A', hA', rfl⟩
  ·exact hH.fz B hB
  ·exact (hH.rep id b hb).lt (B15 hown) hA'
 ·by_cases hi' : i = id
  ·subst hi'
   rw [B13 hb] at hi; cases hi
   rw [hnf] at ho; cases ho
  ·rw [B10 hi'] at hi
   exact hF.own i c A hi ho hA
 ·rcases hB with hB | ⟨A', hA', rfl⟩
  ·exact hF.fz B hB
  ·exact .inr (hF.own id b A' hb hown hA')
theorem Step.goneW (hH : HRep G.E w Fz ι H) (hF : Fram G.E X w Fz ι H) {id : Nat} {b : Blk G.E.T} (hb : getL H id = some b) (hown : b.owned = true) (hprot : b.prot = false)
  {w' : World} (hos : w'.os = w.os) (htape : w'.tape = w.tape) (hout : w'.output = w.output) (hsize : w'.heap.size = w.heap.size)
  (hmem : ∀ B, (∀ A, (ι id).a = some A -> B ≠ A.block) -> w'.heap[B]? = w.heap[B]?) :
  Step G.E X w w' Fz (B269 Fz (ι id)) ι ι H (setL H id .gone) := by
 have hle : HLe G.E ι H ι (setL H id .gone) := by
  intro j c hc
  by_cases hj : j = id
  ·subst hj
   exact ⟨_, B13 hb, ⟨fun _ => ⟨rfl, rfl⟩, fun _ _ _ _ => .inl rfl, fun _ => rfl⟩⟩
  ·exact ⟨c, by rw [B10 hj]; exact hc, .refl c⟩
 have hfz : ∀ B, Fz B -> w'.heap[B]? = w.heap[B]? := fun B hB => hmem B fun A hA e => hH.free id b A hb hown hA (e ▸ hB)
 have hoth : ∀ j c A, j ≠ id -> getL H j = some c -> c ≠ .gone -> (ι j).a = some A -> w'.heap[A.block]? = w.heap[A.block]? := by
  intro j c A hj hc hg hA
  by_cases hco : c.owned = true
  ·exact hmem _ fun A' hA' => hH.apart j id c b A A' hj hc hb hco hown hA hA'
  ·exact hfz _ (hH.held j c A hc (B79 (by simpa using hco) hg) hA)
 have K : Keep G.E w w' Fz (B269 Fz (ι id)) ι ι H (setL H id .gone) := ⟨fun B h => .inl h, hfz, hle⟩
 refine ⟨K, ?_, ⟨fun j c hc => ?_, fun i j c d A A' hij hi hj hc hd hA hA' => ?_, fun i c A hi ho hA hB => ?_, fun i c A hi ho hA => ?_, fun B hB => ?_⟩, ⟨hos.trans hF.os, htape.trans hF.tape, hout.trans hF.output, by rw [hsize]; exact hF.size, fun B hB hO => ?_, fun i c A hi ho hA => ?_, fun B hB => ?_⟩,
  fun B ⟨u1, u2, u3⟩ => ⟨hmem B fun A hA e => u3 id b A hb (B15 hown) hA e.symm, by rw [hsize]; exact u1, fun hB => ?_, fun j c A hc hg hA e => ?_⟩⟩
 rotate_right 2
 ·rcases hB with hB | ⟨A, hA, rfl⟩
  ·exact u2 hB
  ·exact u3 id b A hb (B15 hown) hA rfl
 ·by_cases hj : j = id
  ·subst hj
   rw [B13 hb] at hc; cases hc
   exact hg rfl
  ·rw [B10 hj] at hc
   exact u3 j c A hc hg hA e
 ·intro j c hc hp
  by_cases hj : j = id
  ·subst hj
   rw [hb] at hc; cases hc
   rcases hp with hp | hp
   ·rw [hprot] at hp; cases hp
   ·rw [B37 hown] at hp; cases hp
  ·refine ⟨by rw [B10 hj]; exact hc, rfl, fun A hA => hoth j c A hj hc ?_ hA⟩
   rintro rfl; rcases hp with hp | hp <;> cases hp
 ·by_cases hj : j = id
  ·subst hj
   rw [B13 hb] at hc; cases hc
   trivial
  ·rw [B10 hj] at hc
   by_cases hg : c = .gone
   ·subst hg; trivial
   ·exact (hH.rep j c hc).keep K rfl fun A hA => hoth j c A hj hc hg hA
 ·by_cases hi' : i = id
  ·subst hi'
   rw [B13 hb] at hi; cases hi
   cases hc
  ·by_cases hj' : j = id
   ·subst hj'
    rw [B13 hb] at hj; cases hj
    cases hd
   ·rw [B10 hi'] at hi
    rw [B10 hj'] at hj
    exact hH.apart i j c d A A' hij hi hj hc hd hA hA'
 ·by_cases hi' : i = id
  ·subst hi'
   rw [B13 hb] at hi; cases hi
   cases ho
  ·rw [B10 hi'] at hi
   rcases hB with hB | ⟨A', hA', e⟩
   ·exact hH.free i c A hi ho hA hB
   ·exact hH.apart i id c b A A' hi' hi hb ho hown hA hA' e
 ·by_cases hi' : i = id
  ·subst hi'
   exact .inr ⟨A, hA, rfl⟩
  ·rw [B10 hi'] at hi
   exact .inl (hH.held i c A hi ho hA)
 ·rw [hsize]
  rcases hB with hB | ⟨A', hA', rfl⟩
  ·exact hH.fz B hB
  ·exact (hH.rep id b hb).lt (B15 hown) hA'
 ·rw [hmem B fun A hA e => ?_]
  ·exact hF.block B hB hO
  ·subst e
   rcases hF.own id b A hb hown hA with h1 | h1
   ·exact hO h1
   ·omega
 ·by_cases hi' : i = id
  ·subst hi'
   rw [B13 hb] at hi; cases hi
   cases ho
  ·rw [B10 hi'] at hi
   exact hF.own i c A hi ho hA
 ·rcases hB with hB | ⟨A', hA', rfl⟩
  ·exact hF.fz B hB
  ·exact .inr (hF.own id b A' hb hown hA')
theorem FRep.of_ints {E : Env} {k : IntKind} {xs : List Int} {l : Loc} {a : Option Addr} {off len cap : Nat} (hr : RowAt w l xs.length 1) (hk : ∀ x ∈ xs, k.has x)
  (hc : ∀ B o, l.a = some ⟨B, o, none⟩ -> ∀ j x, xs[j]? = some x -> w.cell? ⟨B, o + j, none⟩ = some (.int k x)) (hlen : off + len <= xs.length) (hcap : len <= cap)
  (ha : 0 < len -> ∃ B o, l.a = some ⟨B, o, none⟩ ∧ a = some ⟨B, o + off * 1, none⟩) (hf : ∀ A, l.a = some A -> Fz A.block) :
  FRep E w Fz (.ints k ((xs.drop off).take len)) (.slice a len cap) := by
 have hl : ((xs.drop off).take len).length = len := by simp; omega
 have h := FRep.ints (E := E) (w := w) (Fz := Fz) (k := k) (xs := (xs.drop off).take len) (a := a) (cap := cap)
  (fun x hx => hk x (A97 (A81 hx))) (by have := hr.2.1; omega) (by omega) (fun hne => by
   have hpos : 0 < len := by
    rcases A124 len with h0 | h0
    ·subst h0; simp at hne
    ·exact h0
   obtain ⟨B, o, h1, h2⟩ := ha hpos
   refine ⟨B, o + off * 1, h2, hf _ h1, fun j x hj => ?_⟩
   rw [A66] at hj
   split at hj
   ·rw [A54] at hj
    have := hc B o h1 _ x hj
    rwa [show o + off * 1 + j = o + (off + j) by omega]
   ·cases hj)
 rw [hl] at h
 exact h
theorem FRep.of_rows {i : Nat} {xs : List (G.E.T i)} {l : Loc} {a : Option Addr} {off len cap : Nat} (hr : RowAt w l xs.length (G.E.sz i))
  (hc : ∀ B o, l.a = some ⟨B, o, none⟩ -> ∀ j x c p, xs[j]? = some x -> (G.E.outs i x)[c]? = some p -> ∃ u, w.cell? ⟨B, o + j * G.E.sz i + c, none⟩ = some u ∧ FRep G.E w Fz p u) (hlen : off + len <= xs.length) (hcap : len <= cap)
  (ha : 0 < len -> ∃ B o, l.a = some ⟨B, o, none⟩ ∧ a = some ⟨B, o + off * G.E.sz i, none⟩) (hf : ∀ A, l.a = some A -> Fz A.block) :
  FRep G.E w Fz (.rows i ((xs.drop off).take len)) (.slice a len cap) := by
 have hl : ((xs.drop off).take len).length = len := by simp; omega
 have hget : ∀ j x, ((xs.drop off).take len)[j]? = some x -> xs[off + j]? = some x := by
  intro j x hj
  rw [A66] at hj
  split at hj
  ·rwa [A54] at hj
  ·cases hj
 rcases A124 len with h0 | hpos
 ·subst h0
  have h := FRep.rows (E := G.E) (w := w) (Fz := Fz) (i := i) (xs := (xs.drop off).take 0) (a := a) (cap := cap) (fun _ _ => undef) (by simp) (by simp) (by simp) (fun j x c p hj => by simp at hj)
  simpa using h
 ·obtain ⟨B, o, h1, h2⟩ := ha hpos
  have h := FRep.rows (E := G.E) (w := w) (Fz := Fz) (i := i) (xs := (xs.drop off).take len) (a := a) (cap := cap)
   (fun j c => (w.cell? ⟨B, o + (off + j) * G.E.sz i + c, none⟩).getD undef) (by have := hr.2.1; omega) (by omega)
   (fun _ => ⟨B, o + off * G.E.sz i, h2, hf _ h1, fun j x c p hj hp => by
    obtain ⟨u, g1, g2⟩ := hc B o h1 _ x c p (hget j x hj) hp
    rw [show o + off * G.E.sz i + j * G.E.sz i + c = o + (off + j) * G.E.sz i + c by rw [A55]; omega, g1]; rfl⟩)
   (fun j x c p hj hp => by
    obtain ⟨u, g1, g2⟩ := hc B o h1 _ x c p (hget j x hj) hp
    rw [g1]; exact g2)
  rw [hl] at h
  exact h
theorem B754 {α : Type} (xs : List α) : (xs.drop 0).take xs.length = xs := by simp
theorem ArrAt.frep_ints {E : Env} {ι : Nat -> Loc} {id ep : Nat} {m : Mode} {k : IntKind} {ep' : Nat} {xs : List Int} {v : Value} (h : ArrAt E ι id ep (.ints m k ep' xs : Blk E.T) v) (he : ep = ep')
  (hr : RowAt w (ι id) xs.length 1) (hk : ∀ x ∈ xs, k.has x) (hc : ∀ B o, (ι id).a = some ⟨B, o, none⟩ -> ∀ j x, xs[j]? = some x -> w.cell? ⟨B, o + j, none⟩ = some (.int k x))
  {F : Nat -> Prop} (hf : ∀ A, (ι id).a = some A -> F A.block) : FRep E w F (.ints k xs) v := by
 have hv := (h.2 ep' xs.length 1 rfl).2 he
 subst hv
 have := FRep.of_ints (E := E) (Fz := F) (a := (ι id).a) (cap := (ι id).cap) (off := 0) (len := xs.length) hr hk hc (by omega) hr.1 (fun hp => by
  obtain ⟨B, o, h1⟩ := hr.addr hp
  exact ⟨B, o, h1, by rw [h1]; simp⟩) hf
 rwa [B754] at this
theorem SubAt.frep_ints {E : Env} {ι : Nat -> Loc} {id ep off len : Nat} {m : Mode} {k : IntKind} {ep' : Nat} {xs : List Int} {v : Value} (h : SubAt E ι id ep off len (.ints m k ep' xs : Blk E.T) v) (he : ep = ep')
  (hr : RowAt w (ι id) xs.length 1) (hk : ∀ x ∈ xs, k.has x) (hc : ∀ B o, (ι id).a = some ⟨B, o, none⟩ -> ∀ j x, xs[j]? = some x -> w.cell? ⟨B, o + j, none⟩ = some (.int k x))
  {F : Nat -> Prop} (hf : ∀ A, (ι id).a = some A -> F A.block) : FRep E w F (.ints k ((xs.drop off).take len)) v := by
 obtain ⟨h1, a, cap, rfl, h0, h2⟩ := (h.2 ep' xs.length 1 rfl).2 he
 exact FRep.of_ints hr hk hc h1 h0 h2 hf
theorem ArrAt.frep_rows {id ep : Nat} {m : Mode} {i : Nat} {ep' : Nat} {xs : List (G.E.T i)} {v : Value} (h : ArrAt G.E ι id ep (.rows m i ep' xs : Blk G.E.T) v) (he : ep = ep') {F : Nat -> Prop}
  (hr : RowAt w (ι id) xs.length (G.E.sz i)) (hc : ∀ B o, (ι id).a = some ⟨B, o, none⟩ -> ∀ j x c p, xs[j]? = some x -> (G.E.outs i x)[c]? = some p -> ∃ u, w.cell? ⟨B, o + j * G.E.sz i + c, none⟩ = some u ∧ FRep G.E w F p u)
  (hf : ∀ A, (ι id).a = some A -> F A.block) : FRep G.E w F (.rows i xs) v := by
 have hv := (h.2 ep' xs.length (G.E.sz i) rfl).2 he
 subst hv
 have := FRep.of_rows (G := G) (Fz := F) (a := (ι id).a) (cap := (ι id).cap) (off := 0) (len := xs.length) hr hc (by omega) hr.1 (fun hp => by
  obtain ⟨B, o, h1⟩ := hr.addr hp
  exact ⟨B, o, h1, by rw [h1]; simp⟩) hf
 rwa [B754] at this
theorem SubAt.frep_rows {id ep off len : Nat} {m : Mode} {i : Nat} {ep' : Nat} {xs : List (G.E.T i)} {v : Value} (h : SubAt G.E ι id ep off len (.rows m i ep' xs : Blk G.E.T) v) (he : ep = ep') {F : Nat -> Prop}
  (hr : RowAt w (ι id) xs.length (G.E.sz i)) (hc : ∀ B o, (ι id).a = some ⟨B, o, none⟩ -> ∀ j x c p, xs[j]? = some x -> (G.E.outs i x)[c]? = some p -> ∃ u, w.cell? ⟨B, o + j * G.E.sz i + c, none⟩ = some u ∧ FRep G.E w F p u)
  (hf : ∀ A, (ι id).a = some A -> F A.block) : FRep G.E w F (.rows i ((xs.drop off).take len)) v := by
 obtain ⟨h1, a, cap, rfl, h0, h2⟩ := (h.2 ep' xs.length (G.E.sz i) rfl).2 he
 exact FRep.of_rows hr hc h1 h0 h2 hf
def Cold (E : Env) (w : World) (Fz : Nat -> Prop) (p : PV E.T) (v : Value) : Prop := FRep E w Fz p v ∨ (p = .nilsl ∧ v = .slice none 0 0)
theorem Cold.one {E : Env} {w : World} {Fz : Nat -> Prop} {p : PV E.T} {v : Value} (h : Cold E w Fz p v) : v.oneCell' = true := by
 rcases h with h | ⟨_, rfl⟩
 ·cases h <;> rfl
 ·rfl
theorem Cold.mono {E : Env} {w w' : World} {Fz Fz' : Nat -> Prop} (h1 : ∀ B, Fz B -> Fz' B) (h2 : ∀ B, Fz B -> w'.heap[B]? = w.heap[B]?) {p : PV E.T} {v : Value} (h : Cold E w Fz p v) : Cold E w' Fz' p v :=
 h.imp (·.mono h1 h2) id
theorem B669 (hH : HRep G.E w Fz ι H) (hF : Fram G.E X w Fz ι H) {p q : PV G.E.T} {H' : List (Blk G.E.T)} (h : B167 H p = some (q, H')) {v : Value} (hv : PRep G.E w Fz ι H p v) :
  ∃ Fz', Step G.E X w w Fz Fz' ι ι H H' ∧ Cold G.E w Fz' q v := by
 have stay : ∀ {q' : PV G.E.T}, FRep G.E w Fz q' v -> ∃ Fz', Step G.E X w w Fz Fz' ι ι H H ∧ Cold G.E w Fz' q' v := fun g => ⟨Fz, .refl hH hF, .inl g⟩
 unfold B167 at h
 split at h
 case h_1 => cases h; simp only [PRep] at hv; exact stay hv
 case h_2 => cases h; simp only [PRep] at hv; exact stay hv
 case h_3 => cases h; simp only [PRep] at hv; exact stay hv
 case h_4 => cases h; simp only [PRep] at hv; exact stay hv
 case h_5 => cases h; simp only [PRep] at hv; exact stay hv
 case h_6 => cases h; simp only [PRep] at hv; exact ⟨Fz, .refl hH hF, .inr ⟨rfl, hv⟩⟩
 case h_7 id ep =>
  simp only [PRep] at hv
  obtain ⟨b, hb, hv⟩ := hv
  split at h
  ·rename_i k ep' xs hb'
   rw [hb] at hb'; cases hb'
   split at h
   ·rename_i he
    cases h
    have hs := Step.freeze hH hF hb rfl rfl rfl
    have hr := hs.heap.rep id _ (B13 hb)
    simp only [BRep, Blk.freeze] at hr
    exact ⟨_, hs, .inl (hv.frep_ints (B7 he) hr.1 hr.2.1 hr.2.2 fun A hA => .inr ⟨A, hA, rfl⟩)⟩
   ·cases h
  ·rename_i k ep' xs hb'
   rw [hb] at hb'; cases hb'
   split at h
   ·rename_i he
    cases h
    have hr := hH.rep id _ hb
    simp only [BRep] at hr
    exact stay (hv.frep_ints (B7 he) hr.1 hr.2.1 hr.2.2 fun A hA => hH.held id _ A hb rfl hA)
   ·cases h
  ·rename_i i ep' xs hb'
   rw [hb] at hb'; cases hb'
   split at h
   ·rename_i he
    cases h
    have hs := Step.freeze hH hF hb rfl rfl rfl
    have hr := hs.heap.rep id _ (B13 hb)
    simp only [BRep, Blk.freeze] at hr
    exact ⟨_, hs, .inl (hv.frep_rows (B7 he) hr.1 hr.2 fun A hA => .inr ⟨A, hA, rfl⟩)⟩
   ·cases h
  ·rename_i i ep' xs hb'
   rw [hb] at hb'; cases hb'
   split at h
   ·rename_i he
    cases h
    have hr := hH.rep id _ hb
    simp only [BRep] at hr
    exact stay (hv.frep_rows (B7 he) hr.1 hr.2 fun A hA => hH.held id _ A hb rfl hA)
   ·cases h
  ·cases h
 case h_8 id ep off len =>
  simp only [PRep] at hv
  obtain ⟨b, hb, hv⟩ := hv
  split at h
  ·rename_i k ep' xs hb'
   rw [hb] at hb'; cases hb'
   split at h
   ·rename_i he
    cases h
    have hs := Step.freeze hH hF hb rfl rfl rfl
    have hr := hs.heap.rep id _ (B13 hb)
    simp only [BRep, Blk.freeze] at hr
    exact ⟨_, hs, .inl (hv.frep_ints (B7 he) hr.1 hr.2.1 hr.2.2 fun A hA => .inr ⟨A, hA, rfl⟩)⟩
   ·cases h
  ·rename_i k ep' xs hb'
   rw [hb] at hb'; cases hb'
   split at h
   ·rename_i he
    cases h
    have hr := hH.rep id _ hb
    simp only [BRep] at hr
    exact stay (hv.frep_ints (B7 he) hr.1 hr.2.1 hr.2.2 fun A hA => hH.held id _ A hb rfl hA)
   ·cases h
  ·rename_i i ep' xs hb'
   rw [hb] at hb'; cases hb'
   split at h
   ·rename_i he
    cases h
    have hs := Step.freeze hH hF hb rfl rfl rfl
    have hr := hs.heap.rep id _ (B13 hb)
    simp only [BRep, Blk.freeze] at hr
    exact ⟨_, hs, .inl (hv.frep_rows (B7 he) hr.1 hr.2 fun A hA => .inr ⟨A, hA, rfl⟩)⟩
   ·cases h
  ·rename_i i ep' xs hb'
   rw [hb] at hb'; cases hb'
   split at h
   ·rename_i he
    cases h
    have hr := hH.rep id _ hb
    simp only [BRep] at hr
    exact stay (hv.frep_rows (B7 he) hr.1 hr.2 fun A hA => hH.held id _ A hb rfl hA)
   ·cases h
  ·cases h
 case h_9 => cases h
def Colds (E : Env) (w : World) (Fz : Nat -> Prop) : List (PV E.T) -> List Value -> Prop
 | [], [] => True
 | p :: ps, v :: vs => Cold E w Fz p v ∧ Colds E w Fz ps vs
 | _, _ => False
theorem Colds.mono {E : Env} {w w' : World} {Fz Fz' : Nat -> Prop} (h1 : ∀ B, Fz B -> Fz' B) (h2 : ∀ B, Fz B -> w'.heap[B]? = w.heap[B]?) : ∀ {ps : List (PV E.T)} {vs : List Value}, Colds E w Fz ps vs -> Colds E w' Fz' ps vs
 | [], [], _ => trivial
 | _ :: _, _ :: _, h => ⟨h.1.mono h1 h2, h.2.mono h1 h2⟩
 | [], _ :: _, h => h
 | _ :: _, [], h => h
theorem Colds.length {E : Env} {w : World} {Fz : Nat -> Prop} : ∀ {ps : List (PV E.T)} {vs : List Value}, Colds E w Fz ps vs -> ps.length = vs.length
 | [], [], _ => rfl
 | _ :: _, _ :: _, h => by simp [Colds.length h.2]
 | [], _ :: _, h => h.elim
 | _ :: _, [], h => h.elim
theorem Colds.get {E : Env} {w : World} {Fz : Nat -> Prop} : ∀ {ps : List (PV E.T)} {vs : List Value}, Colds E w Fz ps vs -> ∀ {i : Nat} {p : PV E.T}, ps[i]? = some p -> ∃ v, vs[i]? = some v ∧ Cold E w Fz p v
 | [], [], _, i, p, hi => by simp at hi
 | q :: ps, v :: vs, h, 0, p, hi => by simp at hi; subst hi; exact ⟨v, rfl, h.1⟩
 | q :: ps, v :: vs, h, i + 1, p, hi => by simp at hi ⊢; exact h.2.get hi
 | [], _ :: _, h, _, _, _ => h.elim
 | _ :: _, [], h, _, _, _ => h.elim
theorem Colds.ones {E : Env} {w : World} {Fz : Nat -> Prop} : ∀ {ps : List (PV E.T)} {vs : List Value}, Colds E w Fz ps vs -> ∀ u ∈ vs, u.oneCell' = true
 | [], [], _, u, hu => by simp at hu
 | _ :: _, v :: vs, h, u, hu => by
  simp only [A19] at hu
  rcases hu with rfl | hu
  ·exact h.1.one
  ·exact h.2.ones u hu
 | [], _ :: _, h, _, _ => h.elim
 | _ :: _, [], h, _, _ => h.elim
theorem B168 : ∀ {ps qs : List (PV G.E.T)} {H H' : List (Blk G.E.T)} {Fz : Nat -> Prop} (hH : HRep G.E w Fz ι H) (hF : Fram G.E X w Fz ι H) (h : B54 H ps = some (qs, H')) {vs : List Value} (hv : PReps G.E w Fz ι H ps vs),
  ∃ Fz', Step G.E X w w Fz Fz' ι ι H H' ∧ Colds G.E w Fz' qs vs
 | [], qs, H, H', Fz, hH, hF, h, vs, hv => by
  simp [B54] at h
  obtain ⟨rfl, rfl⟩ := h
  cases vs with
  | nil => exact ⟨Fz, .refl hH hF, trivial⟩
  | cons v vs => simp only [PReps] at hv
 | p :: ps, qs, H, H', Fz, hH, hF, h, vs, hv => by
  cases vs with
  | nil => simp only [PReps] at hv
  | cons v vs =>
   simp only [PReps] at hv
   simp only [B54] at h
   split at h
   ·rename_i q H1 hq
    split at h
    ·rename_i l H2 hl
     cases h
     obtain ⟨F1, s1, c1⟩ := B669 hH hF hq hv.1
     obtain ⟨F2, s2, c2⟩ := B168 s1.heap s1.fram hl (PReps.mono s1.keep hv.2)
     exact ⟨F2, s1.trans s2, c1.mono s2.keep.fz s2.keep.heap, c2⟩
    ·cases h
   ·cases h
end
section
variable {G : Prg} {w : World} {Fz : Nat -> Prop} {ι : Nat -> Loc} {H : List (Blk G.E.T)} {R : Type} {r : R} {X : Ctx}
theorem B183 {T : Nat -> Type} {k : IntKind} {i x : Int} : ∀ {xs : List Int} {j : Int}, (B140 (T := T) k i x j xs).length = xs.length
 | [], j => rfl
 | y :: l, j => by simp only [B140, A21, B183]
theorem B501 {T : Nat -> Type} {k : IntKind} {i x : Int} : ∀ {xs : List Int} {j : Int} {c : Nat} {y : Int}, xs[c]? = some y -> (B140 (T := T) k i x j xs)[c]? = some (.int k (if i = j + c then x else y))
 | [], j, c, y, h => by simp at h
 | z :: l, j, 0, y, h => by simp at h; subst h; simp [B140]
 | z :: l, j, c + 1, y, h => by
  simp at h
  simp only [B140, A123, B501 h]
  rw [show j + 1 + (c : Int) = j + ((c + 1 : Nat) : Int) by omega]
theorem B380 {α : Type} : ∀ (l : List α) (n : Nat) (as : List α), n + as.length <= l.length -> replL l n as = some (l.take n ++ as ++ l.drop (n + as.length))
 | l, 0, [], h => by cases l <;> simp [replL]
 | [], 0, a :: as, h => by simp at h
 | y :: l, 0, a :: as, h => by
  have := B380 l 0 as (by simp at h ⊢; omega)
  simp [replL, this]
 | [], n + 1, as, h => by simp at h
 | y :: l, n + 1, as, h => by
  have := B380 l n as (by simp at h; omega)
  simp only [replL, this]
  rw [show n + 1 + as.length = n + as.length + 1 by omega]
  simp
theorem B1007 {T : Nat -> Type} {cells c' : List (PV T)} {off n : Nat} {k : IntKind} {i x : Int} {xs : List Int} (hk : intsK n (cells.drop off) = some (k, xs)) (h0 : 0 <= i ∧ i.toNat < n) (h : replL cells off (B140 k i x 0 xs) = some c') :
  replL cells (off + i.toNat) [.int k x] = some c' := by
 obtain ⟨g1, g2⟩ := B202 hk
 obtain ⟨h1, rfl⟩ := B223 cells off _ _ h
 rw [B183] at h1
 rw [B380 _ _ _ (by simp; omega)]
 congr 1
 apply A98
 intro c
 simp only [A27]
 by_cases hc : c < off
 ·rw [A57 (by rw [A24]; omega), A57 (by rw [A24]; omega), A66, A66, A3 (by omega), A3 hc]
 ·rw [A48 (l₁ := cells.take off) (by rw [A24]; omega), A24, show min off cells.length = off by omega]
  by_cases hc2 : c < off + n
  ·obtain ⟨y, hy⟩ : ∃ y, xs[c - off]? = some y := ⟨_, A18 (by omega)⟩
   have hcell := g2 _ _ hy
   rw [A54, show off + (c - off) = c by omega] at hcell
   rw [A57 (l₁ := B140 k i x 0 xs) (by rw [B183]; omega), B501 hy]
   by_cases hi : c = off + i.toNat
   ·rw [A48 (by rw [A24]; omega), A24, show c - min (off + i.toNat) cells.length = 0 by omega, A3 (by omega)]
    rfl
   ·rw [A7 (by omega)]
    by_cases hlt : c < off + i.toNat
    ·rw [A57 (by rw [A24]; omega), A66, A3 hlt, hcell]
    ·rw [A48 (by rw [A24]; omega), A24, A48 (by simp; omega), A54]
     simp only [A21, A35]
     rw [show off + i.toNat + (0 + 1) + (c - min (off + i.toNat) cells.length - (0 + 1)) = c by omega, hcell]
  ·rw [A48 (l₁ := B140 k i x 0 xs) (by rw [B183]; omega), B183, A54, A48 (by rw [A24]; omega), A24, A48 (by simp; omega), A54]
   simp only [A21, A35]
   congr 1
   omega
theorem B790 {t : TypeId} {id off n : Nat} {i : Int} {v : PV G.E.T} {K : List (Blk G.E.T) -> Option R} (h0 : 0 <= i ∧ i.toNat < n) (h : B156 G H t (.aptr id off n i) v K = some r) : B156 G H t (.ptr id (off + i.toNat)) v K = some r := by
 unfold B156 at h ⊢
 split at h
 ·cases h
 rename_i m hm
 split at h
 ·cases h
 ·cases h
 rename_i hlen hone
 simp only at h
 split at h
 ·rename_i cells k x hb
  split at h
  ·rename_i l hd
   obtain ⟨h1, rfl⟩ := B145 off cells l hd
   split at h
   ·rename_i k' xs hk
    split at h
    ·rename_i c' hkk hr
     have hkk := A39 hkk
     subst hkk
     have := B1007 hk h0 hr
     simp only [hb, B21, this]
     exact h
    ·cases h
   ·cases h
  ·cases h
 ·cases h
theorem B400 (ok : EnvOk G.E) {t : TypeId} {a p : PV G.E.T} (hna : ∀ id off n i, a ≠ .aptr id off n i) {K : List (Blk G.E.T) -> Option R} (h : B156 G H t a p K = some r) (hH : HRep G.E w Fz ι H) (hF : Fram G.E X w Fz ι H)
  {x v : Value} (hx : PRep G.E w Fz ι H a x) (hv : PRep G.E w Fz ι H p v) :
  ∃ H' w' Fz', K H' = some r ∧ (Instr.storeAt t x v).run G.P w = .ok () w' ∧ Step G.E X w w' Fz Fz' ι ι H H' := by
 unfold B156 at h
 split at h
 ·cases h
 rename_i n hn
 split at h
 ·cases h
 ·cases h
 rename_i hlen hone
 have hcr := B233 hv hone
 have hsz : v.cells.size = n := by rw [B7 hlen, hcr.length, A32]
 have h1 : ∀ u ∈ v.cells.toList, u.oneCell' = true := hcr.ones (B161.1 hone)
 split at h
 ·-- a box
  rename_i id off
  simp only [PRep] at hx
  obtain ⟨b, hb, hi, B, o, hl, rfl⟩ := hx
  split at h
  ·rename_i cells hb'
   rw [hb] at hb'; cases hb'
   split at h
   ·rename_i cells' hr
    obtain ⟨g1, rfl⟩ := B223 cells off _ _ hr
    have hrep := hH.rep id _ hb
    simp only [BRep] at hrep
    obtain ⟨B', o', ha, hB, hc⟩ := hrep
    rw [hl] at ha; cases ha
    have hn' : n = (B21 p).length := B7 hlen
    have hex : ∀ j, j < n -> (∃ u, w.cell? ⟨B, o + off + j, none⟩ = some u) ∧ w.frozen? ⟨B, o + off + j, none⟩ = false := fun j hj => by
     obtain ⟨k1, k2, u, k3, k4⟩ := hc (off + j) _ (A18 (by omega))
     rw [show o + off + j = o + (off + j) by omega]
     exact ⟨⟨u, k3⟩, k2⟩
    have hst := B290 hn hsz h1 hex
    refine ⟨_, w.setCells B (o + off) v.cells.toList, Fz, h, by simp [Instr.storeAt, Instr.sureAddr, hst], Step.write hH hF hb rfl rfl (b' := .box .own (cells.take off ++ B21 p ++ cells.drop (off + (B21 p).length))) rfl rfl hl (o + off) v.cells.toList fun KK => ?_⟩
    have hcl : v.cells.toList.length = (B21 p).length := hcr.length.symm
    simp only [BRep]
    refine ⟨B, o, hl, by rw [(B85 B _ _ w).2.2.2.1]; exact hB, fun c q hq => ?_⟩
    have hcell := B134 (w := w) (B := B) (o := o + off) (vs := v.cells.toList) (fun j hj => (hex j (by omega)).1) (o + c)
    rw [World.frozen?_setCells, hcell]
    by_cases hin : off <= c ∧ c < off + (B21 p).length
    ·rw [A3 (by omega)]
     have hq' : (B21 p)[c - off]? = some q := by
      rw [A27, A48 (by rw [A24]; omega), A57 (by rw [A24]; omega), A24] at hq
      rwa [show c - min off cells.length = c - off by omega] at hq
     obtain ⟨u, hu, hp⟩ := hcr.get hq'
     obtain ⟨_, k2, _⟩ := hc c _ (A18 (by omega))
     exact ⟨B161.1 hone q (A41 hq'), k2, u, by rw [show o + c - (o + off) = c - off by omega]; exact hu, hp.mono KK⟩
    ·rw [A7 (by omega)]
     have hq' : cells[c]? = some q := by
      by_cases hlt : c < off
      ·rw [A27, A57 (by rw [A24]; omega), A66, A3 hlt] at hq
       exact hq
      ·rw [A48 (by rw [A13, A24]; omega), A54, A13, A24] at hq
       rwa [show off + (B21 p).length + (c - (min off cells.length + (B21 p).length)) = c by omega] at hq
     obtain ⟨k1, k2, u, k3, k4⟩ := hc c q hq'
     exact ⟨k1, k2, u, k3, k4.mono KK⟩
   ·cases h
  ·cases h
 ·-- an element
  rename_i id ep i fld
  simp only [PRep] at hx
  obtain ⟨b, hb, hptr, hi⟩ := hx
  split at h
  ·rename_i k ep' xs hb'
   rw [hb] at hb'; cases hb'
   replace hi := (hi ep' xs.length 1 rfl).2
   split at h
   ·rename_i k' y he
    split at h
    ·rename_i hk
     obtain ⟨i0, i1, B, o, hl, rfl⟩ := hi (B7 he)
     have hk' := A39 hk
     subst hk'
     simp only [PRep] at hv
     cases hv with | int hy =>
     have hrep := hH.rep id _ hb
     simp only [BRep] at hrep
     obtain ⟨hrow, hrange, hcells⟩ := hrep
     have hcur := hcells B o hl _ _ (rd_mem i0 i1)
     rcases hrow.2.2 with ⟨hn0, _⟩ | ⟨B', o', ha, hB, hc⟩
     ·rw [hl] at hn0; cases hn0
     rw [hl] at ha; cases ha
     have hn1 : n = 1 := by simpa [B21] using B7 hlen
     subst hn1
     have hst := B290 (w := w) hn (v := .int k y) rfl (by simp [Value.cells, Value.oneCell']) (B := B) (o := o + i.toNat) (fun j hj => by
      have := hc (i.toNat + j) (by have := hrow.1; omega)
      rwa [← A58] at this)
     refine ⟨_, w.setCells B (o + i.toNat) [.int k y], Fz, h, by simp only [A102, A36]; simpa [Instr.storeAt, Instr.sureAddr, Value.cells] using hst, Step.write hH hF hb rfl rfl (b' := .ints .own k ep' (xs.set i.toNat y)) (by simp [Blk.info]) rfl hl (o + i.toNat) [.int k y] fun KK => ?_⟩
     simp only [BRep, A59]
     have hcell := fun c => B134 (w := w) (B := B) (o := o + i.toNat) (vs := [Value.int k y]) (fun j hj => by
      have : j = 0 := by simpa using hj
      subst this; exact ⟨_, hcur⟩) c
     refine ⟨⟨hrow.1, hrow.2.1, .inr ⟨B, o, hl, by rw [(B85 B _ _ w).2.2.2.1]; exact hB, fun c hc' => ?_⟩⟩, fun z hz => ?_, fun B' o' ha j z hz => ?_⟩
     ·rw [World.frozen?_setCells, hcell]
      refine ⟨?_, (hc c hc').2⟩
      split
      ·rename_i hin
       exact ⟨_, by simp at hin ⊢; rw [show o + c - (o + i.toNat) = 0 by omega]; rfl⟩
      ·exact (hc c hc').1
     ·rcases List.mem_or_eq_of_mem_set hz with hz | rfl
      ·exact hrange z hz
      ·exact hy
     ·rw [hl] at ha; cases ha
      rw [hcell]
      rw [List.getElem?_set] at hz
      by_cases hij : i.toNat = j
      ·subst hij
       rw [A3 rfl] at hz
       simp [i1] at hz; subst hz
       simp
      ·rw [A7 hij] at hz
       rw [A7 (by simp; omega)]
       exact hcells B o hl j z hz
    ·cases h
   ·cases h
  ·rename_i j0 ep0 xs0 hb0
   split at h
   ·rename_i cells H1 hfz
    obtain ⟨F1, s1, c1⟩ := B168 hH hF hfz hcr
    obtain ⟨b1, hb1, st1⟩ := s1.keep.le id b hb
    have hx1 : B230 G.E ι id ep i fld b1 x := B230.step ⟨hptr, hi⟩ st1
    split at h
    ·rename_i j ep' xs hb'
     rw [hb1] at hb'; cases hb'
     obtain ⟨_, hi1⟩ := hx1
     replace hi1 := (hi1 ep' xs.length (G.E.sz j) rfl).2
     split at h
     ·rename_i he
      obtain ⟨i0, i1, B, o, hl, rfl⟩ := hi1 (B7 he)
      obtain ⟨x0, hx0, h⟩ := A34.1 h
      split at h
      ·rename_i l hrl
       split at h
       ·rename_i y hy
        obtain ⟨g1, rfl⟩ := B223 _ fld cells _ hrl
        obtain ⟨y1, y2⟩ := ok.inn j _ y hy
        have hrep := s1.heap.rep id _ hb1
        simp only [BRep] at hrep
        obtain ⟨hrow, hcells⟩ := hrep
        rcases hrow.2.2 with ⟨hn0, _⟩ | ⟨B', o', ha, hB, hc⟩
        ·rw [hl] at hn0; cases hn0
        rw [hl] at ha; cases ha
        have hout : (G.E.outs j x0).length = G.E.sz j := ok.sz j x0
        have hcl : cells.length = v.cells.toList.length := c1.length
        have hn' : n = cells.length := by rw [hcl]; simp [hsz]
        have hfit : i.toNat * G.E.sz j + fld + cells.length <= (ι id).cap * G.E.sz j := by
         have h1 : (i.toNat + 1) * G.E.sz j <= (ι id).cap * G.E.sz j := A103 _ (by have := hrow.1; omega)
         rw [A55] at h1
         omega
        have hex : ∀ c, c < n -> (∃ u, w.cell? ⟨B, o + i.toNat * G.E.sz j + fld + c, none⟩ = some u) ∧ w.frozen? ⟨B, o + i.toNat * G.E.sz j + fld + c, none⟩ = false := fun c hc' => by
         have := hc (i.toNat * G.E.sz j + fld + c) (by omega)
         rwa [show o + (i.toNat * G.E.sz j + fld + c) = o + i.toNat * G.E.sz j + fld + c by omega] at this
        have hst := B290 hn hsz h1 hex
        refine ⟨_, w.setCells B (o + i.toNat * G.E.sz j + fld) v.cells.toList, F1, h, by simp [Instr.storeAt, Instr.sureAddr, hst], s1.trans (Step.write s1.heap s1.fram hb1 rfl rfl (b' := .rows .own j ep' (xs.set i.toNat y)) (by simp [Blk.info]) rfl hl (o + i.toNat * G.E.sz j + fld) v.cells.toList fun KK => ?_)⟩
        have hcell := fun c => B134 (w := w) (B := B) (o := o + i.toNat * G.E.sz j + fld) (vs := v.cells.toList) (fun c hc' => (hex c (by omega)).1) c
        simp only [BRep, A59]
        refine ⟨⟨hrow.1, hrow.2.1, .inr ⟨B, o, hl, by rw [(B85 B _ _ w).2.2.2.1]; exact hB, fun c hc' => ?_⟩⟩, fun B' o' ha q z c p hz hp => ?_⟩
        ·rw [World.frozen?_setCells, hcell]
         refine ⟨?_, (hc c hc').2⟩
         split
         ·rename_i hin
          exact ⟨_, A18 (by omega)⟩
         ·exact (hc c hc').1
        ·rw [hl] at ha; cases ha
         rw [hcell]
         have hclt : c < G.E.sz j := by
          have := (A42.1 hp).1
          rwa [ok.sz] at this
         have hqlt : q < xs.length := by
          have := (A42.1 hz).1
          simpa using this
         rw [List.getElem?_set] at hz
         by_cases hiq : i.toNat = q
         ·subst hiq
          rw [A3 rfl] at hz
          simp [i1] at hz; subst hz
          have hc2 : c < ((G.E.outs j x0).take fld ++ cells ++ (G.E.outs j x0).drop (fld + cells.length)).length := by
           rw [← y1, ok.sz]; exact hclt
          by_cases hin : fld <= c ∧ c < fld + cells.length
          ·rw [A3 (by omega)]
           have hq' : ((G.E.outs j x0).take fld ++ cells ++ (G.E.outs j x0).drop (fld + cells.length))[c]? = some cells[c - fld] := by
            rw [A27, A48 (by rw [A24]; omega), A57 (by rw [A24]; omega), A24, show c - min fld (G.E.outs j x0).length = c - fld by omega, A18 (by omega)]
           obtain ⟨u, hu, hcold⟩ := c1.get (A18 (show c - fld < cells.length by omega))
           refine ⟨u, by rw [show o + i.toNat * G.E.sz j + c - (o + i.toNat * G.E.sz j + fld) = c - fld by omega]; exact hu, ?_⟩
           exact FRep.mono KK.fz KK.heap (y2 w F1 c _ p u hq' hp hcold)
          ·rw [A7 (by omega)]
           have hq' : ((G.E.outs j x0).take fld ++ cells ++ (G.E.outs j x0).drop (fld + cells.length))[c]? = (G.E.outs j x0)[c]? := by
            by_cases hlt : c < fld
            ·rw [A27, A57 (by rw [A24]; omega), A66, A3 hlt]
            ·rw [A48 (by rw [A13, A24]; omega), A54, A13, A24, show fld + cells.length + (c - (min fld (G.E.outs j x0).length + cells.length)) = c by omega]
           rw [A18 (show c < (G.E.outs j x0).length by omega)] at hq'
           obtain ⟨u, k1, k2⟩ := hcells B o hl _ x0 c _ hx0 (A18 (show c < (G.E.outs j x0).length by omega))
           exact ⟨u, k1, FRep.mono KK.fz KK.heap (y2 w F1 c _ p u hq' hp (.inl k2))⟩
         ·rw [A7 hiq] at hz
          have hfar : ¬ (o + i.toNat * G.E.sz j + fld <= o + q * G.E.sz j + c ∧ o + q * G.E.sz j + c < o + i.toNat * G.E.sz j + fld + v.cells.toList.length) := by
           rintro ⟨q1, q2⟩
           rcases Nat.lt_or_gt_of_ne hiq with hlt | hgt
           ·have h3 : (i.toNat + 1) * G.E.sz j <= q * G.E.sz j := A103 _ hlt
            rw [A55] at h3
            omega
           ·have h3 : (q + 1) * G.E.sz j <= i.toNat * G.E.sz j := A103 _ hgt
            rw [A55] at h3
            omega
          rw [A7 hfar]
          obtain ⟨u, k1, k2⟩ := hcells B o hl q z c p hz hp
          exact ⟨u, k1, FRep.mono KK.fz KK.heap k2⟩
       ·cases h
      ·cases h
     ·cases h
    ·cases h
   ·cases h
  ·cases h
 ·exact absurd rfl (hna _ _ _ _)
 ·cases h
theorem B751 (ok : EnvOk G.E) {t : TypeId} {a p : PV G.E.T} {K : List (Blk G.E.T) -> Option R} (h : B156 G H t a p K = some r) (hH : HRep G.E w Fz ι H) (hF : Fram G.E X w Fz ι H)
  {x v : Value} (hx : PRep G.E w Fz ι H a x) (hv : PRep G.E w Fz ι H p v) :
  ∃ H' w' Fz', K H' = some r ∧ (Instr.storeAt t x v).run G.P w = .ok () w' ∧ Step G.E X w w' Fz Fz' ι ι H H' := by
 cases a with
 | aptr id off n i =>
  simp only [PRep] at hx
  obtain ⟨h0, hx⟩ := hx
  exact B400 ok (by intros; simp) (B790 h0 h) hH hF (a := .ptr id (off + i.toNat)) (by simp only [PRep]; exact hx) hv
 | _ => exact B400 ok (by intros; simp) h hH hF hx hv
end
def updι (ι : Nat -> Loc) (id : Nat) (l : Loc) : Nat -> Loc := fun j => if j = id then l else ι j
theorem B14 {ι : Nat -> Loc} {id : Nat} {l : Loc} : updι ι id l id = l := by simp [updι]
theorem B604 {ι : Nat -> Loc} {id j : Nat} {l : Loc} (h : j ≠ id) : updι ι id l j = ι j := by simp [updι, h]
section
variable {G : Prg} {w w' : World} {Fz : Nat -> Prop} {ι : Nat -> Loc} {H : List (Blk G.E.T)} {R : Type} {r : R} {X : Ctx}
theorem B301 {α : Type} {l : List α} {i : Nat} (h : l.length <= i) : getL l i = none := by rw [B24, A65 h]
theorem Step.new (hH : HRep G.E w Fz ι H) (hF : Fram G.E X w Fz ι H) (b' : Blk G.E.T) (l : Loc)
  (hos : w'.os = w.os) (htape : w'.tape = w.tape) (hout : w'.output = w.output) (hsize : w.heap.size <= w'.heap.size)
  (hmem : ∀ B, B < w.heap.size -> w'.heap[B]? = w.heap[B]?) (hloc : ∀ A', l.a = some A' -> w.heap.size <= A'.block) (hb' : b'.owned = true)
  (hrep : Keep G.E w w' Fz Fz ι (updι ι H.length l) H (H ++ [b']) -> BRep G.E w' Fz (updι ι H.length l) (H ++ [b']) H.length b') :
  Step G.E X w w' Fz Fz ι (updι ι H.length l) H (H ++ [b']) := by
 refine Step.upd hH hF H.length b' B64 (fun j hj => B342 hj) (fun j hj => B604 hj) (fun b hb => ?_) hos htape hout hsize (fun B hB _ => hmem B hB) (fun A' hA' => .inr ?_) hb' hrep
 ·rw [B301 (A11 _)] at hb; cases hb
 ·rw [B14] at hA'; exact hloc A' hA'
theorem B170 {pl : Option Nat} (hpl : plOk pl H = true) {b : Blk G.E.T} : getL (plPut pl H b) (plId pl H) = some b := by
 cases pl with
 | none => exact B64
 | some s =>
  simp only [plOk] at hpl
  split at hpl
  ·rename_i k hs; exact B13 hs
  ·cases hpl
theorem Step.at_ {pl : Option Nat} (hpl : plOk pl H = true) (hH : HRep G.E w Fz ι H) (hF : Fram G.E X w Fz ι H) (b' : Blk G.E.T) (l : Loc)
  (hinfo : b'.info G.E = none ∨ ∃ len sz, b'.info G.E = some (plEp pl, len, sz))
  (hos : w'.os = w.os) (htape : w'.tape = w.tape) (hout : w'.output = w.output) (hsize : w.heap.size <= w'.heap.size)
  (hmem : ∀ B, B < w.heap.size -> w'.heap[B]? = w.heap[B]?) (hloc : ∀ A', l.a = some A' -> w.heap.size <= A'.block) (hb' : b'.owned = true)
  (hrep : Keep G.E w w' Fz Fz ι (updι ι (plId pl H) l) H (plPut pl H b') -> BRep G.E w' Fz (updι ι (plId pl H) l) (plPut pl H b') (plId pl H) b') :
  Step G.E X w w' Fz Fz ι (updι ι (plId pl H) l) H (plPut pl H b') := by
 cases pl with
 | none => exact Step.new hH hF b' l hos htape hout hsize hmem hloc hb' hrep
 | some s =>
  have hg := B170 (b := b') hpl
  simp only [plOk] at hpl
  split at hpl
  ·rename_i k hs
   refine Step.upd hH hF s b' hg (fun j hj => B10 hj) (fun j hj => B604 hj) (fun b hb => ?_) hos htape hout hsize (fun B hB _ => hmem B hB) (fun A' hA' => .inr ?_) hb' hrep
   ·rw [hs] at hb; cases hb
    refine ⟨rfl, rfl, ⟨fun e => by simp [Blk.info] at e, fun ep len sz e => ?_, fun e => by cases e⟩⟩
    simp only [Blk.info, A16, A33] at e
    obtain ⟨rfl, rfl, rfl⟩ := e
    rcases hinfo with h | ⟨len, sz, h⟩
    ·exact .inl h
    ·exact .inr ⟨_, _, _, h, A30 _, fun e => by simp [plEp] at e⟩
   ·have : (updι ι s l s).a = some A' := hA'
    rw [B14] at this; exact hloc A' this
  ·cases hpl
theorem Step.newBoxAt {pl : Option Nat} (hpl : plOk pl H = true) (hH : HRep G.E w Fz ι H) (hF : Fram G.E X w Fz ι H) {l : List (PV G.E.T)} {cs : List Value} (hl : PReps G.E w Fz ι H l cs) (h1 : ∀ p ∈ l, p.one = true) (t : TypeId) :
  Step G.E X w (w.alloc (.cells cs.toArray t)) Fz Fz ι (updι ι (plId pl H) ⟨some ⟨w.heap.size, 0, none⟩, 0⟩) H (plPut pl H (.box .own l)) := by
 refine Step.at_ hpl hH hF _ _ (.inl rfl) rfl rfl rfl (by simp) (fun B hB => heap_alloc_old w _ B hB) (fun A' hA' => by simp at hA'; subst hA'; simp) rfl fun KK => ?_
 simp only [BRep]
 refine ⟨w.heap.size, 0, by rw [B14], by simp, fun c p hp => ?_⟩
 obtain ⟨v, hv, hpv⟩ := hl.get hp
 refine ⟨h1 p (A41 hp), by simp, v, by simpa using hv, hpv.mono KK⟩
theorem B725 {pl : Option Nat} (hpl : plOk pl H = true) {l : List (PV G.E.T)} {a : Addr} (h : a = ⟨a.block, a.off, none⟩) : PRep G.E w' Fz (updι ι (plId pl H) ⟨some a, 0⟩) (plPut pl H (.box .own l)) (.ptr (plId pl H) 0) (.pointer (some a)) := by
 simp only [PRep]
 exact ⟨_, B170 hpl, rfl, a.block, a.off, by rw [B14, ← h], by rw [A36, ← h]⟩
theorem B295 (o : Obj) : ∀ B, B < w.heap.size -> (w.alloc o).heap[B]? = w.heap[B]? := fun B hB => heap_alloc_old w o B hB
theorem Step.newBox (hH : HRep G.E w Fz ι H) (hF : Fram G.E X w Fz ι H) {l : List (PV G.E.T)} {cs : List Value} (hl : PReps G.E w Fz ι H l cs) (h1 : ∀ p ∈ l, p.one = true) (t : TypeId) :
  Step G.E X w (w.alloc (.cells cs.toArray t)) Fz Fz ι (updι ι H.length ⟨some ⟨w.heap.size, 0, none⟩, 0⟩) H (H ++ [.box .own l]) := by
 refine Step.new hH hF _ _ rfl rfl rfl (by simp) (B295 _) (fun A' hA' => by simp at hA'; subst hA'; simp) rfl fun KK => ?_
 simp only [BRep]
 refine ⟨w.heap.size, 0, by rw [B14], by simp, fun c p hp => ?_⟩
 obtain ⟨v, hv, hpv⟩ := hl.get hp
 refine ⟨h1 p (A41 hp), by simp, v, by simpa using hv, hpv.mono KK⟩
theorem B853 {l : List (PV G.E.T)} {a : Addr} (h : a = ⟨a.block, a.off, none⟩) : PRep G.E w' Fz (updι ι H.length ⟨some a, 0⟩) (H ++ [.box .own l]) (.ptr H.length 0) (.pointer (some a)) := by
 simp only [PRep]
 exact ⟨_, B64, rfl, a.block, a.off, by rw [B14, ← h], by rw [A36, ← h]⟩
theorem B189 {t : TypeId} {l : List (PV G.E.T)} (h : B213 G t = some l) : ∃ z : Value, (zeroValue t).run G.P w = .ok z w ∧ PReps G.E w Fz ι H l z.cells.toList ∧ (∀ p ∈ l, p.one = true) ∧ ∃ i, G.P.info? t = some i ∧ i.zero = some z := by
 unfold B213 at h
 split at h
 ·rename_i i hi
  split at h
  ·rename_i z hz
   split at h
   ·rename_i h1
    cases h
    refine ⟨z, by simp [zeroValue, typeInfo, hi, hz], ?_, B161.1 h1, i, hi, hz⟩
    generalize z.cells.toList = vs
    induction vs with
    | nil => simp [B98, PReps]
    | cons v vs ih => simp only [B98, PReps]; exact ⟨B317 v, ih⟩
   ·cases h
  ·cases h
 ·cases h
theorem B321 {s : TypeId} {f o : Nat} (h : B216 G s f = some o) (a : Addr) : (Instr.fieldAt s (.pointer (some a)) f).run G.P w = .ok (.pointer (some (a.add o))) w := by
 unfold B216 at h
 split at h
 ·rename_i fields hu
  split at h
  ·rename_i fd hfd
   split at h
   ·rename_i n hn
    cases h
    have hfd' : fields[f]? = some fd := by simpa using hfd
    simp [Instr.fieldAt, run_underlying hu, hfd', Instr.sureAddr, fieldPlace, B70 hn]
   ·cases h
  ·cases h
 ·cases h
theorem B512 {s : TypeId} {f : Nat} {p : PV G.E.T} {K : PV G.E.T -> Option R} (h : B166 G s p f K = some r) {x : Value} (hx : PRep G.E w Fz ι H p x) :
  ∃ q v, K q = some r ∧ (Instr.fieldAt s x f).run G.P w = .ok v w ∧ PRep G.E w Fz ι H q v := by
 unfold B166 at h
 split at h
 ·cases h
 rename_i o ho
 split at h
 ·simp only [PRep] at hx
  obtain ⟨b, hb, hi, B, q, hl, rfl⟩ := hx
  refine ⟨_, _, h, B321 ho _, ?_⟩
  simp only [PRep]
  exact ⟨b, hb, hi, B, q, hl, by rw [Addr.add_lit, A58]⟩
 ·simp only [PRep] at hx
  obtain ⟨b, hb, hptr, hi⟩ := hx
  obtain ⟨a, rfl⟩ := hptr
  rename_i id ep i fld
  refine ⟨_, _, h, B321 ho a, ?_⟩
  simp only [PRep]
  refine ⟨b, hb, ⟨_, rfl⟩, fun ep' len sz hinf => ?_⟩
  obtain ⟨hle, hi⟩ := hi ep' len sz hinf
  refine ⟨hle, fun e => ?_⟩
  obtain ⟨i0, i1, B, q, hl, hq⟩ := hi e
  cases hq
  exact ⟨i0, i1, B, q, hl, by rw [Addr.add_lit, A58]⟩
 ·simp only [PRep] at hx
  obtain ⟨B, q, rfl, hf, hc⟩ := hx
  split at h
  ·rename_i l hd
   obtain ⟨h1, rfl⟩ := B145 _ _ _ hd
   refine ⟨_, _, h, B321 ho _, ?_⟩
   simp only [PRep]
   refine ⟨B, q + o, by rw [Addr.add_lit], fun hne => hf (fun e => by subst e; simp at hne), fun c p hp => ?_⟩
   rw [A54] at hp
   rw [A58]
   exact hc _ p hp
  ·cases h
 ·cases h
theorem B139 {t e : TypeId} (ht : G.P.underlying t = some (.slice e)) {sz : Nat} (hs : B25 G e = some sz) (a : Addr) (len cap : Nat) (k : IntKind) (i : Int) (h0 : 0 <= i) (h1 : i < len) :
  (Instr.indexAt t (.slice (some a) len cap) (.int k i)).run G.P w = .ok (.pointer (some (a.add (i.toNat * sz)))) w := by
 simp [Instr.indexAt, run_underlying ht, asIntOf, h0, h1, B70 hs]
theorem B130 (ok : PrgOk G) {t e : TypeId} (ht : elemT G t = some e) {k : IntKind} (he : G.el e = some (.int k)) : G.P.underlying t = some (.slice e) ∧ B25 G e = some 1 := by
 unfold elemT at ht
 split at ht
 ·rename_i e' hu
  cases ht
  obtain ⟨_, i, hi, hs, _⟩ := ok.int e k he
  exact ⟨hu, by simp [B25, hi, hs]⟩
 ·cases ht
theorem B196 (ok : PrgOk G) {t e : TypeId} (ht : elemT G t = some e) {n : Nat} (he : G.el e = some (.row n)) : G.P.underlying t = some (.slice e) ∧ B25 G e = some (G.E.sz n) := by
 unfold elemT at ht
 split at ht
 ·rename_i e' hu
  cases ht
  obtain ⟨i, z, hi, hs, _⟩ := ok.row e n he
  exact ⟨hu, by simp [B25, hi, hs]⟩
 ·cases ht
theorem B475 {E : Env} {ι : Nat -> Loc} {id ep : Nat} {b : Blk E.T} {v : Value} (h : ArrAt E ι id ep b v) {len sz : Nat} (hb : b.info E = some (ep, len, sz)) (hr : RowAt w (ι id) len sz) {i : Int} (h0 : 0 <= i) (h1 : i < (len : Int)) :
  ∃ A : Addr, v = .slice (some A) len (ι id).cap ∧ B230 E ι id ep i 0 b (.pointer (some (A.add (i.toNat * sz)))) := by
 have hv := (h.2 ep len sz hb).2 rfl
 obtain ⟨B, o, hl⟩ := hr.addr (by omega)
 rw [hl] at hv
 refine ⟨_, hv, ⟨_, rfl⟩, fun ep' len' sz' hb' => ?_⟩
 rw [hb] at hb'
 simp only [A16, A33] at hb'
 obtain ⟨rfl, rfl, rfl⟩ := hb'
 exact ⟨A11 _, fun _ => ⟨h0, by omega, B, o, hl, by rw [Addr.add_lit]; rfl⟩⟩
theorem B476 {E : Env} {ι : Nat -> Loc} {id ep off len : Nat} {b : Blk E.T} {v : Value} (h : SubAt E ι id ep off len b v) {len' sz : Nat} (hb : b.info E = some (ep, len', sz)) {i : Int} (h0 : 0 <= i) (h1 : i < (len : Int)) :
  ∃ (A : Addr) (c : Nat), v = .slice (some A) len c ∧ B230 E ι id ep ((off : Int) + i) 0 b (.pointer (some (A.add (i.toNat * sz)))) := by
 obtain ⟨hle, a, cap, hv, h0', ha⟩ := (h.2 ep len' sz hb).2 rfl
 obtain ⟨B, o, hl, rfl⟩ := ha (by omega)
 refine ⟨_, cap, hv, ⟨_, rfl⟩, fun ep' len'' sz' hb' => ?_⟩
 rw [hb] at hb'
 simp only [A16, A33] at hb'
 obtain ⟨rfl, rfl, rfl⟩ := hb'
 refine ⟨A11 _, fun _ => ⟨by omega, by omega, B, o, hl, ?_⟩⟩
 rw [Addr.add_lit, show ((off : Int) + i).toNat = off + i.toNat by omega, A55]
 simp only [A36, Value.pointer.injEq, A16, Addr.mk.injEq, A69, A15]
 omega
theorem B435 {i : Int} : ∀ {n : Nat} {K : Nat -> Option R}, B225 i n K = some r -> 0 <= i ∧ i < (n : Int) -> K i.toNat = some r
 | 0, K, h, hi => by omega
 | n + 1, K, h, hi => by
  simp only [B225] at h
  split at h
  ·rename_i e; subst e; simpa using h
  ·exact B435 h ⟨hi.1, by omega⟩
theorem B409 {i : Int} {n : Nat} {K : Nat -> Option R} (h : atIx i n K = some r) (hi : 0 <= i ∧ i < (n : Int)) : K i.toNat = some r := by
 unfold atIx at h
 split at h
 ·exact B435 h hi
 ·exact h
theorem B514 (ok : PrgOk G) {t : TypeId} {p q : PV G.E.T} {K : PV G.E.T -> Option R} (h : B88 G H t p q K = some r) (hH : HRep G.E w Fz ι H) {x y : Value} (hx : PRep G.E w Fz ι H p x) (hy : PRep G.E w Fz ι H q y) :
  ∃ s v, K s = some r ∧ (Instr.indexAt t x y).run G.P w = .ok v w ∧ PRep G.E w Fz ι H s v := by
 unfold B88 at h
 split at h
 case h_2 => cases h
 rename_i kk i
 simp only [PRep] at hy
 cases hy with | int hk =>
 split at h
 ·rename_i e he
  split at h
  ·rename_i kk' hel
   obtain ⟨hu, hs⟩ := B130 ok he hel
   split at h
   ·rename_i k xs
    split at h
    ·rename_i hi
     simp only [PRep] at hx
     cases hx with
     | ints g1 g2 g0 g3 =>
      rename_i a cap
      have hne : xs ≠ [] := fun e => by subst e; simp at hi; omega
      obtain ⟨B, o, rfl, hf, hc⟩ := g3 hne
      have hm := rd_mem hi.1 (show i.toNat < xs.length by omega)
      refine ⟨_, _, h, B139 hu hs _ _ _ _ _ hi.1 hi.2, ?_⟩
      simp only [PRep, A102]
      refine ⟨B, o + i.toNat, by rw [Addr.add_lit], fun _ => hf, fun c pv hpv => ?_⟩
      cases c with
      | zero =>
       simp at hpv; subst hpv
       exact ⟨_, hc _ _ hm, .int (g1 _ (A41 hm))⟩
      | succ c => simp at hpv
    ·cases h
   ·rename_i id ep
    simp only [PRep] at hx
    obtain ⟨b, hb, hx⟩ := hx
    split at h
    ·rename_i m k ep' xs hb'
     rw [hb] at hb'; cases hb'
     split at h
     ·rename_i he
      have he := B7 he; subst he
      split at h
      ·rename_i hi
       have hr := hH.rep id _ hb
       simp only [BRep] at hr
       obtain ⟨A, rfl, hA⟩ := B475 hx rfl hr.1 hi.1 hi.2
       exact ⟨_, _, h, B139 hu hs _ _ _ _ _ hi.1 hi.2, by simp only [PRep]; exact ⟨_, hb, hA⟩⟩
      ·cases h
     ·cases h
    ·cases h
   ·rename_i id ep off len
    simp only [PRep] at hx
    obtain ⟨b, hb, hx⟩ := hx
    split at h
    ·rename_i m k ep' xs hb'
     rw [hb] at hb'; cases hb'
     split at h
     ·rename_i he
      have he := B7 he; subst he
      split at h
      ·rename_i hi
       obtain ⟨A, c, rfl, hA⟩ := B476 hx rfl hi.1 hi.2
       exact ⟨_, _, h, B139 hu hs _ _ _ _ _ hi.1 hi.2, by simp only [PRep]; exact ⟨_, hb, hA⟩⟩
      ·cases h
     ·cases h
    ·cases h
   ·cases h
  ·rename_i n hel
   obtain ⟨hu, hs⟩ := B196 ok he hel
   split at h
   ·rename_i j xs
    split at h
    ·rename_i hj
     have hj := B7 hj; subst hj
     split at h
     ·rename_i hi
      obtain ⟨z, hz, h⟩ := A34.1 h
      have hlt : i.toNat < xs.length := (A42.1 hz).1
      simp only [PRep] at hx
      cases hx with
      | rows cv g2 g0 g3 g4 =>
       rename_i a cap
       have hne : xs ≠ [] := fun e => by subst e; simp at hlt
       obtain ⟨B, o, rfl, hf, hc⟩ := g3 hne
       refine ⟨_, _, h, B139 hu hs _ _ _ _ _ hi (by omega), ?_⟩
       simp only [PRep]
       exact ⟨B, o + i.toNat * G.E.sz j, by rw [Addr.add_lit], fun _ => hf, fun c pv hpv => ⟨_, hc _ _ _ _ hz hpv, g4 _ _ _ _ hz hpv⟩⟩
     ·cases h
    ·cases h
   ·rename_i id ep
    simp only [PRep] at hx
    obtain ⟨b, hb, hx⟩ := hx
    split at h
    ·rename_i m j ep' xs hb'
     rw [hb] at hb'; cases hb'
     split at h
     ·rename_i he hj
      have he := B7 he; subst he
      have hj := B7 hj; subst hj
      split at h
      ·rename_i hi
       have hr := hH.rep id _ hb
       simp only [BRep] at hr
       obtain ⟨A, rfl, hA⟩ := B475 hx rfl hr.1 hi.1 hi.2
       exact ⟨_, _, h, B139 hu hs _ _ _ _ _ hi.1 hi.2, by simp only [PRep]; exact ⟨_, hb, hA⟩⟩
      ·cases h
     ·cases h
    ·cases h
   ·rename_i id ep off len
    simp only [PRep] at hx
    obtain ⟨b, hb, hx⟩ := hx
    split at h
    ·rename_i m j ep' xs hb'
     rw [hb] at hb'; cases hb'
     split at h
     ·rename_i he hj
      have he := B7 he; subst he
      have hj := B7 hj; subst hj
      split at h
      ·rename_i hi
       obtain ⟨A, c, rfl, hA⟩ := B476 hx rfl hi.1 hi.2
       exact ⟨_, _, h, B139 hu hs _ _ _ _ _ hi.1 hi.2, by simp only [PRep]; exact ⟨_, hb, hA⟩⟩
      ·cases h
     ·cases h
    ·cases h
   ·cases h
  ·cases h
 ·split at h
  ·rename_i id ep j fld
   simp only [PRep] at hx
   obtain ⟨b, hb, hx⟩ := hx
   split at h
   ·rename_i m k ep' xs n e hb' hu
    rw [hb] at hb'; cases hb'
    split at h
    ·rename_i he hj hs
     have he := B7 he; subst he
     have hj := A39 hj; subst hj
     split at h
     ·rename_i hi
      obtain ⟨_, g⟩ := hx
      obtain ⟨_, _, B, o, hl, rfl⟩ := (g ep xs.length 1 rfl).2 rfl
      refine ⟨_, .pointer (some ⟨B, o + i.toNat * 1 + 0, none⟩), h, ?_, ?_⟩
      ·simp [Instr.indexAt, run_underlying hu, asIntOf, Instr.sureAddr, hi.1, hi.2.1, B70 hs]
       rw [Addr.add_lit]
      ·simp only [PRep]
       refine ⟨_, hb, ⟨_, rfl⟩, fun ep2 len2 sz2 h2 => ?_⟩
       simp only [Blk.info, A16, A33] at h2
       obtain ⟨rfl, rfl, rfl⟩ := h2
       exact ⟨A11 _, fun _ => ⟨hi.1, by omega, B, o, hl, rfl⟩⟩
     ·cases h
    ·cases h
   ·rename_i m k ep' xs n e hb' hu
    rw [hb] at hb'; cases hb'
    split at h
    ·rename_i sz he hs
     have he := B7 he; subst he
     split at h
     ·rename_i hi
      obtain ⟨_, g⟩ := hx
      obtain ⟨j0, j1, B, o, hl, rfl⟩ := (g ep xs.length (G.E.sz k) rfl).2 rfl
      refine ⟨_, .pointer (some ⟨B, o + j.toNat * G.E.sz k + fld + i.toNat * sz, none⟩), h, ?_, ?_⟩
      ·simp [Instr.indexAt, run_underlying hu, asIntOf, Instr.sureAddr, hi.1, hi.2, B70 hs]
       rw [Addr.add_lit]
      ·simp only [PRep]
       refine ⟨_, hb, ⟨_, rfl⟩, fun ep2 len2 sz2 h2 => ?_⟩
       simp only [Blk.info, A16, A33] at h2
       obtain ⟨rfl, rfl, rfl⟩ := h2
       exact ⟨A11 _, fun _ => ⟨j0, j1, B, o, hl, by rw [A58]⟩⟩
     ·cases h
    ·cases h
   ·cases h
  ·rename_i l
   split at h
   ·rename_i n e hu
    split at h
    ·rename_i sz hs
     split at h
     ·rename_i hi
      simp only [PRep] at hx
      obtain ⟨B, o, rfl, hf, hc⟩ := hx
      have h := B409 h hi
      split at h
      ·rename_i l' hd
       obtain ⟨h1, rfl⟩ := B145 _ _ _ hd
       refine ⟨_, .pointer (some ⟨B, o + i.toNat * sz, none⟩), h, ?_, ?_⟩
       ·simp [Instr.indexAt, run_underlying hu, asIntOf, Instr.sureAddr, hi.1, hi.2, B70 hs]
        rw [Addr.add_lit]
       ·simp only [PRep]
        refine ⟨B, o + i.toNat * sz, rfl, fun hne => hf (fun e => by subst e; simp at hne), fun c p hp => ?_⟩
        rw [A54] at hp
        rw [A58]
        exact hc _ p hp
      ·cases h
     ·cases h
    ·cases h
   ·cases h
  ·rename_i id off
   split at h
   ·rename_i n e hu
    split at h
    ·rename_i sz hs
     split at h
     ·rename_i hi
      simp only [PRep] at hx
      obtain ⟨b, hb, hinf, B, o, hl, rfl⟩ := hx
      have hrun : (Instr.indexAt t (.pointer (some ⟨B, o + off, none⟩)) (.int kk i)).run G.P w = .ok (.pointer (some ⟨B, o + off + i.toNat * sz, none⟩)) w := by
       simp [Instr.indexAt, run_underlying hu, asIntOf, Instr.sureAddr, hi.1, hi.2, B70 hs]
       rw [Addr.add_lit]
      split at h
      ·refine ⟨_, _, h, hrun, ?_⟩
       simp only [PRep]
       exact ⟨⟨hi.1, by omega⟩, b, hb, hinf, B, o, hl, by rw [A102, A58]⟩
      ·have h := B409 h hi
       refine ⟨_, _, h, hrun, ?_⟩
       simp only [PRep]
       exact ⟨b, hb, hinf, B, o, hl, by rw [A58]⟩
     ·cases h
    ·cases h
   ·cases h
  ·cases h
theorem B848 {t ty : TypeId} {p : PV G.E.T} {K : PV G.E.T -> Option R} (h : lenV G H t p K = some r) (hH : HRep G.E w Fz ι H) {x : Value} (hx : PRep G.E w Fz ι H p x) (ts : List TypeId) :
  ∃ s v, K s = some r ∧ (Builtin.len_ (t :: ts).toArray ty #[x]).run G.P w = .ok v w ∧ PRep G.E w Fz ι H s v := by
 have hint : ∀ n : Nat, n <= maxLen -> PRep G.E w Fz ι H (.int .i64 n) (goInt n) := fun n hn => by
  simp only [PRep]
  exact .int (by rw [B95]; simp only [maxLen] at hn ⊢; omega)
 unfold lenV at h
 split at h
 ·rename_i n e hu
  split at h
  ·rename_i hn
   have hn := A86 hn
   exact ⟨_, goInt n, h, by simp [Builtin.len_, run_underlying hu], hint n (by simp only [maxLen]; omega)⟩
  ·cases h
 ·rename_i hu
  split at h
  ·rename_i s
   simp only [PRep] at hx
   cases hx with | str e1 l1 =>
   rename_i bs
   subst e1
   exact ⟨_, goInt bs.size, by rw [← B42]; exact h, by simp [Builtin.len_, run_underlying hu], hint _ (by rw [← B42]; exact l1)⟩
  ·cases h
 ·rename_i e hu
  have hrun : ∀ (a : Option Addr) (n c : Nat), (Builtin.len_ (t :: ts).toArray ty #[.slice a n c]).run G.P w = .ok (goInt n) w := fun a n c => by simp [Builtin.len_, run_underlying hu]
  split at h
  ·simp only [PRep] at hx
   cases hx with | ints g1 g2 g0 g3 => exact ⟨_, _, h, hrun _ _ _, hint _ g2⟩
  ·simp only [PRep] at hx
   cases hx with | rows cv g2 g0 g3 g4 => exact ⟨_, _, h, hrun _ _ _, hint _ g2⟩
  ·simp only [PRep] at hx
   subst hx
   exact ⟨_, _, h, hrun _ _ _, hint 0 (by simp [maxLen])⟩
  ·rename_i id ep off len
   simp only [PRep] at hx
   obtain ⟨b, hb, hx⟩ := hx
   split at h
   ·rename_i m k ep' xs hb'
    rw [hb] at hb'; cases hb'
    split at h
    ·rename_i he
     obtain ⟨g1, a, cap, rfl, _⟩ := (hx.2 _ _ _ rfl).2 (B7 he)
     have hr := hH.rep id _ hb
     simp only [BRep] at hr
     exact ⟨_, _, h, hrun _ _ _, hint _ (by have := hr.1.2.1; omega)⟩
    ·cases h
   ·rename_i m k ep' xs hb'
    rw [hb] at hb'; cases hb'
    split at h
    ·rename_i he
     obtain ⟨g1, a, cap, rfl, _⟩ := (hx.2 _ _ _ rfl).2 (B7 he)
     have hr := hH.rep id _ hb
     simp only [BRep] at hr
     exact ⟨_, _, h, hrun _ _ _, hint _ (by have := hr.1.2.1; omega)⟩
    ·cases h
   ·cases h
  ·rename_i id ep
   simp only [PRep] at hx
   obtain ⟨b, hb, hx⟩ := hx
   split at h
   ·rename_i m k ep' xs hb'
    rw [hb] at hb'; cases hb'
    split at h
    ·rename_i he
     have hv := (hx.2 _ _ _ rfl).2 (B7 he)
     subst hv
     have hr := hH.rep id _ hb
     simp only [BRep] at hr
     exact ⟨_, _, h, hrun _ _ _, hint _ hr.1.2.1⟩
    ·cases h
   ·rename_i m k ep' xs hb'
    rw [hb] at hb'; cases hb'
    split at h
    ·rename_i he
     have hv := (hx.2 _ _ _ rfl).2 (B7 he)
     subst hv
     have hr := hH.rep id _ hb
     simp only [BRep] at hr
     exact ⟨_, _, h, hrun _ _ _, hint _ hr.1.2.1⟩
    ·cases h
   ·cases h
  ·cases h
 ·cases h
end
end Go.Proofs.YtcphcfknnfibmaaGreat.V
