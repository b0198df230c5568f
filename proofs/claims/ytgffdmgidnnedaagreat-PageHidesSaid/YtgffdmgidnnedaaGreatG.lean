/- The program as the value reading has it: kinds of elements, functions, and that all fits. Printed by wip/tool/vsym.py. -/
import Derived.KernelRfl
import Derived.Test.YtgffdmgidnnedaaGreatProg
import Derived.Test.YtgffdmgidnnedaaGreatRow
namespace Go.Proofs.YtgffdmgidnnedaaGreat.P
open Go Go.Proofs.YtgffdmgidnnedaaGreat.V
set_option linter.unusedVariables false
set_option linter.unusedSimpArgs false
set_option maxRecDepth 100000
noncomputable section
structure Segment where
  number : Int
  kind : Int
  page : Int
  refs : List Int
  keep : List Bool
  data : List Int

structure EntBitmap where
  key : Int
  w : Int
  h : Int
  pix : List Int

structure Mode where
  kind : List Int
  d : Int
  runs_0 : Int
  runs_1 : Int
  colour : Int

structure Entint where
  key : Int
  val : Int

structure Line where
  length : Int
  bits : Int
  low : Int
  kind : Int

structure Arr4 where
  a0 : Int
  a1 : Int
  a2 : Int
  a3 : Int

structure Code where
  bits : Int
  length : Int

structure Arr2 where
  a0 : Int
  a1 : Int

noncomputable def TT : Nat → Type
  | 0 => Bool
  | 1 => Segment
  | 2 => EntBitmap
  | 3 => List Int
  | 4 => Mode
  | 5 => Entint
  | 6 => Line
  | 7 => List Int
  | 8 => Arr4
  | 9 => Code
  | 10 => Arr2
  | _ => Unit
noncomputable def outs0 (x : Bool) : List (PV TT) := [.bool x]
noncomputable def outs1 (x : Segment) : List (PV TT) := [.int .i64 x.number, .int .i64 x.kind, .int .i64 x.page, .ints .i64 x.refs, .rows 0 x.keep, .ints .u8 x.data]
noncomputable def outs2 (x : EntBitmap) : List (PV TT) := [.int .i64 x.key, .int .i64 x.w, .int .i64 x.h, .ints .u8 x.pix]
noncomputable def outs3 (x : List Int) : List (PV TT) := [.ints .u8 x]
noncomputable def outs4 (x : Mode) : List (PV TT) := [.str x.kind, .int .i64 x.d, .int .i64 x.runs_0, .int .i64 x.runs_1, .int .i64 x.colour]
noncomputable def outs5 (x : Entint) : List (PV TT) := [.int .i64 x.key, .int .i64 x.val]
noncomputable def outs6 (x : Line) : List (PV TT) := [.int .i64 x.length, .int .i64 x.bits, .int .i64 x.low, .int .i64 x.kind]
noncomputable def outs7 (x : List Int) : List (PV TT) := [.str x]
noncomputable def outs8 (x : Arr4) : List (PV TT) := [.int .i64 x.a0, .int .i64 x.a1, .int .i64 x.a2, .int .i64 x.a3]
noncomputable def outs9 (x : Code) : List (PV TT) := [.int .i64 x.bits, .int .i64 x.length]
noncomputable def outs10 (x : Arr2) : List (PV TT) := [.int .i64 x.a0, .int .i64 x.a1]
noncomputable def outs : (i : Nat) → TT i → List (PV TT)
  | 0, x => outs0 x
  | 1, x => outs1 x
  | 2, x => outs2 x
  | 3, x => outs3 x
  | 4, x => outs4 x
  | 5, x => outs5 x
  | 6, x => outs6 x
  | 7, x => outs7 x
  | 8, x => outs8 x
  | 9, x => outs9 x
  | 10, x => outs10 x
  | _, _ => []
noncomputable def inn0 : List (PV TT) → Option Bool
  | [c0] => (V.asBool c0).bind fun y0 => some y0
  | _ => none
noncomputable def inn1 : List (PV TT) → Option Segment
  | [c0, c1, c2, c3, c4, c5] => (V.asInt .i64 c0).bind fun y0 => (V.asInt .i64 c1).bind fun y1 => (V.asInt .i64 c2).bind fun y2 => (V.asInts .i64 c3).bind fun y3 => (V.asRows 0 c4).bind fun y4 => (V.asInts .u8 c5).bind fun y5 => some (Segment.mk y0 y1 y2 y3 y4 y5)
  | _ => none
noncomputable def inn2 : List (PV TT) → Option EntBitmap
  | [c0, c1, c2, c3] => (V.asInt .i64 c0).bind fun y0 => (V.asInt .i64 c1).bind fun y1 => (V.asInt .i64 c2).bind fun y2 => (V.asInts .u8 c3).bind fun y3 => some (EntBitmap.mk y0 y1 y2 y3)
  | _ => none
noncomputable def inn3 : List (PV TT) → Option (List Int)
  | [c0] => (V.asInts .u8 c0).bind fun y0 => some y0
  | _ => none
noncomputable def inn4 : List (PV TT) → Option Mode
  | [c0, c1, c2, c3, c4] => (V.asStr c0).bind fun y0 => (V.asInt .i64 c1).bind fun y1 => (V.asInt .i64 c2).bind fun y2 => (V.asInt .i64 c3).bind fun y3 => (V.asInt .i64 c4).bind fun y4 => some (Mode.mk y0 y1 y2 y3 y4)
  | _ => none
noncomputable def inn5 : List (PV TT) → Option Entint
  | [c0, c1] => (V.asInt .i64 c0).bind fun y0 => (V.asInt .i64 c1).bind fun y1 => some (Entint.mk y0 y1)
  | _ => none
noncomputable def inn6 : List (PV TT) → Option Line
  | [c0, c1, c2, c3] => (V.asInt .i64 c0).bind fun y0 => (V.asInt .i64 c1).bind fun y1 => (V.asInt .i64 c2).bind fun y2 => (V.asInt .i64 c3).bind fun y3 => some (Line.mk y0 y1 y2 y3)
  | _ => none
noncomputable def inn7 : List (PV TT) → Option (List Int)
  | [c0] => (V.asStr c0).bind fun y0 => some y0
  | _ => none
noncomputable def inn8 : List (PV TT) → Option Arr4
  | [c0, c1, c2, c3] => (V.asInt .i64 c0).bind fun y0 => (V.asInt .i64 c1).bind fun y1 => (V.asInt .i64 c2).bind fun y2 => (V.asInt .i64 c3).bind fun y3 => some (Arr4.mk y0 y1 y2 y3)
  | _ => none
noncomputable def inn9 : List (PV TT) → Option Code
  | [c0, c1] => (V.asInt .i64 c0).bind fun y0 => (V.asInt .i64 c1).bind fun y1 => some (Code.mk y0 y1)
  | _ => none
noncomputable def inn10 : List (PV TT) → Option Arr2
  | [c0, c1] => (V.asInt .i64 c0).bind fun y0 => (V.asInt .i64 c1).bind fun y1 => some (Arr2.mk y0 y1)
  | _ => none
noncomputable def inn : (i : Nat) → List (PV TT) → Option (TT i)
  | 0, l => inn0 l
  | 1, l => inn1 l
  | 2, l => inn2 l
  | 3, l => inn3 l
  | 4, l => inn4 l
  | 5, l => inn5 l
  | 6, l => inn6 l
  | 7, l => inn7 l
  | 8, l => inn8 l
  | 9, l => inn9 l
  | 10, l => inn10 l
  | _, _ => none
noncomputable def E : Env := { T := TT, outs := outs, inn := inn, sz := fun i => (getL [1, 6, 4, 1, 5, 2, 4, 1, 4, 2, 2] i).getD 0, flat := fun i => (getL [true, false, false, false, true, true, true, true, true, true, true] i).getD false }
noncomputable def els : List (TypeId × EK) := [(3, .int .i64), (4, .row 0), (5, .int .u8), (9, .row 7), (27, .row 3), (40, .row 1), (51, .row 10), (100, .row 4), (210, .row 8), (216, .row 6), (278, .row 9)]
noncomputable abbrev I6 : TSh := .int .i64
def z75 : List TSh := [.ptr 0 0, I6]
def z74 : List BSh := [.same, .same]
def z73 : List TSh := [.ints .u8, I6]
def z72 : List BSh := [.ints .u8 true]
def z71 : List BSh := [.ints .u8 false]
def z70 : List (Nat × TSh) := [(4, I6), (5, I6)]
def z69 : List TSh := [.ptr 0 0, I6, I6]
def z68 : List BSh := [.ints .i64 false]
def z67 : List TSh := [.ints .u8, I6, I6]
def z66 : List TSh := [I6, I6, .ints .u8]
def z65 : List BSh := [.same, .same, .same]
def z64 : List TSh := [.int .u64, .int .u64]
def z63 : List BSh := [.mpr (KK.int .i64) 5]
def z62 : List TSh := [.ptr 0 0, .ints .i64]
def z61 : List TSh := [.agg [I6, .ints .i64]]
def z60 : List TSh := [I6, I6, I6, .bool, I6]
def z59 : List BSh := [.same, .ints .u8 false]
def z58 : List BSh := [.box z67]
def z57 : List TSh := [.agg z66]
def z56 : List TSh := [.ints .u8, I6, .litb true]
def z55 : List TSh := [I6, I6, I6, I6, I6, .bool]
def z54 : List BSh := [.same, .same, .same, .same]
def z53 : List BSh := [.rows 9 true, .box [I6, I6]]
def z52 : List TSh := [.agg z66, I6]
def z51 : List BSh := [.same, .gone, .ints .u8 false]
def z50 : List BSh := [.box [.arr 1], .ints .u8 false]
def z49 : List BSh := [.box z56]
def z48 : List TSh := [.agg z66, I6, I6]
def z47 : List BSh := [.same, .same, .same, .same, .same]
def z46 : List BSh := [.same, .same, .same, .ints .u8 true]
def z45 : List BSh := [.same, .same, .same, .ints .u8 false]
def z44 : List BSh := [.same, .same, .same, .same, .same, .same]
def z43 : List BSh := [.same, .same, .same, .ints .u8 true, .same]
def z42 : List TSh := [I6, I6, I6, .ints .i64, .rows 0, .ints .u8]
def z41 : List BSh := [.same, .box [.rows 6, .arr 2], .rows 7 false]
def z40 : List BSh := [.same, .box [I6, I6, .arr 2], .ints .u8 false]
def z39 : List BSh := [.same, .same, .same, .same, .same, .same, .same]
def z38 : List BSh := [.same, .same, .same, .same, .ints .u8 true, .same]
def z37 : List TSh := [.agg z42]
def z36 : List BSh := [.same, .box z56, .box [.str]]
def z35 : List BSh := [.same, .same, .box [I6, I6, .arr 3], .ints .u8 false]
def z34 : List BSh := [.box [I6, I6, I6, .ints .u8, .arr 1], .ints .u8 false]
def z33 : List TSh := [I6, I6, I6, .bool, I6, I6, I6, .arr 1, I6, I6, .ints .u8]
def z32 : List TSh := [I6, I6, I6, .bool, I6, I6, I6, .ints .u8, I6, I6, .ints .u8]
def z31 : List TSh := [.ptr 0 0, .agg z42]
def z30 : List BSh := [.box z32]
def z29 : List TSh := [.ptr 0 0, .agg z42, .ptr 4 0]
def z28 : List TSh := [I6, I6, I6, .ints .u8, .bool, .bool, I6, I6, .mapr 1, .mapr 2, .mapr 3]
def z27 : List TSh := [.ptr 1 0, .rows 6, .rows 7, .rows 6, .rows 7, .rows 6, .rows 7, .rows 7]
def z26 : List BSh := [.box z33, .ints .u8 true]
def z25 : List BSh := [.box z33, .ints .u8 false]
def z24 : List BSh := [.same, .same, .same, .same, .box z67, .same, .same, .same, .box z66]
def z23 : List BSh := [.box z27, .box z56]
def z22 : List BSh := [.box z28, .mp .i64, .mp .i64, .mpr (KK.int .i64) 2]
def z21 : List BSh := [.box z27, .box z56, .ints .u8 false]
def z20 : List BSh := [.box z28, .mp .i64, .mp .i64, .mpr (KK.int .i64) 2, .box z67]
def z19 : List BSh := [.box z27, .box z56, .box [I6, I6, I6, .ints .u8, .arr 3], .ints .u8 false]
def z18 : List BSh := [.box [I6, I6, .arr 6], .same, .same, .box [.ptr 4 0, .rows 6, .rows 7, .rows 6, .rows 7, .rows 6, .rows 7, .rows 7], .box z56, .gone, .ints .u8 false]
def z17 : List BSh := [.same, .same, .box [I6, I6, .arr 7], .mp .i64, .mp .i64, .mpr (KK.int .i64) 2, .box [I6, I6, I6, .ints .u8, .bool, .bool, I6, I6, .mapr 3, .mapr 4, .mapr 5], .ints .u8 false]
def z16 : List TSh := [.lit .i64 2048, .lit .i64 1792, .lit .i64 1568, .lit .i64 1372, .lit .i64 1201, .lit .i64 1051, .lit .i64 920, .lit .i64 805, .lit .i64 705, .lit .i64 617, .lit .i64 540, .lit .i64 473, .lit .i64 414, .lit .i64 363, .lit .i64 318, .lit .i64 279, .lit .i64 245, .lit .i64 215, .lit .i64 189, .lit .i64 166, .lit .i64 146, .lit .i64 128, .lit .i64 112, .lit .i64 98, .lit .i64 86, .lit .i64 76, .lit .i64 67, .lit .i64 59, .lit .i64 52, .lit .i64 46, .lit .i64 41, .lit .i64 36]
def z15 : List TSh := [I6, .arr 1, .lit .i64 2048, .lit .i64 1792, .lit .i64 1568, .lit .i64 1372, .lit .i64 1201, .lit .i64 1051, .lit .i64 920, .lit .i64 805, .lit .i64 705, .lit .i64 617, .lit .i64 540, .lit .i64 473, .lit .i64 414, .lit .i64 363, .lit .i64 318, .lit .i64 279, .lit .i64 245, .lit .i64 215, .lit .i64 189, .lit .i64 166, .lit .i64 146, .lit .i64 128, .lit .i64 112, .lit .i64 98, .lit .i64 86, .lit .i64 76, .lit .i64 67, .lit .i64 59, .lit .i64 52, .lit .i64 46, .lit .i64 41, .lit .i64 36, .int .u64, .int .u64, .arr 2, .litb true]
def z14 : List TSh := [I6, .arr 3, .lit .i64 2048, .lit .i64 1792, .lit .i64 1568, .lit .i64 1372, .lit .i64 1201, .lit .i64 1051, .lit .i64 920, .lit .i64 805, .lit .i64 705, .lit .i64 617, .lit .i64 540, .lit .i64 473, .lit .i64 414, .lit .i64 363, .lit .i64 318, .lit .i64 279, .lit .i64 245, .lit .i64 215, .lit .i64 189, .lit .i64 166, .lit .i64 146, .lit .i64 128, .lit .i64 112, .lit .i64 98, .lit .i64 86, .lit .i64 76, .lit .i64 67, .lit .i64 59, .lit .i64 52, .lit .i64 46, .lit .i64 41, .lit .i64 36, .int .u64, .int .u64, .ints .u8, I6, .int .u64, I6, .bool, .litb true]
def z13 : List TSh := [I6, .arr 1, .lit .i64 2048, .lit .i64 1792, .lit .i64 1568, .lit .i64 1372, .lit .i64 1201, .lit .i64 1051, .lit .i64 920, .lit .i64 805, .lit .i64 705, .lit .i64 617, .lit .i64 540, .lit .i64 473, .lit .i64 414, .lit .i64 363, .lit .i64 318, .lit .i64 279, .lit .i64 245, .lit .i64 215, .lit .i64 189, .lit .i64 166, .lit .i64 146, .lit .i64 128, .lit .i64 112, .lit .i64 98, .lit .i64 86, .lit .i64 76, .lit .i64 67, .lit .i64 59, .lit .i64 52, .lit .i64 46, .lit .i64 41, .lit .i64 36, .int .u64, .int .u64, .ints .u8, I6, .int .u64, I6, .bool, .litb true]
def z12 : List TSh := [I6, .arr 1, .lit .i64 2048, .lit .i64 1792, .lit .i64 1568, .lit .i64 1372, .lit .i64 1201, .lit .i64 1051, .lit .i64 920, .lit .i64 805, .lit .i64 705, .lit .i64 617, .lit .i64 540, .lit .i64 473, .lit .i64 414, .lit .i64 363, .lit .i64 318, .lit .i64 279, .lit .i64 245, .lit .i64 215, .lit .i64 189, .lit .i64 166, .lit .i64 146, .lit .i64 128, .lit .i64 112, .lit .i64 98, .lit .i64 86, .lit .i64 76, .lit .i64 67, .lit .i64 59, .lit .i64 52, .lit .i64 46, .lit .i64 41, .lit .i64 36, .int .u64, .int .u64, .arr 2, I6, .int .u64, I6, .litb false, .litb true]
def z11 : List BSh := [.box z15, .ints .i64 true, .ints .u8 true]
def z10 : List BSh := [.box z15, .ints .i64 true, .ints .u8 false]
def z9 : List BSh := [.box z15, .ints .i64 false, .ints .u8 false]
def z8 : List BSh := [.box z13, .ints .i64 true]
def z7 : List BSh := [.box z13, .ints .i64 false]
def z6 : List BSh := [.box z13, .ints .i64 true, .same]
def z5 : List BSh := [.box z15, .ints .i64 false, .ints .u8 true, .same, .same, .same]
def z4 : List BSh := [.same, .same, .box z14, .ints .i64 false]
def z3 : List BSh := [.box z12, .ints .i64 true, .ints .u8 true]
def z2 : List BSh := [.box z15, .ints .i64 true, .ints .u8 false, .same, .same, .same, .box z32]
def z1 : List BSh := [.box z33, .ints .u8 true, .box z14, .ints .i64 false]
def z0 : List BSh := [.box z13, .ints .i64 false, .same, .same, .box [I6, I6, .arr 9], .same, .same, .ints .u8 true, .box [I6, I6, I6, .bool, I6, I6, I6, .arr 7, I6, I6, .ints .u8], .ints .u8 false]
noncomputable def insts : List FInst := [
  { fid := 6, sig := { ps := [.agg z66, .agg z66, .agg z60], rs := [.bool] }, ann := { calls := [(19, 1), (23, 1), (38, 2), (44, 3), (54, 4), (66, 5), (76, 6), (78, 6), (82, 7), (90, 8), (109, 2), (113, 6), (118, 7), (127, 9), (130, 2)], joins := [(2, [(.normal, { tm := [(37, .bool)], bs := z65 })]), (12, [(.normal, { tm := [(74, .bool)], bs := z65 })]), (20, [(.normal, { tm := [(106, .bool)], bs := z47 })])] } },
  { fid := 9, sig := { ps := z57, rs := [.bool] }, ann := { calls := [(8, 10)], loops := [(4, { tm := [(3, I6)], bs := [.same] }, [(.exit 0, { tm := [], bs := [.same] }), (.ret, { tm := [(2, .bool)], bs := [.same] })])], joins := [(2, [(.normal, { tm := [(20, .bool)], bs := [.same] })])] } },
  { fid := 8, sig := { rs := [.bool] }, ann := { calls := [(4, 3), (12, 11)] } },
  { fid := 11, sig := { ps := [I6, I6, I6, I6], rs := z73 }, ann := { calls := [(17, 12), (49, 13), (56, 14)], joins := [(4, [(.normal, { tm := [(41, .bool)], bs := z74 })])] } },
  { fid := 12, sig := { ps := [.agg z55, .bool, .agg z66], rs := z73 }, ann := { calls := [(12, 15), (30, 16), (36, 17), (43, 18), (46, 19), (48, 14), (52, 20)], joins := [(2, [(.normal, { tm := [(27, .bool)], bs := z74 })]), (67, [(.normal, { tm := [(8, .ints .u8), (9, I6)], bs := z74 })])] } },
  { fid := 19, sig := { ps := [.agg z55, .agg z60, .agg z66, .agg z66], rs := z73 }, ann := { calls := [(14, 15), (34, 21), (41, 18), (47, 19), (54, 14), (61, 22), (65, 20)], joins := [(2, [(.normal, { tm := [(29, .bool)], bs := z54 })])] } },
  { fid := 13, sig := { ps := [I6, I6, I6, .ints .i64, .ints .u8], rs := z37 }, ann := { calls := [(17, 23)] } },
  { fid := 14, sig := { ps := [.arr 0, I6], pb := [.rows 1 false], rs := z48, rb := [.rows 1 true] }, ann := { calls := [(15, 24), (34, 25), (40, 26), (64, 27)], loops := [(10, { tm := [(48, I6)], bs := z17 }, [(.exit 1, { tm := [], bs := z17 }), (.ret, { tm := [(5, I6), (6, I6)], bs := z17 })])], joins := [(8, [(.normal, { tm := [(23, .bool)], bs := z65 })]), (24, [(.normal, { tm := [(61, .bool)], bs := [.same, .same, .same, .same, .same, .same, .same, .same, .same] })])], slots := [(41, 0), (42, 1), (43, 2)], pads := [(8, 3)] } },
  { fid := 20, sig := { ps := z57, rs := [I6] }, ann := { loops := [(3, { tm := [(3, I6), (4, I6)], bs := [.same] }, [(.exit 0, { tm := [(3, I6)], bs := [.same] })])] } },
  { fid := 15, sig := { ps := [.agg z66, .agg z66], rs := [.bool] }, ann := {} },
  { fid := 10, sig := { ps := [I6, I6], rs := [.bool] }, ann := {} },
  { fid := 21, sig := { ps := [.ints .u8, .ints .u8], rs := [.bool] }, ann := {} },
  { fid := 22, sig := { ps := [I6, I6, I6], rs := [.agg [I6, I6, .arr 0], I6], rb := z71 }, ann := { calls := [(29, 28)], loops := [(5, { tm := [(35, I6)], bs := [.same, .ints .u8 true, .same] }, [(.exit 0, { tm := [], bs := [.same, .ints .u8 true, .same] })])], joins := [(2, [(.normal, { tm := [(24, .bool)], bs := [.same] })])] } },
  { fid := 23, sig := { ps := z62, pb := z50, rb := z50 }, ann := { calls := [(16, 29)], loops := [(1, { tm := [(10, I6)], bs := z50 }, [(.exit 0, { tm := [], bs := z50 })])] } },
  { fid := 24, sig := { ps := z62, pb := z50, rb := z50 }, ann := { loops := [(1, { tm := [(8, I6)], bs := z50 }, [(.exit 0, { tm := [], bs := z50 })])] } },
  { fid := 25, sig := { ps := [.agg z55], rs := [.bool] }, ann := { calls := [(10, 12), (18, 30), (23, 30)] } },
  { fid := 26, sig := { ps := z57, rs := z73 }, ann := { calls := [(10, 31), (13, 32), (20, 33), (31, 34), (36, 35)], loops := [(5, { tm := [(4, .arr 1), (15, I6)], bs := z59 }, [(.exit 0, { tm := [(4, .arr 1)], bs := z59 })]), (8, { tm := [(4, .arr 1), (22, I6)], bs := z59 }, [(.exit 2, { tm := [(4, .arr 1)], bs := z59 })])] } },
  { fid := 27, sig := { ps := z57, rs := z73 }, ann := { calls := [(11, 31), (17, 32), (25, 36), (33, 37), (39, 35)], loops := [(6, { tm := [(4, .arr 2), (5, .ints .u8), (19, I6)], bs := z51 }, [(.exit 0, { tm := [(4, .arr 2)], bs := z51 })]), (9, { tm := [(4, .arr 2), (27, I6)], bs := z51 }, [(.exit 2, { tm := [(4, .arr 2)], bs := z51 })])] } },
  { fid := 28, sig := { ps := [.ptr 0 0, .agg z55], pb := z50, rb := z50 }, ann := { calls := [(10, 13), (17, 22), (23, 19), (26, 14)] } },
  { fid := 29, sig := { ps := [.bool, I6], rs := [I6] }, ann := {} },
  { fid := 30, sig := { ps := [.ptr 0 0, .ints .u8, I6], pb := z50, rs := z73, rb := [.gone, .gone] }, ann := {} },
  { fid := 38, sig := { ps := [.agg z60, .agg z66, .agg z66], rs := z73 }, ann := { calls := [(12, 38), (16, 39), (17, 40), (24, 41), (29, 42)] } },
  { fid := 39, sig := { ps := z62, pb := z50, rb := z50 }, ann := { calls := [(16, 43)], loops := [(1, { tm := [(10, I6)], bs := z50 }, [(.exit 0, { tm := [], bs := z50 })])] } },
  { fid := 31, sig := { ps := [I6], rs := [.rows 0] }, ann := { loops := [(3, { tm := [(3, .arr 0), (4, I6)], bs := [.rows 0 false] }, [(.exit 0, { tm := [(3, .arr 0)], bs := [.rows 0 false] })])] } },
  { fid := 32, sig := { ps := [.rows 1], rs := [I6, I6] }, ann := { calls := [(8, 44)] } },
  { fid := 33, sig := { ps := [.rows 1, .fn 34 [.ptr 0 0]], pb := [.box [I6]], rs := [.bool], rb := [.box [I6]] }, ann := { calls := [(7, 45)] } },
  { fid := 35, sig := { ps := [.rows 1, I6], rs := [I6] }, ann := { calls := [(29, 46)], loops := [(3, { tm := [(5, I6), (13, I6)], bs := [] }, [(.exit 0, { tm := [(5, I6)], bs := [] })])], joins := [(10, [(.normal, { tm := [(25, .bool)], bs := [.same] })])] } },
  { fid := 36, sig := { ps := z31, pb := z22, rs := [I6], rb := z22 }, ann := { calls := [(9, 47), (24, 51), (60, 48), (66, 49), (71, 50), (77, 51), (82, 52), (88, 51), (94, 53), (103, 53)] } },
  { fid := 40, sig := { ps := [I6, I6], rs := [.agg [I6, I6, .arr 0], I6], rb := z71 }, ann := { calls := [(8, 54)] } },
  { fid := 41, sig := { ps := [I6], rs := z73 }, ann := { loops := [(5, { tm := [(0, I6), (4, .arr 1)], bs := [.gone, .ints .u8 false] }, [(.exit 0, { tm := [(4, .arr 1)], bs := [.gone, .ints .u8 false] })])], joins := [(2, [(.normal, { tm := [(10, .bool)], bs := [] })])] } },
  { fid := 42, sig := { ps := [I6], rs := [.bool] }, ann := {} },
  { fid := 43, sig := { ps := z57, rs := [.bool] }, ann := { calls := [(9, 54)], loops := [(4, { tm := [(25, I6)], bs := [.same] }, [(.exit 0, { tm := [], bs := [.same] }), (.ret, { tm := [(2, .bool)], bs := [.same] })])], joins := [(2, [(.normal, { tm := [(21, .bool)], bs := [.same] })])] } },
  { fid := 44, sig := { ps := z57, rs := [.rows 3] }, ann := { loops := [(3, { tm := [(3, .arr 1), (7, I6)], bs := [.same, .rows 3 false] }, [(.exit 0, { tm := [(3, .arr 1)], bs := [.same, .rows 3 false] })])] } },
  { fid := 45, sig := { ps := [.ints .u8], rs := [.ints .i64] }, ann := { loops := [(4, { tm := [(3, .arr 0), (4, .int .u8), (5, I6)], bs := z68 }, [(.exit 0, { tm := [(3, .arr 0)], bs := z68 })]), (6, { tm := [(5, I6)], bs := [.same] }, [(.exit 2, { tm := [(5, I6)], bs := [.same] })])] } },
  { fid := 46, sig := { ps := [I6, I6], rs := [.ints .u8] }, ann := { calls := [(12, 55), (20, 56), (25, 57), (29, 56)] } },
  { fid := 47, sig := { ps := [.ints .u8], rs := z73 }, ann := { loops := [(3, { tm := [(14, I6)], bs := z72 }, [(.exit 0, { tm := [], bs := z72 }), (.ret, { tm := [(2, .ints .u8), (3, I6)], bs := z72 })])] } },
  { fid := 48, sig := { ps := [.ints .u8, .ints .u8], rs := [.rows 4] }, ann := { calls := [(26, 58), (33, 59), (37, 59)], loops := [(4, { tm := [(5, .arr 0), (6, I6), (7, .int .u8)], bs := [.rows 4 false] }, [(.exit 0, { tm := [(5, .arr 0)], bs := [.rows 4 false] })])], joins := [(8, [(.normal, { tm := [(21, .bool)], bs := [.same] })]), (26, [(.normal, { tm := [(62, .bool)], bs := [.same] })])] } },
  { fid := 49, sig := { ps := [.agg [.str, I6, I6, I6, I6]], rs := [.ints .u8] }, ann := { calls := [(7, 60), (10, 61), (16, 60), (17, 60), (23, 34), (31, 34)] } },
  { fid := 71, sig := { ps := [.agg z60], rs := [.bool] }, ann := {} },
  { fid := 72, sig := { ps := [.agg z60], rs := z61 }, ann := { calls := [(10, 62), (12, 63)], slots := [(3, 0)], pads := [(1, 1)] } },
  { fid := 68, sig := { ps := z61, rs := [.ptr 0 0, .lit .i64 0], rb := z9, more := [([.nil, .lit .i64 10], [])] }, ann := { calls := [(5, 64), (8, 65)] } },
  { fid := 73, sig := { ps := [.ptr 0 0, I6, .agg z60, .agg z66, .agg z66], pb := z9, rs := [I6], rb := z9 }, ann := { calls := [(20, 66), (24, 38), (28, 31), (32, 31), (37, 67), (40, 68), (50, 69), (61, 70), (70, 62), (73, 66), (83, 71), (97, 72), (105, 73), (107, 66)], loops := [(11, { tm := [(53, I6)], bs := z2 }, [(.exit 1, { tm := [], bs := z2 })]), (20, { tm := [(76, I6)], bs := z2 }, [(.exit 3, { tm := [], bs := z2 })])], joins := [(10, [(.normal, { tm := [(26, .bool)], bs := z44 })]), (26, [(.normal, { tm := [(13, .bool)], bs := [.same, .same, .same, .same, .same, .same, .box z32] })]), (37, [(.normal, { tm := [], bs := z5 }), (.ret, { tm := [(10, I6)], bs := z5 })]), (45, [(.normal, { tm := [], bs := z5 }), (.ret, { tm := [(10, I6)], bs := z5 })]), (46, [(.normal, { tm := [(91, .bool)], bs := z39 })]), (129, [(.normal, { tm := [], bs := [.box z15, .ints .i64 true, .ints .u8 false, .same, .same, .same, .same] })]), (131, [(.normal, { tm := [(14, I6)], bs := z39 })])], orders := [(24, [5, 10], [[0, 1, 2, 3, 4, 5, 6, 7, 8, 9, 10, 11, 12, 13, 14, 15], [0, 1, 2, 3, 4, 7, 8, 9, 10, 5, 6, 11, 12, 13, 14, 15]])] } },
  { fid := 70, sig := { ps := [.ptr 0 0], pb := z9, rs := [.ints .u8], rb := z11 }, ann := { calls := [(8, 74)], loops := [(5, { tm := [(3, .arr 3), (15, I6)], bs := z46 }, [(.exit 0, { tm := [(3, .arr 3)], bs := z46 }), (.ret, { tm := [(2, .arr 3)], bs := z45 })]), (10, { tm := [(3, .arr 3), (38, I6)], bs := z45 }, [(.exit 2, { tm := [(3, .arr 3)], bs := z45 })])] } },
  { fid := 74, sig := { ps := [I6], rs := z73 }, ann := { calls := [(13, 29), (26, 29)], joins := [(2, [(.normal, { tm := [(4, .bool)], bs := [] })]), (6, [(.normal, { tm := [(16, .bool)], bs := [] })])] } },
  { fid := 50, sig := { ps := [.rows 1], rs := [.mapr 0, I6], rb := z63 }, ann := { calls := [(19, 75)], loops := [(4, { tm := [(5, I6), (11, I6)], bs := z63 }, [(.exit 0, { tm := [], bs := z63 }), (.ret, { tm := [(2, .mapr 0), (3, I6)], bs := z63 })])] } },
  { fid := 51, sig := { ps := [.rows 1, .fn 34 [.ptr 0 0]], pb := [.box [I6]], rs := [I6], rb := [.box [I6]] }, ann := { calls := [(16, 76)], loops := [(2, { tm := [(8, I6)], bs := [.box [I6]] }, [(.exit 0, { tm := [], bs := [.box [I6]] }), (.ret, { tm := [(4, I6)], bs := [.box [I6]] })])] } },
  { fid := 52, sig := { ps := z73, rs := [I6, I6, I6] }, ann := { loops := [(4, { tm := [(4, I6), (17, I6)], bs := [] }, [(.exit 0, { tm := [], bs := [] }), (.ret, { tm := [(4, I6), (5, I6), (6, I6)], bs := [] })])], joins := [(2, [(.normal, { tm := [(16, .bool)], bs := [] })]), (22, [(.normal, { tm := [(52, .bool)], bs := [] })])] } },
  { fid := 53, sig := { ps := z31, pb := z22, rs := [I6], rb := z22 }, ann := { joins := [(4, [(.normal, { tm := [(25, .bool)], bs := z47 })])] } },
  { fid := 59, sig := { ps := z29, pb := z20, rb := z20 }, ann := { calls := [(14, 77), (16, 78), (26, 79), (28, 79), (53, 80), (76, 51), (81, 81), (87, 82), (94, 51), (99, 83)], joins := [(22, [(.normal, { tm := [(77, .bool)], bs := [.same, .same, .same, .same, .box z67, .same, .same, .same, .same] })]), (24, [(.normal, { tm := [(11, .ptr 9 0), (12, I6)], bs := [.same, .same, .same, .same, .box z67, .same, .same, .same, .same, .box z66] })]), (79, [(.normal, { tm := [], bs := z24 }), (.ret, { tm := [], bs := z24 })])], orders := [(12, [2, 8, 12], [[0, 1, 2, 3, 4, 5, 6, 7, 8, 9, 10, 11, 12, 13, 14], [0, 1, 2, 3, 4, 5, 6, 7, 12, 8, 9, 10, 11, 13, 14], [0, 1, 3, 4, 5, 6, 7, 12, 2, 8, 9, 10, 11, 13, 14]])] } },
  { fid := 60, sig := { ps := z29, pb := z20, rb := z20 }, ann := { calls := [(13, 77), (15, 78), (21, 51), (28, 81), (33, 84), (33, 85), (41, 51), (48, 81), (51, 51), (57, 83)], joins := [(14, [(.normal, { tm := [(9, .ptr 7 0), (10, I6), (11, I6)], bs := [.same, .same, .same, .same, .box z67, .same, .same, .box z66] })]), (16, [(.normal, { tm := [(52, .bool)], bs := [.same, .same, .same, .same, .box z67, .same, .same, .same] })])], orders := [(7, [2, 7, 12], [[0, 1, 2, 3, 4, 5, 6, 7, 8, 9, 10, 11, 12, 13, 14, 15], [0, 1, 2, 3, 4, 5, 6, 12, 7, 8, 9, 10, 11, 13, 14, 15], [0, 1, 3, 4, 5, 6, 12, 2, 7, 8, 9, 10, 11, 13, 14, 15]])] } },
  { fid := 61, sig := { ps := [.ptr 0 0, .ptr 4 0], pb := z20, rb := z20 }, ann := { calls := [(8, 86), (10, 86), (21, 87), (23, 78), (25, 88), (37, 12)], joins := [(27, [(.normal, { tm := [(5, I6)], bs := z47 })])] } },
  { fid := 62, sig := { ps := [.ptr 0 0, .bool, I6], pb := z58, rs := [.bool], rb := z58 }, ann := { calls := [(11, 89)] } },
  { fid := 63, sig := { ps := [.ptr 0 0, .ptr 4 0], pb := z20, rb := z20 }, ann := { calls := [(6, 86), (8, 88), (16, 51)] } },
  { fid := 64, sig := { ps := z29, pb := z20, rb := z20 }, ann := { calls := [(7, 88), (13, 51)] } },
  { fid := 75, sig := { ps := [I6, I6], rs := [.bool] }, ann := {} },
  { fid := 76, sig := { ps := [I6], rs := [.rows 6, I6] }, ann := { calls := [(14, 90), (23, 90), (32, 90)] } },
  { fid := 77, sig := { ps := [.rows 6, .agg [.bool, I6]], rs := [.arr 0, I6], rb := z71 }, ann := { calls := [(7, 91), (11, 92), (13, 93)] } },
  { fid := 78, sig := { ps := [I6], rs := [.rows 6] }, ann := {} },
  { fid := 79, sig := { ps := [.ints .u8, I6, .int .u8], rs := [I6, I6] }, ann := { calls := [(43, 59)], loops := [(2, { tm := [(6, I6)], bs := [] }, [(.exit 0, { tm := [(6, I6)], bs := [] })])], joins := [(33, [(.normal, { tm := [(8, .int .u8)], bs := [] })])] } },
  { fid := 80, sig := { ps := [.ints .u8, I6, .int .u8], rs := [I6] }, ann := { loops := [(2, { tm := [(7, I6)], bs := [] }, [(.exit 0, { tm := [(7, I6)], bs := [] })])] } },
  { fid := 81, sig := { ps := [.str], rs := [.arr 0], rb := z71 }, ann := { loops := [(3, { tm := [(9, I6)], bs := z72 }, [(.exit 0, { tm := [], bs := z72 })])] } },
  { fid := 82, sig := { rs := [.rows 7] }, ann := {} },
  { fid := 118, sig := { ps := [I6], rs := [I6] }, ann := { calls := [(4, 94)] } },
  { fid := 66, sig := { ps := [I6, I6], rs := [.agg [I6, .arr 0], I6], rb := z68 }, ann := { joins := [(2, [(.normal, { tm := [(19, .bool)], bs := [.same] })])] } },
  { fid := 109, sig := { ps := z61, rs := [.bool] }, ann := { loops := [(7, { tm := [(26, I6)], bs := [.same] }, [(.exit 0, { tm := [], bs := [.same] }), (.ret, { tm := [(2, .bool)], bs := [.same] })])], joins := [(2, [(.normal, { tm := [(19, .bool)], bs := [.same] })]), (45, [(.normal, { tm := [(3, I6)], bs := [.same] })])] } },
  { fid := 110, sig := { ps := z61, rs := [.agg [I6, .arr 0, .lit .i64 2048, .lit .i64 1792, .lit .i64 1568, .lit .i64 1372, .lit .i64 1201, .lit .i64 1051, .lit .i64 920, .lit .i64 805, .lit .i64 705, .lit .i64 617, .lit .i64 540, .lit .i64 473, .lit .i64 414, .lit .i64 363, .lit .i64 318, .lit .i64 279, .lit .i64 245, .lit .i64 215, .lit .i64 189, .lit .i64 166, .lit .i64 146, .lit .i64 128, .lit .i64 112, .lit .i64 98, .lit .i64 86, .lit .i64 76, .lit .i64 67, .lit .i64 59, .lit .i64 52, .lit .i64 46, .lit .i64 41, .lit .i64 36, .int .u64, .int .u64]], rb := z68 }, ann := { calls := [(4, 95), (5, 96)] } },
  { fid := 114, sig := { ps := z69, pb := z9, rs := [I6], rb := z10 }, ann := { calls := [(9, 74), (41, 97), (42, 98), (46, 99), (55, 100)], loops := [(6, { tm := [], bs := z10 }, [(.exit 1, { tm := [], bs := z10 })])], joins := [(6, [(.normal, { tm := [(10, .bool)], bs := z65 })]), (15, [(.normal, { tm := [], bs := z65 }), (.ret, { tm := [(6, I6)], bs := z65 })])], orders := [(7, [4, 8], [[0, 1, 2, 3, 4, 5, 6, 7, 8, 9, 10, 11, 12, 13], [0, 1, 2, 3, 5, 6, 7, 8, 4, 9, 10, 11, 12, 13]])] } },
  { fid := 120, sig := { ps := [.ptr 0 0], pb := z9, rs := z61, rb := [.box z15, .ints .i64 false, .ints .u8 true] }, ann := { calls := [(4, 74), (11, 95)] } },
  { fid := 119, sig := { ps := [.agg [I6, .ints .i64], I6, .agg z60], rs := [.bool] }, ann := { calls := [(16, 62)] } },
  { fid := 121, sig := { ps := [.agg z60, I6, I6, .ints .u8, .agg z66], rs := [.ptr 0 0], rb := z30 }, ann := {} },
  { fid := 122, sig := { ps := z75, pb := z30, rs := [.bool], rb := z30 }, ann := { calls := [(20, 71), (32, 73)], loops := [(2, { tm := [(13, I6)], bs := z30 }, [(.exit 0, { tm := [], bs := z30 }), (.ret, { tm := [(4, .bool)], bs := z30 })])] } },
  { fid := 123, sig := { ps := z69, pb := z30, rs := [.int .u8, .bool], rb := z30 }, ann := { calls := [(28, 73), (58, 73)], loops := [(3, { tm := [(29, I6)], bs := [.same] }, [(.exit 0, { tm := [], bs := [.same] }), (.ret, { tm := [(6, .int .u8), (7, .bool)], bs := [.same] })])] } },
  { fid := 124, sig := { ps := z69, pb := z30, rs := [I6], rb := z30 }, ann := { calls := [(17, 94), (37, 73), (41, 101), (73, 73)], loops := [(3, { tm := [(7, I6), (19, I6)], bs := [.same] }, [(.exit 0, { tm := [(7, I6)], bs := [.same] })]), (8, { tm := [(7, I6), (43, I6)], bs := [.same] }, [(.exit 2, { tm := [(7, I6)], bs := [.same] })])] } },
  { fid := 125, sig := { ps := z48, rs := [.int .u8] }, ann := { joins := [(2, [(.normal, { tm := [(24, .bool)], bs := [.same] })])] } },
  { fid := 117, sig := { ps := [.ptr 0 0], pb := z9, rs := [.bool], rb := z11 }, ann := {} },
  { fid := 83, sig := { ps := [.mapr 0, .agg z42, I6], pb := z63, rs := [.bool], rb := z63 }, ann := { calls := [(14, 102)], loops := [(4, { tm := [(25, I6)], bs := z74 }, [(.exit 0, { tm := [], bs := z74 }), (.ret, { tm := [(6, .bool)], bs := z74 })]), (11, { tm := [(51, I6)], bs := [.mpr (KK.int .i64) 5, .same] }, [(.exit 2, { tm := [], bs := [.mpr (KK.int .i64) 5, .same] })])], joins := [(2, [(.normal, { tm := [(21, .bool)], bs := z74 })])] } },
  { fid := 34, sig := { ps := [.agg z42, .ptr 0 0], pb := [.box [I6]], rs := [.bool], rb := [.box [I6]] }, ann := {} },
  { fid := 91, sig := { ps := [.ptr 0 0], pb := z58, rs := [.agg z55], rb := z58 }, ann := { calls := [(6, 86), (8, 86), (15, 87), (17, 79), (22, 30), (23, 51), (25, 79), (30, 30), (31, 51), (33, 78), (38, 51)] } },
  { fid := 84, sig := { ps := z75, pb := z58, rs := [I6], rb := z58 }, ann := { calls := [(22, 89), (45, 51)] } },
  { fid := 92, sig := { ps := [.ptr 0 0], pb := z58, rs := [I6], rb := z58 }, ann := { calls := [(20, 103), (28, 89)] } },
  { fid := 101, sig := { ps := [.agg z66, I6, I6, I6, I6], rs := z52 }, ann := { calls := [(17, 31), (30, 104), (37, 28), (60, 105)], loops := [(7, { tm := [(43, I6)], bs := z43 }, [(.exit 1, { tm := [], bs := z43 })])], joins := [(6, [(.normal, { tm := [(20, .bool)], bs := z74 })]), (31, [(.normal, { tm := [], bs := z40 }), (.ret, { tm := [(11, I6)], bs := z40 })])] } },
  { fid := 89, sig := { ps := [.ptr 0 0], pb := z58, rs := [.ints .u8], rb := z58 }, ann := {} },
  { fid := 102, sig := { ps := [.agg z60, .ints .u8, I6, I6, .agg z66], rs := z52 }, ann := { calls := [(15, 38), (20, 39), (22, 106), (30, 107)] } },
  { fid := 95, sig := { ps := [.ptr 0 0, .agg z42, .agg z55, .agg z66], pb := z22, rb := z22 }, ann := { calls := [(30, 108)] } },
  { fid := 104, sig := { ps := z67, rs := z48 }, ann := { calls := [(12, 109)] } },
  { fid := 103, sig := { ps := z67, rs := z48 }, ann := { calls := [(12, 110)] } },
  { fid := 86, sig := { ps := [.ptr 0 0], pb := z58, rs := [I6], rb := z58 }, ann := { calls := [(20, 46), (28, 89)] } },
  { fid := 105, sig := { ps := z69, pb := z58, rb := z58 }, ann := { calls := [(16, 12), (22, 51)] } },
  { fid := 106, sig := { ps := [.ptr 0 0], pb := z58, rb := z58 }, ann := { calls := [(13, 51)] } },
  { fid := 107, sig := { ps := z75, pb := z58, rb := z58 }, ann := {} },
  { fid := 126, sig := { ps := [.rows 8], rs := [.rows 6] }, ann := { loops := [(3, { tm := [(3, .arr 0), (8, I6)], bs := [.rows 6 false] }, [(.exit 0, { tm := [(3, .arr 0)], bs := [.rows 6 false] })])] } },
  { fid := 127, sig := { ps := [.rows 6], rs := [.bool] }, ann := { calls := [(18, 111), (23, 112)], loops := [(4, { tm := [(13, I6)], bs := [] }, [(.exit 0, { tm := [], bs := [] }), (.ret, { tm := [(2, .bool)], bs := [] })])] } },
  { fid := 129, sig := { ps := [.rows 6], rs := [.rows 9] }, ann := { loops := [(4, { tm := [(5, I6)], bs := z53 }, [(.exit 0, { tm := [], bs := z53 })]), (8, { tm := [(27, I6)], bs := z53 }, [(.exit 2, { tm := [], bs := z53 })])] } },
  { fid := 128, sig := { ps := [.rows 6, .rows 9, .agg [.bool, I6]], rs := [.arr 0, I6], rb := z71 }, ann := { calls := [(13, 113), (28, 114), (35, 114)] } },
  { fid := 183, sig := { ps := [I6], rs := [.rows 10] }, ann := {} },
  { fid := 176, sig := { ps := z61, rs := [.agg [I6, .arr 0]], rb := z68 }, ann := {} },
  { fid := 177, sig := { rs := [.agg z16] }, ann := { unroll := [(4, 1000)] } },
  { fid := 180, sig := { ps := z75, pb := z9, rs := [.int .u64], rb := z11 }, ann := { calls := [(33, 115)] } },
  { fid := 179, sig := { ps := [.ptr 0 0, I6, I6, .int .u64], pb := z9, rb := z11 }, ann := { calls := [(39, 116)], joins := [(19, [(.normal, { tm := [], bs := z11 })])] } },
  { fid := 181, sig := { ps := [.ptr 0 0], pb := z9, rs := [.bool], rb := z11 }, ann := {} },
  { fid := 182, sig := { ps := [.ptr 0 0], pb := z9, rs := [.int .u8], rb := z11 }, ann := {} },
  { fid := 184, sig := { rs := [.rows 10] }, ann := {} },
  { fid := 130, sig := { ps := z37, rs := [.bool] }, ann := { loops := [(5, { tm := [(3, I6), (59, I6)], bs := [.same] }, [(.exit 0, { tm := [], bs := [.same] }), (.ret, { tm := [(2, .bool)], bs := [.same] })])], joins := [(2, [(.normal, { tm := [(55, .bool)], bs := [.same] })])] } },
  { fid := 146, sig := { ps := z73, rs := [I6, I6, I6] }, ann := { calls := [(10, 46)] } },
  { fid := 170, sig := { ps := [I6, I6], rs := [.bool] }, ann := {} },
  { fid := 171, sig := { ps := z48, rs := [.int .u8] }, ann := { joins := [(2, [(.normal, { tm := [(24, .bool)], bs := [.same] })])] } },
  { fid := 133, sig := { ps := [.agg [I6, .ints .i64], .ints .u8], rs := [.ptr 0 0, .lit .i64 0], rb := z7, more := [([.nil, .lit .i64 10], [])] }, ann := { calls := [(8, 64), (11, 65), (20, 117)], unroll := [(5, 1000)] } },
  { fid := 172, sig := { ps := [.ptr 0 0, I6, .agg z60, I6, I6, .agg z66], pb := z7, rs := z52, rb := z7 }, ann := { calls := [(23, 118), (31, 38), (37, 12), (44, 31), (49, 119), (52, 68), (63, 120), (72, 121)], loops := [(13, { tm := [(65, I6)], bs := z0 }, [(.exit 0, { tm := [], bs := z0 }), (.ret, { tm := [(13, I6)], bs := z0 })])], joins := [(14, [(.normal, { tm := [(46, .bool)], bs := z39 })])] } },
  { fid := 156, sig := { ps := [.agg z66, .agg z66, I6, I6, I6], rs := z52 }, ann := { calls := [(20, 31), (24, 31), (38, 104), (43, 122), (94, 105), (96, 123)], loops := [(7, { tm := [(46, I6)], bs := z38 }, [(.exit 1, { tm := [], bs := z38 })]), (10, { tm := [(51, I6)], bs := z38 }, [(.exit 3, { tm := [], bs := z38 })])], joins := [(2, [(.normal, { tm := [(18, .bool)], bs := z65 })]), (6, [(.normal, { tm := [(28, .bool)], bs := z65 })]), (26, [(.normal, { tm := [(77, .bool)], bs := z44 })]), (37, [(.normal, { tm := [], bs := z35 }), (.ret, { tm := [(11, I6)], bs := z35 })])] } },
  { fid := 173, sig := { ps := [.ints .u8, I6, I6, .fn 175 []], rs := z48 }, ann := { calls := [(18, 12), (25, 124), (39, 125), (57, 126)], loops := [(8, { tm := [(14, .ints .u8), (32, I6)], bs := z18 }, [(.exit 0, { tm := [], bs := z18 }), (.ret, { tm := [(9, I6), (10, I6)], bs := z18 })])] } },
  { fid := 173, sig := { ps := [.ints .u8, I6, I6, .fn 174 []], rs := z48 }, ann := { calls := [(18, 12), (25, 124), (39, 127), (57, 126)], loops := [(8, { tm := [(14, .ints .u8), (32, I6)], bs := z18 }, [(.exit 0, { tm := [], bs := z18 }), (.ret, { tm := [(9, I6), (10, I6)], bs := z18 })])] } },
  { fid := 185, sig := { ps := [.agg [I6, I6, I6, I6]], rs := [.bool] }, ann := { joins := [(2, [(.normal, { tm := [(40, .bool)], bs := [.same] })])] } },
  { fid := 186, sig := { ps := [.rows 6], rs := [I6, I6, I6] }, ann := { loops := [(2, { tm := [(2, I6), (3, I6), (4, I6), (9, I6)], bs := [] }, [(.exit 0, { tm := [(2, I6), (3, I6), (4, I6)], bs := [] })])] } },
  { fid := 187, sig := { ps := [.rows 6, .agg [.bool, I6]], rs := [I6, I6] }, ann := { calls := [(20, 128)], loops := [(3, { tm := [(4, I6), (5, I6), (12, I6)], bs := [.same] }, [(.exit 0, { tm := z70, bs := [.same] })])] } },
  { fid := 188, sig := { ps := [I6, I6], rs := [.arr 0], rb := z71 }, ann := { loops := [(3, { tm := [(11, I6)], bs := z72 }, [(.exit 0, { tm := [], bs := z72 })])] } },
  { fid := 229, sig := { ps := [.agg z16, I6, I6], rs := [I6] }, ann := {} },
  { fid := 228, sig := { ps := [I6, I6, I6], rs := [I6] }, ann := { joins := [(41, [(.normal, { tm := [], bs := [.box [I6, I6]] })])] } },
  { fid := 192, sig := { ps := [.ptr 0 0], pb := [.box z12, .ints .i64 false, .ints .u8 false], rb := z3 }, ann := { joins := [(25, [(.normal, { tm := [(2, .int .u8)], bs := z3 })])] } },
  { fid := 216, sig := { ps := z75, pb := z7, rs := [I6, I6], rb := z7 }, ann := { calls := [(12, 129), (36, 130), (61, 131), (65, 132), (69, 133), (71, 134)], loops := [(12, { tm := [], bs := z6 }, [(.exit 1, { tm := [], bs := z6 })])], joins := [(6, [(.normal, { tm := [(13, .bool)], bs := z74 })]), (21, [(.normal, { tm := [], bs := z74 }), (.ret, { tm := z70, bs := z74 })]), (85, [(.normal, { tm := [(6, I6)], bs := z74 })])] } },
  { fid := 140, sig := { ps := [.ptr 0 0], pb := z7, rs := z61, rb := z7 }, ann := { calls := [(4, 129), (11, 95)] } },
  { fid := 121, sig := { ps := [.agg z60, I6, I6, .arr 0, .agg z66], pb := z71, rs := [.ptr 1 0], rb := [.ints .u8 true, .box [I6, I6, I6, .bool, I6, I6, I6, .arr 0, I6, I6, .ints .u8]] }, ann := {} },
  { fid := 222, sig := { ps := [.ptr 0 0, .ptr 2 0, I6, I6], pb := [.box z33, .ints .u8 false, .box z14, .ints .i64 false], rs := [I6], rb := z1 }, ann := { calls := [(31, 62), (33, 118), (61, 135), (83, 136), (85, 118)], loops := [(8, { tm := [(45, I6)], bs := z1 }, [(.exit 0, { tm := [], bs := z1 }), (.ret, { tm := [(8, I6)], bs := z1 })])], joins := [(24, [(.normal, { tm := [(68, .bool)], bs := z54 })]), (45, [(.normal, { tm := [(9, I6)], bs := z4 }), (.ret, { tm := [(8, I6)], bs := z4 })])] } },
  { fid := 211, sig := { ps := z57, rs := [.agg [I6, I6, .arr 0]], rb := z71 }, ann := { calls := [(9, 137)] } },
  { fid := 212, sig := { ps := [.int .u8, .int .u8, I6], rs := [.int .u8] }, ann := {} },
  { fid := 223, sig := { ps := [.ints .u8], rs := [.ptr 0 0], rb := z23 }, ann := { calls := [(6, 55), (10, 138), (12, 139), (13, 57), (14, 139), (15, 57), (16, 139), (19, 61)] } },
  { fid := 175, sig := { ps := [.ptr 0 0, I6, .ints .u8], pb := z23, rs := z73, rb := z23 }, ann := { calls := [(26, 140)], loops := [(2, { tm := [], bs := z19 }, [(.exit 0, { tm := [], bs := z19 }), (.ret, { tm := [(6, .ints .u8), (7, I6)], bs := z19 })])], joins := [(4, [(.normal, { tm := [(23, .bool)], bs := z54 })])] } },
  { fid := 224, sig := { ps := [.ptr 0 0], pb := z49, rs := [I6], rb := z49 }, ann := { calls := [(4, 141)] } },
  { fid := 174, sig := { ps := [.ptr 0 0, I6, .ints .u8], pb := z23, rs := z73, rb := z23 }, ann := { calls := [(22, 142), (48, 143)], loops := [(3, { tm := [(8, .arr 2), (9, I6)], bs := z21 }, [(.exit 0, { tm := [(8, .arr 2)], bs := z21 }), (.ret, { tm := [(6, .ints .u8), (7, I6)], bs := z23 })])], joins := [(16, [(.normal, { tm := [(41, .bool)], bs := z65 })])] } },
  { fid := 230, sig := { ps := [.agg [I6, I6, I6, I6], .agg [.bool, I6]], rs := [I6, .bool] }, ann := { joins := [(2, [(.normal, { tm := [(13, .bool)], bs := z74 })]), (4, [(.normal, { tm := [(4, I6), (5, .bool)], bs := z74 })]), (6, [(.normal, { tm := [(33, .bool)], bs := z74 })]), (83, [(.normal, { tm := [(6, I6)], bs := z74 })])] } },
  { fid := 197, sig := { ps := [.ptr 0 0], pb := z7, rs := [.bool], rb := z8 }, ann := {} },
  { fid := 180, sig := { ps := z75, pb := z7, rs := [.int .u64], rb := z8 }, ann := { calls := [(33, 115)] } },
  { fid := 179, sig := { ps := [.ptr 0 0, I6, I6, .int .u64], pb := z7, rb := z8 }, ann := { calls := [(39, 116)], joins := [(19, [(.normal, { tm := [], bs := z8 })])] } },
  { fid := 181, sig := { ps := [.ptr 0 0], pb := z7, rs := [.bool], rb := z8 }, ann := {} },
  { fid := 182, sig := { ps := [.ptr 0 0], pb := z7, rs := [.int .u8], rb := z8 }, ann := {} },
  { fid := 192, sig := { ps := [.ptr 0 0], pb := z7, rb := z8 }, ann := { joins := [(25, [(.normal, { tm := [(2, .int .u8)], bs := z8 })])] } },
  { fid := 123, sig := { ps := z69, pb := z25, rs := [.int .u8, .bool], rb := z26 }, ann := { calls := [(28, 73), (58, 73)], loops := [(3, { tm := [(29, I6)], bs := z74 }, [(.exit 0, { tm := [], bs := z74 }), (.ret, { tm := [(6, .int .u8), (7, .bool)], bs := z74 })])] } },
  { fid := 124, sig := { ps := z69, pb := z25, rs := [I6], rb := z26 }, ann := { calls := [(17, 94), (37, 73), (41, 101), (73, 73)], loops := [(3, { tm := [(7, I6), (19, I6)], bs := z74 }, [(.exit 0, { tm := [(7, I6)], bs := z74 })]), (8, { tm := [(7, I6), (43, I6)], bs := z74 }, [(.exit 2, { tm := [(7, I6)], bs := z74 })])] } },
  { fid := 240, sig := { ps := [.ints .u8], rs := [.arr 0], rb := z71 }, ann := {} },
  { fid := 244, sig := { ps := [.ints .u8], rs := [.ptr 0 0], rb := z49 }, ann := {} },
  { fid := 245, sig := { ps := [.rows 6], rs := [.agg [.rows 6, .rows 7]] }, ann := { calls := [(15, 144)], loops := [(4, { tm := [(20, I6)], bs := z41 }, [(.exit 0, { tm := [], bs := z41 })]), (8, { tm := [(8, .str), (26, I6)], bs := z65 }, [(.exit 2, { tm := [(8, .str)], bs := z65 })])] } },
  { fid := 227, sig := { ps := [.ptr 0 0, .ptr 2 0], pb := z19, rs := [I6], rb := z19 }, ann := { calls := [(16, 145), (36, 58), (44, 146), (65, 147), (90, 147)], joins := [(14, [(.normal, { tm := [(45, .bool)], bs := z54 })]), (26, [(.normal, { tm := [(83, .bool)], bs := z54 })]), (79, [(.normal, { tm := [], bs := [.box z27, .box z56, .box [I6, I6, I6, .ints .u8, .arr 3], .ints .u8 true] }), (.ret, { tm := [(4, I6)], bs := z19 })])] } },
  { fid := 246, sig := { ps := [.ptr 0 0], pb := z49, rs := [.bool], rb := z49 }, ann := {} },
  { fid := 225, sig := { ps := z75, pb := z23, rs := [I6, I6], rb := z23 }, ann := { calls := [(15, 148), (29, 148)] } },
  { fid := 226, sig := { ps := z73, rs := [.ints .u8] }, ann := { calls := [(18, 149)], loops := [(8, { tm := [(8, I6)], bs := z72 }, [(.exit 0, { tm := [], bs := z72 })])], joins := [(8, [(.normal, { tm := [(26, .bool)], bs := [] })])] } },
  { fid := 255, sig := { ps := [.rows 6], rs := [.rows 3, I6] }, ann := { calls := [(8, 91), (11, 92), (22, 114)], loops := [(5, { tm := [(4, .arr 0), (13, I6)], bs := [.rows 3 false] }, [(.exit 0, { tm := [(4, .arr 0)], bs := [.rows 3 false] })])] } },
  { fid := 249, sig := { ps := [.ptr 0 0, .rows 7], pb := z23, rs := [I6, I6], rb := z23 }, ann := { calls := [(12, 150), (22, 151), (29, 152)], loops := [(2, { tm := [], bs := z36 }, [(.ret, { tm := z70, bs := z36 })])], joins := [(6, [(.normal, { tm := [(18, .bool)], bs := z65 })])] } },
  { fid := 250, sig := { ps := [.ptr 0 0, .ptr 2 0], pb := z19, rs := [I6], rb := z19 }, ann := { calls := [(15, 142), (52, 142), (83, 147), (93, 147)], joins := [(10, [(.normal, { tm := [(44, .bool)], bs := z54 })]), (20, [(.normal, { tm := [(76, .bool)], bs := z54 })])] } },
  { fid := 251, sig := { ps := z69, pb := z34, rb := z34 }, ann := { calls := [(21, 143)] } },
  { fid := 247, sig := { ps := [.ptr 0 0, .agg [.rows 6, .rows 7]], pb := z23, rs := [I6, I6], rb := z23 }, ann := { calls := [(13, 145), (30, 152)] } },
  { fid := 248, sig := { ps := z64, rs := z64 }, ann := { calls := [(25, 153)] } },
  { fid := 259, sig := { ps := [.rows 7, .str], rs := [I6] }, ann := { loops := [(2, { tm := [(8, I6)], bs := [] }, [(.exit 0, { tm := [], bs := [] }), (.ret, { tm := [(4, I6)], bs := [] })])] } },
  { fid := 260, sig := { ps := [.rows 7, .fn 261 [.ptr 0 0]], pb := [.box [.str]], rs := [.bool], rb := [.box [.str]] }, ann := { calls := [(7, 154)] } },
  { fid := 256, sig := { ps := z75, pb := z49, rs := [I6, I6], rb := z49 }, ann := { calls := [(9, 141), (20, 155)], loops := [(9, { tm := [(6, I6), (23, I6)], bs := z49 }, [(.exit 1, { tm := [(6, I6)], bs := z49 })])], joins := [(6, [(.normal, { tm := [(10, .bool)], bs := [.same] })]), (15, [(.normal, { tm := [], bs := z49 }), (.ret, { tm := z70, bs := z49 })])] } },
  { fid := 258, sig := { ps := z64, rs := z64 }, ann := {} },
  { fid := 264, sig := { ps := [.rows 7, .fn 261 [.ptr 0 0]], pb := [.box [.str]], rs := [I6], rb := [.box [.str]] }, ann := { calls := [(16, 156)], loops := [(2, { tm := [(8, I6)], bs := [.box [.str]] }, [(.exit 0, { tm := [], bs := [.box [.str]] }), (.ret, { tm := [(4, I6)], bs := [.box [.str]] })])] } },
  { fid := 263, sig := { ps := [.ptr 0 0], pb := z49, rs := [I6], rb := z49 }, ann := { calls := [(4, 141)] } },
  { fid := 261, sig := { ps := [.str, .ptr 0 0], pb := [.box [.str]], rs := [.bool], rb := [.box [.str]] }, ann := { calls := [(6, 157)] } },
  { fid := 262, sig := { ps := [.str, .str], rs := [.bool] }, ann := { calls := [(7, 158)] } },
  { fid := 265, sig := { ps := [.str, .str], rs := [.bool] }, ann := {} }]
noncomputable def G : Prg := { P := Tryz.prog, E := E, el := fun t => lookN t els, F := fun i => (getL insts i).getD { fid := 0, sig := {}, ann := {} }, ents := [(85, 2), (102, 5), (103, 5)] }
theorem inn0_ok : ∀ {l : List (PV TT)} {x : Bool}, inn0 l = some x → Sames (E := E) l (outs0 x)
  | [], _, h => by cases h
  | [_], _, h => by
    simp only [inn0] at h
    obtain ⟨y0, h0, h⟩ := Option.bind_eq_some_iff.1 h; cases h; exact .cons (V.asBool_same h0) (.nil)
  | _ :: _ :: _, _, h => by cases h
theorem inn1_ok : ∀ {l : List (PV TT)} {x : Segment}, inn1 l = some x → Sames (E := E) l (outs1 x)
  | [], _, h => by cases h
  | [_], _, h => by cases h
  | [_, _], _, h => by cases h
  | [_, _, _], _, h => by cases h
  | [_, _, _, _], _, h => by cases h
  | [_, _, _, _, _], _, h => by cases h
  | [_, _, _, _, _, _], _, h => by
    simp only [inn1] at h
    obtain ⟨y0, h0, h⟩ := Option.bind_eq_some_iff.1 h; obtain ⟨y1, h1, h⟩ := Option.bind_eq_some_iff.1 h; obtain ⟨y2, h2, h⟩ := Option.bind_eq_some_iff.1 h; obtain ⟨y3, h3, h⟩ := Option.bind_eq_some_iff.1 h; obtain ⟨y4, h4, h⟩ := Option.bind_eq_some_iff.1 h; obtain ⟨y5, h5, h⟩ := Option.bind_eq_some_iff.1 h; cases h; exact .cons (V.asInt_same h0) (.cons (V.asInt_same h1) (.cons (V.asInt_same h2) (.cons (V.asInts_same h3) (.cons (V.asRows_same h4) (.cons (V.asInts_same h5) (.nil))))))
  | _ :: _ :: _ :: _ :: _ :: _ :: _ :: _, _, h => by cases h
theorem inn2_ok : ∀ {l : List (PV TT)} {x : EntBitmap}, inn2 l = some x → Sames (E := E) l (outs2 x)
  | [], _, h => by cases h
  | [_], _, h => by cases h
  | [_, _], _, h => by cases h
  | [_, _, _], _, h => by cases h
  | [_, _, _, _], _, h => by
    simp only [inn2] at h
    obtain ⟨y0, h0, h⟩ := Option.bind_eq_some_iff.1 h; obtain ⟨y1, h1, h⟩ := Option.bind_eq_some_iff.1 h; obtain ⟨y2, h2, h⟩ := Option.bind_eq_some_iff.1 h; obtain ⟨y3, h3, h⟩ := Option.bind_eq_some_iff.1 h; cases h; exact .cons (V.asInt_same h0) (.cons (V.asInt_same h1) (.cons (V.asInt_same h2) (.cons (V.asInts_same h3) (.nil))))
  | _ :: _ :: _ :: _ :: _ :: _, _, h => by cases h
theorem inn3_ok : ∀ {l : List (PV TT)} {x : List Int}, inn3 l = some x → Sames (E := E) l (outs3 x)
  | [], _, h => by cases h
  | [_], _, h => by
    simp only [inn3] at h
    obtain ⟨y0, h0, h⟩ := Option.bind_eq_some_iff.1 h; cases h; exact .cons (V.asInts_same h0) (.nil)
  | _ :: _ :: _, _, h => by cases h
theorem inn4_ok : ∀ {l : List (PV TT)} {x : Mode}, inn4 l = some x → Sames (E := E) l (outs4 x)
  | [], _, h => by cases h
  | [_], _, h => by cases h
  | [_, _], _, h => by cases h
  | [_, _, _], _, h => by cases h
  | [_, _, _, _], _, h => by cases h
  | [_, _, _, _, _], _, h => by
    simp only [inn4] at h
    obtain ⟨y0, h0, h⟩ := Option.bind_eq_some_iff.1 h; obtain ⟨y1, h1, h⟩ := Option.bind_eq_some_iff.1 h; obtain ⟨y2, h2, h⟩ := Option.bind_eq_some_iff.1 h; obtain ⟨y3, h3, h⟩ := Option.bind_eq_some_iff.1 h; obtain ⟨y4, h4, h⟩ := Option.bind_eq_some_iff.1 h; cases h; exact .cons (V.asStr_same h0) (.cons (V.asInt_same h1) (.cons (V.asInt_same h2) (.cons (V.asInt_same h3) (.cons (V.asInt_same h4) (.nil)))))
  | _ :: _ :: _ :: _ :: _ :: _ :: _, _, h => by cases h
theorem inn5_ok : ∀ {l : List (PV TT)} {x : Entint}, inn5 l = some x → Sames (E := E) l (outs5 x)
  | [], _, h => by cases h
  | [_], _, h => by cases h
  | [_, _], _, h => by
    simp only [inn5] at h
    obtain ⟨y0, h0, h⟩ := Option.bind_eq_some_iff.1 h; obtain ⟨y1, h1, h⟩ := Option.bind_eq_some_iff.1 h; cases h; exact .cons (V.asInt_same h0) (.cons (V.asInt_same h1) (.nil))
  | _ :: _ :: _ :: _, _, h => by cases h
theorem inn6_ok : ∀ {l : List (PV TT)} {x : Line}, inn6 l = some x → Sames (E := E) l (outs6 x)
  | [], _, h => by cases h
  | [_], _, h => by cases h
  | [_, _], _, h => by cases h
  | [_, _, _], _, h => by cases h
  | [_, _, _, _], _, h => by
    simp only [inn6] at h
    obtain ⟨y0, h0, h⟩ := Option.bind_eq_some_iff.1 h; obtain ⟨y1, h1, h⟩ := Option.bind_eq_some_iff.1 h; obtain ⟨y2, h2, h⟩ := Option.bind_eq_some_iff.1 h; obtain ⟨y3, h3, h⟩ := Option.bind_eq_some_iff.1 h; cases h; exact .cons (V.asInt_same h0) (.cons (V.asInt_same h1) (.cons (V.asInt_same h2) (.cons (V.asInt_same h3) (.nil))))
  | _ :: _ :: _ :: _ :: _ :: _, _, h => by cases h
theorem inn7_ok : ∀ {l : List (PV TT)} {x : List Int}, inn7 l = some x → Sames (E := E) l (outs7 x)
  | [], _, h => by cases h
  | [_], _, h => by
    simp only [inn7] at h
    obtain ⟨y0, h0, h⟩ := Option.bind_eq_some_iff.1 h; cases h; exact .cons (V.asStr_same h0) (.nil)
  | _ :: _ :: _, _, h => by cases h
theorem inn8_ok : ∀ {l : List (PV TT)} {x : Arr4}, inn8 l = some x → Sames (E := E) l (outs8 x)
  | [], _, h => by cases h
  | [_], _, h => by cases h
  | [_, _], _, h => by cases h
  | [_, _, _], _, h => by cases h
  | [_, _, _, _], _, h => by
    simp only [inn8] at h
    obtain ⟨y0, h0, h⟩ := Option.bind_eq_some_iff.1 h; obtain ⟨y1, h1, h⟩ := Option.bind_eq_some_iff.1 h; obtain ⟨y2, h2, h⟩ := Option.bind_eq_some_iff.1 h; obtain ⟨y3, h3, h⟩ := Option.bind_eq_some_iff.1 h; cases h; exact .cons (V.asInt_same h0) (.cons (V.asInt_same h1) (.cons (V.asInt_same h2) (.cons (V.asInt_same h3) (.nil))))
  | _ :: _ :: _ :: _ :: _ :: _, _, h => by cases h
theorem inn9_ok : ∀ {l : List (PV TT)} {x : Code}, inn9 l = some x → Sames (E := E) l (outs9 x)
  | [], _, h => by cases h
  | [_], _, h => by cases h
  | [_, _], _, h => by
    simp only [inn9] at h
    obtain ⟨y0, h0, h⟩ := Option.bind_eq_some_iff.1 h; obtain ⟨y1, h1, h⟩ := Option.bind_eq_some_iff.1 h; cases h; exact .cons (V.asInt_same h0) (.cons (V.asInt_same h1) (.nil))
  | _ :: _ :: _ :: _, _, h => by cases h
theorem inn10_ok : ∀ {l : List (PV TT)} {x : Arr2}, inn10 l = some x → Sames (E := E) l (outs10 x)
  | [], _, h => by cases h
  | [_], _, h => by cases h
  | [_, _], _, h => by
    simp only [inn10] at h
    obtain ⟨y0, h0, h⟩ := Option.bind_eq_some_iff.1 h; obtain ⟨y1, h1, h⟩ := Option.bind_eq_some_iff.1 h; cases h; exact .cons (V.asInt_same h0) (.cons (V.asInt_same h1) (.nil))
  | _ :: _ :: _ :: _, _, h => by cases h
theorem envOk : EnvOk E := by
  refine EnvOk.of ?_ ?_ ?_
  · intro i l x h
    match i, x, h with
    | 0, x, h => exact inn0_ok h
    | 1, x, h => exact inn1_ok h
    | 2, x, h => exact inn2_ok h
    | 3, x, h => exact inn3_ok h
    | 4, x, h => exact inn4_ok h
    | 5, x, h => exact inn5_ok h
    | 6, x, h => exact inn6_ok h
    | 7, x, h => exact inn7_ok h
    | 8, x, h => exact inn8_ok h
    | 9, x, h => exact inn9_ok h
    | 10, x, h => exact inn10_ok h
    | i + 11, x, h => cases h
  · intro i x
    match i, x with
    | 0, x => rfl
    | 1, x => rfl
    | 2, x => rfl
    | 3, x => rfl
    | 4, x => rfl
    | 5, x => rfl
    | 6, x => rfl
    | 7, x => rfl
    | 8, x => rfl
    | 9, x => rfl
    | 10, x => rfl
    | i + 11, x => rfl
  · intro i x p hf hp
    match i, x with
    | 0, x => exact flat_cons (.inr (.inl ⟨_, rfl⟩)) (flat_nil) p hp
    | 1, x => exact absurd hf (by decide)
    | 2, x => exact absurd hf (by decide)
    | 3, x => exact absurd hf (by decide)
    | 4, x => exact flat_cons (.inr (.inr ⟨_, rfl⟩)) (flat_cons (.inl ⟨_, _, rfl⟩) (flat_cons (.inl ⟨_, _, rfl⟩) (flat_cons (.inl ⟨_, _, rfl⟩) (flat_cons (.inl ⟨_, _, rfl⟩) (flat_nil))))) p hp
    | 5, x => exact flat_cons (.inl ⟨_, _, rfl⟩) (flat_cons (.inl ⟨_, _, rfl⟩) (flat_nil)) p hp
    | 6, x => exact flat_cons (.inl ⟨_, _, rfl⟩) (flat_cons (.inl ⟨_, _, rfl⟩) (flat_cons (.inl ⟨_, _, rfl⟩) (flat_cons (.inl ⟨_, _, rfl⟩) (flat_nil)))) p hp
    | 7, x => exact flat_cons (.inr (.inr ⟨_, rfl⟩)) (flat_nil) p hp
    | 8, x => exact flat_cons (.inl ⟨_, _, rfl⟩) (flat_cons (.inl ⟨_, _, rfl⟩) (flat_cons (.inl ⟨_, _, rfl⟩) (flat_cons (.inl ⟨_, _, rfl⟩) (flat_nil)))) p hp
    | 9, x => exact flat_cons (.inl ⟨_, _, rfl⟩) (flat_cons (.inl ⟨_, _, rfl⟩) (flat_nil)) p hp
    | 10, x => exact flat_cons (.inl ⟨_, _, rfl⟩) (flat_cons (.inl ⟨_, _, rfl⟩) (flat_nil)) p hp
    | i + 11, x => exact absurd hf (by simp [E, getL])

theorem elsOk : els.all (okEl G) = true := by kernel_rfl
theorem prgOk : PrgOk G := .of envOk els (fun _ => rfl) elsOk (by kernel_rfl)
noncomputable def bulk0 (x : Bool) : Nat := 1 + 0
noncomputable def bulk1 (x : Segment) : Nat := 1 + (1 + (1 + ((x.refs.length + 1) + ((sumL bulk0 x.keep + 1) + ((x.data.length + 1) + 0)))))
noncomputable def bulk2 (x : EntBitmap) : Nat := 1 + (1 + (1 + ((x.pix.length + 1) + 0)))
noncomputable def bulk3 (x : List Int) : Nat := (x.length + 1) + 0
noncomputable def bulk4 (x : Mode) : Nat := (x.kind.length + 1) + (1 + (1 + (1 + (1 + 0))))
noncomputable def bulk5 (x : Entint) : Nat := 1 + (1 + 0)
noncomputable def bulk6 (x : Line) : Nat := 1 + (1 + (1 + (1 + 0)))
noncomputable def bulk7 (x : List Int) : Nat := (x.length + 1) + 0
noncomputable def bulk8 (x : Arr4) : Nat := 1 + (1 + (1 + (1 + 0)))
noncomputable def bulk9 (x : Code) : Nat := 1 + (1 + 0)
noncomputable def bulk10 (x : Arr2) : Nat := 1 + (1 + 0)
noncomputable def bulk : (i : Nat) → TT i → Nat
  | 0, x => bulk0 x
  | 1, x => bulk1 x
  | 2, x => bulk2 x
  | 3, x => bulk3 x
  | 4, x => bulk4 x
  | 5, x => bulk5 x
  | 6, x => bulk6 x
  | 7, x => bulk7 x
  | 8, x => bulk8 x
  | 9, x => bulk9 x
  | 10, x => bulk10 x
  | _, _ => 0
theorem bulk0_eq (x : Bool) : bulk0 x = bulkPs bulk (outs0 x) := by simp only [bulk0, outs0, bulkPs, bulkP] <;> rfl
theorem bulk1_eq (x : Segment) : bulk1 x = bulkPs bulk (outs1 x) := by have e4 := sumB_eq (b := bulk) (i := 0) (f := bulk0) (fun _ => rfl) x.keep; simp only [bulk1, outs1, bulkPs, bulkP, e4] <;> rfl
theorem bulk2_eq (x : EntBitmap) : bulk2 x = bulkPs bulk (outs2 x) := by simp only [bulk2, outs2, bulkPs, bulkP] <;> rfl
theorem bulk3_eq (x : List Int) : bulk3 x = bulkPs bulk (outs3 x) := by simp only [bulk3, outs3, bulkPs, bulkP] <;> rfl
theorem bulk4_eq (x : Mode) : bulk4 x = bulkPs bulk (outs4 x) := by simp only [bulk4, outs4, bulkPs, bulkP] <;> rfl
theorem bulk5_eq (x : Entint) : bulk5 x = bulkPs bulk (outs5 x) := by simp only [bulk5, outs5, bulkPs, bulkP] <;> rfl
theorem bulk6_eq (x : Line) : bulk6 x = bulkPs bulk (outs6 x) := by simp only [bulk6, outs6, bulkPs, bulkP] <;> rfl
theorem bulk7_eq (x : List Int) : bulk7 x = bulkPs bulk (outs7 x) := by simp only [bulk7, outs7, bulkPs, bulkP] <;> rfl
theorem bulk8_eq (x : Arr4) : bulk8 x = bulkPs bulk (outs8 x) := by simp only [bulk8, outs8, bulkPs, bulkP] <;> rfl
theorem bulk9_eq (x : Code) : bulk9 x = bulkPs bulk (outs9 x) := by simp only [bulk9, outs9, bulkPs, bulkP] <;> rfl
theorem bulk10_eq (x : Arr2) : bulk10 x = bulkPs bulk (outs10 x) := by simp only [bulk10, outs10, bulkPs, bulkP] <;> rfl
theorem rowsOk : RowsOk G bulk where
  bulk i x := by
    match i, x with
    | 0, x => exact bulk0_eq x
    | 1, x => exact bulk1_eq x
    | 2, x => exact bulk2_eq x
    | 3, x => exact bulk3_eq x
    | 4, x => exact bulk4_eq x
    | 5, x => exact bulk5_eq x
    | 6, x => exact bulk6_eq x
    | 7, x => exact bulk7_eq x
    | 8, x => exact bulk8_eq x
    | 9, x => exact bulk9_eq x
    | 10, x => exact bulk10_eq x
    | i + 11, x => rfl
  int e k h := ⟨(prgOk.int e k h).1, okEl_cells elsOk h⟩
  row e i h := by
    have hc := okEl_cells elsOk h
    have hm := lookN_mem h
    simp only [els, List.mem_cons, List.not_mem_nil, or_false, Prod.mk.injEq, reduceCtorEq, and_false, false_or, EK.row.injEq] at hm
    rcases hm with ⟨rfl, rfl⟩ | ⟨rfl, rfl⟩ | ⟨rfl, rfl⟩ | ⟨rfl, rfl⟩ | ⟨rfl, rfl⟩ | ⟨rfl, rfl⟩ | ⟨rfl, rfl⟩ | ⟨rfl, rfl⟩ | ⟨rfl, rfl⟩
    · refine ⟨8, [.bool], by kernel_rfl, hc, by decide, fun ps h => ?_⟩
      obtain ⟨y0, r0, rfl, h0⟩ := fits_bool h; cases fits_nil h0; exact ⟨y0, rfl⟩
    · refine ⟨8, [.str], by kernel_rfl, hc, by decide, fun ps h => ?_⟩
      obtain ⟨y0, r0, rfl, h0⟩ := fits_str h; cases fits_nil h0; exact ⟨y0, rfl⟩
    · refine ⟨8, [.ints .u8], by kernel_rfl, hc, by decide, fun ps h => ?_⟩
      obtain ⟨y0, r0, rfl, h0⟩ := fits_ints h; cases fits_nil h0; exact ⟨y0, rfl⟩
    · refine ⟨8, [.int .i64, .int .i64, .int .i64, .ints .i64, .rows 0, .ints .u8], by kernel_rfl, hc, by decide, fun ps h => ?_⟩
      obtain ⟨y0, r0, rfl, h0⟩ := fits_int h; obtain ⟨y1, r1, rfl, h1⟩ := fits_int h0; obtain ⟨y2, r2, rfl, h2⟩ := fits_int h1; obtain ⟨y3, r3, rfl, h3⟩ := fits_ints h2; obtain ⟨y4, r4, rfl, h4⟩ := fits_rows h3; obtain ⟨y5, r5, rfl, h5⟩ := fits_ints h4; cases fits_nil h5; exact ⟨⟨y0, y1, y2, y3, y4, y5⟩, rfl⟩
    · refine ⟨8, [.int .i64, .int .i64], by kernel_rfl, hc, by decide, fun ps h => ?_⟩
      obtain ⟨y0, r0, rfl, h0⟩ := fits_int h; obtain ⟨y1, r1, rfl, h1⟩ := fits_int h0; cases fits_nil h1; exact ⟨⟨y0, y1⟩, rfl⟩
    · refine ⟨8, [.str, .int .i64, .int .i64, .int .i64, .int .i64], by kernel_rfl, hc, by decide, fun ps h => ?_⟩
      obtain ⟨y0, r0, rfl, h0⟩ := fits_str h; obtain ⟨y1, r1, rfl, h1⟩ := fits_int h0; obtain ⟨y2, r2, rfl, h2⟩ := fits_int h1; obtain ⟨y3, r3, rfl, h3⟩ := fits_int h2; obtain ⟨y4, r4, rfl, h4⟩ := fits_int h3; cases fits_nil h4; exact ⟨⟨y0, y1, y2, y3, y4⟩, rfl⟩
    · refine ⟨8, [.int .i64, .int .i64, .int .i64, .int .i64], by kernel_rfl, hc, by decide, fun ps h => ?_⟩
      obtain ⟨y0, r0, rfl, h0⟩ := fits_int h; obtain ⟨y1, r1, rfl, h1⟩ := fits_int h0; obtain ⟨y2, r2, rfl, h2⟩ := fits_int h1; obtain ⟨y3, r3, rfl, h3⟩ := fits_int h2; cases fits_nil h3; exact ⟨⟨y0, y1, y2, y3⟩, rfl⟩
    · refine ⟨8, [.int .i64, .int .i64, .int .i64, .int .i64], by kernel_rfl, hc, by decide, fun ps h => ?_⟩
      obtain ⟨y0, r0, rfl, h0⟩ := fits_int h; obtain ⟨y1, r1, rfl, h1⟩ := fits_int h0; obtain ⟨y2, r2, rfl, h2⟩ := fits_int h1; obtain ⟨y3, r3, rfl, h3⟩ := fits_int h2; cases fits_nil h3; exact ⟨⟨y0, y1, y2, y3⟩, rfl⟩
    · refine ⟨8, [.int .i64, .int .i64], by kernel_rfl, hc, by decide, fun ps h => ?_⟩
      obtain ⟨y0, r0, rfl, h0⟩ := fits_int h; obtain ⟨y1, r1, rfl, h1⟩ := fits_int h0; cases fits_nil h1; exact ⟨⟨y0, y1⟩, rfl⟩

noncomputable def law13_PageHides (b1 b2 : Int) (b3 : List Int) (r4 r5 : Int) (r6 : List Int) (o7 o8 o9 : Int) (o10 : Bool) (o11 : Int) : Option Bool := call G 0 (b1, b2, b3, r4, r5, r6, o7, o8, o9, o10, o11)
noncomputable def ref05_Valid (b1 b2 : Int) (b3 : List Int) : Option Bool := call G 1 (b1, b2, b3)
noncomputable def law13_Sane : Option Bool := call G 2 ()
noncomputable def page_Info (w1 h2 pixel3 op4 : Int) : Option ((List Int) × Int) := call G 3 (w1, h2, pixel3, op4)
noncomputable def page_Runs (g1 g2 g3 g4 g5 : Int) (g6 two7 : Bool) (b8 b9 : Int) (b10 : List Int) : Option ((List Int) × Int) := call G 4 (g1, g2, g3, g4, g5, g6, two7, b8, b9, b10)
noncomputable def page_Refined (g1 g2 g3 g4 g5 : Int) (g6 : Bool) (o7 o8 o9 : Int) (o10 : Bool) (o11 b12 b13 : Int) (b14 : List Int) (r15 r16 : Int) (r17 : List Int) : Option ((List Int) × Int) := call G 5 (g1, g2, g3, g4, g5, g6, o7, o8, o9, o10, o11, b12, b13, b14, r15, r16, r17)
noncomputable def law13_segment (number1 kind2 of3 : Int) (refs4 data5 : List Int) : Option (Int × Int × Int × (List Int) × (List Bool) × (List Int)) := call G 6 (number1, kind2, of3, refs4, data5)
noncomputable def page_Decode (page1 : Int) (b2 : List Segment) : Option (Int × Int × (List Int) × Int × Int × (List Segment)) := call G 7 (page1, b2)
noncomputable def ref05_Blacks (b1 b2 : Int) (b3 : List Int) : Option Int := call G 8 (b1, b2, b3)
noncomputable def ref05_Same (a1 a2 : Int) (a3 : List Int) (b4 b5 : Int) (b6 : List Int) : Option Bool := call G 9 (a1, a2, a3, b4, b5, b6)
noncomputable def ref05_Sides (w1 h2 : Int) : Option Bool := call G 10 (w1, h2)
noncomputable def ref01_SameBytes (a1 b2 : List Int) : Option Bool := call G 11 (a1, b2)
noncomputable def bitmap_New (w1 h2 pixel3 : Int) : Option (Int × Int × Int × (List Int)) := call G 12 (w1, h2, pixel3)
noncomputable def page_writer_size (l1 b2 : List Int) : Option (List Int) := call G 13 (l1, b2)
noncomputable def page_writer_byte (l1 b2 : List Int) : Option (List Int) := call G 14 (l1, b2)
noncomputable def page_rightBegin (g1 g2 g3 g4 g5 : Int) (g6 : Bool) : Option Bool := call G 15 (g1, g2, g3, g4, g5, g6)
noncomputable def runs_One (b1 b2 : Int) (b3 : List Int) : Option ((List Int) × Int) := call G 16 (b1, b2, b3)
noncomputable def runs_Two (b1 b2 : Int) (b3 : List Int) : Option ((List Int) × Int) := call G 17 (b1, b2, b3)
noncomputable def page_writer_begin (g1 g2 g3 g4 g5 : Int) (g6 : Bool) (b7 : List Int) : Option (List Int) := call G 18 (g1, g2, g3, g4, g5, g6, b7)
noncomputable def page_flag (is1 : Bool) (n2 : Int) : Option Int := call G 19 (is1, n2)
noncomputable def page_writer_with (code1 : List Int) (err2 : Int) (b3 : List Int) : Option ((List Int) × Int) := call G 20 (code1, err2, b3)
noncomputable def refine_Encode (o1 o2 o3 : Int) (o4 : Bool) (o5 b6 b7 : Int) (b8 : List Int) (r9 r10 : Int) (r11 : List Int) : Option ((List Int) × Int) := call G 21 (o1, o2, o3, o4, o5, b6, b7, b8, r9, r10, r11)
noncomputable def page_writer_signed (l1 b2 : List Int) : Option (List Int) := call G 22 (l1, b2)
noncomputable def law13_keep (n1 : Int) : Option (List Bool) := call G 23 n1
noncomputable def segment_InOrder (l1 : List Segment) : Option (Int × Int) := call G 24 l1
noncomputable def slices_ContainsFunc_api_Segment_api_Segment (s1 : List Segment) (b2 : Int) : Option (Bool × Int) := call G 25 (s1, b2)
noncomputable def page_height (l1 : List Segment) (page2 : Int) : Option Int := call G 26 (l1, page2)
noncomputable def page_builder_add (s1 s2 s3 : Int) (s4 : List Int) (s5 : List Bool) (s6 : List Int) (b7 b8 b9 : Int) (b10 : List Int) (b11 b12 : Bool) (b13 b14 : Int) (b15 : List EntBitmap) : Option (Int × Int × Int × Int × (List Int) × Bool × Bool × Int × Int × (List EntBitmap)) := call G 27 (s1, s2, s3, s4, s5, s6, b7, b8, b9, b10, b11, b12, b13, b14, b15)
noncomputable def bitmap_blank (w1 h2 : Int) : Option (Int × Int × Int × (List Int)) := call G 28 (w1, h2)
noncomputable def bits_Size (n1 : Int) : Option ((List Int) × Int) := call G 29 n1
noncomputable def page_near (n1 : Int) : Option Bool := call G 30 n1
noncomputable def bitmap_Valid (b1 b2 : Int) (b3 : List Int) : Option Bool := call G 31 (b1, b2, b3)
noncomputable def runs_lines (b1 b2 : Int) (b3 : List Int) : Option (List (List Int)) := call G 32 (b1, b2, b3)
noncomputable def runs_row (pixels1 : List Int) : Option (List Int) := call G 33 pixels1
noncomputable def runs_runBits (n1 colour2 : Int) : Option (List Int) := call G 34 (n1, colour2)
noncomputable def bits_Pack (bits1 : List Int) : Option ((List Int) × Int) := call G 35 bits1
noncomputable def runs_modes (above1 pixels2 : List Int) : Option (List Mode) := call G 36 (above1, pixels2)
noncomputable def runs_mode_bits (m1 : List Int) (m2 m3 m4 m5 : Int) : Option (List Int) := call G 37 (m1, m2, m3, m4, m5)
noncomputable def refine_Valid (o1 o2 o3 : Int) (o4 : Bool) (o5 : Int) : Option Bool := call G 38 (o1, o2, o3, o4, o5)
noncomputable def refine_model (o1 o2 o3 : Int) (o4 : Bool) (o5 : Int) : Option (Int × (List Int)) := call G 39 (o1, o2, o3, o4, o5)
noncomputable def coder_NewEncoder (m1 : Int) (m2 : List Int) : Option ((Int × Int × Int × (List Int) × (List Int)) ⊕ (Unit)) := call G 40 (m1, m2)
noncomputable def refine_Put (base1 o2 o3 o4 : Int) (o5 : Bool) (o6 b7 b8 : Int) (b9 : List Int) (r10 r11 : Int) (r12 : List Int) (b13 b14 b15 : Int) (b16 b17 : List Int) : Option (Int × Int × Int × Int × (List Int) × (List Int)) := call G 41 (base1, o2, o3, o4, o5, o6, b7, b8, b9, r10, r11, r12, b13, b14, b15, b16, b17)
noncomputable def coder_Encoder_End (b1 b2 b3 : Int) (b4 b5 : List Int) : Option ((List Int) × Int × Int × Int × (List Int) × (List Int)) := call G 42 (b1, b2, b3, b4, b5)
noncomputable def bits_Signed (n1 : Int) : Option ((List Int) × Int) := call G 43 n1
noncomputable def segment_order (l1 : List Segment) : Option (Int × (List Entint)) := call G 44 l1
noncomputable def slices_IndexFunc_api_Segment_api_Segment (s1 : List Segment) (b2 : Int) : Option (Int × Int) := call G 45 (s1, b2)
noncomputable def bits_GetSize (b1 : List Int) (at2 : Int) : Option (Int × Int × Int) := call G 46 (b1, at2)
noncomputable def page_builder_order (s1 s2 s3 : Int) (s4 : List Int) (s5 : List Bool) (s6 : List Int) (b7 b8 b9 : Int) (b10 : List Int) (b11 b12 : Bool) (b13 b14 : Int) (b15 : List EntBitmap) : Option (Int × Int × Int × Int × (List Int) × Bool × Bool × Int × Int × (List EntBitmap)) := call G 47 (s1, s2, s3, s4, s5, s6, b7, b8, b9, b10, b11, b12, b13, b14, b15)
noncomputable def page_builder_refined (s1 s2 s3 : Int) (s4 : List Int) (s5 : List Bool) (s6 : List Int) (b7 b8 b9 : Int) (b10 : List Int) (b11 b12 : Bool) (b13 b14 : Int) (b15 : List EntBitmap) (b16 : List Int) (b17 b18 : Int) : Option (Int × Int × Int × (List Int) × Bool × Bool × Int × Int × (List EntBitmap) × (List Int) × Int × Int) := call G 48 (s1, s2, s3, s4, s5, s6, b7, b8, b9, b10, b11, b12, b13, b14, b15, b16, b17, b18)
noncomputable def page_builder_runs (s1 s2 s3 : Int) (s4 : List Int) (s5 : List Bool) (s6 : List Int) (b7 b8 b9 : Int) (b10 : List Int) (b11 b12 : Bool) (b13 b14 : Int) (b15 : List EntBitmap) (b16 : List Int) (b17 b18 : Int) : Option (Int × Int × Int × (List Int) × Bool × Bool × Int × Int × (List EntBitmap) × (List Int) × Int × Int) := call G 49 (s1, s2, s3, s4, s5, s6, b7, b8, b9, b10, b11, b12, b13, b14, b15, b16, b17, b18)
noncomputable def page_builder_info (b1 b2 b3 : Int) (b4 : List Int) (b5 b6 : Bool) (b7 b8 : Int) (b9 : List EntBitmap) (b10 : List Int) (b11 b12 : Int) : Option (Int × Int × Int × (List Int) × Bool × Bool × Int × Int × (List EntBitmap) × (List Int) × Int × Int) := call G 50 (b1, b2, b3, b4, b5, b6, b7, b8, b9, b10, b11, b12)
noncomputable def page_cursor_check (ok1 : Bool) (err2 : Int) (b3 : List Int) (b4 b5 : Int) : Option (Bool × (List Int) × Int × Int) := call G 51 (ok1, err2, b3, b4, b5)
noncomputable def page_builder_stripes (b1 b2 b3 : Int) (b4 : List Int) (b5 b6 : Bool) (b7 b8 : Int) (b9 : List EntBitmap) (b10 : List Int) (b11 b12 : Int) : Option (Int × Int × Int × (List Int) × Bool × Bool × Int × Int × (List EntBitmap) × (List Int) × Int × Int) := call G 52 (b1, b2, b3, b4, b5, b6, b7, b8, b9, b10, b11, b12)
noncomputable def page_builder_none (s1 s2 s3 : Int) (s4 : List Int) (s5 : List Bool) (s6 : List Int) (b7 b8 b9 : Int) (b10 : List Int) (b11 b12 : Bool) (b13 b14 : Int) (b15 : List EntBitmap) (b16 : List Int) (b17 b18 : Int) : Option (Int × Int × Int × (List Int) × Bool × Bool × Int × Int × (List EntBitmap) × (List Int) × Int × Int) := call G 53 (s1, s2, s3, s4, s5, s6, b7, b8, b9, b10, b11, b12, b13, b14, b15, b16, b17, b18)
noncomputable def bitmap_fits (w1 h2 : Int) : Option Bool := call G 54 (w1, h2)
noncomputable def prefix_Standard (k1 : Int) : Option ((List Line) × Int) := call G 55 k1
noncomputable def prefix_Bits (a1 : List Line) (n2 : Bool) (n3 : Int) : Option (Int × (List Int)) := call G 56 (a1, n2, n3)
noncomputable def runs_remains (colour1 : Int) : Option (List Line) := call G 57 colour1
noncomputable def runs_marks (above1 : List Int) (a2 colour3 : Int) : Option (Int × Int) := call G 58 (above1, a2, colour3)
noncomputable def runs_change (pixels1 : List Int) (a2 colour3 : Int) : Option Int := call G 59 (pixels1, a2, colour3)
noncomputable def runs_list (s1 : List Int) : Option (List Int) := call G 60 s1
noncomputable def runs_uprights : Option (List (List Int)) := call G 61 ()
noncomputable def refine_contexts (template1 : Int) : Option Int := call G 62 template1
noncomputable def coder_New (kind1 n2 : Int) : Option (Int × Int × (List Int)) := call G 63 (kind1, n2)
noncomputable def coder_Valid (m1 : Int) (m2 : List Int) : Option Bool := call G 64 (m1, m2)
noncomputable def coder_begin (m1 : Int) (m2 : List Int) : Option (Int × Int × Int × (List Int)) := call G 65 (m1, m2)
noncomputable def coder_Encoder_Put (ctx1 bit2 b3 b4 b5 : Int) (b6 b7 : List Int) : Option (Int × Int × Int × Int × (List Int) × (List Int)) := call G 66 (ctx1, bit2, b3, b4, b5, b6, b7)
noncomputable def coder_Encoder_Model (b1 b2 b3 : Int) (b4 b5 : List Int) : Option (Int × (List Int) × Int × Int × Int × (List Int) × (List Int)) := call G 67 (b1, b2, b3, b4, b5)
noncomputable def refine_fits (m1 : Int) (m2 : List Int) (base3 o4 o5 o6 : Int) (o7 : Bool) (o8 : Int) : Option Bool := call G 68 (m1, m2, base3, o4, o5, o6, o7, o8)
noncomputable def refine_newRegion (o1 o2 o3 : Int) (o4 : Bool) (o5 w6 h7 : Int) (pix8 : List Int) (r9 r10 : Int) (r11 : List Int) : Option (Int × Int × Int × Bool × Int × Int × Int × (List Int) × Int × Int × (List Int)) := call G 69 (o1, o2, o3, o4, o5, w6, h7, pix8, r9, r10, r11)
noncomputable def refine_region_typical (y1 b2 b3 b4 : Int) (b5 : Bool) (b6 b7 b8 : Int) (b9 : List Int) (b10 b11 : Int) (b12 : List Int) : Option (Bool × Int × Int × Int × Bool × Int × Int × Int × (List Int) × Int × Int × (List Int)) := call G 70 (y1, b2, b3, b4, b5, b6, b7, b8, b9, b10, b11, b12)
noncomputable def refine_region_flat (x1 y2 b3 b4 b5 : Int) (b6 : Bool) (b7 b8 b9 : Int) (b10 : List Int) (b11 b12 : Int) (b13 : List Int) : Option (Int × Bool × Int × Int × Int × Bool × Int × Int × Int × (List Int) × Int × Int × (List Int)) := call G 71 (x1, y2, b3, b4, b5, b6, b7, b8, b9, b10, b11, b12, b13)
noncomputable def refine_region_context (x1 y2 b3 b4 b5 : Int) (b6 : Bool) (b7 b8 b9 : Int) (b10 : List Int) (b11 b12 : Int) (b13 : List Int) : Option (Int × Int × Int × Int × Bool × Int × Int × Int × (List Int) × Int × Int × (List Int)) := call G 72 (x1, y2, b3, b4, b5, b6, b7, b8, b9, b10, b11, b12, b13)
noncomputable def refine_grid_at (g1 g2 : Int) (g3 : List Int) (x4 y5 : Int) : Option Int := call G 73 (g1, g2, g3, x4, y5)
noncomputable def coder_Encoder_none (b1 b2 b3 : Int) (b4 b5 : List Int) : Option (Bool × Int × Int × Int × (List Int) × (List Int)) := call G 74 (b1, b2, b3, b4, b5)
noncomputable def segment_store_takes (s1 s2 s3 : Int) (s4 : List Int) (s5 : List Bool) (s6 : List Int) (last7 : Int) (b8 : List Entint) : Option (Bool × (List Entint)) := call G 75 (s1, s2, s3, s4, s5, s6, last7, b8)
noncomputable def page_Decode_1 (s1 s2 s3 : Int) (s4 : List Int) (s5 : List Bool) (s6 : List Int) (b7 : Int) : Option (Bool × Int) := call G 76 (s1, s2, s3, s4, s5, s6, b7)
noncomputable def page_cursor_begin (b1 : List Int) (b2 b3 : Int) : Option (Int × Int × Int × Int × Int × Bool × (List Int) × Int × Int) := call G 77 (b1, b2, b3)
noncomputable def page_cursor_byte (most1 : Int) (b2 : List Int) (b3 b4 : Int) : Option (Int × (List Int) × Int × Int) := call G 78 (most1, b2, b3, b4)
noncomputable def page_cursor_signed (b1 : List Int) (b2 b3 : Int) : Option (Int × (List Int) × Int × Int) := call G 79 (b1, b2, b3)
noncomputable def bitmap_Cut (b1 b2 : Int) (b3 : List Int) (x4 y5 w6 h7 : Int) : Option (Int × Int × (List Int) × Int) := call G 80 (b1, b2, b3, x4, y5, w6, h7)
noncomputable def page_cursor_rest (b1 : List Int) (b2 b3 : Int) : Option ((List Int) × (List Int) × Int × Int) := call G 81 (b1, b2, b3)
noncomputable def refine_Decode (o1 o2 o3 : Int) (o4 : Bool) (o5 : Int) (code6 : List Int) (w7 h8 r9 r10 : Int) (r11 : List Int) : Option (Int × Int × (List Int) × Int) := call G 82 (o1, o2, o3, o4, o5, code6, w7, h8, r9, r10, r11)
noncomputable def page_builder_draw (s1 s2 s3 : Int) (s4 : List Int) (s5 : List Bool) (s6 : List Int) (g7 g8 g9 g10 g11 : Int) (g12 : Bool) (b13 b14 : Int) (b15 : List Int) (b16 b17 b18 : Int) (b19 : List Int) (b20 b21 : Bool) (b22 b23 : Int) (b24 : List EntBitmap) : Option (Int × Int × Int × (List Int) × Bool × Bool × Int × Int × (List EntBitmap)) := call G 83 (s1, s2, s3, s4, s5, s6, g7, g8, g9, g10, g11, g12, b13, b14, b15, b16, b17, b18, b19, b20, b21, b22, b23, b24)
noncomputable def runs_GetTwo (b1 : List Int) (w2 h3 : Int) : Option (Int × Int × (List Int) × Int × Int) := call G 84 (b1, w2, h3)
noncomputable def runs_GetOne (b1 : List Int) (w2 h3 : Int) : Option (Int × Int × (List Int) × Int × Int) := call G 85 (b1, w2, h3)
noncomputable def page_cursor_size (b1 : List Int) (b2 b3 : Int) : Option (Int × (List Int) × Int × Int) := call G 86 (b1, b2, b3)
noncomputable def page_cursor_sides (w1 h2 : Int) (b3 : List Int) (b4 b5 : Int) : Option ((List Int) × Int × Int) := call G 87 (w1, h2, b3, b4, b5)
noncomputable def page_cursor_end (b1 : List Int) (b2 b3 : Int) : Option ((List Int) × Int × Int) := call G 88 (b1, b2, b3)
noncomputable def page_cursor_fail (err1 : Int) (b2 : List Int) (b3 b4 : Int) : Option ((List Int) × Int × Int) := call G 89 (err1, b2, b3, b4)
noncomputable def prefix_lines (l1 : List Arr4) : Option (List Line) := call G 90 l1
noncomputable def prefix_Valid (a1 : List Line) : Option Bool := call G 91 a1
noncomputable def prefix_codes (a1 : List Line) : Option (List Code) := call G 92 a1
noncomputable def prefix_put (a1 : List Line) (l2 : List Code) (n3 : Bool) (n4 : Int) : Option (Int × (List Int)) := call G 93 (a1, l2, n3, n4)
noncomputable def refine_fresh (template1 : Int) : Option (List Arr2) := call G 94 template1
noncomputable def coder_clone (m1 : Int) (m2 : List Int) : Option (Int × (List Int)) := call G 95 (m1, m2)
noncomputable def coder_chances : Option Unit := call G 96 ()
noncomputable def coder_interval_mid (ctx1 b2 b3 b4 : Int) (b5 b6 : List Int) : Option (Int × Int × Int × Int × (List Int) × (List Int)) := call G 97 (ctx1, b2, b3, b4, b5, b6)
noncomputable def coder_interval_take (ctx1 bit2 mid3 b4 b5 b6 : Int) (b7 b8 : List Int) : Option (Int × Int × Int × (List Int) × (List Int)) := call G 98 (ctx1, bit2, mid3, b4, b5, b6, b7, b8)
noncomputable def coder_interval_same (b1 b2 b3 : Int) (b4 b5 : List Int) : Option (Bool × Int × Int × Int × (List Int) × (List Int)) := call G 99 (b1, b2, b3, b4, b5)
noncomputable def coder_interval_lose (b1 b2 b3 : Int) (b4 b5 : List Int) : Option (Int × Int × Int × Int × (List Int) × (List Int)) := call G 100 (b1, b2, b3, b4, b5)
noncomputable def refine_beside : Option (List Arr2) := call G 101 ()
noncomputable def segment_Valid (s1 s2 s3 : Int) (s4 : List Int) (s5 : List Bool) (s6 : List Int) : Option Bool := call G 102 (s1, s2, s3, s4, s5, s6)
noncomputable def bits_GetSigned (b1 : List Int) (at2 : Int) : Option (Int × Int × Int) := call G 103 (b1, at2)
noncomputable def bitmap_isShift (x1 y2 : Int) : Option Bool := call G 104 (x1, y2)
noncomputable def bitmap_at (b1 b2 : Int) (b3 : List Int) (x4 y5 : Int) : Option Int := call G 105 (b1, b2, b3, x4, y5)
noncomputable def coder_NewDecoder (m1 : Int) (m2 b3 : List Int) : Option ((Int × Int × Int × (List Int) × Int × Int × Int × Bool × (List Int)) ⊕ (Unit)) := call G 106 (m1, m2, b3)
noncomputable def refine_Get (base1 o2 o3 o4 : Int) (o5 : Bool) (o6 w7 h8 r9 r10 : Int) (r11 : List Int) (b12 b13 b14 : Int) (b15 : List Int) (b16 b17 b18 : Int) (b19 : Bool) (b20 : List Int) : Option (Int × Int × (List Int) × Int × Int × Int × Int × (List Int) × Int × Int × Int × Bool × (List Int)) := call G 107 (base1, o2, o3, o4, o5, o6, w7, h8, r9, r10, r11, b12, b13, b14, b15, b16, b17, b18, b19, b20)
noncomputable def bitmap_Draw (b1 b2 : Int) (b3 : List Int) (s4 s5 : Int) (s6 : List Int) (x7 y8 op9 : Int) : Option (Int × Int × (List Int) × Int) := call G 108 (b1, b2, b3, s4, s5, s6, x7, y8, op9)
noncomputable def runs_read (b1 : List Int) (w2 h3 : Int) : Option (Int × Int × (List Int) × Int × Int) := call G 109 (b1, w2, h3)
noncomputable def runs_read_2 (b1 : List Int) (w2 h3 : Int) : Option (Int × Int × (List Int) × Int × Int) := call G 110 (b1, w2, h3)
noncomputable def prefix_isLine (x1 x2 x3 x4 : Int) : Option Bool := call G 111 (x1, x2, x3, x4)
noncomputable def prefix_weight (a1 : List Line) : Option (Int × Int × Int) := call G 112 a1
noncomputable def prefix_line (a1 : List Line) (n2 : Bool) (n3 : Int) : Option (Int × Int) := call G 113 (a1, n2, n3)
noncomputable def prefix_digits (x1 n2 : Int) : Option (List Int) := call G 114 (x1, n2)
noncomputable def coder_table_chance (kind1 s2 : Int) : Option Int := call G 115 (kind1, s2)
noncomputable def coder_next (kind1 s2 bit3 : Int) : Option Int := call G 116 (kind1, s2, bit3)
noncomputable def coder_Decoder_shift (b1 b2 b3 b4 b5 b6 : Int) (b7 b8 : List Int) : Option (Int × Int × Int × Int × Int × Int × (List Int) × (List Int)) := call G 117 (b1, b2, b3, b4, b5, b6, b7, b8)
noncomputable def coder_Decoder_Get (ctx1 b2 b3 b4 : Int) (b5 : List Int) (b6 b7 b8 : Int) (b9 : Bool) (b10 : List Int) : Option (Int × Int × Int × Int × Int × (List Int) × Int × Int × Int × Bool × (List Int)) := call G 118 (ctx1, b2, b3, b4, b5, b6, b7, b8, b9, b10)
noncomputable def coder_Decoder_Model (b1 b2 b3 : Int) (b4 : List Int) (b5 b6 b7 : Int) (b8 : Bool) (b9 : List Int) : Option (Int × (List Int) × Int × Int × Int × (List Int) × Int × Int × Int × Bool × (List Int)) := call G 119 (b1, b2, b3, b4, b5, b6, b7, b8, b9)
noncomputable def refine_newRegion_2 (o1 o2 o3 : Int) (o4 : Bool) (o5 w6 h7 r8 r9 : Int) (r10 b11 : List Int) : Option ((List Int) × Int × Int × Int × Bool × Int × Int × Int × Int × Int × (List Int)) := call G 120 (o1, o2, o3, o4, o5, w6, h7, r8, r9, r10, b11)
noncomputable def refine_region_row (base1 y2 b3 b4 b5 : Int) (b6 : Bool) (b7 b8 b9 b10 b11 : Int) (b12 b13 : List Int) (b14 b15 b16 : Int) (b17 : List Int) (b18 b19 b20 : Int) (b21 : Bool) (b22 : List Int) : Option (Int × Int × Int × Int × Bool × Int × Int × Int × Int × Int × (List Int) × (List Int) × Int × Int × Int × (List Int) × Int × Int × Int × Bool × (List Int)) := call G 121 (base1, y2, b3, b4, b5, b6, b7, b8, b9, b10, b11, b12, b13, b14, b15, b16, b17, b18, b19, b20, b21, b22)
noncomputable def bitmap_clone (b1 b2 : Int) (b3 : List Int) : Option (Int × Int × (List Int)) := call G 122 (b1, b2, b3)
noncomputable def bitmap_combine (a1 b2 op3 : Int) : Option Int := call G 123 (a1, b2, op3)
noncomputable def runs_newReader (b1 : List Int) : Option ((List Line) × (List (List Int)) × (List Line) × (List (List Int)) × (List Line) × (List (List Int)) × (List (List Int)) × (List Int) × Int) := call G 124 b1
noncomputable def runs_reader_two (w1 : Int) (above2 : List Int) (b3 : List Line) (b4 : List (List Int)) (b5 : List Line) (b6 : List (List Int)) (b7 : List Line) (b8 b9 : List (List Int)) (b10 : List Int) (b11 : Int) : Option ((List Int) × Int × (List Line) × (List (List Int)) × (List Line) × (List (List Int)) × (List Line) × (List (List Int)) × (List (List Int)) × (List Int) × Int) := call G 125 (w1, above2, b3, b4, b5, b6, b7, b8, b9, b10, b11)
noncomputable def bits_Reader_At (b1 : List Int) (b2 : Int) : Option (Int × (List Int) × Int) := call G 126 (b1, b2)
noncomputable def runs_reader_one (w1 : Int) (x2 : List Int) (b3 : List Line) (b4 : List (List Int)) (b5 : List Line) (b6 : List (List Int)) (b7 : List Line) (b8 b9 : List (List Int)) (b10 : List Int) (b11 : Int) : Option ((List Int) × Int × (List Line) × (List (List Int)) × (List Line) × (List (List Int)) × (List Line) × (List (List Int)) × (List (List Int)) × (List Int) × Int) := call G 127 (w1, x2, b3, b4, b5, b6, b7, b8, b9, b10, b11)
noncomputable def prefix_offset (x1 x2 x3 x4 : Int) (n5 : Bool) (n6 : Int) : Option (Int × Bool) := call G 128 (x1, x2, x3, x4, n5, n6)
noncomputable def coder_Decoder_none (b1 b2 b3 : Int) (b4 : List Int) (b5 b6 b7 : Int) (b8 : Bool) (b9 : List Int) : Option (Bool × Int × Int × Int × (List Int) × Int × Int × Int × Bool × (List Int)) := call G 129 (b1, b2, b3, b4, b5, b6, b7, b8, b9)
noncomputable def coder_interval_mid_2 (ctx1 b2 b3 b4 : Int) (b5 : List Int) (b6 b7 b8 : Int) (b9 : Bool) (b10 : List Int) : Option (Int × Int × Int × Int × (List Int) × Int × Int × Int × Bool × (List Int)) := call G 130 (ctx1, b2, b3, b4, b5, b6, b7, b8, b9, b10)
noncomputable def coder_interval_take_2 (ctx1 bit2 mid3 b4 b5 b6 : Int) (b7 : List Int) (b8 b9 b10 : Int) (b11 : Bool) (b12 : List Int) : Option (Int × Int × Int × (List Int) × Int × Int × Int × Bool × (List Int)) := call G 131 (ctx1, bit2, mid3, b4, b5, b6, b7, b8, b9, b10, b11, b12)
noncomputable def coder_interval_same_2 (b1 b2 b3 : Int) (b4 : List Int) (b5 b6 b7 : Int) (b8 : Bool) (b9 : List Int) : Option (Bool × Int × Int × Int × (List Int) × Int × Int × Int × Bool × (List Int)) := call G 132 (b1, b2, b3, b4, b5, b6, b7, b8, b9)
noncomputable def coder_interval_lose_2 (b1 b2 b3 : Int) (b4 : List Int) (b5 b6 b7 : Int) (b8 : Bool) (b9 : List Int) : Option (Int × Int × Int × Int × (List Int) × Int × Int × Int × Bool × (List Int)) := call G 133 (b1, b2, b3, b4, b5, b6, b7, b8, b9)
noncomputable def coder_Decoder_shift_2 (b1 b2 b3 : Int) (b4 : List Int) (b5 b6 b7 : Int) (b8 : Bool) (b9 : List Int) : Option (Int × Int × Int × (List Int) × Int × Int × Int × Bool × (List Int)) := call G 134 (b1, b2, b3, b4, b5, b6, b7, b8, b9)
noncomputable def refine_region_flat_2 (x1 y2 b3 b4 b5 : Int) (b6 : Bool) (b7 b8 b9 b10 b11 : Int) (b12 b13 : List Int) : Option (Int × Bool × Int × Int × Int × Bool × Int × Int × Int × Int × Int × (List Int) × (List Int)) := call G 135 (x1, y2, b3, b4, b5, b6, b7, b8, b9, b10, b11, b12, b13)
noncomputable def refine_region_context_2 (x1 y2 b3 b4 b5 : Int) (b6 : Bool) (b7 b8 b9 b10 b11 : Int) (b12 b13 : List Int) : Option (Int × Int × Int × Int × Bool × Int × Int × Int × Int × Int × (List Int) × (List Int)) := call G 136 (x1, y2, b3, b4, b5, b6, b7, b8, b9, b10, b11, b12, b13)
noncomputable def bytes_Clone (b1 : List Int) : Option (List Int) := call G 137 b1
noncomputable def bits_NewReader (b1 : List Int) : Option ((List Int) × Int) := call G 138 b1
noncomputable def runs_newTable (l1 : List Line) : Option ((List Line) × (List (List Int))) := call G 139 l1
noncomputable def runs_reader_mode (b1 : List Line) (b2 : List (List Int)) (b3 : List Line) (b4 : List (List Int)) (b5 : List Line) (b6 b7 : List (List Int)) (b8 : List Int) (b9 b10 b11 b12 : Int) (b13 b14 : List Int) : Option (Int × (List Line) × (List (List Int)) × (List Line) × (List (List Int)) × (List Line) × (List (List Int)) × (List (List Int)) × (List Int) × Int × Int × Int × Int × (List Int) × (List Int)) := call G 140 (b1, b2, b3, b4, b5, b6, b7, b8, b9, b10, b11, b12, b13, b14)
noncomputable def bits_Reader_none (b1 : List Int) (b2 : Int) : Option (Bool × (List Int) × Int) := call G 141 (b1, b2)
noncomputable def runs_reader_run (colour1 : Int) (b2 : List Line) (b3 : List (List Int)) (b4 : List Line) (b5 : List (List Int)) (b6 : List Line) (b7 b8 : List (List Int)) (b9 : List Int) (b10 : Int) : Option (Int × Int × (List Line) × (List (List Int)) × (List Line) × (List (List Int)) × (List Line) × (List (List Int)) × (List (List Int)) × (List Int) × Int) := call G 142 (colour1, b2, b3, b4, b5, b6, b7, b8, b9, b10)
noncomputable def slices_Repeat_byte_byte (x1 : List Int) (count2 : Int) : Option (List Int) := call G 143 (x1, count2)
noncomputable def prefix_Codes (a1 : List Line) : Option ((List (List Int)) × Int) := call G 144 a1
noncomputable def runs_reader_word (l1 : List (List Int)) (b2 : List Line) (b3 : List (List Int)) (b4 : List Line) (b5 : List (List Int)) (b6 : List Line) (b7 b8 : List (List Int)) (b9 : List Int) (b10 : Int) : Option (Int × Int × (List Line) × (List (List Int)) × (List Line) × (List (List Int)) × (List Line) × (List (List Int)) × (List (List Int)) × (List Int) × Int) := call G 145 (l1, b2, b3, b4, b5, b6, b7, b8, b9, b10)
noncomputable def runs_reader_flat (b1 : List Line) (b2 : List (List Int)) (b3 : List Line) (b4 : List (List Int)) (b5 : List Line) (b6 b7 : List (List Int)) (b8 : List Int) (b9 b10 b11 b12 : Int) (b13 b14 : List Int) : Option (Int × (List Line) × (List (List Int)) × (List Line) × (List (List Int)) × (List Line) × (List (List Int)) × (List (List Int)) × (List Int) × Int × Int × Int × Int × (List Int) × (List Int)) := call G 146 (b1, b2, b3, b4, b5, b6, b7, b8, b9, b10, b11, b12, b13, b14)
noncomputable def runs_state_fill (x1 colour2 b3 b4 b5 : Int) (b6 b7 : List Int) : Option (Int × Int × Int × (List Int) × (List Int)) := call G 147 (x1, colour2, b3, b4, b5, b6, b7)
noncomputable def runs_reader_number (a1 : List Line) (a2 : List (List Int)) (b3 : List Line) (b4 : List (List Int)) (b5 : List Line) (b6 : List (List Int)) (b7 : List Line) (b8 b9 : List (List Int)) (b10 : List Int) (b11 : Int) : Option (Int × Int × (List Line) × (List (List Int)) × (List Line) × (List (List Int)) × (List Line) × (List (List Int)) × (List (List Int)) × (List Int) × Int) := call G 148 (a1, a2, b3, b4, b5, b6, b7, b8, b9, b10, b11)
noncomputable def math_bits_Mul (x1 y2 : Int) : Option (Int × Int) := call G 149 (x1, y2)
noncomputable def slices_Index_string_string (s1 : List (List Int)) (v2 : List Int) : Option Int := call G 150 (s1, v2)
noncomputable def slices_ContainsFunc_string_string (s1 : List (List Int)) (b2 : List Int) : Option (Bool × (List Int)) := call G 151 (s1, b2)
noncomputable def bits_Reader_Bits (n1 : Int) (b2 : List Int) (b3 : Int) : Option (Int × Int × (List Int) × Int) := call G 152 (n1, b2, b3)
noncomputable def math_bits_Mul64 (x1 y2 : Int) : Option (Int × Int) := call G 153 (x1, y2)
noncomputable def slices_IndexFunc_string_string (s1 : List (List Int)) (b2 : List Int) : Option (Int × (List Int)) := call G 154 (s1, b2)
noncomputable def bits_Reader_Left (b1 : List Int) (b2 : Int) : Option (Int × (List Int) × Int) := call G 155 (b1, b2)
noncomputable def runs_reader_word_1 (w1 b2 : List Int) : Option (Bool × (List Int)) := call G 156 (w1, b2)
noncomputable def strings_HasPrefix (s1 prefix2 : List Int) : Option Bool := call G 157 (s1, prefix2)
noncomputable def internal_stringslite_HasPrefix (s1 prefix2 : List Int) : Option Bool := call G 158 (s1, prefix2)
end
end Go.Proofs.YtgffdmgidnnedaaGreat.P
