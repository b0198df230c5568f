/- The program as the value reading has it: kinds of elements, functions, and that all fits. Printed by wip/tool/vsym.py. -/
import Derived.KernelRfl
import Derived.Test.YtgffdmgidnnedaaGreatProg
import Derived.Test.YtgffdmgidnnedaaGreatRow
namespace Go.Proofs.YtgffdmgidnnedaaGreat.P
open Go Go.Proofs.YtgffdmgidnnedaaGreat.V
set_option linter.unusedVariables false
set_option linter.unusedSimpArgs false
set_option maxRecDepth 100000
noncomputable section
structure Segment where
  number : Int
  kind : Int
  page : Int
  refs : List Int
  keep : List Bool
  data : List Int

structure Mode where
  kind : List Int
  d : Int
  runs_0 : Int
  runs_1 : Int
  colour : Int

structure Arr2 where
  a0 : Int
  a1 : Int

structure Line where
  length : Int
  bits : Int
  low : Int
  kind : Int

structure Arr4 where
  a0 : Int
  a1 : Int
  a2 : Int
  a3 : Int

structure Code where
  bits : Int
  length : Int

noncomputable def TT : Nat → Type
  | 0 => Bool
  | 1 => Segment
  | 2 => List Int
  | 3 => Mode
  | 4 => Arr2
  | 5 => Line
  | 6 => List Int
  | 7 => Arr4
  | 8 => Code
  | _ => Unit
noncomputable def outs0 (x : Bool) : List (PV TT) := [.bool x]
noncomputable def outs1 (x : Segment) : List (PV TT) := [.int .i64 x.number, .int .i64 x.kind, .int .i64 x.page, .ints .i64 x.refs, .rows 0 x.keep, .ints .u8 x.data]
noncomputable def outs2 (x : List Int) : List (PV TT) := [.ints .u8 x]
noncomputable def outs3 (x : Mode) : List (PV TT) := [.str x.kind, .int .i64 x.d, .int .i64 x.runs_0, .int .i64 x.runs_1, .int .i64 x.colour]
noncomputable def outs4 (x : Arr2) : List (PV TT) := [.int .i64 x.a0, .int .i64 x.a1]
noncomputable def outs5 (x : Line) : List (PV TT) := [.int .i64 x.length, .int .i64 x.bits, .int .i64 x.low, .int .i64 x.kind]
noncomputable def outs6 (x : List Int) : List (PV TT) := [.str x]
noncomputable def outs7 (x : Arr4) : List (PV TT) := [.int .i64 x.a0, .int .i64 x.a1, .int .i64 x.a2, .int .i64 x.a3]
noncomputable def outs8 (x : Code) : List (PV TT) := [.int .i64 x.bits, .int .i64 x.length]
noncomputable def outs : (i : Nat) → TT i → List (PV TT)
  | 0, x => outs0 x
  | 1, x => outs1 x
  | 2, x => outs2 x
  | 3, x => outs3 x
  | 4, x => outs4 x
  | 5, x => outs5 x
  | 6, x => outs6 x
  | 7, x => outs7 x
  | 8, x => outs8 x
  | _, _ => []
noncomputable def inn0 : List (PV TT) → Option Bool
  | [c0] => (V.asBool c0).bind fun y0 => some y0
  | _ => none
noncomputable def inn1 : List (PV TT) → Option Segment
  | [c0, c1, c2, c3, c4, c5] => (V.asInt .i64 c0).bind fun y0 => (V.asInt .i64 c1).bind fun y1 => (V.asInt .i64 c2).bind fun y2 => (V.asInts .i64 c3).bind fun y3 => (V.asRows 0 c4).bind fun y4 => (V.asInts .u8 c5).bind fun y5 => some (Segment.mk y0 y1 y2 y3 y4 y5)
  | _ => none
noncomputable def inn2 : List (PV TT) → Option (List Int)
  | [c0] => (V.asInts .u8 c0).bind fun y0 => some y0
  | _ => none
noncomputable def inn3 : List (PV TT) → Option Mode
  | [c0, c1, c2, c3, c4] => (V.asStr c0).bind fun y0 => (V.asInt .i64 c1).bind fun y1 => (V.asInt .i64 c2).bind fun y2 => (V.asInt .i64 c3).bind fun y3 => (V.asInt .i64 c4).bind fun y4 => some (Mode.mk y0 y1 y2 y3 y4)
  | _ => none
noncomputable def inn4 : List (PV TT) → Option Arr2
  | [c0, c1] => (V.asInt .i64 c0).bind fun y0 => (V.asInt .i64 c1).bind fun y1 => some (Arr2.mk y0 y1)
  | _ => none
noncomputable def inn5 : List (PV TT) → Option Line
  | [c0, c1, c2, c3] => (V.asInt .i64 c0).bind fun y0 => (V.asInt .i64 c1).bind fun y1 => (V.asInt .i64 c2).bind fun y2 => (V.asInt .i64 c3).bind fun y3 => some (Line.mk y0 y1 y2 y3)
  | _ => none
noncomputable def inn6 : List (PV TT) → Option (List Int)
  | [c0] => (V.asStr c0).bind fun y0 => some y0
  | _ => none
noncomputable def inn7 : List (PV TT) → Option Arr4
  | [c0, c1, c2, c3] => (V.asInt .i64 c0).bind fun y0 => (V.asInt .i64 c1).bind fun y1 => (V.asInt .i64 c2).bind fun y2 => (V.asInt .i64 c3).bind fun y3 => some (Arr4.mk y0 y1 y2 y3)
  | _ => none
noncomputable def inn8 : List (PV TT) → Option Code
  | [c0, c1] => (V.asInt .i64 c0).bind fun y0 => (V.asInt .i64 c1).bind fun y1 => some (Code.mk y0 y1)
  | _ => none
noncomputable def inn : (i : Nat) → List (PV TT) → Option (TT i)
  | 0, l => inn0 l
  | 1, l => inn1 l
  | 2, l => inn2 l
  | 3, l => inn3 l
  | 4, l => inn4 l
  | 5, l => inn5 l
  | 6, l => inn6 l
  | 7, l => inn7 l
  | 8, l => inn8 l
  | _, _ => none
noncomputable def E : Env := { T := TT, outs := outs, inn := inn, sz := fun i => (getL [1, 6, 1, 5, 2, 4, 1, 4, 2] i).getD 0, flat := fun i => (getL [true, false, false, true, true, true, true, true, true] i).getD false }
noncomputable def els : List (TypeId × EK) := [(3, .int .i64), (4, .row 0), (5, .int .u8), (9, .row 6), (27, .row 2), (40, .row 1), (51, .row 4), (100, .row 3), (210, .row 7), (216, .row 5), (278, .row 8)]
noncomputable abbrev I6 : TSh := .int .i64
def z73 : List TSh := [.ptr 0 0, I6]
def z72 : List BSh := [.same, .same]
def z71 : List TSh := [.ints .u8, I6]
def z70 : List BSh := [.ints .u8 true]
def z69 : List BSh := [.ints .u8 false]
def z68 : List (Nat × TSh) := [(4, I6), (5, I6)]
def z67 : List TSh := [.ptr 0 0, I6, I6]
def z66 : List BSh := [.ints .i64 false]
def z65 : List TSh := [.ints .u8, I6, I6]
def z64 : List TSh := [I6, I6, .ints .u8]
def z63 : List BSh := [.same, .same, .same]
def z62 : List TSh := [.int .u64, .int .u64]
def z61 : List TSh := [.ptr 0 0, .ints .i64]
def z60 : List TSh := [.ints .u8, .ints .u8]
def z59 : List TSh := [.agg [I6, .ints .i64]]
def z58 : List TSh := [I6, I6, I6, .bool, I6]
def z57 : List BSh := [.same, .ints .u8 false]
def z56 : List TSh := [I6, I6, .arr 1, .rows 4]
def z55 : List BSh := [.box z65]
def z54 : List TSh := [.agg z64]
def z53 : List TSh := [.ints .u8, I6, .litb true]
def z52 : List TSh := [I6, I6, I6, I6, I6, .bool]
def z51 : List TSh := [I6, I6, .ints .u8, .rows 4]
def z50 : List BSh := [.same, .same, .same, .same]
def z49 : List BSh := [.rows 8 true, .box [I6, I6]]
def z48 : List TSh := [.agg z64, I6]
def z47 : List TSh := [.agg z58]
def z46 : List BSh := [.same, .gone, .ints .u8 false]
def z45 : List BSh := [.box [.arr 1], .ints .u8 false]
def z44 : List BSh := [.box z53]
def z43 : List TSh := [.agg z64, I6, I6]
def z42 : List BSh := [.box z51]
def z41 : List BSh := [.same, .same, .same, .same, .same]
def z40 : List BSh := [.same, .same, .same, .ints .u8 true]
def z39 : List BSh := [.same, .same, .same, .ints .u8 false]
def z38 : List TSh := [.ptr 0 0, I6, .agg z64]
def z37 : List TSh := [I6, I6, I6, .ints .i64, .rows 0, .ints .u8]
def z36 : List BSh := [.same, .box [.rows 5, .arr 2], .rows 6 false]
def z35 : List BSh := [.box z56, .ints .u8 true]
def z34 : List BSh := [.box z56, .ints .u8 false]
def z33 : List BSh := [.same, .same, .same, .same, .ints .u8 true, .same]
def z32 : List TSh := [.agg z37]
def z31 : List BSh := [.same, .box z53, .box [.str]]
def z30 : List BSh := [.same, .same, .box [I6, I6, .arr 3], .ints .u8 false]
def z29 : List BSh := [.box [I6, I6, I6, .ints .u8, .arr 1], .ints .u8 false]
def z28 : List BSh := [.same, .same, .same, .same, .same, .same, .same, .same]
def z27 : List BSh := [.box z51, .same, .ints .u8 true]
def z26 : List TSh := [.ptr 0 0, .agg z37]
def z25 : List BSh := [.box z56, .ints .u8 true, .same, .ints .u8 true]
def z24 : List TSh := [.ptr 0 0, .agg z37, .ptr 4 0]
def z23 : List TSh := [I6, I6, I6, .ints .u8, .bool, .bool, I6, I6, .mapr 1, .mapr 2, .mapr 3]
def z22 : List TSh := [.ptr 1 0, .rows 5, .rows 6, .rows 5, .rows 6, .rows 5, .rows 6, .rows 6]
def z21 : List BSh := [.box z23, .mp .i64, .mp .i64, .mp .i64]
def z20 : List BSh := [.box z22, .box z53]
def z19 : List BSh := [.box z22, .box z53, .ints .u8 false]
def z18 : List BSh := [.box z23, .mp .i64, .mp .i64, .mp .i64, .box z65]
def z17 : List BSh := [.same, .box [I6, I6, .arr 6], .mp .i64, .mp .i64, .mp .i64, .box [I6, I6, I6, .ints .u8, .bool, .bool, I6, I6, .mapr 2, .mapr 3, .mapr 4], .ints .u8 false]
def z16 : List BSh := [.box z22, .box z53, .box [I6, I6, I6, .ints .u8, .arr 3], .ints .u8 false]
def z15 : List BSh := [.box [I6, I6, .arr 6], .same, .same, .box [.ptr 4 0, .rows 5, .rows 6, .rows 5, .rows 6, .rows 5, .rows 6, .rows 6], .box z53, .gone, .ints .u8 false]
def z14 : List TSh := [.lit .i64 2048, .lit .i64 1792, .lit .i64 1568, .lit .i64 1372, .lit .i64 1201, .lit .i64 1051, .lit .i64 920, .lit .i64 805, .lit .i64 705, .lit .i64 617, .lit .i64 540, .lit .i64 473, .lit .i64 414, .lit .i64 363, .lit .i64 318, .lit .i64 279, .lit .i64 245, .lit .i64 215, .lit .i64 189, .lit .i64 166, .lit .i64 146, .lit .i64 128, .lit .i64 112, .lit .i64 98, .lit .i64 86, .lit .i64 76, .lit .i64 67, .lit .i64 59, .lit .i64 52, .lit .i64 46, .lit .i64 41, .lit .i64 36]
def z13 : List TSh := [I6, .arr 1, .lit .i64 2048, .lit .i64 1792, .lit .i64 1568, .lit .i64 1372, .lit .i64 1201, .lit .i64 1051, .lit .i64 920, .lit .i64 805, .lit .i64 705, .lit .i64 617, .lit .i64 540, .lit .i64 473, .lit .i64 414, .lit .i64 363, .lit .i64 318, .lit .i64 279, .lit .i64 245, .lit .i64 215, .lit .i64 189, .lit .i64 166, .lit .i64 146, .lit .i64 128, .lit .i64 112, .lit .i64 98, .lit .i64 86, .lit .i64 76, .lit .i64 67, .lit .i64 59, .lit .i64 52, .lit .i64 46, .lit .i64 41, .lit .i64 36, .int .u64, .int .u64, .arr 2, .litb true]
def z12 : List TSh := [I6, .arr 3, .lit .i64 2048, .lit .i64 1792, .lit .i64 1568, .lit .i64 1372, .lit .i64 1201, .lit .i64 1051, .lit .i64 920, .lit .i64 805, .lit .i64 705, .lit .i64 617, .lit .i64 540, .lit .i64 473, .lit .i64 414, .lit .i64 363, .lit .i64 318, .lit .i64 279, .lit .i64 245, .lit .i64 215, .lit .i64 189, .lit .i64 166, .lit .i64 146, .lit .i64 128, .lit .i64 112, .lit .i64 98, .lit .i64 86, .lit .i64 76, .lit .i64 67, .lit .i64 59, .lit .i64 52, .lit .i64 46, .lit .i64 41, .lit .i64 36, .int .u64, .int .u64, .ints .u8, I6, .int .u64, I6, .bool, .litb true]
def z11 : List TSh := [I6, .arr 1, .lit .i64 2048, .lit .i64 1792, .lit .i64 1568, .lit .i64 1372, .lit .i64 1201, .lit .i64 1051, .lit .i64 920, .lit .i64 805, .lit .i64 705, .lit .i64 617, .lit .i64 540, .lit .i64 473, .lit .i64 414, .lit .i64 363, .lit .i64 318, .lit .i64 279, .lit .i64 245, .lit .i64 215, .lit .i64 189, .lit .i64 166, .lit .i64 146, .lit .i64 128, .lit .i64 112, .lit .i64 98, .lit .i64 86, .lit .i64 76, .lit .i64 67, .lit .i64 59, .lit .i64 52, .lit .i64 46, .lit .i64 41, .lit .i64 36, .int .u64, .int .u64, .ints .u8, I6, .int .u64, I6, .bool, .litb true]
def z10 : List TSh := [I6, .arr 1, .lit .i64 2048, .lit .i64 1792, .lit .i64 1568, .lit .i64 1372, .lit .i64 1201, .lit .i64 1051, .lit .i64 920, .lit .i64 805, .lit .i64 705, .lit .i64 617, .lit .i64 540, .lit .i64 473, .lit .i64 414, .lit .i64 363, .lit .i64 318, .lit .i64 279, .lit .i64 245, .lit .i64 215, .lit .i64 189, .lit .i64 166, .lit .i64 146, .lit .i64 128, .lit .i64 112, .lit .i64 98, .lit .i64 86, .lit .i64 76, .lit .i64 67, .lit .i64 59, .lit .i64 52, .lit .i64 46, .lit .i64 41, .lit .i64 36, .int .u64, .int .u64, .arr 2, I6, .int .u64, I6, .litb false, .litb true]
def z9 : List BSh := [.box z13, .ints .i64 true, .ints .u8 true]
def z8 : List BSh := [.box z13, .ints .i64 true, .ints .u8 false]
def z7 : List BSh := [.box z13, .ints .i64 false, .ints .u8 false]
def z6 : List BSh := [.box z11, .ints .i64 true]
def z5 : List BSh := [.box z11, .ints .i64 false]
def z4 : List BSh := [.box z11, .ints .i64 true, .same]
def z3 : List BSh := [.box z10, .ints .i64 true, .ints .u8 true]
def z2 : List BSh := [.box z13, .ints .i64 true, .ints .u8 false, .same, .same, .same, .box z51, .same]
def z1 : List BSh := [.box z56, .ints .u8 true, .box z12, .ints .i64 false, .same, .same]
def z0 : List BSh := [.box z11, .ints .i64 false, .same, .same, .box [I6, I6, .arr 9], .same, .same, .box [I6, I6, .arr 8, .rows 4], .ints .u8 true, .ints .u8 false]
noncomputable def insts : List FInst := [
  { fid := 5, sig := { ps := [.agg [I6, I6, .ints .u8, I6, I6, I6, .bool, I6, .bool, I6]], rs := [.bool] }, ann := { calls := [(27, 1), (37, 2), (40, 3), (50, 4), (62, 5), (69, 6), (84, 7), (86, 7), (87, 7), (89, 8), (95, 7), (97, 7), (99, 8), (112, 9), (117, 9), (120, 3)], joins := [(4, [(.normal, { tm := [(39, .bool)], bs := z63 })]), (16, [(.normal, { tm := [(81, .bool)], bs := z50 })])], slots := [(3, 0), (4, 1)], pads := [(1, 2)] } },
  { fid := 9, sig := { ps := z54, rs := [.bool] }, ann := { calls := [(8, 10)], loops := [(4, { tm := [(3, I6)], bs := [.same] }, [(.exit 0, { tm := [], bs := [.same] }), (.ret, { tm := [(2, .bool)], bs := [.same] })])], joins := [(2, [(.normal, { tm := [(20, .bool)], bs := [.same] })])] } },
  { fid := 17, sig := { ps := z47, rs := [.bool] }, ann := { joins := [(2, [(.normal, { tm := [(20, .bool)], bs := [.same] })]), (6, [(.normal, { tm := [(42, .bool)], bs := [.same] })])] } },
  { fid := 8, sig := { rs := [.bool] }, ann := { calls := [(4, 4), (12, 11)] } },
  { fid := 11, sig := { ps := [I6, I6, I6, I6], rs := z71 }, ann := { calls := [(17, 12), (49, 13), (56, 14)], joins := [(4, [(.normal, { tm := [(41, .bool)], bs := z72 })])] } },
  { fid := 18, sig := { ps := [.agg z52, .agg z58, .agg z64], rs := z71 }, ann := { calls := [(12, 15), (31, 16), (38, 17), (44, 18), (59, 14), (63, 19)], joins := [(2, [(.normal, { tm := [(27, .bool)], bs := z63 })])] } },
  { fid := 12, sig := { ps := [.agg z52, .bool, .agg z64], rs := z71 }, ann := { calls := [(12, 15), (30, 20), (36, 21), (43, 17), (46, 18), (48, 14), (52, 19)], joins := [(2, [(.normal, { tm := [(27, .bool)], bs := z72 })]), (67, [(.normal, { tm := [(8, .ints .u8), (9, I6)], bs := z72 })])] } },
  { fid := 13, sig := { ps := [I6, I6, I6, .ints .i64, .ints .u8], rs := z32 }, ann := { calls := [(17, 22)] } },
  { fid := 14, sig := { ps := [.rows 1, I6], rs := z43 }, ann := { calls := [(15, 23), (34, 24), (40, 25), (64, 26)], loops := [(10, { tm := [(48, I6)], bs := z17 }, [(.exit 1, { tm := [], bs := z17 }), (.ret, { tm := [(5, I6), (6, I6)], bs := z17 })])], joins := [(8, [(.normal, { tm := [(23, .bool)], bs := z72 })]), (24, [(.normal, { tm := [(61, .bool)], bs := z28 })])], slots := [(41, 0), (42, 1), (43, 2)], pads := [(8, 3)] } },
  { fid := 15, sig := { ps := [.agg z64, .agg z64], rs := [.bool] }, ann := {} },
  { fid := 10, sig := { ps := [I6, I6], rs := [.bool] }, ann := {} },
  { fid := 21, sig := { ps := z60, rs := [.bool] }, ann := {} },
  { fid := 22, sig := { ps := [I6, I6, I6], rs := [.agg [I6, I6, .arr 0], I6], rb := z69 }, ann := { calls := [(29, 27)], loops := [(5, { tm := [(35, I6)], bs := [.same, .ints .u8 true, .same] }, [(.exit 0, { tm := [], bs := [.same, .ints .u8 true, .same] })])], joins := [(2, [(.normal, { tm := [(24, .bool)], bs := [.same] })])] } },
  { fid := 23, sig := { ps := z61, pb := z45, rb := z45 }, ann := { calls := [(16, 28)], loops := [(1, { tm := [(10, I6)], bs := z45 }, [(.exit 0, { tm := [], bs := z45 })])] } },
  { fid := 24, sig := { ps := z61, pb := z45, rb := z45 }, ann := { loops := [(1, { tm := [(8, I6)], bs := z45 }, [(.exit 0, { tm := [], bs := z45 })])] } },
  { fid := 25, sig := { ps := [.agg z52], rs := [.bool] }, ann := { calls := [(10, 12), (18, 29), (23, 29)] } },
  { fid := 37, sig := { ps := [.agg z58, .agg z64], rs := z71 }, ann := { calls := [(12, 30), (16, 31), (22, 32), (24, 33), (29, 34), (36, 35), (38, 36)], slots := [(6, 0)], pads := [(5, 1)] } },
  { fid := 28, sig := { ps := [.ptr 0 0, .agg z52], pb := z45, rb := z45 }, ann := { calls := [(10, 13), (17, 37), (23, 18), (26, 14)] } },
  { fid := 29, sig := { ps := [.bool, I6], rs := [I6] }, ann := {} },
  { fid := 30, sig := { ps := [.ptr 0 0, .ints .u8, I6], pb := z45, rs := z71, rb := [.gone, .gone] }, ann := {} },
  { fid := 26, sig := { ps := z54, rs := z71 }, ann := { calls := [(10, 31), (13, 38), (20, 39), (31, 40), (36, 41)], loops := [(5, { tm := [(4, .arr 1), (15, I6)], bs := z57 }, [(.exit 0, { tm := [(4, .arr 1)], bs := z57 })]), (8, { tm := [(4, .arr 1), (22, I6)], bs := z57 }, [(.exit 2, { tm := [(4, .arr 1)], bs := z57 })])] } },
  { fid := 27, sig := { ps := z54, rs := z71 }, ann := { calls := [(11, 31), (17, 38), (25, 42), (33, 43), (39, 41)], loops := [(6, { tm := [(4, .arr 2), (5, .ints .u8), (19, I6)], bs := z46 }, [(.exit 0, { tm := [(4, .arr 2)], bs := z46 })]), (9, { tm := [(4, .arr 2), (27, I6)], bs := z46 }, [(.exit 2, { tm := [(4, .arr 2)], bs := z46 })])] } },
  { fid := 31, sig := { ps := [I6], rs := [.rows 0] }, ann := { loops := [(3, { tm := [(3, .arr 0), (4, I6)], bs := [.rows 0 false] }, [(.exit 0, { tm := [(3, .arr 0)], bs := [.rows 0 false] })])] } },
  { fid := 32, sig := { ps := [.rows 1], rs := [I6, I6] }, ann := { calls := [(8, 44)] } },
  { fid := 33, sig := { ps := [.rows 1, .fn 34 [.ptr 0 0]], pb := [.box [I6]], rs := [.bool], rb := [.box [I6]] }, ann := { calls := [(7, 45)] } },
  { fid := 35, sig := { ps := [.rows 1, I6], rs := [I6] }, ann := { calls := [(29, 46)], loops := [(3, { tm := [(5, I6), (13, I6)], bs := [] }, [(.exit 0, { tm := [(5, I6)], bs := [] })])], joins := [(10, [(.normal, { tm := [(25, .bool)], bs := [.same] })])] } },
  { fid := 36, sig := { ps := z26, pb := z21, rs := [I6], rb := z21 }, ann := { calls := [(9, 47), (24, 51), (54, 48), (66, 49), (71, 50), (77, 51), (82, 52), (88, 51), (94, 53), (103, 53)] } },
  { fid := 40, sig := { ps := [I6, I6], rs := [.agg [I6, I6, .arr 0], I6], rb := z69 }, ann := { calls := [(8, 54)] } },
  { fid := 41, sig := { ps := [I6], rs := z71 }, ann := { loops := [(5, { tm := [(0, I6), (4, .arr 1)], bs := [.gone, .ints .u8 false] }, [(.exit 0, { tm := [(4, .arr 1)], bs := [.gone, .ints .u8 false] })])], joins := [(2, [(.normal, { tm := [(10, .bool)], bs := [] })])] } },
  { fid := 42, sig := { ps := [I6], rs := [.bool] }, ann := {} },
  { fid := 65, sig := { ps := z47, rs := [.bool] }, ann := {} },
  { fid := 43, sig := { ps := z54, rs := [.bool] }, ann := { calls := [(9, 54)], loops := [(4, { tm := [(25, I6)], bs := [.same] }, [(.exit 0, { tm := [], bs := [.same] }), (.ret, { tm := [(2, .bool)], bs := [.same] })])], joins := [(2, [(.normal, { tm := [(21, .bool)], bs := [.same] })])] } },
  { fid := 67, sig := { ps := z47, rs := [I6] }, ann := { calls := [(5, 55)] } },
  { fid := 66, sig := { ps := [I6, I6], rs := [.agg [I6, .arr 0], I6], rb := z66 }, ann := { joins := [(2, [(.normal, { tm := [(19, .bool)], bs := [.same] })])] } },
  { fid := 68, sig := { ps := z59, rs := [.ptr 0 0, .lit .i64 0], rb := z7, more := [([.nil, .lit .i64 10], [])] }, ann := { calls := [(5, 56), (8, 57)] } },
  { fid := 69, sig := { ps := [.ptr 0 0, I6, .agg z58, .agg z64, .agg z64], pb := z7, rb := z8 }, ann := { calls := [(20, 58), (36, 59), (49, 60), (53, 32), (56, 61), (72, 62), (79, 63), (87, 61)], loops := [(4, { tm := [(28, I6)], bs := z2 }, [(.exit 0, { tm := [], bs := z2 })]), (13, { tm := [(61, I6)], bs := z2 }, [(.exit 2, { tm := [], bs := z2 })])], joins := [(65, [(.normal, { tm := [], bs := z2 }), (.exit 1, { tm := [], bs := z2 })]), (99, [(.normal, { tm := [(12, I6)], bs := z28 })])] } },
  { fid := 70, sig := { ps := [.ptr 0 0], pb := z7, rs := [.ints .u8], rb := z9 }, ann := { calls := [(8, 64)], loops := [(5, { tm := [(3, .arr 3), (15, I6)], bs := z40 }, [(.exit 0, { tm := [(3, .arr 3)], bs := z40 }), (.ret, { tm := [(2, .arr 3)], bs := z39 })]), (10, { tm := [(3, .arr 3), (38, I6)], bs := z39 }, [(.exit 2, { tm := [(3, .arr 3)], bs := z39 })])] } },
  { fid := 39, sig := { ps := z61, pb := z45, rb := z45 }, ann := { calls := [(16, 65)], loops := [(1, { tm := [(10, I6)], bs := z45 }, [(.exit 0, { tm := [], bs := z45 })])] } },
  { fid := 44, sig := { ps := z54, rs := [.rows 2] }, ann := { loops := [(3, { tm := [(3, .arr 1), (7, I6)], bs := [.same, .rows 2 false] }, [(.exit 0, { tm := [(3, .arr 1)], bs := [.same, .rows 2 false] })])] } },
  { fid := 45, sig := { ps := [.ints .u8], rs := [.ints .i64] }, ann := { loops := [(4, { tm := [(3, .arr 0), (4, .int .u8), (5, I6)], bs := z66 }, [(.exit 0, { tm := [(3, .arr 0)], bs := z66 })]), (6, { tm := [(5, I6)], bs := [.same] }, [(.exit 2, { tm := [(5, I6)], bs := [.same] })])] } },
  { fid := 46, sig := { ps := [I6, I6], rs := [.ints .u8] }, ann := { calls := [(12, 66), (20, 67), (25, 68), (29, 67)] } },
  { fid := 47, sig := { ps := [.ints .u8], rs := z71 }, ann := { loops := [(3, { tm := [(14, I6)], bs := z70 }, [(.exit 0, { tm := [], bs := z70 }), (.ret, { tm := [(2, .ints .u8), (3, I6)], bs := z70 })])] } },
  { fid := 48, sig := { ps := z60, rs := [.rows 3] }, ann := { calls := [(26, 69), (33, 70), (37, 70)], loops := [(4, { tm := [(5, .arr 0), (6, I6), (7, .int .u8)], bs := [.rows 3 false] }, [(.exit 0, { tm := [(5, .arr 0)], bs := [.rows 3 false] })])], joins := [(8, [(.normal, { tm := [(21, .bool)], bs := [.same] })]), (26, [(.normal, { tm := [(62, .bool)], bs := [.same] })])] } },
  { fid := 49, sig := { ps := [.agg [.str, I6, I6, I6, I6]], rs := [.ints .u8] }, ann := { calls := [(7, 71), (10, 72), (16, 71), (17, 71), (23, 40), (31, 40)] } },
  { fid := 50, sig := { ps := [.rows 1], rs := [.mapr 0, I6], rb := [.mp .i64] }, ann := { calls := [(19, 73)], loops := [(4, { tm := [(5, I6), (11, I6)], bs := [.mp .i64] }, [(.exit 0, { tm := [], bs := [.mp .i64] }), (.ret, { tm := [(2, .mapr 0), (3, I6)], bs := [.mp .i64] })])] } },
  { fid := 51, sig := { ps := [.rows 1, .fn 34 [.ptr 0 0]], pb := [.box [I6]], rs := [I6], rb := [.box [I6]] }, ann := { calls := [(16, 74)], loops := [(2, { tm := [(8, I6)], bs := [.box [I6]] }, [(.exit 0, { tm := [], bs := [.box [I6]] }), (.ret, { tm := [(4, I6)], bs := [.box [I6]] })])] } },
  { fid := 52, sig := { ps := z71, rs := [I6, I6, I6] }, ann := { loops := [(4, { tm := [(4, I6), (17, I6)], bs := [] }, [(.exit 0, { tm := [], bs := [] }), (.ret, { tm := [(4, I6), (5, I6), (6, I6)], bs := [] })])], joins := [(2, [(.normal, { tm := [(16, .bool)], bs := [] })]), (22, [(.normal, { tm := [(52, .bool)], bs := [] })])] } },
  { fid := 53, sig := { ps := z26, pb := z21, rs := [I6], rb := z21 }, ann := { joins := [(4, [(.normal, { tm := [(25, .bool)], bs := z41 })])] } },
  { fid := 58, sig := { ps := z24, pb := z18, rb := z18 }, ann := { calls := [(12, 75), (14, 76), (24, 77), (30, 51), (35, 78), (40, 79), (47, 51), (52, 80)], joins := [(10, [(.normal, { tm := [(9, .ptr 8 0), (10, I6)], bs := [.same, .same, .same, .same, .box z65, .same, .same, .same, .box z64] })])], orders := [(5, [2, 7, 11], [[0, 1, 2, 3, 4, 5, 6, 7, 8, 9, 10, 11, 12, 13], [0, 1, 2, 3, 4, 5, 6, 11, 7, 8, 9, 10, 12, 13], [0, 1, 3, 4, 5, 6, 11, 2, 7, 8, 9, 10, 12, 13]])] } },
  { fid := 60, sig := { ps := z24, pb := z18, rb := z18 }, ann := { calls := [(13, 75), (15, 76), (21, 51), (28, 78), (33, 81), (33, 82), (41, 51), (48, 78), (51, 51), (57, 80)], joins := [(14, [(.normal, { tm := [(9, .ptr 7 0), (10, I6), (11, I6)], bs := [.same, .same, .same, .same, .box z65, .same, .same, .box z64] })]), (16, [(.normal, { tm := [(52, .bool)], bs := [.same, .same, .same, .same, .box z65, .same, .same, .same] })])], orders := [(7, [2, 7, 12], [[0, 1, 2, 3, 4, 5, 6, 7, 8, 9, 10, 11, 12, 13, 14, 15], [0, 1, 2, 3, 4, 5, 6, 12, 7, 8, 9, 10, 11, 13, 14, 15], [0, 1, 3, 4, 5, 6, 12, 2, 7, 8, 9, 10, 11, 13, 14, 15]])] } },
  { fid := 61, sig := { ps := [.ptr 0 0, .ptr 4 0], pb := z18, rb := z18 }, ann := { calls := [(8, 83), (10, 83), (21, 84), (23, 76), (25, 85), (37, 12)], joins := [(27, [(.normal, { tm := [(5, I6)], bs := z41 })])] } },
  { fid := 62, sig := { ps := [.ptr 0 0, .bool, I6], pb := z55, rs := [.bool], rb := z55 }, ann := { calls := [(11, 86)] } },
  { fid := 63, sig := { ps := [.ptr 0 0, .ptr 4 0], pb := z18, rb := z18 }, ann := { calls := [(6, 83), (8, 85), (16, 51)] } },
  { fid := 64, sig := { ps := z24, pb := z18, rb := z18 }, ann := { calls := [(7, 85), (13, 51)] } },
  { fid := 75, sig := { ps := [I6, I6], rs := [.bool] }, ann := {} },
  { fid := 108, sig := { ps := [I6], rs := [.arr 0], rb := [.rows 4 false] }, ann := {} },
  { fid := 109, sig := { ps := z59, rs := [.bool] }, ann := { loops := [(7, { tm := [(26, I6)], bs := [.same] }, [(.exit 0, { tm := [], bs := [.same] }), (.ret, { tm := [(2, .bool)], bs := [.same] })])], joins := [(2, [(.normal, { tm := [(19, .bool)], bs := [.same] })]), (45, [(.normal, { tm := [(3, I6)], bs := [.same] })])] } },
  { fid := 110, sig := { ps := z59, rs := [.agg [I6, .arr 0, .lit .i64 2048, .lit .i64 1792, .lit .i64 1568, .lit .i64 1372, .lit .i64 1201, .lit .i64 1051, .lit .i64 920, .lit .i64 805, .lit .i64 705, .lit .i64 617, .lit .i64 540, .lit .i64 473, .lit .i64 414, .lit .i64 363, .lit .i64 318, .lit .i64 279, .lit .i64 245, .lit .i64 215, .lit .i64 189, .lit .i64 166, .lit .i64 146, .lit .i64 128, .lit .i64 112, .lit .i64 98, .lit .i64 86, .lit .i64 76, .lit .i64 67, .lit .i64 59, .lit .i64 52, .lit .i64 46, .lit .i64 41, .lit .i64 36, .int .u64, .int .u64]], rb := z66 }, ann := { calls := [(4, 87), (5, 88)] } },
  { fid := 111, sig := { ps := [.agg z58, I6, I6], rs := [.ptr 0 0], rb := z34 }, ann := { calls := [(15, 55)], slots := [(12, 0), (18, 1)], pads := [(1, 2)] } },
  { fid := 113, sig := { ps := z38, pb := z42, rs := [.ints .u8], rb := z42 }, ann := { calls := [(28, 62), (36, 89)], loops := [(3, { tm := [(16, I6)], bs := z27 }, [(.exit 0, { tm := [], bs := z27 })])] } },
  { fid := 112, sig := { ps := z60, rs := [.bool] }, ann := {} },
  { fid := 114, sig := { ps := z67, pb := z7, rs := [I6], rb := z8 }, ann := { calls := [(9, 64), (41, 90), (42, 91), (46, 92), (55, 93)], loops := [(6, { tm := [], bs := z8 }, [(.exit 1, { tm := [], bs := z8 })])], joins := [(6, [(.normal, { tm := [(10, .bool)], bs := z63 })]), (15, [(.normal, { tm := [], bs := z63 }), (.ret, { tm := [(6, I6)], bs := z63 })])], orders := [(7, [4, 8], [[0, 1, 2, 3, 4, 5, 6, 7, 8, 9, 10, 11, 12, 13], [0, 1, 2, 3, 5, 6, 7, 8, 4, 9, 10, 11, 12, 13]])] } },
  { fid := 115, sig := { ps := z48, rs := [.bool] }, ann := {} },
  { fid := 116, sig := { ps := z67, pb := z42, rs := [I6], rb := z42 }, ann := { calls := [(30, 89)], loops := [(3, { tm := [(7, I6), (15, I6)], bs := z42 }, [(.exit 0, { tm := [(7, I6)], bs := z42 })])] } },
  { fid := 117, sig := { ps := [.ptr 0 0], pb := z7, rs := [.bool], rb := z9 }, ann := {} },
  { fid := 74, sig := { ps := [I6], rs := z71 }, ann := { calls := [(13, 28), (26, 28)], joins := [(2, [(.normal, { tm := [(4, .bool)], bs := [] })]), (6, [(.normal, { tm := [(16, .bool)], bs := [] })])] } },
  { fid := 76, sig := { ps := [I6], rs := [.rows 5, I6] }, ann := { calls := [(14, 94), (23, 94), (32, 94)] } },
  { fid := 77, sig := { ps := [.rows 5, .agg [.bool, I6]], rs := [.arr 0, I6], rb := z69 }, ann := { calls := [(7, 95), (11, 96), (13, 97)] } },
  { fid := 78, sig := { ps := [I6], rs := [.rows 5] }, ann := {} },
  { fid := 79, sig := { ps := [.ints .u8, I6, .int .u8], rs := [I6, I6] }, ann := { calls := [(43, 70)], loops := [(2, { tm := [(6, I6)], bs := [] }, [(.exit 0, { tm := [(6, I6)], bs := [] })])], joins := [(33, [(.normal, { tm := [(8, .int .u8)], bs := [] })])] } },
  { fid := 80, sig := { ps := [.ints .u8, I6, .int .u8], rs := [I6] }, ann := { loops := [(2, { tm := [(7, I6)], bs := [] }, [(.exit 0, { tm := [(7, I6)], bs := [] })])] } },
  { fid := 81, sig := { ps := [.str], rs := [.arr 0], rb := z69 }, ann := { loops := [(3, { tm := [(9, I6)], bs := z70 }, [(.exit 0, { tm := [], bs := z70 })])] } },
  { fid := 82, sig := { rs := [.rows 6] }, ann := {} },
  { fid := 83, sig := { ps := [.mapr 0, .agg z37, I6], pb := [.mp .i64], rs := [.bool], rb := [.mp .i64] }, ann := { calls := [(14, 98)], loops := [(4, { tm := [(25, I6)], bs := z72 }, [(.exit 0, { tm := [], bs := z72 })]), (11, { tm := [(51, I6)], bs := z72 }, [(.exit 2, { tm := [], bs := z72 })])], joins := [(2, [(.normal, { tm := [(21, .bool)], bs := z72 })])] } },
  { fid := 34, sig := { ps := [.agg z37, .ptr 0 0], pb := [.box [I6]], rs := [.bool], rb := [.box [I6]] }, ann := {} },
  { fid := 91, sig := { ps := [.ptr 0 0], pb := z55, rs := [.agg z52], rb := z55 }, ann := { calls := [(6, 83), (8, 83), (15, 84), (17, 99), (22, 29), (23, 51), (25, 99), (30, 29), (31, 51), (33, 76), (38, 51)] } },
  { fid := 84, sig := { ps := z73, pb := z55, rs := [I6], rb := z55 }, ann := { calls := [(22, 86), (45, 51)] } },
  { fid := 85, sig := { ps := [.ptr 0 0, .agg z58], pb := z55, rs := z47, rb := z55 }, ann := { calls := [(6, 76), (11, 76), (17, 30), (18, 51)] } },
  { fid := 89, sig := { ps := [.ptr 0 0], pb := z55, rs := [.ints .u8], rb := z55 }, ann := {} },
  { fid := 100, sig := { ps := [.agg z58, .ints .u8, I6, I6], rs := z48 }, ann := { calls := [(15, 30), (22, 32), (24, 33), (30, 100), (38, 101)], slots := [(10, 0)], pads := [(3, 1)] } },
  { fid := 95, sig := { ps := [.ptr 0 0, .agg z37, .agg z52, .agg z64], pb := z21, rb := z21 }, ann := { calls := [(30, 102)] } },
  { fid := 104, sig := { ps := z65, rs := z43 }, ann := { calls := [(12, 103)] } },
  { fid := 103, sig := { ps := z65, rs := z43 }, ann := { calls := [(12, 104)] } },
  { fid := 86, sig := { ps := [.ptr 0 0], pb := z55, rs := [I6], rb := z55 }, ann := { calls := [(20, 46), (28, 86)] } },
  { fid := 105, sig := { ps := z67, pb := z55, rb := z55 }, ann := { calls := [(16, 12), (22, 51)] } },
  { fid := 106, sig := { ps := [.ptr 0 0], pb := z55, rb := z55 }, ann := { calls := [(13, 51)] } },
  { fid := 107, sig := { ps := z73, pb := z55, rb := z55 }, ann := {} },
  { fid := 176, sig := { ps := z59, rs := [.agg [I6, .arr 0]], rb := z66 }, ann := {} },
  { fid := 177, sig := { rs := [.agg z14] }, ann := { unroll := [(4, 1000)] } },
  { fid := 178, sig := { ps := z67, pb := z42, rs := [.int .u8], rb := z42 }, ann := { joins := [(2, [(.normal, { tm := [(28, .bool)], bs := [.same] })])] } },
  { fid := 180, sig := { ps := z73, pb := z7, rs := [.int .u64], rb := z9 }, ann := { calls := [(33, 105)] } },
  { fid := 179, sig := { ps := [.ptr 0 0, I6, I6, .int .u64], pb := z7, rb := z9 }, ann := { calls := [(39, 106)], joins := [(19, [(.normal, { tm := [], bs := z9 })])] } },
  { fid := 181, sig := { ps := [.ptr 0 0], pb := z7, rs := [.bool], rb := z9 }, ann := {} },
  { fid := 182, sig := { ps := [.ptr 0 0], pb := z7, rs := [.int .u8], rb := z9 }, ann := {} },
  { fid := 126, sig := { ps := [.rows 7], rs := [.rows 5] }, ann := { loops := [(3, { tm := [(3, .arr 0), (8, I6)], bs := [.rows 5 false] }, [(.exit 0, { tm := [(3, .arr 0)], bs := [.rows 5 false] })])] } },
  { fid := 127, sig := { ps := [.rows 5], rs := [.bool] }, ann := { calls := [(18, 107), (23, 108)], loops := [(4, { tm := [(13, I6)], bs := [] }, [(.exit 0, { tm := [], bs := [] }), (.ret, { tm := [(2, .bool)], bs := [] })])] } },
  { fid := 129, sig := { ps := [.rows 5], rs := [.rows 8] }, ann := { loops := [(4, { tm := [(5, I6)], bs := z49 }, [(.exit 0, { tm := [], bs := z49 })]), (8, { tm := [(27, I6)], bs := z49 }, [(.exit 2, { tm := [], bs := z49 })])] } },
  { fid := 128, sig := { ps := [.rows 5, .rows 8, .agg [.bool, I6]], rs := [.arr 0, I6], rb := z69 }, ann := { calls := [(13, 109), (28, 110), (35, 110)] } },
  { fid := 130, sig := { ps := z32, rs := [.bool] }, ann := { loops := [(5, { tm := [(3, I6), (59, I6)], bs := [.same] }, [(.exit 0, { tm := [], bs := [.same] }), (.ret, { tm := [(2, .bool)], bs := [.same] })])], joins := [(2, [(.normal, { tm := [(55, .bool)], bs := [.same] })])] } },
  { fid := 92, sig := { ps := [.ptr 0 0], pb := z55, rs := [I6], rb := z55 }, ann := { calls := [(20, 111), (28, 86)] } },
  { fid := 133, sig := { ps := [.agg [I6, .ints .i64], .ints .u8], rs := [.ptr 0 0, .lit .i64 0], rb := z5, more := [([.nil, .lit .i64 10], [])] }, ann := { calls := [(8, 56), (11, 57), (20, 112)], unroll := [(5, 1000)] } },
  { fid := 165, sig := { ps := [.ptr 0 0, I6, .agg z58, I6, I6, .agg z64], pb := z5, rs := z48, rb := z5 }, ann := { calls := [(23, 113), (31, 30), (37, 12), (44, 31), (51, 114), (55, 115), (58, 116), (65, 58), (76, 117)], loops := [(13, { tm := [(67, I6)], bs := z0 }, [(.exit 0, { tm := [], bs := z0 }), (.ret, { tm := [(13, I6)], bs := z0 })])], joins := [(14, [(.normal, { tm := [(46, .bool)], bs := [.same, .same, .same, .same, .same, .same, .same] })]), (18, [(.normal, { tm := [(60, .bool)], bs := [.box z11, .ints .i64 false, .same, .same, .same, .same, .same] })])] } },
  { fid := 156, sig := { ps := [.agg z64, .agg z64, I6, I6, I6], rs := z48 }, ann := { calls := [(20, 31), (24, 31), (38, 118), (43, 119), (94, 120), (96, 121)], loops := [(7, { tm := [(46, I6)], bs := z33 }, [(.exit 1, { tm := [], bs := z33 })]), (10, { tm := [(51, I6)], bs := z33 }, [(.exit 3, { tm := [], bs := z33 })])], joins := [(2, [(.normal, { tm := [(18, .bool)], bs := z63 })]), (6, [(.normal, { tm := [(28, .bool)], bs := z63 })]), (26, [(.normal, { tm := [(77, .bool)], bs := [.same, .same, .same, .same, .same, .same] })]), (37, [(.normal, { tm := [], bs := z30 }), (.ret, { tm := [(11, I6)], bs := z30 })])] } },
  { fid := 173, sig := { ps := [.ints .u8, I6, I6, .fn 175 []], rs := z43 }, ann := { calls := [(18, 12), (25, 122), (39, 123), (57, 124)], loops := [(8, { tm := [(14, .ints .u8), (32, I6)], bs := z15 }, [(.exit 0, { tm := [], bs := z15 }), (.ret, { tm := [(9, I6), (10, I6)], bs := z15 })])] } },
  { fid := 173, sig := { ps := [.ints .u8, I6, I6, .fn 174 []], rs := z43 }, ann := { calls := [(18, 12), (25, 122), (39, 125), (57, 124)], loops := [(8, { tm := [(14, .ints .u8), (32, I6)], bs := z15 }, [(.exit 0, { tm := [], bs := z15 }), (.ret, { tm := [(9, I6), (10, I6)], bs := z15 })])] } },
  { fid := 229, sig := { ps := [.agg z14, I6, I6], rs := [I6] }, ann := {} },
  { fid := 228, sig := { ps := [I6, I6, I6], rs := [I6] }, ann := { joins := [(41, [(.normal, { tm := [], bs := [.box [I6, I6]] })])] } },
  { fid := 185, sig := { ps := [.agg [I6, I6, I6, I6]], rs := [.bool] }, ann := { joins := [(2, [(.normal, { tm := [(40, .bool)], bs := [.same] })])] } },
  { fid := 186, sig := { ps := [.rows 5], rs := [I6, I6, I6] }, ann := { loops := [(2, { tm := [(2, I6), (3, I6), (4, I6), (9, I6)], bs := [] }, [(.exit 0, { tm := [(2, I6), (3, I6), (4, I6)], bs := [] })])] } },
  { fid := 187, sig := { ps := [.rows 5, .agg [.bool, I6]], rs := [I6, I6] }, ann := { calls := [(20, 126)], loops := [(3, { tm := [(4, I6), (5, I6), (12, I6)], bs := [.same] }, [(.exit 0, { tm := z68, bs := [.same] })])] } },
  { fid := 188, sig := { ps := [I6, I6], rs := [.arr 0], rb := z69 }, ann := { loops := [(3, { tm := [(11, I6)], bs := z70 }, [(.exit 0, { tm := [], bs := z70 })])] } },
  { fid := 146, sig := { ps := z71, rs := [I6, I6, I6] }, ann := { calls := [(10, 46)] } },
  { fid := 192, sig := { ps := [.ptr 0 0], pb := [.box z10, .ints .i64 false, .ints .u8 false], rb := z3 }, ann := { joins := [(25, [(.normal, { tm := [(2, .int .u8)], bs := z3 })])] } },
  { fid := 216, sig := { ps := z73, pb := z5, rs := [I6, I6], rb := z5 }, ann := { calls := [(12, 127), (36, 128), (61, 129), (65, 130), (69, 131), (71, 132)], loops := [(12, { tm := [], bs := z4 }, [(.exit 1, { tm := [], bs := z4 })])], joins := [(6, [(.normal, { tm := [(13, .bool)], bs := z72 })]), (21, [(.normal, { tm := [], bs := z72 }), (.ret, { tm := z68, bs := z72 })]), (85, [(.normal, { tm := [(6, I6)], bs := z72 })])] } },
  { fid := 217, sig := { ps := z43, rs := [.bool] }, ann := {} },
  { fid := 140, sig := { ps := [.ptr 0 0], pb := z5, rs := z59, rb := z5 }, ann := { calls := [(4, 127), (11, 87)] } },
  { fid := 218, sig := { ps := [.agg [I6, .ints .i64], I6, .agg z58], rs := [.bool] }, ann := { calls := [(15, 32)] } },
  { fid := 219, sig := { ps := [.ptr 0 0, .ptr 2 0, I6, .agg z58, I6, .agg z64], pb := [.box z56, .ints .u8 false, .box z12, .ints .i64 false], rs := [I6], rb := [.box z56, .ints .u8 true, .box z12, .ints .i64 false] }, ann := { calls := [(24, 32), (26, 113), (48, 133), (66, 62), (73, 134), (75, 113)], loops := [(9, { tm := [(54, I6)], bs := z1 }, [(.exit 0, { tm := [], bs := z1 }), (.ret, { tm := [(12, I6)], bs := z1 })])], joins := [(12, [(.normal, { tm := [], bs := [.box z56, .ints .u8 true, .same, .same, .same, .same] })]), (39, [(.normal, { tm := [], bs := z1 }), (.ret, { tm := [(12, I6)], bs := z1 })])], orders := [(6, [3, 8, 10, 14], [[0, 1, 2, 3, 4, 5, 6, 7, 8, 9, 10, 11, 12, 13, 14, 15], [0, 1, 2, 3, 4, 5, 6, 7, 8, 9, 11, 12, 13, 14, 10, 15], [0, 1, 2, 3, 4, 5, 6, 7, 11, 12, 13, 14, 8, 9, 10, 15], [0, 1, 2, 4, 5, 6, 7, 8, 3, 9, 10, 11, 12, 13, 14, 15], [0, 1, 2, 4, 5, 6, 7, 8, 3, 9, 11, 12, 13, 14, 10, 15], [0, 1, 2, 4, 5, 6, 7, 8, 9, 11, 12, 13, 14, 3, 10, 15], [0, 1, 2, 4, 5, 6, 7, 11, 12, 13, 14, 3, 8, 9, 10, 15], [0, 1, 2, 4, 5, 6, 7, 11, 12, 13, 14, 8, 3, 9, 10, 15]])] } },
  { fid := 170, sig := { ps := [I6, I6], rs := [.bool] }, ann := {} },
  { fid := 211, sig := { ps := z54, rs := [.agg [I6, I6, .arr 0]], rb := z69 }, ann := { calls := [(9, 135)] } },
  { fid := 171, sig := { ps := z43, rs := [.int .u8] }, ann := { joins := [(2, [(.normal, { tm := [(24, .bool)], bs := [.same] })])] } },
  { fid := 212, sig := { ps := [.int .u8, .int .u8, I6], rs := [.int .u8] }, ann := {} },
  { fid := 223, sig := { ps := [.ints .u8], rs := [.ptr 0 0], rb := z20 }, ann := { calls := [(6, 66), (10, 136), (12, 137), (13, 68), (14, 137), (15, 68), (16, 137), (19, 72)] } },
  { fid := 175, sig := { ps := [.ptr 0 0, I6, .ints .u8], pb := z20, rs := z71, rb := z20 }, ann := { calls := [(26, 138)], loops := [(2, { tm := [], bs := z16 }, [(.exit 0, { tm := [], bs := z16 }), (.ret, { tm := [(6, .ints .u8), (7, I6)], bs := z16 })])], joins := [(4, [(.normal, { tm := [(23, .bool)], bs := z50 })])] } },
  { fid := 224, sig := { ps := [.ptr 0 0], pb := z44, rs := [I6], rb := z44 }, ann := { calls := [(4, 139)] } },
  { fid := 174, sig := { ps := [.ptr 0 0, I6, .ints .u8], pb := z20, rs := z71, rb := z20 }, ann := { calls := [(22, 140), (48, 141)], loops := [(3, { tm := [(8, .arr 2), (9, I6)], bs := z19 }, [(.exit 0, { tm := [(8, .arr 2)], bs := z19 }), (.ret, { tm := [(6, .ints .u8), (7, I6)], bs := z20 })])], joins := [(16, [(.normal, { tm := [(41, .bool)], bs := z63 })])] } },
  { fid := 230, sig := { ps := [.agg [I6, I6, I6, I6], .agg [.bool, I6]], rs := [I6, .bool] }, ann := { joins := [(2, [(.normal, { tm := [(13, .bool)], bs := z72 })]), (4, [(.normal, { tm := [(4, I6), (5, .bool)], bs := z72 })]), (6, [(.normal, { tm := [(33, .bool)], bs := z72 })]), (83, [(.normal, { tm := [(6, I6)], bs := z72 })])] } },
  { fid := 197, sig := { ps := [.ptr 0 0], pb := z5, rs := [.bool], rb := z6 }, ann := {} },
  { fid := 180, sig := { ps := z73, pb := z5, rs := [.int .u64], rb := z6 }, ann := { calls := [(33, 105)] } },
  { fid := 179, sig := { ps := [.ptr 0 0, I6, I6, .int .u64], pb := z5, rb := z6 }, ann := { calls := [(39, 106)], joins := [(19, [(.normal, { tm := [], bs := z6 })])] } },
  { fid := 181, sig := { ps := [.ptr 0 0], pb := z5, rs := [.bool], rb := z6 }, ann := {} },
  { fid := 182, sig := { ps := [.ptr 0 0], pb := z5, rs := [.int .u8], rb := z6 }, ann := {} },
  { fid := 192, sig := { ps := [.ptr 0 0], pb := z5, rb := z6 }, ann := { joins := [(25, [(.normal, { tm := [(2, .int .u8)], bs := z6 })])] } },
  { fid := 113, sig := { ps := z38, pb := z34, rs := [.ints .u8], rb := z35 }, ann := { calls := [(28, 62), (36, 142)], loops := [(3, { tm := [(16, I6)], bs := z25 }, [(.exit 0, { tm := [], bs := z25 })])] } },
  { fid := 116, sig := { ps := z67, pb := z34, rs := [I6], rb := z35 }, ann := { calls := [(30, 142)], loops := [(3, { tm := [(7, I6), (15, I6)], bs := z35 }, [(.exit 0, { tm := [(7, I6)], bs := z35 })])] } },
  { fid := 240, sig := { ps := [.ints .u8], rs := [.arr 0], rb := z69 }, ann := {} },
  { fid := 244, sig := { ps := [.ints .u8], rs := [.ptr 0 0], rb := z44 }, ann := {} },
  { fid := 245, sig := { ps := [.rows 5], rs := [.agg [.rows 5, .rows 6]] }, ann := { calls := [(15, 143)], loops := [(4, { tm := [(20, I6)], bs := z36 }, [(.exit 0, { tm := [], bs := z36 })]), (8, { tm := [(8, .str), (26, I6)], bs := z63 }, [(.exit 2, { tm := [(8, .str)], bs := z63 })])] } },
  { fid := 227, sig := { ps := [.ptr 0 0, .ptr 2 0], pb := z16, rs := [I6], rb := z16 }, ann := { calls := [(16, 144), (36, 69), (44, 145), (65, 146), (90, 146)], joins := [(14, [(.normal, { tm := [(45, .bool)], bs := z50 })]), (26, [(.normal, { tm := [(83, .bool)], bs := z50 })]), (79, [(.normal, { tm := [], bs := [.box z22, .box z53, .box [I6, I6, I6, .ints .u8, .arr 3], .ints .u8 true] }), (.ret, { tm := [(4, I6)], bs := z16 })])] } },
  { fid := 246, sig := { ps := [.ptr 0 0], pb := z44, rs := [.bool], rb := z44 }, ann := {} },
  { fid := 225, sig := { ps := z73, pb := z20, rs := [I6, I6], rb := z20 }, ann := { calls := [(15, 147), (29, 147)] } },
  { fid := 226, sig := { ps := z71, rs := [.ints .u8] }, ann := { calls := [(18, 148)], loops := [(8, { tm := [(8, I6)], bs := z70 }, [(.exit 0, { tm := [], bs := z70 })])], joins := [(8, [(.normal, { tm := [(26, .bool)], bs := [] })])] } },
  { fid := 178, sig := { ps := z67, pb := z34, rs := [.int .u8], rb := z35 }, ann := { joins := [(2, [(.normal, { tm := [(28, .bool)], bs := z72 })])] } },
  { fid := 255, sig := { ps := [.rows 5], rs := [.rows 2, I6] }, ann := { calls := [(8, 95), (11, 96), (22, 110)], loops := [(5, { tm := [(4, .arr 0), (13, I6)], bs := [.rows 2 false] }, [(.exit 0, { tm := [(4, .arr 0)], bs := [.rows 2 false] })])] } },
  { fid := 249, sig := { ps := [.ptr 0 0, .rows 6], pb := z20, rs := [I6, I6], rb := z20 }, ann := { calls := [(12, 149), (22, 150), (29, 151)], loops := [(2, { tm := [], bs := z31 }, [(.ret, { tm := z68, bs := z31 })])], joins := [(6, [(.normal, { tm := [(18, .bool)], bs := z63 })])] } },
  { fid := 250, sig := { ps := [.ptr 0 0, .ptr 2 0], pb := z16, rs := [I6], rb := z16 }, ann := { calls := [(15, 140), (52, 140), (83, 146), (93, 146)], joins := [(10, [(.normal, { tm := [(44, .bool)], bs := z50 })]), (20, [(.normal, { tm := [(76, .bool)], bs := z50 })])] } },
  { fid := 251, sig := { ps := z67, pb := z29, rb := z29 }, ann := { calls := [(21, 141)] } },
  { fid := 247, sig := { ps := [.ptr 0 0, .agg [.rows 5, .rows 6]], pb := z20, rs := [I6, I6], rb := z20 }, ann := { calls := [(13, 144), (30, 151)] } },
  { fid := 248, sig := { ps := z62, rs := z62 }, ann := { calls := [(25, 152)] } },
  { fid := 259, sig := { ps := [.rows 6, .str], rs := [I6] }, ann := { loops := [(2, { tm := [(8, I6)], bs := [] }, [(.exit 0, { tm := [], bs := [] }), (.ret, { tm := [(4, I6)], bs := [] })])] } },
  { fid := 260, sig := { ps := [.rows 6, .fn 261 [.ptr 0 0]], pb := [.box [.str]], rs := [.bool], rb := [.box [.str]] }, ann := { calls := [(7, 153)] } },
  { fid := 256, sig := { ps := z73, pb := z44, rs := [I6, I6], rb := z44 }, ann := { calls := [(9, 139), (20, 154)], loops := [(9, { tm := [(6, I6), (23, I6)], bs := z44 }, [(.exit 1, { tm := [(6, I6)], bs := z44 })])], joins := [(6, [(.normal, { tm := [(10, .bool)], bs := [.same] })]), (15, [(.normal, { tm := [], bs := z44 }), (.ret, { tm := z68, bs := z44 })])] } },
  { fid := 258, sig := { ps := z62, rs := z62 }, ann := {} },
  { fid := 264, sig := { ps := [.rows 6, .fn 261 [.ptr 0 0]], pb := [.box [.str]], rs := [I6], rb := [.box [.str]] }, ann := { calls := [(16, 155)], loops := [(2, { tm := [(8, I6)], bs := [.box [.str]] }, [(.exit 0, { tm := [], bs := [.box [.str]] }), (.ret, { tm := [(4, I6)], bs := [.box [.str]] })])] } },
  { fid := 263, sig := { ps := [.ptr 0 0], pb := z44, rs := [I6], rb := z44 }, ann := { calls := [(4, 139)] } },
  { fid := 261, sig := { ps := [.str, .ptr 0 0], pb := [.box [.str]], rs := [.bool], rb := [.box [.str]] }, ann := { calls := [(6, 156)] } },
  { fid := 262, sig := { ps := [.str, .str], rs := [.bool] }, ann := { calls := [(7, 157)] } },
  { fid := 265, sig := { ps := [.str, .str], rs := [.bool] }, ann := {} }]
noncomputable def G : Prg := { P := Tryz.prog, E := E, el := fun t => lookN t els, F := fun i => (getL insts i).getD { fid := 0, sig := {}, ann := {} } }
theorem inn0_ok : ∀ {l : List (PV TT)} {x : Bool}, inn0 l = some x → Sames (E := E) l (outs0 x)
  | [], _, h => by cases h
  | [_], _, h => by
    simp only [inn0] at h
    obtain ⟨y0, h0, h⟩ := Option.bind_eq_some_iff.1 h; cases h; exact .cons (V.asBool_same h0) (.nil)
  | _ :: _ :: _, _, h => by cases h
theorem inn1_ok : ∀ {l : List (PV TT)} {x : Segment}, inn1 l = some x → Sames (E := E) l (outs1 x)
  | [], _, h => by cases h
  | [_], _, h => by cases h
  | [_, _], _, h => by cases h
  | [_, _, _], _, h => by cases h
  | [_, _, _, _], _, h => by cases h
  | [_, _, _, _, _], _, h => by cases h
  | [_, _, _, _, _, _], _, h => by
    simp only [inn1] at h
    obtain ⟨y0, h0, h⟩ := Option.bind_eq_some_iff.1 h; obtain ⟨y1, h1, h⟩ := Option.bind_eq_some_iff.1 h; obtain ⟨y2, h2, h⟩ := Option.bind_eq_some_iff.1 h; obtain ⟨y3, h3, h⟩ := Option.bind_eq_some_iff.1 h; obtain ⟨y4, h4, h⟩ := Option.bind_eq_some_iff.1 h; obtain ⟨y5, h5, h⟩ := Option.bind_eq_some_iff.1 h; cases h; exact .cons (V.asInt_same h0) (.cons (V.asInt_same h1) (.cons (V.asInt_same h2) (.cons (V.asInts_same h3) (.cons (V.asRows_same h4) (.cons (V.asInts_same h5) (.nil))))))
  | _ :: _ :: _ :: _ :: _ :: _ :: _ :: _, _, h => by cases h
theorem inn2_ok : ∀ {l : List (PV TT)} {x : List Int}, inn2 l = some x → Sames (E := E) l (outs2 x)
  | [], _, h => by cases h
  | [_], _, h => by
    simp only [inn2] at h
    obtain ⟨y0, h0, h⟩ := Option.bind_eq_some_iff.1 h; cases h; exact .cons (V.asInts_same h0) (.nil)
  | _ :: _ :: _, _, h => by cases h
theorem inn3_ok : ∀ {l : List (PV TT)} {x : Mode}, inn3 l = some x → Sames (E := E) l (outs3 x)
  | [], _, h => by cases h
  | [_], _, h => by cases h
  | [_, _], _, h => by cases h
  | [_, _, _], _, h => by cases h
  | [_, _, _, _], _, h => by cases h
  | [_, _, _, _, _], _, h => by
    simp only [inn3] at h
    obtain ⟨y0, h0, h⟩ := Option.bind_eq_some_iff.1 h; obtain ⟨y1, h1, h⟩ := Option.bind_eq_some_iff.1 h; obtain ⟨y2, h2, h⟩ := Option.bind_eq_some_iff.1 h; obtain ⟨y3, h3, h⟩ := Option.bind_eq_some_iff.1 h; obtain ⟨y4, h4, h⟩ := Option.bind_eq_some_iff.1 h; cases h; exact .cons (V.asStr_same h0) (.cons (V.asInt_same h1) (.cons (V.asInt_same h2) (.cons (V.asInt_same h3) (.cons (V.asInt_same h4) (.nil)))))
  | _ :: _ :: _ :: _ :: _ :: _ :: _, _, h => by cases h
theorem inn4_ok : ∀ {l : List (PV TT)} {x : Arr2}, inn4 l = some x → Sames (E := E) l (outs4 x)
  | [], _, h => by cases h
  | [_], _, h => by cases h
  | [_, _], _, h => by
    simp only [inn4] at h
    obtain ⟨y0, h0, h⟩ := Option.bind_eq_some_iff.1 h; obtain ⟨y1, h1, h⟩ := Option.bind_eq_some_iff.1 h; cases h; exact .cons (V.asInt_same h0) (.cons (V.asInt_same h1) (.nil))
  | _ :: _ :: _ :: _, _, h => by cases h
theorem inn5_ok : ∀ {l : List (PV TT)} {x : Line}, inn5 l = some x → Sames (E := E) l (outs5 x)
  | [], _, h => by cases h
  | [_], _, h => by cases h
  | [_, _], _, h => by cases h
  | [_, _, _], _, h => by cases h
  | [_, _, _, _], _, h => by
    simp only [inn5] at h
    obtain ⟨y0, h0, h⟩ := Option.bind_eq_some_iff.1 h; obtain ⟨y1, h1, h⟩ := Option.bind_eq_some_iff.1 h; obtain ⟨y2, h2, h⟩ := Option.bind_eq_some_iff.1 h; obtain ⟨y3, h3, h⟩ := Option.bind_eq_some_iff.1 h; cases h; exact .cons (V.asInt_same h0) (.cons (V.asInt_same h1) (.cons (V.asInt_same h2) (.cons (V.asInt_same h3) (.nil))))
  | _ :: _ :: _ :: _ :: _ :: _, _, h => by cases h
theorem inn6_ok : ∀ {l : List (PV TT)} {x : List Int}, inn6 l = some x → Sames (E := E) l (outs6 x)
  | [], _, h => by cases h
  | [_], _, h => by
    simp only [inn6] at h
    obtain ⟨y0, h0, h⟩ := Option.bind_eq_some_iff.1 h; cases h; exact .cons (V.asStr_same h0) (.nil)
  | _ :: _ :: _, _, h => by cases h
theorem inn7_ok : ∀ {l : List (PV TT)} {x : Arr4}, inn7 l = some x → Sames (E := E) l (outs7 x)
  | [], _, h => by cases h
  | [_], _, h => by cases h
  | [_, _], _, h => by cases h
  | [_, _, _], _, h => by cases h
  | [_, _, _, _], _, h => by
    simp only [inn7] at h
    obtain ⟨y0, h0, h⟩ := Option.bind_eq_some_iff.1 h; obtain ⟨y1, h1, h⟩ := Option.bind_eq_some_iff.1 h; obtain ⟨y2, h2, h⟩ := Option.bind_eq_some_iff.1 h; obtain ⟨y3, h3, h⟩ := Option.bind_eq_some_iff.1 h; cases h; exact .cons (V.asInt_same h0) (.cons (V.asInt_same h1) (.cons (V.asInt_same h2) (.cons (V.asInt_same h3) (.nil))))
  | _ :: _ :: _ :: _ :: _ :: _, _, h => by cases h
theorem inn8_ok : ∀ {l : List (PV TT)} {x : Code}, inn8 l = some x → Sames (E := E) l (outs8 x)
  | [], _, h => by cases h
  | [_], _, h => by cases h
  | [_, _], _, h => by
    simp only [inn8] at h
    obtain ⟨y0, h0, h⟩ := Option.bind_eq_some_iff.1 h; obtain ⟨y1, h1, h⟩ := Option.bind_eq_some_iff.1 h; cases h; exact .cons (V.asInt_same h0) (.cons (V.asInt_same h1) (.nil))
  | _ :: _ :: _ :: _, _, h => by cases h
theorem envOk : EnvOk E := by
  refine EnvOk.of ?_ ?_ ?_
  · intro i l x h
    match i, x, h with
    | 0, x, h => exact inn0_ok h
    | 1, x, h => exact inn1_ok h
    | 2, x, h => exact inn2_ok h
    | 3, x, h => exact inn3_ok h
    | 4, x, h => exact inn4_ok h
    | 5, x, h => exact inn5_ok h
    | 6, x, h => exact inn6_ok h
    | 7, x, h => exact inn7_ok h
    | 8, x, h => exact inn8_ok h
    | i + 9, x, h => cases h
  · intro i x
    match i, x with
    | 0, x => rfl
    | 1, x => rfl
    | 2, x => rfl
    | 3, x => rfl
    | 4, x => rfl
    | 5, x => rfl
    | 6, x => rfl
    | 7, x => rfl
    | 8, x => rfl
    | i + 9, x => rfl
  · intro i x p hf hp
    match i, x with
    | 0, x => exact flat_cons (.inr (.inl ⟨_, rfl⟩)) (flat_nil) p hp
    | 1, x => exact absurd hf (by decide)
    | 2, x => exact absurd hf (by decide)
    | 3, x => exact flat_cons (.inr (.inr ⟨_, rfl⟩)) (flat_cons (.inl ⟨_, _, rfl⟩) (flat_cons (.inl ⟨_, _, rfl⟩) (flat_cons (.inl ⟨_, _, rfl⟩) (flat_cons (.inl ⟨_, _, rfl⟩) (flat_nil))))) p hp
    | 4, x => exact flat_cons (.inl ⟨_, _, rfl⟩) (flat_cons (.inl ⟨_, _, rfl⟩) (flat_nil)) p hp
    | 5, x => exact flat_cons (.inl ⟨_, _, rfl⟩) (flat_cons (.inl ⟨_, _, rfl⟩) (flat_cons (.inl ⟨_, _, rfl⟩) (flat_cons (.inl ⟨_, _, rfl⟩) (flat_nil)))) p hp
    | 6, x => exact flat_cons (.inr (.inr ⟨_, rfl⟩)) (flat_nil) p hp
    | 7, x => exact flat_cons (.inl ⟨_, _, rfl⟩) (flat_cons (.inl ⟨_, _, rfl⟩) (flat_cons (.inl ⟨_, _, rfl⟩) (flat_cons (.inl ⟨_, _, rfl⟩) (flat_nil)))) p hp
    | 8, x => exact flat_cons (.inl ⟨_, _, rfl⟩) (flat_cons (.inl ⟨_, _, rfl⟩) (flat_nil)) p hp
    | i + 9, x => exact absurd hf (by simp [E, getL])

theorem elsOk : els.all (okEl G) = true := by kernel_rfl
theorem prgOk : PrgOk G := .of envOk els (fun _ => rfl) elsOk (by kernel_rfl)
noncomputable def bulk0 (x : Bool) : Nat := 1 + 0
noncomputable def bulk1 (x : Segment) : Nat := 1 + (1 + (1 + ((x.refs.length + 1) + ((sumL bulk0 x.keep + 1) + ((x.data.length + 1) + 0)))))
noncomputable def bulk2 (x : List Int) : Nat := (x.length + 1) + 0
noncomputable def bulk3 (x : Mode) : Nat := (x.kind.length + 1) + (1 + (1 + (1 + (1 + 0))))
noncomputable def bulk4 (x : Arr2) : Nat := 1 + (1 + 0)
noncomputable def bulk5 (x : Line) : Nat := 1 + (1 + (1 + (1 + 0)))
noncomputable def bulk6 (x : List Int) : Nat := (x.length + 1) + 0
noncomputable def bulk7 (x : Arr4) : Nat := 1 + (1 + (1 + (1 + 0)))
noncomputable def bulk8 (x : Code) : Nat := 1 + (1 + 0)
noncomputable def bulk : (i : Nat) → TT i → Nat
  | 0, x => bulk0 x
  | 1, x => bulk1 x
  | 2, x => bulk2 x
  | 3, x => bulk3 x
  | 4, x => bulk4 x
  | 5, x => bulk5 x
  | 6, x => bulk6 x
  | 7, x => bulk7 x
  | 8, x => bulk8 x
  | _, _ => 0
theorem bulk0_eq (x : Bool) : bulk0 x = bulkPs bulk (outs0 x) := by simp only [bulk0, outs0, bulkPs, bulkP] <;> rfl
theorem bulk1_eq (x : Segment) : bulk1 x = bulkPs bulk (outs1 x) := by have e4 := sumB_eq (b := bulk) (i := 0) (f := bulk0) (fun _ => rfl) x.keep; simp only [bulk1, outs1, bulkPs, bulkP, e4] <;> rfl
theorem bulk2_eq (x : List Int) : bulk2 x = bulkPs bulk (outs2 x) := by simp only [bulk2, outs2, bulkPs, bulkP] <;> rfl
theorem bulk3_eq (x : Mode) : bulk3 x = bulkPs bulk (outs3 x) := by simp only [bulk3, outs3, bulkPs, bulkP] <;> rfl
theorem bulk4_eq (x : Arr2) : bulk4 x = bulkPs bulk (outs4 x) := by simp only [bulk4, outs4, bulkPs, bulkP] <;> rfl
theorem bulk5_eq (x : Line) : bulk5 x = bulkPs bulk (outs5 x) := by simp only [bulk5, outs5, bulkPs, bulkP] <;> rfl
theorem bulk6_eq (x : List Int) : bulk6 x = bulkPs bulk (outs6 x) := by simp only [bulk6, outs6, bulkPs, bulkP] <;> rfl
theorem bulk7_eq (x : Arr4) : bulk7 x = bulkPs bulk (outs7 x) := by simp only [bulk7, outs7, bulkPs, bulkP] <;> rfl
theorem bulk8_eq (x : Code) : bulk8 x = bulkPs bulk (outs8 x) := by simp only [bulk8, outs8, bulkPs, bulkP] <;> rfl
theorem rowsOk : RowsOk G bulk where
  bulk i x := by
    match i, x with
    | 0, x => exact bulk0_eq x
    | 1, x => exact bulk1_eq x
    | 2, x => exact bulk2_eq x
    | 3, x => exact bulk3_eq x
    | 4, x => exact bulk4_eq x
    | 5, x => exact bulk5_eq x
    | 6, x => exact bulk6_eq x
    | 7, x => exact bulk7_eq x
    | 8, x => exact bulk8_eq x
    | i + 9, x => rfl
  int e k h := ⟨(prgOk.int e k h).1, okEl_cells elsOk h⟩
  row e i h := by
    have hc := okEl_cells elsOk h
    have hm := lookN_mem h
    simp only [els, List.mem_cons, List.not_mem_nil, or_false, Prod.mk.injEq, reduceCtorEq, and_false, false_or, EK.row.injEq] at hm
    rcases hm with ⟨rfl, rfl⟩ | ⟨rfl, rfl⟩ | ⟨rfl, rfl⟩ | ⟨rfl, rfl⟩ | ⟨rfl, rfl⟩ | ⟨rfl, rfl⟩ | ⟨rfl, rfl⟩ | ⟨rfl, rfl⟩ | ⟨rfl, rfl⟩
    · refine ⟨8, [.bool], by kernel_rfl, hc, by decide, fun ps h => ?_⟩
      obtain ⟨y0, r0, rfl, h0⟩ := fits_bool h; cases fits_nil h0; exact ⟨y0, rfl⟩
    · refine ⟨8, [.str], by kernel_rfl, hc, by decide, fun ps h => ?_⟩
      obtain ⟨y0, r0, rfl, h0⟩ := fits_str h; cases fits_nil h0; exact ⟨y0, rfl⟩
    · refine ⟨8, [.ints .u8], by kernel_rfl, hc, by decide, fun ps h => ?_⟩
      obtain ⟨y0, r0, rfl, h0⟩ := fits_ints h; cases fits_nil h0; exact ⟨y0, rfl⟩
    · refine ⟨8, [.int .i64, .int .i64, .int .i64, .ints .i64, .rows 0, .ints .u8], by kernel_rfl, hc, by decide, fun ps h => ?_⟩
      obtain ⟨y0, r0, rfl, h0⟩ := fits_int h; obtain ⟨y1, r1, rfl, h1⟩ := fits_int h0; obtain ⟨y2, r2, rfl, h2⟩ := fits_int h1; obtain ⟨y3, r3, rfl, h3⟩ := fits_ints h2; obtain ⟨y4, r4, rfl, h4⟩ := fits_rows h3; obtain ⟨y5, r5, rfl, h5⟩ := fits_ints h4; cases fits_nil h5; exact ⟨⟨y0, y1, y2, y3, y4, y5⟩, rfl⟩
    · refine ⟨8, [.int .i64, .int .i64], by kernel_rfl, hc, by decide, fun ps h => ?_⟩
      obtain ⟨y0, r0, rfl, h0⟩ := fits_int h; obtain ⟨y1, r1, rfl, h1⟩ := fits_int h0; cases fits_nil h1; exact ⟨⟨y0, y1⟩, rfl⟩
    · refine ⟨8, [.str, .int .i64, .int .i64, .int .i64, .int .i64], by kernel_rfl, hc, by decide, fun ps h => ?_⟩
      obtain ⟨y0, r0, rfl, h0⟩ := fits_str h; obtain ⟨y1, r1, rfl, h1⟩ := fits_int h0; obtain ⟨y2, r2, rfl, h2⟩ := fits_int h1; obtain ⟨y3, r3, rfl, h3⟩ := fits_int h2; obtain ⟨y4, r4, rfl, h4⟩ := fits_int h3; cases fits_nil h4; exact ⟨⟨y0, y1, y2, y3, y4⟩, rfl⟩
    · refine ⟨8, [.int .i64, .int .i64, .int .i64, .int .i64], by kernel_rfl, hc, by decide, fun ps h => ?_⟩
      obtain ⟨y0, r0, rfl, h0⟩ := fits_int h; obtain ⟨y1, r1, rfl, h1⟩ := fits_int h0; obtain ⟨y2, r2, rfl, h2⟩ := fits_int h1; obtain ⟨y3, r3, rfl, h3⟩ := fits_int h2; cases fits_nil h3; exact ⟨⟨y0, y1, y2, y3⟩, rfl⟩
    · refine ⟨8, [.int .i64, .int .i64, .int .i64, .int .i64], by kernel_rfl, hc, by decide, fun ps h => ?_⟩
      obtain ⟨y0, r0, rfl, h0⟩ := fits_int h; obtain ⟨y1, r1, rfl, h1⟩ := fits_int h0; obtain ⟨y2, r2, rfl, h2⟩ := fits_int h1; obtain ⟨y3, r3, rfl, h3⟩ := fits_int h2; cases fits_nil h3; exact ⟨⟨y0, y1, y2, y3⟩, rfl⟩
    · refine ⟨8, [.int .i64, .int .i64], by kernel_rfl, hc, by decide, fun ps h => ?_⟩
      obtain ⟨y0, r0, rfl, h0⟩ := fits_int h; obtain ⟨y1, r1, rfl, h1⟩ := fits_int h0; cases fits_nil h1; exact ⟨⟨y0, y1⟩, rfl⟩

noncomputable def law13_PageShows (in1 in2 : Int) (in3 : List Int) (in4 in5 in6 : Int) (in7 : Bool) (in8 : Int) (in9 : Bool) (in10 : Int) : Option Bool := call G 0 (in1, in2, in3, in4, in5, in6, in7, in8, in9, in10)
noncomputable def ref05_Valid (b1 b2 : Int) (b3 : List Int) : Option Bool := call G 1 (b1, b2, b3)
noncomputable def ref07_Valid (o1 o2 o3 : Int) (o4 : Bool) (o5 : Int) : Option Bool := call G 2 (o1, o2, o3, o4, o5)
noncomputable def law13_Sane : Option Bool := call G 3 ()
noncomputable def page_Info (w1 h2 pixel3 op4 : Int) : Option ((List Int) × Int) := call G 4 (w1, h2, pixel3, op4)
noncomputable def page_Generic (g1 g2 g3 g4 g5 : Int) (g6 : Bool) (o7 o8 o9 : Int) (o10 : Bool) (o11 b12 b13 : Int) (b14 : List Int) : Option ((List Int) × Int) := call G 5 (g1, g2, g3, g4, g5, g6, o7, o8, o9, o10, o11, b12, b13, b14)
noncomputable def page_Runs (g1 g2 g3 g4 g5 : Int) (g6 two7 : Bool) (b8 b9 : Int) (b10 : List Int) : Option ((List Int) × Int) := call G 6 (g1, g2, g3, g4, g5, g6, two7, b8, b9, b10)
noncomputable def law13_segment (number1 kind2 of3 : Int) (refs4 data5 : List Int) : Option (Int × Int × Int × (List Int) × (List Bool) × (List Int)) := call G 7 (number1, kind2, of3, refs4, data5)
noncomputable def page_Decode (l1 : List Segment) (page2 : Int) : Option (Int × Int × (List Int) × Int × Int) := call G 8 (l1, page2)
noncomputable def ref05_Same (a1 a2 : Int) (a3 : List Int) (b4 b5 : Int) (b6 : List Int) : Option Bool := call G 9 (a1, a2, a3, b4, b5, b6)
noncomputable def ref05_Sides (w1 h2 : Int) : Option Bool := call G 10 (w1, h2)
noncomputable def ref01_SameBytes (a1 b2 : List Int) : Option Bool := call G 11 (a1, b2)
noncomputable def bitmap_New (w1 h2 pixel3 : Int) : Option (Int × Int × Int × (List Int)) := call G 12 (w1, h2, pixel3)
noncomputable def page_writer_size (l1 b2 : List Int) : Option (List Int) := call G 13 (l1, b2)
noncomputable def page_writer_byte (l1 b2 : List Int) : Option (List Int) := call G 14 (l1, b2)
noncomputable def page_rightBegin (g1 g2 g3 g4 g5 : Int) (g6 : Bool) : Option Bool := call G 15 (g1, g2, g3, g4, g5, g6)
noncomputable def generic_Encode (o1 o2 o3 : Int) (o4 : Bool) (o5 b6 b7 : Int) (b8 : List Int) : Option ((List Int) × Int) := call G 16 (o1, o2, o3, o4, o5, b6, b7, b8)
noncomputable def page_writer_begin (g1 g2 g3 g4 g5 : Int) (g6 : Bool) (b7 : List Int) : Option (List Int) := call G 17 (g1, g2, g3, g4, g5, g6, b7)
noncomputable def page_flag (is1 : Bool) (n2 : Int) : Option Int := call G 18 (is1, n2)
noncomputable def page_writer_with (code1 : List Int) (err2 : Int) (b3 : List Int) : Option ((List Int) × Int) := call G 19 (code1, err2, b3)
noncomputable def runs_One (b1 b2 : Int) (b3 : List Int) : Option ((List Int) × Int) := call G 20 (b1, b2, b3)
noncomputable def runs_Two (b1 b2 : Int) (b3 : List Int) : Option ((List Int) × Int) := call G 21 (b1, b2, b3)
noncomputable def law13_keep (n1 : Int) : Option (List Bool) := call G 22 n1
noncomputable def segment_InOrder (l1 : List Segment) : Option (Int × Int) := call G 23 l1
noncomputable def slices_ContainsFunc_api_Segment_api_Segment (s1 : List Segment) (b2 : Int) : Option (Bool × Int) := call G 24 (s1, b2)
noncomputable def page_height (l1 : List Segment) (page2 : Int) : Option Int := call G 25 (l1, page2)
noncomputable def page_builder_add (s1 s2 s3 : Int) (s4 : List Int) (s5 : List Bool) (s6 : List Int) (b7 b8 b9 : Int) (b10 : List Int) (b11 b12 : Bool) (b13 b14 : Int) : Option (Int × Int × Int × Int × (List Int) × Bool × Bool × Int × Int) := call G 26 (s1, s2, s3, s4, s5, s6, b7, b8, b9, b10, b11, b12, b13, b14)
noncomputable def bitmap_blank (w1 h2 : Int) : Option (Int × Int × Int × (List Int)) := call G 27 (w1, h2)
noncomputable def bits_Size (n1 : Int) : Option ((List Int) × Int) := call G 28 n1
noncomputable def page_near (n1 : Int) : Option Bool := call G 29 n1
noncomputable def generic_Valid (o1 o2 o3 : Int) (o4 : Bool) (o5 : Int) : Option Bool := call G 30 (o1, o2, o3, o4, o5)
noncomputable def bitmap_Valid (b1 b2 : Int) (b3 : List Int) : Option Bool := call G 31 (b1, b2, b3)
noncomputable def generic_contexts (o1 o2 o3 : Int) (o4 : Bool) (o5 : Int) : Option Int := call G 32 (o1, o2, o3, o4, o5)
noncomputable def coder_New (kind1 n2 : Int) : Option (Int × Int × (List Int)) := call G 33 (kind1, n2)
noncomputable def coder_NewEncoder (m1 : Int) (m2 : List Int) : Option ((Int × Int × Int × (List Int) × (List Int)) ⊕ (Unit)) := call G 34 (m1, m2)
noncomputable def generic_put (base1 o2 o3 o4 : Int) (o5 : Bool) (o6 b7 b8 : Int) (b9 : List Int) (skip10 skip11 : Int) (skip12 : List Int) (b13 b14 b15 : Int) (b16 b17 : List Int) : Option (Int × Int × Int × (List Int) × (List Int)) := call G 35 (base1, o2, o3, o4, o5, o6, b7, b8, b9, skip10, skip11, skip12, b13, b14, b15, b16, b17)
noncomputable def coder_Encoder_End (b1 b2 b3 : Int) (b4 b5 : List Int) : Option ((List Int) × Int × Int × Int × (List Int) × (List Int)) := call G 36 (b1, b2, b3, b4, b5)
noncomputable def page_writer_signed (l1 b2 : List Int) : Option (List Int) := call G 37 (l1, b2)
noncomputable def runs_lines (b1 b2 : Int) (b3 : List Int) : Option (List (List Int)) := call G 38 (b1, b2, b3)
noncomputable def runs_row (pixels1 : List Int) : Option (List Int) := call G 39 pixels1
noncomputable def runs_runBits (n1 colour2 : Int) : Option (List Int) := call G 40 (n1, colour2)
noncomputable def bits_Pack (bits1 : List Int) : Option ((List Int) × Int) := call G 41 bits1
noncomputable def runs_modes (above1 pixels2 : List Int) : Option (List Mode) := call G 42 (above1, pixels2)
noncomputable def runs_mode_bits (m1 : List Int) (m2 m3 m4 m5 : Int) : Option (List Int) := call G 43 (m1, m2, m3, m4, m5)
noncomputable def segment_order (l1 : List Segment) : Option Int := call G 44 l1
noncomputable def slices_IndexFunc_api_Segment_api_Segment (s1 : List Segment) (b2 : Int) : Option (Int × Int) := call G 45 (s1, b2)
noncomputable def bits_GetSize (b1 : List Int) (at2 : Int) : Option (Int × Int × Int) := call G 46 (b1, at2)
noncomputable def page_builder_order (s1 s2 s3 : Int) (s4 : List Int) (s5 : List Bool) (s6 : List Int) (b7 b8 b9 : Int) (b10 : List Int) (b11 b12 : Bool) (b13 b14 : Int) : Option (Int × Int × Int × Int × (List Int) × Bool × Bool × Int × Int) := call G 47 (s1, s2, s3, s4, s5, s6, b7, b8, b9, b10, b11, b12, b13, b14)
noncomputable def page_builder_generic (s1 s2 s3 : Int) (s4 : List Int) (s5 : List Bool) (s6 : List Int) (b7 b8 b9 : Int) (b10 : List Int) (b11 b12 : Bool) (b13 b14 : Int) (b15 : List Int) (b16 b17 : Int) : Option (Int × Int × Int × (List Int) × Bool × Bool × Int × Int × (List Int) × Int × Int) := call G 48 (s1, s2, s3, s4, s5, s6, b7, b8, b9, b10, b11, b12, b13, b14, b15, b16, b17)
noncomputable def page_builder_runs (s1 s2 s3 : Int) (s4 : List Int) (s5 : List Bool) (s6 : List Int) (b7 b8 b9 : Int) (b10 : List Int) (b11 b12 : Bool) (b13 b14 : Int) (b15 : List Int) (b16 b17 : Int) : Option (Int × Int × Int × (List Int) × Bool × Bool × Int × Int × (List Int) × Int × Int) := call G 49 (s1, s2, s3, s4, s5, s6, b7, b8, b9, b10, b11, b12, b13, b14, b15, b16, b17)
noncomputable def page_builder_info (b1 b2 b3 : Int) (b4 : List Int) (b5 b6 : Bool) (b7 b8 : Int) (b9 : List Int) (b10 b11 : Int) : Option (Int × Int × Int × (List Int) × Bool × Bool × Int × Int × (List Int) × Int × Int) := call G 50 (b1, b2, b3, b4, b5, b6, b7, b8, b9, b10, b11)
noncomputable def page_cursor_check (ok1 : Bool) (err2 : Int) (b3 : List Int) (b4 b5 : Int) : Option (Bool × (List Int) × Int × Int) := call G 51 (ok1, err2, b3, b4, b5)
noncomputable def page_builder_stripes (b1 b2 b3 : Int) (b4 : List Int) (b5 b6 : Bool) (b7 b8 : Int) (b9 : List Int) (b10 b11 : Int) : Option (Int × Int × Int × (List Int) × Bool × Bool × Int × Int × (List Int) × Int × Int) := call G 52 (b1, b2, b3, b4, b5, b6, b7, b8, b9, b10, b11)
noncomputable def page_builder_none (s1 s2 s3 : Int) (s4 : List Int) (s5 : List Bool) (s6 : List Int) (b7 b8 b9 : Int) (b10 : List Int) (b11 b12 : Bool) (b13 b14 : Int) (b15 : List Int) (b16 b17 : Int) : Option (Int × Int × Int × (List Int) × Bool × Bool × Int × Int × (List Int) × Int × Int) := call G 53 (s1, s2, s3, s4, s5, s6, b7, b8, b9, b10, b11, b12, b13, b14, b15, b16, b17)
noncomputable def bitmap_fits (w1 h2 : Int) : Option Bool := call G 54 (w1, h2)
noncomputable def generic_pixels (template1 : Int) : Option (List Arr2) := call G 55 template1
noncomputable def coder_Valid (m1 : Int) (m2 : List Int) : Option Bool := call G 56 (m1, m2)
noncomputable def coder_begin (m1 : Int) (m2 : List Int) : Option (Int × Int × Int × (List Int)) := call G 57 (m1, m2)
noncomputable def generic_newPlane (o1 o2 o3 : Int) (o4 : Bool) (o5 w6 h7 : Int) : Option (Int × Int × (List Arr2) × (List Int)) := call G 58 (o1, o2, o3, o4, o5, w6, h7)
noncomputable def generic_plane_above (y1 skip2 skip3 : Int) (skip4 : List Int) (b5 b6 : Int) (b7 : List Int) (b8 : List Arr2) : Option ((List Int) × Int × Int × (List Int) × (List Arr2)) := call G 59 (y1, skip2, skip3, skip4, b5, b6, b7, b8)
noncomputable def bytes_Equal (a1 b2 : List Int) : Option Bool := call G 60 (a1, b2)
noncomputable def coder_Encoder_Put (ctx1 bit2 b3 b4 b5 : Int) (b6 b7 : List Int) : Option (Int × Int × Int × Int × (List Int) × (List Int)) := call G 61 (ctx1, bit2, b3, b4, b5, b6, b7)
noncomputable def generic_skips (skip1 skip2 : Int) (skip3 : List Int) (i4 : Int) : Option Bool := call G 62 (skip1, skip2, skip3, i4)
noncomputable def generic_plane_context (x1 y2 b3 b4 : Int) (b5 : List Int) (b6 : List Arr2) : Option (Int × Int × Int × (List Int) × (List Arr2)) := call G 63 (x1, y2, b3, b4, b5, b6)
noncomputable def coder_Encoder_none (b1 b2 b3 : Int) (b4 b5 : List Int) : Option (Bool × Int × Int × Int × (List Int) × (List Int)) := call G 64 (b1, b2, b3, b4, b5)
noncomputable def bits_Signed (n1 : Int) : Option ((List Int) × Int) := call G 65 n1
noncomputable def prefix_Standard (k1 : Int) : Option ((List Line) × Int) := call G 66 k1
noncomputable def prefix_Bits (a1 : List Line) (n2 : Bool) (n3 : Int) : Option (Int × (List Int)) := call G 67 (a1, n2, n3)
noncomputable def runs_remains (colour1 : Int) : Option (List Line) := call G 68 colour1
noncomputable def runs_marks (above1 : List Int) (a2 colour3 : Int) : Option (Int × Int) := call G 69 (above1, a2, colour3)
noncomputable def runs_change (pixels1 : List Int) (a2 colour3 : Int) : Option Int := call G 70 (pixels1, a2, colour3)
noncomputable def runs_list (s1 : List Int) : Option (List Int) := call G 71 s1
noncomputable def runs_uprights : Option (List (List Int)) := call G 72 ()
noncomputable def segment_store_takes (s1 s2 s3 : Int) (s4 : List Int) (s5 : List Bool) (s6 : List Int) (last7 : Int) : Option Bool := call G 73 (s1, s2, s3, s4, s5, s6, last7)
noncomputable def page_Decode_1 (s1 s2 s3 : Int) (s4 : List Int) (s5 : List Bool) (s6 : List Int) (b7 : Int) : Option (Bool × Int) := call G 74 (s1, s2, s3, s4, s5, s6, b7)
noncomputable def page_cursor_begin (b1 : List Int) (b2 b3 : Int) : Option (Int × Int × Int × Int × Int × Bool × (List Int) × Int × Int) := call G 75 (b1, b2, b3)
noncomputable def page_cursor_byte (most1 : Int) (b2 : List Int) (b3 b4 : Int) : Option (Int × (List Int) × Int × Int) := call G 76 (most1, b2, b3, b4)
noncomputable def page_cursor_adaptive (o1 o2 o3 : Int) (o4 : Bool) (o5 : Int) (b6 : List Int) (b7 b8 : Int) : Option (Int × Int × Int × Bool × Int × (List Int) × Int × Int) := call G 77 (o1, o2, o3, o4, o5, b6, b7, b8)
noncomputable def page_cursor_rest (b1 : List Int) (b2 b3 : Int) : Option ((List Int) × (List Int) × Int × Int) := call G 78 (b1, b2, b3)
noncomputable def generic_Decode (o1 o2 o3 : Int) (o4 : Bool) (o5 : Int) (code6 : List Int) (w7 h8 : Int) : Option (Int × Int × (List Int) × Int) := call G 79 (o1, o2, o3, o4, o5, code6, w7, h8)
noncomputable def page_builder_draw (s1 s2 s3 : Int) (s4 : List Int) (s5 : List Bool) (s6 : List Int) (g7 g8 g9 g10 g11 : Int) (g12 : Bool) (b13 b14 : Int) (b15 : List Int) (b16 b17 b18 : Int) (b19 : List Int) (b20 b21 : Bool) (b22 b23 : Int) : Option (Int × Int × Int × (List Int) × Bool × Bool × Int × Int) := call G 80 (s1, s2, s3, s4, s5, s6, g7, g8, g9, g10, g11, g12, b13, b14, b15, b16, b17, b18, b19, b20, b21, b22, b23)
noncomputable def runs_GetTwo (b1 : List Int) (w2 h3 : Int) : Option (Int × Int × (List Int) × Int × Int) := call G 81 (b1, w2, h3)
noncomputable def runs_GetOne (b1 : List Int) (w2 h3 : Int) : Option (Int × Int × (List Int) × Int × Int) := call G 82 (b1, w2, h3)
noncomputable def page_cursor_size (b1 : List Int) (b2 b3 : Int) : Option (Int × (List Int) × Int × Int) := call G 83 (b1, b2, b3)
noncomputable def page_cursor_sides (w1 h2 : Int) (b3 : List Int) (b4 b5 : Int) : Option ((List Int) × Int × Int) := call G 84 (w1, h2, b3, b4, b5)
noncomputable def page_cursor_end (b1 : List Int) (b2 b3 : Int) : Option ((List Int) × Int × Int) := call G 85 (b1, b2, b3)
noncomputable def page_cursor_fail (err1 : Int) (b2 : List Int) (b3 b4 : Int) : Option ((List Int) × Int × Int) := call G 86 (err1, b2, b3, b4)
noncomputable def coder_clone (m1 : Int) (m2 : List Int) : Option (Int × (List Int)) := call G 87 (m1, m2)
noncomputable def coder_chances : Option Unit := call G 88 ()
noncomputable def generic_plane_at (x1 y2 b3 b4 : Int) (b5 : List Int) (b6 : List Arr2) : Option (Int × Int × Int × (List Int) × (List Arr2)) := call G 89 (x1, y2, b3, b4, b5, b6)
noncomputable def coder_interval_mid (ctx1 b2 b3 b4 : Int) (b5 b6 : List Int) : Option (Int × Int × Int × Int × (List Int) × (List Int)) := call G 90 (ctx1, b2, b3, b4, b5, b6)
noncomputable def coder_interval_take (ctx1 bit2 mid3 b4 b5 b6 : Int) (b7 b8 : List Int) : Option (Int × Int × Int × (List Int) × (List Int)) := call G 91 (ctx1, bit2, mid3, b4, b5, b6, b7, b8)
noncomputable def coder_interval_same (b1 b2 b3 : Int) (b4 b5 : List Int) : Option (Bool × Int × Int × Int × (List Int) × (List Int)) := call G 92 (b1, b2, b3, b4, b5)
noncomputable def coder_interval_lose (b1 b2 b3 : Int) (b4 b5 : List Int) : Option (Int × Int × Int × Int × (List Int) × (List Int)) := call G 93 (b1, b2, b3, b4, b5)
noncomputable def prefix_lines (l1 : List Arr4) : Option (List Line) := call G 94 l1
noncomputable def prefix_Valid (a1 : List Line) : Option Bool := call G 95 a1
noncomputable def prefix_codes (a1 : List Line) : Option (List Code) := call G 96 a1
noncomputable def prefix_put (a1 : List Line) (l2 : List Code) (n3 : Bool) (n4 : Int) : Option (Int × (List Int)) := call G 97 (a1, l2, n3, n4)
noncomputable def segment_Valid (s1 s2 s3 : Int) (s4 : List Int) (s5 : List Bool) (s6 : List Int) : Option Bool := call G 98 (s1, s2, s3, s4, s5, s6)
noncomputable def page_cursor_signed (b1 : List Int) (b2 b3 : Int) : Option (Int × (List Int) × Int × Int) := call G 99 (b1, b2, b3)
noncomputable def coder_NewDecoder (m1 : Int) (m2 b3 : List Int) : Option ((Int × Int × Int × (List Int) × Int × Int × Int × Bool × (List Int)) ⊕ (Unit)) := call G 100 (m1, m2, b3)
noncomputable def generic_Get (base1 o2 o3 o4 : Int) (o5 : Bool) (o6 w7 h8 skip9 skip10 : Int) (skip11 : List Int) (b12 b13 b14 : Int) (b15 : List Int) (b16 b17 b18 : Int) (b19 : Bool) (b20 : List Int) : Option (Int × Int × (List Int) × Int × Int × Int × Int × (List Int) × Int × Int × Int × Bool × (List Int)) := call G 101 (base1, o2, o3, o4, o5, o6, w7, h8, skip9, skip10, skip11, b12, b13, b14, b15, b16, b17, b18, b19, b20)
noncomputable def bitmap_Draw (b1 b2 : Int) (b3 : List Int) (s4 s5 : Int) (s6 : List Int) (x7 y8 op9 : Int) : Option (Int × Int × (List Int) × Int) := call G 102 (b1, b2, b3, s4, s5, s6, x7, y8, op9)
noncomputable def runs_read (b1 : List Int) (w2 h3 : Int) : Option (Int × Int × (List Int) × Int × Int) := call G 103 (b1, w2, h3)
noncomputable def runs_read_2 (b1 : List Int) (w2 h3 : Int) : Option (Int × Int × (List Int) × Int × Int) := call G 104 (b1, w2, h3)
noncomputable def coder_table_chance (kind1 s2 : Int) : Option Int := call G 105 (kind1, s2)
noncomputable def coder_next (kind1 s2 bit3 : Int) : Option Int := call G 106 (kind1, s2, bit3)
noncomputable def prefix_isLine (x1 x2 x3 x4 : Int) : Option Bool := call G 107 (x1, x2, x3, x4)
noncomputable def prefix_weight (a1 : List Line) : Option (Int × Int × Int) := call G 108 a1
noncomputable def prefix_line (a1 : List Line) (n2 : Bool) (n3 : Int) : Option (Int × Int) := call G 109 (a1, n2, n3)
noncomputable def prefix_digits (x1 n2 : Int) : Option (List Int) := call G 110 (x1, n2)
noncomputable def bits_GetSigned (b1 : List Int) (at2 : Int) : Option (Int × Int × Int) := call G 111 (b1, at2)
noncomputable def coder_Decoder_shift (b1 b2 b3 b4 b5 b6 : Int) (b7 b8 : List Int) : Option (Int × Int × Int × Int × Int × Int × (List Int) × (List Int)) := call G 112 (b1, b2, b3, b4, b5, b6, b7, b8)
noncomputable def coder_Decoder_Get (ctx1 b2 b3 b4 : Int) (b5 : List Int) (b6 b7 b8 : Int) (b9 : Bool) (b10 : List Int) : Option (Int × Int × Int × Int × Int × (List Int) × Int × Int × Int × Bool × (List Int)) := call G 113 (ctx1, b2, b3, b4, b5, b6, b7, b8, b9, b10)
noncomputable def generic_sides (skip1 skip2 : Int) (skip3 : List Int) (w4 h5 : Int) : Option Bool := call G 114 (skip1, skip2, skip3, w4, h5)
noncomputable def coder_Decoder_Model (b1 b2 b3 : Int) (b4 : List Int) (b5 b6 b7 : Int) (b8 : Bool) (b9 : List Int) : Option (Int × (List Int) × Int × Int × Int × (List Int) × Int × Int × Int × Bool × (List Int)) := call G 115 (b1, b2, b3, b4, b5, b6, b7, b8, b9)
noncomputable def generic_fits (m1 : Int) (m2 : List Int) (base3 o4 o5 o6 : Int) (o7 : Bool) (o8 : Int) : Option Bool := call G 116 (m1, m2, base3, o4, o5, o6, o7, o8)
noncomputable def generic_plane_row (base1 o2 o3 o4 : Int) (o5 : Bool) (o6 y7 skip8 skip9 : Int) (skip10 : List Int) (b11 b12 : Int) (b13 : List Arr2) (b14 : List Int) (b15 b16 b17 : Int) (b18 : List Int) (b19 b20 b21 : Int) (b22 : Bool) (b23 : List Int) : Option (Int × Int × Int × (List Arr2) × (List Int) × Int × Int × Int × (List Int) × Int × Int × Int × Bool × (List Int)) := call G 117 (base1, o2, o3, o4, o5, o6, y7, skip8, skip9, skip10, b11, b12, b13, b14, b15, b16, b17, b18, b19, b20, b21, b22, b23)
noncomputable def bitmap_isShift (x1 y2 : Int) : Option Bool := call G 118 (x1, y2)
noncomputable def bitmap_clone (b1 b2 : Int) (b3 : List Int) : Option (Int × Int × (List Int)) := call G 119 (b1, b2, b3)
noncomputable def bitmap_at (b1 b2 : Int) (b3 : List Int) (x4 y5 : Int) : Option Int := call G 120 (b1, b2, b3, x4, y5)
noncomputable def bitmap_combine (a1 b2 op3 : Int) : Option Int := call G 121 (a1, b2, op3)
noncomputable def runs_newReader (b1 : List Int) : Option ((List Line) × (List (List Int)) × (List Line) × (List (List Int)) × (List Line) × (List (List Int)) × (List (List Int)) × (List Int) × Int) := call G 122 b1
noncomputable def runs_reader_two (w1 : Int) (above2 : List Int) (b3 : List Line) (b4 : List (List Int)) (b5 : List Line) (b6 : List (List Int)) (b7 : List Line) (b8 b9 : List (List Int)) (b10 : List Int) (b11 : Int) : Option ((List Int) × Int × (List Line) × (List (List Int)) × (List Line) × (List (List Int)) × (List Line) × (List (List Int)) × (List (List Int)) × (List Int) × Int) := call G 123 (w1, above2, b3, b4, b5, b6, b7, b8, b9, b10, b11)
noncomputable def bits_Reader_At (b1 : List Int) (b2 : Int) : Option (Int × (List Int) × Int) := call G 124 (b1, b2)
noncomputable def runs_reader_one (w1 : Int) (x2 : List Int) (b3 : List Line) (b4 : List (List Int)) (b5 : List Line) (b6 : List (List Int)) (b7 : List Line) (b8 b9 : List (List Int)) (b10 : List Int) (b11 : Int) : Option ((List Int) × Int × (List Line) × (List (List Int)) × (List Line) × (List (List Int)) × (List Line) × (List (List Int)) × (List (List Int)) × (List Int) × Int) := call G 125 (w1, x2, b3, b4, b5, b6, b7, b8, b9, b10, b11)
noncomputable def prefix_offset (x1 x2 x3 x4 : Int) (n5 : Bool) (n6 : Int) : Option (Int × Bool) := call G 126 (x1, x2, x3, x4, n5, n6)
noncomputable def coder_Decoder_none (b1 b2 b3 : Int) (b4 : List Int) (b5 b6 b7 : Int) (b8 : Bool) (b9 : List Int) : Option (Bool × Int × Int × Int × (List Int) × Int × Int × Int × Bool × (List Int)) := call G 127 (b1, b2, b3, b4, b5, b6, b7, b8, b9)
noncomputable def coder_interval_mid_2 (ctx1 b2 b3 b4 : Int) (b5 : List Int) (b6 b7 b8 : Int) (b9 : Bool) (b10 : List Int) : Option (Int × Int × Int × Int × (List Int) × Int × Int × Int × Bool × (List Int)) := call G 128 (ctx1, b2, b3, b4, b5, b6, b7, b8, b9, b10)
noncomputable def coder_interval_take_2 (ctx1 bit2 mid3 b4 b5 b6 : Int) (b7 : List Int) (b8 b9 b10 : Int) (b11 : Bool) (b12 : List Int) : Option (Int × Int × Int × (List Int) × Int × Int × Int × Bool × (List Int)) := call G 129 (ctx1, bit2, mid3, b4, b5, b6, b7, b8, b9, b10, b11, b12)
noncomputable def coder_interval_same_2 (b1 b2 b3 : Int) (b4 : List Int) (b5 b6 b7 : Int) (b8 : Bool) (b9 : List Int) : Option (Bool × Int × Int × Int × (List Int) × Int × Int × Int × Bool × (List Int)) := call G 130 (b1, b2, b3, b4, b5, b6, b7, b8, b9)
noncomputable def coder_interval_lose_2 (b1 b2 b3 : Int) (b4 : List Int) (b5 b6 b7 : Int) (b8 : Bool) (b9 : List Int) : Option (Int × Int × Int × Int × (List Int) × Int × Int × Int × Bool × (List Int)) := call G 131 (b1, b2, b3, b4, b5, b6, b7, b8, b9)
noncomputable def coder_Decoder_shift_2 (b1 b2 b3 : Int) (b4 : List Int) (b5 b6 b7 : Int) (b8 : Bool) (b9 : List Int) : Option (Int × Int × Int × (List Int) × Int × Int × Int × Bool × (List Int)) := call G 132 (b1, b2, b3, b4, b5, b6, b7, b8, b9)
noncomputable def generic_plane_above_2 (y1 skip2 skip3 : Int) (skip4 : List Int) (b5 b6 : Int) (b7 : List Arr2) (b8 : List Int) : Option ((List Int) × Int × Int × (List Arr2) × (List Int)) := call G 133 (y1, skip2, skip3, skip4, b5, b6, b7, b8)
noncomputable def generic_plane_context_2 (x1 y2 b3 b4 : Int) (b5 : List Arr2) (b6 : List Int) : Option (Int × Int × Int × (List Arr2) × (List Int)) := call G 134 (x1, y2, b3, b4, b5, b6)
noncomputable def bytes_Clone (b1 : List Int) : Option (List Int) := call G 135 b1
noncomputable def bits_NewReader (b1 : List Int) : Option ((List Int) × Int) := call G 136 b1
noncomputable def runs_newTable (l1 : List Line) : Option ((List Line) × (List (List Int))) := call G 137 l1
noncomputable def runs_reader_mode (b1 : List Line) (b2 : List (List Int)) (b3 : List Line) (b4 : List (List Int)) (b5 : List Line) (b6 b7 : List (List Int)) (b8 : List Int) (b9 b10 b11 b12 : Int) (b13 b14 : List Int) : Option (Int × (List Line) × (List (List Int)) × (List Line) × (List (List Int)) × (List Line) × (List (List Int)) × (List (List Int)) × (List Int) × Int × Int × Int × Int × (List Int) × (List Int)) := call G 138 (b1, b2, b3, b4, b5, b6, b7, b8, b9, b10, b11, b12, b13, b14)
noncomputable def bits_Reader_none (b1 : List Int) (b2 : Int) : Option (Bool × (List Int) × Int) := call G 139 (b1, b2)
noncomputable def runs_reader_run (colour1 : Int) (b2 : List Line) (b3 : List (List Int)) (b4 : List Line) (b5 : List (List Int)) (b6 : List Line) (b7 b8 : List (List Int)) (b9 : List Int) (b10 : Int) : Option (Int × Int × (List Line) × (List (List Int)) × (List Line) × (List (List Int)) × (List Line) × (List (List Int)) × (List (List Int)) × (List Int) × Int) := call G 140 (colour1, b2, b3, b4, b5, b6, b7, b8, b9, b10)
noncomputable def slices_Repeat_byte_byte (x1 : List Int) (count2 : Int) : Option (List Int) := call G 141 (x1, count2)
noncomputable def generic_plane_at_2 (x1 y2 b3 b4 : Int) (b5 : List Arr2) (b6 : List Int) : Option (Int × Int × Int × (List Arr2) × (List Int)) := call G 142 (x1, y2, b3, b4, b5, b6)
noncomputable def prefix_Codes (a1 : List Line) : Option ((List (List Int)) × Int) := call G 143 a1
noncomputable def runs_reader_word (l1 : List (List Int)) (b2 : List Line) (b3 : List (List Int)) (b4 : List Line) (b5 : List (List Int)) (b6 : List Line) (b7 b8 : List (List Int)) (b9 : List Int) (b10 : Int) : Option (Int × Int × (List Line) × (List (List Int)) × (List Line) × (List (List Int)) × (List Line) × (List (List Int)) × (List (List Int)) × (List Int) × Int) := call G 144 (l1, b2, b3, b4, b5, b6, b7, b8, b9, b10)
noncomputable def runs_reader_flat (b1 : List Line) (b2 : List (List Int)) (b3 : List Line) (b4 : List (List Int)) (b5 : List Line) (b6 b7 : List (List Int)) (b8 : List Int) (b9 b10 b11 b12 : Int) (b13 b14 : List Int) : Option (Int × (List Line) × (List (List Int)) × (List Line) × (List (List Int)) × (List Line) × (List (List Int)) × (List (List Int)) × (List Int) × Int × Int × Int × Int × (List Int) × (List Int)) := call G 145 (b1, b2, b3, b4, b5, b6, b7, b8, b9, b10, b11, b12, b13, b14)
noncomputable def runs_state_fill (x1 colour2 b3 b4 b5 : Int) (b6 b7 : List Int) : Option (Int × Int × Int × (List Int) × (List Int)) := call G 146 (x1, colour2, b3, b4, b5, b6, b7)
noncomputable def runs_reader_number (a1 : List Line) (a2 : List (List Int)) (b3 : List Line) (b4 : List (List Int)) (b5 : List Line) (b6 : List (List Int)) (b7 : List Line) (b8 b9 : List (List Int)) (b10 : List Int) (b11 : Int) : Option (Int × Int × (List Line) × (List (List Int)) × (List Line) × (List (List Int)) × (List Line) × (List (List Int)) × (List (List Int)) × (List Int) × Int) := call G 147 (a1, a2, b3, b4, b5, b6, b7, b8, b9, b10, b11)
noncomputable def math_bits_Mul (x1 y2 : Int) : Option (Int × Int) := call G 148 (x1, y2)
noncomputable def slices_Index_string_string (s1 : List (List Int)) (v2 : List Int) : Option Int := call G 149 (s1, v2)
noncomputable def slices_ContainsFunc_string_string (s1 : List (List Int)) (b2 : List Int) : Option (Bool × (List Int)) := call G 150 (s1, b2)
noncomputable def bits_Reader_Bits (n1 : Int) (b2 : List Int) (b3 : Int) : Option (Int × Int × (List Int) × Int) := call G 151 (n1, b2, b3)
noncomputable def math_bits_Mul64 (x1 y2 : Int) : Option (Int × Int) := call G 152 (x1, y2)
noncomputable def slices_IndexFunc_string_string (s1 : List (List Int)) (b2 : List Int) : Option (Int × (List Int)) := call G 153 (s1, b2)
noncomputable def bits_Reader_Left (b1 : List Int) (b2 : Int) : Option (Int × (List Int) × Int) := call G 154 (b1, b2)
noncomputable def runs_reader_word_1 (w1 b2 : List Int) : Option (Bool × (List Int)) := call G 155 (w1, b2)
noncomputable def strings_HasPrefix (s1 prefix2 : List Int) : Option Bool := call G 156 (s1, prefix2)
noncomputable def internal_stringslite_HasPrefix (s1 prefix2 : List Int) : Option Bool := call G 157 (s1, prefix2)
end
end Go.Proofs.YtgffdmgidnnedaaGreat.P
