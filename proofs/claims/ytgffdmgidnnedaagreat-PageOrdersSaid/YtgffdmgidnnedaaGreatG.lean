/- The program as the value reading has it: kinds of elements, functions, and that all fits. Printed by wip/tool/vsym.py. -/
import Derived.KernelRfl
import Derived.Test.YtgffdmgidnnedaaGreatProg
import Derived.Test.YtgffdmgidnnedaaGreatRow
namespace Go.Proofs.YtgffdmgidnnedaaGreat.P
open Go Go.Proofs.YtgffdmgidnnedaaGreat.V
set_option linter.unusedVariables false
set_option linter.unusedSimpArgs false
set_option maxRecDepth 100000
noncomputable section
structure Bitmap where
  w : Int
  h : Int
  pix : List Int

structure Segment where
  number : Int
  kind : Int
  page : Int
  refs : List Int
  keep : List Bool
  data : List Int

structure Mode where
  kind : List Int
  d : Int
  runs_0 : Int
  runs_1 : Int
  colour : Int

structure Line where
  length : Int
  bits : Int
  low : Int
  kind : Int

structure Arr4 where
  a0 : Int
  a1 : Int
  a2 : Int
  a3 : Int

structure Code where
  bits : Int
  length : Int

noncomputable def TT : Nat → Type
  | 0 => Bitmap
  | 1 => List Int
  | 2 => Bool
  | 3 => Segment
  | 4 => Mode
  | 5 => Line
  | 6 => List Int
  | 7 => Arr4
  | 8 => Code
  | _ => Unit
noncomputable def outs0 (x : Bitmap) : List (PV TT) := [.int .i64 x.w, .int .i64 x.h, .ints .u8 x.pix]
noncomputable def outs1 (x : List Int) : List (PV TT) := [.ints .u8 x]
noncomputable def outs2 (x : Bool) : List (PV TT) := [.bool x]
noncomputable def outs3 (x : Segment) : List (PV TT) := [.int .i64 x.number, .int .i64 x.kind, .int .i64 x.page, .ints .i64 x.refs, .rows 2 x.keep, .ints .u8 x.data]
noncomputable def outs4 (x : Mode) : List (PV TT) := [.str x.kind, .int .i64 x.d, .int .i64 x.runs_0, .int .i64 x.runs_1, .int .i64 x.colour]
noncomputable def outs5 (x : Line) : List (PV TT) := [.int .i64 x.length, .int .i64 x.bits, .int .i64 x.low, .int .i64 x.kind]
noncomputable def outs6 (x : List Int) : List (PV TT) := [.str x]
noncomputable def outs7 (x : Arr4) : List (PV TT) := [.int .i64 x.a0, .int .i64 x.a1, .int .i64 x.a2, .int .i64 x.a3]
noncomputable def outs8 (x : Code) : List (PV TT) := [.int .i64 x.bits, .int .i64 x.length]
noncomputable def outs : (i : Nat) → TT i → List (PV TT)
  | 0, x => outs0 x
  | 1, x => outs1 x
  | 2, x => outs2 x
  | 3, x => outs3 x
  | 4, x => outs4 x
  | 5, x => outs5 x
  | 6, x => outs6 x
  | 7, x => outs7 x
  | 8, x => outs8 x
  | _, _ => []
noncomputable def inn0 : List (PV TT) → Option Bitmap
  | [c0, c1, c2] => (V.asInt .i64 c0).bind fun y0 => (V.asInt .i64 c1).bind fun y1 => (V.asInts .u8 c2).bind fun y2 => some (Bitmap.mk y0 y1 y2)
  | _ => none
noncomputable def inn1 : List (PV TT) → Option (List Int)
  | [c0] => (V.asInts .u8 c0).bind fun y0 => some y0
  | _ => none
noncomputable def inn2 : List (PV TT) → Option Bool
  | [c0] => (V.asBool c0).bind fun y0 => some y0
  | _ => none
noncomputable def inn3 : List (PV TT) → Option Segment
  | [c0, c1, c2, c3, c4, c5] => (V.asInt .i64 c0).bind fun y0 => (V.asInt .i64 c1).bind fun y1 => (V.asInt .i64 c2).bind fun y2 => (V.asInts .i64 c3).bind fun y3 => (V.asRows 2 c4).bind fun y4 => (V.asInts .u8 c5).bind fun y5 => some (Segment.mk y0 y1 y2 y3 y4 y5)
  | _ => none
noncomputable def inn4 : List (PV TT) → Option Mode
  | [c0, c1, c2, c3, c4] => (V.asStr c0).bind fun y0 => (V.asInt .i64 c1).bind fun y1 => (V.asInt .i64 c2).bind fun y2 => (V.asInt .i64 c3).bind fun y3 => (V.asInt .i64 c4).bind fun y4 => some (Mode.mk y0 y1 y2 y3 y4)
  | _ => none
noncomputable def inn5 : List (PV TT) → Option Line
  | [c0, c1, c2, c3] => (V.asInt .i64 c0).bind fun y0 => (V.asInt .i64 c1).bind fun y1 => (V.asInt .i64 c2).bind fun y2 => (V.asInt .i64 c3).bind fun y3 => some (Line.mk y0 y1 y2 y3)
  | _ => none
noncomputable def inn6 : List (PV TT) → Option (List Int)
  | [c0] => (V.asStr c0).bind fun y0 => some y0
  | _ => none
noncomputable def inn7 : List (PV TT) → Option Arr4
  | [c0, c1, c2, c3] => (V.asInt .i64 c0).bind fun y0 => (V.asInt .i64 c1).bind fun y1 => (V.asInt .i64 c2).bind fun y2 => (V.asInt .i64 c3).bind fun y3 => some (Arr4.mk y0 y1 y2 y3)
  | _ => none
noncomputable def inn8 : List (PV TT) → Option Code
  | [c0, c1] => (V.asInt .i64 c0).bind fun y0 => (V.asInt .i64 c1).bind fun y1 => some (Code.mk y0 y1)
  | _ => none
noncomputable def inn : (i : Nat) → List (PV TT) → Option (TT i)
  | 0, l => inn0 l
  | 1, l => inn1 l
  | 2, l => inn2 l
  | 3, l => inn3 l
  | 4, l => inn4 l
  | 5, l => inn5 l
  | 6, l => inn6 l
  | 7, l => inn7 l
  | 8, l => inn8 l
  | _, _ => none
noncomputable def E : Env := { T := TT, outs := outs, inn := inn, sz := fun i => (getL [3, 1, 1, 6, 5, 4, 1, 4, 2] i).getD 0, flat := fun i => (getL [false, false, true, false, true, true, true, true, true] i).getD false }
noncomputable def els : List (TypeId × EK) := [(3, .int .i64), (4, .row 2), (5, .int .u8), (9, .row 6), (27, .row 1), (29, .row 0), (40, .row 3), (100, .row 4), (210, .row 7), (216, .row 5), (278, .row 8)]
noncomputable abbrev I6 : TSh := .int .i64
def z40 : List TSh := [.ptr 0 0, I6]
def z39 : List BSh := [.same, .same]
def z38 : List TSh := [.ints .u8, I6]
def z37 : List BSh := [.rows 1 false]
def z36 : List BSh := [.ints .u8 true]
def z35 : List BSh := [.ints .u8 false]
def z34 : List TSh := [.ints .u8, I6, I6]
def z33 : List TSh := [I6, I6, .ints .u8]
def z32 : List BSh := [.same, .same, .same]
def z31 : List TSh := [.int .u64, .int .u64]
def z30 : List TSh := [.ptr 0 0, .ints .i64]
def z29 : List BSh := [.same, .ints .u8 false]
def z28 : List BSh := [.box z34]
def z27 : List TSh := [.agg z33]
def z26 : List TSh := [.ints .u8, I6, .litb true]
def z25 : List TSh := [I6, I6, I6, I6, I6, .bool]
def z24 : List BSh := [.same, .same, .same, .same]
def z23 : List BSh := [.rows 8 true, .box [I6, I6]]
def z22 : List BSh := [.same, .gone, .ints .u8 false]
def z21 : List BSh := [.box [.arr 1], .ints .u8 false]
def z20 : List BSh := [.box z26]
def z19 : List TSh := [.agg z33, I6, I6]
def z18 : List BSh := [.same, .same, .same, .same, .same]
def z17 : List TSh := [I6, I6, I6, .ints .i64, .rows 2, .ints .u8]
def z16 : List BSh := [.same, .box [.rows 5, .arr 2], .rows 6 false]
def z15 : List BSh := [.same, .same, .same, .same, .ints .u8 true, .same]
def z14 : List TSh := [.agg z17]
def z13 : List BSh := [.same, .box z26, .box [.str]]
def z12 : List BSh := [.same, .same, .box [I6, I6, .arr 3], .ints .u8 false]
def z11 : List BSh := [.box [I6, I6, I6, .ints .u8, .arr 1], .ints .u8 false]
def z10 : List TSh := [.ptr 0 0, .agg z17]
def z9 : List TSh := [.ptr 0 0, .agg z17, .ptr 4 0]
def z8 : List TSh := [I6, I6, I6, .ints .u8, .bool, .bool, I6, I6, .mapr 1, .mapr 2, .mapr 3]
def z7 : List TSh := [.ptr 1 0, .rows 5, .rows 6, .rows 5, .rows 6, .rows 5, .rows 6, .rows 6]
def z6 : List BSh := [.box z8, .mp .i64, .mp .i64, .mp .i64]
def z5 : List BSh := [.box z7, .box z26]
def z4 : List BSh := [.box z7, .box z26, .ints .u8 false]
def z3 : List BSh := [.box z8, .mp .i64, .mp .i64, .mp .i64, .box z34]
def z2 : List BSh := [.same, .box [I6, I6, .arr 6], .mp .i64, .mp .i64, .mp .i64, .box [I6, I6, I6, .ints .u8, .bool, .bool, I6, I6, .mapr 2, .mapr 3, .mapr 4], .ints .u8 false]
def z1 : List BSh := [.box z7, .box z26, .box [I6, I6, I6, .ints .u8, .arr 3], .ints .u8 false]
def z0 : List BSh := [.box [I6, I6, .arr 6], .same, .same, .box [.ptr 4 0, .rows 5, .rows 6, .rows 5, .rows 6, .rows 5, .rows 6, .rows 6], .box z26, .gone, .ints .u8 false]
noncomputable def insts : List FInst := [
  { fid := 3, sig := { ps := [.rows 0, I6, .ints .i64], rs := [.bool] }, ann := { calls := [(37, 1), (40, 2), (51, 3), (53, 2), (70, 4), (72, 2), (82, 5), (114, 6), (131, 7), (134, 7), (136, 7), (151, 7), (187, 7), (195, 7), (211, 8), (217, 8), (223, 8), (252, 9), (257, 9), (260, 2)], loops := [(5, { tm := [(7, I6), (8, I6), (9, I6)], bs := [] }, [(.exit 0, { tm := [(7, I6), (8, I6)], bs := [] }), (.ret, { tm := [(6, .bool)], bs := [] })]), (19, { tm := [(12, .arr 0), (13, I6), (14, I6)], bs := z37 }, [(.exit 2, { tm := [(12, .arr 0)], bs := z37 }), (.ret, { tm := [(6, .bool)], bs := [] })]), (29, { tm := [(17, .arr 1), (19, I6)], bs := [.same, .rows 3 false, .same] }, [(.exit 4, { tm := [(17, .arr 1)], bs := [.same, .rows 3 false, .same] })]), (34, { tm := [(18, .arr 2), (20, .arr 4), (21, I6)], bs := [.same, .same, .rows 3 false, .gone, .rows 1 false] }, [(.exit 6, { tm := [(18, .arr 2)], bs := [.same, .same, .rows 3 false, .gone] })])], joins := [(2, [(.normal, { tm := [(39, .bool)], bs := [] })]), (331, [(.normal, { tm := [(22, I6)], bs := [.same, .same, .same, .gone, .same] })])] } },
  { fid := 7, sig := { ps := [.rows 0], rs := [I6] }, ann := { loops := [(3, { tm := [(3, I6), (4, I6)], bs := [] }, [(.exit 0, { tm := [(3, I6)], bs := [] })])] } },
  { fid := 8, sig := { rs := [.bool] }, ann := { calls := [(4, 5), (12, 10)] } },
  { fid := 9, sig := { ps := z27, rs := [.bool] }, ann := { calls := [(8, 4)], loops := [(4, { tm := [(3, I6)], bs := [.same] }, [(.exit 0, { tm := [], bs := [.same] }), (.ret, { tm := [(2, .bool)], bs := [.same] })])], joins := [(2, [(.normal, { tm := [(20, .bool)], bs := [.same] })])] } },
  { fid := 10, sig := { ps := [I6, I6], rs := [.bool] }, ann := {} },
  { fid := 11, sig := { ps := [I6, I6, I6, I6], rs := z38 }, ann := { calls := [(17, 11), (49, 12), (56, 13)], joins := [(4, [(.normal, { tm := [(41, .bool)], bs := z39 })])] } },
  { fid := 12, sig := { ps := [.agg z25, .bool, .agg z33], rs := z38 }, ann := { calls := [(12, 14), (30, 15), (36, 16), (43, 17), (46, 18), (48, 13), (52, 19)], joins := [(2, [(.normal, { tm := [(27, .bool)], bs := z39 })]), (67, [(.normal, { tm := [(8, .ints .u8), (9, I6)], bs := z39 })])] } },
  { fid := 13, sig := { ps := [I6, I6, I6, .ints .i64, .ints .u8], rs := z14 }, ann := { calls := [(17, 20)] } },
  { fid := 14, sig := { ps := [.rows 3, I6], rs := z19 }, ann := { calls := [(15, 21), (34, 22), (40, 23), (64, 24)], loops := [(10, { tm := [(48, I6)], bs := z2 }, [(.exit 1, { tm := [], bs := z2 }), (.ret, { tm := [(5, I6), (6, I6)], bs := z2 })])], joins := [(8, [(.normal, { tm := [(23, .bool)], bs := z39 })]), (24, [(.normal, { tm := [(61, .bool)], bs := [.same, .same, .same, .same, .same, .same, .same, .same] })])], slots := [(41, 0), (42, 1), (43, 2)], pads := [(8, 3)] } },
  { fid := 15, sig := { ps := [.agg z33, .agg z33], rs := [.bool] }, ann := {} },
  { fid := 21, sig := { ps := [.ints .u8, .ints .u8], rs := [.bool] }, ann := {} },
  { fid := 22, sig := { ps := [I6, I6, I6], rs := [.agg [I6, I6, .arr 0], I6], rb := z35 }, ann := { calls := [(29, 25)], loops := [(5, { tm := [(35, I6)], bs := [.same, .ints .u8 true, .same] }, [(.exit 0, { tm := [], bs := [.same, .ints .u8 true, .same] })])], joins := [(2, [(.normal, { tm := [(24, .bool)], bs := [.same] })])] } },
  { fid := 23, sig := { ps := z30, pb := z21, rb := z21 }, ann := { calls := [(16, 26)], loops := [(1, { tm := [(10, I6)], bs := z21 }, [(.exit 0, { tm := [], bs := z21 })])] } },
  { fid := 24, sig := { ps := z30, pb := z21, rb := z21 }, ann := { loops := [(1, { tm := [(8, I6)], bs := z21 }, [(.exit 0, { tm := [], bs := z21 })])] } },
  { fid := 25, sig := { ps := [.agg z25], rs := [.bool] }, ann := { calls := [(10, 11), (18, 27), (23, 27)] } },
  { fid := 26, sig := { ps := z27, rs := z38 }, ann := { calls := [(10, 28), (13, 29), (20, 30), (31, 31), (36, 32)], loops := [(5, { tm := [(4, .arr 1), (15, I6)], bs := z29 }, [(.exit 0, { tm := [(4, .arr 1)], bs := z29 })]), (8, { tm := [(4, .arr 1), (22, I6)], bs := z29 }, [(.exit 2, { tm := [(4, .arr 1)], bs := z29 })])] } },
  { fid := 27, sig := { ps := z27, rs := z38 }, ann := { calls := [(11, 28), (17, 29), (25, 33), (33, 34), (39, 32)], loops := [(6, { tm := [(4, .arr 2), (5, .ints .u8), (19, I6)], bs := z22 }, [(.exit 0, { tm := [(4, .arr 2)], bs := z22 })]), (9, { tm := [(4, .arr 2), (27, I6)], bs := z22 }, [(.exit 2, { tm := [(4, .arr 2)], bs := z22 })])] } },
  { fid := 28, sig := { ps := [.ptr 0 0, .agg z25], pb := z21, rb := z21 }, ann := { calls := [(10, 12), (17, 35), (23, 18), (26, 13)] } },
  { fid := 29, sig := { ps := [.bool, I6], rs := [I6] }, ann := {} },
  { fid := 30, sig := { ps := [.ptr 0 0, .ints .u8, I6], pb := z21, rs := z38, rb := [.gone, .gone] }, ann := {} },
  { fid := 31, sig := { ps := [I6], rs := [.rows 2] }, ann := { loops := [(3, { tm := [(3, .arr 0), (4, I6)], bs := [.rows 2 false] }, [(.exit 0, { tm := [(3, .arr 0)], bs := [.rows 2 false] })])] } },
  { fid := 32, sig := { ps := [.rows 3], rs := [I6, I6] }, ann := { calls := [(8, 36)] } },
  { fid := 33, sig := { ps := [.rows 3, .fn 34 [.ptr 0 0]], pb := [.box [I6]], rs := [.bool], rb := [.box [I6]] }, ann := { calls := [(7, 37)] } },
  { fid := 35, sig := { ps := [.rows 3, I6], rs := [I6] }, ann := { calls := [(29, 38)], loops := [(3, { tm := [(5, I6), (13, I6)], bs := [] }, [(.exit 0, { tm := [(5, I6)], bs := [] })])], joins := [(10, [(.normal, { tm := [(25, .bool)], bs := [.same] })])] } },
  { fid := 36, sig := { ps := z10, pb := z6, rs := [I6], rb := z6 }, ann := { calls := [(9, 39), (24, 42), (66, 40), (71, 41), (77, 42), (82, 43), (88, 42), (94, 44), (103, 44)] } },
  { fid := 40, sig := { ps := [I6, I6], rs := [.agg [I6, I6, .arr 0], I6], rb := z35 }, ann := { calls := [(8, 45)] } },
  { fid := 41, sig := { ps := [I6], rs := z38 }, ann := { loops := [(5, { tm := [(0, I6), (4, .arr 1)], bs := [.gone, .ints .u8 false] }, [(.exit 0, { tm := [(4, .arr 1)], bs := [.gone, .ints .u8 false] })])], joins := [(2, [(.normal, { tm := [(10, .bool)], bs := [] })])] } },
  { fid := 42, sig := { ps := [I6], rs := [.bool] }, ann := {} },
  { fid := 43, sig := { ps := z27, rs := [.bool] }, ann := { calls := [(9, 45)], loops := [(4, { tm := [(25, I6)], bs := [.same] }, [(.exit 0, { tm := [], bs := [.same] }), (.ret, { tm := [(2, .bool)], bs := [.same] })])], joins := [(2, [(.normal, { tm := [(21, .bool)], bs := [.same] })])] } },
  { fid := 44, sig := { ps := z27, rs := [.rows 1] }, ann := { loops := [(3, { tm := [(3, .arr 1), (7, I6)], bs := [.same, .rows 1 false] }, [(.exit 0, { tm := [(3, .arr 1)], bs := [.same, .rows 1 false] })])] } },
  { fid := 45, sig := { ps := [.ints .u8], rs := [.ints .i64] }, ann := { loops := [(4, { tm := [(3, .arr 0), (4, .int .u8), (5, I6)], bs := [.ints .i64 false] }, [(.exit 0, { tm := [(3, .arr 0)], bs := [.ints .i64 false] })]), (6, { tm := [(5, I6)], bs := [.same] }, [(.exit 2, { tm := [(5, I6)], bs := [.same] })])] } },
  { fid := 46, sig := { ps := [I6, I6], rs := [.ints .u8] }, ann := { calls := [(12, 46), (20, 47), (25, 48), (29, 47)] } },
  { fid := 47, sig := { ps := [.ints .u8], rs := z38 }, ann := { loops := [(3, { tm := [(14, I6)], bs := z36 }, [(.exit 0, { tm := [], bs := z36 }), (.ret, { tm := [(2, .ints .u8), (3, I6)], bs := z36 })])] } },
  { fid := 48, sig := { ps := [.ints .u8, .ints .u8], rs := [.rows 4] }, ann := { calls := [(26, 49), (33, 50), (37, 50)], loops := [(4, { tm := [(5, .arr 0), (6, I6), (7, .int .u8)], bs := [.rows 4 false] }, [(.exit 0, { tm := [(5, .arr 0)], bs := [.rows 4 false] })])], joins := [(8, [(.normal, { tm := [(21, .bool)], bs := [.same] })]), (26, [(.normal, { tm := [(62, .bool)], bs := [.same] })])] } },
  { fid := 49, sig := { ps := [.agg [.str, I6, I6, I6, I6]], rs := [.ints .u8] }, ann := { calls := [(7, 51), (10, 52), (16, 51), (17, 51), (23, 31), (31, 31)] } },
  { fid := 39, sig := { ps := z30, pb := z21, rb := z21 }, ann := { calls := [(16, 53)], loops := [(1, { tm := [(10, I6)], bs := z21 }, [(.exit 0, { tm := [], bs := z21 })])] } },
  { fid := 50, sig := { ps := [.rows 3], rs := [.mapr 0, I6], rb := [.mp .i64] }, ann := { calls := [(19, 54)], loops := [(4, { tm := [(5, I6), (11, I6)], bs := [.mp .i64] }, [(.exit 0, { tm := [], bs := [.mp .i64] }), (.ret, { tm := [(2, .mapr 0), (3, I6)], bs := [.mp .i64] })])] } },
  { fid := 51, sig := { ps := [.rows 3, .fn 34 [.ptr 0 0]], pb := [.box [I6]], rs := [I6], rb := [.box [I6]] }, ann := { calls := [(16, 55)], loops := [(2, { tm := [(8, I6)], bs := [.box [I6]] }, [(.exit 0, { tm := [], bs := [.box [I6]] }), (.ret, { tm := [(4, I6)], bs := [.box [I6]] })])] } },
  { fid := 52, sig := { ps := z38, rs := [I6, I6, I6] }, ann := { loops := [(4, { tm := [(4, I6), (17, I6)], bs := [] }, [(.exit 0, { tm := [], bs := [] }), (.ret, { tm := [(4, I6), (5, I6), (6, I6)], bs := [] })])], joins := [(2, [(.normal, { tm := [(16, .bool)], bs := [] })]), (22, [(.normal, { tm := [(52, .bool)], bs := [] })])] } },
  { fid := 53, sig := { ps := z10, pb := z6, rs := [I6], rb := z6 }, ann := { joins := [(4, [(.normal, { tm := [(25, .bool)], bs := z18 })])] } },
  { fid := 60, sig := { ps := z9, pb := z3, rb := z3 }, ann := { calls := [(13, 56), (15, 57), (21, 42), (28, 58), (33, 59), (33, 61), (41, 42), (48, 58), (51, 42), (57, 60)], joins := [(14, [(.normal, { tm := [(9, .ptr 7 0), (10, I6), (11, I6)], bs := [.same, .same, .same, .same, .box z34, .same, .same, .box z33] })]), (16, [(.normal, { tm := [(52, .bool)], bs := [.same, .same, .same, .same, .box z34, .same, .same, .same] })])], orders := [(7, [2, 7, 12], [[0, 1, 2, 3, 4, 5, 6, 7, 8, 9, 10, 11, 12, 13, 14, 15], [0, 1, 2, 3, 4, 5, 6, 12, 7, 8, 9, 10, 11, 13, 14, 15], [0, 1, 3, 4, 5, 6, 12, 2, 7, 8, 9, 10, 11, 13, 14, 15]])] } },
  { fid := 61, sig := { ps := [.ptr 0 0, .ptr 4 0], pb := z3, rb := z3 }, ann := { calls := [(8, 62), (10, 62), (21, 63), (23, 57), (25, 64), (37, 11)], joins := [(27, [(.normal, { tm := [(5, I6)], bs := z18 })])] } },
  { fid := 62, sig := { ps := [.ptr 0 0, .bool, I6], pb := z28, rs := [.bool], rb := z28 }, ann := { calls := [(11, 65)] } },
  { fid := 63, sig := { ps := [.ptr 0 0, .ptr 4 0], pb := z3, rb := z3 }, ann := { calls := [(6, 62), (8, 64), (16, 42)] } },
  { fid := 64, sig := { ps := z9, pb := z3, rb := z3 }, ann := { calls := [(7, 64), (13, 42)] } },
  { fid := 75, sig := { ps := [I6, I6], rs := [.bool] }, ann := {} },
  { fid := 76, sig := { ps := [I6], rs := [.rows 5, I6] }, ann := { calls := [(14, 66), (23, 66), (32, 66)] } },
  { fid := 77, sig := { ps := [.rows 5, .agg [.bool, I6]], rs := [.arr 0, I6], rb := z35 }, ann := { calls := [(7, 67), (11, 68), (13, 69)] } },
  { fid := 78, sig := { ps := [I6], rs := [.rows 5] }, ann := {} },
  { fid := 79, sig := { ps := [.ints .u8, I6, .int .u8], rs := [I6, I6] }, ann := { calls := [(43, 50)], loops := [(2, { tm := [(6, I6)], bs := [] }, [(.exit 0, { tm := [(6, I6)], bs := [] })])], joins := [(33, [(.normal, { tm := [(8, .int .u8)], bs := [] })])] } },
  { fid := 80, sig := { ps := [.ints .u8, I6, .int .u8], rs := [I6] }, ann := { loops := [(2, { tm := [(7, I6)], bs := [] }, [(.exit 0, { tm := [(7, I6)], bs := [] })])] } },
  { fid := 81, sig := { ps := [.str], rs := [.arr 0], rb := z35 }, ann := { loops := [(3, { tm := [(9, I6)], bs := z36 }, [(.exit 0, { tm := [], bs := z36 })])] } },
  { fid := 82, sig := { rs := [.rows 6] }, ann := {} },
  { fid := 74, sig := { ps := [I6], rs := z38 }, ann := { calls := [(13, 26), (26, 26)], joins := [(2, [(.normal, { tm := [(4, .bool)], bs := [] })]), (6, [(.normal, { tm := [(16, .bool)], bs := [] })])] } },
  { fid := 83, sig := { ps := [.mapr 0, .agg z17, I6], pb := [.mp .i64], rs := [.bool], rb := [.mp .i64] }, ann := { calls := [(14, 70)], loops := [(4, { tm := [(25, I6)], bs := z39 }, [(.exit 0, { tm := [], bs := z39 })]), (11, { tm := [(51, I6)], bs := z39 }, [(.exit 2, { tm := [], bs := z39 })])], joins := [(2, [(.normal, { tm := [(21, .bool)], bs := z39 })])] } },
  { fid := 34, sig := { ps := [.agg z17, .ptr 0 0], pb := [.box [I6]], rs := [.bool], rb := [.box [I6]] }, ann := {} },
  { fid := 91, sig := { ps := [.ptr 0 0], pb := z28, rs := [.agg z25], rb := z28 }, ann := { calls := [(6, 62), (8, 62), (15, 63), (17, 71), (22, 27), (23, 42), (25, 71), (30, 27), (31, 42), (33, 57), (38, 42)] } },
  { fid := 84, sig := { ps := z40, pb := z28, rs := [I6], rb := z28 }, ann := { calls := [(22, 65), (45, 42)] } },
  { fid := 89, sig := { ps := [.ptr 0 0], pb := z28, rs := [.ints .u8], rb := z28 }, ann := {} },
  { fid := 104, sig := { ps := z34, rs := z19 }, ann := { calls := [(12, 72)] } },
  { fid := 95, sig := { ps := [.ptr 0 0, .agg z17, .agg z25, .agg z33], pb := z6, rb := z6 }, ann := { calls := [(30, 73)] } },
  { fid := 103, sig := { ps := z34, rs := z19 }, ann := { calls := [(12, 74)] } },
  { fid := 86, sig := { ps := [.ptr 0 0], pb := z28, rs := [I6], rb := z28 }, ann := { calls := [(20, 38), (28, 65)] } },
  { fid := 105, sig := { ps := [.ptr 0 0, I6, I6], pb := z28, rb := z28 }, ann := { calls := [(16, 11), (22, 42)] } },
  { fid := 106, sig := { ps := [.ptr 0 0], pb := z28, rb := z28 }, ann := { calls := [(13, 42)] } },
  { fid := 107, sig := { ps := z40, pb := z28, rb := z28 }, ann := {} },
  { fid := 126, sig := { ps := [.rows 7], rs := [.rows 5] }, ann := { loops := [(3, { tm := [(3, .arr 0), (8, I6)], bs := [.rows 5 false] }, [(.exit 0, { tm := [(3, .arr 0)], bs := [.rows 5 false] })])] } },
  { fid := 127, sig := { ps := [.rows 5], rs := [.bool] }, ann := { calls := [(18, 75), (23, 76)], loops := [(4, { tm := [(13, I6)], bs := [] }, [(.exit 0, { tm := [], bs := [] }), (.ret, { tm := [(2, .bool)], bs := [] })])] } },
  { fid := 129, sig := { ps := [.rows 5], rs := [.rows 8] }, ann := { loops := [(4, { tm := [(5, I6)], bs := z23 }, [(.exit 0, { tm := [], bs := z23 })]), (8, { tm := [(27, I6)], bs := z23 }, [(.exit 2, { tm := [], bs := z23 })])] } },
  { fid := 128, sig := { ps := [.rows 5, .rows 8, .agg [.bool, I6]], rs := [.arr 0, I6], rb := z35 }, ann := { calls := [(13, 77), (28, 78), (35, 78)] } },
  { fid := 130, sig := { ps := z14, rs := [.bool] }, ann := { loops := [(5, { tm := [(3, I6), (59, I6)], bs := [.same] }, [(.exit 0, { tm := [], bs := [.same] }), (.ret, { tm := [(2, .bool)], bs := [.same] })])], joins := [(2, [(.normal, { tm := [(55, .bool)], bs := [.same] })])] } },
  { fid := 92, sig := { ps := [.ptr 0 0], pb := z28, rs := [I6], rb := z28 }, ann := { calls := [(20, 79), (28, 65)] } },
  { fid := 173, sig := { ps := [.ints .u8, I6, I6, .fn 175 []], rs := z19 }, ann := { calls := [(18, 11), (25, 80), (39, 81), (57, 82)], loops := [(8, { tm := [(14, .ints .u8), (32, I6)], bs := z0 }, [(.exit 0, { tm := [], bs := z0 }), (.ret, { tm := [(9, I6), (10, I6)], bs := z0 })])] } },
  { fid := 156, sig := { ps := [.agg z33, .agg z33, I6, I6, I6], rs := [.agg z33, I6] }, ann := { calls := [(20, 28), (24, 28), (38, 83), (43, 84), (94, 85), (96, 86)], loops := [(7, { tm := [(46, I6)], bs := z15 }, [(.exit 1, { tm := [], bs := z15 })]), (10, { tm := [(51, I6)], bs := z15 }, [(.exit 3, { tm := [], bs := z15 })])], joins := [(2, [(.normal, { tm := [(18, .bool)], bs := z32 })]), (6, [(.normal, { tm := [(28, .bool)], bs := z32 })]), (26, [(.normal, { tm := [(77, .bool)], bs := [.same, .same, .same, .same, .same, .same] })]), (37, [(.normal, { tm := [], bs := z12 }), (.ret, { tm := [(11, I6)], bs := z12 })])] } },
  { fid := 173, sig := { ps := [.ints .u8, I6, I6, .fn 174 []], rs := z19 }, ann := { calls := [(18, 11), (25, 80), (39, 87), (57, 82)], loops := [(8, { tm := [(14, .ints .u8), (32, I6)], bs := z0 }, [(.exit 0, { tm := [], bs := z0 }), (.ret, { tm := [(9, I6), (10, I6)], bs := z0 })])] } },
  { fid := 185, sig := { ps := [.agg [I6, I6, I6, I6]], rs := [.bool] }, ann := { joins := [(2, [(.normal, { tm := [(40, .bool)], bs := [.same] })])] } },
  { fid := 186, sig := { ps := [.rows 5], rs := [I6, I6, I6] }, ann := { loops := [(2, { tm := [(2, I6), (3, I6), (4, I6), (9, I6)], bs := [] }, [(.exit 0, { tm := [(2, I6), (3, I6), (4, I6)], bs := [] })])] } },
  { fid := 187, sig := { ps := [.rows 5, .agg [.bool, I6]], rs := [I6, I6] }, ann := { calls := [(20, 88)], loops := [(3, { tm := [(4, I6), (5, I6), (12, I6)], bs := [.same] }, [(.exit 0, { tm := [(4, I6), (5, I6)], bs := [.same] })])] } },
  { fid := 188, sig := { ps := [I6, I6], rs := [.arr 0], rb := z35 }, ann := { loops := [(3, { tm := [(11, I6)], bs := z36 }, [(.exit 0, { tm := [], bs := z36 })])] } },
  { fid := 146, sig := { ps := z38, rs := [I6, I6, I6] }, ann := { calls := [(10, 38)] } },
  { fid := 223, sig := { ps := [.ints .u8], rs := [.ptr 0 0], rb := z5 }, ann := { calls := [(6, 46), (10, 89), (12, 90), (13, 48), (14, 90), (15, 48), (16, 90), (19, 52)] } },
  { fid := 175, sig := { ps := [.ptr 0 0, I6, .ints .u8], pb := z5, rs := z38, rb := z5 }, ann := { calls := [(26, 91)], loops := [(2, { tm := [], bs := z1 }, [(.exit 0, { tm := [], bs := z1 }), (.ret, { tm := [(6, .ints .u8), (7, I6)], bs := z1 })])], joins := [(4, [(.normal, { tm := [(23, .bool)], bs := z24 })])] } },
  { fid := 224, sig := { ps := [.ptr 0 0], pb := z20, rs := [I6], rb := z20 }, ann := { calls := [(4, 92)] } },
  { fid := 170, sig := { ps := [I6, I6], rs := [.bool] }, ann := {} },
  { fid := 211, sig := { ps := z27, rs := [.agg [I6, I6, .arr 0]], rb := z35 }, ann := { calls := [(9, 93)] } },
  { fid := 171, sig := { ps := z19, rs := [.int .u8] }, ann := { joins := [(2, [(.normal, { tm := [(24, .bool)], bs := [.same] })])] } },
  { fid := 212, sig := { ps := [.int .u8, .int .u8, I6], rs := [.int .u8] }, ann := {} },
  { fid := 174, sig := { ps := [.ptr 0 0, I6, .ints .u8], pb := z5, rs := z38, rb := z5 }, ann := { calls := [(22, 94), (48, 95)], loops := [(3, { tm := [(8, .arr 2), (9, I6)], bs := z4 }, [(.exit 0, { tm := [(8, .arr 2)], bs := z4 }), (.ret, { tm := [(6, .ints .u8), (7, I6)], bs := z5 })])], joins := [(16, [(.normal, { tm := [(41, .bool)], bs := z32 })])] } },
  { fid := 230, sig := { ps := [.agg [I6, I6, I6, I6], .agg [.bool, I6]], rs := [I6, .bool] }, ann := { joins := [(2, [(.normal, { tm := [(13, .bool)], bs := z39 })]), (4, [(.normal, { tm := [(4, I6), (5, .bool)], bs := z39 })]), (6, [(.normal, { tm := [(33, .bool)], bs := z39 })]), (83, [(.normal, { tm := [(6, I6)], bs := z39 })])] } },
  { fid := 244, sig := { ps := [.ints .u8], rs := [.ptr 0 0], rb := z20 }, ann := {} },
  { fid := 245, sig := { ps := [.rows 5], rs := [.agg [.rows 5, .rows 6]] }, ann := { calls := [(15, 96)], loops := [(4, { tm := [(20, I6)], bs := z16 }, [(.exit 0, { tm := [], bs := z16 })]), (8, { tm := [(8, .str), (26, I6)], bs := z32 }, [(.exit 2, { tm := [(8, .str)], bs := z32 })])] } },
  { fid := 227, sig := { ps := [.ptr 0 0, .ptr 2 0], pb := z1, rs := [I6], rb := z1 }, ann := { calls := [(16, 97), (36, 49), (44, 98), (65, 99), (90, 99)], joins := [(14, [(.normal, { tm := [(45, .bool)], bs := z24 })]), (26, [(.normal, { tm := [(83, .bool)], bs := z24 })]), (79, [(.normal, { tm := [], bs := [.box z7, .box z26, .box [I6, I6, I6, .ints .u8, .arr 3], .ints .u8 true] }), (.ret, { tm := [(4, I6)], bs := z1 })])] } },
  { fid := 246, sig := { ps := [.ptr 0 0], pb := z20, rs := [.bool], rb := z20 }, ann := {} },
  { fid := 240, sig := { ps := [.ints .u8], rs := [.arr 0], rb := z35 }, ann := {} },
  { fid := 225, sig := { ps := z40, pb := z5, rs := [I6, I6], rb := z5 }, ann := { calls := [(15, 100), (29, 100)] } },
  { fid := 226, sig := { ps := z38, rs := [.ints .u8] }, ann := { calls := [(18, 101)], loops := [(8, { tm := [(8, I6)], bs := z36 }, [(.exit 0, { tm := [], bs := z36 })])], joins := [(8, [(.normal, { tm := [(26, .bool)], bs := [] })])] } },
  { fid := 255, sig := { ps := [.rows 5], rs := [.rows 1, I6] }, ann := { calls := [(8, 67), (11, 68), (22, 78)], loops := [(5, { tm := [(4, .arr 0), (13, I6)], bs := z37 }, [(.exit 0, { tm := [(4, .arr 0)], bs := z37 })])] } },
  { fid := 249, sig := { ps := [.ptr 0 0, .rows 6], pb := z5, rs := [I6, I6], rb := z5 }, ann := { calls := [(12, 102), (22, 103), (29, 104)], loops := [(2, { tm := [], bs := z13 }, [(.ret, { tm := [(4, I6), (5, I6)], bs := z13 })])], joins := [(6, [(.normal, { tm := [(18, .bool)], bs := z32 })])] } },
  { fid := 250, sig := { ps := [.ptr 0 0, .ptr 2 0], pb := z1, rs := [I6], rb := z1 }, ann := { calls := [(15, 94), (52, 94), (83, 99), (93, 99)], joins := [(10, [(.normal, { tm := [(44, .bool)], bs := z24 })]), (20, [(.normal, { tm := [(76, .bool)], bs := z24 })])] } },
  { fid := 251, sig := { ps := [.ptr 0 0, I6, I6], pb := z11, rb := z11 }, ann := { calls := [(21, 95)] } },
  { fid := 247, sig := { ps := [.ptr 0 0, .agg [.rows 5, .rows 6]], pb := z5, rs := [I6, I6], rb := z5 }, ann := { calls := [(13, 97), (30, 104)] } },
  { fid := 248, sig := { ps := z31, rs := z31 }, ann := { calls := [(25, 105)] } },
  { fid := 259, sig := { ps := [.rows 6, .str], rs := [I6] }, ann := { loops := [(2, { tm := [(8, I6)], bs := [] }, [(.exit 0, { tm := [], bs := [] }), (.ret, { tm := [(4, I6)], bs := [] })])] } },
  { fid := 260, sig := { ps := [.rows 6, .fn 261 [.ptr 0 0]], pb := [.box [.str]], rs := [.bool], rb := [.box [.str]] }, ann := { calls := [(7, 106)] } },
  { fid := 256, sig := { ps := z40, pb := z20, rs := [I6, I6], rb := z20 }, ann := { calls := [(9, 92), (20, 107)], loops := [(9, { tm := [(6, I6), (23, I6)], bs := z20 }, [(.exit 1, { tm := [(6, I6)], bs := z20 })])], joins := [(6, [(.normal, { tm := [(10, .bool)], bs := [.same] })]), (15, [(.normal, { tm := [], bs := z20 }), (.ret, { tm := [(4, I6), (5, I6)], bs := z20 })])] } },
  { fid := 258, sig := { ps := z31, rs := z31 }, ann := {} },
  { fid := 264, sig := { ps := [.rows 6, .fn 261 [.ptr 0 0]], pb := [.box [.str]], rs := [I6], rb := [.box [.str]] }, ann := { calls := [(16, 108)], loops := [(2, { tm := [(8, I6)], bs := [.box [.str]] }, [(.exit 0, { tm := [], bs := [.box [.str]] }), (.ret, { tm := [(4, I6)], bs := [.box [.str]] })])] } },
  { fid := 263, sig := { ps := [.ptr 0 0], pb := z20, rs := [I6], rb := z20 }, ann := { calls := [(4, 92)] } },
  { fid := 261, sig := { ps := [.str, .ptr 0 0], pb := [.box [.str]], rs := [.bool], rb := [.box [.str]] }, ann := { calls := [(6, 109)] } },
  { fid := 262, sig := { ps := [.str, .str], rs := [.bool] }, ann := { calls := [(7, 110)] } },
  { fid := 265, sig := { ps := [.str, .str], rs := [.bool] }, ann := {} }]
noncomputable def G : Prg := { P := Tryz.prog, E := E, el := fun t => lookN t els, F := fun i => (getL insts i).getD { fid := 0, sig := {}, ann := {} } }
theorem inn0_ok : ∀ {l : List (PV TT)} {x : Bitmap}, inn0 l = some x → Sames (E := E) l (outs0 x)
  | [], _, h => by cases h
  | [_], _, h => by cases h
  | [_, _], _, h => by cases h
  | [_, _, _], _, h => by
    simp only [inn0] at h
    obtain ⟨y0, h0, h⟩ := Option.bind_eq_some_iff.1 h; obtain ⟨y1, h1, h⟩ := Option.bind_eq_some_iff.1 h; obtain ⟨y2, h2, h⟩ := Option.bind_eq_some_iff.1 h; cases h; exact .cons (V.asInt_same h0) (.cons (V.asInt_same h1) (.cons (V.asInts_same h2) (.nil)))
  | _ :: _ :: _ :: _ :: _, _, h => by cases h
theorem inn1_ok : ∀ {l : List (PV TT)} {x : List Int}, inn1 l = some x → Sames (E := E) l (outs1 x)
  | [], _, h => by cases h
  | [_], _, h => by
    simp only [inn1] at h
    obtain ⟨y0, h0, h⟩ := Option.bind_eq_some_iff.1 h; cases h; exact .cons (V.asInts_same h0) (.nil)
  | _ :: _ :: _, _, h => by cases h
theorem inn2_ok : ∀ {l : List (PV TT)} {x : Bool}, inn2 l = some x → Sames (E := E) l (outs2 x)
  | [], _, h => by cases h
  | [_], _, h => by
    simp only [inn2] at h
    obtain ⟨y0, h0, h⟩ := Option.bind_eq_some_iff.1 h; cases h; exact .cons (V.asBool_same h0) (.nil)
  | _ :: _ :: _, _, h => by cases h
theorem inn3_ok : ∀ {l : List (PV TT)} {x : Segment}, inn3 l = some x → Sames (E := E) l (outs3 x)
  | [], _, h => by cases h
  | [_], _, h => by cases h
  | [_, _], _, h => by cases h
  | [_, _, _], _, h => by cases h
  | [_, _, _, _], _, h => by cases h
  | [_, _, _, _, _], _, h => by cases h
  | [_, _, _, _, _, _], _, h => by
    simp only [inn3] at h
    obtain ⟨y0, h0, h⟩ := Option.bind_eq_some_iff.1 h; obtain ⟨y1, h1, h⟩ := Option.bind_eq_some_iff.1 h; obtain ⟨y2, h2, h⟩ := Option.bind_eq_some_iff.1 h; obtain ⟨y3, h3, h⟩ := Option.bind_eq_some_iff.1 h; obtain ⟨y4, h4, h⟩ := Option.bind_eq_some_iff.1 h; obtain ⟨y5, h5, h⟩ := Option.bind_eq_some_iff.1 h; cases h; exact .cons (V.asInt_same h0) (.cons (V.asInt_same h1) (.cons (V.asInt_same h2) (.cons (V.asInts_same h3) (.cons (V.asRows_same h4) (.cons (V.asInts_same h5) (.nil))))))
  | _ :: _ :: _ :: _ :: _ :: _ :: _ :: _, _, h => by cases h
theorem inn4_ok : ∀ {l : List (PV TT)} {x : Mode}, inn4 l = some x → Sames (E := E) l (outs4 x)
  | [], _, h => by cases h
  | [_], _, h => by cases h
  | [_, _], _, h => by cases h
  | [_, _, _], _, h => by cases h
  | [_, _, _, _], _, h => by cases h
  | [_, _, _, _, _], _, h => by
    simp only [inn4] at h
    obtain ⟨y0, h0, h⟩ := Option.bind_eq_some_iff.1 h; obtain ⟨y1, h1, h⟩ := Option.bind_eq_some_iff.1 h; obtain ⟨y2, h2, h⟩ := Option.bind_eq_some_iff.1 h; obtain ⟨y3, h3, h⟩ := Option.bind_eq_some_iff.1 h; obtain ⟨y4, h4, h⟩ := Option.bind_eq_some_iff.1 h; cases h; exact .cons (V.asStr_same h0) (.cons (V.asInt_same h1) (.cons (V.asInt_same h2) (.cons (V.asInt_same h3) (.cons (V.asInt_same h4) (.nil)))))
  | _ :: _ :: _ :: _ :: _ :: _ :: _, _, h => by cases h
theorem inn5_ok : ∀ {l : List (PV TT)} {x : Line}, inn5 l = some x → Sames (E := E) l (outs5 x)
  | [], _, h => by cases h
  | [_], _, h => by cases h
  | [_, _], _, h => by cases h
  | [_, _, _], _, h => by cases h
  | [_, _, _, _], _, h => by
    simp only [inn5] at h
    obtain ⟨y0, h0, h⟩ := Option.bind_eq_some_iff.1 h; obtain ⟨y1, h1, h⟩ := Option.bind_eq_some_iff.1 h; obtain ⟨y2, h2, h⟩ := Option.bind_eq_some_iff.1 h; obtain ⟨y3, h3, h⟩ := Option.bind_eq_some_iff.1 h; cases h; exact .cons (V.asInt_same h0) (.cons (V.asInt_same h1) (.cons (V.asInt_same h2) (.cons (V.asInt_same h3) (.nil))))
  | _ :: _ :: _ :: _ :: _ :: _, _, h => by cases h
theorem inn6_ok : ∀ {l : List (PV TT)} {x : List Int}, inn6 l = some x → Sames (E := E) l (outs6 x)
  | [], _, h => by cases h
  | [_], _, h => by
    simp only [inn6] at h
    obtain ⟨y0, h0, h⟩ := Option.bind_eq_some_iff.1 h; cases h; exact .cons (V.asStr_same h0) (.nil)
  | _ :: _ :: _, _, h => by cases h
theorem inn7_ok : ∀ {l : List (PV TT)} {x : Arr4}, inn7 l = some x → Sames (E := E) l (outs7 x)
  | [], _, h => by cases h
  | [_], _, h => by cases h
  | [_, _], _, h => by cases h
  | [_, _, _], _, h => by cases h
  | [_, _, _, _], _, h => by
    simp only [inn7] at h
    obtain ⟨y0, h0, h⟩ := Option.bind_eq_some_iff.1 h; obtain ⟨y1, h1, h⟩ := Option.bind_eq_some_iff.1 h; obtain ⟨y2, h2, h⟩ := Option.bind_eq_some_iff.1 h; obtain ⟨y3, h3, h⟩ := Option.bind_eq_some_iff.1 h; cases h; exact .cons (V.asInt_same h0) (.cons (V.asInt_same h1) (.cons (V.asInt_same h2) (.cons (V.asInt_same h3) (.nil))))
  | _ :: _ :: _ :: _ :: _ :: _, _, h => by cases h
theorem inn8_ok : ∀ {l : List (PV TT)} {x : Code}, inn8 l = some x → Sames (E := E) l (outs8 x)
  | [], _, h => by cases h
  | [_], _, h => by cases h
  | [_, _], _, h => by
    simp only [inn8] at h
    obtain ⟨y0, h0, h⟩ := Option.bind_eq_some_iff.1 h; obtain ⟨y1, h1, h⟩ := Option.bind_eq_some_iff.1 h; cases h; exact .cons (V.asInt_same h0) (.cons (V.asInt_same h1) (.nil))
  | _ :: _ :: _ :: _, _, h => by cases h
theorem envOk : EnvOk E := by
  refine EnvOk.of ?_ ?_ ?_
  · intro i l x h
    match i, x, h with
    | 0, x, h => exact inn0_ok h
    | 1, x, h => exact inn1_ok h
    | 2, x, h => exact inn2_ok h
    | 3, x, h => exact inn3_ok h
    | 4, x, h => exact inn4_ok h
    | 5, x, h => exact inn5_ok h
    | 6, x, h => exact inn6_ok h
    | 7, x, h => exact inn7_ok h
    | 8, x, h => exact inn8_ok h
    | i + 9, x, h => cases h
  · intro i x
    match i, x with
    | 0, x => rfl
    | 1, x => rfl
    | 2, x => rfl
    | 3, x => rfl
    | 4, x => rfl
    | 5, x => rfl
    | 6, x => rfl
    | 7, x => rfl
    | 8, x => rfl
    | i + 9, x => rfl
  · intro i x p hf hp
    match i, x with
    | 0, x => exact absurd hf (by decide)
    | 1, x => exact absurd hf (by decide)
    | 2, x => exact flat_cons (.inr (.inl ⟨_, rfl⟩)) (flat_nil) p hp
    | 3, x => exact absurd hf (by decide)
    | 4, x => exact flat_cons (.inr (.inr ⟨_, rfl⟩)) (flat_cons (.inl ⟨_, _, rfl⟩) (flat_cons (.inl ⟨_, _, rfl⟩) (flat_cons (.inl ⟨_, _, rfl⟩) (flat_cons (.inl ⟨_, _, rfl⟩) (flat_nil))))) p hp
    | 5, x => exact flat_cons (.inl ⟨_, _, rfl⟩) (flat_cons (.inl ⟨_, _, rfl⟩) (flat_cons (.inl ⟨_, _, rfl⟩) (flat_cons (.inl ⟨_, _, rfl⟩) (flat_nil)))) p hp
    | 6, x => exact flat_cons (.inr (.inr ⟨_, rfl⟩)) (flat_nil) p hp
    | 7, x => exact flat_cons (.inl ⟨_, _, rfl⟩) (flat_cons (.inl ⟨_, _, rfl⟩) (flat_cons (.inl ⟨_, _, rfl⟩) (flat_cons (.inl ⟨_, _, rfl⟩) (flat_nil)))) p hp
    | 8, x => exact flat_cons (.inl ⟨_, _, rfl⟩) (flat_cons (.inl ⟨_, _, rfl⟩) (flat_nil)) p hp
    | i + 9, x => exact absurd hf (by simp [E, getL])

theorem elsOk : els.all (okEl G) = true := by kernel_rfl
theorem prgOk : PrgOk G := .of envOk els (fun _ => rfl) elsOk (by kernel_rfl)
noncomputable def bulk0 (x : Bitmap) : Nat := 1 + (1 + ((x.pix.length + 1) + 0))
noncomputable def bulk1 (x : List Int) : Nat := (x.length + 1) + 0
noncomputable def bulk2 (x : Bool) : Nat := 1 + 0
noncomputable def bulk3 (x : Segment) : Nat := 1 + (1 + (1 + ((x.refs.length + 1) + ((sumL bulk2 x.keep + 1) + ((x.data.length + 1) + 0)))))
noncomputable def bulk4 (x : Mode) : Nat := (x.kind.length + 1) + (1 + (1 + (1 + (1 + 0))))
noncomputable def bulk5 (x : Line) : Nat := 1 + (1 + (1 + (1 + 0)))
noncomputable def bulk6 (x : List Int) : Nat := (x.length + 1) + 0
noncomputable def bulk7 (x : Arr4) : Nat := 1 + (1 + (1 + (1 + 0)))
noncomputable def bulk8 (x : Code) : Nat := 1 + (1 + 0)
noncomputable def bulk : (i : Nat) → TT i → Nat
  | 0, x => bulk0 x
  | 1, x => bulk1 x
  | 2, x => bulk2 x
  | 3, x => bulk3 x
  | 4, x => bulk4 x
  | 5, x => bulk5 x
  | 6, x => bulk6 x
  | 7, x => bulk7 x
  | 8, x => bulk8 x
  | _, _ => 0
theorem bulk0_eq (x : Bitmap) : bulk0 x = bulkPs bulk (outs0 x) := by simp only [bulk0, outs0, bulkPs, bulkP] <;> rfl
theorem bulk1_eq (x : List Int) : bulk1 x = bulkPs bulk (outs1 x) := by simp only [bulk1, outs1, bulkPs, bulkP] <;> rfl
theorem bulk2_eq (x : Bool) : bulk2 x = bulkPs bulk (outs2 x) := by simp only [bulk2, outs2, bulkPs, bulkP] <;> rfl
theorem bulk3_eq (x : Segment) : bulk3 x = bulkPs bulk (outs3 x) := by have e4 := sumB_eq (b := bulk) (i := 2) (f := bulk2) (fun _ => rfl) x.keep; simp only [bulk3, outs3, bulkPs, bulkP, e4] <;> rfl
theorem bulk4_eq (x : Mode) : bulk4 x = bulkPs bulk (outs4 x) := by simp only [bulk4, outs4, bulkPs, bulkP] <;> rfl
theorem bulk5_eq (x : Line) : bulk5 x = bulkPs bulk (outs5 x) := by simp only [bulk5, outs5, bulkPs, bulkP] <;> rfl
theorem bulk6_eq (x : List Int) : bulk6 x = bulkPs bulk (outs6 x) := by simp only [bulk6, outs6, bulkPs, bulkP] <;> rfl
theorem bulk7_eq (x : Arr4) : bulk7 x = bulkPs bulk (outs7 x) := by simp only [bulk7, outs7, bulkPs, bulkP] <;> rfl
theorem bulk8_eq (x : Code) : bulk8 x = bulkPs bulk (outs8 x) := by simp only [bulk8, outs8, bulkPs, bulkP] <;> rfl
theorem rowsOk : RowsOk G bulk where
  bulk i x := by
    match i, x with
    | 0, x => exact bulk0_eq x
    | 1, x => exact bulk1_eq x
    | 2, x => exact bulk2_eq x
    | 3, x => exact bulk3_eq x
    | 4, x => exact bulk4_eq x
    | 5, x => exact bulk5_eq x
    | 6, x => exact bulk6_eq x
    | 7, x => exact bulk7_eq x
    | 8, x => exact bulk8_eq x
    | i + 9, x => rfl
  int e k h := ⟨(prgOk.int e k h).1, okEl_cells elsOk h⟩
  row e i h := by
    have hc := okEl_cells elsOk h
    have hm := lookN_mem h
    simp only [els, List.mem_cons, List.not_mem_nil, or_false, Prod.mk.injEq, reduceCtorEq, and_false, false_or, EK.row.injEq] at hm
    rcases hm with ⟨rfl, rfl⟩ | ⟨rfl, rfl⟩ | ⟨rfl, rfl⟩ | ⟨rfl, rfl⟩ | ⟨rfl, rfl⟩ | ⟨rfl, rfl⟩ | ⟨rfl, rfl⟩ | ⟨rfl, rfl⟩ | ⟨rfl, rfl⟩
    · refine ⟨8, [.bool], by kernel_rfl, hc, by decide, fun ps h => ?_⟩
      obtain ⟨y0, r0, rfl, h0⟩ := fits_bool h; cases fits_nil h0; exact ⟨y0, rfl⟩
    · refine ⟨8, [.str], by kernel_rfl, hc, by decide, fun ps h => ?_⟩
      obtain ⟨y0, r0, rfl, h0⟩ := fits_str h; cases fits_nil h0; exact ⟨y0, rfl⟩
    · refine ⟨8, [.ints .u8], by kernel_rfl, hc, by decide, fun ps h => ?_⟩
      obtain ⟨y0, r0, rfl, h0⟩ := fits_ints h; cases fits_nil h0; exact ⟨y0, rfl⟩
    · refine ⟨8, [.int .i64, .int .i64, .ints .u8], by kernel_rfl, hc, by decide, fun ps h => ?_⟩
      obtain ⟨y0, r0, rfl, h0⟩ := fits_int h; obtain ⟨y1, r1, rfl, h1⟩ := fits_int h0; obtain ⟨y2, r2, rfl, h2⟩ := fits_ints h1; cases fits_nil h2; exact ⟨⟨y0, y1, y2⟩, rfl⟩
    · refine ⟨8, [.int .i64, .int .i64, .int .i64, .ints .i64, .rows 2, .ints .u8], by kernel_rfl, hc, by decide, fun ps h => ?_⟩
      obtain ⟨y0, r0, rfl, h0⟩ := fits_int h; obtain ⟨y1, r1, rfl, h1⟩ := fits_int h0; obtain ⟨y2, r2, rfl, h2⟩ := fits_int h1; obtain ⟨y3, r3, rfl, h3⟩ := fits_ints h2; obtain ⟨y4, r4, rfl, h4⟩ := fits_rows h3; obtain ⟨y5, r5, rfl, h5⟩ := fits_ints h4; cases fits_nil h5; exact ⟨⟨y0, y1, y2, y3, y4, y5⟩, rfl⟩
    · refine ⟨8, [.str, .int .i64, .int .i64, .int .i64, .int .i64], by kernel_rfl, hc, by decide, fun ps h => ?_⟩
      obtain ⟨y0, r0, rfl, h0⟩ := fits_str h; obtain ⟨y1, r1, rfl, h1⟩ := fits_int h0; obtain ⟨y2, r2, rfl, h2⟩ := fits_int h1; obtain ⟨y3, r3, rfl, h3⟩ := fits_int h2; obtain ⟨y4, r4, rfl, h4⟩ := fits_int h3; cases fits_nil h4; exact ⟨⟨y0, y1, y2, y3, y4⟩, rfl⟩
    · refine ⟨8, [.int .i64, .int .i64, .int .i64, .int .i64], by kernel_rfl, hc, by decide, fun ps h => ?_⟩
      obtain ⟨y0, r0, rfl, h0⟩ := fits_int h; obtain ⟨y1, r1, rfl, h1⟩ := fits_int h0; obtain ⟨y2, r2, rfl, h2⟩ := fits_int h1; obtain ⟨y3, r3, rfl, h3⟩ := fits_int h2; cases fits_nil h3; exact ⟨⟨y0, y1, y2, y3⟩, rfl⟩
    · refine ⟨8, [.int .i64, .int .i64, .int .i64, .int .i64], by kernel_rfl, hc, by decide, fun ps h => ?_⟩
      obtain ⟨y0, r0, rfl, h0⟩ := fits_int h; obtain ⟨y1, r1, rfl, h1⟩ := fits_int h0; obtain ⟨y2, r2, rfl, h2⟩ := fits_int h1; obtain ⟨y3, r3, rfl, h3⟩ := fits_int h2; cases fits_nil h3; exact ⟨⟨y0, y1, y2, y3⟩, rfl⟩
    · refine ⟨8, [.int .i64, .int .i64], by kernel_rfl, hc, by decide, fun ps h => ?_⟩
      obtain ⟨y0, r0, rfl, h0⟩ := fits_int h; obtain ⟨y1, r1, rfl, h1⟩ := fits_int h0; cases fits_nil h1; exact ⟨⟨y0, y1⟩, rfl⟩

noncomputable def law13_PageOrders (l1 : List Bitmap) (op2 : Int) (order3 : List Int) : Option Bool := call G 0 (l1, op2, order3)
noncomputable def law13_many (l1 : List Bitmap) : Option Int := call G 1 l1
noncomputable def law13_Sane : Option Bool := call G 2 ()
noncomputable def ref05_Valid (b1 b2 : Int) (b3 : List Int) : Option Bool := call G 3 (b1, b2, b3)
noncomputable def ref05_Sides (w1 h2 : Int) : Option Bool := call G 4 (w1, h2)
noncomputable def page_Info (w1 h2 pixel3 op4 : Int) : Option ((List Int) × Int) := call G 5 (w1, h2, pixel3, op4)
noncomputable def page_Runs (g1 g2 g3 g4 g5 : Int) (g6 two7 : Bool) (b8 b9 : Int) (b10 : List Int) : Option ((List Int) × Int) := call G 6 (g1, g2, g3, g4, g5, g6, two7, b8, b9, b10)
noncomputable def law13_segment (number1 kind2 of3 : Int) (refs4 data5 : List Int) : Option (Int × Int × Int × (List Int) × (List Bool) × (List Int)) := call G 7 (number1, kind2, of3, refs4, data5)
noncomputable def page_Decode (l1 : List Segment) (page2 : Int) : Option (Int × Int × (List Int) × Int × Int) := call G 8 (l1, page2)
noncomputable def ref05_Same (a1 a2 : Int) (a3 : List Int) (b4 b5 : Int) (b6 : List Int) : Option Bool := call G 9 (a1, a2, a3, b4, b5, b6)
noncomputable def ref01_SameBytes (a1 b2 : List Int) : Option Bool := call G 10 (a1, b2)
noncomputable def bitmap_New (w1 h2 pixel3 : Int) : Option (Int × Int × Int × (List Int)) := call G 11 (w1, h2, pixel3)
noncomputable def page_writer_size (l1 b2 : List Int) : Option (List Int) := call G 12 (l1, b2)
noncomputable def page_writer_byte (l1 b2 : List Int) : Option (List Int) := call G 13 (l1, b2)
noncomputable def page_rightBegin (g1 g2 g3 g4 g5 : Int) (g6 : Bool) : Option Bool := call G 14 (g1, g2, g3, g4, g5, g6)
noncomputable def runs_One (b1 b2 : Int) (b3 : List Int) : Option ((List Int) × Int) := call G 15 (b1, b2, b3)
noncomputable def runs_Two (b1 b2 : Int) (b3 : List Int) : Option ((List Int) × Int) := call G 16 (b1, b2, b3)
noncomputable def page_writer_begin (g1 g2 g3 g4 g5 : Int) (g6 : Bool) (b7 : List Int) : Option (List Int) := call G 17 (g1, g2, g3, g4, g5, g6, b7)
noncomputable def page_flag (is1 : Bool) (n2 : Int) : Option Int := call G 18 (is1, n2)
noncomputable def page_writer_with (code1 : List Int) (err2 : Int) (b3 : List Int) : Option ((List Int) × Int) := call G 19 (code1, err2, b3)
noncomputable def law13_keep (n1 : Int) : Option (List Bool) := call G 20 n1
noncomputable def segment_InOrder (l1 : List Segment) : Option (Int × Int) := call G 21 l1
noncomputable def slices_ContainsFunc_api_Segment_api_Segment (s1 : List Segment) (b2 : Int) : Option (Bool × Int) := call G 22 (s1, b2)
noncomputable def page_height (l1 : List Segment) (page2 : Int) : Option Int := call G 23 (l1, page2)
noncomputable def page_builder_add (s1 s2 s3 : Int) (s4 : List Int) (s5 : List Bool) (s6 : List Int) (b7 b8 b9 : Int) (b10 : List Int) (b11 b12 : Bool) (b13 b14 : Int) : Option (Int × Int × Int × Int × (List Int) × Bool × Bool × Int × Int) := call G 24 (s1, s2, s3, s4, s5, s6, b7, b8, b9, b10, b11, b12, b13, b14)
noncomputable def bitmap_blank (w1 h2 : Int) : Option (Int × Int × Int × (List Int)) := call G 25 (w1, h2)
noncomputable def bits_Size (n1 : Int) : Option ((List Int) × Int) := call G 26 n1
noncomputable def page_near (n1 : Int) : Option Bool := call G 27 n1
noncomputable def bitmap_Valid (b1 b2 : Int) (b3 : List Int) : Option Bool := call G 28 (b1, b2, b3)
noncomputable def runs_lines (b1 b2 : Int) (b3 : List Int) : Option (List (List Int)) := call G 29 (b1, b2, b3)
noncomputable def runs_row (pixels1 : List Int) : Option (List Int) := call G 30 pixels1
noncomputable def runs_runBits (n1 colour2 : Int) : Option (List Int) := call G 31 (n1, colour2)
noncomputable def bits_Pack (bits1 : List Int) : Option ((List Int) × Int) := call G 32 bits1
noncomputable def runs_modes (above1 pixels2 : List Int) : Option (List Mode) := call G 33 (above1, pixels2)
noncomputable def runs_mode_bits (m1 : List Int) (m2 m3 m4 m5 : Int) : Option (List Int) := call G 34 (m1, m2, m3, m4, m5)
noncomputable def page_writer_signed (l1 b2 : List Int) : Option (List Int) := call G 35 (l1, b2)
noncomputable def segment_order (l1 : List Segment) : Option Int := call G 36 l1
noncomputable def slices_IndexFunc_api_Segment_api_Segment (s1 : List Segment) (b2 : Int) : Option (Int × Int) := call G 37 (s1, b2)
noncomputable def bits_GetSize (b1 : List Int) (at2 : Int) : Option (Int × Int × Int) := call G 38 (b1, at2)
noncomputable def page_builder_order (s1 s2 s3 : Int) (s4 : List Int) (s5 : List Bool) (s6 : List Int) (b7 b8 b9 : Int) (b10 : List Int) (b11 b12 : Bool) (b13 b14 : Int) : Option (Int × Int × Int × Int × (List Int) × Bool × Bool × Int × Int) := call G 39 (s1, s2, s3, s4, s5, s6, b7, b8, b9, b10, b11, b12, b13, b14)
noncomputable def page_builder_runs (s1 s2 s3 : Int) (s4 : List Int) (s5 : List Bool) (s6 : List Int) (b7 b8 b9 : Int) (b10 : List Int) (b11 b12 : Bool) (b13 b14 : Int) (b15 : List Int) (b16 b17 : Int) : Option (Int × Int × Int × (List Int) × Bool × Bool × Int × Int × (List Int) × Int × Int) := call G 40 (s1, s2, s3, s4, s5, s6, b7, b8, b9, b10, b11, b12, b13, b14, b15, b16, b17)
noncomputable def page_builder_info (b1 b2 b3 : Int) (b4 : List Int) (b5 b6 : Bool) (b7 b8 : Int) (b9 : List Int) (b10 b11 : Int) : Option (Int × Int × Int × (List Int) × Bool × Bool × Int × Int × (List Int) × Int × Int) := call G 41 (b1, b2, b3, b4, b5, b6, b7, b8, b9, b10, b11)
noncomputable def page_cursor_check (ok1 : Bool) (err2 : Int) (b3 : List Int) (b4 b5 : Int) : Option (Bool × (List Int) × Int × Int) := call G 42 (ok1, err2, b3, b4, b5)
noncomputable def page_builder_stripes (b1 b2 b3 : Int) (b4 : List Int) (b5 b6 : Bool) (b7 b8 : Int) (b9 : List Int) (b10 b11 : Int) : Option (Int × Int × Int × (List Int) × Bool × Bool × Int × Int × (List Int) × Int × Int) := call G 43 (b1, b2, b3, b4, b5, b6, b7, b8, b9, b10, b11)
noncomputable def page_builder_none (s1 s2 s3 : Int) (s4 : List Int) (s5 : List Bool) (s6 : List Int) (b7 b8 b9 : Int) (b10 : List Int) (b11 b12 : Bool) (b13 b14 : Int) (b15 : List Int) (b16 b17 : Int) : Option (Int × Int × Int × (List Int) × Bool × Bool × Int × Int × (List Int) × Int × Int) := call G 44 (s1, s2, s3, s4, s5, s6, b7, b8, b9, b10, b11, b12, b13, b14, b15, b16, b17)
noncomputable def bitmap_fits (w1 h2 : Int) : Option Bool := call G 45 (w1, h2)
noncomputable def prefix_Standard (k1 : Int) : Option ((List Line) × Int) := call G 46 k1
noncomputable def prefix_Bits (a1 : List Line) (n2 : Bool) (n3 : Int) : Option (Int × (List Int)) := call G 47 (a1, n2, n3)
noncomputable def runs_remains (colour1 : Int) : Option (List Line) := call G 48 colour1
noncomputable def runs_marks (above1 : List Int) (a2 colour3 : Int) : Option (Int × Int) := call G 49 (above1, a2, colour3)
noncomputable def runs_change (pixels1 : List Int) (a2 colour3 : Int) : Option Int := call G 50 (pixels1, a2, colour3)
noncomputable def runs_list (s1 : List Int) : Option (List Int) := call G 51 s1
noncomputable def runs_uprights : Option (List (List Int)) := call G 52 ()
noncomputable def bits_Signed (n1 : Int) : Option ((List Int) × Int) := call G 53 n1
noncomputable def segment_store_takes (s1 s2 s3 : Int) (s4 : List Int) (s5 : List Bool) (s6 : List Int) (last7 : Int) : Option Bool := call G 54 (s1, s2, s3, s4, s5, s6, last7)
noncomputable def page_Decode_1 (s1 s2 s3 : Int) (s4 : List Int) (s5 : List Bool) (s6 : List Int) (b7 : Int) : Option (Bool × Int) := call G 55 (s1, s2, s3, s4, s5, s6, b7)
noncomputable def page_cursor_begin (b1 : List Int) (b2 b3 : Int) : Option (Int × Int × Int × Int × Int × Bool × (List Int) × Int × Int) := call G 56 (b1, b2, b3)
noncomputable def page_cursor_byte (most1 : Int) (b2 : List Int) (b3 b4 : Int) : Option (Int × (List Int) × Int × Int) := call G 57 (most1, b2, b3, b4)
noncomputable def page_cursor_rest (b1 : List Int) (b2 b3 : Int) : Option ((List Int) × (List Int) × Int × Int) := call G 58 (b1, b2, b3)
noncomputable def runs_GetTwo (b1 : List Int) (w2 h3 : Int) : Option (Int × Int × (List Int) × Int × Int) := call G 59 (b1, w2, h3)
noncomputable def page_builder_draw (s1 s2 s3 : Int) (s4 : List Int) (s5 : List Bool) (s6 : List Int) (g7 g8 g9 g10 g11 : Int) (g12 : Bool) (b13 b14 : Int) (b15 : List Int) (b16 b17 b18 : Int) (b19 : List Int) (b20 b21 : Bool) (b22 b23 : Int) : Option (Int × Int × Int × (List Int) × Bool × Bool × Int × Int) := call G 60 (s1, s2, s3, s4, s5, s6, g7, g8, g9, g10, g11, g12, b13, b14, b15, b16, b17, b18, b19, b20, b21, b22, b23)
noncomputable def runs_GetOne (b1 : List Int) (w2 h3 : Int) : Option (Int × Int × (List Int) × Int × Int) := call G 61 (b1, w2, h3)
noncomputable def page_cursor_size (b1 : List Int) (b2 b3 : Int) : Option (Int × (List Int) × Int × Int) := call G 62 (b1, b2, b3)
noncomputable def page_cursor_sides (w1 h2 : Int) (b3 : List Int) (b4 b5 : Int) : Option ((List Int) × Int × Int) := call G 63 (w1, h2, b3, b4, b5)
noncomputable def page_cursor_end (b1 : List Int) (b2 b3 : Int) : Option ((List Int) × Int × Int) := call G 64 (b1, b2, b3)
noncomputable def page_cursor_fail (err1 : Int) (b2 : List Int) (b3 b4 : Int) : Option ((List Int) × Int × Int) := call G 65 (err1, b2, b3, b4)
noncomputable def prefix_lines (l1 : List Arr4) : Option (List Line) := call G 66 l1
noncomputable def prefix_Valid (a1 : List Line) : Option Bool := call G 67 a1
noncomputable def prefix_codes (a1 : List Line) : Option (List Code) := call G 68 a1
noncomputable def prefix_put (a1 : List Line) (l2 : List Code) (n3 : Bool) (n4 : Int) : Option (Int × (List Int)) := call G 69 (a1, l2, n3, n4)
noncomputable def segment_Valid (s1 s2 s3 : Int) (s4 : List Int) (s5 : List Bool) (s6 : List Int) : Option Bool := call G 70 (s1, s2, s3, s4, s5, s6)
noncomputable def page_cursor_signed (b1 : List Int) (b2 b3 : Int) : Option (Int × (List Int) × Int × Int) := call G 71 (b1, b2, b3)
noncomputable def runs_read (b1 : List Int) (w2 h3 : Int) : Option (Int × Int × (List Int) × Int × Int) := call G 72 (b1, w2, h3)
noncomputable def bitmap_Draw (b1 b2 : Int) (b3 : List Int) (s4 s5 : Int) (s6 : List Int) (x7 y8 op9 : Int) : Option (Int × Int × (List Int) × Int) := call G 73 (b1, b2, b3, s4, s5, s6, x7, y8, op9)
noncomputable def runs_read_2 (b1 : List Int) (w2 h3 : Int) : Option (Int × Int × (List Int) × Int × Int) := call G 74 (b1, w2, h3)
noncomputable def prefix_isLine (x1 x2 x3 x4 : Int) : Option Bool := call G 75 (x1, x2, x3, x4)
noncomputable def prefix_weight (a1 : List Line) : Option (Int × Int × Int) := call G 76 a1
noncomputable def prefix_line (a1 : List Line) (n2 : Bool) (n3 : Int) : Option (Int × Int) := call G 77 (a1, n2, n3)
noncomputable def prefix_digits (x1 n2 : Int) : Option (List Int) := call G 78 (x1, n2)
noncomputable def bits_GetSigned (b1 : List Int) (at2 : Int) : Option (Int × Int × Int) := call G 79 (b1, at2)
noncomputable def runs_newReader (b1 : List Int) : Option ((List Line) × (List (List Int)) × (List Line) × (List (List Int)) × (List Line) × (List (List Int)) × (List (List Int)) × (List Int) × Int) := call G 80 b1
noncomputable def runs_reader_two (w1 : Int) (above2 : List Int) (b3 : List Line) (b4 : List (List Int)) (b5 : List Line) (b6 : List (List Int)) (b7 : List Line) (b8 b9 : List (List Int)) (b10 : List Int) (b11 : Int) : Option ((List Int) × Int × (List Line) × (List (List Int)) × (List Line) × (List (List Int)) × (List Line) × (List (List Int)) × (List (List Int)) × (List Int) × Int) := call G 81 (w1, above2, b3, b4, b5, b6, b7, b8, b9, b10, b11)
noncomputable def bits_Reader_At (b1 : List Int) (b2 : Int) : Option (Int × (List Int) × Int) := call G 82 (b1, b2)
noncomputable def bitmap_isShift (x1 y2 : Int) : Option Bool := call G 83 (x1, y2)
noncomputable def bitmap_clone (b1 b2 : Int) (b3 : List Int) : Option (Int × Int × (List Int)) := call G 84 (b1, b2, b3)
noncomputable def bitmap_at (b1 b2 : Int) (b3 : List Int) (x4 y5 : Int) : Option Int := call G 85 (b1, b2, b3, x4, y5)
noncomputable def bitmap_combine (a1 b2 op3 : Int) : Option Int := call G 86 (a1, b2, op3)
noncomputable def runs_reader_one (w1 : Int) (x2 : List Int) (b3 : List Line) (b4 : List (List Int)) (b5 : List Line) (b6 : List (List Int)) (b7 : List Line) (b8 b9 : List (List Int)) (b10 : List Int) (b11 : Int) : Option ((List Int) × Int × (List Line) × (List (List Int)) × (List Line) × (List (List Int)) × (List Line) × (List (List Int)) × (List (List Int)) × (List Int) × Int) := call G 87 (w1, x2, b3, b4, b5, b6, b7, b8, b9, b10, b11)
noncomputable def prefix_offset (x1 x2 x3 x4 : Int) (n5 : Bool) (n6 : Int) : Option (Int × Bool) := call G 88 (x1, x2, x3, x4, n5, n6)
noncomputable def bits_NewReader (b1 : List Int) : Option ((List Int) × Int) := call G 89 b1
noncomputable def runs_newTable (l1 : List Line) : Option ((List Line) × (List (List Int))) := call G 90 l1
noncomputable def runs_reader_mode (b1 : List Line) (b2 : List (List Int)) (b3 : List Line) (b4 : List (List Int)) (b5 : List Line) (b6 b7 : List (List Int)) (b8 : List Int) (b9 b10 b11 b12 : Int) (b13 b14 : List Int) : Option (Int × (List Line) × (List (List Int)) × (List Line) × (List (List Int)) × (List Line) × (List (List Int)) × (List (List Int)) × (List Int) × Int × Int × Int × Int × (List Int) × (List Int)) := call G 91 (b1, b2, b3, b4, b5, b6, b7, b8, b9, b10, b11, b12, b13, b14)
noncomputable def bits_Reader_none (b1 : List Int) (b2 : Int) : Option (Bool × (List Int) × Int) := call G 92 (b1, b2)
noncomputable def bytes_Clone (b1 : List Int) : Option (List Int) := call G 93 b1
noncomputable def runs_reader_run (colour1 : Int) (b2 : List Line) (b3 : List (List Int)) (b4 : List Line) (b5 : List (List Int)) (b6 : List Line) (b7 b8 : List (List Int)) (b9 : List Int) (b10 : Int) : Option (Int × Int × (List Line) × (List (List Int)) × (List Line) × (List (List Int)) × (List Line) × (List (List Int)) × (List (List Int)) × (List Int) × Int) := call G 94 (colour1, b2, b3, b4, b5, b6, b7, b8, b9, b10)
noncomputable def slices_Repeat_byte_byte (x1 : List Int) (count2 : Int) : Option (List Int) := call G 95 (x1, count2)
noncomputable def prefix_Codes (a1 : List Line) : Option ((List (List Int)) × Int) := call G 96 a1
noncomputable def runs_reader_word (l1 : List (List Int)) (b2 : List Line) (b3 : List (List Int)) (b4 : List Line) (b5 : List (List Int)) (b6 : List Line) (b7 b8 : List (List Int)) (b9 : List Int) (b10 : Int) : Option (Int × Int × (List Line) × (List (List Int)) × (List Line) × (List (List Int)) × (List Line) × (List (List Int)) × (List (List Int)) × (List Int) × Int) := call G 97 (l1, b2, b3, b4, b5, b6, b7, b8, b9, b10)
noncomputable def runs_reader_flat (b1 : List Line) (b2 : List (List Int)) (b3 : List Line) (b4 : List (List Int)) (b5 : List Line) (b6 b7 : List (List Int)) (b8 : List Int) (b9 b10 b11 b12 : Int) (b13 b14 : List Int) : Option (Int × (List Line) × (List (List Int)) × (List Line) × (List (List Int)) × (List Line) × (List (List Int)) × (List (List Int)) × (List Int) × Int × Int × Int × Int × (List Int) × (List Int)) := call G 98 (b1, b2, b3, b4, b5, b6, b7, b8, b9, b10, b11, b12, b13, b14)
noncomputable def runs_state_fill (x1 colour2 b3 b4 b5 : Int) (b6 b7 : List Int) : Option (Int × Int × Int × (List Int) × (List Int)) := call G 99 (x1, colour2, b3, b4, b5, b6, b7)
noncomputable def runs_reader_number (a1 : List Line) (a2 : List (List Int)) (b3 : List Line) (b4 : List (List Int)) (b5 : List Line) (b6 : List (List Int)) (b7 : List Line) (b8 b9 : List (List Int)) (b10 : List Int) (b11 : Int) : Option (Int × Int × (List Line) × (List (List Int)) × (List Line) × (List (List Int)) × (List Line) × (List (List Int)) × (List (List Int)) × (List Int) × Int) := call G 100 (a1, a2, b3, b4, b5, b6, b7, b8, b9, b10, b11)
noncomputable def math_bits_Mul (x1 y2 : Int) : Option (Int × Int) := call G 101 (x1, y2)
noncomputable def slices_Index_string_string (s1 : List (List Int)) (v2 : List Int) : Option Int := call G 102 (s1, v2)
noncomputable def slices_ContainsFunc_string_string (s1 : List (List Int)) (b2 : List Int) : Option (Bool × (List Int)) := call G 103 (s1, b2)
noncomputable def bits_Reader_Bits (n1 : Int) (b2 : List Int) (b3 : Int) : Option (Int × Int × (List Int) × Int) := call G 104 (n1, b2, b3)
noncomputable def math_bits_Mul64 (x1 y2 : Int) : Option (Int × Int) := call G 105 (x1, y2)
noncomputable def slices_IndexFunc_string_string (s1 : List (List Int)) (b2 : List Int) : Option (Int × (List Int)) := call G 106 (s1, b2)
noncomputable def bits_Reader_Left (b1 : List Int) (b2 : Int) : Option (Int × (List Int) × Int) := call G 107 (b1, b2)
noncomputable def runs_reader_word_1 (w1 b2 : List Int) : Option (Bool × (List Int)) := call G 108 (w1, b2)
noncomputable def strings_HasPrefix (s1 prefix2 : List Int) : Option Bool := call G 109 (s1, prefix2)
noncomputable def internal_stringslite_HasPrefix (s1 prefix2 : List Int) : Option Bool := call G 110 (s1, prefix2)
end
end Go.Proofs.YtgffdmgidnnedaaGreat.P
