/- The program as the value reading has it: kinds of elements, functions, and that all fits. Printed by wip/tool/vsym.py. -/
import Derived.KernelRfl
import Derived.Test.YtkccnhkhjncpkaaGreatProg
import Derived.Test.YtkccnhkhjncpkaaGreatRow
namespace Go.Proofs.YtkccnhkhjncpkaaGreat.P
open Go Go.Proofs.YtkccnhkhjncpkaaGreat.V
set_option linter.unusedVariables false
set_option linter.unusedSimpArgs false
set_option maxRecDepth 100000
noncomputable section
structure Mode where
  kind : List Int
  d : Int
  runs_0 : Int
  runs_1 : Int
  colour : Int

structure Arr2 where
  a0 : Int
  a1 : Int

structure Pixel where
  dX : Int
  dY : Int

structure Line where
  length : Int
  bits : Int
  low : Int
  kind : Int

structure Mode' where
  name : List Int
  bits : List Int
  a : Int
  colour : Int

structure Arr4 where
  a0 : Int
  a1 : Int
  a2 : Int
  a3 : Int

structure Code where
  bits : Int
  length : Int

noncomputable def TT : Nat → Type
  | 0 => List Int
  | 1 => Mode
  | 2 => Arr2
  | 3 => Pixel
  | 4 => Line
  | 5 => List Int
  | 6 => Mode'
  | 7 => Arr4
  | 8 => Code
  | _ => Unit
noncomputable def outs0 (x : List Int) : List (PV TT) := [.ints .u8 x]
noncomputable def outs1 (x : Mode) : List (PV TT) := [.str x.kind, .int .i64 x.d, .int .i64 x.runs_0, .int .i64 x.runs_1, .int .i64 x.colour]
noncomputable def outs2 (x : Arr2) : List (PV TT) := [.int .i64 x.a0, .int .i64 x.a1]
noncomputable def outs3 (x : Pixel) : List (PV TT) := [.int .i64 x.dX, .int .i64 x.dY]
noncomputable def outs4 (x : Line) : List (PV TT) := [.int .i64 x.length, .int .i64 x.bits, .int .i64 x.low, .int .i64 x.kind]
noncomputable def outs5 (x : List Int) : List (PV TT) := [.str x]
noncomputable def outs6 (x : Mode') : List (PV TT) := [.str x.name, .ints .u8 x.bits, .int .i64 x.a, .int .i64 x.colour]
noncomputable def outs7 (x : Arr4) : List (PV TT) := [.int .i64 x.a0, .int .i64 x.a1, .int .i64 x.a2, .int .i64 x.a3]
noncomputable def outs8 (x : Code) : List (PV TT) := [.int .i64 x.bits, .int .i64 x.length]
noncomputable def outs : (i : Nat) → TT i → List (PV TT)
  | 0, x => outs0 x
  | 1, x => outs1 x
  | 2, x => outs2 x
  | 3, x => outs3 x
  | 4, x => outs4 x
  | 5, x => outs5 x
  | 6, x => outs6 x
  | 7, x => outs7 x
  | 8, x => outs8 x
  | _, _ => []
noncomputable def inn0 : List (PV TT) → Option (List Int)
  | [c0] => (V.asInts .u8 c0).bind fun y0 => some y0
  | _ => none
noncomputable def inn1 : List (PV TT) → Option Mode
  | [c0, c1, c2, c3, c4] => (V.asStr c0).bind fun y0 => (V.asInt .i64 c1).bind fun y1 => (V.asInt .i64 c2).bind fun y2 => (V.asInt .i64 c3).bind fun y3 => (V.asInt .i64 c4).bind fun y4 => some (Mode.mk y0 y1 y2 y3 y4)
  | _ => none
noncomputable def inn2 : List (PV TT) → Option Arr2
  | [c0, c1] => (V.asInt .i64 c0).bind fun y0 => (V.asInt .i64 c1).bind fun y1 => some (Arr2.mk y0 y1)
  | _ => none
noncomputable def inn3 : List (PV TT) → Option Pixel
  | [c0, c1] => (V.asInt .i64 c0).bind fun y0 => (V.asInt .i64 c1).bind fun y1 => some (Pixel.mk y0 y1)
  | _ => none
noncomputable def inn4 : List (PV TT) → Option Line
  | [c0, c1, c2, c3] => (V.asInt .i64 c0).bind fun y0 => (V.asInt .i64 c1).bind fun y1 => (V.asInt .i64 c2).bind fun y2 => (V.asInt .i64 c3).bind fun y3 => some (Line.mk y0 y1 y2 y3)
  | _ => none
noncomputable def inn5 : List (PV TT) → Option (List Int)
  | [c0] => (V.asStr c0).bind fun y0 => some y0
  | _ => none
noncomputable def inn6 : List (PV TT) → Option Mode'
  | [c0, c1, c2, c3] => (V.asStr c0).bind fun y0 => (V.asInts .u8 c1).bind fun y1 => (V.asInt .i64 c2).bind fun y2 => (V.asInt .i64 c3).bind fun y3 => some (Mode'.mk y0 y1 y2 y3)
  | _ => none
noncomputable def inn7 : List (PV TT) → Option Arr4
  | [c0, c1, c2, c3] => (V.asInt .i64 c0).bind fun y0 => (V.asInt .i64 c1).bind fun y1 => (V.asInt .i64 c2).bind fun y2 => (V.asInt .i64 c3).bind fun y3 => some (Arr4.mk y0 y1 y2 y3)
  | _ => none
noncomputable def inn8 : List (PV TT) → Option Code
  | [c0, c1] => (V.asInt .i64 c0).bind fun y0 => (V.asInt .i64 c1).bind fun y1 => some (Code.mk y0 y1)
  | _ => none
noncomputable def inn : (i : Nat) → List (PV TT) → Option (TT i)
  | 0, l => inn0 l
  | 1, l => inn1 l
  | 2, l => inn2 l
  | 3, l => inn3 l
  | 4, l => inn4 l
  | 5, l => inn5 l
  | 6, l => inn6 l
  | 7, l => inn7 l
  | 8, l => inn8 l
  | _, _ => none
noncomputable def E : Env := { T := TT, outs := outs, inn := inn, sz := fun i => (getL [1, 5, 2, 2, 4, 1, 4, 4, 2] i).getD 0, flat := fun i => (getL [false, true, true, true, true, true, false, true, true] i).getD false }
noncomputable def els : List (TypeId × EK) := [(3, .int .i64), (5, .int .u8), (9, .row 5), (24, .row 2), (35, .row 0), (139, .row 1), (253, .row 6), (297, .row 3), (299, .row 7), (305, .row 4), (323, .row 8)]
noncomputable def insts : List FInst := [
  { fid := 4, sig := { ps := [.agg [.int .i64, .int .i64, .int .i64, .int .i64, .int .i64, .bool, .int .i64, .int .i64, .int .i64, .bool, .int .i64, .bool, .int .i64, .int .i64, .int .i64, .bool, .int .i64, .int .i64, .int .i64, .ints .u8, .int .i64, .int .i64, .ints .u8]], pb := [], rs := [.bool], rb := [] }, ann := { calls := [(35, 1), (40, 2), (47, 3), (56, 4), (63, 5), (70, 6), (79, 4), (87, 7), (95, 8), (104, 4), (107, 1)], loops := [], joins := [(4, [(.normal, { tm := [(34, .bool)], bs := [.same, .same, .same, .same, .same, .same] })]), (12, [(.normal, { tm := [(58, .bool)], bs := [.same, .same, .same, .same, .same, .same] })]), (20, [(.normal, { tm := [(81, .bool)], bs := [.same, .same, .same, .same, .same, .same] })])], cuts := [], slots := [(3, 0), (4, 1), (6, 2), (7, 3), (8, 4)], pads := [(1, 5)] } },
  { fid := 7, sig := { ps := [], pb := [], rs := [.bool], rb := [] }, ann := { calls := [(4, 9), (12, 4)], loops := [], joins := [], cuts := [] } },
  { fid := 13, sig := { ps := [.agg [.int .i64, .int .i64, .int .i64, .int .i64, .int .i64, .bool], .agg [.int .i64, .int .i64, .int .i64, .bool, .int .i64], .agg [.int .i64, .int .i64, .ints .u8]], pb := [], rs := [.ints .u8, .int .i64], rb := [] }, ann := { calls := [(12, 10), (31, 11), (38, 12), (44, 13), (59, 14), (63, 15)], loops := [], joins := [(2, [(.normal, { tm := [(27, .bool)], bs := [.same, .same, .same] })])], cuts := [] } },
  { fid := 14, sig := { ps := [.agg [.int .i64, .int .i64, .int .i64, .int .i64, .int .i64, .bool], .agg [.int .i64, .int .i64, .int .i64, .bool, .int .i64], .agg [.int .i64, .int .i64, .ints .u8]], pb := [], rs := [.ints .u8, .int .i64], rb := [] }, ann := { calls := [(13, 16), (18, 17), (28, 18), (36, 19), (41, 20), (44, 21)], loops := [], joins := [], cuts := [], slots := [(39, 0)], pads := [(7, 1)] } },
  { fid := 10, sig := { ps := [.ints .u8, .ints .u8], pb := [], rs := [.bool], rb := [] }, ann := { calls := [], loops := [], joins := [], cuts := [] } },
  { fid := 15, sig := { ps := [.agg [.int .i64, .int .i64, .int .i64, .int .i64, .int .i64, .bool], .bool, .agg [.int .i64, .int .i64, .ints .u8]], pb := [], rs := [.ints .u8, .int .i64], rb := [] }, ann := { calls := [(12, 10), (30, 22), (36, 23), (43, 12), (46, 13), (48, 14), (52, 15)], loops := [], joins := [(2, [(.normal, { tm := [(27, .bool)], bs := [.same, .same] })]), (67, [(.normal, { tm := [(8, .ints .u8), (9, .int .i64)], bs := [.same, .same] })])], cuts := [] } },
  { fid := 16, sig := { ps := [.agg [.int .i64, .int .i64, .int .i64, .int .i64, .int .i64, .bool], .bool, .agg [.int .i64, .int .i64, .ints .u8]], pb := [], rs := [.ints .u8, .int .i64], rb := [] }, ann := { calls := [(12, 16), (16, 24), (22, 25), (29, 19), (31, 18), (36, 21)], loops := [], joins := [(39, [(.normal, { tm := [(8, .ints .u8), (9, .int .i64)], bs := [.same, .same] })])], cuts := [] } },
  { fid := 17, sig := { ps := [.agg [.int .i64, .int .i64, .int .i64, .int .i64, .int .i64, .bool], .agg [.int .i64, .int .i64, .int .i64, .bool, .int .i64], .agg [.int .i64, .int .i64, .ints .u8], .agg [.int .i64, .int .i64, .ints .u8]], pb := [], rs := [.ints .u8, .int .i64], rb := [] }, ann := { calls := [(14, 10), (34, 26), (41, 12), (47, 13), (54, 14), (61, 27), (65, 15)], loops := [], joins := [(2, [(.normal, { tm := [(29, .bool)], bs := [.same, .same, .same, .same] })])], cuts := [] } },
  { fid := 18, sig := { ps := [.agg [.int .i64, .int .i64, .int .i64, .int .i64, .int .i64, .bool], .agg [.int .i64, .int .i64, .int .i64, .bool, .int .i64], .agg [.int .i64, .int .i64, .ints .u8], .agg [.int .i64, .int .i64, .ints .u8]], pb := [], rs := [.ints .u8, .int .i64], rb := [] }, ann := { calls := [(15, 16), (21, 28), (31, 18), (39, 19), (45, 29), (48, 29), (51, 21)], loops := [], joins := [], cuts := [], slots := [(42, 0)], pads := [(7, 1)] } },
  { fid := 23, sig := { ps := [.int .i64, .int .i64, .int .i64, .int .i64], pb := [], rs := [.ints .u8, .int .i64], rb := [] }, ann := { calls := [(17, 30), (49, 31), (56, 14)], loops := [], joins := [(4, [(.normal, { tm := [(41, .bool)], bs := [.same] })])], cuts := [] } },
  { fid := 34, sig := { ps := [.agg [.int .i64, .int .i64, .int .i64, .int .i64, .int .i64, .bool]], pb := [], rs := [.bool], rb := [] }, ann := { calls := [(10, 30), (18, 32), (23, 32)], loops := [], joins := [], cuts := [] } },
  { fid := 45, sig := { ps := [.agg [.int .i64, .int .i64, .int .i64, .bool, .int .i64], .agg [.int .i64, .int .i64, .ints .u8]], pb := [], rs := [.ints .u8, .int .i64], rb := [] }, ann := { calls := [(12, 33), (16, 34), (22, 35), (24, 36), (29, 37), (36, 38), (38, 39)], loops := [], joins := [], cuts := [], slots := [(6, 0)], pads := [(5, 1)] } },
  { fid := 37, sig := { ps := [.ptr 0 0, .agg [.int .i64, .int .i64, .int .i64, .int .i64, .int .i64, .bool]], pb := [.box [.arr 1], .ints .u8 false], rs := [], rb := [.box [.arr 1], .ints .u8 false] }, ann := { calls := [(10, 31), (17, 27), (23, 13), (26, 14)], loops := [], joins := [], cuts := [] } },
  { fid := 38, sig := { ps := [.bool, .int .i64], pb := [], rs := [.int .i64], rb := [] }, ann := { calls := [], loops := [], joins := [], cuts := [] } },
  { fid := 26, sig := { ps := [.ptr 0 0, .ints .i64], pb := [.box [.arr 1], .ints .u8 false], rs := [], rb := [.box [.arr 1], .ints .u8 false] }, ann := { calls := [], loops := [(1, { tm := [(8, .int .i64)], bs := [.box [.arr 1], .ints .u8 false] }, [(.exit 0, { tm := [], bs := [.box [.arr 1], .ints .u8 false] })])], joins := [], cuts := [] } },
  { fid := 28, sig := { ps := [.ptr 0 0, .ints .u8, .int .i64], pb := [.box [.arr 1], .ints .u8 false], rs := [.ints .u8, .int .i64], rb := [.gone, .gone] }, ann := { calls := [], loops := [], joins := [], cuts := [] } },
  { fid := 46, sig := { ps := [.agg [.int .i64, .int .i64, .int .i64, .int .i64, .int .i64, .bool], .agg [.int .i64, .int .i64, .ints .u8]], pb := [], rs := [.bool], rb := [] }, ann := { calls := [(6, 40)], loops := [], joins := [], cuts := [] } },
  { fid := 47, sig := { ps := [.agg [.int .i64, .int .i64, .int .i64, .bool, .int .i64], .agg [.int .i64, .int .i64, .ints .u8]], pb := [], rs := [.ints .u8, .int .i64], rb := [] }, ann := { calls := [(14, 41), (24, 42), (29, 43), (36, 44), (41, 45)], loops := [], joins := [], cuts := [] } },
  { fid := 42, sig := { ps := [.bool], pb := [], rs := [.int .i64], rb := [] }, ann := { calls := [], loops := [], joins := [], cuts := [] } },
  { fid := 43, sig := { ps := [.agg [.int .i64, .int .i64, .int .i64, .int .i64, .int .i64, .bool]], pb := [], rs := [.ints .u8], rb := [] }, ann := { calls := [(5, 46), (8, 46), (11, 29), (14, 29), (19, 18), (25, 21)], loops := [], joins := [], cuts := [] } },
  { fid := 48, sig := { ps := [.agg [.int .i64, .int .i64, .int .i64, .bool, .int .i64]], pb := [], rs := [.ints .u8], rb := [] }, ann := { calls := [], loops := [], joins := [], cuts := [] } },
  { fid := 32, sig := { ps := [.rows 0], pb := [], rs := [.ints .u8], rb := [] }, ann := { calls := [], loops := [(3, { tm := [(3, .arr 0), (4, .int .i64)], bs := [.ints .u8 false] }, [(.exit 0, { tm := [(3, .arr 0)], bs := [.ints .u8 false] })])], joins := [], cuts := [] } },
  { fid := 49, sig := { ps := [.agg [.int .i64, .int .i64, .ints .u8]], pb := [], rs := [.ints .u8, .int .i64], rb := [] }, ann := { calls := [(10, 34), (13, 47), (20, 48), (31, 49), (36, 50)], loops := [(5, { tm := [(4, .arr 1), (15, .int .i64)], bs := [.same, .ints .u8 false] }, [(.exit 0, { tm := [(4, .arr 1)], bs := [.same, .ints .u8 false] })]), (8, { tm := [(4, .arr 1), (22, .int .i64)], bs := [.same, .ints .u8 false] }, [(.exit 2, { tm := [(4, .arr 1)], bs := [.same, .ints .u8 false] })])], joins := [], cuts := [] } },
  { fid := 50, sig := { ps := [.agg [.int .i64, .int .i64, .ints .u8]], pb := [], rs := [.ints .u8, .int .i64], rb := [] }, ann := { calls := [(11, 34), (17, 47), (25, 51), (33, 52), (39, 50)], loops := [(6, { tm := [(4, .arr 2), (5, .ints .u8), (19, .int .i64)], bs := [.same, .gone, .ints .u8 false] }, [(.exit 0, { tm := [(4, .arr 2)], bs := [.same, .gone, .ints .u8 false] })]), (9, { tm := [(4, .arr 2), (27, .int .i64)], bs := [.same, .gone, .ints .u8 false] }, [(.exit 2, { tm := [(4, .arr 2)], bs := [.same, .gone, .ints .u8 false] })])], joins := [], cuts := [] } },
  { fid := 51, sig := { ps := [.agg [.int .i64, .int .i64, .ints .u8]], pb := [], rs := [.ints .u8, .int .i64], rb := [] }, ann := { calls := [(5, 53), (8, 54), (9, 55)], loops := [], joins := [], cuts := [] } },
  { fid := 52, sig := { ps := [.agg [.int .i64, .int .i64, .ints .u8]], pb := [], rs := [.ints .u8, .int .i64], rb := [] }, ann := { calls := [(5, 53), (8, 56), (9, 55)], loops := [], joins := [], cuts := [] } },
  { fid := 53, sig := { ps := [.agg [.int .i64, .int .i64, .int .i64, .bool, .int .i64], .agg [.int .i64, .int .i64, .ints .u8], .agg [.int .i64, .int .i64, .ints .u8]], pb := [], rs := [.ints .u8, .int .i64], rb := [] }, ann := { calls := [(12, 57), (16, 58), (17, 37), (24, 59), (29, 39)], loops := [], joins := [], cuts := [] } },
  { fid := 39, sig := { ps := [.ptr 0 0, .ints .i64], pb := [.box [.arr 1], .ints .u8 false], rs := [], rb := [.box [.arr 1], .ints .u8 false] }, ann := { calls := [(16, 60)], loops := [(1, { tm := [(10, .int .i64)], bs := [.box [.arr 1], .ints .u8 false] }, [(.exit 0, { tm := [], bs := [.box [.arr 1], .ints .u8 false] })])], joins := [], cuts := [] } },
  { fid := 54, sig := { ps := [.agg [.int .i64, .int .i64, .int .i64, .bool, .int .i64], .agg [.int .i64, .int .i64, .ints .u8], .agg [.int .i64, .int .i64, .ints .u8]], pb := [], rs := [.ints .u8, .int .i64], rb := [] }, ann := { calls := [(11, 61), (14, 53), (18, 53), (23, 62), (24, 43), (31, 63), (33, 45)], loops := [], joins := [(6, [(.normal, { tm := [(20, .bool)], bs := [.same, .same, .same] })])], cuts := [] } },
  { fid := 44, sig := { ps := [.int .i64], pb := [], rs := [.ints .u8], rb := [] }, ann := { calls := [(7, 64)], loops := [], joins := [], cuts := [] } },
  { fid := 35, sig := { ps := [.int .i64, .int .i64, .int .i64], pb := [], rs := [.agg [.int .i64, .int .i64, .ints .u8], .int .i64], rb := [] }, ann := { calls := [(29, 65)], loops := [(5, { tm := [(35, .int .i64)], bs := [.same, .ints .u8 true, .same] }, [(.exit 0, { tm := [], bs := [.same, .ints .u8 true, .same] })])], joins := [(2, [(.normal, { tm := [(24, .bool)], bs := [.same] })])], cuts := [] } },
  { fid := 27, sig := { ps := [.ptr 0 0, .ints .i64], pb := [.box [.arr 1], .ints .u8 false], rs := [], rb := [.box [.arr 1], .ints .u8 false] }, ann := { calls := [(16, 66)], loops := [(1, { tm := [(10, .int .i64)], bs := [.box [.arr 1], .ints .u8 false] }, [(.exit 0, { tm := [], bs := [.box [.arr 1], .ints .u8 false] })])], joins := [], cuts := [] } },
  { fid := 71, sig := { ps := [.int .i64], pb := [], rs := [.bool], rb := [] }, ann := { calls := [], loops := [], joins := [], cuts := [] } },
  { fid := 97, sig := { ps := [.agg [.int .i64, .int .i64, .int .i64, .bool, .int .i64]], pb := [], rs := [.bool], rb := [] }, ann := { calls := [], loops := [], joins := [], cuts := [] } },
  { fid := 98, sig := { ps := [.agg [.int .i64, .int .i64, .ints .u8]], pb := [], rs := [.bool], rb := [] }, ann := { calls := [(9, 67)], loops := [(4, { tm := [(25, .int .i64)], bs := [.same] }, [(.exit 0, { tm := [], bs := [.same] }), (.ret, { tm := [(2, .bool)], bs := [.same] })])], joins := [(2, [(.normal, { tm := [(21, .bool)], bs := [.same] })])], cuts := [] } },
  { fid := 99, sig := { ps := [.agg [.int .i64, .int .i64, .int .i64, .bool, .int .i64]], pb := [], rs := [.int .i64], rb := [] }, ann := { calls := [(5, 68)], loops := [], joins := [], cuts := [] } },
  { fid := 78, sig := { ps := [.int .i64, .int .i64], pb := [], rs := [.agg [.int .i64, .ints .i64], .int .i64], rb := [] }, ann := { calls := [], loops := [], joins := [(2, [(.normal, { tm := [(19, .bool)], bs := [.same] })])], cuts := [] } },
  { fid := 79, sig := { ps := [.agg [.int .i64, .ints .i64]], pb := [], rs := [.ptr 0 0, .lit .i64 0], rb := [.box [.int .i64, .arr 1, .lit .i64 2048, .lit .i64 1792, .lit .i64 1568, .lit .i64 1372, .lit .i64 1201, .lit .i64 1051, .lit .i64 920, .lit .i64 805, .lit .i64 705, .lit .i64 617, .lit .i64 540, .lit .i64 473, .lit .i64 414, .lit .i64 363, .lit .i64 318, .lit .i64 279, .lit .i64 245, .lit .i64 215, .lit .i64 189, .lit .i64 166, .lit .i64 146, .lit .i64 128, .lit .i64 112, .lit .i64 98, .lit .i64 86, .lit .i64 76, .lit .i64 67, .lit .i64 59, .lit .i64 52, .lit .i64 46, .lit .i64 41, .lit .i64 36, .int .u64, .int .u64, .arr 2, .litb true], .ints .i64 false, .ints .u8 false], more := [([.nil, .lit .i64 10], [])] }, ann := { calls := [(5, 69), (8, 70)], loops := [], joins := [], cuts := [] } },
  { fid := 100, sig := { ps := [.ptr 0 0, .int .i64, .agg [.int .i64, .int .i64, .int .i64, .bool, .int .i64], .agg [.int .i64, .int .i64, .ints .u8], .agg [.int .i64, .int .i64, .ints .u8]], pb := [.box [.int .i64, .arr 1, .lit .i64 2048, .lit .i64 1792, .lit .i64 1568, .lit .i64 1372, .lit .i64 1201, .lit .i64 1051, .lit .i64 920, .lit .i64 805, .lit .i64 705, .lit .i64 617, .lit .i64 540, .lit .i64 473, .lit .i64 414, .lit .i64 363, .lit .i64 318, .lit .i64 279, .lit .i64 245, .lit .i64 215, .lit .i64 189, .lit .i64 166, .lit .i64 146, .lit .i64 128, .lit .i64 112, .lit .i64 98, .lit .i64 86, .lit .i64 76, .lit .i64 67, .lit .i64 59, .lit .i64 52, .lit .i64 46, .lit .i64 41, .lit .i64 36, .int .u64, .int .u64, .arr 2, .litb true], .ints .i64 false, .ints .u8 false], rs := [], rb := [.box [.int .i64, .arr 1, .lit .i64 2048, .lit .i64 1792, .lit .i64 1568, .lit .i64 1372, .lit .i64 1201, .lit .i64 1051, .lit .i64 920, .lit .i64 805, .lit .i64 705, .lit .i64 617, .lit .i64 540, .lit .i64 473, .lit .i64 414, .lit .i64 363, .lit .i64 318, .lit .i64 279, .lit .i64 245, .lit .i64 215, .lit .i64 189, .lit .i64 166, .lit .i64 146, .lit .i64 128, .lit .i64 112, .lit .i64 98, .lit .i64 86, .lit .i64 76, .lit .i64 67, .lit .i64 59, .lit .i64 52, .lit .i64 46, .lit .i64 41, .lit .i64 36, .int .u64, .int .u64, .arr 2, .litb true], .ints .i64 true, .ints .u8 false] }, ann := { calls := [(20, 71), (36, 72), (49, 73), (53, 35), (56, 74), (72, 75), (79, 76), (87, 74)], loops := [(4, { tm := [(28, .int .i64)], bs := [.box [.int .i64, .arr 1, .lit .i64 2048, .lit .i64 1792, .lit .i64 1568, .lit .i64 1372, .lit .i64 1201, .lit .i64 1051, .lit .i64 920, .lit .i64 805, .lit .i64 705, .lit .i64 617, .lit .i64 540, .lit .i64 473, .lit .i64 414, .lit .i64 363, .lit .i64 318, .lit .i64 279, .lit .i64 245, .lit .i64 215, .lit .i64 189, .lit .i64 166, .lit .i64 146, .lit .i64 128, .lit .i64 112, .lit .i64 98, .lit .i64 86, .lit .i64 76, .lit .i64 67, .lit .i64 59, .lit .i64 52, .lit .i64 46, .lit .i64 41, .lit .i64 36, .int .u64, .int .u64, .arr 2, .litb true], .ints .i64 true, .ints .u8 false, .same, .same, .same, .box [.int .i64, .int .i64, .ints .u8, .rows 2]] }, [(.exit 0, { tm := [], bs := [.box [.int .i64, .arr 1, .lit .i64 2048, .lit .i64 1792, .lit .i64 1568, .lit .i64 1372, .lit .i64 1201, .lit .i64 1051, .lit .i64 920, .lit .i64 805, .lit .i64 705, .lit .i64 617, .lit .i64 540, .lit .i64 473, .lit .i64 414, .lit .i64 363, .lit .i64 318, .lit .i64 279, .lit .i64 245, .lit .i64 215, .lit .i64 189, .lit .i64 166, .lit .i64 146, .lit .i64 128, .lit .i64 112, .lit .i64 98, .lit .i64 86, .lit .i64 76, .lit .i64 67, .lit .i64 59, .lit .i64 52, .lit .i64 46, .lit .i64 41, .lit .i64 36, .int .u64, .int .u64, .arr 2, .litb true], .ints .i64 true, .ints .u8 false, .same, .same, .same, .box [.int .i64, .int .i64, .ints .u8, .rows 2]] })]), (13, { tm := [(61, .int .i64)], bs := [.box [.int .i64, .arr 1, .lit .i64 2048, .lit .i64 1792, .lit .i64 1568, .lit .i64 1372, .lit .i64 1201, .lit .i64 1051, .lit .i64 920, .lit .i64 805, .lit .i64 705, .lit .i64 617, .lit .i64 540, .lit .i64 473, .lit .i64 414, .lit .i64 363, .lit .i64 318, .lit .i64 279, .lit .i64 245, .lit .i64 215, .lit .i64 189, .lit .i64 166, .lit .i64 146, .lit .i64 128, .lit .i64 112, .lit .i64 98, .lit .i64 86, .lit .i64 76, .lit .i64 67, .lit .i64 59, .lit .i64 52, .lit .i64 46, .lit .i64 41, .lit .i64 36, .int .u64, .int .u64, .arr 2, .litb true], .ints .i64 true, .ints .u8 false, .same, .same, .same, .box [.int .i64, .int .i64, .ints .u8, .rows 2]] }, [(.exit 2, { tm := [], bs := [.box [.int .i64, .arr 1, .lit .i64 2048, .lit .i64 1792, .lit .i64 1568, .lit .i64 1372, .lit .i64 1201, .lit .i64 1051, .lit .i64 920, .lit .i64 805, .lit .i64 705, .lit .i64 617, .lit .i64 540, .lit .i64 473, .lit .i64 414, .lit .i64 363, .lit .i64 318, .lit .i64 279, .lit .i64 245, .lit .i64 215, .lit .i64 189, .lit .i64 166, .lit .i64 146, .lit .i64 128, .lit .i64 112, .lit .i64 98, .lit .i64 86, .lit .i64 76, .lit .i64 67, .lit .i64 59, .lit .i64 52, .lit .i64 46, .lit .i64 41, .lit .i64 36, .int .u64, .int .u64, .arr 2, .litb true], .ints .i64 true, .ints .u8 false, .same, .same, .same, .box [.int .i64, .int .i64, .ints .u8, .rows 2]] })])], joins := [(65, [(.normal, { tm := [], bs := [.box [.int .i64, .arr 1, .lit .i64 2048, .lit .i64 1792, .lit .i64 1568, .lit .i64 1372, .lit .i64 1201, .lit .i64 1051, .lit .i64 920, .lit .i64 805, .lit .i64 705, .lit .i64 617, .lit .i64 540, .lit .i64 473, .lit .i64 414, .lit .i64 363, .lit .i64 318, .lit .i64 279, .lit .i64 245, .lit .i64 215, .lit .i64 189, .lit .i64 166, .lit .i64 146, .lit .i64 128, .lit .i64 112, .lit .i64 98, .lit .i64 86, .lit .i64 76, .lit .i64 67, .lit .i64 59, .lit .i64 52, .lit .i64 46, .lit .i64 41, .lit .i64 36, .int .u64, .int .u64, .arr 2, .litb true], .ints .i64 true, .ints .u8 false, .same, .same, .same, .box [.int .i64, .int .i64, .ints .u8, .rows 2]] }), (.exit 1, { tm := [], bs := [.box [.int .i64, .arr 1, .lit .i64 2048, .lit .i64 1792, .lit .i64 1568, .lit .i64 1372, .lit .i64 1201, .lit .i64 1051, .lit .i64 920, .lit .i64 805, .lit .i64 705, .lit .i64 617, .lit .i64 540, .lit .i64 473, .lit .i64 414, .lit .i64 363, .lit .i64 318, .lit .i64 279, .lit .i64 245, .lit .i64 215, .lit .i64 189, .lit .i64 166, .lit .i64 146, .lit .i64 128, .lit .i64 112, .lit .i64 98, .lit .i64 86, .lit .i64 76, .lit .i64 67, .lit .i64 59, .lit .i64 52, .lit .i64 46, .lit .i64 41, .lit .i64 36, .int .u64, .int .u64, .arr 2, .litb true], .ints .i64 true, .ints .u8 false, .same, .same, .same, .box [.int .i64, .int .i64, .ints .u8, .rows 2]] })]), (99, [(.normal, { tm := [(12, .int .i64)], bs := [.same, .same, .same, .same, .same, .same, .same] })])], cuts := [] } },
  { fid := 83, sig := { ps := [.ptr 0 0], pb := [.box [.int .i64, .arr 1, .lit .i64 2048, .lit .i64 1792, .lit .i64 1568, .lit .i64 1372, .lit .i64 1201, .lit .i64 1051, .lit .i64 920, .lit .i64 805, .lit .i64 705, .lit .i64 617, .lit .i64 540, .lit .i64 473, .lit .i64 414, .lit .i64 363, .lit .i64 318, .lit .i64 279, .lit .i64 245, .lit .i64 215, .lit .i64 189, .lit .i64 166, .lit .i64 146, .lit .i64 128, .lit .i64 112, .lit .i64 98, .lit .i64 86, .lit .i64 76, .lit .i64 67, .lit .i64 59, .lit .i64 52, .lit .i64 46, .lit .i64 41, .lit .i64 36, .int .u64, .int .u64, .arr 2, .litb true], .ints .i64 false, .ints .u8 false], rs := [.ints .u8], rb := [.box [.int .i64, .arr 1, .lit .i64 2048, .lit .i64 1792, .lit .i64 1568, .lit .i64 1372, .lit .i64 1201, .lit .i64 1051, .lit .i64 920, .lit .i64 805, .lit .i64 705, .lit .i64 617, .lit .i64 540, .lit .i64 473, .lit .i64 414, .lit .i64 363, .lit .i64 318, .lit .i64 279, .lit .i64 245, .lit .i64 215, .lit .i64 189, .lit .i64 166, .lit .i64 146, .lit .i64 128, .lit .i64 112, .lit .i64 98, .lit .i64 86, .lit .i64 76, .lit .i64 67, .lit .i64 59, .lit .i64 52, .lit .i64 46, .lit .i64 41, .lit .i64 36, .int .u64, .int .u64, .arr 2, .litb true], .ints .i64 true, .ints .u8 true] }, ann := { calls := [(8, 77)], loops := [(5, { tm := [(3, .arr 3), (15, .int .i64)], bs := [.same, .same, .same, .ints .u8 true] }, [(.exit 0, { tm := [(3, .arr 3)], bs := [.same, .same, .same, .ints .u8 true] }), (.ret, { tm := [(2, .arr 3)], bs := [.same, .same, .same, .ints .u8 false] })]), (10, { tm := [(3, .arr 3), (38, .int .i64)], bs := [.same, .same, .same, .ints .u8 false] }, [(.exit 2, { tm := [(3, .arr 3)], bs := [.same, .same, .same, .ints .u8 false] })])], joins := [], cuts := [] } },
  { fid := 40, sig := { ps := [.agg [.int .i64, .int .i64, .int .i64, .int .i64, .int .i64, .bool]], pb := [], rs := [.bool], rb := [] }, ann := { calls := [(7, 78)], loops := [], joins := [(2, [(.normal, { tm := [(18, .bool)], bs := [.same] })])], cuts := [] } },
  { fid := 88, sig := { ps := [.agg [.int .i64, .int .i64, .int .i64, .bool, .int .i64]], pb := [], rs := [.int .i64, .int .i64], rb := [] }, ann := { calls := [(5, 79), (8, 80)], loops := [], joins := [], cuts := [] } },
  { fid := 89, sig := { ps := [.int .i64, .int .i64], pb := [], rs := [.agg [.int .i64, .ints .i64], .int .i64], rb := [] }, ann := { calls := [], loops := [], joins := [(2, [(.normal, { tm := [(19, .bool)], bs := [.same] })])], cuts := [] } },
  { fid := 90, sig := { ps := [.agg [.int .i64, .ints .i64]], pb := [], rs := [.ptr 0 0, .lit .i64 0], rb := [.box [.int .i64, .arr 1, .int .u64, .int .u64, .arr 2], .ints .i64 false, .ints .u8 false], more := [([.nil, .lit .i64 10], [])] }, ann := { calls := [(5, 81), (8, 82), (9, 83)], loops := [], joins := [], cuts := [] } },
  { fid := 93, sig := { ps := [.ptr 0 0, .int .i64, .agg [.int .i64, .int .i64, .int .i64, .bool, .int .i64], .agg [.int .i64, .int .i64, .ints .u8], .agg [.int .i64, .int .i64, .ints .u8]], pb := [.box [.int .i64, .arr 1, .int .u64, .int .u64, .arr 2], .ints .i64 false, .ints .u8 false], rs := [.int .i64], rb := [.box [.int .i64, .arr 1, .int .u64, .int .u64, .arr 2], .ints .i64 false, .ints .u8 false] }, ann := { calls := [(20, 79), (23, 84), (27, 84), (59, 85), (65, 85), (71, 86), (79, 87), (85, 41), (99, 88), (121, 89), (133, 85), (141, 90), (146, 85), (147, 89)], loops := [(6, { tm := [(11, .int .i64)], bs := [.same, .same, .same, .same, .same, .same] }, [(.exit 0, { tm := [], bs := [.same, .same, .same, .same, .same, .same] }), (.ret, { tm := [(10, .int .i64)], bs := [.same, .same, .same, .same, .same, .same] })]), (9, { tm := [(12, .int .i64)], bs := [.same, .same, .same, .same, .same, .same] }, [(.exit 2, { tm := [], bs := [.same, .same, .same, .same, .same, .same] }), (.ret, { tm := [(10, .int .i64)], bs := [.same, .same, .same, .same, .same, .same] })]), (18, { tm := [(16, .int .i64)], bs := [.box [.int .i64, .arr 1, .int .u64, .int .u64, .arr 2], .ints .i64 true, .ints .u8 false, .same, .same, .same] }, [(.exit 4, { tm := [], bs := [.box [.int .i64, .arr 1, .int .u64, .int .u64, .arr 2], .ints .i64 true, .ints .u8 false, .same, .same, .same] })]), (27, { tm := [(18, .int .i64)], bs := [.box [.int .i64, .arr 1, .int .u64, .int .u64, .arr 2], .ints .i64 true, .ints .u8 false, .same, .same, .same] }, [(.exit 6, { tm := [], bs := [.box [.int .i64, .arr 1, .int .u64, .int .u64, .arr 2], .ints .i64 true, .ints .u8 false, .same, .same, .same] })])], joins := [(6, [(.normal, { tm := [(29, .bool)], bs := [.same, .same, .same, .same, .same, .same] })]), (12, [(.normal, { tm := [(47, .bool)], bs := [.same, .same, .same, .same, .same, .same] })]), (191, [(.normal, { tm := [], bs := [.box [.int .i64, .arr 1, .int .u64, .int .u64, .arr 2], .ints .i64 true, .ints .u8 false, .same, .same, .same] }), (.exit 5, { tm := [], bs := [.box [.int .i64, .arr 1, .int .u64, .int .u64, .arr 2], .ints .i64 true, .ints .u8 false, .same, .same, .same] })]), (229, [(.normal, { tm := [(17, .int .i64)], bs := [.same, .same, .same, .same, .same, .same] })])], cuts := [] } },
  { fid := 95, sig := { ps := [.ptr 0 0], pb := [.box [.int .i64, .arr 1, .int .u64, .int .u64, .arr 2], .ints .i64 false, .ints .u8 false], rs := [.ints .u8], rb := [.box [.int .i64, .arr 1, .int .u64, .int .u64, .arr 2], .ints .i64 true, .ints .u8 true] }, ann := { calls := [(15, 91)], loops := [], joins := [], cuts := [] } },
  { fid := 33, sig := { ps := [.int .i64], pb := [], rs := [.ints .u8], rb := [] }, ann := { calls := [(7, 92)], loops := [], joins := [], cuts := [] } },
  { fid := 101, sig := { ps := [.agg [.int .i64, .int .i64, .ints .u8]], pb := [], rs := [.rows 0], rb := [] }, ann := { calls := [], loops := [(3, { tm := [(3, .arr 1), (7, .int .i64)], bs := [.same, .rows 0 false] }, [(.exit 0, { tm := [(3, .arr 1)], bs := [.same, .rows 0 false] })])], joins := [], cuts := [] } },
  { fid := 102, sig := { ps := [.ints .u8], pb := [], rs := [.ints .i64], rb := [] }, ann := { calls := [], loops := [(4, { tm := [(3, .arr 0), (4, .int .u8), (5, .int .i64)], bs := [.ints .i64 false] }, [(.exit 0, { tm := [(3, .arr 0)], bs := [.ints .i64 false] })]), (6, { tm := [(5, .int .i64)], bs := [.same] }, [(.exit 2, { tm := [(5, .int .i64)], bs := [.same] })])], joins := [], cuts := [] } },
  { fid := 103, sig := { ps := [.int .i64, .int .i64], pb := [], rs := [.ints .u8], rb := [] }, ann := { calls := [(12, 93), (20, 94), (25, 95), (29, 94)], loops := [], joins := [], cuts := [] } },
  { fid := 104, sig := { ps := [.ints .u8], pb := [], rs := [.ints .u8, .int .i64], rb := [] }, ann := { calls := [], loops := [(3, { tm := [(14, .int .i64)], bs := [.ints .u8 true] }, [(.exit 0, { tm := [], bs := [.ints .u8 true] }), (.ret, { tm := [(2, .ints .u8), (3, .int .i64)], bs := [.ints .u8 true] })])], joins := [], cuts := [] } },
  { fid := 105, sig := { ps := [.ints .u8, .ints .u8], pb := [], rs := [.rows 1], rb := [] }, ann := { calls := [(26, 96), (33, 97), (37, 97)], loops := [(4, { tm := [(5, .arr 0), (6, .int .i64), (7, .int .u8)], bs := [.rows 1 false] }, [(.exit 0, { tm := [(5, .arr 0)], bs := [.rows 1 false] })])], joins := [(8, [(.normal, { tm := [(21, .bool)], bs := [.same] })]), (26, [(.normal, { tm := [(62, .bool)], bs := [.same] })])], cuts := [] } },
  { fid := 106, sig := { ps := [.agg [.str, .int .i64, .int .i64, .int .i64, .int .i64]], pb := [], rs := [.ints .u8], rb := [] }, ann := { calls := [(7, 98), (10, 99), (16, 98), (17, 98), (23, 49), (31, 49)], loops := [], joins := [], cuts := [] } },
  { fid := 107, sig := { ps := [.agg [.int .i64, .int .i64, .ints .u8]], pb := [], rs := [.bool], rb := [] }, ann := { calls := [(7, 100), (22, 101)], loops := [], joins := [], cuts := [] } },
  { fid := 109, sig := { ps := [.agg [.int .i64, .int .i64, .ints .u8]], pb := [], rs := [.ints .u8], rb := [] }, ann := { calls := [(15, 102), (16, 103), (27, 104)], loops := [(3, { tm := [(3, .arr 1), (4, .int .i64)], bs := [.same, .ints .u8 false] }, [(.exit 0, { tm := [(3, .arr 1)], bs := [.same, .ints .u8 false] })]), (6, { tm := [(3, .arr 1), (18, .int .i64)], bs := [.same, .ints .u8 false] }, [(.exit 2, { tm := [(3, .arr 1)], bs := [.same, .ints .u8 false] })])], joins := [], cuts := [] } },
  { fid := 108, sig := { ps := [.ints .u8], pb := [], rs := [.ints .u8], rb := [] }, ann := { calls := [], loops := [(3, { tm := [(13, .int .i64)], bs := [.ints .u8 true] }, [(.exit 0, { tm := [], bs := [.ints .u8 true] })])], joins := [], cuts := [] } },
  { fid := 110, sig := { ps := [.agg [.int .i64, .int .i64, .ints .u8]], pb := [], rs := [.ints .u8], rb := [] }, ann := { calls := [(16, 102), (19, 102), (20, 105)], loops := [(3, { tm := [(3, .arr 1), (4, .int .i64)], bs := [.same, .ints .u8 false] }, [(.exit 0, { tm := [(3, .arr 1)], bs := [.same, .ints .u8 false] })]), (6, { tm := [(3, .arr 1), (22, .int .i64)], bs := [.same, .ints .u8 false] }, [(.exit 2, { tm := [(3, .arr 1)], bs := [.same, .ints .u8 false] })])], joins := [], cuts := [] } },
  { fid := 111, sig := { ps := [.agg [.int .i64, .int .i64, .int .i64, .bool, .int .i64]], pb := [], rs := [.bool], rb := [] }, ann := { calls := [], loops := [], joins := [], cuts := [] } },
  { fid := 112, sig := { ps := [.agg [.int .i64, .int .i64, .int .i64, .bool, .int .i64]], pb := [], rs := [.agg [.int .i64, .ints .i64]], rb := [] }, ann := { calls := [(10, 106), (12, 36)], loops := [], joins := [], cuts := [], slots := [(3, 0)], pads := [(1, 1)] } },
  { fid := 113, sig := { ps := [.ptr 0 0, .int .i64, .agg [.int .i64, .int .i64, .int .i64, .bool, .int .i64], .agg [.int .i64, .int .i64, .ints .u8], .agg [.int .i64, .int .i64, .ints .u8]], pb := [.box [.int .i64, .arr 1, .lit .i64 2048, .lit .i64 1792, .lit .i64 1568, .lit .i64 1372, .lit .i64 1201, .lit .i64 1051, .lit .i64 920, .lit .i64 805, .lit .i64 705, .lit .i64 617, .lit .i64 540, .lit .i64 473, .lit .i64 414, .lit .i64 363, .lit .i64 318, .lit .i64 279, .lit .i64 245, .lit .i64 215, .lit .i64 189, .lit .i64 166, .lit .i64 146, .lit .i64 128, .lit .i64 112, .lit .i64 98, .lit .i64 86, .lit .i64 76, .lit .i64 67, .lit .i64 59, .lit .i64 52, .lit .i64 46, .lit .i64 41, .lit .i64 36, .int .u64, .int .u64, .arr 2, .litb true], .ints .i64 false, .ints .u8 false], rs := [.int .i64], rb := [.box [.int .i64, .arr 1, .lit .i64 2048, .lit .i64 1792, .lit .i64 1568, .lit .i64 1372, .lit .i64 1201, .lit .i64 1051, .lit .i64 920, .lit .i64 805, .lit .i64 705, .lit .i64 617, .lit .i64 540, .lit .i64 473, .lit .i64 414, .lit .i64 363, .lit .i64 318, .lit .i64 279, .lit .i64 245, .lit .i64 215, .lit .i64 189, .lit .i64 166, .lit .i64 146, .lit .i64 128, .lit .i64 112, .lit .i64 98, .lit .i64 86, .lit .i64 76, .lit .i64 67, .lit .i64 59, .lit .i64 52, .lit .i64 46, .lit .i64 41, .lit .i64 36, .int .u64, .int .u64, .arr 2, .litb true], .ints .i64 false, .ints .u8 false] }, ann := { calls := [(20, 74), (24, 57), (28, 34), (32, 34), (37, 107), (40, 108), (50, 109), (61, 110), (70, 106), (73, 74), (83, 111), (97, 112), (105, 113), (107, 74)], loops := [(11, { tm := [(53, .int .i64)], bs := [.box [.int .i64, .arr 1, .lit .i64 2048, .lit .i64 1792, .lit .i64 1568, .lit .i64 1372, .lit .i64 1201, .lit .i64 1051, .lit .i64 920, .lit .i64 805, .lit .i64 705, .lit .i64 617, .lit .i64 540, .lit .i64 473, .lit .i64 414, .lit .i64 363, .lit .i64 318, .lit .i64 279, .lit .i64 245, .lit .i64 215, .lit .i64 189, .lit .i64 166, .lit .i64 146, .lit .i64 128, .lit .i64 112, .lit .i64 98, .lit .i64 86, .lit .i64 76, .lit .i64 67, .lit .i64 59, .lit .i64 52, .lit .i64 46, .lit .i64 41, .lit .i64 36, .int .u64, .int .u64, .arr 2, .litb true], .ints .i64 true, .ints .u8 false, .same, .same, .same, .box [.int .i64, .int .i64, .int .i64, .bool, .int .i64, .int .i64, .int .i64, .ints .u8, .int .i64, .int .i64, .ints .u8]] }, [(.exit 1, { tm := [], bs := [.box [.int .i64, .arr 1, .lit .i64 2048, .lit .i64 1792, .lit .i64 1568, .lit .i64 1372, .lit .i64 1201, .lit .i64 1051, .lit .i64 920, .lit .i64 805, .lit .i64 705, .lit .i64 617, .lit .i64 540, .lit .i64 473, .lit .i64 414, .lit .i64 363, .lit .i64 318, .lit .i64 279, .lit .i64 245, .lit .i64 215, .lit .i64 189, .lit .i64 166, .lit .i64 146, .lit .i64 128, .lit .i64 112, .lit .i64 98, .lit .i64 86, .lit .i64 76, .lit .i64 67, .lit .i64 59, .lit .i64 52, .lit .i64 46, .lit .i64 41, .lit .i64 36, .int .u64, .int .u64, .arr 2, .litb true], .ints .i64 true, .ints .u8 false, .same, .same, .same, .box [.int .i64, .int .i64, .int .i64, .bool, .int .i64, .int .i64, .int .i64, .ints .u8, .int .i64, .int .i64, .ints .u8]] })]), (20, { tm := [(76, .int .i64)], bs := [.box [.int .i64, .arr 1, .lit .i64 2048, .lit .i64 1792, .lit .i64 1568, .lit .i64 1372, .lit .i64 1201, .lit .i64 1051, .lit .i64 920, .lit .i64 805, .lit .i64 705, .lit .i64 617, .lit .i64 540, .lit .i64 473, .lit .i64 414, .lit .i64 363, .lit .i64 318, .lit .i64 279, .lit .i64 245, .lit .i64 215, .lit .i64 189, .lit .i64 166, .lit .i64 146, .lit .i64 128, .lit .i64 112, .lit .i64 98, .lit .i64 86, .lit .i64 76, .lit .i64 67, .lit .i64 59, .lit .i64 52, .lit .i64 46, .lit .i64 41, .lit .i64 36, .int .u64, .int .u64, .arr 2, .litb true], .ints .i64 true, .ints .u8 false, .same, .same, .same, .box [.int .i64, .int .i64, .int .i64, .bool, .int .i64, .int .i64, .int .i64, .ints .u8, .int .i64, .int .i64, .ints .u8]] }, [(.exit 3, { tm := [], bs := [.box [.int .i64, .arr 1, .lit .i64 2048, .lit .i64 1792, .lit .i64 1568, .lit .i64 1372, .lit .i64 1201, .lit .i64 1051, .lit .i64 920, .lit .i64 805, .lit .i64 705, .lit .i64 617, .lit .i64 540, .lit .i64 473, .lit .i64 414, .lit .i64 363, .lit .i64 318, .lit .i64 279, .lit .i64 245, .lit .i64 215, .lit .i64 189, .lit .i64 166, .lit .i64 146, .lit .i64 128, .lit .i64 112, .lit .i64 98, .lit .i64 86, .lit .i64 76, .lit .i64 67, .lit .i64 59, .lit .i64 52, .lit .i64 46, .lit .i64 41, .lit .i64 36, .int .u64, .int .u64, .arr 2, .litb true], .ints .i64 true, .ints .u8 false, .same, .same, .same, .box [.int .i64, .int .i64, .int .i64, .bool, .int .i64, .int .i64, .int .i64, .ints .u8, .int .i64, .int .i64, .ints .u8]] })])], joins := [(10, [(.normal, { tm := [(26, .bool)], bs := [.same, .same, .same, .same, .same, .same] })]), (26, [(.normal, { tm := [(13, .bool)], bs := [.same, .same, .same, .same, .same, .same, .box [.int .i64, .int .i64, .int .i64, .bool, .int .i64, .int .i64, .int .i64, .ints .u8, .int .i64, .int .i64, .ints .u8]] })]), (37, [(.normal, { tm := [], bs := [.box [.int .i64, .arr 1, .lit .i64 2048, .lit .i64 1792, .lit .i64 1568, .lit .i64 1372, .lit .i64 1201, .lit .i64 1051, .lit .i64 920, .lit .i64 805, .lit .i64 705, .lit .i64 617, .lit .i64 540, .lit .i64 473, .lit .i64 414, .lit .i64 363, .lit .i64 318, .lit .i64 279, .lit .i64 245, .lit .i64 215, .lit .i64 189, .lit .i64 166, .lit .i64 146, .lit .i64 128, .lit .i64 112, .lit .i64 98, .lit .i64 86, .lit .i64 76, .lit .i64 67, .lit .i64 59, .lit .i64 52, .lit .i64 46, .lit .i64 41, .lit .i64 36, .int .u64, .int .u64, .arr 2, .litb true], .ints .i64 false, .ints .u8 true, .same, .same, .same] }), (.ret, { tm := [(10, .int .i64)], bs := [.box [.int .i64, .arr 1, .lit .i64 2048, .lit .i64 1792, .lit .i64 1568, .lit .i64 1372, .lit .i64 1201, .lit .i64 1051, .lit .i64 920, .lit .i64 805, .lit .i64 705, .lit .i64 617, .lit .i64 540, .lit .i64 473, .lit .i64 414, .lit .i64 363, .lit .i64 318, .lit .i64 279, .lit .i64 245, .lit .i64 215, .lit .i64 189, .lit .i64 166, .lit .i64 146, .lit .i64 128, .lit .i64 112, .lit .i64 98, .lit .i64 86, .lit .i64 76, .lit .i64 67, .lit .i64 59, .lit .i64 52, .lit .i64 46, .lit .i64 41, .lit .i64 36, .int .u64, .int .u64, .arr 2, .litb true], .ints .i64 false, .ints .u8 true, .same, .same, .same] })]), (45, [(.normal, { tm := [], bs := [.box [.int .i64, .arr 1, .lit .i64 2048, .lit .i64 1792, .lit .i64 1568, .lit .i64 1372, .lit .i64 1201, .lit .i64 1051, .lit .i64 920, .lit .i64 805, .lit .i64 705, .lit .i64 617, .lit .i64 540, .lit .i64 473, .lit .i64 414, .lit .i64 363, .lit .i64 318, .lit .i64 279, .lit .i64 245, .lit .i64 215, .lit .i64 189, .lit .i64 166, .lit .i64 146, .lit .i64 128, .lit .i64 112, .lit .i64 98, .lit .i64 86, .lit .i64 76, .lit .i64 67, .lit .i64 59, .lit .i64 52, .lit .i64 46, .lit .i64 41, .lit .i64 36, .int .u64, .int .u64, .arr 2, .litb true], .ints .i64 false, .ints .u8 true, .same, .same, .same] }), (.ret, { tm := [(10, .int .i64)], bs := [.box [.int .i64, .arr 1, .lit .i64 2048, .lit .i64 1792, .lit .i64 1568, .lit .i64 1372, .lit .i64 1201, .lit .i64 1051, .lit .i64 920, .lit .i64 805, .lit .i64 705, .lit .i64 617, .lit .i64 540, .lit .i64 473, .lit .i64 414, .lit .i64 363, .lit .i64 318, .lit .i64 279, .lit .i64 245, .lit .i64 215, .lit .i64 189, .lit .i64 166, .lit .i64 146, .lit .i64 128, .lit .i64 112, .lit .i64 98, .lit .i64 86, .lit .i64 76, .lit .i64 67, .lit .i64 59, .lit .i64 52, .lit .i64 46, .lit .i64 41, .lit .i64 36, .int .u64, .int .u64, .arr 2, .litb true], .ints .i64 false, .ints .u8 true, .same, .same, .same] })]), (46, [(.normal, { tm := [(91, .bool)], bs := [.same, .same, .same, .same, .same, .same, .same] })]), (129, [(.normal, { tm := [], bs := [.box [.int .i64, .arr 1, .lit .i64 2048, .lit .i64 1792, .lit .i64 1568, .lit .i64 1372, .lit .i64 1201, .lit .i64 1051, .lit .i64 920, .lit .i64 805, .lit .i64 705, .lit .i64 617, .lit .i64 540, .lit .i64 473, .lit .i64 414, .lit .i64 363, .lit .i64 318, .lit .i64 279, .lit .i64 245, .lit .i64 215, .lit .i64 189, .lit .i64 166, .lit .i64 146, .lit .i64 128, .lit .i64 112, .lit .i64 98, .lit .i64 86, .lit .i64 76, .lit .i64 67, .lit .i64 59, .lit .i64 52, .lit .i64 46, .lit .i64 41, .lit .i64 36, .int .u64, .int .u64, .arr 2, .litb true], .ints .i64 true, .ints .u8 false, .same, .same, .same, .same] })]), (131, [(.normal, { tm := [(14, .int .i64)], bs := [.same, .same, .same, .same, .same, .same, .same] })])], cuts := [], orders := [(24, [5, 10], [[0, 1, 2, 3, 4, 5, 6, 7, 8, 9, 10, 11, 12, 13, 14, 15], [0, 1, 2, 3, 4, 7, 8, 9, 10, 5, 6, 11, 12, 13, 14, 15]])] } },
  { fid := 84, sig := { ps := [.int .i64], pb := [], rs := [.ints .u8, .int .i64], rb := [] }, ann := { calls := [(13, 66), (26, 66)], loops := [], joins := [(2, [(.normal, { tm := [(4, .bool)], bs := [] })]), (6, [(.normal, { tm := [(16, .bool)], bs := [] })])], cuts := [] } },
  { fid := 114, sig := { ps := [.agg [.int .i64, .int .i64, .int .i64, .bool, .int .i64]], pb := [], rs := [.bool], rb := [] }, ann := { calls := [], loops := [], joins := [(2, [(.normal, { tm := [(3, .bool)], bs := [.same] })])], cuts := [] } },
  { fid := 115, sig := { ps := [.agg [.int .i64, .int .i64, .int .i64, .bool, .int .i64]], pb := [], rs := [.agg [.int .i64, .ints .i64]], rb := [] }, ann := { calls := [(7, 114)], loops := [], joins := [], cuts := [] } },
  { fid := 116, sig := { ps := [.ptr 0 0, .int .i64, .agg [.int .i64, .int .i64, .int .i64, .bool, .int .i64], .agg [.int .i64, .int .i64, .ints .u8], .agg [.int .i64, .int .i64, .ints .u8]], pb := [.box [.int .i64, .arr 1, .int .u64, .int .u64, .arr 2], .ints .i64 false, .ints .u8 false], rs := [.int .i64], rb := [.box [.int .i64, .arr 1, .int .u64, .int .u64, .arr 2], .ints .i64 true, .ints .u8 false] }, ann := { calls := [(23, 53), (26, 53), (33, 115), (40, 114), (56, 116), (64, 89), (76, 117), (92, 118), (97, 119), (99, 89)], loops := [(8, { tm := [(13, .int .i64)], bs := [.box [.int .i64, .arr 1, .int .u64, .int .u64, .arr 2], .ints .i64 true, .ints .u8 false, .same, .same, .same] }, [(.exit 0, { tm := [], bs := [.box [.int .i64, .arr 1, .int .u64, .int .u64, .arr 2], .ints .i64 true, .ints .u8 false, .same, .same, .same] })]), (17, { tm := [(16, .int .i64)], bs := [.box [.int .i64, .arr 1, .int .u64, .int .u64, .arr 2], .ints .i64 true, .ints .u8 false, .same, .same, .same] }, [(.exit 2, { tm := [], bs := [.box [.int .i64, .arr 1, .int .u64, .int .u64, .arr 2], .ints .i64 true, .ints .u8 false, .same, .same, .same] })])], joins := [(6, [(.normal, { tm := [(11, .int .i64)], bs := [.same, .same, .same, .same, .same, .same] })]), (20, [(.normal, { tm := [(14, .bool)], bs := [.same, .same, .same, .same, .same, .same] })]), (40, [(.normal, { tm := [(84, .bool)], bs := [.same, .same, .same, .same, .same, .same] })]), (119, [(.normal, { tm := [], bs := [.box [.int .i64, .arr 1, .int .u64, .int .u64, .arr 2], .ints .i64 true, .ints .u8 false, .same, .same, .same] })]), (121, [(.normal, { tm := [(15, .int .i64)], bs := [.same, .same, .same, .same, .same, .same] })])], cuts := [] } },
  { fid := 96, sig := { ps := [.int .i64], pb := [], rs := [.ints .u8, .int .i64], rb := [] }, ann := { calls := [(15, 92), (20, 92)], loops := [], joins := [(2, [(.normal, { tm := [(9, .bool)], bs := [] })])], cuts := [] } },
  { fid := 72, sig := { ps := [.int .i64, .int .i64], pb := [], rs := [.agg [.int .i64, .int .i64, .arr 0], .int .i64], rb := [.ints .u8 false] }, ann := { calls := [(8, 67)], loops := [], joins := [], cuts := [] } },
  { fid := 64, sig := { ps := [.int .i64], pb := [], rs := [.ints .u8, .int .i64], rb := [] }, ann := { calls := [], loops := [(5, { tm := [(0, .int .i64), (4, .arr 1)], bs := [.gone, .ints .u8 false] }, [(.exit 0, { tm := [(4, .arr 1)], bs := [.gone, .ints .u8 false] })])], joins := [(2, [(.normal, { tm := [(10, .bool)], bs := [] })])], cuts := [] } },
  { fid := 166, sig := { ps := [.int .i64, .int .i64], pb := [], rs := [.bool], rb := [] }, ann := { calls := [], loops := [], joins := [], cuts := [] } },
  { fid := 188, sig := { ps := [.int .i64], pb := [], rs := [.arr 0], rb := [.rows 2 false] }, ann := { calls := [], loops := [], joins := [], cuts := [] } },
  { fid := 169, sig := { ps := [.agg [.int .i64, .ints .i64]], pb := [], rs := [.bool], rb := [] }, ann := { calls := [], loops := [(7, { tm := [(26, .int .i64)], bs := [.same] }, [(.exit 0, { tm := [], bs := [.same] }), (.ret, { tm := [(2, .bool)], bs := [.same] })])], joins := [(2, [(.normal, { tm := [(19, .bool)], bs := [.same] })]), (45, [(.normal, { tm := [(3, .int .i64)], bs := [.same] })])], cuts := [] } },
  { fid := 170, sig := { ps := [.agg [.int .i64, .ints .i64]], pb := [], rs := [.agg [.int .i64, .arr 0, .lit .i64 2048, .lit .i64 1792, .lit .i64 1568, .lit .i64 1372, .lit .i64 1201, .lit .i64 1051, .lit .i64 920, .lit .i64 805, .lit .i64 705, .lit .i64 617, .lit .i64 540, .lit .i64 473, .lit .i64 414, .lit .i64 363, .lit .i64 318, .lit .i64 279, .lit .i64 245, .lit .i64 215, .lit .i64 189, .lit .i64 166, .lit .i64 146, .lit .i64 128, .lit .i64 112, .lit .i64 98, .lit .i64 86, .lit .i64 76, .lit .i64 67, .lit .i64 59, .lit .i64 52, .lit .i64 46, .lit .i64 41, .lit .i64 36, .int .u64, .int .u64]], rb := [.ints .i64 false] }, ann := { calls := [(4, 120), (5, 121)], loops := [], joins := [], cuts := [] } },
  { fid := 189, sig := { ps := [.agg [.int .i64, .int .i64, .int .i64, .bool, .int .i64], .int .i64, .int .i64], pb := [], rs := [.ptr 0 0], rb := [.box [.int .i64, .int .i64, .ints .u8, .rows 2]] }, ann := { calls := [(15, 68)], loops := [], joins := [], cuts := [], slots := [(12, 0), (18, 1)], pads := [(1, 2)] } },
  { fid := 191, sig := { ps := [.ptr 0 0, .int .i64, .agg [.int .i64, .int .i64, .ints .u8]], pb := [.box [.int .i64, .int .i64, .ints .u8, .rows 2]], rs := [.ints .u8], rb := [.box [.int .i64, .int .i64, .ints .u8, .rows 2]] }, ann := { calls := [(28, 75), (36, 122)], loops := [(3, { tm := [(16, .int .i64)], bs := [.box [.int .i64, .int .i64, .ints .u8, .rows 2], .same, .ints .u8 true] }, [(.exit 0, { tm := [], bs := [.box [.int .i64, .int .i64, .ints .u8, .rows 2], .same, .ints .u8 true] })])], joins := [], cuts := [] } },
  { fid := 190, sig := { ps := [.ints .u8, .ints .u8], pb := [], rs := [.bool], rb := [] }, ann := { calls := [], loops := [], joins := [], cuts := [] } },
  { fid := 173, sig := { ps := [.ptr 0 0, .int .i64, .int .i64], pb := [.box [.int .i64, .arr 1, .lit .i64 2048, .lit .i64 1792, .lit .i64 1568, .lit .i64 1372, .lit .i64 1201, .lit .i64 1051, .lit .i64 920, .lit .i64 805, .lit .i64 705, .lit .i64 617, .lit .i64 540, .lit .i64 473, .lit .i64 414, .lit .i64 363, .lit .i64 318, .lit .i64 279, .lit .i64 245, .lit .i64 215, .lit .i64 189, .lit .i64 166, .lit .i64 146, .lit .i64 128, .lit .i64 112, .lit .i64 98, .lit .i64 86, .lit .i64 76, .lit .i64 67, .lit .i64 59, .lit .i64 52, .lit .i64 46, .lit .i64 41, .lit .i64 36, .int .u64, .int .u64, .arr 2, .litb true], .ints .i64 false, .ints .u8 false], rs := [.int .i64], rb := [.box [.int .i64, .arr 1, .lit .i64 2048, .lit .i64 1792, .lit .i64 1568, .lit .i64 1372, .lit .i64 1201, .lit .i64 1051, .lit .i64 920, .lit .i64 805, .lit .i64 705, .lit .i64 617, .lit .i64 540, .lit .i64 473, .lit .i64 414, .lit .i64 363, .lit .i64 318, .lit .i64 279, .lit .i64 245, .lit .i64 215, .lit .i64 189, .lit .i64 166, .lit .i64 146, .lit .i64 128, .lit .i64 112, .lit .i64 98, .lit .i64 86, .lit .i64 76, .lit .i64 67, .lit .i64 59, .lit .i64 52, .lit .i64 46, .lit .i64 41, .lit .i64 36, .int .u64, .int .u64, .arr 2, .litb true], .ints .i64 true, .ints .u8 false] }, ann := { calls := [(9, 77), (41, 123), (42, 124), (46, 125), (55, 126)], loops := [(6, { tm := [], bs := [.box [.int .i64, .arr 1, .lit .i64 2048, .lit .i64 1792, .lit .i64 1568, .lit .i64 1372, .lit .i64 1201, .lit .i64 1051, .lit .i64 920, .lit .i64 805, .lit .i64 705, .lit .i64 617, .lit .i64 540, .lit .i64 473, .lit .i64 414, .lit .i64 363, .lit .i64 318, .lit .i64 279, .lit .i64 245, .lit .i64 215, .lit .i64 189, .lit .i64 166, .lit .i64 146, .lit .i64 128, .lit .i64 112, .lit .i64 98, .lit .i64 86, .lit .i64 76, .lit .i64 67, .lit .i64 59, .lit .i64 52, .lit .i64 46, .lit .i64 41, .lit .i64 36, .int .u64, .int .u64, .arr 2, .litb true], .ints .i64 true, .ints .u8 false] }, [(.exit 1, { tm := [], bs := [.box [.int .i64, .arr 1, .lit .i64 2048, .lit .i64 1792, .lit .i64 1568, .lit .i64 1372, .lit .i64 1201, .lit .i64 1051, .lit .i64 920, .lit .i64 805, .lit .i64 705, .lit .i64 617, .lit .i64 540, .lit .i64 473, .lit .i64 414, .lit .i64 363, .lit .i64 318, .lit .i64 279, .lit .i64 245, .lit .i64 215, .lit .i64 189, .lit .i64 166, .lit .i64 146, .lit .i64 128, .lit .i64 112, .lit .i64 98, .lit .i64 86, .lit .i64 76, .lit .i64 67, .lit .i64 59, .lit .i64 52, .lit .i64 46, .lit .i64 41, .lit .i64 36, .int .u64, .int .u64, .arr 2, .litb true], .ints .i64 true, .ints .u8 false] })])], joins := [(6, [(.normal, { tm := [(10, .bool)], bs := [.same, .same, .same] })]), (15, [(.normal, { tm := [], bs := [.same, .same, .same] }), (.ret, { tm := [(6, .int .i64)], bs := [.same, .same, .same] })])], cuts := [], orders := [(7, [4, 8], [[0, 1, 2, 3, 4, 5, 6, 7, 8, 9, 10, 11, 12, 13], [0, 1, 2, 3, 5, 6, 7, 8, 4, 9, 10, 11, 12, 13]])] } },
  { fid := 192, sig := { ps := [.agg [.int .i64, .int .i64, .ints .u8], .int .i64], pb := [], rs := [.bool], rb := [] }, ann := { calls := [], loops := [], joins := [], cuts := [] } },
  { fid := 193, sig := { ps := [.ptr 0 0, .int .i64, .int .i64], pb := [.box [.int .i64, .int .i64, .ints .u8, .rows 2]], rs := [.int .i64], rb := [.box [.int .i64, .int .i64, .ints .u8, .rows 2]] }, ann := { calls := [(30, 122)], loops := [(3, { tm := [(7, .int .i64), (15, .int .i64)], bs := [.box [.int .i64, .int .i64, .ints .u8, .rows 2]] }, [(.exit 0, { tm := [(7, .int .i64)], bs := [.box [.int .i64, .int .i64, .ints .u8, .rows 2]] })])], joins := [], cuts := [] } },
  { fid := 177, sig := { ps := [.ptr 0 0], pb := [.box [.int .i64, .arr 1, .lit .i64 2048, .lit .i64 1792, .lit .i64 1568, .lit .i64 1372, .lit .i64 1201, .lit .i64 1051, .lit .i64 920, .lit .i64 805, .lit .i64 705, .lit .i64 617, .lit .i64 540, .lit .i64 473, .lit .i64 414, .lit .i64 363, .lit .i64 318, .lit .i64 279, .lit .i64 245, .lit .i64 215, .lit .i64 189, .lit .i64 166, .lit .i64 146, .lit .i64 128, .lit .i64 112, .lit .i64 98, .lit .i64 86, .lit .i64 76, .lit .i64 67, .lit .i64 59, .lit .i64 52, .lit .i64 46, .lit .i64 41, .lit .i64 36, .int .u64, .int .u64, .arr 2, .litb true], .ints .i64 false, .ints .u8 false], rs := [.bool], rb := [.box [.int .i64, .arr 1, .lit .i64 2048, .lit .i64 1792, .lit .i64 1568, .lit .i64 1372, .lit .i64 1201, .lit .i64 1051, .lit .i64 920, .lit .i64 805, .lit .i64 705, .lit .i64 617, .lit .i64 540, .lit .i64 473, .lit .i64 414, .lit .i64 363, .lit .i64 318, .lit .i64 279, .lit .i64 245, .lit .i64 215, .lit .i64 189, .lit .i64 166, .lit .i64 146, .lit .i64 128, .lit .i64 112, .lit .i64 98, .lit .i64 86, .lit .i64 76, .lit .i64 67, .lit .i64 59, .lit .i64 52, .lit .i64 46, .lit .i64 41, .lit .i64 36, .int .u64, .int .u64, .arr 2, .litb true], .ints .i64 true, .ints .u8 true] }, ann := { calls := [], loops := [], joins := [], cuts := [] } },
  { fid := 85, sig := { ps := [.int .i64, .int .i64], pb := [], rs := [.bool], rb := [] }, ann := { calls := [], loops := [], joins := [], cuts := [] } },
  { fid := 29, sig := { ps := [.agg [.int .i64, .int .i64, .int .i64, .bool, .int .i64]], pb := [], rs := [.bool], rb := [] }, ann := { calls := [], loops := [], joins := [(2, [(.normal, { tm := [(20, .bool)], bs := [.same] })]), (6, [(.normal, { tm := [(42, .bool)], bs := [.same] })])], cuts := [] } },
  { fid := 179, sig := { ps := [.agg [.int .i64, .int .i64, .int .i64, .bool, .int .i64]], pb := [], rs := [.rows 3], rb := [] }, ann := { calls := [(5, 127)], loops := [], joins := [], cuts := [], slots := [(13, 0)], pads := [(1, 1)] } },
  { fid := 180, sig := { ps := [.agg [.int .i64, .ints .i64]], pb := [], rs := [.bool], rb := [] }, ann := { calls := [], loops := [(7, { tm := [(26, .int .i64)], bs := [.same] }, [(.exit 0, { tm := [], bs := [.same] }), (.ret, { tm := [(2, .bool)], bs := [.same] })])], joins := [(8, [(.normal, { tm := [(22, .bool)], bs := [.same] })]), (17, [(.normal, { tm := [(3, .int .i64)], bs := [.same] })])], cuts := [] } },
  { fid := 181, sig := { ps := [.agg [.int .i64, .ints .i64]], pb := [], rs := [.agg [.int .i64, .arr 0]], rb := [.ints .i64 false] }, ann := { calls := [], loops := [], joins := [], cuts := [] } },
  { fid := 182, sig := { ps := [], pb := [], rs := [.agg [.int .u64, .int .u64]], rb := [] }, ann := { calls := [], loops := [], joins := [], cuts := [] } },
  { fid := 159, sig := { ps := [.agg [.int .i64, .int .i64, .ints .u8]], pb := [], rs := [.bool], rb := [] }, ann := { calls := [(8, 78)], loops := [(4, { tm := [(3, .int .i64)], bs := [.same] }, [(.exit 0, { tm := [], bs := [.same] }), (.ret, { tm := [(2, .bool)], bs := [.same] })])], joins := [(2, [(.normal, { tm := [(20, .bool)], bs := [.same] })])], cuts := [] } },
  { fid := 165, sig := { ps := [.agg [.int .i64, .int .i64, .ints .u8], .int .i64, .int .i64], pb := [], rs := [.int .i64], rb := [] }, ann := { calls := [(10, 128)], loops := [], joins := [], cuts := [] } },
  { fid := 137, sig := { ps := [.ptr 0 0], pb := [.box [.int .i64, .arr 1, .int .u64, .int .u64, .arr 2], .ints .i64 false, .ints .u8 false], rs := [.agg [.int .i64, .ints .i64]], rb := [.box [.int .i64, .arr 1, .int .u64, .int .u64, .arr 2], .ints .i64 false, .ints .u8 true] }, ann := { calls := [(10, 82)], loops := [], joins := [], cuts := [] } },
  { fid := 183, sig := { ps := [.agg [.int .i64, .int .i64, .int .i64, .bool, .int .i64], .int .i64, .int .i64, .int .i64, .int .i64, .agg [.int .i64, .int .i64, .ints .u8]], pb := [], rs := [.int .i64], rb := [] }, ann := { calls := [(17, 41), (21, 129)], loops := [], joins := [], cuts := [] } },
  { fid := 184, sig := { ps := [.agg [.int .i64, .int .i64, .ints .u8], .agg [.int .i64, .int .i64, .ints .u8], .int .i64], pb := [], rs := [.ints .u8], rb := [] }, ann := { calls := [(20, 85), (24, 85)], loops := [(3, { tm := [(7, .arr 2), (8, .int .i64)], bs := [.same, .same, .ints .u8 false] }, [(.exit 0, { tm := [(7, .arr 2)], bs := [.same, .same, .ints .u8 false] })])], joins := [(51, [(.normal, { tm := [(9, .int .i64)], bs := [.same, .same, .same] })])], cuts := [] } },
  { fid := 133, sig := { ps := [.ptr 0 0, .int .i64, .int .i64], pb := [.box [.int .i64, .arr 1, .int .u64, .int .u64, .arr 2], .ints .i64 false, .ints .u8 false], rs := [.int .i64], rb := [.box [.int .i64, .arr 1, .int .u64, .int .u64, .arr 2], .ints .i64 true, .ints .u8 false] }, ann := { calls := [(43, 130), (51, 131), (74, 132), (80, 133), (102, 134)], loops := [(8, { tm := [], bs := [.box [.int .i64, .arr 1, .int .u64, .int .u64, .arr 2], .ints .i64 true, .ints .u8 false] }, [(.exit 0, { tm := [], bs := [.box [.int .i64, .arr 1, .int .u64, .int .u64, .arr 2], .ints .i64 true, .ints .u8 false] })])], joins := [(6, [(.normal, { tm := [(29, .bool)], bs := [.same, .same, .same] })])], cuts := [] } },
  { fid := 185, sig := { ps := [.agg [.int .i64, .int .i64, .int .i64, .bool, .int .i64], .agg [.int .i64, .int .i64, .ints .u8], .int .i64, .int .i64], pb := [], rs := [.int .i64], rb := [] }, ann := { calls := [(13, 80), (37, 85)], loops := [(4, { tm := [(10, .int .i64), (11, .int .i64)], bs := [.same, .same] }, [(.exit 0, { tm := [(10, .int .i64)], bs := [.same, .same] })])], joins := [], cuts := [] } },
  { fid := 187, sig := { ps := [.agg [.int .u64, .int .u64]], pb := [], rs := [.ints .u8], rb := [] }, ann := { calls := [], loops := [(3, { tm := [(3, .arr 1), (4, .int .u64)], bs := [.same, .ints .u8 false] }, [(.exit 0, { tm := [(3, .arr 1)], bs := [.same, .ints .u8 false] })])], joins := [], cuts := [] } },
  { fid := 70, sig := { ps := [.int .i64], pb := [], rs := [.ints .u8, .int .i64], rb := [] }, ann := { calls := [], loops := [(5, { tm := [(0, .int .i64), (4, .arr 1)], bs := [.gone, .ints .u8 false] }, [(.exit 0, { tm := [(4, .arr 1)], bs := [.gone, .ints .u8 false] })])], joins := [(2, [(.normal, { tm := [(10, .bool)], bs := [] })])], cuts := [] } },
  { fid := 194, sig := { ps := [.int .i64], pb := [], rs := [.rows 4, .int .i64], rb := [] }, ann := { calls := [(14, 135), (23, 135), (32, 135)], loops := [], joins := [], cuts := [] } },
  { fid := 195, sig := { ps := [.rows 4, .agg [.bool, .int .i64]], pb := [], rs := [.arr 0, .int .i64], rb := [.ints .u8 false] }, ann := { calls := [(7, 136), (11, 137), (13, 138)], loops := [], joins := [], cuts := [] } },
  { fid := 196, sig := { ps := [.int .i64], pb := [], rs := [.rows 4], rb := [] }, ann := { calls := [], loops := [], joins := [], cuts := [] } },
  { fid := 197, sig := { ps := [.ints .u8, .int .i64, .int .u8], pb := [], rs := [.int .i64, .int .i64], rb := [] }, ann := { calls := [(43, 97)], loops := [(2, { tm := [(6, .int .i64)], bs := [] }, [(.exit 0, { tm := [(6, .int .i64)], bs := [] })])], joins := [(33, [(.normal, { tm := [(8, .int .u8)], bs := [] })])], cuts := [] } },
  { fid := 198, sig := { ps := [.ints .u8, .int .i64, .int .u8], pb := [], rs := [.int .i64], rb := [] }, ann := { calls := [], loops := [(2, { tm := [(7, .int .i64)], bs := [] }, [(.exit 0, { tm := [(7, .int .i64)], bs := [] })])], joins := [], cuts := [] } },
  { fid := 199, sig := { ps := [.str], pb := [], rs := [.arr 0], rb := [.ints .u8 false] }, ann := { calls := [], loops := [(3, { tm := [(9, .int .i64)], bs := [.ints .u8 true] }, [(.exit 0, { tm := [], bs := [.ints .u8 true] })])], joins := [], cuts := [] } },
  { fid := 200, sig := { ps := [], pb := [], rs := [.rows 5], rb := [] }, ann := { calls := [], loops := [], joins := [], cuts := [] } },
  { fid := 201, sig := { ps := [.int .i64, .int .i64], pb := [], rs := [.bool], rb := [] }, ann := { calls := [], loops := [], joins := [], cuts := [] } },
  { fid := 202, sig := { ps := [.ints .u8], pb := [], rs := [.bool], rb := [] }, ann := { calls := [], loops := [(2, { tm := [(7, .int .i64)], bs := [] }, [(.exit 0, { tm := [], bs := [] }), (.ret, { tm := [(2, .bool)], bs := [] })])], joins := [], cuts := [] } },
  { fid := 204, sig := { ps := [.agg [.int .i64, .int .i64, .ints .u8], .int .i64], pb := [], rs := [.ints .u8], rb := [] }, ann := { calls := [], loops := [], joins := [], cuts := [] } },
  { fid := 203, sig := { ps := [.ints .u8], pb := [], rs := [.ints .i64], rb := [] }, ann := { calls := [], loops := [(4, { tm := [(3, .arr 0), (4, .int .u8), (5, .int .i64)], bs := [.ints .i64 false] }, [(.exit 0, { tm := [(3, .arr 0)], bs := [.ints .i64 false] })]), (6, { tm := [(6, .int .i64)], bs := [.same] }, [(.exit 2, { tm := [(6, .int .i64)], bs := [.same] })])], joins := [], cuts := [] } },
  { fid := 205, sig := { ps := [.int .i64, .int .i64], pb := [], rs := [.ints .u8], rb := [] }, ann := { calls := [(10, 139), (14, 140), (19, 141), (23, 140)], loops := [], joins := [], cuts := [] } },
  { fid := 206, sig := { ps := [.ints .u8, .ints .u8], pb := [], rs := [.rows 6], rb := [] }, ann := { calls := [(22, 142)], loops := [(3, { tm := [(5, .arr 0), (6, .int .i64), (7, .int .i64)], bs := [.rows 6 false] }, [(.exit 0, { tm := [(5, .arr 0)], bs := [.rows 6 false] })])], joins := [(6, [(.normal, { tm := [(17, .bool)], bs := [.same] })])], cuts := [] } },
  { fid := 207, sig := { ps := [.int .i64], pb := [], rs := [.int .i64], rb := [] }, ann := { calls := [(4, 143)], loops := [], joins := [], cuts := [] } },
  { fid := 125, sig := { ps := [.ptr 0 0], pb := [.box [.int .i64, .arr 1, .lit .i64 2048, .lit .i64 1792, .lit .i64 1568, .lit .i64 1372, .lit .i64 1201, .lit .i64 1051, .lit .i64 920, .lit .i64 805, .lit .i64 705, .lit .i64 617, .lit .i64 540, .lit .i64 473, .lit .i64 414, .lit .i64 363, .lit .i64 318, .lit .i64 279, .lit .i64 245, .lit .i64 215, .lit .i64 189, .lit .i64 166, .lit .i64 146, .lit .i64 128, .lit .i64 112, .lit .i64 98, .lit .i64 86, .lit .i64 76, .lit .i64 67, .lit .i64 59, .lit .i64 52, .lit .i64 46, .lit .i64 41, .lit .i64 36, .int .u64, .int .u64, .arr 2, .litb true], .ints .i64 false, .ints .u8 false], rs := [.agg [.int .i64, .ints .i64]], rb := [.box [.int .i64, .arr 1, .lit .i64 2048, .lit .i64 1792, .lit .i64 1568, .lit .i64 1372, .lit .i64 1201, .lit .i64 1051, .lit .i64 920, .lit .i64 805, .lit .i64 705, .lit .i64 617, .lit .i64 540, .lit .i64 473, .lit .i64 414, .lit .i64 363, .lit .i64 318, .lit .i64 279, .lit .i64 245, .lit .i64 215, .lit .i64 189, .lit .i64 166, .lit .i64 146, .lit .i64 128, .lit .i64 112, .lit .i64 98, .lit .i64 86, .lit .i64 76, .lit .i64 67, .lit .i64 59, .lit .i64 52, .lit .i64 46, .lit .i64 41, .lit .i64 36, .int .u64, .int .u64, .arr 2, .litb true], .ints .i64 false, .ints .u8 true] }, ann := { calls := [(4, 77), (11, 120)], loops := [], joins := [], cuts := [] } },
  { fid := 208, sig := { ps := [.agg [.int .i64, .ints .i64], .int .i64, .agg [.int .i64, .int .i64, .int .i64, .bool, .int .i64]], pb := [], rs := [.bool], rb := [] }, ann := { calls := [(16, 106)], loops := [], joins := [], cuts := [] } },
  { fid := 209, sig := { ps := [.agg [.int .i64, .int .i64, .int .i64, .bool, .int .i64], .int .i64, .int .i64, .ints .u8, .agg [.int .i64, .int .i64, .ints .u8]], pb := [], rs := [.ptr 0 0], rb := [.box [.int .i64, .int .i64, .int .i64, .bool, .int .i64, .int .i64, .int .i64, .ints .u8, .int .i64, .int .i64, .ints .u8]] }, ann := { calls := [], loops := [], joins := [], cuts := [] } },
  { fid := 210, sig := { ps := [.ptr 0 0, .int .i64], pb := [.box [.int .i64, .int .i64, .int .i64, .bool, .int .i64, .int .i64, .int .i64, .ints .u8, .int .i64, .int .i64, .ints .u8]], rs := [.bool], rb := [.box [.int .i64, .int .i64, .int .i64, .bool, .int .i64, .int .i64, .int .i64, .ints .u8, .int .i64, .int .i64, .ints .u8]] }, ann := { calls := [(20, 111), (32, 113)], loops := [(2, { tm := [(13, .int .i64)], bs := [.box [.int .i64, .int .i64, .int .i64, .bool, .int .i64, .int .i64, .int .i64, .ints .u8, .int .i64, .int .i64, .ints .u8]] }, [(.exit 0, { tm := [], bs := [.box [.int .i64, .int .i64, .int .i64, .bool, .int .i64, .int .i64, .int .i64, .ints .u8, .int .i64, .int .i64, .ints .u8]] }), (.ret, { tm := [(4, .bool)], bs := [.box [.int .i64, .int .i64, .int .i64, .bool, .int .i64, .int .i64, .int .i64, .ints .u8, .int .i64, .int .i64, .ints .u8]] })])], joins := [], cuts := [] } },
  { fid := 211, sig := { ps := [.ptr 0 0, .int .i64, .int .i64], pb := [.box [.int .i64, .int .i64, .int .i64, .bool, .int .i64, .int .i64, .int .i64, .ints .u8, .int .i64, .int .i64, .ints .u8]], rs := [.int .u8, .bool], rb := [.box [.int .i64, .int .i64, .int .i64, .bool, .int .i64, .int .i64, .int .i64, .ints .u8, .int .i64, .int .i64, .ints .u8]] }, ann := { calls := [(28, 113), (58, 113)], loops := [(3, { tm := [(29, .int .i64)], bs := [.same] }, [(.exit 0, { tm := [], bs := [.same] }), (.ret, { tm := [(6, .int .u8), (7, .bool)], bs := [.same] })])], joins := [], cuts := [] } },
  { fid := 212, sig := { ps := [.ptr 0 0, .int .i64, .int .i64], pb := [.box [.int .i64, .int .i64, .int .i64, .bool, .int .i64, .int .i64, .int .i64, .ints .u8, .int .i64, .int .i64, .ints .u8]], rs := [.int .i64], rb := [.box [.int .i64, .int .i64, .int .i64, .bool, .int .i64, .int .i64, .int .i64, .ints .u8, .int .i64, .int .i64, .ints .u8]] }, ann := { calls := [(17, 143), (37, 113), (41, 144), (73, 113)], loops := [(3, { tm := [(7, .int .i64), (19, .int .i64)], bs := [.same] }, [(.exit 0, { tm := [(7, .int .i64)], bs := [.same] })]), (8, { tm := [(7, .int .i64), (43, .int .i64)], bs := [.same] }, [(.exit 2, { tm := [(7, .int .i64)], bs := [.same] })])], joins := [], cuts := [] } },
  { fid := 213, sig := { ps := [.agg [.int .i64, .int .i64, .ints .u8], .int .i64, .int .i64], pb := [], rs := [.int .u8], rb := [] }, ann := { calls := [], loops := [], joins := [(2, [(.normal, { tm := [(24, .bool)], bs := [.same] })])], cuts := [] } },
  { fid := 214, sig := { ps := [.int .i64], pb := [], rs := [.int .i64], rb := [] }, ann := { calls := [], loops := [], joins := [], cuts := [] } },
  { fid := 215, sig := { ps := [.agg [.int .i64, .int .i64, .int .i64, .bool, .int .i64], .bool, .int .i64, .agg [.int .i64, .ints .i64]], pb := [], rs := [.int .i64], rb := [] }, ann := { calls := [(11, 61), (26, 114)], loops := [], joins := [], cuts := [] } },
  { fid := 216, sig := { ps := [.agg [.int .i64, .int .i64, .int .i64, .bool, .int .i64], .agg [.int .i64, .int .i64, .ints .u8], .agg [.int .i64, .int .i64, .ints .u8], .int .i64], pb := [], rs := [.bool], rb := [] }, ann := { calls := [(23, 117), (31, 119)], loops := [(2, { tm := [(9, .int .i64)], bs := [.same, .same, .same] }, [(.exit 0, { tm := [], bs := [.same, .same, .same] }), (.ret, { tm := [(8, .bool)], bs := [.same, .same, .same] })])], joins := [], cuts := [] } },
  { fid := 217, sig := { ps := [.agg [.int .i64, .int .i64, .int .i64, .bool, .int .i64], .agg [.int .i64, .int .i64, .ints .u8], .int .i64, .int .i64], pb := [], rs := [.int .u8, .bool], rb := [] }, ann := { calls := [(21, 119), (43, 119)], loops := [(3, { tm := [(11, .int .i64)], bs := [.same, .same] }, [(.exit 0, { tm := [], bs := [.same, .same] }), (.ret, { tm := [(8, .int .u8), (9, .bool)], bs := [.same, .same] })])], joins := [], cuts := [] } },
  { fid := 218, sig := { ps := [.agg [.int .i64, .int .i64, .int .i64, .bool, .int .i64], .agg [.int .i64, .int .i64, .ints .u8], .agg [.int .i64, .int .i64, .ints .u8], .int .i64, .int .i64], pb := [], rs := [.int .i64], rb := [] }, ann := { calls := [(45, 119), (77, 119)], loops := [(6, { tm := [(12, .int .i64), (30, .int .i64)], bs := [.same, .same, .same, .gone, .same] }, [(.exit 0, { tm := [(12, .int .i64)], bs := [.same, .same, .same, .gone, .same] })]), (11, { tm := [(12, .int .i64), (56, .int .i64)], bs := [.same, .same, .same, .gone, .same, .same] }, [(.exit 2, { tm := [(12, .int .i64)], bs := [.same, .same, .same, .gone, .same, .same] })])], joins := [(49, [(.normal, { tm := [(11, .arr 4)], bs := [.same, .same, .same, .gone, .rows 2 false] })])], cuts := [] } },
  { fid := 219, sig := { ps := [.agg [.int .i64, .int .i64, .ints .u8], .int .i64, .int .i64], pb := [], rs := [.int .u8], rb := [] }, ann := { calls := [], loops := [], joins := [(2, [(.normal, { tm := [(24, .bool)], bs := [.same] })])], cuts := [] } },
  { fid := 228, sig := { ps := [.agg [.int .i64, .ints .i64]], pb := [], rs := [.agg [.int .i64, .arr 0]], rb := [.ints .i64 false] }, ann := { calls := [], loops := [], joins := [], cuts := [] } },
  { fid := 262, sig := { ps := [], pb := [], rs := [.agg [.lit .i64 2048, .lit .i64 1792, .lit .i64 1568, .lit .i64 1372, .lit .i64 1201, .lit .i64 1051, .lit .i64 920, .lit .i64 805, .lit .i64 705, .lit .i64 617, .lit .i64 540, .lit .i64 473, .lit .i64 414, .lit .i64 363, .lit .i64 318, .lit .i64 279, .lit .i64 245, .lit .i64 215, .lit .i64 189, .lit .i64 166, .lit .i64 146, .lit .i64 128, .lit .i64 112, .lit .i64 98, .lit .i64 86, .lit .i64 76, .lit .i64 67, .lit .i64 59, .lit .i64 52, .lit .i64 46, .lit .i64 41, .lit .i64 36]], rb := [] }, ann := { calls := [], loops := [], joins := [], cuts := [], unroll := [(4, 1000)] } },
  { fid := 272, sig := { ps := [.ptr 0 0, .int .i64, .int .i64], pb := [.box [.int .i64, .int .i64, .ints .u8, .rows 2]], rs := [.int .u8], rb := [.box [.int .i64, .int .i64, .ints .u8, .rows 2]] }, ann := { calls := [], loops := [], joins := [(2, [(.normal, { tm := [(28, .bool)], bs := [.same] })])], cuts := [] } },
  { fid := 265, sig := { ps := [.ptr 0 0, .int .i64], pb := [.box [.int .i64, .arr 1, .lit .i64 2048, .lit .i64 1792, .lit .i64 1568, .lit .i64 1372, .lit .i64 1201, .lit .i64 1051, .lit .i64 920, .lit .i64 805, .lit .i64 705, .lit .i64 617, .lit .i64 540, .lit .i64 473, .lit .i64 414, .lit .i64 363, .lit .i64 318, .lit .i64 279, .lit .i64 245, .lit .i64 215, .lit .i64 189, .lit .i64 166, .lit .i64 146, .lit .i64 128, .lit .i64 112, .lit .i64 98, .lit .i64 86, .lit .i64 76, .lit .i64 67, .lit .i64 59, .lit .i64 52, .lit .i64 46, .lit .i64 41, .lit .i64 36, .int .u64, .int .u64, .arr 2, .litb true], .ints .i64 false, .ints .u8 false], rs := [.int .u64], rb := [.box [.int .i64, .arr 1, .lit .i64 2048, .lit .i64 1792, .lit .i64 1568, .lit .i64 1372, .lit .i64 1201, .lit .i64 1051, .lit .i64 920, .lit .i64 805, .lit .i64 705, .lit .i64 617, .lit .i64 540, .lit .i64 473, .lit .i64 414, .lit .i64 363, .lit .i64 318, .lit .i64 279, .lit .i64 245, .lit .i64 215, .lit .i64 189, .lit .i64 166, .lit .i64 146, .lit .i64 128, .lit .i64 112, .lit .i64 98, .lit .i64 86, .lit .i64 76, .lit .i64 67, .lit .i64 59, .lit .i64 52, .lit .i64 46, .lit .i64 41, .lit .i64 36, .int .u64, .int .u64, .arr 2, .litb true], .ints .i64 true, .ints .u8 true] }, ann := { calls := [(33, 145)], loops := [], joins := [], cuts := [] } },
  { fid := 264, sig := { ps := [.ptr 0 0, .int .i64, .int .i64, .int .u64], pb := [.box [.int .i64, .arr 1, .lit .i64 2048, .lit .i64 1792, .lit .i64 1568, .lit .i64 1372, .lit .i64 1201, .lit .i64 1051, .lit .i64 920, .lit .i64 805, .lit .i64 705, .lit .i64 617, .lit .i64 540, .lit .i64 473, .lit .i64 414, .lit .i64 363, .lit .i64 318, .lit .i64 279, .lit .i64 245, .lit .i64 215, .lit .i64 189, .lit .i64 166, .lit .i64 146, .lit .i64 128, .lit .i64 112, .lit .i64 98, .lit .i64 86, .lit .i64 76, .lit .i64 67, .lit .i64 59, .lit .i64 52, .lit .i64 46, .lit .i64 41, .lit .i64 36, .int .u64, .int .u64, .arr 2, .litb true], .ints .i64 false, .ints .u8 false], rs := [], rb := [.box [.int .i64, .arr 1, .lit .i64 2048, .lit .i64 1792, .lit .i64 1568, .lit .i64 1372, .lit .i64 1201, .lit .i64 1051, .lit .i64 920, .lit .i64 805, .lit .i64 705, .lit .i64 617, .lit .i64 540, .lit .i64 473, .lit .i64 414, .lit .i64 363, .lit .i64 318, .lit .i64 279, .lit .i64 245, .lit .i64 215, .lit .i64 189, .lit .i64 166, .lit .i64 146, .lit .i64 128, .lit .i64 112, .lit .i64 98, .lit .i64 86, .lit .i64 76, .lit .i64 67, .lit .i64 59, .lit .i64 52, .lit .i64 46, .lit .i64 41, .lit .i64 36, .int .u64, .int .u64, .arr 2, .litb true], .ints .i64 true, .ints .u8 true] }, ann := { calls := [(39, 146)], loops := [], joins := [(19, [(.normal, { tm := [], bs := [.box [.int .i64, .arr 1, .lit .i64 2048, .lit .i64 1792, .lit .i64 1568, .lit .i64 1372, .lit .i64 1201, .lit .i64 1051, .lit .i64 920, .lit .i64 805, .lit .i64 705, .lit .i64 617, .lit .i64 540, .lit .i64 473, .lit .i64 414, .lit .i64 363, .lit .i64 318, .lit .i64 279, .lit .i64 245, .lit .i64 215, .lit .i64 189, .lit .i64 166, .lit .i64 146, .lit .i64 128, .lit .i64 112, .lit .i64 98, .lit .i64 86, .lit .i64 76, .lit .i64 67, .lit .i64 59, .lit .i64 52, .lit .i64 46, .lit .i64 41, .lit .i64 36, .int .u64, .int .u64, .arr 2, .litb true], .ints .i64 true, .ints .u8 true] })])], cuts := [] } },
  { fid := 266, sig := { ps := [.ptr 0 0], pb := [.box [.int .i64, .arr 1, .lit .i64 2048, .lit .i64 1792, .lit .i64 1568, .lit .i64 1372, .lit .i64 1201, .lit .i64 1051, .lit .i64 920, .lit .i64 805, .lit .i64 705, .lit .i64 617, .lit .i64 540, .lit .i64 473, .lit .i64 414, .lit .i64 363, .lit .i64 318, .lit .i64 279, .lit .i64 245, .lit .i64 215, .lit .i64 189, .lit .i64 166, .lit .i64 146, .lit .i64 128, .lit .i64 112, .lit .i64 98, .lit .i64 86, .lit .i64 76, .lit .i64 67, .lit .i64 59, .lit .i64 52, .lit .i64 46, .lit .i64 41, .lit .i64 36, .int .u64, .int .u64, .arr 2, .litb true], .ints .i64 false, .ints .u8 false], rs := [.bool], rb := [.box [.int .i64, .arr 1, .lit .i64 2048, .lit .i64 1792, .lit .i64 1568, .lit .i64 1372, .lit .i64 1201, .lit .i64 1051, .lit .i64 920, .lit .i64 805, .lit .i64 705, .lit .i64 617, .lit .i64 540, .lit .i64 473, .lit .i64 414, .lit .i64 363, .lit .i64 318, .lit .i64 279, .lit .i64 245, .lit .i64 215, .lit .i64 189, .lit .i64 166, .lit .i64 146, .lit .i64 128, .lit .i64 112, .lit .i64 98, .lit .i64 86, .lit .i64 76, .lit .i64 67, .lit .i64 59, .lit .i64 52, .lit .i64 46, .lit .i64 41, .lit .i64 36, .int .u64, .int .u64, .arr 2, .litb true], .ints .i64 true, .ints .u8 true] }, ann := { calls := [], loops := [], joins := [], cuts := [] } },
  { fid := 267, sig := { ps := [.ptr 0 0], pb := [.box [.int .i64, .arr 1, .lit .i64 2048, .lit .i64 1792, .lit .i64 1568, .lit .i64 1372, .lit .i64 1201, .lit .i64 1051, .lit .i64 920, .lit .i64 805, .lit .i64 705, .lit .i64 617, .lit .i64 540, .lit .i64 473, .lit .i64 414, .lit .i64 363, .lit .i64 318, .lit .i64 279, .lit .i64 245, .lit .i64 215, .lit .i64 189, .lit .i64 166, .lit .i64 146, .lit .i64 128, .lit .i64 112, .lit .i64 98, .lit .i64 86, .lit .i64 76, .lit .i64 67, .lit .i64 59, .lit .i64 52, .lit .i64 46, .lit .i64 41, .lit .i64 36, .int .u64, .int .u64, .arr 2, .litb true], .ints .i64 false, .ints .u8 false], rs := [.int .u8], rb := [.box [.int .i64, .arr 1, .lit .i64 2048, .lit .i64 1792, .lit .i64 1568, .lit .i64 1372, .lit .i64 1201, .lit .i64 1051, .lit .i64 920, .lit .i64 805, .lit .i64 705, .lit .i64 617, .lit .i64 540, .lit .i64 473, .lit .i64 414, .lit .i64 363, .lit .i64 318, .lit .i64 279, .lit .i64 245, .lit .i64 215, .lit .i64 189, .lit .i64 166, .lit .i64 146, .lit .i64 128, .lit .i64 112, .lit .i64 98, .lit .i64 86, .lit .i64 76, .lit .i64 67, .lit .i64 59, .lit .i64 52, .lit .i64 46, .lit .i64 41, .lit .i64 36, .int .u64, .int .u64, .arr 2, .litb true], .ints .i64 true, .ints .u8 true] }, ann := { calls := [], loops := [], joins := [], cuts := [] } },
  { fid := 269, sig := { ps := [.int .i64], pb := [], rs := [.arr 0], rb := [.rows 3 false] }, ann := { calls := [], loops := [], joins := [], cuts := [] } },
  { fid := 162, sig := { ps := [.agg [.int .i64, .int .i64, .ints .u8], .int .i64, .int .i64], pb := [], rs := [.bool], rb := [] }, ann := { calls := [], loops := [], joins := [], cuts := [] } },
  { fid := 270, sig := { ps := [.agg [.int .i64, .int .i64, .ints .u8]], pb := [], rs := [.bool], rb := [] }, ann := { calls := [], loops := [], joins := [], cuts := [] } },
  { fid := 237, sig := { ps := [.int .i64, .int .i64], pb := [], rs := [.int .i64], rb := [] }, ann := { calls := [(12, 147), (18, 147)], loops := [], joins := [], cuts := [] } },
  { fid := 238, sig := { ps := [.agg [.int .u64, .int .u64], .int .i64, .int .i64], pb := [], rs := [.agg [.int .u64, .int .u64]], rb := [] }, ann := { calls := [(13, 148), (17, 148)], loops := [], joins := [], cuts := [] } },
  { fid := 239, sig := { ps := [.int .i64, .int .i64, .int .i64], pb := [], rs := [.int .i64], rb := [] }, ann := { calls := [], loops := [], joins := [(95, [(.normal, { tm := [], bs := [.box [.int .i64, .int .i64]] })])], cuts := [] } },
  { fid := 240, sig := { ps := [.agg [.int .u64, .int .u64]], pb := [], rs := [.bool], rb := [] }, ann := { calls := [], loops := [], joins := [], cuts := [] } },
  { fid := 241, sig := { ps := [.agg [.int .u64, .int .u64]], pb := [], rs := [.agg [.int .u64, .int .u64]], rb := [] }, ann := { calls := [], loops := [], joins := [], cuts := [] } },
  { fid := 273, sig := { ps := [.rows 7], pb := [], rs := [.rows 4], rb := [] }, ann := { calls := [], loops := [(3, { tm := [(3, .arr 0), (8, .int .i64)], bs := [.rows 4 false] }, [(.exit 0, { tm := [(3, .arr 0)], bs := [.rows 4 false] })])], joins := [], cuts := [] } },
  { fid := 274, sig := { ps := [.rows 4], pb := [], rs := [.bool], rb := [] }, ann := { calls := [(18, 149), (23, 150)], loops := [(4, { tm := [(13, .int .i64)], bs := [] }, [(.exit 0, { tm := [], bs := [] }), (.ret, { tm := [(2, .bool)], bs := [] })])], joins := [], cuts := [] } },
  { fid := 276, sig := { ps := [.rows 4], pb := [], rs := [.rows 8], rb := [] }, ann := { calls := [], loops := [(4, { tm := [(5, .int .i64)], bs := [.rows 8 true, .box [.int .i64, .int .i64]] }, [(.exit 0, { tm := [], bs := [.rows 8 true, .box [.int .i64, .int .i64]] })]), (8, { tm := [(27, .int .i64)], bs := [.rows 8 true, .box [.int .i64, .int .i64]] }, [(.exit 2, { tm := [], bs := [.rows 8 true, .box [.int .i64, .int .i64]] })])], joins := [], cuts := [] } },
  { fid := 275, sig := { ps := [.rows 4, .rows 8, .agg [.bool, .int .i64]], pb := [], rs := [.arr 0, .int .i64], rb := [.ints .u8 false] }, ann := { calls := [(13, 151), (28, 152), (35, 152)], loops := [], joins := [], cuts := [] } },
  { fid := 278, sig := { ps := [.int .i64], pb := [], rs := [.rows 4], rb := [] }, ann := { calls := [], loops := [], joins := [], cuts := [] } },
  { fid := 277, sig := { ps := [.rows 4, .agg [.bool, .int .i64]], pb := [], rs := [.ints .u8, .bool], rb := [] }, ann := { calls := [(23, 153), (27, 154), (64, 153), (69, 155), (76, 156)], loops := [(3, { tm := [(6, .int .i64), (15, .int .i64)], bs := [.same] }, [(.exit 0, { tm := [(6, .int .i64)], bs := [.same] })])], joins := [], cuts := [] } },
  { fid := 279, sig := { ps := [.int .i64], pb := [], rs := [.rows 4], rb := [] }, ann := { calls := [], loops := [], joins := [], cuts := [] } },
  { fid := 280, sig := { ps := [.ints .u8, .ints .u8, .int .i64, .int .i64], pb := [], rs := [.agg [.str, .ints .u8, .int .i64, .int .i64]], rb := [] }, ann := { calls := [(18, 157), (22, 158), (27, 158), (31, 159), (45, 160), (47, 161), (48, 159), (56, 158), (57, 159), (63, 104), (71, 104)], loops := [], joins := [(14, [(.normal, { tm := [(43, .bool)], bs := [.same] })])], cuts := [] } },
  { fid := 281, sig := { ps := [.int .i64], pb := [], rs := [.rows 2], rb := [] }, ann := { calls := [], loops := [], joins := [], cuts := [] } },
  { fid := 282, sig := { ps := [], pb := [], rs := [.rows 2], rb := [] }, ann := { calls := [], loops := [], joins := [], cuts := [] } },
  { fid := 295, sig := { ps := [.agg [.lit .i64 2048, .lit .i64 1792, .lit .i64 1568, .lit .i64 1372, .lit .i64 1201, .lit .i64 1051, .lit .i64 920, .lit .i64 805, .lit .i64 705, .lit .i64 617, .lit .i64 540, .lit .i64 473, .lit .i64 414, .lit .i64 363, .lit .i64 318, .lit .i64 279, .lit .i64 245, .lit .i64 215, .lit .i64 189, .lit .i64 166, .lit .i64 146, .lit .i64 128, .lit .i64 112, .lit .i64 98, .lit .i64 86, .lit .i64 76, .lit .i64 67, .lit .i64 59, .lit .i64 52, .lit .i64 46, .lit .i64 41, .lit .i64 36], .int .i64, .int .i64], pb := [], rs := [.int .i64], rb := [] }, ann := { calls := [], loops := [], joins := [], cuts := [] } },
  { fid := 294, sig := { ps := [.int .i64, .int .i64, .int .i64], pb := [], rs := [.int .i64], rb := [] }, ann := { calls := [], loops := [], joins := [(41, [(.normal, { tm := [], bs := [.box [.int .i64, .int .i64]] })])], cuts := [] } },
  { fid := 286, sig := { ps := [.int .i64], pb := [], rs := [.int .i64], rb := [] }, ann := { calls := [], loops := [(3, { tm := [(3, .int .i64), (4, .int .i64)], bs := [] }, [(.exit 0, { tm := [(3, .int .i64)], bs := [] })])], joins := [], cuts := [] } },
  { fid := 287, sig := { ps := [.agg [.int .u64, .int .u64], .int .i64], pb := [], rs := [.int .u64], rb := [] }, ann := { calls := [], loops := [], joins := [], cuts := [] } },
  { fid := 297, sig := { ps := [.agg [.int .i64, .int .i64, .int .i64, .int .i64]], pb := [], rs := [.bool], rb := [] }, ann := { calls := [], loops := [], joins := [(2, [(.normal, { tm := [(40, .bool)], bs := [.same] })])], cuts := [] } },
  { fid := 298, sig := { ps := [.rows 4], pb := [], rs := [.int .i64, .int .i64, .int .i64], rb := [] }, ann := { calls := [], loops := [(2, { tm := [(2, .int .i64), (3, .int .i64), (4, .int .i64), (9, .int .i64)], bs := [] }, [(.exit 0, { tm := [(2, .int .i64), (3, .int .i64), (4, .int .i64)], bs := [] })])], joins := [], cuts := [] } },
  { fid := 299, sig := { ps := [.rows 4, .agg [.bool, .int .i64]], pb := [], rs := [.int .i64, .int .i64], rb := [] }, ann := { calls := [(20, 162)], loops := [(3, { tm := [(4, .int .i64), (5, .int .i64), (12, .int .i64)], bs := [.same] }, [(.exit 0, { tm := [(4, .int .i64), (5, .int .i64)], bs := [.same] })])], joins := [], cuts := [] } },
  { fid := 300, sig := { ps := [.int .i64, .int .i64], pb := [], rs := [.arr 0], rb := [.ints .u8 false] }, ann := { calls := [], loops := [(3, { tm := [(11, .int .i64)], bs := [.ints .u8 true] }, [(.exit 0, { tm := [], bs := [.ints .u8 true] })])], joins := [], cuts := [] } },
  { fid := 301, sig := { ps := [.agg [.int .i64, .int .i64, .int .i64, .int .i64], .agg [.bool, .int .i64]], pb := [], rs := [.int .i64, .bool], rb := [] }, ann := { calls := [], loops := [], joins := [(2, [(.normal, { tm := [(14, .bool)], bs := [.same, .same] })]), (4, [(.normal, { tm := [(4, .int .i64), (5, .bool)], bs := [.same, .same] })]), (12, [(.normal, { tm := [(7, .bool)], bs := [.same, .same] })]), (69, [(.normal, { tm := [(6, .int .i64)], bs := [.same, .same] })])], cuts := [] } },
  { fid := 302, sig := { ps := [.agg [.int .i64, .int .i64, .int .i64, .int .i64]], pb := [], rs := [.bool], rb := [] }, ann := { calls := [], loops := [], joins := [], cuts := [] } },
  { fid := 303, sig := { ps := [.rows 4, .int .i64], pb := [], rs := [.arr 0], rb := [.ints .u8 false] }, ann := { calls := [(16, 154), (62, 156)], loops := [(3, { tm := [(5, .int .i64), (10, .int .i64)], bs := [] }, [(.exit 0, { tm := [(5, .int .i64)], bs := [] })])], joins := [(10, [(.normal, { tm := [(41, .bool)], bs := [.same] })])], cuts := [] } },
  { fid := 304, sig := { ps := [.int .i64, .int .i64], pb := [], rs := [.arr 0], rb := [.ints .u8 false] }, ann := { calls := [], loops := [(3, { tm := [(5, .arr 0), (6, .int .i64)], bs := [.ints .u8 false] }, [(.exit 0, { tm := [(5, .arr 0)], bs := [.ints .u8 false] })])], joins := [], cuts := [] } },
  { fid := 305, sig := { ps := [.ints .u8, .int .i64, .int .i64], pb := [], rs := [.int .i64], rb := [] }, ann := { calls := [(18, 163), (25, 163)], loops := [(2, { tm := [(7, .int .i64)], bs := [] }, [(.exit 0, { tm := [], bs := [] }), (.ret, { tm := [(6, .int .i64)], bs := [] })])], joins := [], cuts := [] } },
  { fid := 306, sig := { ps := [.ints .u8, .int .i64, .int .i64], pb := [], rs := [.int .i64], rb := [] }, ann := { calls := [(18, 163)], loops := [(2, { tm := [(7, .int .i64)], bs := [] }, [(.exit 0, { tm := [], bs := [] }), (.ret, { tm := [(6, .int .i64)], bs := [] })])], joins := [], cuts := [] } },
  { fid := 307, sig := { ps := [.str], pb := [], rs := [.arr 0], rb := [.ints .u8 false] }, ann := { calls := [], loops := [(3, { tm := [(3, .arr 0), (4, .int .i64)], bs := [.ints .u8 false] }, [(.exit 0, { tm := [(3, .arr 0)], bs := [.ints .u8 false] })])], joins := [], cuts := [] } },
  { fid := 308, sig := { ps := [.int .i64], pb := [], rs := [.str], rb := [] }, ann := { calls := [], loops := [], joins := [], cuts := [] } },
  { fid := 309, sig := { ps := [.int .i64], pb := [], rs := [.str], rb := [] }, ann := { calls := [], loops := [], joins := [], cuts := [] } },
  { fid := 311, sig := { ps := [.agg [.int .i64, .int .i64, .int .i64, .int .i64], .agg [.bool, .int .i64]], pb := [], rs := [.int .i64, .bool], rb := [] }, ann := { calls := [], loops := [], joins := [(2, [(.normal, { tm := [(13, .bool)], bs := [.same, .same] })]), (4, [(.normal, { tm := [(4, .int .i64), (5, .bool)], bs := [.same, .same] })]), (6, [(.normal, { tm := [(33, .bool)], bs := [.same, .same] })]), (83, [(.normal, { tm := [(6, .int .i64)], bs := [.same, .same] })])], cuts := [] } },
  { fid := 312, sig := { ps := [.ints .u8, .int .i64], pb := [], rs := [.int .i64], rb := [] }, ann := { calls := [], loops := [], joins := [], cuts := [] } }]
noncomputable def G : Prg := { P := Tryz.prog, E := E, el := fun t => lookN t els, F := fun i => (getL insts i).getD { fid := 0, sig := { ps := [], pb := [], rs := [], rb := [] }, ann := { calls := [], loops := [], joins := [], cuts := [] } } }
theorem inn0_ok : ∀ {l : List (PV TT)} {x : List Int}, inn0 l = some x → Sames (E := E) l (outs0 x)
  | [], _, h => by cases h
  | [_], _, h => by
    simp only [inn0] at h
    obtain ⟨y0, h0, h⟩ := Option.bind_eq_some_iff.1 h; cases h; exact .cons (V.asInts_same h0) (.nil)
  | _ :: _ :: _, _, h => by cases h
theorem inn1_ok : ∀ {l : List (PV TT)} {x : Mode}, inn1 l = some x → Sames (E := E) l (outs1 x)
  | [], _, h => by cases h
  | [_], _, h => by cases h
  | [_, _], _, h => by cases h
  | [_, _, _], _, h => by cases h
  | [_, _, _, _], _, h => by cases h
  | [_, _, _, _, _], _, h => by
    simp only [inn1] at h
    obtain ⟨y0, h0, h⟩ := Option.bind_eq_some_iff.1 h; obtain ⟨y1, h1, h⟩ := Option.bind_eq_some_iff.1 h; obtain ⟨y2, h2, h⟩ := Option.bind_eq_some_iff.1 h; obtain ⟨y3, h3, h⟩ := Option.bind_eq_some_iff.1 h; obtain ⟨y4, h4, h⟩ := Option.bind_eq_some_iff.1 h; cases h; exact .cons (V.asStr_same h0) (.cons (V.asInt_same h1) (.cons (V.asInt_same h2) (.cons (V.asInt_same h3) (.cons (V.asInt_same h4) (.nil)))))
  | _ :: _ :: _ :: _ :: _ :: _ :: _, _, h => by cases h
theorem inn2_ok : ∀ {l : List (PV TT)} {x : Arr2}, inn2 l = some x → Sames (E := E) l (outs2 x)
  | [], _, h => by cases h
  | [_], _, h => by cases h
  | [_, _], _, h => by
    simp only [inn2] at h
    obtain ⟨y0, h0, h⟩ := Option.bind_eq_some_iff.1 h; obtain ⟨y1, h1, h⟩ := Option.bind_eq_some_iff.1 h; cases h; exact .cons (V.asInt_same h0) (.cons (V.asInt_same h1) (.nil))
  | _ :: _ :: _ :: _, _, h => by cases h
theorem inn3_ok : ∀ {l : List (PV TT)} {x : Pixel}, inn3 l = some x → Sames (E := E) l (outs3 x)
  | [], _, h => by cases h
  | [_], _, h => by cases h
  | [_, _], _, h => by
    simp only [inn3] at h
    obtain ⟨y0, h0, h⟩ := Option.bind_eq_some_iff.1 h; obtain ⟨y1, h1, h⟩ := Option.bind_eq_some_iff.1 h; cases h; exact .cons (V.asInt_same h0) (.cons (V.asInt_same h1) (.nil))
  | _ :: _ :: _ :: _, _, h => by cases h
theorem inn4_ok : ∀ {l : List (PV TT)} {x : Line}, inn4 l = some x → Sames (E := E) l (outs4 x)
  | [], _, h => by cases h
  | [_], _, h => by cases h
  | [_, _], _, h => by cases h
  | [_, _, _], _, h => by cases h
  | [_, _, _, _], _, h => by
    simp only [inn4] at h
    obtain ⟨y0, h0, h⟩ := Option.bind_eq_some_iff.1 h; obtain ⟨y1, h1, h⟩ := Option.bind_eq_some_iff.1 h; obtain ⟨y2, h2, h⟩ := Option.bind_eq_some_iff.1 h; obtain ⟨y3, h3, h⟩ := Option.bind_eq_some_iff.1 h; cases h; exact .cons (V.asInt_same h0) (.cons (V.asInt_same h1) (.cons (V.asInt_same h2) (.cons (V.asInt_same h3) (.nil))))
  | _ :: _ :: _ :: _ :: _ :: _, _, h => by cases h
theorem inn5_ok : ∀ {l : List (PV TT)} {x : List Int}, inn5 l = some x → Sames (E := E) l (outs5 x)
  | [], _, h => by cases h
  | [_], _, h => by
    simp only [inn5] at h
    obtain ⟨y0, h0, h⟩ := Option.bind_eq_some_iff.1 h; cases h; exact .cons (V.asStr_same h0) (.nil)
  | _ :: _ :: _, _, h => by cases h
theorem inn6_ok : ∀ {l : List (PV TT)} {x : Mode'}, inn6 l = some x → Sames (E := E) l (outs6 x)
  | [], _, h => by cases h
  | [_], _, h => by cases h
  | [_, _], _, h => by cases h
  | [_, _, _], _, h => by cases h
  | [_, _, _, _], _, h => by
    simp only [inn6] at h
    obtain ⟨y0, h0, h⟩ := Option.bind_eq_some_iff.1 h; obtain ⟨y1, h1, h⟩ := Option.bind_eq_some_iff.1 h; obtain ⟨y2, h2, h⟩ := Option.bind_eq_some_iff.1 h; obtain ⟨y3, h3, h⟩ := Option.bind_eq_some_iff.1 h; cases h; exact .cons (V.asStr_same h0) (.cons (V.asInts_same h1) (.cons (V.asInt_same h2) (.cons (V.asInt_same h3) (.nil))))
  | _ :: _ :: _ :: _ :: _ :: _, _, h => by cases h
theorem inn7_ok : ∀ {l : List (PV TT)} {x : Arr4}, inn7 l = some x → Sames (E := E) l (outs7 x)
  | [], _, h => by cases h
  | [_], _, h => by cases h
  | [_, _], _, h => by cases h
  | [_, _, _], _, h => by cases h
  | [_, _, _, _], _, h => by
    simp only [inn7] at h
    obtain ⟨y0, h0, h⟩ := Option.bind_eq_some_iff.1 h; obtain ⟨y1, h1, h⟩ := Option.bind_eq_some_iff.1 h; obtain ⟨y2, h2, h⟩ := Option.bind_eq_some_iff.1 h; obtain ⟨y3, h3, h⟩ := Option.bind_eq_some_iff.1 h; cases h; exact .cons (V.asInt_same h0) (.cons (V.asInt_same h1) (.cons (V.asInt_same h2) (.cons (V.asInt_same h3) (.nil))))
  | _ :: _ :: _ :: _ :: _ :: _, _, h => by cases h
theorem inn8_ok : ∀ {l : List (PV TT)} {x : Code}, inn8 l = some x → Sames (E := E) l (outs8 x)
  | [], _, h => by cases h
  | [_], _, h => by cases h
  | [_, _], _, h => by
    simp only [inn8] at h
    obtain ⟨y0, h0, h⟩ := Option.bind_eq_some_iff.1 h; obtain ⟨y1, h1, h⟩ := Option.bind_eq_some_iff.1 h; cases h; exact .cons (V.asInt_same h0) (.cons (V.asInt_same h1) (.nil))
  | _ :: _ :: _ :: _, _, h => by cases h
theorem envOk : EnvOk E := by
  refine EnvOk.of ?_ ?_ ?_
  · intro i l x h
    match i, x, h with
    | 0, x, h => exact inn0_ok h
    | 1, x, h => exact inn1_ok h
    | 2, x, h => exact inn2_ok h
    | 3, x, h => exact inn3_ok h
    | 4, x, h => exact inn4_ok h
    | 5, x, h => exact inn5_ok h
    | 6, x, h => exact inn6_ok h
    | 7, x, h => exact inn7_ok h
    | 8, x, h => exact inn8_ok h
    | i + 9, x, h => cases h
  · intro i x
    match i, x with
    | 0, x => rfl
    | 1, x => rfl
    | 2, x => rfl
    | 3, x => rfl
    | 4, x => rfl
    | 5, x => rfl
    | 6, x => rfl
    | 7, x => rfl
    | 8, x => rfl
    | i + 9, x => rfl
  · intro i x p hf hp
    match i, x with
    | 0, x => exact absurd hf (by decide)
    | 1, x => exact flat_cons (.inr (.inr ⟨_, rfl⟩)) (flat_cons (.inl ⟨_, _, rfl⟩) (flat_cons (.inl ⟨_, _, rfl⟩) (flat_cons (.inl ⟨_, _, rfl⟩) (flat_cons (.inl ⟨_, _, rfl⟩) (flat_nil))))) p hp
    | 2, x => exact flat_cons (.inl ⟨_, _, rfl⟩) (flat_cons (.inl ⟨_, _, rfl⟩) (flat_nil)) p hp
    | 3, x => exact flat_cons (.inl ⟨_, _, rfl⟩) (flat_cons (.inl ⟨_, _, rfl⟩) (flat_nil)) p hp
    | 4, x => exact flat_cons (.inl ⟨_, _, rfl⟩) (flat_cons (.inl ⟨_, _, rfl⟩) (flat_cons (.inl ⟨_, _, rfl⟩) (flat_cons (.inl ⟨_, _, rfl⟩) (flat_nil)))) p hp
    | 5, x => exact flat_cons (.inr (.inr ⟨_, rfl⟩)) (flat_nil) p hp
    | 6, x => exact absurd hf (by decide)
    | 7, x => exact flat_cons (.inl ⟨_, _, rfl⟩) (flat_cons (.inl ⟨_, _, rfl⟩) (flat_cons (.inl ⟨_, _, rfl⟩) (flat_cons (.inl ⟨_, _, rfl⟩) (flat_nil)))) p hp
    | 8, x => exact flat_cons (.inl ⟨_, _, rfl⟩) (flat_cons (.inl ⟨_, _, rfl⟩) (flat_nil)) p hp
    | i + 9, x => exact absurd hf (by simp [E, getL])

theorem elsOk : els.all (okEl G) = true := by kernel_rfl
theorem prgOk : PrgOk G := .of envOk els (fun _ => rfl) elsOk (by kernel_rfl)
noncomputable def bulk0 (x : List Int) : Nat := (x.length + 1) + 0
noncomputable def bulk1 (x : Mode) : Nat := (x.kind.length + 1) + (1 + (1 + (1 + (1 + 0))))
noncomputable def bulk2 (x : Arr2) : Nat := 1 + (1 + 0)
noncomputable def bulk3 (x : Pixel) : Nat := 1 + (1 + 0)
noncomputable def bulk4 (x : Line) : Nat := 1 + (1 + (1 + (1 + 0)))
noncomputable def bulk5 (x : List Int) : Nat := (x.length + 1) + 0
noncomputable def bulk6 (x : Mode') : Nat := (x.name.length + 1) + ((x.bits.length + 1) + (1 + (1 + 0)))
noncomputable def bulk7 (x : Arr4) : Nat := 1 + (1 + (1 + (1 + 0)))
noncomputable def bulk8 (x : Code) : Nat := 1 + (1 + 0)
noncomputable def bulk : (i : Nat) → TT i → Nat
  | 0, x => bulk0 x
  | 1, x => bulk1 x
  | 2, x => bulk2 x
  | 3, x => bulk3 x
  | 4, x => bulk4 x
  | 5, x => bulk5 x
  | 6, x => bulk6 x
  | 7, x => bulk7 x
  | 8, x => bulk8 x
  | _, _ => 0
theorem bulk0_eq (x : List Int) : bulk0 x = bulkPs bulk (outs0 x) := by simp only [bulk0, outs0, bulkPs, bulkP] <;> rfl
theorem bulk1_eq (x : Mode) : bulk1 x = bulkPs bulk (outs1 x) := by simp only [bulk1, outs1, bulkPs, bulkP] <;> rfl
theorem bulk2_eq (x : Arr2) : bulk2 x = bulkPs bulk (outs2 x) := by simp only [bulk2, outs2, bulkPs, bulkP] <;> rfl
theorem bulk3_eq (x : Pixel) : bulk3 x = bulkPs bulk (outs3 x) := by simp only [bulk3, outs3, bulkPs, bulkP] <;> rfl
theorem bulk4_eq (x : Line) : bulk4 x = bulkPs bulk (outs4 x) := by simp only [bulk4, outs4, bulkPs, bulkP] <;> rfl
theorem bulk5_eq (x : List Int) : bulk5 x = bulkPs bulk (outs5 x) := by simp only [bulk5, outs5, bulkPs, bulkP] <;> rfl
theorem bulk6_eq (x : Mode') : bulk6 x = bulkPs bulk (outs6 x) := by simp only [bulk6, outs6, bulkPs, bulkP] <;> rfl
theorem bulk7_eq (x : Arr4) : bulk7 x = bulkPs bulk (outs7 x) := by simp only [bulk7, outs7, bulkPs, bulkP] <;> rfl
theorem bulk8_eq (x : Code) : bulk8 x = bulkPs bulk (outs8 x) := by simp only [bulk8, outs8, bulkPs, bulkP] <;> rfl
theorem rowsOk : RowsOk G bulk where
  bulk i x := by
    match i, x with
    | 0, x => exact bulk0_eq x
    | 1, x => exact bulk1_eq x
    | 2, x => exact bulk2_eq x
    | 3, x => exact bulk3_eq x
    | 4, x => exact bulk4_eq x
    | 5, x => exact bulk5_eq x
    | 6, x => exact bulk6_eq x
    | 7, x => exact bulk7_eq x
    | 8, x => exact bulk8_eq x
    | i + 9, x => rfl
  int e k h := ⟨(prgOk.int e k h).1, okEl_cells elsOk h⟩
  row e i h := by
    have hc := okEl_cells elsOk h
    have hm := lookN_mem h
    simp only [els, List.mem_cons, List.not_mem_nil, or_false, Prod.mk.injEq, reduceCtorEq, and_false, false_or, EK.row.injEq] at hm
    rcases hm with ⟨rfl, rfl⟩ | ⟨rfl, rfl⟩ | ⟨rfl, rfl⟩ | ⟨rfl, rfl⟩ | ⟨rfl, rfl⟩ | ⟨rfl, rfl⟩ | ⟨rfl, rfl⟩ | ⟨rfl, rfl⟩ | ⟨rfl, rfl⟩
    · refine ⟨8, [.str], by kernel_rfl, hc, by decide, fun ps h => ?_⟩
      obtain ⟨y0, r0, rfl, h0⟩ := fits_str h; cases fits_nil h0; exact ⟨y0, rfl⟩
    · refine ⟨8, [.int .i64, .int .i64], by kernel_rfl, hc, by decide, fun ps h => ?_⟩
      obtain ⟨y0, r0, rfl, h0⟩ := fits_int h; obtain ⟨y1, r1, rfl, h1⟩ := fits_int h0; cases fits_nil h1; exact ⟨⟨y0, y1⟩, rfl⟩
    · refine ⟨8, [.ints .u8], by kernel_rfl, hc, by decide, fun ps h => ?_⟩
      obtain ⟨y0, r0, rfl, h0⟩ := fits_ints h; cases fits_nil h0; exact ⟨y0, rfl⟩
    · refine ⟨8, [.str, .int .i64, .int .i64, .int .i64, .int .i64], by kernel_rfl, hc, by decide, fun ps h => ?_⟩
      obtain ⟨y0, r0, rfl, h0⟩ := fits_str h; obtain ⟨y1, r1, rfl, h1⟩ := fits_int h0; obtain ⟨y2, r2, rfl, h2⟩ := fits_int h1; obtain ⟨y3, r3, rfl, h3⟩ := fits_int h2; obtain ⟨y4, r4, rfl, h4⟩ := fits_int h3; cases fits_nil h4; exact ⟨⟨y0, y1, y2, y3, y4⟩, rfl⟩
    · refine ⟨8, [.str, .ints .u8, .int .i64, .int .i64], by kernel_rfl, hc, by decide, fun ps h => ?_⟩
      obtain ⟨y0, r0, rfl, h0⟩ := fits_str h; obtain ⟨y1, r1, rfl, h1⟩ := fits_ints h0; obtain ⟨y2, r2, rfl, h2⟩ := fits_int h1; obtain ⟨y3, r3, rfl, h3⟩ := fits_int h2; cases fits_nil h3; exact ⟨⟨y0, y1, y2, y3⟩, rfl⟩
    · refine ⟨8, [.int .i64, .int .i64], by kernel_rfl, hc, by decide, fun ps h => ?_⟩
      obtain ⟨y0, r0, rfl, h0⟩ := fits_int h; obtain ⟨y1, r1, rfl, h1⟩ := fits_int h0; cases fits_nil h1; exact ⟨⟨y0, y1⟩, rfl⟩
    · refine ⟨8, [.int .i64, .int .i64, .int .i64, .int .i64], by kernel_rfl, hc, by decide, fun ps h => ?_⟩
      obtain ⟨y0, r0, rfl, h0⟩ := fits_int h; obtain ⟨y1, r1, rfl, h1⟩ := fits_int h0; obtain ⟨y2, r2, rfl, h2⟩ := fits_int h1; obtain ⟨y3, r3, rfl, h3⟩ := fits_int h2; cases fits_nil h3; exact ⟨⟨y0, y1, y2, y3⟩, rfl⟩
    · refine ⟨8, [.int .i64, .int .i64, .int .i64, .int .i64], by kernel_rfl, hc, by decide, fun ps h => ?_⟩
      obtain ⟨y0, r0, rfl, h0⟩ := fits_int h; obtain ⟨y1, r1, rfl, h1⟩ := fits_int h0; obtain ⟨y2, r2, rfl, h2⟩ := fits_int h1; obtain ⟨y3, r3, rfl, h3⟩ := fits_int h2; cases fits_nil h3; exact ⟨⟨y0, y1, y2, y3⟩, rfl⟩
    · refine ⟨8, [.int .i64, .int .i64], by kernel_rfl, hc, by decide, fun ps h => ?_⟩
      obtain ⟨y0, r0, rfl, h0⟩ := fits_int h; obtain ⟨y1, r1, rfl, h1⟩ := fits_int h0; cases fits_nil h1; exact ⟨⟨y0, y1⟩, rfl⟩

noncomputable def law13_PageRegions (in1 : Int) (in2 : Int) (in3 : Int) (in4 : Int) (in5 : Int) (in6 : Bool) (in7 : Int) (in8 : Int) (in9 : Int) (in10 : Bool) (in11 : Int) (in12 : Bool) (in13 : Int) (in14 : Int) (in15 : Int) (in16 : Bool) (in17 : Int) (in18 : Int) (in19 : Int) (in20 : List Int) (in21 : Int) (in22 : Int) (in23 : List Int) : Option Bool := call G 0 (in1, in2, in3, in4, in5, in6, in7, in8, in9, in10, in11, in12, in13, in14, in15, in16, in17, in18, in19, in20, in21, in22, in23)
noncomputable def law13_Sane : Option Bool := call G 1 ()
noncomputable def page_Generic (g1 : Int) (g2 : Int) (g3 : Int) (g4 : Int) (g5 : Int) (g6 : Bool) (o7 : Int) (o8 : Int) (o9 : Int) (o10 : Bool) (o11 : Int) (b12 : Int) (b13 : Int) (b14 : List Int) : Option ((List Int) × Int) := call G 2 (g1, g2, g3, g4, g5, g6, o7, o8, o9, o10, o11, b12, b13, b14)
noncomputable def ref13_Generic (g1 : Int) (g2 : Int) (g3 : Int) (g4 : Int) (g5 : Int) (g6 : Bool) (o7 : Int) (o8 : Int) (o9 : Int) (o10 : Bool) (o11 : Int) (b12 : Int) (b13 : Int) (b14 : List Int) : Option ((List Int) × Int) := call G 3 (g1, g2, g3, g4, g5, g6, o7, o8, o9, o10, o11, b12, b13, b14)
noncomputable def ref01_SameBytes (a1 : List Int) (b2 : List Int) : Option Bool := call G 4 (a1, b2)
noncomputable def page_Runs (g1 : Int) (g2 : Int) (g3 : Int) (g4 : Int) (g5 : Int) (g6 : Bool) (two7 : Bool) (b8 : Int) (b9 : Int) (b10 : List Int) : Option ((List Int) × Int) := call G 5 (g1, g2, g3, g4, g5, g6, two7, b8, b9, b10)
noncomputable def ref13_Runs (g1 : Int) (g2 : Int) (g3 : Int) (g4 : Int) (g5 : Int) (g6 : Bool) (two7 : Bool) (b8 : Int) (b9 : Int) (b10 : List Int) : Option ((List Int) × Int) := call G 6 (g1, g2, g3, g4, g5, g6, two7, b8, b9, b10)
noncomputable def page_Refined (g1 : Int) (g2 : Int) (g3 : Int) (g4 : Int) (g5 : Int) (g6 : Bool) (o7 : Int) (o8 : Int) (o9 : Int) (o10 : Bool) (o11 : Int) (b12 : Int) (b13 : Int) (b14 : List Int) (r15 : Int) (r16 : Int) (r17 : List Int) : Option ((List Int) × Int) := call G 7 (g1, g2, g3, g4, g5, g6, o7, o8, o9, o10, o11, b12, b13, b14, r15, r16, r17)
noncomputable def ref13_Refined (g1 : Int) (g2 : Int) (g3 : Int) (g4 : Int) (g5 : Int) (g6 : Bool) (o7 : Int) (o8 : Int) (o9 : Int) (o10 : Bool) (o11 : Int) (b12 : Int) (b13 : Int) (b14 : List Int) (r15 : Int) (r16 : Int) (r17 : List Int) : Option ((List Int) × Int) := call G 8 (g1, g2, g3, g4, g5, g6, o7, o8, o9, o10, o11, b12, b13, b14, r15, r16, r17)
noncomputable def page_Info (w1 : Int) (h2 : Int) (pixel3 : Int) (op4 : Int) : Option ((List Int) × Int) := call G 9 (w1, h2, pixel3, op4)
noncomputable def page_rightBegin (g1 : Int) (g2 : Int) (g3 : Int) (g4 : Int) (g5 : Int) (g6 : Bool) : Option Bool := call G 10 (g1, g2, g3, g4, g5, g6)
noncomputable def generic_Encode (o1 : Int) (o2 : Int) (o3 : Int) (o4 : Bool) (o5 : Int) (b6 : Int) (b7 : Int) (b8 : List Int) : Option ((List Int) × Int) := call G 11 (o1, o2, o3, o4, o5, b6, b7, b8)
noncomputable def page_writer_begin (g1 : Int) (g2 : Int) (g3 : Int) (g4 : Int) (g5 : Int) (g6 : Bool) (b7 : List Int) : Option (List Int) := call G 12 (g1, g2, g3, g4, g5, g6, b7)
noncomputable def page_flag (is1 : Bool) (n2 : Int) : Option Int := call G 13 (is1, n2)
noncomputable def page_writer_byte (l1 : List Int) (b2 : List Int) : Option (List Int) := call G 14 (l1, b2)
noncomputable def page_writer_with (code1 : List Int) (err2 : Int) (b3 : List Int) : Option ((List Int) × Int) := call G 15 (code1, err2, b3)
noncomputable def ref13_isRegion (g1 : Int) (g2 : Int) (g3 : Int) (g4 : Int) (g5 : Int) (g6 : Bool) (b7 : Int) (b8 : Int) (b9 : List Int) : Option Bool := call G 16 (g1, g2, g3, g4, g5, g6, b7, b8, b9)
noncomputable def ref07_Encode (o1 : Int) (o2 : Int) (o3 : Int) (o4 : Bool) (o5 : Int) (b6 : Int) (b7 : Int) (b8 : List Int) : Option ((List Int) × Int) := call G 17 (o1, o2, o3, o4, o5, b6, b7, b8)
noncomputable def ref13_bit (is1 : Bool) : Option Int := call G 18 is1
noncomputable def ref13_begin (g1 : Int) (g2 : Int) (g3 : Int) (g4 : Int) (g5 : Int) (g6 : Bool) : Option (List Int) := call G 19 (g1, g2, g3, g4, g5, g6)
noncomputable def ref13_adaptive (o1 : Int) (o2 : Int) (o3 : Int) (o4 : Bool) (o5 : Int) : Option (List Int) := call G 20 (o1, o2, o3, o4, o5)
noncomputable def ref13_join (l1 : List (List Int)) : Option (List Int) := call G 21 l1
noncomputable def runs_One (b1 : Int) (b2 : Int) (b3 : List Int) : Option ((List Int) × Int) := call G 22 (b1, b2, b3)
noncomputable def runs_Two (b1 : Int) (b2 : Int) (b3 : List Int) : Option ((List Int) × Int) := call G 23 (b1, b2, b3)
noncomputable def ref06_One (b1 : Int) (b2 : Int) (b3 : List Int) : Option ((List Int) × Int) := call G 24 (b1, b2, b3)
noncomputable def ref06_Two (b1 : Int) (b2 : Int) (b3 : List Int) : Option ((List Int) × Int) := call G 25 (b1, b2, b3)
noncomputable def refine_Encode (o1 : Int) (o2 : Int) (o3 : Int) (o4 : Bool) (o5 : Int) (b6 : Int) (b7 : Int) (b8 : List Int) (r9 : Int) (r10 : Int) (r11 : List Int) : Option ((List Int) × Int) := call G 26 (o1, o2, o3, o4, o5, b6, b7, b8, r9, r10, r11)
noncomputable def page_writer_signed (l1 : List Int) (b2 : List Int) : Option (List Int) := call G 27 (l1, b2)
noncomputable def ref08_Encode (o1 : Int) (o2 : Int) (o3 : Int) (o4 : Bool) (o5 : Int) (b6 : Int) (b7 : Int) (b8 : List Int) (r9 : Int) (r10 : Int) (r11 : List Int) : Option ((List Int) × Int) := call G 28 (o1, o2, o3, o4, o5, b6, b7, b8, r9, r10, r11)
noncomputable def ref13_signed (n1 : Int) : Option (List Int) := call G 29 n1
noncomputable def bitmap_New (w1 : Int) (h2 : Int) (pixel3 : Int) : Option (Int × Int × (List Int) × Int) := call G 30 (w1, h2, pixel3)
noncomputable def page_writer_size (l1 : List Int) (b2 : List Int) : Option (List Int) := call G 31 (l1, b2)
noncomputable def page_near (n1 : Int) : Option Bool := call G 32 n1
noncomputable def generic_Valid (o1 : Int) (o2 : Int) (o3 : Int) (o4 : Bool) (o5 : Int) : Option Bool := call G 33 (o1, o2, o3, o4, o5)
noncomputable def bitmap_Valid (b1 : Int) (b2 : Int) (b3 : List Int) : Option Bool := call G 34 (b1, b2, b3)
noncomputable def generic_contexts (o1 : Int) (o2 : Int) (o3 : Int) (o4 : Bool) (o5 : Int) : Option Int := call G 35 (o1, o2, o3, o4, o5)
noncomputable def coder_New (kind1 : Int) (n2 : Int) : Option (Int × (List Int) × Int) := call G 36 (kind1, n2)
noncomputable def coder_NewEncoder (m1 : Int) (m2 : List Int) : Option ((Int × Int × Int × (List Int) × (List Int)) ⊕ (Unit)) := call G 37 (m1, m2)
noncomputable def generic_put (base1 : Int) (o2 : Int) (o3 : Int) (o4 : Int) (o5 : Bool) (o6 : Int) (b7 : Int) (b8 : Int) (b9 : List Int) (skip10 : Int) (skip11 : Int) (skip12 : List Int) (b13 : Int) (b14 : Int) (b15 : Int) (b16 : List Int) (b17 : List Int) : Option (Int × Int × Int × (List Int) × (List Int)) := call G 38 (base1, o2, o3, o4, o5, o6, b7, b8, b9, skip10, skip11, skip12, b13, b14, b15, b16, b17)
noncomputable def coder_Encoder_End (b1 : Int) (b2 : Int) (b3 : Int) (b4 : List Int) (b5 : List Int) : Option ((List Int) × Int × Int × Int × (List Int) × (List Int)) := call G 39 (b1, b2, b3, b4, b5)
noncomputable def ref13_isBegin (g1 : Int) (g2 : Int) (g3 : Int) (g4 : Int) (g5 : Int) (g6 : Bool) : Option Bool := call G 40 (g1, g2, g3, g4, g5, g6)
noncomputable def ref07_Size (o1 : Int) (o2 : Int) (o3 : Int) (o4 : Bool) (o5 : Int) : Option (Int × Int) := call G 41 (o1, o2, o3, o4, o5)
noncomputable def ref02_New (kind1 : Int) (n2 : Int) : Option (Int × (List Int) × Int) := call G 42 (kind1, n2)
noncomputable def ref02_NewEncoder (m1 : Int) (m2 : List Int) : Option ((Int × Int × Int × (List Int) × (List Int)) ⊕ (Unit)) := call G 43 (m1, m2)
noncomputable def ref07_Put (base1 : Int) (o2 : Int) (o3 : Int) (o4 : Int) (o5 : Bool) (o6 : Int) (b7 : Int) (b8 : Int) (b9 : List Int) (skip10 : Int) (skip11 : Int) (skip12 : List Int) (b13 : Int) (b14 : Int) (b15 : Int) (b16 : List Int) (b17 : List Int) : Option (Int × Int × Int × Int × (List Int) × (List Int)) := call G 44 (base1, o2, o3, o4, o5, o6, b7, b8, b9, skip10, skip11, skip12, b13, b14, b15, b16, b17)
noncomputable def ref02_Encoder_End (b1 : Int) (b2 : Int) (b3 : Int) (b4 : List Int) (b5 : List Int) : Option ((List Int) × Int × Int × Int × (List Int) × (List Int)) := call G 45 (b1, b2, b3, b4, b5)
noncomputable def ref13_size (n1 : Int) : Option (List Int) := call G 46 n1
noncomputable def runs_lines (b1 : Int) (b2 : Int) (b3 : List Int) : Option (List (List Int)) := call G 47 (b1, b2, b3)
noncomputable def runs_row (pixels1 : List Int) : Option (List Int) := call G 48 pixels1
noncomputable def runs_runBits (n1 : Int) (colour2 : Int) : Option (List Int) := call G 49 (n1, colour2)
noncomputable def bits_Pack (bits1 : List Int) : Option ((List Int) × Int) := call G 50 bits1
noncomputable def runs_modes (above1 : List Int) (pixels2 : List Int) : Option (List Mode) := call G 51 (above1, pixels2)
noncomputable def runs_mode_bits (m1 : List Int) (m2 : Int) (m3 : Int) (m4 : Int) (m5 : Int) : Option (List Int) := call G 52 (m1, m2, m3, m4, m5)
noncomputable def ref06_IsBitmap (b1 : Int) (b2 : Int) (b3 : List Int) : Option Bool := call G 53 (b1, b2, b3)
noncomputable def ref06_OneBits (b1 : Int) (b2 : Int) (b3 : List Int) : Option (List Int) := call G 54 (b1, b2, b3)
noncomputable def ref04_Packed (l1 : List Int) : Option (List Int) := call G 55 l1
noncomputable def ref06_TwoBits (b1 : Int) (b2 : Int) (b3 : List Int) : Option (List Int) := call G 56 (b1, b2, b3)
noncomputable def refine_Valid (o1 : Int) (o2 : Int) (o3 : Int) (o4 : Bool) (o5 : Int) : Option Bool := call G 57 (o1, o2, o3, o4, o5)
noncomputable def refine_model (o1 : Int) (o2 : Int) (o3 : Int) (o4 : Bool) (o5 : Int) : Option (Int × (List Int)) := call G 58 (o1, o2, o3, o4, o5)
noncomputable def refine_Put (base1 : Int) (o2 : Int) (o3 : Int) (o4 : Int) (o5 : Bool) (o6 : Int) (b7 : Int) (b8 : Int) (b9 : List Int) (r10 : Int) (r11 : Int) (r12 : List Int) (b13 : Int) (b14 : Int) (b15 : Int) (b16 : List Int) (b17 : List Int) : Option (Int × Int × Int × Int × (List Int) × (List Int)) := call G 59 (base1, o2, o3, o4, o5, o6, b7, b8, b9, r10, r11, r12, b13, b14, b15, b16, b17)
noncomputable def bits_Signed (n1 : Int) : Option ((List Int) × Int) := call G 60 n1
noncomputable def ref08_Valid (o1 : Int) (o2 : Int) (o3 : Int) (o4 : Bool) (o5 : Int) : Option Bool := call G 61 (o1, o2, o3, o4, o5)
noncomputable def ref08_fresh (o1 : Int) (o2 : Int) (o3 : Int) (o4 : Bool) (o5 : Int) : Option (Int × (List Int)) := call G 62 (o1, o2, o3, o4, o5)
noncomputable def ref08_Put (base1 : Int) (o2 : Int) (o3 : Int) (o4 : Int) (o5 : Bool) (o6 : Int) (b7 : Int) (b8 : Int) (b9 : List Int) (r10 : Int) (r11 : Int) (r12 : List Int) (b13 : Int) (b14 : Int) (b15 : Int) (b16 : List Int) (b17 : List Int) : Option (Int × Int × Int × Int × (List Int) × (List Int)) := call G 63 (base1, o2, o3, o4, o5, o6, b7, b8, b9, r10, r11, r12, b13, b14, b15, b16, b17)
noncomputable def ref01_Signed (n1 : Int) : Option ((List Int) × Int) := call G 64 n1
noncomputable def bitmap_blank (w1 : Int) (h2 : Int) : Option (Int × Int × Int × (List Int)) := call G 65 (w1, h2)
noncomputable def bits_Size (n1 : Int) : Option ((List Int) × Int) := call G 66 n1
noncomputable def bitmap_fits (w1 : Int) (h2 : Int) : Option Bool := call G 67 (w1, h2)
noncomputable def generic_pixels (template1 : Int) : Option (List Arr2) := call G 68 template1
noncomputable def coder_Valid (m1 : Int) (m2 : List Int) : Option Bool := call G 69 (m1, m2)
noncomputable def coder_begin (m1 : Int) (m2 : List Int) : Option (Int × Int × Int × (List Int)) := call G 70 (m1, m2)
noncomputable def generic_newPlane (o1 : Int) (o2 : Int) (o3 : Int) (o4 : Bool) (o5 : Int) (w6 : Int) (h7 : Int) : Option (Int × Int × (List Int) × (List Arr2)) := call G 71 (o1, o2, o3, o4, o5, w6, h7)
noncomputable def generic_plane_above (y1 : Int) (skip2 : Int) (skip3 : Int) (skip4 : List Int) (b5 : Int) (b6 : Int) (b7 : List Int) (b8 : List Arr2) : Option ((List Int) × Int × Int × (List Int) × (List Arr2)) := call G 72 (y1, skip2, skip3, skip4, b5, b6, b7, b8)
noncomputable def bytes_Equal (a1 : List Int) (b2 : List Int) : Option Bool := call G 73 (a1, b2)
noncomputable def coder_Encoder_Put (ctx1 : Int) (bit2 : Int) (b3 : Int) (b4 : Int) (b5 : Int) (b6 : List Int) (b7 : List Int) : Option (Int × Int × Int × Int × (List Int) × (List Int)) := call G 74 (ctx1, bit2, b3, b4, b5, b6, b7)
noncomputable def generic_skips (skip1 : Int) (skip2 : Int) (skip3 : List Int) (i4 : Int) : Option Bool := call G 75 (skip1, skip2, skip3, i4)
noncomputable def generic_plane_context (x1 : Int) (y2 : Int) (b3 : Int) (b4 : Int) (b5 : List Int) (b6 : List Arr2) : Option (Int × Int × Int × (List Int) × (List Arr2)) := call G 76 (x1, y2, b3, b4, b5, b6)
noncomputable def coder_Encoder_none (b1 : Int) (b2 : Int) (b3 : Int) (b4 : List Int) (b5 : List Int) : Option (Bool × Int × Int × Int × (List Int) × (List Int)) := call G 77 (b1, b2, b3, b4, b5)
noncomputable def ref05_Sides (w1 : Int) (h2 : Int) : Option Bool := call G 78 (w1, h2)
noncomputable def ref07_Valid (o1 : Int) (o2 : Int) (o3 : Int) (o4 : Bool) (o5 : Int) : Option Bool := call G 79 (o1, o2, o3, o4, o5)
noncomputable def ref07_pixels (o1 : Int) (o2 : Int) (o3 : Int) (o4 : Bool) (o5 : Int) : Option (List Pixel) := call G 80 (o1, o2, o3, o4, o5)
noncomputable def ref02_Valid (m1 : Int) (m2 : List Int) : Option Bool := call G 81 (m1, m2)
noncomputable def ref02_Copy (m1 : Int) (m2 : List Int) : Option (Int × (List Int)) := call G 82 (m1, m2)
noncomputable def ref02_Whole : Option (Int × Int) := call G 83 ()
noncomputable def ref05_Valid (b1 : Int) (b2 : Int) (b3 : List Int) : Option Bool := call G 84 (b1, b2, b3)
noncomputable def ref05_At (b1 : Int) (b2 : Int) (b3 : List Int) (x4 : Int) (y5 : Int) : Option Int := call G 85 (b1, b2, b3, x4, y5)
noncomputable def ref02_Encoder_Model (b1 : Int) (b2 : Int) (b3 : Int) (b4 : List Int) (b5 : List Int) : Option (Int × (List Int) × Int × Int × Int × (List Int) × (List Int)) := call G 86 (b1, b2, b3, b4, b5)
noncomputable def ref07_room (o1 : Int) (o2 : Int) (o3 : Int) (o4 : Bool) (o5 : Int) (base6 : Int) (states7 : Int) (w8 : Int) (h9 : Int) (skip10 : Int) (skip11 : Int) (skip12 : List Int) : Option Int := call G 87 (o1, o2, o3, o4, o5, base6, states7, w8, h9, skip10, skip11, skip12)
noncomputable def ref07_typical (b1 : Int) (b2 : Int) (b3 : List Int) (skip4 : Int) (skip5 : Int) (skip6 : List Int) (y7 : Int) : Option (List Int) := call G 88 (b1, b2, b3, skip4, skip5, skip6, y7)
noncomputable def ref02_Encoder_Put (ctx1 : Int) (bit2 : Int) (b3 : Int) (b4 : Int) (b5 : Int) (b6 : List Int) (b7 : List Int) : Option (Int × Int × Int × Int × (List Int) × (List Int)) := call G 89 (ctx1, bit2, b3, b4, b5, b6, b7)
noncomputable def ref07_context (o1 : Int) (o2 : Int) (o3 : Int) (o4 : Bool) (o5 : Int) (b6 : Int) (b7 : Int) (b8 : List Int) (x9 : Int) (y10 : Int) : Option Int := call G 90 (o1, o2, o3, o4, o5, b6, b7, b8, x9, y10)
noncomputable def ref02_Interval_End (x1 : Int) (x2 : Int) : Option (List Int) := call G 91 (x1, x2)
noncomputable def ref01_Size (n1 : Int) : Option ((List Int) × Int) := call G 92 n1
noncomputable def prefix_Standard (k1 : Int) : Option ((List Line) × Int) := call G 93 k1
noncomputable def prefix_Bits (a1 : List Line) (n2 : Bool) (n3 : Int) : Option (Int × (List Int)) := call G 94 (a1, n2, n3)
noncomputable def runs_remains (colour1 : Int) : Option (List Line) := call G 95 colour1
noncomputable def runs_marks (above1 : List Int) (a2 : Int) (colour3 : Int) : Option (Int × Int) := call G 96 (above1, a2, colour3)
noncomputable def runs_change (pixels1 : List Int) (a2 : Int) (colour3 : Int) : Option Int := call G 97 (pixels1, a2, colour3)
noncomputable def runs_list (s1 : List Int) : Option (List Int) := call G 98 s1
noncomputable def runs_uprights : Option (List (List Int)) := call G 99 ()
noncomputable def ref06_IsSize (w1 : Int) (h2 : Int) : Option Bool := call G 100 (w1, h2)
noncomputable def ref06_IsRow (l1 : List Int) : Option Bool := call G 101 l1
noncomputable def ref06_RowOf (b1 : Int) (b2 : Int) (b3 : List Int) (y4 : Int) : Option (List Int) := call G 102 (b1, b2, b3, y4)
noncomputable def ref06_Row (row1 : List Int) : Option (List Int) := call G 103 row1
noncomputable def ref06_RunBits (n1 : Int) (colour2 : Int) : Option (List Int) := call G 104 (n1, colour2)
noncomputable def ref06_Modes (above1 : List Int) (row2 : List Int) : Option (List Mode') := call G 105 (above1, row2)
noncomputable def refine_contexts (template1 : Int) : Option Int := call G 106 template1
noncomputable def coder_Encoder_Model (b1 : Int) (b2 : Int) (b3 : Int) (b4 : List Int) (b5 : List Int) : Option (Int × (List Int) × Int × Int × Int × (List Int) × (List Int)) := call G 107 (b1, b2, b3, b4, b5)
noncomputable def refine_fits (m1 : Int) (m2 : List Int) (base3 : Int) (o4 : Int) (o5 : Int) (o6 : Int) (o7 : Bool) (o8 : Int) : Option Bool := call G 108 (m1, m2, base3, o4, o5, o6, o7, o8)
noncomputable def refine_newRegion (o1 : Int) (o2 : Int) (o3 : Int) (o4 : Bool) (o5 : Int) (w6 : Int) (h7 : Int) (pix8 : List Int) (r9 : Int) (r10 : Int) (r11 : List Int) : Option (Int × Int × Int × Bool × Int × Int × Int × (List Int) × Int × Int × (List Int)) := call G 109 (o1, o2, o3, o4, o5, w6, h7, pix8, r9, r10, r11)
noncomputable def refine_region_typical (y1 : Int) (b2 : Int) (b3 : Int) (b4 : Int) (b5 : Bool) (b6 : Int) (b7 : Int) (b8 : Int) (b9 : List Int) (b10 : Int) (b11 : Int) (b12 : List Int) : Option (Bool × Int × Int × Int × Bool × Int × Int × Int × (List Int) × Int × Int × (List Int)) := call G 110 (y1, b2, b3, b4, b5, b6, b7, b8, b9, b10, b11, b12)
noncomputable def refine_region_flat (x1 : Int) (y2 : Int) (b3 : Int) (b4 : Int) (b5 : Int) (b6 : Bool) (b7 : Int) (b8 : Int) (b9 : Int) (b10 : List Int) (b11 : Int) (b12 : Int) (b13 : List Int) : Option (Int × Bool × Int × Int × Int × Bool × Int × Int × Int × (List Int) × Int × Int × (List Int)) := call G 111 (x1, y2, b3, b4, b5, b6, b7, b8, b9, b10, b11, b12, b13)
noncomputable def refine_region_context (x1 : Int) (y2 : Int) (b3 : Int) (b4 : Int) (b5 : Int) (b6 : Bool) (b7 : Int) (b8 : Int) (b9 : Int) (b10 : List Int) (b11 : Int) (b12 : Int) (b13 : List Int) : Option (Int × Int × Int × Int × Bool × Int × Int × Int × (List Int) × Int × Int × (List Int)) := call G 112 (x1, y2, b3, b4, b5, b6, b7, b8, b9, b10, b11, b12, b13)
noncomputable def refine_grid_at (g1 : Int) (g2 : Int) (g3 : List Int) (x4 : Int) (y5 : Int) : Option Int := call G 113 (g1, g2, g3, x4, y5)
noncomputable def ref08_size (template1 : Int) : Option Int := call G 114 template1
noncomputable def ref08_asked (o1 : Int) (o2 : Int) (o3 : Int) (o4 : Bool) (o5 : Int) (right6 : Bool) (base7 : Int) (m8 : Int) (m9 : List Int) : Option Int := call G 115 (o1, o2, o3, o4, o5, right6, base7, m8, m9)
noncomputable def ref08_Row (o1 : Int) (o2 : Int) (o3 : Int) (o4 : Bool) (o5 : Int) (b6 : Int) (b7 : Int) (b8 : List Int) (r9 : Int) (r10 : Int) (r11 : List Int) (y12 : Int) : Option Bool := call G 116 (o1, o2, o3, o4, o5, b6, b7, b8, r9, r10, r11, y12)
noncomputable def ref08_Alike (o1 : Int) (o2 : Int) (o3 : Int) (o4 : Bool) (o5 : Int) (r6 : Int) (r7 : Int) (r8 : List Int) (x9 : Int) (y10 : Int) : Option (Int × Bool) := call G 117 (o1, o2, o3, o4, o5, r6, r7, r8, x9, y10)
noncomputable def ref08_Context (o1 : Int) (o2 : Int) (o3 : Int) (o4 : Bool) (o5 : Int) (b6 : Int) (b7 : Int) (b8 : List Int) (r9 : Int) (r10 : Int) (r11 : List Int) (x12 : Int) (y13 : Int) : Option Int := call G 118 (o1, o2, o3, o4, o5, b6, b7, b8, r9, r10, r11, x12, y13)
noncomputable def ref06_Pix (b1 : Int) (b2 : Int) (b3 : List Int) (x4 : Int) (y5 : Int) : Option Int := call G 119 (b1, b2, b3, x4, y5)
noncomputable def coder_clone (m1 : Int) (m2 : List Int) : Option (Int × (List Int)) := call G 120 (m1, m2)
noncomputable def coder_chances : Option Unit := call G 121 ()
noncomputable def generic_plane_at (x1 : Int) (y2 : Int) (b3 : Int) (b4 : Int) (b5 : List Int) (b6 : List Arr2) : Option (Int × Int × Int × (List Int) × (List Arr2)) := call G 122 (x1, y2, b3, b4, b5, b6)
noncomputable def coder_interval_mid (ctx1 : Int) (b2 : Int) (b3 : Int) (b4 : Int) (b5 : List Int) (b6 : List Int) : Option (Int × Int × Int × Int × (List Int) × (List Int)) := call G 123 (ctx1, b2, b3, b4, b5, b6)
noncomputable def coder_interval_take (ctx1 : Int) (bit2 : Int) (mid3 : Int) (b4 : Int) (b5 : Int) (b6 : Int) (b7 : List Int) (b8 : List Int) : Option (Int × Int × Int × (List Int) × (List Int)) := call G 124 (ctx1, bit2, mid3, b4, b5, b6, b7, b8)
noncomputable def coder_interval_same (b1 : Int) (b2 : Int) (b3 : Int) (b4 : List Int) (b5 : List Int) : Option (Bool × Int × Int × Int × (List Int) × (List Int)) := call G 125 (b1, b2, b3, b4, b5)
noncomputable def coder_interval_lose (b1 : Int) (b2 : Int) (b3 : Int) (b4 : List Int) (b5 : List Int) : Option (Int × Int × Int × Int × (List Int) × (List Int)) := call G 126 (b1, b2, b3, b4, b5)
noncomputable def ref07_template (n1 : Int) : Option (List Pixel) := call G 127 n1
noncomputable def ref05_inside (b1 : Int) (b2 : Int) (b3 : List Int) (x4 : Int) (y5 : Int) : Option Bool := call G 128 (b1, b2, b3, x4, y5)
noncomputable def ref07_none (skip1 : Int) (skip2 : Int) (skip3 : List Int) : Option Bool := call G 129 (skip1, skip2, skip3)
noncomputable def ref02_Likely (kind1 : Int) (state2 : Int) : Option Int := call G 130 (kind1, state2)
noncomputable def ref02_Interval_Part (x1 : Int) (x2 : Int) (p3 : Int) (bit4 : Int) : Option (Int × Int) := call G 131 (x1, x2, p3, bit4)
noncomputable def ref02_After (kind1 : Int) (state2 : Int) (bit3 : Int) : Option Int := call G 132 (kind1, state2, bit3)
noncomputable def ref02_Interval_Fixed (x1 : Int) (x2 : Int) : Option Bool := call G 133 (x1, x2)
noncomputable def ref02_Interval_Shifted (x1 : Int) (x2 : Int) : Option (Int × Int) := call G 134 (x1, x2)
noncomputable def prefix_lines (l1 : List Arr4) : Option (List Line) := call G 135 l1
noncomputable def prefix_Valid (a1 : List Line) : Option Bool := call G 136 a1
noncomputable def prefix_codes (a1 : List Line) : Option (List Code) := call G 137 a1
noncomputable def prefix_put (a1 : List Line) (l2 : List Code) (n3 : Bool) (n4 : Int) : Option (Int × (List Int)) := call G 138 (a1, l2, n3, n4)
noncomputable def ref04_Standard (k1 : Int) : Option (List Line) := call G 139 k1
noncomputable def ref04_Bits (a1 : List Line) (n2 : Bool) (n3 : Int) : Option ((List Int) × Bool) := call G 140 (a1, n2, n3)
noncomputable def ref06_table (colour1 : Int) : Option (List Line) := call G 141 colour1
noncomputable def ref06_Choice (above1 : List Int) (row2 : List Int) (a3 : Int) (colour4 : Int) : Option ((List Int) × (List Int) × Int × Int) := call G 142 (above1, row2, a3, colour4)
noncomputable def refine_fresh (template1 : Int) : Option (List Arr2) := call G 143 template1
noncomputable def refine_beside : Option (List Arr2) := call G 144 ()
noncomputable def coder_table_chance (kind1 : Int) (s2 : Int) : Option Int := call G 145 (kind1, s2)
noncomputable def coder_next (kind1 : Int) (s2 : Int) (bit3 : Int) : Option Int := call G 146 (kind1, s2, bit3)
noncomputable def ref02_unlikely (k1 : Int) : Option Int := call G 147 k1
noncomputable def ref02_Interval_Mid (x1 : Int) (x2 : Int) (p3 : Int) : Option Int := call G 148 (x1, x2, p3)
noncomputable def prefix_isLine (x1 : Int) (x2 : Int) (x3 : Int) (x4 : Int) : Option Bool := call G 149 (x1, x2, x3, x4)
noncomputable def prefix_weight (a1 : List Line) : Option (Int × Int × Int) := call G 150 a1
noncomputable def prefix_line (a1 : List Line) (n2 : Bool) (n3 : Int) : Option (Int × Int) := call G 151 (a1, n2, n3)
noncomputable def prefix_digits (x1 : Int) (n2 : Int) : Option (List Int) := call G 152 (x1, n2)
noncomputable def ref04_Place (x1 : Int) (x2 : Int) (x3 : Int) (x4 : Int) (n5 : Bool) (n6 : Int) : Option (Int × Bool) := call G 153 (x1, x2, x3, x4, n5, n6)
noncomputable def ref04_used (x1 : Int) (x2 : Int) (x3 : Int) (x4 : Int) : Option Bool := call G 154 (x1, x2, x3, x4)
noncomputable def ref04_Code (a1 : List Line) (i2 : Int) : Option (List Int) := call G 155 (a1, i2)
noncomputable def ref04_digits (n1 : Int) (many2 : Int) : Option (List Int) := call G 156 (n1, many2)
noncomputable def ref06_change (above1 : List Int) (a2 : Int) (colour3 : Int) : Option Int := call G 157 (above1, a2, colour3)
noncomputable def ref06_first (row1 : List Int) (behind2 : Int) (colour3 : Int) : Option Int := call G 158 (row1, behind2, colour3)
noncomputable def ref06_bitsOf (s1 : List Int) : Option (List Int) := call G 159 s1
noncomputable def ref06_name (d1 : Int) : Option (List Int) := call G 160 d1
noncomputable def ref06_upright (d1 : Int) : Option (List Int) := call G 161 d1
noncomputable def prefix_offset (x1 : Int) (x2 : Int) (x3 : Int) (x4 : Int) (n5 : Bool) (n6 : Int) : Option (Int × Bool) := call G 162 (x1, x2, x3, x4, n5, n6)
noncomputable def ref06_at (row1 : List Int) (x2 : Int) : Option Int := call G 163 (row1, x2)
end
end Go.Proofs.YtkccnhkhjncpkaaGreat.P
