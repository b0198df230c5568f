/- The program as the value reading has it: kinds of elements, functions, and that all fits. Printed by wip/tool/vsym.py. -/
import Derived.KernelRfl
import Derived.Test.YtmdlomednkfcoaaGreatProg
import Derived.Test.YtmdlomednkfcoaaGreatRow
namespace Go.Proofs.YtmdlomednkfcoaaGreat.P
open Go Go.Proofs.YtmdlomednkfcoaaGreat.V
set_option linter.unusedVariables false
set_option linter.unusedSimpArgs false
set_option maxRecDepth 100000
noncomputable section
structure Rgb where
  r : Int
  g : Int
  b : Int

structure Placed where
  pix_w : Int
  pix_h : Int
  pix_pix : List Int
  x : Int
  y : Int

structure Point where
  x : Int
  y : Int

noncomputable def TT : Nat → Type
  | 0 => Rgb
  | 1 => List Int
  | 2 => Placed
  | 3 => Bool
  | 4 => Point
  | _ => Unit
noncomputable def outs0 (x : Rgb) : List (PV TT) := [.int .i64 x.r, .int .i64 x.g, .int .i64 x.b]
noncomputable def outs1 (x : List Int) : List (PV TT) := [.ints .u8 x]
noncomputable def outs2 (x : Placed) : List (PV TT) := [.int .i64 x.pix_w, .int .i64 x.pix_h, .ints .u8 x.pix_pix, .int .i64 x.x, .int .i64 x.y]
noncomputable def outs3 (x : Bool) : List (PV TT) := [.bool x]
noncomputable def outs4 (x : Point) : List (PV TT) := [.int .i64 x.x, .int .i64 x.y]
noncomputable def outs : (i : Nat) → TT i → List (PV TT)
  | 0, x => outs0 x
  | 1, x => outs1 x
  | 2, x => outs2 x
  | 3, x => outs3 x
  | 4, x => outs4 x
  | _, _ => []
noncomputable def inn0 : List (PV TT) → Option Rgb
  | [c0, c1, c2] => (V.asInt .i64 c0).bind fun y0 => (V.asInt .i64 c1).bind fun y1 => (V.asInt .i64 c2).bind fun y2 => some (Rgb.mk y0 y1 y2)
  | _ => none
noncomputable def inn1 : List (PV TT) → Option (List Int)
  | [c0] => (V.asInts .u8 c0).bind fun y0 => some y0
  | _ => none
noncomputable def inn2 : List (PV TT) → Option Placed
  | [c0, c1, c2, c3, c4] => (V.asInt .i64 c0).bind fun y0 => (V.asInt .i64 c1).bind fun y1 => (V.asInts .u8 c2).bind fun y2 => (V.asInt .i64 c3).bind fun y3 => (V.asInt .i64 c4).bind fun y4 => some (Placed.mk y0 y1 y2 y3 y4)
  | _ => none
noncomputable def inn3 : List (PV TT) → Option Bool
  | [c0] => (V.asBool c0).bind fun y0 => some y0
  | _ => none
noncomputable def inn4 : List (PV TT) → Option Point
  | [c0, c1] => (V.asInt .i64 c0).bind fun y0 => (V.asInt .i64 c1).bind fun y1 => some (Point.mk y0 y1)
  | _ => none
noncomputable def inn : (i : Nat) → List (PV TT) → Option (TT i)
  | 0, l => inn0 l
  | 1, l => inn1 l
  | 2, l => inn2 l
  | 3, l => inn3 l
  | 4, l => inn4 l
  | _, _ => none
noncomputable def E : Env := { T := TT, outs := outs, inn := inn, sz := fun i => (getL [3, 1, 5, 1, 2] i).getD 0, flat := fun i => (getL [true, false, false, true, true] i).getD false }
noncomputable def els : List (TypeId × EK) := [(3, .int .i64), (4, .row 3), (5, .int .u8), (22, .row 1), (40, .row 0), (55, .row 2), (104, .row 4)]
noncomputable abbrev I6 : TSh := .int .i64
noncomputable def insts : List FInst := [
  { fid := 5, sig := { ps := [.agg [I6, I6, .ints .i64, .ints .i64, .ints .i64], .agg [I6, I6, .ints .u8], I6], rs := [.bool] }, ann := { calls := [(24, 1), (29, 2), (37, 3), (54, 4), (81, 1)], loops := [(8, { tm := [(59, I6)], bs := [.same, .same] }, [(.exit 0, { tm := [], bs := [.same, .same] }), (.ret, { tm := [(6, .bool)], bs := [.same, .same] })])], joins := [(2, [(.normal, { tm := [(23, .bool)], bs := [.same, .same] })]), (10, [(.normal, { tm := [(56, .bool)], bs := [.same, .same] })])] } },
  { fid := 7, sig := { rs := [.bool] }, ann := { calls := [(7, 5), (14, 6), (15, 7), (19, 8)] } },
  { fid := 15, sig := { ps := [.agg [I6, I6, .ints .i64, .ints .i64, .ints .i64], .agg [I6, I6, .ints .u8], I6], rs := [.rows 0, .ints .i64, I6] }, ann := { calls := [(19, 9), (24, 10), (36, 11), (47, 12), (50, 13), (71, 14)], loops := [(9, { tm := [(9, .arr 2), (10, .arr 3), (41, I6)], bs := [.same, .same, .rows 0 false, .ints .i64 false] }, [(.exit 1, { tm := [(9, .arr 2), (10, .arr 3)], bs := [.same, .same, .rows 0 false, .ints .i64 false] })])], joins := [(6, [(.normal, { tm := [(21, .bool)], bs := [.same, .same] })]), (26, [(.normal, { tm := [(51, .bool)], bs := [.same, .same, .same, .same, .same, .same] })]), (35, [(.normal, { tm := [], bs := [.same, .same] }), (.ret, { tm := [(6, .rows 0), (7, .ints .i64), (8, I6)], bs := [.same, .same] })]), (103, [(.normal, { tm := [(9, .arr 2), (16, I6)], bs := [.same, .same, .rows 0 false, .same, .same, .same] })]), (133, [(.normal, { tm := [(16, I6)], bs := [.same, .same, .same, .same, .same, .same] })])] } },
  { fid := 16, sig := { ps := [.agg [I6, I6, .ints .i64, .ints .i64, .ints .i64], .agg [I6, I6, .ints .u8], I6], rs := [.rows 0, .ints .i64, I6] }, ann := { calls := [(21, 15), (27, 16), (38, 17), (51, 18), (57, 18), (70, 18)], loops := [(6, { tm := [(6, .arr 2), (7, .arr 3), (32, I6)], bs := [.same, .same, .rows 0 false, .ints .i64 false] }, [(.exit 0, { tm := [(6, .arr 2), (7, .arr 3)], bs := [.same, .same, .rows 0 false, .ints .i64 false] })]), (11, { tm := [(15, I6), (41, I6)], bs := [.same, .same, .same, .same, .same, .same] }, [(.exit 2, { tm := [(15, I6)], bs := [.same, .same, .same, .same, .same, .same] })])], joins := [(32, [(.normal, { tm := [(78, .bool)], bs := [.same, .same, .same, .same, .same, .same] })]), (157, [(.normal, { tm := [(6, .arr 2), (15, I6)], bs := [.same, .same, .rows 0 false, .same, .same, .same] })])] } },
  { fid := 17, sig := { ps := [.ints .i64, .ints .i64], rs := [.bool] }, ann := { loops := [(4, { tm := [(13, I6)], bs := [] }, [(.exit 0, { tm := [], bs := [] }), (.ret, { tm := [(4, .bool)], bs := [] })])] } },
  { fid := 8, sig := { ps := [.agg [I6, I6, I6, I6, .ints .u8, .rows 0, .ints .i64, I6, .rows 1]], rs := [.agg [I6, I6, .ints .i64, .ints .i64, .ints .i64], I6] }, ann := { calls := [(16, 8), (24, 19), (33, 20), (91, 11), (128, 21)], loops := [(7, { tm := [(39, I6)], bs := [.same, .same, .ints .i64 true, .ints .i64 true, .ints .i64 true, .same, .same] }, [(.exit 0, { tm := [], bs := [.same, .same, .ints .i64 true, .ints .i64 true, .ints .i64 true, .same, .same] })]), (14, { tm := [(96, I6)], bs := [.same, .same, .gone, .gone, .gone, .box [I6, I6, .ints .i64, .ints .i64, .ints .i64]] }, [(.exit 2, { tm := [], bs := [.same, .same, .gone, .gone, .gone, .box [I6, I6, .ints .i64, .ints .i64, .ints .i64]] })])], joins := [(61, [(.normal, { tm := [], bs := [.same, .same, .ints .i64 true, .ints .i64 true, .ints .i64 true, .same] })]), (209, [(.normal, { tm := [], bs := [.same, .same, .gone, .gone, .gone, .same, .same, .box [I6, I6, I6]] })])] } },
  { fid := 19, sig := { ps := [I6, I6, I6, I6, I6], rs := [.agg [I6, I6, .ints .i64, .ints .i64, .ints .i64]] }, ann := { loops := [(3, { tm := [(12, I6)], bs := [.same, .box [I6, I6, .arr 2, .arr 3, .arr 4], .ints .i64 false, .ints .i64 false, .ints .i64 false] }, [(.exit 0, { tm := [], bs := [.same, .box [I6, I6, .arr 2, .arr 3, .arr 4], .ints .i64 false, .ints .i64 false, .ints .i64 false] })])], slots := [(26, 0), (31, 1), (36, 2)], pads := [(5, 3)] } },
  { fid := 12, sig := { ps := [.agg [I6, I6, .ints .i64, .ints .i64, .ints .i64], .agg [I6, I6, .ints .i64, .ints .i64, .ints .i64]], rs := [.bool] }, ann := { loops := [(4, { tm := [(5, I6)], bs := [.same, .same] }, [(.exit 0, { tm := [], bs := [.same, .same] }), (.ret, { tm := [(4, .bool)], bs := [.same, .same] })]), (9, { tm := [(6, I6)], bs := [.same, .same] }, [(.exit 2, { tm := [], bs := [.same, .same] }), (.ret, { tm := [(4, .bool)], bs := [.same, .same] })]), (14, { tm := [(7, I6)], bs := [.same, .same] }, [(.exit 4, { tm := [], bs := [.same, .same] }), (.ret, { tm := [(4, .bool)], bs := [.same, .same] })])], joins := [(2, [(.normal, { tm := [(46, .bool)], bs := [.same, .same] })])] } },
  { fid := 10, sig := { ps := [.agg [I6, I6, I6, I6, .ints .u8, .rows 0, .ints .i64, I6, .rows 1]], rs := [.bool] }, ann := { calls := [(11, 22), (16, 23), (21, 24), (52, 11), (58, 25), (66, 20)], joins := [(2, [(.normal, { tm := [(48, .bool)], bs := [.same] })])] } },
  { fid := 35, sig := { ps := [.agg [I6, I6, .ints .i64, .ints .i64, .ints .i64]], rs := [.bool] }, ann := { calls := [(13, 26), (18, 27), (24, 27), (30, 27)] } },
  { fid := 36, sig := { ps := [.agg [I6, I6, .ints .i64, .ints .i64, .ints .i64], .agg [I6, I6, .ints .u8]], rs := [.bool] }, ann := { calls := [(6, 23)] } },
  { fid := 22, sig := { ps := [.agg [I6, I6, .ints .u8]], rs := [.rows 2, I6] }, ann := { calls := [(5, 23), (8, 28)] } },
  { fid := 37, sig := { ps := [.agg [I6, I6, .ints .i64, .ints .i64, .ints .i64], .agg [I6, I6, .ints .u8, I6, I6]], rs := [.agg [I6, I6, I6]] }, ann := { calls := [(74, 29), (78, 29), (82, 29)], loops := [(4, { tm := [(6, I6), (14, I6)], bs := [.same, .same, .same, .box [I6, I6, I6]] }, [(.exit 0, { tm := [(6, I6)], bs := [.same, .same, .same, .box [I6, I6, I6]] })])] } },
  { fid := 38, sig := { ps := [.rows 0, .agg [I6, I6, I6]], rs := [I6] }, ann := { loops := [(2, { tm := [(8, I6)], bs := [.same] }, [(.exit 0, { tm := [], bs := [.same] }), (.ret, { tm := [(4, I6)], bs := [.same] })])] } },
  { fid := 39, sig := { ps := [.rows 0, .agg [I6, I6, I6]], rs := [I6] }, ann := { calls := [(22, 30), (28, 30), (35, 30)], loops := [(3, { tm := [(5, I6), (6, I6), (12, I6)], bs := [.same] }, [(.exit 0, { tm := [(5, I6)], bs := [.same] })])] } },
  { fid := 40, sig := { ps := [.agg [I6, I6, .ints .i64, .ints .i64, .ints .i64], .agg [I6, I6, .ints .u8], I6], rs := [I6] }, ann := { calls := [(8, 31), (11, 32), (15, 33)] } },
  { fid := 25, sig := { ps := [.agg [I6, I6, .ints .u8]], rs := [.rows 2, I6] }, ann := { calls := [(15, 34), (19, 35), (28, 36), (47, 37)], loops := [(6, { tm := [(6, .arr 1), (7, I6)], bs := [.same, .rows 2 false] }, [(.exit 0, { tm := [(6, .arr 1)], bs := [.same, .rows 2 false] })]), (10, { tm := [(9, I6)], bs := [.same, .same, .ints .u8 true, .same] }, [(.exit 2, { tm := [], bs := [.same, .same, .ints .u8 true, .same] })])] } },
  { fid := 41, sig := { ps := [.agg [I6, I6, .ints .i64, .ints .i64, .ints .i64], .agg [I6, I6, .ints .u8, I6, I6]], rs := [.agg [I6, I6, I6]] }, ann := { calls := [(30, 38), (69, 39), (72, 39), (75, 39)], loops := [(3, { tm := [(5, I6), (6, I6), (7, I6), (8, I6), (9, I6)], bs := [.same, .same, .same] }, [(.exit 0, { tm := [(5, I6), (6, I6), (7, I6), (8, I6)], bs := [.same, .same, .same] })]), (6, { tm := [(5, I6), (6, I6), (7, I6), (8, I6), (10, I6)], bs := [.same, .same, .same] }, [(.exit 2, { tm := [(5, I6), (6, I6), (7, I6), (8, I6)], bs := [.same, .same, .same] })])] } },
  { fid := 42, sig := { ps := [.agg [I6, I6, I6], .agg [I6, I6, I6]], rs := [I6] }, ann := {} },
  { fid := 20, sig := { ps := [I6, I6, I6, I6, I6], rs := [.agg [I6, I6, .arr 0, .arr 1, .arr 2], I6], rb := [.ints .i64 false, .ints .i64 false, .ints .i64 false] }, ann := { calls := [(16, 26), (20, 40), (25, 40), (30, 40), (36, 41), (47, 42)], loops := [(5, { tm := [(40, I6)], bs := [.same, .ints .i64 true, .ints .i64 true, .ints .i64 true, .box [I6, I6, .arr 1, .arr 2, .arr 3]] }, [(.exit 0, { tm := [], bs := [.same, .ints .i64 true, .ints .i64 true, .ints .i64 true, .box [I6, I6, .arr 1, .arr 2, .arr 3]] })])], joins := [(2, [(.normal, { tm := [(32, .bool)], bs := [.same] })])] } },
  { fid := 21, sig := { ps := [.agg [I6, I6, I6, I6, .ints .u8, .rows 0, .ints .i64, I6, .rows 1]], rs := [.agg [I6, I6, .ints .i64, .ints .i64, .ints .i64], .bool] }, ann := {} },
  { fid := 23, sig := { ps := [.agg [I6, I6, .ints .i64, .ints .i64, .ints .i64], .agg [I6, I6, .ints .u8], I6, I6, I6, I6, I6], rs := [.agg [I6, I6, .ints .i64, .ints .i64, .ints .i64], I6] }, ann := { calls := [(22, 9), (26, 23), (30, 43), (35, 43), (40, 40), (45, 40), (50, 40), (55, 44), (107, 42)], loops := [(7, { tm := [(59, I6)], bs := [.same, .same, .same, .ints .i64 true, .ints .i64 true, .ints .i64 true, .box [I6, I6, .arr 3, .arr 4, .arr 5]] }, [(.exit 0, { tm := [], bs := [.same, .same, .same, .ints .i64 true, .ints .i64 true, .ints .i64 true, .box [I6, I6, .arr 3, .arr 4, .arr 5]] })])], joins := [(6, [(.normal, { tm := [(52, .bool)], bs := [.same, .same, .same] })]), (20, [(.normal, { tm := [(97, .bool)], bs := [.same, .same, .same, .same, .same, .same, .same] })])] } },
  { fid := 26, sig := { ps := [I6, I6], rs := [.bool] }, ann := { calls := [(10, 19)] } },
  { fid := 27, sig := { ps := [.agg [I6, I6, .ints .u8]], rs := [.bool] }, ann := { calls := [(9, 45)], loops := [(4, { tm := [(25, I6)], bs := [.same] }, [(.exit 0, { tm := [], bs := [.same] }), (.ret, { tm := [(2, .bool)], bs := [.same] })])], joins := [(2, [(.normal, { tm := [(21, .bool)], bs := [.same] })])] } },
  { fid := 28, sig := { ps := [.agg [I6, I6, I6, I6, .ints .u8, .rows 0, .ints .i64, I6, .rows 1]], rs := [.bool] }, ann := {} },
  { fid := 29, sig := { ps := [.agg [I6, I6, I6, I6, .ints .u8, .rows 0, .ints .i64, I6, .rows 1], I6], rs := [.bool] }, ann := { calls := [(12, 46), (31, 47)], joins := [(2, [(.normal, { tm := [(13, .bool)], bs := [.same] })])] } },
  { fid := 43, sig := { ps := [I6, I6], rs := [.bool] }, ann := {} },
  { fid := 65, sig := { ps := [.ints .i64, I6], rs := [.bool] }, ann := { calls := [(11, 48)] } },
  { fid := 49, sig := { ps := [.agg [I6, I6, .ints .u8]], rs := [.rows 2] }, ann := { calls := [(40, 49), (41, 50), (42, 51)], loops := [(4, { tm := [(3, .arr 2), (14, I6)], bs := [.same, .rows 3 true, .rows 2 false] }, [(.exit 0, { tm := [(3, .arr 2)], bs := [.same, .rows 3 true, .rows 2 false] })])], joins := [(12, [(.normal, { tm := [(27, .bool)], bs := [.same, .same, .same] })])] } },
  { fid := 66, sig := { ps := [I6, I6], rs := [I6] }, ann := {} },
  { fid := 67, sig := { ps := [I6], rs := [I6] }, ann := {} },
  { fid := 13, sig := { ps := [.agg [I6, I6, .ints .i64, .ints .i64, .ints .i64]], rs := [.bool] }, ann := { calls := [(9, 52), (45, 53), (53, 53), (62, 53)], loops := [(7, { tm := [(4, I6)], bs := [.same] }, [(.exit 0, { tm := [], bs := [.same] }), (.ret, { tm := [(2, .bool)], bs := [.same] })])], joins := [(8, [(.normal, { tm := [(34, .bool)], bs := [.same] })])] } },
  { fid := 30, sig := { ps := [.agg [I6, I6, .ints .u8]], rs := [.bool] }, ann := { calls := [(7, 54), (22, 55)] } },
  { fid := 31, sig := { ps := [.agg [I6, I6, .ints .u8]], rs := [.bool] }, ann := {} },
  { fid := 54, sig := { ps := [.agg [I6, I6, .ints .u8]], rs := [.bool] }, ann := { calls := [(8, 52)], loops := [(4, { tm := [(3, I6)], bs := [.same] }, [(.exit 0, { tm := [], bs := [.same] }), (.ret, { tm := [(2, .bool)], bs := [.same] })])], joins := [(2, [(.normal, { tm := [(20, .bool)], bs := [.same] })])] } },
  { fid := 55, sig := { ps := [.agg [I6, I6, .ints .u8]], rs := [.ints .i64, I6] }, ann := { calls := [(37, 56)], loops := [(4, { tm := [(5, I6), (6, I6)], bs := [.same, .ints .i64 true] }, [(.exit 0, { tm := [(5, I6)], bs := [.same, .ints .i64 true] })])], joins := [(12, [(.normal, { tm := [(30, .bool)], bs := [.same, .same] })])] } },
  { fid := 56, sig := { ps := [.agg [I6, I6, .ints .u8]], rs := [.agg [I6, I6, .arr 0]], rb := [.ints .u8 false] }, ann := {} },
  { fid := 57, sig := { ps := [.agg [I6, I6, .ints .u8]], rs := [.agg [I6, I6, .ints .u8], I6, I6, I6] }, ann := { calls := [(13, 34), (35, 57), (63, 58)], loops := [(5, { tm := [(6, I6), (7, I6), (8, I6), (9, I6), (10, I6)], bs := [.same, .same] }, [(.exit 0, { tm := [(6, I6), (7, I6), (8, I6), (9, I6)], bs := [.same, .same] })]), (8, { tm := [(6, I6), (7, I6), (8, I6), (9, I6), (11, I6)], bs := [.same, .same] }, [(.exit 2, { tm := [(6, I6), (7, I6), (8, I6), (9, I6)], bs := [.same, .same] })])] } },
  { fid := 14, sig := { ps := [.agg [I6, I6, .ints .u8], I6, I6], rs := [.int .u8] }, ann := { joins := [(2, [(.normal, { tm := [(24, .bool)], bs := [.same] })])] } },
  { fid := 68, sig := { ps := [I6, I6], rs := [I6] }, ann := { calls := [(11, 59)] } },
  { fid := 44, sig := { ps := [I6], rs := [.bool] }, ann := {} },
  { fid := 45, sig := { ps := [I6, I6], rs := [.agg [I6, I6, .arr 0, .arr 1, .arr 2]], rb := [.ints .i64 false, .ints .i64 false, .ints .i64 false] }, ann := { slots := [(12, 0), (14, 1), (16, 2)], pads := [(2, 3)] } },
  { fid := 46, sig := { ps := [.ptr 0 0, I6, I6, I6, I6], pb := [.box [I6, I6, .arr 1, .arr 2, .arr 3], .ints .i64 false, .ints .i64 false, .ints .i64 false], rb := [.box [I6, I6, .arr 1, .arr 2, .arr 3], .ints .i64 true, .ints .i64 true, .ints .i64 true] }, ann := {} },
  { fid := 50, sig := { ps := [I6], rs := [.bool] }, ann := {} },
  { fid := 51, sig := { ps := [.agg [I6, I6, .ints .i64, .ints .i64, .ints .i64]], rs := [.agg [I6, I6, .arr 0, .arr 1, .arr 2]], rb := [.ints .i64 false, .ints .i64 false, .ints .i64 false] }, ann := { calls := [(5, 60), (8, 60), (11, 60)] } },
  { fid := 58, sig := { ps := [I6, I6], rs := [.bool] }, ann := {} },
  { fid := 59, sig := { ps := [.rows 0, .fn 60 []], rs := [.bool] }, ann := { calls := [(7, 61)] } },
  { fid := 62, sig := { ps := [.ints .i64, .fn 63 [.ptr 0 0]], pb := [.box [I6, I6, I6, I6, .ints .u8, .rows 0, .ints .i64, I6, .rows 1]], rs := [.bool], rb := [.box [I6, I6, I6, I6, .ints .u8, .rows 0, .ints .i64, I6, .rows 1]] }, ann := { calls := [(7, 62)] } },
  { fid := 62, sig := { ps := [.ints .i64, .fn 91 []], rs := [.bool] }, ann := { calls := [(7, 63)] } },
  { fid := 76, sig := { rs := [.rows 4] }, ann := { calls := [(1, 64)] } },
  { fid := 75, sig := { ps := [.agg [I6, I6, .ints .u8], .arr 0, .agg [I6, I6], .rows 4], pb := [.rows 3 false], rs := [.rows 4], rb := [.rows 3 true] }, ann := { loops := [(5, { tm := [(10, .arr 3), (11, I6)], bs := [.rows 3 true, .same, .same, .rows 4 false] }, [(.exit 0, { tm := [(10, .arr 3)], bs := [.rows 3 true, .same, .same, .rows 4 false] })]), (8, { tm := [(10, .arr 3), (47, I6)], bs := [.rows 3 true, .same, .same, .rows 4 false] }, [(.exit 2, { tm := [(10, .arr 3)], bs := [.rows 3 true, .same, .same, .rows 4 false] })])], joins := [(22, [(.normal, { tm := [(118, .bool)], bs := [.same, .same, .same, .same, .same, .same] })])] } },
  { fid := 74, sig := { ps := [.rows 4], rs := [.agg [I6, I6, .ints .u8, I6, I6]] }, ann := { calls := [(61, 65)], loops := [(3, { tm := [(3, I6), (4, I6), (5, I6), (6, I6), (31, I6)], bs := [.same] }, [(.exit 0, { tm := [(3, I6), (4, I6), (5, I6), (6, I6)], bs := [.same] })]), (10, { tm := [(66, I6)], bs := [.same, .ints .u8 true, .same] }, [(.exit 2, { tm := [], bs := [.same, .ints .u8 true, .same] })])] } },
  { fid := 33, sig := { ps := [I6, I6], rs := [.bool] }, ann := {} },
  { fid := 34, sig := { ps := [I6], rs := [.bool] }, ann := {} },
  { fid := 18, sig := { ps := [I6, I6], rs := [.bool] }, ann := {} },
  { fid := 64, sig := { ps := [.ints .u8], rs := [.bool] }, ann := { loops := [(2, { tm := [(7, I6)], bs := [] }, [(.exit 0, { tm := [], bs := [] }), (.ret, { tm := [(2, .bool)], bs := [] })])] } },
  { fid := 86, sig := { ps := [.agg [I6, I6, .ints .u8], .arr 0, I6, I6, I6, .bool], pb := [.ints .i64 false], rs := [I6], rb := [.ints .i64 true] }, ann := { loops := [(4, { tm := [(13, .arr 2), (14, I6)], bs := [.ints .i64 true, .same, .ints .i64 false] }, [(.exit 0, { tm := [(13, .arr 2)], bs := [.ints .i64 true, .same, .ints .i64 false] })]), (8, { tm := [(13, .arr 2), (17, I6)], bs := [.ints .i64 true, .same, .ints .i64 false] }, [(.exit 2, { tm := [(13, .arr 2)], bs := [.ints .i64 true, .same, .ints .i64 false] })]), (11, { tm := [(13, .arr 2), (18, I6)], bs := [.ints .i64 true, .same, .ints .i64 false] }, [(.exit 4, { tm := [(13, .arr 2)], bs := [.ints .i64 true, .same, .ints .i64 false] })])], joins := [(26, [(.normal, { tm := [(93, .bool)], bs := [.same, .same, .same] })]), (30, [(.normal, { tm := [(114, .bool)], bs := [.same, .same, .same] })])] } },
  { fid := 87, sig := { ps := [.agg [I6, I6, .ints .u8], I6, I6], rs := [I6] }, ann := { calls := [(10, 66)] } },
  { fid := 88, sig := { ps := [.agg [I6, I6, .ints .u8], I6, I6, I6, I6], rs := [.agg [I6, I6, .ints .u8]] }, ann := { calls := [(16, 67), (37, 57), (38, 68)], loops := [(3, { tm := [(12, I6)], bs := [.same, .same, .ints .u8 true, .same] }, [(.exit 0, { tm := [], bs := [.same, .same, .ints .u8 true, .same] })]), (6, { tm := [(13, I6)], bs := [.same, .same, .ints .u8 true, .same] }, [(.exit 2, { tm := [], bs := [.same, .same, .ints .u8 true, .same] })])] } },
  { fid := 92, sig := { ps := [I6, I6], rs := [I6] }, ann := {} },
  { fid := 77, sig := { ps := [.ints .i64], rs := [.arr 0], rb := [.ints .i64 false] }, ann := {} },
  { fid := 89, sig := { ps := [.rows 0, .fn 60 []], rs := [I6] }, ann := { calls := [(16, 69)], loops := [(2, { tm := [(8, I6)], bs := [] }, [(.exit 0, { tm := [], bs := [] }), (.ret, { tm := [(4, I6)], bs := [] })])] } },
  { fid := 90, sig := { ps := [.ints .i64, .fn 63 [.ptr 0 0]], pb := [.box [I6, I6, I6, I6, .ints .u8, .rows 0, .ints .i64, I6, .rows 1]], rs := [I6], rb := [.box [I6, I6, I6, I6, .ints .u8, .rows 0, .ints .i64, I6, .rows 1]] }, ann := { calls := [(16, 70)], loops := [(2, { tm := [(8, I6)], bs := [.box [I6, I6, I6, I6, .ints .u8, .rows 0, .ints .i64, I6, .rows 1]] }, [(.exit 0, { tm := [], bs := [.box [I6, I6, I6, I6, .ints .u8, .rows 0, .ints .i64, I6, .rows 1]] }), (.ret, { tm := [(4, I6)], bs := [.box [I6, I6, I6, I6, .ints .u8, .rows 0, .ints .i64, I6, .rows 1]] })])] } },
  { fid := 90, sig := { ps := [.ints .i64, .fn 91 []], rs := [I6] }, ann := { calls := [(16, 71)], loops := [(2, { tm := [(8, I6)], bs := [] }, [(.exit 0, { tm := [], bs := [] }), (.ret, { tm := [(4, I6)], bs := [] })])] } },
  { fid := 103, sig := { rs := [.arr 0], rb := [.rows 4 false] }, ann := {} },
  { fid := 102, sig := { ps := [I6, I6, I6], rs := [.agg [I6, I6, .arr 0], I6], rb := [.ints .u8 false] }, ann := { calls := [(29, 72)], loops := [(5, { tm := [(35, I6)], bs := [.same, .ints .u8 true, .same] }, [(.exit 0, { tm := [], bs := [.same, .ints .u8 true, .same] })])], joins := [(2, [(.normal, { tm := [(24, .bool)], bs := [.same] })])] } },
  { fid := 117, sig := { ps := [.agg [I6, I6, .ints .u8], I6, I6], rs := [.bool] }, ann := {} },
  { fid := 118, sig := { ps := [I6, I6, I6], rs := [.agg [I6, I6, .arr 0]], rb := [.ints .u8 false] }, ann := { loops := [(3, { tm := [(8, I6)], bs := [.same, .box [I6, I6, .arr 2], .ints .u8 false] }, [(.exit 0, { tm := [], bs := [.same, .box [I6, I6, .arr 2], .ints .u8 false] })])] } },
  { fid := 119, sig := { ps := [.agg [I6, I6, .arr 0], I6, I6, I6], pb := [.ints .u8 false], rb := [.ints .u8 true] }, ann := {} },
  { fid := 60, sig := { ps := [.agg [I6, I6, I6]], rs := [.bool] }, ann := { calls := [(5, 73), (10, 73), (16, 73)] } },
  { fid := 63, sig := { ps := [I6, .ptr 0 0], pb := [.box [I6, I6, I6, I6, .ints .u8, .rows 0, .ints .i64, I6, .rows 1]], rs := [.bool], rb := [.box [I6, I6, I6, I6, .ints .u8, .rows 0, .ints .i64, I6, .rows 1]] }, ann := {} },
  { fid := 91, sig := { ps := [I6], rs := [.bool] }, ann := { calls := [(4, 40)] } },
  { fid := 140, sig := { ps := [I6, I6], rs := [.agg [I6, I6, .arr 0], I6], rb := [.ints .u8 false] }, ann := { calls := [(8, 45)] } },
  { fid := 61, sig := { ps := [I6], rs := [.bool] }, ann := {} }]
noncomputable def G : Prg := { P := Tryz.prog, E := E, el := fun t => lookN t els, F := fun i => (getL insts i).getD { fid := 0, sig := {}, ann := {} } }
theorem inn0_ok : ∀ {l : List (PV TT)} {x : Rgb}, inn0 l = some x → Sames (E := E) l (outs0 x)
  | [], _, h => by cases h
  | [_], _, h => by cases h
  | [_, _], _, h => by cases h
  | [_, _, _], _, h => by
    simp only [inn0] at h
    obtain ⟨y0, h0, h⟩ := Option.bind_eq_some_iff.1 h; obtain ⟨y1, h1, h⟩ := Option.bind_eq_some_iff.1 h; obtain ⟨y2, h2, h⟩ := Option.bind_eq_some_iff.1 h; cases h; exact .cons (V.asInt_same h0) (.cons (V.asInt_same h1) (.cons (V.asInt_same h2) (.nil)))
  | _ :: _ :: _ :: _ :: _, _, h => by cases h
theorem inn1_ok : ∀ {l : List (PV TT)} {x : List Int}, inn1 l = some x → Sames (E := E) l (outs1 x)
  | [], _, h => by cases h
  | [_], _, h => by
    simp only [inn1] at h
    obtain ⟨y0, h0, h⟩ := Option.bind_eq_some_iff.1 h; cases h; exact .cons (V.asInts_same h0) (.nil)
  | _ :: _ :: _, _, h => by cases h
theorem inn2_ok : ∀ {l : List (PV TT)} {x : Placed}, inn2 l = some x → Sames (E := E) l (outs2 x)
  | [], _, h => by cases h
  | [_], _, h => by cases h
  | [_, _], _, h => by cases h
  | [_, _, _], _, h => by cases h
  | [_, _, _, _], _, h => by cases h
  | [_, _, _, _, _], _, h => by
    simp only [inn2] at h
    obtain ⟨y0, h0, h⟩ := Option.bind_eq_some_iff.1 h; obtain ⟨y1, h1, h⟩ := Option.bind_eq_some_iff.1 h; obtain ⟨y2, h2, h⟩ := Option.bind_eq_some_iff.1 h; obtain ⟨y3, h3, h⟩ := Option.bind_eq_some_iff.1 h; obtain ⟨y4, h4, h⟩ := Option.bind_eq_some_iff.1 h; cases h; exact .cons (V.asInt_same h0) (.cons (V.asInt_same h1) (.cons (V.asInts_same h2) (.cons (V.asInt_same h3) (.cons (V.asInt_same h4) (.nil)))))
  | _ :: _ :: _ :: _ :: _ :: _ :: _, _, h => by cases h
theorem inn3_ok : ∀ {l : List (PV TT)} {x : Bool}, inn3 l = some x → Sames (E := E) l (outs3 x)
  | [], _, h => by cases h
  | [_], _, h => by
    simp only [inn3] at h
    obtain ⟨y0, h0, h⟩ := Option.bind_eq_some_iff.1 h; cases h; exact .cons (V.asBool_same h0) (.nil)
  | _ :: _ :: _, _, h => by cases h
theorem inn4_ok : ∀ {l : List (PV TT)} {x : Point}, inn4 l = some x → Sames (E := E) l (outs4 x)
  | [], _, h => by cases h
  | [_], _, h => by cases h
  | [_, _], _, h => by
    simp only [inn4] at h
    obtain ⟨y0, h0, h⟩ := Option.bind_eq_some_iff.1 h; obtain ⟨y1, h1, h⟩ := Option.bind_eq_some_iff.1 h; cases h; exact .cons (V.asInt_same h0) (.cons (V.asInt_same h1) (.nil))
  | _ :: _ :: _ :: _, _, h => by cases h
theorem envOk : EnvOk E := by
  refine EnvOk.of ?_ ?_ ?_
  · intro i l x h
    match i, x, h with
    | 0, x, h => exact inn0_ok h
    | 1, x, h => exact inn1_ok h
    | 2, x, h => exact inn2_ok h
    | 3, x, h => exact inn3_ok h
    | 4, x, h => exact inn4_ok h
    | i + 5, x, h => cases h
  · intro i x
    match i, x with
    | 0, x => rfl
    | 1, x => rfl
    | 2, x => rfl
    | 3, x => rfl
    | 4, x => rfl
    | i + 5, x => rfl
  · intro i x p hf hp
    match i, x with
    | 0, x => exact flat_cons (.inl ⟨_, _, rfl⟩) (flat_cons (.inl ⟨_, _, rfl⟩) (flat_cons (.inl ⟨_, _, rfl⟩) (flat_nil))) p hp
    | 1, x => exact absurd hf (by decide)
    | 2, x => exact absurd hf (by decide)
    | 3, x => exact flat_cons (.inr (.inl ⟨_, rfl⟩)) (flat_nil) p hp
    | 4, x => exact flat_cons (.inl ⟨_, _, rfl⟩) (flat_cons (.inl ⟨_, _, rfl⟩) (flat_nil)) p hp
    | i + 5, x => exact absurd hf (by simp [E, getL])

theorem elsOk : els.all (okEl G) = true := by kernel_rfl
theorem prgOk : PrgOk G := .of envOk els (fun _ => rfl) elsOk (by kernel_rfl)
noncomputable def bulk0 (x : Rgb) : Nat := 1 + (1 + (1 + 0))
noncomputable def bulk1 (x : List Int) : Nat := (x.length + 1) + 0
noncomputable def bulk2 (x : Placed) : Nat := 1 + (1 + ((x.pix_pix.length + 1) + (1 + (1 + 0))))
noncomputable def bulk3 (x : Bool) : Nat := 1 + 0
noncomputable def bulk4 (x : Point) : Nat := 1 + (1 + 0)
noncomputable def bulk : (i : Nat) → TT i → Nat
  | 0, x => bulk0 x
  | 1, x => bulk1 x
  | 2, x => bulk2 x
  | 3, x => bulk3 x
  | 4, x => bulk4 x
  | _, _ => 0
theorem bulk0_eq (x : Rgb) : bulk0 x = bulkPs bulk (outs0 x) := by simp only [bulk0, outs0, bulkPs, bulkP] <;> rfl
theorem bulk1_eq (x : List Int) : bulk1 x = bulkPs bulk (outs1 x) := by simp only [bulk1, outs1, bulkPs, bulkP] <;> rfl
theorem bulk2_eq (x : Placed) : bulk2 x = bulkPs bulk (outs2 x) := by simp only [bulk2, outs2, bulkPs, bulkP] <;> rfl
theorem bulk3_eq (x : Bool) : bulk3 x = bulkPs bulk (outs3 x) := by simp only [bulk3, outs3, bulkPs, bulkP] <;> rfl
theorem bulk4_eq (x : Point) : bulk4 x = bulkPs bulk (outs4 x) := by simp only [bulk4, outs4, bulkPs, bulkP] <;> rfl
theorem rowsOk : RowsOk G bulk where
  bulk i x := by
    match i, x with
    | 0, x => exact bulk0_eq x
    | 1, x => exact bulk1_eq x
    | 2, x => exact bulk2_eq x
    | 3, x => exact bulk3_eq x
    | 4, x => exact bulk4_eq x
    | i + 5, x => rfl
  int e k h := ⟨(prgOk.int e k h).1, okEl_cells elsOk h⟩
  row e i h := by
    have hc := okEl_cells elsOk h
    have hm := lookN_mem h
    simp only [els, List.mem_cons, List.not_mem_nil, or_false, Prod.mk.injEq, reduceCtorEq, and_false, false_or, EK.row.injEq] at hm
    rcases hm with ⟨rfl, rfl⟩ | ⟨rfl, rfl⟩ | ⟨rfl, rfl⟩ | ⟨rfl, rfl⟩ | ⟨rfl, rfl⟩
    · refine ⟨8, [.bool], by kernel_rfl, hc, by decide, fun ps h => ?_⟩
      obtain ⟨y0, r0, rfl, h0⟩ := fits_bool h; cases fits_nil h0; exact ⟨y0, rfl⟩
    · refine ⟨8, [.ints .u8], by kernel_rfl, hc, by decide, fun ps h => ?_⟩
      obtain ⟨y0, r0, rfl, h0⟩ := fits_ints h; cases fits_nil h0; exact ⟨y0, rfl⟩
    · refine ⟨8, [.int .i64, .int .i64, .int .i64], by kernel_rfl, hc, by decide, fun ps h => ?_⟩
      obtain ⟨y0, r0, rfl, h0⟩ := fits_int h; obtain ⟨y1, r1, rfl, h1⟩ := fits_int h0; obtain ⟨y2, r2, rfl, h2⟩ := fits_int h1; cases fits_nil h2; exact ⟨⟨y0, y1, y2⟩, rfl⟩
    · refine ⟨8, [.int .i64, .int .i64, .ints .u8, .int .i64, .int .i64], by kernel_rfl, hc, by decide, fun ps h => ?_⟩
      obtain ⟨y0, r0, rfl, h0⟩ := fits_int h; obtain ⟨y1, r1, rfl, h1⟩ := fits_int h0; obtain ⟨y2, r2, rfl, h2⟩ := fits_ints h1; obtain ⟨y3, r3, rfl, h3⟩ := fits_int h2; obtain ⟨y4, r4, rfl, h4⟩ := fits_int h3; cases fits_nil h4; exact ⟨⟨y0, y1, y2, y3, y4⟩, rfl⟩
    · refine ⟨8, [.int .i64, .int .i64], by kernel_rfl, hc, by decide, fun ps h => ?_⟩
      obtain ⟨y0, r0, rfl, h0⟩ := fits_int h; obtain ⟨y1, r1, rfl, h1⟩ := fits_int h0; cases fits_nil h1; exact ⟨⟨y0, y1⟩, rfl⟩

noncomputable def law22_LayerColours (i1 i2 : Int) (i3 i4 i5 : List Int) (mask6 mask7 : Int) (mask8 : List Int) (n9 : Int) : Option Bool := call G 0 (i1, i2, i3, i4, i5, mask6, mask7, mask8, n9)
noncomputable def law22_Awake : Option Bool := call G 1 ()
noncomputable def layer_Colours (i1 i2 : Int) (i3 i4 i5 : List Int) (mask6 mask7 : Int) (mask8 : List Int) (n9 : Int) : Option ((List Rgb) × (List Int) × Int) := call G 2 (i1, i2, i3, i4, i5, mask6, mask7, mask8, n9)
noncomputable def ref22_Colours (i1 i2 : Int) (i3 i4 i5 : List Int) (mask6 mask7 : Int) (mask8 : List Int) (n9 : Int) : Option ((List Rgb) × (List Int) × Int) := call G 3 (i1, i2, i3, i4, i5, mask6, mask7, mask8, n9)
noncomputable def ref02_SameInts (a1 b2 : List Int) : Option Bool := call G 4 (a1, b2)
noncomputable def layer_Render (l1 l2 l3 l4 : Int) (l5 : List Int) (l6 : List Rgb) (l7 : List Int) (l8 : Int) (l9 : List (List Int)) : Option (Int × Int × (List Int) × (List Int) × (List Int) × Int) := call G 5 (l1, l2, l3, l4, l5, l6, l7, l8, l9)
noncomputable def ref19_Of (w1 h2 r3 g4 b5 : Int) : Option (Int × Int × (List Int) × (List Int) × (List Int)) := call G 6 (w1, h2, r3, g4, b5)
noncomputable def ref19_Same (a1 a2 : Int) (a3 a4 a5 : List Int) (b6 b7 : Int) (b8 b9 b10 : List Int) : Option Bool := call G 7 (a1, a2, a3, a4, a5, b6, b7, b8, b9, b10)
noncomputable def layer_Valid (l1 l2 l3 l4 : Int) (l5 : List Int) (l6 : List Rgb) (l7 : List Int) (l8 : Int) (l9 : List (List Int)) : Option Bool := call G 8 (l1, l2, l3, l4, l5, l6, l7, l8, l9)
noncomputable def colour_Valid (i1 i2 : Int) (i3 i4 i5 : List Int) : Option Bool := call G 9 (i1, i2, i3, i4, i5)
noncomputable def layer_rightMask (i1 i2 : Int) (i3 i4 i5 : List Int) (mask6 mask7 : Int) (mask8 : List Int) : Option Bool := call G 10 (i1, i2, i3, i4, i5, mask6, mask7, mask8)
noncomputable def shape_Components (b1 b2 : Int) (b3 : List Int) : Option ((List Placed) × Int) := call G 11 (b1, b2, b3)
noncomputable def layer_ink (i1 i2 : Int) (i3 i4 i5 : List Int) (c6 c7 : Int) (c8 : List Int) (c9 c10 : Int) : Option (Int × Int × Int) := call G 12 (i1, i2, i3, i4, i5, c6, c7, c8, c9, c10)
noncomputable def slices_Index_api_Rgb_api_Rgb (s1 : List Rgb) (v2 v3 v4 : Int) : Option Int := call G 13 (s1, v2, v3, v4)
noncomputable def layer_nearest (l1 : List Rgb) (c2 c3 c4 : Int) : Option Int := call G 14 (l1, c2, c3, c4)
noncomputable def ref22_asked (i1 i2 : Int) (i3 i4 i5 : List Int) (mask6 mask7 : Int) (mask8 : List Int) (n9 : Int) : Option Int := call G 15 (i1, i2, i3, i4, i5, mask6, mask7, mask8, n9)
noncomputable def ref15_Components (b1 b2 : Int) (b3 : List Int) : Option ((List Placed) × Int) := call G 16 (b1, b2, b3)
noncomputable def ref22_mean (i1 i2 : Int) (i3 i4 i5 : List Int) (s6 s7 : Int) (s8 : List Int) (s9 s10 : Int) : Option (Int × Int × Int) := call G 17 (i1, i2, i3, i4, i5, s6, s7, s8, s9, s10)
noncomputable def ref22_far (a1 a2 a3 b4 b5 b6 : Int) : Option Int := call G 18 (a1, a2, a3, b4, b5, b6)
noncomputable def colour_New (w1 h2 r3 g4 b5 : Int) : Option (Int × Int × Int × (List Int) × (List Int) × (List Int)) := call G 19 (w1, h2, r3, g4, b5)
noncomputable def layer_back (l1 l2 l3 l4 : Int) (l5 : List Int) (l6 : List Rgb) (l7 : List Int) (l8 : Int) (l9 : List (List Int)) : Option (Int × Int × (List Int) × (List Int) × (List Int) × Bool) := call G 20 (l1, l2, l3, l4, l5, l6, l7, l8, l9)
noncomputable def colour_Paint (i1 i2 : Int) (i3 i4 i5 : List Int) (b6 b7 : Int) (b8 : List Int) (x9 y10 r11 g12 bl13 : Int) : Option (Int × Int × (List Int) × (List Int) × (List Int) × Int) := call G 21 (i1, i2, i3, i4, i5, b6, b7, b8, x9, y10, r11, g12, bl13)
noncomputable def layer_isImage (w1 h2 : Int) : Option Bool := call G 22 (w1, h2)
noncomputable def bitmap_Valid (b1 b2 : Int) (b3 : List Int) : Option Bool := call G 23 (b1, b2, b3)
noncomputable def layer_hasMask (l1 l2 l3 l4 : Int) (l5 : List Int) (l6 : List Rgb) (l7 : List Int) (l8 : Int) (l9 : List (List Int)) : Option Bool := call G 24 (l1, l2, l3, l4, l5, l6, l7, l8, l9)
noncomputable def layer_rightColours (l1 l2 l3 l4 : Int) (l5 : List Int) (l6 : List Rgb) (l7 : List Int) (l8 : Int) (l9 : List (List Int)) (components10 : Int) : Option Bool := call G 25 (l1, l2, l3, l4, l5, l6, l7, l8, l9, components10)
noncomputable def colour_rightSides (w1 h2 : Int) : Option Bool := call G 26 (w1, h2)
noncomputable def colour_rightValues (l1 : List Int) (n2 : Int) : Option Bool := call G 27 (l1, n2)
noncomputable def shape_components (b1 b2 : Int) (b3 : List Int) : Option (List Placed) := call G 28 (b1, b2, b3)
noncomputable def layer_mean (s1 n2 : Int) : Option Int := call G 29 (s1, n2)
noncomputable def layer_abs (n1 : Int) : Option Int := call G 30 n1
noncomputable def ref19_Valid (i1 i2 : Int) (i3 i4 i5 : List Int) : Option Bool := call G 31 (i1, i2, i3, i4, i5)
noncomputable def ref06_IsBitmap (b1 b2 : Int) (b3 : List Int) : Option Bool := call G 32 (b1, b2, b3)
noncomputable def ref22_none (b1 b2 : Int) (b3 : List Int) : Option Bool := call G 33 (b1, b2, b3)
noncomputable def ref05_Valid (b1 b2 : Int) (b3 : List Int) : Option Bool := call G 34 (b1, b2, b3)
noncomputable def ref15_Marks (b1 b2 : Int) (b3 : List Int) : Option ((List Int) × Int) := call G 35 (b1, b2, b3)
noncomputable def ref05_Copy (b1 b2 : Int) (b3 : List Int) : Option (Int × Int × (List Int)) := call G 36 (b1, b2, b3)
noncomputable def ref05_Trim (b1 b2 : Int) (b3 : List Int) : Option (Int × Int × (List Int) × Int × Int × Int) := call G 37 (b1, b2, b3)
noncomputable def ref06_Pix (b1 b2 : Int) (b3 : List Int) (x4 y5 : Int) : Option Int := call G 38 (b1, b2, b3, x4, y5)
noncomputable def ref19_Mean (s1 n2 : Int) : Option Int := call G 39 (s1, n2)
noncomputable def colour_isValue (v1 : Int) : Option Bool := call G 40 v1
noncomputable def colour_blank (w1 h2 : Int) : Option (Int × Int × (List Int) × (List Int) × (List Int)) := call G 41 (w1, h2)
noncomputable def colour_set (at1 r2 g3 b4 b5 b6 : Int) (b7 b8 b9 : List Int) : Option (Int × Int × (List Int) × (List Int) × (List Int)) := call G 42 (at1, r2, g3, b4, b5, b6, b7, b8, b9)
noncomputable def colour_near (n1 : Int) : Option Bool := call G 43 n1
noncomputable def colour_own (i1 i2 : Int) (i3 i4 i5 : List Int) : Option (Int × Int × (List Int) × (List Int) × (List Int)) := call G 44 (i1, i2, i3, i4, i5)
noncomputable def bitmap_fits (w1 h2 : Int) : Option Bool := call G 45 (w1, h2)
noncomputable def slices_ContainsFunc_api_Rgb_api_Rgb (s1 : List Rgb) : Option Bool := call G 46 s1
noncomputable def slices_ContainsFunc_int_int (s1 : List Int) (b2 b3 b4 b5 : Int) (b6 : List Int) (b7 : List Rgb) (b8 : List Int) (b9 : Int) (b10 : List (List Int)) : Option (Bool × Int × Int × Int × Int × (List Int) × (List Rgb) × (List Int) × Int × (List (List Int))) := call G 47 (s1, b2, b3, b4, b5, b6, b7, b8, b9, b10)
noncomputable def slices_ContainsFunc_int_int_2 (s1 : List Int) : Option Bool := call G 48 s1
noncomputable def shape_eight : Option (List Point) := call G 49 ()
noncomputable def shape_flood (b1 b2 : Int) (b3 : List Int) (from4 from5 : Int) (steps6 : List Point) (b7 : List Bool) : Option ((List Point) × (List Bool)) := call G 50 (b1, b2, b3, from4, from5, steps6, b7)
noncomputable def shape_placed (l1 : List Point) : Option (Int × Int × (List Int) × Int × Int) := call G 51 l1
noncomputable def ref05_Sides (w1 h2 : Int) : Option Bool := call G 52 (w1, h2)
noncomputable def ref19_isValue (n1 : Int) : Option Bool := call G 53 n1
noncomputable def ref06_IsSize (w1 h2 : Int) : Option Bool := call G 54 (w1, h2)
noncomputable def ref06_IsRow (l1 : List Int) : Option Bool := call G 55 l1
noncomputable def ref15_spread (b1 b2 : Int) (b3 : List Int) (at4 mark5 colour6 : Int) (corners7 : Bool) (b8 : List Int) : Option (Int × (List Int)) := call G 56 (b1, b2, b3, at4, mark5, colour6, corners7, b8)
noncomputable def ref05_At (b1 b2 : Int) (b3 : List Int) (x4 y5 : Int) : Option Int := call G 57 (b1, b2, b3, x4, y5)
noncomputable def ref05_Part (b1 b2 : Int) (b3 : List Int) (x4 y5 w6 h7 : Int) : Option (Int × Int × (List Int)) := call G 58 (b1, b2, b3, x4, y5, w6, h7)
noncomputable def ref19_Down (a1 b2 : Int) : Option Int := call G 59 (a1, b2)
noncomputable def slices_Clone_int_int (s1 : List Int) : Option (List Int) := call G 60 s1
noncomputable def slices_IndexFunc_api_Rgb_api_Rgb (s1 : List Rgb) : Option Int := call G 61 s1
noncomputable def slices_IndexFunc_int_int (s1 : List Int) (b2 b3 b4 b5 : Int) (b6 : List Int) (b7 : List Rgb) (b8 : List Int) (b9 : Int) (b10 : List (List Int)) : Option (Int × Int × Int × Int × Int × (List Int) × (List Rgb) × (List Int) × Int × (List (List Int))) := call G 62 (s1, b2, b3, b4, b5, b6, b7, b8, b9, b10)
noncomputable def slices_IndexFunc_int_int_2 (s1 : List Int) : Option Int := call G 63 s1
noncomputable def shape_four : Option (List Point) := call G 64 ()
noncomputable def bitmap_New (w1 h2 pixel3 : Int) : Option (Int × Int × Int × (List Int)) := call G 65 (w1, h2, pixel3)
noncomputable def ref05_inside (b1 b2 : Int) (b3 : List Int) (x4 y5 : Int) : Option Bool := call G 66 (b1, b2, b3, x4, y5)
noncomputable def ref05_make2 (w1 h2 pixel3 : Int) : Option (Int × Int × (List Int)) := call G 67 (w1, h2, pixel3)
noncomputable def ref05_Put (b1 b2 x3 y4 pixel5 : Int) (b6 : List Int) : Option (List Int) := call G 68 (b1, b2, x3, y4, pixel5, b6)
noncomputable def layer_rightColours_1 (c1 c2 c3 : Int) : Option Bool := call G 69 (c1, c2, c3)
noncomputable def layer_rightColours_2 (m1 b2 b3 b4 b5 : Int) (b6 : List Int) (b7 : List Rgb) (b8 : List Int) (b9 : Int) (b10 : List (List Int)) : Option (Bool × Int × Int × Int × Int × (List Int) × (List Rgb) × (List Int) × Int × (List (List Int))) := call G 70 (m1, b2, b3, b4, b5, b6, b7, b8, b9, b10)
noncomputable def colour_rightValues_1 (v1 : Int) : Option Bool := call G 71 v1
noncomputable def bitmap_blank (w1 h2 : Int) : Option (Int × Int × Int × (List Int)) := call G 72 (w1, h2)
noncomputable def layer_isValue (v1 : Int) : Option Bool := call G 73 v1
end
end Go.Proofs.YtmdlomednkfcoaaGreat.P
