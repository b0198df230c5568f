/- The program as the value reading has it: kinds of elements, functions, and that all fits. Printed by wip/tool/vsym.py. -/
import Derived.KernelRfl
import Derived.Test.YtkccnhkhjncpkaaGreatProg
import Derived.Test.YtkccnhkhjncpkaaGreatRow
namespace Go.Proofs.YtkccnhkhjncpkaaGreat.P
open Go Go.Proofs.YtkccnhkhjncpkaaGreat.V
set_option linter.unusedVariables false
set_option linter.unusedSimpArgs false
set_option maxRecDepth 100000
noncomputable section
structure Bitmap where
  w : Int
  h : Int
  pix : List Int

structure Shape where
  pix_w : Int
  pix_h : Int
  pix_pix : List Int
  from_ : Int

structure Item where
  symbol : Int
  s : Int
  t : Int
  refined : Bool
  dX : Int
  dY : Int
  pix_w : Int
  pix_h : Int
  pix_pix : List Int

structure Event where
  ctx : Int
  bit : Int

structure Pixel where
  dX : Int
  dY : Int

structure Arr2 where
  a0 : Int
  a1 : Int

noncomputable def TT : Nat → Type
  | 0 => Bitmap
  | 1 => Shape
  | 2 => Bool
  | 3 => Item
  | 4 => List Int
  | 5 => Event
  | 6 => Pixel
  | 7 => Arr2
  | _ => Unit
noncomputable def outs0 (x : Bitmap) : List (PV TT) := [.int .i64 x.w, .int .i64 x.h, .ints .u8 x.pix]
noncomputable def outs1 (x : Shape) : List (PV TT) := [.int .i64 x.pix_w, .int .i64 x.pix_h, .ints .u8 x.pix_pix, .int .i64 x.from_]
noncomputable def outs2 (x : Bool) : List (PV TT) := [.bool x]
noncomputable def outs3 (x : Item) : List (PV TT) := [.int .i64 x.symbol, .int .i64 x.s, .int .i64 x.t, .bool x.refined, .int .i64 x.dX, .int .i64 x.dY, .int .i64 x.pix_w, .int .i64 x.pix_h, .ints .u8 x.pix_pix]
noncomputable def outs4 (x : List Int) : List (PV TT) := [.ints .u8 x]
noncomputable def outs5 (x : Event) : List (PV TT) := [.int .i64 x.ctx, .int .i64 x.bit]
noncomputable def outs6 (x : Pixel) : List (PV TT) := [.int .i64 x.dX, .int .i64 x.dY]
noncomputable def outs7 (x : Arr2) : List (PV TT) := [.int .i64 x.a0, .int .i64 x.a1]
noncomputable def outs : (i : Nat) → TT i → List (PV TT)
  | 0, x => outs0 x
  | 1, x => outs1 x
  | 2, x => outs2 x
  | 3, x => outs3 x
  | 4, x => outs4 x
  | 5, x => outs5 x
  | 6, x => outs6 x
  | 7, x => outs7 x
  | _, _ => []
noncomputable def inn0 : List (PV TT) → Option Bitmap
  | [c0, c1, c2] => (V.asInt .i64 c0).bind fun y0 => (V.asInt .i64 c1).bind fun y1 => (V.asInts .u8 c2).bind fun y2 => some (Bitmap.mk y0 y1 y2)
  | _ => none
noncomputable def inn1 : List (PV TT) → Option Shape
  | [c0, c1, c2, c3] => (V.asInt .i64 c0).bind fun y0 => (V.asInt .i64 c1).bind fun y1 => (V.asInts .u8 c2).bind fun y2 => (V.asInt .i64 c3).bind fun y3 => some (Shape.mk y0 y1 y2 y3)
  | _ => none
noncomputable def inn2 : List (PV TT) → Option Bool
  | [c0] => (V.asBool c0).bind fun y0 => some y0
  | _ => none
noncomputable def inn3 : List (PV TT) → Option Item
  | [c0, c1, c2, c3, c4, c5, c6, c7, c8] => (V.asInt .i64 c0).bind fun y0 => (V.asInt .i64 c1).bind fun y1 => (V.asInt .i64 c2).bind fun y2 => (V.asBool c3).bind fun y3 => (V.asInt .i64 c4).bind fun y4 => (V.asInt .i64 c5).bind fun y5 => (V.asInt .i64 c6).bind fun y6 => (V.asInt .i64 c7).bind fun y7 => (V.asInts .u8 c8).bind fun y8 => some (Item.mk y0 y1 y2 y3 y4 y5 y6 y7 y8)
  | _ => none
noncomputable def inn4 : List (PV TT) → Option (List Int)
  | [c0] => (V.asInts .u8 c0).bind fun y0 => some y0
  | _ => none
noncomputable def inn5 : List (PV TT) → Option Event
  | [c0, c1] => (V.asInt .i64 c0).bind fun y0 => (V.asInt .i64 c1).bind fun y1 => some (Event.mk y0 y1)
  | _ => none
noncomputable def inn6 : List (PV TT) → Option Pixel
  | [c0, c1] => (V.asInt .i64 c0).bind fun y0 => (V.asInt .i64 c1).bind fun y1 => some (Pixel.mk y0 y1)
  | _ => none
noncomputable def inn7 : List (PV TT) → Option Arr2
  | [c0, c1] => (V.asInt .i64 c0).bind fun y0 => (V.asInt .i64 c1).bind fun y1 => some (Arr2.mk y0 y1)
  | _ => none
noncomputable def inn : (i : Nat) → List (PV TT) → Option (TT i)
  | 0, l => inn0 l
  | 1, l => inn1 l
  | 2, l => inn2 l
  | 3, l => inn3 l
  | 4, l => inn4 l
  | 5, l => inn5 l
  | 6, l => inn6 l
  | 7, l => inn7 l
  | _, _ => none
noncomputable def E : Env := { T := TT, outs := outs, inn := inn, sz := fun i => (getL [3, 4, 1, 9, 1, 2, 2, 2] i).getD 0, flat := fun i => (getL [false, false, true, false, false, true, true, true] i).getD false }
noncomputable def els : List (TypeId × EK) := [(3, .int .i64), (4, .row 2), (5, .int .u8), (24, .row 7), (35, .row 4), (45, .row 0), (64, .row 1), (66, .row 3), (279, .row 5), (297, .row 6)]
noncomputable abbrev I6 : TSh := .int .i64
def z88 : List BSh := [.same, .same]
def z87 : List TSh := [.ints .u8, I6]
def z86 : List TSh := [I6, .ints .i64]
def z85 : List BSh := [.ints .u8 false]
def z84 : List BSh := [.ints .i64 false]
def z83 : List TSh := [.ptr 0 0, I6, I6]
def z82 : List TSh := [.agg [.bool, I6]]
def z81 : List TSh := [I6, I6, .ints .u8]
def z80 : List BSh := [.same, .same, .same]
def z79 : List BSh := [.same, .rows 5 false]
def z78 : List TSh := [.int .u64, .int .u64]
def z77 : List TSh := [.ptr 0 0, .ints .i64]
def z76 : List TSh := [.agg z86]
def z75 : List TSh := [I6, I6, I6, .bool, I6]
def z74 : List BSh := [.gone, .ints .u8 false]
def z73 : List (Nat × TSh) := [(0, .int .u64), (2, I6)]
def z72 : List TSh := [.agg z81]
def z71 : List TSh := [.agg z86, I6]
def z70 : List TSh := [I6, I6, I6, I6, I6, .bool]
def z69 : List TSh := [I6, I6, I6, .bool, I6, I6]
def z68 : List TSh := [I6, I6, .ints .u8, .rows 7]
def z67 : List BSh := [.same, .rows 5 false, .same]
def z66 : List TSh := [.agg z78]
def z65 : List TSh := [.agg z75]
def z64 : List BSh := [.box [.arr 1], .ints .u8 false]
def z63 : List TSh := [.agg z81, I6, I6]
def z62 : List TSh := [.agg z69]
def z61 : List TSh := [.agg z70]
def z60 : List BSh := [.box z68]
def z59 : List BSh := [.same, .same, .same, .gone, .same]
def z58 : List BSh := [.same, .same, .same, .same, .same]
def z57 : List BSh := [.same, .same, .same, .rows 5 false]
def z56 : List BSh := [.same, .same, .same, .ints .u8 true]
def z55 : List BSh := [.same, .same, .same, .ints .u8 false]
def z54 : List TSh := [.ints .u8, .agg z86, I6]
def z53 : List TSh := [I6, I6, .bool, I6, I6, I6, .bool, I6]
def z52 : List TSh := [.rows 3, .fn 249 [.ptr 0 0, .ptr 1 0]]
def z51 : List BSh := [.same, .same, .same, .gone, .same, .same]
def z50 : List TSh := [I6, .arr 1, .int .u64, .int .u64, .arr 2]
def z49 : List BSh := [.same, .same, .same, .same, .same, .same]
def z48 : List TSh := [I6, .arr 3, .int .u64, .int .u64, .arr 4]
def z47 : List TSh := [I6, .arr 5, .int .u64, .int .u64, .arr 6]
def z46 : List TSh := [I6, I6, I6, .bool, I6, I6, I6, I6, I6, I6]
def z45 : List TSh := [.agg z53]
def z44 : List BSh := [.box z53]
def z43 : List TSh := [I6, I6, I6, .bool, I6, I6, I6, I6, .ints .u8]
def z42 : List TSh := [.agg z53, I6]
def z41 : List BSh := [.same, .same, .same, .same, .same, .same, .same]
def z40 : List TSh := [I6, I6, .bool, I6, I6, I6, .bool, I6, I6, I6, I6]
def z39 : List BSh := [.box z53, .box [I6]]
def z38 : List BSh := [.same, .same, .same, .same, .same, .same, .same, .same]
def z37 : List TSh := [.agg z86, I6, .agg z75]
def z36 : List BSh := [.box z68, .same, .ints .u8 true]
def z35 : List TSh := [I6, I6, I6, .bool, I6, I6, I6, .ints .u8, I6, I6, .ints .u8]
def z34 : List TSh := [I6, I6, I6, .bool, I6, I6, I6, I6, I6, I6, .ptr 1 0, .arr 4]
def z33 : List TSh := [.agg z53, .rows 0, .rows 3]
def z32 : List TSh := [.agg z75, .agg z81, I6, I6]
def z31 : List TSh := [.agg z69, .agg z86, .rows 0]
def z30 : List BSh := [.box z35]
def z29 : List TSh := [I6, I6, .bool, I6, I6, I6, .bool, I6, I6, I6, I6, .ptr 1 0, .rows 0]
def z28 : List TSh := [.agg z46, .agg z86]
def z27 : List BSh := [.box z50, .ints .i64 false, .ints .u8 true]
def z26 : List BSh := [.box z50, .ints .i64 true, .ints .u8 false]
def z25 : List BSh := [.box z50, .ints .i64 false, .ints .u8 false]
def z24 : List TSh := [.agg z69, .agg z86, .rows 0, .rows 1, .rows 2]
def z23 : List BSh := [.box z50, .ints .i64 true, .ints .u8 false, .same]
def z22 : List TSh := [.ptr 0 0, I6, .agg z75, .agg z81, .agg z81]
def z21 : List TSh := [.agg z70, .agg z53, .rows 0, .rows 3]
def z20 : List BSh := [.same, .same, .box z48, .ints .i64 false, .ints .u8 false]
def z19 : List TSh := [.agg z53, I6, .agg z43]
def z18 : List BSh := [.box z50, .ints .i64 true, .ints .u8 false, .same, .same, .same]
def z17 : List BSh := [.same, .same, .box z48, .ints .i64 false, .ints .u8 false, .same]
def z16 : List BSh := [.same, .same, .same, .same, .box z47, .ints .i64 false, .ints .u8 false]
def z15 : List BSh := [.same, .same, .same, .same, .box z47, .ints .i64 false, .ints .u8 false, .same]
def z14 : List TSh := [.lit .i64 2048, .lit .i64 1792, .lit .i64 1568, .lit .i64 1372, .lit .i64 1201, .lit .i64 1051, .lit .i64 920, .lit .i64 805, .lit .i64 705, .lit .i64 617, .lit .i64 540, .lit .i64 473, .lit .i64 414, .lit .i64 363, .lit .i64 318, .lit .i64 279, .lit .i64 245, .lit .i64 215, .lit .i64 189, .lit .i64 166, .lit .i64 146, .lit .i64 128, .lit .i64 112, .lit .i64 98, .lit .i64 86, .lit .i64 76, .lit .i64 67, .lit .i64 59, .lit .i64 52, .lit .i64 46, .lit .i64 41, .lit .i64 36]
def z13 : List TSh := [I6, .arr 2, .lit .i64 2048, .lit .i64 1792, .lit .i64 1568, .lit .i64 1372, .lit .i64 1201, .lit .i64 1051, .lit .i64 920, .lit .i64 805, .lit .i64 705, .lit .i64 617, .lit .i64 540, .lit .i64 473, .lit .i64 414, .lit .i64 363, .lit .i64 318, .lit .i64 279, .lit .i64 245, .lit .i64 215, .lit .i64 189, .lit .i64 166, .lit .i64 146, .lit .i64 128, .lit .i64 112, .lit .i64 98, .lit .i64 86, .lit .i64 76, .lit .i64 67, .lit .i64 59, .lit .i64 52, .lit .i64 46, .lit .i64 41, .lit .i64 36, .int .u64, .int .u64, .arr 3, .litb true]
def z12 : List TSh := [I6, .arr 1, .lit .i64 2048, .lit .i64 1792, .lit .i64 1568, .lit .i64 1372, .lit .i64 1201, .lit .i64 1051, .lit .i64 920, .lit .i64 805, .lit .i64 705, .lit .i64 617, .lit .i64 540, .lit .i64 473, .lit .i64 414, .lit .i64 363, .lit .i64 318, .lit .i64 279, .lit .i64 245, .lit .i64 215, .lit .i64 189, .lit .i64 166, .lit .i64 146, .lit .i64 128, .lit .i64 112, .lit .i64 98, .lit .i64 86, .lit .i64 76, .lit .i64 67, .lit .i64 59, .lit .i64 52, .lit .i64 46, .lit .i64 41, .lit .i64 36, .int .u64, .int .u64, .arr 2, .litb true]
def z11 : List TSh := [I6, .arr 5, .lit .i64 2048, .lit .i64 1792, .lit .i64 1568, .lit .i64 1372, .lit .i64 1201, .lit .i64 1051, .lit .i64 920, .lit .i64 805, .lit .i64 705, .lit .i64 617, .lit .i64 540, .lit .i64 473, .lit .i64 414, .lit .i64 363, .lit .i64 318, .lit .i64 279, .lit .i64 245, .lit .i64 215, .lit .i64 189, .lit .i64 166, .lit .i64 146, .lit .i64 128, .lit .i64 112, .lit .i64 98, .lit .i64 86, .lit .i64 76, .lit .i64 67, .lit .i64 59, .lit .i64 52, .lit .i64 46, .lit .i64 41, .lit .i64 36, .int .u64, .int .u64, .arr 6, .litb true]
def z10 : List BSh := [.box z12, .ints .i64 true, .ints .u8 true]
def z9 : List BSh := [.box z12, .ints .i64 true, .ints .u8 false]
def z8 : List BSh := [.box z12, .ints .i64 false, .ints .u8 false]
def z7 : List BSh := [.box z12, .ints .i64 false, .ints .u8 true, .same, .same, .same]
def z6 : List BSh := [.same, .same, .same, .same, .box z11, .ints .i64 false, .ints .u8 false]
def z5 : List BSh := [.box z12, .ints .i64 true, .ints .u8 false, .same, .same, .same, .box z68]
def z4 : List BSh := [.box z29, .box z13, .ints .i64 false, .ints .u8 false]
def z3 : List BSh := [.box z34, .box z13, .ints .i64 false, .ints .u8 false, .rows 0 true]
def z2 : List BSh := [.box z34, .box z13, .ints .i64 false, .ints .u8 false, .rows 0 false]
def z1 : List BSh := [.box z12, .ints .i64 true, .ints .u8 false, .same, .same, .same, .box z35]
def z0 : List BSh := [.same, .same, .same, .same, .box z11, .ints .i64 false, .ints .u8 false, .box [I6, I6, .bool, I6, I6, I6, .bool, I6, I6, I6, I6, .ptr 4 0, .rows 0]]
noncomputable def insts : List FInst := [
  { fid := 5, sig := { ps := [.agg [I6, I6, I6, .bool, I6, I6, I6, .ints .i64, .rows 0, .rows 1, .rows 2, I6, I6, I6, I6, I6, .bool, I6, I6, .bool, I6, I6, I6, .bool, I6, .rows 3]], rs := [.bool] }, ann := { calls := [(12, 1), (78, 2), (90, 3), (104, 4), (113, 5), (125, 6), (137, 7), (146, 5), (149, 2)], loops := [(3, { tm := [(3, I6), (4, I6)], bs := [.same] }, [(.exit 0, { tm := [(3, I6)], bs := [.same] })]), (7, { tm := [(3, I6), (5, I6)], bs := [.same] }, [(.exit 2, { tm := [(3, I6)], bs := [.same] })])], joins := [(20, [(.normal, { tm := [(77, .bool)], bs := [.same] })]), (28, [(.normal, { tm := [(115, .bool)], bs := [.same] })])] } },
  { fid := 6, sig := { ps := [.rows 0], rs := [I6] }, ann := { loops := [(3, { tm := [(3, I6), (4, I6)], bs := [] }, [(.exit 0, { tm := [(3, I6)], bs := [] })])] } },
  { fid := 7, sig := { rs := [.bool] }, ann := { calls := [(4, 8), (12, 5)] } },
  { fid := 19, sig := { ps := z24, rs := z87 }, ann := { calls := [(22, 9), (45, 10), (58, 11), (63, 12), (67, 13)] } },
  { fid := 20, sig := { ps := z24, rs := z87 }, ann := { calls := [(22, 14), (45, 15), (53, 16), (56, 17), (59, 18)] } },
  { fid := 10, sig := { ps := [.ints .u8, .ints .u8], rs := [.bool] }, ann := {} },
  { fid := 21, sig := { ps := z21, rs := z87 }, ann := { calls := [(16, 19), (28, 20), (37, 21), (44, 22), (49, 23), (57, 10), (65, 10), (72, 11), (77, 24), (82, 12), (86, 13)], joins := [(2, [(.normal, { tm := [(22, .bool)], bs := z88 })])] } },
  { fid := 22, sig := { ps := z21, rs := z87 }, ann := { calls := [(14, 25), (25, 26), (33, 27), (40, 15), (49, 15), (57, 28), (63, 29), (66, 17), (69, 18)], joins := [(2, [(.normal, { tm := [(20, .bool)], bs := z88 })])], slots := [(60, 0)], pads := [(7, 1)] } },
  { fid := 23, sig := { ps := [I6, I6, I6, I6], rs := z87 }, ann := { calls := [(17, 20), (49, 12), (56, 11)], joins := [(4, [(.normal, { tm := [(41, .bool)], bs := z88 })])] } },
  { fid := 55, sig := { ps := z24, rs := z54 }, ann := { calls := [(21, 30), (26, 31), (46, 32), (50, 33), (51, 34), (57, 35), (62, 36), (65, 37), (67, 38), (70, 39), (71, 40)], joins := [(8, [(.normal, { tm := [(38, .bool)], bs := z80 })]), (18, [(.normal, { tm := [(15, .ptr 4 0)], bs := z6 })]), (47, [(.normal, { tm := [(13, I6)], bs := z80 })]), (77, [(.normal, { tm := [(13, I6)], bs := z80 })])] } },
  { fid := 38, sig := { ps := [.bool, I6], rs := [I6] }, ann := {} },
  { fid := 26, sig := { ps := z77, pb := z64, rb := z64 }, ann := { loops := [(1, { tm := [(8, I6)], bs := z64 }, [(.exit 0, { tm := [], bs := z64 })])] } },
  { fid := 27, sig := { ps := z77, pb := z64, rb := z64 }, ann := { calls := [(16, 41)], loops := [(1, { tm := [(10, I6)], bs := z64 }, [(.exit 0, { tm := [], bs := z64 })])] } },
  { fid := 28, sig := { ps := [.ptr 0 0, .ints .u8, I6], pb := z64, rs := z87, rb := [.gone, .gone] }, ann := {} },
  { fid := 56, sig := { ps := z24, rs := z54 }, ann := { calls := [(31, 42), (37, 43), (50, 44), (55, 45), (60, 46), (65, 47), (89, 48), (95, 49), (96, 48), (104, 49), (105, 48), (115, 50), (122, 51), (124, 50), (128, 52), (134, 53), (136, 49), (137, 48), (139, 49), (140, 48), (146, 54), (156, 55), (162, 48), (185, 49), (186, 48), (190, 56), (192, 57), (194, 58)], loops := [(12, { tm := [(21, I6), (22, I6), (23, I6)], bs := z16 }, [(.exit 0, { tm := [], bs := z16 })]), (34, { tm := [(25, .bool), (26, I6)], bs := z16 }, [(.exit 2, { tm := [], bs := z16 })]), (36, { tm := [(26, I6), (27, I6)], bs := z41 }, [(.exit 4, { tm := [(26, I6), (27, I6)], bs := z41 })])], joins := [(16, [(.normal, { tm := [(18, .ptr 4 0)], bs := z16 })]), (30, [(.normal, { tm := [(84, .bool)], bs := z38 })]), (67, [(.normal, { tm := [(13, I6)], bs := z80 })]), (72, [(.normal, { tm := [(178, .bool)], bs := z41 })]), (169, [(.normal, { tm := [(21, I6), (22, I6)], bs := z15 })]), (173, [(.normal, { tm := [], bs := z15 })]), (319, [(.normal, { tm := [], bs := z16 })])] } },
  { fid := 42, sig := { ps := [.bool], rs := [I6] }, ann := {} },
  { fid := 48, sig := { ps := z65, rs := [.ints .u8] }, ann := {} },
  { fid := 33, sig := { ps := [I6], rs := [.ints .u8] }, ann := { calls := [(7, 59)] } },
  { fid := 32, sig := { ps := [.rows 4], rs := [.ints .u8] }, ann := { loops := [(3, { tm := [(3, .arr 0), (4, I6)], bs := z85 }, [(.exit 0, { tm := [(3, .arr 0)], bs := z85 })])] } },
  { fid := 34, sig := { ps := z61, rs := [.bool] }, ann := { calls := [(10, 20), (18, 60), (23, 60)] } },
  { fid := 35, sig := { ps := [I6, I6, I6], rs := [.agg [I6, I6, .arr 0], I6], rb := z85 }, ann := { calls := [(29, 61)], loops := [(5, { tm := [(35, I6)], bs := [.same, .ints .u8 true, .same] }, [(.exit 0, { tm := [], bs := [.same, .ints .u8 true, .same] })])], joins := [(2, [(.normal, { tm := [(24, .bool)], bs := [.same] })])] } },
  { fid := 57, sig := { ps := z33, rs := z87 }, ann := { calls := [(24, 62), (30, 63), (35, 64), (44, 65), (50, 66), (55, 34), (70, 67), (75, 68), (83, 68), (98, 67), (116, 68), (125, 69), (133, 70), (135, 38)], loops := [(12, { tm := [(2, .rows 3), (16, I6), (17, I6)], bs := z0 }, [(.exit 0, { tm := [], bs := z0 })]), (19, { tm := [(2, .rows 3), (19, I6), (20, I6)], bs := z0 }, [(.exit 2, { tm := [(2, .rows 3)], bs := z0 })])], joins := [(10, [(.normal, { tm := [(40, .bool)], bs := [.same] })]), (18, [(.normal, { tm := [(13, .ptr 4 0)], bs := z6 })]), (38, [(.normal, { tm := [(101, .bool)], bs := z38 })]), (211, [(.normal, { tm := [], bs := z0 })])] } },
  { fid := 37, sig := { ps := [.ptr 0 0, .agg z70], pb := z64, rb := z64 }, ann := { calls := [(10, 12), (17, 24), (23, 10), (26, 11)] } },
  { fid := 58, sig := { ps := [.int .u64], rs := [I6] }, ann := { calls := [(7, 71)] } },
  { fid := 39, sig := { ps := z77, pb := z64, rb := z64 }, ann := { calls := [(16, 72)], loops := [(1, { tm := [(10, I6)], bs := z64 }, [(.exit 0, { tm := [], bs := z64 })])] } },
  { fid := 40, sig := { ps := z61, rs := [.bool] }, ann := { calls := [(7, 73)], joins := [(2, [(.normal, { tm := [(18, .bool)], bs := [.same] })])] } },
  { fid := 59, sig := { ps := z33, rs := z87 }, ann := { calls := [(26, 74), (42, 75), (50, 75), (56, 76), (61, 46), (74, 75), (86, 48), (91, 77), (97, 77), (109, 77), (123, 77), (128, 53), (136, 50), (138, 50), (151, 77), (159, 77), (163, 77), (167, 77), (178, 78), (182, 55), (189, 48), (191, 56)], loops := [(5, { tm := [(9, I6)], bs := [.same] }, [(.exit 0, { tm := [], bs := [.same] }), (.ret, { tm := [(6, .ints .u8), (7, I6)], bs := [.same] })]), (13, { tm := [(14, I6), (15, I6), (16, I6), (66, I6)], bs := z20 }, [(.exit 2, { tm := [], bs := z20 })])], joins := [(20, [(.normal, { tm := [(12, .ptr 2 0)], bs := z20 })]), (32, [(.normal, { tm := [(81, .bool)], bs := z49 })]), (163, [(.normal, { tm := [(14, I6), (15, I6)], bs := z17 })]), (167, [(.normal, { tm := [], bs := z17 })]), (229, [(.normal, { tm := [], bs := z17 })])] } },
  { fid := 60, sig := { ps := [I6], rs := [I6] }, ann := { loops := [(2, { tm := [(3, I6)], bs := [] }, [(.exit 0, { tm := [(3, I6)], bs := [] })])] } },
  { fid := 43, sig := { ps := z61, rs := [.ints .u8] }, ann := { calls := [(5, 17), (8, 17), (11, 29), (14, 29), (19, 15), (25, 18)] } },
  { fid := 44, sig := { ps := [I6], rs := [.ints .u8] }, ann := { calls := [(7, 79)] } },
  { fid := 117, sig := { ps := z31, rs := [I6] }, ann := { calls := [(11, 80), (25, 81), (45, 82)], joins := [(8, [(.normal, { tm := [(18, .bool)], bs := z88 })])] } },
  { fid := 118, sig := { ps := [.rows 0, .rows 1], rs := [I6] }, ann := { calls := [(17, 83)], loops := [(2, { tm := [(11, I6)], bs := [] }, [(.exit 0, { tm := [], bs := [] }), (.ret, { tm := [(4, I6)], bs := [] })]), (8, { tm := [(22, I6)], bs := [] }, [(.exit 2, { tm := [], bs := [] }), (.ret, { tm := [(4, I6)], bs := [] })])] } },
  { fid := 119, sig := { ps := [.agg z69, I6], rs := [.agg z46] }, ann := { calls := [(12, 84), (17, 85), (23, 86)], slots := [(5, 0)], pads := [(1, 1)] } },
  { fid := 120, sig := { ps := z28, rs := z76 }, ann := { calls := [(14, 66)] } },
  { fid := 79, sig := { ps := z76, rs := [.ptr 0 0, .lit .i64 0], rb := z8, more := [([.nil, .lit .i64 10], [])] }, ann := { calls := [(5, 81), (8, 87)] } },
  { fid := 121, sig := { ps := [.rows 0], rs := [.arr 0], rb := [.rows 0 false] }, ann := {} },
  { fid := 122, sig := { ps := [.ptr 0 0, .rows 1], pb := z2, rb := z2 }, ann := { calls := [(19, 88), (41, 88), (51, 89), (59, 70)], loops := [(1, { tm := [(1, .rows 1), (4, I6)], bs := z2 }, [(.exit 0, { tm := [], bs := z2 })]), (6, { tm := [(1, .rows 1), (6, I6)], bs := z2 }, [(.exit 2, { tm := [(1, .rows 1)], bs := z2 })])], joins := [(12, [(.normal, { tm := [(32, .bool)], bs := z58 })])] } },
  { fid := 123, sig := { ps := [.ptr 0 0, .rows 2], pb := z2, rb := z3 }, ann := { calls := [(27, 88)], loops := [(1, { tm := [(1, .rows 2), (4, .bool)], bs := z3 }, [(.exit 0, { tm := [], bs := z3 })]), (4, { tm := [(5, I6)], bs := z58 }, [(.exit 2, { tm := [(5, I6)], bs := z58 })])] } },
  { fid := 83, sig := { ps := [.ptr 0 0], pb := z8, rs := [.ints .u8], rb := z10 }, ann := { calls := [(8, 90)], loops := [(5, { tm := [(3, .arr 3), (15, I6)], bs := z56 }, [(.exit 0, { tm := [(3, .arr 3)], bs := z56 }), (.ret, { tm := [(2, .arr 3)], bs := z55 })]), (10, { tm := [(3, .arr 3), (38, I6)], bs := z55 }, [(.exit 2, { tm := [(3, .arr 3)], bs := z55 })])] } },
  { fid := 125, sig := { ps := [.ptr 0 0], pb := z8, rs := z76, rb := [.box z12, .ints .i64 false, .ints .u8 true] }, ann := { calls := [(4, 90), (11, 91)] } },
  { fid := 124, sig := { ps := z28, rs := z76 }, ann := { calls := [(12, 92)] } },
  { fid := 64, sig := { ps := [I6], rs := z87 }, ann := { loops := [(5, { tm := [(0, I6), (4, .arr 1)], bs := z74 }, [(.exit 0, { tm := [(4, .arr 1)], bs := z74 })])], joins := [(2, [(.normal, { tm := [(10, .bool)], bs := [] })])] } },
  { fid := 126, sig := { ps := z31, rs := [I6] }, ann := { calls := [(9, 93), (13, 94), (25, 95)], loops := [(6, { tm := [(7, I6)], bs := z88 }, [(.exit 0, { tm := [], bs := z88 }), (.ret, { tm := [(6, I6)], bs := z88 })])] } },
  { fid := 127, sig := { ps := [.rows 0, .rows 1, .rows 2], rs := [I6] }, ann := { calls := [(20, 95)], loops := [(2, { tm := [(7, I6)], bs := [] }, [(.exit 0, { tm := [], bs := [] }), (.ret, { tm := [(6, I6)], bs := [] })]), (7, { tm := [(8, I6)], bs := [] }, [(.exit 2, { tm := [], bs := [] }), (.ret, { tm := [(6, I6)], bs := [] })])] } },
  { fid := 128, sig := { ps := [.agg z69, .agg z86, I6], rs := z71 }, ann := { calls := [(14, 52), (20, 96), (30, 97)] } },
  { fid := 129, sig := { ps := z62, rs := [I6, I6] }, ann := { calls := [(11, 98), (17, 99)] } },
  { fid := 90, sig := { ps := z76, rs := [.ptr 0 0, .lit .i64 0], rb := z25, more := [([.nil, .lit .i64 10], [])] }, ann := { calls := [(5, 100), (8, 101), (9, 102)] } },
  { fid := 130, sig := { ps := [.rows 0, .rows 1], rs := [.rows 0] }, ann := { loops := [(3, { tm := [(5, .arr 0), (6, I6)], bs := [.rows 0 false] }, [(.exit 0, { tm := [(5, .arr 0)], bs := [.rows 0 false] })])] } },
  { fid := 131, sig := { ps := [.ptr 0 0, I6, .agg [.bool, I6]], pb := z25, rs := [I6], rb := z25 }, ann := { calls := [(10, 103), (14, 57), (18, 104), (22, 105), (42, 50)], loops := [(5, { tm := [(8, I6)], bs := z23 }, [(.exit 0, { tm := [], bs := z23 })])], joins := [(2, [(.normal, { tm := [(20, .bool)], bs := [.box z50, .ints .i64 false, .ints .u8 true, .same] })])] } },
  { fid := 132, sig := { ps := [I6], rs := z82 }, ann := {} },
  { fid := 133, sig := { ps := z83, pb := z25, rs := [I6], rb := z26 }, ann := { calls := [(43, 106), (51, 107), (74, 108), (80, 109), (102, 110)], loops := [(8, { tm := [], bs := z26 }, [(.exit 0, { tm := [], bs := z26 })])], joins := [(6, [(.normal, { tm := [(29, .bool)], bs := z80 })])] } },
  { fid := 93, sig := { ps := z22, pb := z25, rs := [I6], rb := z25 }, ann := { calls := [(20, 111), (23, 112), (27, 112), (59, 113), (65, 113), (71, 57), (79, 114), (85, 98), (99, 115), (121, 50), (133, 113), (141, 116), (146, 113), (147, 50)], loops := [(6, { tm := [(11, I6)], bs := z49 }, [(.exit 0, { tm := [], bs := z49 }), (.ret, { tm := [(10, I6)], bs := z49 })]), (9, { tm := [(12, I6)], bs := z49 }, [(.exit 2, { tm := [], bs := z49 }), (.ret, { tm := [(10, I6)], bs := z49 })]), (18, { tm := [(16, I6)], bs := z18 }, [(.exit 4, { tm := [], bs := z18 })]), (27, { tm := [(18, I6)], bs := z18 }, [(.exit 6, { tm := [], bs := z18 })])], joins := [(6, [(.normal, { tm := [(29, .bool)], bs := z49 })]), (12, [(.normal, { tm := [(47, .bool)], bs := z49 })]), (191, [(.normal, { tm := [], bs := z18 }), (.exit 5, { tm := [], bs := z18 })]), (229, [(.normal, { tm := [(17, I6)], bs := z49 })])] } },
  { fid := 92, sig := { ps := [I6], rs := [I6] }, ann := { loops := [(2, { tm := [(3, I6)], bs := [] }, [(.exit 0, { tm := [(3, I6)], bs := [] })])] } },
  { fid := 134, sig := { ps := [.ptr 0 0, I6, I6, I6], pb := z25, rs := [I6], rb := z25 }, ann := { calls := [(14, 117), (18, 57), (25, 104), (44, 50)], loops := [(5, { tm := [(9, I6), (10, I6)], bs := z26 }, [(.exit 0, { tm := [], bs := z26 })])], joins := [(2, [(.normal, { tm := [(27, .bool)], bs := z27 })])] } },
  { fid := 135, sig := { ps := [.agg z69, I6, I6], rs := z65 }, ann := {} },
  { fid := 116, sig := { ps := z22, pb := z25, rs := [I6], rb := z26 }, ann := { calls := [(23, 118), (26, 118), (33, 119), (40, 120), (56, 121), (64, 50), (76, 122), (92, 123), (97, 124), (99, 50)], loops := [(8, { tm := [(13, I6)], bs := z18 }, [(.exit 0, { tm := [], bs := z18 })]), (17, { tm := [(16, I6)], bs := z18 }, [(.exit 2, { tm := [], bs := z18 })])], joins := [(6, [(.normal, { tm := [(11, I6)], bs := z49 })]), (20, [(.normal, { tm := [(14, .bool)], bs := z49 })]), (40, [(.normal, { tm := [(84, .bool)], bs := z49 })]), (119, [(.normal, { tm := [], bs := z18 })]), (121, [(.normal, { tm := [(15, I6)], bs := z49 })])] } },
  { fid := 95, sig := { ps := [.ptr 0 0], pb := z25, rs := [.ints .u8], rb := [.box z50, .ints .i64 true, .ints .u8 true] }, ann := { calls := [(15, 125)] } },
  { fid := 137, sig := { ps := [.ptr 0 0], pb := z25, rs := z76, rb := z27 }, ann := { calls := [(10, 101)] } },
  { fid := 136, sig := { ps := z71, rs := z76 }, ann := {} },
  { fid := 70, sig := { ps := [I6], rs := z87 }, ann := { loops := [(5, { tm := [(0, I6), (4, .arr 1)], bs := z74 }, [(.exit 0, { tm := [(4, .arr 1)], bs := z74 })])], joins := [(2, [(.normal, { tm := [(10, .bool)], bs := [] })])] } },
  { fid := 71, sig := { ps := [I6], rs := [.bool] }, ann := {} },
  { fid := 72, sig := { ps := [I6, I6], rs := [.agg [I6, I6, .arr 0], I6], rb := z85 }, ann := { calls := [(8, 126)] } },
  { fid := 138, sig := { ps := z33, rs := [I6] }, ann := { calls := [(8, 127), (11, 128), (14, 129)] } },
  { fid := 139, sig := { ps := [.rows 3, .fn 140 [.ptr 0 0]], pb := z44, rs := [.bool], rb := z44 }, ann := { calls := [(23, 130)], loops := [(2, { tm := [(5, I6)], bs := z44 }, [(.exit 0, { tm := [], bs := z44 }), (.ret, { tm := [(4, .bool)], bs := z44 })])] } },
  { fid := 142, sig := { ps := [.agg z53, I6, .rows 3], rs := [.bool] }, ann := { calls := [(17, 131)] } },
  { fid := 143, sig := { ps := z42, rs := [.agg z40] }, ann := { calls := [(10, 84), (26, 86)], slots := [(5, 0)], pads := [(1, 1)] } },
  { fid := 78, sig := { ps := [I6, I6], rs := [.agg [I6, .arr 0], I6], rb := z84 }, ann := { joins := [(2, [(.normal, { tm := [(19, .bool)], bs := [.same] })])] } },
  { fid := 141, sig := { ps := [.agg z53, .agg z43], rs := [I6] }, ann := { calls := [(9, 132)] } },
  { fid := 144, sig := { ps := z83, pb := z4, rb := z4 }, ann := { calls := [(13, 70)] } },
  { fid := 145, sig := { ps := [.ptr 0 0, .agg z43], pb := z4, rb := z4 }, ann := { calls := [(21, 67), (30, 68), (42, 133), (57, 134), (62, 134), (78, 68), (86, 68), (90, 68), (94, 68), (112, 135), (116, 136)], joins := [(23, [(.normal, { tm := [], bs := [.box z29, .box z13, .ints .i64 false, .ints .u8 false, .same] })])] } },
  { fid := 146, sig := { ps := [.ptr 0 0, I6, .agg [.bool, I6]], pb := z8, rs := [I6], rb := z8 }, ann := { calls := [(9, 134), (12, 137), (15, 39), (17, 138), (24, 139), (25, 140)] } },
  { fid := 148, sig := { ps := [.int .u64], rs := [I6] }, ann := { joins := [(9, [(.normal, { tm := z73, bs := [] })]), (17, [(.normal, { tm := z73, bs := [] })]), (29, [(.normal, { tm := z73, bs := [] })])] } },
  { fid := 84, sig := { ps := [I6], rs := z87 }, ann := { calls := [(13, 41), (26, 41)], joins := [(2, [(.normal, { tm := [(4, .bool)], bs := [] })]), (6, [(.normal, { tm := [(16, .bool)], bs := [] })])] } },
  { fid := 85, sig := { ps := [I6, I6], rs := [.bool] }, ann := {} },
  { fid := 149, sig := { ps := [.agg z53, .rows 0, .rows 3, .bool, I6], rs := [I6] }, ann := { calls := [(18, 141), (29, 142), (46, 142), (69, 143)], loops := [(4, { tm := [(3, .bool), (22, I6)], bs := [.same] }, [(.exit 0, { tm := [(3, .bool)], bs := [.same] })]), (9, { tm := [(3, .bool), (34, I6)], bs := [.same] }, [(.exit 2, { tm := [(3, .bool)], bs := [.same] })]), (18, { tm := [(62, I6)], bs := [.same] }, [(.exit 4, { tm := [], bs := [.same] }), (.ret, { tm := [(10, I6)], bs := [.same] })])], joins := [(30, [(.normal, { tm := [(59, .bool)], bs := [.same] })])] } },
  { fid := 150, sig := { ps := z42, rs := [I6] }, ann := {} },
  { fid := 151, sig := { ps := z42, rs := z71 }, ann := { calls := [(11, 52), (21, 99)], joins := [(35, [(.normal, { tm := [(7, I6)], bs := z88 })])] } },
  { fid := 152, sig := { ps := z83, pb := z25, rb := z25 }, ann := { calls := [(10, 48)] } },
  { fid := 153, sig := { ps := [.agg z53, I6, I6], rs := z65 }, ann := {} },
  { fid := 96, sig := { ps := [I6], rs := z87 }, ann := { calls := [(15, 59), (20, 59)], joins := [(2, [(.normal, { tm := [(9, .bool)], bs := [] })])] } },
  { fid := 220, sig := { ps := z62, rs := [I6, I6] }, ann := { calls := [(6, 144), (9, 32)] } },
  { fid := 169, sig := { ps := z76, rs := [.bool] }, ann := { loops := [(7, { tm := [(26, I6)], bs := [.same] }, [(.exit 0, { tm := [], bs := [.same] }), (.ret, { tm := [(2, .bool)], bs := [.same] })])], joins := [(2, [(.normal, { tm := [(19, .bool)], bs := [.same] })]), (45, [(.normal, { tm := [(3, I6)], bs := [.same] })])] } },
  { fid := 221, sig := { ps := [.rows 0, .fn 222 []], rs := [.bool] }, ann := { calls := [(7, 145)] } },
  { fid := 223, sig := { ps := z72, rs := [.bool] }, ann := { calls := [(4, 146)] } },
  { fid := 81, sig := { ps := [I6], rs := [I6] }, ann := { calls := [(8, 23)] } },
  { fid := 77, sig := { ps := z65, rs := [I6, I6] }, ann := { calls := [(5, 147), (8, 148)] } },
  { fid := 224, sig := { ps := [I6], rs := [I6, I6] }, ann := { calls := [(11, 149)], joins := [(2, [(.normal, { tm := [(9, .bool)], bs := [] })])] } },
  { fid := 170, sig := { ps := z76, rs := [.agg [I6, .arr 0, .lit .i64 2048, .lit .i64 1792, .lit .i64 1568, .lit .i64 1372, .lit .i64 1201, .lit .i64 1051, .lit .i64 920, .lit .i64 805, .lit .i64 705, .lit .i64 617, .lit .i64 540, .lit .i64 473, .lit .i64 414, .lit .i64 363, .lit .i64 318, .lit .i64 279, .lit .i64 245, .lit .i64 215, .lit .i64 189, .lit .i64 166, .lit .i64 146, .lit .i64 128, .lit .i64 112, .lit .i64 98, .lit .i64 86, .lit .i64 76, .lit .i64 67, .lit .i64 59, .lit .i64 52, .lit .i64 46, .lit .i64 41, .lit .i64 36, .int .u64, .int .u64]], rb := z84 }, ann := { calls := [(4, 91), (5, 150)] } },
  { fid := 225, sig := { ps := z83, pb := z2, rb := z3 }, ann := { calls := [(13, 70)] } },
  { fid := 226, sig := { ps := [.ptr 0 0, .agg [I6, I6, .ints .u8, I6]], pb := z2, rb := z2 }, ann := { calls := [(11, 134), (30, 151), (35, 134), (47, 133), (49, 88), (51, 88), (65, 152), (76, 136)], joins := [(13, [(.normal, { tm := [], bs := [.box z34, .box z13, .ints .i64 false, .ints .u8 false, .rows 0 true, .same] })])] } },
  { fid := 177, sig := { ps := [.ptr 0 0], pb := z8, rs := [.bool], rb := z10 }, ann := {} },
  { fid := 228, sig := { ps := z76, rs := [.agg [I6, .arr 0]], rb := z84 }, ann := {} },
  { fid := 227, sig := { ps := [.ints .i64], rs := [.ints .i64] }, ann := {} },
  { fid := 229, sig := { ps := z62, rs := [.bool] }, ann := { calls := [(5, 111)] } },
  { fid := 230, sig := { ps := [.agg z69, .agg z86], rs := [.bool] }, ann := { calls := [(9, 96), (18, 100)] } },
  { fid := 231, sig := { ps := z72, rs := [.bool] }, ann := { calls := [(4, 112)] } },
  { fid := 232, sig := { ps := z62, rs := [I6, I6] }, ann := { calls := [(7, 93), (11, 45)] } },
  { fid := 89, sig := { ps := [I6, I6], rs := [.agg [I6, .arr 0], I6], rb := z84 }, ann := { joins := [(2, [(.normal, { tm := [(19, .bool)], bs := [.same] })])] } },
  { fid := 88, sig := { ps := z65, rs := [I6, I6] }, ann := { calls := [(5, 111), (8, 153)] } },
  { fid := 233, sig := { ps := [I6], rs := [I6, I6] }, ann := { calls := [(11, 120)] } },
  { fid := 180, sig := { ps := z76, rs := [.bool] }, ann := { loops := [(7, { tm := [(26, I6)], bs := [.same] }, [(.exit 0, { tm := [], bs := [.same] }), (.ret, { tm := [(2, .bool)], bs := [.same] })])], joins := [(8, [(.normal, { tm := [(22, .bool)], bs := [.same] })]), (17, [(.normal, { tm := [(3, I6)], bs := [.same] })])] } },
  { fid := 181, sig := { ps := z76, rs := [.agg [I6, .arr 0]], rb := z84 }, ann := {} },
  { fid := 182, sig := { rs := z66 }, ann := {} },
  { fid := 234, sig := { ps := z82, rs := [.bool] }, ann := {} },
  { fid := 235, sig := { ps := [I6, I6, I6], rs := [.bool] }, ann := {} },
  { fid := 236, sig := { ps := z82, rs := [.rows 5] }, ann := { loops := [(9, { tm := [(6, .arr 2), (7, I6)], bs := [.same, .same, .ints .i64 false] }, [(.exit 0, { tm := [(6, .arr 2)], bs := [.same, .same, .ints .i64 false] })]), (14, { tm := [(3, .arr 1), (9, I6)], bs := z67 }, [(.exit 2, { tm := [(3, .arr 1)], bs := z67 })]), (20, { tm := [(3, .arr 1), (10, I6)], bs := z67 }, [(.exit 4, { tm := [(3, .arr 1)], bs := z67 })])], joins := [(43, [(.normal, { tm := [(4, I6), (5, I6)], bs := z88 })]), (101, [(.normal, { tm := [(3, .arr 1)], bs := z67 })]), (133, [(.normal, { tm := [(11, I6)], bs := z80 })])] } },
  { fid := 237, sig := { ps := [I6, I6], rs := [I6] }, ann := { calls := [(12, 154), (18, 154)] } },
  { fid := 238, sig := { ps := [.agg z78, I6, I6], rs := z66 }, ann := { calls := [(13, 155), (17, 155)] } },
  { fid := 239, sig := { ps := [I6, I6, I6], rs := [I6] }, ann := { joins := [(95, [(.normal, { tm := [], bs := [.box [I6, I6]] })])] } },
  { fid := 240, sig := { ps := z66, rs := [.bool] }, ann := {} },
  { fid := 241, sig := { ps := z66, rs := z66 }, ann := {} },
  { fid := 29, sig := { ps := z65, rs := [.bool] }, ann := { joins := [(2, [(.normal, { tm := [(20, .bool)], bs := [.same] })]), (6, [(.normal, { tm := [(42, .bool)], bs := [.same] })])] } },
  { fid := 159, sig := { ps := z72, rs := [.bool] }, ann := { calls := [(8, 73)], loops := [(4, { tm := [(3, I6)], bs := [.same] }, [(.exit 0, { tm := [], bs := [.same] }), (.ret, { tm := [(2, .bool)], bs := [.same] })])], joins := [(2, [(.normal, { tm := [(20, .bool)], bs := [.same] })])] } },
  { fid := 165, sig := { ps := z63, rs := [I6] }, ann := { calls := [(10, 156)] } },
  { fid := 183, sig := { ps := [.agg z75, I6, I6, I6, I6, .agg z81], rs := [I6] }, ann := { calls := [(17, 98), (21, 157)] } },
  { fid := 184, sig := { ps := [.agg z81, .agg z81, I6], rs := [.ints .u8] }, ann := { calls := [(20, 113), (24, 113)], loops := [(3, { tm := [(7, .arr 2), (8, I6)], bs := [.same, .same, .ints .u8 false] }, [(.exit 0, { tm := [(7, .arr 2)], bs := [.same, .same, .ints .u8 false] })])], joins := [(51, [(.normal, { tm := [(9, I6)], bs := z80 })])] } },
  { fid := 185, sig := { ps := z32, rs := [I6] }, ann := { calls := [(13, 153), (37, 113)], loops := [(4, { tm := [(10, I6), (11, I6)], bs := z88 }, [(.exit 0, { tm := [(10, I6)], bs := z88 })])] } },
  { fid := 242, sig := { ps := [I6, I6], rs := [.bool] }, ann := {} },
  { fid := 107, sig := { ps := z72, rs := [.bool] }, ann := { calls := [(7, 158), (22, 159)] } },
  { fid := 215, sig := { ps := [.agg z75, .bool, I6, .agg z86], rs := [I6] }, ann := { calls := [(11, 160), (26, 120)] } },
  { fid := 214, sig := { ps := [I6], rs := [I6] }, ann := {} },
  { fid := 216, sig := { ps := [.agg z75, .agg z81, .agg z81, I6], rs := [.bool] }, ann := { calls := [(23, 122), (31, 124)], loops := [(2, { tm := [(9, I6)], bs := z80 }, [(.exit 0, { tm := [], bs := z80 }), (.ret, { tm := [(8, .bool)], bs := z80 })])] } },
  { fid := 217, sig := { ps := z32, rs := [.int .u8, .bool] }, ann := { calls := [(21, 124), (43, 124)], loops := [(3, { tm := [(11, I6)], bs := z88 }, [(.exit 0, { tm := [], bs := z88 }), (.ret, { tm := [(8, .int .u8), (9, .bool)], bs := z88 })])] } },
  { fid := 218, sig := { ps := [.agg z75, .agg z81, .agg z81, I6, I6], rs := [I6] }, ann := { calls := [(45, 124), (77, 124)], loops := [(6, { tm := [(12, I6), (30, I6)], bs := z59 }, [(.exit 0, { tm := [(12, I6)], bs := z59 })]), (11, { tm := [(12, I6), (56, I6)], bs := z51 }, [(.exit 2, { tm := [(12, I6)], bs := z51 })])], joins := [(49, [(.normal, { tm := [(11, .arr 4)], bs := [.same, .same, .same, .gone, .rows 7 false] })])] } },
  { fid := 219, sig := { ps := z63, rs := [.int .u8] }, ann := { joins := [(2, [(.normal, { tm := [(24, .bool)], bs := [.same] })])] } },
  { fid := 187, sig := { ps := z66, rs := [.ints .u8] }, ann := { loops := [(3, { tm := [(3, .arr 1), (4, .int .u64)], bs := [.same, .ints .u8 false] }, [(.exit 0, { tm := [(3, .arr 1)], bs := [.same, .ints .u8 false] })])] } },
  { fid := 166, sig := { ps := [I6, I6], rs := [.bool] }, ann := {} },
  { fid := 243, sig := { ps := z45, rs := [.bool] }, ann := { calls := [(6, 161)] } },
  { fid := 221, sig := { ps := [.rows 0, .fn 244 []], rs := [.bool] }, ann := { calls := [(7, 162)] } },
  { fid := 246, sig := { ps := [.rows 3, .fn 247 []], rs := [.bool] }, ann := { calls := [(7, 163)] } },
  { fid := 140, sig := { ps := [.agg z43, .agg z43, .ptr 0 0], pb := z44, rs := [I6], rb := z44 }, ann := { calls := [(8, 67), (11, 67)] } },
  { fid := 246, sig := { ps := z52, pb := z39, rs := [.bool], rb := z39 }, ann := { calls := [(7, 164)] } },
  { fid := 248, sig := { ps := [I6, I6], rs := [I6] }, ann := {} },
  { fid := 251, sig := { ps := [.ptr 0 0, I6, I6, I6], pb := z8, rs := [I6], rb := z8 }, ann := { calls := [(15, 134), (34, 39), (39, 138), (68, 140)], loops := [(11, { tm := [(10, I6), (11, .arr 3), (12, I6)], bs := z57 }, [(.exit 0, { tm := [(11, .arr 3)], bs := z57 })])], joins := [(6, [(.normal, { tm := [(32, .bool)], bs := z80 })])] } },
  { fid := 173, sig := { ps := z83, pb := z8, rs := [I6], rb := z9 }, ann := { calls := [(9, 90), (41, 165), (42, 166), (46, 167), (55, 168)], loops := [(6, { tm := [], bs := z9 }, [(.exit 1, { tm := [], bs := z9 })])], joins := [(6, [(.normal, { tm := [(10, .bool)], bs := z80 })]), (15, [(.normal, { tm := [], bs := z80 }), (.ret, { tm := [(6, I6)], bs := z80 })])], orders := [(7, [4, 8], [[0, 1, 2, 3, 4, 5, 6, 7, 8, 9, 10, 11, 12, 13], [0, 1, 2, 3, 5, 6, 7, 8, 4, 9, 10, 11, 12, 13]])] } },
  { fid := 252, sig := { ps := [.agg z40, I6, I6], rs := z65 }, ann := {} },
  { fid := 113, sig := { ps := z22, pb := z8, rs := [I6], rb := z8 }, ann := { calls := [(20, 134), (24, 169), (28, 146), (32, 146), (37, 39), (40, 170), (50, 171), (61, 172), (70, 149), (73, 134), (83, 173), (97, 174), (105, 175), (107, 134)], loops := [(11, { tm := [(53, I6)], bs := z1 }, [(.exit 1, { tm := [], bs := z1 })]), (20, { tm := [(76, I6)], bs := z1 }, [(.exit 3, { tm := [], bs := z1 })])], joins := [(10, [(.normal, { tm := [(26, .bool)], bs := z49 })]), (26, [(.normal, { tm := [(13, .bool)], bs := [.same, .same, .same, .same, .same, .same, .box z35] })]), (37, [(.normal, { tm := [], bs := z7 }), (.ret, { tm := [(10, I6)], bs := z7 })]), (45, [(.normal, { tm := [], bs := z7 }), (.ret, { tm := [(10, I6)], bs := z7 })]), (46, [(.normal, { tm := [(91, .bool)], bs := z41 })]), (129, [(.normal, { tm := [], bs := [.box z12, .ints .i64 true, .ints .u8 false, .same, .same, .same, .same] })]), (131, [(.normal, { tm := [(14, I6)], bs := z41 })])], orders := [(24, [5, 10], [[0, 1, 2, 3, 4, 5, 6, 7, 8, 9, 10, 11, 12, 13, 14, 15], [0, 1, 2, 3, 4, 7, 8, 9, 10, 5, 6, 11, 12, 13, 14, 15]])] } },
  { fid := 253, sig := { ps := z82, rs := [.bool] }, ann := {} },
  { fid := 254, sig := { ps := [.agg z86, I6, I6], rs := [I6] }, ann := {} },
  { fid := 256, sig := { ps := [I6, .agg [.bool, I6]], rs := [.rows 5] }, ann := { calls := [(30, 23), (68, 176)], loops := [(7, { tm := [(5, .arr 1), (33, I6)], bs := z79 }, [(.exit 0, { tm := [(5, .arr 1)], bs := z79 })]), (15, { tm := [(5, .arr 1), (10, I6)], bs := [.same, .rows 5 false, .box [I6]] }, [(.exit 2, { tm := [(5, .arr 1)], bs := [.same, .rows 5 false, .box [I6]] })])], joins := [(93, [(.normal, { tm := [(5, .arr 1)], bs := z79 })]), (135, [(.normal, { tm := [(11, I6)], bs := [.same, .same, .box [I6]] })]), (177, [(.normal, { tm := [], bs := [.same, .same, .same, .box [I6, I6]] })])] } },
  { fid := 255, sig := { ps := [.ptr 0 0, .rows 5], pb := z8, rs := [I6], rb := z9 }, ann := { calls := [(19, 134)], loops := [(2, { tm := [(10, I6)], bs := z9 }, [(.exit 0, { tm := [], bs := z9 }), (.ret, { tm := [(4, I6)], bs := z9 })])] } },
  { fid := 257, sig := { ps := z45, rs := [.bool] }, ann := { joins := [(2, [(.normal, { tm := [(21, .bool)], bs := [.same] })]), (6, [(.normal, { tm := [(3, .bool)], bs := [.same] })])] } },
  { fid := 258, sig := { ps := z72, rs := [.bool] }, ann := { calls := [(4, 118)] } },
  { fid := 259, sig := { ps := z19, rs := [.bool] }, ann := { calls := [(19, 177), (25, 177), (35, 178), (40, 178)], joins := [(2, [(.normal, { tm := [(27, .bool)], bs := z88 })]), (8, [(.normal, { tm := [(6, .bool)], bs := z88 })])] } },
  { fid := 283, sig := { ps := z62, rs := [.bool] }, ann := { calls := [(5, 147)] } },
  { fid := 284, sig := { ps := [.rows 0, .fn 222 []], rs := [I6] }, ann := { calls := [(16, 179)], loops := [(2, { tm := [(8, I6)], bs := [] }, [(.exit 0, { tm := [], bs := [] }), (.ret, { tm := [(4, I6)], bs := [] })])] } },
  { fid := 98, sig := { ps := z72, rs := [.bool] }, ann := { calls := [(9, 126)], loops := [(4, { tm := [(25, I6)], bs := [.same] }, [(.exit 0, { tm := [], bs := [.same] }), (.ret, { tm := [(2, .bool)], bs := [.same] })])], joins := [(2, [(.normal, { tm := [(21, .bool)], bs := [.same] })])] } },
  { fid := 97, sig := { ps := z65, rs := [.bool] }, ann := {} },
  { fid := 99, sig := { ps := z65, rs := [I6] }, ann := { calls := [(5, 180)] } },
  { fid := 207, sig := { ps := [I6], rs := [I6] }, ann := { calls := [(4, 181)] } },
  { fid := 262, sig := { rs := [.agg z14] }, ann := { unroll := [(4, 1000)] } },
  { fid := 82, sig := { ps := z22, pb := z8, rs := [I6], rb := z8 }, ann := { calls := [(12, 134), (15, 147), (18, 146), (22, 146), (27, 182), (33, 183), (37, 39), (40, 184), (48, 185)], joins := [(10, [(.normal, { tm := [(24, .bool)], bs := z49 })]), (18, [(.normal, { tm := [(42, .bool)], bs := z7 })])] } },
  { fid := 285, sig := { ps := [.agg z46, I6, I6], rs := z65 }, ann := {} },
  { fid := 179, sig := { ps := z65, rs := [.rows 6] }, ann := { calls := [(5, 186)], slots := [(13, 0)], pads := [(1, 1)] } },
  { fid := 286, sig := { ps := [I6], rs := [I6] }, ann := { loops := [(3, { tm := [(3, I6), (4, I6)], bs := [] }, [(.exit 0, { tm := [(3, I6)], bs := [] })])] } },
  { fid := 287, sig := { ps := [.agg z78, I6], rs := [.int .u64] }, ann := {} },
  { fid := 162, sig := { ps := z63, rs := [.bool] }, ann := {} },
  { fid := 270, sig := { ps := z72, rs := [.bool] }, ann := {} },
  { fid := 201, sig := { ps := [I6, I6], rs := [.bool] }, ann := {} },
  { fid := 202, sig := { ps := [.ints .u8], rs := [.bool] }, ann := { loops := [(2, { tm := [(7, I6)], bs := [] }, [(.exit 0, { tm := [], bs := [] }), (.ret, { tm := [(2, .bool)], bs := [] })])] } },
  { fid := 114, sig := { ps := z65, rs := [.bool] }, ann := { joins := [(2, [(.normal, { tm := [(3, .bool)], bs := [.same] })])] } },
  { fid := 288, sig := { ps := [.ints .i64, I6], rs := [.bool] }, ann := { calls := [(7, 187)] } },
  { fid := 284, sig := { ps := [.rows 0, .fn 244 []], rs := [I6] }, ann := { calls := [(16, 188)], loops := [(2, { tm := [(8, I6)], bs := [] }, [(.exit 0, { tm := [], bs := [] }), (.ret, { tm := [(4, I6)], bs := [] })])] } },
  { fid := 289, sig := { ps := [.rows 3, .fn 247 []], rs := [I6] }, ann := { calls := [(16, 189)], loops := [(2, { tm := [(8, I6)], bs := [] }, [(.exit 0, { tm := [], bs := [] }), (.ret, { tm := [(4, I6)], bs := [] })])] } },
  { fid := 289, sig := { ps := z52, pb := z39, rs := [I6], rb := z39 }, ann := { calls := [(16, 190)], loops := [(2, { tm := [(8, I6)], bs := z39 }, [(.exit 0, { tm := [], bs := z39 }), (.ret, { tm := [(4, I6)], bs := z39 })])] } },
  { fid := 265, sig := { ps := [.ptr 0 0, I6], pb := z8, rs := [.int .u64], rb := z10 }, ann := { calls := [(33, 191)] } },
  { fid := 264, sig := { ps := [.ptr 0 0, I6, I6, .int .u64], pb := z8, rb := z10 }, ann := { calls := [(39, 192)], joins := [(19, [(.normal, { tm := [], bs := z10 })])] } },
  { fid := 266, sig := { ps := [.ptr 0 0], pb := z8, rs := [.bool], rb := z10 }, ann := {} },
  { fid := 267, sig := { ps := [.ptr 0 0], pb := z8, rs := [.int .u8], rb := z10 }, ann := {} },
  { fid := 111, sig := { ps := z65, rs := [.bool] }, ann := {} },
  { fid := 208, sig := { ps := z37, rs := [.bool] }, ann := { calls := [(16, 149)] } },
  { fid := 209, sig := { ps := [.agg z75, I6, I6, .ints .u8, .agg z81], rs := [.ptr 0 0], rb := z30 }, ann := {} },
  { fid := 210, sig := { ps := [.ptr 0 0, I6], pb := z30, rs := [.bool], rb := z30 }, ann := { calls := [(20, 173), (32, 175)], loops := [(2, { tm := [(13, I6)], bs := z30 }, [(.exit 0, { tm := [], bs := z30 }), (.ret, { tm := [(4, .bool)], bs := z30 })])] } },
  { fid := 211, sig := { ps := z83, pb := z30, rs := [.int .u8, .bool], rb := z30 }, ann := { calls := [(28, 175), (58, 175)], loops := [(3, { tm := [(29, I6)], bs := [.same] }, [(.exit 0, { tm := [], bs := [.same] }), (.ret, { tm := [(6, .int .u8), (7, .bool)], bs := [.same] })])] } },
  { fid := 212, sig := { ps := z83, pb := z30, rs := [I6], rb := z30 }, ann := { calls := [(17, 181), (37, 175), (41, 193), (73, 175)], loops := [(3, { tm := [(7, I6), (19, I6)], bs := [.same] }, [(.exit 0, { tm := [(7, I6)], bs := [.same] })]), (8, { tm := [(7, I6), (43, I6)], bs := [.same] }, [(.exit 2, { tm := [(7, I6)], bs := [.same] })])] } },
  { fid := 213, sig := { ps := z63, rs := [.int .u8] }, ann := { joins := [(2, [(.normal, { tm := [(24, .bool)], bs := [.same] })])] } },
  { fid := 291, sig := { ps := [.ptr 0 0], pb := [.box [I6]], rs := [I6], rb := [.box [I6]] }, ann := {} },
  { fid := 292, sig := { ps := [I6], rs := [.bool] }, ann := {} },
  { fid := 293, sig := { ps := [I6], rs := [.bool] }, ann := {} },
  { fid := 222, sig := { ps := z72, rs := [.bool] }, ann := { calls := [(4, 83)] } },
  { fid := 188, sig := { ps := [I6], rs := [.arr 0], rb := [.rows 7 false] }, ann := {} },
  { fid := 281, sig := { ps := [I6], rs := [.rows 7] }, ann := {} },
  { fid := 174, sig := { ps := [.agg z81, .agg z81], rs := [.bool] }, ann := { calls := [(23, 183), (28, 194)], loops := [(2, { tm := [(10, I6)], bs := z88 }, [(.exit 0, { tm := [], bs := z88 }), (.ret, { tm := [(4, .bool)], bs := z88 })])] } },
  { fid := 175, sig := { ps := z63, rs := [.bool] }, ann := {} },
  { fid := 176, sig := { ps := z37, rs := [.bool] }, ann := { calls := [(15, 148)] } },
  { fid := 100, sig := { ps := z22, pb := z8, rb := z9 }, ann := { calls := [(20, 195), (36, 196), (49, 197), (53, 148), (56, 134), (72, 194), (79, 198), (87, 134)], loops := [(4, { tm := [(28, I6)], bs := z5 }, [(.exit 0, { tm := [], bs := z5 })]), (13, { tm := [(61, I6)], bs := z5 }, [(.exit 2, { tm := [], bs := z5 })])], joins := [(65, [(.normal, { tm := [], bs := z5 }), (.exit 1, { tm := [], bs := z5 })]), (99, [(.normal, { tm := [(12, I6)], bs := z41 })])] } },
  { fid := 269, sig := { ps := [I6], rs := [.arr 0], rb := [.rows 6 false] }, ann := {} },
  { fid := 310, sig := { ps := [.ints .i64, I6], rs := [I6] }, ann := { loops := [(2, { tm := [(8, I6)], bs := [] }, [(.exit 0, { tm := [], bs := [] }), (.ret, { tm := [(4, I6)], bs := [] })])] } },
  { fid := 244, sig := { ps := z72, rs := [.bool] }, ann := { calls := [(4, 199)] } },
  { fid := 247, sig := { ps := [.agg z43], rs := [.bool] }, ann := { calls := [(8, 199)] } },
  { fid := 249, sig := { ps := [.agg z43, .ptr 0 0, .ptr 1 0], pb := z39, rs := [.bool], rb := z39 }, ann := { calls := [(8, 200)] } },
  { fid := 295, sig := { ps := [.agg z14, I6, I6], rs := [I6] }, ann := {} },
  { fid := 294, sig := { ps := [I6, I6, I6], rs := [I6] }, ann := { joins := [(41, [(.normal, { tm := [], bs := [.box [I6, I6]] })])] } },
  { fid := 282, sig := { rs := [.rows 7] }, ann := {} },
  { fid := 192, sig := { ps := [.agg z81, I6], rs := [.bool] }, ann := {} },
  { fid := 189, sig := { ps := [.agg z75, I6, I6], rs := [.ptr 0 0], rb := z60 }, ann := { calls := [(15, 180)], slots := [(12, 0), (18, 1)], pads := [(1, 2)] } },
  { fid := 191, sig := { ps := [.ptr 0 0, I6, .agg z81], pb := z60, rs := [.ints .u8], rb := z60 }, ann := { calls := [(28, 194), (36, 201)], loops := [(3, { tm := [(16, I6)], bs := z36 }, [(.exit 0, { tm := [], bs := z36 })])] } },
  { fid := 190, sig := { ps := [.ints .u8, .ints .u8], rs := [.bool] }, ann := {} },
  { fid := 193, sig := { ps := z83, pb := z60, rs := [I6], rb := z60 }, ann := { calls := [(30, 201)], loops := [(3, { tm := [(7, I6), (15, I6)], bs := z60 }, [(.exit 0, { tm := [(7, I6)], bs := z60 })])] } },
  { fid := 245, sig := { ps := z72, rs := [.bool] }, ann := { calls := [(4, 146)] } },
  { fid := 250, sig := { ps := z19, rs := [.bool] }, ann := { calls := [(19, 202), (25, 202), (63, 202), (68, 202)], joins := [(2, [(.normal, { tm := [(27, .bool)], bs := z88 })]), (8, [(.normal, { tm := [(6, .bool)], bs := z88 })])] } },
  { fid := 272, sig := { ps := z83, pb := z60, rs := [.int .u8], rb := z60 }, ann := { joins := [(2, [(.normal, { tm := [(28, .bool)], bs := [.same] })])] } },
  { fid := 290, sig := { ps := [I6, I6], rs := [.bool] }, ann := {} }]
noncomputable def G : Prg := { P := Tryz.prog, E := E, el := fun t => lookN t els, F := fun i => (getL insts i).getD { fid := 0, sig := {}, ann := {} } }
theorem inn0_ok : ∀ {l : List (PV TT)} {x : Bitmap}, inn0 l = some x → Sames (E := E) l (outs0 x)
  | [], _, h => by cases h
  | [_], _, h => by cases h
  | [_, _], _, h => by cases h
  | [_, _, _], _, h => by
    simp only [inn0] at h
    obtain ⟨y0, h0, h⟩ := Option.bind_eq_some_iff.1 h; obtain ⟨y1, h1, h⟩ := Option.bind_eq_some_iff.1 h; obtain ⟨y2, h2, h⟩ := Option.bind_eq_some_iff.1 h; cases h; exact .cons (V.asInt_same h0) (.cons (V.asInt_same h1) (.cons (V.asInts_same h2) (.nil)))
  | _ :: _ :: _ :: _ :: _, _, h => by cases h
theorem inn1_ok : ∀ {l : List (PV TT)} {x : Shape}, inn1 l = some x → Sames (E := E) l (outs1 x)
  | [], _, h => by cases h
  | [_], _, h => by cases h
  | [_, _], _, h => by cases h
  | [_, _, _], _, h => by cases h
  | [_, _, _, _], _, h => by
    simp only [inn1] at h
    obtain ⟨y0, h0, h⟩ := Option.bind_eq_some_iff.1 h; obtain ⟨y1, h1, h⟩ := Option.bind_eq_some_iff.1 h; obtain ⟨y2, h2, h⟩ := Option.bind_eq_some_iff.1 h; obtain ⟨y3, h3, h⟩ := Option.bind_eq_some_iff.1 h; cases h; exact .cons (V.asInt_same h0) (.cons (V.asInt_same h1) (.cons (V.asInts_same h2) (.cons (V.asInt_same h3) (.nil))))
  | _ :: _ :: _ :: _ :: _ :: _, _, h => by cases h
theorem inn2_ok : ∀ {l : List (PV TT)} {x : Bool}, inn2 l = some x → Sames (E := E) l (outs2 x)
  | [], _, h => by cases h
  | [_], _, h => by
    simp only [inn2] at h
    obtain ⟨y0, h0, h⟩ := Option.bind_eq_some_iff.1 h; cases h; exact .cons (V.asBool_same h0) (.nil)
  | _ :: _ :: _, _, h => by cases h
theorem inn3_ok : ∀ {l : List (PV TT)} {x : Item}, inn3 l = some x → Sames (E := E) l (outs3 x)
  | [], _, h => by cases h
  | [_], _, h => by cases h
  | [_, _], _, h => by cases h
  | [_, _, _], _, h => by cases h
  | [_, _, _, _], _, h => by cases h
  | [_, _, _, _, _], _, h => by cases h
  | [_, _, _, _, _, _], _, h => by cases h
  | [_, _, _, _, _, _, _], _, h => by cases h
  | [_, _, _, _, _, _, _, _], _, h => by cases h
  | [_, _, _, _, _, _, _, _, _], _, h => by
    simp only [inn3] at h
    obtain ⟨y0, h0, h⟩ := Option.bind_eq_some_iff.1 h; obtain ⟨y1, h1, h⟩ := Option.bind_eq_some_iff.1 h; obtain ⟨y2, h2, h⟩ := Option.bind_eq_some_iff.1 h; obtain ⟨y3, h3, h⟩ := Option.bind_eq_some_iff.1 h; obtain ⟨y4, h4, h⟩ := Option.bind_eq_some_iff.1 h; obtain ⟨y5, h5, h⟩ := Option.bind_eq_some_iff.1 h; obtain ⟨y6, h6, h⟩ := Option.bind_eq_some_iff.1 h; obtain ⟨y7, h7, h⟩ := Option.bind_eq_some_iff.1 h; obtain ⟨y8, h8, h⟩ := Option.bind_eq_some_iff.1 h; cases h; exact .cons (V.asInt_same h0) (.cons (V.asInt_same h1) (.cons (V.asInt_same h2) (.cons (V.asBool_same h3) (.cons (V.asInt_same h4) (.cons (V.asInt_same h5) (.cons (V.asInt_same h6) (.cons (V.asInt_same h7) (.cons (V.asInts_same h8) (.nil)))))))))
  | _ :: _ :: _ :: _ :: _ :: _ :: _ :: _ :: _ :: _ :: _, _, h => by cases h
theorem inn4_ok : ∀ {l : List (PV TT)} {x : List Int}, inn4 l = some x → Sames (E := E) l (outs4 x)
  | [], _, h => by cases h
  | [_], _, h => by
    simp only [inn4] at h
    obtain ⟨y0, h0, h⟩ := Option.bind_eq_some_iff.1 h; cases h; exact .cons (V.asInts_same h0) (.nil)
  | _ :: _ :: _, _, h => by cases h
theorem inn5_ok : ∀ {l : List (PV TT)} {x : Event}, inn5 l = some x → Sames (E := E) l (outs5 x)
  | [], _, h => by cases h
  | [_], _, h => by cases h
  | [_, _], _, h => by
    simp only [inn5] at h
    obtain ⟨y0, h0, h⟩ := Option.bind_eq_some_iff.1 h; obtain ⟨y1, h1, h⟩ := Option.bind_eq_some_iff.1 h; cases h; exact .cons (V.asInt_same h0) (.cons (V.asInt_same h1) (.nil))
  | _ :: _ :: _ :: _, _, h => by cases h
theorem inn6_ok : ∀ {l : List (PV TT)} {x : Pixel}, inn6 l = some x → Sames (E := E) l (outs6 x)
  | [], _, h => by cases h
  | [_], _, h => by cases h
  | [_, _], _, h => by
    simp only [inn6] at h
    obtain ⟨y0, h0, h⟩ := Option.bind_eq_some_iff.1 h; obtain ⟨y1, h1, h⟩ := Option.bind_eq_some_iff.1 h; cases h; exact .cons (V.asInt_same h0) (.cons (V.asInt_same h1) (.nil))
  | _ :: _ :: _ :: _, _, h => by cases h
theorem inn7_ok : ∀ {l : List (PV TT)} {x : Arr2}, inn7 l = some x → Sames (E := E) l (outs7 x)
  | [], _, h => by cases h
  | [_], _, h => by cases h
  | [_, _], _, h => by
    simp only [inn7] at h
    obtain ⟨y0, h0, h⟩ := Option.bind_eq_some_iff.1 h; obtain ⟨y1, h1, h⟩ := Option.bind_eq_some_iff.1 h; cases h; exact .cons (V.asInt_same h0) (.cons (V.asInt_same h1) (.nil))
  | _ :: _ :: _ :: _, _, h => by cases h
theorem envOk : EnvOk E := by
  refine EnvOk.of ?_ ?_ ?_
  · intro i l x h
    match i, x, h with
    | 0, x, h => exact inn0_ok h
    | 1, x, h => exact inn1_ok h
    | 2, x, h => exact inn2_ok h
    | 3, x, h => exact inn3_ok h
    | 4, x, h => exact inn4_ok h
    | 5, x, h => exact inn5_ok h
    | 6, x, h => exact inn6_ok h
    | 7, x, h => exact inn7_ok h
    | i + 8, x, h => cases h
  · intro i x
    match i, x with
    | 0, x => rfl
    | 1, x => rfl
    | 2, x => rfl
    | 3, x => rfl
    | 4, x => rfl
    | 5, x => rfl
    | 6, x => rfl
    | 7, x => rfl
    | i + 8, x => rfl
  · intro i x p hf hp
    match i, x with
    | 0, x => exact absurd hf (by decide)
    | 1, x => exact absurd hf (by decide)
    | 2, x => exact flat_cons (.inr (.inl ⟨_, rfl⟩)) (flat_nil) p hp
    | 3, x => exact absurd hf (by decide)
    | 4, x => exact absurd hf (by decide)
    | 5, x => exact flat_cons (.inl ⟨_, _, rfl⟩) (flat_cons (.inl ⟨_, _, rfl⟩) (flat_nil)) p hp
    | 6, x => exact flat_cons (.inl ⟨_, _, rfl⟩) (flat_cons (.inl ⟨_, _, rfl⟩) (flat_nil)) p hp
    | 7, x => exact flat_cons (.inl ⟨_, _, rfl⟩) (flat_cons (.inl ⟨_, _, rfl⟩) (flat_nil)) p hp
    | i + 8, x => exact absurd hf (by simp [E, getL])

theorem elsOk : els.all (okEl G) = true := by kernel_rfl
theorem prgOk : PrgOk G := .of envOk els (fun _ => rfl) elsOk (by kernel_rfl)
noncomputable def bulk0 (x : Bitmap) : Nat := 1 + (1 + ((x.pix.length + 1) + 0))
noncomputable def bulk1 (x : Shape) : Nat := 1 + (1 + ((x.pix_pix.length + 1) + (1 + 0)))
noncomputable def bulk2 (x : Bool) : Nat := 1 + 0
noncomputable def bulk3 (x : Item) : Nat := 1 + (1 + (1 + (1 + (1 + (1 + (1 + (1 + ((x.pix_pix.length + 1) + 0))))))))
noncomputable def bulk4 (x : List Int) : Nat := (x.length + 1) + 0
noncomputable def bulk5 (x : Event) : Nat := 1 + (1 + 0)
noncomputable def bulk6 (x : Pixel) : Nat := 1 + (1 + 0)
noncomputable def bulk7 (x : Arr2) : Nat := 1 + (1 + 0)
noncomputable def bulk : (i : Nat) → TT i → Nat
  | 0, x => bulk0 x
  | 1, x => bulk1 x
  | 2, x => bulk2 x
  | 3, x => bulk3 x
  | 4, x => bulk4 x
  | 5, x => bulk5 x
  | 6, x => bulk6 x
  | 7, x => bulk7 x
  | _, _ => 0
theorem bulk0_eq (x : Bitmap) : bulk0 x = bulkPs bulk (outs0 x) := by simp only [bulk0, outs0, bulkPs, bulkP] <;> rfl
theorem bulk1_eq (x : Shape) : bulk1 x = bulkPs bulk (outs1 x) := by simp only [bulk1, outs1, bulkPs, bulkP] <;> rfl
theorem bulk2_eq (x : Bool) : bulk2 x = bulkPs bulk (outs2 x) := by simp only [bulk2, outs2, bulkPs, bulkP] <;> rfl
theorem bulk3_eq (x : Item) : bulk3 x = bulkPs bulk (outs3 x) := by simp only [bulk3, outs3, bulkPs, bulkP] <;> rfl
theorem bulk4_eq (x : List Int) : bulk4 x = bulkPs bulk (outs4 x) := by simp only [bulk4, outs4, bulkPs, bulkP] <;> rfl
theorem bulk5_eq (x : Event) : bulk5 x = bulkPs bulk (outs5 x) := by simp only [bulk5, outs5, bulkPs, bulkP] <;> rfl
theorem bulk6_eq (x : Pixel) : bulk6 x = bulkPs bulk (outs6 x) := by simp only [bulk6, outs6, bulkPs, bulkP] <;> rfl
theorem bulk7_eq (x : Arr2) : bulk7 x = bulkPs bulk (outs7 x) := by simp only [bulk7, outs7, bulkPs, bulkP] <;> rfl
theorem rowsOk : RowsOk G bulk where
  bulk i x := by
    match i, x with
    | 0, x => exact bulk0_eq x
    | 1, x => exact bulk1_eq x
    | 2, x => exact bulk2_eq x
    | 3, x => exact bulk3_eq x
    | 4, x => exact bulk4_eq x
    | 5, x => exact bulk5_eq x
    | 6, x => exact bulk6_eq x
    | 7, x => exact bulk7_eq x
    | i + 8, x => rfl
  int e k h := ⟨(prgOk.int e k h).1, okEl_cells elsOk h⟩
  row e i h := by
    have hc := okEl_cells elsOk h
    have hm := lookN_mem h
    simp only [els, List.mem_cons, List.not_mem_nil, or_false, Prod.mk.injEq, reduceCtorEq, and_false, false_or, EK.row.injEq] at hm
    rcases hm with ⟨rfl, rfl⟩ | ⟨rfl, rfl⟩ | ⟨rfl, rfl⟩ | ⟨rfl, rfl⟩ | ⟨rfl, rfl⟩ | ⟨rfl, rfl⟩ | ⟨rfl, rfl⟩ | ⟨rfl, rfl⟩
    · refine ⟨8, [.bool], by kernel_rfl, hc, by decide, fun ps h => ?_⟩
      obtain ⟨y0, r0, rfl, h0⟩ := fits_bool h; cases fits_nil h0; exact ⟨y0, rfl⟩
    · refine ⟨8, [.int .i64, .int .i64], by kernel_rfl, hc, by decide, fun ps h => ?_⟩
      obtain ⟨y0, r0, rfl, h0⟩ := fits_int h; obtain ⟨y1, r1, rfl, h1⟩ := fits_int h0; cases fits_nil h1; exact ⟨⟨y0, y1⟩, rfl⟩
    · refine ⟨8, [.ints .u8], by kernel_rfl, hc, by decide, fun ps h => ?_⟩
      obtain ⟨y0, r0, rfl, h0⟩ := fits_ints h; cases fits_nil h0; exact ⟨y0, rfl⟩
    · refine ⟨8, [.int .i64, .int .i64, .ints .u8], by kernel_rfl, hc, by decide, fun ps h => ?_⟩
      obtain ⟨y0, r0, rfl, h0⟩ := fits_int h; obtain ⟨y1, r1, rfl, h1⟩ := fits_int h0; obtain ⟨y2, r2, rfl, h2⟩ := fits_ints h1; cases fits_nil h2; exact ⟨⟨y0, y1, y2⟩, rfl⟩
    · refine ⟨8, [.int .i64, .int .i64, .ints .u8, .int .i64], by kernel_rfl, hc, by decide, fun ps h => ?_⟩
      obtain ⟨y0, r0, rfl, h0⟩ := fits_int h; obtain ⟨y1, r1, rfl, h1⟩ := fits_int h0; obtain ⟨y2, r2, rfl, h2⟩ := fits_ints h1; obtain ⟨y3, r3, rfl, h3⟩ := fits_int h2; cases fits_nil h3; exact ⟨⟨y0, y1, y2, y3⟩, rfl⟩
    · refine ⟨8, [.int .i64, .int .i64, .int .i64, .bool, .int .i64, .int .i64, .int .i64, .int .i64, .ints .u8], by kernel_rfl, hc, by decide, fun ps h => ?_⟩
      obtain ⟨y0, r0, rfl, h0⟩ := fits_int h; obtain ⟨y1, r1, rfl, h1⟩ := fits_int h0; obtain ⟨y2, r2, rfl, h2⟩ := fits_int h1; obtain ⟨y3, r3, rfl, h3⟩ := fits_bool h2; obtain ⟨y4, r4, rfl, h4⟩ := fits_int h3; obtain ⟨y5, r5, rfl, h5⟩ := fits_int h4; obtain ⟨y6, r6, rfl, h6⟩ := fits_int h5; obtain ⟨y7, r7, rfl, h7⟩ := fits_int h6; obtain ⟨y8, r8, rfl, h8⟩ := fits_ints h7; cases fits_nil h8; exact ⟨⟨y0, y1, y2, y3, y4, y5, y6, y7, y8⟩, rfl⟩
    · refine ⟨8, [.int .i64, .int .i64], by kernel_rfl, hc, by decide, fun ps h => ?_⟩
      obtain ⟨y0, r0, rfl, h0⟩ := fits_int h; obtain ⟨y1, r1, rfl, h1⟩ := fits_int h0; cases fits_nil h1; exact ⟨⟨y0, y1⟩, rfl⟩
    · refine ⟨8, [.int .i64, .int .i64], by kernel_rfl, hc, by decide, fun ps h => ?_⟩
      obtain ⟨y0, r0, rfl, h0⟩ := fits_int h; obtain ⟨y1, r1, rfl, h1⟩ := fits_int h0; cases fits_nil h1; exact ⟨⟨y0, y1⟩, rfl⟩

noncomputable def law13_PageShapes (s1 s2 s3 : Int) (s4 : Bool) (s5 s6 s7 : Int) (s8 : List Int) (s9 : List Bitmap) (s10 : List Shape) (s11 : List Bool) (s12 s13 s14 s15 s16 : Int) (s17 : Bool) (s18 s19 : Int) (s20 : Bool) (s21 s22 s23 : Int) (s24 : Bool) (s25 : Int) (s26 : List Item) : Option Bool := call G 0 (s1, s2, s3, s4, s5, s6, s7, s8, s9, s10, s11, s12, s13, s14, s15, s16, s17, s18, s19, s20, s21, s22, s23, s24, s25, s26)
noncomputable def law13_many (l1 : List Bitmap) : Option Int := call G 1 l1
noncomputable def law13_Sane : Option Bool := call G 2 ()
noncomputable def page_Dictionary (o1 o2 o3 : Int) (o4 : Bool) (o5 o6 kept7 : Int) (kept8 : List Int) (old9 : List Bitmap) (l10 : List Shape) (export11 : List Bool) : Option ((List Int) × Int) := call G 3 (o1, o2, o3, o4, o5, o6, kept7, kept8, old9, l10, export11)
noncomputable def ref13_Dictionary (o1 o2 o3 : Int) (o4 : Bool) (o5 o6 kept7 : Int) (kept8 : List Int) (old9 : List Bitmap) (l10 : List Shape) (export11 : List Bool) : Option ((List Int) × Int) := call G 4 (o1, o2, o3, o4, o5, o6, kept7, kept8, old9, l10, export11)
noncomputable def ref01_SameBytes (a1 b2 : List Int) : Option Bool := call G 5 (a1, b2)
noncomputable def page_Text (g1 g2 g3 g4 g5 : Int) (g6 : Bool) (o7 o8 : Int) (o9 : Bool) (o10 o11 o12 : Int) (o13 : Bool) (o14 : Int) (symbols15 : List Bitmap) (l16 : List Item) : Option ((List Int) × Int) := call G 6 (g1, g2, g3, g4, g5, g6, o7, o8, o9, o10, o11, o12, o13, o14, symbols15, l16)
noncomputable def ref13_Text (g1 g2 g3 g4 g5 : Int) (g6 : Bool) (o7 o8 : Int) (o9 : Bool) (o10 o11 o12 : Int) (o13 : Bool) (o14 : Int) (symbols15 : List Bitmap) (l16 : List Item) : Option ((List Int) × Int) := call G 7 (g1, g2, g3, g4, g5, g6, o7, o8, o9, o10, o11, o12, o13, o14, symbols15, l16)
noncomputable def page_Info (w1 h2 pixel3 op4 : Int) : Option ((List Int) × Int) := call G 8 (w1, h2, pixel3, op4)
noncomputable def symbol_Encode (o1 o2 o3 : Int) (o4 : Bool) (o5 o6 kept7 : Int) (kept8 : List Int) (old9 : List Bitmap) (l10 : List Shape) (export11 : List Bool) : Option ((List Int) × Int × (List Int) × Int) := call G 9 (o1, o2, o3, o4, o5, o6, kept7, kept8, old9, l10, export11)
noncomputable def page_flag (is1 : Bool) (n2 : Int) : Option Int := call G 10 (is1, n2)
noncomputable def page_writer_byte (l1 b2 : List Int) : Option (List Int) := call G 11 (l1, b2)
noncomputable def page_writer_size (l1 b2 : List Int) : Option (List Int) := call G 12 (l1, b2)
noncomputable def page_writer_with (code1 : List Int) (err2 : Int) (b3 : List Int) : Option ((List Int) × Int) := call G 13 (code1, err2, b3)
noncomputable def ref09_Encode (o1 o2 o3 : Int) (o4 : Bool) (o5 o6 kept7 : Int) (kept8 : List Int) (old9 : List Bitmap) (l10 : List Shape) (export11 : List Bool) : Option ((List Int) × Int × (List Int) × Int) := call G 14 (o1, o2, o3, o4, o5, o6, kept7, kept8, old9, l10, export11)
noncomputable def ref13_bit (is1 : Bool) : Option Int := call G 15 is1
noncomputable def ref13_adaptive (o1 o2 o3 : Int) (o4 : Bool) (o5 : Int) : Option (List Int) := call G 16 (o1, o2, o3, o4, o5)
noncomputable def ref13_size (n1 : Int) : Option (List Int) := call G 17 n1
noncomputable def ref13_join (l1 : List (List Int)) : Option (List Int) := call G 18 l1
noncomputable def page_rightBegin (g1 g2 g3 g4 g5 : Int) (g6 : Bool) : Option Bool := call G 19 (g1, g2, g3, g4, g5, g6)
noncomputable def bitmap_New (w1 h2 pixel3 : Int) : Option (Int × Int × Int × (List Int)) := call G 20 (w1, h2, pixel3)
noncomputable def text_Encode (o1 o2 : Int) (o3 : Bool) (o4 o5 o6 : Int) (o7 : Bool) (o8 : Int) (symbols9 : List Bitmap) (l10 : List Item) : Option ((List Int) × Int) := call G 21 (o1, o2, o3, o4, o5, o6, o7, o8, symbols9, l10)
noncomputable def page_writer_begin (g1 g2 g3 g4 g5 : Int) (g6 : Bool) (b7 : List Int) : Option (List Int) := call G 22 (g1, g2, g3, g4, g5, g6, b7)
noncomputable def math_bits_Len (x1 : Int) : Option Int := call G 23 x1
noncomputable def page_writer_signed (l1 b2 : List Int) : Option (List Int) := call G 24 (l1, b2)
noncomputable def ref13_isBegin (g1 g2 g3 g4 g5 : Int) (g6 : Bool) : Option Bool := call G 25 (g1, g2, g3, g4, g5, g6)
noncomputable def ref10_Encode (o1 o2 : Int) (o3 : Bool) (o4 o5 o6 : Int) (o7 : Bool) (o8 : Int) (symbols9 : List Bitmap) (l10 : List Item) : Option ((List Int) × Int) := call G 26 (o1, o2, o3, o4, o5, o6, o7, o8, symbols9, l10)
noncomputable def ref13_log2 (n1 : Int) : Option Int := call G 27 n1
noncomputable def ref13_begin (g1 g2 g3 g4 g5 : Int) (g6 : Bool) : Option (List Int) := call G 28 (g1, g2, g3, g4, g5, g6)
noncomputable def ref13_signed (n1 : Int) : Option (List Int) := call G 29 n1
noncomputable def symbol_begun (o1 o2 o3 : Int) (o4 : Bool) (o5 o6 kept7 : Int) (kept8 : List Int) (old9 : List Bitmap) : Option Int := call G 30 (o1, o2, o3, o4, o5, o6, kept7, kept8, old9)
noncomputable def symbol_rightShapes (old1 : List Bitmap) (l2 : List Shape) : Option Int := call G 31 (old1, l2)
noncomputable def symbol_lay (o1 o2 o3 : Int) (o4 : Bool) (o5 o6 shapes7 : Int) : Option (Int × Int × Int × Bool × Int × Int × Int × Int × Int × Int) := call G 32 (o1, o2, o3, o4, o5, o6, shapes7)
noncomputable def symbol_layout_model (x1 x2 x3 : Int) (x4 : Bool) (x5 x6 x7 x8 x9 x10 kept11 : Int) (kept12 : List Int) : Option (Int × (List Int)) := call G 33 (x1, x2, x3, x4, x5, x6, x7, x8, x9, x10, kept11, kept12)
noncomputable def coder_NewEncoder (m1 : Int) (m2 : List Int) : Option ((Int × Int × Int × (List Int) × (List Int)) ⊕ (Unit)) := call G 34 (m1, m2)
noncomputable def slices_Clone_api_Bitmap_api_Bitmap (s1 : List Bitmap) : Option (List Bitmap) := call G 35 s1
noncomputable def symbol_writer_shapes (l1 : List Shape) (b2 b3 b4 : Int) (b5 : Bool) (b6 b7 b8 b9 b10 b11 b12 b13 b14 : Int) (b15 b16 : List Int) (b17 : List Bitmap) : Option (Int × Int × Int × Bool × Int × Int × Int × Int × Int × Int × Int × Int × Int × (List Int) × (List Int) × (List Bitmap)) := call G 36 (l1, b2, b3, b4, b5, b6, b7, b8, b9, b10, b11, b12, b13, b14, b15, b16, b17)
noncomputable def symbol_writer_flags (export1 : List Bool) (b2 b3 b4 : Int) (b5 : Bool) (b6 b7 b8 b9 b10 b11 b12 b13 b14 : Int) (b15 b16 : List Int) (b17 : List Bitmap) : Option (Int × Int × Int × Bool × Int × Int × Int × Int × Int × Int × Int × Int × Int × (List Int) × (List Int) × (List Bitmap)) := call G 37 (export1, b2, b3, b4, b5, b6, b7, b8, b9, b10, b11, b12, b13, b14, b15, b16, b17)
noncomputable def coder_Encoder_End (b1 b2 b3 : Int) (b4 b5 : List Int) : Option ((List Int) × Int × Int × Int × (List Int) × (List Int)) := call G 38 (b1, b2, b3, b4, b5)
noncomputable def coder_Encoder_Model (b1 b2 b3 : Int) (b4 b5 : List Int) : Option (Int × (List Int) × Int × Int × Int × (List Int) × (List Int)) := call G 39 (b1, b2, b3, b4, b5)
noncomputable def symbol_layout_after (x1 x2 x3 : Int) (x4 : Bool) (x5 x6 x7 x8 x9 x10 m11 : Int) (m12 : List Int) : Option (Int × (List Int)) := call G 40 (x1, x2, x3, x4, x5, x6, x7, x8, x9, x10, m11, m12)
noncomputable def bits_Size (n1 : Int) : Option ((List Int) × Int) := call G 41 n1
noncomputable def ref09_given (o1 o2 o3 : Int) (o4 : Bool) (o5 o6 kept7 : Int) (kept8 : List Int) (old9 : List Bitmap) : Option Int := call G 42 (o1, o2, o3, o4, o5, o6, kept7, kept8, old9)
noncomputable def ref09_shapes (old1 : List Bitmap) (l2 : List Shape) (export3 : List Bool) : Option Int := call G 43 (old1, l2, export3)
noncomputable def ref09_whole (o1 o2 o3 : Int) (o4 : Bool) (o5 o6 kept7 : Int) (kept8 : List Int) (many9 : Int) : Option (Int × (List Int) × Int) := call G 44 (o1, o2, o3, o4, o5, o6, kept7, kept8, many9)
noncomputable def ref09_sizes (o1 o2 o3 : Int) (o4 : Bool) (o5 o6 : Int) : Option (Int × Int) := call G 45 (o1, o2, o3, o4, o5, o6)
noncomputable def ref02_NewEncoder (m1 : Int) (m2 : List Int) : Option ((Int × Int × Int × (List Int) × (List Int)) ⊕ (Unit)) := call G 46 (m1, m2)
noncomputable def ref09_all (old1 : List Bitmap) (l2 : List Shape) : Option (List Bitmap) := call G 47 (old1, l2)
noncomputable def ref03_Put (base1 : Int) (n2 : Bool) (n3 b4 b5 b6 : Int) (b7 b8 : List Int) : Option (Int × Int × Int × Int × (List Int) × (List Int)) := call G 48 (base1, n2, n3, b4, b5, b6, b7, b8)
noncomputable def ref09_num (n1 : Int) : Option (Bool × Int) := call G 49 n1
noncomputable def ref02_Encoder_Put (ctx1 bit2 b3 b4 b5 : Int) (b6 b7 : List Int) : Option (Int × Int × Int × Int × (List Int) × (List Int)) := call G 50 (ctx1, bit2, b3, b4, b5, b6, b7)
noncomputable def ref07_Put (base1 o2 o3 o4 : Int) (o5 : Bool) (o6 b7 b8 : Int) (b9 : List Int) (skip10 skip11 : Int) (skip12 : List Int) (b13 b14 b15 : Int) (b16 b17 : List Int) : Option (Int × Int × Int × Int × (List Int) × (List Int)) := call G 51 (base1, o2, o3, o4, o5, o6, b7, b8, b9, skip10, skip11, skip12, b13, b14, b15, b16, b17)
noncomputable def ref03_Width (n1 : Int) : Option Int := call G 52 n1
noncomputable def ref03_PutId (base1 k2 id3 b4 b5 b6 : Int) (b7 b8 : List Int) : Option (Int × Int × Int × Int × (List Int) × (List Int)) := call G 53 (base1, k2, id3, b4, b5, b6, b7, b8)
noncomputable def ref09_refined (o1 o2 o3 : Int) (o4 : Bool) (o5 o6 x7 y8 : Int) : Option (Int × Int × Int × Bool × Int) := call G 54 (o1, o2, o3, o4, o5, o6, x7, y8)
noncomputable def ref08_Put (base1 o2 o3 o4 : Int) (o5 : Bool) (o6 b7 b8 : Int) (b9 : List Int) (r10 r11 : Int) (r12 : List Int) (b13 b14 b15 : Int) (b16 b17 : List Int) : Option (Int × Int × Int × Int × (List Int) × (List Int)) := call G 55 (base1, o2, o3, o4, o5, o6, b7, b8, b9, r10, r11, r12, b13, b14, b15, b16, b17)
noncomputable def ref02_Encoder_End (b1 b2 b3 : Int) (b4 b5 : List Int) : Option ((List Int) × Int × Int × Int × (List Int) × (List Int)) := call G 56 (b1, b2, b3, b4, b5)
noncomputable def ref02_Encoder_Model (b1 b2 b3 : Int) (b4 b5 : List Int) : Option (Int × (List Int) × Int × Int × Int × (List Int) × (List Int)) := call G 57 (b1, b2, b3, b4, b5)
noncomputable def ref09_tail (m1 : Int) (m2 : List Int) (front3 : Int) : Option (Int × (List Int)) := call G 58 (m1, m2, front3)
noncomputable def ref01_Size (n1 : Int) : Option ((List Int) × Int) := call G 59 n1
noncomputable def page_near (n1 : Int) : Option Bool := call G 60 n1
noncomputable def bitmap_blank (w1 h2 : Int) : Option (Int × Int × Int × (List Int)) := call G 61 (w1, h2)
noncomputable def text_begun (o1 o2 : Int) (o3 : Bool) (o4 o5 o6 : Int) (o7 : Bool) (o8 : Int) (symbols9 : List Bitmap) (l10 : List Item) : Option Int := call G 62 (o1, o2, o3, o4, o5, o6, o7, o8, symbols9, l10)
noncomputable def slices_IsSortedFunc_api_Item_api_Item (x1 : List Item) (b2 b3 : Int) (b4 : Bool) (b5 b6 b7 : Int) (b8 : Bool) (b9 : Int) : Option (Bool × Int × Int × Bool × Int × Int × Int × Bool × Int) := call G 63 (x1, b2, b3, b4, b5, b6, b7, b8, b9)
noncomputable def text_right (o1 o2 : Int) (o3 : Bool) (o4 o5 o6 : Int) (o7 : Bool) (o8 symbols9 : Int) (l10 : List Item) : Option Bool := call G 64 (o1, o2, o3, o4, o5, o6, o7, o8, symbols9, l10)
noncomputable def text_lay (o1 o2 : Int) (o3 : Bool) (o4 o5 o6 : Int) (o7 : Bool) (o8 symbols9 : Int) : Option (Int × Int × Bool × Int × Int × Int × Bool × Int × Int × Int × Int) := call G 65 (o1, o2, o3, o4, o5, o6, o7, o8, symbols9)
noncomputable def coder_New (kind1 n2 : Int) : Option (Int × Int × (List Int)) := call G 66 (kind1, n2)
noncomputable def text_strip (o1 o2 : Int) (o3 : Bool) (o4 o5 o6 : Int) (o7 : Bool) (o8 i9 i10 i11 : Int) (i12 : Bool) (i13 i14 i15 i16 : Int) (i17 : List Int) : Option Int := call G 67 (o1, o2, o3, o4, o5, o6, o7, o8, i9, i10, i11, i12, i13, i14, i15, i16, i17)
noncomputable def text_writer_put (at1 n2 b3 b4 : Int) (b5 : Bool) (b6 b7 b8 : Int) (b9 : Bool) (b10 b11 b12 b13 : Int) (b14 : List Bitmap) (b15 b16 b17 : Int) (b18 b19 : List Int) : Option (Int × Int × Bool × Int × Int × Int × Bool × Int × Int × Int × Int × (List Bitmap) × Int × Int × Int × (List Int) × (List Int)) := call G 68 (at1, n2, b3, b4, b5, b6, b7, b8, b9, b10, b11, b12, b13, b14, b15, b16, b17, b18, b19)
noncomputable def text_writer_item (i1 i2 i3 : Int) (i4 : Bool) (i5 i6 i7 i8 : Int) (i9 : List Int) (b10 b11 : Int) (b12 : Bool) (b13 b14 b15 : Int) (b16 : Bool) (b17 b18 b19 b20 : Int) (b21 : List Bitmap) (b22 b23 b24 : Int) (b25 b26 : List Int) : Option (Int × Int × Bool × Int × Int × Int × Bool × Int × Int × Int × Int × (List Bitmap) × Int × Int × Int × (List Int) × (List Int)) := call G 69 (i1, i2, i3, i4, i5, i6, i7, i8, i9, b10, b11, b12, b13, b14, b15, b16, b17, b18, b19, b20, b21, b22, b23, b24, b25, b26)
noncomputable def number_Put (base1 : Int) (n2 : Bool) (n3 b4 b5 b6 : Int) (b7 b8 : List Int) : Option (Int × Int × Int × Int × (List Int) × (List Int)) := call G 70 (base1, n2, n3, b4, b5, b6, b7, b8)
noncomputable def math_bits_Len64 (x1 : Int) : Option Int := call G 71 x1
noncomputable def bits_Signed (n1 : Int) : Option ((List Int) × Int) := call G 72 n1
noncomputable def ref05_Sides (w1 h2 : Int) : Option Bool := call G 73 (w1, h2)
noncomputable def ref10_asked (o1 o2 : Int) (o3 : Bool) (o4 o5 o6 : Int) (o7 : Bool) (o8 : Int) (symbols9 : List Bitmap) (l10 : List Item) (right11 : Bool) (many12 : Int) : Option Int := call G 74 (o1, o2, o3, o4, o5, o6, o7, o8, symbols9, l10, right11, many12)
noncomputable def ref10_Strip (o1 o2 : Int) (o3 : Bool) (o4 o5 o6 : Int) (o7 : Bool) (o8 a9 : Int) : Option Int := call G 75 (o1, o2, o3, o4, o5, o6, o7, o8, a9)
noncomputable def ref10_Model (o1 o2 : Int) (o3 : Bool) (o4 o5 o6 : Int) (o7 : Bool) (o8 symbols9 : Int) : Option (Int × (List Int) × Int) := call G 76 (o1, o2, o3, o4, o5, o6, o7, o8, symbols9)
noncomputable def ref10_put (tree1 n2 b3 b4 b5 : Int) (b6 b7 : List Int) : Option (Int × Int × Int × (List Int) × (List Int)) := call G 77 (tree1, n2, b3, b4, b5, b6, b7)
noncomputable def ref10_refine (o1 o2 : Int) (o3 : Bool) (o4 o5 o6 : Int) (o7 : Bool) (o8 x9 y10 : Int) : Option (Int × Int × Int × Bool × Int) := call G 78 (o1, o2, o3, o4, o5, o6, o7, o8, x9, y10)
noncomputable def ref01_Signed (n1 : Int) : Option ((List Int) × Int) := call G 79 n1
noncomputable def symbol_Kept (o1 o2 o3 : Int) (o4 : Bool) (o5 o6 : Int) : Option (Int × Int) := call G 80 (o1, o2, o3, o4, o5, o6)
noncomputable def coder_Valid (m1 : Int) (m2 : List Int) : Option Bool := call G 81 (m1, m2)
noncomputable def slices_ContainsFunc_api_Bitmap_api_Bitmap (s1 : List Bitmap) : Option Bool := call G 82 s1
noncomputable def symbol_isShape (b1 b2 : Int) (b3 : List Int) : Option Bool := call G 83 (b1, b2, b3)
noncomputable def number_Width (n1 : Int) : Option Int := call G 84 n1
noncomputable def generic_Size (o1 o2 o3 : Int) (o4 : Bool) (o5 : Int) : Option (Int × Int) := call G 85 (o1, o2, o3, o4, o5)
noncomputable def refine_Size (template1 : Int) : Option (Int × Int) := call G 86 template1
noncomputable def coder_begin (m1 : Int) (m2 : List Int) : Option (Int × Int × Int × (List Int)) := call G 87 (m1, m2)
noncomputable def symbol_writer_put (at1 n2 b3 b4 b5 : Int) (b6 : Bool) (b7 b8 b9 b10 b11 b12 b13 b14 b15 : Int) (b16 b17 : List Int) (b18 : List Bitmap) : Option (Int × Int × Int × Bool × Int × Int × Int × Int × Int × Int × Int × Int × Int × (List Int) × (List Int) × (List Bitmap)) := call G 88 (at1, n2, b3, b4, b5, b6, b7, b8, b9, b10, b11, b12, b13, b14, b15, b16, b17, b18)
noncomputable def symbol_writer_shape (s1 s2 : Int) (s3 : List Int) (s4 b5 b6 b7 : Int) (b8 : Bool) (b9 b10 b11 b12 b13 b14 b15 b16 b17 : Int) (b18 b19 : List Int) (b20 : List Bitmap) : Option (Int × Int × Int × Bool × Int × Int × Int × Int × Int × Int × Int × Int × Int × (List Int) × (List Int) × (List Bitmap)) := call G 89 (s1, s2, s3, s4, b5, b6, b7, b8, b9, b10, b11, b12, b13, b14, b15, b16, b17, b18, b19, b20)
noncomputable def coder_Encoder_none (b1 b2 b3 : Int) (b4 b5 : List Int) : Option (Bool × Int × Int × Int × (List Int) × (List Int)) := call G 90 (b1, b2, b3, b4, b5)
noncomputable def coder_clone (m1 : Int) (m2 : List Int) : Option (Int × (List Int)) := call G 91 (m1, m2)
noncomputable def slices_Clone_int_int (s1 : List Int) : Option (List Int) := call G 92 s1
noncomputable def ref09_Valid (o1 o2 o3 : Int) (o4 : Bool) (o5 o6 : Int) : Option Bool := call G 93 (o1, o2, o3, o4, o5, o6)
noncomputable def ref09_Fits (o1 o2 o3 : Int) (o4 : Bool) (o5 o6 kept7 : Int) (kept8 : List Int) : Option Bool := call G 94 (o1, o2, o3, o4, o5, o6, kept7, kept8)
noncomputable def ref09_IsShape (b1 b2 : Int) (b3 : List Int) : Option Bool := call G 95 (b1, b2, b3)
noncomputable def ref09_Kept (o1 o2 o3 : Int) (o4 : Bool) (o5 o6 : Int) : Option (Int × Int) := call G 96 (o1, o2, o3, o4, o5, o6)
noncomputable def ref02_New (kind1 n2 : Int) : Option (Int × Int × (List Int)) := call G 97 (kind1, n2)
noncomputable def ref07_Size (o1 o2 o3 : Int) (o4 : Bool) (o5 : Int) : Option (Int × Int) := call G 98 (o1, o2, o3, o4, o5)
noncomputable def ref08_Size (template1 : Int) : Option (Int × Int) := call G 99 template1
noncomputable def ref02_Valid (m1 : Int) (m2 : List Int) : Option Bool := call G 100 (m1, m2)
noncomputable def ref02_Copy (m1 : Int) (m2 : List Int) : Option (Int × (List Int)) := call G 101 (m1, m2)
noncomputable def ref02_Whole : Option (Int × Int) := call G 102 ()
noncomputable def ref03_Valid (n1 : Bool) (n2 : Int) : Option Bool := call G 103 (n1, n2)
noncomputable def ref03_room (states1 base2 n3 : Int) : Option Bool := call G 104 (states1, base2, n3)
noncomputable def ref03_events (n1 : Bool) (n2 : Int) : Option (List Event) := call G 105 (n1, n2)
noncomputable def ref02_Likely (kind1 state2 : Int) : Option Int := call G 106 (kind1, state2)
noncomputable def ref02_Interval_Part (x1 x2 p3 bit4 : Int) : Option (Int × Int) := call G 107 (x1, x2, p3, bit4)
noncomputable def ref02_After (kind1 state2 bit3 : Int) : Option Int := call G 108 (kind1, state2, bit3)
noncomputable def ref02_Interval_Fixed (x1 x2 : Int) : Option Bool := call G 109 (x1, x2)
noncomputable def ref02_Interval_Shifted (x1 x2 : Int) : Option (Int × Int) := call G 110 (x1, x2)
noncomputable def ref07_Valid (o1 o2 o3 : Int) (o4 : Bool) (o5 : Int) : Option Bool := call G 111 (o1, o2, o3, o4, o5)
noncomputable def ref05_Valid (b1 b2 : Int) (b3 : List Int) : Option Bool := call G 112 (b1, b2, b3)
noncomputable def ref05_At (b1 b2 : Int) (b3 : List Int) (x4 y5 : Int) : Option Int := call G 113 (b1, b2, b3, x4, y5)
noncomputable def ref07_room (o1 o2 o3 : Int) (o4 : Bool) (o5 base6 states7 w8 h9 skip10 skip11 : Int) (skip12 : List Int) : Option Int := call G 114 (o1, o2, o3, o4, o5, base6, states7, w8, h9, skip10, skip11, skip12)
noncomputable def ref07_typical (b1 b2 : Int) (b3 : List Int) (skip4 skip5 : Int) (skip6 : List Int) (y7 : Int) : Option (List Int) := call G 115 (b1, b2, b3, skip4, skip5, skip6, y7)
noncomputable def ref07_context (o1 o2 o3 : Int) (o4 : Bool) (o5 b6 b7 : Int) (b8 : List Int) (x9 y10 : Int) : Option Int := call G 116 (o1, o2, o3, o4, o5, b6, b7, b8, x9, y10)
noncomputable def ref03_isId (k1 id2 : Int) : Option Bool := call G 117 (k1, id2)
noncomputable def ref06_IsBitmap (b1 b2 : Int) (b3 : List Int) : Option Bool := call G 118 (b1, b2, b3)
noncomputable def ref08_asked (o1 o2 o3 : Int) (o4 : Bool) (o5 : Int) (right6 : Bool) (base7 m8 : Int) (m9 : List Int) : Option Int := call G 119 (o1, o2, o3, o4, o5, right6, base7, m8, m9)
noncomputable def ref08_size (template1 : Int) : Option Int := call G 120 template1
noncomputable def ref08_Row (o1 o2 o3 : Int) (o4 : Bool) (o5 b6 b7 : Int) (b8 : List Int) (r9 r10 : Int) (r11 : List Int) (y12 : Int) : Option Bool := call G 121 (o1, o2, o3, o4, o5, b6, b7, b8, r9, r10, r11, y12)
noncomputable def ref08_Alike (o1 o2 o3 : Int) (o4 : Bool) (o5 r6 r7 : Int) (r8 : List Int) (x9 y10 : Int) : Option (Int × Bool) := call G 122 (o1, o2, o3, o4, o5, r6, r7, r8, x9, y10)
noncomputable def ref08_Context (o1 o2 o3 : Int) (o4 : Bool) (o5 b6 b7 : Int) (b8 : List Int) (r9 r10 : Int) (r11 : List Int) (x12 y13 : Int) : Option Int := call G 123 (o1, o2, o3, o4, o5, b6, b7, b8, r9, r10, r11, x12, y13)
noncomputable def ref06_Pix (b1 b2 : Int) (b3 : List Int) (x4 y5 : Int) : Option Int := call G 124 (b1, b2, b3, x4, y5)
noncomputable def ref02_Interval_End (x1 x2 : Int) : Option (List Int) := call G 125 (x1, x2)
noncomputable def bitmap_fits (w1 h2 : Int) : Option Bool := call G 126 (w1, h2)
noncomputable def text_Valid (o1 o2 : Int) (o3 : Bool) (o4 o5 o6 : Int) (o7 : Bool) (o8 : Int) : Option Bool := call G 127 (o1, o2, o3, o4, o5, o6, o7, o8)
noncomputable def slices_ContainsFunc_api_Bitmap_api_Bitmap_2 (s1 : List Bitmap) : Option Bool := call G 128 s1
noncomputable def slices_ContainsFunc_api_Item_api_Item (s1 : List Item) : Option Bool := call G 129 s1
noncomputable def text_Encode_1 (a1 a2 a3 : Int) (a4 : Bool) (a5 a6 a7 a8 : Int) (a9 : List Int) (b10 b11 b12 : Int) (b13 : Bool) (b14 b15 b16 b17 : Int) (b18 : List Int) (b19 b20 : Int) (b21 : Bool) (b22 b23 b24 : Int) (b25 : Bool) (b26 : Int) : Option (Int × Int × Int × Bool × Int × Int × Int × Bool × Int) := call G 130 (a1, a2, a3, a4, a5, a6, a7, a8, a9, b10, b11, b12, b13, b14, b15, b16, b17, b18, b19, b20, b21, b22, b23, b24, b25, b26)
noncomputable def slices_ContainsFunc_api_Item_api_Item_2 (s1 : List Item) (b2 b3 : Int) (b4 : Bool) (b5 b6 b7 : Int) (b8 : Bool) (b9 b10 : Int) : Option (Bool × Int × Int × Bool × Int × Int × Int × Bool × Int × Int) := call G 131 (s1, b2, b3, b4, b5, b6, b7, b8, b9, b10)
noncomputable def text_floor (a1 b2 : Int) : Option Int := call G 132 (a1, b2)
noncomputable def number_PutId (base1 k2 id3 b4 b5 b6 : Int) (b7 b8 : List Int) : Option (Int × Int × Int × Int × (List Int) × (List Int)) := call G 133 (base1, k2, id3, b4, b5, b6, b7, b8)
noncomputable def coder_Encoder_Put (ctx1 bit2 b3 b4 b5 : Int) (b6 b7 : List Int) : Option (Int × Int × Int × Int × (List Int) × (List Int)) := call G 134 (ctx1, bit2, b3, b4, b5, b6, b7)
noncomputable def text_layout_options (x1 x2 : Int) (x3 : Bool) (x4 x5 x6 : Int) (x7 : Bool) (x8 x9 x10 x11 dx12 dy13 : Int) : Option (Int × Int × Int × Bool × Int) := call G 135 (x1, x2, x3, x4, x5, x6, x7, x8, x9, x10, x11, dx12, dy13)
noncomputable def refine_Put (base1 o2 o3 o4 : Int) (o5 : Bool) (o6 b7 b8 : Int) (b9 : List Int) (r10 r11 : Int) (r12 : List Int) (b13 b14 b15 : Int) (b16 b17 : List Int) : Option (Int × Int × Int × Int × (List Int) × (List Int)) := call G 136 (base1, o2, o3, o4, o5, o6, b7, b8, b9, r10, r11, r12, b13, b14, b15, b16, b17)
noncomputable def number_Valid (n1 : Bool) (n2 : Int) : Option Bool := call G 137 (n1, n2)
noncomputable def number_fits (m1 : Int) (m2 : List Int) (base3 n4 : Int) : Option Int := call G 138 (m1, m2, base3, n4)
noncomputable def number_events (base1 : Int) (n2 : Bool) (n3 : Int) : Option (List Event) := call G 139 (base1, n2, n3)
noncomputable def number_put (l1 : List Event) (b2 b3 b4 : Int) (b5 b6 : List Int) : Option (Int × Int × Int × Int × (List Int) × (List Int)) := call G 140 (l1, b2, b3, b4, b5, b6)
noncomputable def ref10_Valid (o1 o2 : Int) (o3 : Bool) (o4 o5 o6 : Int) (o7 : Bool) (o8 : Int) : Option Bool := call G 141 (o1, o2, o3, o4, o5, o6, o7, o8)
noncomputable def ref10_IsShape (b1 b2 : Int) (b3 : List Int) : Option Bool := call G 142 (b1, b2, b3)
noncomputable def ref10_isItem (o1 o2 : Int) (o3 : Bool) (o4 o5 o6 : Int) (o7 : Bool) (o8 symbols9 i10 i11 i12 : Int) (i13 : Bool) (i14 i15 i16 i17 : Int) (i18 : List Int) : Option Bool := call G 143 (o1, o2, o3, o4, o5, o6, o7, o8, symbols9, i10, i11, i12, i13, i14, i15, i16, i17, i18)
noncomputable def symbol_Valid (o1 o2 o3 : Int) (o4 : Bool) (o5 o6 : Int) : Option Bool := call G 144 (o1, o2, o3, o4, o5, o6)
noncomputable def slices_IndexFunc_api_Bitmap_api_Bitmap (s1 : List Bitmap) : Option Int := call G 145 s1
noncomputable def bitmap_Valid (b1 b2 : Int) (b3 : List Int) : Option Bool := call G 146 (b1, b2, b3)
noncomputable def generic_Valid (o1 o2 o3 : Int) (o4 : Bool) (o5 : Int) : Option Bool := call G 147 (o1, o2, o3, o4, o5)
noncomputable def generic_contexts (o1 o2 o3 : Int) (o4 : Bool) (o5 : Int) : Option Int := call G 148 (o1, o2, o3, o4, o5)
noncomputable def refine_contexts (template1 : Int) : Option Int := call G 149 template1
noncomputable def coder_chances : Option Unit := call G 150 ()
noncomputable def generic_Put (base1 o2 o3 o4 : Int) (o5 : Bool) (o6 b7 b8 : Int) (b9 : List Int) (skip10 skip11 : Int) (skip12 : List Int) (b13 b14 b15 : Int) (b16 b17 : List Int) : Option (Int × Int × Int × Int × (List Int) × (List Int)) := call G 151 (base1, o2, o3, o4, o5, o6, b7, b8, b9, skip10, skip11, skip12, b13, b14, b15, b16, b17)
noncomputable def symbol_layout_options (x1 x2 x3 : Int) (x4 : Bool) (x5 x6 x7 x8 x9 x10 dx11 dy12 : Int) : Option (Int × Int × Int × Bool × Int) := call G 152 (x1, x2, x3, x4, x5, x6, x7, x8, x9, x10, dx11, dy12)
noncomputable def ref07_pixels (o1 o2 o3 : Int) (o4 : Bool) (o5 : Int) : Option (List Pixel) := call G 153 (o1, o2, o3, o4, o5)
noncomputable def ref02_unlikely (k1 : Int) : Option Int := call G 154 k1
noncomputable def ref02_Interval_Mid (x1 x2 p3 : Int) : Option Int := call G 155 (x1, x2, p3)
noncomputable def ref05_inside (b1 b2 : Int) (b3 : List Int) (x4 y5 : Int) : Option Bool := call G 156 (b1, b2, b3, x4, y5)
noncomputable def ref07_none (skip1 skip2 : Int) (skip3 : List Int) : Option Bool := call G 157 (skip1, skip2, skip3)
noncomputable def ref06_IsSize (w1 h2 : Int) : Option Bool := call G 158 (w1, h2)
noncomputable def ref06_IsRow (l1 : List Int) : Option Bool := call G 159 l1
noncomputable def ref08_Valid (o1 o2 o3 : Int) (o4 : Bool) (o5 : Int) : Option Bool := call G 160 (o1, o2, o3, o4, o5)
noncomputable def slices_Contains_int_int (s1 : List Int) (v2 : Int) : Option Bool := call G 161 (s1, v2)
noncomputable def slices_IndexFunc_api_Bitmap_api_Bitmap_2 (s1 : List Bitmap) : Option Int := call G 162 s1
noncomputable def slices_IndexFunc_api_Item_api_Item (s1 : List Item) : Option Int := call G 163 s1
noncomputable def slices_IndexFunc_api_Item_api_Item_2 (s1 : List Item) (b2 b3 : Int) (b4 : Bool) (b5 b6 b7 : Int) (b8 : Bool) (b9 b10 : Int) : Option (Int × Int × Int × Bool × Int × Int × Int × Bool × Int × Int) := call G 164 (s1, b2, b3, b4, b5, b6, b7, b8, b9, b10)
noncomputable def coder_interval_mid (ctx1 b2 b3 b4 : Int) (b5 b6 : List Int) : Option (Int × Int × Int × Int × (List Int) × (List Int)) := call G 165 (ctx1, b2, b3, b4, b5, b6)
noncomputable def coder_interval_take (ctx1 bit2 mid3 b4 b5 b6 : Int) (b7 b8 : List Int) : Option (Int × Int × Int × (List Int) × (List Int)) := call G 166 (ctx1, bit2, mid3, b4, b5, b6, b7, b8)
noncomputable def coder_interval_same (b1 b2 b3 : Int) (b4 b5 : List Int) : Option (Bool × Int × Int × Int × (List Int) × (List Int)) := call G 167 (b1, b2, b3, b4, b5)
noncomputable def coder_interval_lose (b1 b2 b3 : Int) (b4 b5 : List Int) : Option (Int × Int × Int × Int × (List Int) × (List Int)) := call G 168 (b1, b2, b3, b4, b5)
noncomputable def refine_Valid (o1 o2 o3 : Int) (o4 : Bool) (o5 : Int) : Option Bool := call G 169 (o1, o2, o3, o4, o5)
noncomputable def refine_fits (m1 : Int) (m2 : List Int) (base3 o4 o5 o6 : Int) (o7 : Bool) (o8 : Int) : Option Bool := call G 170 (m1, m2, base3, o4, o5, o6, o7, o8)
noncomputable def refine_newRegion (o1 o2 o3 : Int) (o4 : Bool) (o5 w6 h7 : Int) (pix8 : List Int) (r9 r10 : Int) (r11 : List Int) : Option (Int × Int × Int × Bool × Int × Int × Int × (List Int) × Int × Int × (List Int)) := call G 171 (o1, o2, o3, o4, o5, w6, h7, pix8, r9, r10, r11)
noncomputable def refine_region_typical (y1 b2 b3 b4 : Int) (b5 : Bool) (b6 b7 b8 : Int) (b9 : List Int) (b10 b11 : Int) (b12 : List Int) : Option (Bool × Int × Int × Int × Bool × Int × Int × Int × (List Int) × Int × Int × (List Int)) := call G 172 (y1, b2, b3, b4, b5, b6, b7, b8, b9, b10, b11, b12)
noncomputable def refine_region_flat (x1 y2 b3 b4 b5 : Int) (b6 : Bool) (b7 b8 b9 : Int) (b10 : List Int) (b11 b12 : Int) (b13 : List Int) : Option (Int × Bool × Int × Int × Int × Bool × Int × Int × Int × (List Int) × Int × Int × (List Int)) := call G 173 (x1, y2, b3, b4, b5, b6, b7, b8, b9, b10, b11, b12, b13)
noncomputable def refine_region_context (x1 y2 b3 b4 b5 : Int) (b6 : Bool) (b7 b8 b9 : Int) (b10 : List Int) (b11 b12 : Int) (b13 : List Int) : Option (Int × Int × Int × Int × Bool × Int × Int × Int × (List Int) × Int × Int × (List Int)) := call G 174 (x1, y2, b3, b4, b5, b6, b7, b8, b9, b10, b11, b12, b13)
noncomputable def refine_grid_at (g1 g2 : Int) (g3 : List Int) (x4 y5 : Int) : Option Int := call G 175 (g1, g2, g3, x4, y5)
noncomputable def number_tail_take (b1 : Int) : Option (Int × Int) := call G 176 b1
noncomputable def ref10_isShift (n1 : Int) : Option Bool := call G 177 n1
noncomputable def ref10_isSide (n1 : Int) : Option Bool := call G 178 n1
noncomputable def symbol_begun_1 (b1 b2 : Int) (b3 : List Int) : Option Bool := call G 179 (b1, b2, b3)
noncomputable def generic_pixels (template1 : Int) : Option (List Arr2) := call G 180 template1
noncomputable def refine_fresh (template1 : Int) : Option (List Arr2) := call G 181 template1
noncomputable def generic_clash (b1 b2 : Int) (b3 : List Int) (skip4 skip5 : Int) (skip6 : List Int) : Option Bool := call G 182 (b1, b2, b3, skip4, skip5, skip6)
noncomputable def generic_sides (skip1 skip2 : Int) (skip3 : List Int) (w4 h5 : Int) : Option Bool := call G 183 (skip1, skip2, skip3, w4, h5)
noncomputable def generic_fits (m1 : Int) (m2 : List Int) (base3 o4 o5 o6 : Int) (o7 : Bool) (o8 : Int) : Option Bool := call G 184 (m1, m2, base3, o4, o5, o6, o7, o8)
noncomputable def generic_put (base1 o2 o3 o4 : Int) (o5 : Bool) (o6 b7 b8 : Int) (b9 : List Int) (skip10 skip11 : Int) (skip12 : List Int) (b13 b14 b15 : Int) (b16 b17 : List Int) : Option (Int × Int × Int × (List Int) × (List Int)) := call G 185 (base1, o2, o3, o4, o5, o6, b7, b8, b9, skip10, skip11, skip12, b13, b14, b15, b16, b17)
noncomputable def ref07_template (n1 : Int) : Option (List Pixel) := call G 186 n1
noncomputable def slices_Index_int_int (s1 : List Int) (v2 : Int) : Option Int := call G 187 (s1, v2)
noncomputable def text_begun_1 (b1 b2 : Int) (b3 : List Int) : Option Bool := call G 188 (b1, b2, b3)
noncomputable def text_begun_2 (i1 i2 i3 : Int) (i4 : Bool) (i5 i6 i7 i8 : Int) (i9 : List Int) : Option Bool := call G 189 (i1, i2, i3, i4, i5, i6, i7, i8, i9)
noncomputable def text_right_1 (i1 i2 i3 : Int) (i4 : Bool) (i5 i6 i7 i8 : Int) (i9 : List Int) (b10 b11 : Int) (b12 : Bool) (b13 b14 b15 : Int) (b16 : Bool) (b17 b18 : Int) : Option (Bool × Int × Int × Bool × Int × Int × Int × Bool × Int × Int) := call G 190 (i1, i2, i3, i4, i5, i6, i7, i8, i9, b10, b11, b12, b13, b14, b15, b16, b17, b18)
noncomputable def coder_table_chance (kind1 s2 : Int) : Option Int := call G 191 (kind1, s2)
noncomputable def coder_next (kind1 s2 bit3 : Int) : Option Int := call G 192 (kind1, s2, bit3)
noncomputable def refine_beside : Option (List Arr2) := call G 193 ()
noncomputable def generic_skips (skip1 skip2 : Int) (skip3 : List Int) (i4 : Int) : Option Bool := call G 194 (skip1, skip2, skip3, i4)
noncomputable def generic_newPlane (o1 o2 o3 : Int) (o4 : Bool) (o5 w6 h7 : Int) : Option (Int × Int × (List Int) × (List Arr2)) := call G 195 (o1, o2, o3, o4, o5, w6, h7)
noncomputable def generic_plane_above (y1 skip2 skip3 : Int) (skip4 : List Int) (b5 b6 : Int) (b7 : List Int) (b8 : List Arr2) : Option ((List Int) × Int × Int × (List Int) × (List Arr2)) := call G 196 (y1, skip2, skip3, skip4, b5, b6, b7, b8)
noncomputable def bytes_Equal (a1 b2 : List Int) : Option Bool := call G 197 (a1, b2)
noncomputable def generic_plane_context (x1 y2 b3 b4 : Int) (b5 : List Int) (b6 : List Arr2) : Option (Int × Int × Int × (List Int) × (List Arr2)) := call G 198 (x1, y2, b3, b4, b5, b6)
noncomputable def text_isShape (b1 b2 : Int) (b3 : List Int) : Option Bool := call G 199 (b1, b2, b3)
noncomputable def text_rightItem (o1 o2 : Int) (o3 : Bool) (o4 o5 o6 : Int) (o7 : Bool) (o8 symbols9 i10 i11 i12 : Int) (i13 : Bool) (i14 i15 i16 i17 : Int) (i18 : List Int) : Option Bool := call G 200 (o1, o2, o3, o4, o5, o6, o7, o8, symbols9, i10, i11, i12, i13, i14, i15, i16, i17, i18)
noncomputable def generic_plane_at (x1 y2 b3 b4 : Int) (b5 : List Int) (b6 : List Arr2) : Option (Int × Int × Int × (List Int) × (List Arr2)) := call G 201 (x1, y2, b3, b4, b5, b6)
noncomputable def text_near (n1 most2 : Int) : Option Bool := call G 202 (n1, most2)
end
end Go.Proofs.YtkccnhkhjncpkaaGreat.P
