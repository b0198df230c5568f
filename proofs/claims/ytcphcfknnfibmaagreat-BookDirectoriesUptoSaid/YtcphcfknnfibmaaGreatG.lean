import Derived.KernelRfl
import Derived.Test.YtcphcfknnfibmaaGreatProg
import Derived.Test.YtcphcfknnfibmaaGreatF5
namespace Go.Proofs.YtcphcfknnfibmaaGreat.P
open Go Go.IntKind Go.Proofs.YtcphcfknnfibmaaGreat.V
set_option linter.unusedVariables false
set_option linter.unusedSimpArgs false
set_option maxRecDepth 100000
noncomputable section
structure File where
  name : List Int
  kind : Int
  data : List Int
structure Outline where
  title : List Int
  page : Int
  kids : List Outline
structure Chunk where
  id : List Int
  kind : List Int
  data : List Int
  kids : List Chunk
structure Entuint8 where
  key : List Int
  val : List Int
structure Event where
  ctx : Int
  bit : Int
noncomputable def TT : Nat -> Type
  | 0 => File
  | 1 => Outline
  | 2 => Chunk
  | 3 => Entuint8
  | 4 => List Int
  | 5 => Event
  | _ => Unit
noncomputable def outs0 (x : File) : List (PV TT) := [.str x.name, .int .i64 x.kind, .ints .u8 x.data]
noncomputable def outs1 (x : Outline) : List (PV TT) := [.str x.title, .int .i64 x.page, .rows 1 x.kids]
noncomputable def outs2 (x : Chunk) : List (PV TT) := [.str x.id, .str x.kind, .ints .u8 x.data, .rows 2 x.kids]
noncomputable def outs3 (x : Entuint8) : List (PV TT) := [.str x.key, .ints .u8 x.val]
noncomputable def outs4 (x : List Int) : List (PV TT) := [.ints .u8 x]
noncomputable def outs5 (x : Event) : List (PV TT) := [.int .i64 x.ctx, .int .i64 x.bit]
noncomputable def outs : (i : Nat) -> TT i -> List (PV TT)
  | 0, x => outs0 x
  | 1, x => outs1 x
  | 2, x => outs2 x
  | 3, x => outs3 x
  | 4, x => outs4 x
  | 5, x => outs5 x
  | _, _ => []
noncomputable def inn0 : List (PV TT) -> Option File
  | [c0, c1, c2] => (V.asStr c0).bind fun y0 => (V.asInt .i64 c1).bind fun y1 => (V.asInts .u8 c2).bind fun y2 => some (File.mk y0 y1 y2)
  | _ => none
noncomputable def inn1 : List (PV TT) -> Option Outline
  | [c0, c1, c2] => (V.asStr c0).bind fun y0 => (V.asInt .i64 c1).bind fun y1 => (V.asRows 1 c2).bind fun y2 => some (Outline.mk y0 y1 y2)
  | _ => none
noncomputable def inn2 : List (PV TT) -> Option Chunk
  | [c0, c1, c2, c3] => (V.asStr c0).bind fun y0 => (V.asStr c1).bind fun y1 => (V.asInts .u8 c2).bind fun y2 => (V.asRows 2 c3).bind fun y3 => some (Chunk.mk y0 y1 y2 y3)
  | _ => none
noncomputable def inn3 : List (PV TT) -> Option Entuint8
  | [c0, c1] => (V.asStr c0).bind fun y0 => (V.asInts .u8 c1).bind fun y1 => some (Entuint8.mk y0 y1)
  | _ => none
noncomputable def inn4 : List (PV TT) -> Option (List Int)
  | [c0] => (V.asInts .u8 c0).bind fun y0 => some y0
  | _ => none
noncomputable def inn5 : List (PV TT) -> Option Event
  | [c0, c1] => (V.asInt .i64 c0).bind fun y0 => (V.asInt .i64 c1).bind fun y1 => some (Event.mk y0 y1)
  | _ => none
noncomputable def inn : (i : Nat) -> List (PV TT) -> Option (TT i)
  | 0, l => inn0 l
  | 1, l => inn1 l
  | 2, l => inn2 l
  | 3, l => inn3 l
  | 4, l => inn4 l
  | 5, l => inn5 l
  | _, _ => none
noncomputable def E : Env := { T := TT, outs := outs, inn := inn, sz := fun i => (getL [3, 3, 4, 2, 1, 2] i).getD 0, flat := fun i => (getL [false, false, false, false, false, true] i).getD false }
noncomputable def els : List (TypeId × EK) := [(3, .int .i64), (5, .int .u8), (28, .row 4), (41, .row 0), (51, .row 2), (90, .row 1), (223, .row 5)]
noncomputable abbrev I6 : TSh := .int .i64
def z78 : List TSh := [.ptr 0 0, I6]
def z77 : List BSh := [.same, .same]
def z76 : List BSh := [.rows 0 false]
def z75 : List TSh := [.ints .u8, I6]
def z74 : List TSh := [.ints .i64, I6]
def z73 : List BSh := [.ints .i64 true]
def z72 : List BSh := [.ints .u8 false]
def z71 : List BSh := [.ints .i64 false]
def z70 : List TSh := [.rows 0, .rows 1]
def z69 : List TSh := [.ints .u8, I6, I6]
def z68 : List TSh := [.str, I6, .ints .u8]
def z67 : List BSh := [.same, .same, .same]
def z66 : List TSh := [.int .u64, .int .u64]
def z65 : List BSh := [.same, .rows 5 false]
def z64 : List TSh := [.ints .u8, I6, I6, I6]
def z63 : List TSh := [.ptr 0 0, .lit .i64 0]
def z62 : List TSh := [.agg [I6, .ints .i64]]
def z61 : List BSh := [.gone, .ints .u8 false]
def z60 : List BSh := [.same, .ints .u8 false]
def z59 : List BSh := [.same, .box [.ints .u8]]
def z58 : List (Nat × TSh) := [(0, .int .u64), (2, I6)]
def z57 : List (Nat × TSh) := [(2, .ints .u8), (3, I6)]
def z56 : List TSh := [.agg z70]
def z55 : List BSh := [.box z69]
def z54 : List TSh := [.agg z68]
def z53 : List BSh := [.same, .rows 5 false, .same]
def z52 : List TSh := [.agg z66]
def z51 : List BSh := [.box z64]
def z50 : List BSh := [.ints .u8 false, .same, .same]
def z49 : List TSh := [.str, .str, .ints .u8, .rows 2]
def z48 : List BSh := [.same, .mpr .str 3, .same, .same]
def z47 : List BSh := [.ints .i64 true, .box [.ints .u8]]
def z46 : List BSh := [.ints .i64 true, .ints .i64 false]
def z45 : List TSh := [.arr 0, I6, I6, .fn 241 [.ptr 1 0]]
def z44 : List BSh := [.ints .i64 false, .box [.ints .u8]]
def z43 : List BSh := [.box z64, .same]
def z42 : List BSh := [.same, .same, .same, .ints .u8 true]
def z41 : List BSh := [.same, .same, .same, .ints .u8 false]
def z40 : List TSh := [.agg z49]
def z39 : List TSh := [.rows 0, .ints .i64, .rows 1, .mapr 1]
def z38 : List TSh := [.arr 0, I6, I6, I6, .fn 241 [.ptr 1 0]]
def z37 : List BSh := [.ints .i64 true, .same, .box [.int .u64]]
def z36 : List TSh := [I6, .arr 1, .int .u64, .int .u64, .arr 2]
def z35 : List BSh := [.box z64, .rows 2 false]
def z34 : List BSh := [.box z64, .rows 1 false]
def z33 : List BSh := [.same, .same, .same, .ints .i64 true, .same]
def z32 : List BSh := [.ints .i64 true, .box [I6], .box [.ints .u8]]
def z31 : List BSh := [.ints .i64 true, .box [.ints .u8], .box [I6]]
def z30 : List BSh := [.ints .i64 false, .box [I6], .box [.ints .u8]]
def z29 : List BSh := [.box [.arr 3, .rows 1], .same, .same, .rows 0 true]
def z28 : List BSh := [.same, .same, .box [.arr 3, .rows 1], .rows 0 false]
def z27 : List BSh := [.box z39, .mpr .str 3]
def z26 : List BSh := [.box z69, .rows 0 false, .ints .i64 false]
def z25 : List BSh := [.same, .rows 2 false, .box [.str, .str, .ints .u8, .arr 1]]
def z24 : List BSh := [.same, .same, .same, .same, .ints .i64 true, .ints .i64 true, .same]
def z23 : List BSh := [.box z36, .ints .i64 true, .ints .u8 false]
def z22 : List BSh := [.box z36, .ints .i64 false, .ints .u8 false]
def z21 : List BSh := [.box z36, .ints .i64 true, .ints .u8 false, .same]
def z20 : List BSh := [.box [.arr 3, .rows 1], .mpr .str 3, .box z39, .rows 0 false]
def z19 : List BSh := [.same, .box [.ints .u8], .box [I6], .same, .same, .same, .same, .ints .u8 true, .same, .box [I6], .same]
def z18 : List BSh := [.same, .same, .same, .box [I6, .arr 4, .int .u64, .int .u64, .arr 5], .ints .i64 false, .ints .u8 false]
def z17 : List TSh := [.lit .i64 2048, .lit .i64 1792, .lit .i64 1568, .lit .i64 1372, .lit .i64 1201, .lit .i64 1051, .lit .i64 920, .lit .i64 805, .lit .i64 705, .lit .i64 617, .lit .i64 540, .lit .i64 473, .lit .i64 414, .lit .i64 363, .lit .i64 318, .lit .i64 279, .lit .i64 245, .lit .i64 215, .lit .i64 189, .lit .i64 166, .lit .i64 146, .lit .i64 128, .lit .i64 112, .lit .i64 98, .lit .i64 86, .lit .i64 76, .lit .i64 67, .lit .i64 59, .lit .i64 52, .lit .i64 46, .lit .i64 41, .lit .i64 36]
def z16 : List TSh := [I6, .arr 1, .lit .i64 2048, .lit .i64 1792, .lit .i64 1568, .lit .i64 1372, .lit .i64 1201, .lit .i64 1051, .lit .i64 920, .lit .i64 805, .lit .i64 705, .lit .i64 617, .lit .i64 540, .lit .i64 473, .lit .i64 414, .lit .i64 363, .lit .i64 318, .lit .i64 279, .lit .i64 245, .lit .i64 215, .lit .i64 189, .lit .i64 166, .lit .i64 146, .lit .i64 128, .lit .i64 112, .lit .i64 98, .lit .i64 86, .lit .i64 76, .lit .i64 67, .lit .i64 59, .lit .i64 52, .lit .i64 46, .lit .i64 41, .lit .i64 36, .int .u64, .int .u64, .arr 2, .litb true]
def z15 : List TSh := [I6, .arr 1, .lit .i64 2048, .lit .i64 1792, .lit .i64 1568, .lit .i64 1372, .lit .i64 1201, .lit .i64 1051, .lit .i64 920, .lit .i64 805, .lit .i64 705, .lit .i64 617, .lit .i64 540, .lit .i64 473, .lit .i64 414, .lit .i64 363, .lit .i64 318, .lit .i64 279, .lit .i64 245, .lit .i64 215, .lit .i64 189, .lit .i64 166, .lit .i64 146, .lit .i64 128, .lit .i64 112, .lit .i64 98, .lit .i64 86, .lit .i64 76, .lit .i64 67, .lit .i64 59, .lit .i64 52, .lit .i64 46, .lit .i64 41, .lit .i64 36, .int .u64, .int .u64, .ints .u8, I6, .int .u64, I6, .bool, .litb true]
def z14 : List TSh := [I6, .arr 3, .lit .i64 2048, .lit .i64 1792, .lit .i64 1568, .lit .i64 1372, .lit .i64 1201, .lit .i64 1051, .lit .i64 920, .lit .i64 805, .lit .i64 705, .lit .i64 617, .lit .i64 540, .lit .i64 473, .lit .i64 414, .lit .i64 363, .lit .i64 318, .lit .i64 279, .lit .i64 245, .lit .i64 215, .lit .i64 189, .lit .i64 166, .lit .i64 146, .lit .i64 128, .lit .i64 112, .lit .i64 98, .lit .i64 86, .lit .i64 76, .lit .i64 67, .lit .i64 59, .lit .i64 52, .lit .i64 46, .lit .i64 41, .lit .i64 36, .int .u64, .int .u64, .ints .u8, I6, .int .u64, I6, .bool, .litb true]
def z13 : List TSh := [I6, .arr 1, .lit .i64 2048, .lit .i64 1792, .lit .i64 1568, .lit .i64 1372, .lit .i64 1201, .lit .i64 1051, .lit .i64 920, .lit .i64 805, .lit .i64 705, .lit .i64 617, .lit .i64 540, .lit .i64 473, .lit .i64 414, .lit .i64 363, .lit .i64 318, .lit .i64 279, .lit .i64 245, .lit .i64 215, .lit .i64 189, .lit .i64 166, .lit .i64 146, .lit .i64 128, .lit .i64 112, .lit .i64 98, .lit .i64 86, .lit .i64 76, .lit .i64 67, .lit .i64 59, .lit .i64 52, .lit .i64 46, .lit .i64 41, .lit .i64 36, .int .u64, .int .u64, .arr 2, I6, .int .u64, I6, .litb false, .litb true]
def z12 : List BSh := [.box z16, .ints .i64 true, .ints .u8 true]
def z11 : List BSh := [.box z16, .ints .i64 true, .ints .u8 false]
def z10 : List BSh := [.box z16, .ints .i64 false, .ints .u8 false]
def z9 : List BSh := [.box z15, .ints .i64 true]
def z8 : List BSh := [.box z15, .ints .i64 false]
def z7 : List BSh := [.box z15, .ints .i64 true, .same]
def z6 : List BSh := [.same, .same, .same, .box [I6, .arr 4, .lit .i64 2048, .lit .i64 1792, .lit .i64 1568, .lit .i64 1372, .lit .i64 1201, .lit .i64 1051, .lit .i64 920, .lit .i64 805, .lit .i64 705, .lit .i64 617, .lit .i64 540, .lit .i64 473, .lit .i64 414, .lit .i64 363, .lit .i64 318, .lit .i64 279, .lit .i64 245, .lit .i64 215, .lit .i64 189, .lit .i64 166, .lit .i64 146, .lit .i64 128, .lit .i64 112, .lit .i64 98, .lit .i64 86, .lit .i64 76, .lit .i64 67, .lit .i64 59, .lit .i64 52, .lit .i64 46, .lit .i64 41, .lit .i64 36, .int .u64, .int .u64, .arr 5, .litb true], .ints .i64 false, .ints .u8 false]
def z5 : List BSh := [.gone, .same, .box z14, .ints .i64 false]
def z4 : List BSh := [.box z15, .ints .i64 false, .box [.bool, I6]]
def z3 : List BSh := [.box z13, .ints .i64 true, .ints .u8 true]
def z2 : List BSh := [.same, .ints .i64 true, .ints .u8 true, .box z13]
def z1 : List BSh := [.box z15, .ints .i64 false, .box [.bool, I6], .box [I6]]
def z0 : List BSh := [.gone, .same, .box z14, .ints .i64 false, .ints .i64 false]
noncomputable def insts : List FInst := [
  { fid := 4, sig := { ps := z56, rs := [.bool] }, ann := { calls := [(12, 1), (13, 2), (16, 3), (21, 4), (30, 5), (35, 2), (38, 6), (65, 7), (91, 8), (107, 2)], loops := [(13, { tm := [(10, I6)], bs := z77 }, [(.exit 0, { tm := [], bs := z77 }), (.ret, { tm := [(2, .bool)], bs := z77 })])], joins := [(10, [(.normal, { tm := [(32, .bool)], bs := [.same] })]), (20, [(.normal, { tm := [(67, .bool)], bs := z77 })])] } },
  { fid := 13, sig := { ps := z56, rs := [.bool] }, ann := { calls := [(35, 9)], loops := [(3, { tm := [(3, I6), (4, I6)], bs := [.same] }, [(.exit 0, { tm := [(3, I6)], bs := [.same] })])] } },
  { fid := 14, sig := { rs := [.bool] }, ann := { calls := [(9, 10), (14, 11), (20, 12)] } },
  { fid := 15, sig := { ps := z56, rs := z75 }, ann := { calls := [(10, 13), (15, 14), (36, 14), (42, 14), (48, 15), (54, 16)], loops := [(5, { tm := [(4, .arr 1), (19, I6)], bs := z60 }, [(.exit 0, { tm := [(4, .arr 1)], bs := z60 })])] } },
  { fid := 16, sig := { ps := z56, rs := z75 }, ann := { calls := [(10, 17), (15, 18), (37, 18), (46, 18), (51, 19), (57, 20)], loops := [(5, { tm := [(4, .arr 1), (5, I6)], bs := z60 }, [(.exit 0, { tm := [(4, .arr 1)], bs := z60 })])] } },
  { fid := 17, sig := { ps := [.ints .u8, .ints .u8], rs := [.bool] }, ann := {} },
  { fid := 18, sig := { ps := [.ints .u8], rs := [.arr 0, .ints .i64, .rows 1, I6], rb := z76 }, ann := { calls := [(19, 21), (29, 22), (33, 23), (44, 24), (72, 25), (90, 26)], loops := [(10, { tm := [(10, .arr 1), (11, .arr 2), (35, I6)], bs := z26 }, [(.exit 0, { tm := [(10, .arr 1), (11, .arr 2)], bs := z26 })]), (21, { tm := [(80, I6)], bs := z67 }, [(.exit 2, { tm := [], bs := z67 }), (.ret, { tm := [(2, .arr 3), (3, .ints .i64), (4, .rows 1), (5, I6)], bs := [.same, .same, .same, .rows 0 false] })])] } },
  { fid := 19, sig := { ps := [.rows 1, .rows 1], rs := [.bool] }, ann := { calls := [(52, 7)], loops := [(4, { tm := [(5, I6)], bs := [] }, [(.exit 0, { tm := [], bs := [] }), (.ret, { tm := [(4, .bool)], bs := [] })])] } },
  { fid := 20, sig := { ps := [.agg z68, .agg z68], rs := [.bool] }, ann := {} },
  { fid := 49, sig := { ps := [.rows 1, I6, I6], rs := [I6] }, ann := { calls := [(36, 9)], loops := [(4, { tm := [(2, I6), (7, I6)], bs := [] }, [(.exit 0, { tm := [(2, I6)], bs := [] })])], joins := [(8, [(.normal, { tm := [(17, .bool)], bs := [] })])] } },
  { fid := 21, sig := { ps := z56, rs := z75 }, ann := { calls := [(7, 27)] } },
  { fid := 27, sig := { ps := [.ints .u8], rs := [.agg z70, I6] }, ann := { calls := [(16, 28), (27, 29), (41, 30)], loops := [(8, { tm := [(35, I6)], bs := z20 }, [(.exit 1, { tm := [], bs := z20 }), (.ret, { tm := [(3, I6)], bs := z20 })]), (15, { tm := [(52, I6)], bs := z29 }, [(.exit 3, { tm := [], bs := z29 }), (.ret, { tm := [(3, I6)], bs := [.box [.arr 4, .rows 1], .same, .same, .rows 0 true, .rows 0 false] })])], joins := [(36, [(.normal, { tm := [(84, .bool)], bs := [.same, .same, .same, .same] })])] } },
  { fid := 33, sig := { ps := [.agg z70, I6, .agg z68], rs := [.agg z70, I6] }, ann := { calls := [(11, 13), (16, 31), (35, 26), (45, 32), (48, 33), (55, 34)], joins := [(6, [(.normal, { tm := [(14, .bool)], bs := z67 })]), (19, [(.normal, { tm := [], bs := z28 }), (.ret, { tm := [(7, I6)], bs := z28 })])] } },
  { fid := 25, sig := { ps := z56, rs := [.bool] }, ann := { calls := [(12, 35), (24, 31), (33, 26)], loops := [(4, { tm := [(18, I6)], bs := [.same] }, [(.exit 0, { tm := [], bs := [.same] }), (.ret, { tm := [(2, .bool)], bs := [.same] })])], joins := [(2, [(.normal, { tm := [(14, .bool)], bs := [.same] })])] } },
  { fid := 50, sig := { ps := [I6, .ints .u8], rs := [.arr 0], rb := z72 }, ann := { calls := [(9, 36)] } },
  { fid := 51, sig := { ps := [.rows 1], rs := z75 }, ann := { calls := [(5, 35), (8, 37)] } },
  { fid := 52, sig := { ps := [.ints .u8], rs := z75 }, ann := { calls := [(19, 38), (28, 36), (36, 39), (41, 40), (46, 41), (57, 42), (60, 43), (65, 44)], loops := [(12, { tm := [(14, I6), (51, I6)], bs := z6 }, [(.exit 0, { tm := [], bs := z6 })])], joins := [(16, [(.normal, { tm := [(10, .ptr 3 0)], bs := z6 })])] } },
  { fid := 26, sig := { ps := z56, rs := [.bool] }, ann := { calls := [(16, 45), (25, 46), (31, 47)], loops := [(2, { tm := [(3, I6)], bs := [.same] }, [(.exit 0, { tm := [], bs := [.same] }), (.ret, { tm := [(2, .bool)], bs := [.same] })])] } },
  { fid := 53, sig := { ps := [I6], rs := [.arr 0], rb := z72 }, ann := { calls := [(7, 48)] } },
  { fid := 54, sig := { ps := [.rows 1], rs := z75 }, ann := { calls := [(5, 47), (8, 49)] } },
  { fid := 55, sig := { ps := [.ints .u8], rs := z75 }, ann := { calls := [(18, 50), (27, 48), (36, 51), (40, 52), (45, 53), (56, 54), (62, 55), (69, 56)], loops := [(12, { tm := [(14, I6), (15, I6)], bs := z18 }, [(.exit 0, { tm := [], bs := z18 })])], joins := [(18, [(.normal, { tm := [(12, .ptr 3 0)], bs := z18 })])] } },
  { fid := 56, sig := { ps := [.ints .u8], rs := z75 }, ann := { calls := [(19, 57), (43, 39), (51, 58), (61, 42), (62, 59), (89, 60), (93, 61)], loops := [(15, { tm := [(11, .arr 4), (12, I6), (56, I6)], bs := z0 }, [(.exit 1, { tm := [(11, .arr 4)], bs := z0 }), (.ret, { tm := z57, bs := z5 })])], joins := [(12, [(.normal, { tm := [(30, .bool)], bs := [] })]), (22, [(.normal, { tm := [(9, .ptr 2 0)], bs := z5 })]), (38, [(.normal, { tm := [(79, .bool)], bs := [.gone, .same, .same, .same, .same, .same] })]), (47, [(.normal, { tm := [], bs := [] }), (.ret, { tm := z57, bs := [] })]), (55, [(.normal, { tm := [], bs := [] }), (.ret, { tm := z57, bs := [] })])] } },
  { fid := 57, sig := { ps := [.ptr 0 0], pb := z55, rs := [I6], rb := z55 }, ann := { calls := [(20, 57), (28, 23)] } },
  { fid := 58, sig := { ps := [.ptr 0 0, .bool, I6], pb := z55, rs := [.bool], rb := z55 }, ann := { joins := [(2, [(.normal, { tm := [(15, .bool)], bs := [.same] })])] } },
  { fid := 59, sig := { ps := [.ptr 0 0], pb := z55, rs := [.agg z68, I6], rb := z55 }, ann := { calls := [(7, 62), (18, 23), (27, 63), (31, 22)], joins := [(4, [(.normal, { tm := [(19, .bool)], bs := [.box z69, .same] })])] } },
  { fid := 60, sig := { ps := [.ints .u8], rs := [.rows 1, I6] }, ann := { calls := [(10, 64)] } },
  { fid := 61, sig := { ps := [.rows 0, .str], rs := [I6] }, ann := { calls := [(7, 65)] } },
  { fid := 62, sig := { ps := [.str, .agg z70, .rows 0], rs := z75 }, ann := { calls := [(16, 3), (36, 66), (44, 67)], loops := [(6, { tm := [(29, I6)], bs := z25 }, [(.exit 0, { tm := [], bs := z25 })])] } },
  { fid := 70, sig := { ps := [.ints .u8], rs := [.rows 2, I6, I6] }, ann := { calls := [(15, 68)] } },
  { fid := 71, sig := { ps := [.rows 2], rs := [.bool] }, ann := { calls := [(41, 69)], loops := [(2, { tm := [(8, I6)], bs := [] }, [(.exit 0, { tm := [], bs := [] }), (.ret, { tm := [(2, .bool)], bs := [] })])], joins := [(14, [(.normal, { tm := [(37, .bool)], bs := [.same] })]), (29, [(.normal, { tm := [(5, .str)], bs := [.same] })])] } },
  { fid := 72, sig := { ps := [.ptr 0 0, .agg z49], pb := z27, rs := [I6], rb := z27 }, ann := { calls := [(19, 6), (46, 63), (58, 26), (73, 33)], loops := [(6, { tm := [(37, I6)], bs := z48 }, [(.exit 0, { tm := [], bs := z48 }), (.ret, { tm := [(4, I6)], bs := z48 })])], joins := [(20, [(.normal, { tm := [(60, .bool)], bs := [.same, .same, .same, .same, .same, .same] })])] } },
  { fid := 66, sig := { ps := z54, rs := [.bool] }, ann := { calls := [(5, 70)] } },
  { fid := 79, sig := { ps := z56, rs := [.agg [.arr 0, .rows 1]], rb := z76 }, ann := { calls := [(8, 71), (19, 33)], loops := [(3, { tm := [(13, I6)], bs := z28 }, [(.exit 0, { tm := [], bs := z28 })])] } },
  { fid := 48, sig := { ps := [.ints .u8], rs := [.ints .u8] }, ann := {} },
  { fid := 80, sig := { ps := [.arr 0, I6, .rows 0], pb := z76, rs := [.arr 0], rb := z76 }, ann := {} },
  { fid := 65, sig := { ps := [.rows 1], rs := [.bool] }, ann := { calls := [(6, 72)] } },
  { fid := 92, sig := { ps := [I6], rs := [.arr 0, I6], rb := z72 }, ann := { loops := [(5, { tm := [(0, I6), (4, .arr 1)], bs := z61 }, [(.exit 0, { tm := [(4, .arr 1)], bs := z61 })])], joins := [(2, [(.normal, { tm := [(10, .bool)], bs := [] })])] } },
  { fid := 93, sig := { ps := [.rows 1], rs := [.ints .u8] }, ann := { calls := [(8, 73), (19, 73), (25, 73), (28, 37), (30, 74)], loops := [(3, { tm := [(3, .ints .u8), (11, I6)], bs := [] }, [(.exit 0, { tm := [(3, .ints .u8)], bs := [] })])] } },
  { fid := 94, sig := { ps := [.ints .u8], rs := z74 }, ann := { calls := [(8, 75)] } },
  { fid := 95, sig := { ps := [I6, I6], rs := [.agg [I6, .arr 0], I6], rb := z71 }, ann := { joins := [(2, [(.normal, { tm := [(19, .bool)], bs := [.same] })])] } },
  { fid := 96, sig := { ps := z62, rs := z63, rb := z10, more := [([.nil, .lit .i64 10], [])] }, ann := { calls := [(5, 76), (8, 77)] } },
  { fid := 97, sig := { ps := [.ints .i64], rs := z74 }, ann := { calls := [(11, 78), (15, 79), (24, 80), (27, 81)], loops := [(7, { tm := [(5, .arr 1), (18, I6)], bs := z46 }, [(.exit 0, { tm := [(5, .arr 1)], bs := z46 })])] } },
  { fid := 99, sig := { ps := [I6], rs := [I6] }, ann := {} },
  { fid := 98, sig := { ps := [.ptr 0 0, I6, .agg [.bool, I6]], pb := z10, rs := [I6], rb := z10 }, ann := { calls := [(9, 82), (12, 83), (15, 84), (17, 85), (24, 86), (25, 87)] } },
  { fid := 100, sig := { ps := [.ptr 0 0], pb := z10, rs := [.ints .u8], rb := z12 }, ann := { calls := [(8, 88)], loops := [(5, { tm := [(3, .arr 3), (15, I6)], bs := z42 }, [(.exit 0, { tm := [(3, .arr 3)], bs := z42 }), (.ret, { tm := [(2, .arr 3)], bs := z41 })]), (10, { tm := [(3, .arr 3), (38, I6)], bs := z41 }, [(.exit 2, { tm := [(3, .arr 3)], bs := z41 })])] } },
  { fid := 67, sig := { ps := z54, rs := [.bool] }, ann := { calls := [(5, 89)] } },
  { fid := 68, sig := { ps := [.rows 0], rs := [.bool] }, ann := { calls := [(16, 90)], loops := [(2, { tm := [(3, I6)], bs := [] }, [(.exit 0, { tm := [], bs := [] }), (.ret, { tm := [(2, .bool)], bs := [] })])] } },
  { fid := 69, sig := { ps := [.rows 1], rs := [.bool] }, ann := { calls := [(8, 91)] } },
  { fid := 101, sig := { ps := [I6], rs := [.arr 0, I6], rb := z72 }, ann := { loops := [(5, { tm := [(0, I6), (4, .arr 1)], bs := z61 }, [(.exit 0, { tm := [(4, .arr 1)], bs := z61 })])], joins := [(2, [(.normal, { tm := [(10, .bool)], bs := [] })])] } },
  { fid := 102, sig := { ps := [.rows 1], rs := [.arr 0], rb := z72 }, ann := { calls := [(13, 48), (29, 48), (38, 48), (58, 49)], loops := [(3, { tm := [(3, .arr 0), (5, I6)], bs := z72 }, [(.exit 0, { tm := [(3, .arr 0)], bs := z72 })])] } },
  { fid := 103, sig := { ps := [.ints .u8], rs := z74 }, ann := { calls := [(10, 92)], loops := [(6, { tm := [(6, .arr 0), (7, I6)], bs := z71 }, [(.exit 0, { tm := [(6, .arr 0)], bs := z71 })])] } },
  { fid := 104, sig := { ps := [.ints .i64], rs := z74 }, ann := { calls := [(10, 93), (14, 94), (38, 95)], loops := [(7, { tm := [(5, .ints .i64), (6, .arr 0), (7, I6)], bs := z71 }, [(.exit 0, { tm := [(6, .arr 0)], bs := z71 })]), (10, { tm := [(8, I6)], bs := [.same] }, [(.exit 2, { tm := [(8, I6)], bs := [.same] })])] } },
  { fid := 105, sig := { ps := [I6, I6], rs := [.agg [I6, .arr 0], I6], rb := z71 }, ann := { joins := [(2, [(.normal, { tm := [(19, .bool)], bs := [.same] })])] } },
  { fid := 106, sig := { ps := z62, rs := z63, rb := z22, more := [([.nil, .lit .i64 10], [])] }, ann := { calls := [(5, 96), (8, 97), (9, 98)] } },
  { fid := 108, sig := { ps := [I6], rs := [I6] }, ann := {} },
  { fid := 107, sig := { ps := [.ptr 0 0, I6, .agg [.bool, I6]], pb := z22, rs := [I6], rb := z22 }, ann := { calls := [(10, 99), (14, 100), (18, 101), (22, 102), (42, 103)], loops := [(5, { tm := [(8, I6)], bs := z21 }, [(.exit 0, { tm := [], bs := z21 })])], joins := [(2, [(.normal, { tm := [(20, .bool)], bs := [.box z36, .ints .i64 false, .ints .u8 true, .same] })])] } },
  { fid := 109, sig := { ps := [.ptr 0 0], pb := z22, rs := [.ints .u8], rb := [.box z36, .ints .i64 true, .ints .u8 true] }, ann := { calls := [(15, 104)] } },
  { fid := 110, sig := { ps := z75, rs := [I6, I6, I6] }, ann := { loops := [(4, { tm := [(4, I6), (17, I6)], bs := [] }, [(.exit 0, { tm := [], bs := [] }), (.ret, { tm := [(4, I6), (5, I6), (6, I6)], bs := [] })])], joins := [(2, [(.normal, { tm := [(16, .bool)], bs := [] })]), (22, [(.normal, { tm := [(52, .bool)], bs := [] })])] } },
  { fid := 111, sig := { ps := [.agg [I6, .ints .i64], .ints .u8], rs := z63, rb := z8, more := [([.nil, .lit .i64 10], [])] }, ann := { calls := [(8, 76), (11, 77), (20, 105)], loops := [(5, { tm := [(17, I6)], bs := z2 }, [(.exit 0, { tm := [], bs := z2 })])] } },
  { fid := 112, sig := { ps := z78, pb := z8, rs := [.agg [.bool, I6], I6], rb := z8 }, ann := { calls := [(11, 106), (19, 107), (21, 85), (28, 108)] } },
  { fid := 113, sig := { ps := [.ints .i64], rs := z74 }, ann := { calls := [(10, 78), (14, 79), (24, 81)], loops := [(7, { tm := [(5, .arr 1), (17, I6)], bs := z46 }, [(.exit 0, { tm := [(5, .arr 1)], bs := z46 })])] } },
  { fid := 114, sig := { ps := [.ints .i64], rs := z75 }, ann := { calls := [(75, 109), (97, 75), (99, 110)], loops := [(3, { tm := [(17, I6)], bs := z33 }, [(.exit 0, { tm := [], bs := z33 })]), (10, { tm := [(31, I6)], bs := z33 }, [(.exit 2, { tm := [], bs := z33 })]), (16, { tm := [(49, I6)], bs := z24 }, [(.exit 4, { tm := [], bs := z24 })]), (25, { tm := [(3, I6)], bs := z19 }, [(.normal, { tm := [], bs := z19 }), (.ret, { tm := [], bs := z19 })])] } },
  { fid := 115, sig := { ps := z78, pb := z55, rs := [.ints .u8], rb := z55 }, ann := { calls := [(18, 23)] } },
  { fid := 116, sig := { ps := [.ptr 0 0], pb := z55, rs := [.str], rb := z55 }, ann := { calls := [(6, 22), (10, 23), (13, 62), (17, 70), (18, 23)] } },
  { fid := 117, sig := { ps := z78, pb := z51, rs := [.rows 1], rb := z51 }, ann := { calls := [(9, 111), (41, 112), (44, 111), (49, 64)], loops := [(3, { tm := [(5, .arr 1), (6, I6)], bs := z34 }, [(.exit 0, { tm := [(5, .arr 1)], bs := z34 }), (.ret, { tm := [(4, .rows 1)], bs := z51 })])], joins := [(6, [(.normal, { tm := [(18, .bool)], bs := z77 })]), (12, [(.normal, { tm := [(36, .bool)], bs := z77 })])] } },
  { fid := 118, sig := { ps := [.rows 0, .fn 119 [.ptr 0 0]], pb := [.box [.str]], rs := [I6], rb := [.box [.str]] }, ann := { calls := [(16, 113)], loops := [(2, { tm := [(8, I6)], bs := [.box [.str]] }, [(.exit 0, { tm := [], bs := [.box [.str]] }), (.ret, { tm := [(4, I6)], bs := [.box [.str]] })])] } },
  { fid := 120, sig := { ps := z54, rs := z40 }, ann := { calls := [(9, 14)] } },
  { fid := 121, sig := { ps := [.rows 2], rs := z75 }, ann := { calls := [(11, 114), (21, 115), (34, 116)], loops := [(5, { tm := [(4, I6), (15, I6)], bs := [] }, [(.exit 0, { tm := [(4, I6)], bs := [] })]), (13, { tm := [(7, .arr 0), (28, I6)], bs := z72 }, [(.exit 2, { tm := [(7, .arr 0)], bs := z72 })])] } },
  { fid := 128, sig := { ps := [.ptr 0 0, I6, I6, I6], pb := z51, rs := [.rows 2], rb := z51 }, ann := { calls := [(26, 117)], loops := [(2, { tm := [(1, I6), (9, .arr 1)], bs := z35 }, [(.exit 0, { tm := [(9, .arr 1)], bs := z35 })])], joins := [(4, [(.normal, { tm := [(20, .bool)], bs := z77 })])] } },
  { fid := 129, sig := { ps := [.rows 2, .fn 130 []], rs := [.bool] }, ann := { calls := [(7, 118)] } },
  { fid := 125, sig := { ps := [.str], rs := [.bool] }, ann := { loops := [(2, { tm := [(7, I6)], bs := [] }, [(.exit 0, { tm := [], bs := [] }), (.ret, { tm := [(2, .bool)], bs := [] })])] } },
  { fid := 137, sig := { ps := [.rows 1], rs := [.rows 1] }, ann := { calls := [(9, 15), (14, 25)] } },
  { fid := 124, sig := { ps := [.ptr 0 0, .rows 1, I6], pb := [.box [I6]], rs := [.bool], rb := [.box [I6]] }, ann := { calls := [(53, 72)], loops := [(2, { tm := [(11, I6)], bs := [.box [I6]] }, [(.exit 0, { tm := [], bs := [.box [I6]] }), (.ret, { tm := [(6, .bool)], bs := [.box [I6]] })])] } },
  { fid := 145, sig := { ps := [I6], rs := [.ints .u8] }, ann := { calls := [(7, 36)] } },
  { fid := 146, sig := { ps := [.rows 4], rs := [.arr 0], rb := z72 }, ann := { calls := [(24, 119)], loops := [(3, { tm := [(3, I6), (11, I6)], bs := [] }, [(.exit 0, { tm := [(3, I6)], bs := [] })]), (11, { tm := [(6, .arr 0), (27, I6)], bs := z72 }, [(.exit 2, { tm := [(6, .arr 0)], bs := z72 })])] } },
  { fid := 147, sig := { ps := [.ints .u8], rs := [.ints .i64] }, ann := { calls := [(7, 120)], loops := [(3, { tm := [(10, I6)], bs := z73 }, [(.exit 0, { tm := [], bs := z73 })])] } },
  { fid := 148, sig := { ps := z62, rs := [.bool] }, ann := { loops := [(7, { tm := [(26, I6)], bs := [.same] }, [(.exit 0, { tm := [], bs := [.same] }), (.ret, { tm := [(2, .bool)], bs := [.same] })])], joins := [(2, [(.normal, { tm := [(19, .bool)], bs := [.same] })]), (45, [(.normal, { tm := [(3, I6)], bs := [.same] })])] } },
  { fid := 149, sig := { ps := z62, rs := [.agg [I6, .arr 0, .lit .i64 2048, .lit .i64 1792, .lit .i64 1568, .lit .i64 1372, .lit .i64 1201, .lit .i64 1051, .lit .i64 920, .lit .i64 805, .lit .i64 705, .lit .i64 617, .lit .i64 540, .lit .i64 473, .lit .i64 414, .lit .i64 363, .lit .i64 318, .lit .i64 279, .lit .i64 245, .lit .i64 215, .lit .i64 189, .lit .i64 166, .lit .i64 146, .lit .i64 128, .lit .i64 112, .lit .i64 98, .lit .i64 86, .lit .i64 76, .lit .i64 67, .lit .i64 59, .lit .i64 52, .lit .i64 46, .lit .i64 41, .lit .i64 36, .int .u64, .int .u64]], rb := z71 }, ann := { calls := [(4, 121), (5, 122)] } },
  { fid := 150, sig := { ps := [.ints .i64], rs := [I6] }, ann := { calls := [(9, 123)] } },
  { fid := 151, sig := { rs := [.arr 0], rb := z71 }, ann := { loops := [(3, { tm := [(6, I6)], bs := z73 }, [(.exit 0, { tm := [], bs := z73 })])] } },
  { fid := 152, sig := { ps := z74, rs := [I6] }, ann := { loops := [(2, { tm := [(8, I6)], bs := [] }, [(.exit 0, { tm := [], bs := [] }), (.ret, { tm := [(4, I6)], bs := [] })])] } },
  { fid := 153, sig := { ps := [.arr 0, I6], pb := z71, rs := [I6], rb := z73 }, ann := {} },
  { fid := 154, sig := { ps := [.ptr 0 0, I6, I6], pb := z10, rs := [I6], rb := z11 }, ann := { calls := [(9, 88), (41, 124), (42, 125), (46, 126), (55, 127)], loops := [(6, { tm := [], bs := z11 }, [(.exit 1, { tm := [], bs := z11 })])], joins := [(6, [(.normal, { tm := [(10, .bool)], bs := z67 })]), (15, [(.normal, { tm := [], bs := z67 }), (.ret, { tm := [(6, I6)], bs := z67 })])], orders := [(7, [4, 8], [[0, 1, 2, 3, 4, 5, 6, 7, 8, 9, 10, 11, 12, 13], [0, 1, 2, 3, 5, 6, 7, 8, 4, 9, 10, 11, 12, 13]])] } },
  { fid := 155, sig := { ps := [.agg [.bool, I6]], rs := [.bool] }, ann := {} },
  { fid := 157, sig := { ps := [.ptr 0 0], pb := z10, rs := z62, rb := [.box z16, .ints .i64 false, .ints .u8 true] }, ann := { calls := [(4, 88), (11, 121)] } },
  { fid := 156, sig := { ps := [.agg [I6, .ints .i64], I6, I6], rs := [I6] }, ann := {} },
  { fid := 159, sig := { ps := [I6, .agg [.bool, I6]], rs := [.rows 5] }, ann := { calls := [(30, 128), (68, 129)], loops := [(7, { tm := [(5, .arr 1), (33, I6)], bs := z65 }, [(.exit 0, { tm := [(5, .arr 1)], bs := z65 })]), (15, { tm := [(5, .arr 1), (10, I6)], bs := [.same, .rows 5 false, .box [I6]] }, [(.exit 2, { tm := [(5, .arr 1)], bs := [.same, .rows 5 false, .box [I6]] })])], joins := [(93, [(.normal, { tm := [(5, .arr 1)], bs := z65 })]), (135, [(.normal, { tm := [(11, I6)], bs := [.same, .same, .box [I6]] })]), (177, [(.normal, { tm := [], bs := [.same, .same, .same, .box [I6, I6]] })])] } },
  { fid := 158, sig := { ps := [.ptr 0 0, .rows 5], pb := z10, rs := [I6], rb := z11 }, ann := { calls := [(19, 82)], loops := [(2, { tm := [(10, I6)], bs := z11 }, [(.exit 0, { tm := [], bs := z11 }), (.ret, { tm := [(4, I6)], bs := z11 })])] } },
  { fid := 160, sig := { ps := [.ptr 0 0], pb := z10, rs := [.bool], rb := z12 }, ann := {} },
  { fid := 126, sig := { ps := [.str], rs := [.bool] }, ann := { loops := [(4, { tm := [(3, I6)], bs := [] }, [(.exit 0, { tm := [], bs := [] }), (.ret, { tm := [(2, .bool)], bs := [] })])], joins := [(2, [(.normal, { tm := [(12, .bool)], bs := [] })])] } },
  { fid := 39, sig := { ps := [.rows 0, .str], rs := [I6] }, ann := { loops := [(2, { tm := [(5, I6)], bs := [] }, [(.exit 0, { tm := [], bs := [] }), (.ret, { tm := [(4, I6)], bs := [] })])] } },
  { fid := 127, sig := { ps := [.rows 1], rs := [I6, I6, .bool] }, ann := { calls := [(24, 91)], loops := [(3, { tm := [(5, I6), (6, I6), (7, .bool), (8, I6)], bs := [] }, [(.exit 0, { tm := [(5, I6), (6, I6), (7, .bool)], bs := [] })])] } },
  { fid := 161, sig := { ps := [.ints .u8], rs := z74 }, ann := { calls := [(21, 130)], loops := [(5, { tm := [(4, .arr 0), (5, I6)], bs := z71 }, [(.exit 0, { tm := [(4, .arr 0)], bs := z71 })])] } },
  { fid := 162, sig := { ps := [.ints .i64], rs := [I6] }, ann := { loops := [(4, { tm := [(3, I6)], bs := [] }, [(.exit 0, { tm := [], bs := [] }), (.ret, { tm := [(2, I6)], bs := [] })])] } },
  { fid := 163, sig := { rs := [.ints .i64] }, ann := { loops := [(3, { tm := [(2, I6)], bs := z73 }, [(.exit 0, { tm := [], bs := z73 })])] } },
  { fid := 164, sig := { ps := z74, rs := [.ints .i64] }, ann := {} },
  { fid := 165, sig := { ps := z62, rs := [.bool] }, ann := { loops := [(7, { tm := [(26, I6)], bs := [.same] }, [(.exit 0, { tm := [], bs := [.same] }), (.ret, { tm := [(2, .bool)], bs := [.same] })])], joins := [(8, [(.normal, { tm := [(22, .bool)], bs := [.same] })]), (17, [(.normal, { tm := [(3, I6)], bs := [.same] })])] } },
  { fid := 166, sig := { ps := z62, rs := [.agg [I6, .arr 0]], rb := z71 }, ann := {} },
  { fid := 167, sig := { rs := z52 }, ann := {} },
  { fid := 168, sig := { ps := [.agg [.bool, I6]], rs := [.bool] }, ann := {} },
  { fid := 170, sig := { ps := [.ptr 0 0], pb := z22, rs := z62, rb := [.box z36, .ints .i64 false, .ints .u8 true] }, ann := { calls := [(10, 97)] } },
  { fid := 169, sig := { ps := [I6, I6, I6], rs := [.bool] }, ann := {} },
  { fid := 171, sig := { ps := [.agg [.bool, I6]], rs := [.rows 5] }, ann := { loops := [(9, { tm := [(6, .arr 2), (7, I6)], bs := [.same, .same, .ints .i64 false] }, [(.exit 0, { tm := [(6, .arr 2)], bs := [.same, .same, .ints .i64 false] })]), (14, { tm := [(3, .arr 1), (9, I6)], bs := z53 }, [(.exit 2, { tm := [(3, .arr 1)], bs := z53 })]), (20, { tm := [(3, .arr 1), (10, I6)], bs := z53 }, [(.exit 4, { tm := [(3, .arr 1)], bs := z53 })])], joins := [(43, [(.normal, { tm := [(4, I6), (5, I6)], bs := z77 })]), (101, [(.normal, { tm := [(3, .arr 1)], bs := z53 })]), (133, [(.normal, { tm := [(11, I6)], bs := z67 })])] } },
  { fid := 172, sig := { ps := [.ptr 0 0, I6, I6], pb := z22, rs := [I6], rb := z23 }, ann := { calls := [(43, 131), (51, 132), (74, 133), (80, 134), (102, 135)], loops := [(8, { tm := [], bs := z23 }, [(.exit 0, { tm := [], bs := z23 })])], joins := [(6, [(.normal, { tm := [(29, .bool)], bs := z67 })])] } },
  { fid := 173, sig := { ps := z52, rs := [.ints .u8] }, ann := { loops := [(3, { tm := [(3, .arr 1), (4, .int .u64)], bs := z60 }, [(.exit 0, { tm := [(3, .arr 1)], bs := z60 })])] } },
  { fid := 174, sig := { ps := [.ptr 0 0], pb := [.box z13, .ints .i64 false, .ints .u8 false], rb := z3 }, ann := { joins := [(25, [(.normal, { tm := [(2, .int .u8)], bs := z3 })])] } },
  { fid := 175, sig := { ps := z78, pb := z8, rs := [I6, I6], rb := z8 }, ann := { calls := [(12, 136), (36, 137), (61, 138), (65, 139), (69, 140), (71, 141)], loops := [(12, { tm := [], bs := z7 }, [(.exit 1, { tm := [], bs := z7 })])], joins := [(6, [(.normal, { tm := [(13, .bool)], bs := z77 })]), (21, [(.normal, { tm := [], bs := z77 }), (.ret, { tm := [(4, I6), (5, I6)], bs := z77 })]), (85, [(.normal, { tm := [(6, I6)], bs := z77 })])] } },
  { fid := 176, sig := { ps := [.ptr 0 0], pb := z8, rs := z62, rb := z8 }, ann := { calls := [(4, 136), (11, 121)] } },
  { fid := 177, sig := { ps := z78, pb := z8, rs := [.agg [.bool, I6], I6], rb := z8 }, ann := { calls := [(16, 106), (37, 106), (57, 129), (63, 106), (85, 106)], loops := [(5, { tm := [(8, I6)], bs := z4 }, [(.exit 0, { tm := [(8, I6)], bs := z4 }), (.ret, { tm := [(5, I6)], bs := z4 })]), (14, { tm := [(9, I6), (50, I6)], bs := z1 }, [(.exit 2, { tm := [(9, I6)], bs := z1 }), (.ret, { tm := [(5, I6)], bs := z1 })])], joins := [(4, [(.normal, { tm := [(24, .bool)], bs := z67 })]), (113, [(.normal, { tm := [(12, I6)], bs := [.same, .same, .same, .box [I6]] })])] } },
  { fid := 178, sig := { ps := [.arr 0], pb := z72, rs := [.fn 218 [.ptr 1 0]], rb := [.ints .u8 true, .box [.arr 0]] }, ann := {} },
  { fid := 179, sig := { ps := [.ints .i64, .ints .i64], rs := [.bool] }, ann := { loops := [(4, { tm := [(13, I6)], bs := [] }, [(.exit 0, { tm := [], bs := [] }), (.ret, { tm := [(4, .bool)], bs := [] })])] } },
  { fid := 180, sig := { ps := [.ptr 0 0, I6, I6], pb := z51, rs := [I6], rb := z51 }, ann := { calls := [(24, 57)], joins := [(8, [(.normal, { tm := [(39, .bool)], bs := [.same] })]), (79, [(.normal, { tm := [(9, I6)], bs := [.same] })])] } },
  { fid := 181, sig := { ps := [.ptr 0 0], pb := z51, rs := [.str], rb := z51 }, ann := { calls := [(5, 111)], joins := [(4, [(.normal, { tm := [(24, .bool)], bs := [.same] })]), (49, [(.normal, { tm := [], bs := z51 })])] } },
  { fid := 119, sig := { ps := [.agg z68, .ptr 0 0], pb := [.box [.str]], rs := [.bool], rb := [.box [.str]] }, ann := {} },
  { fid := 182, sig := { ps := [.rows 2], rs := [.bool] }, ann := { calls := [(6, 142)] } },
  { fid := 183, sig := { ps := z40, rs := [I6] }, ann := { calls := [(4, 143)] } },
  { fid := 184, sig := { ps := [.arr 0, .agg z49], pb := z72, rs := [.arr 0], rb := z72 }, ann := { calls := [(9, 143), (44, 116)], loops := [(7, { tm := [(0, .arr 0), (38, I6)], bs := z50 }, [(.exit 0, { tm := [(0, .arr 0)], bs := z50 })])], joins := [(61, [(.normal, { tm := [(0, .arr 0)], bs := z50 })])] } },
  { fid := 188, sig := { ps := [.ptr 0 0, I6, I6, I6], pb := z51, rs := [.agg z49, I6], rb := z51 }, ann := { calls := [(17, 144), (37, 145), (47, 145), (82, 145), (95, 146), (103, 68), (112, 147), (123, 145), (135, 145)], loops := [(7, { tm := [(10, I6), (62, I6)], bs := z77 }, [(.exit 0, { tm := [(10, I6)], bs := z77 })])], joins := [(6, [(.normal, { tm := [(49, .bool)], bs := z43 })]), (38, [(.normal, { tm := [(124, .bool)], bs := z43 })]), (183, [(.normal, { tm := [], bs := [.box z64, .box z49] })])] } },
  { fid := 189, sig := { ps := [.rows 2, .fn 130 []], rs := [I6] }, ann := { calls := [(16, 148)], loops := [(2, { tm := [(8, I6)], bs := [] }, [(.exit 0, { tm := [], bs := [] }), (.ret, { tm := [(4, I6)], bs := [] })])] } },
  { fid := 199, sig := { ps := [.nilsl, I6], rs := [.arr 0], rb := z72 }, ann := { cuts := [25] } },
  { fid := 200, sig := { ps := [.ints .u8], rs := [.arr 0], rb := z71 }, ann := { calls := [(21, 149)], loops := [(3, { tm := [(11, I6)], bs := [.same, .ints .i64 true] }, [(.exit 0, { tm := [], bs := [.same, .ints .i64 true] })])] } },
  { fid := 201, sig := { ps := z62, rs := [.agg [I6, .arr 0]], rb := z71 }, ann := {} },
  { fid := 202, sig := { rs := [.agg z17] }, ann := { unroll := [(4, 1000)] } },
  { fid := 203, sig := { ps := [.ints .i64, .fn 204 []], rs := [.bool] }, ann := { calls := [(7, 150)] } },
  { fid := 206, sig := { ps := z78, pb := z10, rs := [.int .u64], rb := z12 }, ann := { calls := [(33, 151)] } },
  { fid := 205, sig := { ps := [.ptr 0 0, I6, I6, .int .u64], pb := z10, rb := z12 }, ann := { calls := [(39, 152)], joins := [(19, [(.normal, { tm := [], bs := z12 })])] } },
  { fid := 207, sig := { ps := [.ptr 0 0], pb := z10, rs := [.bool], rb := z12 }, ann := {} },
  { fid := 208, sig := { ps := [.ptr 0 0], pb := z10, rs := [.int .u8], rb := z12 }, ann := {} },
  { fid := 209, sig := { ps := [.int .u64], rs := [I6] }, ann := { calls := [(7, 153)] } },
  { fid := 210, sig := { ps := [.ptr 0 0], pb := [.box [I6]], rs := [I6], rb := [.box [I6]] }, ann := {} },
  { fid := 211, sig := { ps := [.ints .u8, .ints .i64], rs := [.ints .i64] }, ann := { calls := [(20, 130), (27, 130), (57, 154)], loops := [(6, { tm := [(7, .arr 0), (8, I6), (9, I6)], bs := z71 }, [(.exit 0, { tm := [(7, .arr 0)], bs := z71 })])], joins := [(12, [(.normal, { tm := [(37, .bool)], bs := [.same] })]), (14, [(.normal, { tm := [(59, .bool)], bs := [.same] })])] } },
  { fid := 212, sig := { ps := [I6, I6], rs := [I6] }, ann := { calls := [(12, 155), (18, 155)] } },
  { fid := 213, sig := { ps := [.agg z66, I6, I6], rs := z52 }, ann := { calls := [(13, 156), (17, 156)] } },
  { fid := 214, sig := { ps := [I6, I6, I6], rs := [I6] }, ann := { joins := [(95, [(.normal, { tm := [], bs := [.box [I6, I6]] })])] } },
  { fid := 215, sig := { ps := z52, rs := [.bool] }, ann := {} },
  { fid := 216, sig := { ps := z52, rs := z52 }, ann := {} },
  { fid := 217, sig := { ps := [.ptr 0 0], pb := z8, rs := [.bool], rb := z9 }, ann := {} },
  { fid := 206, sig := { ps := z78, pb := z8, rs := [.int .u64], rb := z9 }, ann := { calls := [(33, 151)] } },
  { fid := 205, sig := { ps := [.ptr 0 0, I6, I6, .int .u64], pb := z8, rb := z9 }, ann := { calls := [(39, 152)], joins := [(19, [(.normal, { tm := [], bs := z9 })])] } },
  { fid := 207, sig := { ps := [.ptr 0 0], pb := z8, rs := [.bool], rb := z9 }, ann := {} },
  { fid := 208, sig := { ps := [.ptr 0 0], pb := z8, rs := [.int .u8], rb := z9 }, ann := {} },
  { fid := 174, sig := { ps := [.ptr 0 0], pb := z8, rb := z9 }, ann := { joins := [(25, [(.normal, { tm := [(2, .int .u8)], bs := z9 })])] } },
  { fid := 219, sig := { ps := [.ptr 0 0, .rows 2, I6], pb := [.box [I6]], rs := [.bool], rb := [.box [I6]] }, ann := { calls := [(34, 157), (42, 158), (56, 142)], loops := [(2, { tm := [(11, I6)], bs := [.box [I6]] }, [(.exit 0, { tm := [], bs := [.box [I6]] }), (.ret, { tm := [(6, .bool)], bs := [.box [I6]] })])], joins := [(10, [(.normal, { tm := [(36, .bool)], bs := z77 })])] } },
  { fid := 220, sig := { ps := z40, rs := [I6] }, ann := { calls := [(21, 115)], loops := [(5, { tm := [(3, I6), (15, I6)], bs := [.same] }, [(.exit 0, { tm := [(3, I6)], bs := [.same] })])] } },
  { fid := 223, sig := { ps := [.ptr 0 0, I6, I6, .fn 224 []], pb := z51, rs := [.str], rb := z51 }, ann := { calls := [(16, 145), (30, 157), (32, 145)] } },
  { fid := 225, sig := { ps := [.ptr 0 0, .bool, I6, I6], pb := z51, rs := [.bool], rb := z51 }, ann := { joins := [(2, [(.normal, { tm := [(17, .bool)], bs := [.same] })])] } },
  { fid := 223, sig := { ps := [.ptr 0 0, I6, I6, .fn 226 []], pb := z51, rs := [.str], rb := z51 }, ann := { calls := [(16, 145), (30, 158), (32, 145)] } },
  { fid := 227, sig := { ps := [.ints .u8], rs := [.ints .u8] }, ann := {} },
  { fid := 130, sig := { ps := z40, rs := [.bool] }, ann := {} },
  { fid := 240, sig := { ps := [.arr 0, .fn 241 [.ptr 1 0]], pb := z44, rb := z47 }, ann := { calls := [(11, 128), (13, 159)] } },
  { fid := 198, sig := { ps := [.ints .i64, .fn 204 []], rs := [I6] }, ann := { calls := [(16, 160)], loops := [(2, { tm := [(8, I6)], bs := [] }, [(.exit 0, { tm := [], bs := [] }), (.ret, { tm := [(4, I6)], bs := [] })])] } },
  { fid := 244, sig := { ps := [.agg z17, I6, I6], rs := [I6] }, ann := {} },
  { fid := 243, sig := { ps := [I6, I6, I6], rs := [I6] }, ann := { joins := [(41, [(.normal, { tm := [], bs := [.box [I6, I6]] })])] } },
  { fid := 246, sig := { ps := [.int .u64], rs := [I6] }, ann := { joins := [(9, [(.normal, { tm := z58, bs := [] })]), (17, [(.normal, { tm := z58, bs := [] })]), (29, [(.normal, { tm := z58, bs := [] })])] } },
  { fid := 247, sig := { ps := z69, rs := [.bool] }, ann := {} },
  { fid := 248, sig := { ps := [I6], rs := [I6] }, ann := { loops := [(3, { tm := [(3, I6), (4, I6)], bs := [] }, [(.exit 0, { tm := [(3, I6)], bs := [] })])] } },
  { fid := 249, sig := { ps := [.agg z66, I6], rs := [.int .u64] }, ann := {} },
  { fid := 224, sig := { ps := [.str], rs := [.bool] }, ann := { loops := [(4, { tm := [(8, I6)], bs := [] }, [(.exit 0, { tm := [], bs := [] }), (.ret, { tm := [(2, .bool)], bs := [] })])] } },
  { fid := 226, sig := { ps := [.str], rs := [.bool] }, ann := { calls := [(4, 157)] } },
  { fid := 255, sig := { ps := z38, pb := z44, rb := z47 }, ann := { calls := [(30, 161), (37, 162), (44, 163), (52, 164), (61, 165), (80, 166), (94, 167), (103, 168), (111, 169), (134, 159), (146, 159)], loops := [(2, { tm := [(1, I6), (2, I6), (3, I6), (10, .bool), (11, .bool)], bs := z47 }, [(.ret, { tm := [], bs := z47 })])], joins := [(30, [(.normal, { tm := [(75, .bool)], bs := z77 })]), (34, [(.normal, { tm := [(97, .bool)], bs := z59 })]), (79, [(.normal, { tm := [(3, I6)], bs := z47 })]), (113, [(.normal, { tm := [(13, I6), (14, I6)], bs := z47 })]), (151, [(.normal, { tm := [], bs := z47 }), (.ret, { tm := [], bs := z47 })])] } },
  { fid := 204, sig := { ps := [I6], rs := [.bool] }, ann := {} },
  { fid := 257, sig := { ps := z45, pb := z44, rb := z47 }, ann := { calls := [(32, 167)], loops := [(1, { tm := [(8, I6)], bs := z47 }, [(.exit 0, { tm := [], bs := z47 })]), (4, { tm := [(9, I6)], bs := z47 }, [(.exit 2, { tm := [], bs := z47 })])], joins := [(8, [(.normal, { tm := [(34, .bool)], bs := z59 })])] } },
  { fid := 258, sig := { ps := z45, pb := z44, rb := z47 }, ann := { calls := [(29, 170), (59, 170)], loops := [(4, { tm := [(11, I6)], bs := z47 }, [(.exit 0, { tm := [], bs := z47 })]), (8, { tm := [(12, I6)], bs := z47 }, [(.exit 2, { tm := [], bs := z47 })])] } },
  { fid := 259, sig := { ps := z45, pb := z44, rb := z47 }, ann := { calls := [(21, 171), (38, 172)], loops := [(5, { tm := [(11, I6)], bs := z37 }, [(.exit 0, { tm := [], bs := z37 })])], joins := [(91, [(.normal, { tm := [(12, I6)], bs := z67 })])] } },
  { fid := 260, sig := { ps := z45, pb := z44, rs := [I6, I6], rb := z47 }, ann := { calls := [(40, 173), (44, 173), (48, 173), (54, 174)], joins := [(69, [(.normal, { tm := [(13, I6)], bs := z31 })]), (73, [(.normal, { tm := [(12, I6), (13, I6), (14, I6)], bs := z31 })])] } },
  { fid := 261, sig := { ps := z45, pb := z44, rb := z47 }, ann := { loops := [(2, { tm := [(8, I6), (9, I6)], bs := [.ints .i64 true, .same] }, [(.exit 0, { tm := [], bs := [.ints .i64 true, .same] })])] } },
  { fid := 262, sig := { ps := z45, pb := z44, rs := [.bool], rb := z47 }, ann := { calls := [(33, 167), (82, 167), (122, 167)], loops := [(3, { tm := [(9, I6), (10, I6)], bs := z47 }, [(.exit 0, { tm := [], bs := z47 }), (.ret, { tm := [(8, .bool)], bs := z47 })]), (5, { tm := [(9, I6)], bs := z59 }, [(.exit 2, { tm := [(9, I6)], bs := z59 })]), (14, { tm := [(11, I6)], bs := z47 }, [(.exit 4, { tm := [], bs := z47 })]), (20, { tm := [(12, I6)], bs := z47 }, [(.exit 6, { tm := [], bs := z47 })])], joins := [(131, [(.normal, { tm := [], bs := z47 })])] } },
  { fid := 241, sig := { ps := [I6, I6, .ptr 0 0], pb := [.box [.ints .u8]], rs := [I6], rb := [.box [.ints .u8]] }, ann := { calls := [(12, 175)] } },
  { fid := 263, sig := { ps := z38, pb := z44, rs := [I6], rb := z47 }, ann := { calls := [(44, 167), (63, 167)], loops := [(3, { tm := [(11, I6)], bs := z59 }, [(.exit 2, { tm := [(11, I6)], bs := z59 })]), (5, { tm := [(12, I6)], bs := z59 }, [(.exit 4, { tm := [(12, I6)], bs := z59 })]), (1000003, { tm := [(11, I6), (12, I6)], bs := z47 }, [(.exit 0, { tm := [(11, I6)], bs := z47 })])] } },
  { fid := 264, sig := { ps := z38, pb := z44, rs := [I6, .bool], rb := z47 }, ann := { calls := [(45, 167), (63, 167), (118, 167), (136, 167)], loops := [(3, { tm := [(12, I6)], bs := z59 }, [(.exit 0, { tm := [(12, I6)], bs := z59 })]), (5, { tm := [(13, I6)], bs := z59 }, [(.exit 2, { tm := [(13, I6)], bs := z59 })]), (13, { tm := [(12, I6)], bs := z59 }, [(.exit 6, { tm := [(12, I6)], bs := z59 })]), (15, { tm := [(13, I6)], bs := z59 }, [(.exit 8, { tm := [(13, I6)], bs := z59 })]), (1000013, { tm := [(12, I6), (13, I6)], bs := z47 }, [(.exit 4, { tm := [(13, I6)], bs := z47 })])] } },
  { fid := 265, sig := { ps := z38, pb := z44, rb := z47 }, ann := { calls := [(38, 167), (56, 167)], loops := [(1, { tm := [(10, I6)], bs := z47 }, [(.exit 0, { tm := [], bs := z47 }), (.ret, { tm := [], bs := z47 })])], joins := [(6, [(.normal, { tm := [(40, .bool)], bs := z59 })]), (81, [(.normal, { tm := [(11, I6)], bs := z77 })])] } },
  { fid := 266, sig := { ps := [I6], rs := [.int .u64] }, ann := { calls := [(5, 128)] } },
  { fid := 267, sig := { ps := [.ptr 0 0], pb := [.box [.int .u64]], rs := [.int .u64], rb := [.box [.int .u64]] }, ann := {} },
  { fid := 268, sig := { ps := [.arr 0, I6, .ptr 1 0, .fn 241 [.ptr 2 0]], pb := z30, rs := [I6], rb := z32 }, ann := { calls := [(17, 174)] } },
  { fid := 269, sig := { ps := [.arr 0, I6, I6, I6, .ptr 1 0, .fn 241 [.ptr 2 0]], pb := z30, rs := [I6], rb := z32 }, ann := { calls := [(19, 176), (28, 176), (37, 176)] } },
  { fid := 242, sig := { ps := [.ints .u8, .ints .u8], rs := [I6] }, ann := {} },
  { fid := 270, sig := { ps := [.arr 0, I6, I6, .ptr 1 0, .fn 241 [.ptr 2 0]], pb := z30, rs := [I6, I6], rb := z32 }, ann := { calls := [(21, 167)] } }]
noncomputable def G : Prg := { P := Tryz.prog, E := E, el := fun t => lookN t els, F := fun i => (getL insts i).getD { fid := 0, sig := {}, ann := {} }, cmp := fun f => Nat.beq f 256, ents := [(98, 3)] }
theorem B959 : ∀ {l : List (PV TT)} {x : File}, inn0 l = some x -> Sames (E := E) l (outs0 x)
  | [], _, h => by cases h
  | [_], _, h => by cases h
  | [_, _], _, h => by cases h
  | [_, _, _], _, h => by
    simp only [inn0] at h
    obtain ⟨y0, h0, h⟩ := A30.1 h; obtain ⟨y1, h1, h⟩ := A30.1 h; obtain ⟨y2, h2, h⟩ := A30.1 h; cases h; exact .cons (V.asStr_same h0) (.cons (V.asInt_same h1) (.cons (V.asInts_same h2) (.nil)))
  | _ :: _ :: _ :: _ :: _, _, h => by cases h
theorem B960 : ∀ {l : List (PV TT)} {x : Outline}, inn1 l = some x -> Sames (E := E) l (outs1 x)
  | [], _, h => by cases h
  | [_], _, h => by cases h
  | [_, _], _, h => by cases h
  | [_, _, _], _, h => by
    simp only [inn1] at h
    obtain ⟨y0, h0, h⟩ := A30.1 h; obtain ⟨y1, h1, h⟩ := A30.1 h; obtain ⟨y2, h2, h⟩ := A30.1 h; cases h; exact .cons (V.asStr_same h0) (.cons (V.asInt_same h1) (.cons (V.asRows_same h2) (.nil)))
  | _ :: _ :: _ :: _ :: _, _, h => by cases h
theorem B961 : ∀ {l : List (PV TT)} {x : Chunk}, inn2 l = some x -> Sames (E := E) l (outs2 x)
  | [], _, h => by cases h
  | [_], _, h => by cases h
  | [_, _], _, h => by cases h
  | [_, _, _], _, h => by cases h
  | [_, _, _, _], _, h => by
    simp only [inn2] at h
    obtain ⟨y0, h0, h⟩ := A30.1 h; obtain ⟨y1, h1, h⟩ := A30.1 h; obtain ⟨y2, h2, h⟩ := A30.1 h; obtain ⟨y3, h3, h⟩ := A30.1 h; cases h; exact .cons (V.asStr_same h0) (.cons (V.asStr_same h1) (.cons (V.asInts_same h2) (.cons (V.asRows_same h3) (.nil))))
  | _ :: _ :: _ :: _ :: _ :: _, _, h => by cases h
theorem B962 : ∀ {l : List (PV TT)} {x : Entuint8}, inn3 l = some x -> Sames (E := E) l (outs3 x)
  | [], _, h => by cases h
  | [_], _, h => by cases h
  | [_, _], _, h => by
    simp only [inn3] at h
    obtain ⟨y0, h0, h⟩ := A30.1 h; obtain ⟨y1, h1, h⟩ := A30.1 h; cases h; exact .cons (V.asStr_same h0) (.cons (V.asInts_same h1) (.nil))
  | _ :: _ :: _ :: _, _, h => by cases h
theorem B963 : ∀ {l : List (PV TT)} {x : List Int}, inn4 l = some x -> Sames (E := E) l (outs4 x)
  | [], _, h => by cases h
  | [_], _, h => by
    simp only [inn4] at h
    obtain ⟨y0, h0, h⟩ := A30.1 h; cases h; exact .cons (V.asInts_same h0) (.nil)
  | _ :: _ :: _, _, h => by cases h
theorem B964 : ∀ {l : List (PV TT)} {x : Event}, inn5 l = some x -> Sames (E := E) l (outs5 x)
  | [], _, h => by cases h
  | [_], _, h => by cases h
  | [_, _], _, h => by
    simp only [inn5] at h
    obtain ⟨y0, h0, h⟩ := A30.1 h; obtain ⟨y1, h1, h⟩ := A30.1 h; cases h; exact .cons (V.asInt_same h0) (.cons (V.asInt_same h1) (.nil))
  | _ :: _ :: _ :: _, _, h => by cases h
theorem envOk : EnvOk E := by
  refine EnvOk.of ?_ ?_ ?_
  . intro i l x h
    match i, x, h with
    | 0, x, h => exact B959 h
    | 1, x, h => exact B960 h
    | 2, x, h => exact B961 h
    | 3, x, h => exact B962 h
    | 4, x, h => exact B963 h
    | 5, x, h => exact B964 h
    | i + 6, x, h => cases h
  . intro i x
    match i, x with
    | 0, x => rfl
    | 1, x => rfl
    | 2, x => rfl
    | 3, x => rfl
    | 4, x => rfl
    | 5, x => rfl
    | i + 6, x => rfl
  . intro i x p hf hp
    match i, x with
    | 0, x => exact absurd hf (by decide)
    | 1, x => exact absurd hf (by decide)
    | 2, x => exact absurd hf (by decide)
    | 3, x => exact absurd hf (by decide)
    | 4, x => exact absurd hf (by decide)
    | 5, x => exact B596 (.inl ⟨_, _, rfl⟩) (B596 (.inl ⟨_, _, rfl⟩) (B909)) p hp
    | i + 6, x => exact absurd hf (by simp [E, getL])
theorem elsOk : els.all (okEl G) = true := by kernel_rfl
theorem prgOk : PrgOk G := .of envOk els (fun _ => rfl) elsOk (by kernel_rfl) (fun f h => by have h := B6 (show Nat.beq f 256 = true from h); subst h; exact ⟨_, rfl, by kernel_rfl, by kernel_rfl, by kernel_rfl, by kernel_rfl⟩)
noncomputable def bulk0 (x : File) : Nat := (x.name.length + 1) + (1 + ((x.data.length + 1) + 0))
mutual
noncomputable def bulk1 : Outline -> Nat
  | .mk title page kids => (title.length + 1) + (1 + ((bulkL1 kids + 1) + 0))
noncomputable def bulkL1 : List Outline -> Nat
  | [] => 0
  | x :: l => bulk1 x + bulkL1 l
end
mutual
noncomputable def bulk2 : Chunk -> Nat
  | .mk id kind data kids => (id.length + 1) + ((kind.length + 1) + ((data.length + 1) + ((bulkL2 kids + 1) + 0)))
noncomputable def bulkL2 : List Chunk -> Nat
  | [] => 0
  | x :: l => bulk2 x + bulkL2 l
end
noncomputable def bulk3 (x : Entuint8) : Nat := (x.key.length + 1) + ((x.val.length + 1) + 0)
noncomputable def bulk4 (x : List Int) : Nat := (x.length + 1) + 0
noncomputable def bulk5 (x : Event) : Nat := 1 + (1 + 0)
noncomputable def bulk : (i : Nat) -> TT i -> Nat
  | 0, x => bulk0 x
  | 1, x => bulk1 x
  | 2, x => bulk2 x
  | 3, x => bulk3 x
  | 4, x => bulk4 x
  | 5, x => bulk5 x
  | _, _ => 0
theorem B892 (x : File) : bulk0 x = B29 bulk (outs0 x) := by simp only [bulk0, outs0, B29, bulkP] <;> rfl
theorem B394 : ∀ l : List Outline, bulkL1 l = sumL bulk1 l
  | [] => by simp only [bulkL1, sumL]
  | x :: l => by simp only [bulkL1, sumL, B394 l]
theorem B893 : ∀ x : Outline, bulk1 x = B29 bulk (outs1 x)
  | .mk title page kids => by have e2 := B343 (b := bulk) (i := 1) (f := bulk1) (fun _ => rfl) kids; simp only [bulk1, outs1, B29, bulkP, B394, e2] <;> rfl
theorem B580 : ∀ l : List Chunk, bulkL2 l = sumL bulk2 l
  | [] => by simp only [bulkL2, sumL]
  | x :: l => by simp only [bulkL2, sumL, B580 l]
theorem B894 : ∀ x : Chunk, bulk2 x = B29 bulk (outs2 x)
  | .mk id kind data kids => by have e3 := B343 (b := bulk) (i := 2) (f := bulk2) (fun _ => rfl) kids; simp only [bulk2, outs2, B29, bulkP, B580, e3] <;> rfl
theorem B895 (x : Entuint8) : bulk3 x = B29 bulk (outs3 x) := by simp only [bulk3, outs3, B29, bulkP] <;> rfl
theorem B896 (x : List Int) : bulk4 x = B29 bulk (outs4 x) := by simp only [bulk4, outs4, B29, bulkP] <;> rfl
theorem B897 (x : Event) : bulk5 x = B29 bulk (outs5 x) := by simp only [bulk5, outs5, B29, bulkP] <;> rfl
theorem B999 : RowsOk G bulk where
  bulk i x := by
    match i, x with
    | 0, x => exact B892 x
    | 1, x => exact B893 x
    | 2, x => exact B894 x
    | 3, x => exact B895 x
    | 4, x => exact B896 x
    | 5, x => exact B897 x
    | i + 6, x => rfl
  int e k h := ⟨(prgOk.int e k h).1, B532 elsOk h⟩
  row e i h := by
    have hc := B532 elsOk h
    have hm := B229 h
    simp only [els, A16, A68, A69, A31, reduceCtorEq, and_false, false_or, EK.row.injEq] at hm
    rcases hm with ⟨rfl, rfl⟩ | ⟨rfl, rfl⟩ | ⟨rfl, rfl⟩ | ⟨rfl, rfl⟩ | ⟨rfl, rfl⟩
    . refine ⟨8, [.ints .u8], by kernel_rfl, hc, by decide, fun ps h => ?_⟩
      obtain ⟨y0, r0, rfl, h0⟩ := B290 h; cases B207 h0; exact ⟨y0, rfl⟩
    . refine ⟨8, [.str, .int .i64, .ints .u8], by kernel_rfl, hc, by decide, fun ps h => ?_⟩
      obtain ⟨y0, r0, rfl, h0⟩ := B266 h; obtain ⟨y1, r1, rfl, h1⟩ := B265 h0; obtain ⟨y2, r2, rfl, h2⟩ := B290 h1; cases B207 h2; exact ⟨⟨y0, y1, y2⟩, rfl⟩
    . refine ⟨8, [.str, .str, .ints .u8, .rows 2], by kernel_rfl, hc, by decide, fun ps h => ?_⟩
      obtain ⟨y0, r0, rfl, h0⟩ := B266 h; obtain ⟨y1, r1, rfl, h1⟩ := B266 h0; obtain ⟨y2, r2, rfl, h2⟩ := B290 h1; obtain ⟨y3, r3, rfl, h3⟩ := B225 h2; cases B207 h3; exact ⟨⟨y0, y1, y2, y3⟩, rfl⟩
    . refine ⟨8, [.str, .int .i64, .rows 1], by kernel_rfl, hc, by decide, fun ps h => ?_⟩
      obtain ⟨y0, r0, rfl, h0⟩ := B266 h; obtain ⟨y1, r1, rfl, h1⟩ := B265 h0; obtain ⟨y2, r2, rfl, h2⟩ := B225 h1; cases B207 h2; exact ⟨⟨y0, y1, y2⟩, rfl⟩
    . refine ⟨8, [.int .i64, .int .i64], by kernel_rfl, hc, by decide, fun ps h => ?_⟩
      obtain ⟨y0, r0, rfl, h0⟩ := B265 h; obtain ⟨y1, r1, rfl, h1⟩ := B265 h0; cases B207 h1; exact ⟨⟨y0, y1⟩, rfl⟩
noncomputable def Z0 (b1 : List File) (b2 : List Outline) : Option Bool := call G 0 (b1, b2)
noncomputable def Z1 (b1 : List File) (b2 : List Outline) : Option Bool := call G 1 (b1, b2)
noncomputable def Z2 : Option Bool := call G 2 ()
noncomputable def Z3 (b1 : List File) (b2 : List Outline) : Option ((List Int) × Int) := call G 3 (b1, b2)
noncomputable def Z4 (b1 : List File) (b2 : List Outline) : Option ((List Int) × Int) := call G 4 (b1, b2)
noncomputable def Z5 (a1 b2 : List Int) : Option Bool := call G 5 (a1, b2)
noncomputable def Z6 (d1 : List Int) : Option ((List Int) × (List Outline) × Int × (List File)) := call G 6 d1
noncomputable def Z7 (a1 b2 : List Outline) : Option Bool := call G 7 (a1, b2)
noncomputable def Z8 (a1 : List Int) (a2 : Int) (a3 b4 : List Int) (b5 : Int) (b6 : List Int) : Option Bool := call G 8 (a1, a2, a3, b4, b5, b6)
noncomputable def Z9 (l1 : List Outline) (deep2 left3 : Int) : Option Int := call G 9 (l1, deep2, left3)
noncomputable def Z10 (b1 : List File) (b2 : List Outline) : Option ((List Int) × Int) := call G 10 (b1, b2)
noncomputable def Z11 (b1 : List Int) : Option ((List File) × (List Outline) × Int) := call G 11 b1
noncomputable def Z12 (b1 : List File) (b2 : List Outline) (at3 : Int) (f4 : List Int) (f5 : Int) (f6 : List Int) : Option ((List File) × (List Outline) × Int) := call G 12 (b1, b2, at3, f4, f5, f6)
noncomputable def Z13 (b1 : List File) (b2 : List Outline) : Option Bool := call G 13 (b1, b2)
noncomputable def Z14 (n1 : Int) (l2 : List Int) : Option (List Int) := call G 14 (n1, l2)
noncomputable def Z15 (l1 : List Outline) : Option ((List Int) × Int) := call G 15 l1
noncomputable def Z16 (text1 : List Int) : Option ((List Int) × Int) := call G 16 text1
noncomputable def Z17 (b1 : List File) (b2 : List Outline) : Option Bool := call G 17 (b1, b2)
noncomputable def Z18 (n1 : Int) : Option (List Int) := call G 18 n1
noncomputable def Z19 (l1 : List Outline) : Option ((List Int) × Int) := call G 19 l1
noncomputable def Z20 (text1 : List Int) : Option ((List Int) × Int) := call G 20 text1
noncomputable def Z21 (b1 : List Int) : Option ((List Int) × Int) := call G 21 b1
noncomputable def Z22 (b1 : List Int) (b2 b3 : Int) : Option (Int × (List Int) × Int × Int) := call G 22 (b1, b2, b3)
noncomputable def Z23 (ok1 : Bool) (err2 : Int) (b3 : List Int) (b4 b5 : Int) : Option (Bool × (List Int) × Int × Int) := call G 23 (ok1, err2, b3, b4, b5)
noncomputable def Z24 (b1 : List Int) (b2 b3 : Int) : Option ((List Int) × Int × (List Int) × Int × (List Int) × Int × Int) := call G 24 (b1, b2, b3)
noncomputable def Z25 (b1 : List Int) : Option ((List Outline) × Int) := call G 25 b1
noncomputable def Z26 (l1 : List File) (name2 : List Int) : Option Int := call G 26 (l1, name2)
noncomputable def Z27 (kind1 : List Int) (b2 : List File) (b3 : List Outline) (files4 : List File) : Option ((List Int) × Int) := call G 27 (kind1, b2, b3, files4)
noncomputable def Z28 (b1 : List Int) : Option ((List Chunk) × Int × Int) := call G 28 b1
noncomputable def Z29 (l1 : List Chunk) : Option Bool := call G 29 l1
noncomputable def Z30 (c1 c2 c3 : List Int) (c4 : List Chunk) (b5 : List File) (b6 : List Int) (b7 : List Outline) (b8 : List Entuint8) : Option (Int × (List File) × (List Int) × (List Outline) × (List Entuint8)) := call G 30 (c1, c2, c3, c4, b5, b6, b7, b8)
noncomputable def Z31 (f1 : List Int) (f2 : Int) (f3 : List Int) : Option Bool := call G 31 (f1, f2, f3)
noncomputable def Z32 (b1 : List File) (b2 : List Outline) : Option ((List Outline) × (List File)) := call G 32 (b1, b2)
noncomputable def Z33 (s1 : List Int) : Option (List Int) := call G 33 s1
noncomputable def Z34 (i1 : Int) (v2 b3 : List File) : Option (List File) := call G 34 (i1, v2, b3)
noncomputable def Z35 (l1 : List Outline) : Option Bool := call G 35 l1
noncomputable def Z36 (n1 : Int) : Option (Int × (List Int)) := call G 36 n1
noncomputable def Z37 (l1 : List Outline) : Option (List Int) := call G 37 l1
noncomputable def Z38 (text1 : List Int) : Option ((List Int) × Int) := call G 38 text1
noncomputable def Z39 (kind1 n2 : Int) : Option (Int × Int × (List Int)) := call G 39 (kind1, n2)
noncomputable def Z40 (m1 : Int) (m2 : List Int) : Option ((Int × Int × Int × (List Int) × (List Int)) ⊕ (Unit)) := call G 40 (m1, m2)
noncomputable def Z41 (l1 : List Int) : Option ((List Int) × Int) := call G 41 l1
noncomputable def Z42 (last1 : Int) : Option Int := call G 42 last1
noncomputable def Z43 (base1 : Int) (n2 : Bool) (n3 b4 b5 b6 : Int) (b7 b8 : List Int) : Option (Int × Int × Int × Int × (List Int) × (List Int)) := call G 43 (base1, n2, n3, b4, b5, b6, b7, b8)
noncomputable def Z44 (b1 b2 b3 : Int) (b4 b5 : List Int) : Option ((List Int) × Int × Int × Int × (List Int) × (List Int)) := call G 44 (b1, b2, b3, b4, b5)
noncomputable def Z45 (f1 : List Int) (f2 : Int) (f3 : List Int) : Option Bool := call G 45 (f1, f2, f3)
noncomputable def Z46 (l1 : List File) : Option Bool := call G 46 l1
noncomputable def Z47 (l1 : List Outline) : Option Bool := call G 47 l1
noncomputable def Z48 (n1 : Int) : Option (Int × (List Int)) := call G 48 n1
noncomputable def Z49 (l1 : List Outline) : Option (List Int) := call G 49 l1
noncomputable def Z50 (text1 : List Int) : Option ((List Int) × Int) := call G 50 text1
noncomputable def Z51 (l1 : List Int) : Option ((List Int) × Int) := call G 51 l1
noncomputable def Z52 (kind1 n2 : Int) : Option (Int × Int × (List Int)) := call G 52 (kind1, n2)
noncomputable def Z53 (m1 : Int) (m2 : List Int) : Option ((Int × Int × Int × (List Int) × (List Int)) ⊕ (Unit)) := call G 53 (m1, m2)
noncomputable def Z54 (was1 : Int) : Option Int := call G 54 was1
noncomputable def Z55 (base1 : Int) (n2 : Bool) (n3 b4 b5 b6 : Int) (b7 b8 : List Int) : Option (Int × Int × Int × Int × (List Int) × (List Int)) := call G 55 (base1, n2, n3, b4, b5, b6, b7, b8)
noncomputable def Z56 (b1 b2 b3 : Int) (b4 b5 : List Int) : Option ((List Int) × Int × Int × Int × (List Int) × (List Int)) := call G 56 (b1, b2, b3, b4, b5)
noncomputable def Z57 (b1 : List Int) (at2 : Int) : Option (Int × Int × Int) := call G 57 (b1, at2)
noncomputable def Z58 (m1 : Int) (m2 b3 : List Int) : Option ((Int × Int × Int × (List Int) × Int × Int × Int × Bool × (List Int)) ⊕ (Unit)) := call G 58 (m1, m2, b3)
noncomputable def Z59 (base1 b2 b3 b4 : Int) (b5 : List Int) (b6 b7 b8 : Int) (b9 : Bool) (b10 : List Int) : Option (Bool × Int × Int × Int × Int × Int × (List Int) × Int × Int × Int × Bool × (List Int)) := call G 59 (base1, b2, b3, b4, b5, b6, b7, b8, b9, b10)
noncomputable def Z60 (l1 : List Int) : Option ((List Int) × Int) := call G 60 l1
noncomputable def Z61 (l1 : List Int) : Option ((List Int) × Int) := call G 61 l1
noncomputable def Z62 (n1 : Int) (b2 : List Int) (b3 b4 : Int) : Option ((List Int) × (List Int) × Int × Int) := call G 62 (n1, b2, b3, b4)
noncomputable def Z63 (b1 : List Int) (b2 b3 : Int) : Option ((List Int) × (List Int) × Int × Int) := call G 63 (b1, b2, b3)
noncomputable def Z64 (depth1 : Int) (b2 : List Int) (b3 b4 b5 : Int) : Option ((List Outline) × (List Int) × Int × Int × Int) := call G 64 (depth1, b2, b3, b4, b5)
noncomputable def Z65 (s1 : List File) (b2 : List Int) : Option (Int × (List Int)) := call G 65 (s1, b2)
noncomputable def Z66 (f1 : List Int) (f2 : Int) (f3 : List Int) : Option ((List Int) × (List Int) × (List Int) × (List Chunk)) := call G 66 (f1, f2, f3)
noncomputable def Z67 (l1 : List Chunk) : Option ((List Int) × Int) := call G 67 l1
noncomputable def Z68 (at1 end2 depth3 : Int) (b4 : List Int) (b5 b6 b7 : Int) : Option ((List Chunk) × (List Int) × Int × Int × Int) := call G 68 (at1, end2, depth3, b4, b5, b6, b7)
noncomputable def Z69 (s1 : List Chunk) : Option Bool := call G 69 s1
noncomputable def Z70 (s1 : List Int) : Option Bool := call G 70 s1
noncomputable def Z71 (l1 : List Outline) : Option (List Outline) := call G 71 l1
noncomputable def Z72 (l1 : List Outline) (depth2 b3 : Int) : Option (Bool × Int) := call G 72 (l1, depth2, b3)
noncomputable def Z73 (n1 : Int) : Option (List Int) := call G 73 n1
noncomputable def slices_Concat_byte_byte (slices1 : List (List Int)) : Option (List Int) := call G 74 slices1
noncomputable def Z75 (text1 : List Int) : Option (List Int) := call G 75 text1
noncomputable def Z76 (m1 : Int) (m2 : List Int) : Option Bool := call G 76 (m1, m2)
noncomputable def Z77 (m1 : Int) (m2 : List Int) : Option (Int × Int × Int × (List Int)) := call G 77 (m1, m2)
noncomputable def Z78 (l1 : List Int) : Option Int := call G 78 l1
noncomputable def Z79 : Option (List Int) := call G 79 ()
noncomputable def Z80 (s1 : List Int) (v2 : Int) : Option Int := call G 80 (s1, v2)
noncomputable def Z81 (place1 : Int) (b2 : List Int) : Option (Int × (List Int)) := call G 81 (place1, b2)
noncomputable def Z82 (ctx1 bit2 b3 b4 b5 : Int) (b6 b7 : List Int) : Option (Int × Int × Int × Int × (List Int) × (List Int)) := call G 82 (ctx1, bit2, b3, b4, b5, b6, b7)
noncomputable def Z83 (n1 : Bool) (n2 : Int) : Option Bool := call G 83 (n1, n2)
noncomputable def Z84 (b1 b2 b3 : Int) (b4 b5 : List Int) : Option (Int × (List Int) × Int × Int × Int × (List Int) × (List Int)) := call G 84 (b1, b2, b3, b4, b5)
noncomputable def Z85 (m1 : Int) (m2 : List Int) (base3 n4 : Int) : Option Int := call G 85 (m1, m2, base3, n4)
noncomputable def Z86 (base1 : Int) (n2 : Bool) (n3 : Int) : Option (List Event) := call G 86 (base1, n2, n3)
noncomputable def Z87 (l1 : List Event) (b2 b3 b4 : Int) (b5 b6 : List Int) : Option (Int × Int × Int × Int × (List Int) × (List Int)) := call G 87 (l1, b2, b3, b4, b5, b6)
noncomputable def Z88 (b1 b2 b3 : Int) (b4 b5 : List Int) : Option (Bool × Int × Int × Int × (List Int) × (List Int)) := call G 88 (b1, b2, b3, b4, b5)
noncomputable def Z89 (s1 : List Int) : Option Bool := call G 89 s1
noncomputable def Z90 (l1 : List File) (name2 : List Int) : Option Int := call G 90 (l1, name2)
noncomputable def Z91 (l1 : List Outline) : Option (Int × Int × Bool) := call G 91 l1
noncomputable def Z92 (text1 : List Int) : Option ((List Int) × Int) := call G 92 text1
noncomputable def Z93 (l1 : List Int) : Option Int := call G 93 l1
noncomputable def Z94 : Option (List Int) := call G 94 ()
noncomputable def Z95 (l1 : List Int) (at2 : Int) : Option (List Int) := call G 95 (l1, at2)
noncomputable def Z96 (m1 : Int) (m2 : List Int) : Option Bool := call G 96 (m1, m2)
noncomputable def Z97 (m1 : Int) (m2 : List Int) : Option (Int × (List Int)) := call G 97 (m1, m2)
noncomputable def Z98 : Option (Int × Int) := call G 98 ()
noncomputable def Z99 (n1 : Bool) (n2 : Int) : Option Bool := call G 99 (n1, n2)
noncomputable def Z100 (b1 b2 b3 : Int) (b4 b5 : List Int) : Option (Int × (List Int) × Int × Int × Int × (List Int) × (List Int)) := call G 100 (b1, b2, b3, b4, b5)
noncomputable def Z101 (states1 base2 n3 : Int) : Option Bool := call G 101 (states1, base2, n3)
noncomputable def Z102 (n1 : Bool) (n2 : Int) : Option (List Event) := call G 102 (n1, n2)
noncomputable def Z103 (ctx1 bit2 b3 b4 b5 : Int) (b6 b7 : List Int) : Option (Int × Int × Int × Int × (List Int) × (List Int)) := call G 103 (ctx1, bit2, b3, b4, b5, b6, b7)
noncomputable def Z104 (x1 x2 : Int) : Option (List Int) := call G 104 (x1, x2)
noncomputable def Z105 (b1 b2 b3 b4 b5 b6 : Int) (b7 b8 : List Int) : Option (Int × Int × Int × Int × Int × Int × (List Int) × (List Int)) := call G 105 (b1, b2, b3, b4, b5, b6, b7, b8)
noncomputable def Z106 (ctx1 b2 b3 b4 : Int) (b5 : List Int) (b6 b7 b8 : Int) (b9 : Bool) (b10 : List Int) : Option (Int × Int × Int × Int × Int × (List Int) × Int × Int × Int × Bool × (List Int)) := call G 106 (ctx1, b2, b3, b4, b5, b6, b7, b8, b9, b10)
noncomputable def Z107 (b1 b2 b3 : Int) (b4 : List Int) (b5 b6 b7 : Int) (b8 : Bool) (b9 : List Int) : Option (Int × (List Int) × Int × Int × Int × (List Int) × Int × Int × Int × Bool × (List Int)) := call G 107 (b1, b2, b3, b4, b5, b6, b7, b8, b9)
noncomputable def Z108 (base1 b2 b3 b4 : Int) (b5 : List Int) (b6 b7 b8 : Int) (b9 : Bool) (b10 : List Int) : Option (Bool × Int × Int × Int × Int × Int × (List Int) × Int × Int × Int × Bool × (List Int)) := call G 108 (base1, b2, b3, b4, b5, b6, b7, b8, b9, b10)
noncomputable def Z109 (b1 : List Int) : Option (List Int) := call G 109 b1
noncomputable def Z110 (s1 s2 : List Int) : Option Bool := call G 110 (s1, s2)
noncomputable def Z111 (low1 high2 : Int) (b3 : List Int) (b4 b5 b6 : Int) : Option (Int × (List Int) × Int × Int × Int) := call G 111 (low1, high2, b3, b4, b5, b6)
noncomputable def Z112 (b1 : List Int) (b2 b3 b4 : Int) : Option ((List Int) × (List Int) × Int × Int × Int) := call G 112 (b1, b2, b3, b4)
noncomputable def Z113 (f1 : List Int) (f2 : Int) (f3 b4 : List Int) : Option (Bool × (List Int)) := call G 113 (f1, f2, f3, b4)
noncomputable def Z114 (l1 : List Chunk) : Option Bool := call G 114 l1
noncomputable def Z115 (c1 c2 c3 : List Int) (c4 : List Chunk) : Option Int := call G 115 (c1, c2, c3, c4)
noncomputable def Z116 (c1 c2 c3 : List Int) (c4 : List Chunk) (b5 : List Int) : Option (List Int) := call G 116 (c1, c2, c3, c4, b5)
noncomputable def Z117 (at1 end2 depth3 : Int) (b4 : List Int) (b5 b6 b7 : Int) : Option ((List Int) × (List Int) × (List Int) × (List Chunk) × Int × (List Int) × Int × Int × Int) := call G 117 (at1, end2, depth3, b4, b5, b6, b7)
noncomputable def Z118 (s1 : List Chunk) : Option Int := call G 118 s1
noncomputable def Z119 (n1 : Int) : Option (List Int) := call G 119 n1
noncomputable def Z120 (text1 : List Int) : Option (List Int) := call G 120 text1
noncomputable def Z121 (m1 : Int) (m2 : List Int) : Option (Int × (List Int)) := call G 121 (m1, m2)
noncomputable def Z122 : Option Unit := call G 122 ()
noncomputable def Z123 (s1 : List Int) : Option Bool := call G 123 s1
noncomputable def Z124 (ctx1 b2 b3 b4 : Int) (b5 b6 : List Int) : Option (Int × Int × Int × Int × (List Int) × (List Int)) := call G 124 (ctx1, b2, b3, b4, b5, b6)
noncomputable def Z125 (ctx1 bit2 mid3 b4 b5 b6 : Int) (b7 b8 : List Int) : Option (Int × Int × Int × (List Int) × (List Int)) := call G 125 (ctx1, bit2, mid3, b4, b5, b6, b7, b8)
noncomputable def Z126 (b1 b2 b3 : Int) (b4 b5 : List Int) : Option (Bool × Int × Int × Int × (List Int) × (List Int)) := call G 126 (b1, b2, b3, b4, b5)
noncomputable def Z127 (b1 b2 b3 : Int) (b4 b5 : List Int) : Option (Int × Int × Int × Int × (List Int) × (List Int)) := call G 127 (b1, b2, b3, b4, b5)
noncomputable def Z128 (x1 : Int) : Option Int := call G 128 x1
noncomputable def Z129 (b1 : Int) : Option (Int × Int) := call G 129 b1
noncomputable def Z130 (text1 l2 : List Int) : Option (List Int) := call G 130 (text1, l2)
noncomputable def Z131 (kind1 state2 : Int) : Option Int := call G 131 (kind1, state2)
noncomputable def Z132 (x1 x2 p3 bit4 : Int) : Option (Int × Int) := call G 132 (x1, x2, p3, bit4)
noncomputable def Z133 (kind1 state2 bit3 : Int) : Option Int := call G 133 (kind1, state2, bit3)
noncomputable def Z134 (x1 x2 : Int) : Option Bool := call G 134 (x1, x2)
noncomputable def Z135 (x1 x2 : Int) : Option (Int × Int) := call G 135 (x1, x2)
noncomputable def Z136 (b1 b2 b3 : Int) (b4 : List Int) (b5 b6 b7 : Int) (b8 : Bool) (b9 : List Int) : Option (Bool × Int × Int × Int × (List Int) × Int × Int × Int × Bool × (List Int)) := call G 136 (b1, b2, b3, b4, b5, b6, b7, b8, b9)
noncomputable def Z137 (ctx1 b2 b3 b4 : Int) (b5 : List Int) (b6 b7 b8 : Int) (b9 : Bool) (b10 : List Int) : Option (Int × Int × Int × Int × (List Int) × Int × Int × Int × Bool × (List Int)) := call G 137 (ctx1, b2, b3, b4, b5, b6, b7, b8, b9, b10)
noncomputable def Z138 (ctx1 bit2 mid3 b4 b5 b6 : Int) (b7 : List Int) (b8 b9 b10 : Int) (b11 : Bool) (b12 : List Int) : Option (Int × Int × Int × (List Int) × Int × Int × Int × Bool × (List Int)) := call G 138 (ctx1, bit2, mid3, b4, b5, b6, b7, b8, b9, b10, b11, b12)
noncomputable def Z139 (b1 b2 b3 : Int) (b4 : List Int) (b5 b6 b7 : Int) (b8 : Bool) (b9 : List Int) : Option (Bool × Int × Int × Int × (List Int) × Int × Int × Int × Bool × (List Int)) := call G 139 (b1, b2, b3, b4, b5, b6, b7, b8, b9)
noncomputable def Z140 (b1 b2 b3 : Int) (b4 : List Int) (b5 b6 b7 : Int) (b8 : Bool) (b9 : List Int) : Option (Int × Int × Int × Int × (List Int) × Int × Int × Int × Bool × (List Int)) := call G 140 (b1, b2, b3, b4, b5, b6, b7, b8, b9)
noncomputable def Z141 (b1 b2 b3 : Int) (b4 : List Int) (b5 b6 b7 : Int) (b8 : Bool) (b9 : List Int) : Option (Int × Int × Int × (List Int) × Int × Int × Int × Bool × (List Int)) := call G 141 (b1, b2, b3, b4, b5, b6, b7, b8, b9)
noncomputable def Z142 (l1 : List Chunk) (depth2 b3 : Int) : Option (Bool × Int) := call G 142 (l1, depth2, b3)
noncomputable def Z143 (c1 c2 c3 : List Int) (c4 : List Chunk) : Option Int := call G 143 (c1, c2, c3, c4)
noncomputable def Z144 (at1 end2 : Int) (b3 : List Int) (b4 b5 b6 : Int) : Option ((List Int) × (List Int) × Int × Int × Int) := call G 144 (at1, end2, b3, b4, b5, b6)
noncomputable def Z145 (ok1 : Bool) (err2 at3 : Int) (b4 : List Int) (b5 b6 b7 : Int) : Option (Bool × (List Int) × Int × Int × Int) := call G 145 (ok1, err2, at3, b4, b5, b6, b7)
noncomputable def Z146 (at1 end2 : Int) (b3 : List Int) (b4 b5 b6 : Int) : Option ((List Int) × (List Int) × Int × Int × Int) := call G 146 (at1, end2, b3, b4, b5, b6)
noncomputable def Z147 (b1 : List Int) : Option (List Int) := call G 147 b1
noncomputable def Z148 (x1 x2 x3 : List Int) (x4 : List Chunk) : Option Bool := call G 148 (x1, x2, x3, x4)
noncomputable def Z149 (b1 b2 : List Int) : Option ((List Int) × (List Int)) := call G 149 (b1, b2)
noncomputable def Z150 (s1 : List Int) : Option Int := call G 150 s1
noncomputable def Z151 (kind1 s2 : Int) : Option Int := call G 151 (kind1, s2)
noncomputable def Z152 (kind1 s2 bit3 : Int) : Option Int := call G 152 (kind1, s2, bit3)
noncomputable def Z153 (x1 : Int) : Option Int := call G 153 x1
noncomputable def Z154 (text1 : List Int) (a2 b3 : Int) : Option Bool := call G 154 (text1, a2, b3)
noncomputable def Z155 (k1 : Int) : Option Int := call G 155 k1
noncomputable def Z156 (x1 x2 p3 : Int) : Option Int := call G 156 (x1, x2, p3)
noncomputable def Z157 (s1 : List Int) : Option Bool := call G 157 s1
noncomputable def Z158 (s1 : List Int) : Option Bool := call G 158 s1
noncomputable def Z159 (a1 b2 limit3 : Int) (b4 b5 : List Int) : Option ((List Int) × (List Int)) := call G 159 (a1, b2, limit3, b4, b5)
noncomputable def Z160 (s1 : Int) : Option Bool := call G 160 s1
noncomputable def Z161 (a1 b2 : Int) (b3 b4 : List Int) : Option ((List Int) × (List Int)) := call G 161 (a1, b2, b3, b4)
noncomputable def Z162 (a1 b2 : Int) (b3 b4 : List Int) : Option ((List Int) × (List Int)) := call G 162 (a1, b2, b3, b4)
noncomputable def Z163 (a1 b2 : Int) (b3 b4 : List Int) : Option ((List Int) × (List Int)) := call G 163 (a1, b2, b3, b4)
noncomputable def Z164 (a1 b2 : Int) (b3 b4 : List Int) : Option (Int × Int × (List Int) × (List Int)) := call G 164 (a1, b2, b3, b4)
noncomputable def Z165 (a1 b2 : Int) (b3 b4 : List Int) : Option ((List Int) × (List Int)) := call G 165 (a1, b2, b3, b4)
noncomputable def Z166 (a1 b2 : Int) (b3 b4 : List Int) : Option (Bool × (List Int) × (List Int)) := call G 166 (a1, b2, b3, b4)
noncomputable def Z167 (a1 b2 : Int) (b3 : List Int) : Option (Int × (List Int)) := call G 167 (a1, b2, b3)
noncomputable def Z168 (a1 b2 pivot3 : Int) (b4 b5 : List Int) : Option (Int × (List Int) × (List Int)) := call G 168 (a1, b2, pivot3, b4, b5)
noncomputable def Z169 (a1 b2 pivot3 : Int) (b4 b5 : List Int) : Option (Int × Bool × (List Int) × (List Int)) := call G 169 (a1, b2, pivot3, b4, b5)
noncomputable def Z170 (lo1 hi2 first3 : Int) (b4 b5 : List Int) : Option ((List Int) × (List Int)) := call G 170 (lo1, hi2, first3, b4, b5)
noncomputable def Z171 (length1 : Int) : Option Int := call G 171 length1
noncomputable def Z172 (b1 : Int) : Option (Int × Int) := call G 172 b1
noncomputable def Z173 (a1 : Int) (b2 : List Int) (b3 : Int) (b4 : List Int) : Option (Int × (List Int) × Int × (List Int)) := call G 173 (a1, b2, b3, b4)
noncomputable def Z174 (a1 b2 c3 : Int) (b4 : List Int) (b5 : Int) (b6 : List Int) : Option (Int × (List Int) × Int × (List Int)) := call G 174 (a1, b2, c3, b4, b5, b6)
noncomputable def Z175 (a1 b2 : List Int) : Option Int := call G 175 (a1, b2)
noncomputable def Z176 (a1 b2 : Int) (b3 : List Int) (b4 : Int) (b5 : List Int) : Option (Int × Int × (List Int) × Int × (List Int)) := call G 176 (a1, b2, b3, b4, b5)
end
end Go.Proofs.YtcphcfknnfibmaaGreat.P
