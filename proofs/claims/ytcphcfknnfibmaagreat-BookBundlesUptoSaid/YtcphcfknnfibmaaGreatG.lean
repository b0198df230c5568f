import Derived.KernelRfl
import Derived.Test.YtcphcfknnfibmaaGreatProg
import Derived.Test.YtcphcfknnfibmaaGreatF5
namespace Go.Proofs.YtcphcfknnfibmaaGreat.P
open Go Go.IntKind Go.Proofs.YtcphcfknnfibmaaGreat.V
set_option linter.unusedVariables false
set_option linter.unusedSimpArgs false
set_option maxRecDepth 100000
noncomputable section
structure File where
  name : List Int
  kind : Int
  data : List Int
structure Outline where
  title : List Int
  page : Int
  kids : List Outline
structure Chunk where
  id : List Int
  kind : List Int
  data : List Int
  kids : List Chunk
structure Entuint8 where
  key : List Int
  val : List Int
structure Event where
  ctx : Int
  bit : Int
noncomputable def TT : Nat -> Type
  | 0 => File
  | 1 => Outline
  | 2 => Chunk
  | 3 => Entuint8
  | 4 => List Int
  | 5 => Event
  | _ => Unit
noncomputable def outs0 (x : File) : List (PV TT) := [.str x.name, .int .i64 x.kind, .ints .u8 x.data]
noncomputable def outs1 (x : Outline) : List (PV TT) := [.str x.title, .int .i64 x.page, .rows 1 x.kids]
noncomputable def outs2 (x : Chunk) : List (PV TT) := [.str x.id, .str x.kind, .ints .u8 x.data, .rows 2 x.kids]
noncomputable def outs3 (x : Entuint8) : List (PV TT) := [.str x.key, .ints .u8 x.val]
noncomputable def outs4 (x : List Int) : List (PV TT) := [.ints .u8 x]
noncomputable def outs5 (x : Event) : List (PV TT) := [.int .i64 x.ctx, .int .i64 x.bit]
noncomputable def outs : (i : Nat) -> TT i -> List (PV TT)
  | 0, x => outs0 x
  | 1, x => outs1 x
  | 2, x => outs2 x
  | 3, x => outs3 x
  | 4, x => outs4 x
  | 5, x => outs5 x
  | _, _ => []
noncomputable def inn0 : List (PV TT) -> Option File
  | [c0, c1, c2] => (V.asStr c0).bind fun y0 => (V.asInt .i64 c1).bind fun y1 => (V.asInts .u8 c2).bind fun y2 => some (File.mk y0 y1 y2)
  | _ => none
noncomputable def inn1 : List (PV TT) -> Option Outline
  | [c0, c1, c2] => (V.asStr c0).bind fun y0 => (V.asInt .i64 c1).bind fun y1 => (V.asRows 1 c2).bind fun y2 => some (Outline.mk y0 y1 y2)
  | _ => none
noncomputable def inn2 : List (PV TT) -> Option Chunk
  | [c0, c1, c2, c3] => (V.asStr c0).bind fun y0 => (V.asStr c1).bind fun y1 => (V.asInts .u8 c2).bind fun y2 => (V.asRows 2 c3).bind fun y3 => some (Chunk.mk y0 y1 y2 y3)
  | _ => none
noncomputable def inn3 : List (PV TT) -> Option Entuint8
  | [c0, c1] => (V.asStr c0).bind fun y0 => (V.asInts .u8 c1).bind fun y1 => some (Entuint8.mk y0 y1)
  | _ => none
noncomputable def inn4 : List (PV TT) -> Option (List Int)
  | [c0] => (V.asInts .u8 c0).bind fun y0 => some y0
  | _ => none
noncomputable def inn5 : List (PV TT) -> Option Event
  | [c0, c1] => (V.asInt .i64 c0).bind fun y0 => (V.asInt .i64 c1).bind fun y1 => some (Event.mk y0 y1)
  | _ => none
noncomputable def inn : (i : Nat) -> List (PV TT) -> Option (TT i)
  | 0, l => inn0 l
  | 1, l => inn1 l
  | 2, l => inn2 l
  | 3, l => inn3 l
  | 4, l => inn4 l
  | 5, l => inn5 l
  | _, _ => none
noncomputable def E : Env := { T := TT, outs := outs, inn := inn, sz := fun i => (getL [3, 3, 4, 2, 1, 2] i).getD 0, flat := fun i => (getL [false, false, false, false, false, true] i).getD false }
noncomputable def els : List (TypeId × EK) := [(3, .int .i64), (5, .int .u8), (28, .row 4), (41, .row 0), (51, .row 2), (90, .row 1), (223, .row 5)]
noncomputable abbrev I6 : TSh := .int .i64
def z80 : List TSh := [.ptr 0 0, I6]
def z79 : List BSh := [.same, .same]
def z78 : List BSh := [.rows 0 false]
def z77 : List TSh := [.ints .u8, I6]
def z76 : List TSh := [.ints .i64, I6]
def z75 : List BSh := [.ints .i64 true]
def z74 : List BSh := [.ints .u8 false]
def z73 : List BSh := [.ints .i64 false]
def z72 : List TSh := [.rows 0, .rows 1]
def z71 : List TSh := [.ints .u8, I6, I6]
def z70 : List BSh := [.same, .same, .same]
def z69 : List TSh := [.str, I6, .ints .u8]
def z68 : List TSh := [.int .u64, .int .u64]
def z67 : List BSh := [.same, .rows 5 false]
def z66 : List TSh := [.ints .u8, .ints .u8]
def z65 : List TSh := [.ptr 0 0, .lit .i64 0]
def z64 : List TSh := [.agg [I6, .ints .i64]]
def z63 : List TSh := [.ints .u8, I6, I6, I6]
def z62 : List BSh := [.gone, .ints .u8 false]
def z61 : List BSh := [.same, .ints .u8 false]
def z60 : List BSh := [.same, .box [.ints .u8]]
def z59 : List (Nat × TSh) := [(0, .int .u64), (2, I6)]
def z58 : List (Nat × TSh) := [(2, .ints .u8), (3, I6)]
def z57 : List TSh := [.agg z72]
def z56 : List BSh := [.box z71]
def z55 : List TSh := [.agg z69]
def z54 : List BSh := [.same, .rows 5 false, .same]
def z53 : List TSh := [.agg z68]
def z52 : List BSh := [.box z63]
def z51 : List BSh := [.ints .u8 false, .same, .same]
def z50 : List TSh := [.str, .str, .ints .u8, .rows 2]
def z49 : List BSh := [.ints .i64 true, .box [.ints .u8]]
def z48 : List BSh := [.ints .i64 true, .ints .i64 false]
def z47 : List TSh := [.arr 0, I6, I6, .fn 241 [.ptr 1 0]]
def z46 : List BSh := [.ints .i64 false, .box [.ints .u8]]
def z45 : List BSh := [.same, .same, .same, .ints .u8 true]
def z44 : List BSh := [.box z63, .same]
def z43 : List BSh := [.same, .same, .same, .ints .u8 false]
def z42 : List TSh := [.agg z50]
def z41 : List TSh := [.arr 0, I6, I6, I6, .fn 241 [.ptr 1 0]]
def z40 : List TSh := [.str, .agg z72, .rows 0]
def z39 : List BSh := [.same, .same, .mpr .str 3, .same, .same]
def z38 : List BSh := [.ints .i64 true, .same, .box [.int .u64]]
def z37 : List TSh := [I6, .arr 1, .int .u64, .int .u64, .arr 2]
def z36 : List BSh := [.box z63, .rows 1 false]
def z35 : List BSh := [.same, .same, .same, .ints .i64 true, .same]
def z34 : List BSh := [.box z63, .rows 2 false]
def z33 : List BSh := [.ints .i64 true, .box [I6], .box [.ints .u8]]
def z32 : List BSh := [.ints .i64 true, .box [.ints .u8], .box [I6]]
def z31 : List BSh := [.ints .i64 false, .box [I6], .box [.ints .u8]]
def z30 : List TSh := [.agg z72, .agg z72]
def z29 : List BSh := [.same, .same, .box [.arr 3, .rows 1], .rows 0 false]
def z28 : List TSh := [.agg z69, .agg z69]
def z27 : List BSh := [.box z71, .rows 0 false, .ints .i64 false]
def z26 : List BSh := [.same, .rows 2 false, .box [.str, .str, .ints .u8, .arr 1]]
def z25 : List BSh := [.box [.arr 3, .rows 1], .same, .same, .rows 0 true, .rows 0 true]
def z24 : List BSh := [.same, .same, .same, .same, .ints .i64 true, .ints .i64 true, .same]
def z23 : List BSh := [.box z37, .ints .i64 true, .ints .u8 false]
def z22 : List BSh := [.box z37, .ints .i64 false, .ints .u8 false]
def z21 : List BSh := [.box z37, .ints .i64 true, .ints .u8 false, .same]
def z20 : List BSh := [.same, .box [.ints .u8], .box [I6], .same, .same, .same, .same, .ints .u8 true, .same, .box [I6], .same]
def z19 : List BSh := [.same, .same, .same, .box [I6, .arr 4, .int .u64, .int .u64, .arr 5], .ints .i64 false, .ints .u8 false]
def z18 : List BSh := [.box [.arr 3, .rows 1], .mpr .str 3, .box [.arr 4, .ints .i64, .rows 1, .mapr 1], .rows 0 false, .rows 0 false]
def z17 : List TSh := [.lit .i64 2048, .lit .i64 1792, .lit .i64 1568, .lit .i64 1372, .lit .i64 1201, .lit .i64 1051, .lit .i64 920, .lit .i64 805, .lit .i64 705, .lit .i64 617, .lit .i64 540, .lit .i64 473, .lit .i64 414, .lit .i64 363, .lit .i64 318, .lit .i64 279, .lit .i64 245, .lit .i64 215, .lit .i64 189, .lit .i64 166, .lit .i64 146, .lit .i64 128, .lit .i64 112, .lit .i64 98, .lit .i64 86, .lit .i64 76, .lit .i64 67, .lit .i64 59, .lit .i64 52, .lit .i64 46, .lit .i64 41, .lit .i64 36]
def z16 : List TSh := [I6, .arr 1, .lit .i64 2048, .lit .i64 1792, .lit .i64 1568, .lit .i64 1372, .lit .i64 1201, .lit .i64 1051, .lit .i64 920, .lit .i64 805, .lit .i64 705, .lit .i64 617, .lit .i64 540, .lit .i64 473, .lit .i64 414, .lit .i64 363, .lit .i64 318, .lit .i64 279, .lit .i64 245, .lit .i64 215, .lit .i64 189, .lit .i64 166, .lit .i64 146, .lit .i64 128, .lit .i64 112, .lit .i64 98, .lit .i64 86, .lit .i64 76, .lit .i64 67, .lit .i64 59, .lit .i64 52, .lit .i64 46, .lit .i64 41, .lit .i64 36, .int .u64, .int .u64, .arr 2, .litb true]
def z15 : List TSh := [I6, .arr 1, .lit .i64 2048, .lit .i64 1792, .lit .i64 1568, .lit .i64 1372, .lit .i64 1201, .lit .i64 1051, .lit .i64 920, .lit .i64 805, .lit .i64 705, .lit .i64 617, .lit .i64 540, .lit .i64 473, .lit .i64 414, .lit .i64 363, .lit .i64 318, .lit .i64 279, .lit .i64 245, .lit .i64 215, .lit .i64 189, .lit .i64 166, .lit .i64 146, .lit .i64 128, .lit .i64 112, .lit .i64 98, .lit .i64 86, .lit .i64 76, .lit .i64 67, .lit .i64 59, .lit .i64 52, .lit .i64 46, .lit .i64 41, .lit .i64 36, .int .u64, .int .u64, .ints .u8, I6, .int .u64, I6, .bool, .litb true]
def z14 : List TSh := [I6, .arr 3, .lit .i64 2048, .lit .i64 1792, .lit .i64 1568, .lit .i64 1372, .lit .i64 1201, .lit .i64 1051, .lit .i64 920, .lit .i64 805, .lit .i64 705, .lit .i64 617, .lit .i64 540, .lit .i64 473, .lit .i64 414, .lit .i64 363, .lit .i64 318, .lit .i64 279, .lit .i64 245, .lit .i64 215, .lit .i64 189, .lit .i64 166, .lit .i64 146, .lit .i64 128, .lit .i64 112, .lit .i64 98, .lit .i64 86, .lit .i64 76, .lit .i64 67, .lit .i64 59, .lit .i64 52, .lit .i64 46, .lit .i64 41, .lit .i64 36, .int .u64, .int .u64, .ints .u8, I6, .int .u64, I6, .bool, .litb true]
def z13 : List TSh := [I6, .arr 1, .lit .i64 2048, .lit .i64 1792, .lit .i64 1568, .lit .i64 1372, .lit .i64 1201, .lit .i64 1051, .lit .i64 920, .lit .i64 805, .lit .i64 705, .lit .i64 617, .lit .i64 540, .lit .i64 473, .lit .i64 414, .lit .i64 363, .lit .i64 318, .lit .i64 279, .lit .i64 245, .lit .i64 215, .lit .i64 189, .lit .i64 166, .lit .i64 146, .lit .i64 128, .lit .i64 112, .lit .i64 98, .lit .i64 86, .lit .i64 76, .lit .i64 67, .lit .i64 59, .lit .i64 52, .lit .i64 46, .lit .i64 41, .lit .i64 36, .int .u64, .int .u64, .arr 2, I6, .int .u64, I6, .litb false, .litb true]
def z12 : List BSh := [.box z16, .ints .i64 true, .ints .u8 true]
def z11 : List BSh := [.box z16, .ints .i64 true, .ints .u8 false]
def z10 : List BSh := [.box z16, .ints .i64 false, .ints .u8 false]
def z9 : List BSh := [.box z15, .ints .i64 true]
def z8 : List BSh := [.box z15, .ints .i64 false]
def z7 : List BSh := [.box z15, .ints .i64 true, .same]
def z6 : List BSh := [.same, .same, .same, .box [I6, .arr 4, .lit .i64 2048, .lit .i64 1792, .lit .i64 1568, .lit .i64 1372, .lit .i64 1201, .lit .i64 1051, .lit .i64 920, .lit .i64 805, .lit .i64 705, .lit .i64 617, .lit .i64 540, .lit .i64 473, .lit .i64 414, .lit .i64 363, .lit .i64 318, .lit .i64 279, .lit .i64 245, .lit .i64 215, .lit .i64 189, .lit .i64 166, .lit .i64 146, .lit .i64 128, .lit .i64 112, .lit .i64 98, .lit .i64 86, .lit .i64 76, .lit .i64 67, .lit .i64 59, .lit .i64 52, .lit .i64 46, .lit .i64 41, .lit .i64 36, .int .u64, .int .u64, .arr 5, .litb true], .ints .i64 false, .ints .u8 false]
def z5 : List BSh := [.gone, .same, .box z14, .ints .i64 false]
def z4 : List BSh := [.box z15, .ints .i64 false, .box [.bool, I6]]
def z3 : List BSh := [.box z13, .ints .i64 true, .ints .u8 true]
def z2 : List BSh := [.same, .ints .i64 true, .ints .u8 true, .box z13]
def z1 : List BSh := [.box z15, .ints .i64 false, .box [.bool, I6], .box [I6]]
def z0 : List BSh := [.gone, .same, .box z14, .ints .i64 false, .ints .i64 false]
noncomputable def insts : List FInst := [
  { fid := 5, sig := { ps := z57, rs := [.bool] }, ann := { calls := [(13, 1), (14, 2), (17, 3), (22, 4), (27, 5), (32, 6), (46, 7), (52, 7), (57, 8), (59, 9), (64, 2), (67, 10), (75, 11), (80, 12), (83, 2)], joins := [(14, [(.normal, { tm := [(61, .bool)], bs := [.same] })])] } },
  { fid := 13, sig := { ps := z57, rs := [.bool] }, ann := { calls := [(35, 13)], loops := [(3, { tm := [(3, I6), (4, I6)], bs := [.same] }, [(.exit 0, { tm := [(3, I6)], bs := [.same] })])] } },
  { fid := 14, sig := { rs := [.bool] }, ann := { calls := [(9, 3), (14, 10), (20, 14)] } },
  { fid := 21, sig := { ps := z57, rs := z77 }, ann := { calls := [(7, 15)] } },
  { fid := 22, sig := { ps := z57, rs := z77 }, ann := { calls := [(7, 16), (10, 17)] } },
  { fid := 23, sig := { ps := z57, rs := z77 }, ann := { calls := [(5, 15)] } },
  { fid := 24, sig := { ps := z57, rs := z77 }, ann := { calls := [(5, 16), (8, 17)] } },
  { fid := 17, sig := { ps := z66, rs := [.bool] }, ann := {} },
  { fid := 25, sig := { ps := z57, rs := [.bool] }, ann := { calls := [(12, 18), (24, 19), (33, 20)], loops := [(4, { tm := [(18, I6)], bs := [.same] }, [(.exit 0, { tm := [], bs := [.same] }), (.ret, { tm := [(2, .bool)], bs := [.same] })])], joins := [(2, [(.normal, { tm := [(14, .bool)], bs := [.same] })])] } },
  { fid := 26, sig := { ps := z57, rs := [.bool] }, ann := { calls := [(16, 21), (25, 22), (31, 23)], loops := [(2, { tm := [(3, I6)], bs := [.same] }, [(.exit 0, { tm := [], bs := [.same] }), (.ret, { tm := [(2, .bool)], bs := [.same] })])] } },
  { fid := 27, sig := { ps := [.ints .u8], rs := [.agg z72, I6] }, ann := { calls := [(16, 24), (27, 25), (41, 26)], loops := [(8, { tm := [(35, I6)], bs := z18 }, [(.exit 1, { tm := [], bs := z18 }), (.ret, { tm := [(3, I6)], bs := z18 })]), (15, { tm := [(52, I6)], bs := z25 }, [(.exit 3, { tm := [], bs := z25 }), (.ret, { tm := [(3, I6)], bs := [.box [.arr 5, .rows 1], .same, .same, .rows 0 true, .rows 0 true, .rows 0 false] })])], joins := [(36, [(.normal, { tm := [(84, .bool)], bs := [.same, .same, .same, .same, .same] })])] } },
  { fid := 28, sig := { ps := z30, rs := [.bool] }, ann := { calls := [(18, 27), (38, 28)], loops := [(4, { tm := [(5, I6)], bs := z79 }, [(.exit 0, { tm := [], bs := z79 }), (.ret, { tm := [(4, .bool)], bs := z79 })])], joins := [(2, [(.normal, { tm := [(20, .bool)], bs := z79 })])] } },
  { fid := 29, sig := { ps := z30, rs := [.bool] }, ann := { calls := [(9, 29), (15, 30)] } },
  { fid := 49, sig := { ps := [.rows 1, I6, I6], rs := [I6] }, ann := { calls := [(36, 13)], loops := [(4, { tm := [(2, I6), (7, I6)], bs := [] }, [(.exit 0, { tm := [(2, I6)], bs := [] })])], joins := [(8, [(.normal, { tm := [(17, .bool)], bs := [] })])] } },
  { fid := 33, sig := { ps := [.agg z72, I6, .agg z69], rs := [.agg z72, I6] }, ann := { calls := [(11, 8), (16, 19), (35, 20), (45, 31), (48, 32), (55, 33)], joins := [(6, [(.normal, { tm := [(14, .bool)], bs := z70 })]), (19, [(.normal, { tm := [], bs := z29 }), (.ret, { tm := [(7, I6)], bs := z29 })])] } },
  { fid := 62, sig := { ps := z40, rs := z77 }, ann := { calls := [(16, 34), (36, 35), (44, 36)], loops := [(6, { tm := [(29, I6)], bs := z26 }, [(.exit 0, { tm := [], bs := z26 })])] } },
  { fid := 64, sig := { ps := z40, rs := z77 }, ann := { calls := [(15, 37), (35, 38), (43, 39)], loops := [(6, { tm := [(10, .arr 1), (11, I6)], bs := [.same, .rows 2 false] }, [(.exit 0, { tm := [(10, .arr 1)], bs := [.same, .rows 2 false] })])] } },
  { fid := 63, sig := { ps := z77, rs := z77 }, ann := {} },
  { fid := 65, sig := { ps := [.rows 1], rs := [.bool] }, ann := { calls := [(6, 40)] } },
  { fid := 66, sig := { ps := z55, rs := [.bool] }, ann := { calls := [(5, 41)] } },
  { fid := 61, sig := { ps := [.rows 0, .str], rs := [I6] }, ann := { calls := [(7, 42)] } },
  { fid := 67, sig := { ps := z55, rs := [.bool] }, ann := { calls := [(5, 43)] } },
  { fid := 68, sig := { ps := [.rows 0], rs := [.bool] }, ann := { calls := [(16, 44)], loops := [(2, { tm := [(3, I6)], bs := [] }, [(.exit 0, { tm := [], bs := [] }), (.ret, { tm := [(2, .bool)], bs := [] })])] } },
  { fid := 69, sig := { ps := [.rows 1], rs := [.bool] }, ann := { calls := [(8, 45)] } },
  { fid := 70, sig := { ps := [.ints .u8], rs := [.rows 2, I6, I6] }, ann := { calls := [(15, 46)] } },
  { fid := 71, sig := { ps := [.rows 2], rs := [.bool] }, ann := { calls := [(41, 47)], loops := [(2, { tm := [(8, I6)], bs := [] }, [(.exit 0, { tm := [], bs := [] }), (.ret, { tm := [(2, .bool)], bs := [] })])], joins := [(14, [(.normal, { tm := [(37, .bool)], bs := [.same] })]), (29, [(.normal, { tm := [(5, .str)], bs := [.same] })])] } },
  { fid := 72, sig := { ps := [.ptr 0 0, .agg z50], pb := [.box [.arr 1, .ints .i64, .rows 1, .mapr 2], .rows 0 false, .mpr .str 3], rs := [I6], rb := [.box [.arr 3, .ints .i64, .rows 1, .mapr 2], .gone, .mpr .str 3, .rows 0 false] }, ann := { calls := [(19, 48), (46, 49), (58, 20), (73, 32)], loops := [(6, { tm := [(37, I6)], bs := z39 }, [(.exit 0, { tm := [], bs := z39 }), (.ret, { tm := [(4, I6)], bs := z39 })])], joins := [(20, [(.normal, { tm := [(60, .bool)], bs := [.same, .same, .same, .same, .same, .same, .same] })])] } },
  { fid := 19, sig := { ps := [.rows 1, .rows 1], rs := [.bool] }, ann := { calls := [(52, 27)], loops := [(4, { tm := [(5, I6)], bs := [] }, [(.exit 0, { tm := [], bs := [] }), (.ret, { tm := [(4, .bool)], bs := [] })])] } },
  { fid := 20, sig := { ps := z28, rs := [.bool] }, ann := {} },
  { fid := 73, sig := { ps := [.rows 1, .rows 1], rs := [.bool] }, ann := { calls := [(7, 50)] } },
  { fid := 74, sig := { ps := [.rows 0, .rows 0, .fn 75 []], rs := [.bool] }, ann := { calls := [(29, 51)], loops := [(4, { tm := [(17, I6)], bs := [] }, [(.exit 0, { tm := [], bs := [] }), (.ret, { tm := [(6, .bool)], bs := [] })])] } },
  { fid := 79, sig := { ps := z57, rs := [.agg [.arr 0, .rows 1]], rb := z78 }, ann := { calls := [(8, 52), (19, 32)], loops := [(3, { tm := [(13, I6)], bs := z29 }, [(.exit 0, { tm := [], bs := z29 })])] } },
  { fid := 48, sig := { ps := [.ints .u8], rs := [.ints .u8] }, ann := {} },
  { fid := 80, sig := { ps := [.arr 0, I6, .rows 0], pb := z78, rs := [.arr 0], rb := z78 }, ann := {} },
  { fid := 15, sig := { ps := z57, rs := z77 }, ann := { calls := [(10, 8), (15, 53), (36, 53), (42, 53), (48, 54), (54, 55)], loops := [(5, { tm := [(4, .arr 1), (19, I6)], bs := z61 }, [(.exit 0, { tm := [(4, .arr 1)], bs := z61 })])] } },
  { fid := 120, sig := { ps := z55, rs := z42 }, ann := { calls := [(9, 53)] } },
  { fid := 121, sig := { ps := [.rows 2], rs := z77 }, ann := { calls := [(11, 56), (21, 57), (34, 58)], loops := [(5, { tm := [(4, I6), (15, I6)], bs := [] }, [(.exit 0, { tm := [(4, I6)], bs := [] })]), (13, { tm := [(7, .arr 0), (28, I6)], bs := z74 }, [(.exit 2, { tm := [(7, .arr 0)], bs := z74 })])] } },
  { fid := 16, sig := { ps := z57, rs := z77 }, ann := { calls := [(10, 9), (15, 59), (37, 59), (46, 59), (51, 60), (57, 61)], loops := [(5, { tm := [(4, .arr 1), (5, I6)], bs := z61 }, [(.exit 0, { tm := [(4, .arr 1)], bs := z61 })])] } },
  { fid := 122, sig := { ps := z55, rs := z42 }, ann := { calls := [(7, 59)] } },
  { fid := 123, sig := { ps := [.rows 2], rs := z77 }, ann := { calls := [(8, 62), (18, 63), (24, 64)], loops := [(5, { tm := [(4, I6), (12, I6)], bs := [] }, [(.exit 0, { tm := [(4, I6)], bs := [] })])] } },
  { fid := 124, sig := { ps := [.ptr 0 0, .rows 1, I6], pb := [.box [I6]], rs := [.bool], rb := [.box [I6]] }, ann := { calls := [(53, 40)], loops := [(2, { tm := [(11, I6)], bs := [.box [I6]] }, [(.exit 0, { tm := [], bs := [.box [I6]] }), (.ret, { tm := [(6, .bool)], bs := [.box [I6]] })])] } },
  { fid := 125, sig := { ps := [.str], rs := [.bool] }, ann := { loops := [(2, { tm := [(7, I6)], bs := [] }, [(.exit 0, { tm := [], bs := [] }), (.ret, { tm := [(2, .bool)], bs := [] })])] } },
  { fid := 118, sig := { ps := [.rows 0, .fn 119 [.ptr 0 0]], pb := [.box [.str]], rs := [I6], rb := [.box [.str]] }, ann := { calls := [(16, 65)], loops := [(2, { tm := [(8, I6)], bs := [.box [.str]] }, [(.exit 0, { tm := [], bs := [.box [.str]] }), (.ret, { tm := [(4, I6)], bs := [.box [.str]] })])] } },
  { fid := 126, sig := { ps := [.str], rs := [.bool] }, ann := { loops := [(4, { tm := [(3, I6)], bs := [] }, [(.exit 0, { tm := [], bs := [] }), (.ret, { tm := [(2, .bool)], bs := [] })])], joins := [(2, [(.normal, { tm := [(12, .bool)], bs := [] })])] } },
  { fid := 39, sig := { ps := [.rows 0, .str], rs := [I6] }, ann := { loops := [(2, { tm := [(5, I6)], bs := [] }, [(.exit 0, { tm := [], bs := [] }), (.ret, { tm := [(4, I6)], bs := [] })])] } },
  { fid := 127, sig := { ps := [.rows 1], rs := [I6, I6, .bool] }, ann := { calls := [(24, 45)], loops := [(3, { tm := [(5, I6), (6, I6), (7, .bool), (8, I6)], bs := [] }, [(.exit 0, { tm := [(5, I6), (6, I6), (7, .bool)], bs := [] })])] } },
  { fid := 128, sig := { ps := [.ptr 0 0, I6, I6, I6], pb := z52, rs := [.rows 2], rb := z52 }, ann := { calls := [(26, 66)], loops := [(2, { tm := [(1, I6), (9, .arr 1)], bs := z34 }, [(.exit 0, { tm := [(9, .arr 1)], bs := z34 })])], joins := [(4, [(.normal, { tm := [(20, .bool)], bs := z79 })])] } },
  { fid := 129, sig := { ps := [.rows 2, .fn 130 []], rs := [.bool] }, ann := { calls := [(7, 67)] } },
  { fid := 18, sig := { ps := [.ints .u8], rs := [.arr 0, .ints .i64, .rows 1, I6], rb := z78 }, ann := { calls := [(19, 68), (29, 69), (33, 70), (44, 71), (72, 72), (90, 20)], loops := [(10, { tm := [(10, .arr 1), (11, .arr 2), (35, I6)], bs := z27 }, [(.exit 0, { tm := [(10, .arr 1), (11, .arr 2)], bs := z27 })]), (21, { tm := [(80, I6)], bs := z70 }, [(.exit 2, { tm := [], bs := z70 }), (.ret, { tm := [(2, .arr 3), (3, .ints .i64), (4, .rows 1), (5, I6)], bs := [.same, .same, .same, .rows 0 false] })])] } },
  { fid := 116, sig := { ps := [.ptr 0 0], pb := z56, rs := [.str], rb := z56 }, ann := { calls := [(6, 69), (10, 70), (13, 73), (17, 41), (18, 70)] } },
  { fid := 131, sig := { ps := [.rows 1, .rows 1, .fn 132 []], rs := [.bool] }, ann := { calls := [(29, 74)], loops := [(4, { tm := [(17, I6)], bs := [] }, [(.exit 0, { tm := [], bs := [] }), (.ret, { tm := [(6, .bool)], bs := [] })])] } },
  { fid := 75, sig := { ps := z28, rs := [.bool] }, ann := { calls := [(22, 75)] } },
  { fid := 137, sig := { ps := [.rows 1], rs := [.rows 1] }, ann := { calls := [(9, 54), (14, 72)] } },
  { fid := 50, sig := { ps := [I6, .ints .u8], rs := [.arr 0], rb := z74 }, ann := { calls := [(9, 76)] } },
  { fid := 51, sig := { ps := [.rows 1], rs := z77 }, ann := { calls := [(5, 18), (8, 77)] } },
  { fid := 52, sig := { ps := [.ints .u8], rs := z77 }, ann := { calls := [(19, 78), (28, 76), (36, 79), (41, 80), (46, 81), (57, 82), (60, 83), (65, 84)], loops := [(12, { tm := [(14, I6), (51, I6)], bs := z6 }, [(.exit 0, { tm := [], bs := z6 })])], joins := [(16, [(.normal, { tm := [(10, .ptr 3 0)], bs := z6 })])] } },
  { fid := 182, sig := { ps := [.rows 2], rs := [.bool] }, ann := { calls := [(6, 85)] } },
  { fid := 183, sig := { ps := z42, rs := [I6] }, ann := { calls := [(4, 86)] } },
  { fid := 184, sig := { ps := [.arr 0, .agg z50], pb := z74, rs := [.arr 0], rb := z74 }, ann := { calls := [(9, 86), (44, 58)], loops := [(7, { tm := [(0, .arr 0), (38, I6)], bs := z51 }, [(.exit 0, { tm := [(0, .arr 0)], bs := z51 })])], joins := [(61, [(.normal, { tm := [(0, .arr 0)], bs := z51 })])] } },
  { fid := 53, sig := { ps := [I6], rs := [.arr 0], rb := z74 }, ann := { calls := [(7, 87)] } },
  { fid := 54, sig := { ps := [.rows 1], rs := z77 }, ann := { calls := [(5, 23), (8, 88)] } },
  { fid := 55, sig := { ps := [.ints .u8], rs := z77 }, ann := { calls := [(18, 89), (27, 87), (36, 90), (40, 91), (45, 92), (56, 93), (62, 94), (69, 95)], loops := [(12, { tm := [(14, I6), (15, I6)], bs := z19 }, [(.exit 0, { tm := [], bs := z19 })])], joins := [(18, [(.normal, { tm := [(12, .ptr 3 0)], bs := z19 })])] } },
  { fid := 185, sig := { ps := [.rows 2], rs := [.bool] }, ann := { calls := [(14, 96), (19, 97)], loops := [(2, { tm := [(9, I6)], bs := [] }, [(.exit 0, { tm := [], bs := [] }), (.ret, { tm := [(2, .bool)], bs := [] })])] } },
  { fid := 186, sig := { ps := z42, rs := [I6] }, ann := { calls := [(21, 63)], loops := [(5, { tm := [(3, I6), (15, I6)], bs := [.same] }, [(.exit 0, { tm := [(3, I6)], bs := [.same] })])], joins := [(23, [(.normal, { tm := [(3, I6)], bs := [.same] })])] } },
  { fid := 187, sig := { ps := [.rows 2], rs := [.ints .u8] }, ann := { calls := [(24, 64)], loops := [(3, { tm := [(3, .arr 0), (10, I6)], bs := z74 }, [(.exit 0, { tm := [(3, .arr 0)], bs := z74 })])], joins := [(37, [(.normal, { tm := [(6, .ints .u8)], bs := z79 })])] } },
  { fid := 119, sig := { ps := [.agg z69, .ptr 0 0], pb := [.box [.str]], rs := [.bool], rb := [.box [.str]] }, ann := {} },
  { fid := 188, sig := { ps := [.ptr 0 0, I6, I6, I6], pb := z52, rs := [.agg z50, I6], rb := z52 }, ann := { calls := [(17, 98), (37, 99), (47, 99), (82, 99), (95, 100), (103, 46), (112, 101), (123, 99), (135, 99)], loops := [(7, { tm := [(10, I6), (62, I6)], bs := z79 }, [(.exit 0, { tm := [(10, I6)], bs := z79 })])], joins := [(6, [(.normal, { tm := [(49, .bool)], bs := z44 })]), (38, [(.normal, { tm := [(124, .bool)], bs := z44 })]), (183, [(.normal, { tm := [], bs := [.box z63, .box z50] })])] } },
  { fid := 189, sig := { ps := [.rows 2, .fn 130 []], rs := [I6] }, ann := { calls := [(16, 102)], loops := [(2, { tm := [(8, I6)], bs := [] }, [(.exit 0, { tm := [], bs := [] }), (.ret, { tm := [(4, I6)], bs := [] })])] } },
  { fid := 56, sig := { ps := [.ints .u8], rs := z77 }, ann := { calls := [(19, 103), (43, 79), (51, 104), (61, 82), (62, 105), (89, 106), (93, 107)], loops := [(15, { tm := [(11, .arr 4), (12, I6), (56, I6)], bs := z0 }, [(.exit 1, { tm := [(11, .arr 4)], bs := z0 }), (.ret, { tm := z58, bs := z5 })])], joins := [(12, [(.normal, { tm := [(30, .bool)], bs := [] })]), (22, [(.normal, { tm := [(9, .ptr 2 0)], bs := z5 })]), (38, [(.normal, { tm := [(79, .bool)], bs := [.gone, .same, .same, .same, .same, .same] })]), (47, [(.normal, { tm := [], bs := [] }), (.ret, { tm := z58, bs := [] })]), (55, [(.normal, { tm := [], bs := [] }), (.ret, { tm := z58, bs := [] })])] } },
  { fid := 57, sig := { ps := [.ptr 0 0], pb := z56, rs := [I6], rb := z56 }, ann := { calls := [(20, 103), (28, 70)] } },
  { fid := 58, sig := { ps := [.ptr 0 0, .bool, I6], pb := z56, rs := [.bool], rb := z56 }, ann := { joins := [(2, [(.normal, { tm := [(15, .bool)], bs := [.same] })])] } },
  { fid := 59, sig := { ps := [.ptr 0 0], pb := z56, rs := [.agg z69, I6], rb := z56 }, ann := { calls := [(7, 73), (18, 70), (27, 49), (31, 69)], joins := [(4, [(.normal, { tm := [(19, .bool)], bs := [.box z71, .same] })])] } },
  { fid := 60, sig := { ps := [.ints .u8], rs := [.rows 1, I6] }, ann := { calls := [(10, 108)] } },
  { fid := 115, sig := { ps := z80, pb := z56, rs := [.ints .u8], rb := z56 }, ann := { calls := [(18, 70)] } },
  { fid := 132, sig := { ps := [.agg [.str, I6, .rows 1], .agg [.str, I6, .rows 1]], rs := [.bool] }, ann := { calls := [(22, 29)] } },
  { fid := 76, sig := { ps := z66, rs := [.bool] }, ann := { loops := [(4, { tm := [(13, I6)], bs := [] }, [(.exit 0, { tm := [], bs := [] }), (.ret, { tm := [(4, .bool)], bs := [] })])] } },
  { fid := 92, sig := { ps := [I6], rs := [.arr 0, I6], rb := z74 }, ann := { loops := [(5, { tm := [(0, I6), (4, .arr 1)], bs := z62 }, [(.exit 0, { tm := [(4, .arr 1)], bs := z62 })])], joins := [(2, [(.normal, { tm := [(10, .bool)], bs := [] })])] } },
  { fid := 93, sig := { ps := [.rows 1], rs := [.ints .u8] }, ann := { calls := [(8, 109), (19, 109), (25, 109), (28, 77), (30, 110)], loops := [(3, { tm := [(3, .ints .u8), (11, I6)], bs := [] }, [(.exit 0, { tm := [(3, .ints .u8)], bs := [] })])] } },
  { fid := 94, sig := { ps := [.ints .u8], rs := z76 }, ann := { calls := [(8, 111)] } },
  { fid := 95, sig := { ps := [I6, I6], rs := [.agg [I6, .arr 0], I6], rb := z73 }, ann := { joins := [(2, [(.normal, { tm := [(19, .bool)], bs := [.same] })])] } },
  { fid := 96, sig := { ps := z64, rs := z65, rb := z10, more := [([.nil, .lit .i64 10], [])] }, ann := { calls := [(5, 112), (8, 113)] } },
  { fid := 97, sig := { ps := [.ints .i64], rs := z76 }, ann := { calls := [(11, 114), (15, 115), (24, 116), (27, 117)], loops := [(7, { tm := [(5, .arr 1), (18, I6)], bs := z48 }, [(.exit 0, { tm := [(5, .arr 1)], bs := z48 })])] } },
  { fid := 99, sig := { ps := [I6], rs := [I6] }, ann := {} },
  { fid := 98, sig := { ps := [.ptr 0 0, I6, .agg [.bool, I6]], pb := z10, rs := [I6], rb := z10 }, ann := { calls := [(9, 118), (12, 119), (15, 120), (17, 121), (24, 122), (25, 123)] } },
  { fid := 100, sig := { ps := [.ptr 0 0], pb := z10, rs := [.ints .u8], rb := z12 }, ann := { calls := [(8, 124)], loops := [(5, { tm := [(3, .arr 3), (15, I6)], bs := z45 }, [(.exit 0, { tm := [(3, .arr 3)], bs := z45 }), (.ret, { tm := [(2, .arr 3)], bs := z43 })]), (10, { tm := [(3, .arr 3), (38, I6)], bs := z43 }, [(.exit 2, { tm := [(3, .arr 3)], bs := z43 })])] } },
  { fid := 219, sig := { ps := [.ptr 0 0, .rows 2, I6], pb := [.box [I6]], rs := [.bool], rb := [.box [I6]] }, ann := { calls := [(34, 125), (42, 126), (56, 85)], loops := [(2, { tm := [(11, I6)], bs := [.box [I6]] }, [(.exit 0, { tm := [], bs := [.box [I6]] }), (.ret, { tm := [(6, .bool)], bs := [.box [I6]] })])], joins := [(10, [(.normal, { tm := [(36, .bool)], bs := z79 })])] } },
  { fid := 220, sig := { ps := z42, rs := [I6] }, ann := { calls := [(21, 57)], loops := [(5, { tm := [(3, I6), (15, I6)], bs := [.same] }, [(.exit 0, { tm := [(3, I6)], bs := [.same] })])] } },
  { fid := 101, sig := { ps := [I6], rs := [.arr 0, I6], rb := z74 }, ann := { loops := [(5, { tm := [(0, I6), (4, .arr 1)], bs := z62 }, [(.exit 0, { tm := [(4, .arr 1)], bs := z62 })])], joins := [(2, [(.normal, { tm := [(10, .bool)], bs := [] })])] } },
  { fid := 102, sig := { ps := [.rows 1], rs := [.arr 0], rb := z74 }, ann := { calls := [(13, 87), (29, 87), (38, 87), (58, 88)], loops := [(3, { tm := [(3, .arr 0), (5, I6)], bs := z74 }, [(.exit 0, { tm := [(3, .arr 0)], bs := z74 })])] } },
  { fid := 103, sig := { ps := [.ints .u8], rs := z76 }, ann := { calls := [(10, 127)], loops := [(6, { tm := [(6, .arr 0), (7, I6)], bs := z73 }, [(.exit 0, { tm := [(6, .arr 0)], bs := z73 })])] } },
  { fid := 104, sig := { ps := [.ints .i64], rs := z76 }, ann := { calls := [(10, 128), (14, 129), (38, 130)], loops := [(7, { tm := [(5, .ints .i64), (6, .arr 0), (7, I6)], bs := z73 }, [(.exit 0, { tm := [(6, .arr 0)], bs := z73 })]), (10, { tm := [(8, I6)], bs := [.same] }, [(.exit 2, { tm := [(8, I6)], bs := [.same] })])] } },
  { fid := 105, sig := { ps := [I6, I6], rs := [.agg [I6, .arr 0], I6], rb := z73 }, ann := { joins := [(2, [(.normal, { tm := [(19, .bool)], bs := [.same] })])] } },
  { fid := 106, sig := { ps := z64, rs := z65, rb := z22, more := [([.nil, .lit .i64 10], [])] }, ann := { calls := [(5, 131), (8, 132), (9, 133)] } },
  { fid := 108, sig := { ps := [I6], rs := [I6] }, ann := {} },
  { fid := 107, sig := { ps := [.ptr 0 0, I6, .agg [.bool, I6]], pb := z22, rs := [I6], rb := z22 }, ann := { calls := [(10, 134), (14, 135), (18, 136), (22, 137), (42, 138)], loops := [(5, { tm := [(8, I6)], bs := z21 }, [(.exit 0, { tm := [], bs := z21 })])], joins := [(2, [(.normal, { tm := [(20, .bool)], bs := [.box z37, .ints .i64 false, .ints .u8 true, .same] })])] } },
  { fid := 109, sig := { ps := [.ptr 0 0], pb := z22, rs := [.ints .u8], rb := [.box z37, .ints .i64 true, .ints .u8 true] }, ann := { calls := [(15, 139)] } },
  { fid := 221, sig := { ps := z42, rs := [.bool] }, ann := { calls := [(7, 140), (23, 140), (44, 96)], loops := [(8, { tm := [(39, I6)], bs := [.same] }, [(.exit 0, { tm := [], bs := [.same] }), (.ret, { tm := [(2, .bool)], bs := [.same] })])], joins := [(8, [(.normal, { tm := [(2, .bool)], bs := [.same] })]), (10, [(.normal, { tm := [(35, .bool)], bs := [.same] })])] } },
  { fid := 222, sig := { ps := [.rows 2], rs := [I6, I6] }, ann := { calls := [(17, 97)], loops := [(2, { tm := [(2, I6), (3, I6), (10, I6)], bs := [] }, [(.exit 0, { tm := [(2, I6), (3, I6)], bs := [] })])] } },
  { fid := 223, sig := { ps := [.ptr 0 0, I6, I6, .fn 224 []], pb := z52, rs := [.str], rb := z52 }, ann := { calls := [(16, 99), (30, 125), (32, 99)] } },
  { fid := 225, sig := { ps := [.ptr 0 0, .bool, I6, I6], pb := z52, rs := [.bool], rb := z52 }, ann := { joins := [(2, [(.normal, { tm := [(17, .bool)], bs := [.same] })])] } },
  { fid := 223, sig := { ps := [.ptr 0 0, I6, I6, .fn 226 []], pb := z52, rs := [.str], rb := z52 }, ann := { calls := [(16, 99), (30, 126), (32, 99)] } },
  { fid := 227, sig := { ps := [.ints .u8], rs := [.ints .u8] }, ann := {} },
  { fid := 130, sig := { ps := z42, rs := [.bool] }, ann := {} },
  { fid := 110, sig := { ps := z77, rs := [I6, I6, I6] }, ann := { loops := [(4, { tm := [(4, I6), (17, I6)], bs := [] }, [(.exit 0, { tm := [], bs := [] }), (.ret, { tm := [(4, I6), (5, I6), (6, I6)], bs := [] })])], joins := [(2, [(.normal, { tm := [(16, .bool)], bs := [] })]), (22, [(.normal, { tm := [(52, .bool)], bs := [] })])] } },
  { fid := 111, sig := { ps := [.agg [I6, .ints .i64], .ints .u8], rs := z65, rb := z8, more := [([.nil, .lit .i64 10], [])] }, ann := { calls := [(8, 112), (11, 113), (20, 141)], loops := [(5, { tm := [(17, I6)], bs := z2 }, [(.exit 0, { tm := [], bs := z2 })])] } },
  { fid := 112, sig := { ps := z80, pb := z8, rs := [.agg [.bool, I6], I6], rb := z8 }, ann := { calls := [(11, 142), (19, 143), (21, 121), (28, 144)] } },
  { fid := 113, sig := { ps := [.ints .i64], rs := z76 }, ann := { calls := [(10, 114), (14, 115), (24, 117)], loops := [(7, { tm := [(5, .arr 1), (17, I6)], bs := z48 }, [(.exit 0, { tm := [(5, .arr 1)], bs := z48 })])] } },
  { fid := 114, sig := { ps := [.ints .i64], rs := z77 }, ann := { calls := [(75, 145), (97, 111), (99, 146)], loops := [(3, { tm := [(17, I6)], bs := z35 }, [(.exit 0, { tm := [], bs := z35 })]), (10, { tm := [(31, I6)], bs := z35 }, [(.exit 2, { tm := [], bs := z35 })]), (16, { tm := [(49, I6)], bs := z24 }, [(.exit 4, { tm := [], bs := z24 })]), (25, { tm := [(3, I6)], bs := z20 }, [(.normal, { tm := [], bs := z20 }), (.ret, { tm := [], bs := z20 })])] } },
  { fid := 117, sig := { ps := z80, pb := z52, rs := [.rows 1], rb := z52 }, ann := { calls := [(9, 147), (41, 148), (44, 147), (49, 108)], loops := [(3, { tm := [(5, .arr 1), (6, I6)], bs := z36 }, [(.exit 0, { tm := [(5, .arr 1)], bs := z36 }), (.ret, { tm := [(4, .rows 1)], bs := z52 })])], joins := [(6, [(.normal, { tm := [(18, .bool)], bs := z79 })]), (12, [(.normal, { tm := [(36, .bool)], bs := z79 })])] } },
  { fid := 145, sig := { ps := [I6], rs := [.ints .u8] }, ann := { calls := [(7, 76)] } },
  { fid := 146, sig := { ps := [.rows 4], rs := [.arr 0], rb := z74 }, ann := { calls := [(24, 149)], loops := [(3, { tm := [(3, I6), (11, I6)], bs := [] }, [(.exit 0, { tm := [(3, I6)], bs := [] })]), (11, { tm := [(6, .arr 0), (27, I6)], bs := z74 }, [(.exit 2, { tm := [(6, .arr 0)], bs := z74 })])] } },
  { fid := 147, sig := { ps := [.ints .u8], rs := [.ints .i64] }, ann := { calls := [(7, 150)], loops := [(3, { tm := [(10, I6)], bs := z75 }, [(.exit 0, { tm := [], bs := z75 })])] } },
  { fid := 148, sig := { ps := z64, rs := [.bool] }, ann := { loops := [(7, { tm := [(26, I6)], bs := [.same] }, [(.exit 0, { tm := [], bs := [.same] }), (.ret, { tm := [(2, .bool)], bs := [.same] })])], joins := [(2, [(.normal, { tm := [(19, .bool)], bs := [.same] })]), (45, [(.normal, { tm := [(3, I6)], bs := [.same] })])] } },
  { fid := 149, sig := { ps := z64, rs := [.agg [I6, .arr 0, .lit .i64 2048, .lit .i64 1792, .lit .i64 1568, .lit .i64 1372, .lit .i64 1201, .lit .i64 1051, .lit .i64 920, .lit .i64 805, .lit .i64 705, .lit .i64 617, .lit .i64 540, .lit .i64 473, .lit .i64 414, .lit .i64 363, .lit .i64 318, .lit .i64 279, .lit .i64 245, .lit .i64 215, .lit .i64 189, .lit .i64 166, .lit .i64 146, .lit .i64 128, .lit .i64 112, .lit .i64 98, .lit .i64 86, .lit .i64 76, .lit .i64 67, .lit .i64 59, .lit .i64 52, .lit .i64 46, .lit .i64 41, .lit .i64 36, .int .u64, .int .u64]], rb := z73 }, ann := { calls := [(4, 151), (5, 152)] } },
  { fid := 150, sig := { ps := [.ints .i64], rs := [I6] }, ann := { calls := [(9, 153)] } },
  { fid := 151, sig := { rs := [.arr 0], rb := z73 }, ann := { loops := [(3, { tm := [(6, I6)], bs := z75 }, [(.exit 0, { tm := [], bs := z75 })])] } },
  { fid := 152, sig := { ps := z76, rs := [I6] }, ann := { loops := [(2, { tm := [(8, I6)], bs := [] }, [(.exit 0, { tm := [], bs := [] }), (.ret, { tm := [(4, I6)], bs := [] })])] } },
  { fid := 153, sig := { ps := [.arr 0, I6], pb := z73, rs := [I6], rb := z75 }, ann := {} },
  { fid := 154, sig := { ps := [.ptr 0 0, I6, I6], pb := z10, rs := [I6], rb := z11 }, ann := { calls := [(9, 124), (41, 154), (42, 155), (46, 156), (55, 157)], loops := [(6, { tm := [], bs := z11 }, [(.exit 1, { tm := [], bs := z11 })])], joins := [(6, [(.normal, { tm := [(10, .bool)], bs := z70 })]), (15, [(.normal, { tm := [], bs := z70 }), (.ret, { tm := [(6, I6)], bs := z70 })])], orders := [(7, [4, 8], [[0, 1, 2, 3, 4, 5, 6, 7, 8, 9, 10, 11, 12, 13], [0, 1, 2, 3, 5, 6, 7, 8, 4, 9, 10, 11, 12, 13]])] } },
  { fid := 155, sig := { ps := [.agg [.bool, I6]], rs := [.bool] }, ann := {} },
  { fid := 157, sig := { ps := [.ptr 0 0], pb := z10, rs := z64, rb := [.box z16, .ints .i64 false, .ints .u8 true] }, ann := { calls := [(4, 124), (11, 151)] } },
  { fid := 156, sig := { ps := [.agg [I6, .ints .i64], I6, I6], rs := [I6] }, ann := {} },
  { fid := 159, sig := { ps := [I6, .agg [.bool, I6]], rs := [.rows 5] }, ann := { calls := [(30, 158), (68, 159)], loops := [(7, { tm := [(5, .arr 1), (33, I6)], bs := z67 }, [(.exit 0, { tm := [(5, .arr 1)], bs := z67 })]), (15, { tm := [(5, .arr 1), (10, I6)], bs := [.same, .rows 5 false, .box [I6]] }, [(.exit 2, { tm := [(5, .arr 1)], bs := [.same, .rows 5 false, .box [I6]] })])], joins := [(93, [(.normal, { tm := [(5, .arr 1)], bs := z67 })]), (135, [(.normal, { tm := [(11, I6)], bs := [.same, .same, .box [I6]] })]), (177, [(.normal, { tm := [], bs := [.same, .same, .same, .box [I6, I6]] })])] } },
  { fid := 158, sig := { ps := [.ptr 0 0, .rows 5], pb := z10, rs := [I6], rb := z11 }, ann := { calls := [(19, 118)], loops := [(2, { tm := [(10, I6)], bs := z11 }, [(.exit 0, { tm := [], bs := z11 }), (.ret, { tm := [(4, I6)], bs := z11 })])] } },
  { fid := 160, sig := { ps := [.ptr 0 0], pb := z10, rs := [.bool], rb := z12 }, ann := {} },
  { fid := 224, sig := { ps := [.str], rs := [.bool] }, ann := { loops := [(4, { tm := [(8, I6)], bs := [] }, [(.exit 0, { tm := [], bs := [] }), (.ret, { tm := [(2, .bool)], bs := [] })])] } },
  { fid := 226, sig := { ps := [.str], rs := [.bool] }, ann := { calls := [(4, 125)] } },
  { fid := 161, sig := { ps := [.ints .u8], rs := z76 }, ann := { calls := [(21, 160)], loops := [(5, { tm := [(4, .arr 0), (5, I6)], bs := z73 }, [(.exit 0, { tm := [(4, .arr 0)], bs := z73 })])] } },
  { fid := 162, sig := { ps := [.ints .i64], rs := [I6] }, ann := { loops := [(4, { tm := [(3, I6)], bs := [] }, [(.exit 0, { tm := [], bs := [] }), (.ret, { tm := [(2, I6)], bs := [] })])] } },
  { fid := 163, sig := { rs := [.ints .i64] }, ann := { loops := [(3, { tm := [(2, I6)], bs := z75 }, [(.exit 0, { tm := [], bs := z75 })])] } },
  { fid := 164, sig := { ps := z76, rs := [.ints .i64] }, ann := {} },
  { fid := 165, sig := { ps := z64, rs := [.bool] }, ann := { loops := [(7, { tm := [(26, I6)], bs := [.same] }, [(.exit 0, { tm := [], bs := [.same] }), (.ret, { tm := [(2, .bool)], bs := [.same] })])], joins := [(8, [(.normal, { tm := [(22, .bool)], bs := [.same] })]), (17, [(.normal, { tm := [(3, I6)], bs := [.same] })])] } },
  { fid := 166, sig := { ps := z64, rs := [.agg [I6, .arr 0]], rb := z73 }, ann := {} },
  { fid := 167, sig := { rs := z53 }, ann := {} },
  { fid := 168, sig := { ps := [.agg [.bool, I6]], rs := [.bool] }, ann := {} },
  { fid := 170, sig := { ps := [.ptr 0 0], pb := z22, rs := z64, rb := [.box z37, .ints .i64 false, .ints .u8 true] }, ann := { calls := [(10, 132)] } },
  { fid := 169, sig := { ps := [I6, I6, I6], rs := [.bool] }, ann := {} },
  { fid := 171, sig := { ps := [.agg [.bool, I6]], rs := [.rows 5] }, ann := { loops := [(9, { tm := [(6, .arr 2), (7, I6)], bs := [.same, .same, .ints .i64 false] }, [(.exit 0, { tm := [(6, .arr 2)], bs := [.same, .same, .ints .i64 false] })]), (14, { tm := [(3, .arr 1), (9, I6)], bs := z54 }, [(.exit 2, { tm := [(3, .arr 1)], bs := z54 })]), (20, { tm := [(3, .arr 1), (10, I6)], bs := z54 }, [(.exit 4, { tm := [(3, .arr 1)], bs := z54 })])], joins := [(43, [(.normal, { tm := [(4, I6), (5, I6)], bs := z79 })]), (101, [(.normal, { tm := [(3, .arr 1)], bs := z54 })]), (133, [(.normal, { tm := [(11, I6)], bs := z70 })])] } },
  { fid := 172, sig := { ps := [.ptr 0 0, I6, I6], pb := z22, rs := [I6], rb := z23 }, ann := { calls := [(43, 161), (51, 162), (74, 163), (80, 164), (102, 165)], loops := [(8, { tm := [], bs := z23 }, [(.exit 0, { tm := [], bs := z23 })])], joins := [(6, [(.normal, { tm := [(29, .bool)], bs := z70 })])] } },
  { fid := 173, sig := { ps := z53, rs := [.ints .u8] }, ann := { loops := [(3, { tm := [(3, .arr 1), (4, .int .u64)], bs := z61 }, [(.exit 0, { tm := [(3, .arr 1)], bs := z61 })])] } },
  { fid := 233, sig := { ps := [.str], rs := [.bool] }, ann := { loops := [(4, { tm := [(3, I6)], bs := [] }, [(.exit 0, { tm := [], bs := [] }), (.ret, { tm := [(2, .bool)], bs := [] })])] } },
  { fid := 174, sig := { ps := [.ptr 0 0], pb := [.box z13, .ints .i64 false, .ints .u8 false], rb := z3 }, ann := { joins := [(25, [(.normal, { tm := [(2, .int .u8)], bs := z3 })])] } },
  { fid := 175, sig := { ps := z80, pb := z8, rs := [I6, I6], rb := z8 }, ann := { calls := [(12, 166), (36, 167), (61, 168), (65, 169), (69, 170), (71, 171)], loops := [(12, { tm := [], bs := z7 }, [(.exit 1, { tm := [], bs := z7 })])], joins := [(6, [(.normal, { tm := [(13, .bool)], bs := z79 })]), (21, [(.normal, { tm := [], bs := z79 }), (.ret, { tm := [(4, I6), (5, I6)], bs := z79 })]), (85, [(.normal, { tm := [(6, I6)], bs := z79 })])] } },
  { fid := 176, sig := { ps := [.ptr 0 0], pb := z8, rs := z64, rb := z8 }, ann := { calls := [(4, 166), (11, 151)] } },
  { fid := 177, sig := { ps := z80, pb := z8, rs := [.agg [.bool, I6], I6], rb := z8 }, ann := { calls := [(16, 142), (37, 142), (57, 159), (63, 142), (85, 142)], loops := [(5, { tm := [(8, I6)], bs := z4 }, [(.exit 0, { tm := [(8, I6)], bs := z4 }), (.ret, { tm := [(5, I6)], bs := z4 })]), (14, { tm := [(9, I6), (50, I6)], bs := z1 }, [(.exit 2, { tm := [(9, I6)], bs := z1 }), (.ret, { tm := [(5, I6)], bs := z1 })])], joins := [(4, [(.normal, { tm := [(24, .bool)], bs := z70 })]), (113, [(.normal, { tm := [(12, I6)], bs := [.same, .same, .same, .box [I6]] })])] } },
  { fid := 178, sig := { ps := [.arr 0], pb := z74, rs := [.fn 218 [.ptr 1 0]], rb := [.ints .u8 true, .box [.arr 0]] }, ann := {} },
  { fid := 179, sig := { ps := [.ints .i64, .ints .i64], rs := [.bool] }, ann := { loops := [(4, { tm := [(13, I6)], bs := [] }, [(.exit 0, { tm := [], bs := [] }), (.ret, { tm := [(4, .bool)], bs := [] })])] } },
  { fid := 180, sig := { ps := [.ptr 0 0, I6, I6], pb := z52, rs := [I6], rb := z52 }, ann := { calls := [(24, 103)], joins := [(8, [(.normal, { tm := [(39, .bool)], bs := [.same] })]), (79, [(.normal, { tm := [(9, I6)], bs := [.same] })])] } },
  { fid := 181, sig := { ps := [.ptr 0 0], pb := z52, rs := [.str], rb := z52 }, ann := { calls := [(5, 147)], joins := [(4, [(.normal, { tm := [(24, .bool)], bs := [.same] })]), (49, [(.normal, { tm := [], bs := z52 })])] } },
  { fid := 199, sig := { ps := [.nilsl, I6], rs := [.arr 0], rb := z74 }, ann := { cuts := [25] } },
  { fid := 200, sig := { ps := [.ints .u8], rs := [.arr 0], rb := z73 }, ann := { calls := [(21, 172)], loops := [(3, { tm := [(11, I6)], bs := [.same, .ints .i64 true] }, [(.exit 0, { tm := [], bs := [.same, .ints .i64 true] })])] } },
  { fid := 201, sig := { ps := z64, rs := [.agg [I6, .arr 0]], rb := z73 }, ann := {} },
  { fid := 202, sig := { rs := [.agg z17] }, ann := { unroll := [(4, 1000)] } },
  { fid := 203, sig := { ps := [.ints .i64, .fn 204 []], rs := [.bool] }, ann := { calls := [(7, 173)] } },
  { fid := 206, sig := { ps := z80, pb := z10, rs := [.int .u64], rb := z12 }, ann := { calls := [(33, 174)] } },
  { fid := 205, sig := { ps := [.ptr 0 0, I6, I6, .int .u64], pb := z10, rb := z12 }, ann := { calls := [(39, 175)], joins := [(19, [(.normal, { tm := [], bs := z12 })])] } },
  { fid := 207, sig := { ps := [.ptr 0 0], pb := z10, rs := [.bool], rb := z12 }, ann := {} },
  { fid := 208, sig := { ps := [.ptr 0 0], pb := z10, rs := [.int .u8], rb := z12 }, ann := {} },
  { fid := 209, sig := { ps := [.int .u64], rs := [I6] }, ann := { calls := [(7, 176)] } },
  { fid := 210, sig := { ps := [.ptr 0 0], pb := [.box [I6]], rs := [I6], rb := [.box [I6]] }, ann := {} },
  { fid := 211, sig := { ps := [.ints .u8, .ints .i64], rs := [.ints .i64] }, ann := { calls := [(20, 160), (27, 160), (57, 177)], loops := [(6, { tm := [(7, .arr 0), (8, I6), (9, I6)], bs := z73 }, [(.exit 0, { tm := [(7, .arr 0)], bs := z73 })])], joins := [(12, [(.normal, { tm := [(37, .bool)], bs := [.same] })]), (14, [(.normal, { tm := [(59, .bool)], bs := [.same] })])] } },
  { fid := 212, sig := { ps := [I6, I6], rs := [I6] }, ann := { calls := [(12, 178), (18, 178)] } },
  { fid := 213, sig := { ps := [.agg z68, I6, I6], rs := z53 }, ann := { calls := [(13, 179), (17, 179)] } },
  { fid := 214, sig := { ps := [I6, I6, I6], rs := [I6] }, ann := { joins := [(95, [(.normal, { tm := [], bs := [.box [I6, I6]] })])] } },
  { fid := 215, sig := { ps := z53, rs := [.bool] }, ann := {} },
  { fid := 216, sig := { ps := z53, rs := z53 }, ann := {} },
  { fid := 217, sig := { ps := [.ptr 0 0], pb := z8, rs := [.bool], rb := z9 }, ann := {} },
  { fid := 206, sig := { ps := z80, pb := z8, rs := [.int .u64], rb := z9 }, ann := { calls := [(33, 174)] } },
  { fid := 205, sig := { ps := [.ptr 0 0, I6, I6, .int .u64], pb := z8, rb := z9 }, ann := { calls := [(39, 175)], joins := [(19, [(.normal, { tm := [], bs := z9 })])] } },
  { fid := 207, sig := { ps := [.ptr 0 0], pb := z8, rs := [.bool], rb := z9 }, ann := {} },
  { fid := 208, sig := { ps := [.ptr 0 0], pb := z8, rs := [.int .u8], rb := z9 }, ann := {} },
  { fid := 174, sig := { ps := [.ptr 0 0], pb := z8, rb := z9 }, ann := { joins := [(25, [(.normal, { tm := [(2, .int .u8)], bs := z9 })])] } },
  { fid := 240, sig := { ps := [.arr 0, .fn 241 [.ptr 1 0]], pb := z46, rb := z49 }, ann := { calls := [(11, 158), (13, 180)] } },
  { fid := 198, sig := { ps := [.ints .i64, .fn 204 []], rs := [I6] }, ann := { calls := [(16, 181)], loops := [(2, { tm := [(8, I6)], bs := [] }, [(.exit 0, { tm := [], bs := [] }), (.ret, { tm := [(4, I6)], bs := [] })])] } },
  { fid := 244, sig := { ps := [.agg z17, I6, I6], rs := [I6] }, ann := {} },
  { fid := 243, sig := { ps := [I6, I6, I6], rs := [I6] }, ann := { joins := [(41, [(.normal, { tm := [], bs := [.box [I6, I6]] })])] } },
  { fid := 246, sig := { ps := [.int .u64], rs := [I6] }, ann := { joins := [(9, [(.normal, { tm := z59, bs := [] })]), (17, [(.normal, { tm := z59, bs := [] })]), (29, [(.normal, { tm := z59, bs := [] })])] } },
  { fid := 247, sig := { ps := z71, rs := [.bool] }, ann := {} },
  { fid := 248, sig := { ps := [I6], rs := [I6] }, ann := { loops := [(3, { tm := [(3, I6), (4, I6)], bs := [] }, [(.exit 0, { tm := [(3, I6)], bs := [] })])] } },
  { fid := 249, sig := { ps := [.agg z68, I6], rs := [.int .u64] }, ann := {} },
  { fid := 255, sig := { ps := z41, pb := z46, rb := z49 }, ann := { calls := [(30, 182), (37, 183), (44, 184), (52, 185), (61, 186), (80, 187), (94, 188), (103, 189), (111, 190), (134, 180), (146, 180)], loops := [(2, { tm := [(1, I6), (2, I6), (3, I6), (10, .bool), (11, .bool)], bs := z49 }, [(.ret, { tm := [], bs := z49 })])], joins := [(30, [(.normal, { tm := [(75, .bool)], bs := z79 })]), (34, [(.normal, { tm := [(97, .bool)], bs := z60 })]), (79, [(.normal, { tm := [(3, I6)], bs := z49 })]), (113, [(.normal, { tm := [(13, I6), (14, I6)], bs := z49 })]), (151, [(.normal, { tm := [], bs := z49 }), (.ret, { tm := [], bs := z49 })])] } },
  { fid := 204, sig := { ps := [I6], rs := [.bool] }, ann := {} },
  { fid := 257, sig := { ps := z47, pb := z46, rb := z49 }, ann := { calls := [(32, 188)], loops := [(1, { tm := [(8, I6)], bs := z49 }, [(.exit 0, { tm := [], bs := z49 })]), (4, { tm := [(9, I6)], bs := z49 }, [(.exit 2, { tm := [], bs := z49 })])], joins := [(8, [(.normal, { tm := [(34, .bool)], bs := z60 })])] } },
  { fid := 258, sig := { ps := z47, pb := z46, rb := z49 }, ann := { calls := [(29, 191), (59, 191)], loops := [(4, { tm := [(11, I6)], bs := z49 }, [(.exit 0, { tm := [], bs := z49 })]), (8, { tm := [(12, I6)], bs := z49 }, [(.exit 2, { tm := [], bs := z49 })])] } },
  { fid := 259, sig := { ps := z47, pb := z46, rb := z49 }, ann := { calls := [(21, 192), (38, 193)], loops := [(5, { tm := [(11, I6)], bs := z38 }, [(.exit 0, { tm := [], bs := z38 })])], joins := [(91, [(.normal, { tm := [(12, I6)], bs := z70 })])] } },
  { fid := 260, sig := { ps := z47, pb := z46, rs := [I6, I6], rb := z49 }, ann := { calls := [(40, 194), (44, 194), (48, 194), (54, 195)], joins := [(69, [(.normal, { tm := [(13, I6)], bs := z32 })]), (73, [(.normal, { tm := [(12, I6), (13, I6), (14, I6)], bs := z32 })])] } },
  { fid := 261, sig := { ps := z47, pb := z46, rb := z49 }, ann := { loops := [(2, { tm := [(8, I6), (9, I6)], bs := [.ints .i64 true, .same] }, [(.exit 0, { tm := [], bs := [.ints .i64 true, .same] })])] } },
  { fid := 262, sig := { ps := z47, pb := z46, rs := [.bool], rb := z49 }, ann := { calls := [(33, 188), (82, 188), (122, 188)], loops := [(3, { tm := [(9, I6), (10, I6)], bs := z49 }, [(.exit 0, { tm := [], bs := z49 }), (.ret, { tm := [(8, .bool)], bs := z49 })]), (5, { tm := [(9, I6)], bs := z60 }, [(.exit 2, { tm := [(9, I6)], bs := z60 })]), (14, { tm := [(11, I6)], bs := z49 }, [(.exit 4, { tm := [], bs := z49 })]), (20, { tm := [(12, I6)], bs := z49 }, [(.exit 6, { tm := [], bs := z49 })])], joins := [(131, [(.normal, { tm := [], bs := z49 })])] } },
  { fid := 241, sig := { ps := [I6, I6, .ptr 0 0], pb := [.box [.ints .u8]], rs := [I6], rb := [.box [.ints .u8]] }, ann := { calls := [(12, 196)] } },
  { fid := 263, sig := { ps := z41, pb := z46, rs := [I6], rb := z49 }, ann := { calls := [(44, 188), (63, 188)], loops := [(3, { tm := [(11, I6)], bs := z60 }, [(.exit 2, { tm := [(11, I6)], bs := z60 })]), (5, { tm := [(12, I6)], bs := z60 }, [(.exit 4, { tm := [(12, I6)], bs := z60 })]), (1000003, { tm := [(11, I6), (12, I6)], bs := z49 }, [(.exit 0, { tm := [(11, I6)], bs := z49 })])] } },
  { fid := 264, sig := { ps := z41, pb := z46, rs := [I6, .bool], rb := z49 }, ann := { calls := [(45, 188), (63, 188), (118, 188), (136, 188)], loops := [(3, { tm := [(12, I6)], bs := z60 }, [(.exit 0, { tm := [(12, I6)], bs := z60 })]), (5, { tm := [(13, I6)], bs := z60 }, [(.exit 2, { tm := [(13, I6)], bs := z60 })]), (13, { tm := [(12, I6)], bs := z60 }, [(.exit 6, { tm := [(12, I6)], bs := z60 })]), (15, { tm := [(13, I6)], bs := z60 }, [(.exit 8, { tm := [(13, I6)], bs := z60 })]), (1000013, { tm := [(12, I6), (13, I6)], bs := z49 }, [(.exit 4, { tm := [(13, I6)], bs := z49 })])] } },
  { fid := 265, sig := { ps := z41, pb := z46, rb := z49 }, ann := { calls := [(38, 188), (56, 188)], loops := [(1, { tm := [(10, I6)], bs := z49 }, [(.exit 0, { tm := [], bs := z49 }), (.ret, { tm := [], bs := z49 })])], joins := [(6, [(.normal, { tm := [(40, .bool)], bs := z60 })]), (81, [(.normal, { tm := [(11, I6)], bs := z79 })])] } },
  { fid := 266, sig := { ps := [I6], rs := [.int .u64] }, ann := { calls := [(5, 158)] } },
  { fid := 267, sig := { ps := [.ptr 0 0], pb := [.box [.int .u64]], rs := [.int .u64], rb := [.box [.int .u64]] }, ann := {} },
  { fid := 268, sig := { ps := [.arr 0, I6, .ptr 1 0, .fn 241 [.ptr 2 0]], pb := z31, rs := [I6], rb := z33 }, ann := { calls := [(17, 195)] } },
  { fid := 269, sig := { ps := [.arr 0, I6, I6, I6, .ptr 1 0, .fn 241 [.ptr 2 0]], pb := z31, rs := [I6], rb := z33 }, ann := { calls := [(19, 197), (28, 197), (37, 197)] } },
  { fid := 242, sig := { ps := z66, rs := [I6] }, ann := {} },
  { fid := 270, sig := { ps := [.arr 0, I6, I6, .ptr 1 0, .fn 241 [.ptr 2 0]], pb := z31, rs := [I6, I6], rb := z33 }, ann := { calls := [(21, 188)] } }]
noncomputable def G : Prg := { P := Tryz.prog, E := E, el := fun t => lookN t els, F := fun i => (getL insts i).getD { fid := 0, sig := {}, ann := {} }, cmp := fun f => Nat.beq f 256, ents := [(98, 3)] }
theorem B1029 : ∀ {l : List (PV TT)} {x : File}, inn0 l = some x -> Sames (E := E) l (outs0 x)
  | [], _, h => by cases h
  | [_], _, h => by cases h
  | [_, _], _, h => by cases h
  | [_, _, _], _, h => by
    simp only [inn0] at h
    obtain ⟨y0, h0, h⟩ := A34.1 h; obtain ⟨y1, h1, h⟩ := A34.1 h; obtain ⟨y2, h2, h⟩ := A34.1 h; cases h; exact .cons (V.asStr_same h0) (.cons (V.asInt_same h1) (.cons (V.asInts_same h2) (.nil)))
  | _ :: _ :: _ :: _ :: _, _, h => by cases h
theorem B1030 : ∀ {l : List (PV TT)} {x : Outline}, inn1 l = some x -> Sames (E := E) l (outs1 x)
  | [], _, h => by cases h
  | [_], _, h => by cases h
  | [_, _], _, h => by cases h
  | [_, _, _], _, h => by
    simp only [inn1] at h
    obtain ⟨y0, h0, h⟩ := A34.1 h; obtain ⟨y1, h1, h⟩ := A34.1 h; obtain ⟨y2, h2, h⟩ := A34.1 h; cases h; exact .cons (V.asStr_same h0) (.cons (V.asInt_same h1) (.cons (V.asRows_same h2) (.nil)))
  | _ :: _ :: _ :: _ :: _, _, h => by cases h
theorem B1031 : ∀ {l : List (PV TT)} {x : Chunk}, inn2 l = some x -> Sames (E := E) l (outs2 x)
  | [], _, h => by cases h
  | [_], _, h => by cases h
  | [_, _], _, h => by cases h
  | [_, _, _], _, h => by cases h
  | [_, _, _, _], _, h => by
    simp only [inn2] at h
    obtain ⟨y0, h0, h⟩ := A34.1 h; obtain ⟨y1, h1, h⟩ := A34.1 h; obtain ⟨y2, h2, h⟩ := A34.1 h; obtain ⟨y3, h3, h⟩ := A34.1 h; cases h; exact .cons (V.asStr_same h0) (.cons (V.asStr_same h1) (.cons (V.asInts_same h2) (.cons (V.asRows_same h3) (.nil))))
  | _ :: _ :: _ :: _ :: _ :: _, _, h => by cases h
theorem B1032 : ∀ {l : List (PV TT)} {x : Entuint8}, inn3 l = some x -> Sames (E := E) l (outs3 x)
  | [], _, h => by cases h
  | [_], _, h => by cases h
  | [_, _], _, h => by
    simp only [inn3] at h
    obtain ⟨y0, h0, h⟩ := A34.1 h; obtain ⟨y1, h1, h⟩ := A34.1 h; cases h; exact .cons (V.asStr_same h0) (.cons (V.asInts_same h1) (.nil))
  | _ :: _ :: _ :: _, _, h => by cases h
theorem B1033 : ∀ {l : List (PV TT)} {x : List Int}, inn4 l = some x -> Sames (E := E) l (outs4 x)
  | [], _, h => by cases h
  | [_], _, h => by
    simp only [inn4] at h
    obtain ⟨y0, h0, h⟩ := A34.1 h; cases h; exact .cons (V.asInts_same h0) (.nil)
  | _ :: _ :: _, _, h => by cases h
theorem B1034 : ∀ {l : List (PV TT)} {x : Event}, inn5 l = some x -> Sames (E := E) l (outs5 x)
  | [], _, h => by cases h
  | [_], _, h => by cases h
  | [_, _], _, h => by
    simp only [inn5] at h
    obtain ⟨y0, h0, h⟩ := A34.1 h; obtain ⟨y1, h1, h⟩ := A34.1 h; cases h; exact .cons (V.asInt_same h0) (.cons (V.asInt_same h1) (.nil))
  | _ :: _ :: _ :: _, _, h => by cases h
theorem envOk : EnvOk E := by
  refine EnvOk.of ?_ ?_ ?_
  . intro i l x h
    match i, x, h with
    | 0, x, h => exact B1029 h
    | 1, x, h => exact B1030 h
    | 2, x, h => exact B1031 h
    | 3, x, h => exact B1032 h
    | 4, x, h => exact B1033 h
    | 5, x, h => exact B1034 h
    | i + 6, x, h => cases h
  . intro i x
    match i, x with
    | 0, x => rfl
    | 1, x => rfl
    | 2, x => rfl
    | 3, x => rfl
    | 4, x => rfl
    | 5, x => rfl
    | i + 6, x => rfl
  . intro i x p hf hp
    match i, x with
    | 0, x => exact absurd hf (by decide)
    | 1, x => exact absurd hf (by decide)
    | 2, x => exact absurd hf (by decide)
    | 3, x => exact absurd hf (by decide)
    | 4, x => exact absurd hf (by decide)
    | 5, x => exact B627 (.inl ⟨_, _, rfl⟩) (B627 (.inl ⟨_, _, rfl⟩) (B976)) p hp
    | i + 6, x => exact absurd hf (by simp [E, getL])
theorem elsOk : els.all (okEl G) = true := by kernel_rfl
theorem prgOk : PrgOk G := .of envOk els (fun _ => rfl) elsOk (by kernel_rfl) (fun f h => by have h := B7 (show Nat.beq f 256 = true from h); subst h; exact ⟨_, rfl, by kernel_rfl, by kernel_rfl, by kernel_rfl, by kernel_rfl⟩)
noncomputable def bulk0 (x : File) : Nat := (x.name.length + 1) + (1 + ((x.data.length + 1) + 0))
mutual
noncomputable def bulk1 : Outline -> Nat
  | .mk title page kids => (title.length + 1) + (1 + ((bulkL1 kids + 1) + 0))
noncomputable def bulkL1 : List Outline -> Nat
  | [] => 0
  | x :: l => bulk1 x + bulkL1 l
end
mutual
noncomputable def bulk2 : Chunk -> Nat
  | .mk id kind data kids => (id.length + 1) + ((kind.length + 1) + ((data.length + 1) + ((bulkL2 kids + 1) + 0)))
noncomputable def bulkL2 : List Chunk -> Nat
  | [] => 0
  | x :: l => bulk2 x + bulkL2 l
end
noncomputable def bulk3 (x : Entuint8) : Nat := (x.key.length + 1) + ((x.val.length + 1) + 0)
noncomputable def bulk4 (x : List Int) : Nat := (x.length + 1) + 0
noncomputable def bulk5 (x : Event) : Nat := 1 + (1 + 0)
noncomputable def bulk : (i : Nat) -> TT i -> Nat
  | 0, x => bulk0 x
  | 1, x => bulk1 x
  | 2, x => bulk2 x
  | 3, x => bulk3 x
  | 4, x => bulk4 x
  | 5, x => bulk5 x
  | _, _ => 0
theorem B958 (x : File) : bulk0 x = B31 bulk (outs0 x) := by simp only [bulk0, outs0, B31, bulkP] <;> rfl
theorem B411 : ∀ l : List Outline, bulkL1 l = sumL bulk1 l
  | [] => by simp only [bulkL1, sumL]
  | x :: l => by simp only [bulkL1, sumL, B411 l]
theorem B959 : ∀ x : Outline, bulk1 x = B31 bulk (outs1 x)
  | .mk title page kids => by have e2 := B359 (b := bulk) (i := 1) (f := bulk1) (fun _ => rfl) kids; simp only [bulk1, outs1, B31, bulkP, B411, e2] <;> rfl
theorem B611 : ∀ l : List Chunk, bulkL2 l = sumL bulk2 l
  | [] => by simp only [bulkL2, sumL]
  | x :: l => by simp only [bulkL2, sumL, B611 l]
theorem B960 : ∀ x : Chunk, bulk2 x = B31 bulk (outs2 x)
  | .mk id kind data kids => by have e3 := B359 (b := bulk) (i := 2) (f := bulk2) (fun _ => rfl) kids; simp only [bulk2, outs2, B31, bulkP, B611, e3] <;> rfl
theorem B961 (x : Entuint8) : bulk3 x = B31 bulk (outs3 x) := by simp only [bulk3, outs3, B31, bulkP] <;> rfl
theorem B962 (x : List Int) : bulk4 x = B31 bulk (outs4 x) := by simp only [bulk4, outs4, B31, bulkP] <;> rfl
theorem B963 (x : Event) : bulk5 x = B31 bulk (outs5 x) := by simp only [bulk5, outs5, B31, bulkP] <;> rfl
theorem B1072 : RowsOk G bulk where
  bulk i x := by
    match i, x with
    | 0, x => exact B958 x
    | 1, x => exact B959 x
    | 2, x => exact B960 x
    | 3, x => exact B961 x
    | 4, x => exact B962 x
    | 5, x => exact B963 x
    | i + 6, x => rfl
  int e k h := ⟨(prgOk.int e k h).1, B561 elsOk h⟩
  row e i h := by
    have hc := B561 elsOk h
    have hm := B239 h
    simp only [els, A19, A71, A72, A33, reduceCtorEq, and_false, false_or, EK.row.injEq] at hm
    rcases hm with ⟨rfl, rfl⟩ | ⟨rfl, rfl⟩ | ⟨rfl, rfl⟩ | ⟨rfl, rfl⟩ | ⟨rfl, rfl⟩
    . refine ⟨8, [.ints .u8], by kernel_rfl, hc, by decide, fun ps h => ?_⟩
      obtain ⟨y0, r0, rfl, h0⟩ := B300 h; cases B218 h0; exact ⟨y0, rfl⟩
    . refine ⟨8, [.str, .int .i64, .ints .u8], by kernel_rfl, hc, by decide, fun ps h => ?_⟩
      obtain ⟨y0, r0, rfl, h0⟩ := B277 h; obtain ⟨y1, r1, rfl, h1⟩ := B276 h0; obtain ⟨y2, r2, rfl, h2⟩ := B300 h1; cases B218 h2; exact ⟨⟨y0, y1, y2⟩, rfl⟩
    . refine ⟨8, [.str, .str, .ints .u8, .rows 2], by kernel_rfl, hc, by decide, fun ps h => ?_⟩
      obtain ⟨y0, r0, rfl, h0⟩ := B277 h; obtain ⟨y1, r1, rfl, h1⟩ := B277 h0; obtain ⟨y2, r2, rfl, h2⟩ := B300 h1; obtain ⟨y3, r3, rfl, h3⟩ := B235 h2; cases B218 h3; exact ⟨⟨y0, y1, y2, y3⟩, rfl⟩
    . refine ⟨8, [.str, .int .i64, .rows 1], by kernel_rfl, hc, by decide, fun ps h => ?_⟩
      obtain ⟨y0, r0, rfl, h0⟩ := B277 h; obtain ⟨y1, r1, rfl, h1⟩ := B276 h0; obtain ⟨y2, r2, rfl, h2⟩ := B235 h1; cases B218 h2; exact ⟨⟨y0, y1, y2⟩, rfl⟩
    . refine ⟨8, [.int .i64, .int .i64], by kernel_rfl, hc, by decide, fun ps h => ?_⟩
      obtain ⟨y0, r0, rfl, h0⟩ := B276 h; obtain ⟨y1, r1, rfl, h1⟩ := B276 h0; cases B218 h1; exact ⟨⟨y0, y1⟩, rfl⟩
noncomputable def Z0 (b1 : List File) (b2 : List Outline) : Option Bool := call G 0 (b1, b2)
noncomputable def Z1 (b1 : List File) (b2 : List Outline) : Option Bool := call G 1 (b1, b2)
noncomputable def Z2 : Option Bool := call G 2 ()
noncomputable def Z3 (b1 : List File) (b2 : List Outline) : Option ((List Int) × Int) := call G 3 (b1, b2)
noncomputable def Z4 (b1 : List File) (b2 : List Outline) : Option ((List Int) × Int) := call G 4 (b1, b2)
noncomputable def Z5 (b1 : List File) (b2 : List Outline) : Option ((List Int) × Int) := call G 5 (b1, b2)
noncomputable def Z6 (b1 : List File) (b2 : List Outline) : Option ((List Int) × Int) := call G 6 (b1, b2)
noncomputable def Z7 (a1 b2 : List Int) : Option Bool := call G 7 (a1, b2)
noncomputable def Z8 (b1 : List File) (b2 : List Outline) : Option Bool := call G 8 (b1, b2)
noncomputable def Z9 (b1 : List File) (b2 : List Outline) : Option Bool := call G 9 (b1, b2)
noncomputable def Z10 (b1 : List Int) : Option ((List File) × (List Outline) × Int) := call G 10 b1
noncomputable def Z11 (a1 : List File) (a2 : List Outline) (b3 : List File) (b4 : List Outline) : Option Bool := call G 11 (a1, a2, b3, b4)
noncomputable def Z12 (a1 : List File) (a2 : List Outline) (b3 : List File) (b4 : List Outline) : Option Bool := call G 12 (a1, a2, b3, b4)
noncomputable def Z13 (l1 : List Outline) (deep2 left3 : Int) : Option Int := call G 13 (l1, deep2, left3)
noncomputable def Z14 (b1 : List File) (b2 : List Outline) (at3 : Int) (f4 : List Int) (f5 : Int) (f6 : List Int) : Option ((List File) × (List Outline) × Int) := call G 14 (b1, b2, at3, f4, f5, f6)
noncomputable def Z15 (kind1 : List Int) (b2 : List File) (b3 : List Outline) (files4 : List File) : Option ((List Int) × Int) := call G 15 (kind1, b2, b3, files4)
noncomputable def Z16 (kind1 : List Int) (b2 : List File) (b3 : List Outline) (files4 : List File) : Option ((List Int) × Int) := call G 16 (kind1, b2, b3, files4)
noncomputable def Z17 (b1 : List Int) (e2 : Int) : Option ((List Int) × Int) := call G 17 (b1, e2)
noncomputable def Z18 (l1 : List Outline) : Option Bool := call G 18 l1
noncomputable def Z19 (f1 : List Int) (f2 : Int) (f3 : List Int) : Option Bool := call G 19 (f1, f2, f3)
noncomputable def Z20 (l1 : List File) (name2 : List Int) : Option Int := call G 20 (l1, name2)
noncomputable def Z21 (f1 : List Int) (f2 : Int) (f3 : List Int) : Option Bool := call G 21 (f1, f2, f3)
noncomputable def Z22 (l1 : List File) : Option Bool := call G 22 l1
noncomputable def Z23 (l1 : List Outline) : Option Bool := call G 23 l1
noncomputable def Z24 (b1 : List Int) : Option ((List Chunk) × Int × Int) := call G 24 b1
noncomputable def Z25 (l1 : List Chunk) : Option Bool := call G 25 l1
noncomputable def Z26 (c1 c2 c3 : List Int) (c4 : List Chunk) (b5 : List Int) (b6 : List Outline) (b7 : List File) (b8 : List Entuint8) : Option (Int × (List Int) × (List Outline) × (List Entuint8) × (List File)) := call G 26 (c1, c2, c3, c4, b5, b6, b7, b8)
noncomputable def Z27 (a1 b2 : List Outline) : Option Bool := call G 27 (a1, b2)
noncomputable def Z28 (a1 : List Int) (a2 : Int) (a3 b4 : List Int) (b5 : Int) (b6 : List Int) : Option Bool := call G 28 (a1, a2, a3, b4, b5, b6)
noncomputable def Z29 (a1 b2 : List Outline) : Option Bool := call G 29 (a1, b2)
noncomputable def Z30 (s1 s2 : List File) : Option Bool := call G 30 (s1, s2)
noncomputable def Z31 (b1 : List File) (b2 : List Outline) : Option ((List Outline) × (List File)) := call G 31 (b1, b2)
noncomputable def Z32 (s1 : List Int) : Option (List Int) := call G 32 s1
noncomputable def Z33 (i1 : Int) (v2 b3 : List File) : Option (List File) := call G 33 (i1, v2, b3)
noncomputable def Z34 (b1 : List File) (b2 : List Outline) : Option ((List Int) × Int) := call G 34 (b1, b2)
noncomputable def Z35 (f1 : List Int) (f2 : Int) (f3 : List Int) : Option ((List Int) × (List Int) × (List Int) × (List Chunk)) := call G 35 (f1, f2, f3)
noncomputable def Z36 (l1 : List Chunk) : Option ((List Int) × Int) := call G 36 l1
noncomputable def Z37 (b1 : List File) (b2 : List Outline) : Option ((List Int) × Int) := call G 37 (b1, b2)
noncomputable def Z38 (f1 : List Int) (f2 : Int) (f3 : List Int) : Option ((List Int) × (List Int) × (List Int) × (List Chunk)) := call G 38 (f1, f2, f3)
noncomputable def Z39 (l1 : List Chunk) : Option ((List Int) × Int) := call G 39 l1
noncomputable def Z40 (l1 : List Outline) (depth2 b3 : Int) : Option (Bool × Int) := call G 40 (l1, depth2, b3)
noncomputable def Z41 (s1 : List Int) : Option Bool := call G 41 s1
noncomputable def Z42 (s1 : List File) (b2 : List Int) : Option (Int × (List Int)) := call G 42 (s1, b2)
noncomputable def Z43 (s1 : List Int) : Option Bool := call G 43 s1
noncomputable def Z44 (l1 : List File) (name2 : List Int) : Option Int := call G 44 (l1, name2)
noncomputable def Z45 (l1 : List Outline) : Option (Int × Int × Bool) := call G 45 l1
noncomputable def Z46 (at1 end2 depth3 : Int) (b4 : List Int) (b5 b6 b7 : Int) : Option ((List Chunk) × (List Int) × Int × Int × Int) := call G 46 (at1, end2, depth3, b4, b5, b6, b7)
noncomputable def Z47 (s1 : List Chunk) : Option Bool := call G 47 s1
noncomputable def Z48 (d1 : List Int) : Option ((List Int) × (List Outline) × Int × (List File)) := call G 48 d1
noncomputable def Z49 (b1 : List Int) (b2 b3 : Int) : Option ((List Int) × (List Int) × Int × Int) := call G 49 (b1, b2, b3)
noncomputable def Z50 (s1 s2 : List Outline) : Option Bool := call G 50 (s1, s2)
noncomputable def Z51 (x1 : List Int) (x2 : Int) (x3 y4 : List Int) (y5 : Int) (y6 : List Int) : Option Bool := call G 51 (x1, x2, x3, y4, y5, y6)
noncomputable def Z52 (l1 : List Outline) : Option (List Outline) := call G 52 l1
noncomputable def Z53 (n1 : Int) (l2 : List Int) : Option (List Int) := call G 53 (n1, l2)
noncomputable def Z54 (l1 : List Outline) : Option ((List Int) × Int) := call G 54 l1
noncomputable def Z55 (text1 : List Int) : Option ((List Int) × Int) := call G 55 text1
noncomputable def Z56 (l1 : List Chunk) : Option Bool := call G 56 l1
noncomputable def Z57 (c1 c2 c3 : List Int) (c4 : List Chunk) : Option Int := call G 57 (c1, c2, c3, c4)
noncomputable def Z58 (c1 c2 c3 : List Int) (c4 : List Chunk) (b5 : List Int) : Option (List Int) := call G 58 (c1, c2, c3, c4, b5)
noncomputable def Z59 (n1 : Int) : Option (List Int) := call G 59 n1
noncomputable def Z60 (l1 : List Outline) : Option ((List Int) × Int) := call G 60 l1
noncomputable def Z61 (text1 : List Int) : Option ((List Int) × Int) := call G 61 text1
noncomputable def Z62 (l1 : List Chunk) : Option Bool := call G 62 l1
noncomputable def Z63 (c1 c2 c3 : List Int) (c4 : List Chunk) : Option Int := call G 63 (c1, c2, c3, c4)
noncomputable def Z64 (l1 : List Chunk) : Option (List Int) := call G 64 l1
noncomputable def Z65 (f1 : List Int) (f2 : Int) (f3 b4 : List Int) : Option (Bool × (List Int)) := call G 65 (f1, f2, f3, b4)
noncomputable def Z66 (at1 end2 depth3 : Int) (b4 : List Int) (b5 b6 b7 : Int) : Option ((List Int) × (List Int) × (List Int) × (List Chunk) × Int × (List Int) × Int × Int × Int) := call G 66 (at1, end2, depth3, b4, b5, b6, b7)
noncomputable def Z67 (s1 : List Chunk) : Option Int := call G 67 s1
noncomputable def Z68 (b1 : List Int) : Option ((List Int) × Int) := call G 68 b1
noncomputable def Z69 (b1 : List Int) (b2 b3 : Int) : Option (Int × (List Int) × Int × Int) := call G 69 (b1, b2, b3)
noncomputable def Z70 (ok1 : Bool) (err2 : Int) (b3 : List Int) (b4 b5 : Int) : Option (Bool × (List Int) × Int × Int) := call G 70 (ok1, err2, b3, b4, b5)
noncomputable def Z71 (b1 : List Int) (b2 b3 : Int) : Option ((List Int) × Int × (List Int) × Int × (List Int) × Int × Int) := call G 71 (b1, b2, b3)
noncomputable def Z72 (b1 : List Int) : Option ((List Outline) × Int) := call G 72 b1
noncomputable def Z73 (n1 : Int) (b2 : List Int) (b3 b4 : Int) : Option ((List Int) × (List Int) × Int × Int) := call G 73 (n1, b2, b3, b4)
noncomputable def Z74 (x1 : List Int) (x2 : Int) (x3 : List Outline) (y4 : List Int) (y5 : Int) (y6 : List Outline) : Option Bool := call G 74 (x1, x2, x3, y4, y5, y6)
noncomputable def Z75 (s1 s2 : List Int) : Option Bool := call G 75 (s1, s2)
noncomputable def Z76 (n1 : Int) : Option (Int × (List Int)) := call G 76 n1
noncomputable def Z77 (l1 : List Outline) : Option (List Int) := call G 77 l1
noncomputable def Z78 (text1 : List Int) : Option ((List Int) × Int) := call G 78 text1
noncomputable def Z79 (kind1 n2 : Int) : Option (Int × Int × (List Int)) := call G 79 (kind1, n2)
noncomputable def Z80 (m1 : Int) (m2 : List Int) : Option ((Int × Int × Int × (List Int) × (List Int)) ⊕ (Unit)) := call G 80 (m1, m2)
noncomputable def Z81 (l1 : List Int) : Option ((List Int) × Int) := call G 81 l1
noncomputable def Z82 (last1 : Int) : Option Int := call G 82 last1
noncomputable def Z83 (base1 : Int) (n2 : Bool) (n3 b4 b5 b6 : Int) (b7 b8 : List Int) : Option (Int × Int × Int × Int × (List Int) × (List Int)) := call G 83 (base1, n2, n3, b4, b5, b6, b7, b8)
noncomputable def Z84 (b1 b2 b3 : Int) (b4 b5 : List Int) : Option ((List Int) × Int × Int × Int × (List Int) × (List Int)) := call G 84 (b1, b2, b3, b4, b5)
noncomputable def Z85 (l1 : List Chunk) (depth2 b3 : Int) : Option (Bool × Int) := call G 85 (l1, depth2, b3)
noncomputable def Z86 (c1 c2 c3 : List Int) (c4 : List Chunk) : Option Int := call G 86 (c1, c2, c3, c4)
noncomputable def Z87 (n1 : Int) : Option (Int × (List Int)) := call G 87 n1
noncomputable def Z88 (l1 : List Outline) : Option (List Int) := call G 88 l1
noncomputable def Z89 (text1 : List Int) : Option ((List Int) × Int) := call G 89 text1
noncomputable def Z90 (l1 : List Int) : Option ((List Int) × Int) := call G 90 l1
noncomputable def Z91 (kind1 n2 : Int) : Option (Int × Int × (List Int)) := call G 91 (kind1, n2)
noncomputable def Z92 (m1 : Int) (m2 : List Int) : Option ((Int × Int × Int × (List Int) × (List Int)) ⊕ (Unit)) := call G 92 (m1, m2)
noncomputable def Z93 (was1 : Int) : Option Int := call G 93 was1
noncomputable def Z94 (base1 : Int) (n2 : Bool) (n3 b4 b5 b6 : Int) (b7 b8 : List Int) : Option (Int × Int × Int × Int × (List Int) × (List Int)) := call G 94 (base1, n2, n3, b4, b5, b6, b7, b8)
noncomputable def Z95 (b1 b2 b3 : Int) (b4 b5 : List Int) : Option ((List Int) × Int × Int × Int × (List Int) × (List Int)) := call G 95 (b1, b2, b3, b4, b5)
noncomputable def Z96 (c1 c2 c3 : List Int) (c4 : List Chunk) : Option Bool := call G 96 (c1, c2, c3, c4)
noncomputable def Z97 (l1 : List Chunk) : Option (Int × Int) := call G 97 l1
noncomputable def Z98 (at1 end2 : Int) (b3 : List Int) (b4 b5 b6 : Int) : Option ((List Int) × (List Int) × Int × Int × Int) := call G 98 (at1, end2, b3, b4, b5, b6)
noncomputable def Z99 (ok1 : Bool) (err2 at3 : Int) (b4 : List Int) (b5 b6 b7 : Int) : Option (Bool × (List Int) × Int × Int × Int) := call G 99 (ok1, err2, at3, b4, b5, b6, b7)
noncomputable def Z100 (at1 end2 : Int) (b3 : List Int) (b4 b5 b6 : Int) : Option ((List Int) × (List Int) × Int × Int × Int) := call G 100 (at1, end2, b3, b4, b5, b6)
noncomputable def Z101 (b1 : List Int) : Option (List Int) := call G 101 b1
noncomputable def Z102 (x1 x2 x3 : List Int) (x4 : List Chunk) : Option Bool := call G 102 (x1, x2, x3, x4)
noncomputable def Z103 (b1 : List Int) (at2 : Int) : Option (Int × Int × Int) := call G 103 (b1, at2)
noncomputable def Z104 (m1 : Int) (m2 b3 : List Int) : Option ((Int × Int × Int × (List Int) × Int × Int × Int × Bool × (List Int)) ⊕ (Unit)) := call G 104 (m1, m2, b3)
noncomputable def Z105 (base1 b2 b3 b4 : Int) (b5 : List Int) (b6 b7 b8 : Int) (b9 : Bool) (b10 : List Int) : Option (Bool × Int × Int × Int × Int × Int × (List Int) × Int × Int × Int × Bool × (List Int)) := call G 105 (base1, b2, b3, b4, b5, b6, b7, b8, b9, b10)
noncomputable def Z106 (l1 : List Int) : Option ((List Int) × Int) := call G 106 l1
noncomputable def Z107 (l1 : List Int) : Option ((List Int) × Int) := call G 107 l1
noncomputable def Z108 (depth1 : Int) (b2 : List Int) (b3 b4 b5 : Int) : Option ((List Outline) × (List Int) × Int × Int × Int) := call G 108 (depth1, b2, b3, b4, b5)
noncomputable def Z109 (n1 : Int) : Option (List Int) := call G 109 n1
noncomputable def B108 (slices1 : List (List Int)) : Option (List Int) := call G 110 slices1
noncomputable def Z111 (text1 : List Int) : Option (List Int) := call G 111 text1
noncomputable def Z112 (m1 : Int) (m2 : List Int) : Option Bool := call G 112 (m1, m2)
noncomputable def Z113 (m1 : Int) (m2 : List Int) : Option (Int × Int × Int × (List Int)) := call G 113 (m1, m2)
noncomputable def Z114 (l1 : List Int) : Option Int := call G 114 l1
noncomputable def Z115 : Option (List Int) := call G 115 ()
noncomputable def Z116 (s1 : List Int) (v2 : Int) : Option Int := call G 116 (s1, v2)
noncomputable def Z117 (place1 : Int) (b2 : List Int) : Option (Int × (List Int)) := call G 117 (place1, b2)
noncomputable def Z118 (ctx1 bit2 b3 b4 b5 : Int) (b6 b7 : List Int) : Option (Int × Int × Int × Int × (List Int) × (List Int)) := call G 118 (ctx1, bit2, b3, b4, b5, b6, b7)
noncomputable def Z119 (n1 : Bool) (n2 : Int) : Option Bool := call G 119 (n1, n2)
noncomputable def Z120 (b1 b2 b3 : Int) (b4 b5 : List Int) : Option (Int × (List Int) × Int × Int × Int × (List Int) × (List Int)) := call G 120 (b1, b2, b3, b4, b5)
noncomputable def Z121 (m1 : Int) (m2 : List Int) (base3 n4 : Int) : Option Int := call G 121 (m1, m2, base3, n4)
noncomputable def Z122 (base1 : Int) (n2 : Bool) (n3 : Int) : Option (List Event) := call G 122 (base1, n2, n3)
noncomputable def Z123 (l1 : List Event) (b2 b3 b4 : Int) (b5 b6 : List Int) : Option (Int × Int × Int × Int × (List Int) × (List Int)) := call G 123 (l1, b2, b3, b4, b5, b6)
noncomputable def Z124 (b1 b2 b3 : Int) (b4 b5 : List Int) : Option (Bool × Int × Int × Int × (List Int) × (List Int)) := call G 124 (b1, b2, b3, b4, b5)
noncomputable def Z125 (s1 : List Int) : Option Bool := call G 125 s1
noncomputable def Z126 (s1 : List Int) : Option Bool := call G 126 s1
noncomputable def Z127 (text1 : List Int) : Option ((List Int) × Int) := call G 127 text1
noncomputable def Z128 (l1 : List Int) : Option Int := call G 128 l1
noncomputable def Z129 : Option (List Int) := call G 129 ()
noncomputable def Z130 (l1 : List Int) (at2 : Int) : Option (List Int) := call G 130 (l1, at2)
noncomputable def Z131 (m1 : Int) (m2 : List Int) : Option Bool := call G 131 (m1, m2)
noncomputable def Z132 (m1 : Int) (m2 : List Int) : Option (Int × (List Int)) := call G 132 (m1, m2)
noncomputable def Z133 : Option (Int × Int) := call G 133 ()
noncomputable def Z134 (n1 : Bool) (n2 : Int) : Option Bool := call G 134 (n1, n2)
noncomputable def Z135 (b1 b2 b3 : Int) (b4 b5 : List Int) : Option (Int × (List Int) × Int × Int × Int × (List Int) × (List Int)) := call G 135 (b1, b2, b3, b4, b5)
noncomputable def Z136 (states1 base2 n3 : Int) : Option Bool := call G 136 (states1, base2, n3)
noncomputable def Z137 (n1 : Bool) (n2 : Int) : Option (List Event) := call G 137 (n1, n2)
noncomputable def Z138 (ctx1 bit2 b3 b4 b5 : Int) (b6 b7 : List Int) : Option (Int × Int × Int × Int × (List Int) × (List Int)) := call G 138 (ctx1, bit2, b3, b4, b5, b6, b7)
noncomputable def Z139 (x1 x2 : Int) : Option (List Int) := call G 139 (x1, x2)
noncomputable def Z140 (s1 : List Int) : Option Bool := call G 140 s1
noncomputable def Z141 (b1 b2 b3 b4 b5 b6 : Int) (b7 b8 : List Int) : Option (Int × Int × Int × Int × Int × Int × (List Int) × (List Int)) := call G 141 (b1, b2, b3, b4, b5, b6, b7, b8)
noncomputable def Z142 (ctx1 b2 b3 b4 : Int) (b5 : List Int) (b6 b7 b8 : Int) (b9 : Bool) (b10 : List Int) : Option (Int × Int × Int × Int × Int × (List Int) × Int × Int × Int × Bool × (List Int)) := call G 142 (ctx1, b2, b3, b4, b5, b6, b7, b8, b9, b10)
noncomputable def Z143 (b1 b2 b3 : Int) (b4 : List Int) (b5 b6 b7 : Int) (b8 : Bool) (b9 : List Int) : Option (Int × (List Int) × Int × Int × Int × (List Int) × Int × Int × Int × Bool × (List Int)) := call G 143 (b1, b2, b3, b4, b5, b6, b7, b8, b9)
noncomputable def Z144 (base1 b2 b3 b4 : Int) (b5 : List Int) (b6 b7 b8 : Int) (b9 : Bool) (b10 : List Int) : Option (Bool × Int × Int × Int × Int × Int × (List Int) × Int × Int × Int × Bool × (List Int)) := call G 144 (base1, b2, b3, b4, b5, b6, b7, b8, b9, b10)
noncomputable def Z145 (b1 : List Int) : Option (List Int) := call G 145 b1
noncomputable def Z146 (s1 s2 : List Int) : Option Bool := call G 146 (s1, s2)
noncomputable def Z147 (low1 high2 : Int) (b3 : List Int) (b4 b5 b6 : Int) : Option (Int × (List Int) × Int × Int × Int) := call G 147 (low1, high2, b3, b4, b5, b6)
noncomputable def Z148 (b1 : List Int) (b2 b3 b4 : Int) : Option ((List Int) × (List Int) × Int × Int × Int) := call G 148 (b1, b2, b3, b4)
noncomputable def Z149 (n1 : Int) : Option (List Int) := call G 149 n1
noncomputable def Z150 (text1 : List Int) : Option (List Int) := call G 150 text1
noncomputable def Z151 (m1 : Int) (m2 : List Int) : Option (Int × (List Int)) := call G 151 (m1, m2)
noncomputable def Z152 : Option Unit := call G 152 ()
noncomputable def Z153 (s1 : List Int) : Option Bool := call G 153 s1
noncomputable def Z154 (ctx1 b2 b3 b4 : Int) (b5 b6 : List Int) : Option (Int × Int × Int × Int × (List Int) × (List Int)) := call G 154 (ctx1, b2, b3, b4, b5, b6)
noncomputable def Z155 (ctx1 bit2 mid3 b4 b5 b6 : Int) (b7 b8 : List Int) : Option (Int × Int × Int × (List Int) × (List Int)) := call G 155 (ctx1, bit2, mid3, b4, b5, b6, b7, b8)
noncomputable def Z156 (b1 b2 b3 : Int) (b4 b5 : List Int) : Option (Bool × Int × Int × Int × (List Int) × (List Int)) := call G 156 (b1, b2, b3, b4, b5)
noncomputable def Z157 (b1 b2 b3 : Int) (b4 b5 : List Int) : Option (Int × Int × Int × Int × (List Int) × (List Int)) := call G 157 (b1, b2, b3, b4, b5)
noncomputable def Z158 (x1 : Int) : Option Int := call G 158 x1
noncomputable def Z159 (b1 : Int) : Option (Int × Int) := call G 159 b1
noncomputable def Z160 (text1 l2 : List Int) : Option (List Int) := call G 160 (text1, l2)
noncomputable def Z161 (kind1 state2 : Int) : Option Int := call G 161 (kind1, state2)
noncomputable def Z162 (x1 x2 p3 bit4 : Int) : Option (Int × Int) := call G 162 (x1, x2, p3, bit4)
noncomputable def Z163 (kind1 state2 bit3 : Int) : Option Int := call G 163 (kind1, state2, bit3)
noncomputable def Z164 (x1 x2 : Int) : Option Bool := call G 164 (x1, x2)
noncomputable def Z165 (x1 x2 : Int) : Option (Int × Int) := call G 165 (x1, x2)
noncomputable def Z166 (b1 b2 b3 : Int) (b4 : List Int) (b5 b6 b7 : Int) (b8 : Bool) (b9 : List Int) : Option (Bool × Int × Int × Int × (List Int) × Int × Int × Int × Bool × (List Int)) := call G 166 (b1, b2, b3, b4, b5, b6, b7, b8, b9)
noncomputable def Z167 (ctx1 b2 b3 b4 : Int) (b5 : List Int) (b6 b7 b8 : Int) (b9 : Bool) (b10 : List Int) : Option (Int × Int × Int × Int × (List Int) × Int × Int × Int × Bool × (List Int)) := call G 167 (ctx1, b2, b3, b4, b5, b6, b7, b8, b9, b10)
noncomputable def Z168 (ctx1 bit2 mid3 b4 b5 b6 : Int) (b7 : List Int) (b8 b9 b10 : Int) (b11 : Bool) (b12 : List Int) : Option (Int × Int × Int × (List Int) × Int × Int × Int × Bool × (List Int)) := call G 168 (ctx1, bit2, mid3, b4, b5, b6, b7, b8, b9, b10, b11, b12)
noncomputable def Z169 (b1 b2 b3 : Int) (b4 : List Int) (b5 b6 b7 : Int) (b8 : Bool) (b9 : List Int) : Option (Bool × Int × Int × Int × (List Int) × Int × Int × Int × Bool × (List Int)) := call G 169 (b1, b2, b3, b4, b5, b6, b7, b8, b9)
noncomputable def Z170 (b1 b2 b3 : Int) (b4 : List Int) (b5 b6 b7 : Int) (b8 : Bool) (b9 : List Int) : Option (Int × Int × Int × Int × (List Int) × Int × Int × Int × Bool × (List Int)) := call G 170 (b1, b2, b3, b4, b5, b6, b7, b8, b9)
noncomputable def Z171 (b1 b2 b3 : Int) (b4 : List Int) (b5 b6 b7 : Int) (b8 : Bool) (b9 : List Int) : Option (Int × Int × Int × (List Int) × Int × Int × Int × Bool × (List Int)) := call G 171 (b1, b2, b3, b4, b5, b6, b7, b8, b9)
noncomputable def Z172 (b1 b2 : List Int) : Option ((List Int) × (List Int)) := call G 172 (b1, b2)
noncomputable def Z173 (s1 : List Int) : Option Int := call G 173 s1
noncomputable def Z174 (kind1 s2 : Int) : Option Int := call G 174 (kind1, s2)
noncomputable def Z175 (kind1 s2 bit3 : Int) : Option Int := call G 175 (kind1, s2, bit3)
noncomputable def Z176 (x1 : Int) : Option Int := call G 176 x1
noncomputable def Z177 (text1 : List Int) (a2 b3 : Int) : Option Bool := call G 177 (text1, a2, b3)
noncomputable def Z178 (k1 : Int) : Option Int := call G 178 k1
noncomputable def Z179 (x1 x2 p3 : Int) : Option Int := call G 179 (x1, x2, p3)
noncomputable def Z180 (a1 b2 limit3 : Int) (b4 b5 : List Int) : Option ((List Int) × (List Int)) := call G 180 (a1, b2, limit3, b4, b5)
noncomputable def Z181 (s1 : Int) : Option Bool := call G 181 s1
noncomputable def Z182 (a1 b2 : Int) (b3 b4 : List Int) : Option ((List Int) × (List Int)) := call G 182 (a1, b2, b3, b4)
noncomputable def Z183 (a1 b2 : Int) (b3 b4 : List Int) : Option ((List Int) × (List Int)) := call G 183 (a1, b2, b3, b4)
noncomputable def Z184 (a1 b2 : Int) (b3 b4 : List Int) : Option ((List Int) × (List Int)) := call G 184 (a1, b2, b3, b4)
noncomputable def Z185 (a1 b2 : Int) (b3 b4 : List Int) : Option (Int × Int × (List Int) × (List Int)) := call G 185 (a1, b2, b3, b4)
noncomputable def Z186 (a1 b2 : Int) (b3 b4 : List Int) : Option ((List Int) × (List Int)) := call G 186 (a1, b2, b3, b4)
noncomputable def Z187 (a1 b2 : Int) (b3 b4 : List Int) : Option (Bool × (List Int) × (List Int)) := call G 187 (a1, b2, b3, b4)
noncomputable def Z188 (a1 b2 : Int) (b3 : List Int) : Option (Int × (List Int)) := call G 188 (a1, b2, b3)
noncomputable def Z189 (a1 b2 pivot3 : Int) (b4 b5 : List Int) : Option (Int × (List Int) × (List Int)) := call G 189 (a1, b2, pivot3, b4, b5)
noncomputable def Z190 (a1 b2 pivot3 : Int) (b4 b5 : List Int) : Option (Int × Bool × (List Int) × (List Int)) := call G 190 (a1, b2, pivot3, b4, b5)
noncomputable def Z191 (lo1 hi2 first3 : Int) (b4 b5 : List Int) : Option ((List Int) × (List Int)) := call G 191 (lo1, hi2, first3, b4, b5)
noncomputable def Z192 (length1 : Int) : Option Int := call G 192 length1
noncomputable def Z193 (b1 : Int) : Option (Int × Int) := call G 193 b1
noncomputable def Z194 (a1 : Int) (b2 : List Int) (b3 : Int) (b4 : List Int) : Option (Int × (List Int) × Int × (List Int)) := call G 194 (a1, b2, b3, b4)
noncomputable def Z195 (a1 b2 c3 : Int) (b4 : List Int) (b5 : Int) (b6 : List Int) : Option (Int × (List Int) × Int × (List Int)) := call G 195 (a1, b2, c3, b4, b5, b6)
noncomputable def Z196 (a1 b2 : List Int) : Option Int := call G 196 (a1, b2)
noncomputable def Z197 (a1 b2 : Int) (b3 : List Int) (b4 : Int) (b5 : List Int) : Option (Int × Int × (List Int) × Int × (List Int)) := call G 197 (a1, b2, b3, b4, b5)
end
end Go.Proofs.YtcphcfknnfibmaaGreat.P
