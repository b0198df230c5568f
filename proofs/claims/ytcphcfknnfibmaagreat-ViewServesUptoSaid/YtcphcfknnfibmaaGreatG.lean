/- Part of the proof of ViewServes: the program as it is read. -/
import Derived.KernelRfl
import Derived.Test.YtcphcfknnfibmaaGreatProg
import Derived.Test.YtcphcfknnfibmaaGreatF5
namespace Go.Proofs.YtcphcfknnfibmaaGreat.P
open Go Go.IntKind Go.Proofs.YtcphcfknnfibmaaGreat.V
set_option linter.unusedVariables false
set_option linter.unusedSimpArgs false
set_option maxRecDepth 100000
noncomputable section
structure File where
  name : List Int
  kind : Int
  data : List Int
structure Outline where
  title : List Int
  page : Int
  kids : List Outline
structure Segment where
  number : Int
  kind : Int
  page : Int
  refs : List Int
  keep : List Bool
  data : List Int
structure Chunk where
  id : List Int
  kind : List Int
  data : List Int
  kids : List Chunk
structure Arr2 where
  a0 : Int
  a1 : Int
structure Event where
  ctx : Int
  bit : Int
noncomputable def TT : Nat -> Type
  | 0 => File
  | 1 => Outline
  | 2 => Segment
  | 3 => Bool
  | 4 => Chunk
  | 5 => Arr2
  | 6 => List Int
  | 7 => List Int
  | 8 => Event
  | _ => Unit
noncomputable def outs0 (x : File) : List (PV TT) := [.str x.name, .int .i64 x.kind, .ints .u8 x.data]
noncomputable def outs1 (x : Outline) : List (PV TT) := [.str x.title, .int .i64 x.page, .rows 1 x.kids]
noncomputable def outs2 (x : Segment) : List (PV TT) := [.int .i64 x.number, .int .i64 x.kind, .int .i64 x.page, .ints .i64 x.refs, .rows 3 x.keep, .ints .u8 x.data]
noncomputable def outs3 (x : Bool) : List (PV TT) := [.bool x]
noncomputable def outs4 (x : Chunk) : List (PV TT) := [.str x.id, .str x.kind, .ints .u8 x.data, .rows 4 x.kids]
noncomputable def outs5 (x : Arr2) : List (PV TT) := [.int .i64 x.a0, .int .i64 x.a1]
noncomputable def outs6 (x : List Int) : List (PV TT) := [.str x]
noncomputable def outs7 (x : List Int) : List (PV TT) := [.ints .u8 x]
noncomputable def outs8 (x : Event) : List (PV TT) := [.int .i64 x.ctx, .int .i64 x.bit]
noncomputable def outs : (i : Nat) -> TT i -> List (PV TT)
  | 0, x => outs0 x
  | 1, x => outs1 x
  | 2, x => outs2 x
  | 3, x => outs3 x
  | 4, x => outs4 x
  | 5, x => outs5 x
  | 6, x => outs6 x
  | 7, x => outs7 x
  | 8, x => outs8 x
  | _, _ => []
noncomputable def inn0 : List (PV TT) -> Option File
  | [c0, c1, c2] => (V.asStr c0).bind fun y0 => (V.asInt .i64 c1).bind fun y1 => (V.asInts .u8 c2).bind fun y2 => some (File.mk y0 y1 y2)
  | _ => none
noncomputable def inn1 : List (PV TT) -> Option Outline
  | [c0, c1, c2] => (V.asStr c0).bind fun y0 => (V.asInt .i64 c1).bind fun y1 => (V.asRows 1 c2).bind fun y2 => some (Outline.mk y0 y1 y2)
  | _ => none
noncomputable def inn2 : List (PV TT) -> Option Segment
  | [c0, c1, c2, c3, c4, c5] => (V.asInt .i64 c0).bind fun y0 => (V.asInt .i64 c1).bind fun y1 => (V.asInt .i64 c2).bind fun y2 => (V.asInts .i64 c3).bind fun y3 => (V.asRows 3 c4).bind fun y4 => (V.asInts .u8 c5).bind fun y5 => some (Segment.mk y0 y1 y2 y3 y4 y5)
  | _ => none
noncomputable def inn3 : List (PV TT) -> Option Bool
  | [c0] => (V.asBool c0).bind fun y0 => some y0
  | _ => none
noncomputable def inn4 : List (PV TT) -> Option Chunk
  | [c0, c1, c2, c3] => (V.asStr c0).bind fun y0 => (V.asStr c1).bind fun y1 => (V.asInts .u8 c2).bind fun y2 => (V.asRows 4 c3).bind fun y3 => some (Chunk.mk y0 y1 y2 y3)
  | _ => none
noncomputable def inn5 : List (PV TT) -> Option Arr2
  | [c0, c1] => (V.asInt .i64 c0).bind fun y0 => (V.asInt .i64 c1).bind fun y1 => some (Arr2.mk y0 y1)
  | _ => none
noncomputable def inn6 : List (PV TT) -> Option (List Int)
  | [c0] => (V.asStr c0).bind fun y0 => some y0
  | _ => none
noncomputable def inn7 : List (PV TT) -> Option (List Int)
  | [c0] => (V.asInts .u8 c0).bind fun y0 => some y0
  | _ => none
noncomputable def inn8 : List (PV TT) -> Option Event
  | [c0, c1] => (V.asInt .i64 c0).bind fun y0 => (V.asInt .i64 c1).bind fun y1 => some (Event.mk y0 y1)
  | _ => none
noncomputable def inn : (i : Nat) -> List (PV TT) -> Option (TT i)
  | 0, l => inn0 l
  | 1, l => inn1 l
  | 2, l => inn2 l
  | 3, l => inn3 l
  | 4, l => inn4 l
  | 5, l => inn5 l
  | 6, l => inn6 l
  | 7, l => inn7 l
  | 8, l => inn8 l
  | _, _ => none
noncomputable def E : Env := { T := TT, outs := outs, inn := inn, sz := fun i => (getL [3, 3, 6, 1, 4, 2, 1, 1, 2] i).getD 0, flat := fun i => (getL [false, false, false, true, false, true, true, false, true] i).getD false }
noncomputable def els : List (TypeId × EK) := [(3, .int .i64), (4, .row 3), (5, .int .u8), (9, .row 6), (28, .row 7), (41, .row 0), (51, .row 4), (90, .row 1), (119, .row 2), (186, .row 5), (223, .row 8)]
noncomputable abbrev I6 : TSh := .int .i64
def z92 : List BSh := [.same, .same]
def z91 : List TSh := [.ptr 0 0, I6]
def z90 : List TSh := [.ints .u8, I6]
def z89 : List TSh := [.ints .i64, I6]
def z88 : List BSh := [.ints .i64 true]
def z87 : List BSh := [.ints .u8 false]
def z86 : List BSh := [.ints .i64 false]
def z85 : List TSh := [.ptr 0 0, I6, I6]
def z84 : List TSh := [.ints .u8, I6, I6]
def z83 : List BSh := [.rows 3 true, .same]
def z82 : List TSh := [.str, I6, .ints .u8]
def z81 : List BSh := [.same, .same, .same]
def z80 : List TSh := [.int .u64, .int .u64]
def z79 : List BSh := [.same, .rows 8 false]
def z78 : List BSh := [.box z90]
def z77 : List TSh := [.ptr 0 0, I6, I6, I6]
def z76 : List TSh := [.agg [I6, .ints .i64]]
def z75 : List TSh := [.ints .u8, I6, I6, I6]
def z74 : List TSh := [.ptr 0 0, .lit .i64 0]
def z73 : List BSh := [.gone, .ints .u8 false]
def z72 : List BSh := [.same, .ints .u8 false]
def z71 : List (Nat × TSh) := [(0, .int .u64), (2, I6)]
def z70 : List BSh := [.same, .box [.ints .u8]]
def z69 : List (Nat × TSh) := [(2, .ints .u8), (3, I6)]
def z68 : List TSh := [.agg [.rows 0, .rows 1]]
def z67 : List BSh := [.box z84]
def z66 : List BSh := [.ints .i64 true, .box [I6]]
def z65 : List TSh := [.agg z82]
def z64 : List BSh := [.same, .rows 8 false, .same]
def z63 : List TSh := [.agg z80]
def z62 : List BSh := [.box z75]
def z61 : List BSh := [.ints .u8 false, .same, .same]
def z60 : List TSh := [.agg [.rows 0, .rows 1], .str]
def z59 : List TSh := [.str, .str, .ints .u8, .rows 4]
def z58 : List BSh := [.ints .i64 true, .box [.ints .u8]]
def z57 : List BSh := [.ints .i64 true, .ints .i64 false]
def z56 : List TSh := [.arr 0, I6, I6, .fn 241 [.ptr 1 0]]
def z55 : List BSh := [.ints .i64 false, .box [.ints .u8]]
def z54 : List BSh := [.same, .same, .same, .rows 6 false]
def z53 : List TSh := [I6, .arr 1, .arr 2, .arr 3, I6, I6]
def z52 : List BSh := [.same, .rows 2 false, .same, .same]
def z51 : List BSh := [.same, .same, .same, .ints .u8 true]
def z50 : List BSh := [.box z75, .same]
def z49 : List BSh := [.box z90, .rows 4 false]
def z48 : List BSh := [.same, .same, .same, .ints .u8 false]
def z47 : List TSh := [.agg z82, .ptr 0 0]
def z46 : List TSh := [.agg z59]
def z45 : List TSh := [.bool, .arr 1, .ints .i64, I6, .arr 2]
def z44 : List TSh := [.arr 0, I6, I6, I6, .fn 241 [.ptr 1 0]]
def z43 : List TSh := [.str, .agg [.rows 0, .rows 1], .rows 0]
def z42 : List BSh := [.ints .i64 true, .same, .box [.int .u64]]
def z41 : List TSh := [I6, .arr 1, .int .u64, .int .u64, .arr 2]
def z40 : List BSh := [.gone, .same, .same, .same, .same, .same]
def z39 : List TSh := [I6, I6, I6, .ints .i64, .rows 3, .ints .u8]
def z38 : List BSh := [.box z75, .rows 1 false]
def z37 : List BSh := [.same, .same, .same, .ints .i64 true, .same]
def z36 : List BSh := [.box z75, .rows 4 false]
def z35 : List BSh := [.ints .i64 true, .box [I6], .box [.ints .u8]]
def z34 : List BSh := [.ints .i64 true, .box [.ints .u8], .box [I6]]
def z33 : List BSh := [.ints .i64 false, .box [I6], .box [.ints .u8]]
def z32 : List BSh := [.box z39]
def z31 : List BSh := [.box z84, .rows 0 false, .ints .i64 false]
def z30 : List BSh := [.same, .rows 4 false, .box [.str, .str, .ints .u8, .arr 1]]
def z29 : List TSh := [.agg z39, I6, I6, I6]
def z28 : List BSh := [.same, .same, .same, .same, .ints .i64 true, .ints .i64 true, .same]
def z27 : List BSh := [.box z45, .rows 0 true, .ints .i64 true]
def z26 : List BSh := [.box z45, .rows 0 true, .ints .i64 false]
def z25 : List BSh := [.box z45, .rows 0 false, .ints .i64 false]
def z24 : List BSh := [.box z41, .ints .i64 true, .ints .u8 false]
def z23 : List BSh := [.box z41, .ints .i64 false, .ints .u8 false]
def z22 : List BSh := [.box z53, .rows 2 true, .ints .i64 true, .rows 5 true]
def z21 : List BSh := [.box z41, .ints .i64 true, .ints .u8 false, .same]
def z20 : List BSh := [.box z53, .rows 2 false, .ints .i64 false, .rows 5 false]
def z19 : List BSh := [.same, .same, .same, .box [I6, .arr 4, .int .u64, .int .u64, .arr 5], .ints .i64 false, .ints .u8 false]
def z18 : List BSh := [.same, .box [.ints .u8], .box [I6], .same, .same, .same, .same, .ints .u8 true, .same, .box [I6], .same]
def z17 : List TSh := [.lit .i64 2048, .lit .i64 1792, .lit .i64 1568, .lit .i64 1372, .lit .i64 1201, .lit .i64 1051, .lit .i64 920, .lit .i64 805, .lit .i64 705, .lit .i64 617, .lit .i64 540, .lit .i64 473, .lit .i64 414, .lit .i64 363, .lit .i64 318, .lit .i64 279, .lit .i64 245, .lit .i64 215, .lit .i64 189, .lit .i64 166, .lit .i64 146, .lit .i64 128, .lit .i64 112, .lit .i64 98, .lit .i64 86, .lit .i64 76, .lit .i64 67, .lit .i64 59, .lit .i64 52, .lit .i64 46, .lit .i64 41, .lit .i64 36]
def z16 : List TSh := [I6, .arr 1, .lit .i64 2048, .lit .i64 1792, .lit .i64 1568, .lit .i64 1372, .lit .i64 1201, .lit .i64 1051, .lit .i64 920, .lit .i64 805, .lit .i64 705, .lit .i64 617, .lit .i64 540, .lit .i64 473, .lit .i64 414, .lit .i64 363, .lit .i64 318, .lit .i64 279, .lit .i64 245, .lit .i64 215, .lit .i64 189, .lit .i64 166, .lit .i64 146, .lit .i64 128, .lit .i64 112, .lit .i64 98, .lit .i64 86, .lit .i64 76, .lit .i64 67, .lit .i64 59, .lit .i64 52, .lit .i64 46, .lit .i64 41, .lit .i64 36, .int .u64, .int .u64, .arr 2, .litb true]
def z15 : List TSh := [I6, .arr 1, .lit .i64 2048, .lit .i64 1792, .lit .i64 1568, .lit .i64 1372, .lit .i64 1201, .lit .i64 1051, .lit .i64 920, .lit .i64 805, .lit .i64 705, .lit .i64 617, .lit .i64 540, .lit .i64 473, .lit .i64 414, .lit .i64 363, .lit .i64 318, .lit .i64 279, .lit .i64 245, .lit .i64 215, .lit .i64 189, .lit .i64 166, .lit .i64 146, .lit .i64 128, .lit .i64 112, .lit .i64 98, .lit .i64 86, .lit .i64 76, .lit .i64 67, .lit .i64 59, .lit .i64 52, .lit .i64 46, .lit .i64 41, .lit .i64 36, .int .u64, .int .u64, .ints .u8, I6, .int .u64, I6, .bool, .litb true]
def z14 : List TSh := [I6, .arr 3, .lit .i64 2048, .lit .i64 1792, .lit .i64 1568, .lit .i64 1372, .lit .i64 1201, .lit .i64 1051, .lit .i64 920, .lit .i64 805, .lit .i64 705, .lit .i64 617, .lit .i64 540, .lit .i64 473, .lit .i64 414, .lit .i64 363, .lit .i64 318, .lit .i64 279, .lit .i64 245, .lit .i64 215, .lit .i64 189, .lit .i64 166, .lit .i64 146, .lit .i64 128, .lit .i64 112, .lit .i64 98, .lit .i64 86, .lit .i64 76, .lit .i64 67, .lit .i64 59, .lit .i64 52, .lit .i64 46, .lit .i64 41, .lit .i64 36, .int .u64, .int .u64, .ints .u8, I6, .int .u64, I6, .bool, .litb true]
def z13 : List TSh := [I6, .arr 1, .lit .i64 2048, .lit .i64 1792, .lit .i64 1568, .lit .i64 1372, .lit .i64 1201, .lit .i64 1051, .lit .i64 920, .lit .i64 805, .lit .i64 705, .lit .i64 617, .lit .i64 540, .lit .i64 473, .lit .i64 414, .lit .i64 363, .lit .i64 318, .lit .i64 279, .lit .i64 245, .lit .i64 215, .lit .i64 189, .lit .i64 166, .lit .i64 146, .lit .i64 128, .lit .i64 112, .lit .i64 98, .lit .i64 86, .lit .i64 76, .lit .i64 67, .lit .i64 59, .lit .i64 52, .lit .i64 46, .lit .i64 41, .lit .i64 36, .int .u64, .int .u64, .arr 2, I6, .int .u64, I6, .litb false, .litb true]
def z12 : List BSh := [.box z16, .ints .i64 true, .ints .u8 true]
def z11 : List BSh := [.box z16, .ints .i64 true, .ints .u8 false]
def z10 : List BSh := [.box z16, .ints .i64 false, .ints .u8 false]
def z9 : List BSh := [.box z15, .ints .i64 true]
def z8 : List BSh := [.box z15, .ints .i64 false]
def z7 : List BSh := [.box z15, .ints .i64 true, .same]
def z6 : List BSh := [.same, .same, .same, .box [I6, .arr 4, .lit .i64 2048, .lit .i64 1792, .lit .i64 1568, .lit .i64 1372, .lit .i64 1201, .lit .i64 1051, .lit .i64 920, .lit .i64 805, .lit .i64 705, .lit .i64 617, .lit .i64 540, .lit .i64 473, .lit .i64 414, .lit .i64 363, .lit .i64 318, .lit .i64 279, .lit .i64 245, .lit .i64 215, .lit .i64 189, .lit .i64 166, .lit .i64 146, .lit .i64 128, .lit .i64 112, .lit .i64 98, .lit .i64 86, .lit .i64 76, .lit .i64 67, .lit .i64 59, .lit .i64 52, .lit .i64 46, .lit .i64 41, .lit .i64 36, .int .u64, .int .u64, .arr 5, .litb true], .ints .i64 false, .ints .u8 false]
def z5 : List BSh := [.gone, .same, .box z14, .ints .i64 false]
def z4 : List BSh := [.box z15, .ints .i64 false, .box [.bool, I6]]
def z3 : List BSh := [.box z13, .ints .i64 true, .ints .u8 true]
def z2 : List BSh := [.same, .ints .i64 true, .ints .u8 true, .box z13]
def z1 : List BSh := [.box z15, .ints .i64 false, .box [.bool, I6], .box [I6]]
def z0 : List BSh := [.gone, .same, .box z14, .ints .i64 false, .ints .i64 false]
noncomputable def insts : List FInst := [
  { fid := 3, sig := { ps := z60, rs := [.bool] }, ann := { calls := [(10, 1), (11, 2), (15, 3), (21, 4), (30, 5), (33, 2)] } },
  { fid := 8, sig := { ps := z68, rs := [.bool] }, ann := { calls := [(32, 6), (57, 7), (64, 8), (88, 9)], loops := [(4, { tm := [(3, I6), (4, I6), (5, .arr 1), (18, I6)], bs := [.same, .rows 2 false] }, [(.exit 0, { tm := [(4, I6), (5, .arr 1)], bs := [.same, .rows 2 false] }), (.ret, { tm := [(2, .bool)], bs := [.same] })]), (11, { tm := [(4, I6), (5, .arr 1), (38, I6)], bs := [.same, .rows 2 false, .same] }, [(.exit 2, { tm := [(4, I6), (5, .arr 1)], bs := [.same, .rows 2 false, .same] })]), (14, { tm := [(4, I6), (5, .arr 1), (45, I6)], bs := z52 }, [(.exit 4, { tm := [(4, I6), (5, .arr 1)], bs := z52 })])] } },
  { fid := 9, sig := { rs := [.bool] }, ann := { calls := [(14, 3), (19, 10), (31, 11), (36, 12), (41, 13), (46, 14)], joins := [(6, [(.normal, { tm := [(4, .ptr 3 0), (5, I6)], bs := [.gone, .same, .same, .box [.bool, .arr 4, .ints .i64, I6, .arr 5], .rows 0 false, .ints .i64 false] })]), (8, [(.normal, { tm := [(27, .bool)], bs := z40 })])] } },
  { fid := 10, sig := { ps := z60, rs := z90 }, ann := { calls := [(9, 15), (14, 16), (30, 17)], loops := [(6, { tm := [(20, I6)], bs := [.same] }, [(.exit 0, { tm := [], bs := [.same] }), (.ret, { tm := [(4, .ints .u8), (5, I6)], bs := [.same] })])] } },
  { fid := 11, sig := { ps := z60, rs := z90 }, ann := { calls := [(9, 18), (14, 19)], loops := [(6, { tm := [(20, I6)], bs := [.same] }, [(.exit 0, { tm := [], bs := [.same] }), (.ret, { tm := [(4, .arr 1), (5, I6)], bs := z72 })])] } },
  { fid := 12, sig := { ps := [.ints .u8, .ints .u8], rs := [.bool] }, ann := { loops := [(4, { tm := [(13, I6)], bs := [] }, [(.exit 0, { tm := [], bs := [] }), (.ret, { tm := [(4, .bool)], bs := [] })])] } },
  { fid := 32, sig := { ps := [.ints .u8], rs := [.rows 4, I6, I6] }, ann := { calls := [(16, 20)] } },
  { fid := 40, sig := { ps := [.ints .u8], rs := [I6] }, ann := { calls := [(11, 21), (18, 21)] } },
  { fid := 41, sig := { ps := [.ints .u8], rs := [.ptr 0 0], rb := z20 }, ann := { calls := [(14, 22), (25, 23), (40, 22), (46, 24), (53, 25)], loops := [(6, { tm := [(5, I6), (6, I6)], bs := z20 }, [(.exit 0, { tm := [], bs := z20 }), (.ret, { tm := [(2, .ptr 0 0)], bs := z20 })])] } },
  { fid := 42, sig := { ps := [.rows 2], rs := [.bool] }, ann := { calls := [(32, 21), (40, 21)], loops := [(3, { tm := [(3, I6), (4, I6), (15, I6)], bs := [] }, [(.exit 0, { tm := [(3, I6), (4, I6)], bs := [] })])], joins := [(10, [(.normal, { tm := [(26, .bool)], bs := [.same] })]), (18, [(.normal, { tm := [(57, .bool)], bs := [.same] })])] } },
  { fid := 43, sig := { ps := z90, rs := z74, rb := z25, more := [([.nil, I6], [])] }, ann := { calls := [(14, 26), (64, 27)], joins := [(8, [(.normal, { tm := [(55, .bool)], bs := [] })]), (18, [(.normal, { tm := [(73, .bool)], bs := [.same] })])] } },
  { fid := 44, sig := { ps := [.ptr 0 0, .str, .ints .u8], pb := z25, rs := [I6], rb := z26 }, ann := { calls := [(9, 28), (12, 29), (33, 17), (38, 30), (40, 12)], loops := [(10, { tm := [], bs := z26 }, [(.exit 1, { tm := [], bs := z26 })])], joins := [(20, [(.normal, { tm := [(45, .bool)], bs := z27 })])], cuts := [63], orders := [(10, [1, 5], [[0, 1, 2, 3, 4, 5, 6], [0, 2, 3, 4, 5, 1, 6]])] } },
  { fid := 45, sig := { ps := [.ptr 0 0], pb := z25, rs := [I6], rb := z27 }, ann := { calls := [(7, 28)], loops := [(5, { tm := [(3, I6), (13, I6)], bs := z81 }, [(.exit 0, { tm := [(3, I6)], bs := z81 })])] } },
  { fid := 46, sig := { ps := [.ptr 0 0], pb := z25, rs := [I6], rb := z27 }, ann := { calls := [(7, 28)], loops := [(5, { tm := [(3, I6), (13, I6)], bs := z81 }, [(.exit 0, { tm := [(3, I6)], bs := z81 })])] } },
  { fid := 47, sig := { ps := [.ptr 0 0], pb := z25, rs := [.rows 6], rb := z27 }, ann := { calls := [(7, 28)], loops := [(5, { tm := [(3, .arr 3), (13, I6)], bs := z54 }, [(.exit 0, { tm := [(3, .arr 3)], bs := z54 })])] } },
  { fid := 25, sig := { ps := z68, rs := [.bool] }, ann := { calls := [(12, 31), (24, 32), (33, 33)], loops := [(4, { tm := [(18, I6)], bs := [.same] }, [(.exit 0, { tm := [], bs := [.same] }), (.ret, { tm := [(2, .bool)], bs := [.same] })])], joins := [(2, [(.normal, { tm := [(14, .bool)], bs := [.same] })])] } },
  { fid := 23, sig := { ps := z68, rs := z90 }, ann := { calls := [(5, 34)] } },
  { fid := 48, sig := { ps := [.ints .u8], rs := [.ints .u8] }, ann := {} },
  { fid := 26, sig := { ps := z68, rs := [.bool] }, ann := { calls := [(16, 35), (25, 36), (31, 37)], loops := [(2, { tm := [(3, I6)], bs := [.same] }, [(.exit 0, { tm := [], bs := [.same] }), (.ret, { tm := [(2, .bool)], bs := [.same] })])] } },
  { fid := 24, sig := { ps := z68, rs := z90 }, ann := { calls := [(5, 38), (8, 39)] } },
  { fid := 78, sig := { ps := z77, pb := z78, rs := [.rows 4, I6, I6], rb := z78 }, ann := { calls := [(23, 40)], loops := [(2, { tm := [(1, I6), (11, .arr 1)], bs := z49 }, [(.exit 0, { tm := [(1, I6), (11, .arr 1)], bs := z49 }), (.ret, { tm := [(8, .rows 4), (9, I6), (10, I6)], bs := z78 })])] } },
  { fid := 84, sig := { ps := z90, rs := [I6, I6, I6] }, ann := { loops := [(5, { tm := [(7, I6), (8, I6)], bs := [] }, [(.exit 0, { tm := [], bs := [] }), (.ret, { tm := [(4, I6), (5, I6), (6, I6)], bs := [] })])], joins := [(2, [(.normal, { tm := [(17, .bool)], bs := [] })]), (24, [(.normal, { tm := [(54, .bool)], bs := [] })])] } },
  { fid := 85, sig := { ps := z85, pb := z20, rs := [.ptr 0 0], rb := z22 }, ann := {} },
  { fid := 86, sig := { ps := [.ptr 0 0, .ints .u8, I6], pb := z20, rs := [I6], rb := z20 }, ann := { calls := [(19, 22), (27, 22), (31, 41), (41, 22)] } },
  { fid := 87, sig := { ps := [.ptr 0 0, .ints .u8, I6, I6], pb := z20, rs := [I6, .bool], rb := z22 }, ann := { calls := [(27, 22)] } },
  { fid := 88, sig := { ps := [.ptr 0 0], pb := z20, rs := [.ptr 0 0], rb := z22 }, ann := { calls := [(10, 42), (24, 22)] } },
  { fid := 70, sig := { ps := [.ints .u8], rs := [.rows 4, I6, I6] }, ann := { calls := [(15, 43)] } },
  { fid := 18, sig := { ps := [.ints .u8], rs := [.arr 0, .ints .i64, .rows 1, I6], rb := [.rows 0 false] }, ann := { calls := [(19, 44), (29, 45), (33, 46), (44, 47), (72, 48), (90, 33)], loops := [(10, { tm := [(10, .arr 1), (11, .arr 2), (35, I6)], bs := z31 }, [(.exit 0, { tm := [(10, .arr 1), (11, .arr 2)], bs := z31 })]), (21, { tm := [(80, I6)], bs := z81 }, [(.exit 2, { tm := [], bs := z81 }), (.ret, { tm := [(2, .arr 3), (3, .ints .i64), (4, .rows 1), (5, I6)], bs := [.same, .same, .same, .rows 0 false] })])] } },
  { fid := 89, sig := { ps := [.ptr 0 0], pb := z25, rs := [.bool], rb := z27 }, ann := {} },
  { fid := 90, sig := { ps := [.ptr 0 0, .str], pb := z25, rs := [I6], rb := z27 }, ann := { calls := [(10, 49)] } },
  { fid := 91, sig := { ps := z91, pb := z25, rb := z26 }, ann := { calls := [(10, 50)] } },
  { fid := 65, sig := { ps := [.rows 1], rs := [.bool] }, ann := { calls := [(6, 51)] } },
  { fid := 66, sig := { ps := z65, rs := [.bool] }, ann := { calls := [(5, 52)] } },
  { fid := 61, sig := { ps := [.rows 0, .str], rs := [I6] }, ann := { calls := [(7, 53)] } },
  { fid := 62, sig := { ps := z43, rs := z90 }, ann := { calls := [(16, 54), (36, 55), (44, 56)], loops := [(6, { tm := [(29, I6)], bs := z30 }, [(.exit 0, { tm := [], bs := z30 })])] } },
  { fid := 67, sig := { ps := z65, rs := [.bool] }, ann := { calls := [(5, 57)] } },
  { fid := 68, sig := { ps := [.rows 0], rs := [.bool] }, ann := { calls := [(16, 58)], loops := [(2, { tm := [(3, I6)], bs := [] }, [(.exit 0, { tm := [], bs := [] }), (.ret, { tm := [(2, .bool)], bs := [] })])] } },
  { fid := 69, sig := { ps := [.rows 1], rs := [.bool] }, ann := { calls := [(8, 59)] } },
  { fid := 64, sig := { ps := z43, rs := z90 }, ann := { calls := [(15, 60), (35, 61), (43, 62)], loops := [(6, { tm := [(10, .arr 1), (11, I6)], bs := [.same, .rows 4 false] }, [(.exit 0, { tm := [(10, .arr 1)], bs := [.same, .rows 4 false] })])] } },
  { fid := 63, sig := { ps := z90, rs := z90 }, ann := {} },
  { fid := 136, sig := { ps := z77, pb := z78, rs := [.agg z59, I6, I6], rb := z78 }, ann := { calls := [(22, 63), (95, 63), (118, 20)], loops := [(11, { tm := [(13, I6), (14, I6)], bs := z92 }, [(.exit 0, { tm := [(13, I6)], bs := z92 })])], joins := [(8, [(.normal, { tm := [(38, .bool)], bs := z92 })]), (40, [(.normal, { tm := [(105, .bool)], bs := z81 })]), (181, [(.normal, { tm := [], bs := [.box z90, .box [.str, .str, .ints .u8, .arr 3], .box [.str, .str, .arr 4, .rows 4], .rows 4 false, .ints .u8 false] }), (.ret, { tm := [(9, I6), (10, I6)], bs := [.box z90, .box [.str, .str, .ints .u8, .arr 3], .box z59, .rows 4 false] })]), (211, [(.normal, { tm := [(12, I6)], bs := z81 })])] } },
  { fid := 140, sig := { ps := z90, rs := z29 }, ann := { calls := [(20, 64)], joins := [(2, [(.normal, { tm := [(15, .bool)], bs := [.same] })])] } },
  { fid := 141, sig := { ps := [.rows 2], rs := [I6, I6] }, ann := { calls := [(8, 65)] } },
  { fid := 128, sig := { ps := z77, pb := z62, rs := [.rows 4], rb := z62 }, ann := { calls := [(26, 66)], loops := [(2, { tm := [(1, I6), (9, .arr 1)], bs := z36 }, [(.exit 0, { tm := [(9, .arr 1)], bs := z36 })])], joins := [(4, [(.normal, { tm := [(20, .bool)], bs := z92 })])] } },
  { fid := 56, sig := { ps := [.ints .u8], rs := z90 }, ann := { calls := [(19, 67), (43, 68), (51, 69), (61, 70), (62, 71), (89, 72), (93, 73)], loops := [(15, { tm := [(11, .arr 4), (12, I6), (56, I6)], bs := z0 }, [(.exit 1, { tm := [(11, .arr 4)], bs := z0 }), (.ret, { tm := z69, bs := z5 })])], joins := [(12, [(.normal, { tm := [(30, .bool)], bs := [] })]), (22, [(.normal, { tm := [(9, .ptr 2 0)], bs := z5 })]), (38, [(.normal, { tm := [(79, .bool)], bs := z40 })]), (47, [(.normal, { tm := [], bs := [] }), (.ret, { tm := z69, bs := [] })]), (55, [(.normal, { tm := [], bs := [] }), (.ret, { tm := z69, bs := [] })])] } },
  { fid := 57, sig := { ps := [.ptr 0 0], pb := z67, rs := [I6], rb := z67 }, ann := { calls := [(20, 67), (28, 46)] } },
  { fid := 58, sig := { ps := [.ptr 0 0, .bool, I6], pb := z67, rs := [.bool], rb := z67 }, ann := { joins := [(2, [(.normal, { tm := [(15, .bool)], bs := [.same] })])] } },
  { fid := 59, sig := { ps := [.ptr 0 0], pb := z67, rs := [.agg z82, I6], rb := z67 }, ann := { calls := [(7, 74), (18, 46), (27, 75), (31, 45)], joins := [(4, [(.normal, { tm := [(19, .bool)], bs := [.box z84, .same] })])] } },
  { fid := 60, sig := { ps := [.ints .u8], rs := [.rows 1, I6] }, ann := { calls := [(10, 76)] } },
  { fid := 118, sig := { ps := [.rows 0, .fn 142 [.ptr 0 0]], pb := [.box [.str]], rs := [I6], rb := [.box [.str]] }, ann := { calls := [(16, 77)], loops := [(2, { tm := [(8, I6)], bs := [.box [.str]] }, [(.exit 0, { tm := [], bs := [.box [.str]] }), (.ret, { tm := [(4, I6)], bs := [.box [.str]] })])] } },
  { fid := 143, sig := { ps := [.arr 0, .fn 144 [.ptr 1 0]], pb := [.ints .i64 false, .box [I6]], rs := [.arr 0], rb := z66 }, ann := { calls := [(10, 78), (28, 79)], loops := [(5, { tm := [(5, I6), (6, I6)], bs := z66 }, [(.exit 0, { tm := [(5, I6)], bs := z66 })])] } },
  { fid := 124, sig := { ps := [.ptr 0 0, .rows 1, I6], pb := [.box [I6]], rs := [.bool], rb := [.box [I6]] }, ann := { calls := [(53, 51)], loops := [(2, { tm := [(11, I6)], bs := [.box [I6]] }, [(.exit 0, { tm := [], bs := [.box [I6]] }), (.ret, { tm := [(6, .bool)], bs := [.box [I6]] })])] } },
  { fid := 125, sig := { ps := [.str], rs := [.bool] }, ann := { loops := [(2, { tm := [(7, I6)], bs := [] }, [(.exit 0, { tm := [], bs := [] }), (.ret, { tm := [(2, .bool)], bs := [] })])] } },
  { fid := 118, sig := { ps := [.rows 0, .fn 119 [.ptr 0 0]], pb := [.box [.str]], rs := [I6], rb := [.box [.str]] }, ann := { calls := [(16, 80)], loops := [(2, { tm := [(8, I6)], bs := [.box [.str]] }, [(.exit 0, { tm := [], bs := [.box [.str]] }), (.ret, { tm := [(4, I6)], bs := [.box [.str]] })])] } },
  { fid := 15, sig := { ps := z68, rs := z90 }, ann := { calls := [(10, 15), (15, 81), (36, 81), (42, 81), (48, 82), (54, 83)], loops := [(5, { tm := [(4, .arr 1), (19, I6)], bs := z72 }, [(.exit 0, { tm := [(4, .arr 1)], bs := z72 })])] } },
  { fid := 120, sig := { ps := z65, rs := z46 }, ann := { calls := [(9, 81)] } },
  { fid := 121, sig := { ps := [.rows 4], rs := z90 }, ann := { calls := [(11, 84), (21, 85), (34, 86)], loops := [(5, { tm := [(4, I6), (15, I6)], bs := [] }, [(.exit 0, { tm := [(4, I6)], bs := [] })]), (13, { tm := [(7, .arr 0), (28, I6)], bs := z87 }, [(.exit 2, { tm := [(7, .arr 0)], bs := z87 })])] } },
  { fid := 126, sig := { ps := [.str], rs := [.bool] }, ann := { loops := [(4, { tm := [(3, I6)], bs := [] }, [(.exit 0, { tm := [], bs := [] }), (.ret, { tm := [(2, .bool)], bs := [] })])], joins := [(2, [(.normal, { tm := [(12, .bool)], bs := [] })])] } },
  { fid := 39, sig := { ps := [.rows 0, .str], rs := [I6] }, ann := { loops := [(2, { tm := [(5, I6)], bs := [] }, [(.exit 0, { tm := [], bs := [] }), (.ret, { tm := [(4, I6)], bs := [] })])] } },
  { fid := 127, sig := { ps := [.rows 1], rs := [I6, I6, .bool] }, ann := { calls := [(24, 59)], loops := [(3, { tm := [(5, I6), (6, I6), (7, .bool), (8, I6)], bs := [] }, [(.exit 0, { tm := [(5, I6), (6, I6), (7, .bool)], bs := [] })])] } },
  { fid := 16, sig := { ps := z68, rs := z90 }, ann := { calls := [(10, 18), (15, 87), (37, 87), (46, 87), (51, 88), (57, 89)], loops := [(5, { tm := [(4, .arr 1), (5, I6)], bs := z72 }, [(.exit 0, { tm := [(4, .arr 1)], bs := z72 })])] } },
  { fid := 122, sig := { ps := z65, rs := z46 }, ann := { calls := [(7, 87)] } },
  { fid := 123, sig := { ps := [.rows 4], rs := z90 }, ann := { calls := [(8, 90), (18, 91), (24, 92)], loops := [(5, { tm := [(4, I6), (12, I6)], bs := [] }, [(.exit 0, { tm := [(4, I6)], bs := [] })])] } },
  { fid := 194, sig := { ps := z85, pb := z78, rs := [.str, I6], rb := z78 }, ann := { calls := [(23, 93)] } },
  { fid := 196, sig := { ps := z90, rs := z29 }, ann := { calls := [(12, 94), (46, 95), (62, 96), (74, 94), (86, 94)], joins := [(81, [(.normal, { tm := [(1, I6)], bs := z32 }), (.ret, { tm := [(5, I6), (6, I6), (7, I6)], bs := z32 })])] } },
  { fid := 197, sig := { ps := [.rows 2], rs := [.rows 3, I6] }, ann := { calls := [(21, 97), (51, 98)], loops := [(3, { tm := [(15, I6)], bs := [.rows 3 true] }, [(.exit 0, { tm := [], bs := [.rows 3 true] }), (.ret, { tm := [(2, .rows 3), (3, I6)], bs := [.rows 3 true] })]), (8, { tm := [(42, I6)], bs := z83 }, [(.exit 2, { tm := [], bs := z83 }), (.ret, { tm := [(2, .rows 3), (3, I6)], bs := z83 })])], joins := [(10, [(.normal, { tm := [(37, .bool)], bs := z92 })]), (22, [(.normal, { tm := [(78, .bool)], bs := z92 })])] } },
  { fid := 188, sig := { ps := z77, pb := z62, rs := [.agg z59, I6], rb := z62 }, ann := { calls := [(17, 99), (37, 100), (47, 100), (82, 100), (95, 101), (103, 43), (112, 102), (123, 100), (135, 100)], loops := [(7, { tm := [(10, I6), (62, I6)], bs := z92 }, [(.exit 0, { tm := [(10, I6)], bs := z92 })])], joins := [(6, [(.normal, { tm := [(49, .bool)], bs := z50 })]), (38, [(.normal, { tm := [(124, .bool)], bs := z50 })]), (183, [(.normal, { tm := [], bs := [.box z75, .box z59] })])] } },
  { fid := 110, sig := { ps := z90, rs := [I6, I6, I6] }, ann := { loops := [(4, { tm := [(4, I6), (17, I6)], bs := [] }, [(.exit 0, { tm := [], bs := [] }), (.ret, { tm := [(4, I6), (5, I6), (6, I6)], bs := [] })])], joins := [(2, [(.normal, { tm := [(16, .bool)], bs := [] })]), (22, [(.normal, { tm := [(52, .bool)], bs := [] })])] } },
  { fid := 95, sig := { ps := [I6, I6], rs := [.agg [I6, .arr 0], I6], rb := z86 }, ann := { joins := [(2, [(.normal, { tm := [(19, .bool)], bs := [.same] })])] } },
  { fid := 111, sig := { ps := [.agg [I6, .ints .i64], .ints .u8], rs := z74, rb := z8, more := [([.nil, .lit .i64 10], [])] }, ann := { calls := [(8, 103), (11, 104), (20, 105)], loops := [(5, { tm := [(17, I6)], bs := z2 }, [(.exit 0, { tm := [], bs := z2 })])] } },
  { fid := 99, sig := { ps := [I6], rs := [I6] }, ann := {} },
  { fid := 112, sig := { ps := z91, pb := z8, rs := [.agg [.bool, I6], I6], rb := z8 }, ann := { calls := [(11, 106), (19, 107), (21, 108), (28, 109)] } },
  { fid := 113, sig := { ps := [.ints .i64], rs := z89 }, ann := { calls := [(10, 110), (14, 111), (24, 112)], loops := [(7, { tm := [(5, .arr 1), (17, I6)], bs := z57 }, [(.exit 0, { tm := [(5, .arr 1)], bs := z57 })])] } },
  { fid := 114, sig := { ps := [.ints .i64], rs := z90 }, ann := { calls := [(75, 113), (97, 114), (99, 115)], loops := [(3, { tm := [(17, I6)], bs := z37 }, [(.exit 0, { tm := [], bs := z37 })]), (10, { tm := [(31, I6)], bs := z37 }, [(.exit 2, { tm := [], bs := z37 })]), (16, { tm := [(49, I6)], bs := z28 }, [(.exit 4, { tm := [], bs := z28 })]), (25, { tm := [(3, I6)], bs := z18 }, [(.normal, { tm := [], bs := z18 }), (.ret, { tm := [], bs := z18 })])] } },
  { fid := 115, sig := { ps := z91, pb := z67, rs := [.ints .u8], rb := z67 }, ann := { calls := [(18, 46)] } },
  { fid := 116, sig := { ps := [.ptr 0 0], pb := z67, rs := [.str], rb := z67 }, ann := { calls := [(6, 45), (10, 46), (13, 74), (17, 52), (18, 46)] } },
  { fid := 117, sig := { ps := z91, pb := z62, rs := [.rows 1], rb := z62 }, ann := { calls := [(9, 116), (41, 117), (44, 116), (49, 76)], loops := [(3, { tm := [(5, .arr 1), (6, I6)], bs := z38 }, [(.exit 0, { tm := [(5, .arr 1)], bs := z38 }), (.ret, { tm := [(4, .rows 1)], bs := z62 })])], joins := [(6, [(.normal, { tm := [(18, .bool)], bs := z92 })]), (12, [(.normal, { tm := [(36, .bool)], bs := z92 })])] } },
  { fid := 142, sig := { ps := z47, pb := [.box [.str]], rs := [.bool], rb := [.box [.str]] }, ann := {} },
  { fid := 198, sig := { ps := [.ints .i64, .fn 144 [.ptr 0 0]], pb := [.box [I6]], rs := [I6], rb := [.box [I6]] }, ann := { calls := [(16, 79)], loops := [(2, { tm := [(8, I6)], bs := [.box [I6]] }, [(.exit 0, { tm := [], bs := [.box [I6]] }), (.ret, { tm := [(4, I6)], bs := [.box [I6]] })])] } },
  { fid := 144, sig := { ps := [I6, .ptr 0 0], pb := [.box [I6]], rs := [.bool], rb := [.box [I6]] }, ann := {} },
  { fid := 119, sig := { ps := z47, pb := [.box [.str]], rs := [.bool], rb := [.box [.str]] }, ann := {} },
  { fid := 50, sig := { ps := [I6, .ints .u8], rs := [.arr 0], rb := z87 }, ann := { calls := [(9, 118)] } },
  { fid := 51, sig := { ps := [.rows 1], rs := z90 }, ann := { calls := [(5, 31), (8, 119)] } },
  { fid := 52, sig := { ps := [.ints .u8], rs := z90 }, ann := { calls := [(19, 120), (28, 118), (36, 68), (41, 121), (46, 122), (57, 70), (60, 123), (65, 124)], loops := [(12, { tm := [(14, I6), (51, I6)], bs := z6 }, [(.exit 0, { tm := [], bs := z6 })])], joins := [(16, [(.normal, { tm := [(10, .ptr 3 0)], bs := z6 })])] } },
  { fid := 182, sig := { ps := [.rows 4], rs := [.bool] }, ann := { calls := [(6, 125)] } },
  { fid := 183, sig := { ps := z46, rs := [I6] }, ann := { calls := [(4, 126)] } },
  { fid := 184, sig := { ps := [.arr 0, .agg z59], pb := z87, rs := [.arr 0], rb := z87 }, ann := { calls := [(9, 126), (44, 86)], loops := [(7, { tm := [(0, .arr 0), (38, I6)], bs := z61 }, [(.exit 0, { tm := [(0, .arr 0)], bs := z61 })])], joins := [(61, [(.normal, { tm := [(0, .arr 0)], bs := z61 })])] } },
  { fid := 53, sig := { ps := [I6], rs := [.arr 0], rb := z87 }, ann := { calls := [(7, 127)] } },
  { fid := 54, sig := { ps := [.rows 1], rs := z90 }, ann := { calls := [(5, 37), (8, 128)] } },
  { fid := 55, sig := { ps := [.ints .u8], rs := z90 }, ann := { calls := [(18, 129), (27, 127), (36, 130), (40, 131), (45, 132), (56, 133), (62, 134), (69, 135)], loops := [(12, { tm := [(14, I6), (15, I6)], bs := z19 }, [(.exit 0, { tm := [], bs := z19 })])], joins := [(18, [(.normal, { tm := [(12, .ptr 3 0)], bs := z19 })])] } },
  { fid := 185, sig := { ps := [.rows 4], rs := [.bool] }, ann := { calls := [(14, 136), (19, 137)], loops := [(2, { tm := [(9, I6)], bs := [] }, [(.exit 0, { tm := [], bs := [] }), (.ret, { tm := [(2, .bool)], bs := [] })])] } },
  { fid := 186, sig := { ps := z46, rs := [I6] }, ann := { calls := [(21, 91)], loops := [(5, { tm := [(3, I6), (15, I6)], bs := [.same] }, [(.exit 0, { tm := [(3, I6)], bs := [.same] })])], joins := [(23, [(.normal, { tm := [(3, I6)], bs := [.same] })])] } },
  { fid := 187, sig := { ps := [.rows 4], rs := [.ints .u8] }, ann := { calls := [(24, 92)], loops := [(3, { tm := [(3, .arr 0), (10, I6)], bs := z87 }, [(.exit 0, { tm := [(3, .arr 0)], bs := z87 })])], joins := [(37, [(.normal, { tm := [(6, .ints .u8)], bs := z92 })])] } },
  { fid := 233, sig := { ps := [.str], rs := [.bool] }, ann := { loops := [(4, { tm := [(3, I6)], bs := [] }, [(.exit 0, { tm := [], bs := [] }), (.ret, { tm := [(2, .bool)], bs := [] })])] } },
  { fid := 235, sig := { ps := z84, rs := [I6, I6, I6] }, ann := { calls := [(15, 21)] } },
  { fid := 236, sig := { ps := z84, rs := [.ints .i64, I6, I6] }, ann := { calls := [(20, 94), (40, 94)], loops := [(9, { tm := [(1, I6), (11, .arr 0), (12, I6), (13, I6)], bs := z86 }, [(.exit 0, { tm := [(1, I6), (11, .arr 0)], bs := z86 }), (.ret, { tm := [(6, .ints .i64), (7, I6), (8, I6)], bs := [] })])], joins := [(28, [(.normal, { tm := [(53, .bool)], bs := [.same] })])] } },
  { fid := 237, sig := { ps := z84, rs := [.rows 3, I6, I6] }, ann := { loops := [(6, { tm := [(10, .arr 0), (11, I6)], bs := [.rows 3 false] }, [(.exit 0, { tm := [(10, .arr 0)], bs := [.rows 3 false] }), (.ret, { tm := [(6, .rows 3), (7, I6), (8, I6)], bs := [] })])] } },
  { fid := 238, sig := { ps := [.agg z39], rs := [.bool] }, ann := { loops := [(7, { tm := [(3, I6), (57, I6)], bs := [.same] }, [(.exit 0, { tm := [], bs := [.same] }), (.ret, { tm := [(2, .bool)], bs := [.same] })])], joins := [(2, [(.normal, { tm := [(33, .bool)], bs := [.same] })]), (6, [(.normal, { tm := [(53, .bool)], bs := [.same] })])] } },
  { fid := 239, sig := { ps := [.rows 2, I6], rs := [I6] }, ann := { loops := [(2, { tm := [(9, I6)], bs := [] }, [(.exit 0, { tm := [], bs := [] }), (.ret, { tm := [(4, I6)], bs := [] })])] } },
  { fid := 223, sig := { ps := [.ptr 0 0, I6, I6, .fn 224 []], pb := z62, rs := [.str], rb := z62 }, ann := { calls := [(16, 100), (30, 138), (32, 100)] } },
  { fid := 225, sig := { ps := [.ptr 0 0, .bool, I6, I6], pb := z62, rs := [.bool], rb := z62 }, ann := { joins := [(2, [(.normal, { tm := [(17, .bool)], bs := [.same] })])] } },
  { fid := 223, sig := { ps := [.ptr 0 0, I6, I6, .fn 226 []], pb := z62, rs := [.str], rb := z62 }, ann := { calls := [(16, 100), (30, 139), (32, 100)] } },
  { fid := 227, sig := { ps := [.ints .u8], rs := [.ints .u8] }, ann := {} },
  { fid := 148, sig := { ps := z76, rs := [.bool] }, ann := { loops := [(7, { tm := [(26, I6)], bs := [.same] }, [(.exit 0, { tm := [], bs := [.same] }), (.ret, { tm := [(2, .bool)], bs := [.same] })])], joins := [(2, [(.normal, { tm := [(19, .bool)], bs := [.same] })]), (45, [(.normal, { tm := [(3, I6)], bs := [.same] })])] } },
  { fid := 149, sig := { ps := z76, rs := [.agg [I6, .arr 0, .lit .i64 2048, .lit .i64 1792, .lit .i64 1568, .lit .i64 1372, .lit .i64 1201, .lit .i64 1051, .lit .i64 920, .lit .i64 805, .lit .i64 705, .lit .i64 617, .lit .i64 540, .lit .i64 473, .lit .i64 414, .lit .i64 363, .lit .i64 318, .lit .i64 279, .lit .i64 245, .lit .i64 215, .lit .i64 189, .lit .i64 166, .lit .i64 146, .lit .i64 128, .lit .i64 112, .lit .i64 98, .lit .i64 86, .lit .i64 76, .lit .i64 67, .lit .i64 59, .lit .i64 52, .lit .i64 46, .lit .i64 41, .lit .i64 36, .int .u64, .int .u64]], rb := z86 }, ann := { calls := [(4, 140), (5, 141)] } },
  { fid := 174, sig := { ps := [.ptr 0 0], pb := [.box z13, .ints .i64 false, .ints .u8 false], rb := z3 }, ann := { joins := [(25, [(.normal, { tm := [(2, .int .u8)], bs := z3 })])] } },
  { fid := 175, sig := { ps := z91, pb := z8, rs := [I6, I6], rb := z8 }, ann := { calls := [(12, 142), (36, 143), (61, 144), (65, 145), (69, 146), (71, 147)], loops := [(12, { tm := [], bs := z7 }, [(.exit 1, { tm := [], bs := z7 })])], joins := [(6, [(.normal, { tm := [(13, .bool)], bs := z92 })]), (21, [(.normal, { tm := [], bs := z92 }), (.ret, { tm := [(4, I6), (5, I6)], bs := z92 })]), (85, [(.normal, { tm := [(6, I6)], bs := z92 })])] } },
  { fid := 176, sig := { ps := [.ptr 0 0], pb := z8, rs := z76, rb := z8 }, ann := { calls := [(4, 142), (11, 140)] } },
  { fid := 156, sig := { ps := [.agg [I6, .ints .i64], I6, I6], rs := [I6] }, ann := {} },
  { fid := 177, sig := { ps := z91, pb := z8, rs := [.agg [.bool, I6], I6], rb := z8 }, ann := { calls := [(16, 106), (37, 106), (57, 148), (63, 106), (85, 106)], loops := [(5, { tm := [(8, I6)], bs := z4 }, [(.exit 0, { tm := [(8, I6)], bs := z4 }), (.ret, { tm := [(5, I6)], bs := z4 })]), (14, { tm := [(9, I6), (50, I6)], bs := z1 }, [(.exit 2, { tm := [(9, I6)], bs := z1 }), (.ret, { tm := [(5, I6)], bs := z1 })])], joins := [(4, [(.normal, { tm := [(24, .bool)], bs := z81 })]), (113, [(.normal, { tm := [(12, I6)], bs := [.same, .same, .same, .box [I6]] })])] } },
  { fid := 150, sig := { ps := [.ints .i64], rs := [I6] }, ann := { calls := [(9, 149)] } },
  { fid := 151, sig := { rs := [.arr 0], rb := z86 }, ann := { loops := [(3, { tm := [(6, I6)], bs := z88 }, [(.exit 0, { tm := [], bs := z88 })])] } },
  { fid := 153, sig := { ps := [.arr 0, I6], pb := z86, rs := [I6], rb := z88 }, ann := {} },
  { fid := 178, sig := { ps := [.arr 0], pb := z87, rs := [.fn 218 [.ptr 1 0]], rb := [.ints .u8 true, .box [.arr 0]] }, ann := {} },
  { fid := 147, sig := { ps := [.ints .u8], rs := [.ints .i64] }, ann := { calls := [(7, 150)], loops := [(3, { tm := [(10, I6)], bs := z88 }, [(.exit 0, { tm := [], bs := z88 })])] } },
  { fid := 179, sig := { ps := [.ints .i64, .ints .i64], rs := [.bool] }, ann := { loops := [(4, { tm := [(13, I6)], bs := [] }, [(.exit 0, { tm := [], bs := [] }), (.ret, { tm := [(4, .bool)], bs := [] })])] } },
  { fid := 180, sig := { ps := z85, pb := z62, rs := [I6], rb := z62 }, ann := { calls := [(24, 67)], joins := [(8, [(.normal, { tm := [(39, .bool)], bs := [.same] })]), (79, [(.normal, { tm := [(9, I6)], bs := [.same] })])] } },
  { fid := 181, sig := { ps := [.ptr 0 0], pb := z62, rs := [.str], rb := z62 }, ann := { calls := [(5, 116)], joins := [(4, [(.normal, { tm := [(24, .bool)], bs := [.same] })]), (49, [(.normal, { tm := [], bs := z62 })])] } },
  { fid := 92, sig := { ps := [I6], rs := [.arr 0, I6], rb := z87 }, ann := { loops := [(5, { tm := [(0, I6), (4, .arr 1)], bs := z73 }, [(.exit 0, { tm := [(4, .arr 1)], bs := z73 })])], joins := [(2, [(.normal, { tm := [(10, .bool)], bs := [] })])] } },
  { fid := 93, sig := { ps := [.rows 1], rs := [.ints .u8] }, ann := { calls := [(8, 151), (19, 151), (25, 151), (28, 119), (30, 152)], loops := [(3, { tm := [(3, .ints .u8), (11, I6)], bs := [] }, [(.exit 0, { tm := [(3, .ints .u8)], bs := [] })])] } },
  { fid := 94, sig := { ps := [.ints .u8], rs := z89 }, ann := { calls := [(8, 114)] } },
  { fid := 96, sig := { ps := z76, rs := z74, rb := z10, more := [([.nil, .lit .i64 10], [])] }, ann := { calls := [(5, 103), (8, 104)] } },
  { fid := 97, sig := { ps := [.ints .i64], rs := z89 }, ann := { calls := [(11, 110), (15, 111), (24, 153), (27, 112)], loops := [(7, { tm := [(5, .arr 1), (18, I6)], bs := z57 }, [(.exit 0, { tm := [(5, .arr 1)], bs := z57 })])] } },
  { fid := 98, sig := { ps := [.ptr 0 0, I6, .agg [.bool, I6]], pb := z10, rs := [I6], rb := z10 }, ann := { calls := [(9, 154), (12, 155), (15, 156), (17, 108), (24, 157), (25, 158)] } },
  { fid := 100, sig := { ps := [.ptr 0 0], pb := z10, rs := [.ints .u8], rb := z12 }, ann := { calls := [(8, 159)], loops := [(5, { tm := [(3, .arr 3), (15, I6)], bs := z51 }, [(.exit 0, { tm := [(3, .arr 3)], bs := z51 }), (.ret, { tm := [(2, .arr 3)], bs := z48 })]), (10, { tm := [(3, .arr 3), (38, I6)], bs := z48 }, [(.exit 2, { tm := [(3, .arr 3)], bs := z48 })])] } },
  { fid := 219, sig := { ps := [.ptr 0 0, .rows 4, I6], pb := [.box [I6]], rs := [.bool], rb := [.box [I6]] }, ann := { calls := [(34, 138), (42, 139), (56, 125)], loops := [(2, { tm := [(11, I6)], bs := [.box [I6]] }, [(.exit 0, { tm := [], bs := [.box [I6]] }), (.ret, { tm := [(6, .bool)], bs := [.box [I6]] })])], joins := [(10, [(.normal, { tm := [(36, .bool)], bs := z92 })])] } },
  { fid := 220, sig := { ps := z46, rs := [I6] }, ann := { calls := [(21, 85)], loops := [(5, { tm := [(3, I6), (15, I6)], bs := [.same] }, [(.exit 0, { tm := [(3, I6)], bs := [.same] })])] } },
  { fid := 101, sig := { ps := [I6], rs := [.arr 0, I6], rb := z87 }, ann := { loops := [(5, { tm := [(0, I6), (4, .arr 1)], bs := z73 }, [(.exit 0, { tm := [(4, .arr 1)], bs := z73 })])], joins := [(2, [(.normal, { tm := [(10, .bool)], bs := [] })])] } },
  { fid := 102, sig := { ps := [.rows 1], rs := [.ints .u8] }, ann := { calls := [(13, 127), (29, 127), (38, 127), (58, 128)], loops := [(3, { tm := [(3, .arr 0), (5, I6)], bs := z87 }, [(.exit 0, { tm := [(3, .arr 0)], bs := z87 })])] } },
  { fid := 103, sig := { ps := [.ints .u8], rs := z89 }, ann := { calls := [(10, 160)], loops := [(6, { tm := [(6, .arr 0), (7, I6)], bs := z86 }, [(.exit 0, { tm := [(6, .arr 0)], bs := z86 })])] } },
  { fid := 104, sig := { ps := [.ints .i64], rs := z89 }, ann := { calls := [(10, 161), (14, 162), (38, 163)], loops := [(7, { tm := [(5, .ints .i64), (6, .arr 0), (7, I6)], bs := z86 }, [(.exit 0, { tm := [(6, .arr 0)], bs := z86 })]), (10, { tm := [(8, I6)], bs := [.same] }, [(.exit 2, { tm := [(8, I6)], bs := [.same] })])] } },
  { fid := 105, sig := { ps := [I6, I6], rs := [.agg [I6, .arr 0], I6], rb := z86 }, ann := { joins := [(2, [(.normal, { tm := [(19, .bool)], bs := [.same] })])] } },
  { fid := 106, sig := { ps := z76, rs := z74, rb := z23, more := [([.nil, .lit .i64 10], [])] }, ann := { calls := [(5, 164), (8, 165), (9, 166)] } },
  { fid := 108, sig := { ps := [I6], rs := [I6] }, ann := {} },
  { fid := 107, sig := { ps := [.ptr 0 0, I6, .agg [.bool, I6]], pb := z23, rs := [I6], rb := z23 }, ann := { calls := [(10, 167), (14, 168), (18, 169), (22, 170), (42, 171)], loops := [(5, { tm := [(8, I6)], bs := z21 }, [(.exit 0, { tm := [], bs := z21 })])], joins := [(2, [(.normal, { tm := [(20, .bool)], bs := [.box z41, .ints .i64 false, .ints .u8 true, .same] })])] } },
  { fid := 109, sig := { ps := [.ptr 0 0], pb := z23, rs := [.ints .u8], rb := [.box z41, .ints .i64 true, .ints .u8 true] }, ann := { calls := [(15, 172)] } },
  { fid := 221, sig := { ps := z46, rs := [.bool] }, ann := { calls := [(7, 93), (23, 93), (44, 136)], loops := [(8, { tm := [(39, I6)], bs := [.same] }, [(.exit 0, { tm := [], bs := [.same] }), (.ret, { tm := [(2, .bool)], bs := [.same] })])], joins := [(8, [(.normal, { tm := [(2, .bool)], bs := [.same] })]), (10, [(.normal, { tm := [(35, .bool)], bs := [.same] })])] } },
  { fid := 222, sig := { ps := [.rows 4], rs := [I6, I6] }, ann := { calls := [(17, 137)], loops := [(2, { tm := [(2, I6), (3, I6), (10, I6)], bs := [] }, [(.exit 0, { tm := [(2, I6), (3, I6)], bs := [] })])] } },
  { fid := 224, sig := { ps := [.str], rs := [.bool] }, ann := { loops := [(4, { tm := [(8, I6)], bs := [] }, [(.exit 0, { tm := [], bs := [] }), (.ret, { tm := [(2, .bool)], bs := [] })])] } },
  { fid := 226, sig := { ps := [.str], rs := [.bool] }, ann := { calls := [(4, 138)] } },
  { fid := 201, sig := { ps := z76, rs := [.agg [I6, .arr 0]], rb := z86 }, ann := {} },
  { fid := 202, sig := { rs := [.agg z17] }, ann := { unroll := [(4, 1000)] } },
  { fid := 217, sig := { ps := [.ptr 0 0], pb := z8, rs := [.bool], rb := z9 }, ann := {} },
  { fid := 206, sig := { ps := z91, pb := z8, rs := [.int .u64], rb := z9 }, ann := { calls := [(33, 173)] } },
  { fid := 205, sig := { ps := [.ptr 0 0, I6, I6, .int .u64], pb := z8, rb := z9 }, ann := { calls := [(39, 174)], joins := [(19, [(.normal, { tm := [], bs := z9 })])] } },
  { fid := 207, sig := { ps := [.ptr 0 0], pb := z8, rs := [.bool], rb := z9 }, ann := {} },
  { fid := 208, sig := { ps := [.ptr 0 0], pb := z8, rs := [.int .u8], rb := z9 }, ann := {} },
  { fid := 174, sig := { ps := [.ptr 0 0], pb := z8, rb := z9 }, ann := { joins := [(25, [(.normal, { tm := [(2, .int .u8)], bs := z9 })])] } },
  { fid := 210, sig := { ps := [.ptr 0 0], pb := [.box [I6]], rs := [I6], rb := [.box [I6]] }, ann := {} },
  { fid := 203, sig := { ps := [.ints .i64, .fn 204 []], rs := [.bool] }, ann := { calls := [(7, 175)] } },
  { fid := 200, sig := { ps := [.ints .u8], rs := [.arr 0], rb := z86 }, ann := { calls := [(21, 176)], loops := [(3, { tm := [(11, I6)], bs := [.same, .ints .i64 true] }, [(.exit 0, { tm := [], bs := [.same, .ints .i64 true] })])] } },
  { fid := 145, sig := { ps := [I6], rs := [.ints .u8] }, ann := { calls := [(7, 118)] } },
  { fid := 146, sig := { ps := [.rows 7], rs := [.arr 0], rb := z87 }, ann := { calls := [(24, 177)], loops := [(3, { tm := [(3, I6), (11, I6)], bs := [] }, [(.exit 0, { tm := [(3, I6)], bs := [] })]), (11, { tm := [(6, .arr 0), (27, I6)], bs := z87 }, [(.exit 2, { tm := [(6, .arr 0)], bs := z87 })])] } },
  { fid := 152, sig := { ps := z89, rs := [I6] }, ann := { loops := [(2, { tm := [(8, I6)], bs := [] }, [(.exit 0, { tm := [], bs := [] }), (.ret, { tm := [(4, I6)], bs := [] })])] } },
  { fid := 154, sig := { ps := z85, pb := z10, rs := [I6], rb := z11 }, ann := { calls := [(9, 159), (41, 178), (42, 179), (46, 180), (55, 181)], loops := [(6, { tm := [], bs := z11 }, [(.exit 1, { tm := [], bs := z11 })])], joins := [(6, [(.normal, { tm := [(10, .bool)], bs := z81 })]), (15, [(.normal, { tm := [], bs := z81 }), (.ret, { tm := [(6, I6)], bs := z81 })])], orders := [(7, [4, 8], [[0, 1, 2, 3, 4, 5, 6, 7, 8, 9, 10, 11, 12, 13], [0, 1, 2, 3, 5, 6, 7, 8, 4, 9, 10, 11, 12, 13]])] } },
  { fid := 155, sig := { ps := [.agg [.bool, I6]], rs := [.bool] }, ann := {} },
  { fid := 157, sig := { ps := [.ptr 0 0], pb := z10, rs := z76, rb := [.box z16, .ints .i64 false, .ints .u8 true] }, ann := { calls := [(4, 159), (11, 140)] } },
  { fid := 159, sig := { ps := [I6, .agg [.bool, I6]], rs := [.rows 8] }, ann := { calls := [(30, 182), (68, 148)], loops := [(7, { tm := [(5, .arr 1), (33, I6)], bs := z79 }, [(.exit 0, { tm := [(5, .arr 1)], bs := z79 })]), (15, { tm := [(5, .arr 1), (10, I6)], bs := [.same, .rows 8 false, .box [I6]] }, [(.exit 2, { tm := [(5, .arr 1)], bs := [.same, .rows 8 false, .box [I6]] })])], joins := [(93, [(.normal, { tm := [(5, .arr 1)], bs := z79 })]), (135, [(.normal, { tm := [(11, I6)], bs := [.same, .same, .box [I6]] })]), (177, [(.normal, { tm := [], bs := [.same, .same, .same, .box [I6, I6]] })])] } },
  { fid := 158, sig := { ps := [.ptr 0 0, .rows 8], pb := z10, rs := [I6], rb := z11 }, ann := { calls := [(19, 154)], loops := [(2, { tm := [(10, I6)], bs := z11 }, [(.exit 0, { tm := [], bs := z11 }), (.ret, { tm := [(4, I6)], bs := z11 })])] } },
  { fid := 160, sig := { ps := [.ptr 0 0], pb := z10, rs := [.bool], rb := z12 }, ann := {} },
  { fid := 161, sig := { ps := [.ints .u8], rs := z89 }, ann := { calls := [(21, 183)], loops := [(5, { tm := [(4, .arr 0), (5, I6)], bs := z86 }, [(.exit 0, { tm := [(4, .arr 0)], bs := z86 })])] } },
  { fid := 162, sig := { ps := [.ints .i64], rs := [I6] }, ann := { loops := [(4, { tm := [(3, I6)], bs := [] }, [(.exit 0, { tm := [], bs := [] }), (.ret, { tm := [(2, I6)], bs := [] })])] } },
  { fid := 163, sig := { rs := [.ints .i64] }, ann := { loops := [(3, { tm := [(2, I6)], bs := z88 }, [(.exit 0, { tm := [], bs := z88 })])] } },
  { fid := 164, sig := { ps := z89, rs := [.ints .i64] }, ann := {} },
  { fid := 165, sig := { ps := z76, rs := [.bool] }, ann := { loops := [(7, { tm := [(26, I6)], bs := [.same] }, [(.exit 0, { tm := [], bs := [.same] }), (.ret, { tm := [(2, .bool)], bs := [.same] })])], joins := [(8, [(.normal, { tm := [(22, .bool)], bs := [.same] })]), (17, [(.normal, { tm := [(3, I6)], bs := [.same] })])] } },
  { fid := 166, sig := { ps := z76, rs := [.agg [I6, .arr 0]], rb := z86 }, ann := {} },
  { fid := 167, sig := { rs := z63 }, ann := {} },
  { fid := 168, sig := { ps := [.agg [.bool, I6]], rs := [.bool] }, ann := {} },
  { fid := 170, sig := { ps := [.ptr 0 0], pb := z23, rs := z76, rb := [.box z41, .ints .i64 false, .ints .u8 true] }, ann := { calls := [(10, 165)] } },
  { fid := 169, sig := { ps := [I6, I6, I6], rs := [.bool] }, ann := {} },
  { fid := 171, sig := { ps := [.agg [.bool, I6]], rs := [.rows 8] }, ann := { loops := [(9, { tm := [(6, .arr 2), (7, I6)], bs := [.same, .same, .ints .i64 false] }, [(.exit 0, { tm := [(6, .arr 2)], bs := [.same, .same, .ints .i64 false] })]), (14, { tm := [(3, .arr 1), (9, I6)], bs := z64 }, [(.exit 2, { tm := [(3, .arr 1)], bs := z64 })]), (20, { tm := [(3, .arr 1), (10, I6)], bs := z64 }, [(.exit 4, { tm := [(3, .arr 1)], bs := z64 })])], joins := [(43, [(.normal, { tm := [(4, I6), (5, I6)], bs := z92 })]), (101, [(.normal, { tm := [(3, .arr 1)], bs := z64 })]), (133, [(.normal, { tm := [(11, I6)], bs := z81 })])] } },
  { fid := 172, sig := { ps := z85, pb := z23, rs := [I6], rb := z24 }, ann := { calls := [(43, 184), (51, 185), (74, 186), (80, 187), (102, 188)], loops := [(8, { tm := [], bs := z24 }, [(.exit 0, { tm := [], bs := z24 })])], joins := [(6, [(.normal, { tm := [(29, .bool)], bs := z81 })])] } },
  { fid := 173, sig := { ps := z63, rs := [.ints .u8] }, ann := { loops := [(3, { tm := [(3, .arr 1), (4, .int .u64)], bs := z72 }, [(.exit 0, { tm := [(3, .arr 1)], bs := z72 })])] } },
  { fid := 244, sig := { ps := [.agg z17, I6, I6], rs := [I6] }, ann := {} },
  { fid := 243, sig := { ps := [I6, I6, I6], rs := [I6] }, ann := { joins := [(41, [(.normal, { tm := [], bs := [.box [I6, I6]] })])] } },
  { fid := 198, sig := { ps := [.ints .i64, .fn 204 []], rs := [I6] }, ann := { calls := [(16, 189)], loops := [(2, { tm := [(8, I6)], bs := [] }, [(.exit 0, { tm := [], bs := [] }), (.ret, { tm := [(4, I6)], bs := [] })])] } },
  { fid := 240, sig := { ps := [.arr 0, .fn 241 [.ptr 1 0]], pb := z55, rb := z58 }, ann := { calls := [(11, 182), (13, 190)] } },
  { fid := 199, sig := { ps := [.nilsl, I6], rs := [.arr 0], rb := z87 }, ann := { cuts := [25] } },
  { fid := 206, sig := { ps := z91, pb := z10, rs := [.int .u64], rb := z12 }, ann := { calls := [(33, 173)] } },
  { fid := 205, sig := { ps := [.ptr 0 0, I6, I6, .int .u64], pb := z10, rb := z12 }, ann := { calls := [(39, 174)], joins := [(19, [(.normal, { tm := [], bs := z12 })])] } },
  { fid := 207, sig := { ps := [.ptr 0 0], pb := z10, rs := [.bool], rb := z12 }, ann := {} },
  { fid := 208, sig := { ps := [.ptr 0 0], pb := z10, rs := [.int .u8], rb := z12 }, ann := {} },
  { fid := 209, sig := { ps := [.int .u64], rs := [I6] }, ann := { calls := [(7, 191)] } },
  { fid := 211, sig := { ps := [.ints .u8, .ints .i64], rs := [.ints .i64] }, ann := { calls := [(20, 183), (27, 183), (57, 192)], loops := [(6, { tm := [(7, .arr 0), (8, I6), (9, I6)], bs := z86 }, [(.exit 0, { tm := [(7, .arr 0)], bs := z86 })])], joins := [(12, [(.normal, { tm := [(37, .bool)], bs := [.same] })]), (14, [(.normal, { tm := [(59, .bool)], bs := [.same] })])] } },
  { fid := 212, sig := { ps := [I6, I6], rs := [I6] }, ann := { calls := [(12, 193), (18, 193)] } },
  { fid := 213, sig := { ps := [.agg z80, I6, I6], rs := z63 }, ann := { calls := [(13, 194), (17, 194)] } },
  { fid := 214, sig := { ps := [I6, I6, I6], rs := [I6] }, ann := { joins := [(95, [(.normal, { tm := [], bs := [.box [I6, I6]] })])] } },
  { fid := 215, sig := { ps := z63, rs := [.bool] }, ann := {} },
  { fid := 216, sig := { ps := z63, rs := z63 }, ann := {} },
  { fid := 204, sig := { ps := [I6], rs := [.bool] }, ann := {} },
  { fid := 255, sig := { ps := z44, pb := z55, rb := z58 }, ann := { calls := [(30, 195), (37, 196), (44, 197), (52, 198), (61, 199), (80, 200), (94, 201), (103, 202), (111, 203), (134, 190), (146, 190)], loops := [(2, { tm := [(1, I6), (2, I6), (3, I6), (10, .bool), (11, .bool)], bs := z58 }, [(.ret, { tm := [], bs := z58 })])], joins := [(30, [(.normal, { tm := [(75, .bool)], bs := z92 })]), (34, [(.normal, { tm := [(97, .bool)], bs := z70 })]), (79, [(.normal, { tm := [(3, I6)], bs := z58 })]), (113, [(.normal, { tm := [(13, I6), (14, I6)], bs := z58 })]), (151, [(.normal, { tm := [], bs := z58 }), (.ret, { tm := [], bs := z58 })])] } },
  { fid := 246, sig := { ps := [.int .u64], rs := [I6] }, ann := { joins := [(9, [(.normal, { tm := z71, bs := [] })]), (17, [(.normal, { tm := z71, bs := [] })]), (29, [(.normal, { tm := z71, bs := [] })])] } },
  { fid := 247, sig := { ps := z84, rs := [.bool] }, ann := {} },
  { fid := 248, sig := { ps := [I6], rs := [I6] }, ann := { loops := [(3, { tm := [(3, I6), (4, I6)], bs := [] }, [(.exit 0, { tm := [(3, I6)], bs := [] })])] } },
  { fid := 249, sig := { ps := [.agg z80, I6], rs := [.int .u64] }, ann := {} },
  { fid := 257, sig := { ps := z56, pb := z55, rb := z58 }, ann := { calls := [(32, 201)], loops := [(1, { tm := [(8, I6)], bs := z58 }, [(.exit 0, { tm := [], bs := z58 })]), (4, { tm := [(9, I6)], bs := z58 }, [(.exit 2, { tm := [], bs := z58 })])], joins := [(8, [(.normal, { tm := [(34, .bool)], bs := z70 })])] } },
  { fid := 258, sig := { ps := z56, pb := z55, rb := z58 }, ann := { calls := [(29, 204), (59, 204)], loops := [(4, { tm := [(11, I6)], bs := z58 }, [(.exit 0, { tm := [], bs := z58 })]), (8, { tm := [(12, I6)], bs := z58 }, [(.exit 2, { tm := [], bs := z58 })])] } },
  { fid := 259, sig := { ps := z56, pb := z55, rb := z58 }, ann := { calls := [(21, 205), (38, 206)], loops := [(5, { tm := [(11, I6)], bs := z42 }, [(.exit 0, { tm := [], bs := z42 })])], joins := [(91, [(.normal, { tm := [(12, I6)], bs := z81 })])] } },
  { fid := 260, sig := { ps := z56, pb := z55, rs := [I6, I6], rb := z58 }, ann := { calls := [(40, 207), (44, 207), (48, 207), (54, 208)], joins := [(69, [(.normal, { tm := [(13, I6)], bs := z34 })]), (73, [(.normal, { tm := [(12, I6), (13, I6), (14, I6)], bs := z34 })])] } },
  { fid := 261, sig := { ps := z56, pb := z55, rb := z58 }, ann := { loops := [(2, { tm := [(8, I6), (9, I6)], bs := [.ints .i64 true, .same] }, [(.exit 0, { tm := [], bs := [.ints .i64 true, .same] })])] } },
  { fid := 262, sig := { ps := z56, pb := z55, rs := [.bool], rb := z58 }, ann := { calls := [(33, 201), (82, 201), (122, 201)], loops := [(3, { tm := [(9, I6), (10, I6)], bs := z58 }, [(.exit 0, { tm := [], bs := z58 }), (.ret, { tm := [(8, .bool)], bs := z58 })]), (5, { tm := [(9, I6)], bs := z70 }, [(.exit 2, { tm := [(9, I6)], bs := z70 })]), (14, { tm := [(11, I6)], bs := z58 }, [(.exit 4, { tm := [], bs := z58 })]), (20, { tm := [(12, I6)], bs := z58 }, [(.exit 6, { tm := [], bs := z58 })])], joins := [(131, [(.normal, { tm := [], bs := z58 })])] } },
  { fid := 241, sig := { ps := [I6, I6, .ptr 0 0], pb := [.box [.ints .u8]], rs := [I6], rb := [.box [.ints .u8]] }, ann := { calls := [(12, 209)] } },
  { fid := 263, sig := { ps := z44, pb := z55, rs := [I6], rb := z58 }, ann := { calls := [(44, 201), (63, 201)], loops := [(3, { tm := [(11, I6)], bs := z70 }, [(.exit 2, { tm := [(11, I6)], bs := z70 })]), (5, { tm := [(12, I6)], bs := z70 }, [(.exit 4, { tm := [(12, I6)], bs := z70 })]), (1000003, { tm := [(11, I6), (12, I6)], bs := z58 }, [(.exit 0, { tm := [(11, I6)], bs := z58 })])] } },
  { fid := 264, sig := { ps := z44, pb := z55, rs := [I6, .bool], rb := z58 }, ann := { calls := [(45, 201), (63, 201), (118, 201), (136, 201)], loops := [(3, { tm := [(12, I6)], bs := z70 }, [(.exit 0, { tm := [(12, I6)], bs := z70 })]), (5, { tm := [(13, I6)], bs := z70 }, [(.exit 2, { tm := [(13, I6)], bs := z70 })]), (13, { tm := [(12, I6)], bs := z70 }, [(.exit 6, { tm := [(12, I6)], bs := z70 })]), (15, { tm := [(13, I6)], bs := z70 }, [(.exit 8, { tm := [(13, I6)], bs := z70 })]), (1000013, { tm := [(12, I6), (13, I6)], bs := z58 }, [(.exit 4, { tm := [(13, I6)], bs := z58 })])] } },
  { fid := 265, sig := { ps := z44, pb := z55, rb := z58 }, ann := { calls := [(38, 201), (56, 201)], loops := [(1, { tm := [(10, I6)], bs := z58 }, [(.exit 0, { tm := [], bs := z58 }), (.ret, { tm := [], bs := z58 })])], joins := [(6, [(.normal, { tm := [(40, .bool)], bs := z70 })]), (81, [(.normal, { tm := [(11, I6)], bs := z92 })])] } },
  { fid := 266, sig := { ps := [I6], rs := [.int .u64] }, ann := { calls := [(5, 182)] } },
  { fid := 267, sig := { ps := [.ptr 0 0], pb := [.box [.int .u64]], rs := [.int .u64], rb := [.box [.int .u64]] }, ann := {} },
  { fid := 268, sig := { ps := [.arr 0, I6, .ptr 1 0, .fn 241 [.ptr 2 0]], pb := z33, rs := [I6], rb := z35 }, ann := { calls := [(17, 208)] } },
  { fid := 269, sig := { ps := [.arr 0, I6, I6, I6, .ptr 1 0, .fn 241 [.ptr 2 0]], pb := z33, rs := [I6], rb := z35 }, ann := { calls := [(19, 210), (28, 210), (37, 210)] } },
  { fid := 242, sig := { ps := [.ints .u8, .ints .u8], rs := [I6] }, ann := {} },
  { fid := 270, sig := { ps := [.arr 0, I6, I6, .ptr 1 0, .fn 241 [.ptr 2 0]], pb := z33, rs := [I6, I6], rb := z35 }, ann := { calls := [(21, 201)] } }]
noncomputable def G : Prg := { P := Tryz.prog, E := E, el := fun t => lookN t els, F := fun i => (getL insts i).getD { fid := 0, sig := {}, ann := {} }, cmp := fun f => Nat.beq f 256 }
theorem B896 : ∀ {l : List (PV TT)} {x : File}, inn0 l = some x -> Sames (E := E) l (outs0 x)
  | [], _, h => by cases h
  | [_], _, h => by cases h
  | [_, _], _, h => by cases h
  | [_, _, _], _, h => by
    simp only [inn0] at h
    obtain ⟨y0, h0, h⟩ := A21.1 h; obtain ⟨y1, h1, h⟩ := A21.1 h; obtain ⟨y2, h2, h⟩ := A21.1 h; cases h; exact .cons (V.asStr_same h0) (.cons (V.asInt_same h1) (.cons (V.asInts_same h2) (.nil)))
  | _ :: _ :: _ :: _ :: _, _, h => by cases h
theorem B915 : ∀ {l : List (PV TT)} {x : Outline}, inn1 l = some x -> Sames (E := E) l (outs1 x)
  | [], _, h => by cases h
  | [_], _, h => by cases h
  | [_, _], _, h => by cases h
  | [_, _, _], _, h => by
    simp only [inn1] at h
    obtain ⟨y0, h0, h⟩ := A21.1 h; obtain ⟨y1, h1, h⟩ := A21.1 h; obtain ⟨y2, h2, h⟩ := A21.1 h; cases h; exact .cons (V.asStr_same h0) (.cons (V.asInt_same h1) (.cons (V.asRows_same h2) (.nil)))
  | _ :: _ :: _ :: _ :: _, _, h => by cases h
theorem B921 : ∀ {l : List (PV TT)} {x : Segment}, inn2 l = some x -> Sames (E := E) l (outs2 x)
  | [], _, h => by cases h
  | [_], _, h => by cases h
  | [_, _], _, h => by cases h
  | [_, _, _], _, h => by cases h
  | [_, _, _, _], _, h => by cases h
  | [_, _, _, _, _], _, h => by cases h
  | [_, _, _, _, _, _], _, h => by
    simp only [inn2] at h
    obtain ⟨y0, h0, h⟩ := A21.1 h; obtain ⟨y1, h1, h⟩ := A21.1 h; obtain ⟨y2, h2, h⟩ := A21.1 h; obtain ⟨y3, h3, h⟩ := A21.1 h; obtain ⟨y4, h4, h⟩ := A21.1 h; obtain ⟨y5, h5, h⟩ := A21.1 h; cases h; exact .cons (V.asInt_same h0) (.cons (V.asInt_same h1) (.cons (V.asInt_same h2) (.cons (V.asInts_same h3) (.cons (V.asRows_same h4) (.cons (V.asInts_same h5) (.nil))))))
  | _ :: _ :: _ :: _ :: _ :: _ :: _ :: _, _, h => by cases h
theorem B916 : ∀ {l : List (PV TT)} {x : Bool}, inn3 l = some x -> Sames (E := E) l (outs3 x)
  | [], _, h => by cases h
  | [_], _, h => by
    simp only [inn3] at h
    obtain ⟨y0, h0, h⟩ := A21.1 h; cases h; exact .cons (V.asBool_same h0) (.nil)
  | _ :: _ :: _, _, h => by cases h
theorem B925 : ∀ {l : List (PV TT)} {x : Chunk}, inn4 l = some x -> Sames (E := E) l (outs4 x)
  | [], _, h => by cases h
  | [_], _, h => by cases h
  | [_, _], _, h => by cases h
  | [_, _, _], _, h => by cases h
  | [_, _, _, _], _, h => by
    simp only [inn4] at h
    obtain ⟨y0, h0, h⟩ := A21.1 h; obtain ⟨y1, h1, h⟩ := A21.1 h; obtain ⟨y2, h2, h⟩ := A21.1 h; obtain ⟨y3, h3, h⟩ := A21.1 h; cases h; exact .cons (V.asStr_same h0) (.cons (V.asStr_same h1) (.cons (V.asInts_same h2) (.cons (V.asRows_same h3) (.nil))))
  | _ :: _ :: _ :: _ :: _ :: _, _, h => by cases h
theorem B909 : ∀ {l : List (PV TT)} {x : Arr2}, inn5 l = some x -> Sames (E := E) l (outs5 x)
  | [], _, h => by cases h
  | [_], _, h => by cases h
  | [_, _], _, h => by
    simp only [inn5] at h
    obtain ⟨y0, h0, h⟩ := A21.1 h; obtain ⟨y1, h1, h⟩ := A21.1 h; cases h; exact .cons (V.asInt_same h0) (.cons (V.asInt_same h1) (.nil))
  | _ :: _ :: _ :: _, _, h => by cases h
theorem B904 : ∀ {l : List (PV TT)} {x : List Int}, inn6 l = some x -> Sames (E := E) l (outs6 x)
  | [], _, h => by cases h
  | [_], _, h => by
    simp only [inn6] at h
    obtain ⟨y0, h0, h⟩ := A21.1 h; cases h; exact .cons (V.asStr_same h0) (.nil)
  | _ :: _ :: _, _, h => by cases h
theorem B933 : ∀ {l : List (PV TT)} {x : List Int}, inn7 l = some x -> Sames (E := E) l (outs7 x)
  | [], _, h => by cases h
  | [_], _, h => by
    simp only [inn7] at h
    obtain ⟨y0, h0, h⟩ := A21.1 h; cases h; exact .cons (V.asInts_same h0) (.nil)
  | _ :: _ :: _, _, h => by cases h
theorem B923 : ∀ {l : List (PV TT)} {x : Event}, inn8 l = some x -> Sames (E := E) l (outs8 x)
  | [], _, h => by cases h
  | [_], _, h => by cases h
  | [_, _], _, h => by
    simp only [inn8] at h
    obtain ⟨y0, h0, h⟩ := A21.1 h; obtain ⟨y1, h1, h⟩ := A21.1 h; cases h; exact .cons (V.asInt_same h0) (.cons (V.asInt_same h1) (.nil))
  | _ :: _ :: _ :: _, _, h => by cases h
theorem envOk : EnvOk E := by
  refine EnvOk.of ?_ ?_ ?_
  . intro i l x h
    match i, x, h with
    | 0, x, h => exact B896 h
    | 1, x, h => exact B915 h
    | 2, x, h => exact B921 h
    | 3, x, h => exact B916 h
    | 4, x, h => exact B925 h
    | 5, x, h => exact B909 h
    | 6, x, h => exact B904 h
    | 7, x, h => exact B933 h
    | 8, x, h => exact B923 h
    | i + 9, x, h => cases h
  . intro i x
    match i, x with
    | 0, x => rfl
    | 1, x => rfl
    | 2, x => rfl
    | 3, x => rfl
    | 4, x => rfl
    | 5, x => rfl
    | 6, x => rfl
    | 7, x => rfl
    | 8, x => rfl
    | i + 9, x => rfl
  . intro i x p hf hp
    match i, x with
    | 0, x => exact absurd hf (by decide)
    | 1, x => exact absurd hf (by decide)
    | 2, x => exact absurd hf (by decide)
    | 3, x => exact B169 (.inr (.inl ⟨_, rfl⟩)) (B344) p hp
    | 4, x => exact absurd hf (by decide)
    | 5, x => exact B169 (.inl ⟨_, _, rfl⟩) (B169 (.inl ⟨_, _, rfl⟩) (B344)) p hp
    | 6, x => exact B169 (.inr (.inr ⟨_, rfl⟩)) (B344) p hp
    | 7, x => exact absurd hf (by decide)
    | 8, x => exact B169 (.inl ⟨_, _, rfl⟩) (B169 (.inl ⟨_, _, rfl⟩) (B344)) p hp
    | i + 9, x => exact absurd hf (by simp [E, getL])
theorem elsOk : els.all (okEl G) = true := by kernel_rfl
theorem prgOk : PrgOk G := .of envOk els (fun _ => rfl) elsOk (by kernel_rfl) (fun f h => by have h := B5 (show Nat.beq f 256 = true from h); subst h; exact ⟨_, rfl, by kernel_rfl, by kernel_rfl, by kernel_rfl, by kernel_rfl⟩)
noncomputable def bulk0 (x : File) : Nat := (x.name.length + 1) + (1 + ((x.data.length + 1) + 0))
mutual
noncomputable def bulk1 : Outline -> Nat
  | .mk title page kids => (title.length + 1) + (1 + ((B14 kids + 1) + 0))
noncomputable def B14 : List Outline -> Nat
  | [] => 0
  | x :: l => bulk1 x + B14 l
end
noncomputable def bulk3 (x : Bool) : Nat := 1 + 0
noncomputable def bulk2 (x : Segment) : Nat := 1 + (1 + (1 + ((x.refs.length + 1) + ((sumL bulk3 x.keep + 1) + ((x.data.length + 1) + 0)))))
mutual
noncomputable def bulk4 : Chunk -> Nat
  | .mk id kind data kids => (id.length + 1) + ((kind.length + 1) + ((data.length + 1) + ((B12 kids + 1) + 0)))
noncomputable def B12 : List Chunk -> Nat
  | [] => 0
  | x :: l => bulk4 x + B12 l
end
noncomputable def bulk5 (x : Arr2) : Nat := 1 + (1 + 0)
noncomputable def bulk6 (x : List Int) : Nat := (x.length + 1) + 0
noncomputable def bulk7 (x : List Int) : Nat := (x.length + 1) + 0
noncomputable def bulk8 (x : Event) : Nat := 1 + (1 + 0)
noncomputable def bulk : (i : Nat) -> TT i -> Nat
  | 0, x => bulk0 x
  | 1, x => bulk1 x
  | 2, x => bulk2 x
  | 3, x => bulk3 x
  | 4, x => bulk4 x
  | 5, x => bulk5 x
  | 6, x => bulk6 x
  | 7, x => bulk7 x
  | 8, x => bulk8 x
  | _, _ => 0
theorem B837 (x : File) : bulk0 x = B21 bulk (outs0 x) := by simp only [bulk0, outs0, B21, bulkP] <;> rfl
theorem B371 : ∀ l : List Outline, B14 l = sumL bulk1 l
  | [] => by simp only [B14, sumL]
  | x :: l => by simp only [B14, sumL, B371 l]
theorem B840 : ∀ x : Outline, bulk1 x = B21 bulk (outs1 x)
  | .mk title page kids => by have e2 := B243 (b := bulk) (i := 1) (f := bulk1) (fun _ => rfl) kids; simp only [bulk1, outs1, B21, bulkP, B371, e2] <;> rfl
theorem B839 (x : Bool) : bulk3 x = B21 bulk (outs3 x) := by simp only [bulk3, outs3, B21, bulkP] <;> rfl
theorem B869 (x : Segment) : bulk2 x = B21 bulk (outs2 x) := by have e4 := B243 (b := bulk) (i := 3) (f := bulk3) (fun _ => rfl) x.keep; simp only [bulk2, outs2, B21, bulkP, e4] <;> rfl
theorem B551 : ∀ l : List Chunk, B12 l = sumL bulk4 l
  | [] => by simp only [B12, sumL]
  | x :: l => by simp only [B12, sumL, B551 l]
theorem B879 : ∀ x : Chunk, bulk4 x = B21 bulk (outs4 x)
  | .mk id kind data kids => by have e3 := B243 (b := bulk) (i := 4) (f := bulk4) (fun _ => rfl) kids; simp only [bulk4, outs4, B21, bulkP, B551, e3] <;> rfl
theorem B829 (x : Arr2) : bulk5 x = B21 bulk (outs5 x) := by simp only [bulk5, outs5, B21, bulkP] <;> rfl
theorem B855 (x : List Int) : bulk6 x = B21 bulk (outs6 x) := by simp only [bulk6, outs6, B21, bulkP] <;> rfl
theorem B848 (x : List Int) : bulk7 x = B21 bulk (outs7 x) := by simp only [bulk7, outs7, B21, bulkP] <;> rfl
theorem B856 (x : Event) : bulk8 x = B21 bulk (outs8 x) := by simp only [bulk8, outs8, B21, bulkP] <;> rfl
theorem B794 : RowsOk G bulk where
  bulk i x := by
    match i, x with
    | 0, x => exact B837 x
    | 1, x => exact B840 x
    | 2, x => exact B869 x
    | 3, x => exact B839 x
    | 4, x => exact B879 x
    | 5, x => exact B829 x
    | 6, x => exact B855 x
    | 7, x => exact B848 x
    | 8, x => exact B856 x
    | i + 9, x => rfl
  int e k h := ⟨(prgOk.int e k h).1, B486 elsOk h⟩
  row e i h := by
    have hc := B486 elsOk h
    have hm := B219 h
    simp only [els, A18, A75, A76, A27, reduceCtorEq, and_false, false_or, EK.row.injEq] at hm
    rcases hm with ⟨rfl, rfl⟩ | ⟨rfl, rfl⟩ | ⟨rfl, rfl⟩ | ⟨rfl, rfl⟩ | ⟨rfl, rfl⟩ | ⟨rfl, rfl⟩ | ⟨rfl, rfl⟩ | ⟨rfl, rfl⟩ | ⟨rfl, rfl⟩
    . refine ⟨8, [.bool], by kernel_rfl, hc, by decide, fun ps h => ?_⟩
      obtain ⟨y0, r0, rfl, h0⟩ := B582 h; cases B109 h0; exact ⟨y0, rfl⟩
    . refine ⟨8, [.str], by kernel_rfl, hc, by decide, fun ps h => ?_⟩
      obtain ⟨y0, r0, rfl, h0⟩ := B202 h; cases B109 h0; exact ⟨y0, rfl⟩
    . refine ⟨8, [.ints .u8], by kernel_rfl, hc, by decide, fun ps h => ?_⟩
      obtain ⟨y0, r0, rfl, h0⟩ := B175 h; cases B109 h0; exact ⟨y0, rfl⟩
    . refine ⟨8, [.str, .int .i64, .ints .u8], by kernel_rfl, hc, by decide, fun ps h => ?_⟩
      obtain ⟨y0, r0, rfl, h0⟩ := B202 h; obtain ⟨y1, r1, rfl, h1⟩ := B106 h0; obtain ⟨y2, r2, rfl, h2⟩ := B175 h1; cases B109 h2; exact ⟨⟨y0, y1, y2⟩, rfl⟩
    . refine ⟨8, [.str, .str, .ints .u8, .rows 4], by kernel_rfl, hc, by decide, fun ps h => ?_⟩
      obtain ⟨y0, r0, rfl, h0⟩ := B202 h; obtain ⟨y1, r1, rfl, h1⟩ := B202 h0; obtain ⟨y2, r2, rfl, h2⟩ := B175 h1; obtain ⟨y3, r3, rfl, h3⟩ := B172 h2; cases B109 h3; exact ⟨⟨y0, y1, y2, y3⟩, rfl⟩
    . refine ⟨8, [.str, .int .i64, .rows 1], by kernel_rfl, hc, by decide, fun ps h => ?_⟩
      obtain ⟨y0, r0, rfl, h0⟩ := B202 h; obtain ⟨y1, r1, rfl, h1⟩ := B106 h0; obtain ⟨y2, r2, rfl, h2⟩ := B172 h1; cases B109 h2; exact ⟨⟨y0, y1, y2⟩, rfl⟩
    . refine ⟨8, [.int .i64, .int .i64, .int .i64, .ints .i64, .rows 3, .ints .u8], by kernel_rfl, hc, by decide, fun ps h => ?_⟩
      obtain ⟨y0, r0, rfl, h0⟩ := B106 h; obtain ⟨y1, r1, rfl, h1⟩ := B106 h0; obtain ⟨y2, r2, rfl, h2⟩ := B106 h1; obtain ⟨y3, r3, rfl, h3⟩ := B175 h2; obtain ⟨y4, r4, rfl, h4⟩ := B172 h3; obtain ⟨y5, r5, rfl, h5⟩ := B175 h4; cases B109 h5; exact ⟨⟨y0, y1, y2, y3, y4, y5⟩, rfl⟩
    . refine ⟨8, [.int .i64, .int .i64], by kernel_rfl, hc, by decide, fun ps h => ?_⟩
      obtain ⟨y0, r0, rfl, h0⟩ := B106 h; obtain ⟨y1, r1, rfl, h1⟩ := B106 h0; cases B109 h1; exact ⟨⟨y0, y1⟩, rfl⟩
    . refine ⟨8, [.int .i64, .int .i64], by kernel_rfl, hc, by decide, fun ps h => ?_⟩
      obtain ⟨y0, r0, rfl, h0⟩ := B106 h; obtain ⟨y1, r1, rfl, h1⟩ := B106 h0; cases B109 h1; exact ⟨⟨y0, y1⟩, rfl⟩
noncomputable def Z0 (b1 : List File) (b2 : List Outline) (name3 : List Int) : Option Bool := call G 0 (b1, b2, name3)
noncomputable def Z1 (b1 : List File) (b2 : List Outline) : Option Bool := call G 1 (b1, b2)
noncomputable def Z2 : Option Bool := call G 2 ()
noncomputable def Z3 (b1 : List File) (b2 : List Outline) (name3 : List Int) : Option ((List Int) × Int) := call G 3 (b1, b2, name3)
noncomputable def Z4 (b1 : List File) (b2 : List Outline) (name3 : List Int) : Option ((List Int) × Int) := call G 4 (b1, b2, name3)
noncomputable def Z5 (a1 b2 : List Int) : Option Bool := call G 5 (a1, b2)
noncomputable def Z6 (b1 : List Int) : Option ((List Chunk) × Int × Int) := call G 6 b1
noncomputable def Z7 (b1 : List Int) : Option Int := call G 7 b1
noncomputable def Z8 (b1 : List Int) : Option (Int × Int × Int × (List Segment) × (List Int) × (List Arr2)) := call G 8 b1
noncomputable def Z9 (l1 : List Segment) : Option Bool := call G 9 l1
noncomputable def Z10 (index1 : List Int) (bound2 : Int) : Option ((Bool × (List Int) × Int × (List File) × (List Int)) ⊕ (Int)) := call G 10 (index1, bound2)
noncomputable def Z11 (name1 data2 : List Int) (b3 : Bool) (b4 : List Int) (b5 : Int) (b6 : List File) (b7 : List Int) : Option (Int × Bool × (List Int) × Int × (List File) × (List Int)) := call G 11 (name1, data2, b3, b4, b5, b6, b7)
noncomputable def Z12 (b1 : Bool) (b2 : List Int) (b3 : Int) (b4 : List File) (b5 : List Int) : Option (Int × Bool × (List Int) × Int × (List File) × (List Int)) := call G 12 (b1, b2, b3, b4, b5)
noncomputable def Z13 (b1 : Bool) (b2 : List Int) (b3 : Int) (b4 : List File) (b5 : List Int) : Option (Int × Bool × (List Int) × Int × (List File) × (List Int)) := call G 13 (b1, b2, b3, b4, b5)
noncomputable def Z14 (b1 : Bool) (b2 : List Int) (b3 : Int) (b4 : List File) (b5 : List Int) : Option ((List (List Int)) × Bool × (List Int) × Int × (List File) × (List Int)) := call G 14 (b1, b2, b3, b4, b5)
noncomputable def Z15 (b1 : List File) (b2 : List Outline) : Option Bool := call G 15 (b1, b2)
noncomputable def Z16 (b1 : List File) (b2 : List Outline) : Option ((List Int) × Int) := call G 16 (b1, b2)
noncomputable def Z17 (s1 : List Int) : Option (List Int) := call G 17 s1
noncomputable def Z18 (b1 : List File) (b2 : List Outline) : Option Bool := call G 18 (b1, b2)
noncomputable def Z19 (b1 : List File) (b2 : List Outline) : Option ((List Int) × Int) := call G 19 (b1, b2)
noncomputable def Z20 (at1 end2 deep3 : Int) (b4 : List Int) (b5 : Int) : Option ((List Chunk) × Int × Int × (List Int) × Int) := call G 20 (at1, end2, deep3, b4, b5)
noncomputable def Z21 (b1 : List Int) (at2 : Int) : Option (Int × Int × Int) := call G 21 (b1, at2)
noncomputable def Z22 (at1 e2 b3 b4 b5 : Int) (b6 : List Segment) (b7 : List Int) (b8 : List Arr2) : Option (Int × Int × Int × (List Segment) × (List Int) × (List Arr2)) := call G 22 (at1, e2, b3, b4, b5, b6, b7, b8)
noncomputable def Z23 (b1 : List Int) (at2 b3 b4 b5 : Int) (b6 : List Segment) (b7 : List Int) (b8 : List Arr2) : Option (Int × Int × Int × Int × (List Segment) × (List Int) × (List Arr2)) := call G 23 (b1, at2, b3, b4, b5, b6, b7, b8)
noncomputable def Z24 (b1 : List Int) (i2 at3 b4 b5 b6 : Int) (b7 : List Segment) (b8 : List Int) (b9 : List Arr2) : Option (Int × Bool × Int × Int × Int × (List Segment) × (List Int) × (List Arr2)) := call G 24 (b1, i2, at3, b4, b5, b6, b7, b8, b9)
noncomputable def Z25 (b1 b2 b3 : Int) (b4 : List Segment) (b5 : List Int) (b6 : List Arr2) : Option (Int × Int × Int × (List Segment) × (List Int) × (List Arr2)) := call G 25 (b1, b2, b3, b4, b5, b6)
noncomputable def Z26 (b1 : List Int) : Option ((List Chunk) × Int × Int) := call G 26 b1
noncomputable def Z27 (d1 : List Int) : Option ((List Int) × (List Outline) × Int × (List File)) := call G 27 d1
noncomputable def Z28 (b1 : Bool) (b2 : List Int) (b3 : Int) (b4 : List File) (b5 : List Int) : Option (Bool × Bool × (List Int) × Int × (List File) × (List Int)) := call G 28 (b1, b2, b3, b4, b5)
noncomputable def Z29 (name1 : List Int) (b2 : Bool) (b3 : List Int) (b4 : Int) (b5 : List File) (b6 : List Int) : Option (Int × Bool × (List Int) × Int × (List File) × (List Int)) := call G 29 (name1, b2, b3, b4, b5, b6)
noncomputable def Z30 (i1 : Int) (b2 : Bool) (b3 : List Int) (b4 : Int) (b5 : List File) (b6 : List Int) : Option (Bool × (List Int) × Int × (List File) × (List Int)) := call G 30 (i1, b2, b3, b4, b5, b6)
noncomputable def Z31 (l1 : List Outline) : Option Bool := call G 31 l1
noncomputable def Z32 (f1 : List Int) (f2 : Int) (f3 : List Int) : Option Bool := call G 32 (f1, f2, f3)
noncomputable def Z33 (l1 : List File) (name2 : List Int) : Option Int := call G 33 (l1, name2)
noncomputable def Z34 (kind1 : List Int) (b2 : List File) (b3 : List Outline) (files4 : List File) : Option ((List Int) × Int) := call G 34 (kind1, b2, b3, files4)
noncomputable def Z35 (f1 : List Int) (f2 : Int) (f3 : List Int) : Option Bool := call G 35 (f1, f2, f3)
noncomputable def Z36 (l1 : List File) : Option Bool := call G 36 l1
noncomputable def Z37 (l1 : List Outline) : Option Bool := call G 37 l1
noncomputable def Z38 (kind1 : List Int) (b2 : List File) (b3 : List Outline) (files4 : List File) : Option ((List Int) × Int) := call G 38 (kind1, b2, b3, files4)
noncomputable def Z39 (b1 : List Int) (e2 : Int) : Option ((List Int) × Int) := call G 39 (b1, e2)
noncomputable def Z40 (at1 end2 deep3 : Int) (b4 : List Int) (b5 : Int) : Option ((List Int) × (List Int) × (List Int) × (List Chunk) × Int × Int × (List Int) × Int) := call G 40 (at1, end2, deep3, b4, b5)
noncomputable def Z41 (b1 : List Int) (at2 : Int) : Option (Int × Int × Int × (List Int) × (List Bool) × (List Int) × Int × Int × Int) := call G 41 (b1, at2)
noncomputable def Z42 (l1 : List Segment) : Option (Int × Int) := call G 42 l1
noncomputable def Z43 (at1 end2 depth3 : Int) (b4 : List Int) (b5 b6 b7 : Int) : Option ((List Chunk) × (List Int) × Int × Int × Int) := call G 43 (at1, end2, depth3, b4, b5, b6, b7)
noncomputable def Z44 (b1 : List Int) : Option ((List Int) × Int) := call G 44 b1
noncomputable def Z45 (b1 : List Int) (b2 b3 : Int) : Option (Int × (List Int) × Int × Int) := call G 45 (b1, b2, b3)
noncomputable def Z46 (ok1 : Bool) (err2 : Int) (b3 : List Int) (b4 b5 : Int) : Option (Bool × (List Int) × Int × Int) := call G 46 (ok1, err2, b3, b4, b5)
noncomputable def Z47 (b1 : List Int) (b2 b3 : Int) : Option ((List Int) × Int × (List Int) × Int × (List Int) × Int × Int) := call G 47 (b1, b2, b3)
noncomputable def Z48 (b1 : List Int) : Option ((List Outline) × Int) := call G 48 b1
noncomputable def Z49 (s1 : List File) (b2 : List Int) : Option (Int × (List Int)) := call G 49 (s1, b2)
noncomputable def Z50 (b1 : List Int) (b2 : Int) : Option ((List Int) × Int) := call G 50 (b1, b2)
noncomputable def Z51 (l1 : List Outline) (depth2 b3 : Int) : Option (Bool × Int) := call G 51 (l1, depth2, b3)
noncomputable def Z52 (s1 : List Int) : Option Bool := call G 52 s1
noncomputable def Z53 (s1 : List File) (b2 : List Int) : Option (Int × (List Int)) := call G 53 (s1, b2)
noncomputable def Z54 (b1 : List File) (b2 : List Outline) : Option ((List Int) × Int) := call G 54 (b1, b2)
noncomputable def Z55 (f1 : List Int) (f2 : Int) (f3 : List Int) : Option ((List Int) × (List Int) × (List Int) × (List Chunk)) := call G 55 (f1, f2, f3)
noncomputable def Z56 (l1 : List Chunk) : Option ((List Int) × Int) := call G 56 l1
noncomputable def Z57 (s1 : List Int) : Option Bool := call G 57 s1
noncomputable def Z58 (l1 : List File) (name2 : List Int) : Option Int := call G 58 (l1, name2)
noncomputable def Z59 (l1 : List Outline) : Option (Int × Int × Bool) := call G 59 l1
noncomputable def Z60 (b1 : List File) (b2 : List Outline) : Option ((List Int) × Int) := call G 60 (b1, b2)
noncomputable def Z61 (f1 : List Int) (f2 : Int) (f3 : List Int) : Option ((List Int) × (List Int) × (List Int) × (List Chunk)) := call G 61 (f1, f2, f3)
noncomputable def Z62 (l1 : List Chunk) : Option ((List Int) × Int) := call G 62 l1
noncomputable def Z63 (at1 end2 : Int) (b3 : List Int) (b4 : Int) : Option ((List Int) × Int × (List Int) × Int) := call G 63 (at1, end2, b3, b4)
noncomputable def Z64 (b1 : List Int) (at2 : Int) : Option (Int × Int × Int × (List Int) × (List Bool) × (List Int) × Int × Int × Int) := call G 64 (b1, at2)
noncomputable def Z65 (l1 : List Segment) : Option ((List Bool) × Int) := call G 65 l1
noncomputable def Z66 (at1 end2 depth3 : Int) (b4 : List Int) (b5 b6 b7 : Int) : Option ((List Int) × (List Int) × (List Int) × (List Chunk) × Int × (List Int) × Int × Int × Int) := call G 66 (at1, end2, depth3, b4, b5, b6, b7)
noncomputable def Z67 (b1 : List Int) (at2 : Int) : Option (Int × Int × Int) := call G 67 (b1, at2)
noncomputable def Z68 (kind1 n2 : Int) : Option (Int × Int × (List Int)) := call G 68 (kind1, n2)
noncomputable def Z69 (m1 : Int) (m2 b3 : List Int) : Option ((Int × Int × Int × (List Int) × Int × Int × Int × Bool × (List Int)) ⊕ (Unit)) := call G 69 (m1, m2, b3)
noncomputable def Z70 (last1 : Int) : Option Int := call G 70 last1
noncomputable def Z71 (base1 b2 b3 b4 : Int) (b5 : List Int) (b6 b7 b8 : Int) (b9 : Bool) (b10 : List Int) : Option (Bool × Int × Int × Int × Int × Int × (List Int) × Int × Int × Int × Bool × (List Int)) := call G 71 (base1, b2, b3, b4, b5, b6, b7, b8, b9, b10)
noncomputable def Z72 (l1 : List Int) : Option ((List Int) × Int) := call G 72 l1
noncomputable def Z73 (l1 : List Int) : Option ((List Int) × Int) := call G 73 l1
noncomputable def Z74 (n1 : Int) (b2 : List Int) (b3 b4 : Int) : Option ((List Int) × (List Int) × Int × Int) := call G 74 (n1, b2, b3, b4)
noncomputable def Z75 (b1 : List Int) (b2 b3 : Int) : Option ((List Int) × (List Int) × Int × Int) := call G 75 (b1, b2, b3)
noncomputable def Z76 (depth1 : Int) (b2 : List Int) (b3 b4 b5 : Int) : Option ((List Outline) × (List Int) × Int × Int × Int) := call G 76 (depth1, b2, b3, b4, b5)
noncomputable def Z77 (f1 : List Int) (f2 : Int) (f3 b4 : List Int) : Option (Bool × (List Int)) := call G 77 (f1, f2, f3, b4)
noncomputable def Z78 (s1 : List Int) (b2 : Int) : Option (Int × Int) := call G 78 (s1, b2)
noncomputable def Z79 (k1 b2 : Int) : Option (Bool × Int) := call G 79 (k1, b2)
noncomputable def Z80 (f1 : List Int) (f2 : Int) (f3 b4 : List Int) : Option (Bool × (List Int)) := call G 80 (f1, f2, f3, b4)
noncomputable def Z81 (n1 : Int) (l2 : List Int) : Option (List Int) := call G 81 (n1, l2)
noncomputable def Z82 (l1 : List Outline) : Option ((List Int) × Int) := call G 82 l1
noncomputable def Z83 (text1 : List Int) : Option ((List Int) × Int) := call G 83 text1
noncomputable def Z84 (l1 : List Chunk) : Option Bool := call G 84 l1
noncomputable def Z85 (c1 c2 c3 : List Int) (c4 : List Chunk) : Option Int := call G 85 (c1, c2, c3, c4)
noncomputable def Z86 (c1 c2 c3 : List Int) (c4 : List Chunk) (b5 : List Int) : Option (List Int) := call G 86 (c1, c2, c3, c4, b5)
noncomputable def Z87 (n1 : Int) : Option (List Int) := call G 87 n1
noncomputable def Z88 (l1 : List Outline) : Option ((List Int) × Int) := call G 88 l1
noncomputable def Z89 (text1 : List Int) : Option ((List Int) × Int) := call G 89 text1
noncomputable def Z90 (l1 : List Chunk) : Option Bool := call G 90 l1
noncomputable def Z91 (c1 c2 c3 : List Int) (c4 : List Chunk) : Option Int := call G 91 (c1, c2, c3, c4)
noncomputable def Z92 (l1 : List Chunk) : Option (List Int) := call G 92 l1
noncomputable def Z93 (s1 : List Int) : Option Bool := call G 93 s1
noncomputable def Z94 (b1 : List Int) (at2 most3 : Int) : Option (Int × Int × Int) := call G 94 (b1, at2, most3)
noncomputable def Z95 (b1 : List Int) (at2 of3 : Int) : Option ((List Int) × Int × Int) := call G 95 (b1, at2, of3)
noncomputable def Z96 (b1 : List Int) (at2 many3 : Int) : Option ((List Bool) × Int × Int) := call G 96 (b1, at2, many3)
noncomputable def Z97 (s1 s2 s3 : Int) (s4 : List Int) (s5 : List Bool) (s6 : List Int) : Option Bool := call G 97 (s1, s2, s3, s4, s5, s6)
noncomputable def Z98 (l1 : List Segment) (n2 : Int) : Option Int := call G 98 (l1, n2)
noncomputable def Z99 (at1 end2 : Int) (b3 : List Int) (b4 b5 b6 : Int) : Option ((List Int) × (List Int) × Int × Int × Int) := call G 99 (at1, end2, b3, b4, b5, b6)
noncomputable def Z100 (ok1 : Bool) (err2 at3 : Int) (b4 : List Int) (b5 b6 b7 : Int) : Option (Bool × (List Int) × Int × Int × Int) := call G 100 (ok1, err2, at3, b4, b5, b6, b7)
noncomputable def Z101 (at1 end2 : Int) (b3 : List Int) (b4 b5 b6 : Int) : Option ((List Int) × (List Int) × Int × Int × Int) := call G 101 (at1, end2, b3, b4, b5, b6)
noncomputable def Z102 (b1 : List Int) : Option (List Int) := call G 102 b1
noncomputable def Z103 (m1 : Int) (m2 : List Int) : Option Bool := call G 103 (m1, m2)
noncomputable def Z104 (m1 : Int) (m2 : List Int) : Option (Int × Int × Int × (List Int)) := call G 104 (m1, m2)
noncomputable def Z105 (b1 b2 b3 b4 b5 b6 : Int) (b7 b8 : List Int) : Option (Int × Int × Int × Int × Int × Int × (List Int) × (List Int)) := call G 105 (b1, b2, b3, b4, b5, b6, b7, b8)
noncomputable def Z106 (ctx1 b2 b3 b4 : Int) (b5 : List Int) (b6 b7 b8 : Int) (b9 : Bool) (b10 : List Int) : Option (Int × Int × Int × Int × Int × (List Int) × Int × Int × Int × Bool × (List Int)) := call G 106 (ctx1, b2, b3, b4, b5, b6, b7, b8, b9, b10)
noncomputable def Z107 (b1 b2 b3 : Int) (b4 : List Int) (b5 b6 b7 : Int) (b8 : Bool) (b9 : List Int) : Option (Int × (List Int) × Int × Int × Int × (List Int) × Int × Int × Int × Bool × (List Int)) := call G 107 (b1, b2, b3, b4, b5, b6, b7, b8, b9)
noncomputable def Z108 (m1 : Int) (m2 : List Int) (base3 n4 : Int) : Option Int := call G 108 (m1, m2, base3, n4)
noncomputable def Z109 (base1 b2 b3 b4 : Int) (b5 : List Int) (b6 b7 b8 : Int) (b9 : Bool) (b10 : List Int) : Option (Bool × Int × Int × Int × Int × Int × (List Int) × Int × Int × Int × Bool × (List Int)) := call G 109 (base1, b2, b3, b4, b5, b6, b7, b8, b9, b10)
noncomputable def Z110 (l1 : List Int) : Option Int := call G 110 l1
noncomputable def Z111 : Option (List Int) := call G 111 ()
noncomputable def Z112 (place1 : Int) (b2 : List Int) : Option (Int × (List Int)) := call G 112 (place1, b2)
noncomputable def Z113 (b1 : List Int) : Option (List Int) := call G 113 b1
noncomputable def Z114 (text1 : List Int) : Option (List Int) := call G 114 text1
noncomputable def Z115 (s1 s2 : List Int) : Option Bool := call G 115 (s1, s2)
noncomputable def Z116 (low1 high2 : Int) (b3 : List Int) (b4 b5 b6 : Int) : Option (Int × (List Int) × Int × Int × Int) := call G 116 (low1, high2, b3, b4, b5, b6)
noncomputable def Z117 (b1 : List Int) (b2 b3 b4 : Int) : Option ((List Int) × (List Int) × Int × Int × Int) := call G 117 (b1, b2, b3, b4)
noncomputable def Z118 (n1 : Int) : Option (Int × (List Int)) := call G 118 n1
noncomputable def Z119 (l1 : List Outline) : Option (List Int) := call G 119 l1
noncomputable def Z120 (text1 : List Int) : Option ((List Int) × Int) := call G 120 text1
noncomputable def Z121 (m1 : Int) (m2 : List Int) : Option ((Int × Int × Int × (List Int) × (List Int)) ⊕ (Unit)) := call G 121 (m1, m2)
noncomputable def Z122 (l1 : List Int) : Option ((List Int) × Int) := call G 122 l1
noncomputable def Z123 (base1 : Int) (n2 : Bool) (n3 b4 b5 b6 : Int) (b7 b8 : List Int) : Option (Int × Int × Int × Int × (List Int) × (List Int)) := call G 123 (base1, n2, n3, b4, b5, b6, b7, b8)
noncomputable def Z124 (b1 b2 b3 : Int) (b4 b5 : List Int) : Option ((List Int) × Int × Int × Int × (List Int) × (List Int)) := call G 124 (b1, b2, b3, b4, b5)
noncomputable def Z125 (l1 : List Chunk) (depth2 b3 : Int) : Option (Bool × Int) := call G 125 (l1, depth2, b3)
noncomputable def Z126 (c1 c2 c3 : List Int) (c4 : List Chunk) : Option Int := call G 126 (c1, c2, c3, c4)
noncomputable def Z127 (n1 : Int) : Option (Int × (List Int)) := call G 127 n1
noncomputable def Z128 (l1 : List Outline) : Option (List Int) := call G 128 l1
noncomputable def Z129 (text1 : List Int) : Option ((List Int) × Int) := call G 129 text1
noncomputable def Z130 (l1 : List Int) : Option ((List Int) × Int) := call G 130 l1
noncomputable def Z131 (kind1 n2 : Int) : Option (Int × Int × (List Int)) := call G 131 (kind1, n2)
noncomputable def Z132 (m1 : Int) (m2 : List Int) : Option ((Int × Int × Int × (List Int) × (List Int)) ⊕ (Unit)) := call G 132 (m1, m2)
noncomputable def Z133 (was1 : Int) : Option Int := call G 133 was1
noncomputable def Z134 (base1 : Int) (n2 : Bool) (n3 b4 b5 b6 : Int) (b7 b8 : List Int) : Option (Int × Int × Int × Int × (List Int) × (List Int)) := call G 134 (base1, n2, n3, b4, b5, b6, b7, b8)
noncomputable def Z135 (b1 b2 b3 : Int) (b4 b5 : List Int) : Option ((List Int) × Int × Int × Int × (List Int) × (List Int)) := call G 135 (b1, b2, b3, b4, b5)
noncomputable def Z136 (c1 c2 c3 : List Int) (c4 : List Chunk) : Option Bool := call G 136 (c1, c2, c3, c4)
noncomputable def Z137 (l1 : List Chunk) : Option (Int × Int) := call G 137 l1
noncomputable def Z138 (s1 : List Int) : Option Bool := call G 138 s1
noncomputable def Z139 (s1 : List Int) : Option Bool := call G 139 s1
noncomputable def Z140 (m1 : Int) (m2 : List Int) : Option (Int × (List Int)) := call G 140 (m1, m2)
noncomputable def Z141 : Option Unit := call G 141 ()
noncomputable def Z142 (b1 b2 b3 : Int) (b4 : List Int) (b5 b6 b7 : Int) (b8 : Bool) (b9 : List Int) : Option (Bool × Int × Int × Int × (List Int) × Int × Int × Int × Bool × (List Int)) := call G 142 (b1, b2, b3, b4, b5, b6, b7, b8, b9)
noncomputable def Z143 (ctx1 b2 b3 b4 : Int) (b5 : List Int) (b6 b7 b8 : Int) (b9 : Bool) (b10 : List Int) : Option (Int × Int × Int × Int × (List Int) × Int × Int × Int × Bool × (List Int)) := call G 143 (ctx1, b2, b3, b4, b5, b6, b7, b8, b9, b10)
noncomputable def Z144 (ctx1 bit2 mid3 b4 b5 b6 : Int) (b7 : List Int) (b8 b9 b10 : Int) (b11 : Bool) (b12 : List Int) : Option (Int × Int × Int × (List Int) × Int × Int × Int × Bool × (List Int)) := call G 144 (ctx1, bit2, mid3, b4, b5, b6, b7, b8, b9, b10, b11, b12)
noncomputable def Z145 (b1 b2 b3 : Int) (b4 : List Int) (b5 b6 b7 : Int) (b8 : Bool) (b9 : List Int) : Option (Bool × Int × Int × Int × (List Int) × Int × Int × Int × Bool × (List Int)) := call G 145 (b1, b2, b3, b4, b5, b6, b7, b8, b9)
noncomputable def Z146 (b1 b2 b3 : Int) (b4 : List Int) (b5 b6 b7 : Int) (b8 : Bool) (b9 : List Int) : Option (Int × Int × Int × Int × (List Int) × Int × Int × Int × Bool × (List Int)) := call G 146 (b1, b2, b3, b4, b5, b6, b7, b8, b9)
noncomputable def Z147 (b1 b2 b3 : Int) (b4 : List Int) (b5 b6 b7 : Int) (b8 : Bool) (b9 : List Int) : Option (Int × Int × Int × (List Int) × Int × Int × Int × Bool × (List Int)) := call G 147 (b1, b2, b3, b4, b5, b6, b7, b8, b9)
noncomputable def Z148 (b1 : Int) : Option (Int × Int) := call G 148 b1
noncomputable def Z149 (s1 : List Int) : Option Bool := call G 149 s1
noncomputable def Z150 (text1 : List Int) : Option (List Int) := call G 150 text1
noncomputable def Z151 (n1 : Int) : Option (List Int) := call G 151 n1
noncomputable def slices_Concat_byte_byte (slices1 : List (List Int)) : Option (List Int) := call G 152 slices1
noncomputable def Z153 (s1 : List Int) (v2 : Int) : Option Int := call G 153 (s1, v2)
noncomputable def Z154 (ctx1 bit2 b3 b4 b5 : Int) (b6 b7 : List Int) : Option (Int × Int × Int × Int × (List Int) × (List Int)) := call G 154 (ctx1, bit2, b3, b4, b5, b6, b7)
noncomputable def Z155 (n1 : Bool) (n2 : Int) : Option Bool := call G 155 (n1, n2)
noncomputable def Z156 (b1 b2 b3 : Int) (b4 b5 : List Int) : Option (Int × (List Int) × Int × Int × Int × (List Int) × (List Int)) := call G 156 (b1, b2, b3, b4, b5)
noncomputable def Z157 (base1 : Int) (n2 : Bool) (n3 : Int) : Option (List Event) := call G 157 (base1, n2, n3)
noncomputable def Z158 (l1 : List Event) (b2 b3 b4 : Int) (b5 b6 : List Int) : Option (Int × Int × Int × Int × (List Int) × (List Int)) := call G 158 (l1, b2, b3, b4, b5, b6)
noncomputable def Z159 (b1 b2 b3 : Int) (b4 b5 : List Int) : Option (Bool × Int × Int × Int × (List Int) × (List Int)) := call G 159 (b1, b2, b3, b4, b5)
noncomputable def Z160 (text1 : List Int) : Option ((List Int) × Int) := call G 160 text1
noncomputable def Z161 (l1 : List Int) : Option Int := call G 161 l1
noncomputable def Z162 : Option (List Int) := call G 162 ()
noncomputable def Z163 (l1 : List Int) (at2 : Int) : Option (List Int) := call G 163 (l1, at2)
noncomputable def Z164 (m1 : Int) (m2 : List Int) : Option Bool := call G 164 (m1, m2)
noncomputable def Z165 (m1 : Int) (m2 : List Int) : Option (Int × (List Int)) := call G 165 (m1, m2)
noncomputable def Z166 : Option (Int × Int) := call G 166 ()
noncomputable def Z167 (n1 : Bool) (n2 : Int) : Option Bool := call G 167 (n1, n2)
noncomputable def Z168 (b1 b2 b3 : Int) (b4 b5 : List Int) : Option (Int × (List Int) × Int × Int × Int × (List Int) × (List Int)) := call G 168 (b1, b2, b3, b4, b5)
noncomputable def Z169 (states1 base2 n3 : Int) : Option Bool := call G 169 (states1, base2, n3)
noncomputable def Z170 (n1 : Bool) (n2 : Int) : Option (List Event) := call G 170 (n1, n2)
noncomputable def Z171 (ctx1 bit2 b3 b4 b5 : Int) (b6 b7 : List Int) : Option (Int × Int × Int × Int × (List Int) × (List Int)) := call G 171 (ctx1, bit2, b3, b4, b5, b6, b7)
noncomputable def Z172 (x1 x2 : Int) : Option (List Int) := call G 172 (x1, x2)
noncomputable def Z173 (kind1 s2 : Int) : Option Int := call G 173 (kind1, s2)
noncomputable def Z174 (kind1 s2 bit3 : Int) : Option Int := call G 174 (kind1, s2, bit3)
noncomputable def Z175 (s1 : List Int) : Option Int := call G 175 s1
noncomputable def Z176 (b1 b2 : List Int) : Option ((List Int) × (List Int)) := call G 176 (b1, b2)
noncomputable def Z177 (n1 : Int) : Option (List Int) := call G 177 n1
noncomputable def Z178 (ctx1 b2 b3 b4 : Int) (b5 b6 : List Int) : Option (Int × Int × Int × Int × (List Int) × (List Int)) := call G 178 (ctx1, b2, b3, b4, b5, b6)
noncomputable def Z179 (ctx1 bit2 mid3 b4 b5 b6 : Int) (b7 b8 : List Int) : Option (Int × Int × Int × (List Int) × (List Int)) := call G 179 (ctx1, bit2, mid3, b4, b5, b6, b7, b8)
noncomputable def Z180 (b1 b2 b3 : Int) (b4 b5 : List Int) : Option (Bool × Int × Int × Int × (List Int) × (List Int)) := call G 180 (b1, b2, b3, b4, b5)
noncomputable def Z181 (b1 b2 b3 : Int) (b4 b5 : List Int) : Option (Int × Int × Int × Int × (List Int) × (List Int)) := call G 181 (b1, b2, b3, b4, b5)
noncomputable def Z182 (x1 : Int) : Option Int := call G 182 x1
noncomputable def Z183 (text1 l2 : List Int) : Option (List Int) := call G 183 (text1, l2)
noncomputable def Z184 (kind1 state2 : Int) : Option Int := call G 184 (kind1, state2)
noncomputable def Z185 (x1 x2 p3 bit4 : Int) : Option (Int × Int) := call G 185 (x1, x2, p3, bit4)
noncomputable def Z186 (kind1 state2 bit3 : Int) : Option Int := call G 186 (kind1, state2, bit3)
noncomputable def Z187 (x1 x2 : Int) : Option Bool := call G 187 (x1, x2)
noncomputable def Z188 (x1 x2 : Int) : Option (Int × Int) := call G 188 (x1, x2)
noncomputable def Z189 (s1 : Int) : Option Bool := call G 189 s1
noncomputable def Z190 (a1 b2 limit3 : Int) (b4 b5 : List Int) : Option ((List Int) × (List Int)) := call G 190 (a1, b2, limit3, b4, b5)
noncomputable def Z191 (x1 : Int) : Option Int := call G 191 x1
noncomputable def Z192 (text1 : List Int) (a2 b3 : Int) : Option Bool := call G 192 (text1, a2, b3)
noncomputable def Z193 (k1 : Int) : Option Int := call G 193 k1
noncomputable def Z194 (x1 x2 p3 : Int) : Option Int := call G 194 (x1, x2, p3)
noncomputable def Z195 (a1 b2 : Int) (b3 b4 : List Int) : Option ((List Int) × (List Int)) := call G 195 (a1, b2, b3, b4)
noncomputable def Z196 (a1 b2 : Int) (b3 b4 : List Int) : Option ((List Int) × (List Int)) := call G 196 (a1, b2, b3, b4)
noncomputable def Z197 (a1 b2 : Int) (b3 b4 : List Int) : Option ((List Int) × (List Int)) := call G 197 (a1, b2, b3, b4)
noncomputable def Z198 (a1 b2 : Int) (b3 b4 : List Int) : Option (Int × Int × (List Int) × (List Int)) := call G 198 (a1, b2, b3, b4)
noncomputable def Z199 (a1 b2 : Int) (b3 b4 : List Int) : Option ((List Int) × (List Int)) := call G 199 (a1, b2, b3, b4)
noncomputable def Z200 (a1 b2 : Int) (b3 b4 : List Int) : Option (Bool × (List Int) × (List Int)) := call G 200 (a1, b2, b3, b4)
noncomputable def Z201 (a1 b2 : Int) (b3 : List Int) : Option (Int × (List Int)) := call G 201 (a1, b2, b3)
noncomputable def Z202 (a1 b2 pivot3 : Int) (b4 b5 : List Int) : Option (Int × (List Int) × (List Int)) := call G 202 (a1, b2, pivot3, b4, b5)
noncomputable def Z203 (a1 b2 pivot3 : Int) (b4 b5 : List Int) : Option (Int × Bool × (List Int) × (List Int)) := call G 203 (a1, b2, pivot3, b4, b5)
noncomputable def Z204 (lo1 hi2 first3 : Int) (b4 b5 : List Int) : Option ((List Int) × (List Int)) := call G 204 (lo1, hi2, first3, b4, b5)
noncomputable def Z205 (length1 : Int) : Option Int := call G 205 length1
noncomputable def Z206 (b1 : Int) : Option (Int × Int) := call G 206 b1
noncomputable def Z207 (a1 : Int) (b2 : List Int) (b3 : Int) (b4 : List Int) : Option (Int × (List Int) × Int × (List Int)) := call G 207 (a1, b2, b3, b4)
noncomputable def Z208 (a1 b2 c3 : Int) (b4 : List Int) (b5 : Int) (b6 : List Int) : Option (Int × (List Int) × Int × (List Int)) := call G 208 (a1, b2, c3, b4, b5, b6)
noncomputable def Z209 (a1 b2 : List Int) : Option Int := call G 209 (a1, b2)
noncomputable def Z210 (a1 b2 : Int) (b3 : List Int) (b4 : Int) (b5 : List Int) : Option (Int × Int × (List Int) × Int × (List Int)) := call G 210 (a1, b2, b3, b4, b5)
end
end Go.Proofs.YtcphcfknnfibmaaGreat.P
