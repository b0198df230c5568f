/- The program as the value reading has it: kinds of elements, functions, and that all fits. Printed by wip/tool/vsym.py. -/
import Derived.KernelRfl
import Derived.Test.YthnonplijagpdaaGreatProg
import Derived.Test.YthnonplijagpdaaGreatRow
namespace Go.Proofs.YthnonplijagpdaaGreat.P
open Go Go.Proofs.YthnonplijagpdaaGreat.V
set_option linter.unusedVariables false
set_option linter.unusedSimpArgs false
set_option maxRecDepth 100000
noncomputable section
structure File where
  name : List Int
  kind : Int
  data : List Int

structure Outline where
  title : List Int
  page : Int
  kids : List Outline

structure Chunk where
  id : List Int
  kind : List Int
  data : List Int
  kids : List Chunk

structure Event where
  ctx : Int
  bit : Int

noncomputable def TT : Nat → Type
  | 0 => File
  | 1 => List Int
  | 2 => Outline
  | 3 => Chunk
  | 4 => List Int
  | 5 => Event
  | _ => Unit
noncomputable def outs0 (x : File) : List (PV TT) := [.str x.name, .int .i64 x.kind, .ints .u8 x.data]
noncomputable def outs1 (x : List Int) : List (PV TT) := [.str x]
noncomputable def outs2 (x : Outline) : List (PV TT) := [.str x.title, .int .i64 x.page, .rows 2 x.kids]
noncomputable def outs3 (x : Chunk) : List (PV TT) := [.str x.id, .str x.kind, .ints .u8 x.data, .rows 3 x.kids]
noncomputable def outs4 (x : List Int) : List (PV TT) := [.ints .u8 x]
noncomputable def outs5 (x : Event) : List (PV TT) := [.int .i64 x.ctx, .int .i64 x.bit]
noncomputable def outs : (i : Nat) → TT i → List (PV TT)
  | 0, x => outs0 x
  | 1, x => outs1 x
  | 2, x => outs2 x
  | 3, x => outs3 x
  | 4, x => outs4 x
  | 5, x => outs5 x
  | _, _ => []
noncomputable def inn0 : List (PV TT) → Option File
  | [c0, c1, c2] => (V.asStr c0).bind fun y0 => (V.asInt .i64 c1).bind fun y1 => (V.asInts .u8 c2).bind fun y2 => some (File.mk y0 y1 y2)
  | _ => none
noncomputable def inn1 : List (PV TT) → Option (List Int)
  | [c0] => (V.asStr c0).bind fun y0 => some y0
  | _ => none
noncomputable def inn2 : List (PV TT) → Option Outline
  | [c0, c1, c2] => (V.asStr c0).bind fun y0 => (V.asInt .i64 c1).bind fun y1 => (V.asRows 2 c2).bind fun y2 => some (Outline.mk y0 y1 y2)
  | _ => none
noncomputable def inn3 : List (PV TT) → Option Chunk
  | [c0, c1, c2, c3] => (V.asStr c0).bind fun y0 => (V.asStr c1).bind fun y1 => (V.asInts .u8 c2).bind fun y2 => (V.asRows 3 c3).bind fun y3 => some (Chunk.mk y0 y1 y2 y3)
  | _ => none
noncomputable def inn4 : List (PV TT) → Option (List Int)
  | [c0] => (V.asInts .u8 c0).bind fun y0 => some y0
  | _ => none
noncomputable def inn5 : List (PV TT) → Option Event
  | [c0, c1] => (V.asInt .i64 c0).bind fun y0 => (V.asInt .i64 c1).bind fun y1 => some (Event.mk y0 y1)
  | _ => none
noncomputable def inn : (i : Nat) → List (PV TT) → Option (TT i)
  | 0, l => inn0 l
  | 1, l => inn1 l
  | 2, l => inn2 l
  | 3, l => inn3 l
  | 4, l => inn4 l
  | 5, l => inn5 l
  | _, _ => none
noncomputable def E : Env := { T := TT, outs := outs, inn := inn, sz := fun i => (getL [3, 1, 3, 4, 1, 2] i).getD 0, flat := fun i => (getL [false, true, false, false, false, true] i).getD false }
noncomputable def els : List (TypeId × EK) := [(3, .int .i64), (5, .int .u8), (9, .row 1), (45, .row 4), (47, .row 0), (92, .row 3), (131, .row 2), (499, .row 5)]
noncomputable abbrev I6 : TSh := .int .i64
def z69 : List BSh := [.same, .same]
def z68 : List TSh := [.ptr 0 0, I6]
def z67 : List TSh := [.ints .u8, I6]
def z66 : List TSh := [.ints .i64, I6]
def z65 : List BSh := [.ints .i64 true]
def z64 : List BSh := [.ints .u8 false]
def z63 : List BSh := [.ints .i64 false]
def z62 : List TSh := [.ints .u8, I6, I6]
def z61 : List TSh := [.str, I6, .ints .u8]
def z60 : List BSh := [.same, .same, .same]
def z59 : List BSh := [.same, .rows 5 false]
def z58 : List TSh := [.agg [I6, .ints .i64]]
def z57 : List TSh := [.ints .u8, I6, I6, I6]
def z56 : List TSh := [.ptr 0 0, .lit .i64 0]
def z55 : List (Nat × TSh) := [(0, .int .u64), (2, I6)]
def z54 : List BSh := [.same, .box [.ints .u8]]
def z53 : List (Nat × TSh) := [(2, .ints .u8), (3, I6)]
def z52 : List TSh := [.agg [.rows 0, .rows 2]]
def z51 : List BSh := [.box z62]
def z50 : List BSh := [.ints .i64 true, .box [I6]]
def z49 : List BSh := [.box z57]
def z48 : List BSh := [.ints .u8 false, .same, .same]
def z47 : List TSh := [.str, .str, .ints .u8, .rows 3]
def z46 : List BSh := [.ints .i64 true, .box [.ints .u8]]
def z45 : List BSh := [.ints .i64 true, .ints .i64 false]
def z44 : List TSh := [.arr 0, I6, I6, .fn 311 [.ptr 1 0]]
def z43 : List BSh := [.ints .i64 false, .box [.ints .u8]]
def z42 : List BSh := [.same, .same, .same, .rows 1 false]
def z41 : List BSh := [.same, .same, .same, .ints .u8 true]
def z40 : List BSh := [.box z57, .same]
def z39 : List BSh := [.same, .same, .same, .ints .u8 false]
def z38 : List TSh := [.agg z61, .ptr 0 0]
def z37 : List TSh := [.agg z47]
def z36 : List TSh := [.bool, .arr 1, .ints .i64, I6, .arr 2]
def z35 : List TSh := [.arr 0, I6, I6, I6, .fn 311 [.ptr 1 0]]
def z34 : List BSh := [.ints .i64 true, .same, .box [.int .u64]]
def z33 : List BSh := [.gone, .same, .same, .same, .same, .same]
def z32 : List BSh := [.box z57, .rows 2 false]
def z31 : List BSh := [.same, .same, .same, .ints .i64 true, .same]
def z30 : List BSh := [.box z57, .rows 3 false]
def z29 : List BSh := [.ints .i64 true, .box [I6], .box [.ints .u8]]
def z28 : List BSh := [.ints .i64 true, .box [.ints .u8], .box [I6]]
def z27 : List BSh := [.ints .i64 false, .box [I6], .box [.ints .u8]]
def z26 : List TSh := [.agg [I6, I6, .ints .i64, .ints .i64, .ints .i64], I6]
def z25 : List BSh := [.box z62, .rows 0 false, .ints .i64 false]
def z24 : List BSh := [.same, .rows 3 false, .box [.str, .str, .ints .u8, .arr 1]]
def z23 : List BSh := [.same, .same, .same, .same, .ints .i64 true, .ints .i64 true, .same]
def z22 : List BSh := [.box z36, .rows 0 true, .ints .i64 true]
def z21 : List BSh := [.box z36, .rows 0 true, .ints .i64 false]
def z20 : List BSh := [.box z36, .rows 0 false, .ints .i64 false]
def z19 : List BSh := [.box z36, .rows 0 true, .ints .i64 true, .rows 1 false]
def z18 : List BSh := [.same, .box [.ints .u8], .box [I6], .same, .same, .same, .same, .ints .u8 true, .same, .box [I6], .same]
def z17 : List TSh := [.lit .i64 2048, .lit .i64 1792, .lit .i64 1568, .lit .i64 1372, .lit .i64 1201, .lit .i64 1051, .lit .i64 920, .lit .i64 805, .lit .i64 705, .lit .i64 617, .lit .i64 540, .lit .i64 473, .lit .i64 414, .lit .i64 363, .lit .i64 318, .lit .i64 279, .lit .i64 245, .lit .i64 215, .lit .i64 189, .lit .i64 166, .lit .i64 146, .lit .i64 128, .lit .i64 112, .lit .i64 98, .lit .i64 86, .lit .i64 76, .lit .i64 67, .lit .i64 59, .lit .i64 52, .lit .i64 46, .lit .i64 41, .lit .i64 36]
def z16 : List TSh := [I6, .arr 1, .lit .i64 2048, .lit .i64 1792, .lit .i64 1568, .lit .i64 1372, .lit .i64 1201, .lit .i64 1051, .lit .i64 920, .lit .i64 805, .lit .i64 705, .lit .i64 617, .lit .i64 540, .lit .i64 473, .lit .i64 414, .lit .i64 363, .lit .i64 318, .lit .i64 279, .lit .i64 245, .lit .i64 215, .lit .i64 189, .lit .i64 166, .lit .i64 146, .lit .i64 128, .lit .i64 112, .lit .i64 98, .lit .i64 86, .lit .i64 76, .lit .i64 67, .lit .i64 59, .lit .i64 52, .lit .i64 46, .lit .i64 41, .lit .i64 36, .int .u64, .int .u64, .arr 2, .litb true]
def z15 : List TSh := [I6, .arr 1, .lit .i64 2048, .lit .i64 1792, .lit .i64 1568, .lit .i64 1372, .lit .i64 1201, .lit .i64 1051, .lit .i64 920, .lit .i64 805, .lit .i64 705, .lit .i64 617, .lit .i64 540, .lit .i64 473, .lit .i64 414, .lit .i64 363, .lit .i64 318, .lit .i64 279, .lit .i64 245, .lit .i64 215, .lit .i64 189, .lit .i64 166, .lit .i64 146, .lit .i64 128, .lit .i64 112, .lit .i64 98, .lit .i64 86, .lit .i64 76, .lit .i64 67, .lit .i64 59, .lit .i64 52, .lit .i64 46, .lit .i64 41, .lit .i64 36, .int .u64, .int .u64, .ints .u8, I6, .int .u64, I6, .bool, .litb true]
def z14 : List TSh := [I6, .arr 3, .lit .i64 2048, .lit .i64 1792, .lit .i64 1568, .lit .i64 1372, .lit .i64 1201, .lit .i64 1051, .lit .i64 920, .lit .i64 805, .lit .i64 705, .lit .i64 617, .lit .i64 540, .lit .i64 473, .lit .i64 414, .lit .i64 363, .lit .i64 318, .lit .i64 279, .lit .i64 245, .lit .i64 215, .lit .i64 189, .lit .i64 166, .lit .i64 146, .lit .i64 128, .lit .i64 112, .lit .i64 98, .lit .i64 86, .lit .i64 76, .lit .i64 67, .lit .i64 59, .lit .i64 52, .lit .i64 46, .lit .i64 41, .lit .i64 36, .int .u64, .int .u64, .ints .u8, I6, .int .u64, I6, .bool, .litb true]
def z13 : List TSh := [I6, .arr 1, .lit .i64 2048, .lit .i64 1792, .lit .i64 1568, .lit .i64 1372, .lit .i64 1201, .lit .i64 1051, .lit .i64 920, .lit .i64 805, .lit .i64 705, .lit .i64 617, .lit .i64 540, .lit .i64 473, .lit .i64 414, .lit .i64 363, .lit .i64 318, .lit .i64 279, .lit .i64 245, .lit .i64 215, .lit .i64 189, .lit .i64 166, .lit .i64 146, .lit .i64 128, .lit .i64 112, .lit .i64 98, .lit .i64 86, .lit .i64 76, .lit .i64 67, .lit .i64 59, .lit .i64 52, .lit .i64 46, .lit .i64 41, .lit .i64 36, .int .u64, .int .u64, .arr 2, I6, .int .u64, I6, .litb false, .litb true]
def z12 : List BSh := [.box z16, .ints .i64 true, .ints .u8 true]
def z11 : List BSh := [.box z16, .ints .i64 true, .ints .u8 false]
def z10 : List BSh := [.box z16, .ints .i64 false, .ints .u8 false]
def z9 : List BSh := [.box z15, .ints .i64 true]
def z8 : List BSh := [.box z15, .ints .i64 false]
def z7 : List BSh := [.box z15, .ints .i64 true, .same]
def z6 : List BSh := [.same, .same, .same, .box [I6, .arr 4, .lit .i64 2048, .lit .i64 1792, .lit .i64 1568, .lit .i64 1372, .lit .i64 1201, .lit .i64 1051, .lit .i64 920, .lit .i64 805, .lit .i64 705, .lit .i64 617, .lit .i64 540, .lit .i64 473, .lit .i64 414, .lit .i64 363, .lit .i64 318, .lit .i64 279, .lit .i64 245, .lit .i64 215, .lit .i64 189, .lit .i64 166, .lit .i64 146, .lit .i64 128, .lit .i64 112, .lit .i64 98, .lit .i64 86, .lit .i64 76, .lit .i64 67, .lit .i64 59, .lit .i64 52, .lit .i64 46, .lit .i64 41, .lit .i64 36, .int .u64, .int .u64, .arr 5, .litb true], .ints .i64 false, .ints .u8 false]
def z5 : List BSh := [.gone, .same, .box z14, .ints .i64 false]
def z4 : List BSh := [.box z15, .ints .i64 false, .box [.bool, I6]]
def z3 : List BSh := [.box z13, .ints .i64 true, .ints .u8 true]
def z2 : List BSh := [.same, .ints .i64 true, .ints .u8 true, .box z13]
def z1 : List BSh := [.box z15, .ints .i64 false, .box [.bool, I6], .box [I6]]
def z0 : List BSh := [.gone, .same, .box z14, .ints .i64 false, .ints .i64 false]
noncomputable def insts : List FInst := [
  { fid := 3, sig := { ps := [I6, .str], rs := [.bool] }, ann := { calls := [(19, 1), (25, 2), (31, 3), (36, 4), (54, 5), (59, 6), (65, 7), (70, 8), (75, 9), (80, 10), (83, 11)] } },
  { fid := 4, sig := { ps := [.nil, I6], rs := [.rows 1, I6] }, ann := { calls := [(12, 12), (16, 13), (30, 14)], loops := [(8, { tm := [(8, .arr 0), (24, I6)], bs := [.rows 1 false] }, [(.exit 0, { tm := [(8, .arr 0)], bs := [.rows 1 false] })])] } },
  { fid := 5, sig := { ps := [.nil, I6], rs := z26 }, ann := { calls := [(16, 1), (31, 15)] } },
  { fid := 5, sig := { ps := z68, pb := z20, rs := z26, rb := z21 }, ann := { calls := [(16, 16), (31, 17)] } },
  { fid := 6, sig := { ps := [.ptr 0 0, .str, .ints .u8], pb := z20, rs := [I6], rb := z21 }, ann := { calls := [(9, 18), (12, 19), (33, 20), (38, 21), (40, 22)], loops := [(10, { tm := [], bs := z21 }, [(.exit 1, { tm := [], bs := z21 })])], joins := [(20, [(.normal, { tm := [(45, .bool)], bs := z22 })])], cuts := [63], orders := [(10, [1, 5], [[0, 1, 2, 3, 4, 5, 6], [0, 2, 3, 4, 5, 1, 6]])] } },
  { fid := 6, sig := { ps := [.nil, .str, .ints .u8], rs := [I6] }, ann := { calls := [(9, 12), (12, 23)], cuts := [63] } },
  { fid := 7, sig := { ps := [.nil], rs := [.rows 1] }, ann := { calls := [(7, 12)] } },
  { fid := 8, sig := { ps := [.nil], rs := [I6] }, ann := { calls := [(7, 12)] } },
  { fid := 9, sig := { ps := [.nil], rs := [I6] }, ann := { calls := [(7, 12)] } },
  { fid := 10, sig := { ps := [.nil], rs := [.nil] }, ann := { calls := [(6, 12)] } },
  { fid := 11, sig := { ps := [.nil, .nil], rs := [.bool] }, ann := { calls := [(6, 12), (9, 12), (12, 12), (15, 12)], joins := [(2, [(.normal, { tm := [(10, .bool)], bs := [] })]), (4, [(.normal, { tm := [(4, .bool)], bs := [] })])] } },
  { fid := 12, sig := { rs := [.bool] }, ann := { calls := [(14, 24), (19, 25), (31, 4), (36, 22), (41, 26), (46, 27)], joins := [(6, [(.normal, { tm := [(4, .ptr 3 0), (5, I6)], bs := [.gone, .same, .same, .box [.bool, .arr 4, .ints .i64, I6, .arr 5], .rows 0 false, .ints .i64 false] })]), (8, [(.normal, { tm := [(27, .bool)], bs := z33 })])] } },
  { fid := 13, sig := { ps := [.nil], rs := [.bool] }, ann := {} },
  { fid := 14, sig := { ps := [.nil, I6], rs := z66 }, ann := { calls := [(14, 28), (21, 14), (26, 15)] } },
  { fid := 15, sig := { ps := [.nil, I6], rs := [.bool] }, ann := {} },
  { fid := 17, sig := { ps := [.nil], rs := z52 }, ann := {} },
  { fid := 4, sig := { ps := z68, pb := z20, rs := [.rows 1, I6], rb := z22 }, ann := { calls := [(12, 18), (16, 29), (30, 30)], loops := [(8, { tm := [(8, .arr 3), (24, I6)], bs := z19 }, [(.exit 0, { tm := [(8, .arr 3)], bs := z19 })])] } },
  { fid := 17, sig := { ps := [.ptr 0 0], pb := z20, rs := z52, rb := z22 }, ann := {} },
  { fid := 13, sig := { ps := [.ptr 0 0], pb := z20, rs := [.bool], rb := z22 }, ann := {} },
  { fid := 19, sig := { ps := [.ptr 0 0, .str], pb := z20, rs := [I6], rb := z22 }, ann := { calls := [(10, 31)] } },
  { fid := 20, sig := { ps := [.ints .u8], rs := [.ints .u8] }, ann := {} },
  { fid := 18, sig := { ps := z68, pb := z20, rb := z21 }, ann := { calls := [(10, 32)] } },
  { fid := 8, sig := { ps := [.ptr 0 0], pb := z20, rs := [I6], rb := z22 }, ann := { calls := [(7, 18)], loops := [(5, { tm := [(3, I6), (13, I6)], bs := z60 }, [(.exit 0, { tm := [(3, I6)], bs := z60 })])] } },
  { fid := 19, sig := { ps := [.nil, .str], rs := [I6] }, ann := {} },
  { fid := 25, sig := { ps := [.agg [.rows 0, .rows 2], .str], rs := z67 }, ann := { calls := [(9, 33), (14, 34), (30, 20)], loops := [(6, { tm := [(20, I6)], bs := [.same] }, [(.exit 0, { tm := [], bs := [.same] }), (.ret, { tm := [(4, .ints .u8), (5, I6)], bs := [.same] })])] } },
  { fid := 26, sig := { ps := z67, rs := z56, rb := z20, more := [([.nil, I6], [])] }, ann := { calls := [(14, 35), (64, 36)], joins := [(8, [(.normal, { tm := [(55, .bool)], bs := [] })]), (18, [(.normal, { tm := [(73, .bool)], bs := [.same] })])] } },
  { fid := 9, sig := { ps := [.ptr 0 0], pb := z20, rs := [I6], rb := z22 }, ann := { calls := [(7, 18)], loops := [(5, { tm := [(3, I6), (13, I6)], bs := z60 }, [(.exit 0, { tm := [(3, I6)], bs := z60 })])] } },
  { fid := 7, sig := { ps := [.ptr 0 0], pb := z20, rs := [.rows 1], rb := z22 }, ann := { calls := [(7, 18)], loops := [(5, { tm := [(3, .arr 3), (13, I6)], bs := z42 }, [(.exit 0, { tm := [(3, .arr 3)], bs := z42 })])] } },
  { fid := 27, sig := { ps := [.nil, I6], rs := [I6] }, ann := {} },
  { fid := 14, sig := { ps := z68, pb := z20, rs := z66, rb := z22 }, ann := { calls := [(14, 37), (21, 30), (26, 17)] } },
  { fid := 15, sig := { ps := z68, pb := z20, rs := [.bool], rb := z22 }, ann := { calls := [(10, 38)] } },
  { fid := 38, sig := { ps := [.rows 0, .fn 39 [.ptr 0 0]], pb := [.box [.str]], rs := [I6], rb := [.box [.str]] }, ann := { calls := [(16, 39)], loops := [(2, { tm := [(8, I6)], bs := [.box [.str]] }, [(.exit 0, { tm := [], bs := [.box [.str]] }), (.ret, { tm := [(4, I6)], bs := [.box [.str]] })])] } },
  { fid := 36, sig := { ps := [.arr 0, .fn 37 [.ptr 1 0]], pb := [.ints .i64 false, .box [I6]], rs := [.arr 0], rb := z50 }, ann := { calls := [(10, 40), (28, 41)], loops := [(5, { tm := [(5, I6), (6, I6)], bs := z50 }, [(.exit 0, { tm := [(5, I6)], bs := z50 })])] } },
  { fid := 44, sig := { ps := z52, rs := [.bool] }, ann := { calls := [(12, 42), (24, 43), (33, 44)], loops := [(4, { tm := [(18, I6)], bs := [.same] }, [(.exit 0, { tm := [], bs := [.same] }), (.ret, { tm := [(2, .bool)], bs := [.same] })])], joins := [(2, [(.normal, { tm := [(14, .bool)], bs := [.same] })])] } },
  { fid := 45, sig := { ps := z52, rs := z67 }, ann := { calls := [(5, 45)] } },
  { fid := 46, sig := { ps := [.ints .u8], rs := [.rows 3, I6, I6] }, ann := { calls := [(15, 46)] } },
  { fid := 47, sig := { ps := [.ints .u8], rs := [.arr 0, .ints .i64, .rows 2, I6], rb := [.rows 0 false] }, ann := { calls := [(19, 47), (29, 48), (33, 49), (44, 50), (72, 51), (90, 44)], loops := [(10, { tm := [(10, .arr 1), (11, .arr 2), (35, I6)], bs := z25 }, [(.exit 0, { tm := [(10, .arr 1), (11, .arr 2)], bs := z25 })]), (21, { tm := [(80, I6)], bs := z60 }, [(.exit 2, { tm := [], bs := z60 }), (.ret, { tm := [(2, .arr 3), (3, .ints .i64), (4, .rows 2), (5, I6)], bs := [.same, .same, .same, .rows 0 false] })])] } },
  { fid := 27, sig := { ps := z68, pb := z20, rs := [I6], rb := z22 }, ann := { loops := [(2, { tm := [(1, I6), (12, I6)], bs := z60 }, [(.exit 0, { tm := [], bs := z60 }), (.ret, { tm := [(4, I6)], bs := z60 })])] } },
  { fid := 29, sig := { ps := z66, rs := [.bool] }, ann := { calls := [(7, 52)] } },
  { fid := 39, sig := { ps := z38, pb := [.box [.str]], rs := [.bool], rb := [.box [.str]] }, ann := {} },
  { fid := 70, sig := { ps := [.ints .i64, .fn 37 [.ptr 0 0]], pb := [.box [I6]], rs := [I6], rb := [.box [I6]] }, ann := { calls := [(16, 41)], loops := [(2, { tm := [(8, I6)], bs := [.box [I6]] }, [(.exit 0, { tm := [], bs := [.box [I6]] }), (.ret, { tm := [(4, I6)], bs := [.box [I6]] })])] } },
  { fid := 37, sig := { ps := [I6, .ptr 0 0], pb := [.box [I6]], rs := [.bool], rb := [.box [I6]] }, ann := {} },
  { fid := 73, sig := { ps := [.rows 2], rs := [.bool] }, ann := { calls := [(6, 53)] } },
  { fid := 74, sig := { ps := [.agg z61], rs := [.bool] }, ann := { calls := [(5, 54)] } },
  { fid := 51, sig := { ps := [.rows 0, .str], rs := [I6] }, ann := { calls := [(7, 55)] } },
  { fid := 75, sig := { ps := [.str, .agg [.rows 0, .rows 2], .rows 0], rs := z67 }, ann := { calls := [(16, 56), (36, 57), (44, 58)], loops := [(6, { tm := [(29, I6)], bs := z24 }, [(.exit 0, { tm := [], bs := z24 })])] } },
  { fid := 76, sig := { ps := [.ptr 0 0, I6, I6, I6], pb := z49, rs := [.rows 3], rb := z49 }, ann := { calls := [(26, 59)], loops := [(2, { tm := [(1, I6), (9, .arr 1)], bs := z30 }, [(.exit 0, { tm := [(9, .arr 1)], bs := z30 })])], joins := [(4, [(.normal, { tm := [(20, .bool)], bs := z69 })])] } },
  { fid := 77, sig := { ps := [.ints .u8], rs := z67 }, ann := { calls := [(19, 60), (43, 61), (51, 62), (61, 63), (62, 64), (89, 65), (93, 66)], loops := [(15, { tm := [(11, .arr 4), (12, I6), (56, I6)], bs := z0 }, [(.exit 1, { tm := [(11, .arr 4)], bs := z0 }), (.ret, { tm := z53, bs := z5 })])], joins := [(12, [(.normal, { tm := [(30, .bool)], bs := [] })]), (22, [(.normal, { tm := [(9, .ptr 2 0)], bs := z5 })]), (38, [(.normal, { tm := [(79, .bool)], bs := z33 })]), (47, [(.normal, { tm := [], bs := [] }), (.ret, { tm := z53, bs := [] })]), (55, [(.normal, { tm := [], bs := [] }), (.ret, { tm := z53, bs := [] })])] } },
  { fid := 78, sig := { ps := [.ptr 0 0], pb := z51, rs := [I6], rb := z51 }, ann := { calls := [(20, 60), (28, 49)] } },
  { fid := 79, sig := { ps := [.ptr 0 0, .bool, I6], pb := z51, rs := [.bool], rb := z51 }, ann := { joins := [(2, [(.normal, { tm := [(15, .bool)], bs := [.same] })])] } },
  { fid := 80, sig := { ps := [.ptr 0 0], pb := z51, rs := [.agg z61, I6], rb := z51 }, ann := { calls := [(7, 67), (18, 49), (27, 68), (31, 48)], joins := [(4, [(.normal, { tm := [(19, .bool)], bs := [.box z62, .same] })])] } },
  { fid := 81, sig := { ps := [.ints .u8], rs := [.rows 2, I6] }, ann := { calls := [(10, 69)] } },
  { fid := 49, sig := { ps := z66, rs := [I6] }, ann := { loops := [(2, { tm := [(8, I6)], bs := [] }, [(.exit 0, { tm := [], bs := [] }), (.ret, { tm := [(4, I6)], bs := [] })])] } },
  { fid := 107, sig := { ps := [.ptr 0 0, .rows 2, I6], pb := [.box [I6]], rs := [.bool], rb := [.box [I6]] }, ann := { calls := [(53, 53)], loops := [(2, { tm := [(11, I6)], bs := [.box [I6]] }, [(.exit 0, { tm := [], bs := [.box [I6]] }), (.ret, { tm := [(6, .bool)], bs := [.box [I6]] })])] } },
  { fid := 108, sig := { ps := [.str], rs := [.bool] }, ann := { loops := [(2, { tm := [(7, I6)], bs := [] }, [(.exit 0, { tm := [], bs := [] }), (.ret, { tm := [(2, .bool)], bs := [] })])] } },
  { fid := 38, sig := { ps := [.rows 0, .fn 83 [.ptr 0 0]], pb := [.box [.str]], rs := [I6], rb := [.box [.str]] }, ann := { calls := [(16, 70)], loops := [(2, { tm := [(8, I6)], bs := [.box [.str]] }, [(.exit 0, { tm := [], bs := [.box [.str]] }), (.ret, { tm := [(4, I6)], bs := [.box [.str]] })])] } },
  { fid := 109, sig := { ps := z52, rs := z67 }, ann := { calls := [(10, 33), (15, 71), (36, 71), (42, 71), (48, 72), (54, 73)], loops := [(5, { tm := [(4, .arr 1), (19, I6)], bs := [.same, .ints .u8 false] }, [(.exit 0, { tm := [(4, .arr 1)], bs := [.same, .ints .u8 false] })])] } },
  { fid := 110, sig := { ps := [.agg z61], rs := z37 }, ann := { calls := [(9, 71)] } },
  { fid := 111, sig := { ps := [.rows 3], rs := z67 }, ann := { calls := [(11, 74), (21, 75), (34, 76)], loops := [(5, { tm := [(4, I6), (15, I6)], bs := [] }, [(.exit 0, { tm := [(4, I6)], bs := [] })]), (13, { tm := [(7, .arr 0), (28, I6)], bs := z64 }, [(.exit 2, { tm := [(7, .arr 0)], bs := z64 })])] } },
  { fid := 112, sig := { ps := [.ptr 0 0, I6, I6, I6], pb := z49, rs := [.agg z47, I6], rb := z49 }, ann := { calls := [(17, 77), (37, 78), (47, 78), (82, 78), (95, 79), (103, 46), (112, 80), (123, 78), (135, 78)], loops := [(7, { tm := [(10, I6), (62, I6)], bs := z69 }, [(.exit 0, { tm := [(10, I6)], bs := z69 })])], joins := [(6, [(.normal, { tm := [(49, .bool)], bs := z40 })]), (38, [(.normal, { tm := [(124, .bool)], bs := z40 })]), (183, [(.normal, { tm := [], bs := [.box z57, .box z47] })])] } },
  { fid := 55, sig := { ps := z67, rs := [I6, I6, I6] }, ann := { loops := [(4, { tm := [(4, I6), (17, I6)], bs := [] }, [(.exit 0, { tm := [], bs := [] }), (.ret, { tm := [(4, I6), (5, I6), (6, I6)], bs := [] })])], joins := [(2, [(.normal, { tm := [(16, .bool)], bs := [] })]), (22, [(.normal, { tm := [(52, .bool)], bs := [] })])] } },
  { fid := 113, sig := { ps := [I6, I6], rs := [.agg [I6, .arr 0], I6], rb := z63 }, ann := { joins := [(2, [(.normal, { tm := [(19, .bool)], bs := [.same] })])] } },
  { fid := 114, sig := { ps := [.agg [I6, .ints .i64], .ints .u8], rs := z56, rb := z8, more := [([.nil, .lit .i64 10], [])] }, ann := { calls := [(8, 81), (11, 82), (20, 83)], loops := [(5, { tm := [(17, I6)], bs := z2 }, [(.exit 0, { tm := [], bs := z2 })])] } },
  { fid := 116, sig := { ps := [I6], rs := [I6] }, ann := {} },
  { fid := 115, sig := { ps := z68, pb := z8, rs := [.agg [.bool, I6], I6], rb := z8 }, ann := { calls := [(11, 84), (19, 85), (21, 86), (28, 87)] } },
  { fid := 117, sig := { ps := [.ints .i64], rs := z66 }, ann := { calls := [(10, 88), (14, 89), (24, 90)], loops := [(7, { tm := [(5, .arr 1), (17, I6)], bs := z45 }, [(.exit 0, { tm := [(5, .arr 1)], bs := z45 })])] } },
  { fid := 118, sig := { ps := [.ints .i64], rs := z67 }, ann := { calls := [(75, 91), (97, 92), (99, 93)], loops := [(3, { tm := [(17, I6)], bs := z31 }, [(.exit 0, { tm := [], bs := z31 })]), (10, { tm := [(31, I6)], bs := z31 }, [(.exit 2, { tm := [], bs := z31 })]), (16, { tm := [(49, I6)], bs := z23 }, [(.exit 4, { tm := [], bs := z23 })]), (25, { tm := [(3, I6)], bs := z18 }, [(.normal, { tm := [], bs := z18 }), (.ret, { tm := [], bs := z18 })])] } },
  { fid := 119, sig := { ps := z68, pb := z51, rs := [.ints .u8], rb := z51 }, ann := { calls := [(18, 49)] } },
  { fid := 120, sig := { ps := [.ptr 0 0], pb := z51, rs := [.str], rb := z51 }, ann := { calls := [(6, 48), (10, 49), (13, 67), (17, 54), (18, 49)] } },
  { fid := 121, sig := { ps := z68, pb := z49, rs := [.rows 2], rb := z49 }, ann := { calls := [(9, 94), (41, 95), (44, 94), (49, 69)], loops := [(3, { tm := [(5, .arr 1), (6, I6)], bs := z32 }, [(.exit 0, { tm := [(5, .arr 1)], bs := z32 }), (.ret, { tm := [(4, .rows 2)], bs := z49 })])], joins := [(6, [(.normal, { tm := [(18, .bool)], bs := z69 })]), (12, [(.normal, { tm := [(36, .bool)], bs := z69 })])] } },
  { fid := 83, sig := { ps := z38, pb := [.box [.str]], rs := [.bool], rb := [.box [.str]] }, ann := {} },
  { fid := 148, sig := { ps := [I6, .ints .u8], rs := [.arr 0], rb := z64 }, ann := { calls := [(9, 96)] } },
  { fid := 149, sig := { ps := [.rows 2], rs := z67 }, ann := { calls := [(5, 42), (8, 97)] } },
  { fid := 150, sig := { ps := [.ints .u8], rs := z67 }, ann := { calls := [(19, 98), (28, 96), (36, 61), (41, 99), (46, 100), (57, 63), (60, 101), (65, 102)], loops := [(12, { tm := [(14, I6), (51, I6)], bs := z6 }, [(.exit 0, { tm := [], bs := z6 })])], joins := [(16, [(.normal, { tm := [(10, .ptr 3 0)], bs := z6 })])] } },
  { fid := 151, sig := { ps := [.rows 3], rs := [.bool] }, ann := { calls := [(6, 103)] } },
  { fid := 152, sig := { ps := z37, rs := [I6] }, ann := { calls := [(4, 104)] } },
  { fid := 153, sig := { ps := [.arr 0, .agg z47], pb := z64, rs := [.arr 0], rb := z64 }, ann := { calls := [(9, 104), (44, 76)], loops := [(7, { tm := [(0, .arr 0), (38, I6)], bs := z48 }, [(.exit 0, { tm := [(0, .arr 0)], bs := z48 })])], joins := [(61, [(.normal, { tm := [(0, .arr 0)], bs := z48 })])] } },
  { fid := 154, sig := { ps := [.ptr 0 0, I6, I6, .fn 155 []], pb := z49, rs := [.str], rb := z49 }, ann := { calls := [(16, 78), (30, 105), (32, 78)] } },
  { fid := 156, sig := { ps := [.ptr 0 0, .bool, I6, I6], pb := z49, rs := [.bool], rb := z49 }, ann := { joins := [(2, [(.normal, { tm := [(17, .bool)], bs := [.same] })])] } },
  { fid := 154, sig := { ps := [.ptr 0 0, I6, I6, .fn 157 []], pb := z49, rs := [.str], rb := z49 }, ann := { calls := [(16, 78), (30, 106), (32, 78)] } },
  { fid := 158, sig := { ps := [.ints .u8], rs := [.ints .u8] }, ann := {} },
  { fid := 159, sig := { ps := z58, rs := [.bool] }, ann := { loops := [(7, { tm := [(26, I6)], bs := [.same] }, [(.exit 0, { tm := [], bs := [.same] }), (.ret, { tm := [(2, .bool)], bs := [.same] })])], joins := [(2, [(.normal, { tm := [(19, .bool)], bs := [.same] })]), (45, [(.normal, { tm := [(3, I6)], bs := [.same] })])] } },
  { fid := 160, sig := { ps := z58, rs := [.agg [I6, .arr 0, .lit .i64 2048, .lit .i64 1792, .lit .i64 1568, .lit .i64 1372, .lit .i64 1201, .lit .i64 1051, .lit .i64 920, .lit .i64 805, .lit .i64 705, .lit .i64 617, .lit .i64 540, .lit .i64 473, .lit .i64 414, .lit .i64 363, .lit .i64 318, .lit .i64 279, .lit .i64 245, .lit .i64 215, .lit .i64 189, .lit .i64 166, .lit .i64 146, .lit .i64 128, .lit .i64 112, .lit .i64 98, .lit .i64 86, .lit .i64 76, .lit .i64 67, .lit .i64 59, .lit .i64 52, .lit .i64 46, .lit .i64 41, .lit .i64 36, .int .u64, .int .u64]], rb := z63 }, ann := { calls := [(4, 107), (5, 108)] } },
  { fid := 161, sig := { ps := [.ptr 0 0], pb := [.box z13, .ints .i64 false, .ints .u8 false], rb := z3 }, ann := { joins := [(25, [(.normal, { tm := [(2, .int .u8)], bs := z3 })])] } },
  { fid := 162, sig := { ps := z68, pb := z8, rs := [I6, I6], rb := z8 }, ann := { calls := [(12, 109), (36, 110), (61, 111), (65, 112), (69, 113), (71, 114)], loops := [(12, { tm := [], bs := z7 }, [(.exit 1, { tm := [], bs := z7 })])], joins := [(6, [(.normal, { tm := [(13, .bool)], bs := z69 })]), (21, [(.normal, { tm := [], bs := z69 }), (.ret, { tm := [(4, I6), (5, I6)], bs := z69 })]), (85, [(.normal, { tm := [(6, I6)], bs := z69 })])] } },
  { fid := 164, sig := { ps := [.ptr 0 0], pb := z8, rs := z58, rb := z8 }, ann := { calls := [(4, 109), (11, 107)] } },
  { fid := 163, sig := { ps := [.agg [I6, .ints .i64], I6, I6], rs := [I6] }, ann := {} },
  { fid := 165, sig := { ps := z68, pb := z8, rs := [.agg [.bool, I6], I6], rb := z8 }, ann := { calls := [(16, 84), (37, 84), (57, 115), (63, 84), (85, 84)], loops := [(5, { tm := [(8, I6)], bs := z4 }, [(.exit 0, { tm := [(8, I6)], bs := z4 }), (.ret, { tm := [(5, I6)], bs := z4 })]), (14, { tm := [(9, I6), (50, I6)], bs := z1 }, [(.exit 2, { tm := [(9, I6)], bs := z1 }), (.ret, { tm := [(5, I6)], bs := z1 })])], joins := [(4, [(.normal, { tm := [(24, .bool)], bs := z60 })]), (113, [(.normal, { tm := [(12, I6)], bs := [.same, .same, .same, .box [I6]] })])] } },
  { fid := 166, sig := { ps := [.ints .i64], rs := [I6] }, ann := { calls := [(9, 116)] } },
  { fid := 167, sig := { rs := [.arr 0], rb := z63 }, ann := { loops := [(3, { tm := [(6, I6)], bs := z65 }, [(.exit 0, { tm := [], bs := z65 })])] } },
  { fid := 168, sig := { ps := [.arr 0, I6], pb := z63, rs := [I6], rb := z65 }, ann := {} },
  { fid := 169, sig := { ps := [.arr 0], pb := z64, rs := [.fn 231 [.ptr 1 0]], rb := [.ints .u8 true, .box [.arr 0]] }, ann := {} },
  { fid := 170, sig := { ps := [.ints .u8], rs := [.ints .i64] }, ann := { calls := [(7, 117)], loops := [(3, { tm := [(10, I6)], bs := z65 }, [(.exit 0, { tm := [], bs := z65 })])] } },
  { fid := 23, sig := { ps := [.ints .i64, .ints .i64], rs := [.bool] }, ann := { loops := [(4, { tm := [(13, I6)], bs := [] }, [(.exit 0, { tm := [], bs := [] }), (.ret, { tm := [(4, .bool)], bs := [] })])] } },
  { fid := 171, sig := { ps := [.ptr 0 0, I6, I6], pb := z49, rs := [I6], rb := z49 }, ann := { calls := [(24, 60)], joins := [(8, [(.normal, { tm := [(39, .bool)], bs := [.same] })]), (79, [(.normal, { tm := [(9, I6)], bs := [.same] })])] } },
  { fid := 172, sig := { ps := [.ptr 0 0], pb := z49, rs := [.str], rb := z49 }, ann := { calls := [(5, 94)], joins := [(4, [(.normal, { tm := [(24, .bool)], bs := [.same] })]), (49, [(.normal, { tm := [], bs := z49 })])] } },
  { fid := 213, sig := { ps := [I6], rs := [.arr 0, I6], rb := z64 }, ann := { loops := [(5, { tm := [(0, I6), (4, .arr 1)], bs := [.gone, .ints .u8 false] }, [(.exit 0, { tm := [(4, .arr 1)], bs := [.gone, .ints .u8 false] })])], joins := [(2, [(.normal, { tm := [(10, .bool)], bs := [] })])] } },
  { fid := 214, sig := { ps := [.rows 2], rs := [.ints .u8] }, ann := { calls := [(8, 118), (19, 118), (25, 118), (28, 97), (30, 119)], loops := [(3, { tm := [(3, .ints .u8), (11, I6)], bs := [] }, [(.exit 0, { tm := [(3, .ints .u8)], bs := [] })])] } },
  { fid := 215, sig := { ps := [.ints .u8], rs := z66 }, ann := { calls := [(8, 92)] } },
  { fid := 216, sig := { ps := z58, rs := z56, rb := z10, more := [([.nil, .lit .i64 10], [])] }, ann := { calls := [(5, 81), (8, 82)] } },
  { fid := 217, sig := { ps := [.ints .i64], rs := z66 }, ann := { calls := [(11, 88), (15, 89), (24, 52), (27, 90)], loops := [(7, { tm := [(5, .arr 1), (18, I6)], bs := z45 }, [(.exit 0, { tm := [(5, .arr 1)], bs := z45 })])] } },
  { fid := 218, sig := { ps := [.ptr 0 0, I6, .agg [.bool, I6]], pb := z10, rs := [I6], rb := z10 }, ann := { calls := [(9, 120), (12, 121), (15, 122), (17, 86), (24, 123), (25, 124)] } },
  { fid := 219, sig := { ps := [.ptr 0 0], pb := z10, rs := [.ints .u8], rb := z12 }, ann := { calls := [(8, 125)], loops := [(5, { tm := [(3, .arr 3), (15, I6)], bs := z41 }, [(.exit 0, { tm := [(3, .arr 3)], bs := z41 }), (.ret, { tm := [(2, .arr 3)], bs := z39 })]), (10, { tm := [(3, .arr 3), (38, I6)], bs := z39 }, [(.exit 2, { tm := [(3, .arr 3)], bs := z39 })])] } },
  { fid := 220, sig := { ps := [.ptr 0 0, .rows 3, I6], pb := [.box [I6]], rs := [.bool], rb := [.box [I6]] }, ann := { calls := [(34, 105), (42, 106), (56, 103)], loops := [(2, { tm := [(11, I6)], bs := [.box [I6]] }, [(.exit 0, { tm := [], bs := [.box [I6]] }), (.ret, { tm := [(6, .bool)], bs := [.box [I6]] })])], joins := [(10, [(.normal, { tm := [(36, .bool)], bs := z69 })])] } },
  { fid := 221, sig := { ps := z37, rs := [I6] }, ann := { calls := [(21, 75)], loops := [(5, { tm := [(3, I6), (15, I6)], bs := [.same] }, [(.exit 0, { tm := [(3, I6)], bs := [.same] })])] } },
  { fid := 155, sig := { ps := [.str], rs := [.bool] }, ann := { loops := [(4, { tm := [(8, I6)], bs := [] }, [(.exit 0, { tm := [], bs := [] }), (.ret, { tm := [(2, .bool)], bs := [] })])] } },
  { fid := 157, sig := { ps := [.str], rs := [.bool] }, ann := { calls := [(4, 105)] } },
  { fid := 222, sig := { ps := z58, rs := [.agg [I6, .arr 0]], rb := z63 }, ann := {} },
  { fid := 223, sig := { rs := [.agg z17] }, ann := { unroll := [(4, 1000)] } },
  { fid := 224, sig := { ps := [.ptr 0 0], pb := z8, rs := [.bool], rb := z9 }, ann := {} },
  { fid := 225, sig := { ps := z68, pb := z8, rs := [.int .u64], rb := z9 }, ann := { calls := [(33, 126)] } },
  { fid := 226, sig := { ps := [.ptr 0 0, I6, I6, .int .u64], pb := z8, rb := z9 }, ann := { calls := [(39, 127)], joins := [(19, [(.normal, { tm := [], bs := z9 })])] } },
  { fid := 227, sig := { ps := [.ptr 0 0], pb := z8, rs := [.bool], rb := z9 }, ann := {} },
  { fid := 228, sig := { ps := [.ptr 0 0], pb := z8, rs := [.int .u8], rb := z9 }, ann := {} },
  { fid := 161, sig := { ps := [.ptr 0 0], pb := z8, rb := z9 }, ann := { joins := [(25, [(.normal, { tm := [(2, .int .u8)], bs := z9 })])] } },
  { fid := 229, sig := { ps := [.ptr 0 0], pb := [.box [I6]], rs := [I6], rb := [.box [I6]] }, ann := {} },
  { fid := 146, sig := { ps := [.ints .i64, .fn 230 []], rs := [.bool] }, ann := { calls := [(7, 128)] } },
  { fid := 232, sig := { ps := [.ints .u8], rs := [.arr 0], rb := z63 }, ann := { calls := [(21, 129)], loops := [(3, { tm := [(11, I6)], bs := [.same, .ints .i64 true] }, [(.exit 0, { tm := [], bs := [.same, .ints .i64 true] })])] } },
  { fid := 300, sig := { ps := [I6], rs := [.ints .u8] }, ann := { calls := [(7, 96)] } },
  { fid := 301, sig := { ps := [.rows 4], rs := [.ints .u8] }, ann := { calls := [(24, 130)], loops := [(3, { tm := [(3, I6), (11, I6)], bs := [] }, [(.exit 0, { tm := [(3, I6)], bs := [] })]), (11, { tm := [(6, .ints .u8), (27, I6)], bs := [] }, [(.exit 2, { tm := [(6, .ints .u8)], bs := [] })])] } },
  { fid := 302, sig := { ps := [.ptr 0 0, I6, I6], pb := z10, rs := [I6], rb := z11 }, ann := { calls := [(9, 125), (41, 131), (42, 132), (46, 133), (55, 134)], loops := [(6, { tm := [], bs := z11 }, [(.exit 1, { tm := [], bs := z11 })])], joins := [(6, [(.normal, { tm := [(10, .bool)], bs := z60 })]), (15, [(.normal, { tm := [], bs := z60 }), (.ret, { tm := [(6, I6)], bs := z60 })])], orders := [(7, [4, 8], [[0, 1, 2, 3, 4, 5, 6, 7, 8, 9, 10, 11, 12, 13], [0, 1, 2, 3, 5, 6, 7, 8, 4, 9, 10, 11, 12, 13]])] } },
  { fid := 303, sig := { ps := [.agg [.bool, I6]], rs := [.bool] }, ann := {} },
  { fid := 304, sig := { ps := [.ptr 0 0], pb := z10, rs := z58, rb := [.box z16, .ints .i64 false, .ints .u8 true] }, ann := { calls := [(4, 125), (11, 107)] } },
  { fid := 306, sig := { ps := [I6, .agg [.bool, I6]], rs := [.rows 5] }, ann := { calls := [(30, 135), (68, 115)], loops := [(7, { tm := [(5, .arr 1), (33, I6)], bs := z59 }, [(.exit 0, { tm := [(5, .arr 1)], bs := z59 })]), (15, { tm := [(5, .arr 1), (10, I6)], bs := [.same, .rows 5 false, .box [I6]] }, [(.exit 2, { tm := [(5, .arr 1)], bs := [.same, .rows 5 false, .box [I6]] })])], joins := [(93, [(.normal, { tm := [(5, .arr 1)], bs := z59 })]), (135, [(.normal, { tm := [(11, I6)], bs := [.same, .same, .box [I6]] })]), (177, [(.normal, { tm := [], bs := [.same, .same, .same, .box [I6, I6]] })])] } },
  { fid := 305, sig := { ps := [.ptr 0 0, .rows 5], pb := z10, rs := [I6], rb := z11 }, ann := { calls := [(19, 120)], loops := [(2, { tm := [(10, I6)], bs := z11 }, [(.exit 0, { tm := [], bs := z11 }), (.ret, { tm := [(4, I6)], bs := z11 })])] } },
  { fid := 307, sig := { ps := [.ptr 0 0], pb := z10, rs := [.bool], rb := z12 }, ann := {} },
  { fid := 308, sig := { ps := [.agg z17, I6, I6], rs := [I6] }, ann := {} },
  { fid := 309, sig := { ps := [I6, I6, I6], rs := [I6] }, ann := { joins := [(41, [(.normal, { tm := [], bs := [.box [I6, I6]] })])] } },
  { fid := 70, sig := { ps := [.ints .i64, .fn 230 []], rs := [I6] }, ann := { calls := [(16, 136)], loops := [(2, { tm := [(8, I6)], bs := [] }, [(.exit 0, { tm := [], bs := [] }), (.ret, { tm := [(4, I6)], bs := [] })])] } },
  { fid := 310, sig := { ps := [.arr 0, .fn 311 [.ptr 1 0]], pb := z43, rb := z46 }, ann := { calls := [(11, 135), (13, 137)] } },
  { fid := 371, sig := { ps := z67, rs := [.ints .u8] }, ann := {} },
  { fid := 225, sig := { ps := z68, pb := z10, rs := [.int .u64], rb := z12 }, ann := { calls := [(33, 126)] } },
  { fid := 226, sig := { ps := [.ptr 0 0, I6, I6, .int .u64], pb := z10, rb := z12 }, ann := { calls := [(39, 127)], joins := [(19, [(.normal, { tm := [], bs := z12 })])] } },
  { fid := 227, sig := { ps := [.ptr 0 0], pb := z10, rs := [.bool], rb := z12 }, ann := {} },
  { fid := 228, sig := { ps := [.ptr 0 0], pb := z10, rs := [.int .u8], rb := z12 }, ann := {} },
  { fid := 334, sig := { ps := [.int .u64], rs := [I6] }, ann := { calls := [(7, 138)] } },
  { fid := 230, sig := { ps := [I6], rs := [.bool] }, ann := {} },
  { fid := 372, sig := { ps := z35, pb := z43, rb := z46 }, ann := { calls := [(30, 139), (37, 140), (44, 141), (52, 142), (61, 143), (80, 144), (94, 145), (103, 146), (111, 147), (134, 137), (146, 137)], loops := [(2, { tm := [(1, I6), (2, I6), (3, I6), (10, .bool), (11, .bool)], bs := z46 }, [(.ret, { tm := [], bs := z46 })])], joins := [(30, [(.normal, { tm := [(75, .bool)], bs := z69 })]), (34, [(.normal, { tm := [(97, .bool)], bs := z54 })]), (79, [(.normal, { tm := [(3, I6)], bs := z46 })]), (113, [(.normal, { tm := [(13, I6), (14, I6)], bs := z46 })]), (151, [(.normal, { tm := [], bs := z46 }), (.ret, { tm := [], bs := z46 })])] } },
  { fid := 381, sig := { ps := [.int .u64], rs := [I6] }, ann := { joins := [(9, [(.normal, { tm := z55, bs := [] })]), (17, [(.normal, { tm := z55, bs := [] })]), (29, [(.normal, { tm := z55, bs := [] })])] } },
  { fid := 420, sig := { ps := z44, pb := z43, rb := z46 }, ann := { calls := [(32, 145)], loops := [(1, { tm := [(8, I6)], bs := z46 }, [(.exit 0, { tm := [], bs := z46 })]), (4, { tm := [(9, I6)], bs := z46 }, [(.exit 2, { tm := [], bs := z46 })])], joins := [(8, [(.normal, { tm := [(34, .bool)], bs := z54 })])] } },
  { fid := 421, sig := { ps := z44, pb := z43, rb := z46 }, ann := { calls := [(29, 148), (59, 148)], loops := [(4, { tm := [(11, I6)], bs := z46 }, [(.exit 0, { tm := [], bs := z46 })]), (8, { tm := [(12, I6)], bs := z46 }, [(.exit 2, { tm := [], bs := z46 })])] } },
  { fid := 422, sig := { ps := z44, pb := z43, rb := z46 }, ann := { calls := [(21, 149), (38, 150)], loops := [(5, { tm := [(11, I6)], bs := z34 }, [(.exit 0, { tm := [], bs := z34 })])], joins := [(91, [(.normal, { tm := [(12, I6)], bs := z60 })])] } },
  { fid := 423, sig := { ps := z44, pb := z43, rs := [I6, I6], rb := z46 }, ann := { calls := [(40, 151), (44, 151), (48, 151), (54, 152)], joins := [(69, [(.normal, { tm := [(13, I6)], bs := z28 })]), (73, [(.normal, { tm := [(12, I6), (13, I6), (14, I6)], bs := z28 })])] } },
  { fid := 424, sig := { ps := z44, pb := z43, rb := z46 }, ann := { loops := [(2, { tm := [(8, I6), (9, I6)], bs := [.ints .i64 true, .same] }, [(.exit 0, { tm := [], bs := [.ints .i64 true, .same] })])] } },
  { fid := 425, sig := { ps := z44, pb := z43, rs := [.bool], rb := z46 }, ann := { calls := [(33, 145), (82, 145), (122, 145)], loops := [(3, { tm := [(9, I6), (10, I6)], bs := z46 }, [(.exit 0, { tm := [], bs := z46 }), (.ret, { tm := [(8, .bool)], bs := z46 })]), (5, { tm := [(9, I6)], bs := z54 }, [(.exit 2, { tm := [(9, I6)], bs := z54 })]), (14, { tm := [(11, I6)], bs := z46 }, [(.exit 4, { tm := [], bs := z46 })]), (20, { tm := [(12, I6)], bs := z46 }, [(.exit 6, { tm := [], bs := z46 })])], joins := [(131, [(.normal, { tm := [], bs := z46 })])] } },
  { fid := 311, sig := { ps := [I6, I6, .ptr 0 0], pb := [.box [.ints .u8]], rs := [I6], rb := [.box [.ints .u8]] }, ann := { calls := [(12, 153)] } },
  { fid := 426, sig := { ps := z35, pb := z43, rs := [I6], rb := z46 }, ann := { calls := [(44, 145), (63, 145)], loops := [(3, { tm := [(11, I6)], bs := z54 }, [(.exit 2, { tm := [(11, I6)], bs := z54 })]), (5, { tm := [(12, I6)], bs := z54 }, [(.exit 4, { tm := [(12, I6)], bs := z54 })]), (1000003, { tm := [(11, I6), (12, I6)], bs := z46 }, [(.exit 0, { tm := [(11, I6)], bs := z46 })])] } },
  { fid := 427, sig := { ps := z35, pb := z43, rs := [I6, .bool], rb := z46 }, ann := { calls := [(45, 145), (63, 145), (118, 145), (136, 145)], loops := [(3, { tm := [(12, I6)], bs := z54 }, [(.exit 0, { tm := [(12, I6)], bs := z54 })]), (5, { tm := [(13, I6)], bs := z54 }, [(.exit 2, { tm := [(13, I6)], bs := z54 })]), (13, { tm := [(12, I6)], bs := z54 }, [(.exit 6, { tm := [(12, I6)], bs := z54 })]), (15, { tm := [(13, I6)], bs := z54 }, [(.exit 8, { tm := [(13, I6)], bs := z54 })]), (1000013, { tm := [(12, I6), (13, I6)], bs := z46 }, [(.exit 4, { tm := [(13, I6)], bs := z46 })])] } },
  { fid := 447, sig := { ps := z35, pb := z43, rb := z46 }, ann := { calls := [(38, 145), (56, 145)], loops := [(1, { tm := [(10, I6)], bs := z46 }, [(.exit 0, { tm := [], bs := z46 }), (.ret, { tm := [], bs := z46 })])], joins := [(6, [(.normal, { tm := [(40, .bool)], bs := z54 })]), (81, [(.normal, { tm := [(11, I6)], bs := z69 })])] } },
  { fid := 448, sig := { ps := [I6], rs := [.int .u64] }, ann := { calls := [(5, 135)] } },
  { fid := 449, sig := { ps := [.ptr 0 0], pb := [.box [.int .u64]], rs := [.int .u64], rb := [.box [.int .u64]] }, ann := {} },
  { fid := 450, sig := { ps := [.arr 0, I6, .ptr 1 0, .fn 311 [.ptr 2 0]], pb := z27, rs := [I6], rb := z29 }, ann := { calls := [(17, 152)] } },
  { fid := 451, sig := { ps := [.arr 0, I6, I6, I6, .ptr 1 0, .fn 311 [.ptr 2 0]], pb := z27, rs := [I6], rb := z29 }, ann := { calls := [(19, 154), (28, 154), (37, 154)] } },
  { fid := 312, sig := { ps := [.ints .u8, .ints .u8], rs := [I6] }, ann := {} },
  { fid := 458, sig := { ps := [.arr 0, I6, I6, .ptr 1 0, .fn 311 [.ptr 2 0]], pb := z27, rs := [I6, I6], rb := z29 }, ann := { calls := [(21, 145)] } }]
noncomputable def G : Prg := { P := Tryz.prog, E := E, el := fun t => lookN t els, F := fun i => (getL insts i).getD { fid := 0, sig := {}, ann := {} }, cmp := fun f => Nat.beq f 373 }
theorem inn0_ok : ∀ {l : List (PV TT)} {x : File}, inn0 l = some x → Sames (E := E) l (outs0 x)
  | [], _, h => by cases h
  | [_], _, h => by cases h
  | [_, _], _, h => by cases h
  | [_, _, _], _, h => by
    simp only [inn0] at h
    obtain ⟨y0, h0, h⟩ := Option.bind_eq_some_iff.1 h; obtain ⟨y1, h1, h⟩ := Option.bind_eq_some_iff.1 h; obtain ⟨y2, h2, h⟩ := Option.bind_eq_some_iff.1 h; cases h; exact .cons (V.asStr_same h0) (.cons (V.asInt_same h1) (.cons (V.asInts_same h2) (.nil)))
  | _ :: _ :: _ :: _ :: _, _, h => by cases h
theorem inn1_ok : ∀ {l : List (PV TT)} {x : List Int}, inn1 l = some x → Sames (E := E) l (outs1 x)
  | [], _, h => by cases h
  | [_], _, h => by
    simp only [inn1] at h
    obtain ⟨y0, h0, h⟩ := Option.bind_eq_some_iff.1 h; cases h; exact .cons (V.asStr_same h0) (.nil)
  | _ :: _ :: _, _, h => by cases h
theorem inn2_ok : ∀ {l : List (PV TT)} {x : Outline}, inn2 l = some x → Sames (E := E) l (outs2 x)
  | [], _, h => by cases h
  | [_], _, h => by cases h
  | [_, _], _, h => by cases h
  | [_, _, _], _, h => by
    simp only [inn2] at h
    obtain ⟨y0, h0, h⟩ := Option.bind_eq_some_iff.1 h; obtain ⟨y1, h1, h⟩ := Option.bind_eq_some_iff.1 h; obtain ⟨y2, h2, h⟩ := Option.bind_eq_some_iff.1 h; cases h; exact .cons (V.asStr_same h0) (.cons (V.asInt_same h1) (.cons (V.asRows_same h2) (.nil)))
  | _ :: _ :: _ :: _ :: _, _, h => by cases h
theorem inn3_ok : ∀ {l : List (PV TT)} {x : Chunk}, inn3 l = some x → Sames (E := E) l (outs3 x)
  | [], _, h => by cases h
  | [_], _, h => by cases h
  | [_, _], _, h => by cases h
  | [_, _, _], _, h => by cases h
  | [_, _, _, _], _, h => by
    simp only [inn3] at h
    obtain ⟨y0, h0, h⟩ := Option.bind_eq_some_iff.1 h; obtain ⟨y1, h1, h⟩ := Option.bind_eq_some_iff.1 h; obtain ⟨y2, h2, h⟩ := Option.bind_eq_some_iff.1 h; obtain ⟨y3, h3, h⟩ := Option.bind_eq_some_iff.1 h; cases h; exact .cons (V.asStr_same h0) (.cons (V.asStr_same h1) (.cons (V.asInts_same h2) (.cons (V.asRows_same h3) (.nil))))
  | _ :: _ :: _ :: _ :: _ :: _, _, h => by cases h
theorem inn4_ok : ∀ {l : List (PV TT)} {x : List Int}, inn4 l = some x → Sames (E := E) l (outs4 x)
  | [], _, h => by cases h
  | [_], _, h => by
    simp only [inn4] at h
    obtain ⟨y0, h0, h⟩ := Option.bind_eq_some_iff.1 h; cases h; exact .cons (V.asInts_same h0) (.nil)
  | _ :: _ :: _, _, h => by cases h
theorem inn5_ok : ∀ {l : List (PV TT)} {x : Event}, inn5 l = some x → Sames (E := E) l (outs5 x)
  | [], _, h => by cases h
  | [_], _, h => by cases h
  | [_, _], _, h => by
    simp only [inn5] at h
    obtain ⟨y0, h0, h⟩ := Option.bind_eq_some_iff.1 h; obtain ⟨y1, h1, h⟩ := Option.bind_eq_some_iff.1 h; cases h; exact .cons (V.asInt_same h0) (.cons (V.asInt_same h1) (.nil))
  | _ :: _ :: _ :: _, _, h => by cases h
theorem envOk : EnvOk E := by
  refine EnvOk.of ?_ ?_ ?_
  · intro i l x h
    match i, x, h with
    | 0, x, h => exact inn0_ok h
    | 1, x, h => exact inn1_ok h
    | 2, x, h => exact inn2_ok h
    | 3, x, h => exact inn3_ok h
    | 4, x, h => exact inn4_ok h
    | 5, x, h => exact inn5_ok h
    | i + 6, x, h => cases h
  · intro i x
    match i, x with
    | 0, x => rfl
    | 1, x => rfl
    | 2, x => rfl
    | 3, x => rfl
    | 4, x => rfl
    | 5, x => rfl
    | i + 6, x => rfl
  · intro i x p hf hp
    match i, x with
    | 0, x => exact absurd hf (by decide)
    | 1, x => exact flat_cons (.inr (.inr ⟨_, rfl⟩)) (flat_nil) p hp
    | 2, x => exact absurd hf (by decide)
    | 3, x => exact absurd hf (by decide)
    | 4, x => exact absurd hf (by decide)
    | 5, x => exact flat_cons (.inl ⟨_, _, rfl⟩) (flat_cons (.inl ⟨_, _, rfl⟩) (flat_nil)) p hp
    | i + 6, x => exact absurd hf (by simp [E, getL])

theorem elsOk : els.all (okEl G) = true := by kernel_rfl
theorem prgOk : PrgOk G := .of envOk els (fun _ => rfl) elsOk (by kernel_rfl) (fun f h => by have h := nat_beq (show Nat.beq f 373 = true from h); subst h; exact ⟨_, rfl, by kernel_rfl, by kernel_rfl, by kernel_rfl, by kernel_rfl⟩)
noncomputable def bulk0 (x : File) : Nat := (x.name.length + 1) + (1 + ((x.data.length + 1) + 0))
noncomputable def bulk1 (x : List Int) : Nat := (x.length + 1) + 0
mutual
noncomputable def bulk2 : Outline → Nat
  | .mk title page kids => (title.length + 1) + (1 + ((bulkL2 kids + 1) + 0))
noncomputable def bulkL2 : List Outline → Nat
  | [] => 0
  | x :: l => bulk2 x + bulkL2 l
end
mutual
noncomputable def bulk3 : Chunk → Nat
  | .mk id kind data kids => (id.length + 1) + ((kind.length + 1) + ((data.length + 1) + ((bulkL3 kids + 1) + 0)))
noncomputable def bulkL3 : List Chunk → Nat
  | [] => 0
  | x :: l => bulk3 x + bulkL3 l
end
noncomputable def bulk4 (x : List Int) : Nat := (x.length + 1) + 0
noncomputable def bulk5 (x : Event) : Nat := 1 + (1 + 0)
noncomputable def bulk : (i : Nat) → TT i → Nat
  | 0, x => bulk0 x
  | 1, x => bulk1 x
  | 2, x => bulk2 x
  | 3, x => bulk3 x
  | 4, x => bulk4 x
  | 5, x => bulk5 x
  | _, _ => 0
theorem bulk0_eq (x : File) : bulk0 x = bulkPs bulk (outs0 x) := by simp only [bulk0, outs0, bulkPs, bulkP] <;> rfl
theorem bulk1_eq (x : List Int) : bulk1 x = bulkPs bulk (outs1 x) := by simp only [bulk1, outs1, bulkPs, bulkP] <;> rfl
theorem bulkL2_eq : ∀ l : List Outline, bulkL2 l = sumL bulk2 l
  | [] => by simp only [bulkL2, sumL]
  | x :: l => by simp only [bulkL2, sumL, bulkL2_eq l]
theorem bulk2_eq : ∀ x : Outline, bulk2 x = bulkPs bulk (outs2 x)
  | .mk title page kids => by have e2 := sumB_eq (b := bulk) (i := 2) (f := bulk2) (fun _ => rfl) kids; simp only [bulk2, outs2, bulkPs, bulkP, bulkL2_eq, e2] <;> rfl
theorem bulkL3_eq : ∀ l : List Chunk, bulkL3 l = sumL bulk3 l
  | [] => by simp only [bulkL3, sumL]
  | x :: l => by simp only [bulkL3, sumL, bulkL3_eq l]
theorem bulk3_eq : ∀ x : Chunk, bulk3 x = bulkPs bulk (outs3 x)
  | .mk id kind data kids => by have e3 := sumB_eq (b := bulk) (i := 3) (f := bulk3) (fun _ => rfl) kids; simp only [bulk3, outs3, bulkPs, bulkP, bulkL3_eq, e3] <;> rfl
theorem bulk4_eq (x : List Int) : bulk4 x = bulkPs bulk (outs4 x) := by simp only [bulk4, outs4, bulkPs, bulkP] <;> rfl
theorem bulk5_eq (x : Event) : bulk5 x = bulkPs bulk (outs5 x) := by simp only [bulk5, outs5, bulkPs, bulkP] <;> rfl
theorem rowsOk : RowsOk G bulk where
  bulk i x := by
    match i, x with
    | 0, x => exact bulk0_eq x
    | 1, x => exact bulk1_eq x
    | 2, x => exact bulk2_eq x
    | 3, x => exact bulk3_eq x
    | 4, x => exact bulk4_eq x
    | 5, x => exact bulk5_eq x
    | i + 6, x => rfl
  int e k h := ⟨(prgOk.int e k h).1, okEl_cells elsOk h⟩
  row e i h := by
    have hc := okEl_cells elsOk h
    have hm := lookN_mem h
    simp only [els, List.mem_cons, List.not_mem_nil, or_false, Prod.mk.injEq, reduceCtorEq, and_false, false_or, EK.row.injEq] at hm
    rcases hm with ⟨rfl, rfl⟩ | ⟨rfl, rfl⟩ | ⟨rfl, rfl⟩ | ⟨rfl, rfl⟩ | ⟨rfl, rfl⟩ | ⟨rfl, rfl⟩
    · refine ⟨8, [.str], by kernel_rfl, hc, by decide, fun ps h => ?_⟩
      obtain ⟨y0, r0, rfl, h0⟩ := fits_str h; cases fits_nil h0; exact ⟨y0, rfl⟩
    · refine ⟨8, [.ints .u8], by kernel_rfl, hc, by decide, fun ps h => ?_⟩
      obtain ⟨y0, r0, rfl, h0⟩ := fits_ints h; cases fits_nil h0; exact ⟨y0, rfl⟩
    · refine ⟨8, [.str, .int .i64, .ints .u8], by kernel_rfl, hc, by decide, fun ps h => ?_⟩
      obtain ⟨y0, r0, rfl, h0⟩ := fits_str h; obtain ⟨y1, r1, rfl, h1⟩ := fits_int h0; obtain ⟨y2, r2, rfl, h2⟩ := fits_ints h1; cases fits_nil h2; exact ⟨⟨y0, y1, y2⟩, rfl⟩
    · refine ⟨8, [.str, .str, .ints .u8, .rows 3], by kernel_rfl, hc, by decide, fun ps h => ?_⟩
      obtain ⟨y0, r0, rfl, h0⟩ := fits_str h; obtain ⟨y1, r1, rfl, h1⟩ := fits_str h0; obtain ⟨y2, r2, rfl, h2⟩ := fits_ints h1; obtain ⟨y3, r3, rfl, h3⟩ := fits_rows h2; cases fits_nil h3; exact ⟨⟨y0, y1, y2, y3⟩, rfl⟩
    · refine ⟨8, [.str, .int .i64, .rows 2], by kernel_rfl, hc, by decide, fun ps h => ?_⟩
      obtain ⟨y0, r0, rfl, h0⟩ := fits_str h; obtain ⟨y1, r1, rfl, h1⟩ := fits_int h0; obtain ⟨y2, r2, rfl, h2⟩ := fits_rows h1; cases fits_nil h2; exact ⟨⟨y0, y1, y2⟩, rfl⟩
    · refine ⟨8, [.int .i64, .int .i64], by kernel_rfl, hc, by decide, fun ps h => ?_⟩
      obtain ⟨y0, r0, rfl, h0⟩ := fits_int h; obtain ⟨y1, r1, rfl, h1⟩ := fits_int h0; cases fits_nil h1; exact ⟨⟨y0, y1⟩, rfl⟩

noncomputable def law28_ViewNil (page1 : Int) (name2 : List Int) : Option Bool := call G 0 (page1, name2)
noncomputable def view_Viewer_Needs (page1 : Int) : Option ((List (List Int)) × Int) := call G 1 page1
noncomputable def view_Viewer_Show (page1 : Int) : Option (Int × Int × (List Int) × (List Int) × (List Int) × Int) := call G 2 page1
noncomputable def view_Viewer_Show_2 (page1 : Int) (b2 : Bool) (b3 : List Int) (b4 : Int) (b5 : List File) (b6 : List Int) : Option (Int × Int × (List Int) × (List Int) × (List Int) × Int × Bool × (List Int) × Int × (List File) × (List Int)) := call G 3 (page1, b2, b3, b4, b5, b6)
noncomputable def view_Viewer_Arrive (name1 data2 : List Int) (b3 : Bool) (b4 : List Int) (b5 : Int) (b6 : List File) (b7 : List Int) : Option (Int × Bool × (List Int) × Int × (List File) × (List Int)) := call G 4 (name1, data2, b3, b4, b5, b6, b7)
noncomputable def view_Viewer_Arrive_2 (name1 data2 : List Int) : Option Int := call G 5 (name1, data2)
noncomputable def view_Viewer_Stored : Option (List (List Int)) := call G 6 ()
noncomputable def view_Viewer_Size : Option Int := call G 7 ()
noncomputable def view_Viewer_Pages : Option Int := call G 8 ()
noncomputable def view_Viewer_Copy : Option Unit := call G 9 ()
noncomputable def view_Same : Option Bool := call G 10 ()
noncomputable def law28_Awake : Option Bool := call G 11 ()
noncomputable def view_Viewer_none : Option Bool := call G 12 ()
noncomputable def view_Viewer_all (page1 : Int) : Option ((List Int) × Int) := call G 13 page1
noncomputable def view_Viewer_has (i1 : Int) : Option Bool := call G 14 i1
noncomputable def view_Viewer_book : Option ((List File) × (List Outline)) := call G 15 ()
noncomputable def view_Viewer_Needs_2 (page1 : Int) (b2 : Bool) (b3 : List Int) (b4 : Int) (b5 : List File) (b6 : List Int) : Option ((List (List Int)) × Int × Bool × (List Int) × Int × (List File) × (List Int)) := call G 16 (page1, b2, b3, b4, b5, b6)
noncomputable def view_Viewer_book_2 (b1 : Bool) (b2 : List Int) (b3 : Int) (b4 : List File) (b5 : List Int) : Option ((List File) × (List Outline) × Bool × (List Int) × Int × (List File) × (List Int)) := call G 17 (b1, b2, b3, b4, b5)
noncomputable def view_Viewer_none_2 (b1 : Bool) (b2 : List Int) (b3 : Int) (b4 : List File) (b5 : List Int) : Option (Bool × Bool × (List Int) × Int × (List File) × (List Int)) := call G 18 (b1, b2, b3, b4, b5)
noncomputable def view_Viewer_find (name1 : List Int) (b2 : Bool) (b3 : List Int) (b4 : Int) (b5 : List File) (b6 : List Int) : Option (Int × Bool × (List Int) × Int × (List File) × (List Int)) := call G 19 (name1, b2, b3, b4, b5, b6)
noncomputable def slices_Clone_byte_byte (s1 : List Int) : Option (List Int) := call G 20 s1
noncomputable def view_Viewer_latest (i1 : Int) (b2 : Bool) (b3 : List Int) (b4 : Int) (b5 : List File) (b6 : List Int) : Option (Bool × (List Int) × Int × (List File) × (List Int)) := call G 21 (i1, b2, b3, b4, b5, b6)
noncomputable def view_Viewer_Size_2 (b1 : Bool) (b2 : List Int) (b3 : Int) (b4 : List File) (b5 : List Int) : Option (Int × Bool × (List Int) × Int × (List File) × (List Int)) := call G 22 (b1, b2, b3, b4, b5)
noncomputable def view_Viewer_find_2 (name1 : List Int) : Option Int := call G 23 name1
noncomputable def view_Serve (b1 : List File) (b2 : List Outline) (name3 : List Int) : Option ((List Int) × Int) := call G 24 (b1, b2, name3)
noncomputable def view_New (index1 : List Int) (bound2 : Int) : Option ((Bool × (List Int) × Int × (List File) × (List Int)) ⊕ (Int)) := call G 25 (index1, bound2)
noncomputable def view_Viewer_Pages_2 (b1 : Bool) (b2 : List Int) (b3 : Int) (b4 : List File) (b5 : List Int) : Option (Int × Bool × (List Int) × Int × (List File) × (List Int)) := call G 26 (b1, b2, b3, b4, b5)
noncomputable def view_Viewer_Stored_2 (b1 : Bool) (b2 : List Int) (b3 : Int) (b4 : List File) (b5 : List Int) : Option ((List (List Int)) × Bool × (List Int) × Int × (List File) × (List Int)) := call G 27 (b1, b2, b3, b4, b5)
noncomputable def view_Viewer_page (n1 : Int) : Option Int := call G 28 n1
noncomputable def view_Viewer_all_2 (page1 : Int) (b2 : Bool) (b3 : List Int) (b4 : Int) (b5 : List File) (b6 : List Int) : Option ((List Int) × Int × Bool × (List Int) × Int × (List File) × (List Int)) := call G 29 (page1, b2, b3, b4, b5, b6)
noncomputable def view_Viewer_has_2 (i1 : Int) (b2 : Bool) (b3 : List Int) (b4 : Int) (b5 : List File) (b6 : List Int) : Option (Bool × Bool × (List Int) × Int × (List File) × (List Int)) := call G 30 (i1, b2, b3, b4, b5, b6)
noncomputable def slices_IndexFunc_api_File_api_File (s1 : List File) (b2 : List Int) : Option (Int × (List Int)) := call G 31 (s1, b2)
noncomputable def slices_DeleteFunc_int_int (b1 : List Int) (b2 : Int) : Option ((List Int) × Int) := call G 32 (b1, b2)
noncomputable def book_Valid (b1 : List File) (b2 : List Outline) : Option Bool := call G 33 (b1, b2)
noncomputable def book_Index (b1 : List File) (b2 : List Outline) : Option ((List Int) × Int) := call G 34 (b1, b2)
noncomputable def chunk_Get (b1 : List Int) : Option ((List Chunk) × Int × Int) := call G 35 b1
noncomputable def book_GetDirectory (d1 : List Int) : Option ((List Int) × (List Outline) × Int × (List File)) := call G 36 d1
noncomputable def view_Viewer_page_2 (n1 : Int) (b2 : Bool) (b3 : List Int) (b4 : Int) (b5 : List File) (b6 : List Int) : Option (Int × Bool × (List Int) × Int × (List File) × (List Int)) := call G 37 (n1, b2, b3, b4, b5, b6)
noncomputable def slices_Contains_int_int (s1 : List Int) (v2 : Int) : Option Bool := call G 38 (s1, v2)
noncomputable def view_Viewer_find_1 (f1 : List Int) (f2 : Int) (f3 b4 : List Int) : Option (Bool × (List Int)) := call G 39 (f1, f2, f3, b4)
noncomputable def slices_IndexFunc_int_int (s1 : List Int) (b2 : Int) : Option (Int × Int) := call G 40 (s1, b2)
noncomputable def view_Viewer_latest_1 (k1 b2 : Int) : Option (Bool × Int) := call G 41 (k1, b2)
noncomputable def note_ValidOutlines (l1 : List Outline) : Option Bool := call G 42 l1
noncomputable def book_rightFile (f1 : List Int) (f2 : Int) (f3 : List Int) : Option Bool := call G 43 (f1, f2, f3)
noncomputable def book_index (l1 : List File) (name2 : List Int) : Option Int := call G 44 (l1, name2)
noncomputable def book_put (kind1 : List Int) (b2 : List File) (b3 : List Outline) (files4 : List File) : Option ((List Int) × Int) := call G 45 (kind1, b2, b3, files4)
noncomputable def chunk_reader_list (at1 end2 depth3 : Int) (b4 : List Int) (b5 b6 b7 : Int) : Option ((List Chunk) × (List Int) × Int × Int × Int) := call G 46 (at1, end2, depth3, b4, b5, b6, b7)
noncomputable def sort_Unpack (b1 : List Int) : Option ((List Int) × Int) := call G 47 b1
noncomputable def book_cursor_size (b1 : List Int) (b2 b3 : Int) : Option (Int × (List Int) × Int × Int) := call G 48 (b1, b2, b3)
noncomputable def book_cursor_check (ok1 : Bool) (err2 : Int) (b3 : List Int) (b4 b5 : Int) : Option (Bool × (List Int) × Int × Int) := call G 49 (ok1, err2, b3, b4, b5)
noncomputable def book_cursor_file (b1 : List Int) (b2 b3 : Int) : Option ((List Int) × Int × (List Int) × Int × (List Int) × Int × Int) := call G 50 (b1, b2, b3)
noncomputable def note_GetOutlines (b1 : List Int) : Option ((List Outline) × Int) := call G 51 b1
noncomputable def slices_Index_int_int (s1 : List Int) (v2 : Int) : Option Int := call G 52 (s1, v2)
noncomputable def note_looks_outlines (l1 : List Outline) (depth2 b3 : Int) : Option (Bool × Int) := call G 53 (l1, depth2, b3)
noncomputable def book_isName (s1 : List Int) : Option Bool := call G 54 s1
noncomputable def slices_IndexFunc_api_File_api_File_2 (s1 : List File) (b2 : List Int) : Option (Int × (List Int)) := call G 55 (s1, b2)
noncomputable def book_Directory (b1 : List File) (b2 : List Outline) : Option ((List Int) × Int) := call G 56 (b1, b2)
noncomputable def book_one (f1 : List Int) (f2 : Int) (f3 : List Int) : Option ((List Int) × (List Int) × (List Int) × (List Chunk)) := call G 57 (f1, f2, f3)
noncomputable def chunk_Put (l1 : List Chunk) : Option ((List Int) × Int) := call G 58 l1
noncomputable def chunk_reader_chunk (at1 end2 depth3 : Int) (b4 : List Int) (b5 b6 b7 : Int) : Option ((List Int) × (List Int) × (List Int) × (List Chunk) × Int × (List Int) × Int × Int × Int) := call G 59 (at1, end2, depth3, b4, b5, b6, b7)
noncomputable def bits_GetSize (b1 : List Int) (at2 : Int) : Option (Int × Int × Int) := call G 60 (b1, at2)
noncomputable def coder_New (kind1 n2 : Int) : Option (Int × Int × (List Int)) := call G 61 (kind1, n2)
noncomputable def coder_NewDecoder (m1 : Int) (m2 b3 : List Int) : Option ((Int × Int × Int × (List Int) × Int × Int × Int × Bool × (List Int)) ⊕ (Unit)) := call G 62 (m1, m2, b3)
noncomputable def sort_base (last1 : Int) : Option Int := call G 63 last1
noncomputable def number_Get (base1 b2 b3 b4 : Int) (b5 : List Int) (b6 b7 b8 : Int) (b9 : Bool) (b10 : List Int) : Option (Bool × Int × Int × Int × Int × Int × (List Int) × Int × Int × Int × Bool × (List Int)) := call G 64 (base1, b2, b3, b4, b5, b6, b7, b8, b9, b10)
noncomputable def sort_Unfront (l1 : List Int) : Option ((List Int) × Int) := call G 65 l1
noncomputable def sort_uncolumn (l1 : List Int) : Option ((List Int) × Int) := call G 66 l1
noncomputable def book_cursor_take (n1 : Int) (b2 : List Int) (b3 b4 : Int) : Option ((List Int) × (List Int) × Int × Int) := call G 67 (n1, b2, b3, b4)
noncomputable def book_cursor_name (b1 : List Int) (b2 b3 : Int) : Option ((List Int) × (List Int) × Int × Int) := call G 68 (b1, b2, b3)
noncomputable def note_reader_list (depth1 : Int) (b2 : List Int) (b3 b4 b5 : Int) : Option ((List Outline) × (List Int) × Int × Int × Int) := call G 69 (depth1, b2, b3, b4, b5)
noncomputable def book_index_1 (f1 : List Int) (f2 : Int) (f3 b4 : List Int) : Option (Bool × (List Int)) := call G 70 (f1, f2, f3, b4)
noncomputable def book_sized (n1 : Int) (l2 : List Int) : Option (List Int) := call G 71 (n1, l2)
noncomputable def note_PutOutlines (l1 : List Outline) : Option ((List Int) × Int) := call G 72 l1
noncomputable def sort_Pack (text1 : List Int) : Option ((List Int) × Int) := call G 73 text1
noncomputable def chunk_valid (l1 : List Chunk) : Option Bool := call G 74 l1
noncomputable def chunk_size (c1 c2 c3 : List Int) (c4 : List Chunk) : Option Int := call G 75 (c1, c2, c3, c4)
noncomputable def chunk_put (c1 c2 c3 : List Int) (c4 : List Chunk) (b5 : List Int) : Option (List Int) := call G 76 (c1, c2, c3, c4, b5)
noncomputable def chunk_reader_id (at1 end2 : Int) (b3 : List Int) (b4 b5 b6 : Int) : Option ((List Int) × (List Int) × Int × Int × Int) := call G 77 (at1, end2, b3, b4, b5, b6)
noncomputable def chunk_reader_fail (ok1 : Bool) (err2 at3 : Int) (b4 : List Int) (b5 b6 b7 : Int) : Option (Bool × (List Int) × Int × Int × Int) := call G 78 (ok1, err2, at3, b4, b5, b6, b7)
noncomputable def chunk_reader_id_2 (at1 end2 : Int) (b3 : List Int) (b4 b5 b6 : Int) : Option ((List Int) × (List Int) × Int × Int × Int) := call G 79 (at1, end2, b3, b4, b5, b6)
noncomputable def bytes_Clone (b1 : List Int) : Option (List Int) := call G 80 b1
noncomputable def coder_Valid (m1 : Int) (m2 : List Int) : Option Bool := call G 81 (m1, m2)
noncomputable def coder_begin (m1 : Int) (m2 : List Int) : Option (Int × Int × Int × (List Int)) := call G 82 (m1, m2)
noncomputable def coder_Decoder_shift (b1 b2 b3 b4 b5 b6 : Int) (b7 b8 : List Int) : Option (Int × Int × Int × Int × Int × Int × (List Int) × (List Int)) := call G 83 (b1, b2, b3, b4, b5, b6, b7, b8)
noncomputable def coder_Decoder_Get (ctx1 b2 b3 b4 : Int) (b5 : List Int) (b6 b7 b8 : Int) (b9 : Bool) (b10 : List Int) : Option (Int × Int × Int × Int × Int × (List Int) × Int × Int × Int × Bool × (List Int)) := call G 84 (ctx1, b2, b3, b4, b5, b6, b7, b8, b9, b10)
noncomputable def coder_Decoder_Model (b1 b2 b3 : Int) (b4 : List Int) (b5 b6 b7 : Int) (b8 : Bool) (b9 : List Int) : Option (Int × (List Int) × Int × Int × Int × (List Int) × Int × Int × Int × Bool × (List Int)) := call G 85 (b1, b2, b3, b4, b5, b6, b7, b8, b9)
noncomputable def number_fits (m1 : Int) (m2 : List Int) (base3 n4 : Int) : Option Int := call G 86 (m1, m2, base3, n4)
noncomputable def number_get (base1 b2 b3 b4 : Int) (b5 : List Int) (b6 b7 b8 : Int) (b9 : Bool) (b10 : List Int) : Option (Bool × Int × Int × Int × Int × Int × (List Int) × Int × Int × Int × Bool × (List Int)) := call G 87 (base1, b2, b3, b4, b5, b6, b7, b8, b9, b10)
noncomputable def sort_asked (l1 : List Int) : Option Int := call G 88 l1
noncomputable def sort_list : Option (List Int) := call G 89 ()
noncomputable def sort_front (place1 : Int) (b2 : List Int) : Option (Int × (List Int)) := call G 90 (place1, b2)
noncomputable def slices_Backward_byte_byte (b1 : List Int) : Option (List Int) := call G 91 b1
noncomputable def sort_column (text1 : List Int) : Option (List Int) := call G 92 text1
noncomputable def slices_Equal_int_int (s1 s2 : List Int) : Option Bool := call G 93 (s1, s2)
noncomputable def note_reader_size (low1 high2 : Int) (b3 : List Int) (b4 b5 b6 : Int) : Option (Int × (List Int) × Int × Int × Int) := call G 94 (low1, high2, b3, b4, b5, b6)
noncomputable def note_reader_title (b1 : List Int) (b2 b3 b4 : Int) : Option ((List Int) × (List Int) × Int × Int × Int) := call G 95 (b1, b2, b3, b4)
noncomputable def bits_Size (n1 : Int) : Option (Int × (List Int)) := call G 96 n1
noncomputable def note_put (l1 : List Outline) : Option (List Int) := call G 97 l1
noncomputable def sort_Column (text1 : List Int) : Option ((List Int) × Int) := call G 98 text1
noncomputable def coder_NewEncoder (m1 : Int) (m2 : List Int) : Option ((Int × Int × Int × (List Int) × (List Int)) ⊕ (Unit)) := call G 99 (m1, m2)
noncomputable def sort_Front (l1 : List Int) : Option ((List Int) × Int) := call G 100 l1
noncomputable def number_Put (base1 : Int) (n2 : Bool) (n3 b4 b5 b6 : Int) (b7 b8 : List Int) : Option (Int × Int × Int × Int × (List Int) × (List Int)) := call G 101 (base1, n2, n3, b4, b5, b6, b7, b8)
noncomputable def coder_Encoder_End (b1 b2 b3 : Int) (b4 b5 : List Int) : Option ((List Int) × Int × Int × Int × (List Int) × (List Int)) := call G 102 (b1, b2, b3, b4, b5)
noncomputable def chunk_looks_right (l1 : List Chunk) (depth2 b3 : Int) : Option (Bool × Int) := call G 103 (l1, depth2, b3)
noncomputable def chunk_length (c1 c2 c3 : List Int) (c4 : List Chunk) : Option Int := call G 104 (c1, c2, c3, c4)
noncomputable def chunk_isId (s1 : List Int) : Option Bool := call G 105 s1
noncomputable def chunk_isKind (s1 : List Int) : Option Bool := call G 106 s1
noncomputable def coder_clone (m1 : Int) (m2 : List Int) : Option (Int × (List Int)) := call G 107 (m1, m2)
noncomputable def coder_chances : Option Unit := call G 108 ()
noncomputable def coder_Decoder_none (b1 b2 b3 : Int) (b4 : List Int) (b5 b6 b7 : Int) (b8 : Bool) (b9 : List Int) : Option (Bool × Int × Int × Int × (List Int) × Int × Int × Int × Bool × (List Int)) := call G 109 (b1, b2, b3, b4, b5, b6, b7, b8, b9)
noncomputable def coder_interval_mid (ctx1 b2 b3 b4 : Int) (b5 : List Int) (b6 b7 b8 : Int) (b9 : Bool) (b10 : List Int) : Option (Int × Int × Int × Int × (List Int) × Int × Int × Int × Bool × (List Int)) := call G 110 (ctx1, b2, b3, b4, b5, b6, b7, b8, b9, b10)
noncomputable def coder_interval_take (ctx1 bit2 mid3 b4 b5 b6 : Int) (b7 : List Int) (b8 b9 b10 : Int) (b11 : Bool) (b12 : List Int) : Option (Int × Int × Int × (List Int) × Int × Int × Int × Bool × (List Int)) := call G 111 (ctx1, bit2, mid3, b4, b5, b6, b7, b8, b9, b10, b11, b12)
noncomputable def coder_interval_same (b1 b2 b3 : Int) (b4 : List Int) (b5 b6 b7 : Int) (b8 : Bool) (b9 : List Int) : Option (Bool × Int × Int × Int × (List Int) × Int × Int × Int × Bool × (List Int)) := call G 112 (b1, b2, b3, b4, b5, b6, b7, b8, b9)
noncomputable def coder_interval_lose (b1 b2 b3 : Int) (b4 : List Int) (b5 b6 b7 : Int) (b8 : Bool) (b9 : List Int) : Option (Int × Int × Int × Int × (List Int) × Int × Int × Int × Bool × (List Int)) := call G 113 (b1, b2, b3, b4, b5, b6, b7, b8, b9)
noncomputable def coder_Decoder_shift_2 (b1 b2 b3 : Int) (b4 : List Int) (b5 b6 b7 : Int) (b8 : Bool) (b9 : List Int) : Option (Int × Int × Int × (List Int) × Int × Int × Int × Bool × (List Int)) := call G 114 (b1, b2, b3, b4, b5, b6, b7, b8, b9)
noncomputable def number_tail_take (b1 : Int) : Option (Int × Int) := call G 115 b1
noncomputable def slices_ContainsFunc_int_int (s1 : List Int) : Option Bool := call G 116 s1
noncomputable def sort_suffixes (text1 : List Int) : Option (List Int) := call G 117 text1
noncomputable def note_size (n1 : Int) : Option (List Int) := call G 118 n1
noncomputable def slices_Concat_byte_byte (slices1 : List (List Int)) : Option (List Int) := call G 119 slices1
noncomputable def coder_Encoder_Put (ctx1 bit2 b3 b4 b5 : Int) (b6 b7 : List Int) : Option (Int × Int × Int × Int × (List Int) × (List Int)) := call G 120 (ctx1, bit2, b3, b4, b5, b6, b7)
noncomputable def number_Valid (n1 : Bool) (n2 : Int) : Option Bool := call G 121 (n1, n2)
noncomputable def coder_Encoder_Model (b1 b2 b3 : Int) (b4 b5 : List Int) : Option (Int × (List Int) × Int × Int × Int × (List Int) × (List Int)) := call G 122 (b1, b2, b3, b4, b5)
noncomputable def number_events (base1 : Int) (n2 : Bool) (n3 : Int) : Option (List Event) := call G 123 (base1, n2, n3)
noncomputable def number_put (l1 : List Event) (b2 b3 b4 : Int) (b5 b6 : List Int) : Option (Int × Int × Int × Int × (List Int) × (List Int)) := call G 124 (l1, b2, b3, b4, b5, b6)
noncomputable def coder_Encoder_none (b1 b2 b3 : Int) (b4 b5 : List Int) : Option (Bool × Int × Int × Int × (List Int) × (List Int)) := call G 125 (b1, b2, b3, b4, b5)
noncomputable def coder_table_chance (kind1 s2 : Int) : Option Int := call G 126 (kind1, s2)
noncomputable def coder_next (kind1 s2 bit3 : Int) : Option Int := call G 127 (kind1, s2, bit3)
noncomputable def slices_IndexFunc_int_int_2 (s1 : List Int) : Option Int := call G 128 s1
noncomputable def slices_SortFunc_int_int (b1 b2 : List Int) : Option ((List Int) × (List Int)) := call G 129 (b1, b2)
noncomputable def slices_Grow_byte_byte (s1 : List Int) (n2 : Int) : Option (List Int) := call G 130 (s1, n2)
noncomputable def coder_interval_mid_2 (ctx1 b2 b3 b4 : Int) (b5 b6 : List Int) : Option (Int × Int × Int × Int × (List Int) × (List Int)) := call G 131 (ctx1, b2, b3, b4, b5, b6)
noncomputable def coder_interval_take_2 (ctx1 bit2 mid3 b4 b5 b6 : Int) (b7 b8 : List Int) : Option (Int × Int × Int × (List Int) × (List Int)) := call G 132 (ctx1, bit2, mid3, b4, b5, b6, b7, b8)
noncomputable def coder_interval_same_2 (b1 b2 b3 : Int) (b4 b5 : List Int) : Option (Bool × Int × Int × Int × (List Int) × (List Int)) := call G 133 (b1, b2, b3, b4, b5)
noncomputable def coder_interval_lose_2 (b1 b2 b3 : Int) (b4 b5 : List Int) : Option (Int × Int × Int × Int × (List Int) × (List Int)) := call G 134 (b1, b2, b3, b4, b5)
noncomputable def math_bits_Len (x1 : Int) : Option Int := call G 135 x1
noncomputable def sort_asked_1 (s1 : Int) : Option Bool := call G 136 s1
noncomputable def slices_pdqsortCmpFunc_int (a1 b2 limit3 : Int) (b4 b5 : List Int) : Option ((List Int) × (List Int)) := call G 137 (a1, b2, limit3, b4, b5)
noncomputable def math_bits_Len64 (x1 : Int) : Option Int := call G 138 x1
noncomputable def slices_insertionSortCmpFunc_int (a1 b2 : Int) (b3 b4 : List Int) : Option ((List Int) × (List Int)) := call G 139 (a1, b2, b3, b4)
noncomputable def slices_heapSortCmpFunc_int (a1 b2 : Int) (b3 b4 : List Int) : Option ((List Int) × (List Int)) := call G 140 (a1, b2, b3, b4)
noncomputable def slices_breakPatternsCmpFunc_int (a1 b2 : Int) (b3 b4 : List Int) : Option ((List Int) × (List Int)) := call G 141 (a1, b2, b3, b4)
noncomputable def slices_choosePivotCmpFunc_int (a1 b2 : Int) (b3 b4 : List Int) : Option (Int × Int × (List Int) × (List Int)) := call G 142 (a1, b2, b3, b4)
noncomputable def slices_reverseRangeCmpFunc_int (a1 b2 : Int) (b3 b4 : List Int) : Option ((List Int) × (List Int)) := call G 143 (a1, b2, b3, b4)
noncomputable def slices_partialInsertionSortCmpFunc_int (a1 b2 : Int) (b3 b4 : List Int) : Option (Bool × (List Int) × (List Int)) := call G 144 (a1, b2, b3, b4)
noncomputable def sort_suffixes_1 (a1 b2 : Int) (b3 : List Int) : Option (Int × (List Int)) := call G 145 (a1, b2, b3)
noncomputable def slices_partitionEqualCmpFunc_int (a1 b2 pivot3 : Int) (b4 b5 : List Int) : Option (Int × (List Int) × (List Int)) := call G 146 (a1, b2, pivot3, b4, b5)
noncomputable def slices_partitionCmpFunc_int (a1 b2 pivot3 : Int) (b4 b5 : List Int) : Option (Int × Bool × (List Int) × (List Int)) := call G 147 (a1, b2, pivot3, b4, b5)
noncomputable def slices_siftDownCmpFunc_int (lo1 hi2 first3 : Int) (b4 b5 : List Int) : Option ((List Int) × (List Int)) := call G 148 (lo1, hi2, first3, b4, b5)
noncomputable def slices_nextPowerOfTwo (length1 : Int) : Option Int := call G 149 length1
noncomputable def slices_xorshift_Next (b1 : Int) : Option (Int × Int) := call G 150 b1
noncomputable def slices_medianAdjacentCmpFunc_int (a1 : Int) (b2 : List Int) (b3 : Int) (b4 : List Int) : Option (Int × (List Int) × Int × (List Int)) := call G 151 (a1, b2, b3, b4)
noncomputable def slices_medianCmpFunc_int (a1 b2 c3 : Int) (b4 : List Int) (b5 : Int) (b6 : List Int) : Option (Int × (List Int) × Int × (List Int)) := call G 152 (a1, b2, c3, b4, b5, b6)
noncomputable def bytes_Compare (a1 b2 : List Int) : Option Int := call G 153 (a1, b2)
noncomputable def slices_order2CmpFunc_int (a1 b2 : Int) (b3 : List Int) (b4 : Int) (b5 : List Int) : Option (Int × Int × (List Int) × Int × (List Int)) := call G 154 (a1, b2, b3, b4, b5)
end
end Go.Proofs.YthnonplijagpdaaGreat.P
