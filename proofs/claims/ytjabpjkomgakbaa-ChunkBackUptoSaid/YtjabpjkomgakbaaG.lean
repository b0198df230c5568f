/- The program as the value reading has it: kinds of elements, functions, and that all fits. Printed by wip/tool/vsym.py. -/
import Derived.KernelRfl
import Derived.Test.YtjabpjkomgakbaaProg
import Derived.Test.YtjabpjkomgakbaaRow
namespace Go.Proofs.Ytjabpjkomgakbaa.P
open Go Go.Proofs.Ytjabpjkomgakbaa.V
set_option linter.unusedVariables false
set_option linter.unusedSimpArgs false
set_option maxRecDepth 100000
noncomputable section
structure Chunk where
  id : List Int
  kind : List Int
  data : List Int
  kids : List Chunk

noncomputable def TT : Nat → Type
  | 0 => Chunk
  | 1 => List Int
  | 2 => List Int
  | _ => Unit
noncomputable def outs0 (x : Chunk) : List (PV TT) := [.str x.id, .str x.kind, .ints .u8 x.data, .rows 0 x.kids]
noncomputable def outs1 (x : List Int) : List (PV TT) := [.str x]
noncomputable def outs2 (x : List Int) : List (PV TT) := [.ints .u8 x]
noncomputable def outs : (i : Nat) → TT i → List (PV TT)
  | 0, x => outs0 x
  | 1, x => outs1 x
  | 2, x => outs2 x
  | _, _ => []
noncomputable def inn0 : List (PV TT) → Option Chunk
  | [c0, c1, c2, c3] => (asStr c0).bind fun y0 => (asStr c1).bind fun y1 => (asInts .u8 c2).bind fun y2 => (asRows 0 c3).bind fun y3 => some (Chunk.mk y0 y1 y2 y3)
  | _ => none
noncomputable def inn1 : List (PV TT) → Option (List Int)
  | [c0] => (asStr c0).bind fun y0 => some y0
  | _ => none
noncomputable def inn2 : List (PV TT) → Option (List Int)
  | [c0] => (asInts .u8 c0).bind fun y0 => some y0
  | _ => none
noncomputable def inn : (i : Nat) → List (PV TT) → Option (TT i)
  | 0, l => inn0 l
  | 1, l => inn1 l
  | 2, l => inn2 l
  | _, _ => none
noncomputable def E : Env := { T := TT, outs := outs, inn := inn, sz := fun i => (getL [4, 1, 1] i).getD 0, flat := fun i => (getL [false, true, false] i).getD false }
noncomputable def els : List (TypeId × EK) := [(3, .int .i64), (5, .int .u8), (9, .row 1), (24, .row 2), (37, .row 0)]
noncomputable def insts : List FInst := [
  { fid := 3, sig := { ps := [.agg [.int .i64, .int .i64, .int .i64, .int .i64, .int .i64]], pb := [], rs := [.bool], rb := [] }, ann := { calls := [(31, 9), (39, 10), (44, 11), (49, 12), (63, 13), (68, 13), (71, 14)], loops := [], joins := [], cuts := [] } },
  { fid := 4, sig := { ps := [.rows 0, .rows 0], pb := [], rs := [.bool], rb := [] }, ann := { calls := [(13, 15), (16, 15), (18, 16), (26, 17), (31, 17), (36, 17), (45, 16), (60, 18), (63, 16)], loops := [], joins := [(2, [(.normal, { tm := [(17, .bool)], bs := [] })]), (16, [(.normal, { tm := [(4, .bool)], bs := [.same] })])], cuts := [] } },
  { fid := 5, sig := { ps := [.rows 0, .rows 0], pb := [], rs := [.bool], rb := [] }, ann := { calls := [(17, 15), (20, 15), (22, 16), (25, 17), (30, 19), (39, 18), (45, 20), (48, 21), (54, 20), (65, 22), (70, 23), (83, 24), (85, 25), (101, 16)], loops := [(9, { tm := [(9, .int .i64), (59, .int .i64)], bs := [] }, [(.exit 0, { tm := [(9, .int .i64)], bs := [] }), (.ret, { tm := [(4, .bool)], bs := [] })])], joins := [(2, [(.normal, { tm := [(21, .bool)], bs := [] })]), (10, [(.normal, { tm := [(56, .bool)], bs := [] })]), (26, [(.normal, { tm := [(87, .bool)], bs := [.same] })])], cuts := [] } },
  { fid := 6, sig := { ps := [.rows 0, .rows 1, .str], pb := [], rs := [.bool], rb := [] }, ann := { calls := [(16, 15), (22, 16), (26, 26), (32, 27), (38, 28), (44, 29), (55, 21), (65, 21), (68, 16)], loops := [], joins := [(2, [(.normal, { tm := [(21, .bool)], bs := [] })])], cuts := [] } },
  { fid := 7, sig := { ps := [.rows 0, .str, .ints .u8], pb := [], rs := [.bool], rb := [] }, ann := { calls := [(14, 15), (20, 16), (25, 30), (32, 31), (41, 21), (46, 16), (51, 26), (58, 30), (66, 21), (79, 18), (83, 16)], loops := [], joins := [(2, [(.normal, { tm := [(19, .bool)], bs := [] })]), (10, [(.normal, { tm := [(43, .bool)], bs := [] })]), (22, [(.normal, { tm := [(68, .bool)], bs := [.same, .same] })])], cuts := [] } },
  { fid := 8, sig := { ps := [.ints .u8], pb := [], rs := [.bool], rb := [] }, ann := { calls := [(12, 16), (15, 32), (21, 33), (36, 21), (39, 16)], loops := [], joins := [], cuts := [] } },
  { fid := 9, sig := { ps := [.ints .u8], pb := [], rs := [.bool], rb := [] }, ann := { calls := [(10, 16), (13, 32), (23, 16), (27, 17), (35, 18), (38, 16)], loops := [], joins := [(10, [(.normal, { tm := [(2, .bool)], bs := [] })])], cuts := [] } },
  { fid := 10, sig := { ps := [.ints .u8], pb := [], rs := [.bool], rb := [] }, ann := { calls := [(10, 16), (13, 34), (18, 35), (27, 21), (30, 16)], loops := [], joins := [], cuts := [] } },
  { fid := 11, sig := { ps := [.rows 0], pb := [], rs := [.bool], rb := [] }, ann := { calls := [(10, 15), (11, 16), (14, 17), (23, 16), (27, 32), (33, 34), (41, 21), (46, 21), (53, 16)], loops := [], joins := [(10, [(.normal, { tm := [(2, .bool)], bs := [] })])], cuts := [] } },
  { fid := 12, sig := { ps := [.int .i64, .int .i64, .int .i64, .int .i64], pb := [], rs := [.ints .u8, .int .i64], rb := [] }, ann := { calls := [(17, 36), (49, 37), (56, 38)], loops := [], joins := [(4, [(.normal, { tm := [(41, .bool)], bs := [.same] })])], cuts := [] } },
  { fid := 13, sig := { ps := [.int .i64, .int .i64, .int .i64, .int .i64], pb := [], rs := [.ints .u8, .int .i64], rb := [] }, ann := { calls := [(13, 39), (36, 40), (39, 40), (47, 41)], loops := [], joins := [(2, [(.normal, { tm := [(34, .bool)], bs := [] })])], cuts := [] } },
  { fid := 14, sig := { ps := [.int .i64], pb := [], rs := [.ints .u8, .int .i64], rb := [] }, ann := { calls := [(16, 37)], loops := [], joins := [(2, [(.normal, { tm := [(10, .bool)], bs := [] })])], cuts := [] } },
  { fid := 15, sig := { ps := [.int .i64], pb := [], rs := [.ints .u8, .int .i64], rb := [] }, ann := { calls := [(11, 40)], loops := [], joins := [], cuts := [] } },
  { fid := 16, sig := { ps := [.ints .u8, .ints .u8], pb := [], rs := [.bool], rb := [] }, ann := { calls := [], loops := [], joins := [], cuts := [] } },
  { fid := 17, sig := { ps := [], pb := [], rs := [.bool], rb := [] }, ann := { calls := [(4, 9), (12, 13)], loops := [], joins := [], cuts := [] } },
  { fid := 18, sig := { ps := [.rows 0], pb := [], rs := [.bool], rb := [] }, ann := { calls := [(8, 42)], loops := [], joins := [], cuts := [] } },
  { fid := 19, sig := { ps := [], pb := [], rs := [.bool], rb := [] }, ann := { calls := [(8, 22), (15, 17)], loops := [], joins := [], cuts := [] } },
  { fid := 20, sig := { ps := [.rows 0], pb := [], rs := [.ints .u8, .int .i64], rb := [] }, ann := { calls := [(11, 43), (21, 44), (34, 45)], loops := [(5, { tm := [(4, .int .i64), (15, .int .i64)], bs := [] }, [(.exit 0, { tm := [(4, .int .i64)], bs := [] })]), (13, { tm := [(7, .arr 0), (28, .int .i64)], bs := [.ints .u8 false] }, [(.exit 2, { tm := [(7, .arr 0)], bs := [.ints .u8 false] })])], joins := [], cuts := [] } },
  { fid := 21, sig := { ps := [.ints .u8, .ints .u8], pb := [], rs := [.bool], rb := [] }, ann := { calls := [], loops := [(4, { tm := [(13, .int .i64)], bs := [] }, [(.exit 0, { tm := [], bs := [] }), (.ret, { tm := [(4, .bool)], bs := [] })])], joins := [], cuts := [] } },
  { fid := 22, sig := { ps := [.rows 0], pb := [], rs := [.ints .u8, .int .i64], rb := [] }, ann := { calls := [(8, 46), (18, 47), (24, 48)], loops := [(5, { tm := [(4, .int .i64), (12, .int .i64)], bs := [] }, [(.exit 0, { tm := [(4, .int .i64)], bs := [] })])], joins := [], cuts := [] } },
  { fid := 23, sig := { ps := [.rows 0, .rows 0], pb := [], rs := [.bool], rb := [] }, ann := { calls := [(7, 49)], loops := [], joins := [], cuts := [] } },
  { fid := 24, sig := { ps := [.rows 0, .rows 0], pb := [], rs := [.bool], rb := [] }, ann := { calls := [(24, 50)], loops := [(4, { tm := [(13, .int .i64)], bs := [] }, [(.exit 0, { tm := [], bs := [] }), (.ret, { tm := [(4, .bool)], bs := [] })])], joins := [], cuts := [] } },
  { fid := 25, sig := { ps := [.agg [.str, .str, .ints .u8, .rows 0]], pb := [], rs := [.int .i64, .int .i64], rb := [] }, ann := { calls := [(5, 24), (8, 44)], loops := [], joins := [], cuts := [] } },
  { fid := 26, sig := { ps := [.agg [.str, .str, .ints .u8, .rows 0]], pb := [], rs := [.int .i64, .int .i64], rb := [] }, ann := { calls := [(5, 25), (8, 47)], loops := [], joins := [], cuts := [] } },
  { fid := 27, sig := { ps := [.agg [.str, .str, .ints .u8, .rows 0]], pb := [], rs := [.bool], rb := [] }, ann := { calls := [(5, 43)], loops := [], joins := [], cuts := [] } },
  { fid := 28, sig := { ps := [.agg [.str, .str, .ints .u8, .rows 0]], pb := [], rs := [.bool], rb := [] }, ann := { calls := [(5, 46)], loops := [], joins := [], cuts := [] } },
  { fid := 29, sig := { ps := [.rows 0, .rows 1], pb := [], rs := [.agg [.str, .str, .ints .u8, .rows 0], .int .i64], rb := [] }, ann := { calls := [(11, 43), (22, 51), (41, 52)], loops := [(5, { tm := [(0, .rows 0), (16, .int .i64)], bs := [.box [.str, .str, .ints .u8, .rows 0], .box [.str, .str, .ints .u8, .rows 0]] }, [(.exit 0, { tm := [], bs := [.box [.str, .str, .ints .u8, .rows 0], .box [.str, .str, .ints .u8, .rows 0]] }), (.ret, { tm := [(5, .int .i64)], bs := [.box [.str, .str, .ints .u8, .rows 0], .box [.str, .str, .ints .u8, .rows 0]] })])], joins := [], cuts := [] } },
  { fid := 30, sig := { ps := [.rows 0, .rows 1], pb := [], rs := [.agg [.str, .str, .ints .u8, .rows 0], .int .i64], rb := [] }, ann := { calls := [(10, 46), (29, 53)], loops := [(4, { tm := [(0, .rows 0), (15, .int .i64)], bs := [.box [.str, .str, .ints .u8, .rows 0]] }, [(.exit 0, { tm := [], bs := [.box [.str, .str, .ints .u8, .rows 0]] }), (.ret, { tm := [(5, .int .i64)], bs := [.box [.str, .str, .ints .u8, .rows 0]] })]), (7, { tm := [(8, .int .i64)], bs := [.same] }, [(.exit 2, { tm := [(8, .int .i64)], bs := [.same] })])], joins := [], cuts := [] } },
  { fid := 31, sig := { ps := [.rows 0, .str], pb := [], rs := [.rows 0, .int .i64], rb := [] }, ann := { calls := [(7, 43), (11, 54)], loops := [], joins := [], cuts := [] } },
  { fid := 32, sig := { ps := [.rows 0, .str], pb := [], rs := [.rows 0, .int .i64], rb := [] }, ann := { calls := [(7, 46), (11, 55)], loops := [], joins := [], cuts := [] } },
  { fid := 33, sig := { ps := [.rows 0, .str, .ints .u8], pb := [], rs := [.rows 0, .int .i64], rb := [] }, ann := { calls := [(14, 43), (18, 56), (29, 52), (35, 57), (39, 58), (51, 43)], loops := [(5, { tm := [(8, .arr 1), (23, .int .i64)], bs := [.same, .rows 0 false] }, [(.exit 0, { tm := [(8, .arr 1)], bs := [.same, .rows 0 false] })])], joins := [(2, [(.normal, { tm := [(20, .bool)], bs := [.same] })]), (83, [(.normal, { tm := [(8, .arr 1)], bs := [.same, .rows 0 false, .same] })])], cuts := [] } },
  { fid := 34, sig := { ps := [.rows 0, .str, .ints .u8], pb := [], rs := [.rows 0, .int .i64], rb := [] }, ann := { calls := [(12, 46), (16, 59), (51, 46)], loops := [(5, { tm := [(28, .int .i64)], bs := [.rows 0 true] }, [(.exit 0, { tm := [], bs := [.rows 0 true] }), (.ret, { tm := [(6, .arr 0), (7, .int .i64)], bs := [.rows 0 true] })])], joins := [(2, [(.normal, { tm := [(22, .bool)], bs := [] })])], cuts := [] } },
  { fid := 35, sig := { ps := [.ints .u8], pb := [], rs := [.rows 0, .int .i64, .int .i64], rb := [] }, ann := { calls := [(15, 60)], loops := [], joins := [], cuts := [] } },
  { fid := 36, sig := { ps := [.ints .u8], pb := [], rs := [.rows 0, .int .i64, .int .i64], rb := [] }, ann := { calls := [(16, 61)], loops := [], joins := [], cuts := [] } },
  { fid := 37, sig := { ps := [.ints .u8], pb := [], rs := [.rows 0, .int .i64], rb := [] }, ann := { calls := [(30, 62)], loops := [(5, { tm := [(2, .arr 0), (3, .int .i64), (5, .int .i64), (6, .int .i64)], bs := [.rows 0 false] }, [(.exit 0, { tm := [(2, .arr 0), (3, .int .i64)], bs := [.rows 0 false] })])], joins := [], cuts := [] } },
  { fid := 38, sig := { ps := [.ints .u8], pb := [], rs := [.rows 0, .int .i64], rb := [] }, ann := { calls := [(31, 63)], loops := [(5, { tm := [(2, .arr 0), (3, .int .i64), (5, .int .i64), (6, .int .i64)], bs := [.rows 0 false] }, [(.exit 0, { tm := [(2, .arr 0), (3, .int .i64)], bs := [.rows 0 false] })])], joins := [], cuts := [] } },
  { fid := 39, sig := { ps := [.int .i64, .int .i64, .int .i64], pb := [], rs := [.agg [.int .i64, .int .i64, .ints .u8], .int .i64], rb := [] }, ann := { calls := [(29, 64)], loops := [(5, { tm := [(35, .int .i64)], bs := [.same, .ints .u8 true, .same] }, [(.exit 0, { tm := [], bs := [.same, .ints .u8 true, .same] })])], joins := [(2, [(.normal, { tm := [(24, .bool)], bs := [.same] })])], cuts := [] } },
  { fid := 40, sig := { ps := [.ptr 0 0, .ints .i64], pb := [.box [.arr 1], .ints .u8 false], rs := [], rb := [.box [.arr 1], .ints .u8 false] }, ann := { calls := [(16, 65)], loops := [(1, { tm := [(10, .int .i64)], bs := [.box [.arr 1], .ints .u8 false] }, [(.exit 0, { tm := [], bs := [.box [.arr 1], .ints .u8 false] })])], joins := [], cuts := [] } },
  { fid := 41, sig := { ps := [.ptr 0 0, .ints .i64], pb := [.box [.arr 1], .ints .u8 false], rs := [], rb := [.box [.arr 1], .ints .u8 false] }, ann := { calls := [], loops := [(1, { tm := [(8, .int .i64)], bs := [.box [.arr 1], .ints .u8 false] }, [(.exit 0, { tm := [], bs := [.box [.arr 1], .ints .u8 false] })])], joins := [], cuts := [] } },
  { fid := 42, sig := { ps := [.int .i64, .int .i64], pb := [], rs := [.bool], rb := [] }, ann := { calls := [], loops := [], joins := [], cuts := [] } },
  { fid := 44, sig := { ps := [.int .i64], pb := [], rs := [.ints .u8], rb := [] }, ann := { calls := [(7, 66)], loops := [], joins := [], cuts := [] } },
  { fid := 43, sig := { ps := [.rows 2], pb := [], rs := [.ints .u8], rb := [] }, ann := { calls := [], loops := [(3, { tm := [(3, .arr 0), (4, .int .i64)], bs := [.ints .u8 false] }, [(.exit 0, { tm := [(3, .arr 0)], bs := [.ints .u8 false] })])], joins := [], cuts := [] } },
  { fid := 45, sig := { ps := [.rows 0, .int .i64], pb := [], rs := [.int .i64, .int .i64, .bool], rb := [] }, ann := { calls := [(32, 42)], loops := [(2, { tm := [(4, .int .i64), (5, .int .i64), (6, .bool), (14, .int .i64)], bs := [] }, [(.exit 0, { tm := [(4, .int .i64), (5, .int .i64), (6, .bool)], bs := [] })])], joins := [], cuts := [] } },
  { fid := 46, sig := { ps := [.rows 0], pb := [], rs := [.bool], rb := [] }, ann := { calls := [(6, 67)], loops := [], joins := [], cuts := [] } },
  { fid := 47, sig := { ps := [.agg [.str, .str, .ints .u8, .rows 0]], pb := [], rs := [.int .i64], rb := [] }, ann := { calls := [(4, 68)], loops := [], joins := [], cuts := [] } },
  { fid := 48, sig := { ps := [.arr 0, .agg [.str, .str, .ints .u8, .rows 0]], pb := [.ints .u8 false], rs := [.arr 0], rb := [.ints .u8 false] }, ann := { calls := [(9, 68), (44, 45)], loops := [(7, { tm := [(0, .arr 0), (38, .int .i64)], bs := [.ints .u8 false, .same, .same] }, [(.exit 0, { tm := [(0, .arr 0)], bs := [.ints .u8 false, .same, .same] })])], joins := [(61, [(.normal, { tm := [(0, .arr 0)], bs := [.ints .u8 false, .same, .same] })])], cuts := [] } },
  { fid := 49, sig := { ps := [.rows 0], pb := [], rs := [.bool], rb := [] }, ann := { calls := [(14, 69), (19, 70)], loops := [(2, { tm := [(9, .int .i64)], bs := [] }, [(.exit 0, { tm := [], bs := [] }), (.ret, { tm := [(2, .bool)], bs := [] })])], joins := [], cuts := [] } },
  { fid := 50, sig := { ps := [.agg [.str, .str, .ints .u8, .rows 0]], pb := [], rs := [.int .i64], rb := [] }, ann := { calls := [(21, 47)], loops := [(5, { tm := [(3, .int .i64), (15, .int .i64)], bs := [.same] }, [(.exit 0, { tm := [(3, .int .i64)], bs := [.same] })])], joins := [(23, [(.normal, { tm := [(3, .int .i64)], bs := [.same] })])], cuts := [] } },
  { fid := 51, sig := { ps := [.rows 0], pb := [], rs := [.ints .u8], rb := [] }, ann := { calls := [(24, 48)], loops := [(3, { tm := [(3, .arr 0), (10, .int .i64)], bs := [.ints .u8 false] }, [(.exit 0, { tm := [(3, .arr 0)], bs := [.ints .u8 false] })])], joins := [(37, [(.normal, { tm := [(6, .ints .u8)], bs := [.same, .same] })])], cuts := [] } },
  { fid := 52, sig := { ps := [.rows 0, .rows 0, .fn 53 []], pb := [], rs := [.bool], rb := [] }, ann := { calls := [(29, 71)], loops := [(4, { tm := [(17, .int .i64)], bs := [] }, [(.exit 0, { tm := [], bs := [] }), (.ret, { tm := [(6, .bool)], bs := [] })])], joins := [], cuts := [] } },
  { fid := 55, sig := { ps := [.agg [.str, .str, .ints .u8, .rows 0], .agg [.str, .str, .ints .u8, .rows 0]], pb := [], rs := [.bool], rb := [] }, ann := { calls := [(31, 21)], loops := [], joins := [], cuts := [] } },
  { fid := 56, sig := { ps := [.rows 0, .fn 57 [.ptr 0 0]], pb := [.box [.str]], rs := [.int .i64], rb := [.box [.str]] }, ann := { calls := [(16, 72)], loops := [(2, { tm := [(8, .int .i64)], bs := [.box [.str]] }, [(.exit 0, { tm := [], bs := [.box [.str]] }), (.ret, { tm := [(4, .int .i64)], bs := [.box [.str]] })])], joins := [], cuts := [] } },
  { fid := 59, sig := { ps := [.agg [.str, .str, .ints .u8, .rows 0]], pb := [], rs := [.agg [.str, .str, .ints .u8, .rows 0]], rb := [] }, ann := { calls := [(8, 57), (19, 52)], loops := [(4, { tm := [(3, .arr 2), (13, .int .i64)], bs := [.same, .same, .rows 0 false] }, [(.exit 0, { tm := [(3, .arr 2)], bs := [.same, .same, .rows 0 false] })])], joins := [], cuts := [] } },
  { fid := 60, sig := { ps := [.agg [.str, .str, .ints .u8, .rows 0]], pb := [], rs := [.str], rb := [] }, ann := { calls := [], loops := [], joins := [], cuts := [] } },
  { fid := 61, sig := { ps := [.rows 0, .str], pb := [], rs := [.rows 0], rb := [] }, ann := { calls := [(22, 54), (29, 52)], loops := [(3, { tm := [(5, .arr 0), (10, .int .i64)], bs := [.rows 0 false] }, [(.exit 0, { tm := [(5, .arr 0)], bs := [.rows 0 false] })])], joins := [], cuts := [] } },
  { fid := 62, sig := { ps := [.rows 0, .str], pb := [], rs := [.rows 0], rb := [] }, ann := { calls := [(30, 55)], loops := [(3, { tm := [(5, .arr 0), (10, .int .i64)], bs := [.rows 0 false] }, [(.exit 0, { tm := [(5, .arr 0)], bs := [.rows 0 false] })])], joins := [(10, [(.normal, { tm := [(21, .bool)], bs := [.same, .same] })]), (43, [(.normal, { tm := [(5, .arr 0)], bs := [.rows 0 false, .same] })])], cuts := [] } },
  { fid := 63, sig := { ps := [.str], pb := [], rs := [.bool], rb := [] }, ann := { calls := [(4, 73)], loops := [], joins := [], cuts := [] } },
  { fid := 64, sig := { ps := [.ints .u8], pb := [], rs := [.ints .u8], rb := [] }, ann := { calls := [], loops := [], joins := [], cuts := [] } },
  { fid := 56, sig := { ps := [.rows 0, .fn 65 [.ptr 0 0]], pb := [.box [.str]], rs := [.int .i64], rb := [.box [.str]] }, ann := { calls := [(16, 74)], loops := [(2, { tm := [(8, .int .i64)], bs := [.box [.str]] }, [(.exit 0, { tm := [], bs := [.box [.str]] }), (.ret, { tm := [(4, .int .i64)], bs := [.box [.str]] })])], joins := [], cuts := [] } },
  { fid := 66, sig := { ps := [.str], pb := [], rs := [.bool], rb := [] }, ann := { calls := [], loops := [(4, { tm := [(3, .int .i64)], bs := [] }, [(.exit 0, { tm := [], bs := [] }), (.ret, { tm := [(2, .bool)], bs := [] })])], joins := [], cuts := [] } },
  { fid := 67, sig := { ps := [.ptr 0 0, .int .i64, .int .i64, .int .i64], pb := [.box [.ints .u8, .int .i64, .int .i64, .int .i64]], rs := [.rows 0], rb := [.box [.ints .u8, .int .i64, .int .i64, .int .i64]] }, ann := { calls := [(26, 62)], loops := [(2, { tm := [(1, .int .i64), (9, .arr 1)], bs := [.box [.ints .u8, .int .i64, .int .i64, .int .i64], .rows 0 false] }, [(.exit 0, { tm := [(9, .arr 1)], bs := [.box [.ints .u8, .int .i64, .int .i64, .int .i64], .rows 0 false] })])], joins := [(4, [(.normal, { tm := [(20, .bool)], bs := [.same, .same] })])], cuts := [] } },
  { fid := 68, sig := { ps := [.ptr 0 0, .int .i64, .int .i64, .int .i64], pb := [.box [.ints .u8, .int .i64]], rs := [.rows 0, .int .i64, .int .i64], rb := [.box [.ints .u8, .int .i64]] }, ann := { calls := [(23, 63)], loops := [(2, { tm := [(1, .int .i64), (11, .arr 1)], bs := [.box [.ints .u8, .int .i64], .rows 0 false] }, [(.exit 0, { tm := [(1, .int .i64), (11, .arr 1)], bs := [.box [.ints .u8, .int .i64], .rows 0 false] }), (.ret, { tm := [(8, .rows 0), (9, .int .i64), (10, .int .i64)], bs := [.box [.ints .u8, .int .i64]] })])], joins := [], cuts := [] } },
  { fid := 69, sig := { ps := [.ptr 0 0, .int .i64, .int .i64, .int .i64], pb := [.box [.ints .u8, .int .i64, .int .i64, .int .i64]], rs := [.agg [.str, .str, .ints .u8, .rows 0], .int .i64], rb := [.box [.ints .u8, .int .i64, .int .i64, .int .i64]] }, ann := { calls := [(17, 75), (37, 76), (47, 76), (82, 76), (95, 77), (103, 60), (112, 57), (123, 76), (135, 76)], loops := [(7, { tm := [(10, .int .i64), (62, .int .i64)], bs := [.same, .same] }, [(.exit 0, { tm := [(10, .int .i64)], bs := [.same, .same] })])], joins := [(6, [(.normal, { tm := [(49, .bool)], bs := [.box [.ints .u8, .int .i64, .int .i64, .int .i64], .same] })]), (38, [(.normal, { tm := [(124, .bool)], bs := [.box [.ints .u8, .int .i64, .int .i64, .int .i64], .same] })]), (183, [(.normal, { tm := [], bs := [.box [.ints .u8, .int .i64, .int .i64, .int .i64], .box [.str, .str, .ints .u8, .rows 0]] })])], cuts := [] } },
  { fid := 70, sig := { ps := [.ptr 0 0, .int .i64, .int .i64, .int .i64], pb := [.box [.ints .u8, .int .i64]], rs := [.agg [.str, .str, .ints .u8, .rows 0], .int .i64, .int .i64], rb := [.box [.ints .u8, .int .i64]] }, ann := { calls := [(22, 78), (95, 78), (118, 61)], loops := [(11, { tm := [(13, .int .i64), (14, .int .i64)], bs := [.same, .same] }, [(.exit 0, { tm := [(13, .int .i64)], bs := [.same, .same] })])], joins := [(8, [(.normal, { tm := [(38, .bool)], bs := [.same, .same] })]), (40, [(.normal, { tm := [(105, .bool)], bs := [.same, .same, .same] })]), (181, [(.normal, { tm := [], bs := [.box [.ints .u8, .int .i64], .box [.str, .str, .ints .u8, .rows 0], .box [.str, .str, .arr 3, .rows 0], .ints .u8 false] }), (.ret, { tm := [(9, .int .i64), (10, .int .i64)], bs := [.box [.ints .u8, .int .i64], .box [.str, .str, .ints .u8, .rows 0], .box [.str, .str, .ints .u8, .rows 0]] })]), (211, [(.normal, { tm := [(12, .int .i64)], bs := [.same, .same, .same] })])], cuts := [] } },
  { fid := 71, sig := { ps := [.int .i64, .int .i64], pb := [], rs := [.agg [.int .i64, .int .i64, .arr 0], .int .i64], rb := [.ints .u8 false] }, ann := { calls := [(8, 79)], loops := [], joins := [], cuts := [] } },
  { fid := 72, sig := { ps := [.int .i64], pb := [], rs := [.ints .u8, .int .i64], rb := [] }, ann := { calls := [], loops := [(5, { tm := [(0, .int .i64), (4, .arr 1)], bs := [.gone, .ints .u8 false] }, [(.exit 0, { tm := [(4, .arr 1)], bs := [.gone, .ints .u8 false] })])], joins := [(2, [(.normal, { tm := [(10, .bool)], bs := [] })])], cuts := [] } },
  { fid := 73, sig := { ps := [.int .i64], pb := [], rs := [.ints .u8, .int .i64], rb := [] }, ann := { calls := [], loops := [(5, { tm := [(0, .int .i64), (4, .arr 1)], bs := [.gone, .ints .u8 false] }, [(.exit 0, { tm := [(4, .arr 1)], bs := [.gone, .ints .u8 false] })])], joins := [(2, [(.normal, { tm := [(10, .bool)], bs := [] })])], cuts := [] } },
  { fid := 74, sig := { ps := [.ptr 0 0, .rows 0, .int .i64], pb := [.box [.int .i64]], rs := [.bool], rb := [.box [.int .i64]] }, ann := { calls := [(34, 73), (42, 56), (56, 67)], loops := [(2, { tm := [(11, .int .i64)], bs := [.box [.int .i64]] }, [(.exit 0, { tm := [], bs := [.box [.int .i64]] }), (.ret, { tm := [(6, .bool)], bs := [.box [.int .i64]] })])], joins := [(10, [(.normal, { tm := [(36, .bool)], bs := [.same, .same] })])], cuts := [] } },
  { fid := 75, sig := { ps := [.agg [.str, .str, .ints .u8, .rows 0]], pb := [], rs := [.int .i64], rb := [] }, ann := { calls := [(21, 44)], loops := [(5, { tm := [(3, .int .i64), (15, .int .i64)], bs := [.same] }, [(.exit 0, { tm := [(3, .int .i64)], bs := [.same] })])], joins := [], cuts := [] } },
  { fid := 76, sig := { ps := [.agg [.str, .str, .ints .u8, .rows 0]], pb := [], rs := [.bool], rb := [] }, ann := { calls := [(7, 59), (23, 59), (44, 69)], loops := [(8, { tm := [(39, .int .i64)], bs := [.same] }, [(.exit 0, { tm := [], bs := [.same] }), (.ret, { tm := [(2, .bool)], bs := [.same] })])], joins := [(8, [(.normal, { tm := [(2, .bool)], bs := [.same] })]), (10, [(.normal, { tm := [(35, .bool)], bs := [.same] })])], cuts := [] } },
  { fid := 77, sig := { ps := [.rows 0], pb := [], rs := [.int .i64, .int .i64], rb := [] }, ann := { calls := [(17, 70)], loops := [(2, { tm := [(2, .int .i64), (3, .int .i64), (10, .int .i64)], bs := [] }, [(.exit 0, { tm := [(2, .int .i64), (3, .int .i64)], bs := [] })])], joins := [], cuts := [] } },
  { fid := 53, sig := { ps := [.agg [.str, .str, .ints .u8, .rows 0], .agg [.str, .str, .ints .u8, .rows 0]], pb := [], rs := [.bool], rb := [] }, ann := { calls := [(22, 80), (29, 20)], loops := [], joins := [], cuts := [] } },
  { fid := 57, sig := { ps := [.agg [.str, .str, .ints .u8, .rows 0], .ptr 0 0], pb := [.box [.str]], rs := [.bool], rb := [.box [.str]] }, ann := { calls := [(5, 81)], loops := [], joins := [], cuts := [] } },
  { fid := 78, sig := { ps := [.str], pb := [], rs := [.bool], rb := [] }, ann := { calls := [], loops := [(4, { tm := [(8, .int .i64)], bs := [] }, [(.exit 0, { tm := [], bs := [] }), (.ret, { tm := [(2, .bool)], bs := [] })])], joins := [], cuts := [] } },
  { fid := 65, sig := { ps := [.agg [.str, .str, .ints .u8, .rows 0], .ptr 0 0], pb := [.box [.str]], rs := [.bool], rb := [.box [.str]] }, ann := { calls := [], loops := [], joins := [], cuts := [] } },
  { fid := 79, sig := { ps := [.ptr 0 0, .int .i64, .int .i64, .fn 78 []], pb := [.box [.ints .u8, .int .i64, .int .i64, .int .i64]], rs := [.str], rb := [.box [.ints .u8, .int .i64, .int .i64, .int .i64]] }, ann := { calls := [(16, 76), (30, 73), (32, 76)], loops := [], joins := [], cuts := [] } },
  { fid := 80, sig := { ps := [.ptr 0 0, .bool, .int .i64, .int .i64], pb := [.box [.ints .u8, .int .i64, .int .i64, .int .i64]], rs := [.bool], rb := [.box [.ints .u8, .int .i64, .int .i64, .int .i64]] }, ann := { calls := [], loops := [], joins := [(2, [(.normal, { tm := [(17, .bool)], bs := [.same] })])], cuts := [] } },
  { fid := 79, sig := { ps := [.ptr 0 0, .int .i64, .int .i64, .fn 63 []], pb := [.box [.ints .u8, .int .i64, .int .i64, .int .i64]], rs := [.str], rb := [.box [.ints .u8, .int .i64, .int .i64, .int .i64]] }, ann := { calls := [(16, 76), (30, 56), (32, 76)], loops := [], joins := [], cuts := [] } },
  { fid := 81, sig := { ps := [.ptr 0 0, .int .i64, .int .i64], pb := [.box [.ints .u8, .int .i64]], rs := [.str, .int .i64], rb := [.box [.ints .u8, .int .i64]] }, ann := { calls := [(23, 59)], loops := [], joins := [], cuts := [] } },
  { fid := 82, sig := { ps := [.int .i64, .int .i64], pb := [], rs := [.bool], rb := [] }, ann := { calls := [], loops := [], joins := [], cuts := [] } },
  { fid := 54, sig := { ps := [.ints .u8, .ints .u8], pb := [], rs := [.bool], rb := [] }, ann := { calls := [], loops := [], joins := [], cuts := [] } },
  { fid := 58, sig := { ps := [.agg [.str, .str, .ints .u8, .rows 0]], pb := [], rs := [.str], rb := [] }, ann := { calls := [], loops := [], joins := [], cuts := [] } }]
noncomputable def G : Prg := { P := Try.prog, E := E, el := fun t => lookN t els, F := fun i => (getL insts i).getD { fid := 0, sig := { ps := [], pb := [], rs := [], rb := [] }, ann := { calls := [], loops := [], joins := [], cuts := [] } } }
theorem inn0_ok : ∀ {l : List (PV TT)} {x : Chunk}, inn0 l = some x → Sames (E := E) l (outs0 x)
  | [], _, h => by cases h
  | [_], _, h => by cases h
  | [_, _], _, h => by cases h
  | [_, _, _], _, h => by cases h
  | [_, _, _, _], _, h => by
    simp only [inn0] at h
    obtain ⟨y0, h0, h⟩ := Option.bind_eq_some_iff.1 h; obtain ⟨y1, h1, h⟩ := Option.bind_eq_some_iff.1 h; obtain ⟨y2, h2, h⟩ := Option.bind_eq_some_iff.1 h; obtain ⟨y3, h3, h⟩ := Option.bind_eq_some_iff.1 h; cases h; exact .cons (asStr_same h0) (.cons (asStr_same h1) (.cons (asInts_same h2) (.cons (asRows_same h3) (.nil))))
  | _ :: _ :: _ :: _ :: _ :: _, _, h => by cases h
theorem inn1_ok : ∀ {l : List (PV TT)} {x : List Int}, inn1 l = some x → Sames (E := E) l (outs1 x)
  | [], _, h => by cases h
  | [_], _, h => by
    simp only [inn1] at h
    obtain ⟨y0, h0, h⟩ := Option.bind_eq_some_iff.1 h; cases h; exact .cons (asStr_same h0) (.nil)
  | _ :: _ :: _, _, h => by cases h
theorem inn2_ok : ∀ {l : List (PV TT)} {x : List Int}, inn2 l = some x → Sames (E := E) l (outs2 x)
  | [], _, h => by cases h
  | [_], _, h => by
    simp only [inn2] at h
    obtain ⟨y0, h0, h⟩ := Option.bind_eq_some_iff.1 h; cases h; exact .cons (asInts_same h0) (.nil)
  | _ :: _ :: _, _, h => by cases h
theorem envOk : EnvOk E := by
  refine EnvOk.of ?_ ?_ ?_
  · intro i l x h
    match i, x, h with
    | 0, x, h => exact inn0_ok h
    | 1, x, h => exact inn1_ok h
    | 2, x, h => exact inn2_ok h
    | i + 3, x, h => cases h
  · intro i x
    match i, x with
    | 0, x => rfl
    | 1, x => rfl
    | 2, x => rfl
    | i + 3, x => rfl
  · intro i x p hf hp
    match i, x with
    | 0, x => exact absurd hf (by decide)
    | 1, x => exact flat_cons (.inr (.inr ⟨_, rfl⟩)) (flat_nil) p hp
    | 2, x => exact absurd hf (by decide)
    | i + 3, x => exact absurd hf (by simp [E, getL])

theorem elsOk : els.all (okEl G) = true := by kernel_rfl
theorem prgOk : PrgOk G := .of envOk els (fun _ => rfl) elsOk (by kernel_rfl)
mutual
noncomputable def bulk0 : Chunk → Nat
  | .mk id kind data kids => (id.length + 1) + ((kind.length + 1) + ((data.length + 1) + ((bulkL0 kids + 1) + 0)))
noncomputable def bulkL0 : List Chunk → Nat
  | [] => 0
  | x :: l => bulk0 x + bulkL0 l
end
noncomputable def bulk1 (x : List Int) : Nat := (x.length + 1) + 0
noncomputable def bulk2 (x : List Int) : Nat := (x.length + 1) + 0
noncomputable def bulk : (i : Nat) → TT i → Nat
  | 0, x => bulk0 x
  | 1, x => bulk1 x
  | 2, x => bulk2 x
  | _, _ => 0
theorem bulkL0_eq : ∀ l : List Chunk, bulkL0 l = sumL bulk0 l
  | [] => by simp only [bulkL0, sumL]
  | x :: l => by simp only [bulkL0, sumL, bulkL0_eq l]
theorem bulk0_eq : ∀ x : Chunk, bulk0 x = bulkPs bulk (outs0 x)
  | .mk id kind data kids => by have e3 := sumB_eq (b := bulk) (i := 0) (f := bulk0) (fun _ => rfl) kids; simp only [bulk0, outs0, bulkPs, bulkP, bulkL0_eq, e3] <;> rfl
theorem bulk1_eq (x : List Int) : bulk1 x = bulkPs bulk (outs1 x) := by simp only [bulk1, outs1, bulkPs, bulkP] <;> rfl
theorem bulk2_eq (x : List Int) : bulk2 x = bulkPs bulk (outs2 x) := by simp only [bulk2, outs2, bulkPs, bulkP] <;> rfl
theorem rowsOk : RowsOk G bulk where
  bulk i x := by
    match i, x with
    | 0, x => exact bulk0_eq x
    | 1, x => exact bulk1_eq x
    | 2, x => exact bulk2_eq x
    | i + 3, x => rfl
  int e k h := ⟨(prgOk.int e k h).1, okEl_cells elsOk h⟩
  row e i h := by
    have hc := okEl_cells elsOk h
    have hm := lookN_mem h
    simp only [els, List.mem_cons, List.not_mem_nil, or_false, Prod.mk.injEq, reduceCtorEq, and_false, false_or, EK.row.injEq] at hm
    rcases hm with ⟨rfl, rfl⟩ | ⟨rfl, rfl⟩ | ⟨rfl, rfl⟩
    · refine ⟨8, [.str], by kernel_rfl, hc, by decide, fun ps h => ?_⟩
      obtain ⟨y0, r0, rfl, h0⟩ := fits_str h; cases fits_nil h0; exact ⟨y0, rfl⟩
    · refine ⟨8, [.ints .u8], by kernel_rfl, hc, by decide, fun ps h => ?_⟩
      obtain ⟨y0, r0, rfl, h0⟩ := fits_ints h; cases fits_nil h0; exact ⟨y0, rfl⟩
    · refine ⟨8, [.str, .str, .ints .u8, .rows 0], by kernel_rfl, hc, by decide, fun ps h => ?_⟩
      obtain ⟨y0, r0, rfl, h0⟩ := fits_str h; obtain ⟨y1, r1, rfl, h1⟩ := fits_str h0; obtain ⟨y2, r2, rfl, h2⟩ := fits_ints h1; obtain ⟨y3, r3, rfl, h3⟩ := fits_rows h2; cases fits_nil h3; exact ⟨⟨y0, y1, y2, y3⟩, rfl⟩

noncomputable def law13_PageInfos (in1 : Int) (in2 : Int) (in3 : Int) (in4 : Int) (in5 : Int) : Option Bool := call G 0 (in1, in2, in3, in4, in5)
noncomputable def law26_ChunkTogether (l1 : List Chunk) (k2 : List Chunk) : Option Bool := call G 1 (l1, k2)
noncomputable def law26_ChunkPuts (l1 : List Chunk) (other2 : List Chunk) : Option Bool := call G 2 (l1, other2)
noncomputable def law26_ChunkFinds (l1 : List Chunk) (path2 : List (List Int)) (id3 : List Int) : Option Bool := call G 3 (l1, path2, id3)
noncomputable def law26_ChunkReplaces (l1 : List Chunk) (id2 : List Int) (data3 : List Int) : Option Bool := call G 4 (l1, id2, data3)
noncomputable def law26_ChunkGets (b1 : List Int) : Option Bool := call G 5 b1
noncomputable def law26_ChunkAgain (b1 : List Int) : Option Bool := call G 6 b1
noncomputable def law26_ChunkHeals (b1 : List Int) : Option Bool := call G 7 b1
noncomputable def law26_ChunkBack (l1 : List Chunk) : Option Bool := call G 8 l1
noncomputable def page_Info (w1 : Int) (h2 : Int) (pixel3 : Int) (op4 : Int) : Option ((List Int) × Int) := call G 9 (w1, h2, pixel3, op4)
noncomputable def ref13_Info (w1 : Int) (h2 : Int) (pixel3 : Int) (op4 : Int) : Option ((List Int) × Int) := call G 10 (w1, h2, pixel3, op4)
noncomputable def page_Stripe (y1 : Int) : Option ((List Int) × Int) := call G 11 y1
noncomputable def ref13_Stripe (y1 : Int) : Option ((List Int) × Int) := call G 12 y1
noncomputable def ref01_SameBytes (a1 : List Int) (b2 : List Int) : Option Bool := call G 13 (a1, b2)
noncomputable def law13_Sane : Option Bool := call G 14 ()
noncomputable def law26_large (l1 : List Chunk) : Option Bool := call G 15 l1
noncomputable def law26_Awake : Option Bool := call G 16 ()
noncomputable def chunk_Put (l1 : List Chunk) : Option ((List Int) × Int) := call G 17 l1
noncomputable def ref02_SameBytes (a1 : List Int) (b2 : List Int) : Option Bool := call G 18 (a1, b2)
noncomputable def ref26_Put (l1 : List Chunk) : Option ((List Int) × Int) := call G 19 l1
noncomputable def chunk_Same (a1 : List Chunk) (b2 : List Chunk) : Option Bool := call G 20 (a1, b2)
noncomputable def ref26_Same (a1 : List Chunk) (b2 : List Chunk) : Option Bool := call G 21 (a1, b2)
noncomputable def chunk_Size (c1 : List Int) (c2 : List Int) (c3 : List Int) (c4 : List Chunk) : Option (Int × Int) := call G 22 (c1, c2, c3, c4)
noncomputable def ref26_Size (c1 : List Int) (c2 : List Int) (c3 : List Int) (c4 : List Chunk) : Option (Int × Int) := call G 23 (c1, c2, c3, c4)
noncomputable def chunk_Valid (c1 : List Int) (c2 : List Int) (c3 : List Int) (c4 : List Chunk) : Option Bool := call G 24 (c1, c2, c3, c4)
noncomputable def ref26_Valid (c1 : List Int) (c2 : List Int) (c3 : List Int) (c4 : List Chunk) : Option Bool := call G 25 (c1, c2, c3, c4)
noncomputable def chunk_Find (l1 : List Chunk) (path2 : List (List Int)) : Option ((List Int) × (List Int) × (List Int) × (List Chunk) × Int) := call G 26 (l1, path2)
noncomputable def ref26_Find (l1 : List Chunk) (path2 : List (List Int)) : Option ((List Int) × (List Int) × (List Int) × (List Chunk) × Int) := call G 27 (l1, path2)
noncomputable def chunk_All (l1 : List Chunk) (id2 : List Int) : Option ((List Chunk) × Int) := call G 28 (l1, id2)
noncomputable def ref26_All (l1 : List Chunk) (id2 : List Int) : Option ((List Chunk) × Int) := call G 29 (l1, id2)
noncomputable def chunk_Replace (l1 : List Chunk) (id2 : List Int) (data3 : List Int) : Option ((List Chunk) × Int) := call G 30 (l1, id2, data3)
noncomputable def ref26_Replace (l1 : List Chunk) (id2 : List Int) (data3 : List Int) : Option ((List Chunk) × Int) := call G 31 (l1, id2, data3)
noncomputable def chunk_Get (b1 : List Int) : Option ((List Chunk) × Int × Int) := call G 32 b1
noncomputable def ref26_Get (b1 : List Int) : Option ((List Chunk) × Int × Int) := call G 33 b1
noncomputable def chunk_Heal (b1 : List Int) : Option ((List Chunk) × Int) := call G 34 b1
noncomputable def ref26_Heal (b1 : List Int) : Option ((List Chunk) × Int) := call G 35 b1
noncomputable def bitmap_New (w1 : Int) (h2 : Int) (pixel3 : Int) : Option (Int × Int × (List Int) × Int) := call G 36 (w1, h2, pixel3)
noncomputable def page_writer_size (l1 : List Int) (b2 : List Int) : Option (List Int) := call G 37 (l1, b2)
noncomputable def page_writer_byte (l1 : List Int) (b2 : List Int) : Option (List Int) := call G 38 (l1, b2)
noncomputable def ref05_Sides (w1 : Int) (h2 : Int) : Option Bool := call G 39 (w1, h2)
noncomputable def ref13_size (n1 : Int) : Option (List Int) := call G 40 n1
noncomputable def ref13_join (l1 : List (List Int)) : Option (List Int) := call G 41 l1
noncomputable def law26_weight (l1 : List Chunk) (most2 : Int) : Option (Int × Int × Bool) := call G 42 (l1, most2)
noncomputable def chunk_valid (l1 : List Chunk) : Option Bool := call G 43 l1
noncomputable def chunk_size (c1 : List Int) (c2 : List Int) (c3 : List Int) (c4 : List Chunk) : Option Int := call G 44 (c1, c2, c3, c4)
noncomputable def chunk_put (c1 : List Int) (c2 : List Int) (c3 : List Int) (c4 : List Chunk) (b5 : List Int) : Option (List Int) := call G 45 (c1, c2, c3, c4, b5)
noncomputable def ref26_ValidList (l1 : List Chunk) : Option Bool := call G 46 l1
noncomputable def ref26_size (c1 : List Int) (c2 : List Int) (c3 : List Int) (c4 : List Chunk) : Option Int := call G 47 (c1, c2, c3, c4)
noncomputable def ref26_bytes (l1 : List Chunk) : Option (List Int) := call G 48 l1
noncomputable def slices_EqualFunc_api_Chunk_api_Chunk_api_Chunk_api_Chunk (s1 : List Chunk) (s2 : List Chunk) : Option Bool := call G 49 (s1, s2)
noncomputable def ref26_same (a1 : List Int) (a2 : List Int) (a3 : List Int) (a4 : List Chunk) (b5 : List Int) (b6 : List Int) (b7 : List Int) (b8 : List Chunk) : Option Bool := call G 50 (a1, a2, a3, a4, b5, b6, b7, b8)
noncomputable def slices_IndexFunc_api_Chunk_api_Chunk (s1 : List Chunk) (b2 : List Int) : Option (Int × (List Int)) := call G 51 (s1, b2)
noncomputable def chunk_clone (c1 : List Int) (c2 : List Int) (c3 : List Int) (c4 : List Chunk) : Option ((List Int) × (List Int) × (List Int) × (List Chunk)) := call G 52 (c1, c2, c3, c4)
noncomputable def ref26_name (c1 : List Int) (c2 : List Int) (c3 : List Int) (c4 : List Chunk) : Option (List Int) := call G 53 (c1, c2, c3, c4)
noncomputable def chunk_all (l1 : List Chunk) (id2 : List Int) : Option (List Chunk) := call G 54 (l1, id2)
noncomputable def ref26_all (l1 : List Chunk) (id2 : List Int) : Option (List Chunk) := call G 55 (l1, id2)
noncomputable def chunk_isKind (s1 : List Int) : Option Bool := call G 56 s1
noncomputable def bytes_Clone (b1 : List Int) : Option (List Int) := call G 57 b1
noncomputable def slices_IndexFunc_api_Chunk_api_Chunk_2 (s1 : List Chunk) (b2 : List Int) : Option (Int × (List Int)) := call G 58 (s1, b2)
noncomputable def ref26_IsId (s1 : List Int) : Option Bool := call G 59 s1
noncomputable def chunk_reader_list (at1 : Int) (end2 : Int) (depth3 : Int) (b4 : List Int) (b5 : Int) (b6 : Int) (b7 : Int) : Option ((List Chunk) × (List Int) × Int × Int × Int) := call G 60 (at1, end2, depth3, b4, b5, b6, b7)
noncomputable def ref26_reader_list (at1 : Int) (end2 : Int) (deep3 : Int) (b4 : List Int) (b5 : Int) : Option ((List Chunk) × Int × Int × (List Int) × Int) := call G 61 (at1, end2, deep3, b4, b5)
noncomputable def chunk_reader_chunk (at1 : Int) (end2 : Int) (depth3 : Int) (b4 : List Int) (b5 : Int) (b6 : Int) (b7 : Int) : Option ((List Int) × (List Int) × (List Int) × (List Chunk) × Int × (List Int) × Int × Int × Int) := call G 62 (at1, end2, depth3, b4, b5, b6, b7)
noncomputable def ref26_reader_chunk (at1 : Int) (end2 : Int) (deep3 : Int) (b4 : List Int) (b5 : Int) : Option ((List Int) × (List Int) × (List Int) × (List Chunk) × Int × Int × (List Int) × Int) := call G 63 (at1, end2, deep3, b4, b5)
noncomputable def bitmap_blank (w1 : Int) (h2 : Int) : Option (Int × Int × Int × (List Int)) := call G 64 (w1, h2)
noncomputable def bits_Size (n1 : Int) : Option ((List Int) × Int) := call G 65 n1
noncomputable def ref01_Size (n1 : Int) : Option ((List Int) × Int) := call G 66 n1
noncomputable def chunk_looks_right (l1 : List Chunk) (depth2 : Int) (b3 : Int) : Option (Bool × Int) := call G 67 (l1, depth2, b3)
noncomputable def chunk_length (c1 : List Int) (c2 : List Int) (c3 : List Int) (c4 : List Chunk) : Option Int := call G 68 (c1, c2, c3, c4)
noncomputable def ref26_single (c1 : List Int) (c2 : List Int) (c3 : List Int) (c4 : List Chunk) : Option Bool := call G 69 (c1, c2, c3, c4)
noncomputable def ref26_count (l1 : List Chunk) : Option (Int × Int) := call G 70 l1
noncomputable def chunk_Same_1 (x1 : List Int) (x2 : List Int) (x3 : List Int) (x4 : List Chunk) (y5 : List Int) (y6 : List Int) (y7 : List Int) (y8 : List Chunk) : Option Bool := call G 71 (x1, x2, x3, x4, y5, y6, y7, y8)
noncomputable def chunk_Find_1 (c1 : List Int) (c2 : List Int) (c3 : List Int) (c4 : List Chunk) (b5 : List Int) : Option (Bool × (List Int)) := call G 72 (c1, c2, c3, c4, b5)
noncomputable def chunk_isId (s1 : List Int) : Option Bool := call G 73 s1
noncomputable def chunk_Replace_1 (c1 : List Int) (c2 : List Int) (c3 : List Int) (c4 : List Chunk) (b5 : List Int) : Option (Bool × (List Int)) := call G 74 (c1, c2, c3, c4, b5)
noncomputable def chunk_reader_id (at1 : Int) (end2 : Int) (b3 : List Int) (b4 : Int) (b5 : Int) (b6 : Int) : Option ((List Int) × (List Int) × Int × Int × Int) := call G 75 (at1, end2, b3, b4, b5, b6)
noncomputable def chunk_reader_fail (ok1 : Bool) (err2 : Int) (at3 : Int) (b4 : List Int) (b5 : Int) (b6 : Int) (b7 : Int) : Option (Bool × (List Int) × Int × Int × Int) := call G 76 (ok1, err2, at3, b4, b5, b6, b7)
noncomputable def chunk_reader_id_2 (at1 : Int) (end2 : Int) (b3 : List Int) (b4 : Int) (b5 : Int) (b6 : Int) : Option ((List Int) × (List Int) × Int × Int × Int) := call G 77 (at1, end2, b3, b4, b5, b6)
noncomputable def ref26_reader_id (at1 : Int) (end2 : Int) (b3 : List Int) (b4 : Int) : Option ((List Int) × Int × (List Int) × Int) := call G 78 (at1, end2, b3, b4)
noncomputable def bitmap_fits (w1 : Int) (h2 : Int) : Option Bool := call G 79 (w1, h2)
noncomputable def bytes_Equal (a1 : List Int) (b2 : List Int) : Option Bool := call G 80 (a1, b2)
noncomputable def chunk_name (c1 : List Int) (c2 : List Int) (c3 : List Int) (c4 : List Chunk) : Option (List Int) := call G 81 (c1, c2, c3, c4)
end
end Go.Proofs.Ytjabpjkomgakbaa.P
