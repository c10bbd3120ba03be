/-
  What the tables of the seat say, as rules. Printed by a program (gen2.py).
-/
import Derived.Test.YtjnmgfmogganlaaGreatDoorPuEnv
import Derived.Test.YtjnmgfmogganlaaGreatDoorPuB1
set_option linter.unusedSimpArgs false
set_option linter.unusedVariables false
namespace Go.Proofs.YtjnmgfmogganlaaGreatDoor
open Go.Pu
set_option maxRecDepth 100000
@[go_sem] theorem kd_1 : (E.ty 1).kd = .func := by kernel_rfl
@[go_sem] theorem ok_1 : (E.ty 1).ok = true := by kernel_rfl
@[go_sem] theorem sz_1 : (E.ty 1).size = 1 := by kernel_rfl
@[go_sem] theorem ag_1 : (E.ty 1).agg = false := by kernel_rfl
@[go_sem] theorem by_1 : (E.ty 1).bytes = 8 := by kernel_rfl
@[go_sem] theorem ze_1 : (E.ty 1).zero = [.nilf] := by kernel_rfl
@[go_sem] theorem pt_1 (o : Nat) (cs : List AV) : partO E 1 o cs = cs[o]? := partO_scal ag_1 sz_1 o cs
@[go_sem] theorem zo_1 : zeroOf E 1 = .pv (.nilf) := by kernel_rfl
@[go_sem] theorem kd_2 : (E.ty 2).kd = (.int .i64) := by kernel_rfl
@[go_sem] theorem ok_2 : (E.ty 2).ok = true := by kernel_rfl
@[go_sem] theorem sz_2 : (E.ty 2).size = 1 := by kernel_rfl
@[go_sem] theorem ag_2 : (E.ty 2).agg = false := by kernel_rfl
@[go_sem] theorem by_2 : (E.ty 2).bytes = 8 := by kernel_rfl
@[go_sem] theorem ze_2 : (E.ty 2).zero = [.int .i64 0] := by kernel_rfl
@[go_sem] theorem pt_2 (o : Nat) (cs : List AV) : partO E 2 o cs = cs[o]? := partO_scal ag_2 sz_2 o cs
@[go_sem] theorem zo_2 : zeroOf E 2 = .pv (.int .i64 0) := by kernel_rfl
@[go_sem] theorem kd_3 : (E.ty 3).kd = (.int .i64) := by kernel_rfl
@[go_sem] theorem ok_3 : (E.ty 3).ok = true := by kernel_rfl
@[go_sem] theorem sz_3 : (E.ty 3).size = 1 := by kernel_rfl
@[go_sem] theorem ag_3 : (E.ty 3).agg = false := by kernel_rfl
@[go_sem] theorem by_3 : (E.ty 3).bytes = 8 := by kernel_rfl
@[go_sem] theorem ze_3 : (E.ty 3).zero = [.int .i64 0] := by kernel_rfl
@[go_sem] theorem pt_3 (o : Nat) (cs : List AV) : partO E 3 o cs = cs[o]? := partO_scal ag_3 sz_3 o cs
@[go_sem] theorem zo_3 : zeroOf E 3 = .pv (.int .i64 0) := by kernel_rfl
@[go_sem] theorem kd_4 : (E.ty 4).kd = .bool := by kernel_rfl
@[go_sem] theorem ok_4 : (E.ty 4).ok = true := by kernel_rfl
@[go_sem] theorem sz_4 : (E.ty 4).size = 1 := by kernel_rfl
@[go_sem] theorem ag_4 : (E.ty 4).agg = false := by kernel_rfl
@[go_sem] theorem by_4 : (E.ty 4).bytes = 1 := by kernel_rfl
@[go_sem] theorem ze_4 : (E.ty 4).zero = [.bool false] := by kernel_rfl
@[go_sem] theorem pt_4 (o : Nat) (cs : List AV) : partO E 4 o cs = cs[o]? := partO_scal ag_4 sz_4 o cs
@[go_sem] theorem zo_4 : zeroOf E 4 = .pv (.bool false) := by kernel_rfl
@[go_sem] theorem kd_5 : (E.ty 5).kd = (.int .u8) := by kernel_rfl
@[go_sem] theorem ok_5 : (E.ty 5).ok = true := by kernel_rfl
@[go_sem] theorem sz_5 : (E.ty 5).size = 1 := by kernel_rfl
@[go_sem] theorem ag_5 : (E.ty 5).agg = false := by kernel_rfl
@[go_sem] theorem by_5 : (E.ty 5).bytes = 1 := by kernel_rfl
@[go_sem] theorem ze_5 : (E.ty 5).zero = [.int .u8 0] := by kernel_rfl
@[go_sem] theorem pt_5 (o : Nat) (cs : List AV) : partO E 5 o cs = cs[o]? := partO_scal ag_5 sz_5 o cs
@[go_sem] theorem zo_5 : zeroOf E 5 = .pv (.int .u8 0) := by kernel_rfl
@[go_sem] theorem kd_9 : (E.ty 9).kd = .str := by kernel_rfl
@[go_sem] theorem ok_9 : (E.ty 9).ok = true := by kernel_rfl
@[go_sem] theorem sz_9 : (E.ty 9).size = 1 := by kernel_rfl
@[go_sem] theorem ag_9 : (E.ty 9).agg = false := by kernel_rfl
@[go_sem] theorem by_9 : (E.ty 9).bytes = 16 := by kernel_rfl
@[go_sem] theorem ze_9 : (E.ty 9).zero = [.str []] := by kernel_rfl
@[go_sem] theorem sll_9 (s : List UInt8) (k : IntKind) (i : Int) : sliceO E 9 (.pv (.str s)) (some (.pv (.int k i))) none none = slS s i (s.length : Int) := sl_l kd_9 s k i
@[go_sem] theorem slh_9 (s : List UInt8) (k : IntKind) (i : Int) : sliceO E 9 (.pv (.str s)) none (some (.pv (.int k i))) none = slS s 0 i := sl_h kd_9 s k i
@[go_sem] theorem slb_9 (s : List UInt8) (k k2 : IntKind) (i j : Int) : sliceO E 9 (.pv (.str s)) (some (.pv (.int k i))) (some (.pv (.int k2 j))) none = slS s i j := sl_lh kd_9 s k k2 i j
@[go_sem] theorem ix_9 (s : List UInt8) (k : IntKind) (i : Int) : indexO E 9 (.pv (.str s)) (.pv (.int k i)) = idxS s i := index_str kd_9 s k i
@[go_sem] theorem ra_9 (H : Hp) (s : List UInt8) : rangeO E 9 H (.pv (.str s)) = some (.ptr H.length 0, H ++ [.sit s 0]) := rangeO_str kd_9 H s
@[go_sem] theorem pt_9 (o : Nat) (cs : List AV) : partO E 9 o cs = cs[o]? := partO_scal ag_9 sz_9 o cs
@[go_sem] theorem zo_9 : zeroOf E 9 = .pv (.str []) := by kernel_rfl
@[go_sem] theorem kd_21 : (E.ty 21).kd = (.int .i32) := by kernel_rfl
@[go_sem] theorem ok_21 : (E.ty 21).ok = true := by kernel_rfl
@[go_sem] theorem sz_21 : (E.ty 21).size = 1 := by kernel_rfl
@[go_sem] theorem ag_21 : (E.ty 21).agg = false := by kernel_rfl
@[go_sem] theorem by_21 : (E.ty 21).bytes = 4 := by kernel_rfl
@[go_sem] theorem ze_21 : (E.ty 21).zero = [.int .i32 0] := by kernel_rfl
@[go_sem] theorem pt_21 (o : Nat) (cs : List AV) : partO E 21 o cs = cs[o]? := partO_scal ag_21 sz_21 o cs
@[go_sem] theorem zo_21 : zeroOf E 21 = .pv (.int .i32 0) := by kernel_rfl
@[go_sem] theorem kd_22 : (E.ty 22).kd = (.slice 67) := by kernel_rfl
@[go_sem] theorem ok_22 : (E.ty 22).ok = true := by kernel_rfl
@[go_sem] theorem sz_22 : (E.ty 22).size = 1 := by kernel_rfl
@[go_sem] theorem ag_22 : (E.ty 22).agg = false := by kernel_rfl
@[go_sem] theorem by_22 : (E.ty 22).bytes = 24 := by kernel_rfl
@[go_sem] theorem ze_22 : (E.ty 22).zero = [.lst 4 []] := by kernel_rfl
@[go_sem] theorem es_22 : E.esz 22 = 4 := by kernel_rfl
@[go_sem] theorem pt_22 (o : Nat) (cs : List AV) : partO E 22 o cs = cs[o]? := partO_scal ag_22 sz_22 o cs
@[go_sem] theorem zo_22 : zeroOf E 22 = .pv (.lst 4 []) := by kernel_rfl
@[go_sem] theorem kd_23 : (E.ty 23).kd = (.slice 72) := by kernel_rfl
@[go_sem] theorem ok_23 : (E.ty 23).ok = true := by kernel_rfl
@[go_sem] theorem sz_23 : (E.ty 23).size = 1 := by kernel_rfl
@[go_sem] theorem ag_23 : (E.ty 23).agg = false := by kernel_rfl
@[go_sem] theorem by_23 : (E.ty 23).bytes = 24 := by kernel_rfl
@[go_sem] theorem ze_23 : (E.ty 23).zero = [.lst 2 []] := by kernel_rfl
@[go_sem] theorem es_23 : E.esz 23 = 2 := by kernel_rfl
@[go_sem] theorem pt_23 (o : Nat) (cs : List AV) : partO E 23 o cs = cs[o]? := partO_scal ag_23 sz_23 o cs
@[go_sem] theorem zo_23 : zeroOf E 23 = .pv (.lst 2 []) := by kernel_rfl
@[go_sem] theorem kd_24 : (E.ty 24).kd = (.struct [(0, 9), (1, 9), (2, 3), (3, 4), (4, 22)]) := by kernel_rfl
@[go_sem] theorem ok_24 : (E.ty 24).ok = true := by kernel_rfl
@[go_sem] theorem sz_24 : (E.ty 24).size = 5 := by kernel_rfl
@[go_sem] theorem ag_24 : (E.ty 24).agg = true := by kernel_rfl
@[go_sem] theorem by_24 : (E.ty 24).bytes = 72 := by kernel_rfl
@[go_sem] theorem ze_24 : (E.ty 24).zero = [.str [], .str [], .int .i64 0, .bool false, .lst 4 []] := by kernel_rfl
@[go_sem] theorem pt_24 (o : Nat) (cs : List AV) : partO E 24 o cs = partA 5 o cs := partO_agg ag_24 sz_24 o cs
@[go_sem] theorem zo_24 : zeroOf E 24 = .pv (.agg [.str [], .str [], .int .i64 0, .bool false, .lst 4 []]) := by kernel_rfl
@[go_sem] theorem fo_24_0 : fieldOf E 24 0 = some (0, 9) := by kernel_rfl
@[go_sem] theorem fo_24_1 : fieldOf E 24 1 = some (1, 9) := by kernel_rfl
@[go_sem] theorem fo_24_2 : fieldOf E 24 2 = some (2, 3) := by kernel_rfl
@[go_sem] theorem fo_24_3 : fieldOf E 24 3 = some (3, 4) := by kernel_rfl
@[go_sem] theorem fo_24_4 : fieldOf E 24 4 = some (4, 22) := by kernel_rfl
@[go_sem] theorem kd_25 : (E.ty 25).kd = (.struct [(0, 9), (1, 9), (2, 3), (3, 4), (4, 22)]) := by kernel_rfl
@[go_sem] theorem ok_25 : (E.ty 25).ok = true := by kernel_rfl
@[go_sem] theorem sz_25 : (E.ty 25).size = 5 := by kernel_rfl
@[go_sem] theorem ag_25 : (E.ty 25).agg = true := by kernel_rfl
@[go_sem] theorem by_25 : (E.ty 25).bytes = 72 := by kernel_rfl
@[go_sem] theorem ze_25 : (E.ty 25).zero = [.str [], .str [], .int .i64 0, .bool false, .lst 4 []] := by kernel_rfl
@[go_sem] theorem pt_25 (o : Nat) (cs : List AV) : partO E 25 o cs = partA 5 o cs := partO_agg ag_25 sz_25 o cs
@[go_sem] theorem zo_25 : zeroOf E 25 = .pv (.agg [.str [], .str [], .int .i64 0, .bool false, .lst 4 []]) := by kernel_rfl
@[go_sem] theorem fo_25_0 : fieldOf E 25 0 = some (0, 9) := by kernel_rfl
@[go_sem] theorem fo_25_1 : fieldOf E 25 1 = some (1, 9) := by kernel_rfl
@[go_sem] theorem fo_25_2 : fieldOf E 25 2 = some (2, 3) := by kernel_rfl
@[go_sem] theorem fo_25_3 : fieldOf E 25 3 = some (3, 4) := by kernel_rfl
@[go_sem] theorem fo_25_4 : fieldOf E 25 4 = some (4, 22) := by kernel_rfl
@[go_sem] theorem kd_26 : (E.ty 26).kd = (.slice 3) := by kernel_rfl
@[go_sem] theorem ok_26 : (E.ty 26).ok = true := by kernel_rfl
@[go_sem] theorem sz_26 : (E.ty 26).size = 1 := by kernel_rfl
@[go_sem] theorem ag_26 : (E.ty 26).agg = false := by kernel_rfl
@[go_sem] theorem by_26 : (E.ty 26).bytes = 24 := by kernel_rfl
@[go_sem] theorem ze_26 : (E.ty 26).zero = [.lst 1 []] := by kernel_rfl
@[go_sem] theorem es_26 : E.esz 26 = 1 := by kernel_rfl
@[go_sem] theorem pt_26 (o : Nat) (cs : List AV) : partO E 26 o cs = cs[o]? := partO_scal ag_26 sz_26 o cs
@[go_sem] theorem zo_26 : zeroOf E 26 = .pv (.lst 1 []) := by kernel_rfl
@[go_sem] theorem kd_27 : (E.ty 27).kd = (.slice 69) := by kernel_rfl
@[go_sem] theorem ok_27 : (E.ty 27).ok = true := by kernel_rfl
@[go_sem] theorem sz_27 : (E.ty 27).size = 1 := by kernel_rfl
@[go_sem] theorem ag_27 : (E.ty 27).agg = false := by kernel_rfl
@[go_sem] theorem by_27 : (E.ty 27).bytes = 24 := by kernel_rfl
@[go_sem] theorem ze_27 : (E.ty 27).zero = [.lst 5 []] := by kernel_rfl
@[go_sem] theorem es_27 : E.esz 27 = 5 := by kernel_rfl
@[go_sem] theorem pt_27 (o : Nat) (cs : List AV) : partO E 27 o cs = cs[o]? := partO_scal ag_27 sz_27 o cs
@[go_sem] theorem zo_27 : zeroOf E 27 = .pv (.lst 5 []) := by kernel_rfl
@[go_sem] theorem kd_28 : (E.ty 28).kd = (.struct [(0, 3), (1, 4), (2, 4), (3, 3), (4, 3), (5, 9), (6, 9), (7, 4), (8, 3), (9, 9), (10, 4), (11, 9), (12, 4), (13, 9), (14, 4), (15, 25), (20, 4), (21, 3), (22, 26), (23, 27), (24, 22)]) := by kernel_rfl
@[go_sem] theorem ok_28 : (E.ty 28).ok = true := by kernel_rfl
@[go_sem] theorem sz_28 : (E.ty 28).size = 25 := by kernel_rfl
@[go_sem] theorem ag_28 : (E.ty 28).agg = true := by kernel_rfl
@[go_sem] theorem by_28 : (E.ty 28).bytes = 312 := by kernel_rfl
@[go_sem] theorem ze_28 : (E.ty 28).zero = [.int .i64 0, .bool false, .bool false, .int .i64 0, .int .i64 0, .str [], .str [], .bool false, .int .i64 0, .str [], .bool false, .str [], .bool false, .str [], .bool false, .str [], .str [], .int .i64 0, .bool false, .lst 4 [], .bool false, .int .i64 0, .lst 1 [], .lst 5 [], .lst 4 []] := by kernel_rfl
@[go_sem] theorem pt_28 (o : Nat) (cs : List AV) : partO E 28 o cs = partA 25 o cs := partO_agg ag_28 sz_28 o cs
@[go_sem] theorem zo_28 : zeroOf E 28 = .pv (.agg [.int .i64 0, .bool false, .bool false, .int .i64 0, .int .i64 0, .str [], .str [], .bool false, .int .i64 0, .str [], .bool false, .str [], .bool false, .str [], .bool false, .str [], .str [], .int .i64 0, .bool false, .lst 4 [], .bool false, .int .i64 0, .lst 1 [], .lst 5 [], .lst 4 []]) := by kernel_rfl
@[go_sem] theorem fo_28_0 : fieldOf E 28 0 = some (0, 3) := by kernel_rfl
@[go_sem] theorem fo_28_1 : fieldOf E 28 1 = some (1, 4) := by kernel_rfl
@[go_sem] theorem fo_28_2 : fieldOf E 28 2 = some (2, 4) := by kernel_rfl
@[go_sem] theorem fo_28_3 : fieldOf E 28 3 = some (3, 3) := by kernel_rfl
@[go_sem] theorem fo_28_4 : fieldOf E 28 4 = some (4, 3) := by kernel_rfl
@[go_sem] theorem fo_28_5 : fieldOf E 28 5 = some (5, 9) := by kernel_rfl
@[go_sem] theorem fo_28_6 : fieldOf E 28 6 = some (6, 9) := by kernel_rfl
@[go_sem] theorem fo_28_7 : fieldOf E 28 7 = some (7, 4) := by kernel_rfl
@[go_sem] theorem fo_28_8 : fieldOf E 28 8 = some (8, 3) := by kernel_rfl
@[go_sem] theorem fo_28_9 : fieldOf E 28 9 = some (9, 9) := by kernel_rfl
@[go_sem] theorem fo_28_10 : fieldOf E 28 10 = some (10, 4) := by kernel_rfl
@[go_sem] theorem fo_28_11 : fieldOf E 28 11 = some (11, 9) := by kernel_rfl
@[go_sem] theorem fo_28_12 : fieldOf E 28 12 = some (12, 4) := by kernel_rfl
@[go_sem] theorem fo_28_13 : fieldOf E 28 13 = some (13, 9) := by kernel_rfl
@[go_sem] theorem fo_28_14 : fieldOf E 28 14 = some (14, 4) := by kernel_rfl
@[go_sem] theorem fo_28_15 : fieldOf E 28 15 = some (15, 25) := by kernel_rfl
@[go_sem] theorem fo_28_16 : fieldOf E 28 16 = some (20, 4) := by kernel_rfl
@[go_sem] theorem fo_28_17 : fieldOf E 28 17 = some (21, 3) := by kernel_rfl
@[go_sem] theorem fo_28_18 : fieldOf E 28 18 = some (22, 26) := by kernel_rfl
@[go_sem] theorem fo_28_19 : fieldOf E 28 19 = some (23, 27) := by kernel_rfl
@[go_sem] theorem fo_28_20 : fieldOf E 28 20 = some (24, 22) := by kernel_rfl
@[go_sem] theorem kd_29 : (E.ty 29).kd = (.struct [(0, 3), (1, 4), (2, 4), (3, 3), (4, 3), (5, 9), (6, 9), (7, 4), (8, 3), (9, 9), (10, 4), (11, 9), (12, 4), (13, 9), (14, 4), (15, 25), (20, 4), (21, 3), (22, 26), (23, 27), (24, 22)]) := by kernel_rfl
@[go_sem] theorem ok_29 : (E.ty 29).ok = true := by kernel_rfl
@[go_sem] theorem sz_29 : (E.ty 29).size = 25 := by kernel_rfl
@[go_sem] theorem ag_29 : (E.ty 29).agg = true := by kernel_rfl
@[go_sem] theorem by_29 : (E.ty 29).bytes = 312 := by kernel_rfl
@[go_sem] theorem ze_29 : (E.ty 29).zero = [.int .i64 0, .bool false, .bool false, .int .i64 0, .int .i64 0, .str [], .str [], .bool false, .int .i64 0, .str [], .bool false, .str [], .bool false, .str [], .bool false, .str [], .str [], .int .i64 0, .bool false, .lst 4 [], .bool false, .int .i64 0, .lst 1 [], .lst 5 [], .lst 4 []] := by kernel_rfl
@[go_sem] theorem pt_29 (o : Nat) (cs : List AV) : partO E 29 o cs = partA 25 o cs := partO_agg ag_29 sz_29 o cs
@[go_sem] theorem zo_29 : zeroOf E 29 = .pv (.agg [.int .i64 0, .bool false, .bool false, .int .i64 0, .int .i64 0, .str [], .str [], .bool false, .int .i64 0, .str [], .bool false, .str [], .bool false, .str [], .bool false, .str [], .str [], .int .i64 0, .bool false, .lst 4 [], .bool false, .int .i64 0, .lst 1 [], .lst 5 [], .lst 4 []]) := by kernel_rfl
@[go_sem] theorem fo_29_0 : fieldOf E 29 0 = some (0, 3) := by kernel_rfl
@[go_sem] theorem fo_29_1 : fieldOf E 29 1 = some (1, 4) := by kernel_rfl
@[go_sem] theorem fo_29_2 : fieldOf E 29 2 = some (2, 4) := by kernel_rfl
@[go_sem] theorem fo_29_3 : fieldOf E 29 3 = some (3, 3) := by kernel_rfl
@[go_sem] theorem fo_29_4 : fieldOf E 29 4 = some (4, 3) := by kernel_rfl
@[go_sem] theorem fo_29_5 : fieldOf E 29 5 = some (5, 9) := by kernel_rfl
@[go_sem] theorem fo_29_6 : fieldOf E 29 6 = some (6, 9) := by kernel_rfl
@[go_sem] theorem fo_29_7 : fieldOf E 29 7 = some (7, 4) := by kernel_rfl
@[go_sem] theorem fo_29_8 : fieldOf E 29 8 = some (8, 3) := by kernel_rfl
@[go_sem] theorem fo_29_9 : fieldOf E 29 9 = some (9, 9) := by kernel_rfl
@[go_sem] theorem fo_29_10 : fieldOf E 29 10 = some (10, 4) := by kernel_rfl
@[go_sem] theorem fo_29_11 : fieldOf E 29 11 = some (11, 9) := by kernel_rfl
@[go_sem] theorem fo_29_12 : fieldOf E 29 12 = some (12, 4) := by kernel_rfl
@[go_sem] theorem fo_29_13 : fieldOf E 29 13 = some (13, 9) := by kernel_rfl
@[go_sem] theorem fo_29_14 : fieldOf E 29 14 = some (14, 4) := by kernel_rfl
@[go_sem] theorem fo_29_15 : fieldOf E 29 15 = some (15, 25) := by kernel_rfl
@[go_sem] theorem fo_29_16 : fieldOf E 29 16 = some (20, 4) := by kernel_rfl
@[go_sem] theorem fo_29_17 : fieldOf E 29 17 = some (21, 3) := by kernel_rfl
@[go_sem] theorem fo_29_18 : fieldOf E 29 18 = some (22, 26) := by kernel_rfl
@[go_sem] theorem fo_29_19 : fieldOf E 29 19 = some (23, 27) := by kernel_rfl
@[go_sem] theorem fo_29_20 : fieldOf E 29 20 = some (24, 22) := by kernel_rfl
@[go_sem] theorem kd_30 : (E.ty 30).kd = (.struct [(0, 4), (1, 3), (2, 4), (3, 4), (4, 4), (5, 3)]) := by kernel_rfl
@[go_sem] theorem ok_30 : (E.ty 30).ok = true := by kernel_rfl
@[go_sem] theorem sz_30 : (E.ty 30).size = 6 := by kernel_rfl
@[go_sem] theorem ag_30 : (E.ty 30).agg = true := by kernel_rfl
@[go_sem] theorem by_30 : (E.ty 30).bytes = 32 := by kernel_rfl
@[go_sem] theorem ze_30 : (E.ty 30).zero = [.bool false, .int .i64 0, .bool false, .bool false, .bool false, .int .i64 0] := by kernel_rfl
@[go_sem] theorem pt_30 (o : Nat) (cs : List AV) : partO E 30 o cs = partA 6 o cs := partO_agg ag_30 sz_30 o cs
@[go_sem] theorem zo_30 : zeroOf E 30 = .pv (.agg [.bool false, .int .i64 0, .bool false, .bool false, .bool false, .int .i64 0]) := by kernel_rfl
@[go_sem] theorem fo_30_0 : fieldOf E 30 0 = some (0, 4) := by kernel_rfl
@[go_sem] theorem fo_30_1 : fieldOf E 30 1 = some (1, 3) := by kernel_rfl
@[go_sem] theorem fo_30_2 : fieldOf E 30 2 = some (2, 4) := by kernel_rfl
@[go_sem] theorem fo_30_3 : fieldOf E 30 3 = some (3, 4) := by kernel_rfl
@[go_sem] theorem fo_30_4 : fieldOf E 30 4 = some (4, 4) := by kernel_rfl
@[go_sem] theorem fo_30_5 : fieldOf E 30 5 = some (5, 3) := by kernel_rfl
@[go_sem] theorem kd_31 : (E.ty 31).kd = (.struct [(0, 4), (1, 3), (2, 4), (3, 4), (4, 4), (5, 3)]) := by kernel_rfl
@[go_sem] theorem ok_31 : (E.ty 31).ok = true := by kernel_rfl
@[go_sem] theorem sz_31 : (E.ty 31).size = 6 := by kernel_rfl
@[go_sem] theorem ag_31 : (E.ty 31).agg = true := by kernel_rfl
@[go_sem] theorem by_31 : (E.ty 31).bytes = 32 := by kernel_rfl
@[go_sem] theorem ze_31 : (E.ty 31).zero = [.bool false, .int .i64 0, .bool false, .bool false, .bool false, .int .i64 0] := by kernel_rfl
@[go_sem] theorem pt_31 (o : Nat) (cs : List AV) : partO E 31 o cs = partA 6 o cs := partO_agg ag_31 sz_31 o cs
@[go_sem] theorem zo_31 : zeroOf E 31 = .pv (.agg [.bool false, .int .i64 0, .bool false, .bool false, .bool false, .int .i64 0]) := by kernel_rfl
@[go_sem] theorem fo_31_0 : fieldOf E 31 0 = some (0, 4) := by kernel_rfl
@[go_sem] theorem fo_31_1 : fieldOf E 31 1 = some (1, 3) := by kernel_rfl
@[go_sem] theorem fo_31_2 : fieldOf E 31 2 = some (2, 4) := by kernel_rfl
@[go_sem] theorem fo_31_3 : fieldOf E 31 3 = some (3, 4) := by kernel_rfl
@[go_sem] theorem fo_31_4 : fieldOf E 31 4 = some (4, 4) := by kernel_rfl
@[go_sem] theorem fo_31_5 : fieldOf E 31 5 = some (5, 3) := by kernel_rfl
@[go_sem] theorem kd_32 : (E.ty 32).kd = (.struct [(0, 3), (1, 31), (7, 3), (8, 3), (9, 3), (10, 4), (11, 3), (12, 3), (13, 3), (14, 9), (15, 9)]) := by kernel_rfl
@[go_sem] theorem ok_32 : (E.ty 32).ok = true := by kernel_rfl
@[go_sem] theorem sz_32 : (E.ty 32).size = 16 := by kernel_rfl
@[go_sem] theorem ag_32 : (E.ty 32).agg = true := by kernel_rfl
@[go_sem] theorem by_32 : (E.ty 32).bytes = 128 := by kernel_rfl
@[go_sem] theorem ze_32 : (E.ty 32).zero = [.int .i64 0, .bool false, .int .i64 0, .bool false, .bool false, .bool false, .int .i64 0, .int .i64 0, .int .i64 0, .int .i64 0, .bool false, .int .i64 0, .int .i64 0, .int .i64 0, .str [], .str []] := by kernel_rfl
@[go_sem] theorem pt_32 (o : Nat) (cs : List AV) : partO E 32 o cs = partA 16 o cs := partO_agg ag_32 sz_32 o cs
@[go_sem] theorem zo_32 : zeroOf E 32 = .pv (.agg [.int .i64 0, .bool false, .int .i64 0, .bool false, .bool false, .bool false, .int .i64 0, .int .i64 0, .int .i64 0, .int .i64 0, .bool false, .int .i64 0, .int .i64 0, .int .i64 0, .str [], .str []]) := by kernel_rfl
@[go_sem] theorem fo_32_0 : fieldOf E 32 0 = some (0, 3) := by kernel_rfl
@[go_sem] theorem fo_32_1 : fieldOf E 32 1 = some (1, 31) := by kernel_rfl
@[go_sem] theorem fo_32_2 : fieldOf E 32 2 = some (7, 3) := by kernel_rfl
@[go_sem] theorem fo_32_3 : fieldOf E 32 3 = some (8, 3) := by kernel_rfl
@[go_sem] theorem fo_32_4 : fieldOf E 32 4 = some (9, 3) := by kernel_rfl
@[go_sem] theorem fo_32_5 : fieldOf E 32 5 = some (10, 4) := by kernel_rfl
@[go_sem] theorem fo_32_6 : fieldOf E 32 6 = some (11, 3) := by kernel_rfl
@[go_sem] theorem fo_32_7 : fieldOf E 32 7 = some (12, 3) := by kernel_rfl
@[go_sem] theorem fo_32_8 : fieldOf E 32 8 = some (13, 3) := by kernel_rfl
@[go_sem] theorem fo_32_9 : fieldOf E 32 9 = some (14, 9) := by kernel_rfl
@[go_sem] theorem fo_32_10 : fieldOf E 32 10 = some (15, 9) := by kernel_rfl
@[go_sem] theorem kd_33 : (E.ty 33).kd = (.struct [(0, 3), (1, 31), (7, 3), (8, 3), (9, 3), (10, 4), (11, 3), (12, 3), (13, 3), (14, 9), (15, 9)]) := by kernel_rfl
@[go_sem] theorem ok_33 : (E.ty 33).ok = true := by kernel_rfl
@[go_sem] theorem sz_33 : (E.ty 33).size = 16 := by kernel_rfl
@[go_sem] theorem ag_33 : (E.ty 33).agg = true := by kernel_rfl
@[go_sem] theorem by_33 : (E.ty 33).bytes = 128 := by kernel_rfl
@[go_sem] theorem ze_33 : (E.ty 33).zero = [.int .i64 0, .bool false, .int .i64 0, .bool false, .bool false, .bool false, .int .i64 0, .int .i64 0, .int .i64 0, .int .i64 0, .bool false, .int .i64 0, .int .i64 0, .int .i64 0, .str [], .str []] := by kernel_rfl
@[go_sem] theorem pt_33 (o : Nat) (cs : List AV) : partO E 33 o cs = partA 16 o cs := partO_agg ag_33 sz_33 o cs
@[go_sem] theorem zo_33 : zeroOf E 33 = .pv (.agg [.int .i64 0, .bool false, .int .i64 0, .bool false, .bool false, .bool false, .int .i64 0, .int .i64 0, .int .i64 0, .int .i64 0, .bool false, .int .i64 0, .int .i64 0, .int .i64 0, .str [], .str []]) := by kernel_rfl
@[go_sem] theorem fo_33_0 : fieldOf E 33 0 = some (0, 3) := by kernel_rfl
@[go_sem] theorem fo_33_1 : fieldOf E 33 1 = some (1, 31) := by kernel_rfl
@[go_sem] theorem fo_33_2 : fieldOf E 33 2 = some (7, 3) := by kernel_rfl
@[go_sem] theorem fo_33_3 : fieldOf E 33 3 = some (8, 3) := by kernel_rfl
@[go_sem] theorem fo_33_4 : fieldOf E 33 4 = some (9, 3) := by kernel_rfl
@[go_sem] theorem fo_33_5 : fieldOf E 33 5 = some (10, 4) := by kernel_rfl
@[go_sem] theorem fo_33_6 : fieldOf E 33 6 = some (11, 3) := by kernel_rfl
@[go_sem] theorem fo_33_7 : fieldOf E 33 7 = some (12, 3) := by kernel_rfl
@[go_sem] theorem fo_33_8 : fieldOf E 33 8 = some (13, 3) := by kernel_rfl
@[go_sem] theorem fo_33_9 : fieldOf E 33 9 = some (14, 9) := by kernel_rfl
@[go_sem] theorem fo_33_10 : fieldOf E 33 10 = some (15, 9) := by kernel_rfl
@[go_sem] theorem kd_34 : (E.ty 34).kd = (.slice 76) := by kernel_rfl
@[go_sem] theorem ok_34 : (E.ty 34).ok = true := by kernel_rfl
@[go_sem] theorem sz_34 : (E.ty 34).size = 1 := by kernel_rfl
@[go_sem] theorem ag_34 : (E.ty 34).agg = false := by kernel_rfl
@[go_sem] theorem by_34 : (E.ty 34).bytes = 24 := by kernel_rfl
@[go_sem] theorem ze_34 : (E.ty 34).zero = [.lst 4 []] := by kernel_rfl
@[go_sem] theorem es_34 : E.esz 34 = 4 := by kernel_rfl
@[go_sem] theorem pt_34 (o : Nat) (cs : List AV) : partO E 34 o cs = cs[o]? := partO_scal ag_34 sz_34 o cs
@[go_sem] theorem zo_34 : zeroOf E 34 = .pv (.lst 4 []) := by kernel_rfl
@[go_sem] theorem kd_35 : (E.ty 35).kd = (.struct [(0, 3), (1, 3), (2, 9), (3, 34)]) := by kernel_rfl
@[go_sem] theorem ok_35 : (E.ty 35).ok = true := by kernel_rfl
@[go_sem] theorem sz_35 : (E.ty 35).size = 4 := by kernel_rfl
@[go_sem] theorem ag_35 : (E.ty 35).agg = true := by kernel_rfl
@[go_sem] theorem by_35 : (E.ty 35).bytes = 56 := by kernel_rfl
@[go_sem] theorem ze_35 : (E.ty 35).zero = [.int .i64 0, .int .i64 0, .str [], .lst 4 []] := by kernel_rfl
@[go_sem] theorem pt_35 (o : Nat) (cs : List AV) : partO E 35 o cs = partA 4 o cs := partO_agg ag_35 sz_35 o cs
@[go_sem] theorem zo_35 : zeroOf E 35 = .pv (.agg [.int .i64 0, .int .i64 0, .str [], .lst 4 []]) := by kernel_rfl
@[go_sem] theorem fo_35_0 : fieldOf E 35 0 = some (0, 3) := by kernel_rfl
@[go_sem] theorem fo_35_1 : fieldOf E 35 1 = some (1, 3) := by kernel_rfl
@[go_sem] theorem fo_35_2 : fieldOf E 35 2 = some (2, 9) := by kernel_rfl
@[go_sem] theorem fo_35_3 : fieldOf E 35 3 = some (3, 34) := by kernel_rfl
@[go_sem] theorem kd_36 : (E.ty 36).kd = (.struct [(0, 3), (1, 3), (2, 9), (3, 34)]) := by kernel_rfl
@[go_sem] theorem ok_36 : (E.ty 36).ok = true := by kernel_rfl
@[go_sem] theorem sz_36 : (E.ty 36).size = 4 := by kernel_rfl
@[go_sem] theorem ag_36 : (E.ty 36).agg = true := by kernel_rfl
@[go_sem] theorem by_36 : (E.ty 36).bytes = 56 := by kernel_rfl
@[go_sem] theorem ze_36 : (E.ty 36).zero = [.int .i64 0, .int .i64 0, .str [], .lst 4 []] := by kernel_rfl
@[go_sem] theorem pt_36 (o : Nat) (cs : List AV) : partO E 36 o cs = partA 4 o cs := partO_agg ag_36 sz_36 o cs
@[go_sem] theorem zo_36 : zeroOf E 36 = .pv (.agg [.int .i64 0, .int .i64 0, .str [], .lst 4 []]) := by kernel_rfl
@[go_sem] theorem fo_36_0 : fieldOf E 36 0 = some (0, 3) := by kernel_rfl
@[go_sem] theorem fo_36_1 : fieldOf E 36 1 = some (1, 3) := by kernel_rfl
@[go_sem] theorem fo_36_2 : fieldOf E 36 2 = some (2, 9) := by kernel_rfl
@[go_sem] theorem fo_36_3 : fieldOf E 36 3 = some (3, 34) := by kernel_rfl
@[go_sem] theorem kd_37 : (E.ty 37).kd = (.struct [(0, 3), (1, 3), (2, 9), (3, 9), (4, 3), (5, 4), (6, 4), (7, 3), (8, 22), (9, 3), (10, 23), (11, 3), (12, 29), (37, 33), (53, 36)]) := by kernel_rfl
@[go_sem] theorem ok_37 : (E.ty 37).ok = true := by kernel_rfl
@[go_sem] theorem sz_37 : (E.ty 37).size = 57 := by kernel_rfl
@[go_sem] theorem ag_37 : (E.ty 37).agg = true := by kernel_rfl
@[go_sem] theorem by_37 : (E.ty 37).bytes = 632 := by kernel_rfl
@[go_sem] theorem ze_37 : (E.ty 37).zero = [.int .i64 0, .int .i64 0, .str [], .str [], .int .i64 0, .bool false, .bool false, .int .i64 0, .lst 4 [], .int .i64 0, .lst 2 [], .int .i64 0, .int .i64 0, .bool false, .bool false, .int .i64 0, .int .i64 0, .str [], .str [], .bool false, .int .i64 0, .str [], .bool false, .str [], .bool false, .str [], .bool false, .str [], .str [], .int .i64 0, .bool false, .lst 4 [], .bool false, .int .i64 0, .lst 1 [], .lst 5 [], .lst 4 [], .int .i64 0, .bool false, .int .i64 0, .bool false, .bool false, .bool false, .int .i64 0, .int .i64 0, .int .i64 0, .int .i64 0, .bool false, .int .i64 0, .int .i64 0, .int .i64 0, .str [], .str [], .int .i64 0, .int .i64 0, .str [], .lst 4 []] := by kernel_rfl
@[go_sem] theorem pt_37 (o : Nat) (cs : List AV) : partO E 37 o cs = partA 57 o cs := partO_agg ag_37 sz_37 o cs
@[go_sem] theorem zo_37 : zeroOf E 37 = .pv (.agg [.int .i64 0, .int .i64 0, .str [], .str [], .int .i64 0, .bool false, .bool false, .int .i64 0, .lst 4 [], .int .i64 0, .lst 2 [], .int .i64 0, .int .i64 0, .bool false, .bool false, .int .i64 0, .int .i64 0, .str [], .str [], .bool false, .int .i64 0, .str [], .bool false, .str [], .bool false, .str [], .bool false, .str [], .str [], .int .i64 0, .bool false, .lst 4 [], .bool false, .int .i64 0, .lst 1 [], .lst 5 [], .lst 4 [], .int .i64 0, .bool false, .int .i64 0, .bool false, .bool false, .bool false, .int .i64 0, .int .i64 0, .int .i64 0, .int .i64 0, .bool false, .int .i64 0, .int .i64 0, .int .i64 0, .str [], .str [], .int .i64 0, .int .i64 0, .str [], .lst 4 []]) := by kernel_rfl
@[go_sem] theorem fo_37_0 : fieldOf E 37 0 = some (0, 3) := by kernel_rfl
@[go_sem] theorem fo_37_1 : fieldOf E 37 1 = some (1, 3) := by kernel_rfl
@[go_sem] theorem fo_37_2 : fieldOf E 37 2 = some (2, 9) := by kernel_rfl
@[go_sem] theorem fo_37_3 : fieldOf E 37 3 = some (3, 9) := by kernel_rfl
@[go_sem] theorem fo_37_4 : fieldOf E 37 4 = some (4, 3) := by kernel_rfl
@[go_sem] theorem fo_37_5 : fieldOf E 37 5 = some (5, 4) := by kernel_rfl
@[go_sem] theorem fo_37_6 : fieldOf E 37 6 = some (6, 4) := by kernel_rfl
@[go_sem] theorem fo_37_7 : fieldOf E 37 7 = some (7, 3) := by kernel_rfl
@[go_sem] theorem fo_37_8 : fieldOf E 37 8 = some (8, 22) := by kernel_rfl
@[go_sem] theorem fo_37_9 : fieldOf E 37 9 = some (9, 3) := by kernel_rfl
@[go_sem] theorem fo_37_10 : fieldOf E 37 10 = some (10, 23) := by kernel_rfl
@[go_sem] theorem fo_37_11 : fieldOf E 37 11 = some (11, 3) := by kernel_rfl
@[go_sem] theorem fo_37_12 : fieldOf E 37 12 = some (12, 29) := by kernel_rfl
@[go_sem] theorem fo_37_13 : fieldOf E 37 13 = some (37, 33) := by kernel_rfl
@[go_sem] theorem fo_37_14 : fieldOf E 37 14 = some (53, 36) := by kernel_rfl
@[go_sem] theorem kd_38 : (E.ty 38).kd = (.struct [(0, 3), (1, 3), (2, 9), (3, 9), (4, 3), (5, 4), (6, 4), (7, 3), (8, 22), (9, 3), (10, 23), (11, 3), (12, 29), (37, 33), (53, 36)]) := by kernel_rfl
@[go_sem] theorem ok_38 : (E.ty 38).ok = true := by kernel_rfl
@[go_sem] theorem sz_38 : (E.ty 38).size = 57 := by kernel_rfl
@[go_sem] theorem ag_38 : (E.ty 38).agg = true := by kernel_rfl
@[go_sem] theorem by_38 : (E.ty 38).bytes = 632 := by kernel_rfl
@[go_sem] theorem ze_38 : (E.ty 38).zero = [.int .i64 0, .int .i64 0, .str [], .str [], .int .i64 0, .bool false, .bool false, .int .i64 0, .lst 4 [], .int .i64 0, .lst 2 [], .int .i64 0, .int .i64 0, .bool false, .bool false, .int .i64 0, .int .i64 0, .str [], .str [], .bool false, .int .i64 0, .str [], .bool false, .str [], .bool false, .str [], .bool false, .str [], .str [], .int .i64 0, .bool false, .lst 4 [], .bool false, .int .i64 0, .lst 1 [], .lst 5 [], .lst 4 [], .int .i64 0, .bool false, .int .i64 0, .bool false, .bool false, .bool false, .int .i64 0, .int .i64 0, .int .i64 0, .int .i64 0, .bool false, .int .i64 0, .int .i64 0, .int .i64 0, .str [], .str [], .int .i64 0, .int .i64 0, .str [], .lst 4 []] := by kernel_rfl
@[go_sem] theorem pt_38 (o : Nat) (cs : List AV) : partO E 38 o cs = partA 57 o cs := partO_agg ag_38 sz_38 o cs
@[go_sem] theorem zo_38 : zeroOf E 38 = .pv (.agg [.int .i64 0, .int .i64 0, .str [], .str [], .int .i64 0, .bool false, .bool false, .int .i64 0, .lst 4 [], .int .i64 0, .lst 2 [], .int .i64 0, .int .i64 0, .bool false, .bool false, .int .i64 0, .int .i64 0, .str [], .str [], .bool false, .int .i64 0, .str [], .bool false, .str [], .bool false, .str [], .bool false, .str [], .str [], .int .i64 0, .bool false, .lst 4 [], .bool false, .int .i64 0, .lst 1 [], .lst 5 [], .lst 4 [], .int .i64 0, .bool false, .int .i64 0, .bool false, .bool false, .bool false, .int .i64 0, .int .i64 0, .int .i64 0, .int .i64 0, .bool false, .int .i64 0, .int .i64 0, .int .i64 0, .str [], .str [], .int .i64 0, .int .i64 0, .str [], .lst 4 []]) := by kernel_rfl
@[go_sem] theorem fo_38_0 : fieldOf E 38 0 = some (0, 3) := by kernel_rfl
@[go_sem] theorem fo_38_1 : fieldOf E 38 1 = some (1, 3) := by kernel_rfl
@[go_sem] theorem fo_38_2 : fieldOf E 38 2 = some (2, 9) := by kernel_rfl
@[go_sem] theorem fo_38_3 : fieldOf E 38 3 = some (3, 9) := by kernel_rfl
@[go_sem] theorem fo_38_4 : fieldOf E 38 4 = some (4, 3) := by kernel_rfl
@[go_sem] theorem fo_38_5 : fieldOf E 38 5 = some (5, 4) := by kernel_rfl
@[go_sem] theorem fo_38_6 : fieldOf E 38 6 = some (6, 4) := by kernel_rfl
@[go_sem] theorem fo_38_7 : fieldOf E 38 7 = some (7, 3) := by kernel_rfl
@[go_sem] theorem fo_38_8 : fieldOf E 38 8 = some (8, 22) := by kernel_rfl
@[go_sem] theorem fo_38_9 : fieldOf E 38 9 = some (9, 3) := by kernel_rfl
@[go_sem] theorem fo_38_10 : fieldOf E 38 10 = some (10, 23) := by kernel_rfl
@[go_sem] theorem fo_38_11 : fieldOf E 38 11 = some (11, 3) := by kernel_rfl
@[go_sem] theorem fo_38_12 : fieldOf E 38 12 = some (12, 29) := by kernel_rfl
@[go_sem] theorem fo_38_13 : fieldOf E 38 13 = some (37, 33) := by kernel_rfl
@[go_sem] theorem fo_38_14 : fieldOf E 38 14 = some (53, 36) := by kernel_rfl
@[go_sem] theorem kd_39 : (E.ty 39).kd = .func := by kernel_rfl
@[go_sem] theorem ok_39 : (E.ty 39).ok = true := by kernel_rfl
@[go_sem] theorem sz_39 : (E.ty 39).size = 1 := by kernel_rfl
@[go_sem] theorem ag_39 : (E.ty 39).agg = false := by kernel_rfl
@[go_sem] theorem by_39 : (E.ty 39).bytes = 8 := by kernel_rfl
@[go_sem] theorem ze_39 : (E.ty 39).zero = [.nilf] := by kernel_rfl
@[go_sem] theorem pt_39 (o : Nat) (cs : List AV) : partO E 39 o cs = cs[o]? := partO_scal ag_39 sz_39 o cs
@[go_sem] theorem zo_39 : zeroOf E 39 = .pv (.nilf) := by kernel_rfl
@[go_sem] theorem kd_41 : (E.ty 41).kd = (.int .i64) := by kernel_rfl
@[go_sem] theorem ok_41 : (E.ty 41).ok = true := by kernel_rfl
@[go_sem] theorem sz_41 : (E.ty 41).size = 1 := by kernel_rfl
@[go_sem] theorem ag_41 : (E.ty 41).agg = false := by kernel_rfl
@[go_sem] theorem by_41 : (E.ty 41).bytes = 8 := by kernel_rfl
@[go_sem] theorem ze_41 : (E.ty 41).zero = [.int .i64 0] := by kernel_rfl
@[go_sem] theorem pt_41 (o : Nat) (cs : List AV) : partO E 41 o cs = cs[o]? := partO_scal ag_41 sz_41 o cs
@[go_sem] theorem zo_41 : zeroOf E 41 = .pv (.int .i64 0) := by kernel_rfl
@[go_sem] theorem kd_49 : (E.ty 49).kd = (.struct [(0, 23), (1, 33)]) := by kernel_rfl
@[go_sem] theorem ok_49 : (E.ty 49).ok = true := by kernel_rfl
@[go_sem] theorem sz_49 : (E.ty 49).size = 17 := by kernel_rfl
@[go_sem] theorem ag_49 : (E.ty 49).agg = true := by kernel_rfl
@[go_sem] theorem by_49 : (E.ty 49).bytes = 152 := by kernel_rfl
@[go_sem] theorem ze_49 : (E.ty 49).zero = [.lst 2 [], .int .i64 0, .bool false, .int .i64 0, .bool false, .bool false, .bool false, .int .i64 0, .int .i64 0, .int .i64 0, .int .i64 0, .bool false, .int .i64 0, .int .i64 0, .int .i64 0, .str [], .str []] := by kernel_rfl
@[go_sem] theorem pt_49 (o : Nat) (cs : List AV) : partO E 49 o cs = partA 17 o cs := partO_agg ag_49 sz_49 o cs
@[go_sem] theorem zo_49 : zeroOf E 49 = .pv (.agg [.lst 2 [], .int .i64 0, .bool false, .int .i64 0, .bool false, .bool false, .bool false, .int .i64 0, .int .i64 0, .int .i64 0, .int .i64 0, .bool false, .int .i64 0, .int .i64 0, .int .i64 0, .str [], .str []]) := by kernel_rfl
@[go_sem] theorem fo_49_0 : fieldOf E 49 0 = some (0, 23) := by kernel_rfl
@[go_sem] theorem fo_49_1 : fieldOf E 49 1 = some (1, 33) := by kernel_rfl
@[go_sem] theorem kd_50 : (E.ty 50).kd = (.struct [(0, 23), (1, 33)]) := by kernel_rfl
@[go_sem] theorem ok_50 : (E.ty 50).ok = true := by kernel_rfl
@[go_sem] theorem sz_50 : (E.ty 50).size = 17 := by kernel_rfl
@[go_sem] theorem ag_50 : (E.ty 50).agg = true := by kernel_rfl
@[go_sem] theorem by_50 : (E.ty 50).bytes = 152 := by kernel_rfl
@[go_sem] theorem ze_50 : (E.ty 50).zero = [.lst 2 [], .int .i64 0, .bool false, .int .i64 0, .bool false, .bool false, .bool false, .int .i64 0, .int .i64 0, .int .i64 0, .int .i64 0, .bool false, .int .i64 0, .int .i64 0, .int .i64 0, .str [], .str []] := by kernel_rfl
@[go_sem] theorem pt_50 (o : Nat) (cs : List AV) : partO E 50 o cs = partA 17 o cs := partO_agg ag_50 sz_50 o cs
@[go_sem] theorem zo_50 : zeroOf E 50 = .pv (.agg [.lst 2 [], .int .i64 0, .bool false, .int .i64 0, .bool false, .bool false, .bool false, .int .i64 0, .int .i64 0, .int .i64 0, .int .i64 0, .bool false, .int .i64 0, .int .i64 0, .int .i64 0, .str [], .str []]) := by kernel_rfl
@[go_sem] theorem fo_50_0 : fieldOf E 50 0 = some (0, 23) := by kernel_rfl
@[go_sem] theorem fo_50_1 : fieldOf E 50 1 = some (1, 33) := by kernel_rfl
@[go_sem] theorem kd_53 : (E.ty 53).kd = (.struct [(0, 39), (1, 41)]) := by kernel_rfl
@[go_sem] theorem ok_53 : (E.ty 53).ok = true := by kernel_rfl
@[go_sem] theorem sz_53 : (E.ty 53).size = 2 := by kernel_rfl
@[go_sem] theorem ag_53 : (E.ty 53).agg = true := by kernel_rfl
@[go_sem] theorem by_53 : (E.ty 53).bytes = 16 := by kernel_rfl
@[go_sem] theorem ze_53 : (E.ty 53).zero = [.nilf, .int .i64 0] := by kernel_rfl
@[go_sem] theorem pt_53 (o : Nat) (cs : List AV) : partO E 53 o cs = partA 2 o cs := partO_agg ag_53 sz_53 o cs
@[go_sem] theorem zo_53 : zeroOf E 53 = .pv (.agg [.nilf, .int .i64 0]) := by kernel_rfl
@[go_sem] theorem fo_53_0 : fieldOf E 53 0 = some (0, 39) := by kernel_rfl
@[go_sem] theorem fo_53_1 : fieldOf E 53 1 = some (1, 41) := by kernel_rfl
@[go_sem] theorem kd_54 : (E.ty 54).kd = (.struct [(0, 39), (1, 41)]) := by kernel_rfl
@[go_sem] theorem ok_54 : (E.ty 54).ok = true := by kernel_rfl
@[go_sem] theorem sz_54 : (E.ty 54).size = 2 := by kernel_rfl
@[go_sem] theorem ag_54 : (E.ty 54).agg = true := by kernel_rfl
@[go_sem] theorem by_54 : (E.ty 54).bytes = 16 := by kernel_rfl
@[go_sem] theorem ze_54 : (E.ty 54).zero = [.nilf, .int .i64 0] := by kernel_rfl
@[go_sem] theorem pt_54 (o : Nat) (cs : List AV) : partO E 54 o cs = partA 2 o cs := partO_agg ag_54 sz_54 o cs
@[go_sem] theorem zo_54 : zeroOf E 54 = .pv (.agg [.nilf, .int .i64 0]) := by kernel_rfl
@[go_sem] theorem fo_54_0 : fieldOf E 54 0 = some (0, 39) := by kernel_rfl
@[go_sem] theorem fo_54_1 : fieldOf E 54 1 = some (1, 41) := by kernel_rfl
@[go_sem] theorem kd_58 : (E.ty 58).kd = (.slice 54) := by kernel_rfl
@[go_sem] theorem ok_58 : (E.ty 58).ok = true := by kernel_rfl
@[go_sem] theorem sz_58 : (E.ty 58).size = 1 := by kernel_rfl
@[go_sem] theorem ag_58 : (E.ty 58).agg = false := by kernel_rfl
@[go_sem] theorem by_58 : (E.ty 58).bytes = 24 := by kernel_rfl
@[go_sem] theorem ze_58 : (E.ty 58).zero = [.lst 2 []] := by kernel_rfl
@[go_sem] theorem es_58 : E.esz 58 = 2 := by kernel_rfl
@[go_sem] theorem pt_58 (o : Nat) (cs : List AV) : partO E 58 o cs = cs[o]? := partO_scal ag_58 sz_58 o cs
@[go_sem] theorem zo_58 : zeroOf E 58 = .pv (.lst 2 []) := by kernel_rfl
@[go_sem] theorem kd_59 : (E.ty 59).kd = (.struct [(0, 9)]) := by kernel_rfl
@[go_sem] theorem ok_59 : (E.ty 59).ok = true := by kernel_rfl
@[go_sem] theorem sz_59 : (E.ty 59).size = 1 := by kernel_rfl
@[go_sem] theorem ag_59 : (E.ty 59).agg = true := by kernel_rfl
@[go_sem] theorem by_59 : (E.ty 59).bytes = 16 := by kernel_rfl
@[go_sem] theorem ze_59 : (E.ty 59).zero = [.str []] := by kernel_rfl
@[go_sem] theorem pt_59 (o : Nat) (cs : List AV) : partO E 59 o cs = partA 1 o cs := partO_agg ag_59 sz_59 o cs
@[go_sem] theorem zo_59 : zeroOf E 59 = .pv (.agg [.str []]) := by kernel_rfl
@[go_sem] theorem fo_59_0 : fieldOf E 59 0 = some (0, 9) := by kernel_rfl
@[go_sem] theorem kd_60 : (E.ty 60).kd = (.struct [(0, 9)]) := by kernel_rfl
@[go_sem] theorem ok_60 : (E.ty 60).ok = true := by kernel_rfl
@[go_sem] theorem sz_60 : (E.ty 60).size = 1 := by kernel_rfl
@[go_sem] theorem ag_60 : (E.ty 60).agg = true := by kernel_rfl
@[go_sem] theorem by_60 : (E.ty 60).bytes = 16 := by kernel_rfl
@[go_sem] theorem ze_60 : (E.ty 60).zero = [.str []] := by kernel_rfl
@[go_sem] theorem pt_60 (o : Nat) (cs : List AV) : partO E 60 o cs = partA 1 o cs := partO_agg ag_60 sz_60 o cs
@[go_sem] theorem zo_60 : zeroOf E 60 = .pv (.agg [.str []]) := by kernel_rfl
@[go_sem] theorem fo_60_0 : fieldOf E 60 0 = some (0, 9) := by kernel_rfl
@[go_sem] theorem kd_62 : (E.ty 62).kd = (.map 3 60) := by kernel_rfl
@[go_sem] theorem ok_62 : (E.ty 62).ok = true := by kernel_rfl
@[go_sem] theorem sz_62 : (E.ty 62).size = 1 := by kernel_rfl
@[go_sem] theorem ag_62 : (E.ty 62).agg = false := by kernel_rfl
@[go_sem] theorem by_62 : (E.ty 62).bytes = 8 := by kernel_rfl
@[go_sem] theorem ze_62 : (E.ty 62).zero = [.nilm] := by kernel_rfl
@[go_sem] theorem pt_62 (o : Nat) (cs : List AV) : partO E 62 o cs = cs[o]? := partO_scal ag_62 sz_62 o cs
@[go_sem] theorem zo_62 : zeroOf E 62 = .pv (.nilm) := by kernel_rfl
@[go_sem] theorem kd_65 : (E.ty 65).kd = (.int .u32) := by kernel_rfl
@[go_sem] theorem ok_65 : (E.ty 65).ok = true := by kernel_rfl
@[go_sem] theorem sz_65 : (E.ty 65).size = 1 := by kernel_rfl
@[go_sem] theorem ag_65 : (E.ty 65).agg = false := by kernel_rfl
@[go_sem] theorem by_65 : (E.ty 65).bytes = 4 := by kernel_rfl
@[go_sem] theorem ze_65 : (E.ty 65).zero = [.int .u32 0] := by kernel_rfl
@[go_sem] theorem pt_65 (o : Nat) (cs : List AV) : partO E 65 o cs = cs[o]? := partO_scal ag_65 sz_65 o cs
@[go_sem] theorem zo_65 : zeroOf E 65 = .pv (.int .u32 0) := by kernel_rfl
@[go_sem] theorem kd_66 : (E.ty 66).kd = (.struct [(0, 3), (1, 65), (2, 9), (3, 9)]) := by kernel_rfl
@[go_sem] theorem ok_66 : (E.ty 66).ok = true := by kernel_rfl
@[go_sem] theorem sz_66 : (E.ty 66).size = 4 := by kernel_rfl
@[go_sem] theorem ag_66 : (E.ty 66).agg = true := by kernel_rfl
@[go_sem] theorem by_66 : (E.ty 66).bytes = 48 := by kernel_rfl
@[go_sem] theorem ze_66 : (E.ty 66).zero = [.int .i64 0, .int .u32 0, .str [], .str []] := by kernel_rfl
@[go_sem] theorem pt_66 (o : Nat) (cs : List AV) : partO E 66 o cs = partA 4 o cs := partO_agg ag_66 sz_66 o cs
@[go_sem] theorem zo_66 : zeroOf E 66 = .pv (.agg [.int .i64 0, .int .u32 0, .str [], .str []]) := by kernel_rfl
@[go_sem] theorem fo_66_0 : fieldOf E 66 0 = some (0, 3) := by kernel_rfl
@[go_sem] theorem fo_66_1 : fieldOf E 66 1 = some (1, 65) := by kernel_rfl
@[go_sem] theorem fo_66_2 : fieldOf E 66 2 = some (2, 9) := by kernel_rfl
@[go_sem] theorem fo_66_3 : fieldOf E 66 3 = some (3, 9) := by kernel_rfl
@[go_sem] theorem kd_67 : (E.ty 67).kd = (.struct [(0, 3), (1, 65), (2, 9), (3, 9)]) := by kernel_rfl
@[go_sem] theorem ok_67 : (E.ty 67).ok = true := by kernel_rfl
@[go_sem] theorem sz_67 : (E.ty 67).size = 4 := by kernel_rfl
@[go_sem] theorem ag_67 : (E.ty 67).agg = true := by kernel_rfl
@[go_sem] theorem by_67 : (E.ty 67).bytes = 48 := by kernel_rfl
@[go_sem] theorem ze_67 : (E.ty 67).zero = [.int .i64 0, .int .u32 0, .str [], .str []] := by kernel_rfl
@[go_sem] theorem pt_67 (o : Nat) (cs : List AV) : partO E 67 o cs = partA 4 o cs := partO_agg ag_67 sz_67 o cs
@[go_sem] theorem zo_67 : zeroOf E 67 = .pv (.agg [.int .i64 0, .int .u32 0, .str [], .str []]) := by kernel_rfl
@[go_sem] theorem fo_67_0 : fieldOf E 67 0 = some (0, 3) := by kernel_rfl
@[go_sem] theorem fo_67_1 : fieldOf E 67 1 = some (1, 65) := by kernel_rfl
@[go_sem] theorem fo_67_2 : fieldOf E 67 2 = some (2, 9) := by kernel_rfl
@[go_sem] theorem fo_67_3 : fieldOf E 67 3 = some (3, 9) := by kernel_rfl
@[go_sem] theorem kd_68 : (E.ty 68).kd = (.struct [(0, 9), (1, 3), (2, 4), (3, 4), (4, 3)]) := by kernel_rfl
@[go_sem] theorem ok_68 : (E.ty 68).ok = true := by kernel_rfl
@[go_sem] theorem sz_68 : (E.ty 68).size = 5 := by kernel_rfl
@[go_sem] theorem ag_68 : (E.ty 68).agg = true := by kernel_rfl
@[go_sem] theorem by_68 : (E.ty 68).bytes = 40 := by kernel_rfl
@[go_sem] theorem ze_68 : (E.ty 68).zero = [.str [], .int .i64 0, .bool false, .bool false, .int .i64 0] := by kernel_rfl
@[go_sem] theorem pt_68 (o : Nat) (cs : List AV) : partO E 68 o cs = partA 5 o cs := partO_agg ag_68 sz_68 o cs
@[go_sem] theorem zo_68 : zeroOf E 68 = .pv (.agg [.str [], .int .i64 0, .bool false, .bool false, .int .i64 0]) := by kernel_rfl
@[go_sem] theorem fo_68_0 : fieldOf E 68 0 = some (0, 9) := by kernel_rfl
@[go_sem] theorem fo_68_1 : fieldOf E 68 1 = some (1, 3) := by kernel_rfl
@[go_sem] theorem fo_68_2 : fieldOf E 68 2 = some (2, 4) := by kernel_rfl
@[go_sem] theorem fo_68_3 : fieldOf E 68 3 = some (3, 4) := by kernel_rfl
@[go_sem] theorem fo_68_4 : fieldOf E 68 4 = some (4, 3) := by kernel_rfl
@[go_sem] theorem kd_69 : (E.ty 69).kd = (.struct [(0, 9), (1, 3), (2, 4), (3, 4), (4, 3)]) := by kernel_rfl
@[go_sem] theorem ok_69 : (E.ty 69).ok = true := by kernel_rfl
@[go_sem] theorem sz_69 : (E.ty 69).size = 5 := by kernel_rfl
@[go_sem] theorem ag_69 : (E.ty 69).agg = true := by kernel_rfl
@[go_sem] theorem by_69 : (E.ty 69).bytes = 40 := by kernel_rfl
@[go_sem] theorem ze_69 : (E.ty 69).zero = [.str [], .int .i64 0, .bool false, .bool false, .int .i64 0] := by kernel_rfl
@[go_sem] theorem pt_69 (o : Nat) (cs : List AV) : partO E 69 o cs = partA 5 o cs := partO_agg ag_69 sz_69 o cs
@[go_sem] theorem zo_69 : zeroOf E 69 = .pv (.agg [.str [], .int .i64 0, .bool false, .bool false, .int .i64 0]) := by kernel_rfl
@[go_sem] theorem fo_69_0 : fieldOf E 69 0 = some (0, 9) := by kernel_rfl
@[go_sem] theorem fo_69_1 : fieldOf E 69 1 = some (1, 3) := by kernel_rfl
@[go_sem] theorem fo_69_2 : fieldOf E 69 2 = some (2, 4) := by kernel_rfl
@[go_sem] theorem fo_69_3 : fieldOf E 69 3 = some (3, 4) := by kernel_rfl
@[go_sem] theorem fo_69_4 : fieldOf E 69 4 = some (4, 3) := by kernel_rfl
@[go_sem] theorem kd_71 : (E.ty 71).kd = (.struct [(0, 3), (1, 9)]) := by kernel_rfl
@[go_sem] theorem ok_71 : (E.ty 71).ok = true := by kernel_rfl
@[go_sem] theorem sz_71 : (E.ty 71).size = 2 := by kernel_rfl
@[go_sem] theorem ag_71 : (E.ty 71).agg = true := by kernel_rfl
@[go_sem] theorem by_71 : (E.ty 71).bytes = 24 := by kernel_rfl
@[go_sem] theorem ze_71 : (E.ty 71).zero = [.int .i64 0, .str []] := by kernel_rfl
@[go_sem] theorem pt_71 (o : Nat) (cs : List AV) : partO E 71 o cs = partA 2 o cs := partO_agg ag_71 sz_71 o cs
@[go_sem] theorem zo_71 : zeroOf E 71 = .pv (.agg [.int .i64 0, .str []]) := by kernel_rfl
@[go_sem] theorem fo_71_0 : fieldOf E 71 0 = some (0, 3) := by kernel_rfl
@[go_sem] theorem fo_71_1 : fieldOf E 71 1 = some (1, 9) := by kernel_rfl
@[go_sem] theorem kd_72 : (E.ty 72).kd = (.struct [(0, 3), (1, 9)]) := by kernel_rfl
@[go_sem] theorem ok_72 : (E.ty 72).ok = true := by kernel_rfl
@[go_sem] theorem sz_72 : (E.ty 72).size = 2 := by kernel_rfl
@[go_sem] theorem ag_72 : (E.ty 72).agg = true := by kernel_rfl
@[go_sem] theorem by_72 : (E.ty 72).bytes = 24 := by kernel_rfl
@[go_sem] theorem ze_72 : (E.ty 72).zero = [.int .i64 0, .str []] := by kernel_rfl
@[go_sem] theorem pt_72 (o : Nat) (cs : List AV) : partO E 72 o cs = partA 2 o cs := partO_agg ag_72 sz_72 o cs
@[go_sem] theorem zo_72 : zeroOf E 72 = .pv (.agg [.int .i64 0, .str []]) := by kernel_rfl
@[go_sem] theorem fo_72_0 : fieldOf E 72 0 = some (0, 3) := by kernel_rfl
@[go_sem] theorem fo_72_1 : fieldOf E 72 1 = some (1, 9) := by kernel_rfl
@[go_sem] theorem kd_74 : (E.ty 74).kd = (.int .u64) := by kernel_rfl
@[go_sem] theorem ok_74 : (E.ty 74).ok = true := by kernel_rfl
@[go_sem] theorem sz_74 : (E.ty 74).size = 1 := by kernel_rfl
@[go_sem] theorem ag_74 : (E.ty 74).agg = false := by kernel_rfl
@[go_sem] theorem by_74 : (E.ty 74).bytes = 8 := by kernel_rfl
@[go_sem] theorem ze_74 : (E.ty 74).zero = [.int .u64 0] := by kernel_rfl
@[go_sem] theorem pt_74 (o : Nat) (cs : List AV) : partO E 74 o cs = cs[o]? := partO_scal ag_74 sz_74 o cs
@[go_sem] theorem zo_74 : zeroOf E 74 = .pv (.int .u64 0) := by kernel_rfl
@[go_sem] theorem kd_75 : (E.ty 75).kd = (.struct [(0, 3), (1, 74), (2, 9), (3, 34)]) := by kernel_rfl
@[go_sem] theorem ok_75 : (E.ty 75).ok = true := by kernel_rfl
@[go_sem] theorem sz_75 : (E.ty 75).size = 4 := by kernel_rfl
@[go_sem] theorem ag_75 : (E.ty 75).agg = true := by kernel_rfl
@[go_sem] theorem by_75 : (E.ty 75).bytes = 56 := by kernel_rfl
@[go_sem] theorem ze_75 : (E.ty 75).zero = [.int .i64 0, .int .u64 0, .str [], .lst 4 []] := by kernel_rfl
@[go_sem] theorem pt_75 (o : Nat) (cs : List AV) : partO E 75 o cs = partA 4 o cs := partO_agg ag_75 sz_75 o cs
@[go_sem] theorem zo_75 : zeroOf E 75 = .pv (.agg [.int .i64 0, .int .u64 0, .str [], .lst 4 []]) := by kernel_rfl
@[go_sem] theorem fo_75_0 : fieldOf E 75 0 = some (0, 3) := by kernel_rfl
@[go_sem] theorem fo_75_1 : fieldOf E 75 1 = some (1, 74) := by kernel_rfl
@[go_sem] theorem fo_75_2 : fieldOf E 75 2 = some (2, 9) := by kernel_rfl
@[go_sem] theorem fo_75_3 : fieldOf E 75 3 = some (3, 34) := by kernel_rfl
@[go_sem] theorem kd_76 : (E.ty 76).kd = (.struct [(0, 3), (1, 74), (2, 9), (3, 34)]) := by kernel_rfl
@[go_sem] theorem ok_76 : (E.ty 76).ok = true := by kernel_rfl
@[go_sem] theorem sz_76 : (E.ty 76).size = 4 := by kernel_rfl
@[go_sem] theorem ag_76 : (E.ty 76).agg = true := by kernel_rfl
@[go_sem] theorem by_76 : (E.ty 76).bytes = 56 := by kernel_rfl
@[go_sem] theorem ze_76 : (E.ty 76).zero = [.int .i64 0, .int .u64 0, .str [], .lst 4 []] := by kernel_rfl
@[go_sem] theorem pt_76 (o : Nat) (cs : List AV) : partO E 76 o cs = partA 4 o cs := partO_agg ag_76 sz_76 o cs
@[go_sem] theorem zo_76 : zeroOf E 76 = .pv (.agg [.int .i64 0, .int .u64 0, .str [], .lst 4 []]) := by kernel_rfl
@[go_sem] theorem fo_76_0 : fieldOf E 76 0 = some (0, 3) := by kernel_rfl
@[go_sem] theorem fo_76_1 : fieldOf E 76 1 = some (1, 74) := by kernel_rfl
@[go_sem] theorem fo_76_2 : fieldOf E 76 2 = some (2, 9) := by kernel_rfl
@[go_sem] theorem fo_76_3 : fieldOf E 76 3 = some (3, 34) := by kernel_rfl
@[go_sem] theorem kd_81 : (E.ty 81).kd = (.struct [(0, 3), (1, 3)]) := by kernel_rfl
@[go_sem] theorem ok_81 : (E.ty 81).ok = true := by kernel_rfl
@[go_sem] theorem sz_81 : (E.ty 81).size = 2 := by kernel_rfl
@[go_sem] theorem ag_81 : (E.ty 81).agg = true := by kernel_rfl
@[go_sem] theorem by_81 : (E.ty 81).bytes = 16 := by kernel_rfl
@[go_sem] theorem ze_81 : (E.ty 81).zero = [.int .i64 0, .int .i64 0] := by kernel_rfl
@[go_sem] theorem pt_81 (o : Nat) (cs : List AV) : partO E 81 o cs = partA 2 o cs := partO_agg ag_81 sz_81 o cs
@[go_sem] theorem zo_81 : zeroOf E 81 = .pv (.agg [.int .i64 0, .int .i64 0]) := by kernel_rfl
@[go_sem] theorem fo_81_0 : fieldOf E 81 0 = some (0, 3) := by kernel_rfl
@[go_sem] theorem fo_81_1 : fieldOf E 81 1 = some (1, 3) := by kernel_rfl
@[go_sem] theorem kd_82 : (E.ty 82).kd = (.struct [(0, 3), (1, 3)]) := by kernel_rfl
@[go_sem] theorem ok_82 : (E.ty 82).ok = true := by kernel_rfl
@[go_sem] theorem sz_82 : (E.ty 82).size = 2 := by kernel_rfl
@[go_sem] theorem ag_82 : (E.ty 82).agg = true := by kernel_rfl
@[go_sem] theorem by_82 : (E.ty 82).bytes = 16 := by kernel_rfl
@[go_sem] theorem ze_82 : (E.ty 82).zero = [.int .i64 0, .int .i64 0] := by kernel_rfl
@[go_sem] theorem pt_82 (o : Nat) (cs : List AV) : partO E 82 o cs = partA 2 o cs := partO_agg ag_82 sz_82 o cs
@[go_sem] theorem zo_82 : zeroOf E 82 = .pv (.agg [.int .i64 0, .int .i64 0]) := by kernel_rfl
@[go_sem] theorem fo_82_0 : fieldOf E 82 0 = some (0, 3) := by kernel_rfl
@[go_sem] theorem fo_82_1 : fieldOf E 82 1 = some (1, 3) := by kernel_rfl
@[go_sem] theorem kd_92 : (E.ty 92).kd = (.struct [(0, 3), (1, 3), (2, 3), (3, 3), (4, 3), (5, 4), (6, 4), (7, 4), (8, 4), (9, 4), (10, 4), (11, 4), (12, 9), (13, 9), (14, 9), (15, 9), (16, 9)]) := by kernel_rfl
@[go_sem] theorem ok_92 : (E.ty 92).ok = true := by kernel_rfl
@[go_sem] theorem sz_92 : (E.ty 92).size = 17 := by kernel_rfl
@[go_sem] theorem ag_92 : (E.ty 92).agg = true := by kernel_rfl
@[go_sem] theorem by_92 : (E.ty 92).bytes = 128 := by kernel_rfl
@[go_sem] theorem ze_92 : (E.ty 92).zero = [.int .i64 0, .int .i64 0, .int .i64 0, .int .i64 0, .int .i64 0, .bool false, .bool false, .bool false, .bool false, .bool false, .bool false, .bool false, .str [], .str [], .str [], .str [], .str []] := by kernel_rfl
@[go_sem] theorem pt_92 (o : Nat) (cs : List AV) : partO E 92 o cs = partA 17 o cs := partO_agg ag_92 sz_92 o cs
@[go_sem] theorem zo_92 : zeroOf E 92 = .pv (.agg [.int .i64 0, .int .i64 0, .int .i64 0, .int .i64 0, .int .i64 0, .bool false, .bool false, .bool false, .bool false, .bool false, .bool false, .bool false, .str [], .str [], .str [], .str [], .str []]) := by kernel_rfl
@[go_sem] theorem fo_92_0 : fieldOf E 92 0 = some (0, 3) := by kernel_rfl
@[go_sem] theorem fo_92_1 : fieldOf E 92 1 = some (1, 3) := by kernel_rfl
@[go_sem] theorem fo_92_2 : fieldOf E 92 2 = some (2, 3) := by kernel_rfl
@[go_sem] theorem fo_92_3 : fieldOf E 92 3 = some (3, 3) := by kernel_rfl
@[go_sem] theorem fo_92_4 : fieldOf E 92 4 = some (4, 3) := by kernel_rfl
@[go_sem] theorem fo_92_5 : fieldOf E 92 5 = some (5, 4) := by kernel_rfl
@[go_sem] theorem fo_92_6 : fieldOf E 92 6 = some (6, 4) := by kernel_rfl
@[go_sem] theorem fo_92_7 : fieldOf E 92 7 = some (7, 4) := by kernel_rfl
@[go_sem] theorem fo_92_8 : fieldOf E 92 8 = some (8, 4) := by kernel_rfl
@[go_sem] theorem fo_92_9 : fieldOf E 92 9 = some (9, 4) := by kernel_rfl
@[go_sem] theorem fo_92_10 : fieldOf E 92 10 = some (10, 4) := by kernel_rfl
@[go_sem] theorem fo_92_11 : fieldOf E 92 11 = some (11, 4) := by kernel_rfl
@[go_sem] theorem fo_92_12 : fieldOf E 92 12 = some (12, 9) := by kernel_rfl
@[go_sem] theorem fo_92_13 : fieldOf E 92 13 = some (13, 9) := by kernel_rfl
@[go_sem] theorem fo_92_14 : fieldOf E 92 14 = some (14, 9) := by kernel_rfl
@[go_sem] theorem fo_92_15 : fieldOf E 92 15 = some (15, 9) := by kernel_rfl
@[go_sem] theorem fo_92_16 : fieldOf E 92 16 = some (16, 9) := by kernel_rfl
@[go_sem] theorem kd_93 : (E.ty 93).kd = (.struct [(0, 3), (1, 3), (2, 3), (3, 3), (4, 3), (5, 4), (6, 4), (7, 4), (8, 4), (9, 4), (10, 4), (11, 4), (12, 9), (13, 9), (14, 9), (15, 9), (16, 9)]) := by kernel_rfl
@[go_sem] theorem ok_93 : (E.ty 93).ok = true := by kernel_rfl
@[go_sem] theorem sz_93 : (E.ty 93).size = 17 := by kernel_rfl
@[go_sem] theorem ag_93 : (E.ty 93).agg = true := by kernel_rfl
@[go_sem] theorem by_93 : (E.ty 93).bytes = 128 := by kernel_rfl
@[go_sem] theorem ze_93 : (E.ty 93).zero = [.int .i64 0, .int .i64 0, .int .i64 0, .int .i64 0, .int .i64 0, .bool false, .bool false, .bool false, .bool false, .bool false, .bool false, .bool false, .str [], .str [], .str [], .str [], .str []] := by kernel_rfl
@[go_sem] theorem pt_93 (o : Nat) (cs : List AV) : partO E 93 o cs = partA 17 o cs := partO_agg ag_93 sz_93 o cs
@[go_sem] theorem zo_93 : zeroOf E 93 = .pv (.agg [.int .i64 0, .int .i64 0, .int .i64 0, .int .i64 0, .int .i64 0, .bool false, .bool false, .bool false, .bool false, .bool false, .bool false, .bool false, .str [], .str [], .str [], .str [], .str []]) := by kernel_rfl
@[go_sem] theorem fo_93_0 : fieldOf E 93 0 = some (0, 3) := by kernel_rfl
@[go_sem] theorem fo_93_1 : fieldOf E 93 1 = some (1, 3) := by kernel_rfl
@[go_sem] theorem fo_93_2 : fieldOf E 93 2 = some (2, 3) := by kernel_rfl
@[go_sem] theorem fo_93_3 : fieldOf E 93 3 = some (3, 3) := by kernel_rfl
@[go_sem] theorem fo_93_4 : fieldOf E 93 4 = some (4, 3) := by kernel_rfl
@[go_sem] theorem fo_93_5 : fieldOf E 93 5 = some (5, 4) := by kernel_rfl
@[go_sem] theorem fo_93_6 : fieldOf E 93 6 = some (6, 4) := by kernel_rfl
@[go_sem] theorem fo_93_7 : fieldOf E 93 7 = some (7, 4) := by kernel_rfl
@[go_sem] theorem fo_93_8 : fieldOf E 93 8 = some (8, 4) := by kernel_rfl
@[go_sem] theorem fo_93_9 : fieldOf E 93 9 = some (9, 4) := by kernel_rfl
@[go_sem] theorem fo_93_10 : fieldOf E 93 10 = some (10, 4) := by kernel_rfl
@[go_sem] theorem fo_93_11 : fieldOf E 93 11 = some (11, 4) := by kernel_rfl
@[go_sem] theorem fo_93_12 : fieldOf E 93 12 = some (12, 9) := by kernel_rfl
@[go_sem] theorem fo_93_13 : fieldOf E 93 13 = some (13, 9) := by kernel_rfl
@[go_sem] theorem fo_93_14 : fieldOf E 93 14 = some (14, 9) := by kernel_rfl
@[go_sem] theorem fo_93_15 : fieldOf E 93 15 = some (15, 9) := by kernel_rfl
@[go_sem] theorem fo_93_16 : fieldOf E 93 16 = some (16, 9) := by kernel_rfl
@[go_sem] theorem kd_100 : (E.ty 100).kd = (.map 3 106) := by kernel_rfl
@[go_sem] theorem ok_100 : (E.ty 100).ok = true := by kernel_rfl
@[go_sem] theorem sz_100 : (E.ty 100).size = 1 := by kernel_rfl
@[go_sem] theorem ag_100 : (E.ty 100).agg = false := by kernel_rfl
@[go_sem] theorem by_100 : (E.ty 100).bytes = 8 := by kernel_rfl
@[go_sem] theorem ze_100 : (E.ty 100).zero = [.nilm] := by kernel_rfl
@[go_sem] theorem pt_100 (o : Nat) (cs : List AV) : partO E 100 o cs = cs[o]? := partO_scal ag_100 sz_100 o cs
@[go_sem] theorem zo_100 : zeroOf E 100 = .pv (.nilm) := by kernel_rfl
@[go_sem] theorem kd_102 : (E.ty 102).kd = (.array 64 3) := by kernel_rfl
@[go_sem] theorem ok_102 : (E.ty 102).ok = true := by kernel_rfl
@[go_sem] theorem sz_102 : (E.ty 102).size = 64 := by kernel_rfl
@[go_sem] theorem ag_102 : (E.ty 102).agg = true := by kernel_rfl
@[go_sem] theorem by_102 : (E.ty 102).bytes = 512 := by kernel_rfl
@[go_sem] theorem ze_102 : (E.ty 102).zero = List.replicate 64 (.int .i64 0) := by kernel_rfl
@[go_sem] theorem pt_102 (o : Nat) (cs : List AV) : partO E 102 o cs = partA 64 o cs := partO_agg ag_102 sz_102 o cs
@[go_sem] theorem zo_102 : zeroOf E 102 = .pv (.agg (List.replicate 64 (.int .i64 0))) := by kernel_rfl
@[go_sem] theorem ia_102 (b o : Nat) (i : AV) : iadrO E 102 (.ptr b o) i = arrP b o 1 (idxO i 64) := iadr_arr kd_102 sz_3 b o i
@[go_sem] theorem kd_103 : (E.ty 103).kd = (.array 64 3) := by kernel_rfl
@[go_sem] theorem ok_103 : (E.ty 103).ok = true := by kernel_rfl
@[go_sem] theorem sz_103 : (E.ty 103).size = 64 := by kernel_rfl
@[go_sem] theorem ag_103 : (E.ty 103).agg = true := by kernel_rfl
@[go_sem] theorem by_103 : (E.ty 103).bytes = 512 := by kernel_rfl
@[go_sem] theorem ze_103 : (E.ty 103).zero = List.replicate 64 (.int .i64 0) := by kernel_rfl
@[go_sem] theorem pt_103 (o : Nat) (cs : List AV) : partO E 103 o cs = partA 64 o cs := partO_agg ag_103 sz_103 o cs
@[go_sem] theorem zo_103 : zeroOf E 103 = .pv (.agg (List.replicate 64 (.int .i64 0))) := by kernel_rfl
@[go_sem] theorem ia_103 (b o : Nat) (i : AV) : iadrO E 103 (.ptr b o) i = arrP b o 1 (idxO i 64) := iadr_arr kd_103 sz_3 b o i
@[go_sem] theorem kd_104 : (E.ty 104).kd = (.slice 5) := by kernel_rfl
@[go_sem] theorem ok_104 : (E.ty 104).ok = true := by kernel_rfl
@[go_sem] theorem sz_104 : (E.ty 104).size = 1 := by kernel_rfl
@[go_sem] theorem ag_104 : (E.ty 104).agg = false := by kernel_rfl
@[go_sem] theorem by_104 : (E.ty 104).bytes = 24 := by kernel_rfl
@[go_sem] theorem ze_104 : (E.ty 104).zero = [.lst 1 []] := by kernel_rfl
@[go_sem] theorem es_104 : E.esz 104 = 1 := by kernel_rfl
@[go_sem] theorem pt_104 (o : Nat) (cs : List AV) : partO E 104 o cs = cs[o]? := partO_scal ag_104 sz_104 o cs
@[go_sem] theorem zo_104 : zeroOf E 104 = .pv (.lst 1 []) := by kernel_rfl
@[go_sem] theorem kd_105 : (E.ty 105).kd = (.struct [(0, 3), (1, 3), (2, 65), (3, 65)]) := by kernel_rfl
@[go_sem] theorem ok_105 : (E.ty 105).ok = true := by kernel_rfl
@[go_sem] theorem sz_105 : (E.ty 105).size = 4 := by kernel_rfl
@[go_sem] theorem ag_105 : (E.ty 105).agg = true := by kernel_rfl
@[go_sem] theorem by_105 : (E.ty 105).bytes = 24 := by kernel_rfl
@[go_sem] theorem ze_105 : (E.ty 105).zero = [.int .i64 0, .int .i64 0, .int .u32 0, .int .u32 0] := by kernel_rfl
@[go_sem] theorem pt_105 (o : Nat) (cs : List AV) : partO E 105 o cs = partA 4 o cs := partO_agg ag_105 sz_105 o cs
@[go_sem] theorem zo_105 : zeroOf E 105 = .pv (.agg [.int .i64 0, .int .i64 0, .int .u32 0, .int .u32 0]) := by kernel_rfl
@[go_sem] theorem fo_105_0 : fieldOf E 105 0 = some (0, 3) := by kernel_rfl
@[go_sem] theorem fo_105_1 : fieldOf E 105 1 = some (1, 3) := by kernel_rfl
@[go_sem] theorem fo_105_2 : fieldOf E 105 2 = some (2, 65) := by kernel_rfl
@[go_sem] theorem fo_105_3 : fieldOf E 105 3 = some (3, 65) := by kernel_rfl
@[go_sem] theorem kd_106 : (E.ty 106).kd = (.struct [(0, 3), (1, 3), (2, 65), (3, 65)]) := by kernel_rfl
@[go_sem] theorem ok_106 : (E.ty 106).ok = true := by kernel_rfl
@[go_sem] theorem sz_106 : (E.ty 106).size = 4 := by kernel_rfl
@[go_sem] theorem ag_106 : (E.ty 106).agg = true := by kernel_rfl
@[go_sem] theorem by_106 : (E.ty 106).bytes = 24 := by kernel_rfl
@[go_sem] theorem ze_106 : (E.ty 106).zero = [.int .i64 0, .int .i64 0, .int .u32 0, .int .u32 0] := by kernel_rfl
@[go_sem] theorem pt_106 (o : Nat) (cs : List AV) : partO E 106 o cs = partA 4 o cs := partO_agg ag_106 sz_106 o cs
@[go_sem] theorem zo_106 : zeroOf E 106 = .pv (.agg [.int .i64 0, .int .i64 0, .int .u32 0, .int .u32 0]) := by kernel_rfl
@[go_sem] theorem fo_106_0 : fieldOf E 106 0 = some (0, 3) := by kernel_rfl
@[go_sem] theorem fo_106_1 : fieldOf E 106 1 = some (1, 3) := by kernel_rfl
@[go_sem] theorem fo_106_2 : fieldOf E 106 2 = some (2, 65) := by kernel_rfl
@[go_sem] theorem fo_106_3 : fieldOf E 106 3 = some (3, 65) := by kernel_rfl
@[go_sem] theorem kd_108 : (E.ty 108).kd = .func := by kernel_rfl
@[go_sem] theorem ok_108 : (E.ty 108).ok = true := by kernel_rfl
@[go_sem] theorem sz_108 : (E.ty 108).size = 1 := by kernel_rfl
@[go_sem] theorem ag_108 : (E.ty 108).agg = false := by kernel_rfl
@[go_sem] theorem by_108 : (E.ty 108).bytes = 8 := by kernel_rfl
@[go_sem] theorem ze_108 : (E.ty 108).zero = [.nilf] := by kernel_rfl
@[go_sem] theorem pt_108 (o : Nat) (cs : List AV) : partO E 108 o cs = cs[o]? := partO_scal ag_108 sz_108 o cs
@[go_sem] theorem zo_108 : zeroOf E 108 = .pv (.nilf) := by kernel_rfl
@[go_sem] theorem kd_114 : (E.ty 114).kd = (.array 256 4) := by kernel_rfl
@[go_sem] theorem ok_114 : (E.ty 114).ok = true := by kernel_rfl
@[go_sem] theorem sz_114 : (E.ty 114).size = 256 := by kernel_rfl
@[go_sem] theorem ag_114 : (E.ty 114).agg = true := by kernel_rfl
@[go_sem] theorem by_114 : (E.ty 114).bytes = 256 := by kernel_rfl
@[go_sem] theorem ze_114 : (E.ty 114).zero = List.replicate 256 (.bool false) := by kernel_rfl
@[go_sem] theorem pt_114 (o : Nat) (cs : List AV) : partO E 114 o cs = partA 256 o cs := partO_agg ag_114 sz_114 o cs
@[go_sem] theorem zo_114 : zeroOf E 114 = .pv (.agg (List.replicate 256 (.bool false))) := by kernel_rfl
@[go_sem] theorem ia_114 (b o : Nat) (i : AV) : iadrO E 114 (.ptr b o) i = arrP b o 1 (idxO i 256) := iadr_arr kd_114 sz_4 b o i
@[go_sem] theorem kd_115 : (E.ty 115).kd = (.array 256 4) := by kernel_rfl
@[go_sem] theorem ok_115 : (E.ty 115).ok = true := by kernel_rfl
@[go_sem] theorem sz_115 : (E.ty 115).size = 256 := by kernel_rfl
@[go_sem] theorem ag_115 : (E.ty 115).agg = true := by kernel_rfl
@[go_sem] theorem by_115 : (E.ty 115).bytes = 256 := by kernel_rfl
@[go_sem] theorem ze_115 : (E.ty 115).zero = List.replicate 256 (.bool false) := by kernel_rfl
@[go_sem] theorem pt_115 (o : Nat) (cs : List AV) : partO E 115 o cs = partA 256 o cs := partO_agg ag_115 sz_115 o cs
@[go_sem] theorem zo_115 : zeroOf E 115 = .pv (.agg (List.replicate 256 (.bool false))) := by kernel_rfl
@[go_sem] theorem ia_115 (b o : Nat) (i : AV) : iadrO E 115 (.ptr b o) i = arrP b o 1 (idxO i 256) := iadr_arr kd_115 sz_4 b o i
@[go_sem] theorem kd_119 : (E.ty 119).kd = (.int .u64) := by kernel_rfl
@[go_sem] theorem ok_119 : (E.ty 119).ok = true := by kernel_rfl
@[go_sem] theorem sz_119 : (E.ty 119).size = 1 := by kernel_rfl
@[go_sem] theorem ag_119 : (E.ty 119).agg = false := by kernel_rfl
@[go_sem] theorem by_119 : (E.ty 119).bytes = 8 := by kernel_rfl
@[go_sem] theorem ze_119 : (E.ty 119).zero = [.int .u64 0] := by kernel_rfl
@[go_sem] theorem pt_119 (o : Nat) (cs : List AV) : partO E 119 o cs = cs[o]? := partO_scal ag_119 sz_119 o cs
@[go_sem] theorem zo_119 : zeroOf E 119 = .pv (.int .u64 0) := by kernel_rfl
@[go_sem] theorem kd_122 : (E.ty 122).kd = .func := by kernel_rfl
@[go_sem] theorem ok_122 : (E.ty 122).ok = true := by kernel_rfl
@[go_sem] theorem sz_122 : (E.ty 122).size = 1 := by kernel_rfl
@[go_sem] theorem ag_122 : (E.ty 122).agg = false := by kernel_rfl
@[go_sem] theorem by_122 : (E.ty 122).bytes = 8 := by kernel_rfl
@[go_sem] theorem ze_122 : (E.ty 122).zero = [.nilf] := by kernel_rfl
@[go_sem] theorem pt_122 (o : Nat) (cs : List AV) : partO E 122 o cs = cs[o]? := partO_scal ag_122 sz_122 o cs
@[go_sem] theorem zo_122 : zeroOf E 122 = .pv (.nilf) := by kernel_rfl
@[go_sem] theorem kd_127 : (E.ty 127).kd = .func := by kernel_rfl
@[go_sem] theorem ok_127 : (E.ty 127).ok = true := by kernel_rfl
@[go_sem] theorem sz_127 : (E.ty 127).size = 1 := by kernel_rfl
@[go_sem] theorem ag_127 : (E.ty 127).agg = false := by kernel_rfl
@[go_sem] theorem by_127 : (E.ty 127).bytes = 8 := by kernel_rfl
@[go_sem] theorem ze_127 : (E.ty 127).zero = [.nilf] := by kernel_rfl
@[go_sem] theorem pt_127 (o : Nat) (cs : List AV) : partO E 127 o cs = cs[o]? := partO_scal ag_127 sz_127 o cs
@[go_sem] theorem zo_127 : zeroOf E 127 = .pv (.nilf) := by kernel_rfl
@[go_sem] theorem kd_129 : (E.ty 129).kd = .func := by kernel_rfl
@[go_sem] theorem ok_129 : (E.ty 129).ok = true := by kernel_rfl
@[go_sem] theorem sz_129 : (E.ty 129).size = 1 := by kernel_rfl
@[go_sem] theorem ag_129 : (E.ty 129).agg = false := by kernel_rfl
@[go_sem] theorem by_129 : (E.ty 129).bytes = 8 := by kernel_rfl
@[go_sem] theorem ze_129 : (E.ty 129).zero = [.nilf] := by kernel_rfl
@[go_sem] theorem pt_129 (o : Nat) (cs : List AV) : partO E 129 o cs = cs[o]? := partO_scal ag_129 sz_129 o cs
@[go_sem] theorem zo_129 : zeroOf E 129 = .pv (.nilf) := by kernel_rfl
@[go_sem] theorem kd_131 : (E.ty 131).kd = (.ptr 103) := by kernel_rfl
@[go_sem] theorem ok_131 : (E.ty 131).ok = true := by kernel_rfl
@[go_sem] theorem sz_131 : (E.ty 131).size = 1 := by kernel_rfl
@[go_sem] theorem ag_131 : (E.ty 131).agg = false := by kernel_rfl
@[go_sem] theorem by_131 : (E.ty 131).bytes = 8 := by kernel_rfl
@[go_sem] theorem ze_131 : (E.ty 131).zero = [.nilp] := by kernel_rfl
@[go_sem] theorem pt_131 (o : Nat) (cs : List AV) : partO E 131 o cs = cs[o]? := partO_scal ag_131 sz_131 o cs
@[go_sem] theorem zo_131 : zeroOf E 131 = .pv (.nilp) := by kernel_rfl
@[go_sem] theorem kd_134 : (E.ty 134).kd = (.array 24 5) := by kernel_rfl
@[go_sem] theorem ok_134 : (E.ty 134).ok = true := by kernel_rfl
@[go_sem] theorem sz_134 : (E.ty 134).size = 24 := by kernel_rfl
@[go_sem] theorem ag_134 : (E.ty 134).agg = true := by kernel_rfl
@[go_sem] theorem by_134 : (E.ty 134).bytes = 24 := by kernel_rfl
@[go_sem] theorem ze_134 : (E.ty 134).zero = List.replicate 24 (.int .u8 0) := by kernel_rfl
@[go_sem] theorem pt_134 (o : Nat) (cs : List AV) : partO E 134 o cs = partA 24 o cs := partO_agg ag_134 sz_134 o cs
@[go_sem] theorem zo_134 : zeroOf E 134 = .pv (.agg (List.replicate 24 (.int .u8 0))) := by kernel_rfl
@[go_sem] theorem ia_134 (b o : Nat) (i : AV) : iadrO E 134 (.ptr b o) i = arrP b o 1 (idxO i 24) := iadr_arr kd_134 sz_5 b o i
@[go_sem] theorem kd_142 : (E.ty 142).kd = (.ptr 115) := by kernel_rfl
@[go_sem] theorem ok_142 : (E.ty 142).ok = true := by kernel_rfl
@[go_sem] theorem sz_142 : (E.ty 142).size = 1 := by kernel_rfl
@[go_sem] theorem ag_142 : (E.ty 142).agg = false := by kernel_rfl
@[go_sem] theorem by_142 : (E.ty 142).bytes = 8 := by kernel_rfl
@[go_sem] theorem ze_142 : (E.ty 142).zero = [.nilp] := by kernel_rfl
@[go_sem] theorem pt_142 (o : Nat) (cs : List AV) : partO E 142 o cs = cs[o]? := partO_scal ag_142 sz_142 o cs
@[go_sem] theorem zo_142 : zeroOf E 142 = .pv (.nilp) := by kernel_rfl
@[go_sem] theorem kd_149 : (E.ty 149).kd = (.array 20 74) := by kernel_rfl
@[go_sem] theorem ok_149 : (E.ty 149).ok = true := by kernel_rfl
@[go_sem] theorem sz_149 : (E.ty 149).size = 20 := by kernel_rfl
@[go_sem] theorem ag_149 : (E.ty 149).agg = true := by kernel_rfl
@[go_sem] theorem by_149 : (E.ty 149).bytes = 160 := by kernel_rfl
@[go_sem] theorem ze_149 : (E.ty 149).zero = List.replicate 20 (.int .u64 0) := by kernel_rfl
@[go_sem] theorem pt_149 (o : Nat) (cs : List AV) : partO E 149 o cs = partA 20 o cs := partO_agg ag_149 sz_149 o cs
@[go_sem] theorem zo_149 : zeroOf E 149 = .pv (.agg (List.replicate 20 (.int .u64 0))) := by kernel_rfl
@[go_sem] theorem ia_149 (b o : Nat) (i : AV) : iadrO E 149 (.ptr b o) i = arrP b o 1 (idxO i 20) := iadr_arr kd_149 sz_74 b o i
@[go_sem] theorem kd_150 : (E.ty 150).kd = (.array 65 5) := by kernel_rfl
@[go_sem] theorem ok_150 : (E.ty 150).ok = true := by kernel_rfl
@[go_sem] theorem sz_150 : (E.ty 150).size = 65 := by kernel_rfl
@[go_sem] theorem ag_150 : (E.ty 150).agg = true := by kernel_rfl
@[go_sem] theorem by_150 : (E.ty 150).bytes = 65 := by kernel_rfl
@[go_sem] theorem ze_150 : (E.ty 150).zero = List.replicate 65 (.int .u8 0) := by kernel_rfl
@[go_sem] theorem pt_150 (o : Nat) (cs : List AV) : partO E 150 o cs = partA 65 o cs := partO_agg ag_150 sz_150 o cs
@[go_sem] theorem zo_150 : zeroOf E 150 = .pv (.agg (List.replicate 65 (.int .u8 0))) := by kernel_rfl
@[go_sem] theorem ia_150 (b o : Nat) (i : AV) : iadrO E 150 (.ptr b o) i = arrP b o 1 (idxO i 65) := iadr_arr kd_150 sz_5 b o i
@[go_sem] theorem kd_153 : (E.ty 153).kd = (.ptr 183) := by kernel_rfl
@[go_sem] theorem ok_153 : (E.ty 153).ok = true := by kernel_rfl
@[go_sem] theorem sz_153 : (E.ty 153).size = 1 := by kernel_rfl
@[go_sem] theorem ag_153 : (E.ty 153).agg = false := by kernel_rfl
@[go_sem] theorem by_153 : (E.ty 153).bytes = 8 := by kernel_rfl
@[go_sem] theorem ze_153 : (E.ty 153).zero = [.nilp] := by kernel_rfl
@[go_sem] theorem pt_153 (o : Nat) (cs : List AV) : partO E 153 o cs = cs[o]? := partO_scal ag_153 sz_153 o cs
@[go_sem] theorem zo_153 : zeroOf E 153 = .pv (.nilp) := by kernel_rfl
@[go_sem] theorem kd_154 : (E.ty 154).kd = (.struct [(0, 153), (1, 3), (2, 33), (18, 104), (19, 4)]) := by kernel_rfl
@[go_sem] theorem ok_154 : (E.ty 154).ok = true := by kernel_rfl
@[go_sem] theorem sz_154 : (E.ty 154).size = 20 := by kernel_rfl
@[go_sem] theorem ag_154 : (E.ty 154).agg = true := by kernel_rfl
@[go_sem] theorem by_154 : (E.ty 154).bytes = 176 := by kernel_rfl
@[go_sem] theorem ze_154 : (E.ty 154).zero = [.nilp, .int .i64 0, .int .i64 0, .bool false, .int .i64 0, .bool false, .bool false, .bool false, .int .i64 0, .int .i64 0, .int .i64 0, .int .i64 0, .bool false, .int .i64 0, .int .i64 0, .int .i64 0, .str [], .str [], .lst 1 [], .bool false] := by kernel_rfl
@[go_sem] theorem pt_154 (o : Nat) (cs : List AV) : partO E 154 o cs = partA 20 o cs := partO_agg ag_154 sz_154 o cs
@[go_sem] theorem zo_154 : zeroOf E 154 = .pv (.agg [.nilp, .int .i64 0, .int .i64 0, .bool false, .int .i64 0, .bool false, .bool false, .bool false, .int .i64 0, .int .i64 0, .int .i64 0, .int .i64 0, .bool false, .int .i64 0, .int .i64 0, .int .i64 0, .str [], .str [], .lst 1 [], .bool false]) := by kernel_rfl
@[go_sem] theorem fo_154_0 : fieldOf E 154 0 = some (0, 153) := by kernel_rfl
@[go_sem] theorem fo_154_1 : fieldOf E 154 1 = some (1, 3) := by kernel_rfl
@[go_sem] theorem fo_154_2 : fieldOf E 154 2 = some (2, 33) := by kernel_rfl
@[go_sem] theorem fo_154_3 : fieldOf E 154 3 = some (18, 104) := by kernel_rfl
@[go_sem] theorem fo_154_4 : fieldOf E 154 4 = some (19, 4) := by kernel_rfl
@[go_sem] theorem kd_155 : (E.ty 155).kd = (.struct [(0, 153), (1, 3), (2, 33), (18, 104), (19, 4)]) := by kernel_rfl
@[go_sem] theorem ok_155 : (E.ty 155).ok = true := by kernel_rfl
@[go_sem] theorem sz_155 : (E.ty 155).size = 20 := by kernel_rfl
@[go_sem] theorem ag_155 : (E.ty 155).agg = true := by kernel_rfl
@[go_sem] theorem by_155 : (E.ty 155).bytes = 176 := by kernel_rfl
@[go_sem] theorem ze_155 : (E.ty 155).zero = [.nilp, .int .i64 0, .int .i64 0, .bool false, .int .i64 0, .bool false, .bool false, .bool false, .int .i64 0, .int .i64 0, .int .i64 0, .int .i64 0, .bool false, .int .i64 0, .int .i64 0, .int .i64 0, .str [], .str [], .lst 1 [], .bool false] := by kernel_rfl
@[go_sem] theorem pt_155 (o : Nat) (cs : List AV) : partO E 155 o cs = partA 20 o cs := partO_agg ag_155 sz_155 o cs
@[go_sem] theorem zo_155 : zeroOf E 155 = .pv (.agg [.nilp, .int .i64 0, .int .i64 0, .bool false, .int .i64 0, .bool false, .bool false, .bool false, .int .i64 0, .int .i64 0, .int .i64 0, .int .i64 0, .bool false, .int .i64 0, .int .i64 0, .int .i64 0, .str [], .str [], .lst 1 [], .bool false]) := by kernel_rfl
@[go_sem] theorem fo_155_0 : fieldOf E 155 0 = some (0, 153) := by kernel_rfl
@[go_sem] theorem fo_155_1 : fieldOf E 155 1 = some (1, 3) := by kernel_rfl
@[go_sem] theorem fo_155_2 : fieldOf E 155 2 = some (2, 33) := by kernel_rfl
@[go_sem] theorem fo_155_3 : fieldOf E 155 3 = some (18, 104) := by kernel_rfl
@[go_sem] theorem fo_155_4 : fieldOf E 155 4 = some (19, 4) := by kernel_rfl
@[go_sem] theorem kd_160 : (E.ty 160).kd = (.ptr 155) := by kernel_rfl
@[go_sem] theorem ok_160 : (E.ty 160).ok = true := by kernel_rfl
@[go_sem] theorem sz_160 : (E.ty 160).size = 1 := by kernel_rfl
@[go_sem] theorem ag_160 : (E.ty 160).agg = false := by kernel_rfl
@[go_sem] theorem by_160 : (E.ty 160).bytes = 8 := by kernel_rfl
@[go_sem] theorem ze_160 : (E.ty 160).zero = [.nilp] := by kernel_rfl
@[go_sem] theorem pt_160 (o : Nat) (cs : List AV) : partO E 160 o cs = cs[o]? := partO_scal ag_160 sz_160 o cs
@[go_sem] theorem zo_160 : zeroOf E 160 = .pv (.nilp) := by kernel_rfl
@[go_sem] theorem kd_161 : (E.ty 161).kd = (.slice 1) := by kernel_rfl
@[go_sem] theorem ok_161 : (E.ty 161).ok = true := by kernel_rfl
@[go_sem] theorem sz_161 : (E.ty 161).size = 1 := by kernel_rfl
@[go_sem] theorem ag_161 : (E.ty 161).agg = false := by kernel_rfl
@[go_sem] theorem by_161 : (E.ty 161).bytes = 24 := by kernel_rfl
@[go_sem] theorem ze_161 : (E.ty 161).zero = [.lst 1 []] := by kernel_rfl
@[go_sem] theorem es_161 : E.esz 161 = 1 := by kernel_rfl
@[go_sem] theorem pt_161 (o : Nat) (cs : List AV) : partO E 161 o cs = cs[o]? := partO_scal ag_161 sz_161 o cs
@[go_sem] theorem zo_161 : zeroOf E 161 = .pv (.lst 1 []) := by kernel_rfl
@[go_sem] theorem kd_165 : (E.ty 165).kd = (.array 32 5) := by kernel_rfl
@[go_sem] theorem ok_165 : (E.ty 165).ok = true := by kernel_rfl
@[go_sem] theorem sz_165 : (E.ty 165).size = 32 := by kernel_rfl
@[go_sem] theorem ag_165 : (E.ty 165).agg = true := by kernel_rfl
@[go_sem] theorem by_165 : (E.ty 165).bytes = 32 := by kernel_rfl
@[go_sem] theorem ze_165 : (E.ty 165).zero = List.replicate 32 (.int .u8 0) := by kernel_rfl
@[go_sem] theorem pt_165 (o : Nat) (cs : List AV) : partO E 165 o cs = partA 32 o cs := partO_agg ag_165 sz_165 o cs
@[go_sem] theorem zo_165 : zeroOf E 165 = .pv (.agg (List.replicate 32 (.int .u8 0))) := by kernel_rfl
@[go_sem] theorem ia_165 (b o : Nat) (i : AV) : iadrO E 165 (.ptr b o) i = arrP b o 1 (idxO i 32) := iadr_arr kd_165 sz_5 b o i
@[go_sem] theorem kd_166 : (E.ty 166).kd = (.array 64 5) := by kernel_rfl
@[go_sem] theorem ok_166 : (E.ty 166).ok = true := by kernel_rfl
@[go_sem] theorem sz_166 : (E.ty 166).size = 64 := by kernel_rfl
@[go_sem] theorem ag_166 : (E.ty 166).agg = true := by kernel_rfl
@[go_sem] theorem by_166 : (E.ty 166).bytes = 64 := by kernel_rfl
@[go_sem] theorem ze_166 : (E.ty 166).zero = List.replicate 64 (.int .u8 0) := by kernel_rfl
@[go_sem] theorem pt_166 (o : Nat) (cs : List AV) : partO E 166 o cs = partA 64 o cs := partO_agg ag_166 sz_166 o cs
@[go_sem] theorem zo_166 : zeroOf E 166 = .pv (.agg (List.replicate 64 (.int .u8 0))) := by kernel_rfl
@[go_sem] theorem ia_166 (b o : Nat) (i : AV) : iadrO E 166 (.ptr b o) i = arrP b o 1 (idxO i 64) := iadr_arr kd_166 sz_5 b o i
@[go_sem] theorem kd_169 : (E.ty 169).kd = (.slice 9) := by kernel_rfl
@[go_sem] theorem ok_169 : (E.ty 169).ok = true := by kernel_rfl
@[go_sem] theorem sz_169 : (E.ty 169).size = 1 := by kernel_rfl
@[go_sem] theorem ag_169 : (E.ty 169).agg = false := by kernel_rfl
@[go_sem] theorem by_169 : (E.ty 169).bytes = 24 := by kernel_rfl
@[go_sem] theorem ze_169 : (E.ty 169).zero = [.lst 1 []] := by kernel_rfl
@[go_sem] theorem es_169 : E.esz 169 = 1 := by kernel_rfl
@[go_sem] theorem pt_169 (o : Nat) (cs : List AV) : partO E 169 o cs = cs[o]? := partO_scal ag_169 sz_169 o cs
@[go_sem] theorem zo_169 : zeroOf E 169 = .pv (.lst 1 []) := by kernel_rfl
@[go_sem] theorem kd_172 : (E.ty 172).kd = (.ptr 3) := by kernel_rfl
@[go_sem] theorem ok_172 : (E.ty 172).ok = true := by kernel_rfl
@[go_sem] theorem sz_172 : (E.ty 172).size = 1 := by kernel_rfl
@[go_sem] theorem ag_172 : (E.ty 172).agg = false := by kernel_rfl
@[go_sem] theorem by_172 : (E.ty 172).bytes = 8 := by kernel_rfl
@[go_sem] theorem ze_172 : (E.ty 172).zero = [.nilp] := by kernel_rfl
@[go_sem] theorem pt_172 (o : Nat) (cs : List AV) : partO E 172 o cs = cs[o]? := partO_scal ag_172 sz_172 o cs
@[go_sem] theorem zo_172 : zeroOf E 172 = .pv (.nilp) := by kernel_rfl
@[go_sem] theorem kd_182 : (E.ty 182).kd = (.struct [(0, 9), (1, 3), (2, 41)]) := by kernel_rfl
@[go_sem] theorem ok_182 : (E.ty 182).ok = true := by kernel_rfl
@[go_sem] theorem sz_182 : (E.ty 182).size = 3 := by kernel_rfl
@[go_sem] theorem ag_182 : (E.ty 182).agg = true := by kernel_rfl
@[go_sem] theorem by_182 : (E.ty 182).bytes = 32 := by kernel_rfl
@[go_sem] theorem ze_182 : (E.ty 182).zero = [.str [], .int .i64 0, .int .i64 0] := by kernel_rfl
@[go_sem] theorem pt_182 (o : Nat) (cs : List AV) : partO E 182 o cs = partA 3 o cs := partO_agg ag_182 sz_182 o cs
@[go_sem] theorem zo_182 : zeroOf E 182 = .pv (.agg [.str [], .int .i64 0, .int .i64 0]) := by kernel_rfl
@[go_sem] theorem fo_182_0 : fieldOf E 182 0 = some (0, 9) := by kernel_rfl
@[go_sem] theorem fo_182_1 : fieldOf E 182 1 = some (1, 3) := by kernel_rfl
@[go_sem] theorem fo_182_2 : fieldOf E 182 2 = some (2, 41) := by kernel_rfl
@[go_sem] theorem kd_183 : (E.ty 183).kd = (.struct [(0, 9), (1, 3), (2, 41)]) := by kernel_rfl
@[go_sem] theorem ok_183 : (E.ty 183).ok = true := by kernel_rfl
@[go_sem] theorem sz_183 : (E.ty 183).size = 3 := by kernel_rfl
@[go_sem] theorem ag_183 : (E.ty 183).agg = true := by kernel_rfl
@[go_sem] theorem by_183 : (E.ty 183).bytes = 32 := by kernel_rfl
@[go_sem] theorem ze_183 : (E.ty 183).zero = [.str [], .int .i64 0, .int .i64 0] := by kernel_rfl
@[go_sem] theorem pt_183 (o : Nat) (cs : List AV) : partO E 183 o cs = partA 3 o cs := partO_agg ag_183 sz_183 o cs
@[go_sem] theorem zo_183 : zeroOf E 183 = .pv (.agg [.str [], .int .i64 0, .int .i64 0]) := by kernel_rfl
@[go_sem] theorem fo_183_0 : fieldOf E 183 0 = some (0, 9) := by kernel_rfl
@[go_sem] theorem fo_183_1 : fieldOf E 183 1 = some (1, 3) := by kernel_rfl
@[go_sem] theorem fo_183_2 : fieldOf E 183 2 = some (2, 41) := by kernel_rfl
@[go_sem] theorem kd_189 : (E.ty 189).kd = (.array 256 5) := by kernel_rfl
@[go_sem] theorem ok_189 : (E.ty 189).ok = true := by kernel_rfl
@[go_sem] theorem sz_189 : (E.ty 189).size = 256 := by kernel_rfl
@[go_sem] theorem ag_189 : (E.ty 189).agg = true := by kernel_rfl
@[go_sem] theorem by_189 : (E.ty 189).bytes = 256 := by kernel_rfl
@[go_sem] theorem ze_189 : (E.ty 189).zero = List.replicate 256 (.int .u8 0) := by kernel_rfl
@[go_sem] theorem pt_189 (o : Nat) (cs : List AV) : partO E 189 o cs = partA 256 o cs := partO_agg ag_189 sz_189 o cs
@[go_sem] theorem zo_189 : zeroOf E 189 = .pv (.agg (List.replicate 256 (.int .u8 0))) := by kernel_rfl
@[go_sem] theorem ia_189 (b o : Nat) (i : AV) : iadrO E 189 (.ptr b o) i = arrP b o 1 (idxO i 256) := iadr_arr kd_189 sz_5 b o i
@[go_sem] theorem kd_190 : (E.ty 190).kd = (.struct [(0, 5), (1, 5)]) := by kernel_rfl
@[go_sem] theorem ok_190 : (E.ty 190).ok = true := by kernel_rfl
@[go_sem] theorem sz_190 : (E.ty 190).size = 2 := by kernel_rfl
@[go_sem] theorem ag_190 : (E.ty 190).agg = true := by kernel_rfl
@[go_sem] theorem by_190 : (E.ty 190).bytes = 2 := by kernel_rfl
@[go_sem] theorem ze_190 : (E.ty 190).zero = [.int .u8 0, .int .u8 0] := by kernel_rfl
@[go_sem] theorem pt_190 (o : Nat) (cs : List AV) : partO E 190 o cs = partA 2 o cs := partO_agg ag_190 sz_190 o cs
@[go_sem] theorem zo_190 : zeroOf E 190 = .pv (.agg [.int .u8 0, .int .u8 0]) := by kernel_rfl
@[go_sem] theorem fo_190_0 : fieldOf E 190 0 = some (0, 5) := by kernel_rfl
@[go_sem] theorem fo_190_1 : fieldOf E 190 1 = some (1, 5) := by kernel_rfl
@[go_sem] theorem kd_191 : (E.ty 191).kd = (.struct [(0, 5), (1, 5)]) := by kernel_rfl
@[go_sem] theorem ok_191 : (E.ty 191).ok = true := by kernel_rfl
@[go_sem] theorem sz_191 : (E.ty 191).size = 2 := by kernel_rfl
@[go_sem] theorem ag_191 : (E.ty 191).agg = true := by kernel_rfl
@[go_sem] theorem by_191 : (E.ty 191).bytes = 2 := by kernel_rfl
@[go_sem] theorem ze_191 : (E.ty 191).zero = [.int .u8 0, .int .u8 0] := by kernel_rfl
@[go_sem] theorem pt_191 (o : Nat) (cs : List AV) : partO E 191 o cs = partA 2 o cs := partO_agg ag_191 sz_191 o cs
@[go_sem] theorem zo_191 : zeroOf E 191 = .pv (.agg [.int .u8 0, .int .u8 0]) := by kernel_rfl
@[go_sem] theorem fo_191_0 : fieldOf E 191 0 = some (0, 5) := by kernel_rfl
@[go_sem] theorem fo_191_1 : fieldOf E 191 1 = some (1, 5) := by kernel_rfl
@[go_sem] theorem kd_192 : (E.ty 192).kd = (.array 16 191) := by kernel_rfl
@[go_sem] theorem ok_192 : (E.ty 192).ok = true := by kernel_rfl
@[go_sem] theorem sz_192 : (E.ty 192).size = 32 := by kernel_rfl
@[go_sem] theorem ag_192 : (E.ty 192).agg = true := by kernel_rfl
@[go_sem] theorem by_192 : (E.ty 192).bytes = 32 := by kernel_rfl
@[go_sem] theorem ze_192 : (E.ty 192).zero = List.replicate 32 (.int .u8 0) := by kernel_rfl
@[go_sem] theorem pt_192 (o : Nat) (cs : List AV) : partO E 192 o cs = partA 32 o cs := partO_agg ag_192 sz_192 o cs
@[go_sem] theorem zo_192 : zeroOf E 192 = .pv (.agg (List.replicate 32 (.int .u8 0))) := by kernel_rfl
@[go_sem] theorem ia_192 (b o : Nat) (i : AV) : iadrO E 192 (.ptr b o) i = arrP b o 2 (idxO i 16) := iadr_arr kd_192 sz_191 b o i
@[go_sem] theorem ial_22 (es : List AV) (k : IntKind) (i : Int) : iadrO E 22 (.lst 4 es) (.pv (.int k i)) = idxL es i := iadr_L kd_22 sz_67 es k i
@[go_sem] theorem ial_23 (es : List AV) (k : IntKind) (i : Int) : iadrO E 23 (.lst 2 es) (.pv (.int k i)) = idxL es i := iadr_L kd_23 sz_72 es k i
@[go_sem] theorem ial_26 (es : List AV) (k : IntKind) (i : Int) : iadrO E 26 (.lst 1 es) (.pv (.int k i)) = idxL es i := iadr_L kd_26 sz_3 es k i
@[go_sem] theorem ial_27 (es : List AV) (k : IntKind) (i : Int) : iadrO E 27 (.lst 5 es) (.pv (.int k i)) = idxL es i := iadr_L kd_27 sz_69 es k i
@[go_sem] theorem ial_34 (es : List AV) (k : IntKind) (i : Int) : iadrO E 34 (.lst 4 es) (.pv (.int k i)) = idxL es i := iadr_L kd_34 sz_76 es k i
@[go_sem] theorem ial_58 (es : List AV) (k : IntKind) (i : Int) : iadrO E 58 (.lst 2 es) (.pv (.int k i)) = idxL es i := iadr_L kd_58 sz_54 es k i
@[go_sem] theorem lu_62 (H : Hp) (m : AV) (k : IntKind) (n : Int) (ok : Bool) : lookO E 62 H m (.pv (.int k n)) ok = lookF ok (zeroOf E 60) (findM (mapAt H m) (.int k n)) := lookO_of kd_62 (by rw [kd_3]; rfl) (by kernel_rfl) H m ok
@[go_sem] theorem lu_100 (H : Hp) (m : AV) (k : IntKind) (n : Int) (ok : Bool) : lookO E 100 H m (.pv (.int k n)) ok = lookF ok (zeroOf E 106) (findM (mapAt H m) (.int k n)) := lookO_of kd_100 (by rw [kd_3]; rfl) (by kernel_rfl) H m ok
@[go_sem] theorem ial_104 (es : List AV) (k : IntKind) (i : Int) : iadrO E 104 (.lst 1 es) (.pv (.int k i)) = idxL es i := iadr_L kd_104 sz_5 es k i
@[go_sem] theorem ial_161 (es : List AV) (k : IntKind) (i : Int) : iadrO E 161 (.lst 1 es) (.pv (.int k i)) = idxL es i := iadr_L kd_161 sz_1 es k i
@[go_sem] theorem ial_169 (es : List AV) (k : IntKind) (i : Int) : iadrO E 169 (.lst 1 es) (.pv (.int k i)) = idxL es i := iadr_L kd_169 sz_9 es k i
@[go_sem ↓] theorem fld_67_0 (x : GProp) : fieldO E 67 (.pv x.pv) 0 = some (.pv (.int .i64 x.id)) := by kernel_rfl
@[go_sem ↓] theorem fld_66_0 (x : GProp) : fieldO E 66 (.pv x.pv) 0 = some (.pv (.int .i64 x.id)) := by kernel_rfl
@[go_sem ↓] theorem fld_67_1 (x : GProp) : fieldO E 67 (.pv x.pv) 1 = some (.pv (.int .u32 x.n)) := by kernel_rfl
@[go_sem ↓] theorem fld_66_1 (x : GProp) : fieldO E 66 (.pv x.pv) 1 = some (.pv (.int .u32 x.n)) := by kernel_rfl
@[go_sem ↓] theorem fld_67_2 (x : GProp) : fieldO E 67 (.pv x.pv) 2 = some (.pv (.str x.text)) := by kernel_rfl
@[go_sem ↓] theorem fld_66_2 (x : GProp) : fieldO E 66 (.pv x.pv) 2 = some (.pv (.str x.text)) := by kernel_rfl
@[go_sem ↓] theorem fld_67_3 (x : GProp) : fieldO E 67 (.pv x.pv) 3 = some (.pv (.str x.value)) := by kernel_rfl
@[go_sem ↓] theorem fld_66_3 (x : GProp) : fieldO E 66 (.pv x.pv) 3 = some (.pv (.str x.value)) := by kernel_rfl
@[go_sem high] theorem prt_67_0_3 (x : GProp) : partO E 3 0 x.avs = some (.pv (.int .i64 x.id)) := by kernel_rfl
@[go_sem high] theorem prt_67_1_65 (x : GProp) : partO E 65 1 x.avs = some (.pv (.int .u32 x.n)) := by kernel_rfl
@[go_sem high] theorem prd_67_1_65 (x : GProp) : partO E 65 0 (x.avs.drop 1) = some (.pv (.int .u32 x.n)) := by kernel_rfl
@[go_sem high] theorem prt_67_2_9 (x : GProp) : partO E 9 2 x.avs = some (.pv (.str x.text)) := by kernel_rfl
@[go_sem high] theorem prd_67_2_9 (x : GProp) : partO E 9 0 (x.avs.drop 2) = some (.pv (.str x.text)) := by kernel_rfl
@[go_sem high] theorem prt_67_3_9 (x : GProp) : partO E 9 3 x.avs = some (.pv (.str x.value)) := by kernel_rfl
@[go_sem high] theorem prd_67_3_9 (x : GProp) : partO E 9 0 (x.avs.drop 3) = some (.pv (.str x.value)) := by kernel_rfl
@[go_sem ↓] theorem eq_67 (x y : GProp) : binO (E.ty 67) .eql (.pv x.pv) (.pv y.pv) = some (.pv (.bool (decide (x = y)))) := by rw [GProp.pv_eq, GProp.pv_eq]; exact eq_struct kd_67 (show (E.ty 67).eqk = [.i, .i, .s, .s] by kernel_rfl) (GProp.eqs x y)
@[go_sem ↓] theorem ne_67 (x y : GProp) : binO (E.ty 67) .neq (.pv x.pv) (.pv y.pv) = some (.pv (.bool (!decide (x = y)))) := by rw [GProp.pv_eq, GProp.pv_eq]; exact ne_struct kd_67 (show (E.ty 67).eqk = [.i, .i, .s, .s] by kernel_rfl) (GProp.eqs x y)
@[go_sem ↓] theorem eq_66 (x y : GProp) : binO (E.ty 66) .eql (.pv x.pv) (.pv y.pv) = some (.pv (.bool (decide (x = y)))) := by rw [GProp.pv_eq, GProp.pv_eq]; exact eq_struct kd_66 (show (E.ty 66).eqk = [.i, .i, .s, .s] by kernel_rfl) (GProp.eqs x y)
@[go_sem ↓] theorem ne_66 (x y : GProp) : binO (E.ty 66) .neq (.pv x.pv) (.pv y.pv) = some (.pv (.bool (!decide (x = y)))) := by rw [GProp.pv_eq, GProp.pv_eq]; exact ne_struct kd_66 (show (E.ty 66).eqk = [.i, .i, .s, .s] by kernel_rfl) (GProp.eqs x y)
@[go_sem high] theorem prw_67_67 (x : GProp) : partO E 67 0 x.avs = some (.pv x.pv) := by kernel_rfl
@[go_sem high] theorem prw_67_66 (x : GProp) : partO E 66 0 x.avs = some (.pv x.pv) := by kernel_rfl
@[go_sem ↓] theorem fld_25_0 (x : GWill) : fieldO E 25 (.pv x.pv) 0 = some (.pv (.str x.topic)) := by kernel_rfl
@[go_sem ↓] theorem fld_24_0 (x : GWill) : fieldO E 24 (.pv x.pv) 0 = some (.pv (.str x.topic)) := by kernel_rfl
@[go_sem ↓] theorem fld_25_1 (x : GWill) : fieldO E 25 (.pv x.pv) 1 = some (.pv (.str x.payload)) := by kernel_rfl
@[go_sem ↓] theorem fld_24_1 (x : GWill) : fieldO E 24 (.pv x.pv) 1 = some (.pv (.str x.payload)) := by kernel_rfl
@[go_sem ↓] theorem fld_25_2 (x : GWill) : fieldO E 25 (.pv x.pv) 2 = some (.pv (.int .i64 x.qos)) := by kernel_rfl
@[go_sem ↓] theorem fld_24_2 (x : GWill) : fieldO E 24 (.pv x.pv) 2 = some (.pv (.int .i64 x.qos)) := by kernel_rfl
@[go_sem ↓] theorem fld_25_3 (x : GWill) : fieldO E 25 (.pv x.pv) 3 = some (.pv (.bool x.retain)) := by kernel_rfl
@[go_sem ↓] theorem fld_24_3 (x : GWill) : fieldO E 24 (.pv x.pv) 3 = some (.pv (.bool x.retain)) := by kernel_rfl
@[go_sem ↓] theorem fld_25_4 (x : GWill) : fieldO E 25 (.pv x.pv) 4 = some (.pv (.lst 4 (List.map GProp.pv x.props))) := by kernel_rfl
@[go_sem ↓] theorem fld_24_4 (x : GWill) : fieldO E 24 (.pv x.pv) 4 = some (.pv (.lst 4 (List.map GProp.pv x.props))) := by kernel_rfl
@[go_sem high] theorem prt_25_0_9 (x : GWill) : partO E 9 0 x.avs = some (.pv (.str x.topic)) := by kernel_rfl
@[go_sem high] theorem prt_25_1_9 (x : GWill) : partO E 9 1 x.avs = some (.pv (.str x.payload)) := by kernel_rfl
@[go_sem high] theorem prd_25_1_9 (x : GWill) : partO E 9 0 (x.avs.drop 1) = some (.pv (.str x.payload)) := by kernel_rfl
@[go_sem high] theorem prt_25_2_3 (x : GWill) : partO E 3 2 x.avs = some (.pv (.int .i64 x.qos)) := by kernel_rfl
@[go_sem high] theorem prd_25_2_3 (x : GWill) : partO E 3 0 (x.avs.drop 2) = some (.pv (.int .i64 x.qos)) := by kernel_rfl
@[go_sem high] theorem prt_25_3_4 (x : GWill) : partO E 4 3 x.avs = some (.pv (.bool x.retain)) := by kernel_rfl
@[go_sem high] theorem prd_25_3_4 (x : GWill) : partO E 4 0 (x.avs.drop 3) = some (.pv (.bool x.retain)) := by kernel_rfl
@[go_sem high] theorem prt_25_4_22 (x : GWill) : partO E 22 4 x.avs = some (.pv (.lst 4 (List.map GProp.pv x.props))) := by kernel_rfl
@[go_sem high] theorem prd_25_4_22 (x : GWill) : partO E 22 0 (x.avs.drop 4) = some (.pv (.lst 4 (List.map GProp.pv x.props))) := by kernel_rfl
@[go_sem high] theorem prw_25_25 (x : GWill) : partO E 25 0 x.avs = some (.pv x.pv) := by kernel_rfl
@[go_sem high] theorem prw_25_24 (x : GWill) : partO E 24 0 x.avs = some (.pv x.pv) := by kernel_rfl
@[go_sem ↓] theorem fld_69_0 (x : GFilter) : fieldO E 69 (.pv x.pv) 0 = some (.pv (.str x.topic)) := by kernel_rfl
@[go_sem ↓] theorem fld_68_0 (x : GFilter) : fieldO E 68 (.pv x.pv) 0 = some (.pv (.str x.topic)) := by kernel_rfl
@[go_sem ↓] theorem fld_69_1 (x : GFilter) : fieldO E 69 (.pv x.pv) 1 = some (.pv (.int .i64 x.qos)) := by kernel_rfl
@[go_sem ↓] theorem fld_68_1 (x : GFilter) : fieldO E 68 (.pv x.pv) 1 = some (.pv (.int .i64 x.qos)) := by kernel_rfl
@[go_sem ↓] theorem fld_69_2 (x : GFilter) : fieldO E 69 (.pv x.pv) 2 = some (.pv (.bool x.nolocal)) := by kernel_rfl
@[go_sem ↓] theorem fld_68_2 (x : GFilter) : fieldO E 68 (.pv x.pv) 2 = some (.pv (.bool x.nolocal)) := by kernel_rfl
@[go_sem ↓] theorem fld_69_3 (x : GFilter) : fieldO E 69 (.pv x.pv) 3 = some (.pv (.bool x.aspublished)) := by kernel_rfl
@[go_sem ↓] theorem fld_68_3 (x : GFilter) : fieldO E 68 (.pv x.pv) 3 = some (.pv (.bool x.aspublished)) := by kernel_rfl
@[go_sem ↓] theorem fld_69_4 (x : GFilter) : fieldO E 69 (.pv x.pv) 4 = some (.pv (.int .i64 x.handling)) := by kernel_rfl
@[go_sem ↓] theorem fld_68_4 (x : GFilter) : fieldO E 68 (.pv x.pv) 4 = some (.pv (.int .i64 x.handling)) := by kernel_rfl
@[go_sem high] theorem prt_69_0_9 (x : GFilter) : partO E 9 0 x.avs = some (.pv (.str x.topic)) := by kernel_rfl
@[go_sem high] theorem prt_69_1_3 (x : GFilter) : partO E 3 1 x.avs = some (.pv (.int .i64 x.qos)) := by kernel_rfl
@[go_sem high] theorem prd_69_1_3 (x : GFilter) : partO E 3 0 (x.avs.drop 1) = some (.pv (.int .i64 x.qos)) := by kernel_rfl
@[go_sem high] theorem prt_69_2_4 (x : GFilter) : partO E 4 2 x.avs = some (.pv (.bool x.nolocal)) := by kernel_rfl
@[go_sem high] theorem prd_69_2_4 (x : GFilter) : partO E 4 0 (x.avs.drop 2) = some (.pv (.bool x.nolocal)) := by kernel_rfl
@[go_sem high] theorem prt_69_3_4 (x : GFilter) : partO E 4 3 x.avs = some (.pv (.bool x.aspublished)) := by kernel_rfl
@[go_sem high] theorem prd_69_3_4 (x : GFilter) : partO E 4 0 (x.avs.drop 3) = some (.pv (.bool x.aspublished)) := by kernel_rfl
@[go_sem high] theorem prt_69_4_3 (x : GFilter) : partO E 3 4 x.avs = some (.pv (.int .i64 x.handling)) := by kernel_rfl
@[go_sem high] theorem prd_69_4_3 (x : GFilter) : partO E 3 0 (x.avs.drop 4) = some (.pv (.int .i64 x.handling)) := by kernel_rfl
@[go_sem ↓] theorem eq_69 (x y : GFilter) : binO (E.ty 69) .eql (.pv x.pv) (.pv y.pv) = some (.pv (.bool (decide (x = y)))) := by rw [GFilter.pv_eq, GFilter.pv_eq]; exact eq_struct kd_69 (show (E.ty 69).eqk = [.s, .i, .b, .b, .i] by kernel_rfl) (GFilter.eqs x y)
@[go_sem ↓] theorem ne_69 (x y : GFilter) : binO (E.ty 69) .neq (.pv x.pv) (.pv y.pv) = some (.pv (.bool (!decide (x = y)))) := by rw [GFilter.pv_eq, GFilter.pv_eq]; exact ne_struct kd_69 (show (E.ty 69).eqk = [.s, .i, .b, .b, .i] by kernel_rfl) (GFilter.eqs x y)
@[go_sem ↓] theorem eq_68 (x y : GFilter) : binO (E.ty 68) .eql (.pv x.pv) (.pv y.pv) = some (.pv (.bool (decide (x = y)))) := by rw [GFilter.pv_eq, GFilter.pv_eq]; exact eq_struct kd_68 (show (E.ty 68).eqk = [.s, .i, .b, .b, .i] by kernel_rfl) (GFilter.eqs x y)
@[go_sem ↓] theorem ne_68 (x y : GFilter) : binO (E.ty 68) .neq (.pv x.pv) (.pv y.pv) = some (.pv (.bool (!decide (x = y)))) := by rw [GFilter.pv_eq, GFilter.pv_eq]; exact ne_struct kd_68 (show (E.ty 68).eqk = [.s, .i, .b, .b, .i] by kernel_rfl) (GFilter.eqs x y)
@[go_sem high] theorem prw_69_69 (x : GFilter) : partO E 69 0 x.avs = some (.pv x.pv) := by kernel_rfl
@[go_sem high] theorem prw_69_68 (x : GFilter) : partO E 68 0 x.avs = some (.pv x.pv) := by kernel_rfl
@[go_sem ↓] theorem fld_29_0 (x : GPacket) : fieldO E 29 (.pv x.pv) 0 = some (.pv (.int .i64 x.kind)) := by kernel_rfl
@[go_sem ↓] theorem fld_28_0 (x : GPacket) : fieldO E 28 (.pv x.pv) 0 = some (.pv (.int .i64 x.kind)) := by kernel_rfl
@[go_sem ↓] theorem fld_29_1 (x : GPacket) : fieldO E 29 (.pv x.pv) 1 = some (.pv (.bool x.dup)) := by kernel_rfl
@[go_sem ↓] theorem fld_28_1 (x : GPacket) : fieldO E 28 (.pv x.pv) 1 = some (.pv (.bool x.dup)) := by kernel_rfl
@[go_sem ↓] theorem fld_29_2 (x : GPacket) : fieldO E 29 (.pv x.pv) 2 = some (.pv (.bool x.retain)) := by kernel_rfl
@[go_sem ↓] theorem fld_28_2 (x : GPacket) : fieldO E 28 (.pv x.pv) 2 = some (.pv (.bool x.retain)) := by kernel_rfl
@[go_sem ↓] theorem fld_29_3 (x : GPacket) : fieldO E 29 (.pv x.pv) 3 = some (.pv (.int .i64 x.qos)) := by kernel_rfl
@[go_sem ↓] theorem fld_28_3 (x : GPacket) : fieldO E 28 (.pv x.pv) 3 = some (.pv (.int .i64 x.qos)) := by kernel_rfl
@[go_sem ↓] theorem fld_29_4 (x : GPacket) : fieldO E 29 (.pv x.pv) 4 = some (.pv (.int .i64 x.id)) := by kernel_rfl
@[go_sem ↓] theorem fld_28_4 (x : GPacket) : fieldO E 28 (.pv x.pv) 4 = some (.pv (.int .i64 x.id)) := by kernel_rfl
@[go_sem ↓] theorem fld_29_5 (x : GPacket) : fieldO E 29 (.pv x.pv) 5 = some (.pv (.str x.topic)) := by kernel_rfl
@[go_sem ↓] theorem fld_28_5 (x : GPacket) : fieldO E 28 (.pv x.pv) 5 = some (.pv (.str x.topic)) := by kernel_rfl
@[go_sem ↓] theorem fld_29_6 (x : GPacket) : fieldO E 29 (.pv x.pv) 6 = some (.pv (.str x.payload)) := by kernel_rfl
@[go_sem ↓] theorem fld_28_6 (x : GPacket) : fieldO E 28 (.pv x.pv) 6 = some (.pv (.str x.payload)) := by kernel_rfl
@[go_sem ↓] theorem fld_29_7 (x : GPacket) : fieldO E 29 (.pv x.pv) 7 = some (.pv (.bool x.clean)) := by kernel_rfl
@[go_sem ↓] theorem fld_28_7 (x : GPacket) : fieldO E 28 (.pv x.pv) 7 = some (.pv (.bool x.clean)) := by kernel_rfl
@[go_sem ↓] theorem fld_29_8 (x : GPacket) : fieldO E 29 (.pv x.pv) 8 = some (.pv (.int .i64 x.keepalive)) := by kernel_rfl
@[go_sem ↓] theorem fld_28_8 (x : GPacket) : fieldO E 28 (.pv x.pv) 8 = some (.pv (.int .i64 x.keepalive)) := by kernel_rfl
@[go_sem ↓] theorem fld_29_9 (x : GPacket) : fieldO E 29 (.pv x.pv) 9 = some (.pv (.str x.client)) := by kernel_rfl
@[go_sem ↓] theorem fld_28_9 (x : GPacket) : fieldO E 28 (.pv x.pv) 9 = some (.pv (.str x.client)) := by kernel_rfl
@[go_sem ↓] theorem fld_29_10 (x : GPacket) : fieldO E 29 (.pv x.pv) 10 = some (.pv (.bool x.hasuser)) := by kernel_rfl
@[go_sem ↓] theorem fld_28_10 (x : GPacket) : fieldO E 28 (.pv x.pv) 10 = some (.pv (.bool x.hasuser)) := by kernel_rfl
@[go_sem ↓] theorem fld_29_11 (x : GPacket) : fieldO E 29 (.pv x.pv) 11 = some (.pv (.str x.user)) := by kernel_rfl
@[go_sem ↓] theorem fld_28_11 (x : GPacket) : fieldO E 28 (.pv x.pv) 11 = some (.pv (.str x.user)) := by kernel_rfl
@[go_sem ↓] theorem fld_29_12 (x : GPacket) : fieldO E 29 (.pv x.pv) 12 = some (.pv (.bool x.haspass)) := by kernel_rfl
@[go_sem ↓] theorem fld_28_12 (x : GPacket) : fieldO E 28 (.pv x.pv) 12 = some (.pv (.bool x.haspass)) := by kernel_rfl
@[go_sem ↓] theorem fld_29_13 (x : GPacket) : fieldO E 29 (.pv x.pv) 13 = some (.pv (.str x.pass)) := by kernel_rfl
@[go_sem ↓] theorem fld_28_13 (x : GPacket) : fieldO E 28 (.pv x.pv) 13 = some (.pv (.str x.pass)) := by kernel_rfl
@[go_sem ↓] theorem fld_29_14 (x : GPacket) : fieldO E 29 (.pv x.pv) 14 = some (.pv (.bool x.haswill)) := by kernel_rfl
@[go_sem ↓] theorem fld_28_14 (x : GPacket) : fieldO E 28 (.pv x.pv) 14 = some (.pv (.bool x.haswill)) := by kernel_rfl
@[go_sem ↓] theorem fld_29_15 (x : GPacket) : fieldO E 29 (.pv x.pv) 15 = some (.pv (x.will.pv)) := by kernel_rfl
@[go_sem ↓] theorem fld_28_15 (x : GPacket) : fieldO E 28 (.pv x.pv) 15 = some (.pv (x.will.pv)) := by kernel_rfl
@[go_sem ↓] theorem fld_29_16 (x : GPacket) : fieldO E 29 (.pv x.pv) 16 = some (.pv (.bool x.session)) := by kernel_rfl
@[go_sem ↓] theorem fld_28_16 (x : GPacket) : fieldO E 28 (.pv x.pv) 16 = some (.pv (.bool x.session)) := by kernel_rfl
@[go_sem ↓] theorem fld_29_17 (x : GPacket) : fieldO E 29 (.pv x.pv) 17 = some (.pv (.int .i64 x.code)) := by kernel_rfl
@[go_sem ↓] theorem fld_28_17 (x : GPacket) : fieldO E 28 (.pv x.pv) 17 = some (.pv (.int .i64 x.code)) := by kernel_rfl
@[go_sem ↓] theorem fld_29_18 (x : GPacket) : fieldO E 29 (.pv x.pv) 18 = some (.pv (.lst 1 (List.map (fun z => PV.int .i64 z) x.codes))) := by kernel_rfl
@[go_sem ↓] theorem fld_28_18 (x : GPacket) : fieldO E 28 (.pv x.pv) 18 = some (.pv (.lst 1 (List.map (fun z => PV.int .i64 z) x.codes))) := by kernel_rfl
@[go_sem ↓] theorem fld_29_19 (x : GPacket) : fieldO E 29 (.pv x.pv) 19 = some (.pv (.lst 5 (List.map GFilter.pv x.filters))) := by kernel_rfl
@[go_sem ↓] theorem fld_28_19 (x : GPacket) : fieldO E 28 (.pv x.pv) 19 = some (.pv (.lst 5 (List.map GFilter.pv x.filters))) := by kernel_rfl
@[go_sem ↓] theorem fld_29_20 (x : GPacket) : fieldO E 29 (.pv x.pv) 20 = some (.pv (.lst 4 (List.map GProp.pv x.props))) := by kernel_rfl
@[go_sem ↓] theorem fld_28_20 (x : GPacket) : fieldO E 28 (.pv x.pv) 20 = some (.pv (.lst 4 (List.map GProp.pv x.props))) := by kernel_rfl
@[go_sem high] theorem prt_29_0_3 (x : GPacket) : partO E 3 0 x.avs = some (.pv (.int .i64 x.kind)) := by kernel_rfl
@[go_sem high] theorem prt_29_1_4 (x : GPacket) : partO E 4 1 x.avs = some (.pv (.bool x.dup)) := by kernel_rfl
@[go_sem high] theorem prd_29_1_4 (x : GPacket) : partO E 4 0 (x.avs.drop 1) = some (.pv (.bool x.dup)) := by kernel_rfl
@[go_sem high] theorem prt_29_2_4 (x : GPacket) : partO E 4 2 x.avs = some (.pv (.bool x.retain)) := by kernel_rfl
@[go_sem high] theorem prd_29_2_4 (x : GPacket) : partO E 4 0 (x.avs.drop 2) = some (.pv (.bool x.retain)) := by kernel_rfl
@[go_sem high] theorem prt_29_3_3 (x : GPacket) : partO E 3 3 x.avs = some (.pv (.int .i64 x.qos)) := by kernel_rfl
@[go_sem high] theorem prd_29_3_3 (x : GPacket) : partO E 3 0 (x.avs.drop 3) = some (.pv (.int .i64 x.qos)) := by kernel_rfl
@[go_sem high] theorem prt_29_4_3 (x : GPacket) : partO E 3 4 x.avs = some (.pv (.int .i64 x.id)) := by kernel_rfl
@[go_sem high] theorem prd_29_4_3 (x : GPacket) : partO E 3 0 (x.avs.drop 4) = some (.pv (.int .i64 x.id)) := by kernel_rfl
@[go_sem high] theorem prt_29_5_9 (x : GPacket) : partO E 9 5 x.avs = some (.pv (.str x.topic)) := by kernel_rfl
@[go_sem high] theorem prd_29_5_9 (x : GPacket) : partO E 9 0 (x.avs.drop 5) = some (.pv (.str x.topic)) := by kernel_rfl
@[go_sem high] theorem prt_29_6_9 (x : GPacket) : partO E 9 6 x.avs = some (.pv (.str x.payload)) := by kernel_rfl
@[go_sem high] theorem prd_29_6_9 (x : GPacket) : partO E 9 0 (x.avs.drop 6) = some (.pv (.str x.payload)) := by kernel_rfl
@[go_sem high] theorem prt_29_7_4 (x : GPacket) : partO E 4 7 x.avs = some (.pv (.bool x.clean)) := by kernel_rfl
@[go_sem high] theorem prd_29_7_4 (x : GPacket) : partO E 4 0 (x.avs.drop 7) = some (.pv (.bool x.clean)) := by kernel_rfl
@[go_sem high] theorem prt_29_8_3 (x : GPacket) : partO E 3 8 x.avs = some (.pv (.int .i64 x.keepalive)) := by kernel_rfl
@[go_sem high] theorem prd_29_8_3 (x : GPacket) : partO E 3 0 (x.avs.drop 8) = some (.pv (.int .i64 x.keepalive)) := by kernel_rfl
@[go_sem high] theorem prt_29_9_9 (x : GPacket) : partO E 9 9 x.avs = some (.pv (.str x.client)) := by kernel_rfl
@[go_sem high] theorem prd_29_9_9 (x : GPacket) : partO E 9 0 (x.avs.drop 9) = some (.pv (.str x.client)) := by kernel_rfl
@[go_sem high] theorem prt_29_10_4 (x : GPacket) : partO E 4 10 x.avs = some (.pv (.bool x.hasuser)) := by kernel_rfl
@[go_sem high] theorem prd_29_10_4 (x : GPacket) : partO E 4 0 (x.avs.drop 10) = some (.pv (.bool x.hasuser)) := by kernel_rfl
@[go_sem high] theorem prt_29_11_9 (x : GPacket) : partO E 9 11 x.avs = some (.pv (.str x.user)) := by kernel_rfl
@[go_sem high] theorem prd_29_11_9 (x : GPacket) : partO E 9 0 (x.avs.drop 11) = some (.pv (.str x.user)) := by kernel_rfl
@[go_sem high] theorem prt_29_12_4 (x : GPacket) : partO E 4 12 x.avs = some (.pv (.bool x.haspass)) := by kernel_rfl
@[go_sem high] theorem prd_29_12_4 (x : GPacket) : partO E 4 0 (x.avs.drop 12) = some (.pv (.bool x.haspass)) := by kernel_rfl
@[go_sem high] theorem prt_29_13_9 (x : GPacket) : partO E 9 13 x.avs = some (.pv (.str x.pass)) := by kernel_rfl
@[go_sem high] theorem prd_29_13_9 (x : GPacket) : partO E 9 0 (x.avs.drop 13) = some (.pv (.str x.pass)) := by kernel_rfl
@[go_sem high] theorem prt_29_14_4 (x : GPacket) : partO E 4 14 x.avs = some (.pv (.bool x.haswill)) := by kernel_rfl
@[go_sem high] theorem prd_29_14_4 (x : GPacket) : partO E 4 0 (x.avs.drop 14) = some (.pv (.bool x.haswill)) := by kernel_rfl
@[go_sem high] theorem prt_29_15_25 (x : GPacket) : partO E 25 15 x.avs = some (.pv (x.will.pv)) := by kernel_rfl
@[go_sem high] theorem prd_29_15_25 (x : GPacket) : partO E 25 0 (x.avs.drop 15) = some (.pv (x.will.pv)) := by kernel_rfl
@[go_sem high] theorem prt_29_15_9 (x : GPacket) : partO E 9 15 x.avs = some (.pv (.str x.will.topic)) := by kernel_rfl
@[go_sem high] theorem prd_29_15_9 (x : GPacket) : partO E 9 0 (x.avs.drop 15) = some (.pv (.str x.will.topic)) := by kernel_rfl
@[go_sem high] theorem prt_29_16_9 (x : GPacket) : partO E 9 16 x.avs = some (.pv (.str x.will.payload)) := by kernel_rfl
@[go_sem high] theorem prd_29_16_9 (x : GPacket) : partO E 9 0 (x.avs.drop 16) = some (.pv (.str x.will.payload)) := by kernel_rfl
@[go_sem high] theorem prt_29_17_3 (x : GPacket) : partO E 3 17 x.avs = some (.pv (.int .i64 x.will.qos)) := by kernel_rfl
@[go_sem high] theorem prd_29_17_3 (x : GPacket) : partO E 3 0 (x.avs.drop 17) = some (.pv (.int .i64 x.will.qos)) := by kernel_rfl
@[go_sem high] theorem prt_29_18_4 (x : GPacket) : partO E 4 18 x.avs = some (.pv (.bool x.will.retain)) := by kernel_rfl
@[go_sem high] theorem prd_29_18_4 (x : GPacket) : partO E 4 0 (x.avs.drop 18) = some (.pv (.bool x.will.retain)) := by kernel_rfl
@[go_sem high] theorem prt_29_19_22 (x : GPacket) : partO E 22 19 x.avs = some (.pv (.lst 4 (List.map GProp.pv x.will.props))) := by kernel_rfl
@[go_sem high] theorem prd_29_19_22 (x : GPacket) : partO E 22 0 (x.avs.drop 19) = some (.pv (.lst 4 (List.map GProp.pv x.will.props))) := by kernel_rfl
@[go_sem high] theorem prt_29_20_4 (x : GPacket) : partO E 4 20 x.avs = some (.pv (.bool x.session)) := by kernel_rfl
@[go_sem high] theorem prd_29_20_4 (x : GPacket) : partO E 4 0 (x.avs.drop 20) = some (.pv (.bool x.session)) := by kernel_rfl
@[go_sem high] theorem prt_29_21_3 (x : GPacket) : partO E 3 21 x.avs = some (.pv (.int .i64 x.code)) := by kernel_rfl
@[go_sem high] theorem prd_29_21_3 (x : GPacket) : partO E 3 0 (x.avs.drop 21) = some (.pv (.int .i64 x.code)) := by kernel_rfl
@[go_sem high] theorem prt_29_22_26 (x : GPacket) : partO E 26 22 x.avs = some (.pv (.lst 1 (List.map (fun z => PV.int .i64 z) x.codes))) := by kernel_rfl
@[go_sem high] theorem prd_29_22_26 (x : GPacket) : partO E 26 0 (x.avs.drop 22) = some (.pv (.lst 1 (List.map (fun z => PV.int .i64 z) x.codes))) := by kernel_rfl
@[go_sem high] theorem prt_29_23_27 (x : GPacket) : partO E 27 23 x.avs = some (.pv (.lst 5 (List.map GFilter.pv x.filters))) := by kernel_rfl
@[go_sem high] theorem prd_29_23_27 (x : GPacket) : partO E 27 0 (x.avs.drop 23) = some (.pv (.lst 5 (List.map GFilter.pv x.filters))) := by kernel_rfl
@[go_sem high] theorem prt_29_24_22 (x : GPacket) : partO E 22 24 x.avs = some (.pv (.lst 4 (List.map GProp.pv x.props))) := by kernel_rfl
@[go_sem high] theorem prd_29_24_22 (x : GPacket) : partO E 22 0 (x.avs.drop 24) = some (.pv (.lst 4 (List.map GProp.pv x.props))) := by kernel_rfl
@[go_sem high] theorem prw_29_29 (x : GPacket) : partO E 29 0 x.avs = some (.pv x.pv) := by kernel_rfl
@[go_sem high] theorem prw_29_28 (x : GPacket) : partO E 28 0 x.avs = some (.pv x.pv) := by kernel_rfl
@[go_sem ↓] theorem fld_31_0 (x : GFlags) : fieldO E 31 (.pv x.pv) 0 = some (.pv (.bool x.dup)) := by kernel_rfl
@[go_sem ↓] theorem fld_30_0 (x : GFlags) : fieldO E 30 (.pv x.pv) 0 = some (.pv (.bool x.dup)) := by kernel_rfl
@[go_sem ↓] theorem fld_31_1 (x : GFlags) : fieldO E 31 (.pv x.pv) 1 = some (.pv (.int .i64 x.qos)) := by kernel_rfl
@[go_sem ↓] theorem fld_30_1 (x : GFlags) : fieldO E 30 (.pv x.pv) 1 = some (.pv (.int .i64 x.qos)) := by kernel_rfl
@[go_sem ↓] theorem fld_31_2 (x : GFlags) : fieldO E 31 (.pv x.pv) 2 = some (.pv (.bool x.retain)) := by kernel_rfl
@[go_sem ↓] theorem fld_30_2 (x : GFlags) : fieldO E 30 (.pv x.pv) 2 = some (.pv (.bool x.retain)) := by kernel_rfl
@[go_sem ↓] theorem fld_31_3 (x : GFlags) : fieldO E 31 (.pv x.pv) 3 = some (.pv (.bool x.will)) := by kernel_rfl
@[go_sem ↓] theorem fld_30_3 (x : GFlags) : fieldO E 30 (.pv x.pv) 3 = some (.pv (.bool x.will)) := by kernel_rfl
@[go_sem ↓] theorem fld_31_4 (x : GFlags) : fieldO E 31 (.pv x.pv) 4 = some (.pv (.bool x.clean)) := by kernel_rfl
@[go_sem ↓] theorem fld_30_4 (x : GFlags) : fieldO E 30 (.pv x.pv) 4 = some (.pv (.bool x.clean)) := by kernel_rfl
@[go_sem ↓] theorem fld_31_5 (x : GFlags) : fieldO E 31 (.pv x.pv) 5 = some (.pv (.int .i64 x.ty)) := by kernel_rfl
@[go_sem ↓] theorem fld_30_5 (x : GFlags) : fieldO E 30 (.pv x.pv) 5 = some (.pv (.int .i64 x.ty)) := by kernel_rfl
@[go_sem high] theorem prt_31_0_4 (x : GFlags) : partO E 4 0 x.avs = some (.pv (.bool x.dup)) := by kernel_rfl
@[go_sem high] theorem prt_31_1_3 (x : GFlags) : partO E 3 1 x.avs = some (.pv (.int .i64 x.qos)) := by kernel_rfl
@[go_sem high] theorem prd_31_1_3 (x : GFlags) : partO E 3 0 (x.avs.drop 1) = some (.pv (.int .i64 x.qos)) := by kernel_rfl
@[go_sem high] theorem prt_31_2_4 (x : GFlags) : partO E 4 2 x.avs = some (.pv (.bool x.retain)) := by kernel_rfl
@[go_sem high] theorem prd_31_2_4 (x : GFlags) : partO E 4 0 (x.avs.drop 2) = some (.pv (.bool x.retain)) := by kernel_rfl
@[go_sem high] theorem prt_31_3_4 (x : GFlags) : partO E 4 3 x.avs = some (.pv (.bool x.will)) := by kernel_rfl
@[go_sem high] theorem prd_31_3_4 (x : GFlags) : partO E 4 0 (x.avs.drop 3) = some (.pv (.bool x.will)) := by kernel_rfl
@[go_sem high] theorem prt_31_4_4 (x : GFlags) : partO E 4 4 x.avs = some (.pv (.bool x.clean)) := by kernel_rfl
@[go_sem high] theorem prd_31_4_4 (x : GFlags) : partO E 4 0 (x.avs.drop 4) = some (.pv (.bool x.clean)) := by kernel_rfl
@[go_sem high] theorem prt_31_5_3 (x : GFlags) : partO E 3 5 x.avs = some (.pv (.int .i64 x.ty)) := by kernel_rfl
@[go_sem high] theorem prd_31_5_3 (x : GFlags) : partO E 3 0 (x.avs.drop 5) = some (.pv (.int .i64 x.ty)) := by kernel_rfl
@[go_sem ↓] theorem eq_31 (x y : GFlags) : binO (E.ty 31) .eql (.pv x.pv) (.pv y.pv) = some (.pv (.bool (decide (x = y)))) := by rw [GFlags.pv_eq, GFlags.pv_eq]; exact eq_struct kd_31 (show (E.ty 31).eqk = [.b, .i, .b, .b, .b, .i] by kernel_rfl) (GFlags.eqs x y)
@[go_sem ↓] theorem ne_31 (x y : GFlags) : binO (E.ty 31) .neq (.pv x.pv) (.pv y.pv) = some (.pv (.bool (!decide (x = y)))) := by rw [GFlags.pv_eq, GFlags.pv_eq]; exact ne_struct kd_31 (show (E.ty 31).eqk = [.b, .i, .b, .b, .b, .i] by kernel_rfl) (GFlags.eqs x y)
@[go_sem ↓] theorem eq_30 (x y : GFlags) : binO (E.ty 30) .eql (.pv x.pv) (.pv y.pv) = some (.pv (.bool (decide (x = y)))) := by rw [GFlags.pv_eq, GFlags.pv_eq]; exact eq_struct kd_30 (show (E.ty 30).eqk = [.b, .i, .b, .b, .b, .i] by kernel_rfl) (GFlags.eqs x y)
@[go_sem ↓] theorem ne_30 (x y : GFlags) : binO (E.ty 30) .neq (.pv x.pv) (.pv y.pv) = some (.pv (.bool (!decide (x = y)))) := by rw [GFlags.pv_eq, GFlags.pv_eq]; exact ne_struct kd_30 (show (E.ty 30).eqk = [.b, .i, .b, .b, .b, .i] by kernel_rfl) (GFlags.eqs x y)
@[go_sem high] theorem prw_31_31 (x : GFlags) : partO E 31 0 x.avs = some (.pv x.pv) := by kernel_rfl
@[go_sem high] theorem prw_31_30 (x : GFlags) : partO E 30 0 x.avs = some (.pv x.pv) := by kernel_rfl
@[go_sem ↓] theorem fld_33_0 (x : GMsg) : fieldO E 33 (.pv x.pv) 0 = some (.pv (.int .i64 x.ty)) := by kernel_rfl
@[go_sem ↓] theorem fld_32_0 (x : GMsg) : fieldO E 32 (.pv x.pv) 0 = some (.pv (.int .i64 x.ty)) := by kernel_rfl
@[go_sem ↓] theorem fld_33_1 (x : GMsg) : fieldO E 33 (.pv x.pv) 1 = some (.pv (x.flags.pv)) := by kernel_rfl
@[go_sem ↓] theorem fld_32_1 (x : GMsg) : fieldO E 32 (.pv x.pv) 1 = some (.pv (x.flags.pv)) := by kernel_rfl
@[go_sem ↓] theorem fld_33_2 (x : GMsg) : fieldO E 33 (.pv x.pv) 2 = some (.pv (.int .i64 x.gateway)) := by kernel_rfl
@[go_sem ↓] theorem fld_32_2 (x : GMsg) : fieldO E 32 (.pv x.pv) 2 = some (.pv (.int .i64 x.gateway)) := by kernel_rfl
@[go_sem ↓] theorem fld_33_3 (x : GMsg) : fieldO E 33 (.pv x.pv) 3 = some (.pv (.int .i64 x.radius)) := by kernel_rfl
@[go_sem ↓] theorem fld_32_3 (x : GMsg) : fieldO E 32 (.pv x.pv) 3 = some (.pv (.int .i64 x.radius)) := by kernel_rfl
@[go_sem ↓] theorem fld_33_4 (x : GMsg) : fieldO E 33 (.pv x.pv) 4 = some (.pv (.int .i64 x.time)) := by kernel_rfl
@[go_sem ↓] theorem fld_32_4 (x : GMsg) : fieldO E 32 (.pv x.pv) 4 = some (.pv (.int .i64 x.time)) := by kernel_rfl
@[go_sem ↓] theorem fld_33_5 (x : GMsg) : fieldO E 33 (.pv x.pv) 5 = some (.pv (.bool x.timed)) := by kernel_rfl
@[go_sem ↓] theorem fld_32_5 (x : GMsg) : fieldO E 32 (.pv x.pv) 5 = some (.pv (.bool x.timed)) := by kernel_rfl
@[go_sem ↓] theorem fld_33_6 (x : GMsg) : fieldO E 33 (.pv x.pv) 6 = some (.pv (.int .i64 x.topicid)) := by kernel_rfl
@[go_sem ↓] theorem fld_32_6 (x : GMsg) : fieldO E 32 (.pv x.pv) 6 = some (.pv (.int .i64 x.topicid)) := by kernel_rfl
@[go_sem ↓] theorem fld_33_7 (x : GMsg) : fieldO E 33 (.pv x.pv) 7 = some (.pv (.int .i64 x.msgid)) := by kernel_rfl
@[go_sem ↓] theorem fld_32_7 (x : GMsg) : fieldO E 32 (.pv x.pv) 7 = some (.pv (.int .i64 x.msgid)) := by kernel_rfl
@[go_sem ↓] theorem fld_33_8 (x : GMsg) : fieldO E 33 (.pv x.pv) 8 = some (.pv (.int .i64 x.code)) := by kernel_rfl
@[go_sem ↓] theorem fld_32_8 (x : GMsg) : fieldO E 32 (.pv x.pv) 8 = some (.pv (.int .i64 x.code)) := by kernel_rfl
@[go_sem ↓] theorem fld_33_9 (x : GMsg) : fieldO E 33 (.pv x.pv) 9 = some (.pv (.str x.name)) := by kernel_rfl
@[go_sem ↓] theorem fld_32_9 (x : GMsg) : fieldO E 32 (.pv x.pv) 9 = some (.pv (.str x.name)) := by kernel_rfl
@[go_sem ↓] theorem fld_33_10 (x : GMsg) : fieldO E 33 (.pv x.pv) 10 = some (.pv (.str x.data)) := by kernel_rfl
@[go_sem ↓] theorem fld_32_10 (x : GMsg) : fieldO E 32 (.pv x.pv) 10 = some (.pv (.str x.data)) := by kernel_rfl
@[go_sem high] theorem prt_33_0_3 (x : GMsg) : partO E 3 0 x.avs = some (.pv (.int .i64 x.ty)) := by kernel_rfl
@[go_sem high] theorem prt_33_1_31 (x : GMsg) : partO E 31 1 x.avs = some (.pv (x.flags.pv)) := by kernel_rfl
@[go_sem high] theorem prd_33_1_31 (x : GMsg) : partO E 31 0 (x.avs.drop 1) = some (.pv (x.flags.pv)) := by kernel_rfl
@[go_sem high] theorem prt_33_1_4 (x : GMsg) : partO E 4 1 x.avs = some (.pv (.bool x.flags.dup)) := by kernel_rfl
@[go_sem high] theorem prd_33_1_4 (x : GMsg) : partO E 4 0 (x.avs.drop 1) = some (.pv (.bool x.flags.dup)) := by kernel_rfl
@[go_sem high] theorem prt_33_2_3 (x : GMsg) : partO E 3 2 x.avs = some (.pv (.int .i64 x.flags.qos)) := by kernel_rfl
@[go_sem high] theorem prd_33_2_3 (x : GMsg) : partO E 3 0 (x.avs.drop 2) = some (.pv (.int .i64 x.flags.qos)) := by kernel_rfl
@[go_sem high] theorem prt_33_3_4 (x : GMsg) : partO E 4 3 x.avs = some (.pv (.bool x.flags.retain)) := by kernel_rfl
@[go_sem high] theorem prd_33_3_4 (x : GMsg) : partO E 4 0 (x.avs.drop 3) = some (.pv (.bool x.flags.retain)) := by kernel_rfl
@[go_sem high] theorem prt_33_4_4 (x : GMsg) : partO E 4 4 x.avs = some (.pv (.bool x.flags.will)) := by kernel_rfl
@[go_sem high] theorem prd_33_4_4 (x : GMsg) : partO E 4 0 (x.avs.drop 4) = some (.pv (.bool x.flags.will)) := by kernel_rfl
@[go_sem high] theorem prt_33_5_4 (x : GMsg) : partO E 4 5 x.avs = some (.pv (.bool x.flags.clean)) := by kernel_rfl
@[go_sem high] theorem prd_33_5_4 (x : GMsg) : partO E 4 0 (x.avs.drop 5) = some (.pv (.bool x.flags.clean)) := by kernel_rfl
@[go_sem high] theorem prt_33_6_3 (x : GMsg) : partO E 3 6 x.avs = some (.pv (.int .i64 x.flags.ty)) := by kernel_rfl
@[go_sem high] theorem prd_33_6_3 (x : GMsg) : partO E 3 0 (x.avs.drop 6) = some (.pv (.int .i64 x.flags.ty)) := by kernel_rfl
@[go_sem high] theorem prt_33_7_3 (x : GMsg) : partO E 3 7 x.avs = some (.pv (.int .i64 x.gateway)) := by kernel_rfl
@[go_sem high] theorem prd_33_7_3 (x : GMsg) : partO E 3 0 (x.avs.drop 7) = some (.pv (.int .i64 x.gateway)) := by kernel_rfl
@[go_sem high] theorem prt_33_8_3 (x : GMsg) : partO E 3 8 x.avs = some (.pv (.int .i64 x.radius)) := by kernel_rfl
@[go_sem high] theorem prd_33_8_3 (x : GMsg) : partO E 3 0 (x.avs.drop 8) = some (.pv (.int .i64 x.radius)) := by kernel_rfl
@[go_sem high] theorem prt_33_9_3 (x : GMsg) : partO E 3 9 x.avs = some (.pv (.int .i64 x.time)) := by kernel_rfl
@[go_sem high] theorem prd_33_9_3 (x : GMsg) : partO E 3 0 (x.avs.drop 9) = some (.pv (.int .i64 x.time)) := by kernel_rfl
@[go_sem high] theorem prt_33_10_4 (x : GMsg) : partO E 4 10 x.avs = some (.pv (.bool x.timed)) := by kernel_rfl
@[go_sem high] theorem prd_33_10_4 (x : GMsg) : partO E 4 0 (x.avs.drop 10) = some (.pv (.bool x.timed)) := by kernel_rfl
@[go_sem high] theorem prt_33_11_3 (x : GMsg) : partO E 3 11 x.avs = some (.pv (.int .i64 x.topicid)) := by kernel_rfl
@[go_sem high] theorem prd_33_11_3 (x : GMsg) : partO E 3 0 (x.avs.drop 11) = some (.pv (.int .i64 x.topicid)) := by kernel_rfl
@[go_sem high] theorem prt_33_12_3 (x : GMsg) : partO E 3 12 x.avs = some (.pv (.int .i64 x.msgid)) := by kernel_rfl
@[go_sem high] theorem prd_33_12_3 (x : GMsg) : partO E 3 0 (x.avs.drop 12) = some (.pv (.int .i64 x.msgid)) := by kernel_rfl
@[go_sem high] theorem prt_33_13_3 (x : GMsg) : partO E 3 13 x.avs = some (.pv (.int .i64 x.code)) := by kernel_rfl
@[go_sem high] theorem prd_33_13_3 (x : GMsg) : partO E 3 0 (x.avs.drop 13) = some (.pv (.int .i64 x.code)) := by kernel_rfl
@[go_sem high] theorem prt_33_14_9 (x : GMsg) : partO E 9 14 x.avs = some (.pv (.str x.name)) := by kernel_rfl
@[go_sem high] theorem prd_33_14_9 (x : GMsg) : partO E 9 0 (x.avs.drop 14) = some (.pv (.str x.name)) := by kernel_rfl
@[go_sem high] theorem prt_33_15_9 (x : GMsg) : partO E 9 15 x.avs = some (.pv (.str x.data)) := by kernel_rfl
@[go_sem high] theorem prd_33_15_9 (x : GMsg) : partO E 9 0 (x.avs.drop 15) = some (.pv (.str x.data)) := by kernel_rfl
@[go_sem ↓] theorem eq_33 (x y : GMsg) : binO (E.ty 33) .eql (.pv x.pv) (.pv y.pv) = some (.pv (.bool (decide (x = y)))) := by rw [GMsg.pv_eq, GMsg.pv_eq]; exact eq_struct kd_33 (show (E.ty 33).eqk = [.i, .b, .i, .b, .b, .b, .i, .i, .i, .i, .b, .i, .i, .i, .s, .s] by kernel_rfl) (GMsg.eqs x y)
@[go_sem ↓] theorem ne_33 (x y : GMsg) : binO (E.ty 33) .neq (.pv x.pv) (.pv y.pv) = some (.pv (.bool (!decide (x = y)))) := by rw [GMsg.pv_eq, GMsg.pv_eq]; exact ne_struct kd_33 (show (E.ty 33).eqk = [.i, .b, .i, .b, .b, .b, .i, .i, .i, .i, .b, .i, .i, .i, .s, .s] by kernel_rfl) (GMsg.eqs x y)
@[go_sem ↓] theorem eq_32 (x y : GMsg) : binO (E.ty 32) .eql (.pv x.pv) (.pv y.pv) = some (.pv (.bool (decide (x = y)))) := by rw [GMsg.pv_eq, GMsg.pv_eq]; exact eq_struct kd_32 (show (E.ty 32).eqk = [.i, .b, .i, .b, .b, .b, .i, .i, .i, .i, .b, .i, .i, .i, .s, .s] by kernel_rfl) (GMsg.eqs x y)
@[go_sem ↓] theorem ne_32 (x y : GMsg) : binO (E.ty 32) .neq (.pv x.pv) (.pv y.pv) = some (.pv (.bool (!decide (x = y)))) := by rw [GMsg.pv_eq, GMsg.pv_eq]; exact ne_struct kd_32 (show (E.ty 32).eqk = [.i, .b, .i, .b, .b, .b, .i, .i, .i, .i, .b, .i, .i, .i, .s, .s] by kernel_rfl) (GMsg.eqs x y)
@[go_sem high] theorem prw_33_33 (x : GMsg) : partO E 33 0 x.avs = some (.pv x.pv) := by kernel_rfl
@[go_sem high] theorem prw_33_32 (x : GMsg) : partO E 32 0 x.avs = some (.pv x.pv) := by kernel_rfl
@[go_sem ↓] theorem fld_76_0 (x : GValue) : fieldO E 76 (.pv x.pv) 0 = some (.pv (.int .i64 x.kind)) := by rw [GValue.pv_eq]; kernel_rfl
@[go_sem ↓] theorem fld_75_0 (x : GValue) : fieldO E 75 (.pv x.pv) 0 = some (.pv (.int .i64 x.kind)) := by rw [GValue.pv_eq]; kernel_rfl
@[go_sem ↓] theorem fld_76_1 (x : GValue) : fieldO E 76 (.pv x.pv) 1 = some (.pv (.int .u64 x.n)) := by rw [GValue.pv_eq]; kernel_rfl
@[go_sem ↓] theorem fld_75_1 (x : GValue) : fieldO E 75 (.pv x.pv) 1 = some (.pv (.int .u64 x.n)) := by rw [GValue.pv_eq]; kernel_rfl
@[go_sem ↓] theorem fld_76_2 (x : GValue) : fieldO E 76 (.pv x.pv) 2 = some (.pv (.str x.text)) := by rw [GValue.pv_eq]; kernel_rfl
@[go_sem ↓] theorem fld_75_2 (x : GValue) : fieldO E 75 (.pv x.pv) 2 = some (.pv (.str x.text)) := by rw [GValue.pv_eq]; kernel_rfl
@[go_sem ↓] theorem fld_76_3 (x : GValue) : fieldO E 76 (.pv x.pv) 3 = some (.pv (.lst 4 (List.map GValue.pv x.items))) := by rw [GValue.pv_eq]; kernel_rfl
@[go_sem ↓] theorem fld_75_3 (x : GValue) : fieldO E 75 (.pv x.pv) 3 = some (.pv (.lst 4 (List.map GValue.pv x.items))) := by rw [GValue.pv_eq]; kernel_rfl
@[go_sem high] theorem prt_76_0_3 (x : GValue) : partO E 3 0 x.avs = some (.pv (.int .i64 x.kind)) := by kernel_rfl
@[go_sem high] theorem prt_76_1_74 (x : GValue) : partO E 74 1 x.avs = some (.pv (.int .u64 x.n)) := by kernel_rfl
@[go_sem high] theorem prd_76_1_74 (x : GValue) : partO E 74 0 (x.avs.drop 1) = some (.pv (.int .u64 x.n)) := by kernel_rfl
@[go_sem high] theorem prt_76_2_9 (x : GValue) : partO E 9 2 x.avs = some (.pv (.str x.text)) := by kernel_rfl
@[go_sem high] theorem prd_76_2_9 (x : GValue) : partO E 9 0 (x.avs.drop 2) = some (.pv (.str x.text)) := by kernel_rfl
@[go_sem high] theorem prt_76_3_34 (x : GValue) : partO E 34 3 x.avs = some (.pv (.lst 4 (List.map GValue.pv x.items))) := by kernel_rfl
@[go_sem high] theorem prd_76_3_34 (x : GValue) : partO E 34 0 (x.avs.drop 3) = some (.pv (.lst 4 (List.map GValue.pv x.items))) := by kernel_rfl
@[go_sem high] theorem prw_76_76 (x : GValue) : partO E 76 0 x.avs = some (.pv x.pv) := by rw [GValue.pv_eq]; kernel_rfl
@[go_sem high] theorem prw_76_75 (x : GValue) : partO E 75 0 x.avs = some (.pv x.pv) := by rw [GValue.pv_eq]; kernel_rfl
@[go_sem ↓] theorem fld_36_0 (x : GFrame) : fieldO E 36 (.pv x.pv) 0 = some (.pv (.int .i64 x.ty)) := by kernel_rfl
@[go_sem ↓] theorem fld_35_0 (x : GFrame) : fieldO E 35 (.pv x.pv) 0 = some (.pv (.int .i64 x.ty)) := by kernel_rfl
@[go_sem ↓] theorem fld_36_1 (x : GFrame) : fieldO E 36 (.pv x.pv) 1 = some (.pv (.int .i64 x.channel)) := by kernel_rfl
@[go_sem ↓] theorem fld_35_1 (x : GFrame) : fieldO E 35 (.pv x.pv) 1 = some (.pv (.int .i64 x.channel)) := by kernel_rfl
@[go_sem ↓] theorem fld_36_2 (x : GFrame) : fieldO E 36 (.pv x.pv) 2 = some (.pv (.str x.ext)) := by kernel_rfl
@[go_sem ↓] theorem fld_35_2 (x : GFrame) : fieldO E 35 (.pv x.pv) 2 = some (.pv (.str x.ext)) := by kernel_rfl
@[go_sem ↓] theorem fld_36_3 (x : GFrame) : fieldO E 36 (.pv x.pv) 3 = some (.pv (.lst 4 (List.map GValue.pv x.values))) := by kernel_rfl
@[go_sem ↓] theorem fld_35_3 (x : GFrame) : fieldO E 35 (.pv x.pv) 3 = some (.pv (.lst 4 (List.map GValue.pv x.values))) := by kernel_rfl
@[go_sem high] theorem prt_36_0_3 (x : GFrame) : partO E 3 0 x.avs = some (.pv (.int .i64 x.ty)) := by kernel_rfl
@[go_sem high] theorem prt_36_1_3 (x : GFrame) : partO E 3 1 x.avs = some (.pv (.int .i64 x.channel)) := by kernel_rfl
@[go_sem high] theorem prd_36_1_3 (x : GFrame) : partO E 3 0 (x.avs.drop 1) = some (.pv (.int .i64 x.channel)) := by kernel_rfl
@[go_sem high] theorem prt_36_2_9 (x : GFrame) : partO E 9 2 x.avs = some (.pv (.str x.ext)) := by kernel_rfl
@[go_sem high] theorem prd_36_2_9 (x : GFrame) : partO E 9 0 (x.avs.drop 2) = some (.pv (.str x.ext)) := by kernel_rfl
@[go_sem high] theorem prt_36_3_34 (x : GFrame) : partO E 34 3 x.avs = some (.pv (.lst 4 (List.map GValue.pv x.values))) := by kernel_rfl
@[go_sem high] theorem prd_36_3_34 (x : GFrame) : partO E 34 0 (x.avs.drop 3) = some (.pv (.lst 4 (List.map GValue.pv x.values))) := by kernel_rfl
@[go_sem high] theorem prw_36_36 (x : GFrame) : partO E 36 0 x.avs = some (.pv x.pv) := by kernel_rfl
@[go_sem high] theorem prw_36_35 (x : GFrame) : partO E 35 0 x.avs = some (.pv x.pv) := by kernel_rfl
@[go_sem ↓] theorem fld_72_0 (x : GHop) : fieldO E 72 (.pv x.pv) 0 = some (.pv (.int .i64 x.radius)) := by kernel_rfl
@[go_sem ↓] theorem fld_71_0 (x : GHop) : fieldO E 71 (.pv x.pv) 0 = some (.pv (.int .i64 x.radius)) := by kernel_rfl
@[go_sem ↓] theorem fld_72_1 (x : GHop) : fieldO E 72 (.pv x.pv) 1 = some (.pv (.str x.node)) := by kernel_rfl
@[go_sem ↓] theorem fld_71_1 (x : GHop) : fieldO E 71 (.pv x.pv) 1 = some (.pv (.str x.node)) := by kernel_rfl
@[go_sem high] theorem prt_72_0_3 (x : GHop) : partO E 3 0 x.avs = some (.pv (.int .i64 x.radius)) := by kernel_rfl
@[go_sem high] theorem prt_72_1_9 (x : GHop) : partO E 9 1 x.avs = some (.pv (.str x.node)) := by kernel_rfl
@[go_sem high] theorem prd_72_1_9 (x : GHop) : partO E 9 0 (x.avs.drop 1) = some (.pv (.str x.node)) := by kernel_rfl
@[go_sem ↓] theorem eq_72 (x y : GHop) : binO (E.ty 72) .eql (.pv x.pv) (.pv y.pv) = some (.pv (.bool (decide (x = y)))) := by rw [GHop.pv_eq, GHop.pv_eq]; exact eq_struct kd_72 (show (E.ty 72).eqk = [.i, .s] by kernel_rfl) (GHop.eqs x y)
@[go_sem ↓] theorem ne_72 (x y : GHop) : binO (E.ty 72) .neq (.pv x.pv) (.pv y.pv) = some (.pv (.bool (!decide (x = y)))) := by rw [GHop.pv_eq, GHop.pv_eq]; exact ne_struct kd_72 (show (E.ty 72).eqk = [.i, .s] by kernel_rfl) (GHop.eqs x y)
@[go_sem ↓] theorem eq_71 (x y : GHop) : binO (E.ty 71) .eql (.pv x.pv) (.pv y.pv) = some (.pv (.bool (decide (x = y)))) := by rw [GHop.pv_eq, GHop.pv_eq]; exact eq_struct kd_71 (show (E.ty 71).eqk = [.i, .s] by kernel_rfl) (GHop.eqs x y)
@[go_sem ↓] theorem ne_71 (x y : GHop) : binO (E.ty 71) .neq (.pv x.pv) (.pv y.pv) = some (.pv (.bool (!decide (x = y)))) := by rw [GHop.pv_eq, GHop.pv_eq]; exact ne_struct kd_71 (show (E.ty 71).eqk = [.i, .s] by kernel_rfl) (GHop.eqs x y)
@[go_sem high] theorem prw_72_72 (x : GHop) : partO E 72 0 x.avs = some (.pv x.pv) := by kernel_rfl
@[go_sem high] theorem prw_72_71 (x : GHop) : partO E 71 0 x.avs = some (.pv x.pv) := by kernel_rfl
@[go_sem ↓] theorem fld_38_0 (x : GEvent) : fieldO E 38 (.pv x.pv) 0 = some (.pv (.int .i64 x.proto)) := by kernel_rfl
@[go_sem ↓] theorem fld_37_0 (x : GEvent) : fieldO E 37 (.pv x.pv) 0 = some (.pv (.int .i64 x.proto)) := by kernel_rfl
@[go_sem ↓] theorem fld_38_1 (x : GEvent) : fieldO E 38 (.pv x.pv) 1 = some (.pv (.int .i64 x.kind)) := by kernel_rfl
@[go_sem ↓] theorem fld_37_1 (x : GEvent) : fieldO E 37 (.pv x.pv) 1 = some (.pv (.int .i64 x.kind)) := by kernel_rfl
@[go_sem ↓] theorem fld_38_2 (x : GEvent) : fieldO E 38 (.pv x.pv) 2 = some (.pv (.str x.topic)) := by kernel_rfl
@[go_sem ↓] theorem fld_37_2 (x : GEvent) : fieldO E 37 (.pv x.pv) 2 = some (.pv (.str x.topic)) := by kernel_rfl
@[go_sem ↓] theorem fld_38_3 (x : GEvent) : fieldO E 38 (.pv x.pv) 3 = some (.pv (.str x.payload)) := by kernel_rfl
@[go_sem ↓] theorem fld_37_3 (x : GEvent) : fieldO E 37 (.pv x.pv) 3 = some (.pv (.str x.payload)) := by kernel_rfl
@[go_sem ↓] theorem fld_38_4 (x : GEvent) : fieldO E 38 (.pv x.pv) 4 = some (.pv (.int .i64 x.qos)) := by kernel_rfl
@[go_sem ↓] theorem fld_37_4 (x : GEvent) : fieldO E 37 (.pv x.pv) 4 = some (.pv (.int .i64 x.qos)) := by kernel_rfl
@[go_sem ↓] theorem fld_38_5 (x : GEvent) : fieldO E 38 (.pv x.pv) 5 = some (.pv (.bool x.retain)) := by kernel_rfl
@[go_sem ↓] theorem fld_37_5 (x : GEvent) : fieldO E 37 (.pv x.pv) 5 = some (.pv (.bool x.retain)) := by kernel_rfl
@[go_sem ↓] theorem fld_38_6 (x : GEvent) : fieldO E 38 (.pv x.pv) 6 = some (.pv (.bool x.dup)) := by kernel_rfl
@[go_sem ↓] theorem fld_37_6 (x : GEvent) : fieldO E 37 (.pv x.pv) 6 = some (.pv (.bool x.dup)) := by kernel_rfl
@[go_sem ↓] theorem fld_38_7 (x : GEvent) : fieldO E 38 (.pv x.pv) 7 = some (.pv (.int .i64 x.id)) := by kernel_rfl
@[go_sem ↓] theorem fld_37_7 (x : GEvent) : fieldO E 37 (.pv x.pv) 7 = some (.pv (.int .i64 x.id)) := by kernel_rfl
@[go_sem ↓] theorem fld_38_8 (x : GEvent) : fieldO E 38 (.pv x.pv) 8 = some (.pv (.lst 4 (List.map GProp.pv x.props))) := by kernel_rfl
@[go_sem ↓] theorem fld_37_8 (x : GEvent) : fieldO E 37 (.pv x.pv) 8 = some (.pv (.lst 4 (List.map GProp.pv x.props))) := by kernel_rfl
@[go_sem ↓] theorem fld_38_9 (x : GEvent) : fieldO E 38 (.pv x.pv) 9 = some (.pv (.int .i64 x.ty)) := by kernel_rfl
@[go_sem ↓] theorem fld_37_9 (x : GEvent) : fieldO E 37 (.pv x.pv) 9 = some (.pv (.int .i64 x.ty)) := by kernel_rfl
@[go_sem ↓] theorem fld_38_10 (x : GEvent) : fieldO E 38 (.pv x.pv) 10 = some (.pv (.lst 2 (List.map GHop.pv x.hops))) := by kernel_rfl
@[go_sem ↓] theorem fld_37_10 (x : GEvent) : fieldO E 37 (.pv x.pv) 10 = some (.pv (.lst 2 (List.map GHop.pv x.hops))) := by kernel_rfl
@[go_sem ↓] theorem fld_38_11 (x : GEvent) : fieldO E 38 (.pv x.pv) 11 = some (.pv (.int .i64 x.channel)) := by kernel_rfl
@[go_sem ↓] theorem fld_37_11 (x : GEvent) : fieldO E 37 (.pv x.pv) 11 = some (.pv (.int .i64 x.channel)) := by kernel_rfl
@[go_sem ↓] theorem fld_38_12 (x : GEvent) : fieldO E 38 (.pv x.pv) 12 = some (.pv (x.packet.pv)) := by kernel_rfl
@[go_sem ↓] theorem fld_37_12 (x : GEvent) : fieldO E 37 (.pv x.pv) 12 = some (.pv (x.packet.pv)) := by kernel_rfl
@[go_sem ↓] theorem fld_38_13 (x : GEvent) : fieldO E 38 (.pv x.pv) 13 = some (.pv (x.msg.pv)) := by kernel_rfl
@[go_sem ↓] theorem fld_37_13 (x : GEvent) : fieldO E 37 (.pv x.pv) 13 = some (.pv (x.msg.pv)) := by kernel_rfl
@[go_sem ↓] theorem fld_38_14 (x : GEvent) : fieldO E 38 (.pv x.pv) 14 = some (.pv (x.frame.pv)) := by kernel_rfl
@[go_sem ↓] theorem fld_37_14 (x : GEvent) : fieldO E 37 (.pv x.pv) 14 = some (.pv (x.frame.pv)) := by kernel_rfl
@[go_sem high] theorem prt_38_0_3 (x : GEvent) : partO E 3 0 x.avs = some (.pv (.int .i64 x.proto)) := by kernel_rfl
@[go_sem high] theorem prt_38_1_3 (x : GEvent) : partO E 3 1 x.avs = some (.pv (.int .i64 x.kind)) := by kernel_rfl
@[go_sem high] theorem prd_38_1_3 (x : GEvent) : partO E 3 0 (x.avs.drop 1) = some (.pv (.int .i64 x.kind)) := by kernel_rfl
@[go_sem high] theorem prt_38_2_9 (x : GEvent) : partO E 9 2 x.avs = some (.pv (.str x.topic)) := by kernel_rfl
@[go_sem high] theorem prd_38_2_9 (x : GEvent) : partO E 9 0 (x.avs.drop 2) = some (.pv (.str x.topic)) := by kernel_rfl
@[go_sem high] theorem prt_38_3_9 (x : GEvent) : partO E 9 3 x.avs = some (.pv (.str x.payload)) := by kernel_rfl
@[go_sem high] theorem prd_38_3_9 (x : GEvent) : partO E 9 0 (x.avs.drop 3) = some (.pv (.str x.payload)) := by kernel_rfl
@[go_sem high] theorem prt_38_4_3 (x : GEvent) : partO E 3 4 x.avs = some (.pv (.int .i64 x.qos)) := by kernel_rfl
@[go_sem high] theorem prd_38_4_3 (x : GEvent) : partO E 3 0 (x.avs.drop 4) = some (.pv (.int .i64 x.qos)) := by kernel_rfl
@[go_sem high] theorem prt_38_5_4 (x : GEvent) : partO E 4 5 x.avs = some (.pv (.bool x.retain)) := by kernel_rfl
@[go_sem high] theorem prd_38_5_4 (x : GEvent) : partO E 4 0 (x.avs.drop 5) = some (.pv (.bool x.retain)) := by kernel_rfl
@[go_sem high] theorem prt_38_6_4 (x : GEvent) : partO E 4 6 x.avs = some (.pv (.bool x.dup)) := by kernel_rfl
@[go_sem high] theorem prd_38_6_4 (x : GEvent) : partO E 4 0 (x.avs.drop 6) = some (.pv (.bool x.dup)) := by kernel_rfl
@[go_sem high] theorem prt_38_7_3 (x : GEvent) : partO E 3 7 x.avs = some (.pv (.int .i64 x.id)) := by kernel_rfl
@[go_sem high] theorem prd_38_7_3 (x : GEvent) : partO E 3 0 (x.avs.drop 7) = some (.pv (.int .i64 x.id)) := by kernel_rfl
@[go_sem high] theorem prt_38_8_22 (x : GEvent) : partO E 22 8 x.avs = some (.pv (.lst 4 (List.map GProp.pv x.props))) := by kernel_rfl
@[go_sem high] theorem prd_38_8_22 (x : GEvent) : partO E 22 0 (x.avs.drop 8) = some (.pv (.lst 4 (List.map GProp.pv x.props))) := by kernel_rfl
@[go_sem high] theorem prt_38_9_3 (x : GEvent) : partO E 3 9 x.avs = some (.pv (.int .i64 x.ty)) := by kernel_rfl
@[go_sem high] theorem prd_38_9_3 (x : GEvent) : partO E 3 0 (x.avs.drop 9) = some (.pv (.int .i64 x.ty)) := by kernel_rfl
@[go_sem high] theorem prt_38_10_23 (x : GEvent) : partO E 23 10 x.avs = some (.pv (.lst 2 (List.map GHop.pv x.hops))) := by kernel_rfl
@[go_sem high] theorem prd_38_10_23 (x : GEvent) : partO E 23 0 (x.avs.drop 10) = some (.pv (.lst 2 (List.map GHop.pv x.hops))) := by kernel_rfl
@[go_sem high] theorem prt_38_11_3 (x : GEvent) : partO E 3 11 x.avs = some (.pv (.int .i64 x.channel)) := by kernel_rfl
@[go_sem high] theorem prd_38_11_3 (x : GEvent) : partO E 3 0 (x.avs.drop 11) = some (.pv (.int .i64 x.channel)) := by kernel_rfl
@[go_sem high] theorem prt_38_12_29 (x : GEvent) : partO E 29 12 x.avs = some (.pv (x.packet.pv)) := by kernel_rfl
@[go_sem high] theorem prd_38_12_29 (x : GEvent) : partO E 29 0 (x.avs.drop 12) = some (.pv (x.packet.pv)) := by kernel_rfl
@[go_sem high] theorem prt_38_12_3 (x : GEvent) : partO E 3 12 x.avs = some (.pv (.int .i64 x.packet.kind)) := by kernel_rfl
@[go_sem high] theorem prd_38_12_3 (x : GEvent) : partO E 3 0 (x.avs.drop 12) = some (.pv (.int .i64 x.packet.kind)) := by kernel_rfl
@[go_sem high] theorem prt_38_13_4 (x : GEvent) : partO E 4 13 x.avs = some (.pv (.bool x.packet.dup)) := by kernel_rfl
@[go_sem high] theorem prd_38_13_4 (x : GEvent) : partO E 4 0 (x.avs.drop 13) = some (.pv (.bool x.packet.dup)) := by kernel_rfl
@[go_sem high] theorem prt_38_14_4 (x : GEvent) : partO E 4 14 x.avs = some (.pv (.bool x.packet.retain)) := by kernel_rfl
@[go_sem high] theorem prd_38_14_4 (x : GEvent) : partO E 4 0 (x.avs.drop 14) = some (.pv (.bool x.packet.retain)) := by kernel_rfl
@[go_sem high] theorem prt_38_15_3 (x : GEvent) : partO E 3 15 x.avs = some (.pv (.int .i64 x.packet.qos)) := by kernel_rfl
@[go_sem high] theorem prd_38_15_3 (x : GEvent) : partO E 3 0 (x.avs.drop 15) = some (.pv (.int .i64 x.packet.qos)) := by kernel_rfl
@[go_sem high] theorem prt_38_16_3 (x : GEvent) : partO E 3 16 x.avs = some (.pv (.int .i64 x.packet.id)) := by kernel_rfl
@[go_sem high] theorem prd_38_16_3 (x : GEvent) : partO E 3 0 (x.avs.drop 16) = some (.pv (.int .i64 x.packet.id)) := by kernel_rfl
@[go_sem high] theorem prt_38_17_9 (x : GEvent) : partO E 9 17 x.avs = some (.pv (.str x.packet.topic)) := by kernel_rfl
@[go_sem high] theorem prd_38_17_9 (x : GEvent) : partO E 9 0 (x.avs.drop 17) = some (.pv (.str x.packet.topic)) := by kernel_rfl
@[go_sem high] theorem prt_38_18_9 (x : GEvent) : partO E 9 18 x.avs = some (.pv (.str x.packet.payload)) := by kernel_rfl
@[go_sem high] theorem prd_38_18_9 (x : GEvent) : partO E 9 0 (x.avs.drop 18) = some (.pv (.str x.packet.payload)) := by kernel_rfl
@[go_sem high] theorem prt_38_19_4 (x : GEvent) : partO E 4 19 x.avs = some (.pv (.bool x.packet.clean)) := by kernel_rfl
@[go_sem high] theorem prd_38_19_4 (x : GEvent) : partO E 4 0 (x.avs.drop 19) = some (.pv (.bool x.packet.clean)) := by kernel_rfl
@[go_sem high] theorem prt_38_20_3 (x : GEvent) : partO E 3 20 x.avs = some (.pv (.int .i64 x.packet.keepalive)) := by kernel_rfl
@[go_sem high] theorem prd_38_20_3 (x : GEvent) : partO E 3 0 (x.avs.drop 20) = some (.pv (.int .i64 x.packet.keepalive)) := by kernel_rfl
@[go_sem high] theorem prt_38_21_9 (x : GEvent) : partO E 9 21 x.avs = some (.pv (.str x.packet.client)) := by kernel_rfl
@[go_sem high] theorem prd_38_21_9 (x : GEvent) : partO E 9 0 (x.avs.drop 21) = some (.pv (.str x.packet.client)) := by kernel_rfl
@[go_sem high] theorem prt_38_22_4 (x : GEvent) : partO E 4 22 x.avs = some (.pv (.bool x.packet.hasuser)) := by kernel_rfl
@[go_sem high] theorem prd_38_22_4 (x : GEvent) : partO E 4 0 (x.avs.drop 22) = some (.pv (.bool x.packet.hasuser)) := by kernel_rfl
@[go_sem high] theorem prt_38_23_9 (x : GEvent) : partO E 9 23 x.avs = some (.pv (.str x.packet.user)) := by kernel_rfl
@[go_sem high] theorem prd_38_23_9 (x : GEvent) : partO E 9 0 (x.avs.drop 23) = some (.pv (.str x.packet.user)) := by kernel_rfl
@[go_sem high] theorem prt_38_24_4 (x : GEvent) : partO E 4 24 x.avs = some (.pv (.bool x.packet.haspass)) := by kernel_rfl
@[go_sem high] theorem prd_38_24_4 (x : GEvent) : partO E 4 0 (x.avs.drop 24) = some (.pv (.bool x.packet.haspass)) := by kernel_rfl
@[go_sem high] theorem prt_38_25_9 (x : GEvent) : partO E 9 25 x.avs = some (.pv (.str x.packet.pass)) := by kernel_rfl
@[go_sem high] theorem prd_38_25_9 (x : GEvent) : partO E 9 0 (x.avs.drop 25) = some (.pv (.str x.packet.pass)) := by kernel_rfl
@[go_sem high] theorem prt_38_26_4 (x : GEvent) : partO E 4 26 x.avs = some (.pv (.bool x.packet.haswill)) := by kernel_rfl
@[go_sem high] theorem prd_38_26_4 (x : GEvent) : partO E 4 0 (x.avs.drop 26) = some (.pv (.bool x.packet.haswill)) := by kernel_rfl
@[go_sem high] theorem prt_38_27_25 (x : GEvent) : partO E 25 27 x.avs = some (.pv (x.packet.will.pv)) := by kernel_rfl
@[go_sem high] theorem prd_38_27_25 (x : GEvent) : partO E 25 0 (x.avs.drop 27) = some (.pv (x.packet.will.pv)) := by kernel_rfl
@[go_sem high] theorem prt_38_27_9 (x : GEvent) : partO E 9 27 x.avs = some (.pv (.str x.packet.will.topic)) := by kernel_rfl
@[go_sem high] theorem prd_38_27_9 (x : GEvent) : partO E 9 0 (x.avs.drop 27) = some (.pv (.str x.packet.will.topic)) := by kernel_rfl
@[go_sem high] theorem prt_38_28_9 (x : GEvent) : partO E 9 28 x.avs = some (.pv (.str x.packet.will.payload)) := by kernel_rfl
@[go_sem high] theorem prd_38_28_9 (x : GEvent) : partO E 9 0 (x.avs.drop 28) = some (.pv (.str x.packet.will.payload)) := by kernel_rfl
@[go_sem high] theorem prt_38_29_3 (x : GEvent) : partO E 3 29 x.avs = some (.pv (.int .i64 x.packet.will.qos)) := by kernel_rfl
@[go_sem high] theorem prd_38_29_3 (x : GEvent) : partO E 3 0 (x.avs.drop 29) = some (.pv (.int .i64 x.packet.will.qos)) := by kernel_rfl
@[go_sem high] theorem prt_38_30_4 (x : GEvent) : partO E 4 30 x.avs = some (.pv (.bool x.packet.will.retain)) := by kernel_rfl
@[go_sem high] theorem prd_38_30_4 (x : GEvent) : partO E 4 0 (x.avs.drop 30) = some (.pv (.bool x.packet.will.retain)) := by kernel_rfl
@[go_sem high] theorem prt_38_31_22 (x : GEvent) : partO E 22 31 x.avs = some (.pv (.lst 4 (List.map GProp.pv x.packet.will.props))) := by kernel_rfl
@[go_sem high] theorem prd_38_31_22 (x : GEvent) : partO E 22 0 (x.avs.drop 31) = some (.pv (.lst 4 (List.map GProp.pv x.packet.will.props))) := by kernel_rfl
@[go_sem high] theorem prt_38_32_4 (x : GEvent) : partO E 4 32 x.avs = some (.pv (.bool x.packet.session)) := by kernel_rfl
@[go_sem high] theorem prd_38_32_4 (x : GEvent) : partO E 4 0 (x.avs.drop 32) = some (.pv (.bool x.packet.session)) := by kernel_rfl
@[go_sem high] theorem prt_38_33_3 (x : GEvent) : partO E 3 33 x.avs = some (.pv (.int .i64 x.packet.code)) := by kernel_rfl
@[go_sem high] theorem prd_38_33_3 (x : GEvent) : partO E 3 0 (x.avs.drop 33) = some (.pv (.int .i64 x.packet.code)) := by kernel_rfl
@[go_sem high] theorem prt_38_34_26 (x : GEvent) : partO E 26 34 x.avs = some (.pv (.lst 1 (List.map (fun z => PV.int .i64 z) x.packet.codes))) := by kernel_rfl
@[go_sem high] theorem prd_38_34_26 (x : GEvent) : partO E 26 0 (x.avs.drop 34) = some (.pv (.lst 1 (List.map (fun z => PV.int .i64 z) x.packet.codes))) := by kernel_rfl
@[go_sem high] theorem prt_38_35_27 (x : GEvent) : partO E 27 35 x.avs = some (.pv (.lst 5 (List.map GFilter.pv x.packet.filters))) := by kernel_rfl
@[go_sem high] theorem prd_38_35_27 (x : GEvent) : partO E 27 0 (x.avs.drop 35) = some (.pv (.lst 5 (List.map GFilter.pv x.packet.filters))) := by kernel_rfl
@[go_sem high] theorem prt_38_36_22 (x : GEvent) : partO E 22 36 x.avs = some (.pv (.lst 4 (List.map GProp.pv x.packet.props))) := by kernel_rfl
@[go_sem high] theorem prd_38_36_22 (x : GEvent) : partO E 22 0 (x.avs.drop 36) = some (.pv (.lst 4 (List.map GProp.pv x.packet.props))) := by kernel_rfl
@[go_sem high] theorem prt_38_37_33 (x : GEvent) : partO E 33 37 x.avs = some (.pv (x.msg.pv)) := by kernel_rfl
@[go_sem high] theorem prd_38_37_33 (x : GEvent) : partO E 33 0 (x.avs.drop 37) = some (.pv (x.msg.pv)) := by kernel_rfl
@[go_sem high] theorem prt_38_37_3 (x : GEvent) : partO E 3 37 x.avs = some (.pv (.int .i64 x.msg.ty)) := by kernel_rfl
@[go_sem high] theorem prd_38_37_3 (x : GEvent) : partO E 3 0 (x.avs.drop 37) = some (.pv (.int .i64 x.msg.ty)) := by kernel_rfl
@[go_sem high] theorem prt_38_38_31 (x : GEvent) : partO E 31 38 x.avs = some (.pv (x.msg.flags.pv)) := by kernel_rfl
@[go_sem high] theorem prd_38_38_31 (x : GEvent) : partO E 31 0 (x.avs.drop 38) = some (.pv (x.msg.flags.pv)) := by kernel_rfl
@[go_sem high] theorem prt_38_38_4 (x : GEvent) : partO E 4 38 x.avs = some (.pv (.bool x.msg.flags.dup)) := by kernel_rfl
@[go_sem high] theorem prd_38_38_4 (x : GEvent) : partO E 4 0 (x.avs.drop 38) = some (.pv (.bool x.msg.flags.dup)) := by kernel_rfl
@[go_sem high] theorem prt_38_39_3 (x : GEvent) : partO E 3 39 x.avs = some (.pv (.int .i64 x.msg.flags.qos)) := by kernel_rfl
@[go_sem high] theorem prd_38_39_3 (x : GEvent) : partO E 3 0 (x.avs.drop 39) = some (.pv (.int .i64 x.msg.flags.qos)) := by kernel_rfl
@[go_sem high] theorem prt_38_40_4 (x : GEvent) : partO E 4 40 x.avs = some (.pv (.bool x.msg.flags.retain)) := by kernel_rfl
@[go_sem high] theorem prd_38_40_4 (x : GEvent) : partO E 4 0 (x.avs.drop 40) = some (.pv (.bool x.msg.flags.retain)) := by kernel_rfl
@[go_sem high] theorem prt_38_41_4 (x : GEvent) : partO E 4 41 x.avs = some (.pv (.bool x.msg.flags.will)) := by kernel_rfl
@[go_sem high] theorem prd_38_41_4 (x : GEvent) : partO E 4 0 (x.avs.drop 41) = some (.pv (.bool x.msg.flags.will)) := by kernel_rfl
@[go_sem high] theorem prt_38_42_4 (x : GEvent) : partO E 4 42 x.avs = some (.pv (.bool x.msg.flags.clean)) := by kernel_rfl
@[go_sem high] theorem prd_38_42_4 (x : GEvent) : partO E 4 0 (x.avs.drop 42) = some (.pv (.bool x.msg.flags.clean)) := by kernel_rfl
@[go_sem high] theorem prt_38_43_3 (x : GEvent) : partO E 3 43 x.avs = some (.pv (.int .i64 x.msg.flags.ty)) := by kernel_rfl
@[go_sem high] theorem prd_38_43_3 (x : GEvent) : partO E 3 0 (x.avs.drop 43) = some (.pv (.int .i64 x.msg.flags.ty)) := by kernel_rfl
@[go_sem high] theorem prt_38_44_3 (x : GEvent) : partO E 3 44 x.avs = some (.pv (.int .i64 x.msg.gateway)) := by kernel_rfl
@[go_sem high] theorem prd_38_44_3 (x : GEvent) : partO E 3 0 (x.avs.drop 44) = some (.pv (.int .i64 x.msg.gateway)) := by kernel_rfl
@[go_sem high] theorem prt_38_45_3 (x : GEvent) : partO E 3 45 x.avs = some (.pv (.int .i64 x.msg.radius)) := by kernel_rfl
@[go_sem high] theorem prd_38_45_3 (x : GEvent) : partO E 3 0 (x.avs.drop 45) = some (.pv (.int .i64 x.msg.radius)) := by kernel_rfl
@[go_sem high] theorem prt_38_46_3 (x : GEvent) : partO E 3 46 x.avs = some (.pv (.int .i64 x.msg.time)) := by kernel_rfl
@[go_sem high] theorem prd_38_46_3 (x : GEvent) : partO E 3 0 (x.avs.drop 46) = some (.pv (.int .i64 x.msg.time)) := by kernel_rfl
@[go_sem high] theorem prt_38_47_4 (x : GEvent) : partO E 4 47 x.avs = some (.pv (.bool x.msg.timed)) := by kernel_rfl
@[go_sem high] theorem prd_38_47_4 (x : GEvent) : partO E 4 0 (x.avs.drop 47) = some (.pv (.bool x.msg.timed)) := by kernel_rfl
@[go_sem high] theorem prt_38_48_3 (x : GEvent) : partO E 3 48 x.avs = some (.pv (.int .i64 x.msg.topicid)) := by kernel_rfl
@[go_sem high] theorem prd_38_48_3 (x : GEvent) : partO E 3 0 (x.avs.drop 48) = some (.pv (.int .i64 x.msg.topicid)) := by kernel_rfl
@[go_sem high] theorem prt_38_49_3 (x : GEvent) : partO E 3 49 x.avs = some (.pv (.int .i64 x.msg.msgid)) := by kernel_rfl
@[go_sem high] theorem prd_38_49_3 (x : GEvent) : partO E 3 0 (x.avs.drop 49) = some (.pv (.int .i64 x.msg.msgid)) := by kernel_rfl
@[go_sem high] theorem prt_38_50_3 (x : GEvent) : partO E 3 50 x.avs = some (.pv (.int .i64 x.msg.code)) := by kernel_rfl
@[go_sem high] theorem prd_38_50_3 (x : GEvent) : partO E 3 0 (x.avs.drop 50) = some (.pv (.int .i64 x.msg.code)) := by kernel_rfl
@[go_sem high] theorem prt_38_51_9 (x : GEvent) : partO E 9 51 x.avs = some (.pv (.str x.msg.name)) := by kernel_rfl
@[go_sem high] theorem prd_38_51_9 (x : GEvent) : partO E 9 0 (x.avs.drop 51) = some (.pv (.str x.msg.name)) := by kernel_rfl
@[go_sem high] theorem prt_38_52_9 (x : GEvent) : partO E 9 52 x.avs = some (.pv (.str x.msg.data)) := by kernel_rfl
@[go_sem high] theorem prd_38_52_9 (x : GEvent) : partO E 9 0 (x.avs.drop 52) = some (.pv (.str x.msg.data)) := by kernel_rfl
@[go_sem high] theorem prt_38_53_36 (x : GEvent) : partO E 36 53 x.avs = some (.pv (x.frame.pv)) := by kernel_rfl
@[go_sem high] theorem prd_38_53_36 (x : GEvent) : partO E 36 0 (x.avs.drop 53) = some (.pv (x.frame.pv)) := by kernel_rfl
@[go_sem high] theorem prt_38_53_3 (x : GEvent) : partO E 3 53 x.avs = some (.pv (.int .i64 x.frame.ty)) := by kernel_rfl
@[go_sem high] theorem prd_38_53_3 (x : GEvent) : partO E 3 0 (x.avs.drop 53) = some (.pv (.int .i64 x.frame.ty)) := by kernel_rfl
@[go_sem high] theorem prt_38_54_3 (x : GEvent) : partO E 3 54 x.avs = some (.pv (.int .i64 x.frame.channel)) := by kernel_rfl
@[go_sem high] theorem prd_38_54_3 (x : GEvent) : partO E 3 0 (x.avs.drop 54) = some (.pv (.int .i64 x.frame.channel)) := by kernel_rfl
@[go_sem high] theorem prt_38_55_9 (x : GEvent) : partO E 9 55 x.avs = some (.pv (.str x.frame.ext)) := by kernel_rfl
@[go_sem high] theorem prd_38_55_9 (x : GEvent) : partO E 9 0 (x.avs.drop 55) = some (.pv (.str x.frame.ext)) := by kernel_rfl
@[go_sem high] theorem prt_38_56_34 (x : GEvent) : partO E 34 56 x.avs = some (.pv (.lst 4 (List.map GValue.pv x.frame.values))) := by kernel_rfl
@[go_sem high] theorem prd_38_56_34 (x : GEvent) : partO E 34 0 (x.avs.drop 56) = some (.pv (.lst 4 (List.map GValue.pv x.frame.values))) := by kernel_rfl
@[go_sem high] theorem prw_38_38 (x : GEvent) : partO E 38 0 x.avs = some (.pv x.pv) := by kernel_rfl
@[go_sem high] theorem prw_38_37 (x : GEvent) : partO E 37 0 x.avs = some (.pv x.pv) := by kernel_rfl
@[go_sem ↓] theorem fld_50_0 (x : GDatagram) : fieldO E 50 (.pv x.pv) 0 = some (.pv (.lst 2 (List.map GHop.pv x.hops))) := by kernel_rfl
@[go_sem ↓] theorem fld_49_0 (x : GDatagram) : fieldO E 49 (.pv x.pv) 0 = some (.pv (.lst 2 (List.map GHop.pv x.hops))) := by kernel_rfl
@[go_sem ↓] theorem fld_50_1 (x : GDatagram) : fieldO E 50 (.pv x.pv) 1 = some (.pv (x.msg.pv)) := by kernel_rfl
@[go_sem ↓] theorem fld_49_1 (x : GDatagram) : fieldO E 49 (.pv x.pv) 1 = some (.pv (x.msg.pv)) := by kernel_rfl
@[go_sem high] theorem prt_50_0_23 (x : GDatagram) : partO E 23 0 x.avs = some (.pv (.lst 2 (List.map GHop.pv x.hops))) := by kernel_rfl
@[go_sem high] theorem prt_50_1_33 (x : GDatagram) : partO E 33 1 x.avs = some (.pv (x.msg.pv)) := by kernel_rfl
@[go_sem high] theorem prd_50_1_33 (x : GDatagram) : partO E 33 0 (x.avs.drop 1) = some (.pv (x.msg.pv)) := by kernel_rfl
@[go_sem high] theorem prt_50_1_3 (x : GDatagram) : partO E 3 1 x.avs = some (.pv (.int .i64 x.msg.ty)) := by kernel_rfl
@[go_sem high] theorem prd_50_1_3 (x : GDatagram) : partO E 3 0 (x.avs.drop 1) = some (.pv (.int .i64 x.msg.ty)) := by kernel_rfl
@[go_sem high] theorem prt_50_2_31 (x : GDatagram) : partO E 31 2 x.avs = some (.pv (x.msg.flags.pv)) := by kernel_rfl
@[go_sem high] theorem prd_50_2_31 (x : GDatagram) : partO E 31 0 (x.avs.drop 2) = some (.pv (x.msg.flags.pv)) := by kernel_rfl
@[go_sem high] theorem prt_50_2_4 (x : GDatagram) : partO E 4 2 x.avs = some (.pv (.bool x.msg.flags.dup)) := by kernel_rfl
@[go_sem high] theorem prd_50_2_4 (x : GDatagram) : partO E 4 0 (x.avs.drop 2) = some (.pv (.bool x.msg.flags.dup)) := by kernel_rfl
@[go_sem high] theorem prt_50_3_3 (x : GDatagram) : partO E 3 3 x.avs = some (.pv (.int .i64 x.msg.flags.qos)) := by kernel_rfl
@[go_sem high] theorem prd_50_3_3 (x : GDatagram) : partO E 3 0 (x.avs.drop 3) = some (.pv (.int .i64 x.msg.flags.qos)) := by kernel_rfl
@[go_sem high] theorem prt_50_4_4 (x : GDatagram) : partO E 4 4 x.avs = some (.pv (.bool x.msg.flags.retain)) := by kernel_rfl
@[go_sem high] theorem prd_50_4_4 (x : GDatagram) : partO E 4 0 (x.avs.drop 4) = some (.pv (.bool x.msg.flags.retain)) := by kernel_rfl
@[go_sem high] theorem prt_50_5_4 (x : GDatagram) : partO E 4 5 x.avs = some (.pv (.bool x.msg.flags.will)) := by kernel_rfl
@[go_sem high] theorem prd_50_5_4 (x : GDatagram) : partO E 4 0 (x.avs.drop 5) = some (.pv (.bool x.msg.flags.will)) := by kernel_rfl
@[go_sem high] theorem prt_50_6_4 (x : GDatagram) : partO E 4 6 x.avs = some (.pv (.bool x.msg.flags.clean)) := by kernel_rfl
@[go_sem high] theorem prd_50_6_4 (x : GDatagram) : partO E 4 0 (x.avs.drop 6) = some (.pv (.bool x.msg.flags.clean)) := by kernel_rfl
@[go_sem high] theorem prt_50_7_3 (x : GDatagram) : partO E 3 7 x.avs = some (.pv (.int .i64 x.msg.flags.ty)) := by kernel_rfl
@[go_sem high] theorem prd_50_7_3 (x : GDatagram) : partO E 3 0 (x.avs.drop 7) = some (.pv (.int .i64 x.msg.flags.ty)) := by kernel_rfl
@[go_sem high] theorem prt_50_8_3 (x : GDatagram) : partO E 3 8 x.avs = some (.pv (.int .i64 x.msg.gateway)) := by kernel_rfl
@[go_sem high] theorem prd_50_8_3 (x : GDatagram) : partO E 3 0 (x.avs.drop 8) = some (.pv (.int .i64 x.msg.gateway)) := by kernel_rfl
@[go_sem high] theorem prt_50_9_3 (x : GDatagram) : partO E 3 9 x.avs = some (.pv (.int .i64 x.msg.radius)) := by kernel_rfl
@[go_sem high] theorem prd_50_9_3 (x : GDatagram) : partO E 3 0 (x.avs.drop 9) = some (.pv (.int .i64 x.msg.radius)) := by kernel_rfl
@[go_sem high] theorem prt_50_10_3 (x : GDatagram) : partO E 3 10 x.avs = some (.pv (.int .i64 x.msg.time)) := by kernel_rfl
@[go_sem high] theorem prd_50_10_3 (x : GDatagram) : partO E 3 0 (x.avs.drop 10) = some (.pv (.int .i64 x.msg.time)) := by kernel_rfl
@[go_sem high] theorem prt_50_11_4 (x : GDatagram) : partO E 4 11 x.avs = some (.pv (.bool x.msg.timed)) := by kernel_rfl
@[go_sem high] theorem prd_50_11_4 (x : GDatagram) : partO E 4 0 (x.avs.drop 11) = some (.pv (.bool x.msg.timed)) := by kernel_rfl
@[go_sem high] theorem prt_50_12_3 (x : GDatagram) : partO E 3 12 x.avs = some (.pv (.int .i64 x.msg.topicid)) := by kernel_rfl
@[go_sem high] theorem prd_50_12_3 (x : GDatagram) : partO E 3 0 (x.avs.drop 12) = some (.pv (.int .i64 x.msg.topicid)) := by kernel_rfl
@[go_sem high] theorem prt_50_13_3 (x : GDatagram) : partO E 3 13 x.avs = some (.pv (.int .i64 x.msg.msgid)) := by kernel_rfl
@[go_sem high] theorem prd_50_13_3 (x : GDatagram) : partO E 3 0 (x.avs.drop 13) = some (.pv (.int .i64 x.msg.msgid)) := by kernel_rfl
@[go_sem high] theorem prt_50_14_3 (x : GDatagram) : partO E 3 14 x.avs = some (.pv (.int .i64 x.msg.code)) := by kernel_rfl
@[go_sem high] theorem prd_50_14_3 (x : GDatagram) : partO E 3 0 (x.avs.drop 14) = some (.pv (.int .i64 x.msg.code)) := by kernel_rfl
@[go_sem high] theorem prt_50_15_9 (x : GDatagram) : partO E 9 15 x.avs = some (.pv (.str x.msg.name)) := by kernel_rfl
@[go_sem high] theorem prd_50_15_9 (x : GDatagram) : partO E 9 0 (x.avs.drop 15) = some (.pv (.str x.msg.name)) := by kernel_rfl
@[go_sem high] theorem prt_50_16_9 (x : GDatagram) : partO E 9 16 x.avs = some (.pv (.str x.msg.data)) := by kernel_rfl
@[go_sem high] theorem prd_50_16_9 (x : GDatagram) : partO E 9 0 (x.avs.drop 16) = some (.pv (.str x.msg.data)) := by kernel_rfl
@[go_sem high] theorem prw_50_50 (x : GDatagram) : partO E 50 0 x.avs = some (.pv x.pv) := by kernel_rfl
@[go_sem high] theorem prw_50_49 (x : GDatagram) : partO E 49 0 x.avs = some (.pv x.pv) := by kernel_rfl
@[go_sem ↓] theorem fld_60_0 (x : GEventLabel) : fieldO E 60 (.pv x.pv) 0 = some (.pv (.str x.text)) := by kernel_rfl
@[go_sem ↓] theorem fld_59_0 (x : GEventLabel) : fieldO E 59 (.pv x.pv) 0 = some (.pv (.str x.text)) := by kernel_rfl
@[go_sem high] theorem prt_60_0_9 (x : GEventLabel) : partO E 9 0 x.avs = some (.pv (.str x.text)) := by kernel_rfl
@[go_sem ↓] theorem eq_60 (x y : GEventLabel) : binO (E.ty 60) .eql (.pv x.pv) (.pv y.pv) = some (.pv (.bool (decide (x = y)))) := by rw [GEventLabel.pv_eq, GEventLabel.pv_eq]; exact eq_struct kd_60 (show (E.ty 60).eqk = [.s] by kernel_rfl) (GEventLabel.eqs x y)
@[go_sem ↓] theorem ne_60 (x y : GEventLabel) : binO (E.ty 60) .neq (.pv x.pv) (.pv y.pv) = some (.pv (.bool (!decide (x = y)))) := by rw [GEventLabel.pv_eq, GEventLabel.pv_eq]; exact ne_struct kd_60 (show (E.ty 60).eqk = [.s] by kernel_rfl) (GEventLabel.eqs x y)
@[go_sem ↓] theorem eq_59 (x y : GEventLabel) : binO (E.ty 59) .eql (.pv x.pv) (.pv y.pv) = some (.pv (.bool (decide (x = y)))) := by rw [GEventLabel.pv_eq, GEventLabel.pv_eq]; exact eq_struct kd_59 (show (E.ty 59).eqk = [.s] by kernel_rfl) (GEventLabel.eqs x y)
@[go_sem ↓] theorem ne_59 (x y : GEventLabel) : binO (E.ty 59) .neq (.pv x.pv) (.pv y.pv) = some (.pv (.bool (!decide (x = y)))) := by rw [GEventLabel.pv_eq, GEventLabel.pv_eq]; exact ne_struct kd_59 (show (E.ty 59).eqk = [.s] by kernel_rfl) (GEventLabel.eqs x y)
@[go_sem high] theorem prw_60_60 (x : GEventLabel) : partO E 60 0 x.avs = some (.pv x.pv) := by kernel_rfl
@[go_sem high] theorem prw_60_59 (x : GEventLabel) : partO E 59 0 x.avs = some (.pv x.pv) := by kernel_rfl
@[go_sem ↓] theorem fld_82_0 (x : GLimits) : fieldO E 82 (.pv x.pv) 0 = some (.pv (.int .i64 x.maxpacket)) := by kernel_rfl
@[go_sem ↓] theorem fld_81_0 (x : GLimits) : fieldO E 81 (.pv x.pv) 0 = some (.pv (.int .i64 x.maxpacket)) := by kernel_rfl
@[go_sem ↓] theorem fld_82_1 (x : GLimits) : fieldO E 82 (.pv x.pv) 1 = some (.pv (.int .i64 x.maxdepth)) := by kernel_rfl
@[go_sem ↓] theorem fld_81_1 (x : GLimits) : fieldO E 81 (.pv x.pv) 1 = some (.pv (.int .i64 x.maxdepth)) := by kernel_rfl
@[go_sem high] theorem prt_82_0_3 (x : GLimits) : partO E 3 0 x.avs = some (.pv (.int .i64 x.maxpacket)) := by kernel_rfl
@[go_sem high] theorem prt_82_1_3 (x : GLimits) : partO E 3 1 x.avs = some (.pv (.int .i64 x.maxdepth)) := by kernel_rfl
@[go_sem high] theorem prd_82_1_3 (x : GLimits) : partO E 3 0 (x.avs.drop 1) = some (.pv (.int .i64 x.maxdepth)) := by kernel_rfl
@[go_sem ↓] theorem eq_82 (x y : GLimits) : binO (E.ty 82) .eql (.pv x.pv) (.pv y.pv) = some (.pv (.bool (decide (x = y)))) := by rw [GLimits.pv_eq, GLimits.pv_eq]; exact eq_struct kd_82 (show (E.ty 82).eqk = [.i, .i] by kernel_rfl) (GLimits.eqs x y)
@[go_sem ↓] theorem ne_82 (x y : GLimits) : binO (E.ty 82) .neq (.pv x.pv) (.pv y.pv) = some (.pv (.bool (!decide (x = y)))) := by rw [GLimits.pv_eq, GLimits.pv_eq]; exact ne_struct kd_82 (show (E.ty 82).eqk = [.i, .i] by kernel_rfl) (GLimits.eqs x y)
@[go_sem ↓] theorem eq_81 (x y : GLimits) : binO (E.ty 81) .eql (.pv x.pv) (.pv y.pv) = some (.pv (.bool (decide (x = y)))) := by rw [GLimits.pv_eq, GLimits.pv_eq]; exact eq_struct kd_81 (show (E.ty 81).eqk = [.i, .i] by kernel_rfl) (GLimits.eqs x y)
@[go_sem ↓] theorem ne_81 (x y : GLimits) : binO (E.ty 81) .neq (.pv x.pv) (.pv y.pv) = some (.pv (.bool (!decide (x = y)))) := by rw [GLimits.pv_eq, GLimits.pv_eq]; exact ne_struct kd_81 (show (E.ty 81).eqk = [.i, .i] by kernel_rfl) (GLimits.eqs x y)
@[go_sem high] theorem prw_82_82 (x : GLimits) : partO E 82 0 x.avs = some (.pv x.pv) := by kernel_rfl
@[go_sem high] theorem prw_82_81 (x : GLimits) : partO E 81 0 x.avs = some (.pv x.pv) := by kernel_rfl
@[go_sem ↓] theorem fld_93_0 (x : GHeadBare) : fieldO E 93 (.pv x.pv) 0 = some (.pv (.int .i64 x.kind)) := by kernel_rfl
@[go_sem ↓] theorem fld_92_0 (x : GHeadBare) : fieldO E 92 (.pv x.pv) 0 = some (.pv (.int .i64 x.kind)) := by kernel_rfl
@[go_sem ↓] theorem fld_93_1 (x : GHeadBare) : fieldO E 93 (.pv x.pv) 1 = some (.pv (.int .i64 x.qos)) := by kernel_rfl
@[go_sem ↓] theorem fld_92_1 (x : GHeadBare) : fieldO E 92 (.pv x.pv) 1 = some (.pv (.int .i64 x.qos)) := by kernel_rfl
@[go_sem ↓] theorem fld_93_2 (x : GHeadBare) : fieldO E 93 (.pv x.pv) 2 = some (.pv (.int .i64 x.id)) := by kernel_rfl
@[go_sem ↓] theorem fld_92_2 (x : GHeadBare) : fieldO E 92 (.pv x.pv) 2 = some (.pv (.int .i64 x.id)) := by kernel_rfl
@[go_sem ↓] theorem fld_93_3 (x : GHeadBare) : fieldO E 93 (.pv x.pv) 3 = some (.pv (.int .i64 x.alive)) := by kernel_rfl
@[go_sem ↓] theorem fld_92_3 (x : GHeadBare) : fieldO E 92 (.pv x.pv) 3 = some (.pv (.int .i64 x.alive)) := by kernel_rfl
@[go_sem ↓] theorem fld_93_4 (x : GHeadBare) : fieldO E 93 (.pv x.pv) 4 = some (.pv (.int .i64 x.code)) := by kernel_rfl
@[go_sem ↓] theorem fld_92_4 (x : GHeadBare) : fieldO E 92 (.pv x.pv) 4 = some (.pv (.int .i64 x.code)) := by kernel_rfl
@[go_sem ↓] theorem fld_93_5 (x : GHeadBare) : fieldO E 93 (.pv x.pv) 5 = some (.pv (.bool x.dup)) := by kernel_rfl
@[go_sem ↓] theorem fld_92_5 (x : GHeadBare) : fieldO E 92 (.pv x.pv) 5 = some (.pv (.bool x.dup)) := by kernel_rfl
@[go_sem ↓] theorem fld_93_6 (x : GHeadBare) : fieldO E 93 (.pv x.pv) 6 = some (.pv (.bool x.retain)) := by kernel_rfl
@[go_sem ↓] theorem fld_92_6 (x : GHeadBare) : fieldO E 92 (.pv x.pv) 6 = some (.pv (.bool x.retain)) := by kernel_rfl
@[go_sem ↓] theorem fld_93_7 (x : GHeadBare) : fieldO E 93 (.pv x.pv) 7 = some (.pv (.bool x.clean)) := by kernel_rfl
@[go_sem ↓] theorem fld_92_7 (x : GHeadBare) : fieldO E 92 (.pv x.pv) 7 = some (.pv (.bool x.clean)) := by kernel_rfl
@[go_sem ↓] theorem fld_93_8 (x : GHeadBare) : fieldO E 93 (.pv x.pv) 8 = some (.pv (.bool x.user)) := by kernel_rfl
@[go_sem ↓] theorem fld_92_8 (x : GHeadBare) : fieldO E 92 (.pv x.pv) 8 = some (.pv (.bool x.user)) := by kernel_rfl
@[go_sem ↓] theorem fld_93_9 (x : GHeadBare) : fieldO E 93 (.pv x.pv) 9 = some (.pv (.bool x.pass)) := by kernel_rfl
@[go_sem ↓] theorem fld_92_9 (x : GHeadBare) : fieldO E 92 (.pv x.pv) 9 = some (.pv (.bool x.pass)) := by kernel_rfl
@[go_sem ↓] theorem fld_93_10 (x : GHeadBare) : fieldO E 93 (.pv x.pv) 10 = some (.pv (.bool x.will)) := by kernel_rfl
@[go_sem ↓] theorem fld_92_10 (x : GHeadBare) : fieldO E 92 (.pv x.pv) 10 = some (.pv (.bool x.will)) := by kernel_rfl
@[go_sem ↓] theorem fld_93_11 (x : GHeadBare) : fieldO E 93 (.pv x.pv) 11 = some (.pv (.bool x.again)) := by kernel_rfl
@[go_sem ↓] theorem fld_92_11 (x : GHeadBare) : fieldO E 92 (.pv x.pv) 11 = some (.pv (.bool x.again)) := by kernel_rfl
@[go_sem ↓] theorem fld_93_12 (x : GHeadBare) : fieldO E 93 (.pv x.pv) 12 = some (.pv (.str x.topic)) := by kernel_rfl
@[go_sem ↓] theorem fld_92_12 (x : GHeadBare) : fieldO E 92 (.pv x.pv) 12 = some (.pv (.str x.topic)) := by kernel_rfl
@[go_sem ↓] theorem fld_93_13 (x : GHeadBare) : fieldO E 93 (.pv x.pv) 13 = some (.pv (.str x.payload)) := by kernel_rfl
@[go_sem ↓] theorem fld_92_13 (x : GHeadBare) : fieldO E 92 (.pv x.pv) 13 = some (.pv (.str x.payload)) := by kernel_rfl
@[go_sem ↓] theorem fld_93_14 (x : GHeadBare) : fieldO E 93 (.pv x.pv) 14 = some (.pv (.str x.client)) := by kernel_rfl
@[go_sem ↓] theorem fld_92_14 (x : GHeadBare) : fieldO E 92 (.pv x.pv) 14 = some (.pv (.str x.client)) := by kernel_rfl
@[go_sem ↓] theorem fld_93_15 (x : GHeadBare) : fieldO E 93 (.pv x.pv) 15 = some (.pv (.str x.name)) := by kernel_rfl
@[go_sem ↓] theorem fld_92_15 (x : GHeadBare) : fieldO E 92 (.pv x.pv) 15 = some (.pv (.str x.name)) := by kernel_rfl
@[go_sem ↓] theorem fld_93_16 (x : GHeadBare) : fieldO E 93 (.pv x.pv) 16 = some (.pv (.str x.word)) := by kernel_rfl
@[go_sem ↓] theorem fld_92_16 (x : GHeadBare) : fieldO E 92 (.pv x.pv) 16 = some (.pv (.str x.word)) := by kernel_rfl
@[go_sem high] theorem prt_93_0_3 (x : GHeadBare) : partO E 3 0 x.avs = some (.pv (.int .i64 x.kind)) := by kernel_rfl
@[go_sem high] theorem prt_93_1_3 (x : GHeadBare) : partO E 3 1 x.avs = some (.pv (.int .i64 x.qos)) := by kernel_rfl
@[go_sem high] theorem prd_93_1_3 (x : GHeadBare) : partO E 3 0 (x.avs.drop 1) = some (.pv (.int .i64 x.qos)) := by kernel_rfl
@[go_sem high] theorem prt_93_2_3 (x : GHeadBare) : partO E 3 2 x.avs = some (.pv (.int .i64 x.id)) := by kernel_rfl
@[go_sem high] theorem prd_93_2_3 (x : GHeadBare) : partO E 3 0 (x.avs.drop 2) = some (.pv (.int .i64 x.id)) := by kernel_rfl
@[go_sem high] theorem prt_93_3_3 (x : GHeadBare) : partO E 3 3 x.avs = some (.pv (.int .i64 x.alive)) := by kernel_rfl
@[go_sem high] theorem prd_93_3_3 (x : GHeadBare) : partO E 3 0 (x.avs.drop 3) = some (.pv (.int .i64 x.alive)) := by kernel_rfl
@[go_sem high] theorem prt_93_4_3 (x : GHeadBare) : partO E 3 4 x.avs = some (.pv (.int .i64 x.code)) := by kernel_rfl
@[go_sem high] theorem prd_93_4_3 (x : GHeadBare) : partO E 3 0 (x.avs.drop 4) = some (.pv (.int .i64 x.code)) := by kernel_rfl
@[go_sem high] theorem prt_93_5_4 (x : GHeadBare) : partO E 4 5 x.avs = some (.pv (.bool x.dup)) := by kernel_rfl
@[go_sem high] theorem prd_93_5_4 (x : GHeadBare) : partO E 4 0 (x.avs.drop 5) = some (.pv (.bool x.dup)) := by kernel_rfl
@[go_sem high] theorem prt_93_6_4 (x : GHeadBare) : partO E 4 6 x.avs = some (.pv (.bool x.retain)) := by kernel_rfl
@[go_sem high] theorem prd_93_6_4 (x : GHeadBare) : partO E 4 0 (x.avs.drop 6) = some (.pv (.bool x.retain)) := by kernel_rfl
@[go_sem high] theorem prt_93_7_4 (x : GHeadBare) : partO E 4 7 x.avs = some (.pv (.bool x.clean)) := by kernel_rfl
@[go_sem high] theorem prd_93_7_4 (x : GHeadBare) : partO E 4 0 (x.avs.drop 7) = some (.pv (.bool x.clean)) := by kernel_rfl
@[go_sem high] theorem prt_93_8_4 (x : GHeadBare) : partO E 4 8 x.avs = some (.pv (.bool x.user)) := by kernel_rfl
@[go_sem high] theorem prd_93_8_4 (x : GHeadBare) : partO E 4 0 (x.avs.drop 8) = some (.pv (.bool x.user)) := by kernel_rfl
@[go_sem high] theorem prt_93_9_4 (x : GHeadBare) : partO E 4 9 x.avs = some (.pv (.bool x.pass)) := by kernel_rfl
@[go_sem high] theorem prd_93_9_4 (x : GHeadBare) : partO E 4 0 (x.avs.drop 9) = some (.pv (.bool x.pass)) := by kernel_rfl
@[go_sem high] theorem prt_93_10_4 (x : GHeadBare) : partO E 4 10 x.avs = some (.pv (.bool x.will)) := by kernel_rfl
@[go_sem high] theorem prd_93_10_4 (x : GHeadBare) : partO E 4 0 (x.avs.drop 10) = some (.pv (.bool x.will)) := by kernel_rfl
@[go_sem high] theorem prt_93_11_4 (x : GHeadBare) : partO E 4 11 x.avs = some (.pv (.bool x.again)) := by kernel_rfl
@[go_sem high] theorem prd_93_11_4 (x : GHeadBare) : partO E 4 0 (x.avs.drop 11) = some (.pv (.bool x.again)) := by kernel_rfl
@[go_sem high] theorem prt_93_12_9 (x : GHeadBare) : partO E 9 12 x.avs = some (.pv (.str x.topic)) := by kernel_rfl
@[go_sem high] theorem prd_93_12_9 (x : GHeadBare) : partO E 9 0 (x.avs.drop 12) = some (.pv (.str x.topic)) := by kernel_rfl
@[go_sem high] theorem prt_93_13_9 (x : GHeadBare) : partO E 9 13 x.avs = some (.pv (.str x.payload)) := by kernel_rfl
@[go_sem high] theorem prd_93_13_9 (x : GHeadBare) : partO E 9 0 (x.avs.drop 13) = some (.pv (.str x.payload)) := by kernel_rfl
@[go_sem high] theorem prt_93_14_9 (x : GHeadBare) : partO E 9 14 x.avs = some (.pv (.str x.client)) := by kernel_rfl
@[go_sem high] theorem prd_93_14_9 (x : GHeadBare) : partO E 9 0 (x.avs.drop 14) = some (.pv (.str x.client)) := by kernel_rfl
@[go_sem high] theorem prt_93_15_9 (x : GHeadBare) : partO E 9 15 x.avs = some (.pv (.str x.name)) := by kernel_rfl
@[go_sem high] theorem prd_93_15_9 (x : GHeadBare) : partO E 9 0 (x.avs.drop 15) = some (.pv (.str x.name)) := by kernel_rfl
@[go_sem high] theorem prt_93_16_9 (x : GHeadBare) : partO E 9 16 x.avs = some (.pv (.str x.word)) := by kernel_rfl
@[go_sem high] theorem prd_93_16_9 (x : GHeadBare) : partO E 9 0 (x.avs.drop 16) = some (.pv (.str x.word)) := by kernel_rfl
@[go_sem ↓] theorem eq_93 (x y : GHeadBare) : binO (E.ty 93) .eql (.pv x.pv) (.pv y.pv) = some (.pv (.bool (decide (x = y)))) := by rw [GHeadBare.pv_eq, GHeadBare.pv_eq]; exact eq_struct kd_93 (show (E.ty 93).eqk = [.i, .i, .i, .i, .i, .b, .b, .b, .b, .b, .b, .b, .s, .s, .s, .s, .s] by kernel_rfl) (GHeadBare.eqs x y)
@[go_sem ↓] theorem ne_93 (x y : GHeadBare) : binO (E.ty 93) .neq (.pv x.pv) (.pv y.pv) = some (.pv (.bool (!decide (x = y)))) := by rw [GHeadBare.pv_eq, GHeadBare.pv_eq]; exact ne_struct kd_93 (show (E.ty 93).eqk = [.i, .i, .i, .i, .i, .b, .b, .b, .b, .b, .b, .b, .s, .s, .s, .s, .s] by kernel_rfl) (GHeadBare.eqs x y)
@[go_sem ↓] theorem eq_92 (x y : GHeadBare) : binO (E.ty 92) .eql (.pv x.pv) (.pv y.pv) = some (.pv (.bool (decide (x = y)))) := by rw [GHeadBare.pv_eq, GHeadBare.pv_eq]; exact eq_struct kd_92 (show (E.ty 92).eqk = [.i, .i, .i, .i, .i, .b, .b, .b, .b, .b, .b, .b, .s, .s, .s, .s, .s] by kernel_rfl) (GHeadBare.eqs x y)
@[go_sem ↓] theorem ne_92 (x y : GHeadBare) : binO (E.ty 92) .neq (.pv x.pv) (.pv y.pv) = some (.pv (.bool (!decide (x = y)))) := by rw [GHeadBare.pv_eq, GHeadBare.pv_eq]; exact ne_struct kd_92 (show (E.ty 92).eqk = [.i, .i, .i, .i, .i, .b, .b, .b, .b, .b, .b, .b, .s, .s, .s, .s, .s] by kernel_rfl) (GHeadBare.eqs x y)
@[go_sem high] theorem prw_93_93 (x : GHeadBare) : partO E 93 0 x.avs = some (.pv x.pv) := by kernel_rfl
@[go_sem high] theorem prw_93_92 (x : GHeadBare) : partO E 92 0 x.avs = some (.pv x.pv) := by kernel_rfl
@[go_sem ↓] theorem fld_106_0 (x : GPropRule) : fieldO E 106 (.pv x.pv) 0 = some (.pv (.int .i64 x.shape)) := by kernel_rfl
@[go_sem ↓] theorem fld_105_0 (x : GPropRule) : fieldO E 105 (.pv x.pv) 0 = some (.pv (.int .i64 x.shape)) := by kernel_rfl
@[go_sem ↓] theorem fld_106_1 (x : GPropRule) : fieldO E 106 (.pv x.pv) 1 = some (.pv (.int .i64 x.kinds)) := by kernel_rfl
@[go_sem ↓] theorem fld_105_1 (x : GPropRule) : fieldO E 105 (.pv x.pv) 1 = some (.pv (.int .i64 x.kinds)) := by kernel_rfl
@[go_sem ↓] theorem fld_106_2 (x : GPropRule) : fieldO E 106 (.pv x.pv) 2 = some (.pv (.int .u32 x.least)) := by kernel_rfl
@[go_sem ↓] theorem fld_105_2 (x : GPropRule) : fieldO E 105 (.pv x.pv) 2 = some (.pv (.int .u32 x.least)) := by kernel_rfl
@[go_sem ↓] theorem fld_106_3 (x : GPropRule) : fieldO E 106 (.pv x.pv) 3 = some (.pv (.int .u32 x.most)) := by kernel_rfl
@[go_sem ↓] theorem fld_105_3 (x : GPropRule) : fieldO E 105 (.pv x.pv) 3 = some (.pv (.int .u32 x.most)) := by kernel_rfl
@[go_sem high] theorem prt_106_0_3 (x : GPropRule) : partO E 3 0 x.avs = some (.pv (.int .i64 x.shape)) := by kernel_rfl
@[go_sem high] theorem prt_106_1_3 (x : GPropRule) : partO E 3 1 x.avs = some (.pv (.int .i64 x.kinds)) := by kernel_rfl
@[go_sem high] theorem prd_106_1_3 (x : GPropRule) : partO E 3 0 (x.avs.drop 1) = some (.pv (.int .i64 x.kinds)) := by kernel_rfl
@[go_sem high] theorem prt_106_2_65 (x : GPropRule) : partO E 65 2 x.avs = some (.pv (.int .u32 x.least)) := by kernel_rfl
@[go_sem high] theorem prd_106_2_65 (x : GPropRule) : partO E 65 0 (x.avs.drop 2) = some (.pv (.int .u32 x.least)) := by kernel_rfl
@[go_sem high] theorem prt_106_3_65 (x : GPropRule) : partO E 65 3 x.avs = some (.pv (.int .u32 x.most)) := by kernel_rfl
@[go_sem high] theorem prd_106_3_65 (x : GPropRule) : partO E 65 0 (x.avs.drop 3) = some (.pv (.int .u32 x.most)) := by kernel_rfl
@[go_sem ↓] theorem eq_106 (x y : GPropRule) : binO (E.ty 106) .eql (.pv x.pv) (.pv y.pv) = some (.pv (.bool (decide (x = y)))) := by rw [GPropRule.pv_eq, GPropRule.pv_eq]; exact eq_struct kd_106 (show (E.ty 106).eqk = [.i, .i, .i, .i] by kernel_rfl) (GPropRule.eqs x y)
@[go_sem ↓] theorem ne_106 (x y : GPropRule) : binO (E.ty 106) .neq (.pv x.pv) (.pv y.pv) = some (.pv (.bool (!decide (x = y)))) := by rw [GPropRule.pv_eq, GPropRule.pv_eq]; exact ne_struct kd_106 (show (E.ty 106).eqk = [.i, .i, .i, .i] by kernel_rfl) (GPropRule.eqs x y)
@[go_sem ↓] theorem eq_105 (x y : GPropRule) : binO (E.ty 105) .eql (.pv x.pv) (.pv y.pv) = some (.pv (.bool (decide (x = y)))) := by rw [GPropRule.pv_eq, GPropRule.pv_eq]; exact eq_struct kd_105 (show (E.ty 105).eqk = [.i, .i, .i, .i] by kernel_rfl) (GPropRule.eqs x y)
@[go_sem ↓] theorem ne_105 (x y : GPropRule) : binO (E.ty 105) .neq (.pv x.pv) (.pv y.pv) = some (.pv (.bool (!decide (x = y)))) := by rw [GPropRule.pv_eq, GPropRule.pv_eq]; exact ne_struct kd_105 (show (E.ty 105).eqk = [.i, .i, .i, .i] by kernel_rfl) (GPropRule.eqs x y)
@[go_sem high] theorem prw_106_106 (x : GPropRule) : partO E 106 0 x.avs = some (.pv x.pv) := by kernel_rfl
@[go_sem high] theorem prw_106_105 (x : GPropRule) : partO E 105 0 x.avs = some (.pv x.pv) := by kernel_rfl
@[go_sem] theorem el_22 (k : IntKind) (l : List GProp) (i : Nat) (h : i < l.length) : iadrO E 22 (.pv (.lst 4 (List.map GProp.pv l))) (.pv (.int k (i : Int))) = some (.rad l[i].avs) := iadr_map kd_22 sz_67 GProp.pv GProp.avs GProp.pcells k l i h
@[go_sem] theorem el_23 (k : IntKind) (l : List GHop) (i : Nat) (h : i < l.length) : iadrO E 23 (.pv (.lst 2 (List.map GHop.pv l))) (.pv (.int k (i : Int))) = some (.rad l[i].avs) := iadr_map kd_23 sz_72 GHop.pv GHop.avs GHop.pcells k l i h
@[go_sem] theorem el_26 (k : IntKind) (l : List (Int)) (i : Nat) (h : i < l.length) : iadrO E 26 (.pv (.lst 1 (List.map (fun z => PV.int .i64 z) l))) (.pv (.int k (i : Int))) = some (.rad [.pv (.int .i64 l[i])]) := iadr_map kd_26 sz_3 (fun z => PV.int .i64 z) (fun z => [.pv (.int .i64 z)]) (fun _ => rfl) k l i h
@[go_sem] theorem el_27 (k : IntKind) (l : List GFilter) (i : Nat) (h : i < l.length) : iadrO E 27 (.pv (.lst 5 (List.map GFilter.pv l))) (.pv (.int k (i : Int))) = some (.rad l[i].avs) := iadr_map kd_27 sz_69 GFilter.pv GFilter.avs GFilter.pcells k l i h
@[go_sem] theorem el_34 (k : IntKind) (l : List GValue) (i : Nat) (h : i < l.length) : iadrO E 34 (.pv (.lst 4 (List.map GValue.pv l))) (.pv (.int k (i : Int))) = some (.rad l[i].avs) := iadr_map kd_34 sz_76 GValue.pv GValue.avs GValue.pcells k l i h
@[go_sem] theorem el_104 (k : IntKind) (l : List (Int)) (i : Nat) (h : i < l.length) : iadrO E 104 (.pv (.lst 1 (List.map (fun z => PV.int .u8 z) l))) (.pv (.int k (i : Int))) = some (.rad [.pv (.int .u8 l[i])]) := iadr_map kd_104 sz_5 (fun z => PV.int .u8 z) (fun z => [.pv (.int .u8 z)]) (fun _ => rfl) k l i h
@[go_sem] theorem el_169 (k : IntKind) (l : List (List UInt8)) (i : Nat) (h : i < l.length) : iadrO E 169 (.pv (.lst 1 (List.map (fun z => PV.str z) l))) (.pv (.int k (i : Int))) = some (.rad [.pv (.str l[i])]) := iadr_map kd_169 sz_9 (fun z => PV.str z) (fun z => [.pv (.str z)]) (fun _ => rfl) k l i h
@[go_sem ↓] theorem ap_104_104 (H : Hp) (s x : AV) : appO E 104 104 H s x = appG 1 1 H s (elemsOf x) := appO_G kd_104 (by rw [kd_104]; rfl) (by rw [ze_5]; rfl) sz_5 by_5 (by omega) (by omega) H s x
@[go_sem ↓] theorem ap_104_9 (H : Hp) (s x : AV) : appO E 104 9 H s x = appG 1 1 H s (elemsOf x) := appO_G kd_104 (by rw [kd_9]; rfl) (by rw [ze_5]; rfl) sz_5 by_5 (by omega) (by omega) H s x
@[go_sem] theorem cvi_74_3 (H : Hp) (k : IntKind) (n : Int) : cvO E 74 3 H (.pv (.int k n)) = some (.pv (.int .i64 (IntKind.i64.wrap n))) := cv_int ok_74 kd_3 H n
@[go_sem] theorem cvi_3_5 (H : Hp) (k : IntKind) (n : Int) : cvO E 3 5 H (.pv (.int k n)) = some (.pv (.int .u8 (IntKind.u8.wrap n))) := cv_int ok_3 kd_5 H n
@[go_sem] theorem cvs_104_9 (H : Hp) (b g z : Nat) (es : List PV) : cvO E 104 9 H (.own b g z es) = strB (asBytes es) := cvb_own ok_104 kd_104 kd_5 kd_9 H b g z es
@[go_sem] theorem cvi_5_21 (H : Hp) (k : IntKind) (n : Int) : cvO E 5 21 H (.pv (.int k n)) = some (.pv (.int .i32 (IntKind.i32.wrap n))) := cv_int ok_5 kd_21 H n
@[go_sem] theorem cvi_5_74 (H : Hp) (k : IntKind) (n : Int) : cvO E 5 74 H (.pv (.int k n)) = some (.pv (.int .u64 (IntKind.u64.wrap n))) := cv_int ok_5 kd_74 H n
@[go_sem] theorem cvi_65_74 (H : Hp) (k : IntKind) (n : Int) : cvO E 65 74 H (.pv (.int k n)) = some (.pv (.int .u64 (IntKind.u64.wrap n))) := cv_int ok_65 kd_74 H n
@[go_sem] theorem cvi_65_3 (H : Hp) (k : IntKind) (n : Int) : cvO E 65 3 H (.pv (.int k n)) = some (.pv (.int .i64 (IntKind.i64.wrap n))) := cv_int ok_65 kd_3 H n
@[go_sem] theorem cvi_2_74 (H : Hp) (k : IntKind) (n : Int) : cvO E 2 74 H (.pv (.int k n)) = some (.pv (.int .u64 (IntKind.u64.wrap n))) := cv_int ok_2 kd_74 H n
@[go_sem] theorem cvi_21_5 (H : Hp) (k : IntKind) (n : Int) : cvO E 21 5 H (.pv (.int k n)) = some (.pv (.int .u8 (IntKind.u8.wrap n))) := cv_int ok_21 kd_5 H n
@[go_sem] theorem cvr_21_9 (H : Hp) (k : IntKind) (n : Int) : cvO E 21 9 H (.pv (.int k n)) = some (.pv (.str (Utf8.encode n).data.toList)) := cv_rune ok_21 kd_9 H n
@[go_sem] theorem cvi_3_74 (H : Hp) (k : IntKind) (n : Int) : cvO E 3 74 H (.pv (.int k n)) = some (.pv (.int .u64 (IntKind.u64.wrap n))) := cv_int ok_3 kd_74 H n
@[go_sem] theorem cvi_3_119 (H : Hp) (k : IntKind) (n : Int) : cvO E 3 119 H (.pv (.int k n)) = some (.pv (.int .u64 (IntKind.u64.wrap n))) := cv_int ok_3 kd_119 H n
@[go_sem] theorem cvi_74_5 (H : Hp) (k : IntKind) (n : Int) : cvO E 74 5 H (.pv (.int k n)) = some (.pv (.int .u8 (IntKind.u8.wrap n))) := cv_int ok_74 kd_5 H n
@[go_sem] theorem cvi_74_65 (H : Hp) (k : IntKind) (n : Int) : cvO E 74 65 H (.pv (.int k n)) = some (.pv (.int .u32 (IntKind.u32.wrap n))) := cv_int ok_74 kd_65 H n
@[go_sem] theorem cvi_65_5 (H : Hp) (k : IntKind) (n : Int) : cvO E 65 5 H (.pv (.int k n)) = some (.pv (.int .u8 (IntKind.u8.wrap n))) := cv_int ok_65 kd_5 H n
@[go_sem] theorem cvi_5_3 (H : Hp) (k : IntKind) (n : Int) : cvO E 5 3 H (.pv (.int k n)) = some (.pv (.int .i64 (IntKind.i64.wrap n))) := cv_int ok_5 kd_3 H n
@[go_sem] theorem cvi_119_65 (H : Hp) (k : IntKind) (n : Int) : cvO E 119 65 H (.pv (.int k n)) = some (.pv (.int .u32 (IntKind.u32.wrap n))) := cv_int ok_119 kd_65 H n
@[go_sem] theorem cvi_5_65 (H : Hp) (k : IntKind) (n : Int) : cvO E 5 65 H (.pv (.int k n)) = some (.pv (.int .u32 (IntKind.u32.wrap n))) := cv_int ok_5 kd_65 H n
@[go_sem] theorem bv_50_0_1 (y0 : List GHop) (y1 : GMsg) : buildV E 50 [(0, .pv (.lst 2 (List.map GHop.pv y0))), (1, .pv (y1.pv))] [] = some (.pv (GDatagram.pv (GDatagram.mk y0 y1))) := by kernel_rfl
@[go_sem] theorem bs_58_11 (ev : Operand → AV) (p0 p1 p2 p3 p4 p5 p6 p7 p8 p9 p10 : Nat × Operand) : bsliceO E ev 58 11 [p0, p1, p2, p3, p4, p5, p6, p7, p8, p9, p10] = sliceP 2 (partsV 2 0 [(p0.1, ev p0.2), (p1.1, ev p1.2), (p2.1, ev p2.2), (p3.1, ev p3.2), (p4.1, ev p4.2), (p5.1, ev p5.2), (p6.1, ev p6.2), (p7.1, ev p7.2), (p8.1, ev p8.2), (p9.1, ev p9.2), (p10.1, ev p10.2)]) := bsliceO_V kd_58 sz_54 (by rw [ze_54]; rfl) rfl (by simp) ev
@[go_sem] theorem bv_38_0_1_2_3_4_7_5 (y0 : Int) (y1 : Int) (y2 : List UInt8) (y3 : List UInt8) (y4 : Int) (y7 : Int) (y5 : Bool) : buildV E 38 [(0, .pv (.int .i64 y0)), (1, .pv (.int .i64 y1)), (2, .pv (.str y2)), (3, .pv (.str y3)), (4, .pv (.int .i64 y4)), (7, .pv (.int .i64 y7)), (5, .pv (.bool y5))] [] = some (.pv (GEvent.pv ({ GEvent.zero with proto := y0, kind := y1, topic := y2, payload := y3, qos := y4, id := y7, retain := y5 }))) := by kernel_rfl
@[go_sem] theorem bv_33_0 (y0 : Int) : buildV E 33 [(0, .pv (.int .i64 y0))] [] = some (.pv (GMsg.pv ({ GMsg.zero with ty := y0 }))) := by kernel_rfl
@[go_sem] theorem bv_29  : buildV E 29 [] [] = some (.pv (GPacket.pv (GPacket.zero))) := by kernel_rfl
@[go_sem] theorem bv_33  : buildV E 33 [] [] = some (.pv (GMsg.pv (GMsg.zero))) := by kernel_rfl
@[go_sem] theorem bv_36  : buildV E 36 [] [] = some (.pv (GFrame.pv (GFrame.zero))) := by kernel_rfl
@[go_sem] theorem bv_60_0 (y0 : List UInt8) : buildV E 60 [(0, .pv (.str y0))] [] = some (.pv (GEventLabel.pv (GEventLabel.mk y0))) := by kernel_rfl
@[go_sem] theorem bv_82_0_1 (y0 : Int) (y1 : Int) : buildV E 82 [(0, .pv (.int .i64 y0)), (1, .pv (.int .i64 y1))] [] = some (.pv (GLimits.pv (GLimits.mk y0 y1))) := by kernel_rfl
@[go_sem] theorem bs_104_1 (ev : Operand → AV) (p0 : Nat × Operand) : bsliceO E ev 104 1 [p0] = sliceP 1 (partsV 1 0 [(p0.1, ev p0.2)]) := bsliceO_V kd_104 sz_5 (by rw [ze_5]; rfl) rfl (by simp) ev
@[go_sem] theorem bv_93_0_1_2_3_4_5_6_7_8_9_10_11_12_13_14_15_16 (y0 : Int) (y1 : Int) (y2 : Int) (y3 : Int) (y4 : Int) (y5 : Bool) (y6 : Bool) (y7 : Bool) (y8 : Bool) (y9 : Bool) (y10 : Bool) (y11 : Bool) (y12 : List UInt8) (y13 : List UInt8) (y14 : List UInt8) (y15 : List UInt8) (y16 : List UInt8) : buildV E 93 [(0, .pv (.int .i64 y0)), (1, .pv (.int .i64 y1)), (2, .pv (.int .i64 y2)), (3, .pv (.int .i64 y3)), (4, .pv (.int .i64 y4)), (5, .pv (.bool y5)), (6, .pv (.bool y6)), (7, .pv (.bool y7)), (8, .pv (.bool y8)), (9, .pv (.bool y9)), (10, .pv (.bool y10)), (11, .pv (.bool y11)), (12, .pv (.str y12)), (13, .pv (.str y13)), (14, .pv (.str y14)), (15, .pv (.str y15)), (16, .pv (.str y16))] [] = some (.pv (GHeadBare.pv (GHeadBare.mk y0 y1 y2 y3 y4 y5 y6 y7 y8 y9 y10 y11 y12 y13 y14 y15 y16))) := by kernel_rfl
@[go_sem] theorem bv_106_0_1_2_3 (y0 : Int) (y1 : Int) (y2 : Int) (y3 : Int) : buildV E 106 [(0, .pv (.int .i64 y0)), (1, .pv (.int .i64 y1)), (2, .pv (.int .u32 y2)), (3, .pv (.int .u32 y3))] [] = some (.pv (GPropRule.pv (GPropRule.mk y0 y1 y2 y3))) := by kernel_rfl
@[go_sem] theorem bv_31  : buildV E 31 [] [] = some (.pv (GFlags.pv (GFlags.zero))) := by kernel_rfl
@[go_sem] theorem bv_33_0_1 (y0 : Int) (y1 : GFlags) : buildV E 33 [(0, .pv (.int .i64 y0)), (1, .pv (y1.pv))] [] = some (.pv (GMsg.pv ({ GMsg.zero with ty := y0, flags := y1 }))) := by kernel_rfl
@[go_sem] theorem bs_161_2 (ev : Operand → AV) (p0 p1 : Nat × Operand) : bsliceO E ev 161 2 [p0, p1] = sliceP 1 (partsV 1 0 [(p0.1, ev p0.2), (p1.1, ev p1.2)]) := bsliceO_V kd_161 sz_1 (by rw [ze_1]; rfl) rfl (by simp) ev
@[go_sem] theorem bs_161_1 (ev : Operand → AV) (p0 : Nat × Operand) : bsliceO E ev 161 1 [p0] = sliceP 1 (partsV 1 0 [(p0.1, ev p0.2)]) := bsliceO_V kd_161 sz_1 (by rw [ze_1]; rfl) rfl (by simp) ev
@[go_sem] theorem bs_161_4 (ev : Operand → AV) (p0 p1 p2 p3 : Nat × Operand) : bsliceO E ev 161 4 [p0, p1, p2, p3] = sliceP 1 (partsV 1 0 [(p0.1, ev p0.2), (p1.1, ev p1.2), (p2.1, ev p2.2), (p3.1, ev p3.2)]) := bsliceO_V kd_161 sz_1 (by rw [ze_1]; rfl) rfl (by simp) ev
@[go_sem] theorem bs_161_3 (ev : Operand → AV) (p0 p1 p2 : Nat × Operand) : bsliceO E ev 161 3 [p0, p1, p2] = sliceP 1 (partsV 1 0 [(p0.1, ev p0.2), (p1.1, ev p1.2), (p2.1, ev p2.2)]) := bsliceO_V kd_161 sz_1 (by rw [ze_1]; rfl) rfl (by simp) ev
@[go_sem] theorem bv_31_0_1_2_3_4_5 (y0 : Bool) (y1 : Int) (y2 : Bool) (y3 : Bool) (y4 : Bool) (y5 : Int) : buildV E 31 [(0, .pv (.bool y0)), (1, .pv (.int .i64 y1)), (2, .pv (.bool y2)), (3, .pv (.bool y3)), (4, .pv (.bool y4)), (5, .pv (.int .i64 y5))] [] = some (.pv (GFlags.pv (GFlags.mk y0 y1 y2 y3 y4 y5))) := by kernel_rfl
theorem go_3 (c : Oracle) (lp : LoopO PV) (x0 x1 : PV) : pureK E c lp 3 [x0, x1] = startC E c lp PV.same 3 7 Tryz.f3 [] [] (finP E [.tmp 4] [4]) (Fr.set (Fr.set (Fr.full 7) 0 (.pv x0)) 1 (.pv x1)) := by kernel_rfl
@[go_sem ↓] theorem ca_3 {c : Oracle} {bases : List Nat} {f : Nat} {vs : List AV} {H : Hp} : callO E c bases f 3 vs H = obind (argsO E H [38, 38] vs) (pureC c 3 H) := callO_pure (by kernel_rfl) (rfl) (by kernel_rfl) (fn := Tryz.f3) (by kernel_rfl) (by kernel_rfl)
theorem go_4 (c : Oracle) (lp : LoopO PV)  : pureK E c lp 4 [] = startC E c lp PV.same 4 3 Tryz.f4 [] [] (finP E [.tmp 0] [4]) (Fr.full 3) := by kernel_rfl
@[go_sem ↓] theorem ca_4 {c : Oracle} {bases : List Nat} {f : Nat} {vs : List AV} {H : Hp} : callO E c bases f 4 vs H = obind (argsO E H [] vs) (pureC c 4 H) := callO_pure (by kernel_rfl) (rfl) (by kernel_rfl) (fn := Tryz.f4) (by kernel_rfl) (by kernel_rfl)
theorem go_5 (c : Oracle) (lp : LoopO PV) (x0 : PV) : pureK E c lp 5 [x0] = startC E c lp PV.same 5 6 Tryz.f5 [] [] (finP E [.tmp 2] [4]) (Fr.set (Fr.full 6) 0 (.pv x0)) := by kernel_rfl
@[go_sem ↓] theorem ca_5 {c : Oracle} {bases : List Nat} {f : Nat} {vs : List AV} {H : Hp} : callO E c bases f 5 vs H = obind (argsO E H [38] vs) (pureC c 5 H) := callO_pure (by kernel_rfl) (rfl) (by kernel_rfl) (fn := Tryz.f5) (by kernel_rfl) (by kernel_rfl)
theorem go_6 (c : Oracle) (lp : LoopO PV) (x0 : PV) : pureK E c lp 6 [x0] = startC E c lp PV.same 6 6 Tryz.f6 [] [] (finP E [.tmp 2] [41]) (Fr.set (Fr.full 6) 0 (.pv x0)) := by kernel_rfl
@[go_sem ↓] theorem ca_6 {c : Oracle} {bases : List Nat} {f : Nat} {vs : List AV} {H : Hp} : callO E c bases f 6 vs H = obind (argsO E H [38] vs) (pureC c 6 H) := callO_pure (by kernel_rfl) (rfl) (by kernel_rfl) (fn := Tryz.f6) (by kernel_rfl) (by kernel_rfl)
theorem go_7 (c : Oracle) (lp : LoopO PV) (x0 : PV) : pureK E c lp 7 [x0] = startC E c lp PV.same 7 6 Tryz.f7 [] [] (finP E [.tmp 2] [9]) (Fr.set (Fr.full 6) 0 (.pv x0)) := by kernel_rfl
@[go_sem ↓] theorem ca_7 {c : Oracle} {bases : List Nat} {f : Nat} {vs : List AV} {H : Hp} : callO E c bases f 7 vs H = obind (argsO E H [38] vs) (pureC c 7 H) := callO_pure (by kernel_rfl) (rfl) (by kernel_rfl) (fn := Tryz.f7) (by kernel_rfl) (by kernel_rfl)
theorem go_8 (c : Oracle) (lp : LoopO PV)  : pureK E c lp 8 [] = startC E c lp PV.same 8 2 Tryz.f8 [] [] (finP E [.cell 0 38] [38]) (Fr.full 2) := by kernel_rfl
@[go_sem ↓] theorem ca_8 {c : Oracle} {bases : List Nat} {f : Nat} {vs : List AV} {H : Hp} : callO E c bases f 8 vs H = obind (argsO E H [] vs) (pureC c 8 H) := callO_pure (by kernel_rfl) (rfl) (by kernel_rfl) (fn := Tryz.f8) (by kernel_rfl) (by kernel_rfl)
theorem go_9 (c : Oracle) (lp : LoopO PV) (x0 : PV) : pureK E c lp 9 [x0] = startC E c lp PV.same 9 5 Tryz.f9 [] [] (finP E [.tmp 2] [4]) (Fr.set (Fr.full 5) 0 (.pv x0)) := by kernel_rfl
@[go_sem ↓] theorem ca_9 {c : Oracle} {bases : List Nat} {f : Nat} {vs : List AV} {H : Hp} : callO E c bases f 9 vs H = obind (argsO E H [22] vs) (pureC c 9 H) := callO_pure (by kernel_rfl) (rfl) (by kernel_rfl) (fn := Tryz.f9) (by kernel_rfl) (by kernel_rfl)
theorem go_10 (c : Oracle) (lp : LoopO PV) (x0 : PV) : pureK E c lp 10 [x0] = startC E c lp PV.same 10 7 Tryz.f10 [] [] (finP E [.tmp 2] [4]) (Fr.set (Fr.full 7) 0 (.pv x0)) := by kernel_rfl
@[go_sem ↓] theorem ca_10 {c : Oracle} {bases : List Nat} {f : Nat} {vs : List AV} {H : Hp} : callO E c bases f 10 vs H = obind (argsO E H [29] vs) (pureC c 10 H) := callO_pure (by kernel_rfl) (rfl) (by kernel_rfl) (fn := Tryz.f10) (by kernel_rfl) (by kernel_rfl)
theorem go_11 (c : Oracle) (lp : LoopO PV) (x0 : PV) : pureK E c lp 11 [x0] = startC E c lp PV.same 11 5 Tryz.f11 [] [] (finP E [.tmp 2] [4]) (Fr.set (Fr.full 5) 0 (.pv x0)) := by kernel_rfl
@[go_sem ↓] theorem ca_11 {c : Oracle} {bases : List Nat} {f : Nat} {vs : List AV} {H : Hp} : callO E c bases f 11 vs H = obind (argsO E H [50] vs) (pureC c 11 H) := callO_pure (by kernel_rfl) (rfl) (by kernel_rfl) (fn := Tryz.f11) (by kernel_rfl) (by kernel_rfl)
theorem go_12 (c : Oracle) (lp : LoopO PV) (x0 : PV) : pureK E c lp 12 [x0] = startC E c lp PV.same 12 5 Tryz.f12 [] [] (finP E [.tmp 2] [4]) (Fr.set (Fr.full 5) 0 (.pv x0)) := by kernel_rfl
@[go_sem ↓] theorem ca_12 {c : Oracle} {bases : List Nat} {f : Nat} {vs : List AV} {H : Hp} : callO E c bases f 12 vs H = obind (argsO E H [36] vs) (pureC c 12 H) := callO_pure (by kernel_rfl) (rfl) (by kernel_rfl) (fn := Tryz.f12) (by kernel_rfl) (by kernel_rfl)
theorem go_13 (c : Oracle) (lp : LoopO (AV × Hp)) (bases : List Nat) (x0 : AV) (H : Hp) : shutK E c lp bases 13 [x0] H = startC E c lp (fun _ _ => false) 13 4 Tryz.f13 (H.length :: bases) H (finS E H.length [.tmp 1]) (Fr.set (Fr.full 4) 0 (x0)) := by kernel_rfl
@[go_sem ↓] theorem ca_13 {c : Oracle} {bases : List Nat} {f : Nat} {vs : List AV} {H : Hp} : callO E c bases f 13 vs H = c.shut bases 13 vs H := callO_shut (by kernel_rfl) rfl (by rw [show E.cls 13 = .shut from by kernel_rfl]; exact fun h => by cases h)
theorem go_14 (c : Oracle) (lp : LoopO PV) (x0 : PV) : pureK E c lp 14 [x0] = startC E c lp PV.same 14 4 Tryz.f14 [] [] (finP E [.tmp 2] [4]) (Fr.set (Fr.full 4) 0 (.pv x0)) := by kernel_rfl
@[go_sem ↓] theorem ca_14 {c : Oracle} {bases : List Nat} {f : Nat} {vs : List AV} {H : Hp} : callO E c bases f 14 vs H = obind (argsO E H [3] vs) (pureC c 14 H) := callO_pure (by kernel_rfl) (rfl) (by kernel_rfl) (fn := Tryz.f14) (by kernel_rfl) (by kernel_rfl)
theorem go_15 (c : Oracle) (lp : LoopO (AV × Hp)) (bases : List Nat) (x0 : AV) (H : Hp) : shutK E c lp bases 15 [x0] H = startC E c lp (fun _ _ => false) 15 3 Tryz.f15 (H.length :: bases) H (finS E H.length [.tmp 1]) (Fr.set (Fr.full 3) 0 (x0)) := by kernel_rfl
@[go_sem ↓] theorem ca_15 {c : Oracle} {bases : List Nat} {f : Nat} {vs : List AV} {H : Hp} : callO E c bases f 15 vs H = c.shut bases 15 vs H := callO_shut (by kernel_rfl) rfl (by rw [show E.cls 15 = .shut from by kernel_rfl]; exact fun h => by cases h)
theorem go_16 (c : Oracle) (lp : LoopO PV) (x0 : PV) : pureK E c lp 16 [x0] = startC E c lp PV.same 16 4 Tryz.f16 [] [] (finP E [.tmp 2] [4]) (Fr.set (Fr.full 4) 0 (.pv x0)) := by kernel_rfl
@[go_sem ↓] theorem ca_16 {c : Oracle} {bases : List Nat} {f : Nat} {vs : List AV} {H : Hp} : callO E c bases f 16 vs H = obind (argsO E H [9] vs) (pureC c 16 H) := callO_pure (by kernel_rfl) (rfl) (by kernel_rfl) (fn := Tryz.f16) (by kernel_rfl) (by kernel_rfl)
theorem go_17 (c : Oracle) (lp : LoopO (AV × Hp)) (bases : List Nat) (x0 x1 : AV) (H : Hp) : shutK E c lp bases 17 [x0, x1] H = startC E c lp (fun _ _ => false) 17 5 Tryz.f17 (H.length :: bases) H (finS E H.length [.tmp 2]) (Fr.set (Fr.set (Fr.full 5) 0 (x0)) 1 (x1)) := by kernel_rfl
@[go_sem ↓] theorem ca_17 {c : Oracle} {bases : List Nat} {f : Nat} {vs : List AV} {H : Hp} : callO E c bases f 17 vs H = c.shut bases 17 vs H := callO_shut (by kernel_rfl) rfl (by rw [show E.cls 17 = .shut from by kernel_rfl]; exact fun h => by cases h)
theorem go_18 (c : Oracle) (lp : LoopO PV) (x0 x1 x2 : PV) : pureK E c lp 18 [x0, x1, x2] = startC E c lp PV.same 18 4 Tryz.f18 [] [] (finP E [.tmp 6] [4]) (Fr.set (Fr.set (Fr.set (Fr.full 4) 0 (.pv x0)) 1 (.pv x1)) 2 (.pv x2)) := by kernel_rfl
@[go_sem ↓] theorem ca_18 {c : Oracle} {bases : List Nat} {f : Nat} {vs : List AV} {H : Hp} : callO E c bases f 18 vs H = obind (argsO E H [3, 3, 3] vs) (pureC c 18 H) := callO_pure (by kernel_rfl) (rfl) (by kernel_rfl) (fn := Tryz.f18) (by kernel_rfl) (by kernel_rfl)
theorem go_19 (c : Oracle) (lp : LoopO (AV × Hp)) (bases : List Nat) (x0 x1 : AV) (H : Hp) : shutK E c lp bases 19 [x0, x1] H = startC E c lp (fun _ _ => false) 19 4 Tryz.f19 (H.length :: bases) H (finS E H.length [.tmp 2]) (Fr.set (Fr.set (Fr.full 4) 0 (x0)) 1 (x1)) := by kernel_rfl
@[go_sem ↓] theorem ca_19 {c : Oracle} {bases : List Nat} {f : Nat} {vs : List AV} {H : Hp} : callO E c bases f 19 vs H = c.shut bases 19 vs H := callO_shut (by kernel_rfl) rfl (by rw [show E.cls 19 = .shut from by kernel_rfl]; exact fun h => by cases h)
theorem go_20 (c : Oracle) (lp : LoopO (AV × Hp)) (bases : List Nat) (x0 x1 x2 : AV) (H : Hp) : shutK E c lp bases 20 [x0, x1, x2] H = startC E c lp (fun _ _ => false) 20 4 Tryz.f20 (H.length :: bases) H (finS E H.length [.tmp 3]) (Fr.set (Fr.set (Fr.set (Fr.full 4) 0 (x0)) 1 (x1)) 2 (x2)) := by kernel_rfl
@[go_sem ↓] theorem ca_20 {c : Oracle} {bases : List Nat} {f : Nat} {vs : List AV} {H : Hp} : callO E c bases f 20 vs H = c.shut bases 20 vs H := callO_shut (by kernel_rfl) rfl (by rw [show E.cls 20 = .shut from by kernel_rfl]; exact fun h => by cases h)
theorem go_21 (c : Oracle) (lp : LoopO (AV × Hp)) (bases : List Nat) (x0 : AV) (H : Hp) : shutK E c lp bases 21 [x0] H = startC E c lp (fun _ _ => false) 21 4 Tryz.f21 (H.length :: bases) H (finS E H.length [.tmp 1]) (Fr.set (Fr.full 4) 0 (x0)) := by kernel_rfl
@[go_sem ↓] theorem ca_21 {c : Oracle} {bases : List Nat} {f : Nat} {vs : List AV} {H : Hp} : callO E c bases f 21 vs H = c.shut bases 21 vs H := callO_shut (by kernel_rfl) rfl (by rw [show E.cls 21 = .shut from by kernel_rfl]; exact fun h => by cases h)
theorem go_22 (c : Oracle) (lp : LoopO (AV × Hp)) (bases : List Nat) (x0 x1 : AV) (H : Hp) : shutK E c lp bases 22 [x0, x1] H = startC E c lp (fun _ _ => false) 22 5 Tryz.f22 (H.length :: bases) H (finS E H.length [.tmp 2]) (Fr.set (Fr.set (Fr.full 5) 0 (x0)) 1 (x1)) := by kernel_rfl
@[go_sem ↓] theorem ca_22 {c : Oracle} {bases : List Nat} {f : Nat} {vs : List AV} {H : Hp} : callO E c bases f 22 vs H = c.shut bases 22 vs H := callO_shut (by kernel_rfl) rfl (by rw [show E.cls 22 = .shut from by kernel_rfl]; exact fun h => by cases h)
theorem go_23 (c : Oracle) (lp : LoopO PV) (x0 : PV) : pureK E c lp 23 [x0] = startC E c lp PV.same 23 5 Tryz.f23 [] [] (finP E [.tmp 2] [4]) (Fr.set (Fr.full 5) 0 (.pv x0)) := by kernel_rfl
@[go_sem ↓] theorem ca_23 {c : Oracle} {bases : List Nat} {f : Nat} {vs : List AV} {H : Hp} : callO E c bases f 23 vs H = obind (argsO E H [38] vs) (pureC c 23 H) := callO_pure (by kernel_rfl) (rfl) (by kernel_rfl) (fn := Tryz.f23) (by kernel_rfl) (by kernel_rfl)
theorem go_24 (c : Oracle) (lp : LoopO (AV × Hp)) (bases : List Nat) (x0 : AV) (H : Hp) : shutK E c lp bases 24 [x0] H = startC E c lp (fun _ _ => false) 24 3 Tryz.f24 (H.length :: bases) H (finS E H.length [.tmp 1]) (Fr.set (Fr.full 3) 0 (x0)) := by kernel_rfl
@[go_sem ↓] theorem ca_24 {c : Oracle} {bases : List Nat} {f : Nat} {vs : List AV} {H : Hp} : callO E c bases f 24 vs H = c.shut bases 24 vs H := callO_shut (by kernel_rfl) rfl (by rw [show E.cls 24 = .shut from by kernel_rfl]; exact fun h => by cases h)
theorem go_25 (c : Oracle) (lp : LoopO (AV × Hp)) (bases : List Nat) (x0 : AV) (H : Hp) : shutK E c lp bases 25 [x0] H = startC E c lp (fun _ _ => false) 25 4 Tryz.f25 (H.length :: bases) H (finS E H.length [.tmp 1]) (Fr.set (Fr.full 4) 0 (x0)) := by kernel_rfl
@[go_sem ↓] theorem ca_25 {c : Oracle} {bases : List Nat} {f : Nat} {vs : List AV} {H : Hp} : callO E c bases f 25 vs H = c.shut bases 25 vs H := callO_shut (by kernel_rfl) rfl (by rw [show E.cls 25 = .shut from by kernel_rfl]; exact fun h => by cases h)
theorem go_26 (c : Oracle) (lp : LoopO (AV × Hp)) (bases : List Nat) (x0 : AV) (H : Hp) : shutK E c lp bases 26 [x0] H = startC E c lp (fun _ _ => false) 26 3 Tryz.f26 (H.length :: bases) H (finS E H.length [.tmp 1]) (Fr.set (Fr.full 3) 0 (x0)) := by kernel_rfl
@[go_sem ↓] theorem ca_26 {c : Oracle} {bases : List Nat} {f : Nat} {vs : List AV} {H : Hp} : callO E c bases f 26 vs H = c.shut bases 26 vs H := callO_shut (by kernel_rfl) rfl (by rw [show E.cls 26 = .shut from by kernel_rfl]; exact fun h => by cases h)
theorem go_27 (c : Oracle) (lp : LoopO PV) (x0 : PV) : pureK E c lp 27 [x0] = startC E c lp PV.same 27 5 Tryz.f27 [] [] (finP E [.tmp 2] [4]) (Fr.set (Fr.full 5) 0 (.pv x0)) := by kernel_rfl
@[go_sem ↓] theorem ca_27 {c : Oracle} {bases : List Nat} {f : Nat} {vs : List AV} {H : Hp} : callO E c bases f 27 vs H = obind (argsO E H [38] vs) (pureC c 27 H) := callO_pure (by kernel_rfl) (rfl) (by kernel_rfl) (fn := Tryz.f27) (by kernel_rfl) (by kernel_rfl)
theorem go_28 (c : Oracle) (lp : LoopO (AV × Hp)) (bases : List Nat) (x0 : AV) (H : Hp) : shutK E c lp bases 28 [x0] H = startC E c lp (fun _ _ => false) 28 3 Tryz.f28 (H.length :: bases) H (finS E H.length [.tmp 1]) (Fr.set (Fr.full 3) 0 (x0)) := by kernel_rfl
@[go_sem ↓] theorem ca_28 {c : Oracle} {bases : List Nat} {f : Nat} {vs : List AV} {H : Hp} : callO E c bases f 28 vs H = c.shut bases 28 vs H := callO_shut (by kernel_rfl) rfl (by rw [show E.cls 28 = .shut from by kernel_rfl]; exact fun h => by cases h)
theorem go_29 (c : Oracle) (lp : LoopO PV) (x0 x1 : PV) : pureK E c lp 29 [x0, x1] = startC E c lp PV.same 29 4 Tryz.f29 [] [] (finP E [.tmp 4] [41]) (Fr.set (Fr.set (Fr.full 4) 0 (.pv x0)) 1 (.pv x1)) := by kernel_rfl
@[go_sem ↓] theorem ca_29 {c : Oracle} {bases : List Nat} {f : Nat} {vs : List AV} {H : Hp} : callO E c bases f 29 vs H = obind (argsO E H [3, 22] vs) (pureC c 29 H) := callO_pure (by kernel_rfl) (rfl) (by kernel_rfl) (fn := Tryz.f29) (by kernel_rfl) (by kernel_rfl)
theorem go_30 (c : Oracle) (lp : LoopO PV)  : pureK E c lp 30 [] = startC E c lp PV.same 30 3 Tryz.f30 [] [] (finP E [.tmp 0] [62]) (Fr.full 3) := by kernel_rfl
@[go_sem ↓] theorem ca_30 {c : Oracle} {bases : List Nat} {f : Nat} {vs : List AV} {H : Hp} : callO E c bases f 30 vs H = obind (argsO E H [] vs) (pureC c 30 H) := callO_pure (by kernel_rfl) (rfl) (by kernel_rfl) (fn := Tryz.f30) (by kernel_rfl) (by kernel_rfl)
theorem go_31 (c : Oracle) (lp : LoopO PV) (x0 : PV) : pureK E c lp 31 [x0] = startC E c lp PV.same 31 3 Tryz.f31 [] [] (finP E [.tmp 2] [9]) (Fr.set (Fr.full 3) 0 (.pv x0)) := by kernel_rfl
@[go_sem ↓] theorem ca_31 {c : Oracle} {bases : List Nat} {f : Nat} {vs : List AV} {H : Hp} : callO E c bases f 31 vs H = obind (argsO E H [3] vs) (pureC c 31 H) := callO_pure (by kernel_rfl) (rfl) (by kernel_rfl) (fn := Tryz.f31) (by kernel_rfl) (by kernel_rfl)
theorem go_32 (c : Oracle) (lp : LoopO PV) (x0 : PV) : pureK E c lp 32 [x0] = startC E c lp PV.same 32 4 Tryz.f32 [] [] (finP E [.tmp 2] [4]) (Fr.set (Fr.full 4) 0 (.pv x0)) := by kernel_rfl
@[go_sem ↓] theorem ca_32 {c : Oracle} {bases : List Nat} {f : Nat} {vs : List AV} {H : Hp} : callO E c bases f 32 vs H = obind (argsO E H [33] vs) (pureC c 32 H) := callO_pure (by kernel_rfl) (rfl) (by kernel_rfl) (fn := Tryz.f32) (by kernel_rfl) (by kernel_rfl)
theorem go_33 (c : Oracle) (lp : LoopO PV) (x0 : PV) : pureK E c lp 33 [x0] = startC E c lp PV.same 33 3 Tryz.f33 [] [] (finP E [.tmp 2] [4]) (Fr.set (Fr.full 3) 0 (.pv x0)) := by kernel_rfl
@[go_sem ↓] theorem ca_33 {c : Oracle} {bases : List Nat} {f : Nat} {vs : List AV} {H : Hp} : callO E c bases f 33 vs H = obind (argsO E H [76] vs) (pureC c 33 H) := callO_pure (by kernel_rfl) (rfl) (by kernel_rfl) (fn := Tryz.f33) (by kernel_rfl) (by kernel_rfl)
theorem go_34 (c : Oracle) (lp : LoopO PV) (x0 : PV) : pureK E c lp 34 [x0] = startC E c lp PV.same 34 4 Tryz.f34 [] [] (finP E [.tmp 2] [4]) (Fr.set (Fr.full 4) 0 (.pv x0)) := by kernel_rfl
@[go_sem ↓] theorem ca_34 {c : Oracle} {bases : List Nat} {f : Nat} {vs : List AV} {H : Hp} : callO E c bases f 34 vs H = obind (argsO E H [9] vs) (pureC c 34 H) := callO_pure (by kernel_rfl) (rfl) (by kernel_rfl) (fn := Tryz.f34) (by kernel_rfl) (by kernel_rfl)
theorem go_35 (c : Oracle) (lp : LoopO PV) (x0 x1 : PV) : pureK E c lp 35 [x0, x1] = startC E c lp PV.same 35 4 Tryz.f35 [] [] (finP E [.tmp 4] [4]) (Fr.set (Fr.set (Fr.full 4) 0 (.pv x0)) 1 (.pv x1)) := by kernel_rfl
@[go_sem ↓] theorem ca_35 {c : Oracle} {bases : List Nat} {f : Nat} {vs : List AV} {H : Hp} : callO E c bases f 35 vs H = obind (argsO E H [9, 9] vs) (pureC c 35 H) := callO_pure (by kernel_rfl) (rfl) (by kernel_rfl) (fn := Tryz.f35) (by kernel_rfl) (by kernel_rfl)
theorem go_36 (c : Oracle) (lp : LoopO PV) (x0 : PV) : pureK E c lp 36 [x0] = startC E c lp PV.same 36 4 Tryz.f36 [] [] (finP E [.tmp 2, .tmp 3] [3, 4]) (Fr.set (Fr.full 4) 0 (.pv x0)) := by kernel_rfl
@[go_sem ↓] theorem ca_36 {c : Oracle} {bases : List Nat} {f : Nat} {vs : List AV} {H : Hp} : callO E c bases f 36 vs H = obind (argsO E H [9] vs) (pureC c 36 H) := callO_pure (by kernel_rfl) (rfl) (by kernel_rfl) (fn := Tryz.f36) (by kernel_rfl) (by kernel_rfl)
theorem go_37 (c : Oracle) (lp : LoopO PV) (x0 x1 : PV) : pureK E c lp 37 [x0, x1] = startC E c lp PV.same 37 4 Tryz.f37 [] [] (finP E [.tmp 4] [41]) (Fr.set (Fr.set (Fr.full 4) 0 (.pv x0)) 1 (.pv x1)) := by kernel_rfl
@[go_sem ↓] theorem ca_37 {c : Oracle} {bases : List Nat} {f : Nat} {vs : List AV} {H : Hp} : callO E c bases f 37 vs H = obind (argsO E H [50, 82] vs) (pureC c 37 H) := callO_pure (by kernel_rfl) (rfl) (by kernel_rfl) (fn := Tryz.f37) (by kernel_rfl) (by kernel_rfl)
theorem go_38 (c : Oracle) (lp : LoopO PV)  : pureK E c lp 38 [] = startC E c lp PV.same 38 2 Tryz.f38 [] [] (finP E [.cell 0 82] [82]) (Fr.full 2) := by kernel_rfl
@[go_sem ↓] theorem ca_38 {c : Oracle} {bases : List Nat} {f : Nat} {vs : List AV} {H : Hp} : callO E c bases f 38 vs H = obind (argsO E H [] vs) (pureC c 38 H) := callO_pure (by kernel_rfl) (rfl) (by kernel_rfl) (fn := Tryz.f38) (by kernel_rfl) (by kernel_rfl)
theorem go_39 (c : Oracle) (lp : LoopO PV) (x0 x1 : PV) : pureK E c lp 39 [x0, x1] = startC E c lp PV.same 39 6 Tryz.f39 [] [] (finP E [.tmp 4] [4]) (Fr.set (Fr.set (Fr.full 6) 0 (.pv x0)) 1 (.pv x1)) := by kernel_rfl
@[go_sem ↓] theorem ca_39 {c : Oracle} {bases : List Nat} {f : Nat} {vs : List AV} {H : Hp} : callO E c bases f 39 vs H = obind (argsO E H [29, 29] vs) (pureC c 39 H) := callO_pure (by kernel_rfl) (rfl) (by kernel_rfl) (fn := Tryz.f39) (by kernel_rfl) (by kernel_rfl)
theorem go_40 (c : Oracle) (lp : LoopO PV) (x0 x1 : PV) : pureK E c lp 40 [x0, x1] = startC E c lp PV.same 40 6 Tryz.f40 [] [] (finP E [.tmp 4] [4]) (Fr.set (Fr.set (Fr.full 6) 0 (.pv x0)) 1 (.pv x1)) := by kernel_rfl
@[go_sem ↓] theorem ca_40 {c : Oracle} {bases : List Nat} {f : Nat} {vs : List AV} {H : Hp} : callO E c bases f 40 vs H = obind (argsO E H [36, 36] vs) (pureC c 40 H) := callO_pure (by kernel_rfl) (rfl) (by kernel_rfl) (fn := Tryz.f40) (by kernel_rfl) (by kernel_rfl)
theorem go_41 (c : Oracle) (lp : LoopO PV) (x0 x1 : PV) : pureK E c lp 41 [x0, x1] = startC E c lp PV.same 41 7 Tryz.f41 [] [] (finP E [.tmp 4, .tmp 5] [9, 41]) (Fr.set (Fr.set (Fr.full 7) 0 (.pv x0)) 1 (.pv x1)) := by kernel_rfl
@[go_sem ↓] theorem ca_41 {c : Oracle} {bases : List Nat} {f : Nat} {vs : List AV} {H : Hp} : callO E c bases f 41 vs H = obind (argsO E H [3, 22] vs) (pureC c 41 H) := callO_pure (by kernel_rfl) (rfl) (by kernel_rfl) (fn := Tryz.f41) (by kernel_rfl) (by kernel_rfl)
theorem go_42 (c : Oracle) (lp : LoopO PV) (x0 : PV) : pureK E c lp 42 [x0] = startC E c lp PV.same 42 3 Tryz.f42 [] [] (finP E [.tmp 2] [9]) (Fr.set (Fr.full 3) 0 (.pv x0)) := by kernel_rfl
@[go_sem ↓] theorem ca_42 {c : Oracle} {bases : List Nat} {f : Nat} {vs : List AV} {H : Hp} : callO E c bases f 42 vs H = obind (argsO E H [3] vs) (pureC c 42 H) := callO_pure (by kernel_rfl) (rfl) (by kernel_rfl) (fn := Tryz.f42) (by kernel_rfl) (by kernel_rfl)
theorem go_43 (c : Oracle) (lp : LoopO PV) (x0 x1 x2 : PV) : pureK E c lp 43 [x0, x1, x2] = startC E c lp PV.same 43 6 Tryz.f43 [] [] (finP E [.tmp 6] [3]) (Fr.set (Fr.set (Fr.set (Fr.full 6) 0 (.pv x0)) 1 (.pv x1)) 2 (.pv x2)) := by kernel_rfl
@[go_sem ↓] theorem ca_43 {c : Oracle} {bases : List Nat} {f : Nat} {vs : List AV} {H : Hp} : callO E c bases f 43 vs H = obind (argsO E H [76, 3, 3] vs) (pureC c 43 H) := callO_pure (by kernel_rfl) (rfl) (by kernel_rfl) (fn := Tryz.f43) (by kernel_rfl) (by kernel_rfl)
theorem go_44 (c : Oracle) (lp : LoopO PV) (x0 : PV) : pureK E c lp 44 [x0] = startC E c lp PV.same 44 4 Tryz.f44 [] [] (finP E [.tmp 2] [4]) (Fr.set (Fr.full 4) 0 (.pv x0)) := by kernel_rfl
@[go_sem ↓] theorem ca_44 {c : Oracle} {bases : List Nat} {f : Nat} {vs : List AV} {H : Hp} : callO E c bases f 44 vs H = obind (argsO E H [9] vs) (pureC c 44 H) := callO_pure (by kernel_rfl) (rfl) (by kernel_rfl) (fn := Tryz.f44) (by kernel_rfl) (by kernel_rfl)
theorem go_45 (c : Oracle) (lp : LoopO PV) (x0 x1 : PV) : pureK E c lp 45 [x0, x1] = startC E c lp PV.same 45 6 Tryz.f45 [] [] (finP E [.tmp 4] [3]) (Fr.set (Fr.set (Fr.full 6) 0 (.pv x0)) 1 (.pv x1)) := by kernel_rfl
@[go_sem ↓] theorem ca_45 {c : Oracle} {bases : List Nat} {f : Nat} {vs : List AV} {H : Hp} : callO E c bases f 45 vs H = obind (argsO E H [9, 9] vs) (pureC c 45 H) := callO_pure (by kernel_rfl) (rfl) (by kernel_rfl) (fn := Tryz.f45) (by kernel_rfl) (by kernel_rfl)
theorem go_46 (c : Oracle) (lp : LoopO PV) (x0 : PV) : pureK E c lp 46 [x0] = startC E c lp PV.same 46 5 Tryz.f46 [] [] (finP E [.tmp 2] [74]) (Fr.set (Fr.full 5) 0 (.pv x0)) := by kernel_rfl
@[go_sem ↓] theorem ca_46 {c : Oracle} {bases : List Nat} {f : Nat} {vs : List AV} {H : Hp} : callO E c bases f 46 vs H = obind (argsO E H [9] vs) (pureC c 46 H) := callO_pure (by kernel_rfl) (rfl) (by kernel_rfl) (fn := Tryz.f46) (by kernel_rfl) (by kernel_rfl)
theorem go_47 (c : Oracle) (lp : LoopO PV) (x0 x1 : PV) : pureK E c lp 47 [x0, x1] = startC E c lp PV.same 47 6 Tryz.f47 [] [] (finP E [.tmp 4, .tmp 5] [9, 41]) (Fr.set (Fr.set (Fr.full 6) 0 (.pv x0)) 1 (.pv x1)) := by kernel_rfl
@[go_sem ↓] theorem ca_47 {c : Oracle} {bases : List Nat} {f : Nat} {vs : List AV} {H : Hp} : callO E c bases f 47 vs H = obind (argsO E H [50, 82] vs) (pureC c 47 H) := callO_pure (by kernel_rfl) (rfl) (by kernel_rfl) (fn := Tryz.f47) (by kernel_rfl) (by kernel_rfl)
theorem go_48 (c : Oracle) (lp : LoopO PV) (x0 : PV) : pureK E c lp 48 [x0] = startC E c lp PV.same 48 6 Tryz.f48 [] [] (finP E [.cell 2 93] [93]) (Fr.set (Fr.full 6) 0 (.pv x0)) := by kernel_rfl
@[go_sem ↓] theorem ca_48 {c : Oracle} {bases : List Nat} {f : Nat} {vs : List AV} {H : Hp} : callO E c bases f 48 vs H = obind (argsO E H [29] vs) (pureC c 48 H) := callO_pure (by kernel_rfl) (rfl) (by kernel_rfl) (fn := Tryz.f48) (by kernel_rfl) (by kernel_rfl)
theorem go_49 (c : Oracle) (lp : LoopO PV) (x0 x1 : PV) : pureK E c lp 49 [x0, x1] = startC E c lp PV.same 49 6 Tryz.f49 [] [] (finP E [.tmp 4] [4]) (Fr.set (Fr.set (Fr.full 6) 0 (.pv x0)) 1 (.pv x1)) := by kernel_rfl
@[go_sem ↓] theorem ca_49 {c : Oracle} {bases : List Nat} {f : Nat} {vs : List AV} {H : Hp} : callO E c bases f 49 vs H = obind (argsO E H [25, 25] vs) (pureC c 49 H) := callO_pure (by kernel_rfl) (rfl) (by kernel_rfl) (fn := Tryz.f49) (by kernel_rfl) (by kernel_rfl)
theorem go_50 (c : Oracle) (lp : LoopO PV) (x0 x1 : PV) : pureK E c lp 50 [x0, x1] = startC E c lp PV.same 50 4 Tryz.f50 [] [] (finP E [.tmp 4] [4]) (Fr.set (Fr.set (Fr.full 4) 0 (.pv x0)) 1 (.pv x1)) := by kernel_rfl
@[go_sem ↓] theorem ca_50 {c : Oracle} {bases : List Nat} {f : Nat} {vs : List AV} {H : Hp} : callO E c bases f 50 vs H = obind (argsO E H [26, 26] vs) (pureC c 50 H) := callO_pure (by kernel_rfl) (rfl) (by kernel_rfl) (fn := Tryz.f50) (by kernel_rfl) (by kernel_rfl)
theorem go_51 (c : Oracle) (lp : LoopO PV) (x0 x1 : PV) : pureK E c lp 51 [x0, x1] = startC E c lp PV.same 51 4 Tryz.f51 [] [] (finP E [.tmp 4] [4]) (Fr.set (Fr.set (Fr.full 4) 0 (.pv x0)) 1 (.pv x1)) := by kernel_rfl
@[go_sem ↓] theorem ca_51 {c : Oracle} {bases : List Nat} {f : Nat} {vs : List AV} {H : Hp} : callO E c bases f 51 vs H = obind (argsO E H [27, 27] vs) (pureC c 51 H) := callO_pure (by kernel_rfl) (rfl) (by kernel_rfl) (fn := Tryz.f51) (by kernel_rfl) (by kernel_rfl)
theorem go_52 (c : Oracle) (lp : LoopO PV) (x0 x1 : PV) : pureK E c lp 52 [x0, x1] = startC E c lp PV.same 52 4 Tryz.f52 [] [] (finP E [.tmp 4] [4]) (Fr.set (Fr.set (Fr.full 4) 0 (.pv x0)) 1 (.pv x1)) := by kernel_rfl
@[go_sem ↓] theorem ca_52 {c : Oracle} {bases : List Nat} {f : Nat} {vs : List AV} {H : Hp} : callO E c bases f 52 vs H = obind (argsO E H [22, 22] vs) (pureC c 52 H) := callO_pure (by kernel_rfl) (rfl) (by kernel_rfl) (fn := Tryz.f52) (by kernel_rfl) (by kernel_rfl)
theorem go_53 (c : Oracle) (lp : LoopO PV) (x0 x1 : PV) : pureK E c lp 53 [x0, x1] = startC E c lp PV.same 53 6 Tryz.f53 [] [] (finP E [.tmp 4] [4]) (Fr.set (Fr.set (Fr.full 6) 0 (.pv x0)) 1 (.pv x1)) := by kernel_rfl
@[go_sem ↓] theorem ca_53 {c : Oracle} {bases : List Nat} {f : Nat} {vs : List AV} {H : Hp} : callO E c bases f 53 vs H = obind (argsO E H [76, 76] vs) (pureC c 53 H) := callO_pure (by kernel_rfl) (rfl) (by kernel_rfl) (fn := Tryz.f53) (by kernel_rfl) (by kernel_rfl)
theorem go_54 (c : Oracle) (lp : LoopO PV)  : pureK E c lp 54 [] = startC E c lp PV.same 54 5 Tryz.f54 [] [] (finP E [.tmp 0] [100]) (Fr.full 5) := by kernel_rfl
@[go_sem ↓] theorem ca_54 {c : Oracle} {bases : List Nat} {f : Nat} {vs : List AV} {H : Hp} : callO E c bases f 54 vs H = obind (argsO E H [] vs) (pureC c 54 H) := callO_pure (by kernel_rfl) (rfl) (by kernel_rfl) (fn := Tryz.f54) (by kernel_rfl) (by kernel_rfl)
theorem go_55 (c : Oracle) (lp : LoopO PV) (x0 x1 x2 : PV) : pureK E c lp 55 [x0, x1, x2] = startC E c lp PV.same 55 6 Tryz.f55 [] [] (finP E [.tmp 6] [41]) (Fr.set (Fr.set (Fr.set (Fr.full 6) 0 (.pv x0)) 1 (.pv x1)) 2 (.pv x2)) := by kernel_rfl
@[go_sem ↓] theorem ca_55 {c : Oracle} {bases : List Nat} {f : Nat} {vs : List AV} {H : Hp} : callO E c bases f 55 vs H = obind (argsO E H [106, 3, 67] vs) (pureC c 55 H) := callO_pure (by kernel_rfl) (rfl) (by kernel_rfl) (fn := Tryz.f55) (by kernel_rfl) (by kernel_rfl)
theorem go_56 (c : Oracle) (lp : LoopO (AV × Hp)) (bases : List Nat) (x0 x1 x2 : AV) (H : Hp) : shutK E c lp bases 56 [x0, x1, x2] H = startC E c lp (fun _ _ => false) 56 5 Tryz.f56 (H.length :: bases) H (finS E H.length [.tmp 6]) (Fr.set (Fr.set (Fr.set (Fr.full 5) 0 (x0)) 1 (x1)) 2 (x2)) := by kernel_rfl
@[go_sem ↓] theorem ca_56 {c : Oracle} {bases : List Nat} {f : Nat} {vs : List AV} {H : Hp} : callO E c bases f 56 vs H = c.shut bases 56 vs H := callO_shut (by kernel_rfl) rfl (by rw [show E.cls 56 = .shut from by kernel_rfl]; exact fun h => by cases h)
theorem go_57 (c : Oracle) (lp : LoopO PV) (x0 x1 : PV) : pureK E c lp 57 [x0, x1] = startC E c lp PV.same 57 6 Tryz.f57 [] [] (finP E [.tmp 4] [9]) (Fr.set (Fr.set (Fr.full 6) 0 (.pv x0)) 1 (.pv x1)) := by kernel_rfl
@[go_sem ↓] theorem ca_57 {c : Oracle} {bases : List Nat} {f : Nat} {vs : List AV} {H : Hp} : callO E c bases f 57 vs H = obind (argsO E H [3, 67] vs) (pureC c 57 H) := callO_pure (by kernel_rfl) (rfl) (by kernel_rfl) (fn := Tryz.f57) (by kernel_rfl) (by kernel_rfl)
theorem go_58 (c : Oracle) (lp : LoopO (AV × Hp)) (bases : List Nat) (x0 : AV) (H : Hp) : shutK E c lp bases 58 [x0] H = startC E c lp (fun _ _ => false) 58 4 Tryz.f58 (H.length :: bases) H (finS E H.length [.tmp 2]) (Fr.set (Fr.full 4) 0 (x0)) := by kernel_rfl
@[go_sem ↓] theorem ca_58 {c : Oracle} {bases : List Nat} {f : Nat} {vs : List AV} {H : Hp} : callO E c bases f 58 vs H = c.shut bases 58 vs H := callO_shut (by kernel_rfl) rfl (by rw [show E.cls 58 = .shut from by kernel_rfl]; exact fun h => by cases h)
theorem go_59 (c : Oracle) (lp : LoopO PV) (x0 : PV) : pureK E c lp 59 [x0] = startC E c lp PV.same 59 5 Tryz.f59 [] [] (finP E [.tmp 2, .tmp 3] [9, 41]) (Fr.set (Fr.full 5) 0 (.pv x0)) := by kernel_rfl
@[go_sem ↓] theorem ca_59 {c : Oracle} {bases : List Nat} {f : Nat} {vs : List AV} {H : Hp} : callO E c bases f 59 vs H = obind (argsO E H [3] vs) (pureC c 59 H) := callO_pure (by kernel_rfl) (rfl) (by kernel_rfl) (fn := Tryz.f59) (by kernel_rfl) (by kernel_rfl)
theorem go_60 (c : Oracle) (lp : LoopO PV) (x0 x1 : PV) : pureK E c lp 60 [x0, x1] = startC E c lp PV.same 60 6 Tryz.f60 [] [] (finP E [.tmp 4] [9]) (Fr.set (Fr.set (Fr.full 6) 0 (.pv x0)) 1 (.pv x1)) := by kernel_rfl
@[go_sem ↓] theorem ca_60 {c : Oracle} {bases : List Nat} {f : Nat} {vs : List AV} {H : Hp} : callO E c bases f 60 vs H = obind (argsO E H [2, 3] vs) (pureC c 60 H) := callO_pure (by kernel_rfl) (rfl) (by kernel_rfl) (fn := Tryz.f60) (by kernel_rfl) (by kernel_rfl)
theorem go_61 (c : Oracle) (lp : LoopO PV) (x0 : PV) : pureK E c lp 61 [x0] = startC E c lp PV.same 61 5 Tryz.f61 [] [] (finP E [.tmp 2] [3]) (Fr.set (Fr.full 5) 0 (.pv x0)) := by kernel_rfl
@[go_sem ↓] theorem ca_61 {c : Oracle} {bases : List Nat} {f : Nat} {vs : List AV} {H : Hp} : callO E c bases f 61 vs H = obind (argsO E H [9] vs) (pureC c 61 H) := callO_pure (by kernel_rfl) (rfl) (by kernel_rfl) (fn := Tryz.f61) (by kernel_rfl) (by kernel_rfl)
theorem go_62 (c : Oracle) (lp : LoopO PV) (x0 x1 : PV) : pureK E c lp 62 [x0, x1] = startC E c lp PV.same 62 8 Tryz.f62 [] [] (finP E [.tmp 4] [3]) (Fr.set (Fr.set (Fr.full 8) 0 (.pv x0)) 1 (.pv x1)) := by kernel_rfl
@[go_sem ↓] theorem ca_62 {c : Oracle} {bases : List Nat} {f : Nat} {vs : List AV} {H : Hp} : callO E c bases f 62 vs H = obind (argsO E H [9, 21] vs) (pureC c 62 H) := callO_pure (by kernel_rfl) (rfl) (by kernel_rfl) (fn := Tryz.f62) (by kernel_rfl) (by kernel_rfl)
theorem go_63 (c : Oracle) (lp : LoopO PV) (x0 : PV) : pureK E c lp 63 [x0] = startC E c lp PV.same 63 3 Tryz.f63 [] [] (finP E [.tmp 2] [4]) (Fr.set (Fr.full 3) 0 (.pv x0)) := by kernel_rfl
@[go_sem ↓] theorem ca_63 {c : Oracle} {bases : List Nat} {f : Nat} {vs : List AV} {H : Hp} : callO E c bases f 63 vs H = obind (argsO E H [3] vs) (pureC c 63 H) := callO_pure (by kernel_rfl) (rfl) (by kernel_rfl) (fn := Tryz.f63) (by kernel_rfl) (by kernel_rfl)
theorem go_64 (c : Oracle) (lp : LoopO PV) (x0 : PV) : pureK E c lp 64 [x0] = startC E c lp PV.same 64 5 Tryz.f64 [] [] (finP E [.cell 2 115, .tmp 3] [115, 4]) (Fr.set (Fr.full 5) 0 (.pv x0)) := by kernel_rfl
@[go_sem ↓] theorem ca_64 {c : Oracle} {bases : List Nat} {f : Nat} {vs : List AV} {H : Hp} : callO E c bases f 64 vs H = obind (argsO E H [9] vs) (pureC c 64 H) := callO_pure (by kernel_rfl) (rfl) (by kernel_rfl) (fn := Tryz.f64) (by kernel_rfl) (by kernel_rfl)
theorem go_65 (c : Oracle) (lp : LoopO (AV × Hp)) (bases : List Nat) (x0 x1 : AV) (H : Hp) : shutK E c lp bases 65 [x0, x1] H = startC E c lp (fun _ _ => false) 65 4 Tryz.f65 (H.length :: bases) H (finS E H.length [.tmp 4]) (Fr.set (Fr.set (Fr.full 4) 0 (x0)) 1 (x1)) := by kernel_rfl
@[go_sem ↓] theorem ca_65 {c : Oracle} {bases : List Nat} {f : Nat} {vs : List AV} {H : Hp} : callO E c bases f 65 vs H = c.shut bases 65 vs H := callO_shut (by kernel_rfl) rfl (by rw [show E.cls 65 = .shut from by kernel_rfl]; exact fun h => by cases h)
theorem go_66 (c : Oracle) (lp : LoopO PV) (x0 : PV) : pureK E c lp 66 [x0] = startC E c lp PV.same 66 5 Tryz.f66 [] [] (finP E [.tmp 2] [4]) (Fr.set (Fr.full 5) 0 (.pv x0)) := by kernel_rfl
@[go_sem ↓] theorem ca_66 {c : Oracle} {bases : List Nat} {f : Nat} {vs : List AV} {H : Hp} : callO E c bases f 66 vs H = obind (argsO E H [82] vs) (pureC c 66 H) := callO_pure (by kernel_rfl) (rfl) (by kernel_rfl) (fn := Tryz.f66) (by kernel_rfl) (by kernel_rfl)
theorem go_67 (c : Oracle) (lp : LoopO (AV × Hp)) (bases : List Nat) (x0 x1 : AV) (H : Hp) : shutK E c lp bases 67 [x0, x1] H = startC E c lp (fun _ _ => false) 67 4 Tryz.f67 (H.length :: bases) H (finS E H.length [.tmp 4]) (Fr.set (Fr.set (Fr.full 4) 0 (x0)) 1 (x1)) := by kernel_rfl
@[go_sem ↓] theorem ca_67 {c : Oracle} {bases : List Nat} {f : Nat} {vs : List AV} {H : Hp} : callO E c bases f 67 vs H = c.shut bases 67 vs H := callO_shut (by kernel_rfl) rfl (by rw [show E.cls 67 = .shut from by kernel_rfl]; exact fun h => by cases h)
theorem go_68 (c : Oracle) (lp : LoopO PV) (x0 : PV) : pureK E c lp 68 [x0] = startC E c lp PV.same 68 3 Tryz.f68 [] [] (finP E [.tmp 2] [4]) (Fr.set (Fr.full 3) 0 (.pv x0)) := by kernel_rfl
@[go_sem ↓] theorem ca_68 {c : Oracle} {bases : List Nat} {f : Nat} {vs : List AV} {H : Hp} : callO E c bases f 68 vs H = obind (argsO E H [72] vs) (pureC c 68 H) := callO_pure (by kernel_rfl) (rfl) (by kernel_rfl) (fn := Tryz.f68) (by kernel_rfl) (by kernel_rfl)
theorem go_69 (c : Oracle) (lp : LoopO PV) (x0 : PV) : pureK E c lp 69 [x0] = startC E c lp PV.same 69 5 Tryz.f69 [] [] (finP E [.tmp 2] [4]) (Fr.set (Fr.full 5) 0 (.pv x0)) := by kernel_rfl
@[go_sem ↓] theorem ca_69 {c : Oracle} {bases : List Nat} {f : Nat} {vs : List AV} {H : Hp} : callO E c bases f 69 vs H = obind (argsO E H [72] vs) (pureC c 69 H) := callO_pure (by kernel_rfl) (rfl) (by kernel_rfl) (fn := Tryz.f69) (by kernel_rfl) (by kernel_rfl)
theorem go_70 (c : Oracle) (lp : LoopO PV) (x0 : PV) : pureK E c lp 70 [x0] = startC E c lp PV.same 70 5 Tryz.f70 [] [] (finP E [.tmp 2, .tmp 3] [9, 41]) (Fr.set (Fr.full 5) 0 (.pv x0)) := by kernel_rfl
@[go_sem ↓] theorem ca_70 {c : Oracle} {bases : List Nat} {f : Nat} {vs : List AV} {H : Hp} : callO E c bases f 70 vs H = obind (argsO E H [33] vs) (pureC c 70 H) := callO_pure (by kernel_rfl) (rfl) (by kernel_rfl) (fn := Tryz.f70) (by kernel_rfl) (by kernel_rfl)
theorem go_71 (c : Oracle) (lp : LoopO PV) (x0 : PV) : pureK E c lp 71 [x0] = startC E c lp PV.same 71 5 Tryz.f71 [] [] (finP E [.tmp 2] [9]) (Fr.set (Fr.full 5) 0 (.pv x0)) := by kernel_rfl
@[go_sem ↓] theorem ca_71 {c : Oracle} {bases : List Nat} {f : Nat} {vs : List AV} {H : Hp} : callO E c bases f 71 vs H = obind (argsO E H [72] vs) (pureC c 71 H) := callO_pure (by kernel_rfl) (rfl) (by kernel_rfl) (fn := Tryz.f71) (by kernel_rfl) (by kernel_rfl)
theorem go_72 (c : Oracle) (lp : LoopO (AV × Hp)) (bases : List Nat) (x0 x1 x2 : AV) (H : Hp) : shutK E c lp bases 72 [x0, x1, x2] H = startC E c lp (fun _ _ => false) 72 6 Tryz.f72 (H.length :: bases) H (finS E H.length [.tmp 6]) (Fr.set (Fr.set (Fr.set (Fr.full 6) 0 (x0)) 1 (x1)) 2 (x2)) := by kernel_rfl
@[go_sem ↓] theorem ca_72 {c : Oracle} {bases : List Nat} {f : Nat} {vs : List AV} {H : Hp} : callO E c bases f 72 vs H = c.shut bases 72 vs H := callO_shut (by kernel_rfl) rfl (by rw [show E.cls 72 = .shut from by kernel_rfl]; exact fun h => by cases h)
theorem go_73 (c : Oracle) (lp : LoopO PV) (x0 x1 : PV) : pureK E c lp 73 [x0, x1] = startC E c lp PV.same 73 4 Tryz.f73 [] [] (finP E [.tmp 4] [4]) (Fr.set (Fr.set (Fr.full 4) 0 (.pv x0)) 1 (.pv x1)) := by kernel_rfl
@[go_sem ↓] theorem ca_73 {c : Oracle} {bases : List Nat} {f : Nat} {vs : List AV} {H : Hp} : callO E c bases f 73 vs H = obind (argsO E H [3, 3] vs) (pureC c 73 H) := callO_pure (by kernel_rfl) (rfl) (by kernel_rfl) (fn := Tryz.f73) (by kernel_rfl) (by kernel_rfl)
theorem go_74 (c : Oracle) (lp : LoopO (AV × Hp)) (bases : List Nat) (x0 x1 x2 : AV) (H : Hp) : shutK E c lp bases 74 [x0, x1, x2] H = startC E c lp (fun _ _ => false) 74 6 Tryz.f74 (H.length :: bases) H (finS E H.length [.tmp 6]) (Fr.set (Fr.set (Fr.set (Fr.full 6) 0 (x0)) 1 (x1)) 2 (x2)) := by kernel_rfl
@[go_sem ↓] theorem ca_74 {c : Oracle} {bases : List Nat} {f : Nat} {vs : List AV} {H : Hp} : callO E c bases f 74 vs H = c.shut bases 74 vs H := callO_shut (by kernel_rfl) rfl (by rw [show E.cls 74 = .shut from by kernel_rfl]; exact fun h => by cases h)
theorem go_75 (c : Oracle) (lp : LoopO PV) (x0 x1 : PV) : pureK E c lp 75 [x0, x1] = startC E c lp PV.same 75 4 Tryz.f75 [] [] (finP E [.tmp 4] [4]) (Fr.set (Fr.set (Fr.full 4) 0 (.pv x0)) 1 (.pv x1)) := by kernel_rfl
@[go_sem ↓] theorem ca_75 {c : Oracle} {bases : List Nat} {f : Nat} {vs : List AV} {H : Hp} : callO E c bases f 75 vs H = obind (argsO E H [69, 69] vs) (pureC c 75 H) := callO_pure (by kernel_rfl) (rfl) (by kernel_rfl) (fn := Tryz.f75) (by kernel_rfl) (by kernel_rfl)
theorem go_76 (c : Oracle) (lp : LoopO (AV × Hp)) (bases : List Nat) (x0 x1 x2 : AV) (H : Hp) : shutK E c lp bases 76 [x0, x1, x2] H = startC E c lp (fun _ _ => false) 76 6 Tryz.f76 (H.length :: bases) H (finS E H.length [.tmp 6]) (Fr.set (Fr.set (Fr.set (Fr.full 6) 0 (x0)) 1 (x1)) 2 (x2)) := by kernel_rfl
@[go_sem ↓] theorem ca_76 {c : Oracle} {bases : List Nat} {f : Nat} {vs : List AV} {H : Hp} : callO E c bases f 76 vs H = c.shut bases 76 vs H := callO_shut (by kernel_rfl) rfl (by rw [show E.cls 76 = .shut from by kernel_rfl]; exact fun h => by cases h)
theorem go_77 (c : Oracle) (lp : LoopO PV) (x0 x1 : PV) : pureK E c lp 77 [x0, x1] = startC E c lp PV.same 77 4 Tryz.f77 [] [] (finP E [.tmp 4] [4]) (Fr.set (Fr.set (Fr.full 4) 0 (.pv x0)) 1 (.pv x1)) := by kernel_rfl
@[go_sem ↓] theorem ca_77 {c : Oracle} {bases : List Nat} {f : Nat} {vs : List AV} {H : Hp} : callO E c bases f 77 vs H = obind (argsO E H [67, 67] vs) (pureC c 77 H) := callO_pure (by kernel_rfl) (rfl) (by kernel_rfl) (fn := Tryz.f77) (by kernel_rfl) (by kernel_rfl)
theorem go_78 (c : Oracle) (lp : LoopO PV) (x0 x1 : PV) : pureK E c lp 78 [x0, x1] = startC E c lp PV.same 78 5 Tryz.f78 [] [] (finP E [.tmp 4] [4]) (Fr.set (Fr.set (Fr.full 5) 0 (.pv x0)) 1 (.pv x1)) := by kernel_rfl
@[go_sem ↓] theorem ca_78 {c : Oracle} {bases : List Nat} {f : Nat} {vs : List AV} {H : Hp} : callO E c bases f 78 vs H = obind (argsO E H [106, 3] vs) (pureC c 78 H) := callO_pure (by kernel_rfl) (rfl) (by kernel_rfl) (fn := Tryz.f78) (by kernel_rfl) (by kernel_rfl)
theorem go_79 (c : Oracle) (lp : LoopO PV) (x0 x1 : PV) : pureK E c lp 79 [x0, x1] = startC E c lp PV.same 79 5 Tryz.f79 [] [] (finP E [.tmp 4] [41]) (Fr.set (Fr.set (Fr.full 5) 0 (.pv x0)) 1 (.pv x1)) := by kernel_rfl
@[go_sem ↓] theorem ca_79 {c : Oracle} {bases : List Nat} {f : Nat} {vs : List AV} {H : Hp} : callO E c bases f 79 vs H = obind (argsO E H [106, 67] vs) (pureC c 79 H) := callO_pure (by kernel_rfl) (rfl) (by kernel_rfl) (fn := Tryz.f79) (by kernel_rfl) (by kernel_rfl)
theorem go_80 (c : Oracle) (lp : LoopO PV) (x0 x1 : PV) : pureK E c lp 80 [x0, x1] = startC E c lp PV.same 80 4 Tryz.f80 [] [] (finP E [.tmp 4] [4]) (Fr.set (Fr.set (Fr.full 4) 0 (.pv x0)) 1 (.pv x1)) := by kernel_rfl
@[go_sem ↓] theorem ca_80 {c : Oracle} {bases : List Nat} {f : Nat} {vs : List AV} {H : Hp} : callO E c bases f 80 vs H = obind (argsO E H [3, 3] vs) (pureC c 80 H) := callO_pure (by kernel_rfl) (rfl) (by kernel_rfl) (fn := Tryz.f80) (by kernel_rfl) (by kernel_rfl)
theorem go_81 (c : Oracle) (lp : LoopO PV) (x0 x1 : PV) : pureK E c lp 81 [x0, x1] = startC E c lp PV.same 81 6 Tryz.f81 [] [] (finP E [.tmp 4] [9]) (Fr.set (Fr.set (Fr.full 6) 0 (.pv x0)) 1 (.pv x1)) := by kernel_rfl
@[go_sem ↓] theorem ca_81 {c : Oracle} {bases : List Nat} {f : Nat} {vs : List AV} {H : Hp} : callO E c bases f 81 vs H = obind (argsO E H [74, 3] vs) (pureC c 81 H) := callO_pure (by kernel_rfl) (rfl) (by kernel_rfl) (fn := Tryz.f81) (by kernel_rfl) (by kernel_rfl)
theorem go_82 (c : Oracle) (lp : LoopO PV) (x0 : PV) : pureK E c lp 82 [x0] = startC E c lp PV.same 82 4 Tryz.f82 [] [] (finP E [.tmp 2, .tmp 3] [9, 41]) (Fr.set (Fr.full 4) 0 (.pv x0)) := by kernel_rfl
@[go_sem ↓] theorem ca_82 {c : Oracle} {bases : List Nat} {f : Nat} {vs : List AV} {H : Hp} : callO E c bases f 82 vs H = obind (argsO E H [9] vs) (pureC c 82 H) := callO_pure (by kernel_rfl) (rfl) (by kernel_rfl) (fn := Tryz.f82) (by kernel_rfl) (by kernel_rfl)
theorem go_83 (c : Oracle) (lp : LoopO PV) (x0 : PV) : pureK E c lp 83 [x0] = startC E c lp PV.same 83 4 Tryz.f83 [] [] (finP E [.tmp 2] [4]) (Fr.set (Fr.full 4) 0 (.pv x0)) := by kernel_rfl
@[go_sem ↓] theorem ca_83 {c : Oracle} {bases : List Nat} {f : Nat} {vs : List AV} {H : Hp} : callO E c bases f 83 vs H = obind (argsO E H [3] vs) (pureC c 83 H) := callO_pure (by kernel_rfl) (rfl) (by kernel_rfl) (fn := Tryz.f83) (by kernel_rfl) (by kernel_rfl)
theorem go_84 (c : Oracle) (lp : LoopO PV) (x0 : PV) : pureK E c lp 84 [x0] = startC E c lp PV.same 84 4 Tryz.f84 [] [] (finP E [.tmp 2] [9]) (Fr.set (Fr.full 4) 0 (.pv x0)) := by kernel_rfl
@[go_sem ↓] theorem ca_84 {c : Oracle} {bases : List Nat} {f : Nat} {vs : List AV} {H : Hp} : callO E c bases f 84 vs H = obind (argsO E H [3] vs) (pureC c 84 H) := callO_pure (by kernel_rfl) (rfl) (by kernel_rfl) (fn := Tryz.f84) (by kernel_rfl) (by kernel_rfl)
theorem go_85 (c : Oracle) (lp : LoopO PV) (x0 : PV) : pureK E c lp 85 [x0] = startC E c lp PV.same 85 4 Tryz.f85 [] [] (finP E [.tmp 2] [3]) (Fr.set (Fr.full 4) 0 (.pv x0)) := by kernel_rfl
@[go_sem ↓] theorem ca_85 {c : Oracle} {bases : List Nat} {f : Nat} {vs : List AV} {H : Hp} : callO E c bases f 85 vs H = obind (argsO E H [74] vs) (pureC c 85 H) := callO_pure (by kernel_rfl) (rfl) (by kernel_rfl) (fn := Tryz.f85) (by kernel_rfl) (by kernel_rfl)
theorem go_86 (c : Oracle) (lp : LoopO (AV × Hp)) (bases : List Nat) (x0 x1 : AV) (H : Hp) : shutK E c lp bases 86 [x0, x1] H = startC E c lp (fun _ _ => false) 86 8 Tryz.f86 (H.length :: bases) H (finS E H.length []) (Fr.set (Fr.set (Fr.full 8) 0 (x0)) 1 (x1)) := by kernel_rfl
@[go_sem ↓] theorem ca_86 {c : Oracle} {bases : List Nat} {f : Nat} {vs : List AV} {H : Hp} : callO E c bases f 86 vs H = c.shut bases 86 vs H := callO_shut (by kernel_rfl) rfl (by rw [show E.cls 86 = .shut from by kernel_rfl]; exact fun h => by cases h)
theorem go_87 (c : Oracle) (lp : LoopO PV) (x0 x1 x2 x3 x4 : PV) : pureK E c lp 87 [x0, x1, x2, x3, x4] = startC E c lp PV.same 87 7 Tryz.f87 [] [] (finP E [.tmp 10, .tmp 11] [104, 9]) (Fr.set (Fr.set (Fr.set (Fr.set (Fr.set (Fr.full 7) 0 (.pv x0)) 1 (.pv x1)) 2 (.pv x2)) 3 (.pv x3)) 4 (.pv x4)) := by kernel_rfl
@[go_sem ↓] theorem ca_87 {c : Oracle} {bases : List Nat} {f : Nat} {vs : List AV} {H : Hp} : callO E c bases f 87 vs H = obind (argsO E H [104, 74, 3, 4, 4] vs) (pureC c 87 H) := callO_pure (by kernel_rfl) (rfl) (by kernel_rfl) (fn := Tryz.f87) (by kernel_rfl) (by kernel_rfl)
theorem go_88 (c : Oracle) (lp : LoopO PV) (x0 : PV) : pureK E c lp 88 [x0] = startC E c lp PV.same 88 4 Tryz.f88 [] [] (finP E [.tmp 2] [4]) (Fr.set (Fr.full 4) 0 (.pv x0)) := by kernel_rfl
@[go_sem ↓] theorem ca_88 {c : Oracle} {bases : List Nat} {f : Nat} {vs : List AV} {H : Hp} : callO E c bases f 88 vs H = obind (argsO E H [9] vs) (pureC c 88 H) := callO_pure (by kernel_rfl) (rfl) (by kernel_rfl) (fn := Tryz.f88) (by kernel_rfl) (by kernel_rfl)
theorem go_89 (c : Oracle) (lp : LoopO PV) (x0 x1 : PV) : pureK E c lp 89 [x0, x1] = startC E c lp PV.same 89 4 Tryz.f89 [] [] (finP E [.tmp 4] [3]) (Fr.set (Fr.set (Fr.full 4) 0 (.pv x0)) 1 (.pv x1)) := by kernel_rfl
@[go_sem ↓] theorem ca_89 {c : Oracle} {bases : List Nat} {f : Nat} {vs : List AV} {H : Hp} : callO E c bases f 89 vs H = obind (argsO E H [9, 5] vs) (pureC c 89 H) := callO_pure (by kernel_rfl) (rfl) (by kernel_rfl) (fn := Tryz.f89) (by kernel_rfl) (by kernel_rfl)
theorem go_90 (c : Oracle) (lp : LoopO PV) (x0 : PV) : pureK E c lp 90 [x0] = startC E c lp PV.same 90 5 Tryz.f90 [] [] (finP E [.tmp 2] [4]) (Fr.set (Fr.full 5) 0 (.pv x0)) := by kernel_rfl
@[go_sem ↓] theorem ca_90 {c : Oracle} {bases : List Nat} {f : Nat} {vs : List AV} {H : Hp} : callO E c bases f 90 vs H = obind (argsO E H [21] vs) (pureC c 90 H) := callO_pure (by kernel_rfl) (rfl) (by kernel_rfl) (fn := Tryz.f90) (by kernel_rfl) (by kernel_rfl)
theorem go_91 (c : Oracle) (lp : LoopO PV) (x0 : PV) : pureK E c lp 91 [x0] = startC E c lp PV.same 91 3 Tryz.f91 [] [] (finP E [.tmp 2] [3]) (Fr.set (Fr.full 3) 0 (.pv x0)) := by kernel_rfl
@[go_sem ↓] theorem ca_91 {c : Oracle} {bases : List Nat} {f : Nat} {vs : List AV} {H : Hp} : callO E c bases f 91 vs H = obind (argsO E H [3] vs) (pureC c 91 H) := callO_pure (by kernel_rfl) (rfl) (by kernel_rfl) (fn := Tryz.f91) (by kernel_rfl) (by kernel_rfl)
theorem go_93 (c : Oracle) (lp : LoopO (AV × Hp)) (bases : List Nat) (x0 x1 : AV) (H : Hp) : shutK E c lp bases 93 [x0, x1] H = startC E c lp (fun _ _ => false) 93 5 Tryz.f93 (H.length :: bases) H (finS E H.length [.tmp 4]) (Fr.set (Fr.set (Fr.full 5) 0 (x0)) 1 (x1)) := by kernel_rfl
@[go_sem ↓] theorem ca_93 {c : Oracle} {bases : List Nat} {f : Nat} {vs : List AV} {H : Hp} : callO E c bases f 93 vs H = c.shut bases 93 vs H := callO_shut (by kernel_rfl) rfl (by rw [show E.cls 93 = .shut from by kernel_rfl]; exact fun h => by cases h)
theorem go_94 (c : Oracle) (lp : LoopO PV) (x0 : PV) : pureK E c lp 94 [x0] = startC E c lp PV.same 94 7 Tryz.f94 [] [] (finP E [.tmp 2] [41]) (Fr.set (Fr.full 7) 0 (.pv x0)) := by kernel_rfl
@[go_sem ↓] theorem ca_94 {c : Oracle} {bases : List Nat} {f : Nat} {vs : List AV} {H : Hp} : callO E c bases f 94 vs H = obind (argsO E H [33] vs) (pureC c 94 H) := callO_pure (by kernel_rfl) (rfl) (by kernel_rfl) (fn := Tryz.f94) (by kernel_rfl) (by kernel_rfl)
theorem go_95 (c : Oracle) (lp : LoopO PV) (x0 : PV) : pureK E c lp 95 [x0] = startC E c lp PV.same 95 4 Tryz.f95 [] [] (finP E [.tmp 2] [9]) (Fr.set (Fr.full 4) 0 (.pv x0)) := by kernel_rfl
@[go_sem ↓] theorem ca_95 {c : Oracle} {bases : List Nat} {f : Nat} {vs : List AV} {H : Hp} : callO E c bases f 95 vs H = obind (argsO E H [33] vs) (pureC c 95 H) := callO_pure (by kernel_rfl) (rfl) (by kernel_rfl) (fn := Tryz.f95) (by kernel_rfl) (by kernel_rfl)
theorem go_96 (c : Oracle) (lp : LoopO PV) (x0 x1 : PV) : pureK E c lp 96 [x0, x1] = startC E c lp PV.same 96 6 Tryz.f96 [] [] (finP E [.tmp 4, .tmp 5] [9, 41]) (Fr.set (Fr.set (Fr.full 6) 0 (.pv x0)) 1 (.pv x1)) := by kernel_rfl
@[go_sem ↓] theorem ca_96 {c : Oracle} {bases : List Nat} {f : Nat} {vs : List AV} {H : Hp} : callO E c bases f 96 vs H = obind (argsO E H [3, 3] vs) (pureC c 96 H) := callO_pure (by kernel_rfl) (rfl) (by kernel_rfl) (fn := Tryz.f96) (by kernel_rfl) (by kernel_rfl)
theorem go_97 (c : Oracle) (lp : LoopO PV) (x0 : PV) : pureK E c lp 97 [x0] = startC E c lp PV.same 97 4 Tryz.f97 [] [] (finP E [.tmp 2] [9]) (Fr.set (Fr.full 4) 0 (.pv x0)) := by kernel_rfl
@[go_sem ↓] theorem ca_97 {c : Oracle} {bases : List Nat} {f : Nat} {vs : List AV} {H : Hp} : callO E c bases f 97 vs H = obind (argsO E H [9] vs) (pureC c 97 H) := callO_pure (by kernel_rfl) (rfl) (by kernel_rfl) (fn := Tryz.f97) (by kernel_rfl) (by kernel_rfl)
theorem go_98 (c : Oracle) (lp : LoopO PV) (x0 : PV) : pureK E c lp 98 [x0] = startC E c lp PV.same 98 3 Tryz.f98 [] [] (finP E [.tmp 2] [3]) (Fr.set (Fr.full 3) 0 (.pv x0)) := by kernel_rfl
@[go_sem ↓] theorem ca_98 {c : Oracle} {bases : List Nat} {f : Nat} {vs : List AV} {H : Hp} : callO E c bases f 98 vs H = obind (argsO E H [3] vs) (pureC c 98 H) := callO_pure (by kernel_rfl) (rfl) (by kernel_rfl) (fn := Tryz.f98) (by kernel_rfl) (by kernel_rfl)
theorem go_99 (c : Oracle) (lp : LoopO PV) (x0 : PV) : pureK E c lp 99 [x0] = startC E c lp PV.same 99 5 Tryz.f99 [] [] (finP E [.tmp 2] [3]) (Fr.set (Fr.full 5) 0 (.pv x0)) := by kernel_rfl
@[go_sem ↓] theorem ca_99 {c : Oracle} {bases : List Nat} {f : Nat} {vs : List AV} {H : Hp} : callO E c bases f 99 vs H = obind (argsO E H [74] vs) (pureC c 99 H) := callO_pure (by kernel_rfl) (rfl) (by kernel_rfl) (fn := Tryz.f99) (by kernel_rfl) (by kernel_rfl)
theorem go_100 (c : Oracle) (lp : LoopO PV) (x0 : PV) : pureK E c lp 100 [x0] = startC E c lp PV.same 100 3 Tryz.f100 [] [] (finP E [.tmp 2] [3]) (Fr.set (Fr.full 3) 0 (.pv x0)) := by kernel_rfl
@[go_sem ↓] theorem ca_100 {c : Oracle} {bases : List Nat} {f : Nat} {vs : List AV} {H : Hp} : callO E c bases f 100 vs H = obind (argsO E H [4] vs) (pureC c 100 H) := callO_pure (by kernel_rfl) (rfl) (by kernel_rfl) (fn := Tryz.f100) (by kernel_rfl) (by kernel_rfl)
theorem go_101 (c : Oracle) (lp : LoopO PV) (x0 : PV) : pureK E c lp 101 [x0] = startC E c lp PV.same 101 4 Tryz.f101 [] [] (finP E [.tmp 2] [4]) (Fr.set (Fr.full 4) 0 (.pv x0)) := by kernel_rfl
@[go_sem ↓] theorem ca_101 {c : Oracle} {bases : List Nat} {f : Nat} {vs : List AV} {H : Hp} : callO E c bases f 101 vs H = obind (argsO E H [3] vs) (pureC c 101 H) := callO_pure (by kernel_rfl) (rfl) (by kernel_rfl) (fn := Tryz.f101) (by kernel_rfl) (by kernel_rfl)
theorem go_102 (c : Oracle) (lp : LoopO PV) (x0 : PV) : pureK E c lp 102 [x0] = startC E c lp PV.same 102 4 Tryz.f102 [] [] (finP E [.tmp 2] [3]) (Fr.set (Fr.full 4) 0 (.pv x0)) := by kernel_rfl
@[go_sem ↓] theorem ca_102 {c : Oracle} {bases : List Nat} {f : Nat} {vs : List AV} {H : Hp} : callO E c bases f 102 vs H = obind (argsO E H [119] vs) (pureC c 102 H) := callO_pure (by kernel_rfl) (rfl) (by kernel_rfl) (fn := Tryz.f102) (by kernel_rfl) (by kernel_rfl)
theorem go_103 (c : Oracle) (lp : LoopO PV) (x0 x1 : PV) : pureK E c lp 103 [x0, x1] = startC E c lp PV.same 103 4 Tryz.f103 [] [] (finP E [.tmp 4] [3]) (Fr.set (Fr.set (Fr.full 4) 0 (.pv x0)) 1 (.pv x1)) := by kernel_rfl
@[go_sem ↓] theorem ca_103 {c : Oracle} {bases : List Nat} {f : Nat} {vs : List AV} {H : Hp} : callO E c bases f 103 vs H = obind (argsO E H [9, 5] vs) (pureC c 103 H) := callO_pure (by kernel_rfl) (rfl) (by kernel_rfl) (fn := Tryz.f103) (by kernel_rfl) (by kernel_rfl)
theorem go_104 (c : Oracle) (lp : LoopO PV) (x0 : PV) : pureK E c lp 104 [x0] = startC E c lp PV.same 104 4 Tryz.f104 [] [] (finP E [.tmp 2] [4]) (Fr.set (Fr.full 4) 0 (.pv x0)) := by kernel_rfl
@[go_sem ↓] theorem ca_104 {c : Oracle} {bases : List Nat} {f : Nat} {vs : List AV} {H : Hp} : callO E c bases f 104 vs H = obind (argsO E H [3] vs) (pureC c 104 H) := callO_pure (by kernel_rfl) (rfl) (by kernel_rfl) (fn := Tryz.f104) (by kernel_rfl) (by kernel_rfl)
theorem go_105 (c : Oracle) (lp : LoopO PV) (x0 x1 : PV) : pureK E c lp 105 [x0, x1] = startC E c lp PV.same 105 6 Tryz.f105 [] [] (finP E [.tmp 4] [4]) (Fr.set (Fr.set (Fr.full 6) 0 (.pv x0)) 1 (.pv x1)) := by kernel_rfl
@[go_sem ↓] theorem ca_105 {c : Oracle} {bases : List Nat} {f : Nat} {vs : List AV} {H : Hp} : callO E c bases f 105 vs H = obind (argsO E H [3, 31] vs) (pureC c 105 H) := callO_pure (by kernel_rfl) (rfl) (by kernel_rfl) (fn := Tryz.f105) (by kernel_rfl) (by kernel_rfl)
theorem go_106 (c : Oracle) (lp : LoopO PV) (x0 : PV) : pureK E c lp 106 [x0] = startC E c lp PV.same 106 4 Tryz.f106 [] [] (finP E [.tmp 2] [4]) (Fr.set (Fr.full 4) 0 (.pv x0)) := by kernel_rfl
@[go_sem ↓] theorem ca_106 {c : Oracle} {bases : List Nat} {f : Nat} {vs : List AV} {H : Hp} : callO E c bases f 106 vs H = obind (argsO E H [3] vs) (pureC c 106 H) := callO_pure (by kernel_rfl) (rfl) (by kernel_rfl) (fn := Tryz.f106) (by kernel_rfl) (by kernel_rfl)
theorem go_107 (c : Oracle) (lp : LoopO (AV × Hp)) (bases : List Nat) (x0 : AV) (H : Hp) : shutK E c lp bases 107 [x0] H = startC E c lp (fun _ _ => false) 107 4 Tryz.f107 (H.length :: bases) H (finS E H.length []) (Fr.set (Fr.full 4) 0 (x0)) := by kernel_rfl
@[go_sem ↓] theorem ca_107 {c : Oracle} {bases : List Nat} {f : Nat} {vs : List AV} {H : Hp} : callO E c bases f 107 vs H = c.shut bases 107 vs H := callO_shut (by kernel_rfl) rfl (by rw [show E.cls 107 = .shut from by kernel_rfl]; exact fun h => by cases h)
theorem go_108 (c : Oracle) (lp : LoopO PV) (x0 : PV) : pureK E c lp 108 [x0] = startC E c lp PV.same 108 5 Tryz.f108 [] [] (finP E [.tmp 2] [4]) (Fr.set (Fr.full 5) 0 (.pv x0)) := by kernel_rfl
@[go_sem ↓] theorem ca_108 {c : Oracle} {bases : List Nat} {f : Nat} {vs : List AV} {H : Hp} : callO E c bases f 108 vs H = obind (argsO E H [33] vs) (pureC c 108 H) := callO_pure (by kernel_rfl) (rfl) (by kernel_rfl) (fn := Tryz.f108) (by kernel_rfl) (by kernel_rfl)
theorem go_109 (c : Oracle) (lp : LoopO PV) (x0 : PV) : pureK E c lp 109 [x0] = startC E c lp PV.same 109 6 Tryz.f109 [] [] (finP E [.tmp 2] [41]) (Fr.set (Fr.full 6) 0 (.pv x0)) := by kernel_rfl
@[go_sem ↓] theorem ca_109 {c : Oracle} {bases : List Nat} {f : Nat} {vs : List AV} {H : Hp} : callO E c bases f 109 vs H = obind (argsO E H [33] vs) (pureC c 109 H) := callO_pure (by kernel_rfl) (rfl) (by kernel_rfl) (fn := Tryz.f109) (by kernel_rfl) (by kernel_rfl)
theorem go_110 (c : Oracle) (lp : LoopO PV) (x0 : PV) : pureK E c lp 110 [x0] = startC E c lp PV.same 110 7 Tryz.f110 [] [] (finP E [.tmp 2] [41]) (Fr.set (Fr.full 7) 0 (.pv x0)) := by kernel_rfl
@[go_sem ↓] theorem ca_110 {c : Oracle} {bases : List Nat} {f : Nat} {vs : List AV} {H : Hp} : callO E c bases f 110 vs H = obind (argsO E H [33] vs) (pureC c 110 H) := callO_pure (by kernel_rfl) (rfl) (by kernel_rfl) (fn := Tryz.f110) (by kernel_rfl) (by kernel_rfl)
theorem go_111 (c : Oracle) (lp : LoopO PV) (x0 : PV) : pureK E c lp 111 [x0] = startC E c lp PV.same 111 5 Tryz.f111 [] [] (finP E [.tmp 2] [4]) (Fr.set (Fr.full 5) 0 (.pv x0)) := by kernel_rfl
@[go_sem ↓] theorem ca_111 {c : Oracle} {bases : List Nat} {f : Nat} {vs : List AV} {H : Hp} : callO E c bases f 111 vs H = obind (argsO E H [3] vs) (pureC c 111 H) := callO_pure (by kernel_rfl) (rfl) (by kernel_rfl) (fn := Tryz.f111) (by kernel_rfl) (by kernel_rfl)
theorem go_112 (c : Oracle) (lp : LoopO PV) (x0 : PV) : pureK E c lp 112 [x0] = startC E c lp PV.same 112 4 Tryz.f112 [] [] (finP E [.tmp 2] [3]) (Fr.set (Fr.full 4) 0 (.pv x0)) := by kernel_rfl
@[go_sem ↓] theorem ca_112 {c : Oracle} {bases : List Nat} {f : Nat} {vs : List AV} {H : Hp} : callO E c bases f 112 vs H = obind (argsO E H [65] vs) (pureC c 112 H) := callO_pure (by kernel_rfl) (rfl) (by kernel_rfl) (fn := Tryz.f112) (by kernel_rfl) (by kernel_rfl)
theorem go_113 (c : Oracle) (lp : LoopO PV) (x0 : PV) : pureK E c lp 113 [x0] = startC E c lp PV.same 113 4 Tryz.f113 [] [] (finP E [.tmp 2] [3]) (Fr.set (Fr.full 4) 0 (.pv x0)) := by kernel_rfl
@[go_sem ↓] theorem ca_113 {c : Oracle} {bases : List Nat} {f : Nat} {vs : List AV} {H : Hp} : callO E c bases f 113 vs H = obind (argsO E H [74] vs) (pureC c 113 H) := callO_pure (by kernel_rfl) (rfl) (by kernel_rfl) (fn := Tryz.f113) (by kernel_rfl) (by kernel_rfl)
theorem go_115 (c : Oracle) (lp : LoopO PV) (x0 : PV) : pureK E c lp 115 [x0] = startC E c lp PV.same 115 6 Tryz.f115 [] [] (finP E [.tmp 2, .tmp 3] [3, 41]) (Fr.set (Fr.full 6) 0 (.pv x0)) := by kernel_rfl
@[go_sem ↓] theorem ca_115 {c : Oracle} {bases : List Nat} {f : Nat} {vs : List AV} {H : Hp} : callO E c bases f 115 vs H = obind (argsO E H [31] vs) (pureC c 115 H) := callO_pure (by kernel_rfl) (rfl) (by kernel_rfl) (fn := Tryz.f115) (by kernel_rfl) (by kernel_rfl)
theorem go_116 (c : Oracle) (lp : LoopO PV) (x0 : PV) : pureK E c lp 116 [x0] = startC E c lp PV.same 116 5 Tryz.f116 [] [] (finP E [.cell 2 31] [31]) (Fr.set (Fr.full 5) 0 (.pv x0)) := by kernel_rfl
@[go_sem ↓] theorem ca_116 {c : Oracle} {bases : List Nat} {f : Nat} {vs : List AV} {H : Hp} : callO E c bases f 116 vs H = obind (argsO E H [3] vs) (pureC c 116 H) := callO_pure (by kernel_rfl) (rfl) (by kernel_rfl) (fn := Tryz.f116) (by kernel_rfl) (by kernel_rfl)
theorem go_117 (c : Oracle) (lp : LoopO (AV × Hp)) (bases : List Nat) (x0 : AV) (H : Hp) : shutK E c lp bases 117 [x0] H = startC E c lp (fun _ _ => false) 117 7 Tryz.f117 bases H (finW E [.tmp 2]) (Fr.set (Fr.full 7) 0 (x0)) := by kernel_rfl
@[go_sem ↓] theorem ca_117 {c : Oracle} {bases : List Nat} {f : Nat} {vs : List AV} {H : Hp} : callO E c bases f 117 vs H = c.shut bases 117 vs H := callO_shut (by kernel_rfl) rfl (by rw [show E.cls 117 = .wide from by kernel_rfl]; exact fun h => by cases h)
theorem go_118 (c : Oracle) (lp : LoopO PV) (x0 : PV) : pureK E c lp 118 [x0] = startC E c lp PV.same 118 5 Tryz.f118 [] [] (finP E [.tmp 2, .tmp 3] [9, 4]) (Fr.set (Fr.full 5) 0 (.pv x0)) := by kernel_rfl
@[go_sem ↓] theorem ca_118 {c : Oracle} {bases : List Nat} {f : Nat} {vs : List AV} {H : Hp} : callO E c bases f 118 vs H = obind (argsO E H [3] vs) (pureC c 118 H) := callO_pure (by kernel_rfl) (rfl) (by kernel_rfl) (fn := Tryz.f118) (by kernel_rfl) (by kernel_rfl)
theorem go_119 (c : Oracle) (lp : LoopO PV) (x0 : PV) : pureK E c lp 119 [x0] = startC E c lp PV.same 119 4 Tryz.f119 [] [] (finP E [.tmp 2] [4]) (Fr.set (Fr.full 4) 0 (.pv x0)) := by kernel_rfl
@[go_sem ↓] theorem ca_119 {c : Oracle} {bases : List Nat} {f : Nat} {vs : List AV} {H : Hp} : callO E c bases f 119 vs H = obind (argsO E H [9] vs) (pureC c 119 H) := callO_pure (by kernel_rfl) (rfl) (by kernel_rfl) (fn := Tryz.f119) (by kernel_rfl) (by kernel_rfl)
theorem go_120 (c : Oracle) (lp : LoopO (AV × Hp)) (bases : List Nat) (x0 x1 x2 : AV) (H : Hp) : shutK E c lp bases 120 [x0, x1, x2] H = startC E c lp (fun _ _ => false) 120 4 Tryz.f120 (H.length :: bases) H (finS E H.length []) (Fr.set (Fr.set (Fr.set (Fr.full 4) 0 (x0)) 1 (x1)) 2 (x2)) := by kernel_rfl
@[go_sem ↓] theorem ca_120 {c : Oracle} {bases : List Nat} {f : Nat} {vs : List AV} {H : Hp} : callO E c bases f 120 vs H = c.shut bases 120 vs H := callO_shut (by kernel_rfl) rfl (by rw [show E.cls 120 = .shut from by kernel_rfl]; exact fun h => by cases h)
theorem go_121 (c : Oracle) (lp : LoopO (AV × Hp)) (bases : List Nat) (x0 : AV) (H : Hp) : shutK E c lp bases 121 [x0] H = startC E c lp (fun _ _ => false) 121 4 Tryz.f121 (H.length :: bases) H (finS E H.length []) (Fr.set (Fr.full 4) 0 (x0)) := by kernel_rfl
@[go_sem ↓] theorem ca_121 {c : Oracle} {bases : List Nat} {f : Nat} {vs : List AV} {H : Hp} : callO E c bases f 121 vs H = c.shut bases 121 vs H := callO_shut (by kernel_rfl) rfl (by rw [show E.cls 121 = .shut from by kernel_rfl]; exact fun h => by cases h)
theorem go_122 (c : Oracle) (lp : LoopO (AV × Hp)) (bases : List Nat) (x0 : AV) (H : Hp) : shutK E c lp bases 122 [x0] H = startC E c lp (fun _ _ => false) 122 4 Tryz.f122 (H.length :: bases) H (finS E H.length []) (Fr.set (Fr.full 4) 0 (x0)) := by kernel_rfl
@[go_sem ↓] theorem ca_122 {c : Oracle} {bases : List Nat} {f : Nat} {vs : List AV} {H : Hp} : callO E c bases f 122 vs H = c.shut bases 122 vs H := callO_shut (by kernel_rfl) rfl (by rw [show E.cls 122 = .shut from by kernel_rfl]; exact fun h => by cases h)
theorem go_123 (c : Oracle) (lp : LoopO (AV × Hp)) (bases : List Nat) (x0 : AV) (H : Hp) : shutK E c lp bases 123 [x0] H = startC E c lp (fun _ _ => false) 123 4 Tryz.f123 (H.length :: bases) H (finS E H.length []) (Fr.set (Fr.full 4) 0 (x0)) := by kernel_rfl
@[go_sem ↓] theorem ca_123 {c : Oracle} {bases : List Nat} {f : Nat} {vs : List AV} {H : Hp} : callO E c bases f 123 vs H = c.shut bases 123 vs H := callO_shut (by kernel_rfl) rfl (by rw [show E.cls 123 = .shut from by kernel_rfl]; exact fun h => by cases h)
theorem go_124 (c : Oracle) (lp : LoopO (AV × Hp)) (bases : List Nat) (x0 : AV) (H : Hp) : shutK E c lp bases 124 [x0] H = startC E c lp (fun _ _ => false) 124 4 Tryz.f124 (H.length :: bases) H (finS E H.length []) (Fr.set (Fr.full 4) 0 (x0)) := by kernel_rfl
@[go_sem ↓] theorem ca_124 {c : Oracle} {bases : List Nat} {f : Nat} {vs : List AV} {H : Hp} : callO E c bases f 124 vs H = c.shut bases 124 vs H := callO_shut (by kernel_rfl) rfl (by rw [show E.cls 124 = .shut from by kernel_rfl]; exact fun h => by cases h)
theorem go_125 (c : Oracle) (lp : LoopO (AV × Hp)) (bases : List Nat) (x0 : AV) (H : Hp) : shutK E c lp bases 125 [x0] H = startC E c lp (fun _ _ => false) 125 6 Tryz.f125 (H.length :: bases) H (finS E H.length []) (Fr.set (Fr.full 6) 0 (x0)) := by kernel_rfl
@[go_sem ↓] theorem ca_125 {c : Oracle} {bases : List Nat} {f : Nat} {vs : List AV} {H : Hp} : callO E c bases f 125 vs H = c.shut bases 125 vs H := callO_shut (by kernel_rfl) rfl (by rw [show E.cls 125 = .shut from by kernel_rfl]; exact fun h => by cases h)
theorem go_126 (c : Oracle) (lp : LoopO (AV × Hp)) (bases : List Nat) (x0 : AV) (H : Hp) : shutK E c lp bases 126 [x0] H = startC E c lp (fun _ _ => false) 126 5 Tryz.f126 (H.length :: bases) H (finS E H.length []) (Fr.set (Fr.full 5) 0 (x0)) := by kernel_rfl
@[go_sem ↓] theorem ca_126 {c : Oracle} {bases : List Nat} {f : Nat} {vs : List AV} {H : Hp} : callO E c bases f 126 vs H = c.shut bases 126 vs H := callO_shut (by kernel_rfl) rfl (by rw [show E.cls 126 = .shut from by kernel_rfl]; exact fun h => by cases h)
theorem go_127 (c : Oracle) (lp : LoopO (AV × Hp)) (bases : List Nat) (x0 : AV) (H : Hp) : shutK E c lp bases 127 [x0] H = startC E c lp (fun _ _ => false) 127 4 Tryz.f127 (H.length :: bases) H (finS E H.length []) (Fr.set (Fr.full 4) 0 (x0)) := by kernel_rfl
@[go_sem ↓] theorem ca_127 {c : Oracle} {bases : List Nat} {f : Nat} {vs : List AV} {H : Hp} : callO E c bases f 127 vs H = c.shut bases 127 vs H := callO_shut (by kernel_rfl) rfl (by rw [show E.cls 127 = .shut from by kernel_rfl]; exact fun h => by cases h)
theorem go_128 (c : Oracle) (lp : LoopO (AV × Hp)) (bases : List Nat) (x0 : AV) (H : Hp) : shutK E c lp bases 128 [x0] H = startC E c lp (fun _ _ => false) 128 6 Tryz.f128 (H.length :: bases) H (finS E H.length []) (Fr.set (Fr.full 6) 0 (x0)) := by kernel_rfl
@[go_sem ↓] theorem ca_128 {c : Oracle} {bases : List Nat} {f : Nat} {vs : List AV} {H : Hp} : callO E c bases f 128 vs H = c.shut bases 128 vs H := callO_shut (by kernel_rfl) rfl (by rw [show E.cls 128 = .shut from by kernel_rfl]; exact fun h => by cases h)
theorem go_129 (c : Oracle) (lp : LoopO (AV × Hp)) (bases : List Nat) (x0 : AV) (H : Hp) : shutK E c lp bases 129 [x0] H = startC E c lp (fun _ _ => false) 129 4 Tryz.f129 (H.length :: bases) H (finS E H.length []) (Fr.set (Fr.full 4) 0 (x0)) := by kernel_rfl
@[go_sem ↓] theorem ca_129 {c : Oracle} {bases : List Nat} {f : Nat} {vs : List AV} {H : Hp} : callO E c bases f 129 vs H = c.shut bases 129 vs H := callO_shut (by kernel_rfl) rfl (by rw [show E.cls 129 = .shut from by kernel_rfl]; exact fun h => by cases h)
theorem go_130 (c : Oracle) (lp : LoopO (AV × Hp)) (bases : List Nat) (x0 : AV) (H : Hp) : shutK E c lp bases 130 [x0] H = startC E c lp (fun _ _ => false) 130 4 Tryz.f130 (H.length :: bases) H (finS E H.length []) (Fr.set (Fr.full 4) 0 (x0)) := by kernel_rfl
@[go_sem ↓] theorem ca_130 {c : Oracle} {bases : List Nat} {f : Nat} {vs : List AV} {H : Hp} : callO E c bases f 130 vs H = c.shut bases 130 vs H := callO_shut (by kernel_rfl) rfl (by rw [show E.cls 130 = .shut from by kernel_rfl]; exact fun h => by cases h)
theorem go_131 (c : Oracle) (lp : LoopO (AV × Hp)) (bases : List Nat) (x0 : AV) (H : Hp) : shutK E c lp bases 131 [x0] H = startC E c lp (fun _ _ => false) 131 4 Tryz.f131 (H.length :: bases) H (finS E H.length []) (Fr.set (Fr.full 4) 0 (x0)) := by kernel_rfl
@[go_sem ↓] theorem ca_131 {c : Oracle} {bases : List Nat} {f : Nat} {vs : List AV} {H : Hp} : callO E c bases f 131 vs H = c.shut bases 131 vs H := callO_shut (by kernel_rfl) rfl (by rw [show E.cls 131 = .shut from by kernel_rfl]; exact fun h => by cases h)
theorem go_132 (c : Oracle) (lp : LoopO (AV × Hp)) (bases : List Nat) (x0 : AV) (H : Hp) : shutK E c lp bases 132 [x0] H = startC E c lp (fun _ _ => false) 132 4 Tryz.f132 (H.length :: bases) H (finS E H.length []) (Fr.set (Fr.full 4) 0 (x0)) := by kernel_rfl
@[go_sem ↓] theorem ca_132 {c : Oracle} {bases : List Nat} {f : Nat} {vs : List AV} {H : Hp} : callO E c bases f 132 vs H = c.shut bases 132 vs H := callO_shut (by kernel_rfl) rfl (by rw [show E.cls 132 = .shut from by kernel_rfl]; exact fun h => by cases h)
theorem go_133 (c : Oracle) (lp : LoopO (AV × Hp)) (bases : List Nat) (x0 : AV) (H : Hp) : shutK E c lp bases 133 [x0] H = startC E c lp (fun _ _ => false) 133 6 Tryz.f133 (H.length :: bases) H (finS E H.length []) (Fr.set (Fr.full 6) 0 (x0)) := by kernel_rfl
@[go_sem ↓] theorem ca_133 {c : Oracle} {bases : List Nat} {f : Nat} {vs : List AV} {H : Hp} : callO E c bases f 133 vs H = c.shut bases 133 vs H := callO_shut (by kernel_rfl) rfl (by rw [show E.cls 133 = .shut from by kernel_rfl]; exact fun h => by cases h)
theorem go_134 (c : Oracle) (lp : LoopO PV) (x0 : PV) : pureK E c lp 134 [x0] = startC E c lp PV.same 134 6 Tryz.f134 [] [] (finP E [.tmp 2] [4]) (Fr.set (Fr.full 6) 0 (.pv x0)) := by kernel_rfl
@[go_sem ↓] theorem ca_134 {c : Oracle} {bases : List Nat} {f : Nat} {vs : List AV} {H : Hp} : callO E c bases f 134 vs H = obind (argsO E H [169] vs) (pureC c 134 H) := callO_pure (by kernel_rfl) (rfl) (by kernel_rfl) (fn := Tryz.f134) (by kernel_rfl) (by kernel_rfl)
theorem go_135 (c : Oracle) (lp : LoopO PV) (x0 : PV) : pureK E c lp 135 [x0] = startC E c lp PV.same 135 3 Tryz.f135 [] [] (finP E [.tmp 2] [169]) (Fr.set (Fr.full 3) 0 (.pv x0)) := by kernel_rfl
@[go_sem ↓] theorem ca_135 {c : Oracle} {bases : List Nat} {f : Nat} {vs : List AV} {H : Hp} : callO E c bases f 135 vs H = obind (argsO E H [9] vs) (pureC c 135 H) := callO_pure (by kernel_rfl) (rfl) (by kernel_rfl) (fn := Tryz.f135) (by kernel_rfl) (by kernel_rfl)
theorem go_136 (c : Oracle) (lp : LoopO (AV × Hp)) (bases : List Nat) (x0 x1 x2 : AV) (H : Hp) : shutK E c lp bases 136 [x0, x1, x2] H = startC E c lp (fun _ _ => false) 136 6 Tryz.f136 (H.length :: bases) H (finS E H.length []) (Fr.set (Fr.set (Fr.set (Fr.full 6) 0 (x0)) 1 (x1)) 2 (x2)) := by kernel_rfl
@[go_sem ↓] theorem ca_136 {c : Oracle} {bases : List Nat} {f : Nat} {vs : List AV} {H : Hp} : callO E c bases f 136 vs H = c.shut bases 136 vs H := callO_shut (by kernel_rfl) rfl (by rw [show E.cls 136 = .shut from by kernel_rfl]; exact fun h => by cases h)
theorem go_138 (c : Oracle) (lp : LoopO (AV × Hp)) (bases : List Nat) (x0 : AV) (H : Hp) : shutK E c lp bases 138 [x0] H = startC E c lp (fun _ _ => false) 138 4 Tryz.f138 (H.length :: bases) H (finS E H.length [.tmp 2]) (Fr.set (Fr.full 4) 0 (x0)) := by kernel_rfl
@[go_sem ↓] theorem ca_138 {c : Oracle} {bases : List Nat} {f : Nat} {vs : List AV} {H : Hp} : callO E c bases f 138 vs H = c.shut bases 138 vs H := callO_shut (by kernel_rfl) rfl (by rw [show E.cls 138 = .shut from by kernel_rfl]; exact fun h => by cases h)
theorem go_139 (c : Oracle) (lp : LoopO PV) (x0 : PV) : pureK E c lp 139 [x0] = startC E c lp PV.same 139 6 Tryz.f139 [] [] (finP E [.cell 2 31, .tmp 3] [31, 41]) (Fr.set (Fr.full 6) 0 (.pv x0)) := by kernel_rfl
@[go_sem ↓] theorem ca_139 {c : Oracle} {bases : List Nat} {f : Nat} {vs : List AV} {H : Hp} : callO E c bases f 139 vs H = obind (argsO E H [3] vs) (pureC c 139 H) := callO_pure (by kernel_rfl) (rfl) (by kernel_rfl) (fn := Tryz.f139) (by kernel_rfl) (by kernel_rfl)
theorem go_140 (c : Oracle) (lp : LoopO (AV × Hp)) (bases : List Nat) (x0 x1 : AV) (H : Hp) : shutK E c lp bases 140 [x0, x1] H = startC E c lp (fun _ _ => false) 140 4 Tryz.f140 (H.length :: bases) H (finS E H.length []) (Fr.set (Fr.set (Fr.full 4) 0 (x0)) 1 (x1)) := by kernel_rfl
@[go_sem ↓] theorem ca_140 {c : Oracle} {bases : List Nat} {f : Nat} {vs : List AV} {H : Hp} : callO E c bases f 140 vs H = c.shut bases 140 vs H := callO_shut (by kernel_rfl) rfl (by rw [show E.cls 140 = .shut from by kernel_rfl]; exact fun h => by cases h)
theorem go_141 (c : Oracle) (lp : LoopO (AV × Hp)) (bases : List Nat) (x0 : AV) (H : Hp) : shutK E c lp bases 141 [x0] H = startC E c lp (fun _ _ => false) 141 3 Tryz.f141 (H.length :: bases) H (finS E H.length [.tmp 2]) (Fr.set (Fr.full 3) 0 (x0)) := by kernel_rfl
@[go_sem ↓] theorem ca_141 {c : Oracle} {bases : List Nat} {f : Nat} {vs : List AV} {H : Hp} : callO E c bases f 141 vs H = c.shut bases 141 vs H := callO_shut (by kernel_rfl) rfl (by rw [show E.cls 141 = .shut from by kernel_rfl]; exact fun h => by cases h)
theorem go_142 (c : Oracle) (lp : LoopO PV) (x0 : PV) : pureK E c lp 142 [x0] = startC E c lp PV.same 142 4 Tryz.f142 [] [] (finP E [.tmp 2] [4]) (Fr.set (Fr.full 4) 0 (.pv x0)) := by kernel_rfl
@[go_sem ↓] theorem ca_142 {c : Oracle} {bases : List Nat} {f : Nat} {vs : List AV} {H : Hp} : callO E c bases f 142 vs H = obind (argsO E H [9] vs) (pureC c 142 H) := callO_pure (by kernel_rfl) (rfl) (by kernel_rfl) (fn := Tryz.f142) (by kernel_rfl) (by kernel_rfl)
theorem go_143 (c : Oracle) (lp : LoopO PV) (x0 x1 : PV) : pureK E c lp 143 [x0, x1] = startC E c lp PV.same 143 4 Tryz.f143 [] [] (finP E [.tmp 4] [169]) (Fr.set (Fr.set (Fr.full 4) 0 (.pv x0)) 1 (.pv x1)) := by kernel_rfl
@[go_sem ↓] theorem ca_143 {c : Oracle} {bases : List Nat} {f : Nat} {vs : List AV} {H : Hp} : callO E c bases f 143 vs H = obind (argsO E H [9, 9] vs) (pureC c 143 H) := callO_pure (by kernel_rfl) (rfl) (by kernel_rfl) (fn := Tryz.f143) (by kernel_rfl) (by kernel_rfl)
theorem go_144 (c : Oracle) (lp : LoopO (AV × Hp)) (bases : List Nat) (x0 x1 : AV) (H : Hp) : shutK E c lp bases 144 [x0, x1] H = startC E c lp (fun _ _ => false) 144 4 Tryz.f144 (H.length :: bases) H (finS E H.length [.tmp 4]) (Fr.set (Fr.set (Fr.full 4) 0 (x0)) 1 (x1)) := by kernel_rfl
@[go_sem ↓] theorem ca_144 {c : Oracle} {bases : List Nat} {f : Nat} {vs : List AV} {H : Hp} : callO E c bases f 144 vs H = c.shut bases 144 vs H := callO_shut (by kernel_rfl) rfl (by rw [show E.cls 144 = .shut from by kernel_rfl]; exact fun h => by cases h)
theorem go_145 (c : Oracle) (lp : LoopO (AV × Hp)) (bases : List Nat) (x0 x1 : AV) (H : Hp) : shutK E c lp bases 145 [x0, x1] H = startC E c lp (fun _ _ => false) 145 6 Tryz.f145 (H.length :: bases) H (finS E H.length [.tmp 4]) (Fr.set (Fr.set (Fr.full 6) 0 (x0)) 1 (x1)) := by kernel_rfl
@[go_sem ↓] theorem ca_145 {c : Oracle} {bases : List Nat} {f : Nat} {vs : List AV} {H : Hp} : callO E c bases f 145 vs H = c.shut bases 145 vs H := callO_shut (by kernel_rfl) rfl (by rw [show E.cls 145 = .shut from by kernel_rfl]; exact fun h => by cases h)
theorem go_146 (c : Oracle) (lp : LoopO (AV × Hp)) (bases : List Nat) (x0 : AV) (H : Hp) : shutK E c lp bases 146 [x0] H = startC E c lp (fun _ _ => false) 146 4 Tryz.f146 (H.length :: bases) H (finS E H.length [.tmp 2]) (Fr.set (Fr.full 4) 0 (x0)) := by kernel_rfl
@[go_sem ↓] theorem ca_146 {c : Oracle} {bases : List Nat} {f : Nat} {vs : List AV} {H : Hp} : callO E c bases f 146 vs H = c.shut bases 146 vs H := callO_shut (by kernel_rfl) rfl (by rw [show E.cls 146 = .shut from by kernel_rfl]; exact fun h => by cases h)
theorem go_147 (c : Oracle) (lp : LoopO (AV × Hp)) (bases : List Nat) (x0 : AV) (H : Hp) : shutK E c lp bases 147 [x0] H = startC E c lp (fun _ _ => false) 147 4 Tryz.f147 (H.length :: bases) H (finS E H.length [.tmp 2]) (Fr.set (Fr.full 4) 0 (x0)) := by kernel_rfl
@[go_sem ↓] theorem ca_147 {c : Oracle} {bases : List Nat} {f : Nat} {vs : List AV} {H : Hp} : callO E c bases f 147 vs H = c.shut bases 147 vs H := callO_shut (by kernel_rfl) rfl (by rw [show E.cls 147 = .shut from by kernel_rfl]; exact fun h => by cases h)
theorem go_148 (c : Oracle) (lp : LoopO PV) (x0 x1 x2 x3 : PV) : pureK E c lp 148 [x0, x1, x2, x3] = startC E c lp PV.same 148 7 Tryz.f148 [] [] (finP E [.tmp 8] [169]) (Fr.set (Fr.set (Fr.set (Fr.set (Fr.full 7) 0 (.pv x0)) 1 (.pv x1)) 2 (.pv x2)) 3 (.pv x3)) := by kernel_rfl
@[go_sem ↓] theorem ca_148 {c : Oracle} {bases : List Nat} {f : Nat} {vs : List AV} {H : Hp} : callO E c bases f 148 vs H = obind (argsO E H [9, 9, 3, 3] vs) (pureC c 148 H) := callO_pure (by kernel_rfl) (rfl) (by kernel_rfl) (fn := Tryz.f148) (by kernel_rfl) (by kernel_rfl)
theorem go_149 (c : Oracle) (lp : LoopO (AV × Hp)) (bases : List Nat) (x0 x1 : AV) (H : Hp) : shutK E c lp bases 149 [x0, x1] H = startC E c lp (fun _ _ => false) 149 5 Tryz.f149 (H.length :: bases) H (finS E H.length [.tmp 4]) (Fr.set (Fr.set (Fr.full 5) 0 (x0)) 1 (x1)) := by kernel_rfl
@[go_sem ↓] theorem ca_149 {c : Oracle} {bases : List Nat} {f : Nat} {vs : List AV} {H : Hp} : callO E c bases f 149 vs H = c.shut bases 149 vs H := callO_shut (by kernel_rfl) rfl (by rw [show E.cls 149 = .shut from by kernel_rfl]; exact fun h => by cases h)
theorem go_150 (c : Oracle) (lp : LoopO PV) (x0 x1 : PV) : pureK E c lp 150 [x0, x1] = startC E c lp PV.same 150 6 Tryz.f150 [] [] (finP E [.tmp 4] [169]) (Fr.set (Fr.set (Fr.full 6) 0 (.pv x0)) 1 (.pv x1)) := by kernel_rfl
@[go_sem ↓] theorem ca_150 {c : Oracle} {bases : List Nat} {f : Nat} {vs : List AV} {H : Hp} : callO E c bases f 150 vs H = obind (argsO E H [9, 3] vs) (pureC c 150 H) := callO_pure (by kernel_rfl) (rfl) (by kernel_rfl) (fn := Tryz.f150) (by kernel_rfl) (by kernel_rfl)
theorem go_151 (c : Oracle) (lp : LoopO PV) (x0 x1 : PV) : pureK E c lp 151 [x0, x1] = startC E c lp PV.same 151 6 Tryz.f151 [] [] (finP E [.tmp 4] [3]) (Fr.set (Fr.set (Fr.full 6) 0 (.pv x0)) 1 (.pv x1)) := by kernel_rfl
@[go_sem ↓] theorem ca_151 {c : Oracle} {bases : List Nat} {f : Nat} {vs : List AV} {H : Hp} : callO E c bases f 151 vs H = obind (argsO E H [9, 9] vs) (pureC c 151 H) := callO_pure (by kernel_rfl) (rfl) (by kernel_rfl) (fn := Tryz.f151) (by kernel_rfl) (by kernel_rfl)
theorem go_152 (c : Oracle) (lp : LoopO PV) (x0 x1 : PV) : pureK E c lp 152 [x0, x1] = startC E c lp PV.same 152 4 Tryz.f152 [] [] (finP E [.tmp 4] [3]) (Fr.set (Fr.set (Fr.full 4) 0 (.pv x0)) 1 (.pv x1)) := by kernel_rfl
@[go_sem ↓] theorem ca_152 {c : Oracle} {bases : List Nat} {f : Nat} {vs : List AV} {H : Hp} : callO E c bases f 152 vs H = obind (argsO E H [9, 9] vs) (pureC c 152 H) := callO_pure (by kernel_rfl) (rfl) (by kernel_rfl) (fn := Tryz.f152) (by kernel_rfl) (by kernel_rfl)
theorem go_153 (c : Oracle) (lp : LoopO PV) (x0 : PV) : pureK E c lp 153 [x0] = startC E c lp PV.same 153 4 Tryz.f153 [] [] (finP E [.tmp 2] [3]) (Fr.set (Fr.full 4) 0 (.pv x0)) := by kernel_rfl
@[go_sem ↓] theorem ca_153 {c : Oracle} {bases : List Nat} {f : Nat} {vs : List AV} {H : Hp} : callO E c bases f 153 vs H = obind (argsO E H [9] vs) (pureC c 153 H) := callO_pure (by kernel_rfl) (rfl) (by kernel_rfl) (fn := Tryz.f153) (by kernel_rfl) (by kernel_rfl)
theorem go_154 (c : Oracle) (lp : LoopO PV) (x0 : PV) : pureK E c lp 154 [x0] = startC E c lp PV.same 154 5 Tryz.f154 [] [] (finP E [.tmp 2, .tmp 3] [21, 3]) (Fr.set (Fr.full 5) 0 (.pv x0)) := by kernel_rfl
@[go_sem ↓] theorem ca_154 {c : Oracle} {bases : List Nat} {f : Nat} {vs : List AV} {H : Hp} : callO E c bases f 154 vs H = obind (argsO E H [9] vs) (pureC c 154 H) := callO_pure (by kernel_rfl) (rfl) (by kernel_rfl) (fn := Tryz.f154) (by kernel_rfl) (by kernel_rfl)
theorem go_156 (c : Oracle) (lp : LoopO PV) (x0 x1 : PV) : pureK E c lp 156 [x0, x1] = startC E c lp PV.same 156 8 Tryz.f156 [] [] (finP E [.tmp 4] [3]) (Fr.set (Fr.set (Fr.full 8) 0 (.pv x0)) 1 (.pv x1)) := by kernel_rfl
@[go_sem ↓] theorem ca_156 {c : Oracle} {bases : List Nat} {f : Nat} {vs : List AV} {H : Hp} : callO E c bases f 156 vs H = obind (argsO E H [9, 9] vs) (pureC c 156 H) := callO_pure (by kernel_rfl) (rfl) (by kernel_rfl) (fn := Tryz.f156) (by kernel_rfl) (by kernel_rfl)
theorem go_157 (c : Oracle) (lp : LoopO PV) (x0 : PV) : pureK E c lp 157 [x0] = startC E c lp PV.same 157 7 Tryz.f157 [] [] (finP E [.tmp 2, .tmp 3] [21, 3]) (Fr.set (Fr.full 7) 0 (.pv x0)) := by kernel_rfl
@[go_sem ↓] theorem ca_157 {c : Oracle} {bases : List Nat} {f : Nat} {vs : List AV} {H : Hp} : callO E c bases f 157 vs H = obind (argsO E H [9] vs) (pureC c 157 H) := callO_pure (by kernel_rfl) (rfl) (by kernel_rfl) (fn := Tryz.f157) (by kernel_rfl) (by kernel_rfl)
theorem go_158 (c : Oracle) (lp : LoopO PV) (x0 x1 : PV) : pureK E c lp 158 [x0, x1] = startC E c lp PV.same 158 7 Tryz.f158 [] [] (finP E [.tmp 4] [3]) (Fr.set (Fr.set (Fr.full 7) 0 (.pv x0)) 1 (.pv x1)) := by kernel_rfl
@[go_sem ↓] theorem ca_158 {c : Oracle} {bases : List Nat} {f : Nat} {vs : List AV} {H : Hp} : callO E c bases f 158 vs H = obind (argsO E H [9, 9] vs) (pureC c 158 H) := callO_pure (by kernel_rfl) (rfl) (by kernel_rfl) (fn := Tryz.f158) (by kernel_rfl) (by kernel_rfl)
theorem go_159 (c : Oracle) (lp : LoopO PV) (x0 : PV) : pureK E c lp 159 [x0] = startC E c lp PV.same 159 6 Tryz.f159 [] [] (finP E [.tmp 2, .tmp 3] [65, 65]) (Fr.set (Fr.full 6) 0 (.pv x0)) := by kernel_rfl
@[go_sem ↓] theorem ca_159 {c : Oracle} {bases : List Nat} {f : Nat} {vs : List AV} {H : Hp} : callO E c bases f 159 vs H = obind (argsO E H [9] vs) (pureC c 159 H) := callO_pure (by kernel_rfl) (rfl) (by kernel_rfl) (fn := Tryz.f159) (by kernel_rfl) (by kernel_rfl)
@[go_sem ↓] theorem ex_114 {c : Oracle} {bases : List Nat} {f : Nat} {s : List UInt8} {b : Int} {H : Hp} : callO E c bases f 114 [.pv (.str s), .pv (.int .u8 b)] H = some (.pv (.int .i64 (findB s b)), H) := callO_ext0 (by kernel_rfl)
@[go_sem] theorem fl_3_6 : E.flag 3 6 = ([], []) := by kernel_rfl
@[go_sem] theorem mi_3_2 : E.mint 3 2 = [] := by kernel_rfl
@[go_sem] theorem mi_3_3 : E.mint 3 3 = [] := by kernel_rfl
@[go_sem] theorem mi_5_1 : E.mint 5 1 = [] := by kernel_rfl
@[go_sem] theorem mi_5_28 : E.mint 5 28 = [] := by kernel_rfl
@[go_sem] theorem li_6_0 : E.live 6 0 = [42, 43, 44] := by kernel_rfl
@[go_sem] theorem mi_6_1 : E.mint 6 1 = [] := by kernel_rfl
@[go_sem] theorem mi_6_3 : E.mint 6 3 = [] := by kernel_rfl
@[go_sem] theorem mi_6_4 : E.mint 6 4 = [] := by kernel_rfl
@[go_sem] theorem mi_6_20 : E.mint 6 20 = [] := by kernel_rfl
@[go_sem] theorem mi_6_22 : E.mint 6 22 = [] := by kernel_rfl
@[go_sem] theorem mi_6_24 : E.mint 6 24 = [] := by kernel_rfl
@[go_sem] theorem mi_6_26 : E.mint 6 26 = [] := by kernel_rfl
@[go_sem] theorem mi_6_28 : E.mint 6 28 = [] := by kernel_rfl
@[go_sem] theorem mi_6_30 : E.mint 6 30 = [] := by kernel_rfl
@[go_sem] theorem mi_6_32 : E.mint 6 32 = [] := by kernel_rfl
@[go_sem] theorem mi_6_34 : E.mint 6 34 = [] := by kernel_rfl
@[go_sem] theorem mi_6_36 : E.mint 6 36 = [] := by kernel_rfl
@[go_sem] theorem mi_6_38 : E.mint 6 38 = [] := by kernel_rfl
@[go_sem] theorem mi_6_40 : E.mint 6 40 = [] := by kernel_rfl
@[go_sem] theorem mi_6_7 : E.mint 6 7 = [] := by kernel_rfl
@[go_sem] theorem fl_7_2 : E.flag 7 2 = ([], []) := by kernel_rfl
@[go_sem] theorem fl_7_7 : E.flag 7 7 = ([], []) := by kernel_rfl
@[go_sem] theorem mi_7_1 : E.mint 7 1 = [] := by kernel_rfl
@[go_sem] theorem mi_7_4 : E.mint 7 4 = [] := by kernel_rfl
@[go_sem] theorem mi_8_0 : E.mint 8 0 = [] := by kernel_rfl
@[go_sem] theorem mi_8_1 : E.mint 8 1 = [] := by kernel_rfl
@[go_sem] theorem li_9_0 : E.live 9 0 = [0, 3] := by kernel_rfl
@[go_sem] theorem li_10_0 : E.live 10 0 = [1, 3] := by kernel_rfl
@[go_sem] theorem mi_10_1 : E.mint 10 1 = [] := by kernel_rfl
@[go_sem] theorem li_11_0 : E.live 11 0 = [1, 3] := by kernel_rfl
@[go_sem] theorem mi_11_1 : E.mint 11 1 = [] := by kernel_rfl
@[go_sem] theorem li_12_0 : E.live 12 0 = [1, 3] := by kernel_rfl
@[go_sem] theorem mi_12_1 : E.mint 12 1 = [] := by kernel_rfl
@[go_sem] theorem mi_14_3 : E.mint 14 3 = [] := by kernel_rfl
@[go_sem] theorem fl_23_7 : E.flag 23 7 = ([], []) := by kernel_rfl
@[go_sem] theorem mi_23_1 : E.mint 23 1 = [] := by kernel_rfl
@[go_sem] theorem mi_23_25 : E.mint 23 25 = [] := by kernel_rfl
@[go_sem] theorem mi_23_26 : E.mint 23 26 = [] := by kernel_rfl
@[go_sem] theorem mi_23_5 : E.mint 23 5 = [] := by kernel_rfl
@[go_sem] theorem mi_27_1 : E.mint 27 1 = [] := by kernel_rfl
@[go_sem] theorem mi_27_5 : E.mint 27 5 = [] := by kernel_rfl
@[go_sem] theorem mi_27_10 : E.mint 27 10 = [] := by kernel_rfl
@[go_sem] theorem mi_27_16 : E.mint 27 16 = [] := by kernel_rfl
@[go_sem] theorem mi_30_2 : E.mint 30 2 = [] := by kernel_rfl
@[go_sem] theorem mi_30_3 : E.mint 30 3 = [] := by kernel_rfl
@[go_sem] theorem mi_30_4 : E.mint 30 4 = [] := by kernel_rfl
@[go_sem] theorem mi_30_5 : E.mint 30 5 = [] := by kernel_rfl
@[go_sem] theorem mi_32_1 : E.mint 32 1 = [] := by kernel_rfl
@[go_sem] theorem mi_33_1 : E.mint 33 1 = [] := by kernel_rfl
@[go_sem] theorem mi_37_2 : E.mint 37 2 = [] := by kernel_rfl
@[go_sem] theorem mi_37_3 : E.mint 37 3 = [] := by kernel_rfl
@[go_sem] theorem mi_38_0 : E.mint 38 0 = [] := by kernel_rfl
@[go_sem] theorem mi_38_1 : E.mint 38 1 = [] := by kernel_rfl
@[go_sem] theorem fl_39_1 : E.flag 39 1 = ([], []) := by kernel_rfl
@[go_sem] theorem mi_39_2 : E.mint 39 2 = [] := by kernel_rfl
@[go_sem] theorem mi_39_3 : E.mint 39 3 = [] := by kernel_rfl
@[go_sem] theorem li_40_0 : E.live 40 0 = [3, 36, 37, 38] := by kernel_rfl
@[go_sem] theorem fl_40_6 : E.flag 40 6 = ([], []) := by kernel_rfl
@[go_sem] theorem mi_40_2 : E.mint 40 2 = [] := by kernel_rfl
@[go_sem] theorem mi_40_3 : E.mint 40 3 = [] := by kernel_rfl
@[go_sem] theorem mi_40_6 : E.mint 40 6 = [] := by kernel_rfl
@[go_sem] theorem li_41_0 : E.live 41 0 = [0, 6, 7, 8, 19, 20, 21] := by kernel_rfl
@[go_sem] theorem fl_41_15 : E.flag 41 15 = ([], []) := by kernel_rfl
@[go_sem] theorem mi_41_7 : E.mint 41 7 = [] := by kernel_rfl
@[go_sem] theorem mi_41_10 : E.mint 41 10 = [] := by kernel_rfl
@[go_sem] theorem mi_41_11 : E.mint 41 11 = [] := by kernel_rfl
@[go_sem] theorem li_43_0 : E.live 43 0 = [1, 2, 3, 7, 8] := by kernel_rfl
@[go_sem] theorem mi_43_3 : E.mint 43 3 = [] := by kernel_rfl
@[go_sem] theorem li_45_2 : E.live 45 2 = [1, 45] := by kernel_rfl
@[go_sem] theorem li_45_0 : E.live 45 0 = [0, 6, 8] := by kernel_rfl
@[go_sem] theorem mi_45_6 : E.mint 45 6 = [] := by kernel_rfl
@[go_sem] theorem li_46_0 : E.live 46 0 = [0, 3, 14, 15] := by kernel_rfl
@[go_sem] theorem li_47_0 : E.live 47 0 = [3, 6, 8, 31, 32, 33] := by kernel_rfl
@[go_sem] theorem mi_47_2 : E.mint 47 2 = [] := by kernel_rfl
@[go_sem] theorem mi_47_3 : E.mint 47 3 = [] := by kernel_rfl
@[go_sem] theorem mi_47_10 : E.mint 47 10 = [] := by kernel_rfl
@[go_sem] theorem mi_48_1 : E.mint 48 1 = [] := by kernel_rfl
@[go_sem] theorem mi_48_2 : E.mint 48 2 = [] := by kernel_rfl
@[go_sem] theorem mi_48_37 : E.mint 48 37 = [] := by kernel_rfl
@[go_sem] theorem mi_49_2 : E.mint 49 2 = [] := by kernel_rfl
@[go_sem] theorem mi_49_3 : E.mint 49 3 = [] := by kernel_rfl
@[go_sem] theorem li_53_0 : E.live 53 0 = [2, 3, 36, 37] := by kernel_rfl
@[go_sem] theorem fl_53_6 : E.flag 53 6 = ([], []) := by kernel_rfl
@[go_sem] theorem mi_53_2 : E.mint 53 2 = [] := by kernel_rfl
@[go_sem] theorem mi_53_3 : E.mint 53 3 = [] := by kernel_rfl
@[go_sem] theorem mi_54_2 : E.mint 54 2 = [] := by kernel_rfl
@[go_sem] theorem mi_54_3 : E.mint 54 3 = [] := by kernel_rfl
@[go_sem] theorem mi_54_4 : E.mint 54 4 = [] := by kernel_rfl
@[go_sem] theorem mi_54_5 : E.mint 54 5 = [] := by kernel_rfl
@[go_sem] theorem mi_54_6 : E.mint 54 6 = [] := by kernel_rfl
@[go_sem] theorem mi_54_7 : E.mint 54 7 = [] := by kernel_rfl
@[go_sem] theorem mi_54_8 : E.mint 54 8 = [] := by kernel_rfl
@[go_sem] theorem mi_54_9 : E.mint 54 9 = [] := by kernel_rfl
@[go_sem] theorem mi_54_10 : E.mint 54 10 = [] := by kernel_rfl
@[go_sem] theorem mi_54_11 : E.mint 54 11 = [] := by kernel_rfl
@[go_sem] theorem mi_54_12 : E.mint 54 12 = [] := by kernel_rfl
@[go_sem] theorem mi_54_13 : E.mint 54 13 = [] := by kernel_rfl
@[go_sem] theorem mi_54_14 : E.mint 54 14 = [] := by kernel_rfl
@[go_sem] theorem mi_54_15 : E.mint 54 15 = [] := by kernel_rfl
@[go_sem] theorem mi_54_16 : E.mint 54 16 = [] := by kernel_rfl
@[go_sem] theorem mi_54_17 : E.mint 54 17 = [] := by kernel_rfl
@[go_sem] theorem mi_54_18 : E.mint 54 18 = [] := by kernel_rfl
@[go_sem] theorem mi_54_19 : E.mint 54 19 = [] := by kernel_rfl
@[go_sem] theorem mi_54_20 : E.mint 54 20 = [] := by kernel_rfl
@[go_sem] theorem mi_54_21 : E.mint 54 21 = [] := by kernel_rfl
@[go_sem] theorem mi_54_22 : E.mint 54 22 = [] := by kernel_rfl
@[go_sem] theorem mi_54_23 : E.mint 54 23 = [] := by kernel_rfl
@[go_sem] theorem mi_54_24 : E.mint 54 24 = [] := by kernel_rfl
@[go_sem] theorem mi_54_25 : E.mint 54 25 = [] := by kernel_rfl
@[go_sem] theorem mi_54_26 : E.mint 54 26 = [] := by kernel_rfl
@[go_sem] theorem mi_54_27 : E.mint 54 27 = [] := by kernel_rfl
@[go_sem] theorem mi_54_28 : E.mint 54 28 = [] := by kernel_rfl
@[go_sem] theorem mi_55_3 : E.mint 55 3 = [] := by kernel_rfl
@[go_sem] theorem mi_55_5 : E.mint 55 5 = [] := by kernel_rfl
@[go_sem] theorem fl_56_1 : E.flag 56 1 = ([], []) := by kernel_rfl
@[go_sem] theorem mi_57_3 : E.mint 57 3 = [] := by kernel_rfl
@[go_sem] theorem li_59_0 : E.live 59 0 = [0, 4] := by kernel_rfl
@[go_sem] theorem mi_60_5 : E.mint 60 5 = [] := by kernel_rfl
@[go_sem] theorem li_61_0 : E.live 61 0 = [0, 6] := by kernel_rfl
@[go_sem] theorem li_62_9 : E.live 62 9 = [175] := by kernel_rfl
@[go_sem] theorem li_62_7 : E.live 62 7 = [0, 7, 8, 9, 14, 15, 16] := by kernel_rfl
@[go_sem] theorem li_62_5 : E.live 62 5 = [0, 7, 8, 9, 14, 15] := by kernel_rfl
@[go_sem] theorem li_62_3 : E.live 62 3 = [0, 7, 8, 9, 12] := by kernel_rfl
@[go_sem] theorem li_62_1 : E.live 62 1 = [0, 7, 8, 9] := by kernel_rfl
@[go_sem] theorem fl_62_6 : E.flag 62 6 = ([], []) := by kernel_rfl
@[go_sem] theorem fl_62_7 : E.flag 62 7 = ([], []) := by kernel_rfl
@[go_sem] theorem fl_62_14 : E.flag 62 14 = ([], []) := by kernel_rfl
@[go_sem] theorem fl_62_31 : E.flag 62 31 = ([], []) := by kernel_rfl
@[go_sem] theorem li_64_0 : E.live 64 0 = [0, 2, 4] := by kernel_rfl
@[go_sem] theorem mi_64_2 : E.mint 64 2 = [] := by kernel_rfl
@[go_sem] theorem mi_66_1 : E.mint 66 1 = [] := by kernel_rfl
@[go_sem] theorem mi_68_1 : E.mint 68 1 = [] := by kernel_rfl
@[go_sem] theorem mi_69_1 : E.mint 69 1 = [] := by kernel_rfl
@[go_sem] theorem mi_70_1 : E.mint 70 1 = [] := by kernel_rfl
@[go_sem] theorem fl_71_1 : E.flag 71 1 = ([], []) := by kernel_rfl
@[go_sem] theorem mi_71_1 : E.mint 71 1 = [] := by kernel_rfl
@[go_sem] theorem li_72_0 : E.live 72 0 = [1, 2, 15, 16, 17] := by kernel_rfl
@[go_sem] theorem li_74_0 : E.live 74 0 = [1, 2, 15, 16, 17] := by kernel_rfl
@[go_sem] theorem mi_74_8 : E.mint 74 8 = [] := by kernel_rfl
@[go_sem] theorem mi_74_9 : E.mint 74 9 = [] := by kernel_rfl
@[go_sem] theorem mi_75_2 : E.mint 75 2 = [] := by kernel_rfl
@[go_sem] theorem mi_75_3 : E.mint 75 3 = [] := by kernel_rfl
@[go_sem] theorem li_76_0 : E.live 76 0 = [1, 2, 15, 16, 17] := by kernel_rfl
@[go_sem] theorem mi_76_8 : E.mint 76 8 = [] := by kernel_rfl
@[go_sem] theorem mi_76_9 : E.mint 76 9 = [] := by kernel_rfl
@[go_sem] theorem mi_77_2 : E.mint 77 2 = [] := by kernel_rfl
@[go_sem] theorem mi_77_3 : E.mint 77 3 = [] := by kernel_rfl
@[go_sem] theorem mi_78_2 : E.mint 78 2 = [] := by kernel_rfl
@[go_sem] theorem mi_79_2 : E.mint 79 2 = [] := by kernel_rfl
@[go_sem] theorem mi_79_3 : E.mint 79 3 = [] := by kernel_rfl
@[go_sem] theorem li_81_0 : E.live 81 0 = [0, 1, 5, 13, 14] := by kernel_rfl
@[go_sem] theorem li_86_0 : E.live 86 0 = [0, 1, 4] := by kernel_rfl
@[go_sem] theorem fl_86_7 : E.flag 86 7 = ([], []) := by kernel_rfl
@[go_sem] theorem fl_86_8 : E.flag 86 8 = ([], []) := by kernel_rfl
@[go_sem] theorem fl_86_9 : E.flag 86 9 = ([], []) := by kernel_rfl
@[go_sem] theorem fl_86_10 : E.flag 86 10 = ([], []) := by kernel_rfl
@[go_sem] theorem fl_86_17 : E.flag 86 17 = ([], []) := by kernel_rfl
@[go_sem] theorem fl_86_18 : E.flag 86 18 = ([], []) := by kernel_rfl
@[go_sem] theorem fl_86_23 : E.flag 86 23 = ([], []) := by kernel_rfl
@[go_sem] theorem li_87_0 : E.live 87 0 = [0, 1, 3, 4, 10, 11, 12, 13, 14, 15, 16] := by kernel_rfl
@[go_sem] theorem li_87_2 : E.live 87 2 = [0, 1, 3, 4, 10, 11, 12, 13, 17] := by kernel_rfl
@[go_sem] theorem mi_87_12 : E.mint 87 12 = [] := by kernel_rfl
@[go_sem] theorem li_93_0 : E.live 93 0 = [0, 1, 7, 8] := by kernel_rfl
@[go_sem] theorem fl_94_15 : E.flag 94 15 = ([], []) := by kernel_rfl
@[go_sem] theorem mi_94_1 : E.mint 94 1 = [] := by kernel_rfl
@[go_sem] theorem mi_94_30 : E.mint 94 30 = [] := by kernel_rfl
@[go_sem] theorem mi_94_35 : E.mint 94 35 = [] := by kernel_rfl
@[go_sem] theorem mi_94_3 : E.mint 94 3 = [] := by kernel_rfl
@[go_sem] theorem mi_94_46 : E.mint 94 46 = [] := by kernel_rfl
@[go_sem] theorem mi_95_1 : E.mint 95 1 = [] := by kernel_rfl
@[go_sem] theorem mi_95_5 : E.mint 95 5 = [] := by kernel_rfl
@[go_sem] theorem mi_95_3 : E.mint 95 3 = [] := by kernel_rfl
@[go_sem] theorem mi_105_3 : E.mint 105 3 = [] := by kernel_rfl
@[go_sem] theorem mi_105_7 : E.mint 105 7 = [] := by kernel_rfl
@[go_sem] theorem mi_105_45 : E.mint 105 45 = [] := by kernel_rfl
@[go_sem] theorem li_107_0 : E.live 107 0 = [5, 6, 7] := by kernel_rfl
@[go_sem] theorem mi_108_1 : E.mint 108 1 = [] := by kernel_rfl
@[go_sem] theorem mi_109_1 : E.mint 109 1 = [] := by kernel_rfl
@[go_sem] theorem mi_110_1 : E.mint 110 1 = [] := by kernel_rfl
@[go_sem] theorem mi_115_1 : E.mint 115 1 = [] := by kernel_rfl
@[go_sem] theorem mi_115_4 : E.mint 115 4 = [] := by kernel_rfl
@[go_sem] theorem mi_116_2 : E.mint 116 2 = [] := by kernel_rfl
@[go_sem] theorem mi_116_3 : E.mint 116 3 = [] := by kernel_rfl
@[go_sem] theorem mi_125_2 : E.mint 125 2 = [] := by kernel_rfl
@[go_sem] theorem mi_125_4 : E.mint 125 4 = [] := by kernel_rfl
@[go_sem] theorem mi_126_2 : E.mint 126 2 = [] := by kernel_rfl
@[go_sem] theorem li_134_0 : E.live 134 0 = [0, 6, 7, 8] := by kernel_rfl
@[go_sem] theorem fl_136_6 : E.flag 136 6 = ([], []) := by kernel_rfl
@[go_sem] theorem fl_136_1 : E.flag 136 1 = ([], []) := by kernel_rfl
@[go_sem] theorem mi_139_2 : E.mint 139 2 = [] := by kernel_rfl
@[go_sem] theorem mi_139_16 : E.mint 139 16 = [] := by kernel_rfl
@[go_sem] theorem mi_139_37 : E.mint 139 37 = [] := by kernel_rfl
@[go_sem] theorem fl_145_8 : E.flag 145 8 = ([], []) := by kernel_rfl
@[go_sem] theorem fl_147_3 : E.flag 147 3 = ([], []) := by kernel_rfl
@[go_sem] theorem li_148_0 : E.live 148 0 = [0, 1, 2, 3, 9, 10] := by kernel_rfl
@[go_sem] theorem fl_149_1 : E.flag 149 1 = ([], []) := by kernel_rfl
@[go_sem] theorem li_150_0 : E.live 150 0 = [0, 1, 6, 7] := by kernel_rfl
@[go_sem] theorem li_151_0 : E.live 151 0 = [0, 1, 5] := by kernel_rfl
@[go_sem] theorem li_153_0 : E.live 153 0 = [2, 4] := by kernel_rfl
@[go_sem] theorem li_156_1 : E.live 156 1 = [0, 1, 5, 6, 7, 8, 9, 10] := by kernel_rfl
@[go_sem] theorem mi_157_9 : E.mint 157 9 = [] := by kernel_rfl
@[go_sem] theorem li_158_2 : E.live 158 2 = [0, 1, 5, 6, 7, 8, 10] := by kernel_rfl
@[go_sem] theorem li_158_0 : E.live 158 0 = [0, 1, 5, 6, 7, 8, 9] := by kernel_rfl
@[go_sem] theorem li_159_2 : E.live 159 2 = [4, 6, 7, 8] := by kernel_rfl
@[go_sem] theorem li_159_0 : E.live 159 0 = [0, 4, 5] := by kernel_rfl
end Go.Proofs.YtjnmgfmogganlaaGreatDoor
