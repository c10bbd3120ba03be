/-
  What the tables of the seat say, as rules. Printed by a program (gen2.py).
-/
import Derived.Test.YtflehnedcjjdjaaGreatDoorPuEnv
import Derived.Test.YtflehnedcjjdjaaGreatDoorPuB1
set_option linter.unusedSimpArgs false
set_option linter.unusedVariables false
namespace Go.Proofs.YtflehnedcjjdjaaGreatDoor
open Go.Pu
set_option maxRecDepth 100000
@[go_sem] theorem kd_1 : (E.ty 1).kd = .func := by kernel_rfl
@[go_sem] theorem ok_1 : (E.ty 1).ok = true := by kernel_rfl
@[go_sem] theorem sz_1 : (E.ty 1).size = 1 := by kernel_rfl
@[go_sem] theorem ag_1 : (E.ty 1).agg = false := by kernel_rfl
@[go_sem] theorem by_1 : (E.ty 1).bytes = 8 := by kernel_rfl
@[go_sem] theorem ze_1 : (E.ty 1).zero = [.nilf] := by kernel_rfl
@[go_sem] theorem pt_1 (o : Nat) (cs : List AV) : partO E 1 o cs = cs[o]? := partO_scal ag_1 sz_1 o cs
@[go_sem] theorem zo_1 : zeroOf E 1 = .pv (.nilf) := by kernel_rfl
@[go_sem] theorem kd_2 : (E.ty 2).kd = (.int .i64) := by kernel_rfl
@[go_sem] theorem ok_2 : (E.ty 2).ok = true := by kernel_rfl
@[go_sem] theorem sz_2 : (E.ty 2).size = 1 := by kernel_rfl
@[go_sem] theorem ag_2 : (E.ty 2).agg = false := by kernel_rfl
@[go_sem] theorem by_2 : (E.ty 2).bytes = 8 := by kernel_rfl
@[go_sem] theorem ze_2 : (E.ty 2).zero = [.int .i64 0] := by kernel_rfl
@[go_sem] theorem pt_2 (o : Nat) (cs : List AV) : partO E 2 o cs = cs[o]? := partO_scal ag_2 sz_2 o cs
@[go_sem] theorem zo_2 : zeroOf E 2 = .pv (.int .i64 0) := by kernel_rfl
@[go_sem] theorem kd_3 : (E.ty 3).kd = (.int .i64) := by kernel_rfl
@[go_sem] theorem ok_3 : (E.ty 3).ok = true := by kernel_rfl
@[go_sem] theorem sz_3 : (E.ty 3).size = 1 := by kernel_rfl
@[go_sem] theorem ag_3 : (E.ty 3).agg = false := by kernel_rfl
@[go_sem] theorem by_3 : (E.ty 3).bytes = 8 := by kernel_rfl
@[go_sem] theorem ze_3 : (E.ty 3).zero = [.int .i64 0] := by kernel_rfl
@[go_sem] theorem pt_3 (o : Nat) (cs : List AV) : partO E 3 o cs = cs[o]? := partO_scal ag_3 sz_3 o cs
@[go_sem] theorem zo_3 : zeroOf E 3 = .pv (.int .i64 0) := by kernel_rfl
@[go_sem] theorem kd_4 : (E.ty 4).kd = .bool := by kernel_rfl
@[go_sem] theorem ok_4 : (E.ty 4).ok = true := by kernel_rfl
@[go_sem] theorem sz_4 : (E.ty 4).size = 1 := by kernel_rfl
@[go_sem] theorem ag_4 : (E.ty 4).agg = false := by kernel_rfl
@[go_sem] theorem by_4 : (E.ty 4).bytes = 1 := by kernel_rfl
@[go_sem] theorem ze_4 : (E.ty 4).zero = [.bool false] := by kernel_rfl
@[go_sem] theorem pt_4 (o : Nat) (cs : List AV) : partO E 4 o cs = cs[o]? := partO_scal ag_4 sz_4 o cs
@[go_sem] theorem zo_4 : zeroOf E 4 = .pv (.bool false) := by kernel_rfl
@[go_sem] theorem kd_5 : (E.ty 5).kd = (.int .u8) := by kernel_rfl
@[go_sem] theorem ok_5 : (E.ty 5).ok = true := by kernel_rfl
@[go_sem] theorem sz_5 : (E.ty 5).size = 1 := by kernel_rfl
@[go_sem] theorem ag_5 : (E.ty 5).agg = false := by kernel_rfl
@[go_sem] theorem by_5 : (E.ty 5).bytes = 1 := by kernel_rfl
@[go_sem] theorem ze_5 : (E.ty 5).zero = [.int .u8 0] := by kernel_rfl
@[go_sem] theorem pt_5 (o : Nat) (cs : List AV) : partO E 5 o cs = cs[o]? := partO_scal ag_5 sz_5 o cs
@[go_sem] theorem zo_5 : zeroOf E 5 = .pv (.int .u8 0) := by kernel_rfl
@[go_sem] theorem kd_9 : (E.ty 9).kd = .str := by kernel_rfl
@[go_sem] theorem ok_9 : (E.ty 9).ok = true := by kernel_rfl
@[go_sem] theorem sz_9 : (E.ty 9).size = 1 := by kernel_rfl
@[go_sem] theorem ag_9 : (E.ty 9).agg = false := by kernel_rfl
@[go_sem] theorem by_9 : (E.ty 9).bytes = 16 := by kernel_rfl
@[go_sem] theorem ze_9 : (E.ty 9).zero = [.str []] := by kernel_rfl
@[go_sem] theorem sll_9 (s : List UInt8) (k : IntKind) (i : Int) : sliceO E 9 (.pv (.str s)) (some (.pv (.int k i))) none none = slS s i (s.length : Int) := sl_l kd_9 s k i
@[go_sem] theorem slh_9 (s : List UInt8) (k : IntKind) (i : Int) : sliceO E 9 (.pv (.str s)) none (some (.pv (.int k i))) none = slS s 0 i := sl_h kd_9 s k i
@[go_sem] theorem slb_9 (s : List UInt8) (k k2 : IntKind) (i j : Int) : sliceO E 9 (.pv (.str s)) (some (.pv (.int k i))) (some (.pv (.int k2 j))) none = slS s i j := sl_lh kd_9 s k k2 i j
@[go_sem] theorem ix_9 (s : List UInt8) (k : IntKind) (i : Int) : indexO E 9 (.pv (.str s)) (.pv (.int k i)) = idxS s i := index_str kd_9 s k i
@[go_sem] theorem ra_9 (H : Hp) (s : List UInt8) : rangeO E 9 H (.pv (.str s)) = some (.ptr H.length 0, H ++ [.sit s 0]) := rangeO_str kd_9 H s
@[go_sem] theorem pt_9 (o : Nat) (cs : List AV) : partO E 9 o cs = cs[o]? := partO_scal ag_9 sz_9 o cs
@[go_sem] theorem zo_9 : zeroOf E 9 = .pv (.str []) := by kernel_rfl
@[go_sem] theorem kd_21 : (E.ty 21).kd = (.int .i32) := by kernel_rfl
@[go_sem] theorem ok_21 : (E.ty 21).ok = true := by kernel_rfl
@[go_sem] theorem sz_21 : (E.ty 21).size = 1 := by kernel_rfl
@[go_sem] theorem ag_21 : (E.ty 21).agg = false := by kernel_rfl
@[go_sem] theorem by_21 : (E.ty 21).bytes = 4 := by kernel_rfl
@[go_sem] theorem ze_21 : (E.ty 21).zero = [.int .i32 0] := by kernel_rfl
@[go_sem] theorem pt_21 (o : Nat) (cs : List AV) : partO E 21 o cs = cs[o]? := partO_scal ag_21 sz_21 o cs
@[go_sem] theorem zo_21 : zeroOf E 21 = .pv (.int .i32 0) := by kernel_rfl
@[go_sem] theorem kd_22 : (E.ty 22).kd = .func := by kernel_rfl
@[go_sem] theorem ok_22 : (E.ty 22).ok = true := by kernel_rfl
@[go_sem] theorem sz_22 : (E.ty 22).size = 1 := by kernel_rfl
@[go_sem] theorem ag_22 : (E.ty 22).agg = false := by kernel_rfl
@[go_sem] theorem by_22 : (E.ty 22).bytes = 8 := by kernel_rfl
@[go_sem] theorem ze_22 : (E.ty 22).zero = [.nilf] := by kernel_rfl
@[go_sem] theorem pt_22 (o : Nat) (cs : List AV) : partO E 22 o cs = cs[o]? := partO_scal ag_22 sz_22 o cs
@[go_sem] theorem zo_22 : zeroOf E 22 = .pv (.nilf) := by kernel_rfl
@[go_sem] theorem kd_24 : (E.ty 24).kd = (.slice 98) := by kernel_rfl
@[go_sem] theorem ok_24 : (E.ty 24).ok = true := by kernel_rfl
@[go_sem] theorem sz_24 : (E.ty 24).size = 1 := by kernel_rfl
@[go_sem] theorem ag_24 : (E.ty 24).agg = false := by kernel_rfl
@[go_sem] theorem by_24 : (E.ty 24).bytes = 24 := by kernel_rfl
@[go_sem] theorem ze_24 : (E.ty 24).zero = [.lst 4 []] := by kernel_rfl
@[go_sem] theorem es_24 : E.esz 24 = 4 := by kernel_rfl
@[go_sem] theorem pt_24 (o : Nat) (cs : List AV) : partO E 24 o cs = cs[o]? := partO_scal ag_24 sz_24 o cs
@[go_sem] theorem zo_24 : zeroOf E 24 = .pv (.lst 4 []) := by kernel_rfl
@[go_sem] theorem kd_25 : (E.ty 25).kd = (.slice 115) := by kernel_rfl
@[go_sem] theorem ok_25 : (E.ty 25).ok = true := by kernel_rfl
@[go_sem] theorem sz_25 : (E.ty 25).size = 1 := by kernel_rfl
@[go_sem] theorem ag_25 : (E.ty 25).agg = false := by kernel_rfl
@[go_sem] theorem by_25 : (E.ty 25).bytes = 24 := by kernel_rfl
@[go_sem] theorem ze_25 : (E.ty 25).zero = [.lst 2 []] := by kernel_rfl
@[go_sem] theorem es_25 : E.esz 25 = 2 := by kernel_rfl
@[go_sem] theorem pt_25 (o : Nat) (cs : List AV) : partO E 25 o cs = cs[o]? := partO_scal ag_25 sz_25 o cs
@[go_sem] theorem zo_25 : zeroOf E 25 = .pv (.lst 2 []) := by kernel_rfl
@[go_sem] theorem kd_26 : (E.ty 26).kd = (.struct [(0, 9), (1, 9), (2, 3), (3, 4), (4, 24)]) := by kernel_rfl
@[go_sem] theorem ok_26 : (E.ty 26).ok = true := by kernel_rfl
@[go_sem] theorem sz_26 : (E.ty 26).size = 5 := by kernel_rfl
@[go_sem] theorem ag_26 : (E.ty 26).agg = true := by kernel_rfl
@[go_sem] theorem by_26 : (E.ty 26).bytes = 72 := by kernel_rfl
@[go_sem] theorem ze_26 : (E.ty 26).zero = [.str [], .str [], .int .i64 0, .bool false, .lst 4 []] := by kernel_rfl
@[go_sem] theorem pt_26 (o : Nat) (cs : List AV) : partO E 26 o cs = partA 5 o cs := partO_agg ag_26 sz_26 o cs
@[go_sem] theorem zo_26 : zeroOf E 26 = .pv (.agg [.str [], .str [], .int .i64 0, .bool false, .lst 4 []]) := by kernel_rfl
@[go_sem] theorem fo_26_0 : fieldOf E 26 0 = some (0, 9) := by kernel_rfl
@[go_sem] theorem fo_26_1 : fieldOf E 26 1 = some (1, 9) := by kernel_rfl
@[go_sem] theorem fo_26_2 : fieldOf E 26 2 = some (2, 3) := by kernel_rfl
@[go_sem] theorem fo_26_3 : fieldOf E 26 3 = some (3, 4) := by kernel_rfl
@[go_sem] theorem fo_26_4 : fieldOf E 26 4 = some (4, 24) := by kernel_rfl
@[go_sem] theorem kd_27 : (E.ty 27).kd = (.struct [(0, 9), (1, 9), (2, 3), (3, 4), (4, 24)]) := by kernel_rfl
@[go_sem] theorem ok_27 : (E.ty 27).ok = true := by kernel_rfl
@[go_sem] theorem sz_27 : (E.ty 27).size = 5 := by kernel_rfl
@[go_sem] theorem ag_27 : (E.ty 27).agg = true := by kernel_rfl
@[go_sem] theorem by_27 : (E.ty 27).bytes = 72 := by kernel_rfl
@[go_sem] theorem ze_27 : (E.ty 27).zero = [.str [], .str [], .int .i64 0, .bool false, .lst 4 []] := by kernel_rfl
@[go_sem] theorem pt_27 (o : Nat) (cs : List AV) : partO E 27 o cs = partA 5 o cs := partO_agg ag_27 sz_27 o cs
@[go_sem] theorem zo_27 : zeroOf E 27 = .pv (.agg [.str [], .str [], .int .i64 0, .bool false, .lst 4 []]) := by kernel_rfl
@[go_sem] theorem fo_27_0 : fieldOf E 27 0 = some (0, 9) := by kernel_rfl
@[go_sem] theorem fo_27_1 : fieldOf E 27 1 = some (1, 9) := by kernel_rfl
@[go_sem] theorem fo_27_2 : fieldOf E 27 2 = some (2, 3) := by kernel_rfl
@[go_sem] theorem fo_27_3 : fieldOf E 27 3 = some (3, 4) := by kernel_rfl
@[go_sem] theorem fo_27_4 : fieldOf E 27 4 = some (4, 24) := by kernel_rfl
@[go_sem] theorem kd_28 : (E.ty 28).kd = (.slice 3) := by kernel_rfl
@[go_sem] theorem ok_28 : (E.ty 28).ok = true := by kernel_rfl
@[go_sem] theorem sz_28 : (E.ty 28).size = 1 := by kernel_rfl
@[go_sem] theorem ag_28 : (E.ty 28).agg = false := by kernel_rfl
@[go_sem] theorem by_28 : (E.ty 28).bytes = 24 := by kernel_rfl
@[go_sem] theorem ze_28 : (E.ty 28).zero = [.lst 1 []] := by kernel_rfl
@[go_sem] theorem es_28 : E.esz 28 = 1 := by kernel_rfl
@[go_sem] theorem pt_28 (o : Nat) (cs : List AV) : partO E 28 o cs = cs[o]? := partO_scal ag_28 sz_28 o cs
@[go_sem] theorem zo_28 : zeroOf E 28 = .pv (.lst 1 []) := by kernel_rfl
@[go_sem] theorem kd_29 : (E.ty 29).kd = (.slice 94) := by kernel_rfl
@[go_sem] theorem ok_29 : (E.ty 29).ok = true := by kernel_rfl
@[go_sem] theorem sz_29 : (E.ty 29).size = 1 := by kernel_rfl
@[go_sem] theorem ag_29 : (E.ty 29).agg = false := by kernel_rfl
@[go_sem] theorem by_29 : (E.ty 29).bytes = 24 := by kernel_rfl
@[go_sem] theorem ze_29 : (E.ty 29).zero = [.lst 5 []] := by kernel_rfl
@[go_sem] theorem es_29 : E.esz 29 = 5 := by kernel_rfl
@[go_sem] theorem pt_29 (o : Nat) (cs : List AV) : partO E 29 o cs = cs[o]? := partO_scal ag_29 sz_29 o cs
@[go_sem] theorem zo_29 : zeroOf E 29 = .pv (.lst 5 []) := by kernel_rfl
@[go_sem] theorem kd_30 : (E.ty 30).kd = (.struct [(0, 3), (1, 4), (2, 4), (3, 3), (4, 3), (5, 9), (6, 9), (7, 4), (8, 3), (9, 9), (10, 4), (11, 9), (12, 4), (13, 9), (14, 4), (15, 27), (20, 4), (21, 3), (22, 28), (23, 29), (24, 24)]) := by kernel_rfl
@[go_sem] theorem ok_30 : (E.ty 30).ok = true := by kernel_rfl
@[go_sem] theorem sz_30 : (E.ty 30).size = 25 := by kernel_rfl
@[go_sem] theorem ag_30 : (E.ty 30).agg = true := by kernel_rfl
@[go_sem] theorem by_30 : (E.ty 30).bytes = 312 := by kernel_rfl
@[go_sem] theorem ze_30 : (E.ty 30).zero = [.int .i64 0, .bool false, .bool false, .int .i64 0, .int .i64 0, .str [], .str [], .bool false, .int .i64 0, .str [], .bool false, .str [], .bool false, .str [], .bool false, .str [], .str [], .int .i64 0, .bool false, .lst 4 [], .bool false, .int .i64 0, .lst 1 [], .lst 5 [], .lst 4 []] := by kernel_rfl
@[go_sem] theorem pt_30 (o : Nat) (cs : List AV) : partO E 30 o cs = partA 25 o cs := partO_agg ag_30 sz_30 o cs
@[go_sem] theorem zo_30 : zeroOf E 30 = .pv (.agg [.int .i64 0, .bool false, .bool false, .int .i64 0, .int .i64 0, .str [], .str [], .bool false, .int .i64 0, .str [], .bool false, .str [], .bool false, .str [], .bool false, .str [], .str [], .int .i64 0, .bool false, .lst 4 [], .bool false, .int .i64 0, .lst 1 [], .lst 5 [], .lst 4 []]) := by kernel_rfl
@[go_sem] theorem fo_30_0 : fieldOf E 30 0 = some (0, 3) := by kernel_rfl
@[go_sem] theorem fo_30_1 : fieldOf E 30 1 = some (1, 4) := by kernel_rfl
@[go_sem] theorem fo_30_2 : fieldOf E 30 2 = some (2, 4) := by kernel_rfl
@[go_sem] theorem fo_30_3 : fieldOf E 30 3 = some (3, 3) := by kernel_rfl
@[go_sem] theorem fo_30_4 : fieldOf E 30 4 = some (4, 3) := by kernel_rfl
@[go_sem] theorem fo_30_5 : fieldOf E 30 5 = some (5, 9) := by kernel_rfl
@[go_sem] theorem fo_30_6 : fieldOf E 30 6 = some (6, 9) := by kernel_rfl
@[go_sem] theorem fo_30_7 : fieldOf E 30 7 = some (7, 4) := by kernel_rfl
@[go_sem] theorem fo_30_8 : fieldOf E 30 8 = some (8, 3) := by kernel_rfl
@[go_sem] theorem fo_30_9 : fieldOf E 30 9 = some (9, 9) := by kernel_rfl
@[go_sem] theorem fo_30_10 : fieldOf E 30 10 = some (10, 4) := by kernel_rfl
@[go_sem] theorem fo_30_11 : fieldOf E 30 11 = some (11, 9) := by kernel_rfl
@[go_sem] theorem fo_30_12 : fieldOf E 30 12 = some (12, 4) := by kernel_rfl
@[go_sem] theorem fo_30_13 : fieldOf E 30 13 = some (13, 9) := by kernel_rfl
@[go_sem] theorem fo_30_14 : fieldOf E 30 14 = some (14, 4) := by kernel_rfl
@[go_sem] theorem fo_30_15 : fieldOf E 30 15 = some (15, 27) := by kernel_rfl
@[go_sem] theorem fo_30_16 : fieldOf E 30 16 = some (20, 4) := by kernel_rfl
@[go_sem] theorem fo_30_17 : fieldOf E 30 17 = some (21, 3) := by kernel_rfl
@[go_sem] theorem fo_30_18 : fieldOf E 30 18 = some (22, 28) := by kernel_rfl
@[go_sem] theorem fo_30_19 : fieldOf E 30 19 = some (23, 29) := by kernel_rfl
@[go_sem] theorem fo_30_20 : fieldOf E 30 20 = some (24, 24) := by kernel_rfl
@[go_sem] theorem kd_31 : (E.ty 31).kd = (.struct [(0, 3), (1, 4), (2, 4), (3, 3), (4, 3), (5, 9), (6, 9), (7, 4), (8, 3), (9, 9), (10, 4), (11, 9), (12, 4), (13, 9), (14, 4), (15, 27), (20, 4), (21, 3), (22, 28), (23, 29), (24, 24)]) := by kernel_rfl
@[go_sem] theorem ok_31 : (E.ty 31).ok = true := by kernel_rfl
@[go_sem] theorem sz_31 : (E.ty 31).size = 25 := by kernel_rfl
@[go_sem] theorem ag_31 : (E.ty 31).agg = true := by kernel_rfl
@[go_sem] theorem by_31 : (E.ty 31).bytes = 312 := by kernel_rfl
@[go_sem] theorem ze_31 : (E.ty 31).zero = [.int .i64 0, .bool false, .bool false, .int .i64 0, .int .i64 0, .str [], .str [], .bool false, .int .i64 0, .str [], .bool false, .str [], .bool false, .str [], .bool false, .str [], .str [], .int .i64 0, .bool false, .lst 4 [], .bool false, .int .i64 0, .lst 1 [], .lst 5 [], .lst 4 []] := by kernel_rfl
@[go_sem] theorem pt_31 (o : Nat) (cs : List AV) : partO E 31 o cs = partA 25 o cs := partO_agg ag_31 sz_31 o cs
@[go_sem] theorem zo_31 : zeroOf E 31 = .pv (.agg [.int .i64 0, .bool false, .bool false, .int .i64 0, .int .i64 0, .str [], .str [], .bool false, .int .i64 0, .str [], .bool false, .str [], .bool false, .str [], .bool false, .str [], .str [], .int .i64 0, .bool false, .lst 4 [], .bool false, .int .i64 0, .lst 1 [], .lst 5 [], .lst 4 []]) := by kernel_rfl
@[go_sem] theorem fo_31_0 : fieldOf E 31 0 = some (0, 3) := by kernel_rfl
@[go_sem] theorem fo_31_1 : fieldOf E 31 1 = some (1, 4) := by kernel_rfl
@[go_sem] theorem fo_31_2 : fieldOf E 31 2 = some (2, 4) := by kernel_rfl
@[go_sem] theorem fo_31_3 : fieldOf E 31 3 = some (3, 3) := by kernel_rfl
@[go_sem] theorem fo_31_4 : fieldOf E 31 4 = some (4, 3) := by kernel_rfl
@[go_sem] theorem fo_31_5 : fieldOf E 31 5 = some (5, 9) := by kernel_rfl
@[go_sem] theorem fo_31_6 : fieldOf E 31 6 = some (6, 9) := by kernel_rfl
@[go_sem] theorem fo_31_7 : fieldOf E 31 7 = some (7, 4) := by kernel_rfl
@[go_sem] theorem fo_31_8 : fieldOf E 31 8 = some (8, 3) := by kernel_rfl
@[go_sem] theorem fo_31_9 : fieldOf E 31 9 = some (9, 9) := by kernel_rfl
@[go_sem] theorem fo_31_10 : fieldOf E 31 10 = some (10, 4) := by kernel_rfl
@[go_sem] theorem fo_31_11 : fieldOf E 31 11 = some (11, 9) := by kernel_rfl
@[go_sem] theorem fo_31_12 : fieldOf E 31 12 = some (12, 4) := by kernel_rfl
@[go_sem] theorem fo_31_13 : fieldOf E 31 13 = some (13, 9) := by kernel_rfl
@[go_sem] theorem fo_31_14 : fieldOf E 31 14 = some (14, 4) := by kernel_rfl
@[go_sem] theorem fo_31_15 : fieldOf E 31 15 = some (15, 27) := by kernel_rfl
@[go_sem] theorem fo_31_16 : fieldOf E 31 16 = some (20, 4) := by kernel_rfl
@[go_sem] theorem fo_31_17 : fieldOf E 31 17 = some (21, 3) := by kernel_rfl
@[go_sem] theorem fo_31_18 : fieldOf E 31 18 = some (22, 28) := by kernel_rfl
@[go_sem] theorem fo_31_19 : fieldOf E 31 19 = some (23, 29) := by kernel_rfl
@[go_sem] theorem fo_31_20 : fieldOf E 31 20 = some (24, 24) := by kernel_rfl
@[go_sem] theorem kd_32 : (E.ty 32).kd = (.struct [(0, 4), (1, 3), (2, 4), (3, 4), (4, 4), (5, 3)]) := by kernel_rfl
@[go_sem] theorem ok_32 : (E.ty 32).ok = true := by kernel_rfl
@[go_sem] theorem sz_32 : (E.ty 32).size = 6 := by kernel_rfl
@[go_sem] theorem ag_32 : (E.ty 32).agg = true := by kernel_rfl
@[go_sem] theorem by_32 : (E.ty 32).bytes = 32 := by kernel_rfl
@[go_sem] theorem ze_32 : (E.ty 32).zero = [.bool false, .int .i64 0, .bool false, .bool false, .bool false, .int .i64 0] := by kernel_rfl
@[go_sem] theorem pt_32 (o : Nat) (cs : List AV) : partO E 32 o cs = partA 6 o cs := partO_agg ag_32 sz_32 o cs
@[go_sem] theorem zo_32 : zeroOf E 32 = .pv (.agg [.bool false, .int .i64 0, .bool false, .bool false, .bool false, .int .i64 0]) := by kernel_rfl
@[go_sem] theorem fo_32_0 : fieldOf E 32 0 = some (0, 4) := by kernel_rfl
@[go_sem] theorem fo_32_1 : fieldOf E 32 1 = some (1, 3) := by kernel_rfl
@[go_sem] theorem fo_32_2 : fieldOf E 32 2 = some (2, 4) := by kernel_rfl
@[go_sem] theorem fo_32_3 : fieldOf E 32 3 = some (3, 4) := by kernel_rfl
@[go_sem] theorem fo_32_4 : fieldOf E 32 4 = some (4, 4) := by kernel_rfl
@[go_sem] theorem fo_32_5 : fieldOf E 32 5 = some (5, 3) := by kernel_rfl
@[go_sem] theorem kd_33 : (E.ty 33).kd = (.struct [(0, 4), (1, 3), (2, 4), (3, 4), (4, 4), (5, 3)]) := by kernel_rfl
@[go_sem] theorem ok_33 : (E.ty 33).ok = true := by kernel_rfl
@[go_sem] theorem sz_33 : (E.ty 33).size = 6 := by kernel_rfl
@[go_sem] theorem ag_33 : (E.ty 33).agg = true := by kernel_rfl
@[go_sem] theorem by_33 : (E.ty 33).bytes = 32 := by kernel_rfl
@[go_sem] theorem ze_33 : (E.ty 33).zero = [.bool false, .int .i64 0, .bool false, .bool false, .bool false, .int .i64 0] := by kernel_rfl
@[go_sem] theorem pt_33 (o : Nat) (cs : List AV) : partO E 33 o cs = partA 6 o cs := partO_agg ag_33 sz_33 o cs
@[go_sem] theorem zo_33 : zeroOf E 33 = .pv (.agg [.bool false, .int .i64 0, .bool false, .bool false, .bool false, .int .i64 0]) := by kernel_rfl
@[go_sem] theorem fo_33_0 : fieldOf E 33 0 = some (0, 4) := by kernel_rfl
@[go_sem] theorem fo_33_1 : fieldOf E 33 1 = some (1, 3) := by kernel_rfl
@[go_sem] theorem fo_33_2 : fieldOf E 33 2 = some (2, 4) := by kernel_rfl
@[go_sem] theorem fo_33_3 : fieldOf E 33 3 = some (3, 4) := by kernel_rfl
@[go_sem] theorem fo_33_4 : fieldOf E 33 4 = some (4, 4) := by kernel_rfl
@[go_sem] theorem fo_33_5 : fieldOf E 33 5 = some (5, 3) := by kernel_rfl
@[go_sem] theorem kd_34 : (E.ty 34).kd = (.struct [(0, 3), (1, 33), (7, 3), (8, 3), (9, 3), (10, 4), (11, 3), (12, 3), (13, 3), (14, 9), (15, 9)]) := by kernel_rfl
@[go_sem] theorem ok_34 : (E.ty 34).ok = true := by kernel_rfl
@[go_sem] theorem sz_34 : (E.ty 34).size = 16 := by kernel_rfl
@[go_sem] theorem ag_34 : (E.ty 34).agg = true := by kernel_rfl
@[go_sem] theorem by_34 : (E.ty 34).bytes = 128 := by kernel_rfl
@[go_sem] theorem ze_34 : (E.ty 34).zero = [.int .i64 0, .bool false, .int .i64 0, .bool false, .bool false, .bool false, .int .i64 0, .int .i64 0, .int .i64 0, .int .i64 0, .bool false, .int .i64 0, .int .i64 0, .int .i64 0, .str [], .str []] := by kernel_rfl
@[go_sem] theorem pt_34 (o : Nat) (cs : List AV) : partO E 34 o cs = partA 16 o cs := partO_agg ag_34 sz_34 o cs
@[go_sem] theorem zo_34 : zeroOf E 34 = .pv (.agg [.int .i64 0, .bool false, .int .i64 0, .bool false, .bool false, .bool false, .int .i64 0, .int .i64 0, .int .i64 0, .int .i64 0, .bool false, .int .i64 0, .int .i64 0, .int .i64 0, .str [], .str []]) := by kernel_rfl
@[go_sem] theorem fo_34_0 : fieldOf E 34 0 = some (0, 3) := by kernel_rfl
@[go_sem] theorem fo_34_1 : fieldOf E 34 1 = some (1, 33) := by kernel_rfl
@[go_sem] theorem fo_34_2 : fieldOf E 34 2 = some (7, 3) := by kernel_rfl
@[go_sem] theorem fo_34_3 : fieldOf E 34 3 = some (8, 3) := by kernel_rfl
@[go_sem] theorem fo_34_4 : fieldOf E 34 4 = some (9, 3) := by kernel_rfl
@[go_sem] theorem fo_34_5 : fieldOf E 34 5 = some (10, 4) := by kernel_rfl
@[go_sem] theorem fo_34_6 : fieldOf E 34 6 = some (11, 3) := by kernel_rfl
@[go_sem] theorem fo_34_7 : fieldOf E 34 7 = some (12, 3) := by kernel_rfl
@[go_sem] theorem fo_34_8 : fieldOf E 34 8 = some (13, 3) := by kernel_rfl
@[go_sem] theorem fo_34_9 : fieldOf E 34 9 = some (14, 9) := by kernel_rfl
@[go_sem] theorem fo_34_10 : fieldOf E 34 10 = some (15, 9) := by kernel_rfl
@[go_sem] theorem kd_35 : (E.ty 35).kd = (.struct [(0, 3), (1, 33), (7, 3), (8, 3), (9, 3), (10, 4), (11, 3), (12, 3), (13, 3), (14, 9), (15, 9)]) := by kernel_rfl
@[go_sem] theorem ok_35 : (E.ty 35).ok = true := by kernel_rfl
@[go_sem] theorem sz_35 : (E.ty 35).size = 16 := by kernel_rfl
@[go_sem] theorem ag_35 : (E.ty 35).agg = true := by kernel_rfl
@[go_sem] theorem by_35 : (E.ty 35).bytes = 128 := by kernel_rfl
@[go_sem] theorem ze_35 : (E.ty 35).zero = [.int .i64 0, .bool false, .int .i64 0, .bool false, .bool false, .bool false, .int .i64 0, .int .i64 0, .int .i64 0, .int .i64 0, .bool false, .int .i64 0, .int .i64 0, .int .i64 0, .str [], .str []] := by kernel_rfl
@[go_sem] theorem pt_35 (o : Nat) (cs : List AV) : partO E 35 o cs = partA 16 o cs := partO_agg ag_35 sz_35 o cs
@[go_sem] theorem zo_35 : zeroOf E 35 = .pv (.agg [.int .i64 0, .bool false, .int .i64 0, .bool false, .bool false, .bool false, .int .i64 0, .int .i64 0, .int .i64 0, .int .i64 0, .bool false, .int .i64 0, .int .i64 0, .int .i64 0, .str [], .str []]) := by kernel_rfl
@[go_sem] theorem fo_35_0 : fieldOf E 35 0 = some (0, 3) := by kernel_rfl
@[go_sem] theorem fo_35_1 : fieldOf E 35 1 = some (1, 33) := by kernel_rfl
@[go_sem] theorem fo_35_2 : fieldOf E 35 2 = some (7, 3) := by kernel_rfl
@[go_sem] theorem fo_35_3 : fieldOf E 35 3 = some (8, 3) := by kernel_rfl
@[go_sem] theorem fo_35_4 : fieldOf E 35 4 = some (9, 3) := by kernel_rfl
@[go_sem] theorem fo_35_5 : fieldOf E 35 5 = some (10, 4) := by kernel_rfl
@[go_sem] theorem fo_35_6 : fieldOf E 35 6 = some (11, 3) := by kernel_rfl
@[go_sem] theorem fo_35_7 : fieldOf E 35 7 = some (12, 3) := by kernel_rfl
@[go_sem] theorem fo_35_8 : fieldOf E 35 8 = some (13, 3) := by kernel_rfl
@[go_sem] theorem fo_35_9 : fieldOf E 35 9 = some (14, 9) := by kernel_rfl
@[go_sem] theorem fo_35_10 : fieldOf E 35 10 = some (15, 9) := by kernel_rfl
@[go_sem] theorem kd_36 : (E.ty 36).kd = (.slice 100) := by kernel_rfl
@[go_sem] theorem ok_36 : (E.ty 36).ok = true := by kernel_rfl
@[go_sem] theorem sz_36 : (E.ty 36).size = 1 := by kernel_rfl
@[go_sem] theorem ag_36 : (E.ty 36).agg = false := by kernel_rfl
@[go_sem] theorem by_36 : (E.ty 36).bytes = 24 := by kernel_rfl
@[go_sem] theorem ze_36 : (E.ty 36).zero = [.lst 4 []] := by kernel_rfl
@[go_sem] theorem es_36 : E.esz 36 = 4 := by kernel_rfl
@[go_sem] theorem pt_36 (o : Nat) (cs : List AV) : partO E 36 o cs = cs[o]? := partO_scal ag_36 sz_36 o cs
@[go_sem] theorem zo_36 : zeroOf E 36 = .pv (.lst 4 []) := by kernel_rfl
@[go_sem] theorem kd_37 : (E.ty 37).kd = (.struct [(0, 3), (1, 3), (2, 9), (3, 36)]) := by kernel_rfl
@[go_sem] theorem ok_37 : (E.ty 37).ok = true := by kernel_rfl
@[go_sem] theorem sz_37 : (E.ty 37).size = 4 := by kernel_rfl
@[go_sem] theorem ag_37 : (E.ty 37).agg = true := by kernel_rfl
@[go_sem] theorem by_37 : (E.ty 37).bytes = 56 := by kernel_rfl
@[go_sem] theorem ze_37 : (E.ty 37).zero = [.int .i64 0, .int .i64 0, .str [], .lst 4 []] := by kernel_rfl
@[go_sem] theorem pt_37 (o : Nat) (cs : List AV) : partO E 37 o cs = partA 4 o cs := partO_agg ag_37 sz_37 o cs
@[go_sem] theorem zo_37 : zeroOf E 37 = .pv (.agg [.int .i64 0, .int .i64 0, .str [], .lst 4 []]) := by kernel_rfl
@[go_sem] theorem fo_37_0 : fieldOf E 37 0 = some (0, 3) := by kernel_rfl
@[go_sem] theorem fo_37_1 : fieldOf E 37 1 = some (1, 3) := by kernel_rfl
@[go_sem] theorem fo_37_2 : fieldOf E 37 2 = some (2, 9) := by kernel_rfl
@[go_sem] theorem fo_37_3 : fieldOf E 37 3 = some (3, 36) := by kernel_rfl
@[go_sem] theorem kd_38 : (E.ty 38).kd = (.struct [(0, 3), (1, 3), (2, 9), (3, 36)]) := by kernel_rfl
@[go_sem] theorem ok_38 : (E.ty 38).ok = true := by kernel_rfl
@[go_sem] theorem sz_38 : (E.ty 38).size = 4 := by kernel_rfl
@[go_sem] theorem ag_38 : (E.ty 38).agg = true := by kernel_rfl
@[go_sem] theorem by_38 : (E.ty 38).bytes = 56 := by kernel_rfl
@[go_sem] theorem ze_38 : (E.ty 38).zero = [.int .i64 0, .int .i64 0, .str [], .lst 4 []] := by kernel_rfl
@[go_sem] theorem pt_38 (o : Nat) (cs : List AV) : partO E 38 o cs = partA 4 o cs := partO_agg ag_38 sz_38 o cs
@[go_sem] theorem zo_38 : zeroOf E 38 = .pv (.agg [.int .i64 0, .int .i64 0, .str [], .lst 4 []]) := by kernel_rfl
@[go_sem] theorem fo_38_0 : fieldOf E 38 0 = some (0, 3) := by kernel_rfl
@[go_sem] theorem fo_38_1 : fieldOf E 38 1 = some (1, 3) := by kernel_rfl
@[go_sem] theorem fo_38_2 : fieldOf E 38 2 = some (2, 9) := by kernel_rfl
@[go_sem] theorem fo_38_3 : fieldOf E 38 3 = some (3, 36) := by kernel_rfl
@[go_sem] theorem kd_39 : (E.ty 39).kd = (.struct [(0, 3), (1, 3), (2, 9), (3, 9), (4, 3), (5, 4), (6, 4), (7, 3), (8, 24), (9, 3), (10, 25), (11, 3), (12, 31), (37, 35), (53, 38)]) := by kernel_rfl
@[go_sem] theorem ok_39 : (E.ty 39).ok = true := by kernel_rfl
@[go_sem] theorem sz_39 : (E.ty 39).size = 57 := by kernel_rfl
@[go_sem] theorem ag_39 : (E.ty 39).agg = true := by kernel_rfl
@[go_sem] theorem by_39 : (E.ty 39).bytes = 632 := by kernel_rfl
@[go_sem] theorem ze_39 : (E.ty 39).zero = [.int .i64 0, .int .i64 0, .str [], .str [], .int .i64 0, .bool false, .bool false, .int .i64 0, .lst 4 [], .int .i64 0, .lst 2 [], .int .i64 0, .int .i64 0, .bool false, .bool false, .int .i64 0, .int .i64 0, .str [], .str [], .bool false, .int .i64 0, .str [], .bool false, .str [], .bool false, .str [], .bool false, .str [], .str [], .int .i64 0, .bool false, .lst 4 [], .bool false, .int .i64 0, .lst 1 [], .lst 5 [], .lst 4 [], .int .i64 0, .bool false, .int .i64 0, .bool false, .bool false, .bool false, .int .i64 0, .int .i64 0, .int .i64 0, .int .i64 0, .bool false, .int .i64 0, .int .i64 0, .int .i64 0, .str [], .str [], .int .i64 0, .int .i64 0, .str [], .lst 4 []] := by kernel_rfl
@[go_sem] theorem pt_39 (o : Nat) (cs : List AV) : partO E 39 o cs = partA 57 o cs := partO_agg ag_39 sz_39 o cs
@[go_sem] theorem zo_39 : zeroOf E 39 = .pv (.agg [.int .i64 0, .int .i64 0, .str [], .str [], .int .i64 0, .bool false, .bool false, .int .i64 0, .lst 4 [], .int .i64 0, .lst 2 [], .int .i64 0, .int .i64 0, .bool false, .bool false, .int .i64 0, .int .i64 0, .str [], .str [], .bool false, .int .i64 0, .str [], .bool false, .str [], .bool false, .str [], .bool false, .str [], .str [], .int .i64 0, .bool false, .lst 4 [], .bool false, .int .i64 0, .lst 1 [], .lst 5 [], .lst 4 [], .int .i64 0, .bool false, .int .i64 0, .bool false, .bool false, .bool false, .int .i64 0, .int .i64 0, .int .i64 0, .int .i64 0, .bool false, .int .i64 0, .int .i64 0, .int .i64 0, .str [], .str [], .int .i64 0, .int .i64 0, .str [], .lst 4 []]) := by kernel_rfl
@[go_sem] theorem fo_39_0 : fieldOf E 39 0 = some (0, 3) := by kernel_rfl
@[go_sem] theorem fo_39_1 : fieldOf E 39 1 = some (1, 3) := by kernel_rfl
@[go_sem] theorem fo_39_2 : fieldOf E 39 2 = some (2, 9) := by kernel_rfl
@[go_sem] theorem fo_39_3 : fieldOf E 39 3 = some (3, 9) := by kernel_rfl
@[go_sem] theorem fo_39_4 : fieldOf E 39 4 = some (4, 3) := by kernel_rfl
@[go_sem] theorem fo_39_5 : fieldOf E 39 5 = some (5, 4) := by kernel_rfl
@[go_sem] theorem fo_39_6 : fieldOf E 39 6 = some (6, 4) := by kernel_rfl
@[go_sem] theorem fo_39_7 : fieldOf E 39 7 = some (7, 3) := by kernel_rfl
@[go_sem] theorem fo_39_8 : fieldOf E 39 8 = some (8, 24) := by kernel_rfl
@[go_sem] theorem fo_39_9 : fieldOf E 39 9 = some (9, 3) := by kernel_rfl
@[go_sem] theorem fo_39_10 : fieldOf E 39 10 = some (10, 25) := by kernel_rfl
@[go_sem] theorem fo_39_11 : fieldOf E 39 11 = some (11, 3) := by kernel_rfl
@[go_sem] theorem fo_39_12 : fieldOf E 39 12 = some (12, 31) := by kernel_rfl
@[go_sem] theorem fo_39_13 : fieldOf E 39 13 = some (37, 35) := by kernel_rfl
@[go_sem] theorem fo_39_14 : fieldOf E 39 14 = some (53, 38) := by kernel_rfl
@[go_sem] theorem kd_40 : (E.ty 40).kd = (.struct [(0, 3), (1, 3), (2, 9), (3, 9), (4, 3), (5, 4), (6, 4), (7, 3), (8, 24), (9, 3), (10, 25), (11, 3), (12, 31), (37, 35), (53, 38)]) := by kernel_rfl
@[go_sem] theorem ok_40 : (E.ty 40).ok = true := by kernel_rfl
@[go_sem] theorem sz_40 : (E.ty 40).size = 57 := by kernel_rfl
@[go_sem] theorem ag_40 : (E.ty 40).agg = true := by kernel_rfl
@[go_sem] theorem by_40 : (E.ty 40).bytes = 632 := by kernel_rfl
@[go_sem] theorem ze_40 : (E.ty 40).zero = [.int .i64 0, .int .i64 0, .str [], .str [], .int .i64 0, .bool false, .bool false, .int .i64 0, .lst 4 [], .int .i64 0, .lst 2 [], .int .i64 0, .int .i64 0, .bool false, .bool false, .int .i64 0, .int .i64 0, .str [], .str [], .bool false, .int .i64 0, .str [], .bool false, .str [], .bool false, .str [], .bool false, .str [], .str [], .int .i64 0, .bool false, .lst 4 [], .bool false, .int .i64 0, .lst 1 [], .lst 5 [], .lst 4 [], .int .i64 0, .bool false, .int .i64 0, .bool false, .bool false, .bool false, .int .i64 0, .int .i64 0, .int .i64 0, .int .i64 0, .bool false, .int .i64 0, .int .i64 0, .int .i64 0, .str [], .str [], .int .i64 0, .int .i64 0, .str [], .lst 4 []] := by kernel_rfl
@[go_sem] theorem pt_40 (o : Nat) (cs : List AV) : partO E 40 o cs = partA 57 o cs := partO_agg ag_40 sz_40 o cs
@[go_sem] theorem zo_40 : zeroOf E 40 = .pv (.agg [.int .i64 0, .int .i64 0, .str [], .str [], .int .i64 0, .bool false, .bool false, .int .i64 0, .lst 4 [], .int .i64 0, .lst 2 [], .int .i64 0, .int .i64 0, .bool false, .bool false, .int .i64 0, .int .i64 0, .str [], .str [], .bool false, .int .i64 0, .str [], .bool false, .str [], .bool false, .str [], .bool false, .str [], .str [], .int .i64 0, .bool false, .lst 4 [], .bool false, .int .i64 0, .lst 1 [], .lst 5 [], .lst 4 [], .int .i64 0, .bool false, .int .i64 0, .bool false, .bool false, .bool false, .int .i64 0, .int .i64 0, .int .i64 0, .int .i64 0, .bool false, .int .i64 0, .int .i64 0, .int .i64 0, .str [], .str [], .int .i64 0, .int .i64 0, .str [], .lst 4 []]) := by kernel_rfl
@[go_sem] theorem fo_40_0 : fieldOf E 40 0 = some (0, 3) := by kernel_rfl
@[go_sem] theorem fo_40_1 : fieldOf E 40 1 = some (1, 3) := by kernel_rfl
@[go_sem] theorem fo_40_2 : fieldOf E 40 2 = some (2, 9) := by kernel_rfl
@[go_sem] theorem fo_40_3 : fieldOf E 40 3 = some (3, 9) := by kernel_rfl
@[go_sem] theorem fo_40_4 : fieldOf E 40 4 = some (4, 3) := by kernel_rfl
@[go_sem] theorem fo_40_5 : fieldOf E 40 5 = some (5, 4) := by kernel_rfl
@[go_sem] theorem fo_40_6 : fieldOf E 40 6 = some (6, 4) := by kernel_rfl
@[go_sem] theorem fo_40_7 : fieldOf E 40 7 = some (7, 3) := by kernel_rfl
@[go_sem] theorem fo_40_8 : fieldOf E 40 8 = some (8, 24) := by kernel_rfl
@[go_sem] theorem fo_40_9 : fieldOf E 40 9 = some (9, 3) := by kernel_rfl
@[go_sem] theorem fo_40_10 : fieldOf E 40 10 = some (10, 25) := by kernel_rfl
@[go_sem] theorem fo_40_11 : fieldOf E 40 11 = some (11, 3) := by kernel_rfl
@[go_sem] theorem fo_40_12 : fieldOf E 40 12 = some (12, 31) := by kernel_rfl
@[go_sem] theorem fo_40_13 : fieldOf E 40 13 = some (37, 35) := by kernel_rfl
@[go_sem] theorem fo_40_14 : fieldOf E 40 14 = some (53, 38) := by kernel_rfl
@[go_sem] theorem kd_41 : (E.ty 41).kd = (.struct [(0, 3), (1, 3)]) := by kernel_rfl
@[go_sem] theorem ok_41 : (E.ty 41).ok = true := by kernel_rfl
@[go_sem] theorem sz_41 : (E.ty 41).size = 2 := by kernel_rfl
@[go_sem] theorem ag_41 : (E.ty 41).agg = true := by kernel_rfl
@[go_sem] theorem by_41 : (E.ty 41).bytes = 16 := by kernel_rfl
@[go_sem] theorem ze_41 : (E.ty 41).zero = [.int .i64 0, .int .i64 0] := by kernel_rfl
@[go_sem] theorem pt_41 (o : Nat) (cs : List AV) : partO E 41 o cs = partA 2 o cs := partO_agg ag_41 sz_41 o cs
@[go_sem] theorem zo_41 : zeroOf E 41 = .pv (.agg [.int .i64 0, .int .i64 0]) := by kernel_rfl
@[go_sem] theorem fo_41_0 : fieldOf E 41 0 = some (0, 3) := by kernel_rfl
@[go_sem] theorem fo_41_1 : fieldOf E 41 1 = some (1, 3) := by kernel_rfl
@[go_sem] theorem kd_42 : (E.ty 42).kd = (.struct [(0, 3), (1, 3)]) := by kernel_rfl
@[go_sem] theorem ok_42 : (E.ty 42).ok = true := by kernel_rfl
@[go_sem] theorem sz_42 : (E.ty 42).size = 2 := by kernel_rfl
@[go_sem] theorem ag_42 : (E.ty 42).agg = true := by kernel_rfl
@[go_sem] theorem by_42 : (E.ty 42).bytes = 16 := by kernel_rfl
@[go_sem] theorem ze_42 : (E.ty 42).zero = [.int .i64 0, .int .i64 0] := by kernel_rfl
@[go_sem] theorem pt_42 (o : Nat) (cs : List AV) : partO E 42 o cs = partA 2 o cs := partO_agg ag_42 sz_42 o cs
@[go_sem] theorem zo_42 : zeroOf E 42 = .pv (.agg [.int .i64 0, .int .i64 0]) := by kernel_rfl
@[go_sem] theorem fo_42_0 : fieldOf E 42 0 = some (0, 3) := by kernel_rfl
@[go_sem] theorem fo_42_1 : fieldOf E 42 1 = some (1, 3) := by kernel_rfl
@[go_sem] theorem kd_43 : (E.ty 43).kd = (.int .i64) := by kernel_rfl
@[go_sem] theorem ok_43 : (E.ty 43).ok = true := by kernel_rfl
@[go_sem] theorem sz_43 : (E.ty 43).size = 1 := by kernel_rfl
@[go_sem] theorem ag_43 : (E.ty 43).agg = false := by kernel_rfl
@[go_sem] theorem by_43 : (E.ty 43).bytes = 8 := by kernel_rfl
@[go_sem] theorem ze_43 : (E.ty 43).zero = [.int .i64 0] := by kernel_rfl
@[go_sem] theorem pt_43 (o : Nat) (cs : List AV) : partO E 43 o cs = cs[o]? := partO_scal ag_43 sz_43 o cs
@[go_sem] theorem zo_43 : zeroOf E 43 = .pv (.int .i64 0) := by kernel_rfl
@[go_sem] theorem kd_52 : (E.ty 52).kd = (.struct [(0, 22), (1, 43)]) := by kernel_rfl
@[go_sem] theorem ok_52 : (E.ty 52).ok = true := by kernel_rfl
@[go_sem] theorem sz_52 : (E.ty 52).size = 2 := by kernel_rfl
@[go_sem] theorem ag_52 : (E.ty 52).agg = true := by kernel_rfl
@[go_sem] theorem by_52 : (E.ty 52).bytes = 16 := by kernel_rfl
@[go_sem] theorem ze_52 : (E.ty 52).zero = [.nilf, .int .i64 0] := by kernel_rfl
@[go_sem] theorem pt_52 (o : Nat) (cs : List AV) : partO E 52 o cs = partA 2 o cs := partO_agg ag_52 sz_52 o cs
@[go_sem] theorem zo_52 : zeroOf E 52 = .pv (.agg [.nilf, .int .i64 0]) := by kernel_rfl
@[go_sem] theorem fo_52_0 : fieldOf E 52 0 = some (0, 22) := by kernel_rfl
@[go_sem] theorem fo_52_1 : fieldOf E 52 1 = some (1, 43) := by kernel_rfl
@[go_sem] theorem kd_53 : (E.ty 53).kd = (.struct [(0, 22), (1, 43)]) := by kernel_rfl
@[go_sem] theorem ok_53 : (E.ty 53).ok = true := by kernel_rfl
@[go_sem] theorem sz_53 : (E.ty 53).size = 2 := by kernel_rfl
@[go_sem] theorem ag_53 : (E.ty 53).agg = true := by kernel_rfl
@[go_sem] theorem by_53 : (E.ty 53).bytes = 16 := by kernel_rfl
@[go_sem] theorem ze_53 : (E.ty 53).zero = [.nilf, .int .i64 0] := by kernel_rfl
@[go_sem] theorem pt_53 (o : Nat) (cs : List AV) : partO E 53 o cs = partA 2 o cs := partO_agg ag_53 sz_53 o cs
@[go_sem] theorem zo_53 : zeroOf E 53 = .pv (.agg [.nilf, .int .i64 0]) := by kernel_rfl
@[go_sem] theorem fo_53_0 : fieldOf E 53 0 = some (0, 22) := by kernel_rfl
@[go_sem] theorem fo_53_1 : fieldOf E 53 1 = some (1, 43) := by kernel_rfl
@[go_sem] theorem kd_57 : (E.ty 57).kd = (.slice 53) := by kernel_rfl
@[go_sem] theorem ok_57 : (E.ty 57).ok = true := by kernel_rfl
@[go_sem] theorem sz_57 : (E.ty 57).size = 1 := by kernel_rfl
@[go_sem] theorem ag_57 : (E.ty 57).agg = false := by kernel_rfl
@[go_sem] theorem by_57 : (E.ty 57).bytes = 24 := by kernel_rfl
@[go_sem] theorem ze_57 : (E.ty 57).zero = [.lst 2 []] := by kernel_rfl
@[go_sem] theorem es_57 : E.esz 57 = 2 := by kernel_rfl
@[go_sem] theorem pt_57 (o : Nat) (cs : List AV) : partO E 57 o cs = cs[o]? := partO_scal ag_57 sz_57 o cs
@[go_sem] theorem zo_57 : zeroOf E 57 = .pv (.lst 2 []) := by kernel_rfl
@[go_sem] theorem kd_59 : (E.ty 59).kd = (.struct [(0, 9)]) := by kernel_rfl
@[go_sem] theorem ok_59 : (E.ty 59).ok = true := by kernel_rfl
@[go_sem] theorem sz_59 : (E.ty 59).size = 1 := by kernel_rfl
@[go_sem] theorem ag_59 : (E.ty 59).agg = true := by kernel_rfl
@[go_sem] theorem by_59 : (E.ty 59).bytes = 16 := by kernel_rfl
@[go_sem] theorem ze_59 : (E.ty 59).zero = [.str []] := by kernel_rfl
@[go_sem] theorem pt_59 (o : Nat) (cs : List AV) : partO E 59 o cs = partA 1 o cs := partO_agg ag_59 sz_59 o cs
@[go_sem] theorem zo_59 : zeroOf E 59 = .pv (.agg [.str []]) := by kernel_rfl
@[go_sem] theorem fo_59_0 : fieldOf E 59 0 = some (0, 9) := by kernel_rfl
@[go_sem] theorem kd_60 : (E.ty 60).kd = (.struct [(0, 9)]) := by kernel_rfl
@[go_sem] theorem ok_60 : (E.ty 60).ok = true := by kernel_rfl
@[go_sem] theorem sz_60 : (E.ty 60).size = 1 := by kernel_rfl
@[go_sem] theorem ag_60 : (E.ty 60).agg = true := by kernel_rfl
@[go_sem] theorem by_60 : (E.ty 60).bytes = 16 := by kernel_rfl
@[go_sem] theorem ze_60 : (E.ty 60).zero = [.str []] := by kernel_rfl
@[go_sem] theorem pt_60 (o : Nat) (cs : List AV) : partO E 60 o cs = partA 1 o cs := partO_agg ag_60 sz_60 o cs
@[go_sem] theorem zo_60 : zeroOf E 60 = .pv (.agg [.str []]) := by kernel_rfl
@[go_sem] theorem fo_60_0 : fieldOf E 60 0 = some (0, 9) := by kernel_rfl
@[go_sem] theorem kd_62 : (E.ty 62).kd = (.map 3 60) := by kernel_rfl
@[go_sem] theorem ok_62 : (E.ty 62).ok = true := by kernel_rfl
@[go_sem] theorem sz_62 : (E.ty 62).size = 1 := by kernel_rfl
@[go_sem] theorem ag_62 : (E.ty 62).agg = false := by kernel_rfl
@[go_sem] theorem by_62 : (E.ty 62).bytes = 8 := by kernel_rfl
@[go_sem] theorem ze_62 : (E.ty 62).zero = [.nilm] := by kernel_rfl
@[go_sem] theorem pt_62 (o : Nat) (cs : List AV) : partO E 62 o cs = cs[o]? := partO_scal ag_62 sz_62 o cs
@[go_sem] theorem zo_62 : zeroOf E 62 = .pv (.nilm) := by kernel_rfl
@[go_sem] theorem kd_69 : (E.ty 69).kd = (.struct [(0, 25), (1, 35)]) := by kernel_rfl
@[go_sem] theorem ok_69 : (E.ty 69).ok = true := by kernel_rfl
@[go_sem] theorem sz_69 : (E.ty 69).size = 17 := by kernel_rfl
@[go_sem] theorem ag_69 : (E.ty 69).agg = true := by kernel_rfl
@[go_sem] theorem by_69 : (E.ty 69).bytes = 152 := by kernel_rfl
@[go_sem] theorem ze_69 : (E.ty 69).zero = [.lst 2 [], .int .i64 0, .bool false, .int .i64 0, .bool false, .bool false, .bool false, .int .i64 0, .int .i64 0, .int .i64 0, .int .i64 0, .bool false, .int .i64 0, .int .i64 0, .int .i64 0, .str [], .str []] := by kernel_rfl
@[go_sem] theorem pt_69 (o : Nat) (cs : List AV) : partO E 69 o cs = partA 17 o cs := partO_agg ag_69 sz_69 o cs
@[go_sem] theorem zo_69 : zeroOf E 69 = .pv (.agg [.lst 2 [], .int .i64 0, .bool false, .int .i64 0, .bool false, .bool false, .bool false, .int .i64 0, .int .i64 0, .int .i64 0, .int .i64 0, .bool false, .int .i64 0, .int .i64 0, .int .i64 0, .str [], .str []]) := by kernel_rfl
@[go_sem] theorem fo_69_0 : fieldOf E 69 0 = some (0, 25) := by kernel_rfl
@[go_sem] theorem fo_69_1 : fieldOf E 69 1 = some (1, 35) := by kernel_rfl
@[go_sem] theorem kd_70 : (E.ty 70).kd = (.struct [(0, 25), (1, 35)]) := by kernel_rfl
@[go_sem] theorem ok_70 : (E.ty 70).ok = true := by kernel_rfl
@[go_sem] theorem sz_70 : (E.ty 70).size = 17 := by kernel_rfl
@[go_sem] theorem ag_70 : (E.ty 70).agg = true := by kernel_rfl
@[go_sem] theorem by_70 : (E.ty 70).bytes = 152 := by kernel_rfl
@[go_sem] theorem ze_70 : (E.ty 70).zero = [.lst 2 [], .int .i64 0, .bool false, .int .i64 0, .bool false, .bool false, .bool false, .int .i64 0, .int .i64 0, .int .i64 0, .int .i64 0, .bool false, .int .i64 0, .int .i64 0, .int .i64 0, .str [], .str []] := by kernel_rfl
@[go_sem] theorem pt_70 (o : Nat) (cs : List AV) : partO E 70 o cs = partA 17 o cs := partO_agg ag_70 sz_70 o cs
@[go_sem] theorem zo_70 : zeroOf E 70 = .pv (.agg [.lst 2 [], .int .i64 0, .bool false, .int .i64 0, .bool false, .bool false, .bool false, .int .i64 0, .int .i64 0, .int .i64 0, .int .i64 0, .bool false, .int .i64 0, .int .i64 0, .int .i64 0, .str [], .str []]) := by kernel_rfl
@[go_sem] theorem fo_70_0 : fieldOf E 70 0 = some (0, 25) := by kernel_rfl
@[go_sem] theorem fo_70_1 : fieldOf E 70 1 = some (1, 35) := by kernel_rfl
@[go_sem] theorem kd_84 : (E.ty 84).kd = (.int .u64) := by kernel_rfl
@[go_sem] theorem ok_84 : (E.ty 84).ok = true := by kernel_rfl
@[go_sem] theorem sz_84 : (E.ty 84).size = 1 := by kernel_rfl
@[go_sem] theorem ag_84 : (E.ty 84).agg = false := by kernel_rfl
@[go_sem] theorem by_84 : (E.ty 84).bytes = 8 := by kernel_rfl
@[go_sem] theorem ze_84 : (E.ty 84).zero = [.int .u64 0] := by kernel_rfl
@[go_sem] theorem pt_84 (o : Nat) (cs : List AV) : partO E 84 o cs = cs[o]? := partO_scal ag_84 sz_84 o cs
@[go_sem] theorem zo_84 : zeroOf E 84 = .pv (.int .u64 0) := by kernel_rfl
@[go_sem] theorem kd_87 : (E.ty 87).kd = (.struct [(0, 3), (1, 3), (2, 3), (3, 3), (4, 3), (5, 4), (6, 4), (7, 4), (8, 4), (9, 4), (10, 4), (11, 4), (12, 9), (13, 9), (14, 9), (15, 9), (16, 9)]) := by kernel_rfl
@[go_sem] theorem ok_87 : (E.ty 87).ok = true := by kernel_rfl
@[go_sem] theorem sz_87 : (E.ty 87).size = 17 := by kernel_rfl
@[go_sem] theorem ag_87 : (E.ty 87).agg = true := by kernel_rfl
@[go_sem] theorem by_87 : (E.ty 87).bytes = 128 := by kernel_rfl
@[go_sem] theorem ze_87 : (E.ty 87).zero = [.int .i64 0, .int .i64 0, .int .i64 0, .int .i64 0, .int .i64 0, .bool false, .bool false, .bool false, .bool false, .bool false, .bool false, .bool false, .str [], .str [], .str [], .str [], .str []] := by kernel_rfl
@[go_sem] theorem pt_87 (o : Nat) (cs : List AV) : partO E 87 o cs = partA 17 o cs := partO_agg ag_87 sz_87 o cs
@[go_sem] theorem zo_87 : zeroOf E 87 = .pv (.agg [.int .i64 0, .int .i64 0, .int .i64 0, .int .i64 0, .int .i64 0, .bool false, .bool false, .bool false, .bool false, .bool false, .bool false, .bool false, .str [], .str [], .str [], .str [], .str []]) := by kernel_rfl
@[go_sem] theorem fo_87_0 : fieldOf E 87 0 = some (0, 3) := by kernel_rfl
@[go_sem] theorem fo_87_1 : fieldOf E 87 1 = some (1, 3) := by kernel_rfl
@[go_sem] theorem fo_87_2 : fieldOf E 87 2 = some (2, 3) := by kernel_rfl
@[go_sem] theorem fo_87_3 : fieldOf E 87 3 = some (3, 3) := by kernel_rfl
@[go_sem] theorem fo_87_4 : fieldOf E 87 4 = some (4, 3) := by kernel_rfl
@[go_sem] theorem fo_87_5 : fieldOf E 87 5 = some (5, 4) := by kernel_rfl
@[go_sem] theorem fo_87_6 : fieldOf E 87 6 = some (6, 4) := by kernel_rfl
@[go_sem] theorem fo_87_7 : fieldOf E 87 7 = some (7, 4) := by kernel_rfl
@[go_sem] theorem fo_87_8 : fieldOf E 87 8 = some (8, 4) := by kernel_rfl
@[go_sem] theorem fo_87_9 : fieldOf E 87 9 = some (9, 4) := by kernel_rfl
@[go_sem] theorem fo_87_10 : fieldOf E 87 10 = some (10, 4) := by kernel_rfl
@[go_sem] theorem fo_87_11 : fieldOf E 87 11 = some (11, 4) := by kernel_rfl
@[go_sem] theorem fo_87_12 : fieldOf E 87 12 = some (12, 9) := by kernel_rfl
@[go_sem] theorem fo_87_13 : fieldOf E 87 13 = some (13, 9) := by kernel_rfl
@[go_sem] theorem fo_87_14 : fieldOf E 87 14 = some (14, 9) := by kernel_rfl
@[go_sem] theorem fo_87_15 : fieldOf E 87 15 = some (15, 9) := by kernel_rfl
@[go_sem] theorem fo_87_16 : fieldOf E 87 16 = some (16, 9) := by kernel_rfl
@[go_sem] theorem kd_88 : (E.ty 88).kd = (.struct [(0, 3), (1, 3), (2, 3), (3, 3), (4, 3), (5, 4), (6, 4), (7, 4), (8, 4), (9, 4), (10, 4), (11, 4), (12, 9), (13, 9), (14, 9), (15, 9), (16, 9)]) := by kernel_rfl
@[go_sem] theorem ok_88 : (E.ty 88).ok = true := by kernel_rfl
@[go_sem] theorem sz_88 : (E.ty 88).size = 17 := by kernel_rfl
@[go_sem] theorem ag_88 : (E.ty 88).agg = true := by kernel_rfl
@[go_sem] theorem by_88 : (E.ty 88).bytes = 128 := by kernel_rfl
@[go_sem] theorem ze_88 : (E.ty 88).zero = [.int .i64 0, .int .i64 0, .int .i64 0, .int .i64 0, .int .i64 0, .bool false, .bool false, .bool false, .bool false, .bool false, .bool false, .bool false, .str [], .str [], .str [], .str [], .str []] := by kernel_rfl
@[go_sem] theorem pt_88 (o : Nat) (cs : List AV) : partO E 88 o cs = partA 17 o cs := partO_agg ag_88 sz_88 o cs
@[go_sem] theorem zo_88 : zeroOf E 88 = .pv (.agg [.int .i64 0, .int .i64 0, .int .i64 0, .int .i64 0, .int .i64 0, .bool false, .bool false, .bool false, .bool false, .bool false, .bool false, .bool false, .str [], .str [], .str [], .str [], .str []]) := by kernel_rfl
@[go_sem] theorem fo_88_0 : fieldOf E 88 0 = some (0, 3) := by kernel_rfl
@[go_sem] theorem fo_88_1 : fieldOf E 88 1 = some (1, 3) := by kernel_rfl
@[go_sem] theorem fo_88_2 : fieldOf E 88 2 = some (2, 3) := by kernel_rfl
@[go_sem] theorem fo_88_3 : fieldOf E 88 3 = some (3, 3) := by kernel_rfl
@[go_sem] theorem fo_88_4 : fieldOf E 88 4 = some (4, 3) := by kernel_rfl
@[go_sem] theorem fo_88_5 : fieldOf E 88 5 = some (5, 4) := by kernel_rfl
@[go_sem] theorem fo_88_6 : fieldOf E 88 6 = some (6, 4) := by kernel_rfl
@[go_sem] theorem fo_88_7 : fieldOf E 88 7 = some (7, 4) := by kernel_rfl
@[go_sem] theorem fo_88_8 : fieldOf E 88 8 = some (8, 4) := by kernel_rfl
@[go_sem] theorem fo_88_9 : fieldOf E 88 9 = some (9, 4) := by kernel_rfl
@[go_sem] theorem fo_88_10 : fieldOf E 88 10 = some (10, 4) := by kernel_rfl
@[go_sem] theorem fo_88_11 : fieldOf E 88 11 = some (11, 4) := by kernel_rfl
@[go_sem] theorem fo_88_12 : fieldOf E 88 12 = some (12, 9) := by kernel_rfl
@[go_sem] theorem fo_88_13 : fieldOf E 88 13 = some (13, 9) := by kernel_rfl
@[go_sem] theorem fo_88_14 : fieldOf E 88 14 = some (14, 9) := by kernel_rfl
@[go_sem] theorem fo_88_15 : fieldOf E 88 15 = some (15, 9) := by kernel_rfl
@[go_sem] theorem fo_88_16 : fieldOf E 88 16 = some (16, 9) := by kernel_rfl
@[go_sem] theorem kd_93 : (E.ty 93).kd = (.struct [(0, 9), (1, 3), (2, 4), (3, 4), (4, 3)]) := by kernel_rfl
@[go_sem] theorem ok_93 : (E.ty 93).ok = true := by kernel_rfl
@[go_sem] theorem sz_93 : (E.ty 93).size = 5 := by kernel_rfl
@[go_sem] theorem ag_93 : (E.ty 93).agg = true := by kernel_rfl
@[go_sem] theorem by_93 : (E.ty 93).bytes = 40 := by kernel_rfl
@[go_sem] theorem ze_93 : (E.ty 93).zero = [.str [], .int .i64 0, .bool false, .bool false, .int .i64 0] := by kernel_rfl
@[go_sem] theorem pt_93 (o : Nat) (cs : List AV) : partO E 93 o cs = partA 5 o cs := partO_agg ag_93 sz_93 o cs
@[go_sem] theorem zo_93 : zeroOf E 93 = .pv (.agg [.str [], .int .i64 0, .bool false, .bool false, .int .i64 0]) := by kernel_rfl
@[go_sem] theorem fo_93_0 : fieldOf E 93 0 = some (0, 9) := by kernel_rfl
@[go_sem] theorem fo_93_1 : fieldOf E 93 1 = some (1, 3) := by kernel_rfl
@[go_sem] theorem fo_93_2 : fieldOf E 93 2 = some (2, 4) := by kernel_rfl
@[go_sem] theorem fo_93_3 : fieldOf E 93 3 = some (3, 4) := by kernel_rfl
@[go_sem] theorem fo_93_4 : fieldOf E 93 4 = some (4, 3) := by kernel_rfl
@[go_sem] theorem kd_94 : (E.ty 94).kd = (.struct [(0, 9), (1, 3), (2, 4), (3, 4), (4, 3)]) := by kernel_rfl
@[go_sem] theorem ok_94 : (E.ty 94).ok = true := by kernel_rfl
@[go_sem] theorem sz_94 : (E.ty 94).size = 5 := by kernel_rfl
@[go_sem] theorem ag_94 : (E.ty 94).agg = true := by kernel_rfl
@[go_sem] theorem by_94 : (E.ty 94).bytes = 40 := by kernel_rfl
@[go_sem] theorem ze_94 : (E.ty 94).zero = [.str [], .int .i64 0, .bool false, .bool false, .int .i64 0] := by kernel_rfl
@[go_sem] theorem pt_94 (o : Nat) (cs : List AV) : partO E 94 o cs = partA 5 o cs := partO_agg ag_94 sz_94 o cs
@[go_sem] theorem zo_94 : zeroOf E 94 = .pv (.agg [.str [], .int .i64 0, .bool false, .bool false, .int .i64 0]) := by kernel_rfl
@[go_sem] theorem fo_94_0 : fieldOf E 94 0 = some (0, 9) := by kernel_rfl
@[go_sem] theorem fo_94_1 : fieldOf E 94 1 = some (1, 3) := by kernel_rfl
@[go_sem] theorem fo_94_2 : fieldOf E 94 2 = some (2, 4) := by kernel_rfl
@[go_sem] theorem fo_94_3 : fieldOf E 94 3 = some (3, 4) := by kernel_rfl
@[go_sem] theorem fo_94_4 : fieldOf E 94 4 = some (4, 3) := by kernel_rfl
@[go_sem] theorem kd_96 : (E.ty 96).kd = (.int .u32) := by kernel_rfl
@[go_sem] theorem ok_96 : (E.ty 96).ok = true := by kernel_rfl
@[go_sem] theorem sz_96 : (E.ty 96).size = 1 := by kernel_rfl
@[go_sem] theorem ag_96 : (E.ty 96).agg = false := by kernel_rfl
@[go_sem] theorem by_96 : (E.ty 96).bytes = 4 := by kernel_rfl
@[go_sem] theorem ze_96 : (E.ty 96).zero = [.int .u32 0] := by kernel_rfl
@[go_sem] theorem pt_96 (o : Nat) (cs : List AV) : partO E 96 o cs = cs[o]? := partO_scal ag_96 sz_96 o cs
@[go_sem] theorem zo_96 : zeroOf E 96 = .pv (.int .u32 0) := by kernel_rfl
@[go_sem] theorem kd_97 : (E.ty 97).kd = (.struct [(0, 3), (1, 96), (2, 9), (3, 9)]) := by kernel_rfl
@[go_sem] theorem ok_97 : (E.ty 97).ok = true := by kernel_rfl
@[go_sem] theorem sz_97 : (E.ty 97).size = 4 := by kernel_rfl
@[go_sem] theorem ag_97 : (E.ty 97).agg = true := by kernel_rfl
@[go_sem] theorem by_97 : (E.ty 97).bytes = 48 := by kernel_rfl
@[go_sem] theorem ze_97 : (E.ty 97).zero = [.int .i64 0, .int .u32 0, .str [], .str []] := by kernel_rfl
@[go_sem] theorem pt_97 (o : Nat) (cs : List AV) : partO E 97 o cs = partA 4 o cs := partO_agg ag_97 sz_97 o cs
@[go_sem] theorem zo_97 : zeroOf E 97 = .pv (.agg [.int .i64 0, .int .u32 0, .str [], .str []]) := by kernel_rfl
@[go_sem] theorem fo_97_0 : fieldOf E 97 0 = some (0, 3) := by kernel_rfl
@[go_sem] theorem fo_97_1 : fieldOf E 97 1 = some (1, 96) := by kernel_rfl
@[go_sem] theorem fo_97_2 : fieldOf E 97 2 = some (2, 9) := by kernel_rfl
@[go_sem] theorem fo_97_3 : fieldOf E 97 3 = some (3, 9) := by kernel_rfl
@[go_sem] theorem kd_98 : (E.ty 98).kd = (.struct [(0, 3), (1, 96), (2, 9), (3, 9)]) := by kernel_rfl
@[go_sem] theorem ok_98 : (E.ty 98).ok = true := by kernel_rfl
@[go_sem] theorem sz_98 : (E.ty 98).size = 4 := by kernel_rfl
@[go_sem] theorem ag_98 : (E.ty 98).agg = true := by kernel_rfl
@[go_sem] theorem by_98 : (E.ty 98).bytes = 48 := by kernel_rfl
@[go_sem] theorem ze_98 : (E.ty 98).zero = [.int .i64 0, .int .u32 0, .str [], .str []] := by kernel_rfl
@[go_sem] theorem pt_98 (o : Nat) (cs : List AV) : partO E 98 o cs = partA 4 o cs := partO_agg ag_98 sz_98 o cs
@[go_sem] theorem zo_98 : zeroOf E 98 = .pv (.agg [.int .i64 0, .int .u32 0, .str [], .str []]) := by kernel_rfl
@[go_sem] theorem fo_98_0 : fieldOf E 98 0 = some (0, 3) := by kernel_rfl
@[go_sem] theorem fo_98_1 : fieldOf E 98 1 = some (1, 96) := by kernel_rfl
@[go_sem] theorem fo_98_2 : fieldOf E 98 2 = some (2, 9) := by kernel_rfl
@[go_sem] theorem fo_98_3 : fieldOf E 98 3 = some (3, 9) := by kernel_rfl
@[go_sem] theorem kd_99 : (E.ty 99).kd = (.struct [(0, 3), (1, 84), (2, 9), (3, 36)]) := by kernel_rfl
@[go_sem] theorem ok_99 : (E.ty 99).ok = true := by kernel_rfl
@[go_sem] theorem sz_99 : (E.ty 99).size = 4 := by kernel_rfl
@[go_sem] theorem ag_99 : (E.ty 99).agg = true := by kernel_rfl
@[go_sem] theorem by_99 : (E.ty 99).bytes = 56 := by kernel_rfl
@[go_sem] theorem ze_99 : (E.ty 99).zero = [.int .i64 0, .int .u64 0, .str [], .lst 4 []] := by kernel_rfl
@[go_sem] theorem pt_99 (o : Nat) (cs : List AV) : partO E 99 o cs = partA 4 o cs := partO_agg ag_99 sz_99 o cs
@[go_sem] theorem zo_99 : zeroOf E 99 = .pv (.agg [.int .i64 0, .int .u64 0, .str [], .lst 4 []]) := by kernel_rfl
@[go_sem] theorem fo_99_0 : fieldOf E 99 0 = some (0, 3) := by kernel_rfl
@[go_sem] theorem fo_99_1 : fieldOf E 99 1 = some (1, 84) := by kernel_rfl
@[go_sem] theorem fo_99_2 : fieldOf E 99 2 = some (2, 9) := by kernel_rfl
@[go_sem] theorem fo_99_3 : fieldOf E 99 3 = some (3, 36) := by kernel_rfl
@[go_sem] theorem kd_100 : (E.ty 100).kd = (.struct [(0, 3), (1, 84), (2, 9), (3, 36)]) := by kernel_rfl
@[go_sem] theorem ok_100 : (E.ty 100).ok = true := by kernel_rfl
@[go_sem] theorem sz_100 : (E.ty 100).size = 4 := by kernel_rfl
@[go_sem] theorem ag_100 : (E.ty 100).agg = true := by kernel_rfl
@[go_sem] theorem by_100 : (E.ty 100).bytes = 56 := by kernel_rfl
@[go_sem] theorem ze_100 : (E.ty 100).zero = [.int .i64 0, .int .u64 0, .str [], .lst 4 []] := by kernel_rfl
@[go_sem] theorem pt_100 (o : Nat) (cs : List AV) : partO E 100 o cs = partA 4 o cs := partO_agg ag_100 sz_100 o cs
@[go_sem] theorem zo_100 : zeroOf E 100 = .pv (.agg [.int .i64 0, .int .u64 0, .str [], .lst 4 []]) := by kernel_rfl
@[go_sem] theorem fo_100_0 : fieldOf E 100 0 = some (0, 3) := by kernel_rfl
@[go_sem] theorem fo_100_1 : fieldOf E 100 1 = some (1, 84) := by kernel_rfl
@[go_sem] theorem fo_100_2 : fieldOf E 100 2 = some (2, 9) := by kernel_rfl
@[go_sem] theorem fo_100_3 : fieldOf E 100 3 = some (3, 36) := by kernel_rfl
@[go_sem] theorem kd_102 : (E.ty 102).kd = (.map 3 108) := by kernel_rfl
@[go_sem] theorem ok_102 : (E.ty 102).ok = true := by kernel_rfl
@[go_sem] theorem sz_102 : (E.ty 102).size = 1 := by kernel_rfl
@[go_sem] theorem ag_102 : (E.ty 102).agg = false := by kernel_rfl
@[go_sem] theorem by_102 : (E.ty 102).bytes = 8 := by kernel_rfl
@[go_sem] theorem ze_102 : (E.ty 102).zero = [.nilm] := by kernel_rfl
@[go_sem] theorem pt_102 (o : Nat) (cs : List AV) : partO E 102 o cs = cs[o]? := partO_scal ag_102 sz_102 o cs
@[go_sem] theorem zo_102 : zeroOf E 102 = .pv (.nilm) := by kernel_rfl
@[go_sem] theorem kd_104 : (E.ty 104).kd = (.array 64 3) := by kernel_rfl
@[go_sem] theorem ok_104 : (E.ty 104).ok = true := by kernel_rfl
@[go_sem] theorem sz_104 : (E.ty 104).size = 64 := by kernel_rfl
@[go_sem] theorem ag_104 : (E.ty 104).agg = true := by kernel_rfl
@[go_sem] theorem by_104 : (E.ty 104).bytes = 512 := by kernel_rfl
@[go_sem] theorem ze_104 : (E.ty 104).zero = List.replicate 64 (.int .i64 0) := by kernel_rfl
@[go_sem] theorem pt_104 (o : Nat) (cs : List AV) : partO E 104 o cs = partA 64 o cs := partO_agg ag_104 sz_104 o cs
@[go_sem] theorem zo_104 : zeroOf E 104 = .pv (.agg (List.replicate 64 (.int .i64 0))) := by kernel_rfl
@[go_sem] theorem ia_104 (b o : Nat) (i : AV) : iadrO E 104 (.ptr b o) i = arrP b o 1 (idxO i 64) := iadr_arr kd_104 sz_3 b o i
@[go_sem] theorem kd_105 : (E.ty 105).kd = (.array 64 3) := by kernel_rfl
@[go_sem] theorem ok_105 : (E.ty 105).ok = true := by kernel_rfl
@[go_sem] theorem sz_105 : (E.ty 105).size = 64 := by kernel_rfl
@[go_sem] theorem ag_105 : (E.ty 105).agg = true := by kernel_rfl
@[go_sem] theorem by_105 : (E.ty 105).bytes = 512 := by kernel_rfl
@[go_sem] theorem ze_105 : (E.ty 105).zero = List.replicate 64 (.int .i64 0) := by kernel_rfl
@[go_sem] theorem pt_105 (o : Nat) (cs : List AV) : partO E 105 o cs = partA 64 o cs := partO_agg ag_105 sz_105 o cs
@[go_sem] theorem zo_105 : zeroOf E 105 = .pv (.agg (List.replicate 64 (.int .i64 0))) := by kernel_rfl
@[go_sem] theorem ia_105 (b o : Nat) (i : AV) : iadrO E 105 (.ptr b o) i = arrP b o 1 (idxO i 64) := iadr_arr kd_105 sz_3 b o i
@[go_sem] theorem kd_106 : (E.ty 106).kd = (.slice 5) := by kernel_rfl
@[go_sem] theorem ok_106 : (E.ty 106).ok = true := by kernel_rfl
@[go_sem] theorem sz_106 : (E.ty 106).size = 1 := by kernel_rfl
@[go_sem] theorem ag_106 : (E.ty 106).agg = false := by kernel_rfl
@[go_sem] theorem by_106 : (E.ty 106).bytes = 24 := by kernel_rfl
@[go_sem] theorem ze_106 : (E.ty 106).zero = [.lst 1 []] := by kernel_rfl
@[go_sem] theorem es_106 : E.esz 106 = 1 := by kernel_rfl
@[go_sem] theorem pt_106 (o : Nat) (cs : List AV) : partO E 106 o cs = cs[o]? := partO_scal ag_106 sz_106 o cs
@[go_sem] theorem zo_106 : zeroOf E 106 = .pv (.lst 1 []) := by kernel_rfl
@[go_sem] theorem kd_107 : (E.ty 107).kd = (.struct [(0, 3), (1, 3), (2, 96), (3, 96)]) := by kernel_rfl
@[go_sem] theorem ok_107 : (E.ty 107).ok = true := by kernel_rfl
@[go_sem] theorem sz_107 : (E.ty 107).size = 4 := by kernel_rfl
@[go_sem] theorem ag_107 : (E.ty 107).agg = true := by kernel_rfl
@[go_sem] theorem by_107 : (E.ty 107).bytes = 24 := by kernel_rfl
@[go_sem] theorem ze_107 : (E.ty 107).zero = [.int .i64 0, .int .i64 0, .int .u32 0, .int .u32 0] := by kernel_rfl
@[go_sem] theorem pt_107 (o : Nat) (cs : List AV) : partO E 107 o cs = partA 4 o cs := partO_agg ag_107 sz_107 o cs
@[go_sem] theorem zo_107 : zeroOf E 107 = .pv (.agg [.int .i64 0, .int .i64 0, .int .u32 0, .int .u32 0]) := by kernel_rfl
@[go_sem] theorem fo_107_0 : fieldOf E 107 0 = some (0, 3) := by kernel_rfl
@[go_sem] theorem fo_107_1 : fieldOf E 107 1 = some (1, 3) := by kernel_rfl
@[go_sem] theorem fo_107_2 : fieldOf E 107 2 = some (2, 96) := by kernel_rfl
@[go_sem] theorem fo_107_3 : fieldOf E 107 3 = some (3, 96) := by kernel_rfl
@[go_sem] theorem kd_108 : (E.ty 108).kd = (.struct [(0, 3), (1, 3), (2, 96), (3, 96)]) := by kernel_rfl
@[go_sem] theorem ok_108 : (E.ty 108).ok = true := by kernel_rfl
@[go_sem] theorem sz_108 : (E.ty 108).size = 4 := by kernel_rfl
@[go_sem] theorem ag_108 : (E.ty 108).agg = true := by kernel_rfl
@[go_sem] theorem by_108 : (E.ty 108).bytes = 24 := by kernel_rfl
@[go_sem] theorem ze_108 : (E.ty 108).zero = [.int .i64 0, .int .i64 0, .int .u32 0, .int .u32 0] := by kernel_rfl
@[go_sem] theorem pt_108 (o : Nat) (cs : List AV) : partO E 108 o cs = partA 4 o cs := partO_agg ag_108 sz_108 o cs
@[go_sem] theorem zo_108 : zeroOf E 108 = .pv (.agg [.int .i64 0, .int .i64 0, .int .u32 0, .int .u32 0]) := by kernel_rfl
@[go_sem] theorem fo_108_0 : fieldOf E 108 0 = some (0, 3) := by kernel_rfl
@[go_sem] theorem fo_108_1 : fieldOf E 108 1 = some (1, 3) := by kernel_rfl
@[go_sem] theorem fo_108_2 : fieldOf E 108 2 = some (2, 96) := by kernel_rfl
@[go_sem] theorem fo_108_3 : fieldOf E 108 3 = some (3, 96) := by kernel_rfl
@[go_sem] theorem kd_110 : (E.ty 110).kd = .func := by kernel_rfl
@[go_sem] theorem ok_110 : (E.ty 110).ok = true := by kernel_rfl
@[go_sem] theorem sz_110 : (E.ty 110).size = 1 := by kernel_rfl
@[go_sem] theorem ag_110 : (E.ty 110).agg = false := by kernel_rfl
@[go_sem] theorem by_110 : (E.ty 110).bytes = 8 := by kernel_rfl
@[go_sem] theorem ze_110 : (E.ty 110).zero = [.nilf] := by kernel_rfl
@[go_sem] theorem pt_110 (o : Nat) (cs : List AV) : partO E 110 o cs = cs[o]? := partO_scal ag_110 sz_110 o cs
@[go_sem] theorem zo_110 : zeroOf E 110 = .pv (.nilf) := by kernel_rfl
@[go_sem] theorem kd_114 : (E.ty 114).kd = (.struct [(0, 3), (1, 9)]) := by kernel_rfl
@[go_sem] theorem ok_114 : (E.ty 114).ok = true := by kernel_rfl
@[go_sem] theorem sz_114 : (E.ty 114).size = 2 := by kernel_rfl
@[go_sem] theorem ag_114 : (E.ty 114).agg = true := by kernel_rfl
@[go_sem] theorem by_114 : (E.ty 114).bytes = 24 := by kernel_rfl
@[go_sem] theorem ze_114 : (E.ty 114).zero = [.int .i64 0, .str []] := by kernel_rfl
@[go_sem] theorem pt_114 (o : Nat) (cs : List AV) : partO E 114 o cs = partA 2 o cs := partO_agg ag_114 sz_114 o cs
@[go_sem] theorem zo_114 : zeroOf E 114 = .pv (.agg [.int .i64 0, .str []]) := by kernel_rfl
@[go_sem] theorem fo_114_0 : fieldOf E 114 0 = some (0, 3) := by kernel_rfl
@[go_sem] theorem fo_114_1 : fieldOf E 114 1 = some (1, 9) := by kernel_rfl
@[go_sem] theorem kd_115 : (E.ty 115).kd = (.struct [(0, 3), (1, 9)]) := by kernel_rfl
@[go_sem] theorem ok_115 : (E.ty 115).ok = true := by kernel_rfl
@[go_sem] theorem sz_115 : (E.ty 115).size = 2 := by kernel_rfl
@[go_sem] theorem ag_115 : (E.ty 115).agg = true := by kernel_rfl
@[go_sem] theorem by_115 : (E.ty 115).bytes = 24 := by kernel_rfl
@[go_sem] theorem ze_115 : (E.ty 115).zero = [.int .i64 0, .str []] := by kernel_rfl
@[go_sem] theorem pt_115 (o : Nat) (cs : List AV) : partO E 115 o cs = partA 2 o cs := partO_agg ag_115 sz_115 o cs
@[go_sem] theorem zo_115 : zeroOf E 115 = .pv (.agg [.int .i64 0, .str []]) := by kernel_rfl
@[go_sem] theorem fo_115_0 : fieldOf E 115 0 = some (0, 3) := by kernel_rfl
@[go_sem] theorem fo_115_1 : fieldOf E 115 1 = some (1, 9) := by kernel_rfl
@[go_sem] theorem kd_124 : (E.ty 124).kd = (.array 256 4) := by kernel_rfl
@[go_sem] theorem ok_124 : (E.ty 124).ok = true := by kernel_rfl
@[go_sem] theorem sz_124 : (E.ty 124).size = 256 := by kernel_rfl
@[go_sem] theorem ag_124 : (E.ty 124).agg = true := by kernel_rfl
@[go_sem] theorem by_124 : (E.ty 124).bytes = 256 := by kernel_rfl
@[go_sem] theorem ze_124 : (E.ty 124).zero = List.replicate 256 (.bool false) := by kernel_rfl
@[go_sem] theorem pt_124 (o : Nat) (cs : List AV) : partO E 124 o cs = partA 256 o cs := partO_agg ag_124 sz_124 o cs
@[go_sem] theorem zo_124 : zeroOf E 124 = .pv (.agg (List.replicate 256 (.bool false))) := by kernel_rfl
@[go_sem] theorem ia_124 (b o : Nat) (i : AV) : iadrO E 124 (.ptr b o) i = arrP b o 1 (idxO i 256) := iadr_arr kd_124 sz_4 b o i
@[go_sem] theorem kd_125 : (E.ty 125).kd = (.array 256 4) := by kernel_rfl
@[go_sem] theorem ok_125 : (E.ty 125).ok = true := by kernel_rfl
@[go_sem] theorem sz_125 : (E.ty 125).size = 256 := by kernel_rfl
@[go_sem] theorem ag_125 : (E.ty 125).agg = true := by kernel_rfl
@[go_sem] theorem by_125 : (E.ty 125).bytes = 256 := by kernel_rfl
@[go_sem] theorem ze_125 : (E.ty 125).zero = List.replicate 256 (.bool false) := by kernel_rfl
@[go_sem] theorem pt_125 (o : Nat) (cs : List AV) : partO E 125 o cs = partA 256 o cs := partO_agg ag_125 sz_125 o cs
@[go_sem] theorem zo_125 : zeroOf E 125 = .pv (.agg (List.replicate 256 (.bool false))) := by kernel_rfl
@[go_sem] theorem ia_125 (b o : Nat) (i : AV) : iadrO E 125 (.ptr b o) i = arrP b o 1 (idxO i 256) := iadr_arr kd_125 sz_4 b o i
@[go_sem] theorem kd_129 : (E.ty 129).kd = (.int .u64) := by kernel_rfl
@[go_sem] theorem ok_129 : (E.ty 129).ok = true := by kernel_rfl
@[go_sem] theorem sz_129 : (E.ty 129).size = 1 := by kernel_rfl
@[go_sem] theorem ag_129 : (E.ty 129).agg = false := by kernel_rfl
@[go_sem] theorem by_129 : (E.ty 129).bytes = 8 := by kernel_rfl
@[go_sem] theorem ze_129 : (E.ty 129).zero = [.int .u64 0] := by kernel_rfl
@[go_sem] theorem pt_129 (o : Nat) (cs : List AV) : partO E 129 o cs = cs[o]? := partO_scal ag_129 sz_129 o cs
@[go_sem] theorem zo_129 : zeroOf E 129 = .pv (.int .u64 0) := by kernel_rfl
@[go_sem] theorem kd_131 : (E.ty 131).kd = .func := by kernel_rfl
@[go_sem] theorem ok_131 : (E.ty 131).ok = true := by kernel_rfl
@[go_sem] theorem sz_131 : (E.ty 131).size = 1 := by kernel_rfl
@[go_sem] theorem ag_131 : (E.ty 131).agg = false := by kernel_rfl
@[go_sem] theorem by_131 : (E.ty 131).bytes = 8 := by kernel_rfl
@[go_sem] theorem ze_131 : (E.ty 131).zero = [.nilf] := by kernel_rfl
@[go_sem] theorem pt_131 (o : Nat) (cs : List AV) : partO E 131 o cs = cs[o]? := partO_scal ag_131 sz_131 o cs
@[go_sem] theorem zo_131 : zeroOf E 131 = .pv (.nilf) := by kernel_rfl
@[go_sem] theorem kd_136 : (E.ty 136).kd = .func := by kernel_rfl
@[go_sem] theorem ok_136 : (E.ty 136).ok = true := by kernel_rfl
@[go_sem] theorem sz_136 : (E.ty 136).size = 1 := by kernel_rfl
@[go_sem] theorem ag_136 : (E.ty 136).agg = false := by kernel_rfl
@[go_sem] theorem by_136 : (E.ty 136).bytes = 8 := by kernel_rfl
@[go_sem] theorem ze_136 : (E.ty 136).zero = [.nilf] := by kernel_rfl
@[go_sem] theorem pt_136 (o : Nat) (cs : List AV) : partO E 136 o cs = cs[o]? := partO_scal ag_136 sz_136 o cs
@[go_sem] theorem zo_136 : zeroOf E 136 = .pv (.nilf) := by kernel_rfl
@[go_sem] theorem kd_138 : (E.ty 138).kd = .func := by kernel_rfl
@[go_sem] theorem ok_138 : (E.ty 138).ok = true := by kernel_rfl
@[go_sem] theorem sz_138 : (E.ty 138).size = 1 := by kernel_rfl
@[go_sem] theorem ag_138 : (E.ty 138).agg = false := by kernel_rfl
@[go_sem] theorem by_138 : (E.ty 138).bytes = 8 := by kernel_rfl
@[go_sem] theorem ze_138 : (E.ty 138).zero = [.nilf] := by kernel_rfl
@[go_sem] theorem pt_138 (o : Nat) (cs : List AV) : partO E 138 o cs = cs[o]? := partO_scal ag_138 sz_138 o cs
@[go_sem] theorem zo_138 : zeroOf E 138 = .pv (.nilf) := by kernel_rfl
@[go_sem] theorem kd_140 : (E.ty 140).kd = (.ptr 105) := by kernel_rfl
@[go_sem] theorem ok_140 : (E.ty 140).ok = true := by kernel_rfl
@[go_sem] theorem sz_140 : (E.ty 140).size = 1 := by kernel_rfl
@[go_sem] theorem ag_140 : (E.ty 140).agg = false := by kernel_rfl
@[go_sem] theorem by_140 : (E.ty 140).bytes = 8 := by kernel_rfl
@[go_sem] theorem ze_140 : (E.ty 140).zero = [.nilp] := by kernel_rfl
@[go_sem] theorem pt_140 (o : Nat) (cs : List AV) : partO E 140 o cs = cs[o]? := partO_scal ag_140 sz_140 o cs
@[go_sem] theorem zo_140 : zeroOf E 140 = .pv (.nilp) := by kernel_rfl
@[go_sem] theorem kd_160 : (E.ty 160).kd = (.array 24 5) := by kernel_rfl
@[go_sem] theorem ok_160 : (E.ty 160).ok = true := by kernel_rfl
@[go_sem] theorem sz_160 : (E.ty 160).size = 24 := by kernel_rfl
@[go_sem] theorem ag_160 : (E.ty 160).agg = true := by kernel_rfl
@[go_sem] theorem by_160 : (E.ty 160).bytes = 24 := by kernel_rfl
@[go_sem] theorem ze_160 : (E.ty 160).zero = List.replicate 24 (.int .u8 0) := by kernel_rfl
@[go_sem] theorem pt_160 (o : Nat) (cs : List AV) : partO E 160 o cs = partA 24 o cs := partO_agg ag_160 sz_160 o cs
@[go_sem] theorem zo_160 : zeroOf E 160 = .pv (.agg (List.replicate 24 (.int .u8 0))) := by kernel_rfl
@[go_sem] theorem ia_160 (b o : Nat) (i : AV) : iadrO E 160 (.ptr b o) i = arrP b o 1 (idxO i 24) := iadr_arr kd_160 sz_5 b o i
@[go_sem] theorem kd_167 : (E.ty 167).kd = (.ptr 125) := by kernel_rfl
@[go_sem] theorem ok_167 : (E.ty 167).ok = true := by kernel_rfl
@[go_sem] theorem sz_167 : (E.ty 167).size = 1 := by kernel_rfl
@[go_sem] theorem ag_167 : (E.ty 167).agg = false := by kernel_rfl
@[go_sem] theorem by_167 : (E.ty 167).bytes = 8 := by kernel_rfl
@[go_sem] theorem ze_167 : (E.ty 167).zero = [.nilp] := by kernel_rfl
@[go_sem] theorem pt_167 (o : Nat) (cs : List AV) : partO E 167 o cs = cs[o]? := partO_scal ag_167 sz_167 o cs
@[go_sem] theorem zo_167 : zeroOf E 167 = .pv (.nilp) := by kernel_rfl
@[go_sem] theorem kd_191 : (E.ty 191).kd = (.array 20 84) := by kernel_rfl
@[go_sem] theorem ok_191 : (E.ty 191).ok = true := by kernel_rfl
@[go_sem] theorem sz_191 : (E.ty 191).size = 20 := by kernel_rfl
@[go_sem] theorem ag_191 : (E.ty 191).agg = true := by kernel_rfl
@[go_sem] theorem by_191 : (E.ty 191).bytes = 160 := by kernel_rfl
@[go_sem] theorem ze_191 : (E.ty 191).zero = List.replicate 20 (.int .u64 0) := by kernel_rfl
@[go_sem] theorem pt_191 (o : Nat) (cs : List AV) : partO E 191 o cs = partA 20 o cs := partO_agg ag_191 sz_191 o cs
@[go_sem] theorem zo_191 : zeroOf E 191 = .pv (.agg (List.replicate 20 (.int .u64 0))) := by kernel_rfl
@[go_sem] theorem ia_191 (b o : Nat) (i : AV) : iadrO E 191 (.ptr b o) i = arrP b o 1 (idxO i 20) := iadr_arr kd_191 sz_84 b o i
@[go_sem] theorem kd_192 : (E.ty 192).kd = (.array 65 5) := by kernel_rfl
@[go_sem] theorem ok_192 : (E.ty 192).ok = true := by kernel_rfl
@[go_sem] theorem sz_192 : (E.ty 192).size = 65 := by kernel_rfl
@[go_sem] theorem ag_192 : (E.ty 192).agg = true := by kernel_rfl
@[go_sem] theorem by_192 : (E.ty 192).bytes = 65 := by kernel_rfl
@[go_sem] theorem ze_192 : (E.ty 192).zero = List.replicate 65 (.int .u8 0) := by kernel_rfl
@[go_sem] theorem pt_192 (o : Nat) (cs : List AV) : partO E 192 o cs = partA 65 o cs := partO_agg ag_192 sz_192 o cs
@[go_sem] theorem zo_192 : zeroOf E 192 = .pv (.agg (List.replicate 65 (.int .u8 0))) := by kernel_rfl
@[go_sem] theorem ia_192 (b o : Nat) (i : AV) : iadrO E 192 (.ptr b o) i = arrP b o 1 (idxO i 65) := iadr_arr kd_192 sz_5 b o i
@[go_sem] theorem kd_195 : (E.ty 195).kd = (.ptr 262) := by kernel_rfl
@[go_sem] theorem ok_195 : (E.ty 195).ok = true := by kernel_rfl
@[go_sem] theorem sz_195 : (E.ty 195).size = 1 := by kernel_rfl
@[go_sem] theorem ag_195 : (E.ty 195).agg = false := by kernel_rfl
@[go_sem] theorem by_195 : (E.ty 195).bytes = 8 := by kernel_rfl
@[go_sem] theorem ze_195 : (E.ty 195).zero = [.nilp] := by kernel_rfl
@[go_sem] theorem pt_195 (o : Nat) (cs : List AV) : partO E 195 o cs = cs[o]? := partO_scal ag_195 sz_195 o cs
@[go_sem] theorem zo_195 : zeroOf E 195 = .pv (.nilp) := by kernel_rfl
@[go_sem] theorem kd_196 : (E.ty 196).kd = (.struct [(0, 195), (1, 3), (2, 35), (18, 106), (19, 4)]) := by kernel_rfl
@[go_sem] theorem ok_196 : (E.ty 196).ok = true := by kernel_rfl
@[go_sem] theorem sz_196 : (E.ty 196).size = 20 := by kernel_rfl
@[go_sem] theorem ag_196 : (E.ty 196).agg = true := by kernel_rfl
@[go_sem] theorem by_196 : (E.ty 196).bytes = 176 := by kernel_rfl
@[go_sem] theorem ze_196 : (E.ty 196).zero = [.nilp, .int .i64 0, .int .i64 0, .bool false, .int .i64 0, .bool false, .bool false, .bool false, .int .i64 0, .int .i64 0, .int .i64 0, .int .i64 0, .bool false, .int .i64 0, .int .i64 0, .int .i64 0, .str [], .str [], .lst 1 [], .bool false] := by kernel_rfl
@[go_sem] theorem pt_196 (o : Nat) (cs : List AV) : partO E 196 o cs = partA 20 o cs := partO_agg ag_196 sz_196 o cs
@[go_sem] theorem zo_196 : zeroOf E 196 = .pv (.agg [.nilp, .int .i64 0, .int .i64 0, .bool false, .int .i64 0, .bool false, .bool false, .bool false, .int .i64 0, .int .i64 0, .int .i64 0, .int .i64 0, .bool false, .int .i64 0, .int .i64 0, .int .i64 0, .str [], .str [], .lst 1 [], .bool false]) := by kernel_rfl
@[go_sem] theorem fo_196_0 : fieldOf E 196 0 = some (0, 195) := by kernel_rfl
@[go_sem] theorem fo_196_1 : fieldOf E 196 1 = some (1, 3) := by kernel_rfl
@[go_sem] theorem fo_196_2 : fieldOf E 196 2 = some (2, 35) := by kernel_rfl
@[go_sem] theorem fo_196_3 : fieldOf E 196 3 = some (18, 106) := by kernel_rfl
@[go_sem] theorem fo_196_4 : fieldOf E 196 4 = some (19, 4) := by kernel_rfl
@[go_sem] theorem kd_197 : (E.ty 197).kd = (.struct [(0, 195), (1, 3), (2, 35), (18, 106), (19, 4)]) := by kernel_rfl
@[go_sem] theorem ok_197 : (E.ty 197).ok = true := by kernel_rfl
@[go_sem] theorem sz_197 : (E.ty 197).size = 20 := by kernel_rfl
@[go_sem] theorem ag_197 : (E.ty 197).agg = true := by kernel_rfl
@[go_sem] theorem by_197 : (E.ty 197).bytes = 176 := by kernel_rfl
@[go_sem] theorem ze_197 : (E.ty 197).zero = [.nilp, .int .i64 0, .int .i64 0, .bool false, .int .i64 0, .bool false, .bool false, .bool false, .int .i64 0, .int .i64 0, .int .i64 0, .int .i64 0, .bool false, .int .i64 0, .int .i64 0, .int .i64 0, .str [], .str [], .lst 1 [], .bool false] := by kernel_rfl
@[go_sem] theorem pt_197 (o : Nat) (cs : List AV) : partO E 197 o cs = partA 20 o cs := partO_agg ag_197 sz_197 o cs
@[go_sem] theorem zo_197 : zeroOf E 197 = .pv (.agg [.nilp, .int .i64 0, .int .i64 0, .bool false, .int .i64 0, .bool false, .bool false, .bool false, .int .i64 0, .int .i64 0, .int .i64 0, .int .i64 0, .bool false, .int .i64 0, .int .i64 0, .int .i64 0, .str [], .str [], .lst 1 [], .bool false]) := by kernel_rfl
@[go_sem] theorem fo_197_0 : fieldOf E 197 0 = some (0, 195) := by kernel_rfl
@[go_sem] theorem fo_197_1 : fieldOf E 197 1 = some (1, 3) := by kernel_rfl
@[go_sem] theorem fo_197_2 : fieldOf E 197 2 = some (2, 35) := by kernel_rfl
@[go_sem] theorem fo_197_3 : fieldOf E 197 3 = some (18, 106) := by kernel_rfl
@[go_sem] theorem fo_197_4 : fieldOf E 197 4 = some (19, 4) := by kernel_rfl
@[go_sem] theorem kd_209 : (E.ty 209).kd = (.ptr 197) := by kernel_rfl
@[go_sem] theorem ok_209 : (E.ty 209).ok = true := by kernel_rfl
@[go_sem] theorem sz_209 : (E.ty 209).size = 1 := by kernel_rfl
@[go_sem] theorem ag_209 : (E.ty 209).agg = false := by kernel_rfl
@[go_sem] theorem by_209 : (E.ty 209).bytes = 8 := by kernel_rfl
@[go_sem] theorem ze_209 : (E.ty 209).zero = [.nilp] := by kernel_rfl
@[go_sem] theorem pt_209 (o : Nat) (cs : List AV) : partO E 209 o cs = cs[o]? := partO_scal ag_209 sz_209 o cs
@[go_sem] theorem zo_209 : zeroOf E 209 = .pv (.nilp) := by kernel_rfl
@[go_sem] theorem kd_210 : (E.ty 210).kd = (.slice 1) := by kernel_rfl
@[go_sem] theorem ok_210 : (E.ty 210).ok = true := by kernel_rfl
@[go_sem] theorem sz_210 : (E.ty 210).size = 1 := by kernel_rfl
@[go_sem] theorem ag_210 : (E.ty 210).agg = false := by kernel_rfl
@[go_sem] theorem by_210 : (E.ty 210).bytes = 24 := by kernel_rfl
@[go_sem] theorem ze_210 : (E.ty 210).zero = [.lst 1 []] := by kernel_rfl
@[go_sem] theorem es_210 : E.esz 210 = 1 := by kernel_rfl
@[go_sem] theorem pt_210 (o : Nat) (cs : List AV) : partO E 210 o cs = cs[o]? := partO_scal ag_210 sz_210 o cs
@[go_sem] theorem zo_210 : zeroOf E 210 = .pv (.lst 1 []) := by kernel_rfl
@[go_sem] theorem kd_242 : (E.ty 242).kd = (.array 256 5) := by kernel_rfl
@[go_sem] theorem ok_242 : (E.ty 242).ok = true := by kernel_rfl
@[go_sem] theorem sz_242 : (E.ty 242).size = 256 := by kernel_rfl
@[go_sem] theorem ag_242 : (E.ty 242).agg = true := by kernel_rfl
@[go_sem] theorem by_242 : (E.ty 242).bytes = 256 := by kernel_rfl
@[go_sem] theorem ze_242 : (E.ty 242).zero = List.replicate 256 (.int .u8 0) := by kernel_rfl
@[go_sem] theorem pt_242 (o : Nat) (cs : List AV) : partO E 242 o cs = partA 256 o cs := partO_agg ag_242 sz_242 o cs
@[go_sem] theorem zo_242 : zeroOf E 242 = .pv (.agg (List.replicate 256 (.int .u8 0))) := by kernel_rfl
@[go_sem] theorem ia_242 (b o : Nat) (i : AV) : iadrO E 242 (.ptr b o) i = arrP b o 1 (idxO i 256) := iadr_arr kd_242 sz_5 b o i
@[go_sem] theorem kd_243 : (E.ty 243).kd = (.struct [(0, 5), (1, 5)]) := by kernel_rfl
@[go_sem] theorem ok_243 : (E.ty 243).ok = true := by kernel_rfl
@[go_sem] theorem sz_243 : (E.ty 243).size = 2 := by kernel_rfl
@[go_sem] theorem ag_243 : (E.ty 243).agg = true := by kernel_rfl
@[go_sem] theorem by_243 : (E.ty 243).bytes = 2 := by kernel_rfl
@[go_sem] theorem ze_243 : (E.ty 243).zero = [.int .u8 0, .int .u8 0] := by kernel_rfl
@[go_sem] theorem pt_243 (o : Nat) (cs : List AV) : partO E 243 o cs = partA 2 o cs := partO_agg ag_243 sz_243 o cs
@[go_sem] theorem zo_243 : zeroOf E 243 = .pv (.agg [.int .u8 0, .int .u8 0]) := by kernel_rfl
@[go_sem] theorem fo_243_0 : fieldOf E 243 0 = some (0, 5) := by kernel_rfl
@[go_sem] theorem fo_243_1 : fieldOf E 243 1 = some (1, 5) := by kernel_rfl
@[go_sem] theorem kd_244 : (E.ty 244).kd = (.struct [(0, 5), (1, 5)]) := by kernel_rfl
@[go_sem] theorem ok_244 : (E.ty 244).ok = true := by kernel_rfl
@[go_sem] theorem sz_244 : (E.ty 244).size = 2 := by kernel_rfl
@[go_sem] theorem ag_244 : (E.ty 244).agg = true := by kernel_rfl
@[go_sem] theorem by_244 : (E.ty 244).bytes = 2 := by kernel_rfl
@[go_sem] theorem ze_244 : (E.ty 244).zero = [.int .u8 0, .int .u8 0] := by kernel_rfl
@[go_sem] theorem pt_244 (o : Nat) (cs : List AV) : partO E 244 o cs = partA 2 o cs := partO_agg ag_244 sz_244 o cs
@[go_sem] theorem zo_244 : zeroOf E 244 = .pv (.agg [.int .u8 0, .int .u8 0]) := by kernel_rfl
@[go_sem] theorem fo_244_0 : fieldOf E 244 0 = some (0, 5) := by kernel_rfl
@[go_sem] theorem fo_244_1 : fieldOf E 244 1 = some (1, 5) := by kernel_rfl
@[go_sem] theorem kd_245 : (E.ty 245).kd = (.array 16 244) := by kernel_rfl
@[go_sem] theorem ok_245 : (E.ty 245).ok = true := by kernel_rfl
@[go_sem] theorem sz_245 : (E.ty 245).size = 32 := by kernel_rfl
@[go_sem] theorem ag_245 : (E.ty 245).agg = true := by kernel_rfl
@[go_sem] theorem by_245 : (E.ty 245).bytes = 32 := by kernel_rfl
@[go_sem] theorem ze_245 : (E.ty 245).zero = List.replicate 32 (.int .u8 0) := by kernel_rfl
@[go_sem] theorem pt_245 (o : Nat) (cs : List AV) : partO E 245 o cs = partA 32 o cs := partO_agg ag_245 sz_245 o cs
@[go_sem] theorem zo_245 : zeroOf E 245 = .pv (.agg (List.replicate 32 (.int .u8 0))) := by kernel_rfl
@[go_sem] theorem ia_245 (b o : Nat) (i : AV) : iadrO E 245 (.ptr b o) i = arrP b o 2 (idxO i 16) := iadr_arr kd_245 sz_244 b o i
@[go_sem] theorem kd_250 : (E.ty 250).kd = (.array 32 5) := by kernel_rfl
@[go_sem] theorem ok_250 : (E.ty 250).ok = true := by kernel_rfl
@[go_sem] theorem sz_250 : (E.ty 250).size = 32 := by kernel_rfl
@[go_sem] theorem ag_250 : (E.ty 250).agg = true := by kernel_rfl
@[go_sem] theorem by_250 : (E.ty 250).bytes = 32 := by kernel_rfl
@[go_sem] theorem ze_250 : (E.ty 250).zero = List.replicate 32 (.int .u8 0) := by kernel_rfl
@[go_sem] theorem pt_250 (o : Nat) (cs : List AV) : partO E 250 o cs = partA 32 o cs := partO_agg ag_250 sz_250 o cs
@[go_sem] theorem zo_250 : zeroOf E 250 = .pv (.agg (List.replicate 32 (.int .u8 0))) := by kernel_rfl
@[go_sem] theorem ia_250 (b o : Nat) (i : AV) : iadrO E 250 (.ptr b o) i = arrP b o 1 (idxO i 32) := iadr_arr kd_250 sz_5 b o i
@[go_sem] theorem kd_251 : (E.ty 251).kd = (.array 64 5) := by kernel_rfl
@[go_sem] theorem ok_251 : (E.ty 251).ok = true := by kernel_rfl
@[go_sem] theorem sz_251 : (E.ty 251).size = 64 := by kernel_rfl
@[go_sem] theorem ag_251 : (E.ty 251).agg = true := by kernel_rfl
@[go_sem] theorem by_251 : (E.ty 251).bytes = 64 := by kernel_rfl
@[go_sem] theorem ze_251 : (E.ty 251).zero = List.replicate 64 (.int .u8 0) := by kernel_rfl
@[go_sem] theorem pt_251 (o : Nat) (cs : List AV) : partO E 251 o cs = partA 64 o cs := partO_agg ag_251 sz_251 o cs
@[go_sem] theorem zo_251 : zeroOf E 251 = .pv (.agg (List.replicate 64 (.int .u8 0))) := by kernel_rfl
@[go_sem] theorem ia_251 (b o : Nat) (i : AV) : iadrO E 251 (.ptr b o) i = arrP b o 1 (idxO i 64) := iadr_arr kd_251 sz_5 b o i
@[go_sem] theorem kd_254 : (E.ty 254).kd = (.slice 9) := by kernel_rfl
@[go_sem] theorem ok_254 : (E.ty 254).ok = true := by kernel_rfl
@[go_sem] theorem sz_254 : (E.ty 254).size = 1 := by kernel_rfl
@[go_sem] theorem ag_254 : (E.ty 254).agg = false := by kernel_rfl
@[go_sem] theorem by_254 : (E.ty 254).bytes = 24 := by kernel_rfl
@[go_sem] theorem ze_254 : (E.ty 254).zero = [.lst 1 []] := by kernel_rfl
@[go_sem] theorem es_254 : E.esz 254 = 1 := by kernel_rfl
@[go_sem] theorem pt_254 (o : Nat) (cs : List AV) : partO E 254 o cs = cs[o]? := partO_scal ag_254 sz_254 o cs
@[go_sem] theorem zo_254 : zeroOf E 254 = .pv (.lst 1 []) := by kernel_rfl
@[go_sem] theorem kd_261 : (E.ty 261).kd = (.struct [(0, 9), (1, 3), (2, 43)]) := by kernel_rfl
@[go_sem] theorem ok_261 : (E.ty 261).ok = true := by kernel_rfl
@[go_sem] theorem sz_261 : (E.ty 261).size = 3 := by kernel_rfl
@[go_sem] theorem ag_261 : (E.ty 261).agg = true := by kernel_rfl
@[go_sem] theorem by_261 : (E.ty 261).bytes = 32 := by kernel_rfl
@[go_sem] theorem ze_261 : (E.ty 261).zero = [.str [], .int .i64 0, .int .i64 0] := by kernel_rfl
@[go_sem] theorem pt_261 (o : Nat) (cs : List AV) : partO E 261 o cs = partA 3 o cs := partO_agg ag_261 sz_261 o cs
@[go_sem] theorem zo_261 : zeroOf E 261 = .pv (.agg [.str [], .int .i64 0, .int .i64 0]) := by kernel_rfl
@[go_sem] theorem fo_261_0 : fieldOf E 261 0 = some (0, 9) := by kernel_rfl
@[go_sem] theorem fo_261_1 : fieldOf E 261 1 = some (1, 3) := by kernel_rfl
@[go_sem] theorem fo_261_2 : fieldOf E 261 2 = some (2, 43) := by kernel_rfl
@[go_sem] theorem kd_262 : (E.ty 262).kd = (.struct [(0, 9), (1, 3), (2, 43)]) := by kernel_rfl
@[go_sem] theorem ok_262 : (E.ty 262).ok = true := by kernel_rfl
@[go_sem] theorem sz_262 : (E.ty 262).size = 3 := by kernel_rfl
@[go_sem] theorem ag_262 : (E.ty 262).agg = true := by kernel_rfl
@[go_sem] theorem by_262 : (E.ty 262).bytes = 32 := by kernel_rfl
@[go_sem] theorem ze_262 : (E.ty 262).zero = [.str [], .int .i64 0, .int .i64 0] := by kernel_rfl
@[go_sem] theorem pt_262 (o : Nat) (cs : List AV) : partO E 262 o cs = partA 3 o cs := partO_agg ag_262 sz_262 o cs
@[go_sem] theorem zo_262 : zeroOf E 262 = .pv (.agg [.str [], .int .i64 0, .int .i64 0]) := by kernel_rfl
@[go_sem] theorem fo_262_0 : fieldOf E 262 0 = some (0, 9) := by kernel_rfl
@[go_sem] theorem fo_262_1 : fieldOf E 262 1 = some (1, 3) := by kernel_rfl
@[go_sem] theorem fo_262_2 : fieldOf E 262 2 = some (2, 43) := by kernel_rfl
@[go_sem] theorem kd_282 : (E.ty 282).kd = (.ptr 3) := by kernel_rfl
@[go_sem] theorem ok_282 : (E.ty 282).ok = true := by kernel_rfl
@[go_sem] theorem sz_282 : (E.ty 282).size = 1 := by kernel_rfl
@[go_sem] theorem ag_282 : (E.ty 282).agg = false := by kernel_rfl
@[go_sem] theorem by_282 : (E.ty 282).bytes = 8 := by kernel_rfl
@[go_sem] theorem ze_282 : (E.ty 282).zero = [.nilp] := by kernel_rfl
@[go_sem] theorem pt_282 (o : Nat) (cs : List AV) : partO E 282 o cs = cs[o]? := partO_scal ag_282 sz_282 o cs
@[go_sem] theorem zo_282 : zeroOf E 282 = .pv (.nilp) := by kernel_rfl
@[go_sem] theorem ial_24 (es : List AV) (k : IntKind) (i : Int) : iadrO E 24 (.lst 4 es) (.pv (.int k i)) = idxL es i := iadr_L kd_24 sz_98 es k i
@[go_sem] theorem ial_25 (es : List AV) (k : IntKind) (i : Int) : iadrO E 25 (.lst 2 es) (.pv (.int k i)) = idxL es i := iadr_L kd_25 sz_115 es k i
@[go_sem] theorem ial_28 (es : List AV) (k : IntKind) (i : Int) : iadrO E 28 (.lst 1 es) (.pv (.int k i)) = idxL es i := iadr_L kd_28 sz_3 es k i
@[go_sem] theorem ial_29 (es : List AV) (k : IntKind) (i : Int) : iadrO E 29 (.lst 5 es) (.pv (.int k i)) = idxL es i := iadr_L kd_29 sz_94 es k i
@[go_sem] theorem ial_36 (es : List AV) (k : IntKind) (i : Int) : iadrO E 36 (.lst 4 es) (.pv (.int k i)) = idxL es i := iadr_L kd_36 sz_100 es k i
@[go_sem] theorem ial_57 (es : List AV) (k : IntKind) (i : Int) : iadrO E 57 (.lst 2 es) (.pv (.int k i)) = idxL es i := iadr_L kd_57 sz_53 es k i
@[go_sem] theorem lu_62 (H : Hp) (m : AV) (k : IntKind) (n : Int) (ok : Bool) : lookO E 62 H m (.pv (.int k n)) ok = lookF ok (zeroOf E 60) (findM (mapAt H m) (.int k n)) := lookO_of kd_62 (by rw [kd_3]; rfl) (by kernel_rfl) H m ok
@[go_sem] theorem lu_102 (H : Hp) (m : AV) (k : IntKind) (n : Int) (ok : Bool) : lookO E 102 H m (.pv (.int k n)) ok = lookF ok (zeroOf E 108) (findM (mapAt H m) (.int k n)) := lookO_of kd_102 (by rw [kd_3]; rfl) (by kernel_rfl) H m ok
@[go_sem] theorem ial_106 (es : List AV) (k : IntKind) (i : Int) : iadrO E 106 (.lst 1 es) (.pv (.int k i)) = idxL es i := iadr_L kd_106 sz_5 es k i
@[go_sem] theorem ial_210 (es : List AV) (k : IntKind) (i : Int) : iadrO E 210 (.lst 1 es) (.pv (.int k i)) = idxL es i := iadr_L kd_210 sz_1 es k i
@[go_sem] theorem ial_254 (es : List AV) (k : IntKind) (i : Int) : iadrO E 254 (.lst 1 es) (.pv (.int k i)) = idxL es i := iadr_L kd_254 sz_9 es k i
@[go_sem ↓] theorem fld_98_0 (x : GProp) : fieldO E 98 (.pv x.pv) 0 = some (.pv (.int .i64 x.id)) := by kernel_rfl
@[go_sem ↓] theorem fld_97_0 (x : GProp) : fieldO E 97 (.pv x.pv) 0 = some (.pv (.int .i64 x.id)) := by kernel_rfl
@[go_sem ↓] theorem fld_98_1 (x : GProp) : fieldO E 98 (.pv x.pv) 1 = some (.pv (.int .u32 x.n)) := by kernel_rfl
@[go_sem ↓] theorem fld_97_1 (x : GProp) : fieldO E 97 (.pv x.pv) 1 = some (.pv (.int .u32 x.n)) := by kernel_rfl
@[go_sem ↓] theorem fld_98_2 (x : GProp) : fieldO E 98 (.pv x.pv) 2 = some (.pv (.str x.text)) := by kernel_rfl
@[go_sem ↓] theorem fld_97_2 (x : GProp) : fieldO E 97 (.pv x.pv) 2 = some (.pv (.str x.text)) := by kernel_rfl
@[go_sem ↓] theorem fld_98_3 (x : GProp) : fieldO E 98 (.pv x.pv) 3 = some (.pv (.str x.value)) := by kernel_rfl
@[go_sem ↓] theorem fld_97_3 (x : GProp) : fieldO E 97 (.pv x.pv) 3 = some (.pv (.str x.value)) := by kernel_rfl
@[go_sem high] theorem prt_98_0_3 (x : GProp) : partO E 3 0 x.avs = some (.pv (.int .i64 x.id)) := by kernel_rfl
@[go_sem high] theorem prt_98_1_96 (x : GProp) : partO E 96 1 x.avs = some (.pv (.int .u32 x.n)) := by kernel_rfl
@[go_sem high] theorem prd_98_1_96 (x : GProp) : partO E 96 0 (x.avs.drop 1) = some (.pv (.int .u32 x.n)) := by kernel_rfl
@[go_sem high] theorem prt_98_2_9 (x : GProp) : partO E 9 2 x.avs = some (.pv (.str x.text)) := by kernel_rfl
@[go_sem high] theorem prd_98_2_9 (x : GProp) : partO E 9 0 (x.avs.drop 2) = some (.pv (.str x.text)) := by kernel_rfl
@[go_sem high] theorem prt_98_3_9 (x : GProp) : partO E 9 3 x.avs = some (.pv (.str x.value)) := by kernel_rfl
@[go_sem high] theorem prd_98_3_9 (x : GProp) : partO E 9 0 (x.avs.drop 3) = some (.pv (.str x.value)) := by kernel_rfl
@[go_sem ↓] theorem eq_98 (x y : GProp) : binO (E.ty 98) .eql (.pv x.pv) (.pv y.pv) = some (.pv (.bool (decide (x = y)))) := by rw [GProp.pv_eq, GProp.pv_eq]; exact eq_struct kd_98 (show (E.ty 98).eqk = [.i, .i, .s, .s] by kernel_rfl) (GProp.eqs x y)
@[go_sem ↓] theorem ne_98 (x y : GProp) : binO (E.ty 98) .neq (.pv x.pv) (.pv y.pv) = some (.pv (.bool (!decide (x = y)))) := by rw [GProp.pv_eq, GProp.pv_eq]; exact ne_struct kd_98 (show (E.ty 98).eqk = [.i, .i, .s, .s] by kernel_rfl) (GProp.eqs x y)
@[go_sem ↓] theorem eq_97 (x y : GProp) : binO (E.ty 97) .eql (.pv x.pv) (.pv y.pv) = some (.pv (.bool (decide (x = y)))) := by rw [GProp.pv_eq, GProp.pv_eq]; exact eq_struct kd_97 (show (E.ty 97).eqk = [.i, .i, .s, .s] by kernel_rfl) (GProp.eqs x y)
@[go_sem ↓] theorem ne_97 (x y : GProp) : binO (E.ty 97) .neq (.pv x.pv) (.pv y.pv) = some (.pv (.bool (!decide (x = y)))) := by rw [GProp.pv_eq, GProp.pv_eq]; exact ne_struct kd_97 (show (E.ty 97).eqk = [.i, .i, .s, .s] by kernel_rfl) (GProp.eqs x y)
@[go_sem high] theorem prw_98_98 (x : GProp) : partO E 98 0 x.avs = some (.pv x.pv) := by kernel_rfl
@[go_sem high] theorem prw_98_97 (x : GProp) : partO E 97 0 x.avs = some (.pv x.pv) := by kernel_rfl
@[go_sem ↓] theorem fld_27_0 (x : GWill) : fieldO E 27 (.pv x.pv) 0 = some (.pv (.str x.topic)) := by kernel_rfl
@[go_sem ↓] theorem fld_26_0 (x : GWill) : fieldO E 26 (.pv x.pv) 0 = some (.pv (.str x.topic)) := by kernel_rfl
@[go_sem ↓] theorem fld_27_1 (x : GWill) : fieldO E 27 (.pv x.pv) 1 = some (.pv (.str x.payload)) := by kernel_rfl
@[go_sem ↓] theorem fld_26_1 (x : GWill) : fieldO E 26 (.pv x.pv) 1 = some (.pv (.str x.payload)) := by kernel_rfl
@[go_sem ↓] theorem fld_27_2 (x : GWill) : fieldO E 27 (.pv x.pv) 2 = some (.pv (.int .i64 x.qos)) := by kernel_rfl
@[go_sem ↓] theorem fld_26_2 (x : GWill) : fieldO E 26 (.pv x.pv) 2 = some (.pv (.int .i64 x.qos)) := by kernel_rfl
@[go_sem ↓] theorem fld_27_3 (x : GWill) : fieldO E 27 (.pv x.pv) 3 = some (.pv (.bool x.retain)) := by kernel_rfl
@[go_sem ↓] theorem fld_26_3 (x : GWill) : fieldO E 26 (.pv x.pv) 3 = some (.pv (.bool x.retain)) := by kernel_rfl
@[go_sem ↓] theorem fld_27_4 (x : GWill) : fieldO E 27 (.pv x.pv) 4 = some (.pv (.lst 4 (List.map GProp.pv x.props))) := by kernel_rfl
@[go_sem ↓] theorem fld_26_4 (x : GWill) : fieldO E 26 (.pv x.pv) 4 = some (.pv (.lst 4 (List.map GProp.pv x.props))) := by kernel_rfl
@[go_sem high] theorem prt_27_0_9 (x : GWill) : partO E 9 0 x.avs = some (.pv (.str x.topic)) := by kernel_rfl
@[go_sem high] theorem prt_27_1_9 (x : GWill) : partO E 9 1 x.avs = some (.pv (.str x.payload)) := by kernel_rfl
@[go_sem high] theorem prd_27_1_9 (x : GWill) : partO E 9 0 (x.avs.drop 1) = some (.pv (.str x.payload)) := by kernel_rfl
@[go_sem high] theorem prt_27_2_3 (x : GWill) : partO E 3 2 x.avs = some (.pv (.int .i64 x.qos)) := by kernel_rfl
@[go_sem high] theorem prd_27_2_3 (x : GWill) : partO E 3 0 (x.avs.drop 2) = some (.pv (.int .i64 x.qos)) := by kernel_rfl
@[go_sem high] theorem prt_27_3_4 (x : GWill) : partO E 4 3 x.avs = some (.pv (.bool x.retain)) := by kernel_rfl
@[go_sem high] theorem prd_27_3_4 (x : GWill) : partO E 4 0 (x.avs.drop 3) = some (.pv (.bool x.retain)) := by kernel_rfl
@[go_sem high] theorem prt_27_4_24 (x : GWill) : partO E 24 4 x.avs = some (.pv (.lst 4 (List.map GProp.pv x.props))) := by kernel_rfl
@[go_sem high] theorem prd_27_4_24 (x : GWill) : partO E 24 0 (x.avs.drop 4) = some (.pv (.lst 4 (List.map GProp.pv x.props))) := by kernel_rfl
@[go_sem high] theorem prw_27_27 (x : GWill) : partO E 27 0 x.avs = some (.pv x.pv) := by kernel_rfl
@[go_sem high] theorem prw_27_26 (x : GWill) : partO E 26 0 x.avs = some (.pv x.pv) := by kernel_rfl
@[go_sem ↓] theorem fld_94_0 (x : GFilter) : fieldO E 94 (.pv x.pv) 0 = some (.pv (.str x.topic)) := by kernel_rfl
@[go_sem ↓] theorem fld_93_0 (x : GFilter) : fieldO E 93 (.pv x.pv) 0 = some (.pv (.str x.topic)) := by kernel_rfl
@[go_sem ↓] theorem fld_94_1 (x : GFilter) : fieldO E 94 (.pv x.pv) 1 = some (.pv (.int .i64 x.qos)) := by kernel_rfl
@[go_sem ↓] theorem fld_93_1 (x : GFilter) : fieldO E 93 (.pv x.pv) 1 = some (.pv (.int .i64 x.qos)) := by kernel_rfl
@[go_sem ↓] theorem fld_94_2 (x : GFilter) : fieldO E 94 (.pv x.pv) 2 = some (.pv (.bool x.nolocal)) := by kernel_rfl
@[go_sem ↓] theorem fld_93_2 (x : GFilter) : fieldO E 93 (.pv x.pv) 2 = some (.pv (.bool x.nolocal)) := by kernel_rfl
@[go_sem ↓] theorem fld_94_3 (x : GFilter) : fieldO E 94 (.pv x.pv) 3 = some (.pv (.bool x.aspublished)) := by kernel_rfl
@[go_sem ↓] theorem fld_93_3 (x : GFilter) : fieldO E 93 (.pv x.pv) 3 = some (.pv (.bool x.aspublished)) := by kernel_rfl
@[go_sem ↓] theorem fld_94_4 (x : GFilter) : fieldO E 94 (.pv x.pv) 4 = some (.pv (.int .i64 x.handling)) := by kernel_rfl
@[go_sem ↓] theorem fld_93_4 (x : GFilter) : fieldO E 93 (.pv x.pv) 4 = some (.pv (.int .i64 x.handling)) := by kernel_rfl
@[go_sem high] theorem prt_94_0_9 (x : GFilter) : partO E 9 0 x.avs = some (.pv (.str x.topic)) := by kernel_rfl
@[go_sem high] theorem prt_94_1_3 (x : GFilter) : partO E 3 1 x.avs = some (.pv (.int .i64 x.qos)) := by kernel_rfl
@[go_sem high] theorem prd_94_1_3 (x : GFilter) : partO E 3 0 (x.avs.drop 1) = some (.pv (.int .i64 x.qos)) := by kernel_rfl
@[go_sem high] theorem prt_94_2_4 (x : GFilter) : partO E 4 2 x.avs = some (.pv (.bool x.nolocal)) := by kernel_rfl
@[go_sem high] theorem prd_94_2_4 (x : GFilter) : partO E 4 0 (x.avs.drop 2) = some (.pv (.bool x.nolocal)) := by kernel_rfl
@[go_sem high] theorem prt_94_3_4 (x : GFilter) : partO E 4 3 x.avs = some (.pv (.bool x.aspublished)) := by kernel_rfl
@[go_sem high] theorem prd_94_3_4 (x : GFilter) : partO E 4 0 (x.avs.drop 3) = some (.pv (.bool x.aspublished)) := by kernel_rfl
@[go_sem high] theorem prt_94_4_3 (x : GFilter) : partO E 3 4 x.avs = some (.pv (.int .i64 x.handling)) := by kernel_rfl
@[go_sem high] theorem prd_94_4_3 (x : GFilter) : partO E 3 0 (x.avs.drop 4) = some (.pv (.int .i64 x.handling)) := by kernel_rfl
@[go_sem ↓] theorem eq_94 (x y : GFilter) : binO (E.ty 94) .eql (.pv x.pv) (.pv y.pv) = some (.pv (.bool (decide (x = y)))) := by rw [GFilter.pv_eq, GFilter.pv_eq]; exact eq_struct kd_94 (show (E.ty 94).eqk = [.s, .i, .b, .b, .i] by kernel_rfl) (GFilter.eqs x y)
@[go_sem ↓] theorem ne_94 (x y : GFilter) : binO (E.ty 94) .neq (.pv x.pv) (.pv y.pv) = some (.pv (.bool (!decide (x = y)))) := by rw [GFilter.pv_eq, GFilter.pv_eq]; exact ne_struct kd_94 (show (E.ty 94).eqk = [.s, .i, .b, .b, .i] by kernel_rfl) (GFilter.eqs x y)
@[go_sem ↓] theorem eq_93 (x y : GFilter) : binO (E.ty 93) .eql (.pv x.pv) (.pv y.pv) = some (.pv (.bool (decide (x = y)))) := by rw [GFilter.pv_eq, GFilter.pv_eq]; exact eq_struct kd_93 (show (E.ty 93).eqk = [.s, .i, .b, .b, .i] by kernel_rfl) (GFilter.eqs x y)
@[go_sem ↓] theorem ne_93 (x y : GFilter) : binO (E.ty 93) .neq (.pv x.pv) (.pv y.pv) = some (.pv (.bool (!decide (x = y)))) := by rw [GFilter.pv_eq, GFilter.pv_eq]; exact ne_struct kd_93 (show (E.ty 93).eqk = [.s, .i, .b, .b, .i] by kernel_rfl) (GFilter.eqs x y)
@[go_sem high] theorem prw_94_94 (x : GFilter) : partO E 94 0 x.avs = some (.pv x.pv) := by kernel_rfl
@[go_sem high] theorem prw_94_93 (x : GFilter) : partO E 93 0 x.avs = some (.pv x.pv) := by kernel_rfl
@[go_sem ↓] theorem fld_31_0 (x : GPacket) : fieldO E 31 (.pv x.pv) 0 = some (.pv (.int .i64 x.kind)) := by kernel_rfl
@[go_sem ↓] theorem fld_30_0 (x : GPacket) : fieldO E 30 (.pv x.pv) 0 = some (.pv (.int .i64 x.kind)) := by kernel_rfl
@[go_sem ↓] theorem fld_31_1 (x : GPacket) : fieldO E 31 (.pv x.pv) 1 = some (.pv (.bool x.dup)) := by kernel_rfl
@[go_sem ↓] theorem fld_30_1 (x : GPacket) : fieldO E 30 (.pv x.pv) 1 = some (.pv (.bool x.dup)) := by kernel_rfl
@[go_sem ↓] theorem fld_31_2 (x : GPacket) : fieldO E 31 (.pv x.pv) 2 = some (.pv (.bool x.retain)) := by kernel_rfl
@[go_sem ↓] theorem fld_30_2 (x : GPacket) : fieldO E 30 (.pv x.pv) 2 = some (.pv (.bool x.retain)) := by kernel_rfl
@[go_sem ↓] theorem fld_31_3 (x : GPacket) : fieldO E 31 (.pv x.pv) 3 = some (.pv (.int .i64 x.qos)) := by kernel_rfl
@[go_sem ↓] theorem fld_30_3 (x : GPacket) : fieldO E 30 (.pv x.pv) 3 = some (.pv (.int .i64 x.qos)) := by kernel_rfl
@[go_sem ↓] theorem fld_31_4 (x : GPacket) : fieldO E 31 (.pv x.pv) 4 = some (.pv (.int .i64 x.id)) := by kernel_rfl
@[go_sem ↓] theorem fld_30_4 (x : GPacket) : fieldO E 30 (.pv x.pv) 4 = some (.pv (.int .i64 x.id)) := by kernel_rfl
@[go_sem ↓] theorem fld_31_5 (x : GPacket) : fieldO E 31 (.pv x.pv) 5 = some (.pv (.str x.topic)) := by kernel_rfl
@[go_sem ↓] theorem fld_30_5 (x : GPacket) : fieldO E 30 (.pv x.pv) 5 = some (.pv (.str x.topic)) := by kernel_rfl
@[go_sem ↓] theorem fld_31_6 (x : GPacket) : fieldO E 31 (.pv x.pv) 6 = some (.pv (.str x.payload)) := by kernel_rfl
@[go_sem ↓] theorem fld_30_6 (x : GPacket) : fieldO E 30 (.pv x.pv) 6 = some (.pv (.str x.payload)) := by kernel_rfl
@[go_sem ↓] theorem fld_31_7 (x : GPacket) : fieldO E 31 (.pv x.pv) 7 = some (.pv (.bool x.clean)) := by kernel_rfl
@[go_sem ↓] theorem fld_30_7 (x : GPacket) : fieldO E 30 (.pv x.pv) 7 = some (.pv (.bool x.clean)) := by kernel_rfl
@[go_sem ↓] theorem fld_31_8 (x : GPacket) : fieldO E 31 (.pv x.pv) 8 = some (.pv (.int .i64 x.keepalive)) := by kernel_rfl
@[go_sem ↓] theorem fld_30_8 (x : GPacket) : fieldO E 30 (.pv x.pv) 8 = some (.pv (.int .i64 x.keepalive)) := by kernel_rfl
@[go_sem ↓] theorem fld_31_9 (x : GPacket) : fieldO E 31 (.pv x.pv) 9 = some (.pv (.str x.client)) := by kernel_rfl
@[go_sem ↓] theorem fld_30_9 (x : GPacket) : fieldO E 30 (.pv x.pv) 9 = some (.pv (.str x.client)) := by kernel_rfl
@[go_sem ↓] theorem fld_31_10 (x : GPacket) : fieldO E 31 (.pv x.pv) 10 = some (.pv (.bool x.hasuser)) := by kernel_rfl
@[go_sem ↓] theorem fld_30_10 (x : GPacket) : fieldO E 30 (.pv x.pv) 10 = some (.pv (.bool x.hasuser)) := by kernel_rfl
@[go_sem ↓] theorem fld_31_11 (x : GPacket) : fieldO E 31 (.pv x.pv) 11 = some (.pv (.str x.user)) := by kernel_rfl
@[go_sem ↓] theorem fld_30_11 (x : GPacket) : fieldO E 30 (.pv x.pv) 11 = some (.pv (.str x.user)) := by kernel_rfl
@[go_sem ↓] theorem fld_31_12 (x : GPacket) : fieldO E 31 (.pv x.pv) 12 = some (.pv (.bool x.haspass)) := by kernel_rfl
@[go_sem ↓] theorem fld_30_12 (x : GPacket) : fieldO E 30 (.pv x.pv) 12 = some (.pv (.bool x.haspass)) := by kernel_rfl
@[go_sem ↓] theorem fld_31_13 (x : GPacket) : fieldO E 31 (.pv x.pv) 13 = some (.pv (.str x.pass)) := by kernel_rfl
@[go_sem ↓] theorem fld_30_13 (x : GPacket) : fieldO E 30 (.pv x.pv) 13 = some (.pv (.str x.pass)) := by kernel_rfl
@[go_sem ↓] theorem fld_31_14 (x : GPacket) : fieldO E 31 (.pv x.pv) 14 = some (.pv (.bool x.haswill)) := by kernel_rfl
@[go_sem ↓] theorem fld_30_14 (x : GPacket) : fieldO E 30 (.pv x.pv) 14 = some (.pv (.bool x.haswill)) := by kernel_rfl
@[go_sem ↓] theorem fld_31_15 (x : GPacket) : fieldO E 31 (.pv x.pv) 15 = some (.pv (x.will.pv)) := by kernel_rfl
@[go_sem ↓] theorem fld_30_15 (x : GPacket) : fieldO E 30 (.pv x.pv) 15 = some (.pv (x.will.pv)) := by kernel_rfl
@[go_sem ↓] theorem fld_31_16 (x : GPacket) : fieldO E 31 (.pv x.pv) 16 = some (.pv (.bool x.session)) := by kernel_rfl
@[go_sem ↓] theorem fld_30_16 (x : GPacket) : fieldO E 30 (.pv x.pv) 16 = some (.pv (.bool x.session)) := by kernel_rfl
@[go_sem ↓] theorem fld_31_17 (x : GPacket) : fieldO E 31 (.pv x.pv) 17 = some (.pv (.int .i64 x.code)) := by kernel_rfl
@[go_sem ↓] theorem fld_30_17 (x : GPacket) : fieldO E 30 (.pv x.pv) 17 = some (.pv (.int .i64 x.code)) := by kernel_rfl
@[go_sem ↓] theorem fld_31_18 (x : GPacket) : fieldO E 31 (.pv x.pv) 18 = some (.pv (.lst 1 (List.map (fun z => PV.int .i64 z) x.codes))) := by kernel_rfl
@[go_sem ↓] theorem fld_30_18 (x : GPacket) : fieldO E 30 (.pv x.pv) 18 = some (.pv (.lst 1 (List.map (fun z => PV.int .i64 z) x.codes))) := by kernel_rfl
@[go_sem ↓] theorem fld_31_19 (x : GPacket) : fieldO E 31 (.pv x.pv) 19 = some (.pv (.lst 5 (List.map GFilter.pv x.filters))) := by kernel_rfl
@[go_sem ↓] theorem fld_30_19 (x : GPacket) : fieldO E 30 (.pv x.pv) 19 = some (.pv (.lst 5 (List.map GFilter.pv x.filters))) := by kernel_rfl
@[go_sem ↓] theorem fld_31_20 (x : GPacket) : fieldO E 31 (.pv x.pv) 20 = some (.pv (.lst 4 (List.map GProp.pv x.props))) := by kernel_rfl
@[go_sem ↓] theorem fld_30_20 (x : GPacket) : fieldO E 30 (.pv x.pv) 20 = some (.pv (.lst 4 (List.map GProp.pv x.props))) := by kernel_rfl
@[go_sem high] theorem prt_31_0_3 (x : GPacket) : partO E 3 0 x.avs = some (.pv (.int .i64 x.kind)) := by kernel_rfl
@[go_sem high] theorem prt_31_1_4 (x : GPacket) : partO E 4 1 x.avs = some (.pv (.bool x.dup)) := by kernel_rfl
@[go_sem high] theorem prd_31_1_4 (x : GPacket) : partO E 4 0 (x.avs.drop 1) = some (.pv (.bool x.dup)) := by kernel_rfl
@[go_sem high] theorem prt_31_2_4 (x : GPacket) : partO E 4 2 x.avs = some (.pv (.bool x.retain)) := by kernel_rfl
@[go_sem high] theorem prd_31_2_4 (x : GPacket) : partO E 4 0 (x.avs.drop 2) = some (.pv (.bool x.retain)) := by kernel_rfl
@[go_sem high] theorem prt_31_3_3 (x : GPacket) : partO E 3 3 x.avs = some (.pv (.int .i64 x.qos)) := by kernel_rfl
@[go_sem high] theorem prd_31_3_3 (x : GPacket) : partO E 3 0 (x.avs.drop 3) = some (.pv (.int .i64 x.qos)) := by kernel_rfl
@[go_sem high] theorem prt_31_4_3 (x : GPacket) : partO E 3 4 x.avs = some (.pv (.int .i64 x.id)) := by kernel_rfl
@[go_sem high] theorem prd_31_4_3 (x : GPacket) : partO E 3 0 (x.avs.drop 4) = some (.pv (.int .i64 x.id)) := by kernel_rfl
@[go_sem high] theorem prt_31_5_9 (x : GPacket) : partO E 9 5 x.avs = some (.pv (.str x.topic)) := by kernel_rfl
@[go_sem high] theorem prd_31_5_9 (x : GPacket) : partO E 9 0 (x.avs.drop 5) = some (.pv (.str x.topic)) := by kernel_rfl
@[go_sem high] theorem prt_31_6_9 (x : GPacket) : partO E 9 6 x.avs = some (.pv (.str x.payload)) := by kernel_rfl
@[go_sem high] theorem prd_31_6_9 (x : GPacket) : partO E 9 0 (x.avs.drop 6) = some (.pv (.str x.payload)) := by kernel_rfl
@[go_sem high] theorem prt_31_7_4 (x : GPacket) : partO E 4 7 x.avs = some (.pv (.bool x.clean)) := by kernel_rfl
@[go_sem high] theorem prd_31_7_4 (x : GPacket) : partO E 4 0 (x.avs.drop 7) = some (.pv (.bool x.clean)) := by kernel_rfl
@[go_sem high] theorem prt_31_8_3 (x : GPacket) : partO E 3 8 x.avs = some (.pv (.int .i64 x.keepalive)) := by kernel_rfl
@[go_sem high] theorem prd_31_8_3 (x : GPacket) : partO E 3 0 (x.avs.drop 8) = some (.pv (.int .i64 x.keepalive)) := by kernel_rfl
@[go_sem high] theorem prt_31_9_9 (x : GPacket) : partO E 9 9 x.avs = some (.pv (.str x.client)) := by kernel_rfl
@[go_sem high] theorem prd_31_9_9 (x : GPacket) : partO E 9 0 (x.avs.drop 9) = some (.pv (.str x.client)) := by kernel_rfl
@[go_sem high] theorem prt_31_10_4 (x : GPacket) : partO E 4 10 x.avs = some (.pv (.bool x.hasuser)) := by kernel_rfl
@[go_sem high] theorem prd_31_10_4 (x : GPacket) : partO E 4 0 (x.avs.drop 10) = some (.pv (.bool x.hasuser)) := by kernel_rfl
@[go_sem high] theorem prt_31_11_9 (x : GPacket) : partO E 9 11 x.avs = some (.pv (.str x.user)) := by kernel_rfl
@[go_sem high] theorem prd_31_11_9 (x : GPacket) : partO E 9 0 (x.avs.drop 11) = some (.pv (.str x.user)) := by kernel_rfl
@[go_sem high] theorem prt_31_12_4 (x : GPacket) : partO E 4 12 x.avs = some (.pv (.bool x.haspass)) := by kernel_rfl
@[go_sem high] theorem prd_31_12_4 (x : GPacket) : partO E 4 0 (x.avs.drop 12) = some (.pv (.bool x.haspass)) := by kernel_rfl
@[go_sem high] theorem prt_31_13_9 (x : GPacket) : partO E 9 13 x.avs = some (.pv (.str x.pass)) := by kernel_rfl
@[go_sem high] theorem prd_31_13_9 (x : GPacket) : partO E 9 0 (x.avs.drop 13) = some (.pv (.str x.pass)) := by kernel_rfl
@[go_sem high] theorem prt_31_14_4 (x : GPacket) : partO E 4 14 x.avs = some (.pv (.bool x.haswill)) := by kernel_rfl
@[go_sem high] theorem prd_31_14_4 (x : GPacket) : partO E 4 0 (x.avs.drop 14) = some (.pv (.bool x.haswill)) := by kernel_rfl
@[go_sem high] theorem prt_31_15_27 (x : GPacket) : partO E 27 15 x.avs = some (.pv (x.will.pv)) := by kernel_rfl
@[go_sem high] theorem prd_31_15_27 (x : GPacket) : partO E 27 0 (x.avs.drop 15) = some (.pv (x.will.pv)) := by kernel_rfl
@[go_sem high] theorem prt_31_15_9 (x : GPacket) : partO E 9 15 x.avs = some (.pv (.str x.will.topic)) := by kernel_rfl
@[go_sem high] theorem prd_31_15_9 (x : GPacket) : partO E 9 0 (x.avs.drop 15) = some (.pv (.str x.will.topic)) := by kernel_rfl
@[go_sem high] theorem prt_31_16_9 (x : GPacket) : partO E 9 16 x.avs = some (.pv (.str x.will.payload)) := by kernel_rfl
@[go_sem high] theorem prd_31_16_9 (x : GPacket) : partO E 9 0 (x.avs.drop 16) = some (.pv (.str x.will.payload)) := by kernel_rfl
@[go_sem high] theorem prt_31_17_3 (x : GPacket) : partO E 3 17 x.avs = some (.pv (.int .i64 x.will.qos)) := by kernel_rfl
@[go_sem high] theorem prd_31_17_3 (x : GPacket) : partO E 3 0 (x.avs.drop 17) = some (.pv (.int .i64 x.will.qos)) := by kernel_rfl
@[go_sem high] theorem prt_31_18_4 (x : GPacket) : partO E 4 18 x.avs = some (.pv (.bool x.will.retain)) := by kernel_rfl
@[go_sem high] theorem prd_31_18_4 (x : GPacket) : partO E 4 0 (x.avs.drop 18) = some (.pv (.bool x.will.retain)) := by kernel_rfl
@[go_sem high] theorem prt_31_19_24 (x : GPacket) : partO E 24 19 x.avs = some (.pv (.lst 4 (List.map GProp.pv x.will.props))) := by kernel_rfl
@[go_sem high] theorem prd_31_19_24 (x : GPacket) : partO E 24 0 (x.avs.drop 19) = some (.pv (.lst 4 (List.map GProp.pv x.will.props))) := by kernel_rfl
@[go_sem high] theorem prt_31_20_4 (x : GPacket) : partO E 4 20 x.avs = some (.pv (.bool x.session)) := by kernel_rfl
@[go_sem high] theorem prd_31_20_4 (x : GPacket) : partO E 4 0 (x.avs.drop 20) = some (.pv (.bool x.session)) := by kernel_rfl
@[go_sem high] theorem prt_31_21_3 (x : GPacket) : partO E 3 21 x.avs = some (.pv (.int .i64 x.code)) := by kernel_rfl
@[go_sem high] theorem prd_31_21_3 (x : GPacket) : partO E 3 0 (x.avs.drop 21) = some (.pv (.int .i64 x.code)) := by kernel_rfl
@[go_sem high] theorem prt_31_22_28 (x : GPacket) : partO E 28 22 x.avs = some (.pv (.lst 1 (List.map (fun z => PV.int .i64 z) x.codes))) := by kernel_rfl
@[go_sem high] theorem prd_31_22_28 (x : GPacket) : partO E 28 0 (x.avs.drop 22) = some (.pv (.lst 1 (List.map (fun z => PV.int .i64 z) x.codes))) := by kernel_rfl
@[go_sem high] theorem prt_31_23_29 (x : GPacket) : partO E 29 23 x.avs = some (.pv (.lst 5 (List.map GFilter.pv x.filters))) := by kernel_rfl
@[go_sem high] theorem prd_31_23_29 (x : GPacket) : partO E 29 0 (x.avs.drop 23) = some (.pv (.lst 5 (List.map GFilter.pv x.filters))) := by kernel_rfl
@[go_sem high] theorem prt_31_24_24 (x : GPacket) : partO E 24 24 x.avs = some (.pv (.lst 4 (List.map GProp.pv x.props))) := by kernel_rfl
@[go_sem high] theorem prd_31_24_24 (x : GPacket) : partO E 24 0 (x.avs.drop 24) = some (.pv (.lst 4 (List.map GProp.pv x.props))) := by kernel_rfl
@[go_sem high] theorem prw_31_31 (x : GPacket) : partO E 31 0 x.avs = some (.pv x.pv) := by kernel_rfl
@[go_sem high] theorem prw_31_30 (x : GPacket) : partO E 30 0 x.avs = some (.pv x.pv) := by kernel_rfl
@[go_sem ↓] theorem fld_33_0 (x : GFlags) : fieldO E 33 (.pv x.pv) 0 = some (.pv (.bool x.dup)) := by kernel_rfl
@[go_sem ↓] theorem fld_32_0 (x : GFlags) : fieldO E 32 (.pv x.pv) 0 = some (.pv (.bool x.dup)) := by kernel_rfl
@[go_sem ↓] theorem fld_33_1 (x : GFlags) : fieldO E 33 (.pv x.pv) 1 = some (.pv (.int .i64 x.qos)) := by kernel_rfl
@[go_sem ↓] theorem fld_32_1 (x : GFlags) : fieldO E 32 (.pv x.pv) 1 = some (.pv (.int .i64 x.qos)) := by kernel_rfl
@[go_sem ↓] theorem fld_33_2 (x : GFlags) : fieldO E 33 (.pv x.pv) 2 = some (.pv (.bool x.retain)) := by kernel_rfl
@[go_sem ↓] theorem fld_32_2 (x : GFlags) : fieldO E 32 (.pv x.pv) 2 = some (.pv (.bool x.retain)) := by kernel_rfl
@[go_sem ↓] theorem fld_33_3 (x : GFlags) : fieldO E 33 (.pv x.pv) 3 = some (.pv (.bool x.will)) := by kernel_rfl
@[go_sem ↓] theorem fld_32_3 (x : GFlags) : fieldO E 32 (.pv x.pv) 3 = some (.pv (.bool x.will)) := by kernel_rfl
@[go_sem ↓] theorem fld_33_4 (x : GFlags) : fieldO E 33 (.pv x.pv) 4 = some (.pv (.bool x.clean)) := by kernel_rfl
@[go_sem ↓] theorem fld_32_4 (x : GFlags) : fieldO E 32 (.pv x.pv) 4 = some (.pv (.bool x.clean)) := by kernel_rfl
@[go_sem ↓] theorem fld_33_5 (x : GFlags) : fieldO E 33 (.pv x.pv) 5 = some (.pv (.int .i64 x.ty)) := by kernel_rfl
@[go_sem ↓] theorem fld_32_5 (x : GFlags) : fieldO E 32 (.pv x.pv) 5 = some (.pv (.int .i64 x.ty)) := by kernel_rfl
@[go_sem high] theorem prt_33_0_4 (x : GFlags) : partO E 4 0 x.avs = some (.pv (.bool x.dup)) := by kernel_rfl
@[go_sem high] theorem prt_33_1_3 (x : GFlags) : partO E 3 1 x.avs = some (.pv (.int .i64 x.qos)) := by kernel_rfl
@[go_sem high] theorem prd_33_1_3 (x : GFlags) : partO E 3 0 (x.avs.drop 1) = some (.pv (.int .i64 x.qos)) := by kernel_rfl
@[go_sem high] theorem prt_33_2_4 (x : GFlags) : partO E 4 2 x.avs = some (.pv (.bool x.retain)) := by kernel_rfl
@[go_sem high] theorem prd_33_2_4 (x : GFlags) : partO E 4 0 (x.avs.drop 2) = some (.pv (.bool x.retain)) := by kernel_rfl
@[go_sem high] theorem prt_33_3_4 (x : GFlags) : partO E 4 3 x.avs = some (.pv (.bool x.will)) := by kernel_rfl
@[go_sem high] theorem prd_33_3_4 (x : GFlags) : partO E 4 0 (x.avs.drop 3) = some (.pv (.bool x.will)) := by kernel_rfl
@[go_sem high] theorem prt_33_4_4 (x : GFlags) : partO E 4 4 x.avs = some (.pv (.bool x.clean)) := by kernel_rfl
@[go_sem high] theorem prd_33_4_4 (x : GFlags) : partO E 4 0 (x.avs.drop 4) = some (.pv (.bool x.clean)) := by kernel_rfl
@[go_sem high] theorem prt_33_5_3 (x : GFlags) : partO E 3 5 x.avs = some (.pv (.int .i64 x.ty)) := by kernel_rfl
@[go_sem high] theorem prd_33_5_3 (x : GFlags) : partO E 3 0 (x.avs.drop 5) = some (.pv (.int .i64 x.ty)) := by kernel_rfl
@[go_sem ↓] theorem eq_33 (x y : GFlags) : binO (E.ty 33) .eql (.pv x.pv) (.pv y.pv) = some (.pv (.bool (decide (x = y)))) := by rw [GFlags.pv_eq, GFlags.pv_eq]; exact eq_struct kd_33 (show (E.ty 33).eqk = [.b, .i, .b, .b, .b, .i] by kernel_rfl) (GFlags.eqs x y)
@[go_sem ↓] theorem ne_33 (x y : GFlags) : binO (E.ty 33) .neq (.pv x.pv) (.pv y.pv) = some (.pv (.bool (!decide (x = y)))) := by rw [GFlags.pv_eq, GFlags.pv_eq]; exact ne_struct kd_33 (show (E.ty 33).eqk = [.b, .i, .b, .b, .b, .i] by kernel_rfl) (GFlags.eqs x y)
@[go_sem ↓] theorem eq_32 (x y : GFlags) : binO (E.ty 32) .eql (.pv x.pv) (.pv y.pv) = some (.pv (.bool (decide (x = y)))) := by rw [GFlags.pv_eq, GFlags.pv_eq]; exact eq_struct kd_32 (show (E.ty 32).eqk = [.b, .i, .b, .b, .b, .i] by kernel_rfl) (GFlags.eqs x y)
@[go_sem ↓] theorem ne_32 (x y : GFlags) : binO (E.ty 32) .neq (.pv x.pv) (.pv y.pv) = some (.pv (.bool (!decide (x = y)))) := by rw [GFlags.pv_eq, GFlags.pv_eq]; exact ne_struct kd_32 (show (E.ty 32).eqk = [.b, .i, .b, .b, .b, .i] by kernel_rfl) (GFlags.eqs x y)
@[go_sem high] theorem prw_33_33 (x : GFlags) : partO E 33 0 x.avs = some (.pv x.pv) := by kernel_rfl
@[go_sem high] theorem prw_33_32 (x : GFlags) : partO E 32 0 x.avs = some (.pv x.pv) := by kernel_rfl
@[go_sem ↓] theorem fld_35_0 (x : GMsg) : fieldO E 35 (.pv x.pv) 0 = some (.pv (.int .i64 x.ty)) := by kernel_rfl
@[go_sem ↓] theorem fld_34_0 (x : GMsg) : fieldO E 34 (.pv x.pv) 0 = some (.pv (.int .i64 x.ty)) := by kernel_rfl
@[go_sem ↓] theorem fld_35_1 (x : GMsg) : fieldO E 35 (.pv x.pv) 1 = some (.pv (x.flags.pv)) := by kernel_rfl
@[go_sem ↓] theorem fld_34_1 (x : GMsg) : fieldO E 34 (.pv x.pv) 1 = some (.pv (x.flags.pv)) := by kernel_rfl
@[go_sem ↓] theorem fld_35_2 (x : GMsg) : fieldO E 35 (.pv x.pv) 2 = some (.pv (.int .i64 x.gateway)) := by kernel_rfl
@[go_sem ↓] theorem fld_34_2 (x : GMsg) : fieldO E 34 (.pv x.pv) 2 = some (.pv (.int .i64 x.gateway)) := by kernel_rfl
@[go_sem ↓] theorem fld_35_3 (x : GMsg) : fieldO E 35 (.pv x.pv) 3 = some (.pv (.int .i64 x.radius)) := by kernel_rfl
@[go_sem ↓] theorem fld_34_3 (x : GMsg) : fieldO E 34 (.pv x.pv) 3 = some (.pv (.int .i64 x.radius)) := by kernel_rfl
@[go_sem ↓] theorem fld_35_4 (x : GMsg) : fieldO E 35 (.pv x.pv) 4 = some (.pv (.int .i64 x.time)) := by kernel_rfl
@[go_sem ↓] theorem fld_34_4 (x : GMsg) : fieldO E 34 (.pv x.pv) 4 = some (.pv (.int .i64 x.time)) := by kernel_rfl
@[go_sem ↓] theorem fld_35_5 (x : GMsg) : fieldO E 35 (.pv x.pv) 5 = some (.pv (.bool x.timed)) := by kernel_rfl
@[go_sem ↓] theorem fld_34_5 (x : GMsg) : fieldO E 34 (.pv x.pv) 5 = some (.pv (.bool x.timed)) := by kernel_rfl
@[go_sem ↓] theorem fld_35_6 (x : GMsg) : fieldO E 35 (.pv x.pv) 6 = some (.pv (.int .i64 x.topicid)) := by kernel_rfl
@[go_sem ↓] theorem fld_34_6 (x : GMsg) : fieldO E 34 (.pv x.pv) 6 = some (.pv (.int .i64 x.topicid)) := by kernel_rfl
@[go_sem ↓] theorem fld_35_7 (x : GMsg) : fieldO E 35 (.pv x.pv) 7 = some (.pv (.int .i64 x.msgid)) := by kernel_rfl
@[go_sem ↓] theorem fld_34_7 (x : GMsg) : fieldO E 34 (.pv x.pv) 7 = some (.pv (.int .i64 x.msgid)) := by kernel_rfl
@[go_sem ↓] theorem fld_35_8 (x : GMsg) : fieldO E 35 (.pv x.pv) 8 = some (.pv (.int .i64 x.code)) := by kernel_rfl
@[go_sem ↓] theorem fld_34_8 (x : GMsg) : fieldO E 34 (.pv x.pv) 8 = some (.pv (.int .i64 x.code)) := by kernel_rfl
@[go_sem ↓] theorem fld_35_9 (x : GMsg) : fieldO E 35 (.pv x.pv) 9 = some (.pv (.str x.name)) := by kernel_rfl
@[go_sem ↓] theorem fld_34_9 (x : GMsg) : fieldO E 34 (.pv x.pv) 9 = some (.pv (.str x.name)) := by kernel_rfl
@[go_sem ↓] theorem fld_35_10 (x : GMsg) : fieldO E 35 (.pv x.pv) 10 = some (.pv (.str x.data)) := by kernel_rfl
@[go_sem ↓] theorem fld_34_10 (x : GMsg) : fieldO E 34 (.pv x.pv) 10 = some (.pv (.str x.data)) := by kernel_rfl
@[go_sem high] theorem prt_35_0_3 (x : GMsg) : partO E 3 0 x.avs = some (.pv (.int .i64 x.ty)) := by kernel_rfl
@[go_sem high] theorem prt_35_1_33 (x : GMsg) : partO E 33 1 x.avs = some (.pv (x.flags.pv)) := by kernel_rfl
@[go_sem high] theorem prd_35_1_33 (x : GMsg) : partO E 33 0 (x.avs.drop 1) = some (.pv (x.flags.pv)) := by kernel_rfl
@[go_sem high] theorem prt_35_1_4 (x : GMsg) : partO E 4 1 x.avs = some (.pv (.bool x.flags.dup)) := by kernel_rfl
@[go_sem high] theorem prd_35_1_4 (x : GMsg) : partO E 4 0 (x.avs.drop 1) = some (.pv (.bool x.flags.dup)) := by kernel_rfl
@[go_sem high] theorem prt_35_2_3 (x : GMsg) : partO E 3 2 x.avs = some (.pv (.int .i64 x.flags.qos)) := by kernel_rfl
@[go_sem high] theorem prd_35_2_3 (x : GMsg) : partO E 3 0 (x.avs.drop 2) = some (.pv (.int .i64 x.flags.qos)) := by kernel_rfl
@[go_sem high] theorem prt_35_3_4 (x : GMsg) : partO E 4 3 x.avs = some (.pv (.bool x.flags.retain)) := by kernel_rfl
@[go_sem high] theorem prd_35_3_4 (x : GMsg) : partO E 4 0 (x.avs.drop 3) = some (.pv (.bool x.flags.retain)) := by kernel_rfl
@[go_sem high] theorem prt_35_4_4 (x : GMsg) : partO E 4 4 x.avs = some (.pv (.bool x.flags.will)) := by kernel_rfl
@[go_sem high] theorem prd_35_4_4 (x : GMsg) : partO E 4 0 (x.avs.drop 4) = some (.pv (.bool x.flags.will)) := by kernel_rfl
@[go_sem high] theorem prt_35_5_4 (x : GMsg) : partO E 4 5 x.avs = some (.pv (.bool x.flags.clean)) := by kernel_rfl
@[go_sem high] theorem prd_35_5_4 (x : GMsg) : partO E 4 0 (x.avs.drop 5) = some (.pv (.bool x.flags.clean)) := by kernel_rfl
@[go_sem high] theorem prt_35_6_3 (x : GMsg) : partO E 3 6 x.avs = some (.pv (.int .i64 x.flags.ty)) := by kernel_rfl
@[go_sem high] theorem prd_35_6_3 (x : GMsg) : partO E 3 0 (x.avs.drop 6) = some (.pv (.int .i64 x.flags.ty)) := by kernel_rfl
@[go_sem high] theorem prt_35_7_3 (x : GMsg) : partO E 3 7 x.avs = some (.pv (.int .i64 x.gateway)) := by kernel_rfl
@[go_sem high] theorem prd_35_7_3 (x : GMsg) : partO E 3 0 (x.avs.drop 7) = some (.pv (.int .i64 x.gateway)) := by kernel_rfl
@[go_sem high] theorem prt_35_8_3 (x : GMsg) : partO E 3 8 x.avs = some (.pv (.int .i64 x.radius)) := by kernel_rfl
@[go_sem high] theorem prd_35_8_3 (x : GMsg) : partO E 3 0 (x.avs.drop 8) = some (.pv (.int .i64 x.radius)) := by kernel_rfl
@[go_sem high] theorem prt_35_9_3 (x : GMsg) : partO E 3 9 x.avs = some (.pv (.int .i64 x.time)) := by kernel_rfl
@[go_sem high] theorem prd_35_9_3 (x : GMsg) : partO E 3 0 (x.avs.drop 9) = some (.pv (.int .i64 x.time)) := by kernel_rfl
@[go_sem high] theorem prt_35_10_4 (x : GMsg) : partO E 4 10 x.avs = some (.pv (.bool x.timed)) := by kernel_rfl
@[go_sem high] theorem prd_35_10_4 (x : GMsg) : partO E 4 0 (x.avs.drop 10) = some (.pv (.bool x.timed)) := by kernel_rfl
@[go_sem high] theorem prt_35_11_3 (x : GMsg) : partO E 3 11 x.avs = some (.pv (.int .i64 x.topicid)) := by kernel_rfl
@[go_sem high] theorem prd_35_11_3 (x : GMsg) : partO E 3 0 (x.avs.drop 11) = some (.pv (.int .i64 x.topicid)) := by kernel_rfl
@[go_sem high] theorem prt_35_12_3 (x : GMsg) : partO E 3 12 x.avs = some (.pv (.int .i64 x.msgid)) := by kernel_rfl
@[go_sem high] theorem prd_35_12_3 (x : GMsg) : partO E 3 0 (x.avs.drop 12) = some (.pv (.int .i64 x.msgid)) := by kernel_rfl
@[go_sem high] theorem prt_35_13_3 (x : GMsg) : partO E 3 13 x.avs = some (.pv (.int .i64 x.code)) := by kernel_rfl
@[go_sem high] theorem prd_35_13_3 (x : GMsg) : partO E 3 0 (x.avs.drop 13) = some (.pv (.int .i64 x.code)) := by kernel_rfl
@[go_sem high] theorem prt_35_14_9 (x : GMsg) : partO E 9 14 x.avs = some (.pv (.str x.name)) := by kernel_rfl
@[go_sem high] theorem prd_35_14_9 (x : GMsg) : partO E 9 0 (x.avs.drop 14) = some (.pv (.str x.name)) := by kernel_rfl
@[go_sem high] theorem prt_35_15_9 (x : GMsg) : partO E 9 15 x.avs = some (.pv (.str x.data)) := by kernel_rfl
@[go_sem high] theorem prd_35_15_9 (x : GMsg) : partO E 9 0 (x.avs.drop 15) = some (.pv (.str x.data)) := by kernel_rfl
@[go_sem ↓] theorem eq_35 (x y : GMsg) : binO (E.ty 35) .eql (.pv x.pv) (.pv y.pv) = some (.pv (.bool (decide (x = y)))) := by rw [GMsg.pv_eq, GMsg.pv_eq]; exact eq_struct kd_35 (show (E.ty 35).eqk = [.i, .b, .i, .b, .b, .b, .i, .i, .i, .i, .b, .i, .i, .i, .s, .s] by kernel_rfl) (GMsg.eqs x y)
@[go_sem ↓] theorem ne_35 (x y : GMsg) : binO (E.ty 35) .neq (.pv x.pv) (.pv y.pv) = some (.pv (.bool (!decide (x = y)))) := by rw [GMsg.pv_eq, GMsg.pv_eq]; exact ne_struct kd_35 (show (E.ty 35).eqk = [.i, .b, .i, .b, .b, .b, .i, .i, .i, .i, .b, .i, .i, .i, .s, .s] by kernel_rfl) (GMsg.eqs x y)
@[go_sem ↓] theorem eq_34 (x y : GMsg) : binO (E.ty 34) .eql (.pv x.pv) (.pv y.pv) = some (.pv (.bool (decide (x = y)))) := by rw [GMsg.pv_eq, GMsg.pv_eq]; exact eq_struct kd_34 (show (E.ty 34).eqk = [.i, .b, .i, .b, .b, .b, .i, .i, .i, .i, .b, .i, .i, .i, .s, .s] by kernel_rfl) (GMsg.eqs x y)
@[go_sem ↓] theorem ne_34 (x y : GMsg) : binO (E.ty 34) .neq (.pv x.pv) (.pv y.pv) = some (.pv (.bool (!decide (x = y)))) := by rw [GMsg.pv_eq, GMsg.pv_eq]; exact ne_struct kd_34 (show (E.ty 34).eqk = [.i, .b, .i, .b, .b, .b, .i, .i, .i, .i, .b, .i, .i, .i, .s, .s] by kernel_rfl) (GMsg.eqs x y)
@[go_sem high] theorem prw_35_35 (x : GMsg) : partO E 35 0 x.avs = some (.pv x.pv) := by kernel_rfl
@[go_sem high] theorem prw_35_34 (x : GMsg) : partO E 34 0 x.avs = some (.pv x.pv) := by kernel_rfl
@[go_sem ↓] theorem fld_100_0 (x : GValue) : fieldO E 100 (.pv x.pv) 0 = some (.pv (.int .i64 x.kind)) := by rw [GValue.pv_eq]; kernel_rfl
@[go_sem ↓] theorem fld_99_0 (x : GValue) : fieldO E 99 (.pv x.pv) 0 = some (.pv (.int .i64 x.kind)) := by rw [GValue.pv_eq]; kernel_rfl
@[go_sem ↓] theorem fld_100_1 (x : GValue) : fieldO E 100 (.pv x.pv) 1 = some (.pv (.int .u64 x.n)) := by rw [GValue.pv_eq]; kernel_rfl
@[go_sem ↓] theorem fld_99_1 (x : GValue) : fieldO E 99 (.pv x.pv) 1 = some (.pv (.int .u64 x.n)) := by rw [GValue.pv_eq]; kernel_rfl
@[go_sem ↓] theorem fld_100_2 (x : GValue) : fieldO E 100 (.pv x.pv) 2 = some (.pv (.str x.text)) := by rw [GValue.pv_eq]; kernel_rfl
@[go_sem ↓] theorem fld_99_2 (x : GValue) : fieldO E 99 (.pv x.pv) 2 = some (.pv (.str x.text)) := by rw [GValue.pv_eq]; kernel_rfl
@[go_sem ↓] theorem fld_100_3 (x : GValue) : fieldO E 100 (.pv x.pv) 3 = some (.pv (.lst 4 (List.map GValue.pv x.items))) := by rw [GValue.pv_eq]; kernel_rfl
@[go_sem ↓] theorem fld_99_3 (x : GValue) : fieldO E 99 (.pv x.pv) 3 = some (.pv (.lst 4 (List.map GValue.pv x.items))) := by rw [GValue.pv_eq]; kernel_rfl
@[go_sem high] theorem prt_100_0_3 (x : GValue) : partO E 3 0 x.avs = some (.pv (.int .i64 x.kind)) := by kernel_rfl
@[go_sem high] theorem prt_100_1_84 (x : GValue) : partO E 84 1 x.avs = some (.pv (.int .u64 x.n)) := by kernel_rfl
@[go_sem high] theorem prd_100_1_84 (x : GValue) : partO E 84 0 (x.avs.drop 1) = some (.pv (.int .u64 x.n)) := by kernel_rfl
@[go_sem high] theorem prt_100_2_9 (x : GValue) : partO E 9 2 x.avs = some (.pv (.str x.text)) := by kernel_rfl
@[go_sem high] theorem prd_100_2_9 (x : GValue) : partO E 9 0 (x.avs.drop 2) = some (.pv (.str x.text)) := by kernel_rfl
@[go_sem high] theorem prt_100_3_36 (x : GValue) : partO E 36 3 x.avs = some (.pv (.lst 4 (List.map GValue.pv x.items))) := by kernel_rfl
@[go_sem high] theorem prd_100_3_36 (x : GValue) : partO E 36 0 (x.avs.drop 3) = some (.pv (.lst 4 (List.map GValue.pv x.items))) := by kernel_rfl
@[go_sem high] theorem prw_100_100 (x : GValue) : partO E 100 0 x.avs = some (.pv x.pv) := by rw [GValue.pv_eq]; kernel_rfl
@[go_sem high] theorem prw_100_99 (x : GValue) : partO E 99 0 x.avs = some (.pv x.pv) := by rw [GValue.pv_eq]; kernel_rfl
@[go_sem ↓] theorem fld_38_0 (x : GFrame) : fieldO E 38 (.pv x.pv) 0 = some (.pv (.int .i64 x.ty)) := by kernel_rfl
@[go_sem ↓] theorem fld_37_0 (x : GFrame) : fieldO E 37 (.pv x.pv) 0 = some (.pv (.int .i64 x.ty)) := by kernel_rfl
@[go_sem ↓] theorem fld_38_1 (x : GFrame) : fieldO E 38 (.pv x.pv) 1 = some (.pv (.int .i64 x.channel)) := by kernel_rfl
@[go_sem ↓] theorem fld_37_1 (x : GFrame) : fieldO E 37 (.pv x.pv) 1 = some (.pv (.int .i64 x.channel)) := by kernel_rfl
@[go_sem ↓] theorem fld_38_2 (x : GFrame) : fieldO E 38 (.pv x.pv) 2 = some (.pv (.str x.ext)) := by kernel_rfl
@[go_sem ↓] theorem fld_37_2 (x : GFrame) : fieldO E 37 (.pv x.pv) 2 = some (.pv (.str x.ext)) := by kernel_rfl
@[go_sem ↓] theorem fld_38_3 (x : GFrame) : fieldO E 38 (.pv x.pv) 3 = some (.pv (.lst 4 (List.map GValue.pv x.values))) := by kernel_rfl
@[go_sem ↓] theorem fld_37_3 (x : GFrame) : fieldO E 37 (.pv x.pv) 3 = some (.pv (.lst 4 (List.map GValue.pv x.values))) := by kernel_rfl
@[go_sem high] theorem prt_38_0_3 (x : GFrame) : partO E 3 0 x.avs = some (.pv (.int .i64 x.ty)) := by kernel_rfl
@[go_sem high] theorem prt_38_1_3 (x : GFrame) : partO E 3 1 x.avs = some (.pv (.int .i64 x.channel)) := by kernel_rfl
@[go_sem high] theorem prd_38_1_3 (x : GFrame) : partO E 3 0 (x.avs.drop 1) = some (.pv (.int .i64 x.channel)) := by kernel_rfl
@[go_sem high] theorem prt_38_2_9 (x : GFrame) : partO E 9 2 x.avs = some (.pv (.str x.ext)) := by kernel_rfl
@[go_sem high] theorem prd_38_2_9 (x : GFrame) : partO E 9 0 (x.avs.drop 2) = some (.pv (.str x.ext)) := by kernel_rfl
@[go_sem high] theorem prt_38_3_36 (x : GFrame) : partO E 36 3 x.avs = some (.pv (.lst 4 (List.map GValue.pv x.values))) := by kernel_rfl
@[go_sem high] theorem prd_38_3_36 (x : GFrame) : partO E 36 0 (x.avs.drop 3) = some (.pv (.lst 4 (List.map GValue.pv x.values))) := by kernel_rfl
@[go_sem high] theorem prw_38_38 (x : GFrame) : partO E 38 0 x.avs = some (.pv x.pv) := by kernel_rfl
@[go_sem high] theorem prw_38_37 (x : GFrame) : partO E 37 0 x.avs = some (.pv x.pv) := by kernel_rfl
@[go_sem ↓] theorem fld_115_0 (x : GHop) : fieldO E 115 (.pv x.pv) 0 = some (.pv (.int .i64 x.radius)) := by kernel_rfl
@[go_sem ↓] theorem fld_114_0 (x : GHop) : fieldO E 114 (.pv x.pv) 0 = some (.pv (.int .i64 x.radius)) := by kernel_rfl
@[go_sem ↓] theorem fld_115_1 (x : GHop) : fieldO E 115 (.pv x.pv) 1 = some (.pv (.str x.node)) := by kernel_rfl
@[go_sem ↓] theorem fld_114_1 (x : GHop) : fieldO E 114 (.pv x.pv) 1 = some (.pv (.str x.node)) := by kernel_rfl
@[go_sem high] theorem prt_115_0_3 (x : GHop) : partO E 3 0 x.avs = some (.pv (.int .i64 x.radius)) := by kernel_rfl
@[go_sem high] theorem prt_115_1_9 (x : GHop) : partO E 9 1 x.avs = some (.pv (.str x.node)) := by kernel_rfl
@[go_sem high] theorem prd_115_1_9 (x : GHop) : partO E 9 0 (x.avs.drop 1) = some (.pv (.str x.node)) := by kernel_rfl
@[go_sem ↓] theorem eq_115 (x y : GHop) : binO (E.ty 115) .eql (.pv x.pv) (.pv y.pv) = some (.pv (.bool (decide (x = y)))) := by rw [GHop.pv_eq, GHop.pv_eq]; exact eq_struct kd_115 (show (E.ty 115).eqk = [.i, .s] by kernel_rfl) (GHop.eqs x y)
@[go_sem ↓] theorem ne_115 (x y : GHop) : binO (E.ty 115) .neq (.pv x.pv) (.pv y.pv) = some (.pv (.bool (!decide (x = y)))) := by rw [GHop.pv_eq, GHop.pv_eq]; exact ne_struct kd_115 (show (E.ty 115).eqk = [.i, .s] by kernel_rfl) (GHop.eqs x y)
@[go_sem ↓] theorem eq_114 (x y : GHop) : binO (E.ty 114) .eql (.pv x.pv) (.pv y.pv) = some (.pv (.bool (decide (x = y)))) := by rw [GHop.pv_eq, GHop.pv_eq]; exact eq_struct kd_114 (show (E.ty 114).eqk = [.i, .s] by kernel_rfl) (GHop.eqs x y)
@[go_sem ↓] theorem ne_114 (x y : GHop) : binO (E.ty 114) .neq (.pv x.pv) (.pv y.pv) = some (.pv (.bool (!decide (x = y)))) := by rw [GHop.pv_eq, GHop.pv_eq]; exact ne_struct kd_114 (show (E.ty 114).eqk = [.i, .s] by kernel_rfl) (GHop.eqs x y)
@[go_sem high] theorem prw_115_115 (x : GHop) : partO E 115 0 x.avs = some (.pv x.pv) := by kernel_rfl
@[go_sem high] theorem prw_115_114 (x : GHop) : partO E 114 0 x.avs = some (.pv x.pv) := by kernel_rfl
@[go_sem ↓] theorem fld_40_0 (x : GEvent) : fieldO E 40 (.pv x.pv) 0 = some (.pv (.int .i64 x.proto)) := by kernel_rfl
@[go_sem ↓] theorem fld_39_0 (x : GEvent) : fieldO E 39 (.pv x.pv) 0 = some (.pv (.int .i64 x.proto)) := by kernel_rfl
@[go_sem ↓] theorem fld_40_1 (x : GEvent) : fieldO E 40 (.pv x.pv) 1 = some (.pv (.int .i64 x.kind)) := by kernel_rfl
@[go_sem ↓] theorem fld_39_1 (x : GEvent) : fieldO E 39 (.pv x.pv) 1 = some (.pv (.int .i64 x.kind)) := by kernel_rfl
@[go_sem ↓] theorem fld_40_2 (x : GEvent) : fieldO E 40 (.pv x.pv) 2 = some (.pv (.str x.topic)) := by kernel_rfl
@[go_sem ↓] theorem fld_39_2 (x : GEvent) : fieldO E 39 (.pv x.pv) 2 = some (.pv (.str x.topic)) := by kernel_rfl
@[go_sem ↓] theorem fld_40_3 (x : GEvent) : fieldO E 40 (.pv x.pv) 3 = some (.pv (.str x.payload)) := by kernel_rfl
@[go_sem ↓] theorem fld_39_3 (x : GEvent) : fieldO E 39 (.pv x.pv) 3 = some (.pv (.str x.payload)) := by kernel_rfl
@[go_sem ↓] theorem fld_40_4 (x : GEvent) : fieldO E 40 (.pv x.pv) 4 = some (.pv (.int .i64 x.qos)) := by kernel_rfl
@[go_sem ↓] theorem fld_39_4 (x : GEvent) : fieldO E 39 (.pv x.pv) 4 = some (.pv (.int .i64 x.qos)) := by kernel_rfl
@[go_sem ↓] theorem fld_40_5 (x : GEvent) : fieldO E 40 (.pv x.pv) 5 = some (.pv (.bool x.retain)) := by kernel_rfl
@[go_sem ↓] theorem fld_39_5 (x : GEvent) : fieldO E 39 (.pv x.pv) 5 = some (.pv (.bool x.retain)) := by kernel_rfl
@[go_sem ↓] theorem fld_40_6 (x : GEvent) : fieldO E 40 (.pv x.pv) 6 = some (.pv (.bool x.dup)) := by kernel_rfl
@[go_sem ↓] theorem fld_39_6 (x : GEvent) : fieldO E 39 (.pv x.pv) 6 = some (.pv (.bool x.dup)) := by kernel_rfl
@[go_sem ↓] theorem fld_40_7 (x : GEvent) : fieldO E 40 (.pv x.pv) 7 = some (.pv (.int .i64 x.id)) := by kernel_rfl
@[go_sem ↓] theorem fld_39_7 (x : GEvent) : fieldO E 39 (.pv x.pv) 7 = some (.pv (.int .i64 x.id)) := by kernel_rfl
@[go_sem ↓] theorem fld_40_8 (x : GEvent) : fieldO E 40 (.pv x.pv) 8 = some (.pv (.lst 4 (List.map GProp.pv x.props))) := by kernel_rfl
@[go_sem ↓] theorem fld_39_8 (x : GEvent) : fieldO E 39 (.pv x.pv) 8 = some (.pv (.lst 4 (List.map GProp.pv x.props))) := by kernel_rfl
@[go_sem ↓] theorem fld_40_9 (x : GEvent) : fieldO E 40 (.pv x.pv) 9 = some (.pv (.int .i64 x.ty)) := by kernel_rfl
@[go_sem ↓] theorem fld_39_9 (x : GEvent) : fieldO E 39 (.pv x.pv) 9 = some (.pv (.int .i64 x.ty)) := by kernel_rfl
@[go_sem ↓] theorem fld_40_10 (x : GEvent) : fieldO E 40 (.pv x.pv) 10 = some (.pv (.lst 2 (List.map GHop.pv x.hops))) := by kernel_rfl
@[go_sem ↓] theorem fld_39_10 (x : GEvent) : fieldO E 39 (.pv x.pv) 10 = some (.pv (.lst 2 (List.map GHop.pv x.hops))) := by kernel_rfl
@[go_sem ↓] theorem fld_40_11 (x : GEvent) : fieldO E 40 (.pv x.pv) 11 = some (.pv (.int .i64 x.channel)) := by kernel_rfl
@[go_sem ↓] theorem fld_39_11 (x : GEvent) : fieldO E 39 (.pv x.pv) 11 = some (.pv (.int .i64 x.channel)) := by kernel_rfl
@[go_sem ↓] theorem fld_40_12 (x : GEvent) : fieldO E 40 (.pv x.pv) 12 = some (.pv (x.packet.pv)) := by kernel_rfl
@[go_sem ↓] theorem fld_39_12 (x : GEvent) : fieldO E 39 (.pv x.pv) 12 = some (.pv (x.packet.pv)) := by kernel_rfl
@[go_sem ↓] theorem fld_40_13 (x : GEvent) : fieldO E 40 (.pv x.pv) 13 = some (.pv (x.msg.pv)) := by kernel_rfl
@[go_sem ↓] theorem fld_39_13 (x : GEvent) : fieldO E 39 (.pv x.pv) 13 = some (.pv (x.msg.pv)) := by kernel_rfl
@[go_sem ↓] theorem fld_40_14 (x : GEvent) : fieldO E 40 (.pv x.pv) 14 = some (.pv (x.frame.pv)) := by kernel_rfl
@[go_sem ↓] theorem fld_39_14 (x : GEvent) : fieldO E 39 (.pv x.pv) 14 = some (.pv (x.frame.pv)) := by kernel_rfl
@[go_sem high] theorem prt_40_0_3 (x : GEvent) : partO E 3 0 x.avs = some (.pv (.int .i64 x.proto)) := by kernel_rfl
@[go_sem high] theorem prt_40_1_3 (x : GEvent) : partO E 3 1 x.avs = some (.pv (.int .i64 x.kind)) := by kernel_rfl
@[go_sem high] theorem prd_40_1_3 (x : GEvent) : partO E 3 0 (x.avs.drop 1) = some (.pv (.int .i64 x.kind)) := by kernel_rfl
@[go_sem high] theorem prt_40_2_9 (x : GEvent) : partO E 9 2 x.avs = some (.pv (.str x.topic)) := by kernel_rfl
@[go_sem high] theorem prd_40_2_9 (x : GEvent) : partO E 9 0 (x.avs.drop 2) = some (.pv (.str x.topic)) := by kernel_rfl
@[go_sem high] theorem prt_40_3_9 (x : GEvent) : partO E 9 3 x.avs = some (.pv (.str x.payload)) := by kernel_rfl
@[go_sem high] theorem prd_40_3_9 (x : GEvent) : partO E 9 0 (x.avs.drop 3) = some (.pv (.str x.payload)) := by kernel_rfl
@[go_sem high] theorem prt_40_4_3 (x : GEvent) : partO E 3 4 x.avs = some (.pv (.int .i64 x.qos)) := by kernel_rfl
@[go_sem high] theorem prd_40_4_3 (x : GEvent) : partO E 3 0 (x.avs.drop 4) = some (.pv (.int .i64 x.qos)) := by kernel_rfl
@[go_sem high] theorem prt_40_5_4 (x : GEvent) : partO E 4 5 x.avs = some (.pv (.bool x.retain)) := by kernel_rfl
@[go_sem high] theorem prd_40_5_4 (x : GEvent) : partO E 4 0 (x.avs.drop 5) = some (.pv (.bool x.retain)) := by kernel_rfl
@[go_sem high] theorem prt_40_6_4 (x : GEvent) : partO E 4 6 x.avs = some (.pv (.bool x.dup)) := by kernel_rfl
@[go_sem high] theorem prd_40_6_4 (x : GEvent) : partO E 4 0 (x.avs.drop 6) = some (.pv (.bool x.dup)) := by kernel_rfl
@[go_sem high] theorem prt_40_7_3 (x : GEvent) : partO E 3 7 x.avs = some (.pv (.int .i64 x.id)) := by kernel_rfl
@[go_sem high] theorem prd_40_7_3 (x : GEvent) : partO E 3 0 (x.avs.drop 7) = some (.pv (.int .i64 x.id)) := by kernel_rfl
@[go_sem high] theorem prt_40_8_24 (x : GEvent) : partO E 24 8 x.avs = some (.pv (.lst 4 (List.map GProp.pv x.props))) := by kernel_rfl
@[go_sem high] theorem prd_40_8_24 (x : GEvent) : partO E 24 0 (x.avs.drop 8) = some (.pv (.lst 4 (List.map GProp.pv x.props))) := by kernel_rfl
@[go_sem high] theorem prt_40_9_3 (x : GEvent) : partO E 3 9 x.avs = some (.pv (.int .i64 x.ty)) := by kernel_rfl
@[go_sem high] theorem prd_40_9_3 (x : GEvent) : partO E 3 0 (x.avs.drop 9) = some (.pv (.int .i64 x.ty)) := by kernel_rfl
@[go_sem high] theorem prt_40_10_25 (x : GEvent) : partO E 25 10 x.avs = some (.pv (.lst 2 (List.map GHop.pv x.hops))) := by kernel_rfl
@[go_sem high] theorem prd_40_10_25 (x : GEvent) : partO E 25 0 (x.avs.drop 10) = some (.pv (.lst 2 (List.map GHop.pv x.hops))) := by kernel_rfl
@[go_sem high] theorem prt_40_11_3 (x : GEvent) : partO E 3 11 x.avs = some (.pv (.int .i64 x.channel)) := by kernel_rfl
@[go_sem high] theorem prd_40_11_3 (x : GEvent) : partO E 3 0 (x.avs.drop 11) = some (.pv (.int .i64 x.channel)) := by kernel_rfl
@[go_sem high] theorem prt_40_12_31 (x : GEvent) : partO E 31 12 x.avs = some (.pv (x.packet.pv)) := by kernel_rfl
@[go_sem high] theorem prd_40_12_31 (x : GEvent) : partO E 31 0 (x.avs.drop 12) = some (.pv (x.packet.pv)) := by kernel_rfl
@[go_sem high] theorem prt_40_12_3 (x : GEvent) : partO E 3 12 x.avs = some (.pv (.int .i64 x.packet.kind)) := by kernel_rfl
@[go_sem high] theorem prd_40_12_3 (x : GEvent) : partO E 3 0 (x.avs.drop 12) = some (.pv (.int .i64 x.packet.kind)) := by kernel_rfl
@[go_sem high] theorem prt_40_13_4 (x : GEvent) : partO E 4 13 x.avs = some (.pv (.bool x.packet.dup)) := by kernel_rfl
@[go_sem high] theorem prd_40_13_4 (x : GEvent) : partO E 4 0 (x.avs.drop 13) = some (.pv (.bool x.packet.dup)) := by kernel_rfl
@[go_sem high] theorem prt_40_14_4 (x : GEvent) : partO E 4 14 x.avs = some (.pv (.bool x.packet.retain)) := by kernel_rfl
@[go_sem high] theorem prd_40_14_4 (x : GEvent) : partO E 4 0 (x.avs.drop 14) = some (.pv (.bool x.packet.retain)) := by kernel_rfl
@[go_sem high] theorem prt_40_15_3 (x : GEvent) : partO E 3 15 x.avs = some (.pv (.int .i64 x.packet.qos)) := by kernel_rfl
@[go_sem high] theorem prd_40_15_3 (x : GEvent) : partO E 3 0 (x.avs.drop 15) = some (.pv (.int .i64 x.packet.qos)) := by kernel_rfl
@[go_sem high] theorem prt_40_16_3 (x : GEvent) : partO E 3 16 x.avs = some (.pv (.int .i64 x.packet.id)) := by kernel_rfl
@[go_sem high] theorem prd_40_16_3 (x : GEvent) : partO E 3 0 (x.avs.drop 16) = some (.pv (.int .i64 x.packet.id)) := by kernel_rfl
@[go_sem high] theorem prt_40_17_9 (x : GEvent) : partO E 9 17 x.avs = some (.pv (.str x.packet.topic)) := by kernel_rfl
@[go_sem high] theorem prd_40_17_9 (x : GEvent) : partO E 9 0 (x.avs.drop 17) = some (.pv (.str x.packet.topic)) := by kernel_rfl
@[go_sem high] theorem prt_40_18_9 (x : GEvent) : partO E 9 18 x.avs = some (.pv (.str x.packet.payload)) := by kernel_rfl
@[go_sem high] theorem prd_40_18_9 (x : GEvent) : partO E 9 0 (x.avs.drop 18) = some (.pv (.str x.packet.payload)) := by kernel_rfl
@[go_sem high] theorem prt_40_19_4 (x : GEvent) : partO E 4 19 x.avs = some (.pv (.bool x.packet.clean)) := by kernel_rfl
@[go_sem high] theorem prd_40_19_4 (x : GEvent) : partO E 4 0 (x.avs.drop 19) = some (.pv (.bool x.packet.clean)) := by kernel_rfl
@[go_sem high] theorem prt_40_20_3 (x : GEvent) : partO E 3 20 x.avs = some (.pv (.int .i64 x.packet.keepalive)) := by kernel_rfl
@[go_sem high] theorem prd_40_20_3 (x : GEvent) : partO E 3 0 (x.avs.drop 20) = some (.pv (.int .i64 x.packet.keepalive)) := by kernel_rfl
@[go_sem high] theorem prt_40_21_9 (x : GEvent) : partO E 9 21 x.avs = some (.pv (.str x.packet.client)) := by kernel_rfl
@[go_sem high] theorem prd_40_21_9 (x : GEvent) : partO E 9 0 (x.avs.drop 21) = some (.pv (.str x.packet.client)) := by kernel_rfl
@[go_sem high] theorem prt_40_22_4 (x : GEvent) : partO E 4 22 x.avs = some (.pv (.bool x.packet.hasuser)) := by kernel_rfl
@[go_sem high] theorem prd_40_22_4 (x : GEvent) : partO E 4 0 (x.avs.drop 22) = some (.pv (.bool x.packet.hasuser)) := by kernel_rfl
@[go_sem high] theorem prt_40_23_9 (x : GEvent) : partO E 9 23 x.avs = some (.pv (.str x.packet.user)) := by kernel_rfl
@[go_sem high] theorem prd_40_23_9 (x : GEvent) : partO E 9 0 (x.avs.drop 23) = some (.pv (.str x.packet.user)) := by kernel_rfl
@[go_sem high] theorem prt_40_24_4 (x : GEvent) : partO E 4 24 x.avs = some (.pv (.bool x.packet.haspass)) := by kernel_rfl
@[go_sem high] theorem prd_40_24_4 (x : GEvent) : partO E 4 0 (x.avs.drop 24) = some (.pv (.bool x.packet.haspass)) := by kernel_rfl
@[go_sem high] theorem prt_40_25_9 (x : GEvent) : partO E 9 25 x.avs = some (.pv (.str x.packet.pass)) := by kernel_rfl
@[go_sem high] theorem prd_40_25_9 (x : GEvent) : partO E 9 0 (x.avs.drop 25) = some (.pv (.str x.packet.pass)) := by kernel_rfl
@[go_sem high] theorem prt_40_26_4 (x : GEvent) : partO E 4 26 x.avs = some (.pv (.bool x.packet.haswill)) := by kernel_rfl
@[go_sem high] theorem prd_40_26_4 (x : GEvent) : partO E 4 0 (x.avs.drop 26) = some (.pv (.bool x.packet.haswill)) := by kernel_rfl
@[go_sem high] theorem prt_40_27_27 (x : GEvent) : partO E 27 27 x.avs = some (.pv (x.packet.will.pv)) := by kernel_rfl
@[go_sem high] theorem prd_40_27_27 (x : GEvent) : partO E 27 0 (x.avs.drop 27) = some (.pv (x.packet.will.pv)) := by kernel_rfl
@[go_sem high] theorem prt_40_27_9 (x : GEvent) : partO E 9 27 x.avs = some (.pv (.str x.packet.will.topic)) := by kernel_rfl
@[go_sem high] theorem prd_40_27_9 (x : GEvent) : partO E 9 0 (x.avs.drop 27) = some (.pv (.str x.packet.will.topic)) := by kernel_rfl
@[go_sem high] theorem prt_40_28_9 (x : GEvent) : partO E 9 28 x.avs = some (.pv (.str x.packet.will.payload)) := by kernel_rfl
@[go_sem high] theorem prd_40_28_9 (x : GEvent) : partO E 9 0 (x.avs.drop 28) = some (.pv (.str x.packet.will.payload)) := by kernel_rfl
@[go_sem high] theorem prt_40_29_3 (x : GEvent) : partO E 3 29 x.avs = some (.pv (.int .i64 x.packet.will.qos)) := by kernel_rfl
@[go_sem high] theorem prd_40_29_3 (x : GEvent) : partO E 3 0 (x.avs.drop 29) = some (.pv (.int .i64 x.packet.will.qos)) := by kernel_rfl
@[go_sem high] theorem prt_40_30_4 (x : GEvent) : partO E 4 30 x.avs = some (.pv (.bool x.packet.will.retain)) := by kernel_rfl
@[go_sem high] theorem prd_40_30_4 (x : GEvent) : partO E 4 0 (x.avs.drop 30) = some (.pv (.bool x.packet.will.retain)) := by kernel_rfl
@[go_sem high] theorem prt_40_31_24 (x : GEvent) : partO E 24 31 x.avs = some (.pv (.lst 4 (List.map GProp.pv x.packet.will.props))) := by kernel_rfl
@[go_sem high] theorem prd_40_31_24 (x : GEvent) : partO E 24 0 (x.avs.drop 31) = some (.pv (.lst 4 (List.map GProp.pv x.packet.will.props))) := by kernel_rfl
@[go_sem high] theorem prt_40_32_4 (x : GEvent) : partO E 4 32 x.avs = some (.pv (.bool x.packet.session)) := by kernel_rfl
@[go_sem high] theorem prd_40_32_4 (x : GEvent) : partO E 4 0 (x.avs.drop 32) = some (.pv (.bool x.packet.session)) := by kernel_rfl
@[go_sem high] theorem prt_40_33_3 (x : GEvent) : partO E 3 33 x.avs = some (.pv (.int .i64 x.packet.code)) := by kernel_rfl
@[go_sem high] theorem prd_40_33_3 (x : GEvent) : partO E 3 0 (x.avs.drop 33) = some (.pv (.int .i64 x.packet.code)) := by kernel_rfl
@[go_sem high] theorem prt_40_34_28 (x : GEvent) : partO E 28 34 x.avs = some (.pv (.lst 1 (List.map (fun z => PV.int .i64 z) x.packet.codes))) := by kernel_rfl
@[go_sem high] theorem prd_40_34_28 (x : GEvent) : partO E 28 0 (x.avs.drop 34) = some (.pv (.lst 1 (List.map (fun z => PV.int .i64 z) x.packet.codes))) := by kernel_rfl
@[go_sem high] theorem prt_40_35_29 (x : GEvent) : partO E 29 35 x.avs = some (.pv (.lst 5 (List.map GFilter.pv x.packet.filters))) := by kernel_rfl
@[go_sem high] theorem prd_40_35_29 (x : GEvent) : partO E 29 0 (x.avs.drop 35) = some (.pv (.lst 5 (List.map GFilter.pv x.packet.filters))) := by kernel_rfl
@[go_sem high] theorem prt_40_36_24 (x : GEvent) : partO E 24 36 x.avs = some (.pv (.lst 4 (List.map GProp.pv x.packet.props))) := by kernel_rfl
@[go_sem high] theorem prd_40_36_24 (x : GEvent) : partO E 24 0 (x.avs.drop 36) = some (.pv (.lst 4 (List.map GProp.pv x.packet.props))) := by kernel_rfl
@[go_sem high] theorem prt_40_37_35 (x : GEvent) : partO E 35 37 x.avs = some (.pv (x.msg.pv)) := by kernel_rfl
@[go_sem high] theorem prd_40_37_35 (x : GEvent) : partO E 35 0 (x.avs.drop 37) = some (.pv (x.msg.pv)) := by kernel_rfl
@[go_sem high] theorem prt_40_37_3 (x : GEvent) : partO E 3 37 x.avs = some (.pv (.int .i64 x.msg.ty)) := by kernel_rfl
@[go_sem high] theorem prd_40_37_3 (x : GEvent) : partO E 3 0 (x.avs.drop 37) = some (.pv (.int .i64 x.msg.ty)) := by kernel_rfl
@[go_sem high] theorem prt_40_38_33 (x : GEvent) : partO E 33 38 x.avs = some (.pv (x.msg.flags.pv)) := by kernel_rfl
@[go_sem high] theorem prd_40_38_33 (x : GEvent) : partO E 33 0 (x.avs.drop 38) = some (.pv (x.msg.flags.pv)) := by kernel_rfl
@[go_sem high] theorem prt_40_38_4 (x : GEvent) : partO E 4 38 x.avs = some (.pv (.bool x.msg.flags.dup)) := by kernel_rfl
@[go_sem high] theorem prd_40_38_4 (x : GEvent) : partO E 4 0 (x.avs.drop 38) = some (.pv (.bool x.msg.flags.dup)) := by kernel_rfl
@[go_sem high] theorem prt_40_39_3 (x : GEvent) : partO E 3 39 x.avs = some (.pv (.int .i64 x.msg.flags.qos)) := by kernel_rfl
@[go_sem high] theorem prd_40_39_3 (x : GEvent) : partO E 3 0 (x.avs.drop 39) = some (.pv (.int .i64 x.msg.flags.qos)) := by kernel_rfl
@[go_sem high] theorem prt_40_40_4 (x : GEvent) : partO E 4 40 x.avs = some (.pv (.bool x.msg.flags.retain)) := by kernel_rfl
@[go_sem high] theorem prd_40_40_4 (x : GEvent) : partO E 4 0 (x.avs.drop 40) = some (.pv (.bool x.msg.flags.retain)) := by kernel_rfl
@[go_sem high] theorem prt_40_41_4 (x : GEvent) : partO E 4 41 x.avs = some (.pv (.bool x.msg.flags.will)) := by kernel_rfl
@[go_sem high] theorem prd_40_41_4 (x : GEvent) : partO E 4 0 (x.avs.drop 41) = some (.pv (.bool x.msg.flags.will)) := by kernel_rfl
@[go_sem high] theorem prt_40_42_4 (x : GEvent) : partO E 4 42 x.avs = some (.pv (.bool x.msg.flags.clean)) := by kernel_rfl
@[go_sem high] theorem prd_40_42_4 (x : GEvent) : partO E 4 0 (x.avs.drop 42) = some (.pv (.bool x.msg.flags.clean)) := by kernel_rfl
@[go_sem high] theorem prt_40_43_3 (x : GEvent) : partO E 3 43 x.avs = some (.pv (.int .i64 x.msg.flags.ty)) := by kernel_rfl
@[go_sem high] theorem prd_40_43_3 (x : GEvent) : partO E 3 0 (x.avs.drop 43) = some (.pv (.int .i64 x.msg.flags.ty)) := by kernel_rfl
@[go_sem high] theorem prt_40_44_3 (x : GEvent) : partO E 3 44 x.avs = some (.pv (.int .i64 x.msg.gateway)) := by kernel_rfl
@[go_sem high] theorem prd_40_44_3 (x : GEvent) : partO E 3 0 (x.avs.drop 44) = some (.pv (.int .i64 x.msg.gateway)) := by kernel_rfl
@[go_sem high] theorem prt_40_45_3 (x : GEvent) : partO E 3 45 x.avs = some (.pv (.int .i64 x.msg.radius)) := by kernel_rfl
@[go_sem high] theorem prd_40_45_3 (x : GEvent) : partO E 3 0 (x.avs.drop 45) = some (.pv (.int .i64 x.msg.radius)) := by kernel_rfl
@[go_sem high] theorem prt_40_46_3 (x : GEvent) : partO E 3 46 x.avs = some (.pv (.int .i64 x.msg.time)) := by kernel_rfl
@[go_sem high] theorem prd_40_46_3 (x : GEvent) : partO E 3 0 (x.avs.drop 46) = some (.pv (.int .i64 x.msg.time)) := by kernel_rfl
@[go_sem high] theorem prt_40_47_4 (x : GEvent) : partO E 4 47 x.avs = some (.pv (.bool x.msg.timed)) := by kernel_rfl
@[go_sem high] theorem prd_40_47_4 (x : GEvent) : partO E 4 0 (x.avs.drop 47) = some (.pv (.bool x.msg.timed)) := by kernel_rfl
@[go_sem high] theorem prt_40_48_3 (x : GEvent) : partO E 3 48 x.avs = some (.pv (.int .i64 x.msg.topicid)) := by kernel_rfl
@[go_sem high] theorem prd_40_48_3 (x : GEvent) : partO E 3 0 (x.avs.drop 48) = some (.pv (.int .i64 x.msg.topicid)) := by kernel_rfl
@[go_sem high] theorem prt_40_49_3 (x : GEvent) : partO E 3 49 x.avs = some (.pv (.int .i64 x.msg.msgid)) := by kernel_rfl
@[go_sem high] theorem prd_40_49_3 (x : GEvent) : partO E 3 0 (x.avs.drop 49) = some (.pv (.int .i64 x.msg.msgid)) := by kernel_rfl
@[go_sem high] theorem prt_40_50_3 (x : GEvent) : partO E 3 50 x.avs = some (.pv (.int .i64 x.msg.code)) := by kernel_rfl
@[go_sem high] theorem prd_40_50_3 (x : GEvent) : partO E 3 0 (x.avs.drop 50) = some (.pv (.int .i64 x.msg.code)) := by kernel_rfl
@[go_sem high] theorem prt_40_51_9 (x : GEvent) : partO E 9 51 x.avs = some (.pv (.str x.msg.name)) := by kernel_rfl
@[go_sem high] theorem prd_40_51_9 (x : GEvent) : partO E 9 0 (x.avs.drop 51) = some (.pv (.str x.msg.name)) := by kernel_rfl
@[go_sem high] theorem prt_40_52_9 (x : GEvent) : partO E 9 52 x.avs = some (.pv (.str x.msg.data)) := by kernel_rfl
@[go_sem high] theorem prd_40_52_9 (x : GEvent) : partO E 9 0 (x.avs.drop 52) = some (.pv (.str x.msg.data)) := by kernel_rfl
@[go_sem high] theorem prt_40_53_38 (x : GEvent) : partO E 38 53 x.avs = some (.pv (x.frame.pv)) := by kernel_rfl
@[go_sem high] theorem prd_40_53_38 (x : GEvent) : partO E 38 0 (x.avs.drop 53) = some (.pv (x.frame.pv)) := by kernel_rfl
@[go_sem high] theorem prt_40_53_3 (x : GEvent) : partO E 3 53 x.avs = some (.pv (.int .i64 x.frame.ty)) := by kernel_rfl
@[go_sem high] theorem prd_40_53_3 (x : GEvent) : partO E 3 0 (x.avs.drop 53) = some (.pv (.int .i64 x.frame.ty)) := by kernel_rfl
@[go_sem high] theorem prt_40_54_3 (x : GEvent) : partO E 3 54 x.avs = some (.pv (.int .i64 x.frame.channel)) := by kernel_rfl
@[go_sem high] theorem prd_40_54_3 (x : GEvent) : partO E 3 0 (x.avs.drop 54) = some (.pv (.int .i64 x.frame.channel)) := by kernel_rfl
@[go_sem high] theorem prt_40_55_9 (x : GEvent) : partO E 9 55 x.avs = some (.pv (.str x.frame.ext)) := by kernel_rfl
@[go_sem high] theorem prd_40_55_9 (x : GEvent) : partO E 9 0 (x.avs.drop 55) = some (.pv (.str x.frame.ext)) := by kernel_rfl
@[go_sem high] theorem prt_40_56_36 (x : GEvent) : partO E 36 56 x.avs = some (.pv (.lst 4 (List.map GValue.pv x.frame.values))) := by kernel_rfl
@[go_sem high] theorem prd_40_56_36 (x : GEvent) : partO E 36 0 (x.avs.drop 56) = some (.pv (.lst 4 (List.map GValue.pv x.frame.values))) := by kernel_rfl
@[go_sem high] theorem prw_40_40 (x : GEvent) : partO E 40 0 x.avs = some (.pv x.pv) := by kernel_rfl
@[go_sem high] theorem prw_40_39 (x : GEvent) : partO E 39 0 x.avs = some (.pv x.pv) := by kernel_rfl
@[go_sem ↓] theorem fld_42_0 (x : GLimits) : fieldO E 42 (.pv x.pv) 0 = some (.pv (.int .i64 x.maxpacket)) := by kernel_rfl
@[go_sem ↓] theorem fld_41_0 (x : GLimits) : fieldO E 41 (.pv x.pv) 0 = some (.pv (.int .i64 x.maxpacket)) := by kernel_rfl
@[go_sem ↓] theorem fld_42_1 (x : GLimits) : fieldO E 42 (.pv x.pv) 1 = some (.pv (.int .i64 x.maxdepth)) := by kernel_rfl
@[go_sem ↓] theorem fld_41_1 (x : GLimits) : fieldO E 41 (.pv x.pv) 1 = some (.pv (.int .i64 x.maxdepth)) := by kernel_rfl
@[go_sem high] theorem prt_42_0_3 (x : GLimits) : partO E 3 0 x.avs = some (.pv (.int .i64 x.maxpacket)) := by kernel_rfl
@[go_sem high] theorem prt_42_1_3 (x : GLimits) : partO E 3 1 x.avs = some (.pv (.int .i64 x.maxdepth)) := by kernel_rfl
@[go_sem high] theorem prd_42_1_3 (x : GLimits) : partO E 3 0 (x.avs.drop 1) = some (.pv (.int .i64 x.maxdepth)) := by kernel_rfl
@[go_sem ↓] theorem eq_42 (x y : GLimits) : binO (E.ty 42) .eql (.pv x.pv) (.pv y.pv) = some (.pv (.bool (decide (x = y)))) := by rw [GLimits.pv_eq, GLimits.pv_eq]; exact eq_struct kd_42 (show (E.ty 42).eqk = [.i, .i] by kernel_rfl) (GLimits.eqs x y)
@[go_sem ↓] theorem ne_42 (x y : GLimits) : binO (E.ty 42) .neq (.pv x.pv) (.pv y.pv) = some (.pv (.bool (!decide (x = y)))) := by rw [GLimits.pv_eq, GLimits.pv_eq]; exact ne_struct kd_42 (show (E.ty 42).eqk = [.i, .i] by kernel_rfl) (GLimits.eqs x y)
@[go_sem ↓] theorem eq_41 (x y : GLimits) : binO (E.ty 41) .eql (.pv x.pv) (.pv y.pv) = some (.pv (.bool (decide (x = y)))) := by rw [GLimits.pv_eq, GLimits.pv_eq]; exact eq_struct kd_41 (show (E.ty 41).eqk = [.i, .i] by kernel_rfl) (GLimits.eqs x y)
@[go_sem ↓] theorem ne_41 (x y : GLimits) : binO (E.ty 41) .neq (.pv x.pv) (.pv y.pv) = some (.pv (.bool (!decide (x = y)))) := by rw [GLimits.pv_eq, GLimits.pv_eq]; exact ne_struct kd_41 (show (E.ty 41).eqk = [.i, .i] by kernel_rfl) (GLimits.eqs x y)
@[go_sem high] theorem prw_42_42 (x : GLimits) : partO E 42 0 x.avs = some (.pv x.pv) := by kernel_rfl
@[go_sem high] theorem prw_42_41 (x : GLimits) : partO E 41 0 x.avs = some (.pv x.pv) := by kernel_rfl
@[go_sem ↓] theorem fld_60_0 (x : GEventLabel) : fieldO E 60 (.pv x.pv) 0 = some (.pv (.str x.text)) := by kernel_rfl
@[go_sem ↓] theorem fld_59_0 (x : GEventLabel) : fieldO E 59 (.pv x.pv) 0 = some (.pv (.str x.text)) := by kernel_rfl
@[go_sem high] theorem prt_60_0_9 (x : GEventLabel) : partO E 9 0 x.avs = some (.pv (.str x.text)) := by kernel_rfl
@[go_sem ↓] theorem eq_60 (x y : GEventLabel) : binO (E.ty 60) .eql (.pv x.pv) (.pv y.pv) = some (.pv (.bool (decide (x = y)))) := by rw [GEventLabel.pv_eq, GEventLabel.pv_eq]; exact eq_struct kd_60 (show (E.ty 60).eqk = [.s] by kernel_rfl) (GEventLabel.eqs x y)
@[go_sem ↓] theorem ne_60 (x y : GEventLabel) : binO (E.ty 60) .neq (.pv x.pv) (.pv y.pv) = some (.pv (.bool (!decide (x = y)))) := by rw [GEventLabel.pv_eq, GEventLabel.pv_eq]; exact ne_struct kd_60 (show (E.ty 60).eqk = [.s] by kernel_rfl) (GEventLabel.eqs x y)
@[go_sem ↓] theorem eq_59 (x y : GEventLabel) : binO (E.ty 59) .eql (.pv x.pv) (.pv y.pv) = some (.pv (.bool (decide (x = y)))) := by rw [GEventLabel.pv_eq, GEventLabel.pv_eq]; exact eq_struct kd_59 (show (E.ty 59).eqk = [.s] by kernel_rfl) (GEventLabel.eqs x y)
@[go_sem ↓] theorem ne_59 (x y : GEventLabel) : binO (E.ty 59) .neq (.pv x.pv) (.pv y.pv) = some (.pv (.bool (!decide (x = y)))) := by rw [GEventLabel.pv_eq, GEventLabel.pv_eq]; exact ne_struct kd_59 (show (E.ty 59).eqk = [.s] by kernel_rfl) (GEventLabel.eqs x y)
@[go_sem high] theorem prw_60_60 (x : GEventLabel) : partO E 60 0 x.avs = some (.pv x.pv) := by kernel_rfl
@[go_sem high] theorem prw_60_59 (x : GEventLabel) : partO E 59 0 x.avs = some (.pv x.pv) := by kernel_rfl
@[go_sem ↓] theorem fld_70_0 (x : GDatagram) : fieldO E 70 (.pv x.pv) 0 = some (.pv (.lst 2 (List.map GHop.pv x.hops))) := by kernel_rfl
@[go_sem ↓] theorem fld_69_0 (x : GDatagram) : fieldO E 69 (.pv x.pv) 0 = some (.pv (.lst 2 (List.map GHop.pv x.hops))) := by kernel_rfl
@[go_sem ↓] theorem fld_70_1 (x : GDatagram) : fieldO E 70 (.pv x.pv) 1 = some (.pv (x.msg.pv)) := by kernel_rfl
@[go_sem ↓] theorem fld_69_1 (x : GDatagram) : fieldO E 69 (.pv x.pv) 1 = some (.pv (x.msg.pv)) := by kernel_rfl
@[go_sem high] theorem prt_70_0_25 (x : GDatagram) : partO E 25 0 x.avs = some (.pv (.lst 2 (List.map GHop.pv x.hops))) := by kernel_rfl
@[go_sem high] theorem prt_70_1_35 (x : GDatagram) : partO E 35 1 x.avs = some (.pv (x.msg.pv)) := by kernel_rfl
@[go_sem high] theorem prd_70_1_35 (x : GDatagram) : partO E 35 0 (x.avs.drop 1) = some (.pv (x.msg.pv)) := by kernel_rfl
@[go_sem high] theorem prt_70_1_3 (x : GDatagram) : partO E 3 1 x.avs = some (.pv (.int .i64 x.msg.ty)) := by kernel_rfl
@[go_sem high] theorem prd_70_1_3 (x : GDatagram) : partO E 3 0 (x.avs.drop 1) = some (.pv (.int .i64 x.msg.ty)) := by kernel_rfl
@[go_sem high] theorem prt_70_2_33 (x : GDatagram) : partO E 33 2 x.avs = some (.pv (x.msg.flags.pv)) := by kernel_rfl
@[go_sem high] theorem prd_70_2_33 (x : GDatagram) : partO E 33 0 (x.avs.drop 2) = some (.pv (x.msg.flags.pv)) := by kernel_rfl
@[go_sem high] theorem prt_70_2_4 (x : GDatagram) : partO E 4 2 x.avs = some (.pv (.bool x.msg.flags.dup)) := by kernel_rfl
@[go_sem high] theorem prd_70_2_4 (x : GDatagram) : partO E 4 0 (x.avs.drop 2) = some (.pv (.bool x.msg.flags.dup)) := by kernel_rfl
@[go_sem high] theorem prt_70_3_3 (x : GDatagram) : partO E 3 3 x.avs = some (.pv (.int .i64 x.msg.flags.qos)) := by kernel_rfl
@[go_sem high] theorem prd_70_3_3 (x : GDatagram) : partO E 3 0 (x.avs.drop 3) = some (.pv (.int .i64 x.msg.flags.qos)) := by kernel_rfl
@[go_sem high] theorem prt_70_4_4 (x : GDatagram) : partO E 4 4 x.avs = some (.pv (.bool x.msg.flags.retain)) := by kernel_rfl
@[go_sem high] theorem prd_70_4_4 (x : GDatagram) : partO E 4 0 (x.avs.drop 4) = some (.pv (.bool x.msg.flags.retain)) := by kernel_rfl
@[go_sem high] theorem prt_70_5_4 (x : GDatagram) : partO E 4 5 x.avs = some (.pv (.bool x.msg.flags.will)) := by kernel_rfl
@[go_sem high] theorem prd_70_5_4 (x : GDatagram) : partO E 4 0 (x.avs.drop 5) = some (.pv (.bool x.msg.flags.will)) := by kernel_rfl
@[go_sem high] theorem prt_70_6_4 (x : GDatagram) : partO E 4 6 x.avs = some (.pv (.bool x.msg.flags.clean)) := by kernel_rfl
@[go_sem high] theorem prd_70_6_4 (x : GDatagram) : partO E 4 0 (x.avs.drop 6) = some (.pv (.bool x.msg.flags.clean)) := by kernel_rfl
@[go_sem high] theorem prt_70_7_3 (x : GDatagram) : partO E 3 7 x.avs = some (.pv (.int .i64 x.msg.flags.ty)) := by kernel_rfl
@[go_sem high] theorem prd_70_7_3 (x : GDatagram) : partO E 3 0 (x.avs.drop 7) = some (.pv (.int .i64 x.msg.flags.ty)) := by kernel_rfl
@[go_sem high] theorem prt_70_8_3 (x : GDatagram) : partO E 3 8 x.avs = some (.pv (.int .i64 x.msg.gateway)) := by kernel_rfl
@[go_sem high] theorem prd_70_8_3 (x : GDatagram) : partO E 3 0 (x.avs.drop 8) = some (.pv (.int .i64 x.msg.gateway)) := by kernel_rfl
@[go_sem high] theorem prt_70_9_3 (x : GDatagram) : partO E 3 9 x.avs = some (.pv (.int .i64 x.msg.radius)) := by kernel_rfl
@[go_sem high] theorem prd_70_9_3 (x : GDatagram) : partO E 3 0 (x.avs.drop 9) = some (.pv (.int .i64 x.msg.radius)) := by kernel_rfl
@[go_sem high] theorem prt_70_10_3 (x : GDatagram) : partO E 3 10 x.avs = some (.pv (.int .i64 x.msg.time)) := by kernel_rfl
@[go_sem high] theorem prd_70_10_3 (x : GDatagram) : partO E 3 0 (x.avs.drop 10) = some (.pv (.int .i64 x.msg.time)) := by kernel_rfl
@[go_sem high] theorem prt_70_11_4 (x : GDatagram) : partO E 4 11 x.avs = some (.pv (.bool x.msg.timed)) := by kernel_rfl
@[go_sem high] theorem prd_70_11_4 (x : GDatagram) : partO E 4 0 (x.avs.drop 11) = some (.pv (.bool x.msg.timed)) := by kernel_rfl
@[go_sem high] theorem prt_70_12_3 (x : GDatagram) : partO E 3 12 x.avs = some (.pv (.int .i64 x.msg.topicid)) := by kernel_rfl
@[go_sem high] theorem prd_70_12_3 (x : GDatagram) : partO E 3 0 (x.avs.drop 12) = some (.pv (.int .i64 x.msg.topicid)) := by kernel_rfl
@[go_sem high] theorem prt_70_13_3 (x : GDatagram) : partO E 3 13 x.avs = some (.pv (.int .i64 x.msg.msgid)) := by kernel_rfl
@[go_sem high] theorem prd_70_13_3 (x : GDatagram) : partO E 3 0 (x.avs.drop 13) = some (.pv (.int .i64 x.msg.msgid)) := by kernel_rfl
@[go_sem high] theorem prt_70_14_3 (x : GDatagram) : partO E 3 14 x.avs = some (.pv (.int .i64 x.msg.code)) := by kernel_rfl
@[go_sem high] theorem prd_70_14_3 (x : GDatagram) : partO E 3 0 (x.avs.drop 14) = some (.pv (.int .i64 x.msg.code)) := by kernel_rfl
@[go_sem high] theorem prt_70_15_9 (x : GDatagram) : partO E 9 15 x.avs = some (.pv (.str x.msg.name)) := by kernel_rfl
@[go_sem high] theorem prd_70_15_9 (x : GDatagram) : partO E 9 0 (x.avs.drop 15) = some (.pv (.str x.msg.name)) := by kernel_rfl
@[go_sem high] theorem prt_70_16_9 (x : GDatagram) : partO E 9 16 x.avs = some (.pv (.str x.msg.data)) := by kernel_rfl
@[go_sem high] theorem prd_70_16_9 (x : GDatagram) : partO E 9 0 (x.avs.drop 16) = some (.pv (.str x.msg.data)) := by kernel_rfl
@[go_sem high] theorem prw_70_70 (x : GDatagram) : partO E 70 0 x.avs = some (.pv x.pv) := by kernel_rfl
@[go_sem high] theorem prw_70_69 (x : GDatagram) : partO E 69 0 x.avs = some (.pv x.pv) := by kernel_rfl
@[go_sem ↓] theorem fld_88_0 (x : GHeadBare) : fieldO E 88 (.pv x.pv) 0 = some (.pv (.int .i64 x.kind)) := by kernel_rfl
@[go_sem ↓] theorem fld_87_0 (x : GHeadBare) : fieldO E 87 (.pv x.pv) 0 = some (.pv (.int .i64 x.kind)) := by kernel_rfl
@[go_sem ↓] theorem fld_88_1 (x : GHeadBare) : fieldO E 88 (.pv x.pv) 1 = some (.pv (.int .i64 x.qos)) := by kernel_rfl
@[go_sem ↓] theorem fld_87_1 (x : GHeadBare) : fieldO E 87 (.pv x.pv) 1 = some (.pv (.int .i64 x.qos)) := by kernel_rfl
@[go_sem ↓] theorem fld_88_2 (x : GHeadBare) : fieldO E 88 (.pv x.pv) 2 = some (.pv (.int .i64 x.id)) := by kernel_rfl
@[go_sem ↓] theorem fld_87_2 (x : GHeadBare) : fieldO E 87 (.pv x.pv) 2 = some (.pv (.int .i64 x.id)) := by kernel_rfl
@[go_sem ↓] theorem fld_88_3 (x : GHeadBare) : fieldO E 88 (.pv x.pv) 3 = some (.pv (.int .i64 x.alive)) := by kernel_rfl
@[go_sem ↓] theorem fld_87_3 (x : GHeadBare) : fieldO E 87 (.pv x.pv) 3 = some (.pv (.int .i64 x.alive)) := by kernel_rfl
@[go_sem ↓] theorem fld_88_4 (x : GHeadBare) : fieldO E 88 (.pv x.pv) 4 = some (.pv (.int .i64 x.code)) := by kernel_rfl
@[go_sem ↓] theorem fld_87_4 (x : GHeadBare) : fieldO E 87 (.pv x.pv) 4 = some (.pv (.int .i64 x.code)) := by kernel_rfl
@[go_sem ↓] theorem fld_88_5 (x : GHeadBare) : fieldO E 88 (.pv x.pv) 5 = some (.pv (.bool x.dup)) := by kernel_rfl
@[go_sem ↓] theorem fld_87_5 (x : GHeadBare) : fieldO E 87 (.pv x.pv) 5 = some (.pv (.bool x.dup)) := by kernel_rfl
@[go_sem ↓] theorem fld_88_6 (x : GHeadBare) : fieldO E 88 (.pv x.pv) 6 = some (.pv (.bool x.retain)) := by kernel_rfl
@[go_sem ↓] theorem fld_87_6 (x : GHeadBare) : fieldO E 87 (.pv x.pv) 6 = some (.pv (.bool x.retain)) := by kernel_rfl
@[go_sem ↓] theorem fld_88_7 (x : GHeadBare) : fieldO E 88 (.pv x.pv) 7 = some (.pv (.bool x.clean)) := by kernel_rfl
@[go_sem ↓] theorem fld_87_7 (x : GHeadBare) : fieldO E 87 (.pv x.pv) 7 = some (.pv (.bool x.clean)) := by kernel_rfl
@[go_sem ↓] theorem fld_88_8 (x : GHeadBare) : fieldO E 88 (.pv x.pv) 8 = some (.pv (.bool x.user)) := by kernel_rfl
@[go_sem ↓] theorem fld_87_8 (x : GHeadBare) : fieldO E 87 (.pv x.pv) 8 = some (.pv (.bool x.user)) := by kernel_rfl
@[go_sem ↓] theorem fld_88_9 (x : GHeadBare) : fieldO E 88 (.pv x.pv) 9 = some (.pv (.bool x.pass)) := by kernel_rfl
@[go_sem ↓] theorem fld_87_9 (x : GHeadBare) : fieldO E 87 (.pv x.pv) 9 = some (.pv (.bool x.pass)) := by kernel_rfl
@[go_sem ↓] theorem fld_88_10 (x : GHeadBare) : fieldO E 88 (.pv x.pv) 10 = some (.pv (.bool x.will)) := by kernel_rfl
@[go_sem ↓] theorem fld_87_10 (x : GHeadBare) : fieldO E 87 (.pv x.pv) 10 = some (.pv (.bool x.will)) := by kernel_rfl
@[go_sem ↓] theorem fld_88_11 (x : GHeadBare) : fieldO E 88 (.pv x.pv) 11 = some (.pv (.bool x.again)) := by kernel_rfl
@[go_sem ↓] theorem fld_87_11 (x : GHeadBare) : fieldO E 87 (.pv x.pv) 11 = some (.pv (.bool x.again)) := by kernel_rfl
@[go_sem ↓] theorem fld_88_12 (x : GHeadBare) : fieldO E 88 (.pv x.pv) 12 = some (.pv (.str x.topic)) := by kernel_rfl
@[go_sem ↓] theorem fld_87_12 (x : GHeadBare) : fieldO E 87 (.pv x.pv) 12 = some (.pv (.str x.topic)) := by kernel_rfl
@[go_sem ↓] theorem fld_88_13 (x : GHeadBare) : fieldO E 88 (.pv x.pv) 13 = some (.pv (.str x.payload)) := by kernel_rfl
@[go_sem ↓] theorem fld_87_13 (x : GHeadBare) : fieldO E 87 (.pv x.pv) 13 = some (.pv (.str x.payload)) := by kernel_rfl
@[go_sem ↓] theorem fld_88_14 (x : GHeadBare) : fieldO E 88 (.pv x.pv) 14 = some (.pv (.str x.client)) := by kernel_rfl
@[go_sem ↓] theorem fld_87_14 (x : GHeadBare) : fieldO E 87 (.pv x.pv) 14 = some (.pv (.str x.client)) := by kernel_rfl
@[go_sem ↓] theorem fld_88_15 (x : GHeadBare) : fieldO E 88 (.pv x.pv) 15 = some (.pv (.str x.name)) := by kernel_rfl
@[go_sem ↓] theorem fld_87_15 (x : GHeadBare) : fieldO E 87 (.pv x.pv) 15 = some (.pv (.str x.name)) := by kernel_rfl
@[go_sem ↓] theorem fld_88_16 (x : GHeadBare) : fieldO E 88 (.pv x.pv) 16 = some (.pv (.str x.word)) := by kernel_rfl
@[go_sem ↓] theorem fld_87_16 (x : GHeadBare) : fieldO E 87 (.pv x.pv) 16 = some (.pv (.str x.word)) := by kernel_rfl
@[go_sem high] theorem prt_88_0_3 (x : GHeadBare) : partO E 3 0 x.avs = some (.pv (.int .i64 x.kind)) := by kernel_rfl
@[go_sem high] theorem prt_88_1_3 (x : GHeadBare) : partO E 3 1 x.avs = some (.pv (.int .i64 x.qos)) := by kernel_rfl
@[go_sem high] theorem prd_88_1_3 (x : GHeadBare) : partO E 3 0 (x.avs.drop 1) = some (.pv (.int .i64 x.qos)) := by kernel_rfl
@[go_sem high] theorem prt_88_2_3 (x : GHeadBare) : partO E 3 2 x.avs = some (.pv (.int .i64 x.id)) := by kernel_rfl
@[go_sem high] theorem prd_88_2_3 (x : GHeadBare) : partO E 3 0 (x.avs.drop 2) = some (.pv (.int .i64 x.id)) := by kernel_rfl
@[go_sem high] theorem prt_88_3_3 (x : GHeadBare) : partO E 3 3 x.avs = some (.pv (.int .i64 x.alive)) := by kernel_rfl
@[go_sem high] theorem prd_88_3_3 (x : GHeadBare) : partO E 3 0 (x.avs.drop 3) = some (.pv (.int .i64 x.alive)) := by kernel_rfl
@[go_sem high] theorem prt_88_4_3 (x : GHeadBare) : partO E 3 4 x.avs = some (.pv (.int .i64 x.code)) := by kernel_rfl
@[go_sem high] theorem prd_88_4_3 (x : GHeadBare) : partO E 3 0 (x.avs.drop 4) = some (.pv (.int .i64 x.code)) := by kernel_rfl
@[go_sem high] theorem prt_88_5_4 (x : GHeadBare) : partO E 4 5 x.avs = some (.pv (.bool x.dup)) := by kernel_rfl
@[go_sem high] theorem prd_88_5_4 (x : GHeadBare) : partO E 4 0 (x.avs.drop 5) = some (.pv (.bool x.dup)) := by kernel_rfl
@[go_sem high] theorem prt_88_6_4 (x : GHeadBare) : partO E 4 6 x.avs = some (.pv (.bool x.retain)) := by kernel_rfl
@[go_sem high] theorem prd_88_6_4 (x : GHeadBare) : partO E 4 0 (x.avs.drop 6) = some (.pv (.bool x.retain)) := by kernel_rfl
@[go_sem high] theorem prt_88_7_4 (x : GHeadBare) : partO E 4 7 x.avs = some (.pv (.bool x.clean)) := by kernel_rfl
@[go_sem high] theorem prd_88_7_4 (x : GHeadBare) : partO E 4 0 (x.avs.drop 7) = some (.pv (.bool x.clean)) := by kernel_rfl
@[go_sem high] theorem prt_88_8_4 (x : GHeadBare) : partO E 4 8 x.avs = some (.pv (.bool x.user)) := by kernel_rfl
@[go_sem high] theorem prd_88_8_4 (x : GHeadBare) : partO E 4 0 (x.avs.drop 8) = some (.pv (.bool x.user)) := by kernel_rfl
@[go_sem high] theorem prt_88_9_4 (x : GHeadBare) : partO E 4 9 x.avs = some (.pv (.bool x.pass)) := by kernel_rfl
@[go_sem high] theorem prd_88_9_4 (x : GHeadBare) : partO E 4 0 (x.avs.drop 9) = some (.pv (.bool x.pass)) := by kernel_rfl
@[go_sem high] theorem prt_88_10_4 (x : GHeadBare) : partO E 4 10 x.avs = some (.pv (.bool x.will)) := by kernel_rfl
@[go_sem high] theorem prd_88_10_4 (x : GHeadBare) : partO E 4 0 (x.avs.drop 10) = some (.pv (.bool x.will)) := by kernel_rfl
@[go_sem high] theorem prt_88_11_4 (x : GHeadBare) : partO E 4 11 x.avs = some (.pv (.bool x.again)) := by kernel_rfl
@[go_sem high] theorem prd_88_11_4 (x : GHeadBare) : partO E 4 0 (x.avs.drop 11) = some (.pv (.bool x.again)) := by kernel_rfl
@[go_sem high] theorem prt_88_12_9 (x : GHeadBare) : partO E 9 12 x.avs = some (.pv (.str x.topic)) := by kernel_rfl
@[go_sem high] theorem prd_88_12_9 (x : GHeadBare) : partO E 9 0 (x.avs.drop 12) = some (.pv (.str x.topic)) := by kernel_rfl
@[go_sem high] theorem prt_88_13_9 (x : GHeadBare) : partO E 9 13 x.avs = some (.pv (.str x.payload)) := by kernel_rfl
@[go_sem high] theorem prd_88_13_9 (x : GHeadBare) : partO E 9 0 (x.avs.drop 13) = some (.pv (.str x.payload)) := by kernel_rfl
@[go_sem high] theorem prt_88_14_9 (x : GHeadBare) : partO E 9 14 x.avs = some (.pv (.str x.client)) := by kernel_rfl
@[go_sem high] theorem prd_88_14_9 (x : GHeadBare) : partO E 9 0 (x.avs.drop 14) = some (.pv (.str x.client)) := by kernel_rfl
@[go_sem high] theorem prt_88_15_9 (x : GHeadBare) : partO E 9 15 x.avs = some (.pv (.str x.name)) := by kernel_rfl
@[go_sem high] theorem prd_88_15_9 (x : GHeadBare) : partO E 9 0 (x.avs.drop 15) = some (.pv (.str x.name)) := by kernel_rfl
@[go_sem high] theorem prt_88_16_9 (x : GHeadBare) : partO E 9 16 x.avs = some (.pv (.str x.word)) := by kernel_rfl
@[go_sem high] theorem prd_88_16_9 (x : GHeadBare) : partO E 9 0 (x.avs.drop 16) = some (.pv (.str x.word)) := by kernel_rfl
@[go_sem ↓] theorem eq_88 (x y : GHeadBare) : binO (E.ty 88) .eql (.pv x.pv) (.pv y.pv) = some (.pv (.bool (decide (x = y)))) := by rw [GHeadBare.pv_eq, GHeadBare.pv_eq]; exact eq_struct kd_88 (show (E.ty 88).eqk = [.i, .i, .i, .i, .i, .b, .b, .b, .b, .b, .b, .b, .s, .s, .s, .s, .s] by kernel_rfl) (GHeadBare.eqs x y)
@[go_sem ↓] theorem ne_88 (x y : GHeadBare) : binO (E.ty 88) .neq (.pv x.pv) (.pv y.pv) = some (.pv (.bool (!decide (x = y)))) := by rw [GHeadBare.pv_eq, GHeadBare.pv_eq]; exact ne_struct kd_88 (show (E.ty 88).eqk = [.i, .i, .i, .i, .i, .b, .b, .b, .b, .b, .b, .b, .s, .s, .s, .s, .s] by kernel_rfl) (GHeadBare.eqs x y)
@[go_sem ↓] theorem eq_87 (x y : GHeadBare) : binO (E.ty 87) .eql (.pv x.pv) (.pv y.pv) = some (.pv (.bool (decide (x = y)))) := by rw [GHeadBare.pv_eq, GHeadBare.pv_eq]; exact eq_struct kd_87 (show (E.ty 87).eqk = [.i, .i, .i, .i, .i, .b, .b, .b, .b, .b, .b, .b, .s, .s, .s, .s, .s] by kernel_rfl) (GHeadBare.eqs x y)
@[go_sem ↓] theorem ne_87 (x y : GHeadBare) : binO (E.ty 87) .neq (.pv x.pv) (.pv y.pv) = some (.pv (.bool (!decide (x = y)))) := by rw [GHeadBare.pv_eq, GHeadBare.pv_eq]; exact ne_struct kd_87 (show (E.ty 87).eqk = [.i, .i, .i, .i, .i, .b, .b, .b, .b, .b, .b, .b, .s, .s, .s, .s, .s] by kernel_rfl) (GHeadBare.eqs x y)
@[go_sem high] theorem prw_88_88 (x : GHeadBare) : partO E 88 0 x.avs = some (.pv x.pv) := by kernel_rfl
@[go_sem high] theorem prw_88_87 (x : GHeadBare) : partO E 87 0 x.avs = some (.pv x.pv) := by kernel_rfl
@[go_sem ↓] theorem fld_108_0 (x : GPropRule) : fieldO E 108 (.pv x.pv) 0 = some (.pv (.int .i64 x.shape)) := by kernel_rfl
@[go_sem ↓] theorem fld_107_0 (x : GPropRule) : fieldO E 107 (.pv x.pv) 0 = some (.pv (.int .i64 x.shape)) := by kernel_rfl
@[go_sem ↓] theorem fld_108_1 (x : GPropRule) : fieldO E 108 (.pv x.pv) 1 = some (.pv (.int .i64 x.kinds)) := by kernel_rfl
@[go_sem ↓] theorem fld_107_1 (x : GPropRule) : fieldO E 107 (.pv x.pv) 1 = some (.pv (.int .i64 x.kinds)) := by kernel_rfl
@[go_sem ↓] theorem fld_108_2 (x : GPropRule) : fieldO E 108 (.pv x.pv) 2 = some (.pv (.int .u32 x.least)) := by kernel_rfl
@[go_sem ↓] theorem fld_107_2 (x : GPropRule) : fieldO E 107 (.pv x.pv) 2 = some (.pv (.int .u32 x.least)) := by kernel_rfl
@[go_sem ↓] theorem fld_108_3 (x : GPropRule) : fieldO E 108 (.pv x.pv) 3 = some (.pv (.int .u32 x.most)) := by kernel_rfl
@[go_sem ↓] theorem fld_107_3 (x : GPropRule) : fieldO E 107 (.pv x.pv) 3 = some (.pv (.int .u32 x.most)) := by kernel_rfl
@[go_sem high] theorem prt_108_0_3 (x : GPropRule) : partO E 3 0 x.avs = some (.pv (.int .i64 x.shape)) := by kernel_rfl
@[go_sem high] theorem prt_108_1_3 (x : GPropRule) : partO E 3 1 x.avs = some (.pv (.int .i64 x.kinds)) := by kernel_rfl
@[go_sem high] theorem prd_108_1_3 (x : GPropRule) : partO E 3 0 (x.avs.drop 1) = some (.pv (.int .i64 x.kinds)) := by kernel_rfl
@[go_sem high] theorem prt_108_2_96 (x : GPropRule) : partO E 96 2 x.avs = some (.pv (.int .u32 x.least)) := by kernel_rfl
@[go_sem high] theorem prd_108_2_96 (x : GPropRule) : partO E 96 0 (x.avs.drop 2) = some (.pv (.int .u32 x.least)) := by kernel_rfl
@[go_sem high] theorem prt_108_3_96 (x : GPropRule) : partO E 96 3 x.avs = some (.pv (.int .u32 x.most)) := by kernel_rfl
@[go_sem high] theorem prd_108_3_96 (x : GPropRule) : partO E 96 0 (x.avs.drop 3) = some (.pv (.int .u32 x.most)) := by kernel_rfl
@[go_sem ↓] theorem eq_108 (x y : GPropRule) : binO (E.ty 108) .eql (.pv x.pv) (.pv y.pv) = some (.pv (.bool (decide (x = y)))) := by rw [GPropRule.pv_eq, GPropRule.pv_eq]; exact eq_struct kd_108 (show (E.ty 108).eqk = [.i, .i, .i, .i] by kernel_rfl) (GPropRule.eqs x y)
@[go_sem ↓] theorem ne_108 (x y : GPropRule) : binO (E.ty 108) .neq (.pv x.pv) (.pv y.pv) = some (.pv (.bool (!decide (x = y)))) := by rw [GPropRule.pv_eq, GPropRule.pv_eq]; exact ne_struct kd_108 (show (E.ty 108).eqk = [.i, .i, .i, .i] by kernel_rfl) (GPropRule.eqs x y)
@[go_sem ↓] theorem eq_107 (x y : GPropRule) : binO (E.ty 107) .eql (.pv x.pv) (.pv y.pv) = some (.pv (.bool (decide (x = y)))) := by rw [GPropRule.pv_eq, GPropRule.pv_eq]; exact eq_struct kd_107 (show (E.ty 107).eqk = [.i, .i, .i, .i] by kernel_rfl) (GPropRule.eqs x y)
@[go_sem ↓] theorem ne_107 (x y : GPropRule) : binO (E.ty 107) .neq (.pv x.pv) (.pv y.pv) = some (.pv (.bool (!decide (x = y)))) := by rw [GPropRule.pv_eq, GPropRule.pv_eq]; exact ne_struct kd_107 (show (E.ty 107).eqk = [.i, .i, .i, .i] by kernel_rfl) (GPropRule.eqs x y)
@[go_sem high] theorem prw_108_108 (x : GPropRule) : partO E 108 0 x.avs = some (.pv x.pv) := by kernel_rfl
@[go_sem high] theorem prw_108_107 (x : GPropRule) : partO E 107 0 x.avs = some (.pv x.pv) := by kernel_rfl
@[go_sem] theorem el_24 (k : IntKind) (l : List GProp) (i : Nat) (h : i < l.length) : iadrO E 24 (.pv (.lst 4 (List.map GProp.pv l))) (.pv (.int k (i : Int))) = some (.rad l[i].avs) := iadr_map kd_24 sz_98 GProp.pv GProp.avs GProp.pcells k l i h
@[go_sem] theorem el_25 (k : IntKind) (l : List GHop) (i : Nat) (h : i < l.length) : iadrO E 25 (.pv (.lst 2 (List.map GHop.pv l))) (.pv (.int k (i : Int))) = some (.rad l[i].avs) := iadr_map kd_25 sz_115 GHop.pv GHop.avs GHop.pcells k l i h
@[go_sem] theorem el_28 (k : IntKind) (l : List (Int)) (i : Nat) (h : i < l.length) : iadrO E 28 (.pv (.lst 1 (List.map (fun z => PV.int .i64 z) l))) (.pv (.int k (i : Int))) = some (.rad [.pv (.int .i64 l[i])]) := iadr_map kd_28 sz_3 (fun z => PV.int .i64 z) (fun z => [.pv (.int .i64 z)]) (fun _ => rfl) k l i h
@[go_sem] theorem el_29 (k : IntKind) (l : List GFilter) (i : Nat) (h : i < l.length) : iadrO E 29 (.pv (.lst 5 (List.map GFilter.pv l))) (.pv (.int k (i : Int))) = some (.rad l[i].avs) := iadr_map kd_29 sz_94 GFilter.pv GFilter.avs GFilter.pcells k l i h
@[go_sem] theorem el_36 (k : IntKind) (l : List GValue) (i : Nat) (h : i < l.length) : iadrO E 36 (.pv (.lst 4 (List.map GValue.pv l))) (.pv (.int k (i : Int))) = some (.rad l[i].avs) := iadr_map kd_36 sz_100 GValue.pv GValue.avs GValue.pcells k l i h
@[go_sem] theorem el_106 (k : IntKind) (l : List (Int)) (i : Nat) (h : i < l.length) : iadrO E 106 (.pv (.lst 1 (List.map (fun z => PV.int .u8 z) l))) (.pv (.int k (i : Int))) = some (.rad [.pv (.int .u8 l[i])]) := iadr_map kd_106 sz_5 (fun z => PV.int .u8 z) (fun z => [.pv (.int .u8 z)]) (fun _ => rfl) k l i h
@[go_sem] theorem el_254 (k : IntKind) (l : List (List UInt8)) (i : Nat) (h : i < l.length) : iadrO E 254 (.pv (.lst 1 (List.map (fun z => PV.str z) l))) (.pv (.int k (i : Int))) = some (.rad [.pv (.str l[i])]) := iadr_map kd_254 sz_9 (fun z => PV.str z) (fun z => [.pv (.str z)]) (fun _ => rfl) k l i h
@[go_sem ↓] theorem ap_106_106 (H : Hp) (s x : AV) : appO E 106 106 H s x = appG 1 1 H s (elemsOf x) := appO_G kd_106 (by rw [kd_106]; rfl) (by rw [ze_5]; rfl) sz_5 by_5 (by omega) (by omega) H s x
@[go_sem ↓] theorem ap_106_9 (H : Hp) (s x : AV) : appO E 106 9 H s x = appG 1 1 H s (elemsOf x) := appO_G kd_106 (by rw [kd_9]; rfl) (by rw [ze_5]; rfl) sz_5 by_5 (by omega) (by omega) H s x
@[go_sem] theorem cvi_84_3 (H : Hp) (k : IntKind) (n : Int) : cvO E 84 3 H (.pv (.int k n)) = some (.pv (.int .i64 (IntKind.i64.wrap n))) := cv_int ok_84 kd_3 H n
@[go_sem] theorem cvi_3_5 (H : Hp) (k : IntKind) (n : Int) : cvO E 3 5 H (.pv (.int k n)) = some (.pv (.int .u8 (IntKind.u8.wrap n))) := cv_int ok_3 kd_5 H n
@[go_sem] theorem cvs_106_9 (H : Hp) (b g z : Nat) (es : List PV) : cvO E 106 9 H (.own b g z es) = strB (asBytes es) := cvb_own ok_106 kd_106 kd_5 kd_9 H b g z es
@[go_sem] theorem cvi_5_3 (H : Hp) (k : IntKind) (n : Int) : cvO E 5 3 H (.pv (.int k n)) = some (.pv (.int .i64 (IntKind.i64.wrap n))) := cv_int ok_5 kd_3 H n
@[go_sem] theorem cvi_5_21 (H : Hp) (k : IntKind) (n : Int) : cvO E 5 21 H (.pv (.int k n)) = some (.pv (.int .i32 (IntKind.i32.wrap n))) := cv_int ok_5 kd_21 H n
@[go_sem] theorem cvi_5_84 (H : Hp) (k : IntKind) (n : Int) : cvO E 5 84 H (.pv (.int k n)) = some (.pv (.int .u64 (IntKind.u64.wrap n))) := cv_int ok_5 kd_84 H n
@[go_sem] theorem cvi_96_84 (H : Hp) (k : IntKind) (n : Int) : cvO E 96 84 H (.pv (.int k n)) = some (.pv (.int .u64 (IntKind.u64.wrap n))) := cv_int ok_96 kd_84 H n
@[go_sem] theorem cvi_96_3 (H : Hp) (k : IntKind) (n : Int) : cvO E 96 3 H (.pv (.int k n)) = some (.pv (.int .i64 (IntKind.i64.wrap n))) := cv_int ok_96 kd_3 H n
@[go_sem] theorem cvi_2_84 (H : Hp) (k : IntKind) (n : Int) : cvO E 2 84 H (.pv (.int k n)) = some (.pv (.int .u64 (IntKind.u64.wrap n))) := cv_int ok_2 kd_84 H n
@[go_sem] theorem cvi_21_5 (H : Hp) (k : IntKind) (n : Int) : cvO E 21 5 H (.pv (.int k n)) = some (.pv (.int .u8 (IntKind.u8.wrap n))) := cv_int ok_21 kd_5 H n
@[go_sem] theorem cvr_21_9 (H : Hp) (k : IntKind) (n : Int) : cvO E 21 9 H (.pv (.int k n)) = some (.pv (.str (Utf8.encode n).data.toList)) := cv_rune ok_21 kd_9 H n
@[go_sem] theorem cvi_3_84 (H : Hp) (k : IntKind) (n : Int) : cvO E 3 84 H (.pv (.int k n)) = some (.pv (.int .u64 (IntKind.u64.wrap n))) := cv_int ok_3 kd_84 H n
@[go_sem] theorem cvi_3_129 (H : Hp) (k : IntKind) (n : Int) : cvO E 3 129 H (.pv (.int k n)) = some (.pv (.int .u64 (IntKind.u64.wrap n))) := cv_int ok_3 kd_129 H n
@[go_sem] theorem cvi_84_5 (H : Hp) (k : IntKind) (n : Int) : cvO E 84 5 H (.pv (.int k n)) = some (.pv (.int .u8 (IntKind.u8.wrap n))) := cv_int ok_84 kd_5 H n
@[go_sem] theorem cvi_84_96 (H : Hp) (k : IntKind) (n : Int) : cvO E 84 96 H (.pv (.int k n)) = some (.pv (.int .u32 (IntKind.u32.wrap n))) := cv_int ok_84 kd_96 H n
@[go_sem] theorem cvi_96_5 (H : Hp) (k : IntKind) (n : Int) : cvO E 96 5 H (.pv (.int k n)) = some (.pv (.int .u8 (IntKind.u8.wrap n))) := cv_int ok_96 kd_5 H n
@[go_sem] theorem cvi_129_96 (H : Hp) (k : IntKind) (n : Int) : cvO E 129 96 H (.pv (.int k n)) = some (.pv (.int .u32 (IntKind.u32.wrap n))) := cv_int ok_129 kd_96 H n
@[go_sem] theorem cvi_5_96 (H : Hp) (k : IntKind) (n : Int) : cvO E 5 96 H (.pv (.int k n)) = some (.pv (.int .u32 (IntKind.u32.wrap n))) := cv_int ok_5 kd_96 H n
@[go_sem] theorem bv_40_0_1_2_3_4_7 (y0 : Int) (y1 : Int) (y2 : List UInt8) (y3 : List UInt8) (y4 : Int) (y7 : Int) : buildV E 40 [(0, .pv (.int .i64 y0)), (1, .pv (.int .i64 y1)), (2, .pv (.str y2)), (3, .pv (.str y3)), (4, .pv (.int .i64 y4)), (7, .pv (.int .i64 y7))] [] = some (.pv (GEvent.pv ({ GEvent.zero with proto := y0, kind := y1, topic := y2, payload := y3, qos := y4, id := y7 }))) := by kernel_rfl
@[go_sem] theorem bv_42_0_1 (y0 : Int) (y1 : Int) : buildV E 42 [(0, .pv (.int .i64 y0)), (1, .pv (.int .i64 y1))] [] = some (.pv (GLimits.pv (GLimits.mk y0 y1))) := by kernel_rfl
@[go_sem] theorem bs_57_11 (ev : Operand → AV) (p0 p1 p2 p3 p4 p5 p6 p7 p8 p9 p10 : Nat × Operand) : bsliceO E ev 57 11 [p0, p1, p2, p3, p4, p5, p6, p7, p8, p9, p10] = sliceP 2 (partsV 2 0 [(p0.1, ev p0.2), (p1.1, ev p1.2), (p2.1, ev p2.2), (p3.1, ev p3.2), (p4.1, ev p4.2), (p5.1, ev p5.2), (p6.1, ev p6.2), (p7.1, ev p7.2), (p8.1, ev p8.2), (p9.1, ev p9.2), (p10.1, ev p10.2)]) := bsliceO_V kd_57 sz_53 (by rw [ze_53]; rfl) rfl (by simp) ev
@[go_sem] theorem bv_40_0_1_2_3_4_7_5 (y0 : Int) (y1 : Int) (y2 : List UInt8) (y3 : List UInt8) (y4 : Int) (y7 : Int) (y5 : Bool) : buildV E 40 [(0, .pv (.int .i64 y0)), (1, .pv (.int .i64 y1)), (2, .pv (.str y2)), (3, .pv (.str y3)), (4, .pv (.int .i64 y4)), (7, .pv (.int .i64 y7)), (5, .pv (.bool y5))] [] = some (.pv (GEvent.pv ({ GEvent.zero with proto := y0, kind := y1, topic := y2, payload := y3, qos := y4, id := y7, retain := y5 }))) := by kernel_rfl
@[go_sem] theorem bv_35_0 (y0 : Int) : buildV E 35 [(0, .pv (.int .i64 y0))] [] = some (.pv (GMsg.pv ({ GMsg.zero with ty := y0 }))) := by kernel_rfl
@[go_sem] theorem bv_70_0_1 (y0 : List GHop) (y1 : GMsg) : buildV E 70 [(0, .pv (.lst 2 (List.map GHop.pv y0))), (1, .pv (y1.pv))] [] = some (.pv (GDatagram.pv (GDatagram.mk y0 y1))) := by kernel_rfl
@[go_sem] theorem bv_31  : buildV E 31 [] [] = some (.pv (GPacket.pv (GPacket.zero))) := by kernel_rfl
@[go_sem] theorem bv_35  : buildV E 35 [] [] = some (.pv (GMsg.pv (GMsg.zero))) := by kernel_rfl
@[go_sem] theorem bv_38  : buildV E 38 [] [] = some (.pv (GFrame.pv (GFrame.zero))) := by kernel_rfl
@[go_sem] theorem bv_60_0 (y0 : List UInt8) : buildV E 60 [(0, .pv (.str y0))] [] = some (.pv (GEventLabel.pv (GEventLabel.mk y0))) := by kernel_rfl
@[go_sem] theorem bs_106_1 (ev : Operand → AV) (p0 : Nat × Operand) : bsliceO E ev 106 1 [p0] = sliceP 1 (partsV 1 0 [(p0.1, ev p0.2)]) := bsliceO_V kd_106 sz_5 (by rw [ze_5]; rfl) rfl (by simp) ev
@[go_sem] theorem bv_88_0_1_2_3_4_5_6_7_8_9_10_11_12_13_14_15_16 (y0 : Int) (y1 : Int) (y2 : Int) (y3 : Int) (y4 : Int) (y5 : Bool) (y6 : Bool) (y7 : Bool) (y8 : Bool) (y9 : Bool) (y10 : Bool) (y11 : Bool) (y12 : List UInt8) (y13 : List UInt8) (y14 : List UInt8) (y15 : List UInt8) (y16 : List UInt8) : buildV E 88 [(0, .pv (.int .i64 y0)), (1, .pv (.int .i64 y1)), (2, .pv (.int .i64 y2)), (3, .pv (.int .i64 y3)), (4, .pv (.int .i64 y4)), (5, .pv (.bool y5)), (6, .pv (.bool y6)), (7, .pv (.bool y7)), (8, .pv (.bool y8)), (9, .pv (.bool y9)), (10, .pv (.bool y10)), (11, .pv (.bool y11)), (12, .pv (.str y12)), (13, .pv (.str y13)), (14, .pv (.str y14)), (15, .pv (.str y15)), (16, .pv (.str y16))] [] = some (.pv (GHeadBare.pv (GHeadBare.mk y0 y1 y2 y3 y4 y5 y6 y7 y8 y9 y10 y11 y12 y13 y14 y15 y16))) := by kernel_rfl
@[go_sem] theorem bv_108_0_1_2_3 (y0 : Int) (y1 : Int) (y2 : Int) (y3 : Int) : buildV E 108 [(0, .pv (.int .i64 y0)), (1, .pv (.int .i64 y1)), (2, .pv (.int .u32 y2)), (3, .pv (.int .u32 y3))] [] = some (.pv (GPropRule.pv (GPropRule.mk y0 y1 y2 y3))) := by kernel_rfl
@[go_sem] theorem bv_33  : buildV E 33 [] [] = some (.pv (GFlags.pv (GFlags.zero))) := by kernel_rfl
@[go_sem] theorem bv_35_0_1 (y0 : Int) (y1 : GFlags) : buildV E 35 [(0, .pv (.int .i64 y0)), (1, .pv (y1.pv))] [] = some (.pv (GMsg.pv ({ GMsg.zero with ty := y0, flags := y1 }))) := by kernel_rfl
@[go_sem] theorem bs_210_2 (ev : Operand → AV) (p0 p1 : Nat × Operand) : bsliceO E ev 210 2 [p0, p1] = sliceP 1 (partsV 1 0 [(p0.1, ev p0.2), (p1.1, ev p1.2)]) := bsliceO_V kd_210 sz_1 (by rw [ze_1]; rfl) rfl (by simp) ev
@[go_sem] theorem bs_210_1 (ev : Operand → AV) (p0 : Nat × Operand) : bsliceO E ev 210 1 [p0] = sliceP 1 (partsV 1 0 [(p0.1, ev p0.2)]) := bsliceO_V kd_210 sz_1 (by rw [ze_1]; rfl) rfl (by simp) ev
@[go_sem] theorem bs_210_4 (ev : Operand → AV) (p0 p1 p2 p3 : Nat × Operand) : bsliceO E ev 210 4 [p0, p1, p2, p3] = sliceP 1 (partsV 1 0 [(p0.1, ev p0.2), (p1.1, ev p1.2), (p2.1, ev p2.2), (p3.1, ev p3.2)]) := bsliceO_V kd_210 sz_1 (by rw [ze_1]; rfl) rfl (by simp) ev
@[go_sem] theorem bs_210_3 (ev : Operand → AV) (p0 p1 p2 : Nat × Operand) : bsliceO E ev 210 3 [p0, p1, p2] = sliceP 1 (partsV 1 0 [(p0.1, ev p0.2), (p1.1, ev p1.2), (p2.1, ev p2.2)]) := bsliceO_V kd_210 sz_1 (by rw [ze_1]; rfl) rfl (by simp) ev
@[go_sem] theorem bv_33_0_1_2_3_4_5 (y0 : Bool) (y1 : Int) (y2 : Bool) (y3 : Bool) (y4 : Bool) (y5 : Int) : buildV E 33 [(0, .pv (.bool y0)), (1, .pv (.int .i64 y1)), (2, .pv (.bool y2)), (3, .pv (.bool y3)), (4, .pv (.bool y4)), (5, .pv (.int .i64 y5))] [] = some (.pv (GFlags.pv (GFlags.mk y0 y1 y2 y3 y4 y5))) := by kernel_rfl
theorem go_3 (c : Oracle) (lp : LoopO PV) (x0 x1 x2 x3 x4 x5 : PV) : pureK E c lp 3 [x0, x1, x2, x3, x4, x5] = startC E c lp PV.same 3 7 Tryz.f3 [] [] (finP E [.tmp 12] [4]) (Fr.set (Fr.set (Fr.set (Fr.set (Fr.set (Fr.set (Fr.full 7) 0 (.pv x0)) 1 (.pv x1)) 2 (.pv x2)) 3 (.pv x3)) 4 (.pv x4)) 5 (.pv x5)) := by kernel_rfl
@[go_sem ↓] theorem ca_3 {c : Oracle} {bases : List Nat} {f : Nat} {vs : List AV} {H : Hp} : callO E c bases f 3 vs H = obind (argsO E H [3, 9, 9, 3, 3, 3] vs) (pureC c 3 H) := callO_pure (by kernel_rfl) (rfl) (by kernel_rfl) (fn := Tryz.f3) (by kernel_rfl) (by kernel_rfl)
theorem go_4 (c : Oracle) (lp : LoopO PV)  : pureK E c lp 4 [] = startC E c lp PV.same 4 3 Tryz.f4 [] [] (finP E [.tmp 0] [4]) (Fr.full 3) := by kernel_rfl
@[go_sem ↓] theorem ca_4 {c : Oracle} {bases : List Nat} {f : Nat} {vs : List AV} {H : Hp} : callO E c bases f 4 vs H = obind (argsO E H [] vs) (pureC c 4 H) := callO_pure (by kernel_rfl) (rfl) (by kernel_rfl) (fn := Tryz.f4) (by kernel_rfl) (by kernel_rfl)
theorem go_5 (c : Oracle) (lp : LoopO PV) (x0 x1 : PV) : pureK E c lp 5 [x0, x1] = startC E c lp PV.same 5 5 Tryz.f5 [] [] (finP E [.tmp 4] [3]) (Fr.set (Fr.set (Fr.full 5) 0 (.pv x0)) 1 (.pv x1)) := by kernel_rfl
@[go_sem ↓] theorem ca_5 {c : Oracle} {bases : List Nat} {f : Nat} {vs : List AV} {H : Hp} : callO E c bases f 5 vs H = obind (argsO E H [3, 3] vs) (pureC c 5 H) := callO_pure (by kernel_rfl) (rfl) (by kernel_rfl) (fn := Tryz.f5) (by kernel_rfl) (by kernel_rfl)
theorem go_6 (c : Oracle) (lp : LoopO PV) (x0 : PV) : pureK E c lp 6 [x0] = startC E c lp PV.same 6 5 Tryz.f6 [] [] (finP E [.tmp 2] [4]) (Fr.set (Fr.full 5) 0 (.pv x0)) := by kernel_rfl
@[go_sem ↓] theorem ca_6 {c : Oracle} {bases : List Nat} {f : Nat} {vs : List AV} {H : Hp} : callO E c bases f 6 vs H = obind (argsO E H [9] vs) (pureC c 6 H) := callO_pure (by kernel_rfl) (rfl) (by kernel_rfl) (fn := Tryz.f6) (by kernel_rfl) (by kernel_rfl)
theorem go_7 (c : Oracle) (lp : LoopO PV) (x0 : PV) : pureK E c lp 7 [x0] = startC E c lp PV.same 7 6 Tryz.f7 [] [] (finP E [.tmp 2] [43]) (Fr.set (Fr.full 6) 0 (.pv x0)) := by kernel_rfl
@[go_sem ↓] theorem ca_7 {c : Oracle} {bases : List Nat} {f : Nat} {vs : List AV} {H : Hp} : callO E c bases f 7 vs H = obind (argsO E H [40] vs) (pureC c 7 H) := callO_pure (by kernel_rfl) (rfl) (by kernel_rfl) (fn := Tryz.f7) (by kernel_rfl) (by kernel_rfl)
theorem go_8 (c : Oracle) (lp : LoopO PV) (x0 x1 : PV) : pureK E c lp 8 [x0, x1] = startC E c lp PV.same 8 5 Tryz.f8 [] [] (finP E [.tmp 4] [43]) (Fr.set (Fr.set (Fr.full 5) 0 (.pv x0)) 1 (.pv x1)) := by kernel_rfl
@[go_sem ↓] theorem ca_8 {c : Oracle} {bases : List Nat} {f : Nat} {vs : List AV} {H : Hp} : callO E c bases f 8 vs H = obind (argsO E H [40, 42] vs) (pureC c 8 H) := callO_pure (by kernel_rfl) (rfl) (by kernel_rfl) (fn := Tryz.f8) (by kernel_rfl) (by kernel_rfl)
theorem go_9 (c : Oracle) (lp : LoopO PV) (x0 : PV) : pureK E c lp 9 [x0] = startC E c lp PV.same 9 6 Tryz.f9 [] [] (finP E [.tmp 2] [9]) (Fr.set (Fr.full 6) 0 (.pv x0)) := by kernel_rfl
@[go_sem ↓] theorem ca_9 {c : Oracle} {bases : List Nat} {f : Nat} {vs : List AV} {H : Hp} : callO E c bases f 9 vs H = obind (argsO E H [40] vs) (pureC c 9 H) := callO_pure (by kernel_rfl) (rfl) (by kernel_rfl) (fn := Tryz.f9) (by kernel_rfl) (by kernel_rfl)
theorem go_10 (c : Oracle) (lp : LoopO PV)  : pureK E c lp 10 [] = startC E c lp PV.same 10 2 Tryz.f10 [] [] (finP E [.cell 0 40] [40]) (Fr.full 2) := by kernel_rfl
@[go_sem ↓] theorem ca_10 {c : Oracle} {bases : List Nat} {f : Nat} {vs : List AV} {H : Hp} : callO E c bases f 10 vs H = obind (argsO E H [] vs) (pureC c 10 H) := callO_pure (by kernel_rfl) (rfl) (by kernel_rfl) (fn := Tryz.f10) (by kernel_rfl) (by kernel_rfl)
theorem go_11 (c : Oracle) (lp : LoopO PV) (x0 : PV) : pureK E c lp 11 [x0] = startC E c lp PV.same 11 4 Tryz.f11 [] [] (finP E [.tmp 2] [4]) (Fr.set (Fr.full 4) 0 (.pv x0)) := by kernel_rfl
@[go_sem ↓] theorem ca_11 {c : Oracle} {bases : List Nat} {f : Nat} {vs : List AV} {H : Hp} : callO E c bases f 11 vs H = obind (argsO E H [9] vs) (pureC c 11 H) := callO_pure (by kernel_rfl) (rfl) (by kernel_rfl) (fn := Tryz.f11) (by kernel_rfl) (by kernel_rfl)
theorem go_12 (c : Oracle) (lp : LoopO PV) (x0 x1 : PV) : pureK E c lp 12 [x0, x1] = startC E c lp PV.same 12 5 Tryz.f12 [] [] (finP E [.tmp 4] [4]) (Fr.set (Fr.set (Fr.full 5) 0 (.pv x0)) 1 (.pv x1)) := by kernel_rfl
@[go_sem ↓] theorem ca_12 {c : Oracle} {bases : List Nat} {f : Nat} {vs : List AV} {H : Hp} : callO E c bases f 12 vs H = obind (argsO E H [9, 5] vs) (pureC c 12 H) := callO_pure (by kernel_rfl) (rfl) (by kernel_rfl) (fn := Tryz.f12) (by kernel_rfl) (by kernel_rfl)
theorem go_13 (c : Oracle) (lp : LoopO (AV × Hp)) (bases : List Nat) (x0 : AV) (H : Hp) : shutK E c lp bases 13 [x0] H = startC E c lp (fun _ _ => false) 13 4 Tryz.f13 (H.length :: bases) H (finS E H.length [.tmp 1]) (Fr.set (Fr.full 4) 0 (x0)) := by kernel_rfl
@[go_sem ↓] theorem ca_13 {c : Oracle} {bases : List Nat} {f : Nat} {vs : List AV} {H : Hp} : callO E c bases f 13 vs H = c.shut bases 13 vs H := callO_shut (by kernel_rfl) rfl (by rw [show E.cls 13 = .shut from by kernel_rfl]; exact fun h => by cases h)
theorem go_14 (c : Oracle) (lp : LoopO PV) (x0 : PV) : pureK E c lp 14 [x0] = startC E c lp PV.same 14 4 Tryz.f14 [] [] (finP E [.tmp 2] [4]) (Fr.set (Fr.full 4) 0 (.pv x0)) := by kernel_rfl
@[go_sem ↓] theorem ca_14 {c : Oracle} {bases : List Nat} {f : Nat} {vs : List AV} {H : Hp} : callO E c bases f 14 vs H = obind (argsO E H [3] vs) (pureC c 14 H) := callO_pure (by kernel_rfl) (rfl) (by kernel_rfl) (fn := Tryz.f14) (by kernel_rfl) (by kernel_rfl)
theorem go_15 (c : Oracle) (lp : LoopO (AV × Hp)) (bases : List Nat) (x0 : AV) (H : Hp) : shutK E c lp bases 15 [x0] H = startC E c lp (fun _ _ => false) 15 3 Tryz.f15 (H.length :: bases) H (finS E H.length [.tmp 1]) (Fr.set (Fr.full 3) 0 (x0)) := by kernel_rfl
@[go_sem ↓] theorem ca_15 {c : Oracle} {bases : List Nat} {f : Nat} {vs : List AV} {H : Hp} : callO E c bases f 15 vs H = c.shut bases 15 vs H := callO_shut (by kernel_rfl) rfl (by rw [show E.cls 15 = .shut from by kernel_rfl]; exact fun h => by cases h)
theorem go_16 (c : Oracle) (lp : LoopO PV) (x0 : PV) : pureK E c lp 16 [x0] = startC E c lp PV.same 16 4 Tryz.f16 [] [] (finP E [.tmp 2] [4]) (Fr.set (Fr.full 4) 0 (.pv x0)) := by kernel_rfl
@[go_sem ↓] theorem ca_16 {c : Oracle} {bases : List Nat} {f : Nat} {vs : List AV} {H : Hp} : callO E c bases f 16 vs H = obind (argsO E H [9] vs) (pureC c 16 H) := callO_pure (by kernel_rfl) (rfl) (by kernel_rfl) (fn := Tryz.f16) (by kernel_rfl) (by kernel_rfl)
theorem go_17 (c : Oracle) (lp : LoopO (AV × Hp)) (bases : List Nat) (x0 x1 : AV) (H : Hp) : shutK E c lp bases 17 [x0, x1] H = startC E c lp (fun _ _ => false) 17 5 Tryz.f17 (H.length :: bases) H (finS E H.length [.tmp 2]) (Fr.set (Fr.set (Fr.full 5) 0 (x0)) 1 (x1)) := by kernel_rfl
@[go_sem ↓] theorem ca_17 {c : Oracle} {bases : List Nat} {f : Nat} {vs : List AV} {H : Hp} : callO E c bases f 17 vs H = c.shut bases 17 vs H := callO_shut (by kernel_rfl) rfl (by rw [show E.cls 17 = .shut from by kernel_rfl]; exact fun h => by cases h)
theorem go_18 (c : Oracle) (lp : LoopO PV) (x0 x1 x2 : PV) : pureK E c lp 18 [x0, x1, x2] = startC E c lp PV.same 18 4 Tryz.f18 [] [] (finP E [.tmp 6] [4]) (Fr.set (Fr.set (Fr.set (Fr.full 4) 0 (.pv x0)) 1 (.pv x1)) 2 (.pv x2)) := by kernel_rfl
@[go_sem ↓] theorem ca_18 {c : Oracle} {bases : List Nat} {f : Nat} {vs : List AV} {H : Hp} : callO E c bases f 18 vs H = obind (argsO E H [3, 3, 3] vs) (pureC c 18 H) := callO_pure (by kernel_rfl) (rfl) (by kernel_rfl) (fn := Tryz.f18) (by kernel_rfl) (by kernel_rfl)
theorem go_19 (c : Oracle) (lp : LoopO (AV × Hp)) (bases : List Nat) (x0 x1 : AV) (H : Hp) : shutK E c lp bases 19 [x0, x1] H = startC E c lp (fun _ _ => false) 19 4 Tryz.f19 (H.length :: bases) H (finS E H.length [.tmp 2]) (Fr.set (Fr.set (Fr.full 4) 0 (x0)) 1 (x1)) := by kernel_rfl
@[go_sem ↓] theorem ca_19 {c : Oracle} {bases : List Nat} {f : Nat} {vs : List AV} {H : Hp} : callO E c bases f 19 vs H = c.shut bases 19 vs H := callO_shut (by kernel_rfl) rfl (by rw [show E.cls 19 = .shut from by kernel_rfl]; exact fun h => by cases h)
theorem go_20 (c : Oracle) (lp : LoopO (AV × Hp)) (bases : List Nat) (x0 x1 x2 : AV) (H : Hp) : shutK E c lp bases 20 [x0, x1, x2] H = startC E c lp (fun _ _ => false) 20 4 Tryz.f20 (H.length :: bases) H (finS E H.length [.tmp 3]) (Fr.set (Fr.set (Fr.set (Fr.full 4) 0 (x0)) 1 (x1)) 2 (x2)) := by kernel_rfl
@[go_sem ↓] theorem ca_20 {c : Oracle} {bases : List Nat} {f : Nat} {vs : List AV} {H : Hp} : callO E c bases f 20 vs H = c.shut bases 20 vs H := callO_shut (by kernel_rfl) rfl (by rw [show E.cls 20 = .shut from by kernel_rfl]; exact fun h => by cases h)
theorem go_21 (c : Oracle) (lp : LoopO (AV × Hp)) (bases : List Nat) (x0 : AV) (H : Hp) : shutK E c lp bases 21 [x0] H = startC E c lp (fun _ _ => false) 21 4 Tryz.f21 (H.length :: bases) H (finS E H.length [.tmp 1]) (Fr.set (Fr.full 4) 0 (x0)) := by kernel_rfl
@[go_sem ↓] theorem ca_21 {c : Oracle} {bases : List Nat} {f : Nat} {vs : List AV} {H : Hp} : callO E c bases f 21 vs H = c.shut bases 21 vs H := callO_shut (by kernel_rfl) rfl (by rw [show E.cls 21 = .shut from by kernel_rfl]; exact fun h => by cases h)
theorem go_22 (c : Oracle) (lp : LoopO (AV × Hp)) (bases : List Nat) (x0 x1 : AV) (H : Hp) : shutK E c lp bases 22 [x0, x1] H = startC E c lp (fun _ _ => false) 22 5 Tryz.f22 (H.length :: bases) H (finS E H.length [.tmp 2]) (Fr.set (Fr.set (Fr.full 5) 0 (x0)) 1 (x1)) := by kernel_rfl
@[go_sem ↓] theorem ca_22 {c : Oracle} {bases : List Nat} {f : Nat} {vs : List AV} {H : Hp} : callO E c bases f 22 vs H = c.shut bases 22 vs H := callO_shut (by kernel_rfl) rfl (by rw [show E.cls 22 = .shut from by kernel_rfl]; exact fun h => by cases h)
theorem go_23 (c : Oracle) (lp : LoopO PV) (x0 : PV) : pureK E c lp 23 [x0] = startC E c lp PV.same 23 5 Tryz.f23 [] [] (finP E [.tmp 2] [4]) (Fr.set (Fr.full 5) 0 (.pv x0)) := by kernel_rfl
@[go_sem ↓] theorem ca_23 {c : Oracle} {bases : List Nat} {f : Nat} {vs : List AV} {H : Hp} : callO E c bases f 23 vs H = obind (argsO E H [40] vs) (pureC c 23 H) := callO_pure (by kernel_rfl) (rfl) (by kernel_rfl) (fn := Tryz.f23) (by kernel_rfl) (by kernel_rfl)
theorem go_24 (c : Oracle) (lp : LoopO (AV × Hp)) (bases : List Nat) (x0 : AV) (H : Hp) : shutK E c lp bases 24 [x0] H = startC E c lp (fun _ _ => false) 24 3 Tryz.f24 (H.length :: bases) H (finS E H.length [.tmp 1]) (Fr.set (Fr.full 3) 0 (x0)) := by kernel_rfl
@[go_sem ↓] theorem ca_24 {c : Oracle} {bases : List Nat} {f : Nat} {vs : List AV} {H : Hp} : callO E c bases f 24 vs H = c.shut bases 24 vs H := callO_shut (by kernel_rfl) rfl (by rw [show E.cls 24 = .shut from by kernel_rfl]; exact fun h => by cases h)
theorem go_25 (c : Oracle) (lp : LoopO (AV × Hp)) (bases : List Nat) (x0 : AV) (H : Hp) : shutK E c lp bases 25 [x0] H = startC E c lp (fun _ _ => false) 25 4 Tryz.f25 (H.length :: bases) H (finS E H.length [.tmp 1]) (Fr.set (Fr.full 4) 0 (x0)) := by kernel_rfl
@[go_sem ↓] theorem ca_25 {c : Oracle} {bases : List Nat} {f : Nat} {vs : List AV} {H : Hp} : callO E c bases f 25 vs H = c.shut bases 25 vs H := callO_shut (by kernel_rfl) rfl (by rw [show E.cls 25 = .shut from by kernel_rfl]; exact fun h => by cases h)
theorem go_26 (c : Oracle) (lp : LoopO (AV × Hp)) (bases : List Nat) (x0 : AV) (H : Hp) : shutK E c lp bases 26 [x0] H = startC E c lp (fun _ _ => false) 26 3 Tryz.f26 (H.length :: bases) H (finS E H.length [.tmp 1]) (Fr.set (Fr.full 3) 0 (x0)) := by kernel_rfl
@[go_sem ↓] theorem ca_26 {c : Oracle} {bases : List Nat} {f : Nat} {vs : List AV} {H : Hp} : callO E c bases f 26 vs H = c.shut bases 26 vs H := callO_shut (by kernel_rfl) rfl (by rw [show E.cls 26 = .shut from by kernel_rfl]; exact fun h => by cases h)
theorem go_27 (c : Oracle) (lp : LoopO PV) (x0 : PV) : pureK E c lp 27 [x0] = startC E c lp PV.same 27 5 Tryz.f27 [] [] (finP E [.tmp 2] [4]) (Fr.set (Fr.full 5) 0 (.pv x0)) := by kernel_rfl
@[go_sem ↓] theorem ca_27 {c : Oracle} {bases : List Nat} {f : Nat} {vs : List AV} {H : Hp} : callO E c bases f 27 vs H = obind (argsO E H [40] vs) (pureC c 27 H) := callO_pure (by kernel_rfl) (rfl) (by kernel_rfl) (fn := Tryz.f27) (by kernel_rfl) (by kernel_rfl)
theorem go_28 (c : Oracle) (lp : LoopO (AV × Hp)) (bases : List Nat) (x0 : AV) (H : Hp) : shutK E c lp bases 28 [x0] H = startC E c lp (fun _ _ => false) 28 3 Tryz.f28 (H.length :: bases) H (finS E H.length [.tmp 1]) (Fr.set (Fr.full 3) 0 (x0)) := by kernel_rfl
@[go_sem ↓] theorem ca_28 {c : Oracle} {bases : List Nat} {f : Nat} {vs : List AV} {H : Hp} : callO E c bases f 28 vs H = c.shut bases 28 vs H := callO_shut (by kernel_rfl) rfl (by rw [show E.cls 28 = .shut from by kernel_rfl]; exact fun h => by cases h)
theorem go_29 (c : Oracle) (lp : LoopO PV) (x0 x1 : PV) : pureK E c lp 29 [x0, x1] = startC E c lp PV.same 29 4 Tryz.f29 [] [] (finP E [.tmp 4] [43]) (Fr.set (Fr.set (Fr.full 4) 0 (.pv x0)) 1 (.pv x1)) := by kernel_rfl
@[go_sem ↓] theorem ca_29 {c : Oracle} {bases : List Nat} {f : Nat} {vs : List AV} {H : Hp} : callO E c bases f 29 vs H = obind (argsO E H [3, 24] vs) (pureC c 29 H) := callO_pure (by kernel_rfl) (rfl) (by kernel_rfl) (fn := Tryz.f29) (by kernel_rfl) (by kernel_rfl)
theorem go_30 (c : Oracle) (lp : LoopO PV) (x0 : PV) : pureK E c lp 30 [x0] = startC E c lp PV.same 30 5 Tryz.f30 [] [] (finP E [.tmp 2] [4]) (Fr.set (Fr.full 5) 0 (.pv x0)) := by kernel_rfl
@[go_sem ↓] theorem ca_30 {c : Oracle} {bases : List Nat} {f : Nat} {vs : List AV} {H : Hp} : callO E c bases f 30 vs H = obind (argsO E H [42] vs) (pureC c 30 H) := callO_pure (by kernel_rfl) (rfl) (by kernel_rfl) (fn := Tryz.f30) (by kernel_rfl) (by kernel_rfl)
theorem go_32 (c : Oracle) (lp : LoopO PV)  : pureK E c lp 32 [] = startC E c lp PV.same 32 3 Tryz.f32 [] [] (finP E [.tmp 0] [62]) (Fr.full 3) := by kernel_rfl
@[go_sem ↓] theorem ca_32 {c : Oracle} {bases : List Nat} {f : Nat} {vs : List AV} {H : Hp} : callO E c bases f 32 vs H = obind (argsO E H [] vs) (pureC c 32 H) := callO_pure (by kernel_rfl) (rfl) (by kernel_rfl) (fn := Tryz.f32) (by kernel_rfl) (by kernel_rfl)
theorem go_33 (c : Oracle) (lp : LoopO PV) (x0 : PV) : pureK E c lp 33 [x0] = startC E c lp PV.same 33 3 Tryz.f33 [] [] (finP E [.tmp 2] [9]) (Fr.set (Fr.full 3) 0 (.pv x0)) := by kernel_rfl
@[go_sem ↓] theorem ca_33 {c : Oracle} {bases : List Nat} {f : Nat} {vs : List AV} {H : Hp} : callO E c bases f 33 vs H = obind (argsO E H [3] vs) (pureC c 33 H) := callO_pure (by kernel_rfl) (rfl) (by kernel_rfl) (fn := Tryz.f33) (by kernel_rfl) (by kernel_rfl)
theorem go_34 (c : Oracle) (lp : LoopO PV) (x0 : PV) : pureK E c lp 34 [x0] = startC E c lp PV.same 34 5 Tryz.f34 [] [] (finP E [.tmp 2] [3]) (Fr.set (Fr.full 5) 0 (.pv x0)) := by kernel_rfl
@[go_sem ↓] theorem ca_34 {c : Oracle} {bases : List Nat} {f : Nat} {vs : List AV} {H : Hp} : callO E c bases f 34 vs H = obind (argsO E H [9] vs) (pureC c 34 H) := callO_pure (by kernel_rfl) (rfl) (by kernel_rfl) (fn := Tryz.f34) (by kernel_rfl) (by kernel_rfl)
theorem go_35 (c : Oracle) (lp : LoopO PV) (x0 : PV) : pureK E c lp 35 [x0] = startC E c lp PV.same 35 4 Tryz.f35 [] [] (finP E [.tmp 2] [4]) (Fr.set (Fr.full 4) 0 (.pv x0)) := by kernel_rfl
@[go_sem ↓] theorem ca_35 {c : Oracle} {bases : List Nat} {f : Nat} {vs : List AV} {H : Hp} : callO E c bases f 35 vs H = obind (argsO E H [9] vs) (pureC c 35 H) := callO_pure (by kernel_rfl) (rfl) (by kernel_rfl) (fn := Tryz.f35) (by kernel_rfl) (by kernel_rfl)
theorem go_36 (c : Oracle) (lp : LoopO PV) (x0 x1 : PV) : pureK E c lp 36 [x0, x1] = startC E c lp PV.same 36 4 Tryz.f36 [] [] (finP E [.tmp 4] [4]) (Fr.set (Fr.set (Fr.full 4) 0 (.pv x0)) 1 (.pv x1)) := by kernel_rfl
@[go_sem ↓] theorem ca_36 {c : Oracle} {bases : List Nat} {f : Nat} {vs : List AV} {H : Hp} : callO E c bases f 36 vs H = obind (argsO E H [9, 9] vs) (pureC c 36 H) := callO_pure (by kernel_rfl) (rfl) (by kernel_rfl) (fn := Tryz.f36) (by kernel_rfl) (by kernel_rfl)
theorem go_37 (c : Oracle) (lp : LoopO PV) (x0 : PV) : pureK E c lp 37 [x0] = startC E c lp PV.same 37 4 Tryz.f37 [] [] (finP E [.tmp 2, .tmp 3] [3, 4]) (Fr.set (Fr.full 4) 0 (.pv x0)) := by kernel_rfl
@[go_sem ↓] theorem ca_37 {c : Oracle} {bases : List Nat} {f : Nat} {vs : List AV} {H : Hp} : callO E c bases f 37 vs H = obind (argsO E H [9] vs) (pureC c 37 H) := callO_pure (by kernel_rfl) (rfl) (by kernel_rfl) (fn := Tryz.f37) (by kernel_rfl) (by kernel_rfl)
theorem go_38 (c : Oracle) (lp : LoopO PV) (x0 x1 : PV) : pureK E c lp 38 [x0, x1] = startC E c lp PV.same 38 4 Tryz.f38 [] [] (finP E [.tmp 4] [43]) (Fr.set (Fr.set (Fr.full 4) 0 (.pv x0)) 1 (.pv x1)) := by kernel_rfl
@[go_sem ↓] theorem ca_38 {c : Oracle} {bases : List Nat} {f : Nat} {vs : List AV} {H : Hp} : callO E c bases f 38 vs H = obind (argsO E H [70, 42] vs) (pureC c 38 H) := callO_pure (by kernel_rfl) (rfl) (by kernel_rfl) (fn := Tryz.f38) (by kernel_rfl) (by kernel_rfl)
theorem go_39 (c : Oracle) (lp : LoopO PV)  : pureK E c lp 39 [] = startC E c lp PV.same 39 2 Tryz.f39 [] [] (finP E [.cell 0 42] [42]) (Fr.full 2) := by kernel_rfl
@[go_sem ↓] theorem ca_39 {c : Oracle} {bases : List Nat} {f : Nat} {vs : List AV} {H : Hp} : callO E c bases f 39 vs H = obind (argsO E H [] vs) (pureC c 39 H) := callO_pure (by kernel_rfl) (rfl) (by kernel_rfl) (fn := Tryz.f39) (by kernel_rfl) (by kernel_rfl)
theorem go_40 (c : Oracle) (lp : LoopO PV) (x0 x1 : PV) : pureK E c lp 40 [x0, x1] = startC E c lp PV.same 40 6 Tryz.f40 [] [] (finP E [.tmp 4] [4]) (Fr.set (Fr.set (Fr.full 6) 0 (.pv x0)) 1 (.pv x1)) := by kernel_rfl
@[go_sem ↓] theorem ca_40 {c : Oracle} {bases : List Nat} {f : Nat} {vs : List AV} {H : Hp} : callO E c bases f 40 vs H = obind (argsO E H [31, 31] vs) (pureC c 40 H) := callO_pure (by kernel_rfl) (rfl) (by kernel_rfl) (fn := Tryz.f40) (by kernel_rfl) (by kernel_rfl)
theorem go_41 (c : Oracle) (lp : LoopO PV) (x0 x1 : PV) : pureK E c lp 41 [x0, x1] = startC E c lp PV.same 41 6 Tryz.f41 [] [] (finP E [.tmp 4] [4]) (Fr.set (Fr.set (Fr.full 6) 0 (.pv x0)) 1 (.pv x1)) := by kernel_rfl
@[go_sem ↓] theorem ca_41 {c : Oracle} {bases : List Nat} {f : Nat} {vs : List AV} {H : Hp} : callO E c bases f 41 vs H = obind (argsO E H [38, 38] vs) (pureC c 41 H) := callO_pure (by kernel_rfl) (rfl) (by kernel_rfl) (fn := Tryz.f41) (by kernel_rfl) (by kernel_rfl)
theorem go_42 (c : Oracle) (lp : LoopO PV) (x0 x1 : PV) : pureK E c lp 42 [x0, x1] = startC E c lp PV.same 42 7 Tryz.f42 [] [] (finP E [.tmp 4, .tmp 5] [9, 43]) (Fr.set (Fr.set (Fr.full 7) 0 (.pv x0)) 1 (.pv x1)) := by kernel_rfl
@[go_sem ↓] theorem ca_42 {c : Oracle} {bases : List Nat} {f : Nat} {vs : List AV} {H : Hp} : callO E c bases f 42 vs H = obind (argsO E H [3, 24] vs) (pureC c 42 H) := callO_pure (by kernel_rfl) (rfl) (by kernel_rfl) (fn := Tryz.f42) (by kernel_rfl) (by kernel_rfl)
theorem go_47 (c : Oracle) (lp : LoopO PV) (x0 : PV) : pureK E c lp 47 [x0] = startC E c lp PV.same 47 3 Tryz.f47 [] [] (finP E [.tmp 2] [9]) (Fr.set (Fr.full 3) 0 (.pv x0)) := by kernel_rfl
@[go_sem ↓] theorem ca_47 {c : Oracle} {bases : List Nat} {f : Nat} {vs : List AV} {H : Hp} : callO E c bases f 47 vs H = obind (argsO E H [3] vs) (pureC c 47 H) := callO_pure (by kernel_rfl) (rfl) (by kernel_rfl) (fn := Tryz.f47) (by kernel_rfl) (by kernel_rfl)
theorem go_48 (c : Oracle) (lp : LoopO PV) (x0 x1 : PV) : pureK E c lp 48 [x0, x1] = startC E c lp PV.same 48 7 Tryz.f48 [] [] (finP E [.tmp 4, .tmp 5] [3, 3]) (Fr.set (Fr.set (Fr.full 7) 0 (.pv x0)) 1 (.pv x1)) := by kernel_rfl
@[go_sem ↓] theorem ca_48 {c : Oracle} {bases : List Nat} {f : Nat} {vs : List AV} {H : Hp} : callO E c bases f 48 vs H = obind (argsO E H [9, 3] vs) (pureC c 48 H) := callO_pure (by kernel_rfl) (rfl) (by kernel_rfl) (fn := Tryz.f48) (by kernel_rfl) (by kernel_rfl)
theorem go_49 (c : Oracle) (lp : LoopO PV) (x0 : PV) : pureK E c lp 49 [x0] = startC E c lp PV.same 49 4 Tryz.f49 [] [] (finP E [.tmp 2] [4]) (Fr.set (Fr.full 4) 0 (.pv x0)) := by kernel_rfl
@[go_sem ↓] theorem ca_49 {c : Oracle} {bases : List Nat} {f : Nat} {vs : List AV} {H : Hp} : callO E c bases f 49 vs H = obind (argsO E H [9] vs) (pureC c 49 H) := callO_pure (by kernel_rfl) (rfl) (by kernel_rfl) (fn := Tryz.f49) (by kernel_rfl) (by kernel_rfl)
theorem go_50 (c : Oracle) (lp : LoopO PV) (x0 x1 : PV) : pureK E c lp 50 [x0, x1] = startC E c lp PV.same 50 6 Tryz.f50 [] [] (finP E [.tmp 4] [3]) (Fr.set (Fr.set (Fr.full 6) 0 (.pv x0)) 1 (.pv x1)) := by kernel_rfl
@[go_sem ↓] theorem ca_50 {c : Oracle} {bases : List Nat} {f : Nat} {vs : List AV} {H : Hp} : callO E c bases f 50 vs H = obind (argsO E H [9, 9] vs) (pureC c 50 H) := callO_pure (by kernel_rfl) (rfl) (by kernel_rfl) (fn := Tryz.f50) (by kernel_rfl) (by kernel_rfl)
theorem go_51 (c : Oracle) (lp : LoopO PV) (x0 : PV) : pureK E c lp 51 [x0] = startC E c lp PV.same 51 5 Tryz.f51 [] [] (finP E [.tmp 2] [84]) (Fr.set (Fr.full 5) 0 (.pv x0)) := by kernel_rfl
@[go_sem ↓] theorem ca_51 {c : Oracle} {bases : List Nat} {f : Nat} {vs : List AV} {H : Hp} : callO E c bases f 51 vs H = obind (argsO E H [9] vs) (pureC c 51 H) := callO_pure (by kernel_rfl) (rfl) (by kernel_rfl) (fn := Tryz.f51) (by kernel_rfl) (by kernel_rfl)
theorem go_52 (c : Oracle) (lp : LoopO PV) (x0 x1 : PV) : pureK E c lp 52 [x0, x1] = startC E c lp PV.same 52 6 Tryz.f52 [] [] (finP E [.tmp 4, .tmp 5] [9, 43]) (Fr.set (Fr.set (Fr.full 6) 0 (.pv x0)) 1 (.pv x1)) := by kernel_rfl
@[go_sem ↓] theorem ca_52 {c : Oracle} {bases : List Nat} {f : Nat} {vs : List AV} {H : Hp} : callO E c bases f 52 vs H = obind (argsO E H [70, 42] vs) (pureC c 52 H) := callO_pure (by kernel_rfl) (rfl) (by kernel_rfl) (fn := Tryz.f52) (by kernel_rfl) (by kernel_rfl)
theorem go_53 (c : Oracle) (lp : LoopO PV) (x0 : PV) : pureK E c lp 53 [x0] = startC E c lp PV.same 53 6 Tryz.f53 [] [] (finP E [.cell 2 88] [88]) (Fr.set (Fr.full 6) 0 (.pv x0)) := by kernel_rfl
@[go_sem ↓] theorem ca_53 {c : Oracle} {bases : List Nat} {f : Nat} {vs : List AV} {H : Hp} : callO E c bases f 53 vs H = obind (argsO E H [31] vs) (pureC c 53 H) := callO_pure (by kernel_rfl) (rfl) (by kernel_rfl) (fn := Tryz.f53) (by kernel_rfl) (by kernel_rfl)
theorem go_54 (c : Oracle) (lp : LoopO PV) (x0 x1 : PV) : pureK E c lp 54 [x0, x1] = startC E c lp PV.same 54 6 Tryz.f54 [] [] (finP E [.tmp 4] [4]) (Fr.set (Fr.set (Fr.full 6) 0 (.pv x0)) 1 (.pv x1)) := by kernel_rfl
@[go_sem ↓] theorem ca_54 {c : Oracle} {bases : List Nat} {f : Nat} {vs : List AV} {H : Hp} : callO E c bases f 54 vs H = obind (argsO E H [27, 27] vs) (pureC c 54 H) := callO_pure (by kernel_rfl) (rfl) (by kernel_rfl) (fn := Tryz.f54) (by kernel_rfl) (by kernel_rfl)
theorem go_55 (c : Oracle) (lp : LoopO PV) (x0 x1 : PV) : pureK E c lp 55 [x0, x1] = startC E c lp PV.same 55 4 Tryz.f55 [] [] (finP E [.tmp 4] [4]) (Fr.set (Fr.set (Fr.full 4) 0 (.pv x0)) 1 (.pv x1)) := by kernel_rfl
@[go_sem ↓] theorem ca_55 {c : Oracle} {bases : List Nat} {f : Nat} {vs : List AV} {H : Hp} : callO E c bases f 55 vs H = obind (argsO E H [28, 28] vs) (pureC c 55 H) := callO_pure (by kernel_rfl) (rfl) (by kernel_rfl) (fn := Tryz.f55) (by kernel_rfl) (by kernel_rfl)
theorem go_56 (c : Oracle) (lp : LoopO PV) (x0 x1 : PV) : pureK E c lp 56 [x0, x1] = startC E c lp PV.same 56 4 Tryz.f56 [] [] (finP E [.tmp 4] [4]) (Fr.set (Fr.set (Fr.full 4) 0 (.pv x0)) 1 (.pv x1)) := by kernel_rfl
@[go_sem ↓] theorem ca_56 {c : Oracle} {bases : List Nat} {f : Nat} {vs : List AV} {H : Hp} : callO E c bases f 56 vs H = obind (argsO E H [29, 29] vs) (pureC c 56 H) := callO_pure (by kernel_rfl) (rfl) (by kernel_rfl) (fn := Tryz.f56) (by kernel_rfl) (by kernel_rfl)
theorem go_57 (c : Oracle) (lp : LoopO PV) (x0 x1 : PV) : pureK E c lp 57 [x0, x1] = startC E c lp PV.same 57 4 Tryz.f57 [] [] (finP E [.tmp 4] [4]) (Fr.set (Fr.set (Fr.full 4) 0 (.pv x0)) 1 (.pv x1)) := by kernel_rfl
@[go_sem ↓] theorem ca_57 {c : Oracle} {bases : List Nat} {f : Nat} {vs : List AV} {H : Hp} : callO E c bases f 57 vs H = obind (argsO E H [24, 24] vs) (pureC c 57 H) := callO_pure (by kernel_rfl) (rfl) (by kernel_rfl) (fn := Tryz.f57) (by kernel_rfl) (by kernel_rfl)
theorem go_58 (c : Oracle) (lp : LoopO PV) (x0 x1 : PV) : pureK E c lp 58 [x0, x1] = startC E c lp PV.same 58 6 Tryz.f58 [] [] (finP E [.tmp 4] [4]) (Fr.set (Fr.set (Fr.full 6) 0 (.pv x0)) 1 (.pv x1)) := by kernel_rfl
@[go_sem ↓] theorem ca_58 {c : Oracle} {bases : List Nat} {f : Nat} {vs : List AV} {H : Hp} : callO E c bases f 58 vs H = obind (argsO E H [100, 100] vs) (pureC c 58 H) := callO_pure (by kernel_rfl) (rfl) (by kernel_rfl) (fn := Tryz.f58) (by kernel_rfl) (by kernel_rfl)
theorem go_59 (c : Oracle) (lp : LoopO PV)  : pureK E c lp 59 [] = startC E c lp PV.same 59 5 Tryz.f59 [] [] (finP E [.tmp 0] [102]) (Fr.full 5) := by kernel_rfl
@[go_sem ↓] theorem ca_59 {c : Oracle} {bases : List Nat} {f : Nat} {vs : List AV} {H : Hp} : callO E c bases f 59 vs H = obind (argsO E H [] vs) (pureC c 59 H) := callO_pure (by kernel_rfl) (rfl) (by kernel_rfl) (fn := Tryz.f59) (by kernel_rfl) (by kernel_rfl)
theorem go_60 (c : Oracle) (lp : LoopO PV) (x0 x1 x2 : PV) : pureK E c lp 60 [x0, x1, x2] = startC E c lp PV.same 60 6 Tryz.f60 [] [] (finP E [.tmp 6] [43]) (Fr.set (Fr.set (Fr.set (Fr.full 6) 0 (.pv x0)) 1 (.pv x1)) 2 (.pv x2)) := by kernel_rfl
@[go_sem ↓] theorem ca_60 {c : Oracle} {bases : List Nat} {f : Nat} {vs : List AV} {H : Hp} : callO E c bases f 60 vs H = obind (argsO E H [108, 3, 98] vs) (pureC c 60 H) := callO_pure (by kernel_rfl) (rfl) (by kernel_rfl) (fn := Tryz.f60) (by kernel_rfl) (by kernel_rfl)
theorem go_61 (c : Oracle) (lp : LoopO (AV × Hp)) (bases : List Nat) (x0 x1 x2 : AV) (H : Hp) : shutK E c lp bases 61 [x0, x1, x2] H = startC E c lp (fun _ _ => false) 61 5 Tryz.f61 (H.length :: bases) H (finS E H.length [.tmp 6]) (Fr.set (Fr.set (Fr.set (Fr.full 5) 0 (x0)) 1 (x1)) 2 (x2)) := by kernel_rfl
@[go_sem ↓] theorem ca_61 {c : Oracle} {bases : List Nat} {f : Nat} {vs : List AV} {H : Hp} : callO E c bases f 61 vs H = c.shut bases 61 vs H := callO_shut (by kernel_rfl) rfl (by rw [show E.cls 61 = .shut from by kernel_rfl]; exact fun h => by cases h)
theorem go_62 (c : Oracle) (lp : LoopO PV) (x0 x1 : PV) : pureK E c lp 62 [x0, x1] = startC E c lp PV.same 62 6 Tryz.f62 [] [] (finP E [.tmp 4] [9]) (Fr.set (Fr.set (Fr.full 6) 0 (.pv x0)) 1 (.pv x1)) := by kernel_rfl
@[go_sem ↓] theorem ca_62 {c : Oracle} {bases : List Nat} {f : Nat} {vs : List AV} {H : Hp} : callO E c bases f 62 vs H = obind (argsO E H [3, 98] vs) (pureC c 62 H) := callO_pure (by kernel_rfl) (rfl) (by kernel_rfl) (fn := Tryz.f62) (by kernel_rfl) (by kernel_rfl)
theorem go_63 (c : Oracle) (lp : LoopO (AV × Hp)) (bases : List Nat) (x0 : AV) (H : Hp) : shutK E c lp bases 63 [x0] H = startC E c lp (fun _ _ => false) 63 4 Tryz.f63 (H.length :: bases) H (finS E H.length [.tmp 2]) (Fr.set (Fr.full 4) 0 (x0)) := by kernel_rfl
@[go_sem ↓] theorem ca_63 {c : Oracle} {bases : List Nat} {f : Nat} {vs : List AV} {H : Hp} : callO E c bases f 63 vs H = c.shut bases 63 vs H := callO_shut (by kernel_rfl) rfl (by rw [show E.cls 63 = .shut from by kernel_rfl]; exact fun h => by cases h)
theorem go_64 (c : Oracle) (lp : LoopO PV) (x0 : PV) : pureK E c lp 64 [x0] = startC E c lp PV.same 64 5 Tryz.f64 [] [] (finP E [.tmp 2, .tmp 3] [9, 43]) (Fr.set (Fr.full 5) 0 (.pv x0)) := by kernel_rfl
@[go_sem ↓] theorem ca_64 {c : Oracle} {bases : List Nat} {f : Nat} {vs : List AV} {H : Hp} : callO E c bases f 64 vs H = obind (argsO E H [3] vs) (pureC c 64 H) := callO_pure (by kernel_rfl) (rfl) (by kernel_rfl) (fn := Tryz.f64) (by kernel_rfl) (by kernel_rfl)
theorem go_73 (c : Oracle) (lp : LoopO PV) (x0 x1 : PV) : pureK E c lp 73 [x0, x1] = startC E c lp PV.same 73 6 Tryz.f73 [] [] (finP E [.tmp 4] [9]) (Fr.set (Fr.set (Fr.full 6) 0 (.pv x0)) 1 (.pv x1)) := by kernel_rfl
@[go_sem ↓] theorem ca_73 {c : Oracle} {bases : List Nat} {f : Nat} {vs : List AV} {H : Hp} : callO E c bases f 73 vs H = obind (argsO E H [2, 3] vs) (pureC c 73 H) := callO_pure (by kernel_rfl) (rfl) (by kernel_rfl) (fn := Tryz.f73) (by kernel_rfl) (by kernel_rfl)
theorem go_74 (c : Oracle) (lp : LoopO PV) (x0 x1 : PV) : pureK E c lp 74 [x0, x1] = startC E c lp PV.same 74 5 Tryz.f74 [] [] (finP E [.tmp 4, .tmp 5] [3, 4]) (Fr.set (Fr.set (Fr.full 5) 0 (.pv x0)) 1 (.pv x1)) := by kernel_rfl
@[go_sem ↓] theorem ca_74 {c : Oracle} {bases : List Nat} {f : Nat} {vs : List AV} {H : Hp} : callO E c bases f 74 vs H = obind (argsO E H [9, 3] vs) (pureC c 74 H) := callO_pure (by kernel_rfl) (rfl) (by kernel_rfl) (fn := Tryz.f74) (by kernel_rfl) (by kernel_rfl)
theorem go_75 (c : Oracle) (lp : LoopO PV) (x0 : PV) : pureK E c lp 75 [x0] = startC E c lp PV.same 75 5 Tryz.f75 [] [] (finP E [.tmp 2] [3]) (Fr.set (Fr.full 5) 0 (.pv x0)) := by kernel_rfl
@[go_sem ↓] theorem ca_75 {c : Oracle} {bases : List Nat} {f : Nat} {vs : List AV} {H : Hp} : callO E c bases f 75 vs H = obind (argsO E H [9] vs) (pureC c 75 H) := callO_pure (by kernel_rfl) (rfl) (by kernel_rfl) (fn := Tryz.f75) (by kernel_rfl) (by kernel_rfl)
theorem go_76 (c : Oracle) (lp : LoopO PV) (x0 x1 : PV) : pureK E c lp 76 [x0, x1] = startC E c lp PV.same 76 8 Tryz.f76 [] [] (finP E [.tmp 4] [3]) (Fr.set (Fr.set (Fr.full 8) 0 (.pv x0)) 1 (.pv x1)) := by kernel_rfl
@[go_sem ↓] theorem ca_76 {c : Oracle} {bases : List Nat} {f : Nat} {vs : List AV} {H : Hp} : callO E c bases f 76 vs H = obind (argsO E H [9, 21] vs) (pureC c 76 H) := callO_pure (by kernel_rfl) (rfl) (by kernel_rfl) (fn := Tryz.f76) (by kernel_rfl) (by kernel_rfl)
theorem go_77 (c : Oracle) (lp : LoopO PV) (x0 : PV) : pureK E c lp 77 [x0] = startC E c lp PV.same 77 3 Tryz.f77 [] [] (finP E [.tmp 2] [4]) (Fr.set (Fr.full 3) 0 (.pv x0)) := by kernel_rfl
@[go_sem ↓] theorem ca_77 {c : Oracle} {bases : List Nat} {f : Nat} {vs : List AV} {H : Hp} : callO E c bases f 77 vs H = obind (argsO E H [3] vs) (pureC c 77 H) := callO_pure (by kernel_rfl) (rfl) (by kernel_rfl) (fn := Tryz.f77) (by kernel_rfl) (by kernel_rfl)
theorem go_78 (c : Oracle) (lp : LoopO PV) (x0 : PV) : pureK E c lp 78 [x0] = startC E c lp PV.same 78 5 Tryz.f78 [] [] (finP E [.cell 2 125, .tmp 3] [125, 4]) (Fr.set (Fr.full 5) 0 (.pv x0)) := by kernel_rfl
@[go_sem ↓] theorem ca_78 {c : Oracle} {bases : List Nat} {f : Nat} {vs : List AV} {H : Hp} : callO E c bases f 78 vs H = obind (argsO E H [9] vs) (pureC c 78 H) := callO_pure (by kernel_rfl) (rfl) (by kernel_rfl) (fn := Tryz.f78) (by kernel_rfl) (by kernel_rfl)
theorem go_79 (c : Oracle) (lp : LoopO (AV × Hp)) (bases : List Nat) (x0 x1 : AV) (H : Hp) : shutK E c lp bases 79 [x0, x1] H = startC E c lp (fun _ _ => false) 79 4 Tryz.f79 (H.length :: bases) H (finS E H.length [.tmp 4]) (Fr.set (Fr.set (Fr.full 4) 0 (x0)) 1 (x1)) := by kernel_rfl
@[go_sem ↓] theorem ca_79 {c : Oracle} {bases : List Nat} {f : Nat} {vs : List AV} {H : Hp} : callO E c bases f 79 vs H = c.shut bases 79 vs H := callO_shut (by kernel_rfl) rfl (by rw [show E.cls 79 = .shut from by kernel_rfl]; exact fun h => by cases h)
theorem go_80 (c : Oracle) (lp : LoopO PV) (x0 : PV) : pureK E c lp 80 [x0] = startC E c lp PV.same 80 5 Tryz.f80 [] [] (finP E [.tmp 2] [4]) (Fr.set (Fr.full 5) 0 (.pv x0)) := by kernel_rfl
@[go_sem ↓] theorem ca_80 {c : Oracle} {bases : List Nat} {f : Nat} {vs : List AV} {H : Hp} : callO E c bases f 80 vs H = obind (argsO E H [42] vs) (pureC c 80 H) := callO_pure (by kernel_rfl) (rfl) (by kernel_rfl) (fn := Tryz.f80) (by kernel_rfl) (by kernel_rfl)
theorem go_81 (c : Oracle) (lp : LoopO (AV × Hp)) (bases : List Nat) (x0 x1 : AV) (H : Hp) : shutK E c lp bases 81 [x0, x1] H = startC E c lp (fun _ _ => false) 81 4 Tryz.f81 (H.length :: bases) H (finS E H.length [.tmp 4]) (Fr.set (Fr.set (Fr.full 4) 0 (x0)) 1 (x1)) := by kernel_rfl
@[go_sem ↓] theorem ca_81 {c : Oracle} {bases : List Nat} {f : Nat} {vs : List AV} {H : Hp} : callO E c bases f 81 vs H = c.shut bases 81 vs H := callO_shut (by kernel_rfl) rfl (by rw [show E.cls 81 = .shut from by kernel_rfl]; exact fun h => by cases h)
theorem go_82 (c : Oracle) (lp : LoopO PV) (x0 : PV) : pureK E c lp 82 [x0] = startC E c lp PV.same 82 3 Tryz.f82 [] [] (finP E [.tmp 2] [4]) (Fr.set (Fr.full 3) 0 (.pv x0)) := by kernel_rfl
@[go_sem ↓] theorem ca_82 {c : Oracle} {bases : List Nat} {f : Nat} {vs : List AV} {H : Hp} : callO E c bases f 82 vs H = obind (argsO E H [115] vs) (pureC c 82 H) := callO_pure (by kernel_rfl) (rfl) (by kernel_rfl) (fn := Tryz.f82) (by kernel_rfl) (by kernel_rfl)
theorem go_83 (c : Oracle) (lp : LoopO PV) (x0 : PV) : pureK E c lp 83 [x0] = startC E c lp PV.same 83 5 Tryz.f83 [] [] (finP E [.tmp 2] [4]) (Fr.set (Fr.full 5) 0 (.pv x0)) := by kernel_rfl
@[go_sem ↓] theorem ca_83 {c : Oracle} {bases : List Nat} {f : Nat} {vs : List AV} {H : Hp} : callO E c bases f 83 vs H = obind (argsO E H [115] vs) (pureC c 83 H) := callO_pure (by kernel_rfl) (rfl) (by kernel_rfl) (fn := Tryz.f83) (by kernel_rfl) (by kernel_rfl)
theorem go_84 (c : Oracle) (lp : LoopO PV) (x0 : PV) : pureK E c lp 84 [x0] = startC E c lp PV.same 84 5 Tryz.f84 [] [] (finP E [.tmp 2, .tmp 3] [9, 43]) (Fr.set (Fr.full 5) 0 (.pv x0)) := by kernel_rfl
@[go_sem ↓] theorem ca_84 {c : Oracle} {bases : List Nat} {f : Nat} {vs : List AV} {H : Hp} : callO E c bases f 84 vs H = obind (argsO E H [35] vs) (pureC c 84 H) := callO_pure (by kernel_rfl) (rfl) (by kernel_rfl) (fn := Tryz.f84) (by kernel_rfl) (by kernel_rfl)
theorem go_85 (c : Oracle) (lp : LoopO PV) (x0 : PV) : pureK E c lp 85 [x0] = startC E c lp PV.same 85 5 Tryz.f85 [] [] (finP E [.tmp 2] [9]) (Fr.set (Fr.full 5) 0 (.pv x0)) := by kernel_rfl
@[go_sem ↓] theorem ca_85 {c : Oracle} {bases : List Nat} {f : Nat} {vs : List AV} {H : Hp} : callO E c bases f 85 vs H = obind (argsO E H [115] vs) (pureC c 85 H) := callO_pure (by kernel_rfl) (rfl) (by kernel_rfl) (fn := Tryz.f85) (by kernel_rfl) (by kernel_rfl)
theorem go_86 (c : Oracle) (lp : LoopO (AV × Hp)) (bases : List Nat) (x0 x1 x2 : AV) (H : Hp) : shutK E c lp bases 86 [x0, x1, x2] H = startC E c lp (fun _ _ => false) 86 6 Tryz.f86 (H.length :: bases) H (finS E H.length [.tmp 6]) (Fr.set (Fr.set (Fr.set (Fr.full 6) 0 (x0)) 1 (x1)) 2 (x2)) := by kernel_rfl
@[go_sem ↓] theorem ca_86 {c : Oracle} {bases : List Nat} {f : Nat} {vs : List AV} {H : Hp} : callO E c bases f 86 vs H = c.shut bases 86 vs H := callO_shut (by kernel_rfl) rfl (by rw [show E.cls 86 = .shut from by kernel_rfl]; exact fun h => by cases h)
theorem go_87 (c : Oracle) (lp : LoopO PV) (x0 x1 : PV) : pureK E c lp 87 [x0, x1] = startC E c lp PV.same 87 4 Tryz.f87 [] [] (finP E [.tmp 4] [4]) (Fr.set (Fr.set (Fr.full 4) 0 (.pv x0)) 1 (.pv x1)) := by kernel_rfl
@[go_sem ↓] theorem ca_87 {c : Oracle} {bases : List Nat} {f : Nat} {vs : List AV} {H : Hp} : callO E c bases f 87 vs H = obind (argsO E H [3, 3] vs) (pureC c 87 H) := callO_pure (by kernel_rfl) (rfl) (by kernel_rfl) (fn := Tryz.f87) (by kernel_rfl) (by kernel_rfl)
theorem go_88 (c : Oracle) (lp : LoopO (AV × Hp)) (bases : List Nat) (x0 x1 x2 : AV) (H : Hp) : shutK E c lp bases 88 [x0, x1, x2] H = startC E c lp (fun _ _ => false) 88 6 Tryz.f88 (H.length :: bases) H (finS E H.length [.tmp 6]) (Fr.set (Fr.set (Fr.set (Fr.full 6) 0 (x0)) 1 (x1)) 2 (x2)) := by kernel_rfl
@[go_sem ↓] theorem ca_88 {c : Oracle} {bases : List Nat} {f : Nat} {vs : List AV} {H : Hp} : callO E c bases f 88 vs H = c.shut bases 88 vs H := callO_shut (by kernel_rfl) rfl (by rw [show E.cls 88 = .shut from by kernel_rfl]; exact fun h => by cases h)
theorem go_89 (c : Oracle) (lp : LoopO PV) (x0 x1 : PV) : pureK E c lp 89 [x0, x1] = startC E c lp PV.same 89 4 Tryz.f89 [] [] (finP E [.tmp 4] [4]) (Fr.set (Fr.set (Fr.full 4) 0 (.pv x0)) 1 (.pv x1)) := by kernel_rfl
@[go_sem ↓] theorem ca_89 {c : Oracle} {bases : List Nat} {f : Nat} {vs : List AV} {H : Hp} : callO E c bases f 89 vs H = obind (argsO E H [94, 94] vs) (pureC c 89 H) := callO_pure (by kernel_rfl) (rfl) (by kernel_rfl) (fn := Tryz.f89) (by kernel_rfl) (by kernel_rfl)
theorem go_90 (c : Oracle) (lp : LoopO (AV × Hp)) (bases : List Nat) (x0 x1 x2 : AV) (H : Hp) : shutK E c lp bases 90 [x0, x1, x2] H = startC E c lp (fun _ _ => false) 90 6 Tryz.f90 (H.length :: bases) H (finS E H.length [.tmp 6]) (Fr.set (Fr.set (Fr.set (Fr.full 6) 0 (x0)) 1 (x1)) 2 (x2)) := by kernel_rfl
@[go_sem ↓] theorem ca_90 {c : Oracle} {bases : List Nat} {f : Nat} {vs : List AV} {H : Hp} : callO E c bases f 90 vs H = c.shut bases 90 vs H := callO_shut (by kernel_rfl) rfl (by rw [show E.cls 90 = .shut from by kernel_rfl]; exact fun h => by cases h)
theorem go_91 (c : Oracle) (lp : LoopO PV) (x0 x1 : PV) : pureK E c lp 91 [x0, x1] = startC E c lp PV.same 91 4 Tryz.f91 [] [] (finP E [.tmp 4] [4]) (Fr.set (Fr.set (Fr.full 4) 0 (.pv x0)) 1 (.pv x1)) := by kernel_rfl
@[go_sem ↓] theorem ca_91 {c : Oracle} {bases : List Nat} {f : Nat} {vs : List AV} {H : Hp} : callO E c bases f 91 vs H = obind (argsO E H [98, 98] vs) (pureC c 91 H) := callO_pure (by kernel_rfl) (rfl) (by kernel_rfl) (fn := Tryz.f91) (by kernel_rfl) (by kernel_rfl)
theorem go_92 (c : Oracle) (lp : LoopO PV) (x0 x1 : PV) : pureK E c lp 92 [x0, x1] = startC E c lp PV.same 92 5 Tryz.f92 [] [] (finP E [.tmp 4] [4]) (Fr.set (Fr.set (Fr.full 5) 0 (.pv x0)) 1 (.pv x1)) := by kernel_rfl
@[go_sem ↓] theorem ca_92 {c : Oracle} {bases : List Nat} {f : Nat} {vs : List AV} {H : Hp} : callO E c bases f 92 vs H = obind (argsO E H [108, 3] vs) (pureC c 92 H) := callO_pure (by kernel_rfl) (rfl) (by kernel_rfl) (fn := Tryz.f92) (by kernel_rfl) (by kernel_rfl)
theorem go_93 (c : Oracle) (lp : LoopO PV) (x0 x1 : PV) : pureK E c lp 93 [x0, x1] = startC E c lp PV.same 93 5 Tryz.f93 [] [] (finP E [.tmp 4] [43]) (Fr.set (Fr.set (Fr.full 5) 0 (.pv x0)) 1 (.pv x1)) := by kernel_rfl
@[go_sem ↓] theorem ca_93 {c : Oracle} {bases : List Nat} {f : Nat} {vs : List AV} {H : Hp} : callO E c bases f 93 vs H = obind (argsO E H [108, 98] vs) (pureC c 93 H) := callO_pure (by kernel_rfl) (rfl) (by kernel_rfl) (fn := Tryz.f93) (by kernel_rfl) (by kernel_rfl)
theorem go_94 (c : Oracle) (lp : LoopO PV) (x0 x1 : PV) : pureK E c lp 94 [x0, x1] = startC E c lp PV.same 94 4 Tryz.f94 [] [] (finP E [.tmp 4] [4]) (Fr.set (Fr.set (Fr.full 4) 0 (.pv x0)) 1 (.pv x1)) := by kernel_rfl
@[go_sem ↓] theorem ca_94 {c : Oracle} {bases : List Nat} {f : Nat} {vs : List AV} {H : Hp} : callO E c bases f 94 vs H = obind (argsO E H [3, 3] vs) (pureC c 94 H) := callO_pure (by kernel_rfl) (rfl) (by kernel_rfl) (fn := Tryz.f94) (by kernel_rfl) (by kernel_rfl)
theorem go_95 (c : Oracle) (lp : LoopO PV) (x0 x1 : PV) : pureK E c lp 95 [x0, x1] = startC E c lp PV.same 95 6 Tryz.f95 [] [] (finP E [.tmp 4] [9]) (Fr.set (Fr.set (Fr.full 6) 0 (.pv x0)) 1 (.pv x1)) := by kernel_rfl
@[go_sem ↓] theorem ca_95 {c : Oracle} {bases : List Nat} {f : Nat} {vs : List AV} {H : Hp} : callO E c bases f 95 vs H = obind (argsO E H [84, 3] vs) (pureC c 95 H) := callO_pure (by kernel_rfl) (rfl) (by kernel_rfl) (fn := Tryz.f95) (by kernel_rfl) (by kernel_rfl)
theorem go_96 (c : Oracle) (lp : LoopO PV) (x0 : PV) : pureK E c lp 96 [x0] = startC E c lp PV.same 96 4 Tryz.f96 [] [] (finP E [.tmp 2, .tmp 3] [9, 43]) (Fr.set (Fr.full 4) 0 (.pv x0)) := by kernel_rfl
@[go_sem ↓] theorem ca_96 {c : Oracle} {bases : List Nat} {f : Nat} {vs : List AV} {H : Hp} : callO E c bases f 96 vs H = obind (argsO E H [9] vs) (pureC c 96 H) := callO_pure (by kernel_rfl) (rfl) (by kernel_rfl) (fn := Tryz.f96) (by kernel_rfl) (by kernel_rfl)
theorem go_97 (c : Oracle) (lp : LoopO PV) (x0 : PV) : pureK E c lp 97 [x0] = startC E c lp PV.same 97 4 Tryz.f97 [] [] (finP E [.tmp 2] [4]) (Fr.set (Fr.full 4) 0 (.pv x0)) := by kernel_rfl
@[go_sem ↓] theorem ca_97 {c : Oracle} {bases : List Nat} {f : Nat} {vs : List AV} {H : Hp} : callO E c bases f 97 vs H = obind (argsO E H [3] vs) (pureC c 97 H) := callO_pure (by kernel_rfl) (rfl) (by kernel_rfl) (fn := Tryz.f97) (by kernel_rfl) (by kernel_rfl)
theorem go_107 (c : Oracle) (lp : LoopO PV) (x0 : PV) : pureK E c lp 107 [x0] = startC E c lp PV.same 107 4 Tryz.f107 [] [] (finP E [.tmp 2] [9]) (Fr.set (Fr.full 4) 0 (.pv x0)) := by kernel_rfl
@[go_sem ↓] theorem ca_107 {c : Oracle} {bases : List Nat} {f : Nat} {vs : List AV} {H : Hp} : callO E c bases f 107 vs H = obind (argsO E H [3] vs) (pureC c 107 H) := callO_pure (by kernel_rfl) (rfl) (by kernel_rfl) (fn := Tryz.f107) (by kernel_rfl) (by kernel_rfl)
theorem go_108 (c : Oracle) (lp : LoopO PV) (x0 : PV) : pureK E c lp 108 [x0] = startC E c lp PV.same 108 4 Tryz.f108 [] [] (finP E [.tmp 2] [3]) (Fr.set (Fr.full 4) 0 (.pv x0)) := by kernel_rfl
@[go_sem ↓] theorem ca_108 {c : Oracle} {bases : List Nat} {f : Nat} {vs : List AV} {H : Hp} : callO E c bases f 108 vs H = obind (argsO E H [84] vs) (pureC c 108 H) := callO_pure (by kernel_rfl) (rfl) (by kernel_rfl) (fn := Tryz.f108) (by kernel_rfl) (by kernel_rfl)
theorem go_109 (c : Oracle) (lp : LoopO (AV × Hp)) (bases : List Nat) (x0 x1 : AV) (H : Hp) : shutK E c lp bases 109 [x0, x1] H = startC E c lp (fun _ _ => false) 109 8 Tryz.f109 (H.length :: bases) H (finS E H.length []) (Fr.set (Fr.set (Fr.full 8) 0 (x0)) 1 (x1)) := by kernel_rfl
@[go_sem ↓] theorem ca_109 {c : Oracle} {bases : List Nat} {f : Nat} {vs : List AV} {H : Hp} : callO E c bases f 109 vs H = c.shut bases 109 vs H := callO_shut (by kernel_rfl) rfl (by rw [show E.cls 109 = .shut from by kernel_rfl]; exact fun h => by cases h)
theorem go_110 (c : Oracle) (lp : LoopO PV) (x0 x1 x2 x3 x4 : PV) : pureK E c lp 110 [x0, x1, x2, x3, x4] = startC E c lp PV.same 110 7 Tryz.f110 [] [] (finP E [.tmp 10, .tmp 11] [106, 9]) (Fr.set (Fr.set (Fr.set (Fr.set (Fr.set (Fr.full 7) 0 (.pv x0)) 1 (.pv x1)) 2 (.pv x2)) 3 (.pv x3)) 4 (.pv x4)) := by kernel_rfl
@[go_sem ↓] theorem ca_110 {c : Oracle} {bases : List Nat} {f : Nat} {vs : List AV} {H : Hp} : callO E c bases f 110 vs H = obind (argsO E H [106, 84, 3, 4, 4] vs) (pureC c 110 H) := callO_pure (by kernel_rfl) (rfl) (by kernel_rfl) (fn := Tryz.f110) (by kernel_rfl) (by kernel_rfl)
theorem go_111 (c : Oracle) (lp : LoopO PV) (x0 : PV) : pureK E c lp 111 [x0] = startC E c lp PV.same 111 4 Tryz.f111 [] [] (finP E [.tmp 2] [4]) (Fr.set (Fr.full 4) 0 (.pv x0)) := by kernel_rfl
@[go_sem ↓] theorem ca_111 {c : Oracle} {bases : List Nat} {f : Nat} {vs : List AV} {H : Hp} : callO E c bases f 111 vs H = obind (argsO E H [9] vs) (pureC c 111 H) := callO_pure (by kernel_rfl) (rfl) (by kernel_rfl) (fn := Tryz.f111) (by kernel_rfl) (by kernel_rfl)
theorem go_112 (c : Oracle) (lp : LoopO PV) (x0 x1 : PV) : pureK E c lp 112 [x0, x1] = startC E c lp PV.same 112 4 Tryz.f112 [] [] (finP E [.tmp 4] [3]) (Fr.set (Fr.set (Fr.full 4) 0 (.pv x0)) 1 (.pv x1)) := by kernel_rfl
@[go_sem ↓] theorem ca_112 {c : Oracle} {bases : List Nat} {f : Nat} {vs : List AV} {H : Hp} : callO E c bases f 112 vs H = obind (argsO E H [9, 5] vs) (pureC c 112 H) := callO_pure (by kernel_rfl) (rfl) (by kernel_rfl) (fn := Tryz.f112) (by kernel_rfl) (by kernel_rfl)
theorem go_113 (c : Oracle) (lp : LoopO PV) (x0 : PV) : pureK E c lp 113 [x0] = startC E c lp PV.same 113 5 Tryz.f113 [] [] (finP E [.tmp 2] [4]) (Fr.set (Fr.full 5) 0 (.pv x0)) := by kernel_rfl
@[go_sem ↓] theorem ca_113 {c : Oracle} {bases : List Nat} {f : Nat} {vs : List AV} {H : Hp} : callO E c bases f 113 vs H = obind (argsO E H [21] vs) (pureC c 113 H) := callO_pure (by kernel_rfl) (rfl) (by kernel_rfl) (fn := Tryz.f113) (by kernel_rfl) (by kernel_rfl)
theorem go_114 (c : Oracle) (lp : LoopO PV) (x0 : PV) : pureK E c lp 114 [x0] = startC E c lp PV.same 114 3 Tryz.f114 [] [] (finP E [.tmp 2] [3]) (Fr.set (Fr.full 3) 0 (.pv x0)) := by kernel_rfl
@[go_sem ↓] theorem ca_114 {c : Oracle} {bases : List Nat} {f : Nat} {vs : List AV} {H : Hp} : callO E c bases f 114 vs H = obind (argsO E H [3] vs) (pureC c 114 H) := callO_pure (by kernel_rfl) (rfl) (by kernel_rfl) (fn := Tryz.f114) (by kernel_rfl) (by kernel_rfl)
theorem go_116 (c : Oracle) (lp : LoopO (AV × Hp)) (bases : List Nat) (x0 x1 : AV) (H : Hp) : shutK E c lp bases 116 [x0, x1] H = startC E c lp (fun _ _ => false) 116 5 Tryz.f116 (H.length :: bases) H (finS E H.length [.tmp 4]) (Fr.set (Fr.set (Fr.full 5) 0 (x0)) 1 (x1)) := by kernel_rfl
@[go_sem ↓] theorem ca_116 {c : Oracle} {bases : List Nat} {f : Nat} {vs : List AV} {H : Hp} : callO E c bases f 116 vs H = c.shut bases 116 vs H := callO_shut (by kernel_rfl) rfl (by rw [show E.cls 116 = .shut from by kernel_rfl]; exact fun h => by cases h)
theorem go_117 (c : Oracle) (lp : LoopO PV) (x0 : PV) : pureK E c lp 117 [x0] = startC E c lp PV.same 117 7 Tryz.f117 [] [] (finP E [.tmp 2] [43]) (Fr.set (Fr.full 7) 0 (.pv x0)) := by kernel_rfl
@[go_sem ↓] theorem ca_117 {c : Oracle} {bases : List Nat} {f : Nat} {vs : List AV} {H : Hp} : callO E c bases f 117 vs H = obind (argsO E H [35] vs) (pureC c 117 H) := callO_pure (by kernel_rfl) (rfl) (by kernel_rfl) (fn := Tryz.f117) (by kernel_rfl) (by kernel_rfl)
theorem go_118 (c : Oracle) (lp : LoopO PV) (x0 : PV) : pureK E c lp 118 [x0] = startC E c lp PV.same 118 4 Tryz.f118 [] [] (finP E [.tmp 2] [9]) (Fr.set (Fr.full 4) 0 (.pv x0)) := by kernel_rfl
@[go_sem ↓] theorem ca_118 {c : Oracle} {bases : List Nat} {f : Nat} {vs : List AV} {H : Hp} : callO E c bases f 118 vs H = obind (argsO E H [35] vs) (pureC c 118 H) := callO_pure (by kernel_rfl) (rfl) (by kernel_rfl) (fn := Tryz.f118) (by kernel_rfl) (by kernel_rfl)
theorem go_119 (c : Oracle) (lp : LoopO PV) (x0 x1 : PV) : pureK E c lp 119 [x0, x1] = startC E c lp PV.same 119 6 Tryz.f119 [] [] (finP E [.tmp 4, .tmp 5] [9, 43]) (Fr.set (Fr.set (Fr.full 6) 0 (.pv x0)) 1 (.pv x1)) := by kernel_rfl
@[go_sem ↓] theorem ca_119 {c : Oracle} {bases : List Nat} {f : Nat} {vs : List AV} {H : Hp} : callO E c bases f 119 vs H = obind (argsO E H [3, 3] vs) (pureC c 119 H) := callO_pure (by kernel_rfl) (rfl) (by kernel_rfl) (fn := Tryz.f119) (by kernel_rfl) (by kernel_rfl)
theorem go_120 (c : Oracle) (lp : LoopO PV) (x0 : PV) : pureK E c lp 120 [x0] = startC E c lp PV.same 120 4 Tryz.f120 [] [] (finP E [.tmp 2] [9]) (Fr.set (Fr.full 4) 0 (.pv x0)) := by kernel_rfl
@[go_sem ↓] theorem ca_120 {c : Oracle} {bases : List Nat} {f : Nat} {vs : List AV} {H : Hp} : callO E c bases f 120 vs H = obind (argsO E H [9] vs) (pureC c 120 H) := callO_pure (by kernel_rfl) (rfl) (by kernel_rfl) (fn := Tryz.f120) (by kernel_rfl) (by kernel_rfl)
theorem go_141 (c : Oracle) (lp : LoopO PV) (x0 : PV) : pureK E c lp 141 [x0] = startC E c lp PV.same 141 3 Tryz.f141 [] [] (finP E [.tmp 2] [3]) (Fr.set (Fr.full 3) 0 (.pv x0)) := by kernel_rfl
@[go_sem ↓] theorem ca_141 {c : Oracle} {bases : List Nat} {f : Nat} {vs : List AV} {H : Hp} : callO E c bases f 141 vs H = obind (argsO E H [3] vs) (pureC c 141 H) := callO_pure (by kernel_rfl) (rfl) (by kernel_rfl) (fn := Tryz.f141) (by kernel_rfl) (by kernel_rfl)
theorem go_142 (c : Oracle) (lp : LoopO PV) (x0 : PV) : pureK E c lp 142 [x0] = startC E c lp PV.same 142 5 Tryz.f142 [] [] (finP E [.tmp 2] [3]) (Fr.set (Fr.full 5) 0 (.pv x0)) := by kernel_rfl
@[go_sem ↓] theorem ca_142 {c : Oracle} {bases : List Nat} {f : Nat} {vs : List AV} {H : Hp} : callO E c bases f 142 vs H = obind (argsO E H [84] vs) (pureC c 142 H) := callO_pure (by kernel_rfl) (rfl) (by kernel_rfl) (fn := Tryz.f142) (by kernel_rfl) (by kernel_rfl)
theorem go_143 (c : Oracle) (lp : LoopO PV) (x0 : PV) : pureK E c lp 143 [x0] = startC E c lp PV.same 143 3 Tryz.f143 [] [] (finP E [.tmp 2] [3]) (Fr.set (Fr.full 3) 0 (.pv x0)) := by kernel_rfl
@[go_sem ↓] theorem ca_143 {c : Oracle} {bases : List Nat} {f : Nat} {vs : List AV} {H : Hp} : callO E c bases f 143 vs H = obind (argsO E H [4] vs) (pureC c 143 H) := callO_pure (by kernel_rfl) (rfl) (by kernel_rfl) (fn := Tryz.f143) (by kernel_rfl) (by kernel_rfl)
theorem go_144 (c : Oracle) (lp : LoopO PV) (x0 : PV) : pureK E c lp 144 [x0] = startC E c lp PV.same 144 4 Tryz.f144 [] [] (finP E [.tmp 2] [4]) (Fr.set (Fr.full 4) 0 (.pv x0)) := by kernel_rfl
@[go_sem ↓] theorem ca_144 {c : Oracle} {bases : List Nat} {f : Nat} {vs : List AV} {H : Hp} : callO E c bases f 144 vs H = obind (argsO E H [3] vs) (pureC c 144 H) := callO_pure (by kernel_rfl) (rfl) (by kernel_rfl) (fn := Tryz.f144) (by kernel_rfl) (by kernel_rfl)
theorem go_145 (c : Oracle) (lp : LoopO PV) (x0 : PV) : pureK E c lp 145 [x0] = startC E c lp PV.same 145 4 Tryz.f145 [] [] (finP E [.tmp 2] [3]) (Fr.set (Fr.full 4) 0 (.pv x0)) := by kernel_rfl
@[go_sem ↓] theorem ca_145 {c : Oracle} {bases : List Nat} {f : Nat} {vs : List AV} {H : Hp} : callO E c bases f 145 vs H = obind (argsO E H [129] vs) (pureC c 145 H) := callO_pure (by kernel_rfl) (rfl) (by kernel_rfl) (fn := Tryz.f145) (by kernel_rfl) (by kernel_rfl)
theorem go_146 (c : Oracle) (lp : LoopO PV) (x0 x1 : PV) : pureK E c lp 146 [x0, x1] = startC E c lp PV.same 146 4 Tryz.f146 [] [] (finP E [.tmp 4] [3]) (Fr.set (Fr.set (Fr.full 4) 0 (.pv x0)) 1 (.pv x1)) := by kernel_rfl
@[go_sem ↓] theorem ca_146 {c : Oracle} {bases : List Nat} {f : Nat} {vs : List AV} {H : Hp} : callO E c bases f 146 vs H = obind (argsO E H [9, 5] vs) (pureC c 146 H) := callO_pure (by kernel_rfl) (rfl) (by kernel_rfl) (fn := Tryz.f146) (by kernel_rfl) (by kernel_rfl)
theorem go_147 (c : Oracle) (lp : LoopO PV) (x0 : PV) : pureK E c lp 147 [x0] = startC E c lp PV.same 147 4 Tryz.f147 [] [] (finP E [.tmp 2] [4]) (Fr.set (Fr.full 4) 0 (.pv x0)) := by kernel_rfl
@[go_sem ↓] theorem ca_147 {c : Oracle} {bases : List Nat} {f : Nat} {vs : List AV} {H : Hp} : callO E c bases f 147 vs H = obind (argsO E H [3] vs) (pureC c 147 H) := callO_pure (by kernel_rfl) (rfl) (by kernel_rfl) (fn := Tryz.f147) (by kernel_rfl) (by kernel_rfl)
theorem go_148 (c : Oracle) (lp : LoopO PV) (x0 x1 : PV) : pureK E c lp 148 [x0, x1] = startC E c lp PV.same 148 6 Tryz.f148 [] [] (finP E [.tmp 4] [4]) (Fr.set (Fr.set (Fr.full 6) 0 (.pv x0)) 1 (.pv x1)) := by kernel_rfl
@[go_sem ↓] theorem ca_148 {c : Oracle} {bases : List Nat} {f : Nat} {vs : List AV} {H : Hp} : callO E c bases f 148 vs H = obind (argsO E H [3, 33] vs) (pureC c 148 H) := callO_pure (by kernel_rfl) (rfl) (by kernel_rfl) (fn := Tryz.f148) (by kernel_rfl) (by kernel_rfl)
theorem go_149 (c : Oracle) (lp : LoopO PV) (x0 : PV) : pureK E c lp 149 [x0] = startC E c lp PV.same 149 4 Tryz.f149 [] [] (finP E [.tmp 2] [4]) (Fr.set (Fr.full 4) 0 (.pv x0)) := by kernel_rfl
@[go_sem ↓] theorem ca_149 {c : Oracle} {bases : List Nat} {f : Nat} {vs : List AV} {H : Hp} : callO E c bases f 149 vs H = obind (argsO E H [3] vs) (pureC c 149 H) := callO_pure (by kernel_rfl) (rfl) (by kernel_rfl) (fn := Tryz.f149) (by kernel_rfl) (by kernel_rfl)
theorem go_150 (c : Oracle) (lp : LoopO (AV × Hp)) (bases : List Nat) (x0 : AV) (H : Hp) : shutK E c lp bases 150 [x0] H = startC E c lp (fun _ _ => false) 150 4 Tryz.f150 (H.length :: bases) H (finS E H.length []) (Fr.set (Fr.full 4) 0 (x0)) := by kernel_rfl
@[go_sem ↓] theorem ca_150 {c : Oracle} {bases : List Nat} {f : Nat} {vs : List AV} {H : Hp} : callO E c bases f 150 vs H = c.shut bases 150 vs H := callO_shut (by kernel_rfl) rfl (by rw [show E.cls 150 = .shut from by kernel_rfl]; exact fun h => by cases h)
theorem go_151 (c : Oracle) (lp : LoopO PV) (x0 : PV) : pureK E c lp 151 [x0] = startC E c lp PV.same 151 5 Tryz.f151 [] [] (finP E [.tmp 2] [4]) (Fr.set (Fr.full 5) 0 (.pv x0)) := by kernel_rfl
@[go_sem ↓] theorem ca_151 {c : Oracle} {bases : List Nat} {f : Nat} {vs : List AV} {H : Hp} : callO E c bases f 151 vs H = obind (argsO E H [35] vs) (pureC c 151 H) := callO_pure (by kernel_rfl) (rfl) (by kernel_rfl) (fn := Tryz.f151) (by kernel_rfl) (by kernel_rfl)
theorem go_152 (c : Oracle) (lp : LoopO PV) (x0 : PV) : pureK E c lp 152 [x0] = startC E c lp PV.same 152 6 Tryz.f152 [] [] (finP E [.tmp 2] [43]) (Fr.set (Fr.full 6) 0 (.pv x0)) := by kernel_rfl
@[go_sem ↓] theorem ca_152 {c : Oracle} {bases : List Nat} {f : Nat} {vs : List AV} {H : Hp} : callO E c bases f 152 vs H = obind (argsO E H [35] vs) (pureC c 152 H) := callO_pure (by kernel_rfl) (rfl) (by kernel_rfl) (fn := Tryz.f152) (by kernel_rfl) (by kernel_rfl)
theorem go_153 (c : Oracle) (lp : LoopO PV) (x0 : PV) : pureK E c lp 153 [x0] = startC E c lp PV.same 153 7 Tryz.f153 [] [] (finP E [.tmp 2] [43]) (Fr.set (Fr.full 7) 0 (.pv x0)) := by kernel_rfl
@[go_sem ↓] theorem ca_153 {c : Oracle} {bases : List Nat} {f : Nat} {vs : List AV} {H : Hp} : callO E c bases f 153 vs H = obind (argsO E H [35] vs) (pureC c 153 H) := callO_pure (by kernel_rfl) (rfl) (by kernel_rfl) (fn := Tryz.f153) (by kernel_rfl) (by kernel_rfl)
theorem go_154 (c : Oracle) (lp : LoopO PV) (x0 : PV) : pureK E c lp 154 [x0] = startC E c lp PV.same 154 5 Tryz.f154 [] [] (finP E [.tmp 2] [4]) (Fr.set (Fr.full 5) 0 (.pv x0)) := by kernel_rfl
@[go_sem ↓] theorem ca_154 {c : Oracle} {bases : List Nat} {f : Nat} {vs : List AV} {H : Hp} : callO E c bases f 154 vs H = obind (argsO E H [3] vs) (pureC c 154 H) := callO_pure (by kernel_rfl) (rfl) (by kernel_rfl) (fn := Tryz.f154) (by kernel_rfl) (by kernel_rfl)
theorem go_173 (c : Oracle) (lp : LoopO PV) (x0 : PV) : pureK E c lp 173 [x0] = startC E c lp PV.same 173 4 Tryz.f173 [] [] (finP E [.tmp 2] [3]) (Fr.set (Fr.full 4) 0 (.pv x0)) := by kernel_rfl
@[go_sem ↓] theorem ca_173 {c : Oracle} {bases : List Nat} {f : Nat} {vs : List AV} {H : Hp} : callO E c bases f 173 vs H = obind (argsO E H [96] vs) (pureC c 173 H) := callO_pure (by kernel_rfl) (rfl) (by kernel_rfl) (fn := Tryz.f173) (by kernel_rfl) (by kernel_rfl)
theorem go_174 (c : Oracle) (lp : LoopO PV) (x0 : PV) : pureK E c lp 174 [x0] = startC E c lp PV.same 174 4 Tryz.f174 [] [] (finP E [.tmp 2] [3]) (Fr.set (Fr.full 4) 0 (.pv x0)) := by kernel_rfl
@[go_sem ↓] theorem ca_174 {c : Oracle} {bases : List Nat} {f : Nat} {vs : List AV} {H : Hp} : callO E c bases f 174 vs H = obind (argsO E H [84] vs) (pureC c 174 H) := callO_pure (by kernel_rfl) (rfl) (by kernel_rfl) (fn := Tryz.f174) (by kernel_rfl) (by kernel_rfl)
theorem go_176 (c : Oracle) (lp : LoopO PV) (x0 : PV) : pureK E c lp 176 [x0] = startC E c lp PV.same 176 6 Tryz.f176 [] [] (finP E [.tmp 2, .tmp 3] [3, 43]) (Fr.set (Fr.full 6) 0 (.pv x0)) := by kernel_rfl
@[go_sem ↓] theorem ca_176 {c : Oracle} {bases : List Nat} {f : Nat} {vs : List AV} {H : Hp} : callO E c bases f 176 vs H = obind (argsO E H [33] vs) (pureC c 176 H) := callO_pure (by kernel_rfl) (rfl) (by kernel_rfl) (fn := Tryz.f176) (by kernel_rfl) (by kernel_rfl)
theorem go_177 (c : Oracle) (lp : LoopO PV) (x0 : PV) : pureK E c lp 177 [x0] = startC E c lp PV.same 177 5 Tryz.f177 [] [] (finP E [.cell 2 33] [33]) (Fr.set (Fr.full 5) 0 (.pv x0)) := by kernel_rfl
@[go_sem ↓] theorem ca_177 {c : Oracle} {bases : List Nat} {f : Nat} {vs : List AV} {H : Hp} : callO E c bases f 177 vs H = obind (argsO E H [3] vs) (pureC c 177 H) := callO_pure (by kernel_rfl) (rfl) (by kernel_rfl) (fn := Tryz.f177) (by kernel_rfl) (by kernel_rfl)
theorem go_178 (c : Oracle) (lp : LoopO (AV × Hp)) (bases : List Nat) (x0 : AV) (H : Hp) : shutK E c lp bases 178 [x0] H = startC E c lp (fun _ _ => false) 178 7 Tryz.f178 bases H (finW E [.tmp 2]) (Fr.set (Fr.full 7) 0 (x0)) := by kernel_rfl
@[go_sem ↓] theorem ca_178 {c : Oracle} {bases : List Nat} {f : Nat} {vs : List AV} {H : Hp} : callO E c bases f 178 vs H = c.shut bases 178 vs H := callO_shut (by kernel_rfl) rfl (by rw [show E.cls 178 = .wide from by kernel_rfl]; exact fun h => by cases h)
theorem go_179 (c : Oracle) (lp : LoopO PV) (x0 : PV) : pureK E c lp 179 [x0] = startC E c lp PV.same 179 5 Tryz.f179 [] [] (finP E [.tmp 2, .tmp 3] [9, 4]) (Fr.set (Fr.full 5) 0 (.pv x0)) := by kernel_rfl
@[go_sem ↓] theorem ca_179 {c : Oracle} {bases : List Nat} {f : Nat} {vs : List AV} {H : Hp} : callO E c bases f 179 vs H = obind (argsO E H [3] vs) (pureC c 179 H) := callO_pure (by kernel_rfl) (rfl) (by kernel_rfl) (fn := Tryz.f179) (by kernel_rfl) (by kernel_rfl)
theorem go_180 (c : Oracle) (lp : LoopO PV) (x0 : PV) : pureK E c lp 180 [x0] = startC E c lp PV.same 180 4 Tryz.f180 [] [] (finP E [.tmp 2] [4]) (Fr.set (Fr.full 4) 0 (.pv x0)) := by kernel_rfl
@[go_sem ↓] theorem ca_180 {c : Oracle} {bases : List Nat} {f : Nat} {vs : List AV} {H : Hp} : callO E c bases f 180 vs H = obind (argsO E H [9] vs) (pureC c 180 H) := callO_pure (by kernel_rfl) (rfl) (by kernel_rfl) (fn := Tryz.f180) (by kernel_rfl) (by kernel_rfl)
theorem go_192 (c : Oracle) (lp : LoopO (AV × Hp)) (bases : List Nat) (x0 : AV) (H : Hp) : shutK E c lp bases 192 [x0] H = startC E c lp (fun _ _ => false) 192 3 Tryz.f192 (H.length :: bases) H (finS E H.length [.tmp 2]) (Fr.set (Fr.full 3) 0 (x0)) := by kernel_rfl
@[go_sem ↓] theorem ca_192 {c : Oracle} {bases : List Nat} {f : Nat} {vs : List AV} {H : Hp} : callO E c bases f 192 vs H = c.shut bases 192 vs H := callO_shut (by kernel_rfl) rfl (by rw [show E.cls 192 = .shut from by kernel_rfl]; exact fun h => by cases h)
theorem go_193 (c : Oracle) (lp : LoopO (AV × Hp)) (bases : List Nat) (x0 : AV) (H : Hp) : shutK E c lp bases 193 [x0] H = startC E c lp (fun _ _ => false) 193 4 Tryz.f193 (H.length :: bases) H (finS E H.length [.tmp 2]) (Fr.set (Fr.full 4) 0 (x0)) := by kernel_rfl
@[go_sem ↓] theorem ca_193 {c : Oracle} {bases : List Nat} {f : Nat} {vs : List AV} {H : Hp} : callO E c bases f 193 vs H = c.shut bases 193 vs H := callO_shut (by kernel_rfl) rfl (by rw [show E.cls 193 = .shut from by kernel_rfl]; exact fun h => by cases h)
theorem go_196 (c : Oracle) (lp : LoopO (AV × Hp)) (bases : List Nat) (x0 x1 : AV) (H : Hp) : shutK E c lp bases 196 [x0, x1] H = startC E c lp (fun _ _ => false) 196 4 Tryz.f196 (H.length :: bases) H (finS E H.length [.tmp 4]) (Fr.set (Fr.set (Fr.full 4) 0 (x0)) 1 (x1)) := by kernel_rfl
@[go_sem ↓] theorem ca_196 {c : Oracle} {bases : List Nat} {f : Nat} {vs : List AV} {H : Hp} : callO E c bases f 196 vs H = c.shut bases 196 vs H := callO_shut (by kernel_rfl) rfl (by rw [show E.cls 196 = .shut from by kernel_rfl]; exact fun h => by cases h)
theorem go_198 (c : Oracle) (lp : LoopO (AV × Hp)) (bases : List Nat) (x0 x1 : AV) (H : Hp) : shutK E c lp bases 198 [x0, x1] H = startC E c lp (fun _ _ => false) 198 4 Tryz.f198 (H.length :: bases) H (finS E H.length []) (Fr.set (Fr.set (Fr.full 4) 0 (x0)) 1 (x1)) := by kernel_rfl
@[go_sem ↓] theorem ca_198 {c : Oracle} {bases : List Nat} {f : Nat} {vs : List AV} {H : Hp} : callO E c bases f 198 vs H = c.shut bases 198 vs H := callO_shut (by kernel_rfl) rfl (by rw [show E.cls 198 = .shut from by kernel_rfl]; exact fun h => by cases h)
theorem go_204 (c : Oracle) (lp : LoopO (AV × Hp)) (bases : List Nat) (x0 : AV) (H : Hp) : shutK E c lp bases 204 [x0] H = startC E c lp (fun _ _ => false) 204 4 Tryz.f204 (H.length :: bases) H (finS E H.length [.tmp 2]) (Fr.set (Fr.full 4) 0 (x0)) := by kernel_rfl
@[go_sem ↓] theorem ca_204 {c : Oracle} {bases : List Nat} {f : Nat} {vs : List AV} {H : Hp} : callO E c bases f 204 vs H = c.shut bases 204 vs H := callO_shut (by kernel_rfl) rfl (by rw [show E.cls 204 = .shut from by kernel_rfl]; exact fun h => by cases h)
theorem go_205 (c : Oracle) (lp : LoopO (AV × Hp)) (bases : List Nat) (x0 x1 : AV) (H : Hp) : shutK E c lp bases 205 [x0, x1] H = startC E c lp (fun _ _ => false) 205 6 Tryz.f205 (H.length :: bases) H (finS E H.length [.tmp 4]) (Fr.set (Fr.set (Fr.full 6) 0 (x0)) 1 (x1)) := by kernel_rfl
@[go_sem ↓] theorem ca_205 {c : Oracle} {bases : List Nat} {f : Nat} {vs : List AV} {H : Hp} : callO E c bases f 205 vs H = c.shut bases 205 vs H := callO_shut (by kernel_rfl) rfl (by rw [show E.cls 205 = .shut from by kernel_rfl]; exact fun h => by cases h)
theorem go_224 (c : Oracle) (lp : LoopO (AV × Hp)) (bases : List Nat) (x0 x1 x2 : AV) (H : Hp) : shutK E c lp bases 224 [x0, x1, x2] H = startC E c lp (fun _ _ => false) 224 4 Tryz.f224 (H.length :: bases) H (finS E H.length []) (Fr.set (Fr.set (Fr.set (Fr.full 4) 0 (x0)) 1 (x1)) 2 (x2)) := by kernel_rfl
@[go_sem ↓] theorem ca_224 {c : Oracle} {bases : List Nat} {f : Nat} {vs : List AV} {H : Hp} : callO E c bases f 224 vs H = c.shut bases 224 vs H := callO_shut (by kernel_rfl) rfl (by rw [show E.cls 224 = .shut from by kernel_rfl]; exact fun h => by cases h)
theorem go_225 (c : Oracle) (lp : LoopO (AV × Hp)) (bases : List Nat) (x0 : AV) (H : Hp) : shutK E c lp bases 225 [x0] H = startC E c lp (fun _ _ => false) 225 4 Tryz.f225 (H.length :: bases) H (finS E H.length []) (Fr.set (Fr.full 4) 0 (x0)) := by kernel_rfl
@[go_sem ↓] theorem ca_225 {c : Oracle} {bases : List Nat} {f : Nat} {vs : List AV} {H : Hp} : callO E c bases f 225 vs H = c.shut bases 225 vs H := callO_shut (by kernel_rfl) rfl (by rw [show E.cls 225 = .shut from by kernel_rfl]; exact fun h => by cases h)
theorem go_226 (c : Oracle) (lp : LoopO (AV × Hp)) (bases : List Nat) (x0 : AV) (H : Hp) : shutK E c lp bases 226 [x0] H = startC E c lp (fun _ _ => false) 226 4 Tryz.f226 (H.length :: bases) H (finS E H.length []) (Fr.set (Fr.full 4) 0 (x0)) := by kernel_rfl
@[go_sem ↓] theorem ca_226 {c : Oracle} {bases : List Nat} {f : Nat} {vs : List AV} {H : Hp} : callO E c bases f 226 vs H = c.shut bases 226 vs H := callO_shut (by kernel_rfl) rfl (by rw [show E.cls 226 = .shut from by kernel_rfl]; exact fun h => by cases h)
theorem go_227 (c : Oracle) (lp : LoopO (AV × Hp)) (bases : List Nat) (x0 : AV) (H : Hp) : shutK E c lp bases 227 [x0] H = startC E c lp (fun _ _ => false) 227 4 Tryz.f227 (H.length :: bases) H (finS E H.length []) (Fr.set (Fr.full 4) 0 (x0)) := by kernel_rfl
@[go_sem ↓] theorem ca_227 {c : Oracle} {bases : List Nat} {f : Nat} {vs : List AV} {H : Hp} : callO E c bases f 227 vs H = c.shut bases 227 vs H := callO_shut (by kernel_rfl) rfl (by rw [show E.cls 227 = .shut from by kernel_rfl]; exact fun h => by cases h)
theorem go_228 (c : Oracle) (lp : LoopO (AV × Hp)) (bases : List Nat) (x0 : AV) (H : Hp) : shutK E c lp bases 228 [x0] H = startC E c lp (fun _ _ => false) 228 4 Tryz.f228 (H.length :: bases) H (finS E H.length []) (Fr.set (Fr.full 4) 0 (x0)) := by kernel_rfl
@[go_sem ↓] theorem ca_228 {c : Oracle} {bases : List Nat} {f : Nat} {vs : List AV} {H : Hp} : callO E c bases f 228 vs H = c.shut bases 228 vs H := callO_shut (by kernel_rfl) rfl (by rw [show E.cls 228 = .shut from by kernel_rfl]; exact fun h => by cases h)
theorem go_229 (c : Oracle) (lp : LoopO (AV × Hp)) (bases : List Nat) (x0 : AV) (H : Hp) : shutK E c lp bases 229 [x0] H = startC E c lp (fun _ _ => false) 229 6 Tryz.f229 (H.length :: bases) H (finS E H.length []) (Fr.set (Fr.full 6) 0 (x0)) := by kernel_rfl
@[go_sem ↓] theorem ca_229 {c : Oracle} {bases : List Nat} {f : Nat} {vs : List AV} {H : Hp} : callO E c bases f 229 vs H = c.shut bases 229 vs H := callO_shut (by kernel_rfl) rfl (by rw [show E.cls 229 = .shut from by kernel_rfl]; exact fun h => by cases h)
theorem go_230 (c : Oracle) (lp : LoopO (AV × Hp)) (bases : List Nat) (x0 : AV) (H : Hp) : shutK E c lp bases 230 [x0] H = startC E c lp (fun _ _ => false) 230 5 Tryz.f230 (H.length :: bases) H (finS E H.length []) (Fr.set (Fr.full 5) 0 (x0)) := by kernel_rfl
@[go_sem ↓] theorem ca_230 {c : Oracle} {bases : List Nat} {f : Nat} {vs : List AV} {H : Hp} : callO E c bases f 230 vs H = c.shut bases 230 vs H := callO_shut (by kernel_rfl) rfl (by rw [show E.cls 230 = .shut from by kernel_rfl]; exact fun h => by cases h)
theorem go_231 (c : Oracle) (lp : LoopO (AV × Hp)) (bases : List Nat) (x0 : AV) (H : Hp) : shutK E c lp bases 231 [x0] H = startC E c lp (fun _ _ => false) 231 4 Tryz.f231 (H.length :: bases) H (finS E H.length []) (Fr.set (Fr.full 4) 0 (x0)) := by kernel_rfl
@[go_sem ↓] theorem ca_231 {c : Oracle} {bases : List Nat} {f : Nat} {vs : List AV} {H : Hp} : callO E c bases f 231 vs H = c.shut bases 231 vs H := callO_shut (by kernel_rfl) rfl (by rw [show E.cls 231 = .shut from by kernel_rfl]; exact fun h => by cases h)
theorem go_232 (c : Oracle) (lp : LoopO (AV × Hp)) (bases : List Nat) (x0 : AV) (H : Hp) : shutK E c lp bases 232 [x0] H = startC E c lp (fun _ _ => false) 232 6 Tryz.f232 (H.length :: bases) H (finS E H.length []) (Fr.set (Fr.full 6) 0 (x0)) := by kernel_rfl
@[go_sem ↓] theorem ca_232 {c : Oracle} {bases : List Nat} {f : Nat} {vs : List AV} {H : Hp} : callO E c bases f 232 vs H = c.shut bases 232 vs H := callO_shut (by kernel_rfl) rfl (by rw [show E.cls 232 = .shut from by kernel_rfl]; exact fun h => by cases h)
theorem go_233 (c : Oracle) (lp : LoopO (AV × Hp)) (bases : List Nat) (x0 : AV) (H : Hp) : shutK E c lp bases 233 [x0] H = startC E c lp (fun _ _ => false) 233 4 Tryz.f233 (H.length :: bases) H (finS E H.length []) (Fr.set (Fr.full 4) 0 (x0)) := by kernel_rfl
@[go_sem ↓] theorem ca_233 {c : Oracle} {bases : List Nat} {f : Nat} {vs : List AV} {H : Hp} : callO E c bases f 233 vs H = c.shut bases 233 vs H := callO_shut (by kernel_rfl) rfl (by rw [show E.cls 233 = .shut from by kernel_rfl]; exact fun h => by cases h)
theorem go_234 (c : Oracle) (lp : LoopO (AV × Hp)) (bases : List Nat) (x0 : AV) (H : Hp) : shutK E c lp bases 234 [x0] H = startC E c lp (fun _ _ => false) 234 4 Tryz.f234 (H.length :: bases) H (finS E H.length []) (Fr.set (Fr.full 4) 0 (x0)) := by kernel_rfl
@[go_sem ↓] theorem ca_234 {c : Oracle} {bases : List Nat} {f : Nat} {vs : List AV} {H : Hp} : callO E c bases f 234 vs H = c.shut bases 234 vs H := callO_shut (by kernel_rfl) rfl (by rw [show E.cls 234 = .shut from by kernel_rfl]; exact fun h => by cases h)
theorem go_235 (c : Oracle) (lp : LoopO (AV × Hp)) (bases : List Nat) (x0 : AV) (H : Hp) : shutK E c lp bases 235 [x0] H = startC E c lp (fun _ _ => false) 235 4 Tryz.f235 (H.length :: bases) H (finS E H.length []) (Fr.set (Fr.full 4) 0 (x0)) := by kernel_rfl
@[go_sem ↓] theorem ca_235 {c : Oracle} {bases : List Nat} {f : Nat} {vs : List AV} {H : Hp} : callO E c bases f 235 vs H = c.shut bases 235 vs H := callO_shut (by kernel_rfl) rfl (by rw [show E.cls 235 = .shut from by kernel_rfl]; exact fun h => by cases h)
theorem go_236 (c : Oracle) (lp : LoopO (AV × Hp)) (bases : List Nat) (x0 : AV) (H : Hp) : shutK E c lp bases 236 [x0] H = startC E c lp (fun _ _ => false) 236 4 Tryz.f236 (H.length :: bases) H (finS E H.length []) (Fr.set (Fr.full 4) 0 (x0)) := by kernel_rfl
@[go_sem ↓] theorem ca_236 {c : Oracle} {bases : List Nat} {f : Nat} {vs : List AV} {H : Hp} : callO E c bases f 236 vs H = c.shut bases 236 vs H := callO_shut (by kernel_rfl) rfl (by rw [show E.cls 236 = .shut from by kernel_rfl]; exact fun h => by cases h)
theorem go_237 (c : Oracle) (lp : LoopO (AV × Hp)) (bases : List Nat) (x0 : AV) (H : Hp) : shutK E c lp bases 237 [x0] H = startC E c lp (fun _ _ => false) 237 6 Tryz.f237 (H.length :: bases) H (finS E H.length []) (Fr.set (Fr.full 6) 0 (x0)) := by kernel_rfl
@[go_sem ↓] theorem ca_237 {c : Oracle} {bases : List Nat} {f : Nat} {vs : List AV} {H : Hp} : callO E c bases f 237 vs H = c.shut bases 237 vs H := callO_shut (by kernel_rfl) rfl (by rw [show E.cls 237 = .shut from by kernel_rfl]; exact fun h => by cases h)
theorem go_238 (c : Oracle) (lp : LoopO PV) (x0 : PV) : pureK E c lp 238 [x0] = startC E c lp PV.same 238 6 Tryz.f238 [] [] (finP E [.tmp 2] [4]) (Fr.set (Fr.full 6) 0 (.pv x0)) := by kernel_rfl
@[go_sem ↓] theorem ca_238 {c : Oracle} {bases : List Nat} {f : Nat} {vs : List AV} {H : Hp} : callO E c bases f 238 vs H = obind (argsO E H [254] vs) (pureC c 238 H) := callO_pure (by kernel_rfl) (rfl) (by kernel_rfl) (fn := Tryz.f238) (by kernel_rfl) (by kernel_rfl)
theorem go_239 (c : Oracle) (lp : LoopO PV) (x0 : PV) : pureK E c lp 239 [x0] = startC E c lp PV.same 239 3 Tryz.f239 [] [] (finP E [.tmp 2] [254]) (Fr.set (Fr.full 3) 0 (.pv x0)) := by kernel_rfl
@[go_sem ↓] theorem ca_239 {c : Oracle} {bases : List Nat} {f : Nat} {vs : List AV} {H : Hp} : callO E c bases f 239 vs H = obind (argsO E H [9] vs) (pureC c 239 H) := callO_pure (by kernel_rfl) (rfl) (by kernel_rfl) (fn := Tryz.f239) (by kernel_rfl) (by kernel_rfl)
theorem go_248 (c : Oracle) (lp : LoopO (AV × Hp)) (bases : List Nat) (x0 : AV) (H : Hp) : shutK E c lp bases 248 [x0] H = startC E c lp (fun _ _ => false) 248 4 Tryz.f248 (H.length :: bases) H (finS E H.length [.tmp 2]) (Fr.set (Fr.full 4) 0 (x0)) := by kernel_rfl
@[go_sem ↓] theorem ca_248 {c : Oracle} {bases : List Nat} {f : Nat} {vs : List AV} {H : Hp} : callO E c bases f 248 vs H = c.shut bases 248 vs H := callO_shut (by kernel_rfl) rfl (by rw [show E.cls 248 = .shut from by kernel_rfl]; exact fun h => by cases h)
theorem go_254 (c : Oracle) (lp : LoopO (AV × Hp)) (bases : List Nat) (x0 x1 : AV) (H : Hp) : shutK E c lp bases 254 [x0, x1] H = startC E c lp (fun _ _ => false) 254 5 Tryz.f254 (H.length :: bases) H (finS E H.length [.tmp 4]) (Fr.set (Fr.set (Fr.full 5) 0 (x0)) 1 (x1)) := by kernel_rfl
@[go_sem ↓] theorem ca_254 {c : Oracle} {bases : List Nat} {f : Nat} {vs : List AV} {H : Hp} : callO E c bases f 254 vs H = c.shut bases 254 vs H := callO_shut (by kernel_rfl) rfl (by rw [show E.cls 254 = .shut from by kernel_rfl]; exact fun h => by cases h)
theorem go_277 (c : Oracle) (lp : LoopO (AV × Hp)) (bases : List Nat) (x0 x1 x2 : AV) (H : Hp) : shutK E c lp bases 277 [x0, x1, x2] H = startC E c lp (fun _ _ => false) 277 6 Tryz.f277 (H.length :: bases) H (finS E H.length []) (Fr.set (Fr.set (Fr.set (Fr.full 6) 0 (x0)) 1 (x1)) 2 (x2)) := by kernel_rfl
@[go_sem ↓] theorem ca_277 {c : Oracle} {bases : List Nat} {f : Nat} {vs : List AV} {H : Hp} : callO E c bases f 277 vs H = c.shut bases 277 vs H := callO_shut (by kernel_rfl) rfl (by rw [show E.cls 277 = .shut from by kernel_rfl]; exact fun h => by cases h)
theorem go_279 (c : Oracle) (lp : LoopO PV) (x0 : PV) : pureK E c lp 279 [x0] = startC E c lp PV.same 279 6 Tryz.f279 [] [] (finP E [.cell 2 33, .tmp 3] [33, 43]) (Fr.set (Fr.full 6) 0 (.pv x0)) := by kernel_rfl
@[go_sem ↓] theorem ca_279 {c : Oracle} {bases : List Nat} {f : Nat} {vs : List AV} {H : Hp} : callO E c bases f 279 vs H = obind (argsO E H [3] vs) (pureC c 279 H) := callO_pure (by kernel_rfl) (rfl) (by kernel_rfl) (fn := Tryz.f279) (by kernel_rfl) (by kernel_rfl)
theorem go_280 (c : Oracle) (lp : LoopO PV) (x0 : PV) : pureK E c lp 280 [x0] = startC E c lp PV.same 280 4 Tryz.f280 [] [] (finP E [.tmp 2] [4]) (Fr.set (Fr.full 4) 0 (.pv x0)) := by kernel_rfl
@[go_sem ↓] theorem ca_280 {c : Oracle} {bases : List Nat} {f : Nat} {vs : List AV} {H : Hp} : callO E c bases f 280 vs H = obind (argsO E H [9] vs) (pureC c 280 H) := callO_pure (by kernel_rfl) (rfl) (by kernel_rfl) (fn := Tryz.f280) (by kernel_rfl) (by kernel_rfl)
theorem go_281 (c : Oracle) (lp : LoopO PV) (x0 x1 : PV) : pureK E c lp 281 [x0, x1] = startC E c lp PV.same 281 4 Tryz.f281 [] [] (finP E [.tmp 4] [254]) (Fr.set (Fr.set (Fr.full 4) 0 (.pv x0)) 1 (.pv x1)) := by kernel_rfl
@[go_sem ↓] theorem ca_281 {c : Oracle} {bases : List Nat} {f : Nat} {vs : List AV} {H : Hp} : callO E c bases f 281 vs H = obind (argsO E H [9, 9] vs) (pureC c 281 H) := callO_pure (by kernel_rfl) (rfl) (by kernel_rfl) (fn := Tryz.f281) (by kernel_rfl) (by kernel_rfl)
theorem go_308 (c : Oracle) (lp : LoopO PV) (x0 x1 x2 x3 : PV) : pureK E c lp 308 [x0, x1, x2, x3] = startC E c lp PV.same 308 7 Tryz.f308 [] [] (finP E [.tmp 8] [254]) (Fr.set (Fr.set (Fr.set (Fr.set (Fr.full 7) 0 (.pv x0)) 1 (.pv x1)) 2 (.pv x2)) 3 (.pv x3)) := by kernel_rfl
@[go_sem ↓] theorem ca_308 {c : Oracle} {bases : List Nat} {f : Nat} {vs : List AV} {H : Hp} : callO E c bases f 308 vs H = obind (argsO E H [9, 9, 3, 3] vs) (pureC c 308 H) := callO_pure (by kernel_rfl) (rfl) (by kernel_rfl) (fn := Tryz.f308) (by kernel_rfl) (by kernel_rfl)
theorem go_329 (c : Oracle) (lp : LoopO PV) (x0 x1 : PV) : pureK E c lp 329 [x0, x1] = startC E c lp PV.same 329 6 Tryz.f329 [] [] (finP E [.tmp 4] [254]) (Fr.set (Fr.set (Fr.full 6) 0 (.pv x0)) 1 (.pv x1)) := by kernel_rfl
@[go_sem ↓] theorem ca_329 {c : Oracle} {bases : List Nat} {f : Nat} {vs : List AV} {H : Hp} : callO E c bases f 329 vs H = obind (argsO E H [9, 3] vs) (pureC c 329 H) := callO_pure (by kernel_rfl) (rfl) (by kernel_rfl) (fn := Tryz.f329) (by kernel_rfl) (by kernel_rfl)
theorem go_330 (c : Oracle) (lp : LoopO PV) (x0 x1 : PV) : pureK E c lp 330 [x0, x1] = startC E c lp PV.same 330 6 Tryz.f330 [] [] (finP E [.tmp 4] [3]) (Fr.set (Fr.set (Fr.full 6) 0 (.pv x0)) 1 (.pv x1)) := by kernel_rfl
@[go_sem ↓] theorem ca_330 {c : Oracle} {bases : List Nat} {f : Nat} {vs : List AV} {H : Hp} : callO E c bases f 330 vs H = obind (argsO E H [9, 9] vs) (pureC c 330 H) := callO_pure (by kernel_rfl) (rfl) (by kernel_rfl) (fn := Tryz.f330) (by kernel_rfl) (by kernel_rfl)
theorem go_331 (c : Oracle) (lp : LoopO PV) (x0 x1 : PV) : pureK E c lp 331 [x0, x1] = startC E c lp PV.same 331 4 Tryz.f331 [] [] (finP E [.tmp 4] [3]) (Fr.set (Fr.set (Fr.full 4) 0 (.pv x0)) 1 (.pv x1)) := by kernel_rfl
@[go_sem ↓] theorem ca_331 {c : Oracle} {bases : List Nat} {f : Nat} {vs : List AV} {H : Hp} : callO E c bases f 331 vs H = obind (argsO E H [9, 9] vs) (pureC c 331 H) := callO_pure (by kernel_rfl) (rfl) (by kernel_rfl) (fn := Tryz.f331) (by kernel_rfl) (by kernel_rfl)
theorem go_341 (c : Oracle) (lp : LoopO PV) (x0 : PV) : pureK E c lp 341 [x0] = startC E c lp PV.same 341 4 Tryz.f341 [] [] (finP E [.tmp 2] [3]) (Fr.set (Fr.full 4) 0 (.pv x0)) := by kernel_rfl
@[go_sem ↓] theorem ca_341 {c : Oracle} {bases : List Nat} {f : Nat} {vs : List AV} {H : Hp} : callO E c bases f 341 vs H = obind (argsO E H [9] vs) (pureC c 341 H) := callO_pure (by kernel_rfl) (rfl) (by kernel_rfl) (fn := Tryz.f341) (by kernel_rfl) (by kernel_rfl)
theorem go_342 (c : Oracle) (lp : LoopO PV) (x0 : PV) : pureK E c lp 342 [x0] = startC E c lp PV.same 342 5 Tryz.f342 [] [] (finP E [.tmp 2, .tmp 3] [21, 3]) (Fr.set (Fr.full 5) 0 (.pv x0)) := by kernel_rfl
@[go_sem ↓] theorem ca_342 {c : Oracle} {bases : List Nat} {f : Nat} {vs : List AV} {H : Hp} : callO E c bases f 342 vs H = obind (argsO E H [9] vs) (pureC c 342 H) := callO_pure (by kernel_rfl) (rfl) (by kernel_rfl) (fn := Tryz.f342) (by kernel_rfl) (by kernel_rfl)
theorem go_344 (c : Oracle) (lp : LoopO PV) (x0 x1 : PV) : pureK E c lp 344 [x0, x1] = startC E c lp PV.same 344 8 Tryz.f344 [] [] (finP E [.tmp 4] [3]) (Fr.set (Fr.set (Fr.full 8) 0 (.pv x0)) 1 (.pv x1)) := by kernel_rfl
@[go_sem ↓] theorem ca_344 {c : Oracle} {bases : List Nat} {f : Nat} {vs : List AV} {H : Hp} : callO E c bases f 344 vs H = obind (argsO E H [9, 9] vs) (pureC c 344 H) := callO_pure (by kernel_rfl) (rfl) (by kernel_rfl) (fn := Tryz.f344) (by kernel_rfl) (by kernel_rfl)
theorem go_346 (c : Oracle) (lp : LoopO PV) (x0 : PV) : pureK E c lp 346 [x0] = startC E c lp PV.same 346 7 Tryz.f346 [] [] (finP E [.tmp 2, .tmp 3] [21, 3]) (Fr.set (Fr.full 7) 0 (.pv x0)) := by kernel_rfl
@[go_sem ↓] theorem ca_346 {c : Oracle} {bases : List Nat} {f : Nat} {vs : List AV} {H : Hp} : callO E c bases f 346 vs H = obind (argsO E H [9] vs) (pureC c 346 H) := callO_pure (by kernel_rfl) (rfl) (by kernel_rfl) (fn := Tryz.f346) (by kernel_rfl) (by kernel_rfl)
theorem go_347 (c : Oracle) (lp : LoopO PV) (x0 x1 : PV) : pureK E c lp 347 [x0, x1] = startC E c lp PV.same 347 7 Tryz.f347 [] [] (finP E [.tmp 4] [3]) (Fr.set (Fr.set (Fr.full 7) 0 (.pv x0)) 1 (.pv x1)) := by kernel_rfl
@[go_sem ↓] theorem ca_347 {c : Oracle} {bases : List Nat} {f : Nat} {vs : List AV} {H : Hp} : callO E c bases f 347 vs H = obind (argsO E H [9, 9] vs) (pureC c 347 H) := callO_pure (by kernel_rfl) (rfl) (by kernel_rfl) (fn := Tryz.f347) (by kernel_rfl) (by kernel_rfl)
theorem go_348 (c : Oracle) (lp : LoopO PV) (x0 : PV) : pureK E c lp 348 [x0] = startC E c lp PV.same 348 6 Tryz.f348 [] [] (finP E [.tmp 2, .tmp 3] [96, 96]) (Fr.set (Fr.full 6) 0 (.pv x0)) := by kernel_rfl
@[go_sem ↓] theorem ca_348 {c : Oracle} {bases : List Nat} {f : Nat} {vs : List AV} {H : Hp} : callO E c bases f 348 vs H = obind (argsO E H [9] vs) (pureC c 348 H) := callO_pure (by kernel_rfl) (rfl) (by kernel_rfl) (fn := Tryz.f348) (by kernel_rfl) (by kernel_rfl)
@[go_sem ↓] theorem ex_175 {c : Oracle} {bases : List Nat} {f : Nat} {s : List UInt8} {b : Int} {H : Hp} : callO E c bases f 175 [.pv (.str s), .pv (.int .u8 b)] H = some (.pv (.int .i64 (findB s b)), H) := callO_ext0 (by kernel_rfl)
@[go_sem] theorem mi_3_34 : E.mint 3 34 = [] := by kernel_rfl
@[go_sem] theorem mi_3_13 : E.mint 3 13 = [] := by kernel_rfl
@[go_sem] theorem mi_3_41 : E.mint 3 41 = [] := by kernel_rfl
@[go_sem] theorem mi_3_15 : E.mint 3 15 = [] := by kernel_rfl
@[go_sem] theorem li_7_0 : E.live 7 0 = [42, 43, 44] := by kernel_rfl
@[go_sem] theorem mi_7_1 : E.mint 7 1 = [] := by kernel_rfl
@[go_sem] theorem mi_7_3 : E.mint 7 3 = [] := by kernel_rfl
@[go_sem] theorem mi_7_4 : E.mint 7 4 = [] := by kernel_rfl
@[go_sem] theorem mi_7_20 : E.mint 7 20 = [] := by kernel_rfl
@[go_sem] theorem mi_7_22 : E.mint 7 22 = [] := by kernel_rfl
@[go_sem] theorem mi_7_24 : E.mint 7 24 = [] := by kernel_rfl
@[go_sem] theorem mi_7_26 : E.mint 7 26 = [] := by kernel_rfl
@[go_sem] theorem mi_7_28 : E.mint 7 28 = [] := by kernel_rfl
@[go_sem] theorem mi_7_30 : E.mint 7 30 = [] := by kernel_rfl
@[go_sem] theorem mi_7_32 : E.mint 7 32 = [] := by kernel_rfl
@[go_sem] theorem mi_7_34 : E.mint 7 34 = [] := by kernel_rfl
@[go_sem] theorem mi_7_36 : E.mint 7 36 = [] := by kernel_rfl
@[go_sem] theorem mi_7_38 : E.mint 7 38 = [] := by kernel_rfl
@[go_sem] theorem mi_7_40 : E.mint 7 40 = [] := by kernel_rfl
@[go_sem] theorem mi_7_7 : E.mint 7 7 = [] := by kernel_rfl
@[go_sem] theorem mi_8_2 : E.mint 8 2 = [] := by kernel_rfl
@[go_sem] theorem mi_8_3 : E.mint 8 3 = [] := by kernel_rfl
@[go_sem] theorem fl_9_2 : E.flag 9 2 = ([], []) := by kernel_rfl
@[go_sem] theorem fl_9_7 : E.flag 9 7 = ([], []) := by kernel_rfl
@[go_sem] theorem mi_9_1 : E.mint 9 1 = [] := by kernel_rfl
@[go_sem] theorem mi_9_4 : E.mint 9 4 = [] := by kernel_rfl
@[go_sem] theorem mi_10_0 : E.mint 10 0 = [] := by kernel_rfl
@[go_sem] theorem mi_10_1 : E.mint 10 1 = [] := by kernel_rfl
@[go_sem] theorem li_12_0 : E.live 12 0 = [0, 1, 5] := by kernel_rfl
@[go_sem] theorem mi_14_3 : E.mint 14 3 = [] := by kernel_rfl
@[go_sem] theorem fl_23_7 : E.flag 23 7 = ([], []) := by kernel_rfl
@[go_sem] theorem mi_23_1 : E.mint 23 1 = [] := by kernel_rfl
@[go_sem] theorem mi_23_25 : E.mint 23 25 = [] := by kernel_rfl
@[go_sem] theorem mi_23_26 : E.mint 23 26 = [] := by kernel_rfl
@[go_sem] theorem mi_23_5 : E.mint 23 5 = [] := by kernel_rfl
@[go_sem] theorem mi_27_1 : E.mint 27 1 = [] := by kernel_rfl
@[go_sem] theorem mi_27_5 : E.mint 27 5 = [] := by kernel_rfl
@[go_sem] theorem mi_27_10 : E.mint 27 10 = [] := by kernel_rfl
@[go_sem] theorem mi_27_16 : E.mint 27 16 = [] := by kernel_rfl
@[go_sem] theorem mi_30_1 : E.mint 30 1 = [] := by kernel_rfl
@[go_sem] theorem mi_32_2 : E.mint 32 2 = [] := by kernel_rfl
@[go_sem] theorem mi_32_3 : E.mint 32 3 = [] := by kernel_rfl
@[go_sem] theorem mi_32_4 : E.mint 32 4 = [] := by kernel_rfl
@[go_sem] theorem mi_32_5 : E.mint 32 5 = [] := by kernel_rfl
@[go_sem] theorem li_34_0 : E.live 34 0 = [0, 3] := by kernel_rfl
@[go_sem] theorem mi_38_2 : E.mint 38 2 = [] := by kernel_rfl
@[go_sem] theorem mi_38_3 : E.mint 38 3 = [] := by kernel_rfl
@[go_sem] theorem mi_39_0 : E.mint 39 0 = [] := by kernel_rfl
@[go_sem] theorem mi_39_1 : E.mint 39 1 = [] := by kernel_rfl
@[go_sem] theorem fl_40_1 : E.flag 40 1 = ([], []) := by kernel_rfl
@[go_sem] theorem mi_40_2 : E.mint 40 2 = [] := by kernel_rfl
@[go_sem] theorem mi_40_3 : E.mint 40 3 = [] := by kernel_rfl
@[go_sem] theorem li_41_0 : E.live 41 0 = [3, 36, 37, 38] := by kernel_rfl
@[go_sem] theorem fl_41_6 : E.flag 41 6 = ([], []) := by kernel_rfl
@[go_sem] theorem mi_41_2 : E.mint 41 2 = [] := by kernel_rfl
@[go_sem] theorem mi_41_3 : E.mint 41 3 = [] := by kernel_rfl
@[go_sem] theorem mi_41_6 : E.mint 41 6 = [] := by kernel_rfl
@[go_sem] theorem li_42_0 : E.live 42 0 = [0, 6, 7, 8, 19, 20, 21] := by kernel_rfl
@[go_sem] theorem fl_42_15 : E.flag 42 15 = ([], []) := by kernel_rfl
@[go_sem] theorem mi_42_7 : E.mint 42 7 = [] := by kernel_rfl
@[go_sem] theorem mi_42_10 : E.mint 42 10 = [] := by kernel_rfl
@[go_sem] theorem mi_42_11 : E.mint 42 11 = [] := by kernel_rfl
@[go_sem] theorem li_48_1 : E.live 48 1 = [0, 1, 6, 7, 8, 9] := by kernel_rfl
@[go_sem] theorem li_50_2 : E.live 50 2 = [1, 45] := by kernel_rfl
@[go_sem] theorem li_50_0 : E.live 50 0 = [0, 6, 8] := by kernel_rfl
@[go_sem] theorem mi_50_6 : E.mint 50 6 = [] := by kernel_rfl
@[go_sem] theorem li_51_0 : E.live 51 0 = [0, 3, 14, 15] := by kernel_rfl
@[go_sem] theorem li_52_0 : E.live 52 0 = [3, 6, 8, 31, 32, 33] := by kernel_rfl
@[go_sem] theorem mi_52_2 : E.mint 52 2 = [] := by kernel_rfl
@[go_sem] theorem mi_52_3 : E.mint 52 3 = [] := by kernel_rfl
@[go_sem] theorem mi_52_10 : E.mint 52 10 = [] := by kernel_rfl
@[go_sem] theorem mi_53_1 : E.mint 53 1 = [] := by kernel_rfl
@[go_sem] theorem mi_53_2 : E.mint 53 2 = [] := by kernel_rfl
@[go_sem] theorem mi_53_37 : E.mint 53 37 = [] := by kernel_rfl
@[go_sem] theorem mi_54_2 : E.mint 54 2 = [] := by kernel_rfl
@[go_sem] theorem mi_54_3 : E.mint 54 3 = [] := by kernel_rfl
@[go_sem] theorem li_58_0 : E.live 58 0 = [2, 3, 36, 37] := by kernel_rfl
@[go_sem] theorem fl_58_6 : E.flag 58 6 = ([], []) := by kernel_rfl
@[go_sem] theorem mi_58_2 : E.mint 58 2 = [] := by kernel_rfl
@[go_sem] theorem mi_58_3 : E.mint 58 3 = [] := by kernel_rfl
@[go_sem] theorem mi_59_2 : E.mint 59 2 = [] := by kernel_rfl
@[go_sem] theorem mi_59_3 : E.mint 59 3 = [] := by kernel_rfl
@[go_sem] theorem mi_59_4 : E.mint 59 4 = [] := by kernel_rfl
@[go_sem] theorem mi_59_5 : E.mint 59 5 = [] := by kernel_rfl
@[go_sem] theorem mi_59_6 : E.mint 59 6 = [] := by kernel_rfl
@[go_sem] theorem mi_59_7 : E.mint 59 7 = [] := by kernel_rfl
@[go_sem] theorem mi_59_8 : E.mint 59 8 = [] := by kernel_rfl
@[go_sem] theorem mi_59_9 : E.mint 59 9 = [] := by kernel_rfl
@[go_sem] theorem mi_59_10 : E.mint 59 10 = [] := by kernel_rfl
@[go_sem] theorem mi_59_11 : E.mint 59 11 = [] := by kernel_rfl
@[go_sem] theorem mi_59_12 : E.mint 59 12 = [] := by kernel_rfl
@[go_sem] theorem mi_59_13 : E.mint 59 13 = [] := by kernel_rfl
@[go_sem] theorem mi_59_14 : E.mint 59 14 = [] := by kernel_rfl
@[go_sem] theorem mi_59_15 : E.mint 59 15 = [] := by kernel_rfl
@[go_sem] theorem mi_59_16 : E.mint 59 16 = [] := by kernel_rfl
@[go_sem] theorem mi_59_17 : E.mint 59 17 = [] := by kernel_rfl
@[go_sem] theorem mi_59_18 : E.mint 59 18 = [] := by kernel_rfl
@[go_sem] theorem mi_59_19 : E.mint 59 19 = [] := by kernel_rfl
@[go_sem] theorem mi_59_20 : E.mint 59 20 = [] := by kernel_rfl
@[go_sem] theorem mi_59_21 : E.mint 59 21 = [] := by kernel_rfl
@[go_sem] theorem mi_59_22 : E.mint 59 22 = [] := by kernel_rfl
@[go_sem] theorem mi_59_23 : E.mint 59 23 = [] := by kernel_rfl
@[go_sem] theorem mi_59_24 : E.mint 59 24 = [] := by kernel_rfl
@[go_sem] theorem mi_59_25 : E.mint 59 25 = [] := by kernel_rfl
@[go_sem] theorem mi_59_26 : E.mint 59 26 = [] := by kernel_rfl
@[go_sem] theorem mi_59_27 : E.mint 59 27 = [] := by kernel_rfl
@[go_sem] theorem mi_59_28 : E.mint 59 28 = [] := by kernel_rfl
@[go_sem] theorem mi_60_3 : E.mint 60 3 = [] := by kernel_rfl
@[go_sem] theorem mi_60_5 : E.mint 60 5 = [] := by kernel_rfl
@[go_sem] theorem fl_61_1 : E.flag 61 1 = ([], []) := by kernel_rfl
@[go_sem] theorem mi_62_3 : E.mint 62 3 = [] := by kernel_rfl
@[go_sem] theorem li_64_0 : E.live 64 0 = [0, 4] := by kernel_rfl
@[go_sem] theorem mi_73_5 : E.mint 73 5 = [] := by kernel_rfl
@[go_sem] theorem li_75_0 : E.live 75 0 = [0, 6] := by kernel_rfl
@[go_sem] theorem li_76_9 : E.live 76 9 = [175] := by kernel_rfl
@[go_sem] theorem li_76_7 : E.live 76 7 = [0, 7, 8, 9, 14, 15, 16] := by kernel_rfl
@[go_sem] theorem li_76_5 : E.live 76 5 = [0, 7, 8, 9, 14, 15] := by kernel_rfl
@[go_sem] theorem li_76_3 : E.live 76 3 = [0, 7, 8, 9, 12] := by kernel_rfl
@[go_sem] theorem li_76_1 : E.live 76 1 = [0, 7, 8, 9] := by kernel_rfl
@[go_sem] theorem fl_76_6 : E.flag 76 6 = ([], []) := by kernel_rfl
@[go_sem] theorem fl_76_7 : E.flag 76 7 = ([], []) := by kernel_rfl
@[go_sem] theorem fl_76_14 : E.flag 76 14 = ([], []) := by kernel_rfl
@[go_sem] theorem fl_76_31 : E.flag 76 31 = ([], []) := by kernel_rfl
@[go_sem] theorem li_78_0 : E.live 78 0 = [0, 2, 4] := by kernel_rfl
@[go_sem] theorem mi_78_2 : E.mint 78 2 = [] := by kernel_rfl
@[go_sem] theorem mi_80_1 : E.mint 80 1 = [] := by kernel_rfl
@[go_sem] theorem mi_82_1 : E.mint 82 1 = [] := by kernel_rfl
@[go_sem] theorem mi_83_1 : E.mint 83 1 = [] := by kernel_rfl
@[go_sem] theorem mi_84_1 : E.mint 84 1 = [] := by kernel_rfl
@[go_sem] theorem fl_85_1 : E.flag 85 1 = ([], []) := by kernel_rfl
@[go_sem] theorem mi_85_1 : E.mint 85 1 = [] := by kernel_rfl
@[go_sem] theorem li_86_0 : E.live 86 0 = [1, 2, 15, 16, 17] := by kernel_rfl
@[go_sem] theorem li_88_0 : E.live 88 0 = [1, 2, 15, 16, 17] := by kernel_rfl
@[go_sem] theorem mi_88_8 : E.mint 88 8 = [] := by kernel_rfl
@[go_sem] theorem mi_88_9 : E.mint 88 9 = [] := by kernel_rfl
@[go_sem] theorem mi_89_2 : E.mint 89 2 = [] := by kernel_rfl
@[go_sem] theorem mi_89_3 : E.mint 89 3 = [] := by kernel_rfl
@[go_sem] theorem li_90_0 : E.live 90 0 = [1, 2, 15, 16, 17] := by kernel_rfl
@[go_sem] theorem mi_90_8 : E.mint 90 8 = [] := by kernel_rfl
@[go_sem] theorem mi_90_9 : E.mint 90 9 = [] := by kernel_rfl
@[go_sem] theorem mi_91_2 : E.mint 91 2 = [] := by kernel_rfl
@[go_sem] theorem mi_91_3 : E.mint 91 3 = [] := by kernel_rfl
@[go_sem] theorem mi_92_2 : E.mint 92 2 = [] := by kernel_rfl
@[go_sem] theorem mi_93_2 : E.mint 93 2 = [] := by kernel_rfl
@[go_sem] theorem mi_93_3 : E.mint 93 3 = [] := by kernel_rfl
@[go_sem] theorem li_95_0 : E.live 95 0 = [0, 1, 5, 13, 14] := by kernel_rfl
@[go_sem] theorem li_109_0 : E.live 109 0 = [0, 1, 4] := by kernel_rfl
@[go_sem] theorem fl_109_7 : E.flag 109 7 = ([], []) := by kernel_rfl
@[go_sem] theorem fl_109_8 : E.flag 109 8 = ([], []) := by kernel_rfl
@[go_sem] theorem fl_109_9 : E.flag 109 9 = ([], []) := by kernel_rfl
@[go_sem] theorem fl_109_10 : E.flag 109 10 = ([], []) := by kernel_rfl
@[go_sem] theorem fl_109_17 : E.flag 109 17 = ([], []) := by kernel_rfl
@[go_sem] theorem fl_109_18 : E.flag 109 18 = ([], []) := by kernel_rfl
@[go_sem] theorem fl_109_23 : E.flag 109 23 = ([], []) := by kernel_rfl
@[go_sem] theorem li_110_0 : E.live 110 0 = [0, 1, 3, 4, 10, 11, 12, 13, 14, 15, 16] := by kernel_rfl
@[go_sem] theorem li_110_2 : E.live 110 2 = [0, 1, 3, 4, 10, 11, 12, 13, 17] := by kernel_rfl
@[go_sem] theorem mi_110_12 : E.mint 110 12 = [] := by kernel_rfl
@[go_sem] theorem li_116_0 : E.live 116 0 = [0, 1, 7, 8] := by kernel_rfl
@[go_sem] theorem fl_117_15 : E.flag 117 15 = ([], []) := by kernel_rfl
@[go_sem] theorem mi_117_1 : E.mint 117 1 = [] := by kernel_rfl
@[go_sem] theorem mi_117_30 : E.mint 117 30 = [] := by kernel_rfl
@[go_sem] theorem mi_117_35 : E.mint 117 35 = [] := by kernel_rfl
@[go_sem] theorem mi_117_3 : E.mint 117 3 = [] := by kernel_rfl
@[go_sem] theorem mi_117_46 : E.mint 117 46 = [] := by kernel_rfl
@[go_sem] theorem mi_118_1 : E.mint 118 1 = [] := by kernel_rfl
@[go_sem] theorem mi_118_5 : E.mint 118 5 = [] := by kernel_rfl
@[go_sem] theorem mi_118_3 : E.mint 118 3 = [] := by kernel_rfl
@[go_sem] theorem mi_148_3 : E.mint 148 3 = [] := by kernel_rfl
@[go_sem] theorem mi_148_7 : E.mint 148 7 = [] := by kernel_rfl
@[go_sem] theorem mi_148_45 : E.mint 148 45 = [] := by kernel_rfl
@[go_sem] theorem li_150_0 : E.live 150 0 = [5, 6, 7] := by kernel_rfl
@[go_sem] theorem mi_151_1 : E.mint 151 1 = [] := by kernel_rfl
@[go_sem] theorem mi_152_1 : E.mint 152 1 = [] := by kernel_rfl
@[go_sem] theorem mi_153_1 : E.mint 153 1 = [] := by kernel_rfl
@[go_sem] theorem mi_176_1 : E.mint 176 1 = [] := by kernel_rfl
@[go_sem] theorem mi_176_4 : E.mint 176 4 = [] := by kernel_rfl
@[go_sem] theorem mi_177_2 : E.mint 177 2 = [] := by kernel_rfl
@[go_sem] theorem mi_177_3 : E.mint 177 3 = [] := by kernel_rfl
@[go_sem] theorem fl_204_3 : E.flag 204 3 = ([], []) := by kernel_rfl
@[go_sem] theorem fl_205_8 : E.flag 205 8 = ([], []) := by kernel_rfl
@[go_sem] theorem mi_229_2 : E.mint 229 2 = [] := by kernel_rfl
@[go_sem] theorem mi_229_4 : E.mint 229 4 = [] := by kernel_rfl
@[go_sem] theorem mi_230_2 : E.mint 230 2 = [] := by kernel_rfl
@[go_sem] theorem li_238_0 : E.live 238 0 = [0, 6, 7, 8] := by kernel_rfl
@[go_sem] theorem fl_254_1 : E.flag 254 1 = ([], []) := by kernel_rfl
@[go_sem] theorem fl_277_6 : E.flag 277 6 = ([], []) := by kernel_rfl
@[go_sem] theorem fl_277_1 : E.flag 277 1 = ([], []) := by kernel_rfl
@[go_sem] theorem mi_279_2 : E.mint 279 2 = [] := by kernel_rfl
@[go_sem] theorem mi_279_16 : E.mint 279 16 = [] := by kernel_rfl
@[go_sem] theorem mi_279_37 : E.mint 279 37 = [] := by kernel_rfl
@[go_sem] theorem li_308_0 : E.live 308 0 = [0, 1, 2, 3, 9, 10] := by kernel_rfl
@[go_sem] theorem li_329_0 : E.live 329 0 = [0, 1, 6, 7] := by kernel_rfl
@[go_sem] theorem li_330_0 : E.live 330 0 = [0, 1, 5] := by kernel_rfl
@[go_sem] theorem li_341_0 : E.live 341 0 = [2, 4] := by kernel_rfl
@[go_sem] theorem li_344_1 : E.live 344 1 = [0, 1, 5, 6, 7, 8, 9, 10] := by kernel_rfl
@[go_sem] theorem mi_346_9 : E.mint 346 9 = [] := by kernel_rfl
@[go_sem] theorem li_347_2 : E.live 347 2 = [0, 1, 5, 6, 7, 8, 10] := by kernel_rfl
@[go_sem] theorem li_347_0 : E.live 347 0 = [0, 1, 5, 6, 7, 8, 9] := by kernel_rfl
@[go_sem] theorem li_348_2 : E.live 348 2 = [4, 6, 7, 8] := by kernel_rfl
@[go_sem] theorem li_348_0 : E.live 348 0 = [0, 4, 5] := by kernel_rfl
end Go.Proofs.YtflehnedcjjdjaaGreatDoor
