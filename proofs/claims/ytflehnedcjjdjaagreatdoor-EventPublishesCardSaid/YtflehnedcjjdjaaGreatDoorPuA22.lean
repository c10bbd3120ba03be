/-
  The rules of frames, by number; the evaluator's other rules, for rewriting. Printed by a program (gen22.py).
-/
import Derived.Test.YtflehnedcjjdjaaGreatDoorPuA21
import Derived.Attr
set_option linter.unusedSimpArgs false
set_option linter.unusedVariables false
namespace Go.Pu

section
variable {v0 v1 v2 v3 v4 v5 v6 v7 v8 x : AV} {a0 a1 a2 a3 a4 a5 a6 a7 a8 b0 b1 b2 b3 b4 b5 b6 b7 b8 : Fr}
@[go_sem ↓] theorem gt0 : Fr.get (.nd v0 a0 b0) 0 = v0 := (rfl)
@[go_sem ↓] theorem st0 : Fr.set (.nd v0 a0 b0) 0 x = .nd x a0 b0 := (rfl)
@[go_sem ↓] theorem gt1 : Fr.get (.nd v0 (.nd v1 a1 b1) a0) 1 = v1 := (rfl)
@[go_sem ↓] theorem st1 : Fr.set (.nd v0 (.nd v1 a1 b1) a0) 1 x = .nd v0 (.nd x a1 b1) a0 := (rfl)
@[go_sem ↓] theorem gt2 : Fr.get (.nd v0 a0 (.nd v1 a1 b1)) 2 = v1 := (rfl)
@[go_sem ↓] theorem st2 : Fr.set (.nd v0 a0 (.nd v1 a1 b1)) 2 x = .nd v0 a0 (.nd x a1 b1) := (rfl)
@[go_sem ↓] theorem gt3 : Fr.get (.nd v0 (.nd v1 (.nd v2 a2 b2) a1) a0) 3 = v2 := (rfl)
@[go_sem ↓] theorem st3 : Fr.set (.nd v0 (.nd v1 (.nd v2 a2 b2) a1) a0) 3 x = .nd v0 (.nd v1 (.nd x a2 b2) a1) a0 := (rfl)
@[go_sem ↓] theorem gt4 : Fr.get (.nd v0 a0 (.nd v1 (.nd v2 a2 b2) a1)) 4 = v2 := (rfl)
@[go_sem ↓] theorem st4 : Fr.set (.nd v0 a0 (.nd v1 (.nd v2 a2 b2) a1)) 4 x = .nd v0 a0 (.nd v1 (.nd x a2 b2) a1) := (rfl)
@[go_sem ↓] theorem gt5 : Fr.get (.nd v0 (.nd v1 a1 (.nd v2 a2 b2)) a0) 5 = v2 := (rfl)
@[go_sem ↓] theorem st5 : Fr.set (.nd v0 (.nd v1 a1 (.nd v2 a2 b2)) a0) 5 x = .nd v0 (.nd v1 a1 (.nd x a2 b2)) a0 := (rfl)
@[go_sem ↓] theorem gt6 : Fr.get (.nd v0 a0 (.nd v1 a1 (.nd v2 a2 b2))) 6 = v2 := (rfl)
@[go_sem ↓] theorem st6 : Fr.set (.nd v0 a0 (.nd v1 a1 (.nd v2 a2 b2))) 6 x = .nd v0 a0 (.nd v1 a1 (.nd x a2 b2)) := (rfl)
@[go_sem ↓] theorem gt7 : Fr.get (.nd v0 (.nd v1 (.nd v2 (.nd v3 a3 b3) a2) a1) a0) 7 = v3 := (rfl)
@[go_sem ↓] theorem st7 : Fr.set (.nd v0 (.nd v1 (.nd v2 (.nd v3 a3 b3) a2) a1) a0) 7 x = .nd v0 (.nd v1 (.nd v2 (.nd x a3 b3) a2) a1) a0 := (rfl)
@[go_sem ↓] theorem gt8 : Fr.get (.nd v0 a0 (.nd v1 (.nd v2 (.nd v3 a3 b3) a2) a1)) 8 = v3 := (rfl)
@[go_sem ↓] theorem st8 : Fr.set (.nd v0 a0 (.nd v1 (.nd v2 (.nd v3 a3 b3) a2) a1)) 8 x = .nd v0 a0 (.nd v1 (.nd v2 (.nd x a3 b3) a2) a1) := (rfl)
@[go_sem ↓] theorem gt9 : Fr.get (.nd v0 (.nd v1 a1 (.nd v2 (.nd v3 a3 b3) a2)) a0) 9 = v3 := (rfl)
@[go_sem ↓] theorem st9 : Fr.set (.nd v0 (.nd v1 a1 (.nd v2 (.nd v3 a3 b3) a2)) a0) 9 x = .nd v0 (.nd v1 a1 (.nd v2 (.nd x a3 b3) a2)) a0 := (rfl)
@[go_sem ↓] theorem gt10 : Fr.get (.nd v0 a0 (.nd v1 a1 (.nd v2 (.nd v3 a3 b3) a2))) 10 = v3 := (rfl)
@[go_sem ↓] theorem st10 : Fr.set (.nd v0 a0 (.nd v1 a1 (.nd v2 (.nd v3 a3 b3) a2))) 10 x = .nd v0 a0 (.nd v1 a1 (.nd v2 (.nd x a3 b3) a2)) := (rfl)
@[go_sem ↓] theorem gt11 : Fr.get (.nd v0 (.nd v1 (.nd v2 a2 (.nd v3 a3 b3)) a1) a0) 11 = v3 := (rfl)
@[go_sem ↓] theorem st11 : Fr.set (.nd v0 (.nd v1 (.nd v2 a2 (.nd v3 a3 b3)) a1) a0) 11 x = .nd v0 (.nd v1 (.nd v2 a2 (.nd x a3 b3)) a1) a0 := (rfl)
@[go_sem ↓] theorem gt12 : Fr.get (.nd v0 a0 (.nd v1 (.nd v2 a2 (.nd v3 a3 b3)) a1)) 12 = v3 := (rfl)
@[go_sem ↓] theorem st12 : Fr.set (.nd v0 a0 (.nd v1 (.nd v2 a2 (.nd v3 a3 b3)) a1)) 12 x = .nd v0 a0 (.nd v1 (.nd v2 a2 (.nd x a3 b3)) a1) := (rfl)
@[go_sem ↓] theorem gt13 : Fr.get (.nd v0 (.nd v1 a1 (.nd v2 a2 (.nd v3 a3 b3))) a0) 13 = v3 := (rfl)
@[go_sem ↓] theorem st13 : Fr.set (.nd v0 (.nd v1 a1 (.nd v2 a2 (.nd v3 a3 b3))) a0) 13 x = .nd v0 (.nd v1 a1 (.nd v2 a2 (.nd x a3 b3))) a0 := (rfl)
@[go_sem ↓] theorem gt14 : Fr.get (.nd v0 a0 (.nd v1 a1 (.nd v2 a2 (.nd v3 a3 b3)))) 14 = v3 := (rfl)
@[go_sem ↓] theorem st14 : Fr.set (.nd v0 a0 (.nd v1 a1 (.nd v2 a2 (.nd v3 a3 b3)))) 14 x = .nd v0 a0 (.nd v1 a1 (.nd v2 a2 (.nd x a3 b3))) := (rfl)
@[go_sem ↓] theorem gt15 : Fr.get (.nd v0 (.nd v1 (.nd v2 (.nd v3 (.nd v4 a4 b4) a3) a2) a1) a0) 15 = v4 := (rfl)
@[go_sem ↓] theorem st15 : Fr.set (.nd v0 (.nd v1 (.nd v2 (.nd v3 (.nd v4 a4 b4) a3) a2) a1) a0) 15 x = .nd v0 (.nd v1 (.nd v2 (.nd v3 (.nd x a4 b4) a3) a2) a1) a0 := (rfl)
@[go_sem ↓] theorem gt16 : Fr.get (.nd v0 a0 (.nd v1 (.nd v2 (.nd v3 (.nd v4 a4 b4) a3) a2) a1)) 16 = v4 := (rfl)
@[go_sem ↓] theorem st16 : Fr.set (.nd v0 a0 (.nd v1 (.nd v2 (.nd v3 (.nd v4 a4 b4) a3) a2) a1)) 16 x = .nd v0 a0 (.nd v1 (.nd v2 (.nd v3 (.nd x a4 b4) a3) a2) a1) := (rfl)
@[go_sem ↓] theorem gt17 : Fr.get (.nd v0 (.nd v1 a1 (.nd v2 (.nd v3 (.nd v4 a4 b4) a3) a2)) a0) 17 = v4 := (rfl)
@[go_sem ↓] theorem st17 : Fr.set (.nd v0 (.nd v1 a1 (.nd v2 (.nd v3 (.nd v4 a4 b4) a3) a2)) a0) 17 x = .nd v0 (.nd v1 a1 (.nd v2 (.nd v3 (.nd x a4 b4) a3) a2)) a0 := (rfl)
@[go_sem ↓] theorem gt18 : Fr.get (.nd v0 a0 (.nd v1 a1 (.nd v2 (.nd v3 (.nd v4 a4 b4) a3) a2))) 18 = v4 := (rfl)
@[go_sem ↓] theorem st18 : Fr.set (.nd v0 a0 (.nd v1 a1 (.nd v2 (.nd v3 (.nd v4 a4 b4) a3) a2))) 18 x = .nd v0 a0 (.nd v1 a1 (.nd v2 (.nd v3 (.nd x a4 b4) a3) a2)) := (rfl)
@[go_sem ↓] theorem gt19 : Fr.get (.nd v0 (.nd v1 (.nd v2 a2 (.nd v3 (.nd v4 a4 b4) a3)) a1) a0) 19 = v4 := (rfl)
@[go_sem ↓] theorem st19 : Fr.set (.nd v0 (.nd v1 (.nd v2 a2 (.nd v3 (.nd v4 a4 b4) a3)) a1) a0) 19 x = .nd v0 (.nd v1 (.nd v2 a2 (.nd v3 (.nd x a4 b4) a3)) a1) a0 := (rfl)
@[go_sem ↓] theorem gt20 : Fr.get (.nd v0 a0 (.nd v1 (.nd v2 a2 (.nd v3 (.nd v4 a4 b4) a3)) a1)) 20 = v4 := (rfl)
@[go_sem ↓] theorem st20 : Fr.set (.nd v0 a0 (.nd v1 (.nd v2 a2 (.nd v3 (.nd v4 a4 b4) a3)) a1)) 20 x = .nd v0 a0 (.nd v1 (.nd v2 a2 (.nd v3 (.nd x a4 b4) a3)) a1) := (rfl)
@[go_sem ↓] theorem gt21 : Fr.get (.nd v0 (.nd v1 a1 (.nd v2 a2 (.nd v3 (.nd v4 a4 b4) a3))) a0) 21 = v4 := (rfl)
@[go_sem ↓] theorem st21 : Fr.set (.nd v0 (.nd v1 a1 (.nd v2 a2 (.nd v3 (.nd v4 a4 b4) a3))) a0) 21 x = .nd v0 (.nd v1 a1 (.nd v2 a2 (.nd v3 (.nd x a4 b4) a3))) a0 := (rfl)
@[go_sem ↓] theorem gt22 : Fr.get (.nd v0 a0 (.nd v1 a1 (.nd v2 a2 (.nd v3 (.nd v4 a4 b4) a3)))) 22 = v4 := (rfl)
@[go_sem ↓] theorem st22 : Fr.set (.nd v0 a0 (.nd v1 a1 (.nd v2 a2 (.nd v3 (.nd v4 a4 b4) a3)))) 22 x = .nd v0 a0 (.nd v1 a1 (.nd v2 a2 (.nd v3 (.nd x a4 b4) a3))) := (rfl)
@[go_sem ↓] theorem gt23 : Fr.get (.nd v0 (.nd v1 (.nd v2 (.nd v3 a3 (.nd v4 a4 b4)) a2) a1) a0) 23 = v4 := (rfl)
@[go_sem ↓] theorem st23 : Fr.set (.nd v0 (.nd v1 (.nd v2 (.nd v3 a3 (.nd v4 a4 b4)) a2) a1) a0) 23 x = .nd v0 (.nd v1 (.nd v2 (.nd v3 a3 (.nd x a4 b4)) a2) a1) a0 := (rfl)
@[go_sem ↓] theorem gt24 : Fr.get (.nd v0 a0 (.nd v1 (.nd v2 (.nd v3 a3 (.nd v4 a4 b4)) a2) a1)) 24 = v4 := (rfl)
@[go_sem ↓] theorem st24 : Fr.set (.nd v0 a0 (.nd v1 (.nd v2 (.nd v3 a3 (.nd v4 a4 b4)) a2) a1)) 24 x = .nd v0 a0 (.nd v1 (.nd v2 (.nd v3 a3 (.nd x a4 b4)) a2) a1) := (rfl)
@[go_sem ↓] theorem gt25 : Fr.get (.nd v0 (.nd v1 a1 (.nd v2 (.nd v3 a3 (.nd v4 a4 b4)) a2)) a0) 25 = v4 := (rfl)
@[go_sem ↓] theorem st25 : Fr.set (.nd v0 (.nd v1 a1 (.nd v2 (.nd v3 a3 (.nd v4 a4 b4)) a2)) a0) 25 x = .nd v0 (.nd v1 a1 (.nd v2 (.nd v3 a3 (.nd x a4 b4)) a2)) a0 := (rfl)
@[go_sem ↓] theorem gt26 : Fr.get (.nd v0 a0 (.nd v1 a1 (.nd v2 (.nd v3 a3 (.nd v4 a4 b4)) a2))) 26 = v4 := (rfl)
@[go_sem ↓] theorem st26 : Fr.set (.nd v0 a0 (.nd v1 a1 (.nd v2 (.nd v3 a3 (.nd v4 a4 b4)) a2))) 26 x = .nd v0 a0 (.nd v1 a1 (.nd v2 (.nd v3 a3 (.nd x a4 b4)) a2)) := (rfl)
@[go_sem ↓] theorem gt27 : Fr.get (.nd v0 (.nd v1 (.nd v2 a2 (.nd v3 a3 (.nd v4 a4 b4))) a1) a0) 27 = v4 := (rfl)
@[go_sem ↓] theorem st27 : Fr.set (.nd v0 (.nd v1 (.nd v2 a2 (.nd v3 a3 (.nd v4 a4 b4))) a1) a0) 27 x = .nd v0 (.nd v1 (.nd v2 a2 (.nd v3 a3 (.nd x a4 b4))) a1) a0 := (rfl)
@[go_sem ↓] theorem gt28 : Fr.get (.nd v0 a0 (.nd v1 (.nd v2 a2 (.nd v3 a3 (.nd v4 a4 b4))) a1)) 28 = v4 := (rfl)
@[go_sem ↓] theorem st28 : Fr.set (.nd v0 a0 (.nd v1 (.nd v2 a2 (.nd v3 a3 (.nd v4 a4 b4))) a1)) 28 x = .nd v0 a0 (.nd v1 (.nd v2 a2 (.nd v3 a3 (.nd x a4 b4))) a1) := (rfl)
@[go_sem ↓] theorem gt29 : Fr.get (.nd v0 (.nd v1 a1 (.nd v2 a2 (.nd v3 a3 (.nd v4 a4 b4)))) a0) 29 = v4 := (rfl)
@[go_sem ↓] theorem st29 : Fr.set (.nd v0 (.nd v1 a1 (.nd v2 a2 (.nd v3 a3 (.nd v4 a4 b4)))) a0) 29 x = .nd v0 (.nd v1 a1 (.nd v2 a2 (.nd v3 a3 (.nd x a4 b4)))) a0 := (rfl)
@[go_sem ↓] theorem gt30 : Fr.get (.nd v0 a0 (.nd v1 a1 (.nd v2 a2 (.nd v3 a3 (.nd v4 a4 b4))))) 30 = v4 := (rfl)
@[go_sem ↓] theorem st30 : Fr.set (.nd v0 a0 (.nd v1 a1 (.nd v2 a2 (.nd v3 a3 (.nd v4 a4 b4))))) 30 x = .nd v0 a0 (.nd v1 a1 (.nd v2 a2 (.nd v3 a3 (.nd x a4 b4)))) := (rfl)
@[go_sem ↓] theorem gt31 : Fr.get (.nd v0 (.nd v1 (.nd v2 (.nd v3 (.nd v4 (.nd v5 a5 b5) a4) a3) a2) a1) a0) 31 = v5 := (rfl)
@[go_sem ↓] theorem st31 : Fr.set (.nd v0 (.nd v1 (.nd v2 (.nd v3 (.nd v4 (.nd v5 a5 b5) a4) a3) a2) a1) a0) 31 x = .nd v0 (.nd v1 (.nd v2 (.nd v3 (.nd v4 (.nd x a5 b5) a4) a3) a2) a1) a0 := (rfl)
@[go_sem ↓] theorem gt32 : Fr.get (.nd v0 a0 (.nd v1 (.nd v2 (.nd v3 (.nd v4 (.nd v5 a5 b5) a4) a3) a2) a1)) 32 = v5 := (rfl)
@[go_sem ↓] theorem st32 : Fr.set (.nd v0 a0 (.nd v1 (.nd v2 (.nd v3 (.nd v4 (.nd v5 a5 b5) a4) a3) a2) a1)) 32 x = .nd v0 a0 (.nd v1 (.nd v2 (.nd v3 (.nd v4 (.nd x a5 b5) a4) a3) a2) a1) := (rfl)
@[go_sem ↓] theorem gt33 : Fr.get (.nd v0 (.nd v1 a1 (.nd v2 (.nd v3 (.nd v4 (.nd v5 a5 b5) a4) a3) a2)) a0) 33 = v5 := (rfl)
@[go_sem ↓] theorem st33 : Fr.set (.nd v0 (.nd v1 a1 (.nd v2 (.nd v3 (.nd v4 (.nd v5 a5 b5) a4) a3) a2)) a0) 33 x = .nd v0 (.nd v1 a1 (.nd v2 (.nd v3 (.nd v4 (.nd x a5 b5) a4) a3) a2)) a0 := (rfl)
@[go_sem ↓] theorem gt34 : Fr.get (.nd v0 a0 (.nd v1 a1 (.nd v2 (.nd v3 (.nd v4 (.nd v5 a5 b5) a4) a3) a2))) 34 = v5 := (rfl)
@[go_sem ↓] theorem st34 : Fr.set (.nd v0 a0 (.nd v1 a1 (.nd v2 (.nd v3 (.nd v4 (.nd v5 a5 b5) a4) a3) a2))) 34 x = .nd v0 a0 (.nd v1 a1 (.nd v2 (.nd v3 (.nd v4 (.nd x a5 b5) a4) a3) a2)) := (rfl)
@[go_sem ↓] theorem gt35 : Fr.get (.nd v0 (.nd v1 (.nd v2 a2 (.nd v3 (.nd v4 (.nd v5 a5 b5) a4) a3)) a1) a0) 35 = v5 := (rfl)
@[go_sem ↓] theorem st35 : Fr.set (.nd v0 (.nd v1 (.nd v2 a2 (.nd v3 (.nd v4 (.nd v5 a5 b5) a4) a3)) a1) a0) 35 x = .nd v0 (.nd v1 (.nd v2 a2 (.nd v3 (.nd v4 (.nd x a5 b5) a4) a3)) a1) a0 := (rfl)
@[go_sem ↓] theorem gt36 : Fr.get (.nd v0 a0 (.nd v1 (.nd v2 a2 (.nd v3 (.nd v4 (.nd v5 a5 b5) a4) a3)) a1)) 36 = v5 := (rfl)
@[go_sem ↓] theorem st36 : Fr.set (.nd v0 a0 (.nd v1 (.nd v2 a2 (.nd v3 (.nd v4 (.nd v5 a5 b5) a4) a3)) a1)) 36 x = .nd v0 a0 (.nd v1 (.nd v2 a2 (.nd v3 (.nd v4 (.nd x a5 b5) a4) a3)) a1) := (rfl)
@[go_sem ↓] theorem gt37 : Fr.get (.nd v0 (.nd v1 a1 (.nd v2 a2 (.nd v3 (.nd v4 (.nd v5 a5 b5) a4) a3))) a0) 37 = v5 := (rfl)
@[go_sem ↓] theorem st37 : Fr.set (.nd v0 (.nd v1 a1 (.nd v2 a2 (.nd v3 (.nd v4 (.nd v5 a5 b5) a4) a3))) a0) 37 x = .nd v0 (.nd v1 a1 (.nd v2 a2 (.nd v3 (.nd v4 (.nd x a5 b5) a4) a3))) a0 := (rfl)
@[go_sem ↓] theorem gt38 : Fr.get (.nd v0 a0 (.nd v1 a1 (.nd v2 a2 (.nd v3 (.nd v4 (.nd v5 a5 b5) a4) a3)))) 38 = v5 := (rfl)
@[go_sem ↓] theorem st38 : Fr.set (.nd v0 a0 (.nd v1 a1 (.nd v2 a2 (.nd v3 (.nd v4 (.nd v5 a5 b5) a4) a3)))) 38 x = .nd v0 a0 (.nd v1 a1 (.nd v2 a2 (.nd v3 (.nd v4 (.nd x a5 b5) a4) a3))) := (rfl)
@[go_sem ↓] theorem gt39 : Fr.get (.nd v0 (.nd v1 (.nd v2 (.nd v3 a3 (.nd v4 (.nd v5 a5 b5) a4)) a2) a1) a0) 39 = v5 := (rfl)
@[go_sem ↓] theorem st39 : Fr.set (.nd v0 (.nd v1 (.nd v2 (.nd v3 a3 (.nd v4 (.nd v5 a5 b5) a4)) a2) a1) a0) 39 x = .nd v0 (.nd v1 (.nd v2 (.nd v3 a3 (.nd v4 (.nd x a5 b5) a4)) a2) a1) a0 := (rfl)
@[go_sem ↓] theorem gt40 : Fr.get (.nd v0 a0 (.nd v1 (.nd v2 (.nd v3 a3 (.nd v4 (.nd v5 a5 b5) a4)) a2) a1)) 40 = v5 := (rfl)
@[go_sem ↓] theorem st40 : Fr.set (.nd v0 a0 (.nd v1 (.nd v2 (.nd v3 a3 (.nd v4 (.nd v5 a5 b5) a4)) a2) a1)) 40 x = .nd v0 a0 (.nd v1 (.nd v2 (.nd v3 a3 (.nd v4 (.nd x a5 b5) a4)) a2) a1) := (rfl)
@[go_sem ↓] theorem gt41 : Fr.get (.nd v0 (.nd v1 a1 (.nd v2 (.nd v3 a3 (.nd v4 (.nd v5 a5 b5) a4)) a2)) a0) 41 = v5 := (rfl)
@[go_sem ↓] theorem st41 : Fr.set (.nd v0 (.nd v1 a1 (.nd v2 (.nd v3 a3 (.nd v4 (.nd v5 a5 b5) a4)) a2)) a0) 41 x = .nd v0 (.nd v1 a1 (.nd v2 (.nd v3 a3 (.nd v4 (.nd x a5 b5) a4)) a2)) a0 := (rfl)
@[go_sem ↓] theorem gt42 : Fr.get (.nd v0 a0 (.nd v1 a1 (.nd v2 (.nd v3 a3 (.nd v4 (.nd v5 a5 b5) a4)) a2))) 42 = v5 := (rfl)
@[go_sem ↓] theorem st42 : Fr.set (.nd v0 a0 (.nd v1 a1 (.nd v2 (.nd v3 a3 (.nd v4 (.nd v5 a5 b5) a4)) a2))) 42 x = .nd v0 a0 (.nd v1 a1 (.nd v2 (.nd v3 a3 (.nd v4 (.nd x a5 b5) a4)) a2)) := (rfl)
@[go_sem ↓] theorem gt43 : Fr.get (.nd v0 (.nd v1 (.nd v2 a2 (.nd v3 a3 (.nd v4 (.nd v5 a5 b5) a4))) a1) a0) 43 = v5 := (rfl)
@[go_sem ↓] theorem st43 : Fr.set (.nd v0 (.nd v1 (.nd v2 a2 (.nd v3 a3 (.nd v4 (.nd v5 a5 b5) a4))) a1) a0) 43 x = .nd v0 (.nd v1 (.nd v2 a2 (.nd v3 a3 (.nd v4 (.nd x a5 b5) a4))) a1) a0 := (rfl)
@[go_sem ↓] theorem gt44 : Fr.get (.nd v0 a0 (.nd v1 (.nd v2 a2 (.nd v3 a3 (.nd v4 (.nd v5 a5 b5) a4))) a1)) 44 = v5 := (rfl)
@[go_sem ↓] theorem st44 : Fr.set (.nd v0 a0 (.nd v1 (.nd v2 a2 (.nd v3 a3 (.nd v4 (.nd v5 a5 b5) a4))) a1)) 44 x = .nd v0 a0 (.nd v1 (.nd v2 a2 (.nd v3 a3 (.nd v4 (.nd x a5 b5) a4))) a1) := (rfl)
@[go_sem ↓] theorem gt45 : Fr.get (.nd v0 (.nd v1 a1 (.nd v2 a2 (.nd v3 a3 (.nd v4 (.nd v5 a5 b5) a4)))) a0) 45 = v5 := (rfl)
@[go_sem ↓] theorem st45 : Fr.set (.nd v0 (.nd v1 a1 (.nd v2 a2 (.nd v3 a3 (.nd v4 (.nd v5 a5 b5) a4)))) a0) 45 x = .nd v0 (.nd v1 a1 (.nd v2 a2 (.nd v3 a3 (.nd v4 (.nd x a5 b5) a4)))) a0 := (rfl)
@[go_sem ↓] theorem gt46 : Fr.get (.nd v0 a0 (.nd v1 a1 (.nd v2 a2 (.nd v3 a3 (.nd v4 (.nd v5 a5 b5) a4))))) 46 = v5 := (rfl)
@[go_sem ↓] theorem st46 : Fr.set (.nd v0 a0 (.nd v1 a1 (.nd v2 a2 (.nd v3 a3 (.nd v4 (.nd v5 a5 b5) a4))))) 46 x = .nd v0 a0 (.nd v1 a1 (.nd v2 a2 (.nd v3 a3 (.nd v4 (.nd x a5 b5) a4)))) := (rfl)
@[go_sem ↓] theorem gt47 : Fr.get (.nd v0 (.nd v1 (.nd v2 (.nd v3 (.nd v4 a4 (.nd v5 a5 b5)) a3) a2) a1) a0) 47 = v5 := (rfl)
@[go_sem ↓] theorem st47 : Fr.set (.nd v0 (.nd v1 (.nd v2 (.nd v3 (.nd v4 a4 (.nd v5 a5 b5)) a3) a2) a1) a0) 47 x = .nd v0 (.nd v1 (.nd v2 (.nd v3 (.nd v4 a4 (.nd x a5 b5)) a3) a2) a1) a0 := (rfl)
@[go_sem ↓] theorem gt48 : Fr.get (.nd v0 a0 (.nd v1 (.nd v2 (.nd v3 (.nd v4 a4 (.nd v5 a5 b5)) a3) a2) a1)) 48 = v5 := (rfl)
@[go_sem ↓] theorem st48 : Fr.set (.nd v0 a0 (.nd v1 (.nd v2 (.nd v3 (.nd v4 a4 (.nd v5 a5 b5)) a3) a2) a1)) 48 x = .nd v0 a0 (.nd v1 (.nd v2 (.nd v3 (.nd v4 a4 (.nd x a5 b5)) a3) a2) a1) := (rfl)
@[go_sem ↓] theorem gt49 : Fr.get (.nd v0 (.nd v1 a1 (.nd v2 (.nd v3 (.nd v4 a4 (.nd v5 a5 b5)) a3) a2)) a0) 49 = v5 := (rfl)
@[go_sem ↓] theorem st49 : Fr.set (.nd v0 (.nd v1 a1 (.nd v2 (.nd v3 (.nd v4 a4 (.nd v5 a5 b5)) a3) a2)) a0) 49 x = .nd v0 (.nd v1 a1 (.nd v2 (.nd v3 (.nd v4 a4 (.nd x a5 b5)) a3) a2)) a0 := (rfl)
@[go_sem ↓] theorem gt50 : Fr.get (.nd v0 a0 (.nd v1 a1 (.nd v2 (.nd v3 (.nd v4 a4 (.nd v5 a5 b5)) a3) a2))) 50 = v5 := (rfl)
@[go_sem ↓] theorem st50 : Fr.set (.nd v0 a0 (.nd v1 a1 (.nd v2 (.nd v3 (.nd v4 a4 (.nd v5 a5 b5)) a3) a2))) 50 x = .nd v0 a0 (.nd v1 a1 (.nd v2 (.nd v3 (.nd v4 a4 (.nd x a5 b5)) a3) a2)) := (rfl)
@[go_sem ↓] theorem gt51 : Fr.get (.nd v0 (.nd v1 (.nd v2 a2 (.nd v3 (.nd v4 a4 (.nd v5 a5 b5)) a3)) a1) a0) 51 = v5 := (rfl)
@[go_sem ↓] theorem st51 : Fr.set (.nd v0 (.nd v1 (.nd v2 a2 (.nd v3 (.nd v4 a4 (.nd v5 a5 b5)) a3)) a1) a0) 51 x = .nd v0 (.nd v1 (.nd v2 a2 (.nd v3 (.nd v4 a4 (.nd x a5 b5)) a3)) a1) a0 := (rfl)
@[go_sem ↓] theorem gt52 : Fr.get (.nd v0 a0 (.nd v1 (.nd v2 a2 (.nd v3 (.nd v4 a4 (.nd v5 a5 b5)) a3)) a1)) 52 = v5 := (rfl)
@[go_sem ↓] theorem st52 : Fr.set (.nd v0 a0 (.nd v1 (.nd v2 a2 (.nd v3 (.nd v4 a4 (.nd v5 a5 b5)) a3)) a1)) 52 x = .nd v0 a0 (.nd v1 (.nd v2 a2 (.nd v3 (.nd v4 a4 (.nd x a5 b5)) a3)) a1) := (rfl)
@[go_sem ↓] theorem gt53 : Fr.get (.nd v0 (.nd v1 a1 (.nd v2 a2 (.nd v3 (.nd v4 a4 (.nd v5 a5 b5)) a3))) a0) 53 = v5 := (rfl)
@[go_sem ↓] theorem st53 : Fr.set (.nd v0 (.nd v1 a1 (.nd v2 a2 (.nd v3 (.nd v4 a4 (.nd v5 a5 b5)) a3))) a0) 53 x = .nd v0 (.nd v1 a1 (.nd v2 a2 (.nd v3 (.nd v4 a4 (.nd x a5 b5)) a3))) a0 := (rfl)
@[go_sem ↓] theorem gt54 : Fr.get (.nd v0 a0 (.nd v1 a1 (.nd v2 a2 (.nd v3 (.nd v4 a4 (.nd v5 a5 b5)) a3)))) 54 = v5 := (rfl)
@[go_sem ↓] theorem st54 : Fr.set (.nd v0 a0 (.nd v1 a1 (.nd v2 a2 (.nd v3 (.nd v4 a4 (.nd v5 a5 b5)) a3)))) 54 x = .nd v0 a0 (.nd v1 a1 (.nd v2 a2 (.nd v3 (.nd v4 a4 (.nd x a5 b5)) a3))) := (rfl)
@[go_sem ↓] theorem gt55 : Fr.get (.nd v0 (.nd v1 (.nd v2 (.nd v3 a3 (.nd v4 a4 (.nd v5 a5 b5))) a2) a1) a0) 55 = v5 := (rfl)
@[go_sem ↓] theorem st55 : Fr.set (.nd v0 (.nd v1 (.nd v2 (.nd v3 a3 (.nd v4 a4 (.nd v5 a5 b5))) a2) a1) a0) 55 x = .nd v0 (.nd v1 (.nd v2 (.nd v3 a3 (.nd v4 a4 (.nd x a5 b5))) a2) a1) a0 := (rfl)
@[go_sem ↓] theorem gt56 : Fr.get (.nd v0 a0 (.nd v1 (.nd v2 (.nd v3 a3 (.nd v4 a4 (.nd v5 a5 b5))) a2) a1)) 56 = v5 := (rfl)
@[go_sem ↓] theorem st56 : Fr.set (.nd v0 a0 (.nd v1 (.nd v2 (.nd v3 a3 (.nd v4 a4 (.nd v5 a5 b5))) a2) a1)) 56 x = .nd v0 a0 (.nd v1 (.nd v2 (.nd v3 a3 (.nd v4 a4 (.nd x a5 b5))) a2) a1) := (rfl)
@[go_sem ↓] theorem gt57 : Fr.get (.nd v0 (.nd v1 a1 (.nd v2 (.nd v3 a3 (.nd v4 a4 (.nd v5 a5 b5))) a2)) a0) 57 = v5 := (rfl)
@[go_sem ↓] theorem st57 : Fr.set (.nd v0 (.nd v1 a1 (.nd v2 (.nd v3 a3 (.nd v4 a4 (.nd v5 a5 b5))) a2)) a0) 57 x = .nd v0 (.nd v1 a1 (.nd v2 (.nd v3 a3 (.nd v4 a4 (.nd x a5 b5))) a2)) a0 := (rfl)
@[go_sem ↓] theorem gt58 : Fr.get (.nd v0 a0 (.nd v1 a1 (.nd v2 (.nd v3 a3 (.nd v4 a4 (.nd v5 a5 b5))) a2))) 58 = v5 := (rfl)
@[go_sem ↓] theorem st58 : Fr.set (.nd v0 a0 (.nd v1 a1 (.nd v2 (.nd v3 a3 (.nd v4 a4 (.nd v5 a5 b5))) a2))) 58 x = .nd v0 a0 (.nd v1 a1 (.nd v2 (.nd v3 a3 (.nd v4 a4 (.nd x a5 b5))) a2)) := (rfl)
@[go_sem ↓] theorem gt59 : Fr.get (.nd v0 (.nd v1 (.nd v2 a2 (.nd v3 a3 (.nd v4 a4 (.nd v5 a5 b5)))) a1) a0) 59 = v5 := (rfl)
@[go_sem ↓] theorem st59 : Fr.set (.nd v0 (.nd v1 (.nd v2 a2 (.nd v3 a3 (.nd v4 a4 (.nd v5 a5 b5)))) a1) a0) 59 x = .nd v0 (.nd v1 (.nd v2 a2 (.nd v3 a3 (.nd v4 a4 (.nd x a5 b5)))) a1) a0 := (rfl)
@[go_sem ↓] theorem gt60 : Fr.get (.nd v0 a0 (.nd v1 (.nd v2 a2 (.nd v3 a3 (.nd v4 a4 (.nd v5 a5 b5)))) a1)) 60 = v5 := (rfl)
@[go_sem ↓] theorem st60 : Fr.set (.nd v0 a0 (.nd v1 (.nd v2 a2 (.nd v3 a3 (.nd v4 a4 (.nd v5 a5 b5)))) a1)) 60 x = .nd v0 a0 (.nd v1 (.nd v2 a2 (.nd v3 a3 (.nd v4 a4 (.nd x a5 b5)))) a1) := (rfl)
@[go_sem ↓] theorem gt61 : Fr.get (.nd v0 (.nd v1 a1 (.nd v2 a2 (.nd v3 a3 (.nd v4 a4 (.nd v5 a5 b5))))) a0) 61 = v5 := (rfl)
@[go_sem ↓] theorem st61 : Fr.set (.nd v0 (.nd v1 a1 (.nd v2 a2 (.nd v3 a3 (.nd v4 a4 (.nd v5 a5 b5))))) a0) 61 x = .nd v0 (.nd v1 a1 (.nd v2 a2 (.nd v3 a3 (.nd v4 a4 (.nd x a5 b5))))) a0 := (rfl)
@[go_sem ↓] theorem gt62 : Fr.get (.nd v0 a0 (.nd v1 a1 (.nd v2 a2 (.nd v3 a3 (.nd v4 a4 (.nd v5 a5 b5)))))) 62 = v5 := (rfl)
@[go_sem ↓] theorem st62 : Fr.set (.nd v0 a0 (.nd v1 a1 (.nd v2 a2 (.nd v3 a3 (.nd v4 a4 (.nd v5 a5 b5)))))) 62 x = .nd v0 a0 (.nd v1 a1 (.nd v2 a2 (.nd v3 a3 (.nd v4 a4 (.nd x a5 b5))))) := (rfl)
@[go_sem ↓] theorem gt63 : Fr.get (.nd v0 (.nd v1 (.nd v2 (.nd v3 (.nd v4 (.nd v5 (.nd v6 a6 b6) a5) a4) a3) a2) a1) a0) 63 = v6 := (rfl)
@[go_sem ↓] theorem st63 : Fr.set (.nd v0 (.nd v1 (.nd v2 (.nd v3 (.nd v4 (.nd v5 (.nd v6 a6 b6) a5) a4) a3) a2) a1) a0) 63 x = .nd v0 (.nd v1 (.nd v2 (.nd v3 (.nd v4 (.nd v5 (.nd x a6 b6) a5) a4) a3) a2) a1) a0 := (rfl)
@[go_sem ↓] theorem gt64 : Fr.get (.nd v0 a0 (.nd v1 (.nd v2 (.nd v3 (.nd v4 (.nd v5 (.nd v6 a6 b6) a5) a4) a3) a2) a1)) 64 = v6 := (rfl)
@[go_sem ↓] theorem st64 : Fr.set (.nd v0 a0 (.nd v1 (.nd v2 (.nd v3 (.nd v4 (.nd v5 (.nd v6 a6 b6) a5) a4) a3) a2) a1)) 64 x = .nd v0 a0 (.nd v1 (.nd v2 (.nd v3 (.nd v4 (.nd v5 (.nd x a6 b6) a5) a4) a3) a2) a1) := (rfl)
@[go_sem ↓] theorem gt65 : Fr.get (.nd v0 (.nd v1 a1 (.nd v2 (.nd v3 (.nd v4 (.nd v5 (.nd v6 a6 b6) a5) a4) a3) a2)) a0) 65 = v6 := (rfl)
@[go_sem ↓] theorem st65 : Fr.set (.nd v0 (.nd v1 a1 (.nd v2 (.nd v3 (.nd v4 (.nd v5 (.nd v6 a6 b6) a5) a4) a3) a2)) a0) 65 x = .nd v0 (.nd v1 a1 (.nd v2 (.nd v3 (.nd v4 (.nd v5 (.nd x a6 b6) a5) a4) a3) a2)) a0 := (rfl)
@[go_sem ↓] theorem gt66 : Fr.get (.nd v0 a0 (.nd v1 a1 (.nd v2 (.nd v3 (.nd v4 (.nd v5 (.nd v6 a6 b6) a5) a4) a3) a2))) 66 = v6 := (rfl)
@[go_sem ↓] theorem st66 : Fr.set (.nd v0 a0 (.nd v1 a1 (.nd v2 (.nd v3 (.nd v4 (.nd v5 (.nd v6 a6 b6) a5) a4) a3) a2))) 66 x = .nd v0 a0 (.nd v1 a1 (.nd v2 (.nd v3 (.nd v4 (.nd v5 (.nd x a6 b6) a5) a4) a3) a2)) := (rfl)
@[go_sem ↓] theorem gt67 : Fr.get (.nd v0 (.nd v1 (.nd v2 a2 (.nd v3 (.nd v4 (.nd v5 (.nd v6 a6 b6) a5) a4) a3)) a1) a0) 67 = v6 := (rfl)
@[go_sem ↓] theorem st67 : Fr.set (.nd v0 (.nd v1 (.nd v2 a2 (.nd v3 (.nd v4 (.nd v5 (.nd v6 a6 b6) a5) a4) a3)) a1) a0) 67 x = .nd v0 (.nd v1 (.nd v2 a2 (.nd v3 (.nd v4 (.nd v5 (.nd x a6 b6) a5) a4) a3)) a1) a0 := (rfl)
@[go_sem ↓] theorem gt68 : Fr.get (.nd v0 a0 (.nd v1 (.nd v2 a2 (.nd v3 (.nd v4 (.nd v5 (.nd v6 a6 b6) a5) a4) a3)) a1)) 68 = v6 := (rfl)
@[go_sem ↓] theorem st68 : Fr.set (.nd v0 a0 (.nd v1 (.nd v2 a2 (.nd v3 (.nd v4 (.nd v5 (.nd v6 a6 b6) a5) a4) a3)) a1)) 68 x = .nd v0 a0 (.nd v1 (.nd v2 a2 (.nd v3 (.nd v4 (.nd v5 (.nd x a6 b6) a5) a4) a3)) a1) := (rfl)
@[go_sem ↓] theorem gt69 : Fr.get (.nd v0 (.nd v1 a1 (.nd v2 a2 (.nd v3 (.nd v4 (.nd v5 (.nd v6 a6 b6) a5) a4) a3))) a0) 69 = v6 := (rfl)
@[go_sem ↓] theorem st69 : Fr.set (.nd v0 (.nd v1 a1 (.nd v2 a2 (.nd v3 (.nd v4 (.nd v5 (.nd v6 a6 b6) a5) a4) a3))) a0) 69 x = .nd v0 (.nd v1 a1 (.nd v2 a2 (.nd v3 (.nd v4 (.nd v5 (.nd x a6 b6) a5) a4) a3))) a0 := (rfl)
@[go_sem ↓] theorem gt70 : Fr.get (.nd v0 a0 (.nd v1 a1 (.nd v2 a2 (.nd v3 (.nd v4 (.nd v5 (.nd v6 a6 b6) a5) a4) a3)))) 70 = v6 := (rfl)
@[go_sem ↓] theorem st70 : Fr.set (.nd v0 a0 (.nd v1 a1 (.nd v2 a2 (.nd v3 (.nd v4 (.nd v5 (.nd v6 a6 b6) a5) a4) a3)))) 70 x = .nd v0 a0 (.nd v1 a1 (.nd v2 a2 (.nd v3 (.nd v4 (.nd v5 (.nd x a6 b6) a5) a4) a3))) := (rfl)
@[go_sem ↓] theorem gt71 : Fr.get (.nd v0 (.nd v1 (.nd v2 (.nd v3 a3 (.nd v4 (.nd v5 (.nd v6 a6 b6) a5) a4)) a2) a1) a0) 71 = v6 := (rfl)
@[go_sem ↓] theorem st71 : Fr.set (.nd v0 (.nd v1 (.nd v2 (.nd v3 a3 (.nd v4 (.nd v5 (.nd v6 a6 b6) a5) a4)) a2) a1) a0) 71 x = .nd v0 (.nd v1 (.nd v2 (.nd v3 a3 (.nd v4 (.nd v5 (.nd x a6 b6) a5) a4)) a2) a1) a0 := (rfl)
@[go_sem ↓] theorem gt72 : Fr.get (.nd v0 a0 (.nd v1 (.nd v2 (.nd v3 a3 (.nd v4 (.nd v5 (.nd v6 a6 b6) a5) a4)) a2) a1)) 72 = v6 := (rfl)
@[go_sem ↓] theorem st72 : Fr.set (.nd v0 a0 (.nd v1 (.nd v2 (.nd v3 a3 (.nd v4 (.nd v5 (.nd v6 a6 b6) a5) a4)) a2) a1)) 72 x = .nd v0 a0 (.nd v1 (.nd v2 (.nd v3 a3 (.nd v4 (.nd v5 (.nd x a6 b6) a5) a4)) a2) a1) := (rfl)
@[go_sem ↓] theorem gt73 : Fr.get (.nd v0 (.nd v1 a1 (.nd v2 (.nd v3 a3 (.nd v4 (.nd v5 (.nd v6 a6 b6) a5) a4)) a2)) a0) 73 = v6 := (rfl)
@[go_sem ↓] theorem st73 : Fr.set (.nd v0 (.nd v1 a1 (.nd v2 (.nd v3 a3 (.nd v4 (.nd v5 (.nd v6 a6 b6) a5) a4)) a2)) a0) 73 x = .nd v0 (.nd v1 a1 (.nd v2 (.nd v3 a3 (.nd v4 (.nd v5 (.nd x a6 b6) a5) a4)) a2)) a0 := (rfl)
@[go_sem ↓] theorem gt74 : Fr.get (.nd v0 a0 (.nd v1 a1 (.nd v2 (.nd v3 a3 (.nd v4 (.nd v5 (.nd v6 a6 b6) a5) a4)) a2))) 74 = v6 := (rfl)
@[go_sem ↓] theorem st74 : Fr.set (.nd v0 a0 (.nd v1 a1 (.nd v2 (.nd v3 a3 (.nd v4 (.nd v5 (.nd v6 a6 b6) a5) a4)) a2))) 74 x = .nd v0 a0 (.nd v1 a1 (.nd v2 (.nd v3 a3 (.nd v4 (.nd v5 (.nd x a6 b6) a5) a4)) a2)) := (rfl)
@[go_sem ↓] theorem gt75 : Fr.get (.nd v0 (.nd v1 (.nd v2 a2 (.nd v3 a3 (.nd v4 (.nd v5 (.nd v6 a6 b6) a5) a4))) a1) a0) 75 = v6 := (rfl)
@[go_sem ↓] theorem st75 : Fr.set (.nd v0 (.nd v1 (.nd v2 a2 (.nd v3 a3 (.nd v4 (.nd v5 (.nd v6 a6 b6) a5) a4))) a1) a0) 75 x = .nd v0 (.nd v1 (.nd v2 a2 (.nd v3 a3 (.nd v4 (.nd v5 (.nd x a6 b6) a5) a4))) a1) a0 := (rfl)
@[go_sem ↓] theorem gt76 : Fr.get (.nd v0 a0 (.nd v1 (.nd v2 a2 (.nd v3 a3 (.nd v4 (.nd v5 (.nd v6 a6 b6) a5) a4))) a1)) 76 = v6 := (rfl)
@[go_sem ↓] theorem st76 : Fr.set (.nd v0 a0 (.nd v1 (.nd v2 a2 (.nd v3 a3 (.nd v4 (.nd v5 (.nd v6 a6 b6) a5) a4))) a1)) 76 x = .nd v0 a0 (.nd v1 (.nd v2 a2 (.nd v3 a3 (.nd v4 (.nd v5 (.nd x a6 b6) a5) a4))) a1) := (rfl)
@[go_sem ↓] theorem gt77 : Fr.get (.nd v0 (.nd v1 a1 (.nd v2 a2 (.nd v3 a3 (.nd v4 (.nd v5 (.nd v6 a6 b6) a5) a4)))) a0) 77 = v6 := (rfl)
@[go_sem ↓] theorem st77 : Fr.set (.nd v0 (.nd v1 a1 (.nd v2 a2 (.nd v3 a3 (.nd v4 (.nd v5 (.nd v6 a6 b6) a5) a4)))) a0) 77 x = .nd v0 (.nd v1 a1 (.nd v2 a2 (.nd v3 a3 (.nd v4 (.nd v5 (.nd x a6 b6) a5) a4)))) a0 := (rfl)
@[go_sem ↓] theorem gt78 : Fr.get (.nd v0 a0 (.nd v1 a1 (.nd v2 a2 (.nd v3 a3 (.nd v4 (.nd v5 (.nd v6 a6 b6) a5) a4))))) 78 = v6 := (rfl)
@[go_sem ↓] theorem st78 : Fr.set (.nd v0 a0 (.nd v1 a1 (.nd v2 a2 (.nd v3 a3 (.nd v4 (.nd v5 (.nd v6 a6 b6) a5) a4))))) 78 x = .nd v0 a0 (.nd v1 a1 (.nd v2 a2 (.nd v3 a3 (.nd v4 (.nd v5 (.nd x a6 b6) a5) a4)))) := (rfl)
@[go_sem ↓] theorem gt79 : Fr.get (.nd v0 (.nd v1 (.nd v2 (.nd v3 (.nd v4 a4 (.nd v5 (.nd v6 a6 b6) a5)) a3) a2) a1) a0) 79 = v6 := (rfl)
@[go_sem ↓] theorem st79 : Fr.set (.nd v0 (.nd v1 (.nd v2 (.nd v3 (.nd v4 a4 (.nd v5 (.nd v6 a6 b6) a5)) a3) a2) a1) a0) 79 x = .nd v0 (.nd v1 (.nd v2 (.nd v3 (.nd v4 a4 (.nd v5 (.nd x a6 b6) a5)) a3) a2) a1) a0 := (rfl)
@[go_sem ↓] theorem gt80 : Fr.get (.nd v0 a0 (.nd v1 (.nd v2 (.nd v3 (.nd v4 a4 (.nd v5 (.nd v6 a6 b6) a5)) a3) a2) a1)) 80 = v6 := (rfl)
@[go_sem ↓] theorem st80 : Fr.set (.nd v0 a0 (.nd v1 (.nd v2 (.nd v3 (.nd v4 a4 (.nd v5 (.nd v6 a6 b6) a5)) a3) a2) a1)) 80 x = .nd v0 a0 (.nd v1 (.nd v2 (.nd v3 (.nd v4 a4 (.nd v5 (.nd x a6 b6) a5)) a3) a2) a1) := (rfl)
@[go_sem ↓] theorem gt81 : Fr.get (.nd v0 (.nd v1 a1 (.nd v2 (.nd v3 (.nd v4 a4 (.nd v5 (.nd v6 a6 b6) a5)) a3) a2)) a0) 81 = v6 := (rfl)
@[go_sem ↓] theorem st81 : Fr.set (.nd v0 (.nd v1 a1 (.nd v2 (.nd v3 (.nd v4 a4 (.nd v5 (.nd v6 a6 b6) a5)) a3) a2)) a0) 81 x = .nd v0 (.nd v1 a1 (.nd v2 (.nd v3 (.nd v4 a4 (.nd v5 (.nd x a6 b6) a5)) a3) a2)) a0 := (rfl)
@[go_sem ↓] theorem gt82 : Fr.get (.nd v0 a0 (.nd v1 a1 (.nd v2 (.nd v3 (.nd v4 a4 (.nd v5 (.nd v6 a6 b6) a5)) a3) a2))) 82 = v6 := (rfl)
@[go_sem ↓] theorem st82 : Fr.set (.nd v0 a0 (.nd v1 a1 (.nd v2 (.nd v3 (.nd v4 a4 (.nd v5 (.nd v6 a6 b6) a5)) a3) a2))) 82 x = .nd v0 a0 (.nd v1 a1 (.nd v2 (.nd v3 (.nd v4 a4 (.nd v5 (.nd x a6 b6) a5)) a3) a2)) := (rfl)
@[go_sem ↓] theorem gt83 : Fr.get (.nd v0 (.nd v1 (.nd v2 a2 (.nd v3 (.nd v4 a4 (.nd v5 (.nd v6 a6 b6) a5)) a3)) a1) a0) 83 = v6 := (rfl)
@[go_sem ↓] theorem st83 : Fr.set (.nd v0 (.nd v1 (.nd v2 a2 (.nd v3 (.nd v4 a4 (.nd v5 (.nd v6 a6 b6) a5)) a3)) a1) a0) 83 x = .nd v0 (.nd v1 (.nd v2 a2 (.nd v3 (.nd v4 a4 (.nd v5 (.nd x a6 b6) a5)) a3)) a1) a0 := (rfl)
@[go_sem ↓] theorem gt84 : Fr.get (.nd v0 a0 (.nd v1 (.nd v2 a2 (.nd v3 (.nd v4 a4 (.nd v5 (.nd v6 a6 b6) a5)) a3)) a1)) 84 = v6 := (rfl)
@[go_sem ↓] theorem st84 : Fr.set (.nd v0 a0 (.nd v1 (.nd v2 a2 (.nd v3 (.nd v4 a4 (.nd v5 (.nd v6 a6 b6) a5)) a3)) a1)) 84 x = .nd v0 a0 (.nd v1 (.nd v2 a2 (.nd v3 (.nd v4 a4 (.nd v5 (.nd x a6 b6) a5)) a3)) a1) := (rfl)
@[go_sem ↓] theorem gt85 : Fr.get (.nd v0 (.nd v1 a1 (.nd v2 a2 (.nd v3 (.nd v4 a4 (.nd v5 (.nd v6 a6 b6) a5)) a3))) a0) 85 = v6 := (rfl)
@[go_sem ↓] theorem st85 : Fr.set (.nd v0 (.nd v1 a1 (.nd v2 a2 (.nd v3 (.nd v4 a4 (.nd v5 (.nd v6 a6 b6) a5)) a3))) a0) 85 x = .nd v0 (.nd v1 a1 (.nd v2 a2 (.nd v3 (.nd v4 a4 (.nd v5 (.nd x a6 b6) a5)) a3))) a0 := (rfl)
@[go_sem ↓] theorem gt86 : Fr.get (.nd v0 a0 (.nd v1 a1 (.nd v2 a2 (.nd v3 (.nd v4 a4 (.nd v5 (.nd v6 a6 b6) a5)) a3)))) 86 = v6 := (rfl)
@[go_sem ↓] theorem st86 : Fr.set (.nd v0 a0 (.nd v1 a1 (.nd v2 a2 (.nd v3 (.nd v4 a4 (.nd v5 (.nd v6 a6 b6) a5)) a3)))) 86 x = .nd v0 a0 (.nd v1 a1 (.nd v2 a2 (.nd v3 (.nd v4 a4 (.nd v5 (.nd x a6 b6) a5)) a3))) := (rfl)
@[go_sem ↓] theorem gt87 : Fr.get (.nd v0 (.nd v1 (.nd v2 (.nd v3 a3 (.nd v4 a4 (.nd v5 (.nd v6 a6 b6) a5))) a2) a1) a0) 87 = v6 := (rfl)
@[go_sem ↓] theorem st87 : Fr.set (.nd v0 (.nd v1 (.nd v2 (.nd v3 a3 (.nd v4 a4 (.nd v5 (.nd v6 a6 b6) a5))) a2) a1) a0) 87 x = .nd v0 (.nd v1 (.nd v2 (.nd v3 a3 (.nd v4 a4 (.nd v5 (.nd x a6 b6) a5))) a2) a1) a0 := (rfl)
@[go_sem ↓] theorem gt88 : Fr.get (.nd v0 a0 (.nd v1 (.nd v2 (.nd v3 a3 (.nd v4 a4 (.nd v5 (.nd v6 a6 b6) a5))) a2) a1)) 88 = v6 := (rfl)
@[go_sem ↓] theorem st88 : Fr.set (.nd v0 a0 (.nd v1 (.nd v2 (.nd v3 a3 (.nd v4 a4 (.nd v5 (.nd v6 a6 b6) a5))) a2) a1)) 88 x = .nd v0 a0 (.nd v1 (.nd v2 (.nd v3 a3 (.nd v4 a4 (.nd v5 (.nd x a6 b6) a5))) a2) a1) := (rfl)
@[go_sem ↓] theorem gt89 : Fr.get (.nd v0 (.nd v1 a1 (.nd v2 (.nd v3 a3 (.nd v4 a4 (.nd v5 (.nd v6 a6 b6) a5))) a2)) a0) 89 = v6 := (rfl)
@[go_sem ↓] theorem st89 : Fr.set (.nd v0 (.nd v1 a1 (.nd v2 (.nd v3 a3 (.nd v4 a4 (.nd v5 (.nd v6 a6 b6) a5))) a2)) a0) 89 x = .nd v0 (.nd v1 a1 (.nd v2 (.nd v3 a3 (.nd v4 a4 (.nd v5 (.nd x a6 b6) a5))) a2)) a0 := (rfl)
@[go_sem ↓] theorem gt90 : Fr.get (.nd v0 a0 (.nd v1 a1 (.nd v2 (.nd v3 a3 (.nd v4 a4 (.nd v5 (.nd v6 a6 b6) a5))) a2))) 90 = v6 := (rfl)
@[go_sem ↓] theorem st90 : Fr.set (.nd v0 a0 (.nd v1 a1 (.nd v2 (.nd v3 a3 (.nd v4 a4 (.nd v5 (.nd v6 a6 b6) a5))) a2))) 90 x = .nd v0 a0 (.nd v1 a1 (.nd v2 (.nd v3 a3 (.nd v4 a4 (.nd v5 (.nd x a6 b6) a5))) a2)) := (rfl)
@[go_sem ↓] theorem gt91 : Fr.get (.nd v0 (.nd v1 (.nd v2 a2 (.nd v3 a3 (.nd v4 a4 (.nd v5 (.nd v6 a6 b6) a5)))) a1) a0) 91 = v6 := (rfl)
@[go_sem ↓] theorem st91 : Fr.set (.nd v0 (.nd v1 (.nd v2 a2 (.nd v3 a3 (.nd v4 a4 (.nd v5 (.nd v6 a6 b6) a5)))) a1) a0) 91 x = .nd v0 (.nd v1 (.nd v2 a2 (.nd v3 a3 (.nd v4 a4 (.nd v5 (.nd x a6 b6) a5)))) a1) a0 := (rfl)
@[go_sem ↓] theorem gt92 : Fr.get (.nd v0 a0 (.nd v1 (.nd v2 a2 (.nd v3 a3 (.nd v4 a4 (.nd v5 (.nd v6 a6 b6) a5)))) a1)) 92 = v6 := (rfl)
@[go_sem ↓] theorem st92 : Fr.set (.nd v0 a0 (.nd v1 (.nd v2 a2 (.nd v3 a3 (.nd v4 a4 (.nd v5 (.nd v6 a6 b6) a5)))) a1)) 92 x = .nd v0 a0 (.nd v1 (.nd v2 a2 (.nd v3 a3 (.nd v4 a4 (.nd v5 (.nd x a6 b6) a5)))) a1) := (rfl)
@[go_sem ↓] theorem gt93 : Fr.get (.nd v0 (.nd v1 a1 (.nd v2 a2 (.nd v3 a3 (.nd v4 a4 (.nd v5 (.nd v6 a6 b6) a5))))) a0) 93 = v6 := (rfl)
@[go_sem ↓] theorem st93 : Fr.set (.nd v0 (.nd v1 a1 (.nd v2 a2 (.nd v3 a3 (.nd v4 a4 (.nd v5 (.nd v6 a6 b6) a5))))) a0) 93 x = .nd v0 (.nd v1 a1 (.nd v2 a2 (.nd v3 a3 (.nd v4 a4 (.nd v5 (.nd x a6 b6) a5))))) a0 := (rfl)
@[go_sem ↓] theorem gt94 : Fr.get (.nd v0 a0 (.nd v1 a1 (.nd v2 a2 (.nd v3 a3 (.nd v4 a4 (.nd v5 (.nd v6 a6 b6) a5)))))) 94 = v6 := (rfl)
@[go_sem ↓] theorem st94 : Fr.set (.nd v0 a0 (.nd v1 a1 (.nd v2 a2 (.nd v3 a3 (.nd v4 a4 (.nd v5 (.nd v6 a6 b6) a5)))))) 94 x = .nd v0 a0 (.nd v1 a1 (.nd v2 a2 (.nd v3 a3 (.nd v4 a4 (.nd v5 (.nd x a6 b6) a5))))) := (rfl)
@[go_sem ↓] theorem gt95 : Fr.get (.nd v0 (.nd v1 (.nd v2 (.nd v3 (.nd v4 (.nd v5 a5 (.nd v6 a6 b6)) a4) a3) a2) a1) a0) 95 = v6 := (rfl)
@[go_sem ↓] theorem st95 : Fr.set (.nd v0 (.nd v1 (.nd v2 (.nd v3 (.nd v4 (.nd v5 a5 (.nd v6 a6 b6)) a4) a3) a2) a1) a0) 95 x = .nd v0 (.nd v1 (.nd v2 (.nd v3 (.nd v4 (.nd v5 a5 (.nd x a6 b6)) a4) a3) a2) a1) a0 := (rfl)
@[go_sem ↓] theorem gt96 : Fr.get (.nd v0 a0 (.nd v1 (.nd v2 (.nd v3 (.nd v4 (.nd v5 a5 (.nd v6 a6 b6)) a4) a3) a2) a1)) 96 = v6 := (rfl)
@[go_sem ↓] theorem st96 : Fr.set (.nd v0 a0 (.nd v1 (.nd v2 (.nd v3 (.nd v4 (.nd v5 a5 (.nd v6 a6 b6)) a4) a3) a2) a1)) 96 x = .nd v0 a0 (.nd v1 (.nd v2 (.nd v3 (.nd v4 (.nd v5 a5 (.nd x a6 b6)) a4) a3) a2) a1) := (rfl)
@[go_sem ↓] theorem gt97 : Fr.get (.nd v0 (.nd v1 a1 (.nd v2 (.nd v3 (.nd v4 (.nd v5 a5 (.nd v6 a6 b6)) a4) a3) a2)) a0) 97 = v6 := (rfl)
@[go_sem ↓] theorem st97 : Fr.set (.nd v0 (.nd v1 a1 (.nd v2 (.nd v3 (.nd v4 (.nd v5 a5 (.nd v6 a6 b6)) a4) a3) a2)) a0) 97 x = .nd v0 (.nd v1 a1 (.nd v2 (.nd v3 (.nd v4 (.nd v5 a5 (.nd x a6 b6)) a4) a3) a2)) a0 := (rfl)
@[go_sem ↓] theorem gt98 : Fr.get (.nd v0 a0 (.nd v1 a1 (.nd v2 (.nd v3 (.nd v4 (.nd v5 a5 (.nd v6 a6 b6)) a4) a3) a2))) 98 = v6 := (rfl)
@[go_sem ↓] theorem st98 : Fr.set (.nd v0 a0 (.nd v1 a1 (.nd v2 (.nd v3 (.nd v4 (.nd v5 a5 (.nd v6 a6 b6)) a4) a3) a2))) 98 x = .nd v0 a0 (.nd v1 a1 (.nd v2 (.nd v3 (.nd v4 (.nd v5 a5 (.nd x a6 b6)) a4) a3) a2)) := (rfl)
@[go_sem ↓] theorem gt99 : Fr.get (.nd v0 (.nd v1 (.nd v2 a2 (.nd v3 (.nd v4 (.nd v5 a5 (.nd v6 a6 b6)) a4) a3)) a1) a0) 99 = v6 := (rfl)
@[go_sem ↓] theorem st99 : Fr.set (.nd v0 (.nd v1 (.nd v2 a2 (.nd v3 (.nd v4 (.nd v5 a5 (.nd v6 a6 b6)) a4) a3)) a1) a0) 99 x = .nd v0 (.nd v1 (.nd v2 a2 (.nd v3 (.nd v4 (.nd v5 a5 (.nd x a6 b6)) a4) a3)) a1) a0 := (rfl)
@[go_sem ↓] theorem gt100 : Fr.get (.nd v0 a0 (.nd v1 (.nd v2 a2 (.nd v3 (.nd v4 (.nd v5 a5 (.nd v6 a6 b6)) a4) a3)) a1)) 100 = v6 := (rfl)
@[go_sem ↓] theorem st100 : Fr.set (.nd v0 a0 (.nd v1 (.nd v2 a2 (.nd v3 (.nd v4 (.nd v5 a5 (.nd v6 a6 b6)) a4) a3)) a1)) 100 x = .nd v0 a0 (.nd v1 (.nd v2 a2 (.nd v3 (.nd v4 (.nd v5 a5 (.nd x a6 b6)) a4) a3)) a1) := (rfl)
@[go_sem ↓] theorem gt101 : Fr.get (.nd v0 (.nd v1 a1 (.nd v2 a2 (.nd v3 (.nd v4 (.nd v5 a5 (.nd v6 a6 b6)) a4) a3))) a0) 101 = v6 := (rfl)
@[go_sem ↓] theorem st101 : Fr.set (.nd v0 (.nd v1 a1 (.nd v2 a2 (.nd v3 (.nd v4 (.nd v5 a5 (.nd v6 a6 b6)) a4) a3))) a0) 101 x = .nd v0 (.nd v1 a1 (.nd v2 a2 (.nd v3 (.nd v4 (.nd v5 a5 (.nd x a6 b6)) a4) a3))) a0 := (rfl)
@[go_sem ↓] theorem gt102 : Fr.get (.nd v0 a0 (.nd v1 a1 (.nd v2 a2 (.nd v3 (.nd v4 (.nd v5 a5 (.nd v6 a6 b6)) a4) a3)))) 102 = v6 := (rfl)
@[go_sem ↓] theorem st102 : Fr.set (.nd v0 a0 (.nd v1 a1 (.nd v2 a2 (.nd v3 (.nd v4 (.nd v5 a5 (.nd v6 a6 b6)) a4) a3)))) 102 x = .nd v0 a0 (.nd v1 a1 (.nd v2 a2 (.nd v3 (.nd v4 (.nd v5 a5 (.nd x a6 b6)) a4) a3))) := (rfl)
@[go_sem ↓] theorem gt103 : Fr.get (.nd v0 (.nd v1 (.nd v2 (.nd v3 a3 (.nd v4 (.nd v5 a5 (.nd v6 a6 b6)) a4)) a2) a1) a0) 103 = v6 := (rfl)
@[go_sem ↓] theorem st103 : Fr.set (.nd v0 (.nd v1 (.nd v2 (.nd v3 a3 (.nd v4 (.nd v5 a5 (.nd v6 a6 b6)) a4)) a2) a1) a0) 103 x = .nd v0 (.nd v1 (.nd v2 (.nd v3 a3 (.nd v4 (.nd v5 a5 (.nd x a6 b6)) a4)) a2) a1) a0 := (rfl)
@[go_sem ↓] theorem gt104 : Fr.get (.nd v0 a0 (.nd v1 (.nd v2 (.nd v3 a3 (.nd v4 (.nd v5 a5 (.nd v6 a6 b6)) a4)) a2) a1)) 104 = v6 := (rfl)
@[go_sem ↓] theorem st104 : Fr.set (.nd v0 a0 (.nd v1 (.nd v2 (.nd v3 a3 (.nd v4 (.nd v5 a5 (.nd v6 a6 b6)) a4)) a2) a1)) 104 x = .nd v0 a0 (.nd v1 (.nd v2 (.nd v3 a3 (.nd v4 (.nd v5 a5 (.nd x a6 b6)) a4)) a2) a1) := (rfl)
@[go_sem ↓] theorem gt105 : Fr.get (.nd v0 (.nd v1 a1 (.nd v2 (.nd v3 a3 (.nd v4 (.nd v5 a5 (.nd v6 a6 b6)) a4)) a2)) a0) 105 = v6 := (rfl)
@[go_sem ↓] theorem st105 : Fr.set (.nd v0 (.nd v1 a1 (.nd v2 (.nd v3 a3 (.nd v4 (.nd v5 a5 (.nd v6 a6 b6)) a4)) a2)) a0) 105 x = .nd v0 (.nd v1 a1 (.nd v2 (.nd v3 a3 (.nd v4 (.nd v5 a5 (.nd x a6 b6)) a4)) a2)) a0 := (rfl)
@[go_sem ↓] theorem gt106 : Fr.get (.nd v0 a0 (.nd v1 a1 (.nd v2 (.nd v3 a3 (.nd v4 (.nd v5 a5 (.nd v6 a6 b6)) a4)) a2))) 106 = v6 := (rfl)
@[go_sem ↓] theorem st106 : Fr.set (.nd v0 a0 (.nd v1 a1 (.nd v2 (.nd v3 a3 (.nd v4 (.nd v5 a5 (.nd v6 a6 b6)) a4)) a2))) 106 x = .nd v0 a0 (.nd v1 a1 (.nd v2 (.nd v3 a3 (.nd v4 (.nd v5 a5 (.nd x a6 b6)) a4)) a2)) := (rfl)
@[go_sem ↓] theorem gt107 : Fr.get (.nd v0 (.nd v1 (.nd v2 a2 (.nd v3 a3 (.nd v4 (.nd v5 a5 (.nd v6 a6 b6)) a4))) a1) a0) 107 = v6 := (rfl)
@[go_sem ↓] theorem st107 : Fr.set (.nd v0 (.nd v1 (.nd v2 a2 (.nd v3 a3 (.nd v4 (.nd v5 a5 (.nd v6 a6 b6)) a4))) a1) a0) 107 x = .nd v0 (.nd v1 (.nd v2 a2 (.nd v3 a3 (.nd v4 (.nd v5 a5 (.nd x a6 b6)) a4))) a1) a0 := (rfl)
@[go_sem ↓] theorem gt108 : Fr.get (.nd v0 a0 (.nd v1 (.nd v2 a2 (.nd v3 a3 (.nd v4 (.nd v5 a5 (.nd v6 a6 b6)) a4))) a1)) 108 = v6 := (rfl)
@[go_sem ↓] theorem st108 : Fr.set (.nd v0 a0 (.nd v1 (.nd v2 a2 (.nd v3 a3 (.nd v4 (.nd v5 a5 (.nd v6 a6 b6)) a4))) a1)) 108 x = .nd v0 a0 (.nd v1 (.nd v2 a2 (.nd v3 a3 (.nd v4 (.nd v5 a5 (.nd x a6 b6)) a4))) a1) := (rfl)
@[go_sem ↓] theorem gt109 : Fr.get (.nd v0 (.nd v1 a1 (.nd v2 a2 (.nd v3 a3 (.nd v4 (.nd v5 a5 (.nd v6 a6 b6)) a4)))) a0) 109 = v6 := (rfl)
@[go_sem ↓] theorem st109 : Fr.set (.nd v0 (.nd v1 a1 (.nd v2 a2 (.nd v3 a3 (.nd v4 (.nd v5 a5 (.nd v6 a6 b6)) a4)))) a0) 109 x = .nd v0 (.nd v1 a1 (.nd v2 a2 (.nd v3 a3 (.nd v4 (.nd v5 a5 (.nd x a6 b6)) a4)))) a0 := (rfl)
@[go_sem ↓] theorem gt110 : Fr.get (.nd v0 a0 (.nd v1 a1 (.nd v2 a2 (.nd v3 a3 (.nd v4 (.nd v5 a5 (.nd v6 a6 b6)) a4))))) 110 = v6 := (rfl)
@[go_sem ↓] theorem st110 : Fr.set (.nd v0 a0 (.nd v1 a1 (.nd v2 a2 (.nd v3 a3 (.nd v4 (.nd v5 a5 (.nd v6 a6 b6)) a4))))) 110 x = .nd v0 a0 (.nd v1 a1 (.nd v2 a2 (.nd v3 a3 (.nd v4 (.nd v5 a5 (.nd x a6 b6)) a4)))) := (rfl)
@[go_sem ↓] theorem gt111 : Fr.get (.nd v0 (.nd v1 (.nd v2 (.nd v3 (.nd v4 a4 (.nd v5 a5 (.nd v6 a6 b6))) a3) a2) a1) a0) 111 = v6 := (rfl)
@[go_sem ↓] theorem st111 : Fr.set (.nd v0 (.nd v1 (.nd v2 (.nd v3 (.nd v4 a4 (.nd v5 a5 (.nd v6 a6 b6))) a3) a2) a1) a0) 111 x = .nd v0 (.nd v1 (.nd v2 (.nd v3 (.nd v4 a4 (.nd v5 a5 (.nd x a6 b6))) a3) a2) a1) a0 := (rfl)
@[go_sem ↓] theorem gt112 : Fr.get (.nd v0 a0 (.nd v1 (.nd v2 (.nd v3 (.nd v4 a4 (.nd v5 a5 (.nd v6 a6 b6))) a3) a2) a1)) 112 = v6 := (rfl)
@[go_sem ↓] theorem st112 : Fr.set (.nd v0 a0 (.nd v1 (.nd v2 (.nd v3 (.nd v4 a4 (.nd v5 a5 (.nd v6 a6 b6))) a3) a2) a1)) 112 x = .nd v0 a0 (.nd v1 (.nd v2 (.nd v3 (.nd v4 a4 (.nd v5 a5 (.nd x a6 b6))) a3) a2) a1) := (rfl)
@[go_sem ↓] theorem gt113 : Fr.get (.nd v0 (.nd v1 a1 (.nd v2 (.nd v3 (.nd v4 a4 (.nd v5 a5 (.nd v6 a6 b6))) a3) a2)) a0) 113 = v6 := (rfl)
@[go_sem ↓] theorem st113 : Fr.set (.nd v0 (.nd v1 a1 (.nd v2 (.nd v3 (.nd v4 a4 (.nd v5 a5 (.nd v6 a6 b6))) a3) a2)) a0) 113 x = .nd v0 (.nd v1 a1 (.nd v2 (.nd v3 (.nd v4 a4 (.nd v5 a5 (.nd x a6 b6))) a3) a2)) a0 := (rfl)
@[go_sem ↓] theorem gt114 : Fr.get (.nd v0 a0 (.nd v1 a1 (.nd v2 (.nd v3 (.nd v4 a4 (.nd v5 a5 (.nd v6 a6 b6))) a3) a2))) 114 = v6 := (rfl)
@[go_sem ↓] theorem st114 : Fr.set (.nd v0 a0 (.nd v1 a1 (.nd v2 (.nd v3 (.nd v4 a4 (.nd v5 a5 (.nd v6 a6 b6))) a3) a2))) 114 x = .nd v0 a0 (.nd v1 a1 (.nd v2 (.nd v3 (.nd v4 a4 (.nd v5 a5 (.nd x a6 b6))) a3) a2)) := (rfl)
@[go_sem ↓] theorem gt115 : Fr.get (.nd v0 (.nd v1 (.nd v2 a2 (.nd v3 (.nd v4 a4 (.nd v5 a5 (.nd v6 a6 b6))) a3)) a1) a0) 115 = v6 := (rfl)
@[go_sem ↓] theorem st115 : Fr.set (.nd v0 (.nd v1 (.nd v2 a2 (.nd v3 (.nd v4 a4 (.nd v5 a5 (.nd v6 a6 b6))) a3)) a1) a0) 115 x = .nd v0 (.nd v1 (.nd v2 a2 (.nd v3 (.nd v4 a4 (.nd v5 a5 (.nd x a6 b6))) a3)) a1) a0 := (rfl)
@[go_sem ↓] theorem gt116 : Fr.get (.nd v0 a0 (.nd v1 (.nd v2 a2 (.nd v3 (.nd v4 a4 (.nd v5 a5 (.nd v6 a6 b6))) a3)) a1)) 116 = v6 := (rfl)
@[go_sem ↓] theorem st116 : Fr.set (.nd v0 a0 (.nd v1 (.nd v2 a2 (.nd v3 (.nd v4 a4 (.nd v5 a5 (.nd v6 a6 b6))) a3)) a1)) 116 x = .nd v0 a0 (.nd v1 (.nd v2 a2 (.nd v3 (.nd v4 a4 (.nd v5 a5 (.nd x a6 b6))) a3)) a1) := (rfl)
@[go_sem ↓] theorem gt117 : Fr.get (.nd v0 (.nd v1 a1 (.nd v2 a2 (.nd v3 (.nd v4 a4 (.nd v5 a5 (.nd v6 a6 b6))) a3))) a0) 117 = v6 := (rfl)
@[go_sem ↓] theorem st117 : Fr.set (.nd v0 (.nd v1 a1 (.nd v2 a2 (.nd v3 (.nd v4 a4 (.nd v5 a5 (.nd v6 a6 b6))) a3))) a0) 117 x = .nd v0 (.nd v1 a1 (.nd v2 a2 (.nd v3 (.nd v4 a4 (.nd v5 a5 (.nd x a6 b6))) a3))) a0 := (rfl)
@[go_sem ↓] theorem gt118 : Fr.get (.nd v0 a0 (.nd v1 a1 (.nd v2 a2 (.nd v3 (.nd v4 a4 (.nd v5 a5 (.nd v6 a6 b6))) a3)))) 118 = v6 := (rfl)
@[go_sem ↓] theorem st118 : Fr.set (.nd v0 a0 (.nd v1 a1 (.nd v2 a2 (.nd v3 (.nd v4 a4 (.nd v5 a5 (.nd v6 a6 b6))) a3)))) 118 x = .nd v0 a0 (.nd v1 a1 (.nd v2 a2 (.nd v3 (.nd v4 a4 (.nd v5 a5 (.nd x a6 b6))) a3))) := (rfl)
@[go_sem ↓] theorem gt119 : Fr.get (.nd v0 (.nd v1 (.nd v2 (.nd v3 a3 (.nd v4 a4 (.nd v5 a5 (.nd v6 a6 b6)))) a2) a1) a0) 119 = v6 := (rfl)
@[go_sem ↓] theorem st119 : Fr.set (.nd v0 (.nd v1 (.nd v2 (.nd v3 a3 (.nd v4 a4 (.nd v5 a5 (.nd v6 a6 b6)))) a2) a1) a0) 119 x = .nd v0 (.nd v1 (.nd v2 (.nd v3 a3 (.nd v4 a4 (.nd v5 a5 (.nd x a6 b6)))) a2) a1) a0 := (rfl)
@[go_sem ↓] theorem gt120 : Fr.get (.nd v0 a0 (.nd v1 (.nd v2 (.nd v3 a3 (.nd v4 a4 (.nd v5 a5 (.nd v6 a6 b6)))) a2) a1)) 120 = v6 := (rfl)
@[go_sem ↓] theorem st120 : Fr.set (.nd v0 a0 (.nd v1 (.nd v2 (.nd v3 a3 (.nd v4 a4 (.nd v5 a5 (.nd v6 a6 b6)))) a2) a1)) 120 x = .nd v0 a0 (.nd v1 (.nd v2 (.nd v3 a3 (.nd v4 a4 (.nd v5 a5 (.nd x a6 b6)))) a2) a1) := (rfl)
@[go_sem ↓] theorem gt121 : Fr.get (.nd v0 (.nd v1 a1 (.nd v2 (.nd v3 a3 (.nd v4 a4 (.nd v5 a5 (.nd v6 a6 b6)))) a2)) a0) 121 = v6 := (rfl)
@[go_sem ↓] theorem st121 : Fr.set (.nd v0 (.nd v1 a1 (.nd v2 (.nd v3 a3 (.nd v4 a4 (.nd v5 a5 (.nd v6 a6 b6)))) a2)) a0) 121 x = .nd v0 (.nd v1 a1 (.nd v2 (.nd v3 a3 (.nd v4 a4 (.nd v5 a5 (.nd x a6 b6)))) a2)) a0 := (rfl)
@[go_sem ↓] theorem gt122 : Fr.get (.nd v0 a0 (.nd v1 a1 (.nd v2 (.nd v3 a3 (.nd v4 a4 (.nd v5 a5 (.nd v6 a6 b6)))) a2))) 122 = v6 := (rfl)
@[go_sem ↓] theorem st122 : Fr.set (.nd v0 a0 (.nd v1 a1 (.nd v2 (.nd v3 a3 (.nd v4 a4 (.nd v5 a5 (.nd v6 a6 b6)))) a2))) 122 x = .nd v0 a0 (.nd v1 a1 (.nd v2 (.nd v3 a3 (.nd v4 a4 (.nd v5 a5 (.nd x a6 b6)))) a2)) := (rfl)
@[go_sem ↓] theorem gt123 : Fr.get (.nd v0 (.nd v1 (.nd v2 a2 (.nd v3 a3 (.nd v4 a4 (.nd v5 a5 (.nd v6 a6 b6))))) a1) a0) 123 = v6 := (rfl)
@[go_sem ↓] theorem st123 : Fr.set (.nd v0 (.nd v1 (.nd v2 a2 (.nd v3 a3 (.nd v4 a4 (.nd v5 a5 (.nd v6 a6 b6))))) a1) a0) 123 x = .nd v0 (.nd v1 (.nd v2 a2 (.nd v3 a3 (.nd v4 a4 (.nd v5 a5 (.nd x a6 b6))))) a1) a0 := (rfl)
@[go_sem ↓] theorem gt124 : Fr.get (.nd v0 a0 (.nd v1 (.nd v2 a2 (.nd v3 a3 (.nd v4 a4 (.nd v5 a5 (.nd v6 a6 b6))))) a1)) 124 = v6 := (rfl)
@[go_sem ↓] theorem st124 : Fr.set (.nd v0 a0 (.nd v1 (.nd v2 a2 (.nd v3 a3 (.nd v4 a4 (.nd v5 a5 (.nd v6 a6 b6))))) a1)) 124 x = .nd v0 a0 (.nd v1 (.nd v2 a2 (.nd v3 a3 (.nd v4 a4 (.nd v5 a5 (.nd x a6 b6))))) a1) := (rfl)
@[go_sem ↓] theorem gt125 : Fr.get (.nd v0 (.nd v1 a1 (.nd v2 a2 (.nd v3 a3 (.nd v4 a4 (.nd v5 a5 (.nd v6 a6 b6)))))) a0) 125 = v6 := (rfl)
@[go_sem ↓] theorem st125 : Fr.set (.nd v0 (.nd v1 a1 (.nd v2 a2 (.nd v3 a3 (.nd v4 a4 (.nd v5 a5 (.nd v6 a6 b6)))))) a0) 125 x = .nd v0 (.nd v1 a1 (.nd v2 a2 (.nd v3 a3 (.nd v4 a4 (.nd v5 a5 (.nd x a6 b6)))))) a0 := (rfl)
@[go_sem ↓] theorem gt126 : Fr.get (.nd v0 a0 (.nd v1 a1 (.nd v2 a2 (.nd v3 a3 (.nd v4 a4 (.nd v5 a5 (.nd v6 a6 b6))))))) 126 = v6 := (rfl)
@[go_sem ↓] theorem st126 : Fr.set (.nd v0 a0 (.nd v1 a1 (.nd v2 a2 (.nd v3 a3 (.nd v4 a4 (.nd v5 a5 (.nd v6 a6 b6))))))) 126 x = .nd v0 a0 (.nd v1 a1 (.nd v2 a2 (.nd v3 a3 (.nd v4 a4 (.nd v5 a5 (.nd x a6 b6)))))) := (rfl)
@[go_sem ↓] theorem gt127 : Fr.get (.nd v0 (.nd v1 (.nd v2 (.nd v3 (.nd v4 (.nd v5 (.nd v6 (.nd v7 a7 b7) a6) a5) a4) a3) a2) a1) a0) 127 = v7 := (rfl)
@[go_sem ↓] theorem st127 : Fr.set (.nd v0 (.nd v1 (.nd v2 (.nd v3 (.nd v4 (.nd v5 (.nd v6 (.nd v7 a7 b7) a6) a5) a4) a3) a2) a1) a0) 127 x = .nd v0 (.nd v1 (.nd v2 (.nd v3 (.nd v4 (.nd v5 (.nd v6 (.nd x a7 b7) a6) a5) a4) a3) a2) a1) a0 := (rfl)
@[go_sem ↓] theorem gt128 : Fr.get (.nd v0 a0 (.nd v1 (.nd v2 (.nd v3 (.nd v4 (.nd v5 (.nd v6 (.nd v7 a7 b7) a6) a5) a4) a3) a2) a1)) 128 = v7 := (rfl)
@[go_sem ↓] theorem st128 : Fr.set (.nd v0 a0 (.nd v1 (.nd v2 (.nd v3 (.nd v4 (.nd v5 (.nd v6 (.nd v7 a7 b7) a6) a5) a4) a3) a2) a1)) 128 x = .nd v0 a0 (.nd v1 (.nd v2 (.nd v3 (.nd v4 (.nd v5 (.nd v6 (.nd x a7 b7) a6) a5) a4) a3) a2) a1) := (rfl)
@[go_sem ↓] theorem gt129 : Fr.get (.nd v0 (.nd v1 a1 (.nd v2 (.nd v3 (.nd v4 (.nd v5 (.nd v6 (.nd v7 a7 b7) a6) a5) a4) a3) a2)) a0) 129 = v7 := (rfl)
@[go_sem ↓] theorem st129 : Fr.set (.nd v0 (.nd v1 a1 (.nd v2 (.nd v3 (.nd v4 (.nd v5 (.nd v6 (.nd v7 a7 b7) a6) a5) a4) a3) a2)) a0) 129 x = .nd v0 (.nd v1 a1 (.nd v2 (.nd v3 (.nd v4 (.nd v5 (.nd v6 (.nd x a7 b7) a6) a5) a4) a3) a2)) a0 := (rfl)
@[go_sem ↓] theorem gt130 : Fr.get (.nd v0 a0 (.nd v1 a1 (.nd v2 (.nd v3 (.nd v4 (.nd v5 (.nd v6 (.nd v7 a7 b7) a6) a5) a4) a3) a2))) 130 = v7 := (rfl)
@[go_sem ↓] theorem st130 : Fr.set (.nd v0 a0 (.nd v1 a1 (.nd v2 (.nd v3 (.nd v4 (.nd v5 (.nd v6 (.nd v7 a7 b7) a6) a5) a4) a3) a2))) 130 x = .nd v0 a0 (.nd v1 a1 (.nd v2 (.nd v3 (.nd v4 (.nd v5 (.nd v6 (.nd x a7 b7) a6) a5) a4) a3) a2)) := (rfl)
@[go_sem ↓] theorem gt131 : Fr.get (.nd v0 (.nd v1 (.nd v2 a2 (.nd v3 (.nd v4 (.nd v5 (.nd v6 (.nd v7 a7 b7) a6) a5) a4) a3)) a1) a0) 131 = v7 := (rfl)
@[go_sem ↓] theorem st131 : Fr.set (.nd v0 (.nd v1 (.nd v2 a2 (.nd v3 (.nd v4 (.nd v5 (.nd v6 (.nd v7 a7 b7) a6) a5) a4) a3)) a1) a0) 131 x = .nd v0 (.nd v1 (.nd v2 a2 (.nd v3 (.nd v4 (.nd v5 (.nd v6 (.nd x a7 b7) a6) a5) a4) a3)) a1) a0 := (rfl)
@[go_sem ↓] theorem gt132 : Fr.get (.nd v0 a0 (.nd v1 (.nd v2 a2 (.nd v3 (.nd v4 (.nd v5 (.nd v6 (.nd v7 a7 b7) a6) a5) a4) a3)) a1)) 132 = v7 := (rfl)
@[go_sem ↓] theorem st132 : Fr.set (.nd v0 a0 (.nd v1 (.nd v2 a2 (.nd v3 (.nd v4 (.nd v5 (.nd v6 (.nd v7 a7 b7) a6) a5) a4) a3)) a1)) 132 x = .nd v0 a0 (.nd v1 (.nd v2 a2 (.nd v3 (.nd v4 (.nd v5 (.nd v6 (.nd x a7 b7) a6) a5) a4) a3)) a1) := (rfl)
@[go_sem ↓] theorem gt133 : Fr.get (.nd v0 (.nd v1 a1 (.nd v2 a2 (.nd v3 (.nd v4 (.nd v5 (.nd v6 (.nd v7 a7 b7) a6) a5) a4) a3))) a0) 133 = v7 := (rfl)
@[go_sem ↓] theorem st133 : Fr.set (.nd v0 (.nd v1 a1 (.nd v2 a2 (.nd v3 (.nd v4 (.nd v5 (.nd v6 (.nd v7 a7 b7) a6) a5) a4) a3))) a0) 133 x = .nd v0 (.nd v1 a1 (.nd v2 a2 (.nd v3 (.nd v4 (.nd v5 (.nd v6 (.nd x a7 b7) a6) a5) a4) a3))) a0 := (rfl)
@[go_sem ↓] theorem gt134 : Fr.get (.nd v0 a0 (.nd v1 a1 (.nd v2 a2 (.nd v3 (.nd v4 (.nd v5 (.nd v6 (.nd v7 a7 b7) a6) a5) a4) a3)))) 134 = v7 := (rfl)
@[go_sem ↓] theorem st134 : Fr.set (.nd v0 a0 (.nd v1 a1 (.nd v2 a2 (.nd v3 (.nd v4 (.nd v5 (.nd v6 (.nd v7 a7 b7) a6) a5) a4) a3)))) 134 x = .nd v0 a0 (.nd v1 a1 (.nd v2 a2 (.nd v3 (.nd v4 (.nd v5 (.nd v6 (.nd x a7 b7) a6) a5) a4) a3))) := (rfl)
@[go_sem ↓] theorem gt135 : Fr.get (.nd v0 (.nd v1 (.nd v2 (.nd v3 a3 (.nd v4 (.nd v5 (.nd v6 (.nd v7 a7 b7) a6) a5) a4)) a2) a1) a0) 135 = v7 := (rfl)
@[go_sem ↓] theorem st135 : Fr.set (.nd v0 (.nd v1 (.nd v2 (.nd v3 a3 (.nd v4 (.nd v5 (.nd v6 (.nd v7 a7 b7) a6) a5) a4)) a2) a1) a0) 135 x = .nd v0 (.nd v1 (.nd v2 (.nd v3 a3 (.nd v4 (.nd v5 (.nd v6 (.nd x a7 b7) a6) a5) a4)) a2) a1) a0 := (rfl)
@[go_sem ↓] theorem gt136 : Fr.get (.nd v0 a0 (.nd v1 (.nd v2 (.nd v3 a3 (.nd v4 (.nd v5 (.nd v6 (.nd v7 a7 b7) a6) a5) a4)) a2) a1)) 136 = v7 := (rfl)
@[go_sem ↓] theorem st136 : Fr.set (.nd v0 a0 (.nd v1 (.nd v2 (.nd v3 a3 (.nd v4 (.nd v5 (.nd v6 (.nd v7 a7 b7) a6) a5) a4)) a2) a1)) 136 x = .nd v0 a0 (.nd v1 (.nd v2 (.nd v3 a3 (.nd v4 (.nd v5 (.nd v6 (.nd x a7 b7) a6) a5) a4)) a2) a1) := (rfl)
@[go_sem ↓] theorem gt137 : Fr.get (.nd v0 (.nd v1 a1 (.nd v2 (.nd v3 a3 (.nd v4 (.nd v5 (.nd v6 (.nd v7 a7 b7) a6) a5) a4)) a2)) a0) 137 = v7 := (rfl)
@[go_sem ↓] theorem st137 : Fr.set (.nd v0 (.nd v1 a1 (.nd v2 (.nd v3 a3 (.nd v4 (.nd v5 (.nd v6 (.nd v7 a7 b7) a6) a5) a4)) a2)) a0) 137 x = .nd v0 (.nd v1 a1 (.nd v2 (.nd v3 a3 (.nd v4 (.nd v5 (.nd v6 (.nd x a7 b7) a6) a5) a4)) a2)) a0 := (rfl)
@[go_sem ↓] theorem gt138 : Fr.get (.nd v0 a0 (.nd v1 a1 (.nd v2 (.nd v3 a3 (.nd v4 (.nd v5 (.nd v6 (.nd v7 a7 b7) a6) a5) a4)) a2))) 138 = v7 := (rfl)
@[go_sem ↓] theorem st138 : Fr.set (.nd v0 a0 (.nd v1 a1 (.nd v2 (.nd v3 a3 (.nd v4 (.nd v5 (.nd v6 (.nd v7 a7 b7) a6) a5) a4)) a2))) 138 x = .nd v0 a0 (.nd v1 a1 (.nd v2 (.nd v3 a3 (.nd v4 (.nd v5 (.nd v6 (.nd x a7 b7) a6) a5) a4)) a2)) := (rfl)
@[go_sem ↓] theorem gt139 : Fr.get (.nd v0 (.nd v1 (.nd v2 a2 (.nd v3 a3 (.nd v4 (.nd v5 (.nd v6 (.nd v7 a7 b7) a6) a5) a4))) a1) a0) 139 = v7 := (rfl)
@[go_sem ↓] theorem st139 : Fr.set (.nd v0 (.nd v1 (.nd v2 a2 (.nd v3 a3 (.nd v4 (.nd v5 (.nd v6 (.nd v7 a7 b7) a6) a5) a4))) a1) a0) 139 x = .nd v0 (.nd v1 (.nd v2 a2 (.nd v3 a3 (.nd v4 (.nd v5 (.nd v6 (.nd x a7 b7) a6) a5) a4))) a1) a0 := (rfl)
@[go_sem ↓] theorem gt140 : Fr.get (.nd v0 a0 (.nd v1 (.nd v2 a2 (.nd v3 a3 (.nd v4 (.nd v5 (.nd v6 (.nd v7 a7 b7) a6) a5) a4))) a1)) 140 = v7 := (rfl)
@[go_sem ↓] theorem st140 : Fr.set (.nd v0 a0 (.nd v1 (.nd v2 a2 (.nd v3 a3 (.nd v4 (.nd v5 (.nd v6 (.nd v7 a7 b7) a6) a5) a4))) a1)) 140 x = .nd v0 a0 (.nd v1 (.nd v2 a2 (.nd v3 a3 (.nd v4 (.nd v5 (.nd v6 (.nd x a7 b7) a6) a5) a4))) a1) := (rfl)
@[go_sem ↓] theorem gt141 : Fr.get (.nd v0 (.nd v1 a1 (.nd v2 a2 (.nd v3 a3 (.nd v4 (.nd v5 (.nd v6 (.nd v7 a7 b7) a6) a5) a4)))) a0) 141 = v7 := (rfl)
@[go_sem ↓] theorem st141 : Fr.set (.nd v0 (.nd v1 a1 (.nd v2 a2 (.nd v3 a3 (.nd v4 (.nd v5 (.nd v6 (.nd v7 a7 b7) a6) a5) a4)))) a0) 141 x = .nd v0 (.nd v1 a1 (.nd v2 a2 (.nd v3 a3 (.nd v4 (.nd v5 (.nd v6 (.nd x a7 b7) a6) a5) a4)))) a0 := (rfl)
@[go_sem ↓] theorem gt142 : Fr.get (.nd v0 a0 (.nd v1 a1 (.nd v2 a2 (.nd v3 a3 (.nd v4 (.nd v5 (.nd v6 (.nd v7 a7 b7) a6) a5) a4))))) 142 = v7 := (rfl)
@[go_sem ↓] theorem st142 : Fr.set (.nd v0 a0 (.nd v1 a1 (.nd v2 a2 (.nd v3 a3 (.nd v4 (.nd v5 (.nd v6 (.nd v7 a7 b7) a6) a5) a4))))) 142 x = .nd v0 a0 (.nd v1 a1 (.nd v2 a2 (.nd v3 a3 (.nd v4 (.nd v5 (.nd v6 (.nd x a7 b7) a6) a5) a4)))) := (rfl)
@[go_sem ↓] theorem gt143 : Fr.get (.nd v0 (.nd v1 (.nd v2 (.nd v3 (.nd v4 a4 (.nd v5 (.nd v6 (.nd v7 a7 b7) a6) a5)) a3) a2) a1) a0) 143 = v7 := (rfl)
@[go_sem ↓] theorem st143 : Fr.set (.nd v0 (.nd v1 (.nd v2 (.nd v3 (.nd v4 a4 (.nd v5 (.nd v6 (.nd v7 a7 b7) a6) a5)) a3) a2) a1) a0) 143 x = .nd v0 (.nd v1 (.nd v2 (.nd v3 (.nd v4 a4 (.nd v5 (.nd v6 (.nd x a7 b7) a6) a5)) a3) a2) a1) a0 := (rfl)
@[go_sem ↓] theorem gt144 : Fr.get (.nd v0 a0 (.nd v1 (.nd v2 (.nd v3 (.nd v4 a4 (.nd v5 (.nd v6 (.nd v7 a7 b7) a6) a5)) a3) a2) a1)) 144 = v7 := (rfl)
@[go_sem ↓] theorem st144 : Fr.set (.nd v0 a0 (.nd v1 (.nd v2 (.nd v3 (.nd v4 a4 (.nd v5 (.nd v6 (.nd v7 a7 b7) a6) a5)) a3) a2) a1)) 144 x = .nd v0 a0 (.nd v1 (.nd v2 (.nd v3 (.nd v4 a4 (.nd v5 (.nd v6 (.nd x a7 b7) a6) a5)) a3) a2) a1) := (rfl)
@[go_sem ↓] theorem gt145 : Fr.get (.nd v0 (.nd v1 a1 (.nd v2 (.nd v3 (.nd v4 a4 (.nd v5 (.nd v6 (.nd v7 a7 b7) a6) a5)) a3) a2)) a0) 145 = v7 := (rfl)
@[go_sem ↓] theorem st145 : Fr.set (.nd v0 (.nd v1 a1 (.nd v2 (.nd v3 (.nd v4 a4 (.nd v5 (.nd v6 (.nd v7 a7 b7) a6) a5)) a3) a2)) a0) 145 x = .nd v0 (.nd v1 a1 (.nd v2 (.nd v3 (.nd v4 a4 (.nd v5 (.nd v6 (.nd x a7 b7) a6) a5)) a3) a2)) a0 := (rfl)
@[go_sem ↓] theorem gt146 : Fr.get (.nd v0 a0 (.nd v1 a1 (.nd v2 (.nd v3 (.nd v4 a4 (.nd v5 (.nd v6 (.nd v7 a7 b7) a6) a5)) a3) a2))) 146 = v7 := (rfl)
@[go_sem ↓] theorem st146 : Fr.set (.nd v0 a0 (.nd v1 a1 (.nd v2 (.nd v3 (.nd v4 a4 (.nd v5 (.nd v6 (.nd v7 a7 b7) a6) a5)) a3) a2))) 146 x = .nd v0 a0 (.nd v1 a1 (.nd v2 (.nd v3 (.nd v4 a4 (.nd v5 (.nd v6 (.nd x a7 b7) a6) a5)) a3) a2)) := (rfl)
@[go_sem ↓] theorem gt147 : Fr.get (.nd v0 (.nd v1 (.nd v2 a2 (.nd v3 (.nd v4 a4 (.nd v5 (.nd v6 (.nd v7 a7 b7) a6) a5)) a3)) a1) a0) 147 = v7 := (rfl)
@[go_sem ↓] theorem st147 : Fr.set (.nd v0 (.nd v1 (.nd v2 a2 (.nd v3 (.nd v4 a4 (.nd v5 (.nd v6 (.nd v7 a7 b7) a6) a5)) a3)) a1) a0) 147 x = .nd v0 (.nd v1 (.nd v2 a2 (.nd v3 (.nd v4 a4 (.nd v5 (.nd v6 (.nd x a7 b7) a6) a5)) a3)) a1) a0 := (rfl)
@[go_sem ↓] theorem gt148 : Fr.get (.nd v0 a0 (.nd v1 (.nd v2 a2 (.nd v3 (.nd v4 a4 (.nd v5 (.nd v6 (.nd v7 a7 b7) a6) a5)) a3)) a1)) 148 = v7 := (rfl)
@[go_sem ↓] theorem st148 : Fr.set (.nd v0 a0 (.nd v1 (.nd v2 a2 (.nd v3 (.nd v4 a4 (.nd v5 (.nd v6 (.nd v7 a7 b7) a6) a5)) a3)) a1)) 148 x = .nd v0 a0 (.nd v1 (.nd v2 a2 (.nd v3 (.nd v4 a4 (.nd v5 (.nd v6 (.nd x a7 b7) a6) a5)) a3)) a1) := (rfl)
@[go_sem ↓] theorem gt149 : Fr.get (.nd v0 (.nd v1 a1 (.nd v2 a2 (.nd v3 (.nd v4 a4 (.nd v5 (.nd v6 (.nd v7 a7 b7) a6) a5)) a3))) a0) 149 = v7 := (rfl)
@[go_sem ↓] theorem st149 : Fr.set (.nd v0 (.nd v1 a1 (.nd v2 a2 (.nd v3 (.nd v4 a4 (.nd v5 (.nd v6 (.nd v7 a7 b7) a6) a5)) a3))) a0) 149 x = .nd v0 (.nd v1 a1 (.nd v2 a2 (.nd v3 (.nd v4 a4 (.nd v5 (.nd v6 (.nd x a7 b7) a6) a5)) a3))) a0 := (rfl)
@[go_sem ↓] theorem gt150 : Fr.get (.nd v0 a0 (.nd v1 a1 (.nd v2 a2 (.nd v3 (.nd v4 a4 (.nd v5 (.nd v6 (.nd v7 a7 b7) a6) a5)) a3)))) 150 = v7 := (rfl)
@[go_sem ↓] theorem st150 : Fr.set (.nd v0 a0 (.nd v1 a1 (.nd v2 a2 (.nd v3 (.nd v4 a4 (.nd v5 (.nd v6 (.nd v7 a7 b7) a6) a5)) a3)))) 150 x = .nd v0 a0 (.nd v1 a1 (.nd v2 a2 (.nd v3 (.nd v4 a4 (.nd v5 (.nd v6 (.nd x a7 b7) a6) a5)) a3))) := (rfl)
@[go_sem ↓] theorem gt151 : Fr.get (.nd v0 (.nd v1 (.nd v2 (.nd v3 a3 (.nd v4 a4 (.nd v5 (.nd v6 (.nd v7 a7 b7) a6) a5))) a2) a1) a0) 151 = v7 := (rfl)
@[go_sem ↓] theorem st151 : Fr.set (.nd v0 (.nd v1 (.nd v2 (.nd v3 a3 (.nd v4 a4 (.nd v5 (.nd v6 (.nd v7 a7 b7) a6) a5))) a2) a1) a0) 151 x = .nd v0 (.nd v1 (.nd v2 (.nd v3 a3 (.nd v4 a4 (.nd v5 (.nd v6 (.nd x a7 b7) a6) a5))) a2) a1) a0 := (rfl)
@[go_sem ↓] theorem gt152 : Fr.get (.nd v0 a0 (.nd v1 (.nd v2 (.nd v3 a3 (.nd v4 a4 (.nd v5 (.nd v6 (.nd v7 a7 b7) a6) a5))) a2) a1)) 152 = v7 := (rfl)
@[go_sem ↓] theorem st152 : Fr.set (.nd v0 a0 (.nd v1 (.nd v2 (.nd v3 a3 (.nd v4 a4 (.nd v5 (.nd v6 (.nd v7 a7 b7) a6) a5))) a2) a1)) 152 x = .nd v0 a0 (.nd v1 (.nd v2 (.nd v3 a3 (.nd v4 a4 (.nd v5 (.nd v6 (.nd x a7 b7) a6) a5))) a2) a1) := (rfl)
@[go_sem ↓] theorem gt153 : Fr.get (.nd v0 (.nd v1 a1 (.nd v2 (.nd v3 a3 (.nd v4 a4 (.nd v5 (.nd v6 (.nd v7 a7 b7) a6) a5))) a2)) a0) 153 = v7 := (rfl)
@[go_sem ↓] theorem st153 : Fr.set (.nd v0 (.nd v1 a1 (.nd v2 (.nd v3 a3 (.nd v4 a4 (.nd v5 (.nd v6 (.nd v7 a7 b7) a6) a5))) a2)) a0) 153 x = .nd v0 (.nd v1 a1 (.nd v2 (.nd v3 a3 (.nd v4 a4 (.nd v5 (.nd v6 (.nd x a7 b7) a6) a5))) a2)) a0 := (rfl)
@[go_sem ↓] theorem gt154 : Fr.get (.nd v0 a0 (.nd v1 a1 (.nd v2 (.nd v3 a3 (.nd v4 a4 (.nd v5 (.nd v6 (.nd v7 a7 b7) a6) a5))) a2))) 154 = v7 := (rfl)
@[go_sem ↓] theorem st154 : Fr.set (.nd v0 a0 (.nd v1 a1 (.nd v2 (.nd v3 a3 (.nd v4 a4 (.nd v5 (.nd v6 (.nd v7 a7 b7) a6) a5))) a2))) 154 x = .nd v0 a0 (.nd v1 a1 (.nd v2 (.nd v3 a3 (.nd v4 a4 (.nd v5 (.nd v6 (.nd x a7 b7) a6) a5))) a2)) := (rfl)
@[go_sem ↓] theorem gt155 : Fr.get (.nd v0 (.nd v1 (.nd v2 a2 (.nd v3 a3 (.nd v4 a4 (.nd v5 (.nd v6 (.nd v7 a7 b7) a6) a5)))) a1) a0) 155 = v7 := (rfl)
@[go_sem ↓] theorem st155 : Fr.set (.nd v0 (.nd v1 (.nd v2 a2 (.nd v3 a3 (.nd v4 a4 (.nd v5 (.nd v6 (.nd v7 a7 b7) a6) a5)))) a1) a0) 155 x = .nd v0 (.nd v1 (.nd v2 a2 (.nd v3 a3 (.nd v4 a4 (.nd v5 (.nd v6 (.nd x a7 b7) a6) a5)))) a1) a0 := (rfl)
@[go_sem ↓] theorem gt156 : Fr.get (.nd v0 a0 (.nd v1 (.nd v2 a2 (.nd v3 a3 (.nd v4 a4 (.nd v5 (.nd v6 (.nd v7 a7 b7) a6) a5)))) a1)) 156 = v7 := (rfl)
@[go_sem ↓] theorem st156 : Fr.set (.nd v0 a0 (.nd v1 (.nd v2 a2 (.nd v3 a3 (.nd v4 a4 (.nd v5 (.nd v6 (.nd v7 a7 b7) a6) a5)))) a1)) 156 x = .nd v0 a0 (.nd v1 (.nd v2 a2 (.nd v3 a3 (.nd v4 a4 (.nd v5 (.nd v6 (.nd x a7 b7) a6) a5)))) a1) := (rfl)
@[go_sem ↓] theorem gt157 : Fr.get (.nd v0 (.nd v1 a1 (.nd v2 a2 (.nd v3 a3 (.nd v4 a4 (.nd v5 (.nd v6 (.nd v7 a7 b7) a6) a5))))) a0) 157 = v7 := (rfl)
@[go_sem ↓] theorem st157 : Fr.set (.nd v0 (.nd v1 a1 (.nd v2 a2 (.nd v3 a3 (.nd v4 a4 (.nd v5 (.nd v6 (.nd v7 a7 b7) a6) a5))))) a0) 157 x = .nd v0 (.nd v1 a1 (.nd v2 a2 (.nd v3 a3 (.nd v4 a4 (.nd v5 (.nd v6 (.nd x a7 b7) a6) a5))))) a0 := (rfl)
@[go_sem ↓] theorem gt158 : Fr.get (.nd v0 a0 (.nd v1 a1 (.nd v2 a2 (.nd v3 a3 (.nd v4 a4 (.nd v5 (.nd v6 (.nd v7 a7 b7) a6) a5)))))) 158 = v7 := (rfl)
@[go_sem ↓] theorem st158 : Fr.set (.nd v0 a0 (.nd v1 a1 (.nd v2 a2 (.nd v3 a3 (.nd v4 a4 (.nd v5 (.nd v6 (.nd v7 a7 b7) a6) a5)))))) 158 x = .nd v0 a0 (.nd v1 a1 (.nd v2 a2 (.nd v3 a3 (.nd v4 a4 (.nd v5 (.nd v6 (.nd x a7 b7) a6) a5))))) := (rfl)
@[go_sem ↓] theorem gt159 : Fr.get (.nd v0 (.nd v1 (.nd v2 (.nd v3 (.nd v4 (.nd v5 a5 (.nd v6 (.nd v7 a7 b7) a6)) a4) a3) a2) a1) a0) 159 = v7 := (rfl)
@[go_sem ↓] theorem st159 : Fr.set (.nd v0 (.nd v1 (.nd v2 (.nd v3 (.nd v4 (.nd v5 a5 (.nd v6 (.nd v7 a7 b7) a6)) a4) a3) a2) a1) a0) 159 x = .nd v0 (.nd v1 (.nd v2 (.nd v3 (.nd v4 (.nd v5 a5 (.nd v6 (.nd x a7 b7) a6)) a4) a3) a2) a1) a0 := (rfl)
@[go_sem ↓] theorem gt160 : Fr.get (.nd v0 a0 (.nd v1 (.nd v2 (.nd v3 (.nd v4 (.nd v5 a5 (.nd v6 (.nd v7 a7 b7) a6)) a4) a3) a2) a1)) 160 = v7 := (rfl)
@[go_sem ↓] theorem st160 : Fr.set (.nd v0 a0 (.nd v1 (.nd v2 (.nd v3 (.nd v4 (.nd v5 a5 (.nd v6 (.nd v7 a7 b7) a6)) a4) a3) a2) a1)) 160 x = .nd v0 a0 (.nd v1 (.nd v2 (.nd v3 (.nd v4 (.nd v5 a5 (.nd v6 (.nd x a7 b7) a6)) a4) a3) a2) a1) := (rfl)
@[go_sem ↓] theorem gt161 : Fr.get (.nd v0 (.nd v1 a1 (.nd v2 (.nd v3 (.nd v4 (.nd v5 a5 (.nd v6 (.nd v7 a7 b7) a6)) a4) a3) a2)) a0) 161 = v7 := (rfl)
@[go_sem ↓] theorem st161 : Fr.set (.nd v0 (.nd v1 a1 (.nd v2 (.nd v3 (.nd v4 (.nd v5 a5 (.nd v6 (.nd v7 a7 b7) a6)) a4) a3) a2)) a0) 161 x = .nd v0 (.nd v1 a1 (.nd v2 (.nd v3 (.nd v4 (.nd v5 a5 (.nd v6 (.nd x a7 b7) a6)) a4) a3) a2)) a0 := (rfl)
@[go_sem ↓] theorem gt162 : Fr.get (.nd v0 a0 (.nd v1 a1 (.nd v2 (.nd v3 (.nd v4 (.nd v5 a5 (.nd v6 (.nd v7 a7 b7) a6)) a4) a3) a2))) 162 = v7 := (rfl)
@[go_sem ↓] theorem st162 : Fr.set (.nd v0 a0 (.nd v1 a1 (.nd v2 (.nd v3 (.nd v4 (.nd v5 a5 (.nd v6 (.nd v7 a7 b7) a6)) a4) a3) a2))) 162 x = .nd v0 a0 (.nd v1 a1 (.nd v2 (.nd v3 (.nd v4 (.nd v5 a5 (.nd v6 (.nd x a7 b7) a6)) a4) a3) a2)) := (rfl)
@[go_sem ↓] theorem gt163 : Fr.get (.nd v0 (.nd v1 (.nd v2 a2 (.nd v3 (.nd v4 (.nd v5 a5 (.nd v6 (.nd v7 a7 b7) a6)) a4) a3)) a1) a0) 163 = v7 := (rfl)
@[go_sem ↓] theorem st163 : Fr.set (.nd v0 (.nd v1 (.nd v2 a2 (.nd v3 (.nd v4 (.nd v5 a5 (.nd v6 (.nd v7 a7 b7) a6)) a4) a3)) a1) a0) 163 x = .nd v0 (.nd v1 (.nd v2 a2 (.nd v3 (.nd v4 (.nd v5 a5 (.nd v6 (.nd x a7 b7) a6)) a4) a3)) a1) a0 := (rfl)
@[go_sem ↓] theorem gt164 : Fr.get (.nd v0 a0 (.nd v1 (.nd v2 a2 (.nd v3 (.nd v4 (.nd v5 a5 (.nd v6 (.nd v7 a7 b7) a6)) a4) a3)) a1)) 164 = v7 := (rfl)
@[go_sem ↓] theorem st164 : Fr.set (.nd v0 a0 (.nd v1 (.nd v2 a2 (.nd v3 (.nd v4 (.nd v5 a5 (.nd v6 (.nd v7 a7 b7) a6)) a4) a3)) a1)) 164 x = .nd v0 a0 (.nd v1 (.nd v2 a2 (.nd v3 (.nd v4 (.nd v5 a5 (.nd v6 (.nd x a7 b7) a6)) a4) a3)) a1) := (rfl)
@[go_sem ↓] theorem gt165 : Fr.get (.nd v0 (.nd v1 a1 (.nd v2 a2 (.nd v3 (.nd v4 (.nd v5 a5 (.nd v6 (.nd v7 a7 b7) a6)) a4) a3))) a0) 165 = v7 := (rfl)
@[go_sem ↓] theorem st165 : Fr.set (.nd v0 (.nd v1 a1 (.nd v2 a2 (.nd v3 (.nd v4 (.nd v5 a5 (.nd v6 (.nd v7 a7 b7) a6)) a4) a3))) a0) 165 x = .nd v0 (.nd v1 a1 (.nd v2 a2 (.nd v3 (.nd v4 (.nd v5 a5 (.nd v6 (.nd x a7 b7) a6)) a4) a3))) a0 := (rfl)
@[go_sem ↓] theorem gt166 : Fr.get (.nd v0 a0 (.nd v1 a1 (.nd v2 a2 (.nd v3 (.nd v4 (.nd v5 a5 (.nd v6 (.nd v7 a7 b7) a6)) a4) a3)))) 166 = v7 := (rfl)
@[go_sem ↓] theorem st166 : Fr.set (.nd v0 a0 (.nd v1 a1 (.nd v2 a2 (.nd v3 (.nd v4 (.nd v5 a5 (.nd v6 (.nd v7 a7 b7) a6)) a4) a3)))) 166 x = .nd v0 a0 (.nd v1 a1 (.nd v2 a2 (.nd v3 (.nd v4 (.nd v5 a5 (.nd v6 (.nd x a7 b7) a6)) a4) a3))) := (rfl)
@[go_sem ↓] theorem gt167 : Fr.get (.nd v0 (.nd v1 (.nd v2 (.nd v3 a3 (.nd v4 (.nd v5 a5 (.nd v6 (.nd v7 a7 b7) a6)) a4)) a2) a1) a0) 167 = v7 := (rfl)
@[go_sem ↓] theorem st167 : Fr.set (.nd v0 (.nd v1 (.nd v2 (.nd v3 a3 (.nd v4 (.nd v5 a5 (.nd v6 (.nd v7 a7 b7) a6)) a4)) a2) a1) a0) 167 x = .nd v0 (.nd v1 (.nd v2 (.nd v3 a3 (.nd v4 (.nd v5 a5 (.nd v6 (.nd x a7 b7) a6)) a4)) a2) a1) a0 := (rfl)
@[go_sem ↓] theorem gt168 : Fr.get (.nd v0 a0 (.nd v1 (.nd v2 (.nd v3 a3 (.nd v4 (.nd v5 a5 (.nd v6 (.nd v7 a7 b7) a6)) a4)) a2) a1)) 168 = v7 := (rfl)
@[go_sem ↓] theorem st168 : Fr.set (.nd v0 a0 (.nd v1 (.nd v2 (.nd v3 a3 (.nd v4 (.nd v5 a5 (.nd v6 (.nd v7 a7 b7) a6)) a4)) a2) a1)) 168 x = .nd v0 a0 (.nd v1 (.nd v2 (.nd v3 a3 (.nd v4 (.nd v5 a5 (.nd v6 (.nd x a7 b7) a6)) a4)) a2) a1) := (rfl)
@[go_sem ↓] theorem gt169 : Fr.get (.nd v0 (.nd v1 a1 (.nd v2 (.nd v3 a3 (.nd v4 (.nd v5 a5 (.nd v6 (.nd v7 a7 b7) a6)) a4)) a2)) a0) 169 = v7 := (rfl)
@[go_sem ↓] theorem st169 : Fr.set (.nd v0 (.nd v1 a1 (.nd v2 (.nd v3 a3 (.nd v4 (.nd v5 a5 (.nd v6 (.nd v7 a7 b7) a6)) a4)) a2)) a0) 169 x = .nd v0 (.nd v1 a1 (.nd v2 (.nd v3 a3 (.nd v4 (.nd v5 a5 (.nd v6 (.nd x a7 b7) a6)) a4)) a2)) a0 := (rfl)
@[go_sem ↓] theorem gt170 : Fr.get (.nd v0 a0 (.nd v1 a1 (.nd v2 (.nd v3 a3 (.nd v4 (.nd v5 a5 (.nd v6 (.nd v7 a7 b7) a6)) a4)) a2))) 170 = v7 := (rfl)
@[go_sem ↓] theorem st170 : Fr.set (.nd v0 a0 (.nd v1 a1 (.nd v2 (.nd v3 a3 (.nd v4 (.nd v5 a5 (.nd v6 (.nd v7 a7 b7) a6)) a4)) a2))) 170 x = .nd v0 a0 (.nd v1 a1 (.nd v2 (.nd v3 a3 (.nd v4 (.nd v5 a5 (.nd v6 (.nd x a7 b7) a6)) a4)) a2)) := (rfl)
@[go_sem ↓] theorem gt171 : Fr.get (.nd v0 (.nd v1 (.nd v2 a2 (.nd v3 a3 (.nd v4 (.nd v5 a5 (.nd v6 (.nd v7 a7 b7) a6)) a4))) a1) a0) 171 = v7 := (rfl)
@[go_sem ↓] theorem st171 : Fr.set (.nd v0 (.nd v1 (.nd v2 a2 (.nd v3 a3 (.nd v4 (.nd v5 a5 (.nd v6 (.nd v7 a7 b7) a6)) a4))) a1) a0) 171 x = .nd v0 (.nd v1 (.nd v2 a2 (.nd v3 a3 (.nd v4 (.nd v5 a5 (.nd v6 (.nd x a7 b7) a6)) a4))) a1) a0 := (rfl)
@[go_sem ↓] theorem gt172 : Fr.get (.nd v0 a0 (.nd v1 (.nd v2 a2 (.nd v3 a3 (.nd v4 (.nd v5 a5 (.nd v6 (.nd v7 a7 b7) a6)) a4))) a1)) 172 = v7 := (rfl)
@[go_sem ↓] theorem st172 : Fr.set (.nd v0 a0 (.nd v1 (.nd v2 a2 (.nd v3 a3 (.nd v4 (.nd v5 a5 (.nd v6 (.nd v7 a7 b7) a6)) a4))) a1)) 172 x = .nd v0 a0 (.nd v1 (.nd v2 a2 (.nd v3 a3 (.nd v4 (.nd v5 a5 (.nd v6 (.nd x a7 b7) a6)) a4))) a1) := (rfl)
@[go_sem ↓] theorem gt173 : Fr.get (.nd v0 (.nd v1 a1 (.nd v2 a2 (.nd v3 a3 (.nd v4 (.nd v5 a5 (.nd v6 (.nd v7 a7 b7) a6)) a4)))) a0) 173 = v7 := (rfl)
@[go_sem ↓] theorem st173 : Fr.set (.nd v0 (.nd v1 a1 (.nd v2 a2 (.nd v3 a3 (.nd v4 (.nd v5 a5 (.nd v6 (.nd v7 a7 b7) a6)) a4)))) a0) 173 x = .nd v0 (.nd v1 a1 (.nd v2 a2 (.nd v3 a3 (.nd v4 (.nd v5 a5 (.nd v6 (.nd x a7 b7) a6)) a4)))) a0 := (rfl)
@[go_sem ↓] theorem gt174 : Fr.get (.nd v0 a0 (.nd v1 a1 (.nd v2 a2 (.nd v3 a3 (.nd v4 (.nd v5 a5 (.nd v6 (.nd v7 a7 b7) a6)) a4))))) 174 = v7 := (rfl)
@[go_sem ↓] theorem st174 : Fr.set (.nd v0 a0 (.nd v1 a1 (.nd v2 a2 (.nd v3 a3 (.nd v4 (.nd v5 a5 (.nd v6 (.nd v7 a7 b7) a6)) a4))))) 174 x = .nd v0 a0 (.nd v1 a1 (.nd v2 a2 (.nd v3 a3 (.nd v4 (.nd v5 a5 (.nd v6 (.nd x a7 b7) a6)) a4)))) := (rfl)
@[go_sem ↓] theorem gt175 : Fr.get (.nd v0 (.nd v1 (.nd v2 (.nd v3 (.nd v4 a4 (.nd v5 a5 (.nd v6 (.nd v7 a7 b7) a6))) a3) a2) a1) a0) 175 = v7 := (rfl)
@[go_sem ↓] theorem st175 : Fr.set (.nd v0 (.nd v1 (.nd v2 (.nd v3 (.nd v4 a4 (.nd v5 a5 (.nd v6 (.nd v7 a7 b7) a6))) a3) a2) a1) a0) 175 x = .nd v0 (.nd v1 (.nd v2 (.nd v3 (.nd v4 a4 (.nd v5 a5 (.nd v6 (.nd x a7 b7) a6))) a3) a2) a1) a0 := (rfl)
@[go_sem ↓] theorem gt176 : Fr.get (.nd v0 a0 (.nd v1 (.nd v2 (.nd v3 (.nd v4 a4 (.nd v5 a5 (.nd v6 (.nd v7 a7 b7) a6))) a3) a2) a1)) 176 = v7 := (rfl)
@[go_sem ↓] theorem st176 : Fr.set (.nd v0 a0 (.nd v1 (.nd v2 (.nd v3 (.nd v4 a4 (.nd v5 a5 (.nd v6 (.nd v7 a7 b7) a6))) a3) a2) a1)) 176 x = .nd v0 a0 (.nd v1 (.nd v2 (.nd v3 (.nd v4 a4 (.nd v5 a5 (.nd v6 (.nd x a7 b7) a6))) a3) a2) a1) := (rfl)
@[go_sem ↓] theorem gt177 : Fr.get (.nd v0 (.nd v1 a1 (.nd v2 (.nd v3 (.nd v4 a4 (.nd v5 a5 (.nd v6 (.nd v7 a7 b7) a6))) a3) a2)) a0) 177 = v7 := (rfl)
@[go_sem ↓] theorem st177 : Fr.set (.nd v0 (.nd v1 a1 (.nd v2 (.nd v3 (.nd v4 a4 (.nd v5 a5 (.nd v6 (.nd v7 a7 b7) a6))) a3) a2)) a0) 177 x = .nd v0 (.nd v1 a1 (.nd v2 (.nd v3 (.nd v4 a4 (.nd v5 a5 (.nd v6 (.nd x a7 b7) a6))) a3) a2)) a0 := (rfl)
@[go_sem ↓] theorem gt178 : Fr.get (.nd v0 a0 (.nd v1 a1 (.nd v2 (.nd v3 (.nd v4 a4 (.nd v5 a5 (.nd v6 (.nd v7 a7 b7) a6))) a3) a2))) 178 = v7 := (rfl)
@[go_sem ↓] theorem st178 : Fr.set (.nd v0 a0 (.nd v1 a1 (.nd v2 (.nd v3 (.nd v4 a4 (.nd v5 a5 (.nd v6 (.nd v7 a7 b7) a6))) a3) a2))) 178 x = .nd v0 a0 (.nd v1 a1 (.nd v2 (.nd v3 (.nd v4 a4 (.nd v5 a5 (.nd v6 (.nd x a7 b7) a6))) a3) a2)) := (rfl)
@[go_sem ↓] theorem gt179 : Fr.get (.nd v0 (.nd v1 (.nd v2 a2 (.nd v3 (.nd v4 a4 (.nd v5 a5 (.nd v6 (.nd v7 a7 b7) a6))) a3)) a1) a0) 179 = v7 := (rfl)
@[go_sem ↓] theorem st179 : Fr.set (.nd v0 (.nd v1 (.nd v2 a2 (.nd v3 (.nd v4 a4 (.nd v5 a5 (.nd v6 (.nd v7 a7 b7) a6))) a3)) a1) a0) 179 x = .nd v0 (.nd v1 (.nd v2 a2 (.nd v3 (.nd v4 a4 (.nd v5 a5 (.nd v6 (.nd x a7 b7) a6))) a3)) a1) a0 := (rfl)
@[go_sem ↓] theorem gt180 : Fr.get (.nd v0 a0 (.nd v1 (.nd v2 a2 (.nd v3 (.nd v4 a4 (.nd v5 a5 (.nd v6 (.nd v7 a7 b7) a6))) a3)) a1)) 180 = v7 := (rfl)
@[go_sem ↓] theorem st180 : Fr.set (.nd v0 a0 (.nd v1 (.nd v2 a2 (.nd v3 (.nd v4 a4 (.nd v5 a5 (.nd v6 (.nd v7 a7 b7) a6))) a3)) a1)) 180 x = .nd v0 a0 (.nd v1 (.nd v2 a2 (.nd v3 (.nd v4 a4 (.nd v5 a5 (.nd v6 (.nd x a7 b7) a6))) a3)) a1) := (rfl)
@[go_sem ↓] theorem gt181 : Fr.get (.nd v0 (.nd v1 a1 (.nd v2 a2 (.nd v3 (.nd v4 a4 (.nd v5 a5 (.nd v6 (.nd v7 a7 b7) a6))) a3))) a0) 181 = v7 := (rfl)
@[go_sem ↓] theorem st181 : Fr.set (.nd v0 (.nd v1 a1 (.nd v2 a2 (.nd v3 (.nd v4 a4 (.nd v5 a5 (.nd v6 (.nd v7 a7 b7) a6))) a3))) a0) 181 x = .nd v0 (.nd v1 a1 (.nd v2 a2 (.nd v3 (.nd v4 a4 (.nd v5 a5 (.nd v6 (.nd x a7 b7) a6))) a3))) a0 := (rfl)
@[go_sem ↓] theorem gt182 : Fr.get (.nd v0 a0 (.nd v1 a1 (.nd v2 a2 (.nd v3 (.nd v4 a4 (.nd v5 a5 (.nd v6 (.nd v7 a7 b7) a6))) a3)))) 182 = v7 := (rfl)
@[go_sem ↓] theorem st182 : Fr.set (.nd v0 a0 (.nd v1 a1 (.nd v2 a2 (.nd v3 (.nd v4 a4 (.nd v5 a5 (.nd v6 (.nd v7 a7 b7) a6))) a3)))) 182 x = .nd v0 a0 (.nd v1 a1 (.nd v2 a2 (.nd v3 (.nd v4 a4 (.nd v5 a5 (.nd v6 (.nd x a7 b7) a6))) a3))) := (rfl)
@[go_sem ↓] theorem gt183 : Fr.get (.nd v0 (.nd v1 (.nd v2 (.nd v3 a3 (.nd v4 a4 (.nd v5 a5 (.nd v6 (.nd v7 a7 b7) a6)))) a2) a1) a0) 183 = v7 := (rfl)
@[go_sem ↓] theorem st183 : Fr.set (.nd v0 (.nd v1 (.nd v2 (.nd v3 a3 (.nd v4 a4 (.nd v5 a5 (.nd v6 (.nd v7 a7 b7) a6)))) a2) a1) a0) 183 x = .nd v0 (.nd v1 (.nd v2 (.nd v3 a3 (.nd v4 a4 (.nd v5 a5 (.nd v6 (.nd x a7 b7) a6)))) a2) a1) a0 := (rfl)
@[go_sem ↓] theorem gt184 : Fr.get (.nd v0 a0 (.nd v1 (.nd v2 (.nd v3 a3 (.nd v4 a4 (.nd v5 a5 (.nd v6 (.nd v7 a7 b7) a6)))) a2) a1)) 184 = v7 := (rfl)
@[go_sem ↓] theorem st184 : Fr.set (.nd v0 a0 (.nd v1 (.nd v2 (.nd v3 a3 (.nd v4 a4 (.nd v5 a5 (.nd v6 (.nd v7 a7 b7) a6)))) a2) a1)) 184 x = .nd v0 a0 (.nd v1 (.nd v2 (.nd v3 a3 (.nd v4 a4 (.nd v5 a5 (.nd v6 (.nd x a7 b7) a6)))) a2) a1) := (rfl)
@[go_sem ↓] theorem gt185 : Fr.get (.nd v0 (.nd v1 a1 (.nd v2 (.nd v3 a3 (.nd v4 a4 (.nd v5 a5 (.nd v6 (.nd v7 a7 b7) a6)))) a2)) a0) 185 = v7 := (rfl)
@[go_sem ↓] theorem st185 : Fr.set (.nd v0 (.nd v1 a1 (.nd v2 (.nd v3 a3 (.nd v4 a4 (.nd v5 a5 (.nd v6 (.nd v7 a7 b7) a6)))) a2)) a0) 185 x = .nd v0 (.nd v1 a1 (.nd v2 (.nd v3 a3 (.nd v4 a4 (.nd v5 a5 (.nd v6 (.nd x a7 b7) a6)))) a2)) a0 := (rfl)
@[go_sem ↓] theorem gt186 : Fr.get (.nd v0 a0 (.nd v1 a1 (.nd v2 (.nd v3 a3 (.nd v4 a4 (.nd v5 a5 (.nd v6 (.nd v7 a7 b7) a6)))) a2))) 186 = v7 := (rfl)
@[go_sem ↓] theorem st186 : Fr.set (.nd v0 a0 (.nd v1 a1 (.nd v2 (.nd v3 a3 (.nd v4 a4 (.nd v5 a5 (.nd v6 (.nd v7 a7 b7) a6)))) a2))) 186 x = .nd v0 a0 (.nd v1 a1 (.nd v2 (.nd v3 a3 (.nd v4 a4 (.nd v5 a5 (.nd v6 (.nd x a7 b7) a6)))) a2)) := (rfl)
@[go_sem ↓] theorem gt187 : Fr.get (.nd v0 (.nd v1 (.nd v2 a2 (.nd v3 a3 (.nd v4 a4 (.nd v5 a5 (.nd v6 (.nd v7 a7 b7) a6))))) a1) a0) 187 = v7 := (rfl)
@[go_sem ↓] theorem st187 : Fr.set (.nd v0 (.nd v1 (.nd v2 a2 (.nd v3 a3 (.nd v4 a4 (.nd v5 a5 (.nd v6 (.nd v7 a7 b7) a6))))) a1) a0) 187 x = .nd v0 (.nd v1 (.nd v2 a2 (.nd v3 a3 (.nd v4 a4 (.nd v5 a5 (.nd v6 (.nd x a7 b7) a6))))) a1) a0 := (rfl)
@[go_sem ↓] theorem gt188 : Fr.get (.nd v0 a0 (.nd v1 (.nd v2 a2 (.nd v3 a3 (.nd v4 a4 (.nd v5 a5 (.nd v6 (.nd v7 a7 b7) a6))))) a1)) 188 = v7 := (rfl)
@[go_sem ↓] theorem st188 : Fr.set (.nd v0 a0 (.nd v1 (.nd v2 a2 (.nd v3 a3 (.nd v4 a4 (.nd v5 a5 (.nd v6 (.nd v7 a7 b7) a6))))) a1)) 188 x = .nd v0 a0 (.nd v1 (.nd v2 a2 (.nd v3 a3 (.nd v4 a4 (.nd v5 a5 (.nd v6 (.nd x a7 b7) a6))))) a1) := (rfl)
@[go_sem ↓] theorem gt189 : Fr.get (.nd v0 (.nd v1 a1 (.nd v2 a2 (.nd v3 a3 (.nd v4 a4 (.nd v5 a5 (.nd v6 (.nd v7 a7 b7) a6)))))) a0) 189 = v7 := (rfl)
@[go_sem ↓] theorem st189 : Fr.set (.nd v0 (.nd v1 a1 (.nd v2 a2 (.nd v3 a3 (.nd v4 a4 (.nd v5 a5 (.nd v6 (.nd v7 a7 b7) a6)))))) a0) 189 x = .nd v0 (.nd v1 a1 (.nd v2 a2 (.nd v3 a3 (.nd v4 a4 (.nd v5 a5 (.nd v6 (.nd x a7 b7) a6)))))) a0 := (rfl)
@[go_sem ↓] theorem gt190 : Fr.get (.nd v0 a0 (.nd v1 a1 (.nd v2 a2 (.nd v3 a3 (.nd v4 a4 (.nd v5 a5 (.nd v6 (.nd v7 a7 b7) a6))))))) 190 = v7 := (rfl)
@[go_sem ↓] theorem st190 : Fr.set (.nd v0 a0 (.nd v1 a1 (.nd v2 a2 (.nd v3 a3 (.nd v4 a4 (.nd v5 a5 (.nd v6 (.nd v7 a7 b7) a6))))))) 190 x = .nd v0 a0 (.nd v1 a1 (.nd v2 a2 (.nd v3 a3 (.nd v4 a4 (.nd v5 a5 (.nd v6 (.nd x a7 b7) a6)))))) := (rfl)
@[go_sem ↓] theorem gt191 : Fr.get (.nd v0 (.nd v1 (.nd v2 (.nd v3 (.nd v4 (.nd v5 (.nd v6 a6 (.nd v7 a7 b7)) a5) a4) a3) a2) a1) a0) 191 = v7 := (rfl)
@[go_sem ↓] theorem st191 : Fr.set (.nd v0 (.nd v1 (.nd v2 (.nd v3 (.nd v4 (.nd v5 (.nd v6 a6 (.nd v7 a7 b7)) a5) a4) a3) a2) a1) a0) 191 x = .nd v0 (.nd v1 (.nd v2 (.nd v3 (.nd v4 (.nd v5 (.nd v6 a6 (.nd x a7 b7)) a5) a4) a3) a2) a1) a0 := (rfl)
@[go_sem ↓] theorem gt192 : Fr.get (.nd v0 a0 (.nd v1 (.nd v2 (.nd v3 (.nd v4 (.nd v5 (.nd v6 a6 (.nd v7 a7 b7)) a5) a4) a3) a2) a1)) 192 = v7 := (rfl)
@[go_sem ↓] theorem st192 : Fr.set (.nd v0 a0 (.nd v1 (.nd v2 (.nd v3 (.nd v4 (.nd v5 (.nd v6 a6 (.nd v7 a7 b7)) a5) a4) a3) a2) a1)) 192 x = .nd v0 a0 (.nd v1 (.nd v2 (.nd v3 (.nd v4 (.nd v5 (.nd v6 a6 (.nd x a7 b7)) a5) a4) a3) a2) a1) := (rfl)
@[go_sem ↓] theorem gt193 : Fr.get (.nd v0 (.nd v1 a1 (.nd v2 (.nd v3 (.nd v4 (.nd v5 (.nd v6 a6 (.nd v7 a7 b7)) a5) a4) a3) a2)) a0) 193 = v7 := (rfl)
@[go_sem ↓] theorem st193 : Fr.set (.nd v0 (.nd v1 a1 (.nd v2 (.nd v3 (.nd v4 (.nd v5 (.nd v6 a6 (.nd v7 a7 b7)) a5) a4) a3) a2)) a0) 193 x = .nd v0 (.nd v1 a1 (.nd v2 (.nd v3 (.nd v4 (.nd v5 (.nd v6 a6 (.nd x a7 b7)) a5) a4) a3) a2)) a0 := (rfl)
@[go_sem ↓] theorem gt194 : Fr.get (.nd v0 a0 (.nd v1 a1 (.nd v2 (.nd v3 (.nd v4 (.nd v5 (.nd v6 a6 (.nd v7 a7 b7)) a5) a4) a3) a2))) 194 = v7 := (rfl)
@[go_sem ↓] theorem st194 : Fr.set (.nd v0 a0 (.nd v1 a1 (.nd v2 (.nd v3 (.nd v4 (.nd v5 (.nd v6 a6 (.nd v7 a7 b7)) a5) a4) a3) a2))) 194 x = .nd v0 a0 (.nd v1 a1 (.nd v2 (.nd v3 (.nd v4 (.nd v5 (.nd v6 a6 (.nd x a7 b7)) a5) a4) a3) a2)) := (rfl)
@[go_sem ↓] theorem gt195 : Fr.get (.nd v0 (.nd v1 (.nd v2 a2 (.nd v3 (.nd v4 (.nd v5 (.nd v6 a6 (.nd v7 a7 b7)) a5) a4) a3)) a1) a0) 195 = v7 := (rfl)
@[go_sem ↓] theorem st195 : Fr.set (.nd v0 (.nd v1 (.nd v2 a2 (.nd v3 (.nd v4 (.nd v5 (.nd v6 a6 (.nd v7 a7 b7)) a5) a4) a3)) a1) a0) 195 x = .nd v0 (.nd v1 (.nd v2 a2 (.nd v3 (.nd v4 (.nd v5 (.nd v6 a6 (.nd x a7 b7)) a5) a4) a3)) a1) a0 := (rfl)
@[go_sem ↓] theorem gt196 : Fr.get (.nd v0 a0 (.nd v1 (.nd v2 a2 (.nd v3 (.nd v4 (.nd v5 (.nd v6 a6 (.nd v7 a7 b7)) a5) a4) a3)) a1)) 196 = v7 := (rfl)
@[go_sem ↓] theorem st196 : Fr.set (.nd v0 a0 (.nd v1 (.nd v2 a2 (.nd v3 (.nd v4 (.nd v5 (.nd v6 a6 (.nd v7 a7 b7)) a5) a4) a3)) a1)) 196 x = .nd v0 a0 (.nd v1 (.nd v2 a2 (.nd v3 (.nd v4 (.nd v5 (.nd v6 a6 (.nd x a7 b7)) a5) a4) a3)) a1) := (rfl)
@[go_sem ↓] theorem gt197 : Fr.get (.nd v0 (.nd v1 a1 (.nd v2 a2 (.nd v3 (.nd v4 (.nd v5 (.nd v6 a6 (.nd v7 a7 b7)) a5) a4) a3))) a0) 197 = v7 := (rfl)
@[go_sem ↓] theorem st197 : Fr.set (.nd v0 (.nd v1 a1 (.nd v2 a2 (.nd v3 (.nd v4 (.nd v5 (.nd v6 a6 (.nd v7 a7 b7)) a5) a4) a3))) a0) 197 x = .nd v0 (.nd v1 a1 (.nd v2 a2 (.nd v3 (.nd v4 (.nd v5 (.nd v6 a6 (.nd x a7 b7)) a5) a4) a3))) a0 := (rfl)
@[go_sem ↓] theorem gt198 : Fr.get (.nd v0 a0 (.nd v1 a1 (.nd v2 a2 (.nd v3 (.nd v4 (.nd v5 (.nd v6 a6 (.nd v7 a7 b7)) a5) a4) a3)))) 198 = v7 := (rfl)
@[go_sem ↓] theorem st198 : Fr.set (.nd v0 a0 (.nd v1 a1 (.nd v2 a2 (.nd v3 (.nd v4 (.nd v5 (.nd v6 a6 (.nd v7 a7 b7)) a5) a4) a3)))) 198 x = .nd v0 a0 (.nd v1 a1 (.nd v2 a2 (.nd v3 (.nd v4 (.nd v5 (.nd v6 a6 (.nd x a7 b7)) a5) a4) a3))) := (rfl)
@[go_sem ↓] theorem gt199 : Fr.get (.nd v0 (.nd v1 (.nd v2 (.nd v3 a3 (.nd v4 (.nd v5 (.nd v6 a6 (.nd v7 a7 b7)) a5) a4)) a2) a1) a0) 199 = v7 := (rfl)
@[go_sem ↓] theorem st199 : Fr.set (.nd v0 (.nd v1 (.nd v2 (.nd v3 a3 (.nd v4 (.nd v5 (.nd v6 a6 (.nd v7 a7 b7)) a5) a4)) a2) a1) a0) 199 x = .nd v0 (.nd v1 (.nd v2 (.nd v3 a3 (.nd v4 (.nd v5 (.nd v6 a6 (.nd x a7 b7)) a5) a4)) a2) a1) a0 := (rfl)
@[go_sem ↓] theorem gt200 : Fr.get (.nd v0 a0 (.nd v1 (.nd v2 (.nd v3 a3 (.nd v4 (.nd v5 (.nd v6 a6 (.nd v7 a7 b7)) a5) a4)) a2) a1)) 200 = v7 := (rfl)
@[go_sem ↓] theorem st200 : Fr.set (.nd v0 a0 (.nd v1 (.nd v2 (.nd v3 a3 (.nd v4 (.nd v5 (.nd v6 a6 (.nd v7 a7 b7)) a5) a4)) a2) a1)) 200 x = .nd v0 a0 (.nd v1 (.nd v2 (.nd v3 a3 (.nd v4 (.nd v5 (.nd v6 a6 (.nd x a7 b7)) a5) a4)) a2) a1) := (rfl)
@[go_sem ↓] theorem gt201 : Fr.get (.nd v0 (.nd v1 a1 (.nd v2 (.nd v3 a3 (.nd v4 (.nd v5 (.nd v6 a6 (.nd v7 a7 b7)) a5) a4)) a2)) a0) 201 = v7 := (rfl)
@[go_sem ↓] theorem st201 : Fr.set (.nd v0 (.nd v1 a1 (.nd v2 (.nd v3 a3 (.nd v4 (.nd v5 (.nd v6 a6 (.nd v7 a7 b7)) a5) a4)) a2)) a0) 201 x = .nd v0 (.nd v1 a1 (.nd v2 (.nd v3 a3 (.nd v4 (.nd v5 (.nd v6 a6 (.nd x a7 b7)) a5) a4)) a2)) a0 := (rfl)
@[go_sem ↓] theorem gt202 : Fr.get (.nd v0 a0 (.nd v1 a1 (.nd v2 (.nd v3 a3 (.nd v4 (.nd v5 (.nd v6 a6 (.nd v7 a7 b7)) a5) a4)) a2))) 202 = v7 := (rfl)
@[go_sem ↓] theorem st202 : Fr.set (.nd v0 a0 (.nd v1 a1 (.nd v2 (.nd v3 a3 (.nd v4 (.nd v5 (.nd v6 a6 (.nd v7 a7 b7)) a5) a4)) a2))) 202 x = .nd v0 a0 (.nd v1 a1 (.nd v2 (.nd v3 a3 (.nd v4 (.nd v5 (.nd v6 a6 (.nd x a7 b7)) a5) a4)) a2)) := (rfl)
@[go_sem ↓] theorem gt203 : Fr.get (.nd v0 (.nd v1 (.nd v2 a2 (.nd v3 a3 (.nd v4 (.nd v5 (.nd v6 a6 (.nd v7 a7 b7)) a5) a4))) a1) a0) 203 = v7 := (rfl)
@[go_sem ↓] theorem st203 : Fr.set (.nd v0 (.nd v1 (.nd v2 a2 (.nd v3 a3 (.nd v4 (.nd v5 (.nd v6 a6 (.nd v7 a7 b7)) a5) a4))) a1) a0) 203 x = .nd v0 (.nd v1 (.nd v2 a2 (.nd v3 a3 (.nd v4 (.nd v5 (.nd v6 a6 (.nd x a7 b7)) a5) a4))) a1) a0 := (rfl)
@[go_sem ↓] theorem gt204 : Fr.get (.nd v0 a0 (.nd v1 (.nd v2 a2 (.nd v3 a3 (.nd v4 (.nd v5 (.nd v6 a6 (.nd v7 a7 b7)) a5) a4))) a1)) 204 = v7 := (rfl)
@[go_sem ↓] theorem st204 : Fr.set (.nd v0 a0 (.nd v1 (.nd v2 a2 (.nd v3 a3 (.nd v4 (.nd v5 (.nd v6 a6 (.nd v7 a7 b7)) a5) a4))) a1)) 204 x = .nd v0 a0 (.nd v1 (.nd v2 a2 (.nd v3 a3 (.nd v4 (.nd v5 (.nd v6 a6 (.nd x a7 b7)) a5) a4))) a1) := (rfl)
@[go_sem ↓] theorem gt205 : Fr.get (.nd v0 (.nd v1 a1 (.nd v2 a2 (.nd v3 a3 (.nd v4 (.nd v5 (.nd v6 a6 (.nd v7 a7 b7)) a5) a4)))) a0) 205 = v7 := (rfl)
@[go_sem ↓] theorem st205 : Fr.set (.nd v0 (.nd v1 a1 (.nd v2 a2 (.nd v3 a3 (.nd v4 (.nd v5 (.nd v6 a6 (.nd v7 a7 b7)) a5) a4)))) a0) 205 x = .nd v0 (.nd v1 a1 (.nd v2 a2 (.nd v3 a3 (.nd v4 (.nd v5 (.nd v6 a6 (.nd x a7 b7)) a5) a4)))) a0 := (rfl)
@[go_sem ↓] theorem gt206 : Fr.get (.nd v0 a0 (.nd v1 a1 (.nd v2 a2 (.nd v3 a3 (.nd v4 (.nd v5 (.nd v6 a6 (.nd v7 a7 b7)) a5) a4))))) 206 = v7 := (rfl)
@[go_sem ↓] theorem st206 : Fr.set (.nd v0 a0 (.nd v1 a1 (.nd v2 a2 (.nd v3 a3 (.nd v4 (.nd v5 (.nd v6 a6 (.nd v7 a7 b7)) a5) a4))))) 206 x = .nd v0 a0 (.nd v1 a1 (.nd v2 a2 (.nd v3 a3 (.nd v4 (.nd v5 (.nd v6 a6 (.nd x a7 b7)) a5) a4)))) := (rfl)
@[go_sem ↓] theorem gt207 : Fr.get (.nd v0 (.nd v1 (.nd v2 (.nd v3 (.nd v4 a4 (.nd v5 (.nd v6 a6 (.nd v7 a7 b7)) a5)) a3) a2) a1) a0) 207 = v7 := (rfl)
@[go_sem ↓] theorem st207 : Fr.set (.nd v0 (.nd v1 (.nd v2 (.nd v3 (.nd v4 a4 (.nd v5 (.nd v6 a6 (.nd v7 a7 b7)) a5)) a3) a2) a1) a0) 207 x = .nd v0 (.nd v1 (.nd v2 (.nd v3 (.nd v4 a4 (.nd v5 (.nd v6 a6 (.nd x a7 b7)) a5)) a3) a2) a1) a0 := (rfl)
@[go_sem ↓] theorem gt208 : Fr.get (.nd v0 a0 (.nd v1 (.nd v2 (.nd v3 (.nd v4 a4 (.nd v5 (.nd v6 a6 (.nd v7 a7 b7)) a5)) a3) a2) a1)) 208 = v7 := (rfl)
@[go_sem ↓] theorem st208 : Fr.set (.nd v0 a0 (.nd v1 (.nd v2 (.nd v3 (.nd v4 a4 (.nd v5 (.nd v6 a6 (.nd v7 a7 b7)) a5)) a3) a2) a1)) 208 x = .nd v0 a0 (.nd v1 (.nd v2 (.nd v3 (.nd v4 a4 (.nd v5 (.nd v6 a6 (.nd x a7 b7)) a5)) a3) a2) a1) := (rfl)
@[go_sem ↓] theorem gt209 : Fr.get (.nd v0 (.nd v1 a1 (.nd v2 (.nd v3 (.nd v4 a4 (.nd v5 (.nd v6 a6 (.nd v7 a7 b7)) a5)) a3) a2)) a0) 209 = v7 := (rfl)
@[go_sem ↓] theorem st209 : Fr.set (.nd v0 (.nd v1 a1 (.nd v2 (.nd v3 (.nd v4 a4 (.nd v5 (.nd v6 a6 (.nd v7 a7 b7)) a5)) a3) a2)) a0) 209 x = .nd v0 (.nd v1 a1 (.nd v2 (.nd v3 (.nd v4 a4 (.nd v5 (.nd v6 a6 (.nd x a7 b7)) a5)) a3) a2)) a0 := (rfl)
@[go_sem ↓] theorem gt210 : Fr.get (.nd v0 a0 (.nd v1 a1 (.nd v2 (.nd v3 (.nd v4 a4 (.nd v5 (.nd v6 a6 (.nd v7 a7 b7)) a5)) a3) a2))) 210 = v7 := (rfl)
@[go_sem ↓] theorem st210 : Fr.set (.nd v0 a0 (.nd v1 a1 (.nd v2 (.nd v3 (.nd v4 a4 (.nd v5 (.nd v6 a6 (.nd v7 a7 b7)) a5)) a3) a2))) 210 x = .nd v0 a0 (.nd v1 a1 (.nd v2 (.nd v3 (.nd v4 a4 (.nd v5 (.nd v6 a6 (.nd x a7 b7)) a5)) a3) a2)) := (rfl)
@[go_sem ↓] theorem gt211 : Fr.get (.nd v0 (.nd v1 (.nd v2 a2 (.nd v3 (.nd v4 a4 (.nd v5 (.nd v6 a6 (.nd v7 a7 b7)) a5)) a3)) a1) a0) 211 = v7 := (rfl)
@[go_sem ↓] theorem st211 : Fr.set (.nd v0 (.nd v1 (.nd v2 a2 (.nd v3 (.nd v4 a4 (.nd v5 (.nd v6 a6 (.nd v7 a7 b7)) a5)) a3)) a1) a0) 211 x = .nd v0 (.nd v1 (.nd v2 a2 (.nd v3 (.nd v4 a4 (.nd v5 (.nd v6 a6 (.nd x a7 b7)) a5)) a3)) a1) a0 := (rfl)
@[go_sem ↓] theorem gt212 : Fr.get (.nd v0 a0 (.nd v1 (.nd v2 a2 (.nd v3 (.nd v4 a4 (.nd v5 (.nd v6 a6 (.nd v7 a7 b7)) a5)) a3)) a1)) 212 = v7 := (rfl)
@[go_sem ↓] theorem st212 : Fr.set (.nd v0 a0 (.nd v1 (.nd v2 a2 (.nd v3 (.nd v4 a4 (.nd v5 (.nd v6 a6 (.nd v7 a7 b7)) a5)) a3)) a1)) 212 x = .nd v0 a0 (.nd v1 (.nd v2 a2 (.nd v3 (.nd v4 a4 (.nd v5 (.nd v6 a6 (.nd x a7 b7)) a5)) a3)) a1) := (rfl)
@[go_sem ↓] theorem gt213 : Fr.get (.nd v0 (.nd v1 a1 (.nd v2 a2 (.nd v3 (.nd v4 a4 (.nd v5 (.nd v6 a6 (.nd v7 a7 b7)) a5)) a3))) a0) 213 = v7 := (rfl)
@[go_sem ↓] theorem st213 : Fr.set (.nd v0 (.nd v1 a1 (.nd v2 a2 (.nd v3 (.nd v4 a4 (.nd v5 (.nd v6 a6 (.nd v7 a7 b7)) a5)) a3))) a0) 213 x = .nd v0 (.nd v1 a1 (.nd v2 a2 (.nd v3 (.nd v4 a4 (.nd v5 (.nd v6 a6 (.nd x a7 b7)) a5)) a3))) a0 := (rfl)
@[go_sem ↓] theorem gt214 : Fr.get (.nd v0 a0 (.nd v1 a1 (.nd v2 a2 (.nd v3 (.nd v4 a4 (.nd v5 (.nd v6 a6 (.nd v7 a7 b7)) a5)) a3)))) 214 = v7 := (rfl)
@[go_sem ↓] theorem st214 : Fr.set (.nd v0 a0 (.nd v1 a1 (.nd v2 a2 (.nd v3 (.nd v4 a4 (.nd v5 (.nd v6 a6 (.nd v7 a7 b7)) a5)) a3)))) 214 x = .nd v0 a0 (.nd v1 a1 (.nd v2 a2 (.nd v3 (.nd v4 a4 (.nd v5 (.nd v6 a6 (.nd x a7 b7)) a5)) a3))) := (rfl)
@[go_sem ↓] theorem gt215 : Fr.get (.nd v0 (.nd v1 (.nd v2 (.nd v3 a3 (.nd v4 a4 (.nd v5 (.nd v6 a6 (.nd v7 a7 b7)) a5))) a2) a1) a0) 215 = v7 := (rfl)
@[go_sem ↓] theorem st215 : Fr.set (.nd v0 (.nd v1 (.nd v2 (.nd v3 a3 (.nd v4 a4 (.nd v5 (.nd v6 a6 (.nd v7 a7 b7)) a5))) a2) a1) a0) 215 x = .nd v0 (.nd v1 (.nd v2 (.nd v3 a3 (.nd v4 a4 (.nd v5 (.nd v6 a6 (.nd x a7 b7)) a5))) a2) a1) a0 := (rfl)
@[go_sem ↓] theorem gt216 : Fr.get (.nd v0 a0 (.nd v1 (.nd v2 (.nd v3 a3 (.nd v4 a4 (.nd v5 (.nd v6 a6 (.nd v7 a7 b7)) a5))) a2) a1)) 216 = v7 := (rfl)
@[go_sem ↓] theorem st216 : Fr.set (.nd v0 a0 (.nd v1 (.nd v2 (.nd v3 a3 (.nd v4 a4 (.nd v5 (.nd v6 a6 (.nd v7 a7 b7)) a5))) a2) a1)) 216 x = .nd v0 a0 (.nd v1 (.nd v2 (.nd v3 a3 (.nd v4 a4 (.nd v5 (.nd v6 a6 (.nd x a7 b7)) a5))) a2) a1) := (rfl)
@[go_sem ↓] theorem gt217 : Fr.get (.nd v0 (.nd v1 a1 (.nd v2 (.nd v3 a3 (.nd v4 a4 (.nd v5 (.nd v6 a6 (.nd v7 a7 b7)) a5))) a2)) a0) 217 = v7 := (rfl)
@[go_sem ↓] theorem st217 : Fr.set (.nd v0 (.nd v1 a1 (.nd v2 (.nd v3 a3 (.nd v4 a4 (.nd v5 (.nd v6 a6 (.nd v7 a7 b7)) a5))) a2)) a0) 217 x = .nd v0 (.nd v1 a1 (.nd v2 (.nd v3 a3 (.nd v4 a4 (.nd v5 (.nd v6 a6 (.nd x a7 b7)) a5))) a2)) a0 := (rfl)
@[go_sem ↓] theorem gt218 : Fr.get (.nd v0 a0 (.nd v1 a1 (.nd v2 (.nd v3 a3 (.nd v4 a4 (.nd v5 (.nd v6 a6 (.nd v7 a7 b7)) a5))) a2))) 218 = v7 := (rfl)
@[go_sem ↓] theorem st218 : Fr.set (.nd v0 a0 (.nd v1 a1 (.nd v2 (.nd v3 a3 (.nd v4 a4 (.nd v5 (.nd v6 a6 (.nd v7 a7 b7)) a5))) a2))) 218 x = .nd v0 a0 (.nd v1 a1 (.nd v2 (.nd v3 a3 (.nd v4 a4 (.nd v5 (.nd v6 a6 (.nd x a7 b7)) a5))) a2)) := (rfl)
@[go_sem ↓] theorem gt219 : Fr.get (.nd v0 (.nd v1 (.nd v2 a2 (.nd v3 a3 (.nd v4 a4 (.nd v5 (.nd v6 a6 (.nd v7 a7 b7)) a5)))) a1) a0) 219 = v7 := (rfl)
@[go_sem ↓] theorem st219 : Fr.set (.nd v0 (.nd v1 (.nd v2 a2 (.nd v3 a3 (.nd v4 a4 (.nd v5 (.nd v6 a6 (.nd v7 a7 b7)) a5)))) a1) a0) 219 x = .nd v0 (.nd v1 (.nd v2 a2 (.nd v3 a3 (.nd v4 a4 (.nd v5 (.nd v6 a6 (.nd x a7 b7)) a5)))) a1) a0 := (rfl)
@[go_sem ↓] theorem gt220 : Fr.get (.nd v0 a0 (.nd v1 (.nd v2 a2 (.nd v3 a3 (.nd v4 a4 (.nd v5 (.nd v6 a6 (.nd v7 a7 b7)) a5)))) a1)) 220 = v7 := (rfl)
@[go_sem ↓] theorem st220 : Fr.set (.nd v0 a0 (.nd v1 (.nd v2 a2 (.nd v3 a3 (.nd v4 a4 (.nd v5 (.nd v6 a6 (.nd v7 a7 b7)) a5)))) a1)) 220 x = .nd v0 a0 (.nd v1 (.nd v2 a2 (.nd v3 a3 (.nd v4 a4 (.nd v5 (.nd v6 a6 (.nd x a7 b7)) a5)))) a1) := (rfl)
@[go_sem ↓] theorem gt221 : Fr.get (.nd v0 (.nd v1 a1 (.nd v2 a2 (.nd v3 a3 (.nd v4 a4 (.nd v5 (.nd v6 a6 (.nd v7 a7 b7)) a5))))) a0) 221 = v7 := (rfl)
@[go_sem ↓] theorem st221 : Fr.set (.nd v0 (.nd v1 a1 (.nd v2 a2 (.nd v3 a3 (.nd v4 a4 (.nd v5 (.nd v6 a6 (.nd v7 a7 b7)) a5))))) a0) 221 x = .nd v0 (.nd v1 a1 (.nd v2 a2 (.nd v3 a3 (.nd v4 a4 (.nd v5 (.nd v6 a6 (.nd x a7 b7)) a5))))) a0 := (rfl)
@[go_sem ↓] theorem gt222 : Fr.get (.nd v0 a0 (.nd v1 a1 (.nd v2 a2 (.nd v3 a3 (.nd v4 a4 (.nd v5 (.nd v6 a6 (.nd v7 a7 b7)) a5)))))) 222 = v7 := (rfl)
@[go_sem ↓] theorem st222 : Fr.set (.nd v0 a0 (.nd v1 a1 (.nd v2 a2 (.nd v3 a3 (.nd v4 a4 (.nd v5 (.nd v6 a6 (.nd v7 a7 b7)) a5)))))) 222 x = .nd v0 a0 (.nd v1 a1 (.nd v2 a2 (.nd v3 a3 (.nd v4 a4 (.nd v5 (.nd v6 a6 (.nd x a7 b7)) a5))))) := (rfl)
@[go_sem ↓] theorem gt223 : Fr.get (.nd v0 (.nd v1 (.nd v2 (.nd v3 (.nd v4 (.nd v5 a5 (.nd v6 a6 (.nd v7 a7 b7))) a4) a3) a2) a1) a0) 223 = v7 := (rfl)
@[go_sem ↓] theorem st223 : Fr.set (.nd v0 (.nd v1 (.nd v2 (.nd v3 (.nd v4 (.nd v5 a5 (.nd v6 a6 (.nd v7 a7 b7))) a4) a3) a2) a1) a0) 223 x = .nd v0 (.nd v1 (.nd v2 (.nd v3 (.nd v4 (.nd v5 a5 (.nd v6 a6 (.nd x a7 b7))) a4) a3) a2) a1) a0 := (rfl)
@[go_sem ↓] theorem gt224 : Fr.get (.nd v0 a0 (.nd v1 (.nd v2 (.nd v3 (.nd v4 (.nd v5 a5 (.nd v6 a6 (.nd v7 a7 b7))) a4) a3) a2) a1)) 224 = v7 := (rfl)
@[go_sem ↓] theorem st224 : Fr.set (.nd v0 a0 (.nd v1 (.nd v2 (.nd v3 (.nd v4 (.nd v5 a5 (.nd v6 a6 (.nd v7 a7 b7))) a4) a3) a2) a1)) 224 x = .nd v0 a0 (.nd v1 (.nd v2 (.nd v3 (.nd v4 (.nd v5 a5 (.nd v6 a6 (.nd x a7 b7))) a4) a3) a2) a1) := (rfl)
@[go_sem ↓] theorem gt225 : Fr.get (.nd v0 (.nd v1 a1 (.nd v2 (.nd v3 (.nd v4 (.nd v5 a5 (.nd v6 a6 (.nd v7 a7 b7))) a4) a3) a2)) a0) 225 = v7 := (rfl)
@[go_sem ↓] theorem st225 : Fr.set (.nd v0 (.nd v1 a1 (.nd v2 (.nd v3 (.nd v4 (.nd v5 a5 (.nd v6 a6 (.nd v7 a7 b7))) a4) a3) a2)) a0) 225 x = .nd v0 (.nd v1 a1 (.nd v2 (.nd v3 (.nd v4 (.nd v5 a5 (.nd v6 a6 (.nd x a7 b7))) a4) a3) a2)) a0 := (rfl)
@[go_sem ↓] theorem gt226 : Fr.get (.nd v0 a0 (.nd v1 a1 (.nd v2 (.nd v3 (.nd v4 (.nd v5 a5 (.nd v6 a6 (.nd v7 a7 b7))) a4) a3) a2))) 226 = v7 := (rfl)
@[go_sem ↓] theorem st226 : Fr.set (.nd v0 a0 (.nd v1 a1 (.nd v2 (.nd v3 (.nd v4 (.nd v5 a5 (.nd v6 a6 (.nd v7 a7 b7))) a4) a3) a2))) 226 x = .nd v0 a0 (.nd v1 a1 (.nd v2 (.nd v3 (.nd v4 (.nd v5 a5 (.nd v6 a6 (.nd x a7 b7))) a4) a3) a2)) := (rfl)
@[go_sem ↓] theorem gt227 : Fr.get (.nd v0 (.nd v1 (.nd v2 a2 (.nd v3 (.nd v4 (.nd v5 a5 (.nd v6 a6 (.nd v7 a7 b7))) a4) a3)) a1) a0) 227 = v7 := (rfl)
@[go_sem ↓] theorem st227 : Fr.set (.nd v0 (.nd v1 (.nd v2 a2 (.nd v3 (.nd v4 (.nd v5 a5 (.nd v6 a6 (.nd v7 a7 b7))) a4) a3)) a1) a0) 227 x = .nd v0 (.nd v1 (.nd v2 a2 (.nd v3 (.nd v4 (.nd v5 a5 (.nd v6 a6 (.nd x a7 b7))) a4) a3)) a1) a0 := (rfl)
@[go_sem ↓] theorem gt228 : Fr.get (.nd v0 a0 (.nd v1 (.nd v2 a2 (.nd v3 (.nd v4 (.nd v5 a5 (.nd v6 a6 (.nd v7 a7 b7))) a4) a3)) a1)) 228 = v7 := (rfl)
@[go_sem ↓] theorem st228 : Fr.set (.nd v0 a0 (.nd v1 (.nd v2 a2 (.nd v3 (.nd v4 (.nd v5 a5 (.nd v6 a6 (.nd v7 a7 b7))) a4) a3)) a1)) 228 x = .nd v0 a0 (.nd v1 (.nd v2 a2 (.nd v3 (.nd v4 (.nd v5 a5 (.nd v6 a6 (.nd x a7 b7))) a4) a3)) a1) := (rfl)
@[go_sem ↓] theorem gt229 : Fr.get (.nd v0 (.nd v1 a1 (.nd v2 a2 (.nd v3 (.nd v4 (.nd v5 a5 (.nd v6 a6 (.nd v7 a7 b7))) a4) a3))) a0) 229 = v7 := (rfl)
@[go_sem ↓] theorem st229 : Fr.set (.nd v0 (.nd v1 a1 (.nd v2 a2 (.nd v3 (.nd v4 (.nd v5 a5 (.nd v6 a6 (.nd v7 a7 b7))) a4) a3))) a0) 229 x = .nd v0 (.nd v1 a1 (.nd v2 a2 (.nd v3 (.nd v4 (.nd v5 a5 (.nd v6 a6 (.nd x a7 b7))) a4) a3))) a0 := (rfl)
@[go_sem ↓] theorem gt230 : Fr.get (.nd v0 a0 (.nd v1 a1 (.nd v2 a2 (.nd v3 (.nd v4 (.nd v5 a5 (.nd v6 a6 (.nd v7 a7 b7))) a4) a3)))) 230 = v7 := (rfl)
@[go_sem ↓] theorem st230 : Fr.set (.nd v0 a0 (.nd v1 a1 (.nd v2 a2 (.nd v3 (.nd v4 (.nd v5 a5 (.nd v6 a6 (.nd v7 a7 b7))) a4) a3)))) 230 x = .nd v0 a0 (.nd v1 a1 (.nd v2 a2 (.nd v3 (.nd v4 (.nd v5 a5 (.nd v6 a6 (.nd x a7 b7))) a4) a3))) := (rfl)
@[go_sem ↓] theorem gt231 : Fr.get (.nd v0 (.nd v1 (.nd v2 (.nd v3 a3 (.nd v4 (.nd v5 a5 (.nd v6 a6 (.nd v7 a7 b7))) a4)) a2) a1) a0) 231 = v7 := (rfl)
@[go_sem ↓] theorem st231 : Fr.set (.nd v0 (.nd v1 (.nd v2 (.nd v3 a3 (.nd v4 (.nd v5 a5 (.nd v6 a6 (.nd v7 a7 b7))) a4)) a2) a1) a0) 231 x = .nd v0 (.nd v1 (.nd v2 (.nd v3 a3 (.nd v4 (.nd v5 a5 (.nd v6 a6 (.nd x a7 b7))) a4)) a2) a1) a0 := (rfl)
@[go_sem ↓] theorem gt232 : Fr.get (.nd v0 a0 (.nd v1 (.nd v2 (.nd v3 a3 (.nd v4 (.nd v5 a5 (.nd v6 a6 (.nd v7 a7 b7))) a4)) a2) a1)) 232 = v7 := (rfl)
@[go_sem ↓] theorem st232 : Fr.set (.nd v0 a0 (.nd v1 (.nd v2 (.nd v3 a3 (.nd v4 (.nd v5 a5 (.nd v6 a6 (.nd v7 a7 b7))) a4)) a2) a1)) 232 x = .nd v0 a0 (.nd v1 (.nd v2 (.nd v3 a3 (.nd v4 (.nd v5 a5 (.nd v6 a6 (.nd x a7 b7))) a4)) a2) a1) := (rfl)
@[go_sem ↓] theorem gt233 : Fr.get (.nd v0 (.nd v1 a1 (.nd v2 (.nd v3 a3 (.nd v4 (.nd v5 a5 (.nd v6 a6 (.nd v7 a7 b7))) a4)) a2)) a0) 233 = v7 := (rfl)
@[go_sem ↓] theorem st233 : Fr.set (.nd v0 (.nd v1 a1 (.nd v2 (.nd v3 a3 (.nd v4 (.nd v5 a5 (.nd v6 a6 (.nd v7 a7 b7))) a4)) a2)) a0) 233 x = .nd v0 (.nd v1 a1 (.nd v2 (.nd v3 a3 (.nd v4 (.nd v5 a5 (.nd v6 a6 (.nd x a7 b7))) a4)) a2)) a0 := (rfl)
@[go_sem ↓] theorem gt234 : Fr.get (.nd v0 a0 (.nd v1 a1 (.nd v2 (.nd v3 a3 (.nd v4 (.nd v5 a5 (.nd v6 a6 (.nd v7 a7 b7))) a4)) a2))) 234 = v7 := (rfl)
@[go_sem ↓] theorem st234 : Fr.set (.nd v0 a0 (.nd v1 a1 (.nd v2 (.nd v3 a3 (.nd v4 (.nd v5 a5 (.nd v6 a6 (.nd v7 a7 b7))) a4)) a2))) 234 x = .nd v0 a0 (.nd v1 a1 (.nd v2 (.nd v3 a3 (.nd v4 (.nd v5 a5 (.nd v6 a6 (.nd x a7 b7))) a4)) a2)) := (rfl)
@[go_sem ↓] theorem gt235 : Fr.get (.nd v0 (.nd v1 (.nd v2 a2 (.nd v3 a3 (.nd v4 (.nd v5 a5 (.nd v6 a6 (.nd v7 a7 b7))) a4))) a1) a0) 235 = v7 := (rfl)
@[go_sem ↓] theorem st235 : Fr.set (.nd v0 (.nd v1 (.nd v2 a2 (.nd v3 a3 (.nd v4 (.nd v5 a5 (.nd v6 a6 (.nd v7 a7 b7))) a4))) a1) a0) 235 x = .nd v0 (.nd v1 (.nd v2 a2 (.nd v3 a3 (.nd v4 (.nd v5 a5 (.nd v6 a6 (.nd x a7 b7))) a4))) a1) a0 := (rfl)
@[go_sem ↓] theorem gt236 : Fr.get (.nd v0 a0 (.nd v1 (.nd v2 a2 (.nd v3 a3 (.nd v4 (.nd v5 a5 (.nd v6 a6 (.nd v7 a7 b7))) a4))) a1)) 236 = v7 := (rfl)
@[go_sem ↓] theorem st236 : Fr.set (.nd v0 a0 (.nd v1 (.nd v2 a2 (.nd v3 a3 (.nd v4 (.nd v5 a5 (.nd v6 a6 (.nd v7 a7 b7))) a4))) a1)) 236 x = .nd v0 a0 (.nd v1 (.nd v2 a2 (.nd v3 a3 (.nd v4 (.nd v5 a5 (.nd v6 a6 (.nd x a7 b7))) a4))) a1) := (rfl)
@[go_sem ↓] theorem gt237 : Fr.get (.nd v0 (.nd v1 a1 (.nd v2 a2 (.nd v3 a3 (.nd v4 (.nd v5 a5 (.nd v6 a6 (.nd v7 a7 b7))) a4)))) a0) 237 = v7 := (rfl)
@[go_sem ↓] theorem st237 : Fr.set (.nd v0 (.nd v1 a1 (.nd v2 a2 (.nd v3 a3 (.nd v4 (.nd v5 a5 (.nd v6 a6 (.nd v7 a7 b7))) a4)))) a0) 237 x = .nd v0 (.nd v1 a1 (.nd v2 a2 (.nd v3 a3 (.nd v4 (.nd v5 a5 (.nd v6 a6 (.nd x a7 b7))) a4)))) a0 := (rfl)
@[go_sem ↓] theorem gt238 : Fr.get (.nd v0 a0 (.nd v1 a1 (.nd v2 a2 (.nd v3 a3 (.nd v4 (.nd v5 a5 (.nd v6 a6 (.nd v7 a7 b7))) a4))))) 238 = v7 := (rfl)
@[go_sem ↓] theorem st238 : Fr.set (.nd v0 a0 (.nd v1 a1 (.nd v2 a2 (.nd v3 a3 (.nd v4 (.nd v5 a5 (.nd v6 a6 (.nd v7 a7 b7))) a4))))) 238 x = .nd v0 a0 (.nd v1 a1 (.nd v2 a2 (.nd v3 a3 (.nd v4 (.nd v5 a5 (.nd v6 a6 (.nd x a7 b7))) a4)))) := (rfl)
@[go_sem ↓] theorem gt239 : Fr.get (.nd v0 (.nd v1 (.nd v2 (.nd v3 (.nd v4 a4 (.nd v5 a5 (.nd v6 a6 (.nd v7 a7 b7)))) a3) a2) a1) a0) 239 = v7 := (rfl)
@[go_sem ↓] theorem st239 : Fr.set (.nd v0 (.nd v1 (.nd v2 (.nd v3 (.nd v4 a4 (.nd v5 a5 (.nd v6 a6 (.nd v7 a7 b7)))) a3) a2) a1) a0) 239 x = .nd v0 (.nd v1 (.nd v2 (.nd v3 (.nd v4 a4 (.nd v5 a5 (.nd v6 a6 (.nd x a7 b7)))) a3) a2) a1) a0 := (rfl)
@[go_sem ↓] theorem gt240 : Fr.get (.nd v0 a0 (.nd v1 (.nd v2 (.nd v3 (.nd v4 a4 (.nd v5 a5 (.nd v6 a6 (.nd v7 a7 b7)))) a3) a2) a1)) 240 = v7 := (rfl)
@[go_sem ↓] theorem st240 : Fr.set (.nd v0 a0 (.nd v1 (.nd v2 (.nd v3 (.nd v4 a4 (.nd v5 a5 (.nd v6 a6 (.nd v7 a7 b7)))) a3) a2) a1)) 240 x = .nd v0 a0 (.nd v1 (.nd v2 (.nd v3 (.nd v4 a4 (.nd v5 a5 (.nd v6 a6 (.nd x a7 b7)))) a3) a2) a1) := (rfl)
@[go_sem ↓] theorem gt241 : Fr.get (.nd v0 (.nd v1 a1 (.nd v2 (.nd v3 (.nd v4 a4 (.nd v5 a5 (.nd v6 a6 (.nd v7 a7 b7)))) a3) a2)) a0) 241 = v7 := (rfl)
@[go_sem ↓] theorem st241 : Fr.set (.nd v0 (.nd v1 a1 (.nd v2 (.nd v3 (.nd v4 a4 (.nd v5 a5 (.nd v6 a6 (.nd v7 a7 b7)))) a3) a2)) a0) 241 x = .nd v0 (.nd v1 a1 (.nd v2 (.nd v3 (.nd v4 a4 (.nd v5 a5 (.nd v6 a6 (.nd x a7 b7)))) a3) a2)) a0 := (rfl)
@[go_sem ↓] theorem gt242 : Fr.get (.nd v0 a0 (.nd v1 a1 (.nd v2 (.nd v3 (.nd v4 a4 (.nd v5 a5 (.nd v6 a6 (.nd v7 a7 b7)))) a3) a2))) 242 = v7 := (rfl)
@[go_sem ↓] theorem st242 : Fr.set (.nd v0 a0 (.nd v1 a1 (.nd v2 (.nd v3 (.nd v4 a4 (.nd v5 a5 (.nd v6 a6 (.nd v7 a7 b7)))) a3) a2))) 242 x = .nd v0 a0 (.nd v1 a1 (.nd v2 (.nd v3 (.nd v4 a4 (.nd v5 a5 (.nd v6 a6 (.nd x a7 b7)))) a3) a2)) := (rfl)
@[go_sem ↓] theorem gt243 : Fr.get (.nd v0 (.nd v1 (.nd v2 a2 (.nd v3 (.nd v4 a4 (.nd v5 a5 (.nd v6 a6 (.nd v7 a7 b7)))) a3)) a1) a0) 243 = v7 := (rfl)
@[go_sem ↓] theorem st243 : Fr.set (.nd v0 (.nd v1 (.nd v2 a2 (.nd v3 (.nd v4 a4 (.nd v5 a5 (.nd v6 a6 (.nd v7 a7 b7)))) a3)) a1) a0) 243 x = .nd v0 (.nd v1 (.nd v2 a2 (.nd v3 (.nd v4 a4 (.nd v5 a5 (.nd v6 a6 (.nd x a7 b7)))) a3)) a1) a0 := (rfl)
@[go_sem ↓] theorem gt244 : Fr.get (.nd v0 a0 (.nd v1 (.nd v2 a2 (.nd v3 (.nd v4 a4 (.nd v5 a5 (.nd v6 a6 (.nd v7 a7 b7)))) a3)) a1)) 244 = v7 := (rfl)
@[go_sem ↓] theorem st244 : Fr.set (.nd v0 a0 (.nd v1 (.nd v2 a2 (.nd v3 (.nd v4 a4 (.nd v5 a5 (.nd v6 a6 (.nd v7 a7 b7)))) a3)) a1)) 244 x = .nd v0 a0 (.nd v1 (.nd v2 a2 (.nd v3 (.nd v4 a4 (.nd v5 a5 (.nd v6 a6 (.nd x a7 b7)))) a3)) a1) := (rfl)
@[go_sem ↓] theorem gt245 : Fr.get (.nd v0 (.nd v1 a1 (.nd v2 a2 (.nd v3 (.nd v4 a4 (.nd v5 a5 (.nd v6 a6 (.nd v7 a7 b7)))) a3))) a0) 245 = v7 := (rfl)
@[go_sem ↓] theorem st245 : Fr.set (.nd v0 (.nd v1 a1 (.nd v2 a2 (.nd v3 (.nd v4 a4 (.nd v5 a5 (.nd v6 a6 (.nd v7 a7 b7)))) a3))) a0) 245 x = .nd v0 (.nd v1 a1 (.nd v2 a2 (.nd v3 (.nd v4 a4 (.nd v5 a5 (.nd v6 a6 (.nd x a7 b7)))) a3))) a0 := (rfl)
@[go_sem ↓] theorem gt246 : Fr.get (.nd v0 a0 (.nd v1 a1 (.nd v2 a2 (.nd v3 (.nd v4 a4 (.nd v5 a5 (.nd v6 a6 (.nd v7 a7 b7)))) a3)))) 246 = v7 := (rfl)
@[go_sem ↓] theorem st246 : Fr.set (.nd v0 a0 (.nd v1 a1 (.nd v2 a2 (.nd v3 (.nd v4 a4 (.nd v5 a5 (.nd v6 a6 (.nd v7 a7 b7)))) a3)))) 246 x = .nd v0 a0 (.nd v1 a1 (.nd v2 a2 (.nd v3 (.nd v4 a4 (.nd v5 a5 (.nd v6 a6 (.nd x a7 b7)))) a3))) := (rfl)
@[go_sem ↓] theorem gt247 : Fr.get (.nd v0 (.nd v1 (.nd v2 (.nd v3 a3 (.nd v4 a4 (.nd v5 a5 (.nd v6 a6 (.nd v7 a7 b7))))) a2) a1) a0) 247 = v7 := (rfl)
@[go_sem ↓] theorem st247 : Fr.set (.nd v0 (.nd v1 (.nd v2 (.nd v3 a3 (.nd v4 a4 (.nd v5 a5 (.nd v6 a6 (.nd v7 a7 b7))))) a2) a1) a0) 247 x = .nd v0 (.nd v1 (.nd v2 (.nd v3 a3 (.nd v4 a4 (.nd v5 a5 (.nd v6 a6 (.nd x a7 b7))))) a2) a1) a0 := (rfl)
@[go_sem ↓] theorem gt248 : Fr.get (.nd v0 a0 (.nd v1 (.nd v2 (.nd v3 a3 (.nd v4 a4 (.nd v5 a5 (.nd v6 a6 (.nd v7 a7 b7))))) a2) a1)) 248 = v7 := (rfl)
@[go_sem ↓] theorem st248 : Fr.set (.nd v0 a0 (.nd v1 (.nd v2 (.nd v3 a3 (.nd v4 a4 (.nd v5 a5 (.nd v6 a6 (.nd v7 a7 b7))))) a2) a1)) 248 x = .nd v0 a0 (.nd v1 (.nd v2 (.nd v3 a3 (.nd v4 a4 (.nd v5 a5 (.nd v6 a6 (.nd x a7 b7))))) a2) a1) := (rfl)
@[go_sem ↓] theorem gt249 : Fr.get (.nd v0 (.nd v1 a1 (.nd v2 (.nd v3 a3 (.nd v4 a4 (.nd v5 a5 (.nd v6 a6 (.nd v7 a7 b7))))) a2)) a0) 249 = v7 := (rfl)
@[go_sem ↓] theorem st249 : Fr.set (.nd v0 (.nd v1 a1 (.nd v2 (.nd v3 a3 (.nd v4 a4 (.nd v5 a5 (.nd v6 a6 (.nd v7 a7 b7))))) a2)) a0) 249 x = .nd v0 (.nd v1 a1 (.nd v2 (.nd v3 a3 (.nd v4 a4 (.nd v5 a5 (.nd v6 a6 (.nd x a7 b7))))) a2)) a0 := (rfl)
@[go_sem ↓] theorem gt250 : Fr.get (.nd v0 a0 (.nd v1 a1 (.nd v2 (.nd v3 a3 (.nd v4 a4 (.nd v5 a5 (.nd v6 a6 (.nd v7 a7 b7))))) a2))) 250 = v7 := (rfl)
@[go_sem ↓] theorem st250 : Fr.set (.nd v0 a0 (.nd v1 a1 (.nd v2 (.nd v3 a3 (.nd v4 a4 (.nd v5 a5 (.nd v6 a6 (.nd v7 a7 b7))))) a2))) 250 x = .nd v0 a0 (.nd v1 a1 (.nd v2 (.nd v3 a3 (.nd v4 a4 (.nd v5 a5 (.nd v6 a6 (.nd x a7 b7))))) a2)) := (rfl)
@[go_sem ↓] theorem gt251 : Fr.get (.nd v0 (.nd v1 (.nd v2 a2 (.nd v3 a3 (.nd v4 a4 (.nd v5 a5 (.nd v6 a6 (.nd v7 a7 b7)))))) a1) a0) 251 = v7 := (rfl)
@[go_sem ↓] theorem st251 : Fr.set (.nd v0 (.nd v1 (.nd v2 a2 (.nd v3 a3 (.nd v4 a4 (.nd v5 a5 (.nd v6 a6 (.nd v7 a7 b7)))))) a1) a0) 251 x = .nd v0 (.nd v1 (.nd v2 a2 (.nd v3 a3 (.nd v4 a4 (.nd v5 a5 (.nd v6 a6 (.nd x a7 b7)))))) a1) a0 := (rfl)
@[go_sem ↓] theorem gt252 : Fr.get (.nd v0 a0 (.nd v1 (.nd v2 a2 (.nd v3 a3 (.nd v4 a4 (.nd v5 a5 (.nd v6 a6 (.nd v7 a7 b7)))))) a1)) 252 = v7 := (rfl)
@[go_sem ↓] theorem st252 : Fr.set (.nd v0 a0 (.nd v1 (.nd v2 a2 (.nd v3 a3 (.nd v4 a4 (.nd v5 a5 (.nd v6 a6 (.nd v7 a7 b7)))))) a1)) 252 x = .nd v0 a0 (.nd v1 (.nd v2 a2 (.nd v3 a3 (.nd v4 a4 (.nd v5 a5 (.nd v6 a6 (.nd x a7 b7)))))) a1) := (rfl)
@[go_sem ↓] theorem gt253 : Fr.get (.nd v0 (.nd v1 a1 (.nd v2 a2 (.nd v3 a3 (.nd v4 a4 (.nd v5 a5 (.nd v6 a6 (.nd v7 a7 b7))))))) a0) 253 = v7 := (rfl)
@[go_sem ↓] theorem st253 : Fr.set (.nd v0 (.nd v1 a1 (.nd v2 a2 (.nd v3 a3 (.nd v4 a4 (.nd v5 a5 (.nd v6 a6 (.nd v7 a7 b7))))))) a0) 253 x = .nd v0 (.nd v1 a1 (.nd v2 a2 (.nd v3 a3 (.nd v4 a4 (.nd v5 a5 (.nd v6 a6 (.nd x a7 b7))))))) a0 := (rfl)
@[go_sem ↓] theorem gt254 : Fr.get (.nd v0 a0 (.nd v1 a1 (.nd v2 a2 (.nd v3 a3 (.nd v4 a4 (.nd v5 a5 (.nd v6 a6 (.nd v7 a7 b7)))))))) 254 = v7 := (rfl)
@[go_sem ↓] theorem st254 : Fr.set (.nd v0 a0 (.nd v1 a1 (.nd v2 a2 (.nd v3 a3 (.nd v4 a4 (.nd v5 a5 (.nd v6 a6 (.nd v7 a7 b7)))))))) 254 x = .nd v0 a0 (.nd v1 a1 (.nd v2 a2 (.nd v3 a3 (.nd v4 a4 (.nd v5 a5 (.nd v6 a6 (.nd x a7 b7))))))) := (rfl)
@[go_sem ↓] theorem full1 : Fr.full 1 = (.nd .bot .lf .lf) := (rfl)
@[go_sem ↓] theorem full2 : Fr.full 2 = (.nd .bot (.nd .bot .lf .lf) (.nd .bot .lf .lf)) := (rfl)
@[go_sem ↓] theorem full3 : Fr.full 3 = (.nd .bot (.nd .bot (.nd .bot .lf .lf) (.nd .bot .lf .lf)) (.nd .bot (.nd .bot .lf .lf) (.nd .bot .lf .lf))) := (rfl)
@[go_sem ↓] theorem full4 : Fr.full 4 = (.nd .bot (.nd .bot (.nd .bot (.nd .bot .lf .lf) (.nd .bot .lf .lf)) (.nd .bot (.nd .bot .lf .lf) (.nd .bot .lf .lf))) (.nd .bot (.nd .bot (.nd .bot .lf .lf) (.nd .bot .lf .lf)) (.nd .bot (.nd .bot .lf .lf) (.nd .bot .lf .lf)))) := (rfl)
@[go_sem ↓] theorem full5 : Fr.full 5 = (.nd .bot (.nd .bot (.nd .bot (.nd .bot (.nd .bot .lf .lf) (.nd .bot .lf .lf)) (.nd .bot (.nd .bot .lf .lf) (.nd .bot .lf .lf))) (.nd .bot (.nd .bot (.nd .bot .lf .lf) (.nd .bot .lf .lf)) (.nd .bot (.nd .bot .lf .lf) (.nd .bot .lf .lf)))) (.nd .bot (.nd .bot (.nd .bot (.nd .bot .lf .lf) (.nd .bot .lf .lf)) (.nd .bot (.nd .bot .lf .lf) (.nd .bot .lf .lf))) (.nd .bot (.nd .bot (.nd .bot .lf .lf) (.nd .bot .lf .lf)) (.nd .bot (.nd .bot .lf .lf) (.nd .bot .lf .lf))))) := (rfl)
@[go_sem ↓] theorem full6 : Fr.full 6 = (.nd .bot (.nd .bot (.nd .bot (.nd .bot (.nd .bot (.nd .bot .lf .lf) (.nd .bot .lf .lf)) (.nd .bot (.nd .bot .lf .lf) (.nd .bot .lf .lf))) (.nd .bot (.nd .bot (.nd .bot .lf .lf) (.nd .bot .lf .lf)) (.nd .bot (.nd .bot .lf .lf) (.nd .bot .lf .lf)))) (.nd .bot (.nd .bot (.nd .bot (.nd .bot .lf .lf) (.nd .bot .lf .lf)) (.nd .bot (.nd .bot .lf .lf) (.nd .bot .lf .lf))) (.nd .bot (.nd .bot (.nd .bot .lf .lf) (.nd .bot .lf .lf)) (.nd .bot (.nd .bot .lf .lf) (.nd .bot .lf .lf))))) (.nd .bot (.nd .bot (.nd .bot (.nd .bot (.nd .bot .lf .lf) (.nd .bot .lf .lf)) (.nd .bot (.nd .bot .lf .lf) (.nd .bot .lf .lf))) (.nd .bot (.nd .bot (.nd .bot .lf .lf) (.nd .bot .lf .lf)) (.nd .bot (.nd .bot .lf .lf) (.nd .bot .lf .lf)))) (.nd .bot (.nd .bot (.nd .bot (.nd .bot .lf .lf) (.nd .bot .lf .lf)) (.nd .bot (.nd .bot .lf .lf) (.nd .bot .lf .lf))) (.nd .bot (.nd .bot (.nd .bot .lf .lf) (.nd .bot .lf .lf)) (.nd .bot (.nd .bot .lf .lf) (.nd .bot .lf .lf)))))) := (rfl)
@[go_sem ↓] theorem full7 : Fr.full 7 = (.nd .bot (.nd .bot (.nd .bot (.nd .bot (.nd .bot (.nd .bot (.nd .bot .lf .lf) (.nd .bot .lf .lf)) (.nd .bot (.nd .bot .lf .lf) (.nd .bot .lf .lf))) (.nd .bot (.nd .bot (.nd .bot .lf .lf) (.nd .bot .lf .lf)) (.nd .bot (.nd .bot .lf .lf) (.nd .bot .lf .lf)))) (.nd .bot (.nd .bot (.nd .bot (.nd .bot .lf .lf) (.nd .bot .lf .lf)) (.nd .bot (.nd .bot .lf .lf) (.nd .bot .lf .lf))) (.nd .bot (.nd .bot (.nd .bot .lf .lf) (.nd .bot .lf .lf)) (.nd .bot (.nd .bot .lf .lf) (.nd .bot .lf .lf))))) (.nd .bot (.nd .bot (.nd .bot (.nd .bot (.nd .bot .lf .lf) (.nd .bot .lf .lf)) (.nd .bot (.nd .bot .lf .lf) (.nd .bot .lf .lf))) (.nd .bot (.nd .bot (.nd .bot .lf .lf) (.nd .bot .lf .lf)) (.nd .bot (.nd .bot .lf .lf) (.nd .bot .lf .lf)))) (.nd .bot (.nd .bot (.nd .bot (.nd .bot .lf .lf) (.nd .bot .lf .lf)) (.nd .bot (.nd .bot .lf .lf) (.nd .bot .lf .lf))) (.nd .bot (.nd .bot (.nd .bot .lf .lf) (.nd .bot .lf .lf)) (.nd .bot (.nd .bot .lf .lf) (.nd .bot .lf .lf)))))) (.nd .bot (.nd .bot (.nd .bot (.nd .bot (.nd .bot (.nd .bot .lf .lf) (.nd .bot .lf .lf)) (.nd .bot (.nd .bot .lf .lf) (.nd .bot .lf .lf))) (.nd .bot (.nd .bot (.nd .bot .lf .lf) (.nd .bot .lf .lf)) (.nd .bot (.nd .bot .lf .lf) (.nd .bot .lf .lf)))) (.nd .bot (.nd .bot (.nd .bot (.nd .bot .lf .lf) (.nd .bot .lf .lf)) (.nd .bot (.nd .bot .lf .lf) (.nd .bot .lf .lf))) (.nd .bot (.nd .bot (.nd .bot .lf .lf) (.nd .bot .lf .lf)) (.nd .bot (.nd .bot .lf .lf) (.nd .bot .lf .lf))))) (.nd .bot (.nd .bot (.nd .bot (.nd .bot (.nd .bot .lf .lf) (.nd .bot .lf .lf)) (.nd .bot (.nd .bot .lf .lf) (.nd .bot .lf .lf))) (.nd .bot (.nd .bot (.nd .bot .lf .lf) (.nd .bot .lf .lf)) (.nd .bot (.nd .bot .lf .lf) (.nd .bot .lf .lf)))) (.nd .bot (.nd .bot (.nd .bot (.nd .bot .lf .lf) (.nd .bot .lf .lf)) (.nd .bot (.nd .bot .lf .lf) (.nd .bot .lf .lf))) (.nd .bot (.nd .bot (.nd .bot .lf .lf) (.nd .bot .lf .lf)) (.nd .bot (.nd .bot .lf .lf) (.nd .bot .lf .lf))))))) := (rfl)
@[go_sem ↓] theorem full8 : Fr.full 8 = (.nd .bot (.nd .bot (.nd .bot (.nd .bot (.nd .bot (.nd .bot (.nd .bot (.nd .bot .lf .lf) (.nd .bot .lf .lf)) (.nd .bot (.nd .bot .lf .lf) (.nd .bot .lf .lf))) (.nd .bot (.nd .bot (.nd .bot .lf .lf) (.nd .bot .lf .lf)) (.nd .bot (.nd .bot .lf .lf) (.nd .bot .lf .lf)))) (.nd .bot (.nd .bot (.nd .bot (.nd .bot .lf .lf) (.nd .bot .lf .lf)) (.nd .bot (.nd .bot .lf .lf) (.nd .bot .lf .lf))) (.nd .bot (.nd .bot (.nd .bot .lf .lf) (.nd .bot .lf .lf)) (.nd .bot (.nd .bot .lf .lf) (.nd .bot .lf .lf))))) (.nd .bot (.nd .bot (.nd .bot (.nd .bot (.nd .bot .lf .lf) (.nd .bot .lf .lf)) (.nd .bot (.nd .bot .lf .lf) (.nd .bot .lf .lf))) (.nd .bot (.nd .bot (.nd .bot .lf .lf) (.nd .bot .lf .lf)) (.nd .bot (.nd .bot .lf .lf) (.nd .bot .lf .lf)))) (.nd .bot (.nd .bot (.nd .bot (.nd .bot .lf .lf) (.nd .bot .lf .lf)) (.nd .bot (.nd .bot .lf .lf) (.nd .bot .lf .lf))) (.nd .bot (.nd .bot (.nd .bot .lf .lf) (.nd .bot .lf .lf)) (.nd .bot (.nd .bot .lf .lf) (.nd .bot .lf .lf)))))) (.nd .bot (.nd .bot (.nd .bot (.nd .bot (.nd .bot (.nd .bot .lf .lf) (.nd .bot .lf .lf)) (.nd .bot (.nd .bot .lf .lf) (.nd .bot .lf .lf))) (.nd .bot (.nd .bot (.nd .bot .lf .lf) (.nd .bot .lf .lf)) (.nd .bot (.nd .bot .lf .lf) (.nd .bot .lf .lf)))) (.nd .bot (.nd .bot (.nd .bot (.nd .bot .lf .lf) (.nd .bot .lf .lf)) (.nd .bot (.nd .bot .lf .lf) (.nd .bot .lf .lf))) (.nd .bot (.nd .bot (.nd .bot .lf .lf) (.nd .bot .lf .lf)) (.nd .bot (.nd .bot .lf .lf) (.nd .bot .lf .lf))))) (.nd .bot (.nd .bot (.nd .bot (.nd .bot (.nd .bot .lf .lf) (.nd .bot .lf .lf)) (.nd .bot (.nd .bot .lf .lf) (.nd .bot .lf .lf))) (.nd .bot (.nd .bot (.nd .bot .lf .lf) (.nd .bot .lf .lf)) (.nd .bot (.nd .bot .lf .lf) (.nd .bot .lf .lf)))) (.nd .bot (.nd .bot (.nd .bot (.nd .bot .lf .lf) (.nd .bot .lf .lf)) (.nd .bot (.nd .bot .lf .lf) (.nd .bot .lf .lf))) (.nd .bot (.nd .bot (.nd .bot .lf .lf) (.nd .bot .lf .lf)) (.nd .bot (.nd .bot .lf .lf) (.nd .bot .lf .lf))))))) (.nd .bot (.nd .bot (.nd .bot (.nd .bot (.nd .bot (.nd .bot (.nd .bot .lf .lf) (.nd .bot .lf .lf)) (.nd .bot (.nd .bot .lf .lf) (.nd .bot .lf .lf))) (.nd .bot (.nd .bot (.nd .bot .lf .lf) (.nd .bot .lf .lf)) (.nd .bot (.nd .bot .lf .lf) (.nd .bot .lf .lf)))) (.nd .bot (.nd .bot (.nd .bot (.nd .bot .lf .lf) (.nd .bot .lf .lf)) (.nd .bot (.nd .bot .lf .lf) (.nd .bot .lf .lf))) (.nd .bot (.nd .bot (.nd .bot .lf .lf) (.nd .bot .lf .lf)) (.nd .bot (.nd .bot .lf .lf) (.nd .bot .lf .lf))))) (.nd .bot (.nd .bot (.nd .bot (.nd .bot (.nd .bot .lf .lf) (.nd .bot .lf .lf)) (.nd .bot (.nd .bot .lf .lf) (.nd .bot .lf .lf))) (.nd .bot (.nd .bot (.nd .bot .lf .lf) (.nd .bot .lf .lf)) (.nd .bot (.nd .bot .lf .lf) (.nd .bot .lf .lf)))) (.nd .bot (.nd .bot (.nd .bot (.nd .bot .lf .lf) (.nd .bot .lf .lf)) (.nd .bot (.nd .bot .lf .lf) (.nd .bot .lf .lf))) (.nd .bot (.nd .bot (.nd .bot .lf .lf) (.nd .bot .lf .lf)) (.nd .bot (.nd .bot .lf .lf) (.nd .bot .lf .lf)))))) (.nd .bot (.nd .bot (.nd .bot (.nd .bot (.nd .bot (.nd .bot .lf .lf) (.nd .bot .lf .lf)) (.nd .bot (.nd .bot .lf .lf) (.nd .bot .lf .lf))) (.nd .bot (.nd .bot (.nd .bot .lf .lf) (.nd .bot .lf .lf)) (.nd .bot (.nd .bot .lf .lf) (.nd .bot .lf .lf)))) (.nd .bot (.nd .bot (.nd .bot (.nd .bot .lf .lf) (.nd .bot .lf .lf)) (.nd .bot (.nd .bot .lf .lf) (.nd .bot .lf .lf))) (.nd .bot (.nd .bot (.nd .bot .lf .lf) (.nd .bot .lf .lf)) (.nd .bot (.nd .bot .lf .lf) (.nd .bot .lf .lf))))) (.nd .bot (.nd .bot (.nd .bot (.nd .bot (.nd .bot .lf .lf) (.nd .bot .lf .lf)) (.nd .bot (.nd .bot .lf .lf) (.nd .bot .lf .lf))) (.nd .bot (.nd .bot (.nd .bot .lf .lf) (.nd .bot .lf .lf)) (.nd .bot (.nd .bot .lf .lf) (.nd .bot .lf .lf)))) (.nd .bot (.nd .bot (.nd .bot (.nd .bot .lf .lf) (.nd .bot .lf .lf)) (.nd .bot (.nd .bot .lf .lf) (.nd .bot .lf .lf))) (.nd .bot (.nd .bot (.nd .bot .lf .lf) (.nd .bot .lf .lf)) (.nd .bot (.nd .bot .lf .lf) (.nd .bot .lf .lf)))))))) := (rfl)
end

attribute [go_sem ↓] execK_seq execK_skip execK_ret execK_exit execK_scope execK_label execK_cond execK_block execK_region execK_regionD seqC_nrm seqC_ret seqC_ext blockC_nrm blockC_ret nrmC_eq regK_end grdD_some
attribute [go_sem ↓] opC_move opC_assign opC_pick opC_alloc opC_box opC_build opC_buildSlice opC_load opC_store opC_nilCheck opC_binOp opC_unOp opC_convert opC_makeInterface opC_makeFunc opC_makeMap opC_makeSlice opC_slice opC_fieldAddr opC_field opC_indexAddr opC_index opC_lookup opC_mapUpdate opC_insert opC_range opC_next opC_typeAssert opC_extract opC_callV opC_callI opC_callB
attribute [go_sem] obind_some obind_none bcond_true bcond_false retH_some retU_some condC_true condC_false grdC_tf grdC_ft grdC_tup
@[go_sem ↓] theorem toList_mk {α : Type} (l : List α) : (Array.mk l).toList = l := (rfl)

section
variable {R : Type} {E : Env} {c : Oracle} {lp : LoopO R} {q : R → R → Bool} {f d : Nat}

@[go_sem] theorem blockC_ext_eq (id : Nat) (k : Ex → St → Option R) (st : St) : blockC id k (.ext id) st = k .nrm st := by simp [blockC, Nat.beq_refl]
theorem blockC_ext_ne {id j : Nat} (h : Nat.beq j id = false) (k : Ex → St → Option R) (st : St) : blockC id k (.ext j) st = k (.ext j) st := by simp [blockC, h]

theorem opO_any (bases : List Nat) (i rank i' rank' : Nat) (o : Oper) (st : St) : opO E c f bases none i rank o st = opO E c f bases none i' rank' o st := by
  unfold opO
  cases o.op <;> rfl
theorem regK_any (bases : List Nat) (ops : Array Oper) (k : St → Option R) : ∀ (os : List Oper) (i rank i' rank' : Nat) (st : St), regK E c f bases none ops os i rank st k = regK E c f bases none ops os i' rank' st k
  | [], _, _, _, _, _ => rfl
  | o :: os, i, rank, i', rank', st => by
    have ih := fun a b a' b' st => regK_any bases ops k os a b a' b' st
    have h1 := fun st => opO_any (E := E) (c := c) (f := f) bases i rank i' rank' o st
    simp only [regK, h1]
    have h2 : ∀ st, regK E c f bases none ops os (i + 1) (cond (isNew o.op) (rank + 1) rank) st k = regK E c f bases none ops os (i' + 1) (cond (isNew o.op) (rank' + 1) rank') st k := fun st => ih _ _ _ _ st
    simp only [h2]
/-- In order: places do not matter. -/
@[go_sem ↓] theorem regK_step0 (bases : List Nat) (ops : Array Oper) (dst : Option Nat) (op : Op) (ty : Nat) (pos : String) (af : Array Edge) (os : List Oper) (i rank : Nat) (fr : Fr) (H : Hp) (k : St → Option R) :
    regK E c f bases none ops (⟨dst, op, ty, pos, af, none⟩ :: os) i rank ⟨fr, H⟩ k = obind (opC E c f bases none 0 0 dst op fr H) (putC E c f bases none ops os 0 0 fr dst k) := by
  rw [regK_any bases ops k _ i rank 0 0, regK_step]
  congr 1
  funext r
  exact regK_any _ _ _ _ _ _ _ _ _
@[go_sem ↓] theorem regK_stepD (bases : List Nat) (D : Draw) (ops : Array Oper) (dst : Option Nat) (op : Op) (ty : Nat) (pos : String) (af : Array Edge) (os : List Oper) (i rank : Nat) (fr : Fr) (H : Hp) (k : St → Option R) :
    regK E c f bases (some D) ops (⟨dst, op, ty, pos, af, none⟩ :: os) i rank ⟨fr, H⟩ k = obind (opC E c f bases (some D) i rank dst op fr H) (putC E c f bases (some D) ops os (i + 1) (bcond (isNew op) (rank + 1) rank) fr dst k) := regK_step ..
/-- The temporaries that operations write, by their places. -/
def mkD : Nat → List Oper → Fr → Fr
  | _, [], D => D
  | n, o :: os, D => match o.dst with
    | some t => (mkD (n + 1) os D).set n (.pv (.fn t))
    | none => mkD (n + 1) os D
def dstV (v : AV) : Option Nat := match v with | .pv (.fn t) => some t | _ => none
theorem mkD_ok (d : Nat) : ∀ (os : List Oper) (n j t : Nat), (mkD n os (Fr.full d)).get j = .pv (.fn t) → ∃ o, n ≤ j ∧ os[j - n]? = some o ∧ o.dst = some t
  | [], n, j, t, h => by
    exfalso
    simp only [mkD] at h
    have : ∀ d j, (Fr.full d).get j = .bot := by
      intro d
      induction d with
      | zero => intro j; rfl
      | succ d ih =>
        intro j
        simp only [Fr.full, Fr.get, ih]
        cases Nat.beq j 0 <;> cases Nat.beq (j % 2) 1 <;> rfl
    rw [this] at h
    cases h
  | o :: os, n, j, t, h => by
    simp only [mkD] at h
    have next : (mkD (n + 1) os (Fr.full d)).get j = .pv (.fn t) → ∃ o', n ≤ j ∧ (o :: os)[j - n]? = some o' ∧ o'.dst = some t := by
      intro h
      obtain ⟨o', h1, h2, h3⟩ := mkD_ok d os (n + 1) j t h
      refine ⟨o', by omega, ?_, h3⟩
      rw [show j - n = (j - (n + 1)) + 1 by omega]
      simpa using h2
    cases hd : o.dst with
    | none => rw [hd] at h; exact next h
    | some u =>
      rw [hd] at h
      simp only at h
      by_cases hj : j = n
      · subst hj
        refine ⟨o, Nat.le_refl _, by simp, ?_⟩
        rw [hd]
        rcases Fr.get_set_same (mkD (j + 1) os (Fr.full d)) j (.pv (.fn u)) with e | e
        · rw [e] at h; cases h; rfl
        · rw [e] at h; cases h
      · exact next (by rwa [Fr.get_set _ _ _ _ (Ne.symm hj)] at h)
def dstG (j : Nat) (D : Fr) : AV := D.get j
@[go_sem] theorem dstG_eq (j : Nat) (v : AV) (l r : Fr) : dstG j (.nd v l r) = Fr.get (.nd v l r) j := (rfl)
theorem dstAt_of (l : List Oper) (j t : Nat) (h : dstG j (mkD 0 l (Fr.full 7)) = .pv (.fn t)) : dstAt (Array.mk l) j = some t := by
  obtain ⟨o, _, h2, h3⟩ := mkD_ok 7 l 0 j t h
  unfold dstAt
  simp only [Nat.sub_zero] at h2
  simp [h2, h3]
def setG (D : Fr) (n : Nat) (x : AV) : Fr := D.set n x
@[go_sem] theorem setG_eq (v : AV) (l r : Fr) (n : Nat) (x : AV) : setG (.nd v l r) n x = Fr.set (.nd v l r) n x := (rfl)
@[go_sem ↓] theorem mkD_nil (n : Nat) (D : Fr) : mkD n [] D = D := (rfl)
@[go_sem ↓] theorem mkD_some (n t : Nat) (op : Op) (ty : Nat) (pos : String) (af : Array Edge) (g : Option (Nat × Bool)) (os : List Oper) (D : Fr) : mkD n (⟨some t, op, ty, pos, af, g⟩ :: os) D = setG (mkD (n + 1) os D) n (.pv (.fn t)) := (rfl)
@[go_sem ↓] theorem mkD_none (n : Nat) (op : Op) (ty : Nat) (pos : String) (af : Array Edge) (g : Option (Nat × Bool)) (os : List Oper) (D : Fr) : mkD n (⟨none, op, ty, pos, af, g⟩ :: os) D = mkD (n + 1) os D := (rfl)
def grdX (E : Env) (c : Oracle) (f : Nat) (bases : List Nat) (dr : Option Draw) (ops : Array Oper) (os : List Oper) (i rank : Nat) (fr : Fr) (H : Hp) (dst : Option Nat) (op : Op) (want : Bool) (k : St → Option R) (j : Nat) (x : AV) : Option R :=
  match x with
  | .pv (.fn t) => grdC E c f bases dr ops os i rank fr H dst op t want k (fr.get t)
  | _ => grdD E c f bases dr ops os i rank fr H dst op want k (dstAt ops j)
@[congr] theorem grdX_congr {bases : List Nat} {dr : Option Draw} {ops : Array Oper} {os : List Oper} {i rank : Nat} {fr : Fr} {H : Hp} {dst : Option Nat} {op : Op} {want : Bool} {k : St → Option R} {j : Nat} {v w : AV} (h : v = w) :
    grdX E c f bases dr ops os i rank fr H dst op want k j v = grdX E c f bases dr ops os i rank fr H dst op want k j w := by rw [h]
@[go_sem] theorem grdX_fn (bases : List Nat) (dr : Option Draw) (ops : Array Oper) (os : List Oper) (i rank : Nat) (fr : Fr) (H : Hp) (dst : Option Nat) (op : Op) (want : Bool) (k : St → Option R) (j t : Nat) :
    grdX E c f bases dr ops os i rank fr H dst op want k j (.pv (.fn t)) = grdC E c f bases dr ops os i rank fr H dst op t want k (fr.get t) := (rfl)
theorem grdX_eq (bases : List Nat) (dr : Option Draw) (l : List Oper) (os : List Oper) (i rank : Nat) (fr : Fr) (H : Hp) (dst : Option Nat) (op : Op) (want : Bool) (k : St → Option R) (j : Nat) :
    grdD E c f bases dr (Array.mk l) os i rank fr H dst op want k (dstAt (Array.mk l) j) = grdX E c f bases dr (Array.mk l) os i rank fr H dst op want k j (dstG j (mkD 0 l (Fr.full 7))) := by
  unfold grdX
  split
  · rename_i t h
    rw [dstAt_of l j t h]; rfl
  · rfl
@[go_sem ↓] theorem regK_grd0 (bases : List Nat) (l : List Oper) (dst : Option Nat) (op : Op) (ty : Nat) (pos : String) (af : Array Edge) (j : Nat) (want : Bool) (os : List Oper) (i rank : Nat) (fr : Fr) (H : Hp) (k : St → Option R) :
    regK E c f bases none (Array.mk l) (⟨dst, op, ty, pos, af, some (j, want)⟩ :: os) i rank ⟨fr, H⟩ k = grdX E c f bases none (Array.mk l) os 0 0 fr H dst op want k j (dstG j (mkD 0 l (Fr.full 7))) := by
  rw [regK_any bases _ k _ i rank 0 0, regK_grd, grdX_eq]
@[go_sem ↓] theorem regK_grdD (bases : List Nat) (D : Draw) (l : List Oper) (dst : Option Nat) (op : Op) (ty : Nat) (pos : String) (af : Array Edge) (j : Nat) (want : Bool) (os : List Oper) (i rank : Nat) (fr : Fr) (H : Hp) (k : St → Option R) :
    regK E c f bases (some D) (Array.mk l) (⟨dst, op, ty, pos, af, some (j, want)⟩ :: os) i rank ⟨fr, H⟩ k = grdX E c f bases (some D) (Array.mk l) os i rank fr H dst op want k j (dstG j (mkD 0 l (Fr.full 7))) := by
  rw [regK_grd, grdX_eq]
@[go_sem ↓] theorem regK_ac (bases : List Nat) (dr : Option Draw) (ops : Array Oper) (o : Oper) (a b : List Oper) (i rank : Nat) (st : St) (k : St → Option R) : regK E c f bases dr ops (List.append (o :: a) b) i rank st k = regK E c f bases dr ops (o :: List.append a b) i rank st k := (rfl)
@[go_sem ↓] theorem regK_an (bases : List Nat) (dr : Option Draw) (ops : Array Oper) (b : List Oper) (i rank : Nat) (st : St) (k : St → Option R) : regK E c f bases dr ops (List.append [] b) i rank st k = regK E c f bases dr ops b i rank st k := (rfl)
@[go_sem ↓] theorem regK_aa (bases : List Nat) (dr : Option Draw) (ops : Array Oper) (a b e : List Oper) (i rank : Nat) (st : St) (k : St → Option R) : regK E c f bases dr ops (List.append (List.append a b) e) i rank st k = regK E c f bases dr ops (List.append a (List.append b e)) i rank st k := by
  rw [show List.append (List.append a b) e = List.append a (List.append b e) from List.append_assoc a b e]
@[go_sem ↓] theorem mkD_ac (n : Nat) (o : Oper) (a b : List Oper) (D : Fr) : mkD n (List.append (o :: a) b) D = mkD n (o :: List.append a b) D := (rfl)
@[go_sem ↓] theorem mkD_an (n : Nat) (b : List Oper) (D : Fr) : mkD n (List.append [] b) D = mkD n b D := (rfl)
@[go_sem ↓] theorem mkD_aa (n : Nat) (a b e : List Oper) (D : Fr) : mkD n (List.append (List.append a b) e) D = mkD n (List.append a (List.append b e)) D := by
  rw [show List.append (List.append a b) e = List.append a (List.append b e) from List.append_assoc a b e]

/-- What is put is worked out first. -/
def stepC (E : Env) (c : Oracle) (f : Nat) (bases : List Nat) (dr : Option Draw) (ops : Array Oper) (os : List Oper) (i rank : Nat) (k : St → Option R) (H : Hp) (fr : Fr) : Option R := regK E c f bases dr ops os i rank ⟨fr, H⟩ k
@[congr] theorem stepC_congr {bases : List Nat} {dr : Option Draw} {ops : Array Oper} {os : List Oper} {i rank : Nat} {k : St → Option R} {H : Hp} {fr fr' : Fr} (h : fr = fr') : stepC E c f bases dr ops os i rank k H fr = stepC E c f bases dr ops os i rank k H fr' := by rw [h]
@[go_sem] theorem stepC_eq (bases : List Nat) (dr : Option Draw) (ops : Array Oper) (os : List Oper) (i rank : Nat) (k : St → Option R) (H : Hp) (v : AV) (l r : Fr) : stepC E c f bases dr ops os i rank k H (.nd v l r) = regK E c f bases dr ops os i rank ⟨.nd v l r, H⟩ k := (rfl)
@[go_sem ↓] theorem putC_some' (bases : List Nat) (dr : Option Draw) (ops : Array Oper) (os : List Oper) (i rank : Nat) (fr : Fr) (t : Nat) (k : St → Option R) (v : AV) (H : Hp) :
    putC E c f bases dr ops os i rank fr (some t) k (v, H) = stepC E c f bases dr ops os i rank k H (fr.set t v) := (rfl)
attribute [go_sem ↓] putC_none
/-- A guarded operation that is run. -/
def grunC (E : Env) (c : Oracle) (f : Nat) (bases : List Nat) (dr : Option Draw) (ops : Array Oper) (os : List Oper) (i rank : Nat) (H : Hp) (dst : Option Nat) (op : Op) (k : St → Option R) (fr : Fr) : Option R :=
  obind (opC E c f bases dr i rank dst op fr H) (putC E c f bases dr ops os (i + 1) (bcond (isNew op) (rank + 1) rank) fr dst k)
@[congr] theorem grunC_congr {bases : List Nat} {dr : Option Draw} {ops : Array Oper} {os : List Oper} {i rank : Nat} {k : St → Option R} {H : Hp} {dst : Option Nat} {op : Op} {fr fr' : Fr} (h : fr = fr') : grunC E c f bases dr ops os i rank H dst op k fr = grunC E c f bases dr ops os i rank H dst op k fr' := by rw [h]
@[go_sem] theorem grdC_tt0 (bases : List Nat) (ops : Array Oper) (os : List Oper) (fr : Fr) (H : Hp) (dst : Option Nat) (op : Op) (t : Nat) (k : St → Option R) :
    grdC E c f bases none ops os 0 0 fr H dst op t true k (.pv (.bool true)) = grunC E c f bases none ops os 0 0 H dst op k (fr.set t (.pv (.bool true))) := (rfl)
@[go_sem] theorem grdC_ff0 (bases : List Nat) (ops : Array Oper) (os : List Oper) (fr : Fr) (H : Hp) (dst : Option Nat) (op : Op) (t : Nat) (k : St → Option R) :
    grdC E c f bases none ops os 0 0 fr H dst op t false k (.pv (.bool false)) = grunC E c f bases none ops os 0 0 H dst op k (fr.set t (.pv (.bool false))) := (rfl)
@[go_sem] theorem grunC_eq0 (bases : List Nat) (ops : Array Oper) (os : List Oper) (H : Hp) (dst : Option Nat) (op : Op) (k : St → Option R) (v : AV) (l r : Fr) :
    grunC E c f bases none ops os 0 0 H dst op k (.nd v l r) = obind (opC E c f bases none 0 0 dst op (.nd v l r) H) (putC E c f bases none ops os 0 0 (.nd v l r) dst k) := by
  unfold grunC
  congr 1
  funext x
  exact regK_any _ _ _ _ _ _ _ _ _
@[go_sem] theorem grdC_ttD (bases : List Nat) (D : Draw) (ops : Array Oper) (os : List Oper) (i rank : Nat) (fr : Fr) (H : Hp) (dst : Option Nat) (op : Op) (t : Nat) (k : St → Option R) :
    grdC E c f bases (some D) ops os i rank fr H dst op t true k (.pv (.bool true)) = grunC E c f bases (some D) ops os i rank H dst op k (fr.set t (.pv (.bool true))) := (rfl)
@[go_sem] theorem grdC_ffD (bases : List Nat) (D : Draw) (ops : Array Oper) (os : List Oper) (i rank : Nat) (fr : Fr) (H : Hp) (dst : Option Nat) (op : Op) (t : Nat) (k : St → Option R) :
    grdC E c f bases (some D) ops os i rank fr H dst op t false k (.pv (.bool false)) = grunC E c f bases (some D) ops os i rank H dst op k (fr.set t (.pv (.bool false))) := (rfl)
@[go_sem] theorem grunC_eqD (bases : List Nat) (D : Draw) (ops : Array Oper) (os : List Oper) (i rank : Nat) (H : Hp) (dst : Option Nat) (op : Op) (k : St → Option R) (v : AV) (l r : Fr) :
    grunC E c f bases (some D) ops os i rank H dst op k (.nd v l r) = obind (opC E c f bases (some D) i rank dst op (.nd v l r) H) (putC E c f bases (some D) ops os (i + 1) (bcond (isNew op) (rank + 1) rank) (.nd v l r) dst k) := (rfl)

/-- A function's begin. -/
def startC (E : Env) (c : Oracle) (lp : LoopO R) (q : R → R → Bool) (f d : Nat) (fn : Func) (bases : List Nat) (H : Hp) (k : Ex → St → Option R) (fr : Fr) : Option R := match fn.body with
  | none => none
  | some code => execK E c lp q f d code bases 0 ⟨fr, H⟩ k
@[congr] theorem startC_congr {fn : Func} {bases : List Nat} {H : Hp} {k : Ex → St → Option R} {fr fr' : Fr} (h : fr = fr') : startC E c lp q f d fn bases H k fr = startC E c lp q f d fn bases H k fr' := by rw [h]
@[go_sem] theorem startC_eq (n o : String) (ta ps rt : Array Nat) (nf nt : Nat) (rs : Array ResultVar) (code : Code) (a b : Bool) (fi : String) (el : Nat) (ln : Option Nat) (met : List Departure) (tn : Array String) (bases : List Nat) (H : Hp) (k : Ex → St → Option R) (v : AV) (l r : Fr) :
    startC E c lp q f d ⟨n, o, ta, ps, rt, nf, nt, rs, some code, a, b, fi, el, ln, met, tn⟩ bases H k (.nd v l r) = execK E c lp q f d code bases 0 ⟨.nd v l r, H⟩ k := (rfl)

def finP (E : Env) (rs : List ResultVar) (ts : List Nat) : Ex → St → Option PV := fun e st => match e with
  | .nrm | .ret => obind (rvsO E st rs) fun vs => (frzsO E st.hp ts vs).map oneP
  | _ => none
def finQ (E : Env) (ts : List Nat) (H : Hp) (vs : List AV) : Option PV := (frzsO E H ts vs).map oneP
@[go_sem ↓] theorem finP_nrm (rs : List ResultVar) (ts : List Nat) (fr : Fr) (H : Hp) : finP E rs ts .nrm ⟨fr, H⟩ = obind (rvsO E ⟨fr, H⟩ rs) (finQ E ts H) := (rfl)
@[go_sem ↓] theorem finP_ret (rs : List ResultVar) (ts : List Nat) (fr : Fr) (H : Hp) : finP E rs ts .ret ⟨fr, H⟩ = obind (rvsO E ⟨fr, H⟩ rs) (finQ E ts H) := (rfl)
def consO (x : Option AV) (y : Option (List AV)) : Option (List AV) := match x, y with | some v, some vs => some (v :: vs) | _, _ => none
@[go_sem] theorem consO_some (v : AV) (vs : List AV) : consO (some v) (some vs) = some (v :: vs) := (rfl)
@[go_sem ↓] theorem rvsO_nil' (st : St) : rvsO E st [] = some [] := (rfl)
@[go_sem ↓] theorem rvsO_tmp' (fr : Fr) (H : Hp) (t : Nat) (rs : List ResultVar) : rvsO E ⟨fr, H⟩ (.tmp t :: rs) = consO (some (fr.get t)) (rvsO E ⟨fr, H⟩ rs) := by
  simp only [rvsO, rvO, consO]
  cases rvsO E ⟨fr, H⟩ rs <;> rfl
@[go_sem ↓] theorem rvsO_cell' (fr : Fr) (H : Hp) (a t : Nat) (rs : List ResultVar) : rvsO E ⟨fr, H⟩ (.cell a t :: rs) = consO (loadO E t H (fr.get a)) (rvsO E ⟨fr, H⟩ rs) := by
  simp only [rvsO, rvO, consO]
  cases loadO E t H (fr.get a) <;> cases rvsO E ⟨fr, H⟩ rs <;> rfl
def consP (x : Option PV) (y : Option (List PV)) : Option (List PV) := match x, y with | some v, some vs => some (v :: vs) | _, _ => none
@[go_sem] theorem consP_some (v : PV) (vs : List PV) : consP (some v) (some vs) = some (v :: vs) := (rfl)
def oneQ (x : Option (List PV)) : Option PV := x.map oneP
@[go_sem] theorem finQ_eq (ts : List Nat) (H : Hp) (vs : List AV) : finQ E ts H vs = oneQ (frzsO E H ts vs) := (rfl)
@[go_sem] theorem oneQ_one (v : PV) : oneQ (some [v]) = some v := (rfl)
@[go_sem] theorem oneQ_two (v w : PV) (vs : List PV) : oneQ (some (v :: w :: vs)) = some (.tup (v :: w :: vs)) := (rfl)
@[go_sem ↓] theorem frzsO_nil' (H : Hp) : frzsO E H [] [] = some [] := (rfl)
@[go_sem ↓] theorem frzsO_cons' (H : Hp) (t : Nat) (ts : List Nat) (v : AV) (vs : List AV) : frzsO E H (t :: ts) (v :: vs) = consP (frzO E H t v) (frzsO E H ts vs) := by
  simp only [frzsO, consP]
  cases frzO E H t v <;> cases frzsO E H ts vs <;> rfl
@[go_sem] theorem frzO_pv (H : Hp) (t : Nat) (x : PV) : frzO E H t (.pv x) = some x := by simp [frzO, toPVt, snap]
@[go_sem] theorem frzO_own (H : Hp) (t : Nat) (b k sz : Nat) (es : List PV) : frzO E H t (.own b k sz es) = some (.lst sz es) := by simp [frzO, toPVt, snap]

@[go_sem ↓] theorem evalO_tmp (fr : Fr) (t : Nat) : evalO E fr (.tmp t) = fr.get t := (rfl)
@[go_sem ↓] theorem evalO_int (fr : Fr) (k : IntKind) (n : Int) : evalO E fr (.const (.int k n)) = .pv (.int k n) := (rfl)
@[go_sem ↓] theorem evalO_bool (fr : Fr) (b : Bool) : evalO E fr (.const (.bool b)) = .pv (.bool b) := (rfl)
@[go_sem ↓] theorem evalO_str (fr : Fr) (s : ByteArray) : evalO E fr (.const (.string s)) = .pv (.str s.data.toList) := (rfl)
@[go_sem ↓] theorem evalO_nilp (fr : Fr) : evalO E fr (.const (.pointer none)) = .pv .nilp := (rfl)
@[go_sem ↓] theorem evalO_nils (fr : Fr) : evalO E fr (.const (.slice none 0 0)) = .ful 0 [] := (rfl)
@[go_sem ↓] theorem evalO_nilf (fr : Fr) : evalO E fr (.const .nilFunc) = .pv .nilf := (rfl)
@[go_sem ↓] theorem evalO_nili (fr : Fr) : evalO E fr (.const .nilIface) = .pv .nili := (rfl)
@[go_sem ↓] theorem evalO_nilm (fr : Fr) : evalO E fr (.const (.map none)) = .pv .nilm := (rfl)
@[go_sem ↓] theorem evalO_func (fr : Fr) (g : Nat) : evalO E fr (.func g) = .pv (.fn g) := (rfl)

@[go_sem] theorem pickO_t (a b : AV) : pickO (.pv (.bool true)) a b = some a := (rfl)
@[go_sem] theorem pickO_f (a b : AV) : pickO (.pv (.bool false)) a b = some b := (rfl)
@[go_sem] theorem isNilS_tmp (t : Nat) : isNilS (.tmp t) = false := (rfl)
@[go_sem] theorem isNilS_nil : isNilS (.const (.slice none 0 0)) = true := (rfl)
@[go_sem] theorem isNilS_int (k : IntKind) (n : Int) : isNilS (.const (.int k n)) = false := (rfl)
@[go_sem] theorem isNilS_bool (b : Bool) : isNilS (.const (.bool b)) = false := (rfl)
@[go_sem] theorem isNilS_str (s : ByteArray) : isNilS (.const (.string s)) = false := (rfl)
@[go_sem] theorem isNilS_nilp : isNilS (.const (.pointer none)) = false := (rfl)
@[go_sem] theorem isNilS_nilf : isNilS (.const .nilFunc) = false := (rfl)
@[go_sem] theorem isNilS_nili : isNilS (.const .nilIface) = false := (rfl)
@[go_sem] theorem isNilS_nilm : isNilS (.const (.map none)) = false := (rfl)
attribute [go_sem] Bool.false_and Bool.true_and Bool.and_true Bool.and_false Bool.true_or Bool.false_or Bool.or_true Bool.or_false Bool.not_true Bool.not_false

section
variable (ti : TI) (k : IntKind) (a b : Int)
@[go_sem] theorem bin_add : binO ti .add (.pv (.int k a)) (.pv (.int k b)) = some (.pv (.int k (k.wrap (a + b)))) := by simp [binO, isShift, intO]
@[go_sem] theorem bin_sub : binO ti .sub (.pv (.int k a)) (.pv (.int k b)) = some (.pv (.int k (k.wrap (a - b)))) := by simp [binO, isShift, intO]
@[go_sem] theorem bin_mul : binO ti .mul (.pv (.int k a)) (.pv (.int k b)) = some (.pv (.int k (k.wrap (a * b)))) := by simp [binO, isShift, intO]
theorem bin_quo (h : b ≠ 0) : binO ti .quo (.pv (.int k a)) (.pv (.int k b)) = some (.pv (.int k (k.wrap (a.tdiv b)))) := by simp [binO, isShift, intO, h]
theorem bin_rem (h : b ≠ 0) : binO ti .rem (.pv (.int k a)) (.pv (.int k b)) = some (.pv (.int k (a.tmod b))) := by simp [binO, isShift, intO, h]
@[go_sem] theorem bin_and : binO ti .and (.pv (.int k a)) (.pv (.int k b)) = some (.pv (.int k (k.wrap (BitVec.ofInt k.bits a &&& BitVec.ofInt k.bits b).toNat))) := by simp [binO, isShift, intO]
@[go_sem] theorem bin_or : binO ti .or (.pv (.int k a)) (.pv (.int k b)) = some (.pv (.int k (k.wrap (BitVec.ofInt k.bits a ||| BitVec.ofInt k.bits b).toNat))) := by simp [binO, isShift, intO]
@[go_sem] theorem bin_xor : binO ti .xor (.pv (.int k a)) (.pv (.int k b)) = some (.pv (.int k (k.wrap (BitVec.ofInt k.bits a ^^^ BitVec.ofInt k.bits b).toNat))) := by simp [binO, isShift, intO]
@[go_sem] theorem bin_eql : binO ti .eql (.pv (.int k a)) (.pv (.int k b)) = some (.pv (.bool (decide (a = b)))) := by
  simp [binO, isShift, intO]; rfl
@[go_sem] theorem bin_neq : binO ti .neq (.pv (.int k a)) (.pv (.int k b)) = some (.pv (.bool (decide (a ≠ b)))) := by
  simp [binO, isShift, intO, bne]; rfl
@[go_sem] theorem bin_lss : binO ti .lss (.pv (.int k a)) (.pv (.int k b)) = some (.pv (.bool (decide (a < b)))) := by simp [binO, isShift, intO]
@[go_sem] theorem bin_leq : binO ti .leq (.pv (.int k a)) (.pv (.int k b)) = some (.pv (.bool (decide (a ≤ b)))) := by simp [binO, isShift, intO]
@[go_sem] theorem bin_gtr : binO ti .gtr (.pv (.int k a)) (.pv (.int k b)) = some (.pv (.bool (decide (b < a)))) := by simp [binO, isShift, intO]
@[go_sem] theorem bin_geq : binO ti .geq (.pv (.int k a)) (.pv (.int k b)) = some (.pv (.bool (decide (b ≤ a)))) := by simp [binO, isShift, intO]
variable (s t : List UInt8)
theorem str_add (h : s.length + t.length ≤ 9223372036854775807) : binO ti .add (.pv (.str s)) (.pv (.str t)) = some (.pv (.str (s ++ t))) := by simp [binO, strO, h]
@[go_sem] theorem str_eql : binO ti .eql (.pv (.str s)) (.pv (.str t)) = some (.pv (.bool (decide (s = t)))) := by
  simp [binO, strO]; rw [Bool.eq_iff_iff]; simp
@[go_sem] theorem str_neq : binO ti .neq (.pv (.str s)) (.pv (.str t)) = some (.pv (.bool (decide (s ≠ t)))) := by
  simp [binO, strO]; rw [Bool.eq_iff_iff]; simp
variable (x y : Bool)
theorem bool_eql (h : ti.kd = .bool) : binO ti .eql (.pv (.bool x)) (.pv (.bool y)) = some (.pv (.bool (x == y))) := by simp [binO, eqO, h]
theorem bool_neq (h : ti.kd = .bool) : binO ti .neq (.pv (.bool x)) (.pv (.bool y)) = some (.pv (.bool (!(x == y)))) := by simp [binO, eqO, h]
@[go_sem] theorem un_not : unO .not (.pv (.bool x)) = some (.pv (.bool (!x))) := (rfl)
@[go_sem] theorem un_neg : unO .neg (.pv (.int k a)) = some (.pv (.int k (k.wrap (0 - a)))) := by simp [unO, intO]
end

@[go_sem] theorem oldOk_none (i : Nat) (a : AV) : oldOk none i a = true := (rfl)
@[go_sem] theorem freshOk_none (i : Nat) (a : AV) : freshOk none i a = true := (rfl)
@[go_sem] theorem newD_none (rank : Nat) (cs : List AV) (H : Hp) : newD none rank [] cs H = some (.ptr H.length 0, H ++ [.cells cs]) := (rfl)
@[go_sem] theorem extr_pv0 (x : PV) (xs : List PV) : extrO (.pv (.tup (x :: xs))) 0 = some (.pv x) := (rfl)
@[go_sem] theorem extr_pv1 (x y : PV) (xs : List PV) : extrO (.pv (.tup (x :: y :: xs))) 1 = some (.pv y) := (rfl)
@[go_sem] theorem extr_pv2 (x y z : PV) (xs : List PV) : extrO (.pv (.tup (x :: y :: z :: xs))) 2 = some (.pv z) := (rfl)
@[go_sem] theorem extr_pv3 (x y z u : PV) (xs : List PV) : extrO (.pv (.tup (x :: y :: z :: u :: xs))) 3 = some (.pv u) := (rfl)
@[go_sem] theorem mapNil' {α β : Type} (g : α → β) : List.map g [] = [] := (rfl)
@[go_sem] theorem mapCons' {α β : Type} (g : α → β) (a : α) (l : List α) : List.map g (a :: l) = g a :: List.map g l := (rfl)

/-- A call on pure data. -/
def retP (b : Bool) (H : Hp) (r : PV) : Option (AV × Hp) := bcond (!b || r.flat) (some (.pv r, H)) none
@[go_sem] theorem retP_false (H : Hp) (r : PV) : retP false H r = some (.pv r, H) := (rfl)
def pureC (c : Oracle) (g : Nat) (H : Hp) (ps : List PV × Bool) : Option (AV × Hp) := obind (c.pure g ps.1) (retP ps.2 H)
@[go_sem] theorem pureC_eq (g : Nat) (H : Hp) (ps : List PV) (b : Bool) : pureC c g H (ps, b) = obind (c.pure g ps) (retP b H) := (rfl)
@[go_sem ↓] theorem calleeO_fn (bases : List Nat) (f g : Nat) (as : List AV) (H : Hp) : calleeO E c bases f (.pv (.fn g)) as H = callO E c bases f g as H := (rfl)
theorem callO_pure {bases : List Nat} {f g : Nat} {as : List AV} {H : Hp} {fn : Func} {ts : List Nat} (h1 : E.ext g = none) (h2 : E.redir f g = g) (h3 : E.cls g = .pure) (h4 : E.fn g = some fn) (h5 : fn.params.toList = ts) :
    callO E c bases f g as H = obind (argsO E H ts as) (pureC c g H) := by
  unfold callO
  rw [h1, h2, h3, h4, ← h5]; rfl
theorem callO_shut {bases : List Nat} {f g : Nat} {as : List AV} {H : Hp} (h1 : E.ext g = none) (h2 : E.redir f g = g) (h3 : E.cls g ≠ .pure) :
    callO E c bases f g as H = c.shut bases g as H := by
  unfold callO
  rw [h1, h2]
  cases h : E.cls g <;> simp_all
def consA (x : Option (PV × Bool)) (y : Option (List PV × Bool)) : Option (List PV × Bool) := match x, y with | some p, some ps => some (p.1 :: ps.1, p.2 || ps.2) | _, _ => none
@[go_sem] theorem consA_some (p : PV) (ps : List PV) (a b : Bool) : consA (some (p, a)) (some (ps, b)) = some (p :: ps, a || b) := (rfl)
@[go_sem ↓] theorem argsO_nil' (H : Hp) : argsO E H [] [] = some ([], false) := (rfl)
@[go_sem ↓] theorem argsO_cons' (H : Hp) (t : Nat) (ts : List Nat) (v : AV) (vs : List AV) : argsO E H (t :: ts) (v :: vs) = consA (toPVt E H t v) (argsO E H ts vs) := by
  simp only [argsO, consA]
  cases toPVt E H t v <;> cases argsO E H ts vs <;> rfl
@[go_sem] theorem toPVt_pv (H : Hp) (t : Nat) (x : PV) : toPVt E H t (.pv x) = some (x, false) := by simp [toPVt, snap]
@[go_sem] theorem toPVt_own (H : Hp) (t : Nat) (b k sz : Nat) (es : List PV) : toPVt E H t (.own b k sz es) = some (.lst sz es, false) := by simp [toPVt, snap]
end

section
variable {R : Type} {E : Env} {c : Oracle} {lp : LoopO R} {q : R → R → Bool} {f d : Nat}
theorem grdC_split {bases : List Nat} {dr : Option Draw} {ops : Array Oper} {os : List Oper} {i rank : Nat} {fr : Fr} {H : Hp} {dst : Option Nat} {op : Op} {t : Nat} {want : Bool} {k : St → Option R} {b : Bool} {z : Option R}
    (h1 : b = true → grdC E c f bases dr ops os i rank fr H dst op t want k (.pv (.bool true)) = z) (h2 : b = false → grdC E c f bases dr ops os i rank fr H dst op t want k (.pv (.bool false)) = z) :
    grdC E c f bases dr ops os i rank fr H dst op t want k (.pv (.bool b)) = z := by
  cases b
  · exact h2 rfl
  · exact h1 rfl
theorem condC_split {x y : Code} {bases : List Nat} {cur : Nat} {st : St} {k : Ex → St → Option R} {b : Bool} {z : Option R}
    (h1 : b = true → condC E c lp q f d x y bases cur st k (.pv (.bool true)) = z) (h2 : b = false → condC E c lp q f d x y bases cur st k (.pv (.bool false)) = z) :
    condC E c lp q f d x y bases cur st k (.pv (.bool b)) = z := by
  cases b
  · exact h2 rfl
  · exact h1 rfl
end

end Go.Pu
