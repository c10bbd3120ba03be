/-
  The evaluator answers true for the law.
-/
import Derived.Test.YtlnomjfdidfhaaaGreatDoorPuEnv
import Derived.KernelRfl
namespace Go.Proofs.YtlnomjfdidfhaaaGreatDoor
open Go.Pu
set_option maxRecDepth 100000
theorem answer : (callN E 2000).pure 3 [] = some (.bool true) := by kernel_rfl
end Go.Proofs.YtlnomjfdidfhaaaGreatDoor
