/-
  The evaluator answers true for the law.
-/
import Derived.Test.YtbiknaifghpccaaGreatDoorPuEnv
import Derived.KernelRfl
namespace Go.Proofs.YtbiknaifghpccaaGreatDoor
open Go.Pu
set_option maxRecDepth 100000
theorem answer : (callN E 2000).pure 3 [] = some (.bool true) := by kernel_rfl
end Go.Proofs.YtbiknaifghpccaaGreatDoor
