/-
  Contracts: numbers as they are written (part b).
-/
import Derived.Test.YtjnmgfmogganlaaGreatDoorPuNZ
set_option linter.unusedSimpArgs false
set_option linter.unusedVariables false
namespace Go.Proofs.YtjnmgfmogganlaaGreatDoor
open Go.Pu
set_option maxRecDepth 100000
attribute [local irreducible] grdC condC bcond obind nextC loopG loopC loopD grdX grdD grunC stepC putC regK execK startC enterL stayC againC backC opC retH retU bodyL finP finS finW loopN seqC blockC nrmC
theorem itoa_9 : itoaP 9 = true := by kernel_rfl
theorem itoa_10 : itoaP 10 = true := by kernel_rfl
theorem itoa_11 : itoaP 11 = true := by kernel_rfl
theorem itoa_12 : itoaP 12 = true := by kernel_rfl
theorem itoa_13 : itoaP 13 = true := by kernel_rfl
theorem itoa_14 : itoaP 14 = true := by kernel_rfl
theorem itoa_15 : itoaP 15 = true := by kernel_rfl
theorem itoa_16 : itoaP 16 = true := by kernel_rfl
theorem itoa_17 : itoaP 17 = true := by kernel_rfl
end Go.Proofs.YtjnmgfmogganlaaGreatDoor
