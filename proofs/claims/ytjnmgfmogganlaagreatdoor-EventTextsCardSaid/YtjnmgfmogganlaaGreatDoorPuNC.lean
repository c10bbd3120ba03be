/-
  Contracts: numbers as they are written (part c).
-/
import Derived.Test.YtjnmgfmogganlaaGreatDoorPuNZ
set_option linter.unusedSimpArgs false
set_option linter.unusedVariables false
namespace Go.Proofs.YtjnmgfmogganlaaGreatDoor
open Go.Pu
set_option maxRecDepth 100000
attribute [local irreducible] grdC condC bcond obind nextC loopG loopC loopD grdX grdD grunC stepC putC regK execK startC enterL stayC againC backC opC retH retU bodyL finP finS finW loopN seqC blockC nrmC
theorem itoa_18 : itoaP 18 = true := by kernel_rfl
theorem itoa_19 : itoaP 19 = true := by kernel_rfl
theorem itoa_20 : itoaP 20 = true := by kernel_rfl
theorem itoa_21 : itoaP 21 = true := by kernel_rfl
theorem itoa_22 : itoaP 22 = true := by kernel_rfl
theorem itoa_23 : itoaP 23 = true := by kernel_rfl
theorem itoa_24 : itoaP 24 = true := by kernel_rfl
theorem itoa_25 : itoaP 25 = true := by kernel_rfl
theorem itoa_26 : itoaP 26 = true := by kernel_rfl
end Go.Proofs.YtjnmgfmogganlaaGreatDoor
