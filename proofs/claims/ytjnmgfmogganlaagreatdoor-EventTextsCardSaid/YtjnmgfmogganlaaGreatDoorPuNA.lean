/-
  Contracts: numbers as they are written (part a).
-/
import Derived.Test.YtjnmgfmogganlaaGreatDoorPuNZ
set_option linter.unusedSimpArgs false
set_option linter.unusedVariables false
namespace Go.Proofs.YtjnmgfmogganlaaGreatDoor
open Go.Pu
set_option maxRecDepth 100000
attribute [local irreducible] grdC condC bcond obind nextC loopG loopC loopD grdX grdD grunC stepC putC regK execK startC enterL stayC againC backC opC retH retU bodyL finP finS finW loopN seqC blockC nrmC
theorem itoa_0 : itoaP 0 = true := by kernel_rfl
theorem itoa_1 : itoaP 1 = true := by kernel_rfl
theorem itoa_2 : itoaP 2 = true := by kernel_rfl
theorem itoa_3 : itoaP 3 = true := by kernel_rfl
theorem itoa_4 : itoaP 4 = true := by kernel_rfl
theorem itoa_5 : itoaP 5 = true := by kernel_rfl
theorem itoa_6 : itoaP 6 = true := by kernel_rfl
theorem itoa_7 : itoaP 7 = true := by kernel_rfl
theorem itoa_8 : itoaP 8 = true := by kernel_rfl
end Go.Proofs.YtjnmgfmogganlaaGreatDoor
