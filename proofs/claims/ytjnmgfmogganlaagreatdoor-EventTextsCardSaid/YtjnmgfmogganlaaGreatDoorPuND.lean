/-
  Contracts: numbers as they are written (part d).
-/
import Derived.Test.YtjnmgfmogganlaaGreatDoorPuNZ
set_option linter.unusedSimpArgs false
set_option linter.unusedVariables false
namespace Go.Proofs.YtjnmgfmogganlaaGreatDoor
open Go.Pu
set_option maxRecDepth 100000
attribute [local irreducible] grdC condC bcond obind nextC loopG loopC loopD grdX grdD grunC stepC putC regK execK startC enterL stayC againC backC opC retH retU bodyL finP finS finW loopN seqC blockC nrmC
theorem itoa_27 : itoaP 27 = true := by kernel_rfl
theorem itoa_28 : itoaP 28 = true := by kernel_rfl
theorem itoa_29 : itoaP 29 = true := by kernel_rfl
theorem itoa_30 : itoaP 30 = true := by kernel_rfl
theorem itoa_31 : itoaP 31 = true := by kernel_rfl
theorem itoa_32 : itoaP 32 = true := by kernel_rfl
theorem itoa_33 : itoaP 33 = true := by kernel_rfl
theorem itoa_34 : itoaP 34 = true := by kernel_rfl
theorem itoa_35 : itoaP 35 = true := by kernel_rfl
end Go.Proofs.YtjnmgfmogganlaaGreatDoor
