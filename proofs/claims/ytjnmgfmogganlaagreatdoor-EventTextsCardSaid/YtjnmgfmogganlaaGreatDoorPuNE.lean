/-
  Contracts: numbers as they are written (part e).
-/
import Derived.Test.YtjnmgfmogganlaaGreatDoorPuNZ
set_option linter.unusedSimpArgs false
set_option linter.unusedVariables false
namespace Go.Proofs.YtjnmgfmogganlaaGreatDoor
open Go.Pu
set_option maxRecDepth 100000
attribute [local irreducible] grdC condC bcond obind nextC loopG loopC loopD grdX grdD grunC stepC putC regK execK startC enterL stayC againC backC opC retH retU bodyL finP finS finW loopN seqC blockC nrmC
theorem itoa_36 : itoaP 36 = true := by kernel_rfl
theorem itoa_37 : itoaP 37 = true := by kernel_rfl
theorem itoa_38 : itoaP 38 = true := by kernel_rfl
theorem itoa_39 : itoaP 39 = true := by kernel_rfl
theorem itoa_40 : itoaP 40 = true := by kernel_rfl
end Go.Proofs.YtjnmgfmogganlaaGreatDoor
