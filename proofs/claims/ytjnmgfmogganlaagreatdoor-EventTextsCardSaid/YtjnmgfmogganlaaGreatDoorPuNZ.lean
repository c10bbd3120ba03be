/-
  Contracts: numbers as they are written (what is asked).
-/
import Derived.Test.YtjnmgfmogganlaaGreatDoorPuT2
import Derived.Test.YtjnmgfmogganlaaGreatDoorPuL1
set_option linter.unusedSimpArgs false
set_option linter.unusedVariables false
namespace Go.Proofs.YtjnmgfmogganlaaGreatDoor
open Go.Pu
set_option maxRecDepth 100000
attribute [local irreducible] grdC condC bcond obind nextC loopG loopC loopD grdX grdD grunC stepC putC regK execK startC enterL stayC againC backC opC retH retU bodyL finP finS finW loopN seqC blockC nrmC

def isS (x : Option PV) (s : List UInt8) : Bool := match x with | some (.str t) => t == s | _ => false
theorem isS_ok {x : Option PV} {s : List UInt8} (h : isS x s = true) : x = some (.str s) := by
  unfold isS at h
  split at h
  · rw [eq_of_beq h]
  · cases h
noncomputable def itoaP (m : Nat) : Bool := (List.range 50).all (fun k => isS ((callN E 30).pure 31 [.int .i64 (((50 * m + k : Nat) : Int) - 1)]) (decI (((50 * m + k : Nat) : Int) - 1)))
end Go.Proofs.YtjnmgfmogganlaaGreatDoor
