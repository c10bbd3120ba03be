/-
  Contracts: numbers as they are written (together).
-/
import Derived.Test.YtjnmgfmogganlaaGreatDoorPuSD
import Derived.Test.YtjnmgfmogganlaaGreatDoorPuNA
import Derived.Test.YtjnmgfmogganlaaGreatDoorPuNB
import Derived.Test.YtjnmgfmogganlaaGreatDoorPuNC
import Derived.Test.YtjnmgfmogganlaaGreatDoorPuND
import Derived.Test.YtjnmgfmogganlaaGreatDoorPuNE
set_option linter.unusedSimpArgs false
set_option linter.unusedVariables false
namespace Go.Proofs.YtjnmgfmogganlaaGreatDoor
open Go.Pu
set_option maxRecDepth 100000
attribute [local irreducible] grdC condC bcond obind nextC loopG loopC loopD grdX grdD grunC stepC putC regK execK startC enterL stayC againC backC opC retH retU bodyL finP finS finW loopN seqC blockC nrmC
theorem itoa_all : ∀ m : Nat, m < 41 → itoaP m = true
  | 0, _ => itoa_0
  | 1, _ => itoa_1
  | 2, _ => itoa_2
  | 3, _ => itoa_3
  | 4, _ => itoa_4
  | 5, _ => itoa_5
  | 6, _ => itoa_6
  | 7, _ => itoa_7
  | 8, _ => itoa_8
  | 9, _ => itoa_9
  | 10, _ => itoa_10
  | 11, _ => itoa_11
  | 12, _ => itoa_12
  | 13, _ => itoa_13
  | 14, _ => itoa_14
  | 15, _ => itoa_15
  | 16, _ => itoa_16
  | 17, _ => itoa_17
  | 18, _ => itoa_18
  | 19, _ => itoa_19
  | 20, _ => itoa_20
  | 21, _ => itoa_21
  | 22, _ => itoa_22
  | 23, _ => itoa_23
  | 24, _ => itoa_24
  | 25, _ => itoa_25
  | 26, _ => itoa_26
  | 27, _ => itoa_27
  | 28, _ => itoa_28
  | 29, _ => itoa_29
  | 30, _ => itoa_30
  | 31, _ => itoa_31
  | 32, _ => itoa_32
  | 33, _ => itoa_33
  | 34, _ => itoa_34
  | 35, _ => itoa_35
  | 36, _ => itoa_36
  | 37, _ => itoa_37
  | 38, _ => itoa_38
  | 39, _ => itoa_39
  | 40, _ => itoa_40
  | n + 41, h => absurd h (by omega)
theorem itoa_ok (n : Int) (h : -1 ≤ n) (h' : n ≤ 2000) : (lim0 E).pure 31 [.int .i64 n] = some (.str (decI n)) := by
  have := List.all_eq_true.1 (itoa_all ((n + 1).toNat / 50) (by omega)) ((n + 1).toNat % 50) (by simp; omega)
  have e : ((50 * ((n + 1).toNat / 50) + (n + 1).toNat % 50 : Nat) : Int) - 1 = n := by omega
  rw [e] at this
  exact (callN_le 30).pure _ _ _ (isS_ok this)
end Go.Proofs.YtjnmgfmogganlaaGreatDoor
