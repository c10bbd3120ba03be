/-
  Contracts: small functions.
-/
import Derived.Test.YtjnmgfmogganlaaGreatDoorPuT2
set_option linter.unusedSimpArgs false
set_option linter.unusedVariables false
namespace Go.Proofs.YtjnmgfmogganlaaGreatDoor
open Go.Pu
set_option maxRecDepth 100000
attribute [local irreducible] grdC condC bcond obind nextC loopG loopC loopD grdX grdD grunC stepC putC regK execK startC enterL stayC againC backC opC retH retU bodyL finP finS finW loopN seqC blockC nrmC

@[go_sem] theorem within_ok (n lo hi : Int) : (lim0 E).pure 18 [.int .i64 n, .int .i64 lo, .int .i64 hi] = some (.bool (decide (lo ≤ n ∧ n ≤ hi))) := by
  refine pure_of (0) ?_; rw [go_18]; unfold Tryz.f18; simp only [go_sem, Nat.reduceAdd, Nat.reduceMul, Nat.reduceSub, Nat.reduceEqDiff, Nat.reduceLeDiff, Nat.reduceLT, Int.reduceAdd, Int.reduceSub, Int.reduceMul, Int.reduceNeg, Int.reduceLT, Int.reduceLE, Int.reduceEq, Int.reduceNe, Int.reduceToNat, UInt8.reduceToNat, reduceCtorEq, and_true, true_and, decide_true, decide_false]
  repeat' (first | (refine grdC_split (fun h => ?_) (fun h => ?_) <;> try simp only [go_sem, Nat.reduceAdd, Nat.reduceMul, Nat.reduceSub, Nat.reduceEqDiff, Nat.reduceLeDiff, Nat.reduceLT, Int.reduceAdd, Int.reduceSub, Int.reduceMul, Int.reduceNeg, Int.reduceLT, Int.reduceLE, Int.reduceEq, Int.reduceNe, Int.reduceToNat, UInt8.reduceToNat, reduceCtorEq, and_true, true_and, decide_true, decide_false]) | (refine condC_split (fun h => ?_) (fun h => ?_) <;> try simp only [go_sem, Nat.reduceAdd, Nat.reduceMul, Nat.reduceSub, Nat.reduceEqDiff, Nat.reduceLeDiff, Nat.reduceLT, Int.reduceAdd, Int.reduceSub, Int.reduceMul, Int.reduceNeg, Int.reduceLT, Int.reduceLE, Int.reduceEq, Int.reduceNe, Int.reduceToNat, UInt8.reduceToNat, reduceCtorEq, and_true, true_and, decide_true, decide_false]) | (refine bcond_eq (fun h => ?_) (fun h => ?_) <;> try simp only [go_sem, Nat.reduceAdd, Nat.reduceMul, Nat.reduceSub, Nat.reduceEqDiff, Nat.reduceLeDiff, Nat.reduceLT, Int.reduceAdd, Int.reduceSub, Int.reduceMul, Int.reduceNeg, Int.reduceLT, Int.reduceLE, Int.reduceEq, Int.reduceNe, Int.reduceToNat, UInt8.reduceToNat, reduceCtorEq, and_true, true_and, decide_true, decide_false]))
  · simp_all
  · simp_all
    omega
def labelsM : PV := .map [.int .i64 1, .int .i64 2, .int .i64 3, .int .i64 4] [.agg [.str [109, 113, 116, 116, 51]], .agg [.str [109, 113, 116, 116, 53]], .agg [.str [115, 110]], .agg [.str [97, 109, 113, 112]]]
@[go_sem] theorem labels_ok : (lim0 E).pure 30 [] = some labelsM := (callN_le 10).pure _ _ _ (by kernel_rfl)
@[go_sem] theorem known_ok (n : Int) : (lim0 E).pure 14 [.int .i64 n] = some (.bool (decide (1 ≤ n ∧ n ≤ 4))) := by
  refine pure_of (0) ?_; rw [go_14]; unfold Tryz.f14; simp only [go_sem, Nat.reduceAdd, Nat.reduceMul, Nat.reduceSub, Nat.reduceEqDiff, Nat.reduceLeDiff, Nat.reduceLT, Int.reduceAdd, Int.reduceSub, Int.reduceMul, Int.reduceNeg, Int.reduceLT, Int.reduceLE, Int.reduceEq, Int.reduceNe, Int.reduceToNat, UInt8.reduceToNat, reduceCtorEq, and_true, true_and, decide_true, decide_false, labelsM]
  repeat' (first | (refine grdC_split (fun h => ?_) (fun h => ?_) <;> try simp only [go_sem, Nat.reduceAdd, Nat.reduceMul, Nat.reduceSub, Nat.reduceEqDiff, Nat.reduceLeDiff, Nat.reduceLT, Int.reduceAdd, Int.reduceSub, Int.reduceMul, Int.reduceNeg, Int.reduceLT, Int.reduceLE, Int.reduceEq, Int.reduceNe, Int.reduceToNat, UInt8.reduceToNat, reduceCtorEq, and_true, true_and, decide_true, decide_false, labelsM]) | (refine condC_split (fun h => ?_) (fun h => ?_) <;> try simp only [go_sem, Nat.reduceAdd, Nat.reduceMul, Nat.reduceSub, Nat.reduceEqDiff, Nat.reduceLeDiff, Nat.reduceLT, Int.reduceAdd, Int.reduceSub, Int.reduceMul, Int.reduceNeg, Int.reduceLT, Int.reduceLE, Int.reduceEq, Int.reduceNe, Int.reduceToNat, UInt8.reduceToNat, reduceCtorEq, and_true, true_and, decide_true, decide_false, labelsM]) | (refine bcond_eq (fun h => ?_) (fun h => ?_) <;> try simp only [go_sem, Nat.reduceAdd, Nat.reduceMul, Nat.reduceSub, Nat.reduceEqDiff, Nat.reduceLeDiff, Nat.reduceLT, Int.reduceAdd, Int.reduceSub, Int.reduceMul, Int.reduceNeg, Int.reduceLT, Int.reduceLE, Int.reduceEq, Int.reduceNe, Int.reduceToNat, UInt8.reduceToNat, reduceCtorEq, and_true, true_and, decide_true, decide_false, labelsM]))
  all_goals (simp at *; try omega)
@[go_sem] theorem lightMsg_ok (m : GMsg) : (lim0 E).pure 32 [m.pv] = some (.bool (decide (m.name.length ≤ 70000 ∧ m.data.length ≤ 70000))) := by
  refine pure_of (0) ?_; rw [go_32]; unfold Tryz.f32; simp only [go_sem, Nat.reduceAdd, Nat.reduceMul, Nat.reduceSub, Nat.reduceEqDiff, Nat.reduceLeDiff, Nat.reduceLT, Int.reduceAdd, Int.reduceSub, Int.reduceMul, Int.reduceNeg, Int.reduceLT, Int.reduceLE, Int.reduceEq, Int.reduceNe, Int.reduceToNat, UInt8.reduceToNat, reduceCtorEq, and_true, true_and, decide_true, decide_false]
  repeat' (first | (refine grdC_split (fun h => ?_) (fun h => ?_) <;> try simp only [go_sem, Nat.reduceAdd, Nat.reduceMul, Nat.reduceSub, Nat.reduceEqDiff, Nat.reduceLeDiff, Nat.reduceLT, Int.reduceAdd, Int.reduceSub, Int.reduceMul, Int.reduceNeg, Int.reduceLT, Int.reduceLE, Int.reduceEq, Int.reduceNe, Int.reduceToNat, UInt8.reduceToNat, reduceCtorEq, and_true, true_and, decide_true, decide_false]) | (refine condC_split (fun h => ?_) (fun h => ?_) <;> try simp only [go_sem, Nat.reduceAdd, Nat.reduceMul, Nat.reduceSub, Nat.reduceEqDiff, Nat.reduceLeDiff, Nat.reduceLT, Int.reduceAdd, Int.reduceSub, Int.reduceMul, Int.reduceNeg, Int.reduceLT, Int.reduceLE, Int.reduceEq, Int.reduceNe, Int.reduceToNat, UInt8.reduceToNat, reduceCtorEq, and_true, true_and, decide_true, decide_false]) | (refine bcond_eq (fun h => ?_) (fun h => ?_) <;> try simp only [go_sem, Nat.reduceAdd, Nat.reduceMul, Nat.reduceSub, Nat.reduceEqDiff, Nat.reduceLeDiff, Nat.reduceLT, Int.reduceAdd, Int.reduceSub, Int.reduceMul, Int.reduceNeg, Int.reduceLT, Int.reduceLE, Int.reduceEq, Int.reduceNe, Int.reduceToNat, UInt8.reduceToNat, reduceCtorEq, and_true, true_and, decide_true, decide_false]))
  all_goals (refine sb ?_; simp at *; try omega)
def smallProp (p : GProp) : Bool := decide (p.text.length ≤ 300) && decide (p.value.length ≤ 300)
theorem smallProps_ok (l : List GProp) (hl : l.length ≤ 9223372036854775807) : (lim0 E).pure 9 [.lst 4 (l.map GProp.pv)] = some (.bool (l.all smallProp && decide (l.length ≤ 30))) := by
  refine pure_of (l.length + 1) ?_; rw [go_9]; unfold Tryz.f9; simp only [go_sem, Nat.reduceAdd, Nat.reduceMul, Nat.reduceSub, Nat.reduceEqDiff, Nat.reduceLeDiff, Nat.reduceLT, Int.reduceAdd, Int.reduceSub, Int.reduceMul, Int.reduceNeg, Int.reduceLT, Int.reduceLE, Int.reduceEq, Int.reduceNe, Int.reduceToNat, UInt8.reduceToNat, reduceCtorEq, and_true, true_and, decide_true, decide_false]
  refine loop_ind (fun j vs H => ∃ i : Nat, j = l.length - i ∧ i ≤ l.length ∧ H = [] ∧ vs = [.pv (.lst 4 (l.map GProp.pv)), .pv (.int .i64 i)] ∧ l.all smallProp = (l.drop i).all smallProp) l.length ⟨0, by simp, by simp, rfl, rfl, by simp⟩ (by omega) ?_
  rintro j vs H m' ⟨i, hj, hi, rfl, rfl, hall⟩ ih
  simp only [go_sem, Nat.reduceAdd, Nat.reduceMul, Nat.reduceSub, Nat.reduceEqDiff, Nat.reduceLeDiff, Nat.reduceLT, Int.reduceAdd, Int.reduceSub, Int.reduceMul, Int.reduceNeg, Int.reduceLT, Int.reduceLE, Int.reduceEq, Int.reduceNe, Int.reduceToNat, UInt8.reduceToNat, reduceCtorEq, and_true, true_and, decide_true, decide_false]
  refine condC_split (fun h => ?_) (fun h => ?_)
  · have hi' : i < l.length := by simp at h; omega
    have hd : (l.drop i).all smallProp = (smallProp l[i] && (l.drop (i + 1)).all smallProp) := by rw [List.drop_eq_getElem_cons hi', List.all_cons]
    simp only [go_sem, Nat.reduceAdd, Nat.reduceMul, Nat.reduceSub, Nat.reduceEqDiff, Nat.reduceLeDiff, Nat.reduceLT, Int.reduceAdd, Int.reduceSub, Int.reduceMul, Int.reduceNeg, Int.reduceLT, Int.reduceLE, Int.reduceEq, Int.reduceNe, Int.reduceToNat, UInt8.reduceToNat, reduceCtorEq, and_true, true_and, decide_true, decide_false, hi']
    repeat' (first | (refine grdC_split (fun h => ?_) (fun h => ?_) <;> try simp only [go_sem, Nat.reduceAdd, Nat.reduceMul, Nat.reduceSub, Nat.reduceEqDiff, Nat.reduceLeDiff, Nat.reduceLT, Int.reduceAdd, Int.reduceSub, Int.reduceMul, Int.reduceNeg, Int.reduceLT, Int.reduceLE, Int.reduceEq, Int.reduceNe, Int.reduceToNat, UInt8.reduceToNat, reduceCtorEq, and_true, true_and, decide_true, decide_false, hi']) | (refine condC_split (fun h => ?_) (fun h => ?_) <;> try simp only [go_sem, Nat.reduceAdd, Nat.reduceMul, Nat.reduceSub, Nat.reduceEqDiff, Nat.reduceLeDiff, Nat.reduceLT, Int.reduceAdd, Int.reduceSub, Int.reduceMul, Int.reduceNeg, Int.reduceLT, Int.reduceLE, Int.reduceEq, Int.reduceNe, Int.reduceToNat, UInt8.reduceToNat, reduceCtorEq, and_true, true_and, decide_true, decide_false, hi']) | (refine bcond_eq (fun h => ?_) (fun h => ?_) <;> try simp only [go_sem, Nat.reduceAdd, Nat.reduceMul, Nat.reduceSub, Nat.reduceEqDiff, Nat.reduceLeDiff, Nat.reduceLT, Int.reduceAdd, Int.reduceSub, Int.reduceMul, Int.reduceNeg, Int.reduceLT, Int.reduceLE, Int.reduceEq, Int.reduceNe, Int.reduceToNat, UInt8.reduceToNat, reduceCtorEq, and_true, true_and, decide_true, decide_false, hi']))
    · refine sb ?_
      rw [hall, hd]; simp [smallProp] at *; omega
    · refine sb ?_
      rw [hall, hd]; simp [smallProp] at *; omega
    · rw [w_succ i (by omega)]
      refine ih _ _ _ (by omega) ⟨i + 1, rfl, by omega, rfl, rfl, ?_⟩
      rw [hall, hd]; simp [smallProp] at *; omega
  · have hi' : i = l.length := by simp at h; omega
    subst hi'
    simp only [go_sem, Nat.reduceAdd, Nat.reduceMul, Nat.reduceSub, Nat.reduceEqDiff, Nat.reduceLeDiff, Nat.reduceLT, Int.reduceAdd, Int.reduceSub, Int.reduceMul, Int.reduceNeg, Int.reduceLT, Int.reduceLE, Int.reduceEq, Int.reduceNe, Int.reduceToNat, UInt8.reduceToNat, reduceCtorEq, and_true, true_and, decide_true, decide_false]
    refine sb ?_
    rw [hall]
    simp
    omega
end Go.Proofs.YtjnmgfmogganlaaGreatDoor

/-
  Contracts: what is gone through.
-/
namespace Go.Proofs.YtjnmgfmogganlaaGreatDoor
open Go.Pu
set_option maxRecDepth 100000
attribute [local irreducible] grdC condC bcond obind nextC loopG loopC loopD grdX grdD grunC stepC putC regK execK startC enterL stayC againC backC opC retH retU bodyL finP finS finW loopN seqC blockC nrmC

attribute [go_sem] smallProps_ok
def shortFilter (f : GFilter) : Bool := decide (f.topic.length ≤ 2000)
def smallPacket (p : GPacket) : Bool := (p.filters.take 31).all shortFilter && decide (p.topic.length ≤ 2000 ∧ p.payload.length ≤ 2000 ∧ p.client.length ≤ 2000 ∧ p.user.length ≤ 2000 ∧ p.pass.length ≤ 2000 ∧ p.will.topic.length ≤ 2000 ∧ p.will.payload.length ≤ 2000 ∧ p.codes.length ≤ 30 ∧ p.filters.length ≤ 30) && (p.props.all smallProp && decide (p.props.length ≤ 30)) && (p.will.props.all smallProp && decide (p.will.props.length ≤ 30))
set_option maxHeartbeats 4000000 in
theorem smallPacket_ok (p : GPacket) (h1 : p.props.length ≤ 9223372036854775807) (h2 : p.will.props.length ≤ 9223372036854775807) (h3 : p.filters.length ≤ 9223372036854775807) : (lim0 E).pure 10 [p.pv] = some (.bool (smallPacket p)) := by
  refine pure_of (p.filters.length + 1) ?_; rw [go_10]; unfold Tryz.f10; simp only [go_sem, Nat.reduceAdd, Nat.reduceMul, Nat.reduceSub, Nat.reduceEqDiff, Nat.reduceLeDiff, Nat.reduceLT, Int.reduceAdd, Int.reduceSub, Int.reduceMul, Int.reduceNeg, Int.reduceLT, Int.reduceLE, Int.reduceEq, Int.reduceNe, Int.reduceToNat, UInt8.reduceToNat, reduceCtorEq, and_true, true_and, decide_true, decide_false]
  refine loop_ind (fun j vs H => ∃ i : Nat, j = p.filters.length - i ∧ i ≤ p.filters.length ∧ i ≤ 31 ∧ H = [.cells p.avs] ∧ vs = [.ptr 0 0, .pv (.int .i64 i)] ∧ (p.filters.take 31).all shortFilter = ((p.filters.take 31).drop i).all shortFilter) p.filters.length ⟨0, by simp, by simp, by simp, rfl, rfl, by simp⟩ (by omega) ?_
  rintro j vs H m' ⟨i, hj, hi, hi31, rfl, rfl, hall⟩ ih
  simp only [go_sem, Nat.reduceAdd, Nat.reduceMul, Nat.reduceSub, Nat.reduceEqDiff, Nat.reduceLeDiff, Nat.reduceLT, Int.reduceAdd, Int.reduceSub, Int.reduceMul, Int.reduceNeg, Int.reduceLT, Int.reduceLE, Int.reduceEq, Int.reduceNe, Int.reduceToNat, UInt8.reduceToNat, reduceCtorEq, and_true, true_and, decide_true, decide_false]
  by_cases hc : i < p.filters.length ∧ i < 31
  · obtain ⟨hi', h31⟩ := hc
    have e1 : ((i : Int) < (p.filters.length : Int)) := by omega
    have e2 : ((i : Int) < 31) := by omega
    have hl : i < (p.filters.take 31).length := by simp; omega
    have hd : ((p.filters.take 31).drop i).all shortFilter = (shortFilter p.filters[i] && ((p.filters.take 31).drop (i + 1)).all shortFilter) := by rw [List.drop_eq_getElem_cons hl, List.all_cons]; simp
    simp only [go_sem, Nat.reduceAdd, Nat.reduceMul, Nat.reduceSub, Nat.reduceEqDiff, Nat.reduceLeDiff, Nat.reduceLT, Int.reduceAdd, Int.reduceSub, Int.reduceMul, Int.reduceNeg, Int.reduceLT, Int.reduceLE, Int.reduceEq, Int.reduceNe, Int.reduceToNat, UInt8.reduceToNat, reduceCtorEq, and_true, true_and, decide_true, decide_false, e1, e2, hi']
    repeat' (first | (refine grdC_split (fun h => ?_) (fun h => ?_) <;> try simp only [go_sem, Nat.reduceAdd, Nat.reduceMul, Nat.reduceSub, Nat.reduceEqDiff, Nat.reduceLeDiff, Nat.reduceLT, Int.reduceAdd, Int.reduceSub, Int.reduceMul, Int.reduceNeg, Int.reduceLT, Int.reduceLE, Int.reduceEq, Int.reduceNe, Int.reduceToNat, UInt8.reduceToNat, reduceCtorEq, and_true, true_and, decide_true, decide_false, hi']) | (refine condC_split (fun h => ?_) (fun h => ?_) <;> try simp only [go_sem, Nat.reduceAdd, Nat.reduceMul, Nat.reduceSub, Nat.reduceEqDiff, Nat.reduceLeDiff, Nat.reduceLT, Int.reduceAdd, Int.reduceSub, Int.reduceMul, Int.reduceNeg, Int.reduceLT, Int.reduceLE, Int.reduceEq, Int.reduceNe, Int.reduceToNat, UInt8.reduceToNat, reduceCtorEq, and_true, true_and, decide_true, decide_false, hi']) | (refine bcond_eq (fun h => ?_) (fun h => ?_) <;> try simp only [go_sem, Nat.reduceAdd, Nat.reduceMul, Nat.reduceSub, Nat.reduceEqDiff, Nat.reduceLeDiff, Nat.reduceLT, Int.reduceAdd, Int.reduceSub, Int.reduceMul, Int.reduceNeg, Int.reduceLT, Int.reduceLE, Int.reduceEq, Int.reduceNe, Int.reduceToNat, UInt8.reduceToNat, reduceCtorEq, and_true, true_and, decide_true, decide_false, hi']))
    · refine sb ?_
      simp only [smallPacket, hall, hd]
      simp [shortFilter] at *; omega
    · rw [w_succ i (by omega)]
      refine ih _ _ _ (by omega) ⟨i + 1, rfl, by omega, by omega, rfl, rfl, ?_⟩
      rw [hall, hd]; simp [shortFilter] at *; omega
  · have e0 : ((p.filters.take 31).drop i).all shortFilter = true := by rw [List.drop_eq_nil_of_le (by simp; omega)]; rfl
    repeat' (first | (refine grdC_split (fun h => ?_) (fun h => ?_) <;> try simp only [go_sem, Nat.reduceAdd, Nat.reduceMul, Nat.reduceSub, Nat.reduceEqDiff, Nat.reduceLeDiff, Nat.reduceLT, Int.reduceAdd, Int.reduceSub, Int.reduceMul, Int.reduceNeg, Int.reduceLT, Int.reduceLE, Int.reduceEq, Int.reduceNe, Int.reduceToNat, UInt8.reduceToNat, reduceCtorEq, and_true, true_and, decide_true, decide_false, smallProps_ok _ h1, smallProps_ok _ h2]) | (refine condC_split (fun h => ?_) (fun h => ?_) <;> try simp only [go_sem, Nat.reduceAdd, Nat.reduceMul, Nat.reduceSub, Nat.reduceEqDiff, Nat.reduceLeDiff, Nat.reduceLT, Int.reduceAdd, Int.reduceSub, Int.reduceMul, Int.reduceNeg, Int.reduceLT, Int.reduceLE, Int.reduceEq, Int.reduceNe, Int.reduceToNat, UInt8.reduceToNat, reduceCtorEq, and_true, true_and, decide_true, decide_false, smallProps_ok _ h1, smallProps_ok _ h2]) | (refine bcond_eq (fun h => ?_) (fun h => ?_) <;> try simp only [go_sem, Nat.reduceAdd, Nat.reduceMul, Nat.reduceSub, Nat.reduceEqDiff, Nat.reduceLeDiff, Nat.reduceLT, Int.reduceAdd, Int.reduceSub, Int.reduceMul, Int.reduceNeg, Int.reduceLT, Int.reduceLE, Int.reduceEq, Int.reduceNe, Int.reduceToNat, UInt8.reduceToNat, reduceCtorEq, and_true, true_and, decide_true, decide_false, smallProps_ok _ h1, smallProps_ok _ h2]))
    all_goals first
      | (exfalso; clear ih; simp at *; omega)
      | (clear ih; refine sb ?_; simp only [smallPacket, hall, e0]; simp only [Bool.and_eq_true, decide_eq_true_eq, decide_eq_false_iff_not, Bool.true_and, true_and, Bool.false_eq_true, false_iff, Bool.and_eq_false_imp] at *; grind)
      | trace_state
end Go.Proofs.YtjnmgfmogganlaaGreatDoor

/-
  Contracts: what is gone through, of events.
-/
namespace Go.Proofs.YtjnmgfmogganlaaGreatDoor
open Go.Pu
set_option maxRecDepth 100000
attribute [local irreducible] grdC condC bcond obind nextC loopG loopC loopD grdX grdD grunC stepC putC regK execK startC enterL stayC againC backC opC retH retU bodyL finP finS finW loopN seqC blockC nrmC

attribute [go_sem] smallPacket_ok
def shortHop (h : GHop) : Bool := decide (h.node.length ≤ 300)
def lightMsg (m : GMsg) : Bool := decide (m.name.length ≤ 70000 ∧ m.data.length ≤ 70000)
def lightDatagram (d : GDatagram) : Bool := decide (d.hops.length ≤ 8) && (lightMsg d.msg && d.hops.all shortHop)
set_option maxHeartbeats 4000000 in
@[go_sem] theorem lightDatagram_ok (d : GDatagram) : (lim0 E).pure 11 [d.pv] = some (.bool (lightDatagram d)) := by
  refine pure_of (d.hops.length + 1) ?_; rw [go_11]; unfold Tryz.f11; simp only [go_sem, Nat.reduceAdd, Nat.reduceMul, Nat.reduceSub, Nat.reduceEqDiff, Nat.reduceLeDiff, Nat.reduceLT, Int.reduceAdd, Int.reduceSub, Int.reduceMul, Int.reduceNeg, Int.reduceLT, Int.reduceLE, Int.reduceEq, Int.reduceNe, Int.reduceToNat, UInt8.reduceToNat, reduceCtorEq, and_true, true_and, decide_true, decide_false]
  refine grdC_split (fun h => ?_) (fun h => ?_) <;> simp only [go_sem, Nat.reduceAdd, Nat.reduceMul, Nat.reduceSub, Nat.reduceEqDiff, Nat.reduceLeDiff, Nat.reduceLT, Int.reduceAdd, Int.reduceSub, Int.reduceMul, Int.reduceNeg, Int.reduceLT, Int.reduceLE, Int.reduceEq, Int.reduceNe, Int.reduceToNat, UInt8.reduceToNat, reduceCtorEq, and_true, true_and, decide_true, decide_false]
  · refine sb ?_; simp [lightDatagram] at *; omega
  refine condC_split (fun h' => ?_) (fun h' => ?_) <;> simp only [go_sem, Nat.reduceAdd, Nat.reduceMul, Nat.reduceSub, Nat.reduceEqDiff, Nat.reduceLeDiff, Nat.reduceLT, Int.reduceAdd, Int.reduceSub, Int.reduceMul, Int.reduceNeg, Int.reduceLT, Int.reduceLE, Int.reduceEq, Int.reduceNe, Int.reduceToNat, UInt8.reduceToNat, reduceCtorEq, and_true, true_and, decide_true, decide_false]
  · refine sb ?_; simp [lightDatagram, lightMsg] at *; omega
  have hl : d.hops.length ≤ 8 := by simp at h; omega
  have hm : lightMsg d.msg = true := by simpa [lightMsg] using h'
  refine loop_ind (fun j vs H => ∃ i : Nat, j = d.hops.length - i ∧ i ≤ d.hops.length ∧ H = [.cells d.avs] ∧ vs = [.ptr 0 0, .pv (.int .i64 i)] ∧ d.hops.all shortHop = (d.hops.drop i).all shortHop) d.hops.length ⟨0, by simp, by simp, rfl, rfl, by simp⟩ (by omega) ?_
  rintro j vs H m' ⟨i, hj, hi, rfl, rfl, hall⟩ ih
  simp only [go_sem, Nat.reduceAdd, Nat.reduceMul, Nat.reduceSub, Nat.reduceEqDiff, Nat.reduceLeDiff, Nat.reduceLT, Int.reduceAdd, Int.reduceSub, Int.reduceMul, Int.reduceNeg, Int.reduceLT, Int.reduceLE, Int.reduceEq, Int.reduceNe, Int.reduceToNat, UInt8.reduceToNat, reduceCtorEq, and_true, true_and, decide_true, decide_false]
  refine condC_split (fun h => ?_) (fun h => ?_) <;> simp only [go_sem, Nat.reduceAdd, Nat.reduceMul, Nat.reduceSub, Nat.reduceEqDiff, Nat.reduceLeDiff, Nat.reduceLT, Int.reduceAdd, Int.reduceSub, Int.reduceMul, Int.reduceNeg, Int.reduceLT, Int.reduceLE, Int.reduceEq, Int.reduceNe, Int.reduceToNat, UInt8.reduceToNat, reduceCtorEq, and_true, true_and, decide_true, decide_false]
  · have hi' : i < d.hops.length := by simp at h; omega
    have hd : (d.hops.drop i).all shortHop = (shortHop d.hops[i] && (d.hops.drop (i + 1)).all shortHop) := by rw [List.drop_eq_getElem_cons hi', List.all_cons]
    simp only [go_sem, Nat.reduceAdd, Nat.reduceMul, Nat.reduceSub, Nat.reduceEqDiff, Nat.reduceLeDiff, Nat.reduceLT, Int.reduceAdd, Int.reduceSub, Int.reduceMul, Int.reduceNeg, Int.reduceLT, Int.reduceLE, Int.reduceEq, Int.reduceNe, Int.reduceToNat, UInt8.reduceToNat, reduceCtorEq, and_true, true_and, decide_true, decide_false, hi']
    repeat' (first | (refine grdC_split (fun h => ?_) (fun h => ?_) <;> try simp only [go_sem, Nat.reduceAdd, Nat.reduceMul, Nat.reduceSub, Nat.reduceEqDiff, Nat.reduceLeDiff, Nat.reduceLT, Int.reduceAdd, Int.reduceSub, Int.reduceMul, Int.reduceNeg, Int.reduceLT, Int.reduceLE, Int.reduceEq, Int.reduceNe, Int.reduceToNat, UInt8.reduceToNat, reduceCtorEq, and_true, true_and, decide_true, decide_false, hi']) | (refine condC_split (fun h => ?_) (fun h => ?_) <;> try simp only [go_sem, Nat.reduceAdd, Nat.reduceMul, Nat.reduceSub, Nat.reduceEqDiff, Nat.reduceLeDiff, Nat.reduceLT, Int.reduceAdd, Int.reduceSub, Int.reduceMul, Int.reduceNeg, Int.reduceLT, Int.reduceLE, Int.reduceEq, Int.reduceNe, Int.reduceToNat, UInt8.reduceToNat, reduceCtorEq, and_true, true_and, decide_true, decide_false, hi']) | (refine bcond_eq (fun h => ?_) (fun h => ?_) <;> try simp only [go_sem, Nat.reduceAdd, Nat.reduceMul, Nat.reduceSub, Nat.reduceEqDiff, Nat.reduceLeDiff, Nat.reduceLT, Int.reduceAdd, Int.reduceSub, Int.reduceMul, Int.reduceNeg, Int.reduceLT, Int.reduceLE, Int.reduceEq, Int.reduceNe, Int.reduceToNat, UInt8.reduceToNat, reduceCtorEq, and_true, true_and, decide_true, decide_false, hi']))
    · clear ih; refine sb ?_; simp [lightDatagram, hall, hd, shortHop] at *; omega
    · rw [w_succ i (by omega)]
      refine ih _ _ _ (by omega) ⟨i + 1, rfl, by omega, rfl, rfl, ?_⟩
      rw [hall, hd]; simp [shortHop] at *; omega
  · have hi' : d.hops.length ≤ i := by simp at h; omega
    clear ih; refine sb ?_; rw [lightDatagram, hall, hm, List.drop_eq_nil_of_le hi']; simp; omega

mutual
def nodesV : GValue → Int → Int → Int
  | .mk _ _ t is, deep, most => if deep < 0 ∨ most < is.length ∨ 400 < t.length then IntKind.i64.wrap (most + 1) else nodesL is deep most 1
def nodesL : List GValue → Int → Int → Int → Int
  | [], _, _, n => n
  | v :: vs, deep, most, n => if n ≤ most then nodesL vs deep most (IntKind.i64.wrap (n + nodesV v (IntKind.i64.wrap (deep - 1)) (IntKind.i64.wrap (most - n)))) else n
end
theorem nodesV_eq (v : GValue) (deep most : Int) : nodesV v deep most = if deep < 0 ∨ most < v.items.length ∨ 400 < v.text.length then IntKind.i64.wrap (most + 1) else nodesL v.items deep most 1 := by
  cases v; rw [nodesV]; rfl
mutual
/-- No list is longer than a machine's number tells. -/
def wfV : GValue → Prop
  | .mk _ _ t is => t.length ≤ 9223372036854775807 ∧ is.length ≤ 9223372036854775807 ∧ wfVs is
def wfVs : List GValue → Prop
  | [] => True
  | v :: vs => wfV v ∧ wfVs vs
end
theorem wfVs_mem : ∀ {vs : List GValue}, wfVs vs → ∀ v ∈ vs, wfV v
  | [], _, v, h => by simp at h
  | x :: xs, k, v, h => by
    simp only [wfVs] at k
    rcases List.mem_cons.1 h with rfl | h
    · exact k.1
    · exact wfVs_mem k.2 v h
theorem wfV_eq (v : GValue) : wfV v = (v.text.length ≤ 9223372036854775807 ∧ v.items.length ≤ 9223372036854775807 ∧ wfVs v.items) := by cases v; rw [wfV]; rfl
theorem items_lt (v : GValue) (x : GValue) (h : x ∈ v.items) : SizeOf.sizeOf x < SizeOf.sizeOf v := by
  cases v
  have := List.sizeOf_lt_of_mem h
  simp only [GValue.items] at this
  simp
  omega
set_option maxHeartbeats 4000000 in
theorem nodes_ok' (k : Nat) : ∀ (v : GValue) (deep most : Int), SizeOf.sizeOf v ≤ k → wfV v → (lim0 E).pure 43 [v.pv, .int .i64 deep, .int .i64 most] = some (.int .i64 (nodesV v deep most)) := by
  induction k with
  | zero => intro v deep most h; cases v; simp at h
  | succ k ihk =>
  intro v deep most hk hwf
  rw [wfV_eq] at hwf
  obtain ⟨_, hlen, hwfs⟩ := hwf
  refine pure_of (v.items.length + 1) ?_; rw [go_43]; unfold Tryz.f43; simp only [go_sem, Nat.reduceAdd, Nat.reduceMul, Nat.reduceSub, Nat.reduceEqDiff, Nat.reduceLeDiff, Nat.reduceLT, Int.reduceAdd, Int.reduceSub, Int.reduceMul, Int.reduceNeg, Int.reduceLT, Int.reduceLE, Int.reduceEq, Int.reduceNe, Int.reduceToNat, UInt8.reduceToNat, reduceCtorEq, and_true, true_and, decide_true, decide_false]
  repeat' (first | (refine grdC_split (fun h => ?_) (fun h => ?_) <;> try simp only [go_sem, Nat.reduceAdd, Nat.reduceMul, Nat.reduceSub, Nat.reduceEqDiff, Nat.reduceLeDiff, Nat.reduceLT, Int.reduceAdd, Int.reduceSub, Int.reduceMul, Int.reduceNeg, Int.reduceLT, Int.reduceLE, Int.reduceEq, Int.reduceNe, Int.reduceToNat, UInt8.reduceToNat, reduceCtorEq, and_true, true_and, decide_true, decide_false]) | (refine condC_split (fun h => ?_) (fun h => ?_) <;> try simp only [go_sem, Nat.reduceAdd, Nat.reduceMul, Nat.reduceSub, Nat.reduceEqDiff, Nat.reduceLeDiff, Nat.reduceLT, Int.reduceAdd, Int.reduceSub, Int.reduceMul, Int.reduceNeg, Int.reduceLT, Int.reduceLE, Int.reduceEq, Int.reduceNe, Int.reduceToNat, UInt8.reduceToNat, reduceCtorEq, and_true, true_and, decide_true, decide_false]) | (refine bcond_eq (fun h => ?_) (fun h => ?_) <;> try simp only [go_sem, Nat.reduceAdd, Nat.reduceMul, Nat.reduceSub, Nat.reduceEqDiff, Nat.reduceLeDiff, Nat.reduceLT, Int.reduceAdd, Int.reduceSub, Int.reduceMul, Int.reduceNeg, Int.reduceLT, Int.reduceLE, Int.reduceEq, Int.reduceNe, Int.reduceToNat, UInt8.reduceToNat, reduceCtorEq, and_true, true_and, decide_true, decide_false]))
  · rw [nodesV_eq, if_pos (by simp at *; omega)]
  · rw [nodesV_eq, if_pos (by simp at *; omega)]
  · rw [nodesV_eq, if_pos (by simp at *; omega)]
  rw [nodesV_eq, if_neg (by simp at *; omega)]
  refine loop_ind (fun j vs H => ∃ (i : Nat) (n : Int), j = v.items.length - i ∧ i ≤ v.items.length ∧ H = [.cells v.avs] ∧ vs = [.pv (.int .i64 deep), .pv (.int .i64 most), .ptr 0 0, .pv (.int .i64 n), .pv (.int .i64 i)] ∧ nodesL v.items deep most 1 = nodesL (v.items.drop i) deep most n) v.items.length ⟨0, 1, by simp, by simp, rfl, rfl, by simp⟩ (by omega) ?_
  rintro j vs H m' ⟨i, n, hj, hi, rfl, rfl, hall⟩ ih
  simp only [go_sem, Nat.reduceAdd, Nat.reduceMul, Nat.reduceSub, Nat.reduceEqDiff, Nat.reduceLeDiff, Nat.reduceLT, Int.reduceAdd, Int.reduceSub, Int.reduceMul, Int.reduceNeg, Int.reduceLT, Int.reduceLE, Int.reduceEq, Int.reduceNe, Int.reduceToNat, UInt8.reduceToNat, reduceCtorEq, and_true, true_and, decide_true, decide_false]
  by_cases hc : i < v.items.length ∧ n ≤ most
  · obtain ⟨hi', hn⟩ := hc
    have e1 : ((i : Int) < (v.items.length : Int)) := by omega
    have hd : nodesL (v.items.drop i) deep most n = nodesL (v.items.drop (i + 1)) deep most (IntKind.i64.wrap (n + nodesV v.items[i] (IntKind.i64.wrap (deep - 1)) (IntKind.i64.wrap (most - n)))) := by
      rw [List.drop_eq_getElem_cons hi', nodesL, if_pos hn]
    have hm := List.getElem_mem hi'
    have e2 := ihk v.items[i] (IntKind.i64.wrap (deep - 1)) (IntKind.i64.wrap (most - n)) (by have := items_lt v _ hm; omega) (wfVs_mem hwfs _ hm)
    simp only [go_sem, Nat.reduceAdd, Nat.reduceMul, Nat.reduceSub, Nat.reduceEqDiff, Nat.reduceLeDiff, Nat.reduceLT, Int.reduceAdd, Int.reduceSub, Int.reduceMul, Int.reduceNeg, Int.reduceLT, Int.reduceLE, Int.reduceEq, Int.reduceNe, Int.reduceToNat, UInt8.reduceToNat, reduceCtorEq, and_true, true_and, decide_true, decide_false, e1, hn, hi', e2]
    rw [w_succ i (by omega)]
    exact ih _ _ _ (by omega) ⟨i + 1, _, rfl, by omega, rfl, rfl, by rw [hall, hd]⟩
  · have hd : nodesL (v.items.drop i) deep most n = n := by
      rcases Nat.lt_or_ge i v.items.length with h | h
      · rw [List.drop_eq_getElem_cons h, nodesL, if_neg (by omega)]
      · rw [List.drop_eq_nil_of_le h, nodesL]
    repeat' (first | (refine grdC_split (fun h => ?_) (fun h => ?_) <;> try simp only [go_sem, Nat.reduceAdd, Nat.reduceMul, Nat.reduceSub, Nat.reduceEqDiff, Nat.reduceLeDiff, Nat.reduceLT, Int.reduceAdd, Int.reduceSub, Int.reduceMul, Int.reduceNeg, Int.reduceLT, Int.reduceLE, Int.reduceEq, Int.reduceNe, Int.reduceToNat, UInt8.reduceToNat, reduceCtorEq, and_true, true_and, decide_true, decide_false]) | (refine condC_split (fun h => ?_) (fun h => ?_) <;> try simp only [go_sem, Nat.reduceAdd, Nat.reduceMul, Nat.reduceSub, Nat.reduceEqDiff, Nat.reduceLeDiff, Nat.reduceLT, Int.reduceAdd, Int.reduceSub, Int.reduceMul, Int.reduceNeg, Int.reduceLT, Int.reduceLE, Int.reduceEq, Int.reduceNe, Int.reduceToNat, UInt8.reduceToNat, reduceCtorEq, and_true, true_and, decide_true, decide_false]) | (refine bcond_eq (fun h => ?_) (fun h => ?_) <;> try simp only [go_sem, Nat.reduceAdd, Nat.reduceMul, Nat.reduceSub, Nat.reduceEqDiff, Nat.reduceLeDiff, Nat.reduceLT, Int.reduceAdd, Int.reduceSub, Int.reduceMul, Int.reduceNeg, Int.reduceLT, Int.reduceLE, Int.reduceEq, Int.reduceNe, Int.reduceToNat, UInt8.reduceToNat, reduceCtorEq, and_true, true_and, decide_true, decide_false]))
    all_goals first
      | (rw [hall, hd]; done)
      | (exfalso; clear ih ihk hall hd hwfs; simp at *; omega)
@[go_sem] theorem nodes_ok (v : GValue) (deep most : Int) (h : wfV v) : (lim0 E).pure 43 [v.pv, .int .i64 deep, .int .i64 most] = some (.int .i64 (nodesV v deep most)) := nodes_ok' _ v deep most (Nat.le_refl _) h
def lightValue (v : GValue) : Bool := decide (nodesV v 6 40 ≤ 40)
@[go_sem] theorem lightValue_ok (v : GValue) (h : wfV v) : (lim0 E).pure 33 [v.pv] = some (.bool (lightValue v)) := by
  refine pure_of (0) ?_; rw [go_33]; unfold Tryz.f33; simp only [go_sem, Nat.reduceAdd, Nat.reduceMul, Nat.reduceSub, Nat.reduceEqDiff, Nat.reduceLeDiff, Nat.reduceLT, Int.reduceAdd, Int.reduceSub, Int.reduceMul, Int.reduceNeg, Int.reduceLT, Int.reduceLE, Int.reduceEq, Int.reduceNe, Int.reduceToNat, UInt8.reduceToNat, reduceCtorEq, and_true, true_and, decide_true, decide_false, nodes_ok _ _ _ h]
  rfl
def lightFrame (f : GFrame) : Bool := decide (f.values.length ≤ 6 ∧ f.ext.length ≤ 1100) && f.values.all lightValue
set_option maxHeartbeats 4000000 in
@[go_sem] theorem lightFrame_ok (f : GFrame) (hwf : wfVs f.values) : (lim0 E).pure 12 [f.pv] = some (.bool (lightFrame f)) := by
  refine pure_of (f.values.length + 1) ?_; rw [go_12]; unfold Tryz.f12; simp only [go_sem, Nat.reduceAdd, Nat.reduceMul, Nat.reduceSub, Nat.reduceEqDiff, Nat.reduceLeDiff, Nat.reduceLT, Int.reduceAdd, Int.reduceSub, Int.reduceMul, Int.reduceNeg, Int.reduceLT, Int.reduceLE, Int.reduceEq, Int.reduceNe, Int.reduceToNat, UInt8.reduceToNat, reduceCtorEq, and_true, true_and, decide_true, decide_false]
  repeat' (first | (refine grdC_split (fun h => ?_) (fun h => ?_) <;> try simp only [go_sem, Nat.reduceAdd, Nat.reduceMul, Nat.reduceSub, Nat.reduceEqDiff, Nat.reduceLeDiff, Nat.reduceLT, Int.reduceAdd, Int.reduceSub, Int.reduceMul, Int.reduceNeg, Int.reduceLT, Int.reduceLE, Int.reduceEq, Int.reduceNe, Int.reduceToNat, UInt8.reduceToNat, reduceCtorEq, and_true, true_and, decide_true, decide_false]) | (refine condC_split (fun h => ?_) (fun h => ?_) <;> try simp only [go_sem, Nat.reduceAdd, Nat.reduceMul, Nat.reduceSub, Nat.reduceEqDiff, Nat.reduceLeDiff, Nat.reduceLT, Int.reduceAdd, Int.reduceSub, Int.reduceMul, Int.reduceNeg, Int.reduceLT, Int.reduceLE, Int.reduceEq, Int.reduceNe, Int.reduceToNat, UInt8.reduceToNat, reduceCtorEq, and_true, true_and, decide_true, decide_false]) | (refine bcond_eq (fun h => ?_) (fun h => ?_) <;> try simp only [go_sem, Nat.reduceAdd, Nat.reduceMul, Nat.reduceSub, Nat.reduceEqDiff, Nat.reduceLeDiff, Nat.reduceLT, Int.reduceAdd, Int.reduceSub, Int.reduceMul, Int.reduceNeg, Int.reduceLT, Int.reduceLE, Int.reduceEq, Int.reduceNe, Int.reduceToNat, UInt8.reduceToNat, reduceCtorEq, and_true, true_and, decide_true, decide_false]))
  · refine sb ?_; simp [lightFrame] at *; omega
  · refine sb ?_; simp [lightFrame] at *; omega
  rename_i g1
  have hl : f.values.length ≤ 6 ∧ f.ext.length ≤ 1100 := by simp at g1 h; omega
  refine loop_ind (fun j vs H => ∃ i : Nat, j = f.values.length - i ∧ i ≤ f.values.length ∧ H = [.cells f.avs] ∧ vs = [.ptr 0 0, .pv (.int .i64 i)] ∧ f.values.all lightValue = (f.values.drop i).all lightValue) f.values.length ⟨0, by simp, by simp, rfl, rfl, by simp⟩ (by omega) ?_
  rintro j vs H m' ⟨i, hj, hi, rfl, rfl, hall⟩ ih
  simp only [go_sem, Nat.reduceAdd, Nat.reduceMul, Nat.reduceSub, Nat.reduceEqDiff, Nat.reduceLeDiff, Nat.reduceLT, Int.reduceAdd, Int.reduceSub, Int.reduceMul, Int.reduceNeg, Int.reduceLT, Int.reduceLE, Int.reduceEq, Int.reduceNe, Int.reduceToNat, UInt8.reduceToNat, reduceCtorEq, and_true, true_and, decide_true, decide_false]
  refine condC_split (fun h => ?_) (fun h => ?_) <;> simp only [go_sem, Nat.reduceAdd, Nat.reduceMul, Nat.reduceSub, Nat.reduceEqDiff, Nat.reduceLeDiff, Nat.reduceLT, Int.reduceAdd, Int.reduceSub, Int.reduceMul, Int.reduceNeg, Int.reduceLT, Int.reduceLE, Int.reduceEq, Int.reduceNe, Int.reduceToNat, UInt8.reduceToNat, reduceCtorEq, and_true, true_and, decide_true, decide_false]
  · have hi' : i < f.values.length := by simp at h; omega
    have hd : (f.values.drop i).all lightValue = (lightValue f.values[i] && (f.values.drop (i + 1)).all lightValue) := by rw [List.drop_eq_getElem_cons hi', List.all_cons]
    have hw := wfVs_mem hwf _ (List.getElem_mem hi')
    simp only [go_sem, Nat.reduceAdd, Nat.reduceMul, Nat.reduceSub, Nat.reduceEqDiff, Nat.reduceLeDiff, Nat.reduceLT, Int.reduceAdd, Int.reduceSub, Int.reduceMul, Int.reduceNeg, Int.reduceLT, Int.reduceLE, Int.reduceEq, Int.reduceNe, Int.reduceToNat, UInt8.reduceToNat, reduceCtorEq, and_true, true_and, decide_true, decide_false, hi', lightValue_ok _ hw]
    repeat' (first | (refine grdC_split (fun h => ?_) (fun h => ?_) <;> try simp only [go_sem, Nat.reduceAdd, Nat.reduceMul, Nat.reduceSub, Nat.reduceEqDiff, Nat.reduceLeDiff, Nat.reduceLT, Int.reduceAdd, Int.reduceSub, Int.reduceMul, Int.reduceNeg, Int.reduceLT, Int.reduceLE, Int.reduceEq, Int.reduceNe, Int.reduceToNat, UInt8.reduceToNat, reduceCtorEq, and_true, true_and, decide_true, decide_false, hi', lightValue_ok _ hw]) | (refine condC_split (fun h => ?_) (fun h => ?_) <;> try simp only [go_sem, Nat.reduceAdd, Nat.reduceMul, Nat.reduceSub, Nat.reduceEqDiff, Nat.reduceLeDiff, Nat.reduceLT, Int.reduceAdd, Int.reduceSub, Int.reduceMul, Int.reduceNeg, Int.reduceLT, Int.reduceLE, Int.reduceEq, Int.reduceNe, Int.reduceToNat, UInt8.reduceToNat, reduceCtorEq, and_true, true_and, decide_true, decide_false, hi', lightValue_ok _ hw]) | (refine bcond_eq (fun h => ?_) (fun h => ?_) <;> try simp only [go_sem, Nat.reduceAdd, Nat.reduceMul, Nat.reduceSub, Nat.reduceEqDiff, Nat.reduceLeDiff, Nat.reduceLT, Int.reduceAdd, Int.reduceSub, Int.reduceMul, Int.reduceNeg, Int.reduceLT, Int.reduceLE, Int.reduceEq, Int.reduceNe, Int.reduceToNat, UInt8.reduceToNat, reduceCtorEq, and_true, true_and, decide_true, decide_false, hi', lightValue_ok _ hw]))
    · clear ih; refine sb ?_; simp [lightFrame, hall, hd] at *; simp_all
    · rw [w_succ i (by omega)]
      refine ih _ _ _ (by omega) ⟨i + 1, rfl, by omega, rfl, rfl, ?_⟩
      rw [hall, hd]; simp at *; simp_all
  · have hi' : f.values.length ≤ i := by simp at h; omega
    clear ih; refine sb ?_; rw [lightFrame, hall, List.drop_eq_nil_of_le hi']; simp; omega
structure wfE (e : GEvent) : Prop where
  topic : e.topic.length ≤ 9223372036854775807
  payload : e.payload.length ≤ 9223372036854775807
  props : e.props.length ≤ 9223372036854775807
  ptexts : ∀ p ∈ e.props, p.text.length ≤ 9223372036854775807
  pprops : e.packet.props.length ≤ 9223372036854775807
  wprops : e.packet.will.props.length ≤ 9223372036854775807
  filters : e.packet.filters.length ≤ 9223372036854775807
  codes : e.packet.codes.length ≤ 9223372036854775807
  hops : e.hops.length ≤ 9223372036854775807
  values : wfVs e.frame.values
  nvalues : e.frame.values.length ≤ 9223372036854775807
def lightEvent (e : GEvent) : Bool := decide (e.topic.length ≤ 2000 ∧ e.payload.length ≤ 2000) && (e.props.all smallProp && decide (e.props.length ≤ 30)) && smallPacket e.packet && lightDatagram ⟨e.hops, e.msg⟩ && lightFrame e.frame
set_option maxHeartbeats 4000000 in
theorem lightEvent_ok (e : GEvent) (h : wfE e) : (lim0 E).pure 5 [e.pv] = some (.bool (lightEvent e)) := by
  refine pure_of (0) ?_; rw [go_5]; unfold Tryz.f5; simp only [go_sem, Nat.reduceAdd, Nat.reduceMul, Nat.reduceSub, Nat.reduceEqDiff, Nat.reduceLeDiff, Nat.reduceLT, Int.reduceAdd, Int.reduceSub, Int.reduceMul, Int.reduceNeg, Int.reduceLT, Int.reduceLE, Int.reduceEq, Int.reduceNe, Int.reduceToNat, UInt8.reduceToNat, reduceCtorEq, and_true, true_and, decide_true, decide_false]
  have r1 := smallProps_ok _ h.props
  have r2 := smallPacket_ok _ h.pprops h.wprops h.filters
  have r3 := lightFrame_ok _ h.values
  repeat' (first | (refine grdC_split (fun h => ?_) (fun h => ?_) <;> try simp only [go_sem, Nat.reduceAdd, Nat.reduceMul, Nat.reduceSub, Nat.reduceEqDiff, Nat.reduceLeDiff, Nat.reduceLT, Int.reduceAdd, Int.reduceSub, Int.reduceMul, Int.reduceNeg, Int.reduceLT, Int.reduceLE, Int.reduceEq, Int.reduceNe, Int.reduceToNat, UInt8.reduceToNat, reduceCtorEq, and_true, true_and, decide_true, decide_false, r1, r2, r3]) | (refine condC_split (fun h => ?_) (fun h => ?_) <;> try simp only [go_sem, Nat.reduceAdd, Nat.reduceMul, Nat.reduceSub, Nat.reduceEqDiff, Nat.reduceLeDiff, Nat.reduceLT, Int.reduceAdd, Int.reduceSub, Int.reduceMul, Int.reduceNeg, Int.reduceLT, Int.reduceLE, Int.reduceEq, Int.reduceNe, Int.reduceToNat, UInt8.reduceToNat, reduceCtorEq, and_true, true_and, decide_true, decide_false, r1, r2, r3]) | (refine bcond_eq (fun h => ?_) (fun h => ?_) <;> try simp only [go_sem, Nat.reduceAdd, Nat.reduceMul, Nat.reduceSub, Nat.reduceEqDiff, Nat.reduceLeDiff, Nat.reduceLT, Int.reduceAdd, Int.reduceSub, Int.reduceMul, Int.reduceNeg, Int.reduceLT, Int.reduceLE, Int.reduceEq, Int.reduceNe, Int.reduceToNat, UInt8.reduceToNat, reduceCtorEq, and_true, true_and, decide_true, decide_false, r1, r2, r3]))
  all_goals clear r1 r2 r3
  all_goals (refine sb ?_; unfold lightEvent; simp only [Bool.and_eq_true, decide_eq_true_eq, decide_eq_false_iff_not, Bool.false_eq_true, false_iff, true_iff] at *; grind)
end Go.Proofs.YtjnmgfmogganlaaGreatDoor

/-
  Contracts: texts.
-/
namespace Go.Proofs.YtjnmgfmogganlaaGreatDoor
open Go.Pu
set_option maxRecDepth 100000
attribute [local irreducible] grdC condC bcond obind nextC loopG loopC loopD grdX grdD grunC stepC putC regK execK startC enterL stayC againC backC opC retH retU bodyL finP finS finW loopN seqC blockC nrmC

def wholeB (s : List UInt8) : Bool := decide (3 ≤ s.length) && decide (s.take 3 = [239, 191, 189])
@[go_sem] theorem whole_ok (s : List UInt8) : (lim0 E).pure 88 [.str s] = some (.bool (wholeB s)) := by
  refine pure_of (0) ?_; rw [go_88]; unfold Tryz.f88; simp only [go_sem, Nat.reduceAdd, Nat.reduceMul, Nat.reduceSub, Nat.reduceEqDiff, Nat.reduceLeDiff, Nat.reduceLT, Int.reduceAdd, Int.reduceSub, Int.reduceMul, Int.reduceNeg, Int.reduceLT, Int.reduceLE, Int.reduceEq, Int.reduceNe, Int.reduceToNat, UInt8.reduceToNat, reduceCtorEq, and_true, true_and, decide_true, decide_false]
  refine grdC_split (fun h => ?_) (fun h => ?_) <;> simp only [go_sem, Nat.reduceAdd, Nat.reduceMul, Nat.reduceSub, Nat.reduceEqDiff, Nat.reduceLeDiff, Nat.reduceLT, Int.reduceAdd, Int.reduceSub, Int.reduceMul, Int.reduceNeg, Int.reduceLT, Int.reduceLE, Int.reduceEq, Int.reduceNe, Int.reduceToNat, UInt8.reduceToNat, reduceCtorEq, and_true, true_and, decide_true, decide_false]
  · have h3 : 3 ≤ s.length := by simp at h; omega
    have h3' : (3 : Int) ≤ (s.length : Int) := by omega
    simp only [go_sem, Nat.reduceAdd, Nat.reduceMul, Nat.reduceSub, Nat.reduceEqDiff, Nat.reduceLeDiff, Nat.reduceLT, Int.reduceAdd, Int.reduceSub, Int.reduceMul, Int.reduceNeg, Int.reduceLT, Int.reduceLE, Int.reduceEq, Int.reduceNe, Int.reduceToNat, UInt8.reduceToNat, reduceCtorEq, and_true, true_and, decide_true, decide_false, h3']
    refine sb ?_
    simp [wholeB, h3]
  · refine sb ?_; simp [wholeB] at *; omega

/-- The first place at which no code point begins as it should. -/
def badW (rest : List UInt8) (pos : Nat) : Int :=
  if h : rest = [] then -1 else if (runeAt rest).1 = 0 ∨ ((runeAt rest).1 = 65533 ∧ wholeB rest = false) then (pos : Int) else badW (rest.drop (runeAt rest).2) (pos + (runeAt rest).2)
termination_by rest.length
decreasing_by
  have := runeAt_pos rest
  have : rest.length ≠ 0 := fun e => h (List.length_eq_zero_iff.1 e)
  simp only [List.length_drop]; omega

theorem bad_ok (s : List UInt8) : (lim0 E).pure 61 [.str s] = some (.int .i64 (badW s 0)) := by
  refine pure_of (s.length + 1) ?_; rw [go_61]; unfold Tryz.f61; simp only [go_sem, Nat.reduceAdd, Nat.reduceMul, Nat.reduceSub, Nat.reduceEqDiff, Nat.reduceLeDiff, Nat.reduceLT, Int.reduceAdd, Int.reduceSub, Int.reduceMul, Int.reduceNeg, Int.reduceLT, Int.reduceLE, Int.reduceEq, Int.reduceNe, Int.reduceToNat, UInt8.reduceToNat, reduceCtorEq, and_true, true_and, decide_true, decide_false]
  refine loop_ind (fun j vs H => ∃ (rest : List UInt8) (pos : Nat), j = rest.length ∧ rest = s.drop pos ∧ H = [.sit rest pos] ∧ vs = [.pv (.str s), .ptr 0 0] ∧ badW s 0 = badW rest pos) s.length ⟨s, 0, rfl, by simp, rfl, rfl, rfl⟩ (by omega) ?_
  rintro j vs H m' ⟨rest, pos, hj, hr, rfl, rfl, hall⟩ ih
  by_cases h0 : rest = []
  · subst h0
    simp only [go_sem, Nat.reduceAdd, Nat.reduceMul, Nat.reduceSub, Nat.reduceEqDiff, Nat.reduceLeDiff, Nat.reduceLT, Int.reduceAdd, Int.reduceSub, Int.reduceMul, Int.reduceNeg, Int.reduceLT, Int.reduceLE, Int.reduceEq, Int.reduceNe, Int.reduceToNat, UInt8.reduceToNat, reduceCtorEq, and_true, true_and, decide_true, decide_false]
    rw [hall, badW, dif_pos rfl]
  · have hp : pos ≤ s.length := by
      rcases Nat.lt_or_ge pos s.length with h | h
      · omega
      · exact absurd (hr.trans (List.drop_eq_nil_of_le h)) h0
    have hl : rest.length ≠ 0 := fun e => h0 (List.length_eq_zero_iff.1 e)
    have hw := runeAt_pos rest
    simp only [go_sem, Nat.reduceAdd, Nat.reduceMul, Nat.reduceSub, Nat.reduceEqDiff, Nat.reduceLeDiff, Nat.reduceLT, Int.reduceAdd, Int.reduceSub, Int.reduceMul, Int.reduceNeg, Int.reduceLT, Int.reduceLE, Int.reduceEq, Int.reduceNe, Int.reduceToNat, UInt8.reduceToNat, reduceCtorEq, and_true, true_and, decide_true, decide_false, nextS_cons h0, hp, ← hr]
    have hb : badW rest pos = if (runeAt rest).1 = 0 ∨ ((runeAt rest).1 = 65533 ∧ wholeB rest = false) then (pos : Int) else badW (rest.drop (runeAt rest).2) (pos + (runeAt rest).2) := by rw [badW, dif_neg h0]
    repeat' (first | (refine grdC_split (fun h => ?_) (fun h => ?_) <;> try simp only [go_sem, Nat.reduceAdd, Nat.reduceMul, Nat.reduceSub, Nat.reduceEqDiff, Nat.reduceLeDiff, Nat.reduceLT, Int.reduceAdd, Int.reduceSub, Int.reduceMul, Int.reduceNeg, Int.reduceLT, Int.reduceLE, Int.reduceEq, Int.reduceNe, Int.reduceToNat, UInt8.reduceToNat, reduceCtorEq, and_true, true_and, decide_true, decide_false, hp, ← hr]) | (refine condC_split (fun h => ?_) (fun h => ?_) <;> try simp only [go_sem, Nat.reduceAdd, Nat.reduceMul, Nat.reduceSub, Nat.reduceEqDiff, Nat.reduceLeDiff, Nat.reduceLT, Int.reduceAdd, Int.reduceSub, Int.reduceMul, Int.reduceNeg, Int.reduceLT, Int.reduceLE, Int.reduceEq, Int.reduceNe, Int.reduceToNat, UInt8.reduceToNat, reduceCtorEq, and_true, true_and, decide_true, decide_false, hp, ← hr]) | (refine bcond_eq (fun h => ?_) (fun h => ?_) <;> try simp only [go_sem, Nat.reduceAdd, Nat.reduceMul, Nat.reduceSub, Nat.reduceEqDiff, Nat.reduceLeDiff, Nat.reduceLT, Int.reduceAdd, Int.reduceSub, Int.reduceMul, Int.reduceNeg, Int.reduceLT, Int.reduceLE, Int.reduceEq, Int.reduceNe, Int.reduceToNat, UInt8.reduceToNat, reduceCtorEq, and_true, true_and, decide_true, decide_false, hp, ← hr]))
    all_goals first
      | (rw [hall, hb, if_pos (by clear ih hall hb; simp at *; omega)]; done)
      | (rw [hall, hb, if_pos (by clear ih hall hb; simp only [decide_eq_true_eq, decide_eq_false_iff_not, Bool.not_eq_true', Bool.not_eq_false'] at *; grind)]; done)
      | (refine ih _ _ _ (by simp only [List.length_drop]; omega) ⟨_, _, rfl, by rw [hr, List.drop_drop], rfl, rfl, ?_⟩
         rw [hall, hb, if_neg (by clear ih hall hb; simp only [decide_eq_true_eq, decide_eq_false_iff_not, Bool.not_eq_true', Bool.not_eq_false'] at *; grind)])
attribute [go_sem] bad_ok
def validT (s : List UInt8) : Bool := decide (s.length ≤ 65535) && decide (badW s 0 = -1)
@[go_sem] theorem valid_ok (s : List UInt8) : (lim0 E).pure 44 [.str s] = some (.bool (validT s)) := by
  refine pure_of (0) ?_; rw [go_44]; unfold Tryz.f44; simp only [go_sem, Nat.reduceAdd, Nat.reduceMul, Nat.reduceSub, Nat.reduceEqDiff, Nat.reduceLeDiff, Nat.reduceLT, Int.reduceAdd, Int.reduceSub, Int.reduceMul, Int.reduceNeg, Int.reduceLT, Int.reduceLE, Int.reduceEq, Int.reduceNe, Int.reduceToNat, UInt8.reduceToNat, reduceCtorEq, and_true, true_and, decide_true, decide_false]
  refine grdC_split (fun h => ?_) (fun h => ?_) <;> simp only [go_sem, Nat.reduceAdd, Nat.reduceMul, Nat.reduceSub, Nat.reduceEqDiff, Nat.reduceLeDiff, Nat.reduceLT, Int.reduceAdd, Int.reduceSub, Int.reduceMul, Int.reduceNeg, Int.reduceLT, Int.reduceLE, Int.reduceEq, Int.reduceNe, Int.reduceToNat, UInt8.reduceToNat, reduceCtorEq, and_true, true_and, decide_true, decide_false]
  · refine sb ?_; simp [validT] at *; omega
  · refine sb ?_; simp [validT] at *; omega
def textT (s : List UInt8) : Bool := decide (s ≠ []) && validT s
@[go_sem] theorem text_ok (s : List UInt8) : (lim0 E).pure 34 [.str s] = some (.bool (textT s)) := by
  refine pure_of (0) ?_; rw [go_34]; unfold Tryz.f34; simp only [go_sem, Nat.reduceAdd, Nat.reduceMul, Nat.reduceSub, Nat.reduceEqDiff, Nat.reduceLeDiff, Nat.reduceLT, Int.reduceAdd, Int.reduceSub, Int.reduceMul, Int.reduceNeg, Int.reduceLT, Int.reduceLE, Int.reduceEq, Int.reduceNe, Int.reduceToNat, UInt8.reduceToNat, reduceCtorEq, and_true, true_and, decide_true, decide_false]
  refine grdC_split (fun h => ?_) (fun h => ?_) <;> simp only [go_sem, Nat.reduceAdd, Nat.reduceMul, Nat.reduceSub, Nat.reduceEqDiff, Nat.reduceLeDiff, Nat.reduceLT, Int.reduceAdd, Int.reduceSub, Int.reduceMul, Int.reduceNeg, Int.reduceLT, Int.reduceLE, Int.reduceEq, Int.reduceNe, Int.reduceToNat, UInt8.reduceToNat, reduceCtorEq, and_true, true_and, decide_true, decide_false]
  · refine sb ?_; simp [textT] at *; simp_all
  · refine sb ?_; simp [textT] at *; simp_all
end Go.Proofs.YtjnmgfmogganlaaGreatDoor

/-
  Contracts: what is the same.
-/
namespace Go.Proofs.YtjnmgfmogganlaaGreatDoor
open Go.Pu
set_option maxRecDepth 100000
attribute [local irreducible] grdC condC bcond obind nextC loopG loopC loopD grdX grdD grunC stepC putC regK execK startC enterL stayC againC backC opC retH retU bodyL finP finS finW loopN seqC blockC nrmC

@[go_sem] theorem equal_Prop_ok (x y : GProp) : (lim0 E).pure 77 [x.pv, y.pv] = some (.bool (decide (x = y))) := by
  refine pure_of (0) ?_; rw [go_77]; unfold Tryz.f77; simp only [go_sem, Nat.reduceAdd, Nat.reduceMul, Nat.reduceSub, Nat.reduceEqDiff, Nat.reduceLeDiff, Nat.reduceLT, Int.reduceAdd, Int.reduceSub, Int.reduceMul, Int.reduceNeg, Int.reduceLT, Int.reduceLE, Int.reduceEq, Int.reduceNe, Int.reduceToNat, UInt8.reduceToNat, reduceCtorEq, and_true, true_and, decide_true, decide_false]
set_option maxHeartbeats 4000000 in
@[go_sem] theorem equalFunc_Prop_ok (a b : List (GProp)) (h : a.length ≤ 9223372036854775807) : (lim0 E).shut [] 76 [.pv (.lst 4 (List.map (GProp.pv) a)), .pv (.lst 4 (List.map (GProp.pv) b)), .pv (.fn 77)] [] = some (.pv (.bool (decide (a = b))), []) := by
  refine shut_of (a.length + 1) ?_; rw [go_76]; unfold Tryz.f76; simp only [go_sem, Nat.reduceAdd, Nat.reduceMul, Nat.reduceSub, Nat.reduceEqDiff, Nat.reduceLeDiff, Nat.reduceLT, Int.reduceAdd, Int.reduceSub, Int.reduceMul, Int.reduceNeg, Int.reduceLT, Int.reduceLE, Int.reduceEq, Int.reduceNe, Int.reduceToNat, UInt8.reduceToNat, reduceCtorEq, and_true, true_and, decide_true, decide_false]
  refine condC_split (fun hl => ?_) (fun hl => ?_) <;> simp only [go_sem, Nat.reduceAdd, Nat.reduceMul, Nat.reduceSub, Nat.reduceEqDiff, Nat.reduceLeDiff, Nat.reduceLT, Int.reduceAdd, Int.reduceSub, Int.reduceMul, Int.reduceNeg, Int.reduceLT, Int.reduceLE, Int.reduceEq, Int.reduceNe, Int.reduceToNat, UInt8.reduceToNat, reduceCtorEq, and_true, true_and, decide_true, decide_false]
  · have : a ≠ b := by rintro rfl; simp at hl
    simp [this]
  have hab : a.length = b.length := by simp at hl; omega
  refine loop_ind (fun j vs H => ∃ i : Nat, j = a.length - i ∧ i ≤ a.length ∧ H = [] ∧ vs = [.pv (.lst 4 (List.map (GProp.pv) b)), .pv (.fn 77), .pv (.lst 4 (List.map (GProp.pv) a)), .pv (.int .i64 a.length), .pv (.int .i64 i)] ∧ (a = b ↔ a.drop i = b.drop i)) a.length ⟨0, by simp, by simp, rfl, rfl, by simp⟩ (by omega) ?_
  rintro j vs H m' ⟨i, hj, hi, rfl, rfl, hall⟩ ih
  simp only [go_sem, Nat.reduceAdd, Nat.reduceMul, Nat.reduceSub, Nat.reduceEqDiff, Nat.reduceLeDiff, Nat.reduceLT, Int.reduceAdd, Int.reduceSub, Int.reduceMul, Int.reduceNeg, Int.reduceLT, Int.reduceLE, Int.reduceEq, Int.reduceNe, Int.reduceToNat, UInt8.reduceToNat, reduceCtorEq, and_true, true_and, decide_true, decide_false]
  refine condC_split (fun h => ?_) (fun h => ?_) <;> simp only [go_sem, Nat.reduceAdd, Nat.reduceMul, Nat.reduceSub, Nat.reduceEqDiff, Nat.reduceLeDiff, Nat.reduceLT, Int.reduceAdd, Int.reduceSub, Int.reduceMul, Int.reduceNeg, Int.reduceLT, Int.reduceLE, Int.reduceEq, Int.reduceNe, Int.reduceToNat, UInt8.reduceToNat, reduceCtorEq, and_true, true_and, decide_true, decide_false]
  · have hi' : i < a.length := by simp at h; omega
    have hi2 : i < b.length := by omega
    have hd : a.drop i = b.drop i ↔ a[i] = b[i] ∧ a.drop (i + 1) = b.drop (i + 1) := by
      rw [List.drop_eq_getElem_cons hi', List.drop_eq_getElem_cons hi2, List.cons.injEq]
    simp only [go_sem, Nat.reduceAdd, Nat.reduceMul, Nat.reduceSub, Nat.reduceEqDiff, Nat.reduceLeDiff, Nat.reduceLT, Int.reduceAdd, Int.reduceSub, Int.reduceMul, Int.reduceNeg, Int.reduceLT, Int.reduceLE, Int.reduceEq, Int.reduceNe, Int.reduceToNat, UInt8.reduceToNat, reduceCtorEq, and_true, true_and, decide_true, decide_false, hi', hi2]
    refine condC_split (fun g => ?_) (fun g => ?_) <;> simp only [go_sem, Nat.reduceAdd, Nat.reduceMul, Nat.reduceSub, Nat.reduceEqDiff, Nat.reduceLeDiff, Nat.reduceLT, Int.reduceAdd, Int.reduceSub, Int.reduceMul, Int.reduceNeg, Int.reduceLT, Int.reduceLE, Int.reduceEq, Int.reduceNe, Int.reduceToNat, UInt8.reduceToNat, reduceCtorEq, and_true, true_and, decide_true, decide_false]
    · have : ¬ a = b := by rw [hall, hd]; simp at g; exact fun e => g e.1
      simp [this]
    · have g' : a[i] = b[i] := by simpa using g
      rw [w_succ i (by omega)]
      exact ih _ _ _ (by omega) ⟨i + 1, rfl, by omega, rfl, rfl, by rw [hall, hd]; simp [g']⟩
  · have hi' : a.length ≤ i := by simp at h; omega
    have : a = b := by rw [hall, List.drop_eq_nil_of_le hi', List.drop_eq_nil_of_le (by omega)]
    simp [this]
@[go_sem] theorem list_Prop_ok (a b : List (GProp)) (h : a.length ≤ 9223372036854775807) : (lim0 E).pure 52 [.lst 4 (List.map (GProp.pv) a), .lst 4 (List.map (GProp.pv) b)] = some (.bool (decide (a = b))) := by
  have e := equalFunc_Prop_ok a b h
  refine pure_of (0) ?_; rw [go_52]; unfold Tryz.f52; simp only [go_sem, Nat.reduceAdd, Nat.reduceMul, Nat.reduceSub, Nat.reduceEqDiff, Nat.reduceLeDiff, Nat.reduceLT, Int.reduceAdd, Int.reduceSub, Int.reduceMul, Int.reduceNeg, Int.reduceLT, Int.reduceLE, Int.reduceEq, Int.reduceNe, Int.reduceToNat, UInt8.reduceToNat, reduceCtorEq, and_true, true_and, decide_true, decide_false, e]
@[go_sem] theorem equal_Filter_ok (x y : GFilter) : (lim0 E).pure 75 [x.pv, y.pv] = some (.bool (decide (x = y))) := by
  refine pure_of (0) ?_; rw [go_75]; unfold Tryz.f75; simp only [go_sem, Nat.reduceAdd, Nat.reduceMul, Nat.reduceSub, Nat.reduceEqDiff, Nat.reduceLeDiff, Nat.reduceLT, Int.reduceAdd, Int.reduceSub, Int.reduceMul, Int.reduceNeg, Int.reduceLT, Int.reduceLE, Int.reduceEq, Int.reduceNe, Int.reduceToNat, UInt8.reduceToNat, reduceCtorEq, and_true, true_and, decide_true, decide_false]
set_option maxHeartbeats 4000000 in
@[go_sem] theorem equalFunc_Filter_ok (a b : List (GFilter)) (h : a.length ≤ 9223372036854775807) : (lim0 E).shut [] 74 [.pv (.lst 5 (List.map (GFilter.pv) a)), .pv (.lst 5 (List.map (GFilter.pv) b)), .pv (.fn 75)] [] = some (.pv (.bool (decide (a = b))), []) := by
  refine shut_of (a.length + 1) ?_; rw [go_74]; unfold Tryz.f74; simp only [go_sem, Nat.reduceAdd, Nat.reduceMul, Nat.reduceSub, Nat.reduceEqDiff, Nat.reduceLeDiff, Nat.reduceLT, Int.reduceAdd, Int.reduceSub, Int.reduceMul, Int.reduceNeg, Int.reduceLT, Int.reduceLE, Int.reduceEq, Int.reduceNe, Int.reduceToNat, UInt8.reduceToNat, reduceCtorEq, and_true, true_and, decide_true, decide_false]
  refine condC_split (fun hl => ?_) (fun hl => ?_) <;> simp only [go_sem, Nat.reduceAdd, Nat.reduceMul, Nat.reduceSub, Nat.reduceEqDiff, Nat.reduceLeDiff, Nat.reduceLT, Int.reduceAdd, Int.reduceSub, Int.reduceMul, Int.reduceNeg, Int.reduceLT, Int.reduceLE, Int.reduceEq, Int.reduceNe, Int.reduceToNat, UInt8.reduceToNat, reduceCtorEq, and_true, true_and, decide_true, decide_false]
  · have : a ≠ b := by rintro rfl; simp at hl
    simp [this]
  have hab : a.length = b.length := by simp at hl; omega
  refine loop_ind (fun j vs H => ∃ i : Nat, j = a.length - i ∧ i ≤ a.length ∧ H = [] ∧ vs = [.pv (.lst 5 (List.map (GFilter.pv) b)), .pv (.fn 75), .pv (.lst 5 (List.map (GFilter.pv) a)), .pv (.int .i64 a.length), .pv (.int .i64 i)] ∧ (a = b ↔ a.drop i = b.drop i)) a.length ⟨0, by simp, by simp, rfl, rfl, by simp⟩ (by omega) ?_
  rintro j vs H m' ⟨i, hj, hi, rfl, rfl, hall⟩ ih
  simp only [go_sem, Nat.reduceAdd, Nat.reduceMul, Nat.reduceSub, Nat.reduceEqDiff, Nat.reduceLeDiff, Nat.reduceLT, Int.reduceAdd, Int.reduceSub, Int.reduceMul, Int.reduceNeg, Int.reduceLT, Int.reduceLE, Int.reduceEq, Int.reduceNe, Int.reduceToNat, UInt8.reduceToNat, reduceCtorEq, and_true, true_and, decide_true, decide_false]
  refine condC_split (fun h => ?_) (fun h => ?_) <;> simp only [go_sem, Nat.reduceAdd, Nat.reduceMul, Nat.reduceSub, Nat.reduceEqDiff, Nat.reduceLeDiff, Nat.reduceLT, Int.reduceAdd, Int.reduceSub, Int.reduceMul, Int.reduceNeg, Int.reduceLT, Int.reduceLE, Int.reduceEq, Int.reduceNe, Int.reduceToNat, UInt8.reduceToNat, reduceCtorEq, and_true, true_and, decide_true, decide_false]
  · have hi' : i < a.length := by simp at h; omega
    have hi2 : i < b.length := by omega
    have hd : a.drop i = b.drop i ↔ a[i] = b[i] ∧ a.drop (i + 1) = b.drop (i + 1) := by
      rw [List.drop_eq_getElem_cons hi', List.drop_eq_getElem_cons hi2, List.cons.injEq]
    simp only [go_sem, Nat.reduceAdd, Nat.reduceMul, Nat.reduceSub, Nat.reduceEqDiff, Nat.reduceLeDiff, Nat.reduceLT, Int.reduceAdd, Int.reduceSub, Int.reduceMul, Int.reduceNeg, Int.reduceLT, Int.reduceLE, Int.reduceEq, Int.reduceNe, Int.reduceToNat, UInt8.reduceToNat, reduceCtorEq, and_true, true_and, decide_true, decide_false, hi', hi2]
    refine condC_split (fun g => ?_) (fun g => ?_) <;> simp only [go_sem, Nat.reduceAdd, Nat.reduceMul, Nat.reduceSub, Nat.reduceEqDiff, Nat.reduceLeDiff, Nat.reduceLT, Int.reduceAdd, Int.reduceSub, Int.reduceMul, Int.reduceNeg, Int.reduceLT, Int.reduceLE, Int.reduceEq, Int.reduceNe, Int.reduceToNat, UInt8.reduceToNat, reduceCtorEq, and_true, true_and, decide_true, decide_false]
    · have : ¬ a = b := by rw [hall, hd]; simp at g; exact fun e => g e.1
      simp [this]
    · have g' : a[i] = b[i] := by simpa using g
      rw [w_succ i (by omega)]
      exact ih _ _ _ (by omega) ⟨i + 1, rfl, by omega, rfl, rfl, by rw [hall, hd]; simp [g']⟩
  · have hi' : a.length ≤ i := by simp at h; omega
    have : a = b := by rw [hall, List.drop_eq_nil_of_le hi', List.drop_eq_nil_of_le (by omega)]
    simp [this]
@[go_sem] theorem list_Filter_ok (a b : List (GFilter)) (h : a.length ≤ 9223372036854775807) : (lim0 E).pure 51 [.lst 5 (List.map (GFilter.pv) a), .lst 5 (List.map (GFilter.pv) b)] = some (.bool (decide (a = b))) := by
  have e := equalFunc_Filter_ok a b h
  refine pure_of (0) ?_; rw [go_51]; unfold Tryz.f51; simp only [go_sem, Nat.reduceAdd, Nat.reduceMul, Nat.reduceSub, Nat.reduceEqDiff, Nat.reduceLeDiff, Nat.reduceLT, Int.reduceAdd, Int.reduceSub, Int.reduceMul, Int.reduceNeg, Int.reduceLT, Int.reduceLE, Int.reduceEq, Int.reduceNe, Int.reduceToNat, UInt8.reduceToNat, reduceCtorEq, and_true, true_and, decide_true, decide_false, e]
@[go_sem] theorem equal_Int_ok (x y : Int) : (lim0 E).pure 73 [.int .i64 x, .int .i64 y] = some (.bool (decide (x = y))) := by
  refine pure_of (0) ?_; rw [go_73]; unfold Tryz.f73; simp only [go_sem, Nat.reduceAdd, Nat.reduceMul, Nat.reduceSub, Nat.reduceEqDiff, Nat.reduceLeDiff, Nat.reduceLT, Int.reduceAdd, Int.reduceSub, Int.reduceMul, Int.reduceNeg, Int.reduceLT, Int.reduceLE, Int.reduceEq, Int.reduceNe, Int.reduceToNat, UInt8.reduceToNat, reduceCtorEq, and_true, true_and, decide_true, decide_false]
set_option maxHeartbeats 4000000 in
@[go_sem] theorem equalFunc_Int_ok (a b : List (Int)) (h : a.length ≤ 9223372036854775807) : (lim0 E).shut [] 72 [.pv (.lst 1 (List.map (fun z => PV.int .i64 z) a)), .pv (.lst 1 (List.map (fun z => PV.int .i64 z) b)), .pv (.fn 73)] [] = some (.pv (.bool (decide (a = b))), []) := by
  refine shut_of (a.length + 1) ?_; rw [go_72]; unfold Tryz.f72; simp only [go_sem, Nat.reduceAdd, Nat.reduceMul, Nat.reduceSub, Nat.reduceEqDiff, Nat.reduceLeDiff, Nat.reduceLT, Int.reduceAdd, Int.reduceSub, Int.reduceMul, Int.reduceNeg, Int.reduceLT, Int.reduceLE, Int.reduceEq, Int.reduceNe, Int.reduceToNat, UInt8.reduceToNat, reduceCtorEq, and_true, true_and, decide_true, decide_false]
  refine condC_split (fun hl => ?_) (fun hl => ?_) <;> simp only [go_sem, Nat.reduceAdd, Nat.reduceMul, Nat.reduceSub, Nat.reduceEqDiff, Nat.reduceLeDiff, Nat.reduceLT, Int.reduceAdd, Int.reduceSub, Int.reduceMul, Int.reduceNeg, Int.reduceLT, Int.reduceLE, Int.reduceEq, Int.reduceNe, Int.reduceToNat, UInt8.reduceToNat, reduceCtorEq, and_true, true_and, decide_true, decide_false]
  · have : a ≠ b := by rintro rfl; simp at hl
    simp [this]
  have hab : a.length = b.length := by simp at hl; omega
  refine loop_ind (fun j vs H => ∃ i : Nat, j = a.length - i ∧ i ≤ a.length ∧ H = [] ∧ vs = [.pv (.lst 1 (List.map (fun z => PV.int .i64 z) b)), .pv (.fn 73), .pv (.lst 1 (List.map (fun z => PV.int .i64 z) a)), .pv (.int .i64 a.length), .pv (.int .i64 i)] ∧ (a = b ↔ a.drop i = b.drop i)) a.length ⟨0, by simp, by simp, rfl, rfl, by simp⟩ (by omega) ?_
  rintro j vs H m' ⟨i, hj, hi, rfl, rfl, hall⟩ ih
  simp only [go_sem, Nat.reduceAdd, Nat.reduceMul, Nat.reduceSub, Nat.reduceEqDiff, Nat.reduceLeDiff, Nat.reduceLT, Int.reduceAdd, Int.reduceSub, Int.reduceMul, Int.reduceNeg, Int.reduceLT, Int.reduceLE, Int.reduceEq, Int.reduceNe, Int.reduceToNat, UInt8.reduceToNat, reduceCtorEq, and_true, true_and, decide_true, decide_false]
  refine condC_split (fun h => ?_) (fun h => ?_) <;> simp only [go_sem, Nat.reduceAdd, Nat.reduceMul, Nat.reduceSub, Nat.reduceEqDiff, Nat.reduceLeDiff, Nat.reduceLT, Int.reduceAdd, Int.reduceSub, Int.reduceMul, Int.reduceNeg, Int.reduceLT, Int.reduceLE, Int.reduceEq, Int.reduceNe, Int.reduceToNat, UInt8.reduceToNat, reduceCtorEq, and_true, true_and, decide_true, decide_false]
  · have hi' : i < a.length := by simp at h; omega
    have hi2 : i < b.length := by omega
    have hd : a.drop i = b.drop i ↔ a[i] = b[i] ∧ a.drop (i + 1) = b.drop (i + 1) := by
      rw [List.drop_eq_getElem_cons hi', List.drop_eq_getElem_cons hi2, List.cons.injEq]
    simp only [go_sem, Nat.reduceAdd, Nat.reduceMul, Nat.reduceSub, Nat.reduceEqDiff, Nat.reduceLeDiff, Nat.reduceLT, Int.reduceAdd, Int.reduceSub, Int.reduceMul, Int.reduceNeg, Int.reduceLT, Int.reduceLE, Int.reduceEq, Int.reduceNe, Int.reduceToNat, UInt8.reduceToNat, reduceCtorEq, and_true, true_and, decide_true, decide_false, hi', hi2]
    refine condC_split (fun g => ?_) (fun g => ?_) <;> simp only [go_sem, Nat.reduceAdd, Nat.reduceMul, Nat.reduceSub, Nat.reduceEqDiff, Nat.reduceLeDiff, Nat.reduceLT, Int.reduceAdd, Int.reduceSub, Int.reduceMul, Int.reduceNeg, Int.reduceLT, Int.reduceLE, Int.reduceEq, Int.reduceNe, Int.reduceToNat, UInt8.reduceToNat, reduceCtorEq, and_true, true_and, decide_true, decide_false]
    · have : ¬ a = b := by rw [hall, hd]; simp at g; exact fun e => g e.1
      simp [this]
    · have g' : a[i] = b[i] := by simpa using g
      rw [w_succ i (by omega)]
      exact ih _ _ _ (by omega) ⟨i + 1, rfl, by omega, rfl, rfl, by rw [hall, hd]; simp [g']⟩
  · have hi' : a.length ≤ i := by simp at h; omega
    have : a = b := by rw [hall, List.drop_eq_nil_of_le hi', List.drop_eq_nil_of_le (by omega)]
    simp [this]
@[go_sem] theorem list_Int_ok (a b : List (Int)) (h : a.length ≤ 9223372036854775807) : (lim0 E).pure 50 [.lst 1 (List.map (fun z => PV.int .i64 z) a), .lst 1 (List.map (fun z => PV.int .i64 z) b)] = some (.bool (decide (a = b))) := by
  have e := equalFunc_Int_ok a b h
  refine pure_of (0) ?_; rw [go_50]; unfold Tryz.f50; simp only [go_sem, Nat.reduceAdd, Nat.reduceMul, Nat.reduceSub, Nat.reduceEqDiff, Nat.reduceLeDiff, Nat.reduceLT, Int.reduceAdd, Int.reduceSub, Int.reduceMul, Int.reduceNeg, Int.reduceLT, Int.reduceLE, Int.reduceEq, Int.reduceNe, Int.reduceToNat, UInt8.reduceToNat, reduceCtorEq, and_true, true_and, decide_true, decide_false, e]

@[go_sem] theorem strip_ok (p : GPacket) : (lim0 E).pure 48 [p.pv] = some (GHeadBare.pv ⟨p.kind, p.qos, p.id, p.keepalive, p.code, p.dup, p.retain, p.clean, p.hasuser, p.haspass, p.haswill, p.session, p.topic, p.payload, p.client, p.user, p.pass⟩) := by
  refine pure_of (0) ?_; rw [go_48]; unfold Tryz.f48; simp only [go_sem, Nat.reduceAdd, Nat.reduceMul, Nat.reduceSub, Nat.reduceEqDiff, Nat.reduceLeDiff, Nat.reduceLT, Int.reduceAdd, Int.reduceSub, Int.reduceMul, Int.reduceNeg, Int.reduceLT, Int.reduceLE, Int.reduceEq, Int.reduceNe, Int.reduceToNat, UInt8.reduceToNat, reduceCtorEq, and_true, true_and, decide_true, decide_false]
set_option maxHeartbeats 4000000 in
@[go_sem] theorem sameWill_ok (a b : GWill) (h : a.props.length ≤ 9223372036854775807) : (lim0 E).pure 49 [a.pv, b.pv] = some (.bool (decide (a = b))) := by
  have e := list_Prop_ok a.props b.props h
  refine pure_of (0) ?_; rw [go_49]; unfold Tryz.f49; simp only [go_sem, Nat.reduceAdd, Nat.reduceMul, Nat.reduceSub, Nat.reduceEqDiff, Nat.reduceLeDiff, Nat.reduceLT, Int.reduceAdd, Int.reduceSub, Int.reduceMul, Int.reduceNeg, Int.reduceLT, Int.reduceLE, Int.reduceEq, Int.reduceNe, Int.reduceToNat, UInt8.reduceToNat, reduceCtorEq, and_true, true_and, decide_true, decide_false]
  repeat' (first | (refine grdC_split (fun h => ?_) (fun h => ?_) <;> try simp only [go_sem, Nat.reduceAdd, Nat.reduceMul, Nat.reduceSub, Nat.reduceEqDiff, Nat.reduceLeDiff, Nat.reduceLT, Int.reduceAdd, Int.reduceSub, Int.reduceMul, Int.reduceNeg, Int.reduceLT, Int.reduceLE, Int.reduceEq, Int.reduceNe, Int.reduceToNat, UInt8.reduceToNat, reduceCtorEq, and_true, true_and, decide_true, decide_false, e]) | (refine condC_split (fun h => ?_) (fun h => ?_) <;> try simp only [go_sem, Nat.reduceAdd, Nat.reduceMul, Nat.reduceSub, Nat.reduceEqDiff, Nat.reduceLeDiff, Nat.reduceLT, Int.reduceAdd, Int.reduceSub, Int.reduceMul, Int.reduceNeg, Int.reduceLT, Int.reduceLE, Int.reduceEq, Int.reduceNe, Int.reduceToNat, UInt8.reduceToNat, reduceCtorEq, and_true, true_and, decide_true, decide_false, e]) | (refine bcond_eq (fun h => ?_) (fun h => ?_) <;> try simp only [go_sem, Nat.reduceAdd, Nat.reduceMul, Nat.reduceSub, Nat.reduceEqDiff, Nat.reduceLeDiff, Nat.reduceLT, Int.reduceAdd, Int.reduceSub, Int.reduceMul, Int.reduceNeg, Int.reduceLT, Int.reduceLE, Int.reduceEq, Int.reduceNe, Int.reduceToNat, UInt8.reduceToNat, reduceCtorEq, and_true, true_and, decide_true, decide_false, e]))
  all_goals (clear e; cases a; cases b; simp_all)
set_option maxHeartbeats 4000000 in
@[go_sem] theorem headSame_ok (a b : GPacket) (h1 : a.props.length ≤ 9223372036854775807) (h2 : a.will.props.length ≤ 9223372036854775807) (h3 : a.filters.length ≤ 9223372036854775807) (h4 : a.codes.length ≤ 9223372036854775807) : (lim0 E).pure 39 [a.pv, b.pv] = some (.bool (decide (a = b))) := by
  have e1 := list_Prop_ok a.props b.props h1
  have e2 := list_Filter_ok a.filters b.filters h3
  have e3 := list_Int_ok a.codes b.codes h4
  have e4 := sameWill_ok a.will b.will h2
  refine pure_of (0) ?_; rw [go_39]; unfold Tryz.f39; simp only [go_sem, Nat.reduceAdd, Nat.reduceMul, Nat.reduceSub, Nat.reduceEqDiff, Nat.reduceLeDiff, Nat.reduceLT, Int.reduceAdd, Int.reduceSub, Int.reduceMul, Int.reduceNeg, Int.reduceLT, Int.reduceLE, Int.reduceEq, Int.reduceNe, Int.reduceToNat, UInt8.reduceToNat, reduceCtorEq, and_true, true_and, decide_true, decide_false]
  repeat' (first | (refine grdC_split (fun h => ?_) (fun h => ?_) <;> try simp only [go_sem, Nat.reduceAdd, Nat.reduceMul, Nat.reduceSub, Nat.reduceEqDiff, Nat.reduceLeDiff, Nat.reduceLT, Int.reduceAdd, Int.reduceSub, Int.reduceMul, Int.reduceNeg, Int.reduceLT, Int.reduceLE, Int.reduceEq, Int.reduceNe, Int.reduceToNat, UInt8.reduceToNat, reduceCtorEq, and_true, true_and, decide_true, decide_false, e1, e2, e3, e4]) | (refine condC_split (fun h => ?_) (fun h => ?_) <;> try simp only [go_sem, Nat.reduceAdd, Nat.reduceMul, Nat.reduceSub, Nat.reduceEqDiff, Nat.reduceLeDiff, Nat.reduceLT, Int.reduceAdd, Int.reduceSub, Int.reduceMul, Int.reduceNeg, Int.reduceLT, Int.reduceLE, Int.reduceEq, Int.reduceNe, Int.reduceToNat, UInt8.reduceToNat, reduceCtorEq, and_true, true_and, decide_true, decide_false, e1, e2, e3, e4]) | (refine bcond_eq (fun h => ?_) (fun h => ?_) <;> try simp only [go_sem, Nat.reduceAdd, Nat.reduceMul, Nat.reduceSub, Nat.reduceEqDiff, Nat.reduceLeDiff, Nat.reduceLT, Int.reduceAdd, Int.reduceSub, Int.reduceMul, Int.reduceNeg, Int.reduceLT, Int.reduceLE, Int.reduceEq, Int.reduceNe, Int.reduceToNat, UInt8.reduceToNat, reduceCtorEq, and_true, true_and, decide_true, decide_false, e1, e2, e3, e4]))
  all_goals first
    | (have : a ≠ b := by (rintro rfl; clear e1 e2 e3 e4; simp at *)
       simp [this]; done)
    | (clear e1 e2 e3 e4; cases a; cases b; simp_all; done)
mutual
/-- Are two values the same? -/
def sameV : GValue → GValue → Bool
  | .mk k n t is, .mk k' n' t' is' => decide (k = k') && decide (n = n') && decide (t = t') && sameVs is is'
def sameVs : List GValue → List GValue → Bool
  | [], [] => true
  | a :: xs, b :: ys => sameV a b && sameVs xs ys
  | _, _ => false
end
mutual
theorem sameV_iff : ∀ (a b : GValue), sameV a b = true ↔ a = b
  | .mk k n t is, .mk k' n' t' is' => by simp [sameV, sameVs_iff is is', and_assoc]
theorem sameVs_iff : ∀ (xs ys : List GValue), sameVs xs ys = true ↔ xs = ys
  | [], [] => by simp [sameVs]
  | [], _ :: _ => by simp [sameVs]
  | _ :: _, [] => by simp [sameVs]
  | a :: xs, b :: ys => by simp [sameVs, sameV_iff a b, sameVs_iff xs ys]
end
theorem sameV_eq (a b : GValue) : sameV a b = (decide (a.kind = b.kind) && decide (a.n = b.n) && decide (a.text = b.text) && sameVs a.items b.items) := by cases a; cases b; rw [sameV]; rfl
theorem sameVs_length : ∀ (xs ys : List GValue), xs.length ≠ ys.length → sameVs xs ys = false := by
  intro xs ys h
  cases e : sameVs xs ys with
  | false => rfl
  | true => exact absurd (congrArg List.length ((sameVs_iff xs ys).1 e)) h
set_option maxHeartbeats 4000000 in
theorem amqSame' (k : Nat) : ∀ (a b : GValue), SizeOf.sizeOf a ≤ k → wfV a → (lim0 E).pure 53 [a.pv, b.pv] = some (.bool (sameV a b)) := by
  induction k with
  | zero => intro a b h; cases a; simp at h
  | succ k ihk =>
  intro a b hk hwf
  rw [wfV_eq] at hwf
  obtain ⟨_, hlen, hwfs⟩ := hwf
  refine pure_of (a.items.length + 1) ?_; rw [go_53]; unfold Tryz.f53; simp only [go_sem, Nat.reduceAdd, Nat.reduceMul, Nat.reduceSub, Nat.reduceEqDiff, Nat.reduceLeDiff, Nat.reduceLT, Int.reduceAdd, Int.reduceSub, Int.reduceMul, Int.reduceNeg, Int.reduceLT, Int.reduceLE, Int.reduceEq, Int.reduceNe, Int.reduceToNat, UInt8.reduceToNat, reduceCtorEq, and_true, true_and, decide_true, decide_false]
  repeat' (first | (refine grdC_split (fun h => ?_) (fun h => ?_) <;> try simp only [go_sem, Nat.reduceAdd, Nat.reduceMul, Nat.reduceSub, Nat.reduceEqDiff, Nat.reduceLeDiff, Nat.reduceLT, Int.reduceAdd, Int.reduceSub, Int.reduceMul, Int.reduceNeg, Int.reduceLT, Int.reduceLE, Int.reduceEq, Int.reduceNe, Int.reduceToNat, UInt8.reduceToNat, reduceCtorEq, and_true, true_and, decide_true, decide_false]) | (refine condC_split (fun h => ?_) (fun h => ?_) <;> try simp only [go_sem, Nat.reduceAdd, Nat.reduceMul, Nat.reduceSub, Nat.reduceEqDiff, Nat.reduceLeDiff, Nat.reduceLT, Int.reduceAdd, Int.reduceSub, Int.reduceMul, Int.reduceNeg, Int.reduceLT, Int.reduceLE, Int.reduceEq, Int.reduceNe, Int.reduceToNat, UInt8.reduceToNat, reduceCtorEq, and_true, true_and, decide_true, decide_false]) | (refine bcond_eq (fun h => ?_) (fun h => ?_) <;> try simp only [go_sem, Nat.reduceAdd, Nat.reduceMul, Nat.reduceSub, Nat.reduceEqDiff, Nat.reduceLeDiff, Nat.reduceLT, Int.reduceAdd, Int.reduceSub, Int.reduceMul, Int.reduceNeg, Int.reduceLT, Int.reduceLE, Int.reduceEq, Int.reduceNe, Int.reduceToNat, UInt8.reduceToNat, reduceCtorEq, and_true, true_and, decide_true, decide_false]))
  · rw [sameV_eq]; simp_all
  · rw [sameV_eq]; simp_all
  · rw [sameV_eq]; simp_all
  · rw [sameV_eq, sameVs_length _ _ (by simp at *; omega)]; simp
  rename_i g1 g2 g3
  have hab : a.items.length = b.items.length := by simp at *; omega
  have hs : sameV a b = sameVs a.items b.items := by rw [sameV_eq]; simp_all
  rw [hs]
  refine loop_ind (fun j vs H => ∃ i : Nat, j = a.items.length - i ∧ i ≤ a.items.length ∧ H = [.cells a.avs, .cells b.avs] ∧ vs = [.ptr 0 0, .ptr 1 0, .pv (.int .i64 a.items.length), .pv (.int .i64 i)] ∧ sameVs a.items b.items = sameVs (a.items.drop i) (b.items.drop i)) a.items.length ⟨0, by simp, by simp, rfl, rfl, by simp⟩ (by omega) ?_
  rintro j vs H m' ⟨i, hj, hi, rfl, rfl, hall⟩ ih
  simp only [go_sem, Nat.reduceAdd, Nat.reduceMul, Nat.reduceSub, Nat.reduceEqDiff, Nat.reduceLeDiff, Nat.reduceLT, Int.reduceAdd, Int.reduceSub, Int.reduceMul, Int.reduceNeg, Int.reduceLT, Int.reduceLE, Int.reduceEq, Int.reduceNe, Int.reduceToNat, UInt8.reduceToNat, reduceCtorEq, and_true, true_and, decide_true, decide_false]
  refine condC_split (fun h => ?_) (fun h => ?_) <;> simp only [go_sem, Nat.reduceAdd, Nat.reduceMul, Nat.reduceSub, Nat.reduceEqDiff, Nat.reduceLeDiff, Nat.reduceLT, Int.reduceAdd, Int.reduceSub, Int.reduceMul, Int.reduceNeg, Int.reduceLT, Int.reduceLE, Int.reduceEq, Int.reduceNe, Int.reduceToNat, UInt8.reduceToNat, reduceCtorEq, and_true, true_and, decide_true, decide_false]
  · have hi' : i < a.items.length := by simp at h; omega
    have hi2 : i < b.items.length := by omega
    have hd : sameVs (a.items.drop i) (b.items.drop i) = (sameV a.items[i] b.items[i] && sameVs (a.items.drop (i + 1)) (b.items.drop (i + 1))) := by
      rw [List.drop_eq_getElem_cons hi', List.drop_eq_getElem_cons hi2, sameVs]
    have hm := List.getElem_mem hi'
    have e := ihk a.items[i] b.items[i] (by have := items_lt a _ hm; omega) (wfVs_mem hwfs _ hm)
    simp only [go_sem, Nat.reduceAdd, Nat.reduceMul, Nat.reduceSub, Nat.reduceEqDiff, Nat.reduceLeDiff, Nat.reduceLT, Int.reduceAdd, Int.reduceSub, Int.reduceMul, Int.reduceNeg, Int.reduceLT, Int.reduceLE, Int.reduceEq, Int.reduceNe, Int.reduceToNat, UInt8.reduceToNat, reduceCtorEq, and_true, true_and, decide_true, decide_false, hi', hi2, e]
    refine condC_split (fun g => ?_) (fun g => ?_) <;> simp only [go_sem, Nat.reduceAdd, Nat.reduceMul, Nat.reduceSub, Nat.reduceEqDiff, Nat.reduceLeDiff, Nat.reduceLT, Int.reduceAdd, Int.reduceSub, Int.reduceMul, Int.reduceNeg, Int.reduceLT, Int.reduceLE, Int.reduceEq, Int.reduceNe, Int.reduceToNat, UInt8.reduceToNat, reduceCtorEq, and_true, true_and, decide_true, decide_false]
    · rw [hall, hd]; simp at g; simp [g]
    · rw [w_succ i (by omega)]
      exact ih _ _ _ (by omega) ⟨i + 1, rfl, by omega, rfl, rfl, by rw [hall, hd]; simp at g; simp [g]⟩
  · have hi' : a.items.length ≤ i := by simp at h; omega
    rw [hall, List.drop_eq_nil_of_le hi', List.drop_eq_nil_of_le (by omega)]; rfl
@[go_sem] theorem amqSame_ok (a b : GValue) (h : wfV a) : (lim0 E).pure 53 [a.pv, b.pv] = some (.bool (sameV a b)) := amqSame' _ a b (Nat.le_refl _) h
end Go.Proofs.YtjnmgfmogganlaaGreatDoor
