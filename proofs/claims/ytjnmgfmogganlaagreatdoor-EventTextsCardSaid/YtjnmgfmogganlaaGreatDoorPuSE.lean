/-
  Contracts: an event as a line.
-/
import Derived.Test.YtjnmgfmogganlaaGreatDoorPuSD
import Derived.Test.YtjnmgfmogganlaaGreatDoorPuL1
import Derived.Test.YtjnmgfmogganlaaGreatDoorPuN
import Derived.Test.YtjnmgfmogganlaaGreatDoorPuA26
set_option linter.unusedSimpArgs false
set_option linter.unusedVariables false
namespace Go.Proofs.YtjnmgfmogganlaaGreatDoor
open Go.Pu
set_option maxRecDepth 100000
attribute [local irreducible] grdC condC bcond obind nextC loopG loopC loopD grdX grdD grunC stepC putC regK execK startC enterL stayC againC backC opC retH retU bodyL finP finS finW loopN seqC blockC nrmC

def nameE (n : Int) : List UInt8 := protoName n
theorem decI_length (n : Int) (h : -1 ≤ n) (h' : n ≤ 2000) : (decI n).length ≤ 30 := by
  have key : ∀ k : Nat, k < 2002 → (decI ((k : Int) - 1)).length ≤ 30 := by decide +kernel
  have := key (n + 1).toNat (by omega)
  rwa [show (((n + 1).toNat : Nat) : Int) - 1 = n by omega] at this
set_option maxHeartbeats 8000000 in
theorem eventText_ok (e : GEvent) (hk : e.kind = 1) (hp : 1 ≤ e.proto ∧ e.proto ≤ 4) (hq : -1 ≤ e.qos ∧ e.qos ≤ 2) (ht : e.topic.length ≤ 2000) (hl : e.payload.length ≤ 2000)
    (i1 : (lim0 E).pure 31 [.int .i64 e.qos] = some (.str (decI e.qos))) (i2 : (lim0 E).pure 31 [.int .i64 (e.payload.length : Int)] = some (.str (decI (e.payload.length : Int)))) :
    (lim0 E).pure 7 [e.pv] = some (.str (lineOf e.proto e.qos e.topic e.payload.length e.retain)) := by
  have hb : (protoName e.proto).length ≤ 5 := by
    have : e.proto = 1 ∨ e.proto = 2 ∨ e.proto = 3 ∨ e.proto = 4 := by omega
    rcases this with h | h | h | h <;> rw [h] <;> decide +kernel
  have q1 := decI_length e.qos (by omega) (by omega)
  have q2 := decI_length (e.payload.length : Int) (by omega) (by omega)
  have hpr : e.proto = 1 ∨ e.proto = 2 ∨ e.proto = 3 ∨ e.proto = 4 := by omega
  have hdl : decI (e.payload.length : Int) = dec e.payload.length := by
    rw [decI, if_neg (by omega)]; simp
  rcases hpr with h | h | h | h
  · have c2 : (decI e.qos).length + 1 + 1 + 1 + 1 + 1 + 1 + 1 + 1 + 1 + 1 + 1 + 1 + 1 + 1 + 1 + 1 ≤ 9223372036854775807 := by omega
    have c3 : (decI e.qos).length + 1 + 1 + 1 + 1 + 1 + 1 + 1 + 1 + 1 + 1 + 1 + 1 + 1 + 1 + 1 + 1 + e.topic.length ≤ 9223372036854775807 := by omega
    have c4 : (decI e.qos).length + 1 + e.topic.length + 1 + 1 + 1 + 1 + 1 + 1 + 1 + 1 + 1 + 1 + 1 + 1 + 1 + 1 + 1 + 1 ≤ 9223372036854775807 := by omega
    have c5 : (decI e.qos).length + 1 + e.topic.length + 1 + 1 + 1 + 1 + 1 + 1 + 1 + 1 + 1 + 1 + 1 + 1 + 1 + 1 + 1 + 1 + (decI (e.payload.length : Int)).length ≤ 9223372036854775807 := by omega
    have c6 : (decI e.qos).length + 1 + e.topic.length + 1 + (decI (e.payload.length : Int)).length + 1 + 1 + 1 + 1 + 1 + 1 + 1 + 1 + 1 + 1 + 1 + 1 + 1 + 1 + 1 + 7 ≤ 9223372036854775807 := by omega
    have c1 : 15 + (decI e.qos).length ≤ 9223372036854775807 := by omega
    refine pure_of (0) ?_; rw [go_7]; unfold Tryz.f7; simp only [go_sem, Nat.reduceAdd, Nat.reduceMul, Nat.reduceSub, Nat.reduceEqDiff, Nat.reduceLeDiff, Nat.reduceLT, Int.reduceAdd, Int.reduceSub, Int.reduceMul, Int.reduceNeg, Int.reduceLT, Int.reduceLE, Int.reduceEq, Int.reduceNe, Int.reduceToNat, UInt8.reduceToNat, reduceCtorEq, and_true, true_and, decide_true, decide_false, labelsM, hk, i1, i2, h, c1, c2, c3, c4, c5, c6]
    repeat' (first | (refine grdC_split (fun h => ?_) (fun h => ?_) <;> try simp only [go_sem, Nat.reduceAdd, Nat.reduceMul, Nat.reduceSub, Nat.reduceEqDiff, Nat.reduceLeDiff, Nat.reduceLT, Int.reduceAdd, Int.reduceSub, Int.reduceMul, Int.reduceNeg, Int.reduceLT, Int.reduceLE, Int.reduceEq, Int.reduceNe, Int.reduceToNat, UInt8.reduceToNat, reduceCtorEq, and_true, true_and, decide_true, decide_false, c6]) | (refine condC_split (fun h => ?_) (fun h => ?_) <;> try simp only [go_sem, Nat.reduceAdd, Nat.reduceMul, Nat.reduceSub, Nat.reduceEqDiff, Nat.reduceLeDiff, Nat.reduceLT, Int.reduceAdd, Int.reduceSub, Int.reduceMul, Int.reduceNeg, Int.reduceLT, Int.reduceLE, Int.reduceEq, Int.reduceNe, Int.reduceToNat, UInt8.reduceToNat, reduceCtorEq, and_true, true_and, decide_true, decide_false, c6]) | (refine bcond_eq (fun h => ?_) (fun h => ?_) <;> try simp only [go_sem, Nat.reduceAdd, Nat.reduceMul, Nat.reduceSub, Nat.reduceEqDiff, Nat.reduceLeDiff, Nat.reduceLT, Int.reduceAdd, Int.reduceSub, Int.reduceMul, Int.reduceNeg, Int.reduceLT, Int.reduceLE, Int.reduceEq, Int.reduceNe, Int.reduceToNat, UInt8.reduceToNat, reduceCtorEq, and_true, true_and, decide_true, decide_false, c6]))
    all_goals (clear c1 c2 c3 c4 c5 c6 i1 i2; rw [hdl]; simp_all [lineOf, protoName, pubq, ret])
  · have c2 : (decI e.qos).length + 1 + 1 + 1 + 1 + 1 + 1 + 1 + 1 + 1 + 1 + 1 + 1 + 1 + 1 + 1 + 1 ≤ 9223372036854775807 := by omega
    have c3 : (decI e.qos).length + 1 + 1 + 1 + 1 + 1 + 1 + 1 + 1 + 1 + 1 + 1 + 1 + 1 + 1 + 1 + 1 + e.topic.length ≤ 9223372036854775807 := by omega
    have c4 : (decI e.qos).length + 1 + e.topic.length + 1 + 1 + 1 + 1 + 1 + 1 + 1 + 1 + 1 + 1 + 1 + 1 + 1 + 1 + 1 + 1 ≤ 9223372036854775807 := by omega
    have c5 : (decI e.qos).length + 1 + e.topic.length + 1 + 1 + 1 + 1 + 1 + 1 + 1 + 1 + 1 + 1 + 1 + 1 + 1 + 1 + 1 + 1 + (decI (e.payload.length : Int)).length ≤ 9223372036854775807 := by omega
    have c6 : (decI e.qos).length + 1 + e.topic.length + 1 + (decI (e.payload.length : Int)).length + 1 + 1 + 1 + 1 + 1 + 1 + 1 + 1 + 1 + 1 + 1 + 1 + 1 + 1 + 1 + 7 ≤ 9223372036854775807 := by omega
    have c1 : 15 + (decI e.qos).length ≤ 9223372036854775807 := by omega
    refine pure_of (0) ?_; rw [go_7]; unfold Tryz.f7; simp only [go_sem, Nat.reduceAdd, Nat.reduceMul, Nat.reduceSub, Nat.reduceEqDiff, Nat.reduceLeDiff, Nat.reduceLT, Int.reduceAdd, Int.reduceSub, Int.reduceMul, Int.reduceNeg, Int.reduceLT, Int.reduceLE, Int.reduceEq, Int.reduceNe, Int.reduceToNat, UInt8.reduceToNat, reduceCtorEq, and_true, true_and, decide_true, decide_false, labelsM, hk, i1, i2, h, c1, c2, c3, c4, c5, c6]
    repeat' (first | (refine grdC_split (fun h => ?_) (fun h => ?_) <;> try simp only [go_sem, Nat.reduceAdd, Nat.reduceMul, Nat.reduceSub, Nat.reduceEqDiff, Nat.reduceLeDiff, Nat.reduceLT, Int.reduceAdd, Int.reduceSub, Int.reduceMul, Int.reduceNeg, Int.reduceLT, Int.reduceLE, Int.reduceEq, Int.reduceNe, Int.reduceToNat, UInt8.reduceToNat, reduceCtorEq, and_true, true_and, decide_true, decide_false, c6]) | (refine condC_split (fun h => ?_) (fun h => ?_) <;> try simp only [go_sem, Nat.reduceAdd, Nat.reduceMul, Nat.reduceSub, Nat.reduceEqDiff, Nat.reduceLeDiff, Nat.reduceLT, Int.reduceAdd, Int.reduceSub, Int.reduceMul, Int.reduceNeg, Int.reduceLT, Int.reduceLE, Int.reduceEq, Int.reduceNe, Int.reduceToNat, UInt8.reduceToNat, reduceCtorEq, and_true, true_and, decide_true, decide_false, c6]) | (refine bcond_eq (fun h => ?_) (fun h => ?_) <;> try simp only [go_sem, Nat.reduceAdd, Nat.reduceMul, Nat.reduceSub, Nat.reduceEqDiff, Nat.reduceLeDiff, Nat.reduceLT, Int.reduceAdd, Int.reduceSub, Int.reduceMul, Int.reduceNeg, Int.reduceLT, Int.reduceLE, Int.reduceEq, Int.reduceNe, Int.reduceToNat, UInt8.reduceToNat, reduceCtorEq, and_true, true_and, decide_true, decide_false, c6]))
    all_goals (clear c1 c2 c3 c4 c5 c6 i1 i2; rw [hdl]; simp_all [lineOf, protoName, pubq, ret])
  · have c2 : (decI e.qos).length + 1 + 1 + 1 + 1 + 1 + 1 + 1 + 1 + 1 + 1 + 1 + 1 + 1 ≤ 9223372036854775807 := by omega
    have c3 : (decI e.qos).length + 1 + 1 + 1 + 1 + 1 + 1 + 1 + 1 + 1 + 1 + 1 + 1 + 1 + e.topic.length ≤ 9223372036854775807 := by omega
    have c4 : (decI e.qos).length + 1 + e.topic.length + 1 + 1 + 1 + 1 + 1 + 1 + 1 + 1 + 1 + 1 + 1 + 1 + 1 ≤ 9223372036854775807 := by omega
    have c5 : (decI e.qos).length + 1 + e.topic.length + 1 + 1 + 1 + 1 + 1 + 1 + 1 + 1 + 1 + 1 + 1 + 1 + 1 + (decI (e.payload.length : Int)).length ≤ 9223372036854775807 := by omega
    have c6 : (decI e.qos).length + 1 + e.topic.length + 1 + (decI (e.payload.length : Int)).length + 1 + 1 + 1 + 1 + 1 + 1 + 1 + 1 + 1 + 1 + 1 + 1 + 7 ≤ 9223372036854775807 := by omega
    have c1 : 12 + (decI e.qos).length ≤ 9223372036854775807 := by omega
    refine pure_of (0) ?_; rw [go_7]; unfold Tryz.f7; simp only [go_sem, Nat.reduceAdd, Nat.reduceMul, Nat.reduceSub, Nat.reduceEqDiff, Nat.reduceLeDiff, Nat.reduceLT, Int.reduceAdd, Int.reduceSub, Int.reduceMul, Int.reduceNeg, Int.reduceLT, Int.reduceLE, Int.reduceEq, Int.reduceNe, Int.reduceToNat, UInt8.reduceToNat, reduceCtorEq, and_true, true_and, decide_true, decide_false, labelsM, hk, i1, i2, h, c1, c2, c3, c4, c5, c6]
    repeat' (first | (refine grdC_split (fun h => ?_) (fun h => ?_) <;> try simp only [go_sem, Nat.reduceAdd, Nat.reduceMul, Nat.reduceSub, Nat.reduceEqDiff, Nat.reduceLeDiff, Nat.reduceLT, Int.reduceAdd, Int.reduceSub, Int.reduceMul, Int.reduceNeg, Int.reduceLT, Int.reduceLE, Int.reduceEq, Int.reduceNe, Int.reduceToNat, UInt8.reduceToNat, reduceCtorEq, and_true, true_and, decide_true, decide_false, c6]) | (refine condC_split (fun h => ?_) (fun h => ?_) <;> try simp only [go_sem, Nat.reduceAdd, Nat.reduceMul, Nat.reduceSub, Nat.reduceEqDiff, Nat.reduceLeDiff, Nat.reduceLT, Int.reduceAdd, Int.reduceSub, Int.reduceMul, Int.reduceNeg, Int.reduceLT, Int.reduceLE, Int.reduceEq, Int.reduceNe, Int.reduceToNat, UInt8.reduceToNat, reduceCtorEq, and_true, true_and, decide_true, decide_false, c6]) | (refine bcond_eq (fun h => ?_) (fun h => ?_) <;> try simp only [go_sem, Nat.reduceAdd, Nat.reduceMul, Nat.reduceSub, Nat.reduceEqDiff, Nat.reduceLeDiff, Nat.reduceLT, Int.reduceAdd, Int.reduceSub, Int.reduceMul, Int.reduceNeg, Int.reduceLT, Int.reduceLE, Int.reduceEq, Int.reduceNe, Int.reduceToNat, UInt8.reduceToNat, reduceCtorEq, and_true, true_and, decide_true, decide_false, c6]))
    all_goals (clear c1 c2 c3 c4 c5 c6 i1 i2; rw [hdl]; simp_all [lineOf, protoName, pubq, ret])
  · have c2 : (decI e.qos).length + 1 + 1 + 1 + 1 + 1 + 1 + 1 + 1 + 1 + 1 + 1 + 1 + 1 + 1 + 1 ≤ 9223372036854775807 := by omega
    have c3 : (decI e.qos).length + 1 + 1 + 1 + 1 + 1 + 1 + 1 + 1 + 1 + 1 + 1 + 1 + 1 + 1 + 1 + e.topic.length ≤ 9223372036854775807 := by omega
    have c4 : (decI e.qos).length + 1 + e.topic.length + 1 + 1 + 1 + 1 + 1 + 1 + 1 + 1 + 1 + 1 + 1 + 1 + 1 + 1 + 1 ≤ 9223372036854775807 := by omega
    have c5 : (decI e.qos).length + 1 + e.topic.length + 1 + 1 + 1 + 1 + 1 + 1 + 1 + 1 + 1 + 1 + 1 + 1 + 1 + 1 + 1 + (decI (e.payload.length : Int)).length ≤ 9223372036854775807 := by omega
    have c6 : (decI e.qos).length + 1 + e.topic.length + 1 + (decI (e.payload.length : Int)).length + 1 + 1 + 1 + 1 + 1 + 1 + 1 + 1 + 1 + 1 + 1 + 1 + 1 + 1 + 7 ≤ 9223372036854775807 := by omega
    have c1 : 14 + (decI e.qos).length ≤ 9223372036854775807 := by omega
    refine pure_of (0) ?_; rw [go_7]; unfold Tryz.f7; simp only [go_sem, Nat.reduceAdd, Nat.reduceMul, Nat.reduceSub, Nat.reduceEqDiff, Nat.reduceLeDiff, Nat.reduceLT, Int.reduceAdd, Int.reduceSub, Int.reduceMul, Int.reduceNeg, Int.reduceLT, Int.reduceLE, Int.reduceEq, Int.reduceNe, Int.reduceToNat, UInt8.reduceToNat, reduceCtorEq, and_true, true_and, decide_true, decide_false, labelsM, hk, i1, i2, h, c1, c2, c3, c4, c5, c6]
    repeat' (first | (refine grdC_split (fun h => ?_) (fun h => ?_) <;> try simp only [go_sem, Nat.reduceAdd, Nat.reduceMul, Nat.reduceSub, Nat.reduceEqDiff, Nat.reduceLeDiff, Nat.reduceLT, Int.reduceAdd, Int.reduceSub, Int.reduceMul, Int.reduceNeg, Int.reduceLT, Int.reduceLE, Int.reduceEq, Int.reduceNe, Int.reduceToNat, UInt8.reduceToNat, reduceCtorEq, and_true, true_and, decide_true, decide_false, c6]) | (refine condC_split (fun h => ?_) (fun h => ?_) <;> try simp only [go_sem, Nat.reduceAdd, Nat.reduceMul, Nat.reduceSub, Nat.reduceEqDiff, Nat.reduceLeDiff, Nat.reduceLT, Int.reduceAdd, Int.reduceSub, Int.reduceMul, Int.reduceNeg, Int.reduceLT, Int.reduceLE, Int.reduceEq, Int.reduceNe, Int.reduceToNat, UInt8.reduceToNat, reduceCtorEq, and_true, true_and, decide_true, decide_false, c6]) | (refine bcond_eq (fun h => ?_) (fun h => ?_) <;> try simp only [go_sem, Nat.reduceAdd, Nat.reduceMul, Nat.reduceSub, Nat.reduceEqDiff, Nat.reduceLeDiff, Nat.reduceLT, Int.reduceAdd, Int.reduceSub, Int.reduceMul, Int.reduceNeg, Int.reduceLT, Int.reduceLE, Int.reduceEq, Int.reduceNe, Int.reduceToNat, UInt8.reduceToNat, reduceCtorEq, and_true, true_and, decide_true, decide_false, c6]))
    all_goals (clear c1 c2 c3 c4 c5 c6 i1 i2; rw [hdl]; simp_all [lineOf, protoName, pubq, ret])
end Go.Proofs.YtjnmgfmogganlaaGreatDoor

/-
  The law EventTexts: the evaluator answers true for any two events.
-/
namespace Go.Proofs.YtjnmgfmogganlaaGreatDoor
open Go.Pu
set_option maxRecDepth 100000
attribute [local irreducible] grdC condC bcond obind nextC loopG loopC loopD grdX grdD grunC stepC putC regK execK startC enterL stayC againC backC opC retH retU bodyL finP finS finW loopN seqC blockC nrmC

theorem lives_ok : (lim0 E).pure 4 [] = some (.bool true) := (callN_le 40).pure _ _ _ (by kernel_rfl)
theorem publish_facts (e : GEvent) (h : publishE e = 0) : e.kind = 1 ∧ (1 ≤ e.proto ∧ e.proto ≤ 4) ∧ (-1 ≤ e.qos ∧ e.qos ≤ 2) := by
  unfold publishE at h
  split at h
  · cases h
  rename_i h1
  split at h
  · cases h
  split at h
  · cases h
  rename_i h3
  simp [b1] at h1
  simp [b3] at h3
  refine ⟨h1.2, h1.1, ?_⟩
  rcases Decidable.em (0 ≤ e.qos ∧ e.qos ≤ 2) with h4 | h4
  · omega
  · have := h3 (by omega)
    omega
theorem light_facts (e : GEvent) (h : lightEvent e = true) : e.topic.length ≤ 2000 ∧ e.payload.length ≤ 2000 := by
  unfold lightEvent at h
  simp only [Bool.and_eq_true, decide_eq_true_eq] at h
  exact h.1.1.1.1
set_option maxHeartbeats 8000000 in
theorem law_ok (a b : GEvent) (ha : wfE a) (hb : wfE b) : (lim0 E).pure 3 [a.pv, b.pv] = some (.bool true) := by
  have l1 := lightEvent_ok a ha
  have l2 := lightEvent_ok b hb
  have p1 := publish_ok a ha
  have p2 := publish_ok b hb
  have l0 := lives_ok
  by_cases hneg : lightEvent a = true ∧ lightEvent b = true ∧ publishE a = 0 ∧ publishE b = 0
  · obtain ⟨h1, h2, h3, h4⟩ := hneg
    obtain ⟨x1, x2, x3⟩ := publish_facts a h3
    obtain ⟨y1, y2, y3⟩ := publish_facts b h4
    obtain ⟨x4, x5⟩ := light_facts a h1
    obtain ⟨y4, y5⟩ := light_facts b h2
    have t1 := eventText_ok a x1 x2 x3 x4 x5 (itoa_ok _ (by omega) (by omega)) (itoa_ok _ (by omega) (by omega))
    have t2 := eventText_ok b y1 y2 y3 y4 y5 (itoa_ok _ (by omega) (by omega)) (itoa_ok _ (by omega) (by omega))
    rw [h1] at l1
    rw [h2] at l2
    rw [h3] at p1
    rw [h4] at p2
    have hi : lineOf a.proto a.qos a.topic a.payload.length a.retain = lineOf b.proto b.qos b.topic b.payload.length b.retain ↔ (a.proto = b.proto ∧ a.topic = b.topic ∧ a.qos = b.qos ∧ a.retain = b.retain ∧ a.payload.length = b.payload.length) :=
      ⟨line_inj x2 y2 x3 y3 (by omega) (by omega), fun ⟨e1, e2, e3, e4, e5⟩ => by rw [e1, e2, e3, e4, e5]⟩
    refine pure_of (0) ?_; rw [go_3]; unfold Tryz.f3; simp only [go_sem, Nat.reduceAdd, Nat.reduceMul, Nat.reduceSub, Nat.reduceEqDiff, Nat.reduceLeDiff, Nat.reduceLT, Int.reduceAdd, Int.reduceSub, Int.reduceMul, Int.reduceNeg, Int.reduceLT, Int.reduceLE, Int.reduceEq, Int.reduceNe, Int.reduceToNat, UInt8.reduceToNat, reduceCtorEq, and_true, true_and, decide_true, decide_false, l0, l1, l2, p1, p2, t1, t2, ne_eq, not_true_eq_false, not_false_eq_true]
    repeat' (first | (refine grdC_split (fun h => ?_) (fun h => ?_) <;> try simp only [go_sem, Nat.reduceAdd, Nat.reduceMul, Nat.reduceSub, Nat.reduceEqDiff, Nat.reduceLeDiff, Nat.reduceLT, Int.reduceAdd, Int.reduceSub, Int.reduceMul, Int.reduceNeg, Int.reduceLT, Int.reduceLE, Int.reduceEq, Int.reduceNe, Int.reduceToNat, UInt8.reduceToNat, reduceCtorEq, and_true, true_and, decide_true, decide_false, t1, t2]) | (refine condC_split (fun h => ?_) (fun h => ?_) <;> try simp only [go_sem, Nat.reduceAdd, Nat.reduceMul, Nat.reduceSub, Nat.reduceEqDiff, Nat.reduceLeDiff, Nat.reduceLT, Int.reduceAdd, Int.reduceSub, Int.reduceMul, Int.reduceNeg, Int.reduceLT, Int.reduceLE, Int.reduceEq, Int.reduceNe, Int.reduceToNat, UInt8.reduceToNat, reduceCtorEq, and_true, true_and, decide_true, decide_false, t1, t2]) | (refine bcond_eq (fun h => ?_) (fun h => ?_) <;> try simp only [go_sem, Nat.reduceAdd, Nat.reduceMul, Nat.reduceSub, Nat.reduceEqDiff, Nat.reduceLeDiff, Nat.reduceLT, Int.reduceAdd, Int.reduceSub, Int.reduceMul, Int.reduceNeg, Int.reduceLT, Int.reduceLE, Int.reduceEq, Int.reduceNe, Int.reduceToNat, UInt8.reduceToNat, reduceCtorEq, and_true, true_and, decide_true, decide_false, t1, t2]))
    all_goals (rw [show decide (lineOf a.proto a.qos a.topic a.payload.length a.retain = lineOf b.proto b.qos b.topic b.payload.length b.retain) = decide _ from decide_eq_decide.2 hi]; clear t1 t2 hi l0 l1 l2 p1 p2)
    all_goals first | (simp_all; done) | (simp_all; omega)
  · refine pure_of (0) ?_; rw [go_3]; unfold Tryz.f3; simp only [go_sem, Nat.reduceAdd, Nat.reduceMul, Nat.reduceSub, Nat.reduceEqDiff, Nat.reduceLeDiff, Nat.reduceLT, Int.reduceAdd, Int.reduceSub, Int.reduceMul, Int.reduceNeg, Int.reduceLT, Int.reduceLE, Int.reduceEq, Int.reduceNe, Int.reduceToNat, UInt8.reduceToNat, reduceCtorEq, and_true, true_and, decide_true, decide_false, l0, l1, l2, p1, p2]
    repeat' (first | (refine grdC_split (fun h => ?_) (fun h => ?_) <;> try simp only [go_sem, Nat.reduceAdd, Nat.reduceMul, Nat.reduceSub, Nat.reduceEqDiff, Nat.reduceLeDiff, Nat.reduceLT, Int.reduceAdd, Int.reduceSub, Int.reduceMul, Int.reduceNeg, Int.reduceLT, Int.reduceLE, Int.reduceEq, Int.reduceNe, Int.reduceToNat, UInt8.reduceToNat, reduceCtorEq, and_true, true_and, decide_true, decide_false, l2, p1, p2]) | (refine condC_split (fun h => ?_) (fun h => ?_) <;> try simp only [go_sem, Nat.reduceAdd, Nat.reduceMul, Nat.reduceSub, Nat.reduceEqDiff, Nat.reduceLeDiff, Nat.reduceLT, Int.reduceAdd, Int.reduceSub, Int.reduceMul, Int.reduceNeg, Int.reduceLT, Int.reduceLE, Int.reduceEq, Int.reduceNe, Int.reduceToNat, UInt8.reduceToNat, reduceCtorEq, and_true, true_and, decide_true, decide_false, l2, p1, p2]) | (refine bcond_eq (fun h => ?_) (fun h => ?_) <;> try simp only [go_sem, Nat.reduceAdd, Nat.reduceMul, Nat.reduceSub, Nat.reduceEqDiff, Nat.reduceLeDiff, Nat.reduceLT, Int.reduceAdd, Int.reduceSub, Int.reduceMul, Int.reduceNeg, Int.reduceLT, Int.reduceLE, Int.reduceEq, Int.reduceNe, Int.reduceToNat, UInt8.reduceToNat, reduceCtorEq, and_true, true_and, decide_true, decide_false, l2, p1, p2]))
    all_goals (exfalso; apply hneg; clear hneg l0 l1 l2 p1 p2)
    all_goals first | (simp_all; done)
end Go.Proofs.YtjnmgfmogganlaaGreatDoor

/-
  Arguments: pure data of a type are the type's structure. Printed by a program (mkS21.py).
-/
namespace Go.Pu
section
variable {E : Env}
theorem fitI {n t : Nat} {k : IntKind} {cs : List PV} (hk : (E.ty t).kd = .int k) (h : FitC E n t cs) : ∃ i, cs = [.int k i] ∧ k.min ≤ i ∧ i ≤ k.max := by
  cases n with
  | zero => exact h.elim
  | succ n => simp only [FitC, hk] at h; exact h
theorem fitB {n t : Nat} {cs : List PV} (hk : (E.ty t).kd = .bool) (h : FitC E n t cs) : ∃ b, cs = [.bool b] := by
  cases n with
  | zero => exact h.elim
  | succ n => simp only [FitC, hk] at h; exact h
theorem fitS {n t : Nat} {cs : List PV} (hk : (E.ty t).kd = .str) (h : FitC E n t cs) : ∃ s, cs = [.str s] ∧ s.length ≤ maxLen := by
  cases n with
  | zero => exact h.elim
  | succ n => simp only [FitC, hk] at h; exact h
theorem fitT {n t : Nat} {fs : List (Nat × Nat)} {cs : List PV} (hk : (E.ty t).kd = .struct fs) (h : FitC E n t cs) : ∃ m, m < n ∧ FitF (fun t cs => FitC E m t cs) (fun t => (E.ty t).size) fs cs := by
  cases n with
  | zero => exact h.elim
  | succ n => simp only [FitC, hk] at h; exact ⟨n, Nat.lt_succ_self n, h⟩
theorem fit_map {α : Type} {pv : α → PV} {ok : α → Prop} : ∀ es : List PV, (∀ x ∈ es, ∃ a, x = pv a ∧ ok a) → ∃ xs : List α, es = xs.map pv ∧ ∀ a ∈ xs, ok a
  | [], _ => ⟨[], rfl, fun a h => by cases h⟩
  | e :: es, h => by
    obtain ⟨a, rfl, ha⟩ := h e (by simp)
    obtain ⟨xs, rfl, hxs⟩ := fit_map es fun x hx => h x (by simp [hx])
    refine ⟨a :: xs, rfl, fun b hb => ?_⟩
    rcases List.mem_cons.1 hb with rfl | hb
    · exact ha
    · exact hxs b hb
theorem fitL {α : Type} {n t e k : Nat} {cs : List PV} {f : α → List PV} {pv : α → PV} {ok : α → Prop} (hpv : ∀ x, pv x = .agg (f x)) (hk : (E.ty t).kd = .slice e) (ha : (E.ty e).agg = true) (hs : (E.ty e).size = k)
    (hQ : ∀ m ys, m < n → FitC E m e ys → ∃ x, ys = f x ∧ ok x) (h : FitC E n t cs) : ∃ xs : List α, cs = [.lst k (xs.map pv)] ∧ xs.length ≤ maxLen ∧ ∀ x ∈ xs, ok x := by
  cases n with
  | zero => exact h.elim
  | succ n =>
    simp only [FitC, hk] at h
    obtain ⟨es, rfl, hl, h⟩ := h
    obtain ⟨xs, rfl, hx⟩ := fit_map (pv := pv) (ok := ok) es fun x hx => by
      obtain ⟨ys, h1, h2⟩ := h x hx
      obtain ⟨a, rfl, h3⟩ := hQ n ys (Nat.lt_succ_self n) h1
      rcases h2 with h2 | h2
      · exact ⟨a, by rw [h2.2, hpv], h3⟩
      · rw [ha] at h2; cases h2.1
    exact ⟨xs, by rw [hs], by simpa using hl, hx⟩
theorem fitN {n t e : Nat} {k : IntKind} {cs : List PV} (hk : (E.ty t).kd = .slice e) (ha : (E.ty e).agg = false) (hs : (E.ty e).size = 1) (he : (E.ty e).kd = .int k)
    (h : FitC E n t cs) : ∃ xs : List Int, cs = [.lst 1 (xs.map fun z => PV.int k z)] ∧ xs.length ≤ maxLen ∧ ∀ x ∈ xs, k.min ≤ x ∧ x ≤ k.max := by
  cases n with
  | zero => exact h.elim
  | succ n =>
    simp only [FitC, hk] at h
    obtain ⟨es, rfl, hl, h⟩ := h
    obtain ⟨xs, rfl, hx⟩ := fit_map (pv := fun z => PV.int k z) (ok := fun x => k.min ≤ x ∧ x ≤ k.max) es fun x hx => by
      obtain ⟨ys, h1, h2⟩ := h x hx
      obtain ⟨a, rfl, h3⟩ := fitI he h1
      rcases h2 with h2 | h2
      · rw [ha] at h2; cases h2.1
      · have := h2.2
        simp only [List.cons.injEq, and_true] at this
        exact ⟨a, this.symm, h3⟩
    exact ⟨xs, by rw [hs], by simpa using hl, hx⟩
end
end Go.Pu
namespace Go.Proofs.YtjnmgfmogganlaaGreatDoor
open Go.Pu
set_option maxRecDepth 100000
attribute [local irreducible] grdC condC bcond obind nextC loopG loopC loopD grdX grdD grunC stepC putC regK execK startC enterL stayC againC backC opC retH retU bodyL finP finS finW loopN seqC blockC nrmC
theorem wfVs_all : ∀ {vs : List GValue}, (∀ v ∈ vs, wfV v) → wfVs vs
  | [], _ => by simp [wfVs]
  | v :: vs, h => by
    simp only [wfVs]
    exact ⟨h v (by simp), wfVs_all fun x hx => h x (by simp [hx])⟩
abbrev inK (k : IntKind) (i : Int) : Prop := k.min ≤ i ∧ i ≤ k.max
structure okGProp (x : GProp) : Prop where
  id : inK .i64 (x.id)
  n : inK .u32 (x.n)
  text : x.text.length ≤ 9223372036854775807
  value : x.value.length ≤ 9223372036854775807
theorem fit_GProp (n : Nat) (cs : List PV) (h : FitC E n 67 cs) : ∃ x : GProp, cs = x.cells ∧ okGProp x := by
  obtain ⟨m, hm, h⟩ := fitT (fs := [(0, 3), (1, 65), (2, 9), (3, 9)]) (by kernel_rfl) h
  obtain ⟨a0, b0, rfl, -, h0, a1, b1, rfl, -, h1, a2, b2, rfl, -, h2, a3, b3, rfl, -, h3, hl⟩ := h
  cases hl
  obtain ⟨v0, rfl, w0⟩ := fitI (t := 3) (k := .i64) (by kernel_rfl) h0
  obtain ⟨v1, rfl, w1⟩ := fitI (t := 65) (k := .u32) (by kernel_rfl) h1
  obtain ⟨v2, rfl, w2⟩ := fitS (t := 9) (by kernel_rfl) h2
  obtain ⟨v3, rfl, w3⟩ := fitS (t := 9) (by kernel_rfl) h3
  exact ⟨.mk v0 v1 v2 v3, rfl, ⟨w0, w1, w2, w3⟩⟩
structure okGHop (x : GHop) : Prop where
  radius : inK .i64 (x.radius)
  node : x.node.length ≤ 9223372036854775807
theorem fit_GHop (n : Nat) (cs : List PV) (h : FitC E n 72 cs) : ∃ x : GHop, cs = x.cells ∧ okGHop x := by
  obtain ⟨m, hm, h⟩ := fitT (fs := [(0, 3), (1, 9)]) (by kernel_rfl) h
  obtain ⟨a0, b0, rfl, -, h0, a1, b1, rfl, -, h1, hl⟩ := h
  cases hl
  obtain ⟨v0, rfl, w0⟩ := fitI (t := 3) (k := .i64) (by kernel_rfl) h0
  obtain ⟨v1, rfl, w1⟩ := fitS (t := 9) (by kernel_rfl) h1
  exact ⟨.mk v0 v1, rfl, ⟨w0, w1⟩⟩
structure okGWill (x : GWill) : Prop where
  topic : x.topic.length ≤ 9223372036854775807
  payload : x.payload.length ≤ 9223372036854775807
  qos : inK .i64 (x.qos)
  l_props : x.props.length ≤ 9223372036854775807
  a_props : ∀ y ∈ x.props, okGProp y
theorem fit_GWill (n : Nat) (cs : List PV) (h : FitC E n 25 cs) : ∃ x : GWill, cs = x.cells ∧ okGWill x := by
  obtain ⟨m, hm, h⟩ := fitT (fs := [(0, 9), (1, 9), (2, 3), (3, 4), (4, 22)]) (by kernel_rfl) h
  obtain ⟨a0, b0, rfl, -, h0, a1, b1, rfl, -, h1, a2, b2, rfl, -, h2, a3, b3, rfl, -, h3, a4, b4, rfl, -, h4, hl⟩ := h
  cases hl
  obtain ⟨v0, rfl, w0⟩ := fitS (t := 9) (by kernel_rfl) h0
  obtain ⟨v1, rfl, w1⟩ := fitS (t := 9) (by kernel_rfl) h1
  obtain ⟨v2, rfl, w2⟩ := fitI (t := 3) (k := .i64) (by kernel_rfl) h2
  obtain ⟨v3, rfl⟩ := fitB (t := 4) (by kernel_rfl) h3
  obtain ⟨v4, rfl, w4⟩ := fitL (t := 22) (e := 67) (k := 4) (f := GProp.cells) (pv := GProp.pv) (ok := okGProp) (fun _ => rfl) (by kernel_rfl) (by kernel_rfl) (by kernel_rfl) (fun m2 ys _ => fit_GProp m2 ys) h4
  exact ⟨.mk v0 v1 v2 v3 v4, rfl, ⟨w0, w1, w2, w4.1, w4.2⟩⟩
structure okGFilter (x : GFilter) : Prop where
  topic : x.topic.length ≤ 9223372036854775807
  qos : inK .i64 (x.qos)
  handling : inK .i64 (x.handling)
theorem fit_GFilter (n : Nat) (cs : List PV) (h : FitC E n 69 cs) : ∃ x : GFilter, cs = x.cells ∧ okGFilter x := by
  obtain ⟨m, hm, h⟩ := fitT (fs := [(0, 9), (1, 3), (2, 4), (3, 4), (4, 3)]) (by kernel_rfl) h
  obtain ⟨a0, b0, rfl, -, h0, a1, b1, rfl, -, h1, a2, b2, rfl, -, h2, a3, b3, rfl, -, h3, a4, b4, rfl, -, h4, hl⟩ := h
  cases hl
  obtain ⟨v0, rfl, w0⟩ := fitS (t := 9) (by kernel_rfl) h0
  obtain ⟨v1, rfl, w1⟩ := fitI (t := 3) (k := .i64) (by kernel_rfl) h1
  obtain ⟨v2, rfl⟩ := fitB (t := 4) (by kernel_rfl) h2
  obtain ⟨v3, rfl⟩ := fitB (t := 4) (by kernel_rfl) h3
  obtain ⟨v4, rfl, w4⟩ := fitI (t := 3) (k := .i64) (by kernel_rfl) h4
  exact ⟨.mk v0 v1 v2 v3 v4, rfl, ⟨w0, w1, w4⟩⟩
structure okGPacket (x : GPacket) : Prop where
  kind : inK .i64 (x.kind)
  qos : inK .i64 (x.qos)
  id : inK .i64 (x.id)
  topic : x.topic.length ≤ 9223372036854775807
  payload : x.payload.length ≤ 9223372036854775807
  keepalive : inK .i64 (x.keepalive)
  client : x.client.length ≤ 9223372036854775807
  user : x.user.length ≤ 9223372036854775807
  pass : x.pass.length ≤ 9223372036854775807
  will : okGWill x.will
  code : inK .i64 (x.code)
  l_codes : x.codes.length ≤ 9223372036854775807
  a_codes : ∀ y ∈ x.codes, inK .i64 y
  l_filters : x.filters.length ≤ 9223372036854775807
  a_filters : ∀ y ∈ x.filters, okGFilter y
  l_props : x.props.length ≤ 9223372036854775807
  a_props : ∀ y ∈ x.props, okGProp y
theorem fit_GPacket (n : Nat) (cs : List PV) (h : FitC E n 29 cs) : ∃ x : GPacket, cs = x.cells ∧ okGPacket x := by
  obtain ⟨m, hm, h⟩ := fitT (fs := [(0, 3), (1, 4), (2, 4), (3, 3), (4, 3), (5, 9), (6, 9), (7, 4), (8, 3), (9, 9), (10, 4), (11, 9), (12, 4), (13, 9), (14, 4), (15, 25), (20, 4), (21, 3), (22, 26), (23, 27), (24, 22)]) (by kernel_rfl) h
  obtain ⟨a0, b0, rfl, -, h0, a1, b1, rfl, -, h1, a2, b2, rfl, -, h2, a3, b3, rfl, -, h3, a4, b4, rfl, -, h4, a5, b5, rfl, -, h5, a6, b6, rfl, -, h6, a7, b7, rfl, -, h7, a8, b8, rfl, -, h8, a9, b9, rfl, -, h9, a10, b10, rfl, -, h10, a11, b11, rfl, -, h11, a12, b12, rfl, -, h12, a13, b13, rfl, -, h13, a14, b14, rfl, -, h14, a15, b15, rfl, -, h15, a16, b16, rfl, -, h16, a17, b17, rfl, -, h17, a18, b18, rfl, -, h18, a19, b19, rfl, -, h19, a20, b20, rfl, -, h20, hl⟩ := h
  cases hl
  obtain ⟨v0, rfl, w0⟩ := fitI (t := 3) (k := .i64) (by kernel_rfl) h0
  obtain ⟨v1, rfl⟩ := fitB (t := 4) (by kernel_rfl) h1
  obtain ⟨v2, rfl⟩ := fitB (t := 4) (by kernel_rfl) h2
  obtain ⟨v3, rfl, w3⟩ := fitI (t := 3) (k := .i64) (by kernel_rfl) h3
  obtain ⟨v4, rfl, w4⟩ := fitI (t := 3) (k := .i64) (by kernel_rfl) h4
  obtain ⟨v5, rfl, w5⟩ := fitS (t := 9) (by kernel_rfl) h5
  obtain ⟨v6, rfl, w6⟩ := fitS (t := 9) (by kernel_rfl) h6
  obtain ⟨v7, rfl⟩ := fitB (t := 4) (by kernel_rfl) h7
  obtain ⟨v8, rfl, w8⟩ := fitI (t := 3) (k := .i64) (by kernel_rfl) h8
  obtain ⟨v9, rfl, w9⟩ := fitS (t := 9) (by kernel_rfl) h9
  obtain ⟨v10, rfl⟩ := fitB (t := 4) (by kernel_rfl) h10
  obtain ⟨v11, rfl, w11⟩ := fitS (t := 9) (by kernel_rfl) h11
  obtain ⟨v12, rfl⟩ := fitB (t := 4) (by kernel_rfl) h12
  obtain ⟨v13, rfl, w13⟩ := fitS (t := 9) (by kernel_rfl) h13
  obtain ⟨v14, rfl⟩ := fitB (t := 4) (by kernel_rfl) h14
  obtain ⟨v15, rfl, w15⟩ := fit_GWill m _ h15
  obtain ⟨v16, rfl⟩ := fitB (t := 4) (by kernel_rfl) h16
  obtain ⟨v17, rfl, w17⟩ := fitI (t := 3) (k := .i64) (by kernel_rfl) h17
  obtain ⟨v18, rfl, w18⟩ := fitN (t := 26) (e := 3) (k := .i64) (by kernel_rfl) (by kernel_rfl) (by kernel_rfl) (by kernel_rfl) h18
  obtain ⟨v19, rfl, w19⟩ := fitL (t := 27) (e := 69) (k := 5) (f := GFilter.cells) (pv := GFilter.pv) (ok := okGFilter) (fun _ => rfl) (by kernel_rfl) (by kernel_rfl) (by kernel_rfl) (fun m2 ys _ => fit_GFilter m2 ys) h19
  obtain ⟨v20, rfl, w20⟩ := fitL (t := 22) (e := 67) (k := 4) (f := GProp.cells) (pv := GProp.pv) (ok := okGProp) (fun _ => rfl) (by kernel_rfl) (by kernel_rfl) (by kernel_rfl) (fun m2 ys _ => fit_GProp m2 ys) h20
  exact ⟨.mk v0 v1 v2 v3 v4 v5 v6 v7 v8 v9 v10 v11 v12 v13 v14 v15 v16 v17 v18 v19 v20, rfl, ⟨w0, w3, w4, w5, w6, w8, w9, w11, w13, w15, w17, w18.1, w18.2, w19.1, w19.2, w20.1, w20.2⟩⟩
structure okGFlags (x : GFlags) : Prop where
  qos : inK .i64 (x.qos)
  ty : inK .i64 (x.ty)
theorem fit_GFlags (n : Nat) (cs : List PV) (h : FitC E n 31 cs) : ∃ x : GFlags, cs = x.cells ∧ okGFlags x := by
  obtain ⟨m, hm, h⟩ := fitT (fs := [(0, 4), (1, 3), (2, 4), (3, 4), (4, 4), (5, 3)]) (by kernel_rfl) h
  obtain ⟨a0, b0, rfl, -, h0, a1, b1, rfl, -, h1, a2, b2, rfl, -, h2, a3, b3, rfl, -, h3, a4, b4, rfl, -, h4, a5, b5, rfl, -, h5, hl⟩ := h
  cases hl
  obtain ⟨v0, rfl⟩ := fitB (t := 4) (by kernel_rfl) h0
  obtain ⟨v1, rfl, w1⟩ := fitI (t := 3) (k := .i64) (by kernel_rfl) h1
  obtain ⟨v2, rfl⟩ := fitB (t := 4) (by kernel_rfl) h2
  obtain ⟨v3, rfl⟩ := fitB (t := 4) (by kernel_rfl) h3
  obtain ⟨v4, rfl⟩ := fitB (t := 4) (by kernel_rfl) h4
  obtain ⟨v5, rfl, w5⟩ := fitI (t := 3) (k := .i64) (by kernel_rfl) h5
  exact ⟨.mk v0 v1 v2 v3 v4 v5, rfl, ⟨w1, w5⟩⟩
structure okGMsg (x : GMsg) : Prop where
  ty : inK .i64 (x.ty)
  flags : okGFlags x.flags
  gateway : inK .i64 (x.gateway)
  radius : inK .i64 (x.radius)
  time : inK .i64 (x.time)
  topicid : inK .i64 (x.topicid)
  msgid : inK .i64 (x.msgid)
  code : inK .i64 (x.code)
  name : x.name.length ≤ 9223372036854775807
  data : x.data.length ≤ 9223372036854775807
theorem fit_GMsg (n : Nat) (cs : List PV) (h : FitC E n 33 cs) : ∃ x : GMsg, cs = x.cells ∧ okGMsg x := by
  obtain ⟨m, hm, h⟩ := fitT (fs := [(0, 3), (1, 31), (7, 3), (8, 3), (9, 3), (10, 4), (11, 3), (12, 3), (13, 3), (14, 9), (15, 9)]) (by kernel_rfl) h
  obtain ⟨a0, b0, rfl, -, h0, a1, b1, rfl, -, h1, a2, b2, rfl, -, h2, a3, b3, rfl, -, h3, a4, b4, rfl, -, h4, a5, b5, rfl, -, h5, a6, b6, rfl, -, h6, a7, b7, rfl, -, h7, a8, b8, rfl, -, h8, a9, b9, rfl, -, h9, a10, b10, rfl, -, h10, hl⟩ := h
  cases hl
  obtain ⟨v0, rfl, w0⟩ := fitI (t := 3) (k := .i64) (by kernel_rfl) h0
  obtain ⟨v1, rfl, w1⟩ := fit_GFlags m _ h1
  obtain ⟨v2, rfl, w2⟩ := fitI (t := 3) (k := .i64) (by kernel_rfl) h2
  obtain ⟨v3, rfl, w3⟩ := fitI (t := 3) (k := .i64) (by kernel_rfl) h3
  obtain ⟨v4, rfl, w4⟩ := fitI (t := 3) (k := .i64) (by kernel_rfl) h4
  obtain ⟨v5, rfl⟩ := fitB (t := 4) (by kernel_rfl) h5
  obtain ⟨v6, rfl, w6⟩ := fitI (t := 3) (k := .i64) (by kernel_rfl) h6
  obtain ⟨v7, rfl, w7⟩ := fitI (t := 3) (k := .i64) (by kernel_rfl) h7
  obtain ⟨v8, rfl, w8⟩ := fitI (t := 3) (k := .i64) (by kernel_rfl) h8
  obtain ⟨v9, rfl, w9⟩ := fitS (t := 9) (by kernel_rfl) h9
  obtain ⟨v10, rfl, w10⟩ := fitS (t := 9) (by kernel_rfl) h10
  exact ⟨.mk v0 v1 v2 v3 v4 v5 v6 v7 v8 v9 v10, rfl, ⟨w0, w1, w2, w3, w4, w6, w7, w8, w9, w10⟩⟩
theorem fit_GValue' : ∀ (k n : Nat), n ≤ k → ∀ (cs : List PV), FitC E n 76 cs → ∃ x : GValue, cs = x.cells ∧ wfV x := by
  intro k
  induction k with
  | zero => intro n hn cs h; cases Nat.le_zero.1 hn; exact h.elim
  | succ k ihk =>
  intro n hn cs h
  have ih : ∀ m, m < n → ∀ cs, FitC E m 76 cs → ∃ x : GValue, cs = x.cells ∧ wfV x := fun m hm => ihk m (by omega)
  obtain ⟨m, hm, h⟩ := fitT (fs := [(0, 3), (1, 74), (2, 9), (3, 34)]) (by kernel_rfl) h
  obtain ⟨a0, b0, rfl, -, h0, a1, b1, rfl, -, h1, a2, b2, rfl, -, h2, a3, b3, rfl, -, h3, hl⟩ := h
  cases hl
  obtain ⟨v0, rfl, w0⟩ := fitI (t := 3) (k := .i64) (by kernel_rfl) h0
  obtain ⟨v1, rfl, w1⟩ := fitI (t := 74) (k := .u64) (by kernel_rfl) h1
  obtain ⟨v2, rfl, w2⟩ := fitS (t := 9) (by kernel_rfl) h2
  obtain ⟨v3, rfl, w3⟩ := fitL (t := 34) (e := 76) (k := 4) (f := GValue.cells) (pv := GValue.pv) (ok := wfV) GValue.pv_eq (by kernel_rfl) (by kernel_rfl) (by kernel_rfl) (fun m2 ys hm2 => ih m2 (by omega) ys) h3
  refine ⟨.mk v0 v1 v2 v3, rfl, ?_⟩
  rw [wfV_eq]
  exact ⟨w2, w3.1, wfVs_all w3.2⟩
theorem fit_GValue (n : Nat) (cs : List PV) (h : FitC E n 76 cs) : ∃ x : GValue, cs = x.cells ∧ wfV x := fit_GValue' n n (Nat.le_refl n) cs h
structure okGFrame (x : GFrame) : Prop where
  ty : inK .i64 (x.ty)
  channel : inK .i64 (x.channel)
  ext : x.ext.length ≤ 9223372036854775807
  l_values : x.values.length ≤ 9223372036854775807
  a_values : wfVs x.values
theorem fit_GFrame (n : Nat) (cs : List PV) (h : FitC E n 36 cs) : ∃ x : GFrame, cs = x.cells ∧ okGFrame x := by
  obtain ⟨m, hm, h⟩ := fitT (fs := [(0, 3), (1, 3), (2, 9), (3, 34)]) (by kernel_rfl) h
  obtain ⟨a0, b0, rfl, -, h0, a1, b1, rfl, -, h1, a2, b2, rfl, -, h2, a3, b3, rfl, -, h3, hl⟩ := h
  cases hl
  obtain ⟨v0, rfl, w0⟩ := fitI (t := 3) (k := .i64) (by kernel_rfl) h0
  obtain ⟨v1, rfl, w1⟩ := fitI (t := 3) (k := .i64) (by kernel_rfl) h1
  obtain ⟨v2, rfl, w2⟩ := fitS (t := 9) (by kernel_rfl) h2
  obtain ⟨v3, rfl, w3⟩ := fitL (t := 34) (e := 76) (k := 4) (f := GValue.cells) (pv := GValue.pv) (ok := wfV) GValue.pv_eq (by kernel_rfl) (by kernel_rfl) (by kernel_rfl) (fun m2 ys _ => fit_GValue m2 ys) h3
  exact ⟨.mk v0 v1 v2 v3, rfl, ⟨w0, w1, w2, w3.1, wfVs_all w3.2⟩⟩
structure okGEvent (x : GEvent) : Prop where
  proto : inK .i64 (x.proto)
  kind : inK .i64 (x.kind)
  topic : x.topic.length ≤ 9223372036854775807
  payload : x.payload.length ≤ 9223372036854775807
  qos : inK .i64 (x.qos)
  id : inK .i64 (x.id)
  l_props : x.props.length ≤ 9223372036854775807
  a_props : ∀ y ∈ x.props, okGProp y
  ty : inK .i64 (x.ty)
  l_hops : x.hops.length ≤ 9223372036854775807
  a_hops : ∀ y ∈ x.hops, okGHop y
  channel : inK .i64 (x.channel)
  packet : okGPacket x.packet
  msg : okGMsg x.msg
  frame : okGFrame x.frame
theorem fit_GEvent (n : Nat) (cs : List PV) (h : FitC E n 38 cs) : ∃ x : GEvent, cs = x.cells ∧ okGEvent x := by
  obtain ⟨m, hm, h⟩ := fitT (fs := [(0, 3), (1, 3), (2, 9), (3, 9), (4, 3), (5, 4), (6, 4), (7, 3), (8, 22), (9, 3), (10, 23), (11, 3), (12, 29), (37, 33), (53, 36)]) (by kernel_rfl) h
  obtain ⟨a0, b0, rfl, -, h0, a1, b1, rfl, -, h1, a2, b2, rfl, -, h2, a3, b3, rfl, -, h3, a4, b4, rfl, -, h4, a5, b5, rfl, -, h5, a6, b6, rfl, -, h6, a7, b7, rfl, -, h7, a8, b8, rfl, -, h8, a9, b9, rfl, -, h9, a10, b10, rfl, -, h10, a11, b11, rfl, -, h11, a12, b12, rfl, -, h12, a13, b13, rfl, -, h13, a14, b14, rfl, -, h14, hl⟩ := h
  cases hl
  obtain ⟨v0, rfl, w0⟩ := fitI (t := 3) (k := .i64) (by kernel_rfl) h0
  obtain ⟨v1, rfl, w1⟩ := fitI (t := 3) (k := .i64) (by kernel_rfl) h1
  obtain ⟨v2, rfl, w2⟩ := fitS (t := 9) (by kernel_rfl) h2
  obtain ⟨v3, rfl, w3⟩ := fitS (t := 9) (by kernel_rfl) h3
  obtain ⟨v4, rfl, w4⟩ := fitI (t := 3) (k := .i64) (by kernel_rfl) h4
  obtain ⟨v5, rfl⟩ := fitB (t := 4) (by kernel_rfl) h5
  obtain ⟨v6, rfl⟩ := fitB (t := 4) (by kernel_rfl) h6
  obtain ⟨v7, rfl, w7⟩ := fitI (t := 3) (k := .i64) (by kernel_rfl) h7
  obtain ⟨v8, rfl, w8⟩ := fitL (t := 22) (e := 67) (k := 4) (f := GProp.cells) (pv := GProp.pv) (ok := okGProp) (fun _ => rfl) (by kernel_rfl) (by kernel_rfl) (by kernel_rfl) (fun m2 ys _ => fit_GProp m2 ys) h8
  obtain ⟨v9, rfl, w9⟩ := fitI (t := 3) (k := .i64) (by kernel_rfl) h9
  obtain ⟨v10, rfl, w10⟩ := fitL (t := 23) (e := 72) (k := 2) (f := GHop.cells) (pv := GHop.pv) (ok := okGHop) (fun _ => rfl) (by kernel_rfl) (by kernel_rfl) (by kernel_rfl) (fun m2 ys _ => fit_GHop m2 ys) h10
  obtain ⟨v11, rfl, w11⟩ := fitI (t := 3) (k := .i64) (by kernel_rfl) h11
  obtain ⟨v12, rfl, w12⟩ := fit_GPacket m _ h12
  obtain ⟨v13, rfl, w13⟩ := fit_GMsg m _ h13
  obtain ⟨v14, rfl, w14⟩ := fit_GFrame m _ h14
  exact ⟨.mk v0 v1 v2 v3 v4 v5 v6 v7 v8 v9 v10 v11 v12 v13 v14, rfl, ⟨w0, w1, w2, w3, w4, w7, w8.1, w8.2, w9, w10.1, w10.2, w11, w12, w13, w14⟩⟩
theorem okwfE {e : GEvent} (h : okGEvent e) : wfE e :=
  ⟨h.topic, h.payload, h.l_props, fun p hp => (h.a_props p hp).text, h.packet.l_props, h.packet.will.l_props, h.packet.l_filters, h.packet.l_codes, h.l_hops, h.frame.a_values, h.frame.l_values⟩
theorem fitE (n : Nat) (cs : List PV) (h : FitC E n 38 cs) : ∃ e : GEvent, cs = e.cells ∧ wfE e := by
  obtain ⟨e, h1, h2⟩ := fit_GEvent n cs h
  exact ⟨e, h1, okwfE h2⟩
end Go.Proofs.YtjnmgfmogganlaaGreatDoor
