/-
  Contracts of the program's functions, and what they say together.
-/
import Derived.Test.YtflehnedcjjdjaaGreatDoorPuSa
import Derived.Test.YtflehnedcjjdjaaGreatDoorPuA27
set_option linter.unusedSimpArgs false
set_option linter.unusedVariables false
namespace Go.Proofs.YtflehnedcjjdjaaGreatDoor
end Go.Proofs.YtflehnedcjjdjaaGreatDoor
set_option maxRecDepth 100000
namespace Go.Proofs.YtflehnedcjjdjaaGreatDoor
open Go.Pu
attribute [local irreducible] grdC condC bcond obind nextC loopG loopC loopD grdX grdD grunC stepC putC regK execK startC enterL stayC againC backC opC retH retU bodyL finP finS finW loopN seqC blockC nrmC
theorem ut_1 {t : List UInt8} (h : byt t 0 < 128) : ptL t = ((byt t 0 : Int), 1) := by
  have e : runeL t = (byt t 0, 1) := by unfold runeL; rw [if_pos h]
  rw [ptL_ne (by rw [e]; simp; omega), e]; rfl
def v2 (t : List UInt8) : Nat := (byt t 0 - 192) * 64 + (byt t 1 - 128)
def v3 (t : List UInt8) : Nat := (byt t 0 - 224) * 4096 + (byt t 1 - 128) * 64 + (byt t 2 - 128)
def v4 (t : List UInt8) : Nat := (byt t 0 - 240) * 262144 + (byt t 1 - 128) * 4096 + (byt t 2 - 128) * 64 + (byt t 3 - 128)
theorem ptL_bad {s : List UInt8} (h : runeL s = (65533, 1)) : ptL s = (0, 0) := by unfold ptL; rw [if_pos h]
theorem ut_2 {t : List UInt8} (h : 192 ≤ byt t 0 ∧ byt t 0 < 224) : ptL t = if contB t 1 = true ∧ 128 ≤ v2 t then ((v2 t : Int), 2) else (0, 0) := by
  have e : runeL t = if contB t 1 = true then (if 128 ≤ v2 t then (v2 t, 2) else (65533, 1)) else (65533, 1) := by
    unfold runeL v2
    rw [if_neg (by omega)]
    have : decide (192 ≤ byt t 0 ∧ byt t 0 < 224) = true := decide_eq_true h
    have h2 : decide (224 ≤ byt t 0 ∧ byt t 0 < 240) = false := decide_eq_false (by omega)
    have h3 : decide (240 ≤ byt t 0 ∧ byt t 0 < 248) = false := decide_eq_false (by omega)
    rw [this, h2, h3]
    simp only [Bool.true_and, Bool.false_and, Bool.false_eq_true, if_false]
  by_cases c : contB t 1 = true
  · rw [if_pos c] at e
    have := contB_range c
    by_cases d : 128 ≤ v2 t
    · rw [if_pos d] at e; rw [if_pos ⟨c, d⟩, ptL_ne (by rw [e]; simp), e]; rfl
    · rw [if_neg d] at e; rw [if_neg (by rintro ⟨_, k⟩; exact d k), ptL_bad e]
  · rw [if_neg c] at e; rw [if_neg (by rintro ⟨k, _⟩; exact c k), ptL_bad e]
theorem ut_3 {t : List UInt8} (h : 224 ≤ byt t 0 ∧ byt t 0 < 240) : ptL t = if contB t 1 = true ∧ contB t 2 = true ∧ 2048 ≤ v3 t ∧ ¬ (55296 ≤ v3 t ∧ v3 t ≤ 57343) then ((v3 t : Int), 3) else (0, 0) := by
  have e : runeL t = if contB t 1 = true ∧ contB t 2 = true then (if 2048 ≤ v3 t ∧ ¬ (55296 ≤ v3 t ∧ v3 t ≤ 57343) then (v3 t, 3) else (65533, 1)) else (65533, 1) := by
    unfold runeL v3
    rw [if_neg (by omega)]
    have : decide (192 ≤ byt t 0 ∧ byt t 0 < 224) = false := decide_eq_false (by omega)
    have h2 : decide (224 ≤ byt t 0 ∧ byt t 0 < 240) = true := decide_eq_true h
    have h3 : decide (240 ≤ byt t 0 ∧ byt t 0 < 248) = false := decide_eq_false (by omega)
    rw [this, h2, h3]
    simp only [Bool.true_and, Bool.false_and, Bool.false_eq_true, if_false, Bool.and_eq_true]
  by_cases c : contB t 1 = true ∧ contB t 2 = true
  · rw [if_pos c] at e
    by_cases d : 2048 ≤ v3 t ∧ ¬ (55296 ≤ v3 t ∧ v3 t ≤ 57343)
    · rw [if_pos d] at e; rw [if_pos ⟨c.1, c.2, d⟩, ptL_ne (by rw [e]; simp), e]; rfl
    · rw [if_neg d] at e; rw [if_neg (by rintro ⟨_, _, k⟩; exact d k), ptL_bad e]
  · rw [if_neg c] at e; rw [if_neg (by rintro ⟨k, l, _⟩; exact c ⟨k, l⟩), ptL_bad e]
theorem ut_4 {t : List UInt8} (h : 240 ≤ byt t 0 ∧ byt t 0 < 248) : ptL t = if contB t 1 = true ∧ contB t 2 = true ∧ contB t 3 = true ∧ 65536 ≤ v4 t ∧ v4 t ≤ 1114111 then ((v4 t : Int), 4) else (0, 0) := by
  have e : runeL t = if contB t 1 = true ∧ contB t 2 = true ∧ contB t 3 = true then (if 65536 ≤ v4 t ∧ v4 t ≤ 1114111 then (v4 t, 4) else (65533, 1)) else (65533, 1) := by
    unfold runeL v4
    rw [if_neg (by omega)]
    have : decide (192 ≤ byt t 0 ∧ byt t 0 < 224) = false := decide_eq_false (by omega)
    have h2 : decide (224 ≤ byt t 0 ∧ byt t 0 < 240) = false := decide_eq_false (by omega)
    have h3 : decide (240 ≤ byt t 0 ∧ byt t 0 < 248) = true := decide_eq_true h
    rw [this, h2, h3]
    simp only [Bool.true_and, Bool.false_and, Bool.false_eq_true, if_false, Bool.and_eq_true, and_assoc]
  by_cases c : contB t 1 = true ∧ contB t 2 = true ∧ contB t 3 = true
  · rw [if_pos c] at e
    by_cases d : 65536 ≤ v4 t ∧ v4 t ≤ 1114111
    · rw [if_pos d] at e; rw [if_pos ⟨c.1, c.2.1, c.2.2, d⟩, ptL_ne (by rw [e]; simp), e]; rfl
    · rw [if_neg d] at e; rw [if_neg (by rintro ⟨_, _, _, k⟩; exact d k), ptL_bad e]
  · rw [if_neg c] at e; rw [if_neg (by rintro ⟨k, l, m, _⟩; exact c ⟨k, l, m⟩), ptL_bad e]
theorem ut_0 {t : List UInt8} (h : ¬ byt t 0 < 128) (h1 : ¬ (192 ≤ byt t 0 ∧ byt t 0 < 248)) : ptL t = (0, 0) := by
  apply ptL_bad
  unfold runeL
  rw [if_neg h]
  have : decide (192 ≤ byt t 0 ∧ byt t 0 < 224) = false := decide_eq_false (by omega)
  have h2 : decide (224 ≤ byt t 0 ∧ byt t 0 < 240) = false := decide_eq_false (by omega)
  have h3 : decide (240 ≤ byt t 0 ∧ byt t 0 < 248) = false := decide_eq_false (by omega)
  rw [this, h2, h3]
  simp only [Bool.false_and, Bool.false_eq_true, if_false]
theorem wr {n : Int} (h : -9223372036854775808 ≤ n ∧ n ≤ 9223372036854775807) : IntKind.i64.wrap n = n := w_in h.1 h.2
set_option maxHeartbeats 4000000 in
theorem point_ok (s : List UInt8) (k : Nat) (hs : s.length ≤ 9223372036854775800) (h : k < s.length) : (lim0 E).pure 48 [.str s, .int .i64 (k : Int)] = some (.tup [.int .i64 (ptL (s.drop k)).1, .int .i64 (ptL (s.drop k)).2]) := by
  have hk := List.getElem?_eq_getElem h
  have hg := byt_get h
  have h0 := byt_lt s k
  have hx := h0
  have m1 := more_ok s (k + 1)
  have m2 := more_ok s (k + 2)
  have m3 := more_ok s (k + 3)
  rw [Int.natCast_add, Int.cast_ofNat_Int] at m1 m2 m3
  have hz : (0 : Int) ≤ (k : Int) := by omega
  have hl : (k : Int) < (s.length : Int) := by omega
  rcases Nat.lt_or_ge (byt s k) 128 with a | a
  · have e : (byt s k : Int) < 128 := by omega
    refine pure_of (5) ?_; rw [go_48]; unfold Tryz.f48; simp (disch := omega) only [go_sem, Nat.reduceAdd, Nat.reduceMul, Nat.reduceSub, Nat.reduceEqDiff, Nat.reduceLeDiff, Nat.reduceLT, Int.reduceAdd, Int.reduceSub, Int.reduceMul, Int.reduceNeg, Int.reduceLT, Int.reduceLE, Int.reduceEq, Int.reduceNe, Int.reduceToNat, UInt8.reduceToNat, reduceCtorEq, and_true, true_and, decide_true, decide_false, hk, ← hg, hz, hl, wr, e]
    rw [ut_1 (by rw [byt_drop]; exact a), byt_drop]; rfl
  have e1 : ¬ (byt s k : Int) < 128 := by omega
  by_cases b1 : 192 ≤ byt s k ∧ byt s k < 248
  · have e2 : (192 : Int) ≤ (byt s k : Int) := by omega
    rcases Nat.lt_or_ge (byt s k) 224 with b2 | b2
    · have e3 : (byt s k : Int) < 224 := by omega
      rw [ut_2 (by rw [byt_drop]; exact ⟨b1.1, b2⟩), contB_drop, v2, byt_drop, byt_drop]
      have d1 := byt_lt s (k + 1)
      cases c1 : contB s (k + 1) with
      | false =>
        rw [c1] at m1
        refine pure_of (5) ?_; rw [go_48]; unfold Tryz.f48; simp (disch := omega) only [go_sem, Nat.reduceAdd, Nat.reduceMul, Nat.reduceSub, Nat.reduceEqDiff, Nat.reduceLeDiff, Nat.reduceLT, Int.reduceAdd, Int.reduceSub, Int.reduceMul, Int.reduceNeg, Int.reduceLT, Int.reduceLE, Int.reduceEq, Int.reduceNe, Int.reduceToNat, UInt8.reduceToNat, reduceCtorEq, and_true, true_and, decide_true, decide_false, hk, ← hg, hz, hl, wr, e1, e2, e3]
        repeat' (first | (refine grdC_split (fun h => ?_) (fun h => ?_) <;> try simp (disch := omega) only [go_sem, Nat.reduceAdd, Nat.reduceMul, Nat.reduceSub, Nat.reduceEqDiff, Nat.reduceLeDiff, Nat.reduceLT, Int.reduceAdd, Int.reduceSub, Int.reduceMul, Int.reduceNeg, Int.reduceLT, Int.reduceLE, Int.reduceEq, Int.reduceNe, Int.reduceToNat, UInt8.reduceToNat, reduceCtorEq, and_true, true_and, decide_true, decide_false, wr, m1]) | (refine condC_split (fun h => ?_) (fun h => ?_) <;> try simp (disch := omega) only [go_sem, Nat.reduceAdd, Nat.reduceMul, Nat.reduceSub, Nat.reduceEqDiff, Nat.reduceLeDiff, Nat.reduceLT, Int.reduceAdd, Int.reduceSub, Int.reduceMul, Int.reduceNeg, Int.reduceLT, Int.reduceLE, Int.reduceEq, Int.reduceNe, Int.reduceToNat, UInt8.reduceToNat, reduceCtorEq, and_true, true_and, decide_true, decide_false, wr, m1]) | (refine bcond_eq (fun h => ?_) (fun h => ?_) <;> try simp (disch := omega) only [go_sem, Nat.reduceAdd, Nat.reduceMul, Nat.reduceSub, Nat.reduceEqDiff, Nat.reduceLeDiff, Nat.reduceLT, Int.reduceAdd, Int.reduceSub, Int.reduceMul, Int.reduceNeg, Int.reduceLT, Int.reduceLE, Int.reduceEq, Int.reduceNe, Int.reduceToNat, UInt8.reduceToNat, reduceCtorEq, and_true, true_and, decide_true, decide_false, wr, m1]) | (refine (nextC_step _ _ _ _ _).trans ?_; simp (disch := omega) only [go_sem, Nat.reduceAdd, Nat.reduceMul, Nat.reduceSub, Nat.reduceEqDiff, Nat.reduceLeDiff, Nat.reduceLT, Int.reduceAdd, Int.reduceSub, Int.reduceMul, Int.reduceNeg, Int.reduceLT, Int.reduceLE, Int.reduceEq, Int.reduceNe, Int.reduceToNat, UInt8.reduceToNat, reduceCtorEq, and_true, true_and, decide_true, decide_false, wr, m1]))
        all_goals clear m1 m2 m3
        all_goals try simp only [if_true, if_false, true_and, false_and, and_false, Bool.false_eq_true, decide_eq_true_eq, decide_eq_false_iff_not, reduceCtorEq] at *
        all_goals first
          | rfl
          | (rw [if_pos (by omega)]; simp only [Option.some.injEq, PV.tup.injEq, List.cons.injEq, PV.int.injEq, true_and, and_true]; omega)
          | (rw [if_neg (by omega)])
          | (exfalso; omega)
      | true =>
        have f1 := contB_range c1
        rw [c1] at m1
        refine pure_of (5) ?_; rw [go_48]; unfold Tryz.f48; simp (disch := omega) only [go_sem, Nat.reduceAdd, Nat.reduceMul, Nat.reduceSub, Nat.reduceEqDiff, Nat.reduceLeDiff, Nat.reduceLT, Int.reduceAdd, Int.reduceSub, Int.reduceMul, Int.reduceNeg, Int.reduceLT, Int.reduceLE, Int.reduceEq, Int.reduceNe, Int.reduceToNat, UInt8.reduceToNat, reduceCtorEq, and_true, true_and, decide_true, decide_false, hk, ← hg, hz, hl, wr, e1, e2, e3]
        repeat' (first | (refine grdC_split (fun h => ?_) (fun h => ?_) <;> try simp (disch := omega) only [go_sem, Nat.reduceAdd, Nat.reduceMul, Nat.reduceSub, Nat.reduceEqDiff, Nat.reduceLeDiff, Nat.reduceLT, Int.reduceAdd, Int.reduceSub, Int.reduceMul, Int.reduceNeg, Int.reduceLT, Int.reduceLE, Int.reduceEq, Int.reduceNe, Int.reduceToNat, UInt8.reduceToNat, reduceCtorEq, and_true, true_and, decide_true, decide_false, wr, m1]) | (refine condC_split (fun h => ?_) (fun h => ?_) <;> try simp (disch := omega) only [go_sem, Nat.reduceAdd, Nat.reduceMul, Nat.reduceSub, Nat.reduceEqDiff, Nat.reduceLeDiff, Nat.reduceLT, Int.reduceAdd, Int.reduceSub, Int.reduceMul, Int.reduceNeg, Int.reduceLT, Int.reduceLE, Int.reduceEq, Int.reduceNe, Int.reduceToNat, UInt8.reduceToNat, reduceCtorEq, and_true, true_and, decide_true, decide_false, wr, m1]) | (refine bcond_eq (fun h => ?_) (fun h => ?_) <;> try simp (disch := omega) only [go_sem, Nat.reduceAdd, Nat.reduceMul, Nat.reduceSub, Nat.reduceEqDiff, Nat.reduceLeDiff, Nat.reduceLT, Int.reduceAdd, Int.reduceSub, Int.reduceMul, Int.reduceNeg, Int.reduceLT, Int.reduceLE, Int.reduceEq, Int.reduceNe, Int.reduceToNat, UInt8.reduceToNat, reduceCtorEq, and_true, true_and, decide_true, decide_false, wr, m1]) | (refine (nextC_step _ _ _ _ _).trans ?_; simp (disch := omega) only [go_sem, Nat.reduceAdd, Nat.reduceMul, Nat.reduceSub, Nat.reduceEqDiff, Nat.reduceLeDiff, Nat.reduceLT, Int.reduceAdd, Int.reduceSub, Int.reduceMul, Int.reduceNeg, Int.reduceLT, Int.reduceLE, Int.reduceEq, Int.reduceNe, Int.reduceToNat, UInt8.reduceToNat, reduceCtorEq, and_true, true_and, decide_true, decide_false, wr, m1]))
        all_goals clear m1 m2 m3
        all_goals try simp only [if_true, if_false, true_and, false_and, and_false, Bool.false_eq_true, decide_eq_true_eq, decide_eq_false_iff_not, reduceCtorEq] at *
        all_goals first
          | rfl
          | (rw [if_pos (by omega)]; simp only [Option.some.injEq, PV.tup.injEq, List.cons.injEq, PV.int.injEq, true_and, and_true]; omega)
          | (rw [if_neg (by omega)])
          | (exfalso; omega)
    have e3 : ¬ (byt s k : Int) < 224 := by omega
    have e4 : (224 : Int) ≤ (byt s k : Int) := by omega
    rcases Nat.lt_or_ge (byt s k) 240 with b3 | b3
    · have e5 : (byt s k : Int) < 240 := by omega
      rw [ut_3 (by rw [byt_drop]; exact ⟨b2, b3⟩), contB_drop, contB_drop, v3, byt_drop, byt_drop, byt_drop]
      have d1 := byt_lt s (k + 1)
      cases c1 : contB s (k + 1) with
      | false =>
        rw [c1] at m1
        refine pure_of (5) ?_; rw [go_48]; unfold Tryz.f48; simp (disch := omega) only [go_sem, Nat.reduceAdd, Nat.reduceMul, Nat.reduceSub, Nat.reduceEqDiff, Nat.reduceLeDiff, Nat.reduceLT, Int.reduceAdd, Int.reduceSub, Int.reduceMul, Int.reduceNeg, Int.reduceLT, Int.reduceLE, Int.reduceEq, Int.reduceNe, Int.reduceToNat, UInt8.reduceToNat, reduceCtorEq, and_true, true_and, decide_true, decide_false, hk, ← hg, hz, hl, wr, e1, e2, e3, e4, e5]
        repeat' (first | (refine grdC_split (fun h => ?_) (fun h => ?_) <;> try simp (disch := omega) only [go_sem, Nat.reduceAdd, Nat.reduceMul, Nat.reduceSub, Nat.reduceEqDiff, Nat.reduceLeDiff, Nat.reduceLT, Int.reduceAdd, Int.reduceSub, Int.reduceMul, Int.reduceNeg, Int.reduceLT, Int.reduceLE, Int.reduceEq, Int.reduceNe, Int.reduceToNat, UInt8.reduceToNat, reduceCtorEq, and_true, true_and, decide_true, decide_false, wr, m1]) | (refine condC_split (fun h => ?_) (fun h => ?_) <;> try simp (disch := omega) only [go_sem, Nat.reduceAdd, Nat.reduceMul, Nat.reduceSub, Nat.reduceEqDiff, Nat.reduceLeDiff, Nat.reduceLT, Int.reduceAdd, Int.reduceSub, Int.reduceMul, Int.reduceNeg, Int.reduceLT, Int.reduceLE, Int.reduceEq, Int.reduceNe, Int.reduceToNat, UInt8.reduceToNat, reduceCtorEq, and_true, true_and, decide_true, decide_false, wr, m1]) | (refine bcond_eq (fun h => ?_) (fun h => ?_) <;> try simp (disch := omega) only [go_sem, Nat.reduceAdd, Nat.reduceMul, Nat.reduceSub, Nat.reduceEqDiff, Nat.reduceLeDiff, Nat.reduceLT, Int.reduceAdd, Int.reduceSub, Int.reduceMul, Int.reduceNeg, Int.reduceLT, Int.reduceLE, Int.reduceEq, Int.reduceNe, Int.reduceToNat, UInt8.reduceToNat, reduceCtorEq, and_true, true_and, decide_true, decide_false, wr, m1]) | (refine (nextC_step _ _ _ _ _).trans ?_; simp (disch := omega) only [go_sem, Nat.reduceAdd, Nat.reduceMul, Nat.reduceSub, Nat.reduceEqDiff, Nat.reduceLeDiff, Nat.reduceLT, Int.reduceAdd, Int.reduceSub, Int.reduceMul, Int.reduceNeg, Int.reduceLT, Int.reduceLE, Int.reduceEq, Int.reduceNe, Int.reduceToNat, UInt8.reduceToNat, reduceCtorEq, and_true, true_and, decide_true, decide_false, wr, m1]))
        all_goals clear m1 m2 m3
        all_goals try simp only [if_true, if_false, true_and, false_and, and_false, Bool.false_eq_true, decide_eq_true_eq, decide_eq_false_iff_not, reduceCtorEq] at *
        all_goals first
          | rfl
          | (rw [if_pos (by omega)]; simp only [Option.some.injEq, PV.tup.injEq, List.cons.injEq, PV.int.injEq, true_and, and_true]; omega)
          | (rw [if_neg (by omega)])
          | (exfalso; omega)
      | true =>
        have f1 := contB_range c1
        rw [c1] at m1
        have d2 := byt_lt s (k + 2)
        cases c2 : contB s (k + 2) with
        | false =>
          rw [c2] at m2
          refine pure_of (5) ?_; rw [go_48]; unfold Tryz.f48; simp (disch := omega) only [go_sem, Nat.reduceAdd, Nat.reduceMul, Nat.reduceSub, Nat.reduceEqDiff, Nat.reduceLeDiff, Nat.reduceLT, Int.reduceAdd, Int.reduceSub, Int.reduceMul, Int.reduceNeg, Int.reduceLT, Int.reduceLE, Int.reduceEq, Int.reduceNe, Int.reduceToNat, UInt8.reduceToNat, reduceCtorEq, and_true, true_and, decide_true, decide_false, hk, ← hg, hz, hl, wr, e1, e2, e3, e4, e5]
          repeat' (first | (refine grdC_split (fun h => ?_) (fun h => ?_) <;> try simp (disch := omega) only [go_sem, Nat.reduceAdd, Nat.reduceMul, Nat.reduceSub, Nat.reduceEqDiff, Nat.reduceLeDiff, Nat.reduceLT, Int.reduceAdd, Int.reduceSub, Int.reduceMul, Int.reduceNeg, Int.reduceLT, Int.reduceLE, Int.reduceEq, Int.reduceNe, Int.reduceToNat, UInt8.reduceToNat, reduceCtorEq, and_true, true_and, decide_true, decide_false, wr, m1, m2]) | (refine condC_split (fun h => ?_) (fun h => ?_) <;> try simp (disch := omega) only [go_sem, Nat.reduceAdd, Nat.reduceMul, Nat.reduceSub, Nat.reduceEqDiff, Nat.reduceLeDiff, Nat.reduceLT, Int.reduceAdd, Int.reduceSub, Int.reduceMul, Int.reduceNeg, Int.reduceLT, Int.reduceLE, Int.reduceEq, Int.reduceNe, Int.reduceToNat, UInt8.reduceToNat, reduceCtorEq, and_true, true_and, decide_true, decide_false, wr, m1, m2]) | (refine bcond_eq (fun h => ?_) (fun h => ?_) <;> try simp (disch := omega) only [go_sem, Nat.reduceAdd, Nat.reduceMul, Nat.reduceSub, Nat.reduceEqDiff, Nat.reduceLeDiff, Nat.reduceLT, Int.reduceAdd, Int.reduceSub, Int.reduceMul, Int.reduceNeg, Int.reduceLT, Int.reduceLE, Int.reduceEq, Int.reduceNe, Int.reduceToNat, UInt8.reduceToNat, reduceCtorEq, and_true, true_and, decide_true, decide_false, wr, m1, m2]) | (refine (nextC_step _ _ _ _ _).trans ?_; simp (disch := omega) only [go_sem, Nat.reduceAdd, Nat.reduceMul, Nat.reduceSub, Nat.reduceEqDiff, Nat.reduceLeDiff, Nat.reduceLT, Int.reduceAdd, Int.reduceSub, Int.reduceMul, Int.reduceNeg, Int.reduceLT, Int.reduceLE, Int.reduceEq, Int.reduceNe, Int.reduceToNat, UInt8.reduceToNat, reduceCtorEq, and_true, true_and, decide_true, decide_false, wr, m1, m2]))
          all_goals clear m1 m2 m3
          all_goals try simp only [if_true, if_false, true_and, false_and, and_false, Bool.false_eq_true, decide_eq_true_eq, decide_eq_false_iff_not, reduceCtorEq] at *
          all_goals first
            | rfl
            | (rw [if_pos (by omega)]; simp only [Option.some.injEq, PV.tup.injEq, List.cons.injEq, PV.int.injEq, true_and, and_true]; omega)
            | (rw [if_neg (by omega)])
            | (exfalso; omega)
        | true =>
          have f2 := contB_range c2
          rw [c2] at m2
          refine pure_of (5) ?_; rw [go_48]; unfold Tryz.f48; simp (disch := omega) only [go_sem, Nat.reduceAdd, Nat.reduceMul, Nat.reduceSub, Nat.reduceEqDiff, Nat.reduceLeDiff, Nat.reduceLT, Int.reduceAdd, Int.reduceSub, Int.reduceMul, Int.reduceNeg, Int.reduceLT, Int.reduceLE, Int.reduceEq, Int.reduceNe, Int.reduceToNat, UInt8.reduceToNat, reduceCtorEq, and_true, true_and, decide_true, decide_false, hk, ← hg, hz, hl, wr, e1, e2, e3, e4, e5]
          repeat' (first | (refine grdC_split (fun h => ?_) (fun h => ?_) <;> try simp (disch := omega) only [go_sem, Nat.reduceAdd, Nat.reduceMul, Nat.reduceSub, Nat.reduceEqDiff, Nat.reduceLeDiff, Nat.reduceLT, Int.reduceAdd, Int.reduceSub, Int.reduceMul, Int.reduceNeg, Int.reduceLT, Int.reduceLE, Int.reduceEq, Int.reduceNe, Int.reduceToNat, UInt8.reduceToNat, reduceCtorEq, and_true, true_and, decide_true, decide_false, wr, m1, m2]) | (refine condC_split (fun h => ?_) (fun h => ?_) <;> try simp (disch := omega) only [go_sem, Nat.reduceAdd, Nat.reduceMul, Nat.reduceSub, Nat.reduceEqDiff, Nat.reduceLeDiff, Nat.reduceLT, Int.reduceAdd, Int.reduceSub, Int.reduceMul, Int.reduceNeg, Int.reduceLT, Int.reduceLE, Int.reduceEq, Int.reduceNe, Int.reduceToNat, UInt8.reduceToNat, reduceCtorEq, and_true, true_and, decide_true, decide_false, wr, m1, m2]) | (refine bcond_eq (fun h => ?_) (fun h => ?_) <;> try simp (disch := omega) only [go_sem, Nat.reduceAdd, Nat.reduceMul, Nat.reduceSub, Nat.reduceEqDiff, Nat.reduceLeDiff, Nat.reduceLT, Int.reduceAdd, Int.reduceSub, Int.reduceMul, Int.reduceNeg, Int.reduceLT, Int.reduceLE, Int.reduceEq, Int.reduceNe, Int.reduceToNat, UInt8.reduceToNat, reduceCtorEq, and_true, true_and, decide_true, decide_false, wr, m1, m2]) | (refine (nextC_step _ _ _ _ _).trans ?_; simp (disch := omega) only [go_sem, Nat.reduceAdd, Nat.reduceMul, Nat.reduceSub, Nat.reduceEqDiff, Nat.reduceLeDiff, Nat.reduceLT, Int.reduceAdd, Int.reduceSub, Int.reduceMul, Int.reduceNeg, Int.reduceLT, Int.reduceLE, Int.reduceEq, Int.reduceNe, Int.reduceToNat, UInt8.reduceToNat, reduceCtorEq, and_true, true_and, decide_true, decide_false, wr, m1, m2]))
          all_goals clear m1 m2 m3
          all_goals try simp only [if_true, if_false, true_and, false_and, and_false, Bool.false_eq_true, decide_eq_true_eq, decide_eq_false_iff_not, reduceCtorEq] at *
          all_goals first
            | rfl
            | (rw [if_pos (by omega)]; simp only [Option.some.injEq, PV.tup.injEq, List.cons.injEq, PV.int.injEq, true_and, and_true]; omega)
            | (rw [if_neg (by omega)])
            | (exfalso; omega)
    have e5 : ¬ (byt s k : Int) < 240 := by omega
    have e6 : (240 : Int) ≤ (byt s k : Int) := by omega
    have e7 : (byt s k : Int) < 248 := by omega
    rw [ut_4 (by rw [byt_drop]; exact ⟨b3, b1.2⟩), contB_drop, contB_drop, contB_drop, v4, byt_drop, byt_drop, byt_drop, byt_drop]
    have d1 := byt_lt s (k + 1)
    cases c1 : contB s (k + 1) with
    | false =>
      rw [c1] at m1
      refine pure_of (5) ?_; rw [go_48]; unfold Tryz.f48; simp (disch := omega) only [go_sem, Nat.reduceAdd, Nat.reduceMul, Nat.reduceSub, Nat.reduceEqDiff, Nat.reduceLeDiff, Nat.reduceLT, Int.reduceAdd, Int.reduceSub, Int.reduceMul, Int.reduceNeg, Int.reduceLT, Int.reduceLE, Int.reduceEq, Int.reduceNe, Int.reduceToNat, UInt8.reduceToNat, reduceCtorEq, and_true, true_and, decide_true, decide_false, hk, ← hg, hz, hl, wr, e1, e2, e3, e4, e5, e6, e7]
      repeat' (first | (refine grdC_split (fun h => ?_) (fun h => ?_) <;> try simp (disch := omega) only [go_sem, Nat.reduceAdd, Nat.reduceMul, Nat.reduceSub, Nat.reduceEqDiff, Nat.reduceLeDiff, Nat.reduceLT, Int.reduceAdd, Int.reduceSub, Int.reduceMul, Int.reduceNeg, Int.reduceLT, Int.reduceLE, Int.reduceEq, Int.reduceNe, Int.reduceToNat, UInt8.reduceToNat, reduceCtorEq, and_true, true_and, decide_true, decide_false, wr, m1]) | (refine condC_split (fun h => ?_) (fun h => ?_) <;> try simp (disch := omega) only [go_sem, Nat.reduceAdd, Nat.reduceMul, Nat.reduceSub, Nat.reduceEqDiff, Nat.reduceLeDiff, Nat.reduceLT, Int.reduceAdd, Int.reduceSub, Int.reduceMul, Int.reduceNeg, Int.reduceLT, Int.reduceLE, Int.reduceEq, Int.reduceNe, Int.reduceToNat, UInt8.reduceToNat, reduceCtorEq, and_true, true_and, decide_true, decide_false, wr, m1]) | (refine bcond_eq (fun h => ?_) (fun h => ?_) <;> try simp (disch := omega) only [go_sem, Nat.reduceAdd, Nat.reduceMul, Nat.reduceSub, Nat.reduceEqDiff, Nat.reduceLeDiff, Nat.reduceLT, Int.reduceAdd, Int.reduceSub, Int.reduceMul, Int.reduceNeg, Int.reduceLT, Int.reduceLE, Int.reduceEq, Int.reduceNe, Int.reduceToNat, UInt8.reduceToNat, reduceCtorEq, and_true, true_and, decide_true, decide_false, wr, m1]) | (refine (nextC_step _ _ _ _ _).trans ?_; simp (disch := omega) only [go_sem, Nat.reduceAdd, Nat.reduceMul, Nat.reduceSub, Nat.reduceEqDiff, Nat.reduceLeDiff, Nat.reduceLT, Int.reduceAdd, Int.reduceSub, Int.reduceMul, Int.reduceNeg, Int.reduceLT, Int.reduceLE, Int.reduceEq, Int.reduceNe, Int.reduceToNat, UInt8.reduceToNat, reduceCtorEq, and_true, true_and, decide_true, decide_false, wr, m1]))
      all_goals clear m1 m2 m3
      all_goals try simp only [if_true, if_false, true_and, false_and, and_false, Bool.false_eq_true, decide_eq_true_eq, decide_eq_false_iff_not, reduceCtorEq] at *
      all_goals first
        | rfl
        | (rw [if_pos (by omega)]; simp only [Option.some.injEq, PV.tup.injEq, List.cons.injEq, PV.int.injEq, true_and, and_true]; omega)
        | (rw [if_neg (by omega)])
        | (exfalso; omega)
    | true =>
      have f1 := contB_range c1
      rw [c1] at m1
      have d2 := byt_lt s (k + 2)
      cases c2 : contB s (k + 2) with
      | false =>
        rw [c2] at m2
        refine pure_of (5) ?_; rw [go_48]; unfold Tryz.f48; simp (disch := omega) only [go_sem, Nat.reduceAdd, Nat.reduceMul, Nat.reduceSub, Nat.reduceEqDiff, Nat.reduceLeDiff, Nat.reduceLT, Int.reduceAdd, Int.reduceSub, Int.reduceMul, Int.reduceNeg, Int.reduceLT, Int.reduceLE, Int.reduceEq, Int.reduceNe, Int.reduceToNat, UInt8.reduceToNat, reduceCtorEq, and_true, true_and, decide_true, decide_false, hk, ← hg, hz, hl, wr, e1, e2, e3, e4, e5, e6, e7]
        repeat' (first | (refine grdC_split (fun h => ?_) (fun h => ?_) <;> try simp (disch := omega) only [go_sem, Nat.reduceAdd, Nat.reduceMul, Nat.reduceSub, Nat.reduceEqDiff, Nat.reduceLeDiff, Nat.reduceLT, Int.reduceAdd, Int.reduceSub, Int.reduceMul, Int.reduceNeg, Int.reduceLT, Int.reduceLE, Int.reduceEq, Int.reduceNe, Int.reduceToNat, UInt8.reduceToNat, reduceCtorEq, and_true, true_and, decide_true, decide_false, wr, m1, m2]) | (refine condC_split (fun h => ?_) (fun h => ?_) <;> try simp (disch := omega) only [go_sem, Nat.reduceAdd, Nat.reduceMul, Nat.reduceSub, Nat.reduceEqDiff, Nat.reduceLeDiff, Nat.reduceLT, Int.reduceAdd, Int.reduceSub, Int.reduceMul, Int.reduceNeg, Int.reduceLT, Int.reduceLE, Int.reduceEq, Int.reduceNe, Int.reduceToNat, UInt8.reduceToNat, reduceCtorEq, and_true, true_and, decide_true, decide_false, wr, m1, m2]) | (refine bcond_eq (fun h => ?_) (fun h => ?_) <;> try simp (disch := omega) only [go_sem, Nat.reduceAdd, Nat.reduceMul, Nat.reduceSub, Nat.reduceEqDiff, Nat.reduceLeDiff, Nat.reduceLT, Int.reduceAdd, Int.reduceSub, Int.reduceMul, Int.reduceNeg, Int.reduceLT, Int.reduceLE, Int.reduceEq, Int.reduceNe, Int.reduceToNat, UInt8.reduceToNat, reduceCtorEq, and_true, true_and, decide_true, decide_false, wr, m1, m2]) | (refine (nextC_step _ _ _ _ _).trans ?_; simp (disch := omega) only [go_sem, Nat.reduceAdd, Nat.reduceMul, Nat.reduceSub, Nat.reduceEqDiff, Nat.reduceLeDiff, Nat.reduceLT, Int.reduceAdd, Int.reduceSub, Int.reduceMul, Int.reduceNeg, Int.reduceLT, Int.reduceLE, Int.reduceEq, Int.reduceNe, Int.reduceToNat, UInt8.reduceToNat, reduceCtorEq, and_true, true_and, decide_true, decide_false, wr, m1, m2]))
        all_goals clear m1 m2 m3
        all_goals try simp only [if_true, if_false, true_and, false_and, and_false, Bool.false_eq_true, decide_eq_true_eq, decide_eq_false_iff_not, reduceCtorEq] at *
        all_goals first
          | rfl
          | (rw [if_pos (by omega)]; simp only [Option.some.injEq, PV.tup.injEq, List.cons.injEq, PV.int.injEq, true_and, and_true]; omega)
          | (rw [if_neg (by omega)])
          | (exfalso; omega)
      | true =>
        have f2 := contB_range c2
        rw [c2] at m2
        have d3 := byt_lt s (k + 3)
        cases c3 : contB s (k + 3) with
        | false =>
          rw [c3] at m3
          refine pure_of (5) ?_; rw [go_48]; unfold Tryz.f48; simp (disch := omega) only [go_sem, Nat.reduceAdd, Nat.reduceMul, Nat.reduceSub, Nat.reduceEqDiff, Nat.reduceLeDiff, Nat.reduceLT, Int.reduceAdd, Int.reduceSub, Int.reduceMul, Int.reduceNeg, Int.reduceLT, Int.reduceLE, Int.reduceEq, Int.reduceNe, Int.reduceToNat, UInt8.reduceToNat, reduceCtorEq, and_true, true_and, decide_true, decide_false, hk, ← hg, hz, hl, wr, e1, e2, e3, e4, e5, e6, e7]
          repeat' (first | (refine grdC_split (fun h => ?_) (fun h => ?_) <;> try simp (disch := omega) only [go_sem, Nat.reduceAdd, Nat.reduceMul, Nat.reduceSub, Nat.reduceEqDiff, Nat.reduceLeDiff, Nat.reduceLT, Int.reduceAdd, Int.reduceSub, Int.reduceMul, Int.reduceNeg, Int.reduceLT, Int.reduceLE, Int.reduceEq, Int.reduceNe, Int.reduceToNat, UInt8.reduceToNat, reduceCtorEq, and_true, true_and, decide_true, decide_false, wr, m1, m2, m3]) | (refine condC_split (fun h => ?_) (fun h => ?_) <;> try simp (disch := omega) only [go_sem, Nat.reduceAdd, Nat.reduceMul, Nat.reduceSub, Nat.reduceEqDiff, Nat.reduceLeDiff, Nat.reduceLT, Int.reduceAdd, Int.reduceSub, Int.reduceMul, Int.reduceNeg, Int.reduceLT, Int.reduceLE, Int.reduceEq, Int.reduceNe, Int.reduceToNat, UInt8.reduceToNat, reduceCtorEq, and_true, true_and, decide_true, decide_false, wr, m1, m2, m3]) | (refine bcond_eq (fun h => ?_) (fun h => ?_) <;> try simp (disch := omega) only [go_sem, Nat.reduceAdd, Nat.reduceMul, Nat.reduceSub, Nat.reduceEqDiff, Nat.reduceLeDiff, Nat.reduceLT, Int.reduceAdd, Int.reduceSub, Int.reduceMul, Int.reduceNeg, Int.reduceLT, Int.reduceLE, Int.reduceEq, Int.reduceNe, Int.reduceToNat, UInt8.reduceToNat, reduceCtorEq, and_true, true_and, decide_true, decide_false, wr, m1, m2, m3]) | (refine (nextC_step _ _ _ _ _).trans ?_; simp (disch := omega) only [go_sem, Nat.reduceAdd, Nat.reduceMul, Nat.reduceSub, Nat.reduceEqDiff, Nat.reduceLeDiff, Nat.reduceLT, Int.reduceAdd, Int.reduceSub, Int.reduceMul, Int.reduceNeg, Int.reduceLT, Int.reduceLE, Int.reduceEq, Int.reduceNe, Int.reduceToNat, UInt8.reduceToNat, reduceCtorEq, and_true, true_and, decide_true, decide_false, wr, m1, m2, m3]))
          all_goals clear m1 m2 m3
          all_goals try simp only [if_true, if_false, true_and, false_and, and_false, Bool.false_eq_true, decide_eq_true_eq, decide_eq_false_iff_not, reduceCtorEq] at *
          all_goals first
            | rfl
            | (rw [if_pos (by omega)]; simp only [Option.some.injEq, PV.tup.injEq, List.cons.injEq, PV.int.injEq, true_and, and_true]; omega)
            | (rw [if_neg (by omega)])
            | (exfalso; omega)
        | true =>
          have f3 := contB_range c3
          rw [c3] at m3
          refine pure_of (5) ?_; rw [go_48]; unfold Tryz.f48; simp (disch := omega) only [go_sem, Nat.reduceAdd, Nat.reduceMul, Nat.reduceSub, Nat.reduceEqDiff, Nat.reduceLeDiff, Nat.reduceLT, Int.reduceAdd, Int.reduceSub, Int.reduceMul, Int.reduceNeg, Int.reduceLT, Int.reduceLE, Int.reduceEq, Int.reduceNe, Int.reduceToNat, UInt8.reduceToNat, reduceCtorEq, and_true, true_and, decide_true, decide_false, hk, ← hg, hz, hl, wr, e1, e2, e3, e4, e5, e6, e7]
          repeat' (first | (refine grdC_split (fun h => ?_) (fun h => ?_) <;> try simp (disch := omega) only [go_sem, Nat.reduceAdd, Nat.reduceMul, Nat.reduceSub, Nat.reduceEqDiff, Nat.reduceLeDiff, Nat.reduceLT, Int.reduceAdd, Int.reduceSub, Int.reduceMul, Int.reduceNeg, Int.reduceLT, Int.reduceLE, Int.reduceEq, Int.reduceNe, Int.reduceToNat, UInt8.reduceToNat, reduceCtorEq, and_true, true_and, decide_true, decide_false, wr, m1, m2, m3]) | (refine condC_split (fun h => ?_) (fun h => ?_) <;> try simp (disch := omega) only [go_sem, Nat.reduceAdd, Nat.reduceMul, Nat.reduceSub, Nat.reduceEqDiff, Nat.reduceLeDiff, Nat.reduceLT, Int.reduceAdd, Int.reduceSub, Int.reduceMul, Int.reduceNeg, Int.reduceLT, Int.reduceLE, Int.reduceEq, Int.reduceNe, Int.reduceToNat, UInt8.reduceToNat, reduceCtorEq, and_true, true_and, decide_true, decide_false, wr, m1, m2, m3]) | (refine bcond_eq (fun h => ?_) (fun h => ?_) <;> try simp (disch := omega) only [go_sem, Nat.reduceAdd, Nat.reduceMul, Nat.reduceSub, Nat.reduceEqDiff, Nat.reduceLeDiff, Nat.reduceLT, Int.reduceAdd, Int.reduceSub, Int.reduceMul, Int.reduceNeg, Int.reduceLT, Int.reduceLE, Int.reduceEq, Int.reduceNe, Int.reduceToNat, UInt8.reduceToNat, reduceCtorEq, and_true, true_and, decide_true, decide_false, wr, m1, m2, m3]) | (refine (nextC_step _ _ _ _ _).trans ?_; simp (disch := omega) only [go_sem, Nat.reduceAdd, Nat.reduceMul, Nat.reduceSub, Nat.reduceEqDiff, Nat.reduceLeDiff, Nat.reduceLT, Int.reduceAdd, Int.reduceSub, Int.reduceMul, Int.reduceNeg, Int.reduceLT, Int.reduceLE, Int.reduceEq, Int.reduceNe, Int.reduceToNat, UInt8.reduceToNat, reduceCtorEq, and_true, true_and, decide_true, decide_false, wr, m1, m2, m3]))
          all_goals clear m1 m2 m3
          all_goals try simp only [if_true, if_false, true_and, false_and, and_false, Bool.false_eq_true, decide_eq_true_eq, decide_eq_false_iff_not, reduceCtorEq] at *
          all_goals first
            | rfl
            | (rw [if_pos (by omega)]; simp only [Option.some.injEq, PV.tup.injEq, List.cons.injEq, PV.int.injEq, true_and, and_true]; omega)
            | (rw [if_neg (by omega)])
            | (exfalso; omega)
  · rw [ut_0 (by rw [byt_drop]; exact Nat.not_lt.2 a) (by rw [byt_drop]; exact b1)]
    refine pure_of (5) ?_; rw [go_48]; unfold Tryz.f48; simp (disch := omega) only [go_sem, Nat.reduceAdd, Nat.reduceMul, Nat.reduceSub, Nat.reduceEqDiff, Nat.reduceLeDiff, Nat.reduceLT, Int.reduceAdd, Int.reduceSub, Int.reduceMul, Int.reduceNeg, Int.reduceLT, Int.reduceLE, Int.reduceEq, Int.reduceNe, Int.reduceToNat, UInt8.reduceToNat, reduceCtorEq, and_true, true_and, decide_true, decide_false, hk, ← hg, hz, hl, wr, e1]
    repeat' (first | (refine grdC_split (fun h => ?_) (fun h => ?_) <;> try simp (disch := omega) only [go_sem, Nat.reduceAdd, Nat.reduceMul, Nat.reduceSub, Nat.reduceEqDiff, Nat.reduceLeDiff, Nat.reduceLT, Int.reduceAdd, Int.reduceSub, Int.reduceMul, Int.reduceNeg, Int.reduceLT, Int.reduceLE, Int.reduceEq, Int.reduceNe, Int.reduceToNat, UInt8.reduceToNat, reduceCtorEq, and_true, true_and, decide_true, decide_false, wr]) | (refine condC_split (fun h => ?_) (fun h => ?_) <;> try simp (disch := omega) only [go_sem, Nat.reduceAdd, Nat.reduceMul, Nat.reduceSub, Nat.reduceEqDiff, Nat.reduceLeDiff, Nat.reduceLT, Int.reduceAdd, Int.reduceSub, Int.reduceMul, Int.reduceNeg, Int.reduceLT, Int.reduceLE, Int.reduceEq, Int.reduceNe, Int.reduceToNat, UInt8.reduceToNat, reduceCtorEq, and_true, true_and, decide_true, decide_false, wr]) | (refine bcond_eq (fun h => ?_) (fun h => ?_) <;> try simp (disch := omega) only [go_sem, Nat.reduceAdd, Nat.reduceMul, Nat.reduceSub, Nat.reduceEqDiff, Nat.reduceLeDiff, Nat.reduceLT, Int.reduceAdd, Int.reduceSub, Int.reduceMul, Int.reduceNeg, Int.reduceLT, Int.reduceLE, Int.reduceEq, Int.reduceNe, Int.reduceToNat, UInt8.reduceToNat, reduceCtorEq, and_true, true_and, decide_true, decide_false, wr]) | (refine (nextC_step _ _ _ _ _).trans ?_; simp (disch := omega) only [go_sem, Nat.reduceAdd, Nat.reduceMul, Nat.reduceSub, Nat.reduceEqDiff, Nat.reduceLeDiff, Nat.reduceLT, Int.reduceAdd, Int.reduceSub, Int.reduceMul, Int.reduceNeg, Int.reduceLT, Int.reduceLE, Int.reduceEq, Int.reduceNe, Int.reduceToNat, UInt8.reduceToNat, reduceCtorEq, and_true, true_and, decide_true, decide_false, wr]))
    all_goals first | rfl | (exfalso; simp at *; omega)
theorem ptL_le (s : List UInt8) (h : s ≠ []) : (ptL s).2.toNat ≤ s.length := by
  have len : ∀ k, contB s k = true → k < s.length := by
    intro k h
    rcases Nat.lt_or_ge k s.length with h1 | h1
    · exact h1
    · rw [contB_end h1] at h; cases h
  have hl : s.length ≠ 0 := fun e => h (List.length_eq_zero_iff.1 e)
  rcases Nat.lt_or_ge (byt s 0) 128 with a | a
  · rw [ut_1 a]; simp only [Int.toNat_one]; omega
  by_cases b : 192 ≤ byt s 0 ∧ byt s 0 < 248
  · rcases Nat.lt_or_ge (byt s 0) 224 with c | c
    · rw [ut_2 ⟨b.1, c⟩]
      split
      · rename_i d; have := len 1 d.1; show Int.toNat 2 ≤ _; omega
      · simp
    rcases Nat.lt_or_ge (byt s 0) 240 with e | e
    · rw [ut_3 ⟨c, e⟩]
      split
      · rename_i d; have := len 2 d.2.1; show Int.toNat 3 ≤ _; omega
      · simp
    · rw [ut_4 ⟨e, b.2⟩]
      split
      · rename_i d; have := len 3 d.2.2.1; show Int.toNat 4 ≤ _; omega
      · simp
  · rw [ut_0 (by omega) b]; simp
set_option maxHeartbeats 4000000 in
@[go_sem] theorem refBad_ok (s : List UInt8) (hs : s.length ≤ 9223372036854775800) : (lim0 E).pure 34 [.str s] = some (.int .i64 (badW s 0)) := by
  refine pure_of (s.length + 1) ?_; rw [go_34]; unfold Tryz.f34; simp only [go_sem, Nat.reduceAdd, Nat.reduceMul, Nat.reduceSub, Nat.reduceEqDiff, Nat.reduceLeDiff, Nat.reduceLT, Int.reduceAdd, Int.reduceSub, Int.reduceMul, Int.reduceNeg, Int.reduceLT, Int.reduceLE, Int.reduceEq, Int.reduceNe, Int.reduceToNat, UInt8.reduceToNat, reduceCtorEq, and_true, true_and, decide_true, decide_false]
  refine loop_ind (fun j vs H => ∃ i : Nat, j = s.length - i ∧ H = [] ∧ vs = [.pv (.str s), .pv (.int .i64 i)] ∧ i ≤ s.length ∧ badW s 0 = badW (s.drop i) i) s.length ⟨0, by simp, rfl, rfl, by simp, by simp⟩ (by omega) ?_
  rintro j vs H m' ⟨i, hj, rfl, rfl, hi, hall⟩ ih
  simp only [go_sem, Nat.reduceAdd, Nat.reduceMul, Nat.reduceSub, Nat.reduceEqDiff, Nat.reduceLeDiff, Nat.reduceLT, Int.reduceAdd, Int.reduceSub, Int.reduceMul, Int.reduceNeg, Int.reduceLT, Int.reduceLE, Int.reduceEq, Int.reduceNe, Int.reduceToNat, UInt8.reduceToNat, reduceCtorEq, and_true, true_and, decide_true, decide_false]
  refine condC_split (fun h => ?_) (fun h => ?_)
  · have hi' : i < s.length := by simp at h; omega
    have hp := point_ok s i hs hi'
    have hne : s.drop i ≠ [] := by intro e; have := congrArg List.length e; simp at this; omega
    have hb := badW_pt (s.drop i) i hne
    have hle := ptL_le (s.drop i) hne
    rw [List.length_drop] at hle
    rcases ptL_cases (s.drop i) with ⟨p1, p2⟩ | ⟨w, p2, w1, w4, p3, p4⟩
    · rw [p1, p2] at hp
      rw [if_pos (.inl p2)] at hb
      simp only [go_sem, Nat.reduceAdd, Nat.reduceMul, Nat.reduceSub, Nat.reduceEqDiff, Nat.reduceLeDiff, Nat.reduceLT, Int.reduceAdd, Int.reduceSub, Int.reduceMul, Int.reduceNeg, Int.reduceLT, Int.reduceLE, Int.reduceEq, Int.reduceNe, Int.reduceToNat, UInt8.reduceToNat, reduceCtorEq, and_true, true_and, decide_true, decide_false, hp]
      rw [hall, hb]
    · rw [p2] at hp hb hle
      simp only [go_sem, Nat.reduceAdd, Nat.reduceMul, Nat.reduceSub, Nat.reduceEqDiff, Nat.reduceLeDiff, Nat.reduceLT, Int.reduceAdd, Int.reduceSub, Int.reduceMul, Int.reduceNeg, Int.reduceLT, Int.reduceLE, Int.reduceEq, Int.reduceNe, Int.reduceToNat, UInt8.reduceToNat, reduceCtorEq, and_true, true_and, decide_true, decide_false, hp]
      have hw : ¬ (w : Int) = 0 := by omega
      by_cases hc : (ptL (s.drop i)).1 = 0
      · rw [if_pos (.inr hc)] at hb
        simp (disch := omega) only [go_sem, Nat.reduceAdd, Nat.reduceMul, Nat.reduceSub, Nat.reduceEqDiff, Nat.reduceLeDiff, Nat.reduceLT, Int.reduceAdd, Int.reduceSub, Int.reduceMul, Int.reduceNeg, Int.reduceLT, Int.reduceLE, Int.reduceEq, Int.reduceNe, Int.reduceToNat, UInt8.reduceToNat, reduceCtorEq, and_true, true_and, decide_true, decide_false, hp, hw, hc]
        rw [hall, hb]
      · rw [if_neg (by rintro (e | e); exact hw e; exact hc e)] at hb
        simp (disch := omega) only [go_sem, Nat.reduceAdd, Nat.reduceMul, Nat.reduceSub, Nat.reduceEqDiff, Nat.reduceLeDiff, Nat.reduceLT, Int.reduceAdd, Int.reduceSub, Int.reduceMul, Int.reduceNeg, Int.reduceLT, Int.reduceLE, Int.reduceEq, Int.reduceNe, Int.reduceToNat, UInt8.reduceToNat, reduceCtorEq, and_true, true_and, decide_true, decide_false, hp, hw, hc]
        rw [show IntKind.i64.wrap ((i : Int) + (w : Int)) = ((i + w : Nat) : Int) by rw [w_in (by omega) (by omega)]; omega]
        refine ih _ _ _ (by simp at hle; omega) ⟨i + w, rfl, rfl, rfl, by simp at hle; omega, ?_⟩
        rw [hall, hb]; simp
  · have hi' : i = s.length := by simp at h; omega
    subst hi'
    simp only [go_sem, Nat.reduceAdd, Nat.reduceMul, Nat.reduceSub, Nat.reduceEqDiff, Nat.reduceLeDiff, Nat.reduceLT, Int.reduceAdd, Int.reduceSub, Int.reduceMul, Int.reduceNeg, Int.reduceLT, Int.reduceLE, Int.reduceEq, Int.reduceNe, Int.reduceToNat, UInt8.reduceToNat, reduceCtorEq, and_true, true_and, decide_true, decide_false]
    rw [hall]; simp; rw [badW, dif_pos rfl]
theorem badW_ge (s : List UInt8) : -1 ≤ badW s 0 := by
  have : ∀ (n : Nat) (rest : List UInt8) (pos : Nat), rest.length ≤ n → -1 ≤ badW rest pos := by
    intro n
    induction n with
    | zero =>
      intro rest pos h
      rw [badW, dif_pos (List.length_eq_zero_iff.1 (by omega))]; omega
    | succ n ih =>
      intro rest pos h
      rw [badW]
      split
      · omega
      · split
        · omega
        · rename_i h0 _
          have := runeAt_pos rest
          have : rest.length ≠ 0 := fun e => h0 (List.length_eq_zero_iff.1 e)
          exact ih _ _ (by simp only [List.length_drop]; omega)
  exact this _ s 0 (Nat.le_refl _)
@[go_sem] theorem refValid_ok (s : List UInt8) (hs : s.length ≤ 9223372036854775800) : (lim0 E).pure 11 [.str s] = some (.bool (validT s)) := by
  have hb := refBad_ok s hs
  have := badW_ge s
  refine pure_of (0) ?_; rw [go_11]; unfold Tryz.f11; simp only [go_sem, Nat.reduceAdd, Nat.reduceMul, Nat.reduceSub, Nat.reduceEqDiff, Nat.reduceLeDiff, Nat.reduceLT, Int.reduceAdd, Int.reduceSub, Int.reduceMul, Int.reduceNeg, Int.reduceLT, Int.reduceLE, Int.reduceEq, Int.reduceNe, Int.reduceToNat, UInt8.reduceToNat, reduceCtorEq, and_true, true_and, decide_true, decide_false, hb]
  repeat' (first | (refine grdC_split (fun h => ?_) (fun h => ?_) <;> try simp only [go_sem, Nat.reduceAdd, Nat.reduceMul, Nat.reduceSub, Nat.reduceEqDiff, Nat.reduceLeDiff, Nat.reduceLT, Int.reduceAdd, Int.reduceSub, Int.reduceMul, Int.reduceNeg, Int.reduceLT, Int.reduceLE, Int.reduceEq, Int.reduceNe, Int.reduceToNat, UInt8.reduceToNat, reduceCtorEq, and_true, true_and, decide_true, decide_false, hb]) | (refine condC_split (fun h => ?_) (fun h => ?_) <;> try simp only [go_sem, Nat.reduceAdd, Nat.reduceMul, Nat.reduceSub, Nat.reduceEqDiff, Nat.reduceLeDiff, Nat.reduceLT, Int.reduceAdd, Int.reduceSub, Int.reduceMul, Int.reduceNeg, Int.reduceLT, Int.reduceLE, Int.reduceEq, Int.reduceNe, Int.reduceToNat, UInt8.reduceToNat, reduceCtorEq, and_true, true_and, decide_true, decide_false, hb]) | (refine bcond_eq (fun h => ?_) (fun h => ?_) <;> try simp only [go_sem, Nat.reduceAdd, Nat.reduceMul, Nat.reduceSub, Nat.reduceEqDiff, Nat.reduceLeDiff, Nat.reduceLT, Int.reduceAdd, Int.reduceSub, Int.reduceMul, Int.reduceNeg, Int.reduceLT, Int.reduceLE, Int.reduceEq, Int.reduceNe, Int.reduceToNat, UInt8.reduceToNat, reduceCtorEq, and_true, true_and, decide_true, decide_false, hb]))
  all_goals (refine sb ?_; simp [validT] at *; try omega)
def hasB (s : List UInt8) (c : Int) : Bool := s.any fun b => decide ((b.toNat : Int) = c)
set_option maxHeartbeats 4000000 in
@[go_sem] theorem has04_ok (s : List UInt8) (c : Int) (hs : s.length ≤ 9223372036854775807) : (lim0 E).pure 12 [.str s, .int .u8 c] = some (.bool (hasB s c)) := by
  refine pure_of (s.length + 1) ?_; rw [go_12]; unfold Tryz.f12; simp only [go_sem, Nat.reduceAdd, Nat.reduceMul, Nat.reduceSub, Nat.reduceEqDiff, Nat.reduceLeDiff, Nat.reduceLT, Int.reduceAdd, Int.reduceSub, Int.reduceMul, Int.reduceNeg, Int.reduceLT, Int.reduceLE, Int.reduceEq, Int.reduceNe, Int.reduceToNat, UInt8.reduceToNat, reduceCtorEq, and_true, true_and, decide_true, decide_false]
  refine loop_ind (fun j vs H => ∃ i : Nat, j = s.length - i ∧ H = [] ∧ vs = [.pv (.str s), .pv (.int .u8 c), .pv (.int .i64 i)] ∧ i ≤ s.length ∧ hasB s c = hasB (s.drop i) c) s.length ⟨0, by simp, rfl, rfl, by simp, by simp⟩ (by omega) ?_
  rintro j vs H m' ⟨i, hj, rfl, rfl, hi, hall⟩ ih
  simp only [go_sem, Nat.reduceAdd, Nat.reduceMul, Nat.reduceSub, Nat.reduceEqDiff, Nat.reduceLeDiff, Nat.reduceLT, Int.reduceAdd, Int.reduceSub, Int.reduceMul, Int.reduceNeg, Int.reduceLT, Int.reduceLE, Int.reduceEq, Int.reduceNe, Int.reduceToNat, UInt8.reduceToNat, reduceCtorEq, and_true, true_and, decide_true, decide_false]
  refine condC_split (fun h => ?_) (fun h => ?_)
  · have hi' : i < s.length := by simp at h; omega
    have hd : hasB (s.drop i) c = (decide ((s[i].toNat : Int) = c) || hasB (s.drop (i + 1)) c) := by rw [hasB, List.drop_eq_getElem_cons hi', List.any_cons]; rfl
    simp only [go_sem, Nat.reduceAdd, Nat.reduceMul, Nat.reduceSub, Nat.reduceEqDiff, Nat.reduceLeDiff, Nat.reduceLT, Int.reduceAdd, Int.reduceSub, Int.reduceMul, Int.reduceNeg, Int.reduceLT, Int.reduceLE, Int.reduceEq, Int.reduceNe, Int.reduceToNat, UInt8.reduceToNat, reduceCtorEq, and_true, true_and, decide_true, decide_false, hi']
    refine condC_split (fun g => ?_) (fun g => ?_) <;> simp only [go_sem, Nat.reduceAdd, Nat.reduceMul, Nat.reduceSub, Nat.reduceEqDiff, Nat.reduceLeDiff, Nat.reduceLT, Int.reduceAdd, Int.reduceSub, Int.reduceMul, Int.reduceNeg, Int.reduceLT, Int.reduceLE, Int.reduceEq, Int.reduceNe, Int.reduceToNat, UInt8.reduceToNat, reduceCtorEq, and_true, true_and, decide_true, decide_false]
    · rw [hall, hd]; simp at g; simp [g]
    · rw [w_succ i (by omega)]
      refine ih _ _ _ (by omega) ⟨i + 1, rfl, rfl, rfl, by omega, ?_⟩
      rw [hall, hd, g]; rfl
  · have hi' : i = s.length := by simp at h; omega
    subst hi'
    simp only [go_sem, Nat.reduceAdd, Nat.reduceMul, Nat.reduceSub, Nat.reduceEqDiff, Nat.reduceLeDiff, Nat.reduceLT, Int.reduceAdd, Int.reduceSub, Int.reduceMul, Int.reduceNeg, Int.reduceLT, Int.reduceLE, Int.reduceEq, Int.reduceNe, Int.reduceToNat, UInt8.reduceToNat, reduceCtorEq, and_true, true_and, decide_true, decide_false]
    rw [hall]; simp [hasB]
/-! A wildcard, by code points and by bytes. -/
theorem idxR_iff (r : Int) : 0 ≤ idxR r ↔ (r = 43 ∨ r = 35) := by
  unfold idxR
  split
  · simp_all
  · split <;> simp_all
theorem isW_byt (b : UInt8) : isW b = true ↔ (b.toNat = 43 ∨ b.toNat = 35) := by
  have e : ∀ n : Nat, n < 256 → (b = UInt8.ofNat n ↔ b.toNat = n) := by
    intro n h
    constructor
    · intro h; rw [h, UInt8.toNat_ofNat']; omega
    · intro h; apply UInt8.toNat_inj.1; rw [UInt8.toNat_ofNat']; omega
  simp only [isW, Bool.or_eq_true, decide_eq_true_eq]
  rw [← e 43 (by omega), ← e 35 (by omega)]
  exact Or.comm
/-- A wildcard stands at the front of what is looked at by code points only as a byte; the bytes behind a first byte are none. -/
theorem runeL_wild (s : List UInt8) (h : s ≠ []) : ((runeL s).1 = 43 ∨ (runeL s).1 = 35) ∧ (s.take (runeL s).2).any isW = true ∨ ¬ ((runeL s).1 = 43 ∨ (runeL s).1 = 35) ∧ (s.take (runeL s).2).any isW = false := by
  obtain ⟨b, t, rfl⟩ := List.exists_cons_of_ne_nil h
  have hb : byt (b :: t) 0 = b.toNat := rfl
  have big : ∀ x : UInt8, 128 ≤ x.toNat → isW x = false := by
    intro x hx
    rw [← Bool.not_eq_true, isW_byt]; omega
  have cont : ∀ k, contB (b :: t) (k + 1) = true → ∃ x, t[k]? = some x ∧ isW x = false := by
    intro k hk
    unfold contB at hk
    rw [List.getElem?_cons_succ] at hk
    split at hk
    · rename_i x hx
      exact ⟨x, hx, big x (by simp at hk; omega)⟩
    · cases hk
  have c1 := cont 0
  have c2 := cont 1
  have c3 := cont 2
  have take1 : (b :: t).take 1 = [b] := by simp
  unfold runeL
  rw [hb]
  split
  · rename_i h1
    have hi := isW_byt b
    cases hw : isW b with
    | true => rw [hw] at hi; exact .inl ⟨hi.1 rfl, by show ((b :: t).take 1).any isW = true; rw [take1]; simp [hw]⟩
    | false => rw [hw] at hi; exact .inr ⟨fun e => absurd (hi.2 e) (by simp), by show ((b :: t).take 1).any isW = false; rw [take1]; simp [hw]⟩
  have hB : isW b = false := big b (by omega)
  have bad : ¬ ((65533, 1) : Nat × Nat).1 = 43 ∧ ¬ ((65533, 1) : Nat × Nat).1 = 35 := by simp
  split
  · rename_i h1 h2
    simp only [Bool.and_eq_true, decide_eq_true_eq] at h2
    split
    · right
      obtain ⟨x, hx, hw⟩ := c1 h2.2
      refine ⟨by simp only; omega, ?_⟩
      have : (b :: t).take 2 = [b, x] := by rw [List.take_succ_cons, List.take_add_one, hx]; simp
      simp only [this, List.any_cons, List.any_nil, hB, hw, Bool.or_false]
    · right; exact ⟨by simp, by simp [hB]⟩
  split
  · rename_i h1 h2 h3
    simp only [Bool.and_eq_true, decide_eq_true_eq] at h3
    split
    · right
      obtain ⟨x, hx, hw⟩ := c1 h3.1.2
      obtain ⟨y, hy, hv⟩ := c2 h3.2
      refine ⟨by simp only; omega, ?_⟩
      have : (b :: t).take 3 = [b, x, y] := by rw [List.take_succ_cons, List.take_add_one, List.take_add_one, hx, hy]; simp
      simp only [this, List.any_cons, List.any_nil, hB, hw, hv, Bool.or_false]
    · right; exact ⟨by simp, by simp [hB]⟩
  split
  · rename_i h1 h2 h3 h4
    simp only [Bool.and_eq_true, decide_eq_true_eq] at h4
    split
    · right
      obtain ⟨x, hx, hw⟩ := c1 h4.1.1.2
      obtain ⟨y, hy, hv⟩ := c2 h4.1.2
      obtain ⟨z, hz, hu⟩ := c3 h4.2
      refine ⟨by simp only; omega, ?_⟩
      have : (b :: t).take 4 = [b, x, y, z] := by rw [List.take_succ_cons, List.take_add_one, List.take_add_one, List.take_add_one, hx, hy, hz]; simp
      simp only [this, List.any_cons, List.any_nil, hB, hw, hv, hu, Bool.or_false]
    · right; exact ⟨by simp, by simp [hB]⟩
  · right; exact ⟨by simp, by simp [hB]⟩
theorem runeI_any : ∀ (n : Nat) (rest : List UInt8) (pos : Nat), rest.length ≤ n → (0 ≤ runeI rest pos ↔ rest.any isW = true)
  | 0, rest, pos, h => by
    have : rest = [] := List.length_eq_zero_iff.1 (by omega)
    subst this
    rw [runeI, dif_pos rfl]; simp
  | n + 1, rest, pos, h => by
    by_cases h0 : rest = []
    · subst h0; rw [runeI, dif_pos rfl]; simp
    have hi := idxR_iff ((runeAt rest).1 : Int)
    rw [runeI, dif_neg h0]
    rw [runeAt_eq] at hi ⊢
    have hw := runeAt_pos rest
    rw [runeAt_eq] at hw
    have hs : rest.any isW = ((rest.take (runeL rest).2).any isW || (rest.drop (runeL rest).2).any isW) := by rw [← List.any_append, List.take_append_drop]
    have hl : rest.length ≠ 0 := fun e => h0 (List.length_eq_zero_iff.1 e)
    rcases runeL_wild rest h0 with ⟨h1, h2⟩ | ⟨h1, h2⟩
    · rw [if_pos (by omega), hs, h2]; simp
    · rw [if_neg (by omega), runeI_any n _ _ (by simp only [List.length_drop]; omega), hs, h2, Bool.false_or]
theorem byteI_any : ∀ (s : List UInt8) (pos : Nat), 0 ≤ byteI s pos ↔ s.any isW = true
  | [], pos => by simp [byteI]
  | b :: s, pos => by
    rw [byteI, List.any_cons]
    split
    · rename_i h; rw [h]; simp
    · rename_i h; rw [byteI_any s, Bool.not_eq_true] at *; rw [h, Bool.false_or]
theorem wildS_any (s : List UInt8) : wildS s = s.any isW := by
  unfold wildS anyI
  rw [Bool.eq_iff_iff, decide_eq_true_eq]
  split
  · exact byteI_any s 0
  · exact runeI_any _ s 0 (Nat.le_refl _)
theorem hasW (s : List UInt8) : (hasB s 43 || hasB s 35) = s.any isW := by
  unfold hasB
  induction s with
  | nil => rfl
  | cons b s ih =>
    simp only [List.any_cons]
    rw [← ih]
    have : isW b = (decide ((b.toNat : Int) = 43) || decide ((b.toNat : Int) = 35)) := by
      rw [Bool.eq_iff_iff, isW_byt]; simp; omega
    rw [this]
    cases decide ((b.toNat : Int) = 43) <;> cases decide ((b.toNat : Int) = 35) <;> simp
theorem refName_ok (s : List UInt8) (hs : s.length ≤ 9223372036854775800) : (lim0 E).pure 6 [.str s] = some (.bool (nameT s)) := by
  have h1 := refValid_ok s hs
  have h2 := fun c => has04_ok s c (by omega)
  have hw : nameT s = (decide (s ≠ []) && validT s && !hasB s 43 && !hasB s 35) := by
    rw [nameT, textT, wildS_any, ← hasW, Bool.not_or, Bool.and_assoc, Bool.and_assoc, Bool.and_assoc]
  refine pure_of (0) ?_; rw [go_6]; unfold Tryz.f6; simp only [go_sem, Nat.reduceAdd, Nat.reduceMul, Nat.reduceSub, Nat.reduceEqDiff, Nat.reduceLeDiff, Nat.reduceLT, Int.reduceAdd, Int.reduceSub, Int.reduceMul, Int.reduceNeg, Int.reduceLT, Int.reduceLE, Int.reduceEq, Int.reduceNe, Int.reduceToNat, UInt8.reduceToNat, reduceCtorEq, and_true, true_and, decide_true, decide_false, h1, h2]
  repeat' (first | (refine grdC_split (fun h => ?_) (fun h => ?_) <;> try simp only [go_sem, Nat.reduceAdd, Nat.reduceMul, Nat.reduceSub, Nat.reduceEqDiff, Nat.reduceLeDiff, Nat.reduceLT, Int.reduceAdd, Int.reduceSub, Int.reduceMul, Int.reduceNeg, Int.reduceLT, Int.reduceLE, Int.reduceEq, Int.reduceNe, Int.reduceToNat, UInt8.reduceToNat, reduceCtorEq, and_true, true_and, decide_true, decide_false, h1, h2]) | (refine condC_split (fun h => ?_) (fun h => ?_) <;> try simp only [go_sem, Nat.reduceAdd, Nat.reduceMul, Nat.reduceSub, Nat.reduceEqDiff, Nat.reduceLeDiff, Nat.reduceLT, Int.reduceAdd, Int.reduceSub, Int.reduceMul, Int.reduceNeg, Int.reduceLT, Int.reduceLE, Int.reduceEq, Int.reduceNe, Int.reduceToNat, UInt8.reduceToNat, reduceCtorEq, and_true, true_and, decide_true, decide_false, h1, h2]) | (refine bcond_eq (fun h => ?_) (fun h => ?_) <;> try simp only [go_sem, Nat.reduceAdd, Nat.reduceMul, Nat.reduceSub, Nat.reduceEqDiff, Nat.reduceLeDiff, Nat.reduceLT, Int.reduceAdd, Int.reduceSub, Int.reduceMul, Int.reduceNeg, Int.reduceLT, Int.reduceLE, Int.reduceEq, Int.reduceNe, Int.reduceToNat, UInt8.reduceToNat, reduceCtorEq, and_true, true_and, decide_true, decide_false, h1, h2]))
  all_goals (rw [hw]; clear hw h1 h2; refine sb ?_; simp_all)
theorem lives25_ok : (lim0 E).pure 4 [] = some (.bool true) := (callN_le 40).pure _ _ _ (by kernel_rfl)
def pickI (n m : Int) : Int := if m < 1 then 0 else n % m
theorem pick_ok (n m : Int) (hm : 1 ≤ m) (hm2 : m ≤ 1000000) (hn : -9223372036854775808 ≤ n ∧ n ≤ 9223372036854775807) : (lim0 E).pure 5 [.int .i64 n, .int .i64 m] = some (.int .i64 (pickI n m)) := by
  have h0 : ¬ m < 1 := by omega
  have h1 : m ≠ 0 := by omega
  have hp : pickI n m = n % m := by rw [pickI, if_neg h0]
  have he : n.tmod m = n % m - ((if 0 ≤ n ∨ m ∣ n then 0 else m.natAbs : Nat) : Int) := Int.tmod_eq_emod
  have b1 := Int.emod_nonneg n h1
  have b2 := Int.emod_lt_of_pos n (show 0 < m by omega)
  have hd : (0 ≤ n ∨ m ∣ n) ∨ ¬ (0 ≤ n ∨ m ∣ n) := Decidable.em _
  have hz : ¬ (0 ≤ n ∨ m ∣ n) → n % m ≠ 0 := fun h e => h (.inr (Int.dvd_of_emod_eq_zero e))
  rw [hp]
  rcases hd with hd | hd
  · rw [if_pos hd] at he
    have : ¬ n.tmod m < 0 := by omega
    refine pure_of (0) ?_; rw [go_5]; unfold Tryz.f5; simp only [go_sem, Nat.reduceAdd, Nat.reduceMul, Nat.reduceSub, Nat.reduceEqDiff, Nat.reduceLeDiff, Nat.reduceLT, Int.reduceAdd, Int.reduceSub, Int.reduceMul, Int.reduceNeg, Int.reduceLT, Int.reduceLE, Int.reduceEq, Int.reduceNe, Int.reduceToNat, UInt8.reduceToNat, reduceCtorEq, and_true, true_and, decide_true, decide_false, h0, h1, ne_eq, not_false_eq_true, this]
    rw [he]; simp
  · rw [if_neg hd] at he
    have := hz hd
    have h2 : n.tmod m < 0 := by omega
    refine pure_of (0) ?_; rw [go_5]; unfold Tryz.f5; simp (disch := omega) only [go_sem, Nat.reduceAdd, Nat.reduceMul, Nat.reduceSub, Nat.reduceEqDiff, Nat.reduceLeDiff, Nat.reduceLT, Int.reduceAdd, Int.reduceSub, Int.reduceMul, Int.reduceNeg, Int.reduceLT, Int.reduceLE, Int.reduceEq, Int.reduceNe, Int.reduceToNat, UInt8.reduceToNat, reduceCtorEq, and_true, true_and, decide_true, decide_false, h0, h1, ne_eq, not_false_eq_true, h2]
    rw [w_in (by omega) (by omega), he]; congr 1; congr 1; omega
def ev0 (p : Int) (topic payload : List UInt8) (qos id : Int) : GEvent := { GEvent.zero with proto := p, kind := 1, topic := topic, payload := payload, qos := qos, id := id }
def want0 (p : Int) (topic : List UInt8) (qos id : Int) : Int := if nameT topic = false then 10 else if (qos < (if p = 3 then -1 else 0) ∨ 2 < qos ∨ id < 0 ∨ 65535 < id ∨ ¬ (id = 0 ↔ qos < 1)) then 2 else 0
theorem pub0 (p : Int) (topic payload : List UInt8) (qos id : Int) (hp : 1 ≤ p ∧ p ≤ 4) : publishE (ev0 p topic payload qos id) = want0 p topic qos id := by
  have h7 : pongE [] = 0 := by decide
  have h10 : b10 (ev0 p topic payload qos id) = false := by
    simp [b10, bareE, ev0, GEvent.zero, sameF, GFrame.zero, sameVs]
  have h11 : b11 (ev0 p topic payload qos id) = false := by
    have : propsL 3 [] = ([0], 0) := by decide +kernel
    simp [b11, ev0, GEvent.zero, this]
  have h1 : b1 (ev0 p topic payload qos id) = false := by simp [b1, ev0, hp.1, hp.2]
  have h6 : b6 (ev0 p topic payload qos id) = false := by simp [b6, ev0, GEvent.zero]
  have h5 : ∀ x y, b5 (ev0 p topic payload qos id) x y = false := by simp [b5, ev0, GEvent.zero]
  have h8 : b8 (ev0 p topic payload qos id) = false := by simp [b8, ev0, GEvent.zero]
  have h9 : b9 (ev0 p topic payload qos id) = false := by simp [b9, ev0, GEvent.zero]
  have h7' : ∀ x, b7 (ev0 p topic payload qos id) x = false := by intro x; simp [b7, ev0, GEvent.zero, typedE, h7]
  unfold publishE
  simp only [h1, h5, h6, h7', h8, h9, h10, h11, Bool.false_eq_true, if_false]
  unfold want0
  cases hn : nameT topic with
  | false => simp [b2, ev0, hn]
  | true =>
    have c2 : b2 (ev0 p topic payload qos id) = false := by simp [b2, ev0, hn]
    have c3 : b3 (ev0 p topic payload qos id) (snE (ev0 p topic payload qos id)) = decide (qos < (if p = 3 then -1 else 0) ∨ 2 < qos) := by
      show (!decide (0 ≤ qos ∧ qos ≤ 2) && !(decide (p = 3) && decide (qos = -1))) = _
      by_cases a1 : p = 3
      · simp only [a1, decide_true, Bool.true_and, if_true]; (apply Bool.eq_iff_iff.2; simp only [Bool.and_eq_true, Bool.or_eq_true, decide_eq_true_eq, Bool.not_eq_true', decide_eq_false_iff_not, Bool.and_eq_false_iff, Bool.or_eq_false_iff, Bool.false_eq_true, reduceCtorEq, ne_eq, Decidable.not_not]; omega)
      · simp only [a1, decide_false, Bool.false_and, Bool.not_false, Bool.and_true, if_false]; (apply Bool.eq_iff_iff.2; simp only [Bool.and_eq_true, Bool.or_eq_true, decide_eq_true_eq, Bool.not_eq_true', decide_eq_false_iff_not, Bool.and_eq_false_iff, Bool.or_eq_false_iff, Bool.false_eq_true, reduceCtorEq, ne_eq, Decidable.not_not]; omega)
    have c4 : b4 (ev0 p topic payload qos id) (ackE (ev0 p topic payload qos id)) = decide (id < 0 ∨ 65535 < id ∨ ¬ (id = 0 ↔ ¬ (qos = 1 ∨ qos = 2))) := by
      by_cases a1 : qos = 1 <;> by_cases a2 : qos = 2 <;> by_cases a3 : id = 0 <;> simp [b4, ev0, ackE, a1, a2, a3] <;> first | done | omega | (apply Bool.eq_iff_iff.2; simp only [Bool.and_eq_true, Bool.or_eq_true, decide_eq_true_eq, Bool.not_eq_true', decide_eq_false_iff_not, Bool.and_eq_false_iff, Bool.or_eq_false_iff, Bool.false_eq_true, reduceCtorEq, ne_eq, Decidable.not_not]; omega)
    rw [c2, c3, c4]
    simp only [Bool.false_eq_true, if_false, decide_eq_true_eq, reduceCtorEq]
    generalize (if p = 3 then (-1 : Int) else 0) = least
    by_cases d3 : qos < least ∨ 2 < qos
    · rw [if_pos d3, if_pos (by omega)]
    · rw [if_neg d3]
      by_cases d4 : id < 0 ∨ 65535 < id ∨ ¬ (id = 0 ↔ ¬ (qos = 1 ∨ qos = 2))
      · rw [if_pos d4, if_pos (by omega)]
      · rw [if_neg d4, if_neg (by omega)]
theorem pickI_range (n m : Int) (h : 1 ≤ m) : 0 ≤ pickI n m ∧ pickI n m < m := by
  rw [pickI, if_neg (by omega)]
  exact ⟨Int.emod_nonneg n (by omega), Int.emod_lt_of_pos n (by omega)⟩
theorem ev0_wf (p : Int) (topic payload : List UInt8) (qos id : Int) (h1 : topic.length ≤ 2000) (h2 : payload.length ≤ 2000) : wfE (ev0 p topic payload qos id) := by
  refine ⟨?_, ?_, ?_, ?_, ?_, ?_, ?_, ?_, ?_, ?_, ?_⟩ <;> simp [ev0, GEvent.zero, GPacket.zero, GWill.zero, GFrame.zero, wfVs] <;> omega
set_option maxHeartbeats 8000000 in
theorem law_ok (proto qos id most : Int) (topic payload : List UInt8) (hp : -9223372036854775808 ≤ proto ∧ proto ≤ 9223372036854775807) (hm : -9223372036854775808 ≤ most ∧ most ≤ 9223372036854775807) :
    (lim0 E).pure 3 [.int .i64 proto, .str topic, .str payload, .int .i64 qos, .int .i64 id, .int .i64 most] = some (.bool true) := by
  have l0 := lives25_ok
  by_cases hlen : topic.length ≤ 2000 ∧ payload.length ≤ 2000
  · obtain ⟨n1, n2⟩ := hlen
    have k1 := pick_ok proto 4 (by omega) (by omega) hp
    have k2 := pick_ok most 3000 (by omega) (by omega) hm
    obtain ⟨r1, r2⟩ := pickI_range proto 4 (by omega)
    obtain ⟨r3, r4⟩ := pickI_range most 3000 (by omega)
    generalize pickI proto 4 = a at *
    generalize pickI most 3000 = b at *
    have nm := refName_ok topic (by omega)
    have wf := ev0_wf (1 + a) topic payload qos id n1 n2
    have p1 := publish_ok _ wf
    have p2 := checkPub_ok _ ⟨16 + b, 2⟩ wf rfl
    rw [pub0 _ _ _ _ _ (by omega)] at p1 p2
    have hr : rightL ⟨16 + b, 2⟩ = true := by simp [rightL]; omega
    rw [hr, if_pos rfl] at p2
    have hpl : (ev0 (1 + a) topic payload qos id).payload = payload := rfl
    rw [hpl] at p2
    simp only [ev0] at p1 p2
    have g1 : ¬ (2000 : Int) < (topic.length : Int) := by omega
    have g2 : ¬ (2000 : Int) < (payload.length : Int) := by omega
    generalize hw : want0 (1 + a) topic qos id = w at *
    have hl : ∃ least : Int, (if 1 + a = 3 then (-1 : Int) else 0) = least ∧ (1 + a = 3 ∧ least = -1 ∨ ¬ 1 + a = 3 ∧ least = 0) := by
      refine ⟨_, rfl, ?_⟩
      split <;> simp_all
    obtain ⟨least, hle, hleast⟩ := hl
    unfold want0 at hw
    rw [hle] at hw
    have w1 : IntKind.i64.wrap (1 + a) = 1 + a := w_in (by omega) (by omega)
    have w2 : IntKind.i64.wrap (16 + b) = 16 + b := w_in (by omega) (by omega)
    have fin : (nameT topic = false ∧ w = 10) ∨ (nameT topic = true ∧ (qos < least ∨ 2 < qos ∨ id < 0 ∨ 65535 < id ∨ ¬ (id = 0 ↔ qos < 1)) ∧ w = 2) ∨ (nameT topic = true ∧ ¬ (qos < least ∨ 2 < qos ∨ id < 0 ∨ 65535 < id ∨ ¬ (id = 0 ↔ qos < 1)) ∧ w = 0) := by
      rw [← hw]
      cases nameT topic with
      | false => simp
      | true =>
        by_cases hc : (qos < least ∨ 2 < qos ∨ id < 0 ∨ 65535 < id ∨ ¬ (id = 0 ↔ qos < 1))
        · right; left; exact ⟨rfl, hc, by rw [if_neg (by simp), if_pos hc]⟩
        · right; right; exact ⟨rfl, hc, by rw [if_neg (by simp), if_neg hc]⟩
    clear hw hle
    have kx : (!decide (id = 0) == decide (qos < 1)) = decide (¬ (id = 0 ↔ qos < 1)) := by
      by_cases z1 : id = 0 <;> by_cases z2 : qos < 1 <;> simp [z1, z2]
    rcases fin with ⟨f1, f2⟩ | ⟨f1, f3, f2⟩ | ⟨f1, f3, f2⟩ <;> subst f2 <;> rw [f1] at nm
    · rw [if_pos (by decide)] at p2
      refine pure_of (0) ?_; rw [go_3]; unfold Tryz.f3; simp only [go_sem, Nat.reduceAdd, Nat.reduceMul, Nat.reduceSub, Nat.reduceEqDiff, Nat.reduceLeDiff, Nat.reduceLT, Int.reduceAdd, Int.reduceSub, Int.reduceMul, Int.reduceNeg, Int.reduceLT, Int.reduceLE, Int.reduceEq, Int.reduceNe, Int.reduceToNat, UInt8.reduceToNat, reduceCtorEq, and_true, true_and, decide_true, decide_false, l0, g1, g2, k1, k2, w1, w2, nm, p1, p2, kx]
      repeat' (first | (refine grdC_split (fun h => ?_) (fun h => ?_) <;> try simp only [go_sem, Nat.reduceAdd, Nat.reduceMul, Nat.reduceSub, Nat.reduceEqDiff, Nat.reduceLeDiff, Nat.reduceLT, Int.reduceAdd, Int.reduceSub, Int.reduceMul, Int.reduceNeg, Int.reduceLT, Int.reduceLE, Int.reduceEq, Int.reduceNe, Int.reduceToNat, UInt8.reduceToNat, reduceCtorEq, and_true, true_and, decide_true, decide_false, k1, k2, w1, w2, nm, p1, p2, kx]) | (refine condC_split (fun h => ?_) (fun h => ?_) <;> try simp only [go_sem, Nat.reduceAdd, Nat.reduceMul, Nat.reduceSub, Nat.reduceEqDiff, Nat.reduceLeDiff, Nat.reduceLT, Int.reduceAdd, Int.reduceSub, Int.reduceMul, Int.reduceNeg, Int.reduceLT, Int.reduceLE, Int.reduceEq, Int.reduceNe, Int.reduceToNat, UInt8.reduceToNat, reduceCtorEq, and_true, true_and, decide_true, decide_false, k1, k2, w1, w2, nm, p1, p2, kx]) | (refine bcond_eq (fun h => ?_) (fun h => ?_) <;> try simp only [go_sem, Nat.reduceAdd, Nat.reduceMul, Nat.reduceSub, Nat.reduceEqDiff, Nat.reduceLeDiff, Nat.reduceLT, Int.reduceAdd, Int.reduceSub, Int.reduceMul, Int.reduceNeg, Int.reduceLT, Int.reduceLE, Int.reduceEq, Int.reduceNe, Int.reduceToNat, UInt8.reduceToNat, reduceCtorEq, and_true, true_and, decide_true, decide_false, k1, k2, w1, w2, nm, p1, p2, kx]))
    · rw [if_pos (by decide)] at p2
      refine pure_of (0) ?_; rw [go_3]; unfold Tryz.f3; simp only [go_sem, Nat.reduceAdd, Nat.reduceMul, Nat.reduceSub, Nat.reduceEqDiff, Nat.reduceLeDiff, Nat.reduceLT, Int.reduceAdd, Int.reduceSub, Int.reduceMul, Int.reduceNeg, Int.reduceLT, Int.reduceLE, Int.reduceEq, Int.reduceNe, Int.reduceToNat, UInt8.reduceToNat, reduceCtorEq, and_true, true_and, decide_true, decide_false, l0, g1, g2, k1, k2, w1, w2, nm, p1, p2, kx]
      repeat' (first | (refine grdC_split (fun h => ?_) (fun h => ?_) <;> try simp only [go_sem, Nat.reduceAdd, Nat.reduceMul, Nat.reduceSub, Nat.reduceEqDiff, Nat.reduceLeDiff, Nat.reduceLT, Int.reduceAdd, Int.reduceSub, Int.reduceMul, Int.reduceNeg, Int.reduceLT, Int.reduceLE, Int.reduceEq, Int.reduceNe, Int.reduceToNat, UInt8.reduceToNat, reduceCtorEq, and_true, true_and, decide_true, decide_false, k1, k2, w1, w2, nm, p1, p2, kx]) | (refine condC_split (fun h => ?_) (fun h => ?_) <;> try simp only [go_sem, Nat.reduceAdd, Nat.reduceMul, Nat.reduceSub, Nat.reduceEqDiff, Nat.reduceLeDiff, Nat.reduceLT, Int.reduceAdd, Int.reduceSub, Int.reduceMul, Int.reduceNeg, Int.reduceLT, Int.reduceLE, Int.reduceEq, Int.reduceNe, Int.reduceToNat, UInt8.reduceToNat, reduceCtorEq, and_true, true_and, decide_true, decide_false, k1, k2, w1, w2, nm, p1, p2, kx]) | (refine bcond_eq (fun h => ?_) (fun h => ?_) <;> try simp only [go_sem, Nat.reduceAdd, Nat.reduceMul, Nat.reduceSub, Nat.reduceEqDiff, Nat.reduceLeDiff, Nat.reduceLT, Int.reduceAdd, Int.reduceSub, Int.reduceMul, Int.reduceNeg, Int.reduceLT, Int.reduceLE, Int.reduceEq, Int.reduceNe, Int.reduceToNat, UInt8.reduceToNat, reduceCtorEq, and_true, true_and, decide_true, decide_false, k1, k2, w1, w2, nm, p1, p2, kx]))
      all_goals (clear l0 k1 k2 nm wf p1 p2 hr hpl w1 w2 g1 g2 kx; simp only [decide_eq_true_eq, decide_eq_false_iff_not] at *; exfalso; omega)
    · rw [if_neg (by decide)] at p2
      refine pure_of (0) ?_; rw [go_3]; unfold Tryz.f3; simp only [go_sem, Nat.reduceAdd, Nat.reduceMul, Nat.reduceSub, Nat.reduceEqDiff, Nat.reduceLeDiff, Nat.reduceLT, Int.reduceAdd, Int.reduceSub, Int.reduceMul, Int.reduceNeg, Int.reduceLT, Int.reduceLE, Int.reduceEq, Int.reduceNe, Int.reduceToNat, UInt8.reduceToNat, reduceCtorEq, and_true, true_and, decide_true, decide_false, l0, g1, g2, k1, k2, w1, w2, nm, p1, p2, kx]
      repeat' (first | (refine grdC_split (fun h => ?_) (fun h => ?_) <;> try simp only [go_sem, Nat.reduceAdd, Nat.reduceMul, Nat.reduceSub, Nat.reduceEqDiff, Nat.reduceLeDiff, Nat.reduceLT, Int.reduceAdd, Int.reduceSub, Int.reduceMul, Int.reduceNeg, Int.reduceLT, Int.reduceLE, Int.reduceEq, Int.reduceNe, Int.reduceToNat, UInt8.reduceToNat, reduceCtorEq, and_true, true_and, decide_true, decide_false, k1, k2, w1, w2, nm, p1, p2, kx]) | (refine condC_split (fun h => ?_) (fun h => ?_) <;> try simp only [go_sem, Nat.reduceAdd, Nat.reduceMul, Nat.reduceSub, Nat.reduceEqDiff, Nat.reduceLeDiff, Nat.reduceLT, Int.reduceAdd, Int.reduceSub, Int.reduceMul, Int.reduceNeg, Int.reduceLT, Int.reduceLE, Int.reduceEq, Int.reduceNe, Int.reduceToNat, UInt8.reduceToNat, reduceCtorEq, and_true, true_and, decide_true, decide_false, k1, k2, w1, w2, nm, p1, p2, kx]) | (refine bcond_eq (fun h => ?_) (fun h => ?_) <;> try simp only [go_sem, Nat.reduceAdd, Nat.reduceMul, Nat.reduceSub, Nat.reduceEqDiff, Nat.reduceLeDiff, Nat.reduceLT, Int.reduceAdd, Int.reduceSub, Int.reduceMul, Int.reduceNeg, Int.reduceLT, Int.reduceLE, Int.reduceEq, Int.reduceNe, Int.reduceToNat, UInt8.reduceToNat, reduceCtorEq, and_true, true_and, decide_true, decide_false, k1, k2, w1, w2, nm, p1, p2, kx]))
      all_goals (clear l0 k1 k2 nm wf p1 p2 hr hpl w1 w2 g1 g2 kx; simp only [decide_eq_true_eq, decide_eq_false_iff_not] at *; first | (exfalso; omega) | (congr 2; apply decide_eq_true; first | rw [if_pos (by omega)] | rw [if_neg (by omega)]))
  · refine pure_of (0) ?_; rw [go_3]; unfold Tryz.f3; simp only [go_sem, Nat.reduceAdd, Nat.reduceMul, Nat.reduceSub, Nat.reduceEqDiff, Nat.reduceLeDiff, Nat.reduceLT, Int.reduceAdd, Int.reduceSub, Int.reduceMul, Int.reduceNeg, Int.reduceLT, Int.reduceLE, Int.reduceEq, Int.reduceNe, Int.reduceToNat, UInt8.reduceToNat, reduceCtorEq, and_true, true_and, decide_true, decide_false, l0]
    repeat' (first | (refine grdC_split (fun h => ?_) (fun h => ?_) <;> try simp only [go_sem, Nat.reduceAdd, Nat.reduceMul, Nat.reduceSub, Nat.reduceEqDiff, Nat.reduceLeDiff, Nat.reduceLT, Int.reduceAdd, Int.reduceSub, Int.reduceMul, Int.reduceNeg, Int.reduceLT, Int.reduceLE, Int.reduceEq, Int.reduceNe, Int.reduceToNat, UInt8.reduceToNat, reduceCtorEq, and_true, true_and, decide_true, decide_false, l0]) | (refine condC_split (fun h => ?_) (fun h => ?_) <;> try simp only [go_sem, Nat.reduceAdd, Nat.reduceMul, Nat.reduceSub, Nat.reduceEqDiff, Nat.reduceLeDiff, Nat.reduceLT, Int.reduceAdd, Int.reduceSub, Int.reduceMul, Int.reduceNeg, Int.reduceLT, Int.reduceLE, Int.reduceEq, Int.reduceNe, Int.reduceToNat, UInt8.reduceToNat, reduceCtorEq, and_true, true_and, decide_true, decide_false, l0]) | (refine bcond_eq (fun h => ?_) (fun h => ?_) <;> try simp only [go_sem, Nat.reduceAdd, Nat.reduceMul, Nat.reduceSub, Nat.reduceEqDiff, Nat.reduceLeDiff, Nat.reduceLT, Int.reduceAdd, Int.reduceSub, Int.reduceMul, Int.reduceNeg, Int.reduceLT, Int.reduceLE, Int.reduceEq, Int.reduceNe, Int.reduceToNat, UInt8.reduceToNat, reduceCtorEq, and_true, true_and, decide_true, decide_false, l0]))
    all_goals (clear l0 hp hm; exfalso; apply hlen; simp only [decide_eq_true_eq, decide_eq_false_iff_not] at *; omega)
theorem law_all (x0 : Int) (h0 : inK .i64 (x0)) (x1 : List UInt8) (h1 : x1.length ≤ 9223372036854775807) (x2 : List UInt8) (h2 : x2.length ≤ 9223372036854775807) (x3 : Int) (h3 : inK .i64 (x3)) (x4 : Int) (h4 : inK .i64 (x4)) (x5 : Int) (h5 : inK .i64 (x5)) : (lim0 E).pure 3 [.int .i64 x0, .str x1, .str x2, .int .i64 x3, .int .i64 x4, .int .i64 x5] = some (.bool true) :=
  law_ok x0 x3 x4 x5 x1 x2 h0 h5
end Go.Proofs.YtflehnedcjjdjaaGreatDoor
