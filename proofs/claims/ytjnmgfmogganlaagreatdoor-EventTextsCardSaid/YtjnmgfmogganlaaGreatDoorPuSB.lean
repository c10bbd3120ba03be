/-
  Contracts: frames; what an event of a message has not; a rune in a text of two wildcards.
-/
import Derived.Test.YtjnmgfmogganlaaGreatDoorPuSA
set_option linter.unusedSimpArgs false
set_option linter.unusedVariables false
namespace Go.Proofs.YtjnmgfmogganlaaGreatDoor
open Go.Pu
set_option maxRecDepth 100000
attribute [local irreducible] grdC condC bcond obind nextC loopG loopC loopD grdX grdD grunC stepC putC regK execK startC enterL stayC againC backC opC retH retU bodyL finP finS finW loopN seqC blockC nrmC

def sameF (a b : GFrame) : Bool := decide (a.ty = b.ty) && decide (a.channel = b.channel) && decide (a.ext = b.ext) && sameVs a.values b.values
set_option maxHeartbeats 4000000 in
@[go_sem] theorem frameSame_ok (a b : GFrame) (hwf : wfVs a.values) (hlen : a.values.length ≤ 9223372036854775807) : (lim0 E).pure 40 [a.pv, b.pv] = some (.bool (sameF a b)) := by
  refine pure_of (a.values.length + 1) ?_; rw [go_40]; unfold Tryz.f40; simp only [go_sem, Nat.reduceAdd, Nat.reduceMul, Nat.reduceSub, Nat.reduceEqDiff, Nat.reduceLeDiff, Nat.reduceLT, Int.reduceAdd, Int.reduceSub, Int.reduceMul, Int.reduceNeg, Int.reduceLT, Int.reduceLE, Int.reduceEq, Int.reduceNe, Int.reduceToNat, UInt8.reduceToNat, reduceCtorEq, and_true, true_and, decide_true, decide_false]
  repeat' (first | (refine grdC_split (fun h => ?_) (fun h => ?_) <;> try simp only [go_sem, Nat.reduceAdd, Nat.reduceMul, Nat.reduceSub, Nat.reduceEqDiff, Nat.reduceLeDiff, Nat.reduceLT, Int.reduceAdd, Int.reduceSub, Int.reduceMul, Int.reduceNeg, Int.reduceLT, Int.reduceLE, Int.reduceEq, Int.reduceNe, Int.reduceToNat, UInt8.reduceToNat, reduceCtorEq, and_true, true_and, decide_true, decide_false]) | (refine condC_split (fun h => ?_) (fun h => ?_) <;> try simp only [go_sem, Nat.reduceAdd, Nat.reduceMul, Nat.reduceSub, Nat.reduceEqDiff, Nat.reduceLeDiff, Nat.reduceLT, Int.reduceAdd, Int.reduceSub, Int.reduceMul, Int.reduceNeg, Int.reduceLT, Int.reduceLE, Int.reduceEq, Int.reduceNe, Int.reduceToNat, UInt8.reduceToNat, reduceCtorEq, and_true, true_and, decide_true, decide_false]) | (refine bcond_eq (fun h => ?_) (fun h => ?_) <;> try simp only [go_sem, Nat.reduceAdd, Nat.reduceMul, Nat.reduceSub, Nat.reduceEqDiff, Nat.reduceLeDiff, Nat.reduceLT, Int.reduceAdd, Int.reduceSub, Int.reduceMul, Int.reduceNeg, Int.reduceLT, Int.reduceLE, Int.reduceEq, Int.reduceNe, Int.reduceToNat, UInt8.reduceToNat, reduceCtorEq, and_true, true_and, decide_true, decide_false]))
  · simp_all [sameF]
  · simp_all [sameF]
  · simp_all [sameF]
  · rw [sameF, sameVs_length _ _ (by simp at *; omega)]; simp
  rename_i g1 g2 g3
  have hab : a.values.length = b.values.length := by simp at *; omega
  have hs : sameF a b = sameVs a.values b.values := by simp_all [sameF]
  rw [hs]
  refine loop_ind (fun j vs H => ∃ i : Nat, j = a.values.length - i ∧ i ≤ a.values.length ∧ H = [.cells a.avs, .cells b.avs] ∧ vs = [.ptr 1 0, .pv (.lst 4 (List.map GValue.pv a.values)), .pv (.int .i64 a.values.length), .pv (.int .i64 i)] ∧ sameVs a.values b.values = sameVs (a.values.drop i) (b.values.drop i)) a.values.length ⟨0, by simp, by simp, rfl, rfl, by simp⟩ (by omega) ?_
  rintro j vs H m' ⟨i, hj, hi, rfl, rfl, hall⟩ ih
  simp only [go_sem, Nat.reduceAdd, Nat.reduceMul, Nat.reduceSub, Nat.reduceEqDiff, Nat.reduceLeDiff, Nat.reduceLT, Int.reduceAdd, Int.reduceSub, Int.reduceMul, Int.reduceNeg, Int.reduceLT, Int.reduceLE, Int.reduceEq, Int.reduceNe, Int.reduceToNat, UInt8.reduceToNat, reduceCtorEq, and_true, true_and, decide_true, decide_false]
  refine condC_split (fun h => ?_) (fun h => ?_) <;> simp only [go_sem, Nat.reduceAdd, Nat.reduceMul, Nat.reduceSub, Nat.reduceEqDiff, Nat.reduceLeDiff, Nat.reduceLT, Int.reduceAdd, Int.reduceSub, Int.reduceMul, Int.reduceNeg, Int.reduceLT, Int.reduceLE, Int.reduceEq, Int.reduceNe, Int.reduceToNat, UInt8.reduceToNat, reduceCtorEq, and_true, true_and, decide_true, decide_false]
  · have hi' : i < a.values.length := by simp at h; omega
    have hi2 : i < b.values.length := by omega
    have hd : sameVs (a.values.drop i) (b.values.drop i) = (sameV a.values[i] b.values[i] && sameVs (a.values.drop (i + 1)) (b.values.drop (i + 1))) := by
      rw [List.drop_eq_getElem_cons hi', List.drop_eq_getElem_cons hi2, sameVs]
    have e := amqSame_ok a.values[i] b.values[i] (wfVs_mem hwf _ (List.getElem_mem hi'))
    simp only [go_sem, Nat.reduceAdd, Nat.reduceMul, Nat.reduceSub, Nat.reduceEqDiff, Nat.reduceLeDiff, Nat.reduceLT, Int.reduceAdd, Int.reduceSub, Int.reduceMul, Int.reduceNeg, Int.reduceLT, Int.reduceLE, Int.reduceEq, Int.reduceNe, Int.reduceToNat, UInt8.reduceToNat, reduceCtorEq, and_true, true_and, decide_true, decide_false, hi', hi2, e]
    refine condC_split (fun g => ?_) (fun g => ?_) <;> simp only [go_sem, Nat.reduceAdd, Nat.reduceMul, Nat.reduceSub, Nat.reduceEqDiff, Nat.reduceLeDiff, Nat.reduceLT, Int.reduceAdd, Int.reduceSub, Int.reduceMul, Int.reduceNeg, Int.reduceLT, Int.reduceLE, Int.reduceEq, Int.reduceNe, Int.reduceToNat, UInt8.reduceToNat, reduceCtorEq, and_true, true_and, decide_true, decide_false]
    · rw [hall, hd]; simp at g; simp [g]
    · rw [w_succ i (by omega)]
      exact ih _ _ _ (by omega) ⟨i + 1, rfl, by omega, rfl, rfl, by rw [hall, hd]; simp at g; simp [g]⟩
  · have hi' : a.values.length ≤ i := by simp at h; omega
    rw [hall, List.drop_eq_nil_of_le hi', List.drop_eq_nil_of_le (by omega)]; simp [sameVs]
def bareE (e : GEvent) : Bool := decide (e.packet = GPacket.zero) && decide (e.msg = GMsg.zero) && sameF e.frame GFrame.zero
set_option maxHeartbeats 4000000 in
theorem bare_ok (e : GEvent) (h : wfE e) : (lim0 E).pure 27 [e.pv] = some (.bool (bareE e)) := by
  have e1 := headSame_ok e.packet GPacket.zero h.pprops h.wprops h.filters h.codes
  have e2 := frameSame_ok e.frame GFrame.zero h.values h.nvalues
  refine pure_of (0) ?_; rw [go_27]; unfold Tryz.f27; simp only [go_sem, Nat.reduceAdd, Nat.reduceMul, Nat.reduceSub, Nat.reduceEqDiff, Nat.reduceLeDiff, Nat.reduceLT, Int.reduceAdd, Int.reduceSub, Int.reduceMul, Int.reduceNeg, Int.reduceLT, Int.reduceLE, Int.reduceEq, Int.reduceNe, Int.reduceToNat, UInt8.reduceToNat, reduceCtorEq, and_true, true_and, decide_true, decide_false, e1]
  repeat' (first | (refine grdC_split (fun h => ?_) (fun h => ?_) <;> try simp only [go_sem, Nat.reduceAdd, Nat.reduceMul, Nat.reduceSub, Nat.reduceEqDiff, Nat.reduceLeDiff, Nat.reduceLT, Int.reduceAdd, Int.reduceSub, Int.reduceMul, Int.reduceNeg, Int.reduceLT, Int.reduceLE, Int.reduceEq, Int.reduceNe, Int.reduceToNat, UInt8.reduceToNat, reduceCtorEq, and_true, true_and, decide_true, decide_false, e1, e2]) | (refine condC_split (fun h => ?_) (fun h => ?_) <;> try simp only [go_sem, Nat.reduceAdd, Nat.reduceMul, Nat.reduceSub, Nat.reduceEqDiff, Nat.reduceLeDiff, Nat.reduceLT, Int.reduceAdd, Int.reduceSub, Int.reduceMul, Int.reduceNeg, Int.reduceLT, Int.reduceLE, Int.reduceEq, Int.reduceNe, Int.reduceToNat, UInt8.reduceToNat, reduceCtorEq, and_true, true_and, decide_true, decide_false, e1, e2]) | (refine bcond_eq (fun h => ?_) (fun h => ?_) <;> try simp only [go_sem, Nat.reduceAdd, Nat.reduceMul, Nat.reduceSub, Nat.reduceEqDiff, Nat.reduceLeDiff, Nat.reduceLT, Int.reduceAdd, Int.reduceSub, Int.reduceMul, Int.reduceNeg, Int.reduceLT, Int.reduceLE, Int.reduceEq, Int.reduceNe, Int.reduceToNat, UInt8.reduceToNat, reduceCtorEq, and_true, true_and, decide_true, decide_false, e1, e2]))
  all_goals (clear e1 e2; simp_all [bareE])
end Go.Proofs.YtjnmgfmogganlaaGreatDoor

/-
  Contracts: the wildcards in a text.
-/
namespace Go.Proofs.YtjnmgfmogganlaaGreatDoor
open Go.Pu
set_option maxRecDepth 100000
attribute [local irreducible] grdC condC bcond obind nextC loopG loopC loopD grdX grdD grunC stepC putC regK execK startC enterL stayC againC backC opC retH retU bodyL finP finS finW loopN seqC blockC nrmC

def idxR (r : Int) : Int := if r = 43 then 0 else if r = 35 then 1 else -1
def isI (x : Option PV) (n : Int) : Bool := match x with | some (.int .i64 m) => decide (m = n) | _ => false
theorem isI_ok {x : Option PV} {n : Int} (h : isI x n = true) : x = some (.int .i64 n) := by
  unfold isI at h
  split at h
  · simp at h; rw [h]
  · cases h
theorem ir_small : (List.range 128).all (fun k => isI ((callN E 20).pure 62 [.str [43, 35], .int .i32 (k : Int)]) (idxR k)) = true := by kernel_rfl
theorem ir_bad : (callN E 20).pure 62 [.str [43, 35], .int .i32 65533] = some (.int .i64 (-1)) := by kernel_rfl
@[go_sem] theorem validRune_ok (r : Int) : (lim0 E).pure 90 [.int .i32 r] = some (.bool (Utf8.valid r)) := by
  refine pure_of (0) ?_; rw [go_90]; unfold Tryz.f90; simp only [go_sem, Nat.reduceAdd, Nat.reduceMul, Nat.reduceSub, Nat.reduceEqDiff, Nat.reduceLeDiff, Nat.reduceLT, Int.reduceAdd, Int.reduceSub, Int.reduceMul, Int.reduceNeg, Int.reduceLT, Int.reduceLE, Int.reduceEq, Int.reduceNe, Int.reduceToNat, UInt8.reduceToNat, reduceCtorEq, and_true, true_and, decide_true, decide_false]
  repeat' (first | (refine grdC_split (fun h => ?_) (fun h => ?_) <;> try simp only [go_sem, Nat.reduceAdd, Nat.reduceMul, Nat.reduceSub, Nat.reduceEqDiff, Nat.reduceLeDiff, Nat.reduceLT, Int.reduceAdd, Int.reduceSub, Int.reduceMul, Int.reduceNeg, Int.reduceLT, Int.reduceLE, Int.reduceEq, Int.reduceNe, Int.reduceToNat, UInt8.reduceToNat, reduceCtorEq, and_true, true_and, decide_true, decide_false]) | (refine condC_split (fun h => ?_) (fun h => ?_) <;> try simp only [go_sem, Nat.reduceAdd, Nat.reduceMul, Nat.reduceSub, Nat.reduceEqDiff, Nat.reduceLeDiff, Nat.reduceLT, Int.reduceAdd, Int.reduceSub, Int.reduceMul, Int.reduceNeg, Int.reduceLT, Int.reduceLE, Int.reduceEq, Int.reduceNe, Int.reduceToNat, UInt8.reduceToNat, reduceCtorEq, and_true, true_and, decide_true, decide_false]) | (refine bcond_eq (fun h => ?_) (fun h => ?_) <;> try simp only [go_sem, Nat.reduceAdd, Nat.reduceMul, Nat.reduceSub, Nat.reduceEqDiff, Nat.reduceLeDiff, Nat.reduceLT, Int.reduceAdd, Int.reduceSub, Int.reduceMul, Int.reduceNeg, Int.reduceLT, Int.reduceLE, Int.reduceEq, Int.reduceNe, Int.reduceToNat, UInt8.reduceToNat, reduceCtorEq, and_true, true_and, decide_true, decide_false]))
  all_goals (refine sb ?_; simp [Utf8.valid] at *; try omega)
@[go_sem] theorem indexByte2_ok (s : List UInt8) (b : Int) : (lim0 E).pure 103 [.str s, .int .u8 b] = some (.int .i64 (findB s b)) := by
  refine pure_of (0) ?_; rw [go_103]; unfold Tryz.f103; simp only [go_sem, Nat.reduceAdd, Nat.reduceMul, Nat.reduceSub, Nat.reduceEqDiff, Nat.reduceLeDiff, Nat.reduceLT, Int.reduceAdd, Int.reduceSub, Int.reduceMul, Int.reduceNeg, Int.reduceLT, Int.reduceLE, Int.reduceEq, Int.reduceNe, Int.reduceToNat, UInt8.reduceToNat, reduceCtorEq, and_true, true_and, decide_true, decide_false]
@[go_sem] theorem indexByte_ok (s : List UInt8) (b : Int) : (lim0 E).pure 89 [.str s, .int .u8 b] = some (.int .i64 (findB s b)) := by
  refine pure_of (0) ?_; rw [go_89]; unfold Tryz.f89; simp only [go_sem, Nat.reduceAdd, Nat.reduceMul, Nat.reduceSub, Nat.reduceEqDiff, Nat.reduceLeDiff, Nat.reduceLT, Int.reduceAdd, Int.reduceSub, Int.reduceMul, Int.reduceNeg, Int.reduceLT, Int.reduceLE, Int.reduceEq, Int.reduceNe, Int.reduceToNat, UInt8.reduceToNat, reduceCtorEq, and_true, true_and, decide_true, decide_false]
set_option maxHeartbeats 4000000 in
theorem indexRune_ok (r : Int) (h0 : 0 ≤ r) : (lim0 E).pure 62 [.str [43, 35], .int .i32 r] = some (.int .i64 (idxR r)) := by
  rcases Int.lt_or_le r 128 with h1 | h1
  · have := List.all_eq_true.1 ir_small r.toNat (by simp; omega)
    rw [Int.toNat_of_nonneg h0] at this
    exact (callN_le 20).pure _ _ _ (isI_ok this)
  have hi : idxR r = -1 := by unfold idxR; rw [if_neg (by omega), if_neg (by omega)]
  rcases Decidable.em (r = 65533) with h2 | h2
  · subst h2; exact (callN_le 20).pure _ _ _ ir_bad
  rw [hi]
  have hlt : ¬ r < 128 := by omega
  have hL := enc_last r h1
  refine pure_of (3) ?_; rw [go_62]; unfold Tryz.f62; simp only [go_sem, Nat.reduceAdd, Nat.reduceMul, Nat.reduceSub, Nat.reduceEqDiff, Nat.reduceLeDiff, Nat.reduceLT, Int.reduceAdd, Int.reduceSub, Int.reduceMul, Int.reduceNeg, Int.reduceLT, Int.reduceLE, Int.reduceEq, Int.reduceNe, Int.reduceToNat, UInt8.reduceToNat, reduceCtorEq, and_true, true_and, decide_true, decide_false, h0, hlt, h2]
  refine condC_split (fun hv => ?_) (fun hv => ?_) <;> simp only [go_sem, Nat.reduceAdd, Nat.reduceMul, Nat.reduceSub, Nat.reduceEqDiff, Nat.reduceLeDiff, Nat.reduceLT, Int.reduceAdd, Int.reduceSub, Int.reduceMul, Int.reduceNeg, Int.reduceLT, Int.reduceLE, Int.reduceEq, Int.reduceNe, Int.reduceToNat, UInt8.reduceToNat, reduceCtorEq, and_true, true_and, decide_true, decide_false]
  rcases hL (by simpa using hv) with ⟨b0, b1, hb, h4⟩ | ⟨b0, b1, b2, hb⟩ | ⟨b0, b1, b2, b3, hb⟩
  · have hne : ¬ ((35 : Int) = (b1.toNat : Int)) := by
      rw [UInt8.le_iff_toNat_le] at h4
      have : (128 : UInt8).toNat = 128 := rfl
      omega
    simp only [go_sem, Nat.reduceAdd, Nat.reduceMul, Nat.reduceSub, Nat.reduceEqDiff, Nat.reduceLeDiff, Nat.reduceLT, Int.reduceAdd, Int.reduceSub, Int.reduceMul, Int.reduceNeg, Int.reduceLT, Int.reduceLE, Int.reduceEq, Int.reduceNe, Int.reduceToNat, UInt8.reduceToNat, reduceCtorEq, and_true, true_and, decide_true, decide_false, hb]
    refine (nextC_step 2 _ _ _ _).trans ?_
    simp only [go_sem, Nat.reduceAdd, Nat.reduceMul, Nat.reduceSub, Nat.reduceEqDiff, Nat.reduceLeDiff, Nat.reduceLT, Int.reduceAdd, Int.reduceSub, Int.reduceMul, Int.reduceNeg, Int.reduceLT, Int.reduceLE, Int.reduceEq, Int.reduceNe, Int.reduceToNat, UInt8.reduceToNat, reduceCtorEq, and_true, true_and, decide_true, decide_false, ne_eq, hne, not_false_eq_true]
  · simp only [go_sem, Nat.reduceAdd, Nat.reduceMul, Nat.reduceSub, Nat.reduceEqDiff, Nat.reduceLeDiff, Nat.reduceLT, Int.reduceAdd, Int.reduceSub, Int.reduceMul, Int.reduceNeg, Int.reduceLT, Int.reduceLE, Int.reduceEq, Int.reduceNe, Int.reduceToNat, UInt8.reduceToNat, reduceCtorEq, and_true, true_and, decide_true, decide_false, hb]
    refine (nextC_step 2 _ _ _ _).trans ?_
    simp only [go_sem, Nat.reduceAdd, Nat.reduceMul, Nat.reduceSub, Nat.reduceEqDiff, Nat.reduceLeDiff, Nat.reduceLT, Int.reduceAdd, Int.reduceSub, Int.reduceMul, Int.reduceNeg, Int.reduceLT, Int.reduceLE, Int.reduceEq, Int.reduceNe, Int.reduceToNat, UInt8.reduceToNat, reduceCtorEq, and_true, true_and, decide_true, decide_false]
  · simp only [go_sem, Nat.reduceAdd, Nat.reduceMul, Nat.reduceSub, Nat.reduceEqDiff, Nat.reduceLeDiff, Nat.reduceLT, Int.reduceAdd, Int.reduceSub, Int.reduceMul, Int.reduceNeg, Int.reduceLT, Int.reduceLE, Int.reduceEq, Int.reduceNe, Int.reduceToNat, UInt8.reduceToNat, reduceCtorEq, and_true, true_and, decide_true, decide_false, hb]
    refine (nextC_step 2 _ _ _ _).trans ?_
    simp only [go_sem, Nat.reduceAdd, Nat.reduceMul, Nat.reduceSub, Nat.reduceEqDiff, Nat.reduceLeDiff, Nat.reduceLT, Int.reduceAdd, Int.reduceSub, Int.reduceMul, Int.reduceNeg, Int.reduceLT, Int.reduceLE, Int.reduceEq, Int.reduceNe, Int.reduceToNat, UInt8.reduceToNat, reduceCtorEq, and_true, true_and, decide_true, decide_false]
end Go.Proofs.YtjnmgfmogganlaaGreatDoor

/-
  Contracts: names of topics.
-/
namespace Go.Proofs.YtjnmgfmogganlaaGreatDoor
open Go.Pu
set_option maxRecDepth 100000
attribute [local irreducible] grdC condC bcond obind nextC loopG loopC loopD grdX grdD grunC stepC putC regK execK startC enterL stayC againC backC opC retH retU bodyL finP finS finW loopN seqC blockC nrmC

attribute [go_sem] indexRune_ok
def isW (b : UInt8) : Bool := decide (b = 35) || decide (b = 43)
/-- The set of the two wildcards. -/
def asciiM : List PV := (List.range 256).map fun i => .bool (isW (UInt8.ofNat i))
@[go_sem] theorem asciiM_length : asciiM.length = 256 := by simp [asciiM]
theorem asciiM_get (b : UInt8) : (asciiM.map AV.pv)[b.toNat]? = some (.pv (.bool (isW b))) := by
  have : b.toNat < 256 := UInt8.toNat_lt b
  simp [asciiM, this]
@[go_sem] theorem makeSet_ok : (lim0 E).pure 64 [.str [43, 35]] = some (.tup [.agg asciiM, .bool true]) := (callN_le 20).pure _ _ _ (by kernel_rfl)
@[go_sem] theorem shouldUse_ok (n : Int) : (lim0 E).pure 63 [.int .i64 n] = some (.bool (decide (8 < n))) := by
  refine pure_of (0) ?_; rw [go_63]; unfold Tryz.f63; simp only [go_sem, Nat.reduceAdd, Nat.reduceMul, Nat.reduceSub, Nat.reduceEqDiff, Nat.reduceLeDiff, Nat.reduceLT, Int.reduceAdd, Int.reduceSub, Int.reduceMul, Int.reduceNeg, Int.reduceLT, Int.reduceLE, Int.reduceEq, Int.reduceNe, Int.reduceToNat, UInt8.reduceToNat, reduceCtorEq, and_true, true_and, decide_true, decide_false]
theorem setHas_ok (bases : List Nat) (b : Nat) (x : UInt8) (H : Hp) (hb : H[b]? = some (.cells (asciiM.map AV.pv))) : (lim0 E).shut bases 65 [.ptr b 0, .pv (.int .u8 (x.toNat : Int))] H = some (.pv (.bool (isW x)), H) := by
  have hx : x.toNat < 256 := UInt8.toNat_lt x
  have hg := asciiM_get x
  refine shut_of (0) ?_; rw [go_65]; unfold Tryz.f65; simp only [go_sem, Nat.reduceAdd, Nat.reduceMul, Nat.reduceSub, Nat.reduceEqDiff, Nat.reduceLeDiff, Nat.reduceLT, Int.reduceAdd, Int.reduceSub, Int.reduceMul, Int.reduceNeg, Int.reduceLT, Int.reduceLE, Int.reduceEq, Int.reduceNe, Int.reduceToNat, UInt8.reduceToNat, reduceCtorEq, and_true, true_and, decide_true, decide_false, hb, hx, hg]
/-- The first of the wildcards, by bytes. -/
def byteI : List UInt8 → Nat → Int
  | [], _ => -1
  | b :: bs, pos => if isW b then (pos : Int) else byteI bs (pos + 1)
def runeI (rest : List UInt8) (pos : Nat) : Int :=
  if h : rest = [] then -1 else if 0 ≤ idxR (runeAt rest).1 then (pos : Int) else runeI (rest.drop (runeAt rest).2) (pos + (runeAt rest).2)
termination_by rest.length
decreasing_by
  have := runeAt_pos rest
  have : rest.length ≠ 0 := fun e => h (List.length_eq_zero_iff.1 e)
  simp only [List.length_drop]; omega
def anyI (s : List UInt8) : Int := if 8 < s.length then byteI s 0 else runeI s 0
set_option maxHeartbeats 4000000 in
theorem indexAny_ok (s : List UInt8) (hs : s.length ≤ 9223372036854775807) : (lim0 E).pure 45 [.str s, .str [43, 35]] = some (.int .i64 (anyI s)) := by
  refine pure_of (s.length + 1) ?_; rw [go_45]; unfold Tryz.f45; simp only [go_sem, Nat.reduceAdd, Nat.reduceMul, Nat.reduceSub, Nat.reduceEqDiff, Nat.reduceLeDiff, Nat.reduceLT, Int.reduceAdd, Int.reduceSub, Int.reduceMul, Int.reduceNeg, Int.reduceLT, Int.reduceLE, Int.reduceEq, Int.reduceNe, Int.reduceToNat, UInt8.reduceToNat, reduceCtorEq, and_true, true_and, decide_true, decide_false]
  refine condC_split (fun h8 => ?_) (fun h8 => ?_) <;> simp only [go_sem, Nat.reduceAdd, Nat.reduceMul, Nat.reduceSub, Nat.reduceEqDiff, Nat.reduceLeDiff, Nat.reduceLT, Int.reduceAdd, Int.reduceSub, Int.reduceMul, Int.reduceNeg, Int.reduceLT, Int.reduceLE, Int.reduceEq, Int.reduceNe, Int.reduceToNat, UInt8.reduceToNat, reduceCtorEq, and_true, true_and, decide_true, decide_false]
  · have h8' : 8 < s.length := by simp at h8; omega
    rw [anyI, if_pos h8']
    refine loop_ind (fun j vs H => ∃ i : Nat, j = s.length - i ∧ i ≤ s.length ∧ H = [.cells (asciiM.map AV.pv)] ∧ vs = [.pv (.str s), .ptr 0 0, .pv (.int .i64 i)] ∧ byteI s 0 = byteI (s.drop i) i) s.length ⟨0, by simp, by simp, rfl, rfl, by simp⟩ (by omega) ?_
    rintro j vs H m' ⟨i, hj, hi, rfl, rfl, hall⟩ ih
    simp only [go_sem, Nat.reduceAdd, Nat.reduceMul, Nat.reduceSub, Nat.reduceEqDiff, Nat.reduceLeDiff, Nat.reduceLT, Int.reduceAdd, Int.reduceSub, Int.reduceMul, Int.reduceNeg, Int.reduceLT, Int.reduceLE, Int.reduceEq, Int.reduceNe, Int.reduceToNat, UInt8.reduceToNat, reduceCtorEq, and_true, true_and, decide_true, decide_false]
    refine condC_split (fun h => ?_) (fun h => ?_)
    · have hi' : i < s.length := by simp at h; omega
      have hd : byteI (s.drop i) i = if isW s[i] then (i : Int) else byteI (s.drop (i + 1)) (i + 1) := by rw [List.drop_eq_getElem_cons hi', byteI]
      simp only [go_sem, Nat.reduceAdd, Nat.reduceMul, Nat.reduceSub, Nat.reduceEqDiff, Nat.reduceLeDiff, Nat.reduceLT, Int.reduceAdd, Int.reduceSub, Int.reduceMul, Int.reduceNeg, Int.reduceLT, Int.reduceLE, Int.reduceEq, Int.reduceNe, Int.reduceToNat, UInt8.reduceToNat, reduceCtorEq, and_true, true_and, decide_true, decide_false, hi', setHas_ok]
      refine condC_split (fun g => ?_) (fun g => ?_) <;> simp only [go_sem, Nat.reduceAdd, Nat.reduceMul, Nat.reduceSub, Nat.reduceEqDiff, Nat.reduceLeDiff, Nat.reduceLT, Int.reduceAdd, Int.reduceSub, Int.reduceMul, Int.reduceNeg, Int.reduceLT, Int.reduceLE, Int.reduceEq, Int.reduceNe, Int.reduceToNat, UInt8.reduceToNat, reduceCtorEq, and_true, true_and, decide_true, decide_false]
      · rw [hall, hd, if_pos g]
      · rw [w_succ i (by omega)]
        exact ih _ _ _ (by omega) ⟨i + 1, rfl, by omega, rfl, rfl, by rw [hall, hd, if_neg (by simp [g])]⟩
    · have hi' : s.length ≤ i := by simp at h; omega
      simp only [go_sem, Nat.reduceAdd, Nat.reduceMul, Nat.reduceSub, Nat.reduceEqDiff, Nat.reduceLeDiff, Nat.reduceLT, Int.reduceAdd, Int.reduceSub, Int.reduceMul, Int.reduceNeg, Int.reduceLT, Int.reduceLE, Int.reduceEq, Int.reduceNe, Int.reduceToNat, UInt8.reduceToNat, reduceCtorEq, and_true, true_and, decide_true, decide_false]
      rw [hall, List.drop_eq_nil_of_le hi', byteI]
  · have h8' : ¬ 8 < s.length := by simp at h8; omega
    rw [anyI, if_neg h8']
    refine loop_ind (fun j vs H => ∃ (rest : List UInt8) (pos : Nat), j = rest.length ∧ H = [.sit rest pos] ∧ vs = [.pv (.str [43, 35]), .ptr 0 0] ∧ runeI s 0 = runeI rest pos) s.length ⟨s, 0, rfl, rfl, rfl, rfl⟩ (by omega) ?_
    rintro j vs H m' ⟨rest, pos, hj, rfl, rfl, hall⟩ ih
    by_cases h0 : rest = []
    · subst h0
      simp only [go_sem, Nat.reduceAdd, Nat.reduceMul, Nat.reduceSub, Nat.reduceEqDiff, Nat.reduceLeDiff, Nat.reduceLT, Int.reduceAdd, Int.reduceSub, Int.reduceMul, Int.reduceNeg, Int.reduceLT, Int.reduceLE, Int.reduceEq, Int.reduceNe, Int.reduceToNat, UInt8.reduceToNat, reduceCtorEq, and_true, true_and, decide_true, decide_false]
      rw [hall, runeI, dif_pos rfl]
    · have hl : rest.length ≠ 0 := fun e => h0 (List.length_eq_zero_iff.1 e)
      have hw := runeAt_pos rest
      have hb : runeI rest pos = if 0 ≤ idxR (runeAt rest).1 then (pos : Int) else runeI (rest.drop (runeAt rest).2) (pos + (runeAt rest).2) := by rw [runeI, dif_neg h0]
      have e := indexRune_ok ((runeAt rest).1 : Int) (by omega)
      simp only [go_sem, Nat.reduceAdd, Nat.reduceMul, Nat.reduceSub, Nat.reduceEqDiff, Nat.reduceLeDiff, Nat.reduceLT, Int.reduceAdd, Int.reduceSub, Int.reduceMul, Int.reduceNeg, Int.reduceLT, Int.reduceLE, Int.reduceEq, Int.reduceNe, Int.reduceToNat, UInt8.reduceToNat, reduceCtorEq, and_true, true_and, decide_true, decide_false, nextS_cons h0, e]
      refine condC_split (fun g => ?_) (fun g => ?_) <;> simp only [go_sem, Nat.reduceAdd, Nat.reduceMul, Nat.reduceSub, Nat.reduceEqDiff, Nat.reduceLeDiff, Nat.reduceLT, Int.reduceAdd, Int.reduceSub, Int.reduceMul, Int.reduceNeg, Int.reduceLT, Int.reduceLE, Int.reduceEq, Int.reduceNe, Int.reduceToNat, UInt8.reduceToNat, reduceCtorEq, and_true, true_and, decide_true, decide_false]
      · rw [hall, hb, if_pos (by simpa using g)]
      · refine ih _ _ _ (by simp only [List.length_drop]; omega) ⟨_, _, rfl, rfl, rfl, ?_⟩
        rw [hall, hb, if_neg (by simp at g; omega)]
def wildS (s : List UInt8) : Bool := decide (0 ≤ anyI s)
@[go_sem] theorem containsAny_ok (s : List UInt8) (hs : s.length ≤ 9223372036854775807) : (lim0 E).pure 35 [.str s, .str [43, 35]] = some (.bool (wildS s)) := by
  have e := indexAny_ok s hs
  refine pure_of (0) ?_; rw [go_35]; unfold Tryz.f35; simp only [go_sem, Nat.reduceAdd, Nat.reduceMul, Nat.reduceSub, Nat.reduceEqDiff, Nat.reduceLeDiff, Nat.reduceLT, Int.reduceAdd, Int.reduceSub, Int.reduceMul, Int.reduceNeg, Int.reduceLT, Int.reduceLE, Int.reduceEq, Int.reduceNe, Int.reduceToNat, UInt8.reduceToNat, reduceCtorEq, and_true, true_and, decide_true, decide_false, e]
  rfl
def nameT (s : List UInt8) : Bool := textT s && !wildS s
@[go_sem] theorem topicName_ok (s : List UInt8) (hs : s.length ≤ 9223372036854775807) : (lim0 E).pure 16 [.str s] = some (.bool (nameT s)) := by
  have e := containsAny_ok s hs
  refine pure_of (0) ?_; rw [go_16]; unfold Tryz.f16; simp only [go_sem, Nat.reduceAdd, Nat.reduceMul, Nat.reduceSub, Nat.reduceEqDiff, Nat.reduceLeDiff, Nat.reduceLT, Int.reduceAdd, Int.reduceSub, Int.reduceMul, Int.reduceNeg, Int.reduceLT, Int.reduceLE, Int.reduceEq, Int.reduceNe, Int.reduceToNat, UInt8.reduceToNat, reduceCtorEq, and_true, true_and, decide_true, decide_false]
  refine grdC_split (fun h => ?_) (fun h => ?_) <;> simp only [go_sem, Nat.reduceAdd, Nat.reduceMul, Nat.reduceSub, Nat.reduceEqDiff, Nat.reduceLeDiff, Nat.reduceLT, Int.reduceAdd, Int.reduceSub, Int.reduceMul, Int.reduceNeg, Int.reduceLT, Int.reduceLE, Int.reduceEq, Int.reduceNe, Int.reduceToNat, UInt8.reduceToNat, reduceCtorEq, and_true, true_and, decide_true, decide_false, e]
  · refine sb ?_; simp [nameT, h]
  · refine sb ?_; simp [nameT, h]
end Go.Proofs.YtjnmgfmogganlaaGreatDoor

/-
  Contracts: bytes of numbers.
-/
namespace Go.Proofs.YtjnmgfmogganlaaGreatDoor
open Go.Pu
set_option maxRecDepth 100000
attribute [local irreducible] grdC condC bcond obind nextC loopG loopC loopD grdX grdD grunC stepC putC regK execK startC enterL stayC againC backC opC retH retU bodyL finP finS finW loopN seqC blockC nrmC

/-- The byte of a number at a place, from the lowest on. -/
def byteN (n : Int) (i : Nat) : UInt8 := if i < 8 then UInt8.ofNat (IntKind.u8.wrap (n.fdiv (2 ^ (min (8 * i) 64)))).toNat else 0
theorem byteN_toNat (n : Int) (i : Nat) (h : i < 8) : ((byteN n i).toNat : Int) = IntKind.u8.wrap (n.fdiv (2 ^ (min (8 * i) 64))) := by
  unfold byteN
  rw [if_pos h]
  have : 0 ≤ IntKind.u8.wrap (n.fdiv (2 ^ (min (8 * i) 64))) ∧ IntKind.u8.wrap (n.fdiv (2 ^ (min (8 * i) 64))) ≤ 255 := by
    rw [IntKind.wrap_u8]; omega
  rw [UInt8.toNat_ofNat']
  omega
/-- The bytes, so many places done. -/
def putI (n : Int) (size k : Nat) : List UInt8 := (List.range size).map fun p => if size - 1 - p < k then byteN n (size - 1 - p) else 0
def putL (n : Int) (size : Nat) : List UInt8 := putI n size size
theorem putI_length (n : Int) (size k : Nat) : (putI n size k).length = size := by simp [putI]
theorem putI_zero (n : Int) (size : Nat) : putI n size 0 = List.replicate size 0 := by
  unfold putI
  rw [List.eq_replicate_iff]
  simp
theorem putI_succ (n : Int) (size i : Nat) (h : i < size) : putI n size (i + 1) = (putI n size i).set (size - 1 - i) (byteN n i) := by
  apply List.ext_getElem?
  intro p
  rw [List.getElem?_set]
  unfold putI
  rcases Nat.lt_or_ge p size with hp | hp
  · simp only [List.getElem?_map, List.getElem?_range hp, Option.map_some, List.length_map, List.length_range]
    by_cases e : size - 1 - i = p
    · subst e
      rw [if_pos rfl, if_pos hp, if_pos (by omega)]
      congr 1
      congr 1
      omega
    · rw [if_neg e]
      congr 1
      by_cases h1 : size - 1 - p < i
      · rw [if_pos h1, if_pos (by omega)]
      · rw [if_neg h1, if_neg (by omega)]
  · rw [List.getElem?_eq_none (by simp; omega), if_neg (by omega), List.getElem?_eq_none (by simp; omega)]
theorem putI_high (n : Int) (size i : Nat) (h : 8 ≤ i) : putI n size (i + 1) = putI n size i := by
  unfold putI
  apply List.map_congr_left
  intro p _
  by_cases h1 : size - 1 - p < i
  · rw [if_pos h1, if_pos (by omega)]
  · rw [if_neg h1]
    by_cases h2 : size - 1 - p < i + 1
    · rw [if_pos h2, byteN, if_neg (by omega)]
    · rw [if_neg h2]
def avB (bs : List UInt8) : List AV := bs.map fun x => .pv (.int .u8 x.toNat)
theorem avB_set (bs : List UInt8) (p : Nat) (b : UInt8) (h : p < bs.length) : (avB bs).take p ++ [AV.pv (.int .u8 (b.toNat : Int))] ++ (avB bs).drop (p + 1) = avB (bs.set p b) := by
  unfold avB
  rw [List.map_set, List.set_eq_take_append_cons_drop, if_pos (by simpa using h)]
  simp
@[go_sem] theorem avB_length (bs : List UInt8) : (avB bs).length = bs.length := by simp [avB]
@[go_sem] theorem avB_noOwn (bs : List UInt8) (n : Nat) : noOwn ((avB bs).drop n) = true := noOwn_drop n _ (by
  unfold avB; induction bs with | nil => rfl | cons x xs ih => exact ih)
set_option maxHeartbeats 4000000 in
theorem put_ok' (n size : Int) (h : 0 < size) (sz : Nat) (hsz : (if 16 < size then 16 else size) = (sz : Int)) : (lim0 E).pure 81 [.int .u64 n, .int .i64 size] = some (.str (putL n sz)) := by
  have h1 : 0 < sz ∧ sz ≤ 16 := by split at hsz <;> omega
  have hn : ¬ size ≤ 0 := by omega
  have hmk := mk_sl (E := E) (t := 104) (e := 5) kd_104 sz_5 by_5 ag_5 ze_5 [] .i64 .i64 (sz : Int) (sz : Int) (by omega) (by omega) (by simp [room]; omega) (by omega)
  have hz : avB (putI n sz 0) = List.replicate sz (AV.pv (.int .u8 0)) := by rw [putI_zero, avB, List.map_replicate]; rfl
  refine pure_of (sz + 1) ?_; rw [go_81]; unfold Tryz.f81; simp only [go_sem, Nat.reduceAdd, Nat.reduceMul, Nat.reduceSub, Nat.reduceEqDiff, Nat.reduceLeDiff, Nat.reduceLT, Int.reduceAdd, Int.reduceSub, Int.reduceMul, Int.reduceNeg, Int.reduceLT, Int.reduceLE, Int.reduceEq, Int.reduceNe, Int.reduceToNat, UInt8.reduceToNat, reduceCtorEq, and_true, true_and, decide_true, decide_false, hn, hsz, hmk]
  refine loop_ind (fun j vs H => ∃ i : Nat, j = sz - i ∧ i ≤ sz ∧ H = [.cells (avB (putI n sz i))] ∧ vs = [.pv (.int .u64 n), .pv (.int .i64 sz), .msl 0 0 sz sz 1 false, .pv (.int .i64 sz), .pv (.int .i64 i)]) sz ⟨0, by simp, by simp, by rw [hz], rfl⟩ (by omega) ?_
  rintro j vs H m' ⟨i, hj, hi, rfl, rfl⟩ ih
  simp only [go_sem, Nat.reduceAdd, Nat.reduceMul, Nat.reduceSub, Nat.reduceEqDiff, Nat.reduceLeDiff, Nat.reduceLT, Int.reduceAdd, Int.reduceSub, Int.reduceMul, Int.reduceNeg, Int.reduceLT, Int.reduceLE, Int.reduceEq, Int.reduceNe, Int.reduceToNat, UInt8.reduceToNat, reduceCtorEq, and_true, true_and, decide_true, decide_false]
  refine condC_split (fun h => ?_) (fun h => ?_) <;> simp only [go_sem, Nat.reduceAdd, Nat.reduceMul, Nat.reduceSub, Nat.reduceEqDiff, Nat.reduceLeDiff, Nat.reduceLT, Int.reduceAdd, Int.reduceSub, Int.reduceMul, Int.reduceNeg, Int.reduceLT, Int.reduceLE, Int.reduceEq, Int.reduceNe, Int.reduceToNat, UInt8.reduceToNat, reduceCtorEq, and_true, true_and, decide_true, decide_false]
  · have hi' : i < sz := by simp at h; omega
    refine condC_split (fun h8 => ?_) (fun h8 => ?_)
    · have h8' : i < 8 := by simp at h8; omega
      have e1 : IntKind.i64.wrap (IntKind.i64.wrap ((sz : Int) - 1) - (i : Int)) = ((sz - 1 - i : Nat) : Int) := by rw [w_in (n := (sz : Int) - 1) (by omega) (by omega), w_in (by omega) (by omega)]; omega
      have e2 : IntKind.u64.wrap (IntKind.i64.wrap (8 * (i : Int))) = ((8 * i : Nat) : Int) := by rw [w_in (by omega) (by omega), IntKind.wrap_u64]; omega
      have e3 : (0 : Int) ≤ ((8 * i : Nat) : Int) := by omega
      have e4 := byteN_toNat n i h8'
      have e5 : Nat.ble (sz - 1 - i + 1) sz = true := by simp; omega
      have e6 := im_sl (E := E) (t := 104) (e := 5) kd_104 sz_5 0 0 sz sz false .i64 (sz - 1 - i) (by omega)
      have e7 := avB_set (putI n sz i) (sz - 1 - i) (byteN n i) (by rw [putI_length]; omega)
      rw [← putI_succ n sz i hi'] at e7
      simp only [go_sem, Nat.reduceAdd, Nat.reduceMul, Nat.reduceSub, Nat.reduceEqDiff, Nat.reduceLeDiff, Nat.reduceLT, Int.reduceAdd, Int.reduceSub, Int.reduceMul, Int.reduceNeg, Int.reduceLT, Int.reduceLE, Int.reduceEq, Int.reduceNe, Int.reduceToNat, UInt8.reduceToNat, reduceCtorEq, and_true, true_and, decide_true, decide_false, e1, e2, e3, ← e4, e5, e6, putI_length, e7]
      rw [w_succ i (by omega)]
      exact ih _ _ _ (by omega) ⟨i + 1, rfl, by omega, rfl, rfl⟩
    · have h8' : ¬ i < 8 := by simp at h8; omega
      simp only [go_sem, Nat.reduceAdd, Nat.reduceMul, Nat.reduceSub, Nat.reduceEqDiff, Nat.reduceLeDiff, Nat.reduceLT, Int.reduceAdd, Int.reduceSub, Int.reduceMul, Int.reduceNeg, Int.reduceLT, Int.reduceLE, Int.reduceEq, Int.reduceNe, Int.reduceToNat, UInt8.reduceToNat, reduceCtorEq, and_true, true_and, decide_true, decide_false]
      rw [w_succ i (by omega)]
      exact ih _ _ _ (by omega) ⟨i + 1, rfl, by omega, by rw [putI_high n sz i (by omega)], rfl⟩
  · have hi' : i = sz := by simp at h; omega
    subst hi'
    have e := cvb_msl (E := E) (s := 104) (t := 9) (e := 5) ok_104 kd_104 kd_5 kd_9 [.cells (avB (putI n i i))] 0 i false rfl rfl (putI_length n i i)
    simp only [go_sem, Nat.reduceAdd, Nat.reduceMul, Nat.reduceSub, Nat.reduceEqDiff, Nat.reduceLeDiff, Nat.reduceLT, Int.reduceAdd, Int.reduceSub, Int.reduceMul, Int.reduceNeg, Int.reduceLT, Int.reduceLE, Int.reduceEq, Int.reduceNe, Int.reduceToNat, UInt8.reduceToNat, reduceCtorEq, and_true, true_and, decide_true, decide_false, e]
    rfl
theorem put_ok (n : Int) (size : Nat) (h : 0 < size) (h2 : size ≤ 16) : (lim0 E).pure 81 [.int .u64 n, .int .i64 (size : Int)] = some (.str (putL n size)) :=
  put_ok' n size (by omega) size (by rw [if_neg (by omega)])
end Go.Proofs.YtjnmgfmogganlaaGreatDoor

/-
  Contracts: numbers of bytes; hops.
-/
namespace Go.Proofs.YtjnmgfmogganlaaGreatDoor
open Go.Pu
set_option maxRecDepth 100000
attribute [local irreducible] grdC condC bcond obind nextC loopG loopC loopD grdX grdD grunC stepC putC regK execK startC enterL stayC againC backC opC retH retU bodyL finP finS finW loopN seqC blockC nrmC

def getS (n : Int) (b : UInt8) : Int := IntKind.u64.wrap (BitVec.ofInt 64 (IntKind.u64.wrap (n * 2 ^ min 8 64)) ||| BitVec.ofInt 64 (IntKind.u64.wrap (b.toNat : Int))).toNat
/-- The number that the last eight bytes are. -/
def getN (s : List UInt8) : Int := (if 8 < s.length then s.drop (s.length - 8) else s).foldl getS 0
set_option maxHeartbeats 4000000 in
@[go_sem] theorem get_ok (s : List UInt8) (hs : s.length ≤ 9223372036854775807) : (lim0 E).pure 46 [.str s] = some (.int .u64 (getN s)) := by
  refine pure_of (9) ?_; rw [go_46]; unfold Tryz.f46; simp only [go_sem, Nat.reduceAdd, Nat.reduceMul, Nat.reduceSub, Nat.reduceEqDiff, Nat.reduceLeDiff, Nat.reduceLT, Int.reduceAdd, Int.reduceSub, Int.reduceMul, Int.reduceNeg, Int.reduceLT, Int.reduceLE, Int.reduceEq, Int.reduceNe, Int.reduceToNat, UInt8.reduceToNat, reduceCtorEq, and_true, true_and, decide_true, decide_false]
  refine condC_split (fun h => ?_) (fun h => ?_)
  · have h' : 8 < s.length := by simp at h; omega
    have e1 : IntKind.i64.wrap ((s.length : Int) - 8) = ((s.length - 8 : Nat) : Int) := by rw [w_in (by omega) (by omega)]; omega
    have e2 : s.length - 8 ≤ s.length := by omega
    simp only [go_sem, Nat.reduceAdd, Nat.reduceMul, Nat.reduceSub, Nat.reduceEqDiff, Nat.reduceLeDiff, Nat.reduceLT, Int.reduceAdd, Int.reduceSub, Int.reduceMul, Int.reduceNeg, Int.reduceLT, Int.reduceLE, Int.reduceEq, Int.reduceNe, Int.reduceToNat, UInt8.reduceToNat, reduceCtorEq, and_true, true_and, decide_true, decide_false, e1, e2]
    have hg : getN s = (s.drop (s.length - 8)).foldl getS 0 := by rw [getN, if_pos h']
    have hl : (s.drop (s.length - 8)).length ≤ 8 := by simp; omega
    rw [hg]
    generalize s.drop (s.length - 8) = t at hl ⊢
    refine loop_ind (fun j vs H => ∃ (i : Nat) (n : Int), j = t.length - i ∧ i ≤ t.length ∧ H = [] ∧ vs = [.pv (.str t), .pv (.int .u64 n), .pv (.int .i64 t.length), .pv (.int .i64 i)] ∧ t.foldl getS 0 = (t.drop i).foldl getS n) t.length ⟨0, 0, by simp, by simp, rfl, rfl, by simp⟩ (by omega) ?_
    rintro j vs H m' ⟨i, n, hj, hi, rfl, rfl, hall⟩ ih
    simp only [go_sem, Nat.reduceAdd, Nat.reduceMul, Nat.reduceSub, Nat.reduceEqDiff, Nat.reduceLeDiff, Nat.reduceLT, Int.reduceAdd, Int.reduceSub, Int.reduceMul, Int.reduceNeg, Int.reduceLT, Int.reduceLE, Int.reduceEq, Int.reduceNe, Int.reduceToNat, UInt8.reduceToNat, reduceCtorEq, and_true, true_and, decide_true, decide_false]
    refine condC_split (fun h => ?_) (fun h => ?_)
    · have hi' : i < t.length := by simp at h; omega
      have hd : (t.drop i).foldl getS n = (t.drop (i + 1)).foldl getS (getS n t[i]) := by rw [List.drop_eq_getElem_cons hi', List.foldl_cons]
      simp only [go_sem, Nat.reduceAdd, Nat.reduceMul, Nat.reduceSub, Nat.reduceEqDiff, Nat.reduceLeDiff, Nat.reduceLT, Int.reduceAdd, Int.reduceSub, Int.reduceMul, Int.reduceNeg, Int.reduceLT, Int.reduceLE, Int.reduceEq, Int.reduceNe, Int.reduceToNat, UInt8.reduceToNat, reduceCtorEq, and_true, true_and, decide_true, decide_false, hi']
      rw [w_succ i (by omega)]
      exact ih _ _ _ (by omega) ⟨i + 1, _, rfl, by omega, rfl, rfl, by rw [hall, hd]; rfl⟩
    · have hi' : t.length ≤ i := by simp at h; omega
      simp only [go_sem, Nat.reduceAdd, Nat.reduceMul, Nat.reduceSub, Nat.reduceEqDiff, Nat.reduceLeDiff, Nat.reduceLT, Int.reduceAdd, Int.reduceSub, Int.reduceMul, Int.reduceNeg, Int.reduceLT, Int.reduceLE, Int.reduceEq, Int.reduceNe, Int.reduceToNat, UInt8.reduceToNat, reduceCtorEq, and_true, true_and, decide_true, decide_false]
      rw [hall, List.drop_eq_nil_of_le hi']; rfl
  · have h' : ¬ 8 < s.length := by simp at h; omega
    simp only [go_sem, Nat.reduceAdd, Nat.reduceMul, Nat.reduceSub, Nat.reduceEqDiff, Nat.reduceLeDiff, Nat.reduceLT, Int.reduceAdd, Int.reduceSub, Int.reduceMul, Int.reduceNeg, Int.reduceLT, Int.reduceLE, Int.reduceEq, Int.reduceNe, Int.reduceToNat, UInt8.reduceToNat, reduceCtorEq, and_true, true_and, decide_true, decide_false]
    have hg : getN s = s.foldl getS 0 := by rw [getN, if_neg h']
    rw [hg]
    refine loop_ind (fun j vs H => ∃ (i : Nat) (n : Int), j = s.length - i ∧ i ≤ s.length ∧ H = [] ∧ vs = [.pv (.str s), .pv (.int .u64 n), .pv (.int .i64 s.length), .pv (.int .i64 i)] ∧ s.foldl getS 0 = (s.drop i).foldl getS n) s.length ⟨0, 0, by simp, by simp, rfl, rfl, by simp⟩ (by omega) ?_
    rintro j vs H m' ⟨i, n, hj, hi, rfl, rfl, hall⟩ ih
    simp only [go_sem, Nat.reduceAdd, Nat.reduceMul, Nat.reduceSub, Nat.reduceEqDiff, Nat.reduceLeDiff, Nat.reduceLT, Int.reduceAdd, Int.reduceSub, Int.reduceMul, Int.reduceNeg, Int.reduceLT, Int.reduceLE, Int.reduceEq, Int.reduceNe, Int.reduceToNat, UInt8.reduceToNat, reduceCtorEq, and_true, true_and, decide_true, decide_false]
    refine condC_split (fun h => ?_) (fun h => ?_)
    · have hi' : i < s.length := by simp at h; omega
      have hd : (s.drop i).foldl getS n = (s.drop (i + 1)).foldl getS (getS n s[i]) := by rw [List.drop_eq_getElem_cons hi', List.foldl_cons]
      simp only [go_sem, Nat.reduceAdd, Nat.reduceMul, Nat.reduceSub, Nat.reduceEqDiff, Nat.reduceLeDiff, Nat.reduceLT, Int.reduceAdd, Int.reduceSub, Int.reduceMul, Int.reduceNeg, Int.reduceLT, Int.reduceLE, Int.reduceEq, Int.reduceNe, Int.reduceToNat, UInt8.reduceToNat, reduceCtorEq, and_true, true_and, decide_true, decide_false, hi']
      rw [w_succ i (by omega)]
      exact ih _ _ _ (by omega) ⟨i + 1, _, rfl, by omega, rfl, rfl, by rw [hall, hd]; rfl⟩
    · have hi' : s.length ≤ i := by simp at h; omega
      simp only [go_sem, Nat.reduceAdd, Nat.reduceMul, Nat.reduceSub, Nat.reduceEqDiff, Nat.reduceLeDiff, Nat.reduceLT, Int.reduceAdd, Int.reduceSub, Int.reduceMul, Int.reduceNeg, Int.reduceLT, Int.reduceLE, Int.reduceEq, Int.reduceNe, Int.reduceToNat, UInt8.reduceToNat, reduceCtorEq, and_true, true_and, decide_true, decide_false]
      rw [hall, List.drop_eq_nil_of_le hi']; rfl
@[go_sem] theorem hopRight_ok (h : GHop) : (lim0 E).pure 69 [h.pv] = some (.bool (decide (0 ≤ h.radius ∧ h.radius ≤ 3 ∧ 1 ≤ h.node.length ∧ h.node.length ≤ 32))) := by
  refine pure_of (0) ?_; rw [go_69]; unfold Tryz.f69; simp only [go_sem, Nat.reduceAdd, Nat.reduceMul, Nat.reduceSub, Nat.reduceEqDiff, Nat.reduceLeDiff, Nat.reduceLT, Int.reduceAdd, Int.reduceSub, Int.reduceMul, Int.reduceNeg, Int.reduceLT, Int.reduceLE, Int.reduceEq, Int.reduceNe, Int.reduceToNat, UInt8.reduceToNat, reduceCtorEq, and_true, true_and, decide_true, decide_false]
  repeat' (first | (refine grdC_split (fun h => ?_) (fun h => ?_) <;> try simp only [go_sem, Nat.reduceAdd, Nat.reduceMul, Nat.reduceSub, Nat.reduceEqDiff, Nat.reduceLeDiff, Nat.reduceLT, Int.reduceAdd, Int.reduceSub, Int.reduceMul, Int.reduceNeg, Int.reduceLT, Int.reduceLE, Int.reduceEq, Int.reduceNe, Int.reduceToNat, UInt8.reduceToNat, reduceCtorEq, and_true, true_and, decide_true, decide_false]) | (refine condC_split (fun h => ?_) (fun h => ?_) <;> try simp only [go_sem, Nat.reduceAdd, Nat.reduceMul, Nat.reduceSub, Nat.reduceEqDiff, Nat.reduceLeDiff, Nat.reduceLT, Int.reduceAdd, Int.reduceSub, Int.reduceMul, Int.reduceNeg, Int.reduceLT, Int.reduceLE, Int.reduceEq, Int.reduceNe, Int.reduceToNat, UInt8.reduceToNat, reduceCtorEq, and_true, true_and, decide_true, decide_false]) | (refine bcond_eq (fun h => ?_) (fun h => ?_) <;> try simp only [go_sem, Nat.reduceAdd, Nat.reduceMul, Nat.reduceSub, Nat.reduceEqDiff, Nat.reduceLeDiff, Nat.reduceLT, Int.reduceAdd, Int.reduceSub, Int.reduceMul, Int.reduceNeg, Int.reduceLT, Int.reduceLE, Int.reduceEq, Int.reduceNe, Int.reduceToNat, UInt8.reduceToNat, reduceCtorEq, and_true, true_and, decide_true, decide_false]))
  all_goals (refine sb ?_; simp at *; omega)
def hopR (h : GHop) : Bool := decide (0 ≤ h.radius ∧ h.radius ≤ 3 ∧ 1 ≤ h.node.length ∧ h.node.length ≤ 32)
@[go_sem] theorem hopBad_ok (h : GHop) : (lim0 E).pure 68 [h.pv] = some (.bool (!hopR h)) := by
  refine pure_of (0) ?_; rw [go_68]; unfold Tryz.f68; simp only [go_sem, Nat.reduceAdd, Nat.reduceMul, Nat.reduceSub, Nat.reduceEqDiff, Nat.reduceLeDiff, Nat.reduceLT, Int.reduceAdd, Int.reduceSub, Int.reduceMul, Int.reduceNeg, Int.reduceLT, Int.reduceLE, Int.reduceEq, Int.reduceNe, Int.reduceToNat, UInt8.reduceToNat, reduceCtorEq, and_true, true_and, decide_true, decide_false]
  rfl
def shortT (s : List UInt8) : Bool := decide (s.length = 2) && nameT s
@[go_sem] theorem short_ok (s : List UInt8) (hs : s.length ≤ 9223372036854775807) : (lim0 E).pure 36 [.str s] = some (.tup [.int .i64 (if shortT s then IntKind.i64.wrap (getN s) else 0), .bool (shortT s)]) := by
  have e := topicName_ok s hs
  have e2 := get_ok s hs
  refine pure_of (0) ?_; rw [go_36]; unfold Tryz.f36; simp only [go_sem, Nat.reduceAdd, Nat.reduceMul, Nat.reduceSub, Nat.reduceEqDiff, Nat.reduceLeDiff, Nat.reduceLT, Int.reduceAdd, Int.reduceSub, Int.reduceMul, Int.reduceNeg, Int.reduceLT, Int.reduceLE, Int.reduceEq, Int.reduceNe, Int.reduceToNat, UInt8.reduceToNat, reduceCtorEq, and_true, true_and, decide_true, decide_false]
  repeat' (first | (refine grdC_split (fun h => ?_) (fun h => ?_) <;> try simp only [go_sem, Nat.reduceAdd, Nat.reduceMul, Nat.reduceSub, Nat.reduceEqDiff, Nat.reduceLeDiff, Nat.reduceLT, Int.reduceAdd, Int.reduceSub, Int.reduceMul, Int.reduceNeg, Int.reduceLT, Int.reduceLE, Int.reduceEq, Int.reduceNe, Int.reduceToNat, UInt8.reduceToNat, reduceCtorEq, and_true, true_and, decide_true, decide_false, e, e2]) | (refine condC_split (fun h => ?_) (fun h => ?_) <;> try simp only [go_sem, Nat.reduceAdd, Nat.reduceMul, Nat.reduceSub, Nat.reduceEqDiff, Nat.reduceLeDiff, Nat.reduceLT, Int.reduceAdd, Int.reduceSub, Int.reduceMul, Int.reduceNeg, Int.reduceLT, Int.reduceLE, Int.reduceEq, Int.reduceNe, Int.reduceToNat, UInt8.reduceToNat, reduceCtorEq, and_true, true_and, decide_true, decide_false, e, e2]) | (refine bcond_eq (fun h => ?_) (fun h => ?_) <;> try simp only [go_sem, Nat.reduceAdd, Nat.reduceMul, Nat.reduceSub, Nat.reduceEqDiff, Nat.reduceLeDiff, Nat.reduceLT, Int.reduceAdd, Int.reduceSub, Int.reduceMul, Int.reduceNeg, Int.reduceLT, Int.reduceLE, Int.reduceEq, Int.reduceNe, Int.reduceToNat, UInt8.reduceToNat, reduceCtorEq, and_true, true_and, decide_true, decide_false, e, e2]))
  all_goals (clear e e2)
  · have : shortT s = false := by simp [shortT] at *; omega
    simp [this]
  · have : shortT s = false := by simp [shortT] at *; simp_all
    simp [this]
  · have : shortT s = true := by simp [shortT] at *; refine ⟨by omega, ?_⟩; simp_all
    simp [this]
end Go.Proofs.YtjnmgfmogganlaaGreatDoor
