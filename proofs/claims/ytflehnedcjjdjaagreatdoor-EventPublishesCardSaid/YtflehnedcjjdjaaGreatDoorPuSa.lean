/-
  Contracts of the program's functions, and what they say together.
-/
import Derived.Test.YtflehnedcjjdjaaGreatDoorPuT2
import Derived.Test.YtflehnedcjjdjaaGreatDoorPuA27
set_option linter.unusedSimpArgs false
set_option linter.unusedVariables false
namespace Go.Proofs.YtflehnedcjjdjaaGreatDoor
end Go.Proofs.YtflehnedcjjdjaaGreatDoor
set_option maxRecDepth 100000
namespace Go.Proofs.YtflehnedcjjdjaaGreatDoor
open Go.Pu
attribute [local irreducible] grdC condC bcond obind nextC loopG loopC loopD grdX grdD grunC stepC putC regK execK startC enterL stayC againC backC opC retH retU bodyL finP finS finW loopN seqC blockC nrmC
@[go_sem] theorem within_ok (n lo hi : Int) : (lim0 E).pure 18 [.int .i64 n, .int .i64 lo, .int .i64 hi] = some (.bool (decide (lo ≤ n ∧ n ≤ hi))) := by
  refine pure_of (0) ?_; rw [go_18]; unfold Tryz.f18; simp only [go_sem, Nat.reduceAdd, Nat.reduceMul, Nat.reduceSub, Nat.reduceEqDiff, Nat.reduceLeDiff, Nat.reduceLT, Int.reduceAdd, Int.reduceSub, Int.reduceMul, Int.reduceNeg, Int.reduceLT, Int.reduceLE, Int.reduceEq, Int.reduceNe, Int.reduceToNat, UInt8.reduceToNat, reduceCtorEq, and_true, true_and, decide_true, decide_false]
  repeat' (first | (refine grdC_split (fun h => ?_) (fun h => ?_) <;> try simp only [go_sem, Nat.reduceAdd, Nat.reduceMul, Nat.reduceSub, Nat.reduceEqDiff, Nat.reduceLeDiff, Nat.reduceLT, Int.reduceAdd, Int.reduceSub, Int.reduceMul, Int.reduceNeg, Int.reduceLT, Int.reduceLE, Int.reduceEq, Int.reduceNe, Int.reduceToNat, UInt8.reduceToNat, reduceCtorEq, and_true, true_and, decide_true, decide_false]) | (refine condC_split (fun h => ?_) (fun h => ?_) <;> try simp only [go_sem, Nat.reduceAdd, Nat.reduceMul, Nat.reduceSub, Nat.reduceEqDiff, Nat.reduceLeDiff, Nat.reduceLT, Int.reduceAdd, Int.reduceSub, Int.reduceMul, Int.reduceNeg, Int.reduceLT, Int.reduceLE, Int.reduceEq, Int.reduceNe, Int.reduceToNat, UInt8.reduceToNat, reduceCtorEq, and_true, true_and, decide_true, decide_false]) | (refine bcond_eq (fun h => ?_) (fun h => ?_) <;> try simp only [go_sem, Nat.reduceAdd, Nat.reduceMul, Nat.reduceSub, Nat.reduceEqDiff, Nat.reduceLeDiff, Nat.reduceLT, Int.reduceAdd, Int.reduceSub, Int.reduceMul, Int.reduceNeg, Int.reduceLT, Int.reduceLE, Int.reduceEq, Int.reduceNe, Int.reduceToNat, UInt8.reduceToNat, reduceCtorEq, and_true, true_and, decide_true, decide_false]))
  · simp_all
  · simp_all
    omega
def labelsM : PV := .map [.int .i64 1, .int .i64 2, .int .i64 3, .int .i64 4] [.agg [.str [109, 113, 116, 116, 51]], .agg [.str [109, 113, 116, 116, 53]], .agg [.str [115, 110]], .agg [.str [97, 109, 113, 112]]]
@[go_sem] theorem labels_ok : (lim0 E).pure 32 [] = some labelsM := (callN_le 10).pure _ _ _ (by kernel_rfl)
@[go_sem] theorem known_ok (n : Int) : (lim0 E).pure 14 [.int .i64 n] = some (.bool (decide (1 ≤ n ∧ n ≤ 4))) := by
  refine pure_of (0) ?_; rw [go_14]; unfold Tryz.f14; simp only [go_sem, Nat.reduceAdd, Nat.reduceMul, Nat.reduceSub, Nat.reduceEqDiff, Nat.reduceLeDiff, Nat.reduceLT, Int.reduceAdd, Int.reduceSub, Int.reduceMul, Int.reduceNeg, Int.reduceLT, Int.reduceLE, Int.reduceEq, Int.reduceNe, Int.reduceToNat, UInt8.reduceToNat, reduceCtorEq, and_true, true_and, decide_true, decide_false, labelsM]
  repeat' (first | (refine grdC_split (fun h => ?_) (fun h => ?_) <;> try simp only [go_sem, Nat.reduceAdd, Nat.reduceMul, Nat.reduceSub, Nat.reduceEqDiff, Nat.reduceLeDiff, Nat.reduceLT, Int.reduceAdd, Int.reduceSub, Int.reduceMul, Int.reduceNeg, Int.reduceLT, Int.reduceLE, Int.reduceEq, Int.reduceNe, Int.reduceToNat, UInt8.reduceToNat, reduceCtorEq, and_true, true_and, decide_true, decide_false, labelsM]) | (refine condC_split (fun h => ?_) (fun h => ?_) <;> try simp only [go_sem, Nat.reduceAdd, Nat.reduceMul, Nat.reduceSub, Nat.reduceEqDiff, Nat.reduceLeDiff, Nat.reduceLT, Int.reduceAdd, Int.reduceSub, Int.reduceMul, Int.reduceNeg, Int.reduceLT, Int.reduceLE, Int.reduceEq, Int.reduceNe, Int.reduceToNat, UInt8.reduceToNat, reduceCtorEq, and_true, true_and, decide_true, decide_false, labelsM]) | (refine bcond_eq (fun h => ?_) (fun h => ?_) <;> try simp only [go_sem, Nat.reduceAdd, Nat.reduceMul, Nat.reduceSub, Nat.reduceEqDiff, Nat.reduceLeDiff, Nat.reduceLT, Int.reduceAdd, Int.reduceSub, Int.reduceMul, Int.reduceNeg, Int.reduceLT, Int.reduceLE, Int.reduceEq, Int.reduceNe, Int.reduceToNat, UInt8.reduceToNat, reduceCtorEq, and_true, true_and, decide_true, decide_false, labelsM]))
  all_goals (simp at *; try omega)
mutual
/-- No list is longer than a machine's number tells. -/
def wfV : GValue → Prop
  | .mk _ _ t is => t.length ≤ 9223372036854775807 ∧ is.length ≤ 9223372036854775807 ∧ wfVs is
def wfVs : List GValue → Prop
  | [] => True
  | v :: vs => wfV v ∧ wfVs vs
end
theorem wfVs_mem : ∀ {vs : List GValue}, wfVs vs → ∀ v ∈ vs, wfV v
  | [], _, v, h => by simp at h
  | x :: xs, k, v, h => by
    simp only [wfVs] at k
    rcases List.mem_cons.1 h with rfl | h
    · exact k.1
    · exact wfVs_mem k.2 v h
theorem wfV_eq (v : GValue) : wfV v = (v.text.length ≤ 9223372036854775807 ∧ v.items.length ≤ 9223372036854775807 ∧ wfVs v.items) := by cases v; rw [wfV]; rfl
theorem items_lt (v : GValue) (x : GValue) (h : x ∈ v.items) : SizeOf.sizeOf x < SizeOf.sizeOf v := by
  cases v
  have := List.sizeOf_lt_of_mem h
  simp only [GValue.items] at this
  simp
  omega
structure wfE (e : GEvent) : Prop where
  topic : e.topic.length ≤ 9223372036854775807
  payload : e.payload.length ≤ 9223372036854775807
  props : e.props.length ≤ 9223372036854775807
  ptexts : ∀ p ∈ e.props, p.text.length ≤ 9223372036854775807
  pprops : e.packet.props.length ≤ 9223372036854775807
  wprops : e.packet.will.props.length ≤ 9223372036854775807
  filters : e.packet.filters.length ≤ 9223372036854775807
  codes : e.packet.codes.length ≤ 9223372036854775807
  hops : e.hops.length ≤ 9223372036854775807
  values : wfVs e.frame.values
  nvalues : e.frame.values.length ≤ 9223372036854775807
def wholeB (s : List UInt8) : Bool := decide (3 ≤ s.length) && decide (s.take 3 = [239, 191, 189])
@[go_sem] theorem whole_ok (s : List UInt8) : (lim0 E).pure 111 [.str s] = some (.bool (wholeB s)) := by
  refine pure_of (0) ?_; rw [go_111]; unfold Tryz.f111; simp only [go_sem, Nat.reduceAdd, Nat.reduceMul, Nat.reduceSub, Nat.reduceEqDiff, Nat.reduceLeDiff, Nat.reduceLT, Int.reduceAdd, Int.reduceSub, Int.reduceMul, Int.reduceNeg, Int.reduceLT, Int.reduceLE, Int.reduceEq, Int.reduceNe, Int.reduceToNat, UInt8.reduceToNat, reduceCtorEq, and_true, true_and, decide_true, decide_false]
  refine grdC_split (fun h => ?_) (fun h => ?_) <;> simp only [go_sem, Nat.reduceAdd, Nat.reduceMul, Nat.reduceSub, Nat.reduceEqDiff, Nat.reduceLeDiff, Nat.reduceLT, Int.reduceAdd, Int.reduceSub, Int.reduceMul, Int.reduceNeg, Int.reduceLT, Int.reduceLE, Int.reduceEq, Int.reduceNe, Int.reduceToNat, UInt8.reduceToNat, reduceCtorEq, and_true, true_and, decide_true, decide_false]
  · have h3 : 3 ≤ s.length := by simp at h; omega
    have h3' : (3 : Int) ≤ (s.length : Int) := by omega
    simp only [go_sem, Nat.reduceAdd, Nat.reduceMul, Nat.reduceSub, Nat.reduceEqDiff, Nat.reduceLeDiff, Nat.reduceLT, Int.reduceAdd, Int.reduceSub, Int.reduceMul, Int.reduceNeg, Int.reduceLT, Int.reduceLE, Int.reduceEq, Int.reduceNe, Int.reduceToNat, UInt8.reduceToNat, reduceCtorEq, and_true, true_and, decide_true, decide_false, h3']
    refine sb ?_
    simp [wholeB, h3]
  · refine sb ?_; simp [wholeB] at *; omega

/-- The first place at which no code point begins as it should. -/
def badW (rest : List UInt8) (pos : Nat) : Int :=
  if h : rest = [] then -1 else if (runeAt rest).1 = 0 ∨ ((runeAt rest).1 = 65533 ∧ wholeB rest = false) then (pos : Int) else badW (rest.drop (runeAt rest).2) (pos + (runeAt rest).2)
termination_by rest.length
decreasing_by
  have := runeAt_pos rest
  have : rest.length ≠ 0 := fun e => h (List.length_eq_zero_iff.1 e)
  simp only [List.length_drop]; omega

theorem bad_ok (s : List UInt8) : (lim0 E).pure 75 [.str s] = some (.int .i64 (badW s 0)) := by
  refine pure_of (s.length + 1) ?_; rw [go_75]; unfold Tryz.f75; simp only [go_sem, Nat.reduceAdd, Nat.reduceMul, Nat.reduceSub, Nat.reduceEqDiff, Nat.reduceLeDiff, Nat.reduceLT, Int.reduceAdd, Int.reduceSub, Int.reduceMul, Int.reduceNeg, Int.reduceLT, Int.reduceLE, Int.reduceEq, Int.reduceNe, Int.reduceToNat, UInt8.reduceToNat, reduceCtorEq, and_true, true_and, decide_true, decide_false]
  refine loop_ind (fun j vs H => ∃ (rest : List UInt8) (pos : Nat), j = rest.length ∧ rest = s.drop pos ∧ H = [.sit rest pos] ∧ vs = [.pv (.str s), .ptr 0 0] ∧ badW s 0 = badW rest pos) s.length ⟨s, 0, rfl, by simp, rfl, rfl, rfl⟩ (by omega) ?_
  rintro j vs H m' ⟨rest, pos, hj, hr, rfl, rfl, hall⟩ ih
  by_cases h0 : rest = []
  · subst h0
    simp only [go_sem, Nat.reduceAdd, Nat.reduceMul, Nat.reduceSub, Nat.reduceEqDiff, Nat.reduceLeDiff, Nat.reduceLT, Int.reduceAdd, Int.reduceSub, Int.reduceMul, Int.reduceNeg, Int.reduceLT, Int.reduceLE, Int.reduceEq, Int.reduceNe, Int.reduceToNat, UInt8.reduceToNat, reduceCtorEq, and_true, true_and, decide_true, decide_false]
    rw [hall, badW, dif_pos rfl]
  · have hp : pos ≤ s.length := by
      rcases Nat.lt_or_ge pos s.length with h | h
      · omega
      · exact absurd (hr.trans (List.drop_eq_nil_of_le h)) h0
    have hl : rest.length ≠ 0 := fun e => h0 (List.length_eq_zero_iff.1 e)
    have hw := runeAt_pos rest
    simp only [go_sem, Nat.reduceAdd, Nat.reduceMul, Nat.reduceSub, Nat.reduceEqDiff, Nat.reduceLeDiff, Nat.reduceLT, Int.reduceAdd, Int.reduceSub, Int.reduceMul, Int.reduceNeg, Int.reduceLT, Int.reduceLE, Int.reduceEq, Int.reduceNe, Int.reduceToNat, UInt8.reduceToNat, reduceCtorEq, and_true, true_and, decide_true, decide_false, nextS_cons h0, hp, ← hr]
    have hb : badW rest pos = if (runeAt rest).1 = 0 ∨ ((runeAt rest).1 = 65533 ∧ wholeB rest = false) then (pos : Int) else badW (rest.drop (runeAt rest).2) (pos + (runeAt rest).2) := by rw [badW, dif_neg h0]
    repeat' (first | (refine grdC_split (fun h => ?_) (fun h => ?_) <;> try simp only [go_sem, Nat.reduceAdd, Nat.reduceMul, Nat.reduceSub, Nat.reduceEqDiff, Nat.reduceLeDiff, Nat.reduceLT, Int.reduceAdd, Int.reduceSub, Int.reduceMul, Int.reduceNeg, Int.reduceLT, Int.reduceLE, Int.reduceEq, Int.reduceNe, Int.reduceToNat, UInt8.reduceToNat, reduceCtorEq, and_true, true_and, decide_true, decide_false, hp, ← hr]) | (refine condC_split (fun h => ?_) (fun h => ?_) <;> try simp only [go_sem, Nat.reduceAdd, Nat.reduceMul, Nat.reduceSub, Nat.reduceEqDiff, Nat.reduceLeDiff, Nat.reduceLT, Int.reduceAdd, Int.reduceSub, Int.reduceMul, Int.reduceNeg, Int.reduceLT, Int.reduceLE, Int.reduceEq, Int.reduceNe, Int.reduceToNat, UInt8.reduceToNat, reduceCtorEq, and_true, true_and, decide_true, decide_false, hp, ← hr]) | (refine bcond_eq (fun h => ?_) (fun h => ?_) <;> try simp only [go_sem, Nat.reduceAdd, Nat.reduceMul, Nat.reduceSub, Nat.reduceEqDiff, Nat.reduceLeDiff, Nat.reduceLT, Int.reduceAdd, Int.reduceSub, Int.reduceMul, Int.reduceNeg, Int.reduceLT, Int.reduceLE, Int.reduceEq, Int.reduceNe, Int.reduceToNat, UInt8.reduceToNat, reduceCtorEq, and_true, true_and, decide_true, decide_false, hp, ← hr]))
    all_goals first
      | (rw [hall, hb, if_pos (by clear ih hall hb; simp at *; omega)]; done)
      | (rw [hall, hb, if_pos (by clear ih hall hb; simp only [decide_eq_true_eq, decide_eq_false_iff_not, Bool.not_eq_true', Bool.not_eq_false'] at *; grind)]; done)
      | (refine ih _ _ _ (by simp only [List.length_drop]; omega) ⟨_, _, rfl, by rw [hr, List.drop_drop], rfl, rfl, ?_⟩
         rw [hall, hb, if_neg (by clear ih hall hb; simp only [decide_eq_true_eq, decide_eq_false_iff_not, Bool.not_eq_true', Bool.not_eq_false'] at *; grind)])
attribute [go_sem] bad_ok
def validT (s : List UInt8) : Bool := decide (s.length ≤ 65535) && decide (badW s 0 = -1)
@[go_sem] theorem valid_ok (s : List UInt8) : (lim0 E).pure 49 [.str s] = some (.bool (validT s)) := by
  refine pure_of (0) ?_; rw [go_49]; unfold Tryz.f49; simp only [go_sem, Nat.reduceAdd, Nat.reduceMul, Nat.reduceSub, Nat.reduceEqDiff, Nat.reduceLeDiff, Nat.reduceLT, Int.reduceAdd, Int.reduceSub, Int.reduceMul, Int.reduceNeg, Int.reduceLT, Int.reduceLE, Int.reduceEq, Int.reduceNe, Int.reduceToNat, UInt8.reduceToNat, reduceCtorEq, and_true, true_and, decide_true, decide_false]
  refine grdC_split (fun h => ?_) (fun h => ?_) <;> simp only [go_sem, Nat.reduceAdd, Nat.reduceMul, Nat.reduceSub, Nat.reduceEqDiff, Nat.reduceLeDiff, Nat.reduceLT, Int.reduceAdd, Int.reduceSub, Int.reduceMul, Int.reduceNeg, Int.reduceLT, Int.reduceLE, Int.reduceEq, Int.reduceNe, Int.reduceToNat, UInt8.reduceToNat, reduceCtorEq, and_true, true_and, decide_true, decide_false]
  · refine sb ?_; simp [validT] at *; omega
  · refine sb ?_; simp [validT] at *; omega
def textT (s : List UInt8) : Bool := decide (s ≠ []) && validT s
@[go_sem] theorem text_ok (s : List UInt8) : (lim0 E).pure 35 [.str s] = some (.bool (textT s)) := by
  refine pure_of (0) ?_; rw [go_35]; unfold Tryz.f35; simp only [go_sem, Nat.reduceAdd, Nat.reduceMul, Nat.reduceSub, Nat.reduceEqDiff, Nat.reduceLeDiff, Nat.reduceLT, Int.reduceAdd, Int.reduceSub, Int.reduceMul, Int.reduceNeg, Int.reduceLT, Int.reduceLE, Int.reduceEq, Int.reduceNe, Int.reduceToNat, UInt8.reduceToNat, reduceCtorEq, and_true, true_and, decide_true, decide_false]
  refine grdC_split (fun h => ?_) (fun h => ?_) <;> simp only [go_sem, Nat.reduceAdd, Nat.reduceMul, Nat.reduceSub, Nat.reduceEqDiff, Nat.reduceLeDiff, Nat.reduceLT, Int.reduceAdd, Int.reduceSub, Int.reduceMul, Int.reduceNeg, Int.reduceLT, Int.reduceLE, Int.reduceEq, Int.reduceNe, Int.reduceToNat, UInt8.reduceToNat, reduceCtorEq, and_true, true_and, decide_true, decide_false]
  · refine sb ?_; simp [textT] at *; simp_all
  · refine sb ?_; simp [textT] at *; simp_all
@[go_sem] theorem equal_Prop_ok (x y : GProp) : (lim0 E).pure 91 [x.pv, y.pv] = some (.bool (decide (x = y))) := by
  refine pure_of (0) ?_; rw [go_91]; unfold Tryz.f91; simp only [go_sem, Nat.reduceAdd, Nat.reduceMul, Nat.reduceSub, Nat.reduceEqDiff, Nat.reduceLeDiff, Nat.reduceLT, Int.reduceAdd, Int.reduceSub, Int.reduceMul, Int.reduceNeg, Int.reduceLT, Int.reduceLE, Int.reduceEq, Int.reduceNe, Int.reduceToNat, UInt8.reduceToNat, reduceCtorEq, and_true, true_and, decide_true, decide_false]
set_option maxHeartbeats 4000000 in
@[go_sem] theorem equalFunc_Prop_ok (a b : List (GProp)) (h : a.length ≤ 9223372036854775807) : (lim0 E).shut [] 90 [.pv (.lst 4 (List.map (GProp.pv) a)), .pv (.lst 4 (List.map (GProp.pv) b)), .pv (.fn 91)] [] = some (.pv (.bool (decide (a = b))), []) := by
  refine shut_of (a.length + 1) ?_; rw [go_90]; unfold Tryz.f90; simp only [go_sem, Nat.reduceAdd, Nat.reduceMul, Nat.reduceSub, Nat.reduceEqDiff, Nat.reduceLeDiff, Nat.reduceLT, Int.reduceAdd, Int.reduceSub, Int.reduceMul, Int.reduceNeg, Int.reduceLT, Int.reduceLE, Int.reduceEq, Int.reduceNe, Int.reduceToNat, UInt8.reduceToNat, reduceCtorEq, and_true, true_and, decide_true, decide_false]
  refine condC_split (fun hl => ?_) (fun hl => ?_) <;> simp only [go_sem, Nat.reduceAdd, Nat.reduceMul, Nat.reduceSub, Nat.reduceEqDiff, Nat.reduceLeDiff, Nat.reduceLT, Int.reduceAdd, Int.reduceSub, Int.reduceMul, Int.reduceNeg, Int.reduceLT, Int.reduceLE, Int.reduceEq, Int.reduceNe, Int.reduceToNat, UInt8.reduceToNat, reduceCtorEq, and_true, true_and, decide_true, decide_false]
  · have : a ≠ b := by rintro rfl; simp at hl
    simp [this]
  have hab : a.length = b.length := by simp at hl; omega
  refine loop_ind (fun j vs H => ∃ i : Nat, j = a.length - i ∧ i ≤ a.length ∧ H = [] ∧ vs = [.pv (.lst 4 (List.map (GProp.pv) b)), .pv (.fn 91), .pv (.lst 4 (List.map (GProp.pv) a)), .pv (.int .i64 a.length), .pv (.int .i64 i)] ∧ (a = b ↔ a.drop i = b.drop i)) a.length ⟨0, by simp, by simp, rfl, rfl, by simp⟩ (by omega) ?_
  rintro j vs H m' ⟨i, hj, hi, rfl, rfl, hall⟩ ih
  simp only [go_sem, Nat.reduceAdd, Nat.reduceMul, Nat.reduceSub, Nat.reduceEqDiff, Nat.reduceLeDiff, Nat.reduceLT, Int.reduceAdd, Int.reduceSub, Int.reduceMul, Int.reduceNeg, Int.reduceLT, Int.reduceLE, Int.reduceEq, Int.reduceNe, Int.reduceToNat, UInt8.reduceToNat, reduceCtorEq, and_true, true_and, decide_true, decide_false]
  refine condC_split (fun h => ?_) (fun h => ?_) <;> simp only [go_sem, Nat.reduceAdd, Nat.reduceMul, Nat.reduceSub, Nat.reduceEqDiff, Nat.reduceLeDiff, Nat.reduceLT, Int.reduceAdd, Int.reduceSub, Int.reduceMul, Int.reduceNeg, Int.reduceLT, Int.reduceLE, Int.reduceEq, Int.reduceNe, Int.reduceToNat, UInt8.reduceToNat, reduceCtorEq, and_true, true_and, decide_true, decide_false]
  · have hi' : i < a.length := by simp at h; omega
    have hi2 : i < b.length := by omega
    have hd : a.drop i = b.drop i ↔ a[i] = b[i] ∧ a.drop (i + 1) = b.drop (i + 1) := by
      rw [List.drop_eq_getElem_cons hi', List.drop_eq_getElem_cons hi2, List.cons.injEq]
    simp only [go_sem, Nat.reduceAdd, Nat.reduceMul, Nat.reduceSub, Nat.reduceEqDiff, Nat.reduceLeDiff, Nat.reduceLT, Int.reduceAdd, Int.reduceSub, Int.reduceMul, Int.reduceNeg, Int.reduceLT, Int.reduceLE, Int.reduceEq, Int.reduceNe, Int.reduceToNat, UInt8.reduceToNat, reduceCtorEq, and_true, true_and, decide_true, decide_false, hi', hi2]
    refine condC_split (fun g => ?_) (fun g => ?_) <;> simp only [go_sem, Nat.reduceAdd, Nat.reduceMul, Nat.reduceSub, Nat.reduceEqDiff, Nat.reduceLeDiff, Nat.reduceLT, Int.reduceAdd, Int.reduceSub, Int.reduceMul, Int.reduceNeg, Int.reduceLT, Int.reduceLE, Int.reduceEq, Int.reduceNe, Int.reduceToNat, UInt8.reduceToNat, reduceCtorEq, and_true, true_and, decide_true, decide_false]
    · have : ¬ a = b := by rw [hall, hd]; simp at g; exact fun e => g e.1
      simp [this]
    · have g' : a[i] = b[i] := by simpa using g
      rw [w_succ i (by omega)]
      exact ih _ _ _ (by omega) ⟨i + 1, rfl, by omega, rfl, rfl, by rw [hall, hd]; simp [g']⟩
  · have hi' : a.length ≤ i := by simp at h; omega
    have : a = b := by rw [hall, List.drop_eq_nil_of_le hi', List.drop_eq_nil_of_le (by omega)]
    simp [this]
@[go_sem] theorem list_Prop_ok (a b : List (GProp)) (h : a.length ≤ 9223372036854775807) : (lim0 E).pure 57 [.lst 4 (List.map (GProp.pv) a), .lst 4 (List.map (GProp.pv) b)] = some (.bool (decide (a = b))) := by
  have e := equalFunc_Prop_ok a b h
  refine pure_of (0) ?_; rw [go_57]; unfold Tryz.f57; simp only [go_sem, Nat.reduceAdd, Nat.reduceMul, Nat.reduceSub, Nat.reduceEqDiff, Nat.reduceLeDiff, Nat.reduceLT, Int.reduceAdd, Int.reduceSub, Int.reduceMul, Int.reduceNeg, Int.reduceLT, Int.reduceLE, Int.reduceEq, Int.reduceNe, Int.reduceToNat, UInt8.reduceToNat, reduceCtorEq, and_true, true_and, decide_true, decide_false, e]
@[go_sem] theorem equal_Filter_ok (x y : GFilter) : (lim0 E).pure 89 [x.pv, y.pv] = some (.bool (decide (x = y))) := by
  refine pure_of (0) ?_; rw [go_89]; unfold Tryz.f89; simp only [go_sem, Nat.reduceAdd, Nat.reduceMul, Nat.reduceSub, Nat.reduceEqDiff, Nat.reduceLeDiff, Nat.reduceLT, Int.reduceAdd, Int.reduceSub, Int.reduceMul, Int.reduceNeg, Int.reduceLT, Int.reduceLE, Int.reduceEq, Int.reduceNe, Int.reduceToNat, UInt8.reduceToNat, reduceCtorEq, and_true, true_and, decide_true, decide_false]
set_option maxHeartbeats 4000000 in
@[go_sem] theorem equalFunc_Filter_ok (a b : List (GFilter)) (h : a.length ≤ 9223372036854775807) : (lim0 E).shut [] 88 [.pv (.lst 5 (List.map (GFilter.pv) a)), .pv (.lst 5 (List.map (GFilter.pv) b)), .pv (.fn 89)] [] = some (.pv (.bool (decide (a = b))), []) := by
  refine shut_of (a.length + 1) ?_; rw [go_88]; unfold Tryz.f88; simp only [go_sem, Nat.reduceAdd, Nat.reduceMul, Nat.reduceSub, Nat.reduceEqDiff, Nat.reduceLeDiff, Nat.reduceLT, Int.reduceAdd, Int.reduceSub, Int.reduceMul, Int.reduceNeg, Int.reduceLT, Int.reduceLE, Int.reduceEq, Int.reduceNe, Int.reduceToNat, UInt8.reduceToNat, reduceCtorEq, and_true, true_and, decide_true, decide_false]
  refine condC_split (fun hl => ?_) (fun hl => ?_) <;> simp only [go_sem, Nat.reduceAdd, Nat.reduceMul, Nat.reduceSub, Nat.reduceEqDiff, Nat.reduceLeDiff, Nat.reduceLT, Int.reduceAdd, Int.reduceSub, Int.reduceMul, Int.reduceNeg, Int.reduceLT, Int.reduceLE, Int.reduceEq, Int.reduceNe, Int.reduceToNat, UInt8.reduceToNat, reduceCtorEq, and_true, true_and, decide_true, decide_false]
  · have : a ≠ b := by rintro rfl; simp at hl
    simp [this]
  have hab : a.length = b.length := by simp at hl; omega
  refine loop_ind (fun j vs H => ∃ i : Nat, j = a.length - i ∧ i ≤ a.length ∧ H = [] ∧ vs = [.pv (.lst 5 (List.map (GFilter.pv) b)), .pv (.fn 89), .pv (.lst 5 (List.map (GFilter.pv) a)), .pv (.int .i64 a.length), .pv (.int .i64 i)] ∧ (a = b ↔ a.drop i = b.drop i)) a.length ⟨0, by simp, by simp, rfl, rfl, by simp⟩ (by omega) ?_
  rintro j vs H m' ⟨i, hj, hi, rfl, rfl, hall⟩ ih
  simp only [go_sem, Nat.reduceAdd, Nat.reduceMul, Nat.reduceSub, Nat.reduceEqDiff, Nat.reduceLeDiff, Nat.reduceLT, Int.reduceAdd, Int.reduceSub, Int.reduceMul, Int.reduceNeg, Int.reduceLT, Int.reduceLE, Int.reduceEq, Int.reduceNe, Int.reduceToNat, UInt8.reduceToNat, reduceCtorEq, and_true, true_and, decide_true, decide_false]
  refine condC_split (fun h => ?_) (fun h => ?_) <;> simp only [go_sem, Nat.reduceAdd, Nat.reduceMul, Nat.reduceSub, Nat.reduceEqDiff, Nat.reduceLeDiff, Nat.reduceLT, Int.reduceAdd, Int.reduceSub, Int.reduceMul, Int.reduceNeg, Int.reduceLT, Int.reduceLE, Int.reduceEq, Int.reduceNe, Int.reduceToNat, UInt8.reduceToNat, reduceCtorEq, and_true, true_and, decide_true, decide_false]
  · have hi' : i < a.length := by simp at h; omega
    have hi2 : i < b.length := by omega
    have hd : a.drop i = b.drop i ↔ a[i] = b[i] ∧ a.drop (i + 1) = b.drop (i + 1) := by
      rw [List.drop_eq_getElem_cons hi', List.drop_eq_getElem_cons hi2, List.cons.injEq]
    simp only [go_sem, Nat.reduceAdd, Nat.reduceMul, Nat.reduceSub, Nat.reduceEqDiff, Nat.reduceLeDiff, Nat.reduceLT, Int.reduceAdd, Int.reduceSub, Int.reduceMul, Int.reduceNeg, Int.reduceLT, Int.reduceLE, Int.reduceEq, Int.reduceNe, Int.reduceToNat, UInt8.reduceToNat, reduceCtorEq, and_true, true_and, decide_true, decide_false, hi', hi2]
    refine condC_split (fun g => ?_) (fun g => ?_) <;> simp only [go_sem, Nat.reduceAdd, Nat.reduceMul, Nat.reduceSub, Nat.reduceEqDiff, Nat.reduceLeDiff, Nat.reduceLT, Int.reduceAdd, Int.reduceSub, Int.reduceMul, Int.reduceNeg, Int.reduceLT, Int.reduceLE, Int.reduceEq, Int.reduceNe, Int.reduceToNat, UInt8.reduceToNat, reduceCtorEq, and_true, true_and, decide_true, decide_false]
    · have : ¬ a = b := by rw [hall, hd]; simp at g; exact fun e => g e.1
      simp [this]
    · have g' : a[i] = b[i] := by simpa using g
      rw [w_succ i (by omega)]
      exact ih _ _ _ (by omega) ⟨i + 1, rfl, by omega, rfl, rfl, by rw [hall, hd]; simp [g']⟩
  · have hi' : a.length ≤ i := by simp at h; omega
    have : a = b := by rw [hall, List.drop_eq_nil_of_le hi', List.drop_eq_nil_of_le (by omega)]
    simp [this]
@[go_sem] theorem list_Filter_ok (a b : List (GFilter)) (h : a.length ≤ 9223372036854775807) : (lim0 E).pure 56 [.lst 5 (List.map (GFilter.pv) a), .lst 5 (List.map (GFilter.pv) b)] = some (.bool (decide (a = b))) := by
  have e := equalFunc_Filter_ok a b h
  refine pure_of (0) ?_; rw [go_56]; unfold Tryz.f56; simp only [go_sem, Nat.reduceAdd, Nat.reduceMul, Nat.reduceSub, Nat.reduceEqDiff, Nat.reduceLeDiff, Nat.reduceLT, Int.reduceAdd, Int.reduceSub, Int.reduceMul, Int.reduceNeg, Int.reduceLT, Int.reduceLE, Int.reduceEq, Int.reduceNe, Int.reduceToNat, UInt8.reduceToNat, reduceCtorEq, and_true, true_and, decide_true, decide_false, e]
@[go_sem] theorem equal_Int_ok (x y : Int) : (lim0 E).pure 87 [.int .i64 x, .int .i64 y] = some (.bool (decide (x = y))) := by
  refine pure_of (0) ?_; rw [go_87]; unfold Tryz.f87; simp only [go_sem, Nat.reduceAdd, Nat.reduceMul, Nat.reduceSub, Nat.reduceEqDiff, Nat.reduceLeDiff, Nat.reduceLT, Int.reduceAdd, Int.reduceSub, Int.reduceMul, Int.reduceNeg, Int.reduceLT, Int.reduceLE, Int.reduceEq, Int.reduceNe, Int.reduceToNat, UInt8.reduceToNat, reduceCtorEq, and_true, true_and, decide_true, decide_false]
set_option maxHeartbeats 4000000 in
@[go_sem] theorem equalFunc_Int_ok (a b : List (Int)) (h : a.length ≤ 9223372036854775807) : (lim0 E).shut [] 86 [.pv (.lst 1 (List.map (fun z => PV.int .i64 z) a)), .pv (.lst 1 (List.map (fun z => PV.int .i64 z) b)), .pv (.fn 87)] [] = some (.pv (.bool (decide (a = b))), []) := by
  refine shut_of (a.length + 1) ?_; rw [go_86]; unfold Tryz.f86; simp only [go_sem, Nat.reduceAdd, Nat.reduceMul, Nat.reduceSub, Nat.reduceEqDiff, Nat.reduceLeDiff, Nat.reduceLT, Int.reduceAdd, Int.reduceSub, Int.reduceMul, Int.reduceNeg, Int.reduceLT, Int.reduceLE, Int.reduceEq, Int.reduceNe, Int.reduceToNat, UInt8.reduceToNat, reduceCtorEq, and_true, true_and, decide_true, decide_false]
  refine condC_split (fun hl => ?_) (fun hl => ?_) <;> simp only [go_sem, Nat.reduceAdd, Nat.reduceMul, Nat.reduceSub, Nat.reduceEqDiff, Nat.reduceLeDiff, Nat.reduceLT, Int.reduceAdd, Int.reduceSub, Int.reduceMul, Int.reduceNeg, Int.reduceLT, Int.reduceLE, Int.reduceEq, Int.reduceNe, Int.reduceToNat, UInt8.reduceToNat, reduceCtorEq, and_true, true_and, decide_true, decide_false]
  · have : a ≠ b := by rintro rfl; simp at hl
    simp [this]
  have hab : a.length = b.length := by simp at hl; omega
  refine loop_ind (fun j vs H => ∃ i : Nat, j = a.length - i ∧ i ≤ a.length ∧ H = [] ∧ vs = [.pv (.lst 1 (List.map (fun z => PV.int .i64 z) b)), .pv (.fn 87), .pv (.lst 1 (List.map (fun z => PV.int .i64 z) a)), .pv (.int .i64 a.length), .pv (.int .i64 i)] ∧ (a = b ↔ a.drop i = b.drop i)) a.length ⟨0, by simp, by simp, rfl, rfl, by simp⟩ (by omega) ?_
  rintro j vs H m' ⟨i, hj, hi, rfl, rfl, hall⟩ ih
  simp only [go_sem, Nat.reduceAdd, Nat.reduceMul, Nat.reduceSub, Nat.reduceEqDiff, Nat.reduceLeDiff, Nat.reduceLT, Int.reduceAdd, Int.reduceSub, Int.reduceMul, Int.reduceNeg, Int.reduceLT, Int.reduceLE, Int.reduceEq, Int.reduceNe, Int.reduceToNat, UInt8.reduceToNat, reduceCtorEq, and_true, true_and, decide_true, decide_false]
  refine condC_split (fun h => ?_) (fun h => ?_) <;> simp only [go_sem, Nat.reduceAdd, Nat.reduceMul, Nat.reduceSub, Nat.reduceEqDiff, Nat.reduceLeDiff, Nat.reduceLT, Int.reduceAdd, Int.reduceSub, Int.reduceMul, Int.reduceNeg, Int.reduceLT, Int.reduceLE, Int.reduceEq, Int.reduceNe, Int.reduceToNat, UInt8.reduceToNat, reduceCtorEq, and_true, true_and, decide_true, decide_false]
  · have hi' : i < a.length := by simp at h; omega
    have hi2 : i < b.length := by omega
    have hd : a.drop i = b.drop i ↔ a[i] = b[i] ∧ a.drop (i + 1) = b.drop (i + 1) := by
      rw [List.drop_eq_getElem_cons hi', List.drop_eq_getElem_cons hi2, List.cons.injEq]
    simp only [go_sem, Nat.reduceAdd, Nat.reduceMul, Nat.reduceSub, Nat.reduceEqDiff, Nat.reduceLeDiff, Nat.reduceLT, Int.reduceAdd, Int.reduceSub, Int.reduceMul, Int.reduceNeg, Int.reduceLT, Int.reduceLE, Int.reduceEq, Int.reduceNe, Int.reduceToNat, UInt8.reduceToNat, reduceCtorEq, and_true, true_and, decide_true, decide_false, hi', hi2]
    refine condC_split (fun g => ?_) (fun g => ?_) <;> simp only [go_sem, Nat.reduceAdd, Nat.reduceMul, Nat.reduceSub, Nat.reduceEqDiff, Nat.reduceLeDiff, Nat.reduceLT, Int.reduceAdd, Int.reduceSub, Int.reduceMul, Int.reduceNeg, Int.reduceLT, Int.reduceLE, Int.reduceEq, Int.reduceNe, Int.reduceToNat, UInt8.reduceToNat, reduceCtorEq, and_true, true_and, decide_true, decide_false]
    · have : ¬ a = b := by rw [hall, hd]; simp at g; exact fun e => g e.1
      simp [this]
    · have g' : a[i] = b[i] := by simpa using g
      rw [w_succ i (by omega)]
      exact ih _ _ _ (by omega) ⟨i + 1, rfl, by omega, rfl, rfl, by rw [hall, hd]; simp [g']⟩
  · have hi' : a.length ≤ i := by simp at h; omega
    have : a = b := by rw [hall, List.drop_eq_nil_of_le hi', List.drop_eq_nil_of_le (by omega)]
    simp [this]
@[go_sem] theorem list_Int_ok (a b : List (Int)) (h : a.length ≤ 9223372036854775807) : (lim0 E).pure 55 [.lst 1 (List.map (fun z => PV.int .i64 z) a), .lst 1 (List.map (fun z => PV.int .i64 z) b)] = some (.bool (decide (a = b))) := by
  have e := equalFunc_Int_ok a b h
  refine pure_of (0) ?_; rw [go_55]; unfold Tryz.f55; simp only [go_sem, Nat.reduceAdd, Nat.reduceMul, Nat.reduceSub, Nat.reduceEqDiff, Nat.reduceLeDiff, Nat.reduceLT, Int.reduceAdd, Int.reduceSub, Int.reduceMul, Int.reduceNeg, Int.reduceLT, Int.reduceLE, Int.reduceEq, Int.reduceNe, Int.reduceToNat, UInt8.reduceToNat, reduceCtorEq, and_true, true_and, decide_true, decide_false, e]

@[go_sem] theorem strip_ok (p : GPacket) : (lim0 E).pure 53 [p.pv] = some (GHeadBare.pv ⟨p.kind, p.qos, p.id, p.keepalive, p.code, p.dup, p.retain, p.clean, p.hasuser, p.haspass, p.haswill, p.session, p.topic, p.payload, p.client, p.user, p.pass⟩) := by
  refine pure_of (0) ?_; rw [go_53]; unfold Tryz.f53; simp only [go_sem, Nat.reduceAdd, Nat.reduceMul, Nat.reduceSub, Nat.reduceEqDiff, Nat.reduceLeDiff, Nat.reduceLT, Int.reduceAdd, Int.reduceSub, Int.reduceMul, Int.reduceNeg, Int.reduceLT, Int.reduceLE, Int.reduceEq, Int.reduceNe, Int.reduceToNat, UInt8.reduceToNat, reduceCtorEq, and_true, true_and, decide_true, decide_false]
set_option maxHeartbeats 4000000 in
@[go_sem] theorem sameWill_ok (a b : GWill) (h : a.props.length ≤ 9223372036854775807) : (lim0 E).pure 54 [a.pv, b.pv] = some (.bool (decide (a = b))) := by
  have e := list_Prop_ok a.props b.props h
  refine pure_of (0) ?_; rw [go_54]; unfold Tryz.f54; simp only [go_sem, Nat.reduceAdd, Nat.reduceMul, Nat.reduceSub, Nat.reduceEqDiff, Nat.reduceLeDiff, Nat.reduceLT, Int.reduceAdd, Int.reduceSub, Int.reduceMul, Int.reduceNeg, Int.reduceLT, Int.reduceLE, Int.reduceEq, Int.reduceNe, Int.reduceToNat, UInt8.reduceToNat, reduceCtorEq, and_true, true_and, decide_true, decide_false]
  repeat' (first | (refine grdC_split (fun h => ?_) (fun h => ?_) <;> try simp only [go_sem, Nat.reduceAdd, Nat.reduceMul, Nat.reduceSub, Nat.reduceEqDiff, Nat.reduceLeDiff, Nat.reduceLT, Int.reduceAdd, Int.reduceSub, Int.reduceMul, Int.reduceNeg, Int.reduceLT, Int.reduceLE, Int.reduceEq, Int.reduceNe, Int.reduceToNat, UInt8.reduceToNat, reduceCtorEq, and_true, true_and, decide_true, decide_false, e]) | (refine condC_split (fun h => ?_) (fun h => ?_) <;> try simp only [go_sem, Nat.reduceAdd, Nat.reduceMul, Nat.reduceSub, Nat.reduceEqDiff, Nat.reduceLeDiff, Nat.reduceLT, Int.reduceAdd, Int.reduceSub, Int.reduceMul, Int.reduceNeg, Int.reduceLT, Int.reduceLE, Int.reduceEq, Int.reduceNe, Int.reduceToNat, UInt8.reduceToNat, reduceCtorEq, and_true, true_and, decide_true, decide_false, e]) | (refine bcond_eq (fun h => ?_) (fun h => ?_) <;> try simp only [go_sem, Nat.reduceAdd, Nat.reduceMul, Nat.reduceSub, Nat.reduceEqDiff, Nat.reduceLeDiff, Nat.reduceLT, Int.reduceAdd, Int.reduceSub, Int.reduceMul, Int.reduceNeg, Int.reduceLT, Int.reduceLE, Int.reduceEq, Int.reduceNe, Int.reduceToNat, UInt8.reduceToNat, reduceCtorEq, and_true, true_and, decide_true, decide_false, e]))
  all_goals (clear e; cases a; cases b; simp_all)
set_option maxHeartbeats 4000000 in
@[go_sem] theorem headSame_ok (a b : GPacket) (h1 : a.props.length ≤ 9223372036854775807) (h2 : a.will.props.length ≤ 9223372036854775807) (h3 : a.filters.length ≤ 9223372036854775807) (h4 : a.codes.length ≤ 9223372036854775807) : (lim0 E).pure 40 [a.pv, b.pv] = some (.bool (decide (a = b))) := by
  have e1 := list_Prop_ok a.props b.props h1
  have e2 := list_Filter_ok a.filters b.filters h3
  have e3 := list_Int_ok a.codes b.codes h4
  have e4 := sameWill_ok a.will b.will h2
  refine pure_of (0) ?_; rw [go_40]; unfold Tryz.f40; simp only [go_sem, Nat.reduceAdd, Nat.reduceMul, Nat.reduceSub, Nat.reduceEqDiff, Nat.reduceLeDiff, Nat.reduceLT, Int.reduceAdd, Int.reduceSub, Int.reduceMul, Int.reduceNeg, Int.reduceLT, Int.reduceLE, Int.reduceEq, Int.reduceNe, Int.reduceToNat, UInt8.reduceToNat, reduceCtorEq, and_true, true_and, decide_true, decide_false]
  repeat' (first | (refine grdC_split (fun h => ?_) (fun h => ?_) <;> try simp only [go_sem, Nat.reduceAdd, Nat.reduceMul, Nat.reduceSub, Nat.reduceEqDiff, Nat.reduceLeDiff, Nat.reduceLT, Int.reduceAdd, Int.reduceSub, Int.reduceMul, Int.reduceNeg, Int.reduceLT, Int.reduceLE, Int.reduceEq, Int.reduceNe, Int.reduceToNat, UInt8.reduceToNat, reduceCtorEq, and_true, true_and, decide_true, decide_false, e1, e2, e3, e4]) | (refine condC_split (fun h => ?_) (fun h => ?_) <;> try simp only [go_sem, Nat.reduceAdd, Nat.reduceMul, Nat.reduceSub, Nat.reduceEqDiff, Nat.reduceLeDiff, Nat.reduceLT, Int.reduceAdd, Int.reduceSub, Int.reduceMul, Int.reduceNeg, Int.reduceLT, Int.reduceLE, Int.reduceEq, Int.reduceNe, Int.reduceToNat, UInt8.reduceToNat, reduceCtorEq, and_true, true_and, decide_true, decide_false, e1, e2, e3, e4]) | (refine bcond_eq (fun h => ?_) (fun h => ?_) <;> try simp only [go_sem, Nat.reduceAdd, Nat.reduceMul, Nat.reduceSub, Nat.reduceEqDiff, Nat.reduceLeDiff, Nat.reduceLT, Int.reduceAdd, Int.reduceSub, Int.reduceMul, Int.reduceNeg, Int.reduceLT, Int.reduceLE, Int.reduceEq, Int.reduceNe, Int.reduceToNat, UInt8.reduceToNat, reduceCtorEq, and_true, true_and, decide_true, decide_false, e1, e2, e3, e4]))
  all_goals first
    | (have : a ≠ b := by (rintro rfl; clear e1 e2 e3 e4; simp at *)
       simp [this]; done)
    | (clear e1 e2 e3 e4; cases a; cases b; simp_all; done)
mutual
/-- Are two values the same? -/
def sameV : GValue → GValue → Bool
  | .mk k n t is, .mk k' n' t' is' => decide (k = k') && decide (n = n') && decide (t = t') && sameVs is is'
def sameVs : List GValue → List GValue → Bool
  | [], [] => true
  | a :: xs, b :: ys => sameV a b && sameVs xs ys
  | _, _ => false
end
mutual
theorem sameV_iff : ∀ (a b : GValue), sameV a b = true ↔ a = b
  | .mk k n t is, .mk k' n' t' is' => by simp [sameV, sameVs_iff is is', and_assoc]
theorem sameVs_iff : ∀ (xs ys : List GValue), sameVs xs ys = true ↔ xs = ys
  | [], [] => by simp [sameVs]
  | [], _ :: _ => by simp [sameVs]
  | _ :: _, [] => by simp [sameVs]
  | a :: xs, b :: ys => by simp [sameVs, sameV_iff a b, sameVs_iff xs ys]
end
theorem sameV_eq (a b : GValue) : sameV a b = (decide (a.kind = b.kind) && decide (a.n = b.n) && decide (a.text = b.text) && sameVs a.items b.items) := by cases a; cases b; rw [sameV]; rfl
theorem sameVs_length : ∀ (xs ys : List GValue), xs.length ≠ ys.length → sameVs xs ys = false := by
  intro xs ys h
  cases e : sameVs xs ys with
  | false => rfl
  | true => exact absurd (congrArg List.length ((sameVs_iff xs ys).1 e)) h
set_option maxHeartbeats 4000000 in
theorem amqSame' (k : Nat) : ∀ (a b : GValue), SizeOf.sizeOf a ≤ k → wfV a → (lim0 E).pure 58 [a.pv, b.pv] = some (.bool (sameV a b)) := by
  induction k with
  | zero => intro a b h; cases a; simp at h
  | succ k ihk =>
  intro a b hk hwf
  rw [wfV_eq] at hwf
  obtain ⟨_, hlen, hwfs⟩ := hwf
  refine pure_of (a.items.length + 1) ?_; rw [go_58]; unfold Tryz.f58; simp only [go_sem, Nat.reduceAdd, Nat.reduceMul, Nat.reduceSub, Nat.reduceEqDiff, Nat.reduceLeDiff, Nat.reduceLT, Int.reduceAdd, Int.reduceSub, Int.reduceMul, Int.reduceNeg, Int.reduceLT, Int.reduceLE, Int.reduceEq, Int.reduceNe, Int.reduceToNat, UInt8.reduceToNat, reduceCtorEq, and_true, true_and, decide_true, decide_false]
  repeat' (first | (refine grdC_split (fun h => ?_) (fun h => ?_) <;> try simp only [go_sem, Nat.reduceAdd, Nat.reduceMul, Nat.reduceSub, Nat.reduceEqDiff, Nat.reduceLeDiff, Nat.reduceLT, Int.reduceAdd, Int.reduceSub, Int.reduceMul, Int.reduceNeg, Int.reduceLT, Int.reduceLE, Int.reduceEq, Int.reduceNe, Int.reduceToNat, UInt8.reduceToNat, reduceCtorEq, and_true, true_and, decide_true, decide_false]) | (refine condC_split (fun h => ?_) (fun h => ?_) <;> try simp only [go_sem, Nat.reduceAdd, Nat.reduceMul, Nat.reduceSub, Nat.reduceEqDiff, Nat.reduceLeDiff, Nat.reduceLT, Int.reduceAdd, Int.reduceSub, Int.reduceMul, Int.reduceNeg, Int.reduceLT, Int.reduceLE, Int.reduceEq, Int.reduceNe, Int.reduceToNat, UInt8.reduceToNat, reduceCtorEq, and_true, true_and, decide_true, decide_false]) | (refine bcond_eq (fun h => ?_) (fun h => ?_) <;> try simp only [go_sem, Nat.reduceAdd, Nat.reduceMul, Nat.reduceSub, Nat.reduceEqDiff, Nat.reduceLeDiff, Nat.reduceLT, Int.reduceAdd, Int.reduceSub, Int.reduceMul, Int.reduceNeg, Int.reduceLT, Int.reduceLE, Int.reduceEq, Int.reduceNe, Int.reduceToNat, UInt8.reduceToNat, reduceCtorEq, and_true, true_and, decide_true, decide_false]))
  · rw [sameV_eq]; simp_all
  · rw [sameV_eq]; simp_all
  · rw [sameV_eq]; simp_all
  · rw [sameV_eq, sameVs_length _ _ (by simp at *; omega)]; simp
  rename_i g1 g2 g3
  have hab : a.items.length = b.items.length := by simp at *; omega
  have hs : sameV a b = sameVs a.items b.items := by rw [sameV_eq]; simp_all
  rw [hs]
  refine loop_ind (fun j vs H => ∃ i : Nat, j = a.items.length - i ∧ i ≤ a.items.length ∧ H = [.cells a.avs, .cells b.avs] ∧ vs = [.ptr 0 0, .ptr 1 0, .pv (.int .i64 a.items.length), .pv (.int .i64 i)] ∧ sameVs a.items b.items = sameVs (a.items.drop i) (b.items.drop i)) a.items.length ⟨0, by simp, by simp, rfl, rfl, by simp⟩ (by omega) ?_
  rintro j vs H m' ⟨i, hj, hi, rfl, rfl, hall⟩ ih
  simp only [go_sem, Nat.reduceAdd, Nat.reduceMul, Nat.reduceSub, Nat.reduceEqDiff, Nat.reduceLeDiff, Nat.reduceLT, Int.reduceAdd, Int.reduceSub, Int.reduceMul, Int.reduceNeg, Int.reduceLT, Int.reduceLE, Int.reduceEq, Int.reduceNe, Int.reduceToNat, UInt8.reduceToNat, reduceCtorEq, and_true, true_and, decide_true, decide_false]
  refine condC_split (fun h => ?_) (fun h => ?_) <;> simp only [go_sem, Nat.reduceAdd, Nat.reduceMul, Nat.reduceSub, Nat.reduceEqDiff, Nat.reduceLeDiff, Nat.reduceLT, Int.reduceAdd, Int.reduceSub, Int.reduceMul, Int.reduceNeg, Int.reduceLT, Int.reduceLE, Int.reduceEq, Int.reduceNe, Int.reduceToNat, UInt8.reduceToNat, reduceCtorEq, and_true, true_and, decide_true, decide_false]
  · have hi' : i < a.items.length := by simp at h; omega
    have hi2 : i < b.items.length := by omega
    have hd : sameVs (a.items.drop i) (b.items.drop i) = (sameV a.items[i] b.items[i] && sameVs (a.items.drop (i + 1)) (b.items.drop (i + 1))) := by
      rw [List.drop_eq_getElem_cons hi', List.drop_eq_getElem_cons hi2, sameVs]
    have hm := List.getElem_mem hi'
    have e := ihk a.items[i] b.items[i] (by have := items_lt a _ hm; omega) (wfVs_mem hwfs _ hm)
    simp only [go_sem, Nat.reduceAdd, Nat.reduceMul, Nat.reduceSub, Nat.reduceEqDiff, Nat.reduceLeDiff, Nat.reduceLT, Int.reduceAdd, Int.reduceSub, Int.reduceMul, Int.reduceNeg, Int.reduceLT, Int.reduceLE, Int.reduceEq, Int.reduceNe, Int.reduceToNat, UInt8.reduceToNat, reduceCtorEq, and_true, true_and, decide_true, decide_false, hi', hi2, e]
    refine condC_split (fun g => ?_) (fun g => ?_) <;> simp only [go_sem, Nat.reduceAdd, Nat.reduceMul, Nat.reduceSub, Nat.reduceEqDiff, Nat.reduceLeDiff, Nat.reduceLT, Int.reduceAdd, Int.reduceSub, Int.reduceMul, Int.reduceNeg, Int.reduceLT, Int.reduceLE, Int.reduceEq, Int.reduceNe, Int.reduceToNat, UInt8.reduceToNat, reduceCtorEq, and_true, true_and, decide_true, decide_false]
    · rw [hall, hd]; simp at g; simp [g]
    · rw [w_succ i (by omega)]
      exact ih _ _ _ (by omega) ⟨i + 1, rfl, by omega, rfl, rfl, by rw [hall, hd]; simp at g; simp [g]⟩
  · have hi' : a.items.length ≤ i := by simp at h; omega
    rw [hall, List.drop_eq_nil_of_le hi', List.drop_eq_nil_of_le (by omega)]; rfl
@[go_sem] theorem amqSame_ok (a b : GValue) (h : wfV a) : (lim0 E).pure 58 [a.pv, b.pv] = some (.bool (sameV a b)) := amqSame' _ a b (Nat.le_refl _) h
def sameF (a b : GFrame) : Bool := decide (a.ty = b.ty) && decide (a.channel = b.channel) && decide (a.ext = b.ext) && sameVs a.values b.values
set_option maxHeartbeats 4000000 in
@[go_sem] theorem frameSame_ok (a b : GFrame) (hwf : wfVs a.values) (hlen : a.values.length ≤ 9223372036854775807) : (lim0 E).pure 41 [a.pv, b.pv] = some (.bool (sameF a b)) := by
  refine pure_of (a.values.length + 1) ?_; rw [go_41]; unfold Tryz.f41; simp only [go_sem, Nat.reduceAdd, Nat.reduceMul, Nat.reduceSub, Nat.reduceEqDiff, Nat.reduceLeDiff, Nat.reduceLT, Int.reduceAdd, Int.reduceSub, Int.reduceMul, Int.reduceNeg, Int.reduceLT, Int.reduceLE, Int.reduceEq, Int.reduceNe, Int.reduceToNat, UInt8.reduceToNat, reduceCtorEq, and_true, true_and, decide_true, decide_false]
  repeat' (first | (refine grdC_split (fun h => ?_) (fun h => ?_) <;> try simp only [go_sem, Nat.reduceAdd, Nat.reduceMul, Nat.reduceSub, Nat.reduceEqDiff, Nat.reduceLeDiff, Nat.reduceLT, Int.reduceAdd, Int.reduceSub, Int.reduceMul, Int.reduceNeg, Int.reduceLT, Int.reduceLE, Int.reduceEq, Int.reduceNe, Int.reduceToNat, UInt8.reduceToNat, reduceCtorEq, and_true, true_and, decide_true, decide_false]) | (refine condC_split (fun h => ?_) (fun h => ?_) <;> try simp only [go_sem, Nat.reduceAdd, Nat.reduceMul, Nat.reduceSub, Nat.reduceEqDiff, Nat.reduceLeDiff, Nat.reduceLT, Int.reduceAdd, Int.reduceSub, Int.reduceMul, Int.reduceNeg, Int.reduceLT, Int.reduceLE, Int.reduceEq, Int.reduceNe, Int.reduceToNat, UInt8.reduceToNat, reduceCtorEq, and_true, true_and, decide_true, decide_false]) | (refine bcond_eq (fun h => ?_) (fun h => ?_) <;> try simp only [go_sem, Nat.reduceAdd, Nat.reduceMul, Nat.reduceSub, Nat.reduceEqDiff, Nat.reduceLeDiff, Nat.reduceLT, Int.reduceAdd, Int.reduceSub, Int.reduceMul, Int.reduceNeg, Int.reduceLT, Int.reduceLE, Int.reduceEq, Int.reduceNe, Int.reduceToNat, UInt8.reduceToNat, reduceCtorEq, and_true, true_and, decide_true, decide_false]))
  · simp_all [sameF]
  · simp_all [sameF]
  · simp_all [sameF]
  · rw [sameF, sameVs_length _ _ (by simp at *; omega)]; simp
  rename_i g1 g2 g3
  have hab : a.values.length = b.values.length := by simp at *; omega
  have hs : sameF a b = sameVs a.values b.values := by simp_all [sameF]
  rw [hs]
  refine loop_ind (fun j vs H => ∃ i : Nat, j = a.values.length - i ∧ i ≤ a.values.length ∧ H = [.cells a.avs, .cells b.avs] ∧ vs = [.ptr 1 0, .pv (.lst 4 (List.map GValue.pv a.values)), .pv (.int .i64 a.values.length), .pv (.int .i64 i)] ∧ sameVs a.values b.values = sameVs (a.values.drop i) (b.values.drop i)) a.values.length ⟨0, by simp, by simp, rfl, rfl, by simp⟩ (by omega) ?_
  rintro j vs H m' ⟨i, hj, hi, rfl, rfl, hall⟩ ih
  simp only [go_sem, Nat.reduceAdd, Nat.reduceMul, Nat.reduceSub, Nat.reduceEqDiff, Nat.reduceLeDiff, Nat.reduceLT, Int.reduceAdd, Int.reduceSub, Int.reduceMul, Int.reduceNeg, Int.reduceLT, Int.reduceLE, Int.reduceEq, Int.reduceNe, Int.reduceToNat, UInt8.reduceToNat, reduceCtorEq, and_true, true_and, decide_true, decide_false]
  refine condC_split (fun h => ?_) (fun h => ?_) <;> simp only [go_sem, Nat.reduceAdd, Nat.reduceMul, Nat.reduceSub, Nat.reduceEqDiff, Nat.reduceLeDiff, Nat.reduceLT, Int.reduceAdd, Int.reduceSub, Int.reduceMul, Int.reduceNeg, Int.reduceLT, Int.reduceLE, Int.reduceEq, Int.reduceNe, Int.reduceToNat, UInt8.reduceToNat, reduceCtorEq, and_true, true_and, decide_true, decide_false]
  · have hi' : i < a.values.length := by simp at h; omega
    have hi2 : i < b.values.length := by omega
    have hd : sameVs (a.values.drop i) (b.values.drop i) = (sameV a.values[i] b.values[i] && sameVs (a.values.drop (i + 1)) (b.values.drop (i + 1))) := by
      rw [List.drop_eq_getElem_cons hi', List.drop_eq_getElem_cons hi2, sameVs]
    have e := amqSame_ok a.values[i] b.values[i] (wfVs_mem hwf _ (List.getElem_mem hi'))
    simp only [go_sem, Nat.reduceAdd, Nat.reduceMul, Nat.reduceSub, Nat.reduceEqDiff, Nat.reduceLeDiff, Nat.reduceLT, Int.reduceAdd, Int.reduceSub, Int.reduceMul, Int.reduceNeg, Int.reduceLT, Int.reduceLE, Int.reduceEq, Int.reduceNe, Int.reduceToNat, UInt8.reduceToNat, reduceCtorEq, and_true, true_and, decide_true, decide_false, hi', hi2, e]
    refine condC_split (fun g => ?_) (fun g => ?_) <;> simp only [go_sem, Nat.reduceAdd, Nat.reduceMul, Nat.reduceSub, Nat.reduceEqDiff, Nat.reduceLeDiff, Nat.reduceLT, Int.reduceAdd, Int.reduceSub, Int.reduceMul, Int.reduceNeg, Int.reduceLT, Int.reduceLE, Int.reduceEq, Int.reduceNe, Int.reduceToNat, UInt8.reduceToNat, reduceCtorEq, and_true, true_and, decide_true, decide_false]
    · rw [hall, hd]; simp at g; simp [g]
    · rw [w_succ i (by omega)]
      exact ih _ _ _ (by omega) ⟨i + 1, rfl, by omega, rfl, rfl, by rw [hall, hd]; simp at g; simp [g]⟩
  · have hi' : a.values.length ≤ i := by simp at h; omega
    rw [hall, List.drop_eq_nil_of_le hi', List.drop_eq_nil_of_le (by omega)]; simp [sameVs]
def bareE (e : GEvent) : Bool := decide (e.packet = GPacket.zero) && decide (e.msg = GMsg.zero) && sameF e.frame GFrame.zero
set_option maxHeartbeats 4000000 in
theorem bare_ok (e : GEvent) (h : wfE e) : (lim0 E).pure 27 [e.pv] = some (.bool (bareE e)) := by
  have e1 := headSame_ok e.packet GPacket.zero h.pprops h.wprops h.filters h.codes
  have e2 := frameSame_ok e.frame GFrame.zero h.values h.nvalues
  refine pure_of (0) ?_; rw [go_27]; unfold Tryz.f27; simp only [go_sem, Nat.reduceAdd, Nat.reduceMul, Nat.reduceSub, Nat.reduceEqDiff, Nat.reduceLeDiff, Nat.reduceLT, Int.reduceAdd, Int.reduceSub, Int.reduceMul, Int.reduceNeg, Int.reduceLT, Int.reduceLE, Int.reduceEq, Int.reduceNe, Int.reduceToNat, UInt8.reduceToNat, reduceCtorEq, and_true, true_and, decide_true, decide_false, e1]
  repeat' (first | (refine grdC_split (fun h => ?_) (fun h => ?_) <;> try simp only [go_sem, Nat.reduceAdd, Nat.reduceMul, Nat.reduceSub, Nat.reduceEqDiff, Nat.reduceLeDiff, Nat.reduceLT, Int.reduceAdd, Int.reduceSub, Int.reduceMul, Int.reduceNeg, Int.reduceLT, Int.reduceLE, Int.reduceEq, Int.reduceNe, Int.reduceToNat, UInt8.reduceToNat, reduceCtorEq, and_true, true_and, decide_true, decide_false, e1, e2]) | (refine condC_split (fun h => ?_) (fun h => ?_) <;> try simp only [go_sem, Nat.reduceAdd, Nat.reduceMul, Nat.reduceSub, Nat.reduceEqDiff, Nat.reduceLeDiff, Nat.reduceLT, Int.reduceAdd, Int.reduceSub, Int.reduceMul, Int.reduceNeg, Int.reduceLT, Int.reduceLE, Int.reduceEq, Int.reduceNe, Int.reduceToNat, UInt8.reduceToNat, reduceCtorEq, and_true, true_and, decide_true, decide_false, e1, e2]) | (refine bcond_eq (fun h => ?_) (fun h => ?_) <;> try simp only [go_sem, Nat.reduceAdd, Nat.reduceMul, Nat.reduceSub, Nat.reduceEqDiff, Nat.reduceLeDiff, Nat.reduceLT, Int.reduceAdd, Int.reduceSub, Int.reduceMul, Int.reduceNeg, Int.reduceLT, Int.reduceLE, Int.reduceEq, Int.reduceNe, Int.reduceToNat, UInt8.reduceToNat, reduceCtorEq, and_true, true_and, decide_true, decide_false, e1, e2]))
  all_goals (clear e1 e2; simp_all [bareE])
def idxR (r : Int) : Int := if r = 43 then 0 else if r = 35 then 1 else -1
def isI (x : Option PV) (n : Int) : Bool := match x with | some (.int .i64 m) => decide (m = n) | _ => false
theorem isI_ok {x : Option PV} {n : Int} (h : isI x n = true) : x = some (.int .i64 n) := by
  unfold isI at h
  split at h
  · simp at h; rw [h]
  · cases h
theorem ir_small : (List.range 128).all (fun k => isI ((callN E 20).pure 76 [.str [43, 35], .int .i32 (k : Int)]) (idxR k)) = true := by kernel_rfl
theorem ir_bad : (callN E 20).pure 76 [.str [43, 35], .int .i32 65533] = some (.int .i64 (-1)) := by kernel_rfl
@[go_sem] theorem validRune_ok (r : Int) : (lim0 E).pure 113 [.int .i32 r] = some (.bool (Utf8.valid r)) := by
  refine pure_of (0) ?_; rw [go_113]; unfold Tryz.f113; simp only [go_sem, Nat.reduceAdd, Nat.reduceMul, Nat.reduceSub, Nat.reduceEqDiff, Nat.reduceLeDiff, Nat.reduceLT, Int.reduceAdd, Int.reduceSub, Int.reduceMul, Int.reduceNeg, Int.reduceLT, Int.reduceLE, Int.reduceEq, Int.reduceNe, Int.reduceToNat, UInt8.reduceToNat, reduceCtorEq, and_true, true_and, decide_true, decide_false]
  repeat' (first | (refine grdC_split (fun h => ?_) (fun h => ?_) <;> try simp only [go_sem, Nat.reduceAdd, Nat.reduceMul, Nat.reduceSub, Nat.reduceEqDiff, Nat.reduceLeDiff, Nat.reduceLT, Int.reduceAdd, Int.reduceSub, Int.reduceMul, Int.reduceNeg, Int.reduceLT, Int.reduceLE, Int.reduceEq, Int.reduceNe, Int.reduceToNat, UInt8.reduceToNat, reduceCtorEq, and_true, true_and, decide_true, decide_false]) | (refine condC_split (fun h => ?_) (fun h => ?_) <;> try simp only [go_sem, Nat.reduceAdd, Nat.reduceMul, Nat.reduceSub, Nat.reduceEqDiff, Nat.reduceLeDiff, Nat.reduceLT, Int.reduceAdd, Int.reduceSub, Int.reduceMul, Int.reduceNeg, Int.reduceLT, Int.reduceLE, Int.reduceEq, Int.reduceNe, Int.reduceToNat, UInt8.reduceToNat, reduceCtorEq, and_true, true_and, decide_true, decide_false]) | (refine bcond_eq (fun h => ?_) (fun h => ?_) <;> try simp only [go_sem, Nat.reduceAdd, Nat.reduceMul, Nat.reduceSub, Nat.reduceEqDiff, Nat.reduceLeDiff, Nat.reduceLT, Int.reduceAdd, Int.reduceSub, Int.reduceMul, Int.reduceNeg, Int.reduceLT, Int.reduceLE, Int.reduceEq, Int.reduceNe, Int.reduceToNat, UInt8.reduceToNat, reduceCtorEq, and_true, true_and, decide_true, decide_false]))
  all_goals (refine sb ?_; simp [Utf8.valid] at *; try omega)
@[go_sem] theorem indexByte2_ok (s : List UInt8) (b : Int) : (lim0 E).pure 146 [.str s, .int .u8 b] = some (.int .i64 (findB s b)) := by
  refine pure_of (0) ?_; rw [go_146]; unfold Tryz.f146; simp only [go_sem, Nat.reduceAdd, Nat.reduceMul, Nat.reduceSub, Nat.reduceEqDiff, Nat.reduceLeDiff, Nat.reduceLT, Int.reduceAdd, Int.reduceSub, Int.reduceMul, Int.reduceNeg, Int.reduceLT, Int.reduceLE, Int.reduceEq, Int.reduceNe, Int.reduceToNat, UInt8.reduceToNat, reduceCtorEq, and_true, true_and, decide_true, decide_false]
@[go_sem] theorem indexByte_ok (s : List UInt8) (b : Int) : (lim0 E).pure 112 [.str s, .int .u8 b] = some (.int .i64 (findB s b)) := by
  refine pure_of (0) ?_; rw [go_112]; unfold Tryz.f112; simp only [go_sem, Nat.reduceAdd, Nat.reduceMul, Nat.reduceSub, Nat.reduceEqDiff, Nat.reduceLeDiff, Nat.reduceLT, Int.reduceAdd, Int.reduceSub, Int.reduceMul, Int.reduceNeg, Int.reduceLT, Int.reduceLE, Int.reduceEq, Int.reduceNe, Int.reduceToNat, UInt8.reduceToNat, reduceCtorEq, and_true, true_and, decide_true, decide_false]
set_option maxHeartbeats 4000000 in
theorem indexRune_ok (r : Int) (h0 : 0 ≤ r) : (lim0 E).pure 76 [.str [43, 35], .int .i32 r] = some (.int .i64 (idxR r)) := by
  rcases Int.lt_or_le r 128 with h1 | h1
  · have := List.all_eq_true.1 ir_small r.toNat (by simp; omega)
    rw [Int.toNat_of_nonneg h0] at this
    exact (callN_le 20).pure _ _ _ (isI_ok this)
  have hi : idxR r = -1 := by unfold idxR; rw [if_neg (by omega), if_neg (by omega)]
  rcases Decidable.em (r = 65533) with h2 | h2
  · subst h2; exact (callN_le 20).pure _ _ _ ir_bad
  rw [hi]
  have hlt : ¬ r < 128 := by omega
  have hL := enc_last r h1
  refine pure_of (3) ?_; rw [go_76]; unfold Tryz.f76; simp only [go_sem, Nat.reduceAdd, Nat.reduceMul, Nat.reduceSub, Nat.reduceEqDiff, Nat.reduceLeDiff, Nat.reduceLT, Int.reduceAdd, Int.reduceSub, Int.reduceMul, Int.reduceNeg, Int.reduceLT, Int.reduceLE, Int.reduceEq, Int.reduceNe, Int.reduceToNat, UInt8.reduceToNat, reduceCtorEq, and_true, true_and, decide_true, decide_false, h0, hlt, h2]
  refine condC_split (fun hv => ?_) (fun hv => ?_) <;> simp only [go_sem, Nat.reduceAdd, Nat.reduceMul, Nat.reduceSub, Nat.reduceEqDiff, Nat.reduceLeDiff, Nat.reduceLT, Int.reduceAdd, Int.reduceSub, Int.reduceMul, Int.reduceNeg, Int.reduceLT, Int.reduceLE, Int.reduceEq, Int.reduceNe, Int.reduceToNat, UInt8.reduceToNat, reduceCtorEq, and_true, true_and, decide_true, decide_false]
  rcases hL (by simpa using hv) with ⟨b0, b1, hb, h4⟩ | ⟨b0, b1, b2, hb⟩ | ⟨b0, b1, b2, b3, hb⟩
  · have hne : ¬ ((35 : Int) = (b1.toNat : Int)) := by
      rw [UInt8.le_iff_toNat_le] at h4
      have : (128 : UInt8).toNat = 128 := rfl
      omega
    simp only [go_sem, Nat.reduceAdd, Nat.reduceMul, Nat.reduceSub, Nat.reduceEqDiff, Nat.reduceLeDiff, Nat.reduceLT, Int.reduceAdd, Int.reduceSub, Int.reduceMul, Int.reduceNeg, Int.reduceLT, Int.reduceLE, Int.reduceEq, Int.reduceNe, Int.reduceToNat, UInt8.reduceToNat, reduceCtorEq, and_true, true_and, decide_true, decide_false, hb]
    refine (nextC_step 2 _ _ _ _).trans ?_
    simp only [go_sem, Nat.reduceAdd, Nat.reduceMul, Nat.reduceSub, Nat.reduceEqDiff, Nat.reduceLeDiff, Nat.reduceLT, Int.reduceAdd, Int.reduceSub, Int.reduceMul, Int.reduceNeg, Int.reduceLT, Int.reduceLE, Int.reduceEq, Int.reduceNe, Int.reduceToNat, UInt8.reduceToNat, reduceCtorEq, and_true, true_and, decide_true, decide_false, ne_eq, hne, not_false_eq_true]
  · simp only [go_sem, Nat.reduceAdd, Nat.reduceMul, Nat.reduceSub, Nat.reduceEqDiff, Nat.reduceLeDiff, Nat.reduceLT, Int.reduceAdd, Int.reduceSub, Int.reduceMul, Int.reduceNeg, Int.reduceLT, Int.reduceLE, Int.reduceEq, Int.reduceNe, Int.reduceToNat, UInt8.reduceToNat, reduceCtorEq, and_true, true_and, decide_true, decide_false, hb]
    refine (nextC_step 2 _ _ _ _).trans ?_
    simp only [go_sem, Nat.reduceAdd, Nat.reduceMul, Nat.reduceSub, Nat.reduceEqDiff, Nat.reduceLeDiff, Nat.reduceLT, Int.reduceAdd, Int.reduceSub, Int.reduceMul, Int.reduceNeg, Int.reduceLT, Int.reduceLE, Int.reduceEq, Int.reduceNe, Int.reduceToNat, UInt8.reduceToNat, reduceCtorEq, and_true, true_and, decide_true, decide_false]
  · simp only [go_sem, Nat.reduceAdd, Nat.reduceMul, Nat.reduceSub, Nat.reduceEqDiff, Nat.reduceLeDiff, Nat.reduceLT, Int.reduceAdd, Int.reduceSub, Int.reduceMul, Int.reduceNeg, Int.reduceLT, Int.reduceLE, Int.reduceEq, Int.reduceNe, Int.reduceToNat, UInt8.reduceToNat, reduceCtorEq, and_true, true_and, decide_true, decide_false, hb]
    refine (nextC_step 2 _ _ _ _).trans ?_
    simp only [go_sem, Nat.reduceAdd, Nat.reduceMul, Nat.reduceSub, Nat.reduceEqDiff, Nat.reduceLeDiff, Nat.reduceLT, Int.reduceAdd, Int.reduceSub, Int.reduceMul, Int.reduceNeg, Int.reduceLT, Int.reduceLE, Int.reduceEq, Int.reduceNe, Int.reduceToNat, UInt8.reduceToNat, reduceCtorEq, and_true, true_and, decide_true, decide_false]
attribute [go_sem] indexRune_ok
def isW (b : UInt8) : Bool := decide (b = 35) || decide (b = 43)
/-- The set of the two wildcards. -/
def asciiM : List PV := (List.range 256).map fun i => .bool (isW (UInt8.ofNat i))
@[go_sem] theorem asciiM_length : asciiM.length = 256 := by simp [asciiM]
theorem asciiM_get (b : UInt8) : (asciiM.map AV.pv)[b.toNat]? = some (.pv (.bool (isW b))) := by
  have : b.toNat < 256 := UInt8.toNat_lt b
  simp [asciiM, this]
@[go_sem] theorem makeSet_ok : (lim0 E).pure 78 [.str [43, 35]] = some (.tup [.agg asciiM, .bool true]) := (callN_le 20).pure _ _ _ (by kernel_rfl)
@[go_sem] theorem shouldUse_ok (n : Int) : (lim0 E).pure 77 [.int .i64 n] = some (.bool (decide (8 < n))) := by
  refine pure_of (0) ?_; rw [go_77]; unfold Tryz.f77; simp only [go_sem, Nat.reduceAdd, Nat.reduceMul, Nat.reduceSub, Nat.reduceEqDiff, Nat.reduceLeDiff, Nat.reduceLT, Int.reduceAdd, Int.reduceSub, Int.reduceMul, Int.reduceNeg, Int.reduceLT, Int.reduceLE, Int.reduceEq, Int.reduceNe, Int.reduceToNat, UInt8.reduceToNat, reduceCtorEq, and_true, true_and, decide_true, decide_false]
theorem setHas_ok (bases : List Nat) (b : Nat) (x : UInt8) (H : Hp) (hb : H[b]? = some (.cells (asciiM.map AV.pv))) : (lim0 E).shut bases 79 [.ptr b 0, .pv (.int .u8 (x.toNat : Int))] H = some (.pv (.bool (isW x)), H) := by
  have hx : x.toNat < 256 := UInt8.toNat_lt x
  have hg := asciiM_get x
  refine shut_of (0) ?_; rw [go_79]; unfold Tryz.f79; simp only [go_sem, Nat.reduceAdd, Nat.reduceMul, Nat.reduceSub, Nat.reduceEqDiff, Nat.reduceLeDiff, Nat.reduceLT, Int.reduceAdd, Int.reduceSub, Int.reduceMul, Int.reduceNeg, Int.reduceLT, Int.reduceLE, Int.reduceEq, Int.reduceNe, Int.reduceToNat, UInt8.reduceToNat, reduceCtorEq, and_true, true_and, decide_true, decide_false, hb, hx, hg]
/-- The first of the wildcards, by bytes. -/
def byteI : List UInt8 → Nat → Int
  | [], _ => -1
  | b :: bs, pos => if isW b then (pos : Int) else byteI bs (pos + 1)
def runeI (rest : List UInt8) (pos : Nat) : Int :=
  if h : rest = [] then -1 else if 0 ≤ idxR (runeAt rest).1 then (pos : Int) else runeI (rest.drop (runeAt rest).2) (pos + (runeAt rest).2)
termination_by rest.length
decreasing_by
  have := runeAt_pos rest
  have : rest.length ≠ 0 := fun e => h (List.length_eq_zero_iff.1 e)
  simp only [List.length_drop]; omega
def anyI (s : List UInt8) : Int := if 8 < s.length then byteI s 0 else runeI s 0
set_option maxHeartbeats 4000000 in
theorem indexAny_ok (s : List UInt8) (hs : s.length ≤ 9223372036854775807) : (lim0 E).pure 50 [.str s, .str [43, 35]] = some (.int .i64 (anyI s)) := by
  refine pure_of (s.length + 1) ?_; rw [go_50]; unfold Tryz.f50; simp only [go_sem, Nat.reduceAdd, Nat.reduceMul, Nat.reduceSub, Nat.reduceEqDiff, Nat.reduceLeDiff, Nat.reduceLT, Int.reduceAdd, Int.reduceSub, Int.reduceMul, Int.reduceNeg, Int.reduceLT, Int.reduceLE, Int.reduceEq, Int.reduceNe, Int.reduceToNat, UInt8.reduceToNat, reduceCtorEq, and_true, true_and, decide_true, decide_false]
  refine condC_split (fun h8 => ?_) (fun h8 => ?_) <;> simp only [go_sem, Nat.reduceAdd, Nat.reduceMul, Nat.reduceSub, Nat.reduceEqDiff, Nat.reduceLeDiff, Nat.reduceLT, Int.reduceAdd, Int.reduceSub, Int.reduceMul, Int.reduceNeg, Int.reduceLT, Int.reduceLE, Int.reduceEq, Int.reduceNe, Int.reduceToNat, UInt8.reduceToNat, reduceCtorEq, and_true, true_and, decide_true, decide_false]
  · have h8' : 8 < s.length := by simp at h8; omega
    rw [anyI, if_pos h8']
    refine loop_ind (fun j vs H => ∃ i : Nat, j = s.length - i ∧ i ≤ s.length ∧ H = [.cells (asciiM.map AV.pv)] ∧ vs = [.pv (.str s), .ptr 0 0, .pv (.int .i64 i)] ∧ byteI s 0 = byteI (s.drop i) i) s.length ⟨0, by simp, by simp, rfl, rfl, by simp⟩ (by omega) ?_
    rintro j vs H m' ⟨i, hj, hi, rfl, rfl, hall⟩ ih
    simp only [go_sem, Nat.reduceAdd, Nat.reduceMul, Nat.reduceSub, Nat.reduceEqDiff, Nat.reduceLeDiff, Nat.reduceLT, Int.reduceAdd, Int.reduceSub, Int.reduceMul, Int.reduceNeg, Int.reduceLT, Int.reduceLE, Int.reduceEq, Int.reduceNe, Int.reduceToNat, UInt8.reduceToNat, reduceCtorEq, and_true, true_and, decide_true, decide_false]
    refine condC_split (fun h => ?_) (fun h => ?_)
    · have hi' : i < s.length := by simp at h; omega
      have hd : byteI (s.drop i) i = if isW s[i] then (i : Int) else byteI (s.drop (i + 1)) (i + 1) := by rw [List.drop_eq_getElem_cons hi', byteI]
      simp only [go_sem, Nat.reduceAdd, Nat.reduceMul, Nat.reduceSub, Nat.reduceEqDiff, Nat.reduceLeDiff, Nat.reduceLT, Int.reduceAdd, Int.reduceSub, Int.reduceMul, Int.reduceNeg, Int.reduceLT, Int.reduceLE, Int.reduceEq, Int.reduceNe, Int.reduceToNat, UInt8.reduceToNat, reduceCtorEq, and_true, true_and, decide_true, decide_false, hi', setHas_ok]
      refine condC_split (fun g => ?_) (fun g => ?_) <;> simp only [go_sem, Nat.reduceAdd, Nat.reduceMul, Nat.reduceSub, Nat.reduceEqDiff, Nat.reduceLeDiff, Nat.reduceLT, Int.reduceAdd, Int.reduceSub, Int.reduceMul, Int.reduceNeg, Int.reduceLT, Int.reduceLE, Int.reduceEq, Int.reduceNe, Int.reduceToNat, UInt8.reduceToNat, reduceCtorEq, and_true, true_and, decide_true, decide_false]
      · rw [hall, hd, if_pos g]
      · rw [w_succ i (by omega)]
        exact ih _ _ _ (by omega) ⟨i + 1, rfl, by omega, rfl, rfl, by rw [hall, hd, if_neg (by simp [g])]⟩
    · have hi' : s.length ≤ i := by simp at h; omega
      simp only [go_sem, Nat.reduceAdd, Nat.reduceMul, Nat.reduceSub, Nat.reduceEqDiff, Nat.reduceLeDiff, Nat.reduceLT, Int.reduceAdd, Int.reduceSub, Int.reduceMul, Int.reduceNeg, Int.reduceLT, Int.reduceLE, Int.reduceEq, Int.reduceNe, Int.reduceToNat, UInt8.reduceToNat, reduceCtorEq, and_true, true_and, decide_true, decide_false]
      rw [hall, List.drop_eq_nil_of_le hi', byteI]
  · have h8' : ¬ 8 < s.length := by simp at h8; omega
    rw [anyI, if_neg h8']
    refine loop_ind (fun j vs H => ∃ (rest : List UInt8) (pos : Nat), j = rest.length ∧ H = [.sit rest pos] ∧ vs = [.pv (.str [43, 35]), .ptr 0 0] ∧ runeI s 0 = runeI rest pos) s.length ⟨s, 0, rfl, rfl, rfl, rfl⟩ (by omega) ?_
    rintro j vs H m' ⟨rest, pos, hj, rfl, rfl, hall⟩ ih
    by_cases h0 : rest = []
    · subst h0
      simp only [go_sem, Nat.reduceAdd, Nat.reduceMul, Nat.reduceSub, Nat.reduceEqDiff, Nat.reduceLeDiff, Nat.reduceLT, Int.reduceAdd, Int.reduceSub, Int.reduceMul, Int.reduceNeg, Int.reduceLT, Int.reduceLE, Int.reduceEq, Int.reduceNe, Int.reduceToNat, UInt8.reduceToNat, reduceCtorEq, and_true, true_and, decide_true, decide_false]
      rw [hall, runeI, dif_pos rfl]
    · have hl : rest.length ≠ 0 := fun e => h0 (List.length_eq_zero_iff.1 e)
      have hw := runeAt_pos rest
      have hb : runeI rest pos = if 0 ≤ idxR (runeAt rest).1 then (pos : Int) else runeI (rest.drop (runeAt rest).2) (pos + (runeAt rest).2) := by rw [runeI, dif_neg h0]
      have e := indexRune_ok ((runeAt rest).1 : Int) (by omega)
      simp only [go_sem, Nat.reduceAdd, Nat.reduceMul, Nat.reduceSub, Nat.reduceEqDiff, Nat.reduceLeDiff, Nat.reduceLT, Int.reduceAdd, Int.reduceSub, Int.reduceMul, Int.reduceNeg, Int.reduceLT, Int.reduceLE, Int.reduceEq, Int.reduceNe, Int.reduceToNat, UInt8.reduceToNat, reduceCtorEq, and_true, true_and, decide_true, decide_false, nextS_cons h0, e]
      refine condC_split (fun g => ?_) (fun g => ?_) <;> simp only [go_sem, Nat.reduceAdd, Nat.reduceMul, Nat.reduceSub, Nat.reduceEqDiff, Nat.reduceLeDiff, Nat.reduceLT, Int.reduceAdd, Int.reduceSub, Int.reduceMul, Int.reduceNeg, Int.reduceLT, Int.reduceLE, Int.reduceEq, Int.reduceNe, Int.reduceToNat, UInt8.reduceToNat, reduceCtorEq, and_true, true_and, decide_true, decide_false]
      · rw [hall, hb, if_pos (by simpa using g)]
      · refine ih _ _ _ (by simp only [List.length_drop]; omega) ⟨_, _, rfl, rfl, rfl, ?_⟩
        rw [hall, hb, if_neg (by simp at g; omega)]
def wildS (s : List UInt8) : Bool := decide (0 ≤ anyI s)
@[go_sem] theorem containsAny_ok (s : List UInt8) (hs : s.length ≤ 9223372036854775807) : (lim0 E).pure 36 [.str s, .str [43, 35]] = some (.bool (wildS s)) := by
  have e := indexAny_ok s hs
  refine pure_of (0) ?_; rw [go_36]; unfold Tryz.f36; simp only [go_sem, Nat.reduceAdd, Nat.reduceMul, Nat.reduceSub, Nat.reduceEqDiff, Nat.reduceLeDiff, Nat.reduceLT, Int.reduceAdd, Int.reduceSub, Int.reduceMul, Int.reduceNeg, Int.reduceLT, Int.reduceLE, Int.reduceEq, Int.reduceNe, Int.reduceToNat, UInt8.reduceToNat, reduceCtorEq, and_true, true_and, decide_true, decide_false, e]
  rfl
def nameT (s : List UInt8) : Bool := textT s && !wildS s
@[go_sem] theorem topicName_ok (s : List UInt8) (hs : s.length ≤ 9223372036854775807) : (lim0 E).pure 16 [.str s] = some (.bool (nameT s)) := by
  have e := containsAny_ok s hs
  refine pure_of (0) ?_; rw [go_16]; unfold Tryz.f16; simp only [go_sem, Nat.reduceAdd, Nat.reduceMul, Nat.reduceSub, Nat.reduceEqDiff, Nat.reduceLeDiff, Nat.reduceLT, Int.reduceAdd, Int.reduceSub, Int.reduceMul, Int.reduceNeg, Int.reduceLT, Int.reduceLE, Int.reduceEq, Int.reduceNe, Int.reduceToNat, UInt8.reduceToNat, reduceCtorEq, and_true, true_and, decide_true, decide_false]
  refine grdC_split (fun h => ?_) (fun h => ?_) <;> simp only [go_sem, Nat.reduceAdd, Nat.reduceMul, Nat.reduceSub, Nat.reduceEqDiff, Nat.reduceLeDiff, Nat.reduceLT, Int.reduceAdd, Int.reduceSub, Int.reduceMul, Int.reduceNeg, Int.reduceLT, Int.reduceLE, Int.reduceEq, Int.reduceNe, Int.reduceToNat, UInt8.reduceToNat, reduceCtorEq, and_true, true_and, decide_true, decide_false, e]
  · refine sb ?_; simp [nameT, h]
  · refine sb ?_; simp [nameT, h]
/-- The byte of a number at a place, from the lowest on. -/
def byteN (n : Int) (i : Nat) : UInt8 := if i < 8 then UInt8.ofNat (IntKind.u8.wrap (n.fdiv (2 ^ (min (8 * i) 64)))).toNat else 0
theorem byteN_toNat (n : Int) (i : Nat) (h : i < 8) : ((byteN n i).toNat : Int) = IntKind.u8.wrap (n.fdiv (2 ^ (min (8 * i) 64))) := by
  unfold byteN
  rw [if_pos h]
  have : 0 ≤ IntKind.u8.wrap (n.fdiv (2 ^ (min (8 * i) 64))) ∧ IntKind.u8.wrap (n.fdiv (2 ^ (min (8 * i) 64))) ≤ 255 := by
    rw [IntKind.wrap_u8]; omega
  rw [UInt8.toNat_ofNat']
  omega
/-- The bytes, so many places done. -/
def putI (n : Int) (size k : Nat) : List UInt8 := (List.range size).map fun p => if size - 1 - p < k then byteN n (size - 1 - p) else 0
def putL (n : Int) (size : Nat) : List UInt8 := putI n size size
theorem putI_length (n : Int) (size k : Nat) : (putI n size k).length = size := by simp [putI]
theorem putI_zero (n : Int) (size : Nat) : putI n size 0 = List.replicate size 0 := by
  unfold putI
  rw [List.eq_replicate_iff]
  simp
theorem putI_succ (n : Int) (size i : Nat) (h : i < size) : putI n size (i + 1) = (putI n size i).set (size - 1 - i) (byteN n i) := by
  apply List.ext_getElem?
  intro p
  rw [List.getElem?_set]
  unfold putI
  rcases Nat.lt_or_ge p size with hp | hp
  · simp only [List.getElem?_map, List.getElem?_range hp, Option.map_some, List.length_map, List.length_range]
    by_cases e : size - 1 - i = p
    · subst e
      rw [if_pos rfl, if_pos hp, if_pos (by omega)]
      congr 1
      congr 1
      omega
    · rw [if_neg e]
      congr 1
      by_cases h1 : size - 1 - p < i
      · rw [if_pos h1, if_pos (by omega)]
      · rw [if_neg h1, if_neg (by omega)]
  · rw [List.getElem?_eq_none (by simp; omega), if_neg (by omega), List.getElem?_eq_none (by simp; omega)]
theorem putI_high (n : Int) (size i : Nat) (h : 8 ≤ i) : putI n size (i + 1) = putI n size i := by
  unfold putI
  apply List.map_congr_left
  intro p _
  by_cases h1 : size - 1 - p < i
  · rw [if_pos h1, if_pos (by omega)]
  · rw [if_neg h1]
    by_cases h2 : size - 1 - p < i + 1
    · rw [if_pos h2, byteN, if_neg (by omega)]
    · rw [if_neg h2]
def avB (bs : List UInt8) : List AV := bs.map fun x => .pv (.int .u8 x.toNat)
theorem avB_set (bs : List UInt8) (p : Nat) (b : UInt8) (h : p < bs.length) : (avB bs).take p ++ [AV.pv (.int .u8 (b.toNat : Int))] ++ (avB bs).drop (p + 1) = avB (bs.set p b) := by
  unfold avB
  rw [List.map_set, List.set_eq_take_append_cons_drop, if_pos (by simpa using h)]
  simp
@[go_sem] theorem avB_length (bs : List UInt8) : (avB bs).length = bs.length := by simp [avB]
@[go_sem] theorem avB_noOwn (bs : List UInt8) (n : Nat) : noOwn ((avB bs).drop n) = true := noOwn_drop n _ (by
  unfold avB; induction bs with | nil => rfl | cons x xs ih => exact ih)
set_option maxHeartbeats 4000000 in
theorem put_ok' (n size : Int) (h : 0 < size) (sz : Nat) (hsz : (if 16 < size then 16 else size) = (sz : Int)) : (lim0 E).pure 95 [.int .u64 n, .int .i64 size] = some (.str (putL n sz)) := by
  have h1 : 0 < sz ∧ sz ≤ 16 := by split at hsz <;> omega
  have hn : ¬ size ≤ 0 := by omega
  have hmk := mk_sl (E := E) (t := 106) (e := 5) kd_106 sz_5 by_5 ag_5 ze_5 [] .i64 .i64 (sz : Int) (sz : Int) (by omega) (by omega) (by simp [room]; omega) (by omega)
  have hz : avB (putI n sz 0) = List.replicate sz (AV.pv (.int .u8 0)) := by rw [putI_zero, avB, List.map_replicate]; rfl
  refine pure_of (sz + 1) ?_; rw [go_95]; unfold Tryz.f95; simp only [go_sem, Nat.reduceAdd, Nat.reduceMul, Nat.reduceSub, Nat.reduceEqDiff, Nat.reduceLeDiff, Nat.reduceLT, Int.reduceAdd, Int.reduceSub, Int.reduceMul, Int.reduceNeg, Int.reduceLT, Int.reduceLE, Int.reduceEq, Int.reduceNe, Int.reduceToNat, UInt8.reduceToNat, reduceCtorEq, and_true, true_and, decide_true, decide_false, hn, hsz, hmk]
  refine loop_ind (fun j vs H => ∃ i : Nat, j = sz - i ∧ i ≤ sz ∧ H = [.cells (avB (putI n sz i))] ∧ vs = [.pv (.int .u64 n), .pv (.int .i64 sz), .msl 0 0 sz sz 1 false, .pv (.int .i64 sz), .pv (.int .i64 i)]) sz ⟨0, by simp, by simp, by rw [hz], rfl⟩ (by omega) ?_
  rintro j vs H m' ⟨i, hj, hi, rfl, rfl⟩ ih
  simp only [go_sem, Nat.reduceAdd, Nat.reduceMul, Nat.reduceSub, Nat.reduceEqDiff, Nat.reduceLeDiff, Nat.reduceLT, Int.reduceAdd, Int.reduceSub, Int.reduceMul, Int.reduceNeg, Int.reduceLT, Int.reduceLE, Int.reduceEq, Int.reduceNe, Int.reduceToNat, UInt8.reduceToNat, reduceCtorEq, and_true, true_and, decide_true, decide_false]
  refine condC_split (fun h => ?_) (fun h => ?_) <;> simp only [go_sem, Nat.reduceAdd, Nat.reduceMul, Nat.reduceSub, Nat.reduceEqDiff, Nat.reduceLeDiff, Nat.reduceLT, Int.reduceAdd, Int.reduceSub, Int.reduceMul, Int.reduceNeg, Int.reduceLT, Int.reduceLE, Int.reduceEq, Int.reduceNe, Int.reduceToNat, UInt8.reduceToNat, reduceCtorEq, and_true, true_and, decide_true, decide_false]
  · have hi' : i < sz := by simp at h; omega
    refine condC_split (fun h8 => ?_) (fun h8 => ?_)
    · have h8' : i < 8 := by simp at h8; omega
      have e1 : IntKind.i64.wrap (IntKind.i64.wrap ((sz : Int) - 1) - (i : Int)) = ((sz - 1 - i : Nat) : Int) := by rw [w_in (n := (sz : Int) - 1) (by omega) (by omega), w_in (by omega) (by omega)]; omega
      have e2 : IntKind.u64.wrap (IntKind.i64.wrap (8 * (i : Int))) = ((8 * i : Nat) : Int) := by rw [w_in (by omega) (by omega), IntKind.wrap_u64]; omega
      have e3 : (0 : Int) ≤ ((8 * i : Nat) : Int) := by omega
      have e4 := byteN_toNat n i h8'
      have e5 : Nat.ble (sz - 1 - i + 1) sz = true := by simp; omega
      have e6 := im_sl (E := E) (t := 106) (e := 5) kd_106 sz_5 0 0 sz sz false .i64 (sz - 1 - i) (by omega)
      have e7 := avB_set (putI n sz i) (sz - 1 - i) (byteN n i) (by rw [putI_length]; omega)
      rw [← putI_succ n sz i hi'] at e7
      simp only [go_sem, Nat.reduceAdd, Nat.reduceMul, Nat.reduceSub, Nat.reduceEqDiff, Nat.reduceLeDiff, Nat.reduceLT, Int.reduceAdd, Int.reduceSub, Int.reduceMul, Int.reduceNeg, Int.reduceLT, Int.reduceLE, Int.reduceEq, Int.reduceNe, Int.reduceToNat, UInt8.reduceToNat, reduceCtorEq, and_true, true_and, decide_true, decide_false, e1, e2, e3, ← e4, e5, e6, putI_length, e7]
      rw [w_succ i (by omega)]
      exact ih _ _ _ (by omega) ⟨i + 1, rfl, by omega, rfl, rfl⟩
    · have h8' : ¬ i < 8 := by simp at h8; omega
      simp only [go_sem, Nat.reduceAdd, Nat.reduceMul, Nat.reduceSub, Nat.reduceEqDiff, Nat.reduceLeDiff, Nat.reduceLT, Int.reduceAdd, Int.reduceSub, Int.reduceMul, Int.reduceNeg, Int.reduceLT, Int.reduceLE, Int.reduceEq, Int.reduceNe, Int.reduceToNat, UInt8.reduceToNat, reduceCtorEq, and_true, true_and, decide_true, decide_false]
      rw [w_succ i (by omega)]
      exact ih _ _ _ (by omega) ⟨i + 1, rfl, by omega, by rw [putI_high n sz i (by omega)], rfl⟩
  · have hi' : i = sz := by simp at h; omega
    subst hi'
    have e := cvb_msl (E := E) (s := 106) (t := 9) (e := 5) ok_106 kd_106 kd_5 kd_9 [.cells (avB (putI n i i))] 0 i false rfl rfl (putI_length n i i)
    simp only [go_sem, Nat.reduceAdd, Nat.reduceMul, Nat.reduceSub, Nat.reduceEqDiff, Nat.reduceLeDiff, Nat.reduceLT, Int.reduceAdd, Int.reduceSub, Int.reduceMul, Int.reduceNeg, Int.reduceLT, Int.reduceLE, Int.reduceEq, Int.reduceNe, Int.reduceToNat, UInt8.reduceToNat, reduceCtorEq, and_true, true_and, decide_true, decide_false, e]
    rfl
theorem put_ok (n : Int) (size : Nat) (h : 0 < size) (h2 : size ≤ 16) : (lim0 E).pure 95 [.int .u64 n, .int .i64 (size : Int)] = some (.str (putL n size)) :=
  put_ok' n size (by omega) size (by rw [if_neg (by omega)])
def getS (n : Int) (b : UInt8) : Int := IntKind.u64.wrap (BitVec.ofInt 64 (IntKind.u64.wrap (n * 2 ^ min 8 64)) ||| BitVec.ofInt 64 (IntKind.u64.wrap (b.toNat : Int))).toNat
/-- The number that the last eight bytes are. -/
def getN (s : List UInt8) : Int := (if 8 < s.length then s.drop (s.length - 8) else s).foldl getS 0
set_option maxHeartbeats 4000000 in
@[go_sem] theorem get_ok (s : List UInt8) (hs : s.length ≤ 9223372036854775807) : (lim0 E).pure 51 [.str s] = some (.int .u64 (getN s)) := by
  refine pure_of (9) ?_; rw [go_51]; unfold Tryz.f51; simp only [go_sem, Nat.reduceAdd, Nat.reduceMul, Nat.reduceSub, Nat.reduceEqDiff, Nat.reduceLeDiff, Nat.reduceLT, Int.reduceAdd, Int.reduceSub, Int.reduceMul, Int.reduceNeg, Int.reduceLT, Int.reduceLE, Int.reduceEq, Int.reduceNe, Int.reduceToNat, UInt8.reduceToNat, reduceCtorEq, and_true, true_and, decide_true, decide_false]
  refine condC_split (fun h => ?_) (fun h => ?_)
  · have h' : 8 < s.length := by simp at h; omega
    have e1 : IntKind.i64.wrap ((s.length : Int) - 8) = ((s.length - 8 : Nat) : Int) := by rw [w_in (by omega) (by omega)]; omega
    have e2 : s.length - 8 ≤ s.length := by omega
    simp only [go_sem, Nat.reduceAdd, Nat.reduceMul, Nat.reduceSub, Nat.reduceEqDiff, Nat.reduceLeDiff, Nat.reduceLT, Int.reduceAdd, Int.reduceSub, Int.reduceMul, Int.reduceNeg, Int.reduceLT, Int.reduceLE, Int.reduceEq, Int.reduceNe, Int.reduceToNat, UInt8.reduceToNat, reduceCtorEq, and_true, true_and, decide_true, decide_false, e1, e2]
    have hg : getN s = (s.drop (s.length - 8)).foldl getS 0 := by rw [getN, if_pos h']
    have hl : (s.drop (s.length - 8)).length ≤ 8 := by simp; omega
    rw [hg]
    generalize s.drop (s.length - 8) = t at hl ⊢
    refine loop_ind (fun j vs H => ∃ (i : Nat) (n : Int), j = t.length - i ∧ i ≤ t.length ∧ H = [] ∧ vs = [.pv (.str t), .pv (.int .u64 n), .pv (.int .i64 t.length), .pv (.int .i64 i)] ∧ t.foldl getS 0 = (t.drop i).foldl getS n) t.length ⟨0, 0, by simp, by simp, rfl, rfl, by simp⟩ (by omega) ?_
    rintro j vs H m' ⟨i, n, hj, hi, rfl, rfl, hall⟩ ih
    simp only [go_sem, Nat.reduceAdd, Nat.reduceMul, Nat.reduceSub, Nat.reduceEqDiff, Nat.reduceLeDiff, Nat.reduceLT, Int.reduceAdd, Int.reduceSub, Int.reduceMul, Int.reduceNeg, Int.reduceLT, Int.reduceLE, Int.reduceEq, Int.reduceNe, Int.reduceToNat, UInt8.reduceToNat, reduceCtorEq, and_true, true_and, decide_true, decide_false]
    refine condC_split (fun h => ?_) (fun h => ?_)
    · have hi' : i < t.length := by simp at h; omega
      have hd : (t.drop i).foldl getS n = (t.drop (i + 1)).foldl getS (getS n t[i]) := by rw [List.drop_eq_getElem_cons hi', List.foldl_cons]
      simp only [go_sem, Nat.reduceAdd, Nat.reduceMul, Nat.reduceSub, Nat.reduceEqDiff, Nat.reduceLeDiff, Nat.reduceLT, Int.reduceAdd, Int.reduceSub, Int.reduceMul, Int.reduceNeg, Int.reduceLT, Int.reduceLE, Int.reduceEq, Int.reduceNe, Int.reduceToNat, UInt8.reduceToNat, reduceCtorEq, and_true, true_and, decide_true, decide_false, hi']
      rw [w_succ i (by omega)]
      exact ih _ _ _ (by omega) ⟨i + 1, _, rfl, by omega, rfl, rfl, by rw [hall, hd]; rfl⟩
    · have hi' : t.length ≤ i := by simp at h; omega
      simp only [go_sem, Nat.reduceAdd, Nat.reduceMul, Nat.reduceSub, Nat.reduceEqDiff, Nat.reduceLeDiff, Nat.reduceLT, Int.reduceAdd, Int.reduceSub, Int.reduceMul, Int.reduceNeg, Int.reduceLT, Int.reduceLE, Int.reduceEq, Int.reduceNe, Int.reduceToNat, UInt8.reduceToNat, reduceCtorEq, and_true, true_and, decide_true, decide_false]
      rw [hall, List.drop_eq_nil_of_le hi']; rfl
  · have h' : ¬ 8 < s.length := by simp at h; omega
    simp only [go_sem, Nat.reduceAdd, Nat.reduceMul, Nat.reduceSub, Nat.reduceEqDiff, Nat.reduceLeDiff, Nat.reduceLT, Int.reduceAdd, Int.reduceSub, Int.reduceMul, Int.reduceNeg, Int.reduceLT, Int.reduceLE, Int.reduceEq, Int.reduceNe, Int.reduceToNat, UInt8.reduceToNat, reduceCtorEq, and_true, true_and, decide_true, decide_false]
    have hg : getN s = s.foldl getS 0 := by rw [getN, if_neg h']
    rw [hg]
    refine loop_ind (fun j vs H => ∃ (i : Nat) (n : Int), j = s.length - i ∧ i ≤ s.length ∧ H = [] ∧ vs = [.pv (.str s), .pv (.int .u64 n), .pv (.int .i64 s.length), .pv (.int .i64 i)] ∧ s.foldl getS 0 = (s.drop i).foldl getS n) s.length ⟨0, 0, by simp, by simp, rfl, rfl, by simp⟩ (by omega) ?_
    rintro j vs H m' ⟨i, n, hj, hi, rfl, rfl, hall⟩ ih
    simp only [go_sem, Nat.reduceAdd, Nat.reduceMul, Nat.reduceSub, Nat.reduceEqDiff, Nat.reduceLeDiff, Nat.reduceLT, Int.reduceAdd, Int.reduceSub, Int.reduceMul, Int.reduceNeg, Int.reduceLT, Int.reduceLE, Int.reduceEq, Int.reduceNe, Int.reduceToNat, UInt8.reduceToNat, reduceCtorEq, and_true, true_and, decide_true, decide_false]
    refine condC_split (fun h => ?_) (fun h => ?_)
    · have hi' : i < s.length := by simp at h; omega
      have hd : (s.drop i).foldl getS n = (s.drop (i + 1)).foldl getS (getS n s[i]) := by rw [List.drop_eq_getElem_cons hi', List.foldl_cons]
      simp only [go_sem, Nat.reduceAdd, Nat.reduceMul, Nat.reduceSub, Nat.reduceEqDiff, Nat.reduceLeDiff, Nat.reduceLT, Int.reduceAdd, Int.reduceSub, Int.reduceMul, Int.reduceNeg, Int.reduceLT, Int.reduceLE, Int.reduceEq, Int.reduceNe, Int.reduceToNat, UInt8.reduceToNat, reduceCtorEq, and_true, true_and, decide_true, decide_false, hi']
      rw [w_succ i (by omega)]
      exact ih _ _ _ (by omega) ⟨i + 1, _, rfl, by omega, rfl, rfl, by rw [hall, hd]; rfl⟩
    · have hi' : s.length ≤ i := by simp at h; omega
      simp only [go_sem, Nat.reduceAdd, Nat.reduceMul, Nat.reduceSub, Nat.reduceEqDiff, Nat.reduceLeDiff, Nat.reduceLT, Int.reduceAdd, Int.reduceSub, Int.reduceMul, Int.reduceNeg, Int.reduceLT, Int.reduceLE, Int.reduceEq, Int.reduceNe, Int.reduceToNat, UInt8.reduceToNat, reduceCtorEq, and_true, true_and, decide_true, decide_false]
      rw [hall, List.drop_eq_nil_of_le hi']; rfl
@[go_sem] theorem hopRight_ok (h : GHop) : (lim0 E).pure 83 [h.pv] = some (.bool (decide (0 ≤ h.radius ∧ h.radius ≤ 3 ∧ 1 ≤ h.node.length ∧ h.node.length ≤ 32))) := by
  refine pure_of (0) ?_; rw [go_83]; unfold Tryz.f83; simp only [go_sem, Nat.reduceAdd, Nat.reduceMul, Nat.reduceSub, Nat.reduceEqDiff, Nat.reduceLeDiff, Nat.reduceLT, Int.reduceAdd, Int.reduceSub, Int.reduceMul, Int.reduceNeg, Int.reduceLT, Int.reduceLE, Int.reduceEq, Int.reduceNe, Int.reduceToNat, UInt8.reduceToNat, reduceCtorEq, and_true, true_and, decide_true, decide_false]
  repeat' (first | (refine grdC_split (fun h => ?_) (fun h => ?_) <;> try simp only [go_sem, Nat.reduceAdd, Nat.reduceMul, Nat.reduceSub, Nat.reduceEqDiff, Nat.reduceLeDiff, Nat.reduceLT, Int.reduceAdd, Int.reduceSub, Int.reduceMul, Int.reduceNeg, Int.reduceLT, Int.reduceLE, Int.reduceEq, Int.reduceNe, Int.reduceToNat, UInt8.reduceToNat, reduceCtorEq, and_true, true_and, decide_true, decide_false]) | (refine condC_split (fun h => ?_) (fun h => ?_) <;> try simp only [go_sem, Nat.reduceAdd, Nat.reduceMul, Nat.reduceSub, Nat.reduceEqDiff, Nat.reduceLeDiff, Nat.reduceLT, Int.reduceAdd, Int.reduceSub, Int.reduceMul, Int.reduceNeg, Int.reduceLT, Int.reduceLE, Int.reduceEq, Int.reduceNe, Int.reduceToNat, UInt8.reduceToNat, reduceCtorEq, and_true, true_and, decide_true, decide_false]) | (refine bcond_eq (fun h => ?_) (fun h => ?_) <;> try simp only [go_sem, Nat.reduceAdd, Nat.reduceMul, Nat.reduceSub, Nat.reduceEqDiff, Nat.reduceLeDiff, Nat.reduceLT, Int.reduceAdd, Int.reduceSub, Int.reduceMul, Int.reduceNeg, Int.reduceLT, Int.reduceLE, Int.reduceEq, Int.reduceNe, Int.reduceToNat, UInt8.reduceToNat, reduceCtorEq, and_true, true_and, decide_true, decide_false]))
  all_goals (refine sb ?_; simp at *; omega)
def hopR (h : GHop) : Bool := decide (0 ≤ h.radius ∧ h.radius ≤ 3 ∧ 1 ≤ h.node.length ∧ h.node.length ≤ 32)
@[go_sem] theorem hopBad_ok (h : GHop) : (lim0 E).pure 82 [h.pv] = some (.bool (!hopR h)) := by
  refine pure_of (0) ?_; rw [go_82]; unfold Tryz.f82; simp only [go_sem, Nat.reduceAdd, Nat.reduceMul, Nat.reduceSub, Nat.reduceEqDiff, Nat.reduceLeDiff, Nat.reduceLT, Int.reduceAdd, Int.reduceSub, Int.reduceMul, Int.reduceNeg, Int.reduceLT, Int.reduceLE, Int.reduceEq, Int.reduceNe, Int.reduceToNat, UInt8.reduceToNat, reduceCtorEq, and_true, true_and, decide_true, decide_false]
  rfl
def shortT (s : List UInt8) : Bool := decide (s.length = 2) && nameT s
@[go_sem] theorem short_ok (s : List UInt8) (hs : s.length ≤ 9223372036854775807) : (lim0 E).pure 37 [.str s] = some (.tup [.int .i64 (if shortT s then IntKind.i64.wrap (getN s) else 0), .bool (shortT s)]) := by
  have e := topicName_ok s hs
  have e2 := get_ok s hs
  refine pure_of (0) ?_; rw [go_37]; unfold Tryz.f37; simp only [go_sem, Nat.reduceAdd, Nat.reduceMul, Nat.reduceSub, Nat.reduceEqDiff, Nat.reduceLeDiff, Nat.reduceLT, Int.reduceAdd, Int.reduceSub, Int.reduceMul, Int.reduceNeg, Int.reduceLT, Int.reduceLE, Int.reduceEq, Int.reduceNe, Int.reduceToNat, UInt8.reduceToNat, reduceCtorEq, and_true, true_and, decide_true, decide_false]
  repeat' (first | (refine grdC_split (fun h => ?_) (fun h => ?_) <;> try simp only [go_sem, Nat.reduceAdd, Nat.reduceMul, Nat.reduceSub, Nat.reduceEqDiff, Nat.reduceLeDiff, Nat.reduceLT, Int.reduceAdd, Int.reduceSub, Int.reduceMul, Int.reduceNeg, Int.reduceLT, Int.reduceLE, Int.reduceEq, Int.reduceNe, Int.reduceToNat, UInt8.reduceToNat, reduceCtorEq, and_true, true_and, decide_true, decide_false, e, e2]) | (refine condC_split (fun h => ?_) (fun h => ?_) <;> try simp only [go_sem, Nat.reduceAdd, Nat.reduceMul, Nat.reduceSub, Nat.reduceEqDiff, Nat.reduceLeDiff, Nat.reduceLT, Int.reduceAdd, Int.reduceSub, Int.reduceMul, Int.reduceNeg, Int.reduceLT, Int.reduceLE, Int.reduceEq, Int.reduceNe, Int.reduceToNat, UInt8.reduceToNat, reduceCtorEq, and_true, true_and, decide_true, decide_false, e, e2]) | (refine bcond_eq (fun h => ?_) (fun h => ?_) <;> try simp only [go_sem, Nat.reduceAdd, Nat.reduceMul, Nat.reduceSub, Nat.reduceEqDiff, Nat.reduceLeDiff, Nat.reduceLT, Int.reduceAdd, Int.reduceSub, Int.reduceMul, Int.reduceNeg, Int.reduceLT, Int.reduceLE, Int.reduceEq, Int.reduceNe, Int.reduceToNat, UInt8.reduceToNat, reduceCtorEq, and_true, true_and, decide_true, decide_false, e, e2]))
  all_goals (clear e e2)
  · have : shortT s = false := by simp [shortT] at *; omega
    simp [this]
  · have : shortT s = false := by simp [shortT] at *; simp_all
    simp [this]
  · have : shortT s = true := by simp [shortT] at *; refine ⟨by omega, ?_⟩; simp_all
    simp [this]
attribute [go_sem] str_add
@[go_sem] theorem putL_length (n : Int) (k : Nat) : (putL n k).length = k := putI_length n k k
theorem put1_ok (n : Int) : (lim0 E).pure 95 [.int .u64 n, .int .i64 1] = some (.str (putL n 1)) := put_ok n 1 (by omega) (by omega)
theorem put2_ok (n : Int) : (lim0 E).pure 95 [.int .u64 n, .int .i64 2] = some (.str (putL n 2)) := put_ok n 2 (by omega) (by omega)
theorem put4_ok (n : Int) : (lim0 E).pure 95 [.int .u64 n, .int .i64 4] = some (.str (putL n 4)) := put_ok n 4 (by omega) (by omega)
attribute [go_sem] put1_ok put2_ok put4_ok
def hopL (h : GHop) : List UInt8 := putL (IntKind.u64.wrap (IntKind.i64.wrap (3 + (h.node.length : Int)))) 1 ++ putL 254 1 ++ putL (IntKind.u64.wrap h.radius) 1 ++ h.node
theorem hopBytes_ok (h : GHop) (hl : h.node.length ≤ 32) : (lim0 E).pure 85 [h.pv] = some (.str (hopL h)) := by
  have hN : 3 + h.node.length ≤ 9223372036854775807 := by omega
  refine pure_of (0) ?_; rw [go_85]; unfold Tryz.f85; simp only [go_sem, Nat.reduceAdd, Nat.reduceMul, Nat.reduceSub, Nat.reduceEqDiff, Nat.reduceLeDiff, Nat.reduceLT, Int.reduceAdd, Int.reduceSub, Int.reduceMul, Int.reduceNeg, Int.reduceLT, Int.reduceLE, Int.reduceEq, Int.reduceNe, Int.reduceToNat, UInt8.reduceToNat, reduceCtorEq, and_true, true_and, decide_true, decide_false, hN]
  rfl
def idxF (l : List GHop) (i : Nat) : Int := match l with | [] => -1 | h :: t => if hopR h then idxF t (i + 1) else (i : Int)
theorem idxF_all : ∀ (l : List GHop) (i : Nat), (0 ≤ idxF l i) ↔ l.all hopR = false
  | [], i => by simp [idxF]
  | h :: t, i => by
    rw [idxF]
    cases e : hopR h with
    | true => simp [idxF_all t (i + 1), e]
    | false => simp [e]
set_option maxHeartbeats 4000000 in
theorem indexHops_ok (bases : List Nat) (H0 : Hp) (l : List GHop) (hl : l.length ≤ 9223372036854775807) : (lim0 E).shut bases 116 [.pv (.lst 2 (List.map GHop.pv l)), .pv (.fn 82)] H0 = some (.pv (.int .i64 (idxF l 0)), H0) := by
  refine shut_of (l.length + 1) ?_; rw [go_116]; unfold Tryz.f116; simp only [go_sem, Nat.reduceAdd, Nat.reduceMul, Nat.reduceSub, Nat.reduceEqDiff, Nat.reduceLeDiff, Nat.reduceLT, Int.reduceAdd, Int.reduceSub, Int.reduceMul, Int.reduceNeg, Int.reduceLT, Int.reduceLE, Int.reduceEq, Int.reduceNe, Int.reduceToNat, UInt8.reduceToNat, reduceCtorEq, and_true, true_and, decide_true, decide_false]
  refine loop_ind (fun j vs H => ∃ i : Nat, j = l.length - i ∧ i ≤ l.length ∧ H = H0 ∧ vs = [.pv (.lst 2 (List.map GHop.pv l)), .pv (.fn 82), .pv (.int .i64 l.length), .pv (.int .i64 i)] ∧ idxF l 0 = idxF (l.drop i) i) l.length ⟨0, by simp, by simp, rfl, rfl, by simp⟩ (by omega) ?_
  rintro j vs H m' ⟨i, hj, hi, rfl, rfl, hall⟩ ih
  simp only [go_sem, Nat.reduceAdd, Nat.reduceMul, Nat.reduceSub, Nat.reduceEqDiff, Nat.reduceLeDiff, Nat.reduceLT, Int.reduceAdd, Int.reduceSub, Int.reduceMul, Int.reduceNeg, Int.reduceLT, Int.reduceLE, Int.reduceEq, Int.reduceNe, Int.reduceToNat, UInt8.reduceToNat, reduceCtorEq, and_true, true_and, decide_true, decide_false]
  refine condC_split (fun h => ?_) (fun h => ?_)
  · have hi' : i < l.length := by simp at h; omega
    have hd : idxF (l.drop i) i = if hopR l[i] then idxF (l.drop (i + 1)) (i + 1) else (i : Int) := by rw [List.drop_eq_getElem_cons hi', idxF]
    simp only [go_sem, Nat.reduceAdd, Nat.reduceMul, Nat.reduceSub, Nat.reduceEqDiff, Nat.reduceLeDiff, Nat.reduceLT, Int.reduceAdd, Int.reduceSub, Int.reduceMul, Int.reduceNeg, Int.reduceLT, Int.reduceLE, Int.reduceEq, Int.reduceNe, Int.reduceToNat, UInt8.reduceToNat, reduceCtorEq, and_true, true_and, decide_true, decide_false, hi']
    refine condC_split (fun g => ?_) (fun g => ?_) <;> simp only [go_sem, Nat.reduceAdd, Nat.reduceMul, Nat.reduceSub, Nat.reduceEqDiff, Nat.reduceLeDiff, Nat.reduceLT, Int.reduceAdd, Int.reduceSub, Int.reduceMul, Int.reduceNeg, Int.reduceLT, Int.reduceLE, Int.reduceEq, Int.reduceNe, Int.reduceToNat, UInt8.reduceToNat, reduceCtorEq, and_true, true_and, decide_true, decide_false]
    · rw [hall, hd, if_neg (by simpa using g)]
    · rw [w_succ i (by omega)]
      exact ih _ _ _ (by omega) ⟨i + 1, rfl, by omega, rfl, rfl, by rw [hall, hd, if_pos (by simpa using g)]⟩
  · have hi' : l.length ≤ i := by simp at h; omega
    simp only [go_sem, Nat.reduceAdd, Nat.reduceMul, Nat.reduceSub, Nat.reduceEqDiff, Nat.reduceLeDiff, Nat.reduceLT, Int.reduceAdd, Int.reduceSub, Int.reduceMul, Int.reduceNeg, Int.reduceLT, Int.reduceLE, Int.reduceEq, Int.reduceNe, Int.reduceToNat, UInt8.reduceToNat, reduceCtorEq, and_true, true_and, decide_true, decide_false]
    rw [hall, List.drop_eq_nil_of_le hi', idxF]
theorem containsHops_ok (bases : List Nat) (H0 : Hp) (l : List GHop) (hl : l.length ≤ 9223372036854775807) : (lim0 E).shut bases 81 [.pv (.lst 2 (List.map GHop.pv l)), .pv (.fn 82)] H0 = some (.pv (.bool (!l.all hopR)), H0) := by
  have e := fun b H => indexHops_ok b H l hl
  refine shut_of (0) ?_; rw [go_81]; unfold Tryz.f81; simp only [go_sem, Nat.reduceAdd, Nat.reduceMul, Nat.reduceSub, Nat.reduceEqDiff, Nat.reduceLeDiff, Nat.reduceLT, Int.reduceAdd, Int.reduceSub, Int.reduceMul, Int.reduceNeg, Int.reduceLT, Int.reduceLE, Int.reduceEq, Int.reduceNe, Int.reduceToNat, UInt8.reduceToNat, reduceCtorEq, and_true, true_and, decide_true, decide_false, e]
  have h2 := idxF_all l 0
  have : decide (0 ≤ idxF l 0) = (!l.all hopR) := by rw [Bool.eq_iff_iff]; simp only [decide_eq_true_eq, h2]; simp
  rw [this]
def pongM : GMsg := { GMsg.zero with ty := 23 }
@[go_sem] theorem pong_ok : (lim0 E).pure 84 [GMsg.pv pongM] = some (.tup [.str [2, 23], .int .i64 0]) := (callN_le 100).pure _ _ _ (by kernel_rfl)
@[go_sem] theorem right_ok (l : GLimits) : (lim0 E).pure 80 [l.pv] = some (.bool (decide (16 ≤ l.maxpacket ∧ l.maxpacket ≤ 1048576 ∧ 0 ≤ l.maxdepth ∧ l.maxdepth ≤ 32))) := by
  refine pure_of (0) ?_; rw [go_80]; unfold Tryz.f80; simp only [go_sem, Nat.reduceAdd, Nat.reduceMul, Nat.reduceSub, Nat.reduceEqDiff, Nat.reduceLeDiff, Nat.reduceLT, Int.reduceAdd, Int.reduceSub, Int.reduceMul, Int.reduceNeg, Int.reduceLT, Int.reduceLE, Int.reduceEq, Int.reduceNe, Int.reduceToNat, UInt8.reduceToNat, reduceCtorEq, and_true, true_and, decide_true, decide_false]
  repeat' (first | (refine grdC_split (fun h => ?_) (fun h => ?_) <;> try simp only [go_sem, Nat.reduceAdd, Nat.reduceMul, Nat.reduceSub, Nat.reduceEqDiff, Nat.reduceLeDiff, Nat.reduceLT, Int.reduceAdd, Int.reduceSub, Int.reduceMul, Int.reduceNeg, Int.reduceLT, Int.reduceLE, Int.reduceEq, Int.reduceNe, Int.reduceToNat, UInt8.reduceToNat, reduceCtorEq, and_true, true_and, decide_true, decide_false]) | (refine condC_split (fun h => ?_) (fun h => ?_) <;> try simp only [go_sem, Nat.reduceAdd, Nat.reduceMul, Nat.reduceSub, Nat.reduceEqDiff, Nat.reduceLeDiff, Nat.reduceLT, Int.reduceAdd, Int.reduceSub, Int.reduceMul, Int.reduceNeg, Int.reduceLT, Int.reduceLE, Int.reduceEq, Int.reduceNe, Int.reduceToNat, UInt8.reduceToNat, reduceCtorEq, and_true, true_and, decide_true, decide_false]) | (refine bcond_eq (fun h => ?_) (fun h => ?_) <;> try simp only [go_sem, Nat.reduceAdd, Nat.reduceMul, Nat.reduceSub, Nat.reduceEqDiff, Nat.reduceLeDiff, Nat.reduceLT, Int.reduceAdd, Int.reduceSub, Int.reduceMul, Int.reduceNeg, Int.reduceLT, Int.reduceLE, Int.reduceEq, Int.reduceNe, Int.reduceToNat, UInt8.reduceToNat, reduceCtorEq, and_true, true_and, decide_true, decide_false]))
  all_goals (refine sb ?_; simp at *; omega)
def greatL : GLimits := ⟨1048576, 32⟩
@[go_sem] theorem greatest_ok : (lim0 E).pure 39 [] = some greatL.pv := (callN_le 10).pure _ _ _ (by kernel_rfl)
def pongE (hops : List GHop) : Int := if 4 < hops.length then 12 else if hops.all hopR then 0 else 2
theorem hopL_length (h : GHop) (k : hopR h = true) : (hopL h).length ≤ 35 := by
  simp [hopR] at k
  simp [hopL, putL_length]
  omega
set_option maxHeartbeats 4000000 in
theorem snwrapPong_ok (hops : List GHop) (hl : hops.length ≤ 9223372036854775807) : (lim0 E).pure 52 [GDatagram.pv ⟨hops, pongM⟩, greatL.pv] = some (.tup [.str (if pongE hops = 0 then hops.flatMap hopL ++ [2, 23] else []), .int .i64 (pongE hops)]) := by
  have e := fun b H => containsHops_ok b H hops hl
  refine pure_of (hops.length + 1) ?_; rw [go_52]; unfold Tryz.f52; simp only [go_sem, Nat.reduceAdd, Nat.reduceMul, Nat.reduceSub, Nat.reduceEqDiff, Nat.reduceLeDiff, Nat.reduceLT, Int.reduceAdd, Int.reduceSub, Int.reduceMul, Int.reduceNeg, Int.reduceLT, Int.reduceLE, Int.reduceEq, Int.reduceNe, Int.reduceToNat, UInt8.reduceToNat, reduceCtorEq, and_true, true_and, decide_true, decide_false, greatL]
  refine condC_split (fun h => ?_) (fun h => ?_) <;> simp only [go_sem, Nat.reduceAdd, Nat.reduceMul, Nat.reduceSub, Nat.reduceEqDiff, Nat.reduceLeDiff, Nat.reduceLT, Int.reduceAdd, Int.reduceSub, Int.reduceMul, Int.reduceNeg, Int.reduceLT, Int.reduceLE, Int.reduceEq, Int.reduceNe, Int.reduceToNat, UInt8.reduceToNat, reduceCtorEq, and_true, true_and, decide_true, decide_false, e]
  · have : pongE hops = 12 := by rw [pongE, if_pos (by simp at h; omega)]
    simp [this]
  have h4 : ¬ 4 < hops.length := by simp at h; omega
  refine condC_split (fun h => ?_) (fun h => ?_)
  · simp only [go_sem, Nat.reduceAdd, Nat.reduceMul, Nat.reduceSub, Nat.reduceEqDiff, Nat.reduceLeDiff, Nat.reduceLT, Int.reduceAdd, Int.reduceSub, Int.reduceMul, Int.reduceNeg, Int.reduceLT, Int.reduceLE, Int.reduceEq, Int.reduceNe, Int.reduceToNat, UInt8.reduceToNat, reduceCtorEq, and_true, true_and, decide_true, decide_false]
    have : pongE hops = 2 := by rw [pongE, if_neg h4, if_neg (by simpa using h)]
    simp [this]
  have hall : hops.all hopR = true := by simpa using h
  have hp : pongE hops = 0 := by rw [pongE, if_neg h4, if_pos hall]
  rw [hp, if_pos rfl]
  simp only [go_sem, Nat.reduceAdd, Nat.reduceMul, Nat.reduceSub, Nat.reduceEqDiff, Nat.reduceLeDiff, Nat.reduceLT, Int.reduceAdd, Int.reduceSub, Int.reduceMul, Int.reduceNeg, Int.reduceLT, Int.reduceLE, Int.reduceEq, Int.reduceNe, Int.reduceToNat, UInt8.reduceToNat, reduceCtorEq, and_true, true_and, decide_true, decide_false]
  have hlen : ∀ l : List GHop, l.all hopR = true → (l.flatMap hopL).length ≤ 35 * l.length := by
    intro l
    induction l with
    | nil => simp
    | cons x xs ih =>
      intro hx
      simp only [List.all_cons, Bool.and_eq_true] at hx
      have := hopL_length x hx.1
      have := ih hx.2
      simp only [List.flatMap_cons, List.length_append, List.length_cons]
      omega
  have htot := hlen hops hall
  refine loop_ind (fun j vs H => ∃ (i : Nat) (out : List UInt8), j = hops.length - i ∧ i ≤ hops.length ∧ H = [.cells (GDatagram.mk hops pongM).avs, .cells (GLimits.mk 1048576 32).avs] ∧ vs = [.ptr 1 0, .pv (.str [2, 23]), .pv (.str out), .pv (.lst 2 (List.map GHop.pv hops)), .pv (.int .i64 hops.length), .pv (.int .i64 i)] ∧ hops.flatMap hopL = out ++ (hops.drop i).flatMap hopL) hops.length ⟨0, [], by simp, by simp, rfl, rfl, by simp⟩ (by omega) ?_
  rintro j vs H m' ⟨i, out, hj, hi, rfl, rfl, hout⟩ ih
  have hol : out.length ≤ 140 := by
    have := congrArg List.length hout
    simp only [List.length_append] at this
    omega
  simp only [go_sem, Nat.reduceAdd, Nat.reduceMul, Nat.reduceSub, Nat.reduceEqDiff, Nat.reduceLeDiff, Nat.reduceLT, Int.reduceAdd, Int.reduceSub, Int.reduceMul, Int.reduceNeg, Int.reduceLT, Int.reduceLE, Int.reduceEq, Int.reduceNe, Int.reduceToNat, UInt8.reduceToNat, reduceCtorEq, and_true, true_and, decide_true, decide_false]
  refine condC_split (fun h => ?_) (fun h => ?_)
  · have hi' : i < hops.length := by simp at h; omega
    have hd : (hops.drop i).flatMap hopL = hopL hops[i] ++ (hops.drop (i + 1)).flatMap hopL := by rw [List.drop_eq_getElem_cons hi', List.flatMap_cons]
    have hr : hopR hops[i] = true := List.all_eq_true.1 hall _ (List.getElem_mem hi')
    have hh := hopBytes_ok hops[i] (by simp [hopR] at hr; omega)
    have hb : out.length + (hopL hops[i]).length ≤ 9223372036854775807 := by have := hopL_length _ hr; omega
    simp only [go_sem, Nat.reduceAdd, Nat.reduceMul, Nat.reduceSub, Nat.reduceEqDiff, Nat.reduceLeDiff, Nat.reduceLT, Int.reduceAdd, Int.reduceSub, Int.reduceMul, Int.reduceNeg, Int.reduceLT, Int.reduceLE, Int.reduceEq, Int.reduceNe, Int.reduceToNat, UInt8.reduceToNat, reduceCtorEq, and_true, true_and, decide_true, decide_false, hi', hh, hb]
    rw [w_succ i (by omega)]
    exact ih _ _ _ (by omega) ⟨i + 1, _, rfl, by omega, rfl, rfl, by rw [hout, hd, List.append_assoc]⟩
  · have hi' : hops.length ≤ i := by simp at h; omega
    have ho : hops.flatMap hopL = out := by rw [hout, List.drop_eq_nil_of_le hi']; simp
    have e1 : IntKind.i64.wrap ((out.length : Int) + 2) = (out.length : Int) + 2 := w_in (by omega) (by omega)
    have e2 : ¬ (1048576 : Int) < (out.length : Int) + 2 := by omega
    have e3 : out.length + 2 ≤ 9223372036854775807 := by omega
    simp only [go_sem, Nat.reduceAdd, Nat.reduceMul, Nat.reduceSub, Nat.reduceEqDiff, Nat.reduceLeDiff, Nat.reduceLT, Int.reduceAdd, Int.reduceSub, Int.reduceMul, Int.reduceNeg, Int.reduceLT, Int.reduceLE, Int.reduceEq, Int.reduceNe, Int.reduceToNat, UInt8.reduceToNat, reduceCtorEq, and_true, true_and, decide_true, decide_false, e1, e2, e3]
    rw [ho]
theorem checkPong_ok (hops : List GHop) (hl : hops.length ≤ 9223372036854775807) : (lim0 E).pure 38 [GDatagram.pv ⟨hops, pongM⟩, greatL.pv] = some (.int .i64 (pongE hops)) := by
  have e := snwrapPong_ok hops hl
  refine pure_of (0) ?_; rw [go_38]; unfold Tryz.f38; simp only [go_sem, Nat.reduceAdd, Nat.reduceMul, Nat.reduceSub, Nat.reduceEqDiff, Nat.reduceLeDiff, Nat.reduceLT, Int.reduceAdd, Int.reduceSub, Int.reduceMul, Int.reduceNeg, Int.reduceLT, Int.reduceLE, Int.reduceEq, Int.reduceNe, Int.reduceToNat, UInt8.reduceToNat, reduceCtorEq, and_true, true_and, decide_true, decide_false, e]
def typedE (e : GEvent) : Bool := decide (0 ≤ e.ty ∧ e.ty ≤ 2) && (decide (e.ty ≠ 2) || shortT e.topic) && decide (pongE e.hops = 0)
set_option maxHeartbeats 4000000 in
theorem typed_ok (e : GEvent) (h : wfE e) : (lim0 E).pure 23 [e.pv] = some (.bool (typedE e)) := by
  have e1 := short_ok e.topic h.topic
  have e2 := checkPong_ok e.hops h.hops
  rw [pongM] at e2
  refine pure_of (0) ?_; rw [go_23]; unfold Tryz.f23; simp only [go_sem, Nat.reduceAdd, Nat.reduceMul, Nat.reduceSub, Nat.reduceEqDiff, Nat.reduceLeDiff, Nat.reduceLT, Int.reduceAdd, Int.reduceSub, Int.reduceMul, Int.reduceNeg, Int.reduceLT, Int.reduceLE, Int.reduceEq, Int.reduceNe, Int.reduceToNat, UInt8.reduceToNat, reduceCtorEq, and_true, true_and, decide_true, decide_false, e1]
  repeat' (first | (refine grdC_split (fun h => ?_) (fun h => ?_) <;> try simp only [go_sem, Nat.reduceAdd, Nat.reduceMul, Nat.reduceSub, Nat.reduceEqDiff, Nat.reduceLeDiff, Nat.reduceLT, Int.reduceAdd, Int.reduceSub, Int.reduceMul, Int.reduceNeg, Int.reduceLT, Int.reduceLE, Int.reduceEq, Int.reduceNe, Int.reduceToNat, UInt8.reduceToNat, reduceCtorEq, and_true, true_and, decide_true, decide_false, e1, e2]) | (refine condC_split (fun h => ?_) (fun h => ?_) <;> try simp only [go_sem, Nat.reduceAdd, Nat.reduceMul, Nat.reduceSub, Nat.reduceEqDiff, Nat.reduceLeDiff, Nat.reduceLT, Int.reduceAdd, Int.reduceSub, Int.reduceMul, Int.reduceNeg, Int.reduceLT, Int.reduceLE, Int.reduceEq, Int.reduceNe, Int.reduceToNat, UInt8.reduceToNat, reduceCtorEq, and_true, true_and, decide_true, decide_false, e1, e2]) | (refine bcond_eq (fun h => ?_) (fun h => ?_) <;> try simp only [go_sem, Nat.reduceAdd, Nat.reduceMul, Nat.reduceSub, Nat.reduceEqDiff, Nat.reduceLeDiff, Nat.reduceLT, Int.reduceAdd, Int.reduceSub, Int.reduceMul, Int.reduceNeg, Int.reduceLT, Int.reduceLE, Int.reduceEq, Int.reduceNe, Int.reduceToNat, UInt8.reduceToNat, reduceCtorEq, and_true, true_and, decide_true, decide_false, e1, e2]))
  all_goals (clear e1 e2; refine sb ?_; simp only [typedE, Bool.and_eq_true, Bool.or_eq_true, decide_eq_true_eq, decide_eq_false_iff_not, Bool.not_eq_true', Bool.not_eq_false', Bool.false_eq_true, false_iff] at *; grind)
theorem sbH {a b : Bool} {H : Hp} (h : a = true ↔ b = true) : some (AV.pv (.bool a), H) = some (AV.pv (.bool b), H) := by rw [Bool.eq_iff_iff.2 h]
def b1 (e : GEvent) : Bool := !decide (1 ≤ e.proto ∧ e.proto ≤ 4) || decide (e.kind ≠ 1)
def b2 (e : GEvent) : Bool := !nameT e.topic
def b3 (e : GEvent) (sn : Bool) : Bool := !decide (0 ≤ e.qos ∧ e.qos ≤ 2) && !(sn && decide (e.qos = -1))
def b4 (e : GEvent) (acked : Bool) : Bool := !decide (0 ≤ e.id ∧ e.id ≤ 65535) || (acked != decide (e.id ≠ 0))
def b5 (e : GEvent) (acked sn : Bool) : Bool := e.dup && !acked && !sn
def b6 (e : GEvent) : Bool := decide (0 < e.props.length) && decide (e.proto ≠ 2)
def b7 (e : GEvent) (sn : Bool) : Bool := (sn && !typedE e) || (!sn && (decide (e.ty ≠ 0) || decide (0 < e.hops.length)))
def b8 (e : GEvent) : Bool := !decide (0 ≤ e.channel ∧ e.channel ≤ 65535)
def b9 (e : GEvent) : Bool := decide (e.channel ≠ 0) && decide (e.proto ≠ 4)
def b10 (e : GEvent) : Bool := !bareE e
set_option maxHeartbeats 4000000 in
theorem rule1_ok (bases : List Nat) (H : Hp) (e : GEvent) (pe : Nat) (h : wfE e) (he : H[pe]? = some (.cells e.avs)) : (lim0 E).shut bases 13 [.ptr pe 0] H = some (.pv (.bool (b1 e)), H) := by
  refine shut_of (0) ?_; rw [go_13]; unfold Tryz.f13; simp only [go_sem, Nat.reduceAdd, Nat.reduceMul, Nat.reduceSub, Nat.reduceEqDiff, Nat.reduceLeDiff, Nat.reduceLT, Int.reduceAdd, Int.reduceSub, Int.reduceMul, Int.reduceNeg, Int.reduceLT, Int.reduceLE, Int.reduceEq, Int.reduceNe, Int.reduceToNat, UInt8.reduceToNat, reduceCtorEq, and_true, true_and, decide_true, decide_false, he]
  all_goals repeat' (first | (refine grdC_split (fun h => ?_) (fun h => ?_) <;> try simp only [go_sem, Nat.reduceAdd, Nat.reduceMul, Nat.reduceSub, Nat.reduceEqDiff, Nat.reduceLeDiff, Nat.reduceLT, Int.reduceAdd, Int.reduceSub, Int.reduceMul, Int.reduceNeg, Int.reduceLT, Int.reduceLE, Int.reduceEq, Int.reduceNe, Int.reduceToNat, UInt8.reduceToNat, reduceCtorEq, and_true, true_and, decide_true, decide_false, he]) | (refine condC_split (fun h => ?_) (fun h => ?_) <;> try simp only [go_sem, Nat.reduceAdd, Nat.reduceMul, Nat.reduceSub, Nat.reduceEqDiff, Nat.reduceLeDiff, Nat.reduceLT, Int.reduceAdd, Int.reduceSub, Int.reduceMul, Int.reduceNeg, Int.reduceLT, Int.reduceLE, Int.reduceEq, Int.reduceNe, Int.reduceToNat, UInt8.reduceToNat, reduceCtorEq, and_true, true_and, decide_true, decide_false, he]) | (refine bcond_eq (fun h => ?_) (fun h => ?_) <;> try simp only [go_sem, Nat.reduceAdd, Nat.reduceMul, Nat.reduceSub, Nat.reduceEqDiff, Nat.reduceLeDiff, Nat.reduceLT, Int.reduceAdd, Int.reduceSub, Int.reduceMul, Int.reduceNeg, Int.reduceLT, Int.reduceLE, Int.reduceEq, Int.reduceNe, Int.reduceToNat, UInt8.reduceToNat, reduceCtorEq, and_true, true_and, decide_true, decide_false, he]))
  all_goals first
    | rfl
    | (clear he; refine sbH ?_; simp only [b1, Bool.and_eq_true, Bool.or_eq_true, decide_eq_true_eq, decide_eq_false_iff_not, Bool.not_eq_true', Bool.not_eq_false', Bool.false_eq_true, false_iff, true_iff, bne_iff_ne, ne_eq] at *; grind)
    | trace_state
set_option maxHeartbeats 4000000 in
theorem rule2_ok (bases : List Nat) (H : Hp) (e : GEvent) (pe : Nat) (h : wfE e) (he : H[pe]? = some (.cells e.avs)) : (lim0 E).shut bases 15 [.ptr pe 0] H = some (.pv (.bool (b2 e)), H) := by
  have hx := topicName_ok _ h.topic
  refine shut_of (0) ?_; rw [go_15]; unfold Tryz.f15; simp only [go_sem, Nat.reduceAdd, Nat.reduceMul, Nat.reduceSub, Nat.reduceEqDiff, Nat.reduceLeDiff, Nat.reduceLT, Int.reduceAdd, Int.reduceSub, Int.reduceMul, Int.reduceNeg, Int.reduceLT, Int.reduceLE, Int.reduceEq, Int.reduceNe, Int.reduceToNat, UInt8.reduceToNat, reduceCtorEq, and_true, true_and, decide_true, decide_false, he, hx]
  all_goals repeat' (first | (refine grdC_split (fun h => ?_) (fun h => ?_) <;> try simp only [go_sem, Nat.reduceAdd, Nat.reduceMul, Nat.reduceSub, Nat.reduceEqDiff, Nat.reduceLeDiff, Nat.reduceLT, Int.reduceAdd, Int.reduceSub, Int.reduceMul, Int.reduceNeg, Int.reduceLT, Int.reduceLE, Int.reduceEq, Int.reduceNe, Int.reduceToNat, UInt8.reduceToNat, reduceCtorEq, and_true, true_and, decide_true, decide_false, he, hx]) | (refine condC_split (fun h => ?_) (fun h => ?_) <;> try simp only [go_sem, Nat.reduceAdd, Nat.reduceMul, Nat.reduceSub, Nat.reduceEqDiff, Nat.reduceLeDiff, Nat.reduceLT, Int.reduceAdd, Int.reduceSub, Int.reduceMul, Int.reduceNeg, Int.reduceLT, Int.reduceLE, Int.reduceEq, Int.reduceNe, Int.reduceToNat, UInt8.reduceToNat, reduceCtorEq, and_true, true_and, decide_true, decide_false, he, hx]) | (refine bcond_eq (fun h => ?_) (fun h => ?_) <;> try simp only [go_sem, Nat.reduceAdd, Nat.reduceMul, Nat.reduceSub, Nat.reduceEqDiff, Nat.reduceLeDiff, Nat.reduceLT, Int.reduceAdd, Int.reduceSub, Int.reduceMul, Int.reduceNeg, Int.reduceLT, Int.reduceLE, Int.reduceEq, Int.reduceNe, Int.reduceToNat, UInt8.reduceToNat, reduceCtorEq, and_true, true_and, decide_true, decide_false, he, hx]))
  all_goals first
    | rfl
    | (clear he hx; refine sbH ?_; simp only [b2, Bool.and_eq_true, Bool.or_eq_true, decide_eq_true_eq, decide_eq_false_iff_not, Bool.not_eq_true', Bool.not_eq_false', Bool.false_eq_true, false_iff, true_iff, bne_iff_ne, ne_eq] at *; grind)
    | trace_state
set_option maxHeartbeats 4000000 in
theorem rule3_ok (bases : List Nat) (H : Hp) (e : GEvent) (pe : Nat) (psn : Nat) (sn : Bool) (h : wfE e) (he : H[pe]? = some (.cells e.avs)) (hsn : H[psn]? = some (.cells [.pv (.bool sn)])) : (lim0 E).shut bases 17 [.ptr pe 0, .ptr psn 0] H = some (.pv (.bool (b3 e sn)), H) := by
  refine shut_of (0) ?_; rw [go_17]; unfold Tryz.f17; simp only [go_sem, Nat.reduceAdd, Nat.reduceMul, Nat.reduceSub, Nat.reduceEqDiff, Nat.reduceLeDiff, Nat.reduceLT, Int.reduceAdd, Int.reduceSub, Int.reduceMul, Int.reduceNeg, Int.reduceLT, Int.reduceLE, Int.reduceEq, Int.reduceNe, Int.reduceToNat, UInt8.reduceToNat, reduceCtorEq, and_true, true_and, decide_true, decide_false, he, hsn]
  all_goals repeat' (first | (refine grdC_split (fun h => ?_) (fun h => ?_) <;> try simp only [go_sem, Nat.reduceAdd, Nat.reduceMul, Nat.reduceSub, Nat.reduceEqDiff, Nat.reduceLeDiff, Nat.reduceLT, Int.reduceAdd, Int.reduceSub, Int.reduceMul, Int.reduceNeg, Int.reduceLT, Int.reduceLE, Int.reduceEq, Int.reduceNe, Int.reduceToNat, UInt8.reduceToNat, reduceCtorEq, and_true, true_and, decide_true, decide_false, he, hsn]) | (refine condC_split (fun h => ?_) (fun h => ?_) <;> try simp only [go_sem, Nat.reduceAdd, Nat.reduceMul, Nat.reduceSub, Nat.reduceEqDiff, Nat.reduceLeDiff, Nat.reduceLT, Int.reduceAdd, Int.reduceSub, Int.reduceMul, Int.reduceNeg, Int.reduceLT, Int.reduceLE, Int.reduceEq, Int.reduceNe, Int.reduceToNat, UInt8.reduceToNat, reduceCtorEq, and_true, true_and, decide_true, decide_false, he, hsn]) | (refine bcond_eq (fun h => ?_) (fun h => ?_) <;> try simp only [go_sem, Nat.reduceAdd, Nat.reduceMul, Nat.reduceSub, Nat.reduceEqDiff, Nat.reduceLeDiff, Nat.reduceLT, Int.reduceAdd, Int.reduceSub, Int.reduceMul, Int.reduceNeg, Int.reduceLT, Int.reduceLE, Int.reduceEq, Int.reduceNe, Int.reduceToNat, UInt8.reduceToNat, reduceCtorEq, and_true, true_and, decide_true, decide_false, he, hsn]))
  all_goals first
    | rfl
    | (clear he hsn; refine sbH ?_; simp only [b3, Bool.and_eq_true, Bool.or_eq_true, decide_eq_true_eq, decide_eq_false_iff_not, Bool.not_eq_true', Bool.not_eq_false', Bool.false_eq_true, false_iff, true_iff, bne_iff_ne, ne_eq] at *; grind)
    | trace_state
set_option maxHeartbeats 4000000 in
theorem rule4_ok (bases : List Nat) (H : Hp) (e : GEvent) (pe : Nat) (pac : Nat) (ac : Bool) (h : wfE e) (he : H[pe]? = some (.cells e.avs)) (hac : H[pac]? = some (.cells [.pv (.bool ac)])) : (lim0 E).shut bases 19 [.ptr pe 0, .ptr pac 0] H = some (.pv (.bool (b4 e ac)), H) := by
  refine shut_of (0) ?_; rw [go_19]; unfold Tryz.f19; simp only [go_sem, Nat.reduceAdd, Nat.reduceMul, Nat.reduceSub, Nat.reduceEqDiff, Nat.reduceLeDiff, Nat.reduceLT, Int.reduceAdd, Int.reduceSub, Int.reduceMul, Int.reduceNeg, Int.reduceLT, Int.reduceLE, Int.reduceEq, Int.reduceNe, Int.reduceToNat, UInt8.reduceToNat, reduceCtorEq, and_true, true_and, decide_true, decide_false, he, hac]
  all_goals repeat' (first | (refine grdC_split (fun h => ?_) (fun h => ?_) <;> try simp only [go_sem, Nat.reduceAdd, Nat.reduceMul, Nat.reduceSub, Nat.reduceEqDiff, Nat.reduceLeDiff, Nat.reduceLT, Int.reduceAdd, Int.reduceSub, Int.reduceMul, Int.reduceNeg, Int.reduceLT, Int.reduceLE, Int.reduceEq, Int.reduceNe, Int.reduceToNat, UInt8.reduceToNat, reduceCtorEq, and_true, true_and, decide_true, decide_false, he, hac]) | (refine condC_split (fun h => ?_) (fun h => ?_) <;> try simp only [go_sem, Nat.reduceAdd, Nat.reduceMul, Nat.reduceSub, Nat.reduceEqDiff, Nat.reduceLeDiff, Nat.reduceLT, Int.reduceAdd, Int.reduceSub, Int.reduceMul, Int.reduceNeg, Int.reduceLT, Int.reduceLE, Int.reduceEq, Int.reduceNe, Int.reduceToNat, UInt8.reduceToNat, reduceCtorEq, and_true, true_and, decide_true, decide_false, he, hac]) | (refine bcond_eq (fun h => ?_) (fun h => ?_) <;> try simp only [go_sem, Nat.reduceAdd, Nat.reduceMul, Nat.reduceSub, Nat.reduceEqDiff, Nat.reduceLeDiff, Nat.reduceLT, Int.reduceAdd, Int.reduceSub, Int.reduceMul, Int.reduceNeg, Int.reduceLT, Int.reduceLE, Int.reduceEq, Int.reduceNe, Int.reduceToNat, UInt8.reduceToNat, reduceCtorEq, and_true, true_and, decide_true, decide_false, he, hac]))
  all_goals first
    | rfl
    | (clear he hac; refine sbH ?_; simp only [b4, Bool.and_eq_true, Bool.or_eq_true, decide_eq_true_eq, decide_eq_false_iff_not, Bool.not_eq_true', Bool.not_eq_false', Bool.false_eq_true, false_iff, true_iff, bne_iff_ne, ne_eq] at *; grind)
    | trace_state
set_option maxHeartbeats 4000000 in
theorem rule5_ok (bases : List Nat) (H : Hp) (e : GEvent) (pe : Nat) (pac : Nat) (psn : Nat) (ac : Bool) (sn : Bool) (h : wfE e) (he : H[pe]? = some (.cells e.avs)) (hac : H[pac]? = some (.cells [.pv (.bool ac)])) (hsn : H[psn]? = some (.cells [.pv (.bool sn)])) : (lim0 E).shut bases 20 [.ptr pe 0, .ptr pac 0, .ptr psn 0] H = some (.pv (.bool (b5 e ac sn)), H) := by
  refine shut_of (0) ?_; rw [go_20]; unfold Tryz.f20; simp only [go_sem, Nat.reduceAdd, Nat.reduceMul, Nat.reduceSub, Nat.reduceEqDiff, Nat.reduceLeDiff, Nat.reduceLT, Int.reduceAdd, Int.reduceSub, Int.reduceMul, Int.reduceNeg, Int.reduceLT, Int.reduceLE, Int.reduceEq, Int.reduceNe, Int.reduceToNat, UInt8.reduceToNat, reduceCtorEq, and_true, true_and, decide_true, decide_false, he, hac, hsn]
  all_goals repeat' (first | (refine grdC_split (fun h => ?_) (fun h => ?_) <;> try simp only [go_sem, Nat.reduceAdd, Nat.reduceMul, Nat.reduceSub, Nat.reduceEqDiff, Nat.reduceLeDiff, Nat.reduceLT, Int.reduceAdd, Int.reduceSub, Int.reduceMul, Int.reduceNeg, Int.reduceLT, Int.reduceLE, Int.reduceEq, Int.reduceNe, Int.reduceToNat, UInt8.reduceToNat, reduceCtorEq, and_true, true_and, decide_true, decide_false, he, hac, hsn]) | (refine condC_split (fun h => ?_) (fun h => ?_) <;> try simp only [go_sem, Nat.reduceAdd, Nat.reduceMul, Nat.reduceSub, Nat.reduceEqDiff, Nat.reduceLeDiff, Nat.reduceLT, Int.reduceAdd, Int.reduceSub, Int.reduceMul, Int.reduceNeg, Int.reduceLT, Int.reduceLE, Int.reduceEq, Int.reduceNe, Int.reduceToNat, UInt8.reduceToNat, reduceCtorEq, and_true, true_and, decide_true, decide_false, he, hac, hsn]) | (refine bcond_eq (fun h => ?_) (fun h => ?_) <;> try simp only [go_sem, Nat.reduceAdd, Nat.reduceMul, Nat.reduceSub, Nat.reduceEqDiff, Nat.reduceLeDiff, Nat.reduceLT, Int.reduceAdd, Int.reduceSub, Int.reduceMul, Int.reduceNeg, Int.reduceLT, Int.reduceLE, Int.reduceEq, Int.reduceNe, Int.reduceToNat, UInt8.reduceToNat, reduceCtorEq, and_true, true_and, decide_true, decide_false, he, hac, hsn]))
  all_goals first
    | rfl
    | (clear he hac hsn; refine sbH ?_; simp only [b5, Bool.and_eq_true, Bool.or_eq_true, decide_eq_true_eq, decide_eq_false_iff_not, Bool.not_eq_true', Bool.not_eq_false', Bool.false_eq_true, false_iff, true_iff, bne_iff_ne, ne_eq] at *; grind)
    | trace_state
set_option maxHeartbeats 4000000 in
theorem rule6_ok (bases : List Nat) (H : Hp) (e : GEvent) (pe : Nat) (h : wfE e) (he : H[pe]? = some (.cells e.avs)) : (lim0 E).shut bases 21 [.ptr pe 0] H = some (.pv (.bool (b6 e)), H) := by
  refine shut_of (0) ?_; rw [go_21]; unfold Tryz.f21; simp only [go_sem, Nat.reduceAdd, Nat.reduceMul, Nat.reduceSub, Nat.reduceEqDiff, Nat.reduceLeDiff, Nat.reduceLT, Int.reduceAdd, Int.reduceSub, Int.reduceMul, Int.reduceNeg, Int.reduceLT, Int.reduceLE, Int.reduceEq, Int.reduceNe, Int.reduceToNat, UInt8.reduceToNat, reduceCtorEq, and_true, true_and, decide_true, decide_false, he]
  all_goals repeat' (first | (refine grdC_split (fun h => ?_) (fun h => ?_) <;> try simp only [go_sem, Nat.reduceAdd, Nat.reduceMul, Nat.reduceSub, Nat.reduceEqDiff, Nat.reduceLeDiff, Nat.reduceLT, Int.reduceAdd, Int.reduceSub, Int.reduceMul, Int.reduceNeg, Int.reduceLT, Int.reduceLE, Int.reduceEq, Int.reduceNe, Int.reduceToNat, UInt8.reduceToNat, reduceCtorEq, and_true, true_and, decide_true, decide_false, he]) | (refine condC_split (fun h => ?_) (fun h => ?_) <;> try simp only [go_sem, Nat.reduceAdd, Nat.reduceMul, Nat.reduceSub, Nat.reduceEqDiff, Nat.reduceLeDiff, Nat.reduceLT, Int.reduceAdd, Int.reduceSub, Int.reduceMul, Int.reduceNeg, Int.reduceLT, Int.reduceLE, Int.reduceEq, Int.reduceNe, Int.reduceToNat, UInt8.reduceToNat, reduceCtorEq, and_true, true_and, decide_true, decide_false, he]) | (refine bcond_eq (fun h => ?_) (fun h => ?_) <;> try simp only [go_sem, Nat.reduceAdd, Nat.reduceMul, Nat.reduceSub, Nat.reduceEqDiff, Nat.reduceLeDiff, Nat.reduceLT, Int.reduceAdd, Int.reduceSub, Int.reduceMul, Int.reduceNeg, Int.reduceLT, Int.reduceLE, Int.reduceEq, Int.reduceNe, Int.reduceToNat, UInt8.reduceToNat, reduceCtorEq, and_true, true_and, decide_true, decide_false, he]))
  all_goals first
    | rfl
    | (clear he; refine sbH ?_; simp only [b6, Bool.and_eq_true, Bool.or_eq_true, decide_eq_true_eq, decide_eq_false_iff_not, Bool.not_eq_true', Bool.not_eq_false', Bool.false_eq_true, false_iff, true_iff, bne_iff_ne, ne_eq] at *; grind)
    | trace_state
set_option maxHeartbeats 4000000 in
theorem rule7_ok (bases : List Nat) (H : Hp) (e : GEvent) (psn : Nat) (pe : Nat) (sn : Bool) (h : wfE e) (hsn : H[psn]? = some (.cells [.pv (.bool sn)])) (he : H[pe]? = some (.cells e.avs)) : (lim0 E).shut bases 22 [.ptr psn 0, .ptr pe 0] H = some (.pv (.bool (b7 e sn)), H) := by
  have hx := typed_ok e h
  refine shut_of (0) ?_; rw [go_22]; unfold Tryz.f22; simp only [go_sem, Nat.reduceAdd, Nat.reduceMul, Nat.reduceSub, Nat.reduceEqDiff, Nat.reduceLeDiff, Nat.reduceLT, Int.reduceAdd, Int.reduceSub, Int.reduceMul, Int.reduceNeg, Int.reduceLT, Int.reduceLE, Int.reduceEq, Int.reduceNe, Int.reduceToNat, UInt8.reduceToNat, reduceCtorEq, and_true, true_and, decide_true, decide_false, hsn, he, hx]
  all_goals repeat' (first | (refine grdC_split (fun h => ?_) (fun h => ?_) <;> try simp only [go_sem, Nat.reduceAdd, Nat.reduceMul, Nat.reduceSub, Nat.reduceEqDiff, Nat.reduceLeDiff, Nat.reduceLT, Int.reduceAdd, Int.reduceSub, Int.reduceMul, Int.reduceNeg, Int.reduceLT, Int.reduceLE, Int.reduceEq, Int.reduceNe, Int.reduceToNat, UInt8.reduceToNat, reduceCtorEq, and_true, true_and, decide_true, decide_false, hsn, he, hx]) | (refine condC_split (fun h => ?_) (fun h => ?_) <;> try simp only [go_sem, Nat.reduceAdd, Nat.reduceMul, Nat.reduceSub, Nat.reduceEqDiff, Nat.reduceLeDiff, Nat.reduceLT, Int.reduceAdd, Int.reduceSub, Int.reduceMul, Int.reduceNeg, Int.reduceLT, Int.reduceLE, Int.reduceEq, Int.reduceNe, Int.reduceToNat, UInt8.reduceToNat, reduceCtorEq, and_true, true_and, decide_true, decide_false, hsn, he, hx]) | (refine bcond_eq (fun h => ?_) (fun h => ?_) <;> try simp only [go_sem, Nat.reduceAdd, Nat.reduceMul, Nat.reduceSub, Nat.reduceEqDiff, Nat.reduceLeDiff, Nat.reduceLT, Int.reduceAdd, Int.reduceSub, Int.reduceMul, Int.reduceNeg, Int.reduceLT, Int.reduceLE, Int.reduceEq, Int.reduceNe, Int.reduceToNat, UInt8.reduceToNat, reduceCtorEq, and_true, true_and, decide_true, decide_false, hsn, he, hx]))
  all_goals first
    | rfl
    | (clear hsn he hx; refine sbH ?_; simp only [b7, Bool.and_eq_true, Bool.or_eq_true, decide_eq_true_eq, decide_eq_false_iff_not, Bool.not_eq_true', Bool.not_eq_false', Bool.false_eq_true, false_iff, true_iff, bne_iff_ne, ne_eq] at *; grind)
    | trace_state
set_option maxHeartbeats 4000000 in
theorem rule8_ok (bases : List Nat) (H : Hp) (e : GEvent) (pe : Nat) (h : wfE e) (he : H[pe]? = some (.cells e.avs)) : (lim0 E).shut bases 24 [.ptr pe 0] H = some (.pv (.bool (b8 e)), H) := by
  refine shut_of (0) ?_; rw [go_24]; unfold Tryz.f24; simp only [go_sem, Nat.reduceAdd, Nat.reduceMul, Nat.reduceSub, Nat.reduceEqDiff, Nat.reduceLeDiff, Nat.reduceLT, Int.reduceAdd, Int.reduceSub, Int.reduceMul, Int.reduceNeg, Int.reduceLT, Int.reduceLE, Int.reduceEq, Int.reduceNe, Int.reduceToNat, UInt8.reduceToNat, reduceCtorEq, and_true, true_and, decide_true, decide_false, he]
  all_goals repeat' (first | (refine grdC_split (fun h => ?_) (fun h => ?_) <;> try simp only [go_sem, Nat.reduceAdd, Nat.reduceMul, Nat.reduceSub, Nat.reduceEqDiff, Nat.reduceLeDiff, Nat.reduceLT, Int.reduceAdd, Int.reduceSub, Int.reduceMul, Int.reduceNeg, Int.reduceLT, Int.reduceLE, Int.reduceEq, Int.reduceNe, Int.reduceToNat, UInt8.reduceToNat, reduceCtorEq, and_true, true_and, decide_true, decide_false, he]) | (refine condC_split (fun h => ?_) (fun h => ?_) <;> try simp only [go_sem, Nat.reduceAdd, Nat.reduceMul, Nat.reduceSub, Nat.reduceEqDiff, Nat.reduceLeDiff, Nat.reduceLT, Int.reduceAdd, Int.reduceSub, Int.reduceMul, Int.reduceNeg, Int.reduceLT, Int.reduceLE, Int.reduceEq, Int.reduceNe, Int.reduceToNat, UInt8.reduceToNat, reduceCtorEq, and_true, true_and, decide_true, decide_false, he]) | (refine bcond_eq (fun h => ?_) (fun h => ?_) <;> try simp only [go_sem, Nat.reduceAdd, Nat.reduceMul, Nat.reduceSub, Nat.reduceEqDiff, Nat.reduceLeDiff, Nat.reduceLT, Int.reduceAdd, Int.reduceSub, Int.reduceMul, Int.reduceNeg, Int.reduceLT, Int.reduceLE, Int.reduceEq, Int.reduceNe, Int.reduceToNat, UInt8.reduceToNat, reduceCtorEq, and_true, true_and, decide_true, decide_false, he]))
  all_goals first
    | rfl
    | (clear he; refine sbH ?_; simp only [b8, Bool.and_eq_true, Bool.or_eq_true, decide_eq_true_eq, decide_eq_false_iff_not, Bool.not_eq_true', Bool.not_eq_false', Bool.false_eq_true, false_iff, true_iff, bne_iff_ne, ne_eq] at *; grind)
    | trace_state
set_option maxHeartbeats 4000000 in
theorem rule9_ok (bases : List Nat) (H : Hp) (e : GEvent) (pe : Nat) (h : wfE e) (he : H[pe]? = some (.cells e.avs)) : (lim0 E).shut bases 25 [.ptr pe 0] H = some (.pv (.bool (b9 e)), H) := by
  refine shut_of (0) ?_; rw [go_25]; unfold Tryz.f25; simp only [go_sem, Nat.reduceAdd, Nat.reduceMul, Nat.reduceSub, Nat.reduceEqDiff, Nat.reduceLeDiff, Nat.reduceLT, Int.reduceAdd, Int.reduceSub, Int.reduceMul, Int.reduceNeg, Int.reduceLT, Int.reduceLE, Int.reduceEq, Int.reduceNe, Int.reduceToNat, UInt8.reduceToNat, reduceCtorEq, and_true, true_and, decide_true, decide_false, he]
  all_goals repeat' (first | (refine grdC_split (fun h => ?_) (fun h => ?_) <;> try simp only [go_sem, Nat.reduceAdd, Nat.reduceMul, Nat.reduceSub, Nat.reduceEqDiff, Nat.reduceLeDiff, Nat.reduceLT, Int.reduceAdd, Int.reduceSub, Int.reduceMul, Int.reduceNeg, Int.reduceLT, Int.reduceLE, Int.reduceEq, Int.reduceNe, Int.reduceToNat, UInt8.reduceToNat, reduceCtorEq, and_true, true_and, decide_true, decide_false, he]) | (refine condC_split (fun h => ?_) (fun h => ?_) <;> try simp only [go_sem, Nat.reduceAdd, Nat.reduceMul, Nat.reduceSub, Nat.reduceEqDiff, Nat.reduceLeDiff, Nat.reduceLT, Int.reduceAdd, Int.reduceSub, Int.reduceMul, Int.reduceNeg, Int.reduceLT, Int.reduceLE, Int.reduceEq, Int.reduceNe, Int.reduceToNat, UInt8.reduceToNat, reduceCtorEq, and_true, true_and, decide_true, decide_false, he]) | (refine bcond_eq (fun h => ?_) (fun h => ?_) <;> try simp only [go_sem, Nat.reduceAdd, Nat.reduceMul, Nat.reduceSub, Nat.reduceEqDiff, Nat.reduceLeDiff, Nat.reduceLT, Int.reduceAdd, Int.reduceSub, Int.reduceMul, Int.reduceNeg, Int.reduceLT, Int.reduceLE, Int.reduceEq, Int.reduceNe, Int.reduceToNat, UInt8.reduceToNat, reduceCtorEq, and_true, true_and, decide_true, decide_false, he]))
  all_goals first
    | rfl
    | (clear he; refine sbH ?_; simp only [b9, Bool.and_eq_true, Bool.or_eq_true, decide_eq_true_eq, decide_eq_false_iff_not, Bool.not_eq_true', Bool.not_eq_false', Bool.false_eq_true, false_iff, true_iff, bne_iff_ne, ne_eq] at *; grind)
    | trace_state
set_option maxHeartbeats 4000000 in
theorem rule10_ok (bases : List Nat) (H : Hp) (e : GEvent) (pe : Nat) (h : wfE e) (he : H[pe]? = some (.cells e.avs)) : (lim0 E).shut bases 26 [.ptr pe 0] H = some (.pv (.bool (b10 e)), H) := by
  have hx := bare_ok e h
  refine shut_of (0) ?_; rw [go_26]; unfold Tryz.f26; simp only [go_sem, Nat.reduceAdd, Nat.reduceMul, Nat.reduceSub, Nat.reduceEqDiff, Nat.reduceLeDiff, Nat.reduceLT, Int.reduceAdd, Int.reduceSub, Int.reduceMul, Int.reduceNeg, Int.reduceLT, Int.reduceLE, Int.reduceEq, Int.reduceNe, Int.reduceToNat, UInt8.reduceToNat, reduceCtorEq, and_true, true_and, decide_true, decide_false, he, hx]
  all_goals repeat' (first | (refine grdC_split (fun h => ?_) (fun h => ?_) <;> try simp only [go_sem, Nat.reduceAdd, Nat.reduceMul, Nat.reduceSub, Nat.reduceEqDiff, Nat.reduceLeDiff, Nat.reduceLT, Int.reduceAdd, Int.reduceSub, Int.reduceMul, Int.reduceNeg, Int.reduceLT, Int.reduceLE, Int.reduceEq, Int.reduceNe, Int.reduceToNat, UInt8.reduceToNat, reduceCtorEq, and_true, true_and, decide_true, decide_false, he, hx]) | (refine condC_split (fun h => ?_) (fun h => ?_) <;> try simp only [go_sem, Nat.reduceAdd, Nat.reduceMul, Nat.reduceSub, Nat.reduceEqDiff, Nat.reduceLeDiff, Nat.reduceLT, Int.reduceAdd, Int.reduceSub, Int.reduceMul, Int.reduceNeg, Int.reduceLT, Int.reduceLE, Int.reduceEq, Int.reduceNe, Int.reduceToNat, UInt8.reduceToNat, reduceCtorEq, and_true, true_and, decide_true, decide_false, he, hx]) | (refine bcond_eq (fun h => ?_) (fun h => ?_) <;> try simp only [go_sem, Nat.reduceAdd, Nat.reduceMul, Nat.reduceSub, Nat.reduceEqDiff, Nat.reduceLeDiff, Nat.reduceLT, Int.reduceAdd, Int.reduceSub, Int.reduceMul, Int.reduceNeg, Int.reduceLT, Int.reduceLE, Int.reduceEq, Int.reduceNe, Int.reduceToNat, UInt8.reduceToNat, reduceCtorEq, and_true, true_and, decide_true, decide_false, he, hx]))
  all_goals first
    | rfl
    | (clear he hx; refine sbH ?_; simp only [b10, Bool.and_eq_true, Bool.or_eq_true, decide_eq_true_eq, decide_eq_false_iff_not, Bool.not_eq_true', Bool.not_eq_false', Bool.false_eq_true, false_iff, true_iff, bne_iff_ne, ne_eq] at *; grind)
    | trace_state
def rulesM : PV := .map [.int .i64 1, .int .i64 2, .int .i64 3, .int .i64 8, .int .i64 9, .int .i64 11, .int .i64 17, .int .i64 18, .int .i64 19, .int .i64 21, .int .i64 22, .int .i64 23, .int .i64 24, .int .i64 25, .int .i64 26, .int .i64 28, .int .i64 31, .int .i64 33, .int .i64 34, .int .i64 35, .int .i64 36, .int .i64 37, .int .i64 38, .int .i64 39, .int .i64 40, .int .i64 41, .int .i64 42] [GPropRule.pv ⟨1, 65544, 0, 1⟩, GPropRule.pv ⟨3, 65544, 0, 4294967295⟩, GPropRule.pv ⟨5, 65544, 0, 0⟩, GPropRule.pv ⟨5, 65544, 0, 0⟩, GPropRule.pv ⟨6, 65544, 0, 0⟩, GPropRule.pv ⟨4, 264, 1, 268435455⟩, GPropRule.pv ⟨3, 16390, 0, 4294967295⟩, GPropRule.pv ⟨5, 4, 0, 0⟩, GPropRule.pv ⟨2, 4, 0, 65535⟩, GPropRule.pv ⟨5, 32774, 0, 0⟩, GPropRule.pv ⟨6, 32774, 0, 0⟩, GPropRule.pv ⟨1, 2, 0, 1⟩, GPropRule.pv ⟨3, 65536, 0, 4294967295⟩, GPropRule.pv ⟨1, 2, 0, 1⟩, GPropRule.pv ⟨5, 4, 0, 0⟩, GPropRule.pv ⟨5, 16388, 0, 0⟩, GPropRule.pv ⟨5, 51956, 0, 0⟩, GPropRule.pv ⟨2, 6, 1, 65535⟩, GPropRule.pv ⟨2, 6, 0, 65535⟩, GPropRule.pv ⟨2, 8, 1, 65535⟩, GPropRule.pv ⟨1, 4, 0, 1⟩, GPropRule.pv ⟨1, 4, 0, 1⟩, GPropRule.pv ⟨7, 118782, 0, 0⟩, GPropRule.pv ⟨3, 6, 1, 4294967295⟩, GPropRule.pv ⟨1, 4, 0, 1⟩, GPropRule.pv ⟨1, 4, 0, 1⟩, GPropRule.pv ⟨1, 4, 0, 1⟩]
@[go_sem] theorem rules_ok : (lim0 E).pure 59 [] = some rulesM := (callN_le 10).pure _ _ _ (by kernel_rfl)
def ruleOf (id : Int) : GPropRule := bcond (decide (id = 1)) ⟨1, 65544, 0, 1⟩ (bcond (decide (id = 2)) ⟨3, 65544, 0, 4294967295⟩ (bcond (decide (id = 3)) ⟨5, 65544, 0, 0⟩ (bcond (decide (id = 8)) ⟨5, 65544, 0, 0⟩ (bcond (decide (id = 9)) ⟨6, 65544, 0, 0⟩ (bcond (decide (id = 11)) ⟨4, 264, 1, 268435455⟩ (bcond (decide (id = 17)) ⟨3, 16390, 0, 4294967295⟩ (bcond (decide (id = 18)) ⟨5, 4, 0, 0⟩ (bcond (decide (id = 19)) ⟨2, 4, 0, 65535⟩ (bcond (decide (id = 21)) ⟨5, 32774, 0, 0⟩ (bcond (decide (id = 22)) ⟨6, 32774, 0, 0⟩ (bcond (decide (id = 23)) ⟨1, 2, 0, 1⟩ (bcond (decide (id = 24)) ⟨3, 65536, 0, 4294967295⟩ (bcond (decide (id = 25)) ⟨1, 2, 0, 1⟩ (bcond (decide (id = 26)) ⟨5, 4, 0, 0⟩ (bcond (decide (id = 28)) ⟨5, 16388, 0, 0⟩ (bcond (decide (id = 31)) ⟨5, 51956, 0, 0⟩ (bcond (decide (id = 33)) ⟨2, 6, 1, 65535⟩ (bcond (decide (id = 34)) ⟨2, 6, 0, 65535⟩ (bcond (decide (id = 35)) ⟨2, 8, 1, 65535⟩ (bcond (decide (id = 36)) ⟨1, 4, 0, 1⟩ (bcond (decide (id = 37)) ⟨1, 4, 0, 1⟩ (bcond (decide (id = 38)) ⟨7, 118782, 0, 0⟩ (bcond (decide (id = 39)) ⟨3, 6, 1, 4294967295⟩ (bcond (decide (id = 40)) ⟨1, 4, 0, 1⟩ (bcond (decide (id = 41)) ⟨1, 4, 0, 1⟩ (bcond (decide (id = 42)) ⟨1, 4, 0, 1⟩ (⟨0, 0, 0, 0⟩)))))))))))))))))))))))))))
@[go_sem] theorem rulesAt (H : Hp) : mapAt H (.pv rulesM) = some ([.int .i64 1, .int .i64 2, .int .i64 3, .int .i64 8, .int .i64 9, .int .i64 11, .int .i64 17, .int .i64 18, .int .i64 19, .int .i64 21, .int .i64 22, .int .i64 23, .int .i64 24, .int .i64 25, .int .i64 26, .int .i64 28, .int .i64 31, .int .i64 33, .int .i64 34, .int .i64 35, .int .i64 36, .int .i64 37, .int .i64 38, .int .i64 39, .int .i64 40, .int .i64 41, .int .i64 42], [.pv (GPropRule.pv ⟨1, 65544, 0, 1⟩), .pv (GPropRule.pv ⟨3, 65544, 0, 4294967295⟩), .pv (GPropRule.pv ⟨5, 65544, 0, 0⟩), .pv (GPropRule.pv ⟨5, 65544, 0, 0⟩), .pv (GPropRule.pv ⟨6, 65544, 0, 0⟩), .pv (GPropRule.pv ⟨4, 264, 1, 268435455⟩), .pv (GPropRule.pv ⟨3, 16390, 0, 4294967295⟩), .pv (GPropRule.pv ⟨5, 4, 0, 0⟩), .pv (GPropRule.pv ⟨2, 4, 0, 65535⟩), .pv (GPropRule.pv ⟨5, 32774, 0, 0⟩), .pv (GPropRule.pv ⟨6, 32774, 0, 0⟩), .pv (GPropRule.pv ⟨1, 2, 0, 1⟩), .pv (GPropRule.pv ⟨3, 65536, 0, 4294967295⟩), .pv (GPropRule.pv ⟨1, 2, 0, 1⟩), .pv (GPropRule.pv ⟨5, 4, 0, 0⟩), .pv (GPropRule.pv ⟨5, 16388, 0, 0⟩), .pv (GPropRule.pv ⟨5, 51956, 0, 0⟩), .pv (GPropRule.pv ⟨2, 6, 1, 65535⟩), .pv (GPropRule.pv ⟨2, 6, 0, 65535⟩), .pv (GPropRule.pv ⟨2, 8, 1, 65535⟩), .pv (GPropRule.pv ⟨1, 4, 0, 1⟩), .pv (GPropRule.pv ⟨1, 4, 0, 1⟩), .pv (GPropRule.pv ⟨7, 118782, 0, 0⟩), .pv (GPropRule.pv ⟨3, 6, 1, 4294967295⟩), .pv (GPropRule.pv ⟨1, 4, 0, 1⟩), .pv (GPropRule.pv ⟨1, 4, 0, 1⟩), .pv (GPropRule.pv ⟨1, 4, 0, 1⟩)]) := rfl
theorem bcond_rule (c : Bool) (a b : GPropRule) : bcond c (some (AV.pv a.pv)) (some (AV.pv b.pv)) = some (AV.pv (bcond c a b).pv) := by cases c <;> simp only [bcond_true, bcond_false]
theorem look_rule (H : Hp) (id : Int) : lookO E 102 H (.pv rulesM) (.pv (.int .i64 id)) false = some (.pv (ruleOf id).pv) := by
  have hz : zeroOf E 108 = .pv (GPropRule.pv ⟨0, 0, 0, 0⟩) := by kernel_rfl
  rw [lu_102, hz, rulesAt]
  simp only [findM_some, mapFind_int, mapFind_nil, lookF_bcond, lookF_ft, lookF_fn, bcond_rule]
  rfl

def hasR (r : GPropRule) (kind : Int) : Bool := decide (1 ≤ kind ∧ kind ≤ 16) && decide (IntKind.i64.wrap (BitVec.ofInt 64 (r.kinds.fdiv (2 ^ min (IntKind.u64.wrap kind).toNat 64)) &&& BitVec.ofInt 64 1).toNat = 1)
@[go_sem] theorem has_ok (r : GPropRule) (kind : Int) : (lim0 E).pure 92 [r.pv, .int .i64 kind] = some (.bool (hasR r kind)) := by
  refine pure_of (0) ?_; rw [go_92]; unfold Tryz.f92; simp only [go_sem, Nat.reduceAdd, Nat.reduceMul, Nat.reduceSub, Nat.reduceEqDiff, Nat.reduceLeDiff, Nat.reduceLT, Int.reduceAdd, Int.reduceSub, Int.reduceMul, Int.reduceNeg, Int.reduceLT, Int.reduceLE, Int.reduceEq, Int.reduceNe, Int.reduceToNat, UInt8.reduceToNat, reduceCtorEq, and_true, true_and, decide_true, decide_false]
  repeat' (first | (refine grdC_split (fun h => ?_) (fun h => ?_) <;> try simp only [go_sem, Nat.reduceAdd, Nat.reduceMul, Nat.reduceSub, Nat.reduceEqDiff, Nat.reduceLeDiff, Nat.reduceLT, Int.reduceAdd, Int.reduceSub, Int.reduceMul, Int.reduceNeg, Int.reduceLT, Int.reduceLE, Int.reduceEq, Int.reduceNe, Int.reduceToNat, UInt8.reduceToNat, reduceCtorEq, and_true, true_and, decide_true, decide_false]) | (refine condC_split (fun h => ?_) (fun h => ?_) <;> try simp only [go_sem, Nat.reduceAdd, Nat.reduceMul, Nat.reduceSub, Nat.reduceEqDiff, Nat.reduceLeDiff, Nat.reduceLT, Int.reduceAdd, Int.reduceSub, Int.reduceMul, Int.reduceNeg, Int.reduceLT, Int.reduceLE, Int.reduceEq, Int.reduceNe, Int.reduceToNat, UInt8.reduceToNat, reduceCtorEq, and_true, true_and, decide_true, decide_false]) | (refine bcond_eq (fun h => ?_) (fun h => ?_) <;> try simp only [go_sem, Nat.reduceAdd, Nat.reduceMul, Nat.reduceSub, Nat.reduceEqDiff, Nat.reduceLeDiff, Nat.reduceLT, Int.reduceAdd, Int.reduceSub, Int.reduceMul, Int.reduceNeg, Int.reduceLT, Int.reduceLE, Int.reduceEq, Int.reduceNe, Int.reduceToNat, UInt8.reduceToNat, reduceCtorEq, and_true, true_and, decide_true, decide_false]))
  all_goals (refine sb ?_; simp only [hasR, Bool.and_eq_true, decide_eq_true_eq, decide_eq_false_iff_not, Bool.false_eq_true, false_iff] at *; first | exact ⟨fun x => ⟨⟨by assumption, by assumption⟩, x⟩, fun x => x.2⟩ | (rintro ⟨⟨_, _⟩, _⟩; omega))
@[go_sem] theorem often_ok (kind id : Int) : (lim0 E).pure 94 [.int .i64 kind, .int .i64 id] = some (.bool (decide (id = 38 ∨ id = 11 ∧ kind = 3))) := by
  refine pure_of (0) ?_; rw [go_94]; unfold Tryz.f94; simp only [go_sem, Nat.reduceAdd, Nat.reduceMul, Nat.reduceSub, Nat.reduceEqDiff, Nat.reduceLeDiff, Nat.reduceLT, Int.reduceAdd, Int.reduceSub, Int.reduceMul, Int.reduceNeg, Int.reduceLT, Int.reduceLE, Int.reduceEq, Int.reduceNe, Int.reduceToNat, UInt8.reduceToNat, reduceCtorEq, and_true, true_and, decide_true, decide_false]
  repeat' (first | (refine grdC_split (fun h => ?_) (fun h => ?_) <;> try simp only [go_sem, Nat.reduceAdd, Nat.reduceMul, Nat.reduceSub, Nat.reduceEqDiff, Nat.reduceLeDiff, Nat.reduceLT, Int.reduceAdd, Int.reduceSub, Int.reduceMul, Int.reduceNeg, Int.reduceLT, Int.reduceLE, Int.reduceEq, Int.reduceNe, Int.reduceToNat, UInt8.reduceToNat, reduceCtorEq, and_true, true_and, decide_true, decide_false]) | (refine condC_split (fun h => ?_) (fun h => ?_) <;> try simp only [go_sem, Nat.reduceAdd, Nat.reduceMul, Nat.reduceSub, Nat.reduceEqDiff, Nat.reduceLeDiff, Nat.reduceLT, Int.reduceAdd, Int.reduceSub, Int.reduceMul, Int.reduceNeg, Int.reduceLT, Int.reduceLE, Int.reduceEq, Int.reduceNe, Int.reduceToNat, UInt8.reduceToNat, reduceCtorEq, and_true, true_and, decide_true, decide_false]) | (refine bcond_eq (fun h => ?_) (fun h => ?_) <;> try simp only [go_sem, Nat.reduceAdd, Nat.reduceMul, Nat.reduceSub, Nat.reduceEqDiff, Nat.reduceLeDiff, Nat.reduceLT, Int.reduceAdd, Int.reduceSub, Int.reduceMul, Int.reduceNeg, Int.reduceLT, Int.reduceLE, Int.reduceEq, Int.reduceNe, Int.reduceToNat, UInt8.reduceToNat, reduceCtorEq, and_true, true_and, decide_true, decide_false]))
  all_goals (refine sb ?_; simp at *; try omega)
def checkNum (r : GPropRule) (p : GProp) : Int := if p.text ≠ [] ∨ p.value ≠ [] then 2 else if p.n < r.least ∨ r.most < p.n then 9 else 0
@[go_sem] theorem checkNumber_ok (r : GPropRule) (p : GProp) : (lim0 E).pure 93 [r.pv, p.pv] = some (.int .i64 (checkNum r p)) := by
  refine pure_of (0) ?_; rw [go_93]; unfold Tryz.f93; simp only [go_sem, Nat.reduceAdd, Nat.reduceMul, Nat.reduceSub, Nat.reduceEqDiff, Nat.reduceLeDiff, Nat.reduceLT, Int.reduceAdd, Int.reduceSub, Int.reduceMul, Int.reduceNeg, Int.reduceLT, Int.reduceLE, Int.reduceEq, Int.reduceNe, Int.reduceToNat, UInt8.reduceToNat, reduceCtorEq, and_true, true_and, decide_true, decide_false]
  repeat' (first | (refine grdC_split (fun h => ?_) (fun h => ?_) <;> try simp only [go_sem, Nat.reduceAdd, Nat.reduceMul, Nat.reduceSub, Nat.reduceEqDiff, Nat.reduceLeDiff, Nat.reduceLT, Int.reduceAdd, Int.reduceSub, Int.reduceMul, Int.reduceNeg, Int.reduceLT, Int.reduceLE, Int.reduceEq, Int.reduceNe, Int.reduceToNat, UInt8.reduceToNat, reduceCtorEq, and_true, true_and, decide_true, decide_false]) | (refine condC_split (fun h => ?_) (fun h => ?_) <;> try simp only [go_sem, Nat.reduceAdd, Nat.reduceMul, Nat.reduceSub, Nat.reduceEqDiff, Nat.reduceLeDiff, Nat.reduceLT, Int.reduceAdd, Int.reduceSub, Int.reduceMul, Int.reduceNeg, Int.reduceLT, Int.reduceLE, Int.reduceEq, Int.reduceNe, Int.reduceToNat, UInt8.reduceToNat, reduceCtorEq, and_true, true_and, decide_true, decide_false]) | (refine bcond_eq (fun h => ?_) (fun h => ?_) <;> try simp only [go_sem, Nat.reduceAdd, Nat.reduceMul, Nat.reduceSub, Nat.reduceEqDiff, Nat.reduceLeDiff, Nat.reduceLT, Int.reduceAdd, Int.reduceSub, Int.reduceMul, Int.reduceNeg, Int.reduceLT, Int.reduceLE, Int.reduceEq, Int.reduceNe, Int.reduceToNat, UInt8.reduceToNat, reduceCtorEq, and_true, true_and, decide_true, decide_false]))
  all_goals (unfold checkNum; simp at *; try simp_all)
  all_goals trace_state
def checkP (r : GPropRule) (kind : Int) (p : GProp) : Int :=
  if hasR r kind = false then 9 else if r.shape ≤ 4 then checkNum r p else if p.n ≠ 0 ∨ p.value ≠ [] ∧ r.shape ≠ 7 then 2 else
  if r.shape = 6 then (if 65535 < p.text.length then 2 else 0) else if validT p.text = false ∨ validT p.value = false then 6 else if p.id = 8 ∧ nameT p.text = false then 9 else 0
set_option maxHeartbeats 4000000 in
theorem check_ok (r : GPropRule) (kind : Int) (p : GProp) (h : p.text.length ≤ 9223372036854775807) : (lim0 E).pure 60 [r.pv, .int .i64 kind, p.pv] = some (.int .i64 (checkP r kind p)) := by
  have e := topicName_ok p.text h
  refine pure_of (0) ?_; rw [go_60]; unfold Tryz.f60; simp only [go_sem, Nat.reduceAdd, Nat.reduceMul, Nat.reduceSub, Nat.reduceEqDiff, Nat.reduceLeDiff, Nat.reduceLT, Int.reduceAdd, Int.reduceSub, Int.reduceMul, Int.reduceNeg, Int.reduceLT, Int.reduceLE, Int.reduceEq, Int.reduceNe, Int.reduceToNat, UInt8.reduceToNat, reduceCtorEq, and_true, true_and, decide_true, decide_false]
  repeat' (first | (refine grdC_split (fun h => ?_) (fun h => ?_) <;> try simp only [go_sem, Nat.reduceAdd, Nat.reduceMul, Nat.reduceSub, Nat.reduceEqDiff, Nat.reduceLeDiff, Nat.reduceLT, Int.reduceAdd, Int.reduceSub, Int.reduceMul, Int.reduceNeg, Int.reduceLT, Int.reduceLE, Int.reduceEq, Int.reduceNe, Int.reduceToNat, UInt8.reduceToNat, reduceCtorEq, and_true, true_and, decide_true, decide_false, e]) | (refine condC_split (fun h => ?_) (fun h => ?_) <;> try simp only [go_sem, Nat.reduceAdd, Nat.reduceMul, Nat.reduceSub, Nat.reduceEqDiff, Nat.reduceLeDiff, Nat.reduceLT, Int.reduceAdd, Int.reduceSub, Int.reduceMul, Int.reduceNeg, Int.reduceLT, Int.reduceLE, Int.reduceEq, Int.reduceNe, Int.reduceToNat, UInt8.reduceToNat, reduceCtorEq, and_true, true_and, decide_true, decide_false, e]) | (refine bcond_eq (fun h => ?_) (fun h => ?_) <;> try simp only [go_sem, Nat.reduceAdd, Nat.reduceMul, Nat.reduceSub, Nat.reduceEqDiff, Nat.reduceLeDiff, Nat.reduceLT, Int.reduceAdd, Int.reduceSub, Int.reduceMul, Int.reduceNeg, Int.reduceLT, Int.reduceLE, Int.reduceEq, Int.reduceNe, Int.reduceToNat, UInt8.reduceToNat, reduceCtorEq, and_true, true_and, decide_true, decide_false, e]))
  all_goals clear e
  all_goals (simp only [checkP, Option.some.injEq, PV.int.injEq, true_and, decide_eq_true_eq, decide_eq_false_iff_not, Bool.not_eq_true', Bool.not_eq_false', ne_eq, Decidable.not_not] at *; grind)
theorem rule_range (id : Int) (h : ruleOf id ≠ ⟨0, 0, 0, 0⟩) : 1 ≤ id ∧ id ≤ 42 := by
  refine Decidable.byContradiction fun hc => h ?_
  unfold ruleOf
  have e : ∀ (n : Int) (a b : GPropRule), (1 ≤ n ∧ n ≤ 42) → bcond (decide (id = n)) a b = b := by
    intro n a b hn
    have : decide (id = n) = false := by simp; omega
    rw [this, bcond_false]
  repeat rw [e _ _ _ (by omega)]
def framedL (s : List UInt8) : List UInt8 := putL (IntKind.u64.wrap (s.length : Int)) 2 ++ s
theorem framed_ok (s : List UInt8) (h : s.length ≤ 65535) : (lim0 E).pure 120 [.str s] = some (.str (framedL s)) := by
  have hb : 2 + s.length ≤ 9223372036854775807 := by omega
  refine pure_of (0) ?_; rw [go_120]; unfold Tryz.f120; simp only [go_sem, Nat.reduceAdd, Nat.reduceMul, Nat.reduceSub, Nat.reduceEqDiff, Nat.reduceLeDiff, Nat.reduceLT, Int.reduceAdd, Int.reduceSub, Int.reduceMul, Int.reduceNeg, Int.reduceLT, Int.reduceLE, Int.reduceEq, Int.reduceNe, Int.reduceToNat, UInt8.reduceToNat, reduceCtorEq, and_true, true_and, decide_true, decide_false, hb]
  rfl
def binL (s : List UInt8) : List UInt8 := if s.length ≤ 65535 then framedL s else []
theorem binL_length (s : List UInt8) : (binL s).length ≤ 65537 := by
  unfold binL
  split
  · simp [framedL, putL_length]; omega
  · simp
@[go_sem] theorem binary_ok (s : List UInt8) : (lim0 E).pure 96 [.str s] = some (.tup [.str (binL s), .int .i64 (if s.length ≤ 65535 then 0 else 2)]) := by
  unfold binL
  refine pure_of (0) ?_; rw [go_96]; unfold Tryz.f96; simp only [go_sem, Nat.reduceAdd, Nat.reduceMul, Nat.reduceSub, Nat.reduceEqDiff, Nat.reduceLeDiff, Nat.reduceLT, Int.reduceAdd, Int.reduceSub, Int.reduceMul, Int.reduceNeg, Int.reduceLT, Int.reduceLE, Int.reduceEq, Int.reduceNe, Int.reduceToNat, UInt8.reduceToNat, reduceCtorEq, and_true, true_and, decide_true, decide_false]
  refine condC_split (fun h => ?_) (fun h => ?_)
  · have h' : ¬ s.length ≤ 65535 := by simp at h; omega
    simp only [go_sem, Nat.reduceAdd, Nat.reduceMul, Nat.reduceSub, Nat.reduceEqDiff, Nat.reduceLeDiff, Nat.reduceLT, Int.reduceAdd, Int.reduceSub, Int.reduceMul, Int.reduceNeg, Int.reduceLT, Int.reduceLE, Int.reduceEq, Int.reduceNe, Int.reduceToNat, UInt8.reduceToNat, reduceCtorEq, and_true, true_and, decide_true, decide_false, if_neg h']
  · have h' : s.length ≤ 65535 := by simp at h; omega
    simp only [go_sem, Nat.reduceAdd, Nat.reduceMul, Nat.reduceSub, Nat.reduceEqDiff, Nat.reduceLeDiff, Nat.reduceLT, Int.reduceAdd, Int.reduceSub, Int.reduceMul, Int.reduceNeg, Int.reduceLT, Int.reduceLE, Int.reduceEq, Int.reduceNe, Int.reduceToNat, UInt8.reduceToNat, reduceCtorEq, and_true, true_and, decide_true, decide_false, framed_ok s h', if_pos h']
@[go_sem] theorem may_ok (n : Int) : (lim0 E).pure 97 [.int .i64 n] = some (.bool (decide (0 ≤ n ∧ n ≤ 268435455))) := by
  refine pure_of (0) ?_; rw [go_97]; unfold Tryz.f97; simp only [go_sem, Nat.reduceAdd, Nat.reduceMul, Nat.reduceSub, Nat.reduceEqDiff, Nat.reduceLeDiff, Nat.reduceLT, Int.reduceAdd, Int.reduceSub, Int.reduceMul, Int.reduceNeg, Int.reduceLT, Int.reduceLE, Int.reduceEq, Int.reduceNe, Int.reduceToNat, UInt8.reduceToNat, reduceCtorEq, and_true, true_and, decide_true, decide_false]
  repeat' (first | (refine grdC_split (fun h => ?_) (fun h => ?_) <;> try simp only [go_sem, Nat.reduceAdd, Nat.reduceMul, Nat.reduceSub, Nat.reduceEqDiff, Nat.reduceLeDiff, Nat.reduceLT, Int.reduceAdd, Int.reduceSub, Int.reduceMul, Int.reduceNeg, Int.reduceLT, Int.reduceLE, Int.reduceEq, Int.reduceNe, Int.reduceToNat, UInt8.reduceToNat, reduceCtorEq, and_true, true_and, decide_true, decide_false]) | (refine condC_split (fun h => ?_) (fun h => ?_) <;> try simp only [go_sem, Nat.reduceAdd, Nat.reduceMul, Nat.reduceSub, Nat.reduceEqDiff, Nat.reduceLeDiff, Nat.reduceLT, Int.reduceAdd, Int.reduceSub, Int.reduceMul, Int.reduceNeg, Int.reduceLT, Int.reduceLE, Int.reduceEq, Int.reduceNe, Int.reduceToNat, UInt8.reduceToNat, reduceCtorEq, and_true, true_and, decide_true, decide_false]) | (refine bcond_eq (fun h => ?_) (fun h => ?_) <;> try simp only [go_sem, Nat.reduceAdd, Nat.reduceMul, Nat.reduceSub, Nat.reduceEqDiff, Nat.reduceLeDiff, Nat.reduceLT, Int.reduceAdd, Int.reduceSub, Int.reduceMul, Int.reduceNeg, Int.reduceLT, Int.reduceLE, Int.reduceEq, Int.reduceNe, Int.reduceToNat, UInt8.reduceToNat, reduceCtorEq, and_true, true_and, decide_true, decide_false]))
  all_goals (refine sb ?_; simp at *; try omega)
def varB (n : Int) : Int := IntKind.u8.wrap (BitVec.ofInt 8 (IntKind.u8.wrap (n.tmod 128)) ||| BitVec.ofInt 8 128).toNat
def varN (n : Nat) : List Int := if n < 128 then [IntKind.u8.wrap (n : Int)] else varB n :: varN (n / 128)
def varL (n : Nat) : List UInt8 := (varN n).map fun n => UInt8.ofNat n.toNat
set_option maxHeartbeats 4000000 in
theorem varBytes_ok (n : Nat) (h : n ≤ 268435455) : (lim0 E).pure 64 [.int .i64 (n : Int)] = some (.tup [.str (varL n), .int .i64 0]) := by
  have h0 : (0 : Int) ≤ (n : Int) := by omega
  have h1 : (n : Int) ≤ 268435455 := by omega
  refine pure_of (n + 1) ?_; rw [go_64]; unfold Tryz.f64; simp only [go_sem, Nat.reduceAdd, Nat.reduceMul, Nat.reduceSub, Nat.reduceEqDiff, Nat.reduceLeDiff, Nat.reduceLT, Int.reduceAdd, Int.reduceSub, Int.reduceMul, Int.reduceNeg, Int.reduceLT, Int.reduceLE, Int.reduceEq, Int.reduceNe, Int.reduceToNat, UInt8.reduceToNat, reduceCtorEq, and_true, true_and, decide_true, decide_false, h0, h1]
  refine loop_ind (fun j vs H => ∃ (m g sz : Nat) (out : List Int), j = m ∧ H = [.tok g] ∧ vs = [.pv (.int .i64 m), .own 0 g sz (out.map (PV.int .u8))] ∧ (Nat.beq sz 1 || ((out.map (PV.int .u8)).isEmpty && Nat.beq sz 0)) = true ∧ varN n = out ++ varN m ∧ out.length + m ≤ n) n ⟨n, 0, 0, [], rfl, rfl, rfl, rfl, by simp, by simp⟩ (by omega) ?_
  rintro j vs H m' ⟨m, g, sz, out, rfl, rfl, rfl, hs, hv, hle⟩ ih
  have hr : room (out.length + 1) 1 = true := room_le (by omega)
  simp only [go_sem, Nat.reduceAdd, Nat.reduceMul, Nat.reduceSub, Nat.reduceEqDiff, Nat.reduceLeDiff, Nat.reduceLT, Int.reduceAdd, Int.reduceSub, Int.reduceMul, Int.reduceNeg, Int.reduceLT, Int.reduceLE, Int.reduceEq, Int.reduceNe, Int.reduceToNat, UInt8.reduceToNat, reduceCtorEq, and_true, true_and, decide_true, decide_false]
  refine condC_split (fun h => ?_) (fun h => ?_)
  · have hm : 128 ≤ j := by simp at h; omega
    have e1 : IntKind.i64.wrap ((j : Int).tdiv 128) = ((j / 128 : Nat) : Int) := by
      have e0 : (j : Int).tdiv 128 = ((j / 128 : Nat) : Int) := show Int.tdiv (Int.ofNat j) (Int.ofNat 128) = Int.ofNat (j / 128) from rfl
      rw [e0, w_in (by omega) (by omega)]
    have hd : varN j = varB j :: varN (j / 128) := by rw [varN, if_neg (by omega)]
    simp only [go_sem, Nat.reduceAdd, Nat.reduceMul, Nat.reduceSub, Nat.reduceEqDiff, Nat.reduceLeDiff, Nat.reduceLT, Int.reduceAdd, Int.reduceSub, Int.reduceMul, Int.reduceNeg, Int.reduceLT, Int.reduceLE, Int.reduceEq, Int.reduceNe, Int.reduceToNat, UInt8.reduceToNat, reduceCtorEq, and_true, true_and, decide_true, decide_false, hs, hr, e1]
    exact ih _ _ _ (by omega) ⟨j / 128, g + 1, 1, out ++ [varB j], rfl, rfl, rfl, rfl, by rw [hv, hd]; simp, by simp only [List.length_append, List.length_cons, List.length_nil]; omega⟩
  · have hm : j < 128 := by simp at h; omega
    have hd : varN j = [IntKind.u8.wrap (j : Int)] := by rw [varN, if_pos hm]
    simp only [go_sem, Nat.reduceAdd, Nat.reduceMul, Nat.reduceSub, Nat.reduceEqDiff, Nat.reduceLeDiff, Nat.reduceLT, Int.reduceAdd, Int.reduceSub, Int.reduceMul, Int.reduceNeg, Int.reduceLT, Int.reduceLE, Int.reduceEq, Int.reduceNe, Int.reduceToNat, UInt8.reduceToNat, reduceCtorEq, and_true, true_and, decide_true, decide_false, hs, hr]
    rw [varL, hv, hd]
theorem varN_length : ∀ (k n : Nat), n ≤ k → n ≤ 268435455 → (varN n).length ≤ 4 := by
  intro k n _ h
  rw [varN]
  split
  · simp
  rw [varN]
  split
  · simp
  rw [varN]
  split
  · simp
  rw [varN]
  split
  · simp
  · omega
def valueL (shape : Int) (p : GProp) : List UInt8 :=
  if shape = 1 then putL (IntKind.u64.wrap p.n) 1 else if shape = 2 then putL (IntKind.u64.wrap p.n) 2 else if shape = 3 then putL (IntKind.u64.wrap p.n) 4 else
  if shape = 4 then varL p.n.toNat else if shape = 7 then binL p.text ++ binL p.value else binL p.text
set_option maxHeartbeats 4000000 in
theorem value_ok (shape : Int) (p : GProp) (h : shape = 4 → 0 ≤ p.n ∧ p.n ≤ 268435455) : (lim0 E).pure 62 [.int .i64 shape, p.pv] = some (.str (valueL shape p)) := by
  rcases Decidable.em (shape = 1) with rfl | h1
  · refine pure_of (0) ?_; rw [go_62]; unfold Tryz.f62; simp only [go_sem, Nat.reduceAdd, Nat.reduceMul, Nat.reduceSub, Nat.reduceEqDiff, Nat.reduceLeDiff, Nat.reduceLT, Int.reduceAdd, Int.reduceSub, Int.reduceMul, Int.reduceNeg, Int.reduceLT, Int.reduceLE, Int.reduceEq, Int.reduceNe, Int.reduceToNat, UInt8.reduceToNat, reduceCtorEq, and_true, true_and, decide_true, decide_false]
    rfl
  rcases Decidable.em (shape = 2) with rfl | h2
  · refine pure_of (0) ?_; rw [go_62]; unfold Tryz.f62; simp only [go_sem, Nat.reduceAdd, Nat.reduceMul, Nat.reduceSub, Nat.reduceEqDiff, Nat.reduceLeDiff, Nat.reduceLT, Int.reduceAdd, Int.reduceSub, Int.reduceMul, Int.reduceNeg, Int.reduceLT, Int.reduceLE, Int.reduceEq, Int.reduceNe, Int.reduceToNat, UInt8.reduceToNat, reduceCtorEq, and_true, true_and, decide_true, decide_false]
    rfl
  rcases Decidable.em (shape = 3) with rfl | h3
  · refine pure_of (0) ?_; rw [go_62]; unfold Tryz.f62; simp only [go_sem, Nat.reduceAdd, Nat.reduceMul, Nat.reduceSub, Nat.reduceEqDiff, Nat.reduceLeDiff, Nat.reduceLT, Int.reduceAdd, Int.reduceSub, Int.reduceMul, Int.reduceNeg, Int.reduceLT, Int.reduceLE, Int.reduceEq, Int.reduceNe, Int.reduceToNat, UInt8.reduceToNat, reduceCtorEq, and_true, true_and, decide_true, decide_false]
    rfl
  rcases Decidable.em (shape = 4) with rfl | h4
  · obtain ⟨k1, k2⟩ := h rfl
    obtain ⟨m, hm⟩ : ∃ m : Nat, p.n = m := ⟨p.n.toNat, by omega⟩
    have e1 : IntKind.i64.wrap p.n = (m : Int) := by rw [hm, w_in (by omega) (by omega)]
    have e2 := varBytes_ok m (by omega)
    refine pure_of (0) ?_; rw [go_62]; unfold Tryz.f62; simp only [go_sem, Nat.reduceAdd, Nat.reduceMul, Nat.reduceSub, Nat.reduceEqDiff, Nat.reduceLeDiff, Nat.reduceLT, Int.reduceAdd, Int.reduceSub, Int.reduceMul, Int.reduceNeg, Int.reduceLT, Int.reduceLE, Int.reduceEq, Int.reduceNe, Int.reduceToNat, UInt8.reduceToNat, reduceCtorEq, and_true, true_and, decide_true, decide_false, e1, e2]
    rw [valueL, hm]; rfl
  have hb : (binL p.text).length + (binL p.value).length ≤ 9223372036854775807 := by
    have := binL_length p.text
    have := binL_length p.value
    omega
  rcases Decidable.em (shape = 7) with rfl | h7
  · refine pure_of (0) ?_; rw [go_62]; unfold Tryz.f62; simp only [go_sem, Nat.reduceAdd, Nat.reduceMul, Nat.reduceSub, Nat.reduceEqDiff, Nat.reduceLeDiff, Nat.reduceLT, Int.reduceAdd, Int.reduceSub, Int.reduceMul, Int.reduceNeg, Int.reduceLT, Int.reduceLE, Int.reduceEq, Int.reduceNe, Int.reduceToNat, UInt8.reduceToNat, reduceCtorEq, and_true, true_and, decide_true, decide_false, hb]
    rfl
  · refine pure_of (0) ?_; rw [go_62]; unfold Tryz.f62; simp only [go_sem, Nat.reduceAdd, Nat.reduceMul, Nat.reduceSub, Nat.reduceEqDiff, Nat.reduceLeDiff, Nat.reduceLT, Int.reduceAdd, Int.reduceSub, Int.reduceMul, Int.reduceNeg, Int.reduceLT, Int.reduceLE, Int.reduceEq, Int.reduceNe, Int.reduceToNat, UInt8.reduceToNat, reduceCtorEq, and_true, true_and, decide_true, decide_false, h1, h2, h3, h4, h7, ne_eq, not_false_eq_true]
    rw [valueL, if_neg h1, if_neg h2, if_neg h3, if_neg h4, if_neg h7]
theorem valueL_length (shape : Int) (p : GProp) (h : shape = 4 → 0 ≤ p.n ∧ p.n ≤ 268435455) : (valueL shape p).length ≤ 131074 := by
  have a := binL_length p.text
  have b := binL_length p.value
  unfold valueL
  split
  · simp [putL_length]
  split
  · simp [putL_length]
  split
  · simp [putL_length]
  split
  · rename_i h4
    have := varN_length p.n.toNat p.n.toNat (Nat.le_refl _) (by have := h h4; omega)
    simp [varL]; omega
  split
  · simp; omega
  · omega
def avI (ns : List Int) : List AV := ns.map fun z => .pv (.int .i64 z)
@[go_sem] theorem avI_length (ns : List Int) : (avI ns).length = ns.length := by simp [avI]
theorem avI_get (ns : List Int) (k : Nat) (h : k < ns.length) : (avI ns)[k]? = some (.pv (.int .i64 ns[k])) := by simp [avI, h]
theorem avI_set (ns : List Int) (p : Nat) (b : Int) (h : p < ns.length) : (avI ns).take p ++ [AV.pv (.int .i64 b)] ++ (avI ns).drop (p + 1) = avI (ns.set p b) := by
  unfold avI
  rw [List.map_set, List.set_eq_take_append_cons_drop, if_pos (by simpa using h)]
  simp
@[go_sem] theorem avI_noOwn (ns : List Int) (n : Nat) : noOwn ((avI ns).drop n) = true := noOwn_drop n _ (by
  unfold avI; induction ns with | nil => rfl | cons x xs ih => exact ih)
def bump (ns : List Int) (k : Nat) : List Int := ns.set k (IntKind.i64.wrap (ns.getD k 0 + 1))
def oftenB (kind id : Int) : Bool := decide (id = 38 ∨ id = 11 ∧ kind = 3)
set_option maxHeartbeats 4000000 in
theorem again_ok (bases : List Nat) (H : Hp) (b k : Nat) (kind : Int) (ns : List Int) (hn : ns.length = 64) (hk : k < 64) (hb : H[b]? = some (.cells (avI ns))) :
    (lim0 E).shut bases 61 [.ptr b 0, .pv (.int .i64 kind), .pv (.int .i64 (k : Int))] H = some (.pv (.bool (decide (1 < (bump ns k).getD k 0) && !oftenB kind k)), H.set b (.cells (avI (bump ns k)))) := by
  have hbl : b < H.length := (List.getElem?_eq_some_iff.1 hb).1
  have h1 := avI_get ns k (by omega)
  have h2 := avI_set ns k (IntKind.i64.wrap (ns[k]'(by omega) + 1)) (by omega)
  have hg : ns.getD k 0 = ns[k]'(by omega) := by simp [List.getD, hn, hk]
  have h3 : bump ns k = ns.set k (IntKind.i64.wrap (ns[k]'(by omega) + 1)) := by rw [bump, hg]
  rw [← h3] at h2
  have hl : (bump ns k).length = 64 := by simp [bump, hn]
  have h4 := avI_get (bump ns k) k (by omega)
  have hg2 : (bump ns k).getD k 0 = (bump ns k)[k]'(by omega) := by simp [List.getD, hl, hk]
  rw [hg2]
  have h5 : Nat.ble (k + 1) 64 = true := by simp; omega
  have h6 : ∀ x, (H.set b x)[b]? = some x := fun x => List.getElem?_set_self hbl
  have h7 : ∀ x, (H.set b x).take H.length = H.set b x := fun x => List.take_of_length_le (by simp)
  refine shut_of (0) ?_; rw [go_61]; unfold Tryz.f61; simp only [go_sem, Nat.reduceAdd, Nat.reduceMul, Nat.reduceSub, Nat.reduceEqDiff, Nat.reduceLeDiff, Nat.reduceLT, Int.reduceAdd, Int.reduceSub, Int.reduceMul, Int.reduceNeg, Int.reduceLT, Int.reduceLE, Int.reduceEq, Int.reduceNe, Int.reduceToNat, UInt8.reduceToNat, reduceCtorEq, and_true, true_and, decide_true, decide_false, hb, hk, h1, h2, hn, h5, hbl, h6, h4, h7]
  refine grdC_split (fun h => ?_) (fun h => ?_) <;> simp only [go_sem, Nat.reduceAdd, Nat.reduceMul, Nat.reduceSub, Nat.reduceEqDiff, Nat.reduceLeDiff, Nat.reduceLT, Int.reduceAdd, Int.reduceSub, Int.reduceMul, Int.reduceNeg, Int.reduceLT, Int.reduceLE, Int.reduceEq, Int.reduceNe, Int.reduceToNat, UInt8.reduceToNat, reduceCtorEq, and_true, true_and, decide_true, decide_false, h7]
  · simp only [h, oftenB, Bool.true_and]
  · simp only [h, Bool.false_and]
theorem lone_ok (bases : List Nat) (H : Hp) (b : Nat) (ns : List Int) (hn : ns.length = 64) (hb : H[b]? = some (.cells (avI ns))) :
    (lim0 E).shut bases 63 [.ptr b 0] H = some (.pv (.bool (decide (0 < ns.getD 22 0) && decide (ns.getD 21 0 = 0))), H) := by
  have h1 := avI_get ns 22 (by omega)
  have h2 := avI_get ns 21 (by omega)
  have g1 : ns.getD 22 0 = ns[22]'(by omega) := by simp [List.getD, hn]
  have g2 : ns.getD 21 0 = ns[21]'(by omega) := by simp [List.getD, hn]
  have i1 : idxO (.pv (.int .i64 22)) 64 = some 22 := rfl
  have i2 : idxO (.pv (.int .i64 21)) 64 = some 21 := rfl
  rw [g1, g2]
  refine shut_of (0) ?_; rw [go_63]; unfold Tryz.f63; simp only [go_sem, Nat.reduceAdd, Nat.reduceMul, Nat.reduceSub, Nat.reduceEqDiff, Nat.reduceLeDiff, Nat.reduceLT, Int.reduceAdd, Int.reduceSub, Int.reduceMul, Int.reduceNeg, Int.reduceLT, Int.reduceLE, Int.reduceEq, Int.reduceNe, Int.reduceToNat, UInt8.reduceToNat, reduceCtorEq, and_true, true_and, decide_true, decide_false, hb, h1, h2, i1, i2]
  refine grdC_split (fun h => ?_) (fun h => ?_) <;> simp only [go_sem, Nat.reduceAdd, Nat.reduceMul, Nat.reduceSub, Nat.reduceEqDiff, Nat.reduceLeDiff, Nat.reduceLT, Int.reduceAdd, Int.reduceSub, Int.reduceMul, Int.reduceNeg, Int.reduceLT, Int.reduceLE, Int.reduceEq, Int.reduceNe, Int.reduceToNat, UInt8.reduceToNat, reduceCtorEq, and_true, true_and, decide_true, decide_false, hb, h1, h2, i1, i2]
  · simp only [h, Bool.true_and]
  · simp only [h, Bool.false_and]
def encN (s : List UInt8) : List Int := s.map fun b => (b.toNat : Int)
@[go_sem] theorem map_str (l : List Int) (s : List UInt8) : l.map (PV.int .u8) ++ s.map encB = (l ++ encN s).map (PV.int .u8) := by
  rw [List.map_append, encN, List.map_map]; rfl
/-- What is written for a list, and the error: what was seen, what is written so far. -/
def propsGo (kind : Int) : List GProp → List Int → List Int → List UInt8 × Int
  | [], ns, out => if (decide (0 < ns.getD 22 0) && decide (ns.getD 21 0 = 0)) = true then ([], 9) else (varL out.length ++ out.map (fun n => UInt8.ofNat n.toNat), 0)
  | p :: ps, ns, out =>
    if checkP (ruleOf p.id) kind p ≠ 0 then ([], checkP (ruleOf p.id) kind p)
    else if (decide (1 < (bump ns p.id.toNat).getD p.id.toNat 0) && !oftenB kind p.id) = true then ([], 9)
    else propsGo kind ps (bump ns p.id.toNat) (out ++ [IntKind.u8.wrap p.id] ++ encN (valueL (ruleOf p.id).shape p))
def propsL (kind : Int) (l : List GProp) : List UInt8 × Int := if 1000 < l.length then ([], 4) else propsGo kind l (List.replicate 64 0) []
theorem check_id (kind : Int) (p : GProp) (h : checkP (ruleOf p.id) kind p = 0) : 1 ≤ p.id ∧ p.id ≤ 42 := by
  apply rule_range
  intro e
  rw [e] at h
  have : hasR ⟨0, 0, 0, 0⟩ kind = false := by
    have e2 : ∀ x : Int, (0 : Int).fdiv x = 0 := fun x => Int.zero_fdiv x
    simp [hasR, e2]
    intro _ _
    decide
  rw [checkP, if_pos this] at h
  cases h
theorem shape4 (id : Int) (h : (ruleOf id).shape = 4) : (ruleOf id).least = 1 ∧ (ruleOf id).most = 268435455 := by
  rcases Decidable.em (ruleOf id = ⟨0, 0, 0, 0⟩) with e | e
  · rw [e] at h; cases h
  · obtain ⟨h1, h2⟩ := rule_range id e
    have : id = 1 ∨ id = 2 ∨ id = 3 ∨ id = 4 ∨ id = 5 ∨ id = 6 ∨ id = 7 ∨ id = 8 ∨ id = 9 ∨ id = 10 ∨ id = 11 ∨ id = 12 ∨ id = 13 ∨ id = 14 ∨ id = 15 ∨ id = 16 ∨ id = 17 ∨ id = 18 ∨ id = 19 ∨ id = 20 ∨ id = 21 ∨ id = 22 ∨ id = 23 ∨ id = 24 ∨ id = 25 ∨ id = 26 ∨ id = 27 ∨ id = 28 ∨ id = 29 ∨ id = 30 ∨ id = 31 ∨ id = 32 ∨ id = 33 ∨ id = 34 ∨ id = 35 ∨ id = 36 ∨ id = 37 ∨ id = 38 ∨ id = 39 ∨ id = 40 ∨ id = 41 ∨ id = 42 := by omega
    have key : ∀ k : Nat, k < 43 → (ruleOf (k : Int)).shape = 4 → (ruleOf (k : Int)).least = 1 ∧ (ruleOf (k : Int)).most = 268435455 := by decide +kernel
    have e3 := key id.toNat (by omega)
    rw [show ((id.toNat : Nat) : Int) = id by omega] at e3
    exact e3 h
theorem check_shape4 (kind : Int) (p : GProp) (h : checkP (ruleOf p.id) kind p = 0) (h4 : (ruleOf p.id).shape = 4) : 0 ≤ p.n ∧ p.n ≤ 268435455 := by
  obtain ⟨k1, k2⟩ := shape4 p.id h4
  unfold checkP at h
  split at h
  · cases h
  · rw [if_pos (by omega)] at h
    unfold checkNum at h
    rw [k1, k2] at h
    split at h
    · cases h
    · split at h
      · cases h
      · omega
set_option maxHeartbeats 8000000 in
theorem propBytes_ok (kind : Int) (l : List GProp) (hl : l.length ≤ 9223372036854775807) (ht : ∀ p ∈ l, p.text.length ≤ 9223372036854775807) : (lim0 E).pure 42 [.int .i64 kind, .lst 4 (List.map GProp.pv l)] = some (.tup [.str (propsL kind l).1, .int .i64 (propsL kind l).2]) := by
  refine pure_of (l.length + 1) ?_; rw [go_42]; unfold Tryz.f42; simp only [go_sem, Nat.reduceAdd, Nat.reduceMul, Nat.reduceSub, Nat.reduceEqDiff, Nat.reduceLeDiff, Nat.reduceLT, Int.reduceAdd, Int.reduceSub, Int.reduceMul, Int.reduceNeg, Int.reduceLT, Int.reduceLE, Int.reduceEq, Int.reduceNe, Int.reduceToNat, UInt8.reduceToNat, reduceCtorEq, and_true, true_and, decide_true, decide_false]
  refine condC_split (fun h => ?_) (fun h => ?_)
  · have h' : 1000 < l.length := by simp at h; omega
    simp only [go_sem, Nat.reduceAdd, Nat.reduceMul, Nat.reduceSub, Nat.reduceEqDiff, Nat.reduceLeDiff, Nat.reduceLT, Int.reduceAdd, Int.reduceSub, Int.reduceMul, Int.reduceNeg, Int.reduceLT, Int.reduceLE, Int.reduceEq, Int.reduceNe, Int.reduceToNat, UInt8.reduceToNat, reduceCtorEq, and_true, true_and, decide_true, decide_false]
    rw [propsL, if_pos h']
  have hle : ¬ 1000 < l.length := by simp at h; omega
  rw [propsL, if_neg hle]
  simp only [go_sem, Nat.reduceAdd, Nat.reduceMul, Nat.reduceSub, Nat.reduceEqDiff, Nat.reduceLeDiff, Nat.reduceLT, Int.reduceAdd, Int.reduceSub, Int.reduceMul, Int.reduceNeg, Int.reduceLT, Int.reduceLE, Int.reduceEq, Int.reduceNe, Int.reduceToNat, UInt8.reduceToNat, reduceCtorEq, and_true, true_and, decide_true, decide_false]
  have hz : avI (List.replicate 64 0) = List.replicate 64 (AV.pv (.int .i64 0)) := by rw [avI, List.map_replicate]
  refine loop_ind (fun j vs H => ∃ (i g sz : Nat) (ns out : List Int), j = l.length - i ∧ i ≤ l.length ∧ H = [.cells (avI ns), .tok g] ∧ vs = [.pv (.int .i64 kind), .pv rulesM, .ptr 0 0, .own 1 g sz (out.map (PV.int .u8)), .pv (.lst 4 (List.map GProp.pv l)), .pv (.int .i64 l.length), .pv (.int .i64 i)] ∧ (Nat.beq sz 1 || ((out.map (PV.int .u8)).isEmpty && Nat.beq sz 0)) = true ∧ ns.length = 64 ∧ out.length ≤ i * 131075 ∧ propsGo kind l (List.replicate 64 0) [] = propsGo kind (l.drop i) ns out) l.length ⟨0, 0, 0, List.replicate 64 0, [], by simp, by simp, by rw [hz], rfl, rfl, by simp, by simp, by simp⟩ (by omega) ?_
  rintro j vs H m' ⟨i, g, sz, ns, out, hj, hi, rfl, rfl, hs, hn, ho, hgo⟩ ih
  rw [hgo]
  simp only [go_sem, Nat.reduceAdd, Nat.reduceMul, Nat.reduceSub, Nat.reduceEqDiff, Nat.reduceLeDiff, Nat.reduceLT, Int.reduceAdd, Int.reduceSub, Int.reduceMul, Int.reduceNeg, Int.reduceLT, Int.reduceLE, Int.reduceEq, Int.reduceNe, Int.reduceToNat, UInt8.reduceToNat, reduceCtorEq, and_true, true_and, decide_true, decide_false]
  refine condC_split (fun h => ?_) (fun h => ?_)
  · have hi' : i < l.length := by simp at h; omega
    have hd : propsGo kind (l.drop i) ns out = propsGo kind (l[i] :: l.drop (i + 1)) ns out := by rw [List.drop_eq_getElem_cons hi']
    have hlk := fun H => look_rule H l[i].id
    have hck := check_ok (ruleOf l[i].id) kind l[i] (ht _ (List.getElem_mem hi'))
    simp only [go_sem, Nat.reduceAdd, Nat.reduceMul, Nat.reduceSub, Nat.reduceEqDiff, Nat.reduceLeDiff, Nat.reduceLT, Int.reduceAdd, Int.reduceSub, Int.reduceMul, Int.reduceNeg, Int.reduceLT, Int.reduceLE, Int.reduceEq, Int.reduceNe, Int.reduceToNat, UInt8.reduceToNat, reduceCtorEq, and_true, true_and, decide_true, decide_false, hi', hlk, hck]
    refine condC_split (fun hc => ?_) (fun hc => ?_)
    · have hc' : checkP (ruleOf l[i].id) kind l[i] ≠ 0 := by simpa using hc
      simp only [go_sem, Nat.reduceAdd, Nat.reduceMul, Nat.reduceSub, Nat.reduceEqDiff, Nat.reduceLeDiff, Nat.reduceLT, Int.reduceAdd, Int.reduceSub, Int.reduceMul, Int.reduceNeg, Int.reduceLT, Int.reduceLE, Int.reduceEq, Int.reduceNe, Int.reduceToNat, UInt8.reduceToNat, reduceCtorEq, and_true, true_and, decide_true, decide_false]
      rw [hd, propsGo, if_pos hc']
    have hc' : checkP (ruleOf l[i].id) kind l[i] = 0 := by simpa using hc
    obtain ⟨hid1, hid2⟩ := check_id kind l[i] hc'
    obtain ⟨k, hk⟩ : ∃ k : Nat, l[i].id = k := ⟨l[i].id.toNat, by omega⟩
    have hkn : l[i].id.toNat = k := by omega
    have hag := fun (bases : List Nat) (H : Hp) => again_ok bases H 0 k kind ns hn (by omega)
    rw [← hk] at hag
    have hv := value_ok (ruleOf l[i].id).shape l[i] (check_shape4 kind l[i] hc')
    have hvl := valueL_length (ruleOf l[i].id).shape l[i] (check_shape4 kind l[i] hc')
    have hr1 : room (out.length + 1) 1 = true := room_le (by omega)
    have hr2 : room (out.length + 1 + (valueL (ruleOf l[i].id).shape l[i]).length) 1 = true := room_le (by omega)
    simp only [go_sem, Nat.reduceAdd, Nat.reduceMul, Nat.reduceSub, Nat.reduceEqDiff, Nat.reduceLeDiff, Nat.reduceLT, Int.reduceAdd, Int.reduceSub, Int.reduceMul, Int.reduceNeg, Int.reduceLT, Int.reduceLE, Int.reduceEq, Int.reduceNe, Int.reduceToNat, UInt8.reduceToNat, reduceCtorEq, and_true, true_and, decide_true, decide_false, hag]
    refine condC_split (fun ha => ?_) (fun ha => ?_)
    · simp only [go_sem, Nat.reduceAdd, Nat.reduceMul, Nat.reduceSub, Nat.reduceEqDiff, Nat.reduceLeDiff, Nat.reduceLT, Int.reduceAdd, Int.reduceSub, Int.reduceMul, Int.reduceNeg, Int.reduceLT, Int.reduceLE, Int.reduceEq, Int.reduceNe, Int.reduceToNat, UInt8.reduceToNat, reduceCtorEq, and_true, true_and, decide_true, decide_false]
      rw [hd, propsGo, if_neg (by simpa using hc'), if_pos (by rw [hkn]; exact ha)]
    · simp only [go_sem, Nat.reduceAdd, Nat.reduceMul, Nat.reduceSub, Nat.reduceEqDiff, Nat.reduceLeDiff, Nat.reduceLT, Int.reduceAdd, Int.reduceSub, Int.reduceMul, Int.reduceNeg, Int.reduceLT, Int.reduceLE, Int.reduceEq, Int.reduceNe, Int.reduceToNat, UInt8.reduceToNat, reduceCtorEq, and_true, true_and, decide_true, decide_false, hv, hs, hr1, hr2]
      rw [w_succ i (by omega), ← hgo]
      refine ih _ _ _ (by omega) ⟨i + 1, g + 1 + 1, 1, bump ns k, _, rfl, by omega, rfl, rfl, rfl, by simp [bump, hn], ?_, ?_⟩
      · simp only [List.length_append, List.length_cons, List.length_nil, encN, List.length_map]
        omega
      · rw [hgo, hd, propsGo, if_neg (by simpa using hc'), if_neg (by rw [hkn, ha]; simp), hkn]
  · have hi' : l.length ≤ i := by simp at h; omega
    have hlo := fun (bases : List Nat) (H : Hp) => lone_ok bases H 0 ns hn
    have hd : propsGo kind (l.drop i) ns out = propsGo kind [] ns out := by rw [List.drop_eq_nil_of_le hi']
    have hvb := varBytes_ok out.length (by omega)
    have hvn := varN_length out.length out.length (Nat.le_refl _) (by omega)
    have hb : (varL out.length).length + out.length ≤ 9223372036854775807 := by simp [varL]; omega
    simp only [go_sem, Nat.reduceAdd, Nat.reduceMul, Nat.reduceSub, Nat.reduceEqDiff, Nat.reduceLeDiff, Nat.reduceLT, Int.reduceAdd, Int.reduceSub, Int.reduceMul, Int.reduceNeg, Int.reduceLT, Int.reduceLE, Int.reduceEq, Int.reduceNe, Int.reduceToNat, UInt8.reduceToNat, reduceCtorEq, and_true, true_and, decide_true, decide_false, hlo]
    refine condC_split (fun ha => ?_) (fun ha => ?_)
    · simp only [go_sem, Nat.reduceAdd, Nat.reduceMul, Nat.reduceSub, Nat.reduceEqDiff, Nat.reduceLeDiff, Nat.reduceLT, Int.reduceAdd, Int.reduceSub, Int.reduceMul, Int.reduceNeg, Int.reduceLT, Int.reduceLE, Int.reduceEq, Int.reduceNe, Int.reduceToNat, UInt8.reduceToNat, reduceCtorEq, and_true, true_and, decide_true, decide_false]
      rw [hd, propsGo, if_pos ha]
    · simp only [go_sem, Nat.reduceAdd, Nat.reduceMul, Nat.reduceSub, Nat.reduceEqDiff, Nat.reduceLeDiff, Nat.reduceLT, Int.reduceAdd, Int.reduceSub, Int.reduceMul, Int.reduceNeg, Int.reduceLT, Int.reduceLE, Int.reduceEq, Int.reduceNe, Int.reduceToNat, UInt8.reduceToNat, reduceCtorEq, and_true, true_and, decide_true, decide_false, hvb, hb]
      rw [hd, propsGo, if_neg (by rw [ha]; simp)]
theorem propValid_ok (kind : Int) (l : List GProp) (hl : l.length ≤ 9223372036854775807) (ht : ∀ p ∈ l, p.text.length ≤ 9223372036854775807) : (lim0 E).pure 29 [.int .i64 kind, .lst 4 (List.map GProp.pv l)] = some (.int .i64 (propsL kind l).2) := by
  have e := propBytes_ok kind l hl ht
  refine pure_of (0) ?_; rw [go_29]; unfold Tryz.f29; simp only [go_sem, Nat.reduceAdd, Nat.reduceMul, Nat.reduceSub, Nat.reduceEqDiff, Nat.reduceLeDiff, Nat.reduceLT, Int.reduceAdd, Int.reduceSub, Int.reduceMul, Int.reduceNeg, Int.reduceLT, Int.reduceLE, Int.reduceEq, Int.reduceNe, Int.reduceToNat, UInt8.reduceToNat, reduceCtorEq, and_true, true_and, decide_true, decide_false, e]
def b11 (e : GEvent) : Bool := decide ((propsL 3 e.props).2 ≠ 0)
theorem rule11_ok (bases : List Nat) (H : Hp) (e : GEvent) (pe : Nat) (h : wfE e) (he : H[pe]? = some (.cells e.avs)) : (lim0 E).shut bases 28 [.ptr pe 0] H = some (.pv (.bool (b11 e)), H) := by
  have hx := propValid_ok 3 e.props h.props h.ptexts
  refine shut_of (0) ?_; rw [go_28]; unfold Tryz.f28; simp only [go_sem, Nat.reduceAdd, Nat.reduceMul, Nat.reduceSub, Nat.reduceEqDiff, Nat.reduceLeDiff, Nat.reduceLT, Int.reduceAdd, Int.reduceSub, Int.reduceMul, Int.reduceNeg, Int.reduceLT, Int.reduceLE, Int.reduceEq, Int.reduceNe, Int.reduceToNat, UInt8.reduceToNat, reduceCtorEq, and_true, true_and, decide_true, decide_false, he, hx]
  rfl
def snE (e : GEvent) : Bool := decide (e.proto = 3)
def ackE (e : GEvent) : Bool := decide (e.qos = 1) || decide (e.qos = 2)
/-- Why an event of a message may not be. -/
def publishE (e : GEvent) : Int := if b1 e then 2 else if b2 e then 10 else if b3 e (snE e) then 2 else if b4 e (ackE e) then 2 else if b5 e (ackE e) (snE e) then 2 else if b6 e then 2 else if b7 e (snE e) then 2 else if b8 e then 2 else if b9 e then 2 else if b10 e then 2 else if b11 e then 9 else 0
set_option maxHeartbeats 8000000 in
theorem publish_ok (e : GEvent) (h : wfE e) : (lim0 E).pure 7 [e.pv] = some (.int .i64 (publishE e)) := by
  have r1 := fun b H => rule1_ok b H e 0 h
  have r2 := fun b H => rule2_ok b H e 0 h
  have r3 := fun b H => rule3_ok b H e 0 1 (snE e) h
  have r4 := fun b H => rule4_ok b H e 0 2 (ackE e) h
  have r5 := fun b H => rule5_ok b H e 0 2 1 (ackE e) (snE e) h
  have r6 := fun b H => rule6_ok b H e 0 h
  have r7 := fun b H => rule7_ok b H e 1 0 (snE e) h
  have r8 := fun b H => rule8_ok b H e 0 h
  have r9 := fun b H => rule9_ok b H e 0 h
  have r10 := fun b H => rule10_ok b H e 0 h
  have r11 := fun b H => rule11_ok b H e 0 h
  refine pure_of (12) ?_; rw [go_7]; unfold Tryz.f7; simp only [go_sem, Nat.reduceAdd, Nat.reduceMul, Nat.reduceSub, Nat.reduceEqDiff, Nat.reduceLeDiff, Nat.reduceLT, Int.reduceAdd, Int.reduceSub, Int.reduceMul, Int.reduceNeg, Int.reduceLT, Int.reduceLE, Int.reduceEq, Int.reduceNe, Int.reduceToNat, UInt8.reduceToNat, reduceCtorEq, and_true, true_and, decide_true, decide_false]
  refine grdC_split (fun g => ?_) (fun g => ?_) <;> simp only [go_sem, Nat.reduceAdd, Nat.reduceMul, Nat.reduceSub, Nat.reduceEqDiff, Nat.reduceLeDiff, Nat.reduceLT, Int.reduceAdd, Int.reduceSub, Int.reduceMul, Int.reduceNeg, Int.reduceLT, Int.reduceLE, Int.reduceEq, Int.reduceNe, Int.reduceToNat, UInt8.reduceToNat, reduceCtorEq, and_true, true_and, decide_true, decide_false]
  · skip
    have hA : ackE e = true := by simp at g; simp [ackE, g]
    have hS : snE e = decide (e.proto = 3) := rfl
    rw [hS] at r3 r5 r7
    rw [hA] at r4 r5
    refine (nextC_step 11 _ _ _ _).trans ?_
    simp only [go_sem, Nat.reduceAdd, Nat.reduceMul, Nat.reduceSub, Nat.reduceEqDiff, Nat.reduceLeDiff, Nat.reduceLT, Int.reduceAdd, Int.reduceSub, Int.reduceMul, Int.reduceNeg, Int.reduceLT, Int.reduceLE, Int.reduceEq, Int.reduceNe, Int.reduceToNat, UInt8.reduceToNat, reduceCtorEq, and_true, true_and, decide_true, decide_false, r1]
    refine condC_split (fun g1 => ?_) (fun g1 => ?_) <;> simp only [go_sem, Nat.reduceAdd, Nat.reduceMul, Nat.reduceSub, Nat.reduceEqDiff, Nat.reduceLeDiff, Nat.reduceLT, Int.reduceAdd, Int.reduceSub, Int.reduceMul, Int.reduceNeg, Int.reduceLT, Int.reduceLE, Int.reduceEq, Int.reduceNe, Int.reduceToNat, UInt8.reduceToNat, reduceCtorEq, and_true, true_and, decide_true, decide_false]
    · simp only [publishE, hA, hS, g1, if_true, if_false, Bool.false_eq_true]
    refine (nextC_step 10 _ _ _ _).trans ?_
    simp only [go_sem, Nat.reduceAdd, Nat.reduceMul, Nat.reduceSub, Nat.reduceEqDiff, Nat.reduceLeDiff, Nat.reduceLT, Int.reduceAdd, Int.reduceSub, Int.reduceMul, Int.reduceNeg, Int.reduceLT, Int.reduceLE, Int.reduceEq, Int.reduceNe, Int.reduceToNat, UInt8.reduceToNat, reduceCtorEq, and_true, true_and, decide_true, decide_false, r2]
    refine condC_split (fun g2 => ?_) (fun g2 => ?_) <;> simp only [go_sem, Nat.reduceAdd, Nat.reduceMul, Nat.reduceSub, Nat.reduceEqDiff, Nat.reduceLeDiff, Nat.reduceLT, Int.reduceAdd, Int.reduceSub, Int.reduceMul, Int.reduceNeg, Int.reduceLT, Int.reduceLE, Int.reduceEq, Int.reduceNe, Int.reduceToNat, UInt8.reduceToNat, reduceCtorEq, and_true, true_and, decide_true, decide_false]
    · simp only [publishE, hA, hS, g1, g2, if_true, if_false, Bool.false_eq_true]
    refine (nextC_step 9 _ _ _ _).trans ?_
    simp only [go_sem, Nat.reduceAdd, Nat.reduceMul, Nat.reduceSub, Nat.reduceEqDiff, Nat.reduceLeDiff, Nat.reduceLT, Int.reduceAdd, Int.reduceSub, Int.reduceMul, Int.reduceNeg, Int.reduceLT, Int.reduceLE, Int.reduceEq, Int.reduceNe, Int.reduceToNat, UInt8.reduceToNat, reduceCtorEq, and_true, true_and, decide_true, decide_false, r3]
    refine condC_split (fun g3 => ?_) (fun g3 => ?_) <;> simp only [go_sem, Nat.reduceAdd, Nat.reduceMul, Nat.reduceSub, Nat.reduceEqDiff, Nat.reduceLeDiff, Nat.reduceLT, Int.reduceAdd, Int.reduceSub, Int.reduceMul, Int.reduceNeg, Int.reduceLT, Int.reduceLE, Int.reduceEq, Int.reduceNe, Int.reduceToNat, UInt8.reduceToNat, reduceCtorEq, and_true, true_and, decide_true, decide_false]
    · simp only [publishE, hA, hS, g1, g2, g3, if_true, if_false, Bool.false_eq_true]
    refine (nextC_step 8 _ _ _ _).trans ?_
    simp only [go_sem, Nat.reduceAdd, Nat.reduceMul, Nat.reduceSub, Nat.reduceEqDiff, Nat.reduceLeDiff, Nat.reduceLT, Int.reduceAdd, Int.reduceSub, Int.reduceMul, Int.reduceNeg, Int.reduceLT, Int.reduceLE, Int.reduceEq, Int.reduceNe, Int.reduceToNat, UInt8.reduceToNat, reduceCtorEq, and_true, true_and, decide_true, decide_false, r4]
    refine condC_split (fun g4 => ?_) (fun g4 => ?_) <;> simp only [go_sem, Nat.reduceAdd, Nat.reduceMul, Nat.reduceSub, Nat.reduceEqDiff, Nat.reduceLeDiff, Nat.reduceLT, Int.reduceAdd, Int.reduceSub, Int.reduceMul, Int.reduceNeg, Int.reduceLT, Int.reduceLE, Int.reduceEq, Int.reduceNe, Int.reduceToNat, UInt8.reduceToNat, reduceCtorEq, and_true, true_and, decide_true, decide_false]
    · simp only [publishE, hA, hS, g1, g2, g3, g4, if_true, if_false, Bool.false_eq_true]
    refine (nextC_step 7 _ _ _ _).trans ?_
    simp only [go_sem, Nat.reduceAdd, Nat.reduceMul, Nat.reduceSub, Nat.reduceEqDiff, Nat.reduceLeDiff, Nat.reduceLT, Int.reduceAdd, Int.reduceSub, Int.reduceMul, Int.reduceNeg, Int.reduceLT, Int.reduceLE, Int.reduceEq, Int.reduceNe, Int.reduceToNat, UInt8.reduceToNat, reduceCtorEq, and_true, true_and, decide_true, decide_false, r5]
    refine condC_split (fun g5 => ?_) (fun g5 => ?_) <;> simp only [go_sem, Nat.reduceAdd, Nat.reduceMul, Nat.reduceSub, Nat.reduceEqDiff, Nat.reduceLeDiff, Nat.reduceLT, Int.reduceAdd, Int.reduceSub, Int.reduceMul, Int.reduceNeg, Int.reduceLT, Int.reduceLE, Int.reduceEq, Int.reduceNe, Int.reduceToNat, UInt8.reduceToNat, reduceCtorEq, and_true, true_and, decide_true, decide_false]
    · simp only [publishE, hA, hS, g1, g2, g3, g4, g5, if_true, if_false, Bool.false_eq_true]
    refine (nextC_step 6 _ _ _ _).trans ?_
    simp only [go_sem, Nat.reduceAdd, Nat.reduceMul, Nat.reduceSub, Nat.reduceEqDiff, Nat.reduceLeDiff, Nat.reduceLT, Int.reduceAdd, Int.reduceSub, Int.reduceMul, Int.reduceNeg, Int.reduceLT, Int.reduceLE, Int.reduceEq, Int.reduceNe, Int.reduceToNat, UInt8.reduceToNat, reduceCtorEq, and_true, true_and, decide_true, decide_false, r6]
    refine condC_split (fun g6 => ?_) (fun g6 => ?_) <;> simp only [go_sem, Nat.reduceAdd, Nat.reduceMul, Nat.reduceSub, Nat.reduceEqDiff, Nat.reduceLeDiff, Nat.reduceLT, Int.reduceAdd, Int.reduceSub, Int.reduceMul, Int.reduceNeg, Int.reduceLT, Int.reduceLE, Int.reduceEq, Int.reduceNe, Int.reduceToNat, UInt8.reduceToNat, reduceCtorEq, and_true, true_and, decide_true, decide_false]
    · simp only [publishE, hA, hS, g1, g2, g3, g4, g5, g6, if_true, if_false, Bool.false_eq_true]
    refine (nextC_step 5 _ _ _ _).trans ?_
    simp only [go_sem, Nat.reduceAdd, Nat.reduceMul, Nat.reduceSub, Nat.reduceEqDiff, Nat.reduceLeDiff, Nat.reduceLT, Int.reduceAdd, Int.reduceSub, Int.reduceMul, Int.reduceNeg, Int.reduceLT, Int.reduceLE, Int.reduceEq, Int.reduceNe, Int.reduceToNat, UInt8.reduceToNat, reduceCtorEq, and_true, true_and, decide_true, decide_false, r7]
    refine condC_split (fun g7 => ?_) (fun g7 => ?_) <;> simp only [go_sem, Nat.reduceAdd, Nat.reduceMul, Nat.reduceSub, Nat.reduceEqDiff, Nat.reduceLeDiff, Nat.reduceLT, Int.reduceAdd, Int.reduceSub, Int.reduceMul, Int.reduceNeg, Int.reduceLT, Int.reduceLE, Int.reduceEq, Int.reduceNe, Int.reduceToNat, UInt8.reduceToNat, reduceCtorEq, and_true, true_and, decide_true, decide_false]
    · simp only [publishE, hA, hS, g1, g2, g3, g4, g5, g6, g7, if_true, if_false, Bool.false_eq_true]
    refine (nextC_step 4 _ _ _ _).trans ?_
    simp only [go_sem, Nat.reduceAdd, Nat.reduceMul, Nat.reduceSub, Nat.reduceEqDiff, Nat.reduceLeDiff, Nat.reduceLT, Int.reduceAdd, Int.reduceSub, Int.reduceMul, Int.reduceNeg, Int.reduceLT, Int.reduceLE, Int.reduceEq, Int.reduceNe, Int.reduceToNat, UInt8.reduceToNat, reduceCtorEq, and_true, true_and, decide_true, decide_false, r8]
    refine condC_split (fun g8 => ?_) (fun g8 => ?_) <;> simp only [go_sem, Nat.reduceAdd, Nat.reduceMul, Nat.reduceSub, Nat.reduceEqDiff, Nat.reduceLeDiff, Nat.reduceLT, Int.reduceAdd, Int.reduceSub, Int.reduceMul, Int.reduceNeg, Int.reduceLT, Int.reduceLE, Int.reduceEq, Int.reduceNe, Int.reduceToNat, UInt8.reduceToNat, reduceCtorEq, and_true, true_and, decide_true, decide_false]
    · simp only [publishE, hA, hS, g1, g2, g3, g4, g5, g6, g7, g8, if_true, if_false, Bool.false_eq_true]
    refine (nextC_step 3 _ _ _ _).trans ?_
    simp only [go_sem, Nat.reduceAdd, Nat.reduceMul, Nat.reduceSub, Nat.reduceEqDiff, Nat.reduceLeDiff, Nat.reduceLT, Int.reduceAdd, Int.reduceSub, Int.reduceMul, Int.reduceNeg, Int.reduceLT, Int.reduceLE, Int.reduceEq, Int.reduceNe, Int.reduceToNat, UInt8.reduceToNat, reduceCtorEq, and_true, true_and, decide_true, decide_false, r9]
    refine condC_split (fun g9 => ?_) (fun g9 => ?_) <;> simp only [go_sem, Nat.reduceAdd, Nat.reduceMul, Nat.reduceSub, Nat.reduceEqDiff, Nat.reduceLeDiff, Nat.reduceLT, Int.reduceAdd, Int.reduceSub, Int.reduceMul, Int.reduceNeg, Int.reduceLT, Int.reduceLE, Int.reduceEq, Int.reduceNe, Int.reduceToNat, UInt8.reduceToNat, reduceCtorEq, and_true, true_and, decide_true, decide_false]
    · simp only [publishE, hA, hS, g1, g2, g3, g4, g5, g6, g7, g8, g9, if_true, if_false, Bool.false_eq_true]
    refine (nextC_step 2 _ _ _ _).trans ?_
    simp only [go_sem, Nat.reduceAdd, Nat.reduceMul, Nat.reduceSub, Nat.reduceEqDiff, Nat.reduceLeDiff, Nat.reduceLT, Int.reduceAdd, Int.reduceSub, Int.reduceMul, Int.reduceNeg, Int.reduceLT, Int.reduceLE, Int.reduceEq, Int.reduceNe, Int.reduceToNat, UInt8.reduceToNat, reduceCtorEq, and_true, true_and, decide_true, decide_false, r10]
    refine condC_split (fun g10 => ?_) (fun g10 => ?_) <;> simp only [go_sem, Nat.reduceAdd, Nat.reduceMul, Nat.reduceSub, Nat.reduceEqDiff, Nat.reduceLeDiff, Nat.reduceLT, Int.reduceAdd, Int.reduceSub, Int.reduceMul, Int.reduceNeg, Int.reduceLT, Int.reduceLE, Int.reduceEq, Int.reduceNe, Int.reduceToNat, UInt8.reduceToNat, reduceCtorEq, and_true, true_and, decide_true, decide_false]
    · simp only [publishE, hA, hS, g1, g2, g3, g4, g5, g6, g7, g8, g9, g10, if_true, if_false, Bool.false_eq_true]
    refine (nextC_step 1 _ _ _ _).trans ?_
    simp only [go_sem, Nat.reduceAdd, Nat.reduceMul, Nat.reduceSub, Nat.reduceEqDiff, Nat.reduceLeDiff, Nat.reduceLT, Int.reduceAdd, Int.reduceSub, Int.reduceMul, Int.reduceNeg, Int.reduceLT, Int.reduceLE, Int.reduceEq, Int.reduceNe, Int.reduceToNat, UInt8.reduceToNat, reduceCtorEq, and_true, true_and, decide_true, decide_false, r11]
    refine condC_split (fun g11 => ?_) (fun g11 => ?_) <;> simp only [go_sem, Nat.reduceAdd, Nat.reduceMul, Nat.reduceSub, Nat.reduceEqDiff, Nat.reduceLeDiff, Nat.reduceLT, Int.reduceAdd, Int.reduceSub, Int.reduceMul, Int.reduceNeg, Int.reduceLT, Int.reduceLE, Int.reduceEq, Int.reduceNe, Int.reduceToNat, UInt8.reduceToNat, reduceCtorEq, and_true, true_and, decide_true, decide_false]
    · simp only [publishE, hA, hS, g1, g2, g3, g4, g5, g6, g7, g8, g9, g10, g11, if_true, if_false, Bool.false_eq_true]
    refine (nextC_step 0 _ _ _ _).trans ?_
    simp only [go_sem, Nat.reduceAdd, Nat.reduceMul, Nat.reduceSub, Nat.reduceEqDiff, Nat.reduceLeDiff, Nat.reduceLT, Int.reduceAdd, Int.reduceSub, Int.reduceMul, Int.reduceNeg, Int.reduceLT, Int.reduceLE, Int.reduceEq, Int.reduceNe, Int.reduceToNat, UInt8.reduceToNat, reduceCtorEq, and_true, true_and, decide_true, decide_false]
    simp only [publishE, hA, hS, g1, g2, g3, g4, g5, g6, g7, g8, g9, g10, g11, if_false, Bool.false_eq_true]
  · skip
    have hA : ackE e = decide (e.qos = 2) := by simp at g; simp [ackE, g]
    have hS : snE e = decide (e.proto = 3) := rfl
    rw [hS] at r3 r5 r7
    rw [hA] at r4 r5
    refine (nextC_step 11 _ _ _ _).trans ?_
    simp only [go_sem, Nat.reduceAdd, Nat.reduceMul, Nat.reduceSub, Nat.reduceEqDiff, Nat.reduceLeDiff, Nat.reduceLT, Int.reduceAdd, Int.reduceSub, Int.reduceMul, Int.reduceNeg, Int.reduceLT, Int.reduceLE, Int.reduceEq, Int.reduceNe, Int.reduceToNat, UInt8.reduceToNat, reduceCtorEq, and_true, true_and, decide_true, decide_false, r1]
    refine condC_split (fun g1 => ?_) (fun g1 => ?_) <;> simp only [go_sem, Nat.reduceAdd, Nat.reduceMul, Nat.reduceSub, Nat.reduceEqDiff, Nat.reduceLeDiff, Nat.reduceLT, Int.reduceAdd, Int.reduceSub, Int.reduceMul, Int.reduceNeg, Int.reduceLT, Int.reduceLE, Int.reduceEq, Int.reduceNe, Int.reduceToNat, UInt8.reduceToNat, reduceCtorEq, and_true, true_and, decide_true, decide_false]
    · simp only [publishE, hA, hS, g1, if_true, if_false, Bool.false_eq_true]
    refine (nextC_step 10 _ _ _ _).trans ?_
    simp only [go_sem, Nat.reduceAdd, Nat.reduceMul, Nat.reduceSub, Nat.reduceEqDiff, Nat.reduceLeDiff, Nat.reduceLT, Int.reduceAdd, Int.reduceSub, Int.reduceMul, Int.reduceNeg, Int.reduceLT, Int.reduceLE, Int.reduceEq, Int.reduceNe, Int.reduceToNat, UInt8.reduceToNat, reduceCtorEq, and_true, true_and, decide_true, decide_false, r2]
    refine condC_split (fun g2 => ?_) (fun g2 => ?_) <;> simp only [go_sem, Nat.reduceAdd, Nat.reduceMul, Nat.reduceSub, Nat.reduceEqDiff, Nat.reduceLeDiff, Nat.reduceLT, Int.reduceAdd, Int.reduceSub, Int.reduceMul, Int.reduceNeg, Int.reduceLT, Int.reduceLE, Int.reduceEq, Int.reduceNe, Int.reduceToNat, UInt8.reduceToNat, reduceCtorEq, and_true, true_and, decide_true, decide_false]
    · simp only [publishE, hA, hS, g1, g2, if_true, if_false, Bool.false_eq_true]
    refine (nextC_step 9 _ _ _ _).trans ?_
    simp only [go_sem, Nat.reduceAdd, Nat.reduceMul, Nat.reduceSub, Nat.reduceEqDiff, Nat.reduceLeDiff, Nat.reduceLT, Int.reduceAdd, Int.reduceSub, Int.reduceMul, Int.reduceNeg, Int.reduceLT, Int.reduceLE, Int.reduceEq, Int.reduceNe, Int.reduceToNat, UInt8.reduceToNat, reduceCtorEq, and_true, true_and, decide_true, decide_false, r3]
    refine condC_split (fun g3 => ?_) (fun g3 => ?_) <;> simp only [go_sem, Nat.reduceAdd, Nat.reduceMul, Nat.reduceSub, Nat.reduceEqDiff, Nat.reduceLeDiff, Nat.reduceLT, Int.reduceAdd, Int.reduceSub, Int.reduceMul, Int.reduceNeg, Int.reduceLT, Int.reduceLE, Int.reduceEq, Int.reduceNe, Int.reduceToNat, UInt8.reduceToNat, reduceCtorEq, and_true, true_and, decide_true, decide_false]
    · simp only [publishE, hA, hS, g1, g2, g3, if_true, if_false, Bool.false_eq_true]
    refine (nextC_step 8 _ _ _ _).trans ?_
    simp only [go_sem, Nat.reduceAdd, Nat.reduceMul, Nat.reduceSub, Nat.reduceEqDiff, Nat.reduceLeDiff, Nat.reduceLT, Int.reduceAdd, Int.reduceSub, Int.reduceMul, Int.reduceNeg, Int.reduceLT, Int.reduceLE, Int.reduceEq, Int.reduceNe, Int.reduceToNat, UInt8.reduceToNat, reduceCtorEq, and_true, true_and, decide_true, decide_false, r4]
    refine condC_split (fun g4 => ?_) (fun g4 => ?_) <;> simp only [go_sem, Nat.reduceAdd, Nat.reduceMul, Nat.reduceSub, Nat.reduceEqDiff, Nat.reduceLeDiff, Nat.reduceLT, Int.reduceAdd, Int.reduceSub, Int.reduceMul, Int.reduceNeg, Int.reduceLT, Int.reduceLE, Int.reduceEq, Int.reduceNe, Int.reduceToNat, UInt8.reduceToNat, reduceCtorEq, and_true, true_and, decide_true, decide_false]
    · simp only [publishE, hA, hS, g1, g2, g3, g4, if_true, if_false, Bool.false_eq_true]
    refine (nextC_step 7 _ _ _ _).trans ?_
    simp only [go_sem, Nat.reduceAdd, Nat.reduceMul, Nat.reduceSub, Nat.reduceEqDiff, Nat.reduceLeDiff, Nat.reduceLT, Int.reduceAdd, Int.reduceSub, Int.reduceMul, Int.reduceNeg, Int.reduceLT, Int.reduceLE, Int.reduceEq, Int.reduceNe, Int.reduceToNat, UInt8.reduceToNat, reduceCtorEq, and_true, true_and, decide_true, decide_false, r5]
    refine condC_split (fun g5 => ?_) (fun g5 => ?_) <;> simp only [go_sem, Nat.reduceAdd, Nat.reduceMul, Nat.reduceSub, Nat.reduceEqDiff, Nat.reduceLeDiff, Nat.reduceLT, Int.reduceAdd, Int.reduceSub, Int.reduceMul, Int.reduceNeg, Int.reduceLT, Int.reduceLE, Int.reduceEq, Int.reduceNe, Int.reduceToNat, UInt8.reduceToNat, reduceCtorEq, and_true, true_and, decide_true, decide_false]
    · simp only [publishE, hA, hS, g1, g2, g3, g4, g5, if_true, if_false, Bool.false_eq_true]
    refine (nextC_step 6 _ _ _ _).trans ?_
    simp only [go_sem, Nat.reduceAdd, Nat.reduceMul, Nat.reduceSub, Nat.reduceEqDiff, Nat.reduceLeDiff, Nat.reduceLT, Int.reduceAdd, Int.reduceSub, Int.reduceMul, Int.reduceNeg, Int.reduceLT, Int.reduceLE, Int.reduceEq, Int.reduceNe, Int.reduceToNat, UInt8.reduceToNat, reduceCtorEq, and_true, true_and, decide_true, decide_false, r6]
    refine condC_split (fun g6 => ?_) (fun g6 => ?_) <;> simp only [go_sem, Nat.reduceAdd, Nat.reduceMul, Nat.reduceSub, Nat.reduceEqDiff, Nat.reduceLeDiff, Nat.reduceLT, Int.reduceAdd, Int.reduceSub, Int.reduceMul, Int.reduceNeg, Int.reduceLT, Int.reduceLE, Int.reduceEq, Int.reduceNe, Int.reduceToNat, UInt8.reduceToNat, reduceCtorEq, and_true, true_and, decide_true, decide_false]
    · simp only [publishE, hA, hS, g1, g2, g3, g4, g5, g6, if_true, if_false, Bool.false_eq_true]
    refine (nextC_step 5 _ _ _ _).trans ?_
    simp only [go_sem, Nat.reduceAdd, Nat.reduceMul, Nat.reduceSub, Nat.reduceEqDiff, Nat.reduceLeDiff, Nat.reduceLT, Int.reduceAdd, Int.reduceSub, Int.reduceMul, Int.reduceNeg, Int.reduceLT, Int.reduceLE, Int.reduceEq, Int.reduceNe, Int.reduceToNat, UInt8.reduceToNat, reduceCtorEq, and_true, true_and, decide_true, decide_false, r7]
    refine condC_split (fun g7 => ?_) (fun g7 => ?_) <;> simp only [go_sem, Nat.reduceAdd, Nat.reduceMul, Nat.reduceSub, Nat.reduceEqDiff, Nat.reduceLeDiff, Nat.reduceLT, Int.reduceAdd, Int.reduceSub, Int.reduceMul, Int.reduceNeg, Int.reduceLT, Int.reduceLE, Int.reduceEq, Int.reduceNe, Int.reduceToNat, UInt8.reduceToNat, reduceCtorEq, and_true, true_and, decide_true, decide_false]
    · simp only [publishE, hA, hS, g1, g2, g3, g4, g5, g6, g7, if_true, if_false, Bool.false_eq_true]
    refine (nextC_step 4 _ _ _ _).trans ?_
    simp only [go_sem, Nat.reduceAdd, Nat.reduceMul, Nat.reduceSub, Nat.reduceEqDiff, Nat.reduceLeDiff, Nat.reduceLT, Int.reduceAdd, Int.reduceSub, Int.reduceMul, Int.reduceNeg, Int.reduceLT, Int.reduceLE, Int.reduceEq, Int.reduceNe, Int.reduceToNat, UInt8.reduceToNat, reduceCtorEq, and_true, true_and, decide_true, decide_false, r8]
    refine condC_split (fun g8 => ?_) (fun g8 => ?_) <;> simp only [go_sem, Nat.reduceAdd, Nat.reduceMul, Nat.reduceSub, Nat.reduceEqDiff, Nat.reduceLeDiff, Nat.reduceLT, Int.reduceAdd, Int.reduceSub, Int.reduceMul, Int.reduceNeg, Int.reduceLT, Int.reduceLE, Int.reduceEq, Int.reduceNe, Int.reduceToNat, UInt8.reduceToNat, reduceCtorEq, and_true, true_and, decide_true, decide_false]
    · simp only [publishE, hA, hS, g1, g2, g3, g4, g5, g6, g7, g8, if_true, if_false, Bool.false_eq_true]
    refine (nextC_step 3 _ _ _ _).trans ?_
    simp only [go_sem, Nat.reduceAdd, Nat.reduceMul, Nat.reduceSub, Nat.reduceEqDiff, Nat.reduceLeDiff, Nat.reduceLT, Int.reduceAdd, Int.reduceSub, Int.reduceMul, Int.reduceNeg, Int.reduceLT, Int.reduceLE, Int.reduceEq, Int.reduceNe, Int.reduceToNat, UInt8.reduceToNat, reduceCtorEq, and_true, true_and, decide_true, decide_false, r9]
    refine condC_split (fun g9 => ?_) (fun g9 => ?_) <;> simp only [go_sem, Nat.reduceAdd, Nat.reduceMul, Nat.reduceSub, Nat.reduceEqDiff, Nat.reduceLeDiff, Nat.reduceLT, Int.reduceAdd, Int.reduceSub, Int.reduceMul, Int.reduceNeg, Int.reduceLT, Int.reduceLE, Int.reduceEq, Int.reduceNe, Int.reduceToNat, UInt8.reduceToNat, reduceCtorEq, and_true, true_and, decide_true, decide_false]
    · simp only [publishE, hA, hS, g1, g2, g3, g4, g5, g6, g7, g8, g9, if_true, if_false, Bool.false_eq_true]
    refine (nextC_step 2 _ _ _ _).trans ?_
    simp only [go_sem, Nat.reduceAdd, Nat.reduceMul, Nat.reduceSub, Nat.reduceEqDiff, Nat.reduceLeDiff, Nat.reduceLT, Int.reduceAdd, Int.reduceSub, Int.reduceMul, Int.reduceNeg, Int.reduceLT, Int.reduceLE, Int.reduceEq, Int.reduceNe, Int.reduceToNat, UInt8.reduceToNat, reduceCtorEq, and_true, true_and, decide_true, decide_false, r10]
    refine condC_split (fun g10 => ?_) (fun g10 => ?_) <;> simp only [go_sem, Nat.reduceAdd, Nat.reduceMul, Nat.reduceSub, Nat.reduceEqDiff, Nat.reduceLeDiff, Nat.reduceLT, Int.reduceAdd, Int.reduceSub, Int.reduceMul, Int.reduceNeg, Int.reduceLT, Int.reduceLE, Int.reduceEq, Int.reduceNe, Int.reduceToNat, UInt8.reduceToNat, reduceCtorEq, and_true, true_and, decide_true, decide_false]
    · simp only [publishE, hA, hS, g1, g2, g3, g4, g5, g6, g7, g8, g9, g10, if_true, if_false, Bool.false_eq_true]
    refine (nextC_step 1 _ _ _ _).trans ?_
    simp only [go_sem, Nat.reduceAdd, Nat.reduceMul, Nat.reduceSub, Nat.reduceEqDiff, Nat.reduceLeDiff, Nat.reduceLT, Int.reduceAdd, Int.reduceSub, Int.reduceMul, Int.reduceNeg, Int.reduceLT, Int.reduceLE, Int.reduceEq, Int.reduceNe, Int.reduceToNat, UInt8.reduceToNat, reduceCtorEq, and_true, true_and, decide_true, decide_false, r11]
    refine condC_split (fun g11 => ?_) (fun g11 => ?_) <;> simp only [go_sem, Nat.reduceAdd, Nat.reduceMul, Nat.reduceSub, Nat.reduceEqDiff, Nat.reduceLeDiff, Nat.reduceLT, Int.reduceAdd, Int.reduceSub, Int.reduceMul, Int.reduceNeg, Int.reduceLT, Int.reduceLE, Int.reduceEq, Int.reduceNe, Int.reduceToNat, UInt8.reduceToNat, reduceCtorEq, and_true, true_and, decide_true, decide_false]
    · simp only [publishE, hA, hS, g1, g2, g3, g4, g5, g6, g7, g8, g9, g10, g11, if_true, if_false, Bool.false_eq_true]
    refine (nextC_step 0 _ _ _ _).trans ?_
    simp only [go_sem, Nat.reduceAdd, Nat.reduceMul, Nat.reduceSub, Nat.reduceEqDiff, Nat.reduceLeDiff, Nat.reduceLT, Int.reduceAdd, Int.reduceSub, Int.reduceMul, Int.reduceNeg, Int.reduceLT, Int.reduceLE, Int.reduceEq, Int.reduceNe, Int.reduceToNat, UInt8.reduceToNat, reduceCtorEq, and_true, true_and, decide_true, decide_false]
    simp only [publishE, hA, hS, g1, g2, g3, g4, g5, g6, g7, g8, g9, g10, g11, if_false, Bool.false_eq_true]
def rightL (l : GLimits) : Bool := decide (16 ≤ l.maxpacket ∧ l.maxpacket ≤ 1048576 ∧ 0 ≤ l.maxdepth ∧ l.maxdepth ≤ 32)
theorem eventRight_ok (l : GLimits) : (lim0 E).pure 30 [l.pv] = some (.bool (rightL l)) := by
  refine pure_of (0) ?_; rw [go_30]; unfold Tryz.f30; simp only [go_sem, Nat.reduceAdd, Nat.reduceMul, Nat.reduceSub, Nat.reduceEqDiff, Nat.reduceLeDiff, Nat.reduceLT, Int.reduceAdd, Int.reduceSub, Int.reduceMul, Int.reduceNeg, Int.reduceLT, Int.reduceLE, Int.reduceEq, Int.reduceNe, Int.reduceToNat, UInt8.reduceToNat, reduceCtorEq, and_true, true_and, decide_true, decide_false]
  repeat' (first | (refine grdC_split (fun h => ?_) (fun h => ?_) <;> try simp only [go_sem, Nat.reduceAdd, Nat.reduceMul, Nat.reduceSub, Nat.reduceEqDiff, Nat.reduceLeDiff, Nat.reduceLT, Int.reduceAdd, Int.reduceSub, Int.reduceMul, Int.reduceNeg, Int.reduceLT, Int.reduceLE, Int.reduceEq, Int.reduceNe, Int.reduceToNat, UInt8.reduceToNat, reduceCtorEq, and_true, true_and, decide_true, decide_false]) | (refine condC_split (fun h => ?_) (fun h => ?_) <;> try simp only [go_sem, Nat.reduceAdd, Nat.reduceMul, Nat.reduceSub, Nat.reduceEqDiff, Nat.reduceLeDiff, Nat.reduceLT, Int.reduceAdd, Int.reduceSub, Int.reduceMul, Int.reduceNeg, Int.reduceLT, Int.reduceLE, Int.reduceEq, Int.reduceNe, Int.reduceToNat, UInt8.reduceToNat, reduceCtorEq, and_true, true_and, decide_true, decide_false]) | (refine bcond_eq (fun h => ?_) (fun h => ?_) <;> try simp only [go_sem, Nat.reduceAdd, Nat.reduceMul, Nat.reduceSub, Nat.reduceEqDiff, Nat.reduceLeDiff, Nat.reduceLT, Int.reduceAdd, Int.reduceSub, Int.reduceMul, Int.reduceNeg, Int.reduceLT, Int.reduceLE, Int.reduceEq, Int.reduceNe, Int.reduceToNat, UInt8.reduceToNat, reduceCtorEq, and_true, true_and, decide_true, decide_false]))
  all_goals (refine sb ?_; simp [rightL] at *; try omega)
  all_goals trace_state
set_option maxHeartbeats 4000000 in
theorem checkPub_ok (e : GEvent) (l : GLimits) (h : wfE e) (hk : e.kind = 1) : (lim0 E).pure 8 [e.pv, l.pv] = some (.int .i64 (if rightL l then (if publishE e ≠ 0 then publishE e else if l.maxpacket < (e.payload.length : Int) then 4 else 0) else 2)) := by
  have e1 := eventRight_ok l
  have e2 := publish_ok e h
  refine pure_of (0) ?_; rw [go_8]; unfold Tryz.f8; simp only [go_sem, Nat.reduceAdd, Nat.reduceMul, Nat.reduceSub, Nat.reduceEqDiff, Nat.reduceLeDiff, Nat.reduceLT, Int.reduceAdd, Int.reduceSub, Int.reduceMul, Int.reduceNeg, Int.reduceLT, Int.reduceLE, Int.reduceEq, Int.reduceNe, Int.reduceToNat, UInt8.reduceToNat, reduceCtorEq, and_true, true_and, decide_true, decide_false, e1, e2, hk]
  repeat' (first | (refine grdC_split (fun h => ?_) (fun h => ?_) <;> try simp only [go_sem, Nat.reduceAdd, Nat.reduceMul, Nat.reduceSub, Nat.reduceEqDiff, Nat.reduceLeDiff, Nat.reduceLT, Int.reduceAdd, Int.reduceSub, Int.reduceMul, Int.reduceNeg, Int.reduceLT, Int.reduceLE, Int.reduceEq, Int.reduceNe, Int.reduceToNat, UInt8.reduceToNat, reduceCtorEq, and_true, true_and, decide_true, decide_false, e2]) | (refine condC_split (fun h => ?_) (fun h => ?_) <;> try simp only [go_sem, Nat.reduceAdd, Nat.reduceMul, Nat.reduceSub, Nat.reduceEqDiff, Nat.reduceLeDiff, Nat.reduceLT, Int.reduceAdd, Int.reduceSub, Int.reduceMul, Int.reduceNeg, Int.reduceLT, Int.reduceLE, Int.reduceEq, Int.reduceNe, Int.reduceToNat, UInt8.reduceToNat, reduceCtorEq, and_true, true_and, decide_true, decide_false, e2]) | (refine bcond_eq (fun h => ?_) (fun h => ?_) <;> try simp only [go_sem, Nat.reduceAdd, Nat.reduceMul, Nat.reduceSub, Nat.reduceEqDiff, Nat.reduceLeDiff, Nat.reduceLT, Int.reduceAdd, Int.reduceSub, Int.reduceMul, Int.reduceNeg, Int.reduceLT, Int.reduceLE, Int.reduceEq, Int.reduceNe, Int.reduceToNat, UInt8.reduceToNat, reduceCtorEq, and_true, true_and, decide_true, decide_false, e2]))
  all_goals simp_all
  all_goals trace_state
end Go.Proofs.YtflehnedcjjdjaaGreatDoor
namespace Go.Pu
/-- Does a byte that goes on stand at a place? -/
def contB (t : List UInt8) (k : Nat) : Bool := match t[k]? with | some b => decide (128 ≤ b.toNat ∧ b.toNat < 192) | none => false
def byt (t : List UInt8) (k : Nat) : Nat := match t[k]? with | some b => b.toNat | none => 0
theorem get_at (s : List UInt8) (k : Nat) : (ByteArray.get! ⟨s.toArray⟩ (0 + k)).toNat = byt s k := by
  show ((s.toArray)[0 + k]!).toNat = _
  rw [Nat.zero_add]
  unfold byt
  cases h : s[k]? with
  | none => simp [h]; rfl
  | some b => simp [h]
theorem cont_at (s : List UInt8) (k : Nat) : ((decide (0 + k < s.length)) && (byt s k / 64 == 2)) = contB s k := by
  unfold contB byt
  cases h : s[k]? with
  | none =>
    have := List.getElem?_eq_none_iff.1 h
    simp
  | some b =>
    have : k < s.length := by
      rcases Nat.lt_or_ge k s.length with h1 | h1
      · exact h1
      · rw [List.getElem?_eq_none h1] at h; cases h
    have h2 : b.toNat < 256 := UInt8.toNat_lt b
    apply Bool.eq_iff_iff.2; simp only [Bool.and_eq_true, decide_eq_true_eq, beq_iff_eq]
    omega
/-- The code point that a text begins with, and its width; 65533 and 1 where none begins. -/
def runeL (s : List UInt8) : Nat × Nat :=
  if byt s 0 < 128 then (byt s 0, 1)
  else if (decide (192 ≤ byt s 0 ∧ byt s 0 < 224) && contB s 1) = true then
    if 128 ≤ (byt s 0 - 192) * 64 + (byt s 1 - 128) then ((byt s 0 - 192) * 64 + (byt s 1 - 128), 2) else (65533, 1)
  else if (decide (224 ≤ byt s 0 ∧ byt s 0 < 240) && contB s 1 && contB s 2) = true then
    if 2048 ≤ (byt s 0 - 224) * 4096 + (byt s 1 - 128) * 64 + (byt s 2 - 128) ∧ ¬ (55296 ≤ (byt s 0 - 224) * 4096 + (byt s 1 - 128) * 64 + (byt s 2 - 128) ∧ (byt s 0 - 224) * 4096 + (byt s 1 - 128) * 64 + (byt s 2 - 128) ≤ 57343)
    then ((byt s 0 - 224) * 4096 + (byt s 1 - 128) * 64 + (byt s 2 - 128), 3) else (65533, 1)
  else if (decide (240 ≤ byt s 0 ∧ byt s 0 < 248) && contB s 1 && contB s 2 && contB s 3) = true then
    if 65536 ≤ (byt s 0 - 240) * 262144 + (byt s 1 - 128) * 4096 + (byt s 2 - 128) * 64 + (byt s 3 - 128) ∧ (byt s 0 - 240) * 262144 + (byt s 1 - 128) * 4096 + (byt s 2 - 128) * 64 + (byt s 3 - 128) ≤ 1114111
    then ((byt s 0 - 240) * 262144 + (byt s 1 - 128) * 4096 + (byt s 2 - 128) * 64 + (byt s 3 - 128), 4) else (65533, 1)
  else (65533, 1)
theorem byt_lt (s : List UInt8) (k : Nat) : byt s k < 256 := by
  unfold byt
  split
  · exact UInt8.toNat_lt _
  · omega
theorem contB_range {s : List UInt8} {k : Nat} (h : contB s k = true) : 128 ≤ byt s k ∧ byt s k < 192 := by
  unfold contB at h
  unfold byt
  split at h
  · simpa using h
  · cases h
theorem runeAt_eq (s : List UInt8) : runeAt s = runeL s := by
  have h0 := byt_lt s 0
  unfold runeAt Utf8.decode runeL
  simp only [get_at, ByteArray.size, List.size_toArray, cont_at, Utf8.runeError]
  by_cases c0 : byt s 0 < 128
  · rw [if_pos c0, if_pos c0]
  rw [if_neg c0, if_neg c0]
  have e1 : ((byt s 0 / 32 == 6) && contB s 1) = (decide (192 ≤ byt s 0 ∧ byt s 0 < 224) && contB s 1) := by
    congr 1; apply Bool.eq_iff_iff.2; simp only [beq_iff_eq, decide_eq_true_eq]; omega
  have e2 : ((byt s 0 / 16 == 14) && contB s 1 && contB s 2) = (decide (224 ≤ byt s 0 ∧ byt s 0 < 240) && contB s 1 && contB s 2) := by
    congr 2; apply Bool.eq_iff_iff.2; simp only [beq_iff_eq, decide_eq_true_eq]; omega
  have e3 : ((byt s 0 / 8 == 30) && contB s 1 && contB s 2 && contB s 3) = (decide (240 ≤ byt s 0 ∧ byt s 0 < 248) && contB s 1 && contB s 2 && contB s 3) := by
    congr 3; apply Bool.eq_iff_iff.2; simp only [beq_iff_eq, decide_eq_true_eq]; omega
  rw [e1, e2, e3]
  by_cases c1 : (decide (192 ≤ byt s 0 ∧ byt s 0 < 224) && contB s 1) = true
  · rw [if_pos c1, if_pos c1]
    simp only [Bool.and_eq_true, decide_eq_true_eq] at c1
    have r1 := contB_range c1.2
    rw [show byt s 0 % 32 * 64 + byt s 1 % 64 = (byt s 0 - 192) * 64 + (byt s 1 - 128) by omega]
  rw [if_neg c1, if_neg c1]
  by_cases c2 : (decide (224 ≤ byt s 0 ∧ byt s 0 < 240) && contB s 1 && contB s 2) = true
  · rw [if_pos c2, if_pos c2]
    simp only [Bool.and_eq_true, decide_eq_true_eq] at c2
    have r1 := contB_range c2.1.2
    have r2 := contB_range c2.2
    rw [show byt s 0 % 16 * 4096 + byt s 1 % 64 * 64 + byt s 2 % 64 = (byt s 0 - 224) * 4096 + (byt s 1 - 128) * 64 + (byt s 2 - 128) by omega]
    generalize hc : (byt s 0 - 224) * 4096 + (byt s 1 - 128) * 64 + (byt s 2 - 128) = c
    have : c < 65536 := by omega
    have hv : Utf8.valid (c : Int) = true ↔ ¬ (55296 ≤ c ∧ c ≤ 57343) := by
      unfold Utf8.valid
      simp only [Bool.or_eq_true, Bool.and_eq_true, decide_eq_true_eq]
      omega
    by_cases hh : 2048 ≤ c ∧ ¬ (55296 ≤ c ∧ c ≤ 57343)
    · rw [if_pos hh, if_pos (by simp only [Bool.and_eq_true, decide_eq_true_eq]; exact ⟨hh.1, hv.2 hh.2⟩)]
    · rw [if_neg hh, if_neg (by simp only [Bool.and_eq_true, decide_eq_true_eq]; exact fun h => hh ⟨h.1, hv.1 h.2⟩)]
  rw [if_neg c2, if_neg c2]
  by_cases c3 : (decide (240 ≤ byt s 0 ∧ byt s 0 < 248) && contB s 1 && contB s 2 && contB s 3) = true
  · rw [if_pos c3, if_pos c3]
    simp only [Bool.and_eq_true, decide_eq_true_eq] at c3
    have r1 := contB_range c3.1.1.2
    have r2 := contB_range c3.1.2
    have r3 := contB_range c3.2
    rw [show byt s 0 % 8 * 262144 + byt s 1 % 64 * 4096 + byt s 2 % 64 * 64 + byt s 3 % 64 = (byt s 0 - 240) * 262144 + (byt s 1 - 128) * 4096 + (byt s 2 - 128) * 64 + (byt s 3 - 128) by omega]
    generalize hc : (byt s 0 - 240) * 262144 + (byt s 1 - 128) * 4096 + (byt s 2 - 128) * 64 + (byt s 3 - 128) = c
    have hv : 65536 ≤ c → (Utf8.valid (c : Int) = true ↔ c ≤ 1114111) := by
      intro h
      unfold Utf8.valid
      simp only [Bool.or_eq_true, Bool.and_eq_true, decide_eq_true_eq]
      omega
    by_cases hh : 65536 ≤ c ∧ c ≤ 1114111
    · rw [if_pos hh, if_pos (by simp only [Bool.and_eq_true, decide_eq_true_eq]; exact ⟨hh.1, (hv hh.1).2 hh.2⟩)]
    · rw [if_neg hh, if_neg (by simp only [Bool.and_eq_true, decide_eq_true_eq]; exact fun h => hh ⟨h.1, (hv h.1).1 h.2⟩)]
  rw [if_neg c3, if_neg c3]
end Go.Pu
namespace Go.Proofs.YtflehnedcjjdjaaGreatDoor
open Go.Pu
attribute [local irreducible] grdC condC bcond obind nextC loopG loopC loopD grdX grdD grunC stepC putC regK execK startC enterL stayC againC backC opC retH retU bodyL finP finS finW loopN seqC blockC nrmC
theorem byt_get {s : List UInt8} {k : Nat} (h : k < s.length) : (byt s k : Int) = (s[k].toNat : Int) := by
  unfold byt; rw [List.getElem?_eq_getElem h]
theorem contB_get {s : List UInt8} {k : Nat} (h : k < s.length) : contB s k = decide (128 ≤ s[k].toNat ∧ s[k].toNat < 192) := by
  unfold contB; rw [List.getElem?_eq_getElem h]
theorem contB_end {s : List UInt8} {k : Nat} (h : s.length ≤ k) : contB s k = false := by
  unfold contB; rw [List.getElem?_eq_none h]
theorem byt_drop (s : List UInt8) (p k : Nat) : byt (s.drop p) k = byt s (p + k) := by unfold byt; rw [List.getElem?_drop]
theorem contB_drop (s : List UInt8) (p k : Nat) : contB (s.drop p) k = contB s (p + k) := by unfold contB; rw [List.getElem?_drop]
theorem whole_byt (s : List UInt8) : wholeB s = true ↔ byt s 0 = 239 ∧ byt s 1 = 191 ∧ byt s 2 = 189 := by
  have e : ∀ (a : UInt8) (n : Nat), n < 256 → (a = UInt8.ofNat n ↔ a.toNat = n) := by
    intro a n h
    constructor
    · rintro rfl; rw [UInt8.toNat_ofNat']; omega
    · intro h; apply UInt8.toNat_inj.1; rw [UInt8.toNat_ofNat']; omega
  match s with
  | [] => simp [wholeB, byt]
  | [a] => simp [wholeB, byt]
  | [a, b] => simp [wholeB, byt]
  | a :: b :: c :: t =>
    simp only [wholeB, byt, List.length_cons, List.take_succ_cons, List.take_zero, List.cons.injEq, and_true, Bool.and_eq_true, decide_eq_true_eq, List.getElem?_cons_zero, List.getElem?_cons_succ]
    rw [← e a 239 (by omega), ← e b 191 (by omega), ← e c 189 (by omega)]
    exact ⟨fun h => h.2, fun h => ⟨by omega, h⟩⟩
/-- The code point that begins, and its bytes; 0 of it: none does. -/
def ptL (s : List UInt8) : Int × Int := if runeL s = (65533, 1) then (0, 0) else ((runeL s).1, (runeL s).2)
theorem rune_bad (s : List UInt8) : ((runeL s).1 = 65533 ∧ wholeB s = false) ↔ runeL s = (65533, 1) := by
  rw [← Bool.not_eq_true, whole_byt]
  have h0 := byt_lt s 0
  have r1 := fun h => @contB_range s 1 h
  have r2 := fun h => @contB_range s 2 h
  have r3 := fun h => @contB_range s 3 h
  unfold runeL
  generalize hb0 : byt s 0 = b0 at *
  generalize hb1 : byt s 1 = b1 at *
  generalize hb2 : byt s 2 = b2 at *
  generalize hb3 : byt s 3 = b3 at *
  have hc : b1 = 191 → contB s 1 = true := by
    intro h; rw [← hb1] at h; unfold contB; unfold byt at h; split at h <;> simp_all
  have hc2 : b2 = 189 → contB s 2 = true := by
    intro h; rw [← hb2] at h; unfold contB; unfold byt at h; split at h <;> simp_all
  split
  · simp; omega
  split
  · rename_i h1 h2
    simp only [Bool.and_eq_true, decide_eq_true_eq] at h2
    have := r1 h2.2
    split <;> simp <;> omega
  split
  · rename_i h1 h2 h3
    simp only [Bool.and_eq_true, decide_eq_true_eq] at h3
    have := r1 h3.1.2
    have := r2 h3.2
    split <;> simp <;> omega
  rename_i h1 h2 h3
  have key : ¬ (b0 = 239 ∧ b1 = 191 ∧ b2 = 189) := by
    rintro ⟨e0, e1, e2⟩
    exact h3 (by rw [hc e1, hc2 e2]; simp; omega)
  split
  · rename_i h4
    simp only [Bool.and_eq_true, decide_eq_true_eq] at h4
    have := r1 h4.1.1.2
    have := r2 h4.1.2
    have := r3 h4.2
    split <;> simp <;> omega
  · simp; omega
theorem ptL_ne {s : List UInt8} (h : runeL s ≠ (65533, 1)) : ptL s = (((runeL s).1 : Int), ((runeL s).2 : Int)) := by unfold ptL; rw [if_neg h]
theorem badW_pt (rest : List UInt8) (pos : Nat) (h : rest ≠ []) : badW rest pos = if (ptL rest).2 = 0 ∨ (ptL rest).1 = 0 then (pos : Int) else badW (rest.drop (ptL rest).2.toNat) (pos + (ptL rest).2.toNat) := by
  have hw := runeAt_pos rest
  rw [badW, dif_neg h]
  rw [runeAt_eq] at *
  by_cases hb : runeL rest = (65533, 1)
  · rw [if_pos (Or.inr ((rune_bad rest).2 hb)), if_pos (by unfold ptL; rw [if_pos hb]; simp)]
  · have h2 : ¬ ((runeL rest).1 = 65533 ∧ wholeB rest = false) := fun e => hb ((rune_bad rest).1 e)
    rw [ptL_ne hb]
    by_cases hc : (runeL rest).1 = 0
    · rw [if_pos (.inl hc), if_pos (.inr (by simp [hc]))]
    · rw [if_neg (by rintro (e | e); exact hc e; exact h2 e), if_neg (by simp only []; omega)]
      simp
theorem ptL_cases (s : List UInt8) : ((ptL s).1 = 0 ∧ (ptL s).2 = 0) ∨ (∃ w : Nat, (ptL s).2 = w ∧ 1 ≤ w ∧ w ≤ 4 ∧ 0 ≤ (ptL s).1 ∧ (ptL s).1 ≤ 1114111) := by
  unfold ptL
  split
  · left; simp
  · right
    refine ⟨(runeL s).2, rfl, ?_⟩
    have h0 := byt_lt s 0
    have r1 := fun h => @contB_range s 1 h
    have r2 := fun h => @contB_range s 2 h
    have r3 := fun h => @contB_range s 3 h
    unfold runeL
    split
    · simp; omega
    split
    · rename_i h1 h2
      simp only [Bool.and_eq_true, decide_eq_true_eq] at h2
      have := r1 h2.2
      split <;> simp <;> omega
    split
    · rename_i h1 h2 h3
      simp only [Bool.and_eq_true, decide_eq_true_eq] at h3
      have := r1 h3.1.2
      have := r2 h3.2
      split <;> simp <;> omega
    split
    · rename_i h1 h2 h3 h4
      split <;> simp <;> omega
    · simp
@[go_sem] theorem more_ok (s : List UInt8) (k : Nat) : (lim0 E).pure 74 [.str s, .int .i64 (k : Int)] = some (.tup [.int .i64 (if contB s k then (byt s k : Int) - 128 else 0), .bool (contB s k)]) := by
  refine pure_of (0) ?_; rw [go_74]; unfold Tryz.f74; simp only [go_sem, Nat.reduceAdd, Nat.reduceMul, Nat.reduceSub, Nat.reduceEqDiff, Nat.reduceLeDiff, Nat.reduceLT, Int.reduceAdd, Int.reduceSub, Int.reduceMul, Int.reduceNeg, Int.reduceLT, Int.reduceLE, Int.reduceEq, Int.reduceNe, Int.reduceToNat, UInt8.reduceToNat, reduceCtorEq, and_true, true_and, decide_true, decide_false]
  rcases Nat.lt_or_ge k s.length with h | h
  · have hk := List.getElem?_eq_getElem h
    have hg := byt_get h
    have hc := contB_get h
    have : s[k].toNat < 256 := UInt8.toNat_lt _
    repeat' (first | (refine grdC_split (fun h => ?_) (fun h => ?_) <;> try simp only [go_sem, Nat.reduceAdd, Nat.reduceMul, Nat.reduceSub, Nat.reduceEqDiff, Nat.reduceLeDiff, Nat.reduceLT, Int.reduceAdd, Int.reduceSub, Int.reduceMul, Int.reduceNeg, Int.reduceLT, Int.reduceLE, Int.reduceEq, Int.reduceNe, Int.reduceToNat, UInt8.reduceToNat, reduceCtorEq, and_true, true_and, decide_true, decide_false, hk]) | (refine condC_split (fun h => ?_) (fun h => ?_) <;> try simp only [go_sem, Nat.reduceAdd, Nat.reduceMul, Nat.reduceSub, Nat.reduceEqDiff, Nat.reduceLeDiff, Nat.reduceLT, Int.reduceAdd, Int.reduceSub, Int.reduceMul, Int.reduceNeg, Int.reduceLT, Int.reduceLE, Int.reduceEq, Int.reduceNe, Int.reduceToNat, UInt8.reduceToNat, reduceCtorEq, and_true, true_and, decide_true, decide_false, hk]) | (refine bcond_eq (fun h => ?_) (fun h => ?_) <;> try simp only [go_sem, Nat.reduceAdd, Nat.reduceMul, Nat.reduceSub, Nat.reduceEqDiff, Nat.reduceLeDiff, Nat.reduceLT, Int.reduceAdd, Int.reduceSub, Int.reduceMul, Int.reduceNeg, Int.reduceLT, Int.reduceLE, Int.reduceEq, Int.reduceNe, Int.reduceToNat, UInt8.reduceToNat, reduceCtorEq, and_true, true_and, decide_true, decide_false, hk]))
    all_goals first
      | (exfalso; simp at *; omega)
      | (rw [hc, hg]; simp at *; first | (constructor <;> intros <;> omega) | (rw [w_in (n := (s[k].toNat : Int)) (by omega) (by omega), w_in (by omega) (by omega), if_pos (by omega)]; omega))
  · have hc := contB_end h
    repeat' (first | (refine grdC_split (fun h => ?_) (fun h => ?_) <;> try simp only [go_sem, Nat.reduceAdd, Nat.reduceMul, Nat.reduceSub, Nat.reduceEqDiff, Nat.reduceLeDiff, Nat.reduceLT, Int.reduceAdd, Int.reduceSub, Int.reduceMul, Int.reduceNeg, Int.reduceLT, Int.reduceLE, Int.reduceEq, Int.reduceNe, Int.reduceToNat, UInt8.reduceToNat, reduceCtorEq, and_true, true_and, decide_true, decide_false, h]) | (refine condC_split (fun h => ?_) (fun h => ?_) <;> try simp only [go_sem, Nat.reduceAdd, Nat.reduceMul, Nat.reduceSub, Nat.reduceEqDiff, Nat.reduceLeDiff, Nat.reduceLT, Int.reduceAdd, Int.reduceSub, Int.reduceMul, Int.reduceNeg, Int.reduceLT, Int.reduceLE, Int.reduceEq, Int.reduceNe, Int.reduceToNat, UInt8.reduceToNat, reduceCtorEq, and_true, true_and, decide_true, decide_false, h]) | (refine bcond_eq (fun h => ?_) (fun h => ?_) <;> try simp only [go_sem, Nat.reduceAdd, Nat.reduceMul, Nat.reduceSub, Nat.reduceEqDiff, Nat.reduceLeDiff, Nat.reduceLT, Int.reduceAdd, Int.reduceSub, Int.reduceMul, Int.reduceNeg, Int.reduceLT, Int.reduceLE, Int.reduceEq, Int.reduceNe, Int.reduceToNat, UInt8.reduceToNat, reduceCtorEq, and_true, true_and, decide_true, decide_false, h]))
    all_goals first
      | (exfalso; simp at *; omega)
      | (rw [hc]; simp; done)
end Go.Proofs.YtflehnedcjjdjaaGreatDoor
