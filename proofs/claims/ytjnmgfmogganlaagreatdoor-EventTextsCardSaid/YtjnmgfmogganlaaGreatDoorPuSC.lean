/-
  Contracts: hops and the datagram that answers a ping.
-/
import Derived.Test.YtjnmgfmogganlaaGreatDoorPuSB
set_option linter.unusedSimpArgs false
set_option linter.unusedVariables false
namespace Go.Proofs.YtjnmgfmogganlaaGreatDoor
open Go.Pu
set_option maxRecDepth 100000
attribute [local irreducible] grdC condC bcond obind nextC loopG loopC loopD grdX grdD grunC stepC putC regK execK startC enterL stayC againC backC opC retH retU bodyL finP finS finW loopN seqC blockC nrmC

attribute [go_sem] str_add
@[go_sem] theorem putL_length (n : Int) (k : Nat) : (putL n k).length = k := putI_length n k k
theorem put1_ok (n : Int) : (lim0 E).pure 81 [.int .u64 n, .int .i64 1] = some (.str (putL n 1)) := put_ok n 1 (by omega) (by omega)
theorem put2_ok (n : Int) : (lim0 E).pure 81 [.int .u64 n, .int .i64 2] = some (.str (putL n 2)) := put_ok n 2 (by omega) (by omega)
theorem put4_ok (n : Int) : (lim0 E).pure 81 [.int .u64 n, .int .i64 4] = some (.str (putL n 4)) := put_ok n 4 (by omega) (by omega)
attribute [go_sem] put1_ok put2_ok put4_ok
def hopL (h : GHop) : List UInt8 := putL (IntKind.u64.wrap (IntKind.i64.wrap (3 + (h.node.length : Int)))) 1 ++ putL 254 1 ++ putL (IntKind.u64.wrap h.radius) 1 ++ h.node
theorem hopBytes_ok (h : GHop) (hl : h.node.length ≤ 32) : (lim0 E).pure 71 [h.pv] = some (.str (hopL h)) := by
  have hN : 3 + h.node.length ≤ 9223372036854775807 := by omega
  refine pure_of (0) ?_; rw [go_71]; unfold Tryz.f71; simp only [go_sem, Nat.reduceAdd, Nat.reduceMul, Nat.reduceSub, Nat.reduceEqDiff, Nat.reduceLeDiff, Nat.reduceLT, Int.reduceAdd, Int.reduceSub, Int.reduceMul, Int.reduceNeg, Int.reduceLT, Int.reduceLE, Int.reduceEq, Int.reduceNe, Int.reduceToNat, UInt8.reduceToNat, reduceCtorEq, and_true, true_and, decide_true, decide_false, hN]
  rfl
def idxF (l : List GHop) (i : Nat) : Int := match l with | [] => -1 | h :: t => if hopR h then idxF t (i + 1) else (i : Int)
theorem idxF_all : ∀ (l : List GHop) (i : Nat), (0 ≤ idxF l i) ↔ l.all hopR = false
  | [], i => by simp [idxF]
  | h :: t, i => by
    rw [idxF]
    cases e : hopR h with
    | true => simp [idxF_all t (i + 1), e]
    | false => simp [e]
set_option maxHeartbeats 4000000 in
theorem indexHops_ok (bases : List Nat) (H0 : Hp) (l : List GHop) (hl : l.length ≤ 9223372036854775807) : (lim0 E).shut bases 93 [.pv (.lst 2 (List.map GHop.pv l)), .pv (.fn 68)] H0 = some (.pv (.int .i64 (idxF l 0)), H0) := by
  refine shut_of (l.length + 1) ?_; rw [go_93]; unfold Tryz.f93; simp only [go_sem, Nat.reduceAdd, Nat.reduceMul, Nat.reduceSub, Nat.reduceEqDiff, Nat.reduceLeDiff, Nat.reduceLT, Int.reduceAdd, Int.reduceSub, Int.reduceMul, Int.reduceNeg, Int.reduceLT, Int.reduceLE, Int.reduceEq, Int.reduceNe, Int.reduceToNat, UInt8.reduceToNat, reduceCtorEq, and_true, true_and, decide_true, decide_false]
  refine loop_ind (fun j vs H => ∃ i : Nat, j = l.length - i ∧ i ≤ l.length ∧ H = H0 ∧ vs = [.pv (.lst 2 (List.map GHop.pv l)), .pv (.fn 68), .pv (.int .i64 l.length), .pv (.int .i64 i)] ∧ idxF l 0 = idxF (l.drop i) i) l.length ⟨0, by simp, by simp, rfl, rfl, by simp⟩ (by omega) ?_
  rintro j vs H m' ⟨i, hj, hi, rfl, rfl, hall⟩ ih
  simp only [go_sem, Nat.reduceAdd, Nat.reduceMul, Nat.reduceSub, Nat.reduceEqDiff, Nat.reduceLeDiff, Nat.reduceLT, Int.reduceAdd, Int.reduceSub, Int.reduceMul, Int.reduceNeg, Int.reduceLT, Int.reduceLE, Int.reduceEq, Int.reduceNe, Int.reduceToNat, UInt8.reduceToNat, reduceCtorEq, and_true, true_and, decide_true, decide_false]
  refine condC_split (fun h => ?_) (fun h => ?_)
  · have hi' : i < l.length := by simp at h; omega
    have hd : idxF (l.drop i) i = if hopR l[i] then idxF (l.drop (i + 1)) (i + 1) else (i : Int) := by rw [List.drop_eq_getElem_cons hi', idxF]
    simp only [go_sem, Nat.reduceAdd, Nat.reduceMul, Nat.reduceSub, Nat.reduceEqDiff, Nat.reduceLeDiff, Nat.reduceLT, Int.reduceAdd, Int.reduceSub, Int.reduceMul, Int.reduceNeg, Int.reduceLT, Int.reduceLE, Int.reduceEq, Int.reduceNe, Int.reduceToNat, UInt8.reduceToNat, reduceCtorEq, and_true, true_and, decide_true, decide_false, hi']
    refine condC_split (fun g => ?_) (fun g => ?_) <;> simp only [go_sem, Nat.reduceAdd, Nat.reduceMul, Nat.reduceSub, Nat.reduceEqDiff, Nat.reduceLeDiff, Nat.reduceLT, Int.reduceAdd, Int.reduceSub, Int.reduceMul, Int.reduceNeg, Int.reduceLT, Int.reduceLE, Int.reduceEq, Int.reduceNe, Int.reduceToNat, UInt8.reduceToNat, reduceCtorEq, and_true, true_and, decide_true, decide_false]
    · rw [hall, hd, if_neg (by simpa using g)]
    · rw [w_succ i (by omega)]
      exact ih _ _ _ (by omega) ⟨i + 1, rfl, by omega, rfl, rfl, by rw [hall, hd, if_pos (by simpa using g)]⟩
  · have hi' : l.length ≤ i := by simp at h; omega
    simp only [go_sem, Nat.reduceAdd, Nat.reduceMul, Nat.reduceSub, Nat.reduceEqDiff, Nat.reduceLeDiff, Nat.reduceLT, Int.reduceAdd, Int.reduceSub, Int.reduceMul, Int.reduceNeg, Int.reduceLT, Int.reduceLE, Int.reduceEq, Int.reduceNe, Int.reduceToNat, UInt8.reduceToNat, reduceCtorEq, and_true, true_and, decide_true, decide_false]
    rw [hall, List.drop_eq_nil_of_le hi', idxF]
theorem containsHops_ok (bases : List Nat) (H0 : Hp) (l : List GHop) (hl : l.length ≤ 9223372036854775807) : (lim0 E).shut bases 67 [.pv (.lst 2 (List.map GHop.pv l)), .pv (.fn 68)] H0 = some (.pv (.bool (!l.all hopR)), H0) := by
  have e := fun b H => indexHops_ok b H l hl
  refine shut_of (0) ?_; rw [go_67]; unfold Tryz.f67; simp only [go_sem, Nat.reduceAdd, Nat.reduceMul, Nat.reduceSub, Nat.reduceEqDiff, Nat.reduceLeDiff, Nat.reduceLT, Int.reduceAdd, Int.reduceSub, Int.reduceMul, Int.reduceNeg, Int.reduceLT, Int.reduceLE, Int.reduceEq, Int.reduceNe, Int.reduceToNat, UInt8.reduceToNat, reduceCtorEq, and_true, true_and, decide_true, decide_false, e]
  have h2 := idxF_all l 0
  have : decide (0 ≤ idxF l 0) = (!l.all hopR) := by rw [Bool.eq_iff_iff]; simp only [decide_eq_true_eq, h2]; simp
  rw [this]
def pongM : GMsg := { GMsg.zero with ty := 23 }
@[go_sem] theorem pong_ok : (lim0 E).pure 70 [GMsg.pv pongM] = some (.tup [.str [2, 23], .int .i64 0]) := (callN_le 100).pure _ _ _ (by kernel_rfl)
@[go_sem] theorem right_ok (l : GLimits) : (lim0 E).pure 66 [l.pv] = some (.bool (decide (16 ≤ l.maxpacket ∧ l.maxpacket ≤ 1048576 ∧ 0 ≤ l.maxdepth ∧ l.maxdepth ≤ 32))) := by
  refine pure_of (0) ?_; rw [go_66]; unfold Tryz.f66; simp only [go_sem, Nat.reduceAdd, Nat.reduceMul, Nat.reduceSub, Nat.reduceEqDiff, Nat.reduceLeDiff, Nat.reduceLT, Int.reduceAdd, Int.reduceSub, Int.reduceMul, Int.reduceNeg, Int.reduceLT, Int.reduceLE, Int.reduceEq, Int.reduceNe, Int.reduceToNat, UInt8.reduceToNat, reduceCtorEq, and_true, true_and, decide_true, decide_false]
  repeat' (first | (refine grdC_split (fun h => ?_) (fun h => ?_) <;> try simp only [go_sem, Nat.reduceAdd, Nat.reduceMul, Nat.reduceSub, Nat.reduceEqDiff, Nat.reduceLeDiff, Nat.reduceLT, Int.reduceAdd, Int.reduceSub, Int.reduceMul, Int.reduceNeg, Int.reduceLT, Int.reduceLE, Int.reduceEq, Int.reduceNe, Int.reduceToNat, UInt8.reduceToNat, reduceCtorEq, and_true, true_and, decide_true, decide_false]) | (refine condC_split (fun h => ?_) (fun h => ?_) <;> try simp only [go_sem, Nat.reduceAdd, Nat.reduceMul, Nat.reduceSub, Nat.reduceEqDiff, Nat.reduceLeDiff, Nat.reduceLT, Int.reduceAdd, Int.reduceSub, Int.reduceMul, Int.reduceNeg, Int.reduceLT, Int.reduceLE, Int.reduceEq, Int.reduceNe, Int.reduceToNat, UInt8.reduceToNat, reduceCtorEq, and_true, true_and, decide_true, decide_false]) | (refine bcond_eq (fun h => ?_) (fun h => ?_) <;> try simp only [go_sem, Nat.reduceAdd, Nat.reduceMul, Nat.reduceSub, Nat.reduceEqDiff, Nat.reduceLeDiff, Nat.reduceLT, Int.reduceAdd, Int.reduceSub, Int.reduceMul, Int.reduceNeg, Int.reduceLT, Int.reduceLE, Int.reduceEq, Int.reduceNe, Int.reduceToNat, UInt8.reduceToNat, reduceCtorEq, and_true, true_and, decide_true, decide_false]))
  all_goals (refine sb ?_; simp at *; omega)
def greatL : GLimits := ⟨1048576, 32⟩
@[go_sem] theorem greatest_ok : (lim0 E).pure 38 [] = some greatL.pv := (callN_le 10).pure _ _ _ (by kernel_rfl)
def pongE (hops : List GHop) : Int := if 4 < hops.length then 12 else if hops.all hopR then 0 else 2
theorem hopL_length (h : GHop) (k : hopR h = true) : (hopL h).length ≤ 35 := by
  simp [hopR] at k
  simp [hopL, putL_length]
  omega
set_option maxHeartbeats 4000000 in
theorem snwrapPong_ok (hops : List GHop) (hl : hops.length ≤ 9223372036854775807) : (lim0 E).pure 47 [GDatagram.pv ⟨hops, pongM⟩, greatL.pv] = some (.tup [.str (if pongE hops = 0 then hops.flatMap hopL ++ [2, 23] else []), .int .i64 (pongE hops)]) := by
  have e := fun b H => containsHops_ok b H hops hl
  refine pure_of (hops.length + 1) ?_; rw [go_47]; unfold Tryz.f47; simp only [go_sem, Nat.reduceAdd, Nat.reduceMul, Nat.reduceSub, Nat.reduceEqDiff, Nat.reduceLeDiff, Nat.reduceLT, Int.reduceAdd, Int.reduceSub, Int.reduceMul, Int.reduceNeg, Int.reduceLT, Int.reduceLE, Int.reduceEq, Int.reduceNe, Int.reduceToNat, UInt8.reduceToNat, reduceCtorEq, and_true, true_and, decide_true, decide_false, greatL]
  refine condC_split (fun h => ?_) (fun h => ?_) <;> simp only [go_sem, Nat.reduceAdd, Nat.reduceMul, Nat.reduceSub, Nat.reduceEqDiff, Nat.reduceLeDiff, Nat.reduceLT, Int.reduceAdd, Int.reduceSub, Int.reduceMul, Int.reduceNeg, Int.reduceLT, Int.reduceLE, Int.reduceEq, Int.reduceNe, Int.reduceToNat, UInt8.reduceToNat, reduceCtorEq, and_true, true_and, decide_true, decide_false, e]
  · have : pongE hops = 12 := by rw [pongE, if_pos (by simp at h; omega)]
    simp [this]
  have h4 : ¬ 4 < hops.length := by simp at h; omega
  refine condC_split (fun h => ?_) (fun h => ?_)
  · simp only [go_sem, Nat.reduceAdd, Nat.reduceMul, Nat.reduceSub, Nat.reduceEqDiff, Nat.reduceLeDiff, Nat.reduceLT, Int.reduceAdd, Int.reduceSub, Int.reduceMul, Int.reduceNeg, Int.reduceLT, Int.reduceLE, Int.reduceEq, Int.reduceNe, Int.reduceToNat, UInt8.reduceToNat, reduceCtorEq, and_true, true_and, decide_true, decide_false]
    have : pongE hops = 2 := by rw [pongE, if_neg h4, if_neg (by simpa using h)]
    simp [this]
  have hall : hops.all hopR = true := by simpa using h
  have hp : pongE hops = 0 := by rw [pongE, if_neg h4, if_pos hall]
  rw [hp, if_pos rfl]
  simp only [go_sem, Nat.reduceAdd, Nat.reduceMul, Nat.reduceSub, Nat.reduceEqDiff, Nat.reduceLeDiff, Nat.reduceLT, Int.reduceAdd, Int.reduceSub, Int.reduceMul, Int.reduceNeg, Int.reduceLT, Int.reduceLE, Int.reduceEq, Int.reduceNe, Int.reduceToNat, UInt8.reduceToNat, reduceCtorEq, and_true, true_and, decide_true, decide_false]
  have hlen : ∀ l : List GHop, l.all hopR = true → (l.flatMap hopL).length ≤ 35 * l.length := by
    intro l
    induction l with
    | nil => simp
    | cons x xs ih =>
      intro hx
      simp only [List.all_cons, Bool.and_eq_true] at hx
      have := hopL_length x hx.1
      have := ih hx.2
      simp only [List.flatMap_cons, List.length_append, List.length_cons]
      omega
  have htot := hlen hops hall
  refine loop_ind (fun j vs H => ∃ (i : Nat) (out : List UInt8), j = hops.length - i ∧ i ≤ hops.length ∧ H = [.cells (GDatagram.mk hops pongM).avs, .cells (GLimits.mk 1048576 32).avs] ∧ vs = [.ptr 1 0, .pv (.str [2, 23]), .pv (.str out), .pv (.lst 2 (List.map GHop.pv hops)), .pv (.int .i64 hops.length), .pv (.int .i64 i)] ∧ hops.flatMap hopL = out ++ (hops.drop i).flatMap hopL) hops.length ⟨0, [], by simp, by simp, rfl, rfl, by simp⟩ (by omega) ?_
  rintro j vs H m' ⟨i, out, hj, hi, rfl, rfl, hout⟩ ih
  have hol : out.length ≤ 140 := by
    have := congrArg List.length hout
    simp only [List.length_append] at this
    omega
  simp only [go_sem, Nat.reduceAdd, Nat.reduceMul, Nat.reduceSub, Nat.reduceEqDiff, Nat.reduceLeDiff, Nat.reduceLT, Int.reduceAdd, Int.reduceSub, Int.reduceMul, Int.reduceNeg, Int.reduceLT, Int.reduceLE, Int.reduceEq, Int.reduceNe, Int.reduceToNat, UInt8.reduceToNat, reduceCtorEq, and_true, true_and, decide_true, decide_false]
  refine condC_split (fun h => ?_) (fun h => ?_)
  · have hi' : i < hops.length := by simp at h; omega
    have hd : (hops.drop i).flatMap hopL = hopL hops[i] ++ (hops.drop (i + 1)).flatMap hopL := by rw [List.drop_eq_getElem_cons hi', List.flatMap_cons]
    have hr : hopR hops[i] = true := List.all_eq_true.1 hall _ (List.getElem_mem hi')
    have hh := hopBytes_ok hops[i] (by simp [hopR] at hr; omega)
    have hb : out.length + (hopL hops[i]).length ≤ 9223372036854775807 := by have := hopL_length _ hr; omega
    simp only [go_sem, Nat.reduceAdd, Nat.reduceMul, Nat.reduceSub, Nat.reduceEqDiff, Nat.reduceLeDiff, Nat.reduceLT, Int.reduceAdd, Int.reduceSub, Int.reduceMul, Int.reduceNeg, Int.reduceLT, Int.reduceLE, Int.reduceEq, Int.reduceNe, Int.reduceToNat, UInt8.reduceToNat, reduceCtorEq, and_true, true_and, decide_true, decide_false, hi', hh, hb]
    rw [w_succ i (by omega)]
    exact ih _ _ _ (by omega) ⟨i + 1, _, rfl, by omega, rfl, rfl, by rw [hout, hd, List.append_assoc]⟩
  · have hi' : hops.length ≤ i := by simp at h; omega
    have ho : hops.flatMap hopL = out := by rw [hout, List.drop_eq_nil_of_le hi']; simp
    have e1 : IntKind.i64.wrap ((out.length : Int) + 2) = (out.length : Int) + 2 := w_in (by omega) (by omega)
    have e2 : ¬ (1048576 : Int) < (out.length : Int) + 2 := by omega
    have e3 : out.length + 2 ≤ 9223372036854775807 := by omega
    simp only [go_sem, Nat.reduceAdd, Nat.reduceMul, Nat.reduceSub, Nat.reduceEqDiff, Nat.reduceLeDiff, Nat.reduceLT, Int.reduceAdd, Int.reduceSub, Int.reduceMul, Int.reduceNeg, Int.reduceLT, Int.reduceLE, Int.reduceEq, Int.reduceNe, Int.reduceToNat, UInt8.reduceToNat, reduceCtorEq, and_true, true_and, decide_true, decide_false, e1, e2, e3]
    rw [ho]
theorem checkPong_ok (hops : List GHop) (hl : hops.length ≤ 9223372036854775807) : (lim0 E).pure 37 [GDatagram.pv ⟨hops, pongM⟩, greatL.pv] = some (.int .i64 (pongE hops)) := by
  have e := snwrapPong_ok hops hl
  refine pure_of (0) ?_; rw [go_37]; unfold Tryz.f37; simp only [go_sem, Nat.reduceAdd, Nat.reduceMul, Nat.reduceSub, Nat.reduceEqDiff, Nat.reduceLeDiff, Nat.reduceLT, Int.reduceAdd, Int.reduceSub, Int.reduceMul, Int.reduceNeg, Int.reduceLT, Int.reduceLE, Int.reduceEq, Int.reduceNe, Int.reduceToNat, UInt8.reduceToNat, reduceCtorEq, and_true, true_and, decide_true, decide_false, e]
def typedE (e : GEvent) : Bool := decide (0 ≤ e.ty ∧ e.ty ≤ 2) && (decide (e.ty ≠ 2) || shortT e.topic) && decide (pongE e.hops = 0)
set_option maxHeartbeats 4000000 in
theorem typed_ok (e : GEvent) (h : wfE e) : (lim0 E).pure 23 [e.pv] = some (.bool (typedE e)) := by
  have e1 := short_ok e.topic h.topic
  have e2 := checkPong_ok e.hops h.hops
  rw [pongM] at e2
  refine pure_of (0) ?_; rw [go_23]; unfold Tryz.f23; simp only [go_sem, Nat.reduceAdd, Nat.reduceMul, Nat.reduceSub, Nat.reduceEqDiff, Nat.reduceLeDiff, Nat.reduceLT, Int.reduceAdd, Int.reduceSub, Int.reduceMul, Int.reduceNeg, Int.reduceLT, Int.reduceLE, Int.reduceEq, Int.reduceNe, Int.reduceToNat, UInt8.reduceToNat, reduceCtorEq, and_true, true_and, decide_true, decide_false, e1]
  repeat' (first | (refine grdC_split (fun h => ?_) (fun h => ?_) <;> try simp only [go_sem, Nat.reduceAdd, Nat.reduceMul, Nat.reduceSub, Nat.reduceEqDiff, Nat.reduceLeDiff, Nat.reduceLT, Int.reduceAdd, Int.reduceSub, Int.reduceMul, Int.reduceNeg, Int.reduceLT, Int.reduceLE, Int.reduceEq, Int.reduceNe, Int.reduceToNat, UInt8.reduceToNat, reduceCtorEq, and_true, true_and, decide_true, decide_false, e1, e2]) | (refine condC_split (fun h => ?_) (fun h => ?_) <;> try simp only [go_sem, Nat.reduceAdd, Nat.reduceMul, Nat.reduceSub, Nat.reduceEqDiff, Nat.reduceLeDiff, Nat.reduceLT, Int.reduceAdd, Int.reduceSub, Int.reduceMul, Int.reduceNeg, Int.reduceLT, Int.reduceLE, Int.reduceEq, Int.reduceNe, Int.reduceToNat, UInt8.reduceToNat, reduceCtorEq, and_true, true_and, decide_true, decide_false, e1, e2]) | (refine bcond_eq (fun h => ?_) (fun h => ?_) <;> try simp only [go_sem, Nat.reduceAdd, Nat.reduceMul, Nat.reduceSub, Nat.reduceEqDiff, Nat.reduceLeDiff, Nat.reduceLT, Int.reduceAdd, Int.reduceSub, Int.reduceMul, Int.reduceNeg, Int.reduceLT, Int.reduceLE, Int.reduceEq, Int.reduceNe, Int.reduceToNat, UInt8.reduceToNat, reduceCtorEq, and_true, true_and, decide_true, decide_false, e1, e2]))
  all_goals (clear e1 e2; refine sb ?_; simp only [typedE, Bool.and_eq_true, Bool.or_eq_true, decide_eq_true_eq, decide_eq_false_iff_not, Bool.not_eq_true', Bool.not_eq_false', Bool.false_eq_true, false_iff] at *; grind)
end Go.Proofs.YtjnmgfmogganlaaGreatDoor

/-
  Contracts: the rules of events of messages.
-/
namespace Go.Proofs.YtjnmgfmogganlaaGreatDoor
open Go.Pu
set_option maxRecDepth 100000
attribute [local irreducible] grdC condC bcond obind nextC loopG loopC loopD grdX grdD grunC stepC putC regK execK startC enterL stayC againC backC opC retH retU bodyL finP finS finW loopN seqC blockC nrmC

theorem sbH {a b : Bool} {H : Hp} (h : a = true ↔ b = true) : some (AV.pv (.bool a), H) = some (AV.pv (.bool b), H) := by rw [Bool.eq_iff_iff.2 h]
def b1 (e : GEvent) : Bool := !decide (1 ≤ e.proto ∧ e.proto ≤ 4) || decide (e.kind ≠ 1)
def b2 (e : GEvent) : Bool := !nameT e.topic
def b3 (e : GEvent) (sn : Bool) : Bool := !decide (0 ≤ e.qos ∧ e.qos ≤ 2) && !(sn && decide (e.qos = -1))
def b4 (e : GEvent) (acked : Bool) : Bool := !decide (0 ≤ e.id ∧ e.id ≤ 65535) || (acked != decide (e.id ≠ 0))
def b5 (e : GEvent) (acked sn : Bool) : Bool := e.dup && !acked && !sn
def b6 (e : GEvent) : Bool := decide (0 < e.props.length) && decide (e.proto ≠ 2)
def b7 (e : GEvent) (sn : Bool) : Bool := (sn && !typedE e) || (!sn && (decide (e.ty ≠ 0) || decide (0 < e.hops.length)))
def b8 (e : GEvent) : Bool := !decide (0 ≤ e.channel ∧ e.channel ≤ 65535)
def b9 (e : GEvent) : Bool := decide (e.channel ≠ 0) && decide (e.proto ≠ 4)
def b10 (e : GEvent) : Bool := !bareE e
set_option maxHeartbeats 4000000 in
theorem rule1_ok (bases : List Nat) (H : Hp) (e : GEvent) (pe : Nat) (h : wfE e) (he : H[pe]? = some (.cells e.avs)) : (lim0 E).shut bases 13 [.ptr pe 0] H = some (.pv (.bool (b1 e)), H) := by
  refine shut_of (0) ?_; rw [go_13]; unfold Tryz.f13; simp only [go_sem, Nat.reduceAdd, Nat.reduceMul, Nat.reduceSub, Nat.reduceEqDiff, Nat.reduceLeDiff, Nat.reduceLT, Int.reduceAdd, Int.reduceSub, Int.reduceMul, Int.reduceNeg, Int.reduceLT, Int.reduceLE, Int.reduceEq, Int.reduceNe, Int.reduceToNat, UInt8.reduceToNat, reduceCtorEq, and_true, true_and, decide_true, decide_false, he]
  all_goals repeat' (first | (refine grdC_split (fun h => ?_) (fun h => ?_) <;> try simp only [go_sem, Nat.reduceAdd, Nat.reduceMul, Nat.reduceSub, Nat.reduceEqDiff, Nat.reduceLeDiff, Nat.reduceLT, Int.reduceAdd, Int.reduceSub, Int.reduceMul, Int.reduceNeg, Int.reduceLT, Int.reduceLE, Int.reduceEq, Int.reduceNe, Int.reduceToNat, UInt8.reduceToNat, reduceCtorEq, and_true, true_and, decide_true, decide_false, he]) | (refine condC_split (fun h => ?_) (fun h => ?_) <;> try simp only [go_sem, Nat.reduceAdd, Nat.reduceMul, Nat.reduceSub, Nat.reduceEqDiff, Nat.reduceLeDiff, Nat.reduceLT, Int.reduceAdd, Int.reduceSub, Int.reduceMul, Int.reduceNeg, Int.reduceLT, Int.reduceLE, Int.reduceEq, Int.reduceNe, Int.reduceToNat, UInt8.reduceToNat, reduceCtorEq, and_true, true_and, decide_true, decide_false, he]) | (refine bcond_eq (fun h => ?_) (fun h => ?_) <;> try simp only [go_sem, Nat.reduceAdd, Nat.reduceMul, Nat.reduceSub, Nat.reduceEqDiff, Nat.reduceLeDiff, Nat.reduceLT, Int.reduceAdd, Int.reduceSub, Int.reduceMul, Int.reduceNeg, Int.reduceLT, Int.reduceLE, Int.reduceEq, Int.reduceNe, Int.reduceToNat, UInt8.reduceToNat, reduceCtorEq, and_true, true_and, decide_true, decide_false, he]))
  all_goals first
    | rfl
    | (clear he; refine sbH ?_; simp only [b1, Bool.and_eq_true, Bool.or_eq_true, decide_eq_true_eq, decide_eq_false_iff_not, Bool.not_eq_true', Bool.not_eq_false', Bool.false_eq_true, false_iff, true_iff, bne_iff_ne, ne_eq] at *; grind)
    | trace_state
set_option maxHeartbeats 4000000 in
theorem rule2_ok (bases : List Nat) (H : Hp) (e : GEvent) (pe : Nat) (h : wfE e) (he : H[pe]? = some (.cells e.avs)) : (lim0 E).shut bases 15 [.ptr pe 0] H = some (.pv (.bool (b2 e)), H) := by
  have hx := topicName_ok _ h.topic
  refine shut_of (0) ?_; rw [go_15]; unfold Tryz.f15; simp only [go_sem, Nat.reduceAdd, Nat.reduceMul, Nat.reduceSub, Nat.reduceEqDiff, Nat.reduceLeDiff, Nat.reduceLT, Int.reduceAdd, Int.reduceSub, Int.reduceMul, Int.reduceNeg, Int.reduceLT, Int.reduceLE, Int.reduceEq, Int.reduceNe, Int.reduceToNat, UInt8.reduceToNat, reduceCtorEq, and_true, true_and, decide_true, decide_false, he, hx]
  all_goals repeat' (first | (refine grdC_split (fun h => ?_) (fun h => ?_) <;> try simp only [go_sem, Nat.reduceAdd, Nat.reduceMul, Nat.reduceSub, Nat.reduceEqDiff, Nat.reduceLeDiff, Nat.reduceLT, Int.reduceAdd, Int.reduceSub, Int.reduceMul, Int.reduceNeg, Int.reduceLT, Int.reduceLE, Int.reduceEq, Int.reduceNe, Int.reduceToNat, UInt8.reduceToNat, reduceCtorEq, and_true, true_and, decide_true, decide_false, he, hx]) | (refine condC_split (fun h => ?_) (fun h => ?_) <;> try simp only [go_sem, Nat.reduceAdd, Nat.reduceMul, Nat.reduceSub, Nat.reduceEqDiff, Nat.reduceLeDiff, Nat.reduceLT, Int.reduceAdd, Int.reduceSub, Int.reduceMul, Int.reduceNeg, Int.reduceLT, Int.reduceLE, Int.reduceEq, Int.reduceNe, Int.reduceToNat, UInt8.reduceToNat, reduceCtorEq, and_true, true_and, decide_true, decide_false, he, hx]) | (refine bcond_eq (fun h => ?_) (fun h => ?_) <;> try simp only [go_sem, Nat.reduceAdd, Nat.reduceMul, Nat.reduceSub, Nat.reduceEqDiff, Nat.reduceLeDiff, Nat.reduceLT, Int.reduceAdd, Int.reduceSub, Int.reduceMul, Int.reduceNeg, Int.reduceLT, Int.reduceLE, Int.reduceEq, Int.reduceNe, Int.reduceToNat, UInt8.reduceToNat, reduceCtorEq, and_true, true_and, decide_true, decide_false, he, hx]))
  all_goals first
    | rfl
    | (clear he hx; refine sbH ?_; simp only [b2, Bool.and_eq_true, Bool.or_eq_true, decide_eq_true_eq, decide_eq_false_iff_not, Bool.not_eq_true', Bool.not_eq_false', Bool.false_eq_true, false_iff, true_iff, bne_iff_ne, ne_eq] at *; grind)
    | trace_state
set_option maxHeartbeats 4000000 in
theorem rule3_ok (bases : List Nat) (H : Hp) (e : GEvent) (pe : Nat) (psn : Nat) (sn : Bool) (h : wfE e) (he : H[pe]? = some (.cells e.avs)) (hsn : H[psn]? = some (.cells [.pv (.bool sn)])) : (lim0 E).shut bases 17 [.ptr pe 0, .ptr psn 0] H = some (.pv (.bool (b3 e sn)), H) := by
  refine shut_of (0) ?_; rw [go_17]; unfold Tryz.f17; simp only [go_sem, Nat.reduceAdd, Nat.reduceMul, Nat.reduceSub, Nat.reduceEqDiff, Nat.reduceLeDiff, Nat.reduceLT, Int.reduceAdd, Int.reduceSub, Int.reduceMul, Int.reduceNeg, Int.reduceLT, Int.reduceLE, Int.reduceEq, Int.reduceNe, Int.reduceToNat, UInt8.reduceToNat, reduceCtorEq, and_true, true_and, decide_true, decide_false, he, hsn]
  all_goals repeat' (first | (refine grdC_split (fun h => ?_) (fun h => ?_) <;> try simp only [go_sem, Nat.reduceAdd, Nat.reduceMul, Nat.reduceSub, Nat.reduceEqDiff, Nat.reduceLeDiff, Nat.reduceLT, Int.reduceAdd, Int.reduceSub, Int.reduceMul, Int.reduceNeg, Int.reduceLT, Int.reduceLE, Int.reduceEq, Int.reduceNe, Int.reduceToNat, UInt8.reduceToNat, reduceCtorEq, and_true, true_and, decide_true, decide_false, he, hsn]) | (refine condC_split (fun h => ?_) (fun h => ?_) <;> try simp only [go_sem, Nat.reduceAdd, Nat.reduceMul, Nat.reduceSub, Nat.reduceEqDiff, Nat.reduceLeDiff, Nat.reduceLT, Int.reduceAdd, Int.reduceSub, Int.reduceMul, Int.reduceNeg, Int.reduceLT, Int.reduceLE, Int.reduceEq, Int.reduceNe, Int.reduceToNat, UInt8.reduceToNat, reduceCtorEq, and_true, true_and, decide_true, decide_false, he, hsn]) | (refine bcond_eq (fun h => ?_) (fun h => ?_) <;> try simp only [go_sem, Nat.reduceAdd, Nat.reduceMul, Nat.reduceSub, Nat.reduceEqDiff, Nat.reduceLeDiff, Nat.reduceLT, Int.reduceAdd, Int.reduceSub, Int.reduceMul, Int.reduceNeg, Int.reduceLT, Int.reduceLE, Int.reduceEq, Int.reduceNe, Int.reduceToNat, UInt8.reduceToNat, reduceCtorEq, and_true, true_and, decide_true, decide_false, he, hsn]))
  all_goals first
    | rfl
    | (clear he hsn; refine sbH ?_; simp only [b3, Bool.and_eq_true, Bool.or_eq_true, decide_eq_true_eq, decide_eq_false_iff_not, Bool.not_eq_true', Bool.not_eq_false', Bool.false_eq_true, false_iff, true_iff, bne_iff_ne, ne_eq] at *; grind)
    | trace_state
set_option maxHeartbeats 4000000 in
theorem rule4_ok (bases : List Nat) (H : Hp) (e : GEvent) (pe : Nat) (pac : Nat) (ac : Bool) (h : wfE e) (he : H[pe]? = some (.cells e.avs)) (hac : H[pac]? = some (.cells [.pv (.bool ac)])) : (lim0 E).shut bases 19 [.ptr pe 0, .ptr pac 0] H = some (.pv (.bool (b4 e ac)), H) := by
  refine shut_of (0) ?_; rw [go_19]; unfold Tryz.f19; simp only [go_sem, Nat.reduceAdd, Nat.reduceMul, Nat.reduceSub, Nat.reduceEqDiff, Nat.reduceLeDiff, Nat.reduceLT, Int.reduceAdd, Int.reduceSub, Int.reduceMul, Int.reduceNeg, Int.reduceLT, Int.reduceLE, Int.reduceEq, Int.reduceNe, Int.reduceToNat, UInt8.reduceToNat, reduceCtorEq, and_true, true_and, decide_true, decide_false, he, hac]
  all_goals repeat' (first | (refine grdC_split (fun h => ?_) (fun h => ?_) <;> try simp only [go_sem, Nat.reduceAdd, Nat.reduceMul, Nat.reduceSub, Nat.reduceEqDiff, Nat.reduceLeDiff, Nat.reduceLT, Int.reduceAdd, Int.reduceSub, Int.reduceMul, Int.reduceNeg, Int.reduceLT, Int.reduceLE, Int.reduceEq, Int.reduceNe, Int.reduceToNat, UInt8.reduceToNat, reduceCtorEq, and_true, true_and, decide_true, decide_false, he, hac]) | (refine condC_split (fun h => ?_) (fun h => ?_) <;> try simp only [go_sem, Nat.reduceAdd, Nat.reduceMul, Nat.reduceSub, Nat.reduceEqDiff, Nat.reduceLeDiff, Nat.reduceLT, Int.reduceAdd, Int.reduceSub, Int.reduceMul, Int.reduceNeg, Int.reduceLT, Int.reduceLE, Int.reduceEq, Int.reduceNe, Int.reduceToNat, UInt8.reduceToNat, reduceCtorEq, and_true, true_and, decide_true, decide_false, he, hac]) | (refine bcond_eq (fun h => ?_) (fun h => ?_) <;> try simp only [go_sem, Nat.reduceAdd, Nat.reduceMul, Nat.reduceSub, Nat.reduceEqDiff, Nat.reduceLeDiff, Nat.reduceLT, Int.reduceAdd, Int.reduceSub, Int.reduceMul, Int.reduceNeg, Int.reduceLT, Int.reduceLE, Int.reduceEq, Int.reduceNe, Int.reduceToNat, UInt8.reduceToNat, reduceCtorEq, and_true, true_and, decide_true, decide_false, he, hac]))
  all_goals first
    | rfl
    | (clear he hac; refine sbH ?_; simp only [b4, Bool.and_eq_true, Bool.or_eq_true, decide_eq_true_eq, decide_eq_false_iff_not, Bool.not_eq_true', Bool.not_eq_false', Bool.false_eq_true, false_iff, true_iff, bne_iff_ne, ne_eq] at *; grind)
    | trace_state
set_option maxHeartbeats 4000000 in
theorem rule5_ok (bases : List Nat) (H : Hp) (e : GEvent) (pe : Nat) (pac : Nat) (psn : Nat) (ac : Bool) (sn : Bool) (h : wfE e) (he : H[pe]? = some (.cells e.avs)) (hac : H[pac]? = some (.cells [.pv (.bool ac)])) (hsn : H[psn]? = some (.cells [.pv (.bool sn)])) : (lim0 E).shut bases 20 [.ptr pe 0, .ptr pac 0, .ptr psn 0] H = some (.pv (.bool (b5 e ac sn)), H) := by
  refine shut_of (0) ?_; rw [go_20]; unfold Tryz.f20; simp only [go_sem, Nat.reduceAdd, Nat.reduceMul, Nat.reduceSub, Nat.reduceEqDiff, Nat.reduceLeDiff, Nat.reduceLT, Int.reduceAdd, Int.reduceSub, Int.reduceMul, Int.reduceNeg, Int.reduceLT, Int.reduceLE, Int.reduceEq, Int.reduceNe, Int.reduceToNat, UInt8.reduceToNat, reduceCtorEq, and_true, true_and, decide_true, decide_false, he, hac, hsn]
  all_goals repeat' (first | (refine grdC_split (fun h => ?_) (fun h => ?_) <;> try simp only [go_sem, Nat.reduceAdd, Nat.reduceMul, Nat.reduceSub, Nat.reduceEqDiff, Nat.reduceLeDiff, Nat.reduceLT, Int.reduceAdd, Int.reduceSub, Int.reduceMul, Int.reduceNeg, Int.reduceLT, Int.reduceLE, Int.reduceEq, Int.reduceNe, Int.reduceToNat, UInt8.reduceToNat, reduceCtorEq, and_true, true_and, decide_true, decide_false, he, hac, hsn]) | (refine condC_split (fun h => ?_) (fun h => ?_) <;> try simp only [go_sem, Nat.reduceAdd, Nat.reduceMul, Nat.reduceSub, Nat.reduceEqDiff, Nat.reduceLeDiff, Nat.reduceLT, Int.reduceAdd, Int.reduceSub, Int.reduceMul, Int.reduceNeg, Int.reduceLT, Int.reduceLE, Int.reduceEq, Int.reduceNe, Int.reduceToNat, UInt8.reduceToNat, reduceCtorEq, and_true, true_and, decide_true, decide_false, he, hac, hsn]) | (refine bcond_eq (fun h => ?_) (fun h => ?_) <;> try simp only [go_sem, Nat.reduceAdd, Nat.reduceMul, Nat.reduceSub, Nat.reduceEqDiff, Nat.reduceLeDiff, Nat.reduceLT, Int.reduceAdd, Int.reduceSub, Int.reduceMul, Int.reduceNeg, Int.reduceLT, Int.reduceLE, Int.reduceEq, Int.reduceNe, Int.reduceToNat, UInt8.reduceToNat, reduceCtorEq, and_true, true_and, decide_true, decide_false, he, hac, hsn]))
  all_goals first
    | rfl
    | (clear he hac hsn; refine sbH ?_; simp only [b5, Bool.and_eq_true, Bool.or_eq_true, decide_eq_true_eq, decide_eq_false_iff_not, Bool.not_eq_true', Bool.not_eq_false', Bool.false_eq_true, false_iff, true_iff, bne_iff_ne, ne_eq] at *; grind)
    | trace_state
set_option maxHeartbeats 4000000 in
theorem rule6_ok (bases : List Nat) (H : Hp) (e : GEvent) (pe : Nat) (h : wfE e) (he : H[pe]? = some (.cells e.avs)) : (lim0 E).shut bases 21 [.ptr pe 0] H = some (.pv (.bool (b6 e)), H) := by
  refine shut_of (0) ?_; rw [go_21]; unfold Tryz.f21; simp only [go_sem, Nat.reduceAdd, Nat.reduceMul, Nat.reduceSub, Nat.reduceEqDiff, Nat.reduceLeDiff, Nat.reduceLT, Int.reduceAdd, Int.reduceSub, Int.reduceMul, Int.reduceNeg, Int.reduceLT, Int.reduceLE, Int.reduceEq, Int.reduceNe, Int.reduceToNat, UInt8.reduceToNat, reduceCtorEq, and_true, true_and, decide_true, decide_false, he]
  all_goals repeat' (first | (refine grdC_split (fun h => ?_) (fun h => ?_) <;> try simp only [go_sem, Nat.reduceAdd, Nat.reduceMul, Nat.reduceSub, Nat.reduceEqDiff, Nat.reduceLeDiff, Nat.reduceLT, Int.reduceAdd, Int.reduceSub, Int.reduceMul, Int.reduceNeg, Int.reduceLT, Int.reduceLE, Int.reduceEq, Int.reduceNe, Int.reduceToNat, UInt8.reduceToNat, reduceCtorEq, and_true, true_and, decide_true, decide_false, he]) | (refine condC_split (fun h => ?_) (fun h => ?_) <;> try simp only [go_sem, Nat.reduceAdd, Nat.reduceMul, Nat.reduceSub, Nat.reduceEqDiff, Nat.reduceLeDiff, Nat.reduceLT, Int.reduceAdd, Int.reduceSub, Int.reduceMul, Int.reduceNeg, Int.reduceLT, Int.reduceLE, Int.reduceEq, Int.reduceNe, Int.reduceToNat, UInt8.reduceToNat, reduceCtorEq, and_true, true_and, decide_true, decide_false, he]) | (refine bcond_eq (fun h => ?_) (fun h => ?_) <;> try simp only [go_sem, Nat.reduceAdd, Nat.reduceMul, Nat.reduceSub, Nat.reduceEqDiff, Nat.reduceLeDiff, Nat.reduceLT, Int.reduceAdd, Int.reduceSub, Int.reduceMul, Int.reduceNeg, Int.reduceLT, Int.reduceLE, Int.reduceEq, Int.reduceNe, Int.reduceToNat, UInt8.reduceToNat, reduceCtorEq, and_true, true_and, decide_true, decide_false, he]))
  all_goals first
    | rfl
    | (clear he; refine sbH ?_; simp only [b6, Bool.and_eq_true, Bool.or_eq_true, decide_eq_true_eq, decide_eq_false_iff_not, Bool.not_eq_true', Bool.not_eq_false', Bool.false_eq_true, false_iff, true_iff, bne_iff_ne, ne_eq] at *; grind)
    | trace_state
set_option maxHeartbeats 4000000 in
theorem rule7_ok (bases : List Nat) (H : Hp) (e : GEvent) (psn : Nat) (pe : Nat) (sn : Bool) (h : wfE e) (hsn : H[psn]? = some (.cells [.pv (.bool sn)])) (he : H[pe]? = some (.cells e.avs)) : (lim0 E).shut bases 22 [.ptr psn 0, .ptr pe 0] H = some (.pv (.bool (b7 e sn)), H) := by
  have hx := typed_ok e h
  refine shut_of (0) ?_; rw [go_22]; unfold Tryz.f22; simp only [go_sem, Nat.reduceAdd, Nat.reduceMul, Nat.reduceSub, Nat.reduceEqDiff, Nat.reduceLeDiff, Nat.reduceLT, Int.reduceAdd, Int.reduceSub, Int.reduceMul, Int.reduceNeg, Int.reduceLT, Int.reduceLE, Int.reduceEq, Int.reduceNe, Int.reduceToNat, UInt8.reduceToNat, reduceCtorEq, and_true, true_and, decide_true, decide_false, hsn, he, hx]
  all_goals repeat' (first | (refine grdC_split (fun h => ?_) (fun h => ?_) <;> try simp only [go_sem, Nat.reduceAdd, Nat.reduceMul, Nat.reduceSub, Nat.reduceEqDiff, Nat.reduceLeDiff, Nat.reduceLT, Int.reduceAdd, Int.reduceSub, Int.reduceMul, Int.reduceNeg, Int.reduceLT, Int.reduceLE, Int.reduceEq, Int.reduceNe, Int.reduceToNat, UInt8.reduceToNat, reduceCtorEq, and_true, true_and, decide_true, decide_false, hsn, he, hx]) | (refine condC_split (fun h => ?_) (fun h => ?_) <;> try simp only [go_sem, Nat.reduceAdd, Nat.reduceMul, Nat.reduceSub, Nat.reduceEqDiff, Nat.reduceLeDiff, Nat.reduceLT, Int.reduceAdd, Int.reduceSub, Int.reduceMul, Int.reduceNeg, Int.reduceLT, Int.reduceLE, Int.reduceEq, Int.reduceNe, Int.reduceToNat, UInt8.reduceToNat, reduceCtorEq, and_true, true_and, decide_true, decide_false, hsn, he, hx]) | (refine bcond_eq (fun h => ?_) (fun h => ?_) <;> try simp only [go_sem, Nat.reduceAdd, Nat.reduceMul, Nat.reduceSub, Nat.reduceEqDiff, Nat.reduceLeDiff, Nat.reduceLT, Int.reduceAdd, Int.reduceSub, Int.reduceMul, Int.reduceNeg, Int.reduceLT, Int.reduceLE, Int.reduceEq, Int.reduceNe, Int.reduceToNat, UInt8.reduceToNat, reduceCtorEq, and_true, true_and, decide_true, decide_false, hsn, he, hx]))
  all_goals first
    | rfl
    | (clear hsn he hx; refine sbH ?_; simp only [b7, Bool.and_eq_true, Bool.or_eq_true, decide_eq_true_eq, decide_eq_false_iff_not, Bool.not_eq_true', Bool.not_eq_false', Bool.false_eq_true, false_iff, true_iff, bne_iff_ne, ne_eq] at *; grind)
    | trace_state
set_option maxHeartbeats 4000000 in
theorem rule8_ok (bases : List Nat) (H : Hp) (e : GEvent) (pe : Nat) (h : wfE e) (he : H[pe]? = some (.cells e.avs)) : (lim0 E).shut bases 24 [.ptr pe 0] H = some (.pv (.bool (b8 e)), H) := by
  refine shut_of (0) ?_; rw [go_24]; unfold Tryz.f24; simp only [go_sem, Nat.reduceAdd, Nat.reduceMul, Nat.reduceSub, Nat.reduceEqDiff, Nat.reduceLeDiff, Nat.reduceLT, Int.reduceAdd, Int.reduceSub, Int.reduceMul, Int.reduceNeg, Int.reduceLT, Int.reduceLE, Int.reduceEq, Int.reduceNe, Int.reduceToNat, UInt8.reduceToNat, reduceCtorEq, and_true, true_and, decide_true, decide_false, he]
  all_goals repeat' (first | (refine grdC_split (fun h => ?_) (fun h => ?_) <;> try simp only [go_sem, Nat.reduceAdd, Nat.reduceMul, Nat.reduceSub, Nat.reduceEqDiff, Nat.reduceLeDiff, Nat.reduceLT, Int.reduceAdd, Int.reduceSub, Int.reduceMul, Int.reduceNeg, Int.reduceLT, Int.reduceLE, Int.reduceEq, Int.reduceNe, Int.reduceToNat, UInt8.reduceToNat, reduceCtorEq, and_true, true_and, decide_true, decide_false, he]) | (refine condC_split (fun h => ?_) (fun h => ?_) <;> try simp only [go_sem, Nat.reduceAdd, Nat.reduceMul, Nat.reduceSub, Nat.reduceEqDiff, Nat.reduceLeDiff, Nat.reduceLT, Int.reduceAdd, Int.reduceSub, Int.reduceMul, Int.reduceNeg, Int.reduceLT, Int.reduceLE, Int.reduceEq, Int.reduceNe, Int.reduceToNat, UInt8.reduceToNat, reduceCtorEq, and_true, true_and, decide_true, decide_false, he]) | (refine bcond_eq (fun h => ?_) (fun h => ?_) <;> try simp only [go_sem, Nat.reduceAdd, Nat.reduceMul, Nat.reduceSub, Nat.reduceEqDiff, Nat.reduceLeDiff, Nat.reduceLT, Int.reduceAdd, Int.reduceSub, Int.reduceMul, Int.reduceNeg, Int.reduceLT, Int.reduceLE, Int.reduceEq, Int.reduceNe, Int.reduceToNat, UInt8.reduceToNat, reduceCtorEq, and_true, true_and, decide_true, decide_false, he]))
  all_goals first
    | rfl
    | (clear he; refine sbH ?_; simp only [b8, Bool.and_eq_true, Bool.or_eq_true, decide_eq_true_eq, decide_eq_false_iff_not, Bool.not_eq_true', Bool.not_eq_false', Bool.false_eq_true, false_iff, true_iff, bne_iff_ne, ne_eq] at *; grind)
    | trace_state
set_option maxHeartbeats 4000000 in
theorem rule9_ok (bases : List Nat) (H : Hp) (e : GEvent) (pe : Nat) (h : wfE e) (he : H[pe]? = some (.cells e.avs)) : (lim0 E).shut bases 25 [.ptr pe 0] H = some (.pv (.bool (b9 e)), H) := by
  refine shut_of (0) ?_; rw [go_25]; unfold Tryz.f25; simp only [go_sem, Nat.reduceAdd, Nat.reduceMul, Nat.reduceSub, Nat.reduceEqDiff, Nat.reduceLeDiff, Nat.reduceLT, Int.reduceAdd, Int.reduceSub, Int.reduceMul, Int.reduceNeg, Int.reduceLT, Int.reduceLE, Int.reduceEq, Int.reduceNe, Int.reduceToNat, UInt8.reduceToNat, reduceCtorEq, and_true, true_and, decide_true, decide_false, he]
  all_goals repeat' (first | (refine grdC_split (fun h => ?_) (fun h => ?_) <;> try simp only [go_sem, Nat.reduceAdd, Nat.reduceMul, Nat.reduceSub, Nat.reduceEqDiff, Nat.reduceLeDiff, Nat.reduceLT, Int.reduceAdd, Int.reduceSub, Int.reduceMul, Int.reduceNeg, Int.reduceLT, Int.reduceLE, Int.reduceEq, Int.reduceNe, Int.reduceToNat, UInt8.reduceToNat, reduceCtorEq, and_true, true_and, decide_true, decide_false, he]) | (refine condC_split (fun h => ?_) (fun h => ?_) <;> try simp only [go_sem, Nat.reduceAdd, Nat.reduceMul, Nat.reduceSub, Nat.reduceEqDiff, Nat.reduceLeDiff, Nat.reduceLT, Int.reduceAdd, Int.reduceSub, Int.reduceMul, Int.reduceNeg, Int.reduceLT, Int.reduceLE, Int.reduceEq, Int.reduceNe, Int.reduceToNat, UInt8.reduceToNat, reduceCtorEq, and_true, true_and, decide_true, decide_false, he]) | (refine bcond_eq (fun h => ?_) (fun h => ?_) <;> try simp only [go_sem, Nat.reduceAdd, Nat.reduceMul, Nat.reduceSub, Nat.reduceEqDiff, Nat.reduceLeDiff, Nat.reduceLT, Int.reduceAdd, Int.reduceSub, Int.reduceMul, Int.reduceNeg, Int.reduceLT, Int.reduceLE, Int.reduceEq, Int.reduceNe, Int.reduceToNat, UInt8.reduceToNat, reduceCtorEq, and_true, true_and, decide_true, decide_false, he]))
  all_goals first
    | rfl
    | (clear he; refine sbH ?_; simp only [b9, Bool.and_eq_true, Bool.or_eq_true, decide_eq_true_eq, decide_eq_false_iff_not, Bool.not_eq_true', Bool.not_eq_false', Bool.false_eq_true, false_iff, true_iff, bne_iff_ne, ne_eq] at *; grind)
    | trace_state
set_option maxHeartbeats 4000000 in
theorem rule10_ok (bases : List Nat) (H : Hp) (e : GEvent) (pe : Nat) (h : wfE e) (he : H[pe]? = some (.cells e.avs)) : (lim0 E).shut bases 26 [.ptr pe 0] H = some (.pv (.bool (b10 e)), H) := by
  have hx := bare_ok e h
  refine shut_of (0) ?_; rw [go_26]; unfold Tryz.f26; simp only [go_sem, Nat.reduceAdd, Nat.reduceMul, Nat.reduceSub, Nat.reduceEqDiff, Nat.reduceLeDiff, Nat.reduceLT, Int.reduceAdd, Int.reduceSub, Int.reduceMul, Int.reduceNeg, Int.reduceLT, Int.reduceLE, Int.reduceEq, Int.reduceNe, Int.reduceToNat, UInt8.reduceToNat, reduceCtorEq, and_true, true_and, decide_true, decide_false, he, hx]
  all_goals repeat' (first | (refine grdC_split (fun h => ?_) (fun h => ?_) <;> try simp only [go_sem, Nat.reduceAdd, Nat.reduceMul, Nat.reduceSub, Nat.reduceEqDiff, Nat.reduceLeDiff, Nat.reduceLT, Int.reduceAdd, Int.reduceSub, Int.reduceMul, Int.reduceNeg, Int.reduceLT, Int.reduceLE, Int.reduceEq, Int.reduceNe, Int.reduceToNat, UInt8.reduceToNat, reduceCtorEq, and_true, true_and, decide_true, decide_false, he, hx]) | (refine condC_split (fun h => ?_) (fun h => ?_) <;> try simp only [go_sem, Nat.reduceAdd, Nat.reduceMul, Nat.reduceSub, Nat.reduceEqDiff, Nat.reduceLeDiff, Nat.reduceLT, Int.reduceAdd, Int.reduceSub, Int.reduceMul, Int.reduceNeg, Int.reduceLT, Int.reduceLE, Int.reduceEq, Int.reduceNe, Int.reduceToNat, UInt8.reduceToNat, reduceCtorEq, and_true, true_and, decide_true, decide_false, he, hx]) | (refine bcond_eq (fun h => ?_) (fun h => ?_) <;> try simp only [go_sem, Nat.reduceAdd, Nat.reduceMul, Nat.reduceSub, Nat.reduceEqDiff, Nat.reduceLeDiff, Nat.reduceLT, Int.reduceAdd, Int.reduceSub, Int.reduceMul, Int.reduceNeg, Int.reduceLT, Int.reduceLE, Int.reduceEq, Int.reduceNe, Int.reduceToNat, UInt8.reduceToNat, reduceCtorEq, and_true, true_and, decide_true, decide_false, he, hx]))
  all_goals first
    | rfl
    | (clear he hx; refine sbH ?_; simp only [b10, Bool.and_eq_true, Bool.or_eq_true, decide_eq_true_eq, decide_eq_false_iff_not, Bool.not_eq_true', Bool.not_eq_false', Bool.false_eq_true, false_iff, true_iff, bne_iff_ne, ne_eq] at *; grind)
    | trace_state
end Go.Proofs.YtjnmgfmogganlaaGreatDoor

/-
  Contracts: properties.
-/
namespace Go.Proofs.YtjnmgfmogganlaaGreatDoor
open Go.Pu
set_option maxRecDepth 100000
attribute [local irreducible] grdC condC bcond obind nextC loopG loopC loopD grdX grdD grunC stepC putC regK execK startC enterL stayC againC backC opC retH retU bodyL finP finS finW loopN seqC blockC nrmC

def rulesM : PV := .map [.int .i64 1, .int .i64 2, .int .i64 3, .int .i64 8, .int .i64 9, .int .i64 11, .int .i64 17, .int .i64 18, .int .i64 19, .int .i64 21, .int .i64 22, .int .i64 23, .int .i64 24, .int .i64 25, .int .i64 26, .int .i64 28, .int .i64 31, .int .i64 33, .int .i64 34, .int .i64 35, .int .i64 36, .int .i64 37, .int .i64 38, .int .i64 39, .int .i64 40, .int .i64 41, .int .i64 42] [GPropRule.pv ⟨1, 65544, 0, 1⟩, GPropRule.pv ⟨3, 65544, 0, 4294967295⟩, GPropRule.pv ⟨5, 65544, 0, 0⟩, GPropRule.pv ⟨5, 65544, 0, 0⟩, GPropRule.pv ⟨6, 65544, 0, 0⟩, GPropRule.pv ⟨4, 264, 1, 268435455⟩, GPropRule.pv ⟨3, 16390, 0, 4294967295⟩, GPropRule.pv ⟨5, 4, 0, 0⟩, GPropRule.pv ⟨2, 4, 0, 65535⟩, GPropRule.pv ⟨5, 32774, 0, 0⟩, GPropRule.pv ⟨6, 32774, 0, 0⟩, GPropRule.pv ⟨1, 2, 0, 1⟩, GPropRule.pv ⟨3, 65536, 0, 4294967295⟩, GPropRule.pv ⟨1, 2, 0, 1⟩, GPropRule.pv ⟨5, 4, 0, 0⟩, GPropRule.pv ⟨5, 16388, 0, 0⟩, GPropRule.pv ⟨5, 51956, 0, 0⟩, GPropRule.pv ⟨2, 6, 1, 65535⟩, GPropRule.pv ⟨2, 6, 0, 65535⟩, GPropRule.pv ⟨2, 8, 1, 65535⟩, GPropRule.pv ⟨1, 4, 0, 1⟩, GPropRule.pv ⟨1, 4, 0, 1⟩, GPropRule.pv ⟨7, 118782, 0, 0⟩, GPropRule.pv ⟨3, 6, 1, 4294967295⟩, GPropRule.pv ⟨1, 4, 0, 1⟩, GPropRule.pv ⟨1, 4, 0, 1⟩, GPropRule.pv ⟨1, 4, 0, 1⟩]
@[go_sem] theorem rules_ok : (lim0 E).pure 54 [] = some rulesM := (callN_le 10).pure _ _ _ (by kernel_rfl)
def ruleOf (id : Int) : GPropRule := bcond (decide (id = 1)) ⟨1, 65544, 0, 1⟩ (bcond (decide (id = 2)) ⟨3, 65544, 0, 4294967295⟩ (bcond (decide (id = 3)) ⟨5, 65544, 0, 0⟩ (bcond (decide (id = 8)) ⟨5, 65544, 0, 0⟩ (bcond (decide (id = 9)) ⟨6, 65544, 0, 0⟩ (bcond (decide (id = 11)) ⟨4, 264, 1, 268435455⟩ (bcond (decide (id = 17)) ⟨3, 16390, 0, 4294967295⟩ (bcond (decide (id = 18)) ⟨5, 4, 0, 0⟩ (bcond (decide (id = 19)) ⟨2, 4, 0, 65535⟩ (bcond (decide (id = 21)) ⟨5, 32774, 0, 0⟩ (bcond (decide (id = 22)) ⟨6, 32774, 0, 0⟩ (bcond (decide (id = 23)) ⟨1, 2, 0, 1⟩ (bcond (decide (id = 24)) ⟨3, 65536, 0, 4294967295⟩ (bcond (decide (id = 25)) ⟨1, 2, 0, 1⟩ (bcond (decide (id = 26)) ⟨5, 4, 0, 0⟩ (bcond (decide (id = 28)) ⟨5, 16388, 0, 0⟩ (bcond (decide (id = 31)) ⟨5, 51956, 0, 0⟩ (bcond (decide (id = 33)) ⟨2, 6, 1, 65535⟩ (bcond (decide (id = 34)) ⟨2, 6, 0, 65535⟩ (bcond (decide (id = 35)) ⟨2, 8, 1, 65535⟩ (bcond (decide (id = 36)) ⟨1, 4, 0, 1⟩ (bcond (decide (id = 37)) ⟨1, 4, 0, 1⟩ (bcond (decide (id = 38)) ⟨7, 118782, 0, 0⟩ (bcond (decide (id = 39)) ⟨3, 6, 1, 4294967295⟩ (bcond (decide (id = 40)) ⟨1, 4, 0, 1⟩ (bcond (decide (id = 41)) ⟨1, 4, 0, 1⟩ (bcond (decide (id = 42)) ⟨1, 4, 0, 1⟩ (⟨0, 0, 0, 0⟩)))))))))))))))))))))))))))
@[go_sem] theorem rulesAt (H : Hp) : mapAt H (.pv rulesM) = some ([.int .i64 1, .int .i64 2, .int .i64 3, .int .i64 8, .int .i64 9, .int .i64 11, .int .i64 17, .int .i64 18, .int .i64 19, .int .i64 21, .int .i64 22, .int .i64 23, .int .i64 24, .int .i64 25, .int .i64 26, .int .i64 28, .int .i64 31, .int .i64 33, .int .i64 34, .int .i64 35, .int .i64 36, .int .i64 37, .int .i64 38, .int .i64 39, .int .i64 40, .int .i64 41, .int .i64 42], [.pv (GPropRule.pv ⟨1, 65544, 0, 1⟩), .pv (GPropRule.pv ⟨3, 65544, 0, 4294967295⟩), .pv (GPropRule.pv ⟨5, 65544, 0, 0⟩), .pv (GPropRule.pv ⟨5, 65544, 0, 0⟩), .pv (GPropRule.pv ⟨6, 65544, 0, 0⟩), .pv (GPropRule.pv ⟨4, 264, 1, 268435455⟩), .pv (GPropRule.pv ⟨3, 16390, 0, 4294967295⟩), .pv (GPropRule.pv ⟨5, 4, 0, 0⟩), .pv (GPropRule.pv ⟨2, 4, 0, 65535⟩), .pv (GPropRule.pv ⟨5, 32774, 0, 0⟩), .pv (GPropRule.pv ⟨6, 32774, 0, 0⟩), .pv (GPropRule.pv ⟨1, 2, 0, 1⟩), .pv (GPropRule.pv ⟨3, 65536, 0, 4294967295⟩), .pv (GPropRule.pv ⟨1, 2, 0, 1⟩), .pv (GPropRule.pv ⟨5, 4, 0, 0⟩), .pv (GPropRule.pv ⟨5, 16388, 0, 0⟩), .pv (GPropRule.pv ⟨5, 51956, 0, 0⟩), .pv (GPropRule.pv ⟨2, 6, 1, 65535⟩), .pv (GPropRule.pv ⟨2, 6, 0, 65535⟩), .pv (GPropRule.pv ⟨2, 8, 1, 65535⟩), .pv (GPropRule.pv ⟨1, 4, 0, 1⟩), .pv (GPropRule.pv ⟨1, 4, 0, 1⟩), .pv (GPropRule.pv ⟨7, 118782, 0, 0⟩), .pv (GPropRule.pv ⟨3, 6, 1, 4294967295⟩), .pv (GPropRule.pv ⟨1, 4, 0, 1⟩), .pv (GPropRule.pv ⟨1, 4, 0, 1⟩), .pv (GPropRule.pv ⟨1, 4, 0, 1⟩)]) := rfl
theorem bcond_rule (c : Bool) (a b : GPropRule) : bcond c (some (AV.pv a.pv)) (some (AV.pv b.pv)) = some (AV.pv (bcond c a b).pv) := by cases c <;> simp only [bcond_true, bcond_false]
theorem look_rule (H : Hp) (id : Int) : lookO E 100 H (.pv rulesM) (.pv (.int .i64 id)) false = some (.pv (ruleOf id).pv) := by
  have hz : zeroOf E 106 = .pv (GPropRule.pv ⟨0, 0, 0, 0⟩) := by kernel_rfl
  rw [lu_100, hz, rulesAt]
  simp only [findM_some, mapFind_int, mapFind_nil, lookF_bcond, lookF_ft, lookF_fn, bcond_rule]
  rfl

def hasR (r : GPropRule) (kind : Int) : Bool := decide (1 ≤ kind ∧ kind ≤ 16) && decide (IntKind.i64.wrap (BitVec.ofInt 64 (r.kinds.fdiv (2 ^ min (IntKind.u64.wrap kind).toNat 64)) &&& BitVec.ofInt 64 1).toNat = 1)
@[go_sem] theorem has_ok (r : GPropRule) (kind : Int) : (lim0 E).pure 78 [r.pv, .int .i64 kind] = some (.bool (hasR r kind)) := by
  refine pure_of (0) ?_; rw [go_78]; unfold Tryz.f78; simp only [go_sem, Nat.reduceAdd, Nat.reduceMul, Nat.reduceSub, Nat.reduceEqDiff, Nat.reduceLeDiff, Nat.reduceLT, Int.reduceAdd, Int.reduceSub, Int.reduceMul, Int.reduceNeg, Int.reduceLT, Int.reduceLE, Int.reduceEq, Int.reduceNe, Int.reduceToNat, UInt8.reduceToNat, reduceCtorEq, and_true, true_and, decide_true, decide_false]
  repeat' (first | (refine grdC_split (fun h => ?_) (fun h => ?_) <;> try simp only [go_sem, Nat.reduceAdd, Nat.reduceMul, Nat.reduceSub, Nat.reduceEqDiff, Nat.reduceLeDiff, Nat.reduceLT, Int.reduceAdd, Int.reduceSub, Int.reduceMul, Int.reduceNeg, Int.reduceLT, Int.reduceLE, Int.reduceEq, Int.reduceNe, Int.reduceToNat, UInt8.reduceToNat, reduceCtorEq, and_true, true_and, decide_true, decide_false]) | (refine condC_split (fun h => ?_) (fun h => ?_) <;> try simp only [go_sem, Nat.reduceAdd, Nat.reduceMul, Nat.reduceSub, Nat.reduceEqDiff, Nat.reduceLeDiff, Nat.reduceLT, Int.reduceAdd, Int.reduceSub, Int.reduceMul, Int.reduceNeg, Int.reduceLT, Int.reduceLE, Int.reduceEq, Int.reduceNe, Int.reduceToNat, UInt8.reduceToNat, reduceCtorEq, and_true, true_and, decide_true, decide_false]) | (refine bcond_eq (fun h => ?_) (fun h => ?_) <;> try simp only [go_sem, Nat.reduceAdd, Nat.reduceMul, Nat.reduceSub, Nat.reduceEqDiff, Nat.reduceLeDiff, Nat.reduceLT, Int.reduceAdd, Int.reduceSub, Int.reduceMul, Int.reduceNeg, Int.reduceLT, Int.reduceLE, Int.reduceEq, Int.reduceNe, Int.reduceToNat, UInt8.reduceToNat, reduceCtorEq, and_true, true_and, decide_true, decide_false]))
  all_goals (refine sb ?_; simp only [hasR, Bool.and_eq_true, decide_eq_true_eq, decide_eq_false_iff_not, Bool.false_eq_true, false_iff] at *; first | exact ⟨fun x => ⟨⟨by assumption, by assumption⟩, x⟩, fun x => x.2⟩ | (rintro ⟨⟨_, _⟩, _⟩; omega))
@[go_sem] theorem often_ok (kind id : Int) : (lim0 E).pure 80 [.int .i64 kind, .int .i64 id] = some (.bool (decide (id = 38 ∨ id = 11 ∧ kind = 3))) := by
  refine pure_of (0) ?_; rw [go_80]; unfold Tryz.f80; simp only [go_sem, Nat.reduceAdd, Nat.reduceMul, Nat.reduceSub, Nat.reduceEqDiff, Nat.reduceLeDiff, Nat.reduceLT, Int.reduceAdd, Int.reduceSub, Int.reduceMul, Int.reduceNeg, Int.reduceLT, Int.reduceLE, Int.reduceEq, Int.reduceNe, Int.reduceToNat, UInt8.reduceToNat, reduceCtorEq, and_true, true_and, decide_true, decide_false]
  repeat' (first | (refine grdC_split (fun h => ?_) (fun h => ?_) <;> try simp only [go_sem, Nat.reduceAdd, Nat.reduceMul, Nat.reduceSub, Nat.reduceEqDiff, Nat.reduceLeDiff, Nat.reduceLT, Int.reduceAdd, Int.reduceSub, Int.reduceMul, Int.reduceNeg, Int.reduceLT, Int.reduceLE, Int.reduceEq, Int.reduceNe, Int.reduceToNat, UInt8.reduceToNat, reduceCtorEq, and_true, true_and, decide_true, decide_false]) | (refine condC_split (fun h => ?_) (fun h => ?_) <;> try simp only [go_sem, Nat.reduceAdd, Nat.reduceMul, Nat.reduceSub, Nat.reduceEqDiff, Nat.reduceLeDiff, Nat.reduceLT, Int.reduceAdd, Int.reduceSub, Int.reduceMul, Int.reduceNeg, Int.reduceLT, Int.reduceLE, Int.reduceEq, Int.reduceNe, Int.reduceToNat, UInt8.reduceToNat, reduceCtorEq, and_true, true_and, decide_true, decide_false]) | (refine bcond_eq (fun h => ?_) (fun h => ?_) <;> try simp only [go_sem, Nat.reduceAdd, Nat.reduceMul, Nat.reduceSub, Nat.reduceEqDiff, Nat.reduceLeDiff, Nat.reduceLT, Int.reduceAdd, Int.reduceSub, Int.reduceMul, Int.reduceNeg, Int.reduceLT, Int.reduceLE, Int.reduceEq, Int.reduceNe, Int.reduceToNat, UInt8.reduceToNat, reduceCtorEq, and_true, true_and, decide_true, decide_false]))
  all_goals (refine sb ?_; simp at *; try omega)
def checkNum (r : GPropRule) (p : GProp) : Int := if p.text ≠ [] ∨ p.value ≠ [] then 2 else if p.n < r.least ∨ r.most < p.n then 9 else 0
@[go_sem] theorem checkNumber_ok (r : GPropRule) (p : GProp) : (lim0 E).pure 79 [r.pv, p.pv] = some (.int .i64 (checkNum r p)) := by
  refine pure_of (0) ?_; rw [go_79]; unfold Tryz.f79; simp only [go_sem, Nat.reduceAdd, Nat.reduceMul, Nat.reduceSub, Nat.reduceEqDiff, Nat.reduceLeDiff, Nat.reduceLT, Int.reduceAdd, Int.reduceSub, Int.reduceMul, Int.reduceNeg, Int.reduceLT, Int.reduceLE, Int.reduceEq, Int.reduceNe, Int.reduceToNat, UInt8.reduceToNat, reduceCtorEq, and_true, true_and, decide_true, decide_false]
  repeat' (first | (refine grdC_split (fun h => ?_) (fun h => ?_) <;> try simp only [go_sem, Nat.reduceAdd, Nat.reduceMul, Nat.reduceSub, Nat.reduceEqDiff, Nat.reduceLeDiff, Nat.reduceLT, Int.reduceAdd, Int.reduceSub, Int.reduceMul, Int.reduceNeg, Int.reduceLT, Int.reduceLE, Int.reduceEq, Int.reduceNe, Int.reduceToNat, UInt8.reduceToNat, reduceCtorEq, and_true, true_and, decide_true, decide_false]) | (refine condC_split (fun h => ?_) (fun h => ?_) <;> try simp only [go_sem, Nat.reduceAdd, Nat.reduceMul, Nat.reduceSub, Nat.reduceEqDiff, Nat.reduceLeDiff, Nat.reduceLT, Int.reduceAdd, Int.reduceSub, Int.reduceMul, Int.reduceNeg, Int.reduceLT, Int.reduceLE, Int.reduceEq, Int.reduceNe, Int.reduceToNat, UInt8.reduceToNat, reduceCtorEq, and_true, true_and, decide_true, decide_false]) | (refine bcond_eq (fun h => ?_) (fun h => ?_) <;> try simp only [go_sem, Nat.reduceAdd, Nat.reduceMul, Nat.reduceSub, Nat.reduceEqDiff, Nat.reduceLeDiff, Nat.reduceLT, Int.reduceAdd, Int.reduceSub, Int.reduceMul, Int.reduceNeg, Int.reduceLT, Int.reduceLE, Int.reduceEq, Int.reduceNe, Int.reduceToNat, UInt8.reduceToNat, reduceCtorEq, and_true, true_and, decide_true, decide_false]))
  all_goals (unfold checkNum; simp at *; try simp_all)
  all_goals trace_state
def checkP (r : GPropRule) (kind : Int) (p : GProp) : Int :=
  if hasR r kind = false then 9 else if r.shape ≤ 4 then checkNum r p else if p.n ≠ 0 ∨ p.value ≠ [] ∧ r.shape ≠ 7 then 2 else
  if r.shape = 6 then (if 65535 < p.text.length then 2 else 0) else if validT p.text = false ∨ validT p.value = false then 6 else if p.id = 8 ∧ nameT p.text = false then 9 else 0
set_option maxHeartbeats 4000000 in
theorem check_ok (r : GPropRule) (kind : Int) (p : GProp) (h : p.text.length ≤ 9223372036854775807) : (lim0 E).pure 55 [r.pv, .int .i64 kind, p.pv] = some (.int .i64 (checkP r kind p)) := by
  have e := topicName_ok p.text h
  refine pure_of (0) ?_; rw [go_55]; unfold Tryz.f55; simp only [go_sem, Nat.reduceAdd, Nat.reduceMul, Nat.reduceSub, Nat.reduceEqDiff, Nat.reduceLeDiff, Nat.reduceLT, Int.reduceAdd, Int.reduceSub, Int.reduceMul, Int.reduceNeg, Int.reduceLT, Int.reduceLE, Int.reduceEq, Int.reduceNe, Int.reduceToNat, UInt8.reduceToNat, reduceCtorEq, and_true, true_and, decide_true, decide_false]
  repeat' (first | (refine grdC_split (fun h => ?_) (fun h => ?_) <;> try simp only [go_sem, Nat.reduceAdd, Nat.reduceMul, Nat.reduceSub, Nat.reduceEqDiff, Nat.reduceLeDiff, Nat.reduceLT, Int.reduceAdd, Int.reduceSub, Int.reduceMul, Int.reduceNeg, Int.reduceLT, Int.reduceLE, Int.reduceEq, Int.reduceNe, Int.reduceToNat, UInt8.reduceToNat, reduceCtorEq, and_true, true_and, decide_true, decide_false, e]) | (refine condC_split (fun h => ?_) (fun h => ?_) <;> try simp only [go_sem, Nat.reduceAdd, Nat.reduceMul, Nat.reduceSub, Nat.reduceEqDiff, Nat.reduceLeDiff, Nat.reduceLT, Int.reduceAdd, Int.reduceSub, Int.reduceMul, Int.reduceNeg, Int.reduceLT, Int.reduceLE, Int.reduceEq, Int.reduceNe, Int.reduceToNat, UInt8.reduceToNat, reduceCtorEq, and_true, true_and, decide_true, decide_false, e]) | (refine bcond_eq (fun h => ?_) (fun h => ?_) <;> try simp only [go_sem, Nat.reduceAdd, Nat.reduceMul, Nat.reduceSub, Nat.reduceEqDiff, Nat.reduceLeDiff, Nat.reduceLT, Int.reduceAdd, Int.reduceSub, Int.reduceMul, Int.reduceNeg, Int.reduceLT, Int.reduceLE, Int.reduceEq, Int.reduceNe, Int.reduceToNat, UInt8.reduceToNat, reduceCtorEq, and_true, true_and, decide_true, decide_false, e]))
  all_goals clear e
  all_goals (simp only [checkP, Option.some.injEq, PV.int.injEq, true_and, decide_eq_true_eq, decide_eq_false_iff_not, Bool.not_eq_true', Bool.not_eq_false', ne_eq, Decidable.not_not] at *; grind)
def propOk (kind : Int) (p : GProp) : Bool := decide (checkP (ruleOf p.id) kind p = 0)
theorem rule_range (id : Int) (h : ruleOf id ≠ ⟨0, 0, 0, 0⟩) : 1 ≤ id ∧ id ≤ 42 := by
  refine Decidable.byContradiction fun hc => h ?_
  unfold ruleOf
  have e : ∀ (n : Int) (a b : GPropRule), (1 ≤ n ∧ n ≤ 42) → bcond (decide (id = n)) a b = b := by
    intro n a b hn
    have : decide (id = n) = false := by simp; omega
    rw [this, bcond_false]
  repeat rw [e _ _ _ (by omega)]
end Go.Proofs.YtjnmgfmogganlaaGreatDoor

/-
  Contracts: bytes of texts, of numbers of few bytes; values of properties.
-/
namespace Go.Proofs.YtjnmgfmogganlaaGreatDoor
open Go.Pu
set_option maxRecDepth 100000
attribute [local irreducible] grdC condC bcond obind nextC loopG loopC loopD grdX grdD grunC stepC putC regK execK startC enterL stayC againC backC opC retH retU bodyL finP finS finW loopN seqC blockC nrmC

def framedL (s : List UInt8) : List UInt8 := putL (IntKind.u64.wrap (s.length : Int)) 2 ++ s
theorem framed_ok (s : List UInt8) (h : s.length ≤ 65535) : (lim0 E).pure 97 [.str s] = some (.str (framedL s)) := by
  have hb : 2 + s.length ≤ 9223372036854775807 := by omega
  refine pure_of (0) ?_; rw [go_97]; unfold Tryz.f97; simp only [go_sem, Nat.reduceAdd, Nat.reduceMul, Nat.reduceSub, Nat.reduceEqDiff, Nat.reduceLeDiff, Nat.reduceLT, Int.reduceAdd, Int.reduceSub, Int.reduceMul, Int.reduceNeg, Int.reduceLT, Int.reduceLE, Int.reduceEq, Int.reduceNe, Int.reduceToNat, UInt8.reduceToNat, reduceCtorEq, and_true, true_and, decide_true, decide_false, hb]
  rfl
def binL (s : List UInt8) : List UInt8 := if s.length ≤ 65535 then framedL s else []
theorem binL_length (s : List UInt8) : (binL s).length ≤ 65537 := by
  unfold binL
  split
  · simp [framedL, putL_length]; omega
  · simp
@[go_sem] theorem binary_ok (s : List UInt8) : (lim0 E).pure 82 [.str s] = some (.tup [.str (binL s), .int .i64 (if s.length ≤ 65535 then 0 else 2)]) := by
  unfold binL
  refine pure_of (0) ?_; rw [go_82]; unfold Tryz.f82; simp only [go_sem, Nat.reduceAdd, Nat.reduceMul, Nat.reduceSub, Nat.reduceEqDiff, Nat.reduceLeDiff, Nat.reduceLT, Int.reduceAdd, Int.reduceSub, Int.reduceMul, Int.reduceNeg, Int.reduceLT, Int.reduceLE, Int.reduceEq, Int.reduceNe, Int.reduceToNat, UInt8.reduceToNat, reduceCtorEq, and_true, true_and, decide_true, decide_false]
  refine condC_split (fun h => ?_) (fun h => ?_)
  · have h' : ¬ s.length ≤ 65535 := by simp at h; omega
    simp only [go_sem, Nat.reduceAdd, Nat.reduceMul, Nat.reduceSub, Nat.reduceEqDiff, Nat.reduceLeDiff, Nat.reduceLT, Int.reduceAdd, Int.reduceSub, Int.reduceMul, Int.reduceNeg, Int.reduceLT, Int.reduceLE, Int.reduceEq, Int.reduceNe, Int.reduceToNat, UInt8.reduceToNat, reduceCtorEq, and_true, true_and, decide_true, decide_false, if_neg h']
  · have h' : s.length ≤ 65535 := by simp at h; omega
    simp only [go_sem, Nat.reduceAdd, Nat.reduceMul, Nat.reduceSub, Nat.reduceEqDiff, Nat.reduceLeDiff, Nat.reduceLT, Int.reduceAdd, Int.reduceSub, Int.reduceMul, Int.reduceNeg, Int.reduceLT, Int.reduceLE, Int.reduceEq, Int.reduceNe, Int.reduceToNat, UInt8.reduceToNat, reduceCtorEq, and_true, true_and, decide_true, decide_false, framed_ok s h', if_pos h']
@[go_sem] theorem may_ok (n : Int) : (lim0 E).pure 83 [.int .i64 n] = some (.bool (decide (0 ≤ n ∧ n ≤ 268435455))) := by
  refine pure_of (0) ?_; rw [go_83]; unfold Tryz.f83; simp only [go_sem, Nat.reduceAdd, Nat.reduceMul, Nat.reduceSub, Nat.reduceEqDiff, Nat.reduceLeDiff, Nat.reduceLT, Int.reduceAdd, Int.reduceSub, Int.reduceMul, Int.reduceNeg, Int.reduceLT, Int.reduceLE, Int.reduceEq, Int.reduceNe, Int.reduceToNat, UInt8.reduceToNat, reduceCtorEq, and_true, true_and, decide_true, decide_false]
  repeat' (first | (refine grdC_split (fun h => ?_) (fun h => ?_) <;> try simp only [go_sem, Nat.reduceAdd, Nat.reduceMul, Nat.reduceSub, Nat.reduceEqDiff, Nat.reduceLeDiff, Nat.reduceLT, Int.reduceAdd, Int.reduceSub, Int.reduceMul, Int.reduceNeg, Int.reduceLT, Int.reduceLE, Int.reduceEq, Int.reduceNe, Int.reduceToNat, UInt8.reduceToNat, reduceCtorEq, and_true, true_and, decide_true, decide_false]) | (refine condC_split (fun h => ?_) (fun h => ?_) <;> try simp only [go_sem, Nat.reduceAdd, Nat.reduceMul, Nat.reduceSub, Nat.reduceEqDiff, Nat.reduceLeDiff, Nat.reduceLT, Int.reduceAdd, Int.reduceSub, Int.reduceMul, Int.reduceNeg, Int.reduceLT, Int.reduceLE, Int.reduceEq, Int.reduceNe, Int.reduceToNat, UInt8.reduceToNat, reduceCtorEq, and_true, true_and, decide_true, decide_false]) | (refine bcond_eq (fun h => ?_) (fun h => ?_) <;> try simp only [go_sem, Nat.reduceAdd, Nat.reduceMul, Nat.reduceSub, Nat.reduceEqDiff, Nat.reduceLeDiff, Nat.reduceLT, Int.reduceAdd, Int.reduceSub, Int.reduceMul, Int.reduceNeg, Int.reduceLT, Int.reduceLE, Int.reduceEq, Int.reduceNe, Int.reduceToNat, UInt8.reduceToNat, reduceCtorEq, and_true, true_and, decide_true, decide_false]))
  all_goals (refine sb ?_; simp at *; try omega)
def varB (n : Int) : Int := IntKind.u8.wrap (BitVec.ofInt 8 (IntKind.u8.wrap (n.tmod 128)) ||| BitVec.ofInt 8 128).toNat
def varN (n : Nat) : List Int := if n < 128 then [IntKind.u8.wrap (n : Int)] else varB n :: varN (n / 128)
def varL (n : Nat) : List UInt8 := (varN n).map fun n => UInt8.ofNat n.toNat
set_option maxHeartbeats 4000000 in
theorem varBytes_ok (n : Nat) (h : n ≤ 268435455) : (lim0 E).pure 59 [.int .i64 (n : Int)] = some (.tup [.str (varL n), .int .i64 0]) := by
  have h0 : (0 : Int) ≤ (n : Int) := by omega
  have h1 : (n : Int) ≤ 268435455 := by omega
  refine pure_of (n + 1) ?_; rw [go_59]; unfold Tryz.f59; simp only [go_sem, Nat.reduceAdd, Nat.reduceMul, Nat.reduceSub, Nat.reduceEqDiff, Nat.reduceLeDiff, Nat.reduceLT, Int.reduceAdd, Int.reduceSub, Int.reduceMul, Int.reduceNeg, Int.reduceLT, Int.reduceLE, Int.reduceEq, Int.reduceNe, Int.reduceToNat, UInt8.reduceToNat, reduceCtorEq, and_true, true_and, decide_true, decide_false, h0, h1]
  refine loop_ind (fun j vs H => ∃ (m g sz : Nat) (out : List Int), j = m ∧ H = [.tok g] ∧ vs = [.pv (.int .i64 m), .own 0 g sz (out.map (PV.int .u8))] ∧ (Nat.beq sz 1 || ((out.map (PV.int .u8)).isEmpty && Nat.beq sz 0)) = true ∧ varN n = out ++ varN m ∧ out.length + m ≤ n) n ⟨n, 0, 0, [], rfl, rfl, rfl, rfl, by simp, by simp⟩ (by omega) ?_
  rintro j vs H m' ⟨m, g, sz, out, rfl, rfl, rfl, hs, hv, hle⟩ ih
  have hr : room (out.length + 1) 1 = true := room_le (by omega)
  simp only [go_sem, Nat.reduceAdd, Nat.reduceMul, Nat.reduceSub, Nat.reduceEqDiff, Nat.reduceLeDiff, Nat.reduceLT, Int.reduceAdd, Int.reduceSub, Int.reduceMul, Int.reduceNeg, Int.reduceLT, Int.reduceLE, Int.reduceEq, Int.reduceNe, Int.reduceToNat, UInt8.reduceToNat, reduceCtorEq, and_true, true_and, decide_true, decide_false]
  refine condC_split (fun h => ?_) (fun h => ?_)
  · have hm : 128 ≤ j := by simp at h; omega
    have e1 : IntKind.i64.wrap ((j : Int).tdiv 128) = ((j / 128 : Nat) : Int) := by
      have e0 : (j : Int).tdiv 128 = ((j / 128 : Nat) : Int) := show Int.tdiv (Int.ofNat j) (Int.ofNat 128) = Int.ofNat (j / 128) from rfl
      rw [e0, w_in (by omega) (by omega)]
    have hd : varN j = varB j :: varN (j / 128) := by rw [varN, if_neg (by omega)]
    simp only [go_sem, Nat.reduceAdd, Nat.reduceMul, Nat.reduceSub, Nat.reduceEqDiff, Nat.reduceLeDiff, Nat.reduceLT, Int.reduceAdd, Int.reduceSub, Int.reduceMul, Int.reduceNeg, Int.reduceLT, Int.reduceLE, Int.reduceEq, Int.reduceNe, Int.reduceToNat, UInt8.reduceToNat, reduceCtorEq, and_true, true_and, decide_true, decide_false, hs, hr, e1]
    exact ih _ _ _ (by omega) ⟨j / 128, g + 1, 1, out ++ [varB j], rfl, rfl, rfl, rfl, by rw [hv, hd]; simp, by simp only [List.length_append, List.length_cons, List.length_nil]; omega⟩
  · have hm : j < 128 := by simp at h; omega
    have hd : varN j = [IntKind.u8.wrap (j : Int)] := by rw [varN, if_pos hm]
    simp only [go_sem, Nat.reduceAdd, Nat.reduceMul, Nat.reduceSub, Nat.reduceEqDiff, Nat.reduceLeDiff, Nat.reduceLT, Int.reduceAdd, Int.reduceSub, Int.reduceMul, Int.reduceNeg, Int.reduceLT, Int.reduceLE, Int.reduceEq, Int.reduceNe, Int.reduceToNat, UInt8.reduceToNat, reduceCtorEq, and_true, true_and, decide_true, decide_false, hs, hr]
    rw [varL, hv, hd]
theorem varN_length : ∀ (k n : Nat), n ≤ k → n ≤ 268435455 → (varN n).length ≤ 4 := by
  intro k n _ h
  rw [varN]
  split
  · simp
  rw [varN]
  split
  · simp
  rw [varN]
  split
  · simp
  rw [varN]
  split
  · simp
  · omega
def valueL (shape : Int) (p : GProp) : List UInt8 :=
  if shape = 1 then putL (IntKind.u64.wrap p.n) 1 else if shape = 2 then putL (IntKind.u64.wrap p.n) 2 else if shape = 3 then putL (IntKind.u64.wrap p.n) 4 else
  if shape = 4 then varL p.n.toNat else if shape = 7 then binL p.text ++ binL p.value else binL p.text
set_option maxHeartbeats 4000000 in
theorem value_ok (shape : Int) (p : GProp) (h : shape = 4 → 0 ≤ p.n ∧ p.n ≤ 268435455) : (lim0 E).pure 57 [.int .i64 shape, p.pv] = some (.str (valueL shape p)) := by
  rcases Decidable.em (shape = 1) with rfl | h1
  · refine pure_of (0) ?_; rw [go_57]; unfold Tryz.f57; simp only [go_sem, Nat.reduceAdd, Nat.reduceMul, Nat.reduceSub, Nat.reduceEqDiff, Nat.reduceLeDiff, Nat.reduceLT, Int.reduceAdd, Int.reduceSub, Int.reduceMul, Int.reduceNeg, Int.reduceLT, Int.reduceLE, Int.reduceEq, Int.reduceNe, Int.reduceToNat, UInt8.reduceToNat, reduceCtorEq, and_true, true_and, decide_true, decide_false]
    rfl
  rcases Decidable.em (shape = 2) with rfl | h2
  · refine pure_of (0) ?_; rw [go_57]; unfold Tryz.f57; simp only [go_sem, Nat.reduceAdd, Nat.reduceMul, Nat.reduceSub, Nat.reduceEqDiff, Nat.reduceLeDiff, Nat.reduceLT, Int.reduceAdd, Int.reduceSub, Int.reduceMul, Int.reduceNeg, Int.reduceLT, Int.reduceLE, Int.reduceEq, Int.reduceNe, Int.reduceToNat, UInt8.reduceToNat, reduceCtorEq, and_true, true_and, decide_true, decide_false]
    rfl
  rcases Decidable.em (shape = 3) with rfl | h3
  · refine pure_of (0) ?_; rw [go_57]; unfold Tryz.f57; simp only [go_sem, Nat.reduceAdd, Nat.reduceMul, Nat.reduceSub, Nat.reduceEqDiff, Nat.reduceLeDiff, Nat.reduceLT, Int.reduceAdd, Int.reduceSub, Int.reduceMul, Int.reduceNeg, Int.reduceLT, Int.reduceLE, Int.reduceEq, Int.reduceNe, Int.reduceToNat, UInt8.reduceToNat, reduceCtorEq, and_true, true_and, decide_true, decide_false]
    rfl
  rcases Decidable.em (shape = 4) with rfl | h4
  · obtain ⟨k1, k2⟩ := h rfl
    obtain ⟨m, hm⟩ : ∃ m : Nat, p.n = m := ⟨p.n.toNat, by omega⟩
    have e1 : IntKind.i64.wrap p.n = (m : Int) := by rw [hm, w_in (by omega) (by omega)]
    have e2 := varBytes_ok m (by omega)
    refine pure_of (0) ?_; rw [go_57]; unfold Tryz.f57; simp only [go_sem, Nat.reduceAdd, Nat.reduceMul, Nat.reduceSub, Nat.reduceEqDiff, Nat.reduceLeDiff, Nat.reduceLT, Int.reduceAdd, Int.reduceSub, Int.reduceMul, Int.reduceNeg, Int.reduceLT, Int.reduceLE, Int.reduceEq, Int.reduceNe, Int.reduceToNat, UInt8.reduceToNat, reduceCtorEq, and_true, true_and, decide_true, decide_false, e1, e2]
    rw [valueL, hm]; rfl
  have hb : (binL p.text).length + (binL p.value).length ≤ 9223372036854775807 := by
    have := binL_length p.text
    have := binL_length p.value
    omega
  rcases Decidable.em (shape = 7) with rfl | h7
  · refine pure_of (0) ?_; rw [go_57]; unfold Tryz.f57; simp only [go_sem, Nat.reduceAdd, Nat.reduceMul, Nat.reduceSub, Nat.reduceEqDiff, Nat.reduceLeDiff, Nat.reduceLT, Int.reduceAdd, Int.reduceSub, Int.reduceMul, Int.reduceNeg, Int.reduceLT, Int.reduceLE, Int.reduceEq, Int.reduceNe, Int.reduceToNat, UInt8.reduceToNat, reduceCtorEq, and_true, true_and, decide_true, decide_false, hb]
    rfl
  · refine pure_of (0) ?_; rw [go_57]; unfold Tryz.f57; simp only [go_sem, Nat.reduceAdd, Nat.reduceMul, Nat.reduceSub, Nat.reduceEqDiff, Nat.reduceLeDiff, Nat.reduceLT, Int.reduceAdd, Int.reduceSub, Int.reduceMul, Int.reduceNeg, Int.reduceLT, Int.reduceLE, Int.reduceEq, Int.reduceNe, Int.reduceToNat, UInt8.reduceToNat, reduceCtorEq, and_true, true_and, decide_true, decide_false, h1, h2, h3, h4, h7, ne_eq, not_false_eq_true]
    rw [valueL, if_neg h1, if_neg h2, if_neg h3, if_neg h4, if_neg h7]
theorem valueL_length (shape : Int) (p : GProp) (h : shape = 4 → 0 ≤ p.n ∧ p.n ≤ 268435455) : (valueL shape p).length ≤ 131074 := by
  have a := binL_length p.text
  have b := binL_length p.value
  unfold valueL
  split
  · simp [putL_length]
  split
  · simp [putL_length]
  split
  · simp [putL_length]
  split
  · rename_i h4
    have := varN_length p.n.toNat p.n.toNat (Nat.le_refl _) (by have := h h4; omega)
    simp [varL]; omega
  split
  · simp; omega
  · omega
end Go.Proofs.YtjnmgfmogganlaaGreatDoor
