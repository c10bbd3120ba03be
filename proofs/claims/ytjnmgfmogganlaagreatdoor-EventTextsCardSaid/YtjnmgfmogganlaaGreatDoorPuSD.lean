/-
  Contracts: lists of properties.
-/
import Derived.Test.YtjnmgfmogganlaaGreatDoorPuSC
set_option linter.unusedSimpArgs false
set_option linter.unusedVariables false
namespace Go.Proofs.YtjnmgfmogganlaaGreatDoor
open Go.Pu
set_option maxRecDepth 100000
attribute [local irreducible] grdC condC bcond obind nextC loopG loopC loopD grdX grdD grunC stepC putC regK execK startC enterL stayC againC backC opC retH retU bodyL finP finS finW loopN seqC blockC nrmC

def avI (ns : List Int) : List AV := ns.map fun z => .pv (.int .i64 z)
@[go_sem] theorem avI_length (ns : List Int) : (avI ns).length = ns.length := by simp [avI]
theorem avI_get (ns : List Int) (k : Nat) (h : k < ns.length) : (avI ns)[k]? = some (.pv (.int .i64 ns[k])) := by simp [avI, h]
theorem avI_set (ns : List Int) (p : Nat) (b : Int) (h : p < ns.length) : (avI ns).take p ++ [AV.pv (.int .i64 b)] ++ (avI ns).drop (p + 1) = avI (ns.set p b) := by
  unfold avI
  rw [List.map_set, List.set_eq_take_append_cons_drop, if_pos (by simpa using h)]
  simp
@[go_sem] theorem avI_noOwn (ns : List Int) (n : Nat) : noOwn ((avI ns).drop n) = true := noOwn_drop n _ (by
  unfold avI; induction ns with | nil => rfl | cons x xs ih => exact ih)
def bump (ns : List Int) (k : Nat) : List Int := ns.set k (IntKind.i64.wrap (ns.getD k 0 + 1))
def oftenB (kind id : Int) : Bool := decide (id = 38 ∨ id = 11 ∧ kind = 3)
set_option maxHeartbeats 4000000 in
theorem again_ok (bases : List Nat) (H : Hp) (b k : Nat) (kind : Int) (ns : List Int) (hn : ns.length = 64) (hk : k < 64) (hb : H[b]? = some (.cells (avI ns))) :
    (lim0 E).shut bases 56 [.ptr b 0, .pv (.int .i64 kind), .pv (.int .i64 (k : Int))] H = some (.pv (.bool (decide (1 < (bump ns k).getD k 0) && !oftenB kind k)), H.set b (.cells (avI (bump ns k)))) := by
  have hbl : b < H.length := (List.getElem?_eq_some_iff.1 hb).1
  have h1 := avI_get ns k (by omega)
  have h2 := avI_set ns k (IntKind.i64.wrap (ns[k]'(by omega) + 1)) (by omega)
  have hg : ns.getD k 0 = ns[k]'(by omega) := by simp [List.getD, hn, hk]
  have h3 : bump ns k = ns.set k (IntKind.i64.wrap (ns[k]'(by omega) + 1)) := by rw [bump, hg]
  rw [← h3] at h2
  have hl : (bump ns k).length = 64 := by simp [bump, hn]
  have h4 := avI_get (bump ns k) k (by omega)
  have hg2 : (bump ns k).getD k 0 = (bump ns k)[k]'(by omega) := by simp [List.getD, hl, hk]
  rw [hg2]
  have h5 : Nat.ble (k + 1) 64 = true := by simp; omega
  have h6 : ∀ x, (H.set b x)[b]? = some x := fun x => List.getElem?_set_self hbl
  have h7 : ∀ x, (H.set b x).take H.length = H.set b x := fun x => List.take_of_length_le (by simp)
  refine shut_of (0) ?_; rw [go_56]; unfold Tryz.f56; simp only [go_sem, Nat.reduceAdd, Nat.reduceMul, Nat.reduceSub, Nat.reduceEqDiff, Nat.reduceLeDiff, Nat.reduceLT, Int.reduceAdd, Int.reduceSub, Int.reduceMul, Int.reduceNeg, Int.reduceLT, Int.reduceLE, Int.reduceEq, Int.reduceNe, Int.reduceToNat, UInt8.reduceToNat, reduceCtorEq, and_true, true_and, decide_true, decide_false, hb, hk, h1, h2, hn, h5, hbl, h6, h4, h7]
  refine grdC_split (fun h => ?_) (fun h => ?_) <;> simp only [go_sem, Nat.reduceAdd, Nat.reduceMul, Nat.reduceSub, Nat.reduceEqDiff, Nat.reduceLeDiff, Nat.reduceLT, Int.reduceAdd, Int.reduceSub, Int.reduceMul, Int.reduceNeg, Int.reduceLT, Int.reduceLE, Int.reduceEq, Int.reduceNe, Int.reduceToNat, UInt8.reduceToNat, reduceCtorEq, and_true, true_and, decide_true, decide_false, h7]
  · simp only [h, oftenB, Bool.true_and]
  · simp only [h, Bool.false_and]
theorem lone_ok (bases : List Nat) (H : Hp) (b : Nat) (ns : List Int) (hn : ns.length = 64) (hb : H[b]? = some (.cells (avI ns))) :
    (lim0 E).shut bases 58 [.ptr b 0] H = some (.pv (.bool (decide (0 < ns.getD 22 0) && decide (ns.getD 21 0 = 0))), H) := by
  have h1 := avI_get ns 22 (by omega)
  have h2 := avI_get ns 21 (by omega)
  have g1 : ns.getD 22 0 = ns[22]'(by omega) := by simp [List.getD, hn]
  have g2 : ns.getD 21 0 = ns[21]'(by omega) := by simp [List.getD, hn]
  have i1 : idxO (.pv (.int .i64 22)) 64 = some 22 := rfl
  have i2 : idxO (.pv (.int .i64 21)) 64 = some 21 := rfl
  rw [g1, g2]
  refine shut_of (0) ?_; rw [go_58]; unfold Tryz.f58; simp only [go_sem, Nat.reduceAdd, Nat.reduceMul, Nat.reduceSub, Nat.reduceEqDiff, Nat.reduceLeDiff, Nat.reduceLT, Int.reduceAdd, Int.reduceSub, Int.reduceMul, Int.reduceNeg, Int.reduceLT, Int.reduceLE, Int.reduceEq, Int.reduceNe, Int.reduceToNat, UInt8.reduceToNat, reduceCtorEq, and_true, true_and, decide_true, decide_false, hb, h1, h2, i1, i2]
  refine grdC_split (fun h => ?_) (fun h => ?_) <;> simp only [go_sem, Nat.reduceAdd, Nat.reduceMul, Nat.reduceSub, Nat.reduceEqDiff, Nat.reduceLeDiff, Nat.reduceLT, Int.reduceAdd, Int.reduceSub, Int.reduceMul, Int.reduceNeg, Int.reduceLT, Int.reduceLE, Int.reduceEq, Int.reduceNe, Int.reduceToNat, UInt8.reduceToNat, reduceCtorEq, and_true, true_and, decide_true, decide_false, hb, h1, h2, i1, i2]
  · simp only [h, Bool.true_and]
  · simp only [h, Bool.false_and]
end Go.Proofs.YtjnmgfmogganlaaGreatDoor

/-
  Contracts: lists of properties, their bytes.
-/
namespace Go.Proofs.YtjnmgfmogganlaaGreatDoor
open Go.Pu
set_option maxRecDepth 100000
attribute [local irreducible] grdC condC bcond obind nextC loopG loopC loopD grdX grdD grunC stepC putC regK execK startC enterL stayC againC backC opC retH retU bodyL finP finS finW loopN seqC blockC nrmC

def encN (s : List UInt8) : List Int := s.map fun b => (b.toNat : Int)
@[go_sem] theorem map_str (l : List Int) (s : List UInt8) : l.map (PV.int .u8) ++ s.map encB = (l ++ encN s).map (PV.int .u8) := by
  rw [List.map_append, encN, List.map_map]; rfl
/-- What is written for a list, and the error: what was seen, what is written so far. -/
def propsGo (kind : Int) : List GProp → List Int → List Int → List UInt8 × Int
  | [], ns, out => if (decide (0 < ns.getD 22 0) && decide (ns.getD 21 0 = 0)) = true then ([], 9) else (varL out.length ++ out.map (fun n => UInt8.ofNat n.toNat), 0)
  | p :: ps, ns, out =>
    if checkP (ruleOf p.id) kind p ≠ 0 then ([], checkP (ruleOf p.id) kind p)
    else if (decide (1 < (bump ns p.id.toNat).getD p.id.toNat 0) && !oftenB kind p.id) = true then ([], 9)
    else propsGo kind ps (bump ns p.id.toNat) (out ++ [IntKind.u8.wrap p.id] ++ encN (valueL (ruleOf p.id).shape p))
def propsL (kind : Int) (l : List GProp) : List UInt8 × Int := if 1000 < l.length then ([], 4) else propsGo kind l (List.replicate 64 0) []
theorem check_id (kind : Int) (p : GProp) (h : checkP (ruleOf p.id) kind p = 0) : 1 ≤ p.id ∧ p.id ≤ 42 := by
  apply rule_range
  intro e
  rw [e] at h
  have : hasR ⟨0, 0, 0, 0⟩ kind = false := by
    have e2 : ∀ x : Int, (0 : Int).fdiv x = 0 := fun x => Int.zero_fdiv x
    simp [hasR, e2]
    intro _ _
    decide
  rw [checkP, if_pos this] at h
  cases h
theorem shape4 (id : Int) (h : (ruleOf id).shape = 4) : (ruleOf id).least = 1 ∧ (ruleOf id).most = 268435455 := by
  rcases Decidable.em (ruleOf id = ⟨0, 0, 0, 0⟩) with e | e
  · rw [e] at h; cases h
  · obtain ⟨h1, h2⟩ := rule_range id e
    have : id = 1 ∨ id = 2 ∨ id = 3 ∨ id = 4 ∨ id = 5 ∨ id = 6 ∨ id = 7 ∨ id = 8 ∨ id = 9 ∨ id = 10 ∨ id = 11 ∨ id = 12 ∨ id = 13 ∨ id = 14 ∨ id = 15 ∨ id = 16 ∨ id = 17 ∨ id = 18 ∨ id = 19 ∨ id = 20 ∨ id = 21 ∨ id = 22 ∨ id = 23 ∨ id = 24 ∨ id = 25 ∨ id = 26 ∨ id = 27 ∨ id = 28 ∨ id = 29 ∨ id = 30 ∨ id = 31 ∨ id = 32 ∨ id = 33 ∨ id = 34 ∨ id = 35 ∨ id = 36 ∨ id = 37 ∨ id = 38 ∨ id = 39 ∨ id = 40 ∨ id = 41 ∨ id = 42 := by omega
    have key : ∀ k : Nat, k < 43 → (ruleOf (k : Int)).shape = 4 → (ruleOf (k : Int)).least = 1 ∧ (ruleOf (k : Int)).most = 268435455 := by decide +kernel
    have e3 := key id.toNat (by omega)
    rw [show ((id.toNat : Nat) : Int) = id by omega] at e3
    exact e3 h
theorem check_shape4 (kind : Int) (p : GProp) (h : checkP (ruleOf p.id) kind p = 0) (h4 : (ruleOf p.id).shape = 4) : 0 ≤ p.n ∧ p.n ≤ 268435455 := by
  obtain ⟨k1, k2⟩ := shape4 p.id h4
  unfold checkP at h
  split at h
  · cases h
  · rw [if_pos (by omega)] at h
    unfold checkNum at h
    rw [k1, k2] at h
    split at h
    · cases h
    · split at h
      · cases h
      · omega
set_option maxHeartbeats 8000000 in
theorem propBytes_ok (kind : Int) (l : List GProp) (hl : l.length ≤ 9223372036854775807) (ht : ∀ p ∈ l, p.text.length ≤ 9223372036854775807) : (lim0 E).pure 41 [.int .i64 kind, .lst 4 (List.map GProp.pv l)] = some (.tup [.str (propsL kind l).1, .int .i64 (propsL kind l).2]) := by
  refine pure_of (l.length + 1) ?_; rw [go_41]; unfold Tryz.f41; simp only [go_sem, Nat.reduceAdd, Nat.reduceMul, Nat.reduceSub, Nat.reduceEqDiff, Nat.reduceLeDiff, Nat.reduceLT, Int.reduceAdd, Int.reduceSub, Int.reduceMul, Int.reduceNeg, Int.reduceLT, Int.reduceLE, Int.reduceEq, Int.reduceNe, Int.reduceToNat, UInt8.reduceToNat, reduceCtorEq, and_true, true_and, decide_true, decide_false]
  refine condC_split (fun h => ?_) (fun h => ?_)
  · have h' : 1000 < l.length := by simp at h; omega
    simp only [go_sem, Nat.reduceAdd, Nat.reduceMul, Nat.reduceSub, Nat.reduceEqDiff, Nat.reduceLeDiff, Nat.reduceLT, Int.reduceAdd, Int.reduceSub, Int.reduceMul, Int.reduceNeg, Int.reduceLT, Int.reduceLE, Int.reduceEq, Int.reduceNe, Int.reduceToNat, UInt8.reduceToNat, reduceCtorEq, and_true, true_and, decide_true, decide_false]
    rw [propsL, if_pos h']
  have hle : ¬ 1000 < l.length := by simp at h; omega
  rw [propsL, if_neg hle]
  simp only [go_sem, Nat.reduceAdd, Nat.reduceMul, Nat.reduceSub, Nat.reduceEqDiff, Nat.reduceLeDiff, Nat.reduceLT, Int.reduceAdd, Int.reduceSub, Int.reduceMul, Int.reduceNeg, Int.reduceLT, Int.reduceLE, Int.reduceEq, Int.reduceNe, Int.reduceToNat, UInt8.reduceToNat, reduceCtorEq, and_true, true_and, decide_true, decide_false]
  have hz : avI (List.replicate 64 0) = List.replicate 64 (AV.pv (.int .i64 0)) := by rw [avI, List.map_replicate]
  refine loop_ind (fun j vs H => ∃ (i g sz : Nat) (ns out : List Int), j = l.length - i ∧ i ≤ l.length ∧ H = [.cells (avI ns), .tok g] ∧ vs = [.pv (.int .i64 kind), .pv rulesM, .ptr 0 0, .own 1 g sz (out.map (PV.int .u8)), .pv (.lst 4 (List.map GProp.pv l)), .pv (.int .i64 l.length), .pv (.int .i64 i)] ∧ (Nat.beq sz 1 || ((out.map (PV.int .u8)).isEmpty && Nat.beq sz 0)) = true ∧ ns.length = 64 ∧ out.length ≤ i * 131075 ∧ propsGo kind l (List.replicate 64 0) [] = propsGo kind (l.drop i) ns out) l.length ⟨0, 0, 0, List.replicate 64 0, [], by simp, by simp, by rw [hz], rfl, rfl, by simp, by simp, by simp⟩ (by omega) ?_
  rintro j vs H m' ⟨i, g, sz, ns, out, hj, hi, rfl, rfl, hs, hn, ho, hgo⟩ ih
  rw [hgo]
  simp only [go_sem, Nat.reduceAdd, Nat.reduceMul, Nat.reduceSub, Nat.reduceEqDiff, Nat.reduceLeDiff, Nat.reduceLT, Int.reduceAdd, Int.reduceSub, Int.reduceMul, Int.reduceNeg, Int.reduceLT, Int.reduceLE, Int.reduceEq, Int.reduceNe, Int.reduceToNat, UInt8.reduceToNat, reduceCtorEq, and_true, true_and, decide_true, decide_false]
  refine condC_split (fun h => ?_) (fun h => ?_)
  · have hi' : i < l.length := by simp at h; omega
    have hd : propsGo kind (l.drop i) ns out = propsGo kind (l[i] :: l.drop (i + 1)) ns out := by rw [List.drop_eq_getElem_cons hi']
    have hlk := fun H => look_rule H l[i].id
    have hck := check_ok (ruleOf l[i].id) kind l[i] (ht _ (List.getElem_mem hi'))
    simp only [go_sem, Nat.reduceAdd, Nat.reduceMul, Nat.reduceSub, Nat.reduceEqDiff, Nat.reduceLeDiff, Nat.reduceLT, Int.reduceAdd, Int.reduceSub, Int.reduceMul, Int.reduceNeg, Int.reduceLT, Int.reduceLE, Int.reduceEq, Int.reduceNe, Int.reduceToNat, UInt8.reduceToNat, reduceCtorEq, and_true, true_and, decide_true, decide_false, hi', hlk, hck]
    refine condC_split (fun hc => ?_) (fun hc => ?_)
    · have hc' : checkP (ruleOf l[i].id) kind l[i] ≠ 0 := by simpa using hc
      simp only [go_sem, Nat.reduceAdd, Nat.reduceMul, Nat.reduceSub, Nat.reduceEqDiff, Nat.reduceLeDiff, Nat.reduceLT, Int.reduceAdd, Int.reduceSub, Int.reduceMul, Int.reduceNeg, Int.reduceLT, Int.reduceLE, Int.reduceEq, Int.reduceNe, Int.reduceToNat, UInt8.reduceToNat, reduceCtorEq, and_true, true_and, decide_true, decide_false]
      rw [hd, propsGo, if_pos hc']
    have hc' : checkP (ruleOf l[i].id) kind l[i] = 0 := by simpa using hc
    obtain ⟨hid1, hid2⟩ := check_id kind l[i] hc'
    obtain ⟨k, hk⟩ : ∃ k : Nat, l[i].id = k := ⟨l[i].id.toNat, by omega⟩
    have hkn : l[i].id.toNat = k := by omega
    have hag := fun (bases : List Nat) (H : Hp) => again_ok bases H 0 k kind ns hn (by omega)
    rw [← hk] at hag
    have hv := value_ok (ruleOf l[i].id).shape l[i] (check_shape4 kind l[i] hc')
    have hvl := valueL_length (ruleOf l[i].id).shape l[i] (check_shape4 kind l[i] hc')
    have hr1 : room (out.length + 1) 1 = true := room_le (by omega)
    have hr2 : room (out.length + 1 + (valueL (ruleOf l[i].id).shape l[i]).length) 1 = true := room_le (by omega)
    simp only [go_sem, Nat.reduceAdd, Nat.reduceMul, Nat.reduceSub, Nat.reduceEqDiff, Nat.reduceLeDiff, Nat.reduceLT, Int.reduceAdd, Int.reduceSub, Int.reduceMul, Int.reduceNeg, Int.reduceLT, Int.reduceLE, Int.reduceEq, Int.reduceNe, Int.reduceToNat, UInt8.reduceToNat, reduceCtorEq, and_true, true_and, decide_true, decide_false, hag]
    refine condC_split (fun ha => ?_) (fun ha => ?_)
    · simp only [go_sem, Nat.reduceAdd, Nat.reduceMul, Nat.reduceSub, Nat.reduceEqDiff, Nat.reduceLeDiff, Nat.reduceLT, Int.reduceAdd, Int.reduceSub, Int.reduceMul, Int.reduceNeg, Int.reduceLT, Int.reduceLE, Int.reduceEq, Int.reduceNe, Int.reduceToNat, UInt8.reduceToNat, reduceCtorEq, and_true, true_and, decide_true, decide_false]
      rw [hd, propsGo, if_neg (by simpa using hc'), if_pos (by rw [hkn]; exact ha)]
    · simp only [go_sem, Nat.reduceAdd, Nat.reduceMul, Nat.reduceSub, Nat.reduceEqDiff, Nat.reduceLeDiff, Nat.reduceLT, Int.reduceAdd, Int.reduceSub, Int.reduceMul, Int.reduceNeg, Int.reduceLT, Int.reduceLE, Int.reduceEq, Int.reduceNe, Int.reduceToNat, UInt8.reduceToNat, reduceCtorEq, and_true, true_and, decide_true, decide_false, hv, hs, hr1, hr2]
      rw [w_succ i (by omega), ← hgo]
      refine ih _ _ _ (by omega) ⟨i + 1, g + 1 + 1, 1, bump ns k, _, rfl, by omega, rfl, rfl, rfl, by simp [bump, hn], ?_, ?_⟩
      · simp only [List.length_append, List.length_cons, List.length_nil, encN, List.length_map]
        omega
      · rw [hgo, hd, propsGo, if_neg (by simpa using hc'), if_neg (by rw [hkn, ha]; simp), hkn]
  · have hi' : l.length ≤ i := by simp at h; omega
    have hlo := fun (bases : List Nat) (H : Hp) => lone_ok bases H 0 ns hn
    have hd : propsGo kind (l.drop i) ns out = propsGo kind [] ns out := by rw [List.drop_eq_nil_of_le hi']
    have hvb := varBytes_ok out.length (by omega)
    have hvn := varN_length out.length out.length (Nat.le_refl _) (by omega)
    have hb : (varL out.length).length + out.length ≤ 9223372036854775807 := by simp [varL]; omega
    simp only [go_sem, Nat.reduceAdd, Nat.reduceMul, Nat.reduceSub, Nat.reduceEqDiff, Nat.reduceLeDiff, Nat.reduceLT, Int.reduceAdd, Int.reduceSub, Int.reduceMul, Int.reduceNeg, Int.reduceLT, Int.reduceLE, Int.reduceEq, Int.reduceNe, Int.reduceToNat, UInt8.reduceToNat, reduceCtorEq, and_true, true_and, decide_true, decide_false, hlo]
    refine condC_split (fun ha => ?_) (fun ha => ?_)
    · simp only [go_sem, Nat.reduceAdd, Nat.reduceMul, Nat.reduceSub, Nat.reduceEqDiff, Nat.reduceLeDiff, Nat.reduceLT, Int.reduceAdd, Int.reduceSub, Int.reduceMul, Int.reduceNeg, Int.reduceLT, Int.reduceLE, Int.reduceEq, Int.reduceNe, Int.reduceToNat, UInt8.reduceToNat, reduceCtorEq, and_true, true_and, decide_true, decide_false]
      rw [hd, propsGo, if_pos ha]
    · simp only [go_sem, Nat.reduceAdd, Nat.reduceMul, Nat.reduceSub, Nat.reduceEqDiff, Nat.reduceLeDiff, Nat.reduceLT, Int.reduceAdd, Int.reduceSub, Int.reduceMul, Int.reduceNeg, Int.reduceLT, Int.reduceLE, Int.reduceEq, Int.reduceNe, Int.reduceToNat, UInt8.reduceToNat, reduceCtorEq, and_true, true_and, decide_true, decide_false, hvb, hb]
      rw [hd, propsGo, if_neg (by rw [ha]; simp)]
theorem propValid_ok (kind : Int) (l : List GProp) (hl : l.length ≤ 9223372036854775807) (ht : ∀ p ∈ l, p.text.length ≤ 9223372036854775807) : (lim0 E).pure 29 [.int .i64 kind, .lst 4 (List.map GProp.pv l)] = some (.int .i64 (propsL kind l).2) := by
  have e := propBytes_ok kind l hl ht
  refine pure_of (0) ?_; rw [go_29]; unfold Tryz.f29; simp only [go_sem, Nat.reduceAdd, Nat.reduceMul, Nat.reduceSub, Nat.reduceEqDiff, Nat.reduceLeDiff, Nat.reduceLT, Int.reduceAdd, Int.reduceSub, Int.reduceMul, Int.reduceNeg, Int.reduceLT, Int.reduceLE, Int.reduceEq, Int.reduceNe, Int.reduceToNat, UInt8.reduceToNat, reduceCtorEq, and_true, true_and, decide_true, decide_false, e]
end Go.Proofs.YtjnmgfmogganlaaGreatDoor

/-
  Contracts: events of messages.
-/
namespace Go.Proofs.YtjnmgfmogganlaaGreatDoor
open Go.Pu
set_option maxRecDepth 100000
attribute [local irreducible] grdC condC bcond obind nextC loopG loopC loopD grdX grdD grunC stepC putC regK execK startC enterL stayC againC backC opC retH retU bodyL finP finS finW loopN seqC blockC nrmC

def b11 (e : GEvent) : Bool := decide ((propsL 3 e.props).2 ≠ 0)
theorem rule11_ok (bases : List Nat) (H : Hp) (e : GEvent) (pe : Nat) (h : wfE e) (he : H[pe]? = some (.cells e.avs)) : (lim0 E).shut bases 28 [.ptr pe 0] H = some (.pv (.bool (b11 e)), H) := by
  have hx := propValid_ok 3 e.props h.props h.ptexts
  refine shut_of (0) ?_; rw [go_28]; unfold Tryz.f28; simp only [go_sem, Nat.reduceAdd, Nat.reduceMul, Nat.reduceSub, Nat.reduceEqDiff, Nat.reduceLeDiff, Nat.reduceLT, Int.reduceAdd, Int.reduceSub, Int.reduceMul, Int.reduceNeg, Int.reduceLT, Int.reduceLE, Int.reduceEq, Int.reduceNe, Int.reduceToNat, UInt8.reduceToNat, reduceCtorEq, and_true, true_and, decide_true, decide_false, he, hx]
  rfl
def snE (e : GEvent) : Bool := decide (e.proto = 3)
def ackE (e : GEvent) : Bool := decide (e.qos = 1) || decide (e.qos = 2)
/-- Why an event of a message may not be. -/
def publishE (e : GEvent) : Int := if b1 e then 2 else if b2 e then 10 else if b3 e (snE e) then 2 else if b4 e (ackE e) then 2 else if b5 e (ackE e) (snE e) then 2 else if b6 e then 2 else if b7 e (snE e) then 2 else if b8 e then 2 else if b9 e then 2 else if b10 e then 2 else if b11 e then 9 else 0
set_option maxHeartbeats 8000000 in
theorem publish_ok (e : GEvent) (h : wfE e) : (lim0 E).pure 6 [e.pv] = some (.int .i64 (publishE e)) := by
  have r1 := fun b H => rule1_ok b H e 0 h
  have r2 := fun b H => rule2_ok b H e 0 h
  have r3 := fun b H => rule3_ok b H e 0 1 (snE e) h
  have r4 := fun b H => rule4_ok b H e 0 2 (ackE e) h
  have r5 := fun b H => rule5_ok b H e 0 2 1 (ackE e) (snE e) h
  have r6 := fun b H => rule6_ok b H e 0 h
  have r7 := fun b H => rule7_ok b H e 1 0 (snE e) h
  have r8 := fun b H => rule8_ok b H e 0 h
  have r9 := fun b H => rule9_ok b H e 0 h
  have r10 := fun b H => rule10_ok b H e 0 h
  have r11 := fun b H => rule11_ok b H e 0 h
  refine pure_of (12) ?_; rw [go_6]; unfold Tryz.f6; simp only [go_sem, Nat.reduceAdd, Nat.reduceMul, Nat.reduceSub, Nat.reduceEqDiff, Nat.reduceLeDiff, Nat.reduceLT, Int.reduceAdd, Int.reduceSub, Int.reduceMul, Int.reduceNeg, Int.reduceLT, Int.reduceLE, Int.reduceEq, Int.reduceNe, Int.reduceToNat, UInt8.reduceToNat, reduceCtorEq, and_true, true_and, decide_true, decide_false]
  refine grdC_split (fun g => ?_) (fun g => ?_) <;> simp only [go_sem, Nat.reduceAdd, Nat.reduceMul, Nat.reduceSub, Nat.reduceEqDiff, Nat.reduceLeDiff, Nat.reduceLT, Int.reduceAdd, Int.reduceSub, Int.reduceMul, Int.reduceNeg, Int.reduceLT, Int.reduceLE, Int.reduceEq, Int.reduceNe, Int.reduceToNat, UInt8.reduceToNat, reduceCtorEq, and_true, true_and, decide_true, decide_false]
  · skip
    have hA : ackE e = true := by simp at g; simp [ackE, g]
    have hS : snE e = decide (e.proto = 3) := rfl
    rw [hS] at r3 r5 r7
    rw [hA] at r4 r5
    refine (nextC_step 11 _ _ _ _).trans ?_
    simp only [go_sem, Nat.reduceAdd, Nat.reduceMul, Nat.reduceSub, Nat.reduceEqDiff, Nat.reduceLeDiff, Nat.reduceLT, Int.reduceAdd, Int.reduceSub, Int.reduceMul, Int.reduceNeg, Int.reduceLT, Int.reduceLE, Int.reduceEq, Int.reduceNe, Int.reduceToNat, UInt8.reduceToNat, reduceCtorEq, and_true, true_and, decide_true, decide_false, r1]
    refine condC_split (fun g1 => ?_) (fun g1 => ?_) <;> simp only [go_sem, Nat.reduceAdd, Nat.reduceMul, Nat.reduceSub, Nat.reduceEqDiff, Nat.reduceLeDiff, Nat.reduceLT, Int.reduceAdd, Int.reduceSub, Int.reduceMul, Int.reduceNeg, Int.reduceLT, Int.reduceLE, Int.reduceEq, Int.reduceNe, Int.reduceToNat, UInt8.reduceToNat, reduceCtorEq, and_true, true_and, decide_true, decide_false]
    · simp only [publishE, hA, hS, g1, if_true, if_false, Bool.false_eq_true]
    refine (nextC_step 10 _ _ _ _).trans ?_
    simp only [go_sem, Nat.reduceAdd, Nat.reduceMul, Nat.reduceSub, Nat.reduceEqDiff, Nat.reduceLeDiff, Nat.reduceLT, Int.reduceAdd, Int.reduceSub, Int.reduceMul, Int.reduceNeg, Int.reduceLT, Int.reduceLE, Int.reduceEq, Int.reduceNe, Int.reduceToNat, UInt8.reduceToNat, reduceCtorEq, and_true, true_and, decide_true, decide_false, r2]
    refine condC_split (fun g2 => ?_) (fun g2 => ?_) <;> simp only [go_sem, Nat.reduceAdd, Nat.reduceMul, Nat.reduceSub, Nat.reduceEqDiff, Nat.reduceLeDiff, Nat.reduceLT, Int.reduceAdd, Int.reduceSub, Int.reduceMul, Int.reduceNeg, Int.reduceLT, Int.reduceLE, Int.reduceEq, Int.reduceNe, Int.reduceToNat, UInt8.reduceToNat, reduceCtorEq, and_true, true_and, decide_true, decide_false]
    · simp only [publishE, hA, hS, g1, g2, if_true, if_false, Bool.false_eq_true]
    refine (nextC_step 9 _ _ _ _).trans ?_
    simp only [go_sem, Nat.reduceAdd, Nat.reduceMul, Nat.reduceSub, Nat.reduceEqDiff, Nat.reduceLeDiff, Nat.reduceLT, Int.reduceAdd, Int.reduceSub, Int.reduceMul, Int.reduceNeg, Int.reduceLT, Int.reduceLE, Int.reduceEq, Int.reduceNe, Int.reduceToNat, UInt8.reduceToNat, reduceCtorEq, and_true, true_and, decide_true, decide_false, r3]
    refine condC_split (fun g3 => ?_) (fun g3 => ?_) <;> simp only [go_sem, Nat.reduceAdd, Nat.reduceMul, Nat.reduceSub, Nat.reduceEqDiff, Nat.reduceLeDiff, Nat.reduceLT, Int.reduceAdd, Int.reduceSub, Int.reduceMul, Int.reduceNeg, Int.reduceLT, Int.reduceLE, Int.reduceEq, Int.reduceNe, Int.reduceToNat, UInt8.reduceToNat, reduceCtorEq, and_true, true_and, decide_true, decide_false]
    · simp only [publishE, hA, hS, g1, g2, g3, if_true, if_false, Bool.false_eq_true]
    refine (nextC_step 8 _ _ _ _).trans ?_
    simp only [go_sem, Nat.reduceAdd, Nat.reduceMul, Nat.reduceSub, Nat.reduceEqDiff, Nat.reduceLeDiff, Nat.reduceLT, Int.reduceAdd, Int.reduceSub, Int.reduceMul, Int.reduceNeg, Int.reduceLT, Int.reduceLE, Int.reduceEq, Int.reduceNe, Int.reduceToNat, UInt8.reduceToNat, reduceCtorEq, and_true, true_and, decide_true, decide_false, r4]
    refine condC_split (fun g4 => ?_) (fun g4 => ?_) <;> simp only [go_sem, Nat.reduceAdd, Nat.reduceMul, Nat.reduceSub, Nat.reduceEqDiff, Nat.reduceLeDiff, Nat.reduceLT, Int.reduceAdd, Int.reduceSub, Int.reduceMul, Int.reduceNeg, Int.reduceLT, Int.reduceLE, Int.reduceEq, Int.reduceNe, Int.reduceToNat, UInt8.reduceToNat, reduceCtorEq, and_true, true_and, decide_true, decide_false]
    · simp only [publishE, hA, hS, g1, g2, g3, g4, if_true, if_false, Bool.false_eq_true]
    refine (nextC_step 7 _ _ _ _).trans ?_
    simp only [go_sem, Nat.reduceAdd, Nat.reduceMul, Nat.reduceSub, Nat.reduceEqDiff, Nat.reduceLeDiff, Nat.reduceLT, Int.reduceAdd, Int.reduceSub, Int.reduceMul, Int.reduceNeg, Int.reduceLT, Int.reduceLE, Int.reduceEq, Int.reduceNe, Int.reduceToNat, UInt8.reduceToNat, reduceCtorEq, and_true, true_and, decide_true, decide_false, r5]
    refine condC_split (fun g5 => ?_) (fun g5 => ?_) <;> simp only [go_sem, Nat.reduceAdd, Nat.reduceMul, Nat.reduceSub, Nat.reduceEqDiff, Nat.reduceLeDiff, Nat.reduceLT, Int.reduceAdd, Int.reduceSub, Int.reduceMul, Int.reduceNeg, Int.reduceLT, Int.reduceLE, Int.reduceEq, Int.reduceNe, Int.reduceToNat, UInt8.reduceToNat, reduceCtorEq, and_true, true_and, decide_true, decide_false]
    · simp only [publishE, hA, hS, g1, g2, g3, g4, g5, if_true, if_false, Bool.false_eq_true]
    refine (nextC_step 6 _ _ _ _).trans ?_
    simp only [go_sem, Nat.reduceAdd, Nat.reduceMul, Nat.reduceSub, Nat.reduceEqDiff, Nat.reduceLeDiff, Nat.reduceLT, Int.reduceAdd, Int.reduceSub, Int.reduceMul, Int.reduceNeg, Int.reduceLT, Int.reduceLE, Int.reduceEq, Int.reduceNe, Int.reduceToNat, UInt8.reduceToNat, reduceCtorEq, and_true, true_and, decide_true, decide_false, r6]
    refine condC_split (fun g6 => ?_) (fun g6 => ?_) <;> simp only [go_sem, Nat.reduceAdd, Nat.reduceMul, Nat.reduceSub, Nat.reduceEqDiff, Nat.reduceLeDiff, Nat.reduceLT, Int.reduceAdd, Int.reduceSub, Int.reduceMul, Int.reduceNeg, Int.reduceLT, Int.reduceLE, Int.reduceEq, Int.reduceNe, Int.reduceToNat, UInt8.reduceToNat, reduceCtorEq, and_true, true_and, decide_true, decide_false]
    · simp only [publishE, hA, hS, g1, g2, g3, g4, g5, g6, if_true, if_false, Bool.false_eq_true]
    refine (nextC_step 5 _ _ _ _).trans ?_
    simp only [go_sem, Nat.reduceAdd, Nat.reduceMul, Nat.reduceSub, Nat.reduceEqDiff, Nat.reduceLeDiff, Nat.reduceLT, Int.reduceAdd, Int.reduceSub, Int.reduceMul, Int.reduceNeg, Int.reduceLT, Int.reduceLE, Int.reduceEq, Int.reduceNe, Int.reduceToNat, UInt8.reduceToNat, reduceCtorEq, and_true, true_and, decide_true, decide_false, r7]
    refine condC_split (fun g7 => ?_) (fun g7 => ?_) <;> simp only [go_sem, Nat.reduceAdd, Nat.reduceMul, Nat.reduceSub, Nat.reduceEqDiff, Nat.reduceLeDiff, Nat.reduceLT, Int.reduceAdd, Int.reduceSub, Int.reduceMul, Int.reduceNeg, Int.reduceLT, Int.reduceLE, Int.reduceEq, Int.reduceNe, Int.reduceToNat, UInt8.reduceToNat, reduceCtorEq, and_true, true_and, decide_true, decide_false]
    · simp only [publishE, hA, hS, g1, g2, g3, g4, g5, g6, g7, if_true, if_false, Bool.false_eq_true]
    refine (nextC_step 4 _ _ _ _).trans ?_
    simp only [go_sem, Nat.reduceAdd, Nat.reduceMul, Nat.reduceSub, Nat.reduceEqDiff, Nat.reduceLeDiff, Nat.reduceLT, Int.reduceAdd, Int.reduceSub, Int.reduceMul, Int.reduceNeg, Int.reduceLT, Int.reduceLE, Int.reduceEq, Int.reduceNe, Int.reduceToNat, UInt8.reduceToNat, reduceCtorEq, and_true, true_and, decide_true, decide_false, r8]
    refine condC_split (fun g8 => ?_) (fun g8 => ?_) <;> simp only [go_sem, Nat.reduceAdd, Nat.reduceMul, Nat.reduceSub, Nat.reduceEqDiff, Nat.reduceLeDiff, Nat.reduceLT, Int.reduceAdd, Int.reduceSub, Int.reduceMul, Int.reduceNeg, Int.reduceLT, Int.reduceLE, Int.reduceEq, Int.reduceNe, Int.reduceToNat, UInt8.reduceToNat, reduceCtorEq, and_true, true_and, decide_true, decide_false]
    · simp only [publishE, hA, hS, g1, g2, g3, g4, g5, g6, g7, g8, if_true, if_false, Bool.false_eq_true]
    refine (nextC_step 3 _ _ _ _).trans ?_
    simp only [go_sem, Nat.reduceAdd, Nat.reduceMul, Nat.reduceSub, Nat.reduceEqDiff, Nat.reduceLeDiff, Nat.reduceLT, Int.reduceAdd, Int.reduceSub, Int.reduceMul, Int.reduceNeg, Int.reduceLT, Int.reduceLE, Int.reduceEq, Int.reduceNe, Int.reduceToNat, UInt8.reduceToNat, reduceCtorEq, and_true, true_and, decide_true, decide_false, r9]
    refine condC_split (fun g9 => ?_) (fun g9 => ?_) <;> simp only [go_sem, Nat.reduceAdd, Nat.reduceMul, Nat.reduceSub, Nat.reduceEqDiff, Nat.reduceLeDiff, Nat.reduceLT, Int.reduceAdd, Int.reduceSub, Int.reduceMul, Int.reduceNeg, Int.reduceLT, Int.reduceLE, Int.reduceEq, Int.reduceNe, Int.reduceToNat, UInt8.reduceToNat, reduceCtorEq, and_true, true_and, decide_true, decide_false]
    · simp only [publishE, hA, hS, g1, g2, g3, g4, g5, g6, g7, g8, g9, if_true, if_false, Bool.false_eq_true]
    refine (nextC_step 2 _ _ _ _).trans ?_
    simp only [go_sem, Nat.reduceAdd, Nat.reduceMul, Nat.reduceSub, Nat.reduceEqDiff, Nat.reduceLeDiff, Nat.reduceLT, Int.reduceAdd, Int.reduceSub, Int.reduceMul, Int.reduceNeg, Int.reduceLT, Int.reduceLE, Int.reduceEq, Int.reduceNe, Int.reduceToNat, UInt8.reduceToNat, reduceCtorEq, and_true, true_and, decide_true, decide_false, r10]
    refine condC_split (fun g10 => ?_) (fun g10 => ?_) <;> simp only [go_sem, Nat.reduceAdd, Nat.reduceMul, Nat.reduceSub, Nat.reduceEqDiff, Nat.reduceLeDiff, Nat.reduceLT, Int.reduceAdd, Int.reduceSub, Int.reduceMul, Int.reduceNeg, Int.reduceLT, Int.reduceLE, Int.reduceEq, Int.reduceNe, Int.reduceToNat, UInt8.reduceToNat, reduceCtorEq, and_true, true_and, decide_true, decide_false]
    · simp only [publishE, hA, hS, g1, g2, g3, g4, g5, g6, g7, g8, g9, g10, if_true, if_false, Bool.false_eq_true]
    refine (nextC_step 1 _ _ _ _).trans ?_
    simp only [go_sem, Nat.reduceAdd, Nat.reduceMul, Nat.reduceSub, Nat.reduceEqDiff, Nat.reduceLeDiff, Nat.reduceLT, Int.reduceAdd, Int.reduceSub, Int.reduceMul, Int.reduceNeg, Int.reduceLT, Int.reduceLE, Int.reduceEq, Int.reduceNe, Int.reduceToNat, UInt8.reduceToNat, reduceCtorEq, and_true, true_and, decide_true, decide_false, r11]
    refine condC_split (fun g11 => ?_) (fun g11 => ?_) <;> simp only [go_sem, Nat.reduceAdd, Nat.reduceMul, Nat.reduceSub, Nat.reduceEqDiff, Nat.reduceLeDiff, Nat.reduceLT, Int.reduceAdd, Int.reduceSub, Int.reduceMul, Int.reduceNeg, Int.reduceLT, Int.reduceLE, Int.reduceEq, Int.reduceNe, Int.reduceToNat, UInt8.reduceToNat, reduceCtorEq, and_true, true_and, decide_true, decide_false]
    · simp only [publishE, hA, hS, g1, g2, g3, g4, g5, g6, g7, g8, g9, g10, g11, if_true, if_false, Bool.false_eq_true]
    refine (nextC_step 0 _ _ _ _).trans ?_
    simp only [go_sem, Nat.reduceAdd, Nat.reduceMul, Nat.reduceSub, Nat.reduceEqDiff, Nat.reduceLeDiff, Nat.reduceLT, Int.reduceAdd, Int.reduceSub, Int.reduceMul, Int.reduceNeg, Int.reduceLT, Int.reduceLE, Int.reduceEq, Int.reduceNe, Int.reduceToNat, UInt8.reduceToNat, reduceCtorEq, and_true, true_and, decide_true, decide_false]
    simp only [publishE, hA, hS, g1, g2, g3, g4, g5, g6, g7, g8, g9, g10, g11, if_false, Bool.false_eq_true]
  · skip
    have hA : ackE e = decide (e.qos = 2) := by simp at g; simp [ackE, g]
    have hS : snE e = decide (e.proto = 3) := rfl
    rw [hS] at r3 r5 r7
    rw [hA] at r4 r5
    refine (nextC_step 11 _ _ _ _).trans ?_
    simp only [go_sem, Nat.reduceAdd, Nat.reduceMul, Nat.reduceSub, Nat.reduceEqDiff, Nat.reduceLeDiff, Nat.reduceLT, Int.reduceAdd, Int.reduceSub, Int.reduceMul, Int.reduceNeg, Int.reduceLT, Int.reduceLE, Int.reduceEq, Int.reduceNe, Int.reduceToNat, UInt8.reduceToNat, reduceCtorEq, and_true, true_and, decide_true, decide_false, r1]
    refine condC_split (fun g1 => ?_) (fun g1 => ?_) <;> simp only [go_sem, Nat.reduceAdd, Nat.reduceMul, Nat.reduceSub, Nat.reduceEqDiff, Nat.reduceLeDiff, Nat.reduceLT, Int.reduceAdd, Int.reduceSub, Int.reduceMul, Int.reduceNeg, Int.reduceLT, Int.reduceLE, Int.reduceEq, Int.reduceNe, Int.reduceToNat, UInt8.reduceToNat, reduceCtorEq, and_true, true_and, decide_true, decide_false]
    · simp only [publishE, hA, hS, g1, if_true, if_false, Bool.false_eq_true]
    refine (nextC_step 10 _ _ _ _).trans ?_
    simp only [go_sem, Nat.reduceAdd, Nat.reduceMul, Nat.reduceSub, Nat.reduceEqDiff, Nat.reduceLeDiff, Nat.reduceLT, Int.reduceAdd, Int.reduceSub, Int.reduceMul, Int.reduceNeg, Int.reduceLT, Int.reduceLE, Int.reduceEq, Int.reduceNe, Int.reduceToNat, UInt8.reduceToNat, reduceCtorEq, and_true, true_and, decide_true, decide_false, r2]
    refine condC_split (fun g2 => ?_) (fun g2 => ?_) <;> simp only [go_sem, Nat.reduceAdd, Nat.reduceMul, Nat.reduceSub, Nat.reduceEqDiff, Nat.reduceLeDiff, Nat.reduceLT, Int.reduceAdd, Int.reduceSub, Int.reduceMul, Int.reduceNeg, Int.reduceLT, Int.reduceLE, Int.reduceEq, Int.reduceNe, Int.reduceToNat, UInt8.reduceToNat, reduceCtorEq, and_true, true_and, decide_true, decide_false]
    · simp only [publishE, hA, hS, g1, g2, if_true, if_false, Bool.false_eq_true]
    refine (nextC_step 9 _ _ _ _).trans ?_
    simp only [go_sem, Nat.reduceAdd, Nat.reduceMul, Nat.reduceSub, Nat.reduceEqDiff, Nat.reduceLeDiff, Nat.reduceLT, Int.reduceAdd, Int.reduceSub, Int.reduceMul, Int.reduceNeg, Int.reduceLT, Int.reduceLE, Int.reduceEq, Int.reduceNe, Int.reduceToNat, UInt8.reduceToNat, reduceCtorEq, and_true, true_and, decide_true, decide_false, r3]
    refine condC_split (fun g3 => ?_) (fun g3 => ?_) <;> simp only [go_sem, Nat.reduceAdd, Nat.reduceMul, Nat.reduceSub, Nat.reduceEqDiff, Nat.reduceLeDiff, Nat.reduceLT, Int.reduceAdd, Int.reduceSub, Int.reduceMul, Int.reduceNeg, Int.reduceLT, Int.reduceLE, Int.reduceEq, Int.reduceNe, Int.reduceToNat, UInt8.reduceToNat, reduceCtorEq, and_true, true_and, decide_true, decide_false]
    · simp only [publishE, hA, hS, g1, g2, g3, if_true, if_false, Bool.false_eq_true]
    refine (nextC_step 8 _ _ _ _).trans ?_
    simp only [go_sem, Nat.reduceAdd, Nat.reduceMul, Nat.reduceSub, Nat.reduceEqDiff, Nat.reduceLeDiff, Nat.reduceLT, Int.reduceAdd, Int.reduceSub, Int.reduceMul, Int.reduceNeg, Int.reduceLT, Int.reduceLE, Int.reduceEq, Int.reduceNe, Int.reduceToNat, UInt8.reduceToNat, reduceCtorEq, and_true, true_and, decide_true, decide_false, r4]
    refine condC_split (fun g4 => ?_) (fun g4 => ?_) <;> simp only [go_sem, Nat.reduceAdd, Nat.reduceMul, Nat.reduceSub, Nat.reduceEqDiff, Nat.reduceLeDiff, Nat.reduceLT, Int.reduceAdd, Int.reduceSub, Int.reduceMul, Int.reduceNeg, Int.reduceLT, Int.reduceLE, Int.reduceEq, Int.reduceNe, Int.reduceToNat, UInt8.reduceToNat, reduceCtorEq, and_true, true_and, decide_true, decide_false]
    · simp only [publishE, hA, hS, g1, g2, g3, g4, if_true, if_false, Bool.false_eq_true]
    refine (nextC_step 7 _ _ _ _).trans ?_
    simp only [go_sem, Nat.reduceAdd, Nat.reduceMul, Nat.reduceSub, Nat.reduceEqDiff, Nat.reduceLeDiff, Nat.reduceLT, Int.reduceAdd, Int.reduceSub, Int.reduceMul, Int.reduceNeg, Int.reduceLT, Int.reduceLE, Int.reduceEq, Int.reduceNe, Int.reduceToNat, UInt8.reduceToNat, reduceCtorEq, and_true, true_and, decide_true, decide_false, r5]
    refine condC_split (fun g5 => ?_) (fun g5 => ?_) <;> simp only [go_sem, Nat.reduceAdd, Nat.reduceMul, Nat.reduceSub, Nat.reduceEqDiff, Nat.reduceLeDiff, Nat.reduceLT, Int.reduceAdd, Int.reduceSub, Int.reduceMul, Int.reduceNeg, Int.reduceLT, Int.reduceLE, Int.reduceEq, Int.reduceNe, Int.reduceToNat, UInt8.reduceToNat, reduceCtorEq, and_true, true_and, decide_true, decide_false]
    · simp only [publishE, hA, hS, g1, g2, g3, g4, g5, if_true, if_false, Bool.false_eq_true]
    refine (nextC_step 6 _ _ _ _).trans ?_
    simp only [go_sem, Nat.reduceAdd, Nat.reduceMul, Nat.reduceSub, Nat.reduceEqDiff, Nat.reduceLeDiff, Nat.reduceLT, Int.reduceAdd, Int.reduceSub, Int.reduceMul, Int.reduceNeg, Int.reduceLT, Int.reduceLE, Int.reduceEq, Int.reduceNe, Int.reduceToNat, UInt8.reduceToNat, reduceCtorEq, and_true, true_and, decide_true, decide_false, r6]
    refine condC_split (fun g6 => ?_) (fun g6 => ?_) <;> simp only [go_sem, Nat.reduceAdd, Nat.reduceMul, Nat.reduceSub, Nat.reduceEqDiff, Nat.reduceLeDiff, Nat.reduceLT, Int.reduceAdd, Int.reduceSub, Int.reduceMul, Int.reduceNeg, Int.reduceLT, Int.reduceLE, Int.reduceEq, Int.reduceNe, Int.reduceToNat, UInt8.reduceToNat, reduceCtorEq, and_true, true_and, decide_true, decide_false]
    · simp only [publishE, hA, hS, g1, g2, g3, g4, g5, g6, if_true, if_false, Bool.false_eq_true]
    refine (nextC_step 5 _ _ _ _).trans ?_
    simp only [go_sem, Nat.reduceAdd, Nat.reduceMul, Nat.reduceSub, Nat.reduceEqDiff, Nat.reduceLeDiff, Nat.reduceLT, Int.reduceAdd, Int.reduceSub, Int.reduceMul, Int.reduceNeg, Int.reduceLT, Int.reduceLE, Int.reduceEq, Int.reduceNe, Int.reduceToNat, UInt8.reduceToNat, reduceCtorEq, and_true, true_and, decide_true, decide_false, r7]
    refine condC_split (fun g7 => ?_) (fun g7 => ?_) <;> simp only [go_sem, Nat.reduceAdd, Nat.reduceMul, Nat.reduceSub, Nat.reduceEqDiff, Nat.reduceLeDiff, Nat.reduceLT, Int.reduceAdd, Int.reduceSub, Int.reduceMul, Int.reduceNeg, Int.reduceLT, Int.reduceLE, Int.reduceEq, Int.reduceNe, Int.reduceToNat, UInt8.reduceToNat, reduceCtorEq, and_true, true_and, decide_true, decide_false]
    · simp only [publishE, hA, hS, g1, g2, g3, g4, g5, g6, g7, if_true, if_false, Bool.false_eq_true]
    refine (nextC_step 4 _ _ _ _).trans ?_
    simp only [go_sem, Nat.reduceAdd, Nat.reduceMul, Nat.reduceSub, Nat.reduceEqDiff, Nat.reduceLeDiff, Nat.reduceLT, Int.reduceAdd, Int.reduceSub, Int.reduceMul, Int.reduceNeg, Int.reduceLT, Int.reduceLE, Int.reduceEq, Int.reduceNe, Int.reduceToNat, UInt8.reduceToNat, reduceCtorEq, and_true, true_and, decide_true, decide_false, r8]
    refine condC_split (fun g8 => ?_) (fun g8 => ?_) <;> simp only [go_sem, Nat.reduceAdd, Nat.reduceMul, Nat.reduceSub, Nat.reduceEqDiff, Nat.reduceLeDiff, Nat.reduceLT, Int.reduceAdd, Int.reduceSub, Int.reduceMul, Int.reduceNeg, Int.reduceLT, Int.reduceLE, Int.reduceEq, Int.reduceNe, Int.reduceToNat, UInt8.reduceToNat, reduceCtorEq, and_true, true_and, decide_true, decide_false]
    · simp only [publishE, hA, hS, g1, g2, g3, g4, g5, g6, g7, g8, if_true, if_false, Bool.false_eq_true]
    refine (nextC_step 3 _ _ _ _).trans ?_
    simp only [go_sem, Nat.reduceAdd, Nat.reduceMul, Nat.reduceSub, Nat.reduceEqDiff, Nat.reduceLeDiff, Nat.reduceLT, Int.reduceAdd, Int.reduceSub, Int.reduceMul, Int.reduceNeg, Int.reduceLT, Int.reduceLE, Int.reduceEq, Int.reduceNe, Int.reduceToNat, UInt8.reduceToNat, reduceCtorEq, and_true, true_and, decide_true, decide_false, r9]
    refine condC_split (fun g9 => ?_) (fun g9 => ?_) <;> simp only [go_sem, Nat.reduceAdd, Nat.reduceMul, Nat.reduceSub, Nat.reduceEqDiff, Nat.reduceLeDiff, Nat.reduceLT, Int.reduceAdd, Int.reduceSub, Int.reduceMul, Int.reduceNeg, Int.reduceLT, Int.reduceLE, Int.reduceEq, Int.reduceNe, Int.reduceToNat, UInt8.reduceToNat, reduceCtorEq, and_true, true_and, decide_true, decide_false]
    · simp only [publishE, hA, hS, g1, g2, g3, g4, g5, g6, g7, g8, g9, if_true, if_false, Bool.false_eq_true]
    refine (nextC_step 2 _ _ _ _).trans ?_
    simp only [go_sem, Nat.reduceAdd, Nat.reduceMul, Nat.reduceSub, Nat.reduceEqDiff, Nat.reduceLeDiff, Nat.reduceLT, Int.reduceAdd, Int.reduceSub, Int.reduceMul, Int.reduceNeg, Int.reduceLT, Int.reduceLE, Int.reduceEq, Int.reduceNe, Int.reduceToNat, UInt8.reduceToNat, reduceCtorEq, and_true, true_and, decide_true, decide_false, r10]
    refine condC_split (fun g10 => ?_) (fun g10 => ?_) <;> simp only [go_sem, Nat.reduceAdd, Nat.reduceMul, Nat.reduceSub, Nat.reduceEqDiff, Nat.reduceLeDiff, Nat.reduceLT, Int.reduceAdd, Int.reduceSub, Int.reduceMul, Int.reduceNeg, Int.reduceLT, Int.reduceLE, Int.reduceEq, Int.reduceNe, Int.reduceToNat, UInt8.reduceToNat, reduceCtorEq, and_true, true_and, decide_true, decide_false]
    · simp only [publishE, hA, hS, g1, g2, g3, g4, g5, g6, g7, g8, g9, g10, if_true, if_false, Bool.false_eq_true]
    refine (nextC_step 1 _ _ _ _).trans ?_
    simp only [go_sem, Nat.reduceAdd, Nat.reduceMul, Nat.reduceSub, Nat.reduceEqDiff, Nat.reduceLeDiff, Nat.reduceLT, Int.reduceAdd, Int.reduceSub, Int.reduceMul, Int.reduceNeg, Int.reduceLT, Int.reduceLE, Int.reduceEq, Int.reduceNe, Int.reduceToNat, UInt8.reduceToNat, reduceCtorEq, and_true, true_and, decide_true, decide_false, r11]
    refine condC_split (fun g11 => ?_) (fun g11 => ?_) <;> simp only [go_sem, Nat.reduceAdd, Nat.reduceMul, Nat.reduceSub, Nat.reduceEqDiff, Nat.reduceLeDiff, Nat.reduceLT, Int.reduceAdd, Int.reduceSub, Int.reduceMul, Int.reduceNeg, Int.reduceLT, Int.reduceLE, Int.reduceEq, Int.reduceNe, Int.reduceToNat, UInt8.reduceToNat, reduceCtorEq, and_true, true_and, decide_true, decide_false]
    · simp only [publishE, hA, hS, g1, g2, g3, g4, g5, g6, g7, g8, g9, g10, g11, if_true, if_false, Bool.false_eq_true]
    refine (nextC_step 0 _ _ _ _).trans ?_
    simp only [go_sem, Nat.reduceAdd, Nat.reduceMul, Nat.reduceSub, Nat.reduceEqDiff, Nat.reduceLeDiff, Nat.reduceLT, Int.reduceAdd, Int.reduceSub, Int.reduceMul, Int.reduceNeg, Int.reduceLT, Int.reduceLE, Int.reduceEq, Int.reduceNe, Int.reduceToNat, UInt8.reduceToNat, reduceCtorEq, and_true, true_and, decide_true, decide_false]
    simp only [publishE, hA, hS, g1, g2, g3, g4, g5, g6, g7, g8, g9, g10, g11, if_false, Bool.false_eq_true]
end Go.Proofs.YtjnmgfmogganlaaGreatDoor
