/-
  The law EventPublishes holds: it answers true for all its arguments, and leaves them as they were. Conditions: those of its row: the listed package-level variables start as the program's text lays them.
-/
import Derived.Test.YtflehnedcjjdjaaGreatDoorCards
import Derived.Test.YtflehnedcjjdjaaGreatDoorTie
import Derived.Test.YtflehnedcjjdjaaGreatDoorPuSb
import Derived.Test.YtflehnedcjjdjaaGreatDoorPuArgs
import Derived.Test.YtflehnedcjjdjaaGreatDoorPuClo
import Derived.WalkKit
import Derived.ProofKit
import Derived.OpenShut
import Derived.Deep.DeepHandedRow
import Derived.Lib.LaidTab
set_option linter.unusedSimpArgs false
set_option linter.unusedVariables false
namespace Go.Proofs.YtflehnedcjjdjaaGreatDoor
open Go.ChangeShapes Go.WideShapes Go.ChangeAt Go.RowKit Go.Pu
set_option maxRecDepth 100000

theorem own : ownKnob Tryz.prog.godebug = none := by kernel_rfl
theorem globs {W : World} (h : laidMetH Tryz.prog Rows.eventPublishesRow.laid W) : GlobOk E (Gh.all W) := by
  intro k cs e
  change X.glob k = some cs at e
  unfold X.glob at e
  cases h0 : Nat.beq k 0 with
  | true =>
    rw [h0] at e
    cases Nat.eq_of_beq_eq_true h0
    cases e
    exact laid_ints h (by kernel_rfl) (i := 2) (n := "internal/strconv.uint64pow10") (ns := [1, 10, 100, 1000, 10000, 100000, 1000000, 10000000, 100000000, 1000000000, 10000000000, 100000000000, 1000000000000, 10000000000000, 100000000000000, 1000000000000000, 10000000000000000, 100000000000000000, 1000000000000000000, 10000000000000000000]) (k := .u64) (by kernel_rfl) (by kernel_rfl) (by kernel_rfl) Tryz.underlying191 Tryz.underlying84 (by kernel_rfl)
  | false =>
    rw [h0] at e
    cases h4 : Nat.beq k 4 with
    | true =>
      rw [h4] at e
      cases Nat.eq_of_beq_eq_true h4
      cases e
      exact laid_ints h (by kernel_rfl) (i := 0) (n := "math/bits.deBruijn32tab") (ns := [0, 1, 28, 2, 29, 14, 24, 3, 30, 22, 20, 15, 25, 17, 4, 8, 31, 27, 13, 23, 21, 19, 16, 7, 26, 12, 18, 6, 11, 5, 10, 9]) (k := .u8) (by kernel_rfl) (by kernel_rfl) (by kernel_rfl) Tryz.underlying250 Tryz.underlying5 (by kernel_rfl)
    | false =>
      rw [h4] at e
      cases h5 : Nat.beq k 5 with
      | true =>
        rw [h5] at e
        cases Nat.eq_of_beq_eq_true h5
        cases e
        exact laid_ints h (by kernel_rfl) (i := 1) (n := "math/bits.deBruijn64tab") (ns := [0, 1, 56, 2, 57, 49, 28, 3, 61, 58, 42, 50, 38, 29, 17, 4, 62, 47, 59, 36, 45, 43, 51, 22, 53, 39, 33, 30, 24, 18, 12, 5, 63, 55, 48, 27, 60, 41, 37, 16, 46, 35, 44, 21, 52, 32, 23, 11, 54, 26, 40, 15, 34, 20, 31, 10, 25, 14, 19, 9, 13, 8, 7, 6]) (k := .u8) (by kernel_rfl) (by kernel_rfl) (by kernel_rfl) Tryz.underlying251 Tryz.underlying5 (by kernel_rfl)
      | false =>
        rw [h5] at e
        cases e

theorem runs (W : World) (hL : laidMetH Tryz.prog Rows.eventPublishesRow.laid W) {v0 : Value} {x0 : Int} {v1 : Value} {x1 : List UInt8} {v2 : Value} {x2 : List UInt8} {v3 : Value} {x3 : Int} {v4 : Value} {x4 : Int} {v5 : Value} {x5 : Int} (h0 : inK .i64 (x0)) (k0 : VP (Gh.all W) (.int .i64 x0) v0) (h1 : x1.length ≤ 9223372036854775807) (k1 : VP (Gh.all W) (.str x1) v1) (h2 : x2.length ≤ 9223372036854775807) (k2 : VP (Gh.all W) (.str x2) v2) (h3 : inK .i64 (x3)) (k3 : VP (Gh.all W) (.int .i64 x3) v3) (h4 : inK .i64 (x4)) (k4 : VP (Gh.all W) (.int .i64 x4) v4) (h5 : inK .i64 (x5)) (k5 : VP (Gh.all W) (.int .i64 x5) v5) : Calls Tryz.prog 3 #[v0, v1, v2, v3, v4, v5] W fun
    | .returned y, w' => y = .bool true ∧ W.keptBut w' (fun _ => False) ∧ ∀ i : Nat, i < W.heap.size → w'.heap[i]? = W.heap[i]?
    | _, _ => False := by
  obtain ⟨n, hn⟩ := callN_of (law_all _ h0 _ h1 _ h2 _ h3 _ h4 _ h5)
  have h := (callN_sound env_ok n).pure 3 Tryz.f3 [.int .i64 x0, .str x1, .str x2, .int .i64 x3, .int .i64 x4, .int .i64 x5] (.bool true) rfl hn (Gh.all W) [v0, v1, v2, v3, v4, v5] W (by simp only [VPs]; exact ⟨_, _, rfl, k0, ⟨_, _, rfl, k1, ⟨_, _, rfl, k2, ⟨_, _, rfl, k3, ⟨_, _, rfl, k4, ⟨_, _, rfl, k5, rfl⟩⟩⟩⟩⟩⟩) (Rel.all W) (globs hL)
  refine Calls.mono h fun e w' he => ?_
  cases e with
  | returned y =>
    obtain ⟨g', k1, k2, k3⟩ := he
    simp only [VP] at k1
    have hf : ∀ i : Nat, i < W.heap.size → w'.heap[i]? = W.heap[i]? := fun i hi => k3.frame i hi (fun b e => by cases e) (fun b e => by cases e)
    refine ⟨k1, ⟨k3.os, k3.output, fun i hi => ?_⟩, hf⟩
    rw [hf i hi]
    cases W.heap[i]? with
    | none => rfl
    | some o => cases o <;> first | rfl | exact ⟨rfl, rfl, rfl, fun _ _ => rfl⟩ | exact .inr ⟨rfl, rfl⟩
  | panicked _ => exact he.elim
  | outgrown => exact he.elim
theorem again {H : Type} {enc : TypeId × Value → H} {W W' : World} {t : TypeId} (c1 : Go.laidOutB Tryz.prog = true) (c2 : Tryz.prog.readableRec t = true) (c3 : t < Tryz.prog.types.size) (hf : ∀ i : Nat, i < W.heap.size → W'.heap[i]? = W.heap[i]?) {v : Value} {d : DataW H} {ps : List MemPlace}
    (h : DataW.Trod enc Tryz.prog W 0 (fun _ => true) true t v d ps) (hlt : ∀ x ∈ ps, x.block < W.heap.size) : DataW.Trod enc Tryz.prog W' 0 (fun b => decide (b < W.heap.size)) true t v d ps :=
  WideElems.Trod_stays c1 c2 c3 h (fun x hx => same_of hf x (hlt x hx)) (fun x hx => by simpa using hlt x hx)
theorem contract (H : Type) (enc : TypeId × Value → H) (W : World) (base : Nat) (args : Array Value) (ds gs : List (DataW H)) (before : List MemPlace)
    (hval : ∀ (j : Nat) t v, Tryz.f3.params[j]? = some t → args[j]? = some v → Value.okWide Tryz.prog W .any base t v)
    (hW : DataW.Whole enc Tryz.prog Tryz.f3.params.toList Rows.eventPublishesSpec.vars false W args.toList ds gs before) (hL : laidMetH Tryz.prog Rows.eventPublishesRow.laid W) :
    Calls Tryz.prog 3 args W fun e W' => ∃ v, e = .returned v ∧ Rows.eventPublishesSpec.post enc Tryz.prog Tryz.f3 false true false false W args v W' := by
  have hW' := hW
  have hlt := hW.lt
  obtain ⟨p, q, hA0, hV, rfl, hfz, hnd⟩ := hW
  have hA : DataW.TrodAll enc Tryz.prog W 0 (fun _ => true) true Tryz.f3.params.toList args.toList ds p := hA0
  have pj : Tryz.f3.params = #[3, 9, 9, 3, 3, 3] := by rfl
  rw [Tryz.params3] at hA
  obtain ⟨v0, u0, d0, e0, p0, q0, ev0, ed0, ep0, t0, hA0⟩ := trodAll_cons hA
  obtain ⟨v1, u1, d1, e1, p1, q1, ev1, ed1, ep1, t1, hA1⟩ := trodAll_cons hA0
  obtain ⟨v2, u2, d2, e2, p2, q2, ev2, ed2, ep2, t2, hA2⟩ := trodAll_cons hA1
  obtain ⟨v3, u3, d3, e3, p3, q3, ev3, ed3, ep3, t3, hA3⟩ := trodAll_cons hA2
  obtain ⟨v4, u4, d4, e4, p4, q4, ev4, ed4, ep4, t4, hA4⟩ := trodAll_cons hA3
  obtain ⟨v5, u5, d5, e5, p5, q5, ev5, ed5, ep5, t5, hA5⟩ := trodAll_cons hA4
  obtain ⟨ev6, ed6, ep6⟩ := trodAll_nil hA5
  have ea : args.toList = [v0, v1, v2, v3, v4, v5] := by rw [ev0, ev1, ev2, ev3, ev4, ev5, ev6]
  obtain rfl : args = #[v0, v1, v2, v3, v4, v5] := by cases args; simp_all
  obtain ⟨rfl, rfl⟩ := trodVars_none hV
  clear hA0 
  subst ed6 ep6 ed5 ep5 ed4 ep4 ed3 ep3 ed2 ep2 ed1 ep1 ed0 ep0
  obtain ⟨x0, h0, k0⟩ := rd_3 (hval 0 3 v0 (by rw [pj]; rfl) rfl) t0
  obtain ⟨x1, h1, k1⟩ := rd_9 (hval 1 9 v1 (by rw [pj]; rfl) rfl) t1
  obtain ⟨x2, h2, k2⟩ := rd_9 (hval 2 9 v2 (by rw [pj]; rfl) rfl) t2
  obtain ⟨x3, h3, k3⟩ := rd_3 (hval 3 3 v3 (by rw [pj]; rfl) rfl) t3
  obtain ⟨x4, h4, k4⟩ := rd_3 (hval 4 3 v4 (by rw [pj]; rfl) rfl) t4
  obtain ⟨x5, h5, k5⟩ := rd_3 (hval 5 3 v5 (by rw [pj]; rfl) rfl) t5
  refine (runs W hL h0 k0 h1 k1 h2 k2 h3 k3 h4 k4 h5 k5).mono fun e W' he => ?_
  cases e with
  | returned y =>
    obtain ⟨rfl, hk, hf⟩ := he
    have ar : DataW.TrodAll enc Tryz.prog W' 0 (fun b => decide (b < W.heap.size)) true Tryz.f3.params.toList #[v0, v1, v2, v3, v4, v5].toList [d0, d1, d2, d3, d4, d5] (p0 ++ (p1 ++ (p2 ++ (p3 ++ (p4 ++ (p5 ++ [])))))) := by
      rw [Tryz.params3]
      exact trodAll_cons_mk (again (by kernel_rfl) (by kernel_rfl) (of_decide_eq_true (by kernel_rfl)) hf t0 fun x hx => hlt x (by simp [hx])) (trodAll_cons_mk (again (by kernel_rfl) (by kernel_rfl) (of_decide_eq_true (by kernel_rfl)) hf t1 fun x hx => hlt x (by simp [hx])) (trodAll_cons_mk (again (by kernel_rfl) (by kernel_rfl) (of_decide_eq_true (by kernel_rfl)) hf t2 fun x hx => hlt x (by simp [hx])) (trodAll_cons_mk (again (by kernel_rfl) (by kernel_rfl) (of_decide_eq_true (by kernel_rfl)) hf t3 fun x hx => hlt x (by simp [hx])) (trodAll_cons_mk (again (by kernel_rfl) (by kernel_rfl) (of_decide_eq_true (by kernel_rfl)) hf t4 fun x hx => hlt x (by simp [hx])) (trodAll_cons_mk (again (by kernel_rfl) (by kernel_rfl) (of_decide_eq_true (by kernel_rfl)) hf t5 fun x hx => hlt x (by simp [hx])) (trodAll_mk0))))))
    refine ⟨_, rfl, [d0, d1, d2, d3, d4, d5], [], _, [], _, [], hW', trodAll_cons_mk (shut_bool Tryz.underlying4 _) trodAll_mk0, ar, rfl, World.keptBut_mono (fun _ f => f.elim) hk, fun h => by cases h⟩
  | panicked _ => exact he.elim
  | outgrown => exact he.elim

def zv3 : Value := .int .i64 0
def zd3 {H : Type} : DataW H := .lit (.int .i64 0)
def zv9 : Value := .string ⟨#[]⟩
def zd9 {H : Type} : DataW H := .lit (.string [])
/-- The cells that a datum lays, of numbers and of arrays of numbers. -/
def litOne (d : DataW Unit) : List Value := match d with
  | .lit (.int k n) => [.int k n]
  | _ => []
def litCells (d : DataW Unit) : List Value := match d with
  | .agg ps => ps.flatMap fun p => match p with
    | .agg qs => qs.flatMap litOne
    | p => litOne p
  | _ => []
def layAt (h : Array Obj) (i : Nat) (d : DataW Unit) : Array Obj := h.modify i fun o => match o with
  | .cells _ t frozen => .cells (litCells d).toArray t frozen
  | o => o
noncomputable def laidWorld (os : Os) : World :=
  { World.holding Tryz.prog os ⟨#[], #[zv3, zv9, zv9, zv3, zv3, zv3], []⟩ with heap := (layAt (layAt (layAt (layAt (layAt ((World.holding Tryz.prog os ⟨#[], #[zv3, zv9, zv9, zv3, zv3, zv3], []⟩).heap) 4 Rows.laid_math_bits_deBruijn32tab) 5 Rows.laid_math_bits_deBruijn64tab) 0 Rows.laid_internal_strconv_uint64pow10) 3 Rows.laid_unicode_utf8_acceptRanges) 2 Rows.laid_unicode_utf8_first) }
theorem laid_met (os : Os) : laidMet Tryz.prog Rows.eventPublishesRow.laid ((laidWorld os).forCall (fun _ _ => 0) ⟨#[], #[zv3, zv9, zv9, zv3, zv3, zv3], []⟩).memory :=
  laidMet_of_run' 8 (by kernel_rfl) (by kernel_rfl)
theorem reads (os : Os) {H : Type} (enc : TypeId × Value → H) : ∃ places, DataW.whole enc Tryz.prog ((laidWorld os).forCall (fun _ _ => 0) ⟨#[], #[zv3, zv9, zv9, zv3, zv3, zv3], []⟩).memory Tryz.f3.params.toList Rows.eventPublishesSpec.vars false (#[zv3, zv9, zv9, zv3, zv3, zv3] : Array Value).toList 12 = some ([zd3, zd9, zd9, zd3, zd3, zd3], [], places) :=
  ⟨[], by kernel_rfl⟩
theorem lifted (os : Os) (started : os.Started) (H : Type) (enc : TypeId × Value → H) (F : Stop.Interp) :
    ReturnsInHanded {} Tryz.checked os 3 .any ((OpenSpec.ofChange Rows.eventPublishesSpec).preRow enc Tryz.prog Tryz.f3 Rows.eventPublishesRow.domain false Rows.eventPublishesRow.laid) (((OpenSpec.ofChange Rows.eventPublishesSpec).at F).post enc Tryz.prog Tryz.f3 false true false false) := by
  obtain ⟨places, hx⟩ := reads os enc
  refine returnsInHanded_of_row (C := Tryz.checked) (s := OpenSpec.ofChange Rows.eventPublishesSpec) own started (by kernel_rfl) Tryz.func3
    (witness_row_at (enc := enc) (C := Tryz.checked) false (laidWorld os) #[zv3, zv9, zv9, zv3, zv3, zv3] rfl (by kernel_rfl) (by kernel_rfl) (by kernel_rfl)
      (OpenSpec.preRow_of_cond 12 hx (by kernel_rfl) (fun k hk => by cases hk) (by kernel_rfl) (laid_met os))) ?_
  intro W base args ds gs before hval hW _ _ _ hL _ _
  exact contract H enc W base args ds gs before hval hW hL
theorem said : Rows.EventPublishesSaid :=
  OpenClaim.holds_of_cond 3 Tryz.f3 rfl rfl rfl rfl rfl rfl rfl ⟨rfl, rfl, rfl, rfl, rfl⟩ rfl rfl rfl rfl rfl (by kernel_rfl) Tryz.func3 closed
    (of_decide_eq_true (by kernel_rfl)) (by unfold Func.isWrapper; first | (rw [if_pos (by decide +kernel)]; kernel_rfl) | (rw [if_neg (by decide +kernel)]; exact ⟨rfl, rfl⟩))
    (fun os started H enc _ F => by rw [OpenClaim.pre_eq_preRow]; exact lifted os started H enc F)
theorem plain (f : FuncId) (fn : Func) (hf : Tryz.pinned.checked.prog.funcNamed "polyglot/polyglotlaw25.EventPublishes" = some f) (hfn : Tryz.pinned.checked.prog.funcs[f]? = some fn) :
    false = Tryz.pinned.checked.prog.looks [] ∧ ∀ (j : Nat) t, fn.params[j]? = some t → Tryz.pinned.checked.prog.wantsStandIn t = false := by
  obtain rfl : f = 3 := Option.some.inj ((show Tryz.prog.funcNamed "polyglot/polyglotlaw25.EventPublishes" = some 3 by kernel_rfl).symm.trans hf) |>.symm
  obtain rfl : fn = Tryz.f3 := (Option.some.inj (Tryz.func3.symm.trans hfn)).symm
  refine ⟨by kernel_rfl, fun j t ht => ?_⟩
  rw [Tryz.params3] at ht
  match j, ht with
  | 0, ht => cases ht; exact (by kernel_rfl : Tryz.prog.wantsStandIn 3 = false)
  | 1, ht => cases ht; exact (by kernel_rfl : Tryz.prog.wantsStandIn 9 = false)
  | 2, ht => cases ht; exact (by kernel_rfl : Tryz.prog.wantsStandIn 9 = false)
  | 3, ht => cases ht; exact (by kernel_rfl : Tryz.prog.wantsStandIn 3 = false)
  | 4, ht => cases ht; exact (by kernel_rfl : Tryz.prog.wantsStandIn 3 = false)
  | 5, ht => cases ht; exact (by kernel_rfl : Tryz.prog.wantsStandIn 3 = false)
  | j + 6, ht => simp at ht
theorem card : Rows.EventPublishesCardSaid :=
  Claim7.holds_tied_plain_at .later [] _ _ _ _ said (fun _ h => by cases h) (by kernel_rfl) (fun _ h => by cases h) eventPublishes_row_tie rfl ⟨rfl, rfl⟩ (by kernel_rfl) rfl plain (by kernel_rfl)
#print axioms card
end Go.Proofs.YtflehnedcjjdjaaGreatDoor
