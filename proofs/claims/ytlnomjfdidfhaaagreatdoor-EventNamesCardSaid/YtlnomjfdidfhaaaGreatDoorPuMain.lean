/-
  The law EventNames holds: it takes nothing and answers true. Conditions: those of its row: the listed package-level variables start as the program's text lays them.
-/
import Derived.Test.YtlnomjfdidfhaaaGreatDoorCards
import Derived.Test.YtlnomjfdidfhaaaGreatDoorTie
import Derived.Test.YtlnomjfdidfhaaaGreatDoorPuAns
import Derived.Test.YtlnomjfdidfhaaaGreatDoorPuClo
import Derived.Test.YtlnomjfdidfhaaaGreatDoorPuA26
import Derived.WalkKit
import Derived.ProofKit
import Derived.OpenShut
import Derived.Deep.DeepHandedRow
import Derived.Lib.LaidTab
namespace Go.Proofs.YtlnomjfdidfhaaaGreatDoor
open Go.ChangeShapes Go.WideShapes Go.ChangeAt Go.RowKit Go.Pu
set_option maxRecDepth 100000

theorem own : ownKnob Tryz.prog.godebug = none := by kernel_rfl

theorem globs {W : World} (h : laidMetH Tryz.prog Rows.eventNamesRow.laid W) : GlobOk E (Gh.all W) := by
  intro k cs e
  change X.glob k = some cs at e
  unfold X.glob at e
  cases h0 : Nat.beq k 0 with
  | true =>
    rw [h0] at e
    cases Nat.eq_of_beq_eq_true h0
    cases e
    exact laid_ints h (by kernel_rfl) (i := 2) (n := "internal/strconv.uint64pow10") (ns := [1, 10, 100, 1000, 10000, 100000, 1000000, 10000000, 100000000, 1000000000, 10000000000, 100000000000, 1000000000000, 10000000000000, 100000000000000, 1000000000000000, 10000000000000000, 100000000000000000, 1000000000000000000, 10000000000000000000]) (k := .u64) (by kernel_rfl) (by kernel_rfl) (by kernel_rfl) Tryz.underlying189 Tryz.underlying52 (by kernel_rfl)
  | false =>
    rw [h0] at e
    cases h4 : Nat.beq k 4 with
    | true =>
      rw [h4] at e
      cases Nat.eq_of_beq_eq_true h4
      cases e
      exact laid_ints h (by kernel_rfl) (i := 0) (n := "math/bits.deBruijn32tab") (ns := [0, 1, 28, 2, 29, 14, 24, 3, 30, 22, 20, 15, 25, 17, 4, 8, 31, 27, 13, 23, 21, 19, 16, 7, 26, 12, 18, 6, 11, 5, 10, 9]) (k := .u8) (by kernel_rfl) (by kernel_rfl) (by kernel_rfl) Tryz.underlying249 Tryz.underlying5 (by kernel_rfl)
    | false =>
      rw [h4] at e
      cases h5 : Nat.beq k 5 with
      | true =>
        rw [h5] at e
        cases Nat.eq_of_beq_eq_true h5
        cases e
        exact laid_ints h (by kernel_rfl) (i := 1) (n := "math/bits.deBruijn64tab") (ns := [0, 1, 56, 2, 57, 49, 28, 3, 61, 58, 42, 50, 38, 29, 17, 4, 62, 47, 59, 36, 45, 43, 51, 22, 53, 39, 33, 30, 24, 18, 12, 5, 63, 55, 48, 27, 60, 41, 37, 16, 46, 35, 44, 21, 52, 32, 23, 11, 54, 26, 40, 15, 34, 20, 31, 10, 25, 14, 19, 9, 13, 8, 7, 6]) (k := .u8) (by kernel_rfl) (by kernel_rfl) (by kernel_rfl) Tryz.underlying250 Tryz.underlying5 (by kernel_rfl)
      | false =>
        rw [h5] at e
        cases e

theorem runs (W : World) (hL : laidMetH Tryz.prog Rows.eventNamesRow.laid W) : Calls Tryz.prog 3 #[] W fun
    | .returned y, w' => y = .bool true ∧ W.keptBut w' (fun _ => False)
    | _, _ => False := by
  have h := (callN_sound env_ok 2000).pure 3 Tryz.f3 [] (.bool true) rfl answer (Gh.all W) [] W (by simp [VPs]) (Rel.all W) (globs hL)
  refine Calls.mono h fun e w' he => ?_
  cases e with
  | returned y =>
    obtain ⟨g', k1, k2, k3⟩ := he
    simp only [VP] at k1
    refine ⟨k1, k3.os, k3.output, fun i hi => ?_⟩
    have := k3.frame i hi (fun b e => by cases e) (fun b e => by cases e)
    rw [this]
    cases W.heap[i]? with
    | none => rfl
    | some o => cases o <;> first | rfl | exact ⟨rfl, rfl, rfl, fun _ _ => rfl⟩ | exact .inr ⟨rfl, rfl⟩
  | panicked _ => exact he.elim
  | outgrown => exact he.elim

theorem contract (H : Type) (enc : TypeId × Value → H) (W : World) (args : Array Value) (ds gs : List (DataW H)) (before : List MemPlace)
    (hW : DataW.Whole enc Tryz.prog Tryz.f3.params.toList Rows.eventNamesSpec.vars false W args.toList ds gs before) (hL : laidMetH Tryz.prog Rows.eventNamesRow.laid W) :
    Calls Tryz.prog 3 args W fun e W' => ∃ v, e = .returned v ∧ Rows.eventNamesSpec.post enc Tryz.prog Tryz.f3 false true false false W args v W' := by
  have hW' := hW
  obtain ⟨p, q, hA0, hV, rfl, hfz, hnd⟩ := hW
  have hA : DataW.TrodAll enc Tryz.prog W 0 (fun _ => true) true Tryz.f3.params.toList args.toList ds p := hA0
  rw [Tryz.params3] at hA
  obtain ⟨hargs, rfl, rfl⟩ := trodAll_nil hA
  obtain rfl : args = #[] := by cases args; simp_all
  obtain ⟨rfl, rfl⟩ := trodVars_none hV
  clear hA0
  refine (runs W hL).mono fun e W' he => ?_
  cases e with
  | returned y =>
    obtain ⟨rfl, hk⟩ := he
    refine ⟨_, rfl, [], [], _, [], [], [], hW', trodAll_cons_mk (shut_bool Tryz.underlying4 _) trodAll_mk0, trodAll_mk0, rfl, World.keptBut_mono (fun _ f => f.elim) hk, fun h => by cases h⟩
  | panicked _ => exact he.elim
  | outgrown => exact he.elim

/-- The cells that a datum lays, of numbers and of arrays of numbers. -/
def litOne (d : DataW Unit) : List Value := match d with
  | .lit (.int k n) => [.int k n]
  | _ => []
def litCells (d : DataW Unit) : List Value := match d with
  | .agg ps => ps.flatMap fun p => match p with
    | .agg qs => qs.flatMap litOne
    | p => litOne p
  | _ => []
def layAt (h : Array Obj) (i : Nat) (d : DataW Unit) : Array Obj := h.modify i fun o => match o with
  | .cells _ t frozen => .cells (litCells d).toArray t frozen
  | o => o

noncomputable def laidWorld (os : Os) : World :=
  { World.holding Tryz.prog os ⟨#[], #[], []⟩ with heap := layAt (layAt (layAt (layAt (layAt ((World.holding Tryz.prog os ⟨#[], #[], []⟩).heap) 4 Rows.laid_math_bits_deBruijn32tab) 5 Rows.laid_math_bits_deBruijn64tab) 0 Rows.laid_internal_strconv_uint64pow10) 3 Rows.laid_unicode_utf8_acceptRanges) 2 Rows.laid_unicode_utf8_first }

theorem laid_met (os : Os) : laidMet Tryz.prog Rows.eventNamesRow.laid ((laidWorld os).forCall (fun _ _ => 0) ⟨#[], #[], []⟩).memory :=
  laidMet_of_run' 8 (by kernel_rfl) (by kernel_rfl)

theorem reads (os : Os) {H : Type} (enc : TypeId × Value → H) : ∃ places, DataW.whole enc Tryz.prog ((laidWorld os).forCall (fun _ _ => 0) ⟨#[], #[], []⟩).memory Tryz.f3.params.toList Rows.eventNamesSpec.vars false (#[] : Array Value).toList 8 = some ([], [], places) :=
  ⟨[], by kernel_rfl⟩

theorem lifted (os : Os) (started : os.Started) (H : Type) (enc : TypeId × Value → H) (F : Stop.Interp) :
    ReturnsInHanded {} Tryz.checked os 3 .any ((OpenSpec.ofChange Rows.eventNamesSpec).preRow enc Tryz.prog Tryz.f3 Rows.eventNamesRow.domain false Rows.eventNamesRow.laid) (((OpenSpec.ofChange Rows.eventNamesSpec).at F).post enc Tryz.prog Tryz.f3 false true false false) := by
  obtain ⟨places, hx⟩ := reads os enc
  refine returnsInHanded_of_row (C := Tryz.checked) (s := OpenSpec.ofChange Rows.eventNamesSpec) own started (by kernel_rfl) Tryz.func3
    (witness_row_at (enc := enc) (C := Tryz.checked) false (laidWorld os) #[] rfl (by kernel_rfl) (by kernel_rfl) (by kernel_rfl)
      (OpenSpec.preRow_of_cond 8 hx (by kernel_rfl) (fun k hk => by cases hk) (by kernel_rfl) (laid_met os))) ?_
  intro W base args ds gs before hval hW _ _ _ hL _ _
  exact contract H enc W args ds gs before hW hL

theorem said : Rows.EventNamesSaid :=
  OpenClaim.holds_of_cond 3 Tryz.f3 rfl rfl rfl rfl rfl rfl rfl ⟨rfl, rfl, rfl, rfl, rfl⟩ rfl rfl rfl rfl rfl (by kernel_rfl) Tryz.func3 closed
    (of_decide_eq_true (by kernel_rfl)) (by unfold Func.isWrapper; first | (rw [if_pos (by decide +kernel)]; kernel_rfl) | (rw [if_neg (by decide +kernel)]; exact ⟨rfl, rfl⟩))
    (fun os started H enc _ F => by rw [OpenClaim.pre_eq_preRow]; exact lifted os started H enc F)

theorem plain (f : FuncId) (fn : Func) (hf : Tryz.pinned.checked.prog.funcNamed "polyglot/polyglotlaw25.EventNames" = some f) (hfn : Tryz.pinned.checked.prog.funcs[f]? = some fn) :
    false = Tryz.pinned.checked.prog.looks [] ∧ ∀ (j : Nat) t, fn.params[j]? = some t → Tryz.pinned.checked.prog.wantsStandIn t = false := by
  obtain rfl : f = 3 := Option.some.inj ((show Tryz.prog.funcNamed "polyglot/polyglotlaw25.EventNames" = some 3 by kernel_rfl).symm.trans hf) |>.symm
  obtain rfl : fn = Tryz.f3 := (Option.some.inj (Tryz.func3.symm.trans hfn)).symm
  refine ⟨by kernel_rfl, fun j t ht => ?_⟩
  rw [Tryz.params3] at ht
  simp at ht

theorem card : Rows.EventNamesCardSaid :=
  Claim7.holds_tied_plain_at .later [] _ _ _ _ said (fun _ h => by cases h) (by kernel_rfl) (fun _ h => by cases h) eventNames_row_tie rfl ⟨rfl, rfl⟩ (by kernel_rfl) rfl plain (by kernel_rfl)
#print axioms card
end Go.Proofs.YtlnomjfdidfhaaaGreatDoor
