/-
  The law EventTexts holds: it answers true for any two events, and leaves them as they were. Conditions: those of its row: the listed package-level variables start as the program's text lays them.
-/
import Derived.Test.YtjnmgfmogganlaaGreatDoorCards
import Derived.Test.YtjnmgfmogganlaaGreatDoorTie
import Derived.Test.YtjnmgfmogganlaaGreatDoorPuSE
import Derived.WideKeyArgs
import Derived.Test.YtjnmgfmogganlaaGreatDoorPuClo
import Derived.Test.YtjnmgfmogganlaaGreatDoorPuA26
import Derived.WalkKit
import Derived.ProofKit
import Derived.OpenShut
import Derived.Deep.DeepHandedRow
import Derived.Lib.LaidTab
set_option linter.unusedSimpArgs false
set_option linter.unusedVariables false
namespace Go.Proofs.YtjnmgfmogganlaaGreatDoor
open Go.ChangeShapes Go.WideShapes Go.ChangeAt Go.RowKit Go.Pu
set_option maxRecDepth 100000
attribute [local irreducible] grdC condC bcond obind nextC loopG loopC loopD grdX grdD grunC stepC putC regK execK startC enterL stayC againC backC opC retH retU bodyL finP finS finW loopN seqC blockC nrmC

theorem own : ownKnob Tryz.prog.godebug = none := by kernel_rfl

theorem globs {W : World} (h : laidMetH Tryz.prog Rows.eventTextsRow.laid W) : GlobOk E (Gh.all W) := by
  intro k cs e
  change X.glob k = some cs at e
  unfold X.glob at e
  cases h0 : Nat.beq k 0 with
  | true =>
    rw [h0] at e
    cases Nat.eq_of_beq_eq_true h0
    cases e
    exact laid_ints h (by kernel_rfl) (i := 2) (n := "internal/strconv.uint64pow10") (ns := [1, 10, 100, 1000, 10000, 100000, 1000000, 10000000, 100000000, 1000000000, 10000000000, 100000000000, 1000000000000, 10000000000000, 100000000000000, 1000000000000000, 10000000000000000, 100000000000000000, 1000000000000000000, 10000000000000000000]) (k := .u64) (by kernel_rfl) (by kernel_rfl) (by kernel_rfl) Tryz.underlying149 Tryz.underlying74 (by kernel_rfl)
  | false =>
    rw [h0] at e
    cases h2 : Nat.beq k 2 with
    | true =>
      rw [h2] at e
      cases Nat.eq_of_beq_eq_true h2
      cases e
      exact laid_ints h (by kernel_rfl) (i := 0) (n := "math/bits.deBruijn32tab") (ns := [0, 1, 28, 2, 29, 14, 24, 3, 30, 22, 20, 15, 25, 17, 4, 8, 31, 27, 13, 23, 21, 19, 16, 7, 26, 12, 18, 6, 11, 5, 10, 9]) (k := .u8) (by kernel_rfl) (by kernel_rfl) (by kernel_rfl) Tryz.underlying165 Tryz.underlying5 (by kernel_rfl)
    | false =>
      rw [h2] at e
      cases h3 : Nat.beq k 3 with
      | true =>
        rw [h3] at e
        cases Nat.eq_of_beq_eq_true h3
        cases e
        exact laid_ints h (by kernel_rfl) (i := 1) (n := "math/bits.deBruijn64tab") (ns := [0, 1, 56, 2, 57, 49, 28, 3, 61, 58, 42, 50, 38, 29, 17, 4, 62, 47, 59, 36, 45, 43, 51, 22, 53, 39, 33, 30, 24, 18, 12, 5, 63, 55, 48, 27, 60, 41, 37, 16, 46, 35, 44, 21, 52, 32, 23, 11, 54, 26, 40, 15, 34, 20, 31, 10, 25, 14, 19, 9, 13, 8, 7, 6]) (k := .u8) (by kernel_rfl) (by kernel_rfl) (by kernel_rfl) Tryz.underlying166 Tryz.underlying5 (by kernel_rfl)
      | false =>
        rw [h3] at e
        cases e

def evTys : List Nat := [38, 3, 9, 4, 22, 67, 65, 23, 72, 29, 25, 26, 27, 69, 33, 31, 36, 34, 76, 74]
theorem evTys_ok : dataS E evTys = true := by kernel_rfl
theorem read_event {H : Type} {enc : TypeId × Value → H} {W : World} {v : Value} {d : DataW H} {ps : List MemPlace} (h : DataW.Trod enc Tryz.prog W 0 (fun _ => true) true 38 v d ps) :
    ∃ e : GEvent, wfE e ∧ VP (Gh.all W) e.pv v := by
  obtain ⟨n, h⟩ := h
  obtain ⟨pcs, h1, h2, h3, h4⟩ := fit_of env_ok.ty evTys_ok n 38 v.cells.toList (d, ps) (by decide) h
  obtain ⟨e, rfl, h5⟩ := fitE n pcs h2
  refine ⟨e, h5, ?_⟩
  have hz : (E.ty 38).size = 57 := by kernel_rfl
  rw [hz] at h4
  cases v with
  | agg cs =>
    simp only [Value.cells] at h1 h3
    simp only [GEvent.pv, VP]
    exact ⟨cs.toList, by simp, h3, h1⟩
  | _ => simp [Value.cells] at h4
theorem runs (W : World) (hL : laidMetH Tryz.prog Rows.eventTextsRow.laid W) {va vb : Value} {a b : GEvent} (ha : wfE a) (hb : wfE b) (va_ok : VP (Gh.all W) a.pv va) (vb_ok : VP (Gh.all W) b.pv vb) : Calls Tryz.prog 3 #[va, vb] W fun
    | .returned y, w' => y = .bool true ∧ W.keptBut w' (fun _ => False) ∧ ∀ i : Nat, i < W.heap.size → w'.heap[i]? = W.heap[i]?
    | _, _ => False := by
  obtain ⟨n, hn⟩ := callN_of (law_ok a b ha hb)
  have h := (callN_sound env_ok n).pure 3 Tryz.f3 [a.pv, b.pv] (.bool true) rfl hn (Gh.all W) [va, vb] W (by simp only [VPs]; exact ⟨_, _, rfl, va_ok, _, _, rfl, vb_ok, rfl⟩) (Rel.all W) (globs hL)
  refine Calls.mono h fun e w' he => ?_
  cases e with
  | returned y =>
    obtain ⟨g', k1, k2, k3⟩ := he
    simp only [VP] at k1
    have hf : ∀ i : Nat, i < W.heap.size → w'.heap[i]? = W.heap[i]? := fun i hi => k3.frame i hi (fun b e => by cases e) (fun b e => by cases e)
    refine ⟨k1, ⟨k3.os, k3.output, fun i hi => ?_⟩, hf⟩
    rw [hf i hi]
    cases W.heap[i]? with
    | none => rfl
    | some o => cases o <;> first | rfl | exact ⟨rfl, rfl, rfl, fun _ _ => rfl⟩ | exact .inr ⟨rfl, rfl⟩
  | panicked _ => exact he.elim
  | outgrown => exact he.elim
theorem same_of {W W' : World} (hf : ∀ i : Nat, i < W.heap.size → W'.heap[i]? = W.heap[i]?) (q : MemPlace) (hq : q.block < W.heap.size) : W.sameAt W' q := by
  cases q with
  | cell b off =>
    show W'.cell? ⟨b, off, none⟩ = W.cell? ⟨b, off, none⟩
    unfold World.cell?
    rw [hf b hq]
  | map b => exact hf b hq
theorem again {H : Type} {enc : TypeId × Value → H} {W W' : World} (hf : ∀ i : Nat, i < W.heap.size → W'.heap[i]? = W.heap[i]?) {v : Value} {d : DataW H} {ps : List MemPlace}
    (h : DataW.Trod enc Tryz.prog W 0 (fun _ => true) true 38 v d ps) (hlt : ∀ x ∈ ps, x.block < W.heap.size) : DataW.Trod enc Tryz.prog W' 0 (fun b => decide (b < W.heap.size)) true 38 v d ps :=
  WideElems.Trod_stays (by kernel_rfl) (by kernel_rfl) (of_decide_eq_true (by kernel_rfl)) h (fun x hx => same_of hf x (hlt x hx)) (fun x hx => by simpa using hlt x hx)
theorem contract (H : Type) (enc : TypeId × Value → H) (W : World) (args : Array Value) (ds gs : List (DataW H)) (before : List MemPlace)
    (hW : DataW.Whole enc Tryz.prog Tryz.f3.params.toList Rows.eventTextsSpec.vars false W args.toList ds gs before) (hL : laidMetH Tryz.prog Rows.eventTextsRow.laid W) :
    Calls Tryz.prog 3 args W fun e W' => ∃ v, e = .returned v ∧ Rows.eventTextsSpec.post enc Tryz.prog Tryz.f3 false true false false W args v W' := by
  have hW' := hW
  have hlt := hW.lt
  obtain ⟨p, q, hA0, hV, rfl, hfz, hnd⟩ := hW
  have hA : DataW.TrodAll enc Tryz.prog W 0 (fun _ => true) true Tryz.f3.params.toList args.toList ds p := hA0
  rw [Tryz.params3] at hA
  obtain ⟨va, vb, d1, d2, p1, p2, rfl, rfl, rfl, t1, t2⟩ := trodAll_two hA
  obtain ⟨rfl, rfl⟩ := trodVars_none hV
  clear hA0
  obtain ⟨a, ha, va_ok⟩ := read_event t1
  obtain ⟨b, hb, vb_ok⟩ := read_event t2
  refine (runs W hL ha hb va_ok vb_ok).mono fun e W' he => ?_
  cases e with
  | returned y =>
    obtain ⟨rfl, hk, hf⟩ := he
    have ar : DataW.TrodAll enc Tryz.prog W' 0 (fun b => decide (b < W.heap.size)) true Tryz.f3.params.toList #[va, vb].toList [d1, d2] (p1 ++ (p2 ++ [])) := by
      rw [Tryz.params3]
      exact trodAll_cons_mk (again hf t1 fun x hx => hlt x (by simp [hx])) (trodAll_cons_mk (again hf t2 fun x hx => hlt x (by simp [hx])) trodAll_mk0)
    refine ⟨_, rfl, [d1, d2], [], _, [], _, [], hW', trodAll_cons_mk (shut_bool Tryz.underlying4 _) trodAll_mk0, ar, rfl, World.keptBut_mono (fun _ f => f.elim) hk, fun h => by cases h⟩
  | panicked _ => exact he.elim
  | outgrown => exact he.elim

def evV : Value := .agg #[.int .i64 0, .int .i64 0, .string ⟨#[]⟩, .string ⟨#[]⟩, .int .i64 0, .bool false, .bool false, .int .i64 0, .slice none 0 0, .int .i64 0, .slice none 0 0, .int .i64 0, .int .i64 0, .bool false, .bool false, .int .i64 0, .int .i64 0, .string ⟨#[]⟩, .string ⟨#[]⟩, .bool false, .int .i64 0, .string ⟨#[]⟩, .bool false, .string ⟨#[]⟩, .bool false, .string ⟨#[]⟩, .bool false, .string ⟨#[]⟩, .string ⟨#[]⟩, .int .i64 0, .bool false, .slice none 0 0, .bool false, .int .i64 0, .slice none 0 0, .slice none 0 0, .slice none 0 0, .int .i64 0, .bool false, .int .i64 0, .bool false, .bool false, .bool false, .int .i64 0, .int .i64 0, .int .i64 0, .int .i64 0, .bool false, .int .i64 0, .int .i64 0, .int .i64 0, .string ⟨#[]⟩, .string ⟨#[]⟩, .int .i64 0, .int .i64 0, .string ⟨#[]⟩, .slice none 0 0]
def evD {H : Type} : DataW H := .agg [.lit (.int .i64 0), .lit (.int .i64 0), .lit (.string []), .lit (.string []), .lit (.int .i64 0), .lit (.bool false), .lit (.bool false), .lit (.int .i64 0), .nil, .lit (.int .i64 0), .nil, .lit (.int .i64 0), .agg [.lit (.int .i64 0), .lit (.bool false), .lit (.bool false), .lit (.int .i64 0), .lit (.int .i64 0), .lit (.string []), .lit (.string []), .lit (.bool false), .lit (.int .i64 0), .lit (.string []), .lit (.bool false), .lit (.string []), .lit (.bool false), .lit (.string []), .lit (.bool false), .agg [.lit (.string []), .lit (.string []), .lit (.int .i64 0), .lit (.bool false), .nil], .lit (.bool false), .lit (.int .i64 0), .nil, .nil, .nil], .agg [.lit (.int .i64 0), .agg [.lit (.bool false), .lit (.int .i64 0), .lit (.bool false), .lit (.bool false), .lit (.bool false), .lit (.int .i64 0)], .lit (.int .i64 0), .lit (.int .i64 0), .lit (.int .i64 0), .lit (.bool false), .lit (.int .i64 0), .lit (.int .i64 0), .lit (.int .i64 0), .lit (.string []), .lit (.string [])], .agg [.lit (.int .i64 0), .lit (.int .i64 0), .lit (.string []), .nil]]
/-- The cells that a datum lays, of numbers and of arrays of numbers. -/
def litOne (d : DataW Unit) : List Value := match d with
  | .lit (.int k n) => [.int k n]
  | _ => []
def litCells (d : DataW Unit) : List Value := match d with
  | .agg ps => ps.flatMap fun p => match p with
    | .agg qs => qs.flatMap litOne
    | p => litOne p
  | _ => []
def layAt (h : Array Obj) (i : Nat) (d : DataW Unit) : Array Obj := h.modify i fun o => match o with
  | .cells _ t frozen => .cells (litCells d).toArray t frozen
  | o => o

noncomputable def laidWorld (os : Os) : World :=
  { World.holding Tryz.prog os ⟨#[], #[], []⟩ with heap := layAt (layAt (layAt (layAt (layAt ((World.holding Tryz.prog os ⟨#[], #[], []⟩).heap) 2 Rows.laid_math_bits_deBruijn32tab) 3 Rows.laid_math_bits_deBruijn64tab) 0 Rows.laid_internal_strconv_uint64pow10) 5 Rows.laid_unicode_utf8_acceptRanges) 4 Rows.laid_unicode_utf8_first }

theorem laid_met (os : Os) : laidMet Tryz.prog Rows.eventTextsRow.laid ((laidWorld os).forCall (fun _ _ => 0) ⟨#[], #[evV, evV], []⟩).memory :=
  laidMet_of_run' 8 (by kernel_rfl) (by kernel_rfl)

theorem reads (os : Os) {H : Type} (enc : TypeId × Value → H) : ∃ places, DataW.whole enc Tryz.prog ((laidWorld os).forCall (fun _ _ => 0) ⟨#[], #[evV, evV], []⟩).memory Tryz.f3.params.toList Rows.eventTextsSpec.vars false (#[evV, evV] : Array Value).toList 12 = some ([evD, evD], [], places) :=
  ⟨[], by kernel_rfl⟩

theorem lifted (os : Os) (started : os.Started) (H : Type) (enc : TypeId × Value → H) (F : Stop.Interp) :
    ReturnsInHanded {} Tryz.checked os 3 .any ((OpenSpec.ofChange Rows.eventTextsSpec).preRow enc Tryz.prog Tryz.f3 Rows.eventTextsRow.domain false Rows.eventTextsRow.laid) (((OpenSpec.ofChange Rows.eventTextsSpec).at F).post enc Tryz.prog Tryz.f3 false true false false) := by
  obtain ⟨places, hx⟩ := reads os enc
  refine returnsInHanded_of_row (C := Tryz.checked) (s := OpenSpec.ofChange Rows.eventTextsSpec) own started (by kernel_rfl) Tryz.func3
    (witness_row_at (enc := enc) (C := Tryz.checked) false (laidWorld os) #[evV, evV] rfl (by kernel_rfl) (by kernel_rfl) (by kernel_rfl)
      (OpenSpec.preRow_of_cond 12 hx (by kernel_rfl) (fun k hk => by cases hk) (by kernel_rfl) (laid_met os))) ?_
  intro W base args ds gs before hval hW _ _ _ hL _ _
  exact contract H enc W args ds gs before hW hL

theorem said : Rows.EventTextsSaid :=
  OpenClaim.holds_of_cond 3 Tryz.f3 rfl rfl rfl rfl rfl rfl rfl ⟨rfl, rfl, rfl, rfl, rfl⟩ rfl rfl rfl rfl rfl (by kernel_rfl) Tryz.func3 closed
    (of_decide_eq_true (by kernel_rfl)) (by unfold Func.isWrapper; first | (rw [if_pos (by decide +kernel)]; kernel_rfl) | (rw [if_neg (by decide +kernel)]; exact ⟨rfl, rfl⟩))
    (fun os started H enc _ F => by rw [OpenClaim.pre_eq_preRow]; exact lifted os started H enc F)

theorem plain (f : FuncId) (fn : Func) (hf : Tryz.pinned.checked.prog.funcNamed "polyglot/polyglotlaw25.EventTexts" = some f) (hfn : Tryz.pinned.checked.prog.funcs[f]? = some fn) :
    false = Tryz.pinned.checked.prog.looks [] ∧ ∀ (j : Nat) t, fn.params[j]? = some t → Tryz.pinned.checked.prog.wantsStandIn t = false := by
  obtain rfl : f = 3 := Option.some.inj ((show Tryz.prog.funcNamed "polyglot/polyglotlaw25.EventTexts" = some 3 by kernel_rfl).symm.trans hf) |>.symm
  obtain rfl : fn = Tryz.f3 := (Option.some.inj (Tryz.func3.symm.trans hfn)).symm
  refine ⟨by kernel_rfl, fun j t ht => ?_⟩
  rw [Tryz.params3] at ht
  match j, ht with
  | 0, ht => cases ht; exact (by kernel_rfl : Tryz.prog.wantsStandIn 38 = false)
  | 1, ht => cases ht; exact (by kernel_rfl : Tryz.prog.wantsStandIn 38 = false)
  | j + 2, ht => simp at ht

theorem card : Rows.EventTextsCardSaid :=
  Claim7.holds_tied_plain_at .later [] _ _ _ _ said (fun _ h => by cases h) (by kernel_rfl) (fun _ h => by cases h) eventTexts_row_tie rfl ⟨rfl, rfl⟩ (by kernel_rfl) rfl plain (by kernel_rfl)
#print axioms card
end Go.Proofs.YtjnmgfmogganlaaGreatDoor
