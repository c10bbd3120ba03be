/-
  Package-level variables that are laid: what the evaluator is told of them is so.
-/
import Derived.Test.YtflehnedcjjdjaaGreatDoorPuA25
import GoSem.ClaimJoined
set_option linter.unusedSimpArgs false
set_option linter.unusedVariables false
namespace Go.Pu
section
variable {P : Program} {w : World}
theorem laid_at : ∀ {laid : List (String × DataW Unit)} {ps : List MemPlace} {i : Nat} {n : String} {d : DataW Unit}, DataW.LaidVars P w laid ps → laid[i]? = some (n, d) →
    ∃ g t cs fuel p, P.globalNamed n = some g ∧ (P.globals[g]?).map (·.type) = some t ∧ w.var? P n = some cs ∧ DataW.trod (fun _ => ()) P w 0 (fun _ => true) false fuel t cs.toList = some (d, p)
  | [], ps, i, n, d, _, h => by simp at h
  | (n', d') :: r, ps, i, n, d, hl, h => by
    simp only [DataW.LaidVars] at hl
    obtain ⟨g, t, cs, fuel, p, q, h1, h2, h3, h4, h5, _⟩ := hl
    cases i with
    | zero => simp at h; obtain ⟨rfl, rfl⟩ := h; exact ⟨g, t, cs, fuel, p, h1, h2, h3, h4⟩
    | succ i => simp at h; exact laid_at h5 h

theorem laid_ints {laid : List (String × DataW Unit)} {i : Nat} {n : String} {g t e len : Nat} {k : IntKind} {ns : List Int} (h : laidMetH P laid w) (hno : (laid.filter fun x => x.2.handleName?.isSome) = [])
    (hi : laid[i]? = some (n, .agg (ns.map fun m => .lit (.int k m)))) (hg : P.globalNamed n = some g) (ht : (P.globals[g]?).map (·.type) = some t) (hu : P.underlying t = some (.array len e)) (he : P.underlying e = some (.int k)) (hc : P.cellsOf e = 1) :
    ∃ vs, VPs (Gh.all w) (ns.map (PV.int k)) vs ∧ One vs ∧ Holds (Gh.all w).mu g 0 vs := by
  unfold laidMetH at h
  rw [hno] at h
  obtain ⟨ps, hl, _⟩ := h
  obtain ⟨g', t', cs, fuel, p, h1, h2, h3, h4⟩ := laid_at hl hi
  rw [hg] at h1; cases h1
  rw [ht] at h2; cases h2
  obtain ⟨xs, m, _, hx, hlen, hxl, hf⟩ := DataW.trod_array hu h4
  simp only [Prod.mk.injEq, DataW.agg.injEq] at hx
  have hns : ns.length = xs.length := by have := congrArg List.length hx.1; simpa using this
  have key : ∀ (j : Nat) (m : Int), ns[j]? = some m → cs.toList[j]? = some (Value.int k m) := by
    intro j m hj
    have hjl : j < ns.length := (List.getElem?_eq_some_iff.1 hj).1
    have hr := hf j (by omega)
    rw [hc, Nat.mul_one] at hr
    rw [List.getElem?_eq_getElem (by omega)] at hr
    obtain ⟨q, e1, e2, _⟩ := DataW.trod_int he hr
    have e3 : (xs.map (·.1))[j]? = some (.lit (.int k m)) := by rw [← hx.1]; simp [hj]
    rw [List.getElem?_map, List.getElem?_eq_getElem (by omega), Option.map_some, e2] at e3
    simp only [Option.some.injEq, DataW.lit.injEq, Lit.int.injEq, true_and] at e3
    subst e3
    have : ((cs.toList.drop j).take 1)[0]? = some (Value.int k q) := by rw [e1]; rfl
    simpa using this
  refine ⟨ns.map (Value.int k), ?_, ?_, ?_⟩
  · exact VPs_maps fun q _ => by simp only [VP]
  · intro v hv
    obtain ⟨q, _, rfl⟩ := List.mem_map.1 hv
    rfl
  · intro j v hj
    rw [List.getElem?_map] at hj
    obtain ⟨m, hm, rfl⟩ := Option.map_eq_some_iff.1 hj
    have h5 := key j m hm
    unfold World.var? at h3
    rw [hg] at h3
    simp only [Option.bind_some] at h3
    simp only [Gh.all, World.cell?, Nat.zero_add]
    split at h3
    · rename_i cs' _ _ hw
      cases h3
      rw [hw]
      simpa using h5
    · cases h3
end
end Go.Pu
