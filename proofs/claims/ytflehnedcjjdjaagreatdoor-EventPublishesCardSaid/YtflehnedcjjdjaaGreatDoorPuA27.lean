/-
  Arguments, one by one: what is handed over and read as data is pure data of its type.
-/
import Derived.Test.YtflehnedcjjdjaaGreatDoorPuA26
import Derived.WideKeyArgs
set_option linter.unusedSimpArgs false
set_option linter.unusedVariables false
namespace Go.Pu
section
variable {E : Env} {P : Program}
theorem read_cell {H : Type} {enc : TypeId × Value → H} {w : World} {sp : Nat → Bool} (T : TyOk E P) {S : List Nat} (hS : dataS E S = true) {t : Nat} (ht : S.contains t = true) {v : Value} {d : DataW H} {ps : List MemPlace}
    (h : DataW.Trod enc P w 0 sp true t v d ps) (hv : v.cells = #[v]) : ∃ n p, VP (Gh.all w) p v ∧ FitC E n t [p] := by
  obtain ⟨n, h⟩ := h
  obtain ⟨pcs, h1, h2, h3, h4⟩ := fit_of T hS n t v.cells.toList (d, ps) (by simpa using ht) h
  rw [hv] at h1
  have hl := VPs_length h1
  simp only [List.length_cons, List.length_nil] at hl
  obtain ⟨p, rfl⟩ := List.length_eq_one_iff.1 hl.symm
  simp only [VPs] at h1
  obtain ⟨v', r, e1, h1, -⟩ := h1
  cases e1
  exact ⟨n, p, h1, h2⟩
theorem read_agg {H : Type} {enc : TypeId × Value → H} {w : World} {sp : Nat → Bool} (T : TyOk E P) {S : List Nat} (hS : dataS E S = true) {t : Nat} (ht : S.contains t = true) {cs : Array Value} {d : DataW H} {ps : List MemPlace}
    (h : DataW.Trod enc P w 0 sp true t (.agg cs) d ps) : ∃ n pcs, VP (Gh.all w) (.agg pcs) (.agg cs) ∧ FitC E n t pcs := by
  obtain ⟨n, h⟩ := h
  obtain ⟨pcs, h1, h2, h3, h4⟩ := fit_of T hS n t (Value.agg cs).cells.toList (d, ps) (by simpa using ht) h
  simp only [Value.cells] at h1 h3
  refine ⟨n, pcs, ?_, h2⟩
  simp only [VP]
  exact ⟨cs.toList, by simp, h3, h1⟩
end
theorem same_of {W W' : World} (hf : ∀ i : Nat, i < W.heap.size → W'.heap[i]? = W.heap[i]?) (q : MemPlace) (hq : q.block < W.heap.size) : W.sameAt W' q := by
  cases q with
  | cell b off =>
    show W'.cell? ⟨b, off, none⟩ = W.cell? ⟨b, off, none⟩
    unfold World.cell?
    rw [hf b hq]
  | map b => exact hf b hq
section
variable {E : Env}
abbrev inK (k : IntKind) (i : Int) : Prop := k.min ≤ i ∧ i ≤ k.max
theorem fitI {n t : Nat} {k : IntKind} {cs : List PV} (hk : (E.ty t).kd = .int k) (h : FitC E n t cs) : ∃ i, cs = [.int k i] ∧ k.min ≤ i ∧ i ≤ k.max := by
  cases n with
  | zero => exact h.elim
  | succ n => simp only [FitC, hk] at h; exact h
theorem fitB {n t : Nat} {cs : List PV} (hk : (E.ty t).kd = .bool) (h : FitC E n t cs) : ∃ b, cs = [.bool b] := by
  cases n with
  | zero => exact h.elim
  | succ n => simp only [FitC, hk] at h; exact h
theorem fitS {n t : Nat} {cs : List PV} (hk : (E.ty t).kd = .str) (h : FitC E n t cs) : ∃ s, cs = [.str s] ∧ s.length ≤ maxLen := by
  cases n with
  | zero => exact h.elim
  | succ n => simp only [FitC, hk] at h; exact h
theorem fitT {n t : Nat} {fs : List (Nat × Nat)} {cs : List PV} (hk : (E.ty t).kd = .struct fs) (h : FitC E n t cs) : ∃ m, m < n ∧ FitF (fun t cs => FitC E m t cs) (fun t => (E.ty t).size) fs cs := by
  cases n with
  | zero => exact h.elim
  | succ n => simp only [FitC, hk] at h; exact ⟨n, Nat.lt_succ_self n, h⟩
theorem fit_map {α : Type} {pv : α → PV} {ok : α → Prop} : ∀ es : List PV, (∀ x ∈ es, ∃ a, x = pv a ∧ ok a) → ∃ xs : List α, es = xs.map pv ∧ ∀ a ∈ xs, ok a
  | [], _ => ⟨[], rfl, fun a h => by cases h⟩
  | e :: es, h => by
    obtain ⟨a, rfl, ha⟩ := h e (by simp)
    obtain ⟨xs, rfl, hxs⟩ := fit_map es fun x hx => h x (by simp [hx])
    refine ⟨a :: xs, rfl, fun b hb => ?_⟩
    rcases List.mem_cons.1 hb with rfl | hb
    · exact ha
    · exact hxs b hb
theorem fitL {α : Type} {n t e k : Nat} {cs : List PV} {f : α → List PV} {pv : α → PV} {ok : α → Prop} (hpv : ∀ x, pv x = .agg (f x)) (hk : (E.ty t).kd = .slice e) (ha : (E.ty e).agg = true) (hs : (E.ty e).size = k)
    (hQ : ∀ m ys, m < n → FitC E m e ys → ∃ x, ys = f x ∧ ok x) (h : FitC E n t cs) : ∃ xs : List α, cs = [.lst k (xs.map pv)] ∧ xs.length ≤ maxLen ∧ ∀ x ∈ xs, ok x := by
  cases n with
  | zero => exact h.elim
  | succ n =>
    simp only [FitC, hk] at h
    obtain ⟨es, rfl, hl, h⟩ := h
    obtain ⟨xs, rfl, hx⟩ := fit_map (pv := pv) (ok := ok) es fun x hx => by
      obtain ⟨ys, h1, h2⟩ := h x hx
      obtain ⟨a, rfl, h3⟩ := hQ n ys (Nat.lt_succ_self n) h1
      rcases h2 with h2 | h2
      · exact ⟨a, by rw [h2.2, hpv], h3⟩
      · rw [ha] at h2; cases h2.1
    exact ⟨xs, by rw [hs], by simpa using hl, hx⟩
/-- A list of scalars. -/
theorem fitM {α : Type} {n t e : Nat} {cs : List PV} {pv : α → PV} {ok : α → Prop} (hk : (E.ty t).kd = .slice e) (ha : (E.ty e).agg = false) (hs : (E.ty e).size = 1) (hQ : ∀ m ys, FitC E m e ys → ∃ x, ys = [pv x] ∧ ok x)
    (h : FitC E n t cs) : ∃ xs : List α, cs = [.lst 1 (xs.map pv)] ∧ xs.length ≤ maxLen ∧ ∀ x ∈ xs, ok x := by
  cases n with
  | zero => exact h.elim
  | succ n =>
    simp only [FitC, hk] at h
    obtain ⟨es, rfl, hl, h⟩ := h
    obtain ⟨xs, rfl, hx⟩ := fit_map (pv := pv) (ok := ok) es fun x hx => by
      obtain ⟨ys, h1, h2⟩ := h x hx
      obtain ⟨a, rfl, h3⟩ := hQ n ys h1
      rcases h2 with h2 | h2
      · rw [ha] at h2; cases h2.1
      · have := h2.2
        simp only [List.cons.injEq, and_true] at this
        exact ⟨a, this.symm, h3⟩
    exact ⟨xs, by rw [hs], by simpa using hl, hx⟩
end
end Go.Pu
