/-
  Regions in the text's order, code, loops: what the evaluator answers is what the code does, if its operations are.
-/
import Derived.Test.YtflehnedcjjdjaaGreatDoorPuA8
import Derived.LoopN
import Derived.Orders
set_option linter.unusedSimpArgs false
set_option linter.unusedVariables false
namespace Go.Pu

/-- Is an operation wanted? -/
def guardO (ops : Array Oper) (o : Oper) (fr : Fr) : Option Bool :=
  match o.guard with
  | none => some true
  | some (j, want) =>
    match (ops[j]?).bind (·.dst) with
    | none => none
    | some d => match fr.get d with
      | .pv (.bool b) => some (b == want)
      | .pv (.tup []) => some false
      | _ => none

def effO (E : Env) (c : Oracle) (f : Nat) (bases : List Nat) (dr : Option Draw) (ops : Array Oper) (i rank : Nat) (o : Oper) (fr : Fr) (H : Hp) : Option (AV × Hp) :=
  match guardO ops o fr with
  | none => none
  | some true => opO E c f bases dr i rank o ⟨fr, H⟩
  | some false => some (.pv (.tup []), H)

def stepO (E : Env) (c : Oracle) (f : Nat) (bases : List Nat) (dr : Option Draw) (ops : Array Oper) (i rank : Nat) (o : Oper) (st : St) : Option St :=
  (effO E c f bases dr ops i rank o st.fr st.hp).map (putO st o.dst)

theorem regK_cons {R : Type} (E : Env) (c : Oracle) (f : Nat) (bases : List Nat) (dr : Option Draw) (ops : Array Oper) (o : Oper) (os : List Oper) (i rank : Nat) (st : St) (k : St → Option R) :
    regK E c f bases dr ops (o :: os) i rank st k = (stepO E c f bases dr ops i rank o st).bind fun st' => regK E c f bases dr ops os (i + 1) (cond (isNew o.op) (rank + 1) rank) st' k := by
  obtain ⟨fr, H⟩ := st
  simp only [regK, stepO, effO, guardO]
  cases o.guard with
  | none => cases opO E c f bases dr i rank o ⟨fr, H⟩ <;> rfl
  | some jw =>
    obtain ⟨j, want⟩ := jw
    simp only
    cases (ops[j]?).bind (·.dst) with
    | none => rfl
    | some d =>
      simp only
      split
      · rename_i b e
        rw [e]
        cases b
        · have hs : fr.set d (.pv (.bool false)) = fr := by rw [← e]; exact Fr.set_get fr d
          rw [hs]
          cases want
          · simp only [cond_false, beq_self_eq_true]
            cases opO E c f bases dr i rank o ⟨fr, H⟩ <;> rfl
          · rfl
        · have hs : fr.set d (.pv (.bool true)) = fr := by rw [← e]; exact Fr.set_get fr d
          rw [hs]
          cases want
          · rfl
          · simp only [cond_true, beq_self_eq_true]
            cases opO E c f bases dr i rank o ⟨fr, H⟩ <;> rfl
      · rename_i e; rw [e]; rfl
      · rename_i h1 h2
        have hn : (match fr.get d with
          | .pv (.bool b) => some (b == want)
          | .pv (.tup []) => some false
          | _ => (none : Option Bool)) = none := by
          split
          · rename_i b e; exact absurd e (h1 b)
          · rename_i e; exact absurd e h2
          · rfl
        rw [hn]; rfl

structure StOk (E : Env) (nt : Nat) (g : Gh) (st : St) (a : Act) (w : World) : Prop where
  fr : FrOk g st.fr a
  rel : Rel g st.hp w
  glob : GlobOk E g
  size : nt ≤ a.tmps.size
  defers : a.defers = []

/-- Blocks below a base lead to blocks below it alone. -/
def Und (bases : List Nat) (H : Hp) : Prop := ∀ B ∈ bases, B ≤ H.length ∧ ∀ b k, b < B → H[b]? = some k → k.under B = true

def lvl (dr : Option Draw) (H : Hp) : Nat := match dr with | none => H.length | some d => d.n0

def DrOk (dr : Option Draw) (bases : List Nat) (H : Hp) : Prop := lvl dr H ≤ H.length ∧ ∀ B ∈ bases, B ≤ lvl dr H

theorem DrOk.none {bases : List Nat} {H : Hp} (U : Und bases H) : DrOk none bases H := ⟨Nat.le_refl _, fun B hB => (U B hB).1⟩

theorem DrOk.on {dr : Option Draw} {bases : List Nat} {H H' : Hp} (D : DrOk dr bases H) (h : H.length ≤ H'.length) : DrOk dr bases H' := by
  cases dr with
  | none => exact ⟨Nat.le_refl _, fun B hB => Nat.le_trans (D.2 B hB) h⟩
  | some d => exact ⟨Nat.le_trans D.1 h, D.2⟩

def OpSound (E : Env) (P : Program) (c : Oracle) : Prop := ∀ (f : Nat) (bases : List Nat) (dr : Option Draw) (i rank : Nat) (o : Oper) (st : St) (v : AV) (H' : Hp),
  opO E c f bases dr i rank o st = some (v, H') → ∀ (nt : Nat) (g : Gh) (a : Act) (w : World), StOk E nt g st a w → Und bases st.hp → DrOk dr bases st.hp →
  ∀ (K : Act → World → Prop) (Q : Exit → Act → World → Prop),
    (∀ y w' g', VA g' v y → Rel g' H' w' → Mor st.hp.length g g' → Ext (lvl dr st.hp) g w g' w' → st.hp.length ≤ H'.length → Und bases H' → K (a.put o.dst y) w') → o.wp P a w K Q

theorem guardO_ok {E : Env} {nt : Nat} {g : Gh} {st : St} {a : Act} {w : World} (S : StOk E nt g st a w) {ops : Array Oper} {o : Oper} {b : Bool} (h : guardO ops o st.fr = some b) :
    Region.wanted o (yielded ops a.tmps) = b := by
  unfold guardO at h
  unfold Region.wanted
  split at h
  · rename_i hg; rw [hg]; simpa using h
  · rename_i j want hg
    rw [hg]
    split at h
    · cases h
    · rename_i d hd
      have hv := S.fr d
      simp only [yielded, hd, Option.bind_some]
      split at h
      · rename_i b' e
        rw [e] at hv
        simp only [VA, VP] at hv
        simp only [Option.some.injEq] at h; subst h
        rw [Array.getD_eq_getD_getElem?] at hv
        cases ht : a.tmps[d]? with
        | none => rw [ht] at hv; simp [undef] at hv
        | some x => rw [ht] at hv; simp only [Option.getD_some] at hv; subst hv; rfl
      · rename_i e
        rw [e] at hv
        simp only [VA, VP, VPs] at hv
        obtain ⟨vs, hv, rfl⟩ := hv
        simp only [Option.some.injEq] at h; subst h
        rw [Array.getD_eq_getD_getElem?] at hv
        cases ht : a.tmps[d]? with
        | none => rfl
        | some x => rw [ht] at hv; simp only [Option.getD_some] at hv; subst hv; rfl
      · cases h

theorem Act.put_size (a : Act) (d : Option Nat) (v : Value) : (a.put d v).tmps.size = a.tmps.size := by cases d <;> simp [Act.put]
theorem Act.put_defers' (a : Act) (d : Option Nat) (v : Value) : (a.put d v).defers = a.defers := by cases d <;> rfl

theorem StOk.put {E : Env} {nt : Nat} {g g' : Gh} {st : St} {a : Act} {w w' : World} (S : StOk E nt g st a w) {dst : Option Nat} {v : AV} {H' : Hp} {y : Value}
    (hd : ∀ d, dst = some d → d < nt) (hv : VA g' v y) (R : Rel g' H' w') (M : Mor st.hp.length g g') : StOk E nt g' (putO st dst (v, H')) (a.put dst y) w' := by
  have F : FrOk g' st.fr a := S.fr.mono M S.rel.lt
  cases dst with
  | none => exact ⟨F, R, S.glob.mono M.toMem, S.size, S.defers⟩
  | some d =>
    exact ⟨F.put hv (Nat.lt_of_lt_of_le (hd d rfl) S.size), R, S.glob.mono M.toMem, by rw [Act.put_size]; exact S.size, by rw [Act.put_defers']; exact S.defers⟩

section
variable {E : Env} {P : Program} {c : Oracle}

theorem stepO_ok (hop : OpSound E P c) {f : Nat} {bases : List Nat} {dr : Option Draw} {ops : Array Oper} {i rank : Nat} {o : Oper} {st st' : St} {nt : Nat} {g : Gh} {a : Act} {w : World}
    (ho : ops[i]? = some o) (hd : ∀ d, o.dst = some d → d < nt) (he : stepO E c f bases dr ops i rank o st = some st') (S : StOk E nt g st a w) (U : Und bases st.hp) (D : DrOk dr bases st.hp)
    {K : Act → World → Prop} {Q : Exit → Act → World → Prop}
    (hK : ∀ a' w' g', StOk E nt g' st' a' w' → Ext (lvl dr st.hp) g w g' w' → st.hp.length ≤ st'.hp.length → Und bases st'.hp → K a' w') : wpOp P ops Q i K a w := by
  unfold stepO effO at he
  simp only [wpOp, ho]
  cases hg : guardO ops o st.fr with
  | none => rw [hg] at he; cases he
  | some b =>
    rw [hg] at he
    rw [guardO_ok S hg]
    cases b
    · simp only [Option.map_some, Option.some.injEq] at he; subst he
      simp only [Bool.false_eq_true, if_false]
      have hst : ∀ dst r, (putO st dst r).hp = r.2 := fun dst r => by cases dst <;> rfl
      refine hK _ _ g (S.put hd (by simp [VA, VP, VPs, undef]) S.rel (Ext.refl _ g w).mor) (Ext.refl _ g w) (by rw [hst]; exact Nat.le_refl _) (by rw [hst]; exact U)
    · simp only [if_true]
      have hst : ∀ dst r, (putO st dst r).hp = r.2 := fun dst r => by cases dst <;> rfl
      cases hr : opO E c f bases dr i rank o st with
      | none =>
        rw [show (⟨st.fr, st.hp⟩ : St) = st from rfl, hr] at he; cases he
      | some r =>
        obtain ⟨v, H'⟩ := r
        rw [show (⟨st.fr, st.hp⟩ : St) = st from rfl, hr] at he
        simp only [Option.map_some, Option.some.injEq] at he; subst he
        refine .inl (hop f bases dr i rank o st v H' hr nt g a w S U D K Q ?_)
        intro y w' g' h1 h2 h3 h4 h5 h6
        exact hK _ _ g' (S.put hd h1 h2 h3) h4 (by rw [hst]; exact h5) (by rw [hst]; exact h6)

theorem lvl_le {dr : Option Draw} {H H' : Hp} (h : H.length ≤ H'.length) : lvl dr H ≤ lvl dr H' := by
  cases dr with
  | none => exact h
  | some d => exact Nat.le_refl _

/-- In the text's order. -/
theorem regK_ok (hop : OpSound E P c) {R : Type} {f : Nat} {bases : List Nat} {ops : Array Oper} {nt : Nat} {k : St → Option R} {r : R} {Q : Exit → Act → World → Prop}
    (hd : ∀ (i : Nat) o d, ops[i]? = some o → o.dst = some d → d < nt) : ∀ (os : List Oper) (i rank : Nat) (st : St) (g : Gh) (a : Act) (w : World), ops.toList.drop i = os →
    regK E c f bases none ops os i rank st k = some r → StOk E nt g st a w → Und bases st.hp →
    (∀ a' w' g' st', k st' = some r → StOk E nt g' st' a' w' → Ext st.hp.length g w g' w' → st.hp.length ≤ st'.hp.length → Und bases st'.hp → Q .normal a' w') →
    wpOps P ops Q (List.range' i os.length) a w
  | [], i, rank, st, g, a, w, _, he, S, U, hQ => by
    simp only [regK] at he
    exact hQ a w g st he S (Ext.refl _ _ _) (Nat.le_refl _) U
  | o :: os, i, rank, st, g, a, w, hos, he, S, U, hQ => by
    rw [regK_cons] at he
    cases hs : stepO E c f bases none ops i rank o st with
    | none => rw [hs] at he; cases he
    | some st1 =>
      rw [hs] at he
      simp only [Option.bind_some] at he
      have ho : ops[i]? = some o := by
        have : (ops.toList.drop i)[0]? = some o := by rw [hos]; rfl
        rw [List.getElem?_drop] at this
        simpa using this
      rw [List.length_cons, List.range'_succ, wpOps_cons]
      refine stepO_ok hop ho (fun d h => hd i o d ho h) hs S U (DrOk.none U) ?_
      intro a' w' g' S' X hl U'
      refine regK_ok hop hd os (i + 1) _ st1 g' a' w' (by
        have : ops.toList.drop (i + 1) = (ops.toList.drop i).drop 1 := by rw [List.drop_drop]
        rw [this, hos]; rfl) he S' U' ?_
      intro a2 w2 g2 st2 h1 h2 h3 h4 h5
      exact hQ a2 w2 g2 st2 h1 h2 (X.trans h3 hl) (Nat.le_trans hl h4) h5

end
end Go.Pu
