/-
  Regions whose order is open: operations that are told apart by their kinds may change places.
-/
import Derived.Test.YtflehnedcjjdjaaGreatDoorPuA10
set_option linter.unusedSimpArgs false
set_option linter.unusedVariables false
namespace Go.Pu

theorem Fr.set_comm (fr : Fr) (i j : Nat) (v u : AV) (h : i ≠ j) : (fr.set i v).set j u = (fr.set j u).set i v := by
  induction fr generalizing i j with
  | lf => rfl
  | nd x l r ihl ihr =>
    simp only [Fr.set]
    rcases hi : Nat.beq i 0 with _ | _ <;> rcases hj : Nat.beq j 0 with _ | _
    · have hi0 : i ≠ 0 := fun e => by subst e; simp at hi
      have hj0 : j ≠ 0 := fun e => by subst e; simp at hj
      rcases hm : Nat.beq (i % 2) 1 with _ | _ <;> rcases hn : Nat.beq (j % 2) 1 with _ | _
      · have h1 : ¬ i % 2 = 1 := fun e => by rw [e] at hm; simp at hm
        have h2 : ¬ j % 2 = 1 := fun e => by rw [e] at hn; simp at hn
        simp only [cond_false, Fr.set, hi, hj, hm, hn]
        rw [ihr _ _ (by omega)]
      · simp only [cond_false, cond_true, Fr.set, hi, hj, hm, hn]
      · simp only [cond_false, cond_true, Fr.set, hi, hj, hm, hn]
      · have h1 := Nat.eq_of_beq_eq_true hm
        have h2 := Nat.eq_of_beq_eq_true hn
        simp only [cond_false, cond_true, Fr.set, hi, hj, hm, hn]
        rw [ihl _ _ (by omega)]
    · rcases hm : Nat.beq (i % 2) 1 with _ | _ <;> simp only [cond_false, cond_true, Fr.set, hi, hj, hm]
    · rcases hn : Nat.beq (j % 2) 1 with _ | _ <;> simp only [cond_false, cond_true, Fr.set, hi, hj, hn]
    · have h1 := Nat.eq_of_beq_eq_true hi
      have h2 := Nat.eq_of_beq_eq_true hj
      omega

def rdable : Blk → Bool
  | .cells _ | .map _ _ | .sit _ _ => true
  | _ => false

/-- Blocks of a set that are read stay. -/
def Keep (S : Nat → Prop) (H H' : Hp) : Prop := ∀ b k, S b → H[b]? = some k → rdable k = true → H'[b]? = some k

theorem Keep.refl (S : Nat → Prop) (H : Hp) : Keep S H H := fun _ _ _ h _ => h
theorem Keep.mono {S T : Nat → Prop} {H H' : Hp} (h : ∀ b, S b → T b) (k : Keep T H H') : Keep S H H' := fun b x hb e r => k b x (h b hb) e r

section
variable (E : Env) (c : Oracle) (f : Nat) (bases : List Nat) (dr : Option Draw) (ops : Array Oper)

def rankOf (i : Nat) : Nat := (ops.toList.take i).countP fun o => isNew o.op

def effI (i : Nat) (fr : Fr) (H : Hp) : Option (AV × Hp) :=
  match ops[i]? with
  | none => none
  | some o => effO E c f bases dr ops i (rankOf ops i) o fr H

def dstI (i : Nat) : Option Nat := (ops[i]?).bind (·.dst)

def stepI (i : Nat) (st : St) : Option St := (effI E c f bases dr ops i st.fr st.hp).map (putO st (dstI ops i))

def runL : List Nat → St → Option St
  | [], st => some st
  | i :: is, st => (stepI E c f bases dr ops i st).bind (runL is)

theorem rankOf_succ {i : Nat} {o : Oper} (h : ops[i]? = some o) : rankOf ops (i + 1) = cond (isNew o.op) (rankOf ops i + 1) (rankOf ops i) := by
  unfold rankOf
  have h' : ops.toList[i]? = some o := by simpa using h
  rw [List.take_add_one, h']
  simp only [Option.toList, List.countP_append, List.countP_cons, List.countP_nil, Nat.zero_add]
  cases isNew o.op <;> simp

theorem regK_run {R : Type} (k : St → Option R) : ∀ (os : List Oper) (i : Nat) (st : St), ops.toList.drop i = os →
    regK E c f bases dr ops os i (rankOf ops i) st k = (runL E c f bases dr ops (List.range' i os.length) st).bind k
  | [], i, st, _ => by simp [regK, runL]
  | o :: os, i, st, h => by
    have ho : ops[i]? = some o := by
      have : (ops.toList.drop i)[0]? = some o := by rw [h]; rfl
      rw [List.getElem?_drop] at this
      simpa using this
    rw [regK_cons, List.length_cons, List.range'_succ, ← rankOf_succ ops ho]
    have h1 : stepI E c f bases dr ops i st = stepO E c f bases dr ops i (rankOf ops i) o st := by
      simp [stepI, stepO, effI, dstI, ho]
    simp only [runL, h1]
    cases stepO E c f bases dr ops i (rankOf ops i) o st with
    | none => rfl
    | some s => exact regK_run k os (i + 1) s (by
        have : ops.toList.drop (i + 1) = (ops.toList.drop i).drop 1 := by rw [List.drop_drop]
        rw [this, h]; rfl)

def Comm (j i : Nat) : Prop := ∀ st s1 s2, stepI E c f bases dr ops j st = some s1 → stepI E c f bases dr ops i s1 = some s2 →
  ∃ s, stepI E c f bases dr ops i st = some s ∧ stepI E c f bases dr ops j s = some s2

theorem runL_front {i : Nat} {L2 : List Nat} {st' : St} : ∀ (L1 : List Nat) (st : St), (∀ j ∈ L1, Comm E c f bases dr ops j i) → runL E c f bases dr ops (L1 ++ i :: L2) st = some st' →
    runL E c f bases dr ops (i :: (L1 ++ L2)) st = some st'
  | [], st, _, h => h
  | j :: L1, st, hc, h => by
    simp only [List.cons_append, runL] at h
    cases h1 : stepI E c f bases dr ops j st with
    | none => rw [h1] at h; cases h
    | some s1 =>
      rw [h1] at h
      simp only [Option.bind_some] at h
      have h2 := runL_front L1 s1 (fun x hx => hc x (by simp [hx])) h
      simp only [runL] at h2
      cases h3 : stepI E c f bases dr ops i s1 with
      | none => rw [h3] at h2; cases h2
      | some s2 =>
        rw [h3] at h2
        simp only [Option.bind_some] at h2
        obtain ⟨s, k1, k2⟩ := hc j (by simp) st s1 s2 h1 h3
        simp only [List.cons_append, runL, k1, Option.bind_some, k2]
        exact h2

end

/-! ### Any order -/

/-- An operation waits for another one. -/
inductive Dep (ops : Array Oper) : Nat → Nat → Prop where
  | dir {i : Nat} {o : Oper} {e : Edge} (h : ops[i]? = some o) (he : e ∈ o.after) (hb : Region.binds .any e = true) : Dep ops i e.on
  | more {i j k : Nat} (h : Dep ops i j) (h' : Dep ops j k) : Dep ops i k

def Shut (ops : Array Oper) (listed : Array Bool) : Prop := ∀ i o e, ops[i]? = some o → listed.getD i false = true → e ∈ o.after → Region.binds .any e = true → listed.getD e.on false = true

theorem Dep.listed {ops : Array Oper} {listed : Array Bool} (hs : Shut ops listed) {i j : Nat} (h : Dep ops i j) (hi : ∀ o e, ops[i]? = some o → e ∈ o.after → Region.binds .any e = true → listed.getD e.on false = true) :
    listed.getD j false = true := by
  induction h with
  | dir h he hb => exact hi _ _ h he hb
  | more h h' ih ih' => exact ih' fun o e ho he hb => hs _ o e ho (ih hi) he hb

theorem list_split {L : List Nat} (hs : L.Pairwise (· < ·)) {i : Nat} (hi : i ∈ L) : ∃ L1 L2, L = L1 ++ i :: L2 ∧ (∀ j ∈ L1, j < i) ∧ L.filter (· != i) = L1 ++ L2 := by
  obtain ⟨L1, L2, rfl⟩ := List.append_of_mem hi
  have h := List.pairwise_append.1 hs
  have h2 := List.pairwise_cons.1 h.2.1
  refine ⟨L1, L2, rfl, fun j hj => h.2.2 j hj i (by simp), ?_⟩
  rw [List.filter_append, List.filter_cons]
  have e1 : L1.filter (· != i) = L1 := List.filter_eq_self.2 fun j hj => by
    have := h.2.2 j hj i (by simp)
    simp; omega
  have e2 : L2.filter (· != i) = L2 := List.filter_eq_self.2 fun j hj => by
    have := h2.1 j hj
    simp; omega
  rw [e1, e2]; simp

section
variable {E : Env} {P : Program} {c : Oracle} {f : Nat} {bases : List Nat} {ops : Array Oper}

theorem range_sorted (n : Nat) : (List.range n).Pairwise (· < ·) := by
  exact List.pairwise_lt_range

theorem draw_ok (hop : OpSound E P c) {d : Draw} {nt : Nat} {Q : Exit → Act → World → Prop} {st' : St}
    (hd : ∀ (i : Nat) o d, ops[i]? = some o → o.dst = some d → d < nt)
    (hback : ∀ (i : Nat) o e, ops[i]? = some o → e ∈ o.after → Region.binds .any e = true → e.on < i)
    (hcomm : ∀ j i, j < i → i < ops.size → Dep ops i j ∨ Comm E c f bases (some d) ops j i) :
    ∀ (fuel : Nat) (listed : Array Bool) (st : St) (g : Gh) (a : Act) (w : World), listed.size = ops.size → Shut ops listed →
      ((List.range ops.size).filter fun i => !listed.getD i true).length ≤ fuel →
      runL E c f bases (some d) ops ((List.range ops.size).filter fun i => !listed.getD i true) st = some st' → StOk E nt g st a w → Und bases st.hp → DrOk (some d) bases st.hp →
      (∀ a' w' g', StOk E nt g' st' a' w' → Ext d.n0 g w g' w' → st.hp.length ≤ st'.hp.length → Und bases st'.hp → Q .normal a' w') →
      wpAny P .any ops Q fuel listed a w := by
  -- none waits: none is left
  have hempty : ∀ (listed : Array Bool), listed.size = ops.size → Region.ready .any ops listed = [] → ((List.range ops.size).filter fun i => !listed.getD i true) = [] := by
    intro listed hsz hr
    rcases hL : ((List.range ops.size).filter fun i => !listed.getD i true) with _ | ⟨i, L⟩
    · rfl
    · exfalso
      have hsorted : (i :: L).Pairwise (· < ·) := by rw [← hL]; exact (range_sorted _).filter _
      have hi : i ∈ ((List.range ops.size).filter fun i => !listed.getD i true) := by rw [hL]; simp
      rw [List.mem_filter, List.mem_range] at hi
      have hmem : i ∈ Region.ready .any ops listed := by
        rw [mem_ready]
        refine ⟨by simpa using hi.2, ops[i]'hi.1, Array.getElem?_eq_getElem hi.1, fun e he hb => ?_⟩
        have hlt := hback i _ e (Array.getElem?_eq_getElem hi.1) he hb
        have hlt2 : e.on < listed.size := by omega
        rcases hx : listed.getD e.on false with _ | _
        · exfalso
          have : e.on ∈ ((List.range ops.size).filter fun i => !listed.getD i true) := by
            rw [List.mem_filter, List.mem_range]
            refine ⟨by omega, ?_⟩
            simp only [Array.getD, hlt2, dite_true] at hx ⊢
            simpa using hx
          rw [hL] at this
          rcases List.mem_cons.1 this with h | h
          · omega
          · have := (List.pairwise_cons.1 hsorted).1 _ h; omega
        · rfl
      rw [hr] at hmem; cases hmem
  intro fuel
  induction fuel with
  | zero =>
    intro listed st g a w hsz hsh hlen hrun S U D hQ
    have hL : ((List.range ops.size).filter fun i => !listed.getD i true) = [] := List.eq_nil_of_length_eq_zero (by omega)
    rw [hL] at hrun
    simp only [runL, Option.some.injEq] at hrun; subst hrun
    refine ⟨?_, hQ a w g S (Ext.refl _ _ _) (Nat.le_refl _) U⟩
    cases hr : Region.ready .any ops listed with
    | nil => rfl
    | cons i _ =>
      exfalso
      have hi : i ∈ Region.ready .any ops listed := by rw [hr]; simp
      obtain ⟨h0, o, ho, _⟩ := mem_ready.1 hi
      have : i ∈ ((List.range ops.size).filter fun i => !listed.getD i true) := by
        rw [List.mem_filter, List.mem_range]
        exact ⟨(Array.getElem?_eq_some_iff.1 ho).1, by rw [h0]; rfl⟩
      rw [hL] at this; cases this
  | succ fuel ih =>
    intro listed st g a w hsz hsh hlen hrun S U D hQ
    refine ⟨fun hr => ?_, fun i hi => ?_⟩
    · rw [hempty listed hsz hr] at hrun
      simp only [runL, Option.some.injEq] at hrun; subst hrun
      exact hQ a w g S (Ext.refl _ _ _) (Nat.le_refl _) U
    · obtain ⟨h0, o, ho, hall⟩ := mem_ready.1 hi
      have his : i < ops.size := (Array.getElem?_eq_some_iff.1 ho).1
      have hiL : i ∈ ((List.range ops.size).filter fun i => !listed.getD i true) := by
        rw [List.mem_filter, List.mem_range]; exact ⟨his, by rw [h0]; rfl⟩
      obtain ⟨L1, L2, hL, hlt, hrest⟩ := list_split ((range_sorted _).filter _) hiL
      rw [hL] at hrun
      have hrun' := runL_front E c f bases (some d) ops L1 st (fun j hj => by
        refine (hcomm j i (hlt j hj) his).resolve_left fun hdep => ?_
        have h1 := hdep.listed hsh (fun o' e ho' he hb => by rw [ho] at ho'; cases ho'; exact hall e he hb)
        have h2 : j ∈ ((List.range ops.size).filter fun i => !listed.getD i true) := by rw [hL]; simp [hj]
        rw [List.mem_filter] at h2
        have hjs : j < listed.size := by have := List.mem_range.1 h2.1; omega
        simp only [Array.getD, hjs, dite_true] at h1 h2
        rw [h1] at h2; simp at h2) hrun
      simp only [runL] at hrun'
      cases hs : stepI E c f bases (some d) ops i st with
      | none => rw [hs] at hrun'; cases hrun'
      | some s1 =>
        rw [hs] at hrun'
        simp only [Option.bind_some] at hrun'
        have h1 : stepO E c f bases (some d) ops i (rankOf ops i) o st = some s1 := by
          rw [← hs]; simp [stepI, stepO, effI, dstI, ho]
        refine stepO_ok hop ho (fun d h => hd i o d ho h) h1 S U D ?_
        intro a' w' g' S' X hl U'
        have hrest' : ((List.range ops.size).filter fun j => !(listed.setIfInBounds i true).getD j true) = L1 ++ L2 := by
          rw [← hrest, List.filter_filter]
          apply List.filter_congr
          intro j hj
          by_cases e : i = j
          · subst e; simp [hsz, his]
          · rw [getD_set_ne true e]
            have : (j != i) = true := by simp; omega
            simp [this]
        refine ih (listed.setIfInBounds i true) s1 g' a' w' (by simpa using hsz) ?_ ?_ ?_ S' U' (D.on hl) ?_
        · intro j o' e hj hlj he hb
          by_cases hij : i = j
          · subst hij; rw [ho] at hj; cases hj
            exact getD_set_true (hall e he hb)
          · rw [getD_set_ne false hij] at hlj
            exact getD_set_true (hsh j o' e hj hlj he hb)
        · rw [hrest']; rw [hL] at hlen; simp at hlen ⊢; omega
        · rw [hrest']; exact hrun'
        · intro a2 w2 g2 S2 X2 l2 U2
          exact hQ a2 w2 g2 S2 (X.trans X2 (Nat.le_refl _)) (Nat.le_trans hl l2) U2

end
end Go.Pu
