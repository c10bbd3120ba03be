/-
  The limit of the evaluators 'callN': an oracle of its own, which answers what some 'callN' answers; a function's body, run with it, tells what it answers.
-/
import Derived.Test.YtflehnedcjjdjaaGreatDoorPuA18
set_option linter.unusedSimpArgs false
set_option linter.unusedVariables false
namespace Go.Pu

def Ev {α : Type} (x : Nat → Option α) (r : α) : Prop := ∃ N, ∀ n, N ≤ n → x n = some r
def Appr {α : Type} (x : Nat → Option α) (y : Option α) : Prop := ∀ r, y = some r → Ev x r

theorem Ev.uniq {α : Type} {x : Nat → Option α} {r s : α} (h : Ev x r) (k : Ev x s) : r = s := by
  obtain ⟨N, h⟩ := h
  obtain ⟨M, k⟩ := k
  have := (h (max N M) (Nat.le_max_left _ _)).symm.trans (k (max N M) (Nat.le_max_right _ _))
  exact Option.some.inj this

noncomputable def lim {α : Type} (x : Nat → Option α) : Option α := open Classical in if h : ∃ r, Ev x r then some h.choose else none

theorem appr_lim {α : Type} (x : Nat → Option α) : Appr x (lim x) := by
  intro r hr
  unfold lim at hr
  split at hr
  · rename_i h; cases hr; exact h.choose_spec
  · cases hr

theorem lim_of {α : Type} {x : Nat → Option α} {r : α} (h : Ev x r) : lim x = some r := by
  unfold lim
  rw [dif_pos ⟨r, h⟩]
  congr 1
  exact Ev.uniq (Exists.choose_spec (⟨r, h⟩ : ∃ r, Ev x r)) h

theorem Appr.const {α : Type} (y : Option α) : Appr (fun _ => y) y := fun _ h => ⟨0, fun _ _ => h⟩
theorem Appr.none {α : Type} (x : Nat → Option α) : Appr x none := fun _ h => by cases h

theorem Appr.bind {α β : Type} {x : Nat → Option α} {y : Option α} {f : Nat → α → Option β} {g : α → Option β} (h : Appr x y) (k : ∀ r, Appr (fun n => f n r) (g r)) : Appr (fun n => (x n).bind (f n)) (y.bind g) := by
  intro r hr
  obtain ⟨a, ha, hg⟩ := Option.bind_eq_some_iff.1 hr
  obtain ⟨N, h1⟩ := h a ha
  obtain ⟨M, h2⟩ := k a r hg
  refine ⟨max N M, fun n hn => ?_⟩
  simp only [h1 n (Nat.le_trans (Nat.le_max_left _ _) hn), Option.bind_some]
  exact h2 n (Nat.le_trans (Nat.le_max_right _ _) hn)

theorem Appr.cond {α : Type} {b : Bool} {x x' : Nat → Option α} {y y' : Option α} (h : Appr x y) (k : Appr x' y') : Appr (fun n => cond b (x n) (x' n)) (cond b y y') := by
  cases b
  · exact k
  · exact h

/-- The evaluator without a bound. -/
noncomputable def lim0 (E : Env) : Oracle := ⟨fun f ps => lim fun n => (callN E n).pure f ps, fun bs f as H => lim fun n => (callN E n).shut bs f as H⟩

/-- What the oracle answers, the others come to answer. -/
structure OAppr (cn : Nat → Oracle) (c' : Oracle) : Prop where
  pure : ∀ f ps, Appr (fun n => (cn n).pure f ps) (c'.pure f ps)
  shut : ∀ bs f as H, Appr (fun n => (cn n).shut bs f as H) (c'.shut bs f as H)
theorem lim0_appr (E : Env) : OAppr (callN E) (lim0 E) := ⟨fun _ _ => appr_lim _, fun _ _ _ _ => appr_lim _⟩

section
variable {E : Env} {cn : Nat → Oracle} {c' : Oracle}

theorem callO_appr (A : OAppr cn c') (bases : List Nat) (f g : Nat) (as : List AV) (H : Hp) : Appr (fun n => callO E (cn n) bases f g as H) (callO E c' bases f g as H) := by
  unfold callO
  cases E.ext g with
  | some n => exact Appr.const _
  | none =>
    simp only
    cases E.cls (E.redir f g) with
    | pure =>
      simp only
      cases E.fn (E.redir f g) with
      | none => exact Appr.const _
      | some fn =>
        simp only
        exact Appr.bind (Appr.const _) fun ps => Appr.bind (A.pure _ _) fun r => Appr.const _
    | shut => exact A.shut _ _ _ _
    | wide => exact A.shut _ _ _ _

theorem invokeO_appr (A : OAppr cn c') (bases : List Nat) (f : Nat) (v : AV) (m : String) (as : List AV) (H : Hp) : Appr (fun n => invokeO E (cn n) bases f v m as H) (invokeO E c' bases f v m as H) := by
  unfold invokeO
  split
  · exact Appr.bind (Appr.const _) fun g => callO_appr A _ _ _ _ _
  · exact Appr.bind (Appr.const _) fun g => callO_appr A _ _ _ _ _
  · exact Appr.const _

theorem calleeO_appr (A : OAppr cn c') (bases : List Nat) (f : Nat) (v : AV) (as : List AV) (H : Hp) : Appr (fun n => calleeO E (cn n) bases f v as H) (calleeO E c' bases f v as H) := by
  unfold calleeO
  split
  · exact callO_appr A _ _ _ _ _
  · exact callO_appr A _ _ _ _ _
  · exact invokeO_appr A _ _ _ _ _ _
  · exact Appr.const _

theorem opO_appr (A : OAppr cn c') (f : Nat) (bases : List Nat) (dr : Option Draw) (i rank : Nat) (o : Oper) (st : St) : Appr (fun n => opO E (cn n) f bases dr i rank o st) (opO E c' f bases dr i rank o st) := by
  unfold opO
  cases o.op
  case call k =>
    simp only
    split
    · exact calleeO_appr A _ _ _ _ _
    · exact invokeO_appr A _ _ _ _ _ _
    · exact Appr.const _
  case makeMap t r => cases r <;> exact Appr.const _
  all_goals exact Appr.const _

theorem regK_appr (A : OAppr cn c') {R : Type} (f : Nat) (bases : List Nat) (dr : Option Draw) (ops : Array Oper) {k : Nat → St → Option R} {k' : St → Option R} (hk : ∀ st, Appr (fun n => k n st) (k' st)) : ∀ (os : List Oper) (i rank : Nat) (st : St),
    Appr (fun n => regK E (cn n) f bases dr ops os i rank st (k n)) (regK E c' f bases dr ops os i rank st k')
  | [], _, _, st => by simpa only [regK] using hk st
  | o :: os, i, rank, st => by
    unfold regK
    have ih := fun i rank st => regK_appr A f bases dr ops hk os i rank st
    cases o.guard with
    | none =>
      simp only
      exact Appr.bind (opO_appr A _ _ _ _ _ _ _) fun r => ih _ _ _
    | some jw =>
      obtain ⟨j, want⟩ := jw
      simp only
      cases (ops[j]?).bind (·.dst) with
      | none => exact Appr.const _
      | some d =>
        simp only
        split
        · exact Appr.cond (Appr.cond (Appr.bind (opO_appr A _ _ _ _ _ _ _) fun r => ih _ _ _) (ih _ _ _)) (Appr.cond (ih _ _ _) (Appr.bind (opO_appr A _ _ _ _ _ _ _) fun r => ih _ _ _))
        · exact ih _ _ _
        · exact Appr.const _

theorem loop_appr {R : Type} {body : Nat → List AV → Hp → (Ex → List AV → St → Option R) → Option R} {body' : List AV → Hp → (Ex → List AV → St → Option R) → Option R}
    (hb : ∀ vs H (K : Nat → Ex → List AV → St → Option R) (K' : Ex → List AV → St → Option R), (∀ e vs st, Appr (fun n => K n e vs st) (K' e vs st)) → Appr (fun n => body n vs H (K n)) (body' vs H K'))
    {k : Nat → Ex → St → Option R} {k' : Ex → St → Option R} (hk : ∀ e st, Appr (fun n => k n e st) (k' e st)) :
    ∀ (m j : Nat) (vs : List AV) (H : Hp), Appr (fun n => loopN (n - j) (body n) vs H (k n)) (loopN m body' vs H k')
  | 0, _, _, _ => by simp only [loopN]; exact Appr.none _
  | m + 1, j, vs, H => by
    have ih := loop_appr hb hk m (j + 1)
    have h := hb vs H (fun n e vs st => match e with | .nrm => loopN (n - (j + 1)) (body n) vs st.hp (k n) | e => k n e st) (fun e vs st => match e with | .nrm => loopN m body' vs st.hp k' | e => k' e st)
      (fun e vs st => by
        cases e with
        | nrm => exact ih vs st.hp
        | ext i => exact hk (.ext i) st
        | ret => exact hk .ret st)
    intro r hr
    simp only [loopN] at hr
    obtain ⟨N, h⟩ := h r hr
    refine ⟨max N (j + 1), fun n hn => ?_⟩
    have h1 : j + 1 ≤ n := Nat.le_trans (Nat.le_max_right _ _) hn
    have h2 := h n (Nat.le_trans (Nat.le_max_left _ _) hn)
    show loopN (n - j) (body n) vs H (k n) = some r
    rw [show n - j = (n - (j + 1)) + 1 by omega]
    refine Eq.trans ?_ h2
    simp only [loopN]
    exact congrArg (body n vs H) (funext fun e => funext fun vs => funext fun st => by cases e <;> rfl)

theorem execK_appr (A : OAppr cn c') {R : Type} (q : R → R → Bool) (m f depth : Nat) : ∀ (code : Code) (bases : List Nat) (cur : Nat) (st : St) {k : Nat → Ex → St → Option R} {k' : Ex → St → Option R}, (∀ e st, Appr (fun n => k n e st) (k' e st)) →
    Appr (fun n => execK E (cn n) (loopN n) q f depth code bases cur st (k n)) (execK E c' (loopN m) q f depth code bases cur st k') := by
  intro code
  induction code with
  | skip => intro bases cur st k k' hk; simpa only [execK] using hk .nrm st
  | region id ops dr =>
    intro bases cur st k k' hk
    simp only [execK]
    exact Appr.cond (regK_appr A _ _ _ _ (fun st => hk .nrm st) _ _ _ _) (regK_appr A _ _ _ _ (fun st => hk .nrm st) _ _ _ _)
  | seq a b iha ihb =>
    intro bases cur st k k' hk
    simp only [execK]
    refine iha bases cur st fun e st => ?_
    cases e with
    | nrm => exact ihb bases cur st hk
    | ext i => exact hk (.ext i) st
    | ret => exact hk .ret st
  | cond x a b iha ihb =>
    intro bases cur st k k' hk
    simp only [execK]
    split
    · exact Appr.cond (iha _ _ _ hk) (ihb _ _ _ hk)
    · exact Appr.bind (iha _ _ _ hk) fun r => Appr.bind (ihb _ _ _ hk) fun s => Appr.const _
    · exact Appr.const _
  | block id a ih =>
    intro bases cur st k k' hk
    simp only [execK]
    refine ih bases id st fun e st => ?_
    cases e with
    | nrm => exact hk .nrm st
    | ext i => exact Appr.cond (hk .nrm st) (hk (.ext i) st)
    | ret => exact hk .ret st
  | loop a ih =>
    intro bases cur st k k' hk
    simp only [execK]
    refine Appr.cond ?_ (Appr.const _)
    refine loop_appr (j := 0) (fun vs H K K' hK => ?_) hk m _ _
    refine ih _ _ _ fun e st' => ?_
    cases e with
    | nrm => exact Appr.cond (hK _ _ _) (Appr.const _)
    | ext i => exact hK _ _ _
    | ret => exact hK _ _ _
  | exit id => intro bases cur st k k' hk; simpa only [execK] using hk _ st
  | ret => intro bases cur st k k' hk; simpa only [execK] using hk .ret st
  | label l => intro bases cur st k k' hk; simpa only [execK] using hk .nrm st
  | scope a ih => intro bases cur st k k' hk; simpa only [execK] using ih bases cur st hk
  | _ => intro bases cur st k k' hk; simp only [execK]; exact Appr.none _

theorem bodyK_appr (A : OAppr cn c') {R : Type} (q : R → R → Bool) (m f : Nat) (fn : Func) (bases : List Nat) (as : List AV) (H : Hp) (fin : List AV → Hp → Option R) :
    Appr (fun n => bodyK E (cn n) (loopN n) q f fn bases as H fin) (bodyK E c' (loopN m) q f fn bases as H fin) := by
  unfold bodyK
  split
  · exact Appr.const _
  · refine execK_appr A q m f _ _ _ _ _ fun e st => ?_
    exact Appr.const _

theorem ev_succ {α : Type} {x : Nat → Option α} {y : Nat → Option α} (h : ∀ n, y (n + 1) = x n) {r : α} (k : Ev x r) : Ev y r := by
  obtain ⟨N, k⟩ := k
  refine ⟨N + 1, fun n hn => ?_⟩
  obtain ⟨n, rfl⟩ : ∃ i, n = i + 1 := ⟨n - 1, by omega⟩
  rw [h]
  exact k n (by omega)

/-- What a function's body answers, run with the limit, the limit answers. -/
theorem pure_of (m : Nat) {f : Nat} {ps : List PV} {r : PV} (h : pureK E (lim0 E) (loopN m) f ps = some r) : (lim0 E).pure f ps = some r := by
  refine lim_of (ev_succ (x := fun n => pureK E (callN E n) (loopN n) f ps) (fun n => rfl) ?_)
  have : Appr (fun n => pureK E (callN E n) (loopN n) f ps) (pureK E (lim0 E) (loopN m) f ps) := by
    unfold pureK
    split
    · exact Appr.const _
    · exact bodyK_appr (lim0_appr E) _ _ _ _ _ _ _ _
  exact this r h

theorem shut_of (m : Nat) {bases : List Nat} {f : Nat} {as : List AV} {H : Hp} {r : AV × Hp} (h : shutK E (lim0 E) (loopN m) bases f as H = some r) : (lim0 E).shut bases f as H = some r := by
  refine lim_of (ev_succ (x := fun n => shutK E (callN E n) (loopN n) bases f as H) (fun n => rfl) ?_)
  have : Appr (fun n => shutK E (callN E n) (loopN n) bases f as H) (shutK E (lim0 E) (loopN m) bases f as H) := by
    unfold shutK
    split
    · exact Appr.const _
    · split
      · exact bodyK_appr (lim0_appr E) _ _ _ _ _ _ _ _
      · exact bodyK_appr (lim0_appr E) _ _ _ _ _ _ _ _
  exact this r h

/-- A call that is not told yet may be run in its place. -/
theorem shut_in {R : Type} (m : Nat) {bases : List Nat} {f : Nat} {as : List AV} {H : Hp} {k : AV × Hp → Option R} {r : R} (h : (shutK E (lim0 E) (loopN m) bases f as H).bind k = some r) : ((lim0 E).shut bases f as H).bind k = some r := by
  obtain ⟨a, h1, h2⟩ := Option.bind_eq_some_iff.1 h
  rw [shut_of m h1]; exact h2

theorem pure_in {R : Type} (m : Nat) {f : Nat} {ps : List PV} {k : PV → Option R} {r : R} (h : (pureK E (lim0 E) (loopN m) f ps).bind k = some r) : ((lim0 E).pure f ps).bind k = some r := by
  obtain ⟨a, h1, h2⟩ := Option.bind_eq_some_iff.1 h
  rw [pure_of m h1]; exact h2

/-- An oracle that answers nothing but what the limit answers. -/
structure OLe (E : Env) (c : Oracle) : Prop where
  pure : ∀ f ps r, c.pure f ps = some r → (lim0 E).pure f ps = some r
  shut : ∀ bs f as H r, c.shut bs f as H = some r → (lim0 E).shut bs f as H = some r

theorem pure_by {c : Oracle} (h : OLe E c) (m : Nat) {f : Nat} {ps : List PV} {r : PV} (k : pureK E c (loopN m) f ps = some r) : (lim0 E).pure f ps = some r := by
  have A : OAppr (fun _ => lim0 E) c := ⟨fun f ps r e => ⟨0, fun _ _ => h.pure f ps r e⟩, fun bs f as H r e => ⟨0, fun _ _ => h.shut bs f as H r e⟩⟩
  have : Appr (fun n => pureK E (lim0 E) (loopN n) f ps) (pureK E c (loopN m) f ps) := by
    unfold pureK
    split
    · exact Appr.const _
    · exact bodyK_appr A _ _ _ _ _ _ _ _
  obtain ⟨N, h⟩ := this r k
  exact pure_of N (h N (Nat.le_refl _))

theorem shut_by {c : Oracle} (h : OLe E c) (m : Nat) {bs : List Nat} {f : Nat} {as : List AV} {H : Hp} {r : AV × Hp} (k : shutK E c (loopN m) bs f as H = some r) : (lim0 E).shut bs f as H = some r := by
  have A : OAppr (fun _ => lim0 E) c := ⟨fun f ps r e => ⟨0, fun _ _ => h.pure f ps r e⟩, fun bs f as H r e => ⟨0, fun _ _ => h.shut bs f as H r e⟩⟩
  have : Appr (fun i => shutK E (lim0 E) (loopN i) bs f as H) (shutK E c (loopN m) bs f as H) := by
    unfold shutK
    split
    · exact Appr.const _
    · split
      · exact bodyK_appr A _ _ _ _ _ _ _ _
      · exact bodyK_appr A _ _ _ _ _ _ _ _
  obtain ⟨N, h⟩ := this r k
  exact shut_of N (h N (Nat.le_refl _))

/-- An entry of a table: a function, its arguments, its answer. -/
abbrev Ent := Nat × List PV × PV

def findE (T : List Ent) (f : Nat) (ps : List PV) : Option PV := match T with
  | [] => none
  | x :: T => cond (Nat.beq x.1 f && PV.sames x.2.1 ps) (some x.2.2) (findE T f ps)

/-- As 'callN', with a table of answers that are known. -/
def tabN (E : Env) (T : List Ent) : Nat → Oracle
  | 0 => ⟨findE T, fun _ _ _ _ => none⟩
  | n + 1 => ⟨fun f ps => match findE T f ps with
    | some r => some r
    | none => pureK E (tabN E T n) (loopN n) f ps, shutK E (tabN E T n) (loopN n)⟩

def TabOk (E : Env) (T : List Ent) : Prop := ∀ x ∈ T, (lim0 E).pure x.1 x.2.1 = some x.2.2

theorem findE_ok {T : List Ent} (h : TabOk E T) {f : Nat} {ps : List PV} {r : PV} (k : findE T f ps = some r) : (lim0 E).pure f ps = some r := by
  induction T with
  | nil => simp [findE] at k
  | cons x T ih =>
    simp only [findE] at k
    cases hb : (Nat.beq x.1 f && PV.sames x.2.1 ps) with
    | true =>
      rw [hb] at k
      simp only [cond_true, Option.some.injEq] at k
      simp only [Bool.and_eq_true] at hb
      have h1 := Nat.eq_of_beq_eq_true hb.1
      have h2 := PV.sames_ok _ _ hb.2
      have := h x (by simp)
      rw [h1, h2, k] at this
      exact this
    | false =>
      rw [hb] at k
      exact ih (fun y hy => h y (by simp [hy])) k

theorem tabN_le {T : List Ent} (h : TabOk E T) (n : Nat) : OLe E (tabN E T n) := by
  induction n with
  | zero => exact ⟨fun f ps r k => findE_ok h k, fun bs f as H r k => by simp [tabN] at k⟩
  | succ n ih =>
    refine ⟨fun f ps r k => ?_, fun bs f as H r k => shut_by ih n (by simpa only [tabN] using k)⟩
    simp only [tabN] at k
    split at k
    · rename_i r' e
      cases k
      exact findE_ok h e
    · exact pure_by ih n k

theorem pure_tab {T : List Ent} (h : TabOk E T) (n : Nat) {f : Nat} {ps : List PV} {r : PV} (k : pureK E (tabN E T n) (loopN n) f ps = some r) : (lim0 E).pure f ps = some r := pure_by (tabN_le h n) n k

theorem tab_nil : TabOk E [] := fun _ h => by simp at h
theorem tab_cons {T : List Ent} {f : Nat} {ps : List PV} {r : PV} (h : (lim0 E).pure f ps = some r) (k : TabOk E T) : TabOk E ((f, ps, r) :: T) := by
  intro x hx
  rcases List.mem_cons.1 hx with rfl | hx
  · exact h
  · exact k x hx

theorem callN_le (n : Nat) : OLe E (callN E n) := by
  induction n with
  | zero => exact ⟨fun f ps r h => by simp [callN] at h, fun bs f as H r h => by simp [callN] at h⟩
  | succ n ih => exact ⟨fun f ps r h => pure_by ih n (by simpa only [callN] using h), fun bs f as H r h => shut_by ih n (by simpa only [callN] using h)⟩

theorem callN_of {f : Nat} {ps : List PV} {r : PV} (h : (lim0 E).pure f ps = some r) : ∃ n, (callN E n).pure f ps = some r := by
  obtain ⟨N, h⟩ := appr_lim _ r h
  exact ⟨N, h N (Nat.le_refl _)⟩

end
end Go.Pu
