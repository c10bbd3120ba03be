/-
  The check of a region whose order is open.
-/
import Derived.Test.YtflehnedcjjdjaaGreatDoorPuA12
set_option linter.unusedSimpArgs false
set_option linter.unusedVariables false
namespace Go.Pu

section
variable {E : Env} {c : Oracle} {f : Nat} {bases : List Nat} {dr : Option Draw} {ops : Array Oper}

theorem stepI_of {i : Nat} {o : Oper} (h : ops[i]? = some o) (st : St) : stepI E c f bases dr ops i st = (effO E c f bases dr ops i (rankOf ops i) o st.fr st.hp).map (putO st o.dst) := by
  simp [stepI, effI, dstI, h]

theorem put_get {fr : Fr} {H : Hp} {dst : Option Nat} {r : AV × Hp} {t : Nat} (h : dst ≠ some t) : (putO ⟨fr, H⟩ dst r).fr.get t = fr.get t := by
  cases dst with
  | none => rfl
  | some d => exact Fr.get_set fr d t r.1 (by rintro rfl; exact h rfl)

theorem put_hp {st : St} {dst : Option Nat} {r : AV × Hp} : (putO st dst r).hp = r.2 := by cases dst <;> rfl

theorem put_put {fr : Fr} {H H' : Hp} {d e : Option Nat} {r u r' u' : AV × Hp} (h : ∀ x, d = some x → e ≠ some x) (h1 : r.1 = r'.1) (h2 : u.1 = u'.1) (h3 : u.2 = r'.2) :
    putO (putO ⟨fr, H⟩ d r) e u = putO (putO ⟨fr, H'⟩ e u') d r' := by
  cases d with
  | none => cases e with
    | none => simp [putO, h3]
    | some e => simp [putO, h2, h3]
  | some d => cases e with
    | none => simp [putO, h1, h3]
    | some e =>
      simp only [putO, h1, h2, h3]
      rw [Fr.set_comm fr d e _ _ (by rintro rfl; exact h d rfl rfl)]

theorem comm_rd_ef {j i : Nat} {oj oi : Oper} (hj : ops[j]? = some oj) (hi : ops[i]? = some oi) (hap : oj.apart ops oi = true) {S S1 S2 : Nat → Prop}
    (hr : IsR S (effO E c f bases dr ops j (rankOf ops j) oj)) (he : IsE S1 S2 (effO E c f bases dr ops i (rankOf ops i) oi)) (hS : ∀ b, S b → S1 b) : Comm E c f bases dr ops j i := by
  obtain ⟨a1, a2, a3⟩ := Oper.apart_spec hap
  rintro ⟨fr, H⟩ s1 s2 h1 h2
  rw [stepI_of hj] at h1
  obtain ⟨⟨v, H1⟩, e1, rfl⟩ := Option.map_eq_some_iff.1 h1
  rw [stepI_of hi] at h2
  obtain ⟨⟨u, H2⟩, e2, rfl⟩ := Option.map_eq_some_iff.1 h2
  obtain ⟨rfl, hk⟩ := hr _ _ _ _ e1
  rw [put_hp] at e2
  rw [effO_congr (fr' := fr) fun d hd => put_get fun e => a1 d e hd] at e2
  have e3 := hk H2 ((he _ _ _ _ e2).1.mono hS)
  refine ⟨putO ⟨fr, H1⟩ oi.dst (u, H2), by rw [stepI_of hi, e2]; rfl, ?_⟩
  rw [stepI_of hj, put_hp, effO_congr (fr' := fr) fun d hd => put_get fun e => a3 d e hd, e3]
  simp only [Option.map_some, Option.some.injEq]
  exact (put_put a2 (by rfl) (by rfl) (by rfl)).symm

theorem comm_ef_rd {j i : Nat} {oj oi : Oper} (hj : ops[j]? = some oj) (hi : ops[i]? = some oi) (hap : oj.apart ops oi = true) {S S1 S2 : Nat → Prop}
    (he : IsE S1 S2 (effO E c f bases dr ops j (rankOf ops j) oj)) (hr : IsR S (effO E c f bases dr ops i (rankOf ops i) oi)) (hS : ∀ b, S b → S2 b) : Comm E c f bases dr ops j i := by
  obtain ⟨a1, a2, a3⟩ := Oper.apart_spec hap
  rintro ⟨fr, H⟩ s1 s2 h1 h2
  rw [stepI_of hj] at h1
  obtain ⟨⟨v, H1⟩, e1, rfl⟩ := Option.map_eq_some_iff.1 h1
  rw [stepI_of hi] at h2
  obtain ⟨⟨u, H2⟩, e2, rfl⟩ := Option.map_eq_some_iff.1 h2
  rw [put_hp] at e2
  rw [effO_congr (fr' := fr) fun d hd => put_get fun e => a1 d e hd] at e2
  obtain ⟨rfl, hk⟩ := hr _ _ _ _ e2
  simp only at hk
  have e3 := hk H ((he _ _ _ _ e1).2.mono hS)
  refine ⟨putO ⟨fr, H⟩ oi.dst (u, H), by rw [stepI_of hi, e3]; rfl, ?_⟩
  rw [stepI_of hj, put_hp, effO_congr (fr' := fr) fun d hd => put_get fun e => a3 d e hd, e1]
  simp only [Option.map_some, Option.some.injEq]
  exact (put_put a2 (by rfl) (by rfl) (by rfl)).symm

/-- A new variable in a region whose order is open. -/
theorem new_eff {d : Draw} {i rank : Nat} {o : Oper} (hk : kindO E f d.flags i o = .a) {fr : Fr} {H H1 : Hp} {v : AV} (e : effO E c f bases (some d) ops i rank o fr H = some (v, H1)) :
    (H1 = H ∧ ∀ H', effO E c f bases (some d) ops i rank o fr H' = some (v, H')) ∨
    (isNew o.op = true ∧ ∃ k, H[d.n0 + rank]? = some .dead ∧ H1 = H.set (d.n0 + rank) k ∧ ∀ H' : Hp, H'[d.n0 + rank]? = some .dead → effO E c f bases (some d) ops i rank o fr H' = some (v, H'.set (d.n0 + rank) k)) := by
  have newD_ef : ∀ (mint : List Nat) (cs : List AV), newD (some d) rank mint cs H = some (v, H1) → ∃ k, H[d.n0 + rank]? = some .dead ∧ H1 = H.set (d.n0 + rank) k ∧ ∀ H' : Hp, H'[d.n0 + rank]? = some .dead → newD (some d) rank mint cs H' = some (v, H'.set (d.n0 + rank) k) := by
    intro mint cs e
    unfold newD at e
    simp only at e
    split at e
    · rename_i hb
      simp only [Option.some.injEq, Prod.mk.injEq] at e
      obtain ⟨rfl, rfl⟩ := e
      exact ⟨_, hb, rfl, fun H' h' => by simp only [newD, h']⟩
    · cases e
  unfold effO at e ⊢
  cases hg : guardO ops o fr with
  | none => rw [hg] at e; cases e
  | some b =>
    rw [hg] at e
    cases b
    · simp only [Option.some.injEq, Prod.mk.injEq] at e
      obtain ⟨rfl, rfl⟩ := e
      exact .inl ⟨rfl, fun _ => rfl⟩
    · right
      simp only at e ⊢
      obtain ⟨dst, op, type, pos, after, guard⟩ := o
      cases op <;> simp only [kindO] at hk <;> try (cases hk; done)
      case alloc t =>
        simp only [opO] at e ⊢
        cases hc : ((E.ty t).ok && Nat.beq (E.ty t).zero.length (E.ty t).size) <;> rw [hc] at e
        · cases e
        · exact ⟨rfl, newD_ef _ _ e⟩
      case box t x =>
        simp only [opO] at e ⊢
        cases hc : ((E.ty t).ok && (evalO E fr x).known && Nat.beq (evalO E fr x).cells.length (E.ty t).size) <;> rw [hc] at e
        · cases e
        · exact ⟨rfl, newD_ef _ _ e⟩
      case convert s t x => cases ht : (E.ty t).kd <;> rw [ht] at hk <;> cases hk
      case load t x => cases hf : d.flags.contains i <;> rw [hf] at hk <;> cases hk
      case store t a x => cases hf : d.flags.contains i <;> rw [hf] at hk <;> cases hk
      case call k =>
        split at hk <;> try (cases hk; done)
        rename_i g _
        cases he : (E.ext g).isSome <;> rw [he] at hk
        · cases hcl : E.cls (E.redir f g) <;> rw [hcl] at hk <;> cases hk
        · cases hk

theorem rank_lt {j i : Nat} {oj : Oper} (hj : ops[j]? = some oj) (hn : isNew oj.op = true) (h : j < i) : rankOf ops j < rankOf ops i := by
  have h1 := rankOf_succ ops hj
  rw [hn] at h1
  simp only [cond_true] at h1
  have h2 : rankOf ops (j + 1) ≤ rankOf ops i := by
    unfold rankOf
    exact List.Sublist.countP_le (List.take_sublist_take_left h)
  omega

theorem comm_new {d : Draw} {j i : Nat} {oj oi : Oper} (hji : j < i) (hj : ops[j]? = some oj) (hi : ops[i]? = some oi) (hap : oj.apart ops oi = true) (kj : kindO E f d.flags j oj = .a) (ki : kindO E f d.flags i oi = .a) :
    Comm E c f bases (some d) ops j i := by
  obtain ⟨a1, a2, a3⟩ := Oper.apart_spec hap
  rintro ⟨fr, H⟩ s1 s2 h1 h2
  rw [stepI_of hj] at h1
  obtain ⟨⟨v, H1⟩, e1, rfl⟩ := Option.map_eq_some_iff.1 h1
  rw [stepI_of hi] at h2
  obtain ⟨⟨u, H2⟩, e2, rfl⟩ := Option.map_eq_some_iff.1 h2
  rw [put_hp] at e2
  rw [effO_congr (fr' := fr) fun d hd => put_get fun e => a1 d e hd] at e2
  have fin : ∀ H3, effO E c f bases (some d) ops i (rankOf ops i) oi fr H = some (u, H3) → effO E c f bases (some d) ops j (rankOf ops j) oj fr H3 = some (v, H2) →
      ∃ s, stepI E c f bases (some d) ops i ⟨fr, H⟩ = some s ∧ stepI E c f bases (some d) ops j s = some (putO (putO ⟨fr, H⟩ oj.dst (v, H1)) oi.dst (u, H2)) := by
    intro H3 k1 k2
    refine ⟨putO ⟨fr, H⟩ oi.dst (u, H3), by rw [stepI_of hi, k1]; rfl, ?_⟩
    rw [stepI_of hj, put_hp, effO_congr (fr' := fr) fun d hd => put_get fun e => a3 d e hd, k2]
    simp only [Option.map_some, Option.some.injEq]
    exact (put_put a2 (by rfl) (by rfl) (by rfl)).symm
  simp only at e1 e2
  rcases new_eff kj e1 with ⟨rfl, f1⟩ | ⟨hn, k1, d1, rfl, f1⟩
  · exact fin H2 e2 (f1 H2)
  · rcases new_eff ki e2 with ⟨rfl, f2⟩ | ⟨_, k2, d2, rfl, f2⟩
    · exact fin H (f2 H) (f1 H d1)
    · have hne : d.n0 + rankOf ops j ≠ d.n0 + rankOf ops i := by have := rank_lt hj hn hji; omega
      rw [List.getElem?_set_ne hne] at d2
      refine fin _ (f2 H d2) ?_
      rw [f1 _ (by rw [List.getElem?_set_ne (Ne.symm hne)]; exact d1), List.set_comm _ _ (Ne.symm hne)]

def pairK : KO → KO → Bool
  | .p, _ | _, .p => true
  | .r, .r | .r, .ro | .ro, .r | .ro, .ro => true
  | .r, .a | .ro, .a | .a, .ro => true
  | .ro, .w | .w, .ro => true
  | .r, .t | .ro, .t | .t, .r | .t, .ro => true
  | .a, .a => true
  | _, _ => false

theorem pairK_ok {d : Draw} {j i : Nat} {oj oi : Oper} (hji : j < i) (hj : ops[j]? = some oj) (hi : ops[i]? = some oi) (hap : oj.apart ops oi = true)
    (h : pairK (kindO E f d.flags j oj) (kindO E f d.flags i oi) = true) : Comm E c f bases (some d) ops j i := by
  have A : ∀ S, rdSet d (kindO E f d.flags j oj) = some S → (∀ b, S b → (efSet d (kindO E f d.flags i oi)).1 b) → Comm E c f bases (some d) ops j i := fun S h1 h2 =>
    comm_rd_ef hj hi hap (kind_rd h1).guard kind_ef.guard h2
  have B : ∀ S, rdSet d (kindO E f d.flags i oi) = some S → (∀ b, S b → (efSet d (kindO E f d.flags j oj)).2 b) → Comm E c f bases (some d) ops j i := fun S h1 h2 =>
    comm_ef_rd hj hi hap kind_ef.guard (kind_rd h1).guard h2
  cases kj : kindO E f d.flags j oj <;> cases ki : kindO E f d.flags i oi <;> rw [kj, ki] at h <;> first
    | (cases h; done)
    | exact comm_new hji hj hi hap kj ki
    | exact A _ (by rw [kj]; rfl) (by rw [ki]; first | exact fun _ h => h | exact fun _ _ => trivial | exact fun _ h => h.elim)
    | exact B _ (by rw [ki]; rfl) (by rw [kj]; first | exact fun _ h => h | exact fun _ _ => trivial | exact fun _ h => h.elim)

/-! ### Which waits for which -/

def maskOf (acc : List Nat) : List Edge → Nat
  | [] => 0
  | e :: es => cond (Region.binds .any e) (2 ^ e.on ||| acc.getD e.on 0 ||| maskOf acc es) (maskOf acc es)

def masks : List Oper → List Nat → List Nat
  | [], acc => acc
  | o :: os, acc => masks os (acc ++ [maskOf acc o.after.toList])

theorem maskOf_ok {acc : List Nat} {i : Nat} {o : Oper} (ho : ops[i]? = some o) (hacc : ∀ k m j, acc[k]? = some m → m.testBit j = true → Dep ops k j) : ∀ (es : List Edge), (∀ e ∈ es, e ∈ o.after) →
    ∀ j, (maskOf acc es).testBit j = true → Dep ops i j
  | [], _, j, h => by simp [maskOf] at h
  | e :: es, hes, j, h => by
    simp only [maskOf] at h
    cases hb : Region.binds .any e with
    | false => rw [hb] at h; exact maskOf_ok ho hacc es (fun x hx => hes x (by simp [hx])) j h
    | true =>
      rw [hb] at h
      simp only [cond_true, Nat.testBit_or, Bool.or_eq_true] at h
      have hd : Dep ops i e.on := .dir ho (hes e (by simp)) hb
      rcases h with (h | h) | h
      · rw [Nat.testBit_two_pow] at h
        have : e.on = j := by simpa using h
        rw [← this]; exact hd
      · refine .more hd ?_
        rw [List.getD_eq_getElem?_getD] at h
        cases hm : acc[e.on]? with
        | none => rw [hm] at h; simp at h
        | some m => rw [hm] at h; exact hacc _ m j hm h
      · exact maskOf_ok ho hacc es (fun x hx => hes x (by simp [hx])) j h

theorem masks_ok : ∀ (os : List Oper) (acc : List Nat), ops.toList.drop acc.length = os → (∀ k m j, acc[k]? = some m → m.testBit j = true → Dep ops k j) →
    ∀ k m j, (masks os acc)[k]? = some m → m.testBit j = true → Dep ops k j
  | [], acc, _, h => h
  | o :: os, acc, hos, h => by
    simp only [masks]
    have ho : ops[acc.length]? = some o := by
      have : (ops.toList.drop acc.length)[0]? = some o := by rw [hos]; rfl
      rw [List.getElem?_drop] at this
      simpa using this
    refine masks_ok os _ (by
      have : ops.toList.drop (acc.length + 1) = (ops.toList.drop acc.length).drop 1 := by rw [List.drop_drop]
      simp only [List.length_append, List.length_cons, List.length_nil]
      rw [this, hos]; rfl) ?_
    intro k m j hk hj
    rcases Nat.lt_trichotomy k acc.length with h1 | h1 | h1
    · rw [List.getElem?_append_left h1] at hk; exact h k m j hk hj
    · subst h1
      rw [List.getElem?_append_right (Nat.le_refl _)] at hk
      simp only [Nat.sub_self, List.getElem?_cons_zero, Option.some.injEq] at hk
      subst hk
      exact maskOf_ok ho h _ (fun e he => by simpa using he) j hj
    · rw [List.getElem?_eq_none (by simp; omega)] at hk; cases hk

def dstOk (nt : Nat) (os : List Oper) : Bool := os.all fun o => match o.dst with | some d => Nat.blt d nt | none => true

/-- The pairs of one operation with those before it. -/
def pairsOk (E : Env) (f : Nat) (fl : List Nat) (ops : Array Oper) (oi : Oper) (ki : KO) (mask : Nat) : List Oper → Nat → Bool
  | [], _ => true
  | oj :: os, j => (Nat.testBit mask j || (pairK (kindO E f fl j oj) ki && oj.apart ops oi)) && pairsOk E f fl ops oi ki mask os (j + 1)

def drawAll (E : Env) (f : Nat) (fl : List Nat) (ops : Array Oper) (ms : List Nat) : List Oper → Nat → Bool
  | [], _ => true
  | o :: os, i => (o.after.toList.all fun e => !Region.binds .any e || Nat.blt e.on i) && pairsOk E f fl ops o (kindO E f fl i o) (ms.getD i 0) (ops.toList.take i) 0 && drawAll E f fl ops ms os (i + 1)

def drawOk (E : Env) (f id : Nat) (ops : Array Oper) : Bool := drawAll E f (E.flag f id).1 ops (masks ops.toList []) ops.toList 0

theorem pairsOk_ok {fl : List Nat} {oi : Oper} {ki : KO} {mask : Nat} : ∀ (os : List Oper) (k : Nat), pairsOk E f fl ops oi ki mask os k = true → ∀ (j : Nat) oj, os[j]? = some oj →
    mask.testBit (k + j) = true ∨ (pairK (kindO E f fl (k + j) oj) ki = true ∧ oj.apart ops oi = true)
  | [], _, _, j, oj, hj => by simp at hj
  | o :: os, k, h, j, oj, hj => by
    simp only [pairsOk, Bool.and_eq_true, Bool.or_eq_true] at h
    cases j with
    | zero => simp only [List.getElem?_cons_zero, Option.some.injEq] at hj; subst hj; exact h.1
    | succ j =>
      have := pairsOk_ok os (k + 1) h.2 j oj (by simpa using hj)
      rw [show k + (j + 1) = k + 1 + j by omega]; exact this

theorem drawAll_ok {fl : List Nat} {ms : List Nat} : ∀ (os : List Oper) (k : Nat), drawAll E f fl ops ms os k = true → ∀ (i : Nat) o, os[i]? = some o →
    (∀ e ∈ o.after, Region.binds .any e = true → e.on < k + i) ∧ pairsOk E f fl ops o (kindO E f fl (k + i) o) (ms.getD (k + i) 0) (ops.toList.take (k + i)) 0 = true
  | [], _, _, i, o, hi => by simp at hi
  | o' :: os, k, h, i, o, hi => by
    simp only [drawAll, Bool.and_eq_true] at h
    cases i with
    | zero =>
      simp only [List.getElem?_cons_zero, Option.some.injEq] at hi; subst hi
      refine ⟨fun e he hb => ?_, h.1.2⟩
      have := List.all_eq_true.1 h.1.1 e (by simpa using he)
      rw [hb] at this
      simp only [Bool.not_true, Bool.false_or] at this
      exact Nat.le_of_ble_eq_true this
    | succ i =>
      have := drawAll_ok os (k + 1) h.2 i o (by simpa using hi)
      rw [show k + (i + 1) = k + 1 + i by omega]; exact this

theorem DrOk.region {H : Hp} (U : Und bases H) (n : Nat) (fl ap : List Nat) : DrOk (some ⟨H.length, fl, ap⟩) bases (H ++ List.replicate n .dead) :=
  ⟨by simp [lvl], fun B hB => (U B hB).1⟩

theorem Und.wait {H : Hp} (U : Und bases H) (n : Nat) : Und bases (H ++ List.replicate n .dead) := by
  intro B hB
  obtain ⟨h1, h2⟩ := U B hB
  refine ⟨by simp; omega, fun b k hb hk => ?_⟩
  rw [List.getElem?_append_left (by omega)] at hk
  exact h2 b k hb hk

theorem region_ok {P : Program} (hop : OpSound E P c) (hm : P.follows .mixedOrders = true) {id nt : Nat} (hd : dstOk nt ops.toList = true) (h : drawOk E f id ops = true) : RegSound E P c f id ops nt := by
  intro R bases k r Q st g a w S U he hQ
  have hdst : ∀ (i : Nat) o d, ops[i]? = some o → o.dst = some d → d < nt := by
    intro i o d ho hd'
    have := List.all_eq_true.1 hd o (by
      have h' : ops.toList[i]? = some o := by simpa using ho
      exact List.mem_of_getElem? h')
    rw [hd'] at this
    exact Nat.le_of_ble_eq_true this
  have hr : rankOf ops 0 = 0 := by simp [rankOf]
  have hrun := regK_run E c f bases (some ⟨st.hp.length, (E.flag f id).1, ptrs st.fr (E.flag f id).2⟩) ops k ops.toList 0 ⟨st.fr, st.hp ++ List.replicate (newsOf ops.toList) .dead⟩ (by simp)
  rw [hr] at hrun
  rw [hrun] at he
  cases hl : runL E c f bases (some ⟨st.hp.length, (E.flag f id).1, ptrs st.fr (E.flag f id).2⟩) ops (List.range' 0 ops.toList.length) ⟨st.fr, st.hp ++ List.replicate (newsOf ops.toList) .dead⟩ with
  | none => rw [hl] at he; cases he
  | some st' =>
  rw [hl] at he
  simp only [Option.bind_some] at he
  have hall := fun (i : Nat) o (ho : ops[i]? = some o) => drawAll_ok ops.toList 0 h i o (by simpa using ho)
  refine wp_region_any hm ?_
  obtain ⟨R0, X0⟩ := S.rel.drawn (w' := { w with drawn := w.drawn + 1 }) rfl rfl rfl rfl
  have hfil : ((List.range ops.size).filter fun i => !(Array.replicate ops.size false).getD i true) = List.range ops.size := by
    refine List.filter_eq_self.2 fun i hi => ?_
    have := List.mem_range.1 hi
    simp [Array.getD, this]
  refine draw_ok (f := f) (bases := bases) hop (d := ⟨st.hp.length, (E.flag f id).1, ptrs st.fr (E.flag f id).2⟩) (st' := st') hdst ?_ ?_ ops.size _ ⟨st.fr, st.hp ++ List.replicate (newsOf ops.toList) .dead⟩ g a _ (by simp) ?_ ?_ ?_ ⟨S.fr, R0.wait _, S.glob, S.size, S.defers⟩ (U.wait _) (DrOk.region U _ _ _) ?_
  · intro i o e ho he' hb
    have := (hall i o ho).1 e he' hb
    omega
  · intro j i hji his
    have hi : ops[i]? = some (ops[i]'his) := Array.getElem?_eq_getElem his
    have hj : ops[j]? = some (ops[j]'(by omega)) := Array.getElem?_eq_getElem (by omega)
    have h2 := pairsOk_ok _ _ (hall i _ hi).2 j (ops[j]'(by omega)) (by
      simp only [Nat.zero_add]
      rw [List.getElem?_take, if_pos hji]
      simp)
    simp only [Nat.zero_add] at h2
    rcases h2 with h2 | ⟨h2, h3⟩
    · left
      rw [List.getD_eq_getElem?_getD] at h2
      cases hm : (masks ops.toList [])[i]? with
      | none => rw [hm] at h2; simp at h2
      | some m =>
        rw [hm] at h2
        exact masks_ok ops.toList [] (by simp) (fun k m j hk => by simp at hk) i m j hm h2
    · exact .inr (pairK_ok hji hj hi h3 h2)
  · intro i o e ho hl'
    exfalso
    rw [Array.getD_eq_getD_getElem?] at hl'
    cases hx : (Array.replicate ops.size false)[i]? with
    | none => rw [hx] at hl'; simp at hl'
    | some x =>
      rw [hx] at hl'
      rw [Array.getElem?_replicate] at hx
      split at hx
      · cases hx; simp at hl'
      · cases hx
  · rw [hfil]; simp
  · rw [hfil, List.range_eq_range']; simpa using hl
  · intro a' w' g' S' X l' U'
    exact hQ a' w' g' st' he S' (X0.trans X (Nat.le_refl _)) (by simp only [List.length_append] at l'; omega) U'

end
end Go.Pu
