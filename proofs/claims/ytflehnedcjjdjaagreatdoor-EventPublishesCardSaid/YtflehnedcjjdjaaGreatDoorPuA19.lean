/-
  Checks of what the evaluator is told; the library's functions without a text.
-/
import Derived.Test.YtflehnedcjjdjaaGreatDoorPuA18
import Derived.Laws.Externs
set_option linter.unusedSimpArgs false
set_option linter.unusedVariables false
namespace Go.Pu

def Tr.all {α : Type} (p : Nat → α → Bool) : Tr α → Nat → Nat → Bool
  | .lf, _, _ => true
  | .no l r, a, b => Tr.all p l (2 * a) (a + b) && Tr.all p r (2 * a) (2 * a + b)
  | .nd v l r, a, b => p b v && Tr.all p l (2 * a) (a + b) && Tr.all p r (2 * a) (2 * a + b)

theorem odd_half {n : Nat} (h : Nat.beq (n % 2) 1 = true) : n = 2 * (n / 2) + 1 := by have := Nat.eq_of_beq_eq_true h; omega
theorem even_half {n : Nat} (h0 : Nat.beq n 0 = false) (h : Nat.beq (n % 2) 1 = false) : n = 2 * (n / 2 - 1) + 2 := by
  have h1 : n ≠ 0 := fun e => by subst e; simp at h0
  have h2 : n % 2 ≠ 1 := fun e => by rw [e] at h; simp at h
  omega

theorem idx1 (a b q : Nat) : a * (2 * q + 1) + b = 2 * a * q + (a + b) := by rw [Nat.mul_add, Nat.mul_one, Nat.add_assoc, ← Nat.mul_assoc, Nat.mul_comm a 2]
theorem idx2 (a b q : Nat) : a * (2 * q + 2) + b = 2 * a * q + (2 * a + b) := by rw [Nat.mul_add, Nat.add_assoc, ← Nat.mul_assoc, Nat.mul_comm a 2]

theorem Tr.all_ok {α : Type} {p : Nat → α → Bool} : ∀ (t : Tr α) (a b : Nat), Tr.all p t a b = true → ∀ n v, t.get n = some v → p (a * n + b) v = true
  | .lf, _, _, _, n, v, hv => by simp [Tr.get] at hv
  | .no l r, a, b, h, n, v, hv => by
    simp only [Tr.all, Bool.and_eq_true] at h
    simp only [Tr.get] at hv
    cases h0 : Nat.beq n 0 with
    | true => rw [h0] at hv; cases hv
    | false =>
      rw [h0] at hv
      cases h1 : Nat.beq (n % 2) 1 with
      | true =>
        rw [h1] at hv
        have := Tr.all_ok l _ _ h.1 (n / 2) v hv
        have e := odd_half h1
        rw [show a * n + b = 2 * a * (n / 2) + (a + b) from (congrArg (fun x => a * x + b) e).trans (idx1 a b _)]; exact this
      | false =>
        rw [h1] at hv
        have := Tr.all_ok r _ _ h.2 (n / 2 - 1) v hv
        have e := even_half h0 h1
        rw [show a * n + b = 2 * a * (n / 2 - 1) + (2 * a + b) from (congrArg (fun x => a * x + b) e).trans (idx2 a b _)]; exact this
  | .nd x l r, a, b, h, n, v, hv => by
    simp only [Tr.all, Bool.and_eq_true] at h
    simp only [Tr.get] at hv
    cases h0 : Nat.beq n 0 with
    | true =>
      rw [h0] at hv
      simp only [cond_true, Option.some.injEq] at hv; subst hv
      have := Nat.eq_of_beq_eq_true h0
      subst this
      rw [Nat.mul_zero, Nat.zero_add]; exact h.1.1
    | false =>
      rw [h0] at hv
      cases h1 : Nat.beq (n % 2) 1 with
      | true =>
        rw [h1] at hv
        have := Tr.all_ok l _ _ h.1.2 (n / 2) v hv
        have e := odd_half h1
        rw [show a * n + b = 2 * a * (n / 2) + (a + b) from (congrArg (fun x => a * x + b) e).trans (idx1 a b _)]; exact this
      | false =>
        rw [h1] at hv
        have := Tr.all_ok r _ _ h.2 (n / 2 - 1) v hv
        have e := even_half h0 h1
        rw [show a * n + b = 2 * a * (n / 2 - 1) + (2 * a + b) from (congrArg (fun x => a * x + b) e).trans (idx2 a b _)]; exact this

theorem Tr.all1 {α : Type} {p : Nat → α → Bool} {t : Tr α} (h : Tr.all p t 1 0 = true) {n : Nat} {v : α} (hv : t.get n = some v) : p n v = true := by
  have := Tr.all_ok t 1 0 h n v hv
  simpa using this

def Tr.AllP {α : Type} (p : Nat → α → Prop) : Tr α → Nat → Nat → Prop
  | .lf, _, _ => True
  | .no l r, a, b => Tr.AllP p l (2 * a) (a + b) ∧ Tr.AllP p r (2 * a) (2 * a + b)
  | .nd v l r, a, b => p b v ∧ Tr.AllP p l (2 * a) (a + b) ∧ Tr.AllP p r (2 * a) (2 * a + b)

theorem Tr.allP_ok {α : Type} {p : Nat → α → Prop} : ∀ (t : Tr α) (a b : Nat), Tr.AllP p t a b → ∀ n v, t.get n = some v → p (a * n + b) v
  | .lf, _, _, _, n, v, hv => by simp [Tr.get] at hv
  | .no l r, a, b, h, n, v, hv => by
    simp only [Tr.AllP] at h
    simp only [Tr.get] at hv
    cases h0 : Nat.beq n 0 with
    | true => rw [h0] at hv; cases hv
    | false =>
      rw [h0] at hv
      cases h1 : Nat.beq (n % 2) 1 with
      | true =>
        rw [h1] at hv
        have := Tr.allP_ok l _ _ h.1 (n / 2) v hv
        have e := odd_half h1
        rw [show a * n + b = 2 * a * (n / 2) + (a + b) from (congrArg (fun x => a * x + b) e).trans (idx1 a b _)]; exact this
      | false =>
        rw [h1] at hv
        have := Tr.allP_ok r _ _ h.2 (n / 2 - 1) v hv
        have e := even_half h0 h1
        rw [show a * n + b = 2 * a * (n / 2 - 1) + (2 * a + b) from (congrArg (fun x => a * x + b) e).trans (idx2 a b _)]; exact this
  | .nd x l r, a, b, h, n, v, hv => by
    simp only [Tr.AllP] at h
    simp only [Tr.get] at hv
    cases h0 : Nat.beq n 0 with
    | true =>
      rw [h0] at hv
      simp only [cond_true, Option.some.injEq] at hv; subst hv
      have := Nat.eq_of_beq_eq_true h0
      subst this
      rw [Nat.mul_zero, Nat.zero_add]; exact h.1
    | false =>
      rw [h0] at hv
      cases h1 : Nat.beq (n % 2) 1 with
      | true =>
        rw [h1] at hv
        have := Tr.allP_ok l _ _ h.2.1 (n / 2) v hv
        have e := odd_half h1
        rw [show a * n + b = 2 * a * (n / 2) + (a + b) from (congrArg (fun x => a * x + b) e).trans (idx1 a b _)]; exact this
      | false =>
        rw [h1] at hv
        have := Tr.allP_ok r _ _ h.2.2 (n / 2 - 1) v hv
        have e := even_half h0 h1
        rw [show a * n + b = 2 * a * (n / 2 - 1) + (2 * a + b) from (congrArg (fun x => a * x + b) e).trans (idx2 a b _)]; exact this

theorem Tr.allP1 {α : Type} {p : Nat → α → Prop} {t : Tr α} (h : Tr.AllP p t 1 0) {n : Nat} {v : α} (hv : t.get n = some v) : p n v := by
  have := Tr.allP_ok t 1 0 h n v hv
  simpa using this

/-! ### Types -/

def noTI : TI := ⟨false, 0, false, 0, [], .other, []⟩

def zB : PV → Value → Bool
  | .int k n, .int k' m => decide (k = k') && decide (n = m)
  | .bool a, .bool b => a == b
  | .str [], .string b => b.data.toList.isEmpty
  | .nilp, .pointer none => true
  | .nilf, .nilFunc => true
  | .nili, .nilIface => true
  | .nilm, .map none => true
  | .lst _ [], .slice none 0 0 => true
  | _, _ => false

def zBs : List PV → List Value → Bool
  | [], [] => true
  | p :: ps, v :: vs => zB p v && zBs ps vs
  | _, _ => false

def zeroB (ti : TI) (z : Value) : Bool :=
  match z with
  | .agg cs => ti.agg && zBs ti.zero cs.toList
  | z => !ti.agg && (match ti.zero with | [p] => zB p z | _ => false)

def kdB (ok : Nat → Bool) : TK → TypeDesc → Bool
  | .int k, .int k' => decide (k = k')
  | .bool, .bool => true
  | .str, .string => true
  | .slice e, .slice e' => decide (e = e') && ok e
  | .struct fs, .struct fields => decide (fields.toList.map (fun f => (f.offset, f.type)) = fs) && fs.all fun p => ok p.2
  | .array n e, .array n' e' => decide (n = n') && decide (e = e') && ok e
  | .ptr e, .pointer e' => decide (e = e')
  | .map k e, .map k' e' => decide (k = k') && decide (e = e') && ok k && ok e
  | .iface, .interface _ => true
  | .func, .func _ _ _ => true
  | .other, _ => true
  | _, _ => false

def tiB (ok : Nat → Bool) (P : Program) (t : Nat) (ti : TI) : Bool :=
  cond ti.ok
    (match P.info? t, P.underlying t with
    | some i, some d => Nat.beq i.size ti.size && Nat.beq i.bytes ti.bytes && kdB ok ti.kd d && (ti.agg == isAggD d) &&
        (!Nat.beq ti.zero.length ti.size || match i.zero with | some z => zeroB ti z | none => false)
    | _, _ => false)
    false

theorem zB_ok {p : PV} {v : Value} (h : zB p v = true) : (∀ g, VP g p v) ∧ v.oneCell' = true ∧ (∀ a n c, v = .slice a n c → c = n) ∧ ∀ g, VA g (.pv p) v := by
  have key : (∀ g, VP g p v) ∧ v.oneCell' = true ∧ (∀ a n c, v = .slice a n c → c = n) := by
    unfold zB at h
    split at h
    · simp only [Bool.and_eq_true, decide_eq_true_eq] at h
      obtain ⟨rfl, rfl⟩ := h
      exact ⟨fun g => by simp only [VP], rfl, fun _ _ _ e => by cases e⟩
    · simp only [beq_iff_eq] at h; subst h
      exact ⟨fun g => by simp only [VP], rfl, fun _ _ _ e => by cases e⟩
    · rename_i b
      refine ⟨fun g => ?_, rfl, fun _ _ _ e => by cases e⟩
      simp only [VP]
      have : b.data.toList = [] := List.isEmpty_iff.1 h
      obtain ⟨⟨l⟩⟩ := b
      simp only at this; subst this; rfl
    · exact ⟨fun g => by simp only [VP], rfl, fun _ _ _ e => by cases e⟩
    · exact ⟨fun g => by simp only [VP], rfl, fun _ _ _ e => by cases e⟩
    · exact ⟨fun g => by simp only [VP], rfl, fun _ _ _ e => by cases e⟩
    · exact ⟨fun g => by simp only [VP], rfl, fun _ _ _ e => by cases e⟩
    · refine ⟨fun g => ?_, rfl, fun _ _ _ e => by cases e; rfl⟩
      simp only [VP]
      exact ⟨none, 0, [], rfl, by simp, by simp [VPs], by simp, .inl rfl⟩
    · cases h
  exact ⟨key.1, key.2.1, key.2.2, fun g => by simp only [VA]; exact key.1 g⟩

theorem zBs_ok : ∀ {ps : List PV} {vs : List Value}, zBs ps vs = true → (∀ g, VPs g ps vs) ∧ One vs ∧ ZeroS vs
  | [], [], _ => ⟨fun g => by simp [VPs], One.nil, fun _ h => by simp at h⟩
  | [], _ :: _, h => by simp [zBs] at h
  | _ :: _, [], h => by simp [zBs] at h
  | p :: ps, v :: vs, h => by
    simp only [zBs, Bool.and_eq_true] at h
    obtain ⟨h1, h2, h3, _⟩ := zB_ok h.1
    obtain ⟨k1, k2, k3⟩ := zBs_ok h.2
    refine ⟨fun g => by simp only [VPs]; exact ⟨v, vs, rfl, h1 g, k1 g⟩, ?_, ?_⟩
    · intro x hx
      rcases List.mem_cons.1 hx with rfl | hx
      · exact h2
      · exact k2 x hx
    · intro x hx
      rcases List.mem_cons.1 hx with rfl | hx
      · exact h3
      · exact k3 x hx

theorem kdB_ok {E : Env} {kd : TK} {d : TypeDesc} (h : kdB (fun t => (E.ty t).ok) kd d = true) : KdOk E kd d := by
  unfold kdB at h
  split at h <;> simp only [Bool.and_eq_true, decide_eq_true_eq, reduceCtorEq] at h <;> simp only [KdOk]
  · rw [h]
  · exact ⟨by rw [h.1], h.2⟩
  · exact ⟨_, rfl, h.1, fun p hp => List.all_eq_true.1 h.2 p hp⟩
  · exact ⟨by rw [h.1.1, h.1.2], h.2⟩
  · rw [h]
  · exact ⟨by rw [h.1.1.1, h.1.1.2], h.1.2, h.2⟩
  · exact ⟨_, rfl⟩
  · exact ⟨_, _, _, rfl⟩

theorem tyOk_of {E : Env} {P : Program} {t : Tr TI} (hE : ∀ n, E.ty n = (match t.get n with | some v => v | none => noTI)) (h : Tr.all (tiB (fun n => (E.ty n).ok) P) t 1 0 = true) : TyOk E P := by
  constructor
  · intro n hn
    have e := hE n
    cases hv : t.get n with
    | none => rw [hv] at e; rw [e] at hn; simp [noTI] at hn
    | some v =>
      rw [hv] at e
      simp only at e
      have hb := Tr.all1 h hv
      unfold tiB at hb
      rw [← e, hn] at hb
      simp only [cond_true] at hb
      split at hb
      · rename_i i d hi hd
        simp only [Bool.and_eq_true, beq_iff_eq] at hb
        obtain ⟨⟨⟨⟨h1, h2⟩, h3⟩, h4⟩, h5⟩ := hb
        refine ⟨⟨i, hi, Nat.eq_of_beq_eq_true h1, Nat.eq_of_beq_eq_true h2, fun hz => ?_⟩, ⟨d, hd, kdB_ok h3, h4⟩⟩
        rw [hz] at h5
        have hb : Nat.beq (E.ty n).size (E.ty n).size = true := Nat.beq_refl _
        rw [hb] at h5
        simp only [Bool.not_true, Bool.false_or] at h5
        split at h5
        · rename_i z hzz
          refine ⟨z, hzz, ?_⟩
          unfold zeroB at h5
          split at h5
          · rename_i cs
            simp only [Bool.and_eq_true] at h5
            obtain ⟨k1, k2, k3⟩ := zBs_ok h5.2
            refine ⟨by simpa [Value.cells] using k2, by simpa [Value.cells] using k3, fun g => ⟨by simpa [Value.cells] using k1 g, ?_⟩⟩
            unfold zeroOf
            rw [if_neg (by rw [hz]; simp), if_pos h5.1]
            simp only [VA, VP]
            exact ⟨cs.toList, by simp, k2, k1 g⟩
          · rename_i hna
            simp only [Bool.and_eq_true, Bool.not_eq_true'] at h5
            split at h5
            · rename_i p hp
              obtain ⟨k1, k2, k3, k4⟩ := zB_ok h5.2
              have hc := one_cells k2
              rw [hc]
              refine ⟨fun x hx => by simp at hx; subst hx; exact k2, fun x hx => by simp at hx; subst hx; exact k3, fun g => ⟨by rw [hp]; simp only [VPs]; exact ⟨z, [], rfl, k1 g, rfl⟩, ?_⟩⟩
              unfold zeroOf
              rw [if_neg (by rw [hz]; simp), if_neg (by rw [h5.1]; simp), hp]
              exact k4 g
            · cases h5.2
        · cases h5
      · cases hb
  · intro n hn
    have e := hE n
    cases hv : t.get n with
    | none => rw [hv] at e; rw [e]; exact ⟨rfl, rfl, rfl⟩
    | some v =>
      rw [hv] at e
      simp only at e
      have hb := Tr.all1 h hv
      unfold tiB at hb
      rw [← e, hn] at hb
      cases hb

def eqB (P : Program) (t : Nat) (ti : TI) : Bool := ti.eqk.isEmpty || (decide (flatK P 100 t = some ti.eqk) && !P.eqGuardType P.depth t)

theorem eqOk_of {E : Env} {P : Program} {t : Tr TI} (hE : ∀ n, E.ty n = (match t.get n with | some v => v | none => noTI)) (h : Tr.all (eqB P) t 1 0 = true) : EqOk E P := by
  have key : ∀ n, (E.ty n).eqk ≠ [] → flatK P 100 n = some (E.ty n).eqk ∧ P.eqGuardType P.depth n = false := by
    intro n hn
    have e := hE n
    cases hv : t.get n with
    | none => rw [hv] at e; rw [e] at hn; exact absurd rfl hn
    | some v =>
      rw [hv] at e
      simp only at e
      have hb := Tr.all1 h hv
      unfold eqB at hb
      rw [← e] at hb
      simp only [Bool.or_eq_true, List.isEmpty_iff, Bool.and_eq_true, decide_eq_true_eq, Bool.not_eq_true'] at hb
      exact hb.resolve_left hn
  exact ⟨fun n hn => (key n hn).1, fun n hn => (key n hn).2⟩

/-! ### Methods -/

def methB (P : Program) (t : Nat) (ms : List (String × Nat)) : Bool :=
  match P.info? t, P.underlying t with
  | some i, some d => ms.all fun m => match i.methods.find? (·.name == m.1) with
    | some me => me.path.isEmpty && (match me.func with
      | some (f, pr) => Nat.beq f m.2 && (match d with | .pointer _ => pr | _ => !pr)
      | none => false)
    | none => false
  | _, _ => false

theorem methOk_of {E : Env} {P : Program} {t : Tr (List (String × Nat))} (hE : ∀ n m, E.meth n m = (t.get n).bind fun l => (l.find? (·.1 == m)).map (·.2)) (h : Tr.all (methB P) t 1 0 = true) : MethOk E P := by
  intro n m f hf
  rw [hE] at hf
  obtain ⟨l, h1, h2⟩ := Option.bind_eq_some_iff.1 hf
  obtain ⟨⟨m', f'⟩, h3, h4⟩ := Option.map_eq_some_iff.1 h2
  simp only at h4; subst h4
  have hm : (m' == m) = true := by simpa using List.find?_some h3
  have hm' : m' = m := by simpa using hm
  subst hm'
  have hb := Tr.all1 h h1
  unfold methB at hb
  split at hb
  · rename_i i d hi hd
    have := List.all_eq_true.1 hb _ (List.mem_of_find?_eq_some h3)
    simp only at this
    split at this
    · rename_i me hme
      simp only [Bool.and_eq_true] at this
      obtain ⟨h5, h6⟩ := this
      split at h6
      · rename_i f2 pr hfu
        simp only [Bool.and_eq_true] at h6
        have e2 := Nat.eq_of_beq_eq_true h6.1
        subst e2
        refine ⟨i, me, pr, d, hi, hme, by simpa using h5, hfu, hd, ?_⟩
        cases pr
        · simp only [Bool.false_eq_true, if_false]
          intro e he; subst he; simp at h6
        · simp only [if_true]
          cases d <;> first | exact ⟨_, rfl⟩ | simp at h6
      · cases h6
    · cases this
  · cases hb

/-! ### Functions -/

def fnB (E : Env) (v : Nat) (fn : Func) : Bool := fn.body.isSome && !(fn.name == "runtime.NumGoroutine") && (match fn.body with | some code => codeOk E v fn.ntmps code | none => false)

theorem fnOk_of {E : Env} {P : Program} {t : Tr Func} (hE : ∀ n, E.fn n = t.get n) (hr : ∀ n, E.real n = n) (hd : ∀ f g, E.redir f g = g) (h : Tr.all (fnB E) t 1 0 = true) (hf : Tr.AllP (fun n fn => P.funcs[n]? = some fn) t 1 0) :
    FnOk E P ∧ ∀ v fn code, E.fn v = some fn → fn.body = some code → codeOk E v fn.ntmps code = true := by
  refine ⟨⟨fun v fn e => ?_, fun f g => by rw [hr, hd]⟩, fun v fn code e hb => ?_⟩
  · rw [hE] at e
    have hb := Tr.all1 h e
    simp only [fnB, Bool.and_eq_true, Bool.not_eq_true'] at hb
    exact ⟨by rw [hr]; exact Tr.allP1 hf e, hb.1.2, hb.1.1⟩
  · rw [hE] at e
    have hb' := Tr.all1 h e
    simp only [fnB, Bool.and_eq_true] at hb'
    rw [hb] at hb'
    exact hb'.2

/-! ### Functions without a text -/

theorem find_idx (t : List UInt8) (c : UInt8) : ∀ (s : List UInt8) (k : Nat), t.drop k = s →
    (List.range' k s.length).find? (fun i => (⟨t.toArray⟩ : ByteArray)[i]! == c) = (s.findIdx? (· == c)).map (· + k)
  | [], k, _ => by simp
  | b :: s, k, h => by
    have hb : t[k]? = some b := by
      have : (t.drop k)[0]? = some b := by rw [h]; rfl
      rw [List.getElem?_drop] at this; simpa using this
    have hk : k < t.length := by
      rcases Nat.lt_or_ge k t.length with h1 | h1
      · exact h1
      · rw [List.getElem?_eq_none h1] at hb; cases hb
    have hget : (⟨t.toArray⟩ : ByteArray)[k]! = b := by
      rw [getElem!_pos (⟨t.toArray⟩ : ByteArray) k (by show k < t.toArray.size; simpa using hk)]
      show t.toArray[k]'(by simpa using hk) = b
      simp only [List.getElem_toArray]
      rw [List.getElem?_eq_getElem hk] at hb
      exact Option.some.inj hb
    rw [List.length_cons, List.range'_succ, List.find?_cons, hget, List.findIdx?_cons]
    cases hbc : (b == c)
    · rw [find_idx t c s (k + 1) (by
        have : t.drop (k + 1) = (t.drop k).drop 1 := by rw [List.drop_drop]
        rw [this, h]; rfl)]
      cases List.findIdx? (· == c) s <;> simp; omega
    · simp

theorem firstIdx_ok (s : List UInt8) (c : UInt8) : firstIdx ⟨s.toArray⟩ c = (match s.findIdx? (· == c) with | some i => (i : Int) | none => -1) := by
  unfold firstIdx
  have h1 : (⟨s.toArray⟩ : ByteArray).size = s.length := by show s.toArray.size = _; simp
  rw [h1, List.range_eq_range', find_idx s c s 0 rfl]
  cases List.findIdx? (· == c) s <;> simp

theorem foldl_count (c : UInt8) : ∀ (s : List UInt8) (n : Nat), s.foldl (fun n x => if x == c then n + 1 else n) n = n + s.countP (· == c)
  | [], n => by simp
  | b :: s, n => by
    rw [List.foldl_cons, foldl_count c s, List.countP_cons]
    cases b == c <;> simp <;> omega

/-- What is told of functions without a text: 0: the place of a byte; 1: how often it stands there. -/
def ExtB (P : Program) (g n : Nat) : Prop := ∃ fn, P.funcs[g]? = some fn ∧ (fn.name == "runtime.NumGoroutine") = false ∧ fn.body.isNone = true ∧ Extern.findNext fn = none ∧
  n = 0 ∧ Extern.find fn = some Extern.BytealgIndexByte.indexByte

theorem ext0 {as : List AV} {v : AV} (h : extO 0 as = some v) : ∃ s b, as = [.pv (.str s), .pv (.int .u8 b)] ∧ v = .pv (.int .i64 (match s.findIdx? (· == UInt8.ofNat b.toNat) with | some i => (i : Int) | none => -1)) := by
  rcases as with _ | ⟨a, _ | ⟨b, _ | ⟨c, as⟩⟩⟩
  · simp [extO] at h
  · cases a with
    | pv a => cases a <;> simp [extO] at h
    | _ => simp [extO] at h
  · cases a with
    | pv a =>
      cases a with
      | str s =>
        cases b with
        | pv b =>
          cases b with
          | int k n =>
            cases k with
            | u8 => simp only [extO, Option.some.injEq] at h; exact ⟨s, n, rfl, h.symm⟩
            | _ => simp [extO] at h
          | _ => simp [extO] at h
        | _ => simp [extO] at h
      | _ => simp [extO] at h
    | _ => simp [extO] at h
  · simp [extO] at h

theorem ext1 {as : List AV} {v : AV} (h : extO 1 as = some v) : ∃ s b, as = [.pv (.str s), .pv (.int .u8 b)] ∧ v = .pv (.int .i64 (s.countP (· == UInt8.ofNat b.toNat))) := by
  rcases as with _ | ⟨a, _ | ⟨b, _ | ⟨c, as⟩⟩⟩
  · simp [extO] at h
  · cases a with
    | pv a => cases a <;> simp [extO] at h
    | _ => simp [extO] at h
  · cases a with
    | pv a =>
      cases a with
      | str s =>
        cases b with
        | pv b =>
          cases b with
          | int k n =>
            cases k with
            | u8 => simp only [extO, Option.some.injEq] at h; exact ⟨s, n, rfl, h.symm⟩
            | _ => simp [extO] at h
          | _ => simp [extO] at h
        | _ => simp [extO] at h
      | _ => simp [extO] at h
    | _ => simp [extO] at h
  · simp [extO] at h

theorem extSound_of {E : Env} {P : Program} (h : ∀ g n, E.ext g = some n → ExtB P g n) : ExtSound E P := by
  intro g n as v hg he gh H w xs bases hv R G U o a K Q hK
  obtain ⟨fn, h1, h2, h3, h4, h5⟩ := h g n hg
  have fin : ∀ e y, Extern.find fn = some e → (e xs.toArray).run P w = .ok y w → VA gh v y → o.upon P a K Q ((callFunc g xs.toArray).run P w) := by
    intro e y k1 k2 k3
    rw [run_callFunc_extern h1 h2 h3 h4 k1, k2]
    exact hK y w ⟨gh, k3, R, Ext.refl _ _ _, Nat.le_refl _, U⟩
  obtain ⟨rfl, h5⟩ := h5
  obtain ⟨s, b, rfl, rfl⟩ := ext0 he
  simp only [VAs, VA, VP] at hv
  obtain ⟨x, r, rfl, rfl, y, r', rfl, rfl, rfl⟩ := hv
  refine fin _ _ h5 (run_indexByte_string _ b w) ?_
  simp only [VA, VP]
  rw [firstIdx_ok]

end Go.Pu
