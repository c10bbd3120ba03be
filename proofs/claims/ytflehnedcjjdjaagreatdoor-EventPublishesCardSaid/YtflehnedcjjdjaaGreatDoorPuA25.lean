/-
  Arguments: what is read as data is pure data of its type.
-/
import Derived.Test.YtflehnedcjjdjaaGreatDoorPuA24
import Derived.OpenShut
set_option linter.unusedSimpArgs false
set_option linter.unusedVariables false
namespace Go.Pu

theorem mapM_opt {α β : Type} {f : α → Option β} : ∀ {l : List α} {xs : List β}, l.mapM f = some xs → xs.length = l.length ∧ ∀ (i : Nat) (a : α), l[i]? = some a → ∃ b, xs[i]? = some b ∧ f a = some b
  | [], xs, h => by
    simp only [List.mapM_nil, Option.pure_def, Option.some.injEq] at h
    subst h; simp
  | x :: l, xs, h => by
    simp only [List.mapM_cons, Option.pure_def, Option.bind_eq_bind, Option.bind_eq_some_iff, Option.some.injEq] at h
    obtain ⟨b, h1, ys, h2, rfl⟩ := h
    obtain ⟨h3, h4⟩ := mapM_opt h2
    refine ⟨by simp [h3], fun i a hi => ?_⟩
    cases i with
    | zero => simp at hi; subst hi; exact ⟨b, by simp, h1⟩
    | succ i => simp at hi ⊢; exact h4 i a hi

def FitF (Q : Nat → List PV → Prop) (sz : Nat → Nat) : List (Nat × Nat) → List PV → Prop
  | [], cs => cs = []
  | f :: fs, cs => ∃ a b, cs = a ++ b ∧ a.length = sz f.2 ∧ Q f.2 a ∧ FitF Q sz fs b

/-- Cells of a type, as pure data. -/
def FitC (E : Env) : Nat → Nat → List PV → Prop
  | 0, _, _ => False
  | n + 1, t, cs => match (E.ty t).kd with
    | .int k => ∃ i, cs = [.int k i] ∧ k.min ≤ i ∧ i ≤ k.max
    | .bool => ∃ b, cs = [.bool b]
    | .str => ∃ s, cs = [.str s] ∧ s.length ≤ maxLen
    | .slice e => ∃ es, cs = [.lst (E.ty e).size es] ∧ es.length ≤ maxLen ∧ ∀ x ∈ es, ∃ ys, FitC E n e ys ∧ ((E.ty e).agg = true ∧ x = .agg ys ∨ (E.ty e).agg = false ∧ ys = [x])
    | .struct fs => FitF (fun t cs => FitC E n t cs) (fun t => (E.ty t).size) fs cs
    | _ => False

def tileB (sz : Nat → Nat) : Nat → List (Nat × Nat) → Nat → Bool
  | o, [], n => Nat.beq o n
  | o, f :: fs, n => Nat.beq f.1 o && tileB sz (o + sz f.2) fs n

def dataB (E : Env) (S : List Nat) (t : Nat) : Bool :=
  (E.ty t).ok && match (E.ty t).kd with
    | .int _ | .bool | .str => Nat.beq (E.ty t).size 1 && !(E.ty t).agg
    | .slice e => Nat.beq (E.ty t).size 1 && !(E.ty t).agg && S.contains e && Nat.ble 1 (E.ty e).size && ((E.ty e).agg || Nat.beq (E.ty e).size 1)
    | .struct fs => (E.ty t).agg && tileB (fun t => (E.ty t).size) 0 fs (E.ty t).size && fs.all fun f => S.contains f.2
    | _ => false
def dataS (E : Env) (S : List Nat) : Bool := S.all (dataB E S)

section
variable {E : Env} {P : Program}
theorem cellsOf_eq (T : TyOk E P) {t : Nat} (h : (E.ty t).ok = true) : P.cellsOf t = (E.ty t).size := by
  obtain ⟨i, h1, h2, _⟩ := (T.real t h).info
  simp [Program.cellsOf, h1, h2]

theorem one_cons {v : Value} {vs : List Value} (h : v.oneCell' = true) (k : One vs) : One (v :: vs) := fun x hx => by
  rcases List.mem_cons.1 hx with rfl | hx
  · exact h
  · exact k x hx

theorem holds_cells {w : World} {a : Addr} {n : Nat} {cs : List Value} (h : w.cells? 0 a n = some cs) (h1 : 1 ≤ n) (hs : a.spot = none) : cs.length = n ∧ ∀ i v, cs[i]? = some v → w.cell? ⟨a.block, a.off + i, none⟩ = some v := by
  unfold World.cells? at h
  rw [if_pos (Nat.zero_le _)] at h
  obtain ⟨h2, h3⟩ := mapM_opt h
  refine ⟨by simpa using h2, fun i v hi => ?_⟩
  have hin : i < n := by
    have : i < cs.length := by
      rcases Nat.lt_or_ge i cs.length with h | h
      · exact h
      · rw [List.getElem?_eq_none h] at hi; cases hi
    simpa [h2] using this
  obtain ⟨b, h4, h5⟩ := h3 i i (by simp [hin])
  rw [hi] at h4; cases h4
  rw [← h5]
  unfold Addr.add
  split
  · rename_i h0; subst h0; obtain ⟨x, y, z⟩ := a; simp only at hs; subst hs; rfl
  · rfl

theorem spot_cells {w : World} {a : Addr} {n : Nat} {cs : List Value} (h : w.cells? 0 a n = some cs) (h1 : 1 ≤ n) : a.spot = none := by
  unfold World.cells? at h
  rw [if_pos (Nat.zero_le _)] at h
  obtain ⟨h2, h3⟩ := mapM_opt h
  obtain ⟨b, _, h5⟩ := h3 0 0 (by rw [List.getElem?_range (by omega)])
  unfold Addr.add at h5
  rw [if_pos rfl] at h5
  unfold World.cell? at h5
  split at h5
  · split at h5
    · cases h5
    · rename_i h6; cases h7 : a.spot with
      | none => rfl
      | some x => rw [h7] at h6; exact absurd rfl h6
  · cases h5

theorem build {α : Type} {Q : Nat → α → Prop} : ∀ n, (∀ i, i < n → ∃ a, Q i a) → ∃ l : List α, l.length = n ∧ ∀ i a, l[i]? = some a → Q i a
  | 0, _ => ⟨[], rfl, fun i a h => by simp at h⟩
  | n + 1, h => by
    obtain ⟨l, h1, h2⟩ := build n fun i hi => h i (by omega)
    obtain ⟨b, hb⟩ := h n (by omega)
    refine ⟨l ++ [b], by simp [h1], fun i a hi => ?_⟩
    rcases Nat.lt_trichotomy i n with h3 | h3 | h3
    · rw [List.getElem?_append_left (by omega)] at hi; exact h2 i a hi
    · subst h3
      rw [List.getElem?_append_right (by omega), h1] at hi
      simp at hi; subst hi; exact hb
    · rw [List.getElem?_append_right (by omega), h1] at hi
      rw [List.getElem?_eq_none (by simp; omega)] at hi
      cases hi

theorem VPs_maps {α : Type} {g : Gh} {f : α → PV} {h : α → Value} : ∀ {l : List α}, (∀ q ∈ l, VP g (f q) (h q)) → VPs g (l.map f) (l.map h)
  | [], _ => by simp [VPs]
  | q :: l, k => by
    simp only [List.map_cons, VPs]
    exact ⟨_, _, rfl, k q (by simp), VPs_maps fun x hx => k x (by simp [hx])⟩

theorem flat_get {α : Type} {f : α → List Value} {sz : Nat} : ∀ {l : List α} {j : Nat} {v : Value}, (∀ x ∈ l, (f x).length = sz) → (l.flatMap f)[j]? = some v → ∃ i r x, l[i]? = some x ∧ r < sz ∧ j = i * sz + r ∧ (f x)[r]? = some v
  | [], j, v, _, h => by simp at h
  | x :: l, j, v, hl, h => by
    simp only [List.flatMap_cons] at h
    have hx := hl x (by simp)
    rcases Nat.lt_or_ge j sz with hj | hj
    · rw [List.getElem?_append_left (by omega)] at h
      exact ⟨0, j, x, by simp, hj, by simp, h⟩
    · rw [List.getElem?_append_right (by omega)] at h
      obtain ⟨i, r, y, h1, h2, h3, h4⟩ := flat_get (fun y hy => hl y (by simp [hy])) h
      refine ⟨i + 1, r, y, by simpa using h1, h2, ?_, h4⟩
      rw [Nat.add_mul]; omega

theorem tile_fit {g : Gh} {Q : Nat → List PV → Prop} {sz : Nat → Nat} {cells : List Value} {n : Nat} (hn : cells.length = n) : ∀ (fs : List (Nat × Nat)) (o : Nat), tileB sz o fs n = true →
    (∀ f ∈ fs, ∃ pcs, VPs g pcs ((cells.drop f.1).take (sz f.2)) ∧ Q f.2 pcs ∧ One ((cells.drop f.1).take (sz f.2)) ∧ ((cells.drop f.1).take (sz f.2)).length = sz f.2) → ∃ pcs, VPs g pcs (cells.drop o) ∧ FitF Q sz fs pcs ∧ One (cells.drop o)
  | [], o, ht, _ => by
    have : o = n := Nat.eq_of_beq_eq_true ht
    subst this
    rw [List.drop_eq_nil_of_le (by omega)]
    exact ⟨[], by simp [VPs], rfl, One.nil⟩
  | f :: fs, o, ht, h => by
    simp only [tileB, Bool.and_eq_true] at ht
    have ho : f.1 = o := Nat.eq_of_beq_eq_true ht.1
    obtain ⟨pcs, h1, h2, h3, h4⟩ := h f (by simp)
    rw [ho] at h1 h3 h4
    obtain ⟨pcs', k1, k2, k3⟩ := tile_fit hn fs (o + sz f.2) ht.2 fun f' hf => h f' (by simp [hf])
    have e : cells.drop o = (cells.drop o).take (sz f.2) ++ cells.drop (o + sz f.2) := by
      rw [← List.drop_drop, List.take_append_drop]
    refine ⟨pcs ++ pcs', ?_, ⟨pcs, pcs', rfl, ?_, h2, k2⟩, ?_⟩
    · rw [e]; exact VPs_append h1 k1
    · rw [← h4, VPs_length h1]
    · rw [e]; exact h3.append k3

theorem fit_of {H : Type} {enc : TypeId × Value → H} {w : World} {sp : Nat → Bool} (T : TyOk E P) {S : List Nat} (hS : dataS E S = true) : ∀ (n t : Nat) (cells : List Value) (x : DataW H × List MemPlace), t ∈ S →
    DataW.trod enc P w 0 sp true n t cells = some x → ∃ pcs, VPs (Gh.all w) pcs cells ∧ FitC E n t pcs ∧ One cells ∧ cells.length = (E.ty t).size := by
  intro n
  induction n with
  | zero => intro t cells x _ h; simp [DataW.trod] at h
  | succ n ih =>
  intro t cells x ht h
  have hb : dataB E S t = true := List.all_eq_true.1 hS t ht
  unfold dataB at hb
  simp only [Bool.and_eq_true] at hb
  obtain ⟨hok, hb⟩ := hb
  obtain ⟨d, hd, hk, hag⟩ := (T.real t hok).kd
  cases hkd : (E.ty t).kd with
  | int k =>
    rw [hkd] at hb hk
    simp only [Bool.and_eq_true] at hb
    simp only [KdOk] at hk
    subst hk
    obtain ⟨i, rfl, _, hw⟩ := DataW.trod_int hd h
    simp only [Lit.wf, Bool.and_eq_true, decide_eq_true_eq] at hw
    exact ⟨[.int k i], by simp [VPs, VP], by simp only [FitC, hkd]; exact ⟨i, rfl, hw.1, hw.2⟩, one_cons rfl One.nil, (Nat.eq_of_beq_eq_true hb.1).symm⟩
  | bool =>
    rw [hkd] at hb hk
    simp only [Bool.and_eq_true] at hb
    simp only [KdOk] at hk
    subst hk
    obtain ⟨b, rfl, _⟩ := DataW.trod_bool hd h
    exact ⟨[.bool b], by simp [VPs, VP], by simp only [FitC, hkd]; exact ⟨b, rfl⟩, one_cons rfl One.nil, (Nat.eq_of_beq_eq_true hb.1).symm⟩
  | str =>
    rw [hkd] at hb hk
    simp only [Bool.and_eq_true] at hb
    simp only [KdOk] at hk
    subst hk
    obtain ⟨s, rfl, _, hs⟩ := DataW.trod_string hd h
    exact ⟨[.str s.data.toList], by simp [VPs, VP], by simp only [FitC, hkd]; exact ⟨_, rfl, by simpa using hs⟩, one_cons rfl One.nil, (Nat.eq_of_beq_eq_true hb.1).symm⟩
  | slice e =>
    rw [hkd] at hb hk
    simp only [Bool.and_eq_true, Bool.or_eq_true] at hb
    simp only [KdOk] at hk
    obtain ⟨rfl, hoke⟩ := hk
    obtain ⟨⟨⟨⟨hs1, hs2⟩, hs3⟩, hs4⟩, hs5⟩ := hb
    have hsz := cellsOf_eq T hoke
    have heS : e ∈ S := by simpa using hs3
    have h1 : 1 ≤ (E.ty e).size := Nat.le_of_ble_eq_true hs4
    rcases DataW.trod_slice hd h with ⟨rfl, _⟩ | ⟨a, len, cap, elems, rest, m, hm, rfl, _, _, hlc, hcm, hel, he, _⟩
    · refine ⟨[.lst (E.ty e).size []], ?_, ?_, one_cons rfl One.nil, (Nat.eq_of_beq_eq_true hs1).symm⟩
      · simp only [VPs, VP]
        exact ⟨_, _, rfl, ⟨none, 0, [], rfl, Nat.le_refl _, rfl, fun v hv => by simp at hv, .inl rfl⟩, rfl⟩
      · simp only [FitC, hkd]
        exact ⟨[], rfl, by simp, by simp⟩
    · cases hm
      rw [hsz] at he
      have hcells : ∀ i, i < len → ∃ q : List Value × List PV, w.cells? 0 (a.add (i * (E.ty e).size)) (E.ty e).size = some q.1 ∧ VPs (Gh.all w) q.2 q.1 ∧ FitC E n e q.2 ∧ One q.1 ∧ q.1.length = (E.ty e).size := by
        intro i hi
        have := he i hi
        rw [List.getElem?_eq_getElem (by omega)] at this
        obtain ⟨cs, k1, k2⟩ := Option.bind_eq_some_iff.1 this
        obtain ⟨pcs, k3, k4, k5, k6⟩ := ih e cs _ heS k2
        exact ⟨(cs, pcs), k1, k3, k4, k5, k6⟩
      obtain ⟨l, hl1, hl2⟩ := build len hcells
      have hmem : ∀ q ∈ l, VPs (Gh.all w) q.2 q.1 ∧ FitC E n e q.2 ∧ One q.1 ∧ q.1.length = (E.ty e).size := by
        intro q hq
        obtain ⟨i, hi⟩ := List.mem_iff_getElem?.1 hq
        exact (hl2 i q hi).2
      have hspot : len ≠ 0 → a.spot = none := by
        intro h0
        obtain ⟨q, k1, _⟩ := hcells 0 (by omega)
        have := spot_cells k1 h1
        simpa [Addr.add] using this
      have hmu : ∀ i q, l[i]? = some q → ∀ r v, q.1[r]? = some v → (Gh.all w).mu a.block (a.off + (i * (E.ty e).size + r)) = some v := by
        intro i q hi r v hr
        obtain ⟨k1, _⟩ := hl2 i q hi
        have hlen : len ≠ 0 := by
          rcases Nat.eq_zero_or_pos len with h0 | h0
          · rw [h0] at hl1; rw [List.length_eq_zero_iff.1 hl1] at hi; simp at hi
          · omega
        have k3 := (holds_cells k1 h1 (by unfold Addr.add; split <;> simp [hspot hlen])).2 r v hr
        simp only [Gh.all]
        rw [← k3]
        congr 2
        · unfold Addr.add; split <;> rfl
        · unfold Addr.add
          split
          · rename_i h0; rw [h0]; simp
          · simp only; omega
      cases hea : (E.ty e).agg with
      | true =>
        refine ⟨[.lst (E.ty e).size (l.map fun q => .agg q.2)], ?_, ?_, one_cons rfl One.nil, (Nat.eq_of_beq_eq_true hs1).symm⟩
        · simp only [VPs, VP]
          refine ⟨_, _, rfl, ⟨some a, cap, l.map fun q => .agg q.1.toArray, by simp [hl1], by simp [hl1]; exact hlc, VPs_maps fun q hq => ?_, ?_, ?_⟩, rfl⟩
          · obtain ⟨k1, k2, k3, k4⟩ := hmem q hq
            simp only [VP]; exact ⟨q.1, rfl, k3, k1⟩
          · intro v hv
            obtain ⟨q, hq, rfl⟩ := List.mem_map.1 hv
            obtain ⟨k1, k2, k3, k4⟩ := hmem q hq
            exact ⟨by simpa [Value.cells] using k4, by simpa [Value.cells] using k3⟩
          · rcases Nat.eq_zero_or_pos len with h0 | h0
            · left; rw [h0] at hl1; rw [List.length_eq_zero_iff.1 hl1]; rfl
            · right
              refine ⟨a.block, a.off, ?_, ?_⟩
              · obtain ⟨x, y, z⟩ := a
                have := hspot (by omega)
                simp only at this; subst this; rfl
              · intro j v hj
                unfold flatC at hj
                rw [List.flatMap_map] at hj
                obtain ⟨i, r, q, m1, m2, m3, m4⟩ := flat_get (sz := (E.ty e).size) (fun q hq => by simpa [Value.cells] using (hmem q hq).2.2.2) hj
                rw [m3]
                exact hmu i q m1 r v (by simpa [Value.cells] using m4)
        · simp only [FitC, hkd]
          refine ⟨_, rfl, by simp [hl1]; omega, fun x hx => ?_⟩
          obtain ⟨q, hq, rfl⟩ := List.mem_map.1 hx
          exact ⟨q.2, (hmem q hq).2.1, .inl ⟨hea, rfl⟩⟩
      | false =>
        have hse : (E.ty e).size = 1 := by
          rcases hs5 with h2 | h2
          · rw [hea] at h2; cases h2
          · exact Nat.eq_of_beq_eq_true h2
        have hone : ∀ q ∈ l, ∃ v p, q.1 = [v] ∧ q.2 = [p] ∧ VP (Gh.all w) p v ∧ v.oneCell' = true := by
          intro q hq
          obtain ⟨k1, k2, k3, k4⟩ := hmem q hq
          obtain ⟨vs, ps⟩ := q
          simp only at k1 k2 k3 k4
          rw [hse] at k4
          obtain ⟨v, rfl⟩ := List.length_eq_one_iff.1 k4
          have hp := VPs_length k1
          simp only [List.length_cons, List.length_nil] at hp
          obtain ⟨p, rfl⟩ := List.length_eq_one_iff.1 hp.symm
          simp only [VPs] at k1
          obtain ⟨v', r, e1, k1, rfl⟩ := k1
          cases e1
          exact ⟨v, p, rfl, rfl, k1, k3 v (by simp)⟩
        refine ⟨[.lst (E.ty e).size (l.map fun q => q.2.headD .nilp)], ?_, ?_, one_cons rfl One.nil, (Nat.eq_of_beq_eq_true hs1).symm⟩
        · simp only [VPs, VP]
          refine ⟨_, _, rfl, ⟨some a, cap, l.map fun q => q.1.headD default, by simp [hl1], by simp [hl1]; exact hlc, VPs_maps fun q hq => ?_, ?_, ?_⟩, rfl⟩
          · obtain ⟨v, p, e1, e2, k1, _⟩ := hone q hq
            rw [e1, e2]; exact k1
          · intro v hv
            obtain ⟨q, hq, rfl⟩ := List.mem_map.1 hv
            obtain ⟨v, p, e1, e2, k1, k2⟩ := hone q hq
            rw [e1]
            have hc : v.cells = #[v] := by cases v <;> first | rfl | cases k2
            simp only [List.headD_cons, hc]
            exact ⟨hse.symm, one_cons k2 One.nil⟩
          · rcases Nat.eq_zero_or_pos len with h0 | h0
            · left; rw [h0] at hl1; rw [List.length_eq_zero_iff.1 hl1]; rfl
            · right
              refine ⟨a.block, a.off, ?_, ?_⟩
              · obtain ⟨x, y, z⟩ := a
                have := hspot (by omega)
                simp only at this; subst this; rfl
              · intro j v hj
                unfold flatC at hj
                rw [List.flatMap_map] at hj
                have hfl : ∀ q ∈ l, (q.1.headD default).cells.toList = q.1 := by
                  intro q hq
                  obtain ⟨v, p, e1, e2, k1, k2⟩ := hone q hq
                  have hc : v.cells = #[v] := by cases v <;> first | rfl | cases k2
                  simp only [e1, List.headD_cons, hc]
                obtain ⟨i, r, q, m1, m2, m3, m4⟩ := flat_get (sz := (E.ty e).size) (fun q hq => by rw [hfl q hq]; exact (hmem q hq).2.2.2) hj
                rw [m3]
                have hq := List.mem_of_getElem? m1
                refine hmu i q m1 r v ?_
                rw [hfl q hq] at m4
                exact m4
        · simp only [FitC, hkd]
          refine ⟨_, rfl, by simp [hl1]; omega, fun x hx => ?_⟩
          obtain ⟨q, hq, rfl⟩ := List.mem_map.1 hx
          obtain ⟨v, p, e1, e2, _, _⟩ := hone q hq
          exact ⟨q.2, (hmem q hq).2.1, .inr ⟨hea, by rw [e2]; rfl⟩⟩
  | struct fs =>
    rw [hkd] at hb hk
    simp only [Bool.and_eq_true] at hb
    simp only [KdOk] at hk
    obtain ⟨fields, rfl, hfs, hoks⟩ := hk
    obtain ⟨⟨_, htile⟩, hall⟩ := hb
    obtain ⟨xs, m, hm, _, hlen, _, hf⟩ := DataW.trod_struct hd h
    cases hm
    rw [cellsOf_eq T hok] at hlen
    obtain ⟨pcs, k1, k2, k3⟩ := tile_fit (g := Gh.all w) (Q := fun t cs => FitC E n t cs) (sz := fun t => (E.ty t).size) hlen fs 0 htile (by
      intro f hff
      rw [← hfs] at hff
      obtain ⟨fld, h1, h2⟩ := List.mem_map.1 hff
      obtain ⟨i, hi⟩ := List.mem_iff_getElem?.1 h1
      have hr := hf i fld (by simpa using hi)
      have hSf : f.2 ∈ S := by
        have := List.all_eq_true.1 hall f (by rw [← hfs]; exact hff)
        simpa using this
      have hokf : (E.ty f.2).ok = true := hoks f (by rw [← hfs]; exact hff)
      subst h2
      simp only at hSf hokf ⊢
      rw [cellsOf_eq T hokf] at hr
      have hix : i < xs.length := by
        have : i < fields.size := by
          have := (List.getElem?_eq_some_iff.1 hi).1
          simpa using this
        omega
      rw [List.getElem?_eq_getElem hix] at hr
      obtain ⟨pcs, q1, q2, q3, q4⟩ := ih _ _ _ hSf hr
      exact ⟨pcs, q1, q2, q3, q4⟩)
    exact ⟨pcs, by simpa using k1, by simp only [FitC, hkd]; exact k2, by simpa using k3, hlen⟩
  | _ => rw [hkd] at hb; cases hb
end
end Go.Pu
