/-
  Operations that leave memory as it is: what the evaluator answers is what the model answers.
-/
import Derived.Test.YtflehnedcjjdjaaGreatDoorPuA3
set_option linter.unusedSimpArgs false
set_option linter.unusedVariables false
namespace Go.Pu

def isAggD : TypeDesc → Bool
  | .struct _ | .array _ _ => true
  | _ => false

def KdOk (E : Env) : TK → TypeDesc → Prop
  | .int k, d => d = .int k
  | .bool, d => d = .bool
  | .str, d => d = .string
  | .slice e, d => d = .slice e ∧ (E.ty e).ok = true
  | .struct fs, d => ∃ fields, d = .struct fields ∧ fields.toList.map (fun f => (f.offset, f.type)) = fs ∧ ∀ p ∈ fs, (E.ty p.2).ok = true
  | .array n e, d => d = .array n e ∧ (E.ty e).ok = true
  | .ptr e, d => d = .pointer e
  | .map k e, d => d = .map k e ∧ (E.ty k).ok = true ∧ (E.ty e).ok = true
  | .iface, d => ∃ ms, d = .interface ms
  | .func, d => ∃ a b c, d = .func a b c
  | .other, _ => True

/-- Slices among zero values have no room. -/
def ZeroS (xs : List Value) : Prop := ∀ x ∈ xs, ∀ a n c, x = Value.slice a n c → c = n

structure TiOk (E : Env) (P : Program) (t : Nat) : Prop where
  info : ∃ i, P.info? t = some i ∧ i.size = (E.ty t).size ∧ i.bytes = (E.ty t).bytes ∧
    ((E.ty t).zero.length = (E.ty t).size → ∃ z, i.zero = some z ∧ One z.cells.toList ∧ ZeroS z.cells.toList ∧ ∀ g, VPs g (E.ty t).zero z.cells.toList ∧ VA g (zeroOf E t) z)
  kd : ∃ d, P.underlying t = some d ∧ KdOk E (E.ty t).kd d ∧ (E.ty t).agg = isAggD d

/-- What the evaluator is told of the program's types is so. -/
structure TyOk (E : Env) (P : Program) : Prop where
  real : ∀ t, (E.ty t).ok = true → TiOk E P t
  none : ∀ t, (E.ty t).ok = false → (E.ty t).size = 0 ∧ (E.ty t).agg = false ∧ (E.ty t).kd = .other

section
variable {E : Env} {P : Program}

theorem TyOk.of_kd (T : TyOk E P) {t : Nat} (h : (E.ty t).kd ≠ .other) : (E.ty t).ok = true := by
  cases e : (E.ty t).ok
  · exact absurd (T.none t e).2.2 h
  · rfl
theorem TyOk.of_agg (T : TyOk E P) {t : Nat} (h : (E.ty t).agg = true) : (E.ty t).ok = true := by
  cases e : (E.ty t).ok
  · have := (T.none t e).2.1; rw [h] at this; cases this
  · rfl
theorem TyOk.of_size (T : TyOk E P) {t : Nat} (h : (E.ty t).size ≠ 0) : (E.ty t).ok = true := by
  cases e : (E.ty t).ok
  · exact absurd (T.none t e).1 h
  · rfl

theorem run_sizeOf' (T : TyOk E P) {t : Nat} (h : (E.ty t).ok = true) (w : World) : (sizeOf t).run P w = .ok (E.ty t).size w := by
  obtain ⟨i, h1, h2, _⟩ := (T.real t h).info
  simp [sizeOf, typeInfo, h1, h2]

theorem run_typeInfo' (T : TyOk E P) {t : Nat} (h : (E.ty t).ok = true) (w : World) : ∃ i, (typeInfo t).run P w = .ok i w ∧ i.size = (E.ty t).size ∧ i.bytes = (E.ty t).bytes := by
  obtain ⟨i, h1, h2, h3, _⟩ := (T.real t h).info
  exact ⟨i, by simp [typeInfo, h1], h2, h3⟩

theorem run_zeroValue' (T : TyOk E P) {t : Nat} (h : (E.ty t).ok = true) (hz : (E.ty t).zero.length = (E.ty t).size) (w : World) :
    ∃ z, (zeroValue t).run P w = .ok z w ∧ One z.cells.toList ∧ ZeroS z.cells.toList ∧ ∀ g, VPs g (E.ty t).zero z.cells.toList ∧ VA g (zeroOf E t) z := by
  obtain ⟨i, h1, _, _, h4⟩ := (T.real t h).info
  obtain ⟨z, h5, h6⟩ := h4 hz
  exact ⟨z, by simp [zeroValue, typeInfo, h1, h5], h6⟩

theorem run_underlying' (T : TyOk E P) {t : Nat} (h : (E.ty t).ok = true) (w : World) : ∃ d, (underlying t).run P w = .ok d w ∧ KdOk E (E.ty t).kd d ∧ (E.ty t).agg = isAggD d := by
  obtain ⟨d, h1, h2⟩ := (T.real t h).kd
  exact ⟨d, by simp [underlying, h1], h2⟩

theorem run_isAgg' (T : TyOk E P) {t : Nat} (h : (E.ty t).ok = true) (w : World) : (isAgg t).run P w = .ok (E.ty t).agg w := by
  obtain ⟨d, h1, _, h3⟩ := run_underlying' T h w
  rw [h3]
  simp only [isAgg, Sem.run_bind, h1, Result.andThen_ok]
  cases d <;> rfl

theorem partO_ok (T : TyOk E P) {g : Gh} {t off : Nat} {cs : List AV} {xs : List Value} {v : AV} (h : VAs g cs xs) (ho : One xs) (he : partO E t off cs = some v) (w : World) :
    ∃ x, (part t xs.toArray off).run P w = .ok x w ∧ VA g v x ∧ (v.known = true ∨ True) := by
  unfold partO at he
  split at he
  · rename_i ha
    split at he
    · rename_i hl
      cases he
      have hk := T.of_agg ha
      refine ⟨.agg ((xs.drop off).take (E.ty t).size).toArray, ?_, mkAgg_ok (VAs_take _ (VAs_drop _ h)) ((ho.drop _).take _), .inr trivial⟩
      simp only [part, Sem.run_bind, run_isAgg' T hk, Result.andThen_ok, ha, if_true, run_sizeOf' T hk, Sem.run_pure]
      congr 1; congr 1
      simp [List.extract_toArray, List.extract_eq_take_drop]
    · cases he
  · rename_i ha
    split at he
    · rename_i hs
      have hk := T.of_size (t := t) (by omega)
      obtain ⟨x, h1, h2⟩ := VAs_get h he
      refine ⟨x, ?_, h2, .inr trivial⟩
      simp only [Bool.not_eq_true] at ha
      simp [part, run_isAgg' T hk, ha, h1]
    · cases he

theorem loadAt_ok (T : TyOk E P) {g : Gh} {H : Hp} {w : World} (R : Rel g H w) {t : Nat} {a v : AV} {x : Value} (h : VA g a x) (he : loadO E t H a = some v) :
    ∃ y, (Instr.loadAt t x).run P w = .ok y w ∧ VA g v y := by
  -- cells that stand there
  have key : ∀ (c o : Nat) (cs : List AV) (xs : List Value), VAs g cs xs → One xs → (∀ j y, xs[j]? = some y → w.cell? ⟨c, o + j, none⟩ = some y) → partO E t 0 cs = some v →
      ∃ y, (loadVar t ⟨c, o, none⟩).run P w = .ok y w ∧ VA g v y := by
    intro c o cs xs hv ho hc he
    unfold partO at he
    split at he
    · rename_i ha
      split at he
      · rename_i hl
        cases he
        have hk := T.of_agg ha
        have hlen := VAs_length hv
        have hl2 : (xs.take (E.ty t).size).length = (E.ty t).size := by simp; omega
        refine ⟨.agg (xs.take (E.ty t).size).toArray, ?_, mkAgg_ok (by simpa using VAs_take _ hv) (ho.take _)⟩
        simp only [loadVar, Sem.run_bind, run_isAgg' T hk, Result.andThen_ok, ha, if_true, run_sizeOf' T hk]
        have := run_loadCells P w c o (xs.take (E.ty t).size) (fun j y hj => by
          rw [List.getElem?_take] at hj; split at hj
          · exact hc j y hj
          · cases hj)
        rw [hl2] at this
        simp [this]
      · cases he
    · rename_i ha
      split at he
      · rename_i hs
        have hk := T.of_size (t := t) (by omega)
        obtain ⟨y, h1, h2⟩ := VAs_get hv he
        have := hc 0 y h1
        refine ⟨y, ?_, h2⟩
        simp only [Bool.not_eq_true] at ha
        simp only [Nat.add_zero] at this
        simp [loadVar, run_isAgg' T hk, ha, this]
      · cases he
  unfold loadO at he
  split at he
  · rename_i b o
    simp only [VA] at h
    obtain ⟨c, hc, rfl⟩ := h
    split at he
    · rename_i cs hb
      have hB := R.blk b _ hb
      simp only [BlkOk] at hB
      obtain ⟨c', t', vs, ex, h1, h2, h3, h4, h5⟩ := hB
      rw [hc] at h1; cases h1
      simp only [Instr.loadAt, Instr.sureAddr, Sem.run_bind, Sem.run_pure, Result.andThen_ok]
      have he' : partO E t 0 (cs.drop o) = some v := by
        rw [← he]; unfold partO
        simp only [List.drop_drop, Nat.add_zero, Nat.zero_add, List.length_drop, List.getElem?_drop]
        by_cases ha : (E.ty t).agg = true
        · simp only [ha, if_true]
          have hs : (E.ty t).size ≤ cs.length - o ↔ o + (E.ty t).size ≤ cs.length := by
            have hl : o + (E.ty t).size ≤ cs.length := by
              unfold partO at he; rw [if_pos ha] at he; split at he
              · assumption
              · cases he
            omega
          by_cases hh : o + (E.ty t).size ≤ cs.length
          · rw [if_pos hh, if_pos (hs.2 hh)]
          · rw [if_neg hh, if_neg (fun e => hh (hs.1 e))]
        · simp only [ha]; rfl
      refine key c o (cs.drop o) (vs.drop o) (VAs_drop _ h4) ((show One vs from fun u hu => h3 u (List.mem_append_left _ hu)).drop _) ?_ he'
      intro j y hj
      rw [cell_of h2, List.getElem?_drop] at *
      rw [List.getElem?_append_left]
      · exact hj
      · rcases Nat.lt_or_ge (o + j) vs.length with h6 | h6
        · exact h6
        · rw [List.getElem?_eq_none h6] at hj; cases hj
    · cases he
  · rename_i cs
    simp only [VA] at h
    obtain ⟨b, o, vs, rfl, h1, h2, h3⟩ := h
    simp only [Instr.loadAt, Instr.sureAddr, Sem.run_bind, Sem.run_pure, Result.andThen_ok]
    exact key b o cs vs h2 h1 (fun j y hj => R.mu _ _ _ (h3 j y hj)) he
  · cases he


theorem fieldOf_ok (T : TyOk E P) {t i off ft : Nat} (h : fieldOf E t i = some (off, ft)) (w : World) :
    ∃ fields f, (underlying t).run P w = .ok (.struct fields) w ∧ fields[i]? = some f ∧ f.offset = off ∧ f.type = ft ∧ (E.ty ft).ok = true := by
  unfold fieldOf at h
  split at h
  · rename_i fs hk
    obtain ⟨d, h1, h2, _⟩ := run_underlying' T (T.of_kd (t := t) (by rw [hk]; simp)) w
    rw [hk] at h2
    simp only [KdOk] at h2
    obtain ⟨fields, rfl, h3, h4⟩ := h2
    have h5 := h4 _ (List.mem_of_getElem? h)
    rw [← h3, List.getElem?_map] at h
    cases hf : fields.toList[i]? with
    | none => rw [hf] at h; cases h
    | some f =>
      rw [hf] at h
      simp only [Option.map_some, Option.some.injEq, Prod.mk.injEq] at h
      exact ⟨fields, f, h1, by rw [← hf]; simp, h.1, h.2, h5⟩
  · cases h

theorem fieldO_ok (T : TyOk E P) {g : Gh} {w : World} {t i : Nat} {a v : AV} {x : Value} (h : VA g a x) (he : fieldO E t a i = some v) :
    ∃ y, (Instr.field t x i).run P w = .ok y w ∧ VA g v y := by
  unfold fieldO at he
  split at he
  · rename_i off ft cs hf
    obtain ⟨fields, f, h1, h2, rfl, rfl, h3⟩ := fieldOf_ok T hf w
    simp only [VA, VP] at h
    obtain ⟨vs, rfl, ho, h⟩ := h
    obtain ⟨y, h4, h5, _⟩ := partO_ok T (VAs_pv h) ho he w
    exact ⟨y, by simp [Instr.field, h1, h2, asAgg, h4], h5⟩
  · rename_i off ft cs hf
    obtain ⟨fields, f, h1, h2, rfl, rfl, h3⟩ := fieldOf_ok T hf w
    simp only [VA] at h
    obtain ⟨vs, rfl, ho, h⟩ := h
    obtain ⟨y, h4, h5, _⟩ := partO_ok T h ho he w
    exact ⟨y, by simp [Instr.field, h1, h2, asAgg, h4], h5⟩
  · cases he

theorem fadrO_ok (T : TyOk E P) {g : Gh} {w : World} {t i : Nat} {a v : AV} {x : Value} (h : VA g a x) (he : fadrO E t a i = some v) :
    ∃ y, (Instr.fieldAt t x i).run P w = .ok y w ∧ VA g v y := by
  unfold fadrO at he
  split at he
  · rename_i off ft b o hf
    obtain ⟨fields, f, h1, h2, rfl, rfl, h3⟩ := fieldOf_ok T hf w
    simp only [VA] at h
    obtain ⟨c, hc, rfl⟩ := h
    split at he
    · cases he
    · rename_i hs
      cases he
      exact ⟨_, by simp [Instr.fieldAt, h1, h2, Instr.sureAddr, fieldPlace, run_sizeOf' T h3, hs]; rfl, by simp only [VA]; exact ⟨c, hc, by rw [addr_add]⟩⟩
  · rename_i off ft cs hf
    obtain ⟨fields, f, h1, h2, rfl, rfl, h3⟩ := fieldOf_ok T hf w
    simp only [VA] at h
    obtain ⟨b, o, vs, rfl, ho, h, hh⟩ := h
    split at he
    · cases he
    · rename_i hs
      cases he
      refine ⟨_, by simp [Instr.fieldAt, h1, h2, Instr.sureAddr, fieldPlace, run_sizeOf' T h3, hs]; rfl, ?_⟩
      simp only [VA]
      refine ⟨b, o + f.offset, vs.drop f.offset, by rw [addr_add], ho.drop _, VAs_drop _ h, ?_⟩
      intro j u hj
      rw [List.getElem?_drop] at hj
      have := hh _ u hj
      rw [Nat.add_assoc]; exact this
  · cases he

theorem idxO_ok {g : Gh} {i : AV} {x : Value} {n j : Nat} (h : VA g i x) (he : idxO i n = some j) : ∃ k z, x = .int k z ∧ 0 ≤ z ∧ z < (n : Int) ∧ j = z.toNat ∧ j < n := by
  unfold idxO at he
  split at he
  · rename_i k z
    simp only [VA, VP] at h
    split at he
    · rename_i hz
      cases he
      exact ⟨k, z, h, hz.1, hz.2, rfl, by omega⟩
    · cases he
  · cases he

theorem indexO_ok (T : TyOk E P) {g : Gh} {w : World} {t : Nat} {a i v : AV} {x z : Value} (h : VA g a x) (hi : VA g i z) (he : indexO E t a i = some v) :
    ∃ y, (Instr.index t x z).run P w = .ok y w ∧ VA g v y := by
  unfold indexO at he
  split at he
  · rename_i s hk
    obtain ⟨d, h1, h2, _⟩ := run_underlying' T (T.of_kd (t := t) (by rw [hk]; simp)) w
    rw [hk] at h2; simp only [KdOk] at h2; subst h2
    cases hj : idxO i s.length with
    | none => rw [hj] at he; cases he
    | some j =>
      rw [hj] at he
      obtain ⟨k, n, rfl, hn0, hn1, rfl, hjl⟩ := idxO_ok hi hj
      simp only [Option.bind_some] at he
      rw [List.getElem?_eq_getElem hjl] at he
      simp only [Option.map_some, Option.some.injEq] at he
      subst he
      simp only [VA, VP] at h; subst h
      refine ⟨_, ?_, by simp only [VA, VP]; rfl⟩
      have hb : (⟨s.toArray⟩ : ByteArray)[n.toNat]? = some (s[n.toNat]'hjl) := by
        rw [ByteArray.getElem?_lt' _ _ (by simpa [ByteArray.size] using hjl)]
        congr 1
      simp [Instr.index, asIntOf, h1, hn0, hb]
  · rename_i n e cs hk
    have hk' := T.of_kd (t := t) (by rw [hk]; simp)
    obtain ⟨d, h1, h2, _⟩ := run_underlying' T hk' w
    rw [hk] at h2; simp only [KdOk] at h2; obtain ⟨rfl, he'⟩ := h2
    cases hj : idxO i n with
    | none => rw [hj] at he; cases he
    | some j =>
      rw [hj] at he
      obtain ⟨k, m, rfl, hn0, hn1, rfl, hjl⟩ := idxO_ok hi hj
      simp only [Option.bind_some] at he
      simp only [VA, VP] at h
      obtain ⟨vs, rfl, ho, h⟩ := h
      obtain ⟨y, h4, h5, _⟩ := partO_ok T (VAs_pv h) ho he w
      exact ⟨y, by simp [Instr.index, asIntOf, h1, hn0, hn1, run_sizeOf' T he', h4], h5⟩
  · rename_i n e cs hk
    have hk' := T.of_kd (t := t) (by rw [hk]; simp)
    obtain ⟨d, h1, h2, _⟩ := run_underlying' T hk' w
    rw [hk] at h2; simp only [KdOk] at h2; obtain ⟨rfl, he'⟩ := h2
    cases hj : idxO i n with
    | none => rw [hj] at he; cases he
    | some j =>
      rw [hj] at he
      obtain ⟨k, m, rfl, hn0, hn1, rfl, hjl⟩ := idxO_ok hi hj
      simp only [Option.bind_some] at he
      simp only [VA] at h
      obtain ⟨vs, rfl, ho, h⟩ := h
      obtain ⟨y, h4, h5, _⟩ := partO_ok T h ho he w
      exact ⟨y, by simp [Instr.index, asIntOf, h1, hn0, hn1, run_sizeOf' T he', h4], h5⟩
  · cases he


theorem flatC_get : ∀ {vs : List Value} {sz j i : Nat} {v c : Value}, (∀ v ∈ vs, v.cells.size = sz ∧ One v.cells.toList) → vs[j]? = some v → v.cells.toList[i]? = some c → (flatC vs)[j * sz + i]? = some c
  | [], sz, j, i, v, c, _, hj, _ => by simp at hj
  | u :: vs, sz, j, i, v, c, h, hj, hc => by
    have hu := (h u (by simp)).1
    have hu' : u.cells.toList.length = sz := by simpa using hu
    simp only [flatC, List.flatMap_cons]
    cases j with
    | zero =>
      simp at hj; subst hj
      rw [Nat.zero_mul, Nat.zero_add, List.getElem?_append_left]
      · exact hc
      · rcases Nat.lt_or_ge i u.cells.toList.length with h1 | h1
        · exact h1
        · rw [List.getElem?_eq_none h1] at hc; cases hc
    | succ j =>
      simp only [List.getElem?_cons_succ] at hj
      rw [List.getElem?_append_right (by rw [hu', Nat.succ_mul]; omega)]
      have := flatC_get (vs := vs) (sz := sz) (fun v hv => h v (by simp [hv])) hj hc
      rw [hu', show (j + 1) * sz + i - sz = j * sz + i from by rw [Nat.succ_mul]; omega]
      exact this

theorem flatC_length : ∀ {vs : List Value} {sz : Nat}, (∀ v ∈ vs, v.cells.size = sz ∧ One v.cells.toList) → (flatC vs).length = vs.length * sz
  | [], sz, _ => by simp [flatC]
  | u :: vs, sz, h => by
    have hu : u.cells.toList.length = sz := by simpa using (h u (by simp)).1
    have := flatC_length (vs := vs) (sz := sz) (fun v hv => h v (by simp [hv]))
    simp only [flatC, List.flatMap_cons, List.length_append, List.length_cons] at this ⊢
    rw [hu, this, Nat.succ_mul]; omega

theorem flatC_one : ∀ {vs : List Value} {sz : Nat}, (∀ v ∈ vs, v.cells.size = sz ∧ One v.cells.toList) → One (flatC vs)
  | [], _, _ => by intro v hv; simp [flatC] at hv
  | u :: vs, sz, h => by
    simp only [flatC, List.flatMap_cons]
    exact (h u (by simp)).2.append (flatC_one (vs := vs) (fun v hv => h v (by simp [hv])))

theorem addr_mul (b o i s : Nat) : (⟨b, o, none⟩ : Addr).add (i * s) = ⟨b, o + i * s, none⟩ := addr_add b o (i * s)

/-- The address of an element of a slice that nobody changes. -/
theorem elem_ok (T : TyOk E P) {g : Gh} {w : World} {t e n cap : Nat} {a : Option Addr} {vs : List Value} {i : AV} {z : Value} (hk : (E.ty t).kd = .slice e) (hi : VA g i z) {j : Nat} (hj : idxO i n = some j)
    (hl : Lies g (E.ty e).size a vs) (hn : vs.length = n) : ∃ u b o, vs[j]? = some u ∧ (Instr.indexAt t (.slice a n cap) z).run P w = .ok (.pointer (some ⟨b, o, none⟩)) w ∧ Holds g.mu b o u.cells.toList ∧ One u.cells.toList := by
  obtain ⟨d, h1, h2, _⟩ := run_underlying' T (T.of_kd (t := t) (by rw [hk]; simp)) w
  rw [hk] at h2; simp only [KdOk] at h2; obtain ⟨rfl, he⟩ := h2
  obtain ⟨k, m, rfl, hn0, hn1, rfl, hjl⟩ := idxO_ok hi hj
  obtain ⟨hc, hl⟩ := hl
  rcases hl with rfl | ⟨b, o, rfl, hh⟩
  · simp at hn; omega
  · have hu : vs[m.toNat]? = some (vs[m.toNat]'(by omega)) := List.getElem?_eq_getElem (by omega)
    refine ⟨_, b, o + m.toNat * (E.ty e).size, hu, ?_, ?_, (hc _ (List.mem_of_getElem? hu)).2⟩
    · simp [Instr.indexAt, asIntOf, h1, hn0, hn1, run_sizeOf' T he, addr_add]
    · intro q c hq
      have := hh _ _ (flatC_get hc hu hq)
      rw [Nat.add_assoc]; exact this

theorem elemO_ok (T : TyOk E P) {g : Gh} {w : World} {t e sz : Nat} {es : List PV} {i v : AV} {x z : Value} (hk : (E.ty t).kd = .slice e) (h : VP g (.lst sz es) x) (hi : VA g i z) (he : elemO sz (E.ty e).size es i = some v) :
    ∃ y, (Instr.indexAt t x z).run P w = .ok y w ∧ VA g v y := by
  unfold elemO at he
  split at he
  · rename_i hs
    simp only [beq_iff_eq] at hs; subst hs
    cases hj : idxO i es.length with
    | none => rw [hj] at he; cases he
    | some j =>
      rw [hj] at he
      simp only [VP] at h
      obtain ⟨a, cap, vs, rfl, hcap, hv, hl⟩ := h
      obtain ⟨u, b, o, h1, h2, h3, h4⟩ := elem_ok T hk hi hj hl (VPs_length hv) (w := w) (cap := cap)
      have hjl := (idxO_ok hi hj).choose_spec.choose_spec.2.2.2.2
      simp only [Option.bind_some] at he
      rw [List.getElem?_eq_getElem hjl] at he
      simp only [Option.map_some, Option.some.injEq] at he
      subst he
      obtain ⟨u', h5, h6⟩ := VPs_get hv (List.getElem?_eq_getElem hjl)
      rw [h1] at h5; cases h5
      refine ⟨_, h2, ?_⟩
      simp only [VA]
      exact ⟨b, o, _, rfl, h4, VAs_pv (VP_cells h6), h3⟩
  · cases he

theorem iadrO_ok (T : TyOk E P) {g : Gh} {w : World} {t : Nat} {a i v : AV} {x z : Value} (h : VA g a x) (hi : VA g i z) (he : iadrO E t a i = some v) :
    ∃ y, (Instr.indexAt t x z).run P w = .ok y w ∧ VA g v y := by
  unfold iadrO at he
  split at he
  · rename_i e hk
    split at he
    · simp only [VA] at h; exact elemO_ok T hk h hi he
    · simp only [VA] at h; exact elemO_ok T hk h.1 hi he
    · simp only [VA] at h; exact elemO_ok T hk h.1 hi he
    · rename_i sz es
      split at he
      · rename_i hs
        simp only [beq_iff_eq] at hs; subst hs
        cases hj : idxO i es.length with
        | none => rw [hj] at he; cases he
        | some j =>
          rw [hj] at he
          simp only [VA] at h
          obtain ⟨hkn, a, cap, vs, rfl, hcap, hv, hl⟩ := h
          obtain ⟨u, b, o, h1, h2, h3, h4⟩ := elem_ok T hk hi hj hl (VAs_length hv) (w := w) (cap := cap)
          have hjl := (idxO_ok hi hj).choose_spec.choose_spec.2.2.2.2
          simp only [Option.bind_some] at he
          rw [List.getElem?_eq_getElem hjl] at he
          simp only [Option.map_some, Option.some.injEq] at he
          subst he
          obtain ⟨u', h5, h6⟩ := VAs_get hv (List.getElem?_eq_getElem hjl)
          rw [h1] at h5; cases h5
          refine ⟨_, h2, ?_⟩
          simp only [VA]
          exact ⟨b, o, _, rfl, h4, VA_cells h6 (hkn _ (List.getElem_mem hjl)), h3⟩
      · cases he
    · rename_i b off len cap sz ag
      split at he
      · rename_i hs
        simp only [beq_iff_eq] at hs; subst hs
        cases hj : idxO i len with
        | none => rw [hj] at he; cases he
        | some j =>
          rw [hj] at he
          simp only [VA] at h
          obtain ⟨c, a, cap', hc, rfl, hcap, hcap', ha⟩ := h
          obtain ⟨d, h1, h2, _⟩ := run_underlying' T (T.of_kd (t := t) (by rw [hk]; simp)) w
          rw [hk] at h2; simp only [KdOk] at h2; obtain ⟨rfl, he'⟩ := h2
          obtain ⟨k, m, rfl, hn0, hn1, rfl, hjl⟩ := idxO_ok hi hj
          have ha := ha.resolve_left (by omega)
          subst ha
          simp only [Option.map_some, Option.some.injEq] at he
          subst he
          refine ⟨_, by simp [Instr.indexAt, asIntOf, h1, hn0, hn1, run_sizeOf' T he', addr_add]; rfl, ?_⟩
          simp only [VA]; exact ⟨c, hc, rfl⟩
      · cases he
    · cases he
  · rename_i n e hk
    have hk' := T.of_kd (t := t) (by rw [hk]; simp)
    obtain ⟨d, h1, h2, _⟩ := run_underlying' T hk' w
    rw [hk] at h2; simp only [KdOk] at h2; obtain ⟨rfl, he'⟩ := h2
    split at he
    · rename_i b o
      cases hj : idxO i n with
      | none => rw [hj] at he; cases he
      | some j =>
        rw [hj] at he
        simp only [VA] at h
        obtain ⟨c, hc, rfl⟩ := h
        obtain ⟨k, m, rfl, hn0, hn1, rfl, hjl⟩ := idxO_ok hi hj
        simp only [Option.map_some, Option.some.injEq] at he
        subst he
        refine ⟨_, by simp [Instr.indexAt, asIntOf, h1, hn0, hn1, Instr.sureAddr, run_sizeOf' T he', addr_add]; rfl, ?_⟩
        simp only [VA]; exact ⟨c, hc, rfl⟩
    · rename_i cs
      cases hj : idxO i n with
      | none => rw [hj] at he; cases he
      | some j =>
        rw [hj] at he
        simp only [VA] at h
        obtain ⟨b, o, vs, rfl, ho, h, hh⟩ := h
        obtain ⟨k, m, rfl, hn0, hn1, rfl, hjl⟩ := idxO_ok hi hj
        simp only [Option.map_some, Option.some.injEq] at he
        subst he
        refine ⟨_, by simp [Instr.indexAt, asIntOf, h1, hn0, hn1, Instr.sureAddr, run_sizeOf' T he', addr_add]; rfl, ?_⟩
        simp only [VA]
        refine ⟨b, o + m.toNat * (E.ty e).size, vs.drop (m.toNat * (E.ty e).size), rfl, ho.drop _, VAs_drop _ h, ?_⟩
        intro q u hq
        rw [List.getElem?_drop] at hq
        have := hh _ u hq
        rw [Nat.add_assoc]; exact this
    · cases he
  · cases he


/-! ### Cutting -/

def OptVA (g : Gh) (o : Option AV) (v : Option Value) : Prop := match o, v with | none, none => True | some a, some x => VA g a x | _, _ => False

theorem boundO_ok {g : Gh} {d hi n : Nat} {o : Option AV} {v : Option Value} (hd : d ≤ hi) (h : OptVA g o v) (he : boundO d hi o = some n) :
    n ≤ hi ∧ ((v = none ∧ n = d) ∨ ∃ k z, v = some (.int k z) ∧ 0 ≤ z ∧ z ≤ (hi : Int) ∧ n = z.toNat) := by
  cases o with
  | none =>
    cases v with
    | none => simp only [boundO, Option.some.injEq] at he; subst he; exact ⟨hd, .inl ⟨rfl, rfl⟩⟩
    | some x => exact h.elim
  | some a =>
    cases v with
    | none => exact h.elim
    | some x =>
      simp only [boundO] at he
      obtain ⟨k, z, rfl, h0, h1, rfl, h2⟩ := idxO_ok h he
      exact ⟨by omega, .inr ⟨k, z, rfl, h0, by omega, rfl⟩⟩

theorem run_sliceBounds {P : Program} (isSlice : Bool) {len cap l h : Nat} {lo hi : Option Value} (w : World)
    (hl : (lo = none ∧ l = 0) ∨ ∃ k z, lo = some (.int k z) ∧ 0 ≤ z ∧ z ≤ (h : Int) ∧ l = z.toNat)
    (hh : (hi = none ∧ h = len) ∨ ∃ k z, hi = some (.int k z) ∧ 0 ≤ z ∧ z ≤ (cap : Int) ∧ h = z.toNat) :
    (Instr.sliceBounds isSlice len cap lo hi none).run P w = .ok (l, h, cap) w := by
  have hb : ∀ (k : IntKind) (z : Int) (y : Nat) (c : BoundsCode), 0 ≤ z → z ≤ (y : Int) → (Instr.sliceBound (.int k z) y c).run P w = .ok z.toNat w := by
    intro k z y c h0 h1
    simp [Instr.sliceBound, asIntOf, h0, h1]
  rcases hl with ⟨rfl, rfl⟩ | ⟨k, z, rfl, l0, l1, rfl⟩ <;> rcases hh with ⟨rfl, rfl⟩ | ⟨k', z', rfl, h0, h1, rfl⟩
  · simp [Instr.sliceBounds]
  · simp [Instr.sliceBounds, hb _ _ _ _ h0 h1]
  · simp [Instr.sliceBounds, hb _ _ _ _ l0 l1]
  · simp [Instr.sliceBounds, hb _ _ _ _ h0 h1, hb _ _ _ _ l0 l1]

theorem run_sliceBounds3 {P : Program} {len cap l h : Nat} {lo hi mx : Option Value} (w : World)
    (hl : (lo = none ∧ l = 0) ∨ ∃ k z, lo = some (.int k z) ∧ 0 ≤ z ∧ z ≤ (h : Int) ∧ l = z.toNat)
    (hh : ∃ k z, hi = some (.int k z) ∧ 0 ≤ z ∧ h = z.toNat) (hm : ∃ k z, mx = some (.int k z) ∧ 0 ≤ z ∧ z ≤ (cap : Int) ∧ h = z.toNat) :
    (Instr.sliceBounds true len cap lo hi mx).run P w = .ok (l, h, h) w := by
  have hb : ∀ (k : IntKind) (z : Int) (y : Nat) (c : BoundsCode), 0 ≤ z → z ≤ (y : Int) → (Instr.sliceBound (.int k z) y c).run P w = .ok z.toNat w := by
    intro k z y c h0 h1
    simp [Instr.sliceBound, asIntOf, h0, h1]
  obtain ⟨k', z', rfl, h0, rfl⟩ := hh
  obtain ⟨k'', z'', rfl, m0, m1, hzz⟩ := hm
  have e1 : z' ≤ (z''.toNat : Int) := by omega
  rcases hl with ⟨rfl, rfl⟩ | ⟨k, z, rfl, l0, l1, rfl⟩
  · simp [Instr.sliceBounds, hb _ _ _ _ m0 m1, hb _ _ _ _ h0 e1, hzz]
  · have e2 : z ≤ (z''.toNat : Int) := by omega
    simp [Instr.sliceBounds, hb _ _ _ _ m0 m1, hb _ _ _ _ h0 e1, hb _ _ _ _ l0 e2, hzz]

theorem Lies_cut {g : Gh} {sz : Nat} {a : Option Addr} {vs : List Value} {l h m : Nat} (hl : Lies g sz a vs) (hlh : l ≤ h) (hh : h ≤ vs.length) (hmm : h ≤ m) :
    Lies g sz (if m = l then a else a.map (·.add (l * sz))) ((vs.drop l).take (h - l)) := by
  refine ⟨fun v hv => hl.1 v (List.mem_of_mem_drop (List.mem_of_mem_take hv)), ?_⟩
  by_cases he : (vs.drop l).take (h - l) = []
  · exact .inl he
  · right
    have hne : l < h := by
      rcases Nat.lt_or_ge l h with h1 | h1
      · exact h1
      · exact absurd (by simp [show h - l = 0 by omega]) he
    rcases hl.2 with rfl | ⟨b, o, rfl, hh'⟩
    · simp at he
    · have key : Holds g.mu b (o + l * sz) (flatC ((vs.drop l).take (h - l))) := by
        intro i c hc
        have e1 : flatC vs = flatC (vs.take l) ++ (flatC ((vs.drop l).take (h - l)) ++ flatC (vs.drop h)) := by
          simp only [flatC, ← List.flatMap_append]
          congr 1
          have : vs.drop h = (vs.drop l).drop (h - l) := by rw [List.drop_drop]; congr 1; omega
          rw [this, List.take_append_drop, List.take_append_drop]
        have e2 : (flatC (vs.take l)).length = l * sz := by
          rw [flatC_length (sz := sz) (fun v hv => hl.1 v (List.mem_of_mem_take hv)), List.length_take]
          congr 1; omega
        have := hh' (l * sz + i) c (by
          rw [e1, List.getElem?_append_right (by omega), e2, Nat.add_sub_cancel_left, List.getElem?_append_left]
          · exact hc
          · rcases Nat.lt_or_ge i (flatC ((vs.drop l).take (h - l))).length with h1 | h1
            · exact h1
            · rw [List.getElem?_eq_none h1] at hc; cases hc)
        rw [Nat.add_assoc]; exact this
      exact ⟨b, o + l * sz, by simp [show m ≠ l by omega, addr_add], key⟩

theorem cutO_ok {g : Gh} {sz : Nat} {es : List PV} {x : Value} {l h m : Nat} {full : Bool} (hx : VP g (.lst sz es) x) (hlh : l ≤ h) (hh : h ≤ es.length) (hmm : h ≤ m) (hf : full = true → m = h) :
    ∃ a len cap, x = .slice a len cap ∧ len = es.length ∧ len ≤ cap ∧ VA g (cutO sz es full l h) (.slice (if m = l then a else a.map (·.add (l * sz))) (h - l) (m - l)) := by
  simp only [VP] at hx
  obtain ⟨a, cap, vs, rfl, hcap, hv, hl⟩ := hx
  have hn := VPs_length hv
  refine ⟨a, es.length, cap, rfl, rfl, hcap, ?_⟩
  have hL : ((es.drop l).take (h - l)).length = h - l := by simp; omega
  have key : VP g (.lst sz ((es.drop l).take (h - l))) (.slice (if m = l then a else a.map (·.add (l * sz))) (h - l) (m - l)) := by
    simp only [VP]
    exact ⟨_, m - l, (vs.drop l).take (h - l), by rw [hL], by rw [hL]; omega, VPs_take _ (VPs_drop _ hv), Lies_cut hl hlh (by omega) hmm⟩
  unfold cutO
  split
  · rename_i hfu
    have := hf hfu; subst this
    simp only [VA]; exact ⟨key, _, _, rfl⟩
  · simp only [VA]; exact key

theorem cutsO_ok (T : TyOk E P) {g : Gh} {w : World} {t e sz : Nat} {es : List PV} {x : Value} {lo hi mx : Option AV} {lo' hi' mx' : Option Value} {v : AV} (hk : (E.ty t).kd = .slice e)
    (hx : VP g (.lst sz es) x) (hsz : sz = (E.ty e).size ∨ es = []) (hlo : OptVA g lo lo') (hhi : OptVA g hi hi') (hmx : OptVA g mx mx') (he : cutsO sz es lo hi mx = some v) :
    ∃ y, (Instr.sliceAt t x lo' hi' mx').run P w = .ok y w ∧ VA g v y := by
  obtain ⟨d, h1, h2, _⟩ := run_underlying' T (T.of_kd (t := t) (by rw [hk]; simp)) w
  rw [hk] at h2; simp only [KdOk] at h2; obtain ⟨rfl, hek⟩ := h2
  -- an empty slice may be told with any size
  have hx' : VP g (.lst (E.ty e).size es) x := by
    rcases hsz with rfl | rfl
    · exact hx
    · simp only [VP] at hx ⊢
      obtain ⟨a, cap, vs, rfl, hcap, hv, hl⟩ := hx
      simp only [VPs] at hv; subst hv
      exact ⟨a, cap, [], rfl, hcap, by simp [VPs], by simp, .inl rfl⟩
  unfold cutsO at he
  cases hh : boundO es.length es.length hi with
  | none => rw [hh] at he; cases he
  | some h =>
    rw [hh] at he
    simp only [Option.bind_some] at he
    cases hl : boundO 0 h lo with
    | none => rw [hl] at he; cases he
    | some l =>
      rw [hl] at he
      simp only [Option.bind_some] at he
      obtain ⟨b1, b2⟩ := boundO_ok (Nat.le_refl _) hhi hh
      obtain ⟨c1, c2⟩ := boundO_ok (Nat.zero_le _) hlo hl
      -- what is cut out of no elements may have any size
      have hcut : ∀ full (y : Value), VA g (cutO (E.ty e).size es full l h) y → VA g (cutO sz es full l h) y := by
        intro full y hy
        rcases hsz with rfl | rfl
        · exact hy
        · unfold cutO at hy ⊢
          simp only [List.drop_nil, List.take_nil] at hy ⊢
          have hany : ∀ s s' y, VP g (.lst s []) y → VP g (.lst s' []) y := by
            intro s s' y hy
            simp only [VP] at hy ⊢
            obtain ⟨a, cap, vs, rfl, hcap, hv, hl⟩ := hy
            simp only [VPs] at hv; subst hv
            exact ⟨a, cap, [], rfl, hcap, by simp [VPs], by simp, .inl rfl⟩
          split
          · rename_i hf; simp only [hf, if_true, VA] at hy; simp only [VA]; exact ⟨hany _ _ _ hy.1, hy.2⟩
          · rename_i hf; simp only [hf, if_false, VA] at hy; simp only [VA]; exact hany _ _ _ hy
      cases mx with
      | none =>
        cases mx' with
        | some _ => exact hmx.elim
        | none =>
          simp only [Option.some.injEq] at he; subst he
          have hxs := hx'
          simp only [VP] at hxs
          obtain ⟨a0, cap0, vs0, rfl, hcap0, _, _⟩ := hxs
          obtain ⟨a, len, cap, hx0, h3, h4, h5⟩ := cutO_ok (m := cap0) (full := false) hx' c1 b1 (by omega) (by simp)
          simp only [Value.slice.injEq] at hx0
          obtain ⟨rfl, rfl, rfl⟩ := hx0
          refine ⟨_, ?_, hcut _ _ h5⟩
          have hb := run_sliceBounds (P := P) true (len := es.length) (cap := cap0) (lo := lo') (hi := hi') (l := l) (h := h) w c2 (by
            rcases b2 with ⟨rfl, rfl⟩ | ⟨k, z, rfl, z0, z1, rfl⟩
            · exact .inl ⟨rfl, rfl⟩
            · exact .inr ⟨k, z, rfl, z0, by omega, rfl⟩)
          simp [Instr.sliceAt, Instr.slice, h1, hb, run_sizeOf' T hek]
      | some m =>
        cases mx' with
        | none => exact hmx.elim
        | some m' =>
          simp only [] at he
          split at he
          · cases he
          rename_i hhin
          cases hm : idxO m (es.length + 1) with
          | none => rw [hm] at he; cases he
          | some mm =>
            rw [hm] at he
            simp only [Option.bind_some] at he
            split at he
            · rename_i hmh
              simp only [Option.some.injEq] at he; subst he; subst hmh
              obtain ⟨km, zm, rfl, m0, m1, hmz, _⟩ := idxO_ok hmx hm
              have hxs := hx'
              simp only [VP] at hxs
              obtain ⟨a0, cap0, vs0, rfl, hcap0, _, _⟩ := hxs
              obtain ⟨a, len, cap, hx0, h3, h4, h5⟩ := cutO_ok (m := mm) (full := true) hx' c1 b1 (by omega) (by simp)
              simp only [Value.slice.injEq] at hx0
              obtain ⟨rfl, rfl, rfl⟩ := hx0
              rcases b2 with ⟨rfl, rfl⟩ | ⟨k, z, rfl, z0, z1, hz⟩
              · -- s[lo::mx] is no Go
                cases hi with
                | none => simp at hhin
                | some _ => exact hhi.elim
              · refine ⟨_, ?_, hcut _ _ h5⟩
                have hb := run_sliceBounds3 (P := P) (len := es.length) (cap := cap0) (lo := lo') (hi := some (.int k z)) (mx := some (.int km zm)) (l := l) (h := mm) w c2
                  ⟨k, z, rfl, z0, hz⟩ ⟨km, zm, rfl, m0, by omega, hmz⟩
                simp [Instr.sliceAt, Instr.slice, h1, hb, run_sizeOf' T hek]
            · cases he

end

end Go.Pu
