/-
  The rest of the operations on memory.
-/
import Derived.Test.YtflehnedcjjdjaaGreatDoorPuA8
import Derived.Test.YtflehnedcjjdjaaGreatDoorPuA9
import Derived.Carry
set_option linter.unusedSimpArgs false
set_option linter.unusedVariables false
namespace Go.Pu

section
variable {E : Env} {P : Program}

theorem makeMap_ok {g : Gh} {H : Hp} {w : World} (R : Rel g H w) (t : TypeId) :
    ∃ y w' g', (Instr.makeMap t none).run P w = .ok y w' ∧ VA g' (.map H.length) y ∧ Rel g' (H ++ [.map [] []]) w' ∧ Ext H.length g w g' w' := by
  obtain ⟨R1, E1⟩ := R.new (k := .map [] []) (o := .map #[] 0) (by
    simp only [BlkOk]
    refine ⟨w.heap.size, #[], 0, by simp [Gh.addIo], alloc_new w _, by simp [VPs], by simp [VAs], ?_⟩
    cases e : g.nu w.heap.size with
    | none => exact e
    | some es => obtain ⟨clk, h⟩ := R.nu _ _ e; simp at h)
  exact ⟨_, _, _, rfl, by simp only [VA]; exact ⟨w.heap.size, by simp [Gh.addIo], rfl⟩, R1, E1⟩

theorem pvEq_eq {g : Gh} {k k' : PV} {x y : Value} (hx : VP g k x) (hy : VP g k' y) (h : pvEq (kindOfKey k) k k' = some true) : k' = k ∧ y = x := by
  unfold kindOfKey at h
  split at h
  · cases k' <;> simp only [pvEq, reduceCtorEq] at h
    split at h
    · rename_i e; subst e
      simp only [Option.some.injEq, beq_iff_eq] at h; subst h
      simp only [VP] at hx hy; subst hx hy; exact ⟨rfl, rfl⟩
    · cases h
  · cases k' <;> simp only [pvEq, reduceCtorEq, Option.some.injEq, beq_iff_eq] at h
    subst h; simp only [VP] at hx hy; subst hx hy; exact ⟨rfl, rfl⟩
  · cases k <;> cases k' <;> simp only [pvEq, reduceCtorEq, Option.some.injEq, beq_iff_eq] at h
    subst h; simp only [VP] at hx hy; subst hx hy; exact ⟨rfl, rfl⟩

theorem mapPut_ok {g : Gh} {d : TypeDesc} {k : PV} {x : Value} (hk : VP g k x) (hd : KeyD d k) {v : AV} : ∀ (ks : List PV) (vs : List AV) (es : List MapEntry) (i : Nat) (r : List PV × List AV),
    VPs g ks (es.map (·.key)) → VAs g vs (es.map (·.val)) → mapPut k v ks vs = some r →
    (Instr.findNow d x es i = some none ∧ r = (ks ++ [k], vs ++ [v])) ∨ ∃ j e, Instr.findNow d x es i = some (some (i + j, e.val)) ∧ es[j]? = some e ∧ e.key = x ∧ r = (ks, vs.set j v)
  | ks, vs, [], i, r, h1, h2, he => by
    have e1 : ks = [] := List.eq_nil_of_length_eq_zero (by have := VPs_length h1; simpa using this.symm)
    have e2 : vs = [] := List.eq_nil_of_length_eq_zero (by have := VAs_length h2; simpa using this.symm)
    subst e1 e2
    simp only [mapPut, Option.some.injEq] at he; subst he
    exact .inl ⟨rfl, rfl⟩
  | ks, vs, e :: es, i, r, h1, h2, he => by
    cases ks with
    | nil => simp only [VPs] at h1; cases h1
    | cons k' ks =>
      cases vs with
      | nil => simp only [VAs] at h2; cases h2
      | cons u vs =>
        simp only [List.map_cons, VPs] at h1
        simp only [List.map_cons, VAs] at h2
        obtain ⟨y, r1, e1, hy, h1⟩ := h1
        obtain ⟨z, r2, e2, hz, h2⟩ := h2
        cases e1; cases e2
        simp only [mapPut] at he
        split at he
        · rename_i hp
          cases he
          obtain ⟨rfl, ex⟩ := pvEq_eq hk hy hp
          refine .inr ⟨0, e, ?_, by simp, ex, by simp⟩
          simp only [Instr.findNow, sameNow_ok hk hy hd hp, Nat.add_zero]
        · rename_i hp
          obtain ⟨⟨a, c⟩, h3, rfl⟩ := Option.map_eq_some_iff.1 he
          rcases mapPut_ok hk hd ks vs es (i + 1) (a, c) h1 h2 h3 with ⟨h4, h5⟩ | ⟨j, e', h4, h5, h6, h7⟩
          · cases h5
            exact .inl ⟨by simp only [Instr.findNow, sameNow_ok hk hy hd hp]; exact h4, rfl⟩
          · cases h7
            refine .inr ⟨j + 1, e', ?_, by simpa using h5, h6, by simp⟩
            simp only [Instr.findNow, sameNow_ok hk hy hd hp]
            rw [h4, show i + 1 + j = i + (j + 1) by omega]
        · cases he

theorem sameBits_key {g : Gh} {d : TypeDesc} {k : PV} {x : Value} (hk : VP g k x) (hd : KeyD d k) (n : Nat) : Instr.sameBits n x x = true := by
  cases d <;> cases k <;> simp only [KeyD] at hd
  all_goals
    simp only [VP] at hk; subst hk
    cases n <;> simp [Instr.sameBits, beq_toListBytes]

theorem VPs_snoc {g : Gh} {ks : List PV} {k : PV} {xs : List Value} {x : Value} (h : VPs g ks xs) (hk : VP g k x) : VPs g (ks ++ [k]) (xs ++ [x]) := VPs_append h (by simp only [VPs]; exact ⟨x, [], rfl, hk, rfl⟩)
theorem VAs_snoc {g : Gh} {ks : List AV} {k : AV} {xs : List Value} {x : Value} (h : VAs g ks xs) (hk : VA g k x) : VAs g (ks ++ [k]) (xs ++ [x]) := VAs_append h (by simp only [VAs]; exact ⟨x, [], rfl, hk, rfl⟩)

theorem VAs_set2 {g : Gh} : ∀ {as : List AV} {xs : List Value} {i : Nat} {v : AV} {x : Value}, VAs g as xs → VA g v x → VAs g (as.set i v) (xs.set i x)
  | [], xs, i, v, x, h, _ => by simp only [VAs] at h; subst h; simp [VAs]
  | a :: as, xs, i, v, x, h, hv => by
    simp only [VAs] at h; obtain ⟨y, r, rfl, hy, h⟩ := h
    cases i with
    | zero => simp only [List.set_cons_zero, VAs]; exact ⟨x, r, rfl, hv, h⟩
    | succ i => simp only [List.set_cons_succ, VAs]; exact ⟨y, _, rfl, hy, VAs_set2 h hv⟩

theorem mputO_ok (T : TyOk E P) {g : Gh} {H H' : Hp} {w : World} (R : Rel g H w) {bases : List Nat} {t : Nat} {m k v : AV} {x y z : Value} (hm : VA g m x) (hk : VA g k y) (hv : VA g v z) (he : mputO E t bases H m k v = some H') :
    ∃ w', (Instr.mapUpdate t x y z).run P w = .ok () w' ∧ Rel g H' w' ∧ Ext H.length g w g w' ∧ H'.length = H.length := by
  unfold mputO at he
  split at he
  · rename_i kt e b k hkd
    have hok := T.of_kd (t := t) (by rw [hkd]; simp)
    obtain ⟨d, h1, h2, _⟩ := run_underlying' T hok w
    rw [hkd] at h2; simp only [KdOk] at h2; obtain ⟨rfl, hkok, heok⟩ := h2
    split at he
    · rename_i hc
      simp only [Bool.and_eq_true] at hc
      obtain ⟨dk, k1, k2⟩ := keyIs_ok T hc.1
      simp only [VA] at hk hm
      obtain ⟨c, hio, rfl⟩ := hm
      have hck : (Instr.checkKey false 10000 kt y).run P w = .ok () w := checkKey_ok (P := P) hk k1 k2 false 9999 w
      split at he
      · rename_i ks vs hb
        obtain ⟨⟨a, cc⟩, h3, rfl⟩ := Option.map_eq_some_iff.1 he
        have hB := R.blk b _ hb
        simp only [BlkOk] at hB
        obtain ⟨c', es, clk, b1, b2, b3, b4, b5⟩ := hB
        rw [hio] at b1; cases b1
        have hgo : (getObj c).run P w = .ok (.map es clk) w := by simp [getObj, Sem.run, b2]
        have hset : ∀ o, (setObj c o).run P w = .ok () (w.withBlk c o) := fun o => by simp [setObj, Sem.run, b2, World.withBlk]
        have hfk : ∀ o, Instr.findNow dk y es.toList 0 = some o → (Instr.findKey kt y es.toList).run P w = .ok o w := fun o hf => by simp [Instr.findKey, underlying, k1, hf]
        have hmu : ∀ o, g.mu c o = none := by
          intro o
          cases e1 : g.mu c o with
          | none => rfl
          | some u => have := R.mu _ _ _ e1; simp [World.cell?, b2] at this
        have hcs := heap_lt b2
        have fin : ∀ (es' : Array MapEntry) (clk' : Nat), VPs g a (es'.toList.map (·.key)) → VAs g cc (es'.toList.map (·.val)) →
            Rel g (H.set b (.map a cc)) (w.withBlk c (.map es' clk')) ∧ Ext H.length g w g (w.withBlk c (.map es' clk')) := fun es' clk' e1 e2 =>
          R.set hb (fun n => by simp) hio hmu b5 (by simp only [BlkOk]; exact ⟨c, es', clk', hio, withBlk_eq w _ hcs, e1, e2, b5⟩)
        rcases mapPut_ok hk k2 ks vs es.toList 0 (a, cc) b3 b4 h3 with ⟨h4, h5⟩ | ⟨j, en, h4, h5, h6, h7⟩
        · cases h5
          obtain ⟨R1, E1⟩ := fin (es.push { key := y, val := z, born := clk }) (clk + 1) (by simpa using VPs_snoc b3 hk) (by simpa using VAs_snoc b4 hv)
          refine ⟨_, ?_, R1, E1, by simp⟩
          simp only [Instr.mapUpdate, Sem.run_bind, h1, Result.andThen_ok, hgo, hck, hfk _ h4, hset]
        · cases h7
          have hj : es[j]? = some en := by simpa using h5
          have hjl : j < es.size := by
            rcases Nat.lt_or_ge j es.size with h8 | h8
            · exact h8
            · simp [Array.getElem?_eq_none h8] at hj
          have e1 : (es.modify j fun e => { e with key := y, val := z }).toList = es.toList.set j { en with key := y, val := z } := by
            apply List.ext_getElem?; intro i
            simp only [Array.getElem?_toList, Array.getElem?_modify, List.getElem?_set, Array.length_toList]
            by_cases hji : j = i
            · subst hji; rw [if_pos rfl, if_pos rfl, hj, if_pos hjl]; rfl
            · rw [if_neg hji, if_neg hji]
          have e2 : (es.toList.set j { en with key := y, val := z }).map (·.key) = es.toList.map (·.key) := by
            apply List.ext_getElem?; intro i
            simp only [List.getElem?_map, List.getElem?_set, Array.length_toList, Array.getElem?_toList]
            by_cases hji : j = i
            · subst hji; rw [if_pos rfl, hj, if_pos hjl]; simp [h6]
            · rw [if_neg hji]
          obtain ⟨R1, E1⟩ := fin (es.modify j fun e => { e with key := y, val := z }) clk (by rw [e1, e2]; exact b3) (by rw [e1, List.map_set]; exact VAs_set2 b4 hv)
          refine ⟨_, ?_, R1, E1, by simp⟩
          simp only [Nat.zero_add] at h4
          have hks : (Instr.keyThatStays (((es[j]?).map (·.key)).getD y) y).run P w = .ok y w := by
            simp [Instr.keyThatStays, hj, h6, sameBits_key hk k2]
          simp only [Instr.mapUpdate, Sem.run_bind, h1, Result.andThen_ok, hgo, hck, hfk _ h4, hks, hset]
      · cases he
    · cases he
  · cases he

theorem rangeO_ok (T : TyOk E P) {g : Gh} {H H' : Hp} {w : World} (R : Rel g H w) {t : Nat} {a v : AV} {x : Value} (h : VA g a x) (he : rangeO E t H a = some (v, H')) :
    ∃ y w' g', (Instr.range t x).run P w = .ok y w' ∧ VA g' v y ∧ Rel g' H' w' ∧ Ext H.length g w g' w' ∧ ∃ s, H' = H ++ [.sit s 0] := by
  unfold rangeO at he
  split at he
  · rename_i s hk
    cases he
    obtain ⟨d, h1, h2, _⟩ := run_underlying' T (T.of_kd (t := t) (by rw [hk]; simp)) w
    rw [hk] at h2; simp only [KdOk] at h2; subst h2
    simp only [VA, VP] at h; subst h
    obtain ⟨R1, E1⟩ := R.new (k := .sit s 0) (o := .stringIter ⟨s.toArray⟩ 0) (by
      simp only [BlkOk]
      exact ⟨w.heap.size, ⟨s.toArray⟩, by simp [Gh.addIo], alloc_new w _, by simp⟩)
    refine ⟨.pointer (some ⟨w.heap.size, 0, none⟩), _, _, ?_, ?_, R1, E1, s, rfl⟩
    · simp [Instr.range, h1]
    · simp only [VA]; exact ⟨w.heap.size, by simp [Gh.addIo], rfl⟩
  · cases he

theorem decode_drop (s : ByteArray) (pos : Nat) : Utf8.decode s pos = runeAt (s.data.toList.drop pos) := by
  have e1 : ∀ k, s.get! (pos + k) = (⟨(s.data.toList.drop pos).toArray⟩ : ByteArray).get! (0 + k) := by
    intro k
    simp [ByteArray.get!, getElem!_def]
  have e2 : ∀ k, decide (pos + k < s.size) = decide (0 + k < (⟨(s.data.toList.drop pos).toArray⟩ : ByteArray).size) := by
    intro k
    have : (⟨(s.data.toList.drop pos).toArray⟩ : ByteArray).size = s.size - pos := by
      show (s.data.toList.drop pos).toArray.size = s.data.size - pos
      simp
    rw [this, decide_eq_decide]; omega
  unfold runeAt Utf8.decode
  simp only [e1, e2]

theorem nextO_ok {g : Gh} {H H' : Hp} {w : World} (R : Rel g H w) {a v : AV} {x : Value} {s : Bool} (ty : TypeId) (h : VA g a x) (he : nextO H a s = some (v, H')) :
    ∃ y w', (Instr.next x s ty).run P w = .ok y w' ∧ VA g v y ∧ Rel g H' w' ∧ Ext H.length g w g w' ∧ (H' = H ∨ ∃ b r p, H' = H.set b (.sit r p)) := by
  unfold nextO at he
  split at he
  · rename_i b
    split at he
    · rename_i rest pos hb
      cases s
      · simp at he
      simp only [if_true] at he
      simp only [VA] at h
      obtain ⟨c, hio, rfl⟩ := h
      have hB := R.blk b _ hb
      simp only [BlkOk] at hB
      obtain ⟨c', s, b1, b2, b3⟩ := hB
      rw [hio] at b1; cases b1
      have hlen : rest.length = s.size - pos := by rw [← b3, List.length_drop, Array.length_toList]; rfl
      have hgo : (getObj c).run P w = .ok (.stringIter s pos) w := by simp [getObj, Sem.run, b2]
      have hset : ∀ o, (setObj c o).run P w = .ok () (w.withBlk c o) := fun o => by simp [setObj, Sem.run, b2, World.withBlk]
      split at he
      · rename_i hr
        cases he
        have h0 : rest = [] := List.isEmpty_iff.1 hr
        subst h0
        have : ¬ pos < s.size := by simp at hlen; omega
        refine ⟨.tuple #[.bool false], w, ?_, ?_, R, Ext.refl _ _ _, .inl rfl⟩
        · simp [Instr.next, hgo, this]
        · simp only [VA, VP]; exact ⟨[.bool false], rfl, by simp only [VPs]; exact ⟨_, [], rfl, by simp only [VP], rfl⟩⟩
      · rename_i hr
        have hne : rest ≠ [] := fun e => hr (by rw [e]; rfl)
        have hlt : pos < s.size := by
          rcases Nat.lt_or_ge pos s.size with h1 | h1
          · exact h1
          · exact absurd (List.eq_nil_of_length_eq_zero (by omega)) hne
        have hdec : Utf8.decode s pos = runeAt rest := by rw [decode_drop, b3]
        generalize hra : runeAt rest = cn at he hdec
        obtain ⟨cd, n⟩ := cn
        simp only [Option.some.injEq, Prod.mk.injEq] at he
        obtain ⟨rfl, rfl⟩ := he
        have hmu : ∀ o, g.mu c o = none := by
          intro o
          cases e1 : g.mu c o with
          | none => rfl
          | some u => have := R.mu _ _ _ e1; simp [World.cell?, b2] at this
        have hnu : g.nu c = none := by
          cases e1 : g.nu c with
          | none => rfl
          | some u => obtain ⟨clk, h3⟩ := R.nu _ _ e1; rw [b2] at h3; cases h3
        obtain ⟨R1, E1⟩ := R.set (k' := .sit (rest.drop n) (pos + n)) (o := .stringIter s (pos + n)) hb (fun n => by simp) hio hmu hnu (by
          simp only [BlkOk]; exact ⟨c, s, hio, withBlk_eq w _ (heap_lt b2), by rw [← b3, List.drop_drop]⟩)
        refine ⟨.tuple #[.bool true, goInt pos, .int .i32 cd], _, ?_, ?_, R1, E1, .inr ⟨_, _, _, rfl⟩⟩
        · simp only [Instr.next, Sem.run_bind, hgo, Result.andThen_ok, hlt, if_true, hdec, hset, Sem.run_pure]
        · simp only [VA, VP]
          refine ⟨[.bool true, goInt pos, .int .i32 cd], rfl, ?_⟩
          simp only [VPs, VP, goInt]
          exact ⟨_, _, rfl, rfl, _, _, rfl, rfl, _, _, rfl, rfl, rfl⟩
    · cases he
  · cases he

end
end Go.Pu
