/-
  Operations that leave memory as it is, the third part: operands, conversions, what is built, maps that are asked.
-/
import Derived.Test.YtflehnedcjjdjaaGreatDoorPuA5
set_option linter.unusedSimpArgs false
set_option linter.unusedVariables false
namespace Go.Pu

/-- What the evaluator is told of tables that lie in memory from the start on is so. -/
def GlobOk (E : Env) (g : Gh) : Prop := ∀ k cs, E.glob k = some cs → ∃ vs, VPs g cs vs ∧ One vs ∧ Holds g.mu k 0 vs

theorem GlobOk.mono {E : Env} {g g' : Gh} (m : Mem g g') (h : GlobOk E g) : GlobOk E g' := fun k cs e => by
  obtain ⟨vs, h1, h2, h3⟩ := h k cs e
  exact ⟨vs, h1.mono m, h2, h3.mono m⟩

theorem ofConst_ok (g : Gh) (v : Value) : VA g (ofConst v) v := by
  unfold ofConst
  split <;> simp only [VA, VP]
  exact ⟨⟨none, 0, [], rfl, by simp, by simp [VPs], by simp, .inl rfl⟩, none, 0, rfl⟩

def FrOk (g : Gh) (fr : Fr) (a : Act) : Prop := ∀ t, VA g (fr.get t) (a.tmps.getD t undef)

theorem evalO_ok {E : Env} {g : Gh} {fr : Fr} {a : Act} (G : GlobOk E g) (h : FrOk g fr a) (o : Operand) : VA g (evalO E fr o) (a.eval o) := by
  cases o with
  | tmp t => exact h t
  | const v => exact ofConst_ok g v
  | global k =>
    simp only [evalO, Act.eval]
    split
    · rename_i cs e
      obtain ⟨vs, h1, h2, h3⟩ := G k cs e
      simp only [VA]; exact ⟨k, 0, vs, rfl, h2, VAs_pv h1, h3⟩
    · simp [VA]
  | func f => simp [evalO, Act.eval, VA, VP]

theorem Fr.get_set (fr : Fr) (i j : Nat) (v : AV) (h : i ≠ j) : (fr.set i v).get j = fr.get j := by
    induction fr generalizing i j with
    | lf => simp [Fr.set, Fr.get]
    | nd x l r ihl ihr =>
      simp only [Fr.set]
      rcases hi : Nat.beq i 0 with _ | _
      · have hi0 : i ≠ 0 := fun e => by subst e; simp at hi
        simp only [cond_false]
        rcases hm : Nat.beq (i % 2) 1 with _ | _
        · have hm1 : ¬ i % 2 = 1 := fun e => by rw [e] at hm; simp at hm
          simp only [cond_false, Fr.get]
          rcases hj : Nat.beq j 0 with _ | _
          · have hj0 : j ≠ 0 := fun e => by subst e; simp at hj
            simp only [cond_false]
            rcases hn : Nat.beq (j % 2) 1 with _ | _
            · have hn1 : ¬ j % 2 = 1 := fun e => by rw [e] at hn; simp at hn
              simp only [cond_false]; exact ihr _ _ (by omega)
            · rfl
          · rfl
        · have hm1 : i % 2 = 1 := Nat.eq_of_beq_eq_true hm
          simp only [cond_true, Fr.get]
          rcases hj : Nat.beq j 0 with _ | _
          · simp only [cond_false]
            rcases hn : Nat.beq (j % 2) 1 with _ | _
            · rfl
            · have hn1 : j % 2 = 1 := Nat.eq_of_beq_eq_true hn
              simp only [cond_true]; exact ihl _ _ (by omega)
          · rfl
      · have hi0 : i = 0 := Nat.eq_of_beq_eq_true hi
        subst hi0
        simp only [cond_true, Fr.get]
        rcases hj : Nat.beq j 0 with _ | _
        · rfl
        · have := Nat.eq_of_beq_eq_true hj; omega

theorem Fr.get_set_same (fr : Fr) (i : Nat) (v : AV) : (fr.set i v).get i = v ∨ (fr.set i v).get i = .bot := by
  induction fr generalizing i with
  | lf => exact .inr (by simp [Fr.set, Fr.get])
  | nd x l r ihl ihr =>
    simp only [Fr.set]
    rcases hi : Nat.beq i 0 with _ | _
    · simp only [cond_false]
      rcases hm : Nat.beq (i % 2) 1 with _ | _
      · simp only [cond_false, Fr.get, hi, hm]; exact ihr _
      · simp only [cond_true, cond_false, Fr.get, hi, hm]; exact ihl _
    · left; simp [Fr.get, hi]

theorem Fr.set_get (fr : Fr) (i : Nat) : fr.set i (fr.get i) = fr := by
  induction fr generalizing i with
  | lf => rfl
  | nd x l r ihl ihr =>
    simp only [Fr.set, Fr.get]
    rcases Nat.beq i 0 with _ | _
    · simp only [cond_false]
      rcases Nat.beq (i % 2) 1 with _ | _
      · simp only [cond_false, ihr]
      · simp only [cond_true, ihl]
    · rfl

theorem FrOk.put {g : Gh} {fr : Fr} {a : Act} (h : FrOk g fr a) {d : Nat} {v : AV} {x : Value} (hv : VA g v x) (hd : d < a.tmps.size) : FrOk g (fr.set d v) (a.put (some d) x) := by
  intro t
  simp only [Act.put]
  by_cases e : d = t
  · subst e
    have : (a.tmps.setIfInBounds d x).getD d undef = x := by simp [Array.getD, hd]
    rw [this]
    rcases Fr.get_set_same fr d v with e | e
    · rw [e]; exact hv
    · rw [e]; simp [VA]
  · rw [Fr.get_set _ _ _ _ e]
    have : (a.tmps.setIfInBounds d x).getD t undef = a.tmps.getD t undef := by
      simp only [Array.getD_eq_getD_getElem?, Array.getElem?_setIfInBounds, if_neg e]
    rw [this]; exact h t

theorem FrOk.mono {n : Nat} {g g' : Gh} (m : Mor n g g') {fr : Fr} {a : Act} (hg : g.lt n) (h : FrOk g fr a) : FrOk g' fr a := fun t => (h t).mono m ((h t).under hg)

section
variable {E : Env} {P : Program}

theorem unO_ok {g : Gh} {op : UnOp} {a v : AV} {x : Value} (h : VA g a x) (he : unO op a = some v) (w : World) : ∃ y, (Op.unary op x).run P w = .ok y w ∧ VA g v y := by
  unfold unO at he
  split at he
  · simp only [VA, VP] at h; subst h
    simp only [intO, Option.map_some, Option.some.injEq] at he; subst he
    exact ⟨_, by simp [Op.unary, Op.intArith]; rfl, by simp [VA, VP]⟩
  · simp only [VA, VP] at h; subst h
    simp only [intO, Option.map_some, Option.some.injEq] at he; subst he
    exact ⟨_, by simp [Op.unary, Op.intBits]; rfl, by simp only [VA, VP]; rfl⟩
  · simp only [VA, VP] at h; subst h; cases he
    exact ⟨_, by simp [Op.unary]; rfl, by simp [VA, VP]⟩
  · cases he

theorem extrO_ok {g : Gh} {a v : AV} {x : Value} {i : Nat} (h : VA g a x) (he : extrO a i = some v) (w : World) : ∃ y, (Instr.extract x i).run P w = .ok y w ∧ VA g v y := by
  unfold extrO at he
  split at he
  · rename_i vs
    simp only [VA, VP] at h
    obtain ⟨xs, rfl, h⟩ := h
    cases hv : vs[i]? with
    | none => rw [hv] at he; cases he
    | some p =>
      rw [hv] at he; simp only [Option.map_some, Option.some.injEq] at he; subst he
      obtain ⟨y, h1, h2⟩ := VPs_get h hv
      exact ⟨y, by simp [Instr.extract, h1], by simpa only [VA] using h2⟩
  · rename_i vs
    simp only [VA] at h
    obtain ⟨xs, rfl, h⟩ := h
    obtain ⟨y, h1, h2⟩ := VAs_get h he
    exact ⟨y, by simp [Instr.extract, h1], h2⟩
  · cases he

theorem ifaceO_ok (T : TyOk E P) {g : Gh} {a : AV} {x : Value} {t : Nat} (h : VA g a x) (hk : (E.ty t).kd ≠ .iface) (ho : (E.ty t).kd ≠ .other) (w : World) :
    ∃ y, (Instr.makeInterface t x).run P w = .ok y w ∧ VA g (ifaceO a t) y := by
  obtain ⟨d, h1, h2, _⟩ := (T.real t (T.of_kd ho)).kd
  refine ⟨.iface t x, ?_, ?_⟩
  · simp only [Instr.makeInterface, Sem.run_bind, underlying, run_program, Result.andThen_ok, h1, Sem.run_pure]
    cases d with
    | interface ms => exfalso; cases hkd : (E.ty t).kd <;> rw [hkd] at h2 hk ho <;> simp [KdOk] at h2 hk ho
    | _ => rfl
  · unfold ifaceO
    split
    · simp only [VA, VP] at h ⊢; exact ⟨x, rfl, h⟩
    · simp only [VA]; exact ⟨x, rfl, h⟩


theorem asBytes_ok {g : Gh} : ∀ {es : List PV} {vs : List Value} {s : List UInt8}, VPs g es vs → asBytes es = some s →
    ∃ ns : List Int, vs = ns.map (Value.int .u8) ∧ s = ns.map (fun n => UInt8.ofNat n.toNat)
  | [], vs, s, h, he => by
    simp only [VPs] at h; simp only [asBytes, Option.some.injEq] at he; subst h he; exact ⟨[], rfl, rfl⟩
  | e :: es, vs, s, h, he => by
    simp only [VPs] at h; obtain ⟨v, r, rfl, hv, h⟩ := h
    simp only [asBytes] at he
    split at he
    · rename_i b bs h1 h2
      cases he
      obtain ⟨ns, rfl, rfl⟩ := asBytes_ok h h2
      unfold asByte at h1
      split at h1
      · rename_i n
        cases h1
        simp only [VP] at hv; subst hv
        exact ⟨n :: ns, rfl, rfl⟩
      · cases h1
    · cases he

theorem foldl_push (ns : List Int) : ∀ (s : List UInt8), (ns.foldl (fun r n => r.push (UInt8.ofNat n.toNat)) (⟨s.toArray⟩ : ByteArray)) = ⟨(s ++ ns.map fun n => UInt8.ofNat n.toNat).toArray⟩ := by
  induction ns with
  | nil => intro s; simp
  | cons n ns ih =>
    intro s
    have : (⟨s.toArray⟩ : ByteArray).push (UInt8.ofNat n.toNat) = ⟨(s ++ [UInt8.ofNat n.toNat]).toArray⟩ := by
      simp [ByteArray.push]
    simp only [List.foldl_cons, this, ih, List.map_cons, List.append_assoc, List.singleton_append]

theorem run_bytes {w : World} {b o n cap : Nat} {ns : List Int} (hn : ns.length = n) (h : ∀ (j : Nat) (v : Value), (ns.map (Value.int .u8))[j]? = some v → w.cell? ⟨b, o + j, none⟩ = some v) :
    (Conv.bytesToString (.slice (some ⟨b, o, none⟩) n cap)).run P w = .ok (.string ⟨(ns.map fun n => UInt8.ofNat n.toNat).toArray⟩) w := by
  have := run_loadCells P w b o (ns.map (Value.int .u8)) h
  rw [List.length_map, hn] at this
  rw [run_bytesToString w _ _ _ ns this]
  have e := foldl_push ns []
  simp only [List.nil_append] at e
  rw [← e]; rfl

theorem flatC_ints (ns : List Int) (k : IntKind) : flatC (ns.map (Value.int k)) = ns.map (Value.int k) := by
  induction ns with
  | nil => rfl
  | cons n ns ih => simp only [flatC, List.map_cons, List.flatMap_cons] at ih ⊢; rw [ih]; rfl

theorem bytesO_ok {g : Gh} {H : Hp} {w : World} (R : Rel g H w) {a : AV} {x : Value} {s : List UInt8} (h : VA g a x) (he : bytesO H a = some s) :
    (∃ p n c, x = .slice p n c) ∧ (Conv.bytesToString x).run P w = .ok (.string ⟨s.toArray⟩) w := by
  have lst : ∀ {sz es}, VP g (.lst sz es) x → asBytes es = some s → (∃ p n c, x = .slice p n c) ∧ (Conv.bytesToString x).run P w = .ok (.string ⟨s.toArray⟩) w := by
    intro sz es hv hs
    simp only [VP] at hv
    obtain ⟨p, cap, vs, rfl, hcap, hv, hl⟩ := hv
    refine ⟨⟨_, _, _, rfl⟩, ?_⟩
    obtain ⟨ns, rfl, rfl⟩ := asBytes_ok hv hs
    have hn := VPs_length hv
    rw [List.length_map] at hn
    rcases hl.2 with h0 | ⟨b, o, rfl, hh⟩
    · have h1 : ns = [] := by simpa using h0
      subst h1
      cases p with
      | none => rfl
      | some p =>
        simp only [List.length_nil] at hn
        rw [← hn]
        obtain ⟨b, o, sp⟩ := p
        have : (loadCells ⟨b, o, sp⟩ 0).run P w = .ok (([] : List Int).map (Value.int .u8)).toArray w := by simp [loadCells, loadCellsFrom]
        rw [run_bytesToString w _ _ _ [] this]; rfl
    · rw [flatC_ints] at hh
      exact run_bytes hn (fun j v hj => R.mu _ _ _ (hh j v hj))
  unfold bytesO at he
  split at he
  · rename_i b off len cap ag
    split at he
    · rename_i cs hb
      split at he
      · rename_i hl
        cases hp : allPV ((cs.drop off).take len) with
        | none => rw [hp] at he; cases he
        | some ps =>
          rw [hp] at he; simp only [Option.bind_some] at he
          have hB := R.blk b _ hb
          simp only [BlkOk] at hB
          obtain ⟨c, t', vs, ex, h1, h2, h3, h4, h5⟩ := hB
          simp only [VA] at h
          obtain ⟨c', p, cap', hc, rfl, hcap, hcap', hp'⟩ := h
          rw [hc] at h1; cases h1
          refine ⟨⟨_, _, _, rfl⟩, ?_⟩
          have hv := allPV_ok (VAs_take len (VAs_drop off h4)) hp
          obtain ⟨ns, hns, rfl⟩ := asBytes_ok hv he
          have hlen := VAs_length h4
          have hnl : ns.length = len := by
            have := congrArg List.length hns
            simp only [List.length_map, List.length_take, List.length_drop] at this; omega
          rcases hp' with h0 | rfl
          · have : len = 0 := by omega
            subst this
            have : ns = [] := List.eq_nil_of_length_eq_zero hnl
            subst this
            cases p with
            | none => rfl
            | some p =>
              obtain ⟨b, o, sp⟩ := p
              have : (loadCells ⟨b, o, sp⟩ 0).run P w = .ok (([] : List Int).map (Value.int .u8)).toArray w := by simp [loadCells, loadCellsFrom]
              rw [run_bytesToString w _ _ _ [] this]; rfl
          · refine run_bytes hnl ?_
            intro j v hj
            rw [← hns, List.getElem?_take] at hj
            split at hj
            · rw [List.getElem?_drop] at hj
              rw [cell_of h2, List.getElem?_append_left]
              · exact hj
              · rcases Nat.lt_or_ge (off + j) vs.length with h6 | h6
                · exact h6
                · rw [List.getElem?_eq_none h6] at hj; cases hj
            · cases hj
      · cases he
    · cases he
  · split at he
    · rename_i hp
      have := toPV_ok h hp
      exact lst this he
    · cases he

theorem isU8_ok (T : TyOk E P) {e : Nat} (h : isU8 E e = true) : P.underlying e = some (.int .u8) := by
  unfold isU8 at h
  split at h
  · rename_i hk
    obtain ⟨d, h1, h2, _⟩ := (T.real e (T.of_kd (by rw [hk]; simp))).kd
    rw [hk] at h2; simp only [KdOk] at h2; subst h2; exact h1
  · cases h

theorem convO_ok (T : TyOk E P) {g : Gh} {H : Hp} {w : World} (R : Rel g H w) {src dst : Nat} {a v : AV} {x : Value} (h : VA g a x) (he : convO E src dst H a = some v) :
    ∃ y, (convert src dst x).run P w = .ok y w ∧ VA g v y := by
  unfold convO at he
  split at he
  · rename_i hs
    obtain ⟨ds, s1, s2, _⟩ := (T.real src hs).kd
    split at he
    · rename_i k kk n hk
      cases he
      obtain ⟨d, h1, h2, _⟩ := (T.real dst (T.of_kd (by rw [hk]; simp))).kd
      rw [hk] at h2; simp only [KdOk] at h2; subst h2
      simp only [VA, VP] at h; subst h
      exact ⟨_, by simp [convert, underlying, s1, h1, Conv.intToInt]; rfl, by simp [VA, VP]⟩
    · rename_i s hk
      cases he
      obtain ⟨d, h1, h2, _⟩ := (T.real dst (T.of_kd (by rw [hk]; simp))).kd
      rw [hk] at h2; simp only [KdOk] at h2; subst h2
      simp only [VA, VP] at h; subst h
      exact ⟨_, by simp [convert, underlying, s1, h1]; rfl, by simp [VA, VP]⟩
    · rename_i kk n hk
      cases he
      obtain ⟨d, h1, h2, _⟩ := (T.real dst (T.of_kd (by rw [hk]; simp))).kd
      rw [hk] at h2; simp only [KdOk] at h2; subst h2
      simp only [VA, VP] at h; subst h
      exact ⟨_, by simp [convert, underlying, s1, h1, Conv.intToString]; rfl, by simp [VA, VP]⟩
    · rename_i a' _ _ hk _ _
      obtain ⟨d, h1, h2, _⟩ := (T.real dst (T.of_kd (by rw [hk]; simp))).kd
      rw [hk] at h2; simp only [KdOk] at h2; subst h2
      split at he
      · rename_i e hke
        split at he
        · rename_i hu
          cases hb : bytesO H a' with
          | none => rw [hb] at he; cases he
          | some s =>
            rw [hb] at he; simp only [Option.map_some, Option.some.injEq] at he; subst he
            obtain ⟨⟨p, n, c, rfl⟩, hr⟩ := bytesO_ok (P := P) R h hb
            rw [hke] at s2; simp only [KdOk] at s2; obtain ⟨rfl, _⟩ := s2
            refine ⟨.string ⟨s.toArray⟩, ?_, by simp only [VA, VP]⟩
            rw [run_convert_bytes_string w src dst e p n c s1 (isU8_ok T hu) h1, hr]
        · cases he
      · cases he
    · cases he
  · cases he


theorem mkfnO_ok {g : Gh} {f : Fn} {as bs : List AV} {xs ys : List Value} {v : AV} (ha : VAs g as xs) (hb : VAs g bs ys) (he : mkfnO f as bs = some v) : VA g v (.func f xs.toArray ys.toArray) := by
  unfold mkfnO at he
  split at he
  · split at he
    · cases he; simp only [VAs] at ha hb; subst ha hb; simp [VA, VP]
    · cases he; simp only [VA]; exact ⟨xs, ys, rfl, ha, hb⟩
  · split at he
    · cases he
      simp only [VAs] at ha hb
      obtain ⟨x, r, rfl, hx, rfl⟩ := ha
      subst hb
      simp only [VA]; exact ⟨x, rfl, hx⟩
    · cases he
  · cases he

theorem minmaxO_ok {g : Gh} {lt : Int → Int → Bool} {a b v : AV} {x y : Value} (ha : VA g a x) (hb : VA g b y) (he : minmaxO lt a b = some v) :
    ∃ k m n, x = .int k m ∧ y = .int k n ∧ v = .pv (.int k (if lt n m then n else m)) := by
  unfold minmaxO at he
  split at he
  · simp only [VA, VP] at ha hb
    split at he
    · subst_vars; cases he; exact ⟨_, _, _, rfl, rfl, rfl⟩
    · cases he
  · cases he

theorem mins_ok {g : Gh} (w : World) : ∀ {as : List AV} {xs : List Value} {a v : AV} {x : Value}, VA g a x → VAs g as xs → minmaxsO (fun a b => decide (a < b)) a as = some v →
    ∃ y, (xs.foldlM Builtin.min2 x).run P w = .ok y w ∧ VA g v y
  | [], xs, a, v, x, ha, h, he => by
    simp only [VAs] at h; subst h
    simp only [minmaxsO, Option.some.injEq] at he; subst he
    exact ⟨x, by simp, ha⟩
  | b :: as, xs, a, v, x, ha, h, he => by
    simp only [VAs] at h; obtain ⟨y, r, rfl, hy, h⟩ := h
    simp only [minmaxsO] at he
    cases hm : minmaxO (fun a b => decide (a < b)) a b with
    | none => rw [hm] at he; cases he
    | some z =>
      rw [hm] at he; simp only [Option.bind_some] at he
      obtain ⟨k, m, n, rfl, rfl, rfl⟩ := minmaxO_ok ha hy hm
      obtain ⟨u, h1, h2⟩ := mins_ok w (x := .int k (if n < m then n else m)) (by simp only [VA, VP]; simp) h he
      refine ⟨u, ?_, h2⟩
      simp only [List.foldlM_cons, Builtin.min2, Sem.run_bind, Sem.run_pure, Result.andThen_ok]
      exact h1

theorem maxs_ok {g : Gh} (w : World) : ∀ {as : List AV} {xs : List Value} {a v : AV} {x : Value}, VA g a x → VAs g as xs → minmaxsO (fun a b => decide (a > b)) a as = some v →
    ∃ y, (xs.foldlM Builtin.max2 x).run P w = .ok y w ∧ VA g v y
  | [], xs, a, v, x, ha, h, he => by
    simp only [VAs] at h; subst h
    simp only [minmaxsO, Option.some.injEq] at he; subst he
    exact ⟨x, by simp, ha⟩
  | b :: as, xs, a, v, x, ha, h, he => by
    simp only [VAs] at h; obtain ⟨y, r, rfl, hy, h⟩ := h
    simp only [minmaxsO] at he
    cases hm : minmaxO (fun a b => decide (a > b)) a b with
    | none => rw [hm] at he; cases he
    | some z =>
      rw [hm] at he; simp only [Option.bind_some] at he
      obtain ⟨k, m, n, rfl, rfl, rfl⟩ := minmaxO_ok ha hy hm
      obtain ⟨u, h1, h2⟩ := maxs_ok w (x := .int k (if n > m then n else m)) (by simp only [VA, VP]; simp) h he
      refine ⟨u, ?_, h2⟩
      simp only [List.foldlM_cons, Builtin.max2, Sem.run_bind, Sem.run_pure, Result.andThen_ok]
      exact h1

theorem lenO_ok (T : TyOk E P) {g : Gh} {H : Hp} {w : World} (R : Rel g H w) {t : Nat} {ts : Array TypeId} {ty : TypeId} {a v : AV} {x : Value} (h : VA g a x) (he : lenO (E.ty t).kd H a = some v) (ht : ts[0]? = some t) :
    ∃ y, (Builtin.len_ ts ty #[x]).run P w = .ok y w ∧ VA g v y := by
  have hk0 : (E.ty t).kd ≠ .other := by
    intro e; rw [e] at he; simp [lenO] at he
  obtain ⟨d, h1, h2, _⟩ := (T.real t (T.of_kd hk0)).kd
  have mk : ∀ {n : Nat}, (Builtin.len_ ts ty #[x]).run P w = .ok (goInt n) w → v = .pv (.int .i64 n) → ∃ y, (Builtin.len_ ts ty #[x]).run P w = .ok y w ∧ VA g v y :=
    fun h e => ⟨_, h, by subst e; simp [VA, VP, goInt]⟩
  have slc : ∀ {e n : Nat} {p : Option Addr} {c : Nat}, d = .slice e → x = .slice p n c → (Builtin.len_ ts ty #[x]).run P w = .ok (goInt n) w := by
    rintro e n p c rfl rfl; simp [Builtin.len_, ht, underlying, h1]
  unfold lenO at he
  split at he
  · rename_i s hk
    rw [hk] at h2; simp only [KdOk] at h2; subst h2
    simp only [VA, VP] at h; subst h; cases he
    have hs : (⟨s.toArray⟩ : ByteArray).size = s.length := rfl
    exact mk (by simp [Builtin.len_, ht, underlying, h1, hs]) rfl
  · rename_i e sz es hk
    rw [hk] at h2; simp only [KdOk] at h2
    simp only [VA, VP] at h; obtain ⟨p, c, vs, hx, _⟩ := h; cases he
    exact mk (slc h2.1 hx) rfl
  · rename_i e sz es hk
    rw [hk] at h2; simp only [KdOk] at h2
    simp only [VA, VP] at h; obtain ⟨⟨p, c, vs, hx, _⟩, _⟩ := h; cases he
    exact mk (slc h2.1 hx) rfl
  · rename_i e b k sz es hk
    rw [hk] at h2; simp only [KdOk] at h2
    simp only [VA, VP] at h; obtain ⟨⟨p, c, vs, hx, _⟩, _⟩ := h; cases he
    exact mk (slc h2.1 hx) rfl
  · rename_i e sz es hk
    rw [hk] at h2; simp only [KdOk] at h2
    simp only [VA] at h; obtain ⟨_, p, c, vs, hx, _⟩ := h; cases he
    exact mk (slc h2.1 hx) rfl
  · rename_i e b off len cap sz ag hk
    rw [hk] at h2; simp only [KdOk] at h2
    simp only [VA] at h; obtain ⟨c, p, c', _, hx, _⟩ := h; cases he
    exact mk (slc h2.1 hx) rfl
  · rename_i n e hk
    rw [hk] at h2; simp only [KdOk] at h2; obtain ⟨rfl, _⟩ := h2; cases he
    exact mk (by simp [Builtin.len_, ht, underlying, h1]) rfl
  · rename_i k e hk
    rw [hk] at h2; simp only [KdOk] at h2; obtain ⟨rfl, _⟩ := h2
    simp only [VA, VP] at h; subst h; cases he
    exact mk (n := 0) (by simp [Builtin.len_, ht, underlying, h1]) rfl
  · rename_i k e ks vs hk
    rw [hk] at h2; simp only [KdOk] at h2; obtain ⟨rfl, _⟩ := h2
    simp only [VA, VP] at h; obtain ⟨r, es, rfl, hn, k1, k2⟩ := h; cases he
    obtain ⟨clk, hh⟩ := R.nu r es hn
    have hl := VPs_length k1
    refine mk ?_ rfl
    simp at hl
    have : (getObj r).run P w = .ok (.map es clk) w := by simp [getObj, Sem.run, hh]
    simp [Builtin.len_, ht, underlying, h1, this, hl]
  · rename_i k e b hk
    rw [hk] at h2; simp only [KdOk] at h2; obtain ⟨rfl, _⟩ := h2
    split at he
    · rename_i ks vs hb
      cases he
      have hB := R.blk b _ hb
      simp only [BlkOk] at hB
      obtain ⟨c, es, clk, b1, b2, b3, b4, b5⟩ := hB
      simp only [VA] at h; obtain ⟨c', hc, rfl⟩ := h
      rw [hc] at b1; cases b1
      have hl := VPs_length b3
      simp at hl
      have : (getObj c).run P w = .ok (.map es clk) w := by simp [getObj, Sem.run, b2]
      exact mk (by simp [Builtin.len_, ht, underlying, h1, this, hl]) rfl
    · cases he
  · cases he

/-- The facts on methods that the evaluator is told are so: found straight, and called with the value as it is. -/
def MethOk (E : Env) (P : Program) : Prop := ∀ t m f, E.meth t m = some f → ∃ i me pr d, P.info? t = some i ∧ i.methods.find? (·.name == m) = some me ∧ me.path = #[] ∧ me.func = some (f, pr) ∧ P.underlying t = some d ∧
  (if pr then ∃ e, d = .pointer e else ∀ e, d ≠ .pointer e)

theorem method_ok (M : MethOk E P) {t : Nat} {m : String} {f : Nat} (h : E.meth t m = some f) (x : Value) (n : Nat) (w : World) : (method (n + 1) t x m).run P w = .ok (f, x) w := by
  obtain ⟨i, me, pr, d, h1, h2, h3, h4, h5, h6⟩ := M t m f h
  have hr : ∀ wr, (receiverAt t (.val x) pr wr).run P w = .ok x w := by
    intro wr
    cases pr
    · simp only [Bool.false_eq_true, if_false] at h6
      simp only [receiverAt, Sem.run_bind, underlying, run_program, Result.andThen_ok, h5, Sem.run_pure]
      cases d <;> first | rfl | (exact absurd rfl (h6 _))
    · obtain ⟨e, rfl⟩ := h6
      simp [receiverAt, underlying, h5, Place.get]
  simp only [method, Sem.run_bind, typeInfo, run_program, Result.andThen_ok, h1, Sem.run_pure, h2, h3, follow, h4]
  simp [hr]

theorem nilAhead_ok (M : MethOk E P) {t : Nat} {m : String} {f : Nat} (h : E.meth t m = some f) (x : Value) (n : Nat) (w : World) : (nilAhead (n + 1) t x m).run P w = .ok (some false) w := by
  obtain ⟨i, me, pr, d, h1, h2, h3, h4, h5, h6⟩ := M t m f h
  simp only [nilAhead, Sem.run_bind, typeInfo, run_program, Result.andThen_ok, h1, Sem.run_pure, h2, h3, followBlind, h4]
  cases pr
  · simp only [Bool.false_eq_true, if_false] at h6
    simp only [underlying, Sem.run_bind, run_program, Result.andThen_ok, h5, Sem.run_pure]
    cases d <;> first | rfl | (exact absurd rfl (h6 _))
  · rfl

theorem nilcO_ok {g : Gh} (M : MethOk E P) {a v : AV} {u : Operand} {act : Act} {o : Oper} (ho : o.op = .nilCheck u) (h : VA g a (act.eval u)) (he : nilcO E a = some v) (w : World) :
    ∃ y, (execOp act.eval o).run P w = .ok (.value y) w ∧ VA g v y := by
  generalize hx : act.eval u = x at h
  have bound : ∀ {m : String} {t fn : Nat} {y : Value}, E.meth t m = some fn → x = .func (.method m) #[.iface t y] #[] → (execOp act.eval o).run P w = .ok (.value (.func (.method m) #[.iface t y] #[])) w := by
    intro m t fn y hm e
    obtain ⟨n, hn⟩ : ∃ n, P.types.size + Made.depth = n + 1 := ⟨P.types.size + Made.depth - 1, by unfold Made.depth; omega⟩
    have := nilAhead_ok M hm y n w
    simp only [execOp, ho, hx, e, Sem.run_bind, run_program, Result.andThen_ok]
    simp [hn, this]
  unfold nilcO at he
  split at he
  · cases he
    have h' := h
    simp only [VA] at h; obtain ⟨c, hc, rfl⟩ := h
    exact ⟨_, by simp [execOp, ho, hx], h'⟩
  · cases he
    have h' := h
    simp only [VA] at h; obtain ⟨b, o', vs, rfl, _⟩ := h
    exact ⟨_, by simp [execOp, ho, hx], h'⟩
  · cases he
    have h' := h
    simp only [VA, VP] at h; subst h
    exact ⟨_, by simp [execOp, ho, hx], h'⟩
  · cases he
    have h' := h
    simp only [VA] at h; obtain ⟨p, q, rfl, _⟩ := h
    exact ⟨_, by simp [execOp, ho, hx], h'⟩
  · rename_i m t y
    cases hm : E.meth t m with
    | none => rw [hm] at he; cases he
    | some fn =>
      rw [hm] at he; cases he
      have h' := h
      simp only [VA] at h; obtain ⟨z, rfl, y', rfl, hy⟩ := h
      exact ⟨_, bound hm rfl, h'⟩
  · rename_i m t y
    cases hm : E.meth t m with
    | none => rw [hm] at he; cases he
    | some fn =>
      rw [hm] at he; cases he
      have h' := h
      simp only [VA, VP] at h; obtain ⟨z, rfl, y', rfl, hy⟩ := h
      exact ⟨_, bound hm rfl, h'⟩
  · cases he
    have h' := h
    simp only [VA] at h; obtain ⟨y, rfl, _⟩ := h
    exact ⟨_, by simp [execOp, ho, hx], h'⟩
  · cases he
    have h' := h
    simp only [VA, VP] at h; obtain ⟨y, rfl, _⟩ := h
    exact ⟨_, by simp [execOp, ho, hx], h'⟩
  · cases he


/-! ### What is built -/

theorem zeroC_ok {g : Gh} : ∀ (mint : List Nat) (cs : List PV) (xs : List Value), VPs g cs xs → ZeroS xs → VAs g (zeroC mint cs) xs := by
  intro mint cs xs h hz
  have key : ∀ (cs : List PV) (xs : List Value) (k : Nat), VPs g cs xs → ZeroS xs →
      VAs g ((cs.zipIdx k).map fun (c, i) => if mint.contains i then (match c with | .lst sz [] => AV.ful sz [] | c => .pv c) else .pv c) xs := by
    intro cs
    induction cs with
    | nil => intro xs k h _; simp only [VPs] at h; subst h; simp [VAs]
    | cons c cs ih =>
      intro xs k h hz
      simp only [VPs] at h; obtain ⟨x, r, rfl, hx, h⟩ := h
      simp only [List.zipIdx_cons, List.map_cons, VAs]
      refine ⟨x, r, rfl, ?_, ih r (k + 1) h (fun y hy => hz y (by simp [hy]))⟩
      split
      · split
        · simp only [VA]
          refine ⟨hx, ?_⟩
          simp only [VP] at hx
          obtain ⟨a, cap, vs, rfl, _⟩ := hx
          have := hz (.slice a 0 cap) (by simp) a 0 cap rfl
          exact ⟨a, 0, by rw [this]; rfl⟩
        · simpa only [VA] using hx
      · simpa only [VA] using hx
  exact key cs xs 0 h hz

/-- A part that is put at its place. -/
theorem fold_put (cs vs : List Value) (off : Nat) (h : off + vs.length ≤ cs.length) :
    (vs.toArray.zipIdx.foldl (fun (a : Array Value) (p : Value × Nat) => a.setIfInBounds (off + p.2) p.1) cs.toArray) = (putL cs off vs).toArray := by
  have key : ∀ (vs : List Value) (k : Nat) (cs : List Value), off + k + vs.length ≤ cs.length →
      ((vs.zipIdx k).foldl (fun (a : Array Value) (p : Value × Nat) => a.setIfInBounds (off + p.2) p.1) cs.toArray) = (putL cs (off + k) vs).toArray := by
    intro vs
    induction vs with
    | nil => intro k cs _; simp [putL_nil]
    | cons v vs ih =>
      intro k cs hl
      simp only [List.length_cons] at hl
      simp only [List.zipIdx_cons, List.foldl_cons]
      have e1 : cs.toArray.setIfInBounds (off + k) v = (cs.set (off + k) v).toArray := by simp
      rw [e1, ih (k + 1) _ (by simp; omega), show off + (k + 1) = off + k + 1 from by omega, putL_cons (by omega)]
  have := key vs 0 cs (by omega)
  simp only [Nat.add_zero] at this
  rw [← this]
  simp [← Array.foldl_toList]

theorem putL_VAs {g : Gh} {as bs : List AV} {xs ys : List Value} {off : Nat} (h : VAs g as xs) (k : VAs g bs ys) : VAs g (setMany as off bs) (putL xs off ys) := by
  unfold setMany putL
  rw [VAs_length k]
  exact VAs_append (VAs_append (VAs_take _ h) k) (VAs_drop _ h)

theorem putL_One {xs ys : List Value} {off : Nat} (h : One xs) (k : One ys) : One (putL xs off ys) := ((h.take _).append k).append (h.drop _)

theorem fillO_ok (T : TyOk E P) {g : Gh} {fr : Fr} {a : Act} (G : GlobOk E g) (F : FrOk g fr a) {pl : Nat → Option (Nat × Nat)} {pl' : Nat → Option (Nat × Nat)} (hpl : ∀ i off t, pl i = some (off, t) → pl' i = some (off, (E.ty t).size)) :
    ∀ {ps : List (Nat × Operand)} {cs cs' : List AV} {xs : List Value}, VAs g cs xs → One xs → fillO E pl (evalO E fr) ps cs = some cs' →
      ∃ xs' : List Value, Instr.fill pl' xs.toArray (ps.map fun (i, x) => (i, a.eval x)) = some xs'.toArray ∧ VAs g cs' xs' ∧ One xs'
  | [], cs, cs', xs, h, ho, he => by simp only [fillO, Option.some.injEq] at he; subst he; exact ⟨xs, by simp [Instr.fill], h, ho⟩
  | (i, x) :: ps, cs, cs', xs, h, ho, he => by
    simp only [fillO] at he
    split at he
    · rename_i off t hp
      split at he
      · rename_i hc
        obtain ⟨hk, hc1, hc2⟩ := hc
        have hv := evalO_ok G F x
        have hcv := VA_cells hv hk
        have hov := VA_one hv hk
        have hlen := VAs_length hcv
        have hlx := VAs_length h
        -- an empty slice takes the field's size
        have hcv' : VAs g (match evalO E fr x with
            | .ful sz es => [if sz == E.esz t || es.isEmpty then AV.ful (E.esz t) es else .ful sz es]
            | v => v.cells) (a.eval x).cells.toList := by
          split
          · rename_i sz es he2
            rw [he2] at hv hcv
            simp only [AV.cells] at hcv
            split
            · rename_i hs
              simp only [VAs] at hcv ⊢
              obtain ⟨v, r, e, hv', e2⟩ := hcv
              refine ⟨v, r, e, ?_, e2⟩
              simp only [Bool.or_eq_true, beq_iff_eq, List.isEmpty_iff] at hs
              rcases hs with rfl | rfl
              · exact hv'
              · simp only [VA, VP] at hv' ⊢
                obtain ⟨⟨p, cap, vs, rfl, h1, h2, h3⟩, h4⟩ := hv'
                simp only [VPs] at h2; subst h2
                exact ⟨⟨p, cap, [], rfl, h1, by simp [VPs], by simp, .inl rfl⟩, h4⟩
            · exact hcv
          · exact hcv
        obtain ⟨xs', h1, h2, h3⟩ := fillO_ok T G F hpl (putL_VAs h hcv') (putL_One ho hov) he
        refine ⟨xs', ?_, h2, h3⟩
        have hsz : (a.eval x).cells.size = (E.ty t).size := by rw [← hc1, ← hlen]; simp
        simp only [List.map_cons, Instr.fill, hpl _ _ _ hp]
        have hsz2 : ¬ (((a.eval x).cells.size ≠ (E.ty t).size || decide (off + (a.eval x).cells.size > xs.toArray.size)) = true) := by
          simp [hsz]; omega
        rw [if_neg (by simpa using hsz2)]
        have := fold_put xs (a.eval x).cells.toList off (by simp [hsz]; omega)
        simp only [Array.toArray_toList] at this
        rw [← h1]
        congr 1
      · cases he
    · cases he


theorem run_places' (T : TyOk E P) (w : World) : ∀ (fs : List Field), (∀ f ∈ fs, (E.ty f.type).ok = true) → (fs.mapM fun f => Prod.mk f.offset <$> sizeOf f.type).run P w = .ok (fs.map fun f => (f.offset, (E.ty f.type).size)) w
  | [], _ => by simp
  | f :: fs, h => by
    simp only [List.mapM_cons, Sem.run_bind, Sem.run_map, run_sizeOf' T (h f (by simp)), Result.andThen_ok, run_places' T w fs (fun f hf => h f (by simp [hf])), Sem.run_pure, List.map_cons]

theorem buildO_ok (T : TyOk E P) {g : Gh} {fr : Fr} {a : Act} (G : GlobOk E g) (F : FrOk g fr a) {t : Nat} {ps : List (Nat × Operand)} {mint : List Nat} {v : AV} (he : buildO E (evalO E fr) t ps mint = some v) (w : World) :
    ∃ y, (Instr.build t (ps.map fun (i, x) => (i, a.eval x)).toArray).run P w = .ok y w ∧ VA g v y := by
  unfold buildO at he
  split at he
  · rename_i fs hk
    split at he
    · cases he
    rename_i hz
    have hz : (E.ty t).zero.length = (E.ty t).size := by simpa using hz
    have hok := T.of_kd (t := t) (by rw [hk]; simp)
    obtain ⟨z, z1, z2, z3, z4⟩ := run_zeroValue' T hok hz w
    obtain ⟨d, h1, h2, _⟩ := run_underlying' T hok w
    rw [hk] at h2; simp only [KdOk] at h2; obtain ⟨fields, rfl, h3, h4⟩ := h2
    cases hf : fillO E (fs[·]?) (evalO E fr) ps (zeroC mint (E.ty t).zero) with
    | none => rw [hf] at he; cases he
    | some cs =>
      rw [hf] at he; simp only [Option.map_some, Option.some.injEq] at he
      have hff : ∀ f ∈ fields.toList, (E.ty f.type).ok = true := fun f hf => h4 (f.offset, f.type) (by rw [← h3]; exact List.mem_map.2 ⟨f, hf, rfl⟩)
      obtain ⟨xs', k1, k2, k3⟩ := fillO_ok T G F (pl := (fs[·]?)) (pl' := ((fields.toList.map fun f => (f.offset, (E.ty f.type).size)).toArray[·]?)) (by
        intro i off t' e
        rw [← h3, List.getElem?_map] at e
        cases hg : fields.toList[i]? with
        | none => rw [hg] at e; cases e
        | some f =>
          rw [hg] at e
          simp only [Option.map_some, Option.some.injEq, Prod.mk.injEq] at e
          obtain ⟨rfl, rfl⟩ := e
          simp only [List.getElem?_toArray, List.getElem?_map, hg, Option.map_some]) (zeroC_ok mint _ _ (z4 g).1 z3) z2 hf
      refine ⟨.agg xs'.toArray, ?_, ?_⟩
      · have hp : (fields.mapM fun (f : Field) => (do pure (f.offset, ← sizeOf f.type) : Sem (Nat × Nat))).run P w = .ok (fields.toList.map fun f => (f.offset, (E.ty f.type).size)).toArray w := by
          have := run_places' T w fields.toList hff
          simp only [Array.mapM_eq_mapM_toList, Sem.run_map]
          simp only [bind_pure_comp] at this ⊢
          rw [this]; rfl
        simp only [Instr.build, Sem.run_bind, z1, Result.andThen_ok, h1, hp]
        simp only [Array.toArray_toList] at k1
        simp only [k1, Sem.run_pure]
      · subst he
        split
        · simp only [VA]; exact ⟨xs', rfl, k3, k2⟩
        · exact mkAgg_ok k2 k3
  · rename_i n e hk
    split at he
    · cases he
    rename_i hz
    have hz : (E.ty t).zero.length = (E.ty t).size := by simpa using hz
    have hok := T.of_kd (t := t) (by rw [hk]; simp)
    obtain ⟨z, z1, z2, z3, z4⟩ := run_zeroValue' T hok hz w
    obtain ⟨d, h1, h2, _⟩ := run_underlying' T hok w
    rw [hk] at h2; simp only [KdOk] at h2; obtain ⟨rfl, hek⟩ := h2
    cases hf : fillO E (fun i => if i < n then some (i * (E.ty e).size, e) else none) (evalO E fr) ps (zeroC mint (E.ty t).zero) with
    | none => rw [hf] at he; cases he
    | some cs =>
      rw [hf] at he; simp only [Option.map_some, Option.some.injEq] at he
      obtain ⟨xs', k1, k2, k3⟩ := fillO_ok T G F (pl' := fun i => some (i * (E.ty e).size, (E.ty e).size)) (by
        intro i off t' e'
        split at e'
        · cases e'; rfl
        · cases e') (zeroC_ok mint _ _ (z4 g).1 z3) z2 hf
      refine ⟨.agg xs'.toArray, ?_, ?_⟩
      · simp only [Array.toArray_toList] at k1
        simp only [Instr.build, Sem.run_bind, z1, Result.andThen_ok, h1, run_sizeOf' T hek, k1, Sem.run_pure]
      · subst he
        split
        · simp only [VA]; exact ⟨xs', rfl, k3, k2⟩
        · exact mkAgg_ok k2 k3
  · cases he


/-! ### Maps -/

def KeyD : TypeDesc → PV → Prop
  | .int _, .int _ _ => True
  | .string, .str _ => True
  | .bool, .bool _ => True
  | _, _ => False

theorem keyIs_ok (T : TyOk E P) {t : Nat} {k : PV} (h : keyIs (E.ty t).kd k = true) : ∃ d, P.underlying t = some d ∧ KeyD d k := by
  have hne : (E.ty t).kd ≠ .other := by intro e; rw [e] at h; cases k <;> simp [keyIs] at h
  obtain ⟨d, h1, h2, _⟩ := (T.real t (T.of_kd hne)).kd
  refine ⟨d, h1, ?_⟩
  cases hk : (E.ty t).kd <;> rw [hk] at h h2 <;> cases k <;> simp [keyIs] at h <;> simp only [KdOk] at h2 <;> subst h2 <;> simp [KeyD]

theorem sameNow_ok {g : Gh} {d : TypeDesc} {k k' : PV} {x y : Value} {r : Bool} (hk : VP g k x) (hk' : VP g k' y) (hd : KeyD d k) (he : pvEq (kindOfKey k) k k' = some r) : Instr.sameNow d x y = some r := by
  cases d <;> cases k <;> simp only [KeyD] at hd
  all_goals
    cases k' <;> simp only [kindOfKey, pvEq, reduceCtorEq, Option.some.injEq] at he
    simp only [VP] at hk hk'; subst hk hk'
  · subst he; rfl
  · split at he
    · subst_vars; cases he; simp [Instr.sameNow]
    · cases he
  · subst he
    simp only [Instr.sameNow, beq_toListBytes]
    simp

theorem findNow_ok {g : Gh} {d : TypeDesc} {k : PV} {x : Value} (hk : VP g k x) (hd : KeyD d k) : ∀ (ks : List PV) (vs : List AV) (es : List MapEntry) (i : Nat) (r : Option AV),
    VPs g ks (es.map (·.key)) → VAs g vs (es.map (·.val)) → mapFind k ks vs = some r →
    (r = none ∧ Instr.findNow d x es i = some none) ∨ ∃ a j y, r = some a ∧ Instr.findNow d x es i = some (some (j, y)) ∧ VA g a y
  | ks, vs, [], i, r, h1, h2, he => by
    have e1 : ks = [] := List.eq_nil_of_length_eq_zero (by have := VPs_length h1; simpa using this.symm)
    have e2 : vs = [] := List.eq_nil_of_length_eq_zero (by have := VAs_length h2; simpa using this.symm)
    subst e1 e2
    simp only [mapFind, Option.some.injEq] at he; subst he
    exact .inl ⟨rfl, rfl⟩
  | ks, vs, e :: es, i, r, h1, h2, he => by
    cases ks with
    | nil => simp only [VPs] at h1; cases h1
    | cons k' ks =>
      cases vs with
      | nil => simp only [VAs] at h2; cases h2
      | cons v vs =>
        simp only [List.map_cons, VPs] at h1
        simp only [List.map_cons, VAs] at h2
        obtain ⟨y, r1, e1, hy, h1⟩ := h1
        obtain ⟨z, r2, e2, hz, h2⟩ := h2
        cases e1; cases e2
        simp only [mapFind] at he
        split at he
        · rename_i hp
          cases he
          refine .inr ⟨v, i, e.val, rfl, ?_, hz⟩
          simp only [Instr.findNow, sameNow_ok hk hy hd hp]
        · rename_i hp
          have := findNow_ok hk hd ks vs es (i + 1) r h1 h2 he
          simp only [Instr.findNow, sameNow_ok hk hy hd hp]
          exact this
        · cases he

theorem checkKey_ok {d : TypeDesc} {t : TypeId} {k : PV} {g : Gh} {x : Value} (hx : VP g k x) (h1 : P.underlying t = some d) (hd : KeyD d k) (b : Bool) (n : Nat) (w : World) : (Instr.checkKey b (n + 1) t x).run P w = .ok () w := by
  cases d <;> cases k <;> simp only [KeyD] at hd
  all_goals
    simp only [VP] at hx; subst hx
    simp [Instr.checkKey, underlying, h1]

theorem zeroOf_ok (T : TyOk E P) {t : Nat} (h : (E.ty t).ok = true) (hz : (E.ty t).zero.length = (E.ty t).size) (w : World) (g : Gh) : ∃ z, (zeroValue t).run P w = .ok z w ∧ VA g (zeroOf E t) z := by
  obtain ⟨z, h1, _, _, h2⟩ := run_zeroValue' T h hz w
  exact ⟨z, h1, (h2 g).2⟩

theorem mapAt_ok {g : Gh} {H : Hp} {w : World} (R : Rel g H w) {m : AV} {x : Value} {ks : List PV} {vs : List AV} (hm : VA g m x) (he : mapAt H m = some (ks, vs)) :
    (x = .map none ∧ ks = [] ∧ vs = []) ∨ ∃ q es clk, x = .map (some q) ∧ w.heap[q]? = some (.map es clk) ∧ VPs g ks (es.toList.map (·.key)) ∧ VAs g vs (es.toList.map (·.val)) := by
  unfold mapAt at he
  split at he
  · cases he; simp only [VA, VP] at hm; exact .inl ⟨hm, rfl, rfl⟩
  · cases he
    simp only [VA, VP] at hm
    obtain ⟨q, es, rfl, hn, h1, h2⟩ := hm
    obtain ⟨clk, hh⟩ := R.nu q es hn
    exact .inr ⟨q, es, clk, rfl, hh, h1, VAs_pv h2⟩
  · split at he
    · rename_i hb
      cases he
      have hB := R.blk _ _ hb
      simp only [BlkOk] at hB
      obtain ⟨c, es, clk, b1, b2, b3, b4, b5⟩ := hB
      simp only [VA] at hm; obtain ⟨c', hc, rfl⟩ := hm
      rw [hc] at b1; cases b1
      exact .inr ⟨_, es, clk, rfl, b2, b3, b4⟩
    · cases he
  · cases he

theorem lookO_ok (T : TyOk E P) {g : Gh} {H : Hp} {w : World} (R : Rel g H w) {t : Nat} {m k v : AV} {x y : Value} {ok : Bool} (hm : VA g m x) (hk : VA g k y) (he : lookO E t H m k ok = some v) :
    ∃ z, (Instr.lookup t x y ok).run P w = .ok z w ∧ VA g v z := by
  unfold lookO at he
  split at he
  · rename_i kt e k hkd
    have hok := T.of_kd (t := t) (by rw [hkd]; simp)
    obtain ⟨d, h1, h2, _⟩ := run_underlying' T hok w
    rw [hkd] at h2; simp only [KdOk] at h2; obtain ⟨rfl, hkok, heok⟩ := h2
    split at he
    · rename_i hki
      simp only [Bool.and_eq_true] at hki
      obtain ⟨dk, k1, k2⟩ := keyIs_ok T hki.1
      obtain ⟨z0, z1, z2⟩ := zeroOf_ok T heok (Nat.eq_of_beq_eq_true hki.2) w g
      simp only [VA] at hk
      have hck : ∀ b, (Instr.checkKey b 10000 kt y).run P w = .ok () w := fun b => checkKey_ok (P := P) hk k1 k2 b 9999 w
      cases hma : mapAt H m with
      | none => rw [hma] at he; cases he
      | some kv =>
        obtain ⟨ks, vs⟩ := kv
        rw [hma] at he
        simp only [Option.bind_some] at he
        cases hfi : mapFind k ks vs with
        | none => rw [hfi] at he; cases he
        | some r =>
          rw [hfi] at he
          simp only [Option.map_some, Option.some.injEq] at he
          -- the run, out of what is found
          have fin : ∀ (es : Array MapEntry) (o : Option (Nat × Value)), (x = .map none ∧ es = #[] ∨ ∃ q clk, x = .map (some q) ∧ w.heap[q]? = some (.map es clk)) →
              Instr.findNow dk y es.toList 0 = some o → (Instr.lookup t x y ok).run P w = .ok (if ok then .tuple #[match o with | some (_, z) => z | none => z0, .bool o.isSome] else match o with | some (_, z) => z | none => z0) w := by
            intro es o hx hf
            have hfk : (Instr.findKey kt y es.toList).run P w = .ok o w := by simp [Instr.findKey, underlying, k1, hf]
            rcases hx with ⟨rfl, rfl⟩ | ⟨q, clk, rfl, hq⟩
            · simp only [Instr.lookup, Sem.run_bind, h1, Result.andThen_ok, Sem.run_pure, hck, hfk]
              rcases o with _ | ⟨j, z⟩
              · simp [z1]
              · simp
            · have hg : (getObj q).run P w = .ok (.map es clk) w := by simp [getObj, Sem.run, hq]
              simp only [Instr.lookup, Sem.run_bind, h1, Result.andThen_ok, hg, Sem.run_pure, hck, hfk]
              rcases o with _ | ⟨j, z⟩
              · simp [z1]
              · simp
          have go : ∀ (es : Array MapEntry), (x = .map none ∧ es = #[] ∨ ∃ q clk, x = .map (some q) ∧ w.heap[q]? = some (.map es clk)) → VPs g ks (es.toList.map (·.key)) → VAs g vs (es.toList.map (·.val)) →
              ∃ z, (Instr.lookup t x y ok).run P w = .ok z w ∧ VA g v z := by
            intro es hx hks hvs
            rcases findNow_ok hk k2 ks vs es.toList 0 r hks hvs hfi with ⟨rfl, hf⟩ | ⟨a, j, z, rfl, hf, hz⟩
            · refine ⟨_, fin es none hx hf, ?_⟩
              subst he
              cases ok
              · exact z2
              · exact mkTup_ok (xs := [z0, .bool false]) (by simp only [VAs]; exact ⟨z0, _, rfl, z2, .bool false, [], rfl, by simp [VA, VP], rfl⟩)
            · refine ⟨_, fin es (some (j, z)) hx hf, ?_⟩
              subst he
              cases ok
              · exact hz
              · exact mkTup_ok (xs := [z, .bool true]) (by simp only [VAs]; exact ⟨z, _, rfl, hz, .bool true, [], rfl, by simp [VA, VP], rfl⟩)
          rcases mapAt_ok R hm hma with ⟨rfl, rfl, rfl⟩ | ⟨q, es, clk, rfl, hq, hks, hvs⟩
          · exact go #[] (.inl ⟨rfl, rfl⟩) (by simp [VPs]) (by simp [VAs])
          · exact go es (.inr ⟨q, clk, rfl, hq⟩) hks hvs
    · cases he
  · cases he


theorem assertO_ok (T : TyOk E P) {g : Gh} {a v : AV} {x : Value} {xt t : Nat} {ok : Bool} (h : VA g a x) (he : assertO E a t ok = some v) (w : World) :
    ∃ z, (Instr.typeAssert x xt t ok).run P w = .ok z w ∧ VA g v z := by
  unfold assertO at he
  split at he
  · cases he
  · cases he
  rename_i hk1 hk2
  have hok := T.of_kd hk2
  obtain ⟨d, h1, h2, _⟩ := run_underlying' T hok w
  have hni : ∀ ms, d ≠ .interface ms := by
    rintro ms rfl
    cases hk : (E.ty t).kd <;> rw [hk] at h2 hk1 hk2 <;> simp [KdOk] at h2 hk1 hk2
  split at he
  · cases he
  rename_i hz
  have hz : (E.ty t).zero.length = (E.ty t).size := by simpa using hz
  obtain ⟨z0, z1, z2⟩ := zeroOf_ok T hok hz w g
  have hit : ∀ {b : AV} {y : Value}, VA g b y → x = .iface t y → (some (if ok then mkTup [b, .pv (.bool true)] else b) : Option AV) = some v →
      ∃ z, (Instr.typeAssert x xt t ok).run P w = .ok z w ∧ VA g v z := by
    rintro b y hb rfl hv
    cases hv
    refine ⟨if ok then .tuple #[y, .bool true] else y, ?_, ?_⟩
    · simp only [Instr.typeAssert, Sem.run_bind, h1, Result.andThen_ok]
      cases d <;> first | (exact absurd rfl (hni _)) | simp
    · cases ok
      · exact hb
      · exact mkTup_ok (xs := [y, .bool true]) (by simp only [VAs]; exact ⟨y, _, rfl, hb, .bool true, [], rfl, by simp [VA, VP], rfl⟩)
  have miss : (x = .nilIface ∨ ∃ u y, x = .iface u y ∧ u ≠ t) → ok = true → v = mkTup [zeroOf E t, .pv (.bool false)] → ∃ z, (Instr.typeAssert x xt t ok).run P w = .ok z w ∧ VA g v z := by
    rintro hx rfl rfl
    refine ⟨.tuple #[z0, .bool false], ?_, mkTup_ok (xs := [z0, .bool false]) (by simp only [VAs]; exact ⟨z0, _, rfl, z2, .bool false, [], rfl, by simp [VA, VP], rfl⟩)⟩
    simp only [Instr.typeAssert, Sem.run_bind, h1, Result.andThen_ok]
    rcases hx with rfl | ⟨u, y, rfl, hu⟩
    · cases d <;> first | (exact absurd rfl (hni _)) | simp [z1]
    · cases d <;> first | (exact absurd rfl (hni _)) | simp [hu, z1]
  split at he
  · rename_i u p
    simp only [VA, VP] at h; obtain ⟨y, rfl, hy⟩ := h
    split at he
    · subst_vars; exact hit (b := .pv p) (by simpa only [VA] using hy) rfl he
    · rename_i hu
      split at he
      · cases he; exact miss (.inr ⟨u, y, rfl, hu⟩) (by assumption) rfl
      · cases he
  · rename_i u p
    simp only [VA] at h; obtain ⟨y, rfl, hy⟩ := h
    split at he
    · subst_vars; exact hit hy rfl he
    · rename_i hu
      split at he
      · cases he; exact miss (.inr ⟨u, y, rfl, hu⟩) (by assumption) rfl
      · cases he
  · simp only [VA, VP] at h; subst h
    split at he
    · cases he; exact miss (.inl rfl) (by assumption) rfl
    · cases he
  · cases he

end

end Go.Pu
