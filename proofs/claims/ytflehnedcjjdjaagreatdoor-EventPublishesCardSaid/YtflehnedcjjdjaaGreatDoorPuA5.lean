/-
  Operations that leave memory as it is, the second part: cutting, arithmetic, comparing, what is built.
-/
import Derived.Test.YtflehnedcjjdjaaGreatDoorPuA4
import Derived.Laws.StructEq
set_option linter.unusedSimpArgs false
set_option linter.unusedVariables false
namespace Go.Pu

section
variable {E : Env} {P : Program}

theorem sliceO_ok (T : TyOk E P) {g : Gh} {w : World} {t : Nat} {a : AV} {x : Value} {lo hi mx : Option AV} {lo' hi' mx' : Option Value} {v : AV}
    (h : VA g a x) (hlo : OptVA g lo lo') (hhi : OptVA g hi hi') (hmx : OptVA g mx mx') (he : sliceO E t a lo hi mx = some v) :
    ∃ y, (Instr.sliceAt t x lo' hi' mx').run P w = .ok y w ∧ VA g v y := by
  have mxn : mx = none → mx' = none := by rintro rfl; cases mx' with | none => rfl | some _ => exact hmx.elim
  have or1 : ∀ {sz e : Nat} {es : List PV}, (sz == (E.ty e).size || es.isEmpty) = true → sz = (E.ty e).size ∨ es = [] := by
    intro sz e es hh
    simpa [List.isEmpty_iff] using hh
  unfold sliceO at he
  split at he
  · rename_i s hk
    obtain ⟨d, h1, h2, _⟩ := run_underlying' T (T.of_kd (t := t) (by rw [hk]; simp)) w
    rw [hk] at h2; simp only [KdOk] at h2; subst h2
    split at he
    · cases he
    rename_i hm
    have hm' : mx' = none := mxn (by simpa using hm)
    subst hm'
    cases hh : boundO s.length s.length hi with
    | none => rw [hh] at he; cases he
    | some b =>
      rw [hh] at he; simp only [Option.bind_some] at he
      cases hl : boundO 0 b lo with
      | none => rw [hl] at he; cases he
      | some l =>
        rw [hl] at he; simp only [Option.map_some, Option.some.injEq] at he; subst he
        obtain ⟨b1, b2⟩ := boundO_ok (Nat.le_refl _) hhi hh
        obtain ⟨c1, c2⟩ := boundO_ok (Nat.zero_le _) hlo hl
        simp only [VA, VP] at h; subst h
        have hb := run_sliceBounds (P := P) false (len := s.length) (cap := s.length) (lo := lo') (hi := hi') (l := l) (h := b) w c2 b2
        have hs : (⟨s.toArray⟩ : ByteArray).size = s.length := by simp [ByteArray.size]
        refine ⟨.string ((⟨s.toArray⟩ : ByteArray).extract l b), by simp [Instr.sliceAt, Instr.slice, h1, hs, hb], ?_⟩
        simp only [VA, VP]
        rw [ByteArray.extract_mk]
  · rename_i e sz es hk
    split at he
    · rename_i hs; simp only [VA] at h; exact cutsO_ok T hk h (or1 hs) hlo hhi hmx he
    · cases he
  · rename_i e sz es hk
    split at he
    · rename_i hs; simp only [VA] at h; exact cutsO_ok T hk h.1 (or1 hs) hlo hhi hmx he
    · cases he
  · rename_i e _ _ sz es hk
    split at he
    · rename_i hs; simp only [VA] at h; exact cutsO_ok T hk h.1 (or1 hs) hlo hhi hmx he
    · cases he
  · rename_i e b off len cap sz ag hk
    obtain ⟨d, h1, h2, _⟩ := run_underlying' T (T.of_kd (t := t) (by rw [hk]; simp)) w
    rw [hk] at h2; simp only [KdOk] at h2; obtain ⟨rfl, hek⟩ := h2
    split at he
    · rename_i hs
      simp only [Bool.and_eq_true, beq_iff_eq, Option.isNone_iff_eq_none] at hs
      obtain ⟨rfl, hm⟩ := hs
      have hm' : mx' = none := mxn hm
      subst hm'
      simp only [VA] at h
      obtain ⟨c, a, cap', hc, rfl, hcap, hcap', ha⟩ := h
      cases hh : boundO len cap hi with
      | none => rw [hh] at he; cases he
      | some b' =>
        rw [hh] at he; simp only [Option.bind_some] at he
        cases hl : boundO 0 b' lo with
        | none => rw [hl] at he; cases he
        | some l =>
          rw [hl] at he; simp only [Option.map_some, Option.some.injEq] at he; subst he
          obtain ⟨b1, b2⟩ := boundO_ok hcap hhi hh
          obtain ⟨c1, c2⟩ := boundO_ok (Nat.zero_le _) hlo hl
          have hb := run_sliceBounds (P := P) true (len := len) (cap := cap') (lo := lo') (hi := hi') (l := l) (h := b') w c2 (by
            rcases b2 with ⟨rfl, rfl⟩ | ⟨k, z, rfl, z0, z1, rfl⟩
            · exact .inl ⟨rfl, rfl⟩
            · exact .inr ⟨k, z, rfl, z0, by omega, rfl⟩)
          refine ⟨.slice (if cap' = l then a else a.map (·.add (l * (E.ty e).size))) (b' - l) (cap' - l), ?_, ?_⟩
          · simp [Instr.sliceAt, Instr.slice, h1, hb, run_sizeOf' T hek]
          · simp only [VA]
            refine ⟨c, _, cap' - l, hc, rfl, by omega, by omega, ?_⟩
            by_cases h0 : cap - l = 0
            · exact .inl h0
            · right
              have ha := ha.resolve_left (by omega)
              subst ha
              simp [show cap' ≠ l by omega, addr_add]
    · cases he
  · rename_i n e b o hk
    have hk' := T.of_kd (t := t) (by rw [hk]; simp)
    obtain ⟨d, h1, h2, _⟩ := run_underlying' T hk' w
    rw [hk] at h2; simp only [KdOk] at h2; obtain ⟨rfl, hek⟩ := h2
    split at he
    · rename_i hm
      have hm' : mx' = none := mxn (by simpa using hm)
      subst hm'
      simp only [VA] at h
      obtain ⟨c, hc, rfl⟩ := h
      cases hh : boundO n n hi with
      | none => rw [hh] at he; cases he
      | some b' =>
        rw [hh] at he; simp only [Option.bind_some] at he
        cases hl : boundO 0 b' lo with
        | none => rw [hl] at he; cases he
        | some l =>
          rw [hl] at he; simp only [Option.map_some, Option.some.injEq] at he; subst he
          obtain ⟨b1, b2⟩ := boundO_ok (Nat.le_refl _) hhi hh
          obtain ⟨c1, c2⟩ := boundO_ok (Nat.zero_le _) hlo hl
          have hb := run_sliceBounds (P := P) false (len := n) (cap := n) (lo := lo') (hi := hi') (l := l) (h := b') w c2 b2
          refine ⟨.slice (some (if n = l then ⟨c, o, none⟩ else ⟨c, o + l * (E.ty e).size, none⟩)) (b' - l) (n - l), ?_, ?_⟩
          · simp [Instr.sliceAt, h1, Instr.sureAddr, hb, run_sizeOf' T hek, addr_add]
          · simp only [VA]
            refine ⟨c, _, n - l, hc, rfl, by omega, by omega, ?_⟩
            by_cases h0 : n - l = 0
            · exact .inl h0
            · right; simp [show n ≠ l by omega]
    · cases he
  · cases he

theorem pickO_ok (T : TyOk E P) {g : Gh} {c a b v : AV} {x y z : Value} (hc : VA g c x) (ha : VA g a y) (hb : VA g b z) (he : pickO c a b = some v) :
    ∃ t, x = .bool t ∧ VA g v (if t then y else z) := by
  unfold pickO at he
  split at he
  · rename_i t
    simp only [VA, VP] at hc
    cases he
    refine ⟨t, hc, ?_⟩
    cases t
    · simpa using hb
    · simpa using ha
  · cases he

end

/-! ### Comparing -/

def flatFs (rec : TypeId → Option (List LK)) (P : Program) : List Field → Nat → Option (List LK)
  | [], _ => some []
  | f :: fs, o => if f.name ≠ "_" ∧ f.offset = o then
      match rec f.type with
      | some ks => (flatFs rec P fs (o + ks.length)).map (ks ++ ·)
      | none => none
    else none

/-- The kinds of a type's cells, if its values are compared cell by cell: numbers, texts, bools, structs of these. -/
def flatK (P : Program) : Nat → TypeId → Option (List LK)
  | 0, _ => none
  | d + 1, t => match P.underlying t with
    | some (.int _) => if P.cellsOf t = 1 then some [.i] else none
    | some .bool => if P.cellsOf t = 1 then some [.b] else none
    | some .string => if P.cellsOf t = 1 then some [.s] else none
    | some (.struct fs) => if P.stoodInHeld t then none else
      match flatFs (flatK P d) P fs.toList 0 with
      | some ks => if P.cellsOf t = ks.length then some ks else none
      | none => none
    | _ => none

theorem pvEqs_length : ∀ {ks : List LK} {as bs : List PV} {r : Bool}, pvEqs ks as bs = some r → as.length = ks.length ∧ bs.length = ks.length
  | [], [], [], _, _ => ⟨rfl, rfl⟩
  | [], _ :: _, _, _, h => by simp [pvEqs] at h
  | [], [], _ :: _, _, h => by simp [pvEqs] at h
  | _ :: _, [], _, _, h => by simp [pvEqs] at h
  | _ :: _, _ :: _, [], _, h => by simp [pvEqs] at h
  | k :: ks, a :: as, b :: bs, r, h => by
    simp only [pvEqs] at h
    split at h
    · rename_i h1 h2; have := pvEqs_length h2; simp [this]
    · cases h

theorem pvEqs_split : ∀ {ks ks' : List LK} {as bs : List PV} {r : Bool}, pvEqs (ks ++ ks') as bs = some r →
    ∃ p q, pvEqs ks (as.take ks.length) (bs.take ks.length) = some p ∧ pvEqs ks' (as.drop ks.length) (bs.drop ks.length) = some q ∧ r = (p && q)
  | [], ks', as, bs, r, h => ⟨true, r, by simp [pvEqs], by simpa using h, by simp⟩
  | k :: ks, ks', [], bs, r, h => by simp [pvEqs] at h
  | k :: ks, ks', _ :: _, [], r, h => by simp [pvEqs] at h
  | k :: ks, ks', a :: as, b :: bs, r, h => by
    simp only [List.cons_append, pvEqs] at h
    split at h
    · rename_i p q h1 h2
      cases h
      obtain ⟨p', q', h3, h4, h5⟩ := pvEqs_split h2
      exact ⟨p && p', q', by simp [pvEqs, h1, h3], by simpa using h4, by rw [h5, Bool.and_assoc]⟩
    · cases h

def ofCells (P : Program) (t : TypeId) (xs : List Value) : Value :=
  match P.underlying t with
  | some (.struct _) | some (.array _ _) => .agg xs.toArray
  | _ => xs.headD undef

theorem info_of_underlying {P : Program} {t : TypeId} {d : TypeDesc} (h : P.underlying t = some d) : ∃ i, P.info? t = some i := by
  unfold Program.underlying at h
  split at h
  · rename_i h1; exact ⟨_, h1⟩
  · rename_i i _ h1; exact ⟨i, h1⟩
  · cases h

theorem part_ofCells {P : Program} {t : TypeId} {d : TypeDesc} (hd : P.underlying t = some d) {xs : List Value} {off n : Nat} (hn : P.cellsOf t = n) (hl : off + n ≤ xs.length) (h1 : isAggD d = false → n = 1) (w : World) :
    (part t xs.toArray off).run P w = .ok (ofCells P t ((xs.drop off).take n)) w := by
  obtain ⟨i, hi⟩ := info_of_underlying hd
  have hs : n = i.size := by rw [← hn]; simp [Program.cellsOf, hi]
  subst hs
  unfold ofCells
  cases d <;> simp only [isAggD] at h1
  case struct fs => simp [part, isAgg, underlying, hd, sizeOf, typeInfo, hi, List.extract_eq_take_drop]
  case array n e => simp [part, isAgg, underlying, hd, sizeOf, typeInfo, hi, List.extract_eq_take_drop]
  all_goals
    have h1 := h1 trivial
    rw [h1] at hl ⊢
    simp only [part, isAgg, underlying, hd, Sem.run_bind, run_program, Result.andThen_ok, Sem.run_pure, Bool.false_eq_true, if_false]
    have : xs.toArray[off]? = some (xs[off]'(by omega)) := by simp [List.getElem?_eq_getElem (show off < xs.length by omega)]
    rw [this]
    have e1 : (xs.drop off).take 1 = [xs[off]'(by omega)] := by
      rw [List.drop_eq_getElem_cons (show off < xs.length by omega)]; rfl
    simp [e1]

theorem flatK_kd {P : Program} {d : Nat} {t : TypeId} {ks : List LK} (h : flatK P d t = some ks) : ∃ dd, P.underlying t = some dd ∧ P.cellsOf t = ks.length ∧ (isAggD dd = false → ks.length = 1) := by
  cases d with
  | zero => simp [flatK] at h
  | succ d =>
    simp only [flatK] at h
    split at h
    · rename_i hd; split at h
      · rename_i hc; cases h; exact ⟨_, hd, hc, fun _ => rfl⟩
      · cases h
    · rename_i hd; split at h
      · rename_i hc; cases h; exact ⟨_, hd, hc, fun _ => rfl⟩
      · cases h
    · rename_i hd; split at h
      · rename_i hc; cases h; exact ⟨_, hd, hc, fun _ => rfl⟩
      · cases h
    · rename_i fs hd
      split at h
      · cases h
      · split at h
        · split at h
          · rename_i hc; cases h; exact ⟨_, hd, hc, fun e => by simp [isAggD] at e⟩
          · cases h
        · cases h
    · cases h

theorem eqIn_ok {P : Program} {g : Gh} : ∀ (d : Nat) (t : TypeId) (ks : List LK) (k : Nat) (as bs : List PV) (xs ys : List Value) (r : Bool), flatK P d t = some ks → VPs g as xs → VPs g bs ys →
    pvEqs ks as bs = some r → ∀ w, (Op.equalIn (d + k) t (ofCells P t xs) (ofCells P t ys)).run P w = .ok r w
  | 0, t, _, _, _, _, _, _, _, h, _, _, _, _ => by simp [flatK] at h
  | d + 1, t, ks, k, as, bs, xs, ys, r, h, ha, hb, he, w => by
    have hlx := VPs_length ha
    have hly := VPs_length hb
    have hab := pvEqs_length he
    simp only [flatK] at h
    have hdk : d + 1 + k = (d + k) + 1 := by omega
    have leaf : ∀ lk, ks = [lk] → ∃ a b x y, as = [a] ∧ bs = [b] ∧ xs = [x] ∧ ys = [y] ∧ VP g a x ∧ VP g b y ∧ pvEq lk a b = some r := by
      rintro lk rfl
      obtain ⟨a, rfl⟩ := List.length_eq_one_iff.1 (hab.1)
      obtain ⟨b, rfl⟩ := List.length_eq_one_iff.1 (hab.2)
      simp only [VPs] at ha hb
      obtain ⟨x, _, rfl, hx, rfl⟩ := ha
      obtain ⟨y, _, rfl, hy, rfl⟩ := hb
      refine ⟨a, b, x, y, rfl, rfl, rfl, rfl, hx, hy, ?_⟩
      simp only [pvEqs] at he
      cases hp : pvEq lk a b with
      | none => rw [hp] at he; simp at he
      | some p => rw [hp] at he; simp at he; rw [he]
    split at h
    · rename_i kk hd
      split at h
      · cases h
        obtain ⟨a, b, x, y, rfl, rfl, rfl, rfl, hx, hy, hp⟩ := leaf _ rfl
        simp only [ofCells, hd, List.headD_cons]
        rw [hdk]
        cases a <;> cases b <;> simp only [pvEq, reduceCtorEq] at hp
        simp only [VP] at hx hy; subst hx hy
        split at hp
        · subst_vars; cases hp; exact run_equalIn_int w _ _ _ _ _ _ hd
        · cases hp
      · cases h
    · rename_i hd
      split at h
      · cases h
        obtain ⟨a, b, x, y, rfl, rfl, rfl, rfl, hx, hy, hp⟩ := leaf _ rfl
        simp only [ofCells, hd, List.headD_cons]
        rw [hdk]
        cases a <;> cases b <;> simp only [pvEq, reduceCtorEq, Option.some.injEq] at hp
        simp only [VP] at hx hy; subst hx hy hp
        exact run_equalIn_bool' w _ _ _ _ hd
      · cases h
    · rename_i hd
      split at h
      · cases h
        obtain ⟨a, b, x, y, rfl, rfl, rfl, rfl, hx, hy, hp⟩ := leaf _ rfl
        simp only [ofCells, hd, List.headD_cons]
        rw [hdk]
        cases a <;> cases b <;> simp only [pvEq, reduceCtorEq, Option.some.injEq] at hp
        simp only [VP] at hx hy; subst hx hy hp
        rw [run_equalIn_string w _ _ _ _ hd]; simp
      · cases h
    · rename_i fs hd
      split at h
      · cases h
      rename_i hst
      split at h
      · rename_i ks' hf
        split at h
        · rename_i hc
          cases h
          have hfo : P.fieldsOf t = fs := by simp [Program.fieldsOf, hd]
          simp only [ofCells, hd]
          rw [hdk, run_equalIn_struct w _ _ _ _ (by rw [hfo]; exact hd) (by simpa using hst), hfo]
          have key : ∀ (l : List Field) (o : Nat) (js : List LK) (r : Bool), flatFs (flatK P d) P l o = some js → o ≤ as.length → o ≤ bs.length → pvEqs js (as.drop o) (bs.drop o) = some r →
              (Op.eqFields (d + k) xs.toArray ys.toArray l).run P w = .ok r w := by
            intro l
            induction l with
            | nil =>
              intro o js r hl1 ho1 ho2 hp
              simp only [flatFs, Option.some.injEq] at hl1; subst hl1
              have e := pvEqs_length hp
              rw [List.eq_nil_of_length_eq_zero (l := as.drop o) (by simpa using e.1), List.eq_nil_of_length_eq_zero (l := bs.drop o) (by simpa using e.2)] at hp
              simp only [pvEqs, Option.some.injEq] at hp; subst hp
              simp [Op.eqFields]
            | cons f l ih =>
              intro o js r hl1 ho1 ho2 hp
              simp only [flatFs] at hl1
              split at hl1
              · rename_i hn
                obtain ⟨h1, h2⟩ := hn
                split at hl1
                · rename_i fk h3
                  cases h4 : flatFs (flatK P d) P l (o + fk.length) with
                  | none => rw [h4] at hl1; cases hl1
                  | some js' =>
                    rw [h4] at hl1
                    simp only [Option.map_some, Option.some.injEq] at hl1; subst hl1
                    have hle := pvEqs_length hp
                    simp only [List.length_drop, List.length_append] at hle
                    obtain ⟨p, q, hp1, hq, rfl⟩ := pvEqs_split hp
                    rw [List.drop_drop, List.drop_drop] at hq
                    obtain ⟨dd, hdd, hcl, hdc⟩ := flatK_kd h3
                    have r1 := eqIn_ok d f.type fk k _ _ _ _ p h3 (VPs_take fk.length (VPs_drop o ha)) (VPs_take fk.length (VPs_drop o hb)) hp1 w
                    have r2 := ih _ _ q h4 (by omega) (by omega) hq
                    have p1 := part_ofCells hdd (xs := xs) (off := o) hcl (by omega) hdc w
                    have p2 := part_ofCells hdd (xs := ys) (off := o) hcl (by omega) hdc w
                    simp only [Op.eqFields]
                    rw [if_pos h1, h2]
                    simp only [Sem.run_bind, p1, p2, Result.andThen_ok, r1]
                    cases p
                    · simp
                    · simp [r2]
                · cases hl1
              · cases hl1
          exact key fs.toList 0 _ r hf (Nat.zero_le _) (Nat.zero_le _) (by simpa using he)
        · cases h
      · cases h
    · cases h


/-- What the evaluator is told of comparing is so. -/
structure EqOk (E : Env) (P : Program) : Prop where
  flat : ∀ t, (E.ty t).eqk ≠ [] → flatK P 100 t = some (E.ty t).eqk
  guard : ∀ t, (E.ty t).eqk ≠ [] → P.eqGuardType P.depth t = false

section
variable {E : Env} {P : Program}

theorem intO_ok {op : BinOp} {k : IntKind} {a b : Int} {p : PV} {g : Gh} (t : TypeId) (w : World) (he : intO op k a b = some p) :
    ∃ y, (binOp op t (.int k a) (.int k b)).run P w = .ok y w ∧ VP g p y := by
  cases op <;> simp only [intO, Option.some.injEq, reduceCtorEq] at he
  case quo => split at he <;> cases he; rename_i h0; exact ⟨_, by simp [binOp, Op.intDiv, h0]; rfl, by simp [VP]⟩
  case rem => split at he <;> cases he; rename_i h0; exact ⟨_, by simp [binOp, Op.intDiv, h0]; rfl, by simp [VP]⟩
  all_goals
    subst he
    exact ⟨_, by simp [binOp, Op.intArith, Op.intBits, Op.intCmp]; rfl, by simp [VP]⟩

theorem shiftO_ok {op : BinOp} {k k' : IntKind} {a b : Int} {p : PV} {g : Gh} (t : TypeId) (w : World) (he : shiftO op k a b = some p) :
    ∃ y, (binOp op t (.int k a) (.int k' b)).run P w = .ok y w ∧ VP g p y := by
  unfold shiftO at he
  split at he
  · cases he
  · rename_i hb
    cases op <;> simp only [Option.some.injEq, reduceCtorEq] at he
    all_goals
      subst he
      exact ⟨_, by simp [binOp, Op.shift, hb]; rfl, by simp [VP]⟩

theorem strO_ok {op : BinOp} {a b : List UInt8} {p : PV} {g : Gh} (t : TypeId) (w : World) (he : strO op a b = some p) :
    ∃ y, (binOp op t (.string ⟨a.toArray⟩) (.string ⟨b.toArray⟩)).run P w = .ok y w ∧ VP g p y := by
  cases op <;> simp only [strO, Option.some.injEq, reduceCtorEq] at he
  case add =>
    split at he <;> cases he
    rename_i hl
    have h1 : ¬ (((⟨a.toArray⟩ : ByteArray).size + (⟨b.toArray⟩ : ByteArray).size : Nat) : Int) > IntKind.i64.max := by
      have : IntKind.i64.max = 9223372036854775807 := by decide
      rw [this]; simp [ByteArray.size]; omega
    refine ⟨.string (⟨a.toArray⟩ ++ ⟨b.toArray⟩), ?_, ?_⟩
    · simp only [binOp, Op.stringOp]; rw [if_neg h1]; rfl
    · simp only [VP]; congr 1
  all_goals
    subst he
    exact ⟨_, by simp [binOp, Op.stringOp]; rfl, by simp [VP]⟩


theorem eqGuard_ok {op : BinOp} {t : TypeId} {x y : Operand} {a b : Value} (w : World) (h : ∀ xs ys, a = .agg xs → b = .agg ys → P.eqGuardType P.depth t = false) (hn : ¬ (a = .nilIface ∧ b = .nilIface)) :
    (eqGuard op t x y a b).run P w = .ok () w := by
  unfold eqGuard
  cases op
  case eql | neq =>
    simp only [Bool.not_true, Bool.false_eq_true, if_false]
    cases a <;> cases b <;> first | rfl | (exact absurd ⟨rfl, rfl⟩ hn) | (rename_i xs ys; simp [h _ _ rfl rfl])
  all_goals rfl

theorem nilOf_ok {g : Gh} {kd : TK} {a : AV} {x : Value} {r : Bool} (h : VA g a x) (he : nilOf kd a = some r) :
    (∃ e, kd = .ptr e ∧ ((r = true ∧ x = .pointer none) ∨ (r = false ∧ ∃ p, x = .pointer (some p)))) ∨
    (kd = .func ∧ ((r = true ∧ x = .nilFunc) ∨ (r = false ∧ ∃ f p q, x = .func f p q))) ∨
    (∃ k e, kd = .map k e ∧ ((r = true ∧ x = .map none) ∨ (r = false ∧ ∃ m, x = .map (some m)))) ∨
    (kd = .iface ∧ ((r = true ∧ x = .nilIface) ∨ (r = false ∧ ∃ t v, x = .iface t v))) := by
  unfold nilOf at he
  split at he <;> simp only [Option.some.injEq, reduceCtorEq] at he <;> subst he <;> simp only [VA, VP] at h
  · subst h; simp
  · subst h; simp
  · subst h; simp
  · subst h; simp
  · obtain ⟨c, _, rfl⟩ := h; simp
  · obtain ⟨b, o, vs, rfl, _⟩ := h; simp
  · subst h; simp
  · obtain ⟨p, q, rfl, _⟩ := h; simp
  · obtain ⟨p, rfl, _⟩ := h; simp
  · obtain ⟨c, _, rfl⟩ := h; simp
  · obtain ⟨r, es, rfl, _⟩ := h; simp
  · obtain ⟨y, rfl, _⟩ := h; simp
  · obtain ⟨y, rfl, _⟩ := h; simp

theorem eqIn_ptr1 (w : World) (d : Nat) {t e : TypeId} (h : P.underlying t = some (.pointer e)) (b : Option Addr) : (Op.equalIn (d + 1) t (.pointer none) (.pointer b)).run P w = .ok b.isNone w := by
  simp [Op.equalIn, underlying, h]
theorem eqIn_ptr2 (w : World) (d : Nat) {t e : TypeId} (h : P.underlying t = some (.pointer e)) (a : Addr) : (Op.equalIn (d + 1) t (.pointer (some a)) (.pointer none)).run P w = .ok false w := by
  simp [Op.equalIn, underlying, h]
theorem eqIn_map1 (w : World) (d : Nat) {t k e : TypeId} (h : P.underlying t = some (.map k e)) (b : Option Nat) : (Op.equalIn (d + 1) t (.map none) (.map b)).run P w = .ok b.isNone w := by
  simp [Op.equalIn, underlying, h]
theorem eqIn_map2 (w : World) (d : Nat) {t k e : TypeId} (h : P.underlying t = some (.map k e)) (a : Nat) : (Op.equalIn (d + 1) t (.map (some a)) (.map none)).run P w = .ok false w := by
  simp [Op.equalIn, underlying, h]
theorem eqIn_fn0 (w : World) (d : Nat) {t : TypeId} {a b : Array TypeId} {c : Bool} (h : P.underlying t = some (.func a b c)) : (Op.equalIn (d + 1) t .nilFunc .nilFunc).run P w = .ok true w := by
  simp [Op.equalIn, underlying, h]
theorem eqIn_fn1 (w : World) (d : Nat) {t : TypeId} {a b : Array TypeId} {c : Bool} (h : P.underlying t = some (.func a b c)) (f : Fn) (p q : Array Value) : (Op.equalIn (d + 1) t .nilFunc (.func f p q)).run P w = .ok false w := by
  simp [Op.equalIn, underlying, h]
theorem eqIn_fn2 (w : World) (d : Nat) {t : TypeId} {a b : Array TypeId} {c : Bool} (h : P.underlying t = some (.func a b c)) (f : Fn) (p q : Array Value) : (Op.equalIn (d + 1) t (.func f p q) .nilFunc).run P w = .ok false w := by
  simp [Op.equalIn, underlying, h]
theorem eqIn_if1 (w : World) (d : Nat) {t : TypeId} {ms : Array (String × TypeId)} (h : P.underlying t = some (.interface ms)) (u : TypeId) (v : Value) : (Op.equalIn (d + 1) t .nilIface (.iface u v)).run P w = .ok false w := by
  simp [Op.equalIn, underlying, h]
theorem eqIn_if2 (w : World) (d : Nat) {t : TypeId} {ms : Array (String × TypeId)} (h : P.underlying t = some (.interface ms)) (u : TypeId) (v : Value) : (Op.equalIn (d + 1) t (.iface u v) .nilIface).run P w = .ok false w := by
  simp [Op.equalIn, underlying, h]

/-- '==' and '!=' where neither side is a number or a text. -/
def EqRun (P : Program) (w : World) (t : TypeId) (x y : Value) (r : Bool) : Prop :=
  (∀ op u v, (eqGuard op t u v x y).run P w = .ok () w) ∧ (Op.equal t x y).run P w = .ok r w ∧
    binOp .eql t x y = (do pure (.bool (← Op.equal t x y))) ∧ binOp .neq t x y = (do pure (.bool (!(← Op.equal t x y))))

theorem equal_ok {g : Gh} (T : TyOk E P) (Q : EqOk E P) {t : TypeId} {a b : AV} {x y : Value} {r : Bool} (ha : VA g a x) (hb : VA g b y) (he : eqO (E.ty t) a b = some r) (w : World) : EqRun P w t x y r := by
  have hok : (E.ty t).kd ≠ .other → (E.ty t).ok = true := fun h => T.of_kd h
  have mk : ∀ {x y : Value} {r : Bool}, (Op.equalIn (9999 + 1) t x y).run P w = .ok r w → (∀ xs ys, x = .agg xs → y = .agg ys → P.eqGuardType P.depth t = false) → ¬ (x = .nilIface ∧ y = .nilIface) →
      binOp .eql t x y = (do pure (.bool (← Op.equal t x y))) → binOp .neq t x y = (do pure (.bool (!(← Op.equal t x y)))) → EqRun P w t x y r :=
    fun h h1 h2 h3 h4 => ⟨fun op u v => eqGuard_ok w h1 h2, h, h3, h4⟩
  unfold eqO at he
  split at he
  · rename_i hk
    obtain ⟨d, h1, h2⟩ := (T.real t (hok (by rw [hk]; simp))).kd
    rw [hk] at h2; simp only [KdOk] at h2; obtain ⟨rfl, _⟩ := h2
    split at he
    · cases he
      simp only [VA, VP] at ha hb; subst ha hb
      exact mk (run_equalIn_bool' w _ _ _ _ h1) (by simp) (by simp) rfl rfl
    · cases he
  · rename_i fs hk
    split at he
    · rename_i k ks as bs hek
      have hne : (E.ty t).eqk ≠ [] := by rw [hek]; simp
      have hf := Q.flat t hne
      have hg := Q.guard t hne
      obtain ⟨d, h1, h2⟩ := (T.real t (hok (by rw [hk]; simp))).kd
      rw [hk] at h2; simp only [KdOk] at h2; obtain ⟨⟨fields, rfl, _⟩, _⟩ := h2
      simp only [VA, VP] at ha hb
      obtain ⟨xs, rfl, _, ha⟩ := ha
      obtain ⟨ys, rfl, _, hb⟩ := hb
      have := eqIn_ok 100 t _ 9900 as bs xs ys r hf ha hb (by rw [hek]; exact he) w
      simp only [ofCells, h1] at this
      exact mk this (fun _ _ _ _ => hg) (by simp) rfl rfl
    · cases he
  · rename_i hk
    obtain ⟨d, h1, h2⟩ := (T.real t (hok (by rw [hk]; simp))).kd
    rw [hk] at h2; simp only [KdOk] at h2; obtain ⟨⟨ms, rfl⟩, _⟩ := h2
    split at he
    · rename_i p q hp hq
      have e1 := nilOf_ok ha hp
      have e2 := nilOf_ok hb hq
      simp at e1 e2
      rcases e1 with ⟨rfl, rfl⟩ | ⟨rfl, t1, v1, rfl⟩ <;> rcases e2 with ⟨rfl, rfl⟩ | ⟨rfl, t2, v2, rfl⟩ <;> simp at he <;> subst he
      · exact mk (eqIn_if1 w _ h1 _ _) (by simp) (by simp) rfl rfl
      · exact mk (eqIn_if2 w _ h1 _ _) (by simp) (by simp) rfl rfl
    · cases he
  · rename_i kd hk1 hk2 hk3
    have two : ∀ {p q : Bool}, nilOf (E.ty t).kd a = some p → nilOf (E.ty t).kd b = some q → (p = true ∧ r = q) ∨ (p = false ∧ q = true ∧ r = false) → EqRun P w t x y r := by
      intro p q hp hq hr
      have e1 := nilOf_ok ha hp
      have e2 := nilOf_ok hb hq
      rcases e1 with ⟨e, hk, h⟩ | ⟨hk, h⟩ | ⟨k, e, hk, h⟩ | ⟨hk, h⟩
      · obtain ⟨d, h1, h2⟩ := (T.real t (hok (by rw [hk]; simp))).kd
        rw [hk] at h2 e2; simp only [KdOk] at h2; obtain ⟨rfl, _⟩ := h2
        simp at e2
        rcases h with ⟨rfl, rfl⟩ | ⟨rfl, p, rfl⟩ <;> rcases e2 with ⟨rfl, rfl⟩ | ⟨rfl, p', rfl⟩ <;> simp at hr <;> subst hr
        · exact mk (eqIn_ptr1 w _ h1 _) (by simp) (by simp) rfl rfl
        · exact mk (eqIn_ptr1 w _ h1 _) (by simp) (by simp) rfl rfl
        · exact mk (eqIn_ptr2 w _ h1 _) (by simp) (by simp) rfl rfl
      · obtain ⟨d, h1, h2⟩ := (T.real t (hok (by rw [hk]; simp))).kd
        rw [hk] at h2 e2; simp only [KdOk] at h2; obtain ⟨⟨_, _, _, rfl⟩, _⟩ := h2
        simp at e2
        rcases h with ⟨rfl, rfl⟩ | ⟨rfl, f, p, q, rfl⟩ <;> rcases e2 with ⟨rfl, rfl⟩ | ⟨rfl, f', p', q', rfl⟩ <;> simp at hr <;> subst hr
        · exact mk (eqIn_fn0 w _ h1) (by simp) (by simp) rfl rfl
        · exact mk (eqIn_fn1 w _ h1 _ _ _) (by simp) (by simp) rfl rfl
        · exact mk (eqIn_fn2 w _ h1 _ _ _) (by simp) (by simp) rfl rfl
      · obtain ⟨d, h1, h2⟩ := (T.real t (hok (by rw [hk]; simp))).kd
        rw [hk] at h2 e2; simp only [KdOk] at h2; obtain ⟨⟨rfl, _⟩, _⟩ := h2
        simp at e2
        rcases h with ⟨rfl, rfl⟩ | ⟨rfl, p, rfl⟩ <;> rcases e2 with ⟨rfl, rfl⟩ | ⟨rfl, p', rfl⟩ <;> simp at hr <;> subst hr
        · exact mk (eqIn_map1 w _ h1 _) (by simp) (by simp) rfl rfl
        · exact mk (eqIn_map1 w _ h1 _) (by simp) (by simp) rfl rfl
        · exact mk (eqIn_map2 w _ h1 _) (by simp) (by simp) rfl rfl
      · exact absurd hk (by intro e; exact hk3 e)
    split at he
    · rename_i y' hp hq; cases he; exact two hp hq (.inl ⟨rfl, rfl⟩)
    · rename_i hp hq; cases he; exact two hp hq (.inr ⟨rfl, rfl, rfl⟩)
    · cases he

theorem binO_ok {g : Gh} (T : TyOk E P) (Q : EqOk E P) {t : TypeId} {op : BinOp} {a b v : AV} {x y : Value} (ha : VA g a x) (hb : VA g b y) (he : binO (E.ty t) op a b = some v) (u1 u2 : Operand) (w : World) :
    ∃ z, (do eqGuard op t u1 u2 x y; binOp op t x y : Sem Value).run P w = .ok z w ∧ VA g v z := by
  have ng : ∀ {x y : Value}, (∀ xs, x ≠ .agg xs) → x ≠ .nilIface → (eqGuard op t u1 u2 x y).run P w = .ok () w := by
    intro x y h1 h2
    exact eqGuard_ok w (fun xs _ e _ => absurd e (h1 xs)) (fun e => h2 e.1)
  unfold binO at he
  split at he
  · rename_i k m k' n
    simp only [VA, VP] at ha hb; subst ha hb
    simp only [Sem.run_bind, ng (x := .int k m) (by simp) (by simp), Result.andThen_ok]
    split at he
    · cases hh : shiftO op k m n with
      | none => rw [hh] at he; cases he
      | some p =>
        rw [hh] at he; simp only [Option.map_some, Option.some.injEq] at he; subst he
        obtain ⟨z, h1, h2⟩ := shiftO_ok (g := g) (k' := k') t w hh
        exact ⟨z, h1, by simpa only [VA] using h2⟩
    · split at he
      · rename_i hkk; subst hkk
        cases hh : intO op k m n with
        | none => rw [hh] at he; cases he
        | some p =>
          rw [hh] at he; simp only [Option.map_some, Option.some.injEq] at he; subst he
          obtain ⟨z, h1, h2⟩ := intO_ok (g := g) t w hh
          exact ⟨z, h1, by simpa only [VA] using h2⟩
      · cases he
  · rename_i m n
    simp only [VA, VP] at ha hb; subst ha hb
    simp only [Sem.run_bind, ng (x := .string ⟨m.toArray⟩) (by simp) (by simp), Result.andThen_ok]
    cases hh : strO op m n with
    | none => rw [hh] at he; cases he
    | some p =>
      rw [hh] at he; simp only [Option.map_some, Option.some.injEq] at he; subst he
      obtain ⟨z, h1, h2⟩ := strO_ok (g := g) t w hh
      exact ⟨z, h1, by simpa only [VA] using h2⟩
  · cases op <;> simp only [reduceCtorEq] at he
    all_goals
      cases hh : eqO (E.ty t) a b with
      | none => rw [hh] at he; cases he
      | some r =>
        rw [hh] at he; simp only [Option.map_some, Option.some.injEq] at he; subst he
        obtain ⟨h1, h2, h3, h4⟩ := equal_ok T Q ha hb hh w
        simp only [Sem.run_bind, h1, Result.andThen_ok]
        first | rw [h3] | rw [h4]
        exact ⟨_, by simp only [Sem.run_bind, h2, Result.andThen_ok, Sem.run_pure]; rfl, by simp only [VA, VP]⟩

end

end Go.Pu
