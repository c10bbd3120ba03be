/-
  More rules: elements of lists, numbers in range, ends of walks.
-/
import Derived.Test.YtlnomjfdidfhaaaGreatDoorPuA23
import Derived.IntWalk
namespace Go.Pu
open Go.IntWalk
theorem sb {a b : Bool} (h : a = true ↔ b = true) : some (PV.bool a) = some (PV.bool b) := by
  rw [Bool.eq_iff_iff.2 h]
theorem w_succ (i : Nat) (h : i < 9223372036854775807) : IntKind.i64.wrap ((i : Int) + 1) = ((i + 1 : Nat) : Int) := by
  rw [i64_in _ (by omega)]; omega
theorem w_in {n : Int} (h : -9223372036854775808 ≤ n) (h' : n ≤ 9223372036854775807) : IntKind.i64.wrap n = n := i64_in n ⟨h, h'⟩
section
variable {E : Env}
theorem iadr_map {α : Type} {t e z : Nat} (h1 : (E.ty t).kd = .slice e) (h2 : (E.ty e).size = z) (g : α → PV) (av : α → List AV) (hav : ∀ x, (g x).cells.map .pv = av x) (k : IntKind) (l : List α) (i : Nat) (h : i < l.length) :
    iadrO E t (.pv (.lst z (l.map g))) (.pv (.int k (i : Int))) = some (.rad (av l[i])) := by
  rw [iadr_lst h1 h2 _ k (i : Int) (x := g l[i]) ⟨by omega, by simpa using h⟩ (by simp [h]), hav]
theorem iadr_mapO {α : Type} {t e z : Nat} (h1 : (E.ty t).kd = .slice e) (h2 : (E.ty e).size = z) (g : α → PV) (av : α → List AV) (hav : ∀ x, (g x).cells.map .pv = av x) (k : IntKind) (b gg : Nat) (l : List α) (i : Nat) (h : i < l.length) :
    iadrO E t (.own b gg z (l.map g)) (.pv (.int k (i : Int))) = some (.rad (av l[i])) := by
  rw [iadr_own h1 h2 _ _ _ k (i : Int) (x := g l[i]) ⟨by omega, by simpa using h⟩ (by simp [h]), hav]
end

/-! ### Texts, rune by rune -/
section
variable {E : Env}
theorem decode_pos (s : ByteArray) (i : Nat) : 1 ≤ (Utf8.decode s i).2 := by
  unfold Utf8.decode
  simp only
  repeat' split
  all_goals simp
theorem runeAt_pos (s : List UInt8) : 1 ≤ (runeAt s).2 := decode_pos _ _
def nextS (H : Hp) (b : Nat) (x : Option Blk) : Option (AV × Hp) := match x with
  | some (.sit rest pos) => if rest.isEmpty then some (.pv (.tup [.bool false]), H) else some (.pv (.tup [.bool true, .int .i64 pos, .int .i32 (runeAt rest).1]), H.set b (.sit (rest.drop (runeAt rest).2) (pos + (runeAt rest).2)))
  | _ => none
@[go_sem] theorem nextO_ptr (H : Hp) (b : Nat) : nextO H (.ptr b 0) true = nextS H b H[b]? := by
  cases h : H[b]? with
  | none => simp [nextO, h, nextS]
  | some k => cases k <;> simp [nextO, h, nextS]
@[go_sem] theorem nextS_nil (H : Hp) (b pos : Nat) : nextS H b (some (.sit [] pos)) = some (.pv (.tup [.bool false]), H) := (rfl)
theorem nextS_cons {rest : List UInt8} (h : rest ≠ []) (H : Hp) (b pos : Nat) : nextS H b (some (.sit rest pos)) = some (.pv (.tup [.bool true, .int .i64 pos, .int .i32 (runeAt rest).1]), H.set b (.sit (rest.drop (runeAt rest).2) (pos + (runeAt rest).2))) := by
  unfold nextS
  cases rest with
  | nil => exact absurd rfl h
  | cons x xs => rfl
theorem rangeO_str {t : Nat} (h : (E.ty t).kd = .str) (H : Hp) (s : List UInt8) : rangeO E t H (.pv (.str s)) = some (.ptr H.length 0, H ++ [.sit s 0]) := by
  unfold rangeO; rw [h]
theorem idxO_nat (k : IntKind) {p n : Nat} (h : p < n) : idxO (.pv (.int k (p : Int))) n = some p := by
  simp only [idxO]
  rw [if_pos (by omega)]
  simp
theorem slice_from {t : Nat} (h : (E.ty t).kd = .str) (s : List UInt8) (k : IntKind) (p : Nat) (hp : p ≤ s.length) : sliceO E t (.pv (.str s)) (some (.pv (.int k (p : Int)))) none none = some (.pv (.str (s.drop p))) := by
  have e : (s.drop p).take (s.length - p) = s.drop p := by rw [List.take_of_length_le (by simp)]
  unfold sliceO
  rw [h]
  simp only [Option.isSome_none, Bool.false_eq_true, if_false, boundO, Option.bind_some]
  rw [idxO_nat k (by omega), Option.map_some, e]
theorem slice_to {t : Nat} (h : (E.ty t).kd = .str) (s : List UInt8) (k : IntKind) (p : Nat) (hp : p ≤ s.length) : sliceO E t (.pv (.str s)) none (some (.pv (.int k (p : Int)))) none = some (.pv (.str (s.take p))) := by
  unfold sliceO
  rw [h]
  simp only [Option.isSome_none, Bool.false_eq_true, if_false, boundO]
  rw [idxO_nat k (by omega)]
  simp
theorem slice_ft {t : Nat} (h : (E.ty t).kd = .str) (s : List UInt8) (k k' : IntKind) (p r : Nat) (hp : p ≤ r) (hr : r ≤ s.length) : sliceO E t (.pv (.str s)) (some (.pv (.int k (p : Int)))) (some (.pv (.int k' (r : Int)))) none = some (.pv (.str ((s.drop p).take (r - p)))) := by
  unfold sliceO
  rw [h]
  simp only [Option.isSome_none, Bool.false_eq_true, if_false, boundO]
  rw [idxO_nat k' (by omega), Option.bind_some, idxO_nat k (by omega)]
  rfl
end
@[go_sem] theorem optNone {α β : Type} (g : α → β) : Option.map g none = none := (rfl)
@[go_sem] theorem optSome {α β : Type} (g : α → β) (a : α) : Option.map g (some a) = some (g a) := (rfl)

theorem eq_struct {ti : TI} {fs : List (Nat × Nat)} {k : LK} {ks : List LK} (h1 : ti.kd = .struct fs) (h2 : ti.eqk = k :: ks) {a b : List PV} {r : Bool} (h : pvEqs (k :: ks) a b = some r) : binO ti .eql (.pv (.agg a)) (.pv (.agg b)) = some (.pv (.bool r)) := by
  simp [binO, eqO, h1, h2, h]
theorem ne_struct {ti : TI} {fs : List (Nat × Nat)} {k : LK} {ks : List LK} (h1 : ti.kd = .struct fs) (h2 : ti.eqk = k :: ks) {a b : List PV} {r : Bool} (h : pvEqs (k :: ks) a b = some r) : binO ti .neq (.pv (.agg a)) (.pv (.agg b)) = some (.pv (.bool (!r))) := by
  simp [binO, eqO, h1, h2, h]

/-! ### Values that are built -/
section
variable {E : Env}
def fulV (z : Nat) (v : AV) : List AV := match v with
  | .ful sz es => [if sz == z || es.isEmpty then .ful z es else .ful sz es]
  | v => v.cells
def fillV (E : Env) (pl : Nat → Option (Nat × Nat)) : List (Nat × AV) → List AV → Option (List AV)
  | [], cs => some cs
  | (i, v) :: r, cs => match pl i with
    | some (off, t) => bcond (v.known && Nat.beq v.cells.length (E.ty t).size && Nat.ble (off + (E.ty t).size) cs.length) (fillV E pl r (setMany cs off (fulV (E.esz t) v))) none
    | none => none
theorem fillO_V (pl : Nat → Option (Nat × Nat)) (ev : Operand → AV) : ∀ (ps : List (Nat × Operand)) (cs : List AV), fillO E pl ev ps cs = fillV E pl (ps.map fun p => (p.1, ev p.2)) cs
  | [], cs => rfl
  | (i, x) :: r, cs => by
    simp only [fillO, fillV, List.map_cons]
    cases pl i with
    | none => rfl
    | some p =>
      obtain ⟨off, t⟩ := p
      simp only [bcond]
      by_cases h : (ev x).known = true ∧ (ev x).cells.length = (E.ty t).size ∧ off + (E.ty t).size ≤ cs.length
      · rw [if_pos h, fillO_V pl ev r]
        obtain ⟨h1, h2, h3⟩ := h
        rw [h1, h2, Nat.ble_eq_true_of_le h3, nbeq_self]
        rfl
      · rw [if_neg h]
        cases hb : ((ev x).known && Nat.beq (ev x).cells.length (E.ty t).size && Nat.ble (off + (E.ty t).size) cs.length) with
        | false => rfl
        | true =>
          simp only [Bool.and_eq_true] at hb
          exact absurd ⟨hb.1.1, Nat.eq_of_beq_eq_true hb.1.2, Nat.le_of_ble_eq_true hb.2⟩ h
def buildF (mint : List Nat) (x : Option (List AV)) : Option AV := match x with | some cs => some (if !mint.isEmpty then .agg cs else mkAgg cs) | none => none
@[go_sem] theorem buildF_nil (cs : List AV) : buildF [] (some cs) = some (mkAgg cs) := (rfl)
@[go_sem] theorem buildF_cons (m : Nat) (ms : List Nat) (cs : List AV) : buildF (m :: ms) (some cs) = some (.agg cs) := (rfl)
def buildW (E : Env) (t : Nat) (mint : List Nat) (kd : TK) (vs : List (Nat × AV)) : Option AV := match kd with
  | .struct fs => bcond (Nat.beq (E.ty t).zero.length (E.ty t).size) (buildF mint (fillV E (fs[·]?) vs (zeroC mint (E.ty t).zero))) none
  | .array n e => bcond (Nat.beq (E.ty t).zero.length (E.ty t).size) (buildF mint (fillV E (fun i => if i < n then some (i * (E.ty e).size, e) else none) vs (zeroC mint (E.ty t).zero))) none
  | _ => none
def buildV (E : Env) (t : Nat) (vs : List (Nat × AV)) (mint : List Nat) : Option AV := buildW E t mint (E.ty t).kd vs
theorem buildO_V (ev : Operand → AV) (t : Nat) (ps : List (Nat × Operand)) (mint : List Nat) : buildO E ev t ps mint = buildV E t (ps.map fun p => (p.1, ev p.2)) mint := by
  unfold buildO buildV
  generalize (E.ty t).kd = kd
  cases kd <;> try rfl
  all_goals
    simp only [buildW, fillO_V, bcond]
    by_cases h : (E.ty t).zero.length = (E.ty t).size
    · rw [if_neg (by simpa using h), h, nbeq_self]
      simp only [cond_true]
      unfold buildF
      generalize fillV E _ _ _ = x
      cases x <;> rfl
    · rw [if_pos h]
      cases h3 : Nat.beq (E.ty t).zero.length (E.ty t).size
      · rfl
      · exact absurd (Nat.eq_of_beq_eq_true h3) h
attribute [go_sem] buildO_V
theorem buildV_eq (t : Nat) (vs : List (Nat × AV)) (mint : List Nat) : buildV E t vs mint = buildW E t mint (E.ty t).kd vs := (rfl)
attribute [go_sem low] buildV_eq
@[go_sem] theorem buildW_struct (t : Nat) (mint : List Nat) (fs : List (Nat × Nat)) (vs : List (Nat × AV)) : buildW E t mint (.struct fs) vs = bcond (Nat.beq (E.ty t).zero.length (E.ty t).size) (buildF mint (fillV E (fs[·]?) vs (zeroC mint (E.ty t).zero))) none := (rfl)
@[go_sem] theorem fillV_nil (pl : Nat → Option (Nat × Nat)) (cs : List AV) : fillV E pl [] cs = some cs := (rfl)
def fillX (E : Env) (pl : Nat → Option (Nat × Nat)) (v : AV) (r : List (Nat × AV)) (cs : List AV) (x : Option (Nat × Nat)) : Option (List AV) := match x with
  | some (off, t) => bcond (v.known && Nat.beq v.cells.length (E.ty t).size && Nat.ble (off + (E.ty t).size) cs.length) (fillV E pl r (setMany cs off (fulV (E.esz t) v))) none
  | none => none
@[go_sem] theorem fillV_cons (pl : Nat → Option (Nat × Nat)) (i : Nat) (v : AV) (r : List (Nat × AV)) (cs : List AV) : fillV E pl ((i, v) :: r) cs = fillX E pl v r cs (pl i) := (rfl)
@[go_sem] theorem fillX_some (pl : Nat → Option (Nat × Nat)) (v : AV) (r : List (Nat × AV)) (cs : List AV) (off t : Nat) : fillX E pl v r cs (some (off, t)) = bcond (v.known && Nat.beq v.cells.length (E.ty t).size && Nat.ble (off + (E.ty t).size) cs.length) (fillV E pl r (setMany cs off (fulV (E.esz t) v))) none := (rfl)
@[go_sem] theorem setMany_eq (cs : List AV) (off : Nat) (vs : List AV) : setMany cs off vs = cs.take off ++ vs ++ cs.drop (off + vs.length) := (rfl)
@[go_sem] theorem fulV_pv (z : Nat) (x : PV) : fulV z (.pv x) = (AV.pv x).cells := (rfl)
@[go_sem] theorem fulV_own (z b g sz : Nat) (es : List PV) : fulV z (.own b g sz es) = [.own b g sz es] := (rfl)
@[go_sem] theorem fulV_fn (z g : Nat) (p r : List AV) : fulV z (.fn g p r) = [.fn g p r] := (rfl)
@[go_sem] theorem fulV_ptr (z b o : Nat) : fulV z (.ptr b o) = [.ptr b o] := (rfl)
@[go_sem] theorem fulV_lst (z sz : Nat) (es : List AV) : fulV z (.lst sz es) = [.lst sz es] := (rfl)
@[go_sem] theorem fulV_nil (z sz : Nat) : fulV z (.ful sz []) = [.ful z []] := by simp [fulV]

/-- The parts of a slice that is written out. -/
def partsV (size : Nat) : Nat → List (Nat × AV) → Option (List AV)
  | _, [] => some []
  | i, (j, v) :: r => bcond (Nat.beq i j && v.known && Nat.beq v.cells.length size) (consO (some v) (partsV size (i + 1) r)) none
theorem partsO_V (ev : Operand → AV) (size : Nat) : ∀ (ps : List (Nat × Operand)) (i : Nat), partsO ev size i ps = partsV size i (ps.map fun p => (p.1, ev p.2))
  | [], _ => rfl
  | (j, x) :: r, i => by
    simp only [partsO, partsV, List.map_cons, bcond]
    by_cases h : i = j ∧ (ev x).known = true ∧ (ev x).cells.length = size
    · rw [if_pos h, partsO_V ev size r]
      obtain ⟨h1, h2, h3⟩ := h
      rw [h2, h3, h1, nbeq_self, nbeq_self]
      simp only [Bool.and_self, cond_true, consO]
      cases partsV size (j + 1) (List.map (fun p => (p.1, ev p.2)) r) <;> rfl
    · rw [if_neg h]
      cases hb : (Nat.beq i j && (ev x).known && Nat.beq (ev x).cells.length size) with
      | false => rfl
      | true =>
        simp only [Bool.and_eq_true] at hb
        exact absurd ⟨Nat.eq_of_beq_eq_true hb.1.1, hb.1.2, Nat.eq_of_beq_eq_true hb.2⟩ h
def lstOf (sz : Nat) (vs : List AV) (x : Option (List PV)) : AV := match x with | some es => .ful sz es | none => .lst sz vs
@[go_sem] theorem lstOf_some (sz : Nat) (vs : List AV) (es : List PV) : lstOf sz vs (some es) = .ful sz es := (rfl)
@[go_sem] theorem lstOf_none (sz : Nat) (vs : List AV) : lstOf sz vs none = .lst sz vs := (rfl)
def sliceP (sz : Nat) (x : Option (List AV)) : Option AV := match x with | some vs => some (lstOf sz vs (allPV vs)) | none => none
@[go_sem] theorem sliceP_some (sz : Nat) (vs : List AV) : sliceP sz (some vs) = some (lstOf sz vs (allPV vs)) := (rfl)
theorem bsliceO_V {t e n z : Nat} {ps : List (Nat × Operand)} (h1 : (E.ty t).kd = .slice e) (h2 : (E.ty e).size = z) (h3 : (E.ty e).zero.length = z) (h4 : ps.length = n) (h5 : n * z ≤ 16777216) (ev : Operand → AV) :
    bsliceO E ev t n ps = sliceP z (partsV z 0 (ps.map fun p => (p.1, ev p.2))) := by
  unfold bsliceO
  rw [h1]
  simp only [h2, h3]
  rw [if_pos ⟨h4, h5, trivial⟩, partsO_V]
  unfold sliceP
  generalize partsV z 0 _ = x
  cases x with
  | none => rfl
  | some vs =>
    simp only [Option.map_some, lstOf]
    cases allPV vs <;> rfl
@[go_sem] theorem partsV_nil (size i : Nat) : partsV size i [] = some [] := (rfl)
@[go_sem] theorem partsV_cons (size i j : Nat) (v : AV) (r : List (Nat × AV)) : partsV size i ((j, v) :: r) = bcond (Nat.beq i j && v.known && Nat.beq v.cells.length size) (consO (some v) (partsV size (i + 1) r)) none := (rfl)
@[go_sem] theorem bcond_consO (v : AV) (b : Bool) (x : Option (List AV)) : consO (some v) (bcond b x none) = bcond b (consO (some v) x) none := by cases b <;> rfl
end
end Go.Pu
