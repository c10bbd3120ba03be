/-
  More rules: elements of lists, numbers in range, ends of walks.
-/
import Derived.Test.YtflehnedcjjdjaaGreatDoorPuA23
import Derived.IntWalk
set_option linter.unusedSimpArgs false
set_option linter.unusedVariables false
namespace Go.Pu
open Go.IntWalk
theorem sb {a b : Bool} (h : a = true ↔ b = true) : some (PV.bool a) = some (PV.bool b) := by
  rw [Bool.eq_iff_iff.2 h]
theorem w_succ (i : Nat) (h : i < 9223372036854775807) : IntKind.i64.wrap ((i : Int) + 1) = ((i + 1 : Nat) : Int) := by
  rw [i64_in _ (by omega)]; omega
theorem w_in {n : Int} (h : -9223372036854775808 ≤ n) (h' : n ≤ 9223372036854775807) : IntKind.i64.wrap n = n := i64_in n ⟨h, h'⟩
section
variable {E : Env}
theorem iadr_map {α : Type} {t e z : Nat} (h1 : (E.ty t).kd = .slice e) (h2 : (E.ty e).size = z) (g : α → PV) (av : α → List AV) (hav : ∀ x, (g x).cells.map .pv = av x) (k : IntKind) (l : List α) (i : Nat) (h : i < l.length) :
    iadrO E t (.pv (.lst z (l.map g))) (.pv (.int k (i : Int))) = some (.rad (av l[i])) := by
  rw [iadr_lst h1 h2 _ k (i : Int) (x := g l[i]) ⟨by omega, by simpa using h⟩ (by simp [h]), hav]
theorem iadr_mapO {α : Type} {t e z : Nat} (h1 : (E.ty t).kd = .slice e) (h2 : (E.ty e).size = z) (g : α → PV) (av : α → List AV) (hav : ∀ x, (g x).cells.map .pv = av x) (k : IntKind) (b gg : Nat) (l : List α) (i : Nat) (h : i < l.length) :
    iadrO E t (.own b gg z (l.map g)) (.pv (.int k (i : Int))) = some (.rad (av l[i])) := by
  rw [iadr_own h1 h2 _ _ _ k (i : Int) (x := g l[i]) ⟨by omega, by simpa using h⟩ (by simp [h]), hav]
end

/-! ### Texts, rune by rune -/
section
variable {E : Env}
theorem decode_pos (s : ByteArray) (i : Nat) : 1 ≤ (Utf8.decode s i).2 := by
  unfold Utf8.decode
  simp only
  repeat' split
  all_goals simp
theorem runeAt_pos (s : List UInt8) : 1 ≤ (runeAt s).2 := decode_pos _ _
def nextS (H : Hp) (b : Nat) (x : Option Blk) : Option (AV × Hp) := match x with
  | some (.sit rest pos) => if rest.isEmpty then some (.pv (.tup [.bool false]), H) else some (.pv (.tup [.bool true, .int .i64 pos, .int .i32 (runeAt rest).1]), H.set b (.sit (rest.drop (runeAt rest).2) (pos + (runeAt rest).2)))
  | _ => none
@[go_sem] theorem nextO_ptr (H : Hp) (b : Nat) : nextO H (.ptr b 0) true = nextS H b H[b]? := by
  cases h : H[b]? with
  | none => simp [nextO, h, nextS]
  | some k => cases k <;> simp [nextO, h, nextS]
@[go_sem] theorem nextS_nil (H : Hp) (b pos : Nat) : nextS H b (some (.sit [] pos)) = some (.pv (.tup [.bool false]), H) := (rfl)
theorem nextS_cons {rest : List UInt8} (h : rest ≠ []) (H : Hp) (b pos : Nat) : nextS H b (some (.sit rest pos)) = some (.pv (.tup [.bool true, .int .i64 pos, .int .i32 (runeAt rest).1]), H.set b (.sit (rest.drop (runeAt rest).2) (pos + (runeAt rest).2))) := by
  unfold nextS
  cases rest with
  | nil => exact absurd rfl h
  | cons x xs => rfl
theorem rangeO_str {t : Nat} (h : (E.ty t).kd = .str) (H : Hp) (s : List UInt8) : rangeO E t H (.pv (.str s)) = some (.ptr H.length 0, H ++ [.sit s 0]) := by
  unfold rangeO; rw [h]
theorem idxO_nat (k : IntKind) {p n : Nat} (h : p < n) : idxO (.pv (.int k (p : Int))) n = some p := by
  simp only [idxO]
  rw [if_pos (by omega)]
  simp
theorem slice_from {t : Nat} (h : (E.ty t).kd = .str) (s : List UInt8) (k : IntKind) (p : Nat) (hp : p ≤ s.length) : sliceO E t (.pv (.str s)) (some (.pv (.int k (p : Int)))) none none = some (.pv (.str (s.drop p))) := by
  have e : (s.drop p).take (s.length - p) = s.drop p := by rw [List.take_of_length_le (by simp)]
  unfold sliceO
  rw [h]
  simp only [Option.isSome_none, Bool.false_eq_true, if_false, boundO, Option.bind_some]
  rw [idxO_nat k (by omega), Option.map_some, e]
theorem slice_to {t : Nat} (h : (E.ty t).kd = .str) (s : List UInt8) (k : IntKind) (p : Nat) (hp : p ≤ s.length) : sliceO E t (.pv (.str s)) none (some (.pv (.int k (p : Int)))) none = some (.pv (.str (s.take p))) := by
  unfold sliceO
  rw [h]
  simp only [Option.isSome_none, Bool.false_eq_true, if_false, boundO]
  rw [idxO_nat k (by omega)]
  simp
theorem slice_ft {t : Nat} (h : (E.ty t).kd = .str) (s : List UInt8) (k k' : IntKind) (p r : Nat) (hp : p ≤ r) (hr : r ≤ s.length) : sliceO E t (.pv (.str s)) (some (.pv (.int k (p : Int)))) (some (.pv (.int k' (r : Int)))) none = some (.pv (.str ((s.drop p).take (r - p)))) := by
  unfold sliceO
  rw [h]
  simp only [Option.isSome_none, Bool.false_eq_true, if_false, boundO]
  rw [idxO_nat k' (by omega), Option.bind_some, idxO_nat k (by omega)]
  rfl
end
@[go_sem] theorem optNone {α β : Type} (g : α → β) : Option.map g none = none := (rfl)
@[go_sem] theorem optSome {α β : Type} (g : α → β) (a : α) : Option.map g (some a) = some (g a) := (rfl)

theorem eq_struct {ti : TI} {fs : List (Nat × Nat)} {k : LK} {ks : List LK} (h1 : ti.kd = .struct fs) (h2 : ti.eqk = k :: ks) {a b : List PV} {r : Bool} (h : pvEqs (k :: ks) a b = some r) : binO ti .eql (.pv (.agg a)) (.pv (.agg b)) = some (.pv (.bool r)) := by
  simp [binO, eqO, h1, h2, h]
theorem ne_struct {ti : TI} {fs : List (Nat × Nat)} {k : LK} {ks : List LK} (h1 : ti.kd = .struct fs) (h2 : ti.eqk = k :: ks) {a b : List PV} {r : Bool} (h : pvEqs (k :: ks) a b = some r) : binO ti .neq (.pv (.agg a)) (.pv (.agg b)) = some (.pv (.bool (!r))) := by
  simp [binO, eqO, h1, h2, h]

/-! ### Values that are built -/
section
variable {E : Env}
def fulV (z : Nat) (v : AV) : List AV := match v with
  | .ful sz es => [if sz == z || es.isEmpty then .ful z es else .ful sz es]
  | v => v.cells
def fillV (E : Env) (pl : Nat → Option (Nat × Nat)) : List (Nat × AV) → List AV → Option (List AV)
  | [], cs => some cs
  | (i, v) :: r, cs => match pl i with
    | some (off, t) => bcond (v.known && Nat.beq v.cells.length (E.ty t).size && Nat.ble (off + (E.ty t).size) cs.length) (fillV E pl r (setMany cs off (fulV (E.esz t) v))) none
    | none => none
theorem fillO_V (pl : Nat → Option (Nat × Nat)) (ev : Operand → AV) : ∀ (ps : List (Nat × Operand)) (cs : List AV), fillO E pl ev ps cs = fillV E pl (ps.map fun p => (p.1, ev p.2)) cs
  | [], cs => rfl
  | (i, x) :: r, cs => by
    simp only [fillO, fillV, List.map_cons]
    cases pl i with
    | none => rfl
    | some p =>
      obtain ⟨off, t⟩ := p
      simp only [bcond]
      by_cases h : (ev x).known = true ∧ (ev x).cells.length = (E.ty t).size ∧ off + (E.ty t).size ≤ cs.length
      · rw [if_pos h, fillO_V pl ev r]
        obtain ⟨h1, h2, h3⟩ := h
        rw [h1, h2, Nat.ble_eq_true_of_le h3, nbeq_self]
        rfl
      · rw [if_neg h]
        cases hb : ((ev x).known && Nat.beq (ev x).cells.length (E.ty t).size && Nat.ble (off + (E.ty t).size) cs.length) with
        | false => rfl
        | true =>
          simp only [Bool.and_eq_true] at hb
          exact absurd ⟨hb.1.1, Nat.eq_of_beq_eq_true hb.1.2, Nat.le_of_ble_eq_true hb.2⟩ h
def buildF (mint : List Nat) (x : Option (List AV)) : Option AV := match x with | some cs => some (if !mint.isEmpty then .agg cs else mkAgg cs) | none => none
@[go_sem] theorem buildF_nil (cs : List AV) : buildF [] (some cs) = some (mkAgg cs) := (rfl)
@[go_sem] theorem buildF_cons (m : Nat) (ms : List Nat) (cs : List AV) : buildF (m :: ms) (some cs) = some (.agg cs) := (rfl)
def buildW (E : Env) (t : Nat) (mint : List Nat) (kd : TK) (vs : List (Nat × AV)) : Option AV := match kd with
  | .struct fs => bcond (Nat.beq (E.ty t).zero.length (E.ty t).size) (buildF mint (fillV E (fs[·]?) vs (zeroC mint (E.ty t).zero))) none
  | .array n e => bcond (Nat.beq (E.ty t).zero.length (E.ty t).size) (buildF mint (fillV E (fun i => if i < n then some (i * (E.ty e).size, e) else none) vs (zeroC mint (E.ty t).zero))) none
  | _ => none
def buildV (E : Env) (t : Nat) (vs : List (Nat × AV)) (mint : List Nat) : Option AV := buildW E t mint (E.ty t).kd vs
theorem buildO_V (ev : Operand → AV) (t : Nat) (ps : List (Nat × Operand)) (mint : List Nat) : buildO E ev t ps mint = buildV E t (ps.map fun p => (p.1, ev p.2)) mint := by
  unfold buildO buildV
  generalize (E.ty t).kd = kd
  cases kd <;> try rfl
  all_goals
    simp only [buildW, fillO_V, bcond]
    by_cases h : (E.ty t).zero.length = (E.ty t).size
    · rw [if_neg (by simpa using h), h, nbeq_self]
      simp only [cond_true]
      unfold buildF
      generalize fillV E _ _ _ = x
      cases x <;> rfl
    · rw [if_pos h]
      cases h3 : Nat.beq (E.ty t).zero.length (E.ty t).size
      · rfl
      · exact absurd (Nat.eq_of_beq_eq_true h3) h
attribute [go_sem] buildO_V
theorem buildV_eq (t : Nat) (vs : List (Nat × AV)) (mint : List Nat) : buildV E t vs mint = buildW E t mint (E.ty t).kd vs := (rfl)
attribute [go_sem low] buildV_eq
@[go_sem] theorem buildW_struct (t : Nat) (mint : List Nat) (fs : List (Nat × Nat)) (vs : List (Nat × AV)) : buildW E t mint (.struct fs) vs = bcond (Nat.beq (E.ty t).zero.length (E.ty t).size) (buildF mint (fillV E (fs[·]?) vs (zeroC mint (E.ty t).zero))) none := (rfl)
@[go_sem] theorem fillV_nil (pl : Nat → Option (Nat × Nat)) (cs : List AV) : fillV E pl [] cs = some cs := (rfl)
def fillX (E : Env) (pl : Nat → Option (Nat × Nat)) (v : AV) (r : List (Nat × AV)) (cs : List AV) (x : Option (Nat × Nat)) : Option (List AV) := match x with
  | some (off, t) => bcond (v.known && Nat.beq v.cells.length (E.ty t).size && Nat.ble (off + (E.ty t).size) cs.length) (fillV E pl r (setMany cs off (fulV (E.esz t) v))) none
  | none => none
@[go_sem] theorem fillV_cons (pl : Nat → Option (Nat × Nat)) (i : Nat) (v : AV) (r : List (Nat × AV)) (cs : List AV) : fillV E pl ((i, v) :: r) cs = fillX E pl v r cs (pl i) := (rfl)
@[go_sem] theorem fillX_some (pl : Nat → Option (Nat × Nat)) (v : AV) (r : List (Nat × AV)) (cs : List AV) (off t : Nat) : fillX E pl v r cs (some (off, t)) = bcond (v.known && Nat.beq v.cells.length (E.ty t).size && Nat.ble (off + (E.ty t).size) cs.length) (fillV E pl r (setMany cs off (fulV (E.esz t) v))) none := (rfl)
@[go_sem] theorem setMany_eq (cs : List AV) (off : Nat) (vs : List AV) : setMany cs off vs = cs.take off ++ vs ++ cs.drop (off + vs.length) := (rfl)
@[go_sem] theorem fulV_pv (z : Nat) (x : PV) : fulV z (.pv x) = (AV.pv x).cells := (rfl)
@[go_sem] theorem fulV_own (z b g sz : Nat) (es : List PV) : fulV z (.own b g sz es) = [.own b g sz es] := (rfl)
@[go_sem] theorem fulV_fn (z g : Nat) (p r : List AV) : fulV z (.fn g p r) = [.fn g p r] := (rfl)
@[go_sem] theorem fulV_ptr (z b o : Nat) : fulV z (.ptr b o) = [.ptr b o] := (rfl)
@[go_sem] theorem fulV_lst (z sz : Nat) (es : List AV) : fulV z (.lst sz es) = [.lst sz es] := (rfl)
@[go_sem] theorem fulV_nil (z sz : Nat) : fulV z (.ful sz []) = [.ful z []] := by simp [fulV]

/-- The parts of a slice that is written out. -/
def partsV (size : Nat) : Nat → List (Nat × AV) → Option (List AV)
  | _, [] => some []
  | i, (j, v) :: r => bcond (Nat.beq i j && v.known && Nat.beq v.cells.length size) (consO (some v) (partsV size (i + 1) r)) none
theorem partsO_V (ev : Operand → AV) (size : Nat) : ∀ (ps : List (Nat × Operand)) (i : Nat), partsO ev size i ps = partsV size i (ps.map fun p => (p.1, ev p.2))
  | [], _ => rfl
  | (j, x) :: r, i => by
    simp only [partsO, partsV, List.map_cons, bcond]
    by_cases h : i = j ∧ (ev x).known = true ∧ (ev x).cells.length = size
    · rw [if_pos h, partsO_V ev size r]
      obtain ⟨h1, h2, h3⟩ := h
      rw [h2, h3, h1, nbeq_self, nbeq_self]
      simp only [Bool.and_self, cond_true, consO]
      cases partsV size (j + 1) (List.map (fun p => (p.1, ev p.2)) r) <;> rfl
    · rw [if_neg h]
      cases hb : (Nat.beq i j && (ev x).known && Nat.beq (ev x).cells.length size) with
      | false => rfl
      | true =>
        simp only [Bool.and_eq_true] at hb
        exact absurd ⟨Nat.eq_of_beq_eq_true hb.1.1, hb.1.2, Nat.eq_of_beq_eq_true hb.2⟩ h
def lstOf (sz : Nat) (vs : List AV) (x : Option (List PV)) : AV := match x with | some es => .ful sz es | none => .lst sz vs
@[go_sem] theorem lstOf_some (sz : Nat) (vs : List AV) (es : List PV) : lstOf sz vs (some es) = .ful sz es := (rfl)
@[go_sem] theorem lstOf_none (sz : Nat) (vs : List AV) : lstOf sz vs none = .lst sz vs := (rfl)
def sliceP (sz : Nat) (x : Option (List AV)) : Option AV := match x with | some vs => some (lstOf sz vs (allPV vs)) | none => none
@[go_sem] theorem sliceP_some (sz : Nat) (vs : List AV) : sliceP sz (some vs) = some (lstOf sz vs (allPV vs)) := (rfl)
theorem bsliceO_V {t e n z : Nat} {ps : List (Nat × Operand)} (h1 : (E.ty t).kd = .slice e) (h2 : (E.ty e).size = z) (h3 : (E.ty e).zero.length = z) (h4 : ps.length = n) (h5 : n * z ≤ 16777216) (ev : Operand → AV) :
    bsliceO E ev t n ps = sliceP z (partsV z 0 (ps.map fun p => (p.1, ev p.2))) := by
  unfold bsliceO
  rw [h1]
  simp only [h2, h3]
  rw [if_pos ⟨h4, h5, trivial⟩, partsO_V]
  unfold sliceP
  generalize partsV z 0 _ = x
  cases x with
  | none => rfl
  | some vs =>
    simp only [Option.map_some, lstOf]
    cases allPV vs <;> rfl
@[go_sem] theorem partsV_nil (size i : Nat) : partsV size i [] = some [] := (rfl)
@[go_sem] theorem partsV_cons (size i j : Nat) (v : AV) (r : List (Nat × AV)) : partsV size i ((j, v) :: r) = bcond (Nat.beq i j && v.known && Nat.beq v.cells.length size) (consO (some v) (partsV size (i + 1) r)) none := (rfl)
@[go_sem] theorem bcond_consO (v : AV) (b : Bool) (x : Option (List AV)) : consO (some v) (bcond b x none) = bcond b (consO (some v) x) none := by cases b <;> rfl
end

/-! ### Arrays -/
section
variable {E : Env}
def arrP (b o sz : Nat) (x : Option Nat) : Option AV := match x with | some j => some (.ptr b (o + j * sz)) | none => none
@[go_sem] theorem arrP_some (b o sz j : Nat) : arrP b o sz (some j) = some (.ptr b (o + j * sz)) := (rfl)
theorem iadr_arr {t n e z : Nat} (h1 : (E.ty t).kd = .array n e) (h2 : (E.ty e).size = z) (b o : Nat) (i : AV) : iadrO E t (.ptr b o) i = arrP b o z (idxO i n) := by
  unfold iadrO
  rw [h1]
  simp only [h2]
  cases idxO i n <;> rfl
attribute [go_sem] List.length_replicate List.map_replicate
@[go_sem] theorem noOwn_rep (n : Nat) (x : PV) : noOwn (List.replicate n (AV.pv x)) = true := by induction n with | zero => rfl | succ n ih => exact ih
@[go_sem] theorem unders_rep (m n : Nat) (x : PV) : AV.unders m (List.replicate n (AV.pv x)) = true := by induction n with | zero => simp [AV.unders] | succ n ih => simp [List.replicate_succ, AV.unders, AV.under, ih]
theorem okTo_pv (x : PV) : ∀ (bases : List Nat) (b : Nat), okTo bases b (.pv x) = true
  | [], _ => rfl
  | B :: bases, b => by rw [okTo_cons, under_pv, okTo_pv x bases b]; simp
attribute [go_sem] okTo_pv
/-- A store over all cells. -/
theorem storeP_all {bases : List Nat} {t : Nat} {H : Hp} {b : Nat} {v : AV} {cs : List AV} (h : noOwn cs = true) (hl : cs.length = v.cells.length) :
    storeP E bases t H b 0 v (some (.cells cs)) = bcond ((E.ty t).ok && v.known && Nat.beq v.cells.length (E.ty t).size && okTo bases b v) (some (H.set b (.cells v.cells))) none := by
  rw [storeP_some (by simpa using h)]
  have e : Nat.ble (0 + v.cells.length) cs.length = true := by rw [hl]; simp
  rw [e]
  simp only [List.take_zero, List.nil_append, Bool.and_true, Nat.zero_add]
  rw [List.drop_eq_nil_of_le (by omega), List.append_nil]
attribute [go_sem high] storeP_all
end
attribute [go_sem] bool_eql bool_neq

/-! ### Regions whose order is open -/
@[go_sem] theorem oldOk_nil (n i : Nat) (ap : List Nat) (a : AV) : oldOk (some ⟨n, [], ap⟩) i a = true := (rfl)
@[go_sem] theorem freshOk_nil (n i : Nat) (ap : List Nat) (a : AV) : freshOk (some ⟨n, [], ap⟩) i a = true := (rfl)
def oldP (n0 : Nat) (ap : List Nat) (a : AV) : Bool := match a with | .ptr b _ => Nat.ble (b + 1) n0 && !ap.contains b | .rad _ => true | _ => false
def freshP (n0 : Nat) (ap : List Nat) (a : AV) : Bool := match a with | .ptr b _ => Nat.ble n0 b || ap.contains b | _ => false
@[go_sem] theorem oldOk_cons (n i x : Nat) (xs ap : List Nat) (a : AV) : oldOk (some ⟨n, x :: xs, ap⟩) i a = bcond (List.contains (x :: xs) i) (oldP n ap a) true := by
  unfold oldOk oldP bcond; rfl
@[go_sem] theorem freshOk_cons (n i x : Nat) (xs ap : List Nat) (a : AV) : freshOk (some ⟨n, x :: xs, ap⟩) i a = bcond (List.contains (x :: xs) i) (freshP n ap a) true := by
  unfold freshOk freshP bcond; rfl
@[go_sem] theorem oldP_ptr (n b o : Nat) (ap : List Nat) : oldP n ap (.ptr b o) = (Nat.ble (b + 1) n && !ap.contains b) := (rfl)
@[go_sem] theorem oldP_rad (n : Nat) (cs : List AV) (ap : List Nat) : oldP n ap (.rad cs) = true := (rfl)
@[go_sem] theorem freshP_ptr (n b o : Nat) (ap : List Nat) : freshP n ap (.ptr b o) = (Nat.ble n b || ap.contains b) := (rfl)
@[go_sem] theorem ptrs_nil (fr : Fr) : ptrs fr [] = [] := (rfl)
@[go_sem] theorem contains_nil' (i : Nat) : List.contains ([] : List Nat) i = false := (rfl)
@[go_sem] theorem contains_cons' (x i : Nat) (xs : List Nat) : List.contains (x :: xs) i = (Nat.beq i x || List.contains xs i) := by
  simp only [List.contains_cons]
  have : (i == x) = Nat.beq i x := by
    rw [Bool.eq_iff_iff, beq_iff_eq, Nat.beq_eq]
  rw [this]
@[go_sem] theorem nbeq_ss (m n : Nat) : Nat.beq (m + 1) (n + 1) = Nat.beq m n := (rfl)
@[go_sem] theorem nbeq_zs (n : Nat) : Nat.beq 0 (n + 1) = false := (rfl)

/-! ### Numbers that are written out -/
@[go_sem] theorem wl64 (n : Nat) (h : n ≤ 9223372036854775807) : IntKind.i64.wrap (no_index (@OfNat.ofNat Int n instOfNat)) = @OfNat.ofNat Int n instOfNat := by
  have e : (@OfNat.ofNat Int n instOfNat) = (n : Int) := (rfl)
  rw [e, i64_in _ (by omega)]
@[go_sem] theorem wn64 (n : Nat) (h : n ≤ 9223372036854775807) : IntKind.i64.wrap (-(@OfNat.ofNat Int n instOfNat)) = -(@OfNat.ofNat Int n instOfNat) := by
  have e : (@OfNat.ofNat Int n instOfNat) = (n : Int) := (rfl)
  rw [e, i64_in _ (by omega)]
@[go_sem] theorem wl8 (n : Nat) (h : n ≤ 255) : IntKind.u8.wrap (no_index (@OfNat.ofNat Int n instOfNat)) = @OfNat.ofNat Int n instOfNat := by
  have e : (@OfNat.ofNat Int n instOfNat) = (n : Int) := (rfl)
  rw [e, u8_in _ (by omega)]
@[go_sem] theorem wu64 (n : Nat) (h : n ≤ 18446744073709551615) : IntKind.u64.wrap (no_index (@OfNat.ofNat Int n instOfNat)) = @OfNat.ofNat Int n instOfNat := by
  have e : (@OfNat.ofNat Int n instOfNat) = (n : Int) := (rfl)
  rw [e, IntKind.wrap_u64]; omega
@[go_sem] theorem castN (n : Nat) : (@Nat.cast Int instNatCastInt (no_index (OfNat.ofNat n))) = @OfNat.ofNat Int n instOfNat := (rfl)
theorem cv_int {E : Env} {s t : Nat} {k k' : IntKind} (h : (E.ty s).ok = true) (h' : (E.ty t).kd = .int k) (H : Hp) (n : Int) : cvO E s t H (.pv (.int k' n)) = some (.pv (.int k (k.wrap n))) := by
  unfold cvO convO; rw [h', h]; rfl
theorem cv_rune {E : Env} {s t : Nat} {k' : IntKind} (h : (E.ty s).ok = true) (h' : (E.ty t).kd = .str) (H : Hp) (n : Int) : cvO E s t H (.pv (.int k' n)) = some (.pv (.str (Utf8.encode n).data.toList)) := by
  unfold cvO convO; rw [h', h]; rfl
theorem enc_last (r : Int) (h : 128 ≤ r) (hv : Utf8.valid r = true) : (∃ b0 b1 : UInt8, (Utf8.encode r).data.toList = [b0, b1] ∧ 128 ≤ b1) ∨ (∃ b0 b1 b2 : UInt8, (Utf8.encode r).data.toList = [b0, b1, b2]) ∨ (∃ b0 b1 b2 b3 : UInt8, (Utf8.encode r).data.toList = [b0, b1, b2, b3]) := by
  unfold Utf8.encode
  simp only [hv, if_true]
  split
  · exfalso; omega
  split
  · left
    refine ⟨_, _, rfl, ?_⟩
    rw [UInt8.le_iff_toNat_le, UInt8.toNat_ofNat']
    have : r.toNat % 64 < 64 := Nat.mod_lt _ (by omega)
    show 128 ≤ _
    omega
  split
  · right; left; exact ⟨_, _, _, rfl⟩
  · right; right; exact ⟨_, _, _, _, rfl⟩

/-- The place of a byte. -/
def findB (s : List UInt8) (b : Int) : Int := match s.findIdx? (· == UInt8.ofNat b.toNat) with | some i => (i : Int) | none => -1
theorem callO_ext0 {E : Env} {c : Oracle} {bases : List Nat} {f g : Nat} {s : List UInt8} {b : Int} {H : Hp} (h : E.ext g = some 0) : callO E c bases f g [.pv (.str s), .pv (.int .u8 b)] H = some (.pv (.int .i64 (findB s b)), H) := by
  unfold callO; rw [h]; rfl

/-! ### Bytes and parts of texts -/
section
variable {E : Env}
def byteO (x : Option UInt8) : Option AV := match x with | some b => some (.pv (.int .u8 b.toNat)) | none => none
@[go_sem] theorem byteO_some (b : UInt8) : byteO (some b) = some (.pv (.int .u8 b.toNat)) := (rfl)
def idxS (s : List UInt8) (i : Int) : Option AV := bcond (decide (0 ≤ i) && decide (i < (s.length : Int))) (byteO s[i.toNat]?) none
theorem idxS_eq (s : List UInt8) (i : Int) : idxS s i = bcond (decide (0 ≤ i) && decide (i < (s.length : Int))) (byteO s[i.toNat]?) none := (rfl)
attribute [go_sem low] idxS_eq
@[go_sem] theorem idxS_nat (s : List UInt8) (i : Nat) (h : i < s.length) : idxS s (i : Int) = some (.pv (.int .u8 (s[i]).toNat)) := by
  unfold idxS
  have e : (decide ((0 : Int) ≤ (i : Int)) && decide ((i : Int) < (s.length : Int))) = true := by simp; omega
  rw [e, bcond_true]
  simp [h, byteO]
theorem index_str {t : Nat} (h : (E.ty t).kd = .str) (s : List UInt8) (k : IntKind) (i : Int) : indexO E t (.pv (.str s)) (.pv (.int k i)) = idxS s i := by
  unfold indexO idxS
  rw [h]
  simp only [idxO]
  by_cases hc : 0 ≤ i ∧ i < (s.length : Int)
  · have e : (decide ((0 : Int) ≤ i) && decide (i < (s.length : Int))) = true := by simp; omega
    rw [if_pos hc, e, bcond_true, Option.bind_some]
    cases s[i.toNat]? <;> rfl
  · have e : (decide ((0 : Int) ≤ i) && decide (i < (s.length : Int))) = false := by
      cases hx : (decide ((0 : Int) ≤ i) && decide (i < (s.length : Int))) with
      | false => rfl
      | true => simp only [Bool.and_eq_true, decide_eq_true_eq] at hx; exact absurd hx hc
    rw [if_neg hc, e, bcond_false]; rfl
def slS (s : List UInt8) (lo hi : Int) : Option AV := bcond (decide (0 ≤ lo) && decide (lo ≤ hi) && decide (hi ≤ (s.length : Int))) (some (.pv (.str ((s.drop lo.toNat).take (hi.toNat - lo.toNat))))) none
theorem slS_eq (s : List UInt8) (lo hi : Int) : slS s lo hi = bcond (decide (0 ≤ lo) && decide (lo ≤ hi) && decide (hi ≤ (s.length : Int))) (some (.pv (.str ((s.drop lo.toNat).take (hi.toNat - lo.toNat))))) none := (rfl)
attribute [go_sem low] slS_eq
@[go_sem] theorem slS_from (s : List UInt8) (p : Nat) (h : p ≤ s.length) : slS s (p : Int) (s.length : Int) = some (.pv (.str (s.drop p))) := by
  unfold slS
  have e : (decide ((0 : Int) ≤ (p : Int)) && decide ((p : Int) ≤ (s.length : Int)) && decide ((s.length : Int) ≤ (s.length : Int))) = true := by simp; omega
  rw [e, bcond_true]
  have e2 : (s.drop p).take (s.length - p) = s.drop p := by rw [List.take_of_length_le (by simp)]
  simp [e2]
@[go_sem] theorem slS_to (s : List UInt8) (p : Nat) (h : p ≤ s.length) : slS s 0 (p : Int) = some (.pv (.str (s.take p))) := by
  unfold slS
  have e : (decide ((0 : Int) ≤ (0 : Int)) && decide ((0 : Int) ≤ (p : Int)) && decide ((p : Int) ≤ (s.length : Int))) = true := by simp; omega
  rw [e, bcond_true]
  simp
theorem slice_str {t : Nat} (h : (E.ty t).kd = .str) (s : List UInt8) (k : IntKind) (lo hi : Int) (hl : 0 ≤ lo ∧ lo ≤ hi ∧ hi ≤ (s.length : Int)) :
    sliceO E t (.pv (.str s)) (some (.pv (.int k lo))) (some (.pv (.int k hi))) none = slS s lo hi := by
  obtain ⟨h1, h2, h3⟩ := hl
  obtain ⟨p, rfl⟩ : ∃ p : Nat, lo = p := ⟨lo.toNat, by omega⟩
  obtain ⟨r, rfl⟩ : ∃ r : Nat, hi = r := ⟨hi.toNat, by omega⟩
  rw [slice_ft h s k k p r (by omega) (by omega)]
  unfold slS
  have e : (decide ((0 : Int) ≤ (p : Int)) && decide ((p : Int) ≤ (r : Int)) && decide ((r : Int) ≤ (s.length : Int))) = true := by simp; omega
  rw [e, bcond_true]; rfl
end
@[go_sem] theorem findB_nil (b : Int) : findB [] b = -1 := (rfl)
theorem nextC_step {R : Type} (m : Nat) (body : List AV → Hp → (Ex → List AV → St → Option R) → Option R) (k : Ex → St → Option R) (vs : List AV) (H : Hp) : nextC (m + 1) body k vs H = body vs H (againC m body k) := by
  unfold nextC; exact loopN_step m body vs H k

/-! ### New variables of regions whose order is open -/
def newsP (b : Bool) (n : Nat) : Nat := bcond b (n + 1) n
@[go_sem] theorem newsP_t (n : Nat) : newsP true n = n + 1 := (rfl)
@[go_sem] theorem newsP_f (n : Nat) : newsP false n = n := (rfl)
@[go_sem ↓] theorem newsOf_nil : newsOf [] = 0 := (rfl)
@[go_sem ↓] theorem newsOf_cons (dst : Option Nat) (op : Op) (ty : Nat) (pos : String) (af : Array Edge) (g : Option (Nat × Bool)) (os : List Oper) : newsOf (⟨dst, op, ty, pos, af, g⟩ :: os) = newsP (isNew op) (newsOf os) := by
  unfold newsOf newsP bcond
  simp only [List.countP_cons]
  cases isNew op <;> simp
@[go_sem ↓] theorem newsOf_ac (o : Oper) (a b : List Oper) : newsOf (List.append (o :: a) b) = newsOf (o :: List.append a b) := (rfl)
@[go_sem ↓] theorem newsOf_an (b : List Oper) : newsOf (List.append [] b) = newsOf b := (rfl)
@[go_sem ↓] theorem newsOf_aa (a b e : List Oper) : newsOf (List.append (List.append a b) e) = newsOf (List.append a (List.append b e)) := by
  rw [show List.append (List.append a b) e = List.append a (List.append b e) from List.append_assoc a b e]
@[go_sem ↓] theorem isNew_alloc (t : Nat) : isNew (.alloc t) = true := (rfl)
@[go_sem ↓] theorem isNew_box (t : Nat) (x : Operand) : isNew (.box t x) = true := (rfl)
@[go_sem ↓] theorem isNew_move (x : Operand) : isNew (.move x) = false := (rfl)
@[go_sem ↓] theorem isNew_assign (x : Operand) : isNew (.assign x) = false := (rfl)
@[go_sem ↓] theorem isNew_pick (x y z : Operand) : isNew (.pick x y z) = false := (rfl)
@[go_sem ↓] theorem isNew_build (t : Nat) (ps : Array (Nat × Operand)) : isNew (.build t ps) = false := (rfl)
@[go_sem ↓] theorem isNew_buildSlice (t n : Nat) (ps : Array (Nat × Operand)) : isNew (.buildSlice t n ps) = false := (rfl)
@[go_sem ↓] theorem isNew_insert (t : Nat) (x y z : Operand) : isNew (.insert t x y z) = false := (rfl)
@[go_sem ↓] theorem isNew_load (t : Nat) (x : Operand) : isNew (.load t x) = false := (rfl)
@[go_sem ↓] theorem isNew_store (t : Nat) (x y : Operand) : isNew (.store t x y) = false := (rfl)
@[go_sem ↓] theorem isNew_nilCheck (x : Operand) : isNew (.nilCheck x) = false := (rfl)
@[go_sem ↓] theorem isNew_binOp (o : BinOp) (t : Nat) (x y : Operand) (u : Nat) : isNew (.binOp o t x y u) = false := (rfl)
@[go_sem ↓] theorem isNew_unOp (o : UnOp) (t : Nat) (x : Operand) : isNew (.unOp o t x) = false := (rfl)
@[go_sem ↓] theorem isNew_convert (s t : Nat) (x : Operand) : isNew (.convert s t x) = false := (rfl)
@[go_sem ↓] theorem isNew_makeInterface (t : Nat) (x : Operand) : isNew (.makeInterface t x) = false := (rfl)
@[go_sem ↓] theorem isNew_makeFunc (g : Fn) (x y : Array Operand) : isNew (.makeFunc g x y) = false := (rfl)
@[go_sem ↓] theorem isNew_makeMap (t : Nat) (x : Option Operand) : isNew (.makeMap t x) = false := (rfl)
@[go_sem ↓] theorem isNew_makeSlice (t : Nat) (x y : Operand) : isNew (.makeSlice t x y) = false := (rfl)
@[go_sem ↓] theorem isNew_slice (t : Nat) (x : Operand) (l h m : Option Operand) : isNew (.slice t x l h m) = false := (rfl)
@[go_sem ↓] theorem isNew_fieldAddr (t : Nat) (x : Operand) (i : Nat) : isNew (.fieldAddr t x i) = false := (rfl)
@[go_sem ↓] theorem isNew_field (t : Nat) (x : Operand) (i : Nat) : isNew (.field t x i) = false := (rfl)
@[go_sem ↓] theorem isNew_indexAddr (t : Nat) (x y : Operand) : isNew (.indexAddr t x y) = false := (rfl)
@[go_sem ↓] theorem isNew_index (t : Nat) (x y : Operand) : isNew (.index t x y) = false := (rfl)
@[go_sem ↓] theorem isNew_lookup (t : Nat) (x y : Operand) (b : Bool) : isNew (.lookup t x y b) = false := (rfl)
@[go_sem ↓] theorem isNew_mapUpdate (t : Nat) (x y z : Operand) : isNew (.mapUpdate t x y z) = false := (rfl)
@[go_sem ↓] theorem isNew_range (t : Nat) (x : Operand) : isNew (.range t x) = false := (rfl)
@[go_sem ↓] theorem isNew_next (x : Operand) (b : Bool) : isNew (.next x b) = false := (rfl)
@[go_sem ↓] theorem isNew_typeAssert (x : Operand) (t u : Nat) (b : Bool) : isNew (.typeAssert x t u b) = false := (rfl)
@[go_sem ↓] theorem isNew_extract (x : Operand) (i : Nat) : isNew (.extract x i) = false := (rfl)
@[go_sem ↓] theorem isNew_call (k : Call) : isNew (.call k) = false := (rfl)
@[go_sem] theorem repl_one {α : Type} (x : α) : List.replicate 1 x = [x] := (rfl)
@[go_sem] theorem repl_2 {α : Type} (x : α) : List.replicate 2 x = [x, x] := (rfl)
@[go_sem] theorem repl_3 {α : Type} (x : α) : List.replicate 3 x = [x, x, x] := (rfl)
@[go_sem] theorem repl_4 {α : Type} (x : α) : List.replicate 4 x = [x, x, x, x] := (rfl)
@[go_sem] theorem repl_5 {α : Type} (x : α) : List.replicate 5 x = [x, x, x, x, x] := (rfl)
@[go_sem] theorem repl_6 {α : Type} (x : α) : List.replicate 6 x = [x, x, x, x, x, x] := (rfl)
def newP (k : Nat) (cs : List AV) (H : Hp) (x : Option Blk) : Option (AV × Hp) := match x with | some .dead => some (.ptr k 0, H.set k (.cells cs)) | _ => none
@[go_sem] theorem newP_dead (k : Nat) (cs : List AV) (H : Hp) : newP k cs H (some .dead) = some (.ptr k 0, H.set k (.cells cs)) := (rfl)
@[go_sem] theorem newD_some (n rank : Nat) (fl ap : List Nat) (cs : List AV) (H : Hp) : newD (some ⟨n, fl, ap⟩) rank [] cs H = newP (n + rank) cs H H[n + rank]? := by
  unfold newD newP
  simp only
  cases H[n + rank]? with
  | none => rfl
  | some k => cases k <;> rfl

section
variable {E : Env}
theorem sl_lh {t : Nat} (h : (E.ty t).kd = .str) (s : List UInt8) (k k' : IntKind) (lo hi : Int) : sliceO E t (.pv (.str s)) (some (.pv (.int k lo))) (some (.pv (.int k' hi))) none = slS s lo hi := by
  unfold sliceO slS
  rw [h]
  simp only [Option.isSome_none, Bool.false_eq_true, if_false, boundO, idxO]
  by_cases h1 : 0 ≤ hi ∧ hi < ((s.length + 1 : Nat) : Int)
  · rw [if_pos h1, Option.bind_some]
    by_cases h2 : 0 ≤ lo ∧ lo < ((hi.toNat + 1 : Nat) : Int)
    · rw [if_pos h2]
      have e : (decide ((0 : Int) ≤ lo) && decide (lo ≤ hi) && decide (hi ≤ (s.length : Int))) = true := by simp; omega
      rw [e]; rfl
    · rw [if_neg h2]
      have e : (decide ((0 : Int) ≤ lo) && decide (lo ≤ hi) && decide (hi ≤ (s.length : Int))) = false := by
        cases hx : (decide ((0 : Int) ≤ lo) && decide (lo ≤ hi) && decide (hi ≤ (s.length : Int))) with
        | false => rfl
        | true => simp only [Bool.and_eq_true, decide_eq_true_eq] at hx; exact absurd ⟨hx.1.1, by omega⟩ h2
      rw [e]; rfl
  · rw [if_neg h1]
    have e : (decide ((0 : Int) ≤ lo) && decide (lo ≤ hi) && decide (hi ≤ (s.length : Int))) = false := by
      cases hx : (decide ((0 : Int) ≤ lo) && decide (lo ≤ hi) && decide (hi ≤ (s.length : Int))) with
      | false => rfl
      | true => simp only [Bool.and_eq_true, decide_eq_true_eq] at hx; exact absurd ⟨by omega, by omega⟩ h1
    rw [e]; rfl
theorem sl_l {t : Nat} (h : (E.ty t).kd = .str) (s : List UInt8) (k : IntKind) (lo : Int) : sliceO E t (.pv (.str s)) (some (.pv (.int k lo))) none none = slS s lo (s.length : Int) := by
  rw [← sl_lh h s k k lo (s.length : Int)]
  unfold sliceO
  rw [h]
  simp only [Option.isSome_none, Bool.false_eq_true, if_false, boundO]
  rw [idxO_nat k (by omega)]
theorem sl_h {t : Nat} (h : (E.ty t).kd = .str) (s : List UInt8) (k : IntKind) (hi : Int) : sliceO E t (.pv (.str s)) none (some (.pv (.int k hi))) none = slS s 0 hi := by
  rw [← sl_lh h s k k 0 hi]
  unfold sliceO
  rw [h]
  simp only [Option.isSome_none, Bool.false_eq_true, if_false, boundO]
  cases idxO (AV.pv (PV.int k hi)) (s.length + 1) with
  | none => rfl
  | some r =>
    simp only [Option.bind_some]
    have := idxO_nat k (p := 0) (n := r + 1) (by omega)
    simp only [Int.ofNat_eq_natCast, Int.natCast_zero] at this
    rw [this]
end

attribute [go_sem] idxO_nat
attribute [go_sem] Nat.mul_one Nat.zero_add Nat.add_zero
@[go_sem] theorem nilc_ptr {E : Env} (b o : Nat) : nilcO E (.ptr b o) = some (.ptr b o) := (rfl)
@[go_sem] theorem nilc_rad {E : Env} (cs : List AV) : nilcO E (.rad cs) = some (.rad cs) := (rfl)
@[go_sem] theorem nilc_fn {E : Env} (g : Nat) (p r : List AV) : nilcO E (.fn g p r) = some (.fn g p r) := (rfl)
@[go_sem] theorem nilc_pfn {E : Env} (g : Nat) : nilcO E (.pv (.fn g)) = some (.pv (.fn g)) := (rfl)
attribute [go_sem] List.take_length

/-! ### Slices that are made -/
section
variable {E : Env}
theorem mk_sl {t e z : Nat} (h1 : (E.ty t).kd = .slice e) (h2 : (E.ty e).size = 1) (h3 : (E.ty e).bytes = z) (h4 : (E.ty e).agg = false) {x : PV} (h5 : (E.ty e).zero = [x]) (H : Hp) (k k' : IntKind) (l c : Int) (hl : 0 ≤ l) (hc : l ≤ c) (hr : room c.toNat z = true) (hb : c < 9223372036854775808) :
    makeSlO E t H (.pv (.int k l)) (.pv (.int k' c)) = some (.msl H.length 0 l.toNat c.toNat 1 false, H ++ [.cells (List.replicate c.toNat (.pv x))]) := by
  unfold makeSlO
  rw [h1]
  simp only [h2, h3, h4, h5]
  rw [if_pos ⟨hl, hc, hr, hb, rfl⟩]
  have : (List.replicate c.toNat (List.map AV.pv [x])).flatten = List.replicate c.toNat (AV.pv x) := by
    induction c.toNat with
    | zero => rfl
    | succ n ih => simp only [List.replicate_succ, List.flatten_cons, ih]; rfl
  rw [this]
theorem im_sl {t e : Nat} (h1 : (E.ty t).kd = .slice e) (h2 : (E.ty e).size = 1) (b off len cap : Nat) (ag : Bool) (k : IntKind) (i : Nat) (h : i < len) : iadrO E t (.msl b off len cap 1 ag) (.pv (.int k (i : Int))) = some (.ptr b (off + i)) := by
  unfold iadrO
  rw [h1]
  simp only [h2, beq_self_eq_true, if_true]
  rw [idxO_nat k h]
  simp
theorem cvb_msl {s t : Nat} {e : Nat} (h0 : (E.ty s).ok = true) (h1 : (E.ty s).kd = .slice e) (h2 : (E.ty e).kd = .int .u8) (h3 : (E.ty t).kd = .str) (H : Hp) (b : Nat) (n : Nat) (ag : Bool) {cs : List AV} {bs : List UInt8} (hb : H[b]? = some (.cells cs)) (hc : cs = bs.map fun x => .pv (.int .u8 x.toNat)) (hl : bs.length = n) :
    cvO E s t H (.msl b 0 n n 1 ag) = some (.pv (.str bs)) := by
  have hp : ∀ l : List UInt8, allPV (l.map fun x => AV.pv (.int .u8 x.toNat)) = some (l.map fun x => PV.int .u8 x.toNat) := by
    intro l; induction l with
    | nil => rfl
    | cons x xs ih => simp only [List.map_cons, allPV, toPV, ih]
  have hq : ∀ l : List UInt8, asBytes (l.map fun x => PV.int .u8 x.toNat) = some l := by
    intro l; induction l with
    | nil => rfl
    | cons x xs ih => simp only [List.map_cons, asBytes, asByte, ih]; simp
  unfold cvO convO
  rw [h3, h0, h1]
  simp only [if_true, isU8, h2]
  unfold bytesO
  simp only [hb, hc]
  subst hl
  simp only [Nat.zero_add, List.length_map, Nat.le_refl, if_true, List.drop_zero]
  rw [List.take_of_length_le (by simp), hp]
  simp only [Option.bind_some, hq, Option.map_some]
end
@[go_sem] theorem bin_shr (ti : TI) (k k' : IntKind) (a b : Int) (h : 0 ≤ b) : binO ti .shr (.pv (.int k a)) (.pv (.int k' b)) = some (.pv (.int k (a.fdiv (2 ^ (min b.toNat k.bits))))) := by
  simp [binO, isShift, shiftO, Int.not_lt.2 h]
@[go_sem] theorem bin_shl (ti : TI) (k k' : IntKind) (a b : Int) (h : 0 ≤ b) : binO ti .shl (.pv (.int k a)) (.pv (.int k' b)) = some (.pv (.int k (k.wrap (a * 2 ^ (min b.toNat k.bits))))) := by
  simp [binO, isShift, shiftO, Int.not_lt.2 h]
@[go_sem] theorem min_one (k : IntKind) (a b : Int) : minmaxsO (fun a b => decide (a < b)) (.pv (.int k a)) [.pv (.int k b)] = some (.pv (.int k (if b < a then b else a))) := by
  simp [minmaxsO, minmaxO]

@[go_sem] theorem mintP_msl (b o l c' z : Nat) (ag : Bool) (vs : List AV) (H : Hp) : mintP (.msl b o l c' z ag :: vs) H = mintQ (.msl b o l c' z ag) (mintP vs H) := (rfl)
attribute [go_sem] Int.toNat_natCast
@[go_sem] theorem bits_u64 : IntKind.u64.bits = 64 := (rfl)
@[go_sem] theorem bits_u32 : IntKind.u32.bits = 32 := (rfl)
@[go_sem] theorem bits_u8 : IntKind.u8.bits = 8 := (rfl)
@[go_sem] theorem bits_i64 : IntKind.i64.bits = 64 := (rfl)

/-! ### Appending -/
section
variable {E : Env}
def appT (b g z : Nat) (es ys : List PV) (H : Hp) (x : Option Blk) : Option (AV × Hp) := match x with
  | some (.tok g') => bcond (Nat.beq g g') (some (.own b (g + 1) z (es ++ ys), H.set b (.tok (g + 1)))) none
  | _ => none
def appH (z y : Nat) (H : Hp) (ys : List PV) (s : AV) : Option (AV × Hp) := match s with
  | .ful sz es => bcond ((Nat.beq sz z || es.isEmpty) && room (es.length + ys.length) y) (some (.own H.length 0 z (es ++ ys), H ++ [.tok 0])) none
  | .own b g sz es => bcond ((Nat.beq sz z || (es.isEmpty && Nat.beq sz 0)) && room (es.length + ys.length) y) (appT b g z es ys H H[b]?) none
  | _ => none
def appG (z y : Nat) (H : Hp) (s : AV) (x : Option (Nat × List PV)) : Option (AV × Hp) := match x with
  | some p => bcond (Nat.beq p.1 z || p.2.isEmpty) (appH z y H p.2 s) none
  | none => none
theorem beq_nbeq (m n : Nat) : (m == n) = Nat.beq m n := by rw [Bool.eq_iff_iff, beq_iff_eq, Nat.beq_eq]
theorem appO_G {t t2 e z y : Nat} (h1 : (E.ty t).kd = .slice e) (h2 : isSeq (E.ty t2).kd = true) (h3 : (E.ty e).zero.length = z) (h4 : (E.ty e).size = z) (h5 : (E.ty e).bytes = y) (hz : 1 ≤ z) (hy : 1 ≤ y) (H : Hp) (s x : AV) :
    appO E t t2 H s x = appG z y H s (elemsOf x) := by
  unfold appO
  rw [h1]
  simp only [h2, h3, h4, h5, Nat.ble_eq_true_of_le hz, Nat.ble_eq_true_of_le hy, nbeq_self, Bool.and_self, if_true]
  unfold appG
  cases elemsOf x with
  | none => rfl
  | some p =>
    obtain ⟨zy, ys⟩ := p
    simp only [beq_nbeq]
    cases hc : (Nat.beq zy z || ys.isEmpty) with
    | false => rfl
    | true =>
      simp only [if_true, bcond_true]
      cases s <;> try rfl
      · rename_i sz es
        simp only [appH]
        cases (Nat.beq sz z || es.isEmpty) && room (es.length + ys.length) y <;> rfl
      · rename_i b g sz es
        simp only [appH]
        cases (Nat.beq sz z || (es.isEmpty && Nat.beq sz 0)) && room (es.length + ys.length) y with
        | false => rfl
        | true =>
          simp only [if_true, bcond_true]
          generalize H[b]? = w
          unfold appT
          cases w with
          | none => rfl
          | some k =>
            cases k <;> try rfl
            simp only
            rename_i g'
            cases Nat.beq g g' <;> rfl
@[go_sem] theorem appG_some (z y : Nat) (H : Hp) (s : AV) (zy : Nat) (ys : List PV) : appG z y H s (some (zy, ys)) = bcond (Nat.beq zy z || ys.isEmpty) (appH z y H ys s) none := (rfl)
@[go_sem] theorem appH_ful (z y : Nat) (H : Hp) (ys : List PV) (sz : Nat) (es : List PV) : appH z y H ys (.ful sz es) = bcond ((Nat.beq sz z || es.isEmpty) && room (es.length + ys.length) y) (some (.own H.length 0 z (es ++ ys), H ++ [.tok 0])) none := (rfl)
@[go_sem] theorem appH_own (z y : Nat) (H : Hp) (ys : List PV) (b g sz : Nat) (es : List PV) : appH z y H ys (.own b g sz es) = bcond ((Nat.beq sz z || (es.isEmpty && Nat.beq sz 0)) && room (es.length + ys.length) y) (appT b g z es ys H H[b]?) none := (rfl)
@[go_sem] theorem appT_tok (b g z : Nat) (es ys : List PV) (H : Hp) (g' : Nat) : appT b g z es ys H (some (.tok g')) = bcond (Nat.beq g g') (some (.own b (g + 1) z (es ++ ys), H.set b (.tok (g + 1)))) none := (rfl)
@[go_sem] theorem elemsOf_lst (z : Nat) (es : List PV) : elemsOf (.pv (.lst z es)) = some (z, es) := (rfl)
@[go_sem] theorem elemsOf_ful (z : Nat) (es : List PV) : elemsOf (.ful z es) = some (z, es) := (rfl)
@[go_sem] theorem elemsOf_own (b g z : Nat) (es : List PV) : elemsOf (.own b g z es) = some (z, es) := (rfl)
@[go_sem] theorem elemsOf_str (s : List UInt8) : elemsOf (.pv (.str s)) = some (1, s.map encB) := (rfl)
theorem room_le {n y : Nat} (h : n * y ≤ 140737488355328) : room n y = true := by unfold room; exact Nat.ble_eq_true_of_le h
end

/-! ### Bytes of slices as texts -/
def strB (x : Option (List UInt8)) : Option AV := match x with | some s => some (.pv (.str s)) | none => none
@[go_sem] theorem strB_some (s : List UInt8) : strB (some s) = some (.pv (.str s)) := (rfl)
theorem cvb_own {E : Env} {s t e : Nat} (h0 : (E.ty s).ok = true) (h1 : (E.ty s).kd = .slice e) (h2 : (E.ty e).kd = .int .u8) (h3 : (E.ty t).kd = .str) (H : Hp) (b g z : Nat) (es : List PV) : cvO E s t H (.own b g z es) = strB (asBytes es) := by
  unfold cvO convO
  rw [h3, h0, h1]
  simp only [if_true, isU8, h2, bytesO, toPV]
  cases asBytes es <;> rfl
@[go_sem] theorem asBytes_map (l : List Int) : asBytes (l.map (PV.int .u8)) = some (l.map fun n => UInt8.ofNat n.toNat) := by
  induction l with
  | nil => rfl
  | cons x xs ih => simp only [List.map_cons, asBytes, asByte, ih]
theorem map_snoc (l : List Int) (n : Int) : l.map (PV.int .u8) ++ [.int .u8 n] = (l ++ [n]).map (PV.int .u8) := by simp
attribute [go_sem] map_snoc bin_rem bin_quo

/-! ### Elements of slices that are no pure data -/
def radO (x : Option AV) : Option AV := match x with | some v => some (.rad v.cells) | none => none
@[go_sem] theorem radO_some (v : AV) : radO (some v) = some (.rad v.cells) := (rfl)
def idxL (es : List AV) (i : Int) : Option AV := bcond (decide (0 ≤ i) && decide (i < (es.length : Int))) (radO es[i.toNat]?) none
@[go_sem] theorem idxL_eq (es : List AV) (i : Int) : idxL es i = bcond (decide (0 ≤ i) && decide (i < (es.length : Int))) (radO es[i.toNat]?) none := (rfl)
theorem iadr_L {E : Env} {t e z : Nat} (h1 : (E.ty t).kd = .slice e) (h2 : (E.ty e).size = z) (es : List AV) (k : IntKind) (i : Int) : iadrO E t (.lst z es) (.pv (.int k i)) = idxL es i := by
  unfold iadrO idxL
  rw [h1]
  simp only [h2, beq_self_eq_true, if_true, idxO]
  by_cases hc : 0 ≤ i ∧ i < (es.length : Int)
  · have e : (decide ((0 : Int) ≤ i) && decide (i < (es.length : Int))) = true := by simp; omega
    rw [if_pos hc, e, bcond_true, Option.bind_some]
    cases es[i.toNat]? <;> rfl
  · have e : (decide ((0 : Int) ≤ i) && decide (i < (es.length : Int))) = false := by
      cases hx : (decide ((0 : Int) ≤ i) && decide (i < (es.length : Int))) with
      | false => rfl
      | true => simp only [Bool.and_eq_true, decide_eq_true_eq] at hx; exact absurd hx hc
    rw [if_neg hc, e, bcond_false]; rfl

@[go_sem] theorem toPV_agg (cs : List AV) : toPV (.agg cs) = none := (rfl)
@[go_sem] theorem toPV_rad (cs : List AV) : toPV (.rad cs) = none := (rfl)
@[go_sem] theorem toPV_Lst (z : Nat) (cs : List AV) : toPV (.lst z cs) = none := (rfl)
@[go_sem] theorem toPV_msl (b o l c' z : Nat) (ag : Bool) : toPV (.msl b o l c' z ag) = none := (rfl)
@[go_sem] theorem toPV_map (b : Nat) : toPV (.map b) = none := (rfl)
@[go_sem] theorem toPV_bot : toPV .bot = none := (rfl)

theorem partA_eq (n off : Nat) (cs : List AV) : partA n off cs = bcond (Nat.ble (off + n) cs.length) (some (mkAgg ((cs.drop off).take n))) none := (rfl)
attribute [go_sem low] partA_eq
end Go.Pu
