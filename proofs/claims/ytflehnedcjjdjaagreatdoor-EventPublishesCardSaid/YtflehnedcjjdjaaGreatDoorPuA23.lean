/-
  More rules: parts of data, maps, lengths, functions that are led to blocks, loops.
-/
import Derived.Test.YtflehnedcjjdjaaGreatDoorPuA22
set_option linter.unusedSimpArgs false
set_option linter.unusedVariables false
namespace Go.Pu

section
variable {R : Type} {E : Env} {c : Oracle} {lp : LoopO R} {q : R → R → Bool} {f d : Nat}

def partA (n off : Nat) (cs : List AV) : Option AV := bcond (Nat.ble (off + n) cs.length) (some (mkAgg ((cs.drop off).take n))) none
theorem partO_agg {t n : Nat} (h1 : (E.ty t).agg = true) (h2 : (E.ty t).size = n) (off : Nat) (cs : List AV) : partO E t off cs = partA n off cs := by
  unfold partO partA bcond
  rw [h1, h2, if_pos rfl]
  by_cases h : off + n ≤ cs.length
  · rw [if_pos h, Nat.ble_eq_true_of_le h]; rfl
  · rw [if_neg h, show Nat.ble (off + n) cs.length = false from by
      cases h3 : Nat.ble (off + n) cs.length
      · rfl
      · exact absurd (Nat.le_of_ble_eq_true h3) h]; rfl
theorem partO_scal {t : Nat} (h1 : (E.ty t).agg = false) (h2 : (E.ty t).size = 1) (off : Nat) (cs : List AV) : partO E t off cs = cs[off]? := by
  unfold partO
  rw [h1, h2]; rfl

attribute [go_sem] List.length_cons List.length_nil List.drop_succ_cons List.drop_zero List.take_succ_cons List.take_zero List.getElem?_cons_zero List.getElem?_cons_succ List.cons_append List.nil_append List.set_cons_zero List.set_cons_succ List.isEmpty_cons List.isEmpty_nil List.take_nil List.drop_nil List.replicate_zero
@[go_sem ↓] theorem allPV_nil' : allPV [] = some [] := (rfl)
@[go_sem ↓] theorem allPV_cons' (x : AV) (xs : List AV) : allPV (x :: xs) = consP (toPV x) (allPV xs) := by
  simp only [allPV, consP]
  cases toPV x <;> cases allPV xs <;> rfl
@[go_sem] theorem toPV_pv (x : PV) : toPV (.pv x) = some x := (rfl)
@[go_sem] theorem toPV_ful (sz : Nat) (es : List PV) : toPV (.ful sz es) = some (.lst sz es) := (rfl)
@[go_sem] theorem toPV_own (b g sz : Nat) (es : List PV) : toPV (.own b g sz es) = some (.lst sz es) := (rfl)
@[go_sem] theorem toPV_fn (g : Nat) (p r : List AV) : toPV (.fn g p r) = none := (rfl)
@[go_sem] theorem toPV_ptr (b o : Nat) : toPV (.ptr b o) = none := (rfl)
@[go_sem] theorem consP_none (x : Option (List PV)) : consP none x = none := by cases x <;> rfl
@[go_sem] theorem consP_none' (x : Option PV) : consP x none = none := by cases x <;> rfl
def aggOf (cs : List AV) (x : Option (List PV)) : AV := match x with | some ps => .pv (.agg ps) | none => .agg cs
@[go_sem ↓] theorem mkAgg_eq (cs : List AV) : mkAgg cs = aggOf cs (allPV cs) := by unfold mkAgg aggOf; cases allPV cs <;> rfl
@[go_sem] theorem aggOf_some (cs : List AV) (ps : List PV) : aggOf cs (some ps) = .pv (.agg ps) := (rfl)
@[go_sem] theorem aggOf_none (cs : List AV) : aggOf cs none = .agg cs := (rfl)
def tupOf (cs : List AV) (x : Option (List PV)) : AV := match x with | some ps => .pv (.tup ps) | none => .tup cs
@[go_sem ↓] theorem mkTup_eq (cs : List AV) : mkTup cs = tupOf cs (allPV cs) := by unfold mkTup tupOf; cases allPV cs <;> rfl
@[go_sem] theorem tupOf_some (cs : List AV) (ps : List PV) : tupOf cs (some ps) = .pv (.tup ps) := (rfl)
@[go_sem] theorem tupOf_none (cs : List AV) : tupOf cs none = .tup cs := (rfl)

/-! ### Fields, of a value that is written out -/
def fieldP (E : Env) (cs : List AV) (x : Option (Nat × Nat)) : Option AV := match x with | some p => partO E p.2 p.1 cs | none => none
@[go_sem] theorem fieldO_pv (t : Nat) (cs : List PV) (i : Nat) : fieldO E t (.pv (.agg cs)) i = fieldP E (cs.map .pv) (fieldOf E t i) := by
  unfold fieldO fieldP; cases fieldOf E t i <;> rfl
@[go_sem] theorem fieldO_agg (t : Nat) (cs : List AV) (i : Nat) : fieldO E t (.agg cs) i = fieldP E cs (fieldOf E t i) := by
  unfold fieldO fieldP; cases fieldOf E t i <;> rfl
@[go_sem] theorem fieldP_some (cs : List AV) (o t : Nat) : fieldP E cs (some (o, t)) = partO E t o cs := (rfl)
def fadrP (E : Env) (b o : Nat) (x : Option (Nat × Nat)) : Option AV := match x with | some p => bcond (Nat.beq (E.ty p.2).size 0) none (some (.ptr b (o + p.1))) | none => none
@[go_sem] theorem fadrO_ptr (t b o i : Nat) : fadrO E t (.ptr b o) i = fadrP E b o (fieldOf E t i) := by
  unfold fadrO fadrP bcond
  cases fieldOf E t i with
  | none => rfl
  | some p =>
    obtain ⟨x, y⟩ := p
    simp only
    by_cases h : (E.ty y).size = 0
    · rw [if_pos h, h]; rfl
    · rw [if_neg h]
      cases h3 : Nat.beq (E.ty y).size 0
      · rfl
      · exact absurd (Nat.eq_of_beq_eq_true h3) h
@[go_sem] theorem fadrP_some (b o x t : Nat) : fadrP E b o (some (x, t)) = bcond (Nat.beq (E.ty t).size 0) none (some (.ptr b (o + x))) := (rfl)
def fadrR (E : Env) (cs : List AV) (x : Option (Nat × Nat)) : Option AV := match x with | some p => bcond (Nat.beq (E.ty p.2).size 0) none (some (.rad (cs.drop p.1))) | none => none
@[go_sem] theorem fadrO_rad (t : Nat) (cs : List AV) (i : Nat) : fadrO E t (.rad cs) i = fadrR E cs (fieldOf E t i) := by
  unfold fadrO fadrR bcond
  cases fieldOf E t i with
  | none => rfl
  | some p =>
    obtain ⟨x, y⟩ := p
    simp only
    by_cases h : (E.ty y).size = 0
    · rw [if_pos h, h]; rfl
    · rw [if_neg h]
      cases h3 : Nat.beq (E.ty y).size 0
      · rfl
      · exact absurd (Nat.eq_of_beq_eq_true h3) h
@[go_sem] theorem fadrR_some (cs : List AV) (x t : Nat) : fadrR E cs (some (x, t)) = bcond (Nat.beq (E.ty t).size 0) none (some (.rad (cs.drop x))) := (rfl)
@[go_sem] theorem nbeq_self (n : Nat) : Nat.beq n n = true := by simp
@[go_sem] theorem nbeq_zero (n : Nat) : Nat.beq (n + 1) 0 = false := (rfl)

/-! ### Loads -/
def loadP (E : Env) (t o : Nat) (x : Option Blk) : Option AV := match x with | some (.cells cs) => partO E t o cs | _ => none
@[go_sem] theorem loadO_ptr (t : Nat) (H : Hp) (b o : Nat) : loadO E t H (.ptr b o) = loadP E t o H[b]? := by
  unfold loadO loadP; rfl
@[go_sem] theorem loadP_some (t o : Nat) (cs : List AV) : loadP E t o (some (.cells cs)) = partO E t o cs := (rfl)
@[go_sem] theorem loadO_rad (t : Nat) (H : Hp) (cs : List AV) : loadO E t H (.rad cs) = partO E t 0 cs := (rfl)

/-! ### New variables, stores -/
@[go_sem] theorem zeroC_nil (cs : List PV) : zeroC [] cs = cs.map .pv := by
  unfold zeroC
  simp only [List.contains_nil, Bool.false_eq_true, if_false]
  have : ∀ n, List.map (fun x : PV × Nat => AV.pv x.1) (cs.zipIdx n) = List.map AV.pv cs := by
    induction cs with
    | nil => intro n; rfl
    | cons x xs ih => intro n; simp only [List.zipIdx_cons, List.map_cons, ih]
  exact this 0
@[go_sem] theorem known_int (k : IntKind) (n : Int) : (AV.pv (.int k n)).known = true := (rfl)
@[go_sem] theorem known_bool (b : Bool) : (AV.pv (.bool b)).known = true := (rfl)
@[go_sem] theorem known_str (s : List UInt8) : (AV.pv (.str s)).known = true := (rfl)
@[go_sem] theorem known_lst (z : Nat) (es : List PV) : (AV.pv (.lst z es)).known = true := (rfl)
@[go_sem] theorem known_agg (es : List PV) : (AV.pv (.agg es)).known = true := (rfl)
@[go_sem] theorem known_nilp : (AV.pv .nilp).known = true := (rfl)
@[go_sem] theorem known_nili : (AV.pv .nili).known = true := (rfl)
@[go_sem] theorem known_nilf : (AV.pv .nilf).known = true := (rfl)
@[go_sem] theorem known_pfn (g : Nat) : (AV.pv (.fn g)).known = true := (rfl)
@[go_sem] theorem known_map (ks vs : List PV) : (AV.pv (.map ks vs)).known = true := (rfl)
@[go_sem] theorem known_iface (t : Nat) (v : PV) : (AV.pv (.iface t v)).known = true := (rfl)
@[go_sem] theorem known_ful (z : Nat) (es : List PV) : (AV.ful z es).known = true := (rfl)
@[go_sem] theorem known_own (b g z : Nat) (es : List PV) : (AV.own b g z es).known = true := (rfl)
@[go_sem] theorem known_ptr (b o : Nat) : (AV.ptr b o).known = true := (rfl)
@[go_sem] theorem known_rad (cs : List AV) : (AV.rad cs).known = true := (rfl)
@[go_sem] theorem known_aggA (cs : List AV) : (AV.agg cs).known = true := (rfl)
@[go_sem] theorem known_lstA (z : Nat) (cs : List AV) : (AV.lst z cs).known = true := (rfl)
@[go_sem] theorem known_fn (g : Nat) (p r : List AV) : (AV.fn g p r).known = true := (rfl)
@[go_sem] theorem known_msl (b o l c' z : Nat) (a : Bool) : (AV.msl b o l c' z a).known = true := (rfl)
@[go_sem] theorem cells_int (k : IntKind) (n : Int) : (AV.pv (.int k n)).cells = [.pv (.int k n)] := (rfl)
@[go_sem] theorem cells_bool (b : Bool) : (AV.pv (.bool b)).cells = [.pv (.bool b)] := (rfl)
@[go_sem] theorem cells_str (s : List UInt8) : (AV.pv (.str s)).cells = [.pv (.str s)] := (rfl)
@[go_sem] theorem cells_lst (z : Nat) (es : List PV) : (AV.pv (.lst z es)).cells = [.pv (.lst z es)] := (rfl)
@[go_sem] theorem cells_agg (es : List PV) : (AV.pv (.agg es)).cells = es.map .pv := (rfl)
@[go_sem] theorem cells_nilp : (AV.pv .nilp).cells = [.pv .nilp] := (rfl)
@[go_sem] theorem cells_nili : (AV.pv .nili).cells = [.pv .nili] := (rfl)
@[go_sem] theorem cells_nilf : (AV.pv .nilf).cells = [.pv .nilf] := (rfl)
@[go_sem] theorem cells_pfn (g : Nat) : (AV.pv (.fn g)).cells = [.pv (.fn g)] := (rfl)
@[go_sem] theorem cells_map (ks vs : List PV) : (AV.pv (.map ks vs)).cells = [.pv (.map ks vs)] := (rfl)
@[go_sem] theorem cells_iface (t : Nat) (v : PV) : (AV.pv (.iface t v)).cells = [.pv (.iface t v)] := (rfl)
@[go_sem] theorem cells_ful (z : Nat) (es : List PV) : (AV.ful z es).cells = [.ful z es] := (rfl)
@[go_sem] theorem cells_own (b g z : Nat) (es : List PV) : (AV.own b g z es).cells = [.own b g z es] := (rfl)
@[go_sem] theorem cells_ptr (b o : Nat) : (AV.ptr b o).cells = [.ptr b o] := (rfl)
@[go_sem] theorem cells_rad (cs : List AV) : (AV.rad cs).cells = [.rad cs] := (rfl)
@[go_sem] theorem cells_aggA (cs : List AV) : (AV.agg cs).cells = cs := (rfl)
@[go_sem] theorem cells_lstA (z : Nat) (cs : List AV) : (AV.lst z cs).cells = [.lst z cs] := (rfl)
@[go_sem] theorem cells_fn (g : Nat) (p r : List AV) : (AV.fn g p r).cells = [.fn g p r] := (rfl)
@[go_sem] theorem cells_msl (b o l c' z : Nat) (a : Bool) : (AV.msl b o l c' z a).cells = [.msl b o l c' z a] := (rfl)
@[go_sem] theorem pcells_agg (es : List PV) : (PV.agg es).cells = es := (rfl)
@[go_sem] theorem pcells_int (k : IntKind) (n : Int) : (PV.int k n).cells = [.int k n] := (rfl)
@[go_sem] theorem pcells_bool (b : Bool) : (PV.bool b).cells = [.bool b] := (rfl)
@[go_sem] theorem pcells_str (s : List UInt8) : (PV.str s).cells = [.str s] := (rfl)

def noOwn : List AV → Bool
  | [] => true
  | .own _ _ _ _ :: _ => false
  | _ :: xs => noOwn xs
@[go_sem] theorem noOwn_nil : noOwn [] = true := (rfl)
@[go_sem] theorem noOwn_pv (x : PV) (xs : List AV) : noOwn (.pv x :: xs) = noOwn xs := (rfl)
@[go_sem] theorem noOwn_ptr (b o : Nat) (xs : List AV) : noOwn (.ptr b o :: xs) = noOwn xs := (rfl)
@[go_sem] theorem noOwn_ful (z : Nat) (es : List PV) (xs : List AV) : noOwn (.ful z es :: xs) = noOwn xs := (rfl)
@[go_sem] theorem noOwn_fn (g : Nat) (p r : List AV) (xs : List AV) : noOwn (.fn g p r :: xs) = noOwn xs := (rfl)
@[go_sem] theorem noOwn_lst (z : Nat) (es : List AV) (xs : List AV) : noOwn (.lst z es :: xs) = noOwn xs := (rfl)
@[go_sem] theorem noOwn_rad (es : List AV) (xs : List AV) : noOwn (.rad es :: xs) = noOwn xs := (rfl)
@[go_sem] theorem noOwn_map (b : Nat) (xs : List AV) : noOwn (.map b :: xs) = noOwn xs := (rfl)
@[go_sem] theorem noOwn_msl (b o l c' z : Nat) (a : Bool) (xs : List AV) : noOwn (.msl b o l c' z a :: xs) = noOwn xs := (rfl)
@[go_sem] theorem noOwn_pvs (xs : List PV) : noOwn (xs.map AV.pv) = true := by induction xs with | nil => rfl | cons x xs ih => exact ih
theorem noOwn_drop : ∀ (n : Nat) (xs : List AV), noOwn xs = true → noOwn (xs.drop n) = true
  | 0, _, h => h
  | _ + 1, [], _ => rfl
  | n + 1, x :: xs, h => by
    have : noOwn xs = true := by cases x <;> first | exact h | cases h
    exact noOwn_drop n xs this
attribute [go_sem] noOwn_drop
/-- A store into cells of which none is to be appended to. -/
def storeP (E : Env) (bases : List Nat) (t : Nat) (H : Hp) (b o : Nat) (v : AV) (x : Option Blk) : Option Hp := match x with
  | some (.cells cs) => bcond ((E.ty t).ok && v.known && Nat.beq v.cells.length (E.ty t).size && Nat.ble (o + v.cells.length) cs.length && okTo bases b v) (some ((retok H (cs.drop o) v.cells).2.set b (.cells (cs.take o ++ (retok H (cs.drop o) v.cells).1 ++ cs.drop (o + v.cells.length))))) none
  | _ => none
@[go_sem] theorem storeO_ptr (bases : List Nat) (t : Nat) (H : Hp) (b o : Nat) (v : AV) : storeO E bases t H (.ptr b o) v = storeP E bases t H b o v H[b]? := by
  unfold storeO
  dsimp only
  generalize H[b]? = x
  unfold storeP
  cases x with
  | none => rfl
  | some k =>
    cases k <;> try rfl
    rename_i cs
    simp only [bcond]
    by_cases h : (E.ty t).ok = true ∧ v.known = true ∧ v.cells.length = (E.ty t).size ∧ o + v.cells.length ≤ cs.length ∧ okTo bases b v = true
    · rw [if_pos h]
      obtain ⟨h1, h2, h3, h4, h5⟩ := h
      rw [h1, h2, h5, h3, Nat.ble_eq_true_of_le (h3 ▸ h4), nbeq_self]
      rfl
    · rw [if_neg h]
      cases hb : ((E.ty t).ok && v.known && Nat.beq v.cells.length (E.ty t).size && Nat.ble (o + v.cells.length) cs.length && okTo bases b v) with
      | false => rfl
      | true =>
        simp only [Bool.and_eq_true] at hb
        exact absurd ⟨hb.1.1.1.1, hb.1.1.1.2, Nat.eq_of_beq_eq_true hb.1.1.2, Nat.le_of_ble_eq_true hb.1.2, hb.2⟩ h
theorem retok_no (H : Hp) : ∀ (olds vs : List AV), noOwn olds = true → retok H olds vs = (vs, H)
  | [], vs, _ => by cases vs <;> rfl
  | x :: olds, [], _ => by cases x <;> rfl
  | x :: olds, v :: vs, h => by
    have h' : noOwn olds = true := by cases x <;> first | exact h | cases h
    have ih := retok_no H olds vs h'
    cases x <;> first | cases h | (simp only [retok, ih])
theorem storeP_some {bases : List Nat} {t : Nat} {H : Hp} {b o : Nat} {v : AV} {cs : List AV} (h : noOwn (cs.drop o) = true) :
    storeP E bases t H b o v (some (.cells cs)) = bcond ((E.ty t).ok && v.known && Nat.beq v.cells.length (E.ty t).size && Nat.ble (o + v.cells.length) cs.length && okTo bases b v) (some (H.set b (.cells (cs.take o ++ v.cells ++ cs.drop (o + v.cells.length))))) none := by
  unfold storeP
  simp only [retok_no H _ _ h]
attribute [go_sem] storeP_some
@[go_sem] theorem okTo_nil (b : Nat) (v : AV) : okTo [] b v = true := (rfl)
@[go_sem] theorem okTo_cons (B : Nat) (bases : List Nat) (b : Nat) (v : AV) : okTo (B :: bases) b v = ((Nat.ble B b || v.under B) && okTo bases b v) := (rfl)
@[go_sem] theorem ble_zero (n : Nat) : Nat.ble 0 n = true := by simp
@[go_sem] theorem ble_self (n : Nat) : Nat.ble n n = true := by simp
@[go_sem] theorem ble_succ (m n : Nat) : Nat.ble (m + 1) (n + 1) = Nat.ble m n := (rfl)
@[go_sem] theorem retH_none (H : Hp) : retH H none = none := (rfl)
attribute [go_sem] List.append_nil

/-! ### Maps -/
@[go_sem] theorem bcond_obind {α β : Type} (b : Bool) (x y : Option α) (k : α → Option β) : obind (bcond b x y) k = bcond b (obind x k) (obind y k) := by cases b <;> rfl
@[go_sem] theorem bcond_retH (H : Hp) (b : Bool) (x y : Option AV) : retH H (bcond b x y) = bcond b (retH H x) (retH H y) := by cases b <;> rfl
def findM (x : Option (List PV × List AV)) (k : PV) : Option (Option AV) := match x with | some r => mapFind k r.1 r.2 | none => none
@[go_sem] theorem findM_some (ks : List PV) (vs : List AV) (k : PV) : findM (some (ks, vs)) k = mapFind k ks vs := (rfl)
def lookF (ok : Bool) (z : AV) (r : Option (Option AV)) : Option AV := match r with | some r => some (if ok then (match r with | some v => mkTup [v, .pv (.bool true)] | none => mkTup [z, .pv (.bool false)]) else (match r with | some v => v | none => z)) | none => none
@[go_sem] theorem lookF_bcond (ok : Bool) (z : AV) (b : Bool) (x y : Option (Option AV)) : lookF ok z (bcond b x y) = bcond b (lookF ok z x) (lookF ok z y) := by cases b <;> rfl
@[go_sem] theorem lookF_tt (z : AV) (v : PV) : lookF true z (some (some (.pv v))) = some (.pv (.tup [v, .bool true])) := (rfl)
@[go_sem] theorem lookF_tn (z : PV) : lookF true (.pv z) (some none) = some (.pv (.tup [z, .bool false])) := (rfl)
@[go_sem] theorem lookF_ft (z v : AV) : lookF false z (some (some v)) = some v := (rfl)
@[go_sem] theorem lookF_fn (z : AV) : lookF false z (some none) = some z := (rfl)
theorem lookO_of {t kt e : Nat} {k : PV} (h1 : (E.ty t).kd = .map kt e) (h2 : keyIs (E.ty kt).kd k = true) (h3 : Nat.beq (E.ty e).zero.length (E.ty e).size = true) (H : Hp) (m : AV) (ok : Bool) :
    lookO E t H m (.pv k) ok = lookF ok (zeroOf E e) (findM (mapAt H m) k) := by
  unfold lookO
  rw [h1]
  simp only [h2, h3, Bool.and_true, if_true]
  unfold findM
  cases mapAt H m with
  | none => rfl
  | some r =>
    simp only [Option.bind_some]
    cases mapFind k r.1 r.2 <;> rfl
@[go_sem] theorem mapAt_pv (H : Hp) (ks vs : List PV) : mapAt H (.pv (.map ks vs)) = some (ks, vs.map .pv) := (rfl)
@[go_sem] theorem mapAt_nil (H : Hp) : mapAt H (.pv .nilm) = some ([], []) := (rfl)
@[go_sem] theorem mapFind_nil {α : Type} (k : PV) : mapFind (α := α) k [] [] = some none := (rfl)
@[go_sem] theorem mapFind_int {α : Type} (k : IntKind) (a b : Int) (ks : List PV) (v : α) (vs : List α) : mapFind (.int k a) (.int k b :: ks) (v :: vs) = bcond (decide (a = b)) (some (some v)) (mapFind (.int k a) ks vs) := by
  simp only [mapFind, kindOfKey, pvEq, if_true]
  by_cases h : a = b
  · subst h; simp [bcond]
  · rw [show (a == b) = false by simpa using h]; simp [bcond, h]
@[go_sem] theorem mapFind_str {α : Type} (a b : List UInt8) (ks : List PV) (v : α) (vs : List α) : mapFind (.str a) (.str b :: ks) (v :: vs) = bcond (decide (a = b)) (some (some v)) (mapFind (.str a) ks vs) := by
  simp only [mapFind, kindOfKey, pvEq]
  by_cases h : a = b
  · subst h; simp [bcond]
  · rw [show (a == b) = false by simpa using h]; simp [bcond, h]

/-! ### Builtins -/
@[go_sem ↓] theorem callB_len (H : Hp) (t : Nat) (ts : List Nat) (x : AV) : callB E H .len (t :: ts) [x] = retH H (lenO (E.ty t).kd H x) := (rfl)
@[go_sem ↓] theorem callB_append (H : Hp) (t t2 : Nat) (s x : AV) : callB E H .append [t, t2] [s, x] = appO E t t2 H s x := (rfl)
@[go_sem ↓] theorem callB_min (H : Hp) (ts : List Nat) (x : AV) (xs : List AV) : callB E H .min ts (x :: xs) = retH H (minmaxsO (fun a b => decide (a < b)) x xs) := (rfl)
@[go_sem ↓] theorem callB_max (H : Hp) (ts : List Nat) (x : AV) (xs : List AV) : callB E H .max ts (x :: xs) = retH H (minmaxsO (fun a b => decide (a > b)) x xs) := (rfl)
@[go_sem] theorem len_str (H : Hp) (s : List UInt8) : lenO .str H (.pv (.str s)) = some (.pv (.int .i64 s.length)) := (rfl)
@[go_sem] theorem len_lst (H : Hp) (t sz : Nat) (es : List PV) : lenO (.slice t) H (.pv (.lst sz es)) = some (.pv (.int .i64 es.length)) := (rfl)
@[go_sem] theorem len_ful (H : Hp) (t sz : Nat) (es : List PV) : lenO (.slice t) H (.ful sz es) = some (.pv (.int .i64 es.length)) := (rfl)
@[go_sem] theorem len_own (H : Hp) (t b g sz : Nat) (es : List PV) : lenO (.slice t) H (.own b g sz es) = some (.pv (.int .i64 es.length)) := (rfl)
@[go_sem] theorem len_Lst (H : Hp) (t sz : Nat) (es : List AV) : lenO (.slice t) H (.lst sz es) = some (.pv (.int .i64 es.length)) := (rfl)
@[go_sem] theorem len_msl (H : Hp) (t b o l c' z : Nat) (a : Bool) : lenO (.slice t) H (.msl b o l c' z a) = some (.pv (.int .i64 l)) := (rfl)
attribute [go_sem] List.length_map List.length_append

/-! ### Elements -/
/-- An element of a slice, by its place. -/
theorem iadr_lst {t e z : Nat} (h1 : (E.ty t).kd = .slice e) (h2 : (E.ty e).size = z) (es : List PV) (k : IntKind) (i : Int) {x : PV} (h3 : 0 ≤ i ∧ i < es.length) (h4 : es[i.toNat]? = some x) :
    iadrO E t (.pv (.lst z es)) (.pv (.int k i)) = some (.rad (x.cells.map .pv)) := by
  unfold iadrO
  rw [h1]
  simp only [elemO, h2, beq_self_eq_true, if_true, idxO, h3, and_self, Option.bind_some, h4, Option.map_some]
theorem iadr_own {t e z : Nat} (h1 : (E.ty t).kd = .slice e) (h2 : (E.ty e).size = z) (b g : Nat) (es : List PV) (k : IntKind) (i : Int) {x : PV} (h3 : 0 ≤ i ∧ i < es.length) (h4 : es[i.toNat]? = some x) :
    iadrO E t (.own b g z es) (.pv (.int k i)) = some (.rad (x.cells.map .pv)) := by
  unfold iadrO
  rw [h1]
  simp only [elemO, h2, beq_self_eq_true, if_true, idxO, h3, and_self, Option.bind_some, h4, Option.map_some]
theorem iadr_ful {t e z : Nat} (h1 : (E.ty t).kd = .slice e) (h2 : (E.ty e).size = z) (es : List PV) (k : IntKind) (i : Int) {x : PV} (h3 : 0 ≤ i ∧ i < es.length) (h4 : es[i.toNat]? = some x) :
    iadrO E t (.ful z es) (.pv (.int k i)) = some (.rad (x.cells.map .pv)) := by
  unfold iadrO
  rw [h1]
  simp only [elemO, h2, beq_self_eq_true, if_true, idxO, h3, and_self, Option.bind_some, h4, Option.map_some]
theorem iadr_Lst {t e z : Nat} (h1 : (E.ty t).kd = .slice e) (h2 : (E.ty e).size = z) (es : List AV) (k : IntKind) (i : Int) {x : AV} (h3 : 0 ≤ i ∧ i < es.length) (h4 : es[i.toNat]? = some x) :
    iadrO E t (.lst z es) (.pv (.int k i)) = some (.rad x.cells) := by
  unfold iadrO
  rw [h1]
  simp only [h2, beq_self_eq_true, if_true, idxO, h3, and_self, Option.bind_some, h4, Option.map_some]
theorem idx_str {t : Nat} (h1 : (E.ty t).kd = .str) (s : List UInt8) (k : IntKind) (i : Int) {b : UInt8} (h3 : 0 ≤ i ∧ i < s.length) (h4 : s[i.toNat]? = some b) :
    indexO E t (.pv (.str s)) (.pv (.int k i)) = some (.pv (.int .u8 b.toNat)) := by
  unfold indexO
  rw [h1]
  simp only [idxO, h3, and_self, if_true, Option.bind_some, h4, Option.map_some]

/-! ### Functions that are led to blocks -/
def finS (E : Env) (n : Nat) (rs : List ResultVar) : Ex → St → Option (AV × Hp) := fun e st => match e with
  | .nrm | .ret => obind (rvsO E st rs) fun vs => cond (AV.unders n (vs.map degr)) (some (oneO (vs.map degr), st.hp.take n)) none
  | _ => none
def finR (n : Nat) (H : Hp) (vs : List AV) : Option (AV × Hp) := bcond (AV.unders n (vs.map degr)) (some (oneO (vs.map degr), H.take n)) none
@[go_sem ↓] theorem finS_nrm (n : Nat) (rs : List ResultVar) (fr : Fr) (H : Hp) : finS E n rs .nrm ⟨fr, H⟩ = obind (rvsO E ⟨fr, H⟩ rs) (finR n H) := (rfl)
@[go_sem ↓] theorem finS_ret (n : Nat) (rs : List ResultVar) (fr : Fr) (H : Hp) : finS E n rs .ret ⟨fr, H⟩ = obind (rvsO E ⟨fr, H⟩ rs) (finR n H) := (rfl)
@[go_sem] theorem finR_one (n : Nat) (H : Hp) (x : PV) : finR n H [.pv x] = some (.pv x, H.take n) := by simp [finR, degr, AV.unders, AV.under, bcond, oneO]
@[go_sem] theorem finR_nil (n : Nat) (H : Hp) : finR n H [] = some (.tup [], H.take n) := by simp [finR, AV.unders, bcond, oneO]
def finW (E : Env) (rs : List ResultVar) : Ex → St → Option (AV × Hp) := fun e st => match e with
  | .nrm | .ret => obind (rvsO E st rs) fun vs => some (oneO (vs.map degr), st.hp)
  | _ => none
def finV (H : Hp) (vs : List AV) : Option (AV × Hp) := some (oneO (vs.map degr), H)
@[go_sem ↓] theorem finW_nrm (rs : List ResultVar) (fr : Fr) (H : Hp) : finW E rs .nrm ⟨fr, H⟩ = obind (rvsO E ⟨fr, H⟩ rs) (finV H) := (rfl)
@[go_sem ↓] theorem finW_ret (rs : List ResultVar) (fr : Fr) (H : Hp) : finW E rs .ret ⟨fr, H⟩ = obind (rvsO E ⟨fr, H⟩ rs) (finV H) := (rfl)
@[go_sem] theorem finV_one (H : Hp) (x : AV) : finV H [x] = some (degr x, H) := (rfl)
@[go_sem] theorem finV_nil (H : Hp) : finV H [] = some (.tup [], H) := (rfl)
@[go_sem] theorem finV_two (H : Hp) (x y : AV) (vs : List AV) : finV H (x :: y :: vs) = some (.tup (degr x :: degr y :: vs.map degr), H) := (rfl)
@[go_sem] theorem degr_pv (x : PV) : degr (.pv x) = .pv x := (rfl)
@[go_sem] theorem degr_ptr (b o : Nat) : degr (.ptr b o) = .ptr b o := (rfl)

/-! ### Closures -/
@[go_sem] theorem mkfn_0 (g : Nat) : mkfnO (.func g) [] [] = some (.pv (.fn g)) := (rfl)
@[go_sem] theorem mkfn_1 (g : Nat) (x : AV) (p r : List AV) : mkfnO (.func g) (x :: p) r = some (.fn g (x :: p) r) := (rfl)
@[go_sem] theorem mkfn_2 (g : Nat) (x : AV) (r : List AV) : mkfnO (.func g) [] (x :: r) = some (.fn g [] (x :: r)) := (rfl)
@[go_sem ↓] theorem calleeO_cl (bases : List Nat) (f g : Nat) (p r as : List AV) (H : Hp) : calleeO E c bases f (.fn g p r) as H = callO E c bases f g (p ++ as ++ r) H := (rfl)

/-! ### Loops -/
def bodyL (E : Env) (c : Oracle) (lp : LoopO R) (q : R → R → Bool) (f d : Nat) (a : Code) (bases : List Nat) (cur : Nat) (live : List Nat) (n : Nat) : List AV → Hp → (Ex → List AV → St → Option R) → Option R := fun vs H k' =>
  execK E c lp q f d a (n :: bases) cur ⟨frOf d live vs, H⟩ fun e st' => match e with
    | .nrm => cond (AV.unders n (liveV st'.fr live)) (k' .nrm (liveV st'.fr live) ⟨st'.fr, st'.hp.take n⟩) none
    | e => k' e [] st'
def loopC (E : Env) (c : Oracle) (lp : LoopO R) (q : R → R → Bool) (f d : Nat) (a : Code) (bases : List Nat) (cur : Nat) (live : List Nat) (k : Ex → St → Option R) (x : List AV × Hp) : Option R :=
  cond (AV.unders x.2.length x.1) (lp (bodyL E c lp q f d a bases cur live x.2.length) x.1 x.2 k) none
@[congr] theorem loopC_congr {a : Code} {bases : List Nat} {cur : Nat} {live : List Nat} {k : Ex → St → Option R} {x y : List AV × Hp} (h : x = y) : loopC E c lp q f d a bases cur live k x = loopC E c lp q f d a bases cur live k y := by rw [h]
def mintP (vs : List AV) (H : Hp) : List AV × Hp := mintL vs H
def loopD (E : Env) (c : Oracle) (lp : LoopO R) (q : R → R → Bool) (f d : Nat) (a : Code) (bases : List Nat) (cur : Nat) (k : Ex → St → Option R) (fr : Fr) (H : Hp) (live : List Nat) : Option R :=
  loopC E c lp q f d a bases cur live k (mintP (liveV fr live) H)
@[congr] theorem loopD_congr {a : Code} {bases : List Nat} {cur : Nat} {k : Ex → St → Option R} {fr : Fr} {H : Hp} {x y : List Nat} (h : x = y) : loopD E c lp q f d a bases cur k fr H x = loopD E c lp q f d a bases cur k fr H y := by rw [h]
@[go_sem ↓] theorem execK_loop (a : Code) (bases : List Nat) (cur : Nat) (fr : Fr) (H : Hp) (k : Ex → St → Option R) : execK E c lp q f d (.loop a) bases cur ⟨fr, H⟩ k = loopD E c lp q f d a bases cur k fr H (E.live f cur) := by
  rw [execK]; rfl
@[go_sem] theorem loopD_nil (a : Code) (bases : List Nat) (cur : Nat) (k : Ex → St → Option R) (fr : Fr) (H : Hp) : loopD E c lp q f d a bases cur k fr H [] = loopC E c lp q f d a bases cur [] k (mintP (liveV fr []) H) := (rfl)
@[go_sem] theorem loopD_cons (a : Code) (bases : List Nat) (cur : Nat) (k : Ex → St → Option R) (fr : Fr) (H : Hp) (t : Nat) (ts : List Nat) : loopD E c lp q f d a bases cur k fr H (t :: ts) = loopC E c lp q f d a bases cur (t :: ts) k (mintP (liveV fr (t :: ts)) H) := (rfl)
@[go_sem ↓] theorem liveV_nil (fr : Fr) : liveV fr [] = [] := (rfl)
@[go_sem ↓] theorem liveV_cons (fr : Fr) (t : Nat) (ts : List Nat) : liveV fr (t :: ts) = fr.get t :: liveV fr ts := (rfl)
def mintQ (v : AV) (x : List AV × Hp) : List AV × Hp := (v :: x.1, x.2)
@[go_sem] theorem mintQ_eq (v : AV) (vs : List AV) (H : Hp) : mintQ v (vs, H) = (v :: vs, H) := (rfl)
@[go_sem] theorem mintP_nil (H : Hp) : mintP [] H = ([], H) := (rfl)
@[go_sem] theorem mintP_pv (x : PV) (vs : List AV) (H : Hp) : mintP (.pv x :: vs) H = mintQ (.pv x) (mintP vs H) := (rfl)
@[go_sem] theorem mintP_ptr (b o : Nat) (vs : List AV) (H : Hp) : mintP (.ptr b o :: vs) H = mintQ (.ptr b o) (mintP vs H) := (rfl)
@[go_sem] theorem mintP_own (b g z : Nat) (es : List PV) (vs : List AV) (H : Hp) : mintP (.own b g z es :: vs) H = mintQ (.own b g z es) (mintP vs H) := (rfl)
@[go_sem] theorem mintP_bot (vs : List AV) (H : Hp) : mintP (.bot :: vs) H = mintQ .bot (mintP vs H) := (rfl)
@[go_sem] theorem mintP_lst (z : Nat) (es : List AV) (vs : List AV) (H : Hp) : mintP (.lst z es :: vs) H = mintQ (.lst z es) (mintP vs H) := (rfl)
@[go_sem] theorem mintP_fn (g : Nat) (p r : List AV) (vs : List AV) (H : Hp) : mintP (.fn g p r :: vs) H = mintQ (.fn g p r) (mintP vs H) := (rfl)
@[go_sem] theorem mintP_rad (cs : List AV) (vs : List AV) (H : Hp) : mintP (.rad cs :: vs) H = mintQ (.rad cs) (mintP vs H) := (rfl)
@[go_sem] theorem mintP_map (b : Nat) (vs : List AV) (H : Hp) : mintP (.map b :: vs) H = mintQ (.map b) (mintP vs H) := (rfl)
@[go_sem] theorem mintP_ful (z : Nat) (es : List PV) (vs : List AV) (H : Hp) : mintP (.ful z es :: vs) H = mintQ (.own H.length 0 z es) (mintP vs (H ++ [.tok 0])) := (rfl)
def loopG (E : Env) (c : Oracle) (lp : LoopO R) (q : R → R → Bool) (f d : Nat) (a : Code) (bases : List Nat) (cur : Nat) (live : List Nat) (k : Ex → St → Option R) (vs : List AV) (H : Hp) (n : Nat) (b : Bool) : Option R :=
  cond b (lp (bodyL E c lp q f d a bases cur live n) vs H k) none
@[congr] theorem loopG_congr {a : Code} {bases : List Nat} {cur : Nat} {live : List Nat} {k : Ex → St → Option R} {vs : List AV} {H : Hp} {n m : Nat} {x y : Bool} (h : x = y) (h2 : n = m) : loopG E c lp q f d a bases cur live k vs H n x = loopG E c lp q f d a bases cur live k vs H m y := by rw [h, h2]
@[go_sem] theorem loopC_eq (a : Code) (bases : List Nat) (cur : Nat) (live : List Nat) (k : Ex → St → Option R) (vs : List AV) (H : Hp) : loopC E c lp q f d a bases cur live k (vs, H) = loopG E c lp q f d a bases cur live k vs H H.length (AV.unders H.length vs) := (rfl)
@[go_sem ↓] theorem unders_nil (n : Nat) : AV.unders n [] = true := by simp [AV.unders]
@[go_sem ↓] theorem unders_cons (n : Nat) (v : AV) (vs : List AV) : AV.unders n (v :: vs) = (v.under n && AV.unders n vs) := by simp [AV.unders]
@[go_sem] theorem under_pv (n : Nat) (x : PV) : (AV.pv x).under n = true := by simp [AV.under]
@[go_sem] theorem under_bot (n : Nat) : (AV.bot).under n = true := by simp [AV.under]
@[go_sem] theorem under_ful (n z : Nat) (es : List PV) : (AV.ful z es).under n = true := by simp [AV.under]
@[go_sem] theorem under_ptr (n b o : Nat) : (AV.ptr b o).under n = Nat.ble (b + 1) n := by simp only [AV.under]; rw [Bool.eq_iff_iff]; simp; omega
@[go_sem] theorem under_own (n b g z : Nat) (es : List PV) : (AV.own b g z es).under n = Nat.ble (b + 1) n := by simp only [AV.under]; rw [Bool.eq_iff_iff]; simp; omega
@[go_sem] theorem under_map (n b : Nat) : (AV.map b).under n = Nat.ble (b + 1) n := by simp only [AV.under]; rw [Bool.eq_iff_iff]; simp; omega
@[go_sem] theorem under_msl (n b o l c' z : Nat) (a : Bool) : (AV.msl b o l c' z a).under n = Nat.ble (b + 1) n := by simp only [AV.under]; rw [Bool.eq_iff_iff]; simp; omega
@[go_sem] theorem under_agg (n : Nat) (cs : List AV) : (AV.agg cs).under n = AV.unders n cs := by simp [AV.under]
@[go_sem] theorem under_rad (n : Nat) (cs : List AV) : (AV.rad cs).under n = AV.unders n cs := by simp [AV.under]
@[go_sem] theorem under_lst (n z : Nat) (cs : List AV) : (AV.lst z cs).under n = AV.unders n cs := by simp [AV.under]
@[go_sem] theorem under_fn (n g : Nat) (p r : List AV) : (AV.fn g p r).under n = (AV.unders n p && AV.unders n r) := by simp [AV.under]
theorem unders_pvs (n : Nat) (cs : List PV) : AV.unders n (cs.map AV.pv) = true := by
  induction cs with
  | nil => simp [AV.unders]
  | cons x xs ih => simp [AV.unders, AV.under, ih]
attribute [go_sem] unders_pvs

/-- The loop's body is begun. -/
def enterL (E : Env) (c : Oracle) (lp : LoopO R) (q : R → R → Bool) (f d : Nat) (a : Code) (bases : List Nat) (cur : Nat) (k : Ex → St → Option R) (H : Hp) (fr : Fr) : Option R := execK E c lp q f d a bases cur ⟨fr, H⟩ k
@[congr] theorem enterL_congr {a : Code} {bases : List Nat} {cur : Nat} {k : Ex → St → Option R} {H : Hp} {fr fr' : Fr} (h : fr = fr') : enterL E c lp q f d a bases cur k H fr = enterL E c lp q f d a bases cur k H fr' := by rw [h]
@[go_sem] theorem enterL_eq (a : Code) (bases : List Nat) (cur : Nat) (k : Ex → St → Option R) (H : Hp) (v : AV) (l r : Fr) : enterL E c lp q f d a bases cur k H (.nd v l r) = execK E c lp q f d a bases cur ⟨.nd v l r, H⟩ k := (rfl)
def backC (live : List Nat) (n : Nat) (k' : Ex → List AV → St → Option R) : Ex → St → Option R := fun e st' => match e with
  | .nrm => cond (AV.unders n (liveV st'.fr live)) (k' .nrm (liveV st'.fr live) ⟨st'.fr, st'.hp.take n⟩) none
  | e => k' e [] st'
theorem bodyL_eq (a : Code) (bases : List Nat) (cur : Nat) (live : List Nat) (n : Nat) (vs : List AV) (H : Hp) (k' : Ex → List AV → St → Option R) :
    bodyL E c lp q f d a bases cur live n vs H k' = enterL E c lp q f d a (n :: bases) cur (backC live n k') H (frOf d live vs) := by
  unfold bodyL enterL
  congr 1
attribute [go_sem ↓] bodyL_eq
@[go_sem ↓] theorem frOf_nil (n : Nat) (vs : List AV) : frOf n [] vs = Fr.full n := by cases vs <;> rfl
@[go_sem ↓] theorem frOf_cons (n d : Nat) (ds : List Nat) (v : AV) (vs : List AV) : frOf n (d :: ds) (v :: vs) = (frOf n ds vs).set d v := (rfl)
def stayC (n : Nat) (fr : Fr) (H : Hp) (k' : Ex → List AV → St → Option R) (vs : List AV) (b : Bool) : Option R := cond b (k' .nrm vs ⟨fr, H.take n⟩) none
@[congr] theorem stayC_congr {n : Nat} {fr : Fr} {H : Hp} {k' : Ex → List AV → St → Option R} {vs ws : List AV} {b b' : Bool} (h1 : vs = ws) (h2 : b = b') : stayC n fr H k' vs b = stayC n fr H k' ws b' := by rw [h1, h2]
@[go_sem ↓] theorem backC_nrm (live : List Nat) (n : Nat) (k' : Ex → List AV → St → Option R) (fr : Fr) (H : Hp) : backC live n k' .nrm ⟨fr, H⟩ = stayC n fr H k' (liveV fr live) (AV.unders n (liveV fr live)) := (rfl)
@[go_sem ↓] theorem backC_ret (live : List Nat) (n : Nat) (k' : Ex → List AV → St → Option R) (st : St) : backC live n k' .ret st = k' .ret [] st := (rfl)
@[go_sem ↓] theorem backC_ext (live : List Nat) (n : Nat) (k' : Ex → List AV → St → Option R) (i : Nat) (st : St) : backC live n k' (.ext i) st = k' (.ext i) [] st := (rfl)
def againC (m : Nat) (body : List AV → Hp → (Ex → List AV → St → Option R) → Option R) (k : Ex → St → Option R) : Ex → List AV → St → Option R := fun e vs st => match e with
  | .nrm => loopN m body vs st.hp k
  | e => k e st
theorem loopN_step (m : Nat) (body : List AV → Hp → (Ex → List AV → St → Option R) → Option R) (vs : List AV) (H : Hp) (k : Ex → St → Option R) : loopN (m + 1) body vs H k = body vs H (againC m body k) := by
  simp only [loopN]; rfl
/-- The next round, with the values that live and the heap. -/
def nextC (m : Nat) (body : List AV → Hp → (Ex → List AV → St → Option R) → Option R) (k : Ex → St → Option R) (vs : List AV) (H : Hp) : Option R := loopN m body vs H k
@[congr] theorem nextC_congr {m : Nat} {body : List AV → Hp → (Ex → List AV → St → Option R) → Option R} {k : Ex → St → Option R} {vs ws : List AV} {H H' : Hp} (h1 : vs = ws) (h2 : H = H') : nextC m body k vs H = nextC m body k ws H' := by rw [h1, h2]
@[go_sem] theorem stayC_true (n m : Nat) (fr : Fr) (H : Hp) (body : List AV → Hp → (Ex → List AV → St → Option R) → Option R) (k : Ex → St → Option R) (vs : List AV) : stayC n fr H (againC m body k) vs true = nextC m body k vs (H.take n) := (rfl)
@[go_sem ↓] theorem againC_ret (m : Nat) (body : List AV → Hp → (Ex → List AV → St → Option R) → Option R) (k : Ex → St → Option R) (vs : List AV) (st : St) : againC m body k .ret vs st = k .ret st := (rfl)
@[go_sem ↓] theorem againC_ext (m : Nat) (body : List AV → Hp → (Ex → List AV → St → Option R) → Option R) (k : Ex → St → Option R) (i : Nat) (vs : List AV) (st : St) : againC m body k (.ext i) vs st = k (.ext i) st := (rfl)
@[go_sem] theorem loopG_true (m : Nat) (a : Code) (bases : List Nat) (cur : Nat) (live : List Nat) (k : Ex → St → Option R) (vs : List AV) (H : Hp) (n : Nat) :
    loopG E c (loopN m) q f d a bases cur live k vs H n true = nextC m (bodyL E c (loopN m) q f d a bases cur live n) k vs H := (rfl)

/-- A loop by an invariant: it counts down. -/
theorem loop_ind {body : List AV → Hp → (Ex → List AV → St → Option R) → Option R} {k : Ex → St → Option R} {r : R} (I : Nat → List AV → Hp → Prop) (n : Nat) {m : Nat} {vs : List AV} {H : Hp} (h0 : I n vs H) (hm : n < m)
    (step : ∀ j vs H m', I j vs H → (∀ j' vs' H', j' < j → I j' vs' H' → nextC m' body k vs' H' = some r) → body vs H (againC m' body k) = some r) : nextC m body k vs H = some r := by
  have : ∀ n m vs H, I n vs H → n < m → nextC m body k vs H = some r := by
    intro n
    induction n using Nat.strongRecOn with
    | ind n ih =>
      intro m vs H h0 hm
      obtain ⟨m, rfl⟩ : ∃ i, m = i + 1 := ⟨m - 1, by omega⟩
      unfold nextC
      rw [loopN_step]
      exact step n vs H m h0 fun j' vs' H' hj hi => ih j' hj m vs' H' hi (by omega)
  exact this n m vs H h0 hm
end
end Go.Pu
