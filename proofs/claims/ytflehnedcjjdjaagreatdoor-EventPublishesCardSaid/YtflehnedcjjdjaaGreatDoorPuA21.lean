/-
  The evaluator's rules as rewriting rules: what is to be run next stands ahead, the rest is not looked at.
-/
import Derived.Test.YtflehnedcjjdjaaGreatDoorPuA20
set_option linter.unusedSimpArgs false
set_option linter.unusedVariables false
namespace Go.Pu

def obind {α β : Type} (x : Option α) (f : α → Option β) : Option β := x.bind f
@[congr] theorem obind_congr {α β : Type} {x y : Option α} {f : α → Option β} (h : x = y) : obind x f = obind y f := by rw [h]
theorem obind_some {α β : Type} (a : α) (f : α → Option β) : obind (some a) f = f a := (rfl)
theorem obind_none {α β : Type} (f : α → Option β) : obind none f = none := (rfl)

def bcond {α : Type} (b : Bool) (x y : α) : α := cond b x y
@[congr] theorem bcond_congr {α : Type} {b c : Bool} {x y : α} (h : b = c) : bcond b x y = bcond c x y := by rw [h]
theorem bcond_true {α : Type} (x y : α) : bcond true x y = x := (rfl)
theorem bcond_false {α : Type} (x y : α) : bcond false x y = y := (rfl)
theorem bcond_eq {α : Type} {b : Bool} {x y z : α} (h : b = true → x = z) (k : b = false → y = z) : bcond b x y = z := by
  cases b
  · exact k rfl
  · exact h rfl

section
variable {R : Type} {E : Env} {c : Oracle} {lp : LoopO R} {q : R → R → Bool} {f d : Nat}

def seqC (E : Env) (c : Oracle) (lp : LoopO R) (q : R → R → Bool) (f d : Nat) (b : Code) (bases : List Nat) (cur : Nat) (k : Ex → St → Option R) : Ex → St → Option R := fun e st => match e with
  | .nrm => execK E c lp q f d b bases cur st k
  | e => k e st
theorem execK_seq (a b : Code) (bases : List Nat) (cur : Nat) (st : St) (k : Ex → St → Option R) : execK E c lp q f d (.seq a b) bases cur st k = execK E c lp q f d a bases cur st (seqC E c lp q f d b bases cur k) := by
  rw [execK]; congr 1
theorem seqC_nrm (b : Code) (bases : List Nat) (cur : Nat) (k : Ex → St → Option R) (st : St) : seqC E c lp q f d b bases cur k .nrm st = execK E c lp q f d b bases cur st k := (rfl)
theorem seqC_ret (b : Code) (bases : List Nat) (cur : Nat) (k : Ex → St → Option R) (st : St) : seqC E c lp q f d b bases cur k .ret st = k .ret st := (rfl)
theorem seqC_ext (b : Code) (bases : List Nat) (cur : Nat) (k : Ex → St → Option R) (i : Nat) (st : St) : seqC E c lp q f d b bases cur k (.ext i) st = k (.ext i) st := (rfl)
theorem execK_skip (bases : List Nat) (cur : Nat) (st : St) (k : Ex → St → Option R) : execK E c lp q f d .skip bases cur st k = k .nrm st := by rw [execK]
theorem execK_ret (bases : List Nat) (cur : Nat) (st : St) (k : Ex → St → Option R) : execK E c lp q f d .ret bases cur st k = k .ret st := by rw [execK]
theorem execK_scope (a : Code) (bases : List Nat) (cur : Nat) (st : St) (k : Ex → St → Option R) : execK E c lp q f d (.scope a) bases cur st k = execK E c lp q f d a bases cur st k := by rw [execK]
theorem execK_label (l : Nat) (bases : List Nat) (cur : Nat) (st : St) (k : Ex → St → Option R) : execK E c lp q f d (.label l) bases cur st k = k .nrm st := by rw [execK]
theorem execK_exit (i : Nat) (bases : List Nat) (cur : Nat) (st : St) (k : Ex → St → Option R) : execK E c lp q f d (.exit i) bases cur st k = k (.ext i) st := by rw [execK]

def condC (E : Env) (c : Oracle) (lp : LoopO R) (q : R → R → Bool) (f d : Nat) (a b : Code) (bases : List Nat) (cur : Nat) (st : St) (k : Ex → St → Option R) (v : AV) : Option R := match v with
  | .pv (.bool t) => cond t (execK E c lp q f d a bases cur st k) (execK E c lp q f d b bases cur st k)
  | .ubool => (execK E c lp q f d a bases cur st k).bind fun r => (execK E c lp q f d b bases cur st k).bind fun s => cond (q r s) (some r) none
  | _ => none
@[congr] theorem condC_congr {a b : Code} {bases : List Nat} {cur : Nat} {st : St} {k : Ex → St → Option R} {v w : AV} (h : v = w) : condC E c lp q f d a b bases cur st k v = condC E c lp q f d a b bases cur st k w := by rw [h]
theorem execK_cond (x : Operand) (a b : Code) (bases : List Nat) (cur : Nat) (st : St) (k : Ex → St → Option R) : execK E c lp q f d (.cond x a b) bases cur st k = condC E c lp q f d a b bases cur st k (evalO E st.fr x) := by rw [execK]; rfl
theorem condC_true (a b : Code) (bases : List Nat) (cur : Nat) (st : St) (k : Ex → St → Option R) : condC E c lp q f d a b bases cur st k (.pv (.bool true)) = execK E c lp q f d a bases cur st k := (rfl)
theorem condC_false (a b : Code) (bases : List Nat) (cur : Nat) (st : St) (k : Ex → St → Option R) : condC E c lp q f d a b bases cur st k (.pv (.bool false)) = execK E c lp q f d b bases cur st k := (rfl)
theorem condC_bool (a b : Code) (bases : List Nat) (cur : Nat) (st : St) (k : Ex → St → Option R) (t : Bool) : condC E c lp q f d a b bases cur st k (.pv (.bool t)) = bcond t (execK E c lp q f d a bases cur st k) (execK E c lp q f d b bases cur st k) := (rfl)

def blockC (id : Nat) (k : Ex → St → Option R) : Ex → St → Option R := fun e st => match e with
  | .ext j => cond (Nat.beq j id) (k .nrm st) (k (.ext j) st)
  | e => k e st
theorem execK_block (id : Nat) (a : Code) (bases : List Nat) (cur : Nat) (st : St) (k : Ex → St → Option R) : execK E c lp q f d (.block id a) bases cur st k = execK E c lp q f d a bases id st (blockC id k) := by
  rw [execK]; congr 1
theorem blockC_nrm (id : Nat) (k : Ex → St → Option R) (st : St) : blockC id k .nrm st = k .nrm st := (rfl)
theorem blockC_ret (id : Nat) (k : Ex → St → Option R) (st : St) : blockC id k .ret st = k .ret st := (rfl)
theorem blockC_ext (id j : Nat) (k : Ex → St → Option R) (st : St) : blockC id k (.ext j) st = bcond (Nat.beq j id) (k .nrm st) (k (.ext j) st) := (rfl)

def nrmC (k : Ex → St → Option R) : St → Option R := fun st => k .nrm st
theorem nrmC_eq (k : Ex → St → Option R) (st : St) : nrmC k st = k .nrm st := (rfl)
theorem execK_region (id : Nat) (ops : Array Oper) (bases : List Nat) (cur : Nat) (st : St) (k : Ex → St → Option R) : execK E c lp q f d (.region id ops false) bases cur st k = regK E c f bases none ops ops.toList 0 0 st (nrmC k) := by rw [execK]; rfl
theorem execK_regionD (id : Nat) (ops : Array Oper) (bases : List Nat) (cur : Nat) (fr : Fr) (hp : Hp) (k : Ex → St → Option R) : execK E c lp q f d (.region id ops true) bases cur ⟨fr, hp⟩ k =
    regK E c f bases (some ⟨hp.length, (E.flag f id).1, ptrs fr (E.flag f id).2⟩) ops ops.toList 0 0 ⟨fr, hp ++ List.replicate (newsOf ops.toList) .dead⟩ (nrmC k) := by rw [execK]; rfl

/-! ### Operations, one behind the other -/

def putC (E : Env) (c : Oracle) (f : Nat) (bases : List Nat) (dr : Option Draw) (ops : Array Oper) (os : List Oper) (i rank : Nat) (fr : Fr) (dst : Option Nat) (k : St → Option R) (r : AV × Hp) : Option R :=
  regK E c f bases dr ops os i rank (putO ⟨fr, r.2⟩ dst r) k
theorem putC_some (bases : List Nat) (dr : Option Draw) (ops : Array Oper) (os : List Oper) (i rank : Nat) (fr : Fr) (t : Nat) (k : St → Option R) (v : AV) (H : Hp) :
    putC E c f bases dr ops os i rank fr (some t) k (v, H) = regK E c f bases dr ops os i rank ⟨fr.set t v, H⟩ k := (rfl)
theorem putC_none (bases : List Nat) (dr : Option Draw) (ops : Array Oper) (os : List Oper) (i rank : Nat) (fr : Fr) (k : St → Option R) (v : AV) (H : Hp) :
    putC E c f bases dr ops os i rank fr none k (v, H) = regK E c f bases dr ops os i rank ⟨fr, H⟩ k := (rfl)

/-- An operation, told by its parts. -/
def opC (E : Env) (c : Oracle) (f : Nat) (bases : List Nat) (dr : Option Draw) (i rank : Nat) (dst : Option Nat) (op : Op) (fr : Fr) (H : Hp) : Option (AV × Hp) :=
  opO E c f bases dr i rank ⟨dst, op, 0, "", #[], none⟩ ⟨fr, H⟩
theorem opO_opC (bases : List Nat) (dr : Option Draw) (i rank : Nat) (o : Oper) (fr : Fr) (H : Hp) : opO E c f bases dr i rank o ⟨fr, H⟩ = opC E c f bases dr i rank o.dst o.op fr H := by
  cases o; rfl

theorem regK_end (bases : List Nat) (dr : Option Draw) (ops : Array Oper) (i rank : Nat) (st : St) (k : St → Option R) : regK E c f bases dr ops [] i rank st k = k st := (rfl)
theorem regK_step (bases : List Nat) (dr : Option Draw) (ops : Array Oper) (dst : Option Nat) (op : Op) (ty : Nat) (pos : String) (af : Array Edge) (os : List Oper) (i rank : Nat) (fr : Fr) (H : Hp) (k : St → Option R) :
    regK E c f bases dr ops (⟨dst, op, ty, pos, af, none⟩ :: os) i rank ⟨fr, H⟩ k = obind (opC E c f bases dr i rank dst op fr H) (putC E c f bases dr ops os (i + 1) (bcond (isNew op) (rank + 1) rank) fr dst k) := by
  simp only [regK, obind, bcond]
  rw [opO_opC]
  rfl

/-- A guard: the temporary that it asks, the state. -/
def grdC (E : Env) (c : Oracle) (f : Nat) (bases : List Nat) (dr : Option Draw) (ops : Array Oper) (os : List Oper) (i rank : Nat) (fr : Fr) (H : Hp) (dst : Option Nat) (op : Op) (d : Nat) (want : Bool) (k : St → Option R) (v : AV) : Option R :=
  match v with
  | .pv (.bool b) => cond b
      (cond want (obind (opC E c f bases dr i rank dst op (fr.set d (.pv (.bool true))) H) (putC E c f bases dr ops os (i + 1) (bcond (isNew op) (rank + 1) rank) (fr.set d (.pv (.bool true))) dst k))
        (regK E c f bases dr ops os (i + 1) (bcond (isNew op) (rank + 1) rank) (putO ⟨fr.set d (.pv (.bool true)), H⟩ dst (.pv (.tup []), H)) k))
      (cond want (regK E c f bases dr ops os (i + 1) (bcond (isNew op) (rank + 1) rank) (putO ⟨fr.set d (.pv (.bool false)), H⟩ dst (.pv (.tup []), H)) k)
        (obind (opC E c f bases dr i rank dst op (fr.set d (.pv (.bool false))) H) (putC E c f bases dr ops os (i + 1) (bcond (isNew op) (rank + 1) rank) (fr.set d (.pv (.bool false))) dst k)))
  | .pv (.tup []) => regK E c f bases dr ops os (i + 1) (bcond (isNew op) (rank + 1) rank) (putO ⟨fr, H⟩ dst (.pv (.tup []), H)) k
  | _ => none
@[congr] theorem grdC_congr {bases : List Nat} {dr : Option Draw} {ops : Array Oper} {os : List Oper} {i rank : Nat} {fr : Fr} {H : Hp} {dst : Option Nat} {op : Op} {t : Nat} {want : Bool} {k : St → Option R} {v w : AV} (h : v = w) :
    grdC E c f bases dr ops os i rank fr H dst op t want k v = grdC E c f bases dr ops os i rank fr H dst op t want k w := by rw [h]

def grdD (E : Env) (c : Oracle) (f : Nat) (bases : List Nat) (dr : Option Draw) (ops : Array Oper) (os : List Oper) (i rank : Nat) (fr : Fr) (H : Hp) (dst : Option Nat) (op : Op) (want : Bool) (k : St → Option R) (x : Option Nat) : Option R :=
  match x with
  | some t => grdC E c f bases dr ops os i rank fr H dst op t want k (fr.get t)
  | none => none
@[congr] theorem grdD_congr {bases : List Nat} {dr : Option Draw} {ops : Array Oper} {os : List Oper} {i rank : Nat} {fr : Fr} {H : Hp} {dst : Option Nat} {op : Op} {want : Bool} {k : St → Option R} {v w : Option Nat} (h : v = w) :
    grdD E c f bases dr ops os i rank fr H dst op want k v = grdD E c f bases dr ops os i rank fr H dst op want k w := by rw [h]
theorem grdD_some (bases : List Nat) (dr : Option Draw) (ops : Array Oper) (os : List Oper) (i rank : Nat) (fr : Fr) (H : Hp) (dst : Option Nat) (op : Op) (want : Bool) (k : St → Option R) (t : Nat) :
    grdD E c f bases dr ops os i rank fr H dst op want k (some t) = grdC E c f bases dr ops os i rank fr H dst op t want k (fr.get t) := (rfl)

def dstAt (ops : Array Oper) (j : Nat) : Option Nat := (ops[j]?).bind (·.dst)

theorem regK_grd (bases : List Nat) (dr : Option Draw) (ops : Array Oper) (dst : Option Nat) (op : Op) (ty : Nat) (pos : String) (af : Array Edge) (j : Nat) (want : Bool) (os : List Oper) (i rank : Nat) (fr : Fr) (H : Hp) (k : St → Option R) :
    regK E c f bases dr ops (⟨dst, op, ty, pos, af, some (j, want)⟩ :: os) i rank ⟨fr, H⟩ k = grdD E c f bases dr ops os i rank fr H dst op want k (dstAt ops j) := by
  simp only [regK, dstAt]
  cases (ops[j]?).bind (·.dst) with
  | none => rfl
  | some t =>
    simp only [grdD, grdC, obind, bcond, opO_opC]
    rfl

theorem grdC_tt (bases : List Nat) (dr : Option Draw) (ops : Array Oper) (os : List Oper) (i rank : Nat) (fr : Fr) (H : Hp) (dst : Option Nat) (op : Op) (t : Nat) (k : St → Option R) :
    grdC E c f bases dr ops os i rank fr H dst op t true k (.pv (.bool true)) = obind (opC E c f bases dr i rank dst op (fr.set t (.pv (.bool true))) H) (putC E c f bases dr ops os (i + 1) (bcond (isNew op) (rank + 1) rank) (fr.set t (.pv (.bool true))) dst k) := (rfl)
theorem grdC_ff (bases : List Nat) (dr : Option Draw) (ops : Array Oper) (os : List Oper) (i rank : Nat) (fr : Fr) (H : Hp) (dst : Option Nat) (op : Op) (t : Nat) (k : St → Option R) :
    grdC E c f bases dr ops os i rank fr H dst op t false k (.pv (.bool false)) = obind (opC E c f bases dr i rank dst op (fr.set t (.pv (.bool false))) H) (putC E c f bases dr ops os (i + 1) (bcond (isNew op) (rank + 1) rank) (fr.set t (.pv (.bool false))) dst k) := (rfl)
theorem grdC_tf (bases : List Nat) (dr : Option Draw) (ops : Array Oper) (os : List Oper) (i rank : Nat) (fr : Fr) (H : Hp) (dst : Option Nat) (op : Op) (t : Nat) (k : St → Option R) :
    grdC E c f bases dr ops os i rank fr H dst op t true k (.pv (.bool false)) = putC E c f bases dr ops os (i + 1) (bcond (isNew op) (rank + 1) rank) (fr.set t (.pv (.bool false))) dst k (.pv (.tup []), H) := by cases dst <;> rfl
theorem grdC_ft (bases : List Nat) (dr : Option Draw) (ops : Array Oper) (os : List Oper) (i rank : Nat) (fr : Fr) (H : Hp) (dst : Option Nat) (op : Op) (t : Nat) (k : St → Option R) :
    grdC E c f bases dr ops os i rank fr H dst op t false k (.pv (.bool true)) = putC E c f bases dr ops os (i + 1) (bcond (isNew op) (rank + 1) rank) (fr.set t (.pv (.bool true))) dst k (.pv (.tup []), H) := by cases dst <;> rfl
theorem grdC_tup (bases : List Nat) (dr : Option Draw) (ops : Array Oper) (os : List Oper) (i rank : Nat) (fr : Fr) (H : Hp) (dst : Option Nat) (op : Op) (t : Nat) (want : Bool) (k : St → Option R) :
    grdC E c f bases dr ops os i rank fr H dst op t want k (.pv (.tup [])) = putC E c f bases dr ops os (i + 1) (bcond (isNew op) (rank + 1) rank) fr dst k (.pv (.tup []), H) := by cases dst <;> rfl
theorem grdC_bool (bases : List Nat) (dr : Option Draw) (ops : Array Oper) (os : List Oper) (i rank : Nat) (fr : Fr) (H : Hp) (dst : Option Nat) (op : Op) (t : Nat) (want : Bool) (k : St → Option R) (b : Bool) :
    grdC E c f bases dr ops os i rank fr H dst op t want k (.pv (.bool b)) = bcond b (grdC E c f bases dr ops os i rank fr H dst op t want k (.pv (.bool true))) (grdC E c f bases dr ops os i rank fr H dst op t want k (.pv (.bool false))) := by cases b <;> rfl

/-! ### Results of operations -/

def retH (H : Hp) (x : Option AV) : Option (AV × Hp) := x.map fun v => (v, H)
@[congr] theorem retH_congr {H : Hp} {x y : Option AV} (h : x = y) : retH H x = retH H y := by rw [h]
theorem retH_some (H : Hp) (v : AV) : retH H (some v) = some (v, H) := (rfl)
def retU (x : Option Hp) : Option (AV × Hp) := x.map fun H => (.pv (.tup []), H)
theorem retU_some (H : Hp) : retU (some H) = some (.pv (.tup []), H) := (rfl)

variable (bases : List Nat) (dr : Option Draw) (i rank : Nat) (dst : Option Nat) (fr : Fr) (H : Hp)
theorem opC_move (x : Operand) : opC E c f bases dr i rank dst (.move x) fr H = retH H (some (evalO E fr x)) := (rfl)
theorem opC_assign (x : Operand) : opC E c f bases dr i rank dst (.assign x) fr H = retH H (some (evalO E fr x)) := (rfl)
theorem opC_pick (a b e : Operand) : opC E c f bases dr i rank dst (.pick a b e) fr H = retH H (pickO (evalO E fr a) (evalO E fr b) (evalO E fr e)) := (rfl)
theorem opC_alloc (t : Nat) : opC E c f bases dr i rank (some d) (.alloc t) fr H = bcond ((E.ty t).ok && Nat.beq (E.ty t).zero.length (E.ty t).size) (newD dr rank (E.mint f d) (zeroC (E.mint f d) (E.ty t).zero) H) none := (rfl)
theorem opC_box (t : Nat) (x : Operand) : opC E c f bases dr i rank (some d) (.box t x) fr H = bcond ((E.ty t).ok && (evalO E fr x).known && Nat.beq (evalO E fr x).cells.length (E.ty t).size) (newD dr rank (E.mint f d) (evalO E fr x).cells H) none := (rfl)
theorem opC_build (t : Nat) (ps : Array (Nat × Operand)) : opC E c f bases dr i rank (some d) (.build t ps) fr H = retH H (buildO E (evalO E fr) t ps.toList (E.mint f d)) := (rfl)
theorem opC_buildSlice (t n : Nat) (ps : Array (Nat × Operand)) : opC E c f bases dr i rank dst (.buildSlice t n ps) fr H = retH H (bsliceO E (evalO E fr) t n ps.toList) := (rfl)
theorem opC_load (t : Nat) (a : Operand) : opC E c f bases dr i rank dst (.load t a) fr H = bcond (oldOk dr i (evalO E fr a)) (retH H (loadO E t H (evalO E fr a))) none := (rfl)
theorem opC_store (t : Nat) (a x : Operand) : opC E c f bases dr i rank dst (.store t a x) fr H = bcond (freshOk dr i (evalO E fr a)) (retU (storeO E bases t H (evalO E fr a) (evalO E fr x))) none := (rfl)
theorem opC_nilCheck (x : Operand) : opC E c f bases dr i rank dst (.nilCheck x) fr H = retH H (nilcO E (evalO E fr x)) := (rfl)
theorem opC_binOp (op : BinOp) (t t2 : Nat) (x y : Operand) : opC E c f bases dr i rank dst (.binOp op t x y t2) fr H = retH H (bcond (isNilS y && isSl (E.ty t).kd) (nilSl op (evalO E fr x)) (binO (E.ty t) op (evalO E fr x) (evalO E fr y))) := (rfl)
theorem opC_unOp (op : UnOp) (t : Nat) (x : Operand) : opC E c f bases dr i rank dst (.unOp op t x) fr H = retH H (unO op (evalO E fr x)) := (rfl)
def cvO (E : Env) (s t : Nat) (H : Hp) (x : AV) : Option AV := match (E.ty t).kd with | .slice _ => convB E s t x | _ => convO E s t H x
theorem opC_convert (s t : Nat) (x : Operand) : opC E c f bases dr i rank dst (.convert s t x) fr H = retH H (cvO E s t H (evalO E fr x)) := by
  show (match (E.ty t).kd with | .slice _ => _ | _ => _) = _
  unfold cvO retH
  cases (E.ty t).kd <;> rfl
def mkiO (E : Env) (t : Nat) (x : AV) : Option AV := match (E.ty t).kd with | .iface | .other => none | _ => some (ifaceO x t)
theorem opC_makeInterface (t : Nat) (x : Operand) : opC E c f bases dr i rank dst (.makeInterface t x) fr H = retH H (mkiO E t (evalO E fr x)) := by
  show (match (E.ty t).kd with | .iface | .other => none | _ => _) = _
  unfold mkiO retH
  cases (E.ty t).kd <;> rfl
theorem opC_makeFunc (g : Fn) (a b : Array Operand) : opC E c f bases dr i rank dst (.makeFunc g a b) fr H = retH H (mkfnO g (a.toList.map (evalO E fr)) (b.toList.map (evalO E fr))) := (rfl)
theorem opC_makeMap (t : Nat) : opC E c f bases dr i rank dst (.makeMap t none) fr H = some (.map H.length, H ++ [.map [] []]) := (rfl)
theorem opC_makeSlice (t : Nat) (l m : Operand) : opC E c f bases dr i rank dst (.makeSlice t l m) fr H = makeSlO E t H (evalO E fr l) (evalO E fr m) := (rfl)
theorem opC_slice (t : Nat) (x : Operand) (l h m : Option Operand) : opC E c f bases dr i rank dst (.slice t x l h m) fr H = retH H (sliceO E t (evalO E fr x) (l.map (evalO E fr)) (h.map (evalO E fr)) (m.map (evalO E fr))) := (rfl)
theorem opC_fieldAddr (t : Nat) (x : Operand) (j : Nat) : opC E c f bases dr i rank dst (.fieldAddr t x j) fr H = retH H (fadrO E t (evalO E fr x) j) := (rfl)
theorem opC_field (t : Nat) (x : Operand) (j : Nat) : opC E c f bases dr i rank dst (.field t x j) fr H = retH H (fieldO E t (evalO E fr x) j) := (rfl)
theorem opC_indexAddr (t : Nat) (x y : Operand) : opC E c f bases dr i rank dst (.indexAddr t x y) fr H = retH H (iadrO E t (evalO E fr x) (evalO E fr y)) := (rfl)
theorem opC_index (t : Nat) (x y : Operand) : opC E c f bases dr i rank dst (.index t x y) fr H = retH H (indexO E t (evalO E fr x) (evalO E fr y)) := (rfl)
theorem opC_lookup (t : Nat) (m k : Operand) (ok : Bool) : opC E c f bases dr i rank dst (.lookup t m k ok) fr H = retH H (lookO E t H (evalO E fr m) (evalO E fr k) ok) := (rfl)
theorem opC_mapUpdate (t : Nat) (m k x : Operand) : opC E c f bases dr i rank dst (.mapUpdate t m k x) fr H = retU (mputO E t bases H (evalO E fr m) (evalO E fr k) (evalO E fr x)) := (rfl)
theorem opC_insert (t : Nat) (m k x : Operand) : opC E c f bases dr i rank dst (.insert t m k x) fr H = retU (mputO E t bases H (evalO E fr m) (evalO E fr k) (evalO E fr x)) := (rfl)
theorem opC_range (t : Nat) (x : Operand) : opC E c f bases dr i rank dst (.range t x) fr H = rangeO E t H (evalO E fr x) := (rfl)
theorem opC_next (x : Operand) (s : Bool) : opC E c f bases dr i rank dst (.next x s) fr H = nextO H (evalO E fr x) s := (rfl)
theorem opC_typeAssert (x : Operand) (t0 t : Nat) (ok : Bool) : opC E c f bases dr i rank dst (.typeAssert x t0 t ok) fr H = retH H (assertO E (evalO E fr x) t ok) := (rfl)
theorem opC_extract (x : Operand) (j : Nat) : opC E c f bases dr i rank dst (.extract x j) fr H = retH H (extrO (evalO E fr x) j) := (rfl)
theorem opC_callV (g : Operand) (as : Array Operand) (ts : Array Nat) : opC E c f bases dr i rank dst (.call ⟨.value g, as, ts⟩) fr H = calleeO E c bases f (evalO E fr g) (as.toList.map (evalO E fr)) H := (rfl)
theorem opC_callI (r : Operand) (m : String) (as : Array Operand) (ts : Array Nat) : opC E c f bases dr i rank dst (.call ⟨.invoke r m, as, ts⟩) fr H = invokeO E c bases f (evalO E fr r) m (as.toList.map (evalO E fr)) H := (rfl)
theorem opC_callB (b : Builtin) (as : Array Operand) (ts : Array Nat) : opC E c f bases dr i rank dst (.call ⟨.builtin b, as, ts⟩) fr H = callB E H b ts.toList (as.toList.map (evalO E fr)) := (rfl)
end
end Go.Pu
