/-
  The program's data, as structures; what they are as pure data. Printed by a program (gen2.py).
-/
import Derived.Test.YtflehnedcjjdjaaGreatDoorPuA24
set_option linter.unusedSimpArgs false
set_option linter.unusedVariables false
namespace Go.Pu
structure GProp where
  mk ::
  id : Int
  n : Int
  text : List UInt8
  value : List UInt8
  deriving DecidableEq
def GProp.cells (x : GProp) : List PV := [.int .i64 x.id, .int .u32 x.n, .str x.text, .str x.value]
def GProp.pv (x : GProp) : PV := .agg x.cells
theorem GProp.pv_eq (x : GProp) : x.pv = .agg x.cells := (rfl)
def GProp.avs (x : GProp) : List AV := x.cells.map AV.pv
theorem GProp.avs_eq (x : GProp) : x.avs = [.pv (.int .i64 x.id), .pv (.int .u32 x.n), .pv (.str x.text), .pv (.str x.value)] := (rfl)
@[go_sem] theorem GProp.known (x : GProp) : (AV.pv x.pv).known = true := by rw [GProp.pv_eq]; rfl
@[go_sem] theorem GProp.avcells (x : GProp) : (AV.pv x.pv).cells = x.avs := by rw [GProp.pv_eq]; rfl
@[go_sem] theorem GProp.avs_length (x : GProp) : x.avs.length = 4 := (rfl)
@[go_sem] theorem GProp.avs_noOwn (x : GProp) : noOwn x.avs = true := (rfl)
@[go_sem] theorem GProp.pcells (x : GProp) : x.pv.cells.map AV.pv = x.avs := by rw [GProp.pv_eq]; rfl
theorem GProp.eqs (x y : GProp) : pvEqs [.i, .i, .s, .s] x.cells y.cells = some (decide (x = y)) := by
  have h : ∀ a b : Bool, (a = true ↔ b = true) → a = b := fun a b h => Bool.eq_iff_iff.2 h
  have e : pvEqs [.i, .i, .s, .s] x.cells y.cells = some (decide (x.id = y.id) && decide (x.n = y.n) && decide (x.text = y.text) && decide (x.value = y.value)) := by
    simp only [GProp.cells, pvEqs, pvEq, if_true]
    congr 1
    apply h
    simp [and_assoc]
  rw [e]
  congr 1
  apply h
  obtain ⟨a0, a1, a2, a3⟩ := x
  obtain ⟨b0, b1, b2, b3⟩ := y
  simp [GProp.mk.injEq, and_assoc]
def GProp.zero : GProp := .mk 0 0 [] []
structure GWill where
  mk ::
  topic : List UInt8
  payload : List UInt8
  qos : Int
  retain : Bool
  props : List GProp
  deriving DecidableEq
def GWill.cells (x : GWill) : List PV := [.str x.topic, .str x.payload, .int .i64 x.qos, .bool x.retain, .lst 4 (List.map GProp.pv x.props)]
def GWill.pv (x : GWill) : PV := .agg x.cells
theorem GWill.pv_eq (x : GWill) : x.pv = .agg x.cells := (rfl)
def GWill.avs (x : GWill) : List AV := x.cells.map AV.pv
theorem GWill.avs_eq (x : GWill) : x.avs = [.pv (.str x.topic), .pv (.str x.payload), .pv (.int .i64 x.qos), .pv (.bool x.retain), .pv (.lst 4 (List.map GProp.pv x.props))] := (rfl)
@[go_sem] theorem GWill.known (x : GWill) : (AV.pv x.pv).known = true := by rw [GWill.pv_eq]; rfl
@[go_sem] theorem GWill.avcells (x : GWill) : (AV.pv x.pv).cells = x.avs := by rw [GWill.pv_eq]; rfl
@[go_sem] theorem GWill.avs_length (x : GWill) : x.avs.length = 5 := (rfl)
@[go_sem] theorem GWill.avs_noOwn (x : GWill) : noOwn x.avs = true := (rfl)
@[go_sem] theorem GWill.pcells (x : GWill) : x.pv.cells.map AV.pv = x.avs := by rw [GWill.pv_eq]; rfl
def GWill.zero : GWill := .mk [] [] 0 false []
structure GFilter where
  mk ::
  topic : List UInt8
  qos : Int
  nolocal : Bool
  aspublished : Bool
  handling : Int
  deriving DecidableEq
def GFilter.cells (x : GFilter) : List PV := [.str x.topic, .int .i64 x.qos, .bool x.nolocal, .bool x.aspublished, .int .i64 x.handling]
def GFilter.pv (x : GFilter) : PV := .agg x.cells
theorem GFilter.pv_eq (x : GFilter) : x.pv = .agg x.cells := (rfl)
def GFilter.avs (x : GFilter) : List AV := x.cells.map AV.pv
theorem GFilter.avs_eq (x : GFilter) : x.avs = [.pv (.str x.topic), .pv (.int .i64 x.qos), .pv (.bool x.nolocal), .pv (.bool x.aspublished), .pv (.int .i64 x.handling)] := (rfl)
@[go_sem] theorem GFilter.known (x : GFilter) : (AV.pv x.pv).known = true := by rw [GFilter.pv_eq]; rfl
@[go_sem] theorem GFilter.avcells (x : GFilter) : (AV.pv x.pv).cells = x.avs := by rw [GFilter.pv_eq]; rfl
@[go_sem] theorem GFilter.avs_length (x : GFilter) : x.avs.length = 5 := (rfl)
@[go_sem] theorem GFilter.avs_noOwn (x : GFilter) : noOwn x.avs = true := (rfl)
@[go_sem] theorem GFilter.pcells (x : GFilter) : x.pv.cells.map AV.pv = x.avs := by rw [GFilter.pv_eq]; rfl
theorem GFilter.eqs (x y : GFilter) : pvEqs [.s, .i, .b, .b, .i] x.cells y.cells = some (decide (x = y)) := by
  have h : ∀ a b : Bool, (a = true ↔ b = true) → a = b := fun a b h => Bool.eq_iff_iff.2 h
  have e : pvEqs [.s, .i, .b, .b, .i] x.cells y.cells = some (decide (x.topic = y.topic) && decide (x.qos = y.qos) && decide (x.nolocal = y.nolocal) && decide (x.aspublished = y.aspublished) && decide (x.handling = y.handling)) := by
    simp only [GFilter.cells, pvEqs, pvEq, if_true]
    congr 1
    apply h
    simp [and_assoc]
  rw [e]
  congr 1
  apply h
  obtain ⟨a0, a1, a2, a3, a4⟩ := x
  obtain ⟨b0, b1, b2, b3, b4⟩ := y
  simp [GFilter.mk.injEq, and_assoc]
def GFilter.zero : GFilter := .mk [] 0 false false 0
structure GPacket where
  mk ::
  kind : Int
  dup : Bool
  retain : Bool
  qos : Int
  id : Int
  topic : List UInt8
  payload : List UInt8
  clean : Bool
  keepalive : Int
  client : List UInt8
  hasuser : Bool
  user : List UInt8
  haspass : Bool
  pass : List UInt8
  haswill : Bool
  will : GWill
  session : Bool
  code : Int
  codes : List Int
  filters : List GFilter
  props : List GProp
  deriving DecidableEq
def GPacket.cells (x : GPacket) : List PV := [.int .i64 x.kind, .bool x.dup, .bool x.retain, .int .i64 x.qos, .int .i64 x.id, .str x.topic, .str x.payload, .bool x.clean, .int .i64 x.keepalive, .str x.client, .bool x.hasuser, .str x.user, .bool x.haspass, .str x.pass, .bool x.haswill, .str x.will.topic, .str x.will.payload, .int .i64 x.will.qos, .bool x.will.retain, .lst 4 (List.map GProp.pv x.will.props), .bool x.session, .int .i64 x.code, .lst 1 (List.map (fun z => PV.int .i64 z) x.codes), .lst 5 (List.map GFilter.pv x.filters), .lst 4 (List.map GProp.pv x.props)]
def GPacket.pv (x : GPacket) : PV := .agg x.cells
theorem GPacket.pv_eq (x : GPacket) : x.pv = .agg x.cells := (rfl)
def GPacket.avs (x : GPacket) : List AV := x.cells.map AV.pv
theorem GPacket.avs_eq (x : GPacket) : x.avs = [.pv (.int .i64 x.kind), .pv (.bool x.dup), .pv (.bool x.retain), .pv (.int .i64 x.qos), .pv (.int .i64 x.id), .pv (.str x.topic), .pv (.str x.payload), .pv (.bool x.clean), .pv (.int .i64 x.keepalive), .pv (.str x.client), .pv (.bool x.hasuser), .pv (.str x.user), .pv (.bool x.haspass), .pv (.str x.pass), .pv (.bool x.haswill), .pv (.str x.will.topic), .pv (.str x.will.payload), .pv (.int .i64 x.will.qos), .pv (.bool x.will.retain), .pv (.lst 4 (List.map GProp.pv x.will.props)), .pv (.bool x.session), .pv (.int .i64 x.code), .pv (.lst 1 (List.map (fun z => PV.int .i64 z) x.codes)), .pv (.lst 5 (List.map GFilter.pv x.filters)), .pv (.lst 4 (List.map GProp.pv x.props))] := (rfl)
@[go_sem] theorem GPacket.known (x : GPacket) : (AV.pv x.pv).known = true := by rw [GPacket.pv_eq]; rfl
@[go_sem] theorem GPacket.avcells (x : GPacket) : (AV.pv x.pv).cells = x.avs := by rw [GPacket.pv_eq]; rfl
@[go_sem] theorem GPacket.avs_length (x : GPacket) : x.avs.length = 25 := (rfl)
@[go_sem] theorem GPacket.avs_noOwn (x : GPacket) : noOwn x.avs = true := (rfl)
@[go_sem] theorem GPacket.pcells (x : GPacket) : x.pv.cells.map AV.pv = x.avs := by rw [GPacket.pv_eq]; rfl
def GPacket.zero : GPacket := .mk 0 false false 0 0 [] [] false 0 [] false [] false [] false GWill.zero false 0 [] [] []
structure GFlags where
  mk ::
  dup : Bool
  qos : Int
  retain : Bool
  will : Bool
  clean : Bool
  ty : Int
  deriving DecidableEq
def GFlags.cells (x : GFlags) : List PV := [.bool x.dup, .int .i64 x.qos, .bool x.retain, .bool x.will, .bool x.clean, .int .i64 x.ty]
def GFlags.pv (x : GFlags) : PV := .agg x.cells
theorem GFlags.pv_eq (x : GFlags) : x.pv = .agg x.cells := (rfl)
def GFlags.avs (x : GFlags) : List AV := x.cells.map AV.pv
theorem GFlags.avs_eq (x : GFlags) : x.avs = [.pv (.bool x.dup), .pv (.int .i64 x.qos), .pv (.bool x.retain), .pv (.bool x.will), .pv (.bool x.clean), .pv (.int .i64 x.ty)] := (rfl)
@[go_sem] theorem GFlags.known (x : GFlags) : (AV.pv x.pv).known = true := by rw [GFlags.pv_eq]; rfl
@[go_sem] theorem GFlags.avcells (x : GFlags) : (AV.pv x.pv).cells = x.avs := by rw [GFlags.pv_eq]; rfl
@[go_sem] theorem GFlags.avs_length (x : GFlags) : x.avs.length = 6 := (rfl)
@[go_sem] theorem GFlags.avs_noOwn (x : GFlags) : noOwn x.avs = true := (rfl)
@[go_sem] theorem GFlags.pcells (x : GFlags) : x.pv.cells.map AV.pv = x.avs := by rw [GFlags.pv_eq]; rfl
theorem GFlags.eqs (x y : GFlags) : pvEqs [.b, .i, .b, .b, .b, .i] x.cells y.cells = some (decide (x = y)) := by
  have h : ∀ a b : Bool, (a = true ↔ b = true) → a = b := fun a b h => Bool.eq_iff_iff.2 h
  have e : pvEqs [.b, .i, .b, .b, .b, .i] x.cells y.cells = some (decide (x.dup = y.dup) && decide (x.qos = y.qos) && decide (x.retain = y.retain) && decide (x.will = y.will) && decide (x.clean = y.clean) && decide (x.ty = y.ty)) := by
    simp only [GFlags.cells, pvEqs, pvEq, if_true]
    congr 1
    apply h
    simp [and_assoc]
  rw [e]
  congr 1
  apply h
  obtain ⟨a0, a1, a2, a3, a4, a5⟩ := x
  obtain ⟨b0, b1, b2, b3, b4, b5⟩ := y
  simp [GFlags.mk.injEq, and_assoc]
def GFlags.zero : GFlags := .mk false 0 false false false 0
structure GMsg where
  mk ::
  ty : Int
  flags : GFlags
  gateway : Int
  radius : Int
  time : Int
  timed : Bool
  topicid : Int
  msgid : Int
  code : Int
  name : List UInt8
  data : List UInt8
  deriving DecidableEq
def GMsg.cells (x : GMsg) : List PV := [.int .i64 x.ty, .bool x.flags.dup, .int .i64 x.flags.qos, .bool x.flags.retain, .bool x.flags.will, .bool x.flags.clean, .int .i64 x.flags.ty, .int .i64 x.gateway, .int .i64 x.radius, .int .i64 x.time, .bool x.timed, .int .i64 x.topicid, .int .i64 x.msgid, .int .i64 x.code, .str x.name, .str x.data]
def GMsg.pv (x : GMsg) : PV := .agg x.cells
theorem GMsg.pv_eq (x : GMsg) : x.pv = .agg x.cells := (rfl)
def GMsg.avs (x : GMsg) : List AV := x.cells.map AV.pv
theorem GMsg.avs_eq (x : GMsg) : x.avs = [.pv (.int .i64 x.ty), .pv (.bool x.flags.dup), .pv (.int .i64 x.flags.qos), .pv (.bool x.flags.retain), .pv (.bool x.flags.will), .pv (.bool x.flags.clean), .pv (.int .i64 x.flags.ty), .pv (.int .i64 x.gateway), .pv (.int .i64 x.radius), .pv (.int .i64 x.time), .pv (.bool x.timed), .pv (.int .i64 x.topicid), .pv (.int .i64 x.msgid), .pv (.int .i64 x.code), .pv (.str x.name), .pv (.str x.data)] := (rfl)
@[go_sem] theorem GMsg.known (x : GMsg) : (AV.pv x.pv).known = true := by rw [GMsg.pv_eq]; rfl
@[go_sem] theorem GMsg.avcells (x : GMsg) : (AV.pv x.pv).cells = x.avs := by rw [GMsg.pv_eq]; rfl
@[go_sem] theorem GMsg.avs_length (x : GMsg) : x.avs.length = 16 := (rfl)
@[go_sem] theorem GMsg.avs_noOwn (x : GMsg) : noOwn x.avs = true := (rfl)
@[go_sem] theorem GMsg.pcells (x : GMsg) : x.pv.cells.map AV.pv = x.avs := by rw [GMsg.pv_eq]; rfl
theorem GMsg.eqs (x y : GMsg) : pvEqs [.i, .b, .i, .b, .b, .b, .i, .i, .i, .i, .b, .i, .i, .i, .s, .s] x.cells y.cells = some (decide (x = y)) := by
  have h : ∀ a b : Bool, (a = true ↔ b = true) → a = b := fun a b h => Bool.eq_iff_iff.2 h
  have e : pvEqs [.i, .b, .i, .b, .b, .b, .i, .i, .i, .i, .b, .i, .i, .i, .s, .s] x.cells y.cells = some (decide (x.ty = y.ty) && decide (x.flags.dup = y.flags.dup) && decide (x.flags.qos = y.flags.qos) && decide (x.flags.retain = y.flags.retain) && decide (x.flags.will = y.flags.will) && decide (x.flags.clean = y.flags.clean) && decide (x.flags.ty = y.flags.ty) && decide (x.gateway = y.gateway) && decide (x.radius = y.radius) && decide (x.time = y.time) && decide (x.timed = y.timed) && decide (x.topicid = y.topicid) && decide (x.msgid = y.msgid) && decide (x.code = y.code) && decide (x.name = y.name) && decide (x.data = y.data)) := by
    simp only [GMsg.cells, pvEqs, pvEq, if_true]
    congr 1
    apply h
    simp [and_assoc]
  rw [e]
  congr 1
  apply h
  obtain ⟨a0, ⟨a1_0, a1_1, a1_2, a1_3, a1_4, a1_5⟩, a2, a3, a4, a5, a6, a7, a8, a9, a10⟩ := x
  obtain ⟨b0, ⟨b1_0, b1_1, b1_2, b1_3, b1_4, b1_5⟩, b2, b3, b4, b5, b6, b7, b8, b9, b10⟩ := y
  simp [GMsg.mk.injEq, GFlags.mk.injEq, and_assoc]
def GMsg.zero : GMsg := .mk 0 GFlags.zero 0 0 0 false 0 0 0 [] []
inductive GValue where
  | mk (kind : Int) (n : Int) (text : List UInt8) (items : List GValue)
def GValue.kind : GValue → Int | .mk kind _ _ _ => kind
def GValue.n : GValue → Int | .mk _ n _ _ => n
def GValue.text : GValue → List UInt8 | .mk _ _ text _ => text
def GValue.items : GValue → List GValue | .mk _ _ _ items => items
mutual
def GValue.pv : GValue → PV
  | .mk kind n text items => .agg [.int .i64 kind, .int .u64 n, .str text, .lst 4 (GValue.pvs items)]
def GValue.pvs : List GValue → List PV
  | [] => []
  | x :: xs => x.pv :: GValue.pvs xs
end
def GValue.cells (x : GValue) : List PV := [.int .i64 x.kind, .int .u64 x.n, .str x.text, .lst 4 (List.map GValue.pv x.items)]
theorem GValue.pvs_eq (l : List GValue) : GValue.pvs l = l.map GValue.pv := by induction l with | nil => rfl | cons x xs ih => simp [GValue.pvs, ih]
theorem GValue.pv_eq (x : GValue) : x.pv = .agg x.cells := by cases x; simp [GValue.pv, GValue.cells, GValue.pvs_eq, GValue.kind, GValue.n, GValue.text, GValue.items]
def GValue.avs (x : GValue) : List AV := x.cells.map AV.pv
theorem GValue.avs_eq (x : GValue) : x.avs = [.pv (.int .i64 x.kind), .pv (.int .u64 x.n), .pv (.str x.text), .pv (.lst 4 (List.map GValue.pv x.items))] := (rfl)
@[go_sem] theorem GValue.known (x : GValue) : (AV.pv x.pv).known = true := by rw [GValue.pv_eq]; rfl
@[go_sem] theorem GValue.avcells (x : GValue) : (AV.pv x.pv).cells = x.avs := by rw [GValue.pv_eq]; rfl
@[go_sem] theorem GValue.avs_length (x : GValue) : x.avs.length = 4 := (rfl)
@[go_sem] theorem GValue.avs_noOwn (x : GValue) : noOwn x.avs = true := (rfl)
@[go_sem] theorem GValue.pcells (x : GValue) : x.pv.cells.map AV.pv = x.avs := by rw [GValue.pv_eq]; rfl
def GValue.zero : GValue := .mk 0 0 [] []
structure GFrame where
  mk ::
  ty : Int
  channel : Int
  ext : List UInt8
  values : List GValue
def GFrame.cells (x : GFrame) : List PV := [.int .i64 x.ty, .int .i64 x.channel, .str x.ext, .lst 4 (List.map GValue.pv x.values)]
def GFrame.pv (x : GFrame) : PV := .agg x.cells
theorem GFrame.pv_eq (x : GFrame) : x.pv = .agg x.cells := (rfl)
def GFrame.avs (x : GFrame) : List AV := x.cells.map AV.pv
theorem GFrame.avs_eq (x : GFrame) : x.avs = [.pv (.int .i64 x.ty), .pv (.int .i64 x.channel), .pv (.str x.ext), .pv (.lst 4 (List.map GValue.pv x.values))] := (rfl)
@[go_sem] theorem GFrame.known (x : GFrame) : (AV.pv x.pv).known = true := by rw [GFrame.pv_eq]; rfl
@[go_sem] theorem GFrame.avcells (x : GFrame) : (AV.pv x.pv).cells = x.avs := by rw [GFrame.pv_eq]; rfl
@[go_sem] theorem GFrame.avs_length (x : GFrame) : x.avs.length = 4 := (rfl)
@[go_sem] theorem GFrame.avs_noOwn (x : GFrame) : noOwn x.avs = true := (rfl)
@[go_sem] theorem GFrame.pcells (x : GFrame) : x.pv.cells.map AV.pv = x.avs := by rw [GFrame.pv_eq]; rfl
def GFrame.zero : GFrame := .mk 0 0 [] []
structure GHop where
  mk ::
  radius : Int
  node : List UInt8
  deriving DecidableEq
def GHop.cells (x : GHop) : List PV := [.int .i64 x.radius, .str x.node]
def GHop.pv (x : GHop) : PV := .agg x.cells
theorem GHop.pv_eq (x : GHop) : x.pv = .agg x.cells := (rfl)
def GHop.avs (x : GHop) : List AV := x.cells.map AV.pv
theorem GHop.avs_eq (x : GHop) : x.avs = [.pv (.int .i64 x.radius), .pv (.str x.node)] := (rfl)
@[go_sem] theorem GHop.known (x : GHop) : (AV.pv x.pv).known = true := by rw [GHop.pv_eq]; rfl
@[go_sem] theorem GHop.avcells (x : GHop) : (AV.pv x.pv).cells = x.avs := by rw [GHop.pv_eq]; rfl
@[go_sem] theorem GHop.avs_length (x : GHop) : x.avs.length = 2 := (rfl)
@[go_sem] theorem GHop.avs_noOwn (x : GHop) : noOwn x.avs = true := (rfl)
@[go_sem] theorem GHop.pcells (x : GHop) : x.pv.cells.map AV.pv = x.avs := by rw [GHop.pv_eq]; rfl
theorem GHop.eqs (x y : GHop) : pvEqs [.i, .s] x.cells y.cells = some (decide (x = y)) := by
  have h : ∀ a b : Bool, (a = true ↔ b = true) → a = b := fun a b h => Bool.eq_iff_iff.2 h
  have e : pvEqs [.i, .s] x.cells y.cells = some (decide (x.radius = y.radius) && decide (x.node = y.node)) := by
    simp only [GHop.cells, pvEqs, pvEq, if_true]
    congr 1
    apply h
    simp [and_assoc]
  rw [e]
  congr 1
  apply h
  obtain ⟨a0, a1⟩ := x
  obtain ⟨b0, b1⟩ := y
  simp [GHop.mk.injEq, and_assoc]
def GHop.zero : GHop := .mk 0 []
structure GEvent where
  mk ::
  proto : Int
  kind : Int
  topic : List UInt8
  payload : List UInt8
  qos : Int
  retain : Bool
  dup : Bool
  id : Int
  props : List GProp
  ty : Int
  hops : List GHop
  channel : Int
  packet : GPacket
  msg : GMsg
  frame : GFrame
def GEvent.cells (x : GEvent) : List PV := [.int .i64 x.proto, .int .i64 x.kind, .str x.topic, .str x.payload, .int .i64 x.qos, .bool x.retain, .bool x.dup, .int .i64 x.id, .lst 4 (List.map GProp.pv x.props), .int .i64 x.ty, .lst 2 (List.map GHop.pv x.hops), .int .i64 x.channel, .int .i64 x.packet.kind, .bool x.packet.dup, .bool x.packet.retain, .int .i64 x.packet.qos, .int .i64 x.packet.id, .str x.packet.topic, .str x.packet.payload, .bool x.packet.clean, .int .i64 x.packet.keepalive, .str x.packet.client, .bool x.packet.hasuser, .str x.packet.user, .bool x.packet.haspass, .str x.packet.pass, .bool x.packet.haswill, .str x.packet.will.topic, .str x.packet.will.payload, .int .i64 x.packet.will.qos, .bool x.packet.will.retain, .lst 4 (List.map GProp.pv x.packet.will.props), .bool x.packet.session, .int .i64 x.packet.code, .lst 1 (List.map (fun z => PV.int .i64 z) x.packet.codes), .lst 5 (List.map GFilter.pv x.packet.filters), .lst 4 (List.map GProp.pv x.packet.props), .int .i64 x.msg.ty, .bool x.msg.flags.dup, .int .i64 x.msg.flags.qos, .bool x.msg.flags.retain, .bool x.msg.flags.will, .bool x.msg.flags.clean, .int .i64 x.msg.flags.ty, .int .i64 x.msg.gateway, .int .i64 x.msg.radius, .int .i64 x.msg.time, .bool x.msg.timed, .int .i64 x.msg.topicid, .int .i64 x.msg.msgid, .int .i64 x.msg.code, .str x.msg.name, .str x.msg.data, .int .i64 x.frame.ty, .int .i64 x.frame.channel, .str x.frame.ext, .lst 4 (List.map GValue.pv x.frame.values)]
def GEvent.pv (x : GEvent) : PV := .agg x.cells
theorem GEvent.pv_eq (x : GEvent) : x.pv = .agg x.cells := (rfl)
def GEvent.avs (x : GEvent) : List AV := x.cells.map AV.pv
theorem GEvent.avs_eq (x : GEvent) : x.avs = [.pv (.int .i64 x.proto), .pv (.int .i64 x.kind), .pv (.str x.topic), .pv (.str x.payload), .pv (.int .i64 x.qos), .pv (.bool x.retain), .pv (.bool x.dup), .pv (.int .i64 x.id), .pv (.lst 4 (List.map GProp.pv x.props)), .pv (.int .i64 x.ty), .pv (.lst 2 (List.map GHop.pv x.hops)), .pv (.int .i64 x.channel), .pv (.int .i64 x.packet.kind), .pv (.bool x.packet.dup), .pv (.bool x.packet.retain), .pv (.int .i64 x.packet.qos), .pv (.int .i64 x.packet.id), .pv (.str x.packet.topic), .pv (.str x.packet.payload), .pv (.bool x.packet.clean), .pv (.int .i64 x.packet.keepalive), .pv (.str x.packet.client), .pv (.bool x.packet.hasuser), .pv (.str x.packet.user), .pv (.bool x.packet.haspass), .pv (.str x.packet.pass), .pv (.bool x.packet.haswill), .pv (.str x.packet.will.topic), .pv (.str x.packet.will.payload), .pv (.int .i64 x.packet.will.qos), .pv (.bool x.packet.will.retain), .pv (.lst 4 (List.map GProp.pv x.packet.will.props)), .pv (.bool x.packet.session), .pv (.int .i64 x.packet.code), .pv (.lst 1 (List.map (fun z => PV.int .i64 z) x.packet.codes)), .pv (.lst 5 (List.map GFilter.pv x.packet.filters)), .pv (.lst 4 (List.map GProp.pv x.packet.props)), .pv (.int .i64 x.msg.ty), .pv (.bool x.msg.flags.dup), .pv (.int .i64 x.msg.flags.qos), .pv (.bool x.msg.flags.retain), .pv (.bool x.msg.flags.will), .pv (.bool x.msg.flags.clean), .pv (.int .i64 x.msg.flags.ty), .pv (.int .i64 x.msg.gateway), .pv (.int .i64 x.msg.radius), .pv (.int .i64 x.msg.time), .pv (.bool x.msg.timed), .pv (.int .i64 x.msg.topicid), .pv (.int .i64 x.msg.msgid), .pv (.int .i64 x.msg.code), .pv (.str x.msg.name), .pv (.str x.msg.data), .pv (.int .i64 x.frame.ty), .pv (.int .i64 x.frame.channel), .pv (.str x.frame.ext), .pv (.lst 4 (List.map GValue.pv x.frame.values))] := (rfl)
@[go_sem] theorem GEvent.known (x : GEvent) : (AV.pv x.pv).known = true := by rw [GEvent.pv_eq]; rfl
@[go_sem] theorem GEvent.avcells (x : GEvent) : (AV.pv x.pv).cells = x.avs := by rw [GEvent.pv_eq]; rfl
@[go_sem] theorem GEvent.avs_length (x : GEvent) : x.avs.length = 57 := (rfl)
@[go_sem] theorem GEvent.avs_noOwn (x : GEvent) : noOwn x.avs = true := (rfl)
@[go_sem] theorem GEvent.pcells (x : GEvent) : x.pv.cells.map AV.pv = x.avs := by rw [GEvent.pv_eq]; rfl
def GEvent.zero : GEvent := .mk 0 0 [] [] 0 false false 0 [] 0 [] 0 GPacket.zero GMsg.zero GFrame.zero
structure GLimits where
  mk ::
  maxpacket : Int
  maxdepth : Int
  deriving DecidableEq
def GLimits.cells (x : GLimits) : List PV := [.int .i64 x.maxpacket, .int .i64 x.maxdepth]
def GLimits.pv (x : GLimits) : PV := .agg x.cells
theorem GLimits.pv_eq (x : GLimits) : x.pv = .agg x.cells := (rfl)
def GLimits.avs (x : GLimits) : List AV := x.cells.map AV.pv
theorem GLimits.avs_eq (x : GLimits) : x.avs = [.pv (.int .i64 x.maxpacket), .pv (.int .i64 x.maxdepth)] := (rfl)
@[go_sem] theorem GLimits.known (x : GLimits) : (AV.pv x.pv).known = true := by rw [GLimits.pv_eq]; rfl
@[go_sem] theorem GLimits.avcells (x : GLimits) : (AV.pv x.pv).cells = x.avs := by rw [GLimits.pv_eq]; rfl
@[go_sem] theorem GLimits.avs_length (x : GLimits) : x.avs.length = 2 := (rfl)
@[go_sem] theorem GLimits.avs_noOwn (x : GLimits) : noOwn x.avs = true := (rfl)
@[go_sem] theorem GLimits.pcells (x : GLimits) : x.pv.cells.map AV.pv = x.avs := by rw [GLimits.pv_eq]; rfl
theorem GLimits.eqs (x y : GLimits) : pvEqs [.i, .i] x.cells y.cells = some (decide (x = y)) := by
  have h : ∀ a b : Bool, (a = true ↔ b = true) → a = b := fun a b h => Bool.eq_iff_iff.2 h
  have e : pvEqs [.i, .i] x.cells y.cells = some (decide (x.maxpacket = y.maxpacket) && decide (x.maxdepth = y.maxdepth)) := by
    simp only [GLimits.cells, pvEqs, pvEq, if_true]
    congr 1
    apply h
    simp [and_assoc]
  rw [e]
  congr 1
  apply h
  obtain ⟨a0, a1⟩ := x
  obtain ⟨b0, b1⟩ := y
  simp [GLimits.mk.injEq, and_assoc]
def GLimits.zero : GLimits := .mk 0 0
structure GEventLabel where
  mk ::
  text : List UInt8
  deriving DecidableEq
def GEventLabel.cells (x : GEventLabel) : List PV := [.str x.text]
def GEventLabel.pv (x : GEventLabel) : PV := .agg x.cells
theorem GEventLabel.pv_eq (x : GEventLabel) : x.pv = .agg x.cells := (rfl)
def GEventLabel.avs (x : GEventLabel) : List AV := x.cells.map AV.pv
theorem GEventLabel.avs_eq (x : GEventLabel) : x.avs = [.pv (.str x.text)] := (rfl)
@[go_sem] theorem GEventLabel.known (x : GEventLabel) : (AV.pv x.pv).known = true := by rw [GEventLabel.pv_eq]; rfl
@[go_sem] theorem GEventLabel.avcells (x : GEventLabel) : (AV.pv x.pv).cells = x.avs := by rw [GEventLabel.pv_eq]; rfl
@[go_sem] theorem GEventLabel.avs_length (x : GEventLabel) : x.avs.length = 1 := (rfl)
@[go_sem] theorem GEventLabel.avs_noOwn (x : GEventLabel) : noOwn x.avs = true := (rfl)
@[go_sem] theorem GEventLabel.pcells (x : GEventLabel) : x.pv.cells.map AV.pv = x.avs := by rw [GEventLabel.pv_eq]; rfl
theorem GEventLabel.eqs (x y : GEventLabel) : pvEqs [.s] x.cells y.cells = some (decide (x = y)) := by
  have h : ∀ a b : Bool, (a = true ↔ b = true) → a = b := fun a b h => Bool.eq_iff_iff.2 h
  have e : pvEqs [.s] x.cells y.cells = some (decide (x.text = y.text)) := by
    simp only [GEventLabel.cells, pvEqs, pvEq, if_true]
    congr 1
    apply h
    simp [and_assoc]
  rw [e]
  congr 1
  apply h
  obtain ⟨a0⟩ := x
  obtain ⟨b0⟩ := y
  simp [GEventLabel.mk.injEq, and_assoc]
def GEventLabel.zero : GEventLabel := .mk []
structure GDatagram where
  mk ::
  hops : List GHop
  msg : GMsg
  deriving DecidableEq
def GDatagram.cells (x : GDatagram) : List PV := [.lst 2 (List.map GHop.pv x.hops), .int .i64 x.msg.ty, .bool x.msg.flags.dup, .int .i64 x.msg.flags.qos, .bool x.msg.flags.retain, .bool x.msg.flags.will, .bool x.msg.flags.clean, .int .i64 x.msg.flags.ty, .int .i64 x.msg.gateway, .int .i64 x.msg.radius, .int .i64 x.msg.time, .bool x.msg.timed, .int .i64 x.msg.topicid, .int .i64 x.msg.msgid, .int .i64 x.msg.code, .str x.msg.name, .str x.msg.data]
def GDatagram.pv (x : GDatagram) : PV := .agg x.cells
theorem GDatagram.pv_eq (x : GDatagram) : x.pv = .agg x.cells := (rfl)
def GDatagram.avs (x : GDatagram) : List AV := x.cells.map AV.pv
theorem GDatagram.avs_eq (x : GDatagram) : x.avs = [.pv (.lst 2 (List.map GHop.pv x.hops)), .pv (.int .i64 x.msg.ty), .pv (.bool x.msg.flags.dup), .pv (.int .i64 x.msg.flags.qos), .pv (.bool x.msg.flags.retain), .pv (.bool x.msg.flags.will), .pv (.bool x.msg.flags.clean), .pv (.int .i64 x.msg.flags.ty), .pv (.int .i64 x.msg.gateway), .pv (.int .i64 x.msg.radius), .pv (.int .i64 x.msg.time), .pv (.bool x.msg.timed), .pv (.int .i64 x.msg.topicid), .pv (.int .i64 x.msg.msgid), .pv (.int .i64 x.msg.code), .pv (.str x.msg.name), .pv (.str x.msg.data)] := (rfl)
@[go_sem] theorem GDatagram.known (x : GDatagram) : (AV.pv x.pv).known = true := by rw [GDatagram.pv_eq]; rfl
@[go_sem] theorem GDatagram.avcells (x : GDatagram) : (AV.pv x.pv).cells = x.avs := by rw [GDatagram.pv_eq]; rfl
@[go_sem] theorem GDatagram.avs_length (x : GDatagram) : x.avs.length = 17 := (rfl)
@[go_sem] theorem GDatagram.avs_noOwn (x : GDatagram) : noOwn x.avs = true := (rfl)
@[go_sem] theorem GDatagram.pcells (x : GDatagram) : x.pv.cells.map AV.pv = x.avs := by rw [GDatagram.pv_eq]; rfl
def GDatagram.zero : GDatagram := .mk [] GMsg.zero
structure GHeadBare where
  mk ::
  kind : Int
  qos : Int
  id : Int
  alive : Int
  code : Int
  dup : Bool
  retain : Bool
  clean : Bool
  user : Bool
  pass : Bool
  will : Bool
  again : Bool
  topic : List UInt8
  payload : List UInt8
  client : List UInt8
  name : List UInt8
  word : List UInt8
  deriving DecidableEq
def GHeadBare.cells (x : GHeadBare) : List PV := [.int .i64 x.kind, .int .i64 x.qos, .int .i64 x.id, .int .i64 x.alive, .int .i64 x.code, .bool x.dup, .bool x.retain, .bool x.clean, .bool x.user, .bool x.pass, .bool x.will, .bool x.again, .str x.topic, .str x.payload, .str x.client, .str x.name, .str x.word]
def GHeadBare.pv (x : GHeadBare) : PV := .agg x.cells
theorem GHeadBare.pv_eq (x : GHeadBare) : x.pv = .agg x.cells := (rfl)
def GHeadBare.avs (x : GHeadBare) : List AV := x.cells.map AV.pv
theorem GHeadBare.avs_eq (x : GHeadBare) : x.avs = [.pv (.int .i64 x.kind), .pv (.int .i64 x.qos), .pv (.int .i64 x.id), .pv (.int .i64 x.alive), .pv (.int .i64 x.code), .pv (.bool x.dup), .pv (.bool x.retain), .pv (.bool x.clean), .pv (.bool x.user), .pv (.bool x.pass), .pv (.bool x.will), .pv (.bool x.again), .pv (.str x.topic), .pv (.str x.payload), .pv (.str x.client), .pv (.str x.name), .pv (.str x.word)] := (rfl)
@[go_sem] theorem GHeadBare.known (x : GHeadBare) : (AV.pv x.pv).known = true := by rw [GHeadBare.pv_eq]; rfl
@[go_sem] theorem GHeadBare.avcells (x : GHeadBare) : (AV.pv x.pv).cells = x.avs := by rw [GHeadBare.pv_eq]; rfl
@[go_sem] theorem GHeadBare.avs_length (x : GHeadBare) : x.avs.length = 17 := (rfl)
@[go_sem] theorem GHeadBare.avs_noOwn (x : GHeadBare) : noOwn x.avs = true := (rfl)
@[go_sem] theorem GHeadBare.pcells (x : GHeadBare) : x.pv.cells.map AV.pv = x.avs := by rw [GHeadBare.pv_eq]; rfl
theorem GHeadBare.eqs (x y : GHeadBare) : pvEqs [.i, .i, .i, .i, .i, .b, .b, .b, .b, .b, .b, .b, .s, .s, .s, .s, .s] x.cells y.cells = some (decide (x = y)) := by
  have h : ∀ a b : Bool, (a = true ↔ b = true) → a = b := fun a b h => Bool.eq_iff_iff.2 h
  have e : pvEqs [.i, .i, .i, .i, .i, .b, .b, .b, .b, .b, .b, .b, .s, .s, .s, .s, .s] x.cells y.cells = some (decide (x.kind = y.kind) && decide (x.qos = y.qos) && decide (x.id = y.id) && decide (x.alive = y.alive) && decide (x.code = y.code) && decide (x.dup = y.dup) && decide (x.retain = y.retain) && decide (x.clean = y.clean) && decide (x.user = y.user) && decide (x.pass = y.pass) && decide (x.will = y.will) && decide (x.again = y.again) && decide (x.topic = y.topic) && decide (x.payload = y.payload) && decide (x.client = y.client) && decide (x.name = y.name) && decide (x.word = y.word)) := by
    simp only [GHeadBare.cells, pvEqs, pvEq, if_true]
    congr 1
    apply h
    simp [and_assoc]
  rw [e]
  congr 1
  apply h
  obtain ⟨a0, a1, a2, a3, a4, a5, a6, a7, a8, a9, a10, a11, a12, a13, a14, a15, a16⟩ := x
  obtain ⟨b0, b1, b2, b3, b4, b5, b6, b7, b8, b9, b10, b11, b12, b13, b14, b15, b16⟩ := y
  simp [GHeadBare.mk.injEq, and_assoc]
def GHeadBare.zero : GHeadBare := .mk 0 0 0 0 0 false false false false false false false [] [] [] [] []
structure GPropRule where
  mk ::
  shape : Int
  kinds : Int
  least : Int
  most : Int
  deriving DecidableEq
def GPropRule.cells (x : GPropRule) : List PV := [.int .i64 x.shape, .int .i64 x.kinds, .int .u32 x.least, .int .u32 x.most]
def GPropRule.pv (x : GPropRule) : PV := .agg x.cells
theorem GPropRule.pv_eq (x : GPropRule) : x.pv = .agg x.cells := (rfl)
def GPropRule.avs (x : GPropRule) : List AV := x.cells.map AV.pv
theorem GPropRule.avs_eq (x : GPropRule) : x.avs = [.pv (.int .i64 x.shape), .pv (.int .i64 x.kinds), .pv (.int .u32 x.least), .pv (.int .u32 x.most)] := (rfl)
@[go_sem] theorem GPropRule.known (x : GPropRule) : (AV.pv x.pv).known = true := by rw [GPropRule.pv_eq]; rfl
@[go_sem] theorem GPropRule.avcells (x : GPropRule) : (AV.pv x.pv).cells = x.avs := by rw [GPropRule.pv_eq]; rfl
@[go_sem] theorem GPropRule.avs_length (x : GPropRule) : x.avs.length = 4 := (rfl)
@[go_sem] theorem GPropRule.avs_noOwn (x : GPropRule) : noOwn x.avs = true := (rfl)
@[go_sem] theorem GPropRule.pcells (x : GPropRule) : x.pv.cells.map AV.pv = x.avs := by rw [GPropRule.pv_eq]; rfl
theorem GPropRule.eqs (x y : GPropRule) : pvEqs [.i, .i, .i, .i] x.cells y.cells = some (decide (x = y)) := by
  have h : ∀ a b : Bool, (a = true ↔ b = true) → a = b := fun a b h => Bool.eq_iff_iff.2 h
  have e : pvEqs [.i, .i, .i, .i] x.cells y.cells = some (decide (x.shape = y.shape) && decide (x.kinds = y.kinds) && decide (x.least = y.least) && decide (x.most = y.most)) := by
    simp only [GPropRule.cells, pvEqs, pvEq, if_true]
    congr 1
    apply h
    simp [and_assoc]
  rw [e]
  congr 1
  apply h
  obtain ⟨a0, a1, a2, a3⟩ := x
  obtain ⟨b0, b1, b2, b3⟩ := y
  simp [GPropRule.mk.injEq, and_assoc]
def GPropRule.zero : GPropRule := .mk 0 0 0 0
structure GHead where
  mk ::
  kind : Int
  flags : Int
  length : Int
  deriving DecidableEq
def GHead.cells (x : GHead) : List PV := [.int .i64 x.kind, .int .i64 x.flags, .int .i64 x.length]
def GHead.pv (x : GHead) : PV := .agg x.cells
theorem GHead.pv_eq (x : GHead) : x.pv = .agg x.cells := (rfl)
def GHead.avs (x : GHead) : List AV := x.cells.map AV.pv
theorem GHead.avs_eq (x : GHead) : x.avs = [.pv (.int .i64 x.kind), .pv (.int .i64 x.flags), .pv (.int .i64 x.length)] := (rfl)
@[go_sem] theorem GHead.known (x : GHead) : (AV.pv x.pv).known = true := by rw [GHead.pv_eq]; rfl
@[go_sem] theorem GHead.avcells (x : GHead) : (AV.pv x.pv).cells = x.avs := by rw [GHead.pv_eq]; rfl
@[go_sem] theorem GHead.avs_length (x : GHead) : x.avs.length = 3 := (rfl)
@[go_sem] theorem GHead.avs_noOwn (x : GHead) : noOwn x.avs = true := (rfl)
@[go_sem] theorem GHead.pcells (x : GHead) : x.pv.cells.map AV.pv = x.avs := by rw [GHead.pv_eq]; rfl
theorem GHead.eqs (x y : GHead) : pvEqs [.i, .i, .i] x.cells y.cells = some (decide (x = y)) := by
  have h : ∀ a b : Bool, (a = true ↔ b = true) → a = b := fun a b h => Bool.eq_iff_iff.2 h
  have e : pvEqs [.i, .i, .i] x.cells y.cells = some (decide (x.kind = y.kind) && decide (x.flags = y.flags) && decide (x.length = y.length)) := by
    simp only [GHead.cells, pvEqs, pvEq, if_true]
    congr 1
    apply h
    simp [and_assoc]
  rw [e]
  congr 1
  apply h
  obtain ⟨a0, a1, a2⟩ := x
  obtain ⟨b0, b1, b2⟩ := y
  simp [GHead.mk.injEq, and_assoc]
def GHead.zero : GHead := .mk 0 0 0
structure GCtor where
  mk ::
  code : Int
  kind : Int
  width : Int
  sized : Bool
  items : Bool
  deriving DecidableEq
def GCtor.cells (x : GCtor) : List PV := [.int .i64 x.code, .int .i64 x.kind, .int .i64 x.width, .bool x.sized, .bool x.items]
def GCtor.pv (x : GCtor) : PV := .agg x.cells
theorem GCtor.pv_eq (x : GCtor) : x.pv = .agg x.cells := (rfl)
def GCtor.avs (x : GCtor) : List AV := x.cells.map AV.pv
theorem GCtor.avs_eq (x : GCtor) : x.avs = [.pv (.int .i64 x.code), .pv (.int .i64 x.kind), .pv (.int .i64 x.width), .pv (.bool x.sized), .pv (.bool x.items)] := (rfl)
@[go_sem] theorem GCtor.known (x : GCtor) : (AV.pv x.pv).known = true := by rw [GCtor.pv_eq]; rfl
@[go_sem] theorem GCtor.avcells (x : GCtor) : (AV.pv x.pv).cells = x.avs := by rw [GCtor.pv_eq]; rfl
@[go_sem] theorem GCtor.avs_length (x : GCtor) : x.avs.length = 5 := (rfl)
@[go_sem] theorem GCtor.avs_noOwn (x : GCtor) : noOwn x.avs = true := (rfl)
@[go_sem] theorem GCtor.pcells (x : GCtor) : x.pv.cells.map AV.pv = x.avs := by rw [GCtor.pv_eq]; rfl
theorem GCtor.eqs (x y : GCtor) : pvEqs [.i, .i, .i, .b, .b] x.cells y.cells = some (decide (x = y)) := by
  have h : ∀ a b : Bool, (a = true ↔ b = true) → a = b := fun a b h => Bool.eq_iff_iff.2 h
  have e : pvEqs [.i, .i, .i, .b, .b] x.cells y.cells = some (decide (x.code = y.code) && decide (x.kind = y.kind) && decide (x.width = y.width) && decide (x.sized = y.sized) && decide (x.items = y.items)) := by
    simp only [GCtor.cells, pvEqs, pvEq, if_true]
    congr 1
    apply h
    simp [and_assoc]
  rw [e]
  congr 1
  apply h
  obtain ⟨a0, a1, a2, a3, a4⟩ := x
  obtain ⟨b0, b1, b2, b3, b4⟩ := y
  simp [GCtor.mk.injEq, and_assoc]
def GCtor.zero : GCtor := .mk 0 0 0 false false
end Go.Pu
