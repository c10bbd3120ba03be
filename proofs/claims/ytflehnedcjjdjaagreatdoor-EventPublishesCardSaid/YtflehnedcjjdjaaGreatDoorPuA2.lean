/-
  What it means that the evaluator's values and heap tell of the model's values and memory; how that is kept.
-/
import Derived.Test.YtflehnedcjjdjaaGreatDoorPuA1
import Derived.WalkKit
set_option linter.unusedSimpArgs false
set_option linter.unusedVariables false
namespace Go.Pu

/-- Ghosts: cells that nobody changes any more; maps likewise; the block of memory of a block of the evaluator's; of a token; a token's slice, by its state, and the cells of an element. -/
structure Gh where
  mu : Nat → Nat → Option Value
  nu : Nat → Option (Array MapEntry)
  io : Nat → Option Nat
  ow : Nat → Option Nat
  tk : Nat → Nat → Option (Value × Nat)

def Holds (mu : Nat → Nat → Option Value) (b o : Nat) (cs : List Value) : Prop := ∀ i v, cs[i]? = some v → mu b (o + i) = some v
def flatC (vs : List Value) : List Value := vs.flatMap fun v => v.cells.toList
/-- Each is the value of one cell. -/
def One (vs : List Value) : Prop := ∀ v ∈ vs, v.oneCell' = true
theorem One.nil : One [] := fun _ h => by simp at h
theorem One.append {a b : List Value} (h : One a) (k : One b) : One (a ++ b) := fun v hv => by
  rcases List.mem_append.1 hv with hv | hv
  · exact h v hv
  · exact k v hv
theorem One.take {a : List Value} (h : One a) (n : Nat) : One (a.take n) := fun v hv => h v (List.mem_of_mem_take hv)
theorem One.drop {a : List Value} (h : One a) (n : Nat) : One (a.drop n) := fun v hv => h v (List.mem_of_mem_drop hv)
def Lies (g : Gh) (sz : Nat) (a : Option Addr) (vs : List Value) : Prop :=
  (∀ v ∈ vs, v.cells.size = sz ∧ One v.cells.toList) ∧ (vs = [] ∨ ∃ b o, a = some ⟨b, o, none⟩ ∧ Holds g.mu b o (flatC vs))

mutual
def VP (g : Gh) : PV → Value → Prop
  | .int k n, v => v = .int k n
  | .bool b, v => v = .bool b
  | .str s, v => v = .string ⟨s.toArray⟩
  | .agg cs, v => ∃ vs : List Value, v = .agg vs.toArray ∧ One vs ∧ VPs g cs vs
  | .tup cs, v => ∃ vs : List Value, v = .tuple vs.toArray ∧ VPs g cs vs
  | .lst sz es, v => ∃ a cap vs, v = .slice a es.length cap ∧ es.length ≤ cap ∧ VPs g es vs ∧ Lies g sz a vs
  | .nilp, v => v = .pointer none
  | .nilf, v => v = .nilFunc
  | .fn f, v => v = .func (.func f) #[] #[]
  | .nili, v => v = .nilIface
  | .iface t x, v => ∃ y, v = .iface t y ∧ VP g x y
  | .nilm, v => v = .map none
  | .map ks xs, v => ∃ r es, v = .map (some r) ∧ g.nu r = some es ∧ VPs g ks (es.toList.map (·.key)) ∧ VPs g xs (es.toList.map (·.val))
def VPs (g : Gh) : List PV → List Value → Prop
  | [], vs => vs = []
  | x :: xs, vs => ∃ v r, vs = v :: r ∧ VP g x v ∧ VPs g xs r
end

mutual
def VA (g : Gh) : AV → Value → Prop
  | .bot, _ => True
  | .pv x, v => VP g x v
  | .ful sz es, v => VP g (.lst sz es) v ∧ ∃ a n, v = .slice a n n
  | .own b k sz es, v => VP g (.lst sz es) v ∧ g.tk b k = some (v, sz)
  | .ptr b o, v => ∃ c, g.io b = some c ∧ v = .pointer (some ⟨c, o, none⟩)
  | .rad cs, v => ∃ b o vs, v = .pointer (some ⟨b, o, none⟩) ∧ One vs ∧ VAs g cs vs ∧ Holds g.mu b o vs
  | .agg cs, v => ∃ vs : List Value, v = .agg vs.toArray ∧ One vs ∧ VAs g cs vs
  | .lst sz es, v => (∀ e ∈ es, e.known = true) ∧ ∃ a cap vs, v = .slice a es.length cap ∧ es.length ≤ cap ∧ VAs g es vs ∧ Lies g sz a vs
  | .tup cs, v => ∃ vs : List Value, v = .tuple vs.toArray ∧ VAs g cs vs
  | .fn f p q, v => ∃ ps qs : List Value, v = .func (.func f) ps.toArray qs.toArray ∧ VAs g p ps ∧ VAs g q qs
  | .fnm m x, v => ∃ y, v = .func (.method m) #[y] #[] ∧ VA g x y
  | .iface t x, v => ∃ y, v = .iface t y ∧ VA g x y
  | .map b, v => ∃ c, g.io b = some c ∧ v = .map (some c)
  | .msl b off len cap _ _, v => ∃ c a cap', g.io b = some c ∧ v = .slice a len cap' ∧ len ≤ cap ∧ cap ≤ cap' ∧ (cap = 0 ∨ a = some ⟨c, off, none⟩)
  | .ubool, v => ∃ b, v = .bool b
def VAs (g : Gh) : List AV → List Value → Prop
  | [], vs => vs = []
  | x :: xs, vs => ∃ v r, vs = v :: r ∧ VA g x v ∧ VAs g xs r
end

theorem VPs_length {g : Gh} : ∀ {xs : List PV} {vs : List Value}, VPs g xs vs → vs.length = xs.length
  | [], vs, h => by simp only [VPs] at h; simp [h]
  | x :: xs, vs, h => by
    simp only [VPs] at h; obtain ⟨v, r, rfl, _, h⟩ := h; simp [VPs_length h]

theorem VAs_length {g : Gh} : ∀ {xs : List AV} {vs : List Value}, VAs g xs vs → vs.length = xs.length
  | [], vs, h => by simp only [VAs] at h; simp [h]
  | x :: xs, vs, h => by
    simp only [VAs] at h; obtain ⟨v, r, rfl, _, h⟩ := h; simp [VAs_length h]

theorem VAs_get {g : Gh} : ∀ {xs : List AV} {vs : List Value} {i : Nat} {x : AV}, VAs g xs vs → xs[i]? = some x → ∃ v, vs[i]? = some v ∧ VA g x v
  | [], vs, i, x, h, hi => by simp at hi
  | y :: xs, vs, i, x, h, hi => by
    simp only [VAs] at h; obtain ⟨v, r, rfl, hv, h⟩ := h
    cases i with
    | zero => simp at hi; subst hi; exact ⟨v, by simp, hv⟩
    | succ i => simp at hi ⊢; exact VAs_get h hi

theorem VPs_get {g : Gh} : ∀ {xs : List PV} {vs : List Value} {i : Nat} {x : PV}, VPs g xs vs → xs[i]? = some x → ∃ v, vs[i]? = some v ∧ VP g x v
  | [], vs, i, x, h, hi => by simp at hi
  | y :: xs, vs, i, x, h, hi => by
    simp only [VPs] at h; obtain ⟨v, r, rfl, hv, h⟩ := h
    cases i with
    | zero => simp at hi; subst hi; exact ⟨v, by simp, hv⟩
    | succ i => simp at hi ⊢; exact VPs_get h hi

theorem VAs_append {g : Gh} : ∀ {xs ys : List AV} {vs ws : List Value}, VAs g xs vs → VAs g ys ws → VAs g (xs ++ ys) (vs ++ ws)
  | [], ys, vs, ws, h, k => by simp only [VAs] at h; subst h; simpa using k
  | x :: xs, ys, vs, ws, h, k => by
    simp only [VAs] at h; obtain ⟨v, r, rfl, hv, h⟩ := h
    simp only [List.cons_append, VAs]; exact ⟨v, r ++ ws, rfl, hv, VAs_append h k⟩

theorem VPs_append {g : Gh} : ∀ {xs ys : List PV} {vs ws : List Value}, VPs g xs vs → VPs g ys ws → VPs g (xs ++ ys) (vs ++ ws)
  | [], ys, vs, ws, h, k => by simp only [VPs] at h; subst h; simpa using k
  | x :: xs, ys, vs, ws, h, k => by
    simp only [VPs] at h; obtain ⟨v, r, rfl, hv, h⟩ := h
    simp only [List.cons_append, VPs]; exact ⟨v, r ++ ws, rfl, hv, VPs_append h k⟩

theorem VAs_drop {g : Gh} : ∀ {xs : List AV} {vs : List Value} (n : Nat), VAs g xs vs → VAs g (xs.drop n) (vs.drop n)
  | xs, vs, 0, h => by simpa using h
  | [], vs, n + 1, h => by simp only [VAs] at h; subst h; simp [VAs]
  | x :: xs, vs, n + 1, h => by
    simp only [VAs] at h; obtain ⟨v, r, rfl, hv, h⟩ := h
    simpa using VAs_drop n h

theorem VAs_take {g : Gh} : ∀ {xs : List AV} {vs : List Value} (n : Nat), VAs g xs vs → VAs g (xs.take n) (vs.take n)
  | xs, vs, 0, h => by simp [VAs]
  | [], vs, n + 1, h => by simp only [VAs] at h; subst h; simp [VAs]
  | x :: xs, vs, n + 1, h => by
    simp only [VAs] at h; obtain ⟨v, r, rfl, hv, h⟩ := h
    simp only [List.take_succ_cons, VAs]; exact ⟨v, r.take n, rfl, hv, VAs_take n h⟩

theorem VPs_drop {g : Gh} : ∀ {xs : List PV} {vs : List Value} (n : Nat), VPs g xs vs → VPs g (xs.drop n) (vs.drop n)
  | xs, vs, 0, h => by simpa using h
  | [], vs, n + 1, h => by simp only [VPs] at h; subst h; simp [VPs]
  | x :: xs, vs, n + 1, h => by
    simp only [VPs] at h; obtain ⟨v, r, rfl, hv, h⟩ := h
    simpa using VPs_drop n h

theorem VPs_take {g : Gh} : ∀ {xs : List PV} {vs : List Value} (n : Nat), VPs g xs vs → VPs g (xs.take n) (vs.take n)
  | xs, vs, 0, h => by simp [VPs]
  | [], vs, n + 1, h => by simp only [VPs] at h; subst h; simp [VPs]
  | x :: xs, vs, n + 1, h => by
    simp only [VPs] at h; obtain ⟨v, r, rfl, hv, h⟩ := h
    simp only [List.take_succ_cons, VPs]; exact ⟨v, r.take n, rfl, hv, VPs_take n h⟩

theorem VAs_pv {g : Gh} : ∀ {xs : List PV} {vs : List Value}, VPs g xs vs → VAs g (xs.map .pv) vs
  | [], vs, h => by simp only [VPs] at h; simp [VAs, h]
  | x :: xs, vs, h => by
    simp only [VPs] at h; obtain ⟨v, r, rfl, hv, h⟩ := h
    simp only [List.map_cons, VAs, VA]; exact ⟨v, r, rfl, hv, VAs_pv h⟩

theorem toPV_ok {g : Gh} {v : AV} {p : PV} {x : Value} (h : VA g v x) (hp : toPV v = some p) : VP g p x := by
  cases v <;> simp only [toPV, Option.some.injEq, reduceCtorEq] at hp <;> subst hp <;> simp only [VA] at h
  · exact h
  · exact h.1
  · exact h.1

theorem allPV_ok {g : Gh} : ∀ {vs : List AV} {ps : List PV} {xs : List Value}, VAs g vs xs → allPV vs = some ps → VPs g ps xs
  | [], ps, xs, h, hp => by simp only [allPV, Option.some.injEq] at hp; subst hp; simpa [VAs, VPs] using h
  | v :: vs, ps, xs, h, hp => by
    simp only [VAs] at h; obtain ⟨x, r, rfl, hx, h⟩ := h
    simp only [allPV] at hp
    split at hp
    · rename_i p qs h1 h2
      simp only [Option.some.injEq] at hp; subst hp
      simp only [VPs]; exact ⟨x, r, rfl, toPV_ok hx h1, allPV_ok h h2⟩
    · simp at hp

theorem allPV_length : ∀ {vs : List AV} {ps : List PV}, allPV vs = some ps → ps.length = vs.length
  | [], ps, hp => by simp only [allPV, Option.some.injEq] at hp; subst hp; rfl
  | v :: vs, ps, hp => by
    simp only [allPV] at hp
    split at hp
    · rename_i p qs h1 h2
      simp only [Option.some.injEq] at hp; subst hp
      simp [allPV_length h2]
    · simp at hp

theorem mkAgg_ok {g : Gh} {cs : List AV} {xs : List Value} (h : VAs g cs xs) (ho : One xs) : VA g (mkAgg cs) (.agg xs.toArray) := by
  unfold mkAgg
  split
  · rename_i ps hp; simp only [VA, VP]; exact ⟨xs, rfl, ho, allPV_ok h hp⟩
  · simp only [VA]; exact ⟨xs, rfl, ho, h⟩

theorem mkTup_ok {g : Gh} {cs : List AV} {xs : List Value} (h : VAs g cs xs) : VA g (mkTup cs) (.tuple xs.toArray) := by
  unfold mkTup
  split
  · rename_i ps hp; simp only [VA, VP]; exact ⟨xs, rfl, allPV_ok h hp⟩
  · simp only [VA]; exact ⟨xs, rfl, h⟩

theorem VP_cells {g : Gh} {p : PV} {x : Value} (h : VP g p x) : VPs g p.cells x.cells.toList := by
  cases p <;> simp only [VP] at h
  case agg cs => obtain ⟨vs, rfl, _, h⟩ := h; simpa [PV.cells, Value.cells] using h
  all_goals
    simp only [PV.cells, VPs, VP]
  all_goals first
    | (subst h; exact ⟨_, [], rfl, rfl, rfl⟩)
    | (obtain ⟨vs, rfl, h⟩ := h; exact ⟨_, [], rfl, ⟨vs, rfl, h⟩, rfl⟩)
    | (obtain ⟨a, b, c, rfl, h⟩ := h; exact ⟨_, [], rfl, ⟨a, b, c, rfl, h⟩, rfl⟩)
    | (obtain ⟨a, b, rfl, h⟩ := h; exact ⟨_, [], rfl, ⟨a, b, rfl, h⟩, rfl⟩)

theorem VA_cells {g : Gh} {v : AV} {x : Value} (h : VA g v x) (hk : v.known = true) : VAs g v.cells x.cells.toList := by
  cases v <;> simp only [VA] at h
  case bot => simp [AV.known] at hk
  case pv p => exact VAs_pv (VP_cells h)
  case agg cs => obtain ⟨vs, rfl, _, h⟩ := h; simpa [AV.cells, Value.cells] using h
  case tup => simp [AV.known] at hk
  case ful sz es => obtain ⟨h, a, n, rfl⟩ := h; simp only [AV.cells, VAs, VA]; exact ⟨_, [], rfl, ⟨h, a, n, rfl⟩, rfl⟩
  case own b k sz es =>
    obtain ⟨h, ht⟩ := h
    have hh := h
    simp only [VP] at h; obtain ⟨a, c, vs, rfl, _⟩ := h
    simp only [AV.cells, VAs, VA]; exact ⟨_, [], rfl, ⟨hh, ht⟩, rfl⟩
  all_goals
    simp only [AV.cells, VAs, VA]
  all_goals first
    | (obtain ⟨a, rfl⟩ := h; exact ⟨_, [], rfl, ⟨a, rfl⟩, rfl⟩)
    | (obtain ⟨a, h1, rfl⟩ := h; exact ⟨_, [], rfl, ⟨a, h1, rfl⟩, rfl⟩)
    | (obtain ⟨a, rfl, h⟩ := h; exact ⟨_, [], rfl, ⟨a, rfl, h⟩, rfl⟩)
    | (obtain ⟨a, b, rfl, h⟩ := h; exact ⟨_, [], rfl, ⟨a, b, rfl, h⟩, rfl⟩)
    | (obtain ⟨a, b, c, rfl, h⟩ := h; exact ⟨_, [], rfl, ⟨a, b, c, rfl, h⟩, rfl⟩)
    | (obtain ⟨a, b, b', h1, rfl, h⟩ := h; exact ⟨_, [], rfl, ⟨a, b, b', h1, rfl, h⟩, rfl⟩)
    | (obtain ⟨h0, a, b, c, rfl, h⟩ := h; exact ⟨_, [], rfl, ⟨h0, a, b, c, rfl, h⟩, rfl⟩)

theorem VP_one {g : Gh} {p : PV} {x : Value} (h : VP g p x) (hp : ∀ vs, p ≠ .tup vs) : One x.cells.toList := by
  cases p <;> simp only [VP] at h
  case agg cs => obtain ⟨vs, rfl, ho, h⟩ := h; simpa [Value.cells] using ho
  case tup vs => exact absurd rfl (hp vs)
  all_goals first
    | (subst h; intro v hv; simp [Value.cells] at hv; subst hv; rfl)
    | (obtain ⟨a, rfl, h⟩ := h; intro v hv; simp [Value.cells] at hv; subst hv; rfl)
    | (obtain ⟨a, b, rfl, h⟩ := h; intro v hv; simp [Value.cells] at hv; subst hv; rfl)
    | (obtain ⟨a, b, c, rfl, h⟩ := h; intro v hv; simp [Value.cells] at hv; subst hv; rfl)

theorem VA_one {g : Gh} {v : AV} {x : Value} (h : VA g v x) (hk : v.known = true) : One x.cells.toList := by
  cases v <;> simp only [VA] at h
  case bot => simp [AV.known] at hk
  case tup => simp [AV.known] at hk
  case pv p => exact VP_one h (fun vs e => by subst e; simp [AV.known] at hk)
  case agg cs => obtain ⟨vs, rfl, ho, h⟩ := h; simpa [Value.cells] using ho
  case ful sz es => exact VP_one h.1 (by simp)
  case own b k sz es => exact VP_one h.1 (by simp)
  all_goals first
    | (obtain ⟨a, rfl⟩ := h; intro v hv; simp [Value.cells] at hv; subst hv; rfl)
    | (obtain ⟨a, h1, rfl⟩ := h; intro v hv; simp [Value.cells] at hv; subst hv; rfl)
    | (obtain ⟨a, rfl, h⟩ := h; intro v hv; simp [Value.cells] at hv; subst hv; rfl)
    | (obtain ⟨a, b, rfl, h⟩ := h; intro v hv; simp [Value.cells] at hv; subst hv; rfl)
    | (obtain ⟨a, b, c, rfl, h⟩ := h; intro v hv; simp [Value.cells] at hv; subst hv; rfl)
    | (obtain ⟨a, b, b', h1, rfl, h⟩ := h; intro v hv; simp [Value.cells] at hv; subst hv; rfl)
    | (obtain ⟨h0, a, b, c, rfl, h⟩ := h; intro v hv; simp [Value.cells] at hv; subst hv; rfl)

/-! ### More is known: what was told stays true -/

structure Mem (g g' : Gh) : Prop where
  mu : ∀ b o v, g.mu b o = some v → g'.mu b o = some v
  nu : ∀ r es, g.nu r = some es → g'.nu r = some es

theorem Mem.refl (g : Gh) : Mem g g := ⟨fun _ _ _ h => h, fun _ _ h => h⟩
theorem Mem.trans {a b c : Gh} (h : Mem a b) (k : Mem b c) : Mem a c := ⟨fun x o v e => k.mu x o v (h.mu x o v e), fun r es e => k.nu r es (h.nu r es e)⟩

theorem Holds.mono {g g' : Gh} (m : Mem g g') {b o : Nat} {cs : List Value} (h : Holds g.mu b o cs) : Holds g'.mu b o cs := fun i v e => m.mu _ _ _ (h i v e)
theorem Lies.mono {g g' : Gh} (m : Mem g g') {sz : Nat} {a : Option Addr} {vs : List Value} (h : Lies g sz a vs) : Lies g' sz a vs :=
  ⟨h.1, h.2.imp id fun ⟨b, o, e, hh⟩ => ⟨b, o, e, hh.mono m⟩⟩

mutual
theorem VP.mono {g g' : Gh} (m : Mem g g') : ∀ {p : PV} {v : Value}, VP g p v → VP g' p v
  | .int _ _, _, h | .bool _, _, h | .str _, _, h | .nilp, _, h | .nilf, _, h | .fn _, _, h | .nili, _, h | .nilm, _, h => by simpa only [VP] using h
  | .agg cs, v, h => by simp only [VP] at h ⊢; obtain ⟨vs, e, ho, h⟩ := h; exact ⟨vs, e, ho, VPs.mono m h⟩
  | .tup cs, v, h => by simp only [VP] at h ⊢; obtain ⟨vs, e, h⟩ := h; exact ⟨vs, e, VPs.mono m h⟩
  | .lst sz es, v, h => by simp only [VP] at h ⊢; obtain ⟨a, c, vs, e, hl, h, l⟩ := h; exact ⟨a, c, vs, e, hl, VPs.mono m h, l.mono m⟩
  | .iface t x, v, h => by simp only [VP] at h ⊢; obtain ⟨y, e, h⟩ := h; exact ⟨y, e, VP.mono m h⟩
  | .map ks xs, v, h => by simp only [VP] at h ⊢; obtain ⟨r, es, e, hn, h1, h2⟩ := h; exact ⟨r, es, e, m.nu _ _ hn, VPs.mono m h1, VPs.mono m h2⟩
theorem VPs.mono {g g' : Gh} (m : Mem g g') : ∀ {ps : List PV} {vs : List Value}, VPs g ps vs → VPs g' ps vs
  | [], vs, h => by simpa only [VPs] using h
  | p :: ps, vs, h => by simp only [VPs] at h ⊢; obtain ⟨v, r, e, hv, h⟩ := h; exact ⟨v, r, e, VP.mono m hv, VPs.mono m h⟩
end

/-- More is known, below block n. -/
structure Mor (n : Nat) (g g' : Gh) : Prop extends Mem g g' where
  io : ∀ b c, b < n → g.io b = some c → g'.io b = some c
  tk : ∀ b k v, b < n → g.tk b k = some v → g'.tk b k = some v

mutual
theorem VA.mono {n : Nat} {g g' : Gh} (m : Mor n g g') : ∀ {v : AV} {x : Value}, v.under n = true → VA g v x → VA g' v x
  | .bot, _, _, _ => by simp [VA]
  | .ubool, _, _, h => by simpa only [VA] using h
  | .pv p, _, _, h => by simp only [VA] at h ⊢; exact h.mono m.toMem
  | .ful _ _, _, _, h => by simp only [VA] at h ⊢; exact ⟨h.1.mono m.toMem, h.2⟩
  | .own b k sz es, _, hu, h => by simp only [VA] at h ⊢; simp only [AV.under, decide_eq_true_eq] at hu; exact ⟨h.1.mono m.toMem, m.tk _ _ _ hu h.2⟩
  | .ptr b o, _, hu, h => by simp only [VA] at h ⊢; simp only [AV.under, decide_eq_true_eq] at hu; obtain ⟨c, hc, e⟩ := h; exact ⟨c, m.io _ _ hu hc, e⟩
  | .map b, _, hu, h => by simp only [VA] at h ⊢; simp only [AV.under, decide_eq_true_eq] at hu; obtain ⟨c, hc, e⟩ := h; exact ⟨c, m.io _ _ hu hc, e⟩
  | .msl b _ _ _ _ _, _, hu, h => by simp only [VA] at h ⊢; simp only [AV.under, decide_eq_true_eq] at hu; obtain ⟨c, d, d', hc, e⟩ := h; exact ⟨c, d, d', m.io _ _ hu hc, e⟩
  | .rad cs, _, hu, h => by simp only [VA] at h ⊢; simp only [AV.under] at hu; obtain ⟨b, o, vs, e, ho, h, hh⟩ := h; exact ⟨b, o, vs, e, ho, VAs.mono m hu h, hh.mono m.toMem⟩
  | .agg cs, _, hu, h => by simp only [VA] at h ⊢; simp only [AV.under] at hu; obtain ⟨vs, e, ho, h⟩ := h; exact ⟨vs, e, ho, VAs.mono m hu h⟩
  | .tup cs, _, hu, h => by simp only [VA] at h ⊢; simp only [AV.under] at hu; obtain ⟨vs, e, h⟩ := h; exact ⟨vs, e, VAs.mono m hu h⟩
  | .lst sz es, _, hu, h => by simp only [VA] at h ⊢; simp only [AV.under] at hu; obtain ⟨hk, a, c, vs, e, hl, h, l⟩ := h; exact ⟨hk, a, c, vs, e, hl, VAs.mono m hu h, l.mono m.toMem⟩
  | .fn f p q, _, hu, h => by
    simp only [VA] at h ⊢; simp only [AV.under, Bool.and_eq_true] at hu; obtain ⟨ps, qs, e, h1, h2⟩ := h; exact ⟨ps, qs, e, VAs.mono m hu.1 h1, VAs.mono m hu.2 h2⟩
  | .fnm f x, _, hu, h => by simp only [VA] at h ⊢; simp only [AV.under] at hu; obtain ⟨y, e, h⟩ := h; exact ⟨y, e, VA.mono m hu h⟩
  | .iface t x, _, hu, h => by simp only [VA] at h ⊢; simp only [AV.under] at hu; obtain ⟨y, e, h⟩ := h; exact ⟨y, e, VA.mono m hu h⟩
theorem VAs.mono {n : Nat} {g g' : Gh} (m : Mor n g g') : ∀ {vs : List AV} {xs : List Value}, AV.unders n vs = true → VAs g vs xs → VAs g' vs xs
  | [], _, _, h => by simpa only [VAs] using h
  | v :: vs, xs, hu, h => by
    simp only [VAs] at h ⊢; simp only [AV.unders, Bool.and_eq_true] at hu; obtain ⟨x, r, e, hx, h⟩ := h; exact ⟨x, r, e, VA.mono m hu.1 hx, VAs.mono m hu.2 h⟩
end

/-- The ghosts know of blocks below n alone. -/
structure Gh.lt (g : Gh) (n : Nat) : Prop where
  io : ∀ b c, g.io b = some c → b < n
  tk : ∀ b k v, g.tk b k = some v → b < n

mutual
theorem VA.under {n : Nat} {g : Gh} (hn : g.lt n) : ∀ {v : AV} {x : Value}, VA g v x → v.under n = true
  | .bot, _, _ | .pv _, _, _ | .ful _ _, _, _ | .ubool, _, _ => by simp [AV.under]
  | .own b k sz es, _, h => by simp only [VA] at h; simp only [AV.under, decide_eq_true_eq]; exact hn.tk _ _ _ h.2
  | .ptr b o, _, h => by simp only [VA] at h; simp only [AV.under, decide_eq_true_eq]; obtain ⟨c, hc, _⟩ := h; exact hn.io _ _ hc
  | .map b, _, h => by simp only [VA] at h; simp only [AV.under, decide_eq_true_eq]; obtain ⟨c, hc, _⟩ := h; exact hn.io _ _ hc
  | .msl b _ _ _ _ _, _, h => by simp only [VA] at h; simp only [AV.under, decide_eq_true_eq]; obtain ⟨c, _, _, hc, _⟩ := h; exact hn.io _ _ hc
  | .rad cs, _, h => by simp only [VA] at h; simp only [AV.under]; obtain ⟨_, _, _, _, _, h, _⟩ := h; exact VAs.under hn h
  | .agg cs, _, h => by simp only [VA] at h; simp only [AV.under]; obtain ⟨_, _, _, h⟩ := h; exact VAs.under hn h
  | .tup cs, _, h => by simp only [VA] at h; simp only [AV.under]; obtain ⟨_, _, h⟩ := h; exact VAs.under hn h
  | .lst sz es, _, h => by simp only [VA] at h; simp only [AV.under]; obtain ⟨_, _, _, _, _, _, h, _⟩ := h; exact VAs.under hn h
  | .fn f p q, _, h => by simp only [VA] at h; simp only [AV.under, Bool.and_eq_true]; obtain ⟨_, _, _, h1, h2⟩ := h; exact ⟨VAs.under hn h1, VAs.under hn h2⟩
  | .fnm f x, _, h => by simp only [VA] at h; simp only [AV.under]; obtain ⟨_, _, h⟩ := h; exact VA.under hn h
  | .iface t x, _, h => by simp only [VA] at h; simp only [AV.under]; obtain ⟨_, _, h⟩ := h; exact VA.under hn h
theorem VAs.under {n : Nat} {g : Gh} (hn : g.lt n) : ∀ {vs : List AV} {xs : List Value}, VAs g vs xs → AV.unders n vs = true
  | [], _, _ => by simp [AV.unders]
  | v :: vs, xs, h => by simp only [VAs] at h; simp only [AV.unders, Bool.and_eq_true]; obtain ⟨_, _, _, hx, h⟩ := h; exact ⟨VA.under hn hx, VAs.under hn h⟩
end

mutual
theorem AV.under_mono {n m : Nat} (h : n ≤ m) : ∀ {v : AV}, v.under n = true → v.under m = true
  | .bot, _ | .pv _, _ | .ful _ _, _ | .ubool, _ => by simp [AV.under]
  | .own _ _ _ _, hu | .ptr _ _, hu | .map _, hu | .msl _ _ _ _ _ _, hu => by simp only [AV.under, decide_eq_true_eq] at hu ⊢; omega
  | .rad _, hu | .agg _, hu | .tup _, hu | .lst _ _, hu => by simp only [AV.under] at hu ⊢; exact AV.unders_mono h hu
  | .fn _ _ _, hu => by simp only [AV.under, Bool.and_eq_true] at hu ⊢; exact ⟨AV.unders_mono h hu.1, AV.unders_mono h hu.2⟩
  | .fnm _ _, hu | .iface _ _, hu => by simp only [AV.under] at hu ⊢; exact AV.under_mono h hu
theorem AV.unders_mono {n m : Nat} (h : n ≤ m) : ∀ {vs : List AV}, AV.unders n vs = true → AV.unders m vs = true
  | [], _ => by simp [AV.unders]
  | v :: vs, hu => by simp only [AV.unders, Bool.and_eq_true] at hu ⊢; exact ⟨AV.under_mono h hu.1, AV.unders_mono h hu.2⟩
end

end Go.Pu
