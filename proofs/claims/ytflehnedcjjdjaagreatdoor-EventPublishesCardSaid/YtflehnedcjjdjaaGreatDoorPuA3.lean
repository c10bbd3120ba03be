/-
  The evaluator's heap against the model's memory, and how operations on memory run.
-/
import Derived.Test.YtflehnedcjjdjaaGreatDoorPuA2
set_option linter.unusedSimpArgs false
set_option linter.unusedVariables false
namespace Go.Pu

/-! ### Memory, block by block -/

def _root_.Go.World.withBlk (w : World) (c : Nat) (o : Obj) : World := { w with heap := w.heap.setIfInBounds c o }

theorem withBlk_size (w : World) (c : Nat) (o : Obj) : (w.withBlk c o).heap.size = w.heap.size := by simp [World.withBlk]
theorem withBlk_ne (w : World) {c d : Nat} (o : Obj) (h : d ≠ c) : (w.withBlk c o).heap[d]? = w.heap[d]? := by
  simp [World.withBlk, Ne.symm h]
theorem withBlk_eq (w : World) {c : Nat} (o : Obj) (h : c < w.heap.size) : (w.withBlk c o).heap[c]? = some o := by
  simp [World.withBlk, h]
theorem withBlk_withBlk (w : World) (c : Nat) (o p : Obj) : (w.withBlk c o).withBlk c p = w.withBlk c p := by
  simp only [World.withBlk]; congr 1
  apply Array.ext_getElem?; intro i
  simp only [Array.getElem?_setIfInBounds, Array.size_setIfInBounds]; split <;> simp_all

theorem alloc_new (w : World) (o : Obj) : (w.alloc o).heap[w.heap.size]? = some o := by show (w.heap.push o)[w.heap.size]? = _; simp
theorem alloc_old (w : World) (o : Obj) {c : Nat} (h : c < w.heap.size) : (w.alloc o).heap[c]? = w.heap[c]? := by
  show (w.heap.push o)[c]? = _; rw [Array.getElem?_push, if_neg (by omega)]
theorem alloc_size (w : World) (o : Obj) : (w.alloc o).heap.size = w.heap.size + 1 := by show (w.heap.push o).size = _; simp

theorem cell_of {w : World} {c o : Nat} {cs : List Value} {t : TypeId} {fr : Nat × Nat} (h : w.heap[c]? = some (.cells cs.toArray t fr)) : w.cell? ⟨c, o, none⟩ = cs[o]? := by
  simp [World.cell?, h]

theorem cell_congr {w w' : World} {c : Nat} (h : w'.heap[c]? = w.heap[c]?) (o : Nat) : w'.cell? ⟨c, o, none⟩ = w.cell? ⟨c, o, none⟩ := by
  simp [World.cell?, h]

theorem frozen_of {w : World} {c o : Nat} {cs : List Value} {t : TypeId} (h : w.heap[c]? = some (.cells cs.toArray t (0, 0))) : w.frozen? ⟨c, o, none⟩ = false := by
  simp [World.frozen?, h]

def putL (cs : List Value) (o : Nat) (vs : List Value) : List Value := cs.take o ++ vs ++ cs.drop (o + vs.length)

theorem putL_nil (cs : List Value) (o : Nat) : putL cs o [] = cs := by simp [putL]
theorem putL_length {cs vs : List Value} {o : Nat} (h : o + vs.length ≤ cs.length) : (putL cs o vs).length = cs.length := by
  simp [putL]; omega
theorem putL_cons {cs vs : List Value} {o : Nat} {v : Value} (h : o + (vs.length + 1) ≤ cs.length) : putL (cs.set o v) (o + 1) vs = putL cs o (v :: vs) := by
  apply List.ext_getElem?; intro i
  simp only [putL, List.getElem?_append, List.length_append, List.length_take, List.length_set, List.getElem?_take, List.getElem?_drop, List.getElem?_set, List.length_cons]
  rcases Nat.lt_trichotomy i o with hi | hi | hi
  · have a1 : i < min (o + 1) cs.length + vs.length := by omega
    have a2 : i < min (o + 1) cs.length := by omega
    have a3 : i < min o cs.length + (vs.length + 1) := by omega
    have a4 : i < min o cs.length := by omega
    have a5 : i < o + 1 := by omega
    have a6 : ¬ o = i := by omega
    simp [a1, a2, a3, a4, a5, a6, hi]
  · subst hi
    have a1 : i < min (i + 1) cs.length + vs.length := by omega
    have a2 : i < min (i + 1) cs.length := by omega
    have a3 : i < min i cs.length + (vs.length + 1) := by omega
    have a4 : ¬ i < min i cs.length := by omega
    have a7 : i - min i cs.length = 0 := by omega
    have a8 : i < cs.length := by omega
    simp [a1, a2, a3, a7, a8]; omega
  · by_cases hj : i < o + 1 + vs.length
    · have a1 : i < min (o + 1) cs.length + vs.length := by omega
      have a2 : ¬ i < min (o + 1) cs.length := by omega
      have a3 : i < min o cs.length + (vs.length + 1) := by omega
      have a4 : ¬ i < min o cs.length := by omega
      have a5 : i - min o cs.length = (i - min (o + 1) cs.length) + 1 := by omega
      simp [a1, a2, a3, a4, a5]
    · have a1 : ¬ i < min (o + 1) cs.length + vs.length := by omega
      have a3 : ¬ i < min o cs.length + (vs.length + 1) := by omega
      have a5 : o + 1 + vs.length + (i - (min (o + 1) cs.length + vs.length)) = i := by omega
      have a6 : o + (vs.length + 1) + (i - (min o cs.length + (vs.length + 1))) = i := by omega
      have a7 : ¬ o = i := by omega
      simp [a1, a3, a5, a6, a7]

theorem setCell_blk {w : World} {c o : Nat} {cs : List Value} {t : TypeId} {fr : Nat × Nat} (h : w.heap[c]? = some (.cells cs.toArray t fr)) (v : Value) :
    w.setCell ⟨c, o, none⟩ v = w.withBlk c (.cells (cs.set o v).toArray t fr) := by
  have hc : c < w.heap.size := by
    rcases Nat.lt_or_ge c w.heap.size with h1 | h1
    · exact h1
    · simp [Array.getElem?_eq_none h1] at h
  simp only [World.setCell, World.withBlk]; congr 1
  apply Array.ext_getElem?; intro i
  simp only [Array.getElem?_modify, Array.getElem?_setIfInBounds]
  by_cases e : c = i
  · subst e; rw [if_pos rfl, if_pos rfl, h, if_pos hc]; simp
  · simp [e]

theorem addr_add (c o i : Nat) : (⟨c, o, none⟩ : Addr).add i = ⟨c, o + i, none⟩ := by
  unfold Addr.add; split
  · subst_vars; rfl
  · rfl

theorem run_storeCells (P : Program) : ∀ (vs : List Value) (w : World) (c : Nat) (t : TypeId) (cs : List Value) (o i : Nat),
    w.heap[c]? = some (.cells cs.toArray t (0, 0)) → One vs → o + i + vs.length ≤ cs.length →
    (storeCells ⟨c, o, none⟩ vs i).run P w = .ok () (w.withBlk c (.cells (putL cs (o + i) vs).toArray t (0, 0)))
  | [], w, c, t, cs, o, i, h, _, _ => by
    simp only [storeCells, Sem.run_pure, putL_nil]
    congr 1
    have hc : c < w.heap.size := by
      rcases Nat.lt_or_ge c w.heap.size with h1 | h1
      · exact h1
      · simp [Array.getElem?_eq_none h1] at h
    simp only [World.withBlk]
    have : w.heap.setIfInBounds c (.cells cs.toArray t (0, 0)) = w.heap := by
      apply Array.ext_getElem?; intro j
      simp only [Array.getElem?_setIfInBounds]
      by_cases e : c = j
      · subst e; rw [if_pos rfl, if_pos hc, h]
      · simp [e]
    rw [this]
  | v :: vs, w, c, t, cs, o, i, h, ho, hl => by
    have hv : v.oneCell' = true := ho v (by simp)
    have hc : c < w.heap.size := by
      rcases Nat.lt_or_ge c w.heap.size with h1 | h1
      · exact h1
      · simp [Array.getElem?_eq_none h1] at h
    simp only [List.length_cons] at hl
    have hcell : w.cell? ⟨c, o + i, none⟩ = some (cs[o + i]'(by omega)) := by rw [cell_of h]; exact List.getElem?_eq_getElem (by omega)
    simp only [storeCells, Sem.run_bind, addr_add, run_store P w _ v _ hv, hcell, frozen_of h, Bool.false_eq_true, if_false, Result.andThen_ok]
    rw [setCell_blk h]
    rw [run_storeCells P vs _ c t (cs.set (o + i) v) o (i + 1) (withBlk_eq _ _ hc) (fun u hu => ho u (by simp [hu])) (by simp; omega)]
    rw [withBlk_withBlk]
    have : o + (i + 1) = o + i + 1 := by omega
    rw [this, putL_cons (by omega)]

theorem run_loadCellsFrom (P : Program) (w : World) (c o : Nat) : ∀ (vs : List Value) (i : Nat) (acc : Array Value),
    (∀ j v, vs[j]? = some v → w.cell? ⟨c, o + (i + j), none⟩ = some v) →
    (loadCellsFrom ⟨c, o, none⟩ i vs.length acc).run P w = .ok (acc ++ vs.toArray) w
  | [], i, acc, _ => by simp [loadCellsFrom]
  | v :: vs, i, acc, h => by
    have h0 := h 0 v (by simp)
    simp only [Nat.add_zero] at h0
    simp only [List.length_cons, loadCellsFrom, Sem.run_bind, addr_add, run_load, h0, Result.andThen_ok]
    rw [run_loadCellsFrom P w c o vs (i + 1) (acc.push v) (fun j u hj => by
      have := h (j + 1) u (by simpa using hj)
      rw [← this]; congr 2; omega)]
    simp

theorem run_loadCells (P : Program) (w : World) (c o : Nat) (vs : List Value) (h : ∀ j v, vs[j]? = some v → w.cell? ⟨c, o + j, none⟩ = some v) :
    (loadCells ⟨c, o, none⟩ vs.length).run P w = .ok vs.toArray w := by
  unfold loadCells
  rw [run_loadCellsFrom P w c o vs 0 #[] (fun j v hj => by simpa using h j v hj)]
  simp

/-! ### The heap of the evaluator -/

def BlkOk (g : Gh) (w : World) (b : Nat) : Blk → Prop
  | .cells cs => ∃ c t vs ex, g.io b = some c ∧ w.heap[c]? = some (.cells (vs ++ ex : List Value).toArray t (0, 0)) ∧ One (vs ++ ex) ∧ VAs g cs vs ∧ ∀ o, g.mu c o = none
  | .tok k => ∃ a len cap sz, g.tk b k = some (.slice a len cap, sz) ∧ (cap = len ∨ ∃ c t vs, g.ow b = some c ∧ a = some ⟨c, 0, none⟩ ∧
      w.heap[c]? = some (.cells (vs : List Value).toArray t (0, 0)) ∧ One vs ∧ vs.length = cap * sz ∧ len ≤ cap ∧ 0 < sz ∧ ∀ o, len * sz ≤ o → g.mu c o = none)
  | .sit rest pos => ∃ c s, g.io b = some c ∧ w.heap[c]? = some (.stringIter s pos) ∧ s.data.toList.drop pos = rest
  | .map ks vs => ∃ c es clk, g.io b = some c ∧ w.heap[c]? = some (.map es clk) ∧ VPs g ks (es.toList.map (·.key)) ∧ VAs g vs (es.toList.map (·.val)) ∧ g.nu c = none
  | .dead => g.io b = none

structure Rel (g : Gh) (H : Hp) (w : World) : Prop where
  mu : ∀ b o v, g.mu b o = some v → w.cell? ⟨b, o, none⟩ = some v
  nu : ∀ r es, g.nu r = some es → ∃ clk, w.heap[r]? = some (.map es clk)
  io : ∀ b c, g.io b = some c → b < H.length ∧ c < w.heap.size
  ow : ∀ b c, g.ow b = some c → b < H.length ∧ c < w.heap.size
  tk : ∀ b k v, g.tk b k = some v → b < H.length ∧ ∃ n, H[b]? = some (.tok n) ∧ k ≤ n
  inj : ∀ b b' c, g.io b = some c → g.io b' = some c → b = b'
  inj' : ∀ b b' c, g.ow b = some c → g.ow b' = some c → b = b'
  dis : ∀ b b' c, g.io b = some c → g.ow b' ≠ some c
  blk : ∀ b k, H[b]? = some k → BlkOk g w b k

theorem Rel.lt {g : Gh} {H : Hp} {w : World} (h : Rel g H w) : g.lt H.length := ⟨fun b c e => (h.io b c e).1, fun b k v e => (h.tk b k v e).1⟩

/-- What a step from world w to w' has left alone: n: how many blocks of the evaluator's there were. -/
structure Ext (n : Nat) (g : Gh) (w : World) (g' : Gh) (w' : World) : Prop where
  mem : Mem g g'
  io : ∀ b, b < n → g'.io b = g.io b
  tk : ∀ b k v, b < n → g.tk b k = some v → g'.tk b k = some v
  frame : ∀ c, c < w.heap.size → (∀ b, g.io b ≠ some c) → (∀ b, g.ow b ≠ some c) → w'.heap[c]? = w.heap[c]?
  imgI : ∀ c b, c < w.heap.size → g'.io b = some c → ∃ b, g.io b = some c
  imgO : ∀ c b, c < w.heap.size → g'.ow b = some c → ∃ b, g.ow b = some c
  muN : ∀ c o v, g'.mu c o = some v → g.mu c o = some v ∨ w.heap.size ≤ c ∨ ∃ b, g.ow b = some c
  nuN : ∀ c es, g'.nu c = some es → g.nu c = some es ∨ w.heap.size ≤ c
  size : w.heap.size ≤ w'.heap.size
  os : w'.os = w.os
  tape : w'.tape = w.tape
  output : w'.output = w.output

theorem Ext.refl (n : Nat) (g : Gh) (w : World) : Ext n g w g w :=
  ⟨Mem.refl g, fun _ _ => rfl, fun _ _ _ _ h => h, fun _ _ _ _ => rfl, fun _ b _ h => ⟨b, h⟩, fun _ b _ h => ⟨b, h⟩, fun _ _ _ h => .inl h, fun _ _ h => .inl h, Nat.le_refl _, rfl, rfl, rfl⟩

theorem Ext.trans {n m : Nat} {g g1 g2 : Gh} {w w1 w2 : World} (h : Ext n g w g1 w1) (k : Ext m g1 w1 g2 w2) (hnm : n ≤ m) : Ext n g w g2 w2 where
  mem := h.mem.trans k.mem
  io b hb := (k.io b (by omega)).trans (h.io b hb)
  tk b x v hb e := k.tk b x v (by omega) (h.tk b x v hb e)
  frame c hc hi ho := by
    rw [k.frame c (Nat.lt_of_lt_of_le hc h.size), h.frame c hc hi ho]
    · intro b e
      obtain ⟨b', hb⟩ := h.imgI c b hc e
      exact hi b' hb
    · intro b e
      obtain ⟨b', hb⟩ := h.imgO c b hc e
      exact ho b' hb
  imgI c b hc e := by
    obtain ⟨b', hb⟩ := k.imgI c b (Nat.lt_of_lt_of_le hc h.size) e
    exact h.imgI c b' hc hb
  imgO c b hc e := by
    obtain ⟨b', hb⟩ := k.imgO c b (Nat.lt_of_lt_of_le hc h.size) e
    exact h.imgO c b' hc hb
  muN c o v e := by
    rcases k.muN c o v e with e | e | ⟨b, e⟩
    · exact h.muN c o v e
    · exact .inr (.inl (Nat.le_trans h.size e))
    · by_cases hc : c < w.heap.size
      · exact .inr (.inr (h.imgO c b hc e))
      · exact .inr (.inl (by omega))
  nuN c es e := by
    rcases k.nuN c es e with e | e
    · exact h.nuN c es e
    · exact .inr (Nat.le_trans h.size e)
  size := Nat.le_trans h.size k.size
  os := k.os.trans h.os
  tape := k.tape.trans h.tape
  output := k.output.trans h.output

theorem Ext.le {n m : Nat} {g g' : Gh} {w w' : World} (h : Ext n g w g' w') (k : m ≤ n) : Ext m g w g' w' :=
  ⟨h.mem, fun b hb => h.io b (by omega), fun b x v hb e => h.tk b x v (by omega) e, h.frame, h.imgI, h.imgO, h.muN, h.nuN, h.size, h.os, h.tape, h.output⟩

theorem Ext.mor {n : Nat} {g g' : Gh} {w w' : World} (h : Ext n g w g' w') : Mor n g g' :=
  { h.mem with io := fun b c hb e => (h.io b hb).trans e, tk := h.tk }

def Blk.under (n : Nat) : Blk → Bool
  | .cells cs => AV.unders n cs
  | .map _ vs => AV.unders n vs
  | _ => true

theorem Blk.under_mono {n m : Nat} (h : n ≤ m) {k : Blk} (hu : k.under n = true) : k.under m = true := by
  cases k <;> simp only [Blk.under] at hu ⊢
  · exact AV.unders_mono h hu
  · exact AV.unders_mono h hu

theorem BlkOk.under {g : Gh} {w : World} {b n : Nat} {k : Blk} (hn : g.lt n) (h : BlkOk g w b k) : k.under n = true := by
  cases k <;> simp only [BlkOk, Blk.under] at h ⊢
  · obtain ⟨c, t, vs, ex, _, _, _, h, _⟩ := h; exact VAs.under hn h
  · obtain ⟨c, es, clk, _, _, _, h, _⟩ := h; exact VAs.under hn h

theorem BlkOk.keep {g g' : Gh} {w w' : World} {b n : Nat} {k : Blk} (hm : Mor n g g') (hb : b < n) (hu : k.under n = true) (h : BlkOk g w b k)
    (hio : g'.io b = g.io b) (how : g'.ow b = g.ow b) (hh : ∀ c, g.io b = some c ∨ g.ow b = some c → w'.heap[c]? = w.heap[c]?)
    (hmu : ∀ c o, g.io b = some c ∨ g.ow b = some c → g'.mu c o = g.mu c o) (hnu : ∀ c, g.io b = some c → g'.nu c = g.nu c) : BlkOk g' w' b k := by
  cases k with
  | cells cs =>
    simp only [BlkOk, Blk.under] at h hu ⊢
    obtain ⟨c, t, vs, ex, h1, h2, h3, h4, h5⟩ := h
    exact ⟨c, t, vs, ex, hio.trans h1, (hh c (.inl h1)).trans h2, h3, VAs.mono hm hu h4, fun o => (hmu c o (.inl h1)).trans (h5 o)⟩
  | tok x =>
    simp only [BlkOk] at h ⊢
    obtain ⟨a, len, cap, sz, h1, h2⟩ := h
    refine ⟨a, len, cap, sz, hm.tk _ _ _ hb h1, h2.imp id ?_⟩
    rintro ⟨c, t, vs, k1, k2, k3, k4, k5, k6, k6', k7⟩
    exact ⟨c, t, vs, how.trans k1, k2, (hh c (.inr k1)).trans k3, k4, k5, k6, k6', fun o ho => (hmu c o (.inr k1)).trans (k7 o ho)⟩
  | sit rest pos =>
    simp only [BlkOk] at h ⊢
    obtain ⟨c, s, h1, h2, h3⟩ := h
    exact ⟨c, s, hio.trans h1, (hh c (.inl h1)).trans h2, h3⟩
  | map ks vs =>
    simp only [BlkOk, Blk.under] at h hu ⊢
    obtain ⟨c, es, clk, h1, h2, h3, h4, h5⟩ := h
    exact ⟨c, es, clk, hio.trans h1, (hh c (.inl h1)).trans h2, VPs.mono hm.toMem h3, VAs.mono hm hu h4, (hnu c h1).trans h5⟩
  | dead => simp only [BlkOk] at h ⊢; exact hio.trans h

theorem heap_lt {w : World} {c : Nat} {o : Obj} (h : w.heap[c]? = some o) : c < w.heap.size := by
  rcases Nat.lt_or_ge c w.heap.size with h1 | h1
  · exact h1
  · simp [Array.getElem?_eq_none h1] at h

/-- A block of memory that the evaluator has as block b is turned. -/
theorem Rel.set {g : Gh} {H : Hp} {w : World} (h : Rel g H w) {b c : Nat} {k k' : Blk} {o : Obj} (hb : H[b]? = some k) (hk : ∀ n, k ≠ .tok n) (hc : g.io b = some c)
    (hmu : ∀ o, g.mu c o = none) (hnu : g.nu c = none) (hn : BlkOk g (w.withBlk c o) b k') :
    Rel g (H.set b k') (w.withBlk c o) ∧ Ext H.length g w g (w.withBlk c o) := by
  have hbl : b < H.length := by
    rcases Nat.lt_or_ge b H.length with h1 | h1
    · exact h1
    · simp [List.getElem?_eq_none h1] at hb
  have hcs := (h.io b c hc).2
  refine ⟨?_, ?_⟩
  · constructor
    · intro d o v e
      have hd : d ≠ c := by rintro rfl; simp [hmu] at e
      rw [cell_congr (withBlk_ne w _ hd)]; exact h.mu d o v e
    · intro r es e
      have hd : r ≠ c := by rintro rfl; simp [hnu] at e
      obtain ⟨clk, hh⟩ := h.nu r es e
      exact ⟨clk, (withBlk_ne w _ hd).trans hh⟩
    · intro x y e; have := h.io x y e; simp [withBlk_size]; exact this
    · intro x y e; have := h.ow x y e; simp [withBlk_size]; exact this
    · intro x y v e
      obtain ⟨h1, n, h2, h3⟩ := h.tk x y v e
      refine ⟨by simpa using h1, n, ?_, h3⟩
      have : b ≠ x := by rintro rfl; rw [hb] at h2; exact hk n (Option.some.inj h2)
      rw [List.getElem?_set_ne this]; exact h2
    · exact h.inj
    · exact h.inj'
    · exact h.dis
    · intro x kx hx
      by_cases e : b = x
      · subst e; rw [List.getElem?_set_self hbl] at hx; cases hx; exact hn
      · rw [List.getElem?_set_ne e] at hx
        have hx' := h.blk x kx hx
        refine hx'.keep (n := H.length) (Ext.refl _ g w).mor ?_ (hx'.under h.lt) rfl rfl ?_ (fun _ _ _ => rfl) (fun _ _ => rfl)
        · rcases Nat.lt_or_ge x H.length with h1 | h1
          · exact h1
          · simp [List.getElem?_eq_none h1] at hx
        · rintro d (hd | hd)
          · refine withBlk_ne w _ ?_; rintro rfl; exact e (h.inj _ _ _ hc hd)
          · refine withBlk_ne w _ ?_; rintro rfl; exact h.dis _ _ _ hc hd
  · refine ⟨Mem.refl g, fun _ _ => rfl, fun _ _ _ _ e => e, ?_, fun _ b _ e => ⟨b, e⟩, fun _ b _ e => ⟨b, e⟩, fun _ _ _ e => .inl e, fun _ _ e => .inl e, by simp [withBlk_size], rfl, rfl, rfl⟩
    intro d hd hi ho
    refine withBlk_ne w _ ?_; rintro rfl; exact hi b hc

def Gh.addIo (g : Gh) (b c : Nat) : Gh := { g with io := fun x => if x = b then some c else g.io x }

theorem Gh.addIo_mor {g : Gh} {n b c : Nat} (h : n ≤ b) : Mor n g (g.addIo b c) :=
  { mu := fun _ _ _ e => e, nu := fun _ _ e => e, io := fun x y hx e => by simp [Gh.addIo, show x ≠ b by omega, e], tk := fun _ _ _ _ e => e }

/-- A new block of memory, told to the evaluator as a new block. -/
theorem Rel.new {g : Gh} {H : Hp} {w : World} (h : Rel g H w) {k : Blk} {o : Obj}
    (hn : BlkOk (g.addIo H.length w.heap.size) (w.alloc o) H.length k) :
    Rel (g.addIo H.length w.heap.size) (H ++ [k]) (w.alloc o) ∧ Ext H.length g w (g.addIo H.length w.heap.size) (w.alloc o) := by
  have hio : ∀ b c, (g.addIo H.length w.heap.size).io b = some c → (b = H.length ∧ c = w.heap.size) ∨ (b ≠ H.length ∧ g.io b = some c) := by
    intro b c e
    simp only [Gh.addIo] at e
    split at e
    · rename_i hb; cases e; exact .inl ⟨hb, rfl⟩
    · rename_i hb; exact .inr ⟨hb, e⟩
  refine ⟨?_, ?_⟩
  · constructor
    · intro d o v e
      have hd := h.mu d o v e
      have : d < w.heap.size := by
        rcases Nat.lt_or_ge d w.heap.size with h1 | h1
        · exact h1
        · simp [World.cell?, Array.getElem?_eq_none h1] at hd
      rw [cell_congr (alloc_old w _ this)]; exact hd
    · intro r es e
      obtain ⟨clk, hh⟩ := h.nu r es e
      exact ⟨clk, (alloc_old w _ (heap_lt hh)).trans hh⟩
    · intro x y e
      rw [alloc_size, List.length_append]; simp only [List.length_cons, List.length_nil]
      rcases hio x y e with ⟨rfl, rfl⟩ | ⟨_, e⟩
      · omega
      · have := h.io x y e; omega
    · intro x y e; rw [alloc_size, List.length_append]; have := h.ow x y e; simp only [List.length_cons, List.length_nil]; omega
    · intro x y v e
      obtain ⟨h1, n, h2, h3⟩ := h.tk x y v e
      refine ⟨by simp; omega, n, ?_, h3⟩
      rw [List.getElem?_append_left h1]; exact h2
    · intro x y c e1 e2
      rcases hio x c e1 with ⟨rfl, rfl⟩ | ⟨_, e1⟩ <;> rcases hio y _ e2 with ⟨rfl, e⟩ | ⟨_, e2⟩
      · rfl
      · have := (h.io _ _ e2).2; omega
      · have := (h.io _ _ e1).2; omega
      · exact h.inj _ _ _ e1 e2
    · exact h.inj'
    · intro x y c e1 e2
      rcases hio x c e1 with ⟨rfl, rfl⟩ | ⟨_, e1⟩
      · have := (h.ow y _ e2).2; omega
      · exact h.dis _ _ _ e1 e2
    · intro x kx hx
      rcases Nat.lt_trichotomy x H.length with hl | hl | hl
      · rw [List.getElem?_append_left hl] at hx
        have hx' := h.blk x kx hx
        refine hx'.keep (n := H.length) (Gh.addIo_mor (Nat.le_refl _)) hl (hx'.under h.lt) (by simp [Gh.addIo, show x ≠ H.length by omega]) rfl ?_ (fun _ _ _ => rfl) (fun _ _ => rfl)
        rintro d (hd | hd)
        · exact alloc_old w _ (h.io _ _ hd).2
        · exact alloc_old w _ (h.ow _ _ hd).2
      · subst hl; simp at hx; subst hx; exact hn
      · rw [List.getElem?_eq_none (by simp; omega)] at hx; cases hx
  · refine ⟨⟨fun _ _ _ e => e, fun _ _ e => e⟩, fun b hb => by simp [Gh.addIo, show b ≠ H.length by omega], fun _ _ _ _ e => e, fun c hc _ _ => alloc_old w _ hc, ?_, fun _ b _ e => ⟨b, e⟩, fun _ _ _ e => .inl e, fun _ _ e => .inl e, by rw [alloc_size]; omega, rfl, rfl, rfl⟩
    intro c b hc e
    rcases hio b c e with ⟨_, rfl⟩ | ⟨_, e⟩
    · omega
    · exact ⟨b, e⟩

/-- The heap with a token's block turned, or new. -/
def setTok (H : Hp) (b k : Nat) : Hp := if b < H.length then H.set b (.tok k) else H ++ [.tok k]

theorem setTok_length {H : Hp} {b k : Nat} (h : b ≤ H.length) : H.length ≤ (setTok H b k).length ∧ b < (setTok H b k).length := by
  unfold setTok; split <;> simp <;> omega

theorem setTok_ne {H : Hp} {b k x : Nat} (hb : b ≤ H.length) (h : x ≠ b) : (setTok H b k)[x]? = H[x]? := by
  unfold setTok; split
  · rw [List.getElem?_set_ne (Ne.symm h)]
  · have : b = H.length := by omega
    subst this
    rcases Nat.lt_trichotomy x H.length with hl | hl | hl
    · rw [List.getElem?_append_left hl]
    · exact absurd hl h
    · rw [List.getElem?_eq_none (by simp; omega), List.getElem?_eq_none (by omega)]

theorem setTok_eq {H : Hp} {b k : Nat} (hb : b ≤ H.length) : (setTok H b k)[b]? = some (.tok k) := by
  unfold setTok; split
  · rename_i h; rw [List.getElem?_set_self h]
  · have : b = H.length := by omega
    subst this; simp

theorem Rel.tok {g g' : Gh} {H : Hp} {w w' : World} (h : Rel g H w) {b k' : Nat}
    (hb : (b = H.length ∧ k' = 0) ∨ ∃ k, H[b]? = some (.tok k) ∧ k' = k + 1)
    (hmem : Mem g g') (hio : g'.io = g.io) (how : ∀ x, x ≠ b → g'.ow x = g.ow x) (htk : ∀ x j, ¬(x = b ∧ j = k') → g'.tk x j = g.tk x j) (hnu : g'.nu = g.nu)
    (hob : ∀ c, g'.ow b = some c → g.ow b = some c ∨ (w.heap.size ≤ c ∧ c < w'.heap.size))
    (hheap : ∀ c, c < w.heap.size → g.ow b ≠ some c → w'.heap[c]? = w.heap[c]?)
    (hmap : ∀ c es clk, g.ow b = some c → w.heap[c]? = some (.map es clk) → w'.heap[c]? = some (.map es clk))
    (hmu : ∀ c o v, g'.mu c o = some v → w'.cell? ⟨c, o, none⟩ = some v)
    (hmuN : ∀ c o v, g'.mu c o = some v → g.mu c o = some v ∨ w.heap.size ≤ c ∨ g.ow b = some c)
    (hsz : w.heap.size ≤ w'.heap.size) (hos : w'.os = w.os) (htape : w'.tape = w.tape) (hout : w'.output = w.output)
    (hn : BlkOk g' w' b (.tok k')) : Rel g' (setTok H b k') w' ∧ Ext H.length g w g' w' := by
  have hbl : b ≤ H.length := by
    rcases hb with ⟨h1, _⟩ | ⟨k, h1, _⟩
    · omega
    · rcases Nat.lt_or_ge b H.length with h2 | h2
      · omega
      · simp [List.getElem?_eq_none h2] at h1
  have htk0 : g.tk b k' = none := by
    cases e : g.tk b k' with
    | none => rfl
    | some v =>
      obtain ⟨h1, n, h2, h3⟩ := h.tk b k' v e
      rcases hb with ⟨h4, _⟩ | ⟨k, h4, h5⟩
      · omega
      · rw [h4] at h2; cases h2; omega
  have hmono : ∀ x j v, g.tk x j = some v → g'.tk x j = some v := by
    intro x j v e
    rw [htk x j (by rintro ⟨rfl, rfl⟩; rw [htk0] at e; cases e)]; exact e
  have hmor : Mor H.length g g' := { hmem with io := fun x c _ e => by rw [hio]; exact e, tk := fun x j v _ e => hmono x j v e }
  refine ⟨?_, ?_⟩
  · constructor
    · exact hmu
    · intro r es e
      rw [hnu] at e
      obtain ⟨clk, hh⟩ := h.nu r es e
      refine ⟨clk, ?_⟩
      by_cases ho : g.ow b = some r
      · exact hmap r es clk ho hh
      · rw [hheap r (heap_lt hh) ho]; exact hh
    · intro x c e; rw [hio] at e; have := h.io x c e; have := setTok_length (k := k') hbl; omega
    · intro x c e
      have := setTok_length (k := k') hbl
      by_cases hx : x = b
      · subst hx
        rcases hob c e with e | e
        · have := h.ow x c e; omega
        · omega
      · rw [how x hx] at e; have := h.ow x c e; omega
    · intro x j v e
      have := setTok_length (k := k') hbl
      by_cases hx : x = b
      · subst hx
        refine ⟨by omega, k', setTok_eq hbl, ?_⟩
        by_cases hj : j = k'
        · omega
        · rw [htk x j (by rintro ⟨_, h2⟩; exact hj h2)] at e
          obtain ⟨h1, n, h2, h3⟩ := h.tk x j v e
          rcases hb with ⟨h4, _⟩ | ⟨k, h4, h5⟩
          · omega
          · rw [h4] at h2; cases h2; omega
      · rw [htk x j (by rintro ⟨h2, _⟩; exact hx h2)] at e
        obtain ⟨h1, n, h2, h3⟩ := h.tk x j v e
        exact ⟨by omega, n, by rw [setTok_ne hbl hx]; exact h2, h3⟩
    · rw [hio]; exact h.inj
    · intro x y c e1 e2
      by_cases hx : x = b <;> by_cases hy : y = b
      · rw [hx, hy]
      · subst hx; rw [how y hy] at e2
        rcases hob c e1 with e | e
        · exact h.inj' _ _ _ e e2
        · have := (h.ow y c e2).2; omega
      · subst hy; rw [how x hx] at e1
        rcases hob c e2 with e | e
        · exact h.inj' _ _ _ e1 e
        · have := (h.ow x c e1).2; omega
      · rw [how x hx] at e1; rw [how y hy] at e2; exact h.inj' _ _ _ e1 e2
    · intro x y c e1 e2
      rw [hio] at e1
      by_cases hy : y = b
      · subst hy
        rcases hob c e2 with e | e
        · exact h.dis _ _ _ e1 e
        · have := (h.io x c e1).2; omega
      · rw [how y hy] at e2; exact h.dis _ _ _ e1 e2
    · intro x kx hx
      by_cases e : x = b
      · subst e; rw [setTok_eq hbl] at hx; cases hx; exact hn
      · rw [setTok_ne hbl e] at hx
        have hx' := h.blk x kx hx
        have hxl : x < H.length := by
          rcases Nat.lt_or_ge x H.length with h1 | h1
          · exact h1
          · simp [List.getElem?_eq_none h1] at hx
        have hne : ∀ d, g.io x = some d ∨ g.ow x = some d → d < w.heap.size ∧ g.ow b ≠ some d := by
          rintro d (hd | hd)
          · exact ⟨(h.io _ _ hd).2, h.dis _ _ _ hd⟩
          · exact ⟨(h.ow _ _ hd).2, fun e2 => e (h.inj' _ _ _ hd e2)⟩
        refine hx'.keep hmor hxl (hx'.under h.lt) (by rw [hio]) (how x e) (fun d hd => hheap d (hne d hd).1 (hne d hd).2) ?_ (fun d hd => by rw [hnu])
        intro d o hd
        cases e1 : g.mu d o with
        | some v => exact hmem.mu _ _ _ e1
        | none =>
          cases e2 : g'.mu d o with
          | none => rfl
          | some v =>
            rcases hmuN d o v e2 with e3 | e3 | e3
            · rw [e1] at e3; cases e3
            · have := (hne d hd).1; omega
            · exact absurd e3 (hne d hd).2
  · refine ⟨hmem, fun x _ => by rw [hio], fun x j v _ e => hmono x j v e, fun c hc hi ho => hheap c hc (ho b), fun c x hc e => ⟨x, by rw [← hio]; exact e⟩, ?_, ?_, fun c es e => .inl (by rw [← hnu]; exact e), hsz, hos, htape, hout⟩
    · intro c x hc e
      by_cases hx : x = b
      · subst hx
        rcases hob c e with e | e
        · exact ⟨x, e⟩
        · omega
      · rw [how x hx] at e; exact ⟨x, e⟩
    · intro c o v e
      rcases hmuN c o v e with e | e | e
      · exact .inl e
      · exact .inr (.inl e)
      · exact .inr (.inr ⟨b, e⟩)

/-- A world that differs by draws alone. -/
theorem Rel.drawn {g : Gh} {H : Hp} {w w' : World} (h : Rel g H w) (hh : w'.heap = w.heap) (hos : w'.os = w.os) (htape : w'.tape = w.tape) (hout : w'.output = w.output) :
    Rel g H w' ∧ Ext H.length g w g w' := by
  refine ⟨?_, ⟨Mem.refl g, fun _ _ => rfl, fun _ _ _ _ e => e, fun c _ _ _ => by rw [hh], fun _ b _ e => ⟨b, e⟩, fun _ b _ e => ⟨b, e⟩, fun _ _ _ e => .inl e, fun _ _ e => .inl e, by rw [hh]; exact Nat.le_refl _, hos, htape, hout⟩⟩
  constructor
  · intro b o v e; rw [cell_congr (w := w) (by rw [hh])]; exact h.mu b o v e
  · intro r es e; rw [hh]; exact h.nu r es e
  · rw [hh]; exact h.io
  · rw [hh]; exact h.ow
  · exact h.tk
  · exact h.inj
  · exact h.inj'
  · exact h.dis
  · intro x kx hx
    have hx' := h.blk x kx hx
    have hxl : x < H.length := by
      rcases Nat.lt_or_ge x H.length with h1 | h1
      · exact h1
      · simp [List.getElem?_eq_none h1] at hx
    exact hx'.keep (n := H.length) (Ext.refl _ g w).mor hxl (hx'.under h.lt) rfl rfl (fun d _ => by rw [hh]) (fun _ _ _ => rfl) (fun _ _ => rfl)

/-- Blocks that wait. -/
theorem Rel.wait {g : Gh} {H : Hp} {w : World} (h : Rel g H w) (n : Nat) : Rel g (H ++ List.replicate n .dead) w := by
  constructor
  · exact h.mu
  · exact h.nu
  · intro b c e; have := h.io b c e; simp; omega
  · intro b c e; have := h.ow b c e; simp; omega
  · intro b k v e
    obtain ⟨h1, m, h2, h3⟩ := h.tk b k v e
    exact ⟨by simp; omega, m, by rw [List.getElem?_append_left h1]; exact h2, h3⟩
  · exact h.inj
  · exact h.inj'
  · exact h.dis
  · intro x kx hx
    rcases Nat.lt_or_ge x H.length with hl | hl
    · rw [List.getElem?_append_left hl] at hx; exact h.blk x kx hx
    · rw [List.getElem?_append_right hl, List.getElem?_replicate] at hx
      split at hx
      · cases hx
        cases e : g.io x with
        | none => exact e
        | some c => have := (h.io x c e).1; omega
      · cases hx

/-- A block that has waited gets its memory. -/
theorem Rel.fill {g : Gh} {H : Hp} {w : World} (h : Rel g H w) {b : Nat} {k : Blk} {o : Obj} (hb : H[b]? = some .dead)
    (hn : BlkOk (g.addIo b w.heap.size) (w.alloc o) b k) :
    Rel (g.addIo b w.heap.size) (H.set b k) (w.alloc o) ∧ Mor H.length g (g.addIo b w.heap.size) ∧
      (∀ x, x ≠ b → (g.addIo b w.heap.size).io x = g.io x) ∧ ∀ n, n ≤ b → Ext n g w (g.addIo b w.heap.size) (w.alloc o) := by
  have hbl : b < H.length := by
    rcases Nat.lt_or_ge b H.length with h1 | h1
    · exact h1
    · simp [List.getElem?_eq_none h1] at hb
  have hb0 : g.io b = none := by have := h.blk b _ hb; simpa only [BlkOk] using this
  have hio : ∀ x c, (g.addIo b w.heap.size).io x = some c → (x = b ∧ c = w.heap.size) ∨ (x ≠ b ∧ g.io x = some c) := by
    intro x c e
    simp only [Gh.addIo] at e
    split at e
    · rename_i hb; cases e; exact .inl ⟨hb, rfl⟩
    · rename_i hb; exact .inr ⟨hb, e⟩
  have hmor : Mor H.length g (g.addIo b w.heap.size) :=
    { mu := fun _ _ _ e => e, nu := fun _ _ e => e, tk := fun _ _ _ _ e => e
      io := fun x c _ e => by
        have : x ≠ b := by rintro rfl; rw [hb0] at e; cases e
        simp [Gh.addIo, this, e] }
  refine ⟨?_, hmor, fun x hx => by simp [Gh.addIo, hx], ?_⟩
  · constructor
    · intro d o v e
      have hd := h.mu d o v e
      have : d < w.heap.size := by
        rcases Nat.lt_or_ge d w.heap.size with h1 | h1
        · exact h1
        · simp [World.cell?, Array.getElem?_eq_none h1] at hd
      rw [cell_congr (alloc_old w _ this)]; exact hd
    · intro r es e
      obtain ⟨clk, hh⟩ := h.nu r es e
      exact ⟨clk, (alloc_old w _ (heap_lt hh)).trans hh⟩
    · intro x y e
      rw [alloc_size, List.length_set]
      rcases hio x y e with ⟨rfl, rfl⟩ | ⟨_, e⟩
      · omega
      · have := h.io x y e; omega
    · intro x y e; rw [alloc_size, List.length_set]; have := h.ow x y e; omega
    · intro x j v e
      obtain ⟨h1, n, h2, h3⟩ := h.tk x j v e
      refine ⟨by simpa using h1, n, ?_, h3⟩
      have : b ≠ x := by rintro rfl; rw [hb] at h2; cases h2
      rw [List.getElem?_set_ne this]; exact h2
    · intro x y c e1 e2
      rcases hio x c e1 with ⟨k1, k2⟩ | ⟨_, k2⟩ <;> rcases hio y c e2 with ⟨l1, l2⟩ | ⟨_, l2⟩
      · rw [k1, l1]
      · have := (h.io _ _ l2).2; omega
      · have := (h.io _ _ k2).2; omega
      · exact h.inj _ _ _ k2 l2
    · exact h.inj'
    · intro x y c e1 e2
      rcases hio x c e1 with ⟨rfl, rfl⟩ | ⟨_, e1⟩
      · have := (h.ow y _ e2).2; omega
      · exact h.dis _ _ _ e1 e2
    · intro x kx hx
      by_cases e : b = x
      · subst e; rw [List.getElem?_set_self hbl] at hx; cases hx; exact hn
      · rw [List.getElem?_set_ne e] at hx
        have hx' := h.blk x kx hx
        have hxl : x < H.length := by
          rcases Nat.lt_or_ge x H.length with h1 | h1
          · exact h1
          · simp [List.getElem?_eq_none h1] at hx
        refine hx'.keep (n := H.length) hmor hxl (hx'.under h.lt) (by simp [Gh.addIo, Ne.symm e]) rfl ?_ (fun _ _ _ => rfl) (fun _ _ => rfl)
        rintro d (hd | hd)
        · exact alloc_old w _ (h.io _ _ hd).2
        · exact alloc_old w _ (h.ow _ _ hd).2
  · intro n hn'
    refine ⟨⟨fun _ _ _ e => e, fun _ _ e => e⟩, fun x hx => by simp [Gh.addIo, show x ≠ b by omega], fun _ _ _ _ e => e, fun c hc _ _ => alloc_old w _ hc, ?_, fun _ b _ e => ⟨b, e⟩, fun _ _ _ e => .inl e, fun _ _ e => .inl e, by rw [alloc_size]; omega, rfl, rfl, rfl⟩
    intro c x hc e
    rcases hio x c e with ⟨_, rfl⟩ | ⟨_, e⟩
    · omega
    · exact ⟨x, e⟩

end Go.Pu
