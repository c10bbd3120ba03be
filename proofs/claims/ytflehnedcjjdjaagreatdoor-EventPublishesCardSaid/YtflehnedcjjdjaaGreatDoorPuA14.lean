/-
  Pure data out of what is in memory; calls on pure data, from the caller's side.
-/
import Derived.Test.YtflehnedcjjdjaaGreatDoorPuA10
set_option linter.unusedSimpArgs false
set_option linter.unusedVariables false
namespace Go.Pu

theorem one_cells {v : Value} (h : v.oneCell' = true) : v.cells.toList = [v] := by cases v <;> first | rfl | (simp [Value.oneCell'] at h)

def chunkV (sz : Nat) (ag : Bool) : Nat → List Value → List Value
  | 0, _ => []
  | n + 1, xs => (if ag then Value.agg (xs.take sz).toArray else match xs with | x :: _ => x | [] => .pointer none) :: chunkV sz ag n (xs.drop sz)

theorem chunk_ok {g : Gh} {sz : Nat} {ag : Bool} (h1 : ag = true ∨ sz = 1) : ∀ (n : Nat) {ps : List PV} {xs : List Value}, VPs g ps xs → One xs → ps.length = n * sz →
    VPs g (chunk sz ag n ps) (chunkV sz ag n xs) ∧ (∀ v ∈ chunkV sz ag n xs, v.cells.size = sz ∧ One v.cells.toList) ∧ flatC (chunkV sz ag n xs) = xs
  | 0, ps, xs, h, _, hl => by
    have : ps = [] := List.eq_nil_of_length_eq_zero (by simpa using hl)
    subst this
    simp only [VPs] at h; subst h
    simp [chunk, chunkV, VPs, flatC]
  | n + 1, ps, xs, h, ho, hl => by
    have hlx := VPs_length h
    rw [Nat.add_mul, Nat.one_mul] at hl
    obtain ⟨k1, k2, k3⟩ := chunk_ok h1 n (VPs_drop sz h) (ho.drop sz) (by rw [List.length_drop]; omega)
    simp only [chunk, chunkV, VPs]
    cases ag with
    | true =>
      simp only [if_true]
      refine ⟨⟨_, _, rfl, by simp only [VP]; exact ⟨_, rfl, ho.take sz, VPs_take sz h⟩, k1⟩, ?_, ?_⟩
      · intro v hv
        rcases List.mem_cons.1 hv with rfl | hv
        · refine ⟨?_, ?_⟩
          · simp [Value.cells]; omega
          · simpa [Value.cells] using ho.take sz
        · exact k2 v hv
      · simp only [flatC] at k3 ⊢
        rw [List.flatMap_cons, k3]
        simp [Value.cells]
    | false =>
      have hs : sz = 1 := h1.resolve_left (by simp)
      subst hs
      simp only [Bool.false_eq_true, if_false]
      rcases xs with _ | ⟨x, xs⟩
      · simp at hlx; omega
      rcases ps with _ | ⟨p, ps⟩
      · simp at hl
      simp only [VPs] at h
      obtain ⟨_, _, e, hp, hr⟩ := h
      cases e
      have hx : x.oneCell' = true := ho x (by simp)
      refine ⟨⟨_, _, rfl, hp, k1⟩, ?_, ?_⟩
      · intro v hv
        rcases List.mem_cons.1 hv with rfl | hv
        · have := one_cells hx
          refine ⟨by rw [← Array.length_toList, this]; rfl, by rw [this]; intro u hu; simp at hu; subst hu; exact hx⟩
        · exact k2 v hv
      · simp only [flatC, List.drop_succ_cons, List.drop_zero] at k3 ⊢
        rw [List.flatMap_cons, k3, one_cells hx]; rfl

theorem chunk_length (sz : Nat) (ag : Bool) : ∀ (n : Nat) (ps : List PV), (chunk sz ag n ps).length = n
  | 0, _ => rfl
  | n + 1, ps => by simp [chunk, chunk_length sz ag n]

mutual
theorem snap_plain {g : Gh} {H : Hp} : ∀ {v : AV} {x : Value} {p : PV}, VA g v x → snap H v = some (p, false) → VP g p x
  | .pv q, x, p, h, e => by simp only [snap, Option.some.injEq, Prod.mk.injEq] at e; obtain ⟨rfl, _⟩ := e; simpa only [VA] using h
  | .ful sz es, x, p, h, e => by simp only [snap, Option.some.injEq, Prod.mk.injEq] at e; obtain ⟨rfl, _⟩ := e; simp only [VA] at h; exact h.1
  | .own _ _ sz es, x, p, h, e => by simp only [snap, Option.some.injEq, Prod.mk.injEq] at e; obtain ⟨rfl, _⟩ := e; simp only [VA] at h; exact h.1
  | .msl b off len _ sz ag, x, p, h, e => by
    simp only [snap] at e
    split at e
    · split at e
      · obtain ⟨q, _, e2⟩ := Option.map_eq_some_iff.1 e; simp at e2
      · cases e
    · cases e
  | .agg cs, x, p, h, e => by
    simp only [snap] at e
    obtain ⟨q, h1, e2⟩ := Option.map_eq_some_iff.1 e
    simp only [Prod.mk.injEq] at e2
    obtain ⟨rfl, e3⟩ := e2
    simp only [VA] at h
    obtain ⟨vs, rfl, ho, hv⟩ := h
    obtain ⟨q1, q2⟩ := q
    simp only at e3; subst e3
    simp only [VP]; exact ⟨vs, rfl, ho, snaps_plain hv h1⟩
  | .tup cs, x, p, h, e => by
    simp only [snap] at e
    obtain ⟨q, h1, e2⟩ := Option.map_eq_some_iff.1 e
    simp only [Prod.mk.injEq] at e2
    obtain ⟨rfl, e3⟩ := e2
    simp only [VA] at h
    obtain ⟨vs, rfl, hv⟩ := h
    obtain ⟨q1, q2⟩ := q
    simp only at e3; subst e3
    simp only [VP]; exact ⟨vs, rfl, snaps_plain hv h1⟩
  | .bot, x, p, h, e | .ptr _ _, x, p, h, e | .rad _, x, p, h, e | .lst _ _, x, p, h, e | .fn _ _ _, x, p, h, e | .fnm _ _, x, p, h, e | .iface _ _, x, p, h, e | .map _, x, p, h, e | .ubool, x, p, h, e => by simp [snap] at e
theorem snaps_plain {g : Gh} {H : Hp} : ∀ {vs : List AV} {xs : List Value} {ps : List PV}, VAs g vs xs → snaps H vs = some (ps, false) → VPs g ps xs
  | [], xs, ps, h, e => by simp only [snaps, Option.some.injEq, Prod.mk.injEq] at e; obtain ⟨rfl, _⟩ := e; simpa [VAs, VPs] using h
  | v :: vs, xs, ps, h, e => by
    simp only [VAs] at h
    obtain ⟨x, r, rfl, hx, hr⟩ := h
    simp only [snaps] at e
    split at e
    · rename_i p q h1 h2
      simp only [Option.some.injEq, Prod.mk.injEq, Bool.or_eq_false_iff] at e
      obtain ⟨rfl, e1, e2⟩ := e
      obtain ⟨p1, p2⟩ := p; obtain ⟨q1, q2⟩ := q
      simp only at e1 e2; subst e1 e2
      simp only [VPs]; exact ⟨x, r, rfl, snap_plain hx h1, snaps_plain hr h2⟩
    · cases e
end

/-- All that the evaluator's blocks hold is told to be changed no more. -/
structure Frozen (g gF : Gh) (w : World) : Prop where
  mem : Mem g gF
  mu : ∀ b c, g.io b = some c → ∀ o v, w.cell? ⟨c, o, none⟩ = some v → gF.mu c o = some v
  nu : ∀ b c, g.io b = some c → ∀ es clk, w.heap[c]? = some (.map es clk) → gF.nu c = some es

mutual
theorem snap_froz {g gF : Gh} {H : Hp} {w : World} (R : Rel g H w) (F : Frozen g gF w) : ∀ {v : AV} {x : Value} {p : PV} {b : Bool}, VA g v x → snap H v = some (p, b) → VP gF p x
  | .pv q, x, p, _, h, e => by simp only [snap, Option.some.injEq, Prod.mk.injEq] at e; obtain ⟨rfl, _⟩ := e; simp only [VA] at h; exact h.mono F.mem
  | .ful sz es, x, p, _, h, e => by simp only [snap, Option.some.injEq, Prod.mk.injEq] at e; obtain ⟨rfl, _⟩ := e; simp only [VA] at h; exact h.1.mono F.mem
  | .own _ _ sz es, x, p, _, h, e => by simp only [snap, Option.some.injEq, Prod.mk.injEq] at e; obtain ⟨rfl, _⟩ := e; simp only [VA] at h; exact h.1.mono F.mem
  | .msl b off len cap sz ag, x, p, _, h, e => by
    simp only [snap] at e
    split at e
    · rename_i cs hb
      split at e
      · rename_i hc
        obtain ⟨ps, h1, e2⟩ := Option.map_eq_some_iff.1 e
        simp only [Prod.mk.injEq] at e2
        obtain ⟨rfl, _⟩ := e2
        simp only [VA] at h
        obtain ⟨c, a, cap', hio, rfl, hlc, hcc, ha⟩ := h
        have hB := R.blk b _ hb
        simp only [BlkOk] at hB
        obtain ⟨c', t, vs, ex, hio', hw, ho, hv, hmu⟩ := hB
        rw [hio] at hio'; cases hio'
        have hvl := VAs_length hv
        have hsub := VAs_take (len * sz) (VAs_drop off hv)
        have hps := (allPV_ok hsub h1)
        have hov : One vs := fun v hm => ho v (by simp [hm])
        have hps' : VPs gF ps ((vs.drop off).take (len * sz)) := VPs.mono F.mem hps
        have hpl : ps.length = len * sz := by
          rw [allPV_length h1, List.length_take, List.length_drop]; omega
        obtain ⟨k1, k2, k3⟩ := chunk_ok hc.2 len hps' ((hov.drop off).take _) hpl
        simp only [VP]
        refine ⟨a, cap', _, by rw [chunk_length], by rw [chunk_length]; omega, k1, k2, ?_⟩
        rcases ha with ha | rfl
        · left
          have : len = 0 := by omega
          subst this; rfl
        · right
          refine ⟨c, off, rfl, ?_⟩
          rw [k3]
          intro i v hi
          refine F.mu b c hio (off + i) v ?_
          rw [cell_of hw]
          rw [List.getElem?_take] at hi
          split at hi
          · rw [List.getElem?_drop] at hi
            rw [List.getElem?_append_left (by
              rcases Nat.lt_or_ge (off + i) vs.length with h3 | h3
              · exact h3
              · rw [List.getElem?_eq_none h3] at hi; cases hi)]
            exact hi
          · cases hi
      · cases e
    · cases e
  | .agg cs, x, p, _, h, e => by
    simp only [snap] at e
    obtain ⟨q, h1, e2⟩ := Option.map_eq_some_iff.1 e
    simp only [Prod.mk.injEq] at e2
    obtain ⟨rfl, e3⟩ := e2
    simp only [VA] at h
    obtain ⟨vs, rfl, ho, hv⟩ := h
    simp only [VP]; exact ⟨vs, rfl, ho, snaps_froz R F hv h1⟩
  | .tup cs, x, p, _, h, e => by
    simp only [snap] at e
    obtain ⟨q, h1, e2⟩ := Option.map_eq_some_iff.1 e
    simp only [Prod.mk.injEq] at e2
    obtain ⟨rfl, e3⟩ := e2
    simp only [VA] at h
    obtain ⟨vs, rfl, hv⟩ := h
    simp only [VP]; exact ⟨vs, rfl, snaps_froz R F hv h1⟩
  | .bot, x, p, _, h, e | .ptr _ _, x, p, _, h, e | .rad _, x, p, _, h, e | .lst _ _, x, p, _, h, e | .fn _ _ _, x, p, _, h, e | .fnm _ _, x, p, _, h, e | .iface _ _, x, p, _, h, e | .map _, x, p, _, h, e | .ubool, x, p, _, h, e => by simp [snap] at e
theorem snaps_froz {g gF : Gh} {H : Hp} {w : World} (R : Rel g H w) (F : Frozen g gF w) : ∀ {vs : List AV} {xs : List Value} {r : List PV × Bool}, VAs g vs xs → snaps H vs = some r → VPs gF r.1 xs
  | [], xs, r, h, e => by simp only [snaps, Option.some.injEq] at e; subst e; simpa [VAs, VPs] using h
  | v :: vs, xs, r, h, e => by
    simp only [VAs] at h
    obtain ⟨x, y, rfl, hx, hr⟩ := h
    simp only [snaps] at e
    split at e
    · rename_i p q h1 h2
      simp only [Option.some.injEq] at e; subst e
      simp only [VPs]; exact ⟨x, y, rfl, snap_froz R F (b := p.2) hx h1, snaps_froz R F hr h2⟩
    · cases e
end

section
variable {E : Env}

theorem VP_size' {g : Gh} {sz size : Nat} {es : List PV} {x : Value} (h : VP g (.lst sz es) x) (hz : sz = size ∨ es = []) : VP g (.lst size es) x := by
  rcases hz with rfl | rfl
  · exact h
  · simp only [VP] at h ⊢
    obtain ⟨a, cap, vs, h1, h2, h3, h4⟩ := h
    simp only [VPs] at h3; subst h3
    exact ⟨a, cap, [], h1, h2, by simp [VPs], by simp, .inl rfl⟩

theorem toPVt_plain {g : Gh} {H : Hp} {t : Nat} {v : AV} {x : Value} {p : PV} (h : VA g v x) (e : toPVt E H t v = some (p, false)) : VP g p x := by
  unfold toPVt at e
  split at e
  · rename_i sz es
    split at e
    · rename_i hc
      simp only [Option.some.injEq, Prod.mk.injEq, and_true] at e; subst e
      simp only [VA] at h
      refine VP_size' h.1 ?_
      simp only [Bool.or_eq_true, beq_iff_eq, List.isEmpty_iff] at hc; exact hc
    · cases e
  · exact snap_plain h e

theorem toPVt_froz {g gF : Gh} {H : Hp} {w : World} (R : Rel g H w) (F : Frozen g gF w) {t : Nat} {v : AV} {x : Value} {r : PV × Bool} (h : VA g v x) (e : toPVt E H t v = some r) : VP gF r.1 x := by
  unfold toPVt at e
  split at e
  · rename_i sz es
    split at e
    · rename_i hc
      simp only [Option.some.injEq] at e; subst e
      simp only [VA] at h
      refine (VP_size' h.1 ?_).mono F.mem
      simp only [Bool.or_eq_true, beq_iff_eq, List.isEmpty_iff] at hc; exact hc
    · cases e
  · exact snap_froz R F (b := r.2) h e

theorem argsO_plain {g : Gh} {H : Hp} : ∀ {ts : List Nat} {vs : List AV} {xs : List Value} {ps : List PV}, VAs g vs xs → argsO E H ts vs = some (ps, false) → VPs g ps xs
  | [], [], xs, ps, h, e => by simp only [argsO, Option.some.injEq, Prod.mk.injEq, and_true] at e; subst e; simpa [VAs, VPs] using h
  | [], _ :: _, _, _, _, e => by simp [argsO] at e
  | _ :: _, [], _, _, _, e => by simp [argsO] at e
  | t :: ts, v :: vs, xs, ps, h, e => by
    simp only [VAs] at h
    obtain ⟨x, r, rfl, hx, hr⟩ := h
    simp only [argsO] at e
    split at e
    · rename_i p q h1 h2
      simp only [Option.some.injEq, Prod.mk.injEq, Bool.or_eq_false_iff] at e
      obtain ⟨rfl, e1, e2⟩ := e
      obtain ⟨p1, p2⟩ := p; obtain ⟨q1, q2⟩ := q
      simp only at e1 e2; subst e1 e2
      simp only [VPs]; exact ⟨x, r, rfl, toPVt_plain hx h1, argsO_plain hr h2⟩
    · cases e

theorem argsO_froz {g gF : Gh} {H : Hp} {w : World} (R : Rel g H w) (F : Frozen g gF w) : ∀ {ts : List Nat} {vs : List AV} {xs : List Value} {r : List PV × Bool}, VAs g vs xs → argsO E H ts vs = some r → VPs gF r.1 xs
  | [], [], xs, ps, h, e => by simp only [argsO, Option.some.injEq] at e; subst e; simpa [VAs, VPs] using h
  | [], _ :: _, _, _, _, e => by simp [argsO] at e
  | _ :: _, [], _, _, _, e => by simp [argsO] at e
  | t :: ts, v :: vs, xs, ps, h, e => by
    simp only [VAs] at h
    obtain ⟨x, r, rfl, hx, hr⟩ := h
    simp only [argsO] at e
    split at e
    · rename_i p q h1 h2
      simp only [Option.some.injEq] at e; subst e
      simp only [VPs]; exact ⟨x, r, rfl, toPVt_froz R F hx h1, argsO_froz R F hr h2⟩
    · cases e

theorem frzO_ok {g gF : Gh} {H : Hp} {w : World} (R : Rel g H w) (F : Frozen g gF w) {t : Nat} {v : AV} {x : Value} {p : PV} (h : VA g v x) (e : frzO E H t v = some p) : VP gF p x := by
  unfold frzO at e
  split at e
  · rename_i b
    split at e
    · rename_i ks vs hb
      obtain ⟨ps, h1, rfl⟩ := Option.map_eq_some_iff.1 e
      simp only [VA] at h
      obtain ⟨c, hio, rfl⟩ := h
      have hB := R.blk b _ hb
      simp only [BlkOk] at hB
      obtain ⟨c', es, clk, hio', hw, hk, hv, _⟩ := hB
      rw [hio] at hio'; cases hio'
      simp only [VP]
      exact ⟨c, es, rfl, F.nu b c hio es clk hw, VPs.mono F.mem hk, VPs.mono F.mem (allPV_ok hv h1)⟩
    · cases e
  · obtain ⟨r, h1, rfl⟩ := Option.map_eq_some_iff.1 e
    exact toPVt_froz R F h h1

theorem frzsO_ok {g gF : Gh} {H : Hp} {w : World} (R : Rel g H w) (F : Frozen g gF w) : ∀ {ts : List Nat} {vs : List AV} {xs : List Value} {ps : List PV}, VAs g vs xs → frzsO E H ts vs = some ps → VPs gF ps xs
  | [], [], xs, ps, h, e => by simp only [frzsO, Option.some.injEq] at e; subst e; simpa [VAs, VPs] using h
  | [], _ :: _, _, _, _, e => by simp [frzsO] at e
  | _ :: _, [], _, _, _, e => by simp [frzsO] at e
  | t :: ts, v :: vs, xs, ps, h, e => by
    simp only [VAs] at h
    obtain ⟨x, r, rfl, hx, hr⟩ := h
    simp only [frzsO] at e
    split at e
    · rename_i p q h1 h2
      simp only [Option.some.injEq] at e; subst e
      simp only [VPs]; exact ⟨x, r, rfl, frzO_ok R F hx h1, frzsO_ok R F hr h2⟩
    · cases e

end

/-! ### Ghosts of pure calls -/

/-- The whole memory as it stands. -/
def Gh.all (w : World) : Gh :=
  { mu := fun c o => w.cell? ⟨c, o, none⟩, nu := fun c => match w.heap[c]? with | some (.map es _) => some es | _ => none, io := fun _ => none, ow := fun _ => none, tk := fun _ _ => none }

theorem Rel.all (w : World) : Rel (Gh.all w) [] w := by
  constructor
  · exact fun _ _ _ h => h
  · intro r es h
    simp only [Gh.all] at h
    split at h
    · rename_i es' clk e; cases h; exact ⟨clk, e⟩
    · cases h
  all_goals first | (intro b c e; cases e; done) | (intro b k v e; cases e; done) | (intro b b' c e; cases e; done) | (intro b k e; simp at e; done)

theorem Rel.mem_all {g : Gh} {H : Hp} {w : World} (R : Rel g H w) : Mem g (Gh.all w) :=
  ⟨fun c o v e => R.mu c o v e, fun r es e => by obtain ⟨clk, h⟩ := R.nu r es e; simp [Gh.all, h]⟩

theorem Rel.frozen_all {g : Gh} {H : Hp} {w : World} (R : Rel g H w) : Frozen g (Gh.all w) w :=
  ⟨R.mem_all, fun _ c _ o v e => e, fun _ c _ es clk e => by simp [Gh.all, e]⟩

/-- Back at the caller: what is new in memory stays known. -/
def Gh.back (g g' : Gh) (n : Nat) : Gh :=
  { g with mu := fun c o => if c < n then g.mu c o else g'.mu c o, nu := fun c => if c < n then g.nu c else g'.nu c }

theorem cell_lt {w : World} {c o : Nat} {v : Value} (h : w.cell? ⟨c, o, none⟩ = some v) : c < w.heap.size := by
  rcases Nat.lt_or_ge c w.heap.size with h1 | h1
  · exact h1
  · simp [World.cell?, Array.getElem?_eq_none h1] at h

theorem Rel.back {g g0 g' : Gh} {H : Hp} {w w' : World} (R : Rel g H w) (hio : ∀ b, g0.io b = none) (how : ∀ b, g0.ow b = none) (X : Ext 0 g0 w g' w')
    (hmu' : ∀ b o v, g'.mu b o = some v → w'.cell? ⟨b, o, none⟩ = some v) (hnu' : ∀ r es, g'.nu r = some es → ∃ clk, w'.heap[r]? = some (.map es clk)) :
    Rel (g.back g' w.heap.size) H w' ∧ Ext H.length g w (g.back g' w.heap.size) w' := by
  have hf : ∀ c, c < w.heap.size → w'.heap[c]? = w.heap[c]? := fun c hc => X.frame c hc (fun b e => by rw [hio] at e; cases e) (fun b e => by rw [how] at e; cases e)
  have hmem : Mem g (g.back g' w.heap.size) := by
    constructor
    · intro c o v e
      have := cell_lt (R.mu c o v e)
      simp [Gh.back, this, e]
    · intro r es e
      obtain ⟨clk, h⟩ := R.nu r es e
      have := heap_lt h
      simp [Gh.back, this, e]
  have hmor : Mor H.length g (g.back g' w.heap.size) := { hmem with io := fun _ _ _ e => e, tk := fun _ _ _ _ e => e }
  refine ⟨?_, ?_⟩
  · constructor
    · intro c o v e
      simp only [Gh.back] at e
      split at e
      · rename_i hc; rw [cell_congr (hf c hc)]; exact R.mu c o v e
      · exact hmu' c o v e
    · intro r es e
      simp only [Gh.back] at e
      split at e
      · rename_i hc; rw [hf r hc]; exact R.nu r es e
      · exact hnu' r es e
    · intro b c e; exact ⟨(R.io b c e).1, Nat.lt_of_lt_of_le (R.io b c e).2 X.size⟩
    · intro b c e; exact ⟨(R.ow b c e).1, Nat.lt_of_lt_of_le (R.ow b c e).2 X.size⟩
    · exact R.tk
    · exact R.inj
    · exact R.inj'
    · exact R.dis
    · intro b k hb
      have hbl : b < H.length := by
        rcases Nat.lt_or_ge b H.length with h1 | h1
        · exact h1
        · simp [List.getElem?_eq_none h1] at hb
      have hlt : ∀ c, g.io b = some c ∨ g.ow b = some c → c < w.heap.size := by
        rintro c (e | e)
        · exact (R.io b c e).2
        · exact (R.ow b c e).2
      refine (R.blk b k hb).keep hmor hbl ((R.blk b k hb).under R.lt) rfl rfl (fun c e => hf c (hlt c e)) (fun c o e => by simp [Gh.back, hlt c e]) (fun c e => by simp [Gh.back, hlt c (.inl e)])
  · refine ⟨hmem, fun _ _ => rfl, fun _ _ _ _ e => e, fun c hc _ _ => hf c hc, fun _ b _ e => ⟨b, e⟩, fun _ b _ e => ⟨b, e⟩, ?_, ?_, X.size, X.os, X.tape, X.output⟩
    · intro c o v e
      simp only [Gh.back] at e
      split at e
      · exact .inl e
      · rename_i hc; exact .inr (.inl (by omega))
    · intro c es e
      simp only [Gh.back] at e
      split at e
      · exact .inl e
      · rename_i hc; exact .inr (by omega)

mutual
theorem VP.flat {g g' : Gh} : ∀ {p : PV} {v : Value}, p.flat = true → VP g p v → VP g' p v
  | .int _ _, v, _, h | .bool _, v, _, h | .str _, v, _, h | .nilp, v, _, h | .nilf, v, _, h | .fn _, v, _, h | .nili, v, _, h | .nilm, v, _, h => by simpa only [VP] using h
  | .agg cs, v, hf, h => by
    simp only [VP, PV.flat] at h hf ⊢
    obtain ⟨vs, rfl, ho, h⟩ := h
    exact ⟨vs, rfl, ho, VPs.flat hf h⟩
  | .tup cs, v, hf, h => by
    simp only [VP, PV.flat] at h hf ⊢
    obtain ⟨vs, rfl, h⟩ := h
    exact ⟨vs, rfl, VPs.flat hf h⟩
  | .iface t x, v, hf, h => by
    simp only [VP, PV.flat] at h hf ⊢
    obtain ⟨y, rfl, h⟩ := h
    exact ⟨y, rfl, VP.flat hf h⟩
  | .lst _ _, v, hf, h | .map _ _, v, hf, h => by simp [PV.flat] at hf
theorem VPs.flat {g g' : Gh} : ∀ {ps : List PV} {vs : List Value}, PV.flats ps = true → VPs g ps vs → VPs g' ps vs
  | [], vs, _, h => by simpa only [VPs] using h
  | p :: ps, vs, hf, h => by
    simp only [VPs, PV.flats, Bool.and_eq_true] at h hf ⊢
    obtain ⟨v, r, rfl, hp, h⟩ := h
    exact ⟨v, r, rfl, VP.flat hf.1 hp, VPs.flat hf.2 h⟩
end

end Go.Pu
