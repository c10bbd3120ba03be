/-
  Appending.
-/
import Derived.Test.YtflehnedcjjdjaaGreatDoorPuA7
set_option linter.unusedSimpArgs false
set_option linter.unusedVariables false
namespace Go.Pu

/-- What is appended: its cells. -/
theorem elemsOf_ok {P : Program} {g : Gh} {H : Hp} {w : World} (R : Rel g H w) {x : AV} {y : Value} {zy size : Nat} {ys : List PV} (h : VA g x y) (he : elemsOf x = some (zy, ys)) (hz : zy = size ∨ ys = []) :
    ∃ vs, VPs g ys vs ∧ (∀ v ∈ vs, v.cells.size = size ∧ One v.cells.toList) ∧ ∀ w', w'.heap = w.heap → (Builtin.lenOf y).run P w' = .ok ys.length w' ∧ (Builtin.firstCells size ys.length y).run P w' = .ok (flatC vs).toArray w' := by
  have lst : VP g (.lst zy ys) y → ∃ vs, VPs g ys vs ∧ (∀ v ∈ vs, v.cells.size = size ∧ One v.cells.toList) ∧ ∀ w', w'.heap = w.heap → (Builtin.lenOf y).run P w' = .ok ys.length w' ∧ (Builtin.firstCells size ys.length y).run P w' = .ok (flatC vs).toArray w' := by
    intro hv
    simp only [VP] at hv
    obtain ⟨a, cap, vs, rfl, hcap, hv, hl⟩ := hv
    have hn := VPs_length hv
    have hall : ∀ v ∈ vs, v.cells.size = size ∧ One v.cells.toList := by
      rcases hz with rfl | rfl
      · exact hl.1
      · simp only [VPs] at hv; subst hv; simp
    refine ⟨vs, hv, hall, fun w' hw' => ⟨rfl, ?_⟩⟩
    rcases hl.2 with rfl | ⟨b, o, rfl, hh⟩
    · simp at hn
      rw [← hn]
      cases a with
      | none => rfl
      | some a => simp [Builtin.firstCells, loadCells, loadCellsFrom, flatC]
    · have hfl := flatC_length hall
      have := run_loadCells P w' b o (flatC vs) (fun j v hj => by
        rw [cell_congr (w := w) (by rw [hw'])]; exact R.mu _ _ _ (hh j v hj))
      rw [hfl, hn] at this
      simpa [Builtin.firstCells] using this
  unfold elemsOf at he
  split at he
  · cases he; simp only [VA] at h; exact lst h
  · cases he; simp only [VA] at h; exact lst h.1
  · cases he; simp only [VA] at h; exact lst h.1
  · rename_i s
    cases he
    simp only [VA, VP] at h; subst h
    refine ⟨s.map fun b => .int .u8 b.toNat, ?_, ?_, ?_⟩
    · clear hz lst
      induction s with
      | nil => simp [VPs]
      | cons b s ih => simp only [List.map_cons, VPs]; exact ⟨_, _, rfl, by simp [VP, encB], ih⟩
    · intro v hv
      obtain ⟨b, hb, rfl⟩ := List.mem_map.1 hv
      rcases hz with hz | hz
      · subst hz; exact ⟨rfl, fun u hu => by simp [Value.cells] at hu; subst hu; rfl⟩
      · simp at hz; subst hz; simp at hb
    · intro w' _
      have hf : flatC (s.map fun b => Value.int .u8 b.toNat) = s.map fun b => Value.int .u8 b.toNat := by
        clear hz lst
        induction s with
        | nil => rfl
        | cons b s ih => simp only [flatC, List.map_cons, List.flatMap_cons] at ih ⊢; rw [ih]; rfl
      refine ⟨by simp [Builtin.lenOf]; rfl, ?_⟩
      rw [hf]
      have e1 : (⟨s.toArray⟩ : ByteArray).extract 0 s.length = ⟨s.toArray⟩ := by rw [ByteArray.extract_mk]; simp
      simp [Builtin.firstCells, e1]
  · cases he

section
variable {P : Program} {w : World} {t t2 ty e size bytes len cap n : Nat} {base : Option Addr} {xv z : Value} {news olds : List Value}

theorem run_app_in {dd : TypeDesc} {i : TypeInfo} (h1 : P.underlying t = some (.slice e)) (h2 : P.underlying t2 = some dd) (h3 : ∀ k, dd ≠ .int k) (hi : P.info? e = some i) (hsz : i.size = size)
    (hl : (Builtin.lenOf xv).run P w = .ok n w) (hf : (Builtin.firstCells size n xv).run P w = .ok news.toArray w) (hin : len + n ≤ cap) :
    (Builtin.append_ #[t, t2] ty #[.slice base len cap, xv]).run P w =
      ((match base with
        | some a => storeCells (a.add (len * size)) news
        | none => pure () : Sem Unit).run P w).andThen fun _ w' => .ok (.slice base (len + n) cap) w' := by
  subst hsz
  have hz : (match dd with | .int _ => true | _ => false) = false := by cases dd <;> first | rfl | (exact absurd rfl (h3 _))
  cases base <;> simp [Builtin.append_, run_underlying h1, run_underlying h2, sizeOf, typeInfo, hi, hz, hl, hf, hin]

theorem run_app_grow {dd : TypeDesc} {i : TypeInfo} (h1 : P.underlying t = some (.slice e)) (h2 : P.underlying t2 = some dd) (h3 : ∀ k, dd ≠ .int k) (hi : P.info? e = some i) (hsz : i.size = size) (hb : i.bytes = bytes) (hb0 : 0 < bytes) (hz : i.zero = some z)
    (hl : (Builtin.lenOf xv).run P w = .ok n w) (hf : (Builtin.firstCells size n xv).run P w.drew = .ok news.toArray w.drew) (ho : (Builtin.firstCells size len (.slice base len cap)).run P w.drew = .ok olds.toArray w.drew)
    (hout : cap < len + n) (hroom : (len + n) * bytes ≤ 140737488355328) :
    ∃ newCap rest, len + n ≤ newCap ∧ (Builtin.append_ #[t, t2] ty #[.slice base len cap, xv]).run P w = .ok (.slice (some ⟨w.heap.size, 0, none⟩) (len + n) newCap)
      (w.drew.alloc (.cells (olds ++ news ++ rest).toArray e)) ∧ rest = (Builtin.zeroCells z.cells (newCap - (len + n))).toList := by
  subst hsz hb
  have hzz : (match dd with | .int _ => true | _ => false) = false := by cases dd <;> first | rfl | (exact absurd rfl (h3 _))
  refine ⟨grownCap w (len + n) cap e, _, ?_, ?_, rfl⟩
  · simp [grownCap, Question.cut]
  · have hn : ¬ (len + n ≤ cap) := by omega
    have hfit := growslice_fits (by omega : cap < len + n) hroom
    have h48' : ¬ (281474976710656 < Builtin.nextslicecap (len + n) cap * i.bytes) := by omega
    have hb1 : i.bytes ≠ 0 := by omega
    have e1 : ({ w with drawn := w.drawn + 1 } : World) = w.drew := rfl
    simp [Builtin.append_, run_underlying h1, run_underlying h2, sizeOf, typeInfo, hi, hzz, hl, hn, hb1, h48', Question.forced, e1, ho, hf, zeroValue, hz, newRow, grownCap]
    congr 2
    apply Array.ext'
    simp [List.append_assoc]

end


theorem VP_size {g : Gh} {sz size : Nat} {es : List PV} {x : Value} (h : VP g (.lst sz es) x) (hz : sz = size ∨ es = []) : VP g (.lst size es) x := by
  rcases hz with rfl | rfl
  · exact h
  · simp only [VP] at h ⊢
    obtain ⟨a, cap, vs, rfl, hcap, hv, hl⟩ := h
    simp only [VPs] at hv; subst hv
    exact ⟨a, cap, [], rfl, hcap, by simp [VPs], by simp, .inl rfl⟩

theorem zeroCells_ok (zs : Array Value) (m size : Nat) (hs : zs.size = size) (ho : One zs.toList) : (Builtin.zeroCells zs m).toList.length = m * size ∧ One (Builtin.zeroCells zs m).toList := by
  subst hs
  unfold Builtin.zeroCells
  refine ⟨by simp, ?_⟩
  intro v hv
  simp only [Array.toList_map, List.mem_map] at hv
  obtain ⟨i, hi, rfl⟩ := hv
  have : i < m * zs.size := by simpa using hi
  have hz : 0 < zs.size := by
    rcases Nat.eq_zero_or_pos zs.size with h | h
    · rw [h] at this; omega
    · exact h
  have hlt := Nat.mod_lt i hz
  rw [getElem!_pos zs _ hlt]
  exact ho _ (by simp)

def Gh.grown (g : Gh) (b k c : Nat) (cs : List Value) (v : Value × Nat) : Gh :=
  { mu := fun x o => if x = c then cs[o]? else g.mu x o, nu := g.nu, io := g.io, ow := fun x => if x = b then some c else g.ow x, tk := fun x j => if x = b ∧ j = k then some v else g.tk x j }

theorem grow_ok {g : Gh} {H : Hp} {w : World} (R : Rel g H w) {b k' : Nat} (hb : (b = H.length ∧ k' = 0) ∨ ∃ k, H[b]? = some (.tok k) ∧ k' = k + 1)
    {es : List PV} {vs rest : List Value} {size newCap : Nat} (e : TypeId) (hv : VPs g es vs) (hc : ∀ v ∈ vs, v.cells.size = size ∧ One v.cells.toList) (h0 : 0 < size) (hn : es.length ≤ newCap) (hr : rest.length = (newCap - es.length) * size) (hro : One rest) :
    ∃ g', Rel g' (setTok H b k') (w.drew.alloc (.cells (flatC vs ++ rest).toArray e)) ∧ Ext H.length g w g' (w.drew.alloc (.cells (flatC vs ++ rest).toArray e)) ∧
      VA g' (.own b k' size es) (.slice (some ⟨w.heap.size, 0, none⟩) es.length newCap) := by
  have hlen := VPs_length hv
  have hfl := flatC_length hc
  have hheap : (w.drew.alloc (.cells (flatC vs ++ rest).toArray e)).heap = w.heap.push (.cells (flatC vs ++ rest).toArray e) := rfl
  have hnew : (w.drew.alloc (.cells (flatC vs ++ rest).toArray e)).heap[w.heap.size]? = some (.cells (flatC vs ++ rest).toArray e (0, 0)) := by rw [hheap]; simp
  have hold : ∀ c, c < w.heap.size → (w.drew.alloc (.cells (flatC vs ++ rest).toArray e)).heap[c]? = w.heap[c]? := by
    intro c hc; rw [hheap, Array.getElem?_push, if_neg (by omega)]
  have hg0 : ∀ o, g.mu w.heap.size o = none := by
    intro o
    cases e : g.mu w.heap.size o with
    | none => rfl
    | some v => have := R.mu _ _ _ e; simp [World.cell?] at this
  let g' := g.grown b k' w.heap.size (flatC vs) (.slice (some ⟨w.heap.size, 0, none⟩) es.length newCap, size)
  have hmem : Mem g g' := ⟨fun x o v e => by
    have : x ≠ w.heap.size := by rintro rfl; rw [hg0] at e; cases e
    simp [g', Gh.grown, this, e], fun _ _ e => e⟩
  refine ⟨g', ?_⟩
  have key := R.tok (g' := g') (w' := w.drew.alloc (.cells (flatC vs ++ rest).toArray e)) hb hmem rfl (fun x hx => by simp [g', Gh.grown, hx]) (fun x j hx => by simp [g', Gh.grown, hx]) rfl
    (fun c e => by simp [g', Gh.grown] at e; subst e; right; rw [hheap]; simp)
    (fun c hc _ => hold c hc)
    (fun c es clk ho hm => by rw [hold c (heap_lt hm)]; exact hm)
    (by
      intro c o v e
      simp only [g', Gh.grown] at e
      split at e
      · rename_i hcc; subst hcc
        rw [cell_of hnew, List.getElem?_append_left]
        · exact e
        · rcases Nat.lt_or_ge o (flatC vs).length with h1 | h1
          · exact h1
          · rw [List.getElem?_eq_none h1] at e; cases e
      · have hd := R.mu c o v e
        have : c < w.heap.size := by
          rcases Nat.lt_or_ge c w.heap.size with h1 | h1
          · exact h1
          · simp [World.cell?, Array.getElem?_eq_none h1] at hd
        rw [cell_congr (hold c this)]; exact hd)
    (by
      intro c o v e
      simp only [g', Gh.grown] at e
      split at e
      · rename_i hcc; subst hcc; exact .inr (.inl (Nat.le_refl _))
      · exact .inl e)
    (by rw [hheap]; simp) rfl rfl rfl
    (by
      simp only [BlkOk]
      refine ⟨some ⟨w.heap.size, 0, none⟩, es.length, newCap, size, by simp [g', Gh.grown], .inr ⟨w.heap.size, e, flatC vs ++ rest, by simp [g', Gh.grown], rfl, hnew, (flatC_one hc).append hro, ?_, hn, h0, ?_⟩⟩
      · rw [List.length_append, hfl, hr, hlen, ← Nat.add_mul]; congr 1; omega
      · intro o ho
        simp only [g', Gh.grown, if_true]
        exact List.getElem?_eq_none (by rw [hfl, hlen]; exact ho))
  refine ⟨key.1, key.2, ?_⟩
  simp only [VA, VP]
  refine ⟨⟨some ⟨w.heap.size, 0, none⟩, newCap, vs, rfl, hn, hv.mono hmem, hc, .inr ⟨w.heap.size, 0, rfl, ?_⟩⟩, by simp [g', Gh.grown]⟩
  intro i v e
  simp [g', Gh.grown, e]


def Gh.filled (g : Gh) (b k c lo hi : Nat) (cs : List Value) (v : Value × Nat) : Gh :=
  { mu := fun x o => if x = c ∧ lo ≤ o ∧ o < hi then cs[o]? else g.mu x o, nu := g.nu, io := g.io, ow := g.ow, tk := fun x j => if x = b ∧ j = k then some v else g.tk x j }

/-- Nothing is appended. -/
theorem same_ok {g : Gh} {H : Hp} {w : World} (R : Rel g H w) {b k size : Nat} (hb : H[b]? = some (.tok k)) {es : List PV} {x : Value} (hx : VP g (.lst size es) x) (hk : ∃ sz, g.tk b k = some (x, sz) ∧ (sz = size ∨ (sz = 0 ∧ es = []))) :
    ∃ g', Rel g' (setTok H b (k + 1)) w ∧ Ext H.length g w g' w ∧ VA g' (.own b (k + 1) size es) x := by
  obtain ⟨sz, hk, hsz⟩ := hk
  let g' : Gh := { g with tk := fun x' j => if x' = b ∧ j = k + 1 then some (x, size) else g.tk x' j }
  have key := R.tok (g' := g') (w' := w) (.inr ⟨k, hb, rfl⟩) ⟨fun _ _ _ e => e, fun _ _ e => e⟩ rfl (fun _ _ => rfl) (fun x j hx => by simp [g', hx]) rfl (fun _ e => .inl e) (fun _ _ _ => rfl) (fun _ _ _ _ e => e) R.mu (fun _ _ _ e => .inl e) (Nat.le_refl _) rfl rfl rfl
    (by
      have hB := R.blk b _ hb
      simp only [BlkOk] at hB ⊢
      obtain ⟨a, len, cap, sz', h1, h2⟩ := hB
      rw [hk] at h1
      simp only [Option.some.injEq, Prod.mk.injEq] at h1
      obtain ⟨rfl, rfl⟩ := h1
      refine ⟨a, len, cap, size, by simp [g'], ?_⟩
      rcases hsz with rfl | ⟨rfl, rfl⟩
      · exact h2
      · rcases h2 with h2 | ⟨c, t, vs, _, _, _, _, _, _, h3, _⟩
        · exact .inl h2
        · omega)
  exact ⟨g', key.1, key.2, by simp only [VA]; exact ⟨hx.mono (show Mem g g' from ⟨fun _ _ _ e => e, fun _ _ e => e⟩), by simp [g']⟩⟩

/-- There is room. -/
theorem room_ok {g : Gh} {H : Hp} {w : World} (R : Rel g H w) {b k size c cap : Nat} (hb : H[b]? = some (.tok k)) {es ys : List PV} {vs us cells : List Value} {t : TypeId}
    (hv : VPs g es vs) (hvc : ∀ v ∈ vs, v.cells.size = size ∧ One v.cells.toList) (hh : vs = [] ∨ Holds g.mu c 0 (flatC vs)) (hu : VPs g ys us) (huc : ∀ v ∈ us, v.cells.size = size ∧ One v.cells.toList)
    (hc : g.ow b = some c) (hcells : w.heap[c]? = some (.cells cells.toArray t (0, 0))) (ho : One cells) (hl : cells.length = cap * size) (h0 : 0 < size) (hin : es.length + ys.length ≤ cap) (hmu : ∀ o, es.length * size ≤ o → g.mu c o = none) :
    ∃ g', Rel g' (setTok H b (k + 1)) (w.withBlk c (.cells (putL cells (es.length * size) (flatC us)).toArray t (0, 0))) ∧ Ext H.length g w g' (w.withBlk c (.cells (putL cells (es.length * size) (flatC us)).toArray t (0, 0))) ∧
      VA g' (.own b (k + 1) size (es ++ ys)) (.slice (some ⟨c, 0, none⟩) (es.length + ys.length) cap) := by
  have hnv := VPs_length hv
  have hnu := VPs_length hu
  have hfu := flatC_length huc
  have hfv := flatC_length hvc
  have hcl := (R.ow b c hc).2
  have hle : es.length * size + (flatC us).length ≤ cells.length := by rw [hfu, hl, hnu, ← Nat.add_mul]; exact Nat.mul_le_mul_right _ hin
  have hnew := withBlk_eq w (.cells (putL cells (es.length * size) (flatC us)).toArray t (0, 0)) hcl
  -- the cells of what is appended
  have hput : ∀ o, es.length * size ≤ o → o < (es.length + ys.length) * size → (putL cells (es.length * size) (flatC us))[o]? = (flatC us)[o - es.length * size]? := by
    intro o h1 h2
    rw [Nat.add_mul] at h2
    unfold putL
    rw [List.append_assoc, List.getElem?_append_right (by simp; omega), List.getElem?_append_left (by simp; rw [hfu, hnu]; omega)]
    congr 1; simp; omega
  have hputlo : ∀ o, o < es.length * size → (putL cells (es.length * size) (flatC us))[o]? = cells[o]? := by
    intro o h1
    unfold putL
    rw [List.append_assoc, List.getElem?_append_left (by simp; omega), List.getElem?_take, if_pos h1]
  let g' := g.filled b (k + 1) c (es.length * size) ((es.length + ys.length) * size) (putL cells (es.length * size) (flatC us)) (.slice (some ⟨c, 0, none⟩) (es.length + ys.length) cap, size)
  have hmem : Mem g g' := ⟨fun x o v e => by
    have : ¬ (x = c ∧ es.length * size ≤ o ∧ o < (es.length + ys.length) * size) := by
      rintro ⟨rfl, h1, _⟩; rw [hmu o h1] at e; cases e
    simp [g', Gh.filled, this, e], fun _ _ e => e⟩
  refine ⟨g', ?_⟩
  have key := R.tok (g' := g') (w' := w.withBlk c (.cells (putL cells (es.length * size) (flatC us)).toArray t (0, 0))) (.inr ⟨k, hb, rfl⟩) hmem rfl (fun _ _ => rfl) (fun x j hx => by simp [g', Gh.filled, hx]) rfl (fun _ e => .inl e)
    (fun d hd hdo => withBlk_ne w _ (by rintro rfl; exact hdo hc))
    (fun d es' clk hd hm => by rw [hc] at hd; cases hd; rw [hcells] at hm; cases hm)
    (by
      intro d o v e
      simp only [g', Gh.filled] at e
      split at e
      · rename_i hd; obtain ⟨rfl, _, _⟩ := hd
        rw [cell_of hnew]; exact e
      · by_cases hd : d = c
        · subst hd
          rw [cell_of hnew]
          have hlo : o < es.length * size := by
            rcases Nat.lt_or_ge o (es.length * size) with h1 | h1
            · exact h1
            · rw [hmu o h1] at e; cases e
          rw [hputlo o hlo, ← cell_of hcells]; exact R.mu _ _ _ e
        · rw [cell_congr (withBlk_ne w _ hd)]; exact R.mu _ _ _ e)
    (by
      intro d o v e
      simp only [g', Gh.filled] at e
      split at e
      · rename_i hd; obtain ⟨rfl, _, _⟩ := hd; exact .inr (.inr hc)
      · exact .inl e)
    (by simp [withBlk_size]) rfl rfl rfl
    (by
      simp only [BlkOk]
      refine ⟨some ⟨c, 0, none⟩, es.length + ys.length, cap, size, by simp [g', Gh.filled], .inr ⟨c, t, putL cells (es.length * size) (flatC us), hc, rfl, hnew, putL_One ho (flatC_one huc), by rw [putL_length hle]; exact hl, hin, h0, ?_⟩⟩
      intro o hoo
      have h1 : ¬ (True ∧ es.length * size ≤ o ∧ o < (es.length + ys.length) * size) := by omega
      simp only [g', Gh.filled]
      rw [if_neg h1]
      exact hmu o (by rw [Nat.add_mul] at hoo; omega))
  refine ⟨key.1, key.2, ?_⟩
  simp only [VA, VP]
  refine ⟨⟨some ⟨c, 0, none⟩, cap, vs ++ us, by simp, by simp; exact hin, VPs_append (hv.mono hmem) (hu.mono hmem), ?_, .inr ⟨c, 0, rfl, ?_⟩⟩, by simp [g', Gh.filled]⟩
  · intro v hvv
    rcases List.mem_append.1 hvv with h1 | h1
    · exact hvc v h1
    · exact huc v h1
  · intro i v e
    have e1 : flatC (vs ++ us) = flatC vs ++ flatC us := by simp [flatC]
    rw [e1] at e
    rcases Nat.lt_or_ge i (flatC vs).length with h1 | h1
    · rw [List.getElem?_append_left h1] at e
      rcases hh with rfl | hh
      · simp [flatC] at h1
      · exact hmem.mu _ _ _ (hh i v e)
    · rw [List.getElem?_append_right h1] at e
      have h2 : i - (flatC vs).length < (flatC us).length := by
        rcases Nat.lt_or_ge (i - (flatC vs).length) (flatC us).length with h3 | h3
        · exact h3
        · rw [List.getElem?_eq_none h3] at e; cases e
      rw [hfv, hnv] at h1 h2 e
      rw [hfu, hnu] at h2
      have h3 : True ∧ es.length * size ≤ 0 + i ∧ 0 + i < (es.length + ys.length) * size := ⟨trivial, by omega, by rw [Nat.add_mul]; omega⟩
      simp only [g', Gh.filled]
      rw [if_pos h3]
      rw [hput _ h3.2.1 h3.2.2]
      simpa using e

theorem appO_ok {E : Env} {P : Program} (T : TyOk E P) {g : Gh} {H H' : Hp} {w : World} (R : Rel g H w) {t t2 : Nat} {s x v : AV} {sv xv : Value} (hs : VA g s sv) (hx : VA g x xv) (he : appO E t t2 H s x = some (v, H')) (ty : TypeId) :
    ∃ y w' g', (Builtin.append_ #[t, t2] ty #[sv, xv]).run P w = .ok y w' ∧ VA g' v y ∧ Rel g' H' w' ∧ Ext H.length g w g' w' ∧ H.length ≤ H'.length := by
  unfold appO at he
  split at he
  · rename_i e hk
    split at he
    · rename_i hc
      simp only [Bool.and_eq_true] at hc
      obtain ⟨⟨⟨hk2, hzz⟩, hb0⟩, hs0⟩ := hc
      have hzz := Nat.eq_of_beq_eq_true hzz
      have hb0 := Nat.le_of_ble_eq_true hb0
      have hs0 := Nat.le_of_ble_eq_true hs0
      split at he
      · rename_i zy ys hel
        split at he
        · rename_i hzy
          have hzy : zy = (E.ty e).size ∨ ys = [] := by simpa [List.isEmpty_iff] using hzy
          obtain ⟨us, hus, huc, hur⟩ := elemsOf_ok (P := P) R hx hel hzy
          obtain ⟨d, d1, d2, _⟩ := (T.real t (T.of_kd (by rw [hk]; simp))).kd
          rw [hk] at d2; simp only [KdOk] at d2; obtain ⟨rfl, hek⟩ := d2
          obtain ⟨dd, dd1, dd2⟩ : ∃ dd, P.underlying t2 = some dd ∧ ∀ k, dd ≠ .int k := by
            cases hk2' : (E.ty t2).kd <;> rw [hk2'] at hk2 <;> simp [isSeq] at hk2
            · obtain ⟨dd, dd1, dd2, _⟩ := (T.real t2 (T.of_kd (by rw [hk2']; simp))).kd
              rw [hk2'] at dd2; simp only [KdOk] at dd2; subst dd2
              exact ⟨_, dd1, by simp⟩
            · obtain ⟨dd, dd1, dd2, _⟩ := (T.real t2 (T.of_kd (by rw [hk2']; simp))).kd
              rw [hk2'] at dd2; simp only [KdOk] at dd2; obtain ⟨rfl, _⟩ := dd2
              exact ⟨_, dd1, by simp⟩
          obtain ⟨i, hi1, hi2, hi3, hi4⟩ := (T.real e hek).info
          obtain ⟨z, hz1, hz2, hz3, hz4⟩ := hi4 hzz
          have hzl : z.cells.size = (E.ty e).size := by
            have := VPs_length (hz4 g).1; rw [hzz] at this; simpa using this
          -- what grows
          have grow : ∀ {b k' len cap : Nat} {es : List PV} {base : Option Addr}, ((b = H.length ∧ k' = 0) ∨ ∃ k, H[b]? = some (.tok k) ∧ k' = k + 1) → VP g (.lst (E.ty e).size es) (.slice base len cap) → sv = .slice base len cap →
              cap < es.length + ys.length → (es.length + ys.length) * (E.ty e).bytes ≤ 140737488355328 → v = .own b k' (E.ty e).size (es ++ ys) → H' = setTok H b k' →
              ∃ y w' g', (Builtin.append_ #[t, t2] ty #[sv, xv]).run P w = .ok y w' ∧ VA g' v y ∧ Rel g' H' w' ∧ Ext H.length g w g' w' ∧ H.length ≤ H'.length := by
            rintro b k' len cap es base hb hvp rfl hout hroom rfl rfl
            have hvp' := hvp
            simp only [VP] at hvp
            obtain ⟨a, cap', vs, hsl, hcap, hvs, hl⟩ := hvp
            simp only [Value.slice.injEq] at hsl; obtain ⟨rfl, rfl, rfl⟩ := hsl
            obtain ⟨vs', hvs', hvc', hfr⟩ := elemsOf_ok (P := P) (x := .pv (.lst (E.ty e).size es)) (size := (E.ty e).size) R (by simpa only [VA] using hvp') rfl (.inl rfl)
            obtain ⟨nc, rest, hnc, hrun, hrest⟩ := run_app_grow (ty := ty) d1 dd1 dd2 hi1 hi2 hi3 (by omega) hz1 (hur w rfl).1 (hur w.drew rfl).2 (hfr w.drew rfl).2 hout hroom
            have hzc := zeroCells_ok z.cells (nc - (es.length + ys.length)) _ hzl hz2
            rw [← hrest] at hzc
            obtain ⟨g', R', E', V'⟩ := grow_ok R hb (vs := vs' ++ us) (rest := rest) (newCap := nc) e (VPs_append hvs' hus) (fun u hu => by
              rcases List.mem_append.1 hu with h1 | h1
              · exact hvc' u h1
              · exact huc u h1) (by omega) (by simpa using hnc) (by simpa using hzc.1) hzc.2
            have ef : flatC (vs' ++ us) ++ rest = flatC vs' ++ flatC us ++ rest := by simp [flatC]
            rw [ef] at R' E'
            have hbl : b ≤ H.length := by
              rcases hb with ⟨h1, _⟩ | ⟨k, h1, _⟩
              · omega
              · rcases Nat.lt_or_ge b H.length with h2 | h2
                · omega
                · simp [List.getElem?_eq_none h2] at h1
            refine ⟨_, _, g', hrun, ?_, R', E', (setTok_length hbl).1⟩
            have : (es ++ ys).length = es.length + ys.length := by simp
            rw [this] at V'
            exact V'
          split at he
          · rename_i sz es
            split at he
            · rename_i hr
              simp only [Bool.and_eq_true] at hr
              have hsz : sz = (E.ty e).size ∨ es = [] := by simpa [List.isEmpty_iff] using hr.1
              have hroom := Nat.le_of_ble_eq_true hr.2
              simp only [Option.some.injEq, Prod.mk.injEq] at he
              obtain ⟨rfl, rfl⟩ := he
              simp only [VA] at hs
              obtain ⟨hs, a, n, rfl⟩ := hs
              have hs' := VP_size hs hsz
              have hst : setTok H H.length 0 = H ++ [.tok 0] := by simp [setTok]
              have hn : n = es.length := by
                simp only [VP] at hs'; obtain ⟨_, _, _, h1, _⟩ := hs'; cases h1; rfl
              subst hn
              by_cases hys : ys = []
              · subst hys
                have hu0 : us = [] := by simpa [VPs] using hus
                subst hu0
                have hin := run_app_in (ty := ty) (base := a) (len := es.length) (cap := es.length) (news := []) d1 dd1 dd2 hi1 hi2 (hur w rfl).1 (hur w rfl).2 (by simp)
                obtain ⟨R1, E1⟩ := R.retok (.inl ⟨rfl, rfl⟩) a es.length (E.ty e).size
                rw [hst] at R1
                refine ⟨.slice a es.length es.length, w, _, ?_, ?_, R1, E1, by simp⟩
                · have := hin
                  simp only [List.length_nil, Nat.add_zero] at this
                  rw [this]; cases a <;> simp [storeCells]
                · simp only [VA]
                  refine ⟨?_, by simp [Gh.addTk]⟩
                  simpa using hs'.mono (show Mem g (g.addTk H.length 0 (.slice a es.length es.length, (E.ty e).size)) from ⟨fun _ _ _ e => e, fun _ _ e => e⟩)
              · have : 0 < ys.length := by
                  cases ys with
                  | nil => exact absurd rfl hys
                  | cons _ _ => simp
                exact grow (.inl ⟨rfl, rfl⟩) hs' rfl (by omega) hroom rfl hst.symm
            · cases he
          · rename_i b k sz es
            split at he
            · rename_i hr
              simp only [Bool.and_eq_true] at hr
              have hsz' : sz = (E.ty e).size ∨ (es = [] ∧ sz = 0) := by
                have := hr.1; simp only [Bool.or_eq_true, Bool.and_eq_true, beq_iff_eq, List.isEmpty_iff] at this
                rcases this with h1 | ⟨h1, h2⟩
                · exact .inl h1
                · exact .inr ⟨h1, Nat.eq_of_beq_eq_true h2⟩
              have hsz : sz = (E.ty e).size ∨ es = [] := hsz'.imp id (·.1)
              have hroom := Nat.le_of_ble_eq_true hr.2
              split at he
              · rename_i k' hb
                split at he
                · rename_i hkk
                  simp only [beq_iff_eq] at hkk; subst hkk
                  simp only [Option.some.injEq, Prod.mk.injEq] at he
                  obtain ⟨rfl, rfl⟩ := he
                  have hbl : b < H.length := by
                    rcases Nat.lt_or_ge b H.length with h2 | h2
                    · exact h2
                    · simp [List.getElem?_eq_none h2] at hb
                  have hst : setTok H b (k + 1) = H.set b (.tok (k + 1)) := by simp [setTok, hbl]
                  simp only [VA] at hs
                  obtain ⟨hs, htk⟩ := hs
                  have hs' := VP_size hs hsz
                  have hB := R.blk b _ hb
                  simp only [BlkOk] at hB
                  obtain ⟨a, len, cap, sz', b1, b2⟩ := hB
                  rw [htk] at b1
                  simp only [Option.some.injEq, Prod.mk.injEq] at b1
                  obtain ⟨rfl, rfl⟩ := b1
                  have hlen : len = es.length := by simp only [VP] at hs'; obtain ⟨_, _, _, h1, _⟩ := hs'; cases h1; rfl
                  subst hlen
                  by_cases hfit : es.length + ys.length ≤ cap
                  · by_cases hys : ys = []
                    · subst hys
                      have hu0 : us = [] := by simpa [VPs] using hus
                      subst hu0
                      have hin := run_app_in (ty := ty) (base := a) (len := es.length) (cap := cap) (news := []) d1 dd1 dd2 hi1 hi2 (hur w rfl).1 (hur w rfl).2 (by simpa using hfit)
                      obtain ⟨g', R1, E1, V1⟩ := same_ok R hb hs' ⟨sz, htk, by
                        rcases hsz' with h | ⟨h1, h2⟩
                        · exact .inl h
                        · exact .inr ⟨h2, h1⟩⟩
                      rw [hst] at R1
                      refine ⟨_, w, g', ?_, by simpa using V1, R1, E1, by simp⟩
                      rw [hin]; cases a <;> simp [storeCells]
                    · have hpos : 0 < ys.length := by
                        cases ys with
                        | nil => exact absurd rfl hys
                        | cons _ _ => simp
                      rcases b2 with h | ⟨c, tt, cells, c1, rfl, c3, c4, c5, c6, c7, c8⟩
                      · omega
                      · have hsz2 : sz = (E.ty e).size := by
                          rcases hsz' with h | ⟨h1, h2⟩
                          · exact h
                          · omega
                        subst hsz2
                        simp only [VP] at hs'
                        obtain ⟨a', cap', vs, hsl, _, hvs, hvc, hl⟩ := hs'
                        simp only [Value.slice.injEq] at hsl; obtain ⟨rfl, _, rfl⟩ := hsl
                        have hh : vs = [] ∨ Holds g.mu c 0 (flatC vs) := by
                          rcases hl with h | ⟨b', o', h1, h2⟩
                          · exact .inl h
                          · simp only [Option.some.injEq, Addr.mk.injEq] at h1; obtain ⟨rfl, rfl, _⟩ := h1; exact .inr h2
                        obtain ⟨g', R1, E1, V1⟩ := room_ok R hb hvs hvc hh hus huc c1 c3 c4 c5 c7 hfit c8
                        rw [hst] at R1
                        have hin := run_app_in (ty := ty) (base := some ⟨c, 0, none⟩) (len := es.length) (cap := cap) d1 dd1 dd2 hi1 hi2 (hur w rfl).1 (hur w rfl).2 hfit
                        have hfu := flatC_length huc
                        have hnu := VPs_length hus
                        have hst2 := run_storeCells P (flatC us) w c tt cells (es.length * (E.ty e).size) 0 c3 (flatC_one huc) (by rw [hfu, c5, hnu, Nat.add_zero, ← Nat.add_mul]; exact Nat.mul_le_mul_right _ hfit)
                        refine ⟨_, _, g', ?_, V1, R1, E1, by simp⟩
                        rw [hin]
                        simp only [addr_add, Nat.zero_add]
                        rw [hst2]
                        simp
                  · exact grow (.inr ⟨k, hb, rfl⟩) hs' rfl (by omega) hroom rfl hst.symm
                · cases he
              · cases he
            · cases he
          · cases he
        · cases he
      · cases he
    · cases he
  · cases he

end Go.Pu
