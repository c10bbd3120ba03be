/-
  Texts as bytes; slices that are made.
-/
import Derived.Test.YtflehnedcjjdjaaGreatDoorPuA15
import Derived.Laws.MakeOwn
import Derived.Laws.IdiomStrings
set_option linter.unusedSimpArgs false
set_option linter.unusedVariables false
namespace Go.Pu

theorem push_modify {α : Type} (a : Array α) (x : α) (f : α → α) : (a.push x).modify a.size f = a.push (f x) := by
  apply Array.ext_getElem?; intro i
  rw [Array.getElem?_modify, Array.getElem?_push, Array.getElem?_push]
  by_cases e : i = a.size
  · subst e; simp
  · have : ¬ a.size = i := fun h => e h.symm
    simp [e, this]

section
variable {E : Env} {P : Program}

theorem encB_ok {g : Gh} : ∀ (s : List UInt8), VPs g (s.map encB) (s.map fun b => Value.int .u8 b.toNat)
  | [] => by simp [VPs]
  | b :: s => by simp only [List.map_cons, VPs]; exact ⟨_, _, rfl, by simp [encB, VP], encB_ok s⟩

theorem convB_ok (T : TyOk E P) {g : Gh} {H : Hp} {w : World} (R : Rel g H w) {src dst : Nat} {a v : AV} {x : Value} (h : VA g a x) (he : convB E src dst a = some v) :
    ∃ y w' g', (convert src dst x).run P w = .ok y w' ∧ VA g' v y ∧ Rel g' H w' ∧ Ext H.length g w g' w' := by
  unfold convB at he
  split at he
  · rename_i e s hks hkd
    split at he
    · rename_i hu
      cases he
      obtain ⟨d1, s1, s2, _⟩ := (T.real src (T.of_kd (by rw [hks]; simp))).kd
      rw [hks] at s2; simp only [KdOk] at s2; subst s2
      obtain ⟨d2, t1, t2, _⟩ := (T.real dst (T.of_kd (by rw [hkd]; simp))).kd
      rw [hkd] at t2; simp only [KdOk] at t2; obtain ⟨rfl, _⟩ := t2
      simp only [VA, VP] at h; subst h
      have hsz : (⟨s.toArray⟩ : ByteArray).size = s.length := by show s.toArray.size = _; simp
      have hrun := run_bytes_of_string w src dst e ⟨s.toArray⟩ s1 t1 (isU8_ok T hu)
      rw [hsz] at hrun
      generalize hcap : grownCap w s.length 0 e = cap at hrun
      have hcl : s.length ≤ cap := by rw [← hcap]; simp [grownCap, Question.cut]
      let us : List Value := s.map fun b => Value.int .u8 b.toNat
      let ex : List Value := List.replicate (cap - s.length) (.int .u8 0)
      have hfl : flatC us = us := by
        simp only [us, flatC]
        clear hrun hcap hcl hsz ex us
        induction s with
        | nil => rfl
        | cons b s ih => rw [List.map_cons, List.flatMap_cons, ih]; rfl
      have harr : bytesRow ⟨s.toArray⟩ cap = (us ++ ex).toArray := by
        unfold bytesRow; rw [hsz]
        apply Array.ext'; simp [us, ex]
      rw [harr] at hrun
      obtain ⟨R0, E0⟩ := R.drawn (w' := w.drew) rfl rfl rfl rfl
      obtain ⟨R1, E1⟩ := R0.still (w' := w.drew.alloc (.cells (us ++ ex).toArray e ((us ++ ex).toArray.size, (us ++ ex).toArray.size + 1))) us ex e ((us ++ ex).toArray.size, (us ++ ex).toArray.size + 1) rfl rfl rfl rfl
      refine ⟨_, _, _, hrun, ?_, R1, E0.trans E1 (Nat.le_refl _)⟩
      simp only [VA, VP]
      refine ⟨some ⟨w.heap.size, 0, none⟩, cap, us, by simp, by simpa using hcl, encB_ok s, ?_, .inr ⟨w.heap.size, 0, rfl, ?_⟩⟩
      · intro u hu'
        obtain ⟨b, _, rfl⟩ := List.mem_map.1 hu'
        exact ⟨rfl, fun z hz => by simp [Value.cells] at hz; subst hz; rfl⟩
      · rw [hfl]; exact Holds_new
    · cases he
  · cases he

theorem rep_cells {zs : List Value} {size : Nat} (hz : zs.length = size) : ∀ (n k : Nat), (List.range' (k * size) (n * size)).map (fun i => zs.toArray[i % zs.toArray.size]!) = (List.replicate n zs).flatten
  | 0, k => by simp
  | n + 1, k => by
    have ih := rep_cells hz n (k + 1)
    rw [Nat.add_mul, Nat.one_mul, Nat.add_comm (n * size) size, ← List.range'_append_1, List.map_append, show k * size + size = (k + 1) * size by rw [Nat.add_mul, Nat.one_mul], ih]
    rw [List.replicate_succ, List.flatten_cons]
    congr 1
    apply List.ext_getElem?; intro i
    rw [List.getElem?_map]
    by_cases hi : i < size
    · rw [List.getElem?_range' (by exact hi)]
      simp only [Option.map_some, List.size_toArray, hz]
      rw [show (k * size + 1 * i) % size = i by rw [Nat.one_mul, Nat.add_comm, Nat.add_mul_mod_self_right, Nat.mod_eq_of_lt hi]]
      have : i < zs.length := by omega
      simp [this]
    · rw [List.getElem?_eq_none (by simp; omega), List.getElem?_eq_none (by omega)]; rfl

theorem VAs_rep {g : Gh} {cs : List AV} {zs : List Value} (h : VAs g cs zs) : ∀ n, VAs g (List.replicate n cs).flatten (List.replicate n zs).flatten
  | 0 => by simp [VAs]
  | n + 1 => by rw [List.replicate_succ, List.replicate_succ, List.flatten_cons, List.flatten_cons]; exact VAs_append h (VAs_rep h n)

theorem makeSlO_ok (T : TyOk E P) {g : Gh} {H H' : Hp} {w : World} (R : Rel g H w) {t : Nat} {l c v : AV} {x y : Value} (hl : VA g l x) (hc : VA g c y) (he : makeSlO E t H l c = some (v, H')) :
    ∃ z w' g', (Instr.makeSlice t x y).run P w = .ok z w' ∧ VA g' v z ∧ Rel g' H' w' ∧ Ext H.length g w g' w' ∧ ∃ cs, H' = H ++ [.cells cs] := by
  unfold makeSlO at he
  split at he
  · rename_i e k1 l k2 c hk
    split at he
    · rename_i hcd
      obtain ⟨h0, hlc, hroom, hcm, hz⟩ := hcd
      cases he
      obtain ⟨d, h1, h2, _⟩ := (T.real t (T.of_kd (by rw [hk]; simp))).kd
      rw [hk] at h2; simp only [KdOk] at h2; obtain ⟨rfl, hek⟩ := h2
      obtain ⟨i, hi1, hi2, hi3, hi4⟩ := (T.real e hek).info
      obtain ⟨z, hz1, hz2, hz3, hz4⟩ := hi4 hz.symm
      simp only [VA, VP] at hl hc; subst hl hc
      have hroom' := Nat.le_of_ble_eq_true hroom
      rw [← hi3] at hroom'
      have hb : (i.bytes : Int) * c ≤ 281474976710656 := by
        have e1 : ((c.toNat * i.bytes : Nat) : Int) ≤ 140737488355328 := Int.ofNat_le.2 hroom'
        rw [Int.natCast_mul, Int.toNat_of_nonneg (by omega), Int.mul_comm] at e1
        omega
      have hrun := run_make w t e i z h1 hi1 hz1 k1 k2 l c h0 hlc hb (by omega)
      have hzl : z.cells.toList.length = (E.ty e).size := by
        have := VPs_length (hz4 g).1; rw [← hz] at this; exact this
      have hcells : madeCells z.cells (c.toNat * i.size) = ((List.replicate c.toNat z.cells.toList).flatten ++ []).toArray := by
        apply Array.ext'
        have := rep_cells hzl c.toNat 0
        rw [Nat.zero_mul] at this
        simp only [List.append_nil]
        rw [← this, hi2, madeCells]
        simp [List.range_eq_range']
      rw [hcells] at hrun
      have hone : One ((List.replicate c.toNat z.cells.toList).flatten ++ []) := by
        intro u hu
        rw [List.append_nil] at hu
        obtain ⟨l', h3, h4⟩ := List.mem_flatten.1 hu
        rw [List.eq_of_mem_replicate h3] at h4
        exact hz2 u h4
      obtain ⟨R1, E1⟩ := R.new (k := .cells ((List.replicate c.toNat ((E.ty e).zero.map AV.pv)).flatten)) (o := .cells ((List.replicate c.toNat z.cells.toList).flatten ++ []).toArray e (0, 0)) (by
        simp only [BlkOk]
        refine ⟨w.heap.size, e, _, [], by simp [Gh.addIo], alloc_new w _, hone, VAs_rep (VAs_pv (hz4 _).1) _, fun o => ?_⟩
        cases e1 : g.mu w.heap.size o with
        | none => exact e1
        | some u => have := R.mu _ _ _ e1; simp [World.cell?] at this)
      refine ⟨_, _, _, hrun, ?_, R1, E1, _, rfl⟩
      simp only [VA]
      refine ⟨w.heap.size, some ⟨w.heap.size, 0, none⟩, c.toNat, by simp [Gh.addIo], rfl, by omega, Nat.le_refl _, .inr rfl⟩
    · cases he
  · cases he

end
end Go.Pu
