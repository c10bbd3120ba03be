/-
  Operations that write memory or make it.
-/
import Derived.Test.YtflehnedcjjdjaaGreatDoorPuA6
set_option linter.unusedSimpArgs false
set_option linter.unusedVariables false
namespace Go.Pu

def Gh.addTk (g : Gh) (b k : Nat) (v : Value × Nat) : Gh :=
  { g with tk := fun x j => if x = b ∧ j = k then some v else g.tk x j, ow := fun x => if x = b then none else g.ow x }

/-- A slice without room gets a token, or takes one over. -/
theorem Rel.retok {g : Gh} {H : Hp} {w : World} (h : Rel g H w) {b k' : Nat} (hb : (b = H.length ∧ k' = 0) ∨ ∃ k, H[b]? = some (.tok k) ∧ k' = k + 1) (a : Option Addr) (n sz : Nat) :
    Rel (g.addTk b k' (.slice a n n, sz)) (setTok H b k') w ∧ Ext H.length g w (g.addTk b k' (.slice a n n, sz)) w := by
  refine h.tok hb ⟨fun _ _ _ e => e, fun _ _ e => e⟩ rfl (fun x hx => by simp [Gh.addTk, hx]) (fun x j hx => by simp [Gh.addTk, hx]) rfl ?_ (fun _ _ _ => rfl) (fun _ _ _ _ e => e) h.mu (fun _ _ _ e => .inl e) (Nat.le_refl _) rfl rfl rfl ?_
  · intro c e; simp [Gh.addTk] at e
  · simp only [BlkOk]
    exact ⟨a, n, n, sz, by simp [Gh.addTk], .inl rfl⟩

theorem VA_retok {g : Gh} {b k' : Nat} {sz : Nat} {es : List PV} {x : Value} (h : VA g (.ful sz es) x) : ∃ a n, x = .slice a n n ∧ VA (g.addTk b k' (.slice a n n, sz)) (.own b k' sz es) x := by
  simp only [VA] at h
  obtain ⟨h, a, n, rfl⟩ := h
  exact ⟨a, n, rfl, by simp only [VA]; exact ⟨h.mono (show Mem g (g.addTk b k' (.slice a n n, sz)) from ⟨fun _ _ _ e => e, fun _ _ e => e⟩), by simp [Gh.addTk]⟩⟩

theorem VAs_set {g : Gh} : ∀ {as : List AV} {xs : List Value} {i : Nat} {v : AV} {x : Value}, VAs g as xs → xs[i]? = some x → VA g v x → VAs g (as.set i v) xs
  | [], xs, i, v, x, h, _, _ => by simpa using h
  | a :: as, xs, i, v, x, h, hi, hv => by
    simp only [VAs] at h; obtain ⟨y, r, rfl, hy, h⟩ := h
    cases i with
    | zero => simp at hi; subst hi; simp only [List.set_cons_zero, VAs]; exact ⟨y, r, rfl, hv, h⟩
    | succ i => simp at hi; simp only [List.set_cons_succ, VAs]; exact ⟨y, r, rfl, hy, VAs_set h hi hv⟩

theorem mintC_ok {g : Gh} {H : Hp} {w : World} (R : Rel g H w) : ∀ (is : List Nat) {cs : List AV} {xs : List Value}, VAs g cs xs →
    ∃ g', Rel g' (mintC is cs H).2 w ∧ Ext H.length g w g' w ∧ VAs g' (mintC is cs H).1 xs ∧ H.length ≤ (mintC is cs H).2.length ∧ (mintC is cs H).1.length = cs.length
  | [], cs, xs, h => ⟨g, R, Ext.refl _ _ _, h, Nat.le_refl _, rfl⟩
  | i :: is, cs, xs, h => by
    simp only [mintC]
    split
    · rename_i sz es hi
      obtain ⟨x, hx, hv⟩ := VAs_get h hi
      obtain ⟨a, n, rfl, hv'⟩ := VA_retok (b := H.length) (k' := 0) hv
      obtain ⟨R1, E1⟩ := R.retok (.inl ⟨rfl, rfl⟩) a n sz
      have hs : setTok H H.length 0 = H ++ [.tok 0] := by simp [setTok]
      rw [hs] at R1
      have h1 : VAs (g.addTk H.length 0 (.slice a n n, sz)) (cs.set i (.own H.length 0 sz es)) xs :=
        VAs_set (h.mono E1.mor (h.under R.lt)) hx hv'
      obtain ⟨g', R2, E2, h2, h3, h4⟩ := mintC_ok R1 is h1
      exact ⟨g', R2, E1.trans E2 (by simp), h2, by simp at h3; omega, by rw [h4]; simp⟩
    · exact mintC_ok R is h

/-- A new variable. -/
theorem newO_ok {P : Program} {g : Gh} {H : Hp} {w : World} (R : Rel g H w) (mint : List Nat) {cs : List AV} {x : Value} (t : TypeId) (h : VAs g cs x.cells.toList) (ho : One x.cells.toList) :
    ∃ y w' g', (do pure (.pointer (some (← newVar t x))) : Sem Value).run P w = .ok y w' ∧ VA g' (newO mint cs H).1 y ∧ Rel g' (newO mint cs H).2 w' ∧ Ext H.length g w g' w' ∧ H.length ≤ (newO mint cs H).2.length := by
  have key : ∀ {g1 : Gh} {H1 : Hp} {cs1 : List AV}, Rel g1 H1 w → VAs g1 cs1 x.cells.toList → Rel (g1.addIo H1.length w.heap.size) (H1 ++ [.cells cs1]) (w.alloc (.cells x.cells t)) ∧ Ext H1.length g1 w (g1.addIo H1.length w.heap.size) (w.alloc (.cells x.cells t)) := by
    intro g1 H1 cs1 R1 h1
    refine R1.new ?_
    simp only [BlkOk]
    refine ⟨w.heap.size, t, x.cells.toList, [], by simp [Gh.addIo], ?_, by simpa using ho, h1.mono (Gh.addIo_mor (Nat.le_refl _)) (h1.under R1.lt), ?_⟩
    · rw [alloc_new]; simp
    · intro o
      cases e : g1.mu w.heap.size o with
      | none => exact e
      | some v =>
        have := R1.mu _ _ _ e
        simp [World.cell?, Array.getElem?_eq_none] at this
  have hrun : (do pure (.pointer (some (← newVar t x))) : Sem Value).run P w = .ok (.pointer (some ⟨w.heap.size, 0, none⟩)) (w.alloc (.cells x.cells t)) := by
    simp [newVar, newRow]
  cases mint with
  | nil =>
    obtain ⟨R1, E1⟩ := key R h
    refine ⟨_, _, _, hrun, ?_, R1, E1, by simp [newO]⟩
    simp only [newO, VA]; exact ⟨w.heap.size, by simp [Gh.addIo], rfl⟩
  | cons i is =>
    obtain ⟨g1, R1, E1, h1, hl, _⟩ := mintC_ok R (i :: is) h
    obtain ⟨R2, E2⟩ := key R1 h1
    refine ⟨_, _, _, hrun, ?_, R2, E1.trans E2 hl, by simp only [newO, List.length_append]; omega⟩
    simp only [newO, VA]; exact ⟨w.heap.size, by simp [Gh.addIo], rfl⟩

/-- A new variable in a block that waits. -/
theorem newD_ok {P : Program} {g : Gh} {H H' : Hp} {w : World} (R : Rel g H w) (dr : Option Draw) (rank : Nat) (mint : List Nat) {cs : List AV} {x : Value} {v : AV} (t : TypeId) (h : VAs g cs x.cells.toList) (ho : One x.cells.toList)
    (he : newD dr rank mint cs H = some (v, H')) :
    ∃ y w' g', (do pure (.pointer (some (← newVar t x))) : Sem Value).run P w = .ok y w' ∧ VA g' v y ∧ Rel g' H' w' ∧ (∀ n, n ≤ H.length → (∀ d, dr = some d → n ≤ d.n0) → Ext n g w g' w') ∧ Mor H.length g g' ∧ H.length ≤ H'.length := by
  unfold newD at he
  split at he
  · simp only [Option.some.injEq] at he
    obtain ⟨rfl, rfl⟩ : (newO mint cs H).1 = v ∧ (newO mint cs H).2 = H' := by rw [he]; exact ⟨rfl, rfl⟩
    obtain ⟨y, w', g', h1, h2, h3, h4, h5⟩ := newO_ok (P := P) R mint t h ho
    exact ⟨y, w', g', h1, h2, h3, fun n hn _ => h4.le hn, h4.mor, h5⟩
  · rename_i d
    split at he
    · rename_i hd
      cases he
      have hrun : (do pure (.pointer (some (← newVar t x))) : Sem Value).run P w = .ok (.pointer (some ⟨w.heap.size, 0, none⟩)) (w.alloc (.cells x.cells t)) := by
        simp [newVar, newRow]
      have hdead := hd
      have hmor : Mor H.length g (g.addIo (d.n0 + rank) w.heap.size) := by
        have hb0 : g.io (d.n0 + rank) = none := by have := R.blk _ _ hd; simpa only [BlkOk] using this
        exact { mu := fun _ _ _ e => e, nu := fun _ _ e => e, tk := fun _ _ _ _ e => e
                io := fun x c _ e => by
                  have : x ≠ d.n0 + rank := by rintro rfl; rw [hb0] at e; cases e
                  simp [Gh.addIo, this, e] }
      have hb : BlkOk (g.addIo (d.n0 + rank) w.heap.size) (w.alloc (.cells x.cells t)) (d.n0 + rank) (.cells cs) := by
        simp only [BlkOk]
        refine ⟨w.heap.size, t, x.cells.toList, [], by simp [Gh.addIo], ?_, by simpa using ho, h.mono hmor (h.under R.lt), ?_⟩
        · rw [alloc_new]; simp
        · intro o
          cases e : g.mu w.heap.size o with
          | none => exact e
          | some v =>
            have := R.mu _ _ _ e
            simp [World.cell?, Array.getElem?_eq_none] at this
      obtain ⟨R1, m1, _, e1⟩ := R.fill hd hb
      refine ⟨_, _, _, hrun, ?_, R1, fun n _ hn => e1 n (by have := hn d rfl; omega), m1, by simp⟩
      simp only [VA]; exact ⟨w.heap.size, by simp [Gh.addIo], rfl⟩
    · cases he

theorem retok_ok {w : World} : ∀ (olds vs : List AV) {g : Gh} {H : Hp} {xs ys : List Value}, Rel g H w → VAs g olds xs → VAs g vs ys →
    ∃ g', Rel g' (retok H olds vs).2 w ∧ Ext H.length g w g' w ∧ VAs g' (retok H olds vs).1 ys ∧ (retok H olds vs).2.length = H.length ∧ (∀ (x : Nat) (k : Blk), H[x]? = some k → (∀ n : Nat, k ≠ Blk.tok n) → (retok H olds vs).2[x]? = some k) ∧ g'.io = g.io ∧ g'.mu = g.mu ∧ g'.nu = g.nu
  | [], vs, g, H, xs, ys, R, _, hv => by
    have e : retok H [] vs = (vs, H) := by simp [retok]
    rw [e]; exact ⟨g, R, Ext.refl _ _ _, hv, rfl, fun _ _ h _ => h, rfl, rfl, rfl⟩
  | o :: olds, [], g, H, xs, ys, R, _, hv => by
    have : retok H (o :: olds) [] = ([], H) := by cases o <;> simp [retok]
    rw [this]; exact ⟨g, R, Ext.refl _ _ _, hv, rfl, fun _ _ h _ => h, rfl, rfl, rfl⟩
  | o :: olds, v :: vs, g, H, xs, ys, R, ho, hv => by
    simp only [VAs] at ho; obtain ⟨x, r, rfl, hox, ho⟩ := ho
    simp only [VAs] at hv; obtain ⟨y, s, rfl, hvy, hv⟩ := hv
    -- nothing to take over
    have plain : retok H (o :: olds) (v :: vs) = (v :: (retok H olds vs).1, (retok H olds vs).2) →
        ∃ g', Rel g' (retok H (o :: olds) (v :: vs)).2 w ∧ Ext H.length g w g' w ∧ VAs g' (retok H (o :: olds) (v :: vs)).1 (y :: s) ∧ (retok H (o :: olds) (v :: vs)).2.length = H.length ∧
          (∀ (x : Nat) (k : Blk), H[x]? = some k → (∀ n : Nat, k ≠ Blk.tok n) → (retok H (o :: olds) (v :: vs)).2[x]? = some k) ∧ g'.io = g.io ∧ g'.mu = g.mu ∧ g'.nu = g.nu := by
      intro e
      obtain ⟨g', R1, E1, h1, h2, h3, h4⟩ := retok_ok olds vs R ho hv
      rw [e]
      refine ⟨g', R1, E1, ?_, h2, h3, h4⟩
      simp only [VAs]; exact ⟨y, s, rfl, hvy.mono E1.mor (hvy.under R.lt), h1⟩
    by_cases hc : ∃ b k z es sz es', o = .own b k z es ∧ v = .ful sz es' ∧ ∃ n, H[b]? = some (.tok n)
    · obtain ⟨b, k, z, es, sz, es', rfl, rfl, n, hb⟩ := hc
      obtain ⟨a, m, rfl, hv'⟩ := VA_retok (b := b) (k' := n + 1) hvy
      obtain ⟨R1, E1⟩ := R.retok (.inr ⟨n, hb, rfl⟩) a m sz
      have hbl : b < H.length := by
        rcases Nat.lt_or_ge b H.length with h1 | h1
        · exact h1
        · simp [List.getElem?_eq_none h1] at hb
      have hs : setTok H b (n + 1) = H.set b (.tok (n + 1)) := by simp [setTok, hbl]
      rw [hs] at R1
      obtain ⟨g', R2, E2, h1, h2, h3, h4, h5, h6⟩ := retok_ok olds vs R1 (ho.mono E1.mor (ho.under R.lt)) (hv.mono E1.mor (hv.under R.lt))
      have e : retok H (.own b k z es :: olds) (.ful sz es' :: vs) = (.own b (n + 1) sz es' :: (retok (H.set b (.tok (n + 1))) olds vs).1, (retok (H.set b (.tok (n + 1))) olds vs).2) := by
        simp only [retok, hb]
      rw [e]
      refine ⟨g', R2, E1.trans E2 (by simp), ?_, by simpa using h2, ?_, h4, h5, h6⟩
      · simp only [VAs]; exact ⟨_, s, rfl, hv'.mono E2.mor (hv'.under R1.lt), h1⟩
      · intro x kx hx hk
        refine h3 x kx ?_ hk
        have : b ≠ x := by rintro rfl; rw [hb] at hx; exact hk n (Option.some.inj hx).symm
        rw [List.getElem?_set_ne this]; exact hx
    · apply plain
      cases o <;> try rfl
      rename_i b k z es
      cases v <;> try rfl
      rename_i sz es'
      simp only [retok]
      split
      · rename_i n hn; exact absurd ⟨b, k, z, es, sz, es', rfl, rfl, n, hn⟩ hc
      · rfl

/-- The variable of a place of a block is stored into. -/
theorem storeO_ok {E : Env} {P : Program} (T : TyOk E P) {g : Gh} {H H' : Hp} {w : World} (R : Rel g H w) {bases : List Nat} {t : Nat} {a v : AV} {x y : Value} (ha : VA g a x) (hv : VA g v y)
    (he : storeO E bases t H a v = some H') :
    ∃ w' g', (Instr.storeAt t x y).run P w = .ok () w' ∧ Rel g' H' w' ∧ Ext H.length g w g' w' ∧ H'.length = H.length := by
  unfold storeO at he
  split at he
  · rename_i b o
    split at he
    · rename_i cs hb
      split at he
      · rename_i hc
        obtain ⟨hok, hkn, hl, hle, _⟩ := hc
        cases he
        simp only [VA] at ha; obtain ⟨c, hc, rfl⟩ := ha
        have hB := R.blk b _ hb
        simp only [BlkOk] at hB
        obtain ⟨c', t', vs, ex, h1, h2, h3, h4, h5⟩ := hB
        rw [hc] at h1; cases h1
        have hcv := VA_cells hv hkn
        have hov := VA_one hv hkn
        have hlv := VAs_length hcv
        have hlc := VAs_length h4
        obtain ⟨g1, R1, E1, k1, k2, k3, k4, k5, k6⟩ := retok_ok (cs.drop o) v.cells R (VAs_drop o h4) hcv
        have hb1 := k3 b _ hb (by simp)
        have hc1 : g1.io b = some c := by rw [k4]; exact hc
        have hnew : BlkOk g1 (w.withBlk c (.cells (putL (vs ++ ex) o y.cells.toList).toArray t' (0, 0))) b (.cells (cs.take o ++ (retok H (cs.drop o) v.cells).1 ++ cs.drop (o + v.cells.length))) := by
          simp only [BlkOk]
          have hlr := VAs_length k1
          refine ⟨c, t', putL vs o y.cells.toList, ex, hc1, ?_, ?_, ?_, fun o => by rw [k5]; exact h5 o⟩
          · rw [withBlk_eq _ _ (R.io b c hc).2]
            congr 2
            unfold putL
            rw [List.take_append_of_le_length (by omega), List.drop_append_of_le_length (by omega)]
            simp [List.append_assoc]
          · exact (putL_One (fun u hu => h3 u (List.mem_append_left _ hu)) hov).append (fun u hu => h3 u (List.mem_append_right _ hu))
          · have h4' := h4.mono E1.mor (h4.under R.lt)
            unfold putL
            rw [hlv]
            exact VAs_append (VAs_append (VAs_take _ h4') k1) (VAs_drop _ h4')
        have hnu : g1.nu c = none := by
          rw [k6]
          cases e : g.nu c with
          | none => rfl
          | some es => obtain ⟨clk, hh⟩ := R.nu c es e; rw [h2] at hh; cases hh
        obtain ⟨R2, E2⟩ := R1.set hb1 (by simp) hc1 (fun o => by rw [k5]; exact h5 o) hnu hnew
        refine ⟨_, g1, ?_, R2, E1.trans E2 (by omega), by simp [k2]⟩
        have hsz : ¬ y.cells.size ≠ (E.ty t).size := by
          have : y.cells.size = y.cells.toList.length := by simp
          rw [this, hlv, hl]; simp
        have hst := run_storeCells P y.cells.toList w c t' (vs ++ ex) o 0 h2 hov (by simp; have : y.cells.size = y.cells.toList.length := by simp
                                                                                     omega)
        simp only [Nat.add_zero] at hst
        simp only [Instr.storeAt, Instr.sureAddr, Sem.run_bind, Sem.run_pure, Result.andThen_ok, storeVar, run_sizeOf' T hok]
        rw [if_neg hsz]
        exact hst
      · cases he
    · cases he
  · cases he


/-! ### New memory that nobody changes; appending -/

def Gh.addMu (g : Gh) (c : Nat) (vs : List Value) : Gh := { g with mu := fun x o => if x = c then vs[o]? else g.mu x o }

/-- A new block of memory whose first cells nobody will change. -/
theorem Rel.still {g : Gh} {H : Hp} {w w' : World} (h : Rel g H w) (vs ex : List Value) (t : TypeId) (fr : Nat × Nat) (hw : w'.heap = w.heap.push (.cells (vs ++ ex).toArray t fr)) (hos : w'.os = w.os) (htape : w'.tape = w.tape) (hout : w'.output = w.output) :
    Rel (g.addMu w.heap.size vs) H w' ∧ Ext H.length g w (g.addMu w.heap.size vs) w' := by
  have hg0 : ∀ o, g.mu w.heap.size o = none := by
    intro o
    cases e : g.mu w.heap.size o with
    | none => rfl
    | some v => have := h.mu _ _ _ e; simp [World.cell?] at this
  have hold : ∀ c, c < w.heap.size → w'.heap[c]? = w.heap[c]? := by
    intro c hc; rw [hw, Array.getElem?_push, if_neg (by omega)]
  have hnew : w'.heap[w.heap.size]? = some (.cells (vs ++ ex).toArray t fr) := by rw [hw]; simp
  have hsz : w'.heap.size = w.heap.size + 1 := by rw [hw]; simp
  have hmem : Mem g (g.addMu w.heap.size vs) := ⟨fun b o v e => by
    have : b ≠ w.heap.size := by rintro rfl; rw [hg0] at e; cases e
    simp [Gh.addMu, this, e], fun _ _ e => e⟩
  have hmor : Mor H.length g (g.addMu w.heap.size vs) := { hmem with io := fun _ _ _ e => e, tk := fun _ _ _ _ e => e }
  refine ⟨?_, ?_⟩
  · constructor
    · intro b o v e
      simp only [Gh.addMu] at e
      split at e
      · rename_i hb; subst hb
        rw [cell_of hnew, List.getElem?_append_left]
        · exact e
        · rcases Nat.lt_or_ge o vs.length with h1 | h1
          · exact h1
          · rw [List.getElem?_eq_none h1] at e; cases e
      · have hd := h.mu b o v e
        have : b < w.heap.size := by
          rcases Nat.lt_or_ge b w.heap.size with h1 | h1
          · exact h1
          · simp [World.cell?, Array.getElem?_eq_none h1] at hd
        rw [cell_congr (hold b this)]; exact hd
    · intro r es e
      obtain ⟨clk, hh⟩ := h.nu r es e
      exact ⟨clk, (hold r (heap_lt hh)).trans hh⟩
    · intro x y e; have := h.io x y e; omega
    · intro x y e; have := h.ow x y e; omega
    · exact h.tk
    · exact h.inj
    · exact h.inj'
    · exact h.dis
    · intro x kx hx
      have hx' := h.blk x kx hx
      have hxl : x < H.length := by
        rcases Nat.lt_or_ge x H.length with h1 | h1
        · exact h1
        · simp [List.getElem?_eq_none h1] at hx
      have hlt : ∀ d, g.io x = some d ∨ g.ow x = some d → d < w.heap.size := by
        rintro d (hd | hd)
        · exact (h.io _ _ hd).2
        · exact (h.ow _ _ hd).2
      exact hx'.keep (n := H.length) hmor hxl (hx'.under h.lt) rfl rfl (fun d hd => hold d (hlt d hd)) (fun d o hd => by have := hlt d hd; simp [Gh.addMu, show d ≠ w.heap.size by omega]) (fun _ _ => rfl)
  · refine ⟨hmem, fun _ _ => rfl, fun _ _ _ _ e => e, fun c hc _ _ => hold c hc, fun _ b _ e => ⟨b, e⟩, fun _ b _ e => ⟨b, e⟩, ?_, fun _ _ e => .inl e, by omega, hos, htape, hout⟩
    intro c o v e
    simp only [Gh.addMu] at e
    split at e
    · rename_i hc; subst hc; exact .inr (.inl (Nat.le_refl _))
    · exact .inl e

theorem Holds_new {g : Gh} {w : World} {vs : List Value} : Holds (g.addMu w.heap.size vs).mu w.heap.size 0 vs := by
  intro i v e
  simp [Gh.addMu, e]

theorem Rel.mor_still {g : Gh} {H : Hp} {w : World} (h : Rel g H w) (vs : List Value) : Mor H.length g (g.addMu w.heap.size vs) := by
  have hg0 : ∀ o, g.mu w.heap.size o = none := by
    intro o
    cases e : g.mu w.heap.size o with
    | none => rfl
    | some v => have := h.mu _ _ _ e; simp [World.cell?] at this
  exact { mu := fun b o v e => by
            have : b ≠ w.heap.size := by rintro rfl; rw [hg0] at e; cases e
            simp [Gh.addMu, this, e]
          nu := fun _ _ e => e, io := fun _ _ _ e => e, tk := fun _ _ _ _ e => e }

theorem partsO_ok {E : Env} {g : Gh} {fr : Fr} {a : Act} (G : GlobOk E g) (F : FrOk g fr a) {size : Nat} : ∀ {ps : List (Nat × Operand)} {k : Nat} {vs : List AV}, partsO (evalO E fr) size k ps = some vs →
    (∀ v ∈ vs, v.known = true) ∧ vs.length = ps.length ∧ ps.map (·.1) = (List.range' k ps.length) ∧ VAs g vs (ps.map fun p => a.eval p.2) ∧ ∀ x ∈ ps.map (fun p => a.eval p.2), x.cells.size = size ∧ One x.cells.toList
  | [], k, vs, he => by simp only [partsO, Option.some.injEq] at he; subst he; simp [VAs]
  | (j, x) :: ps, k, vs, he => by
    simp only [partsO] at he
    split at he
    · rename_i hc
      obtain ⟨rfl, hk, hs⟩ := hc
      cases hr : partsO (evalO E fr) size (k + 1) ps with
      | none => rw [hr] at he; cases he
      | some r =>
        rw [hr] at he; simp only [Option.map_some, Option.some.injEq] at he; subst he
        obtain ⟨h1, h2, h3, h4, h5⟩ := partsO_ok G F hr
        have hv := evalO_ok G F x
        have hcv := VAs_length (VA_cells hv hk)
        refine ⟨by simpa [hk] using h1, by simp [h2], by simp [h3, List.range'_succ], ?_, ?_⟩
        · simp only [List.map_cons, VAs]; exact ⟨_, _, rfl, hv, h4⟩
        · intro y hy
          simp only [List.map_cons, List.mem_cons] at hy
          rcases hy with rfl | hy
          · refine ⟨?_, VA_one hv hk⟩
            rw [← hs, ← hcv]; simp
          · exact h5 y hy
    · cases he

/-- A slice that is written out: the cells of its parts, one behind the other. -/
theorem fill_parts {size : Nat} : ∀ (xs : List Value) (k : Nat) (pre post : List Value), (∀ x ∈ xs, x.cells.size = size ∧ One x.cells.toList) → pre.length = k * size → post.length = xs.length * size →
    Instr.fill (fun i => some (i * size, size)) (pre ++ post).toArray ((List.range' k xs.length).zip xs) = some (pre ++ flatC xs).toArray
  | [], k, pre, post, _, _, hp => by
    have : post = [] := List.eq_nil_of_length_eq_zero (by simpa using hp)
    subst this; simp [Instr.fill, flatC]
  | x :: xs, k, pre, post, h, hk, hp => by
    have hx := (h x (by simp)).1
    have hxl : x.cells.toList.length = size := by simpa using hx
    simp only [List.length_cons, Nat.succ_mul] at hp
    simp only [List.length_cons, List.range'_succ, List.zip_cons_cons, Instr.fill]
    have h1 : ¬ ((decide (x.cells.size ≠ size) || decide (k * size + x.cells.size > (pre ++ post).toArray.size)) = true) := by
      simp [hx]; omega
    rw [if_neg (by simpa using h1)]
    have h2 := fold_put (pre ++ post) x.cells.toList (k * size) (by simp [hxl]; omega)
    simp only [Array.toArray_toList] at h2
    have h3 : putL (pre ++ post) (k * size) x.cells.toList = (pre ++ x.cells.toList) ++ post.drop size := by
      unfold putL
      rw [hxl, ← hk, List.take_left', List.drop_append]
      · simp
      · rfl
    rw [h2, h3]
    rw [fill_parts xs (k + 1) (pre ++ x.cells.toList) (post.drop size) (fun y hy => h y (by simp [hy])) (by simp [hxl, hk, Nat.succ_mul]) (by simp; omega)]
    simp [flatC]


theorem zip_fst_snd {α β : Type} : ∀ (l : List (α × β)), (l.map (·.1)).zip (l.map (·.2)) = l
  | [] => rfl
  | (a, b) :: l => by simp [zip_fst_snd l]

theorem bsliceO_ok {E : Env} {P : Program} (T : TyOk E P) {g : Gh} {H : Hp} {w : World} (R : Rel g H w) {fr : Fr} {a : Act} (G : GlobOk E g) (F : FrOk g fr a) {t n : Nat} {ps : List (Nat × Operand)} {v : AV}
    (he : bsliceO E (evalO E fr) t n ps = some v) :
    ∃ y w' g', (Instr.buildSlice t n (ps.map fun (i, x) => (i, a.eval x)).toArray).run P w = .ok y w' ∧ VA g' v y ∧ Rel g' H w' ∧ Ext H.length g w g' w' := by
  unfold bsliceO at he
  split at he
  · rename_i e hk
    split at he
    · rename_i hc
      obtain ⟨hn, hmax, hz⟩ := hc
      cases hp : partsO (evalO E fr) (E.ty e).size 0 ps with
      | none => rw [hp] at he; cases he
      | some vs =>
        rw [hp] at he; simp only [Option.map_some, Option.some.injEq] at he
        obtain ⟨h1, h2, h3, h4, h5⟩ := partsO_ok G F hp
        obtain ⟨d, d1, d2, _⟩ := run_underlying' T (T.of_kd (t := t) (by rw [hk]; simp)) w
        rw [hk] at d2; simp only [KdOk] at d2; obtain ⟨rfl, hek⟩ := d2
        obtain ⟨z, z1, _⟩ := run_zeroValue' T hek hz w
        -- the cells
        generalize hxs : ps.map (fun p => a.eval p.2) = xs at *
        have hlx : xs.length = n := by rw [← hxs]; simp [hn]
        have hps : (ps.map fun (i, x) => (i, a.eval x)) = (List.range' 0 xs.length).zip xs := by
          have e1 : (ps.map fun (i, x) => (i, a.eval x)).map (·.1) = ps.map (·.1) := by simp [List.map_map]
          have e2 : (ps.map fun (i, x) => (i, a.eval x)).map (·.2) = xs := by rw [← hxs]; simp [List.map_map]
          rw [← zip_fst_snd (ps.map fun (i, x) => (i, a.eval x)), e1, e2, h3, hlx, hn]
        have hfill : ∀ (zs : Array Value), Instr.fill (fun i => some (i * (E.ty e).size, (E.ty e).size)) ((Array.range (n * (E.ty e).size)).map (fun i => zs[i % zs.size]!)) (ps.map fun (i, x) => (i, a.eval x)) = some (flatC xs).toArray := by
          intro zs
          have := fill_parts (size := (E.ty e).size) xs 0 [] ((List.range (n * (E.ty e).size)).map fun i => zs[i % zs.size]!) h5 (by simp) (by simp [hlx])
          rw [hps]
          simp only [List.nil_append] at this
          rw [← this]
          have e3 : ((Array.range (n * (E.ty e).size)).map (fun i => zs[i % zs.size]!)) = ((List.range (n * (E.ty e).size)).map fun i => zs[i % zs.size]!).toArray := by
            rw [← List.toArray_range, List.map_toArray]
          rw [e3]
        have hrun : (Instr.buildSlice t n (ps.map fun (i, x) => (i, a.eval x)).toArray).run P w = .ok (.slice (some ⟨w.heap.size, 0, none⟩) n n) { w with heap := w.heap.push (.cells (flatC xs).toArray e) } := by
          have hm : ¬ n * (E.ty e).size > 2 ^ 24 := by omega
          simp only [Instr.buildSlice, Sem.run_bind, d1, Result.andThen_ok, run_sizeOf' T hek]
          rw [if_neg hm]
          by_cases h0 : n * (E.ty e).size = 0
          · simp only [Sem.run_bind, Sem.run_pure, Result.andThen_ok, h0, if_true]
            rw [h0] at hfill
            have hf := hfill #[]
            simp only [hf, Sem.run_bind, Sem.run_pure, Result.andThen_ok, newRow, run_newObj]
          · simp only [Sem.run_bind, Sem.run_pure, Result.andThen_ok, if_neg h0, z1, hfill, newRow, run_newObj]
        obtain ⟨R1, E1⟩ := R.still (w' := { w with heap := w.heap.push (.cells (flatC xs).toArray e) }) (flatC xs) [] e (0, 0) (by simp) rfl rfl rfl
        refine ⟨_, _, _, hrun, ?_, R1, E1⟩
        have hL : Lies (g.addMu w.heap.size (flatC xs)) (E.ty e).size (some ⟨w.heap.size, 0, none⟩) xs := ⟨h5, .inr ⟨w.heap.size, 0, rfl, Holds_new⟩⟩
        have h4' := h4.mono (R.mor_still (flatC xs)) (h4.under R.lt)
        subst he
        split
        · rename_i es hes
          have hp := allPV_ok h4' hes
          have hl := VPs_length hp
          have hes' : es.length = n := by rw [← hlx, hl]
          simp only [VA, VP]
          exact ⟨⟨_, n, xs, by rw [hes'], by omega, hp, hL⟩, _, _, rfl⟩
        · have hl := VAs_length h4'
          have hvs : vs.length = n := by rw [← hlx, hl]
          simp only [VA]
          exact ⟨h1, _, n, xs, by rw [hvs], by omega, h4', hL⟩
    · cases he
  · cases he

end Go.Pu
