/-
  Every operation.
-/
import Derived.Test.YtflehnedcjjdjaaGreatDoorPuA13
import Derived.Test.YtflehnedcjjdjaaGreatDoorPuA14
import Derived.Test.YtflehnedcjjdjaaGreatDoorPuA16
set_option linter.unusedSimpArgs false
set_option linter.unusedVariables false
namespace Go.Pu

theorem Und.set {bases : List Nat} {H : Hp} (U : Und bases H) {b : Nat} {k : Blk} (h : ∀ B ∈ bases, b < B → k.under B = true) : Und bases (H.set b k) := by
  intro B hB
  obtain ⟨h1, h2⟩ := U B hB
  refine ⟨by simpa using h1, fun x kx hx hk => ?_⟩
  by_cases e : b = x
  · subst e
    have hl : b < H.length := by omega
    rw [List.getElem?_set_self hl] at hk; cases hk
    exact h B hB hx
  · rw [List.getElem?_set_ne e] at hk; exact h2 x kx hx hk

theorem Und.app {bases : List Nat} {H : Hp} (U : Und bases H) (ks : Hp) : Und bases (H ++ ks) := by
  intro B hB
  obtain ⟨h1, h2⟩ := U B hB
  refine ⟨by simp; omega, fun x kx hx hk => ?_⟩
  rw [List.getElem?_append_left (by omega)] at hk
  exact h2 x kx hx hk

theorem Und.same {bases : List Nat} {H H' : Hp} (U : Und bases H) (hl : H.length ≤ H'.length) (h : ∀ b k, H'[b]? = some k → b < H.length → k.under b = true ∨ H[b]? = some k ∨ ∃ n, k = .tok n) : Und bases H' := by
  intro B hB
  obtain ⟨h1, h2⟩ := U B hB
  refine ⟨by omega, fun x kx hx hk => ?_⟩
  rcases h x kx hk (by omega) with h3 | h3 | ⟨n, rfl⟩
  · exact Blk.under_mono (by omega) h3
  · exact h2 x kx hx h3
  · rfl

theorem okTo_ok {bases : List Nat} {b : Nat} {v : AV} (h : okTo bases b v = true) : ∀ B ∈ bases, b < B → v.under B = true := by
  intro B hB hb
  have := List.all_eq_true.1 h B hB
  simp only [Bool.or_eq_true] at this
  rcases this with h1 | h1
  · have := Nat.le_of_ble_eq_true h1; omega
  · exact h1

theorem unders_append {n : Nat} : ∀ {a b : List AV}, AV.unders n (a ++ b) = (AV.unders n a && AV.unders n b)
  | [], b => by simp [AV.unders]
  | x :: a, b => by simp [AV.unders, unders_append, Bool.and_assoc]

theorem unders_take {n : Nat} (k : Nat) : ∀ {a : List AV}, AV.unders n a = true → AV.unders n (a.take k) = true := by
  intro a h
  rw [← List.take_append_drop k a, unders_append, Bool.and_eq_true] at h
  exact h.1

theorem unders_drop {n : Nat} (k : Nat) : ∀ {a : List AV}, AV.unders n a = true → AV.unders n (a.drop k) = true := by
  intro a h
  rw [← List.take_append_drop k a, unders_append, Bool.and_eq_true] at h
  exact h.2

theorem unders_pv {n : Nat} : ∀ (ps : List PV), AV.unders n (ps.map .pv) = true
  | [] => rfl
  | p :: ps => by simp [AV.unders, AV.under, unders_pv ps]

theorem under_cells {n : Nat} {v : AV} (h : v.under n = true) : AV.unders n v.cells = true := by
  cases v <;> simp only [AV.cells, AV.under] at h ⊢ <;> first
    | exact h
    | exact unders_pv _
    | (simp only [AV.unders, AV.under, Bool.and_true]; exact h)
    | rfl

theorem retok_under {B : Nat} : ∀ (olds vs : List AV) (H : Hp), AV.unders B olds = true → AV.unders B vs = true → AV.unders B (retok H olds vs).1 = true
  | [], vs, H, _, h => by simpa [retok] using h
  | x :: olds, [], H, _, _ => by cases x <;> simp [retok, AV.unders]
  | x :: olds, v :: vs, H, h1, h2 => by
    simp only [AV.unders, Bool.and_eq_true] at h1 h2
    by_cases hx : ∃ b' g' sz' es' sz es, x = .own b' g' sz' es' ∧ v = .ful sz es
    · obtain ⟨b', g', sz', es', sz, es, rfl, rfl⟩ := hx
      simp only [retok]
      cases hb : H[b']? with
      | none => simp only [AV.unders, Bool.and_eq_true]; exact ⟨h2.1, retok_under olds vs H h1.2 h2.2⟩
      | some kk =>
        cases kk with
        | tok g2 => simp only [AV.unders, Bool.and_eq_true]; exact ⟨by simpa [AV.under] using h1.1, retok_under olds vs _ h1.2 h2.2⟩
        | _ => simp only [AV.unders, Bool.and_eq_true]; exact ⟨h2.1, retok_under olds vs H h1.2 h2.2⟩
    · have : retok H (x :: olds) (v :: vs) = (v :: (retok H olds vs).1, (retok H olds vs).2) := by
        cases x <;> cases v <;> first | rfl | exact absurd ⟨_, _, _, _, _, _, rfl, rfl⟩ hx
      rw [this]; simp only [AV.unders, Bool.and_eq_true]; exact ⟨h2.1, retok_under olds vs H h1.2 h2.2⟩

theorem retok_toks : ∀ (olds vs : List AV) (H : Hp), (retok H olds vs).2.length = H.length ∧ ∀ (b : Nat) (k : Blk), (retok H olds vs).2[b]? = some k → H[b]? = some k ∨ ∃ n, k = Blk.tok n
  | [], vs, H => ⟨by simp [retok], fun b k h => .inl (by simpa [retok] using h)⟩
  | x :: olds, [], H => by cases x <;> exact ⟨by simp [retok], fun b k h => .inl (by simpa [retok] using h)⟩
  | x :: olds, v :: vs, H => by
    by_cases hx : ∃ b' g' sz' es' sz es, x = .own b' g' sz' es' ∧ v = .ful sz es
    · obtain ⟨b', g', sz', es', sz, es, rfl, rfl⟩ := hx
      simp only [retok]
      cases hb : H[b']? with
      | none => exact retok_toks olds vs H
      | some kk =>
        cases kk with
        | tok g2 =>
          obtain ⟨h1, h2⟩ := retok_toks olds vs (H.set b' (.tok (g2 + 1)))
          refine ⟨by simpa using h1, fun b k h => ?_⟩
          rcases h2 b k h with h3 | h3
          · by_cases e : b' = b
            · subst e
              have hl : b' < H.length := by
                rcases Nat.lt_or_ge b' H.length with h1 | h1
                · exact h1
                · simp [List.getElem?_eq_none h1] at hb
              rw [List.getElem?_set_self hl] at h3; cases h3; exact .inr ⟨_, rfl⟩
            · rw [List.getElem?_set_ne e] at h3; exact .inl h3
          · exact .inr h3
        | _ => exact retok_toks olds vs H
    · have : retok H (x :: olds) (v :: vs) = (v :: (retok H olds vs).1, (retok H olds vs).2) := by
        cases x <;> cases v <;> first | rfl | exact absurd ⟨_, _, _, _, _, _, rfl, rfl⟩ hx
      rw [this]; exact retok_toks olds vs H

theorem storeO_und {E : Env} {bases : List Nat} {t : Nat} {H H' : Hp} {a v : AV} (U : Und bases H) (he : storeO E bases t H a v = some H') : Und bases H' := by
  unfold storeO at he
  split at he
  · rename_i b o
    split at he
    · rename_i cs hb
      split at he
      · rename_i hc
        cases he
        obtain ⟨h1, h2⟩ := retok_toks (cs.drop o) v.cells H
        refine Und.set (U.same (Nat.le_of_eq h1.symm) fun b k h _ => .inr (h2 b k h)) fun B hB hbB => ?_
        have hv := under_cells (okTo_ok hc.2.2.2.2 B hB hbB)
        have hcs : AV.unders B cs = true := (U B hB).2 b _ hbB hb
        simp only [Blk.under, unders_append, Bool.and_eq_true]
        exact ⟨⟨unders_take _ hcs, retok_under _ _ _ (unders_drop _ hcs) hv⟩, unders_drop _ hcs⟩
      · cases he
    · cases he
  · cases he

theorem mapPut_under {n : Nat} {k : PV} {v : AV} (hv : v.under n = true) : ∀ {ks : List PV} {vs : List AV} {r : List PV × List AV}, AV.unders n vs = true → mapPut k v ks vs = some r → AV.unders n r.2 = true
  | [], [], r, h, e => by simp only [mapPut, Option.some.injEq] at e; subst e; simp [AV.unders, hv]
  | [], _ :: _, r, h, e => by simp [mapPut] at e
  | _ :: _, [], r, h, e => by simp [mapPut] at e
  | k' :: ks, v' :: vs, r, h, e => by
    simp only [AV.unders, Bool.and_eq_true] at h
    simp only [mapPut] at e
    split at e
    · cases e; simp [AV.unders, hv, h.2]
    · obtain ⟨⟨a, c⟩, h1, rfl⟩ := Option.map_eq_some_iff.1 e
      simp only [AV.unders, Bool.and_eq_true]; exact ⟨h.1, mapPut_under hv h.2 h1⟩
    · cases e

theorem mputO_und {E : Env} {bases : List Nat} {t : Nat} {H H' : Hp} {m k v : AV} (U : Und bases H) (he : mputO E t bases H m k v = some H') : Und bases H' := by
  unfold mputO at he
  split at he
  · split at he
    · rename_i b k hc
      simp only [Bool.and_eq_true] at hc
      split at he
      · rename_i ks vs hb
        obtain ⟨⟨a, c⟩, h1, rfl⟩ := Option.map_eq_some_iff.1 he
        refine U.set fun B hB hbB => ?_
        have : AV.unders B vs = true := (U B hB).2 _ _ hbB hb
        exact mapPut_under (okTo_ok hc.2 B hB hbB) this h1
      · cases he
    · cases he
  · cases he

theorem mintC_und {bases : List Nat} : ∀ (is : List Nat) (cs : List AV) (H : Hp), Und bases H → Und bases (mintC is cs H).2
  | [], cs, H, U => by simpa [mintC] using U
  | i :: is, cs, H, U => by
    simp only [mintC]
    split
    · exact mintC_und is _ _ (U.app _)
    · exact mintC_und is cs H U

theorem newD_und {bases : List Nat} {dr : Option Draw} {rank : Nat} {mint : List Nat} {cs : List AV} {H H' : Hp} {v : AV} (U : Und bases H) (D : DrOk dr bases H) (he : newD dr rank mint cs H = some (v, H')) : Und bases H' := by
  unfold newD at he
  split at he
  · simp only [Option.some.injEq] at he
    obtain rfl : (newO mint cs H).2 = H' := by rw [he]
    unfold newO
    split
    · exact U.app _
    · exact (mintC_und _ cs H U).app _
  · rename_i d
    split at he
    · cases he
      refine U.set fun B hB hbB => ?_
      have h1 : B ≤ d.n0 := D.2 B hB
      omega
    · cases he

theorem appO_und {E : Env} {bases : List Nat} {t t2 : Nat} {H H' : Hp} {x y v : AV} (U : Und bases H) (he : appO E t t2 H x y = some (v, H')) : Und bases H' := by
  unfold appO at he
  split at he
  · split at he
    · split at he
      · split at he
        · split at he
          · split at he
            · cases he; exact U.app _
            · cases he
          · split at he
            · split at he
              · split at he
                · cases he; exact U.set fun _ _ _ => rfl
                · cases he
              · cases he
            · cases he
          · cases he
        · cases he
      · cases he
    · cases he
  · cases he

/-! ### Calls -/

structure FnOk (E : Env) (P : Program) : Prop where
  fn : ∀ v fn, E.fn v = some fn → P.funcs[E.real v]? = some fn ∧ (fn.name == "runtime.NumGoroutine") = false ∧ fn.body.isSome = true
  redir : ∀ f g, E.real (E.redir f g) = g

def After (bases : List Nat) (g : Gh) (H : Hp) (w : World) (v : AV) (H' : Hp) (y : Value) (w' : World) : Prop :=
  ∃ g', VA g' v y ∧ Rel g' H' w' ∧ Ext H.length g w g' w' ∧ H.length ≤ H'.length ∧ Und bases H'

def CallS (P : Program) (f : FuncId) (xs : Array Value) (w : World) (post : Value → World → Prop) : Prop :=
  ∀ (o : Oper) (a : Act) (K : Act → World → Prop) (Q : Exit → Act → World → Prop), (∀ y w', post y w' → K (a.put o.dst y) w') → o.upon P a K Q ((callFunc f xs).run P w)

structure OrSound (E : Env) (P : Program) (c : Oracle) : Prop where
  pure : ∀ f fn ps r, E.fn f = some fn → c.pure f ps = some r → ∀ g xs w, VPs g ps xs → Rel g [] w → GlobOk E g →
    Calls P (E.real f) xs.toArray w fun | .returned y, w' => ∃ g', VP g' r y ∧ Rel g' [] w' ∧ Ext 0 g w g' w' | _, _ => False
  shut : ∀ bases f as H v H', c.shut bases f as H = some (v, H') → ∀ g xs w, VAs g as xs → Rel g H w → GlobOk E g → Und bases H →
    ∃ fn, E.fn f = some fn ∧ Calls P (E.real f) xs.toArray w fun | .returned y, w' => After bases g H w v H' y w' | _, _ => False

def ExtSound (E : Env) (P : Program) : Prop := ∀ g n as v, E.ext g = some n → extO n as = some v → ∀ gh H w xs bases, VAs gh as xs → Rel gh H w → GlobOk E gh → Und bases H →
  CallS P g xs.toArray w (fun y w' => After bases gh H w v H y w')

section
variable {E : Env} {P : Program} {c : Oracle}

theorem callFunc_run {f : FuncId} {fn : Func} (h1 : P.funcs[f]? = some fn) (h2 : (fn.name == "runtime.NumGoroutine") = false) (h3 : fn.body.isSome = true) (xs : Array Value) (w : World) :
    (callFunc f xs).run P w = .ok (.enter f xs) w := by
  have h4 : fn.body ≠ none := by intro e; rw [e] at h3; cases h3
  have h5 : ¬ fn.name = "runtime.NumGoroutine" := by intro e; rw [e] at h2; simp at h2
  simp [callFunc, h1, h5, h4]

theorem callS_of {f : FuncId} {fn : Func} {xs : Array Value} {w : World} {post : Value → World → Prop} (h1 : P.funcs[f]? = some fn) (h2 : (fn.name == "runtime.NumGoroutine") = false) (h3 : fn.body.isSome = true)
    (h : Calls P f xs w fun | .returned y, w' => post y w' | _, _ => False) : CallS P f xs w post := by
  intro o a K Q hK
  rw [callFunc_run h1 h2 h3, Oper.upon_enter]
  refine Calls.mono h fun e w' he => ?_
  cases e with
  | returned y => exact hK y w' he
  | panicked _ => exact he.elim
  | outgrown => exact he.elim

theorem callO_ok (FN : FnOk E P) (X : ExtSound E P) (C : OrSound E P c) {bases : List Nat} {f k : Nat} {as : List AV} {H H' : Hp} {v : AV} (he : callO E c bases f k as H = some (v, H'))
    {g : Gh} {w : World} {xs : List Value} (hv : VAs g as xs) (R : Rel g H w) (G : GlobOk E g) (U : Und bases H) : CallS P k xs.toArray w (After bases g H w v H') := by
  unfold callO at he
  split at he
  · rename_i n hn
    obtain ⟨u, h1, h2⟩ := Option.map_eq_some_iff.1 he
    cases h2
    exact X k n as v hn h1 g H w xs bases hv R G U
  · split at he
    · split at he
      · rename_i fn hfn
        obtain ⟨h1, h2, h3⟩ := FN.fn _ _ hfn
        rw [FN.redir] at h1
        cases ha : argsO E H fn.params.toList as with
        | none => rw [ha] at he; cases he
        | some ps =>
          obtain ⟨ps, fl⟩ := ps
          rw [ha] at he
          simp only [Option.bind_some] at he
          cases hr : c.pure (E.redir f k) ps with
          | none => rw [hr] at he; cases he
          | some r =>
            rw [hr] at he
            simp only [Option.bind_some] at he
            cases hfl : (!fl || r.flat) with
            | false => rw [hfl] at he; cases he
            | true =>
              rw [hfl] at he
              simp only [cond_true, Option.some.injEq, Prod.mk.injEq] at he
              obtain ⟨rfl, rfl⟩ := he
              refine callS_of h1 h2 h3 ?_
              cases fl with
              | false =>
                have hps := argsO_plain hv ha
                have R0 : Rel (g.cut 0) [] w := by
                  have := R.cut (n := 0) (Nat.zero_le _) (fun b k hb => by omega)
                  simpa using this
                have := C.pure _ fn ps r hfn hr (g.cut 0) xs w (hps.mono (g.cut_mor 0).toMem) R0 (G.mono (g.cut_mor 0).toMem)
                rw [FN.redir] at this
                refine Calls.mono this fun e w' he => ?_
                cases e with
                | returned y =>
                  obtain ⟨g', k1, k2, k3⟩ := he
                  obtain ⟨R', E'⟩ := R.back (g0 := g.cut 0) (fun b => by simp [Gh.cut]) (fun b => by simp [Gh.cut]) k3 k2.mu k2.nu
                  refine ⟨_, ?_, R', E', Nat.le_refl _, U⟩
                  simp only [VA]
                  refine k1.mono ⟨fun c' o u e => ?_, fun c' es e => ?_⟩
                  · simp only [Gh.back]
                    split
                    · rename_i hc
                      rcases k3.muN c' o u e with h4 | h4 | ⟨b, h4⟩
                      · exact h4
                      · omega
                      · simp [Gh.cut] at h4
                    · exact e
                  · simp only [Gh.back]
                    split
                    · rename_i hc
                      rcases k3.nuN c' es e with h4 | h4
                      · exact h4
                      · omega
                    · exact e
                | panicked _ => exact he.elim
                | outgrown => exact he.elim
              | true =>
                simp only [Bool.not_true, Bool.false_or] at hfl
                have hps := argsO_froz R R.frozen_all hv ha
                have := C.pure _ fn ps r hfn hr (Gh.all w) xs w hps (Rel.all w) (G.mono R.mem_all)
                rw [FN.redir] at this
                refine Calls.mono this fun e w' he => ?_
                cases e with
                | returned y =>
                  obtain ⟨g', k1, k2, k3⟩ := he
                  obtain ⟨R', E'⟩ := R.back (g0 := Gh.all w) (fun b => rfl) (fun b => rfl) k3 k2.mu k2.nu
                  refine ⟨_, ?_, R', E', Nat.le_refl _, U⟩
                  simp only [VA]
                  exact VP.flat hfl k1
                | panicked _ => exact he.elim
                | outgrown => exact he.elim
      · cases he
    · obtain ⟨fn, hfn, hc⟩ := C.shut _ _ _ _ _ _ he g xs w hv R G U
      obtain ⟨h1, h2, h3⟩ := FN.fn _ _ hfn
      rw [FN.redir] at h1 hc
      exact callS_of h1 h2 h3 hc


/-! ### Operations -/

theorem evs_ok {g : Gh} {fr : Fr} {a : Act} (G : GlobOk E g) (F : FrOk g fr a) : ∀ (xs : List Operand), VAs g (xs.map (evalO E fr)) (xs.map a.eval)
  | [] => by simp [VAs]
  | x :: xs => by simp only [List.map_cons, VAs]; exact ⟨_, _, rfl, evalO_ok G F x, evs_ok G F xs⟩

theorem optVA_ok {g : Gh} {fr : Fr} {a : Act} (G : GlobOk E g) (F : FrOk g fr a) (x : Option Operand) : OptVA g (x.map (evalO E fr)) (x.map a.eval) := by
  cases x with
  | none => trivial
  | some x => exact evalO_ok G F x

theorem emptyOf_ok {g : Gh} {a : AV} {x : Value} {e : Bool} (h : VA g a x) (he : emptyOf a = some e) : ∃ b n c, x = .slice b n c ∧ (e = false → b.isSome = true) := by
  have key : ∀ {sz : Nat} {es : List PV}, VP g (.lst sz es) x → ∃ b n c, x = .slice b n c ∧ (es.isEmpty = false → b.isSome = true) := by
    intro sz es h
    simp only [VP] at h
    obtain ⟨b, cap, vs, rfl, _, hv, hl⟩ := h
    refine ⟨b, _, _, rfl, fun hne => ?_⟩
    rcases hl.2 with rfl | ⟨c, o, rfl, _⟩
    · have := VPs_length hv
      cases es with
      | nil => simp at hne
      | cons _ _ => simp at this
    · rfl
  unfold emptyOf at he
  split at he
  · cases he; simp only [VA] at h; exact key h
  · cases he; simp only [VA] at h; exact key h.1
  · cases he; simp only [VA] at h; exact key h.1
  · cases he

theorem nilSl_ok (T : TyOk E P) {g : Gh} {t : Nat} {op : BinOp} {a v : AV} {x : Value} (h : VA g a x) (hs : isSl (E.ty t).kd = true) (he : nilSl op a = some v) (u1 u2 : Operand) (w : World) :
    ∃ z, (do eqGuard op t u1 u2 x (.slice none 0 0); binOp op t x (.slice none 0 0) : Sem Value).run P w = .ok z w ∧ VA g v z := by
  obtain ⟨e, hk⟩ : ∃ e, (E.ty t).kd = .slice e := by cases hh : (E.ty t).kd <;> rw [hh] at hs <;> first | exact ⟨_, rfl⟩ | cases hs
  obtain ⟨d, d1, d2, _⟩ := (T.real t (T.of_kd (by rw [hk]; simp))).kd
  rw [hk] at d2; simp only [KdOk] at d2; obtain ⟨rfl, _⟩ := d2
  have run : ∀ b n c, (Op.equal t (.slice b n c) (.slice none 0 0)).run P w = .ok b.isNone w := by
    intro b n c
    obtain ⟨m, hm⟩ : ∃ m, Op.maxDepth = m + 1 := ⟨Op.maxDepth - 1, rfl⟩
    unfold Op.equal
    rw [hm]
    cases b <;> simp [Op.equalIn, underlying, d1]
  unfold nilSl at he
  split at he
  · rename_i e2 hem
    obtain ⟨b, n, c, rfl, hb⟩ := emptyOf_ok h hem
    simp only [Option.some.injEq] at he; subst he
    refine ⟨.bool b.isNone, by simp [eqGuard, binOp, run], ?_⟩
    cases e2
    · have := hb rfl
      cases b <;> simp at this
      simp [VA, VP]
    · simp [VA]
  · rename_i e2 hem
    obtain ⟨b, n, c, rfl, hb⟩ := emptyOf_ok h hem
    simp only [Option.some.injEq] at he; subst he
    refine ⟨.bool (!b.isNone), by simp [eqGuard, binOp, run], ?_⟩
    cases e2
    · have := hb rfl
      cases b <;> simp at this
      simp [VA, VP]
    · simp [VA]
  · cases he

theorem opO_ok (T : TyOk E P) (QE : EqOk E P) (M : MethOk E P) (FN : FnOk E P) (X : ExtSound E P) (C : OrSound E P c) : OpSound E P c := by
  intro f bases dr i rank o st v H' he nt g a w S U D K Q hK
  obtain ⟨fr, H⟩ := st
  have F : FrOk g fr a := S.fr
  have R : Rel g H w := S.rel
  have G := S.glob
  have ev : ∀ x, VA g (evalO E fr x) (a.eval x) := fun x => evalO_ok G F x
  have hlv : lvl dr H ≤ H.length := D.1
  simp only at U D hK
  -- it answers in its world
  have fin0 : ∀ (u : Option AV), (u.map fun v => (v, H)) = some (v, H') → (∀ u', u = some u' → ∃ y, (execOp a.eval o).run P w = .ok (.value y) w ∧ VA g u' y) → o.wp P a w K Q := by
    intro u e h
    obtain ⟨u', h1, h2⟩ := Option.map_eq_some_iff.1 e
    obtain ⟨y, h3, h4⟩ := h u' h1
    simp only [Prod.mk.injEq] at h2
    obtain ⟨e1, e2⟩ := h2
    rw [← e2, ← e1] at hK
    unfold Oper.wp
    rw [h3]
    exact hK y w g h4 R (Ext.refl H.length g w).mor (Ext.refl _ g w) (Nat.le_refl _) U
  have fin1 : ∀ y w' g', (execOp a.eval o).run P w = .ok (.value y) w' → VA g' v y → Rel g' H' w' → Ext H.length g w g' w' → H.length ≤ H'.length → Und bases H' → o.wp P a w K Q := by
    intro y w' g' h1 h2 h3 h4 h5 h6
    unfold Oper.wp
    rw [h1]
    exact hK y w' g' h2 h3 h4.mor (h4.le hlv) h5 h6
  have fin2 : ∀ w' g', (execOp a.eval o).run P w = .ok .skip w' → v = .pv (.tup []) → Rel g' H' w' → Ext H.length g w g' w' → H.length ≤ H'.length → Und bases H' → o.wp P a w K Q := by
    intro w' g' h1 h2 h3 h4 h5 h6
    unfold Oper.wp
    rw [h1]
    subst h2
    exact hK undef w' g' (by simp [VA, VP, VPs, undef]) h3 h4.mor (h4.le hlv) h5 h6
  -- calls
  have finC : ∀ (k : Nat) (as : List AV) (xs : List Value), callO E c bases f k as H = some (v, H') → VAs g as xs → (execOp a.eval o).run P w = (callFunc k xs.toArray).run P w → o.wp P a w K Q := by
    intro k as xs h1 h2 h3
    unfold Oper.wp
    rw [h3]
    refine callO_ok FN X C h1 h2 R G U o a K Q ?_
    rintro y w' ⟨g', k1, k2, k3, k4, k5⟩
    exact hK y w' g' k1 k2 k3.mor (k3.le hlv) k4 k5
  have finI : ∀ (r : AV) (rv : Value) (m : String) (as : List AV) (xs : List Value), invokeO E c bases f r m as H = some (v, H') → VA g r rv → VAs g as xs →
      (execOp a.eval o).run P w = (callMethod rv m xs.toArray).run P w → o.wp P a w K Q := by
    intro r rv m as xs h1 h2 h3 h4
    have go : ∀ (t : Nat) (x : AV) (y : Value), rv = .iface t y → VA g x y → ((E.meth t m).bind fun gg => callO E c bases f gg (x :: as) H) = some (v, H') → o.wp P a w K Q := by
      intro t x y e hx hc
      subst e
      obtain ⟨gg, m1, m2⟩ := Option.bind_eq_some_iff.1 hc
      refine finC gg (x :: as) (y :: xs) m2 (by simp only [VAs]; exact ⟨_, _, rfl, hx, h3⟩) ?_
      rw [h4]
      obtain ⟨n, hn⟩ : ∃ n, P.types.size + Made.depth = n + 1 := ⟨P.types.size + Made.depth - 1, by unfold Made.depth; omega⟩
      have hm := method_ok M m1 y n w
      have e2 : #[y] ++ xs.toArray = (y :: xs).toArray := by simp
      simp only [callMethod, Sem.run_bind, run_program, Result.andThen_ok, hn, hm, e2]
    unfold invokeO at h1
    split at h1
    · rename_i t x
      simp only [VA, VP] at h2
      obtain ⟨y, e, hy⟩ := h2
      exact go t (.pv x) y e (by simpa only [VA] using hy) h1
    · rename_i t x
      simp only [VA] at h2
      obtain ⟨y, e, hy⟩ := h2
      exact go t x y e hy h1
    · cases h1
  obtain ⟨dst, op, type, pos, after, guard⟩ := o
  have vrun : ∀ {s : Sem Value} {y : Value} {w' : World}, s.run P w = .ok y w' → (do pure (Next.value (← s)) : Sem Next).run P w = .ok (.value y) w' := by
    intro s y w' h; simp [h]
  have urun : ∀ {s : Sem Unit} {w' : World}, s.run P w = .ok () w' → (do s; pure Next.skip : Sem Next).run P w = .ok .skip w' := by
    intro s w' h; simp [h]
  have arr : ∀ (xs : Array Operand), xs.map a.eval = (xs.toList.map a.eval).toArray := fun xs => by apply Array.ext'; simp
  have arr2 : ∀ (ps : Array (Nat × Operand)), (ps.map fun (i, x) => (i, a.eval x)) = (ps.toList.map fun (i, x) => (i, a.eval x)).toArray := fun xs => by apply Array.ext'; simp
  cases op <;> simp only [opO, reduceCtorEq] at he
  case move x =>
    cases he; exact fin1 _ w g rfl (ev x) R (Ext.refl _ _ _) (Nat.le_refl _) U
  case assign x =>
    cases he; exact fin1 _ w g rfl (ev x) R (Ext.refl _ _ _) (Nat.le_refl _) U
  case pick x y z =>
    refine fin0 _ he fun u hu => ?_
    obtain ⟨t, h1, h2⟩ := pickO_ok T (ev x) (ev y) (ev z) hu
    exact ⟨_, by simp [execOp, h1, asBool], h2⟩
  case alloc t =>
    cases hc : ((E.ty t).ok && Nat.beq (E.ty t).zero.length (E.ty t).size) <;> rw [hc] at he
    · cases he
    · simp only [cond_true] at he
      simp only [Bool.and_eq_true] at hc
      obtain ⟨z, z1, z2, z3, z4⟩ := run_zeroValue' T hc.1 (Nat.eq_of_beq_eq_true hc.2) w
      obtain ⟨y, w', g', k1, k2, k3, k4, k5, k6⟩ := newD_ok (P := P) R dr rank _ t (zeroC_ok _ _ _ (z4 g).1 z3) z2 he
      unfold Oper.wp
      have hrun : (execOp a.eval ⟨dst, .alloc t, type, pos, after, guard⟩).run P w = .ok (.value y) w' := by
        refine vrun ?_
        simp only [Instr.alloc, Sem.run_bind, z1, Result.andThen_ok] at k1 ⊢
        exact k1
      rw [hrun]
      exact hK y w' g' k2 k3 k5 (k4 _ hlv (fun d hd => by subst hd; exact Nat.le_refl _)) k6 (newD_und U D he)
  case box t x =>
    cases hc : ((E.ty t).ok && (evalO E fr x).known && Nat.beq (evalO E fr x).cells.length (E.ty t).size) <;> rw [hc] at he
    · cases he
    · simp only [cond_true] at he
      simp only [Bool.and_eq_true] at hc
      obtain ⟨y, w', g', k1, k2, k3, k4, k5, k6⟩ := newD_ok (P := P) R dr rank _ t (VA_cells (ev x) hc.1.2) (VA_one (ev x) hc.1.2) he
      unfold Oper.wp
      have hrun : (execOp a.eval ⟨dst, .box t x, type, pos, after, guard⟩).run P w = .ok (.value y) w' := by
        refine vrun ?_
        simp only [Instr.box] at k1 ⊢
        exact k1
      rw [hrun]
      exact hK y w' g' k2 k3 k5 (k4 _ hlv (fun d hd => by subst hd; exact Nat.le_refl _)) k6 (newD_und U D he)
  case build t ps =>
    refine fin0 _ he fun u hu => ?_
    obtain ⟨y, h1, h2⟩ := buildO_ok T G F hu w
    exact ⟨y, vrun (by rw [arr2]; exact h1), h2⟩
  case buildSlice t n ps =>
    obtain ⟨u, h1, h2⟩ := Option.map_eq_some_iff.1 he
    simp only [Prod.mk.injEq] at h2
    obtain ⟨rfl, rfl⟩ := h2
    obtain ⟨y, w', g', k1, k2, k3, k4⟩ := bsliceO_ok T R G F h1
    exact fin1 y w' g' (vrun (by rw [arr2]; exact k1)) k2 k3 k4 (Nat.le_refl _) U
  case load t x =>
    cases hc : oldOk dr i (evalO E fr x) <;> rw [hc] at he
    · cases he
    · refine fin0 _ he fun u hu => ?_
      obtain ⟨y, h1, h2⟩ := loadAt_ok T R (ev x) hu
      exact ⟨y, vrun h1, h2⟩
  case store t x y =>
    cases hc : freshOk dr i (evalO E fr x) <;> rw [hc] at he
    · cases he
    · obtain ⟨H2, h1, h2⟩ := Option.map_eq_some_iff.1 he
      simp only [Prod.mk.injEq] at h2
      obtain ⟨e1, rfl⟩ := h2
      obtain ⟨w', g', k1, k2, k3, k4⟩ := storeO_ok T R (ev x) (ev y) h1
      exact fin2 w' g' (urun k1) e1.symm k2 k3 (by omega) (storeO_und U h1)
  case nilCheck x =>
    refine fin0 _ he fun u hu => nilcO_ok M rfl (ev x) hu w
  case binOp op t x y t2 =>
    refine fin0 _ he fun u hu => ?_
    cases hc : (isNilS y && isSl (E.ty t).kd) with
    | true =>
      rw [hc] at hu
      simp only [Bool.and_eq_true] at hc
      have hy : y = .const (.slice none 0 0) := by
        have := hc.1
        unfold isNilS at this
        split at this
        · rfl
        · cases this
      subst hy
      obtain ⟨y', h1, h2⟩ := nilSl_ok T (ev x) hc.2 hu x (.const (.slice none 0 0)) w
      exact ⟨y', vrun h1, h2⟩
    | false =>
      rw [hc] at hu
      obtain ⟨y', h1, h2⟩ := binO_ok T QE (ev x) (ev y) hu x y w
      exact ⟨y', vrun h1, h2⟩
  case unOp op t x =>
    refine fin0 _ he fun u hu => ?_
    obtain ⟨y, h1, h2⟩ := unO_ok (P := P) (ev x) hu w
    exact ⟨y, vrun h1, h2⟩
  case convert s d x =>
    have h1 : ((convB E s d (evalO E fr x)).map fun v => (v, H)) = some (v, H') → Oper.wp P ⟨dst, .convert s d x, type, pos, after, guard⟩ a w K Q := by
      intro he
      obtain ⟨u, h1, h2⟩ := Option.map_eq_some_iff.1 he
      simp only [Prod.mk.injEq] at h2
      obtain ⟨rfl, rfl⟩ := h2
      obtain ⟨y, w', g', k1, k2, k3, k4⟩ := convB_ok T R (ev x) h1
      exact fin1 y w' g' (vrun k1) k2 k3 k4 (Nat.le_refl _) U
    have h2 : ((convO E s d H (evalO E fr x)).map fun v => (v, H)) = some (v, H') → Oper.wp P ⟨dst, .convert s d x, type, pos, after, guard⟩ a w K Q := by
      intro he
      refine fin0 _ he fun u hu => ?_
      obtain ⟨y, k1, k2⟩ := convO_ok T R (ev x) hu
      exact ⟨y, vrun k1, k2⟩
    split at he
    · exact h1 he
    · exact h2 he
  case makeInterface t x =>
    split at he
    · cases he
    · cases he
    · rename_i hk1 hk2
      simp only [Option.some.injEq, Prod.mk.injEq] at he
      obtain ⟨e1, e2⟩ := he
      subst e2
      obtain ⟨y, k1, k2⟩ := ifaceO_ok T (ev x) hk1 hk2 w
      exact fin1 y w g (vrun k1) (e1 ▸ k2) R (Ext.refl _ _ _) (Nat.le_refl _) U
  case makeFunc fn x y =>
    refine fin0 _ he fun u hu => ?_
    have := mkfnO_ok (evs_ok G F x.toList) (evs_ok G F y.toList) hu
    refine ⟨_, ?_, this⟩
    simp only [execOp, Instr.makeFunc, arr]; rfl
  case makeMap t r =>
    cases r with
    | some r => cases he
    | none =>
      simp only [Option.some.injEq, Prod.mk.injEq] at he
      obtain ⟨rfl, rfl⟩ := he
      obtain ⟨y, w', g', k1, k2, k3, k4⟩ := makeMap_ok (P := P) R t
      exact fin1 y w' g' (vrun k1) k2 k3 k4 (by simp) (U.app _)
  case makeSlice t x y =>
    obtain ⟨z, w', g', h1, h2, h3, h4, cs, rfl⟩ := makeSlO_ok T R (ev x) (ev y) he
    exact fin1 z w' g' (vrun h1) h2 h3 h4 (by simp) (U.app _)
  case slice t x lo hi mx =>
    refine fin0 _ he fun u hu => ?_
    obtain ⟨y, h1, h2⟩ := sliceO_ok T (w := w) (ev x) (optVA_ok G F lo) (optVA_ok G F hi) (optVA_ok G F mx) hu
    exact ⟨y, vrun h1, h2⟩
  case fieldAddr t x k =>
    refine fin0 _ he fun u hu => ?_
    obtain ⟨y, h1, h2⟩ := fadrO_ok T (w := w) (ev x) hu
    exact ⟨y, vrun h1, h2⟩
  case field t x k =>
    refine fin0 _ he fun u hu => ?_
    obtain ⟨y, h1, h2⟩ := fieldO_ok T (w := w) (ev x) hu
    exact ⟨y, vrun h1, h2⟩
  case indexAddr t x k =>
    refine fin0 _ he fun u hu => ?_
    obtain ⟨y, h1, h2⟩ := iadrO_ok T (w := w) (ev x) (ev k) hu
    exact ⟨y, vrun h1, h2⟩
  case index t x k =>
    refine fin0 _ he fun u hu => ?_
    obtain ⟨y, h1, h2⟩ := indexO_ok T (w := w) (ev x) (ev k) hu
    exact ⟨y, vrun h1, h2⟩
  case lookup t m k ok =>
    refine fin0 _ he fun u hu => ?_
    obtain ⟨y, h1, h2⟩ := lookO_ok T R (ev m) (ev k) hu
    exact ⟨y, vrun h1, h2⟩
  case mapUpdate t m k x =>
    obtain ⟨H2, h1, h2⟩ := Option.map_eq_some_iff.1 he
    simp only [Prod.mk.injEq] at h2
    obtain ⟨e1, rfl⟩ := h2
    obtain ⟨w', k1, k2, k3, k4⟩ := mputO_ok T R (ev m) (ev k) (ev x) h1
    exact fin2 w' g (urun k1) e1.symm k2 k3 (by omega) (mputO_und U h1)
  case insert t m k x =>
    obtain ⟨H2, h1, h2⟩ := Option.map_eq_some_iff.1 he
    simp only [Prod.mk.injEq] at h2
    obtain ⟨e1, rfl⟩ := h2
    obtain ⟨w', k1, k2, k3, k4⟩ := mputO_ok T R (ev m) (ev k) (ev x) h1
    exact fin2 w' g (urun k1) e1.symm k2 k3 (by omega) (mputO_und U h1)
  case range t x =>
    obtain ⟨z, w', g', h1, h2, h3, h4, s, rfl⟩ := rangeO_ok T R (ev x) he
    exact fin1 z w' g' (vrun h1) h2 h3 h4 (by simp) (U.app _)
  case next x s =>
    obtain ⟨z, w', h1, h2, h3, h4, h5⟩ := nextO_ok (P := P) R type (ev x) he
    have hl : H.length ≤ H'.length ∧ Und bases H' := by
      rcases h5 with rfl | ⟨b, r, p, rfl⟩
      · exact ⟨Nat.le_refl _, U⟩
      · exact ⟨by simp, U.set fun _ _ _ => rfl⟩
    exact fin1 z w' g (vrun h1) h2 h3 h4 hl.1 hl.2
  case typeAssert x t1 t ok =>
    refine fin0 _ he fun u hu => ?_
    obtain ⟨y, h1, h2⟩ := assertO_ok T (xt := t1) (ev x) hu w
    exact ⟨y, vrun h1, h2⟩
  case extract x k =>
    refine fin0 _ he fun u hu => ?_
    obtain ⟨y, h1, h2⟩ := extrO_ok (P := P) (ev x) hu w
    exact ⟨y, vrun h1, h2⟩
  case call k =>
    have hargs := evs_ok G F k.args.toList
    have harr := arr k.args
    cases hc : k.callee with
    | value gx =>
      rw [hc] at he
      simp only at he
      have hg := ev gx
      have hres : ∀ fn (p q : List Value), a.eval gx = .func fn p.toArray q.toArray → (resolve a.eval k type).run P w = .ok { target := .fn fn q.toArray, args := (p ++ k.args.toList.map a.eval).toArray } w := by
        intro fn p q e
        simp [resolve, hc, e, Deferred.ofValue, harr]
      unfold calleeO at he
      split at he
      · rename_i kk hk
        rw [hk] at hg
        simp only [VA, VP] at hg
        refine finC kk _ _ he hargs ?_
        have := hres _ [] [] (by simpa using hg)
        simp only [execOp, Sem.run_bind, this, Result.andThen_ok, invoke]
        simp
      · rename_i kk p q hk
        rw [hk] at hg
        simp only [VA] at hg
        obtain ⟨ps, qs, e1, hp, hq⟩ := hg
        refine finC kk _ _ he (VAs_append (VAs_append hp hargs) hq) ?_
        simp only [execOp, Sem.run_bind, hres _ _ _ e1, Result.andThen_ok, invoke]
        simp
      · rename_i m r hk
        rw [hk] at hg
        simp only [VA] at hg
        obtain ⟨y, e1, hy⟩ := hg
        refine finI r y m _ _ he hy hargs ?_
        have := hres (.method m) [y] [] (by simpa using e1)
        have e2 : (k.args.toList.map a.eval).take k.args.size = k.args.toList.map a.eval := List.take_of_length_le (by simp)
        simp only [execOp, Sem.run_bind, this, Result.andThen_ok, invoke]
        simp [e2]
      · cases he
    | invoke r m =>
      rw [hc] at he
      simp only at he
      refine finI _ (a.eval r) m _ _ he (ev r) hargs ?_
      have e2 : (k.args.toList.map a.eval).take k.args.size = k.args.toList.map a.eval := List.take_of_length_le (by simp)
      simp only [execOp, resolve, hc, Sem.run_bind, Sem.run_pure, Result.andThen_ok, invoke, harr]
      simp [e2]
    | builtin b =>
      rw [hc] at he
      simp only at he
      have hres : (execOp a.eval ⟨dst, .call k, type, pos, after, guard⟩).run P w = (builtin b k.argTypes type (k.args.map fun | .const _ => true | _ => false) (k.args.toList.map a.eval).toArray).run P w := by
        simp only [execOp, resolve, hc, Sem.run_bind, Sem.run_pure, Result.andThen_ok, invoke, harr]
        rfl
      generalize hvs : k.args.toList.map a.eval = xs at hargs hres
      generalize has : k.args.toList.map (evalO E fr) = as at hargs he
      unfold callB at he
      split at he
      · rename_i x
        simp only [VAs] at hargs
        obtain ⟨y, r, rfl, hy, rfl⟩ := hargs
        split at he
        · rename_i t ts ht
          refine fin0 _ he fun u hu => ?_
          have h0 : k.argTypes[0]? = some t := by rw [← Array.getElem?_toList, ht]; rfl
          obtain ⟨z, h1, h2⟩ := lenO_ok T (ty := type) R hy hu h0
          exact ⟨z, by rw [hres]; exact vrun h1, h2⟩
        · cases he
      · rename_i s x
        simp only [VAs] at hargs
        obtain ⟨ys, r, rfl, hs, yx, r', rfl, hx, rfl⟩ := hargs
        split at he
        · rename_i t t2 ht
          have ht' : k.argTypes = #[t, t2] := by apply Array.ext'; simpa using ht
          obtain ⟨y, w', g', k1, k2, k3, k4, k5⟩ := appO_ok T R hs hx he type
          refine fin1 y w' g' ?_ k2 k3 k4 k5 (appO_und U he)
          rw [hres, ht']; exact vrun k1
        · cases he
      · rename_i x xs'
        simp only [VAs] at hargs
        obtain ⟨y, r, rfl, hy, hr⟩ := hargs
        refine fin0 _ he fun u hu => ?_
        obtain ⟨z, h1, h2⟩ := mins_ok (P := P) w hy hr hu
        refine ⟨z, ?_, h2⟩
        rw [hres]; refine vrun ?_
        simpa [Builtin.min_] using h1
      · rename_i x xs'
        simp only [VAs] at hargs
        obtain ⟨y, r, rfl, hy, hr⟩ := hargs
        refine fin0 _ he fun u hu => ?_
        obtain ⟨z, h1, h2⟩ := maxs_ok (P := P) w hy hr hu
        refine ⟨z, ?_, h2⟩
        rw [hres]; refine vrun ?_
        simpa [Builtin.max_] using h1
      · cases he

end
end Go.Pu
