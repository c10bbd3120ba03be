/-
  Code and loops.
-/
import Derived.Test.YtflehnedcjjdjaaGreatDoorPuA9
import Derived.Scope
set_option linter.unusedSimpArgs false
set_option linter.unusedVariables false
namespace Go.Pu

/-- The blocks below n alone. -/
def Gh.cut (g : Gh) (n : Nat) : Gh :=
  { g with io := fun b => if b < n then g.io b else none, ow := fun b => if b < n then g.ow b else none, tk := fun b k => if b < n then g.tk b k else none }

theorem Gh.cut_mor (g : Gh) (n : Nat) : Mor n g (g.cut n) :=
  { mu := fun _ _ _ e => e, nu := fun _ _ e => e, io := fun b c hb e => by simp [Gh.cut, hb, e], tk := fun b k v hb e => by simp [Gh.cut, hb, e] }

theorem Rel.cut {g : Gh} {H : Hp} {w : World} (R : Rel g H w) {n : Nat} (hn : n ≤ H.length) (hu : ∀ b k, b < n → H[b]? = some k → k.under n = true) : Rel (g.cut n) (H.take n) w := by
  have hl : (H.take n).length = n := by simp; omega
  constructor
  · exact R.mu
  · exact R.nu
  · intro b c e
    simp only [Gh.cut] at e
    split at e
    · rename_i hb; exact ⟨by rw [hl]; exact hb, (R.io b c e).2⟩
    · cases e
  · intro b c e
    simp only [Gh.cut] at e
    split at e
    · rename_i hb; exact ⟨by rw [hl]; exact hb, (R.ow b c e).2⟩
    · cases e
  · intro b k v e
    simp only [Gh.cut] at e
    split at e
    · rename_i hb
      obtain ⟨_, m, h2, h3⟩ := R.tk b k v e
      exact ⟨by rw [hl]; exact hb, m, by rw [List.getElem?_take, if_pos hb]; exact h2, h3⟩
    · cases e
  · intro b b' c e e'
    simp only [Gh.cut] at e e'
    split at e <;> split at e' <;> first | cases e | cases e' | skip
    exact R.inj _ _ _ e e'
  · intro b b' c e e'
    simp only [Gh.cut] at e e'
    split at e <;> split at e' <;> first | cases e | cases e' | skip
    exact R.inj' _ _ _ e e'
  · intro b b' c e e'
    simp only [Gh.cut] at e e'
    split at e <;> split at e' <;> first | cases e | cases e' | skip
    exact R.dis _ _ _ e e'
  · intro b k hb
    rw [List.getElem?_take] at hb
    split at hb
    · rename_i hbn
      refine (R.blk b k hb).keep (g.cut_mor n) hbn (hu b k hbn hb) (by simp [Gh.cut, hbn]) (by simp [Gh.cut, hbn]) (fun _ _ => rfl) (fun _ _ _ => rfl) (fun _ _ => rfl)
    · cases hb

theorem Ext.cut {n m : Nat} {g g' : Gh} {w w' : World} (X : Ext n g w g' w') (h : n ≤ m) : Ext n g w (g'.cut m) w' where
  mem := ⟨X.mem.mu, X.mem.nu⟩
  io b hb := by rw [← X.io b hb]; simp [Gh.cut, show b < m by omega]
  tk b k v hb e := by have := X.tk b k v hb e; simp [Gh.cut, show b < m by omega, this]
  frame := X.frame
  imgI c b hc e := by
    simp only [Gh.cut] at e
    split at e
    · exact X.imgI c b hc e
    · cases e
  imgO c b hc e := by
    simp only [Gh.cut] at e
    split at e
    · exact X.imgO c b hc e
    · cases e
  muN := X.muN
  nuN := X.nuN
  size := X.size
  os := X.os
  tape := X.tape
  output := X.output

theorem Und.cut {bases : List Nat} {H : Hp} {B : Nat} (U : Und (B :: bases) H) (hb : ∀ A ∈ bases, A ≤ B) : Und (B :: bases) (H.take B) := by
  have hB := (U B (by simp)).1
  intro A hA
  obtain ⟨h1, h2⟩ := U A hA
  have hAB : A ≤ B := by
    rcases List.mem_cons.1 hA with rfl | h
    · exact Nat.le_refl _
    · exact hb A h
  refine ⟨by simp; omega, ?_⟩
  intro b k hbA hk
  rw [List.getElem?_take] at hk
  split at hk
  · exact h2 b k hbA hk
  · cases hk

theorem Und.tail {bases : List Nat} {H : Hp} {B : Nat} (U : Und (B :: bases) H) : Und bases H := fun A hA => U A (by simp [hA])

theorem mintL_ok {w : World} : ∀ (vs : List AV) {g : Gh} {H : Hp} {xs : List Value}, Rel g H w → VAs g vs xs →
    ∃ g', VAs g' (mintL vs H).1 xs ∧ Rel g' (mintL vs H).2 w ∧ Ext H.length g w g' w ∧ ∃ ts : List Nat, (mintL vs H).2 = H ++ ts.map Blk.tok := by
  intro vs
  induction vs with
  | nil => intro g H xs R h; exact ⟨g, h, R, Ext.refl _ g w, [], by simp [mintL]⟩
  | cons v vs ih =>
    intro g H xs R h
    simp only [VAs] at h
    obtain ⟨x, r, rfl, hx, hr⟩ := h
    by_cases hv : ∃ sz es, v = .ful sz es
    · obtain ⟨sz, es, rfl⟩ := hv
      obtain ⟨a, n, rfl, _⟩ := VA_retok (b := H.length) (k' := 0) hx
      obtain ⟨R1, X1⟩ := R.retok (.inl ⟨rfl, rfl⟩) a n sz
      have hst : setTok H H.length 0 = H ++ [.tok 0] := by simp [setTok]
      rw [hst] at R1
      obtain ⟨a', n', e', hx'⟩ := VA_retok (b := H.length) (k' := 0) hx
      cases e'
      have hm := X1.mor
      obtain ⟨g2, h2, R2, X2, ts, e2⟩ := ih R1 (hr.mono hm (hr.under R.lt))
      have hx2 : VA g2 (.own H.length 0 sz es) (.slice a n n) := hx'.mono X2.mor (by simp [AV.under])
      refine ⟨g2, ?_, R2, X1.trans X2 (by simp), 0 :: ts, ?_⟩
      · simp only [mintL, VAs]; exact ⟨_, _, rfl, hx2, h2⟩
      · simp only [mintL]; rw [e2]; simp
    · have hm : mintL (v :: vs) H = (v :: (mintL vs H).1, (mintL vs H).2) := by
        cases v <;> first | rfl | exact absurd ⟨_, _, rfl⟩ hv
      obtain ⟨g2, h2, R2, X2, ts, e2⟩ := ih R hr
      rw [hm]
      exact ⟨g2, by simp only [VAs]; exact ⟨_, _, rfl, hx.mono X2.mor (hx.under R.lt), h2⟩, R2, X2, ts, e2⟩

theorem full_get : ∀ (n t : Nat), (Fr.full n).get t = .bot
  | 0, _ => rfl
  | n + 1, t => by
    simp only [Fr.full, Fr.get]
    cases Nat.beq t 0
    · cases Nat.beq (t % 2) 1
      · exact full_get n _
      · exact full_get n _
    · rfl

theorem frOf_get (n : Nat) : ∀ (ds : List Nat) (vs : List AV) (t : Nat), (frOf n ds vs).get t = .bot ∨ ∃ i : Nat, ds[i]? = some t ∧ vs[i]? = some ((frOf n ds vs).get t)
  | [], vs, t => by left; simp only [frOf]; exact full_get n t
  | d :: ds, [], t => by left; simp only [frOf]; exact full_get n t
  | d :: ds, v :: vs, t => by
    simp only [frOf]
    by_cases e : d = t
    · subst e
      rcases Fr.get_set_same (frOf n ds vs) d v with h | h
      · exact .inr ⟨0, by simp, by simp [h]⟩
      · exact .inl h
    · rw [Fr.get_set _ _ _ _ e]
      rcases frOf_get n ds vs t with h | ⟨i, h1, h2⟩
      · exact .inl h
      · exact .inr ⟨i + 1, by simpa using h1, by simpa using h2⟩

theorem liveV_ok {g : Gh} {fr : Fr} {a : Act} (F : FrOk g fr a) : ∀ (live : List Nat), VAs g (liveV fr live) (live.map fun d => a.tmps.getD d undef)
  | [] => by simp [liveV, VAs]
  | d :: ds => by simp only [liveV, List.map_cons, VAs]; exact ⟨_, _, rfl, F d, liveV_ok F ds⟩

theorem frOf_ok {g : Gh} {a : Act} {n : Nat} {live : List Nat} {vs : List AV} (h : VAs g vs (live.map fun d => a.tmps.getD d undef)) : FrOk g (frOf n live vs) a := by
  intro t
  rcases frOf_get n live vs t with e | ⟨i, h1, h2⟩
  · rw [e]; simp [VA]
  · obtain ⟨x, h3, h4⟩ := VAs_get h h2
    rw [List.getElem?_map, h1] at h3
    simp only [Option.map_some, Option.some.injEq] at h3
    subst h3; exact h4

def exitOf : Ex → Exit
  | .nrm => .normal
  | .ext id => .exit id
  | .ret => .ret

def RegSound (E : Env) (P : Program) (c : Oracle) (f id : Nat) (ops : Array Oper) (nt : Nat) : Prop :=
  ∀ (R : Type) (bases : List Nat) (k : St → Option R) (r : R) (Q : Exit → Act → World → Prop) (st : St) (g : Gh) (a : Act) (w : World), StOk E nt g st a w → Und bases st.hp →
    regK E c f bases (some ⟨st.hp.length, (E.flag f id).1, ptrs st.fr (E.flag f id).2⟩) ops ops.toList 0 0 ⟨st.fr, st.hp ++ List.replicate (newsOf ops.toList) .dead⟩ k = some r →
    (∀ a' w' g' st', k st' = some r → StOk E nt g' st' a' w' → Ext st.hp.length g w g' w' → st.hp.length ≤ st'.hp.length → Und bases st'.hp → Q .normal a' w') →
    (Code.region id ops true).wp P Q a w

def CodeP (E : Env) (P : Program) (c : Oracle) (f nt : Nat) : Code → Prop
  | .region id ops dr => (∀ (i : Nat) o d, ops[i]? = some o → o.dst = some d → d < nt) ∧ (dr = true → RegSound E P c f id ops nt)
  | .seq a b | .cond _ a b => CodeP E P c f nt a ∧ CodeP E P c f nt b
  | .block _ a | .loop a | .scope a => CodeP E P c f nt a
  | _ => True

section
variable {E : Env} {P : Program} {c : Oracle}

theorem execK_ok (hop : OpSound E P c) {R : Type} {q : R → R → Bool} (hq : ∀ a b, q a b = true → a = b) (n f depth nt : Nat) : ∀ (code : Code), CodeP E P c f nt code → ∀ (bases : List Nat) (cur : Nat) (st : St) (k : Ex → St → Option R) (r : R) (Q : Exit → Act → World → Prop)
    (g : Gh) (a : Act) (w : World), execK E c (loopN n) q f depth code bases cur st k = some r → StOk E nt g st a w → Und bases st.hp →
    (∀ e a' w' g' st', k e st' = some r → StOk E nt g' st' a' w' → Ext st.hp.length g w g' w' → st.hp.length ≤ st'.hp.length → Und bases st'.hp → Q (exitOf e) a' w') →
    code.wp P Q a w := by
  intro code
  induction code with
  | skip =>
    intro _ bases cur st k r Q g a w he S U hQ
    simp only [execK] at he
    exact wp_skip (hQ .nrm a w g st he S (Ext.refl _ _ _) (Nat.le_refl _) U)
  | exit id =>
    intro _ bases cur st k r Q g a w he S U hQ
    simp only [execK] at he
    exact wp_exit (hQ (.ext id) a w g st he S (Ext.refl _ _ _) (Nat.le_refl _) U)
  | label l =>
    intro _ bases cur st k r Q g a w he S U hQ
    simp only [execK] at he
    exact wp_label (hQ .nrm a w g st he S (Ext.refl _ _ _) (Nat.le_refl _) U)
  | scope x ih =>
    intro hc bases cur st k r Q g a w he S U hQ
    simp only [CodeP] at hc
    simp only [execK] at he
    refine wp_scope_straight (ih hc bases cur st k r _ g a w he S U ?_)
    intro e a1 w1 g1 st1 h1 S1 X1 l1 U1
    have := hQ e a1 w1 g1 st1 h1 S1 X1 l1 U1
    cases e <;> exact this
  | ret =>
    intro _ bases cur st k r Q g a w he S U hQ
    simp only [execK] at he
    exact wp_ret (hQ .ret a w g st he S (Ext.refl _ _ _) (Nat.le_refl _) U)
  | region id ops dr =>
    intro hc bases cur st k r Q g a w he S U hQ
    simp only [CodeP] at hc
    simp only [execK] at he
    cases dr
    · simp only [cond_false] at he
      refine wp_region ?_
      have h1 := regK_ok (Q := Q) hop hc.1 ops.toList 0 0 st g a w (by simp) he S U (fun a' w' g' st' h1 h2 h3 h4 h5 => hQ .nrm a' w' g' st' h1 h2 h3 h4 h5)
      simpa [List.range_eq_range'] using h1
    · simp only [cond_true] at he
      exact hc.2 rfl R bases _ r Q st g a w S U he (fun a' w' g' st' h1 h2 h3 h4 h5 => hQ .nrm a' w' g' st' h1 h2 h3 h4 h5)
  | seq x y ihx ihy =>
    intro hc bases cur st k r Q g a w he S U hQ
    simp only [CodeP] at hc
    simp only [execK] at he
    refine wp_seq (ihx hc.1 bases cur st _ r _ g a w he S U ?_)
    intro e a1 w1 g1 st1 h1 S1 X1 l1 U1
    cases e with
    | nrm =>
      simp only [exitOf, Exit.then]
      refine ihy hc.2 bases cur st1 k r Q g1 a1 w1 h1 S1 U1 ?_
      intro e2 a2 w2 g2 st2 k1 k2 k3 k4 k5
      exact hQ e2 a2 w2 g2 st2 k1 k2 (X1.trans k3 l1) (Nat.le_trans l1 k4) k5
    | ext j => exact hQ (.ext j) a1 w1 g1 st1 h1 S1 X1 l1 U1
    | ret => exact hQ .ret a1 w1 g1 st1 h1 S1 X1 l1 U1
  | cond x p p' ihp ihq =>
    intro hc bases cur st k r Q g a w he S U hQ
    simp only [CodeP] at hc
    simp only [execK] at he
    split at he
    · rename_i t hx
      have hv := evalO_ok S.glob S.fr x
      rw [hx] at hv
      simp only [VA, VP] at hv
      refine wp_cond_split hv ?_ ?_
      · rintro rfl
        exact ihp hc.1 bases cur st k r Q g a w he S U hQ
      · rintro rfl
        exact ihq hc.2 bases cur st k r Q g a w he S U hQ
    · rename_i hx
      have hv := evalO_ok S.glob S.fr x
      rw [hx] at hv
      simp only [VA] at hv
      obtain ⟨t, hv⟩ := hv
      obtain ⟨r1, h1, he⟩ := Option.bind_eq_some_iff.1 he
      obtain ⟨r2, h2, he⟩ := Option.bind_eq_some_iff.1 he
      cases hqq : q r1 r2 with
      | false => rw [hqq] at he; cases he
      | true =>
        rw [hqq] at he
        simp only [cond_true, Option.some.injEq] at he
        have e12 := hq _ _ hqq
        subst e12; subst he
        exact wp_cond_split hv (fun _ => ihp hc.1 bases cur st k _ Q g a w h1 S U hQ) (fun _ => ihq hc.2 bases cur st k _ Q g a w h2 S U hQ)
    · cases he
  | block id x ih =>
    intro hc bases cur st k r Q g a w he S U hQ
    simp only [CodeP] at hc
    simp only [execK] at he
    refine wp_block (ih hc bases id st _ r _ g a w he S U ?_)
    intro e a1 w1 g1 st1 h1 S1 X1 l1 U1
    cases e with
    | nrm => exact hQ .nrm a1 w1 g1 st1 h1 S1 X1 l1 U1
    | ext j =>
      simp only [exitOf, Exit.inBlock]
      simp only at h1
      cases hj : Nat.beq j id with
      | true =>
        rw [hj] at h1
        have := Nat.eq_of_beq_eq_true hj
        rw [if_pos this]
        exact hQ .nrm a1 w1 g1 st1 h1 S1 X1 l1 U1
      | false =>
        rw [hj] at h1
        have : ¬ j = id := by rintro rfl; simp at hj
        rw [if_neg this]
        exact hQ (.ext j) a1 w1 g1 st1 h1 S1 X1 l1 U1
    | ret => exact hQ .ret a1 w1 g1 st1 h1 S1 X1 l1 U1
  | loop x ih =>
    intro hc bases cur st k r Q g a w he S U hQ
    simp only [CodeP] at hc
    simp only [execK] at he
    generalize hlive : E.live f cur = live at he
    obtain ⟨g0, v0, R0, X0, ts, hts⟩ := mintL_ok (liveV st.fr live) S.rel (liveV_ok S.fr live)
    generalize hm : mintL (liveV st.fr live) st.hp = m at he v0 R0 hts
    obtain ⟨vs0, H0⟩ := m
    simp only at he v0 R0 hts
    cases hu0 : AV.unders H0.length vs0 with
    | false => rw [hu0] at he; cases he
    | true =>
    rw [hu0] at he
    simp only [cond_true] at he
    have hl0 : st.hp.length ≤ H0.length := by rw [hts]; simp
    have hbB : ∀ A ∈ bases, A ≤ H0.length := fun A hA => Nat.le_trans (U A hA).1 hl0
    have U0 : Und (H0.length :: bases) H0 := by
      intro A hA
      rcases List.mem_cons.1 hA with rfl | hA
      · exact ⟨Nat.le_refl _, fun b k' hb hk => (R0.blk b k' hk).under R0.lt⟩
      · refine ⟨hbB A hA, fun b k' hb hk => ?_⟩
        have hbl : b < st.hp.length := Nat.lt_of_lt_of_le hb (U A hA).1
        rw [hts, List.getElem?_append_left hbl] at hk
        exact (U A hA).2 b k' hb hk
    refine wp_loop_rounds n ?_
    have key : ∀ (j : Nat) (vs : List AV) (H : Hp) (a1 : Act) (w1 : World) (g1 : Gh),
        loopN j (fun vs H k' => execK E c (loopN n) q f depth x (H0.length :: bases) cur ⟨frOf depth live vs, H⟩ fun e st' =>
            match e with
            | .nrm => cond (AV.unders H0.length (liveV st'.fr live)) (k' .nrm (liveV st'.fr live) ⟨st'.fr, st'.hp.take H0.length⟩) none
            | e => k' e [] st') vs H k = some r →
        VAs g1 vs (live.map fun d => a1.tmps.getD d undef) → Rel g1 H w1 → H.length = H0.length → GlobOk E g1 → nt ≤ a1.tmps.size → a1.defers = [] → Und (H0.length :: bases) H → Ext st.hp.length g w g1 w1 →
        Code.rounds P x Q j a1 w1 := by
      intro j
      induction j with
      | zero => intro vs H a1 w1 g1 hj; simp [loopN] at hj
      | succ j ihj =>
        intro vs H a1 w1 g1 hj hv R1 hl G1 hs1 hd1 U1 X1
        simp only [loopN] at hj
        rw [rounds_succ]
        refine ih hc (H0.length :: bases) cur ⟨frOf depth live vs, H⟩ _ r _ g1 a1 w1 hj ⟨frOf_ok hv, R1, G1, hs1, hd1⟩ U1 ?_
        intro e a2 w2 g2 st2 h2 S2 X2 l2 U2
        cases e with
        | nrm =>
          simp only [exitOf, Exit.then]
          simp only at h2 l2
          cases hu2 : AV.unders H0.length (liveV st2.fr live) with
          | false => rw [hu2] at h2; cases h2
          | true =>
            rw [hu2] at h2
            simp only [cond_true] at h2
            have hB := U2 H0.length (by simp)
            have hXc : Ext st.hp.length g w (g2.cut H0.length) w2 := (X1.trans X2 (by simp only; omega)).cut hl0
            refine ihj _ _ a2 w2 (g2.cut H0.length) h2 ?_ (S2.rel.cut hB.1 hB.2) (by simp only [List.length_take]; exact Nat.min_eq_left hB.1) (S2.glob.mono (g2.cut_mor H0.length).toMem) S2.size S2.defers (U2.cut hbB) hXc
            exact (liveV_ok S2.fr live).mono (g2.cut_mor _) hu2
        | ext i =>
          exact hQ (.ext i) a2 w2 g2 st2 h2 S2 (X1.trans X2 (by simp only; omega)) (by simp only at l2; omega) U2.tail
        | ret =>
          exact hQ .ret a2 w2 g2 st2 h2 S2 (X1.trans X2 (by simp only; omega)) (by simp only at l2; omega) U2.tail
    exact key n vs0 H0 a w g0 he v0 R0 rfl (S.glob.mono X0.mem) S.size S.defers U0 X0
  | _ =>
    intro _ bases cur st k r Q g a w he
    simp [execK] at he

end
end Go.Pu
