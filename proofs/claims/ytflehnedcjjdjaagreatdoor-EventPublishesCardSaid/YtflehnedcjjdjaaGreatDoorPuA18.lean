/-
  Functions: what 'callN' answers is what they do.
-/
import Derived.Test.YtflehnedcjjdjaaGreatDoorPuA17
set_option linter.unusedSimpArgs false
set_option linter.unusedVariables false
namespace Go.Pu

def codeOk (E : Env) (f nt : Nat) : Code → Bool
  | .region id ops dr => dstOk nt ops.toList && (!dr || drawOk E f id ops)
  | .seq a b | .cond _ a b => codeOk E f nt a && codeOk E f nt b
  | .block _ a | .loop a | .scope a => codeOk E f nt a
  | _ => true

structure EnvOk (E : Env) (P : Program) : Prop where
  ty : TyOk E P
  eq : EqOk E P
  meth : MethOk E P
  fn : FnOk E P
  ext : ExtSound E P
  mixed : P.follows .mixedOrders = true
  code : ∀ v fn code, E.fn v = some fn → fn.body = some code → codeOk E v fn.ntmps code = true

section
variable {E : Env} {P : Program} {c : Oracle}

theorem codeP_of (hop : OpSound E P c) (hm : P.follows .mixedOrders = true) {f nt : Nat} : ∀ (code : Code), codeOk E f nt code = true → CodeP E P c f nt code := by
  intro code
  induction code with
  | region id ops dr =>
    intro h
    simp only [codeOk, Bool.and_eq_true] at h
    refine ⟨?_, ?_⟩
    · intro i o d ho hd
      have := List.all_eq_true.1 h.1 o (by
        have h' : ops.toList[i]? = some o := by simpa using ho
        exact List.mem_of_getElem? h')
      rw [hd] at this
      exact Nat.le_of_ble_eq_true this
    · rintro rfl
      exact region_ok hop hm h.1 (by simpa using h.2)
  | seq a b iha ihb => intro h; simp only [codeOk, Bool.and_eq_true] at h; exact ⟨iha h.1, ihb h.2⟩
  | cond x a b iha ihb => intro h; simp only [codeOk, Bool.and_eq_true] at h; exact ⟨iha h.1, ihb h.2⟩
  | block id a ih => intro h; exact ih h
  | loop a ih => intro h; exact ih h
  | scope a ih => intro h; exact ih h
  | _ => intro _; trivial

theorem degr_ok {g : Gh} {v : AV} {x : Value} (h : VA g v x) : VA g (degr v) x := by
  unfold degr
  split
  · simp only [VA] at h ⊢; exact h.1
  · simp only [VA] at h ⊢; exact h.1
  · exact h

theorem degrs_ok {g : Gh} : ∀ {vs : List AV} {xs : List Value}, VAs g vs xs → VAs g (vs.map degr) xs
  | [], xs, h => h
  | v :: vs, xs, h => by
    simp only [VAs, List.map_cons] at h ⊢
    obtain ⟨x, r, rfl, hx, hr⟩ := h
    exact ⟨x, r, rfl, degr_ok hx, degrs_ok hr⟩

/-- One result, or a tuple. -/
def oneV (xs : List Value) : Value := match xs with | [x] => x | xs => .tuple xs.toArray

theorem oneO_ok {g : Gh} {vs : List AV} {xs : List Value} (h : VAs g vs xs) : VA g (oneO vs) (oneV xs) := by
  rcases vs with _ | ⟨v, _ | ⟨u, vs⟩⟩
  · simp only [VAs] at h; subst h; simp only [oneO, oneV, VA]; exact ⟨[], rfl, rfl⟩
  · simp only [VAs] at h; obtain ⟨x, r, rfl, hx, rfl⟩ := h; exact hx
  · have h' := h
    simp only [VAs] at h; obtain ⟨x, r, rfl, hx, y, r', rfl, hy, hr⟩ := h
    simp only [oneO, oneV, VA]; exact ⟨_, rfl, h'⟩

theorem oneP_ok {g : Gh} {vs : List PV} {xs : List Value} (h : VPs g vs xs) : VP g (oneP vs) (oneV xs) := by
  rcases vs with _ | ⟨v, _ | ⟨u, vs⟩⟩
  · simp only [VPs] at h; subst h; simp only [oneP, oneV, VP]; exact ⟨[], rfl, rfl⟩
  · simp only [VPs] at h; obtain ⟨x, r, rfl, hx, rfl⟩ := h; exact hx
  · have h' := h
    simp only [VPs] at h; obtain ⟨x, r, rfl, hx, y, r', rfl, hy, hr⟩ := h
    simp only [oneP, oneV, VP]; exact ⟨_, rfl, h'⟩

def rvRun (tmps : Array Value) : ResultVar → Sem Value
  | .tmp t => pure (tmps.getD t undef)
  | .cell a t => do loadVar t (← asAddr (tmps.getD a undef))

theorem results_eq (fn : Func) (tmps : Array Value) : results fn tmps = (do
    let vs ← fn.results.mapM (rvRun tmps)
    pure (if h : vs.size = 1 then vs[0] else .tuple vs)) := by
  unfold results
  congr 1

theorem rvsO_ok (T : TyOk E P) {nt : Nat} {g : Gh} {st : St} {a : Act} {w : World} (S : StOk E nt g st a w) : ∀ {rs : List ResultVar} {vs : List AV}, rvsO E st rs = some vs →
    ∃ xs : List Value, (rs.mapM (rvRun a.tmps)).run P w = .ok xs w ∧ VAs g vs xs
  | [], vs, h => by simp only [rvsO, Option.some.injEq] at h; subst h; exact ⟨[], by simp, by simp [VAs]⟩
  | r :: rs, vs, h => by
    simp only [rvsO] at h
    split at h
    · rename_i v us h1 h2
      cases h
      obtain ⟨xs, k1, k2⟩ := rvsO_ok T S h2
      cases r with
      | tmp t =>
        simp only [rvO, Option.some.injEq] at h1; subst h1
        refine ⟨_ :: xs, ?_, by simp only [VAs]; exact ⟨_, _, rfl, S.fr t, k2⟩⟩
        simp only [List.mapM_cons, rvRun, Sem.run_bind, Sem.run_pure, Result.andThen_ok, k1]
      | cell x t =>
        simp only [rvO] at h1
        obtain ⟨y, l1, l2⟩ := loadAt_ok T S.rel (S.fr x) h1
        have hp : ∃ ad, a.tmps.getD x undef = .pointer (some ad) := by
          have hx := S.fr x
          unfold loadO at h1
          split at h1
          · rename_i b o e; rw [e] at hx; simp only [VA] at hx; obtain ⟨cc, _, hx⟩ := hx; exact ⟨_, hx⟩
          · rename_i cs e; rw [e] at hx; simp only [VA] at hx; obtain ⟨b, o, vs', hx, _⟩ := hx; exact ⟨_, hx⟩
          · cases h1
        obtain ⟨ad, hp⟩ := hp
        rw [hp] at l1
        refine ⟨y :: xs, ?_, by simp only [VAs]; exact ⟨_, _, rfl, l2, k2⟩⟩
        have l3 : (loadVar t ad).run P w = .ok y w := by simpa [Instr.loadAt, Instr.sureAddr] using l1
        simp only [List.mapM_cons, rvRun, Sem.run_bind, Sem.run_pure, hp, asAddr, Result.andThen_ok, l3, k1]
    · cases h

theorem results_ok (T : TyOk E P) {nt : Nat} {g : Gh} {st : St} {a : Act} {w : World} (S : StOk E nt g st a w) {fn : Func} {vs : List AV} (h : rvsO E st fn.results.toList = some vs) :
    ∃ xs, (results fn a.tmps).run P w = .ok (oneV xs) w ∧ VAs g vs xs := by
  obtain ⟨xs, h1, h2⟩ := rvsO_ok T S h
  refine ⟨xs, ?_, h2⟩
  have h3 : (fn.results.mapM (rvRun a.tmps)).run P w = .ok xs.toArray w := by
    rw [Array.mapM_eq_mapM_toList]
    simp [h1]
  rw [results_eq]
  simp only [Sem.run_bind]
  rw [h3]
  simp only [Result.andThen_ok, Sem.run_pure]
  congr 1
  rcases xs with _ | ⟨x, _ | ⟨y, xs⟩⟩ <;> simp [oneV]

theorem frameOf_ok {g : Gh} {as : List AV} {xs : List Value} (h : VAs g as xs) (d : Nat) (ex : Array Value) (ds : List Deferred) : FrOk g (frameOf d as) ⟨xs.toArray ++ ex, ds⟩ := by
  intro t
  unfold frameOf
  rcases frOf_get d (List.range as.length) as t with e | ⟨i, h1, h2⟩
  · rw [e]; simp [VA]
  · have hi : i = t := by
      rw [List.getElem?_range] at h1
      · exact Option.some.inj h1
      · rcases Nat.lt_or_ge i as.length with h3 | h3
        · exact h3
        · rw [List.getElem?_eq_none h3] at h2; cases h2
    subst hi
    obtain ⟨x, h3, h4⟩ := VAs_get h h2
    have hl : i < xs.length := by
      rcases Nat.lt_or_ge i xs.length with h5 | h5
      · exact h5
      · rw [List.getElem?_eq_none h5] at h3; cases h3
    have : (xs.toArray ++ ex).getD i undef = x := by
      rw [Array.getD_eq_getD_getElem?, Array.getElem?_append_left (by simpa using hl)]
      simp [h3]
    simp only
    rw [this]; exact h4

mutual
theorem PV.same_ok : ∀ (a b : PV), PV.same a b = true → a = b
  | .int k n, b, h => by
    cases b <;> simp only [PV.same, Bool.and_eq_true, decide_eq_true_eq, reduceCtorEq] at h
    rw [h.1, h.2]
  | .bool x, b, h => by cases b <;> simp only [PV.same, beq_iff_eq, reduceCtorEq] at h; rw [h]
  | .str x, b, h => by cases b <;> simp only [PV.same, beq_iff_eq, reduceCtorEq] at h; rw [h]
  | .agg cs, b, h => by cases b <;> simp only [PV.same, reduceCtorEq] at h; rw [PV.sames_ok _ _ h]
  | .lst z es, b, h => by
    cases b <;> simp only [PV.same, Bool.and_eq_true, reduceCtorEq] at h
    rw [Nat.eq_of_beq_eq_true h.1, PV.sames_ok _ _ h.2]
  | .tup cs, b, h => by cases b <;> simp only [PV.same, reduceCtorEq] at h; rw [PV.sames_ok _ _ h]
  | .nilp, b, h => by cases b <;> simp only [PV.same, reduceCtorEq] at h; rfl
  | .nilf, b, h => by cases b <;> simp only [PV.same, reduceCtorEq] at h; rfl
  | .fn f, b, h => by cases b <;> simp only [PV.same, reduceCtorEq] at h; rw [Nat.eq_of_beq_eq_true h]
  | .nili, b, h => by cases b <;> simp only [PV.same, reduceCtorEq] at h; rfl
  | .iface t x, b, h => by
    cases b <;> simp only [PV.same, Bool.and_eq_true, reduceCtorEq] at h
    rw [Nat.eq_of_beq_eq_true h.1, PV.same_ok _ _ h.2]
  | .nilm, b, h => by cases b <;> simp only [PV.same, reduceCtorEq] at h; rfl
  | .map ks vs, b, h => by
    cases b <;> simp only [PV.same, Bool.and_eq_true, reduceCtorEq] at h
    rw [PV.sames_ok _ _ h.1, PV.sames_ok _ _ h.2]
theorem PV.sames_ok : ∀ (a b : List PV), PV.sames a b = true → a = b
  | [], [], _ => rfl
  | [], _ :: _, h => by simp [PV.sames] at h
  | _ :: _, [], h => by simp [PV.sames] at h
  | x :: xs, y :: ys, h => by
    simp only [PV.sames, Bool.and_eq_true] at h
    rw [PV.same_ok _ _ h.1, PV.sames_ok _ _ h.2]
end

theorem bodyK_ok (EO : EnvOk E P) (hop : OpSound E P c) {R : Type} {q : R → R → Bool} (hq : ∀ a b, q a b = true → a = b) {n f : Nat} {fn : Func} (hf : E.fn f = some fn) {bases : List Nat} {as : List AV} {H : Hp} {fin : List AV → Hp → Option R} {r : R} (he : bodyK E c (loopN n) q f fn bases as H fin = some r)
    {g : Gh} {xs : List Value} {w : World} (hv : VAs g as xs) (R : Rel g H w) (G : GlobOk E g) (U : Und bases H) {post : Value → World → Prop}
    (hpost : ∀ vs H' ys w' g', fin vs H' = some r → VAs g' vs ys → Rel g' H' w' → Ext H.length g w g' w' → H.length ≤ H'.length → Und bases H' → post (oneV ys) w') :
    Calls P (E.real f) xs.toArray w fun | .returned y, w' => post y w' | _, _ => False := by
  obtain ⟨h1, h2, h3⟩ := EO.fn.fn f fn hf
  unfold bodyK at he
  split at he
  · cases he
  · rename_i code hb
    refine calls_of_wp h1 hb ?_
    have hcode := codeP_of hop EO.mixed code (EO.code f fn code hf hb)
    refine execK_ok hop hq n f (depthOf fn.ntmps) fn.ntmps code hcode bases 0 ⟨frameOf (depthOf fn.ntmps) as, H⟩ _ r _ g _ w he ⟨frameOf_ok hv _ _ _, R, G, by simp; omega, rfl⟩ U ?_
    intro e a' w' g' st' hk S X l U'
    have fin : ((rvsO E st' fn.results.toList).bind fun vs => fin vs st'.hp) = some r → a'.defers = [] ∧ ∃ v, (results fn a'.tmps).run P w' = .ok v w' ∧ post v w' := by
      intro hk
      obtain ⟨us, k1, k2⟩ := Option.bind_eq_some_iff.1 hk
      obtain ⟨ys, r1, r2⟩ := results_ok EO.ty S k1
      exact ⟨S.defers, _, r1, hpost us st'.hp ys w' g' k2 r2 S.rel X l U'⟩
    cases e with
    | nrm => exact fin hk
    | ret => exact fin hk
    | ext j => cases hk

theorem pureK_ok (EO : EnvOk E P) (hop : OpSound E P c) {n f : Nat} {fn : Func} (hf : E.fn f = some fn) {ps : List PV} {r : PV} (he : pureK E c (loopN n) f ps = some r)
    {g : Gh} {xs : List Value} {w : World} (hv : VPs g ps xs) (R : Rel g [] w) (G : GlobOk E g) :
    Calls P (E.real f) xs.toArray w fun | .returned y, w' => ∃ g', VP g' r y ∧ Rel g' [] w' ∧ Ext 0 g w g' w' | _, _ => False := by
  unfold pureK at he
  rw [hf] at he
  simp only at he
  refine bodyK_ok EO hop PV.same_ok hf he (VAs_pv hv) R G (fun _ h => by simp at h) (post := fun y w' => ∃ g', VP g' r y ∧ Rel g' [] w' ∧ Ext 0 g w g' w') ?_
  intro vs H' ys w' g' h2 hys R' X _ _
  obtain ⟨qs, h3, rfl⟩ := Option.map_eq_some_iff.1 h2
  have hio0 : ∀ b, g.io b = none := fun b => by
    cases e : g.io b with
    | none => rfl
    | some x => have := (R.io b x e).1; simp at this
  have hnew : ∀ b x, g'.io b = some x → w.heap.size ≤ x := by
    intro b x e
    rcases Nat.lt_or_ge x w.heap.size with h4 | h4
    · obtain ⟨b', h5⟩ := X.imgI x b h4 e; rw [hio0] at h5; cases h5
    · exact h4
  let gF : Gh := { mu := fun x o => if x < w.heap.size then g'.mu x o else w'.cell? ⟨x, o, none⟩, nu := fun x => if x < w.heap.size then g'.nu x else (match w'.heap[x]? with | some (.map es _) => some es | _ => none), io := fun _ => none, ow := fun _ => none, tk := fun _ _ => none }
  have hmem : Mem g' gF := by
    refine ⟨fun x o v e => ?_, fun x es e => ?_⟩
    · simp only [gF]; split
      · exact e
      · exact R'.mu x o v e
    · simp only [gF]; split
      · exact e
      · obtain ⟨clk, h4⟩ := R'.nu x es e; rw [h4]
  have hF : Frozen g' gF w' := by
    refine ⟨hmem, fun b x e o v hc => ?_, fun b x e es clk hc => ?_⟩
    · have := hnew b x e
      simp only [gF]; rw [if_neg (by omega)]; exact hc
    · have := hnew b x e
      simp only [gF]; rw [if_neg (by omega), hc]
  refine ⟨gF, oneP_ok (frzsO_ok R' hF hys h3), ?_, ?_⟩
  · constructor
    · intro x o v e
      simp only [gF] at e
      split at e
      · exact R'.mu x o v e
      · exact e
    · intro x es e
      simp only [gF] at e
      split at e
      · exact R'.nu x es e
      · split at e
        · rename_i es' clk h4; cases e; exact ⟨clk, h4⟩
        · cases e
    all_goals first | (intro b c e; cases e; done) | (intro b k v e; cases e; done) | (intro b b' c e; cases e; done) | (intro b k e; simp at e; done)
  · refine ⟨X.mem.trans hmem, fun b hb => by omega, fun b k v hb => by omega, X.frame, fun _ _ _ e => (by cases e), fun _ _ _ e => (by cases e), fun x o v e => ?_, fun x es e => ?_, X.size, X.os, X.tape, X.output⟩
    · simp only [gF] at e
      split at e
      · exact X.muN x o v e
      · exact .inr (.inl (by omega))
    · simp only [gF] at e
      split at e
      · exact X.nuN x es e
      · exact .inr (by omega)

theorem shutK_ok (EO : EnvOk E P) (hop : OpSound E P c) {n f : Nat} {bases : List Nat} {as : List AV} {v : AV} {H H' : Hp} (he : shutK E c (loopN n) bases f as H = some (v, H'))
    {g : Gh} {xs : List Value} {w : World} (hv : VAs g as xs) (R : Rel g H w) (G : GlobOk E g) (U : Und bases H) :
    ∃ fn, E.fn f = some fn ∧ Calls P (E.real f) xs.toArray w fun | .returned y, w' => After bases g H w v H' y w' | _, _ => False := by
  unfold shutK at he
  split at he
  · cases he
  · rename_i fn hf
    refine ⟨fn, hf, ?_⟩
    have nq : ∀ a b : AV × Hp, (fun _ _ => false : AV × Hp → AV × Hp → Bool) a b = true → a = b := fun _ _ h => by cases h
    have wide : (bodyK E c (loopN n) (fun _ _ => false) f fn bases as H fun vs H' => some (oneO (vs.map degr), H')) = some (v, H') → Calls P (E.real f) xs.toArray w fun | .returned y, w' => After bases g H w v H' y w' | _, _ => False := by
      intro he
      refine bodyK_ok EO hop nq hf he hv R G U (post := fun y w' => After bases g H w v H' y w') ?_
      intro vs H2 ys w' g' h2 hys R' X l U'
      simp only [Option.some.injEq, Prod.mk.injEq] at h2
      obtain ⟨rfl, rfl⟩ := h2
      exact ⟨g', oneO_ok (degrs_ok hys), R', X, l, U'⟩
    split at he
    · have hb : ∀ A ∈ bases, A ≤ H.length := fun A hA => (U A hA).1
      have U0 : Und (H.length :: bases) H := by
        intro A hA
        rcases List.mem_cons.1 hA with rfl | hA
        · exact ⟨Nat.le_refl _, fun b k' _ hk => (R.blk b k' hk).under R.lt⟩
        · exact U A hA
      refine bodyK_ok EO hop nq hf he hv R G U0 (post := fun y w' => After bases g H w v H' y w') ?_
      intro vs H2 ys w' g' h2 hys R' X l U'
      cases hu : AV.unders H.length (vs.map degr) with
      | false => rw [hu] at h2; cases h2
      | true =>
        rw [hu] at h2
        simp only [cond_true, Option.some.injEq, Prod.mk.injEq] at h2
        obtain ⟨rfl, rfl⟩ := h2
        have hB := U' H.length (by simp)
        refine ⟨g'.cut H.length, ?_, R'.cut hB.1 hB.2, X.cut (Nat.le_refl _), by simp only [List.length_take]; omega, (U'.cut hb).tail⟩
        exact oneO_ok ((degrs_ok hys).mono (g'.cut_mor _) hu)
    · exact wide he

theorem callN_sound (EO : EnvOk E P) : ∀ n, OrSound E P (callN E n)
  | 0 => ⟨fun f fn ps r _ h => by simp [callN] at h, fun bases f as H v H' h => by simp [callN] at h⟩
  | n + 1 => by
    have hop : OpSound E P (callN E n) := opO_ok EO.ty EO.eq EO.meth EO.fn EO.ext (callN_sound EO n)
    constructor
    · intro f fn ps r hf h g xs w hv R G
      exact pureK_ok EO hop hf (by simpa only [callN] using h) hv R G
    · intro bases f as H v H' h g xs w hv R G U
      exact shutK_ok EO hop (by simpa only [callN] using h) hv R G U

end
end Go.Pu
