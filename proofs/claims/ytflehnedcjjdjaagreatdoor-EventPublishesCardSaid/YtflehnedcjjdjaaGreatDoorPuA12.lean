/-
  Which operations may change places; the check of a region whose order is open.
-/
import Derived.Test.YtflehnedcjjdjaaGreatDoorPuA11
set_option linter.unusedSimpArgs false
set_option linter.unusedVariables false
namespace Go.Pu

theorem fillO_congr {E : Env} {pl : Nat → Option (Nat × Nat)} {ev ev' : Operand → AV} : ∀ (ps : List (Nat × Operand)) (cs : List AV), (∀ p ∈ ps, ev p.2 = ev' p.2) → fillO E pl ev ps cs = fillO E pl ev' ps cs
  | [], cs, _ => rfl
  | (i, x) :: ps, cs, h => by
    have hx : ev x = ev' x := h (i, x) (by simp)
    simp only [fillO, hx]
    split
    · split
      · exact fillO_congr ps _ fun p hp => h p (by simp [hp])
      · rfl
    · rfl

theorem partsO_congr {ev ev' : Operand → AV} {size : Nat} : ∀ (ps : List (Nat × Operand)) (k : Nat), (∀ p ∈ ps, ev p.2 = ev' p.2) → partsO ev size k ps = partsO ev' size k ps
  | [], _, _ => rfl
  | (i, x) :: ps, k, h => by
    have hx : ev x = ev' x := h (i, x) (by simp)
    simp only [partsO, hx, partsO_congr ps (k + 1) fun p hp => h p (by simp [hp])]

theorem opO_congr {E : Env} {c : Oracle} {f : Nat} {bases : List Nat} {dr : Option Draw} {i rank : Nat} {o : Oper} {fr fr' : Fr} {H : Hp} (h : ∀ x ∈ o.op.operands, evalO E fr x = evalO E fr' x) :
    opO E c f bases dr i rank o ⟨fr, H⟩ = opO E c f bases dr i rank o ⟨fr', H⟩ := by
  obtain ⟨dst, op, type, pos, after, guard⟩ := o
  cases op <;> simp only [Op.operands] at h <;> simp only [opO]
  case build t ps =>
    have h' : ∀ p ∈ ps.toList, evalO E fr p.2 = evalO E fr' p.2 := fun p hp => h p.2 (by simpa using ⟨p.1, by simpa using hp⟩)
    unfold buildO
    split <;> simp only [fillO_congr _ _ h']
  case buildSlice t n ps =>
    have h' : ∀ p ∈ ps.toList, evalO E fr p.2 = evalO E fr' p.2 := fun p hp => h p.2 (by simpa using ⟨p.1, by simpa using hp⟩)
    unfold bsliceO
    split <;> simp only [partsO_congr _ _ h']
  case makeFunc g a b =>
    rw [List.map_congr_left (l := a.toList) fun x hx => h x (by simpa using .inl (by simpa using hx)), List.map_congr_left (l := b.toList) fun x hx => h x (by simpa using .inr (by simpa using hx))]
  case makeMap t r => cases r <;> rfl
  case slice t x lo hi mx => cases lo <;> cases hi <;> cases mx <;> simp_all
  case call k =>
    have hargs : k.args.toList.map (evalO E fr) = k.args.toList.map (evalO E fr') := List.map_congr_left fun x hx => h x (by simp [Call.operands]; right; simpa using hx)
    rw [hargs]
    cases hc : k.callee with
    | value g => simp only; rw [h g (by simp [Call.operands, hc])]
    | invoke r m => simp only; rw [h r (by simp [Call.operands, hc])]
    | builtin b => rfl
  all_goals (first | rfl | (simp_all; done))

theorem effO_congr {E : Env} {c : Oracle} {f : Nat} {bases : List Nat} {dr : Option Draw} {ops : Array Oper} {i rank : Nat} {o : Oper} {fr fr' : Fr} {H : Hp} (h : ∀ d ∈ o.looksAt ops, fr.get d = fr'.get d) :
    effO E c f bases dr ops i rank o fr H = effO E c f bases dr ops i rank o fr' H := by
  have hop : opO E c f bases dr i rank o ⟨fr, H⟩ = opO E c f bases dr i rank o ⟨fr', H⟩ := opO_congr fun x hx => by
    cases x with
    | tmp t => exact h t (by unfold Oper.looksAt; exact List.mem_append_left _ (List.mem_filterMap.2 ⟨.tmp t, by simpa using hx, rfl⟩))
    | _ => rfl
  have hg : guardO ops o fr = guardO ops o fr' := by
    unfold guardO
    split
    · rfl
    · rename_i j want hgd
      split
      · rfl
      · rename_i d hd
        rw [h d (by unfold Oper.looksAt; exact List.mem_append_right _ (by rw [hgd]; simp [hd]))]
  unfold effO
  rw [hg, hop]

/-! ### What operations do to the heap -/

/-- It leaves the heap; what it answers, it answers too where the blocks of a set are as they are. -/
def IsR (S : Nat → Prop) (op : Fr → Hp → Option (AV × Hp)) : Prop := ∀ fr H v H1, op fr H = some (v, H1) → H1 = H ∧ ∀ H', Keep S H H' → op fr H' = some (v, H')
/-- It keeps blocks, forth and back. -/
def IsE (S1 S2 : Nat → Prop) (op : Fr → Hp → Option (AV × Hp)) : Prop := ∀ fr H v H1, op fr H = some (v, H1) → Keep S1 H H1 ∧ Keep S2 H1 H

def All : Nat → Prop := fun _ => True
def Non : Nat → Prop := fun _ => False
def Old (d : Draw) : Nat → Prop := fun b => b < d.n0 ∧ d.apart.contains b = false

theorem IsR.e {S : Nat → Prop} {op : Fr → Hp → Option (AV × Hp)} (h : IsR S op) : IsE All All op := fun fr H v H1 e => by
  obtain ⟨rfl, _⟩ := h fr H v H1 e; exact ⟨Keep.refl _ _, Keep.refl _ _⟩
theorem IsE.non (op : Fr → Hp → Option (AV × Hp)) : IsE Non Non op := fun _ _ _ _ _ => ⟨fun _ _ h => h.elim, fun _ _ h => h.elim⟩

section
variable {E : Env} {c : Oracle} {f : Nat} {bases : List Nat} {dr : Option Draw} {ops : Array Oper} {i rank : Nat} {o : Oper}

theorem IsR.guard {S : Nat → Prop} (h : IsR S fun fr H => opO E c f bases dr i rank o ⟨fr, H⟩) : IsR S (effO E c f bases dr ops i rank o) := by
  intro fr H v H1 e
  unfold effO at e ⊢
  cases hg : guardO ops o fr with
  | none => rw [hg] at e; cases e
  | some b =>
    rw [hg] at e
    cases b
    · simp only [Option.some.injEq, Prod.mk.injEq] at e ⊢
      obtain ⟨rfl, rfl⟩ := e; exact ⟨rfl, fun _ _ => ⟨rfl, trivial⟩⟩
    · exact h fr H v H1 e

theorem IsE.guard {S1 S2 : Nat → Prop} (h : IsE S1 S2 fun fr H => opO E c f bases dr i rank o ⟨fr, H⟩) : IsE S1 S2 (effO E c f bases dr ops i rank o) := by
  intro fr H v H1 e
  unfold effO at e
  cases hg : guardO ops o fr with
  | none => rw [hg] at e; cases e
  | some b =>
    rw [hg] at e
    cases b
    · simp only [Option.some.injEq, Prod.mk.injEq] at e
      obtain ⟨rfl, rfl⟩ := e; exact ⟨Keep.refl _ _, Keep.refl _ _⟩
    · exact h fr H v H1 e

theorem isR_of {S : Nat → Prop} {op : Fr → Hp → Option (AV × Hp)} {X : Fr → Hp → Option AV} (h : ∀ fr H, op fr H = (X fr H).map fun v => (v, H))
    (hX : ∀ fr H v, X fr H = some v → ∀ H', Keep S H H' → X fr H' = some v) : IsR S op := by
  intro fr H v H1 e
  rw [h] at e
  cases hx : X fr H with
  | none => rw [hx] at e; cases e
  | some u =>
    rw [hx] at e
    simp only [Option.map_some, Option.some.injEq, Prod.mk.injEq] at e
    obtain ⟨rfl, rfl⟩ := e
    exact ⟨rfl, fun H' k => by rw [h, hX fr H u hx H' k]; rfl⟩

theorem isR_pure {op : Fr → Hp → Option (AV × Hp)} {X : Fr → Option AV} (h : ∀ fr H, op fr H = (X fr).map fun v => (v, H)) : IsR Non op := isR_of (X := fun fr _ => X fr) h fun _ _ _ e _ _ => e

inductive KO where
  | p | r | ro | a | w | t | x
  deriving DecidableEq

def kindO (E : Env) (f : Nat) (fl : List Nat) (i : Nat) (o : Oper) : KO :=
  match o.op with
  | .move _ | .assign _ | .pick .. | .build .. | .buildSlice .. | .nilCheck _ | .binOp .. | .unOp .. | .makeFunc .. | .slice .. | .fieldAddr .. | .field .. | .indexAddr .. | .index .. | .typeAssert .. | .extract .. => .p
  | .makeInterface .. => .p
  | .convert _ d _ => match (E.ty d).kd with | .slice _ => .p | _ => .r
  | .load .. => cond (fl.contains i) .ro .r
  | .lookup .. => .r
  | .alloc _ | .box .. => .a
  | .store .. => cond (fl.contains i) .w .x
  | .call k => match k.callee with
    | .builtin .len => .r
    | .builtin .min | .builtin .max => .p
    | .builtin .append => .t
    | .value (.func g) => cond (E.ext g).isSome .p (match E.cls (E.redir f g) with | .pure => .r | _ => .x)
    | _ => .x
  | _ => .x

theorem keep_cells {S : Nat → Prop} {H H' : Hp} (k : Keep S H H') {b : Nat} (hb : S b) {cs : List AV} (h : H[b]? = some (.cells cs)) : H'[b]? = some (.cells cs) := k b _ hb h rfl
theorem keep_map {S : Nat → Prop} {H H' : Hp} (k : Keep S H H') {b : Nat} (hb : S b) {ks : List PV} {vs : List AV} (h : H[b]? = some (.map ks vs)) : H'[b]? = some (.map ks vs) := k b _ hb h rfl

mutual
theorem snap_keep {H H' : Hp} (k : Keep All H H') : ∀ {v : AV} {r : PV × Bool}, snap H v = some r → snap H' v = some r
  | .pv x, r, h => by simpa only [snap] using h
  | .ful sz es, r, h => by simpa only [snap] using h
  | .own _ _ sz es, r, h => by simpa only [snap] using h
  | .msl b off len _ sz ag, r, h => by
    simp only [snap] at h ⊢
    split at h
    · rename_i cs hb; rw [keep_cells k trivial hb]; exact h
    · cases h
  | .agg cs, r, h => by
    simp only [snap] at h ⊢
    cases hs : snaps H cs with
    | none => rw [hs] at h; cases h
    | some q => rw [snaps_keep k hs]; rw [hs] at h; exact h
  | .tup cs, r, h => by
    simp only [snap] at h ⊢
    cases hs : snaps H cs with
    | none => rw [hs] at h; cases h
    | some q => rw [snaps_keep k hs]; rw [hs] at h; exact h
  | .bot, r, h | .ptr _ _, r, h | .rad _, r, h | .lst _ _, r, h | .fn _ _ _, r, h | .fnm _ _, r, h | .iface _ _, r, h | .map _, r, h | .ubool, r, h => by simp [snap] at h
theorem snaps_keep {H H' : Hp} (k : Keep All H H') : ∀ {vs : List AV} {r : List PV × Bool}, snaps H vs = some r → snaps H' vs = some r
  | [], r, h => by simpa only [snaps] using h
  | v :: vs, r, h => by
    simp only [snaps] at h ⊢
    split at h
    · rename_i p ps h1 h2; rw [snap_keep k h1, snaps_keep k h2]; exact h
    · cases h
end

theorem toPVt_keep {E : Env} {H H' : Hp} (k : Keep All H H') {t : Nat} {v : AV} {r : PV × Bool} (h : toPVt E H t v = some r) : toPVt E H' t v = some r := by
  unfold toPVt at h ⊢
  split at h
  · exact h
  · exact snap_keep k h

theorem argsO_keep {E : Env} {H H' : Hp} (k : Keep All H H') : ∀ {ts : List Nat} {vs : List AV} {r : List PV × Bool}, argsO E H ts vs = some r → argsO E H' ts vs = some r
  | [], [], r, h => h
  | [], _ :: _, r, h => by simp [argsO] at h
  | _ :: _, [], r, h => by simp [argsO] at h
  | t :: ts, v :: vs, r, h => by
    simp only [argsO] at h ⊢
    split at h
    · rename_i p ps h1 h2; rw [toPVt_keep k h1, argsO_keep k h2]; exact h
    · cases h

theorem bytesO_keep {H H' : Hp} (k : Keep All H H') {x : AV} {s : List UInt8} (h : bytesO H x = some s) : bytesO H' x = some s := by
  unfold bytesO at h ⊢
  split at h
  · split at h
    · rename_i cs hb; rw [keep_cells k trivial hb]; exact h
    · cases h
  · exact h

theorem convO_keep {E : Env} {s d : Nat} {H H' : Hp} (k : Keep All H H') {x v : AV} (h : convO E s d H x = some v) : convO E s d H' x = some v := by
  unfold convO at h ⊢
  split at h
  · rename_i hs
    rw [if_pos hs]
    split at h
    · exact h
    · exact h
    · exact h
    · split at h
      · split at h
        · rename_i e hk hu
          obtain ⟨s', hb, e2⟩ := Option.map_eq_some_iff.1 h
          rw [if_pos hu, bytesO_keep k hb]; simp [e2]
        · cases h
      · cases h
    · cases h
  · cases h

theorem lenO_keep {kd : TK} {H H' : Hp} (k : Keep All H H') {x v : AV} (h : lenO kd H x = some v) : lenO kd H' x = some v := by
  unfold lenO at h ⊢
  split at h <;> try exact h
  split at h
  · rename_i hb; rw [keep_map k trivial hb]; exact h
  · cases h

theorem mapAt_keep {H H' : Hp} (k : Keep All H H') {m : AV} {r : List PV × List AV} (h : mapAt H m = some r) : mapAt H' m = some r := by
  unfold mapAt at h ⊢
  split at h <;> try exact h
  split at h
  · rename_i hb; rw [keep_map k trivial hb]; exact h
  · cases h

theorem lookO_keep {E : Env} {t : Nat} {H H' : Hp} (hk : Keep All H H') {m k v : AV} {ok : Bool} (h : lookO E t H m k ok = some v) : lookO E t H' m k ok = some v := by
  unfold lookO at h ⊢
  split at h
  · split at h
    · rename_i hc
      rw [if_pos hc]
      cases hm : mapAt H m with
      | none => rw [hm] at h; cases h
      | some r => rw [mapAt_keep hk hm]; rw [hm] at h; exact h
    · cases h
  · cases h

theorem loadO_keep {E : Env} {t : Nat} {S : Nat → Prop} {H H' : Hp} (k : Keep S H H') {a v : AV} (ha : ∀ b o, a = .ptr b o → S b) (h : loadO E t H a = some v) : loadO E t H' a = some v := by
  unfold loadO at h ⊢
  split at h
  · rename_i b o
    split at h
    · rename_i cs hb; rw [keep_cells k (ha b o rfl) hb]; exact h
    · cases h
  · exact h
  · cases h

theorem retok_rd : ∀ (olds vs : List AV) (H : Hp) (b : Nat) (k : Blk), rdable k = true → ((retok H olds vs).2[b]? = some k ↔ H[b]? = some k)
  | [], vs, H, b, k, _ => by simp [retok]
  | x :: olds, [], H, b, k, _ => by cases x <;> simp [retok]
  | x :: olds, v :: vs, H, b, k, hk => by
    by_cases hx : ∃ b' g' sz' es' sz es, x = .own b' g' sz' es' ∧ v = .ful sz es
    · obtain ⟨b', g', sz', es', sz, es, rfl, rfl⟩ := hx
      simp only [retok]
      cases hb : H[b']? with
      | none => exact retok_rd olds vs H b k hk
      | some kk =>
        cases kk with
        | tok g2 =>
          refine (retok_rd olds vs _ b k hk).trans ?_
          by_cases e : b' = b
          · subst e
            have hl : b' < H.length := by
              rcases Nat.lt_or_ge b' H.length with h1 | h1
              · exact h1
              · simp [List.getElem?_eq_none h1] at hb
            rw [List.getElem?_set_self hl, hb]
            constructor
            · intro h; cases h; simp [rdable] at hk
            · intro h; cases h; simp [rdable] at hk
          · rw [List.getElem?_set_ne e]
        | _ => exact retok_rd olds vs H b k hk
    · have : retok H (x :: olds) (v :: vs) = (v :: (retok H olds vs).1, (retok H olds vs).2) := by
        cases x <;> cases v <;> first | rfl | exact absurd ⟨_, _, _, _, _, _, rfl, rfl⟩ hx
      rw [this]; exact retok_rd olds vs H b k hk


/-! ### By kinds -/

def rdSet (d : Draw) : KO → Option (Nat → Prop)
  | .p => some Non
  | .r => some All
  | .ro => some (Old d)
  | _ => none

def efSet (d : Draw) : KO → (Nat → Prop) × (Nat → Prop)
  | .p | .r | .ro | .t => (All, All)
  | .a => (All, Old d)
  | .w => (Old d, Old d)
  | .x => (Non, Non)

theorem kind_rd {d : Draw} {S : Nat → Prop} (h : rdSet d (kindO E f d.flags i o) = some S) : IsR S fun fr H => opO E c f bases (some d) i rank o ⟨fr, H⟩ := by
  obtain ⟨dst, op, type, pos, after, guard⟩ := o
  have hp : ∀ {S'} {op : Fr → Hp → Option (AV × Hp)}, some Non = some S' → (∃ X : Fr → Option AV, ∀ fr H, op fr H = (X fr).map fun v => (v, H)) → IsR S' op := by
    intro S' op e ⟨X, hX⟩; cases e; exact isR_pure hX
  have hr : ∀ {S'} {op : Fr → Hp → Option (AV × Hp)}, some All = some S' → (∃ X : Fr → Hp → Option AV, (∀ fr H, op fr H = (X fr H).map fun v => (v, H)) ∧ ∀ fr H v, X fr H = some v → ∀ H', Keep All H H' → X fr H' = some v) → IsR S' op := by
    intro S' op e ⟨X, hX, hk⟩; cases e; exact isR_of hX hk
  have hp2 : ∀ (o' : Oper) {S'}, some Non = some S' → (∀ fr H, opO E c f bases (some d) i rank o' ⟨fr, H⟩ = ((opO E c f bases (some d) i rank o' ⟨fr, []⟩).map (·.1)).map fun v => (v, H)) → IsR S' fun fr H => opO E c f bases (some d) i rank o' ⟨fr, H⟩ := by
    intro o' S' e h'; exact hp e ⟨_, h'⟩
  cases op <;> simp only [kindO, rdSet] at h
  case move x => exact hp h ⟨fun fr => some (evalO E fr x), fun _ _ => rfl⟩
  case assign x => exact hp h ⟨fun fr => some (evalO E fr x), fun _ _ => rfl⟩
  case makeInterface t x =>
    refine hp h ⟨fun fr => match (E.ty t).kd with | .iface | .other => none | _ => some (ifaceO (evalO E fr x) t), fun fr H => ?_⟩
    simp only [opO]; cases (E.ty t).kd <;> rfl
  case convert s t x =>
    cases ht : (E.ty t).kd <;> simp only [ht] at h
    case slice e => exact hp h ⟨fun fr => convB E s t (evalO E fr x), fun fr H => by simp only [opO, ht]⟩
    all_goals exact hr h ⟨fun fr H => convO E s t H (evalO E fr x), fun fr H => by simp only [opO, ht], fun fr H v e H' k => convO_keep k e⟩
  case load t x =>
    cases hf : d.flags.contains i <;> simp only [hf, cond_true, cond_false] at h
    · exact hr h ⟨fun fr H => loadO E t H (evalO E fr x), fun fr H => by simp only [opO, oldOk, hf, cond_false, cond_true], fun fr H v e H' k => loadO_keep k (fun _ _ _ => trivial) e⟩
    · cases h
      refine isR_of (X := fun fr H => cond (oldOk (some d) i (evalO E fr x)) (loadO E t H (evalO E fr x)) none) (fun fr H => ?_) ?_
      · simp only [opO]; cases oldOk (some d) i (evalO E fr x) <;> rfl
      · intro fr H v e H' k
        cases ho : oldOk (some d) i (evalO E fr x) with
        | false => rw [ho] at e; cases e
        | true =>
          rw [ho] at e
          simp only [cond_true] at e ⊢
          refine loadO_keep k (fun b o hb => ?_) e
          rw [hb] at ho
          simp only [oldOk, hf, cond_true, Bool.and_eq_true, Bool.not_eq_true'] at ho
          have := Nat.le_of_ble_eq_true ho.1
          exact ⟨by omega, ho.2⟩
  case lookup t m k' ok => exact hr h ⟨fun fr H => lookO E t H (evalO E fr m) (evalO E fr k') ok, fun fr H => rfl, fun fr H v e H' k => lookO_keep k e⟩
  case call k' =>
    cases hc : k'.callee with
    | invoke r m => simp [hc] at h
    | builtin b =>
      cases b <;> simp only [hc] at h <;> try (cases h; done)
      case len =>
        refine hr h ⟨fun fr H => match k'.args.toList.map (evalO E fr) with | [x] => (match k'.argTypes.toList with | t :: _ => lenO (E.ty t).kd H x | [] => none) | _ => none, fun fr H => ?_, fun fr H v e H' k => ?_⟩
        · simp only [opO, hc]
          generalize k'.args.toList.map (evalO E fr) = as
          generalize k'.argTypes.toList = ts
          unfold callB
          rcases as with _ | ⟨x, _ | ⟨y, as⟩⟩ <;> rcases ts with _ | ⟨t, ts⟩ <;> rfl
        · simp only at e ⊢
          split at e
          · split at e
            · exact lenO_keep k e
            · cases e
          · cases e
      case min =>
        refine hp h ⟨fun fr => match k'.args.toList.map (evalO E fr) with | x :: xs => minmaxsO (fun a b => decide (a < b)) x xs | _ => none, fun fr H => ?_⟩
        simp only [opO, hc]
        generalize k'.args.toList.map (evalO E fr) = as
        unfold callB
        rcases as with _ | ⟨x, as⟩ <;> rfl
      case max =>
        refine hp h ⟨fun fr => match k'.args.toList.map (evalO E fr) with | x :: xs => minmaxsO (fun a b => decide (a > b)) x xs | _ => none, fun fr H => ?_⟩
        simp only [opO, hc]
        generalize k'.args.toList.map (evalO E fr) = as
        unfold callB
        rcases as with _ | ⟨x, as⟩ <;> rfl
    | value g =>
      cases g with
      | func g =>
        simp only [hc] at h
        cases he : E.ext g with
        | some n =>
          simp only [he, Option.isSome_some, cond_true] at h
          refine hp h ⟨fun fr => extO n (k'.args.toList.map (evalO E fr)), fun fr H => ?_⟩
          simp only [opO, hc, evalO, calleeO, callO, he]
        | none =>
          simp only [he, Option.isSome_none, cond_false] at h
          cases hcl : E.cls (E.redir f g) <;> simp only [hcl] at h <;> try (cases h; done)
          refine hr h ⟨fun fr H => (match E.fn (E.redir f g) with
            | some fn => (argsO E H fn.params.toList (k'.args.toList.map (evalO E fr))).bind fun ps => (c.pure (E.redir f g) ps.1).bind fun r => cond (!ps.2 || r.flat) (some (.pv r)) none
            | none => none), fun fr H => ?_, fun fr H v e H' k => ?_⟩
          · simp only [opO, hc, evalO, calleeO, callO, he, hcl]
            cases E.fn (E.redir f g) with
            | none => rfl
            | some fn =>
              simp only
              cases argsO E H fn.params.toList (k'.args.toList.map (evalO E fr)) with
              | none => rfl
              | some ps =>
                simp only [Option.bind_some]
                cases c.pure (E.redir f g) ps.1 with
                | none => rfl
                | some r => simp only [Option.bind_some]; cases (!ps.2 || r.flat) <;> rfl
          · simp only at e ⊢
            split at e
            · rename_i fn hfn
              cases ha : argsO E H fn.params.toList (k'.args.toList.map (evalO E fr)) with
              | none => rw [ha] at e; cases e
              | some ps => rw [argsO_keep k ha]; rw [ha] at e; exact e
            · cases e
      | _ => simp [hc] at h
  case store t a x => cases hf : d.flags.contains i <;> rw [hf] at h <;> cases h
  all_goals first
    | (cases h; done)
    | (refine hp2 _ h ?_; intro fr H; simp only [opO]; rw [Option.map_map, Option.map_map]; rfl)

theorem appO_tok {t t2 : Nat} {H H1 : Hp} {x y v : AV} (e : appO E t t2 H x y = some (v, H1)) (b : Nat) (k : Blk) (hr : rdable k = true) : H1[b]? = some k ↔ H[b]? = some k := by
  unfold appO at e
  split at e
  · split at e
    · split at e
      · split at e
        · split at e
          · split at e
            · simp only [Option.some.injEq, Prod.mk.injEq] at e
              obtain ⟨_, rfl⟩ := e
              rcases Nat.lt_trichotomy b H.length with h1 | h1 | h1
              · rw [List.getElem?_append_left h1]
              · subst h1
                rw [List.getElem?_append_right (Nat.le_refl _), List.getElem?_eq_none (Nat.le_refl H.length)]
                simp only [Nat.sub_self, List.getElem?_cons_zero, Option.some.injEq, reduceCtorEq, iff_false]
                rintro rfl; simp [rdable] at hr
              · rw [List.getElem?_eq_none (by simp; omega), List.getElem?_eq_none (by omega)]
            · cases e
          · rename_i b0 g0 sz0 es0
            split at e
            · split at e
              · rename_i hb0
                split at e
                · simp only [Option.some.injEq, Prod.mk.injEq] at e
                  obtain ⟨_, rfl⟩ := e
                  by_cases e1 : b0 = b
                  · subst e1
                    have hl : b0 < H.length := by
                      rcases Nat.lt_or_ge b0 H.length with h1 | h1
                      · exact h1
                      · simp [List.getElem?_eq_none h1] at hb0
                    rw [List.getElem?_set_self hl, hb0]
                    constructor
                    · intro h; cases h; simp [rdable] at hr
                    · intro h; cases h; simp [rdable] at hr
                  · rw [List.getElem?_set_ne e1]
                · cases e
              · cases e
            · cases e
          · cases e
        · cases e
      · cases e
    · cases e
  · cases e

theorem callB_tok {H H1 : Hp} {ts : List Nat} {as : List AV} {v : AV} (e : callB E H .append ts as = some (v, H1)) (b : Nat) (k : Blk) (hr : rdable k = true) : H1[b]? = some k ↔ H[b]? = some k := by
  unfold callB at e
  rcases as with _ | ⟨s, _ | ⟨x, _ | ⟨y, as⟩⟩⟩ <;> simp only [reduceCtorEq] at e
  rcases ts with _ | ⟨t, _ | ⟨t2, _ | ⟨t3, ts⟩⟩⟩ <;> simp only [reduceCtorEq] at e
  exact appO_tok e b k hr

theorem kind_ef {d : Draw} : IsE (efSet d (kindO E f d.flags i o)).1 (efSet d (kindO E f d.flags i o)).2 fun fr H => opO E c f bases (some d) i rank o ⟨fr, H⟩ := by
  have hrd : ∀ S, rdSet d (kindO E f d.flags i o) = some S → IsE All All fun fr H => opO E c f bases (some d) i rank o ⟨fr, H⟩ := fun S h => (kind_rd h).e
  have newD_ef : ∀ (mint : List Nat) (cs : List AV) (H H1 : Hp) (v : AV), newD (some d) rank mint cs H = some (v, H1) → Keep All H H1 ∧ Keep (Old d) H1 H := by
    intro mint cs H H1 v e
    unfold newD at e
    simp only at e
    split at e
    · rename_i hb
      simp only [Option.some.injEq, Prod.mk.injEq] at e
      obtain ⟨rfl, rfl⟩ := e
      constructor
      · intro b k _ hk hr
        have : d.n0 + rank ≠ b := by rintro rfl; rw [hb] at hk; cases hk; simp [rdable] at hr
        rw [List.getElem?_set_ne this]; exact hk
      · intro b k ho hk hr
        have : d.n0 + rank ≠ b := by have := ho.1; omega
        rw [List.getElem?_set_ne this] at hk; exact hk
    · cases e
  cases hk : kindO E f d.flags i o with
  | p => simp only [efSet]; exact hrd _ (by rw [hk]; rfl)
  | r => simp only [efSet]; exact hrd _ (by rw [hk]; rfl)
  | ro => simp only [efSet]; exact hrd _ (by rw [hk]; rfl)
  | x => exact IsE.non _
  | a =>
    intro fr H v H1 e
    simp only [efSet]
    obtain ⟨dst, op, type, pos, after, guard⟩ := o
    cases op <;> simp only [kindO] at hk <;> try (cases hk; done)
    case alloc t =>
      simp only [opO] at e
      cases hc : ((E.ty t).ok && Nat.beq (E.ty t).zero.length (E.ty t).size) <;> rw [hc] at e
      · cases e
      · exact newD_ef _ _ _ _ _ e
    case box t x =>
      simp only [opO] at e
      cases hc : ((E.ty t).ok && (evalO E fr x).known && Nat.beq (evalO E fr x).cells.length (E.ty t).size) <;> rw [hc] at e
      · cases e
      · exact newD_ef _ _ _ _ _ e
    case convert s t x => cases ht : (E.ty t).kd <;> rw [ht] at hk <;> cases hk
    case load t x => cases hf : d.flags.contains i <;> rw [hf] at hk <;> cases hk
    case store t a x => cases hf : d.flags.contains i <;> rw [hf] at hk <;> cases hk
    case call k =>
      split at hk <;> try (cases hk; done)
      rename_i g _
      cases he : (E.ext g).isSome <;> rw [he] at hk
      · cases hcl : E.cls (E.redir f g) <;> rw [hcl] at hk <;> cases hk
      · cases hk
  | w =>
    intro fr H v H1 e
    simp only [efSet]
    obtain ⟨dst, op, type, pos, after, guard⟩ := o
    cases op <;> simp only [kindO] at hk <;> try (cases hk; done)
    case store t a x =>
      cases hf : d.flags.contains i <;> rw [hf] at hk
      · cases hk
      · simp only [opO] at e
        cases hfo : freshOk (some d) i (evalO E fr a) <;> rw [hfo] at e
        · cases e
        · simp only [cond_true] at e
          obtain ⟨H2, h2, e2⟩ := Option.map_eq_some_iff.1 e
          cases e2
          unfold storeO at h2
          split at h2
          · rename_i b o hb
            rw [hb] at hfo
            simp only [freshOk, hf, cond_true, Bool.or_eq_true] at hfo
            have hnew : ∀ b', Old d b' → b ≠ b' := by
              rintro b' ⟨h3, h4⟩ rfl
              rcases hfo with h5 | h5
              · have := Nat.le_of_ble_eq_true h5; omega
              · rw [h4] at h5; cases h5
            split at h2
            · split at h2
              · simp only [Option.some.injEq] at h2
                subst h2
                constructor
                · intro b' k ho hk' hr
                  rw [List.getElem?_set_ne (hnew b' ho)]
                  exact (retok_rd _ _ _ _ _ hr).2 hk'
                · intro b' k ho hk' hr
                  rw [List.getElem?_set_ne (hnew b' ho)] at hk'
                  exact (retok_rd _ _ _ _ _ hr).1 hk'
              · cases h2
            · cases h2
          · cases h2
    case convert s t x => cases ht : (E.ty t).kd <;> rw [ht] at hk <;> cases hk
    case load t x => cases hf : d.flags.contains i <;> rw [hf] at hk <;> cases hk
    case call k =>
      split at hk <;> try (cases hk; done)
      rename_i g _
      cases he : (E.ext g).isSome <;> rw [he] at hk
      · cases hcl : E.cls (E.redir f g) <;> rw [hcl] at hk <;> cases hk
      · cases hk
  | t =>
    intro fr H v H1 e
    simp only [efSet]
    obtain ⟨dst, op, type, pos, after, guard⟩ := o
    cases op <;> simp only [kindO] at hk <;> try (cases hk; done)
    case convert s t x => cases ht : (E.ty t).kd <;> rw [ht] at hk <;> cases hk
    case load t x => cases hf : d.flags.contains i <;> rw [hf] at hk <;> cases hk
    case store t a x => cases hf : d.flags.contains i <;> rw [hf] at hk <;> cases hk
    case call k =>
      split at hk <;> try (cases hk; done)
      · rename_i hcal
        simp only [opO, hcal] at e
        exact ⟨fun b k' _ h1 hr => (callB_tok e b k' hr).2 h1, fun b k' _ h1 hr => (callB_tok e b k' hr).1 h1⟩
      · rename_i g _
        cases he : (E.ext g).isSome <;> rw [he] at hk
        · cases hcl : E.cls (E.redir f g) <;> rw [hcl] at hk <;> cases hk
        · cases hk

end
end Go.Pu
