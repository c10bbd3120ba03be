/-
  The plain law of EventTexts: a line tells its parts.
-/

set_option linter.unusedSimpArgs false
set_option linter.unusedVariables false
namespace Go.Pu
/-- A number, as it is written. -/
def decF : Nat → Nat → List UInt8
  | 0, _ => []
  | k + 1, n => if n < 10 then [UInt8.ofNat (48 + n)] else decF k (n / 10) ++ [UInt8.ofNat (48 + n % 10)]
def dec (n : Nat) : List UInt8 := decF 20 n
def decI (n : Int) : List UInt8 := if n < 0 then 45 :: dec (-n).toNat else dec n.toNat

def isDig (b : UInt8) : Bool := decide (48 ≤ b ∧ b ≤ 57)
theorem dig_ok (k : Nat) (h : k < 10) : isDig (UInt8.ofNat (48 + k)) = true := by
  have : k = 0 ∨ k = 1 ∨ k = 2 ∨ k = 3 ∨ k = 4 ∨ k = 5 ∨ k = 6 ∨ k = 7 ∨ k = 8 ∨ k = 9 := by omega
  rcases this with rfl | rfl | rfl | rfl | rfl | rfl | rfl | rfl | rfl | rfl <;> rfl
theorem dig_inj (k l : Nat) (h : k < 10) (h' : l < 10) (e : UInt8.ofNat (48 + k) = UInt8.ofNat (48 + l)) : k = l := by
  have := congrArg UInt8.toNat e
  simp only [UInt8.toNat_ofNat'] at this
  omega
theorem decF_succ (k n : Nat) : decF (k + 1) n = if n < 10 then [UInt8.ofNat (48 + n)] else decF k (n / 10) ++ [UInt8.ofNat (48 + n % 10)] := rfl
theorem decF_digs : ∀ (k n : Nat), ∀ b ∈ decF k n, isDig b = true
  | 0, _, b, hb => by simp [decF] at hb
  | k + 1, n, b, hb => by
    rw [decF] at hb
    split at hb
    · rw [List.mem_singleton] at hb
      subst hb; exact dig_ok n (by omega)
    · rcases List.mem_append.1 hb with hb | hb
      · exact decF_digs k (n / 10) b hb
      · rw [List.mem_singleton] at hb
        subst hb; exact dig_ok _ (by omega)
theorem decF_ne (k n : Nat) : decF (k + 1) n ≠ [] := by
  rw [decF]; split <;> simp
theorem decF_inj : ∀ (k n m : Nat), n < 10 ^ (k + 1) → m < 10 ^ (k + 1) → decF (k + 1) n = decF (k + 1) m → n = m
  | 0, n, m, hn, hm, h => by
    rw [decF_succ 0 n, decF_succ 0 m, if_pos (by simpa using hn), if_pos (by simpa using hm)] at h
    simp only [List.cons.injEq, and_true] at h
    exact dig_inj _ _ (by simpa using hn) (by simpa using hm) h
  | k + 1, n, m, hn, hm, h => by
    rw [decF_succ (k + 1) n, decF_succ (k + 1) m] at h
    have p1 : 10 ^ (k + 1 + 1) = 10 ^ (k + 1) * 10 := Nat.pow_succ ..
    split at h <;> split at h
    · simp only [List.cons.injEq, and_true] at h
      exact dig_inj _ _ (by omega) (by omega) h
    · exfalso
      have := congrArg List.length h
      have h2 : (decF (k + 1) (m / 10)).length ≠ 0 := fun e => decF_ne _ _ (List.length_eq_zero_iff.1 e)
      simp only [List.length_append, List.length_cons, List.length_nil] at this; omega
    · exfalso
      have := congrArg List.length h
      have h2 : (decF (k + 1) (n / 10)).length ≠ 0 := fun e => decF_ne _ _ (List.length_eq_zero_iff.1 e)
      simp only [List.length_append, List.length_cons, List.length_nil] at this; omega
    · have h1 := List.append_inj' h rfl
      have := decF_inj k (n / 10) (m / 10) (by omega) (by omega) h1.1
      have h2 := dig_inj _ _ (by omega) (by omega) (List.head_eq_of_cons_eq h1.2)
      omega
theorem dec_digs (n : Nat) : ∀ b ∈ dec n, isDig b = true := decF_digs 20 n
theorem dec_ne (n : Nat) : dec n ≠ [] := decF_ne 19 n
theorem dec_inj (n m : Nat) (hn : n < 10 ^ 20) (hm : m < 10 ^ 20) (h : dec n = dec m) : n = m := decF_inj 19 n m hn hm h
theorem split_at {P : UInt8 → Bool} (hP : P 32 = false) : ∀ (a b s t : List UInt8), (∀ x ∈ a, P x = true) → (∀ x ∈ b, P x = true) → a ++ 32 :: s = b ++ 32 :: t → a = b ∧ s = t := by
  intro a
  induction a with
  | nil =>
    intro b s t _ hb h
    cases b with
    | nil => simp at h; exact ⟨rfl, h⟩
    | cons y b =>
      simp only [List.nil_append, List.cons_append, List.cons.injEq] at h
      have := hb y (by simp)
      rw [← h.1, hP] at this; cases this
  | cons x a ih =>
    intro b s t ha hb h
    cases b with
    | nil =>
      simp only [List.nil_append, List.cons_append, List.cons.injEq] at h
      have := ha x (by simp)
      rw [h.1, hP] at this; cases this
    | cons y b =>
      simp only [List.cons_append, List.cons.injEq] at h
      obtain ⟨e1, e2⟩ := ih b s t (fun z hz => ha z (by simp [hz])) (fun z hz => hb z (by simp [hz])) h.2
      exact ⟨by rw [h.1, e1], e2⟩
/-- What stands behind the last space is told by the whole, if there are digits alone. -/
theorem tail_inj {s t a b : List UInt8} (ha : ∀ x ∈ a, isDig x = true) (hb : ∀ x ∈ b, isDig x = true) (h : s ++ 32 :: a = t ++ 32 :: b) : s = t ∧ a = b := by
  have hr := congrArg List.reverse h
  simp only [List.reverse_append, List.reverse_cons, List.append_assoc] at hr
  obtain ⟨h1, h2⟩ := split_at (P := isDig) rfl a.reverse b.reverse s.reverse t.reverse (fun x hx => ha x (by simpa using hx)) (fun x hx => hb x (by simpa using hx)) (by simpa using hr)
  exact ⟨List.reverse_inj.1 h2, List.reverse_inj.1 h1⟩

def protoName (n : Int) : List UInt8 := if n = 1 then [109, 113, 116, 116, 51] else if n = 2 then [109, 113, 116, 116, 53] else if n = 3 then [115, 110] else if n = 4 then [97, 109, 113, 112] else [63]
/-- " publish q" -/
def pubq : List UInt8 := [32, 112, 117, 98, 108, 105, 115, 104, 32, 113]
/-- " retain" -/
def ret : List UInt8 := [32, 114, 101, 116, 97, 105, 110]
def lineOf (proto qos : Int) (topic : List UInt8) (len : Nat) (retain : Bool) : List UInt8 :=
  ((((protoName proto ++ pubq) ++ decI qos) ++ [32]) ++ topic) ++ [32] ++ dec len ++ (if retain then ret else [])

theorem line_inj {p p' q q' : Int} {t t' : List UInt8} {n n' : Nat} {r r' : Bool} (hp : 1 ≤ p ∧ p ≤ 4) (hp' : 1 ≤ p' ∧ p' ≤ 4) (hq : -1 ≤ q ∧ q ≤ 2) (hq' : -1 ≤ q' ∧ q' ≤ 2) (hn : n < 10 ^ 20) (hn' : n' < 10 ^ 20)
    (h : lineOf p q t n r = lineOf p' q' t' n' r') : p = p' ∧ t = t' ∧ q = q' ∧ r = r' ∧ n = n' := by
  have hpq : p = p' ∧ q = q' ∧ t ++ 32 :: dec n ++ (if r then ret else []) = t' ++ 32 :: dec n' ++ (if r' then ret else []) := by
    have e1 : p = 1 ∨ p = 2 ∨ p = 3 ∨ p = 4 := by omega
    have e2 : p' = 1 ∨ p' = 2 ∨ p' = 3 ∨ p' = 4 := by omega
    have e3 : q = -1 ∨ q = 0 ∨ q = 1 ∨ q = 2 := by omega
    have e4 : q' = -1 ∨ q' = 0 ∨ q' = 1 ∨ q' = 2 := by omega
    have d0 : decI (-1) = [45, 49] := by decide +kernel
    have d1 : decI 0 = [48] := by decide +kernel
    have d2 : decI 1 = [49] := by decide +kernel
    have d3 : decI 2 = [50] := by decide +kernel
    have noP : ∀ p : Int, (p = 1 ∨ p = 2 ∨ p = 3 ∨ p = 4) → ∀ x ∈ protoName p, (fun b : UInt8 => decide (b ≠ 32)) x = true := by
      rintro p (rfl | rfl | rfl | rfl) <;> decide +kernel
    have noQ : ∀ q : Int, (q = -1 ∨ q = 0 ∨ q = 1 ∨ q = 2) → ∀ x ∈ decI q, (fun b : UInt8 => decide (b ≠ 32)) x = true := by
      rintro q (rfl | rfl | rfl | rfl) <;> decide +kernel
    unfold lineOf pubq at h
    simp only [List.append_assoc, List.cons_append, List.nil_append] at h
    obtain ⟨a1, a2⟩ := split_at (P := fun b => decide (b ≠ 32)) rfl _ _ _ _ (noP p e1) (noP p' e2) h
    simp only [List.cons.injEq, true_and] at a2
    obtain ⟨a3, a4⟩ := split_at (P := fun b => decide (b ≠ 32)) rfl _ _ _ _ (noQ q e3) (noQ q' e4) a2
    refine ⟨?_, ?_, by simpa using a4⟩
    · rcases e1 with rfl | rfl | rfl | rfl <;> rcases e2 with rfl | rfl | rfl | rfl <;> first | rfl | (revert a1; decide +kernel)
    · rcases e3 with rfl | rfl | rfl | rfl <;> rcases e4 with rfl | rfl | rfl | rfl <;> first | rfl | (rw [d0] at a3; revert a3; decide +kernel) | (revert a3; decide +kernel)
  clear h
  obtain ⟨rfl, rfl, h⟩ := hpq
  have last : ∀ (x : List UInt8) (n : Nat) (r : Bool), ∃ y b, x ++ 32 :: dec n ++ (if r then ret else []) = y ++ [b] ∧ (r = true → b = 110) ∧ (r = false → isDig b = true) := by
    intro x n r
    cases r with
    | true => exact ⟨x ++ 32 :: dec n ++ [32, 114, 101, 116, 97, 105], 110, by simp [ret], fun _ => rfl, (fun h => by cases h)⟩
    | false =>
      obtain ⟨z, b, e⟩ : ∃ z b, dec n = z ++ [b] := ⟨(dec n).dropLast, (dec n).getLast (dec_ne n), (List.dropLast_concat_getLast (dec_ne n)).symm⟩
      exact ⟨x ++ 32 :: z, b, by simp [e], (fun h => by cases h), fun _ => dec_digs n b (by rw [e]; simp)⟩
  obtain ⟨y, b, h1, h2, h3⟩ := last t n r
  obtain ⟨y', b', h1', h2', h3'⟩ := last t' n' r'
  have hb : b = b' := by
    rw [h1, h1'] at h
    exact List.head_eq_of_cons_eq (List.append_inj' h rfl).2
  have hr : r = r' := by
    cases r <;> cases r' <;> first | rfl | skip
    · have := h3 rfl; rw [hb, h2' rfl] at this; cases this
    · have := h3' rfl; rw [← hb, h2 rfl] at this; cases this
  subst hr
  have h4 := List.append_cancel_right h
  obtain ⟨e1, e2⟩ := tail_inj (dec_digs n) (dec_digs n') h4
  exact ⟨rfl, e1, rfl, rfl, dec_inj _ _ hn hn' e2⟩
end Go.Pu
