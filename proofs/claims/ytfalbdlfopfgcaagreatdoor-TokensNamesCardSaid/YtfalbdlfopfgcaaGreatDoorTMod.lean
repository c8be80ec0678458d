/- The words of a line, as a row of places: what program and reference compute. No program, no condition. -/
import Derived.Test.YtfalbdlfopfgcaaGreatDoorTSl
namespace Go.Proofs.YtfalbdlfopfgcaaGreatDoor

def blankB (c : UInt8) : Bool := c == 32 || c == 9 || c == 13
def remB (c : UInt8) : Bool := c == 42 || c == 59
def badB (c : UInt8) : Bool := decide (c.toNat < 33) || decide (126 < c.toNat)
/-- The words so far: from, to; where the open word begins. -/
abbrev St := List (Nat × Nat) × Option Nat
def closeW (st : St) (k : Nat) : List (Nat × Nat) := match st.2 with
  | none => st.1
  | some f => st.1 ++ [(f, k)]
def stepW (st : St) (k : Nat) (c : UInt8) : Except Int St :=
  if blankB c then .ok (closeW st k, none)
  else if badB c then .error 240
  else match st.2 with
    | none => .ok (st.1, some k)
    | some f => if 80 ≤ k - f then .error 3 else .ok st
/-- The state behind k bytes of a line. -/
def stW (b : List UInt8) : Nat → Except Int St
  | 0 => .ok ([], none)
  | k + 1 => match stW b k with
    | .error e => .error e
    | .ok st => stepW st k (b.getD k 0)
/-- A line without its remark. -/
def bareW (t : List UInt8) : List UInt8 := t.takeWhile fun c => !remB c
def wordsW (t : List UInt8) : List (Nat × Nat) := match stW (bareW t) (bareW t).length with
  | .error _ => []
  | .ok st => closeW st (bareW t).length
def errW (t : List UInt8) : Int := match stW (bareW t) (bareW t).length with
  | .error e => e
  | .ok _ => 0
theorem stW_error {b : List UInt8} {k : Nat} {e : Int} (h : stW b k = .error e) : ∀ n, k ≤ n → stW b n = .error e := by
  intro n hn
  induction n with
  | zero =>
    obtain rfl : k = 0 := by omega
    exact h
  | succ n ih =>
    by_cases he : k = n + 1
    · subst he; exact h
    · simp only [stW, ih (by omega)]
theorem stW_from {b : List UInt8} : ∀ {k : Nat} {ws : List (Nat × Nat)} {o : Option Nat}, stW b k = .ok (ws, o) → (∀ f, o = some f → f < k) ∧ ws.length + (if o.isSome then 1 else 0) ≤ k := by
  intro k
  induction k with
  | zero =>
    intro ws o h
    simp only [stW, Except.ok.injEq, Prod.mk.injEq] at h
    obtain ⟨rfl, rfl⟩ := h
    simp
  | succ k ih =>
    intro ws o h
    simp only [stW] at h
    split at h
    · cases h
    · rename_i st hst
      obtain ⟨vs, q⟩ := st
      obtain ⟨i1, i2⟩ := ih hst
      simp only [stepW] at h
      split at h
      · simp only [Except.ok.injEq, Prod.mk.injEq] at h
        obtain ⟨rfl, rfl⟩ := h
        refine ⟨by simp, ?_⟩
        cases q with
        | none => simp [closeW] at i2 ⊢; omega
        | some f => simp [closeW] at i2 ⊢; omega
      · split at h
        · cases h
        · cases q with
          | none =>
            simp only [Except.ok.injEq, Prod.mk.injEq] at h
            obtain ⟨rfl, rfl⟩ := h
            simp at i2 ⊢
            omega
          | some f =>
            have hf := i1 f rfl
            simp only at h
            split at h
            · cases h
            · simp only [Except.ok.injEq, Prod.mk.injEq] at h
              obtain ⟨rfl, rfl⟩ := h
              simp at i2 ⊢
              omega
/-- No word is open at the beginning and behind a blank, and there alone. -/
theorem stW_none {b : List UInt8} {k : Nat} {ws : List (Nat × Nat)} {o : Option Nat} (h : stW b (k + 1) = .ok (ws, o)) : o = none ↔ blankB (b.getD k 0) = true := by
  simp only [stW] at h
  split at h
  · cases h
  · simp only [stepW] at h
    split at h
    · rename_i hb
      simp only [Except.ok.injEq, Prod.mk.injEq] at h
      exact ⟨fun _ => hb, fun _ => h.2.symm⟩
    · rename_i hb
      split at h
      · cases h
      · split at h
        · simp only [Except.ok.injEq, Prod.mk.injEq] at h
          exact ⟨fun hn => absurd (h.2.trans hn) (by simp), fun hc => absurd hc hb⟩
        · rename_i f hf
          split at h
          · cases h
          · simp only [Except.ok.injEq] at h
            subst h
            simp only at hf
            subst hf
            exact ⟨fun hn => (by cases hn), fun hc => absurd hc hb⟩
/-- The bytes of a line and of its part before the remark. -/
theorem bareW_len (t : List UInt8) : (bareW t).length ≤ t.length := (List.takeWhile_prefix (l := t) fun c => !remB c).length_le
theorem bareW_at {t : List UInt8} : ∀ {k : Nat}, k < (bareW t).length → ∃ c, t[k]? = some c ∧ (bareW t).getD k 0 = c ∧ remB c = false := by
  unfold bareW
  induction t with
  | nil => intro k h; simp at h
  | cons x t ih =>
    intro k h
    by_cases hx : remB x = true
    · simp [hx] at h
    · simp only [Bool.not_eq_true] at hx
      rw [List.takeWhile_cons, hx] at h ⊢
      simp only [Bool.not_false, if_true, List.length_cons] at h ⊢
      cases k with
      | zero => exact ⟨x, rfl, rfl, hx⟩
      | succ k =>
        obtain ⟨c, h1, h2, h3⟩ := ih (k := k) (by omega)
        exact ⟨c, by simpa using h1, by simpa using h2, h3⟩
theorem bareW_end {t : List UInt8} (h : (bareW t).length < t.length) : ∃ c, t[(bareW t).length]? = some c ∧ remB c = true := by
  unfold bareW at h ⊢
  induction t with
  | nil => simp at h
  | cons x t ih =>
    by_cases hx : remB x = true
    · exact ⟨x, by simp [hx], hx⟩
    · simp only [Bool.not_eq_true] at hx
      rw [List.takeWhile_cons, hx] at h ⊢
      simp only [Bool.not_false, if_true, List.length_cons] at h ⊢
      obtain ⟨c, h1, h2⟩ := ih (by omega)
      exact ⟨c, by simpa using h1, h2⟩
/-- The cells of a word. -/
def tokC (t : ByteArray) (line : Int) (p : Nat × Nat) : List Value := [.string (t.extract p.1 p.2), .int .i64 line, .int .i64 p.1]
end Go.Proofs.YtfalbdlfopfgcaaGreatDoor

