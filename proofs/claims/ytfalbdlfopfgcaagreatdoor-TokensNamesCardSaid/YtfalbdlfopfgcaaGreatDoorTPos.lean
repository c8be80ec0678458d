/- Where words end. No program, no condition. -/
import Derived.Test.YtfalbdlfopfgcaaGreatDoorTCut
namespace Go.Proofs.YtfalbdlfopfgcaaGreatDoor
theorem closeW_ends {b : List UInt8} : ∀ {k : Nat} {st : St}, stW b k = .ok st → ∀ p ∈ closeW st k, p.1 < p.2 ∧ p.2 ≤ k := by
  intro k
  induction k with
  | zero =>
    intro st h p hp
    simp only [stW, Except.ok.injEq] at h
    subst h
    simp [closeW] at hp
  | succ k ih =>
    intro st h p hp
    simp only [stW] at h
    split at h
    · cases h
    · rename_i st0 hst
      obtain ⟨vs, q⟩ := st0
      have i := ih hst
      have hq := stW_from hst
      simp only [stepW] at h
      split at h
      · simp only [Except.ok.injEq] at h
        subst h
        have := i p hp
        omega
      · split at h
        · cases h
        · cases q with
          | none =>
            simp only [Except.ok.injEq] at h
            subst h
            simp only [closeW, List.mem_append, List.mem_singleton] at hp i
            rcases hp with hp | rfl
            · have := i p hp; omega
            · simp
          | some f =>
            simp only at h
            split at h
            · cases h
            · simp only [Except.ok.injEq] at h
              subst h
              have hf := hq.1 f rfl
              simp only [closeW, List.mem_append, List.mem_singleton] at hp i
              rcases hp with hp | rfl
              · have := i p (.inl hp); omega
              · simp; omega
theorem wordsW_ends (t : List UInt8) : ∀ p ∈ wordsW t, p.1 < p.2 ∧ p.2 ≤ (bareW t).length := by
  intro p hp
  unfold wordsW at hp
  split at hp
  · cases hp
  · rename_i st h
    exact closeW_ends h p hp
theorem wordsW_len (t : List UInt8) : (wordsW t).length ≤ t.length := by
  have hb := bareW_len t
  unfold wordsW
  split
  · simp
  · rename_i st h
    obtain ⟨ws, o⟩ := st
    have := (stW_from h).2
    cases o with
    | none => simp [closeW] at this ⊢; omega
    | some f => simp [closeW] at this ⊢; omega
end Go.Proofs.YtfalbdlfopfgcaaGreatDoor

