/- A line without its remark, a blank, in the reference. Condition: the length. -/
import Derived.Test.YtkjklnnjaiggdaaTCut
namespace Go.Proofs.Ytkjklnnjaiggdaa
open Go.RowKit

theorem blank_n (m : Nat) (v : Bool) (hv : (m == 32 || m == 9 || m == 13) = v) (w : World) :
    Calls Try.prog 23 #[.int .u8 m] w fun e w' => e = .returned (.bool v) ∧ w = w' := by
  subst hv
  by_cases h1 : m = 32
  · subst h1
    go_enter Try.func23, Try.ntmps23
    go_wp2
    go_ret
    exact ⟨rfl, rfl⟩
  · by_cases h2 : m = 9
    · subst h2
      go_enter Try.func23, Try.ntmps23
      go_wp2
      go_ret
      exact ⟨rfl, rfl⟩
    · by_cases h3 : m = 13
      · subst h3
        go_enter Try.func23, Try.ntmps23
        go_wp2
        go_ret
        exact ⟨rfl, rfl⟩
      · have m3 : ((m : Int) == 32) = false ∧ ((m : Int) == 9) = false ∧ ((m : Int) == 13) = false := by
          simp only [beq_eq_false_iff_ne, ne_eq]
          omega
        obtain ⟨m3, m4, m5⟩ := m3
        have e : (m == 32 || m == 9 || m == 13) = false := by simp [h1, h2, h3]
        rw [e]
        go_enter Try.func23, Try.ntmps23
        go_wp2
        go_ret
        exact ⟨rfl, rfl⟩
theorem blankB_nat (c : UInt8) : (c.toNat == 32 || c.toNat == 9 || c.toNat == 13) = blankB c := by
  unfold blankB
  have h : ∀ d : UInt8, (c == d) = (c.toNat == d.toNat) := by
    intro d
    rw [Bool.eq_iff_iff, beq_iff_eq, beq_iff_eq]
    exact UInt8.toNat_inj.symm
  rw [h 32, h 9, h 13]
  rfl

/-- Up to k there is no remark. -/
def BareLoop (w : World) (t : ByteArray) (i : Value) (wr : World) : Prop := ∃ k : Nat, k ≤ (bareW t.data.toList).length ∧ i = .int .i64 k ∧ w = wr
theorem byte_at {t : ByteArray} {k : Nat} {c : UInt8} (hc : t.data.toList[k]? = some c) : ∃ h : k < t.size, (t[k]'h).toNat = c.toNat := by
  have hk : k < t.size := by
    have := (List.getElem?_eq_some_iff.1 hc).1
    simpa using this
  refine ⟨hk, ?_⟩
  have h : t.data.toList[k]? = some (t[k]'hk) := by
    rw [Array.getElem?_toList]
    exact Array.getElem?_eq_getElem hk
  rw [h] at hc
  cases hc
  rfl
theorem rem_no {c : UInt8} (h : remB c = false) : ((c.toNat : Int) == 42) = false ∧ ((c.toNat : Int) == 59) = false := by
  simp only [remB, Bool.or_eq_false_iff, beq_eq_false_iff_ne, ne_eq] at h
  have h1 : c.toNat ≠ 42 := fun e => h.1 (UInt8.toNat_inj.1 e)
  have h2 : c.toNat ≠ 59 := fun e => h.2 (UInt8.toNat_inj.1 e)
  simp only [beq_eq_false_iff_ne, ne_eq]
  omega
theorem rem_yes {c : UInt8} (h : remB c = true) : c.toNat = 42 ∨ c.toNat = 59 := by
  simp only [remB, Bool.or_eq_true, beq_iff_eq] at h
  rcases h with h | h <;> subst h <;> simp

set_option maxRecDepth 100000 in
set_option maxHeartbeats 1000000 in
theorem bare_any (t : ByteArray) (w : World) (ht : t.size ≤ 65536) :
    Calls Try.prog 22 #[.string t] w fun e w' => e = .returned (.string (t.extract 0 (bareW t.data.toList).length)) ∧ w = w' := by
  obtain ⟨n, hn⟩ : ∃ n, n = (bareW t.data.toList).length := ⟨_, rfl⟩
  rw [← hn]
  have HN := hid hn
  clear hn
  go_enter Try.func22, Try.ntmps22
  go_wp2
  go_loopw [3] (BareLoop w t) (fun i _ => t.size - (intOf i).toNat)
  case atStart => exact ⟨0, Nat.zero_le _, rfl, rfl⟩
  case round =>
    obtain ⟨k, hk, rfl, rfl⟩ := hrel
    have hbl : (bareW t.data.toList).length ≤ t.size := by
      have h := bareW_len t.data.toList
      simpa using h
    by_cases hkb : k < (bareW t.data.toList).length
    · obtain ⟨c, hc, _, hr⟩ := bareW_at hkb
      obtain ⟨hks, hck⟩ := byte_at hc
      obtain ⟨m1, m2⟩ := rem_no hr
      generalize c.toNat = m at *
      clear hc hr
      go_wp2
      go_roundw
      case rel => exact ⟨k + 1, by omega, by go_num, rfl⟩
      case measure => simp [intOf]; omega
    · have hkn : n ≤ k ∧ k ≤ n := by have := HN.out; omega
      by_cases hks : k < t.size
      · obtain ⟨c, hc, hr⟩ := bareW_end (t := t.data.toList) (by simpa using show (bareW t.data.toList).length < t.size by omega)
        rw [show (bareW t.data.toList).length = k from by omega] at hc
        obtain ⟨_, hck⟩ := byte_at hc
        have hm := rem_yes hr
        generalize c.toNat = m at *
        clear hc hr hbl hkb hk
        rcases hm with rfl | rfl
        all_goals
          go_wp2
          go_ret
          exact ⟨by rw [show n = k from by omega]; rfl, rfl⟩
      · have h1 : n = t.size := by omega
        have H1 := hid h1
        clear hkb hk h1 hkn
        go_wp2
        go_ret
        refine ⟨?_, rfl⟩
        rw [H1.out]
        simp
end Go.Proofs.Ytkjklnnjaiggdaa
