/- How arguments are opened: a slice of words as a list. No condition. -/
import Derived.Test.YtfalbdlfopfgcaaGreatDoorSl
import Derived.ProofKit
import Derived.OpenShut
import Derived.ShutString
import Derived.ChangeOld
import Derived.Below
import Derived.SizedLaws
namespace Go.Proofs.YtfalbdlfopfgcaaGreatDoor
open Go.RowKit Go.ChangeShapes Go.WideShapes Go.ChangeAt

theorem wf_u64 {n : Int} (h : (Lit.int .u64 n).wf = true) : 0 ≤ n ∧ n < 18446744073709551616 := by
  simp [Lit.wf, IntKind.min, IntKind.max, IntKind.bits, IntKind.signed] at h
  omega

/-- A slice of words that came in, as a list of words. -/
theorem open_words {H : Type} {enc : TypeId × Value → H} {P : Program} {W : World} {base : Nat} {held : Bool} {t e : TypeId} {fuel : Nat} {a : Option Addr} {len cap : Nat} {x : DataW H × List MemPlace}
    (ht : P.underlying t = some (.slice e)) (he : P.underlying e = some (.int .u64)) (hc : P.cellsOf e = 1)
    (h : DataW.trod enc P W base (fun _ => true) held fuel t (Value.slice a len cap).cells.toList = some x) :
    ∃ l : List Nat, l.length = len ∧ (∀ b ∈ l, IsW b) ∧ Sl W (.slice a len cap) (l.map U) ∧ (x.1 = .nil ∧ len = 0 ∨ ∃ el sp, x.1 = .slice el sp ∧ el.length = len) := by
  rcases open_ints ht he hc h with ⟨hcs, hx⟩ | ⟨ad, l, c, zs, hcs, _, hl, hm, hz, hx, hcell, hwz⟩
  · simp [Value.cells] at hcs
    obtain ⟨rfl, rfl, rfl⟩ := hcs
    exact ⟨[], rfl, by simp, Sl.nil W, .inl ⟨by rw [hx], rfl⟩⟩
  · simp [Value.cells] at hcs
    obtain ⟨rfl, rfl, rfl⟩ := hcs
    have hz' : zs.length = cap := by simpa using hz
    refine ⟨(zs.take len).map Int.toNat, by simp; omega, ?_, ⟨some ad, cap, by simp; omega, ?_, (fun e => by cases e), by simp; omega⟩, .inr ⟨_, _, by rw [hx], by simp [lits]; omega⟩⟩
    · intro b hb
      obtain ⟨z, hz1, rfl⟩ := List.mem_map.1 hb
      have := wf_u64 (hwz z (List.mem_of_mem_take hz1))
      unfold IsW
      omega
    · intro hne
      have hp : 0 < zs.length := by
        rcases Nat.eq_zero_or_pos zs.length with h0 | h0
        · rw [List.eq_nil_of_length_eq_zero h0] at hne
          simp at hne
        · exact h0
      obtain ⟨b, off, rfl, hc2⟩ := ints_at hcell hp
      refine ⟨b, off, rfl, fun i x hx => ?_⟩
      rw [List.map_map, List.getElem?_map, List.getElem?_take] at hx
      split at hx
      · rename_i hi
        have hi2 : i < zs.length := by omega
        rw [List.getElem?_eq_getElem hi2] at hx
        simp at hx
        subst hx
        rw [hc2 i hi2]
        have := wf_u64 (hwz _ (List.getElem_mem hi2))
        rw [List.getD_eq_getElem?_getD, List.getElem?_eq_getElem hi2]
        simp only [Option.getD_some, U]
        rw [Int.toNat_of_nonneg this.1]
      · cases hx
end Go.Proofs.YtfalbdlfopfgcaaGreatDoor

