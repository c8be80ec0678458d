/- The kit's functions that write lists of numbers over, and look whether they lie apart. Conditions: lengths as the reach has them. -/
import Derived.Test.YtjpimgdmlieinaaDoorKitN
import Derived.Test.YtjpimgdmlieinaaDoorTag
import Derived.Deep.RegionLaw
namespace Go.Proofs.YtjpimgdmlieinaaDoor
open Go.RowKit

/-- Nothing but the row v is written. -/
structure Oth (w w' : World) (v : Value) : Prop where
  os : w'.os = w.os
  tape : w'.tape = w.tape
  output : w'.output = w.output
  size : w'.heap.size = w.heap.size
  block : ∀ g, v.ownBlock ≠ some g → w'.heap[g]? = w.heap[g]?
theorem Oth.refl (w : World) (v : Value) : Oth w w v := ⟨rfl, rfl, rfl, rfl, fun _ _ => rfl⟩
theorem Oth.set {w w' : World} {b n cap j nd : Nat} {x : Value} (h : Oth w w' (.slice (some ⟨b, 0, none⟩) n cap)) : Oth w ((w'.drewN nd).setCell ⟨b, j, none⟩ x) (.slice (some ⟨b, 0, none⟩) n cap) := by
  refine ⟨h.os, h.tape, h.output, by simpa [World.setCell] using h.size, fun g hg => ?_⟩
  have hgb : b ≠ g := fun e => hg (by simp [Value.ownBlock, e])
  rw [← h.block g hg]
  simp [World.setCell, Array.getElem?_modify, hgb]
def OverLoop (B : Nat) (w : World) (v : Value) (n : Nat) (i : Value) (wr : World) : Prop := ∃ (k : Nat) (l : List Z), i = .int .i64 k ∧ k ≤ n ∧ l.length = n ∧ wr.ownsRow B 33 1 v n (l.map C) ∧ Oth w wr v
set_option maxRecDepth 100000 in
set_option maxHeartbeats 2000000 in
theorem OverNumbers_any (l : List Z) (v : Value) (B : Nat) (w : World) (hn : l.length ≤ 100000) (hown : w.ownsRow B 33 1 v l.length (l.map C)) :
    Calls Tryd.prog 36 #[v] w fun e w' => e = .returned (.tuple #[]) ∧ (∃ l' : List Z, w'.ownsRow B 33 1 v l.length (l'.map C)) ∧ Oth w w' v := by
  obtain ⟨n, hnl⟩ : ∃ n, n = l.length := ⟨_, rfl⟩
  rw [← hnl] at hown hn ⊢
  have H0 := hid (And.intro hnl hown)
  obtain ⟨a, cap, rfl⟩ : ∃ a cap, v = .slice a n cap := by
    rcases hown.2 with ⟨rfl, rfl⟩ | ⟨g, cap, cur, rfl, _⟩
    · exact ⟨_, _, rfl⟩
    · exact ⟨_, _, rfl⟩
  clear hown hnl
  go_enter Tryd.func36, Tryd.ntmps36
  go_wp2
  go_loopw [2] (fun i w' => OverLoop B w (.slice a n cap) n i w') (fun i _ => n + 1 - (intOf i).toNat)
  case atStart => exact ⟨0, l, rfl, by omega, H0.out.1.symm, H0.out.2, Oth.refl _ _⟩
  case round =>
    clear H0
    obtain ⟨k, r, rfl, hk, hrl, hown, ho⟩ := hrel
    by_cases hkn : k < n
    · obtain ⟨b, cap', e1, hb1, hb2⟩ := hown.form (by omega)
      cases e1
      have hc : wr.cell? ⟨b, k, none⟩ = some (C (r[k]'(by omega))) := by
        rw [hown.cellAt k (by omega), List.getElem?_map, List.getElem?_eq_getElem (by omega)]
        rfl
      have hf : wr.frozen? ⟨b, k, none⟩ = false := hown.frozenAt k
      unfold C at hc
      generalize r[k]'(by omega) = z at hc
      have HO := hid hown
      clear hown
      go_wp2_with (first | (go_at_call 69; (with_reducible refine (markNumbers_any _ _ _ (by omega) (by omega) (by omega) (by omega)).mono ?_); rintro e w' ⟨x, y, rfl, ⟨nd, rfl⟩, hr, hx, hy⟩))
      go_roundw
      case rel =>
        refine ⟨k + 1, r.set k (x, y), by go_num, by omega, by simpa using hrl, ?_, ho.set⟩
        have := ((owns_drewN HO.out nd).stored k (.complex .f64 x y)).1
        rw [List.map_set]
        exact this
      case measure => simp [intOf] <;> omega
    · obtain rfl : k = n := by omega
      have HO := hid hown
      clear hown
      go_wp2
      go_end0
      exact ⟨rfl, ⟨r, HO.out⟩, ho⟩
end Go.Proofs.YtjpimgdmlieinaaDoor
