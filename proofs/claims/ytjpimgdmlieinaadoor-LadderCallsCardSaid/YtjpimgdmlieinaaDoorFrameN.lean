/- How arguments are opened: a slice of bits of numbers as a list. No condition. -/
import Derived.Test.YtjpimgdmlieinaaDoorKitC
import Derived.Test.YtjpimgdmlieinaaDoorFrame
import Derived.Deep.SlicePairs
namespace Go.Proofs.YtjpimgdmlieinaaDoor
open Go.RowKit Go.ChangeShapes Go.WideShapes Go.ChangeAt

theorem open_numbers {H : Type} {enc : TypeId × Value → H} {P : Program} {W : World} {base : Nat} {held : Bool} {t e : TypeId} {f0 f1 : Field} {fuel : Nat} {a : Option Addr} {len cap : Nat} {x : DataW H × List MemPlace}
    (ht : P.underlying t = some (.slice e)) (he : P.underlying e = some (.struct #[f0, f1])) (ce : P.cellsOf e = 2) (o0 : f0.offset = 0) (o1 : f1.offset = 1) (c0 : P.cellsOf f0.type = 1) (c1 : P.cellsOf f1.type = 1)
    (t0 : P.underlying f0.type = some (.int .u64)) (t1 : P.underlying f1.type = some (.int .u64))
    (h : DataW.trod enc P W base (fun _ => true) held fuel t (Value.slice a len cap).cells.toList = some x) :
    ∃ l : List Z, l.length = len ∧ wfL l ∧ NsAt W (.slice a len cap) l ∧ (x.1 = .nil ∧ len = 0 ∨ ∃ el sp, x.1 = .slice el sp ∧ el.length = len) := by
  rcases Go.Deep.open_slice_pairs ht he ce o0 o1 c0 c1 h with ⟨hcs, hx⟩ | ⟨ad, len', cap', m, n, V0, V1, D0, D1, P0, P1, hcs, _, hl, hmx, hm, hx, hc⟩
  · simp [Value.cells] at hcs
    obtain ⟨rfl, rfl, rfl⟩ := hcs
    exact ⟨[], rfl, (fun z hz => by cases hz), ⟨none, 0, rfl, fun k z hz => by simp at hz⟩, .inl ⟨by rw [hx], rfl⟩⟩
  · simp [Value.cells] at hcs
    obtain ⟨rfl, rfl, rfl⟩ := hcs
    rw [if_pos rfl] at hm
    subst hm
    have each : ∀ i, i < m → ∃ z : Z, IsW z.1 ∧ IsW z.2 ∧ W.cell? (ad.add (i * 2)) = some (.int .u64 z.1) ∧ W.cell? (ad.add (i * 2 + 1)) = some (.int .u64 z.2) := by
      intro i hi
      obtain ⟨h0, h1, h2, h3⟩ := hc i hi
      obtain ⟨ai, hae, _, awf⟩ := DataW.trod_int t0 h2
      obtain ⟨bi, hbe, _, bwf⟩ := DataW.trod_int t1 h3
      simp at hae hbe
      have ha := wf_u64 awf
      have hb := wf_u64 bwf
      refine ⟨(ai.toNat, bi.toNat), by unfold IsW; simp only; omega, by unfold IsW; simp only; omega, ?_, ?_⟩
      · rw [h0, hae]
        simp only [Int.toNat_of_nonneg ha.1]
      · rw [h1, hbe]
        simp only [Int.toNat_of_nonneg hb.1]
    obtain ⟨q, hq⟩ := Go.Deep.choose_lt each
    refine ⟨(List.range len).map q, by simp, ?_, ⟨some ad, m, by simp, fun k z hz => ?_⟩, .inr ⟨_, _, by rw [hx], by simp⟩⟩
    · intro z hz
      obtain ⟨i, hi, rfl⟩ := List.mem_map.1 hz
      have := hq i (by have := List.mem_range.1 hi; omega)
      exact ⟨this.1, this.2.1⟩
    · have hk := (List.getElem?_eq_some_iff.1 hz).1
      simp at hk
      rw [List.getElem?_map, List.getElem?_range hk] at hz
      obtain rfl := Option.some.inj hz
      obtain ⟨_, _, h2, h3⟩ := hq k (by omega)
      obtain ⟨b, off, spot⟩ := ad
      have hspot : spot = none := World.cell?_spot (a := ⟨b, off, spot⟩) (hq 0 (by omega)).2.2.1
      subst hspot
      rw [Go.WideShapes.add_plain] at h2 h3
      exact ⟨b, off, rfl, h2, by rw [← Nat.add_assoc] at h3; exact h3⟩
end Go.Proofs.YtjpimgdmlieinaaDoor
