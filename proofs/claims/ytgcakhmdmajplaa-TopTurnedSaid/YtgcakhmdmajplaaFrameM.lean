/- How arguments are opened: a slice of words as a list. No condition. How arguments are opened: a slice of bits of numbers as a list. No condition. How arguments are opened: a slice of elements as they come in. No condition. -/
import Derived.Test.YtgcakhmdmajplaaFlM
import Derived.ProofKit
import Derived.OpenShut
import Derived.ShutString
import Derived.ChangeOld
import Derived.Below
import Derived.SizedLaws
import Derived.Test.YtgcakhmdmajplaaBaseM
import Derived.Deep.SlicePairs
import Derived.Test.YtgcakhmdmajplaaKitE1M
namespace Go.Proofs.Ytgcakhmdmajplaa
open Go.RowKit Go.ChangeShapes Go.WideShapes Go.ChangeAt

theorem wf_u64 {n : Int} (h : (Lit.int .u64 n).wf = true) : 0 ≤ n ∧ n < 18446744073709551616 := by
  simp [Lit.wf, IntKind.min, IntKind.max, IntKind.bits, IntKind.signed] at h
  omega

/-- A slice of words that came in, as a list of words. -/
theorem open_words {H : Type} {enc : TypeId × Value → H} {P : Program} {W : World} {base : Nat} {held : Bool} {t e : TypeId} {fuel : Nat} {a : Option Addr} {len cap : Nat} {x : DataW H × List MemPlace}
    (ht : P.underlying t = some (.slice e)) (he : P.underlying e = some (.int .u64)) (hc : P.cellsOf e = 1)
    (h : DataW.trod enc P W base (fun _ => true) held fuel t (Value.slice a len cap).cells.toList = some x) :
    ∃ l : List Nat, l.length = len ∧ (∀ b ∈ l, IsW b) ∧ Sl W (.slice a len cap) (l.map U) ∧ (x.1 = .nil ∧ len = 0 ∨ ∃ el sp, x.1 = .slice el sp ∧ el.length = len) := by
  rcases open_ints ht he hc h with ⟨hcs, hx⟩ | ⟨ad, l, c, zs, hcs, _, hl, hm, hz, hx, hcell, hwz⟩
  · simp [Value.cells] at hcs
    obtain ⟨rfl, rfl, rfl⟩ := hcs
    exact ⟨[], rfl, by simp, Sl.nil W, .inl ⟨by rw [hx], rfl⟩⟩
  · simp [Value.cells] at hcs
    obtain ⟨rfl, rfl, rfl⟩ := hcs
    have hz' : zs.length = cap := by simpa using hz
    refine ⟨(zs.take len).map Int.toNat, by simp; omega, ?_, ⟨some ad, cap, by simp; omega, ?_, (fun e => by cases e), by simp; omega⟩, .inr ⟨_, _, by rw [hx], by simp [lits]; omega⟩⟩
    · intro b hb
      obtain ⟨z, hz1, rfl⟩ := List.mem_map.1 hb
      have := wf_u64 (hwz z (List.mem_of_mem_take hz1))
      unfold IsW
      omega
    · intro hne
      have hp : 0 < zs.length := by
        rcases Nat.eq_zero_or_pos zs.length with h0 | h0
        · rw [List.eq_nil_of_length_eq_zero h0] at hne
          simp at hne
        · exact h0
      obtain ⟨b, off, rfl, hc2⟩ := ints_at hcell hp
      refine ⟨b, off, rfl, fun i x hx => ?_⟩
      rw [List.map_map, List.getElem?_map, List.getElem?_take] at hx
      split at hx
      · rename_i hi
        have hi2 : i < zs.length := by omega
        rw [List.getElem?_eq_getElem hi2] at hx
        simp at hx
        subst hx
        rw [hc2 i hi2]
        have := wf_u64 (hwz _ (List.getElem_mem hi2))
        rw [List.getD_eq_getElem?_getD, List.getElem?_eq_getElem hi2]
        simp only [Option.getD_some, U]
        rw [Int.toNat_of_nonneg this.1]
      · cases hx
end Go.Proofs.Ytgcakhmdmajplaa

namespace Go.Proofs.Ytgcakhmdmajplaa
open Go.RowKit Go.ChangeShapes Go.WideShapes Go.ChangeAt

theorem open_numbers {H : Type} {enc : TypeId × Value → H} {P : Program} {W : World} {base : Nat} {held : Bool} {t e : TypeId} {f0 f1 : Field} {fuel : Nat} {a : Option Addr} {len cap : Nat} {x : DataW H × List MemPlace}
    (ht : P.underlying t = some (.slice e)) (he : P.underlying e = some (.struct #[f0, f1])) (ce : P.cellsOf e = 2) (o0 : f0.offset = 0) (o1 : f1.offset = 1) (c0 : P.cellsOf f0.type = 1) (c1 : P.cellsOf f1.type = 1)
    (t0 : P.underlying f0.type = some (.int .u64)) (t1 : P.underlying f1.type = some (.int .u64))
    (h : DataW.trod enc P W base (fun _ => true) held fuel t (Value.slice a len cap).cells.toList = some x) :
    ∃ l : List Z, l.length = len ∧ wfL l ∧ NsAt W (.slice a len cap) l ∧ (x.1 = .nil ∧ len = 0 ∨ ∃ el sp, x.1 = .slice el sp ∧ el.length = len) := by
  rcases Go.Deep.open_slice_pairs ht he ce o0 o1 c0 c1 h with ⟨hcs, hx⟩ | ⟨ad, len', cap', m, n, V0, V1, D0, D1, P0, P1, hcs, _, hl, hmx, hm, hx, hc⟩
  · simp [Value.cells] at hcs
    obtain ⟨rfl, rfl, rfl⟩ := hcs
    exact ⟨[], rfl, (fun z hz => by cases hz), ⟨none, 0, rfl, fun k z hz => by simp at hz⟩, .inl ⟨by rw [hx], rfl⟩⟩
  · simp [Value.cells] at hcs
    obtain ⟨rfl, rfl, rfl⟩ := hcs
    rw [if_pos rfl] at hm
    subst hm
    have each : ∀ i, i < m → ∃ z : Z, IsW z.1 ∧ IsW z.2 ∧ W.cell? (ad.add (i * 2)) = some (.int .u64 z.1) ∧ W.cell? (ad.add (i * 2 + 1)) = some (.int .u64 z.2) := by
      intro i hi
      obtain ⟨h0, h1, h2, h3⟩ := hc i hi
      obtain ⟨ai, hae, _, awf⟩ := DataW.trod_int t0 h2
      obtain ⟨bi, hbe, _, bwf⟩ := DataW.trod_int t1 h3
      simp at hae hbe
      have ha := wf_u64 awf
      have hb := wf_u64 bwf
      refine ⟨(ai.toNat, bi.toNat), by unfold IsW; simp only; omega, by unfold IsW; simp only; omega, ?_, ?_⟩
      · rw [h0, hae]
        simp only [Int.toNat_of_nonneg ha.1]
      · rw [h1, hbe]
        simp only [Int.toNat_of_nonneg hb.1]
    obtain ⟨q, hq⟩ := Go.Deep.choose_lt each
    refine ⟨(List.range len).map q, by simp, ?_, ⟨some ad, m, by simp, fun k z hz => ?_⟩, .inr ⟨_, _, by rw [hx], by simp⟩⟩
    · intro z hz
      obtain ⟨i, hi, rfl⟩ := List.mem_map.1 hz
      have := hq i (by have := List.mem_range.1 hi; omega)
      exact ⟨this.1, this.2.1⟩
    · have hk := (List.getElem?_eq_some_iff.1 hz).1
      simp at hk
      rw [List.getElem?_map, List.getElem?_range hk] at hz
      obtain rfl := Option.some.inj hz
      obtain ⟨_, _, h2, h3⟩ := hq k (by omega)
      obtain ⟨b, off, spot⟩ := ad
      have hspot : spot = none := World.cell?_spot (a := ⟨b, off, spot⟩) (hq 0 (by omega)).2.2.1
      subst hspot
      rw [Go.WideShapes.add_plain] at h2 h3
      exact ⟨b, off, rfl, h2, by rw [← Nat.add_assoc] at h3; exact h3⟩
end Go.Proofs.Ytgcakhmdmajplaa

namespace Go.Proofs.Ytgcakhmdmajplaa
open Go.RowKit Go.ChangeShapes Go.WideShapes Go.ChangeAt

theorem list8_of {α : Type} {l : List α} (h : l.length = 8) : ∃ a b c d e f g i, l = [a, b, c, d, e, f, g, i] := by
  match l, h with
  | [a, b, c, d, e, f, g, i], _ => exact ⟨a, b, c, d, e, f, g, i, rfl⟩
theorem wf_u8' {n : Int} (h : (Lit.int .u8 n).wf = true) : 0 ≤ n ∧ n < 256 := by
  simp [Lit.wf, IntKind.min, IntKind.max, IntKind.bits, IntKind.signed] at h
  omega
theorem open_el {H : Type} {enc : TypeId × Value → H} {P : Program} {W : World} {base : Nat} {sp : Nat → Bool} {held : Bool} {e : TypeId} {f0 f1 f2 f3 f4 f5 f6 f7 : Field} {fuel : Nat} {cs : List Value} {x : DataW H × List MemPlace}
    (he : P.underlying e = some (.struct #[f0, f1, f2, f3, f4, f5, f6, f7])) (ce : P.cellsOf e = 8)
    (o0 : f0.offset = 0) (o1 : f1.offset = 1) (o2 : f2.offset = 2) (o3 : f3.offset = 3) (o4 : f4.offset = 4) (o5 : f5.offset = 5) (o6 : f6.offset = 6) (o7 : f7.offset = 7)
    (c0 : P.cellsOf f0.type = 1) (c1 : P.cellsOf f1.type = 1) (c2 : P.cellsOf f2.type = 1) (c3 : P.cellsOf f3.type = 1) (c4 : P.cellsOf f4.type = 1) (c5 : P.cellsOf f5.type = 1) (c6 : P.cellsOf f6.type = 1) (c7 : P.cellsOf f7.type = 1)
    (t0 : P.underlying f0.type = some (.int .u8)) (t1 : P.underlying f1.type = some .string) (t2 : P.underlying f2.type = some .string) (t3 : P.underlying f3.type = some .string) (t4 : P.underlying f4.type = some .string) (t5 : P.underlying f5.type = some .string) (t6 : P.underlying f6.type = some (.int .u64)) (t7 : P.underlying f7.type = some (.int .i64))
    (h : DataW.trod enc P W base sp held fuel e cs = some x) : ∃ z : El, z.kind < 256 ∧ IsW z.v ∧ cs = kC z := by
  obtain ⟨xs, m, _, _, hl, hn, hf⟩ := DataW.trod_struct he h
  rw [ce] at hl
  obtain ⟨v0, v1, v2, v3, v4, v5, v6, v7, rfl⟩ := list8_of hl
  obtain ⟨y0, y1, y2, y3, y4, y5, y6, y7, rfl⟩ := list8_of hn
  have g0 := hf 0 f0 rfl
  have g1 := hf 1 f1 rfl
  have g2 := hf 2 f2 rfl
  have g3 := hf 3 f3 rfl
  have g4 := hf 4 f4 rfl
  have g5 := hf 5 f5 rfl
  have g6 := hf 6 f6 rfl
  have g7 := hf 7 f7 rfl
  simp [o0, c0, o1, c1, o2, c2, o3, c3, o4, c4, o5, c5, o6, c6, o7, c7] at g0 g1 g2 g3 g4 g5 g6 g7
  obtain ⟨k, hk, _, kwf⟩ := DataW.trod_int t0 g0
  obtain ⟨u, hu, _, uwf⟩ := DataW.trod_int t6 g6
  obtain ⟨p, hp, _, _⟩ := DataW.trod_int t7 g7
  obtain ⟨s1, hs1, _⟩ := DataW.trod_string t1 g1
  obtain ⟨s2, hs2, _⟩ := DataW.trod_string t2 g2
  obtain ⟨s3, hs3, _⟩ := DataW.trod_string t3 g3
  obtain ⟨s4, hs4, _⟩ := DataW.trod_string t4 g4
  obtain ⟨s5, hs5, _⟩ := DataW.trod_string t5 g5
  simp at hk hu hp hs1 hs2 hs3 hs4 hs5
  have h1 := wf_u8' kwf
  have h2 := wf_u64 uwf
  refine ⟨⟨k.toNat, s1, s2, s3, s4, s5, u.toNat, p⟩, by simp only; omega, by unfold IsW; simp only; omega, ?_⟩
  rw [hk, hu, hp, hs1, hs2, hs3, hs4, hs5]
  simp only [kC, Int.toNat_of_nonneg h1.1, Int.toNat_of_nonneg h2.1]
theorem open_els {H : Type} {enc : TypeId × Value → H} {P : Program} {W : World} {base : Nat} {held : Bool} {t e : TypeId} {f0 f1 f2 f3 f4 f5 f6 f7 : Field} {fuel : Nat} {a : Option Addr} {len cap : Nat} {x : DataW H × List MemPlace}
    (ht : P.underlying t = some (.slice e)) (he : P.underlying e = some (.struct #[f0, f1, f2, f3, f4, f5, f6, f7])) (ce : P.cellsOf e = 8)
    (o0 : f0.offset = 0) (o1 : f1.offset = 1) (o2 : f2.offset = 2) (o3 : f3.offset = 3) (o4 : f4.offset = 4) (o5 : f5.offset = 5) (o6 : f6.offset = 6) (o7 : f7.offset = 7)
    (c0 : P.cellsOf f0.type = 1) (c1 : P.cellsOf f1.type = 1) (c2 : P.cellsOf f2.type = 1) (c3 : P.cellsOf f3.type = 1) (c4 : P.cellsOf f4.type = 1) (c5 : P.cellsOf f5.type = 1) (c6 : P.cellsOf f6.type = 1) (c7 : P.cellsOf f7.type = 1)
    (t0 : P.underlying f0.type = some (.int .u8)) (t1 : P.underlying f1.type = some .string) (t2 : P.underlying f2.type = some .string) (t3 : P.underlying f3.type = some .string) (t4 : P.underlying f4.type = some .string) (t5 : P.underlying f5.type = some .string) (t6 : P.underlying f6.type = some (.int .u64)) (t7 : P.underlying f7.type = some (.int .i64))
    (h : DataW.trod enc P W base (fun _ => true) held fuel t (Value.slice a len cap).cells.toList = some x) :
    ∃ L : List El, (∀ z ∈ L, z.kind < 256 ∧ IsW z.v) ∧ KsAt W (.slice a len cap) L := by
  rcases Go.Deep.open_slice ht h with ⟨hcs, hx⟩ | ⟨ad, len', cap', m, n, D, Pl, hcs, _, hl, hmx, hm, hx, hc⟩
  · simp [Value.cells] at hcs
    obtain ⟨rfl, rfl, rfl⟩ := hcs
    exact ⟨[], (fun z hz => by cases hz), none, 0, rfl, fun k z hz => by simp at hz⟩
  · simp [Value.cells] at hcs
    obtain ⟨rfl, rfl, rfl⟩ := hcs
    rw [if_pos rfl] at hm
    subst hm
    have each : ∀ k, k < m → ∃ z : El, (z.kind < 256 ∧ IsW z.v) ∧ ∀ j u, (kC z)[j]? = some u → W.cell? (ad.add (k * 8 + j)) = some u := by
      intro k hk
      obtain ⟨cs', h1, h2⟩ := hc k hk
      rw [ce] at h1
      obtain ⟨_, hlen, hcell⟩ := World.cells?_some h1
      obtain ⟨z, z1, z2, rfl⟩ := open_el he ce o0 o1 o2 o3 o4 o5 o6 o7 c0 c1 c2 c3 c4 c5 c6 c7 t0 t1 t2 t3 t4 t5 t6 t7 h2
      refine ⟨z, ⟨z1, z2⟩, fun j u hu => ?_⟩
      have hj : j < 8 := by have := (List.getElem?_eq_some_iff.1 hu).1; simpa [kC] using this
      have e0 := hcell j hj
      rw [Go.Deep.add_add] at e0
      rw [e0]
      exact hu
    haveI : Inhabited El := ⟨⟨0, ⟨#[]⟩, ⟨#[]⟩, ⟨#[]⟩, ⟨#[]⟩, ⟨#[]⟩, 0, 0⟩⟩
    obtain ⟨q, hq⟩ := Go.Deep.choose_lt each
    refine ⟨(List.range len).map q, ?_, some ad, m, by simp, fun k z hz => ?_⟩
    · intro z hz
      obtain ⟨i, hi, rfl⟩ := List.mem_map.1 hz
      exact (hq i (by have := List.mem_range.1 hi; omega)).1
    · have hk := (List.getElem?_eq_some_iff.1 hz).1
      simp at hk
      rw [List.getElem?_map, List.getElem?_range hk] at hz
      obtain rfl := Option.some.inj hz
      have h2 := (hq k (by omega)).2
      obtain ⟨b, off, spot⟩ := ad
      have hspot : spot = none := World.cell?_spot (a := ⟨b, off, spot⟩) (by have := (hq 0 (by omega)).2 0 _ rfl; simpa [Addr.add] using this)
      subst hspot
      refine ⟨b, off, rfl, fun j u hu => ?_⟩
      have h3 := h2 j u hu
      rw [Go.WideShapes.add_plain] at h3
      rw [Nat.add_assoc]
      exact h3
end Go.Proofs.Ytgcakhmdmajplaa
