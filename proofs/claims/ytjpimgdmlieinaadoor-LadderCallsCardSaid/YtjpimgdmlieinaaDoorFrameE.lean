/- How arguments are opened: a slice of elements as they come in. No condition. -/
import Derived.Test.YtjpimgdmlieinaaDoorKitE1
import Derived.Test.YtjpimgdmlieinaaDoorFrameN
namespace Go.Proofs.YtjpimgdmlieinaaDoor
open Go.RowKit Go.ChangeShapes Go.WideShapes Go.ChangeAt

theorem list8_of {α : Type} {l : List α} (h : l.length = 8) : ∃ a b c d e f g i, l = [a, b, c, d, e, f, g, i] := by
  match l, h with
  | [a, b, c, d, e, f, g, i], _ => exact ⟨a, b, c, d, e, f, g, i, rfl⟩
theorem wf_u8' {n : Int} (h : (Lit.int .u8 n).wf = true) : 0 ≤ n ∧ n < 256 := by
  simp [Lit.wf, IntKind.min, IntKind.max, IntKind.bits, IntKind.signed] at h
  omega
theorem open_el {H : Type} {enc : TypeId × Value → H} {P : Program} {W : World} {base : Nat} {sp : Nat → Bool} {held : Bool} {e : TypeId} {f0 f1 f2 f3 f4 f5 f6 f7 : Field} {fuel : Nat} {cs : List Value} {x : DataW H × List MemPlace}
    (he : P.underlying e = some (.struct #[f0, f1, f2, f3, f4, f5, f6, f7])) (ce : P.cellsOf e = 8)
    (o0 : f0.offset = 0) (o1 : f1.offset = 1) (o2 : f2.offset = 2) (o3 : f3.offset = 3) (o4 : f4.offset = 4) (o5 : f5.offset = 5) (o6 : f6.offset = 6) (o7 : f7.offset = 7)
    (c0 : P.cellsOf f0.type = 1) (c1 : P.cellsOf f1.type = 1) (c2 : P.cellsOf f2.type = 1) (c3 : P.cellsOf f3.type = 1) (c4 : P.cellsOf f4.type = 1) (c5 : P.cellsOf f5.type = 1) (c6 : P.cellsOf f6.type = 1) (c7 : P.cellsOf f7.type = 1)
    (t0 : P.underlying f0.type = some (.int .u8)) (t1 : P.underlying f1.type = some .string) (t2 : P.underlying f2.type = some .string) (t3 : P.underlying f3.type = some .string) (t4 : P.underlying f4.type = some .string) (t5 : P.underlying f5.type = some .string) (t6 : P.underlying f6.type = some (.int .u64)) (t7 : P.underlying f7.type = some (.int .i64))
    (h : DataW.trod enc P W base sp held fuel e cs = some x) : ∃ z : El, z.kind < 256 ∧ IsW z.v ∧ cs = kC z := by
  obtain ⟨xs, m, _, _, hl, hn, hf⟩ := DataW.trod_struct he h
  rw [ce] at hl
  obtain ⟨v0, v1, v2, v3, v4, v5, v6, v7, rfl⟩ := list8_of hl
  obtain ⟨y0, y1, y2, y3, y4, y5, y6, y7, rfl⟩ := list8_of hn
  have g0 := hf 0 f0 rfl
  have g1 := hf 1 f1 rfl
  have g2 := hf 2 f2 rfl
  have g3 := hf 3 f3 rfl
  have g4 := hf 4 f4 rfl
  have g5 := hf 5 f5 rfl
  have g6 := hf 6 f6 rfl
  have g7 := hf 7 f7 rfl
  simp [o0, c0, o1, c1, o2, c2, o3, c3, o4, c4, o5, c5, o6, c6, o7, c7] at g0 g1 g2 g3 g4 g5 g6 g7
  obtain ⟨k, hk, _, kwf⟩ := DataW.trod_int t0 g0
  obtain ⟨u, hu, _, uwf⟩ := DataW.trod_int t6 g6
  obtain ⟨p, hp, _, _⟩ := DataW.trod_int t7 g7
  obtain ⟨s1, hs1, _⟩ := DataW.trod_string t1 g1
  obtain ⟨s2, hs2, _⟩ := DataW.trod_string t2 g2
  obtain ⟨s3, hs3, _⟩ := DataW.trod_string t3 g3
  obtain ⟨s4, hs4, _⟩ := DataW.trod_string t4 g4
  obtain ⟨s5, hs5, _⟩ := DataW.trod_string t5 g5
  simp at hk hu hp hs1 hs2 hs3 hs4 hs5
  have h1 := wf_u8' kwf
  have h2 := wf_u64 uwf
  refine ⟨⟨k.toNat, s1, s2, s3, s4, s5, u.toNat, p⟩, by simp only; omega, by unfold IsW; simp only; omega, ?_⟩
  rw [hk, hu, hp, hs1, hs2, hs3, hs4, hs5]
  simp only [kC, Int.toNat_of_nonneg h1.1, Int.toNat_of_nonneg h2.1]
theorem open_els {H : Type} {enc : TypeId × Value → H} {P : Program} {W : World} {base : Nat} {held : Bool} {t e : TypeId} {f0 f1 f2 f3 f4 f5 f6 f7 : Field} {fuel : Nat} {a : Option Addr} {len cap : Nat} {x : DataW H × List MemPlace}
    (ht : P.underlying t = some (.slice e)) (he : P.underlying e = some (.struct #[f0, f1, f2, f3, f4, f5, f6, f7])) (ce : P.cellsOf e = 8)
    (o0 : f0.offset = 0) (o1 : f1.offset = 1) (o2 : f2.offset = 2) (o3 : f3.offset = 3) (o4 : f4.offset = 4) (o5 : f5.offset = 5) (o6 : f6.offset = 6) (o7 : f7.offset = 7)
    (c0 : P.cellsOf f0.type = 1) (c1 : P.cellsOf f1.type = 1) (c2 : P.cellsOf f2.type = 1) (c3 : P.cellsOf f3.type = 1) (c4 : P.cellsOf f4.type = 1) (c5 : P.cellsOf f5.type = 1) (c6 : P.cellsOf f6.type = 1) (c7 : P.cellsOf f7.type = 1)
    (t0 : P.underlying f0.type = some (.int .u8)) (t1 : P.underlying f1.type = some .string) (t2 : P.underlying f2.type = some .string) (t3 : P.underlying f3.type = some .string) (t4 : P.underlying f4.type = some .string) (t5 : P.underlying f5.type = some .string) (t6 : P.underlying f6.type = some (.int .u64)) (t7 : P.underlying f7.type = some (.int .i64))
    (h : DataW.trod enc P W base (fun _ => true) held fuel t (Value.slice a len cap).cells.toList = some x) :
    ∃ L : List El, (∀ z ∈ L, z.kind < 256 ∧ IsW z.v) ∧ KsAt W (.slice a len cap) L := by
  rcases Go.Deep.open_slice ht h with ⟨hcs, hx⟩ | ⟨ad, len', cap', m, n, D, Pl, hcs, _, hl, hmx, hm, hx, hc⟩
  · simp [Value.cells] at hcs
    obtain ⟨rfl, rfl, rfl⟩ := hcs
    exact ⟨[], (fun z hz => by cases hz), none, 0, rfl, fun k z hz => by simp at hz⟩
  · simp [Value.cells] at hcs
    obtain ⟨rfl, rfl, rfl⟩ := hcs
    rw [if_pos rfl] at hm
    subst hm
    have each : ∀ k, k < m → ∃ z : El, (z.kind < 256 ∧ IsW z.v) ∧ ∀ j u, (kC z)[j]? = some u → W.cell? (ad.add (k * 8 + j)) = some u := by
      intro k hk
      obtain ⟨cs', h1, h2⟩ := hc k hk
      rw [ce] at h1
      obtain ⟨_, hlen, hcell⟩ := World.cells?_some h1
      obtain ⟨z, z1, z2, rfl⟩ := open_el he ce o0 o1 o2 o3 o4 o5 o6 o7 c0 c1 c2 c3 c4 c5 c6 c7 t0 t1 t2 t3 t4 t5 t6 t7 h2
      refine ⟨z, ⟨z1, z2⟩, fun j u hu => ?_⟩
      have hj : j < 8 := by have := (List.getElem?_eq_some_iff.1 hu).1; simpa [kC] using this
      have e0 := hcell j hj
      rw [Go.Deep.add_add] at e0
      rw [e0]
      exact hu
    haveI : Inhabited El := ⟨⟨0, ⟨#[]⟩, ⟨#[]⟩, ⟨#[]⟩, ⟨#[]⟩, ⟨#[]⟩, 0, 0⟩⟩
    obtain ⟨q, hq⟩ := Go.Deep.choose_lt each
    refine ⟨(List.range len).map q, ?_, some ad, m, by simp, fun k z hz => ?_⟩
    · intro z hz
      obtain ⟨i, hi, rfl⟩ := List.mem_map.1 hz
      exact (hq i (by have := List.mem_range.1 hi; omega)).1
    · have hk := (List.getElem?_eq_some_iff.1 hz).1
      simp at hk
      rw [List.getElem?_map, List.getElem?_range hk] at hz
      obtain rfl := Option.some.inj hz
      have h2 := (hq k (by omega)).2
      obtain ⟨b, off, spot⟩ := ad
      have hspot : spot = none := World.cell?_spot (a := ⟨b, off, spot⟩) (by have := (hq 0 (by omega)).2 0 _ rfl; simpa [Addr.add] using this)
      subst hspot
      refine ⟨b, off, rfl, fun j u hu => ?_⟩
      have h3 := h2 j u hu
      rw [Go.WideShapes.add_plain] at h3
      rw [Nat.add_assoc]
      exact h3
end Go.Proofs.YtjpimgdmlieinaaDoor
