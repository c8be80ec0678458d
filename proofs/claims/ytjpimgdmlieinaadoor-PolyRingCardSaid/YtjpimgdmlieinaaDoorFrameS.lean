/- How arguments are opened: a slice of pairs of small whole numbers as a list; a pair of them. No condition. -/
import Derived.Test.YtjpimgdmlieinaaDoorLRing
import Derived.Test.YtjpimgdmlieinaaDoorFrameN
import Derived.OpenShut
namespace Go.Proofs.YtjpimgdmlieinaaDoor
open Go.RowKit Go.ChangeShapes Go.WideShapes Go.ChangeAt

theorem arr2_of {α : Type} {cs : Array α} (h : cs.size = 2) : ∃ c0 c1, cs = #[c0, c1] := by
  obtain ⟨l⟩ := cs
  match l, h with
  | [c0, c1], _ => exact ⟨c0, c1, rfl⟩
theorem open_arr2 {H : Type} {enc : TypeId × Value → H} {P : Program} {W : World} {base : Nat} {sp : Nat → Bool} {held : Bool} {t e : TypeId} {fuel : Nat} {cs : List Value} {x : DataW H × List MemPlace}
    (ht : P.underlying t = some (.array 2 e)) (ce : P.cellsOf t = 2) (c0 : P.cellsOf e = 1) (te : P.underlying e = some (.int .i8))
    (h : DataW.trod enc P W base sp held fuel t cs = some x) : ∃ a b : Int, cs = [.int .i8 a, .int .i8 b] := by
  obtain ⟨xs, m, _, _, hl, hn, hx⟩ := DataW.trod_array ht h
  rw [ce] at hl
  match xs, hn, cs, hl with
  | [y0, y1], _, [v0, v1], _ =>
    have g0 := hx 0 (by omega)
    have g1 := hx 1 (by omega)
    simp [c0] at g0 g1
    obtain ⟨a, ea, _, _⟩ := DataW.trod_int te g0
    obtain ⟨b, eb, _, _⟩ := DataW.trod_int te g1
    simp at ea eb
    exact ⟨a, b, by rw [ea, eb]⟩
theorem open_pair {H : Type} {enc : TypeId × Value → H} {P : Program} {W : World} {base b0 : Nat} {r : Reach} {sp : Nat → Bool} {held : Bool} {t e : TypeId} {v : Value} {d : DataW H} {p : List MemPlace}
    (ht : P.underlying t = some (.array 2 e)) (ce : P.cellsOf t = 2) (c0 : P.cellsOf e = 1) (te : P.underlying e = some (.int .i8)) (hv : Value.okWide P W r b0 t v)
    (h : DataW.Trod enc P W base sp held t v d p) : ∃ a b : Int, v = .agg #[.int .i8 a, .int .i8 b] := by
  simp only [Value.okWide, ht] at hv
  obtain ⟨cs, rfl, hsz, _⟩ := hv
  obtain ⟨v0, v1, rfl⟩ := arr2_of (hsz.trans ce)
  obtain ⟨fuel, hf⟩ := h
  obtain ⟨a, b, hab⟩ := open_arr2 ht ce c0 te hf
  refine ⟨a, b, ?_⟩
  simp [Value.cells] at hab
  rw [hab.1, hab.2]
theorem open_smalls {H : Type} {enc : TypeId × Value → H} {P : Program} {W : World} {base : Nat} {held : Bool} {t e i : TypeId} {fuel : Nat} {a : Option Addr} {len cap : Nat} {x : DataW H × List MemPlace}
    (ht : P.underlying t = some (.slice e)) (he : P.underlying e = some (.array 2 i)) (ce : P.cellsOf e = 2) (c0 : P.cellsOf i = 1) (ti : P.underlying i = some (.int .i8))
    (h : DataW.trod enc P W base (fun _ => true) held fuel t (Value.slice a len cap).cells.toList = some x) :
    ∃ l : List G, l.length = len ∧ SmAt W (.slice a len cap) l ∧ (x.1 = .nil ∧ len = 0 ∨ ∃ el sp, x.1 = .slice el sp ∧ el.length = len) := by
  rcases Go.Deep.open_slice ht h with ⟨hcs, hx⟩ | ⟨ad, len', cap', m, n, D, Pl, hcs, _, hl, hmx, hm, hx, hc⟩
  · simp [Value.cells] at hcs
    obtain ⟨rfl, rfl, rfl⟩ := hcs
    exact ⟨[], rfl, ⟨none, 0, rfl, fun k z hz => by simp at hz⟩, .inl ⟨by rw [hx], rfl⟩⟩
  · simp [Value.cells] at hcs
    obtain ⟨rfl, rfl, rfl⟩ := hcs
    rw [if_pos rfl] at hm
    subst hm
    have each : ∀ k, k < m → ∃ z : G, W.cell? (ad.add (k * 2)) = some (.int .i8 z.1) ∧ W.cell? (ad.add (k * 2 + 1)) = some (.int .i8 z.2) := by
      intro k hk
      obtain ⟨cs', h1, h2⟩ := hc k hk
      rw [ce] at h1
      obtain ⟨_, hlen, hcell⟩ := World.cells?_some h1
      obtain ⟨u, v, rfl⟩ := open_arr2 he ce c0 ti h2
      have e0 := hcell 0 (by omega)
      have e1 := hcell 1 (by omega)
      rw [Go.Deep.add_add] at e0 e1
      exact ⟨(u, v), by simpa using e0, by simpa using e1⟩
    obtain ⟨q, hq⟩ := Go.Deep.choose_lt each
    refine ⟨(List.range len).map q, by simp, ⟨some ad, m, by simp, fun k z hz => ?_⟩, .inr ⟨_, _, by rw [hx], by simp⟩⟩
    have hk := (List.getElem?_eq_some_iff.1 hz).1
    simp at hk
    rw [List.getElem?_map, List.getElem?_range hk] at hz
    obtain rfl := Option.some.inj hz
    obtain ⟨h2, h3⟩ := hq k (by omega)
    obtain ⟨b, off, spot⟩ := ad
    have hspot : spot = none := World.cell?_spot (a := ⟨b, off, spot⟩) (hq 0 (by omega)).1
    subst hspot
    rw [Go.WideShapes.add_plain] at h2 h3
    exact ⟨b, off, rfl, h2, by rw [← Nat.add_assoc] at h3; exact h3⟩
end Go.Proofs.YtjpimgdmlieinaaDoor
