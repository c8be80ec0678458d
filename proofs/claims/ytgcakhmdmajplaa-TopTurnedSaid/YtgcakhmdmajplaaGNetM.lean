/- A made net asked for its nodes, branches, places; does a solution fit it? Conditions: lengths as a net has them. A node's volts in a solution: phasor.Volt, and the reference's. Conditions: lengths as a net has them. -/
import Derived.Test.YtgcakhmdmajplaaNOfM
import Derived.Test.YtgcakhmdmajplaaNRowsM
import Derived.Test.YtgcakhmdmajplaaNLInM
import Derived.Deep.RegionWith
import Derived.BigRegion
import Derived.Deep.RegionHeld3
import Derived.Test.YtgcakhmdmajplaaBaseM
namespace Go.Proofs.Ytgcakhmdmajplaa
open Go.RowKit Go.Maps

theorem owns_cap {w : World} {B e size : Nat} {v : Value} {n : Nat} {xs : List Value} (h : w.ownsRow B e size v n xs) : ∃ a c, v = .slice a n c ∧ n ≤ c := by
  rcases h.2 with ⟨rfl, rfl⟩ | ⟨g, cap, cur, rfl, _, _, h, _⟩
  · exact ⟨_, _, rfl, Nat.le_refl _⟩
  · exact ⟨_, _, rfl, h⟩
section
variable {w : World} {B : Nat} {N : NB} {V : NV} {l : List El} {nodes br ks ps bs : List ByteArray}
set_option maxRecDepth 100000 in
set_option maxHeartbeats 1000000 in
theorem nNodes_any (K : NetR w B N V l nodes br ks ps bs) (hn : nodes.length ≤ 4000) : Calls Try.prog 10 #[.pointer (some ⟨N.n, 0, none⟩)] w (RetS w nodes) := by
  have HN := hid (is_any K)
  have hS := Sl.of_owns K.R
  have hl : (strL nodes).length = nodes.length := by simp [strL]
  have H1 : Hid (∀ u ∈ strL nodes, u.oneCell' = true) := hid (by
    intro u hu
    obtain ⟨b, _, rfl⟩ := List.mem_map.1 hu
    rfl)
  obtain ⟨-, -, -, c3, -⟩ := K.cells
  go_enter Try.func10, Try.ntmps10
  go_wp2_with (first | (go_at_call 30; (with_reducible refine HN.out.mono ?_); rintro E1 w1 ⟨rfl, rfl⟩) | (at_builtin; go_loud (refine wpList_appN rfl _ _ 40 rfl w1.heap.size 9 _ 16 Try.underlying40 info_str rfl _ 0 _ _ _ rfl rfl (by exact hS) H1.out (World.ownsRow_nil _ _ _ _) (by omega) (by omega) (Nat.le_refl _) ?_; intro v' w' h1 h2 h3)))
  go_ret
  refine ⟨_, rfl, by simpa [strL] using h1, ?_⟩
  first | exact h2 | exact below_of_drewN h2
set_option maxRecDepth 100000 in
set_option maxHeartbeats 1000000 in
theorem nBranches_any (K : NetR w B N V l nodes br ks ps bs) (hn : br.length ≤ 4000) : Calls Try.prog 11 #[.pointer (some ⟨N.n, 0, none⟩)] w (RetS w br) := by
  have HN := hid (is_any K)
  have hS := Sl.of_owns K.Q
  have hl : (strL br).length = br.length := by simp [strL]
  have H1 : Hid (∀ u ∈ strL br, u.oneCell' = true) := hid (by
    intro u hu
    obtain ⟨b, _, rfl⟩ := List.mem_map.1 hu
    rfl)
  obtain ⟨-, -, -, -, -, c5, -⟩ := K.cells
  go_enter Try.func11, Try.ntmps11
  go_wp2_with (first | (go_at_call 30; (with_reducible refine HN.out.mono ?_); rintro E1 w1 ⟨rfl, rfl⟩) | (at_builtin; go_loud (refine wpList_appN rfl _ _ 40 rfl w1.heap.size 9 _ 16 Try.underlying40 info_str rfl _ 0 _ _ _ rfl rfl (by exact hS) H1.out (World.ownsRow_nil _ _ _ _) (by omega) (by omega) (Nat.le_refl _) ?_; intro v' w' h1 h2 h3)))
  go_ret
  refine ⟨_, rfl, by simpa [strL] using h1, ?_⟩
  first | exact h2 | exact below_of_drewN h2
set_option maxRecDepth 100000 in
set_option maxHeartbeats 1000000 in
theorem nWithout_any (K : NetR w B N V l nodes br ks ps bs) (hh : hasS ks ⟨#[]⟩ = false) : Calls Try.prog 43 #[.pointer (some ⟨N.n, 0, none⟩), .string ⟨#[]⟩] w (RetV w (.tuple #[.pointer none, .int .i64 10])) := by
  have HN := hid (is_any K)
  have KN := K.KN
  obtain ⟨-, -, c2, -⟩ := K.cells
  go_enter Try.func43, Try.ntmps43
  go_wp2_with (first | (go_at_call 30; (with_reducible refine HN.out.mono ?_); rintro E1 w1 ⟨rfl, rfl⟩) | (at_lookup; go_loud (refine wpList_look rfl _ _ rfl N.nm rfl ks KN ⟨#[]⟩ rfl (by decide) ?_; intro cc hcc; rw [hh])))
  go_ret2
  exact ⟨rfl, Below.refl _ _⟩
set_option maxRecDepth 100000 in
set_option maxHeartbeats 1000000 in
theorem nPlace_any (K : NetR w B N V l nodes br ks ps bs) (s : ByteArray) (hs : s.size ≤ maxLen) : Calls Try.prog 77 #[.pointer (some ⟨N.n, 0, none⟩), .string s] w fun E w' => (∃ c : Int, E = .returned (.tuple #[.int .i64 c, .bool (hasS ps s)]) ∧ ∀ i : Nat, ps[i]? = some s → c = i) ∧ w' = w := by
  have HN := hid (is_any K)
  have KP := K.KP
  obtain ⟨-, -, -, -, c4, -⟩ := K.cells
  go_enter Try.func77, Try.ntmps77
  go_wp2_with (first | (go_at_call 30; (with_reducible refine HN.out.mono ?_); rintro E1 w1 ⟨rfl, rfl⟩) | (at_lookup; go_loud (refine wpList_look rfl _ _ rfl N.pm rfl ps KP s rfl hs ?_; intro cc hcc)))
  go_ret2
  exact ⟨⟨cc, rfl, hcc⟩, rfl⟩
set_option maxRecDepth 100000 in
set_option maxHeartbeats 1000000 in
theorem missing_any (K : NetR w B N V l nodes br ks ps bs) (hh : hasS ks ⟨#[]⟩ = false) : Calls Try.prog 54 #[.pointer (some ⟨N.n, 0, none⟩)] w (RetV w (.bool false)) := by
  have HN := hid (nWithout_any K hh)
  go_enter Try.func54, Try.ntmps54
  go_wp2_with (go_at_call 43; (with_reducible refine HN.out.mono ?_); rintro E1 w1 ⟨rfl, hb⟩)
  go_ret
  exact ⟨rfl, hb⟩
def fitF (a b c d : Nat) : Int := if a = c ∧ b = d then 0 else 4
/-- A solution's value. -/
def solV (o : Nat) (u v : Value) : Value := .agg #[.float .f64 o, u, v]
end
end Go.Proofs.Ytgcakhmdmajplaa

namespace Go.Proofs.Ytgcakhmdmajplaa
open Go.RowKit Go.Maps

/-- Where a node stands. -/
def plc (nodes : List ByteArray) (s : ByteArray) : Nat := nodes.findIdx fun t => t.data.toList == s.data.toList
theorem plc_get {nodes : List ByteArray} {s : ByteArray} (h : hasS nodes s = true) : nodes[plc nodes s]? = some s := by
  have h2 : ∃ x ∈ nodes, (fun t : ByteArray => t.data.toList == s.data.toList) x = true := by simpa [hasS] using h
  have hlt : plc nodes s < nodes.length := List.findIdx_lt_length.2 h2
  have := List.findIdx_getElem (w := hlt)
  rw [List.getElem?_eq_getElem hlt]
  exact congrArg some (bytes_inj (eq_of_beq this))
theorem plc_first {nodes : List ByteArray} {s : ByteArray} {k : Nat} {t : ByteArray} (hk : ∀ j : Nat, j < k → ∀ x, nodes[j]? = some x → (x.data.toList == s.data.toList) = false) (ht : nodes[k]? = some t) (he : (t.data.toList == s.data.toList) = true) : plc nodes s = k := by
  have hlt := (List.getElem?_eq_some_iff.1 ht).1
  refine (List.findIdx_eq hlt).2 ⟨?_, ?_⟩
  · rw [(List.getElem?_eq_some_iff.1 ht).2]
    exact he
  · intro j hj
    exact hk j hj _ (List.getElem?_eq_getElem (by omega))
def zero8 : ByteArray := ⟨#[48]⟩
theorem zero_iff (s : ByteArray) : (s.toList == [48]) = true ↔ s = zero8 := by
  rw [beq_iff_eq, ByteArray.toList_eq]
  constructor
  · intro h
    exact bytes_inj h
  · rintro rfl
    rfl
/-- A node's volts. -/
def voltF (nodes br : List ByteArray) (xs ys : List Z) (s : ByteArray) : Z × Int :=
  if xs.length = nodes.length ∧ ys.length = br.length then
    (if hasS nodes s = true then (xs.getD (plc nodes s) (0, 0), 0) else if s = zero8 then ((0, 0), 0) else ((0, 0), 10))
  else ((0, 0), 4)
def RetZ (w : World) (r : Z × Int) (E : Ending) (w' : World) : Prop := E = .returned (.tuple #[.complex .f64 r.1.1 r.1.2, .int .i64 r.2]) ∧ Below w.heap.size w w'
/-- A solution in a value: the lists lie. -/
def SolAt (w : World) (v : Value) (xs ys : List Z) : Prop := ∃ o a c b d, v = .agg #[.float .f64 o, .slice a xs.length c, .slice b ys.length d] ∧ Sl w (.slice a xs.length c) (xs.map C) ∧ Sl w (.slice b ys.length d) (ys.map C)
theorem SolAt.below {w w' : World} {v : Value} {xs ys : List Z} (h : SolAt w v xs ys) (hb : Below w.heap.size w w') : SolAt w' v xs ys := by
  obtain ⟨o, a, c, b, d, rfl, h1, h2⟩ := h
  exact ⟨o, a, c, b, d, rfl, h1.below hb, h2.below hb⟩
section
variable {w : World} {B : Nat} {N : NB} {V : NV} {l : List El} {nodes br ks ps bs : List ByteArray}
end
end Go.Proofs.Ytgcakhmdmajplaa
