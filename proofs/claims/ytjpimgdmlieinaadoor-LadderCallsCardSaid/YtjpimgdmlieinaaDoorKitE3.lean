/- A net's elements: the netlist's, the law's; what a net's fault tells. Condition: kinds are bytes. -/
import Derived.Test.YtjpimgdmlieinaaDoorKitE2
import Derived.Test.YtjpimgdmlieinaaDoorR29L
import Derived.Test.YtjpimgdmlieinaaDoorNLNet
namespace Go.Proofs.YtjpimgdmlieinaaDoor
open Go.RowKit

theorem netG_inl : ∀ (L : List El) (s : NetS) (i : Nat) (f : Int × Int), netG s i L = .inl f → f.1 ≠ 0
  | [], s, i, f, h => by simp [netG] at h
  | e :: r, s, i, f, h => by
    unfold netG at h
    split at h
    · split at h
      · cases h; simp
      · exact netG_inl r _ _ _ h
    · rename_i hc
      cases h
      simpa using hc
theorem netG_inr : ∀ (L : List El) (s s' : NetS) (i : Nat), netG s i L = .inr s' → s'.l = s.l ++ L
  | [], s, s', i, h => by
    simp [netG] at h
    rw [← h, List.append_nil]
  | e :: r, s, s', i, h => by
    unfold netG at h
    split at h
    · split at h
      · cases h
      · rw [netG_inr r _ _ _ h]
        simp [putN]
    · cases h
theorem netF_some {L : List El} {f : Int × Int} {s : NetS} (h : netF L = (f, some s)) : f = (0, 0) ∧ s.l = L := by
  unfold netF at h
  split at h
  · simp at h
  · split at h
    · simp at h
    · rename_i s' hg
      split at h
      · simp at h
      · simp at h
        obtain ⟨rfl, rfl⟩ := h
        exact ⟨rfl, by rw [netG_inr _ _ _ _ hg]; rfl⟩
theorem netF_none {L : List El} {f : Int × Int} (h : netF L = (f, none)) : f.1 ≠ 0 := by
  unfold netF at h
  split at h
  · cases h; simp
  · split at h
    · rename_i f' hg
      cases h
      exact netG_inl _ _ _ _ hg
    · split at h
      · cases h; simp
      · simp at h
theorem ladNetF_some {S T : List El} {f : Int × Int} {s : NetS} (h : ladNetF S T = (f, some s)) : f = (0, 0) ∧ s.l = ladN S T S.length ∧ S.length ≤ 16 := by
  unfold ladNetF at h
  split at h
  · split at h
    · simp at h
    · split at h
      · simp at h
      · obtain ⟨h1, h2⟩ := netF_some h
        exact ⟨h1, h2, by omega⟩
  · simp at h
theorem ladNetF_none {S T : List El} {f : Int × Int} (h : ladNetF S T = (f, none)) : f.1 ≠ 0 := by
  unfold ladNetF at h
  split at h
  · split at h
    · cases h; simp
    · split at h
      · cases h; simp
      · exact netF_none h
  · cases h; simp

set_option maxRecDepth 100000 in
set_option maxHeartbeats 1000000 in
theorem nElements_any {w : World} {B : Nat} {N : NB} {V : NV} {L : List El} {nodes br ks ps bs : List ByteArray} (K : NetR w B N V L nodes br ks ps bs) (hl : L.length ≤ 1000) : Calls Tryd.prog 66 #[.pointer (some ⟨N.n, 0, none⟩)] w (RetQ w L) := by
  have HN := hid (is_any K)
  have hE := ElsN.of_owns K.L
  obtain ⟨c0, c1, -⟩ := K.cells
  go_enter Tryd.func66, Tryd.ntmps66
  go_wp2_with (first | (go_at_call 102; (with_reducible refine HN.out.mono ?_); rintro E1 w1 ⟨rfl, rfl⟩) | (at_builtin; go_loud (refine wpList_appE rfl _ _ 25 rfl Tryd.underlying25 w1.heap.size (.slice none 0 0) 0 [] V.l L rfl rfl hE (World.ownsRow_nil _ _ _ _) (by omega) (Nat.le_refl _) ?_; intro v' w' h1 h2 h3)))
  go_ret
  exact ⟨_, rfl, by simpa using h1, h2⟩
/-- The elements of a net that may be none. -/
def netL (o : Option NetS) (L : List El) : List El := match o with | none => [] | some _ => L
set_option maxRecDepth 100000 in
set_option maxHeartbeats 1000000 in
theorem lawEl_none (w : World) : Calls Tryd.prog 21 #[.pointer none] w (RetQ w []) := by
  go_enter Tryd.func21, Tryd.ntmps21
  go_wp2
  go_ret
  exact ⟨_, rfl, World.ownsRow_nil _ _ _ _, Below.refl _ _⟩
set_option maxRecDepth 100000 in
set_option maxHeartbeats 1000000 in
theorem lawEl_some {w : World} {B : Nat} {N : NB} {V : NV} {L : List El} {nodes br ks ps bs : List ByteArray} (K : NetR w B N V L nodes br ks ps bs) (hl : L.length ≤ 1000) : Calls Tryd.prog 21 #[.pointer (some ⟨N.n, 0, none⟩)] w (RetQ w L) := by
  have HN := hid (nElements_any K hl)
  go_enter Tryd.func21, Tryd.ntmps21
  go_wp2_with (first | (go_at_call 66; (with_reducible refine HN.out.mono ?_); rintro E1 w1 ⟨v, rfl, h1, h2⟩))
  go_ret
  exact ⟨_, rfl, h1, h2⟩
end Go.Proofs.YtjpimgdmlieinaaDoor
