/- The reference's polynomials: what is refused; told. No condition. -/
import Derived.Test.YtjpimgdmlieinaaDoorPol5
namespace Go.Proofs.YtjpimgdmlieinaaDoor
open Go.RowKit

def FinLoop (w : World) (p : List Z) (i : Value) (wr : World) : Prop := ∃ k : Nat, k ≤ p.length ∧ i = .int .i64 k ∧ (∀ (j : Nat) z, j < k → p[j]? = some z → cfin (zv z) = true) ∧ Dr w wr
set_option maxRecDepth 100000 in
set_option maxHeartbeats 1000000 in
theorem rFin_any (p : List Z) (v : Value) (w : World) (hs : Sl w v (p.map C)) (hn : p.length ≤ 140737488355328) : Calls Tryd.prog 106 #[v] w (RetB w (pf p)) := by
  obtain ⟨a, cap, rfl, hc⟩ := hs.cz
  go_enter Tryd.func106, Tryd.ntmps106
  go_wp2
  go_loopw [3] (fun i w' => FinLoop w p i w') (fun i _ => p.length + 1 - (intOf i).toNat)
  case atStart => exact ⟨0, by omega, rfl, fun j z h => by omega, Dr.refl w⟩
  case round =>
    obtain ⟨k, hk, rfl, hj, nd, rfl⟩ := hrel
    by_cases hkl : k < p.length
    · obtain ⟨z, hz⟩ : ∃ z, p[k]? = some z := ⟨p[k]'hkl, List.getElem?_eq_getElem hkl⟩
      obtain ⟨b, off, rfl, hcell⟩ := hc k z hz
      obtain ⟨x, y⟩ := z
      by_cases hf : cfin (zv (x, y)) = true
      · have HJ := hid (show ∀ (j : Nat) z, j < k + 1 → p[j]? = some z → cfin (zv z) = true by
          intro j z h1 h2
          by_cases h3 : j < k
          · exact hj j z h3 h2
          · obtain rfl : j = k := by omega
            rw [hz] at h2
            cases h2
            exact hf)
        have HF := hid (show cfin (cv x y) = true from hf)
        clear hj hc hz hf
        go_wp2_with (go_at_call 62; (with_reducible refine (rFinite_any _ _ _).mono ?_); rintro E8 w8 ⟨rfl, n8, rfl⟩; rw [HF.out])
        go_roundw
        case rel => exact ⟨k + 1, by omega, by go_num, HJ.out, _, rfl⟩
        case measure => simp [intOf] <;> omega
      · rw [Bool.not_eq_true] at hf
        have HP := hid (pf_false hz hf)
        have HF := hid (show cfin (cv x y) = false from hf)
        clear hj hc hz hf
        go_wp2_with (go_at_call 62; (with_reducible refine (rFinite_any _ _ _).mono ?_); rintro E8 w8 ⟨rfl, n8, rfl⟩; rw [HF.out])
        go_ret
        exact ⟨by rw [HP.out]; rfl, _, rfl⟩
    · obtain rfl : k = p.length := by omega
      have HP := hid (pf_true (p := p) fun j z h => hj j z (List.getElem?_eq_some_iff.1 h).1 h)
      clear hj hc
      go_wp2
      go_ret
      exact ⟨by rw [HP.out]; rfl, _, rfl⟩

/-- What the reference refuses. -/
def mayE (ps : List (List Z)) : Int := if ps.any (fun p => decide (256 < p.length)) = true then 3 else if ps.all pf = true then 0 else 5
theorem mayE_one (p : List Z) : mayE [p] = refE p := by
  unfold mayE refE
  simp
theorem mayE_two (p q : List Z) : mayE [p, q] = bothE p q := by
  unfold mayE bothE
  have e1 : ([p, q].all pf) = (pf p && pf q) := by simp
  have e2 : ([p, q].any (fun p => decide (256 < p.length)) = true) = (256 < p.length ∨ 256 < q.length) := by simp
  rw [e1]
  simp only [e2]
  cases pf p <;> cases pf q <;> simp
theorem mayE_long {ps : List (List Z)} {k : Nat} {p : List Z} (h : ps[k]? = some p) (hl : 256 < p.length) : mayE ps = 3 := by
  unfold mayE
  rw [if_pos]
  exact List.any_eq_true.2 ⟨p, List.mem_of_getElem? h, by simpa using hl⟩
theorem mayE_bad {ps : List (List Z)} (hs : ∀ (k : Nat) p, ps[k]? = some p → p.length ≤ 256) {k : Nat} {p : List Z} (h : ps[k]? = some p) (hl : pf p = false) : mayE ps = 5 := by
  unfold mayE
  rw [if_neg, if_neg]
  · intro h2
    have := List.all_eq_true.1 h2 p (List.mem_of_getElem? h)
    rw [hl] at this
    cases this
  · intro h2
    obtain ⟨q, hq, h3⟩ := List.any_eq_true.1 h2
    obtain ⟨j, hj⟩ := List.getElem?_of_mem hq
    have := hs j q hj
    simp at h3
    omega
theorem mayE_ok {ps : List (List Z)} (hs : ∀ (k : Nat) p, ps[k]? = some p → p.length ≤ 256) (hf : ∀ (k : Nat) p, ps[k]? = some p → pf p = true) : mayE ps = 0 := by
  unfold mayE
  rw [if_neg, if_pos]
  · exact List.all_eq_true.2 fun p hp => by
      obtain ⟨j, hj⟩ := List.getElem?_of_mem hp
      exact hf j p hj
  · intro h2
    obtain ⟨q, hq, h3⟩ := List.any_eq_true.1 h2
    obtain ⟨j, hj⟩ := List.getElem?_of_mem hq
    have := hs j q hj
    simp at h3
    omega
/-- A slice of slices of numbers reads as ps. -/
def Ps (w : World) (v : Value) (ps : List (List Z)) : Prop := ∃ vs, vs.length = ps.length ∧ Sl w v vs ∧ ∀ (k : Nat) u p, vs[k]? = some u → ps[k]? = some p → Sl w u (p.map C) ∧ p.length ≤ 140737488355328
def MayLoop (w : World) (ps : List (List Z)) (i : Value) (wr : World) : Prop := ∃ k : Nat, k ≤ ps.length ∧ i = .int .i64 k ∧ w = wr ∧ ∀ (j : Nat) p, j < k → ps[j]? = some p → p.length ≤ 256
def MayLoop2 (w : World) (ps : List (List Z)) (i : Value) (wr : World) : Prop := ∃ k : Nat, k ≤ ps.length ∧ i = .int .i64 k ∧ Dr w wr ∧ ∀ (j : Nat) p, j < k → ps[j]? = some p → pf p = true
set_option maxRecDepth 100000 in
set_option maxHeartbeats 1000000 in
theorem may_any (ps : List (List Z)) (v : Value) (w : World) (hs : Ps w v ps) (hn : ps.length ≤ 1000) : Calls Tryd.prog 71 #[v] w (RetE w (mayE ps)) := by
  obtain ⟨vs, hvl, hsl, hps⟩ := hs
  obtain ⟨a, cap, rfl, hr, -, -⟩ := hsl
  rw [hvl]
  have HPS := hid hps
  clear hps
  go_enter Tryd.func71, Tryd.ntmps71
  go_wp2
  go_loopw [3] (fun i w' => MayLoop w ps i w') (fun i _ => ps.length + 1 - (intOf i).toNat)
  case atStart => exact ⟨0, by omega, rfl, rfl, fun j z h => by omega⟩
  case round =>
    obtain ⟨k, hk, rfl, rfl, hj⟩ := hrel
    by_cases hkl : k < ps.length
    · obtain ⟨p, hp⟩ : ∃ p, ps[k]? = some p := ⟨_, List.getElem?_eq_getElem hkl⟩
      obtain ⟨u, hu⟩ : ∃ u, vs[k]? = some u := ⟨_, List.getElem?_eq_getElem (by omega)⟩
      obtain ⟨b, off, rfl, hcell0⟩ := hr.at hu
      have hcell := hcell0 k u hu
      obtain ⟨hsu, hpl⟩ := HPS.out k u p hu hp
      obtain ⟨a2, cap2, rfl, -⟩ := hsu.cz
      have HP := hid hp
      have HJ := hid hj
      clear hcell0 hsu hu hp hj hr hvl
      by_cases h3 : 256 < p.length
      · have g1 : (256 : Int) < (p.length : Int) := by omega
        go_wp2
        go_ret
        exact ⟨by rw [mayE_long HP.out h3]; rfl, Dr.refl _⟩
      · have g1 : ¬ (256 : Int) < (p.length : Int) := by omega
        go_wp2
        go_roundw
        case rel =>
          refine ⟨k + 1, by omega, by go_num, rfl, fun j q h1 h2 => ?_⟩
          by_cases hjk : j < k
          · exact HJ.out j q hjk h2
          · obtain rfl : j = k := by omega
            rw [HP.out] at h2
            cases h2
            omega
        case measure => simp [intOf] <;> omega
    · obtain rfl : k = ps.length := by omega
      have HL := hid (show ∀ (j : Nat) p, ps[j]? = some p → p.length ≤ 256 from fun j p h => hj j p (List.getElem?_eq_some_iff.1 h).1 h)
      clear hj
      go_wp2
      go_loopw [4] (fun i w' => MayLoop2 w ps i w') (fun i _ => ps.length + 1 - (intOf i).toNat)
      case atStart => exact ⟨0, by omega, rfl, Dr.refl _, fun j z h => by omega⟩
      case round =>
        obtain ⟨k, hk, rfl, ⟨nd, rfl⟩, hj⟩ := hrel
        by_cases hkl : k < ps.length
        · obtain ⟨p, hp⟩ : ∃ p, ps[k]? = some p := ⟨_, List.getElem?_eq_getElem hkl⟩
          obtain ⟨u, hu⟩ : ∃ u, vs[k]? = some u := ⟨_, List.getElem?_eq_getElem (by omega)⟩
          obtain ⟨b, off, rfl, hcell0⟩ := hr.at hu
          have hcell := hcell0 k u hu
          obtain ⟨hsu, hpl⟩ := HPS.out k u p hu hp
          have HC := hid (rFin_any p u (w.drewN nd) (hsu.drewN nd) hpl)
          obtain ⟨a2, cap2, rfl, -⟩ := hsu.cz
          have HP := hid hp
          have HJ := hid hj
          clear hcell0 hsu hu hp hj hr hvl
          cases h3 : pf p with
          | false =>
            rw [h3] at HC
            go_wp2_with (go_at_call 106; (with_reducible refine HC.out.mono ?_); rintro E8 w8 ⟨rfl, n8, rfl⟩)
            go_ret
            exact ⟨by rw [mayE_bad HL.out HP.out h3]; rfl, _, rfl⟩
          | true =>
            rw [h3] at HC
            go_wp2_with (go_at_call 106; (with_reducible refine HC.out.mono ?_); rintro E8 w8 ⟨rfl, n8, rfl⟩)
            go_roundw
            case rel =>
              refine ⟨k + 1, by omega, by go_num, ⟨_, rfl⟩, fun j q h1 h2 => ?_⟩
              by_cases hjk : j < k
              · exact HJ.out j q hjk h2
              · obtain rfl : j = k := by omega
                rw [HP.out] at h2
                cases h2
                exact h3
            case measure => simp [intOf] <;> omega
        · obtain rfl : k = ps.length := by omega
          have HM := hid (mayE_ok HL.out fun j p h => hj j p (List.getElem?_eq_some_iff.1 h).1 h)
          clear hj
          go_wp2
          go_ret
          exact ⟨by rw [HM.out]; rfl, _, rfl⟩

def RetRT (w : World) (v : Value) (p : List Z) (e : Ending) (w' : World) : Prop := e = .returned (.tuple #[if pf p = true then v else .slice none 0 0, .int .i64 (if pf p = true then 0 else 6)]) ∧ Dr w w'
set_option maxRecDepth 100000 in
set_option maxHeartbeats 400000 in
theorem rtold_any (p : List Z) (v : Value) (w : World) (hp : Sl w v (p.map C)) (hn : p.length ≤ 140737488355328) : Calls Tryd.prog 75 #[v] w (RetRT w v p) := by
  have HP := hid (rFin_any p v w hp hn)
  unfold RetRT
  cases h5 : pf p
  all_goals
    rw [h5] at HP
    obtain ⟨a, cap, rfl, -⟩ := hp.cz
    go_enter Tryd.func75, Tryd.ntmps75
    go_wp2_with (go_at_call 106; (with_reducible refine HP.out.mono ?_); rintro E8 w8 ⟨rfl, n8, rfl⟩)
    go_ret2
    exact ⟨by simp, _, rfl⟩
end Go.Proofs.YtjpimgdmlieinaaDoor
