/- Polynomials: what is refused; a value. No condition. -/
import Derived.Test.YtjpimgdmlieinaaDoorCx
import Derived.Test.YtjpimgdmlieinaaDoorSl
import Derived.Deep.RegionHeld3
namespace Go.Proofs.YtjpimgdmlieinaaDoor
open Go.RowKit

abbrev Z := Nat × Nat
def zv (z : Z) : CV := cv z.1 z.2
def pf (p : List Z) : Bool := p.all fun z => cfin (zv z)
/-- What all calls refuse. -/
def refE (p : List Z) : Int := if 256 < p.length then 3 else if pf p = true then 0 else 5
def bothE (p q : List Z) : Int := if 256 < p.length ∨ 256 < q.length then 3 else if pf p = true then (if pf q = true then 0 else 5) else 5
def horN (p : List Z) (z : CV) : Nat → CV → CV
  | 0, x => x
  | k + 1, x => horN p z k (cadd (cmul x z) (zv (p.getD k (0, 0))))
def horner (p : List Z) (z : CV) : CV := if p.length = 0 then (val 0, val 0) else horN p z (p.length - 1) (zv (p.getD (p.length - 1) (0, 0)))
def atE (p : List Z) (z : CV) : Int := if refE p = 0 then (if cfin z = true then (if cfin (horner p z) = true then 0 else 6) else 5) else refE p
def atG (p : List Z) (z : CV) : CV := if atE p z = 0 then horner p z else (val 0, val 0)

theorem pf_false {p : List Z} {k : Nat} {z : Z} (h : p[k]? = some z) (hz : cfin (zv z) = false) : pf p = false := by
  unfold pf
  rw [← Bool.not_eq_true, List.all_eq_true]
  intro h2
  have := h2 z (List.mem_of_getElem? h)
  rw [hz] at this
  cases this
theorem pf_true {p : List Z} (h : ∀ (k : Nat) z, p[k]? = some z → cfin (zv z) = true) : pf p = true := by
  unfold pf
  rw [List.all_eq_true]
  intro z hz
  obtain ⟨k, hk⟩ := List.getElem?_of_mem hz
  exact h k z hk
/-- A row of numbers. -/
theorem Sl.cz {w : World} {v : Value} {p : List Z} (h : Sl w v (p.map C)) : ∃ a cap, v = .slice a p.length cap ∧ (∀ (k : Nat) (z : Z), p[k]? = some z → ∃ b off, a = some ⟨b, off, none⟩ ∧ w.cell? ⟨b, off + k, none⟩ = some (.complex .f64 z.1 z.2)) := by
  obtain ⟨a, cap, rfl, hr, hc, hl⟩ := h
  refine ⟨a, cap, by rw [List.length_map], fun k z hz => ?_⟩
  have hx : (p.map C)[k]? = some (C z) := by rw [List.getElem?_map, hz]; rfl
  obtain ⟨b, off, e, hcell⟩ := hr.at hx
  exact ⟨b, off, e, hcell k _ hx⟩

set_option maxRecDepth 100000 in
set_option maxHeartbeats 400000 in
theorem notFin_any (a b : Nat) (w : World) : Calls Tryd.prog 105 #[.complex .f64 a b] w (RetB w (!cfin (zv (a, b)))) := by
  go_enter Tryd.func105, Tryd.ntmps105
  go_wp2_with (go_at_call 50; (with_reducible refine (Finite_any _ _ _).mono ?_); rintro E8 w8 ⟨rfl, n8, rfl⟩)
  go_ret
  exact ⟨rfl, _, rfl⟩
def RetIx (w : World) (b : Bool) (e : Ending) (w' : World) : Prop := ∃ n : Int, e = .returned (.int .i64 n) ∧ Dr w w' ∧ decide (0 ≤ n) = b
def IxLoop (w : World) (p : List Z) (i : Value) (wr : World) : Prop := ∃ k : Nat, k ≤ p.length ∧ i = .int .i64 k ∧ (∀ (j : Nat) z, j < k → p[j]? = some z → cfin (zv z) = true) ∧ Dr w wr
set_option maxRecDepth 100000 in
set_option maxHeartbeats 1000000 in
theorem IndexFunc_any (p : List Z) (v : Value) (w : World) (hs : Sl w v (p.map C)) (hn : p.length ≤ 140737488355328) : Calls Tryd.prog 120 #[v, .func (.func 105) #[] #[]] w (RetIx w (!pf p)) := by
  obtain ⟨a, cap, rfl, hc⟩ := hs.cz
  go_enter Tryd.func120, Tryd.ntmps120
  go_wp2
  go_loopw [8] (fun i w' => IxLoop w p i w') (fun i _ => p.length + 1 - (intOf i).toNat)
  case atStart => exact ⟨0, by omega, rfl, fun j z h => by omega, Dr.refl w⟩
  case round =>
    obtain ⟨k, hk, rfl, hj, nd, rfl⟩ := hrel
    by_cases hkl : k < p.length
    · obtain ⟨z, hz⟩ : ∃ z, p[k]? = some z := ⟨p[k]'hkl, List.getElem?_eq_getElem hkl⟩
      obtain ⟨b, off, rfl, hcell⟩ := hc k z hz
      obtain ⟨x, y⟩ := z
      by_cases hf : cfin (zv (x, y)) = true
      · have HJ := hid (show ∀ (j : Nat) z, j < k + 1 → p[j]? = some z → cfin (zv z) = true by
          intro j z h1 h2
          by_cases h3 : j < k
          · exact hj j z h3 h2
          · obtain rfl : j = k := by omega
            rw [hz] at h2
            cases h2
            exact hf)
        clear hj hc hz
        go_wp2_with (go_at_call 105; (with_reducible refine (notFin_any _ _ _).mono ?_); rintro E8 w8 ⟨rfl, n8, rfl⟩)
        go_roundw
        case rel => exact ⟨k + 1, by omega, by go_num, HJ.out, _, rfl⟩
        case measure => simp [intOf] <;> omega
      · rw [Bool.not_eq_true] at hf
        have HP := hid (pf_false hz hf)
        clear hj hc hz
        go_wp2_with (go_at_call 105; (with_reducible refine (notFin_any _ _ _).mono ?_); rintro E8 w8 ⟨rfl, n8, rfl⟩)
        go_ret
        exact ⟨k, rfl, ⟨_, rfl⟩, by rw [HP.out]; simp⟩
    · obtain rfl : k = p.length := by omega
      have HP := hid (pf_true (p := p) fun j z h => hj j z (List.getElem?_eq_some_iff.1 h).1 h)
      clear hj hc
      go_wp2
      go_ret
      exact ⟨-1, rfl, ⟨_, rfl⟩, by rw [HP.out]; rfl⟩

set_option maxRecDepth 100000 in
set_option maxHeartbeats 400000 in
theorem ContainsFunc_any (p : List Z) (v : Value) (w : World) (hs : Sl w v (p.map C)) (hn : p.length ≤ 140737488355328) : Calls Tryd.prog 104 #[v, .func (.func 105) #[] #[]] w (RetB w (!pf p)) := by
  have HI := hid (IndexFunc_any p v w hs hn)
  go_enter Tryd.func104, Tryd.ntmps104
  go_wp2_with (go_at_call 120; (with_reducible refine HI.out.mono ?_); rintro E8 w8 ⟨ix, rfl, ⟨n8, rfl⟩, hix⟩)
  go_ret
  exact ⟨by rw [← hix]; rfl, _, rfl⟩
set_option maxRecDepth 100000 in
set_option maxHeartbeats 400000 in
theorem refused_any (p : List Z) (v : Value) (w : World) (hs : Sl w v (p.map C)) (hn : p.length ≤ 140737488355328) : Calls Tryd.prog 70 #[v] w (RetE w (refE p)) := by
  have HI := hid (ContainsFunc_any p v w hs hn)
  obtain ⟨a, cap, rfl, -⟩ := hs.cz
  have HE : refE p = if 256 < p.length then 3 else if pf p = true then 0 else 5 := rfl
  by_cases h1 : 256 < p.length
  · rw [if_pos h1] at HE
    rw [HE]
    have g1 : (256 : Int) < (p.length : Int) := by omega
    go_enter Tryd.func70, Tryd.ntmps70
    go_wp2
    go_ret
    exact ⟨rfl, Dr.refl _⟩
  · rw [if_neg h1] at HE
    have g1 : ¬ (256 : Int) < (p.length : Int) := by omega
    cases hp : pf p with
    | true =>
      rw [hp, if_pos rfl] at HE
      rw [hp] at HI
      rw [HE]
      go_enter Tryd.func70, Tryd.ntmps70
      go_wp2_with (go_at_call 104; (with_reducible refine HI.out.mono ?_); rintro E8 w8 ⟨rfl, n8, rfl⟩)
      go_ret
      exact ⟨rfl, _, rfl⟩
    | false =>
      rw [hp, if_neg (by simp)] at HE
      rw [hp] at HI
      rw [HE]
      go_enter Tryd.func70, Tryd.ntmps70
      go_wp2_with (go_at_call 104; (with_reducible refine HI.out.mono ?_); rintro E8 w8 ⟨rfl, n8, rfl⟩)
      go_ret
      exact ⟨rfl, _, rfl⟩
theorem refE_cases (p : List Z) : (256 < p.length ∧ refE p = 3) ∨ (¬ 256 < p.length ∧ ((pf p = true ∧ refE p = 0) ∨ (pf p = false ∧ refE p = 5))) := by
  unfold refE
  by_cases h : 256 < p.length
  · exact .inl ⟨h, if_pos h⟩
  · rw [if_neg h]
    cases pf p
    · exact .inr ⟨h, .inr ⟨rfl, rfl⟩⟩
    · exact .inr ⟨h, .inl ⟨rfl, rfl⟩⟩
@[go_sem high] theorem run_idx0 (p q : Option Addr) (a b c d : Nat) (w : World) : (Instr.index 131 (.agg #[.slice p a b, .slice q c d]) (.int .i64 0)).run Tryd.prog w = .ok (.slice p a b) w := by kernel_rfl
@[go_sem high] theorem run_idx1 (p q : Option Addr) (a b c d : Nat) (w : World) : (Instr.index 131 (.agg #[.slice p a b, .slice q c d]) (.int .i64 1)).run Tryd.prog w = .ok (.slice q c d) w := by kernel_rfl
def BothLoop (w : World) (p q : List Z) (i : Value) (wr : World) : Prop := ∃ k : Nat, k ≤ 2 ∧ i = .int .i64 k ∧ wr = w ∧ (1 ≤ k → ¬ 256 < p.length) ∧ (2 ≤ k → ¬ 256 < q.length)
set_option maxRecDepth 100000 in
set_option maxHeartbeats 1000000 in
theorem both_any (p q : List Z) (vp vq : Value) (w : World) (hp : Sl w vp (p.map C)) (hq : Sl w vq (q.map C)) (hn : p.length ≤ 140737488355328) (hm : q.length ≤ 140737488355328) : Calls Tryd.prog 73 #[vp, vq] w (RetE w (bothE p q)) := by
  have HP := hid (refused_any p vp w hp hn)
  have HQ := hid fun n => refused_any q vq (w.drewN n) (hq.drewN n) hm
  obtain ⟨a, cap, rfl, -⟩ := hp.cz
  obtain ⟨b, cap2, rfl, -⟩ := hq.cz
  clear hp hq
  have HB0 : bothE p q = if 256 < p.length ∨ 256 < q.length then 3 else if pf p = true then (if pf q = true then 0 else 5) else 5 := rfl
  have HB := hid HB0
  clear HB0
  go_enter Tryd.func73, Tryd.ntmps73
  go_wp2
  go_loopw [11] (fun i w' => BothLoop w p q i w') (fun i _ => 3 - (intOf i).toNat)
  case atStart => exact ⟨0, by omega, rfl, rfl, by omega, by omega⟩
  case round =>
    obtain ⟨k, hk, rfl, rfl, hk1, hk2⟩ := hrel
    rcases (by omega : k = 0 ∨ k = 1 ∨ k = 2) with rfl | rfl | rfl
    · by_cases h1 : 256 < p.length
      · have g1 : (256 : Int) < (p.length : Int) := by omega
        go_wp2
        go_ret
        exact ⟨by rw [HB.out, if_pos (.inl h1)]; rfl, Dr.refl _⟩
      · have g1 : ¬ (256 : Int) < (p.length : Int) := by omega
        go_wp2
        go_roundw
        case rel => exact ⟨1, by omega, by go_num, rfl, fun _ => h1, by omega⟩
        case measure => simp [intOf]
    · by_cases h1 : 256 < q.length
      · have g1 : (256 : Int) < (q.length : Int) := by omega
        go_wp2
        go_ret
        exact ⟨by rw [HB.out, if_pos (.inr h1)]; rfl, Dr.refl _⟩
      · have g1 : ¬ (256 : Int) < (q.length : Int) := by omega
        have h2 := hk1 (by omega)
        go_wp2
        go_roundw
        case rel => exact ⟨2, by omega, by go_num, rfl, fun _ => h2, fun _ => h1⟩
        case measure => simp [intOf]
    · have h1 := hk1 (by omega)
      have h2 := hk2 (by omega)
      rw [if_neg (by omega)] at HB
      rcases refE_cases p with ⟨h3, _⟩ | ⟨_, ⟨h3, h4⟩ | ⟨h3, h4⟩⟩
      · omega
      · rw [h3, if_pos rfl] at HB
        rw [h4] at HP
        rcases refE_cases q with ⟨h5, _⟩ | ⟨_, ⟨h5, h6⟩ | ⟨h5, h6⟩⟩
        · omega
        · rw [h5, if_pos rfl] at HB
          rw [h6] at HQ
          clear h1 h2 hk1 hk2
          go_wp2_with (first | (go_at_call 70; (with_reducible refine HP.out.mono ?_); rintro E8 w8 ⟨rfl, n8, rfl⟩) | (go_at_call 70; (with_reducible refine (HQ.out _).mono ?_); rintro E8 w8 ⟨rfl, n9, rfl⟩))
          go_ret
          exact ⟨by rw [HB.out]; rfl, _, rfl⟩
        · rw [h5, if_neg (by simp)] at HB
          rw [h6] at HQ
          clear h1 h2 hk1 hk2
          go_wp2_with (first | (go_at_call 70; (with_reducible refine HP.out.mono ?_); rintro E8 w8 ⟨rfl, n8, rfl⟩) | (go_at_call 70; (with_reducible refine (HQ.out _).mono ?_); rintro E8 w8 ⟨rfl, n9, rfl⟩))
          go_ret
          exact ⟨by rw [HB.out]; rfl, _, rfl⟩
      · rw [h3, if_neg (by simp)] at HB
        rw [h4] at HP
        clear h1 h2 hk1 hk2
        go_wp2_with (first | (go_at_call 70; (with_reducible refine HP.out.mono ?_); rintro E8 w8 ⟨rfl, n8, rfl⟩))
        go_ret
        exact ⟨by rw [HB.out]; rfl, _, rfl⟩

/-- What told hands back: the polynomial, or none. -/
def toldE (p : List Z) : Int := if refE p = 5 then 6 else 0
def RetTold (w : World) (v : Value) (p : List Z) (e : Ending) (w' : World) : Prop := e = .returned (.tuple #[if refE p = 5 then .slice none 0 0 else v, .int .i64 (toldE p)]) ∧ Dr w w'
set_option maxRecDepth 100000 in
set_option maxHeartbeats 400000 in
theorem told_any (p : List Z) (v : Value) (w : World) (hp : Sl w v (p.map C)) (hn : p.length ≤ 140737488355328) : Calls Tryd.prog 74 #[v] w (RetTold w v p) := by
  have HP := hid (refused_any p v w hp hn)
  obtain ⟨a, cap, rfl, -⟩ := hp.cz
  by_cases h5 : refE p = 5
  · rw [h5] at HP
    go_enter Tryd.func74, Tryd.ntmps74
    go_wp2_with (go_at_call 70; (with_reducible refine HP.out.mono ?_); rintro E8 w8 ⟨rfl, n8, rfl⟩)
    go_ret2
    exact ⟨by rw [if_pos h5, toldE, if_pos h5]; rfl, _, rfl⟩
  · have g : (refE p == 5) = false := by rw [beq_eq_false_iff_ne]; exact h5
    go_enter Tryd.func74, Tryd.ntmps74
    go_wp2_with (go_at_call 70; (with_reducible refine HP.out.mono ?_); rintro E8 w8 ⟨rfl, n8, rfl⟩)
    go_ret2
    exact ⟨by rw [if_neg h5, toldE, if_neg h5]; rfl, _, rfl⟩
end Go.Proofs.YtjpimgdmlieinaaDoor
