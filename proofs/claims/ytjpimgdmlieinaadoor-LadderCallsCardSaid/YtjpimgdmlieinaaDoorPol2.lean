/- A polynomial's value. Conditions: the number's parts have 64 bits. -/
import Derived.Test.YtjpimgdmlieinaaDoorPol1
namespace Go.Proofs.YtjpimgdmlieinaaDoor
open Go.RowKit

def AtLoop (w : World) (p : List Z) (z r : CV) (i x : Value) (wr : World) : Prop := ∃ (k : Nat) (iv : Int) (a b : Nat), i = .int .i64 iv ∧ iv = (k : Int) - 1 ∧ k < p.length ∧ x = .complex .f64 a b ∧ IsW a ∧ IsW b ∧ horN p z k (cv a b) = r ∧ Dr w wr
def wfP (p : List Z) : Prop := ∀ (k : Nat) z, p[k]? = some z → IsW z.1 ∧ IsW z.2
theorem Mul_z (a b c d : Nat) (p q : CV) (h : cv a b = p) (h' : cv c d = q) (w : World) : Calls Tryd.prog 42 #[.complex .f64 a b, .complex .f64 c d] w (RetC w (cmul p q)) := h ▸ h' ▸ Mul_any a b c d w
theorem AddC_z (a b c d : Nat) (p q : CV) (h : cv a b = p) (h' : cv c d = q) (w : World) : Calls Tryd.prog 41 #[.complex .f64 a b, .complex .f64 c d] w (RetC w (cadd p q)) := h ▸ h' ▸ Add_any a b c d w
theorem FiniteC_z (a b : Nat) (z : CV) (h : cv a b = z) (w : World) : Calls Tryd.prog 50 #[.complex .f64 a b] w (RetB w (cfin z)) := h ▸ Finite_any a b w
theorem zv_at {p : List Z} {k : Nat} {z : Z} (h : p[k]? = some z) : zv (p.getD k (0, 0)) = cv z.1 z.2 := by rw [List.getD_eq_getElem?_getD, h]; rfl

set_option maxRecDepth 100000 in
set_option maxHeartbeats 4000000 in
theorem At_any (p : List Z) (hw : wfP p) (c d : Nat) (v : Value) (w : World) (hs : Sl w v (p.map C)) (hn : p.length ≤ 140737488355328) : Calls Tryd.prog 27 #[v, .complex .f64 c d] w (RetCE w (atG p (cv c d)) (atE p (cv c d))) := by
  have HR := hid (refused_any p v w hs hn)
  obtain ⟨a, cap, rfl, hc⟩ := hs.cz
  have HE : atE p (cv c d) = if refE p = 0 then (if cfin (cv c d) = true then (if cfin (horner p (cv c d)) = true then 0 else 6) else 5) else refE p := rfl
  have HG : atG p (cv c d) = if atE p (cv c d) = 0 then horner p (cv c d) else (val 0, val 0) := rfl
  generalize atG p (cv c d) = ag at *
  generalize atE p (cv c d) = ae at *
  by_cases h1 : refE p = 0
  · rw [if_pos h1] at HE
    rw [h1] at HR
    cases h2 : cfin (cv c d) with
    | false =>
      rw [h2, if_neg (by simp)] at HE
      subst HE
      rw [if_neg (by decide)] at HG
      subst HG
      clear hc
      go_enter Tryd.func27, Tryd.ntmps27
      go_wp2_with (first | (go_at_call 70; (with_reducible refine HR.out.mono ?_); rintro E8 w8 ⟨rfl, n8, rfl⟩) | (go_at_call 50; (with_reducible refine (Finite_any _ _ _).mono ?_); rintro E8 w8 ⟨rfl, n9, rfl⟩))
      go_ret2
      exact ⟨0, 0, rfl, ⟨_, rfl⟩, rfl, isW_0, isW_0⟩
    | true =>
      rw [h2, if_pos rfl] at HE
      have H2 := hid h2
      have hho : horner p (cv c d) = if p.length = 0 then (val 0, val 0) else horN p (cv c d) (p.length - 1) (zv (p.getD (p.length - 1) (0, 0))) := rfl
      by_cases h3 : p.length = 0
      · rw [if_pos h3] at hho
        rw [hho, if_pos (by decide)] at HE
        subst HE
        rw [if_pos rfl, hho] at HG
        subst HG
        have hg : ((p.length : Int) == 0) = true := by rw [h3]; rfl
        clear hc hho h1 h3
        go_enter Tryd.func27, Tryd.ntmps27
        go_wp2_with (first | (go_at_call 70; (with_reducible refine HR.out.mono ?_); rintro E8 w8 ⟨rfl, n8, rfl⟩) | (go_at_call 50; (with_reducible refine (Finite_any _ _ _).mono ?_); rintro E8 w8 ⟨rfl, n9, rfl⟩))
        go_ret2
        exact ⟨0, 0, rfl, ⟨_, rfl⟩, rfl, isW_0, isW_0⟩
      · rw [if_neg h3] at hho
        obtain ⟨m, hm⟩ : ∃ m, p.length = m + 1 := ⟨p.length - 1, by omega⟩
        obtain ⟨x0, hx0⟩ : ∃ x0, p[m]? = some x0 := ⟨p[m]'(by omega), List.getElem?_eq_getElem (by omega)⟩
        obtain ⟨b, off, rfl, hcm⟩ := hc m x0 hx0
        obtain ⟨hw1, hw2⟩ := hw m x0 hx0
        rw [hm, Nat.add_sub_cancel, zv_at hx0] at hho
        have hg : ((m : Int) + 1 == 0) = false := by rw [beq_eq_false_iff_ne]; omega
        obtain ⟨x1, x2⟩ := x0
        obtain ⟨r, hr⟩ : ∃ r, r = horner p (cv c d) := ⟨_, rfl⟩
        rw [← hr] at hho HE HG
        have hmn : m < p.length := by omega
        rw [hm] at HR hn ⊢
        have HH := hid hho
        have HM := hid hm
        clear hr hho hm h3 hx0 h1 h2
        go_enter Tryd.func27, Tryd.ntmps27
        go_wp2_with (first | (go_at_call 70; (with_reducible refine HR.out.mono ?_); rintro E8 w8 ⟨rfl, n8, rfl⟩) | (go_at_call 50; (with_reducible refine (FiniteC_z _ _ _ rfl _).mono ?_); rintro E8 w8 ⟨rfl, n9, rfl⟩; rw [H2.out]))
        go_loopw [8, 7] (fun i x w' => AtLoop w p (cv c d) r i x w') (fun i _ _ => (intOf i + 1).toNat)
        case atStart => exact ⟨m, _, x1, x2, rfl, by omega, hmn, rfl, hw1, hw2, HH.out.symm, _, rfl⟩
        case round =>
          obtain ⟨k, iv, y1, y2, rfl, hiv, hk, rfl, hy1, hy2, hrr, nd, rfl⟩ := hrel
          clear hcm hw1 hw2
          cases k with
          | zero =>
            obtain rfl : iv = -1 := by omega
            have HRR := hid (show cv y1 y2 = r from hrr)
            clear hrr hiv
            by_cases hf : cfin r = true
            · rw [if_pos hf] at HE
              subst HE
              rw [if_pos rfl] at HG
              subst HG
              go_wp2_with (first | (go_at_call 50; (with_reducible refine (FiniteC_z _ _ _ HRR.out _).mono ?_); rintro E8 w8 ⟨rfl, n9, rfl⟩))
              go_ret2
              exact ⟨y1, y2, rfl, ⟨_, rfl⟩, HRR.out, hy1, hy2⟩
            · rw [if_neg hf] at HE
              subst HE
              rw [if_neg (by decide)] at HG
              subst HG
              rw [Bool.not_eq_true] at hf
              go_wp2_with (first | (go_at_call 50; (with_reducible refine (FiniteC_z _ _ _ HRR.out _).mono ?_); rintro E8 w8 ⟨rfl, n9, rfl⟩))
              go_ret2
              exact ⟨0, 0, rfl, ⟨_, rfl⟩, rfl, isW_0, isW_0⟩
          | succ j =>
            obtain rfl : iv = (j : Int) := by omega
            obtain ⟨⟨q1, q2⟩, hq⟩ : ∃ q, p[j]? = some q := ⟨p[j]'(by omega), List.getElem?_eq_getElem (by omega)⟩
            obtain ⟨b', off', e1, hcj⟩ := hc j _ hq
            cases e1
            have hr2 : horN p (cv c d) j (cadd (cmul (cv y1 y2) (cv c d)) (cv q1 q2)) = r := by rw [← hrr, horN, zv_at hq]
            have HR2 := hid hr2
            have hjm : (j : Int) < (m : Int) + 1 := by have := HM.out; omega
            have hcw : (w.drewN nd).cell? ⟨b, off + j, none⟩ = some (.complex .f64 q1 q2) := hcj
            clear hr2 hrr hc hq hiv
            have HC := hid fun n => (show (w.drewN n).cell? ⟨b, off + j, none⟩ = some (.complex .f64 q1 q2) from hcj)
            go_wp2
            go_region_held3 (fun w' => w'.cell? ⟨b, off + j, none⟩ = some (.complex .f64 q1 q2)) (first | exact hcj | exact HC.out _) (first | (go_at_call 42; (with_reducible refine (Mul_z _ _ _ _ _ _ rfl rfl _).mono ?_); rintro E5 w5 ⟨x5, y5, rfl, ⟨n5, rfl⟩, hv5, hx5, hy5⟩) | (go_at_call 41; (with_reducible refine (AddC_z _ _ _ _ _ _ (by first | assumption | rfl) rfl _).mono ?_); rintro E7 w7 ⟨x7, y7, rfl, ⟨n7, rfl⟩, hv7, hx7, hy7⟩))
            rename_i hHeld
            clear hHeld
            go_wp2
            go_roundw
            case rel => exact ⟨j, _, x7, y7, rfl, rfl, by omega, rfl, hx7, hy7, by rw [hv7]; exact HR2.out, _, rfl⟩
            case measure => simp [intOf] <;> omega
  · rw [if_neg h1] at HE
    rw [HE, if_neg h1] at HG
    subst HE HG
    clear hc
    generalize refE p = re at *
    go_enter Tryd.func27, Tryd.ntmps27
    go_wp2_with (first | (go_at_call 70; (with_reducible refine HR.out.mono ?_); rintro E8 w8 ⟨rfl, n8, rfl⟩))
    go_ret2
    exact ⟨0, 0, rfl, ⟨_, rfl⟩, rfl, isW_0, isW_0⟩
end Go.Proofs.YtjpimgdmlieinaaDoor
