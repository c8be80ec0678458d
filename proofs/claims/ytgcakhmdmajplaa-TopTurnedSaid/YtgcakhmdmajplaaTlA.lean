/- pivot.Choose: which row is taken. Condition: none on the numbers. -/
import Derived.Test.YtgcakhmdmajplaaBaseM
import Derived.Test.YtgcakhmdmajplaaNLInM
import Derived.Deep.RegionWith
namespace Go.Proofs.Ytgcakhmdmajplaa
open Go.RowKit

def choG (l : List CV) : Nat → Nat → Nat → Bool → Int × Int
  | 0, _, best, zero => if zero = true then (0, 7) else ((best : Int), 0)
  | n + 1, i, best, zero =>
    if cfin (l.getD i (none, none)) = true then choG l n (i + 1) (if flt (size1 (l.getD best (none, none))) (size1 (l.getD i (none, none))) = true then i else best) (zero && czero (l.getD i (none, none))) else (0, 5)
/-- What pivot.Choose tells. -/
def choF (l : List CV) (k : Nat) : Int × Int := if 64 < l.length then (0, 3) else if l.length ≤ k then (0, 2) else choG l (l.length - k) k k true
def RetCh (w : World) (r : Int × Int) (E : Ending) (w' : World) : Prop := E = .returned (.tuple #[.int .i64 r.1, .int .i64 r.2]) ∧ Dr w w'
def ChoLoop (w : World) (l : List Z) (G : Int × Int) (i best zero : Value) (wr : World) : Prop := ∃ (k bs : Nat) (z : Bool), i = .int .i64 k ∧ best = .int .i64 bs ∧ zero = .bool z ∧ k ≤ l.length ∧ bs < l.length ∧ G = choG (l.map zv) (l.length - k) k bs z ∧ Dr w wr
theorem Finite_q (a b : Nat) (z : CV) (h : cv a b = z) (w : World) : Calls Try.prog 61 #[.complex .f64 a b] w (RetB w (cfin z)) := h ▸ Finite_any a b w
theorem getD_zq {l : List Z} {k : Nat} {z : Z} (h : l[k]? = some z) : (l.map zv).getD k (none, none) = zv z := by
  rw [List.getD_eq_getElem?_getD, List.getElem?_map, h]
  rfl
set_option maxRecDepth 100000 in
set_option maxHeartbeats 4000000 in
theorem Choose_any (l : List Z) (v : Value) (w : World) (hs : Sl w v (l.map C)) (hl : l.length ≤ 64) (k : Nat) (hk : k < l.length) :
    Calls Try.prog 96 #[v, .int .i64 k] w (RetCh w (choF (l.map zv) k)) := by
  obtain ⟨a, cap, rfl, hc⟩ := hs.cz
  have hF : choF (l.map zv) k = choG (l.map zv) (l.length - k) k k true := by
    unfold choF
    rw [List.length_map, if_neg (by omega), if_neg (by omega)]
  rw [hF]
  generalize hG : choG (l.map zv) (l.length - k) k k true = G
  have g1 : ¬ (64 : Int) < (l.length : Int) := by omega
  have g2 : ¬ ((k : Int) < 0) := by omega
  have g3 : ¬ ((l.length : Int) ≤ (k : Int)) := by omega
  have g4 : (k : Int) < (l.length : Int) := by omega
  go_enter Try.func96, Try.ntmps96
  go_wp2
  go_loopw [8, 6, 7] (fun i best zero w' => ChoLoop w l G i best zero w') (fun i _ _ _ => l.length + 1 - (intOf i).toNat)
  case atStart => exact ⟨k, k, true, rfl, rfl, rfl, Nat.le_of_lt hk, hk, hG.symm, 0, rfl⟩
  case round =>
    obtain ⟨q, bs, z0, rfl, rfl, rfl, hq, hbs, hGq, hd⟩ := hrel
    clear hG hF
    by_cases hqn : q < l.length
    · obtain ⟨z, hz⟩ : ∃ z, l[q]? = some z := ⟨l[q]'hqn, List.getElem?_eq_getElem hqn⟩
      obtain ⟨y, hy⟩ : ∃ z, l[bs]? = some z := ⟨l[bs]'hbs, List.getElem?_eq_getElem hbs⟩
      obtain ⟨b, off, rfl, cz0⟩ := hc q z hz
      obtain ⟨b', off', e1, cy0⟩ := hc bs y hy
      cases e1
      obtain ⟨nd, rfl⟩ := hd
      have cz : (w.drewN nd).cell? ⟨b, off + q, none⟩ = some (.complex .f64 z.1 z.2) := cz0
      have cy : (w.drewN nd).cell? ⟨b, off + bs, none⟩ = some (.complex .f64 y.1 y.2) := cy0
      have g6 : (q : Int) < (l.length : Int) := by omega
      have g7 : (bs : Int) < (l.length : Int) := by omega
      obtain ⟨m, hm⟩ : ∃ m, l.length - q = m + 1 := ⟨l.length - q - 1, by omega⟩
      have hm2 : l.length - (q + 1) = m := by omega
      rw [hm] at hGq
      have hG2 : G = if cfin ((l.map zv).getD q (none, none)) = true then choG (l.map zv) m (q + 1) (if flt (size1 ((l.map zv).getD bs (none, none))) (size1 ((l.map zv).getD q (none, none))) = true then q else bs) (z0 && czero ((l.map zv).getD q (none, none))) else (0, 5) := hGq
      rw [getD_zq hz, getD_zq hy] at hG2
      clear hGq hm hc hz hy hs
      have HF := hid fun w => Finite_q z.1 z.2 (zv z) rfl w
      have HZ := hid fun w => Zero_any z.1 z.2 w
      have H1 := hid fun w => Size1_z z.1 z.2 (zv z) rfl w
      have H2 := hid fun w => Size1_z y.1 y.2 (zv y) rfl w
      change Hid (∀ w, Calls Try.prog 103 #[.complex .f64 z.1 z.2] w fun e w' => e = .returned (.bool (czero (zv z))) ∧ w = w') at HZ
      generalize size1 (zv z) = sz at *
      generalize size1 (zv y) = sy at *
      generalize czero (zv z) = cz1 at *
      cases hcf : cfin (zv z) with
      | false =>
        rw [hcf] at HF hG2
        have HG := hid (hG2.trans (if_neg (by decide)))
        clear hG2
        go_wp2_with (first | (go_at_call 61; (with_reducible refine (HF.out _).mono ?_); rintro E1 w1 ⟨rfl, ⟨n1, rfl⟩⟩))
        go_ret2
        refine ⟨?_, _, rfl⟩
        rw [HG.out]
        rfl
      | true =>
        rw [hcf] at HF hG2
        have HG := hid (hG2.trans (if_pos rfl))
        clear hG2
        cases z0
        all_goals
          go_upto_region 13 with (first | (go_at_call 61; (with_reducible refine (HF.out _).mono ?_); rintro E1 w1 ⟨rfl, ⟨n1, rfl⟩⟩) | (go_at_call 103; (with_reducible refine (HZ.out _).mono ?_); rintro E2 w2 ⟨rfl, rfl⟩))
          go_region_with (first
            | (go_at_call 104; (with_reducible refine (H1.out _).mono ?_); rintro E3 w3 ⟨s1, rfl, ⟨n3, rfl⟩, hs1, -⟩)
            | (go_at_call 104; (with_reducible refine (H2.out _).mono ?_); rintro E4 w4 ⟨s2, rfl, ⟨n4, rfl⟩, hs2, -⟩)
            | ((with_reducible refine upon_fadd ?_); intro r n hr hl) | ((with_reducible refine upon_fsub ?_); intro r n hr hl) | ((with_reducible refine upon_fmul ?_); intro r n hr hl) | ((with_reducible refine upon_fdiv ?_); intro r n hr hl) | ((with_reducible refine upon_fmax (by assumption) (by assumption) ?_); intro r n hr hl) | ((with_reducible refine upon_fmin (by assumption) (by assumption) ?_); intro r n hr hl))
          all_goals
            generalize flt sy sz = gt at *
            cases gt
            all_goals
              go_wp2
              go_roundw
              case rel => exact ⟨q + 1, _, _, by go_num, rfl, rfl, by omega, by assumption, by rw [hm2]; exact HG.out, _, rfl⟩
              case measure => simp [intOf] <;> omega
    · obtain rfl : q = l.length := by omega
      have g6 : ¬ (l.length : Int) < (l.length : Int) := by omega
      rw [Nat.sub_self] at hGq
      have hG2 : G = if z0 = true then (0, 7) else ((bs : Int), 0) := hGq
      obtain ⟨nd, rfl⟩ := hd
      clear hGq
      cases z0
      · have HG := hid (hG2.trans (if_neg (by decide)))
        clear hG2
        go_wp2
        go_ret2
        refine ⟨?_, _, rfl⟩
        rw [HG.out]
        rfl
      · have HG := hid (hG2.trans (if_pos rfl))
        clear hG2
        go_wp2
        go_ret2
        refine ⟨?_, _, rfl⟩
        rw [HG.out]
        rfl
end Go.Proofs.Ytgcakhmdmajplaa

