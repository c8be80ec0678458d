/- A made net asked for its nodes, branches, places; does a solution fit it? Conditions: lengths as a net has them. -/
import Derived.Test.YtfnbohpfcdddgaaNOf
import Derived.Test.YtfnbohpfcdddgaaR15O
import Derived.Test.YtfnbohpfcdddgaaNmAM
import Derived.Deep.RegionWith
import Derived.BigRegion
import Derived.Deep.RegionHeld3
namespace Go.Proofs.Ytfnbohpfcdddgaa
open Go.RowKit Go.Maps

theorem owns_cap {w : World} {B e size : Nat} {v : Value} {n : Nat} {xs : List Value} (h : w.ownsRow B e size v n xs) : ∃ a c, v = .slice a n c ∧ n ≤ c := by
  rcases h.2 with ⟨rfl, rfl⟩ | ⟨g, cap, cur, rfl, _, _, h, _⟩
  · exact ⟨_, _, rfl, Nat.le_refl _⟩
  · exact ⟨_, _, rfl, h⟩
section
variable {w : World} {B : Nat} {N : NB} {V : NV} {l : List El} {nodes br ks ps bs : List ByteArray}
set_option maxRecDepth 100000 in
set_option maxHeartbeats 1000000 in
theorem nNodes_any (K : NetR w B N V l nodes br ks ps bs) (hn : nodes.length ≤ 4000) : Calls Try.prog 81 #[.pointer (some ⟨N.n, 0, none⟩)] w (RetS w nodes) := by
  have HN := hid (is_any K)
  have hS := Sl.of_owns K.R
  have hl : (strL nodes).length = nodes.length := by simp [strL]
  have H1 : Hid (∀ u ∈ strL nodes, u.oneCell' = true) := hid (by
    intro u hu
    obtain ⟨b, _, rfl⟩ := List.mem_map.1 hu
    rfl)
  obtain ⟨-, -, -, c3, -⟩ := K.cells
  go_enter Try.func81, Try.ntmps81
  go_wp2_with (first | (go_at_call 55; (with_reducible refine HN.out.mono ?_); rintro E1 w1 ⟨rfl, rfl⟩) | (at_builtin; go_loud (refine wpList_appN rfl _ _ 80 rfl w1.heap.size 9 _ 16 Try.underlying80 info_str rfl _ 0 _ _ _ rfl rfl (by exact hS) H1.out (World.ownsRow_nil _ _ _ _) (by omega) (by omega) (Nat.le_refl _) ?_; intro v' w' h1 h2 h3)))
  go_ret
  refine ⟨_, rfl, by simpa [strL] using h1, ?_⟩
  first | exact h2 | exact below_of_drewN h2
set_option maxRecDepth 100000 in
set_option maxHeartbeats 1000000 in
theorem nBranches_any (K : NetR w B N V l nodes br ks ps bs) (hn : br.length ≤ 4000) : Calls Try.prog 82 #[.pointer (some ⟨N.n, 0, none⟩)] w (RetS w br) := by
  have HN := hid (is_any K)
  have hS := Sl.of_owns K.Q
  have hl : (strL br).length = br.length := by simp [strL]
  have H1 : Hid (∀ u ∈ strL br, u.oneCell' = true) := hid (by
    intro u hu
    obtain ⟨b, _, rfl⟩ := List.mem_map.1 hu
    rfl)
  obtain ⟨-, -, -, -, -, c5, -⟩ := K.cells
  go_enter Try.func82, Try.ntmps82
  go_wp2_with (first | (go_at_call 55; (with_reducible refine HN.out.mono ?_); rintro E1 w1 ⟨rfl, rfl⟩) | (at_builtin; go_loud (refine wpList_appN rfl _ _ 80 rfl w1.heap.size 9 _ 16 Try.underlying80 info_str rfl _ 0 _ _ _ rfl rfl (by exact hS) H1.out (World.ownsRow_nil _ _ _ _) (by omega) (by omega) (Nat.le_refl _) ?_; intro v' w' h1 h2 h3)))
  go_ret
  refine ⟨_, rfl, by simpa [strL] using h1, ?_⟩
  first | exact h2 | exact below_of_drewN h2
set_option maxRecDepth 100000 in
set_option maxHeartbeats 1000000 in
theorem nWithout_any (K : NetR w B N V l nodes br ks ps bs) (hh : hasS ks ⟨#[]⟩ = false) : Calls Try.prog 33 #[.pointer (some ⟨N.n, 0, none⟩), .string ⟨#[]⟩] w (RetV w (.tuple #[.pointer none, .int .i64 10])) := by
  have HN := hid (is_any K)
  have KN := K.KN
  obtain ⟨-, -, c2, -⟩ := K.cells
  go_enter Try.func33, Try.ntmps33
  go_wp2_with (first | (go_at_call 55; (with_reducible refine HN.out.mono ?_); rintro E1 w1 ⟨rfl, rfl⟩) | (at_lookup; go_loud (refine wpList_look rfl _ _ rfl N.nm rfl ks KN ⟨#[]⟩ rfl (by decide) ?_; intro cc hcc; rw [hh])))
  go_ret2
  exact ⟨rfl, Below.refl _ _⟩
set_option maxRecDepth 100000 in
set_option maxHeartbeats 1000000 in
theorem nPlace_any (K : NetR w B N V l nodes br ks ps bs) (s : ByteArray) (hs : s.size ≤ maxLen) : Calls Try.prog 65 #[.pointer (some ⟨N.n, 0, none⟩), .string s] w fun E w' => (∃ c : Int, E = .returned (.tuple #[.int .i64 c, .bool (hasS ps s)]) ∧ ∀ i : Nat, ps[i]? = some s → c = i) ∧ w' = w := by
  have HN := hid (is_any K)
  have KP := K.KP
  obtain ⟨-, -, -, -, c4, -⟩ := K.cells
  go_enter Try.func65, Try.ntmps65
  go_wp2_with (first | (go_at_call 55; (with_reducible refine HN.out.mono ?_); rintro E1 w1 ⟨rfl, rfl⟩) | (at_lookup; go_loud (refine wpList_look rfl _ _ rfl N.pm rfl ps KP s rfl hs ?_; intro cc hcc)))
  go_ret2
  exact ⟨⟨cc, rfl, hcc⟩, rfl⟩
set_option maxRecDepth 100000 in
set_option maxHeartbeats 1000000 in
theorem missing_any (K : NetR w B N V l nodes br ks ps bs) (hh : hasS ks ⟨#[]⟩ = false) : Calls Try.prog 80 #[.pointer (some ⟨N.n, 0, none⟩)] w (RetV w (.bool false)) := by
  have HN := hid (nWithout_any K hh)
  go_enter Try.func80, Try.ntmps80
  go_wp2_with (go_at_call 33; (with_reducible refine HN.out.mono ?_); rintro E1 w1 ⟨rfl, hb⟩)
  go_ret
  exact ⟨rfl, hb⟩
def fitF (a b c d : Nat) : Int := if a = c ∧ b = d then 0 else 4
/-- A solution's value. -/
def solV (o : Nat) (u v : Value) : Value := .agg #[.float .f64 o, u, v]
set_option maxRecDepth 100000 in
set_option maxHeartbeats 4000000 in
theorem fits_any (K : NetR w B N V l nodes br ks ps bs) (hh : hasS ks ⟨#[]⟩ = false) (hn : nodes.length ≤ 4000) (hbr : br.length ≤ 4000) (o : Nat) (a b : Option Addr) (n m c d : Nat) (hnn : n ≤ 140737488355328) (hmm : m ≤ 140737488355328) :
    Calls Try.prog 63 #[.pointer (some ⟨N.n, 0, none⟩), .agg #[.float .f64 o, .slice a n c, .slice b m d]] w (RetV w (.int .i64 (fitF n m nodes.length br.length))) := by
  have b0 : Below w.heap.size w (w.alloc (.cells #[.float .f64 o, .slice a n c, .slice b m d] 46)) := (Below.refl _ w).alloc (Nat.le_refl _) _
  have hblk := blk_new w (.cells #[.float .f64 o, .slice a n c, .slice b m d] 46)
  have HM := hid (missing_any (K.below b0) hh)
  have K0 := K.below b0
  obtain ⟨w0, hw0⟩ : ∃ w0, w0 = w.alloc (.cells #[.float .f64 o, .slice a n c, .slice b m d] 46) := ⟨_, rfl⟩
  go_enter Try.func63, Try.ntmps63
  go_upto_region 3 with (go_at_call 80; (with_reducible refine HM.out.mono ?_); rintro E1 w1 ⟨rfl, hb1⟩)
  have b1 : Below w.heap.size w w1 := b0.trans (hb1.mono (by simp))
  have K1 := K0.below hb1
  have hblk1 := (hb1.block w.heap.size (by simp)).trans hblk
  have k1 : w1.cell? ⟨w.heap.size, 1, none⟩ = some (.slice a n c) := by simp [World.cell?, hblk1]
  have k2 : w1.cell? ⟨w.heap.size, 2, none⟩ = some (.slice b m d) := by simp [World.cell?, hblk1]
  have hwl : w.heap.size < w1.heap.size := (Array.getElem?_eq_some_iff.1 hblk1).1
  have KD := K1.below (Below.refl _ w1).drew
  have HND := hid (nNodes_any KD hn)
  clear hblk hblk1 hb1 b0 K0 K HM
  by_cases h1 : n = nodes.length
  · by_cases h2 : m = br.length
    · have HF := hid (show fitF n m nodes.length br.length = 0 by unfold fitF; rw [if_pos ⟨h1, h2⟩])
      subst h1
      subst h2
      clear hh
      go_region_held3 (fun w' => w'.cell? ⟨w.heap.size, 1, none⟩ = some (.slice a nodes.length c) ∧ w'.cell? ⟨w.heap.size, 2, none⟩ = some (.slice b br.length d)) (first | exact ⟨k1, k2⟩ | exact ⟨k3, k4⟩ | exact ⟨k5, k6⟩) (first | (go_at_call 81; (with_reducible refine HND.out.mono ?_); rintro E2 w2 ⟨v2, rfl, own2, hb2⟩; obtain ⟨a2, c2, rfl, -⟩ := owns_cap own2; have k3 := (hb2.cell (p := ⟨w.heap.size, 1, none⟩) hwl).trans k1; have k4 := (hb2.cell (p := ⟨w.heap.size, 2, none⟩) hwl).trans k2; have b2 := bl2 b1.drew hb2; have K2 := KD.below hb2) | (go_at_call 82; (with_reducible refine (nBranches_any K2 hbr).mono ?_); rintro E3 w3 ⟨v3, rfl, own3, hb3⟩; obtain ⟨a3, c3, rfl, -⟩ := owns_cap own3; have b3 := bl2 b2 hb3; have k5 := (hb3.cell (p := ⟨w.heap.size, 1, none⟩) (Nat.lt_of_lt_of_le hwl hb2.size)).trans k3; have k6 := (hb3.cell (p := ⟨w.heap.size, 2, none⟩) (Nat.lt_of_lt_of_le hwl hb2.size)).trans k4))
      all_goals
        go_wp2
        go_ret
        exact ⟨by rw [HF.out]; rfl, b3⟩
    · have HF := hid (show fitF n m nodes.length br.length = 4 by unfold fitF; rw [if_neg (fun h => h2 h.2)])
      subst h1
      have g2 : ((m : Int) != (br.length : Int)) = true := by rw [bne_iff_ne]; omega
      clear h2
      go_region_held3 (fun w' => w'.cell? ⟨w.heap.size, 1, none⟩ = some (.slice a nodes.length c) ∧ w'.cell? ⟨w.heap.size, 2, none⟩ = some (.slice b m d)) (first | exact ⟨k1, k2⟩ | exact ⟨k3, k4⟩ | exact ⟨k5, k6⟩) (first | (go_at_call 81; (with_reducible refine HND.out.mono ?_); rintro E2 w2 ⟨v2, rfl, own2, hb2⟩; obtain ⟨a2, c2, rfl, -⟩ := owns_cap own2; have k3 := (hb2.cell (p := ⟨w.heap.size, 1, none⟩) hwl).trans k1; have k4 := (hb2.cell (p := ⟨w.heap.size, 2, none⟩) hwl).trans k2; have b2 := bl2 b1.drew hb2; have K2 := KD.below hb2) | (go_at_call 82; (with_reducible refine (nBranches_any K2 hbr).mono ?_); rintro E3 w3 ⟨v3, rfl, own3, hb3⟩; obtain ⟨a3, c3, rfl, -⟩ := owns_cap own3; have b3 := bl2 b2 hb3; have k5 := (hb3.cell (p := ⟨w.heap.size, 1, none⟩) (Nat.lt_of_lt_of_le hwl hb2.size)).trans k3; have k6 := (hb3.cell (p := ⟨w.heap.size, 2, none⟩) (Nat.lt_of_lt_of_le hwl hb2.size)).trans k4))
      all_goals
        go_wp2
        go_ret
        exact ⟨by rw [HF.out]; rfl, b3⟩
  · have HF := hid (show fitF n m nodes.length br.length = 4 by unfold fitF; rw [if_neg (fun h => h1 h.1)])
    have g1 : ((n : Int) != (nodes.length : Int)) = true := by rw [bne_iff_ne]; omega
    clear h1
    (first | (go_region_with (first | (go_at_call 81; (with_reducible refine HND.out.mono ?_); rintro E2 w2 ⟨v2, rfl, own2, hb2⟩; obtain ⟨a2, c2, rfl, -⟩ := owns_cap own2; have k3 := (hb2.cell (p := ⟨w.heap.size, 1, none⟩) hwl).trans k1; have k4 := (hb2.cell (p := ⟨w.heap.size, 2, none⟩) hwl).trans k2; have b2 := bl2 b1.drew hb2; have K2 := KD.below hb2))) | fail)
    all_goals
      go_wp2
      go_ret
      exact ⟨by rw [HF.out]; rfl, b2⟩
end
end Go.Proofs.Ytfnbohpfcdddgaa

