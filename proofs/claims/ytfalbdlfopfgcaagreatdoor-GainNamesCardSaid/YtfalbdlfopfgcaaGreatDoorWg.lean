/- gridworkwide.less, half: words in memory of their own. Conditions: what is subtracted is not greater; rows not too long. -/
import Derived.Test.YtfalbdlfopfgcaaGreatDoorWf
import Derived.Deep.OwnRows
import Derived.Deep.RegionLaw
namespace Go.Proofs.YtfalbdlfopfgcaaGreatDoor
open Go.RowKit

theorem info_u32 : (Tryz.prog.info? 90).map (fun i => (i.zero, i.size, i.bytes)) = some (some (.int .u32 0), 1, 4) := by kernel_rfl
theorem made_u32 (n : Nat) (hn : n ≤ 2000000) (w : World) : (Instr.makeSlice 83 (.int .i64 n) (.int .i64 n)).run Tryz.prog w = .ok (.slice (some ⟨w.heap.size, 0, none⟩) n n) (w.alloc (.cells (Array.replicate n (Value.int .u32 0)) 90)) := by
  have h := run_make_row' (P := Tryz.prog) 83 90 (.int .u32 0) 4 Tryz.underlying83 info_u32 rfl .i64 .i64 n (by omega) (by omega) w
  have e : (Array.replicate n (Value.int .u32 0)) = madeCells #[.int .u32 0] n := by
    apply Array.ext'
    rw [toList_madeCells_one]
    simp
  rw [e]
  exact h
/-- What an owned row of words says of one of them. -/
theorem own_w {w : World} {base : Nat} {v : Value} {n : Nat} {l : List Nat} (h : w.ownsRow base 90 1 v n (l.map wrd)) {k x : Nat} (hx : l[k]? = some x) : ∃ g cap, v = .slice (some ⟨g, 0, none⟩) n cap ∧ base ≤ g ∧ g < w.heap.size ∧ w.cell? ⟨g, k, none⟩ = some (.int .u32 (x : Int)) ∧ w.frozen? ⟨g, k, none⟩ = false := by
  have hk := (List.getElem?_eq_some_iff.1 hx).1
  have hn : l.length = n := by have := h.1; simpa using this
  rcases h.2 with ⟨_, h0⟩ | ⟨g, cap, cur, rfl, hb, hg, hnc, hcm, hcs, ht⟩
  · omega
  · refine ⟨g, cap, rfl, hb, (Array.getElem?_eq_some_iff.1 hg).1, ?_, by simp [World.frozen?, hg]⟩
    have h5 : cur[k]? = some (wrd x) := by
      have h6 := congrArg (·[k]?) ht
      rw [Nat.mul_one] at h6
      simp only [List.getElem?_take, if_pos (show k < n by omega)] at h6
      rw [← Array.getElem?_toList, h6, List.getElem?_map, hx]
      rfl
    simp [World.cell?, hg, h5]
    rfl
theorem own_len {w : World} {base : Nat} {v : Value} {n : Nat} {l : List Nat} (h : w.ownsRow base 90 1 v n (l.map wrd)) : l.length = n := by have := h.1; simpa using this
theorem own_sl {w : World} {base e : Nat} {v : Value} {n : Nat} {xs : List Value} (h : w.ownsRow base e 1 v n xs) : ∃ a cap, v = .slice a n cap := by
  rcases h.2 with ⟨rfl, rfl⟩ | ⟨g, cap, cur, rfl, _⟩
  · exact ⟨_, _, rfl⟩
  · exact ⟨_, _, rfl⟩
theorem set_mid {done : List Nat} {l : List Nat} {k x : Nat} (hd : done.length = k) (hk : k < l.length) : ((done ++ l.drop k).map wrd).set k (wrd x) = ((done ++ [x]) ++ l.drop (k + 1)).map wrd := by
  rw [List.drop_eq_getElem_cons hk, List.map_append, List.map_cons, List.set_append_right _ _ (by simp [hd])]
  simp [hd]
theorem below_st {B g : Nat} {w w' : World} (h : Below B w w') (hg : B ≤ g) (o : Nat) (u : Value) : Below B w (w'.setCell ⟨g, o, none⟩ u) := h.setCell hg _
def LsLoop (w : World) (la lb : List Nat) (v : Value) (bo i : Value) (w' : World) : Prop := ∃ (k c : Nat) (done : List Nat), i = .int .i64 (k : Int) ∧ bo = .int .u64 (c : Int) ∧ k ≤ la.length ∧ done.length = k ∧ Wok done ∧ c ≤ 1 ∧ wv done + wv (lb.take k) = wv (la.take k) + c * 4294967296 ^ k ∧ w'.ownsRow w.heap.size 90 1 v la.length ((done ++ la.drop k).map wrd) ∧ Below w.heap.size w w'
theorem LsLoop.next {w wr : World} {la lb done : List Nat} {g cap k c x y : Nat} (hkl : k < la.length) (hdl : done.length = k) (hdk : Wok done) (ha : Wok la) (hb : Wok lb) (hc : c ≤ 1) (heq : wv done + wv (lb.take k) = wv (la.take k) + c * 4294967296 ^ k) (hx : la[k]? = some x) (hy : y = lb.getD k 0)
    (hown : wr.ownsRow w.heap.size 90 1 (.slice (some ⟨g, 0, none⟩) la.length cap) la.length ((done ++ la.drop k).map wrd)) (hbw : Below w.heap.size w wr) (hg : w.heap.size ≤ g) {bo i : Value} {n : Int} (hn : n = ((lsX x (c + y) : Nat) : Int)) (hbo : bo = .int .u64 (lsC x (c + y) : Nat)) (hi : i = .int .i64 ((k : Int) + 1)) :
    LsLoop w la lb (.slice (some ⟨g, 0, none⟩) la.length cap) bo i (wr.setCell ⟨g, k, none⟩ (.int .u32 n)) := by
  subst hn hbo hi
  obtain ⟨q1, q2, q3⟩ := ls_step ha hb hdl hc heq hx hy
  refine ⟨k + 1, _, done ++ [lsX x (c + y)], by go_num, rfl, hkl, by simp [hdl], wok_app hdk (wok_one q2), q3, q1, ?_, below_st hbw hg _ _⟩
  have h := (hown.stored k (wrd (lsX x (c + y)))).1
  rw [set_mid hdl hkl] at h
  exact h
set_option maxRecDepth 100000 in
set_option maxHeartbeats 4000000 in
theorem wless_any (w : World) (va vb : Value) (a b : Nat) (hle : b ≤ a) (ha : Wn w va a) (hb : Wn w vb b) (hal : (wds a).length ≤ 1000000) : Calls Tryz.prog 98 #[va, vb] w fun E w' => ∃ v, E = .returned v ∧ Wn w' v (a - b) ∧ Below w.heap.size w w' := by
  have HA0 := hid ha
  obtain ⟨aa, ca, rfl, -, -, hca⟩ := Sl.cw ha
  obtain ⟨ab, cb, rfl, -, -, hcb⟩ := Sl.cw hb
  clear ha hb
  have hll := wds_len_le hle
  obtain ⟨la, hla⟩ : ∃ la, la = wds a := ⟨_, rfl⟩
  obtain ⟨lb, hlb⟩ : ∃ lb, lb = wds b := ⟨_, rfl⟩
  have HA := hid (show wv la = a by rw [hla, wv_wds])
  have HB := hid (show wv lb = b by rw [hlb, wv_wds])
  have HKa := hid (show Wok la by rw [hla]; exact wok_wds a)
  have HKb := hid (show Wok lb by rw [hlb]; exact wok_wds b)
  rw [← hla] at hal hca hll ⊢
  rw [← hlb] at hcb hll ⊢
  unfold Wn at HA0
  rw [← hla] at HA0
  clear hla hlb
  have hown : (w.alloc (.cells #[] 90)).ownsRow w.heap.size 90 1 (.slice (some ⟨w.heap.size, 0, none⟩) 0 0) 0 [] := ⟨rfl, .inr ⟨w.heap.size, 0, #[], rfl, Nat.le_refl _, by show (w.heap.push _)[w.heap.size]? = _; simp, Nat.le_refl _, by decide, rfl, rfl⟩⟩
  have b1 : Below w.heap.size w (w.alloc (.cells #[] 90)) := (Below.refl _ w).alloc (Nat.le_refl _) _
  have HA1 := hid (HA0.out.below b1)
  have hone : ∀ u ∈ la.map wrd, u.oneCell' = true := by
    intro u hu
    obtain ⟨z, -, rfl⟩ := List.mem_map.1 hu
    rfl
  go_enter Tryz.func98, Tryz.ntmps98
  go_wp2_with (at_builtin; go_loud (refine wpList_appN rfl _ _ 83 rfl w.heap.size 90 _ 4 Tryz.underlying83 info_u32 rfl _ 0 [] _ (la.map wrd) rfl rfl HA1.out hone hown (by simp; omega) (by simp; omega) (by simp) ?_); intro v' w' h1 h2 h3)
  have hb := b1.trans h2
  clear h2 h3 b1 hown hone HA1 HA0
  rw [List.length_map, Nat.zero_add, List.nil_append] at h1
  obtain ⟨va, vc, rfl⟩ := own_sl h1
  have h10 := hid h1
  have hb0 := hid hb
  clear h1 hb
  go_loopw [6, 7] (fun bo i w'' => LsLoop w la lb (.slice va la.length vc) bo i w'') (fun _ i _ => la.length + 1 - (intOf i).toNat)
  case atStart => exact ⟨0, 0, [], rfl, rfl, Nat.zero_le _, rfl, fun d hd => absurd hd (List.not_mem_nil), by decide, by simp [wv], by simpa using h10.out, hb0.out⟩
  case round =>
    obtain ⟨k, c, done, rfl, rfl, hk, hdl, hdk, hc, heq, hown, hbw⟩ := hrel
    have HEQ := hid heq
    have HDK := hid hdk
    have HDL := hid hdl
    clear heq hdk hdl
    by_cases hkl : k < la.length
    · obtain ⟨x, hx⟩ : ∃ x, la[k]? = some x := ⟨la[k]'hkl, List.getElem?_eq_getElem hkl⟩
      have hx2 : (done ++ la.drop k)[k]? = some x := by
        rw [List.getElem?_append_right (by rw [HDL.out]; exact Nat.le_refl _), HDL.out, Nat.sub_self, List.getElem?_drop, Nat.add_zero, hx]
      obtain ⟨g, cap, hv, hg, hgl, c1, f1⟩ := own_w hown hx2
      cases hv
      have hxl := wok_get HKa.out hx
      have HX := hid hx
      have HO := hid hown
      have HB2 := hid hbw
      clear hx hx2
      by_cases hkb : k < lb.length
      · obtain ⟨y, hy⟩ : ∃ y, lb[k]? = some y := ⟨lb[k]'hkb, List.getElem?_eq_getElem hkb⟩
        obtain ⟨bb, bo, rfl, hcell⟩ := hcb k y hy
        have c2 := (hbw.cell (World.block_lt_of_cell? _ _ (hcell k y hy))).trans (hcell k y hy)
        have hyl := wok_get HKb.out hy
        have HY := hid (show y = lb.getD k 0 by rw [List.getD_eq_getElem?_getD, hy]; rfl)
        clear hy hcell hown hbw
        by_cases hxy : x < c + y
        · have HN := hid (show lsX x (c + y) = x + 4294967296 - (c + y) by unfold lsX; rw [if_pos hxy])
          have HC := hid (show lsC x (c + y) = 1 by unfold lsC; rw [if_pos hxy])
          have g1 : (x : Int) < (c : Int) + (y : Int) := by omega
          go_wp2
          go_roundw
          case rel => exact LsLoop.next hkl HDL.out HDK.out HKa.out HKb.out hc HEQ.out HX.out HY.out HO.out HB2.out hg (by rw [HN.out]; omega) (by rw [HC.out]; rfl) (by go_num)
          case measure => simp [intOf]; omega
        · have HN := hid (show lsX x (c + y) = x - (c + y) by unfold lsX; rw [if_neg hxy])
          have HC := hid (show lsC x (c + y) = 0 by unfold lsC; rw [if_neg hxy])
          have g1 : ¬ (x : Int) < (c : Int) + (y : Int) := by omega
          go_wp2
          go_roundw
          case rel => exact LsLoop.next hkl HDL.out HDK.out HKa.out HKb.out hc HEQ.out HX.out HY.out HO.out HB2.out hg (by rw [HN.out]; omega) (by rw [HC.out]; rfl) (by go_num)
          case measure => simp [intOf]; omega
      · have HY := hid (show 0 = lb.getD k 0 by rw [List.getD_eq_getElem?_getD, List.getElem?_eq_none (by omega)]; rfl)
        clear hown hbw hcb
        by_cases hxy : x < c
        · have HN := hid (show lsX x (c + 0) = x + 4294967296 - c by unfold lsX; rw [Nat.add_zero, if_pos hxy])
          have HC := hid (show lsC x (c + 0) = 1 by unfold lsC; rw [Nat.add_zero, if_pos hxy])
          have g1 : (x : Int) < (c : Int) := by omega
          go_wp2
          go_roundw
          case rel => exact LsLoop.next hkl HDL.out HDK.out HKa.out HKb.out hc HEQ.out HX.out HY.out HO.out HB2.out hg (by rw [HN.out]; omega) (by rw [HC.out]; rfl) (by go_num)
          case measure => simp [intOf]; omega
        · have HN := hid (show lsX x (c + 0) = x - c by unfold lsX; rw [Nat.add_zero, if_neg hxy])
          have HC := hid (show lsC x (c + 0) = 0 by unfold lsC; rw [Nat.add_zero, if_neg hxy])
          have g1 : ¬ (x : Int) < (c : Int) := by omega
          go_wp2
          go_roundw
          case rel => exact LsLoop.next hkl HDL.out HDK.out HKa.out HKb.out hc HEQ.out HX.out HY.out HO.out HB2.out hg (by rw [HN.out]; omega) (by rw [HC.out]; rfl) (by go_num)
          case measure => simp [intOf]; omega
    · obtain rfl : k = la.length := by omega
      have hv := ls_end HDL.out HDK.out (by rw [HA.out, HB.out]; exact hle) hll HEQ.out
      rw [HA.out, HB.out] at hv
      rw [List.drop_of_length_le (Nat.le_refl _), List.append_nil] at hown
      have hs := Sl.of_owns hown
      rw [← HDL.out] at hs
      have HT := hid (wtrimmed_any wr va vc done (by rw [HDL.out]; exact hal) hs)
      have HW := hid (Wn.trim HDK.out hs)
      rw [hv] at HW
      rw [HDL.out] at HT HW
      clear hs hown hv
      go_wp2_with (go_at_call 80; (with_reducible refine HT.out.mono ?_); rintro E3 w3 ⟨rfl, rfl⟩)
      go_ret
      exact ⟨_, rfl, HW.out, hbw⟩
theorem or_half {a t : Nat} (ha : a < 2147483648) (ht : t < 2) : bits .or .u32 (a : Int) ((t * 2147483648 : Nat) : Int) = ((a + t * 2147483648 : Nat) : Int) := by
  show IntKind.u32.wrap ((BitVec.ofInt 32 (a : Int) ||| BitVec.ofInt 32 ((t * 2147483648 : Nat) : Int)).toNat : Int) = _
  rw [BitVec.ofInt_natCast, BitVec.ofInt_natCast, BitVec.toNat_or, BitVec.toNat_ofNat, BitVec.toNat_ofNat, Nat.mod_eq_of_lt (show a < 2 ^ 32 by omega), Nat.mod_eq_of_lt (show t * 2147483648 < 2 ^ 32 by omega), Nat.or_comm]
  have h := Nat.two_pow_add_eq_or_of_lt (i := 31) (show a < 2 ^ 31 by omega) t
  rw [show t * 2147483648 = 2 ^ 31 * t by omega, ← h, IntKind.wrap_u32]
  omega
theorem set_rep {done : List Nat} {n k x : Nat} (hd : done.length = k) (hk : k < n) : ((done ++ List.replicate (n - k) 0).map wrd).set k (wrd x) = ((done ++ [x]) ++ List.replicate (n - (k + 1)) 0).map wrd := by
  obtain ⟨m, hm⟩ : ∃ m, n - k = m + 1 := ⟨n - k - 1, by omega⟩
  rw [hm, show n - (k + 1) = m by omega, List.replicate_succ, List.map_append, List.map_cons, List.set_append_right _ _ (by simp [hd])]
  simp [hd]
def HfLoop (w : World) (l : List Nat) (v : Value) (i : Value) (w' : World) : Prop := ∃ (k : Nat) (done : List Nat), i = .int .i64 (k : Int) ∧ k ≤ l.length ∧ done.length = k ∧ Wok done ∧ 2 * wv done + l.getD 0 0 % 2 = wv (l.take k) + l.getD k 0 % 2 * 4294967296 ^ k ∧ w'.ownsRow w.heap.size 90 1 v l.length ((done ++ List.replicate (l.length - k) 0).map wrd) ∧ Below w.heap.size w w'
theorem HfLoop.next {w w2 : World} {l done : List Nat} {v : Value} {k x y : Nat} (hkl : k < l.length) (hdl : done.length = k) (hdk : Wok done) (hl : Wok l) (heq : 2 * wv done + l.getD 0 0 % 2 = wv (l.take k) + l.getD k 0 % 2 * 4294967296 ^ k) (hx : l[k]? = some x) (hy : y = l.getD (k + 1) 0)
    (hown : w2.ownsRow w.heap.size 90 1 v l.length (((done ++ List.replicate (l.length - k) 0).map wrd).set k (wrd (x / 2 + y % 2 * 2147483648)))) (hbw : Below w.heap.size w w2) {i : Value} (hi : i = .int .i64 ((k : Int) + 1)) : HfLoop w l v i w2 := by
  subst hi
  have hd : l.getD k 0 = x := by rw [List.getD_eq_getElem?_getD, hx]; rfl
  rw [hd] at heq
  have q := hf_step hdl heq hx hy
  have hxl := wok_get hl hx
  refine ⟨k + 1, done ++ [x / 2 + y % 2 * 2147483648], by go_num, hkl, by simp [hdl], wok_app hdk (wok_one (by omega)), by rw [← hy]; exact q, ?_, hbw⟩
  rwa [set_rep hdl hkl] at hown
set_option maxRecDepth 100000 in
set_option maxHeartbeats 4000000 in
theorem whalf_any (w : World) (va : Value) (a : Nat) (ha : Wn w va a) (hal : (wds a).length ≤ 1000000) : Calls Tryz.prog 99 #[va] w fun E w' => ∃ v, E = .returned v ∧ Wn w' v (a / 2) ∧ Below w.heap.size w w' := by
  obtain ⟨aa, ca, rfl, -, -, hca⟩ := Sl.cw ha
  clear ha
  obtain ⟨l, hl⟩ : ∃ l, l = wds a := ⟨_, rfl⟩
  have HA := hid (show wv l = a by rw [hl, wv_wds])
  have HK := hid (show Wok l by rw [hl]; exact wok_wds a)
  rw [← hl] at hal hca ⊢
  clear hl
  have hmk := made_u32 l.length (by omega)
  have hown : (w.alloc (.cells (Array.replicate l.length (Value.int .u32 0)) 90)).ownsRow w.heap.size 90 1 (.slice (some ⟨w.heap.size, 0, none⟩) l.length l.length) l.length ((List.replicate l.length 0).map wrd) := by
    refine ⟨by simp, .inr ⟨w.heap.size, l.length, Array.replicate l.length (Value.int .u32 0), rfl, Nat.le_refl _, by show (w.heap.push _)[w.heap.size]? = _; simp, Nat.le_refl _, by simp only [maxLen]; omega, by simp, ?_⟩⟩
    simp [wrd]
  have h10 := hid hown
  have hb0 := hid (show Below w.heap.size w (w.alloc (.cells (Array.replicate l.length (Value.int .u32 0)) 90)) from (Below.refl _ w).alloc (Nat.le_refl _) _)
  clear hown
  go_enter Tryz.func99, Tryz.ntmps99
  go_wp2
  obtain ⟨w1, hw1⟩ : ∃ w1, w1 = w.alloc (.cells (Array.replicate l.length (Value.int .u32 0)) 90) := ⟨_, rfl⟩
  rw [← hw1] at h10 hb0 ⊢
  clear hw1 hmk
  go_loopw [4] (fun i w'' => HfLoop w l (.slice (some ⟨w.heap.size, 0, none⟩) l.length l.length) i w'') (fun i _ => l.length + 1 - (intOf i).toNat)
  case atStart => exact ⟨0, [], rfl, Nat.zero_le _, rfl, fun d hd => absurd hd (List.not_mem_nil), by simp [wv], by simpa using h10.out, hb0.out⟩
  case round =>
    obtain ⟨k, done, rfl, hk, hdl, hdk, heq, hown, hbw⟩ := hrel
    have HEQ := hid heq
    have HDK := hid hdk
    have HDL := hid hdl
    clear heq hdk hdl
    by_cases hkl : k < l.length
    · obtain ⟨x, hx⟩ : ∃ x, l[k]? = some x := ⟨l[k]'hkl, List.getElem?_eq_getElem hkl⟩
      have hx2 : (done ++ List.replicate (l.length - k) 0)[k]? = some 0 := by
        rw [List.getElem?_append_right (by rw [HDL.out]; exact Nat.le_refl _), HDL.out, Nat.sub_self, List.getElem?_replicate, if_pos (by omega)]
      obtain ⟨g, cap, hv, hg, hgl, c1, f1⟩ := own_w hown hx2
      cases hv
      obtain ⟨ba, oa, rfl, hcell⟩ := hca k x hx
      have c0 := (hbw.cell (World.block_lt_of_cell? _ _ (hcell k x hx))).trans (hcell k x hx)
      have hxl := wok_get HK.out hx
      have HX := hid hx
      have HO := hid hown
      have HB2 := hid hbw
      have hba := World.block_lt_of_cell? _ _ (hcell k x hx)
      have hne : ba ≠ w.heap.size := by simp only at hba; omega
      obtain ⟨xh, hxh⟩ : ∃ xh, xh = x / 2 := ⟨_, rfl⟩
      have g1 : (x : Int) / 2 = (xh : Int) := by omega
      replace hxh := hid hxh
      clear hx hx2
      by_cases hk1 : k + 1 < l.length
      · obtain ⟨m, hm⟩ : ∃ m, m = k + 1 := ⟨_, rfl⟩
        rw [← hm] at hk1
        obtain ⟨y, hy⟩ : ∃ y, l[m]? = some y := ⟨l[m]'hk1, List.getElem?_eq_getElem hk1⟩
        have c3 : (wr.setCell ⟨w.heap.size, k, none⟩ (.int .u32 xh)).cell? ⟨ba, oa + m, none⟩ = some (.int .u32 (y : Int)) := by
          rw [World.cell?_setCell_other _ _ _ _ (fun e => hne (by have := congrArg Addr.block e; simpa using this.symm))]
          exact (hbw.cell (World.block_lt_of_cell? _ _ (hcell m y hy))).trans (hcell m y hy)
        have hyl := wok_get HK.out hy
        have g2 : (k : Int) + 1 < (l.length : Int) := by omega
        have g5 : IntKind.i64.wrap ((k : Int) + 1) = (m : Int) := by rw [IntWalk.i64_in _ (by omega)]; omega
        have g6 : (m : Int) < (l.length : Int) := by omega
        replace hm := hid hm
        have g3 : IntKind.u32.wrap ((y : Int) * 2147483648) = ((y % 2 * 2147483648 : Nat) : Int) := by rw [IntKind.wrap_u32]; omega
        have g4 : bits .or .u32 (xh : Int) ((y % 2 * 2147483648 : Nat) : Int) = ((xh + y % 2 * 2147483648 : Nat) : Int) := or_half (by have := hxh.out; omega) (by omega)
        obtain ⟨yh, hyh⟩ : ∃ yh, yh = y % 2 * 2147483648 := ⟨_, rfl⟩
        rw [← hyh] at g3 g4
        replace hyh := hid hyh
        go_wp2
        go_region_law (fail)
        all_goals
          have ho2 := (((HO.out.stored k (.int .u32 xh)).1).stored k (.int .u32 ((xh : Int) + (yh : Int)))).1
          rw [List.set_set] at ho2
          have hY := hid (show y = l.getD (k + 1) 0 by rw [← hm.out, List.getD_eq_getElem?_getD, hy]; rfl)
          have hV : Value.int .u32 ((xh : Int) + (yh : Int)) = wrd (x / 2 + y % 2 * 2147483648) := by unfold wrd; rw [← hxh.out, ← hyh.out]; simp
          have HV := hid hV
          have HO2 := hid ho2
          clear ho2 hV hy c0 c1 c3 f1 g1 g2 g3 g4 g5 g6 hown
          go_wp2
          go_roundw
          case rel => exact HfLoop.next hkl HDL.out HDK.out HK.out HEQ.out HX.out hY.out (by rw [← HV.out]; exact owns_drewN HO2.out 1) (below_drewN' (below_st (below_st HB2.out hg _ _) hg _ _) 1) (by go_num)
          case measure => simp [intOf]; omega
      · have hY := hid (show 0 = l.getD (k + 1) 0 by rw [List.getD_eq_getElem?_getD, List.getElem?_eq_none (by omega)]; rfl)
        have ho2 := (HO.out.stored k (.int .u32 xh)).1
        have hV : Value.int .u32 (xh : Int) = wrd (x / 2 + 0 % 2 * 2147483648) := by unfold wrd; rw [← hxh.out]; simp
        have HV := hid hV
        have HO2 := hid ho2
        have g2 : ¬ (k : Int) + 1 < (l.length : Int) := by omega
        clear ho2 hV hown
        go_wp2
        go_roundw
        case rel => exact HfLoop.next hkl HDL.out HDK.out HK.out HEQ.out HX.out hY.out (by rw [← HV.out]; exact HO2.out) (below_st HB2.out hg _ _) (by go_num)
        case measure => simp [intOf]; omega
    · obtain rfl : k = l.length := by omega
      have h0 : l.getD l.length 0 = 0 := by rw [List.getD_eq_getElem?_getD, List.getElem?_eq_none (Nat.le_refl _)]; rfl
      have hv := hf_end (l := l) (done := done) (by have := HEQ.out; rw [h0] at this; exact this)
      rw [HA.out] at hv
      rw [Nat.sub_self, List.replicate_zero, List.append_nil] at hown
      have hs := Sl.of_owns hown
      have HT := hid (wtrimmed_any wr (some ⟨w.heap.size, 0, none⟩) l.length done (by rw [HDL.out]; exact hal) (by rw [HDL.out]; exact hs))
      have HW := hid (Wn.trim (a := some ⟨w.heap.size, 0, none⟩) (cap := l.length) HDK.out (by rw [HDL.out]; exact hs))
      rw [hv] at HW
      rw [HDL.out] at HT HW
      clear hs hown hv
      go_wp2_with (go_at_call 80; (with_reducible refine HT.out.mono ?_); rintro E3 w3 ⟨rfl, rfl⟩)
      go_ret
      exact ⟨_, rfl, HW.out, hbw⟩
end Go.Proofs.YtfalbdlfopfgcaaGreatDoor

