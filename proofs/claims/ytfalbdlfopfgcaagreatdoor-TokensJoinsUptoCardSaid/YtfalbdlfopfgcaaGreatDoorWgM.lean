/- gridworkwide.less, half: words in memory of their own. Conditions: what is subtracted is not greater; rows not too long. gridworkwide.Up: a number times a power of two. Conditions: the row, the power not too long. gridworkwide.Mul: a product. Conditions: neither number stands behind a -; the rows not too long. -/
import Derived.Test.YtfalbdlfopfgcaaGreatDoorWaM
import Derived.Deep.OwnRows
import Derived.Deep.RegionLaw
import Derived.Deep.RegionHeld3
import Derived.Deep.AppendLies
import Derived.Deep.QuietTactic
import Derived.BigQuiet
namespace Go.Proofs.YtfalbdlfopfgcaaGreatDoor
open Go.RowKit

theorem info_u32 : (Tryz.prog.info? 90).map (fun i => (i.zero, i.size, i.bytes)) = some (some (.int .u32 0), 1, 4) := by kernel_rfl
theorem made_u32 (n : Nat) (hn : n ≤ 2000000) (w : World) : (Instr.makeSlice 83 (.int .i64 n) (.int .i64 n)).run Tryz.prog w = .ok (.slice (some ⟨w.heap.size, 0, none⟩) n n) (w.alloc (.cells (Array.replicate n (Value.int .u32 0)) 90)) := by
  have h := run_make_row' (P := Tryz.prog) 83 90 (.int .u32 0) 4 Tryz.underlying83 info_u32 rfl .i64 .i64 n (by omega) (by omega) w
  have e : (Array.replicate n (Value.int .u32 0)) = madeCells #[.int .u32 0] n := by
    apply Array.ext'
    rw [toList_madeCells_one]
    simp
  rw [e]
  exact h
/-- What an owned row of words says of one of them. -/
theorem own_w {w : World} {base : Nat} {v : Value} {n : Nat} {l : List Nat} (h : w.ownsRow base 90 1 v n (l.map wrd)) {k x : Nat} (hx : l[k]? = some x) : ∃ g cap, v = .slice (some ⟨g, 0, none⟩) n cap ∧ base ≤ g ∧ g < w.heap.size ∧ w.cell? ⟨g, k, none⟩ = some (.int .u32 (x : Int)) ∧ w.frozen? ⟨g, k, none⟩ = false := by
  have hk := (List.getElem?_eq_some_iff.1 hx).1
  have hn : l.length = n := by have := h.1; simpa using this
  rcases h.2 with ⟨_, h0⟩ | ⟨g, cap, cur, rfl, hb, hg, hnc, hcm, hcs, ht⟩
  · omega
  · refine ⟨g, cap, rfl, hb, (Array.getElem?_eq_some_iff.1 hg).1, ?_, by simp [World.frozen?, hg]⟩
    have h5 : cur[k]? = some (wrd x) := by
      have h6 := congrArg (·[k]?) ht
      rw [Nat.mul_one] at h6
      simp only [List.getElem?_take, if_pos (show k < n by omega)] at h6
      rw [← Array.getElem?_toList, h6, List.getElem?_map, hx]
      rfl
    simp [World.cell?, hg, h5]
    rfl
theorem own_len {w : World} {base : Nat} {v : Value} {n : Nat} {l : List Nat} (h : w.ownsRow base 90 1 v n (l.map wrd)) : l.length = n := by have := h.1; simpa using this
theorem own_sl {w : World} {base e : Nat} {v : Value} {n : Nat} {xs : List Value} (h : w.ownsRow base e 1 v n xs) : ∃ a cap, v = .slice a n cap := by
  rcases h.2 with ⟨rfl, rfl⟩ | ⟨g, cap, cur, rfl, _⟩
  · exact ⟨_, _, rfl⟩
  · exact ⟨_, _, rfl⟩
theorem set_mid {done : List Nat} {l : List Nat} {k x : Nat} (hd : done.length = k) (hk : k < l.length) : ((done ++ l.drop k).map wrd).set k (wrd x) = ((done ++ [x]) ++ l.drop (k + 1)).map wrd := by
  rw [List.drop_eq_getElem_cons hk, List.map_append, List.map_cons, List.set_append_right _ _ (by simp [hd])]
  simp [hd]
theorem below_st {B g : Nat} {w w' : World} (h : Below B w w') (hg : B ≤ g) (o : Nat) (u : Value) : Below B w (w'.setCell ⟨g, o, none⟩ u) := h.setCell hg _
def LsLoop (w : World) (la lb : List Nat) (v : Value) (bo i : Value) (w' : World) : Prop := ∃ (k c : Nat) (done : List Nat), i = .int .i64 (k : Int) ∧ bo = .int .u64 (c : Int) ∧ k ≤ la.length ∧ done.length = k ∧ Wok done ∧ c ≤ 1 ∧ wv done + wv (lb.take k) = wv (la.take k) + c * 4294967296 ^ k ∧ w'.ownsRow w.heap.size 90 1 v la.length ((done ++ la.drop k).map wrd) ∧ Below w.heap.size w w'
theorem LsLoop.next {w wr : World} {la lb done : List Nat} {g cap k c x y : Nat} (hkl : k < la.length) (hdl : done.length = k) (hdk : Wok done) (ha : Wok la) (hb : Wok lb) (hc : c ≤ 1) (heq : wv done + wv (lb.take k) = wv (la.take k) + c * 4294967296 ^ k) (hx : la[k]? = some x) (hy : y = lb.getD k 0)
    (hown : wr.ownsRow w.heap.size 90 1 (.slice (some ⟨g, 0, none⟩) la.length cap) la.length ((done ++ la.drop k).map wrd)) (hbw : Below w.heap.size w wr) (hg : w.heap.size ≤ g) {bo i : Value} {n : Int} (hn : n = ((lsX x (c + y) : Nat) : Int)) (hbo : bo = .int .u64 (lsC x (c + y) : Nat)) (hi : i = .int .i64 ((k : Int) + 1)) :
    LsLoop w la lb (.slice (some ⟨g, 0, none⟩) la.length cap) bo i (wr.setCell ⟨g, k, none⟩ (.int .u32 n)) := by
  subst hn hbo hi
  obtain ⟨q1, q2, q3⟩ := ls_step ha hb hdl hc heq hx hy
  refine ⟨k + 1, _, done ++ [lsX x (c + y)], by go_num, rfl, hkl, by simp [hdl], wok_app hdk (wok_one q2), q3, q1, ?_, below_st hbw hg _ _⟩
  have h := (hown.stored k (wrd (lsX x (c + y)))).1
  rw [set_mid hdl hkl] at h
  exact h
set_option maxRecDepth 100000 in
set_option maxHeartbeats 4000000 in
theorem wless_any (w : World) (va vb : Value) (a b : Nat) (hle : b ≤ a) (ha : Wn w va a) (hb : Wn w vb b) (hal : (wds a).length ≤ 1000000) : Calls Tryz.prog 98 #[va, vb] w fun E w' => ∃ v, E = .returned v ∧ Wn w' v (a - b) ∧ Below w.heap.size w w' := by
  have HA0 := hid ha
  obtain ⟨aa, ca, rfl, -, -, hca⟩ := Sl.cw ha
  obtain ⟨ab, cb, rfl, -, -, hcb⟩ := Sl.cw hb
  clear ha hb
  have hll := wds_len_le hle
  obtain ⟨la, hla⟩ : ∃ la, la = wds a := ⟨_, rfl⟩
  obtain ⟨lb, hlb⟩ : ∃ lb, lb = wds b := ⟨_, rfl⟩
  have HA := hid (show wv la = a by rw [hla, wv_wds])
  have HB := hid (show wv lb = b by rw [hlb, wv_wds])
  have HKa := hid (show Wok la by rw [hla]; exact wok_wds a)
  have HKb := hid (show Wok lb by rw [hlb]; exact wok_wds b)
  rw [← hla] at hal hca hll ⊢
  rw [← hlb] at hcb hll ⊢
  unfold Wn at HA0
  rw [← hla] at HA0
  clear hla hlb
  have hown : (w.alloc (.cells #[] 90)).ownsRow w.heap.size 90 1 (.slice (some ⟨w.heap.size, 0, none⟩) 0 0) 0 [] := ⟨rfl, .inr ⟨w.heap.size, 0, #[], rfl, Nat.le_refl _, by show (w.heap.push _)[w.heap.size]? = _; simp, Nat.le_refl _, by decide, rfl, rfl⟩⟩
  have b1 : Below w.heap.size w (w.alloc (.cells #[] 90)) := (Below.refl _ w).alloc (Nat.le_refl _) _
  have HA1 := hid (HA0.out.below b1)
  have hone : ∀ u ∈ la.map wrd, u.oneCell' = true := by
    intro u hu
    obtain ⟨z, -, rfl⟩ := List.mem_map.1 hu
    rfl
  go_enter Tryz.func98, Tryz.ntmps98
  go_wp2_with (at_builtin; go_loud (refine wpList_appN rfl _ _ 83 rfl w.heap.size 90 _ 4 Tryz.underlying83 info_u32 rfl _ 0 [] _ (la.map wrd) rfl rfl HA1.out hone hown (by simp; omega) (by simp; omega) (by simp) ?_); intro v' w' h1 h2 h3)
  have hb := b1.trans h2
  clear h2 h3 b1 hown hone HA1 HA0
  rw [List.length_map, Nat.zero_add, List.nil_append] at h1
  obtain ⟨va, vc, rfl⟩ := own_sl h1
  have h10 := hid h1
  have hb0 := hid hb
  clear h1 hb
  go_loopw [6, 7] (fun bo i w'' => LsLoop w la lb (.slice va la.length vc) bo i w'') (fun _ i _ => la.length + 1 - (intOf i).toNat)
  case atStart => exact ⟨0, 0, [], rfl, rfl, Nat.zero_le _, rfl, fun d hd => absurd hd (List.not_mem_nil), by decide, by simp [wv], by simpa using h10.out, hb0.out⟩
  case round =>
    obtain ⟨k, c, done, rfl, rfl, hk, hdl, hdk, hc, heq, hown, hbw⟩ := hrel
    have HEQ := hid heq
    have HDK := hid hdk
    have HDL := hid hdl
    clear heq hdk hdl
    by_cases hkl : k < la.length
    · obtain ⟨x, hx⟩ : ∃ x, la[k]? = some x := ⟨la[k]'hkl, List.getElem?_eq_getElem hkl⟩
      have hx2 : (done ++ la.drop k)[k]? = some x := by
        rw [List.getElem?_append_right (by rw [HDL.out]; exact Nat.le_refl _), HDL.out, Nat.sub_self, List.getElem?_drop, Nat.add_zero, hx]
      obtain ⟨g, cap, hv, hg, hgl, c1, f1⟩ := own_w hown hx2
      cases hv
      have hxl := wok_get HKa.out hx
      have HX := hid hx
      have HO := hid hown
      have HB2 := hid hbw
      clear hx hx2
      by_cases hkb : k < lb.length
      · obtain ⟨y, hy⟩ : ∃ y, lb[k]? = some y := ⟨lb[k]'hkb, List.getElem?_eq_getElem hkb⟩
        obtain ⟨bb, bo, rfl, hcell⟩ := hcb k y hy
        have c2 := (hbw.cell (World.block_lt_of_cell? _ _ (hcell k y hy))).trans (hcell k y hy)
        have hyl := wok_get HKb.out hy
        have HY := hid (show y = lb.getD k 0 by rw [List.getD_eq_getElem?_getD, hy]; rfl)
        clear hy hcell hown hbw
        by_cases hxy : x < c + y
        · have HN := hid (show lsX x (c + y) = x + 4294967296 - (c + y) by unfold lsX; rw [if_pos hxy])
          have HC := hid (show lsC x (c + y) = 1 by unfold lsC; rw [if_pos hxy])
          have g1 : (x : Int) < (c : Int) + (y : Int) := by omega
          go_wp2
          go_roundw
          case rel => exact LsLoop.next hkl HDL.out HDK.out HKa.out HKb.out hc HEQ.out HX.out HY.out HO.out HB2.out hg (by rw [HN.out]; omega) (by rw [HC.out]; rfl) (by go_num)
          case measure => simp [intOf]; omega
        · have HN := hid (show lsX x (c + y) = x - (c + y) by unfold lsX; rw [if_neg hxy])
          have HC := hid (show lsC x (c + y) = 0 by unfold lsC; rw [if_neg hxy])
          have g1 : ¬ (x : Int) < (c : Int) + (y : Int) := by omega
          go_wp2
          go_roundw
          case rel => exact LsLoop.next hkl HDL.out HDK.out HKa.out HKb.out hc HEQ.out HX.out HY.out HO.out HB2.out hg (by rw [HN.out]; omega) (by rw [HC.out]; rfl) (by go_num)
          case measure => simp [intOf]; omega
      · have HY := hid (show 0 = lb.getD k 0 by rw [List.getD_eq_getElem?_getD, List.getElem?_eq_none (by omega)]; rfl)
        clear hown hbw hcb
        by_cases hxy : x < c
        · have HN := hid (show lsX x (c + 0) = x + 4294967296 - c by unfold lsX; rw [Nat.add_zero, if_pos hxy])
          have HC := hid (show lsC x (c + 0) = 1 by unfold lsC; rw [Nat.add_zero, if_pos hxy])
          have g1 : (x : Int) < (c : Int) := by omega
          go_wp2
          go_roundw
          case rel => exact LsLoop.next hkl HDL.out HDK.out HKa.out HKb.out hc HEQ.out HX.out HY.out HO.out HB2.out hg (by rw [HN.out]; omega) (by rw [HC.out]; rfl) (by go_num)
          case measure => simp [intOf]; omega
        · have HN := hid (show lsX x (c + 0) = x - c by unfold lsX; rw [Nat.add_zero, if_neg hxy])
          have HC := hid (show lsC x (c + 0) = 0 by unfold lsC; rw [Nat.add_zero, if_neg hxy])
          have g1 : ¬ (x : Int) < (c : Int) := by omega
          go_wp2
          go_roundw
          case rel => exact LsLoop.next hkl HDL.out HDK.out HKa.out HKb.out hc HEQ.out HX.out HY.out HO.out HB2.out hg (by rw [HN.out]; omega) (by rw [HC.out]; rfl) (by go_num)
          case measure => simp [intOf]; omega
    · obtain rfl : k = la.length := by omega
      have hv := ls_end HDL.out HDK.out (by rw [HA.out, HB.out]; exact hle) hll HEQ.out
      rw [HA.out, HB.out] at hv
      rw [List.drop_of_length_le (Nat.le_refl _), List.append_nil] at hown
      have hs := Sl.of_owns hown
      rw [← HDL.out] at hs
      have HT := hid (wtrimmed_any wr va vc done (by rw [HDL.out]; exact hal) hs)
      have HW := hid (Wn.trim HDK.out hs)
      rw [hv] at HW
      rw [HDL.out] at HT HW
      clear hs hown hv
      go_wp2_with (go_at_call 80; (with_reducible refine HT.out.mono ?_); rintro E3 w3 ⟨rfl, rfl⟩)
      go_ret
      exact ⟨_, rfl, HW.out, hbw⟩
theorem or_half {a t : Nat} (ha : a < 2147483648) (ht : t < 2) : bits .or .u32 (a : Int) ((t * 2147483648 : Nat) : Int) = ((a + t * 2147483648 : Nat) : Int) := by
  show IntKind.u32.wrap ((BitVec.ofInt 32 (a : Int) ||| BitVec.ofInt 32 ((t * 2147483648 : Nat) : Int)).toNat : Int) = _
  rw [BitVec.ofInt_natCast, BitVec.ofInt_natCast, BitVec.toNat_or, BitVec.toNat_ofNat, BitVec.toNat_ofNat, Nat.mod_eq_of_lt (show a < 2 ^ 32 by omega), Nat.mod_eq_of_lt (show t * 2147483648 < 2 ^ 32 by omega), Nat.or_comm]
  have h := Nat.two_pow_add_eq_or_of_lt (i := 31) (show a < 2 ^ 31 by omega) t
  rw [show t * 2147483648 = 2 ^ 31 * t by omega, ← h, IntKind.wrap_u32]
  omega
theorem set_rep {done : List Nat} {n k x : Nat} (hd : done.length = k) (hk : k < n) : ((done ++ List.replicate (n - k) 0).map wrd).set k (wrd x) = ((done ++ [x]) ++ List.replicate (n - (k + 1)) 0).map wrd := by
  obtain ⟨m, hm⟩ : ∃ m, n - k = m + 1 := ⟨n - k - 1, by omega⟩
  rw [hm, show n - (k + 1) = m by omega, List.replicate_succ, List.map_append, List.map_cons, List.set_append_right _ _ (by simp [hd])]
  simp [hd]
def HfLoop (w : World) (l : List Nat) (v : Value) (i : Value) (w' : World) : Prop := ∃ (k : Nat) (done : List Nat), i = .int .i64 (k : Int) ∧ k ≤ l.length ∧ done.length = k ∧ Wok done ∧ 2 * wv done + l.getD 0 0 % 2 = wv (l.take k) + l.getD k 0 % 2 * 4294967296 ^ k ∧ w'.ownsRow w.heap.size 90 1 v l.length ((done ++ List.replicate (l.length - k) 0).map wrd) ∧ Below w.heap.size w w'
theorem HfLoop.next {w w2 : World} {l done : List Nat} {v : Value} {k x y : Nat} (hkl : k < l.length) (hdl : done.length = k) (hdk : Wok done) (hl : Wok l) (heq : 2 * wv done + l.getD 0 0 % 2 = wv (l.take k) + l.getD k 0 % 2 * 4294967296 ^ k) (hx : l[k]? = some x) (hy : y = l.getD (k + 1) 0)
    (hown : w2.ownsRow w.heap.size 90 1 v l.length (((done ++ List.replicate (l.length - k) 0).map wrd).set k (wrd (x / 2 + y % 2 * 2147483648)))) (hbw : Below w.heap.size w w2) {i : Value} (hi : i = .int .i64 ((k : Int) + 1)) : HfLoop w l v i w2 := by
  subst hi
  have hd : l.getD k 0 = x := by rw [List.getD_eq_getElem?_getD, hx]; rfl
  rw [hd] at heq
  have q := hf_step hdl heq hx hy
  have hxl := wok_get hl hx
  refine ⟨k + 1, done ++ [x / 2 + y % 2 * 2147483648], by go_num, hkl, by simp [hdl], wok_app hdk (wok_one (by omega)), by rw [← hy]; exact q, ?_, hbw⟩
  rwa [set_rep hdl hkl] at hown
set_option maxRecDepth 100000 in
set_option maxHeartbeats 4000000 in
theorem whalf_any (w : World) (va : Value) (a : Nat) (ha : Wn w va a) (hal : (wds a).length ≤ 1000000) : Calls Tryz.prog 99 #[va] w fun E w' => ∃ v, E = .returned v ∧ Wn w' v (a / 2) ∧ Below w.heap.size w w' := by
  obtain ⟨aa, ca, rfl, -, -, hca⟩ := Sl.cw ha
  clear ha
  obtain ⟨l, hl⟩ : ∃ l, l = wds a := ⟨_, rfl⟩
  have HA := hid (show wv l = a by rw [hl, wv_wds])
  have HK := hid (show Wok l by rw [hl]; exact wok_wds a)
  rw [← hl] at hal hca ⊢
  clear hl
  have hmk := made_u32 l.length (by omega)
  have hown : (w.alloc (.cells (Array.replicate l.length (Value.int .u32 0)) 90)).ownsRow w.heap.size 90 1 (.slice (some ⟨w.heap.size, 0, none⟩) l.length l.length) l.length ((List.replicate l.length 0).map wrd) := by
    refine ⟨by simp, .inr ⟨w.heap.size, l.length, Array.replicate l.length (Value.int .u32 0), rfl, Nat.le_refl _, by show (w.heap.push _)[w.heap.size]? = _; simp, Nat.le_refl _, by simp only [maxLen]; omega, by simp, ?_⟩⟩
    simp [wrd]
  have h10 := hid hown
  have hb0 := hid (show Below w.heap.size w (w.alloc (.cells (Array.replicate l.length (Value.int .u32 0)) 90)) from (Below.refl _ w).alloc (Nat.le_refl _) _)
  clear hown
  go_enter Tryz.func99, Tryz.ntmps99
  go_wp2
  obtain ⟨w1, hw1⟩ : ∃ w1, w1 = w.alloc (.cells (Array.replicate l.length (Value.int .u32 0)) 90) := ⟨_, rfl⟩
  rw [← hw1] at h10 hb0 ⊢
  clear hw1 hmk
  go_loopw [4] (fun i w'' => HfLoop w l (.slice (some ⟨w.heap.size, 0, none⟩) l.length l.length) i w'') (fun i _ => l.length + 1 - (intOf i).toNat)
  case atStart => exact ⟨0, [], rfl, Nat.zero_le _, rfl, fun d hd => absurd hd (List.not_mem_nil), by simp [wv], by simpa using h10.out, hb0.out⟩
  case round =>
    obtain ⟨k, done, rfl, hk, hdl, hdk, heq, hown, hbw⟩ := hrel
    have HEQ := hid heq
    have HDK := hid hdk
    have HDL := hid hdl
    clear heq hdk hdl
    by_cases hkl : k < l.length
    · obtain ⟨x, hx⟩ : ∃ x, l[k]? = some x := ⟨l[k]'hkl, List.getElem?_eq_getElem hkl⟩
      have hx2 : (done ++ List.replicate (l.length - k) 0)[k]? = some 0 := by
        rw [List.getElem?_append_right (by rw [HDL.out]; exact Nat.le_refl _), HDL.out, Nat.sub_self, List.getElem?_replicate, if_pos (by omega)]
      obtain ⟨g, cap, hv, hg, hgl, c1, f1⟩ := own_w hown hx2
      cases hv
      obtain ⟨ba, oa, rfl, hcell⟩ := hca k x hx
      have c0 := (hbw.cell (World.block_lt_of_cell? _ _ (hcell k x hx))).trans (hcell k x hx)
      have hxl := wok_get HK.out hx
      have HX := hid hx
      have HO := hid hown
      have HB2 := hid hbw
      have hba := World.block_lt_of_cell? _ _ (hcell k x hx)
      have hne : ba ≠ w.heap.size := by simp only at hba; omega
      obtain ⟨xh, hxh⟩ : ∃ xh, xh = x / 2 := ⟨_, rfl⟩
      have g1 : (x : Int) / 2 = (xh : Int) := by omega
      replace hxh := hid hxh
      clear hx hx2
      by_cases hk1 : k + 1 < l.length
      · obtain ⟨m, hm⟩ : ∃ m, m = k + 1 := ⟨_, rfl⟩
        rw [← hm] at hk1
        obtain ⟨y, hy⟩ : ∃ y, l[m]? = some y := ⟨l[m]'hk1, List.getElem?_eq_getElem hk1⟩
        have c3 : (wr.setCell ⟨w.heap.size, k, none⟩ (.int .u32 xh)).cell? ⟨ba, oa + m, none⟩ = some (.int .u32 (y : Int)) := by
          rw [World.cell?_setCell_other _ _ _ _ (fun e => hne (by have := congrArg Addr.block e; simpa using this.symm))]
          exact (hbw.cell (World.block_lt_of_cell? _ _ (hcell m y hy))).trans (hcell m y hy)
        have hyl := wok_get HK.out hy
        have g2 : (k : Int) + 1 < (l.length : Int) := by omega
        have g5 : IntKind.i64.wrap ((k : Int) + 1) = (m : Int) := by rw [IntWalk.i64_in _ (by omega)]; omega
        have g6 : (m : Int) < (l.length : Int) := by omega
        replace hm := hid hm
        have g3 : IntKind.u32.wrap ((y : Int) * 2147483648) = ((y % 2 * 2147483648 : Nat) : Int) := by rw [IntKind.wrap_u32]; omega
        have g4 : bits .or .u32 (xh : Int) ((y % 2 * 2147483648 : Nat) : Int) = ((xh + y % 2 * 2147483648 : Nat) : Int) := or_half (by have := hxh.out; omega) (by omega)
        obtain ⟨yh, hyh⟩ : ∃ yh, yh = y % 2 * 2147483648 := ⟨_, rfl⟩
        rw [← hyh] at g3 g4
        replace hyh := hid hyh
        go_wp2
        go_region_law (fail)
        all_goals
          have ho2 := (((HO.out.stored k (.int .u32 xh)).1).stored k (.int .u32 ((xh : Int) + (yh : Int)))).1
          rw [List.set_set] at ho2
          have hY := hid (show y = l.getD (k + 1) 0 by rw [← hm.out, List.getD_eq_getElem?_getD, hy]; rfl)
          have hV : Value.int .u32 ((xh : Int) + (yh : Int)) = wrd (x / 2 + y % 2 * 2147483648) := by unfold wrd; rw [← hxh.out, ← hyh.out]; simp
          have HV := hid hV
          have HO2 := hid ho2
          clear ho2 hV hy c0 c1 c3 f1 g1 g2 g3 g4 g5 g6 hown
          go_wp2
          go_roundw
          case rel => exact HfLoop.next hkl HDL.out HDK.out HK.out HEQ.out HX.out hY.out (by rw [← HV.out]; exact owns_drewN HO2.out 1) (below_drewN' (below_st (below_st HB2.out hg _ _) hg _ _) 1) (by go_num)
          case measure => simp [intOf]; omega
      · have hY := hid (show 0 = l.getD (k + 1) 0 by rw [List.getD_eq_getElem?_getD, List.getElem?_eq_none (by omega)]; rfl)
        have ho2 := (HO.out.stored k (.int .u32 xh)).1
        have hV : Value.int .u32 (xh : Int) = wrd (x / 2 + 0 % 2 * 2147483648) := by unfold wrd; rw [← hxh.out]; simp
        have HV := hid hV
        have HO2 := hid ho2
        have g2 : ¬ (k : Int) + 1 < (l.length : Int) := by omega
        clear ho2 hV hown
        go_wp2
        go_roundw
        case rel => exact HfLoop.next hkl HDL.out HDK.out HK.out HEQ.out HX.out hY.out (by rw [← HV.out]; exact HO2.out) (below_st HB2.out hg _ _) (by go_num)
        case measure => simp [intOf]; omega
    · obtain rfl : k = l.length := by omega
      have h0 : l.getD l.length 0 = 0 := by rw [List.getD_eq_getElem?_getD, List.getElem?_eq_none (Nat.le_refl _)]; rfl
      have hv := hf_end (l := l) (done := done) (by have := HEQ.out; rw [h0] at this; exact this)
      rw [HA.out] at hv
      rw [Nat.sub_self, List.replicate_zero, List.append_nil] at hown
      have hs := Sl.of_owns hown
      have HT := hid (wtrimmed_any wr (some ⟨w.heap.size, 0, none⟩) l.length done (by rw [HDL.out]; exact hal) (by rw [HDL.out]; exact hs))
      have HW := hid (Wn.trim (a := some ⟨w.heap.size, 0, none⟩) (cap := l.length) HDK.out (by rw [HDL.out]; exact hs))
      rw [hv] at HW
      rw [HDL.out] at HT HW
      clear hs hown hv
      go_wp2_with (go_at_call 80; (with_reducible refine HT.out.mono ?_); rintro E3 w3 ⟨rfl, rfl⟩)
      go_ret
      exact ⟨_, rfl, HW.out, hbw⟩
end Go.Proofs.YtfalbdlfopfgcaaGreatDoor

namespace Go.Proofs.YtfalbdlfopfgcaaGreatDoor
open Go.RowKit

theorem step_app_w {ops : Array Oper} {o : Oper} {a : Act} {K : Act → World → Prop} {Q : Exit → Act → World → Prop} {E : Prop} {w : World} (hgd : o.guard = none) (s x : Operand)
    (ho : o.op = .call { callee := .builtin .append, args := #[s, x], argTypes := #[83, 83] }) (base : Nat) (uv : Value) (n : Nat) (xs : List Value) (b : Nat) (u : Value) (hu1 : u.oneCell' = true) (h63 : n ≤ 10000000) (hs : a.eval s = uv) (hx : a.eval x = .slice (some ⟨b, 0, none⟩) 1 1)
    (hown : w.ownsRow base 90 1 uv n xs) (hnew : w.cell? ⟨b, 0, none⟩ = some u) (hbase : base ≤ w.heap.size)
    (h : ∀ v' w', w'.ownsRow base 90 1 v' (n + 1) (xs ++ [u]) → Below base w w' → K (a.put o.dst v') w') :
    if Region.wanted o (yielded ops a.tmps) = true then Oper.wp Tryz.prog o a w K Q else E := by
  obtain ⟨iC, hi1, hz0, hz1, hz2⟩ := info_parts info_u32
  refine step_append_lies w hgd s x _ ho base 90 iC _ 1 4 Tryz.underlying83 hi1 hz0 hz1 hz2 rfl (by decide) uv n xs hs hown ⟨b, 0, none⟩ 1 1 [u] hx rfl (fun j u' hu => ?_) (by simpa using hu1) (by decide) (by simp only [maxLen]; omega) (by omega) hbase _ rfl ?_
  · rw [Go.WideShapes.add_plain]
    match j, hu with
    | 0, hu =>
      simp at hu
      subst hu
      exact hnew
    | j + 1, hu => simp at hu
  · intro g cap w' k1 k2 k3 k4
    exact h _ w' k1 ((Below.refl base w).grown k2 hbase (fun k hk => (hown.lt k hk).1))
theorem trim_own (w : World) {base : Nat} (a : Option Addr) (c n : Nat) (l : List Nat) (hl : l.length ≤ 1000000) (h : w.ownsRow base 90 1 (.slice a n c) n (l.map wrd)) : Calls Tryz.prog 80 #[.slice a n c] w fun E w' => E = .returned (.slice a (trimN l l.length) c) ∧ w' = w := by
  obtain rfl := own_len h
  exact wtrimmed_any w a c l hl (Sl.of_owns h)
theorem or_up {c X s : Nat} (hc : c < 2 ^ s) (hX : ∃ x, X = x * 2 ^ s) (hXl : X + c < 18446744073709551616) : bits .or .u64 (c : Int) (X : Int) = ((c + X : Nat) : Int) := by
  obtain ⟨x, rfl⟩ := hX
  rw [bits_or_u64_nat c _ (by omega) (by omega), Nat.or_comm, Nat.mul_comm, ← Nat.two_pow_add_eq_or_of_lt hc, Nat.add_comm]
/-- A box of a number: its sign, its words' slice. -/
def IntB (w : World) (b : Nat) (x y : Value) : Prop := w.heap[b]? = some (.cells #[x, y] 85 (0, 0))
section
variable {w : World} {b : Nat} {x y : Value}
theorem IntB.c0 (h : IntB w b x y) : w.cell? ⟨b, 0, none⟩ = some x := by unfold IntB at h; simp [World.cell?, h]
theorem IntB.c1 (h : IntB w b x y) : w.cell? ⟨b, 1, none⟩ = some y := by unfold IntB at h; simp [World.cell?, h]
theorem IntB.fr (h : IntB w b x y) (o : Nat) : w.frozen? ⟨b, o, none⟩ = false := by unfold IntB at h; simp [World.frozen?, h]
theorem IntB.lt (h : IntB w b x y) : b < w.heap.size := (Array.getElem?_eq_some_iff.1 h).1
theorem IntB.of {w' : World} {B : Nat} (h : IntB w b x y) (hb : Below B w w') (hl : b < B) : IntB w' b x y := by
  unfold IntB at *
  rw [hb.block b hl]
  exact h
theorem IntB.below {w' : World} (h : IntB w b x y) (hb : Below w.heap.size w w') : IntB w' b x y := h.of hb h.lt
theorem IntB.drewN (h : IntB w b x y) (k : Nat) : IntB (w.drewN k) b x y := h
theorem IntB.new (w : World) (x y : Value) : IntB (w.alloc (.cells #[x, y] 85)) w.heap.size x y := by
  show (w.heap.push _)[w.heap.size]? = _
  simp
theorem IntB.alloc (h : IntB w b x y) (o : Obj) : IntB (w.alloc o) b x y := h.below ((Below.refl _ w).alloc (Nat.le_refl _) _)
theorem IntB.set (h : IntB w b x y) (u v : Value) : IntB ((w.setCell ⟨b, 0, none⟩ u).setCell ⟨b, 1, none⟩ v) b u v := by
  have h1 := heap_setCell_same w b 0 _ _ u h
  have h2 := heap_setCell_same (w.setCell ⟨b, 0, none⟩ u) b 1 _ _ v h1
  exact h2
end
theorem below_mono' {B B' : Nat} {w w' : World} (h : Below B w w') (hb : B' ≤ B) : Below B' w w' := ⟨h.os, h.tape, h.output, h.size, fun k hk => h.block k (by omega)⟩
theorem below_set2i {B g : Nat} {w w' : World} (h : Below B w w') (hg : B ≤ g) (u v : Value) : Below B w ((w'.setCell ⟨g, 0, none⟩ u).setCell ⟨g, 1, none⟩ v) := below_st (below_st h hg _ _) hg _ _
/-- A row of words stays where another block is stored into. -/
theorem Sl.setI {w : World} {v : Value} {l : List Nat} (h : Sl w v (l.map wrd)) {b : Nat} {x y : Value} (hb : IntB w b x y) (hx : ∀ d, x ≠ wrd d) (hy : ∀ d, y ≠ wrd d) (o : Nat) (u : Value) : Sl (w.setCell ⟨b, o, none⟩ u) v (l.map wrd) := by
  obtain ⟨a, cap, rfl, hr, hc, hl⟩ := h
  refine ⟨a, cap, rfl, fun hne => ?_, hc, hl⟩
  obtain ⟨b', off, rfl, hcell⟩ := hr hne
  refine ⟨b', off, rfl, fun i z hz => ?_⟩
  have h1 := hcell i z hz
  obtain ⟨d, -, rfl⟩ := List.mem_map.1 (List.mem_of_getElem? hz)
  rw [World.cell?_setCell_other _ _ _ _ (fun e => ?_)]
  · exact h1
  · have e2 := congrArg Addr.block e
    simp only at e2
    unfold IntB at hb
    subst e2
    simp only [World.cell?, hb] at h1
    match off + i, h1 with
    | 0, h1 => simp at h1; exact hx d h1
    | 1, h1 => simp at h1; exact hy d h1
    | j + 2, h1 => simp at h1
/-- A number told out of a row that the call owns: the box is stored into. -/
theorem int_fin {w w6 : World} {B b m c6 N T : Nat} {L : List Nat} {a6 : Option Addr} {x y : Value} (hb : Below w.heap.size w w6) (hb2 : w.heap.size ≤ b) (J : IntB w6 b x y) (hx : ∀ d, x ≠ wrd d) (hy : ∀ d, y ≠ wrd d) (sg : Bool)
    (hown : w6.ownsRow B 90 1 (.slice a6 m c6) m (L.map wrd)) (hk : Wok L) (hv : wv L = N) (hT : T = trimN L L.length) :
    RetI w sg N (.returned (.agg #[.bool sg, .slice a6 T c6])) ((w6.setCell ⟨b, 0, none⟩ (.bool sg)).setCell ⟨b, 1, none⟩ (.slice a6 T c6)) := by
  subst hT
  obtain rfl := own_len hown
  have h1 := Sl.setI (Sl.of_owns hown) J hx hy 0 (.bool sg)
  have J2 : IntB (w6.setCell ⟨b, 0, none⟩ (.bool sg)) b (.bool sg) y := heap_setCell_same w6 b 0 _ _ (.bool sg) J
  have h2 := Sl.setI h1 J2 (fun d e => by cases e) hy 1 (.slice a6 (trimN L L.length) c6)
  refine ⟨_, rfl, ?_, below_set2i hb hb2 _ _⟩
  rw [← hv]
  exact Wn.trim hk h2
def UpLoop (w1 : World) (B : Nat) (l : List Nat) (q s : Nat) (v bo i : Value) (w' : World) : Prop := ∃ (k c : Nat) (done : List Nat), i = .int .i64 (k : Int) ∧ bo = .int .u64 (c : Int) ∧ k ≤ l.length ∧ done.length = k ∧ Wok done ∧ c < 2 ^ s ∧ wv done + c * 4294967296 ^ k = 2 ^ s * wv (l.take k) ∧ w'.ownsRow B 90 1 v (q + k) ((List.replicate q 0 ++ done).map wrd) ∧ Below B w1 w'
set_option maxRecDepth 100000 in
set_option maxHeartbeats 4000000 in
theorem wUp_any (w : World) (sg : Bool) (va : Value) (a n : Nat) (ha : Wn w va a) (hal : (wds a).length ≤ 100000) (hn : n ≤ 100000) : Calls Tryz.prog 72 #[.agg #[.bool sg, va], .int .i64 n] w (RetI w sg (a * 2 ^ n)) := by
  have HA0 := hid ha
  obtain ⟨aa, ca, rfl, -, -, hca⟩ := Sl.cw ha
  clear ha
  obtain ⟨w1, hw1⟩ : ∃ w1, w1 = (w.alloc (.cells #[.bool sg, .slice aa (wds a).length ca] 85)).alloc (.cells #[.bool false, .slice none 0 0] 85) := ⟨_, rfl⟩
  have b1 : Below w.heap.size w w1 := by rw [hw1]; exact ((Below.refl _ w).alloc (Nat.le_refl _) _).alloc (by simp) _
  by_cases h0 : a = 0
  · subst h0
    rw [wds_0] at HA0 hw1 ⊢
    have i0 := (IntB.new w (.bool sg) (.slice aa 0 ca)).alloc (.cells #[.bool sg, .slice aa 0 ca] 85)
    have i1 := IntB.new (w.alloc (.cells #[.bool sg, .slice aa 0 ca] 85)) (.bool sg) (.slice aa 0 ca)
    rw [World.size_alloc] at i1
    go_enter Tryz.func72, Tryz.ntmps72
    go_wp2
    refine bodyPost_ret (results_int rfl _ _ (w.heap.size + 1) (.bool sg) (.slice aa 0 ca) rfl i1.c0 i1.c1) rfl ?_
    have b2 : Below w.heap.size w ((w.alloc (.cells #[.bool sg, .slice aa 0 ca] 85)).alloc (.cells #[.bool sg, .slice aa 0 ca] 85)) := ((Below.refl _ w).alloc (Nat.le_refl _) _).alloc (by simp) _
    exact ⟨_, rfl, by rw [Nat.zero_mul]; exact HA0.out.below b2, b2⟩
  · obtain ⟨l, hl⟩ : ∃ l, l = wds a := ⟨_, rfl⟩
    have HA := hid (show wv l = a by rw [hl, wv_wds])
    have HK := hid (show Wok l by rw [hl]; exact wok_wds a)
    have hl0 : 0 < l.length := by rw [hl, wds_pos h0]; simp
    rw [← hl] at hal hca hw1 ⊢
    clear hl HA0
    obtain ⟨q, hq⟩ : ∃ q, q = n / 32 := ⟨_, rfl⟩
    obtain ⟨s, hs⟩ : ∃ s, s = n % 32 := ⟨_, rfl⟩
    have g1 : (n : Int) / 32 = (q : Int) := by omega
    have g2 : (n : Int) % 32 = (s : Int) := by omega
    have g3 : ((l.length : Int) == 0) = false := by rw [beq_eq_false_iff_ne]; omega
    have hs32 : s < 32 := by rw [hs]; exact Nat.mod_lt _ (by decide)
    have hqn : q ≤ 10000 := by rw [hq]; omega
    have hnq := hid (show n = 32 * q + s by rw [hq, hs]; exact (Nat.div_add_mod n 32).symm)
    replace hq := hid hq
    replace hs := hid hs
    have hmk := made_u32 q (by omega)
    go_enter Tryz.func72, Tryz.ntmps72
    go_wp2
    have i0 := (IntB.new w (.bool sg) (.slice aa l.length ca)).alloc (.cells #[.bool false, .slice none 0 0] 85)
    have i1 := IntB.new (w.alloc (.cells #[.bool sg, .slice aa l.length ca] 85)) (.bool false) (.slice none 0 0)
    have z1 : w1.heap.size = w.heap.size + 1 + 1 := by rw [hw1]; simp
    rw [World.size_alloc] at i1
    rw [← hw1] at i0 i1 ⊢
    have hown : (w1.alloc (.cells (Array.replicate q (Value.int .u32 0)) 90)).ownsRow (w.heap.size + 1 + 1) 90 1 (.slice (some ⟨w.heap.size + 1 + 1, 0, none⟩) q q) q ((List.replicate q 0 ++ []).map wrd) := by
      refine ⟨by simp, .inr ⟨w.heap.size + 1 + 1, q, Array.replicate q (Value.int .u32 0), rfl, Nat.le_refl _, ?_, Nat.le_refl _, by simp only [maxLen]; omega, by simp, ?_⟩⟩
      · rw [← z1]
        show (w1.heap.push _)[w1.heap.size]? = _
        simp
      · simp [wrd]
    have bw : Below (w.heap.size + 1 + 1) w1 (w1.alloc (.cells (Array.replicate q (Value.int .u32 0)) 90)) := (Below.refl _ _).alloc (by omega) _
    have HO0 := hid hown
    have HB0 := hid bw
    obtain ⟨w2, hw2⟩ : ∃ w2, w2 = w1.alloc (.cells (Array.replicate q (Value.int .u32 0)) 90) := ⟨_, rfl⟩
    rw [← hw2] at HO0 HB0 ⊢
    have I0 := hid i0
    have I1 := hid i1
    clear hw1 hw2 hmk hown bw i0 i1
    have hz1 := hid z1
    clear z1
    go_loopw [5, 6, 7] (fun v bo i w' => UpLoop w1 (w.heap.size + 1 + 1) l q s v bo i w') (fun _ _ i _ => l.length + 1 - (intOf i).toNat)
    case atStart => exact ⟨0, 0, [], rfl, rfl, Nat.zero_le _, rfl, fun d hd => absurd hd (List.not_mem_nil), Nat.two_pow_pos _, by simp [wv], HO0.out, HB0.out⟩
    case round =>
      obtain ⟨k, c, done, rfl, rfl, hk, hdl, hdk, hc, heq, hown, hbw⟩ := hrel
      have HEQ := hid heq
      have HDK := hid hdk
      have HDL := hid hdl
      clear heq hdk hdl
      have hp32 : 2 ^ s ≤ 2147483648 := Nat.pow_le_pow_right (show 0 < 2 by decide) (show s ≤ 31 by omega)
      have j0 := I0.out.of hbw (by omega)
      have hBs : w.heap.size + 1 + 1 ≤ wr.heap.size := by have := hbw.size; rw [hz1.out] at this; exact this
      have x0 := j0.c0
      have x1 := j0.c1
      by_cases hkl : k < l.length
      · obtain ⟨x, hx⟩ : ∃ x, l[k]? = some x := ⟨l[k]'hkl, List.getElem?_eq_getElem hkl⟩
        obtain ⟨ba, oa, rfl, hcell⟩ := hca k x hx
        have hba := World.block_lt_of_cell? _ _ (hcell k x hx)
        have c0 := ((b1.trans (below_mono' hbw (by omega))).cell (p := ⟨ba, oa + k, none⟩) hba).trans (hcell k x hx)
        have hxl := wok_get HK.out hx
        have HX := hid hx
        obtain ⟨X, hX⟩ : ∃ X, X = x * 2 ^ s := ⟨_, rfl⟩
        have hXl : X + c < 18446744073709551616 := by
          have h1 : x * 2 ^ s ≤ 4294967295 * 2147483648 := Nat.mul_le_mul (by omega) hp32
          omega
        have g4 : (x : Int) * 2 ^ s = (X : Int) := by rw [hX]; push_cast; rfl
        have g5 : IntKind.u64.wrap (X : Int) = (X : Int) := by rw [IntKind.wrap_u64]; omega
        have g6 : bits .or .u64 (c : Int) (X : Int) = ((c + X : Nat) : Int) := or_up hc ⟨x, hX⟩ hXl
        obtain ⟨C, hC⟩ : ∃ C, C = c + X := ⟨_, rfl⟩
        rw [← hC] at g6
        obtain ⟨d, hd⟩ : ∃ d, d = C % 4294967296 := ⟨_, rfl⟩
        have g7 : IntKind.u32.wrap (C : Int) = (d : Int) := by rw [IntKind.wrap_u32]; omega
        obtain ⟨e, he⟩ : ∃ e, e = C / 4294967296 := ⟨_, rfl⟩
        have g8 : (C : Int) / 4294967296 = (e : Int) := by omega
        replace hX := hid hX
        replace hC := hid hC
        replace hd := hid hd
        replace he := hid he
        clear hx hcell hca
        go_wp2_with (at_builtin; go_loud (refine wpList_app1 rfl _ _ 83 rfl (w.heap.size + 1 + 1) 90 _ 4 Tryz.underlying83 info_u32 rfl _ (q + k) _ (.int .u32 d) rfl rfl rfl (by exact hown) (by first | omega | (simp; omega)) (by first | omega | (simp; omega)) (by first | omega | (simp; omega)) ?_); intro v' w' h1 h2 h3)
        obtain ⟨q1, q2⟩ := up_step HDL.out hc HEQ.out HK.out HX.out
        rw [← hX.out, ← hC.out, ← hd.out, ← he.out] at q1
        rw [← hX.out, ← hC.out, ← he.out] at q2
        have hdl2 : d < 4294967296 := by rw [hd.out]; exact Nat.mod_lt _ (by decide)
        have hb2 := hbw.trans h2
        go_roundw
        case rel => exact ⟨k + 1, e, done ++ [d], by go_num, rfl, hkl, by simp [HDL.out], wok_app HDK.out (wok_one hdl2), q2, q1, by rw [← List.append_assoc, List.map_append]; exact h1, hb2⟩
        case measure => simp [intOf]; omega
      · obtain rfl : k = l.length := by omega
        have g6 : ¬ (l.length : Int) < (l.length : Int) := by omega
        have j1 := I1.out.of hbw (by omega)
        have y0 := j1.c0
        have y1 := j1.c1
        have f0 := j1.fr 0
        have f1 := j1.fr 1
        have g7 : IntKind.u32.wrap (c : Int) = (c : Int) := by rw [IntKind.wrap_u32]; omega
        have HU := hid (up_end (q := q) HDL.out HEQ.out hnq.out)
        clear hca
        go_wp2
        have hX : Below wr.heap.size wr (wr.alloc (.cells #[.int .u32 c] 90)).drew := ((Below.refl _ wr).alloc (Nat.le_refl _) _).trans ⟨rfl, rfl, rfl, Nat.le_refl _, fun _ _ => rfl⟩
        obtain ⟨va, vc, rfl⟩ := own_sl hown
        have x2 := (hX.cell (p := ⟨w.heap.size, 0, none⟩) (World.block_lt_of_cell? _ _ x0)).trans x0
        have hL : (List.replicate q 0 ++ done).map wrd ++ [.int .u32 c] = (List.replicate q 0 ++ done ++ [c]).map wrd := (List.map_append (l₁ := List.replicate q 0 ++ done) (l₂ := [c])).symm
        obtain ⟨T, hT⟩ : ∃ T, T = trimN (List.replicate q 0 ++ done ++ [c]) (List.replicate q 0 ++ done ++ [c]).length := ⟨_, rfl⟩
        have HTr := hid fun (w6 : World) (a6 : Option Addr) (c6 : Nat) (h6 : w6.ownsRow (w.heap.size + 1 + 1) 90 1 (.slice a6 (q + l.length + 1) c6) (q + l.length + 1) ((List.replicate q 0 ++ done).map wrd ++ [.int .u32 c])) => trim_own w6 a6 c6 _ (List.replicate q 0 ++ done ++ [c]) (by simp [HDL.out]; omega) (by rw [← hL]; exact h6)
        rw [← hT] at HTr
        replace hT := hid hT
        replace hL := hid hL
        have HOW := hid hown
        clear x1 hown I0 I1 j0 HO0
        go_region_law (first
          | (apply step_app_w rfl _ _ rfl (w.heap.size + 1 + 1) _ (q + l.length) _ wr.heap.size (.int .u32 c) rfl (by omega); (· rfl); (· rfl); (· exact owns_below HOW.out hX); (· simp); (· have := hX.size; omega); intro v6 w6 hown6 hb6; obtain ⟨a6, c6, rfl⟩ := own_sl hown6; have J6 := (j1.of hX (by omega)).of hb6 (by omega); have e0 := J6.c0; have e1 := J6.c1; have e2 := J6.fr 0; have e3 := J6.fr 1; have x6 := (hb6.cell (p := ⟨w.heap.size, 0, none⟩) (show w.heap.size < _ by omega)).trans x2)
          | (go_simp; go_at_call 80; ((with_reducible refine (HTr.out _ _ _ hown6).mono ?_); rintro E3 w3 ⟨rfl, rfl⟩)))
        all_goals
          have hB6 : Below w.heap.size w w3 := (b1.trans (below_mono' hbw (by omega))).trans ((below_mono' hX (by omega)).trans (below_mono' hb6 (by omega)))
          have hfin := int_fin (N := a * 2 ^ n) hB6 (show w.heap.size ≤ w.heap.size + 1 by omega) J6 (fun d e => by cases e) (fun d e => by cases e) sg (by rw [← hL.out]; exact hown6) (wok_app (wok_app (wok_rep q) HDK.out) (wok_one (show c < 4294967296 by omega))) (by rw [HU.out, HA.out]) hT.out
          have J7 := J6.set (.bool sg) (.slice a6 T c6)
          clear e0 e1 e2 e3 x0 x2 x6 y0 y1 f0 f1 hown6 J6 HTr HOW
          go_wp2
          refine bodyPost_ret (results_int rfl _ _ (w.heap.size + 1) (.bool sg) (.slice a6 T c6) rfl J7.c0 J7.c1) rfl ?_
          exact hfin
end Go.Proofs.YtfalbdlfopfgcaaGreatDoor

namespace Go.Proofs.YtfalbdlfopfgcaaGreatDoor
open Go.RowKit

def MulO (w1 : World) (B : Nat) (A Bl : List Nat) (v : Value) (i : Value) (w' : World) : Prop := ∃ (k : Nat) (O : List Nat), i = .int .i64 (k : Int) ∧ k ≤ A.length ∧ Wok O ∧ wv O = wv (A.take k) * wv Bl ∧ (∀ j, k + Bl.length ≤ j → j < A.length + Bl.length → O[j]? = some 0) ∧ w'.ownsRow B 90 1 v (A.length + Bl.length) (O.map wrd) ∧ Below B w1 w'
def MulI (w1 : World) (B : Nat) (A Bl : List Nat) (v : Value) (O0 : List Nat) (i x : Nat) (bo kv : Value) (w' : World) : Prop := ∃ (k c : Nat) (O : List Nat), kv = .int .i64 (k : Int) ∧ bo = .int .u64 (c : Int) ∧ k ≤ Bl.length ∧ c < 4294967296 ∧ Wok O ∧ wv O + c * 4294967296 ^ (i + k) = wv O0 + x * wv (Bl.take k) * 4294967296 ^ i ∧ (∀ j, i + Bl.length ≤ j → j < A.length + Bl.length → O[j]? = some 0) ∧ w'.ownsRow B 90 1 v (A.length + Bl.length) (O.map wrd) ∧ Below B w1 w'
set_option maxRecDepth 100000 in
set_option maxHeartbeats 4000000 in
theorem wMul_any (w : World) (va vb : Value) (a b : Nat) (ha : Wn w va a) (hb : Wn w vb b) (hal : (wds a).length ≤ 100000) (hbl : (wds b).length ≤ 100000) : Calls Tryz.prog 79 #[.agg #[.bool false, va], .agg #[.bool false, vb]] w (RetI w false (a * b)) := by
  obtain ⟨aa, ca, rfl, -, -, hca⟩ := Sl.cw ha
  obtain ⟨ab, cb, rfl, -, -, hcb⟩ := Sl.cw hb
  clear ha hb
  obtain ⟨A, hA⟩ : ∃ l, l = wds a := ⟨_, rfl⟩
  have HA := hid (show wv A = a by rw [hA, wv_wds])
  have HKA := hid (show Wok A by rw [hA]; exact wok_wds a)
  obtain ⟨Bl, hBl⟩ : ∃ l, l = wds b := ⟨_, rfl⟩
  have HB := hid (show wv Bl = b by rw [hBl, wv_wds])
  have HKB := hid (show Wok Bl by rw [hBl]; exact wok_wds b)
  rw [← hA] at hal hca ⊢
  rw [← hBl] at hbl hcb ⊢
  clear hA hBl
  obtain ⟨w1, hw1⟩ : ∃ w1, w1 = ((w.alloc (.cells #[.bool false, .slice aa A.length ca] 85)).alloc (.cells #[.bool false, .slice ab Bl.length cb] 85)).alloc (.cells #[.bool false, .slice none 0 0] 85) := ⟨_, rfl⟩
  have b1 : Below w.heap.size w w1 := by rw [hw1]; exact (((Below.refl _ w).alloc (Nat.le_refl _) _).alloc (by simp) _).alloc (by simp; omega) _
  have z1 : w1.heap.size = w.heap.size + 1 + 1 + 1 := by rw [hw1]; simp
  have i0 : IntB w1 w.heap.size (.bool false) (.slice aa A.length ca) := by rw [hw1]; exact ((IntB.new w _ _).alloc _).alloc _
  have i1 : IntB w1 (w.heap.size + 1) (.bool false) (.slice ab Bl.length cb) := by
    rw [hw1]
    have := IntB.new (w.alloc (.cells #[.bool false, .slice aa A.length ca] 85)) (.bool false) (.slice ab Bl.length cb)
    rw [World.size_alloc] at this
    exact this.alloc _
  have i2 : IntB w1 (w.heap.size + 1 + 1) (.bool false) (.slice none 0 0) := by
    rw [hw1]
    have := IntB.new ((w.alloc (.cells #[.bool false, .slice aa A.length ca] 85)).alloc (.cells #[.bool false, .slice ab Bl.length cb] 85)) (.bool false) (.slice none 0 0)
    rw [World.size_alloc, World.size_alloc] at this
    exact this
  obtain ⟨n, hn⟩ : ∃ n, n = A.length + Bl.length := ⟨_, rfl⟩
  have gn : (A.length : Int) + (Bl.length : Int) = (n : Int) := by omega
  have hn2 : n ≤ 200000 := by omega
  have hmk := made_u32 n (by omega)
  have hown : (w1.alloc (.cells (Array.replicate n (Value.int .u32 0)) 90)).ownsRow (w.heap.size + 1 + 1 + 1) 90 1 (.slice (some ⟨w.heap.size + 1 + 1 + 1, 0, none⟩) n n) n ((List.replicate n 0).map wrd) := by
    refine ⟨by simp, .inr ⟨w.heap.size + 1 + 1 + 1, n, Array.replicate n (Value.int .u32 0), rfl, Nat.le_refl _, ?_, Nat.le_refl _, by simp only [maxLen]; omega, by simp, ?_⟩⟩
    · rw [← z1]
      show (w1.heap.push _)[w1.heap.size]? = _
      simp
    · simp [wrd]
  have bw : Below (w.heap.size + 1 + 1 + 1) w1 (w1.alloc (.cells (Array.replicate n (Value.int .u32 0)) 90)) := (Below.refl _ _).alloc (by omega) _
  have HN := hid hn
  clear hn
  go_enter Tryz.func79, Tryz.ntmps79
  go_wp2
  rw [← hw1]
  have HO0 := hid hown
  have HB0 := hid bw
  obtain ⟨w2, hw2⟩ : ∃ w2, w2 = w1.alloc (.cells (Array.replicate n (Value.int .u32 0)) 90) := ⟨_, rfl⟩
  rw [← hw2] at HO0 HB0 ⊢
  have I0 := hid i0
  have I1 := hid i1
  have I2 := hid i2
  have hz1 := hid z1
  clear hw1 hw2 hmk hown bw i0 i1 i2 z1
  go_loopw [6] (fun i w' => MulO w1 (w.heap.size + 1 + 1 + 1) A Bl (.slice (some ⟨w.heap.size + 1 + 1 + 1, 0, none⟩) n n) i w') (fun i _ => A.length + 1 - (intOf i).toNat)
  case atStart => exact ⟨0, List.replicate n 0, rfl, Nat.zero_le _, wok_rep n, by rw [wv_replicate]; simp [wv], fun j _ hj => by rw [List.getElem?_replicate, if_pos (by rw [HN.out]; exact hj)], by rw [← HN.out]; exact HO0.out, HB0.out⟩
  case round =>
    obtain ⟨i, O0, rfl, hi, hok, hval, hzer, hown, hbw⟩ := hrel
    have hBs : w.heap.size + 1 + 1 + 1 ≤ wr.heap.size := by have := hbw.size; rw [hz1.out] at this; exact this
    have j0 := I0.out.of hbw (by omega)
    have j1 := I1.out.of hbw (by omega)
    have x1 := j0.c1
    have y1 := j1.c1
    by_cases hil : i < A.length
    · obtain ⟨x, hx⟩ : ∃ x, A[i]? = some x := ⟨A[i]'hil, List.getElem?_eq_getElem hil⟩
      obtain ⟨ba, oa, rfl, hcell⟩ := hca i x hx
      have hba := World.block_lt_of_cell? _ _ (hcell i x hx)
      have hxl := wok_get HKA.out hx
      have HX := hid hx
      have HCA := hid (hcell i x hx)
      have HV := hid hval
      have HZ := hid hzer
      have HO := hid hown
      have HB2 := hid hbw
      have HOK := hid hok
      clear hx hcell hca hval hzer hown hbw hok
      go_wp2
      go_loopw [7, 8] (fun bo kv w' => MulI w1 (w.heap.size + 1 + 1 + 1) A Bl (.slice (some ⟨w.heap.size + 1 + 1 + 1, 0, none⟩) n n) O0 i x bo kv w') (fun _ k _ => Bl.length + 1 - (intOf k).toNat)
      case atStart => exact ⟨0, 0, O0, rfl, rfl, Nat.zero_le _, by decide, HOK.out, by simp [wv], HZ.out, HO.out, HB2.out⟩
      case round =>
        clear x1 y1 j0 j1
        obtain ⟨k, c, O, rfl, rfl, hk, hc, hok, heq, hzer, hown, hbw⟩ := hrel
        have j0 := I0.out.of hbw (by omega)
        have j1 := I1.out.of hbw (by omega)
        have x1 := j0.c1
        have y1 := j1.c1
        have hlen := own_len hown
        by_cases hkl : k < Bl.length
        · obtain ⟨y, hy⟩ : ∃ y, Bl[k]? = some y := ⟨Bl[k]'hkl, List.getElem?_eq_getElem hkl⟩
          obtain ⟨bb, ob, rfl, hcellb⟩ := hcb k y hy
          have hbb := World.block_lt_of_cell? _ _ (hcellb k y hy)
          have hyl := wok_get HKB.out hy
          obtain ⟨z, hz⟩ : ∃ z, O[i + k]? = some z := ⟨O[i + k]'(by omega), List.getElem?_eq_getElem (by omega)⟩
          have hzl := wok_get hok hz
          obtain ⟨g, cap, hv, hg, hgl, c3, f3⟩ := own_w hown hz
          have hg2 : w.heap.size + 1 + 1 + 1 = g := by simp at hv; exact hv.1
          subst hg2
          clear hv
          have c1 := ((b1.trans (below_mono' hbw (by omega))).cell (p := ⟨ba, oa + i, none⟩) hba).trans HCA.out
          have c2 := ((b1.trans (below_mono' hbw (by omega))).cell (p := ⟨bb, ob + k, none⟩) hbb).trans (hcellb k y hy)
          obtain ⟨q1, q2, q3, q4⟩ := ml_step hc hxl hz hzl HKB.out hy heq
          have HQ := hid q1
          have HY := hid hy
          have HZ1 := hid hz
          have HOO := hid hown
          have HOK1 := hid hok
          have HZZ := hid hzer
          have HBW := hid hbw
          clear q1 hy hz hown hok hzer hcellb heq hcb
          obtain ⟨p, hp⟩ : ∃ p, p = i + k := ⟨_, rfl⟩
          rw [← hp] at c3 f3
          obtain ⟨P, hP⟩ : ∃ P, P = x * y := ⟨_, rfl⟩
          rw [← hP] at q2 q3 q4
          have m1 : (x : Int) * (y : Int) = (P : Int) := by rw [hP]; push_cast; rfl
          have m2 : IntKind.u64.wrap (P : Int) = (P : Int) := by rw [IntKind.wrap_u64]; omega
          obtain ⟨S1, hS1⟩ : ∃ S1, S1 = c + P := ⟨_, rfl⟩
          rw [← hS1] at q2 q3
          have m3 : (c : Int) + (P : Int) = (S1 : Int) := by omega
          have m4 : IntKind.u64.wrap (S1 : Int) = (S1 : Int) := by rw [IntKind.wrap_u64]; omega
          obtain ⟨S, hS⟩ : ∃ S, S = S1 + z := ⟨_, rfl⟩
          rw [← hS] at q2 q3
          have m5 : (S1 : Int) + (z : Int) = (S : Int) := by omega
          have m6 : IntKind.u64.wrap (S : Int) = (S : Int) := by rw [IntKind.wrap_u64]; omega
          have m7 : (i : Int) + (k : Int) = (p : Int) := by omega
          have m8 : IntKind.i64.wrap (p : Int) = (p : Int) := IntWalk.i64_in _ (by omega)
          obtain ⟨d, hd⟩ : ∃ d, d = S % 4294967296 := ⟨_, rfl⟩
          have g7 : IntKind.u32.wrap (S : Int) = (d : Int) := by rw [IntKind.wrap_u32]; omega
          obtain ⟨e, he⟩ : ∃ e, e = S / 4294967296 := ⟨_, rfl⟩
          have g8 : (S : Int) / 4294967296 = (e : Int) := by omega
          have t1 : (i : Int) < (A.length : Int) := by omega
          have t2 : (k : Int) < (Bl.length : Int) := by omega
          have t3 : (p : Int) < (n : Int) := by have := HN.out; omega
          have t4 : p < n := by omega
          replace hp := hid hp
          replace hP := hid hP
          replace hS1 := hid hS1
          replace hS := hid hS
          replace hd := hid hd
          replace he := hid he
          go_wp2
          go_quiet (fail)
          clear c1 c2 x1 y1 m1 m2 m3 m4 m5 m6 t1 t2
          go_wp2
          have hoo := HOO.out
          rw [← HN.out] at hoo
          have ho2 := (hoo.stored p (wrd d)).1
          rw [← List.map_set] at ho2
          have hdl : d < 4294967296 := by rw [hd.out]; exact Nat.mod_lt _ (by decide)
          have hel : e < 4294967296 := by rw [he.out]; exact q2
          have hS' : c + x * y + z = S := by rw [← hP.out, ← hS1.out, ← hS.out]
          have hq := HQ.out
          rw [hS', ← hd.out, ← he.out, ← hp.out] at hq
          go_roundw
          case rel => exact ⟨k + 1, e, O.set p d, by go_num, rfl, hkl, hel, wok_set HOK1.out p hdl, hq, (fun j h1 h2 => by rw [List.getElem?_set_ne (by have := hp.out; omega)]; exact HZZ.out j h1 h2), by rw [← HN.out]; exact owns_drewN ho2 nq, below_st (below_drewN' HBW.out nq) hg p _⟩
          case measure => simp [intOf]; omega
        · obtain rfl : k = Bl.length := by omega
          have hzc := hzer (i + Bl.length) (Nat.le_refl _) (by omega)
          obtain ⟨g, cap, hv, hg, hgl, c3, f3⟩ := own_w hown hzc
          have hg2 : w.heap.size + 1 + 1 + 1 = g := by simp at hv; exact hv.1
          subst hg2
          clear hv
          have hml := hid (ml_end (A := A) HX.out HV.out hzc heq)
          have HOO := hid hown
          have HOK1 := hid hok
          have HZZ := hid hzer
          have HBW := hid hbw
          clear hown hok hzer heq hzc
          obtain ⟨p, hp⟩ : ∃ p, p = i + Bl.length := ⟨_, rfl⟩
          rw [← hp] at c3 f3 hml
          have m7 : (i : Int) + (Bl.length : Int) = (p : Int) := by omega
          have g7 : IntKind.u32.wrap (c : Int) = (c : Int) := by rw [IntKind.wrap_u32]; omega
          have t4 : p < n := by have := HN.out; omega
          replace hp := hid hp
          have hoo := HOO.out
          rw [← HN.out] at hoo
          have ho2 := (hoo.stored p (wrd c)).1
          clear hoo
          rw [← List.map_set] at ho2
          have HO2 := hid ho2
          clear ho2
          go_wp2
          go_roundw
          case rel => exact ⟨i + 1, O.set p c, by go_num, hil, wok_set HOK1.out p hc, hml.out, (fun j h1 h2 => by rw [List.getElem?_set_ne (by have := hp.out; omega)]; exact HZZ.out j (by omega) h2), by rw [← HN.out]; exact HO2.out, below_st HBW.out hg p _⟩
          case measure => simp [intOf]; omega
    · obtain rfl : i = A.length := by omega
      have j2 := I2.out.of hbw (by omega)
      have e0 := j0.c0
      have e1 := j1.c0
      have d0 := j2.c0
      have d1 := j2.c1
      have d2 := j2.fr 0
      have d3 := j2.fr 1
      rw [List.take_length] at hval
      have hlen := own_len hown
      rw [← HN.out] at hown hlen
      obtain ⟨T, hT⟩ : ∃ T, T = trimN O0 O0.length := ⟨_, rfl⟩
      have HTr := hid (trim_own wr _ _ n O0 (by omega) hown)
      rw [← hT] at HTr
      replace hT := hid hT
      have hfin := hid (int_fin (N := a * b) (b1.trans (below_mono' hbw (by omega))) (show w.heap.size ≤ w.heap.size + 1 + 1 by omega) j2 (fun d e => by cases e) (fun d e => by cases e) false hown hok (by rw [hval, HA.out, HB.out]) hT.out)
      have J7 := j2.set (.bool false) (.slice (some ⟨w.heap.size + 1 + 1 + 1, 0, none⟩) T n)
      clear hown hval hzer hca hcb HO0 j2
      by_cases hT0 : 0 < T
      · go_wp2_with (go_at_call 80; (with_reducible refine HTr.out.mono ?_); rintro E3 w3 ⟨rfl, rfl⟩)
        refine bodyPost_ret (results_int rfl _ _ (w.heap.size + 1 + 1) (.bool false) (.slice (some ⟨w.heap.size + 1 + 1 + 1, 0, none⟩) T n) rfl J7.c0 J7.c1) rfl ?_
        exact hfin.out
      · go_wp2_with (go_at_call 80; (with_reducible refine HTr.out.mono ?_); rintro E3 w3 ⟨rfl, rfl⟩)
        refine bodyPost_ret (results_int rfl _ _ (w.heap.size + 1 + 1) (.bool false) (.slice (some ⟨w.heap.size + 1 + 1 + 1, 0, none⟩) T n) rfl J7.c0 J7.c1) rfl ?_
        exact hfin.out
end Go.Proofs.YtfalbdlfopfgcaaGreatDoor
