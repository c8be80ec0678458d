/- Sums and products of polynomials of whole parts keep their word: the walk. Conditions: the rows' lengths. -/
import Derived.Test.YtjpimgdmlieinaaDoorRing
import Derived.Test.YtjpimgdmlieinaaDoorNmB
import Derived.Deep.CutRange
namespace Go.Proofs.YtjpimgdmlieinaaDoor
open Go.RowKit

theorem Dr.bl {w w' : World} (h : Dr w w') : Below w.heap.size w w' := by
  obtain ⟨n, rfl⟩ := h
  exact below_drewN' (Below.refl _ _) _
theorem cell_b {w w' : World} {p : Addr} {v : Value} (h : w.cell? p = some v) (hb : Below w.heap.size w w') : w'.cell? p = some v := by
  rw [hb.cell (World.block_lt_of_cell? _ _ h)]
  exact h
theorem blk_cell (w : World) {cs : Array Value} {e j : Nat} {v : Value} (h : cs[j]? = some v) : (w.alloc (.cells cs e)).cell? ⟨w.heap.size, j, none⟩ = some v := by
  rw [World.cell?_alloc_new]
  exact h
/-- The number that is asked. -/
def atG2 (c d : Int) : G := (c.tmod 5, d.tmod 5)
theorem atG2_b (c d : Int) : n1 (atG2 c d) ≤ 8 := by
  have h1 := tmod_b c 5 (by omega)
  have h2 := tmod_b d 5 (by omega)
  unfold n1 atG2
  simp only
  omega
theorem atG2_z (c d : Int) : Gz (cv (ofInt (c.tmod 5)) (ofInt (d.tmod 5))) (atG2 c d) := ⟨(tmod_w c (by omega)).1, (tmod_w d (by omega)).1⟩

set_option maxRecDepth 100000 in
set_option maxHeartbeats 4000000 in
theorem ring_walk (xs ys : List G) (c d : Int) (vx vy : Value) (w : World) (hx : SmAt w vx xs) (hy : SmAt w vy ys) (hn : xs.length ≤ 140737488355328) (hm : ys.length ≤ 140737488355328) :
    Calls Tryd.prog 6 #[vx, vy, .agg #[.int .i8 c, .int .i8 d]] w fun e w' => e = .returned (.bool true) ∧ Below w.heap.size w w' := by
  have HP := hid fun w h => r_poly xs vx w h hn
  have HQ := hid fun w h => r_poly ys vy w h hm
  obtain ⟨f, hf⟩ : ∃ f, f = smG xs := ⟨_, rfl⟩
  obtain ⟨g, hg⟩ : ∃ g, g = smG ys := ⟨_, rfl⟩
  rw [← hf] at HP
  rw [← hg] at HQ
  have bf : Bp f 16 := by rw [hf]; exact bpS xs
  have bg : Bp g 16 := by rw [hg]; exact bpS ys
  clear hf hg
  obtain ⟨z, hz⟩ : ∃ z, z = atG2 c d := ⟨_, rfl⟩
  have hzb : n1 z ≤ 8 := by rw [hz]; exact atG2_b c d
  have HZ := hid hz
  have t1 := tmod_i8 c (n := 5) (by omega)
  have t2 := tmod_i8 d (n := 5) (by omega)
  clear hz
  go_enter Tryd.func6, Tryd.ntmps6
  go_upto_region 3 with (go_at_call 10; refine (lives_any _).mono ?_; rintro E w1 ⟨rfl, hb⟩)
  have hb0 : Below w.heap.size w w1 := ((Below.refl _ w).alloc (Nat.le_refl _) _).trans (hb.mono (by simp))
  have hbx : w1.cell? ⟨w.heap.size, 0, none⟩ = some (.int .i8 c) := cell_b (blk_cell w rfl) hb
  have hby : w1.cell? ⟨w.heap.size, 1, none⟩ = some (.int .i8 d) := cell_b (blk_cell w rfl) hb
  replace hx := hx.below hb0
  replace hy := hy.below hb0
  replace hb := hb0
  clear hb0
  go_cut [7, 8] from 29 to 32 (fun p q wx => Pv f 6 wx p ∧ Pv g 6 wx q ∧ Below w1.heap.size w1 wx)
  case first =>
    go_wp2_with (go_at_call 39; first | ((with_reducible refine (HP.out _ hx).mono ?_); rintro E w2 ⟨u1, rfl, k1, b1⟩; replace hy := hy.below b1; clear hx) | ((with_reducible refine (HQ.out _ hy).mono ?_); rintro E w3 ⟨u2, rfl, k2, b2⟩; clear hy))
    go_meet
    exact ⟨k1.below b2, k2, bl2 b1 b2⟩
  clear hx hy HP HQ
  obtain ⟨kp, kq, hbn⟩ := hcut
  replace hbx := cell_b hbx hbn
  replace hby := cell_b hby hbn
  replace hb := hb.trans (hbn.mono hb.size)
  clear hbn
  go_upto_region 4 with (fail)
  go_cut [9] from 33 to 41 (fun v wx => Nv z v ∧ wx = wc)
  case first =>
    go_wp2
    go_meet
    exact ⟨⟨_, _, rfl, by rw [HZ.out]; exact atG2_z c d⟩, rfl⟩
  obtain ⟨⟨zx, zy, rfl, kz⟩, rfl⟩ := hcut
  clear hbx hby t1 t2 HZ
  have hcm : cvl g f = cvl f g := funext fun m => cvl_comm m g f
  have HCM := hid hcm
  clear hcm
  have bs : Bp (fun i => gadd (f i) (g i)) 32 := bpP bf bg
  have bm : Bp (cvl f g) 1536 := kp.bpT kq bf bg (by omega) (by omega)
  have bdf : Bp (dv f) 96 := kp.bpD bf (by omega) (by omega)
  have bdg : Bp (dv g) 96 := kq.bpD bg (by omega) (by omega)
  have eA : ev z 6 (fun i => gadd (f i) (g i)) = gadd (ev z 6 f) (ev z 6 g) := ev_add z 6 f g
  have eM : ev z 12 (cvl f g) = gmul (ev z 6 f) (ev z 6 g) := ev_cvl z g 6 kq.supp 6 f kp.supp
  have ef : n1 (ev z 6 f) ≤ 9 ^ 6 * 16 := ev_b kp bf hzb (by omega) (by omega) ⟨_, kz⟩
  have eg : n1 (ev z 6 g) ≤ 9 ^ 6 * 16 := ev_b kq bg hzb (by omega) (by omega) ⟨_, kz⟩
  have hmul : n1 (ev z 6 f) * n1 (ev z 6 g) ≤ 9007199254740992 := Nat.le_trans (Nat.mul_le_mul ef eg) (by omega)
  have RA := hid fun (x y x' y' x'' y'' : Nat) (h1 : Gz (cv x y) (ev z 6 f)) (h2 : Gz (cv x' y') (ev z 6 g)) (h3 : Gz (cv x'' y'') (ev z 6 fun i => gadd (f i) (g i))) => gz_eq h3 (by rw [eA]; exact gzv_add h1 h2 (by omega))
  have RM := hid fun (x y x' y' x'' y'' : Nat) (h1 : Gz (cv x y) (ev z 6 f)) (h2 : Gz (cv x' y') (ev z 6 g)) (h3 : Gz (cv x'' y'') (ev z 12 (cvl f g))) => gz_eq h3 (by rw [eM]; exact gzv_mul h1 h2 hmul)
  have eD : dv (cvl f g) = fun i => gadd (cvl (dv f) g i) (cvl f (dv g) i) := funext fun m => dv_cvl m f g
  have HD := hid eD
  clear eA eM ef eg hmul eD
  go_upto_region 5 with (fail)
  go_cut [10, 11] from 42 to 47 (fun v e wx => Pv (fun i => gadd (f i) (g i)) 6 wx v ∧ e = .int .i64 0 ∧ Below wc.heap.size wc wx)
  case first =>
    go_wp2_with (go_at_call 29; refine (r_plus kp kq bf bg (by omega) (by omega)).mono ?_; rintro E w2 ⟨u, rfl, k, b⟩)
    go_meet
    exact ⟨k, rfl, b⟩
  obtain ⟨ks, rfl, hbn⟩ := hcut
  replace kp := kp.below hbn
  replace kq := kq.below hbn
  replace hb := hb.trans (hbn.mono hb.size)
  clear hbn
  go_upto_region 6 with (fail)
  go_cut [12, 13] from 48 to 53 (fun v e wx => Pv (cvl f g) 12 wx v ∧ e = .int .i64 0 ∧ Below wc.heap.size wc wx)
  case first =>
    go_wp2_with (go_at_call 31; refine (r_times kp kq bf bg (by omega) (by omega)).mono ?_; rintro E w2 ⟨u, rfl, k, b⟩)
    go_meet
    exact ⟨k, rfl, b⟩
  obtain ⟨km, rfl, hbn⟩ := hcut
  replace kp := kp.below hbn
  replace kq := kq.below hbn
  replace ks := ks.below hbn
  replace hb := hb.trans (hbn.mono hb.size)
  clear hbn
  go_upto_region 7 with (fail)
  go_cut [14, 15] from 54 to 59 (fun v e wx => Pv (cvl g f) 12 wx v ∧ e = .int .i64 0 ∧ Below wc.heap.size wc wx)
  case first =>
    go_wp2_with (go_at_call 31; refine (r_times kq kp bg bf (by omega) (by omega)).mono ?_; rintro E w2 ⟨u, rfl, k, b⟩)
    go_meet
    exact ⟨k, rfl, b⟩
  obtain ⟨kn, rfl, hbn⟩ := hcut
  replace kp := kp.below hbn
  replace kq := kq.below hbn
  replace ks := ks.below hbn
  replace km := km.below hbn
  replace hb := hb.trans (hbn.mono hb.size)
  clear hbn
  rw [HCM.out] at kn
  go_upto_region 10 with (go_at_call 40; refine (r_both km kn (by omega) (by omega)).mono ?_; rintro E w2 ⟨rfl, nb, rfl⟩)
  clear kn HCM
  replace kp := kp.below (w' := wc.drewN nb) (below_drewN' (Below.refl _ _) nb)
  replace kq := kq.below (w' := wc.drewN nb) (below_drewN' (Below.refl _ _) nb)
  replace ks := ks.below (w' := wc.drewN nb) (below_drewN' (Below.refl _ _) nb)
  replace km := km.below (w' := wc.drewN nb) (below_drewN' (Below.refl _ _) nb)
  replace hb := below_drewN' hb nb
  obtain ⟨wq, hwq⟩ : ∃ wq, wq = wc.drewN nb := ⟨_, rfl⟩
  rw [← hwq] at kp kq ks km hb ⊢
  clear hwq
  go_cut [16, 11] from 70 to 75 (fun v e wx => Nv (ev z 6 f) v ∧ e = .int .i64 0 ∧ Below wq.heap.size wq wx)
  case first =>
    go_wp2_with (go_at_call 27; refine (r_at kp bf kz hzb (by omega) (by omega)).mono ?_; rintro E w2 ⟨u, rfl, k, b⟩)
    go_meet
    exact ⟨k, rfl, b.bl⟩
  obtain ⟨va, rfl, hbn⟩ := hcut
  replace kp := kp.below hbn
  replace kq := kq.below hbn
  replace ks := ks.below hbn
  replace km := km.below hbn
  replace hb := hb.trans (hbn.mono hb.size)
  clear hbn
  go_upto_region 11 with (fail)
  go_cut [17, 13] from 76 to 81 (fun v e wx => Nv (ev z 6 g) v ∧ e = .int .i64 0 ∧ Below wc.heap.size wc wx)
  case first =>
    go_wp2_with (go_at_call 27; refine (r_at kq bg kz hzb (by omega) (by omega)).mono ?_; rintro E w2 ⟨u, rfl, k, b⟩)
    go_meet
    exact ⟨k, rfl, b.bl⟩
  obtain ⟨vb, rfl, hbn⟩ := hcut
  replace kp := kp.below hbn
  replace kq := kq.below hbn
  replace ks := ks.below hbn
  replace km := km.below hbn
  replace hb := hb.trans (hbn.mono hb.size)
  clear hbn
  go_upto_region 12 with (fail)
  go_cut [18, 15] from 82 to 87 (fun v e wx => Nv (ev z 6 fun i => gadd (f i) (g i)) v ∧ e = .int .i64 0 ∧ Below wc.heap.size wc wx)
  case first =>
    go_wp2_with (go_at_call 27; refine (r_at ks bs kz hzb (by omega) (by omega)).mono ?_; rintro E w2 ⟨u, rfl, k, b⟩)
    go_meet
    exact ⟨k, rfl, b.bl⟩
  obtain ⟨vc, rfl, hbn⟩ := hcut
  replace kp := kp.below hbn
  replace kq := kq.below hbn
  replace ks := ks.below hbn
  replace km := km.below hbn
  replace hb := hb.trans (hbn.mono hb.size)
  clear hbn
  go_upto_region 13 with (fail)
  go_cut [19, 20] from 88 to 93 (fun v e wx => Nv (ev z 12 (cvl f g)) v ∧ e = .int .i64 0 ∧ Below wc.heap.size wc wx)
  case first =>
    go_wp2_with (go_at_call 27; refine (r_at km bm kz hzb (by omega) (by omega)).mono ?_; rintro E w2 ⟨u, rfl, k, b⟩)
    go_meet
    exact ⟨k, rfl, b.bl⟩
  obtain ⟨vd, rfl, hbn⟩ := hcut
  replace kp := kp.below hbn
  replace kq := kq.below hbn
  replace ks := ks.below hbn
  replace km := km.below hbn
  replace hb := hb.trans (hbn.mono hb.size)
  clear hbn
  obtain ⟨ax, ay, rfl, va⟩ := va
  obtain ⟨bx, by', rfl, vb⟩ := vb
  obtain ⟨cx, cy, rfl, vc⟩ := vc
  obtain ⟨dx, dy, rfl, vd⟩ := vd
  clear ks kz bs hzb
  go_upto_region 16 with (first | (go_at_call 41; (with_reducible refine (Add_any _ _ _ _ _).mono ?_); rintro E w2 ⟨x2, y2, rfl, ⟨n2, rfl⟩, hv2, -, -⟩; have q2 := RA.out _ _ _ _ _ _ va vb vc; rw [← hv2, Bool.and_eq_true] at q2; obtain ⟨q3, q4⟩ := q2; unfold cv at q3 q4; dsimp only at q3 q4; clear hv2) | (go_at_call 42; (with_reducible refine (Mul_any _ _ _ _ _).mono ?_); rintro E w3 ⟨x3, y3, rfl, ⟨n3, rfl⟩, hv3, -, -⟩; have q5 := RM.out _ _ _ _ _ _ va vb vd; rw [← hv3, Bool.and_eq_true] at q5; obtain ⟨q6, q7⟩ := q5; unfold cv at q6 q7; dsimp only at q6 q7; clear hv3))
  clear RA RM va vb vc vd q3 q4 q6 q7
  replace kp := kp.below (w' := wc.drewN (n2 + n3)) (below_drewN' (Below.refl _ _) _)
  replace kq := kq.below (w' := wc.drewN (n2 + n3)) (below_drewN' (Below.refl _ _) _)
  replace km := km.below (w' := wc.drewN (n2 + n3)) (below_drewN' (Below.refl _ _) _)
  replace hb := below_drewN' hb (n2 + n3)
  obtain ⟨wq, hwq⟩ : ∃ wq, wq = wc.drewN (n2 + n3) := ⟨_, rfl⟩
  rw [← hwq] at kp kq km hb ⊢
  clear hwq
  go_cut [21, 11] from 122 to 126 (fun v e wx => Pv (dv f) 6 wx v ∧ e = .int .i64 0 ∧ Below wq.heap.size wq wx)
  case first =>
    go_wp2_with (go_at_call 33; refine (r_der kp bf (by omega) (by omega)).mono ?_; rintro E w2 ⟨u, rfl, k, b⟩)
    go_meet
    exact ⟨k, rfl, b⟩
  obtain ⟨kdp, rfl, hbn⟩ := hcut
  replace kp := kp.below hbn
  replace kq := kq.below hbn
  replace km := km.below hbn
  replace hb := hb.trans (hbn.mono hb.size)
  clear hbn
  go_upto_region 17 with (fail)
  go_cut [22, 13] from 127 to 131 (fun v e wx => Pv (dv g) 6 wx v ∧ e = .int .i64 0 ∧ Below wc.heap.size wc wx)
  case first =>
    go_wp2_with (go_at_call 33; refine (r_der kq bg (by omega) (by omega)).mono ?_; rintro E w2 ⟨u, rfl, k, b⟩)
    go_meet
    exact ⟨k, rfl, b⟩
  obtain ⟨kdq, rfl, hbn⟩ := hcut
  replace kp := kp.below hbn
  replace kq := kq.below hbn
  replace km := km.below hbn
  replace kdp := kdp.below hbn
  replace hb := hb.trans (hbn.mono hb.size)
  clear hbn
  go_upto_region 18 with (fail)
  go_cut [23, 15] from 132 to 136 (fun v e wx => Pv (dv (cvl f g)) 12 wx v ∧ e = .int .i64 0 ∧ Below wc.heap.size wc wx)
  case first =>
    go_wp2_with (go_at_call 33; refine (r_der km bm (by omega) (by omega)).mono ?_; rintro E w2 ⟨u, rfl, k, b⟩)
    go_meet
    exact ⟨k, rfl, b⟩
  obtain ⟨kdm, rfl, hbn⟩ := hcut
  replace kp := kp.below hbn
  replace kq := kq.below hbn
  replace km := km.below hbn
  replace kdp := kdp.below hbn
  replace kdq := kdq.below hbn
  replace hb := hb.trans (hbn.mono hb.size)
  clear hbn
  have bu : Bp (cvl (dv f) g) 9216 := kdp.bpT kq bdf bg (by omega) (by omega)
  have bv : Bp (cvl f (dv g)) 9216 := kp.bpT kdq bf bdg (by omega) (by omega)
  go_upto_region 21 with (fail)
  go_cut [24, 11] from 143 to 148 (fun v e wx => Pv (cvl (dv f) g) 12 wx v ∧ e = .int .i64 0 ∧ Below wc.heap.size wc wx)
  case first =>
    go_wp2_with (go_at_call 31; refine (r_times kdp kq bdf bg (by omega) (by omega)).mono ?_; rintro E w2 ⟨u, rfl, k, b⟩)
    go_meet
    exact ⟨k, rfl, b⟩
  obtain ⟨ku, rfl, hbn⟩ := hcut
  replace kp := kp.below hbn
  replace kq := kq.below hbn
  replace km := km.below hbn
  replace kdp := kdp.below hbn
  replace kdq := kdq.below hbn
  replace kdm := kdm.below hbn
  replace hb := hb.trans (hbn.mono hb.size)
  clear hbn
  go_upto_region 22 with (fail)
  go_cut [25, 13] from 149 to 154 (fun v e wx => Pv (cvl f (dv g)) 12 wx v ∧ e = .int .i64 0 ∧ Below wc.heap.size wc wx)
  case first =>
    go_wp2_with (go_at_call 31; refine (r_times kp kdq bf bdg (by omega) (by omega)).mono ?_; rintro E w2 ⟨u, rfl, k, b⟩)
    go_meet
    exact ⟨k, rfl, b⟩
  obtain ⟨kv, rfl, hbn⟩ := hcut
  replace kp := kp.below hbn
  replace kq := kq.below hbn
  replace km := km.below hbn
  replace kdp := kdp.below hbn
  replace kdq := kdq.below hbn
  replace kdm := kdm.below hbn
  replace ku := ku.below hbn
  replace hb := hb.trans (hbn.mono hb.size)
  clear hbn
  go_upto_region 25 with (fail)
  go_cut [26, 20] from 161 to 166 (fun v e wx => Pv (fun i => gadd (cvl (dv f) g i) (cvl f (dv g) i)) 12 wx v ∧ e = .int .i64 0 ∧ Below wc.heap.size wc wx)
  case first =>
    go_wp2_with (go_at_call 29; refine (r_plus ku kv bu bv (by omega) (by omega)).mono ?_; rintro E w2 ⟨u, rfl, k, b⟩)
    go_meet
    exact ⟨k, rfl, b⟩
  obtain ⟨kw, rfl, hbn⟩ := hcut
  replace kp := kp.below hbn
  replace kq := kq.below hbn
  replace km := km.below hbn
  replace kdp := kdp.below hbn
  replace kdq := kdq.below hbn
  replace kdm := kdm.below hbn
  replace ku := ku.below hbn
  replace kv := kv.below hbn
  replace hb := hb.trans (hbn.mono hb.size)
  clear hbn
  rw [HD.out] at kdm
  clear HD
  go_wp2_with (go_at_call 40; refine (r_both kdm kw (by omega) (by omega)).mono ?_; rintro E w2 ⟨rfl, n9, rfl⟩)
  go_ret
  exact ⟨rfl, below_drewN' hb n9⟩
end Go.Proofs.YtjpimgdmlieinaaDoor
