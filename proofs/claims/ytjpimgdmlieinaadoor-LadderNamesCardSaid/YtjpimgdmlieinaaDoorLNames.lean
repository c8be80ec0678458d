/- The chapter's named examples hold. No condition. -/
import Derived.Test.YtjpimgdmlieinaaDoorNmB
import Derived.Deep.CutRange
import Derived.Deep.RegionLaw
namespace Go.Proofs.YtjpimgdmlieinaaDoor
open Go.RowKit

theorem lit2 (w : World) (e e' : Nat) (cs ds : List Value) : Sl ((w.alloc (.cells cs.toArray e)).alloc (.cells ds.toArray e')) (.slice (some ⟨w.heap.size, 0, none⟩) cs.length cs.length) cs ∧ Sl ((w.alloc (.cells cs.toArray e)).alloc (.cells ds.toArray e')) (.slice (some ⟨w.heap.size + 1, 0, none⟩) ds.length ds.length) ds ∧ Below w.heap.size w ((w.alloc (.cells cs.toArray e)).alloc (.cells ds.toArray e')) ∧ w.heap.size ≤ ((w.alloc (.cells cs.toArray e)).alloc (.cells ds.toArray e')).heap.size := by
  have h2 := Sl_lit (w.alloc (.cells cs.toArray e)) e' ds
  rw [World.size_alloc] at h2
  exact ⟨(Sl_lit w e cs).below ((Below.refl _ _).alloc (Nat.le_refl _) _), h2, ((Below.refl _ w).alloc (Nat.le_refl _) _).alloc (by simp) _, by simp; omega⟩
theorem lit1 (w : World) (e : Nat) (cs : List Value) : Sl (w.alloc (.cells cs.toArray e)) (.slice (some ⟨w.heap.size, 0, none⟩) cs.length cs.length) cs ∧ Below w.heap.size w (w.alloc (.cells cs.toArray e)) ∧ w.heap.size ≤ (w.alloc (.cells cs.toArray e)).heap.size :=
  ⟨Sl_lit w e cs, (Below.refl _ w).alloc (Nat.le_refl _) _, by simp⟩
theorem lit_drewN (w : World) (n : Nat) (e e' : Nat) (cs ds : List Value) : Sl (((w.alloc (.cells cs.toArray e)).drewN n).alloc (.cells ds.toArray e')) (.slice (some ⟨w.heap.size + 1, 0, none⟩) ds.length ds.length) ds := by
  have := Sl_lit ((w.alloc (.cells cs.toArray e)).drewN n) e' ds
  rw [show ((w.alloc (.cells cs.toArray e)).drewN n).heap.size = w.heap.size + 1 from World.size_alloc _ _] at this
  exact this
theorem Els_lit2 (w : World) (e f : El) : ElsAt (w.alloc (.cells (elC e ++ elC f).toArray 30)) (.slice (some ⟨w.heap.size, 0, none⟩) 2 2) [e, f] := by
  refine ⟨some ⟨w.heap.size, 0, none⟩, 2, rfl, fun k e' he => ⟨w.heap.size, 0, rfl, fun j x hx => ?_⟩⟩
  have hj : j < 8 := (List.getElem?_eq_some_iff.1 hx).1
  rw [Nat.zero_add, World.cell?_alloc_new]
  match k, he with
  | 0, he =>
    cases he
    rw [Nat.zero_mul, Nat.zero_add]
    simp only [List.getElem?_toArray]
    rw [List.getElem?_append_left (by exact hj)]
    exact hx
  | 1, he =>
    cases he
    simp only [List.getElem?_toArray]
    rw [List.getElem?_append_right (by show 8 ≤ 1 * 8 + j; omega), show 1 * 8 + j - (elC e).length = j by show 1 * 8 + j - 8 = j; omega]
    exact hx
  | k + 2, he => simp at he
theorem Els_lit2' (w : World) (e f : El) {s : Nat} (h : s = w.heap.size) : ElsAt (w.alloc (.cells (elC e ++ elC f).toArray 30)) (.slice (some ⟨s, 0, none⟩) 2 2) [e, f] := by
  subst h
  exact Els_lit2 w e f
theorem of_el2 (k : Nat) (n : ByteArray) (v : Nat) (w : World) : Calls Tryd.prog 11 #[.int .u8 k, .string n, .float .f64 v] w fun e w' => e = .returned (.agg #[.int .u8 k, .string n, .string ⟨#[]⟩, .string ⟨#[]⟩, .string ⟨#[]⟩, .string ⟨#[]⟩, .float .f64 v, .int .i64 0]) ∧ Below w.heap.size w w' := of_el k n v w
theorem Els_cut {w : World} {b : Nat} (h : ElsAt w (.slice (some ⟨b, 0, none⟩) 2 2) nmT) : ElsAt w (.slice (some ⟨b, 0, none⟩) 1 2) nmT1 := by
  obtain ⟨a, cap, he, hr⟩ := h
  obtain ⟨rfl, -, rfl⟩ : a = some ⟨b, 0, none⟩ ∧ (2 : Nat) = nmT.length ∧ cap = 2 := by
    simp [nmT] at he
    exact ⟨he.1.symm, rfl, he.2.symm⟩
  refine ⟨some ⟨b, 0, none⟩, 2, rfl, fun k e hk => hr k e ?_⟩
  match k, hk with
  | 0, hk => exact hk
  | k + 1, hk => simp [nmT1] at hk
/-- A told polynomial's slice. -/
def PlAt (c : List CV) (w : World) (v : Value) : Prop := ∃ l : List Z, Sl w v (l.map C) ∧ l.map zv = c
theorem PlAt.below {c : List CV} {w w' : World} {v : Value} (h : PlAt c w v) (hb : Below w.heap.size w w') : PlAt c w' v := by
  obtain ⟨l, h1, h2⟩ := h
  exact ⟨l, h1.below hb, h2⟩
/-- A number in a slot. -/
def NumV (c : CV) (v : Value) : Prop := ∃ x y, v = .complex .f64 x y ∧ cv x y = c ∧ IsW x ∧ IsW y
/-- A fault in a cell of its own. -/
def FltV (e a : Int) (w : World) (v : Value) : Prop := ∃ b, v = .pointer (some ⟨b, 0, none⟩) ∧ FltAt w b e a
theorem FltV.below {e a : Int} {w w' : World} {v : Value} (h : FltV e a w v) (hb : Below w.heap.size w w') : FltV e a w' v := by
  obtain ⟨b, h1, h2⟩ := h
  exact ⟨b, h1, h2.below hb h2.lt⟩

set_option maxRecDepth 100000 in
set_option maxHeartbeats 4000000 in
theorem names_walk (w : World) : Calls Tryd.prog 9 #[] w fun e w' => e = .returned (.bool true) ∧ Below w.heap.size w w' := by
  go_enter Tryd.func9, Tryd.ntmps9
  go_upto_region 2 with (fail)
  go_cut [2, 3] from 32 to 37 (fun v e wx => e = .int .i64 0 ∧ PlAt [(some 4618441417868443648, some 0), (some 4607182418800017408, some 0)] wx v ∧ Below w.heap.size w wx)
  case first =>
    obtain ⟨hq1, hq2, hb1, hs1⟩ := lit2 w 33 33 (lvQ.map C) ([(4617315517961601024, 0)].map C)
    go_wp2_with (go_at_call 29; refine (nm_Pl _ _ _ (by exact hq1) (by exact hq2)).mono ?_; rintro E w2 ⟨v, l, rfl, hown, hl, -, hb2⟩)
    go_meet
    exact ⟨rfl, ⟨l, Sl.of_owns hown, hl⟩, hb1.trans (hb2.mono hs1)⟩
  obtain ⟨rfl, hs, hb⟩ := hcut
  go_upto_region 3 with (fail)
  go_cut [4, 5] from 38 to 42 (fun v e wx => e = .int .i64 0 ∧ PlAt [(some 4607182418800017408, some 0), (some 4618441417868443648, some 0)] wx v ∧ Below wc.heap.size wc wx)
  case first =>
    obtain ⟨hq1, hb1, hs1⟩ := lit1 wc 33 (nmD.map C)
    go_wp2_with (go_at_call 33; refine (nm_De _ _ (by exact hq1)).mono ?_; rintro E w2 ⟨v, l, rfl, hown, hl, -, hb2⟩)
    go_meet
    exact ⟨rfl, ⟨l, Sl.of_owns hown, hl⟩, hb1.trans (hb2.mono hs1)⟩
  obtain ⟨rfl, hd, hbn⟩ := hcut
  replace hs := hs.below hbn
  replace hb := hb.trans (hbn.mono hb.size)
  clear hbn
  go_upto_region 4 with (fail)
  go_cut [6, 7, 8] from 43 to 48 (fun z n e wx => NumV (some 4609434218613702656, some 0) z ∧ n = .int .i64 1 ∧ e = .int .i64 0 ∧ Below wc.heap.size wc wx)
  case first =>
    obtain ⟨hq1, hb1, hs1⟩ := lit1 wc 33 (nmN.map C)
    go_wp2_with (go_at_call 43; refine (nm_Nw _ _ (by exact hq1)).mono ?_; rintro E w2 ⟨x, y, rfl, hb2, hr, hx, hy⟩)
    go_meet
    exact ⟨⟨x, y, rfl, hr, hx, hy⟩, rfl, rfl, hb1.trans (hb2.mono hs1)⟩
  obtain ⟨hz, rfl, rfl, hbn⟩ := hcut
  replace hs := hs.below hbn
  replace hd := hd.below hbn
  replace hb := hb.trans (hbn.mono hb.size)
  clear hbn
  go_upto_region 5 with (fail)
  go_cut [9] from 49 to 76 (fun o wx => o = .bool true ∧ Below wc.heap.size wc wx)
  case first =>
    obtain ⟨x, y, rfl, hr, hx, hy⟩ := hz
    obtain ⟨l1, hs1, hs2⟩ := hs
    obtain ⟨l2, hd1, hd2⟩ := hd
    obtain ⟨hr1, hr2⟩ := Prod.mk.inj hr
    have q1 : feq (some 4609434218613702656) (val 4609434218613702656) = true := by decide +kernel
    have q2 : feq (some 0) (val 0) = true := by decide +kernel
    have hq1 := Sl_lit wc 33 ([(4618441417868443648, 0), (4607182418800017408, 0)].map C)
    have b1 : Below wc.heap.size wc (wc.alloc (.cells ([(4618441417868443648, 0), (4607182418800017408, 0)].map C).toArray 33)) := (Below.refl _ _).alloc (Nat.le_refl _) _
    have s1 := hs1.below b1
    have HS := hid hs2
    have HD := hid hd2
    clear hs2 hd2 hr
    go_wp2_with (first | (go_at_call 46; first | (refine (nm_Eq (a := (4618441417868443648, 0)) (b := (4607182418800017408, 0)) l1 _ _ _ (by exact s1) (by exact hq1) HS.out (by decide +kernel) (by decide +kernel)).mono ?_; rintro E w2 ⟨rfl, n2, rfl⟩; have b2 : Below wc.heap.size wc ((wc.alloc (.cells ([(4618441417868443648, 0), (4607182418800017408, 0)].map C).toArray 33)).drewN n2) := below_drewN' b1 n2; have hq2 := lit_drewN wc n2 33 33 ([(4618441417868443648, 0), (4607182418800017408, 0)].map C) ([(4607182418800017408, 0), (4618441417868443648, 0)].map C); have b3 := b2.alloc (by exact b2.size) (.cells ([(4607182418800017408, 0), (4618441417868443648, 0)].map C).toArray 33); have s2 := hd1.below b3) | (refine (nm_Eq (a := (4607182418800017408, 0)) (b := (4618441417868443648, 0)) l2 _ _ _ (by exact s2) (by exact hq2) HD.out (by decide +kernel) (by decide +kernel)).mono ?_; rintro E w3 ⟨rfl, n3, rfl⟩)))
    go_meet
    exact ⟨rfl, below_drewN' b3 _⟩
  obtain ⟨rfl, hbn⟩ := hcut
  clear hz hs hd
  replace hb := hb.trans (hbn.mono hb.size)
  clear hbn
  go_upto_region 6 with (fail)
  go_cut [10] from 77 to 79 (fun v wx => ElsAt wx v nmR ∧ Below wc.heap.size wc wx)
  case first =>
    have hk := Below.refl wc.heap.size wc
    go_wp2_with (go_at_call 11; refine (of_el2 _ _ _ _).mono ?_; rintro E w2 ⟨rfl, hb2⟩; replace hk := hk.trans (hb2.mono hk.size); clear hb2)
    go_meet
    exact ⟨Els_lit2 w2 (elO 1 ⟨#[82, 49]⟩ 4607182418800017408) (elO 1 ⟨#[82, 51]⟩ 4607182418800017408), hk.alloc hk.size _⟩
  obtain ⟨hr, hbn⟩ := hcut
  replace hb := hb.trans (hbn.mono hb.size)
  clear hbn
  go_upto_region 7 with (fail)
  go_cut [11] from 80 to 82 (fun v wx => (∃ b, v = .slice (some ⟨b, 0, none⟩) 2 2 ∧ ElsAt wx v nmT) ∧ Below wc.heap.size wc wx)
  case first =>
    have hk := Below.refl wc.heap.size wc
    go_wp2_with (go_at_call 11; refine (of_el2 _ _ _ _).mono ?_; rintro E w2 ⟨rfl, hb2⟩; replace hk := hk.trans (hb2.mono hk.size); clear hb2)
    go_meet
    exact ⟨⟨_, rfl, Els_lit2 w2 (elO 1 ⟨#[82, 50]⟩ 4611686018427387904) (elO 1 ⟨#[82, 52]⟩ 4611686018427387904)⟩, hk.alloc hk.size _⟩
  obtain ⟨⟨tb, rfl, ht⟩, hbn⟩ := hcut
  replace hb := hb.trans (hbn.mono hb.size)
  replace hr := hr.below hbn
  clear hbn
  go_upto_region 8 with (fail)
  go_cut [12, 13] from 83 to 88 (fun x v wx => NumV (some 4612136378390124954, some 0) x ∧ FltV 0 0 wx v ∧ Below wc.heap.size wc wx)
  case first =>
    go_wp2_with (go_at_call 13; refine (nm_In _ _ _ hr ht).mono ?_; rintro E w2 ⟨x, y, rfl, hk, hq, hx, hy⟩)
    go_meet
    exact ⟨⟨x, y, rfl, hq, hx, hy⟩, ⟨_, rfl, FltAt.new _ _ _⟩, hk.alloc hk.size _⟩
  obtain ⟨hx, f1, hbn⟩ := hcut
  replace hb := hb.trans (hbn.mono hb.size)
  replace hr := hr.below hbn
  replace ht := ht.below hbn
  clear hbn
  go_upto_region 9 with (fail)
  go_cut [15] from 89 to 95 (fun v wx => FltV 4 (-1) wx v ∧ Below wc.heap.size wc wx)
  case first =>
    have ht1 := Els_cut ht
    go_wp2_with (go_at_call 16; refine (nm_Net1 _ _ _ hr (by exact ht1)).mono ?_; rintro E w2 ⟨rfl, hk⟩)
    go_meet
    exact ⟨⟨_, rfl, FltAt.new _ _ _⟩, hk.alloc hk.size _⟩
  obtain ⟨f2, hbn⟩ := hcut
  replace hb := hb.trans (hbn.mono hb.size)
  replace hr := hr.below hbn
  replace ht := ht.below hbn
  replace f1 := f1.below hbn
  clear hbn
  go_upto_region 10 with (fail)
  go_cut [17] from 96 to 99 (fun v wx => FltV 2 (-1) wx v ∧ Below wc.heap.size wc wx)
  case first =>
    go_wp2_with (go_at_call 16; refine (nm_Net0 _).mono ?_; rintro E w2 ⟨rfl, hk⟩)
    go_meet
    exact ⟨⟨_, rfl, FltAt.new _ _ _⟩, hk.alloc hk.size _⟩
  obtain ⟨f3, hbn⟩ := hcut
  replace hb := hb.trans (hbn.mono hb.size)
  replace hr := hr.below hbn
  replace ht := ht.below hbn
  replace f1 := f1.below hbn
  replace f2 := f2.below hbn
  clear hbn
  go_upto_region 11 with (fail)
  obtain ⟨hlt, c0, c1, c2, c3, c4, c5, c6, c7⟩ := tcells ht
  go_cut [19] from 100 to 109 (fun v wx => FltV 2 1 wx v ∧ Below wc.heap.size wc wx)
  case first =>
    go_region_law (first | (go_simp; go_at_call 11; refine (of_el2 _ _ _ _).mono ?_; rintro E w2 ⟨rfl, hb2⟩; have z2 : wc.heap.size ≤ w2.heap.size := (show Below wc.heap.size wc w2 by (repeat (first | with_reducible exact Below.refl _ _ | with_reducible refine bla _ ?_ | with_reducible refine bld ?_ | (with_reducible refine bl2 ?_ (by assumption))))).size; have HT := tcells (ht.below (w' := w2) (by (repeat (first | with_reducible exact Below.refl _ _ | with_reducible refine bla _ ?_ | with_reducible refine bld ?_ | (with_reducible refine bl2 ?_ (by assumption)))))); obtain ⟨hlt2, d0, d1, d2, d3, d4, d5, d6, d7⟩ := HT) | (go_simp; go_at_call 13; refine (nm_In2 _ _ _ (hr.below (by (repeat (first | with_reducible exact Below.refl _ _ | with_reducible refine bla _ ?_ | with_reducible refine bld ?_ | (with_reducible refine bl2 ?_ (by assumption)))))) (by first | exact Els_lit2 w2 (elO 1 ⟨#[82, 50]⟩ 4611686018427387904) (elO 4 ⟨#[73, 49]⟩ 4607182418800017408) | exact els_a _ (Els_lit2 w2 (elO 1 ⟨#[82, 50]⟩ 4611686018427387904) (elO 4 ⟨#[73, 49]⟩ 4607182418800017408)) | exact Els_lit2' (World.alloc w2 _) (elO 1 ⟨#[82, 50]⟩ 4611686018427387904) (elO 4 ⟨#[73, 49]⟩ 4607182418800017408) (World.size_alloc _ _).symm)).mono ?_; rintro E w3 ⟨x3, y3, rfl, hb3, -, -, -⟩; (try ((first | have F : FltAt w3 (w2.heap.size + 1) 0 0 := by (repeat (first | (with_reducible refine flt_n _ _ _ ?_; first | with_reducible rfl | simp; done) | with_reducible assumption | with_reducible refine flt_a _ ?_ | with_reducible refine flt_d ?_ | (with_reducible refine flt_b ?_ (by assumption)))) | have F : FltAt w3 w2.heap.size 0 0 := by (repeat (first | (with_reducible refine flt_n _ _ _ ?_; first | with_reducible rfl | simp; done) | with_reducible assumption | with_reducible refine flt_a _ ?_ | with_reducible refine flt_d ?_ | (with_reducible refine flt_b ?_ (by assumption)))) | have F : FltAt w3 wc.heap.size 0 0 := by (repeat (first | (with_reducible refine flt_n _ _ _ ?_; first | with_reducible rfl | simp; done) | with_reducible assumption | with_reducible refine flt_a _ ?_ | with_reducible refine flt_d ?_ | (with_reducible refine flt_b ?_ (by assumption))))); have e0 := F.c0; have e1 := F.c1; have r0 := F.fr 0; have r1 := F.fr 1)); have b3 : Below wc.heap.size wc w3 := by (repeat (first | with_reducible exact Below.refl _ _ | with_reducible refine bla _ ?_ | with_reducible refine bld ?_ | (with_reducible refine bl2 ?_ (by assumption))))))
    all_goals
      go_wp2
      go_meet
      first | exact ⟨⟨_, rfl, FltAt.new _ _ _⟩, bla _ b3⟩ | exact ⟨⟨_, rfl, FltAt.set2 F _ _⟩, bls (bls b3 (by dsimp only; omega)) (by dsimp only; omega)⟩
  obtain ⟨f4, hbn⟩ := hcut
  replace hb := hb.trans (hbn.mono hb.size)
  replace f1 := f1.below hbn
  replace f2 := f2.below hbn
  replace f3 := f3.below hbn
  clear hbn hr ht hlt c0 c1 c2 c3 c4 c5 c6 c7
  go_upto_region 12 with (fail)
  obtain ⟨o17, hmk, hel⟩ := make_e
  have hel2 : ∀ (w : World) (s : Nat), s = w.heap.size → ElsAt (w.alloc o17) (.slice (some ⟨s, 0, none⟩) 17 17) (List.replicate 17 el0) := fun w s h => by subst h; exact hel w
  have HEL := hid hel2
  clear hel hel2
  go_cut [21] from 110 to 115 (fun v wx => FltV 3 (-1) wx v ∧ Below wc.heap.size wc wx)
  case first =>
    go_region_law (go_simp; go_at_call 16; refine (nm_Net17 _ _ _ (by (repeat (first | (with_reducible refine HEL.out _ _ ?_; first | with_reducible rfl | simp; done) | with_reducible refine els_a _ ?_ | with_reducible refine els_d ?_))) (by (repeat (first | (with_reducible refine HEL.out _ _ ?_; first | with_reducible rfl | simp; done) | with_reducible refine els_a _ ?_ | with_reducible refine els_d ?_)))).mono ?_; rintro E w3 ⟨rfl, hb3⟩; (try ((first | have F : FltAt w3 (wc.heap.size + 1 + 1) 0 0 := by (repeat (first | (with_reducible refine flt_n _ _ _ ?_; first | with_reducible rfl | simp; done) | with_reducible assumption | with_reducible refine flt_a _ ?_ | with_reducible refine flt_d ?_ | (with_reducible refine flt_b ?_ (by assumption)))) | have F : FltAt w3 (wc.heap.size + 1) 0 0 := by (repeat (first | (with_reducible refine flt_n _ _ _ ?_; first | with_reducible rfl | simp; done) | with_reducible assumption | with_reducible refine flt_a _ ?_ | with_reducible refine flt_d ?_ | (with_reducible refine flt_b ?_ (by assumption)))) | have F : FltAt w3 wc.heap.size 0 0 := by (repeat (first | (with_reducible refine flt_n _ _ _ ?_; first | with_reducible rfl | simp; done) | with_reducible assumption | with_reducible refine flt_a _ ?_ | with_reducible refine flt_d ?_ | (with_reducible refine flt_b ?_ (by assumption))))); have e0 := F.c0; have e1 := F.c1; have r0 := F.fr 0; have r1 := F.fr 1)); have b3 : Below wc.heap.size wc w3 := by (repeat (first | with_reducible exact Below.refl _ _ | with_reducible refine bla _ ?_ | with_reducible refine bld ?_ | (with_reducible refine bl2 ?_ (by assumption)))))
    all_goals
      go_wp2
      go_meet
      first | exact ⟨⟨_, rfl, FltAt.new _ _ _⟩, bla _ b3⟩ | exact ⟨⟨_, rfl, FltAt.set2 F _ _⟩, bls (bls b3 (by dsimp only; omega)) (by dsimp only; omega)⟩
  clear hmk HEL
  obtain ⟨f5, hbn⟩ := hcut
  replace hb := hb.trans (hbn.mono hb.size)
  replace f1 := f1.below hbn
  replace f2 := f2.below hbn
  replace f3 := f3.below hbn
  replace f4 := f4.below hbn
  clear hbn
  go_upto_region 13 with (fail)
  obtain ⟨o257, hmk, hsl⟩ := make_z 257 257 (by rfl) (by omega)
  go_cut [23] from 116 to 120 (fun e wx => e = .int .i64 3 ∧ Below wc.heap.size wc wx)
  case first =>
    have s1 := hsl wc
    clear hsl
    go_wp2_with (go_at_call 27; refine (nm_At _ _ (by exact s1)).mono ?_; rintro E w3 ⟨x, y, rfl, ⟨n3, rfl⟩, -, -, -⟩)
    go_meet
    exact ⟨rfl, below_drewN' (bla _ (Below.refl _ _)) _⟩
  clear hmk hsl
  obtain ⟨rfl, hbn⟩ := hcut
  replace hb := hb.trans (hbn.mono hb.size)
  replace f1 := f1.below hbn
  replace f2 := f2.below hbn
  replace f3 := f3.below hbn
  replace f4 := f4.below hbn
  replace f5 := f5.below hbn
  clear hbn
  go_upto_region 14 with (fail)
  obtain ⟨o129, hmk, hsl⟩ := make_z 129 129 (by rfl) (by omega)
  have hsl2 : ∀ (w : World) (s : Nat), s = w.heap.size → Sl (w.alloc o129) (.slice (some ⟨s, 0, none⟩) 129 129) ((z0L 129).map C) := fun w s h => by subst h; exact hsl w
  have HSL := hid hsl2
  clear hsl hsl2
  go_cut [25] from 121 to 126 (fun e wx => e = .int .i64 3 ∧ Below wc.heap.size wc wx)
  case first =>
    go_region_law (go_simp; go_at_call 31; refine (nm_Ti1 _ _ _ (by (repeat (first | (first | with_reducible refine HSL.out _ _ ?_ | with_reducible refine HSL8.out _ _ ?_); (first | with_reducible rfl | simp; done) | with_reducible refine sl_a _ ?_ | with_reducible refine sl_d ?_))) (by (repeat (first | (first | with_reducible refine HSL.out _ _ ?_ | with_reducible refine HSL8.out _ _ ?_); (first | with_reducible rfl | simp; done) | with_reducible refine sl_a _ ?_ | with_reducible refine sl_d ?_)))).mono ?_; rintro E w3 ⟨v, l, rfl, hown, hl, -, hb3⟩; have b3 : Below wc.heap.size wc w3 := by (repeat (first | with_reducible exact Below.refl _ _ | with_reducible refine bla _ ?_ | with_reducible refine bld ?_ | (with_reducible refine bl2 ?_ (by assumption)))))
    all_goals
      go_wp2
      go_meet
      exact ⟨rfl, b3⟩
  obtain ⟨rfl, hbn⟩ := hcut
  replace hb := hb.trans (hbn.mono hb.size)
  replace f1 := f1.below hbn
  replace f2 := f2.below hbn
  replace f3 := f3.below hbn
  replace f4 := f4.below hbn
  replace f5 := f5.below hbn
  clear hbn
  go_upto_region 15 with (fail)
  obtain ⟨o128, hmk8, hsl8⟩ := make_z 128 128 (by rfl) (by omega)
  have hsl2 : ∀ (w : World) (s : Nat), s = w.heap.size → Sl (w.alloc o128) (.slice (some ⟨s, 0, none⟩) 128 128) ((z0L 128).map C) := fun w s h => by subst h; exact hsl8 w
  have HSL8 := hid hsl2
  clear hsl8 hsl2
  go_cut [27] from 127 to 132 (fun e wx => e = .int .i64 0 ∧ Below wc.heap.size wc wx)
  case first =>
    go_region_law (go_simp; go_at_call 31; refine (nm_Ti2 _ _ _ (by (repeat (first | (first | with_reducible refine HSL.out _ _ ?_ | with_reducible refine HSL8.out _ _ ?_); (first | with_reducible rfl | simp; done) | with_reducible refine sl_a _ ?_ | with_reducible refine sl_d ?_))) (by (repeat (first | (first | with_reducible refine HSL.out _ _ ?_ | with_reducible refine HSL8.out _ _ ?_); (first | with_reducible rfl | simp; done) | with_reducible refine sl_a _ ?_ | with_reducible refine sl_d ?_)))).mono ?_; rintro E w3 ⟨v, l, rfl, hown, hl, -, hb3⟩; have b3 : Below wc.heap.size wc w3 := by (repeat (first | with_reducible exact Below.refl _ _ | with_reducible refine bla _ ?_ | with_reducible refine bld ?_ | (with_reducible refine bl2 ?_ (by assumption)))))
    all_goals
      go_wp2
      go_meet
      exact ⟨rfl, b3⟩
  clear hmk hmk8 HSL HSL8
  obtain ⟨rfl, hbn⟩ := hcut
  replace hb := hb.trans (hbn.mono hb.size)
  replace f1 := f1.below hbn
  replace f2 := f2.below hbn
  replace f3 := f3.below hbn
  replace f4 := f4.below hbn
  replace f5 := f5.below hbn
  clear hbn
  go_upto_region 16 with (fail)
  go_cut [30] from 133 to 138 (fun e wx => e = .int .i64 2 ∧ Below wc.heap.size wc wx)
  case first =>
    have hq1 := Sl_lit wc 33 ([(4607182418800017408, 0)].map C)
    go_wp2_with (go_at_call 43; refine (nm_Nw2 _ _ (by exact hq1)).mono ?_; rintro E w2 ⟨x, y, rfl, hb2, -, -, -⟩)
    go_meet
    exact ⟨rfl, by (repeat (first | with_reducible exact Below.refl _ _ | with_reducible refine bla _ ?_ | with_reducible refine bld ?_ | (with_reducible refine bl2 ?_ (by assumption))))⟩
  obtain ⟨rfl, hbn⟩ := hcut
  replace hb := hb.trans (hbn.mono hb.size)
  replace f1 := f1.below hbn
  replace f2 := f2.below hbn
  replace f3 := f3.below hbn
  replace f4 := f4.below hbn
  replace f5 := f5.below hbn
  clear hbn
  go_upto_region 17 with (fail)
  obtain ⟨x, y, rfl, hxy, -, -⟩ := hx
  obtain ⟨hx1, -⟩ := Prod.mk.inj hxy
  clear hxy
  obtain ⟨b1, rfl, F1⟩ := f1
  obtain ⟨b2, rfl, F2⟩ := f2
  obtain ⟨b3, rfl, F3⟩ := f3
  obtain ⟨b4, rfl, F4⟩ := f4
  obtain ⟨b5, rfl, F5⟩ := f5
  have q1 : flt (val 4612113860391988101) (some 4612136378390124954) = true := by decide +kernel
  have q2 : flt (some 4612136378390124954) (val 4612158896388261806) = true := by decide +kernel
  have c10 := F1.c0
  have c11 := F1.c1
  have c20 := F2.c0
  have c21 := F2.c1
  have c30 := F3.c0
  have c31 := F3.c1
  have c40 := F4.c0
  have c41 := F4.c1
  have c50 := F5.c0
  have c51 := F5.c1
  go_cut [31] from 139 to 187 (fun e wx => e = .bool true ∧ wx = wc)
  case first =>
    go_wp2
    go_meet
    exact ⟨rfl, rfl⟩
  obtain ⟨rfl, rfl⟩ := hcut
  clear c10 c11 c20 c21 c30 c31 c40 c41 c50 c51 F1 F2 F3 F4 F5 q1 q2 hx1
  go_wp2_with (go_at_call 10; refine (lives_any _).mono ?_; rintro E w9 ⟨rfl, hb9⟩)
  go_ret
  exact ⟨rfl, hb.trans (hb9.mono hb.size)⟩
end Go.Proofs.YtjpimgdmlieinaaDoor
