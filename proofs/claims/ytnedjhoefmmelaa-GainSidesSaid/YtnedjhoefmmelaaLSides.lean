/- GainSides: the walk: the statement's function returns true and leaves what was there. Condition: the length as the reach has it. -/
import Derived.Test.YtnedjhoefmmelaaLives
import Derived.Test.YtnedjhoefmmelaaLdexp
import Derived.Test.YtnedjhoefmmelaaHalfLaw
namespace Go.Proofs.Ytnedjhoefmmelaa
open Go.RowKit

theorem decide_eq_self {α : Type} [DecidableEq α] (xs : List α) : decide (xs = xs) = true := by simp

def SidesA (w : World) (l : List Nat) (best i : Value) (wr : World) : Prop := ∃ (k r : Nat), k ≤ l.length ∧ i = .int .i64 k ∧ best = .float .f64 r ∧ val r = halfM ((l.take k).map val) ∧ IsW r ∧ Dr w wr
def SidesB (w : World) (l : List Nat) (h : Option Nat) (kk v i : Value) (wr : World) : Prop := ∃ (k q : Nat) (T : List Nat), k ≤ l.length ∧ i = .int .i64 k ∧ kk = .int .i64 q ∧ q = (halfP (l.map val) h k).length ∧
  T.map val = (l.take k).map (fun x => fmul (val 4611686018427387904) (val x)) ∧ (∀ b ∈ T, IsW b) ∧ wr.ownsRow w.heap.size 34 1 v k (T.map F) ∧ Below w.heap.size w wr
theorem ld_low : ldV (-1000) = some 103582791429521408 := by decide +kernel
theorem Ldexp_low (w : World) : Calls Try.prog 15 #[.float .f64 4607182418800017408, .int .i64 (-1000)] w fun e w' => e = .returned (.float .f64 103582791429521408) ∧ Dr w w' := by
  refine (Ldexp_one (-1000) w (by omega) (by omega)).mono ?_
  rintro e w' ⟨x, rfl, hd, hv, _⟩
  rw [ld_low] at hv
  rw [val_inj hv]
  exact ⟨rfl, hd⟩

set_option maxRecDepth 100000 in
set_option maxHeartbeats 4000000 in
theorem sides_walk (l : List Nat) (v0 : Value) (w : World) (hn : l.length * 8 ≤ 140737488351232) (hw : ∀ b ∈ l, IsW b) (hs : Sl w v0 (l.map U)) :
    Calls Try.prog 4 #[v0] w fun e w' => e = .returned (.bool true) ∧ Below w.heap.size w w' := by
  have HW := hid hw
  clear hw
  obtain ⟨A, hA⟩ : ∃ A, A = halfL (l.map val) := ⟨_, rfl⟩
  have HA := hid hA
  go_enter Try.func4, Try.ntmps4
  go_wp2_with fail
  refine (Floats_any l _ _ hn hs).mono ?_
  rintro e w1 ⟨v1, rfl, hown1, hb1⟩
  have s1 := hid (Sl.of_owns hown1)
  have b1 := hid hb1
  clear hown1 hs hb1
  by_cases hE : halfE (l.map val) = 0
  · have hh := half_twice HW.out hE
    have HT := hid hh
    obtain ⟨_, hlen⟩ := half_fine HW.out hE
    clear hh
    have hAn : A.length ≤ 4096 := by
      rw [hA, halfL, if_pos hE]
      have := halfP_length (l.map val) (fdiv (halfM (l.map val)) (val 4611686018427387904)) (l.map val).length
      rw [List.length_map] at this
      rw [List.length_map]
      omega
    have hA2 : ∃ h, h = fdiv (halfM (l.map val)) (val 4611686018427387904) ∧ A = halfP (l.map val) h l.length := ⟨_, rfl, by rw [hA, halfL, if_pos hE, List.length_map]⟩
    obtain ⟨h, hhalf, hAP⟩ := hA2
    have HH := hid hhalf
    have HP := hid hAP
    clear hhalf hAP
    go_wp2_with fail
    refine (Half_any l _ _ (by omega) HW.out s1.out).mono ?_
    rintro e w2 ⟨v2, rfl, hown2, hb2⟩
    rw [← hA] at hown2
    have s2 := hid (Sl.of_owns hown2)
    have s12 := hid (s1.out.below hb2)
    have b2 := hid (b1.out.trans (hb2.mono b1.out.size))
    clear hA hown2 hb2 b1 s1
    obtain ⟨a1, c1, e1, hr1, hn1, hl1⟩ := s12.out
    obtain ⟨a2, c2, e2, hr2, hn2, hl2⟩ := s2.out
    subst e1 e2
    simp only [List.length_map] at hl1 hl2 ⊢
    clear hn1 hn2
    rw [hE]
    have HE := hid hE
    clear hE
    go_wp2
    go_loopw [6, 7] (SidesA w2 l) (fun _ i _ => l.length - (intOf i).toNat)
    case atStart => exact ⟨0, _, Nat.zero_le _, rfl, rfl, rfl, isW_0, (by first | with_reducible exact Dr.mk _ _ | with_reducible exact Dr.refl _)⟩
    case round =>
      obtain ⟨k, best, hk, rfl, rfl, hv, hwr, hd⟩ := hrel
      have Hd := hid hd
      have Hv := hid hv
      clear hd hv
      by_cases hlt : k < l.length
      · obtain ⟨x, hx⟩ : ∃ x, l[k]? = some x := ⟨_, List.getElem?_eq_getElem hlt⟩
        obtain ⟨b, off, rfl, hc⟩ := (Hd.out.row hr1).at (k := k) (x := F x) (by simp [hx])
        have hcx := hc k (F x) (by simp [hx])
        have hwx : IsW x := HW.out x (List.mem_of_getElem? hx)
        have HX := hid hx
        clear hc hr1 hr2 hx
        unfold F at hcx
        go_wp2_with (first | ((with_reducible refine upon_fadd ?_); intro r n hr hl) | ((with_reducible refine upon_fsub ?_); intro r n hr hl) | ((with_reducible refine upon_fmul ?_); intro r n hr hl) | ((with_reducible refine upon_fdiv ?_); intro r n hr hl) | ((with_reducible refine upon_fmax (by assumption) (by assumption) ?_); intro r n hr hl) | ((with_reducible refine upon_fmin (by assumption) (by assumption) ?_); intro r n hr hl))
        go_roundw
        case rel =>
          refine ⟨k + 1, _, by omega, by go_num, rfl, ?_, by assumption, (by first | with_reducible exact Hd.out | with_reducible exact Dr.trans Hd.out (Dr.mk _ _))⟩
          rw [take_snoc HX.out, List.map_append, halfM, List.foldl_append]
          have h := Hv.out
          unfold halfM at h
          rw [← h]
          simpa using hr
        case measure => simp [intOf]; omega
      · obtain rfl : k = l.length := by omega
        have ht : l.take l.length = l := List.take_length
        rw [ht] at Hv
        clear ht
        go_wp2_with (first | ((with_reducible refine upon_fadd ?_); intro r n hr hl) | ((with_reducible refine upon_fsub ?_); intro r n hr hl) | ((with_reducible refine upon_fmul ?_); intro r n hr hl) | ((with_reducible refine upon_fdiv ?_); intro r n hr hl) | ((with_reducible refine upon_fmax (by assumption) (by assumption) ?_); intro r n hr hl) | ((with_reducible refine upon_fmin (by assumption) (by assumption) ?_); intro r n hr hl))
        have hv3 : val r = h := by rw [HH.out, ← Hv.out]; exact hr
        have Hh := hid hv3
        clear hr hv3
        obtain ⟨rh, hrh⟩ : ∃ rh, rh = r := ⟨_, rfl⟩
        subst hrh
        go_loopw [9, 10, 11] (SidesB w2 l h) (fun _ _ i _ => l.length - (intOf i).toNat)
        case atStart => exact ⟨0, 0, [], Nat.zero_le _, rfl, rfl, rfl, rfl, by simp, World.ownsRow_nil _ _ _ _, below_drewN' Hd.out.below _⟩
        case round =>
          clear hk hlt
          have hlb := hl
          clear hl
          obtain ⟨k, q, T, hk, rfl, rfl, hq, hT, hTw, hown, hb⟩ := hrel
          have hz := hb.size
          have HB := hid hb
          have HQ := hid hq
          have HTm := hid hT
          have HTw := hid hTw
          have hqA : q ≤ A.length := by rw [hq, HP.out]; exact halfP_le _ _ _ _ hk
          clear hb hq hT hTw
          by_cases hlt : k < l.length
          · obtain ⟨x, hx⟩ : ∃ x, l[k]? = some x := ⟨_, List.getElem?_eq_getElem hlt⟩
            have hr1' := hr1.below HB.out
            have hr2' := hr2.below HB.out
            have htold := halfP_told (l.map val) h l.length k hlt
            rw [← HP.out, ← HQ.out] at htold
            have hsucc := halfP_succ (l.map val) h k
            obtain ⟨b, off, rfl, hc⟩ := hr1'.at (k := k) (x := F x) (by simp [hx])
            have hcx := hc k (F x) (by simp [hx])
            have hblt : b < w2.heap.size := by
              obtain ⟨b0, off0, e0, hc0⟩ := hr1.at (k := k) (x := F x) (by simp [hx])
              cases e0
              exact World.block_lt_of_cell? _ _ (hc0 k (F x) (by simp [hx]))
            unfold F at hcx
            have HX := hid hx
            have HC := hid hc
            have HR2 := hid hr2
            have HR3 := hid hr2'
            clear hc hx hr1' hr1 hr2 hr2'
            by_cases hat : halfAt (l.map val) h k = true
            · obtain ⟨j, rfl⟩ : ∃ j, k = j + 1 := by
                unfold halfAt at hat
                simp at hat
                exact ⟨k - 1, by omega⟩
              have hlook := htold.1 hat
              have hqlt : q < A.length := (List.getElem?_eq_some_iff.1 hlook).1
              obtain ⟨z, hz1⟩ : ∃ z : Int, z = ((j + 1 : Nat) : Int) := ⟨_, rfl⟩
              rw [← hz1] at hlook
              obtain ⟨b2, off2, rfl, hc2⟩ := HR3.out.at (k := q) (x := I z) (by simp [hlook])
              have hc2q := hc2 q (I z) (by simp [hlook])
              unfold I at hc2q
              have hb2lt : b2 < w2.heap.size := by
                obtain ⟨b0, off0, e0, hc0⟩ := HR2.out.at (k := q) (x := I z) (by simp [hlook])
                cases e0
                exact World.block_lt_of_cell? _ _ (hc0 q (I z) (by simp [hlook]))
              obtain ⟨y, hy⟩ : ∃ y, l[j]? = some y := ⟨_, List.getElem?_eq_getElem (by omega)⟩
              have hcy := HC.out j (F y) (by simp [hy])
              unfold F at hcy
              have hflip : (!(flt (val x) (val rh) == flt (val y) (val rh))) = true := by
                have hh := hat
                unfold halfAt at hh
                have hX := HX.out
                simp [hX, hy, ← Hh.out] at hh
                simp
                intro e
                exact hh e.symm
              have hs := hsucc
              rw [if_pos hat] at hs
              have HS := hid hs
              have e1 : IntKind.i64.wrap (j : Int) = (j : Int) := IntWalk.i64_in _ (by omega)
              have e2 : ((j : Int) + 1).toNat = j + 1 := by omega
              have e3 : (0 : Int) ≤ (j : Int) + 1 := by omega
              have e4 : (j : Int) < (l.length : Int) := by omega
              have e5 : (z == (j : Int) + 1) = true := by simp [hz1]
              clear hs hsucc hat hlook hc2 htold hy hz1 HR2 HR3
              go_wp2_with (first | ((with_reducible refine upon_fadd ?_); intro r n hr hl) | ((with_reducible refine upon_fsub ?_); intro r n hr hl) | ((with_reducible refine upon_fmul ?_); intro r n hr hl) | ((with_reducible refine upon_fdiv ?_); intro r n hr hl) | ((with_reducible refine upon_fmax (by assumption) (by assumption) ?_); intro r n hr hl) | ((with_reducible refine upon_fmin (by assumption) (by assumption) ?_); intro r n hr hl) | ((at_builtin; refine wpList_app1 rfl _ _ 23 rfl w2.heap.size 34 _ 8 Try.underlying23 info_f64 rfl _ _ _ (.float .f64 _) rfl rfl rfl (by exact hown) (by first | omega | (simp; omega)) (by first | omega | (simp; omega)) (by first | omega | (simp; omega)) ?_; intro v' w' h1 h2 h3; have hcx' : w'.cell? ⟨b, off + (j + 1), none⟩ = some (.float .f64 x) := (h2.cell (p := ⟨b, off + (j + 1), none⟩) hblt).trans hcx; have B2 := hid (below_of_drewN h2); have O2 := hid h1; clear hcx h1 h2 hown); (have hcy' : w'.cell? ⟨b, off + j, none⟩ = some (.float .f64 y) := (B2.out.cell (p := ⟨b, off + j, none⟩) hblt).trans hcy; clear hcy); (have hcq' : w'.cell? ⟨b2, off2 + q, none⟩ = some (.int .i64 z) := (B2.out.cell (p := ⟨b2, off2 + q, none⟩) hb2lt).trans hc2q; clear hc2q)))
              go_quiet (fail)
              go_wp2
              go_roundw
              (case rel => exact ⟨j + 1 + 1, q + 1, T ++ [r], by omega, by go_num, by go_num, by rw [HS.out]; simp [← HQ.out], by rw [List.map_append, HTm.out, take_snoc HX.out, List.map_append]; simp [hr], (by intro b hb; rcases List.mem_append.1 hb with h | h; exact HTw.out b h; rw [List.mem_singleton.1 h]; exact hl), by rw [List.map_append]; exact owns_drewN O2.out nq, below_drewN' (HB.out.trans B2.out) nq⟩)
              case measure => simp [intOf]; omega
            · simp only [Bool.not_eq_true] at hat
              have hs := hsucc
              rw [if_neg (by simp [hat]), List.append_nil] at hs
              have HS := hid hs
              clear hs hsucc
              have hnot : q = A.length ∨ (q < A.length ∧ ∃ z : Int, A[q]? = some z ∧ z ≠ (k : Int)) := by
                by_cases hqlt : q < A.length
                · exact .inr ⟨hqlt, _, List.getElem?_eq_getElem hqlt, htold.2 hat _ (List.getElem?_eq_getElem hqlt)⟩
                · exact .inl (by omega)
              clear htold
              rcases Nat.lt_or_ge k 1 with hk0 | hk0
              · have e6 : ((k : Int) == 0) = true := by simp; omega
                have e7 : (0 < k) = False := by simp; omega
                have e8 : (k = 0) = True := by simp; omega
                rcases hnot with hnot | ⟨hqlt, z, hlook, hz1⟩
                · clear HR2 HR3
                  subst hnot
                  go_wp2_with (first | ((with_reducible refine upon_fadd ?_); intro r n hr hl) | ((with_reducible refine upon_fsub ?_); intro r n hr hl) | ((with_reducible refine upon_fmul ?_); intro r n hr hl) | ((with_reducible refine upon_fdiv ?_); intro r n hr hl) | ((with_reducible refine upon_fmax (by assumption) (by assumption) ?_); intro r n hr hl) | ((with_reducible refine upon_fmin (by assumption) (by assumption) ?_); intro r n hr hl) | ((at_builtin; refine wpList_app1 rfl _ _ 23 rfl w2.heap.size 34 _ 8 Try.underlying23 info_f64 rfl _ _ _ (.float .f64 _) rfl rfl rfl (by exact hown) (by first | omega | (simp; omega)) (by first | omega | (simp; omega)) (by first | omega | (simp; omega)) ?_; intro v' w' h1 h2 h3; have hcx' : w'.cell? ⟨b, off + (k), none⟩ = some (.float .f64 x) := (h2.cell (p := ⟨b, off + (k), none⟩) hblt).trans hcx; have B2 := hid (below_of_drewN h2); have O2 := hid h1; clear hcx h1 h2 hown)))
                  go_quiet (fail)
                  go_wp2
                  go_roundw
                  (case rel => exact ⟨k + 1, _, T ++ [r], by omega, by go_num, by go_num, by rw [HS.out]; simp [← HQ.out], by rw [List.map_append, HTm.out, take_snoc HX.out, List.map_append]; simp [hr], (by intro b hb; rcases List.mem_append.1 hb with h | h; exact HTw.out b h; rw [List.mem_singleton.1 h]; exact hl), by rw [List.map_append]; exact owns_drewN O2.out nq, below_drewN' (HB.out.trans B2.out) nq⟩)
                  case measure => simp [intOf]; omega
                · obtain ⟨b2, off2, rfl, hc2⟩ := HR3.out.at (k := q) (x := I z) (by simp [hlook])
                  have hc2q := hc2 q (I z) (by simp [hlook])
                  unfold I at hc2q
                  have hb2lt : b2 < w2.heap.size := by
                    obtain ⟨b0, off0, e0, hc0⟩ := HR2.out.at (k := q) (x := I z) (by simp [hlook])
                    cases e0
                    exact World.block_lt_of_cell? _ _ (hc0 q (I z) (by simp [hlook]))
                  have e5 : (z == (k : Int)) = false := by simpa using hz1
                  clear hlook hc2 HR2 HR3 hz1
                  go_wp2_with (first | ((with_reducible refine upon_fadd ?_); intro r n hr hl) | ((with_reducible refine upon_fsub ?_); intro r n hr hl) | ((with_reducible refine upon_fmul ?_); intro r n hr hl) | ((with_reducible refine upon_fdiv ?_); intro r n hr hl) | ((with_reducible refine upon_fmax (by assumption) (by assumption) ?_); intro r n hr hl) | ((with_reducible refine upon_fmin (by assumption) (by assumption) ?_); intro r n hr hl) | ((at_builtin; refine wpList_app1 rfl _ _ 23 rfl w2.heap.size 34 _ 8 Try.underlying23 info_f64 rfl _ _ _ (.float .f64 _) rfl rfl rfl (by exact hown) (by first | omega | (simp; omega)) (by first | omega | (simp; omega)) (by first | omega | (simp; omega)) ?_; intro v' w' h1 h2 h3; have hcx' : w'.cell? ⟨b, off + (k), none⟩ = some (.float .f64 x) := (h2.cell (p := ⟨b, off + (k), none⟩) hblt).trans hcx; have B2 := hid (below_of_drewN h2); have O2 := hid h1; clear hcx h1 h2 hown); (have hcq' : w'.cell? ⟨b2, off2 + q, none⟩ = some (.int .i64 z) := (B2.out.cell (p := ⟨b2, off2 + q, none⟩) hb2lt).trans hc2q; clear hc2q)))
                  go_quiet (fail)
                  go_wp2
                  go_roundw
                  (case rel => exact ⟨k + 1, q, T ++ [r], by omega, by go_num, by go_num, by rw [HS.out]; simp [← HQ.out], by rw [List.map_append, HTm.out, take_snoc HX.out, List.map_append]; simp [hr], (by intro b hb; rcases List.mem_append.1 hb with h | h; exact HTw.out b h; rw [List.mem_singleton.1 h]; exact hl), by rw [List.map_append]; exact owns_drewN O2.out nq, below_drewN' (HB.out.trans B2.out) nq⟩)
                  case measure => simp [intOf]; omega
              · obtain ⟨j, rfl⟩ : ∃ j, k = j + 1 := ⟨k - 1, by omega⟩
                obtain ⟨y, hy⟩ : ∃ y, l[j]? = some y := ⟨_, List.getElem?_eq_getElem (by omega)⟩
                have hcy := HC.out j (F y) (by simp [hy])
                unfold F at hcy
                have hflip : (!(flt (val x) (val rh) == flt (val y) (val rh))) = false := by
                  have hh := hat
                  unfold halfAt at hh
                  have hX := HX.out
                  simp [hX, hy, ← Hh.out] at hh
                  simp
                  exact hh.symm
                have e1 : IntKind.i64.wrap (j : Int) = (j : Int) := IntWalk.i64_in _ (by omega)
                have e2 : ((j : Int) + 1).toNat = j + 1 := by omega
                have e3 : (0 : Int) ≤ (j : Int) + 1 := by omega
                have e4 : (j : Int) < (l.length : Int) := by omega
                clear hy
                rcases hnot with hnot | ⟨hqlt, z, hlook, hz1⟩
                · clear HR2 HR3
                  subst hnot
                  go_wp2_with (first | ((with_reducible refine upon_fadd ?_); intro r n hr hl) | ((with_reducible refine upon_fsub ?_); intro r n hr hl) | ((with_reducible refine upon_fmul ?_); intro r n hr hl) | ((with_reducible refine upon_fdiv ?_); intro r n hr hl) | ((with_reducible refine upon_fmax (by assumption) (by assumption) ?_); intro r n hr hl) | ((with_reducible refine upon_fmin (by assumption) (by assumption) ?_); intro r n hr hl) | ((at_builtin; refine wpList_app1 rfl _ _ 23 rfl w2.heap.size 34 _ 8 Try.underlying23 info_f64 rfl _ _ _ (.float .f64 _) rfl rfl rfl (by exact hown) (by first | omega | (simp; omega)) (by first | omega | (simp; omega)) (by first | omega | (simp; omega)) ?_; intro v' w' h1 h2 h3; have hcx' : w'.cell? ⟨b, off + (j + 1), none⟩ = some (.float .f64 x) := (h2.cell (p := ⟨b, off + (j + 1), none⟩) hblt).trans hcx; have B2 := hid (below_of_drewN h2); have O2 := hid h1; clear hcx h1 h2 hown); (have hcy' : w'.cell? ⟨b, off + j, none⟩ = some (.float .f64 y) := (B2.out.cell (p := ⟨b, off + j, none⟩) hblt).trans hcy; clear hcy)))
                  go_quiet (fail)
                  go_wp2
                  go_roundw
                  (case rel => exact ⟨j + 1 + 1, _, T ++ [r], by omega, by go_num, by go_num, by rw [HS.out]; simp [← HQ.out], by rw [List.map_append, HTm.out, take_snoc HX.out, List.map_append]; simp [hr], (by intro b hb; rcases List.mem_append.1 hb with h | h; exact HTw.out b h; rw [List.mem_singleton.1 h]; exact hl), by rw [List.map_append]; exact owns_drewN O2.out nq, below_drewN' (HB.out.trans B2.out) nq⟩)
                  case measure => simp [intOf]; omega
                · obtain ⟨b2, off2, rfl, hc2⟩ := HR3.out.at (k := q) (x := I z) (by simp [hlook])
                  have hc2q := hc2 q (I z) (by simp [hlook])
                  unfold I at hc2q
                  have hb2lt : b2 < w2.heap.size := by
                    obtain ⟨b0, off0, e0, hc0⟩ := HR2.out.at (k := q) (x := I z) (by simp [hlook])
                    cases e0
                    exact World.block_lt_of_cell? _ _ (hc0 q (I z) (by simp [hlook]))
                  have e5 : (z == (j : Int) + 1) = false := by simpa using hz1
                  clear hlook hc2 HR2 HR3 hz1
                  go_wp2_with (first | ((with_reducible refine upon_fadd ?_); intro r n hr hl) | ((with_reducible refine upon_fsub ?_); intro r n hr hl) | ((with_reducible refine upon_fmul ?_); intro r n hr hl) | ((with_reducible refine upon_fdiv ?_); intro r n hr hl) | ((with_reducible refine upon_fmax (by assumption) (by assumption) ?_); intro r n hr hl) | ((with_reducible refine upon_fmin (by assumption) (by assumption) ?_); intro r n hr hl) | ((at_builtin; refine wpList_app1 rfl _ _ 23 rfl w2.heap.size 34 _ 8 Try.underlying23 info_f64 rfl _ _ _ (.float .f64 _) rfl rfl rfl (by exact hown) (by first | omega | (simp; omega)) (by first | omega | (simp; omega)) (by first | omega | (simp; omega)) ?_; intro v' w' h1 h2 h3; have hcx' : w'.cell? ⟨b, off + (j + 1), none⟩ = some (.float .f64 x) := (h2.cell (p := ⟨b, off + (j + 1), none⟩) hblt).trans hcx; have B2 := hid (below_of_drewN h2); have O2 := hid h1; clear hcx h1 h2 hown); (have hcy' : w'.cell? ⟨b, off + j, none⟩ = some (.float .f64 y) := (B2.out.cell (p := ⟨b, off + j, none⟩) hblt).trans hcy; clear hcy); (have hcq' : w'.cell? ⟨b2, off2 + q, none⟩ = some (.int .i64 z) := (B2.out.cell (p := ⟨b2, off2 + q, none⟩) hb2lt).trans hc2q; clear hc2q)))
                  go_quiet (fail)
                  go_wp2
                  go_roundw
                  (case rel => exact ⟨j + 1 + 1, q, T ++ [r], by omega, by go_num, by go_num, by rw [HS.out]; simp [← HQ.out], by rw [List.map_append, HTm.out, take_snoc HX.out, List.map_append]; simp [hr], (by intro b hb; rcases List.mem_append.1 hb with h | h; exact HTw.out b h; rw [List.mem_singleton.1 h]; exact hl), by rw [List.map_append]; exact owns_drewN O2.out nq, below_drewN' (HB.out.trans B2.out) nq⟩)
                  case measure => simp [intOf]; omega
          · obtain rfl : k = l.length := by omega
            have hTl : T.length = l.length := by
              have := congrArg List.length HTm.out
              simpa using this
            have hTv : T.map val = l.map (fun x => fmul (val 4611686018427387904) (val x)) := by rw [HTm.out, List.take_length]
            have hq2 : q = A.length := by rw [HQ.out, HP.out]
            subst hq2
            have s2' := hid (s2.out.below HB.out)
            have sT := hid (Sl.of_owns hown)
            have BB := hid (b2.out.trans (HB.out.mono b2.out.size))
            clear hown hr1 hr2 s12 s2 HB b2 Hd HQ hlt hk
            go_wp2_with fail
            refine (Half_any T _ _ (by omega) HTw.out sT.out).mono ?_
            rintro e w3 ⟨v3, rfl, hown3, hb3⟩
            rw [hTv] at hown3 ⊢
            have s23 := hid (s2'.out.below hb3)
            have B3 := hid (BB.out.trans (hb3.mono BB.out.size))
            clear s2' sT BB hb3
            have hfin : ∀ (w4 : World), Below w.heap.size w w4 → Calls Try.prog 12 #[] w4 fun e w' => e = .returned (.bool true) ∧ Below w.heap.size w w' :=
              fun w4 h4 => (lives_any w4).mono fun e w' h => ⟨h.1, h4.trans (h.2.mono h4.size)⟩
            by_cases d1 : fle (val best) (val 9214364837600034815) = true
            · by_cases d2 : fle (val 103582791429521408) (val best) = true
              · obtain ⟨t1, t2⟩ := HT.out (by rw [← Hv.out]; exact d2) (by rw [← Hv.out]; exact d1)
                rw [t1]
                rw [t2, ← HA.out] at hown3
                have s3 := hid (Sl.of_owns hown3)
                clear hown3
                go_wp2_with (go_at_call 15; refine (Ldexp_low _).mono ?_; rintro e w' ⟨rfl, n, rfl⟩)
                refine (SameInts_any A A _ _ _ (by omega) (by omega) (by exact s3.out.drewN _) (by have h := s23.out.drewN n; rwa [List.length_map] at h)).mono ?_
                rintro e w6 ⟨rfl, n6, rfl⟩
                rw [decide_eq_self]
                go_wp2_with fail
                refine (hfin _ (below_drewN' B3.out _)).mono ?_
                rintro e w7 ⟨rfl, hb7⟩
                go_wp2_with fail
                go_ret
                exact ⟨rfl, hb7⟩
              · simp only [Bool.not_eq_true] at d2
                go_wp2_with (go_at_call 15; refine (Ldexp_low _).mono ?_; rintro e w' ⟨rfl, n, rfl⟩)
                refine (hfin _ (below_drewN' B3.out _)).mono ?_
                rintro e w7 ⟨rfl, hb7⟩
                go_wp2_with fail
                go_ret
                exact ⟨rfl, hb7⟩
            · simp only [Bool.not_eq_true] at d1
              go_wp2_with fail
              refine (hfin _ B3.out).mono ?_
              rintro e w7 ⟨rfl, hb7⟩
              go_wp2_with fail
              go_ret
              exact ⟨rfl, hb7⟩
  · have hA0 : A = [] := by rw [hA, halfL, if_neg hE]
    subst hA0
    have hE2 : (halfE (l.map val) != 0) = true := by simpa using hE
    obtain ⟨en, hen⟩ : ∃ en, en = halfE (l.map val) := ⟨_, rfl⟩
    rw [← hen] at hE2
    clear hE
    go_wp2_with fail
    refine (Half_any l _ _ (by omega) HW.out s1.out).mono ?_
    rintro e w2 ⟨v2, rfl, hown2, hb2⟩
    rw [← hA] at hown2
    rw [← hen]
    have s2 := hid (Sl.of_owns hown2)
    have b2 := hid (b1.out.trans (hb2.mono b1.out.size))
    clear hA hown2 hb2 b1 s1 hen
    obtain ⟨a2, c2, e2, hr2, hn2, hl2⟩ := s2.out
    subst e2
    clear hr2 hn2 hl2
    simp only [List.map_nil, List.length_nil]
    go_wp2_with fail
    refine (lives_any _).mono ?_
    rintro e w5 ⟨rfl, hb5⟩
    go_wp2_with fail
    go_ret
    exact ⟨rfl, b2.out.trans (hb5.mono b2.out.size)⟩
end Go.Proofs.Ytnedjhoefmmelaa
