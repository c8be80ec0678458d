/- Ladders of resistors alone: the walk. Condition: the row's length. -/
import Derived.Test.YtjpimgdmlieinaaDoorReal
import Derived.Test.YtjpimgdmlieinaaDoorNmB
import Derived.Deep.CutRange
namespace Go.Proofs.YtjpimgdmlieinaaDoor
open Go.RowKit

theorem of_elR (n : ByteArray) (v : Nat) (w : World) : Calls Tryd.prog 11 #[.int .u8 1, .string n, .float .f64 v] w fun e w' => e = .returned (.agg #[.int .u8 1, .string n, .string ⟨#[]⟩, .string ⟨#[]⟩, .string ⟨#[]⟩, .string ⟨#[]⟩, .float .f64 v, .int .i64 0]) ∧ Below w.heap.size w w' := of_el 1 n v w
/-- Two rows of elements of the call's own. -/
def Two (B : Nat) (w : World) (va vb : Value) (S T : List El) : Prop := w.ownsRow B 30 8 va S.length (cellsL S) ∧ w.ownsRow B 30 8 vb T.length (cellsL T) ∧ (va.ownBlock = none ∨ va.ownBlock ≠ vb.ownBlock)
theorem Two.symm {B : Nat} {w : World} {va vb : Value} {S T : List El} (h : Two B w va vb S T) : Two B w vb va T S := by
  refine ⟨h.2.1, h.1, ?_⟩
  rcases h.2.2 with h | h
  · rw [h]
    cases vb.ownBlock <;> simp
  · exact .inr (Ne.symm h)
theorem Two.below {B : Nat} {w w' : World} {va vb : Value} {S T : List El} (h : Two B w va vb S T) (hb : Below w.heap.size w w') : Two B w' va vb S T :=
  ⟨h.1.kept (grown_of_below hb) (own_none _), h.2.1.kept (grown_of_below hb) (own_none _), h.2.2⟩
theorem Two.app {B : Nat} {w w' : World} {va vb : Value} {S T : List El} {g c n : Nat} (h : Two B w va vb S T) (hg : w.grownBy w' va.ownBlock) (hat : va.ownBlock = some g ∨ g = w.heap.size) (e : El) (hn : n = S.length + 1)
    (hown : w'.ownsRow B 30 8 (.slice (some ⟨g, 0, none⟩) n c) n (cellsL S ++ elC e)) : Two B w' (.slice (some ⟨g, 0, none⟩) n c) vb (S ++ [e]) T := by
  subst hn
  refine ⟨by rw [List.length_append, cellsL_snoc]; exact hown, h.2.1.kept hg h.symm.2.2, ?_⟩
  right
  intro he
  have he2 : vb.ownBlock = some g := he.symm
  rcases hat with h1 | h1
  · rcases h.2.2 with h2 | h2
    · rw [h1] at h2; cases h2
    · rw [h1, he2] at h2; exact h2 rfl
  · have := (h.2.1.lt g he2).2
    omega
theorem Two.elsA {B : Nat} {w : World} {va vb : Value} {S T : List El} (h : Two B w va vb S T) : ElsAt w va S := ElsAt.of_owns h.1
theorem Sl.cu {w : World} {v : Value} {p : List Nat} (h : Sl w v (p.map U)) : ∃ a cap, v = .slice a p.length cap ∧ (∀ (k : Nat) (z : Nat), p[k]? = some z → ∃ b off, a = some ⟨b, off, none⟩ ∧ w.cell? ⟨b, off + k, none⟩ = some (.int .u64 z)) := by
  obtain ⟨a, cap, rfl, hr, hc, hl⟩ := h
  refine ⟨a, cap, by rw [List.length_map], fun k z hz => ?_⟩
  have hx : (p.map U)[k]? = some (U z) := by rw [List.getElem?_map, hz]; rfl
  obtain ⟨b, off, e, hcell⟩ := hr.at hx
  exact ⟨b, off, e, hcell k _ hx⟩
def gdR (S : List El) : Prop := ∀ e ∈ S, e.kind = 1 ∧ IsW e.v
theorem gdR_snoc {S : List El} {n : ByteArray} {v : Nat} (h : gdR S) (hv : IsW v) : gdR (S ++ [elO 1 n v]) := by
  intro e he
  rcases List.mem_append.1 he with he | he
  · exact h e he
  · rw [List.mem_singleton] at he
    subst he
    exact ⟨rfl, hv⟩
theorem inF_fault2 {S T : List El} {o : Option Nat} {r : CV × (Int × Int)} (hr : r = inF S T o) (h : r.2 ≠ (0, 0)) : r.1 = (val 0, val 0) := by
  subst hr
  exact inF_fault h
theorem inF_ok2 {S T : List El} {o : Option Nat} {r : CV × (Int × Int)} (hr : r = inF S T o) (hS : gdR S) (hT : gdR T) (h : r.2 = (0, 0)) : S.length = T.length ∧ 0 < S.length ∧ Final (S.getD 0 el0) (T.getD 0 el0) r.1 := by
  subst hr
  exact inF_ok hS hT h
def LrLoop (w : World) (n : Nat) (i va vb : Value) (wr : World) : Prop := ∃ (k : Nat) (S T : List El), i = .int .i64 (2 * (k : Int)) ∧ k ≤ 16 ∧ 2 * k ≤ n + 1 ∧ S.length = k ∧ T.length = k ∧ gdR S ∧ gdR T ∧ Two w.heap.size wr va vb S T ∧ Below w.heap.size w wr
set_option maxRecDepth 100000 in
set_option maxHeartbeats 4000000 in
theorem real_walk (vals : List Nat) (o : Nat) (vx : Value) (w : World) (hw : ∀ b ∈ vals, IsW b) (hx : Sl w vx (vals.map U)) (hn : vals.length ≤ 140737488355328) :
    Calls Tryd.prog 3 #[vx, .int .u64 o] w fun e w' => e = .returned (.bool true) ∧ Below w.heap.size w w' := by
  obtain ⟨iE, hiE, hz0, hz1, hz2⟩ := info_parts info_el
  go_enter Tryd.func3, Tryd.ntmps3
  go_wp2_with (go_at_call 10; refine (lives_any _).mono ?_; rintro E w1 ⟨rfl, hb⟩)
  replace hx := hx.below hb
  go_loopw [7, 5, 6] (fun i va vb w' => LrLoop w1 vals.length i va vb w') (fun i _ _ _ => vals.length + 1 - (intOf i).toNat)
  case atStart => exact ⟨0, [], [], rfl, by omega, by omega, rfl, rfl, (fun e h => by cases h), (fun e h => by cases h), ⟨World.ownsRow_nil _ _ _ _, World.ownsRow_nil _ _ _ _, .inl rfl⟩, Below.refl _ _⟩
  case round =>
    obtain ⟨k, S, T, rfl, hk, hkn, hS, hT, gS, gT, K, hbr⟩ := hrel
    obtain ⟨a, cap, rfl, hcx⟩ := (hx.below hbr).cu
    by_cases hc : 2 * k + 1 < vals.length ∧ k < 16
    · obtain ⟨h1, h2⟩ := hc
      have g1 : 2 * (k : Int) + 1 < (vals.length : Int) := by omega
      have g2 : 2 * (k : Int) < 32 := by omega
      obtain ⟨nm, hnm⟩ : ∃ nm, nm = strOfNums [97 + (k : Int)] := ⟨_, rfl⟩
      have hsz : nm.size = 1 := by rw [hnm, strOfNums_size]; rfl
      have hcv : (convert 26 9 (.slice (some ⟨wr.heap.size, 0, none⟩) 1 1)).run Tryd.prog (wr.alloc (.cells #[.int .u8 (97 + (k : Int))] 5)) = .ok (.string nm) (wr.alloc (.cells #[.int .u8 (97 + (k : Int))] 5)) := by
        rw [hnm]
        refine run_convert_bytes_arg (P := Tryd.prog) _ 26 5 Tryd.underlying26 Tryd.underlying5 wr.heap.size 0 1 1 [97 + (k : Int)] rfl (fun i hi => ?_) 9 Tryd.underlying9
        obtain rfl : i = 0 := by omega
        rw [World.cell?_alloc_new]
        rfl
      clear hnm
      obtain ⟨v1, hv1⟩ : ∃ z, vals[2 * k]? = some z := ⟨vals[2 * k]'(by omega), List.getElem?_eq_getElem (by omega)⟩
      obtain ⟨v2, hv2⟩ : ∃ z, vals[2 * k + 1]? = some z := ⟨vals[2 * k + 1]'(by omega), List.getElem?_eq_getElem (by omega)⟩
      obtain ⟨b, off, rfl, d1⟩ := hcx _ _ hv1
      obtain ⟨b', off', e0, d2⟩ := hcx _ _ hv2
      cases e0
      have IW := hid (And.intro (hw _ (List.mem_of_getElem? hv1)) (hw _ (List.mem_of_getElem? hv2)))
      have HV := hid hv2
      clear hcx hv1 hv2 d2
      go_upto_region 8 with (fail)
      obtain ⟨wa, hwa⟩ : ∃ wa, wa = wr.alloc (.cells #[.int .u8 (97 + (k : Int))] 5) := ⟨_, rfl⟩
      rw [← hwa]
      have ba : Below wr.heap.size wr wa := by rw [hwa]; exact bla _ (Below.refl _ _)
      clear hwa hcv
      go_cut [5] from 33 to 43 (fun v wx => Two w1.heap.size wx v u6 (S ++ [elO 1 (⟨#[82]⟩ ++ nm) v1]) T ∧ Below w1.heap.size w1 wx)
      case first =>
        have hlt := World.block_lt_of_cell? _ _ d1
        replace d1 := (ba.cell (p := ⟨b, off + 2 * k, none⟩) hlt).trans d1
        replace K := K.below ba
        go_wp2_with (first | (go_at_call 11; refine (of_elR _ _ _).mono ?_; rintro E w2 ⟨rfl, hb2⟩; replace K := (K.below hb2).below (bla (.cells (elC (elO 1 (⟨#[82]⟩ ++ nm) v1)).toArray 30) (Below.refl _ _)); have hnew := cells_new w2 (elC (elO 1 (⟨#[82]⟩ ++ nm) v1)) 30; have hzz := hb2.size; have own1 := K.1) | (at_builtin; go_loud (refine wpList_append_lies _ rfl _ _ 25 rfl w1.heap.size 30 iE _ 8 104 Tryd.underlying25 hiE hz0 hz1 hz2 rfl (by decide) u5 k (cellsL S) rfl (by rw [← hS]; exact own1) ⟨w2.heap.size, 0, none⟩ 1 1 (elC (elO 1 (⟨#[82]⟩ ++ nm) v1)) rfl rfl (by exact hnew) (by simp [elC, Value.oneCell']) (by decide) (by unfold maxLen; omega) (by omega) (by have h7 := hbr.size; have h8 := ba.size; simp; omega) _ rfl ?_; intro g2 cap2 w7 hown7 hg7 hat7 hlt7)))
        go_meet
        exact ⟨K.app (by exact hg7) hat7 _ (by rw [hS]) hown7, Below.grown (bla _ (bl2 (bl2 hbr ba) hb2)) hg7 (by have h7 := hbr.size; have h8 := ba.size; simp; omega) (fun k hk => (own1.lt k hk).1)⟩
      obtain ⟨K2, hbn⟩ := hcut
      clear K hbr d1 ba
      obtain ⟨a3, cap3, e3, hcx⟩ := (hx.below hbn).cu
      obtain ⟨b3, off3, e4, d2⟩ := hcx _ _ HV.out
      cases e3
      cases e4
      clear hcx
      go_upto_region 9 with (fail)
      have K := K2
      have hbr := hbn
      clear K2 hbn
      go_wp2_with (first | (go_at_call 11; refine (of_elR _ _ _).mono ?_; rintro E w2 ⟨rfl, hb2⟩; replace K := (K.below hb2).below (bla (.cells (elC (elO 1 (⟨#[82]⟩ ++ nm ++ ⟨#[116]⟩) v2)).toArray 30) (Below.refl _ _)); have hnew := cells_new w2 (elC (elO 1 (⟨#[82]⟩ ++ nm ++ ⟨#[116]⟩) v2)) 30; have hzz := hb2.size; have own1 := K.2.1) | (at_builtin; go_loud (refine wpList_append_lies _ rfl _ _ 25 rfl w1.heap.size 30 iE _ 8 104 Tryd.underlying25 hiE hz0 hz1 hz2 rfl (by decide) u6 k (cellsL T) rfl (by rw [← hT]; exact own1) ⟨w2.heap.size, 0, none⟩ 1 1 (elC (elO 1 (⟨#[82]⟩ ++ nm ++ ⟨#[116]⟩) v2)) rfl rfl (by exact hnew) (by simp [elC, Value.oneCell']) (by decide) (by unfold maxLen; omega) (by omega) (by have h7 := hbr.size;  simp; omega) _ rfl ?_; intro g2 cap2 w7 hown7 hg7 hat7 hlt7)))
      have K3 := (K.symm.app (w' := w7) (by exact hg7) hat7 _ (by rw [hT]) hown7).symm
      have hbm : Below w1.heap.size w1 w7 := Below.grown (bla _ (bl2 hbr hb2)) hg7 (by have h7 := hbr.size; simp; omega) (fun k hk => (own1.lt k hk).1)
      clear hg7 hown7 hat7 hlt7 own1 hnew K
      go_roundw
      case rel => exact ⟨k + 1, _, _, by go_num, by omega, by omega, by rw [List.length_append, hS]; rfl, by rw [List.length_append, hT]; rfl, gdR_snoc gS IW.out.1, gdR_snoc gT IW.out.2, K3, hbm⟩
      case measure => simp [intOf] <;> omega
    · have hcs : (¬ 2 * (k : Int) + 1 < (vals.length : Int)) ∨ (2 * (k : Int) + 1 < (vals.length : Int) ∧ ¬ 2 * (k : Int) < 32) := by omega
      have HE1 := K.elsA
      have HE2 := K.symm.elsA
      have HI := hid (Input_any S T (fun e he => ⟨by rw [(gS e he).1]; omega, (gS e he).2⟩) (fun e he => ⟨by rw [(gT e he).1]; omega, (gT e he).2⟩) o u5 u6 wr HE1 HE2)
      obtain ⟨r, hr⟩ : ∃ r, r = inF S T (val o) := ⟨_, rfl⟩
      rw [← hr] at HI
      have hbw : Below w.heap.size w wr := hb.trans (hbr.mono hb.size)
      clear hcx hx hc hbr hb hkn
      obtain ⟨sa, sc, rfl⟩ := HE1.form
      obtain ⟨ta, tc, rfl⟩ := HE2.form
      by_cases hf : r.2 = (0, 0)
      · obtain ⟨hl, hp, F⟩ := inF_ok2 hr gS gT hf
        obtain ⟨rc, rf⟩ := r
        dsimp only at hf F
        subst hf
        obtain ⟨s0, hs0⟩ : ∃ z, S[0]? = some z := ⟨S[0]'hp, List.getElem?_eq_getElem hp⟩
        obtain ⟨t0, ht0⟩ : ∃ z, T[0]? = some z := ⟨T[0]'(by omega), List.getElem?_eq_getElem (by omega)⟩
        rw [List.getD_eq_getElem?_getD, List.getD_eq_getElem?_getD, hs0, ht0] at F
        dsimp only [Option.getD_some] at F
        obtain ⟨a1, p1, e1, r1⟩ := HE1
        obtain ⟨a2, p2, e2, r2⟩ := HE2
        cases e1
        cases e2
        obtain ⟨b1, off1, rfl, c1⟩ := r1 0 s0 hs0
        obtain ⟨b2, off2, rfl, c2⟩ := r2 0 t0 ht0
        have d1 := c1 6 _ rfl
        have d2 := c2 6 _ rfl
        rw [Nat.zero_mul, Nat.add_zero] at d1 d2
        have lt1 := World.block_lt_of_cell? _ _ d1
        have lt2 := World.block_lt_of_cell? _ _ d2
        have hsl : ((S.length : Int) == 0) = false := by rw [beq_eq_false_iff_ne]; omega
        have hp1 : (0 : Int) < (S.length : Int) := by omega
        have hp2 : (0 : Int) < (T.length : Int) := by omega
        have HF := hid F
        clear hr hS hT gS gT K r1 r2 c1 c2 hs0 ht0 F hl hp
        rcases hcs with g1 | ⟨g1, g2⟩
        all_goals
          go_wp2_with (go_at_call 13; (with_reducible refine HI.out.mono ?_); rintro E w2 ⟨x, y, rfl, hk2, hq, -, -⟩; dsimp only at hq; have F2 := HF.out; rw [← hq] at F2; obtain ⟨q1, q2, q3⟩ := F2.law; replace d1 := (hk2.cell (p := ⟨b1, off1 + 6, none⟩) lt1).trans d1; replace d2 := (hk2.cell (p := ⟨b2, off2 + 6, none⟩) lt2).trans d2; clear hq F2)
          obtain ⟨w3, hw3⟩ : ∃ w3, w3 = w2.alloc (.cells #[.int .i64 0, .int .i64 0] 36) := ⟨_, rfl⟩
          rw [← hw3]
          have b3 : Below w2.heap.size w2 w3 := by rw [hw3]; exact bla _ (Below.refl _ _)
          have lt3 := World.block_lt_of_cell? _ _ d1
          have lt4 := World.block_lt_of_cell? _ _ d2
          replace d1 := (b3.cell (p := ⟨b1, off1 + 6, none⟩) lt3).trans d1
          replace d2 := (b3.cell (p := ⟨b2, off2 + 6, none⟩) lt4).trans d2
          unfold one at q3
          clear hw3 lt1 lt2 lt3 lt4 hsl g1 HF HI
          go_quiet (fail)
          go_wp2_with (first | ((with_reducible refine upon_fadd ?_); intro r n hr hl) | ((with_reducible refine upon_fsub ?_); intro r n hr hl) | ((with_reducible refine upon_fmul ?_); intro r n hr hl) | ((with_reducible refine upon_fdiv ?_); intro r n hr hl) | ((with_reducible refine upon_fmax (by assumption) (by assumption) ?_); intro r n hr hl) | ((with_reducible refine upon_fmin (by assumption) (by assumption) ?_); intro r n hr hl))
          go_ret
          exact ⟨rfl, below_drewN' (((hbw.trans (hk2.mono hbw.size)).trans (b3.mono (by have := hbw.size; have := hk2.size; omega)))) _⟩
      · have h0 : r.1 = (val 0, val 0) := inF_fault2 hr hf
        obtain ⟨rc, fe, fa⟩ := r
        dsimp only at h0 hf
        clear hr HE1 HE2 hS hT gS gT K
        have q0 : feq (val 0) (val 0) = true := by decide +kernel
        have H0 := hid h0
        have hfs : (fe = 0 ∧ fa ≠ 0) ∨ fe ≠ 0 := by
          by_cases h : fe = 0
          · left
            refine ⟨h, fun h2 => hf ?_⟩
            rw [h, h2]
          · exact .inr h
        clear h0 hf
        rcases hcs with g1 | ⟨g1, g2⟩
        all_goals
          rcases hfs with ⟨rfl, g4⟩ | g4
          all_goals
            go_wp2_with (go_at_call 13; (with_reducible refine HI.out.mono ?_); rintro E w2 ⟨x, y, rfl, hk2, hq, -, -⟩; obtain ⟨hvx, hvy⟩ := Prod.mk.inj (hq.trans H0.out); clear hq)
            go_ret
            exact ⟨rfl, (hbw.trans (hk2.mono hbw.size)).alloc (by have := hbw.size; have := hk2.size; omega) _⟩
end Go.Proofs.YtjpimgdmlieinaaDoor
